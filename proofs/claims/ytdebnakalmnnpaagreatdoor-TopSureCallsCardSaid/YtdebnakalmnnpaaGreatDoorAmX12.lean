/- Several texts, one behind the other. -/
import Derived.Test.YtdebnakalmnnpaaGreatDoorAmVal
import Derived.Test.YtdebnakalmnnpaaGreatDoorAmClose
section
namespace Go.Am
structure OB(b:Bool)(K:Bool->Prop):Prop where
 h:K b
theorem bBz{b:Bool}{K:Bool->Prop}(h:OB b K):K b:=h.h
theorem ob2{b:Bool}{K:Bool->Prop}(ht:b=true->K true)(hf:b=false->K false):OB b K:=by
 cases b with
 |true=>exact⟨ht rfl⟩
 |false=>exact⟨hf rfl⟩
def aNw(x:D)(K:D->Prop):Prop:=match x with
 | .lit v=>K (.lit v)| .sl k r=>K (.sl k r)| .sn k r=>K (.sn k r)| .mp a e=>K (.mp a e)| .pt xs=>K (.pt xs)| .hv q h j=>K (.hv q h j)| .fc m f xs=>K (.fc m f xs)
def frc(v:AV)(K:AV->Prop):Prop:=match v with
 | .any=>K .any| .d x=>aNw x λx=>K (.d x)| .agg xs=>K (.agg xs)| .cp xs=>K (.cp xs)| .bp b o j=>K (.bp b o j)| .ep v k i c=>K (.ep v k i c)
 | .tup vs=>K (.tup vs)| .fn f c=>K (.fn f c)| .mf f c=>K (.mf f c)| .fl n k r=>K (.fl n k r)
def bHn:List D->(List D->Prop)->Prop
 |[],K=>K []
 |x::l,K=>aNw x λx=>bHn l λl=>K (x::l)
theorem aYq{x:D}{K:D->Prop}(h:aNw x K):K x:=by cases x<;>exact h
theorem aAx{x:AV}{K:AV->Prop}(h:frc x K):K x:=by
 cases x with
 |d x=>exact aYq (K:=λx=>K (.d x)) h
 |_=>exact h
theorem bHo:∀{l:List D} {K:List D->Prop},bHn l K->K l
 |[],_,h=>h
 |x::_,K,h=>bHo (K:=λl=>K (x::l)) (aYq (K:=λx=>bHn _ λl=>K (x::l)) h)
def tdK:Nat->Nat->List D->(List D->Prop)->Prop
 |0,_,_,K=>K []
 |_+1,_,[],_=>False
 |m+1,0,x::l,K=>aNw x λx=>tdK m 0 l λes=>K (x::es)
 |m+1,j+1,_::l,K=>tdK (m+1) j l K
theorem aBf:∀{m j:Nat} {ds:List D} {K:List D->Prop},tdK m j ds K->((ds.drop j).take m).length=m/\K ((ds.drop j).take m)
 |0,_,_,_,h=>⟨by simp,by simpa[tdK] using h⟩
 |_+1,_,[],_,h=>by simp[tdK] at h
 | m+1,0,x::l,K,h=>by
  simp only[tdK] at h;have:=aBf (K:=λes=>K (x::es)) (aYq (K:=λx=>tdK m 0 l λes=>K (x::es)) h)
  simpa using this
 | m+1,j+1,x::l,K,h=>by
  simp only[tdK] at h
  simpa using aBf h
def ptK:Nat->List D->List D->(List D->Prop)->Prop
 |_,[],ds,K=>K ds
 |_,_::_,[],_=>False
 |0,e::es,_::ds,K=>aNw e λe=>ptK 0 es ds λr=>K (e::r)
 |j+1,e::es,x::ds,K=>ptK j (e::es) ds λr=>K (x::r)
theorem bQd:∀{j:Nat} {es ds:List D} {K:List D->Prop},j<=ds.length->ptK j es ds K->j+es.length<=ds.length/\K (fU ds j es)
 | j,[],ds,K,hj,h=>by
  simp only[ptK] at h;refine⟨by simpa using hj,?_⟩
  simpa[fU] using h
 |_,_::_,[],_,_,h=>by simp[ptK] at h
 | 0,e::es,x::ds,K,_,h=>by
  simp only[ptK] at h;have:=bQd (j:=0) (K:=λr=>K (e::r)) (by omega) (aYq (K:=λe=>ptK 0 es ds λr=>K (e::r)) h);refine⟨by simp at this|-;omega,?_⟩;have h2:=this.2
  simp[fU] at h2|-
  exact h2
 | j+1,e::es,x::ds,K,hj,h=>by
  simp only[ptK] at h;have:=bQd (j:=j) (K:=λr=>K (x::r)) (by simp at hj;omega) h;refine⟨by simp at this|-;omega,?_⟩;have h2:=this.2;simp only[fU,List.take_succ_cons,List.cons_append] at h2|-;rw[show j+1+(e::es).length=(j+(e::es).length)+1 by omega,List.drop_succ_cons];exact h2
theorem uZ{k k':IntKind}(h:Nat.beq k.ctorIdx k'.ctorIdx=true):k=k':=by
 have:=Nat.eq_of_beq_eq_true h;cases k<;>cases k'<;>first|rfl|simp[IntKind.ctorIdx] at this
section
variable{P:Program}(T:TT P)(n:Nat)(ow:List Nat)(S:VS)(o:Oper)(d:Nat)
def aAb(x:Operand)(K:Eff->Prop):Prop:=bif cD x then frc (S.ev x) λv=>K (.p v) else False
def bHf(t:Nat)(K:Nat->Nat->Nat->Prop):Prop:=match T.ty.get t with
 | some (_,.slice e)=>match T.ty.get e with
  |some (j,_)=>K e j.size j.bytes
  |none=>False
 |_=>False
def bFp(x:Operand)(K:Eff->Prop):Prop:=match x with
 | .const (.slice none 0 0)=>bHf T o.type λe k _=>bif aV d ow&&!(lW d S) then K ⟨.d (.hv 0 d 0),[(d,some (.arr e k []))],[],[d]⟩ else K (.p (.d (.sl k [])))
 |x=>aAb S x K
def aPr(c x y:Operand)(K:Eff->Prop):Prop:=match S.ev c with
 | .d (.lit (.bool b))=>OB b λb=>match b with|true=>aAb S x K|false=>aAb S y K
 |_=>False
def bYu[Mode](op:BinOp)(k k':IntKind)(p q:Int)(K:Eff->Prop):Prop:=match op with
 | .add=>bif Nat.beq k.ctorIdx k'.ctorIdx then K (.p (.d (.lit (.int k (k.wrap (p+q)))))) else False
 | .sub=>bif Nat.beq k.ctorIdx k'.ctorIdx then K (.p (.d (.lit (.int k (k.wrap (p-q)))))) else False
 | .mul=>bif Nat.beq k.ctorIdx k'.ctorIdx then K (.p (.d (.lit (.int k (k.wrap (p*q)))))) else False
 | .lss=>bif Nat.beq k.ctorIdx k'.ctorIdx then K (.p (.b (decide (p<q)))) else False
 | .leq=>bif Nat.beq k.ctorIdx k'.ctorIdx then K (.p (.b (decide (p<=q)))) else False
 | .gtr=>bif Nat.beq k.ctorIdx k'.ctorIdx then K (.p (.b (decide (q<p)))) else False
 | .geq=>bif Nat.beq k.ctorIdx k'.ctorIdx then K (.p (.b (decide (q<=p)))) else False
 | .eql=>bif Nat.beq k.ctorIdx k'.ctorIdx then K (.p (.b (decide (p=q)))) else False
 | .neq=>bif Nat.beq k.ctorIdx k'.ctorIdx then K (.p (.b (!decide (p=q)))) else False
 | .quo=>bif Nat.beq k.ctorIdx k'.ctorIdx then q≠0/\K (.p (.d (.lit (.int k (k.wrap (p.tdiv q)))))) else False
 | .rem=>bif Nat.beq k.ctorIdx k'.ctorIdx then q≠0/\K (.p (.d (.lit (.int k (p.tmod q))))) else False
 | .shl=>0<=q/\K (.p (.d (.lit (.int k (k.wrap (p*2^(min q.toNat k.bits)))))))
 | .shr=>0<=q/\K (.p (.d (.lit (.int k (p.fdiv (2^(min q.toNat k.bits)))))))
 |_=>cA P n o S K
def bYp[Mode](op:BinOp)(t:Nat)(x y:Operand)(K:Eff->Prop):Prop:=match S.ev x,S.ev y with
 | .d (.lit (.int k p)),.d (.lit (.int k' q))=>bYu (P:=P) n S o op k k' p q K
 |_,_=>cA P n o S K
def xun[Mode](op:UnOp)(x:Operand)(K:Eff->Prop):Prop:=match op,S.ev x with
 | .not,.d (.lit (.bool b))=>K (.p (.b (!b)))
 | .neg,.d (.lit (.int k p))=>K (.p (.d (.lit (.int k (k.wrap (-p))))))
 |_,_=>cA P n o S K
def aWi:List Field->Nat->Option Field
 |[],_=>none
 |f::_,0=>some f
 |_::l,i+1=>aWi l i
theorem bBy:∀{l:List Field} {i:Nat},aWi l i=l[i]?
 |[],_=>by simp[aWi]
 |_::_,0=>by simp[aWi]
 |_::l,i+1=>by simp[aWi,bBy (l:=l)]
def bYs(t:Nat)(x:Operand)(f:Nat)(K:Eff->Prop):Prop:=match T.ty.get t with
 | some (_,.struct fs)=>match aWi fs.toList f with
  | some fd=>match T.ty.get fd.type with
   | some (j,_)=>bif Nat.ble 1 j.size then(match S.ev x with
     | .bp h _ i=>K (.p (.bp h 0 (Nat.add i fd.offset)))
     | .cp ds=>tdK j.size fd.offset ds λes=>K (.p (.cp es))
     | .ep (.map (some q)) k i c=>K (.p (.ep (.map (some q)) k i (Nat.add c fd.offset)))
     |_=>False) else False
   |none=>False
  |none=>False
 |_=>False
def bYx[Mode](x:Operand)(K:Eff->Prop):Prop:=match S.ev x with
 | .cp ds=>K (.p (.cp ds))
 | .bp h _ j=>K (.p (.bp h 0 j))
 |_=>cA P n o S K
def one1(es:List D)(K:D->Prop):Prop:=match es with
 |[x]=>K x
 |_=>False
def ldA:D->AV
 | .pt xs=>.cp xs
 | .hv q h j=>match q with
  |2=>.bp h 0 j
  |_=>.d (.hv q h j)
 |x=>.d x
def ldK(x:D)(K:AV->Prop):Prop:=match x with
 | .pt xs=>K (.cp xs)
 | .hv q h j=>match q with
  |2=>K (.bp h 0 j)
  |_=>K (.d (.hv q h j))
 |x=>K (.d x)
theorem bZj{x:D}{K:AV->Prop}(h:ldK x K):K (ldA x):=by
 cases x with
 | hv q g j=>
  match q,h with
  |0,h=>exact h
  |1,h=>exact h
  |2,h=>exact h
  |q+3,h=>exact h
 |_=>exact h
def cCx:AV->Option (List D)
 | .bp h _ j=>some [.hv 2 h j]
 | .cp xs=>some [.pt xs]
 |v=>v.cells
def bRf[Mode](t:Nat)(x:Operand)(K:Eff->Prop):Prop:=match T.ty.get t with
 | some (i,td)=>match S.ev x with
  | .cp ds=>bif aEj td then tdK i.size 0 ds λes=>K (.p (.agg es)) else bif Nat.beq i.size 1 then tdK 1 0 ds λes=>one1 es λx=>ldK x λv=>K (.p v) else False
  | .bp h _ j=>match ob S.objs h with
   |some (.box ds)=>bif aEj td then tdK i.size j ds λes=>K (.r (.agg es) [h]) else bif Nat.beq i.size 1 then tdK 1 j ds λes=>one1 es λx=>ldK x λv=>K (.r v [h]) else False
   |_=>cA P n o S K
  | .ep (.map (some h)) kk r c=>match ob S.objs h with
   |some (.arr _ k rows)=>Nat.beq kk k=true/\∃ds,rows[r]?=some ds/\(bif aEj td then tdK i.size c ds λes=>K (.r (.agg es) [h]) else bif Nat.beq i.size 1 then tdK 1 c ds λes=>one1 es λx=>K (.r (.d x) [h]) else False)
   |_=>cA P n o S K
  |_=>cA P n o S K
 |none=>False
def hvD:D->Bool
 | .hv .. =>true
 |_=>false
def bPn(y:Operand)(l es:List D):List D:=match y with
 | .const (.slice none 0 0)=>(match l with
  | .sl k _::_=>[.sl k []]
  |_=>es)
 |_=>es
def bKk[Mode](t:Nat)(x y:Operand)(K:Eff->Prop):Prop:=match T.ty.get t with
 | some (i,_)=>bif cD y then(match(S.ev y).cells with
  | some es=>bif Nat.beq es.length i.size&&Nat.ble 1 i.size then(match S.ev x with
   | .bp h _ j=>match ob S.objs h with
    |some (.box ds)=>bif Nat.ble j ds.length then ptK j (bPn y (ds.drop j) es) ds λds'=>K ⟨.any,[(h,some (.box ds'))],[h],[]⟩ else False
    |_=>cA P n o S K
   | .ep (.map (some h)) kk r c=>match ob S.objs h with
    |some (.arr e k rows)=>bif es.any hvD then False else Nat.beq kk k=true/\∃ds rows',rows[r]?=some ds/\c+es.length<=ds.length/\rows.set r (fU ds c es)=rows'/\K ⟨.any,[(h,some (.arr e k rows'))],[h],[]⟩
    |_=>cA P n o S K
   |_=>cA P n o S K) else False
  |none=>False) else False
 |none=>False
def cDk(g:Nat->Nat->Option Nat):List Field->Nat->Option Nat
 |[],_=>none
 | f::l,j=>match T.ty.get f.type with
  |some (i,_)=>bif Nat.ble f.offset j&&Nat.ble (Nat.succ j) (Nat.add f.offset i.size) then g f.type (Nat.sub j f.offset) else cDk g l j
  |none=>none
def bZc:Nat->Nat->Nat->Option Nat
 |0,_,_=>none
 | m+1,t,j=>match T.ty.get t with
  |some (_,.slice e)=>some e
  |some (_,.struct fs)=>cDk T (bZc m) fs.toList j
  |_=>none
def bHe(t j:Nat):Option Nat:=bZc T 5 t j
def bCe(f:Nat->Option Nat):Nat->List D->List (Nat×Nat×Nat)
 |_,[]=>[]
 | j,x::l=>bif aV (100000*(j+1)+d) ow then(match x,f j with
  | .sl k [],some e=>(j,k,e)::bCe f (j+1) l
  |_,_=>bCe f (j+1) l) else bCe f (j+1) l
def aSq:Nat->List D->List D
 |_,[]=>[]
 | j,x::l=>(bif aV (100000*(j+1)+d) ow then(match x with
  | .sl _ []=>.lit (.slice none 0 0)
  |x=>x) else x)::aSq (j+1) l
def bPd:Option D->Bool
 |some (.lit (.slice none 0 0))=>true
 |_=>false
def bPt:List (Nat×Nat×Nat)->List D->List (Nat×Option VO)->List Nat->(Eff->Prop)->Prop
 |[],zs,ch,nw,K=>K ⟨.bp d 0 0,ch++[(d,some (.box zs))],[],nw⟩
 | (j,k,e)::c,zs,ch,nw,K=>bif bPd zs[j]?&&!(aDh (1000*(j+1)+d) ⟨.bp d 0 0,ch++[(d,some (.box zs))],[],nw⟩) then
   bPt c (zs.set j (.hv 0 (1000*(j+1)+d) 0)) (ch++[(1000*(j+1)+d,some (.arr e k []))]) ((1000*(j+1)+d)::nw) K else False
def bKh(t:Nat)(K:Eff->Prop):Prop:=match T.zr.get t with
 | some zs=>bif aV (d+30000) ow then(bif (aSq ow d 0 zs).any (aBp d) then False else bPt d (bCe ow d (bHe T t) 0 zs) (aSq ow d 0 zs) [] [d] K)
  else bif lW d S then(bif zs.any (aBp (Nat.add 70000 d)) then False else K ⟨.bp (Nat.add 70000 d) 0 0,[(Nat.add 70000 d,some (.box zs))],[],[Nat.add 70000 d]⟩) else bif zs.any (aBp d) then False else K ⟨.bp d 0 0,[(d,some (.box zs))],[],[d]⟩
 |none=>False
def bYq(x:Operand)(K:Eff->Prop):Prop:=bif cD x then(match cCx (S.ev x) with
 |some ds=>bHn ds λds=>bif ds.any (aBp d) then False else K ⟨.bp d 0 0,[(d,some (.box ds))],[],[d]⟩
 |none=>False) else False
def bBx:List AV->Nat->Option AV
 |[],_=>none
 |f::_,0=>some f
 |_::l,i+1=>bBx l i
theorem bMy:∀{l:List AV} {i:Nat},bBx l i=l[i]?
 |[],_=>by simp[bBx]
 |_::_,0=>by simp[bBx]
 |_::l,i+1=>by simp[bBx,bMy (l:=l)]
def xZ:AV->Bool
 | .tup _=>false
 | .fn _ _=>false
 | .mf _ _=>false
 |_=>true
def aQs:List AV->Bool
 |[]=>true
 |v::l=>xZ v&&aQs l
def bRe[Mode](x:Operand)(i:Nat)(K:Eff->Prop):Prop:=match S.ev x with
 | .tup vs=>match bBx vs i with
  |some v=>bif xZ v then frc v λv=>K (.p v) else False
  |none=>False
 |_=>cA P n o S K
def bIs:List Field->Option (List (Nat×Nat))
 |[]=>some []
 | f::l=>match T.ty.get f.type,bIs l with
  |some (j,_),some r=>some ((f.offset,j.size)::r)
  |_,_=>none
def bIo:List (Nat×Nat×Nat)->List D->List (Nat×Option VO)->List Nat->(Eff->Prop)->Prop
 |[],xs,ch,nw,K=>K ⟨.agg xs,ch,[],nw⟩
 | (j,k,e)::c,xs,ch,nw,K=>bif bPd xs[j]?&&!(aDh (1000*(j+1)+d) ⟨.agg xs,ch,[],nw⟩) then
   bIo c (xs.set j (.hv 0 (1000*(j+1)+d) 0)) (ch++[(1000*(j+1)+d,some (.arr e k []))]) ((1000*(j+1)+d)::nw) K else False
def bKi[Mode](t:Nat)(l:List (Nat×Operand))(K:Eff->Prop):Prop:=match T.ty.get t,T.zr.get t with
 | some (_,.struct fs),some zs=>match bIs T fs.toList with
  | some pl=>bif xH l then(match aAw (λi=>pl[i]?) (bif aV (d+30000) ow then aSq ow d 0 zs else zs) (St.parts ⟨λk=>lk S.env k,[]⟩ l) with
   |some es=>bHn es λes=>bif aV (d+30000) ow then bIo d (bCe ow d (bHe T t) 0 zs) es [] [] K else K (.p (.agg es))
   |none=>cA P n o S K) else False
  |none=>False
 |_,_=>cA P n o S K
def aQu(k:Nat):List (List D)->Bool
 |[]=>true
 |r::l=>Nat.beq r.length k&&(!(r.any hvD)&&aQu k l)
def bYw(t len:Nat)(l:List (Nat×Operand))(K:Eff->Prop):Prop:=match T.ty.get t with
 | some (_,.slice e)=>match T.ty.get e with
  | some (j,_)=>bif Nat.ble 1 j.size&&(xH l&&Nat.ble (len*j.size) 16777216) then(match rT 0 (St.parts ⟨λk=>lk S.env k,[]⟩ l) with
    |some rows=>bif aQu j.size rows&&Nat.beq rows.length len then(bif aV d ow then K ⟨.d (.hv 0 d 0),[(d,some (.arr e j.size rows))],[],[d]⟩ else bif aV (d+10000) ow then K (.p (.fl true j.size rows)) else K (.p (.d (.sl j.size rows)))) else False
    |none=>False) else False
  |none=>False
 |_=>False
structure bOc(rows:List (List D))(p:Int)(K:List D->Prop):Prop where
 h:∃ds,idx rows p=some ds/\K ds
structure bFx(rows:List (List D))(K:Int->Prop):Prop where
 h:∃m:Int,(rows.length:Int)=m/\K m
structure bVh(k bytes:Nat)(rows rows2:List (List D))(K:List (List D)->Prop):Prop where
 h:∃zs,app bytes rows rows2=some zs/\(∀r∈rows2,r.length=k)/\K zs
structure bFy(rows:List (List D))(lo hi:Int)(K:List (List D)->Prop):Prop where
 h:∃es,sub rows lo hi=some es/\K es
structure OMk(bytes:Nat)(zs:List D)(m m':Int)(K:List (List D)->Prop):Prop where
 h:m=m'/\∃rows,mk bytes m zs=some rows/\K rows
def bRg(t:Nat)(x y:Operand)(K:Eff->Prop):Prop:=match T.ty.get t with
 | some (_,.slice e)=>match T.ty.get e,T.zr.get e with
  | some (j,_),some zs=>bif Nat.ble 1 j.size&&Nat.ble 1 j.bytes then(match S.ev x,S.ev y with
   | .d (.lit (.int _ m)),.d (.lit (.int _ m'))=>OMk j.bytes zs m m' λrows=>K ⟨.d (.hv 0 d 0),[(d,some (.arr e j.size rows))],[],[d]⟩
   |_,_=>False) else False
  |_,_=>False
 |_=>False
def aFd(t:Nat)(K:Nat->Nat->Prop):Prop:=match T.ty.get t with
 | some (_,.slice e)=>match T.ty.get e with
  |some (j,_)=>K e j.size
  |none=>False
 |_=>False
def bYt[Mode](t:Nat)(x y:Operand)(K:Eff->Prop):Prop:=match S.ev x,S.ev y with
 | .d (.sl k rows),.d (.lit (.int _ p))=>aFd T t λ_ k'=>bif Nat.beq k k' then bOc rows p λds=>K (.p (.cp ds)) else False
 | .d (.hv 0 h _),.d (.lit (.int _ p))=>match ob S.objs h with
  |some (.arr _ k rows)=>aFd T t λ_ k'=>bif Nat.beq k k' then bOc rows p λ_=>K (.r (.ep (.map (some h)) k p.toNat 0) [h]) else False
  |_=>cA P n o S K
 |_,_=>cA P n o S K
def bYv[Mode](x:Operand)(t:Nat)(K:Eff->Prop):Prop:=match S.ev x with
 | .d (.sl _ rows)=>aFd T t λ_ _=>bFx rows λm=>K (.p (.i m))
 | .d (.hv 0 h _)=>match ob S.objs h with
  |some (.arr _ _ rows)=>aFd T t λ_ _=>bFx rows λm=>K (.r (.i m) [h])
  |_=>cA P n o S K
 |_=>cA P n o S K
def bCv[Mode](x y:Operand)(t:Nat)(K:Eff->Prop):Prop:=match S.ev x,S.ev y with
 | .d (.hv 0 h _),.d (.sl k rows2)=>match ob S.objs h with
  | some (.arr e k' rows)=>match T.ty.get t with
   | some (_,.slice e2)=>match T.ty.get e2 with
    |some (j,_)=>bif Nat.ble 1 j.size&&(Nat.ble 1 j.bytes&&(Nat.beq k j.size&&(Nat.beq k' k&&Nat.beq e e2))) then bVh k j.bytes rows rows2 λzs=>bif aV (d+20000) ow then K ⟨.d (.sl k zs),[(h,none)],[h],[]⟩ else K ⟨.d (.hv 0 d 0),[(h,none),(d,some (.arr e k zs))],[h],[d]⟩ else False
    |none=>False
   |_=>False
  |_=>cA P n o S K
 | .fl _ k' rows,.d (.sl k rows2)=>match T.ty.get t with
  | some (_,.slice e)=>match T.ty.get e with
   |some (j,_)=>bif Nat.ble 1 j.size&&(Nat.ble 1 j.bytes&&(Nat.beq k j.size&&(Nat.beq k' k&&aQu k rows))) then bVh k j.bytes rows rows2 λzs=>K (.p (.d (.sl k zs))) else False
   |none=>False
  |_=>False
 |_,_=>cA P n o S K
def bKj[Mode](t:Nat)(x:Operand)(lo hi:Option Operand)(K:Eff->Prop):Prop:=match S.ev x with
 | .d (.sl k rows)=>aFd T t λ_ k'=>bif Nat.beq k k' then(match lo,hi with
  |none,none=>bFx rows λm=>bFy rows 0 m λes=>K (.p (.d (.sl k es)))
  | some a,none=>match S.ev a with
   | .d (.lit (.int _ p))=>bFx rows λm=>bFy rows p m λes=>K (.p (.d (.sl k es)))
   |_=>False
  | none,some b=>match S.ev b with
   | .d (.lit (.int _ q))=>bFy rows 0 q λes=>K (.p (.d (.sl k es)))
   |_=>False
  | some a,some b=>match S.ev a,S.ev b with
   | .d (.lit (.int _ p)),.d (.lit (.int _ q))=>bFy rows p q λes=>K (.p (.d (.sl k es)))
   |_,_=>False) else False
 |_=>cA P n o S K
def evL:List Operand->(List AV->Prop)->Prop
 |[],K=>K []
 |x::l,K=>frc (S.ev x) λv=>evL l λvs=>K (v::vs)
def xfn[Mode](f:Go.Fn)(first caps:List Operand)(K:Eff->Prop):Prop:=match f,first with
 | .func f,[]=>bif iN caps then evL S caps λvs=>bif aQs vs then K (.p (.fn f vs)) else cA P n o S K else False
 |_,_=>cA P n o S K
def bRd[Mode](t u:Nat)(x:Operand)(K:Eff->Prop):Prop:=match T.ty.get t,T.ty.get u,S.ev x with
 |some _,some (_,.int k'),.d (.lit (.int _ p))=>K (.p (.d (.lit (.int k' (k'.wrap p)))))
 |_,_,_=>cA P n o S K
def bVf[Mode](b:Builtin)(args:List Operand)(ts:List TypeId)(K:Eff->Prop):Prop:=match b,args,ts with
 | .len,[x],[t]=>bYv T n S o x t K
 | .append,[x,y],[t,u]=>bif Nat.beq t u then bCv T n ow S o d x y t K else cA P n o S K
 |_,_,_=>cA P n o S K
def xfv[Mode](t:Nat)(x:Operand)(f:Nat)(K:Eff->Prop):Prop:=match T.ty.get t with
 | some (_,.struct fs)=>match aWi fs.toList f with
  | some fd=>match T.ty.get fd.type,S.ev x with
   |some (j,td),.agg ds=>bif !(aEj td)&&Nat.beq j.size 1 then tdK 1 fd.offset ds λes=>one1 es λx=>K (.p (.d x)) else cA P n o S K
   |_,_=>cA P n o S K
  |none=>False
 |_=>False
def cFf[Mode](op:Op)(K:Eff->Prop):Prop:=match op with
 | .move x=>bFp T ow S o d x K
 | .assign x=>bFp T ow S o d x K
 | .pick c x y=>aPr S c x y K
 | .binOp op t x y _=>bYp (P:=P) n S o op t x y K
 | .unOp op _ x=>xun (P:=P) n S o op x K
 | .fieldAddr t x f=>bYs T S t x f K
 | .nilCheck x=>bYx (P:=P) n S o x K
 | .field t x f=>xfv T n S o t x f K
 | .load t x=>bRf T n S o t x K
 | .alloc t=>bKh T ow S d t K
 | .box _ x=>bYq S d x K
 | .extract x i=>bRe (P:=P) n S o x i K
 | .build t l=>bKi T n ow S o d t l.toList K
 | .buildSlice t len l=>bYw T ow S d t len l.toList K
 | .indexAddr t x y=>bYt T n S o t x y K
 | .slice t x lo hi none=>bKj T n S o t x lo hi K
 | .makeFunc f first caps=>xfn (P:=P) n S o f first.toList caps.toList K
 | .convert t u x=>bRd T n S o t u x K
 | .makeSlice t x y=>bRg T S d t x y K
 | .call c=>match c.callee with
  | .builtin b=>bVf T n ow S o d b c.args.toList c.argTypes.toList K
  |_=>cA P n o S K
 |_=>cA P n o S K
def xop[Mode](K:Eff->Prop):Prop:=match o.dst with
 |some d=>cFf T n ow S o d o.op K
 | none=>match o.op with
  | .store t x y=>bKk T n S o t x y K
  |_=>cA P n o S K
end
end Go.Am
end
section
section
namespace Go.Am
section
variable{P:Program}{T:TT P}{n:Nat}{ow:List Nat}{S:VS}{d:Nat}{ty:TypeId}{pos:String}{af:Array Edge}{gd:Option (Nat×Bool)}{K:Eff->Prop}
theorem evS{S':VS}{op:Op}{us:List Nat}{x:Operand}{v:AV}{ρ:Rho}(hA:Agr op S S' us)(hx:x∈op.operands.toList)(h:S.ev x=v):(S'.at ρ).eval x=ρ.av v:=by rw[uF,hA.ev x hx,h]
theorem dL[Mode]{op:Op}{v:AV}{us:List Nat}(hK:K (.r v us))(h:∀S',Agr op S S' us->∀ρ,aM P n ⟨some d,op,ty,pos,af,gd⟩ (S'.at ρ) ((S'.at ρ).set d (ρ.av v))):cA P n ⟨some d,op,ty,pos,af,gd⟩ S K:=⟨⟨_,hK,bQu h⟩⟩
theorem cFh[Mode]{op:Op}{x:Operand}(hm:x∈op.operands.toList)(hop:∀(st:St) (v:AV),cD x=true->st.eval x=v->aM P n ⟨some d,op,ty,pos,af,gd⟩ st (st.set d v))(h:aAb S x K):cA P n ⟨some d,op,ty,pos,af,gd⟩ S K:=by
 unfold aAb at h;cases hk:cD x with
 |false=>rw[hk] at h;exact h.elim
 | true=>
  rw[hk] at h;exact dL (us:=[]) (aAx (K:=λv=>K (.p v)) h) λS' hA ρ=>hop _ _ hk (evS hA hm rfl)
theorem bVt{t:Nat}{Q:Nat->Nat->Nat->Prop}(h:bHf T t Q):∃i e j td,T.ty.get t=some (i,.slice e)/\T.ty.get e=some (j,td)/\Q e j.size j.bytes:=by
 unfold bHf at h;split at h
 ·rename_i i e h1
  split at h
  ·rename_i j td h2
   exact⟨i,e,j,td,h1,h2,h⟩
  ·exact h.elim
 ·exact h.elim
theorem bOa[Mode]{op:Op}{x:Operand}(hd:d<n)(hop:op=.move x\/op=.assign x)(h:bFp T ow S ⟨some d,op,ty,pos,af,gd⟩ d x K):cA P n ⟨some d,op,ty,pos,af,gd⟩ S K:=by
 have gen:aAb S x K->cA P n ⟨some d,op,ty,pos,af,gd⟩ S K:=λh=>cFh (by rcases hop with rfl|rfl<;>simp[Op.operands]) (λst v hk hx=>by
  rcases hop with rfl|rfl
  ·exact dG hd hx hk
  ·exact cS hd hx hk) h
 unfold bFp at h;split at h
 ·obtain⟨i,e,j,td,h1,h2,h⟩:=bVt h;cases hm:aV d ow&&!(lW d S) with
  | true=>
   rw[hm] at h;exact⟨⟨_,h,aUc (us:=[]) λS' hA ρ=>dJ (pS e j.size (op:=op) (by rcases hop with rfl|rfl;exact .inr rfl;exact .inl rfl) hd) λs hs=>⟨_,hs⟩⟩⟩
  | false=>
   rw[hm] at h;refine dL (us:=[]) h λS' hA ρ=>?_
   rcases hop with rfl|rfl
   ·exact cEj j.size hd
   ·exact aKm j.size hd
 ·exact gen h
theorem aMt[Mode]{c x y:Operand}(hd:d<n)(h:aPr S c x y K):cA P n ⟨some d,.pick c x y,ty,pos,af,gd⟩ S K:=by
 unfold aPr at h;split at h
 ·rename_i b hc
  have h:=bBz h;have hcm:c∈(Op.pick c x y).operands.toList:=by simp[Op.operands]
  cases b with
  | true=>
   unfold aAb at h;cases hk:cD x with
   |false=>rw[hk] at h;exact h.elim
   | true=>
    rw[hk] at h;exact dL (us:=[]) (aAx (K:=λv=>K (.p v)) h) λS' hA ρ=>aFc hd (evS hA hcm hc) rfl (evS hA (by simp[Op.operands]) rfl) hk
  | false=>
   unfold aAb at h;cases hk:cD y with
   |false=>simp only[hk] at h;exact h.elim
   | true=>
    simp only[hk] at h;exact dL (us:=[]) (aAx (K:=λv=>K (.p v)) h) λS' hA ρ=>aJi hd (evS hA hcm hc) rfl (evS hA (by simp[Op.operands]) rfl) hk
 ·exact h.elim
theorem jD{b:Bool}{p:Prop}(h:bif b then p else False):b=true/\p:=by cases b with
 |true=>exact⟨rfl,h⟩
 |false=>exact h.elim
theorem cFb[Mode]{op:BinOp}{x y:Operand}{t u:TypeId}{k k':IntKind}{p q:Int}(hd:d<n)(hx:S.ev x=.d (.lit (.int k p)))(hy:S.ev y=.d (.lit (.int k' q)))(h:bYu (P:=P) n S ⟨some d,.binOp op t x y u,ty,pos,af,gd⟩ op k k' p q K):
  cA P n ⟨some d,.binOp op t x y u,ty,pos,af,gd⟩ S K:=by
 have mx:∀op,x∈(Op.binOp op t x y u).operands.toList:=λ_=>by simp[Op.operands]
 have my:∀op,y∈(Op.binOp op t x y u).operands.toList:=λ_=>by simp[Op.operands]
 cases op<;>simp only[bYu] at h
 case add=>obtain⟨h1,g⟩:=jD h;have:=uZ h1;subst this;exact dL (us:=[]) g λS' hA ρ=>zU hd (evS hA (mx _) hx) (evS hA (my _) hy) rfl
 case sub=>obtain⟨h1,g⟩:=jD h;have:=uZ h1;subst this;exact dL (us:=[]) g λS' hA ρ=>zU hd (evS hA (mx _) hx) (evS hA (my _) hy) rfl
 case mul=>obtain⟨h1,g⟩:=jD h;have:=uZ h1;subst this;exact dL (us:=[]) g λS' hA ρ=>zU hd (evS hA (mx _) hx) (evS hA (my _) hy) rfl
 case lss=>obtain⟨h1,g⟩:=jD h;have:=uZ h1;subst this;exact dL (us:=[]) g λS' hA ρ=>yD hd (evS hA (mx _) hx) (evS hA (my _) hy) rfl
 case leq=>obtain⟨h1,g⟩:=jD h;have:=uZ h1;subst this;exact dL (us:=[]) g λS' hA ρ=>yD hd (evS hA (mx _) hx) (evS hA (my _) hy) rfl
 case gtr=>obtain⟨h1,g⟩:=jD h;have:=uZ h1;subst this;exact dL (us:=[]) g λS' hA ρ=>yD hd (evS hA (mx _) hx) (evS hA (my _) hy) rfl
 case geq=>obtain⟨h1,g⟩:=jD h;have:=uZ h1;subst this;exact dL (us:=[]) g λS' hA ρ=>yD hd (evS hA (mx _) hx) (evS hA (my _) hy) rfl
 case eql=>obtain⟨h1,g⟩:=jD h;have:=uZ h1;subst this;exact dL (us:=[]) g λS' hA ρ=>yD hd (evS hA (mx _) hx) (evS hA (my _) hy) rfl
 case neq=>obtain⟨h1,g⟩:=jD h;have:=uZ h1;subst this;exact dL (us:=[]) g λS' hA ρ=>yD hd (evS hA (mx _) hx) (evS hA (my _) hy) rfl
 case quo=>obtain⟨h1,h0,g⟩:=jD h;have:=uZ h1;subst this;exact dL (us:=[]) g λS' hA ρ=>cGe hd (evS hA (mx _) hx) (evS hA (my _) hy) h0
 case rem=>obtain⟨h1,h0,g⟩:=jD h;have:=uZ h1;subst this;exact dL (us:=[]) g λS' hA ρ=>cGf hd (evS hA (mx _) hx) (evS hA (my _) hy) h0
 case shl=>obtain⟨h0,h⟩:=h;exact dL (us:=[]) h λS' hA ρ=>cGh hd (evS hA (mx _) hx) (evS hA (my _) hy) h0
 case shr=>obtain⟨h0,h⟩:=h;exact dL (us:=[]) h λS' hA ρ=>bFn hd (evS hA (mx _) hx) (evS hA (my _) hy) h0
 all_goals exact h
theorem cEx[Mode]{op:BinOp}{x y:Operand}{t u:TypeId}(hd:d<n)(h:bYp (P:=P) n S ⟨some d,.binOp op t x y u,ty,pos,af,gd⟩ op t x y K):cA P n ⟨some d,.binOp op t x y u,ty,pos,af,gd⟩ S K:=by
 unfold bYp at h;split at h
 ·rename_i h1 h2;exact cFb hd h1 h2 h
 ·exact h
theorem cGm[Mode]{op:UnOp}{x:Operand}{t:TypeId}(hd:d<n)(h:xun (P:=P) n S ⟨some d,.unOp op t x,ty,pos,af,gd⟩ op x K):cA P n ⟨some d,.unOp op t x,ty,pos,af,gd⟩ S K:=by
 have mx:∀op,x∈(Op.unOp op t x).operands.toList:=λ_=>by simp[Op.operands]
 unfold xun at h;split at h
 ·rename_i h1;exact dL (us:=[]) h λS' hA ρ=>bAa hd (evS hA (mx _) h1)
 ·rename_i h1;exact dL (us:=[]) h λS' hA ρ=>cGd hd (evS hA (mx _) h1)
 ·exact h
theorem DR.nohv{w:World}{X:aS}{x:D}{v:Value}(h:DR w X x v)(ρ:Rho):ρ.dd x=x:=by cases h<;>rfl
theorem DRs.nohv{w:World}{X:aS}(ρ:Rho):∀{ds:List D} {vs:List Value},DRs w X ds vs->ds.map ρ.dd=ds
 |[],[],_=>rfl
 |_::_,_::_,h=>by simp only[List.map_cons,h.1.nohv ρ,DRs.nohv ρ h.2]
theorem bNu[Mode]{o:Oper}{st:St}{x:Operand}{ds:List D}{ρ:Rho}{Q:St->Prop}(hx:st.eval x=.cp ds)(h:ds.map ρ.dd=ds->Step P n o st Q):Step P n o st Q:=by
 intro A M w0 a w hR K R hK;have hk:cD x=true:=by cases x with|const u=>cases hx|_=>rfl
 have hv:=hR.eval' hk;rw[hx] at hv;have:ds.map ρ.dd=ds:=by
  generalize a.eval x=u at hv
  cases hv with|cp _ _ hds _ _=>exact hds.nohv ρ
 exact h this A M w0 a w hR K R hK
theorem cEz[Mode]{t f:Nat}{x:Operand}(hd:d<n)(h:bYs T S t x f K):cA P n ⟨some d,.fieldAddr t x f,ty,pos,af,gd⟩ S K:=by
 have mx:x∈(Op.fieldAddr t x f).operands.toList:=by simp[Op.operands]
 unfold bYs at h;split at h
 ·rename_i i fs h1
  split at h
  ·rename_i fd h2
   rw[bBy] at h2;split at h
   ·rename_i j td h3
    obtain⟨h4,h⟩:=jD h;have hf:=bYk h1 h2 h3 h4;split at h
    ·rename_i hx;exact dL (us:=[]) h λS' hA ρ=>jW hd (evS hA mx hx) hf
    ·rename_i ds hx
     obtain⟨hl,h⟩:=aBf (K:=λes=>K (.p (.cp es))) h;exact dL (us:=[]) h λS' hA ρ=>aPd hd (evS hA mx hx) hf (by rw[hl])
    ·rename_i hx;exact dL (us:=[]) h λS' hA ρ=>bQn hd (evS hA mx hx) hf
    ·exact h.elim
   ·exact h.elim
  ·exact h.elim
 ·exact h.elim
theorem cFe[Mode]{x:Operand}(hd:d<n)(h:bYx (P:=P) n S ⟨some d,.nilCheck x,ty,pos,af,gd⟩ x K):cA P n ⟨some d,.nilCheck x,ty,pos,af,gd⟩ S K:=by
 have mx:x∈(Op.nilCheck x).operands.toList:=by simp[Op.operands]
 unfold bYx at h;split at h
 ·rename_i hx;exact dL (us:=[]) h λS' hA ρ=>aIb hd (evS hA mx hx)
 ·rename_i hx;exact dL (us:=[]) h λS' hA ρ=>jI hd (evS hA mx hx)
 ·exact h
theorem aSo{es:List D}{K:D->Prop}(h:one1 es K):∃x,es=[x]/\K x:=by
 unfold one1 at h;split at h
 ·exact⟨_,rfl,h⟩
 ·exact h.elim
theorem aMg{S':VS}{op:Op}{us:List Nat}{h:Nat}{m:VO}(ρ:Rho)(hA:Agr op S S' us)(hu:h∈us)(hm:ob S.objs h=some m):∃i:Nat,(S'.at ρ).objs[i]?=some (ρ.mo h m):=by
 obtain⟨i,h1,_⟩:=sE (ρ:=ρ) ((hA.ob h hu).trans hm);exact⟨i,h1⟩
theorem bAl{ds:List D}{j:Nat}{x:D}(h:(ds.drop j).take 1=[x]):ds[j]?=some x:=by
 have:=congrArg (·[0]?) h
 simpa using this
theorem bBu{α:Type}{f:α->α}:∀{l:List α},l.map f=l->∀x∈l,f x=x
 |[],_,_,h=>by cases h
 | y::l,h,x,hx=>by
  simp only[List.map_cons,List.cons.injEq] at h
  rcases List.mem_cons.1 hx with rfl|hx
  ·exact h.1
  ·exact bBu h.2 x hx
theorem bBl{α:Type}{f:α->α}:∀{l:List α},(∀x∈l,f x=x)->l.map f=l
 |[],_=>rfl
 |y::l,h=>by rw[List.map_cons,h y (by simp),bBl λx hx=>h x (List.mem_cons_of_mem _ hx)]
theorem aYs[Mode]{w:World}{X:aS}{e k:Nat}{v:Value}{rows:List (List D)}(h:(MO.arr v e k rows).holds w X)(ρ:Rho){i:Nat}{ds:List D}(hi:rows[i]?=some ds):ds.map ρ.dd=ds:=by
 obtain⟨xs,hxs,_,hr⟩:=h;exact bBl λx hx=>bBu (hxs.nohv ρ) x (List.mem_flatten.2 ⟨ds,List.mem_of_getElem? hi,hx⟩)
theorem bJy[Mode]{o:Oper}{st:St}{i:Nat}{m:MO}{Q:St->Prop}(hm:st.objs[i]?=some m)(h:(∃w X,m.holds w X)->Step P n o st Q):Step P n o st Q:=
 λA M w0 a w hR=>h ⟨w,_,hR.inv.holds m (List.mem_of_getElem? hm)⟩ A M w0 a w hR
theorem aWf{f:D->D}{ds:List D}{j m:Nat}:((ds.map f).drop j).take m=((ds.drop j).take m).map f:=by simp[List.map_drop,List.map_take]
theorem bSy(ρ:Rho){x:D}{w:World}{X:aS}{v:Value}(h:VR w X (ρ.av (.d x)) v):VR w X (ρ.av (ldA x)) v:=by
 cases x with
 | pt xs=>
  cases h with
  | d h=>cases h with
   | pt _ b o f hc hr=>
    refine .cp (vs:=(List.range xs.length).map f) b o (DRs.of (by simp) λj d v hj hv=>?_) (λj v hv=>?_) λj hj=>(hc j hj).2
    ·have hl:j<xs.length:=(List.getElem?_eq_some_iff.1 hj).1
     simp[hl] at hv
     exact hv▸hr j d hj
    ·have hl:j<xs.length:=by have:=(List.getElem?_eq_some_iff.1 hv).1;simpa using this
     simp[hl] at hv
     exact hv▸(hc j hl).1
 | hv q h' j=>
  match q,h with
  |0,h=>exact h
  |1,h=>exact h
  | 2,h=>
   have h2:VR w X (.d (.lit (.pointer (some ⟨ρ.bb h',ρ.oo h'+j,none⟩)))) v:=h;cases h2 with
   | d h=>cases h with
    |lit=>exact .bp _ _ _
  |q+3,h=>exact h
 |_=>exact h
theorem bJw[Mode]{o:Oper}{st:St}{x y:AV}(hxy:∀w X v,VR w X x v->VR w X y v)(h:aM P n o st (st.set d x)):aM P n o st (st.set d y):=by
 intro A M w0 a w hR K Q hK;refine h A M w0 a w hR K Q ?_;rintro s a' w' rfl hR';refine hK _ a' w' rfl ⟨hR'.size,hR'.defers,λk=>?_,hR'.inv,hR'.keeps,hR'.own,hR'.old⟩;have h':VR w' (aT A st.objs) (upd st.env d x k) (a'.tmps.getD k undef):=hR'.env k;show VR w' _ (upd st.env d y k) _
 by_cases hk:d=k
 ·subst hk;rw[fK] at h'|-;exact hxy _ _ _ h'
 ·rw[lJ _ _ hk] at h'|-;exact h'
theorem bAx(ρ:Rho){x:AV}{ds:List D}{w:World}{X:aS}{v:Value}(hc:cCx x=some ds)(h:VR w X (ρ.av x) v):DRs w X (ds.map ρ.dd) v.cells.toList:=by
 have key:∀x:AV,x.cells=some ds->VR w X (ρ.av x) v->DRs w X (ds.map ρ.dd) v.cells.toList:=λx hc h=>by
  refine h.cells ?_;cases x with
  |d x=>simp[AV.cells] at hc;subst hc;rfl
  |agg xs=>simp[AV.cells] at hc;subst hc;rfl
  |_=>simp[AV.cells] at hc
 cases x with
 | bp h' o' j=>
  cases hc;cases h with
  |bp=>exact⟨.lit _ rfl,trivial⟩
 | cp xs=>
  cases hc;cases h with
  | cp b o hd hc' hx=>
   rename_i vs
   refine⟨?_,trivial⟩;refine .pt xs b o (λj=>vs.getD j undef) (λj hj=>?_) λj d hj=>?_
   ·have hl:j<vs.length:=by rw[hd.length];exact hj
    exact⟨hc' j _ (by simp[hl]),hx j hj⟩
   ·obtain⟨v,hv,hdv⟩:=hd.get hj;simp only[List.getD,hv,Option.getD_some];exact hdv
 |any=>exact key .any hc h
 |d x=>exact key (.d x) hc h
 |agg x=>exact key (.agg x) hc h
 |ep=>cases hc
 |tup=>cases hc
 |fn=>cases hc
 |mf=>cases hc
 |fl=>cases hc
theorem cEh[Mode]{st:St}{x:Operand}{t:TypeId}{ds:List D}(hd:d<n)(hk:cD x=true)(hv:∀w X u,VR w X (st.eval x) u->DRs w X ds u.cells.toList):
  Step P n ⟨some d,.box t x,ty,pos,af,gd⟩ st (λs=>∃b,s=(st.setadd d (.bp b 0 0) (.box b 0 ds))):=by
 intro A M w0 a w hR K Q hK;have hds:=hv _ _ _ (hR.eval' hk);unfold Oper.wp;have hrun:(execOp a.eval ⟨some d,.box t x,ty,pos,af,gd⟩).run P w=.ok (.value (.pointer (some ⟨w.heap.size,0,none⟩))) (w.alloc (.cells (a.eval x).cells t)):=by
  simp[execOp,Instr.box,newVar,newRow]
 rw[hrun,Oper.upon_value];refine hK _ _ _ ⟨w.heap.size,rfl⟩ ?_;have hR':=hR.add (w':=w.alloc (.cells (a.eval x).cells t)) (m:=.box w.heap.size 0 ds) (Keeps.alloc _ _ _) (λb o hf=>by cases hf.1;exact Nat.le_refl _)
  (λhm=>aQy hds hm)
 exact hR'.put (o:=⟨some d,.box t x,ty,pos,af,gd⟩) rfl hd (.bp _ 0 0)
theorem cCn[Mode]{t:TypeId}{x:Operand}(hd:d<n)(h:bRf T n S ⟨some d,.load t x,ty,pos,af,gd⟩ t x K):cA P n ⟨some d,.load t x,ty,pos,af,gd⟩ S K:=by
 have mx:x∈(Op.load t x).operands.toList:=by simp[Op.operands]
 unfold bRf at h;split at h
 ·rename_i i td ht
  split at h
  ·rename_i ds hx
   cases ha:aEj td with
   | true=>
    rw[ha] at h;obtain⟨hl,h⟩:=aBf (K:=λes=>K (.p (.agg es))) h;refine dL (us:=[]) h λS' hA ρ=>bNu (ρ:=ρ) (evS hA mx hx) λhn=>?_;have he:ρ.av (.agg ((ds.drop 0).take i.size))=.agg (ds.take i.size):=by
     show AV.agg _=_;rw[List.drop_zero,List.map_take,hn]
    rw[he];exact aZz hd (evS hA mx hx) (aPn ht ha rfl) rfl (by simpa using hl)
   | false=>
    rw[ha] at h;obtain⟨h1,h⟩:=jD h;obtain⟨hl,h⟩:=aBf (K:=λes=>one1 es λx=>ldK x λv=>K (.p v)) h;obtain⟨d0,he,h⟩:=aSo (K:=λx=>ldK x λv=>K (.p v)) h;have h:=bZj (K:=λv=>K (.p v)) h;have h0:=bAl he;refine dL (us:=[]) h λS' hA ρ=>bNu (ρ:=ρ) (evS hA mx hx) λhn=>bJw (x:=ρ.av (.d d0)) (λ_ _ _=>bSy ρ) ?_;cases ds with
    |nil=>simp at h0
    | cons y ds=>
     simp at h0;subst h0
     have:ρ.dd y=y:=by have:=congrArg (·[0]?) hn;simpa using this
     have he:ρ.av (.d y)=.d y:=by show AV.d _=_;rw[this]
     rw[he];exact nY hd (evS hA mx hx) (aJl ht ha (Nat.eq_of_beq_eq_true h1))
  ·rename_i hh o j hx
   split at h
   ·rename_i ds hm
    cases ha:aEj td with
    | true=>
     rw[ha] at h;obtain⟨hl,h⟩:=aBf (K:=λes=>K (.r (.agg es) [hh])) h;refine dL h λS' hA ρ=>?_;obtain⟨p,hp⟩:=aMg ρ hA (by simp) hm;exact tM hd (evS hA mx hx) hp (aPn ht ha rfl) aWf (by simpa using hl)
    | false=>
     rw[ha] at h;obtain⟨h1,h⟩:=jD h;obtain⟨hl,h⟩:=aBf (K:=λes=>one1 es λx=>ldK x λv=>K (.r v [hh])) h;obtain⟨d0,he,h⟩:=aSo (K:=λx=>ldK x λv=>K (.r v [hh])) h;have h:=bZj (K:=λv=>K (.r v [hh])) h;refine dL h λS' hA ρ=>bJw (x:=ρ.av (.d d0)) (λ_ _ _=>bSy ρ) ?_;obtain⟨p,hp⟩:=aMg ρ hA (by simp) hm;exact tL hd (evS hA mx hx) hp (by rw[List.getElem?_map,bAl he];rfl) (aJl ht ha (Nat.eq_of_beq_eq_true h1))
   ·exact h
  ·rename_i hh kk r c hx
   split at h
   ·rename_i e k rows hm
    obtain⟨hk,ds,hr,h⟩:=h;have hk:=Nat.eq_of_beq_eq_true hk;subst hk;cases ha:aEj td with
    | true=>
     rw[ha] at h;obtain⟨hl,h⟩:=aBf (K:=λes=>K (.r (.agg es) [hh])) h;refine dL h λS' hA ρ=>?_;obtain⟨p,hp⟩:=aMg ρ hA (by simp) hm;refine bJy hp λ⟨w,X,hh⟩=>?_;have hn:=aYs hh ρ hr;have he:ρ.av (.agg ((ds.drop c).take i.size))=.agg ((ds.drop c).take i.size):=by
      show AV.agg _=_;rw[<-aWf,hn]
     rw[he];exact aPh hd (evS hA mx hx) hp hr (aPn ht ha rfl) rfl (by simpa using hl)
    | false=>
     rw[ha] at h;obtain⟨h1,h⟩:=jD h;obtain⟨hl,h⟩:=aBf (K:=λes=>one1 es λx=>K (.r (.d x) [hh])) h;obtain⟨d0,he,h⟩:=aSo (K:=λx=>K (.r (.d x) [hh])) h;have h0:=bAl he;refine dL h λS' hA ρ=>?_;obtain⟨p,hp⟩:=aMg ρ hA (by simp) hm;refine bJy hp λ⟨w,X,hh⟩=>?_;have hn:=aYs hh ρ hr;have he:ρ.av (.d d0)=.d d0:=by
      show AV.d _=_;rw[bBu hn d0 (List.mem_of_getElem? h0)]
     rw[he];exact zG hd (evS hA mx hx) hp hr h0 (aJl ht ha (Nat.eq_of_beq_eq_true h1))
   ·exact h
  ·exact h
 ·exact h.elim
theorem cGl[Mode]{t f:Nat}{x:Operand}(hd:d<n)(h:xfv T n S ⟨some d,.field t x f,ty,pos,af,gd⟩ t x f K):cA P n ⟨some d,.field t x f,ty,pos,af,gd⟩ S K:=by
 have mx:x∈(Op.field t x f).operands.toList:=by simp[Op.operands]
 unfold xfv at h;split at h
 ·rename_i i fs h1
  split at h
  ·rename_i fd h2
   rw[bBy] at h2;split at h
   ·rename_i j td ds h3 hx
    cases hb:(!(aEj td)&&Nat.beq j.size 1) with
    |false=>rw[hb] at h;exact h
    | true=>
     rw[hb] at h;simp only[Bool.and_eq_true,Bool.not_eq_true'] at hb;obtain⟨hl,h⟩:=aBf (K:=λes=>one1 es λx=>K (.p (.d x))) h;obtain⟨d0,he,h⟩:=aSo (K:=λx=>K (.p (.d x))) h;refine dL (us:=[]) h λS' hA ρ=>?_;exact bLq hd (evS hA mx hx) (λw=>run_underlying (Tr'.ok h1).2 w) (by simpa using h2) (aJl h3 hb.1 (Nat.eq_of_beq_eq_true hb.2)) (by rw[List.getElem?_map,bAl he];rfl)
   ·exact h
  ·exact h.elim
 ·exact h.elim
theorem aIq{v:AV}{es:List D}(ρ:Rho)(h:v.cells=some es):(ρ.av v).cells=some (es.map ρ.dd):=by
 cases v with
 |d x=>simp[AV.cells] at h;subst h;rfl
 |agg xs=>simp[AV.cells] at h;subst h;rfl
 |_=>simp[AV.cells] at h
theorem aSd{f:D->D}{ds es:List D}{j:Nat}:(fU ds j es).map f=fU (ds.map f) j (es.map f):=by simp[fU,List.map_take,List.map_drop]
theorem lt1{m:Nat}(h:Nat.ble 1 m=true):0<m:=Nat.le_of_ble_eq_true h
theorem aBo(ρ:Rho):∀{es:List D},es.any hvD=false->es.map ρ.dd=es
 |[],_=>rfl
 | x::l,h=>by
  simp only[List.any_cons,Bool.or_eq_false_iff] at h;rw[List.map_cons,aBo ρ h.2];cases x with
  |hv=>simp[hvD] at h
  |_=>rfl
theorem bMk{w:World}{X:aS}{k:Nat}{c:List D}:∀{a:List D} {vs:List Value},DRs w X (a++(.lit (.slice none 0 0)::c)) vs->DRs w X (a++(.sl k []::c)) vs
 |[],v::vs,h=>⟨by obtain⟨h,_⟩:=h;cases h;exact .nil k,h.2⟩
 |_::_,v::vs,h=>⟨h.1,bMk h.2⟩
 |[],[],h=>h.elim
 |_::_,[],h=>h.elim
theorem bSg[Mode]{env:Nat->AV}{objs:List MO}{i b o:Nat}{ds ds':List D}(ho:objs[i]?=some (.box b o ds))(hl:ds'.length=ds.length)(hd:∀w X vs,DRs w X ds vs->DRs w X ds' vs):Ent ⟨env,objs⟩ ⟨env,objs.set i (.box b o ds')⟩:=by
 intro A M w0 n a w hR;refine hR.replace (m':=.box b o ds') ho (Keeps.refl _ _) (λ_ _ h=>h) (λb' o' hf=>.inl (by simpa[MO.foot,hl] using hf)) λhm=>?_;obtain⟨vs,h1,h2,h3⟩:=(hR.inv.holds _ (List.mem_of_getElem? ho));exact⟨vs,(hd _ _ _ h1).mono hm,h2,by rwa[hl]⟩
theorem cDs{y:Operand}{S:VS}{l es:List D}(h:(S.ev y).cells=some es):bPn y l es=es\/∃k,es=[.lit (.slice none 0 0)]/\bPn y l es=[.sl k []]:=by
 unfold bPn
 split
 ·have he:es=[.lit (.slice none 0 0)]:=(Option.some.inj h).symm
  split
  ·exact .inr ⟨_,he,rfl⟩
  ·exact .inl rfl
 ·exact .inl rfl
theorem cBx[Mode]{op:Op}{h k j:Nat}{ds:List D}(hm:ob S.objs h=some (.box ds))(hs:∀S',Agr op S S' [h]->∀(ρ:Rho) i,(S'.at ρ).objs[i]?=some (ρ.mo h (.box ds))->aM P n ⟨none,op,ty,pos,af,gd⟩ (S'.at ρ) ((S'.at ρ).put1 i (ρ.mo h (.box (fU ds j [.lit (.slice none 0 0)]))))):
  mT P n ⟨none,op,ty,pos,af,gd⟩ S ⟨.any,[(h,some (.box (fU ds j [.sl k []])))],[h],[]⟩:=by
 intro S' hA _ ρ;obtain⟨i,h1,h2,_⟩:=sE (ρ:=ρ) ((hA.ob h (by simp)).trans hm);refine dJ (hs S' hA ρ i h1) ?_;rintro s rfl;refine⟨ρ,rfl,?_⟩;have hil:i<(S'.objs.map λp=>ρ.mo p.1 p.2).length:=(List.getElem?_eq_some_iff.1 h1).1;have e1:(S'.app none ⟨.any,[(h,some (.box (fU ds j [.sl k []])))],[h],[]⟩).at ρ=⟨(S'.at ρ).env,((S'.at ρ).objs.set i (ρ.mo h (.box (fU ds j [.lit (.slice none 0 0)])))).set i (ρ.mo h (.box (fU ds j [.sl k []])))⟩:=by
  simp only[VS.app,chg,VS.at];rw[List.set_set,h2]
 show Ent ⟨(S'.at ρ).env,(S'.at ρ).objs.set i (ρ.mo h (.box (fU ds j [.lit (.slice none 0 0)])))⟩ _;rw[e1];refine bSg (b:=ρ.bb h) (o:=ρ.oo h) (ds:=(fU ds j [.lit (.slice none 0 0)]).map ρ.dd) (List.getElem?_set_self hil) (by simp[fU]) λw X vs hd=>?_;have e2:∀x:D,(fU ds j [x]).map ρ.dd=(ds.take j).map ρ.dd++(ρ.dd x::(ds.drop (j+1)).map ρ.dd):=λx=>by simp[fU]
 rw[e2] at hd|-;exact bMk hd
theorem bYz[Mode]{t:TypeId}{x y:Operand}(h:bKk T n S ⟨none,.store t x y,ty,pos,af,gd⟩ t x y K):cA P n ⟨none,.store t x y,ty,pos,af,gd⟩ S K:=by
 have mx:x∈(Op.store t x y).operands.toList:=by simp[Op.operands]
 have my:y∈(Op.store t x y).operands.toList:=by simp[Op.operands]
 unfold bKk at h;split at h
 ·rename_i i td ht
  obtain⟨hk,h⟩:=jD h;split at h
  ·rename_i es hes
   obtain⟨hb,h⟩:=jD h;simp only[Bool.and_eq_true] at hb;split at h
   ·rename_i hh o j hx
    split at h
    ·rename_i ds hm
     obtain⟨hj,h⟩:=jD h;obtain⟨hle,h9⟩:=bQd (K:=λds'=>K ⟨.any,[(hh,some (.box ds'))],[hh],[]⟩) (Nat.le_of_ble_eq_true hj) h
     rcases cDs (l:=ds.drop j) hes with e0|⟨kk,e0,e1⟩
     ·rw[e0] at hle h9;refine⟨⟨_,h9,bNk hm (by simp) λS' hA ρ p hp=>?_⟩⟩;exact gH (evS hA mx hx) hp (evS hA my rfl) hk (aIq ρ hes) (λw=>aCm ht w) (by simpa using Nat.eq_of_beq_eq_true hb.1) (lt1 hb.2) (by simpa using hle) aSd.symm
     ·rw[e1] at hle h9;subst e0;refine⟨⟨_,h9,cBx hm λS' hA ρ p hp=>?_⟩⟩;exact gH (evS hA mx hx) hp (evS hA my rfl) hk (aIq ρ hes) (λw=>aCm ht w) (by simpa using Nat.eq_of_beq_eq_true hb.1) (lt1 hb.2) (by simpa using hle) aSd.symm
    ·exact h
   ·rename_i hh kk r c hx
    split at h
    ·rename_i e k rows hm
     cases hv:es.any hvD with
     |true=>rw[hv] at h;exact h.elim
     | false=>
      rw[hv] at h;obtain⟨hkk,ds,rows',hr,hle,hrows,h⟩:=h;have hkk:=Nat.eq_of_beq_eq_true hkk;subst hkk;refine⟨⟨_,h,bNk hm (by simp) λS' hA ρ p hp=>?_⟩⟩;have hc:=aIq ρ hes;rw[aBo ρ hv] at hc;exact aPi (evS hA mx hx) hp hr (evS hA my rfl) hk hc (λw=>aCm ht w) (Nat.eq_of_beq_eq_true hb.1) (lt1 hb.2) hle hrows
    ·exact h
   ·exact h
  ·exact h.elim
 ·exact h.elim
theorem cnf{b:Bool}{p:Prop}(h:bif b then False else p):b=false/\p:=by cases b with
 |true=>exact h.elim
 |false=>exact⟨rfl,h⟩
theorem zN{ρ:Rho}:∀{zs:List D},zOK zs=true->zs.map ρ.dd=zs
 |[],_=>rfl
 | .lit v::l,h=>by simp only[zOK,Bool.and_eq_true] at h;rw[List.map_cons,zN h.2];rfl
 | .sl _ []::l,h=>by simp only[zOK] at h;rw[List.map_cons,zN h];rfl
 | .sl _ (_::_)::l,h=>by simp[zOK] at h
 | .sn _ _::l,h=>by simp[zOK] at h
 | .mp _ _::l,h=>by simp[zOK] at h
 | .pt _::l,h=>by simp[zOK] at h
 | .fc .. ::l,h=>by simp[zOK] at h
 | .hv .. ::l,h=>by simp[zOK] at h
theorem bSs{x:Option D}(h:bPd x=true):x=some (.lit (.slice none 0 0)):=by
 unfold bPd at h;split at h
 ·rfl
 ·cases h
theorem bIp:∀{zs:List D} {j:Nat},(aSq ow d j zs).map bA=zs.map bA
 |[],_=>rfl
 | x::l,j=>by
  simp only[aSq,List.map_cons,bIp (zs:=l)]
  congr 1
  cases aV (100000*(j+1)+d) ow with
  |true=>simp only[cond_true];split<;>rfl
  |false=>rfl
theorem aCi:∀{zs:List D} {j:Nat},zOK zs=true->zOK (aSq ow d j zs)=true
 |[],_,h=>h
 | x ::l,j,h=>by
  simp only[aSq];cases aV (100000*(j+1)+d) ow with
  | false=>
   simp only[cond_false];cases x with
   |lit v=>simp only[zOK,Bool.and_eq_true] at h|-;exact⟨h.1,aCi h.2⟩
   | sl k r=>cases r with
    |nil=>exact aCi (zs:=l) h
    |cons=>simp[zOK] at h
   |_=>simp[zOK] at h
  | true=>
   simp only[cond_true];cases x with
   |lit v=>simp only[zOK,Bool.and_eq_true] at h|-;exact⟨h.1,aCi h.2⟩
   | sl k r=>cases r with
    |nil=>simp only[zOK,Bool.and_eq_true];exact⟨rfl,aCi (zs:=l) h⟩
    |cons=>simp[zOK] at h
   |_=>simp[zOK] at h
theorem bTx[Mode]{op:Op}:∀{c:List (Nat×Nat×Nat)} {zs:List D} {ch:List (Nat×Option VO)} {nw:List Nat},mT P n ⟨some d,op,ty,pos,af,gd⟩ S ⟨.bp d 0 0,ch++[(d,some (.box zs))],[],nw⟩->bPt d c zs ch nw K->cA P n ⟨some d,op,ty,pos,af,gd⟩ S K
 |[],zs,ch,nw,hs,h=>⟨⟨_,h,hs⟩⟩
 | (j,k,e)::c,zs,ch,nw,hs,h=>by
  simp only[bPt] at h;obtain⟨hb,h⟩:=jD h;simp only[Bool.and_eq_true,Bool.not_eq_true'] at hb;refine bTx (c:=c) ?_ h;have:=bXv (e:=e) (k:=k) (bSs hb.1) hb.2 hs;rw[List.append_assoc];exact this
theorem bYo[Mode]{t:TypeId}(hd:d<n)(h:bKh T ow S d t K):cA P n ⟨some d,.alloc t,ty,pos,af,gd⟩ S K:=by
 unfold bKh at h;split at h
 ·rename_i zs hz
  cases how:aV (d+30000) ow with
  | true=>
   rw[how] at h;simp only[cond_true] at h;obtain⟨hf,h⟩:=cnf h;obtain⟨z,h1,h2,h3⟩:=Tr'.ok hz;refine bTx (ch:=[]) ?_ h;refine bCp (us:=[]) hf λS' hA ρ=>?_;rw[zN (aCi h3)];exact dE hd h1 (by rw[bIp];exact h2) (aCi h3)
  |false=>
  rw[how] at h;simp only[cond_false] at h;obtain⟨z,h1,h2,h3⟩:=Tr'.ok hz;cases hoc:lW d S with
  | true=>
   rw[hoc] at h;obtain⟨hf,h⟩:=cnf (show bif zs.any (aBp (Nat.add 70000 d)) then False else _ from h);refine⟨⟨_,h,bJn (us:=[]) hf λS' hA ρ=>?_⟩⟩;rw[zN h3];exact dE hd h1 h2 h3
  |false=>
  rw[hoc] at h;obtain⟨hf,h⟩:=cnf (show bif zs.any (aBp d) then False else _ from h);refine⟨⟨_,h,bCp (us:=[]) hf λS' hA ρ=>?_⟩⟩;rw[zN h3];exact dE hd h1 h2 h3
 ·exact h.elim
theorem cCo[Mode]{t:TypeId}{x y:Operand}(hd:d<n)(h:bRg T S d t x y K):cA P n ⟨some d,.makeSlice t x y,ty,pos,af,gd⟩ S K:=by
 have mx:x∈(Op.makeSlice t x y).operands.toList:=by simp[Op.operands]
 have my:y∈(Op.makeSlice t x y).operands.toList:=by simp[Op.operands]
 unfold bRg at h;split at h
 ·rename_i i e h1
  split at h
  ·rename_i j td zs h2 h3
   obtain⟨hb,h⟩:=jD h;simp only[Bool.and_eq_true] at hb;split at h
   ·rename_i k1 m k2 m' hx hy
    obtain⟨he,rows,hm,hK⟩:=h.h;subst he;obtain⟨z,hz⟩:=aPo h1 h2 rfl hb.1;obtain⟨z',g1,g2,g3⟩:=Tr'.ok h3;refine⟨⟨_,hK,aUc (us:=[]) λS' hA ρ A M w0 a w hR=>?_⟩⟩;have ez:z=z':=by
     have a1:=hz.zero w;rw[g1 w] at a1;injection a1 with a1 _
     exact a1.symm
    subst ez;exact cEi hd hz (evS hA mx hx) (evS hA my hy) g2 g3 hm (Nat.le_of_ble_eq_true hb.2) A M w0 a w hR
   ·exact h.elim
  ·exact h.elim
 ·exact h.elim
theorem cEy[Mode]{t:TypeId}{x:Operand}(hd:d<n)(h:bYq S d x K):cA P n ⟨some d,.box t x,ty,pos,af,gd⟩ S K:=by
 have mx:x∈(Op.box t x).operands.toList:=by simp[Op.operands]
 unfold bYq at h;obtain⟨hk,h⟩:=jD h;split at h
 ·rename_i ds hc
  have h:=bHo (K:=λds=>bif ds.any (aBp d) then False else K ⟨.bp d 0 0,[(d,some (.box ds))],[],[d]⟩) h;obtain⟨hf,h⟩:=cnf h;exact⟨⟨_,h,bCp (us:=[]) hf λS' hA ρ=>cEh hd hk λw X u hu=>bAx ρ hc (by rw[evS (ρ:=ρ) hA mx rfl] at hu;exact hu)⟩⟩
 ·exact h.elim
theorem aBl(ρ:Rho){v:AV}(h:xZ v=true):ρ.a1 v=ρ.av v:=by
 cases v<;>first|rfl|simp[xZ] at h
theorem cCm[Mode]{x:Operand}{i:Nat}(hd:d<n)(h:bRe (P:=P) n S ⟨some d,.extract x i,ty,pos,af,gd⟩ x i K):cA P n ⟨some d,.extract x i,ty,pos,af,gd⟩ S K:=by
 have mx:x∈(Op.extract x i).operands.toList:=by simp[Op.operands]
 unfold bRe at h;split at h
 ·rename_i vs hx
  split at h
  ·rename_i v hv
   obtain⟨hf,h⟩:=jD h;refine dL (us:=[]) (aAx (K:=λv=>K (.p v)) h) λS' hA ρ=>?_;refine tK (vs:=vs.map ρ.a1) hd (evS hA mx hx) ?_;rw[bMy] at hv;rw[List.getElem?_map,hv,<-aBl ρ hf]
   rfl
  ·exact h.elim
 ·exact h
theorem aOr{S S':VS}(ρ:Rho):∀{l:List (Nat×Operand)},(∀p∈l,S'.ev p.2=S.ev p.2)->(S'.at ρ).parts l=(St.parts ⟨λk=>lk S.env k,[]⟩ l).map λp=>(p.1,ρ.av p.2)
 |[],_=>rfl
 | (i,x)::l,h=>by
  have h1:(S'.at ρ).eval x=ρ.av (St.eval ⟨λk=>lk S.env k,[]⟩ x):=by
   rw[uF,h (i,x) (by simp)];cases x<;>rfl
  simp only[St.parts,List.map_cons,h1,aOr ρ λp hp=>h p (List.mem_cons_of_mem _ hp)]
theorem aVx{place:Nat->Option (Nat×Nat)}(ρ:Rho):∀{ps:List (Nat×AV)} {ds es:List D},aAw place ds ps=some es->aAw place (ds.map ρ.dd) (ps.map λp=>(p.1,ρ.av p.2))=some (es.map ρ.dd)
 |[],ds,es,h=>by simp only[aAw,Option.some.injEq] at h;subst h;rfl
 | (i,x)::ps,ds,es,h=>by
  simp only[aAw] at h;split at h
  ·rename_i off size es' h1 h2
   split at h
   ·rename_i hc
    simp only[List.map_cons,aAw,h1,aIq ρ h2];rw[if_pos (by simpa using hc),<-aSd];exact aVx ρ h
   ·cases h
  ·cases h
theorem bUa:∀{l:List Field} {pl:List (Nat×Nat)},bIs T l=some pl->∀w,(l.mapM λf=>Prod.mk f.offset <$> sizeOf f.type).run P w=.ok pl w
 |[],pl,h,w=>by simp only[bIs,Option.some.injEq] at h;subst h;rfl
 | f::l,pl,h,w=>by
  simp only[bIs] at h;split at h
  ·rename_i j td r h1 h2
   cases h;have:=bUa h2 w
   simp[List.mapM_cons,aCm h1,this]
  ·cases h
theorem bTy[Mode]{op:Op}:∀{c:List (Nat×Nat×Nat)} {xs:List D} {ch:List (Nat×Option VO)} {nw:List Nat},mT P n ⟨some d,op,ty,pos,af,gd⟩ S ⟨.agg xs,ch,[],nw⟩->bIo d c xs ch nw K->cA P n ⟨some d,op,ty,pos,af,gd⟩ S K
 |[],xs,ch,nw,hs,h=>⟨⟨_,h,hs⟩⟩
 | (j,k,e)::c,xs,ch,nw,hs,h=>by
  simp only[bIo] at h;obtain⟨hb,h⟩:=jD h;simp only[Bool.and_eq_true,Bool.not_eq_true'] at hb;exact bTy (c:=c) (bUw (e:=e) (k:=k) (bSs hb.1) hb.2 hs) h
theorem bYr[Mode]{t:TypeId}{l:List (Nat×Operand)}(hd:d<n)(h:bKi T n ow S ⟨some d,.build t l.toArray,ty,pos,af,gd⟩ d t l K):cA P n ⟨some d,.build t l.toArray,ty,pos,af,gd⟩ S K:=by
 unfold bKi at h;split at h
 ·rename_i i fs zs ht hz
  split at h
  ·rename_i pl hpl
   obtain⟨hok,h⟩:=jD h;split at h
   ·rename_i es he
    have h:=bHo (K:=λes=>bif aV (d+30000) ow then bIo d (bCe ow d (bHe T t) 0 zs) es [] [] K else K (.p (.agg es))) h;obtain⟨z,h1,h2,h3⟩:=Tr'.ok hz;have key:mT P n ⟨some d,.build t l.toArray,ty,pos,af,gd⟩ S ⟨.agg es,[],[],[]⟩:=by
     refine bQu (us:=[]) λS' hA ρ=>?_;have hst:oP P t z pl:=⟨h1,fs,λw=>run_underlying (Tr'.ok ht).2 w,λw=>by
      have:=bUa hpl w;rw[Array.mapM_eq_mapM_toList]
      simp[this]⟩
     have hps:=aOr (S:=S) (S':=S') ρ (l:=l) λp hp=>hA.ev _ (by simp[Op.operands];exact⟨_,hp⟩);have hf:=aVx ρ he;cases how:aV (d+30000) ow with
     | true=>
      rw[how] at hf;simp only[cond_true] at hf;rw[zN (aCi h3)] at hf;exact iV hd hst (by rw[bIp];exact h2) (aCi h3) hok hps hf
     | false=>
      rw[how] at hf;simp only[cond_false] at hf;rw[zN h3] at hf;exact iV hd hst h2 h3 hok hps hf
    cases how:aV (d+30000) ow with
    |true=>rw[how] at h;exact bTy key h
    |false=>rw[how] at h;exact⟨⟨_,h,key⟩⟩
   ·exact h
  ·exact h.elim
 ·exact h
theorem bEj(ρ:Rho):∀{ps:List (Nat×AV)} {k:Nat} {rows:List (List D)},rT k ps=some rows->rT k (ps.map λp=>(p.1,ρ.av p.2))=some (rows.map (·.map ρ.dd))
 |[],k,rows,h=>by simp only[rT,Option.some.injEq] at h;subst h;rfl
 | (i,x)::ps,k,rows,h=>by
  simp only[rT] at h;split at h
  ·rename_i ds rows' h1 h2
   split at h
   ·rename_i hik
    cases h;simp only[List.map_cons,rT,aIq ρ h1,bEj ρ h2,if_pos hik]
   ·cases h
  ·cases h
theorem aMy{k:Nat}(ρ:Rho):∀{rows:List (List D)},aQu k rows=true->(∀r∈rows,r.length=k)/\rows.map (·.map ρ.dd)=rows
 |[],_=>⟨by simp,rfl⟩
 | r::l,h=>by
  simp only[aQu,Bool.and_eq_true,Bool.not_eq_true'] at h;obtain⟨h1,h2⟩:=aMy ρ h.2.2;refine⟨λx hx=>?_,?_⟩
  ·rcases List.mem_cons.1 hx with rfl|hx
   ·exact Nat.eq_of_beq_eq_true h.1
   ·exact h1 x hx
  ·rw[List.map_cons,h2,aBo ρ h.2.1]
theorem cFd[Mode]{t len:Nat}{l:List (Nat×Operand)}(hd:d<n)(h:bYw T ow S d t len l K):cA P n ⟨some d,.buildSlice t len l.toArray,ty,pos,af,gd⟩ S K:=by
 unfold bYw at h;split at h
 ·rename_i i e ht
  split at h
  ·rename_i j td he
   obtain⟨hb,h⟩:=jD h;simp only[Bool.and_eq_true] at hb;obtain⟨z,hty⟩:=aPo ht he rfl hb.1;split at h
   ·rename_i rows hr
    obtain⟨hc,h⟩:=jD h;simp only[Bool.and_eq_true] at hc;have hr':∀S',Agr (.buildSlice t len l.toArray) S S' []->∀ρ,rT 0 ((S'.at ρ).parts l)=some rows:=λS' hA ρ=>by
     rw[aOr (S:=S) (S':=S') ρ (l:=l) λp hp=>hA.ev _ (by simp[Op.operands];exact⟨_,hp⟩),bEj ρ hr,(aMy ρ hc.1).2]
    have hlen:=λρ=>(aMy ρ hc.1).1;cases hm:aV d ow with
    | true=>
     rw[hm] at h;exact⟨⟨_,h,aUc (us:=[]) λS' hA ρ=>aKl hd hty hb.2.1 rfl (hr' S' hA ρ) (hlen ρ) (Nat.eq_of_beq_eq_true hc.2) (Nat.le_of_ble_eq_true hb.2.2)⟩⟩
    | false=>
     rw[hm] at h;simp only[cond_false] at h;cases hfl:aV (d+10000) ow with
     | true=>
      rw[hfl] at h;exact dL (us:=[]) h λS' hA ρ=>bXs hd hty hb.2.1 rfl (hr' S' hA ρ) (hlen ρ) (Nat.eq_of_beq_eq_true hc.2) (Nat.le_of_ble_eq_true hb.2.2)
     |false=>
     rw[hfl] at h;exact dL (us:=[]) h λS' hA ρ=>nK hd hty hb.2.1 rfl (hr' S' hA ρ) (hlen ρ) (Nat.eq_of_beq_eq_true hc.2) (Nat.le_of_ble_eq_true hb.2.2)
   ·exact h.elim
  ·exact h.elim
 ·exact h.elim
theorem aGl{t:Nat}{Q:Nat->Nat->Prop}(h:aFd T t Q):∃e k,kB P t e k/\Q e k:=by
 unfold aFd at h;split at h
 ·rename_i i e h1
  split at h
  ·rename_i j td h2
   exact⟨e,j.size,⟨λw=>run_underlying (Tr'.ok h1).2 w,λw=>aCm h2 w⟩,h⟩
  ·exact h.elim
 ·exact h.elim
theorem cFa[Mode]{t:Nat}{x y:Operand}(hd:d<n)(h:bYt T n S ⟨some d,.indexAddr t x y,ty,pos,af,gd⟩ t x y K):cA P n ⟨some d,.indexAddr t x y,ty,pos,af,gd⟩ S K:=by
 have mx:x∈(Op.indexAddr t x y).operands.toList:=by simp[Op.operands]
 have my:y∈(Op.indexAddr t x y).operands.toList:=by simp[Op.operands]
 unfold bYt at h;split at h
 ·rename_i hx hy
  obtain⟨e,k',hs,h⟩:=aGl h;obtain⟨hk,⟨ds,hp,g⟩⟩:=jD h;have hk:=Nat.eq_of_beq_eq_true hk;subst hk;exact dL (us:=[]) g λS' hA ρ=>qZ hd (evS hA mx hx) (evS hA my hy) hs hp
 ·rename_i hx hy
  split at h
  ·rename_i hm
   obtain⟨e,k',hs,h⟩:=aGl h;obtain⟨hk,⟨ds,hp,g⟩⟩:=jD h;have hk:=Nat.eq_of_beq_eq_true hk;subst hk;refine dL g λS' hA ρ=>?_;obtain⟨i,hi⟩:=aMg ρ hA (by simp) hm;exact tY hd (evS hA mx hx) hi (evS hA my hy) hs hp
  ·exact h
 ·exact h
theorem cFc[Mode]{t:Nat}{x:Operand}(hd:d<n)(h:bYv T n S ⟨some d,.call {callee:=.builtin .len,args:= #[x],argTypes:= #[t]},ty,pos,af,gd⟩ x t K):cA P n ⟨some d,.call {callee:=.builtin .len,args:= #[x],argTypes:= #[t]},ty,pos,af,gd⟩ S K:=by
 have mx:x∈(Op.call {callee:=.builtin .len,args:= #[x],argTypes:= #[t]}).operands.toList:=by simp[Op.operands,Call.operands]
 unfold bYv at h;split at h
 ·rename_i hx
  obtain⟨e,k',hs,⟨m,rfl,h⟩⟩:=aGl h;exact dL (us:=[]) h λS' hA ρ=>bJi hd (evS hA mx hx) hs
 ·rename_i hx
  split at h
  ·rename_i hm
   obtain⟨e,k',hs,⟨m,rfl,h⟩⟩:=aGl h;refine dL h λS' hA ρ=>?_;obtain⟨i,hi⟩:=aMg ρ hA (by simp) hm;exact bEk hd (evS hA mx hx) hi hs
  ·exact h
 ·exact h
theorem bVe[Mode]{t:Nat}{x y:Operand}(hd:d<n)(h:bCv T n ow S ⟨some d,.call {callee:=.builtin .append,args:= #[x,y],argTypes:= #[t,t]},ty,pos,af,gd⟩ d x y t K):cA P n ⟨some d,.call {callee:=.builtin .append,args:= #[x,y],argTypes:= #[t,t]},ty,pos,af,gd⟩ S K:=by
 have mx:x∈(Op.call {callee:=.builtin .append,args:= #[x,y],argTypes:= #[t,t]}).operands.toList:=by simp[Op.operands,Call.operands]
 have my:y∈(Op.call {callee:=.builtin .append,args:= #[x,y],argTypes:= #[t,t]}).operands.toList:=by simp[Op.operands,Call.operands]
 unfold bCv at h;split at h
 ·rename_i hx hy
  split at h
  ·rename_i hm
   split at h
   ·rename_i ht
    split at h
    ·rename_i he
     obtain⟨hb,⟨zs,hz1,hl,g⟩⟩:=jD h
     clear h
     simp only[Bool.and_eq_true] at hb;have hk1:=Nat.eq_of_beq_eq_true hb.2.2.1;have hk2:=Nat.eq_of_beq_eq_true hb.2.2.2.1;have hk3:=Nat.eq_of_beq_eq_true hb.2.2.2.2;subst hk1;subst hk2;subst hk3;obtain⟨hle,rfl⟩:=aNa hz1;obtain⟨z,hty⟩:=aPo ht he rfl hb.1;cases hlt:aV (d+20000) ow with
     | true=>
      rw[hlt] at g;refine⟨⟨_,g,bUv hm (by simp) λS' hA ρ i hi=>?_⟩⟩;exact aWu hd hty (evS hA mx hx) hi (evS hA my hy) hl hle (Nat.le_of_ble_eq_true hb.2.1)
     |false=>
     rw[hlt] at g;refine⟨⟨_,g,bXu hm (by simp) λS' hA ρ i hi=>?_⟩⟩;exact aWu hd hty (evS hA mx hx) hi (evS hA my hy) hl hle (Nat.le_of_ble_eq_true hb.2.1)
    ·exact h.elim
   ·exact h.elim
  ·exact h
 ·rename_i nn k' rows k rows2 hx hy
  split at h
  ·rename_i ht
   split at h
   ·rename_i he
    obtain⟨hb,⟨zs,hz1,hl,g⟩⟩:=jD h
    clear h
    simp only[Bool.and_eq_true] at hb;have hk1:=Nat.eq_of_beq_eq_true hb.2.2.1;have hk2:=Nat.eq_of_beq_eq_true hb.2.2.2.1;subst hk2;subst hk1;obtain⟨hle,rfl⟩:=aNa hz1;obtain⟨z,hty⟩:=aPo ht he rfl hb.1;refine dL (us:=[]) g λS' hA ρ=>?_;have h1:=bLo (st:=S'.at ρ) hd hty (evS hA mx hx) (evS hA my hy) (aMy ρ hb.2.2.2.2).1 hl hle (Nat.le_of_ble_eq_true hb.2.1) (ty:=ty) (pos:=pos) (af:=af) (gd:=gd);cases nn with
    |true=>exact cEo (.d (.weak _ _)) h1
    |false=>exact h1
   ·exact h.elim
  ·exact h.elim
 ·exact h
theorem bYy[Mode]{t:Nat}{x:Operand}{lo hi:Option Operand}(hd:d<n)(h:bKj T n S ⟨some d,.slice t x lo hi none,ty,pos,af,gd⟩ t x lo hi K):cA P n ⟨some d,.slice t x lo hi none,ty,pos,af,gd⟩ S K:=by
 have mx:x∈(Op.slice t x lo hi none).operands.toList:=by simp[Op.operands]
 unfold bKj at h;split at h
 ·rename_i hx
  obtain⟨e,k',hs,h⟩:=aGl h;obtain⟨hk,g⟩:=jD h
  clear h
  have hk:=Nat.eq_of_beq_eq_true hk;subst hk;split at g
  ·obtain⟨m,rfl,⟨es,hsub,g⟩⟩:=g;exact dL (us:=[]) g λS' hA ρ=>aIc hd hs (evS hA mx hx) rfl rfl hsub
  ·rename_i a
   split at g
   ·rename_i ha
    obtain⟨m,rfl,⟨es,hsub,g⟩⟩:=g;exact dL (us:=[]) g λS' hA ρ=>aIc hd hs (evS hA mx hx) (bo (evS hA (by simp[Op.operands]) ha)) rfl hsub
   ·exact g.elim
  ·rename_i b
   split at g
   ·rename_i hb
    obtain⟨es,hsub,g⟩:=g;exact dL (us:=[]) g λS' hA ρ=>aIc hd hs (evS hA mx hx) rfl (bo (evS hA (by simp[Op.operands]) hb)) hsub
   ·exact g.elim
  ·rename_i a b
   split at g
   ·rename_i ha hb
    obtain⟨es,hsub,g⟩:=g;exact dL (us:=[]) g λS' hA ρ=>aIc hd hs (evS hA mx hx) (bo (evS hA (by simp[Op.operands]) ha)) (bo (evS hA (by simp[Op.operands]) hb)) hsub
   ·exact g.elim
 ·exact h
theorem bZd:∀{l:List Operand} {Q:List AV->Prop},evL S l Q->Q (l.map S.ev)
 |[],_,h=>h
 |x::l,Q,h=>bZd (Q:=λvs=>Q (S.ev x::vs)) (aAx (K:=λv=>evL S l λvs=>Q (v::vs)) h)
theorem aNt{S S':VS}(ρ:Rho):∀{l:List Operand},(∀x∈l,S'.ev x=S.ev x)->(S'.at ρ).evals l=(l.map S.ev).map ρ.av
 |[],_=>rfl
 |x::l,h=>by simp only[St.evals,List.map_cons,uF,h x (by simp),aNt ρ λy hy=>h y (List.mem_cons_of_mem _ hy)]
theorem bGe(ρ:Rho):∀{l:List AV},aQs l=true->l.map ρ.av=l.map ρ.a1
 |[],_=>rfl
 |v::l,h=>by simp only[aQs,Bool.and_eq_true] at h;rw[List.map_cons,List.map_cons,aBl ρ h.1,bGe ρ h.2]
theorem cGk[Mode]{f:Go.Fn}{first caps:List Operand}(hd:d<n)(h:xfn (P:=P) n S ⟨some d,.makeFunc f first.toArray caps.toArray,ty,pos,af,gd⟩ f first caps K):cA P n ⟨some d,.makeFunc f first.toArray caps.toArray,ty,pos,af,gd⟩ S K:=by
 unfold xfn at h;split at h
 ·obtain⟨hok,h⟩:=jD h;have h:=bZd (Q:=λvs=>bif aQs vs then K (.p (.fn _ vs)) else cA P n _ S K) h;cases hf:aQs (caps.map S.ev) with
  |false=>rw[hf] at h;exact h
  | true=>
   rw[hf] at h;refine dL (us:=[]) h λS' hA ρ=>?_;have:=aNt (S:=S) (S':=S') ρ (l:=caps) λx hx=>hA.ev x (by simp[Op.operands,hx]);rw[bGe ρ hf] at this;exact bUm hd this hok
 ·exact h
theorem cCl[Mode]{t u:Nat}{x:Operand}(hd:d<n)(h:bRd T n S ⟨some d,.convert t u x,ty,pos,af,gd⟩ t u x K):cA P n ⟨some d,.convert t u x,ty,pos,af,gd⟩ S K:=by
 have mx:x∈(Op.convert t u x).operands.toList:=by simp[Op.operands]
 unfold bRd at h;split at h
 ·rename_i p i k' k p' h1 h2 hx
  exact dL (us:=[]) h λS' hA ρ=>bJg hd (evS hA mx hx) (λw=>run_underlying (Tr'.ok h1).2 w) (λw=>run_underlying (Tr'.ok h2).2 w)
 ·exact h
theorem bOp{α:Type}{a:Array α}{l:List α}(h:a.toList=l):a=l.toArray:=by subst h;simp
theorem bFq[Mode]{o:Oper}(hd:∀d,o.dst=some d->d<n)(h:xop T n ow S o K):cA P n o S K:=by
 obtain⟨dst,op,ty,pos,af,gd⟩:=o;unfold xop at h;cases dst with
 | some d=>
  have hd1:=hd d rfl
  clear hd
  simp only at h;unfold cFf at h;split at h
  ·exact bOa hd1 (.inl rfl) h
  ·exact bOa hd1 (.inr rfl) h
  ·exact aMt hd1 h
  ·exact cEx hd1 h
  ·exact cGm hd1 h
  ·exact cEz hd1 h
  ·exact cFe hd1 h
  ·exact cGl hd1 h
  ·exact cCn hd1 h
  ·exact bYo hd1 h
  ·exact cEy hd1 h
  ·exact cCm hd1 h
  ·rename_i l;obtain⟨l⟩:=l;exact bYr hd1 h
  ·rename_i l;obtain⟨l⟩:=l;exact cFd hd1 h
  ·exact cFa hd1 h
  ·exact bYy hd1 h
  ·rename_i f a b;obtain⟨a⟩:=a;obtain⟨b⟩:=b;exact cGk hd1 h
  ·exact cCl hd1 h
  ·exact cCo hd1 h
  ·rename_i c
   split at h
   ·rename_i b hb
    obtain⟨callee,args,ts⟩:=c;simp only at hb h;subst hb;unfold bVf at h;split at h
    ·rename_i ha ht
     have ha:=bOp ha;have ht:=bOp ht;subst ha;subst ht;exact cFc hd1 h
    ·rename_i ha ht
     have ha:=bOp ha;have ht:=bOp ht;subst ha;subst ht
     rename_i t u
     cases htu:Nat.beq t u with
     | true=>
      rw[htu] at h;have:=Nat.eq_of_beq_eq_true htu;subst this;exact bVe hd1 h
     |false=>rw[htu] at h;exact h
    ·exact h
   ·exact h
  ·exact h
 | none=>
  simp only at h;split at h
  ·exact bYz h
  ·exact h
end
end Go.Am
end
section
namespace Go.Am
def okD:D->Bool
 | .hv .. =>false
 |_=>true
def vD1(objs:List (Nat×VO)):D->D
 | .hv q h j=>match q,ob objs h with
  |0,some (.arr _ k rows)=>.sl k rows
  |1,some (.map agg es)=>.mp agg es
  |_,_=>.hv q h j
 |x=>x
def vA0(objs:List (Nat×VO)):AV->AV
 | .d x=>.d (vD1 objs x)
 | .agg xs=>.agg (xs.map (vD1 objs))
 | .bp h o j=>match ob objs h with
  |some (.box ds)=>bif Nat.ble j ds.length&&((ds.drop j).map (vD1 objs)).all okD then .cp ((ds.drop j).map (vD1 objs)) else .bp h o j
  |_=>.bp h o j
 |x=>x
def vA1(objs:List (Nat×VO)):AV->AV
 | .tup vs=>.tup (vs.map (vA0 objs))
 | .fn f vs=>.fn f (vs.map (vA0 objs))
 |x=>vA0 objs x
def vA(objs:List (Nat×VO)):AV->AV
 | .tup vs=>.tup (vs.map (vA1 objs))
 | .fn f vs=>.fn f (vs.map (vA1 objs))
 |x=>vA0 objs x
def ok0:AV->Bool
 | .d x=>okD x
 | .agg xs=>xs.all okD
 | .bp .. =>false
 | .ep .. =>false
 |_=>true
def ok1:AV->Bool
 | .tup vs=>vs.all ok0
 | .fn _ vs=>vs.all ok0
 | .mf _ vs=>vs.all ok0
 |x=>ok0 x
def okA:AV->Bool
 | .tup vs=>vs.all ok1
 | .fn _ vs=>vs.all ok1
 | .mf _ vs=>vs.all ok1
 |x=>ok0 x
def sW(objs:List MO):Prop:=∀v e k rows,MO.arr v e k rows∈objs->∀r∈rows,r.length=k
theorem aSx[Mode]{w:World}{X:aS}{objs:List MO}(h:∀m∈objs,m.holds w X):sW objs:=λv e k rows hm=>by
 obtain⟨_,_,_,hr⟩:=h _ hm;exact hr
theorem sQ{α:Type}{f:α->α}{p:α->Bool}(hp:∀x,p x=true->f x=x):∀{l:List α},l.all p=true->l.map f=l
 |[],_=>rfl
 | x::l,h=>by
  simp only[List.all_cons,Bool.and_eq_true] at h;rw[List.map_cons,hp x h.1,sQ hp h.2]
section
variable(ρ:Rho)
theorem bIn{x:D}(h:okD x=true):ρ.dd x=x:=by cases x<;>first|rfl|simp[okD] at h
theorem yX{x:AV}(h:ok0 x=true):ρ.a0 x=x:=by
 cases x with
 |d x=>simp only[Rho.a0,bIn ρ (show okD x=true from h)]
 |agg xs=>simp only[Rho.a0,sQ (λx=>bIn ρ (x:=x)) h]
 |bp=>simp[ok0] at h
 |ep=>simp[ok0] at h
 |_=>rfl
theorem aSm{x:AV}(h:ok1 x=true):ρ.a1 x=x:=by
 cases x with
 |tup vs=>simp only[Rho.a1,sQ (λx=>yX ρ (x:=x)) h]
 |fn f vs=>simp only[Rho.a1,sQ (λx=>yX ρ (x:=x)) h]
 |mf f vs=>simp only[Rho.a1,sQ (λx=>yX ρ (x:=x)) h]
 |any=>rfl
 |d x=>exact yX ρ (x:=.d x) h
 |agg x=>exact yX ρ (x:=.agg x) h
 |cp x=>rfl
 |bp b o j=>exact yX ρ (x:=.bp b o j) h
 |ep v k i c=>exact yX ρ (x:=.ep v k i c) h
 |fl=>rfl
theorem aAi{x:AV}(h:okA x=true):ρ.av x=x:=by
 cases x with
 |tup vs=>simp only[Rho.av,sQ (λx=>aSm ρ (x:=x)) h]
 |fn f vs=>simp only[Rho.av,sQ (λx=>aSm ρ (x:=x)) h]
 |mf f vs=>simp only[Rho.av,sQ (λx=>aSm ρ (x:=x)) h]
 |any=>rfl
 |d x=>exact yX ρ (x:=.d x) h
 |agg x=>exact yX ρ (x:=.agg x) h
 |cp x=>rfl
 |bp b o j=>exact yX ρ (x:=.bp b o j) h
 |ep v k i c=>exact yX ρ (x:=.ep v k i c) h
 |fl=>rfl
variable{objs:List (Nat×VO)}
theorem bIl{h:Nat}{m:VO}(hm:ob objs h=some m):ρ.mo h m∈objs.map λp=>ρ.mo p.1 p.2:=by
 obtain⟨i,hi,_⟩:=sE (ρ:=ρ) hm;exact List.mem_of_getElem? hi
theorem bKg(hr:sW (objs.map λp=>ρ.mo p.1 p.2))(x:D):DV (objs.map λp=>ρ.mo p.1 p.2) (ρ.dd x) (ρ.dd (vD1 objs x)):=by
 cases x with
 | hv q h j=>
  simp only[vD1]
  split
  ·rename_i hm
   have hmem:=bIl ρ hm;exact .arr _ _ _ _ _ hmem rfl (hr _ _ _ _ hmem) λ_ _ _ _=>.same _
  ·rename_i hm
   exact .mapx _ _ _ (bIl ρ hm)
  ·exact .same _
 |_=>exact .same _
theorem bBg{fs:List MO}{f g:D->D}(h:∀x,DV fs (f x) (g x)):∀l:List D,DVs fs (l.map f) (l.map g)
 |[]=>trivial
 |x::l=>⟨h x,bBg h l⟩
theorem aGr(hr:sW (objs.map λp=>ρ.mo p.1 p.2))(x:AV):BV (objs.map λp=>ρ.mo p.1 p.2) (ρ.a0 x) (ρ.a0 (vA0 objs x)):=by
 cases x with
 |d x=>exact .d (bKg ρ hr x)
 | agg xs=>
  have:=bBg (bKg ρ hr) xs;simp only[Rho.a0,vA0,List.map_map];exact .agg this
 | bp h o j=>
  simp only[vA0]
  split
  ·rename_i ds hm
   have hmem:=bIl ρ hm;cases hj:(Nat.ble j ds.length&&((ds.drop j).map (vD1 objs)).all okD) with
   |false=>exact .same _
   | true=>
    simp only[Bool.and_eq_true] at hj;refine .bp _ _ j (ds.map ρ.dd) _ hmem (by simpa using Nat.le_of_ble_eq_true hj.1) ?_;have h1:=bBg (bKg ρ hr) (ds.drop j);have h2:((ds.drop j).map (vD1 objs)).map ρ.dd=(ds.drop j).map (vD1 objs):=sQ (λx=>bIn ρ (x:=x)) hj.2;rw[<-List.map_drop,<-h2,List.map_map];exact h1
  ·exact .same _
 |_=>exact .same _
theorem aLp{fs:List MO}{f g:AV->AV}(h:∀x,BV fs (f x) (g x)):∀l:List AV,BVs fs (l.map f) (l.map g)
 |[]=>.nil
 |x::l=>.cons (h x) (aLp h l)
theorem bVb(b o j:Nat):ρ.a1 (vA0 objs (.bp b o j))=ρ.a0 (vA0 objs (.bp b o j))/\ρ.av (vA0 objs (.bp b o j))=ρ.a0 (vA0 objs (.bp b o j)):=by
 simp only[vA0]
 split
 ·cases(Nat.ble j _&&_)<;>exact⟨rfl,rfl⟩
 ·exact⟨rfl,rfl⟩
theorem bVc(hr:sW (objs.map λp=>ρ.mo p.1 p.2))(x:AV):BV (objs.map λp=>ρ.mo p.1 p.2) (ρ.a1 x) (ρ.a1 (vA1 objs x)):=by
 cases x with
 | tup vs=>
  simp only[Rho.a1,vA1,List.map_map];exact yH (aLp (aGr ρ hr) vs)
 | fn f vs=>
  simp only[Rho.a1,vA1,List.map_map];exact bOr (aLp (aGr ρ hr) vs)
 |mf f vs=>exact .same _
 |any=>exact .same _
 |d x=>exact aGr ρ hr (.d x)
 |agg x=>exact aGr ρ hr (.agg x)
 |cp x=>exact .same _
 |bp b o j=>exact(bVb ρ b o j).1▸aGr ρ hr (.bp b o j)
 |ep v k i c=>exact .same _
 |fl=>exact .same _
theorem aKq(hr:sW (objs.map λp=>ρ.mo p.1 p.2))(x:AV):BV (objs.map λp=>ρ.mo p.1 p.2) (ρ.av x) (ρ.av (vA objs x)):=by
 cases x with
 | tup vs=>
  simp only[Rho.av,vA,List.map_map];exact yH (aLp (bVc ρ hr) vs)
 | fn f vs=>
  simp only[Rho.av,vA,List.map_map];exact bOr (aLp (bVc ρ hr) vs)
 |mf f vs=>exact .same _
 |any=>exact .same _
 |d x=>exact aGr ρ hr (.d x)
 |agg x=>exact aGr ρ hr (.agg x)
 |cp x=>exact .same _
 |bp b o j=>exact(bVb ρ b o j).2▸aGr ρ hr (.bp b o j)
 |ep v k i c=>exact .same _
 |fl=>exact .same _
theorem aKr(hr:sW (objs.map λp=>ρ.mo p.1 p.2)){x y:AV}(h:vA objs x=y)(hy:okA y=true):BV (objs.map λp=>ρ.mo p.1 p.2) (ρ.av x) y:=by
 have:=aKq ρ hr x;rw[h,aAi ρ hy] at this;exact this
end
def goO(hs:List Nat):List (Nat×VO)->List (Nat×VO)
 |[]=>[]
 |p::l=>bif aV p.1 hs then p::goO hs l else goO hs l
def stO(hs:List Nat):List (Nat×VO)->List (Nat×VO)
 |[]=>[]
 |p::l=>bif aV p.1 hs then stO hs l else p::stO hs l
def goK(hs:List Nat):List (Nat×VO)->(List (Nat×VO)->List (Nat×VO)->Prop)->Prop
 |[],K=>K [] []
 |p::l,K=>goK hs l λa b=>bif aV p.1 hs then K (p::a) b else K a (p::b)
theorem bZf{hs:List Nat}:∀{l:List (Nat×VO)} {K:List (Nat×VO)->List (Nat×VO)->Prop},goK hs l K->K (goO hs l) (stO hs l)
 |[],_,h=>h
 | p::l,K,h=>by
  have:=bZf (K:=λa b=>bif aV p.1 hs then K (p::a) b else K a (p::b)) h;simp only[goO,stO];cases hb:aV p.1 hs with
  |true=>rw[hb] at this;exact this
  |false=>rw[hb] at this;exact this
theorem bBm{hs:List Nat}{f:Nat×VO->MO}:∀{l:List (Nat×VO)},(l.map f).Perm ((stO hs l).map f++(goO hs l).map f)
 |[]=>.refl _
 | p::l=>by
  simp only[goO,stO];cases aV p.1 hs with
  | true=>
   simp only[cond_true,List.map_cons];exact(List.Perm.cons _ bBm).trans List.perm_middle.symm
  | false=>
   simp only[cond_false,List.map_cons,List.cons_append];exact .cons _ bBm
def bHy(go:List (Nat×VO)):List (Nat×AV)->(List (Nat×AV)->Prop)->Prop
 |[],K=>K []
 |p::l,K=>frc (vA go p.2) λv=>bHy go l λr=>K ((p.1,v)::r)
theorem bTb{go:List (Nat×VO)}:∀{l:List (Nat×AV)} {K:List (Nat×AV)->Prop},bHy go l K->K (l.map λp=>(p.1,vA go p.2))
 |[],_,h=>h
 |p::l,K,h=>bTb (K:=λr=>K ((p.1,vA go p.2)::r)) (aAx (K:=λv=>bHy go l λr=>K ((p.1,v)::r)) h)
def bWs(hs:List Nat)(S:VS)(K:VS->Prop):Prop:=goK hs S.objs λgo st=>bHy go S.env λenv=>K ⟨env,st⟩
def bWt(hs:List Nat)(S:VS):VS:=⟨S.env.map λp=>(p.1,vA (goO hs S.objs) p.2),stO hs S.objs⟩
theorem bTc{hs:List Nat}{S:VS}{K:VS->Prop}(h:bWs hs S K):K (bWt hs S):=
 bTb (K:=λenv=>K ⟨env,stO hs S.objs⟩) (bZf (K:=λgo st=>bHy go S.env λenv=>K ⟨env,st⟩) h)
theorem bTd{f:AV->AV}(hf:f .any=.any){k:Nat}:∀{l:List (Nat×AV)},lk (l.map λp=>(p.1,f p.2)) k=f (lk l k)
 |[]=>hf.symm
 | p::l=>by
  simp only[List.map_cons,lk];cases Nat.beq p.1 k with
  |true=>rfl
  |false=>exact bTd hf
theorem bHz[Mode]{hs:List Nat}{S:VS}(ρ:Rho):Ent (S.at ρ) ((bWt hs S).at ρ):=λA M w0 n a w hR=>by
 have hp:=bBm (hs:=hs) (f:=λp=>ρ.mo p.1 p.2) (l:=S.objs);have hr:sW ((goO hs S.objs).map λp=>ρ.mo p.1 p.2):=λv e k rows hm=>aSx hR.inv.holds v e k rows (hp.mem_iff.2 (List.mem_append.2 (.inr hm)));refine pC (env:=(S.at ρ).env) (env':=((bWt hs S).at ρ).env) hp (λk=>?_) A M w0 n a w hR;show BV _ (ρ.av (lk S.env k)) (ρ.av (lk (S.env.map λp=>(p.1,vA (goO hs S.objs) p.2)) k));rw[bTd rfl];exact aKq ρ hr _
def lkL:List (Nat×List Nat)->Nat->List Nat
 |[],_=>[]
 |p::l,k=>bif Nat.beq p.1 k then p.2 else lkL l k
end Go.Am
end
end
