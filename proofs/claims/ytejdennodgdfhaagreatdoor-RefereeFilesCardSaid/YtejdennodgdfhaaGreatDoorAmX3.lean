/- Walks by reckoning: operations. -/
import Derived.Test.YtejdennodgdfhaaGreatDoorAmFam
import Derived.Test.YtejdennodgdfhaaGreatDoorAmClose
import Derived.Test.YtejdennodgdfhaaGreatDoorAmNd
namespace Go.Am
structure OB(b:Bool)(K:Bool->Prop):Prop where
 h:K b
theorem aTe{b:Bool}{K:Bool->Prop}(h:OB b K):K b:=h.h
def aHs(x:D)(K:D->Prop):Prop:=match x with
 | .lit v=>K (.lit v)| .sl k r=>K (.sl k r)| .sn k r=>K (.sn k r)| .mp a e=>K (.mp a e)| .pt xs=>K (.pt xs)| .hv q h j=>K (.hv q h j)| .fc m f xs=>K (.fc m f xs)
def frc(v:AV)(K:AV->Prop):Prop:=match v with
 | .any=>K .any| .d x=>aHs x λx=>K (.d x)| .agg xs=>K (.agg xs)| .cp xs=>K (.cp xs)| .bp b o j=>K (.bp b o j)| .ep v k i c=>K (.ep v k i c)
 | .tup vs=>K (.tup vs)| .fn f c=>K (.fn f c)| .mf f c=>K (.mf f c)| .fl n k r=>K (.fl n k r)
def aYk:List D->(List D->Prop)->Prop
 |[],K=>K []
 |x::l,K=>aHs x λx=>aYk l λl=>K (x::l)
theorem aQj{x:D}{K:D->Prop}(h:aHs x K):K x:=by cases x<;>exact h
theorem vC{x:AV}{K:AV->Prop}(h:frc x K):K x:=by
 cases x with
 |d x=>exact aQj (K:=λx=>K (.d x)) h
 |_=>exact h
theorem aYl:∀{l:List D} {K:List D->Prop},aYk l K->K l
 |[],_,h=>h
 |x::_,K,h=>aYl (K:=λl=>K (x::l)) (aQj (K:=λx=>aYk _ λl=>K (x::l)) h)
def tdK:Nat->Nat->List D->(List D->Prop)->Prop
 |0,_,_,K=>K []
 |_+1,_,[],_=>False
 |m+1,0,x::l,K=>aHs x λx=>tdK m 0 l λes=>K (x::es)
 |m+1,j+1,_::l,K=>tdK (m+1) j l K
theorem xS:∀{m j:Nat} {ds:List D} {K:List D->Prop},tdK m j ds K->((ds.drop j).take m).length=m/\K ((ds.drop j).take m)
 |0,_,_,_,h=>⟨by simp,by simpa[tdK] using h⟩
 |_+1,_,[],_,h=>by simp[tdK] at h
 | m+1,0,x::l,K,h=>by
  simp only[tdK] at h;have:=xS (K:=λes=>K (x::es)) (aQj (K:=λx=>tdK m 0 l λes=>K (x::es)) h)
  simpa using this
 | m+1,j+1,x::l,K,h=>by
  simp only[tdK] at h
  simpa using xS h
def ptK:Nat->List D->List D->(List D->Prop)->Prop
 |_,[],ds,K=>K ds
 |_,_::_,[],_=>False
 |0,e::es,_::ds,K=>aHs e λe=>ptK 0 es ds λr=>K (e::r)
 |j+1,e::es,x::ds,K=>ptK j (e::es) ds λr=>K (x::r)
theorem bFd:∀{j:Nat} {es ds:List D} {K:List D->Prop},j<=ds.length->ptK j es ds K->j+es.length<=ds.length/\K (fD ds j es)
 | j,[],ds,K,hj,h=>by
  simp only[ptK] at h;refine⟨by simpa using hj,?_⟩
  simpa[fD] using h
 |_,_::_,[],_,_,h=>by simp[ptK] at h
 | 0,e::es,x::ds,K,_,h=>by
  simp only[ptK] at h;have:=bFd (j:=0) (K:=λr=>K (e::r)) (by omega) (aQj (K:=λe=>ptK 0 es ds λr=>K (e::r)) h);refine⟨by simp at this|-;omega,?_⟩;have h2:=this.2
  simp[fD] at h2|-
  exact h2
 | j+1,e::es,x::ds,K,hj,h=>by
  simp only[ptK] at h;have:=bFd (j:=j) (K:=λr=>K (x::r)) (by simp at hj;omega) h;refine⟨by simp at this|-;omega,?_⟩;have h2:=this.2;simp only[fD,List.take_succ_cons,List.cons_append] at h2|-;rw[show j+1+(e::es).length=(j+(e::es).length)+1 by omega,List.drop_succ_cons];exact h2
theorem qF{k k':IntKind}(h:Nat.beq k.ctorIdx k'.ctorIdx=true):k=k':=by
 have:=Nat.eq_of_beq_eq_true h;cases k<;>cases k'<;>first|rfl|simp[IntKind.ctorIdx] at this
section
variable{P:Program}(T:TT P)(n:Nat)(ow:List Nat)(S:VS)(o:Oper)(d:Nat)
def uP(x:Operand)(K:Eff->Prop):Prop:=bif cJ x then frc (S.ev x) λv=>K (.p v) else False
def aXz(t:Nat)(K:Nat->Nat->Nat->Prop):Prop:=match T.ty.get t with
 | some (_,.slice e)=>match T.ty.get e with
  |some (j,_)=>K e j.size j.bytes
  |none=>False
 |_=>False
def aWp(x:Operand)(K:Eff->Prop):Prop:=match x with
 | .const (.slice none 0 0)=>aXz T o.type λe k _=>bif bF d ow&&!(kZ d S) then K ⟨.d (.hv 0 d 0),[(d,some (.arr e k []))],[],[d]⟩ else K (.p (.d (.sl k [])))
 |x=>uP S x K
def aJa(c x y:Operand)(K:Eff->Prop):Prop:=match S.ev c with
 | .d (.lit (.bool b))=>OB b λb=>match b with|true=>uP S x K|false=>uP S y K
 |_=>False
def bNq[Mode](op:BinOp)(k k':IntKind)(p q:Int)(K:Eff->Prop):Prop:=match op with
 | .add=>bif Nat.beq k.ctorIdx k'.ctorIdx then K (.p (.d (.lit (.int k (k.wrap (p+q)))))) else False
 | .sub=>bif Nat.beq k.ctorIdx k'.ctorIdx then K (.p (.d (.lit (.int k (k.wrap (p-q)))))) else False
 | .mul=>bif Nat.beq k.ctorIdx k'.ctorIdx then K (.p (.d (.lit (.int k (k.wrap (p*q)))))) else False
 | .lss=>bif Nat.beq k.ctorIdx k'.ctorIdx then K (.p (.b (decide (p<q)))) else False
 | .leq=>bif Nat.beq k.ctorIdx k'.ctorIdx then K (.p (.b (decide (p<=q)))) else False
 | .gtr=>bif Nat.beq k.ctorIdx k'.ctorIdx then K (.p (.b (decide (q<p)))) else False
 | .geq=>bif Nat.beq k.ctorIdx k'.ctorIdx then K (.p (.b (decide (q<=p)))) else False
 | .eql=>bif Nat.beq k.ctorIdx k'.ctorIdx then K (.p (.b (decide (p=q)))) else False
 | .neq=>bif Nat.beq k.ctorIdx k'.ctorIdx then K (.p (.b (!decide (p=q)))) else False
 | .quo=>bif Nat.beq k.ctorIdx k'.ctorIdx then q≠0/\K (.p (.d (.lit (.int k (k.wrap (p.tdiv q)))))) else False
 | .rem=>bif Nat.beq k.ctorIdx k'.ctorIdx then q≠0/\K (.p (.d (.lit (.int k (p.tmod q))))) else False
 | .shl=>0<=q/\K (.p (.d (.lit (.int k (k.wrap (p*2^(min q.toNat k.bits)))))))
 | .shr=>0<=q/\K (.p (.d (.lit (.int k (p.fdiv (2^(min q.toNat k.bits)))))))
 |_=>cS P n o S K
def bNl[Mode](op:BinOp)(t:Nat)(x y:Operand)(K:Eff->Prop):Prop:=match S.ev x,S.ev y with
 | .d (.lit (.int k p)),.d (.lit (.int k' q))=>bNq (P:=P) n S o op k k' p q K
 |_,_=>cS P n o S K
def xun[Mode](op:UnOp)(x:Operand)(K:Eff->Prop):Prop:=match op,S.ev x with
 | .not,.d (.lit (.bool b))=>K (.p (.b (!b)))
 | .neg,.d (.lit (.int k p))=>K (.p (.d (.lit (.int k (k.wrap (-p))))))
 |_,_=>cS P n o S K
def aTd:List Field->Nat->Option Field
 |[],_=>none
 |f::_,0=>some f
 |_::l,i+1=>aTd l i
theorem bCl:∀{l:List Field} {i:Nat},aTd l i=l[i]?
 |[],_=>by simp[aTd]
 |_::_,0=>by simp[aTd]
 |_::l,i+1=>by simp[aTd,bCl (l:=l)]
def bNo(t:Nat)(x:Operand)(f:Nat)(K:Eff->Prop):Prop:=match T.ty.get t with
 | some (_,.struct fs)=>match aTd fs.toList f with
  | some fd=>match T.ty.get fd.type with
   | some (j,_)=>bif Nat.ble 1 j.size then(match S.ev x with
     | .bp h _ i=>K (.p (.bp h 0 (Nat.add i fd.offset)))
     | .cp ds=>tdK j.size fd.offset ds λes=>K (.p (.cp es))
     | .ep (.map (some q)) k i c=>K (.p (.ep (.map (some q)) k i (Nat.add c fd.offset)))
     |_=>False) else False
   |none=>False
  |none=>False
 |_=>False
def bNt[Mode](x:Operand)(K:Eff->Prop):Prop:=match S.ev x with
 | .cp ds=>K (.p (.cp ds))
 | .bp h _ j=>K (.p (.bp h 0 j))
 |_=>cS P n o S K
def one1(es:List D)(K:D->Prop):Prop:=match es with
 |[x]=>K x
 |_=>False
def bFx[Mode](t:Nat)(x:Operand)(K:Eff->Prop):Prop:=match T.ty.get t with
 | some (i,td)=>match S.ev x with
  | .cp ds=>bif aCo td then tdK i.size 0 ds λes=>K (.p (.agg es)) else bif Nat.beq i.size 1 then tdK 1 0 ds λes=>one1 es λx=>K (.p (.d x)) else False
  | .bp h _ j=>match ob S.objs h with
   |some (.box ds)=>bif aCo td then tdK i.size j ds λes=>K (.r (.agg es) [h]) else bif Nat.beq i.size 1 then tdK 1 j ds λes=>one1 es λx=>K (.r (.d x) [h]) else False
   |_=>cS P n o S K
  | .ep (.map (some h)) kk r c=>match ob S.objs h with
   |some (.arr _ k rows)=>Nat.beq kk k=true/\∃ds,rows[r]?=some ds/\(bif aCo td then tdK i.size c ds λes=>K (.r (.agg es) [h]) else bif Nat.beq i.size 1 then tdK 1 c ds λes=>one1 es λx=>K (.r (.d x) [h]) else False)
   |_=>cS P n o S K
  |_=>cS P n o S K
 |none=>False
def hvD:D->Bool
 | .hv .. =>true
 |_=>false
def bEt(y:Operand)(l es:List D):List D:=match y with
 | .const (.slice none 0 0)=>(match l with
  | .sl k _::_=>[.sl k []]
  |_=>es)
 |_=>es
def bAs[Mode](t:Nat)(x y:Operand)(K:Eff->Prop):Prop:=match T.ty.get t with
 | some (i,_)=>bif cJ y then(match(S.ev y).cells with
  | some es=>bif Nat.beq es.length i.size&&Nat.ble 1 i.size then(match S.ev x with
   | .bp h _ j=>match ob S.objs h with
    |some (.box ds)=>bif Nat.ble j ds.length then ptK j (bEt y (ds.drop j) es) ds λds'=>K ⟨.any,[(h,some (.box ds'))],[h],[]⟩ else False
    |_=>cS P n o S K
   | .ep (.map (some h)) kk r c=>match ob S.objs h with
    |some (.arr e k rows)=>bif es.any hvD then False else Nat.beq kk k=true/\∃ds rows',rows[r]?=some ds/\c+es.length<=ds.length/\rows.set r (fD ds c es)=rows'/\K ⟨.any,[(h,some (.arr e k rows'))],[h],[]⟩
    |_=>cS P n o S K
   |_=>cS P n o S K) else False
  |none=>False) else False
 |none=>False
def bRp:List Field->Nat->Option Nat
 |[],_=>none
 | f::l,j=>bif Nat.beq f.offset j then(match T.ty.get f.type with
  |some (_,.slice e)=>some e
  |_=>none) else bRp l j
def aXy(t j:Nat):Option Nat:=match T.ty.get t with
 |some (_,.slice e)=>some e
 |some (_,.struct fs)=>bRp T fs.toList j
 |_=>none
def aTh(f:Nat->Option Nat):Nat->List D->List (Nat×Nat×Nat)
 |_,[]=>[]
 | j,x::l=>bif bF (100000*(j+1)+d) ow then(match x,f j with
  | .sl k [],some e=>(j,k,e)::aTh f (j+1) l
  |_,_=>aTh f (j+1) l) else aTh f (j+1) l
def aLi:Nat->List D->List D
 |_,[]=>[]
 | j,x::l=>(bif bF (100000*(j+1)+d) ow then(match x with
  | .sl _ []=>.lit (.slice none 0 0)
  |x=>x) else x)::aLi (j+1) l
def bEm:Option D->Bool
 |some (.lit (.slice none 0 0))=>true
 |_=>false
def bEx:List (Nat×Nat×Nat)->List D->List (Nat×Option VO)->List Nat->(Eff->Prop)->Prop
 |[],zs,ch,nw,K=>K ⟨.bp d 0 0,ch++[(d,some (.box zs))],[],nw⟩
 | (j,k,e)::c,zs,ch,nw,K=>bif bEm zs[j]?&&!(xF (1000*(j+1)+d) ⟨.bp d 0 0,ch++[(d,some (.box zs))],[],nw⟩) then
   bEx c (zs.set j (.hv 0 (1000*(j+1)+d) 0)) (ch++[(1000*(j+1)+d,some (.arr e k []))]) ((1000*(j+1)+d)::nw) K else False
def bAp(t:Nat)(K:Eff->Prop):Prop:=match T.zr.get t with
 | some zs=>bif bF (d+30000) ow then(bif (aLi ow d 0 zs).any (aDd d) then False else bEx d (aTh ow d (aXy T t) 0 zs) (aLi ow d 0 zs) [] [d] K)
  else bif zs.any (aDd d) then False else K ⟨.bp d 0 0,[(d,some (.box zs))],[],[d]⟩
 |none=>False
def bNm(x:Operand)(K:Eff->Prop):Prop:=bif cJ x then(match(S.ev x).cells with
 |some ds=>aYk ds λds=>bif ds.any (aDd d) then False else K ⟨.bp d 0 0,[(d,some (.box ds))],[],[d]⟩
 |none=>False) else False
def aTc:List AV->Nat->Option AV
 |[],_=>none
 |f::_,0=>some f
 |_::l,i+1=>aTc l i
theorem bCk:∀{l:List AV} {i:Nat},aTc l i=l[i]?
 |[],_=>by simp[aTc]
 |_::_,0=>by simp[aTc]
 |_::l,i+1=>by simp[aTc,bCk (l:=l)]
def aBy:AV->Bool
 | .tup _=>false
 | .fn _ _=>false
 | .mf _ _=>false
 |_=>true
def aJw:List AV->Bool
 |[]=>true
 |v::l=>aBy v&&aJw l
def bFw[Mode](x:Operand)(i:Nat)(K:Eff->Prop):Prop:=match S.ev x with
 | .tup vs=>match aTc vs i with
  |some v=>bif aBy v then frc v λv=>K (.p v) else False
  |none=>False
 |_=>cS P n o S K
def aZm:List Field->Option (List (Nat×Nat))
 |[]=>some []
 | f::l=>match T.ty.get f.type,aZm l with
  |some (j,_),some r=>some ((f.offset,j.size)::r)
  |_,_=>none
def aZi:List (Nat×Nat×Nat)->List D->List (Nat×Option VO)->List Nat->(Eff->Prop)->Prop
 |[],xs,ch,nw,K=>K ⟨.agg xs,ch,[],nw⟩
 | (j,k,e)::c,xs,ch,nw,K=>bif bEm xs[j]?&&!(xF (1000*(j+1)+d) ⟨.agg xs,ch,[],nw⟩) then
   aZi c (xs.set j (.hv 0 (1000*(j+1)+d) 0)) (ch++[(1000*(j+1)+d,some (.arr e k []))]) ((1000*(j+1)+d)::nw) K else False
def bAq[Mode](t:Nat)(l:List (Nat×Operand))(K:Eff->Prop):Prop:=match T.ty.get t,T.zr.get t with
 | some (_,.struct fs),some zs=>match aZm T fs.toList with
  | some pl=>bif uA l then(match xA (λi=>pl[i]?) (bif bF (d+30000) ow then aLi ow d 0 zs else zs) (St.parts ⟨λk=>lk S.env k,[]⟩ l) with
   |some es=>aYk es λes=>bif bF (d+30000) ow then aZi d (aTh ow d (aXy T t) 0 zs) es [] [] K else K (.p (.agg es))
   |none=>False) else False
  |none=>False
 |_,_=>cS P n o S K
def aJy(k:Nat):List (List D)->Bool
 |[]=>true
 |r::l=>Nat.beq r.length k&&(!(r.any hvD)&&aJy k l)
def bNs(t len:Nat)(l:List (Nat×Operand))(K:Eff->Prop):Prop:=match T.ty.get t with
 | some (_,.slice e)=>match T.ty.get e with
  | some (j,_)=>bif Nat.ble 1 j.size&&(uA l&&Nat.ble (len*j.size) 16777216) then(match oD 0 (St.parts ⟨λk=>lk S.env k,[]⟩ l) with
    |some rows=>bif aJy j.size rows&&Nat.beq rows.length len then(bif bF d ow then K ⟨.d (.hv 0 d 0),[(d,some (.arr e j.size rows))],[],[d]⟩ else bif bF (d+10000) ow then K (.p (.fl true j.size rows)) else K (.p (.d (.sl j.size rows)))) else False
    |none=>False) else False
  |none=>False
 |_=>False
structure bKa(rows:List (List D))(p:Int)(K:List D->Prop):Prop where
 h:∃ds,idx rows p=some ds/\K ds
structure aWx(rows:List (List D))(K:Int->Prop):Prop where
 h:∃m:Int,(rows.length:Int)=m/\K m
structure bDq(k bytes:Nat)(rows rows2:List (List D))(K:List (List D)->Prop):Prop where
 h:∃zs,app bytes rows rows2=some zs/\(∀r∈rows2,r.length=k)/\K zs
structure aWy(rows:List (List D))(lo hi:Int)(K:List (List D)->Prop):Prop where
 h:∃es,sub rows lo hi=some es/\K es
structure OMk(bytes:Nat)(zs:List D)(m m':Int)(K:List (List D)->Prop):Prop where
 h:m=m'/\∃rows,mk bytes m zs=some rows/\K rows
def bFy(t:Nat)(x y:Operand)(K:Eff->Prop):Prop:=match T.ty.get t with
 | some (_,.slice e)=>match T.ty.get e,T.zr.get e with
  | some (j,_),some zs=>bif Nat.ble 1 j.size&&Nat.ble 1 j.bytes then(match S.ev x,S.ev y with
   | .d (.lit (.int _ m)),.d (.lit (.int _ m'))=>OMk j.bytes zs m m' λrows=>K ⟨.d (.hv 0 d 0),[(d,some (.arr e j.size rows))],[],[d]⟩
   |_,_=>False) else False
  |_,_=>False
 |_=>False
def zA(t:Nat)(K:Nat->Nat->Prop):Prop:=match T.ty.get t with
 | some (_,.slice e)=>match T.ty.get e with
  |some (j,_)=>K e j.size
  |none=>False
 |_=>False
def bNp[Mode](t:Nat)(x y:Operand)(K:Eff->Prop):Prop:=match S.ev x,S.ev y with
 | .d (.sl k rows),.d (.lit (.int _ p))=>zA T t λ_ k'=>bif Nat.beq k k' then bKa rows p λds=>K (.p (.cp ds)) else False
 | .d (.hv 0 h _),.d (.lit (.int _ p))=>match ob S.objs h with
  |some (.arr _ k rows)=>zA T t λ_ k'=>bif Nat.beq k k' then bKa rows p λ_=>K (.r (.ep (.map (some h)) k p.toNat 0) [h]) else False
  |_=>cS P n o S K
 |_,_=>cS P n o S K
def bNr[Mode](x:Operand)(t:Nat)(K:Eff->Prop):Prop:=match S.ev x with
 | .d (.sl _ rows)=>zA T t λ_ _=>aWx rows λm=>K (.p (.i m))
 | .d (.hv 0 h _)=>match ob S.objs h with
  |some (.arr _ _ rows)=>zA T t λ_ _=>aWx rows λm=>K (.r (.i m) [h])
  |_=>cS P n o S K
 |_=>cS P n o S K
def aTw[Mode](x y:Operand)(t:Nat)(K:Eff->Prop):Prop:=match S.ev x,S.ev y with
 | .d (.hv 0 h _),.d (.sl k rows2)=>match ob S.objs h with
  | some (.arr e k' rows)=>match T.ty.get t with
   | some (_,.slice e2)=>match T.ty.get e2 with
    |some (j,_)=>bif Nat.ble 1 j.size&&(Nat.ble 1 j.bytes&&(Nat.beq k j.size&&(Nat.beq k' k&&Nat.beq e e2))) then bDq k j.bytes rows rows2 λzs=>bif bF (d+20000) ow then K ⟨.d (.sl k zs),[(h,none)],[h],[]⟩ else K ⟨.d (.hv 0 d 0),[(h,none),(d,some (.arr e k zs))],[h],[d]⟩ else False
    |none=>False
   |_=>False
  |_=>cS P n o S K
 | .fl _ k' rows,.d (.sl k rows2)=>match T.ty.get t with
  | some (_,.slice e)=>match T.ty.get e with
   |some (j,_)=>bif Nat.ble 1 j.size&&(Nat.ble 1 j.bytes&&(Nat.beq k j.size&&(Nat.beq k' k&&aJy k rows))) then bDq k j.bytes rows rows2 λzs=>K (.p (.d (.sl k zs))) else False
   |none=>False
  |_=>False
 |_,_=>cS P n o S K
def bAr[Mode](t:Nat)(x:Operand)(lo hi:Option Operand)(K:Eff->Prop):Prop:=match S.ev x with
 | .d (.sl k rows)=>zA T t λ_ k'=>bif Nat.beq k k' then(match lo,hi with
  |none,none=>aWx rows λm=>aWy rows 0 m λes=>K (.p (.d (.sl k es)))
  | some a,none=>match S.ev a with
   | .d (.lit (.int _ p))=>aWx rows λm=>aWy rows p m λes=>K (.p (.d (.sl k es)))
   |_=>False
  | none,some b=>match S.ev b with
   | .d (.lit (.int _ q))=>aWy rows 0 q λes=>K (.p (.d (.sl k es)))
   |_=>False
  | some a,some b=>match S.ev a,S.ev b with
   | .d (.lit (.int _ p)),.d (.lit (.int _ q))=>aWy rows p q λes=>K (.p (.d (.sl k es)))
   |_,_=>False) else False
 |_=>cS P n o S K
def evL:List Operand->(List AV->Prop)->Prop
 |[],K=>K []
 |x::l,K=>frc (S.ev x) λv=>evL l λvs=>K (v::vs)
def xfn[Mode](f:Go.Fn)(first caps:List Operand)(K:Eff->Prop):Prop:=match f,first with
 | .func f,[]=>bif iE caps then evL S caps λvs=>bif aJw vs then K (.p (.fn f vs)) else cS P n o S K else False
 |_,_=>cS P n o S K
def bFv[Mode](t u:Nat)(x:Operand)(K:Eff->Prop):Prop:=match T.ty.get t,T.ty.get u,S.ev x with
 |some _,some (_,.int k'),.d (.lit (.int _ p))=>K (.p (.d (.lit (.int k' (k'.wrap p)))))
 |_,_,_=>cS P n o S K
def bJz[Mode](b:Builtin)(args:List Operand)(ts:List TypeId)(K:Eff->Prop):Prop:=match b,args,ts with
 | .len,[x],[t]=>bNr T n S o x t K
 | .append,[x,y],[t,u]=>bif Nat.beq t u then aTw T n ow S o d x y t K else cS P n o S K
 |_,_,_=>cS P n o S K
def bTd[Mode](op:Op)(K:Eff->Prop):Prop:=match op with
 | .move x=>aWp T ow S o d x K
 | .assign x=>aWp T ow S o d x K
 | .pick c x y=>aJa S c x y K
 | .binOp op t x y _=>bNl (P:=P) n S o op t x y K
 | .unOp op _ x=>xun (P:=P) n S o op x K
 | .fieldAddr t x f=>bNo T S t x f K
 | .nilCheck x=>bNt (P:=P) n S o x K
 | .load t x=>bFx T n S o t x K
 | .alloc t=>bAp T ow d t K
 | .box _ x=>bNm S d x K
 | .extract x i=>bFw (P:=P) n S o x i K
 | .build t l=>bAq T n ow S o d t l.toList K
 | .buildSlice t len l=>bNs T ow S d t len l.toList K
 | .indexAddr t x y=>bNp T n S o t x y K
 | .slice t x lo hi none=>bAr T n S o t x lo hi K
 | .makeFunc f first caps=>xfn (P:=P) n S o f first.toList caps.toList K
 | .convert t u x=>bFv T n S o t u x K
 | .makeSlice t x y=>bFy T S d t x y K
 | .call c=>match c.callee with
  | .builtin b=>bJz T n ow S o d b c.args.toList c.argTypes.toList K
  |_=>cS P n o S K
 |_=>cS P n o S K
def xop[Mode](K:Eff->Prop):Prop:=match o.dst with
 |some d=>bTd T n ow S o d o.op K
 | none=>match o.op with
  | .store t x y=>bAs T n S o t x y K
  |_=>cS P n o S K
end
end Go.Am
