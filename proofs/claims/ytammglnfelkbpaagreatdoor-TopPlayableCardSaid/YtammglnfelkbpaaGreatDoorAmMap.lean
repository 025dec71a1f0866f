/- Several texts, one behind the other. -/
import Derived.Test.YtammglnfelkbpaaGreatDoorAmGen
import Derived.Laws.StructEq
import Derived.Scope
import Derived.Lib.SliceRun
import Derived.MapKept
import Derived.ChangeKeysEq
section
section
namespace Go.Am
def uni:List Nat->List Nat->List Nat
 |a,[]=>a
 |a,x::b=>bif aY x a then uni a b else uni (x::a) b
def zP(o:Oper):List Nat:=((o.after.toList.filter λe=>Region.binds .any e).map (·.on))
def bHk(p:List (List Nat)):List Nat->List Nat
 |[]=>[]
 |e::l=>uni (uni (bHk p l) (p.getD e [])) [e]
def cW(ops:List Oper):Nat->List (List Nat)
 |0=>[]
 |k+1=>cW ops k++[bHk (cW ops k) (zP (ops.getD k default))]
theorem aUh{x:Nat}:∀{a b:List Nat},x∈uni a b->x∈a\/x∈b
 |a,[],h=>.inl h
 | a,y::b,h=>by
  simp only[uni] at h;cases hm:aY y a with
  | true=>
   rw[hm] at h
   rcases aUh (by simpa using h) with h|h
   ·exact .inl h
   ·exact .inr (j5 _ h)
  | false=>
   rw[hm] at h
   rcases aUh (a:=y::a) (by simpa using h) with h|h
   ·rcases l4.1 h with rfl|h
    ·exact .inr (by simp)
    ·exact .inl h
   ·exact .inr (j5 _ h)
theorem aVx{p:List (List Nat)}{x:Nat}:∀{l:List Nat},x∈bHk p l->∃e∈l,x=e\/x∈p.getD e []
 |[],h=>by simp[bHk] at h
 | e::l,h=>by
  rcases aUh h with h|h
  ·rcases aUh h with h|h
   ·obtain⟨e',he',hx⟩:=aVx h;exact⟨e',by simp[he'],hx⟩
   ·exact⟨e,by simp,.inr h⟩
  ·simp at h
   exact⟨e,by simp,.inl h⟩
abbrev Tab:=List (Nat×Nat×AV)
def find:Tab->Nat->Option (Nat×AV)
 |[],_=>none
 |(d,j,v)::l,k=>bif Nat.beq d k then some (j,v) else find l k
def ov(tab:Tab)(S:Nat->Bool)(base:Nat->AV):Nat->AV:=λk=>
 match find tab k with
 |some (j,v)=>bif S j then v else base k
 |none=>base k
def ovL(tab:Tab)(yes no:List Nat)(base:Nat->AV)(k:Nat):Option AV:=
 match find tab k with
 |some (j,v)=>bif aY j yes then some v else bif aY j no then some (base k) else none
 |none=>some (base k)
structure Knows(S:Nat->Bool)(yes no:List Nat):Prop where
 y:∀j,aY j yes=true->S j=true
 n:∀j,aY j no=true->S j=false
theorem cEp{tab:Tab}{S:Nat->Bool}{yes no:List Nat}{base:Nat->AV}{k:Nat}{v:AV}(hS:Knows S yes no)(h:ovL tab yes no base k=some v):ov tab S base k=v:=by
 unfold ovL at h;unfold ov;split at h
 ·rename_i j u hf
  cases hy:aY j yes with
  |true=>rw[hy] at h;simp at h;simp[hS.y j hy,h]
  | false=>
   cases hn:aY j no with
   |true=>rw[hy,hn] at h;simp at h;simp[hS.n j hn,h]
   |false=>rw[hy,hn] at h;simp at h
 ·simpa using h
theorem bN{tab:Tab}{S:Nat->Bool}{yes no:List Nat}{base:Nat->AV}{objs:List MO}{k:Nat}{v:AV}(hS:Knows S yes no)(h:ovL tab yes no base k=some v):St.eval ⟨ov tab S base,objs⟩ (.tmp k)=v:=cEp hS h
theorem aOz{tab:Tab}{S:Nat->Bool}{yes no:List Nat}{base:Nat->AV}{objs:List MO}{k:Nat}{v:AV}(hS:Knows S yes no)(h:ovL tab yes no base k=some v):(St.mk (ov tab S base) objs).env k=v:=cEp hS h
theorem aTi{fs:List MO}{b o j:Nat}{ds es:List D}(i:Nat)(hm:fs[i]?=some (.box b o ds))(hj:Nat.ble j ds.length=true)(h:DVs fs (ds.drop j) es):BV fs (.bp b o j) (.cp es):=
 .bp b o j ds es (i8 hm) (f5 hj) h
theorem aYg{fs:List MO}{xs ys:List AV}(h:BVs fs xs ys):ys.length=xs.length/\∀i,i<xs.length->BV fs (xs.getD i .any) (ys.getD i .any):=by
 induction h with
 |nil=>exact⟨rfl,λi h=>by simp at h⟩
 | cons h _ ih=>
  refine⟨by simp[ih.1],λi hi=>?_⟩;cases i with
  |zero=>exact h
  |succ i=>simpa using ih.2 i (by simpa using hi)
theorem bPx{fs:List MO}{f:FuncId}{xs ys:List AV}(h:BVs fs xs ys):BV fs (.fn f xs) (.fn f ys):=.fn f xs ys (aYg h).1 (aYg h).2
theorem aBv{fs:List MO}{xs ys:List AV}(h:BVs fs xs ys):BV fs (.tup xs) (.tup ys):=.tup xs ys (aYg h).1 (aYg h).2
theorem dvn{fs:List MO}:DVs fs [] []:=trivial
theorem dvc{fs:List MO}{x y:D}{xs ys:List D}(h:DV fs x y)(hs:DVs fs xs ys):DVs fs (x::xs) (y::ys):=⟨h,hs⟩
def GStep[Mode](P:Program)(n:Nat)(ops:Array Oper)(o:Oper)(st st':St):Prop:=
 (∀(A M:aR) (w0:W0) (a:Act) (w:World),R A M w0 n st a w->Region.wanted o (yielded ops a.tmps)=true)/\aQ P n o st st'\/
 (∀(A M:aR) (w0:W0) (a:Act) (w:World),R A M w0 n st a w->Region.wanted o (yielded ops a.tmps)=false)/\∃d,o.dst=some d/\d<n/\st'=st.set d (.tup [])
section
variable{P:Program}{n:Nat}{st st':St}{ops:Array Oper}{o:Oper}
theorem gN[Mode](hg:o.guard=none)(h:aQ P n o st st'):GStep P n ops o st st':=.inl ⟨λ_ _ _ _ _ _=>by simp[Region.wanted,hg],h⟩
theorem cKg[Mode]{j s:Nat}{b:Bool}(hg:o.guard=some (j,b))(hj:(ops[j]?).bind (·.dst)=some s)(hs:s<n){c:Bool}(hb:st.env s=.d (.lit (.bool c)))(hc:c=b)(h:aQ P n o st st'):GStep P n ops o st st':=
 .inl ⟨λ_ _ _ _ _ hR=>by simp[Region.wanted,hg,yZ hR hj hs hb,hc],h⟩
theorem cKf[Mode]{j s d:Nat}{b:Bool}(hg:o.guard=some (j,b))(ho:o.dst=some d)(hd:d<n)(hj:(ops[j]?).bind (·.dst)=some s)(hs:s<n){c:Bool}(hb:st.env s=.d (.lit (.bool c)))(hc:c=!b):GStep P n ops o st (st.set d (.tup [])):=
 .inr ⟨λ_ _ _ _ _ hR=>by simp[Region.wanted,hg,yZ hR hj hs hb,hc],d,ho,hd,rfl⟩
theorem GStep.wpOp[Mode]{i:Nat}{Q:Exit->Act->World->Prop}{K:Act->World->Prop}(h:GStep P n ops o st st')(hi:ops[i]?=some o){A M:aR}{w0:W0}{a:Act}{w:World}(hR:R A M w0 n st a w)
  (hK:∀a' w',R A M w0 n st' a' w'->K a' w'):wpOpIn (fen w0.ro) 0 P ops Q i K a w:=by
 unfold Go.wpOpIn;simp only[hi]
 rcases h with⟨hw,h⟩|⟨hw,d,ho,hd,rfl⟩
 ·rw[if_pos (hw A M w0 a w hR)];exact h.x A M w0 a w hR K Q λs a' w' e hR'=>hK _ _ (e▸hR')
 ·rw[if_neg (by rw[hw A M w0 a w hR];simp)];exact⟨λ_ _=>trivial,hK _ _ (hR.put ho hd (aPy _ _))⟩
end
theorem R.drew[Mode]{A M:aR}{w0:W0}{n:Nat}{st:St}{a:Act}{w:World}(h:R A M w0 n st a w):R A M w0 n st a {w with drawn:=w.drawn+1}:=by
 have hk:Keeps (λ_ _=>False) w w.drew:=Keeps.drew _ _;exact h.change (w':=w.drew) hk (λ_ _ h=>h.elim) (λ_ _ _ h=>h) h.inv.sep λhm m hmm=>cI (h.inv.holds m hmm) hk (λ_ _ _ h=>h) hm
def vL(p:List (List Nat))(m sz:Nat):Bool:=(List.range sz).all λi=>bif Nat.blt i m then true else(List.range i).all λj=>aY j (p.getD i [])
def zE(ops:List Oper):Bool:=(List.range ops.length).all λi=>((ops.getD i default).after.toList.filter λe=>Region.binds .any e).all λe=>Nat.blt e.on i
def AllSteps[Mode](P:Program)(n:Nat)(ops:Array Oper)(tab:Tab)(base:Nat->AV)(objs:List MO):List Oper->List (List Nat×List Nat)->Nat->Prop
 |[],_,_=>True
 |o::l,yn,i=>(∀S:Nat->Bool,Knows S (yn.headD ([],[])).1 (yn.headD ([],[])).2->∃d v,find tab d=some (i,v)/\GStep P n ops o ⟨ov tab S base,objs⟩ ⟨upd (ov tab S base) d v,objs⟩)/\AllSteps P n ops tab base objs l yn.tail (i+1)
theorem AllSteps.get[Mode]{P:Program}{n:Nat}{ops:Array Oper}{tab:Tab}{base:Nat->AV}{objs:List MO}:∀{l:List Oper} {yn:List (List Nat×List Nat)} {k:Nat},AllSteps P n ops tab base objs l yn k->∀{i:Nat} {o:Oper},l[i]?=some o->
  ∀S:Nat->Bool,Knows S (yn.getD i ([],[])).1 (yn.getD i ([],[])).2->∃d v,find tab d=some (k+i,v)/\GStep P n ops o ⟨ov tab S base,objs⟩ ⟨upd (ov tab S base) d v,objs⟩
 |[],_,_,_,i,o,h=>by simp at h
 | _::_,yn,k,h,0,o,ho=>by
  simp at ho;subst ho
  have:=h.1;cases yn<;>simpa using this
 | _::l,yn,k,h,i+1,o,ho=>by
  have:=h.2.get (i:=i) (by simpa using ho);rw[show k+1+i=k+(i+1) by omega] at this;cases yn<;>simpa using this
def aQa(p:List (List Nat))(m:Nat)(yn:List (List Nat×List Nat)):Bool:=
 (List.range m).all λi=>(yn.getD i ([],[])).1.all (λj=>aY j (p.getD i []))&&(yn.getD i ([],[])).2.all λj=>Nat.blt j m&&aY i (p.getD j [])
def lW(tab:Tab):Bool:=apart (tab.map (·.1))&&apart (tab.map (·.2.1))
theorem aAi:∀{tab:Tab} {d j:Nat} {v:AV},find tab d=some (j,v)->(d,j,v)∈tab
 |[],_,_,_,h=>by simp[find] at h
 | (d0,j0,v0)::l,d,j,v,h=>by
  simp only[find] at h;cases hb:Nat.beq d0 d with
  | true=>
   rw[hb] at h;simp at h;have:=f7 hb;obtain⟨rfl,rfl⟩:=h;subst this;simp
  |false=>rw[hb] at h;exact j5 _ (aAi (by simpa using h))
theorem bDl{α:Type}(f:α->Nat):∀{l:List α},apart (l.map f)=true->∀x∈l,∀y∈l,f x=f y->x=y
 |[],_,x,hx,_,_,_=>by simp at hx
 | a ::l,h,x,hx,y,hy,e=>by
  simp only[j3,apart] at h;cases hm:aY (f a) (l.map f) with
  |true=>rw[hm] at h;simp at h
  | false=>
   rw[hm] at h;have hn:∀z∈l,f a≠f z:=λz hz e=>by
    have:aY (f a) (l.map f)=true:=iV.2 (l5.2 ⟨z,hz,e.symm⟩);rw[hm] at this;cases this
   rcases l4.1 hx with rfl|hx'<;>rcases l4.1 hy with rfl|hy'
   ·rfl
   ·exact absurd e (hn y hy')
   ·exact absurd e.symm (hn x hx')
   ·exact bDl f (by simpa using h) x hx' y hy' e
theorem aIf{tab:Tab}{S:Nat->Bool}{base:Nat->AV}{d i:Nat}{v:AV}(ht:lW tab=true)(hf:find tab d=some (i,v))(k:Nat):ov tab (λj=>Nat.beq j i||S j) base k=upd (ov tab S base) d v k:=by
 simp only[lW,f4] at ht
 by_cases hk:d=k
 ·subst hk;rw[fD]
  simp[ov,hf]
 ·rw [lC _ _ hk];unfold ov;cases hfk:find tab k with
  |none=>rfl
  | some p=>
   obtain⟨j,u⟩:=p;have hji:j≠i:=λe=>by
    subst e;have:=bDl (λx:Nat×Nat×AV=>x.2.1) ht.2 _ (aAi hf) _ (aAi hfk) rfl
    simp at this
    exact hk this.1
   have:Nat.beq j i=false:=by
    cases hb:Nat.beq j i with
    |false=>rfl
    |true=>exact absurd (f7 hb) hji
   simp[this]
theorem aCv(ops:List Oper):∀k,(cW ops k).length=k
 |0=>rfl
 |k+1=>by simp[cW,aCv ops k]
theorem xV(ops:List Oper):∀k i,i<k->(cW ops k).getD i []=bHk (cW ops i) (zP (ops.getD i default))
 |0,i,h=>by omega
 | k+1,i,h=>by
  simp only[cW,List.getD]
  by_cases hik:i<k
  ·rw[m9 (by rw[aCv];exact hik)];have:=xV ops k i hik
   simpa[List.getD] using this
  ·have:i=k:=by omega
   subst this;rw[p7 (by rw[aCv];omega),aCv]
   simp[List.getD]
structure DC(l:List Oper)(S:Nat->Bool):Prop where
 down:∀i,i<l.length->S i=true->∀e∈zP (l.getD i default),S e=true
theorem bBl{l:List Oper}(hb:zE l=true){i:Nat}(hi:i<l.length):∀e∈zP (l.getD i default),e<i:=by
 intro e he;simp only[zE,k6,u6] at hb;have:=hb i hi;simp only[zP,l5] at he;obtain⟨x,hx,rfl⟩:=he;exact aC (this x hx)
theorem aHi{l:List Oper}(hb:zE l=true){S:Nat->Bool}(hd:DC l S):∀i,i<l.length->(∀e∈zP (l.getD i default),S e=true)->∀j,aY j ((cW l l.length).getD i [])=true->S j=true:=by
 intro i
 induction i using Nat.strongRecOn with
 | _ i ih=>
  intro hi hdir j hj;rw[iV,xV l _ i hi] at hj;obtain⟨e,he,hj⟩:=aVx hj;have hei:=bBl hb hi e he
  rcases hj with rfl|hj
  ·exact hdir _ he
  ·have hel:e<l.length:=by omega
   refine ih e hei hel (λe' he'=>hd.down e hel (hdir e he) e' he') j (iV.2 ?_);rw[xV l _ e hel]
   rwa[xV l i e hei] at hj
section
variable{P:Program}{n:Nat}{st:St}{Q:Exit->St->Prop}
theorem aGa{ops:Array Oper}{listed:Array Bool}(hl:listed.size=ops.size){i:Nat}:i∈Region.ready .any ops listed↔i<ops.size/\listed.getD i false=false/\∀e∈zP (ops.toList.getD i default),listed.getD e false=true:=by
 unfold Region.ready;rw[z6,u6]
 constructor
 ·rintro⟨hi,h⟩;simp only[f4,l6] at h;refine⟨hi,?_,?_⟩
  ·have h1:=h.1;rw[Array.getD_eq_getD_getElem?,u1 (by omega)] at h1|-;exact h1
  ·intro e he;have h2:=h.2;rw[u1 hi] at h2;simp only[aE2,u7] at h2;simp only[zP,l5] at he;obtain⟨x,hx,rfl⟩:=he;have hxi:ops.toList.getD i default=ops[i]:=by simp[List.getD,hi]
   rw[hxi,z6] at hx;rw[Array.all_eq_true] at h2;obtain⟨q,hq,hqe⟩:=n6 hx.1;have:=h2 q (by simpa using hq);simp only[Array.getElem_toList] at hqe;rw[hqe] at this
   simpa[hx.2] using this
 ·rintro⟨hi,h1,h2⟩;refine⟨hi,?_⟩;simp only[f4,l6];refine⟨?_,?_⟩
  ·rw[Array.getD_eq_getD_getElem?,u1 (by omega)] at h1|-;exact h1
  ·rw[u1 hi];simp only[aE2,u7,Array.all_eq_true];intro q hq;have hxi:ops.toList.getD i default=ops[i]:=by simp[List.getD,hi]
   cases hb:Region.binds .any (ops[i].after[q]) with
   |false=>simp
   | true=>
    simp only[l8,aB0];refine h2 _ ?_;simp only[zP,l5,hxi,z6];exact⟨_,⟨by simp,hb⟩,rfl⟩
theorem aJq{l:List Oper}(hb:zE l=true){listed:Array Bool}(hl:listed.size=l.length){i:Nat}(hi:i<l.length)(hn:listed.getD i false=false):Region.ready .any l.toArray listed≠[]:=by
 induction i using Nat.strongRecOn with
 | _ i ih=>
  by_cases h:∃j,j<i/\listed.getD j false=false
  ·obtain⟨j,hj,hjn⟩:=h;exact ih j hj (by omega) hjn
  ·have:i∈Region.ready .any l.toArray listed:=by
    refine(aGa (by simpa using hl)).2 ⟨by simpa using hi,hn,λe he=>?_⟩;have hei:=bBl hb hi e (by simpa using he);cases he':listed.getD e false with
    |true=>rfl
    |false=>exact absurd ⟨e,hei,he'⟩ h
   intro h0;rw[h0] at this
   simp at this
theorem aEh(listed:Array Bool)(i j:Nat)(hi:i<listed.size):(listed.setIfInBounds i true).getD j false=(Nat.beq j i||listed.getD j false):=by
 rw[Array.getD_eq_getD_getElem?,Array.getElem?_setIfInBounds]
 by_cases h:i=j
 ·subst h;simp[hi]
 ·have:Nat.beq j i=false:=by
   cases hb:Nat.beq j i with
   |false=>rfl
   |true=>exact absurd (f7 hb).symm h
  simp[h,this,Array.getD_eq_getD_getElem?]
theorem bUl{l:List Oper}{listed:Array Bool}(hl:listed.size=l.length)(hd:DC l λj=>listed.getD j false){i:Nat}(hi:i∈Region.ready .any l.toArray listed):DC l λj=>(listed.setIfInBounds i true).getD j false:=by
 obtain⟨h1,h2,h3⟩:=(aGa (by simpa using hl)).1 hi;have hil:i<listed.size:=by simp at h1;omega
 refine⟨λj hj hS e he=>?_⟩;show(listed.setIfInBounds i true).getD e false=true;rw[aEh _ _ _ hil,aC8];have hS:=(aEh listed i j hil).symm.trans hS;rw[aC8] at hS
 rcases hS with hS|hS
 ·have:=f7 hS;subst this;exact .inr (h3 e (by simpa using he))
 ·exact .inr (hd.down j hj hS e he)
theorem bKs{l:List Oper}{m:Nat}(hb:zE l=true)(hbe:vL (cW l l.length) m l.length=true){F:Fence}{Qc:Exit->Act->World->Prop}:∀(fuel:Nat) (listed:Array Bool) (q:Nat) (a:Act) (w:World),listed.size=l.length->DC l (λj=>listed.getD j false)->m<=q->q<=l.length->
  (∀j,j<l.length->(listed.getD j false=true↔j<q))->l.length=q+fuel->wpListIn F 0 P l.toArray Qc (l.drop q) a w->wpAnyIn F 0 P .any l.toArray Qc fuel listed a w:=by
 intro fuel
 induction fuel with
 | zero=>
  intro listed q a w hl hd hm hq hS hc h;have hql:q=l.length:=by omega
  subst hql;refine⟨?_,by simpa[wpListIn] using h⟩
  by_cases hr:Region.ready .any l.toArray listed=[]
  ·exact hr
  ·obtain⟨i,hi⟩:=List.exists_mem_of_ne_nil _ hr;obtain⟨h1,h2,_⟩:=(aGa (by simpa using hl)).1 hi
   simp at h1
   have:=(hS i h1).2 h1;rw[this] at h2;cases h2
 | succ fuel ih=>
  intro listed q a w hl hd hm hq hS hc h;have hql:q<l.length:=by omega
  refine⟨λhr=>absurd hr (aJq hb hl hql (by cases h':listed.getD q false with|false=>rfl|true=>have:=(hS q hql).1 h';omega)),λi hi=>?_⟩;obtain⟨h1,h2,h3⟩:=(aGa (by simpa using hl)).1 hi
  simp at h1
  have hiq:¬i<q:=λh'=>by have:=(hS i h1).2 h';rw[this] at h2;cases h2
  have hall:∀j,j<i->listed.getD j false=true:=by
   intro j hj;simp only[vL,k6,u6] at hbe;have hb1:=hbe i h1;have hblt:Nat.blt i m=false:=by
    cases hx:Nat.blt i m with
    |false=>rfl
    |true=>have:=aC hx;omega
   rw[hblt] at hb1;simp only[g6,k6,u6] at hb1;exact aHi hb hd i h1 (by simpa using h3) j (hb1 j hj)
  have hiq':i=q:=by
   rcases aC1 q i with h'|h'
   ·have:=(hS q hql).1 (hall q h');omega
   ·omega
  subst hiq';have hil:i<listed.size:=by omega
  rw[v6 hql] at h;unfold wpOpIn;have hoi:l.toArray[i]?=some l[i]:=by simp[hql]
  simp only[hoi];have next:∀a w,wpListIn F 0 P l.toArray Qc (l.drop (i+1)) a w->wpAnyIn F 0 P .any l.toArray Qc fuel (listed.setIfInBounds i true) a w:=λa w h'=>
   ih _ (i+1) a w (by simpa using hl) (bUl hl hd hi) (by omega) (by omega) (λj hj=>by
    rw[aEh _ _ _ hil,aC8,hS j hj]
    constructor
    ·rintro(h|h)
     ·have:=f7 h;omega
     ·omega
    ·intro h
     rcases aC1 j i with h'|h'
     ·exact .inr h'
     ·have:j=i:=by omega
      subst this;left;simp) (by omega) h'
  simp only[wpListIn] at h
  split
  ·rename_i hw
   rw[if_pos hw] at h;exact Oper.wpIn_mono next h
  ·rename_i hw
   rw[if_neg hw] at h;exact⟨h.1,next _ _ h.2⟩
def GStepP[Mode](P:Program)(n:Nat)(ops:Array Oper)(o:Oper)(st:St)(Post:St->Prop):Prop:=
 (∀(A M:aR) (w0:W0) (a:Act) (w:World),R A M w0 n st a w->Region.wanted o (yielded ops a.tmps)=true)/\Step P n o st Post\/
 (∀(A M:aR) (w0:W0) (a:Act) (w:World),R A M w0 n st a w->Region.wanted o (yielded ops a.tmps)=false)/\∃d,o.dst=some d/\d<n/\Post (st.set d (.tup []))
theorem GStepP.wpOp[Mode]{ops:Array Oper}{o:Oper}{Post:St->Prop}{i:Nat}{Q:Exit->Act->World->Prop}{K:Act->World->Prop}(h:GStepP P n ops o st Post)(hi:ops[i]?=some o){A M:aR}{w0:W0}{a:Act}{w:World}(hR:R A M w0 n st a w)
  (hK:∀s a' w',Post s->R A M w0 n s a' w'->K a' w'):wpOpIn (fen w0.ro) 0 P ops Q i K a w:=by
 unfold Go.wpOpIn;simp only[hi]
 rcases h with⟨hw,h⟩|⟨hw,d,ho,hd,hp⟩
 ·rw[if_pos (hw A M w0 a w hR)];exact h.x A M w0 a w hR K Q λs a' w' e hR'=>hK _ _ _ e hR'
 ·rw[if_neg (by rw[hw A M w0 a w hR];simp)];exact⟨λ_ _=>trivial,hK _ _ _ hp (hR.put ho hd (aPy _ _))⟩
theorem aPu[Mode]{id:Nat}{l:List Oper}(m:Nat)(Fam:(Nat->Bool)->St->Prop)(hm:P.follows .mixedOrders=true)(hb:zE l=true)(hbe:vL (cW l l.length) m l.length=true)(hml:Nat.ble m l.length=true)
  (yn:List (List Nat×List Nat))(hyn:aQa (cW l l.length) m yn=true)(h0:Fam (λ_=>false) st)(hcong:∀S S' st',(∀j,j<m->S' j=S j)->Fam S st'->Fam S' st')
  (hsteps:∀i o,(l.take m)[i]?=some o->∀S st',Fam S st'->S i=false->Knows S (yn.getD i ([],[])).1 (yn.getD i ([],[])).2->GStepP P n l.toArray o st' (λs=>∃st3,Fam (λj=>Nat.beq j i||S j) st3/\Ent s st3))
  (htail:∀st',Fam (λ_=>true) st'->TrL P n l.toArray (l.drop m) st' Q):
  Tr P n (.region id l.toArray true) st Q:=by
 intro A M w0 a w hR _;have hml':m<=l.length:=f5 hml;refine wpIn_region_any hm ?_;have key:∀(fuel:Nat) (listed:Array Bool) (a:Act) (w:World),listed.size=l.length->DC l (λj=>listed.getD j false)->(∀i,m<=i->listed.getD i false=false)->(∃c,c+fuel=l.length/\((List.range l.length).filter λj=>!listed.getD j false).length=fuel)->
   (∃st',Fam (λj=>listed.getD j false) st'/\R A M w0 n st' a w)->wpAnyIn (fen w0.ro) 0 P .any l.toArray (λe a' w'=>∃st',Q e st'/\R A M w0 n st' a' w') fuel listed a w:=by
  intro fuel
  induction fuel with
  | zero=>
   intro listed a w hl hd hS hc hR;obtain⟨c,_,hc⟩:=hc;have hall:∀j,j<l.length->listed.getD j false=true:=by
    intro j hj;cases hx:listed.getD j false with
    |true=>rfl
    | false=>
     have:j∈(List.range l.length).filter λj=>!listed.getD j false:=z6.2 ⟨u6.2 hj,by rw[hx];rfl⟩;rw[y7 hc] at this
     simp at this
   have hmeq:m=l.length:=by
    rcases aC1 m l.length with h|h
    ·have:=hall m h;rw[hS m (n5 _)] at this;cases this
    ·omega
   refine bKs hb hbe 0 listed m a w hl hd (n5 _) hml' (λj hj=>⟨λ_=>by omega,λ_=>hall j hj⟩) (by omega) ?_;obtain⟨st',hF,hR⟩:=hR;exact htail st' (hcong _ _ _ (λj hj=>(hall j (by omega)).symm) hF) A M w0 a w hR
  | succ fuel ih=>
   intro listed a w hl hd hS hc hR;obtain⟨c,hc1,hc⟩:=hc;refine⟨λhr=>?_,λi hi=>?_⟩
   ·exfalso
    have:((List.range l.length).filter λj=>!listed.getD j false)≠[]:=by intro h;rw[h] at hc;simp at hc
    obtain⟨j,hj⟩:=List.exists_mem_of_ne_nil _ this;rw[z6,u6] at hj;exact aJq hb hl hj.1 ((l6 _).mp hj.2) hr
   ·obtain ⟨h1,h2,h3⟩:=(aGa (by simpa using hl)).1 hi
    simp at h1
    have hil:i<listed.size:=by omega
    have hdir:∀e∈zP (l.getD i default),listed.getD e false=true:=by simpa using h3
    rcases aC1 i m with him|him
    ·have hoi:(l.take m)[i]?=some l[i]:=by rw[aF3,if_pos him,g9 h1]
     have hy:=k6.1 hyn i (u6.2 him);rw[f4] at hy;have hk:Knows (λj=>listed.getD j false) (yn.getD i ([],[])).1 (yn.getD i ([],[])).2:=by
      refine⟨λj hj=>aHi hb hd i h1 hdir j (k6.1 hy.1 j (iV.1 hj)),λj hj=>?_⟩;have hj':=k6.1 hy.2 j (iV.1 hj);rw[f4] at hj';cases hx:listed.getD j false with
      |false=>rfl
      | true=>
       have hjl:j<l.length:=by have:=aC hj'.1;omega
       have:=aHi hb hd j hjl (λe he=>hd.down j hjl hx e he) i hj'.2;rw[h2] at this;cases this
     obtain⟨st',hF,hR⟩:=hR;refine(hsteps i _ hoi _ st' hF h2 hk).wpOp (by simp[h1]) hR λs a' w' hP hR'=>?_;obtain⟨st3,hF3,hE⟩:=hP;refine ih _ a' w' (by simpa using hl) (bUl hl hd hi) (λj hj=>by
      rw[aEh _ _ _ hil,hS j hj];cases hb':Nat.beq j i with
      |false=>rfl
      |true=>have:=f7 hb';omega) ⟨c+1,by omega,?_⟩ ⟨st3,?_,hE A M w0 n a' w' hR'⟩
     ·have hsub:((List.range l.length).filter λj=>!(listed.setIfInBounds i true).getD j false).length+1=((List.range l.length).filter λj=>!listed.getD j false).length:=by
       have hperm:((List.range l.length).filter λj=>!listed.getD j false).erase i=(List.range l.length).filter λj=>!(listed.setIfInBounds i true).getD j false:=by
        have hnd:((List.range l.length).filter λj=>!listed.getD j false).Nodup:=List.Pairwise.filter _ List.nodup_range;rw[hnd.erase_eq_filter,List.filter_filter]
        congr 1
        funext j
        rw[aEh _ _ _ hil]
        by_cases hji:j=i
        ·subst hji;simp
        ·have:Nat.beq j i=false:=by
          cases hb:Nat.beq j i with
          |false=>rfl
          |true=>exact absurd (f7 hb) hji
         simp[this,hji]
       have hmem:i∈(List.range l.length).filter λj=>!listed.getD j false:=by simp[h1,Array.getD_eq_getD_getElem?] at*;simpa[Array.getD_eq_getD_getElem?] using h2
       have:=List.length_erase_of_mem hmem;rw[hperm] at this;have:=List.length_pos_of_mem hmem
       omega
      omega
     ·have h':(λj=>(listed.setIfInBounds i true).getD j false)=λj=>Nat.beq j i||(λj=>listed.getD j false) j:=funext λj=>aEh _ _ _ hil;rw[h'];exact hF3
    ·have hall:∀j,j<i->listed.getD j false=true:=by
      intro j hj;simp only[vL,k6,u6] at hbe;have hb1:=hbe i h1;have hblt:Nat.blt i m=false:=by
       cases hx:Nat.blt i m with
       |false=>rfl
       |true=>have:=aC hx;omega
      rw[hblt] at hb1;simp only[g6,k6,u6] at hb1;exact aHi hb hd i h1 hdir j (hb1 j hj)
     have him':i=m:=by
      rcases aC1 m i with h|h
      ·have:=hall m h;rw[hS m (n5 _)] at this;cases this
      ·omega
     subst him';have ht:wpListIn (fen w0.ro) 0 P l.toArray (λe a' w'=>∃st',Q e st'/\R A M w0 n st' a' w') (l.drop i) a w:=by
      obtain⟨st',hF,hR⟩:=hR;exact htail st' (hcong _ _ _ (λj hj=>(hall j hj).symm) hF) A M w0 a w hR
     have hfl:l.length=i+(fuel+1):=by
      have hcount:((List.range l.length).filter λj=>!listed.getD j false)=(List.range l.length).filter λj=>decide (i<=j):=by
       apply List.filter_congr;intro j hj;rw[u6] at hj
       rcases aC1 j i with h|h
       ·rw[hall j h];simp;omega
       ·rw[hS j h];simp;omega
      have hlen:∀(N i:Nat),i<=N->((List.range N).filter λj=>decide (i<=j)).length=N-i:=by
       intro N
       induction N with
       |zero=>intro i hi;simp
       | succ N ihN=>
        intro i hi;rw[aC9,aC2,aA8]
        rcases aC1 N i with h|h
        ·have:i=N+1:=by omega
         subst this;have h0:((List.range N).filter λj=>decide (N+1<=j))=[]:=aD7.2 λj hj=>by rw[u6] at hj;simp;omega
         rw[h0]
         simp
        ·rw[ihN i h]
         simp[h]
         omega
      rw[hcount,hlen _ _ (by omega)] at hc
      omega
     have:=bKs hb hbe (fuel+1) listed i a w hl hd (n5 _) (by omega) (λj hj=>⟨λh=>(by
      rcases aC1 j i with h'|h'
      ·exact h'
      ·rw[hS j h'] at h;cases h),λh=>hall j h⟩) hfl ht
     exact this.2 i hi
 have hl0:(Array.replicate l.toArray.size false).size=l.length:=by simp
 have hg0:∀i,(Array.replicate l.toArray.size false).getD i false=false:=by
  intro i;rw[Array.getD_eq_getD_getElem?,Array.getElem?_replicate]
  split<;>rfl
 have:=key l.length (Array.replicate l.toArray.size false) a {w with drawn:=w.drawn+1} hl0 ⟨λi _ h=>by have:=(hg0 i).symm.trans h;cases this⟩ (λi _=>hg0 i)
  ⟨0,by omega,by simp only[hg0,n8];rw[List.filter_eq_self.2 (λ_ _=>rfl),List.length_range]⟩ ⟨st,hcong _ _ _ (λj _=>hg0 j) h0,hR.drew⟩
 simpa using this
theorem GStep.toP[Mode]{ops:Array Oper}{o:Oper}{st':St}(h:GStep P n ops o st st'){Post:St->Prop}(hp:Post st'):GStepP P n ops o st Post:=by
 rcases h with⟨hw,h⟩|⟨hw,d,ho,hd,rfl⟩
 ·exact .inl ⟨hw,λA M w0 a w hR K Q hK=>h A M w0 a w hR K Q λs a' w' e hR'=>hK s a' w' (e▸hp) hR'⟩
 ·exact .inr ⟨hw,d,ho,hd,hp⟩
theorem cIh[Mode]{id:Nat}{l:List Oper}(m:Nat)(tab:Tab)(hm:P.follows .mixedOrders=true)(hb:zE l=true)(hbe:vL (cW l l.length) m l.length=true)(hml:Nat.ble m l.length=true)(hown:lW tab=true)
  (htab:(tab.all λx=>Nat.blt x.2.1 m)=true)
  (yn:List (List Nat×List Nat))(hyn:aQa (cW l l.length) m yn=true)(hsteps:AllSteps P n l.toArray tab st.env st.objs (l.take m) yn 0)(htail:TrL P n l.toArray (l.drop m) ⟨ov tab (λ_=>true) st.env,st.objs⟩ Q):
  Tr P n (.region id l.toArray true) st Q:=by
 refine aPu m (λS st'=>st'=⟨ov tab S st.env,st.objs⟩) hm hb hbe hml yn hyn ?_ ?_ ?_ (λst' e=>e▸htail)
 ·show st=_;have:ov tab (λ_=>false) st.env=st.env:=by
   funext k
   unfold ov;cases hf:find tab k with
   |none=>rfl
   |some p=>rfl
  rw[this]
 ·rintro S S' st' hS rfl
  congr 1
  funext k
  unfold ov;cases hf:find tab k with
  |none=>rfl
  | some p=>
   obtain⟨j,v⟩:=p;have hjm:j<m:=aC (k6.1 htab _ (aAi hf))
   simp[hS j hjm]
 ·rintro i o hoi S st' rfl hi hk;obtain⟨d,v,hf,hg⟩:=hsteps.get hoi S hk;rw[s8] at hf;refine hg.toP ⟨_,rfl,?_⟩;have:ov tab (λj=>Nat.beq j i||S j) st.env=upd (ov tab S st.env) d v:=funext λk=>aIf hown hf k;rw[this];exact Ent.refl _
def bGj[Mode](P:Program)(n:Nat)(l:List Oper)(m:Nat)(tab:Tab)(st:St):Prop:=
 zE l=true/\vL (cW l l.length) m l.length=true/\Nat.ble m l.length=true/\lW tab=true/\(tab.all λx=>Nat.blt x.2.1 m)=true/\
  ∃yn,aQa (cW l l.length) m yn=true/\AllSteps P n l.toArray tab st.env st.objs (l.take m) yn 0
theorem rK[Mode]{id:Nat}{l:List Oper}(hm:P.follows .mixedOrders=true)(m:Nat)(ks:List Nat)(us:List (Nat×AV))(h:∃tab,bGj P n l m tab st/\Ent ⟨ov tab (λ_=>true) st.env,st.objs⟩ ⟨aKa (keep ks st.env) us,st.objs⟩)
  (htail:TrL P n l.toArray (l.drop m) ⟨aKa (keep ks st.env) us,st.objs⟩ Q):Tr P n (.region id l.toArray true) st Q:=by
 obtain⟨tab,⟨h1,h2,h3,h4,h5,yn,h6,h7⟩,he⟩:=h;exact cIh m tab hm h1 h2 h3 h4 h5 yn h6 h7 (kY he htail)
theorem nW[Mode]{ops:Array Oper}{o:Oper}{tab:Tab}{i d:Nat}{v:AV}{e:Nat->AV}{objs:List MO}(hf:find tab d=some (i,v))(h:GStep P n ops o ⟨e,objs⟩ ⟨upd e d v,objs⟩):∃d v,find tab d=some (i,v)/\GStep P n ops o ⟨e,objs⟩ ⟨upd e d v,objs⟩:=⟨d,v,hf,h⟩
end
theorem ev2{st:St}{x:Operand}{l:List Operand}{a:AV}{as:List AV}(h:st.eval x=a)(hs:st.evals l=as):st.evals (x::l)=a::as:=by simp[St.evals,h,hs]
theorem evn{st:St}:st.evals []=[]:=rfl
theorem aEg{a b c:List AV}(h:a=b):a++c=b++c:=by rw[h]
theorem pa2{st:St}{i:Nat}{x:Operand}{l:List (Nat×Operand)}{a:AV}{as:List (Nat×AV)}(h:st.eval x=a)(hs:st.parts l=as):st.parts ((i,x)::l)=(i,a)::as:=by simp[St.parts,h,hs]
theorem pan{st:St}:st.parts []=[]:=rfl
theorem bo{st:St}{x:Operand}{k:IntKind}{p z:Int}(h:st.eval x=.d (.lit (.int k p))):nE st (some x) z=some p:=by simp[nE,h]
theorem cNh{q:Int}{u:Unit}(h:chk (!decide (q=0))=some u):q≠0:=by simpa using bHj h
theorem aYw{q:Int}{u:Unit}(h:chk (decide (0<=q))=some u):0<=q:=by simpa using bHj h
end Go.Am
namespace Go.Am
def aDw(P:Program)(t:TypeId){α:Type}[DecidableEq α](enc:α->List D):Prop:=
 ∀(a b:α) (w:World),(Op.equalIn 10000 t (.agg ((enc a).map bD).toArray) (.agg ((enc b).map bD).toArray)).run P w=.ok (decide (a=b)) w
def dY:List D->Bool
 |[]=>true
 | .lit _::l=>dY l
 |_=>false
theorem aOj{w:World}{X:aR}:∀{ds:List D} {vs:List Value},dY ds=true->DRs w X ds vs->vs=ds.map bD
 |[],[],_,_=>rfl
 | .lit v::ds,u::vs,hl,h=>by
  have h1:=h.1;cases h1;rw[aOj (ds:=ds) (by simpa[dY] using hl) h.2]
  rfl
 | .sl _ _::_,_,hl,_=>by simp[dY] at hl
 | .sn _ _::_,_,hl,_=>by simp[dY] at hl
 | .mp _ _::_,_,hl,_=>by simp[dY] at hl
 | .pt _::_,_,hl,_=>by simp[dY] at hl
 | .fc .. ::_,_,hl,_=>by simp[dY] at hl
 | .hv .. ::_,_,hl,_=>by simp[dY] at hl
theorem VR.agg_lits{w:World}{X:aR}{ds:List D}{v:Value}(hl:dY ds=true)(h:VR w X (.agg ds) v):v=.agg (ds.map bD).toArray:=by
 cases h with
 | agg h=>
  have:=aOj hl h;rw[<-this]
theorem cNq[Mode]{P:Program}{n d:Nat}{st:St}{α:Type}[DecidableEq α]{enc:α->List D}{a b:α}{x y:Operand}{t u ty:TypeId}{pos:String}{af:Array Edge}{gd:Option (Nat×Bool)}(hd:d<n)(hx:st.eval x=.agg (enc a))(hy:st.eval y=.agg (enc b))
  (la:dY (enc a)=true)(lb:dY (enc b)=true)(hg:P.eqGuardType P.depth t=false)(he:aDw P t enc):aQ P n ⟨some d,.binOp .eql t x y u,ty,pos,af,gd⟩ st (st.set d (.b (decide (a=b)))):=
 gH rfl hd rfl λA M w0 ac w hR=>by
  have kx:cD x=true:=by cases x with|const u=>cases hx|_=>rfl
  have ky:cD y=true:=by cases y with|const u=>cases hy|_=>rfl
  have h1:=hR.eval' kx;rw[hx] at h1;have h2:=hR.eval' ky;rw[hy] at h2;simp only[execOp,h1.agg_lits la,h2.agg_lits lb,Sem.run_bind,run_eqGuard_agg _ _ _ _ _ _ _ hg,Result.andThen_ok,run_eql_struct,he a b w]
  rfl
theorem cNs[Mode]{P:Program}{n d:Nat}{st:St}{α:Type}[DecidableEq α]{enc:α->List D}{a b:α}{x y:Operand}{t u ty:TypeId}{pos:String}{af:Array Edge}{gd:Option (Nat×Bool)}(hd:d<n)(hx:st.eval x=.agg (enc a))(hy:st.eval y=.agg (enc b))
  (la:dY (enc a)=true)(lb:dY (enc b)=true)(hg:P.eqGuardType P.depth t=false)(he:aDw P t enc):aQ P n ⟨some d,.binOp .neq t x y u,ty,pos,af,gd⟩ st (st.set d (.b (!decide (a=b)))):=
 gH rfl hd rfl λA M w0 ac w hR=>by
  have kx:cD x=true:=by cases x with|const u=>cases hx|_=>rfl
  have ky:cD y=true:=by cases y with|const u=>cases hy|_=>rfl
  have h1:=hR.eval' kx;rw[hx] at h1;have h2:=hR.eval' ky;rw[hy] at h2;simp only[execOp,h1.agg_lits la,h2.agg_lits lb,Sem.run_bind,run_eqGuard_agg _ _ _ _ _ _ _ hg,Result.andThen_ok,run_neq_struct,he a b w]
  rfl
end Go.Am
end
section
namespace Go.Am
structure XV where
 b:Nat
 v:Value
abbrev Mk:=Nat->XV
def aTa(X:Mk)(i:Nat)(x:XV):Mk:=λk=>bif Nat.beq k i then x else X k
def Sp(i:Nat)(S:Nat->Bool):Nat->Bool:=λj=>Nat.beq j i||S j
abbrev Stg:=List (Nat×MO)×MO
def wH(S:Nat->Bool):List (Nat×MO)->MO->MO
 |[],m=>m
 |(i,x)::l,m=>bif S i then x else wH S l m
def gS(S:Nat->Bool):List Stg->List MO
 |[]=>[]
 |s::r=>wH S s.1 s.2::gS S r
def aOy(yes no:List Nat):List (Nat×MO)->MO->Option MO
 |[],m=>some m
 |(i,x)::l,m=>bif aY i yes then some x else bif aY i no then aOy yes no l m else none
def aRr(i:Nat):List (Nat×MO)->Bool
 |[]=>false
 |(j,_)::l=>Nat.beq j i||aRr i l
def aMi(i:Nat):List Stg->Bool
 |[]=>true
 |s::r=>!(aRr i s.1)&&aMi i r
def aJh(i:Nat):Nat->List Stg->Bool
 |_,[]=>true
 |0,_::r=>aMi i r
 |p+1,s::r=>!(aRr i s.1)&&aJh i p r
def aFv(m:Nat):List Stg->Bool
 |[]=>true
 |s::r=>s.1.all (λx=>Nat.blt x.1 m)&&aFv m r
theorem aMt{S:Nat->Bool}{yes no:List Nat}(hS:Knows S yes no):∀{l:List (Nat×MO)} {m x:MO},aOy yes no l m=some x->wH S l m=x
 |[],m,x,h=>by simpa[aOy,wH] using h
 | (i,y)::l,m,x,h=>by
  simp only[aOy] at h;simp only[wH];cases hy:aY i yes with
  |true=>rw[hy] at h;simp at h;simp[hS.y i hy,h]
  | false=>
   cases hn:aY i no with
   |true=>rw[hy,hn] at h;simp at h;simp[hS.n i hn,aMt hS h]
   |false=>rw[hy,hn] at h;simp at h
theorem og{S:Nat->Bool}{yes no:List Nat}{objs:List MO}{i:Nat}{l:List (Nat×MO)}{m x:MO}(hS:Knows S yes no)(h:objs[i]?=some (wH S l m))(h2:aOy yes no l m=some x):objs[i]?=some x:=by
 rw[h,aMt hS h2]
theorem bSv{i j:Nat}{S:Nat->Bool}(h:Nat.beq j i=false):Sp i S j=S j:=by simp[Sp,h]
theorem aSo{i:Nat}{S:Nat->Bool}:∀{l:List (Nat×MO)} {m:MO},aRr i l=false->wH (Sp i S) l m=wH S l m
 |[],_,_=>rfl
 | (j,x)::l,m,h=>by
  simp only[aRr,j7] at h;simp only[wH,bSv h.1,aSo h.2]
theorem aOv{i:Nat}{S:Nat->Bool}:∀{obs:List Stg},aMi i obs=true->gS (Sp i S) obs=gS S obs
 |[],_=>rfl
 | s::r,h=>by
  simp only[aMi,f4,l6] at h;simp only[gS,aSo h.1,aOv h.2]
theorem aKq{i:Nat}{S:Nat->Bool}:∀{p:Nat} {obs:List Stg},aJh i p obs=true->∀{s:Stg} {x:MO},obs[p]?=some s->wH (Sp i S) s.1 s.2=x->gS (Sp i S) obs=(gS S obs).set p x
 |p,[],_,s,x,h,_=>by simp at h
 | 0,s0::r,ho,s,x,h,hx=>by
  simp at h;subst h;subst hx
  simp only[gS,List.set_cons_zero];rw[aOv ho]
 | p+1,s0::r,ho,s,x,h,hx=>by
  simp only[aJh,f4,l6] at ho;simp only[gS,List.set_cons_succ,aSo ho.1];rw[aKq ho.2 (by simpa using h) hx]
theorem aZu{m:Nat}{S S':Nat->Bool}(hS:∀j,j<m->S' j=S j):∀{l:List (Nat×MO)} {x:MO},(l.all λx=>Nat.blt x.1 m)=true->wH S' l x=wH S l x
 |[],_,_=>rfl
 | (j,y)::l,x,h=>by
  simp only[aA9,f4] at h;simp only[wH,hS j (aC h.1),aZu hS h.2]
theorem aVj{m:Nat}{S S':Nat->Bool}(hS:∀j,j<m->S' j=S j):∀{obs:List Stg},aFv m obs=true->gS S' obs=gS S obs
 |[],_=>rfl
 | s::r,h=>by
  simp only[aFv,f4] at h;simp only[gS,aZu hS h.1,aVj hS h.2]
def bPe(no:List Nat):Tab->Tab->Prop
 |[],[]=>True
 |x::l,x'::l'=>x.1=x'.1/\x.2.1=x'.2.1/\(aY x.2.1 no=true\/x.2.2=x'.2.2)/\bPe no l l'
 |_,_=>False
def bGh(no:List Nat):List (Nat×MO)->List (Nat×MO)->Prop
 |[],[]=>True
 |x::l,x'::l'=>x.1=x'.1/\(aY x.1 no=true\/x.2=x'.2)/\bGh no l l'
 |_,_=>False
def bGg(no:List Nat):List Stg->List Stg->Prop
 |[],[]=>True
 |s::r,s'::r'=>bGh no s.1 s'.1/\s.2=s'.2/\bGg no r r'
 |_,_=>False
theorem aYt{no:List Nat}{S:Nat->Bool}{base:Nat->AV}(hS:∀j,aY j no=true->S j=false):∀{t t':Tab},bPe no t t'->∀k,ov t S base k=ov t' S base k
 |[],[],_,k=>rfl
 | (d,j,v)::l,(d',j',v')::l',h,k=>by
  obtain⟨h1,h2,h3,h4⟩:=h;simp only at h1 h2 h3;subst h1;subst h2;have ih:=aYt (base:=base) hS h4 k;unfold ov at ih|-;simp only[find];cases hk:Nat.beq d k with
  |false=>simpa using ih
  | true=>
   simp only[i7]
   rcases h3 with h3|h3
   ·rw[hS j h3];rfl
   ·rw[h3]
theorem aZt{no:List Nat}{S:Nat->Bool}(hS:∀j,aY j no=true->S j=false):∀{l l':List (Nat×MO)} {m:MO},bGh no l l'->wH S l m=wH S l' m
 |[],[],_,_=>rfl
 | (j,x)::l,(j',x')::l',m,h=>by
  obtain⟨h1,h2,h3⟩:=h;simp only at h1 h2;subst h1;simp only[wH,aZt hS h3]
  rcases h2 with h2|h2
  ·rw[hS j h2];rfl
  ·rw[h2]
theorem aVi{no:List Nat}{S:Nat->Bool}(hS:∀j,aY j no=true->S j=false):∀{o o':List Stg},bGg no o o'->gS S o=gS S o'
 |[],[],_=>rfl
 | s::r,s'::r',h=>by
  simp only[gS,aZt hS h.1,h.2.1,aVi hS h.2.2]
def aTs(i:Nat):Tab->Bool
 |[]=>true
 |x::l=>!(Nat.beq x.2.1 i)&&aTs i l
theorem aYu{i:Nat}:∀{t:Tab},aTs i t=true->∀{k j:Nat} {v:AV},find t k=some (j,v)->Nat.beq j i=false
 |[],_,k,j,v,h=>by simp[find] at h
 | (d0,j0,v0)::l,hn,k,j,v,h=>by
  simp only[aTs,f4,l6] at hn;simp only[find] at h;cases hb:Nat.beq d0 k with
  |true=>rw[hb] at h;simp at h;rw[<-h.1];exact hn.1
  |false=>rw[hb] at h;exact aYu hn.2 (by simpa using h)
theorem cBv{i:Nat}{t:Tab}{S:Nat->Bool}{base:Nat->AV}(hn:aTs i t=true)(k:Nat):ov t (Sp i S) base k=ov t S base k:=by
 unfold ov;cases hf:find t k with
 |none=>rfl
 | some p=>
  obtain⟨j,v⟩:=p;simp only[bSv (aYu hn hf)]
theorem Knows.sp{S:Nat->Bool}{yes no:List Nat}{i:Nat}(h:Knows S yes no)(hn:aY i no=false):Knows (Sp i S) (i::yes) no:=by
 refine⟨λj hj=>?_,λj hj=>?_⟩
 ·simp only[aY] at hj;cases hb:Nat.beq i j with
  |true=>have:=f7 hb;subst this;simp[Sp]
  |false=>rw[hb] at hj;simp only[g6] at hj;simp[Sp,h.y j hj]
 ·have:Nat.beq j i=false:=by
   cases hb:Nat.beq j i with
   |false=>rfl
   |true=>have:=f7 hb;subst this;rw[hn] at hj;cases hj
  rw[bSv this];exact h.n j hj
theorem Knows.tl{S:Nat->Bool}{yes no:List Nat}{i:Nat}(h:Knows S yes (i::no)):Knows S yes no:=⟨h.y,λj hj=>h.n j (by simp only[aY];cases Nat.beq i j<;>simp[hj])⟩
theorem Knows.cons{S:Nat->Bool}{yes no:List Nat}{i:Nat}(h:Knows S yes no)(hi:S i=false):∀j,aY j (i::no)=true->S j=false:=by
 intro j hj;simp only[aY] at hj;cases hb:Nat.beq i j with
 |true=>have:=f7 hb;subst this;exact hi
 |false=>rw[hb] at hj;exact h.n j (by simpa using hj)
def aKe[Mode](P:Program)(n:Nat)(ops:Array Oper)(o:Oper)(tab:Mk->Tab)(base:Nat->AV)(obs:Mk->List Stg)(i:Nat)(X:Mk)(S:Nat->Bool):Prop:=
 GStepP P n ops o ⟨ov (tab X) S base,gS S (obs X)⟩ (λs=>∃X',Ent s ⟨ov (tab X') (Sp i S) base,gS (Sp i S) (obs X')⟩)
def XSteps[Mode](P:Program)(n:Nat)(ops:Array Oper)(tab:Mk->Tab)(base:Nat->AV)(obs:Mk->List Stg):List Oper->List (List Nat×List Nat)->Nat->Prop
 |[],_,_=>True
 | o::l,yn,i=>(∀(X:Mk) (S:Nat->Bool),(∀X,lW (tab X)=true)->S i=false->Knows S (yn.headD ([],[])).1 (i::(yn.headD ([],[])).2)->
   aKe P n ops o tab base obs i X S)/\XSteps P n ops tab base obs l yn.tail (i+1)
theorem XSteps.get[Mode]{P:Program}{n:Nat}{ops:Array Oper}{tab:Mk->Tab}{base:Nat->AV}{obs:Mk->List Stg}:∀{l:List Oper} {yn:List (List Nat×List Nat)} {k:Nat},XSteps P n ops tab base obs l yn k->∀{i:Nat} {o:Oper},l[i]?=some o->
  ∀ (X:Mk) (S:Nat->Bool),(∀X,lW (tab X)=true)->S (k+i)=false->Knows S (yn.getD i ([],[])).1 ((k+i)::(yn.getD i ([],[])).2)->
   aKe P n ops o tab base obs (k+i) X S
 |[],_,_,_,i,o,h=>by simp at h
 | _::_,yn,k,h,0,o,ho=>by
  simp at ho;subst ho
  have:=h.1;cases yn<;>simpa using this
 | _::l,yn,k,h,i+1,o,ho=>by
  have:=h.2.get (i:=i) (by simpa using ho);rw[show k+1+i=k+(i+1) by omega] at this;cases yn<;>simpa using this
section
variable{P:Program}{n:Nat}{st:St}{Q:Exit->St->Prop}{ops:Array Oper}{o:Oper}
theorem GStep.toP'[Mode]{st1 st2:St}(h:GStep P n ops o st1 st2){Post:St->Prop}(hp:Post st2):GStepP P n ops o st1 Post:=by
 rcases h with⟨hw,h⟩|⟨hw,d,ho,hd,rfl⟩
 ·exact .inl ⟨hw,λA M w0 a w hR K Q hK=>h A M w0 a w hR K Q λs a' w' e hR'=>hK s a' w' (e▸hp) hR'⟩
 ·exact .inr ⟨hw,d,ho,hd,hp⟩
def nob:MO:=.box 0 0 []
theorem cGa[Mode]{env:Nat->AV}{objs:List MO}:Ent ⟨env,objs⟩ ⟨env,objs++[nob]⟩:=by
 intro A M w0 n a w hR;refine hR.change (Keeps.refl (λ_ _=>False) w) (λ_ _ h=>h.elim) (λb o _ hx=>?_) ?_ λhm m hmm=>?_
 ·rcases kT.1 hx with h|⟨m,hm,hf⟩
  ·exact h
  ·simp at hm;subst hm;obtain⟨_,h1,h2⟩:=hf;simp at h2
 ·refine p9.2 ⟨hR.inv.sep,by simp,λx hx y hy b o h1 h2=>?_⟩
  simp at hy;subst hy;obtain⟨_,h3,h4⟩:=h2;simp at h4
 ·rcases i6.1 hmm with h|h
  ·exact cI (hR.inv.holds m h) (Keeps.refl (λ_ _=>False) w) (λ_ _ _ h=>h) hm
  ·simp at h;subst h
   exact⟨[],trivial,λj v h=>by simp at h,λj h=>by simp at h⟩
theorem bHv[Mode]{env:Nat->AV}{objs:List MO}:∀q,Ent ⟨env,objs⟩ ⟨env,objs++List.replicate q nob⟩
 |0=>by simpa using Ent.refl _
 | q+1=>by
  have:=(bHv (env:=env) (objs:=objs) q).trans cGa
  rwa[List.append_assoc,<-List.replicate_succ'] at this
theorem aDj[Mode]{tab:Mk->Tab}{base:Nat->AV}{obs:Mk->List Stg}{X:Mk}{S:Nat->Bool}{i d:Nat}{v:AV}(hf:find (tab X) d=some (i,v))(hown:lW (tab X)=true)(hfree:aMi i (obs X)=true)
  (h:GStep P n ops o ⟨ov (tab X) S base,gS S (obs X)⟩ ⟨upd (ov (tab X) S base) d v,gS S (obs X)⟩):
  aKe P n ops o tab base obs i X S:=by
 refine h.toP' ⟨X,?_⟩;have:ov (tab X) (Sp i S) base=upd (ov (tab X) S base) d v:=funext λk=>aIf hown hf k;rw[this,aOv hfree];exact Ent.refl _
theorem cIm[Mode]{tab:Mk->Tab}{base:Nat->AV}{obs:Mk->List Stg}{X:Mk}{S:Nat->Bool}{yes no:List Nat}{i p:Nat}{s0:Stg}{mo:MO}(hS:Knows S yes (i::no))(hno:aY i no=false)(hn:aTs i (tab X)=true)(ho:aJh i p (obs X)=true)
  (hp:(obs X)[p]?=some s0)(hm:aOy (i::yes) no s0.1 s0.2=some mo)
  (h:GStep P n ops o ⟨ov (tab X) S base,gS S (obs X)⟩ ⟨ov (tab X) S base,(gS S (obs X)).set p mo⟩):
  aKe P n ops o tab base obs i X S:=by
 refine h.toP' ⟨X,?_⟩;have:ov (tab X) (Sp i S) base=ov (tab X) S base:=funext λk=>cBv hn k;rw[this,aKq ho hp (aMt (hS.tl.sp hno) hm)];exact Ent.refl _
theorem bLc[Mode]{tab:Mk->Tab}{base:Nat->AV}{obs:Mk->List Stg}{X:Mk}{S:Nat->Bool}{yes no:List Nat}{i d p:Nat}{v:AV}{s0:Stg}{mo:MO}(hS:Knows S yes (i::no))(hg:o.guard=none)(hno:aY i no=false)
  (hf:find (tab X) d=some (i,v))(hown:lW (tab X)=true)(ho:aJh i p (obs X)=true)(hp:(obs X)[p]?=some s0)(hm:aOy (i::yes) no s0.1 s0.2=some mo)
  (h:Step P n o ⟨ov (tab X) S base,gS S (obs X)⟩ (λs=>Ent s ⟨upd (ov (tab X) S base) d v,(gS S (obs X)).set p mo⟩)):
  aKe P n ops o tab base obs i X S:=by
 refine .inl ⟨λ_ _ _ _ _ _=>by simp[Region.wanted,hg],λA M w0 a w hR K Q hK=>h A M w0 a w hR K Q λs a' w' he hR'=>hK s a' w' ⟨X,?_⟩ hR'⟩;have:ov (tab X) (Sp i S) base=upd (ov (tab X) S base) d v:=funext λk=>aIf hown hf k;rw[this,aKq ho hp (aMt (hS.tl.sp hno) hm)];exact he
theorem bBe[Mode]{tab:Mk->Tab}{base:Nat->AV}{obs:Mk->List Stg}{X:Mk}{S:Nat->Bool}{yes no:List Nat}{i d p:Nat}{v:XV->AV}{s0:XV->Stg}{mo:XV->MO}(hS:Knows S yes (i::no))(hi:S i=false)(hg:o.guard=none)(hno:aY i no=false)
  (hf:∀x,find (tab (aTa X i x)) d=some (i,v x))(hown:∀X,lW (tab X)=true)(ho:∀X,aJh i p (obs X)=true)(hp:∀x,(obs (aTa X i x))[p]?=some (s0 x))(hm:∀x,aOy (i::yes) no (s0 x).1 (s0 x).2=some (mo x))
  (hat:∀x,bPe (i::no) (tab (aTa X i x)) (tab X))(hao:∀x,bGg (i::no) (obs (aTa X i x)) (obs X))
  (h:Step P n o ⟨ov (tab X) S base,gS S (obs X)⟩ (λs=>∃x,Ent s ⟨upd (ov (tab X) S base) d (v x),(gS S (obs X)).set p (mo x)⟩)):
  aKe P n ops o tab base obs i X S:=by
 refine .inl ⟨λ_ _ _ _ _ _=>by simp[Region.wanted,hg],λA M w0 a w hR K Q hK=>h A M w0 a w hR K Q ?_⟩;rintro s a' w' ⟨x,he⟩ hR';refine hK s a' w' ⟨aTa X i x,?_⟩ hR';have h1:ov (tab (aTa X i x)) (Sp i S) base=upd (ov (tab X) S base) d (v x):=by
  funext k
  rw[show ov (tab (aTa X i x)) (Sp i S) base k=_ from aIf (hown _) (hf x) k];have:ov (tab (aTa X i x)) S base=ov (tab X) S base:=funext λk=>aYt (hS.n) (hat x) k;rw[this]
 rw[h1,aKq (ho _) (hp x) (aMt (hS.tl.sp hno) (hm x)),aVi (hS.n) (hao x)];exact he
def XOK[Mode](P:Program)(n:Nat)(l:List Oper)(m q:Nat)(tab:Mk->Tab)(obs:Mk->List Stg)(st:St):Prop:=
 zE l=true/\vL (cW l l.length) m l.length=true/\Nat.ble m l.length=true/\(∀X,lW (tab X)=true)/\(∀X,((tab X).all λx=>Nat.blt x.2.1 m)=true)/\(∀X,aFv m (obs X)=true)/\
  (∀X,gS (λ_=>false) (obs X)=st.objs++List.replicate q nob)/\
  ∃yn,aQa (cW l l.length) m yn=true/\XSteps P n l.toArray tab st.env obs (l.take m) yn 0
theorem cCs[Mode]{id:Nat}{l:List Oper}(hm:P.follows .mixedOrders=true)(m q:Nat)(tab:Mk->Tab)(obs:Mk->List Stg)(ks:List Nat)(us:Mk->List (Nat×AV))(objs:Mk->List MO)(h:XOK P n l m q tab obs st)
  (he:∀X,Ent ⟨ov (tab X) (λ_=>true) st.env,gS (λ_=>true) (obs X)⟩ ⟨aKa (keep ks st.env) (us X),objs X⟩)
  (htail:∀X,TrL P n l.toArray (l.drop m) ⟨aKa (keep ks st.env) (us X),objs X⟩ Q):Tr P n (.region id l.toArray true) st Q:=by
 obtain⟨h1,h2,h3,hw,h4,h5,h6,yn,h7,h8⟩:=h;refine jZ (bHv q) ?_;have h0:(⟨st.env,st.objs++List.replicate q nob⟩:St)=⟨ov (tab λ_=>⟨0,undef⟩) (λ_=>false) st.env,gS (λ_=>false) (obs λ_=>⟨0,undef⟩)⟩:=by
  rw[h6]
  congr 1
  funext k
  unfold ov;cases find (tab λ_=>⟨0,undef⟩) k<;>rfl
 refine aPu m (λS st'=>∃X,st'=⟨ov (tab X) S st.env,gS S (obs X)⟩) hm h1 h2 h3 yn h7 ⟨_,h0⟩ ?_ ?_ ?_
 ·rintro S S' st' hS ⟨X,rfl⟩;refine⟨X,?_⟩;rw[aVj hS (h5 X)]
  congr 1
  funext k
  unfold ov;cases hf:find (tab X) k with
  |none=>rfl
  | some p=>
   obtain⟨j,v⟩:=p;have hjm:j<m:=aC (k6.1 (h4 X) _ (aAi hf))
   simp[hS j hjm]
 ·rintro i o hoi S st' ⟨X,rfl⟩ hi hk;have:=h8.get hoi X S hw (by rw[s8];exact hi) ⟨hk.y,by rw[s8];exact hk.cons hi⟩;rw[s8] at this
  rcases this with⟨hw',h⟩|⟨hw',d,ho,hd,X',he'⟩
  ·exact .inl ⟨hw',λA M w0 a w hR K Q hK=>h A M w0 a w hR K Q λs a' w' ⟨X',he'⟩ hR'=>hK s a' w' ⟨_,⟨X',rfl⟩,he'⟩ hR'⟩
  ·exact .inr ⟨hw',d,ho,hd,_,⟨X',rfl⟩,he'⟩
 ·rintro st' ⟨X,rfl⟩;exact kY (he X) (htail X)
theorem yE[Mode]{id:Nat}{l:List Oper}(hm:P.follows .mixedOrders=true)(m:Nat)(ks:List Nat)(us:Mk->List (Nat×AV))(objs:Mk->List MO)
  (h:∃q tab obs,XOK P n l m q tab obs st/\∀X,Ent ⟨ov (tab X) (λ_=>true) st.env,gS (λ_=>true) (obs X)⟩ ⟨aKa (keep ks st.env) (us X),objs X⟩)
  (htail:∀X,TrL P n l.toArray (l.drop m) ⟨aKa (keep ks st.env) (us X),objs X⟩ Q):Tr P n (.region id l.toArray true) st Q:=by
 obtain⟨q,tab,obs,h,he⟩:=h;exact cCs hm m q tab obs ks us objs h he htail
theorem le_refl(e:Nat->AV):Le e e:=λ_=>.inr rfl
theorem bUx[Mode]{env:Nat->AV}{objs:List MO}(p:Nat){x:MO}(h:objs[p]?=some x):Ent ⟨env,objs⟩ ⟨env,objs.set p x⟩:=by
 have:objs.set p x=objs:=by
  apply aD2;intro q;rw[aB3]
  split
  ·rename_i hq
   subst hq;rw[h]
   simp
   have:=(g7.1 h).1
   omega
  ·rfl
 rw[this];exact Ent.refl _
theorem aXf[Mode]{st1:St}{Post:St->Prop}(he:Ent st st1)(h:Step P n o st1 Post):Step P n o st Post:=λA M w0 a w hR K Q hK=>h A M w0 a w (he A M w0 n a w hR) K Q hK
theorem yD[Mode]{Post Post':St->Prop}(h:Step P n o st Post)(hp:∀s,Post s->Post' s):Step P n o st Post':=λA M w0 a w hR K Q hK=>h A M w0 a w hR K Q λs a' w' hs hR'=>hK s a' w' (hp s hs) hR'
theorem bTt[Mode]{f:FuncId}{fn:Func}{c:Code}{args:List AV}{objs objs':List MO}{r:AV}(hf:P.funcs[f]?=some fn)(hb:fn.body=some c){rs:List ResultVar}(hr:fn.results=rs.toArray){n:Nat}(hn:fn.ntmps=n)(ha:args.length<=n)
  (h:Tr P n c ⟨entry args,objs⟩ (λe st=>e=.ret/\∃r',aNj st rs r'/\r'=r/\st.objs=objs')):aX P f args objs (λr' o=>r'=r/\o=objs'):=by
 subst hn;exact aIn hf hb hr ha (nJ h λe s ⟨h1,r',h2,h3,h4⟩=>⟨.inl h1,r',h2,h3,h4⟩)
theorem bIg{len j m:Nat}{p:Int}{u:Unit}(h:inb len p=some u)(hb:Nat.ble (j+len) m=true):j+p.toNat*1+1<=m:=by
 obtain⟨h1,h2⟩:=iU h;have:=f5 hb
 omega
end
end Go.Am
end
end
section
section
namespace Go.Am
theorem bAl{P:Program}{t:TypeId}{m:Nat}(ht:gJ P t m){w:World}{b o:Nat}{vs:List Value}(hl:vs.length=m)(h:cellsAt w b o vs):
  (loadVar t ⟨b,o,none⟩).run P w=.ok (.agg vs.toArray) w:=by
 subst hl;have:=run_loadCells_list (P:=P) w ⟨b,o,none⟩ vs λj v hj=>by rw[Addr.add_lit];exact h j v hj
 simp[loadVar,ht.1,ht.2,this]
inductive RVc(P:Program)(st:St):ResultVar->AV->Prop where
 |tmp (t:Nat) {v:AV} (h:st.env t=v):RVc P st (.tmp t) v
 |cell (a:Nat) (t:TypeId) {b o j i m:Nat} {ds es:List D} (ha:st.env a=.bp b o j) (ho:st.objs[i]?=some (.box b o ds)) (ht:gJ P t m) (he:(ds.drop j).take m=es) (hl:es.length=m):RVc P st (.cell a t) (.agg es)
 |cell1 (a:Nat) (t:TypeId) {b o j i:Nat} {ds:List D} {d0:D} (ha:st.env a=.bp b o j) (ho:st.objs[i]?=some (.box b o ds)) (ht:fN P t) (he:ds[j]?=some d0):RVc P st (.cell a t) (.d d0)
def aIg(tmps:Array Value):ResultVar->Sem Value
 | .tmp t=>pure (tmps.getD t undef)
 | .cell a t=>do loadVar t (<-asAddr (tmps.getD a undef))
theorem RVc.run[Mode]{P:Program}{st:St}{x:ResultVar}{r:AV}(h:RVc P st x r){A M:aR}{w0:W0}{n:Nat}{a:Act}{w:World}(hR:R A M w0 n st a w):
  ∃v,(aIg a.tmps x).run P w=.ok v w/\VR w (aU A st.objs) r v:=by
 cases h with
 |tmp t h=>exact⟨_,rfl,h▸hR.env t⟩
 | @cell p t b o j i m ds es ha ho ht he hl=>
  have h:=hR.env p;rw[ha] at h
  generalize hu:a.tmps.getD p undef=u at h
  obtain⟨vs,hds,hc,_⟩:=hR.inv.holds _ (i8 ho);have hdt:=(hds.drop j).take m;cases h with
  | bp=>
   subst he;refine⟨.agg ((vs.drop j).take m).toArray,?_,.agg (by simpa using hdt)⟩
   simp[aIg,hu,asAddr,bAl ht (vs:=(vs.drop j).take m) (by rw[hdt.length,hl]) ((hc.drop j).take m)]
 | @cell1 p t b o j i ds d0 ha ho ht he=>
  have h:=hR.env p;rw[ha] at h
  generalize hu:a.tmps.getD p undef=u at h
  obtain⟨vs,hds,hc,_⟩:=hR.inv.holds _ (i8 ho);obtain⟨v,hv,hdv⟩:=hds.get he;cases h with
  | bp=>
   refine⟨v,?_,.d hdv⟩;have hcell:=hc j v hv
   simp[aIg,hu,asAddr,loadVar,ht.1,hcell]
inductive ResW(P:Program)(st:St):List ResultVar->AV->Prop where
 |one {x:ResultVar} {r:AV} (h:RVc P st x r):ResW P st [x] r
 |two {x y:ResultVar} {r s:AV} (h:RVc P st x r) (h2:RVc P st y s):ResW P st [x,y] (.tup [r,s])
 |three {x y z:ResultVar} {r s t:AV} (h:RVc P st x r) (h2:RVc P st y s) (h3:RVc P st z t):ResW P st [x,y,z] (.tup [r,s,t])
 |none:ResW P st [] (.tup [])
theorem aFh(fn:Func)(tmps:Array Value):results fn tmps=(do
  let vs<-fn.results.mapM (aIg tmps)
  pure (if h:vs.size=1 then vs[0] else .tuple vs)):=by
 unfold results;have:(λx:ResultVar=>aIg tmps x)=aIg tmps:=rfl
 congr 1
theorem aQk[Mode]{fn:Func}{rs:List ResultVar}(hr:fn.results=rs.toArray){P:Program}{st:St}{r:AV}(h:ResW P st rs r){A M:aR}{w0:W0}{n:Nat}{a:Act}{w:World}(hR:R A M w0 n st a w):
  ∃v,(results fn a.tmps).run P w=.ok v w/\VR w (aU A st.objs) r v:=by
 cases h with
 | one h=>
  obtain⟨v,h1,h2⟩:=h.run hR;refine⟨v,?_,h2⟩;rw[aFh,hr]
  simp[h1]
 | two h k=>
  obtain⟨v,h1,h2⟩:=h.run hR;obtain⟨u,k1,k2⟩:=k.run hR;refine⟨.tuple #[v,u],?_,.tup (us:=[_,_]) rfl λi hi=>by
    match i,hi with
    |0,_=>exact h2
    |1,_=>exact k2⟩
  rw[aFh,hr]
  simp[h1,k1]
 | three h k l=>
  obtain⟨v,h1,h2⟩:=h.run hR;obtain⟨u,k1,k2⟩:=k.run hR;obtain⟨x,l1,l2⟩:=l.run hR;refine⟨.tuple #[v,u,x],?_,.tup (us:=[_,_,_]) rfl λi hi=>by
    match i,hi with
    |0,_=>exact h2
    |1,_=>exact k2
    |2,_=>exact l2⟩
  rw[aFh,hr]
  simp[h1,k1,l1]
 | none=>
  refine⟨.tuple #[],?_,.tup (us:=[]) rfl λi hi=>by simp at hi⟩;rw[aFh,hr]
  simp
theorem mQ[Mode]{P:Program}{f:FuncId}{fn:Func}{c:Code}{args:List AV}{objs:List MO}{Q:AV->List MO->Prop}(hf:P.funcs[f]?=some fn)(hb:fn.body=some c){rs:List ResultVar}(hr:fn.results=rs.toArray){n:Nat}(hn:fn.ntmps=n)(ha:args.length<=n)
  (h:Tr P n c ⟨entry args,objs⟩ (λe st=>e=.ret/\∃r0 objs' gone r,ResW P st rs r0/\st.objs.Perm (objs'++gone)/\BV gone r0 r/\Q r objs')):aX P f args objs Q:=by
 subst hn;intro A w vs hinv hA hvs;refine aLi hf hb ha h hinv hA hvs (λe st hq=>.inl hq.1) ?_;rintro e st a' w' ⟨rfl,r0,objs',gone,r,hres,hp,hbv,hq⟩ hR';obtain⟨v,hrun,hv⟩:=aQk hr hres hR';have hR1:R A (fJ objs) ⟨w,[],none⟩ 1 ⟨upd emp 0 r0,st.objs⟩ {tmps:= #[v],defers:=[]} w':=by
  refine⟨rfl,Marks.nil _ ⟨w,[],none⟩ _,λk=>?_,hR'.inv,hR'.keeps,hR'.own,hR'.old⟩;show VR _ _ (upd emp 0 r0 k) _
  by_cases hk:0=k
  ·subst hk;rw[fD];exact hv
  ·rw[lC _ _ hk];exact .any _
 have hR2:=oL (env':=upd emp 0 r) hp (λk=>by
  by_cases hk:0=k
  ·subst hk;rw[fD,fD];exact hbv
  ·rw[lC _ _ hk,lC _ _ hk];exact .any _) A (fJ objs) ⟨w,[],none⟩ 1 _ w' hR1
 have hv2:VR w' (aU A objs') (upd emp 0 r 0) v:=hR2.env 0;rw[fD] at hv2;exact⟨v,hrun,v,r,objs',rfl,hR2.keeps,hR2.inv,hv2,hR2.own,hq⟩
theorem hZ[Mode]{P:Program}{f:FuncId}{fn:Func}{c:Code}{args:List AV}{objs objs':List MO}{r:AV}(hf:P.funcs[f]?=some fn)(hb:fn.body=some c){rs:List ResultVar}(hr:fn.results=rs.toArray){n:Nat}(hn:fn.ntmps=n)(ha:args.length<=n)
  (h:Tr P n c ⟨entry args,objs⟩ (λe st=>e=.ret/\∃r0 gone,ResW P st rs r0/\st.objs.Perm (objs'++gone)/\BV gone r0 r)):aX P f args objs (λr' o=>r'=r/\o=objs'):=
 mQ hf hb hr hn ha (nJ h λe st ⟨h1,r0,gone,h2,h3,h4⟩=>⟨h1,r0,objs',gone,r,h2,h3,h4,rfl,rfl⟩)
theorem qG[Mode](e k:Nat){env:Nat->AV}{objs:List MO}:Ent ⟨env,objs⟩ ⟨env,objs++[.arr (.slice none 0 0) e k []]⟩:=by
 intro A M w0 n a w hR;exact hR.add (w':=w) (m:=.arr (.slice none 0 0) e k []) (Keeps.refl _ _) (λb o hf=>by simp[MO.foot,Value.ownBlock] at hf)
  (λhm=>⟨[],trivial,⟨by simp,.inl ⟨rfl,rfl⟩⟩,by simp⟩)
section
variable{P:Program}{n d:Nat}{st:St}{o:Oper}
theorem mZ[Mode]{c:Callee}{l:List Operand}{f:FuncId}{args args':List AV}{r:AV}{ts:Array TypeId}{ty:TypeId}{pos:String}{af:Array Edge}{gd:Option (Nat×Bool)}(hd:d<n)
  {a0:List AV}(hc:lH P st c l f a0)(ha:a0=args)(hok:fU l=true)(hb:BVs [] args args')(hf:Fn P f args' r):
  aQ P n ⟨some d,.call {callee:=c,args:=l.toArray,argTypes:=ts},ty,pos,af,gd⟩ st (st.set d r):=by
 refine aTz hd hc ha hok ?_;intro A w vs hinv hA hvs;exact hf A w vs hinv hA (hb.sound (λm hm=>by simp at hm) (λ_ _ h=>h) (λm hm=>by simp at hm) hvs)
theorem bKh[Mode]{x y:AV}(hw:BV [] x y)(h:aQ P n o st (st.set d x)):aQ P n o st (st.set d y):=by
 intro A M w0 a w hR K Q hK;refine h A M w0 a w hR K Q ?_;rintro s a' w' rfl hR';refine hK _ _ _ rfl ?_;have:=oL (env:=upd st.env d x) (env':=upd st.env d y) (objs:=st.objs) (keepers:=st.objs) (gone:=[]) (by simp) (λk=>by
  by_cases hk:d=k
  ·subst hk;rw[fD,fD];exact hw
  ·rw[lC _ _ hk,lC _ _ hk];exact .same _)
 exact this A M w0 n a' w' hR'
end
theorem bYz(fs:List MO)(e:Nat->AV):BLe fs e e:=λ_=>.same _
theorem bNj[Mode]{env env':Nat->AV}{objs:List MO}(keepers gone:List MO)(ho:objs=keepers++gone)(h:BLe gone env env'):Ent ⟨env,objs⟩ ⟨env',keepers⟩:=oL (ho▸List.Perm.refl _) h
theorem cMc[Mode]{P:Program}{n:Nat}{c:Code}{Q:Exit->St->Prop}{env env':Nat->AV}{objs:List MO}(keepers gone:List MO)(ho:objs=keepers++gone)(h:BLe gone env env')(k:Tr P n c ⟨env',keepers⟩ Q):Tr P n c ⟨env,objs⟩ Q:=jZ (bNj keepers gone ho h) k
theorem cIj[Mode]{P:Program}{n:Nat}{ops:Array Oper}{l:List Oper}{Q:Exit->St->Prop}{env env':Nat->AV}{objs:List MO}(keepers gone:List MO)(ho:objs=keepers++gone)(h:BLe gone env env')(k:TrL P n ops l ⟨env',keepers⟩ Q):TrL P n ops l ⟨env,objs⟩ Q:=kY (bNj keepers gone ho h) k
theorem cFx{v:Value}{e k:Nat}{rows:List (List D)}(hk:∀r∈rows,r.length=k):DV [.arr v e k rows] (.lit v) (.sl k rows):=
 .arr v e k rows rows (by simp) rfl hk λ_ _ _ _=>.same _
theorem aYr[Mode]{A M:aR}{w0:W0}{n:Nat}{st:St}{a:Act}{w:World}(hR:R A M w0 n st a w){k:IntKind}:∀{l:List Operand} {ps:List Int},st.evals l=ps.map (λp=>.d (.lit (.int k p)))->l.map a.eval=ps.map (λp=>.int k p)
 |[],[],_=>rfl
 | x::l,p::ps,h=>by
  simp only[St.evals,j3,aC7] at h|-;exact⟨hR.lit h.1,aYr hR h.2⟩
 |[],_::_,h=>by simp[St.evals] at h
 |_::_,[],h=>by simp[St.evals] at h
section
variable{P:Program}{n d:Nat}{st:St}
theorem bKd{k:IntKind}{w:World}:∀(ps:List Int) (p:Int),(List.foldlM Builtin.max2 (.int k p) (ps.map (λp=>Value.int k p))).run P w=.ok (.int k (ps.foldl max p)) w
 |[],p=>rfl
 | q::ps,p=>by
  have:(if q>p then q else p)=max p q:=by simp only[Int.max_def];split<;>split<;>omega
  simp[Builtin.max2,this,bKd ps]
theorem cLp[Mode]{x:Operand}{l:List Operand}{k:IntKind}{p:Int}(ps:List Int){ts:Array TypeId}{ty:TypeId}{pos:String}{af:Array Edge}{gd:Option (Nat×Bool)}(hd:d<n)
  (hx:st.eval x=.d (.lit (.int k p)))(hl:st.evals l=ps.map (λp=>.d (.lit (.int k p)))):
  aQ P n ⟨some d,.call {callee:=.builtin .max,args:=(x::l).toArray,argTypes:=ts},ty,pos,af,gd⟩ st (st.set d (.d (.lit (.int k (ps.foldl max p))))):=
 gH rfl hd rfl λA M w0 a w hR=>by
  simp[execOp,resolve,hR.lit hx,aYr hR hl,invoke,builtin,Builtin.max_,bKd]
end
def aLw(Q:Exit->St->Prop):Prop:=∀l s,¬Q (.goto l) s
theorem cGv{N:St->Prop}{Q:Exit->St->Prop}(h:aLw Q):aLw (mM N Q):=λl s hq=>h l s hq
theorem cBk{id:Nat}{N:St->Prop}{Q:Exit->St->Prop}(h:aLw Q):aLw (zM id N Q):=λl s hq=>h l s hq
theorem cKp{p:St->Prop}:aLw (λe s=>e=.ret/\p s):=λl s hq=>by cases hq.1
theorem bMt{P:Program}{b:Frame}{a:Act}{k:List Item}{cs:List Frame}{w:World}{c:Code}:step P (lone (b.atR a (.code (.scope c)::k)) cs w)=.next (lone (b.atR a (.code c:: .inScope c::k)) cs w):=
 step_lone_go (by simp[stepG,stepG.exec,Frame.atR])
theorem bFu{P:Program}{b:Frame}{a:Act}{k:List Item}{cs:List Frame}{w:World}{c:Code}:step P (lone (b.atR a (.inScope c::k)) cs w)=.next (lone (b.atR a k) cs w):=
 step_lone_go (by simp[stepG,stepG.exec,Frame.atR])
theorem aQt{F:Fence}{n:Nat}{P:Program}{a:Act}{w:World}{Q:Exit->Act->World->Prop}{c:Code}(h:c.wpIn F n P (Exit.noGoto Q) a w):(Code.scope c).wpIn F n P Q a w:=by
 intro b k cs hro hb hr;obtain⟨e,a₁,w₁,hq,harr⟩:=h b (.inScope c::k) cs hro hb hr;have s0:StepsIn (Machine.fenced P F) P (lone (b.atR a (.code (.scope c)::k)) cs w) (lone (b.atR a (.code c:: .inScope c::k)) cs w):=.one (fenced_calm (fr:=b.atR a (.code (.scope c)::k)) hb hr rfl) bMt;have harr:=ArrivesIn.of_steps s0 harr;cases e with
 |normal=>exact⟨.normal,a₁,w₁,hq,StepsIn.trans harr (.one (fenced_calm (fr:=b.atR a₁ (.inScope c::k)) hb hr rfl) bFu)⟩
 |goto l=>exact hq.elim
 |exit id=>exact⟨.exit id,a₁,w₁,hq,λk' hk=>harr.1 k' (by simp[exitTo,hk]),λhr hk=>harr.2 hr (by simp[exitTo,hk])⟩
 |ret=>exact⟨.ret,a₁,w₁,hq,harr⟩
 |panic ch=>exact⟨.panic ch,a₁,w₁,hq,harr⟩
 |outgrown=>exact⟨.outgrown,a₁,w₁,hq,harr⟩
theorem bKx[Mode]{P:Program}{n:Nat}{st:St}{c:Code}{Q:Exit->St->Prop}(hg:aLw Q)(h:Tr P n c st Q):Tr P n (.scope c) st Q:=by
 intro A M w0 a w hR hn;refine aQt (wpIn_mono (h A M w0 a w hR hn) ?_);rintro e a' w' ⟨st',hq,hR'⟩;cases e with
 |goto l=>exact absurd hq (hg l st')
 |_=>exact⟨st',hq,hR'⟩
def fA{α:Type}(k:Nat)(f:α->List D):Option (List α)->D
 |none=>.lit (.slice none 0 0)
 |some xs=>.sn k (xs.map f)
theorem cJu{fs:List MO}{α:Type}{k:Nat}{f:α->List D}(e:Option (List α)):DV fs (fA k f e) (.sl k ((e.getD []).map f)):=by
 cases e with
 |none=>exact .nil k
 |some xs=>exact .weak k _
section
variable{P:Program}{n d:Nat}{st:St}
theorem bOk[Mode]{α:Type}{k:Nat}{f:α->List D}{e:Option (List α)}{x:Operand}{t u el ty:TypeId}{pos:String}{af:Array Edge}{gd:Option (Nat×Bool)}(hd:d<n)
  (hx:st.eval x=.d (fA k f e))(ht:P.underlying t=some (.slice el)):
  aQ P n ⟨some d,.binOp .eql t x (.const (.slice none 0 0)) u,ty,pos,af,gd⟩ st (st.set d (.b e.isNone)):=
 gH rfl hd rfl λA M w0 a w hR=>by
  have hk:cD x=true:=by
   cases x with
   | const v=>
    cases e with
    |none=>simp only[St.eval,fA,AV.d.injEq,D.lit.injEq] at hx;subst hx;rfl
    |some xs=>cases hx
   |_=>rfl
  have h:=hR.eval' hk;rw[hx] at h
  generalize hu:a.eval x=v at h
  cases h with
  | d h=>
   cases e with
   | none=>
    cases h with
    | lit _ _=>
     have hb:=Lib.run_eql_slice_nil (P:=P) w t el none 0 0 0 0 ht;have hg:eqGuard .eql t x (.const (.slice none 0 0)) (.slice none 0 0) (.slice none 0 0)=pure ():=rfl;have hc:a.eval (.const (.slice none 0 0))=.slice none 0 0:=rfl;simp only[execOp,hu,hc,Sem.run_bind,Sem.run_pure,hg,hb,Result.andThen_ok]
     rfl
   | some xs=>
    have key:∀(ad:Addr) (m cap:Nat),v=.slice (some ad) m cap->(execOp a.eval ⟨some d,.binOp .eql t x (.const (.slice none 0 0)) u,ty,pos,af,gd⟩).run P w=.ok (.value (.bool false)) w:=by
     rintro ad m cap rfl;have hb:=Lib.run_eql_slice_nil (P:=P) w t el (some ad) m cap 0 0 ht;have hg:eqGuard .eql t x (.const (.slice none 0 0)) (.slice (some ad) m cap) (.slice none 0 0)=pure ():=rfl;have hc:a.eval (.const (.slice none 0 0))=.slice none 0 0:=rfl;simp only[execOp,hu,hc,Sem.run_bind,Sem.run_pure,hg,hb,Result.andThen_ok]
     rfl
    have h2:DR w (aU A st.objs) (D.sn k (xs.map f)) v:=h
    generalize hd':D.sn k (xs.map f)=dd at h2
    cases h2 with
    |e1 _ a=>exact key _ _ _ rfl
    |sn _ _ b o cap f'=>exact key _ _ _ rfl
    |_=>cases hd'
end
end Go.Am
end
section
namespace Go.Am
def eT{α:Type}[DecidableEq α](a:α):List α->Option Nat
 |[]=>none
 |b::l=>bif decide (a=b) then some 0 else(eT a l).map (·+1)
structure kU(P:Program)(kt:TypeId){α:Type}[DecidableEq α](kv:α->Value):Prop where
 chk:∀b a w,(Instr.checkKey b 10000 kt (kv a)).run P w=.ok () w
 find:∀(a:α) (l:List α) (ms:List MapEntry) (w:World),ms.map (·.key)=l.map kv->
  (Instr.findKey kt (kv a) ms).run P w=.ok ((eT a l).bind λi=>(ms[i]?).map λe=>(i,e.val)) w
 stays:∀a w,(Instr.keyThatStays (kv a) (kv a)).run P w=.ok (kv a) w
 inj:∀a b,kv a=kv b->a=b
section
variable{P:Program}{n d:Nat}{st:St}
theorem aSy[Mode]{t:TypeId}{ty:TypeId}{pos:String}{af:Array Edge}{gd:Option (Nat×Bool)}(hd:d<n):
  Step P n ⟨some d,.makeMap t none,ty,pos,af,gd⟩ st (λs=>∃r,s=⟨upd st.env d (.d (.lit (.map (some r)))),st.objs++[.map r [] [] 0]⟩):=by
 intro A M w0 a w hR K Q hK;unfold Oper.wp;have hrun:(execOp a.eval ⟨some d,.makeMap t none,ty,pos,af,gd⟩).run P w=.ok (.value (.map (some w.heap.size))) (w.alloc (.map #[] 0)):=by
  simp[execOp,Instr.makeMap]
 rw[hrun,Oper.upon_value];refine hK _ _ _ ⟨w.heap.size,rfl⟩ ?_;have hR':=hR.add (w':=w.alloc (.map #[] 0)) (m:=.map w.heap.size [] [] 0) (Keeps.alloc _ _ _)
  (λb o hf=>by simp[MO.foot] at hf;omega)
  (λhmo=>⟨#[],heap_alloc_new w _,trivial,rfl,List.Pairwise.nil,λb hb=>by simp at hb⟩)
 exact hR'.put (o:=⟨some d,.makeMap t none,ty,pos,af,gd⟩) rfl hd (.of_lit rfl)
end
theorem aMh{P:Program}{kt:TypeId}{α:Type}[DecidableEq α]{kv:α->Value}(heq:∀a b w,(Op.equal kt (kv a) (kv b)).run P w=.ok (decide (a=b)) w){a:α}{w:World}:∀{l:List α} {ms:List MapEntry} {i:Nat},ms.map (·.key)=l.map kv->
  (Instr.findAsking kt (kv a) ms i).run P w=.ok ((eT a l).bind λj=>(ms[j]?).map λe=>(i+j,e.val)) w
 |[],[],i,_=>by simp[Instr.findAsking,eT]
 | b::l,m::ms,i,h=>by
  simp only[j3,aC7] at h;have ih:=aMh heq (a:=a) (w:=w) (i:=i+1) h.2;simp only[Instr.findAsking,Sem.run_bind,h.1,heq a b w,Result.andThen_ok,eT]
  by_cases hab:a=b
  ·simp[hab]
  ·simp only[hab,m5,g6];simp only[aB5,aB8];rw[ih];cases eT a l with
   |none=>rfl
   |some j=>simp[Nat.add_assoc,aH5 1 j]
 |[],_::_,i,h=>by simp at h
 |_::_,[],i,h=>by simp at h
theorem aCf{P:Program}{kt:TypeId}{fs:Array Field}{α:Type}[DecidableEq α]{enc:α->List D}(hu:P.underlying kt=some (.struct fs))(he:aDw P kt enc)
  (hc:∀b a w,(Instr.checkKey b 10000 kt (.agg ((enc a).map bD).toArray)).run P w=.ok () w)(hs:∀a w,(Instr.keyThatStays (.agg ((enc a).map bD).toArray) (.agg ((enc a).map bD).toArray)).run P w=.ok (.agg ((enc a).map bD).toArray) w)
  (hi:∀a b,enc a=enc b->a=b)(hl:∀a,dY (enc a)=true):kU P kt (λa=>.agg ((enc a).map bD).toArray):=by
 have heq:∀a b w,(Op.equal kt (.agg ((enc a).map bD).toArray) (.agg ((enc b).map bD).toArray)).run P w=.ok (decide (a=b)) w:=λa b w=>he a b w;refine⟨hc,λa l ms w h=>?_,hs,λa b h=>?_⟩
 ·have hrun:=aMh (P:=P) (kt:=kt) (kv:=λa=>.agg ((enc a).map bD).toArray) heq (a:=a) (w:=w) (i:=0) h;have hnow:Instr.findNow (.struct fs) (.agg ((enc a).map bD).toArray) ms 0=none\/Instr.findNow (.struct fs) (.agg ((enc a).map bD).toArray) ms 0=some none/\ms=[]:=by
   cases ms with
   |nil=>exact .inr ⟨rfl,rfl⟩
   |cons m ms=>exact .inl (by simp[Instr.findNow,Instr.sameNow])
  rcases hnow with h1|⟨h1,rfl⟩
  ·simp only[Instr.findKey,Sem.run_bind,run_underlying hu,Result.andThen_ok,h1]
   simpa using hrun
  ·cases l with
   |nil=>simp[Instr.findKey,run_underlying hu,h1,eT]
   |cons=>simp at h
 ·have :=hl a;have:=hl b;have key:∀(x y:List D),dY x=true->dY y=true->x.map bD=y.map bD->x=y:=by
   intro x
   induction x with
   | nil=>intro y _ _ h;cases y with
    |nil=>rfl
    |cons=>simp at h
   | cons d x ih=>
    intro y h1 h2 h;cases y with
    |nil=>simp at h
    | cons e y=>
     cases d with
     |sl=>simp[dY] at h1
     |sn=>simp[dY] at h1
     |mp=>simp[dY] at h1
     |pt=>simp[dY] at h1
     |hv=>simp[dY] at h1
     |fc=>simp[dY] at h1
     | lit v=>
      cases e with
      |sl=>simp[dY] at h2
      |sn=>simp[dY] at h2
      |mp=>simp[dY] at h2
      |pt=>simp[dY] at h2
      |hv=>simp[dY] at h2
      |fc=>simp[dY] at h2
      | lit u=>
       simp only[j3,aC7,bD] at h;rw[h.1,ih y (by simpa[dY] using h1) (by simpa[dY] using h2) h.2]
  exact hi a b (key _ _ (hl a) (hl b) (by simpa using h))
def bW{α β:Type}[DecidableEq α](a:α)(z:β):List (α×β)->β
 |[]=>z
 |(b,v)::l=>bif decide (a=b) then v else bW a z l
def dE{α β:Type}[DecidableEq α](a:α)(v:β):List (α×β)->List (α×β)
 |[]=>[(a,v)]
 |(b,u)::l=>bif decide (a=b) then(b,v)::l else(b,u)::dE a v l
def cR{α β:Type}[DecidableEq α](a:α):List (α×β)->Bool
 |[]=>false
 |(b,_)::l=>decide (a=b)||cR a l
theorem MRs.keys{w:World}{X:aR}:∀{es:List (Value×AV)} {ms:List MapEntry},MRs w X es ms->ms.map (·.key)=es.map (·.1)
 |[],[],_=>rfl
 |(_,_)::_,_::_,h=>by simp[h.1,MRs.keys h.2.2]
theorem MRs.get{w:World}{X:aR}:∀{es:List (Value×AV)} {ms:List MapEntry},MRs w X es ms->∀{j:Nat} {e:Value×AV},es[j]?=some e->∃m,ms[j]?=some m/\VR w X e.2 m.val
 |[],[],_,j,e,h=>by simp at h
 |(_,_)::_,m::_,h,0,e,he=>by simp at he;subst he;exact⟨m,rfl,h.2.1⟩
 |(_,_)::_,m::_,h,j+1,e,he=>by simpa using MRs.get h.2.2 (j:=j) (by simpa using he)
theorem uO{α β:Type}[DecidableEq α](a:α)(z:β):∀(l:List (α×β)),(eT a (l.map (·.1))=none/\bW a z l=z)\/∃j p,eT a (l.map (·.1))=some j/\l[j]?=some p/\bW a z l=p.2/\p.1=a
 |[]=>.inl ⟨rfl,rfl⟩
 | (b,v)::l=>by
  simp only[j3,eT,bW]
  by_cases hab:a=b
  ·exact .inr ⟨0,(b,v),by simp[hab],rfl,by simp[hab],hab.symm⟩
  ·rcases uO a z l with⟨h1,h2⟩|⟨j,p,h1,h2,h3,h4⟩
   ·exact .inl ⟨by simp[hab,h1],by simp[hab,h2]⟩
   ·exact .inr ⟨j+1,p,by simp[hab,h1],by simpa using h2,by simp[hab,h3],h4⟩
section
variable{P:Program}{n d:Nat}{st:St}
theorem eQ{w:World}{r:Nat}{ms:Array MapEntry}{clock:Nat}(h:w.heap[r]?=some (.map ms clock)):(getObj r).run P w=.ok (.map ms clock) w:=by simp[getObj,Sem.run,h]
def qD{α:Type}(kv:α->Value)(x:AV)(a:α):Prop:=∀w X u,VR w X x u->u=kv a
theorem aPo[Mode]{t kt et:TypeId}{α β:Type}[DecidableEq α]{kv:α->Value}{av:β->AV}{l:List (α×β)}{z:β}{zv:Value}{a:α}{x y:Operand}{r m:Nat}{bs:List Nat}{clock:Nat}{ty:TypeId}{pos:String}{af:Array Edge}{gd:Option (Nat×Bool)}(hd:d<n)
  (hk:kU P kt kv)(ht:P.underlying t=some (.map kt et))(hz:∀w,(zeroValue et).run P w=.ok zv w)(hzv:∀w X,VR w X (av z) zv)
  (hx:st.eval x=.d (.lit (.map (some r))))(ho:st.objs[m]?=some (.map r (l.map λp=>(kv p.1,av p.2)) bs clock))(hyk:cD y=true){yv:AV}(hyv:st.eval y=yv)(hy:qD kv yv a):
  aQ P n ⟨some d,.lookup t x y false,ty,pos,af,gd⟩ st (st.set d (av (bW a z l))):=
 cG rfl hd λA M w0 ac w hR=>by
  obtain⟨ms,hh,hms,_⟩:=hR.inv.holds _ (i8 ho);have hkey:=hy _ _ _ (hyv▸hR.eval' hyk);have hkeys:ms.toList.map (·.key)=(l.map (·.1)).map kv:=by rw[hms.keys];simp
  have hf:=hk.find a (l.map (·.1)) ms.toList w hkeys
  rcases uO a z l with⟨h1,h2⟩|⟨j,p,h1,h2,h3,h4⟩
  ·refine⟨zv,?_,by rw[h2];exact hzv _ _⟩
   simp[execOp,hR.lit hx,hkey,Instr.lookup,run_underlying ht,eQ hh,hk.chk,hf,h1,hz]
  ·obtain⟨e,he,hv⟩:=hms.get (j:=j) (e:=(kv p.1,av p.2)) (by simp[h2]);refine⟨e.val,?_,by rw[h3];exact hv⟩;simp only[Array.getElem?_toList] at he
   simp[execOp,hR.lit hx,hkey,Instr.lookup,run_underlying ht,eQ hh,hk.chk,hf,h1,he]
end
def jA{α β:Type}[DecidableEq α](a:α)(z:β)(l:List (α×β)):List (α×β):=bif cR a l then l else l++[(a,z)]
def mbs{α β:Type}[DecidableEq α](a:α)(l:List (α×β))(bs:List Nat)(clock:Nat):List Nat:=bif cR a l then bs else bs++[clock]
def mck{α β:Type}[DecidableEq α](a:α)(l:List (α×β))(clock:Nat):Nat:=bif cR a l then clock else clock+1
def nY{α β:Type}[DecidableEq α](a:α)(l:List (α×β))(bs:List Nat)(clock:Nat):Nat:=match eT a (l.map (·.1)) with|some j=>bs.getD j 0|none=>clock
theorem nM{α β:Type}[DecidableEq α](a:α):∀(l:List (α×β)),cR a l=(eT a (l.map (·.1))).isSome
 |[]=>rfl
 | (b,v)::l=>by
  simp only[cR,j3,eT,nM a l]
  by_cases hab:a=b<;>simp[hab]
theorem Keeps.setObj[Mode](w:World)(r:Nat)(o:Obj):Keeps (λb _=>b=r) w {w with heap:=w.heap.setIfInBounds r o}:=by
 have hb:∀b,b≠r->(w.heap.setIfInBounds r o)[b]?=w.heap[b]?:=λb h=>Array.getElem?_setIfInBounds_ne (aF9 h);exact⟨rfl,rfl,rfl,by simp,λb _ h=>hb b (h 0),λb o _ h=>World.cell?_of_block (hb b h),λb o _ h=>World.frozen?_of_block (hb b h),λ_=>n5 _⟩
section
variable{P:Program}{n d:Nat}{st:St}
theorem pV{w:World}{r:Nat}{es:Array MapEntry}{clock:Nat}(o:Obj)(hb:w.heap[r]?=some (.map es clock)):(setObj r o).run P w=.ok () {w with heap:=w.heap.setIfInBounds r o}:=by
 simp[setObj,Sem.run,hb]
theorem MRs.snoc{w:World}{X:aR}:∀{es:List (Value×AV)} {ms:List MapEntry} {k:Value} {x:AV} {m:MapEntry},MRs w X es ms->m.key=k->VR w X x m.val->MRs w X (es++[(k,x)]) (ms++[m])
 |[],[],_,_,_,_,h1,h2=>⟨h1,h2,trivial⟩
 |(_,_)::_,_::_,_,_,_,h,h1,h2=>⟨h.1,h.2.1,MRs.snoc h.2.2 h1 h2⟩
theorem aPp[Mode]{t kt et:TypeId}{α β:Type}[DecidableEq α]{kv:α->Value}{av:β->AV}{l:List (α×β)}{z:β}{zv:Value}{a:α}{x y:Operand}{r m:Nat}{bs:List Nat}{clock:Nat}{ty:TypeId}{pos:String}{af:Array Edge}{gd:Option (Nat×Bool)}(hd:d<n)
  (hk:kU P kt kv)(ht:P.underlying t=some (.map kt et))(hz:∀w,(zeroValue et).run P w=.ok zv w)(hzv:∀w X,VR w X (av z) zv)
  (hx:st.eval x=.d (.lit (.map (some r))))(ho:st.objs[m]?=some (.map r (l.map λp=>(kv p.1,av p.2)) bs clock))(hyk:cD y=true){yv:AV}(hyv:st.eval y=yv)(hy:qD kv yv a):
  aQ P n ⟨some d,.mapEntry t x y,ty,pos,af,gd⟩ st ⟨upd st.env d (.tup [av (bW a z l),.d (.lit (.int .i64 (nY a l bs clock)))]),st.objs.set m (.map r ((jA a z l).map λp=>(kv p.1,av p.2)) (mbs a l bs clock) (mck a l clock))⟩:=by
 intro A M w0 ac w hR K Q hK;obtain⟨ms,hh,hms,hb1,hb2,hb3⟩:=hR.inv.holds _ (i8 ho);have hkey:=hy _ _ _ (hyv▸hR.eval' hyk);have hkeys:ms.toList.map (·.key)=(l.map (·.1)).map kv:=by rw[hms.keys];simp
 have hf:=hk.find a (l.map (·.1)) ms.toList w hkeys;have hrl:r<w.heap.size:=(j8.1 hh).1;unfold Oper.wp
 rcases uO a z l with⟨h1,h2⟩|⟨j,p,h1,h2,h3,h4⟩
 ·have hhas:cR a l=false:=by rw[nM,h1];rfl
  have hrun:(execOp ac.eval ⟨some d,.mapEntry t x y,ty,pos,af,gd⟩).run P w=.ok (.value (.tuple #[zv,.int .i64 clock])) {w with heap:=w.heap.setIfInBounds r (.map (ms.push {key:=kv a,val:=zv,born:=clock}) (clock+1))}:=by
   simp[execOp,hR.lit hx,hkey,Instr.mapEntry,run_underlying ht,eQ hh,hk.chk,hf,h1,hz,pV _ hh,goInt]
  rw [hrun,Oper.upon_value];refine hK _ _ _ rfl ?_;have hR':=hR.replace (w':={w with heap:=w.heap.setIfInBounds r (.map (ms.push {key:=kv a,val:=zv,born:=clock}) (clock+1))}) (m':=.map r ((jA a z l).map λp=>(kv p.1,av p.2)) (mbs a l bs clock) (mck a l clock)) ho
   (Keeps.setObj w r _) (λb o hb=>by subst hb;rfl) (λb o hf=>.inl hf) λhmono=>by
    refine⟨ms.push {key:=kv a,val:=zv,born:=clock},?_,?_,?_,?_,?_⟩
    ·simp[hrl,mck,hhas]
    ·have hm2:=hms.mono hmono
     revert hm2
     generalize aU A (st.objs.set m (.map r ((jA a z l).map λp=>(kv p.1,av p.2)) (mbs a l bs clock) (mck a l clock)))=Z
     intro hm2;simp only[jA,hhas,g6,v7,Array.toList_push];exact MRs.snoc hm2 rfl (hzv _ _)
    ·simp[mbs,hhas,hb1]
    ·simp only[mbs,hhas,g6];exact p9.2 ⟨hb2,by simp,λx hx y hy=>by simp at hy;subst hy;exact hb3 x hx⟩
    ·simp only[mbs,hhas,g6,mck];intro b hb
     rcases i6.1 hb with h|h
     ·have:=hb3 b h;omega
     ·simp at h;omega
  have e:nY a l bs clock=clock:=by simp[nY,h1]
  rw[h2,e];exact hR'.put (o:=⟨some d,.mapEntry t x y,ty,pos,af,gd⟩) rfl hd (.tup (us:=[_,_]) rfl λi hi=>by
   match i,hi with
   |0,_=>exact hzv _ _
   |1,_=>exact .d (.lit _ rfl))
 ·have hhas:cR a l=true:=by rw[nM,h1];rfl
  obtain⟨e,he,hv⟩:=hms.get (j:=j) (e:=(kv p.1,av p.2)) (by simp[h2]);have he':ms[j]?=some e:=by simpa using he
  have hke:e.key=kv a:=by
   have:=aA5 (λq=>q[j]?) hkeys
   simp[he',h2,h4] at this
   exact this
  have hmod:ms.modify j (λe=>{e with key:=kv a})=ms:=by
   apply Array.ext_getElem?;intro q;rw[Array.getElem?_modify]
   split
   ·rename_i hq;subst hq;rw[he'];simp[<-hke]
   ·rfl
  have hset:w.heap.setIfInBounds r (.map ms clock)=w.heap:=by
   apply Array.ext_getElem?;intro q;rw[Array.getElem?_setIfInBounds]
   split
   ·rename_i hq;cases hq;rw[hh]
   ·rfl
  have hrun:(execOp ac.eval ⟨some d,.mapEntry t x y,ty,pos,af,gd⟩).run P w=.ok (.value (.tuple #[e.val,.int .i64 e.born])) w:=by
   simp[execOp,hR.lit hx,hkey,Instr.mapEntry,run_underlying ht,eQ hh,hk.chk,hf,h1,he',hke,hk.stays,hmod,pV _ hh,goInt,hset]
  rw[hrun,Oper.upon_value];refine hK _ _ _ rfl ?_;have e1:nY a l bs clock=e.born:=by simp[nY,h1,<-hb1,List.getD,he]
  have e2:st.objs.set m (.map r ((jA a z l).map λp=>(kv p.1,av p.2)) (mbs a l bs clock) (mck a l clock))=st.objs:=by
   simp only[jA,mbs,mck,hhas,i7];apply aD2;intro q;rw[aB3]
   split
   ·rename_i hq;subst hq;rw[ho];simp;have:=(g7.1 ho).1;omega
   ·rfl
  rw[h3,e1,e2];exact hR.put (o:=⟨some d,.mapEntry t x y,ty,pos,af,gd⟩) rfl hd (.tup (us:=[_,_]) rfl λi hi=>by
   match i,hi with
   |0,_=>exact hv
   |1,_=>exact .d (.lit _ rfl))
end
theorem aZe{α:Type}[DecidableEq α](a:α):∀(l:List α),eT a l=none->eT a (l++[a])=some l.length
 |[],_=>by simp[eT]
 | b::l,h=>by
  simp only[eT] at h
  by_cases hab:a=b
  ·simp[hab] at h
  ·simp[hab] at h
   simp[eT,hab,aZe a l h]
theorem aSd{α β:Type}[DecidableEq α](a:α)(z:β)(l:List (α×β))(bs:List Nat)(clock:Nat)(hl:bs.length=l.length):
  ∃j,eT a ((jA a z l).map (·.1))=some j/\(mbs a l bs clock)[j]?=some (nY a l bs clock):=by
 cases h:eT a (l.map (·.1)) with
 | none=>
  have hh:cR a l=false:=by rw[nM,h];rfl
  refine⟨l.length,?_,?_⟩
  ·simp only[jA,hh,g6,v7,j3,aH1];have:=aZe a _ h
   simpa using this
  ·simp[mbs,hh,nY,h,<-hl]
 | some j=>
  have hh:cR a l=true:=by rw[nM,h];rfl
  refine⟨j,by simp[jA,hh,h],?_⟩
  rcases uO a z l with⟨h1,_⟩|⟨j',p,h1,h2,_⟩
  ·rw[h] at h1;cases h1
  ·rw[h] at h1;cases h1;have hj:=(g7.1 h2).1
   simp[mbs,hh,nY,h,List.getD,g9 (show j<bs.length by omega)]
theorem bCk{α β:Type}[DecidableEq α](a:α)(v:β):∀(l:List (α×β)) (j:Nat),eT a (l.map (·.1))=some j->dE a v l=l.set j (a,v)
 |[],j,h=>by simp[eT] at h
 | (b,u)::l,j,h=>by
  simp only[j3,eT] at h
  by_cases hab:a=b
  ·simp[hab] at h;subst h;simp[dE,hab]
  ·simp[hab] at h
   obtain⟨i,hi,rfl⟩:=h
   simp[dE,hab,bCk a v l i hi]
theorem bWd{α β:Type}[DecidableEq α](a:α)(v z:β)(l:List (α×β)):dE a v (jA a z l)=dE a v l:=by
 cases h:cR a l with
 |true=>simp[jA,h]
 | false=>
  simp only[jA,h,g6]
  induction l with
  |nil=>simp[dE]
  | cons p l ih=>
   obtain⟨b,u⟩:=p;simp only[cR,j7,n9] at h
   simp[dE,h.1,ih h.2]
theorem MRs.set{w:World}{X:aR}:∀{es:List (Value×AV)} {ms:List MapEntry} {j:Nat} {k:Value} {x:AV} {u:Value},MRs w X es ms->(es[j]?).map (·.1)=some k->VR w X x u->
  MRs w X (es.set j (k,x)) (ms.modify j λe=>{e with val:=u})
 |[],[],_,_,_,_,_,_,_=>by simp;trivial
 | (k0,x0)::es,m::ms,0,k,x,u,h,hk,hv=>by
  simp at hk;subst hk
  simp only[List.set_cons_zero,List.modify_zero_cons];exact⟨h.1,hv,h.2.2⟩
 | (k0,x0)::es,m::ms,j+1,k,x,u,h,hk,hv=>by
  simp only[List.set_cons_succ,List.modify_succ_cons];exact⟨h.1,h.2.1,MRs.set h.2.2 (by simpa using hk) hv⟩
section
variable{P:Program}{n d:Nat}{st:St}
theorem bKf[Mode]{t:TypeId}{α β:Type}[DecidableEq α]{kv:α->Value}{av:β->AV}{l:List (α×β)}{v:β}{a:α}{x y q:Operand}{r m j:Nat}{bs:List Nat}{clock b:Nat}{ty:TypeId}{pos:String}{af:Array Edge}{gd:Option (Nat×Bool)}
  (hx:st.eval x=.d (.lit (.map (some r))))(ho:st.objs[m]?=some (.map r (l.map λp=>(kv p.1,av p.2)) bs clock))(hq:st.eval q=.d (.lit (.int .i64 b)))
  (hyk:cD y=true)(hy:st.eval y=av v)(hj:eT a (l.map (·.1))=some j)(hb:bs[j]?=some b):
  aQ P n ⟨none,.entryStore t x q y,ty,pos,af,gd⟩ st ⟨st.env,st.objs.set m (.map r ((dE a v l).map λp=>(kv p.1,av p.2)) bs clock)⟩:=by
 intro A M w0 ac w hR K Q hK;obtain⟨ms,hh,hms,hb1,hb2,hb3⟩:=hR.inv.holds _ (i8 ho);have hv:=hR.eval' hyk;rw[hy] at hv;have hrl:r<w.heap.size:=(j8.1 hh).1;have hjl:(l[j]?).map (·.1)=some a:=by
  clear hb hb1 hb2 hb3 hms ho hK
  induction l generalizing j with
  |nil=>simp[eT] at hj
  | cons p l ih=>
   simp only[j3,eT] at hj
   by_cases hab:a=p.1
   ·simp[hab] at hj;subst hj;simp[hab]
   ·simp[hab] at hj
    obtain⟨i,hi,rfl⟩:=hj
    simpa using ih hi
 have hmj:(ms.toList[j]?).map (·.born)=some b:=by rw[<-hb1] at hb;simpa using hb
 have hfind:ms.findIdx? (λe=>(e.born:Int)==b)=some j:=by
  have hjm:j<ms.size:=by
   rw[Array.getElem?_toList] at hmj;cases h:ms[j]? with
   |none=>rw[h] at hmj;simp at hmj
   |some e=>exact(j8.1 h).1
  rw[Array.findIdx?_eq_some_iff_findIdx_eq];refine⟨hjm,?_⟩;rw[Array.findIdx_eq hjm];have hbj:ms[j].born=b:=by
   rw[Array.getElem?_toList,u1 hjm] at hmj
   simpa using hmj
  refine⟨by simp[hbj],λi hi=>?_⟩;have hpw:=u0.1 hb2;have h1:i<bs.length:=by rw[<-hb1];simp;omega
  have h2:j<bs.length:=by rw[<-hb1];simp;omega
  have:=hpw i j h1 h2 hi;have e1:bs[i]=ms[i].born:=by simp[<-hb1]
  have e2:bs[j]=ms[j].born:=by simp[<-hb1]
  rw[e1,e2,hbj] at this
  simp;omega
 unfold Oper.wp;have hrun:(execOp ac.eval ⟨none,.entryStore t x q y,ty,pos,af,gd⟩).run P w=.ok .skip {w with heap:=w.heap.setIfInBounds r (.map (ms.modify j λe=>{e with val:=ac.eval y}) clock)}:=by
  simp[execOp,hR.lit hx,hR.lit hq,Instr.entryStore,eQ hh,asInt,asIntOf,hfind,pV _ hh]
 rw [hrun,Oper.upon_skip];refine hK _ _ _ rfl ?_;have hR':=hR.replace (w':={w with heap:=w.heap.setIfInBounds r (.map (ms.modify j λe=>{e with val:=ac.eval y}) clock)}) (m':=.map r ((dE a v l).map λp=>(kv p.1,av p.2)) bs clock) ho
  (Keeps.setObj w r _) (λb o hb=>by subst hb;rfl) (λb o hf=>.inl hf) λhmono=>by
   refine⟨ms.modify j λe=>{e with val:=ac.eval y},by simp[hrl],?_,?_,hb2,hb3⟩
   ·have hm2:=hms.mono hmono;have hv2:=hv.mono hmono
    revert hm2 hv2
    generalize aU A (st.objs.set m (.map r ((dE a v l).map λp=>(kv p.1,av p.2)) bs clock))=Z
    intro hm2 hv2;rw[bCk a v l j hj,List.map_set,Array.toList_modify];refine MRs.set hm2 ?_ hv2;simp only[p8,Option.map_map];cases hl:l[j]? with
    |none=>rw[hl] at hjl;cases hjl
    |some p=>rw[hl] at hjl;simp at hjl|-;rw[hjl]
   ·rw[<-hb1,Array.toList_modify];apply aD2;intro i;simp only[p8,List.getElem?_modify];cases ms.toList[i]? with
    |none=>simp
    |some e=>simp;split<;>rfl
 exact hR'.put_none rfl
end
def bJn:Value->Bool
 | .int _ _| .bool _| .string _=>true
 |_=>false
theorem bCv(n:Nat)(v:Value)(h:bJn v=true):Instr.sameBits n v v=true:=by
 have hs:∀s:ByteArray,(s==s)=true:=λs=>by
  obtain⟨d⟩:=s;show(d==d)=true
  simp
 cases n<;>cases v<;>simp_all[Instr.sameBits,bJn]
theorem aOh(vs:List Value)(h:vs.all bJn=true)(P:Program)(w:World):(Instr.keyThatStays (.agg vs.toArray) (.agg vs.toArray)).run P w=.ok (.agg vs.toArray) w:=by
 have:Instr.sameBits 10000 (.agg vs.toArray) (.agg vs.toArray)=true:=by
  rw[show(10000:Nat)=9999+1 from rfl];simp only[Instr.sameBits,BEq.rfl,w9]
  generalize(9999:Nat)=n
  induction vs with
  |nil=>rfl
  | cons v vs ih=>
   simp only[aA9,f4] at h;have:=ih h.2
   simp_all[bCv n v h.1]
 simp[Instr.keyThatStays,this]
theorem cAx(k:IntKind)(a:Int)(P:Program)(w:World):(Instr.keyThatStays (.int k a) (.int k a)).run P w=.ok (.int k a) w:=by
 simp[Instr.keyThatStays,Instr.sameBits]
theorem aUy{k:IntKind}(a:Int):∀(l:List Int) (ms:List MapEntry) (i:Nat),ms.map (·.key)=l.map (λn=>Value.int k n)->
  Instr.findNow (.int k) (.int k a) ms i=some ((eT a l).bind λj=>(ms[j]?).map λe=>(i+j,e.val))
 |[],[],_,_=>by simp[Instr.findNow,eT]
 | b::l,m::ms,i,h=>by
  simp only[j3,aC7] at h;simp only[Instr.findNow,h.1,Instr.sameNow,aF2,eT];have ih:=aUy (k:=k) a l ms (i+1) h.2
  by_cases hab:a=b
  ·simp[hab]
  ·have e:(a==b)=false:=by simpa using hab
   simp only[e,hab,m5,g6];rw[ih];cases eT a l with
   |none=>rfl
   |some j=>simp[Nat.add_assoc,aH5 1 j]
 |[],_::_,_,h=>by simp at h
 |_::_,[],_,h=>by simp at h
theorem bVm{P:Program}{kt:TypeId}{k:IntKind}(hu:P.underlying kt=some (.int k)):kU P kt (λn:Int=>.int k n) where
 chk b a w:=by
  rw[show(10000:Nat)=9999+1 from rfl]
  generalize(9999:Nat)=m
  simp only[Instr.checkKey,Sem.run_bind,run_underlying hu,Result.andThen_ok]
  rfl
 find a l ms w h:=by simp[Instr.findKey,run_underlying hu,aUy a l ms 0 h]
 stays a w:=cAx k a P w
 inj a b h:=by simpa using h
theorem bEm{α β:Type}[DecidableEq α](a:α)(z:β)(l:List (α×β)):bW a z (jA a z l)=bW a z l:=by
 cases h:cR a l with
 |true=>simp[jA,h]
 | false=>
  simp only[jA,h,g6]
  induction l with
  |nil=>simp[bW]
  | cons p l ih=>
   obtain⟨b,u⟩:=p;simp only[cR,j7,n9] at h
   simp[bW,h.1,ih h.2]
theorem jL{α:Type}{enc:α->List D}(a:α)(hl:dY (enc a)=true):qD (λa=>.agg ((enc a).map bD).toArray) (.agg (enc a)) a:=by
 intro w X u h;cases h with
 | agg h=>
  rename_i cs
  have:=aOj hl h;have:cs=((enc a).map bD).toArray:=by rw[<-this]
  rw[this]
theorem aKk{α:Type}{kv:α->Value}(a:α):qD kv (.d (.lit (kv a))) a:=λ_ _ _ h=>h.lit
theorem og2{S:Nat->Bool}{objs:List MO}{i e:Nat}{m m':MO}(h:objs[i]?=some (wH S [(e,m')] m)):objs[i]?=some m\/objs[i]?=some m':=by
 rw[h];simp only[wH];cases S e<;>simp
section
variable{P:Program}{n d:Nat}{st:St}
theorem aSx[Mode]{t kt et:TypeId}{α β:Type}[DecidableEq α]{kv:α->Value}{av:β->AV}{l:List (α×β)}{z:β}{zv:Value}{a:α}{x y:Operand}{r m:Nat}{bs bs':List Nat}{clock clock':Nat}{ty:TypeId}{pos:String}{af:Array Edge}{gd:Option (Nat×Bool)}(hd:d<n)
  (hk:kU P kt kv)(ht:P.underlying t=some (.map kt et))(hz:∀w,(zeroValue et).run P w=.ok zv w)(hzv:∀w X,VR w X (av z) zv)
  (hx:st.eval x=.d (.lit (.map (some r))))(ho:st.objs[m]?=some (.map r (l.map λp=>(kv p.1,av p.2)) bs clock)\/st.objs[m]?=some (.map r ((jA a z l).map λp=>(kv p.1,av p.2)) bs' clock'))
  (hyk:cD y=true){yv:AV}(hyv:st.eval y=yv)(hy:qD kv yv a):
  aQ P n ⟨some d,.lookup t x y false,ty,pos,af,gd⟩ st (st.set d (av (bW a z l))):=by
 rcases ho with ho|ho
 ·exact aPo hd hk ht hz hzv hx ho hyk hyv hy
 ·rw[<-bEm];exact aPo hd hk ht hz hzv hx ho hyk hyv hy
theorem aQl[Mode]{t:TypeId}{α β:Type}[DecidableEq α]{kv:α->Value}{av:β->AV}{l:List (α×β)}{z v:β}{a:α}{x y q:Operand}{r m:Nat}{bs:List Nat}{clock clock':Nat}{ty:TypeId}{pos:String}{af:Array Edge}{gd:Option (Nat×Bool)}
  (hx:st.eval x=.d (.lit (.map (some r))))(ho:st.objs[m]?=some (.map r ((jA a z l).map λp=>(kv p.1,av p.2)) (mbs a l bs clock) clock'))(hq:st.eval q=.d (.lit (.int .i64 (nY a l bs clock))))
  (hyk:cD y=true)(hy:st.eval y=av v):
  aQ P n ⟨none,.entryStore t x q y,ty,pos,af,gd⟩ st ⟨st.env,st.objs.set m (.map r ((dE a v l).map λp=>(kv p.1,av p.2)) (mbs a l bs clock) clock')⟩:=by
 intro A M w0 ac w hR K Q hK;obtain⟨ms,hh,hms,hb1,_⟩:=hR.inv.holds _ (i8 ho);have hlen:bs.length=l.length:=by
  have h1:(mbs a l bs clock).length=(jA a z l).length:=by
   rw[<-hb1];have:=aA5 List.length hms.keys
   simpa using this
  cases h:cR a l<;>simpa[mbs,jA,h] using h1
 obtain⟨j,hj,hb⟩:=aSd a z l bs clock hlen;have:=bKf (P:=P) (n:=n) (t:=t) (ty:=ty) (pos:=pos) (af:=af) (gd:=gd) hx ho hq hyk hy hj hb;rw[bWd] at this;exact this A M w0 ac w hR K Q hK
end
end Go.Am
end
end
