/- The program logic 'Am': a region whose operations come in any order that their edges allow. -/
import Derived.Test.YtejdennodgdfhaaGreatDoorAmGen
import Derived.Laws.StructEq
namespace Go.Am
def uni:List Nat->List Nat->List Nat
 |a,[]=>a
 |a,x::b=>bif bF x a then uni a b else uni (x::a) b
def uV(o:Oper):List Nat:=((o.after.toList.filter λe=>Region.binds .any e).map (·.on))
def aXr(p:List (List Nat)):List Nat->List Nat
 |[]=>[]
 |e::l=>uni (uni (aXr p l) (p.getD e [])) [e]
def cM(ops:List Oper):Nat->List (List Nat)
 |0=>[]
 |k+1=>cM ops k++[aXr (cM ops k) (uV (ops.getD k default))]
theorem aNb{x:Nat}:∀{a b:List Nat},x∈uni a b->x∈a\/x∈b
 |a,[],h=>.inl h
 | a,y::b,h=>by
  simp only[uni] at h;cases hm:bF y a with
  | true=>
   rw[hm] at h
   rcases aNb (by simpa using h) with h|h
   ·exact .inl h
   ·exact .inr (List.mem_cons_of_mem _ h)
  | false=>
   rw[hm] at h
   rcases aNb (a:=y::a) (by simpa using h) with h|h
   ·rcases List.mem_cons.1 h with rfl|h
    ·exact .inr (by simp)
    ·exact .inl h
   ·exact .inr (List.mem_cons_of_mem _ h)
theorem aOg{p:List (List Nat)}{x:Nat}:∀{l:List Nat},x∈aXr p l->∃e∈l,x=e\/x∈p.getD e []
 |[],h=>by simp[aXr] at h
 | e::l,h=>by
  rcases aNb h with h|h
  ·rcases aNb h with h|h
   ·obtain⟨e',he',hx⟩:=aOg h;exact⟨e',by simp[he'],hx⟩
   ·exact⟨e,by simp,.inr h⟩
  ·simp at h
   exact⟨e,by simp,.inl h⟩
abbrev Tab:=List (Nat×Nat×AV)
def find:Tab->Nat->Option (Nat×AV)
 |[],_=>none
 |(d,j,v)::l,k=>bif Nat.beq d k then some (j,v) else find l k
def ov(tab:Tab)(S:Nat->Bool)(base:Nat->AV):Nat->AV:=λk=>
 match find tab k with
 |some (j,v)=>bif S j then v else base k
 |none=>base k
def ovL(tab:Tab)(yes no:List Nat)(base:Nat->AV)(k:Nat):Option AV:=
 match find tab k with
 |some (j,v)=>bif bF j yes then some v else bif bF j no then some (base k) else none
 |none=>some (base k)
structure Knows(S:Nat->Bool)(yes no:List Nat):Prop where
 y:∀j,bF j yes=true->S j=true
 n:∀j,bF j no=true->S j=false
theorem bOg{tab:Tab}{S:Nat->Bool}{yes no:List Nat}{base:Nat->AV}{k:Nat}{v:AV}(hS:Knows S yes no)(h:ovL tab yes no base k=some v):ov tab S base k=v:=by
 unfold ovL at h;unfold ov;split at h
 ·rename_i j u hf
  cases hy:bF j yes with
  |true=>rw[hy] at h;simp at h;simp[hS.y j hy,h]
  | false=>
   cases hn:bF j no with
   |true=>rw[hy,hn] at h;simp at h;simp[hS.n j hn,h]
   |false=>rw[hy,hn] at h;simp at h
 ·simpa using h
theorem aK{tab:Tab}{S:Nat->Bool}{yes no:List Nat}{base:Nat->AV}{objs:List MO}{k:Nat}{v:AV}(hS:Knows S yes no)(h:ovL tab yes no base k=some v):St.eval ⟨ov tab S base,objs⟩ (.tmp k)=v:=bOg hS h
theorem rG{tab:Tab}{S:Nat->Bool}{yes no:List Nat}{base:Nat->AV}{objs:List MO}{k:Nat}{v:AV}(hS:Knows S yes no)(h:ovL tab yes no base k=some v):(St.mk (ov tab S base) objs).env k=v:=bOg hS h
theorem lU{fs:List MO}{b o j:Nat}{ds es:List D}(i:Nat)(hm:fs[i]?=some (.box b o ds))(hj:Nat.ble j ds.length=true)(h:DVs fs (ds.drop j) es):BV fs (.bp b o j) (.cp es):=
 .bp b o j ds es (List.mem_of_getElem? hm) (Nat.le_of_ble_eq_true hj) h
theorem aPx{fs:List MO}{xs ys:List AV}(h:BVs fs xs ys):ys.length=xs.length/\∀i,i<xs.length->BV fs (xs.getD i .any) (ys.getD i .any):=by
 induction h with
 |nil=>exact⟨rfl,λi h=>by simp at h⟩
 | cons h _ ih=>
  refine⟨by simp[ih.1],λi hi=>?_⟩;cases i with
  |zero=>exact h
  |succ i=>simpa using ih.2 i (by simpa using hi)
theorem aMd{fs:List MO}{f:FuncId}{xs ys:List AV}(h:BVs fs xs ys):BV fs (.fn f xs) (.fn f ys):=.fn f xs ys (aPx h).1 (aPx h).2
theorem zX{fs:List MO}{xs ys:List AV}(h:BVs fs xs ys):BV fs (.tup xs) (.tup ys):=.tup xs ys (aPx h).1 (aPx h).2
theorem dvn{fs:List MO}:DVs fs [] []:=trivial
theorem dvc{fs:List MO}{x y:D}{xs ys:List D}(h:DV fs x y)(hs:DVs fs xs ys):DVs fs (x::xs) (y::ys):=⟨h,hs⟩
def GStep[Mode](P:Program)(n:Nat)(ops:Array Oper)(o:Oper)(st st':St):Prop:=
 (∀(A M:bE) (w0:W0) (a:Act) (w:World),R A M w0 n st a w->Region.wanted o (yielded ops a.tmps)=true)/\aY P n o st st'\/
 (∀(A M:bE) (w0:W0) (a:Act) (w:World),R A M w0 n st a w->Region.wanted o (yielded ops a.tmps)=false)/\∃d,o.dst=some d/\d<n/\st'=st.set d (.tup [])
section
variable{P:Program}{n:Nat}{st st':St}{ops:Array Oper}{o:Oper}
theorem bW[Mode](hg:o.guard=none)(h:aY P n o st st'):GStep P n ops o st st':=.inl ⟨λ_ _ _ _ _ _=>by simp[Region.wanted,hg],h⟩
theorem bRr[Mode]{j s:Nat}{b:Bool}(hg:o.guard=some (j,b))(hj:(ops[j]?).bind (·.dst)=some s)(hs:s<n){c:Bool}(hb:st.env s=.d (.lit (.bool c)))(hc:c=b)(h:aY P n o st st'):GStep P n ops o st st':=
 .inl ⟨λ_ _ _ _ _ hR=>by simp[Region.wanted,hg,uE hR hj hs hb,hc],h⟩
theorem bRq[Mode]{j s d:Nat}{b:Bool}(hg:o.guard=some (j,b))(ho:o.dst=some d)(hd:d<n)(hj:(ops[j]?).bind (·.dst)=some s)(hs:s<n){c:Bool}(hb:st.env s=.d (.lit (.bool c)))(hc:c=!b):GStep P n ops o st (st.set d (.tup [])):=
 .inr ⟨λ_ _ _ _ _ hR=>by simp[Region.wanted,hg,uE hR hj hs hb,hc],d,ho,hd,rfl⟩
theorem bPg[Mode]{j s d:Nat}{b:Bool}(hg:o.guard=some (j,b))(ho:o.dst=some d)(hd:d<n)(hj:(ops[j]?).bind (·.dst)=some s)(hs:s<n)(hb:st.env s=.tup []):GStep P n ops o st (st.set d (.tup [])):=
 .inr ⟨λA M w0 a w hR=>by
  have h:=hR.env s;rw[hb] at h;have hlt:s<a.tmps.size:=by rw[hR.size];exact hs
  rw[Array.getD_eq_getD_getElem?,Array.getElem?_eq_getElem hlt,Option.getD_some] at h;have hy:yielded ops a.tmps j=none:=by
   simp only[yielded,hj,Option.bind_some,Array.getElem?_eq_getElem hlt]
   generalize a.tmps[s]=u at h
   cases h;rfl
  simp[Region.wanted,hg,hy],d,ho,hd,rfl⟩
theorem GStep.wpOp[Mode]{i:Nat}{Q:Exit->Act->World->Prop}{K:Act->World->Prop}(h:GStep P n ops o st st')(hi:ops[i]?=some o){A M:bE}{w0:W0}{a:Act}{w:World}(hR:R A M w0 n st a w)
  (hK:∀a' w',R A M w0 n st' a' w'->K a' w'):wpOpIn (fen w0.ro) 0 P ops Q i K a w:=by
 unfold Go.wpOpIn;simp only[hi]
 rcases h with⟨hw,h⟩|⟨hw,d,ho,hd,rfl⟩
 ·rw[if_pos (hw A M w0 a w hR)];exact h.x A M w0 a w hR K Q λs a' w' e hR'=>hK _ _ (e▸hR')
 ·rw[if_neg (by rw[hw A M w0 a w hR];simp)];exact⟨λ_ _=>trivial,hK _ _ (hR.put ho hd (aIz _ _))⟩
end
theorem R.drew[Mode]{A M:bE}{w0:W0}{n:Nat}{st:St}{a:Act}{w:World}(h:R A M w0 n st a w):R A M w0 n st a {w with drawn:=w.drawn+1}:=by
 have hk:Keeps (λ_ _=>False) w w.drew:=Keeps.drew _ _;exact h.change (w':=w.drew) hk (λ_ _ h=>h.elim) (λ_ _ _ h=>h) h.inv.sep λhm m hmm=>bV (h.inv.holds m hmm) hk (λ_ _ _ h=>h) hm
def rR(p:List (List Nat))(m sz:Nat):Bool:=(List.range sz).all λi=>bif Nat.blt i m then true else(List.range i).all λj=>bF j (p.getD i [])
def uH(ops:List Oper):Bool:=(List.range ops.length).all λi=>((ops.getD i default).after.toList.filter λe=>Region.binds .any e).all λe=>Nat.blt e.on i
def AllSteps[Mode](P:Program)(n:Nat)(ops:Array Oper)(tab:Tab)(base:Nat->AV)(objs:List MO):List Oper->List (List Nat×List Nat)->Nat->Prop
 |[],_,_=>True
 |o::l,yn,i=>(∀S:Nat->Bool,Knows S (yn.headD ([],[])).1 (yn.headD ([],[])).2->∃d v,find tab d=some (i,v)/\GStep P n ops o ⟨ov tab S base,objs⟩ ⟨upd (ov tab S base) d v,objs⟩)/\AllSteps P n ops tab base objs l yn.tail (i+1)
theorem AllSteps.get[Mode]{P:Program}{n:Nat}{ops:Array Oper}{tab:Tab}{base:Nat->AV}{objs:List MO}:∀{l:List Oper} {yn:List (List Nat×List Nat)} {k:Nat},AllSteps P n ops tab base objs l yn k->∀{i:Nat} {o:Oper},l[i]?=some o->
  ∀S:Nat->Bool,Knows S (yn.getD i ([],[])).1 (yn.getD i ([],[])).2->∃d v,find tab d=some (k+i,v)/\GStep P n ops o ⟨ov tab S base,objs⟩ ⟨upd (ov tab S base) d v,objs⟩
 |[],_,_,_,i,o,h=>by simp at h
 | _::_,yn,k,h,0,o,ho=>by
  simp at ho;subst ho
  have:=h.1;cases yn<;>simpa using this
 | _::l,yn,k,h,i+1,o,ho=>by
  have:=h.2.get (i:=i) (by simpa using ho);rw[show k+1+i=k+(i+1) by omega] at this;cases yn<;>simpa using this
def aJb(p:List (List Nat))(m:Nat)(yn:List (List Nat×List Nat)):Bool:=
 (List.range m).all λi=>(yn.getD i ([],[])).1.all (λj=>bF j (p.getD i []))&&(yn.getD i ([],[])).2.all λj=>Nat.blt j m&&bF i (p.getD j [])
def jN(tab:Tab):Bool:=apart (tab.map (·.1))&&apart (tab.map (·.2.1))
theorem vK:∀{tab:Tab} {d j:Nat} {v:AV},find tab d=some (j,v)->(d,j,v)∈tab
 |[],_,_,_,h=>by simp[find] at h
 | (d0,j0,v0)::l,d,j,v,h=>by
  simp only[find] at h;cases hb:Nat.beq d0 d with
  | true=>
   rw[hb] at h;simp at h;have:=Nat.eq_of_beq_eq_true hb;obtain⟨rfl,rfl⟩:=h;subst this;simp
  |false=>rw[hb] at h;exact List.mem_cons_of_mem _ (vK (by simpa using h))
theorem aTz{α:Type}(f:α->Nat):∀{l:List α},apart (l.map f)=true->∀x∈l,∀y∈l,f x=f y->x=y
 |[],_,x,hx,_,_,_=>by simp at hx
 | a ::l,h,x,hx,y,hy,e=>by
  simp only[List.map_cons,apart] at h;cases hm:bF (f a) (l.map f) with
  |true=>rw[hm] at h;simp at h
  | false=>
   rw[hm] at h;have hn:∀z∈l,f a≠f z:=λz hz e=>by
    have:bF (f a) (l.map f)=true:=gG.2 (List.mem_map.2 ⟨z,hz,e.symm⟩);rw[hm] at this;cases this
   rcases List.mem_cons.1 hx with rfl|hx'<;>rcases List.mem_cons.1 hy with rfl|hy'
   ·rfl
   ·exact absurd e (hn y hy')
   ·exact absurd e.symm (hn x hx')
   ·exact aTz f (by simpa using h) x hx' y hy' e
theorem aCj{tab:Tab}{S:Nat->Bool}{base:Nat->AV}{d i:Nat}{v:AV}(ht:jN tab=true)(hf:find tab d=some (i,v))(k:Nat):ov tab (λj=>Nat.beq j i||S j) base k=upd (ov tab S base) d v k:=by
 simp only[jN,Bool.and_eq_true] at ht
 by_cases hk:d=k
 ·subst hk;rw[fS]
  simp[ov,hf]
 ·rw [mJ _ _ hk];unfold ov;cases hfk:find tab k with
  |none=>rfl
  | some p=>
   obtain⟨j,u⟩:=p;have hji:j≠i:=λe=>by
    subst e;have:=aTz (λx:Nat×Nat×AV=>x.2.1) ht.2 _ (vK hf) _ (vK hfk) rfl
    simp at this
    exact hk this.1
   have:Nat.beq j i=false:=by
    cases hb:Nat.beq j i with
    |false=>rfl
    |true=>exact absurd (Nat.eq_of_beq_eq_true hb) hji
   simp[this]
theorem xJ(ops:List Oper):∀k,(cM ops k).length=k
 |0=>rfl
 |k+1=>by simp[cM,xJ ops k]
theorem tL(ops:List Oper):∀k i,i<k->(cM ops k).getD i []=aXr (cM ops i) (uV (ops.getD i default))
 |0,i,h=>by omega
 | k+1,i,h=>by
  simp only[cM,List.getD]
  by_cases hik:i<k
  ·rw[List.getElem?_append_left (by rw[xJ];exact hik)];have:=tL ops k i hik
   simpa[List.getD] using this
  ·have:i=k:=by omega
   subst this;rw[List.getElem?_append_right (by rw[xJ];omega),xJ]
   simp[List.getD]
structure DC(l:List Oper)(S:Nat->Bool):Prop where
 down:∀i,i<l.length->S i=true->∀e∈uV (l.getD i default),S e=true
theorem aSn{l:List Oper}(hb:uH l=true){i:Nat}(hi:i<l.length):∀e∈uV (l.getD i default),e<i:=by
 intro e he;simp only[uH,List.all_eq_true,List.mem_range] at hb;have:=hb i hi;simp only[uV,List.mem_map] at he;obtain⟨x,hx,rfl⟩:=he;exact aA (this x hx)
theorem aBt{l:List Oper}(hb:uH l=true){S:Nat->Bool}(hd:DC l S):∀i,i<l.length->(∀e∈uV (l.getD i default),S e=true)->∀j,bF j ((cM l l.length).getD i [])=true->S j=true:=by
 intro i
 induction i using Nat.strongRecOn with
 | _ i ih=>
  intro hi hdir j hj;rw[gG,tL l _ i hi] at hj;obtain⟨e,he,hj⟩:=aOg hj;have hei:=aSn hb hi e he
  rcases hj with rfl|hj
  ·exact hdir _ he
  ·have hel:e<l.length:=by omega
   refine ih e hei hel (λe' he'=>hd.down e hel (hdir e he) e' he') j (gG.2 ?_);rw[tL l _ e hel]
   rwa[tL l i e hei] at hj
section
variable{P:Program}{n:Nat}{st:St}{Q:Exit->St->Prop}
theorem aAm{ops:Array Oper}{listed:Array Bool}(hl:listed.size=ops.size){i:Nat}:i∈Region.ready .any ops listed↔i<ops.size/\listed.getD i false=false/\∀e∈uV (ops.toList.getD i default),listed.getD e false=true:=by
 unfold Region.ready;rw[List.mem_filter,List.mem_range]
 constructor
 ·rintro⟨hi,h⟩;simp only[Bool.and_eq_true,Bool.not_eq_true'] at h;refine⟨hi,?_,?_⟩
  ·have h1:=h.1;rw[Array.getD_eq_getD_getElem?,Array.getElem?_eq_getElem (by omega)] at h1|-;exact h1
  ·intro e he;have h2:=h.2;rw[Array.getElem?_eq_getElem hi] at h2;simp only[Option.map_some,Option.getD_some] at h2;simp only[uV,List.mem_map] at he;obtain⟨x,hx,rfl⟩:=he;have hxi:ops.toList.getD i default=ops[i]:=by simp[List.getD,hi]
   rw[hxi,List.mem_filter] at hx;rw[Array.all_eq_true] at h2;obtain⟨q,hq,hqe⟩:=List.getElem_of_mem hx.1;have:=h2 q (by simpa using hq);simp only[Array.getElem_toList] at hqe;rw[hqe] at this
   simpa[hx.2] using this
 ·rintro⟨hi,h1,h2⟩;refine⟨hi,?_⟩;simp only[Bool.and_eq_true,Bool.not_eq_true'];refine⟨?_,?_⟩
  ·rw[Array.getD_eq_getD_getElem?,Array.getElem?_eq_getElem (by omega)] at h1|-;exact h1
  ·rw[Array.getElem?_eq_getElem hi];simp only[Option.map_some,Option.getD_some,Array.all_eq_true];intro q hq;have hxi:ops.toList.getD i default=ops[i]:=by simp[List.getD,hi]
   cases hb:Region.binds .any (ops[i].after[q]) with
   |false=>simp
   | true=>
    simp only[Bool.not_true,Bool.false_or];refine h2 _ ?_;simp only[uV,List.mem_map,hxi,List.mem_filter];exact⟨_,⟨by simp,hb⟩,rfl⟩
theorem aDl{l:List Oper}(hb:uH l=true){listed:Array Bool}(hl:listed.size=l.length){i:Nat}(hi:i<l.length)(hn:listed.getD i false=false):Region.ready .any l.toArray listed≠[]:=by
 induction i using Nat.strongRecOn with
 | _ i ih=>
  by_cases h:∃j,j<i/\listed.getD j false=false
  ·obtain⟨j,hj,hjn⟩:=h;exact ih j hj (by omega) hjn
  ·have:i∈Region.ready .any l.toArray listed:=by
    refine(aAm (by simpa using hl)).2 ⟨by simpa using hi,hn,λe he=>?_⟩;have hei:=aSn hb hi e (by simpa using he);cases he':listed.getD e false with
    |true=>rfl
    |false=>exact absurd ⟨e,hei,he'⟩ h
   intro h0;rw[h0] at this
   simp at this
theorem yP(listed:Array Bool)(i j:Nat)(hi:i<listed.size):(listed.setIfInBounds i true).getD j false=(Nat.beq j i||listed.getD j false):=by
 rw[Array.getD_eq_getD_getElem?,Array.getElem?_setIfInBounds]
 by_cases h:i=j
 ·subst h;simp[hi]
 ·have:Nat.beq j i=false:=by
   cases hb:Nat.beq j i with
   |false=>rfl
   |true=>exact absurd (Nat.eq_of_beq_eq_true hb).symm h
  simp[h,this,Array.getD_eq_getD_getElem?]
theorem bGq{l:List Oper}{listed:Array Bool}(hl:listed.size=l.length)(hd:DC l λj=>listed.getD j false){i:Nat}(hi:i∈Region.ready .any l.toArray listed):DC l λj=>(listed.setIfInBounds i true).getD j false:=by
 obtain⟨h1,h2,h3⟩:=(aAm (by simpa using hl)).1 hi;have hil:i<listed.size:=by simp at h1;omega
 refine⟨λj hj hS e he=>?_⟩;show(listed.setIfInBounds i true).getD e false=true;rw[yP _ _ _ hil,Bool.or_eq_true];have hS:=(yP listed i j hil).symm.trans hS;rw[Bool.or_eq_true] at hS
 rcases hS with hS|hS
 ·have:=Nat.eq_of_beq_eq_true hS;subst this;exact .inr (h3 e (by simpa using he))
 ·exact .inr (hd.down j hj hS e he)
theorem bAi{l:List Oper}{m:Nat}(hb:uH l=true)(hbe:rR (cM l l.length) m l.length=true){F:Fence}{Qc:Exit->Act->World->Prop}:∀(fuel:Nat) (listed:Array Bool) (q:Nat) (a:Act) (w:World),listed.size=l.length->DC l (λj=>listed.getD j false)->m<=q->q<=l.length->
  (∀j,j<l.length->(listed.getD j false=true↔j<q))->l.length=q+fuel->wpListIn F 0 P l.toArray Qc (l.drop q) a w->wpAnyIn F 0 P .any l.toArray Qc fuel listed a w:=by
 intro fuel
 induction fuel with
 | zero=>
  intro listed q a w hl hd hm hq hS hc h;have hql:q=l.length:=by omega
  subst hql;refine⟨?_,by simpa[wpListIn] using h⟩
  by_cases hr:Region.ready .any l.toArray listed=[]
  ·exact hr
  ·obtain⟨i,hi⟩:=List.exists_mem_of_ne_nil _ hr;obtain⟨h1,h2,_⟩:=(aAm (by simpa using hl)).1 hi
   simp at h1
   have:=(hS i h1).2 h1;rw[this] at h2;cases h2
 | succ fuel ih=>
  intro listed q a w hl hd hm hq hS hc h;have hql:q<l.length:=by omega
  refine⟨λhr=>absurd hr (aDl hb hl hql (by cases h':listed.getD q false with|false=>rfl|true=>have:=(hS q hql).1 h';omega)),λi hi=>?_⟩;obtain⟨h1,h2,h3⟩:=(aAm (by simpa using hl)).1 hi
  simp at h1
  have hiq:¬i<q:=λh'=>by have:=(hS i h1).2 h';rw[this] at h2;cases h2
  have hall:∀j,j<i->listed.getD j false=true:=by
   intro j hj;simp only[rR,List.all_eq_true,List.mem_range] at hbe;have hb1:=hbe i h1;have hblt:Nat.blt i m=false:=by
    cases hx:Nat.blt i m with
    |false=>rfl
    |true=>have:=aA hx;omega
   rw[hblt] at hb1;simp only[cond_false,List.all_eq_true,List.mem_range] at hb1;exact aBt hb hd i h1 (by simpa using h3) j (hb1 j hj)
  have hiq':i=q:=by
   rcases Nat.lt_or_ge q i with h'|h'
   ·have:=(hS q hql).1 (hall q h');omega
   ·omega
  subst hiq';have hil:i<listed.size:=by omega
  rw[List.drop_eq_getElem_cons hql] at h;unfold wpOpIn;have hoi:l.toArray[i]?=some l[i]:=by simp[hql]
  simp only[hoi];have next:∀a w,wpListIn F 0 P l.toArray Qc (l.drop (i+1)) a w->wpAnyIn F 0 P .any l.toArray Qc fuel (listed.setIfInBounds i true) a w:=λa w h'=>
   ih _ (i+1) a w (by simpa using hl) (bGq hl hd hi) (by omega) (by omega) (λj hj=>by
    rw[yP _ _ _ hil,Bool.or_eq_true,hS j hj]
    constructor
    ·rintro(h|h)
     ·have:=Nat.eq_of_beq_eq_true h;omega
     ·omega
    ·intro h
     rcases Nat.lt_or_ge j i with h'|h'
     ·exact .inr h'
     ·have:j=i:=by omega
      subst this;left;simp) (by omega) h'
  simp only[wpListIn] at h
  split
  ·rename_i hw
   rw[if_pos hw] at h;exact Oper.wpIn_mono next h
  ·rename_i hw
   rw[if_neg hw] at h;exact⟨h.1,next _ _ h.2⟩
def GStepP[Mode](P:Program)(n:Nat)(ops:Array Oper)(o:Oper)(st:St)(Post:St->Prop):Prop:=
 (∀(A M:bE) (w0:W0) (a:Act) (w:World),R A M w0 n st a w->Region.wanted o (yielded ops a.tmps)=true)/\Step P n o st Post\/
 (∀(A M:bE) (w0:W0) (a:Act) (w:World),R A M w0 n st a w->Region.wanted o (yielded ops a.tmps)=false)/\∃d,o.dst=some d/\d<n/\Post (st.set d (.tup []))
theorem GStepP.wpOp[Mode]{ops:Array Oper}{o:Oper}{Post:St->Prop}{i:Nat}{Q:Exit->Act->World->Prop}{K:Act->World->Prop}(h:GStepP P n ops o st Post)(hi:ops[i]?=some o){A M:bE}{w0:W0}{a:Act}{w:World}(hR:R A M w0 n st a w)
  (hK:∀s a' w',Post s->R A M w0 n s a' w'->K a' w'):wpOpIn (fen w0.ro) 0 P ops Q i K a w:=by
 unfold Go.wpOpIn;simp only[hi]
 rcases h with⟨hw,h⟩|⟨hw,d,ho,hd,hp⟩
 ·rw[if_pos (hw A M w0 a w hR)];exact h.x A M w0 a w hR K Q λs a' w' e hR'=>hK _ _ _ e hR'
 ·rw[if_neg (by rw[hw A M w0 a w hR];simp)];exact⟨λ_ _=>trivial,hK _ _ _ hp (hR.put ho hd (aIz _ _))⟩
theorem aIv[Mode]{id:Nat}{l:List Oper}(m:Nat)(Fam:(Nat->Bool)->St->Prop)(hm:P.follows .mixedOrders=true)(hb:uH l=true)(hbe:rR (cM l l.length) m l.length=true)(hml:Nat.ble m l.length=true)
  (yn:List (List Nat×List Nat))(hyn:aJb (cM l l.length) m yn=true)(h0:Fam (λ_=>false) st)(hcong:∀S S' st',(∀j,j<m->S' j=S j)->Fam S st'->Fam S' st')
  (hsteps:∀i o,(l.take m)[i]?=some o->∀S st',Fam S st'->S i=false->Knows S (yn.getD i ([],[])).1 (yn.getD i ([],[])).2->GStepP P n l.toArray o st' (λs=>∃st3,Fam (λj=>Nat.beq j i||S j) st3/\Ent s st3))
  (htail:∀st',Fam (λ_=>true) st'->TrL P n l.toArray (l.drop m) st' Q):
  Tr P n (.region id l.toArray true) st Q:=by
 intro A M w0 a w hR _;have hml':m<=l.length:=Nat.le_of_ble_eq_true hml;refine wpIn_region_any hm ?_;have key:∀(fuel:Nat) (listed:Array Bool) (a:Act) (w:World),listed.size=l.length->DC l (λj=>listed.getD j false)->(∀i,m<=i->listed.getD i false=false)->(∃c,c+fuel=l.length/\((List.range l.length).filter λj=>!listed.getD j false).length=fuel)->
   (∃st',Fam (λj=>listed.getD j false) st'/\R A M w0 n st' a w)->wpAnyIn (fen w0.ro) 0 P .any l.toArray (λe a' w'=>∃st',Q e st'/\R A M w0 n st' a' w') fuel listed a w:=by
  intro fuel
  induction fuel with
  | zero=>
   intro listed a w hl hd hS hc hR;obtain⟨c,_,hc⟩:=hc;have hall:∀j,j<l.length->listed.getD j false=true:=by
    intro j hj;cases hx:listed.getD j false with
    |true=>rfl
    | false=>
     have:j∈(List.range l.length).filter λj=>!listed.getD j false:=List.mem_filter.2 ⟨List.mem_range.2 hj,by rw[hx];rfl⟩;rw[List.eq_nil_of_length_eq_zero hc] at this
     simp at this
   have hmeq:m=l.length:=by
    rcases Nat.lt_or_ge m l.length with h|h
    ·have:=hall m h;rw[hS m (Nat.le_refl _)] at this;cases this
    ·omega
   refine bAi hb hbe 0 listed m a w hl hd (Nat.le_refl _) hml' (λj hj=>⟨λ_=>by omega,λ_=>hall j hj⟩) (by omega) ?_;obtain⟨st',hF,hR⟩:=hR;exact htail st' (hcong _ _ _ (λj hj=>(hall j (by omega)).symm) hF) A M w0 a w hR
  | succ fuel ih=>
   intro listed a w hl hd hS hc hR;obtain⟨c,hc1,hc⟩:=hc;refine⟨λhr=>?_,λi hi=>?_⟩
   ·exfalso
    have:((List.range l.length).filter λj=>!listed.getD j false)≠[]:=by intro h;rw[h] at hc;simp at hc
    obtain⟨j,hj⟩:=List.exists_mem_of_ne_nil _ this;rw[List.mem_filter,List.mem_range] at hj;exact aDl hb hl hj.1 ((Bool.not_eq_true' _).mp hj.2) hr
   ·obtain ⟨h1,h2,h3⟩:=(aAm (by simpa using hl)).1 hi
    simp at h1
    have hil:i<listed.size:=by omega
    have hdir:∀e∈uV (l.getD i default),listed.getD e false=true:=by simpa using h3
    rcases Nat.lt_or_ge i m with him|him
    ·have hoi:(l.take m)[i]?=some l[i]:=by rw[List.getElem?_take,if_pos him,List.getElem?_eq_getElem h1]
     have hy:=List.all_eq_true.1 hyn i (List.mem_range.2 him);rw[Bool.and_eq_true] at hy;have hk:Knows (λj=>listed.getD j false) (yn.getD i ([],[])).1 (yn.getD i ([],[])).2:=by
      refine⟨λj hj=>aBt hb hd i h1 hdir j (List.all_eq_true.1 hy.1 j (gG.1 hj)),λj hj=>?_⟩;have hj':=List.all_eq_true.1 hy.2 j (gG.1 hj);rw[Bool.and_eq_true] at hj';cases hx:listed.getD j false with
      |false=>rfl
      | true=>
       have hjl:j<l.length:=by have:=aA hj'.1;omega
       have:=aBt hb hd j hjl (λe he=>hd.down j hjl hx e he) i hj'.2;rw[h2] at this;cases this
     obtain⟨st',hF,hR⟩:=hR;refine(hsteps i _ hoi _ st' hF h2 hk).wpOp (by simp[h1]) hR λs a' w' hP hR'=>?_;obtain⟨st3,hF3,hE⟩:=hP;refine ih _ a' w' (by simpa using hl) (bGq hl hd hi) (λj hj=>by
      rw[yP _ _ _ hil,hS j hj];cases hb':Nat.beq j i with
      |false=>rfl
      |true=>have:=Nat.eq_of_beq_eq_true hb';omega) ⟨c+1,by omega,?_⟩ ⟨st3,?_,hE A M w0 n a' w' hR'⟩
     ·have hsub:((List.range l.length).filter λj=>!(listed.setIfInBounds i true).getD j false).length+1=((List.range l.length).filter λj=>!listed.getD j false).length:=by
       have hperm:((List.range l.length).filter λj=>!listed.getD j false).erase i=(List.range l.length).filter λj=>!(listed.setIfInBounds i true).getD j false:=by
        have hnd:((List.range l.length).filter λj=>!listed.getD j false).Nodup:=List.Pairwise.filter _ List.nodup_range;rw[hnd.erase_eq_filter,List.filter_filter]
        congr 1
        funext j
        rw[yP _ _ _ hil]
        by_cases hji:j=i
        ·subst hji;simp
        ·have:Nat.beq j i=false:=by
          cases hb:Nat.beq j i with
          |false=>rfl
          |true=>exact absurd (Nat.eq_of_beq_eq_true hb) hji
         simp[this,hji]
       have hmem:i∈(List.range l.length).filter λj=>!listed.getD j false:=by simp[h1,Array.getD_eq_getD_getElem?] at*;simpa[Array.getD_eq_getD_getElem?] using h2
       have:=List.length_erase_of_mem hmem;rw[hperm] at this;have:=List.length_pos_of_mem hmem
       omega
      omega
     ·have h':(λj=>(listed.setIfInBounds i true).getD j false)=λj=>Nat.beq j i||(λj=>listed.getD j false) j:=funext λj=>yP _ _ _ hil;rw[h'];exact hF3
    ·have hall:∀j,j<i->listed.getD j false=true:=by
      intro j hj;simp only[rR,List.all_eq_true,List.mem_range] at hbe;have hb1:=hbe i h1;have hblt:Nat.blt i m=false:=by
       cases hx:Nat.blt i m with
       |false=>rfl
       |true=>have:=aA hx;omega
      rw[hblt] at hb1;simp only[cond_false,List.all_eq_true,List.mem_range] at hb1;exact aBt hb hd i h1 hdir j (hb1 j hj)
     have him':i=m:=by
      rcases Nat.lt_or_ge m i with h|h
      ·have:=hall m h;rw[hS m (Nat.le_refl _)] at this;cases this
      ·omega
     subst him';have ht:wpListIn (fen w0.ro) 0 P l.toArray (λe a' w'=>∃st',Q e st'/\R A M w0 n st' a' w') (l.drop i) a w:=by
      obtain⟨st',hF,hR⟩:=hR;exact htail st' (hcong _ _ _ (λj hj=>(hall j hj).symm) hF) A M w0 a w hR
     have hfl:l.length=i+(fuel+1):=by
      have hcount:((List.range l.length).filter λj=>!listed.getD j false)=(List.range l.length).filter λj=>decide (i<=j):=by
       apply List.filter_congr;intro j hj;rw[List.mem_range] at hj
       rcases Nat.lt_or_ge j i with h|h
       ·rw[hall j h];simp;omega
       ·rw[hS j h];simp;omega
      have hlen:∀(N i:Nat),i<=N->((List.range N).filter λj=>decide (i<=j)).length=N-i:=by
       intro N
       induction N with
       |zero=>intro i hi;simp
       | succ N ihN=>
        intro i hi;rw[List.range_succ,List.filter_append,List.length_append]
        rcases Nat.lt_or_ge N i with h|h
        ·have:i=N+1:=by omega
         subst this;have h0:((List.range N).filter λj=>decide (N+1<=j))=[]:=List.filter_eq_nil_iff.2 λj hj=>by rw[List.mem_range] at hj;simp;omega
         rw[h0]
         simp
        ·rw[ihN i h]
         simp[h]
         omega
      rw[hcount,hlen _ _ (by omega)] at hc
      omega
     have:=bAi hb hbe (fuel+1) listed i a w hl hd (Nat.le_refl _) (by omega) (λj hj=>⟨λh=>(by
      rcases Nat.lt_or_ge j i with h'|h'
      ·exact h'
      ·rw[hS j h'] at h;cases h),λh=>hall j h⟩) hfl ht
     exact this.2 i hi
 have hl0:(Array.replicate l.toArray.size false).size=l.length:=by simp
 have hg0:∀i,(Array.replicate l.toArray.size false).getD i false=false:=by
  intro i;rw[Array.getD_eq_getD_getElem?,Array.getElem?_replicate]
  split<;>rfl
 have:=key l.length (Array.replicate l.toArray.size false) a {w with drawn:=w.drawn+1} hl0 ⟨λi _ h=>by have:=(hg0 i).symm.trans h;cases this⟩ (λi _=>hg0 i)
  ⟨0,by omega,by simp only[hg0,Bool.not_false];rw[List.filter_eq_self.2 (λ_ _=>rfl),List.length_range]⟩ ⟨st,hcong _ _ _ (λj _=>hg0 j) h0,hR.drew⟩
 simpa using this
theorem GStep.toP[Mode]{ops:Array Oper}{o:Oper}{st':St}(h:GStep P n ops o st st'){Post:St->Prop}(hp:Post st'):GStepP P n ops o st Post:=by
 rcases h with⟨hw,h⟩|⟨hw,d,ho,hd,rfl⟩
 ·exact .inl ⟨hw,λA M w0 a w hR K Q hK=>h A M w0 a w hR K Q λs a' w' e hR'=>hK s a' w' (e▸hp) hR'⟩
 ·exact .inr ⟨hw,d,ho,hd,hp⟩
theorem bQr[Mode]{id:Nat}{l:List Oper}(m:Nat)(tab:Tab)(hm:P.follows .mixedOrders=true)(hb:uH l=true)(hbe:rR (cM l l.length) m l.length=true)(hml:Nat.ble m l.length=true)(hown:jN tab=true)
  (htab:(tab.all λx=>Nat.blt x.2.1 m)=true)
  (yn:List (List Nat×List Nat))(hyn:aJb (cM l l.length) m yn=true)(hsteps:AllSteps P n l.toArray tab st.env st.objs (l.take m) yn 0)(htail:TrL P n l.toArray (l.drop m) ⟨ov tab (λ_=>true) st.env,st.objs⟩ Q):
  Tr P n (.region id l.toArray true) st Q:=by
 refine aIv m (λS st'=>st'=⟨ov tab S st.env,st.objs⟩) hm hb hbe hml yn hyn ?_ ?_ ?_ (λst' e=>e▸htail)
 ·show st=_;have:ov tab (λ_=>false) st.env=st.env:=by
   funext k
   unfold ov;cases hf:find tab k with
   |none=>rfl
   |some p=>rfl
  rw[this]
 ·rintro S S' st' hS rfl
  congr 1
  funext k
  unfold ov;cases hf:find tab k with
  |none=>rfl
  | some p=>
   obtain⟨j,v⟩:=p;have hjm:j<m:=aA (List.all_eq_true.1 htab _ (vK hf))
   simp[hS j hjm]
 ·rintro i o hoi S st' rfl hi hk;obtain⟨d,v,hf,hg⟩:=hsteps.get hoi S hk;rw[Nat.zero_add] at hf;refine hg.toP ⟨_,rfl,?_⟩;have:ov tab (λj=>Nat.beq j i||S j) st.env=upd (ov tab S st.env) d v:=funext λk=>aCj hown hf k;rw[this];exact Ent.refl _
def aWu[Mode](P:Program)(n:Nat)(l:List Oper)(m:Nat)(tab:Tab)(st:St):Prop:=
 uH l=true/\rR (cM l l.length) m l.length=true/\Nat.ble m l.length=true/\jN tab=true/\(tab.all λx=>Nat.blt x.2.1 m)=true/\
  ∃yn,aJb (cM l l.length) m yn=true/\AllSteps P n l.toArray tab st.env st.objs (l.take m) yn 0
theorem dX[Mode]{id:Nat}{l:List Oper}(hm:P.follows .mixedOrders=true)(m:Nat)(ks:List Nat)(us:List (Nat×AV))(h:∃tab,aWu P n l m tab st/\Ent ⟨ov tab (λ_=>true) st.env,st.objs⟩ ⟨xU (keep ks st.env) us,st.objs⟩)
  (htail:TrL P n l.toArray (l.drop m) ⟨xU (keep ks st.env) us,st.objs⟩ Q):Tr P n (.region id l.toArray true) st Q:=by
 obtain⟨tab,⟨h1,h2,h3,h4,h5,yn,h6,h7⟩,he⟩:=h;exact bQr m tab hm h1 h2 h3 h4 h5 yn h6 h7 (cL he htail)
theorem gZ[Mode]{ops:Array Oper}{o:Oper}{tab:Tab}{i d:Nat}{v:AV}{e:Nat->AV}{objs:List MO}(hf:find tab d=some (i,v))(h:GStep P n ops o ⟨e,objs⟩ ⟨upd e d v,objs⟩):∃d v,find tab d=some (i,v)/\GStep P n ops o ⟨e,objs⟩ ⟨upd e d v,objs⟩:=⟨d,v,hf,h⟩
end
theorem ev2{st:St}{x:Operand}{l:List Operand}{a:AV}{as:List AV}(h:st.eval x=a)(hs:st.evals l=as):st.evals (x::l)=a::as:=by simp[St.evals,h,hs]
theorem evn{st:St}:st.evals []=[]:=rfl
theorem sG{a b c:List AV}(h:a=b):a++c=b++c:=by rw[h]
theorem pa2{st:St}{i:Nat}{x:Operand}{l:List (Nat×Operand)}{a:AV}{as:List (Nat×AV)}(h:st.eval x=a)(hs:st.parts l=as):st.parts ((i,x)::l)=(i,a)::as:=by simp[St.parts,h,hs]
theorem pan{st:St}:st.parts []=[]:=rfl
theorem bo{st:St}{x:Operand}{k:IntKind}{p z:Int}(h:st.eval x=.d (.lit (.int k p))):kO st (some x) z=some p:=by simp[kO,h]
theorem bTp{q:Int}{u:Unit}(h:chk (!decide (q=0))=some u):q≠0:=by simpa using aCr h
theorem bEi{q:Int}{u:Unit}(h:chk (decide (0<=q))=some u):0<=q:=by simpa using aCr h
end Go.Am
namespace Go.Am
def aWv(P:Program)(t:TypeId){α:Type}[DecidableEq α](enc:α->List D):Prop:=
 ∀(a b:α) (w:World),(Op.equalIn 10000 t (.agg ((enc a).map bD).toArray) (.agg ((enc b).map bD).toArray)).run P w=.ok (decide (a=b)) w
def dH:List D->Bool
 |[]=>true
 | .lit _::l=>dH l
 |_=>false
theorem aDa{w:World}{X:bE}:∀{ds:List D} {vs:List Value},dH ds=true->DRs w X ds vs->vs=ds.map bD
 |[],[],_,_=>rfl
 | .lit v::ds,u::vs,hl,h=>by
  have h1:=h.1;cases h1;rw[aDa (ds:=ds) (by simpa[dH] using hl) h.2]
  rfl
 | .sl _ _::_,_,hl,_=>by simp[dH] at hl
 | .sn _ _::_,_,hl,_=>by simp[dH] at hl
 | .mp _ _::_,_,hl,_=>by simp[dH] at hl
 | .pt _::_,_,hl,_=>by simp[dH] at hl
 | .fc .. ::_,_,hl,_=>by simp[dH] at hl
 | .hv .. ::_,_,hl,_=>by simp[dH] at hl
theorem VR.agg_lits{w:World}{X:bE}{ds:List D}{v:Value}(hl:dH ds=true)(h:VR w X (.agg ds) v):v=.agg (ds.map bD).toArray:=by
 cases h with
 | agg h=>
  have:=aDa hl h;rw[<-this]
theorem aWn[Mode]{P:Program}{n d:Nat}{st:St}{α:Type}[DecidableEq α]{enc:α->List D}{a b:α}{x y:Operand}{t u ty:TypeId}{pos:String}{af:Array Edge}{gd:Option (Nat×Bool)}(hd:d<n)(hx:st.eval x=.agg (enc a))(hy:st.eval y=.agg (enc b))
  (la:dH (enc a)=true)(lb:dH (enc b)=true)(hg:P.eqGuardType P.depth t=false)(he:aWv P t enc):aY P n ⟨some d,.binOp .neq t x y u,ty,pos,af,gd⟩ st (st.set d (.b (!decide (a=b)))):=
 fQ rfl hd rfl λA M w0 ac w hR=>by
  have kx:cJ x=true:=by cases x with|const u=>cases hx|_=>rfl
  have ky:cJ y=true:=by cases y with|const u=>cases hy|_=>rfl
  have h1:=hR.eval' kx;rw[hx] at h1;have h2:=hR.eval' ky;rw[hy] at h2;simp only[execOp,h1.agg_lits la,h2.agg_lits lb,Sem.run_bind,run_eqGuard_agg _ _ _ _ _ _ _ hg,Result.andThen_ok,run_neq_struct,he a b w]
  rfl
end Go.Am
