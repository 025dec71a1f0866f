/- Several texts, one behind the other. -/
import Derived.Test.YtdebnakalmnnpaaGreatDoorAmGen
import Derived.Laws.StructEq
import Derived.Scope
import Derived.Lib.SliceRun
import Derived.MapKept
import Derived.ChangeKeysEq
import Derived.Carry
import Derived.ChangeArms
import Derived.OpenShut
import Derived.ProofKit
section
section
namespace Go.Am
def uni:List Nat->List Nat->List Nat
 |a,[]=>a
 |a,x::b=>bif aV x a then uni a b else uni (x::a) b
def aAf(o:Oper):List Nat:=((o.after.toList.filter λe=>Region.binds .any e).map (·.on))
def bGx(p:List (List Nat)):List Nat->List Nat
 |[]=>[]
 |e::l=>uni (uni (bGx p l) (p.getD e [])) [e]
def cL(ops:List Oper):Nat->List (List Nat)
 |0=>[]
 |k+1=>cL ops k++[bGx (cL ops k) (aAf (ops.getD k default))]
theorem aUh{x:Nat}:∀{a b:List Nat},x∈uni a b->x∈a\/x∈b
 |a,[],h=>.inl h
 | a,y::b,h=>by
  simp only[uni] at h;cases hm:aV y a with
  | true=>
   rw[hm] at h
   rcases aUh (by simpa using h) with h|h
   ·exact .inl h
   ·exact .inr (List.mem_cons_of_mem _ h)
  | false=>
   rw[hm] at h
   rcases aUh (a:=y::a) (by simpa using h) with h|h
   ·rcases List.mem_cons.1 h with rfl|h
    ·exact .inr (by simp)
    ·exact .inl h
   ·exact .inr (List.mem_cons_of_mem _ h)
theorem aVq{p:List (List Nat)}{x:Nat}:∀{l:List Nat},x∈bGx p l->∃e∈l,x=e\/x∈p.getD e []
 |[],h=>by simp[bGx] at h
 | e::l,h=>by
  rcases aUh h with h|h
  ·rcases aUh h with h|h
   ·obtain⟨e',he',hx⟩:=aVq h;exact⟨e',by simp[he'],hx⟩
   ·exact⟨e,by simp,.inr h⟩
  ·simp at h
   exact⟨e,by simp,.inl h⟩
abbrev Tab:=List (Nat×Nat×AV)
def find:Tab->Nat->Option (Nat×AV)
 |[],_=>none
 |(d,j,v)::l,k=>bif Nat.beq d k then some (j,v) else find l k
def ov(tab:Tab)(S:Nat->Bool)(base:Nat->AV):Nat->AV:=λk=>
 match find tab k with
 |some (j,v)=>bif S j then v else base k
 |none=>base k
def ovL(tab:Tab)(yes no:List Nat)(base:Nat->AV)(k:Nat):Option AV:=
 match find tab k with
 |some (j,v)=>bif aV j yes then some v else bif aV j no then some (base k) else none
 |none=>some (base k)
structure Knows(S:Nat->Bool)(yes no:List Nat):Prop where
 y:∀j,aV j yes=true->S j=true
 n:∀j,aV j no=true->S j=false
theorem bZs{tab:Tab}{S:Nat->Bool}{yes no:List Nat}{base:Nat->AV}{k:Nat}{v:AV}(hS:Knows S yes no)(h:ovL tab yes no base k=some v):ov tab S base k=v:=by
 unfold ovL at h;unfold ov;split at h
 ·rename_i j u hf
  cases hy:aV j yes with
  |true=>rw[hy] at h;simp at h;simp[hS.y j hy,h]
  | false=>
   cases hn:aV j no with
   |true=>rw[hy,hn] at h;simp at h;simp[hS.n j hn,h]
   |false=>rw[hy,hn] at h;simp at h
 ·simpa using h
theorem bI{tab:Tab}{S:Nat->Bool}{yes no:List Nat}{base:Nat->AV}{objs:List MO}{k:Nat}{v:AV}(hS:Knows S yes no)(h:ovL tab yes no base k=some v):St.eval ⟨ov tab S base,objs⟩ (.tmp k)=v:=bZs hS h
theorem aOq{tab:Tab}{S:Nat->Bool}{yes no:List Nat}{base:Nat->AV}{objs:List MO}{k:Nat}{v:AV}(hS:Knows S yes no)(h:ovL tab yes no base k=some v):(St.mk (ov tab S base) objs).env k=v:=bZs hS h
theorem bZb{fs:List MO}{b o j:Nat}{ds es:List D}(i:Nat)(hm:fs[i]?=some (.box b o ds))(hj:Nat.ble j ds.length=true)(h:DVs fs (ds.drop j) es):BV fs (.bp b o j) (.cp es):=
 .bp b o j ds es (List.mem_of_getElem? hm) (Nat.le_of_ble_eq_true hj) h
theorem aXx{fs:List MO}{xs ys:List AV}(h:BVs fs xs ys):ys.length=xs.length/\∀i,i<xs.length->BV fs (xs.getD i .any) (ys.getD i .any):=by
 induction h with
 |nil=>exact⟨rfl,λi h=>by simp at h⟩
 | cons h _ ih=>
  refine⟨by simp[ih.1],λi hi=>?_⟩;cases i with
  |zero=>exact h
  |succ i=>simpa using ih.2 i (by simpa using hi)
theorem bOr{fs:List MO}{f:FuncId}{xs ys:List AV}(h:BVs fs xs ys):BV fs (.fn f xs) (.fn f ys):=.fn f xs ys (aXx h).1 (aXx h).2
theorem yH{fs:List MO}{xs ys:List AV}(h:BVs fs xs ys):BV fs (.tup xs) (.tup ys):=.tup xs ys (aXx h).1 (aXx h).2
theorem dvn{fs:List MO}:DVs fs [] []:=trivial
theorem dvc{fs:List MO}{x y:D}{xs ys:List D}(h:DV fs x y)(hs:DVs fs xs ys):DVs fs (x::xs) (y::ys):=⟨h,hs⟩
def GStep[Mode](P:Program)(n:Nat)(ops:Array Oper)(o:Oper)(st st':St):Prop:=
 (∀(A M:aS) (w0:W0) (a:Act) (w:World),R A M w0 n st a w->Region.wanted o (yielded ops a.tmps)=true)/\aM P n o st st'\/
 (∀(A M:aS) (w0:W0) (a:Act) (w:World),R A M w0 n st a w->Region.wanted o (yielded ops a.tmps)=false)/\∃d,o.dst=some d/\d<n/\st'=st.set d (.tup [])
section
variable{P:Program}{n:Nat}{st st':St}{ops:Array Oper}{o:Oper}
theorem gG[Mode](hg:o.guard=none)(h:aM P n o st st'):GStep P n ops o st st':=.inl ⟨λ_ _ _ _ _ _=>by simp[Region.wanted,hg],h⟩
theorem cDm[Mode]{j s:Nat}{b:Bool}(hg:o.guard=some (j,b))(hj:(ops[j]?).bind (·.dst)=some s)(hs:s<n){c:Bool}(hb:st.env s=.d (.lit (.bool c)))(hc:c=b)(h:aM P n o st st'):GStep P n ops o st st':=
 .inl ⟨λ_ _ _ _ _ hR=>by simp[Region.wanted,hg,zW hR hj hs hb,hc],h⟩
theorem cDl[Mode]{j s d:Nat}{b:Bool}(hg:o.guard=some (j,b))(ho:o.dst=some d)(hd:d<n)(hj:(ops[j]?).bind (·.dst)=some s)(hs:s<n){c:Bool}(hb:st.env s=.d (.lit (.bool c)))(hc:c=!b):GStep P n ops o st (st.set d (.tup [])):=
 .inr ⟨λ_ _ _ _ _ hR=>by simp[Region.wanted,hg,zW hR hj hs hb,hc],d,ho,hd,rfl⟩
theorem GStep.wpOp[Mode]{i:Nat}{Q:Exit->Act->World->Prop}{K:Act->World->Prop}(h:GStep P n ops o st st')(hi:ops[i]?=some o){A M:aS}{w0:W0}{a:Act}{w:World}(hR:R A M w0 n st a w)
  (hK:∀a' w',R A M w0 n st' a' w'->K a' w'):wpOpIn (fen w0.ro) 0 P ops Q i K a w:=by
 unfold Go.wpOpIn;simp only[hi]
 rcases h with⟨hw,h⟩|⟨hw,d,ho,hd,rfl⟩
 ·rw[if_pos (hw A M w0 a w hR)];exact h.x A M w0 a w hR K Q λs a' w' e hR'=>hK _ _ (e▸hR')
 ·rw[if_neg (by rw[hw A M w0 a w hR];simp)];exact⟨λ_ _=>trivial,hK _ _ (hR.put ho hd (aPp _ _))⟩
end
theorem R.drew[Mode]{A M:aS}{w0:W0}{n:Nat}{st:St}{a:Act}{w:World}(h:R A M w0 n st a w):R A M w0 n st a {w with drawn:=w.drawn+1}:=by
 have hk:Keeps (λ_ _=>False) w w.drew:=Keeps.drew _ _;exact h.change (w':=w.drew) hk (λ_ _ h=>h.elim) (λ_ _ _ h=>h) h.inv.sep λhm m hmm=>bW (h.inv.holds m hmm) hk (λ_ _ _ h=>h) hm
def wL(p:List (List Nat))(m sz:Nat):Bool:=(List.range sz).all λi=>bif Nat.blt i m then true else(List.range i).all λj=>aV j (p.getD i [])
def zX(ops:List Oper):Bool:=(List.range ops.length).all λi=>((ops.getD i default).after.toList.filter λe=>Region.binds .any e).all λe=>Nat.blt e.on i
def AllSteps[Mode](P:Program)(n:Nat)(ops:Array Oper)(tab:Tab)(base:Nat->AV)(objs:List MO):List Oper->List (List Nat×List Nat)->Nat->Prop
 |[],_,_=>True
 |o::l,yn,i=>(∀S:Nat->Bool,Knows S (yn.headD ([],[])).1 (yn.headD ([],[])).2->∃d v,find tab d=some (i,v)/\GStep P n ops o ⟨ov tab S base,objs⟩ ⟨upd (ov tab S base) d v,objs⟩)/\AllSteps P n ops tab base objs l yn.tail (i+1)
theorem AllSteps.get[Mode]{P:Program}{n:Nat}{ops:Array Oper}{tab:Tab}{base:Nat->AV}{objs:List MO}:∀{l:List Oper} {yn:List (List Nat×List Nat)} {k:Nat},AllSteps P n ops tab base objs l yn k->∀{i:Nat} {o:Oper},l[i]?=some o->
  ∀S:Nat->Bool,Knows S (yn.getD i ([],[])).1 (yn.getD i ([],[])).2->∃d v,find tab d=some (k+i,v)/\GStep P n ops o ⟨ov tab S base,objs⟩ ⟨upd (ov tab S base) d v,objs⟩
 |[],_,_,_,i,o,h=>by simp at h
 | _::_,yn,k,h,0,o,ho=>by
  simp at ho;subst ho
  have:=h.1;cases yn<;>simpa using this
 | _::l,yn,k,h,i+1,o,ho=>by
  have:=h.2.get (i:=i) (by simpa using ho);rw[show k+1+i=k+(i+1) by omega] at this;cases yn<;>simpa using this
def aPt(p:List (List Nat))(m:Nat)(yn:List (List Nat×List Nat)):Bool:=
 (List.range m).all λi=>(yn.getD i ([],[])).1.all (λj=>aV j (p.getD i []))&&(yn.getD i ([],[])).2.all λj=>Nat.blt j m&&aV i (p.getD j [])
def lX(tab:Tab):Bool:=apart (tab.map (·.1))&&apart (tab.map (·.2.1))
theorem aBk:∀{tab:Tab} {d j:Nat} {v:AV},find tab d=some (j,v)->(d,j,v)∈tab
 |[],_,_,_,h=>by simp[find] at h
 | (d0,j0,v0)::l,d,j,v,h=>by
  simp only[find] at h;cases hb:Nat.beq d0 d with
  | true=>
   rw[hb] at h;simp at h;have:=Nat.eq_of_beq_eq_true hb;obtain⟨rfl,rfl⟩:=h;subst this;simp
  |false=>rw[hb] at h;exact List.mem_cons_of_mem _ (aBk (by simpa using h))
theorem bCz{α:Type}(f:α->Nat):∀{l:List α},apart (l.map f)=true->∀x∈l,∀y∈l,f x=f y->x=y
 |[],_,x,hx,_,_,_=>by simp at hx
 | a ::l,h,x,hx,y,hy,e=>by
  simp only[List.map_cons,apart] at h;cases hm:aV (f a) (l.map f) with
  |true=>rw[hm] at h;simp at h
  | false=>
   rw[hm] at h;have hn:∀z∈l,f a≠f z:=λz hz e=>by
    have:aV (f a) (l.map f)=true:=jG.2 (List.mem_map.2 ⟨z,hz,e.symm⟩);rw[hm] at this;cases this
   rcases List.mem_cons.1 hx with rfl|hx'<;>rcases List.mem_cons.1 hy with rfl|hy'
   ·rfl
   ·exact absurd e (hn y hy')
   ·exact absurd e.symm (hn x hx')
   ·exact bCz f (by simpa using h) x hx' y hy' e
theorem aIh{tab:Tab}{S:Nat->Bool}{base:Nat->AV}{d i:Nat}{v:AV}(ht:lX tab=true)(hf:find tab d=some (i,v))(k:Nat):ov tab (λj=>Nat.beq j i||S j) base k=upd (ov tab S base) d v k:=by
 simp only[lX,Bool.and_eq_true] at ht
 by_cases hk:d=k
 ·subst hk;rw[fK]
  simp[ov,hf]
 ·rw [lJ _ _ hk];unfold ov;cases hfk:find tab k with
  |none=>rfl
  | some p=>
   obtain⟨j,u⟩:=p;have hji:j≠i:=λe=>by
    subst e;have:=bCz (λx:Nat×Nat×AV=>x.2.1) ht.2 _ (aBk hf) _ (aBk hfk) rfl
    simp at this
    exact hk this.1
   have:Nat.beq j i=false:=by
    cases hb:Nat.beq j i with
    |false=>rfl
    |true=>exact absurd (Nat.eq_of_beq_eq_true hb) hji
   simp[this]
theorem aDk(ops:List Oper):∀k,(cL ops k).length=k
 |0=>rfl
 |k+1=>by simp[cL,aDk ops k]
theorem zC(ops:List Oper):∀k i,i<k->(cL ops k).getD i []=bGx (cL ops i) (aAf (ops.getD i default))
 |0,i,h=>by omega
 | k+1,i,h=>by
  simp only[cL,List.getD]
  by_cases hik:i<k
  ·rw[List.getElem?_append_left (by rw[aDk];exact hik)];have:=zC ops k i hik
   simpa[List.getD] using this
  ·have:i=k:=by omega
   subst this;rw[List.getElem?_append_right (by rw[aDk];omega),aDk]
   simp[List.getD]
structure DC(l:List Oper)(S:Nat->Bool):Prop where
 down:∀i,i<l.length->S i=true->∀e∈aAf (l.getD i default),S e=true
theorem bAv{l:List Oper}(hb:zX l=true){i:Nat}(hi:i<l.length):∀e∈aAf (l.getD i default),e<i:=by
 intro e he;simp only[zX,List.all_eq_true,List.mem_range] at hb;have:=hb i hi;simp only[aAf,List.mem_map] at he;obtain⟨x,hx,rfl⟩:=he;exact aC (this x hx)
theorem aHu{l:List Oper}(hb:zX l=true){S:Nat->Bool}(hd:DC l S):∀i,i<l.length->(∀e∈aAf (l.getD i default),S e=true)->∀j,aV j ((cL l l.length).getD i [])=true->S j=true:=by
 intro i
 induction i using Nat.strongRecOn with
 | _ i ih=>
  intro hi hdir j hj;rw[jG,zC l _ i hi] at hj;obtain⟨e,he,hj⟩:=aVq hj;have hei:=bAv hb hi e he
  rcases hj with rfl|hj
  ·exact hdir _ he
  ·have hel:e<l.length:=by omega
   refine ih e hei hel (λe' he'=>hd.down e hel (hdir e he) e' he') j (jG.2 ?_);rw[zC l _ e hel]
   rwa[zC l i e hei] at hj
section
variable{P:Program}{n:Nat}{st:St}{Q:Exit->St->Prop}
theorem aGi{ops:Array Oper}{listed:Array Bool}(hl:listed.size=ops.size){i:Nat}:i∈Region.ready .any ops listed↔i<ops.size/\listed.getD i false=false/\∀e∈aAf (ops.toList.getD i default),listed.getD e false=true:=by
 unfold Region.ready;rw[List.mem_filter,List.mem_range]
 constructor
 ·rintro⟨hi,h⟩;simp only[Bool.and_eq_true,Bool.not_eq_true'] at h;refine⟨hi,?_,?_⟩
  ·have h1:=h.1;rw[Array.getD_eq_getD_getElem?,Array.getElem?_eq_getElem (by omega)] at h1|-;exact h1
  ·intro e he;have h2:=h.2;rw[Array.getElem?_eq_getElem hi] at h2;simp only[Option.map_some,Option.getD_some] at h2;simp only[aAf,List.mem_map] at he;obtain⟨x,hx,rfl⟩:=he;have hxi:ops.toList.getD i default=ops[i]:=by simp[List.getD,hi]
   rw[hxi,List.mem_filter] at hx;rw[Array.all_eq_true] at h2;obtain⟨q,hq,hqe⟩:=List.getElem_of_mem hx.1;have:=h2 q (by simpa using hq);simp only[Array.getElem_toList] at hqe;rw[hqe] at this
   simpa[hx.2] using this
 ·rintro⟨hi,h1,h2⟩;refine⟨hi,?_⟩;simp only[Bool.and_eq_true,Bool.not_eq_true'];refine⟨?_,?_⟩
  ·rw[Array.getD_eq_getD_getElem?,Array.getElem?_eq_getElem (by omega)] at h1|-;exact h1
  ·rw[Array.getElem?_eq_getElem hi];simp only[Option.map_some,Option.getD_some,Array.all_eq_true];intro q hq;have hxi:ops.toList.getD i default=ops[i]:=by simp[List.getD,hi]
   cases hb:Region.binds .any (ops[i].after[q]) with
   |false=>simp
   | true=>
    simp only[Bool.not_true,Bool.false_or];refine h2 _ ?_;simp only[aAf,List.mem_map,hxi,List.mem_filter];exact⟨_,⟨by simp,hb⟩,rfl⟩
theorem aJg{l:List Oper}(hb:zX l=true){listed:Array Bool}(hl:listed.size=l.length){i:Nat}(hi:i<l.length)(hn:listed.getD i false=false):Region.ready .any l.toArray listed≠[]:=by
 induction i using Nat.strongRecOn with
 | _ i ih=>
  by_cases h:∃j,j<i/\listed.getD j false=false
  ·obtain⟨j,hj,hjn⟩:=h;exact ih j hj (by omega) hjn
  ·have:i∈Region.ready .any l.toArray listed:=by
    refine(aGi (by simpa using hl)).2 ⟨by simpa using hi,hn,λe he=>?_⟩;have hei:=bAv hb hi e (by simpa using he);cases he':listed.getD e false with
    |true=>rfl
    |false=>exact absurd ⟨e,hei,he'⟩ h
   intro h0;rw[h0] at this
   simp at this
theorem aEm(listed:Array Bool)(i j:Nat)(hi:i<listed.size):(listed.setIfInBounds i true).getD j false=(Nat.beq j i||listed.getD j false):=by
 rw[Array.getD_eq_getD_getElem?,Array.getElem?_setIfInBounds]
 by_cases h:i=j
 ·subst h;simp[hi]
 ·have:Nat.beq j i=false:=by
   cases hb:Nat.beq j i with
   |false=>rfl
   |true=>exact absurd (Nat.eq_of_beq_eq_true hb).symm h
  simp[h,this,Array.getD_eq_getD_getElem?]
theorem bSd{l:List Oper}{listed:Array Bool}(hl:listed.size=l.length)(hd:DC l λj=>listed.getD j false){i:Nat}(hi:i∈Region.ready .any l.toArray listed):DC l λj=>(listed.setIfInBounds i true).getD j false:=by
 obtain⟨h1,h2,h3⟩:=(aGi (by simpa using hl)).1 hi;have hil:i<listed.size:=by simp at h1;omega
 refine⟨λj hj hS e he=>?_⟩;show(listed.setIfInBounds i true).getD e false=true;rw[aEm _ _ _ hil,Bool.or_eq_true];have hS:=(aEm listed i j hil).symm.trans hS;rw[Bool.or_eq_true] at hS
 rcases hS with hS|hS
 ·have:=Nat.eq_of_beq_eq_true hS;subst this;exact .inr (h3 e (by simpa using he))
 ·exact .inr (hd.down j hj hS e he)
theorem bKa{l:List Oper}{m:Nat}(hb:zX l=true)(hbe:wL (cL l l.length) m l.length=true){F:Fence}{Qc:Exit->Act->World->Prop}:∀(fuel:Nat) (listed:Array Bool) (q:Nat) (a:Act) (w:World),listed.size=l.length->DC l (λj=>listed.getD j false)->m<=q->q<=l.length->
  (∀j,j<l.length->(listed.getD j false=true↔j<q))->l.length=q+fuel->wpListIn F 0 P l.toArray Qc (l.drop q) a w->wpAnyIn F 0 P .any l.toArray Qc fuel listed a w:=by
 intro fuel
 induction fuel with
 | zero=>
  intro listed q a w hl hd hm hq hS hc h;have hql:q=l.length:=by omega
  subst hql;refine⟨?_,by simpa[wpListIn] using h⟩
  by_cases hr:Region.ready .any l.toArray listed=[]
  ·exact hr
  ·obtain⟨i,hi⟩:=List.exists_mem_of_ne_nil _ hr;obtain⟨h1,h2,_⟩:=(aGi (by simpa using hl)).1 hi
   simp at h1
   have:=(hS i h1).2 h1;rw[this] at h2;cases h2
 | succ fuel ih=>
  intro listed q a w hl hd hm hq hS hc h;have hql:q<l.length:=by omega
  refine⟨λhr=>absurd hr (aJg hb hl hql (by cases h':listed.getD q false with|false=>rfl|true=>have:=(hS q hql).1 h';omega)),λi hi=>?_⟩;obtain⟨h1,h2,h3⟩:=(aGi (by simpa using hl)).1 hi
  simp at h1
  have hiq:¬i<q:=λh'=>by have:=(hS i h1).2 h';rw[this] at h2;cases h2
  have hall:∀j,j<i->listed.getD j false=true:=by
   intro j hj;simp only[wL,List.all_eq_true,List.mem_range] at hbe;have hb1:=hbe i h1;have hblt:Nat.blt i m=false:=by
    cases hx:Nat.blt i m with
    |false=>rfl
    |true=>have:=aC hx;omega
   rw[hblt] at hb1;simp only[cond_false,List.all_eq_true,List.mem_range] at hb1;exact aHu hb hd i h1 (by simpa using h3) j (hb1 j hj)
  have hiq':i=q:=by
   rcases Nat.lt_or_ge q i with h'|h'
   ·have:=(hS q hql).1 (hall q h');omega
   ·omega
  subst hiq';have hil:i<listed.size:=by omega
  rw[List.drop_eq_getElem_cons hql] at h;unfold wpOpIn;have hoi:l.toArray[i]?=some l[i]:=by simp[hql]
  simp only[hoi];have next:∀a w,wpListIn F 0 P l.toArray Qc (l.drop (i+1)) a w->wpAnyIn F 0 P .any l.toArray Qc fuel (listed.setIfInBounds i true) a w:=λa w h'=>
   ih _ (i+1) a w (by simpa using hl) (bSd hl hd hi) (by omega) (by omega) (λj hj=>by
    rw[aEm _ _ _ hil,Bool.or_eq_true,hS j hj]
    constructor
    ·rintro(h|h)
     ·have:=Nat.eq_of_beq_eq_true h;omega
     ·omega
    ·intro h
     rcases Nat.lt_or_ge j i with h'|h'
     ·exact .inr h'
     ·have:j=i:=by omega
      subst this;left;simp) (by omega) h'
  simp only[wpListIn] at h
  split
  ·rename_i hw
   rw[if_pos hw] at h;exact Oper.wpIn_mono next h
  ·rename_i hw
   rw[if_neg hw] at h;exact⟨h.1,next _ _ h.2⟩
def GStepP[Mode](P:Program)(n:Nat)(ops:Array Oper)(o:Oper)(st:St)(Post:St->Prop):Prop:=
 (∀(A M:aS) (w0:W0) (a:Act) (w:World),R A M w0 n st a w->Region.wanted o (yielded ops a.tmps)=true)/\Step P n o st Post\/
 (∀(A M:aS) (w0:W0) (a:Act) (w:World),R A M w0 n st a w->Region.wanted o (yielded ops a.tmps)=false)/\∃d,o.dst=some d/\d<n/\Post (st.set d (.tup []))
theorem GStepP.wpOp[Mode]{ops:Array Oper}{o:Oper}{Post:St->Prop}{i:Nat}{Q:Exit->Act->World->Prop}{K:Act->World->Prop}(h:GStepP P n ops o st Post)(hi:ops[i]?=some o){A M:aS}{w0:W0}{a:Act}{w:World}(hR:R A M w0 n st a w)
  (hK:∀s a' w',Post s->R A M w0 n s a' w'->K a' w'):wpOpIn (fen w0.ro) 0 P ops Q i K a w:=by
 unfold Go.wpOpIn;simp only[hi]
 rcases h with⟨hw,h⟩|⟨hw,d,ho,hd,hp⟩
 ·rw[if_pos (hw A M w0 a w hR)];exact h.x A M w0 a w hR K Q λs a' w' e hR'=>hK _ _ _ e hR'
 ·rw[if_neg (by rw[hw A M w0 a w hR];simp)];exact⟨λ_ _=>trivial,hK _ _ _ hp (hR.put ho hd (aPp _ _))⟩
theorem aPm[Mode]{id:Nat}{l:List Oper}(m:Nat)(Fam:(Nat->Bool)->St->Prop)(hm:P.follows .mixedOrders=true)(hb:zX l=true)(hbe:wL (cL l l.length) m l.length=true)(hml:Nat.ble m l.length=true)
  (yn:List (List Nat×List Nat))(hyn:aPt (cL l l.length) m yn=true)(h0:Fam (λ_=>false) st)(hcong:∀S S' st',(∀j,j<m->S' j=S j)->Fam S st'->Fam S' st')
  (hsteps:∀i o,(l.take m)[i]?=some o->∀S st',Fam S st'->S i=false->Knows S (yn.getD i ([],[])).1 (yn.getD i ([],[])).2->GStepP P n l.toArray o st' (λs=>∃st3,Fam (λj=>Nat.beq j i||S j) st3/\Ent s st3))
  (htail:∀st',Fam (λ_=>true) st'->TrL P n l.toArray (l.drop m) st' Q):
  Tr P n (.region id l.toArray true) st Q:=by
 intro A M w0 a w hR _;have hml':m<=l.length:=Nat.le_of_ble_eq_true hml;refine wpIn_region_any hm ?_;have key:∀(fuel:Nat) (listed:Array Bool) (a:Act) (w:World),listed.size=l.length->DC l (λj=>listed.getD j false)->(∀i,m<=i->listed.getD i false=false)->(∃c,c+fuel=l.length/\((List.range l.length).filter λj=>!listed.getD j false).length=fuel)->
   (∃st',Fam (λj=>listed.getD j false) st'/\R A M w0 n st' a w)->wpAnyIn (fen w0.ro) 0 P .any l.toArray (λe a' w'=>∃st',Q e st'/\R A M w0 n st' a' w') fuel listed a w:=by
  intro fuel
  induction fuel with
  | zero=>
   intro listed a w hl hd hS hc hR;obtain⟨c,_,hc⟩:=hc;have hall:∀j,j<l.length->listed.getD j false=true:=by
    intro j hj;cases hx:listed.getD j false with
    |true=>rfl
    | false=>
     have:j∈(List.range l.length).filter λj=>!listed.getD j false:=List.mem_filter.2 ⟨List.mem_range.2 hj,by rw[hx];rfl⟩;rw[List.eq_nil_of_length_eq_zero hc] at this
     simp at this
   have hmeq:m=l.length:=by
    rcases Nat.lt_or_ge m l.length with h|h
    ·have:=hall m h;rw[hS m (Nat.le_refl _)] at this;cases this
    ·omega
   refine bKa hb hbe 0 listed m a w hl hd (Nat.le_refl _) hml' (λj hj=>⟨λ_=>by omega,λ_=>hall j hj⟩) (by omega) ?_;obtain⟨st',hF,hR⟩:=hR;exact htail st' (hcong _ _ _ (λj hj=>(hall j (by omega)).symm) hF) A M w0 a w hR
  | succ fuel ih=>
   intro listed a w hl hd hS hc hR;obtain⟨c,hc1,hc⟩:=hc;refine⟨λhr=>?_,λi hi=>?_⟩
   ·exfalso
    have:((List.range l.length).filter λj=>!listed.getD j false)≠[]:=by intro h;rw[h] at hc;simp at hc
    obtain⟨j,hj⟩:=List.exists_mem_of_ne_nil _ this;rw[List.mem_filter,List.mem_range] at hj;exact aJg hb hl hj.1 ((Bool.not_eq_true' _).mp hj.2) hr
   ·obtain ⟨h1,h2,h3⟩:=(aGi (by simpa using hl)).1 hi
    simp at h1
    have hil:i<listed.size:=by omega
    have hdir:∀e∈aAf (l.getD i default),listed.getD e false=true:=by simpa using h3
    rcases Nat.lt_or_ge i m with him|him
    ·have hoi:(l.take m)[i]?=some l[i]:=by rw[List.getElem?_take,if_pos him,List.getElem?_eq_getElem h1]
     have hy:=List.all_eq_true.1 hyn i (List.mem_range.2 him);rw[Bool.and_eq_true] at hy;have hk:Knows (λj=>listed.getD j false) (yn.getD i ([],[])).1 (yn.getD i ([],[])).2:=by
      refine⟨λj hj=>aHu hb hd i h1 hdir j (List.all_eq_true.1 hy.1 j (jG.1 hj)),λj hj=>?_⟩;have hj':=List.all_eq_true.1 hy.2 j (jG.1 hj);rw[Bool.and_eq_true] at hj';cases hx:listed.getD j false with
      |false=>rfl
      | true=>
       have hjl:j<l.length:=by have:=aC hj'.1;omega
       have:=aHu hb hd j hjl (λe he=>hd.down j hjl hx e he) i hj'.2;rw[h2] at this;cases this
     obtain⟨st',hF,hR⟩:=hR;refine(hsteps i _ hoi _ st' hF h2 hk).wpOp (by simp[h1]) hR λs a' w' hP hR'=>?_;obtain⟨st3,hF3,hE⟩:=hP;refine ih _ a' w' (by simpa using hl) (bSd hl hd hi) (λj hj=>by
      rw[aEm _ _ _ hil,hS j hj];cases hb':Nat.beq j i with
      |false=>rfl
      |true=>have:=Nat.eq_of_beq_eq_true hb';omega) ⟨c+1,by omega,?_⟩ ⟨st3,?_,hE A M w0 n a' w' hR'⟩
     ·have hsub:((List.range l.length).filter λj=>!(listed.setIfInBounds i true).getD j false).length+1=((List.range l.length).filter λj=>!listed.getD j false).length:=by
       have hperm:((List.range l.length).filter λj=>!listed.getD j false).erase i=(List.range l.length).filter λj=>!(listed.setIfInBounds i true).getD j false:=by
        have hnd:((List.range l.length).filter λj=>!listed.getD j false).Nodup:=List.Pairwise.filter _ List.nodup_range;rw[hnd.erase_eq_filter,List.filter_filter]
        congr 1
        funext j
        rw[aEm _ _ _ hil]
        by_cases hji:j=i
        ·subst hji;simp
        ·have:Nat.beq j i=false:=by
          cases hb:Nat.beq j i with
          |false=>rfl
          |true=>exact absurd (Nat.eq_of_beq_eq_true hb) hji
         simp[this,hji]
       have hmem:i∈(List.range l.length).filter λj=>!listed.getD j false:=by simp[h1,Array.getD_eq_getD_getElem?] at*;simpa[Array.getD_eq_getD_getElem?] using h2
       have:=List.length_erase_of_mem hmem;rw[hperm] at this;have:=List.length_pos_of_mem hmem
       omega
      omega
     ·have h':(λj=>(listed.setIfInBounds i true).getD j false)=λj=>Nat.beq j i||(λj=>listed.getD j false) j:=funext λj=>aEm _ _ _ hil;rw[h'];exact hF3
    ·have hall:∀j,j<i->listed.getD j false=true:=by
      intro j hj;simp only[wL,List.all_eq_true,List.mem_range] at hbe;have hb1:=hbe i h1;have hblt:Nat.blt i m=false:=by
       cases hx:Nat.blt i m with
       |false=>rfl
       |true=>have:=aC hx;omega
      rw[hblt] at hb1;simp only[cond_false,List.all_eq_true,List.mem_range] at hb1;exact aHu hb hd i h1 hdir j (hb1 j hj)
     have him':i=m:=by
      rcases Nat.lt_or_ge m i with h|h
      ·have:=hall m h;rw[hS m (Nat.le_refl _)] at this;cases this
      ·omega
     subst him';have ht:wpListIn (fen w0.ro) 0 P l.toArray (λe a' w'=>∃st',Q e st'/\R A M w0 n st' a' w') (l.drop i) a w:=by
      obtain⟨st',hF,hR⟩:=hR;exact htail st' (hcong _ _ _ (λj hj=>(hall j hj).symm) hF) A M w0 a w hR
     have hfl:l.length=i+(fuel+1):=by
      have hcount:((List.range l.length).filter λj=>!listed.getD j false)=(List.range l.length).filter λj=>decide (i<=j):=by
       apply List.filter_congr;intro j hj;rw[List.mem_range] at hj
       rcases Nat.lt_or_ge j i with h|h
       ·rw[hall j h];simp;omega
       ·rw[hS j h];simp;omega
      have hlen:∀(N i:Nat),i<=N->((List.range N).filter λj=>decide (i<=j)).length=N-i:=by
       intro N
       induction N with
       |zero=>intro i hi;simp
       | succ N ihN=>
        intro i hi;rw[List.range_succ,List.filter_append,List.length_append]
        rcases Nat.lt_or_ge N i with h|h
        ·have:i=N+1:=by omega
         subst this;have h0:((List.range N).filter λj=>decide (N+1<=j))=[]:=List.filter_eq_nil_iff.2 λj hj=>by rw[List.mem_range] at hj;simp;omega
         rw[h0]
         simp
        ·rw[ihN i h]
         simp[h]
         omega
      rw[hcount,hlen _ _ (by omega)] at hc
      omega
     have:=bKa hb hbe (fuel+1) listed i a w hl hd (Nat.le_refl _) (by omega) (λj hj=>⟨λh=>(by
      rcases Nat.lt_or_ge j i with h'|h'
      ·exact h'
      ·rw[hS j h'] at h;cases h),λh=>hall j h⟩) hfl ht
     exact this.2 i hi
 have hl0:(Array.replicate l.toArray.size false).size=l.length:=by simp
 have hg0:∀i,(Array.replicate l.toArray.size false).getD i false=false:=by
  intro i;rw[Array.getD_eq_getD_getElem?,Array.getElem?_replicate]
  split<;>rfl
 have:=key l.length (Array.replicate l.toArray.size false) a {w with drawn:=w.drawn+1} hl0 ⟨λi _ h=>by have:=(hg0 i).symm.trans h;cases this⟩ (λi _=>hg0 i)
  ⟨0,by omega,by simp only[hg0,Bool.not_false];rw[List.filter_eq_self.2 (λ_ _=>rfl),List.length_range]⟩ ⟨st,hcong _ _ _ (λj _=>hg0 j) h0,hR.drew⟩
 simpa using this
theorem GStep.toP[Mode]{ops:Array Oper}{o:Oper}{st':St}(h:GStep P n ops o st st'){Post:St->Prop}(hp:Post st'):GStepP P n ops o st Post:=by
 rcases h with⟨hw,h⟩|⟨hw,d,ho,hd,rfl⟩
 ·exact .inl ⟨hw,λA M w0 a w hR K Q hK=>h A M w0 a w hR K Q λs a' w' e hR'=>hK s a' w' (e▸hp) hR'⟩
 ·exact .inr ⟨hw,d,ho,hd,hp⟩
theorem cCi[Mode]{id:Nat}{l:List Oper}(m:Nat)(tab:Tab)(hm:P.follows .mixedOrders=true)(hb:zX l=true)(hbe:wL (cL l l.length) m l.length=true)(hml:Nat.ble m l.length=true)(hown:lX tab=true)
  (htab:(tab.all λx=>Nat.blt x.2.1 m)=true)
  (yn:List (List Nat×List Nat))(hyn:aPt (cL l l.length) m yn=true)(hsteps:AllSteps P n l.toArray tab st.env st.objs (l.take m) yn 0)(htail:TrL P n l.toArray (l.drop m) ⟨ov tab (λ_=>true) st.env,st.objs⟩ Q):
  Tr P n (.region id l.toArray true) st Q:=by
 refine aPm m (λS st'=>st'=⟨ov tab S st.env,st.objs⟩) hm hb hbe hml yn hyn ?_ ?_ ?_ (λst' e=>e▸htail)
 ·show st=_;have:ov tab (λ_=>false) st.env=st.env:=by
   funext k
   unfold ov;cases hf:find tab k with
   |none=>rfl
   |some p=>rfl
  rw[this]
 ·rintro S S' st' hS rfl
  congr 1
  funext k
  unfold ov;cases hf:find tab k with
  |none=>rfl
  | some p=>
   obtain⟨j,v⟩:=p;have hjm:j<m:=aC (List.all_eq_true.1 htab _ (aBk hf))
   simp[hS j hjm]
 ·rintro i o hoi S st' rfl hi hk;obtain⟨d,v,hf,hg⟩:=hsteps.get hoi S hk;rw[Nat.zero_add] at hf;refine hg.toP ⟨_,rfl,?_⟩;have:ov tab (λj=>Nat.beq j i||S j) st.env=upd (ov tab S st.env) d v:=funext λk=>aIh hown hf k;rw[this];exact Ent.refl _
def bFu[Mode](P:Program)(n:Nat)(l:List Oper)(m:Nat)(tab:Tab)(st:St):Prop:=
 zX l=true/\wL (cL l l.length) m l.length=true/\Nat.ble m l.length=true/\lX tab=true/\(tab.all λx=>Nat.blt x.2.1 m)=true/\
  ∃yn,aPt (cL l l.length) m yn=true/\AllSteps P n l.toArray tab st.env st.objs (l.take m) yn 0
theorem kX[Mode]{id:Nat}{l:List Oper}(hm:P.follows .mixedOrders=true)(m:Nat)(ks:List Nat)(us:List (Nat×AV))(h:∃tab,bFu P n l m tab st/\Ent ⟨ov tab (λ_=>true) st.env,st.objs⟩ ⟨aDx (keep ks st.env) us,st.objs⟩)
  (htail:TrL P n l.toArray (l.drop m) ⟨aDx (keep ks st.env) us,st.objs⟩ Q):Tr P n (.region id l.toArray true) st Q:=by
 obtain⟨tab,⟨h1,h2,h3,h4,h5,yn,h6,h7⟩,he⟩:=h;exact cCi m tab hm h1 h2 h3 h4 h5 yn h6 h7 (fY he htail)
theorem oJ[Mode]{ops:Array Oper}{o:Oper}{tab:Tab}{i d:Nat}{v:AV}{e:Nat->AV}{objs:List MO}(hf:find tab d=some (i,v))(h:GStep P n ops o ⟨e,objs⟩ ⟨upd e d v,objs⟩):∃d v,find tab d=some (i,v)/\GStep P n ops o ⟨e,objs⟩ ⟨upd e d v,objs⟩:=⟨d,v,hf,h⟩
end
theorem ev2{st:St}{x:Operand}{l:List Operand}{a:AV}{as:List AV}(h:st.eval x=a)(hs:st.evals l=as):st.evals (x::l)=a::as:=by simp[St.evals,h,hs]
theorem evn{st:St}:st.evals []=[]:=rfl
theorem aEl{a b c:List AV}(h:a=b):a++c=b++c:=by rw[h]
theorem pa2{st:St}{i:Nat}{x:Operand}{l:List (Nat×Operand)}{a:AV}{as:List (Nat×AV)}(h:st.eval x=a)(hs:st.parts l=as):st.parts ((i,x)::l)=(i,a)::as:=by simp[St.parts,h,hs]
theorem pan{st:St}:st.parts []=[]:=rfl
theorem bo{st:St}{x:Operand}{k:IntKind}{p z:Int}(h:st.eval x=.d (.lit (.int k p))):nP st (some x) z=some p:=by simp[nP,h]
theorem cFr{q:Int}{u:Unit}(h:chk (!decide (q=0))=some u):q≠0:=by simpa using bGw h
theorem bFk{q:Int}{u:Unit}(h:chk (decide (0<=q))=some u):0<=q:=by simpa using bGw h
end Go.Am
namespace Go.Am
def aGs(P:Program)(t:TypeId){α:Type}[DecidableEq α](enc:α->List D):Prop:=
 ∀(a b:α) (w:World),(Op.equalIn 10000 t (.agg ((enc a).map bA).toArray) (.agg ((enc b).map bA).toArray)).run P w=.ok (decide (a=b)) w
def eG:List D->Bool
 |[]=>true
 | .lit _::l=>eG l
 |_=>false
theorem aOa{w:World}{X:aS}:∀{ds:List D} {vs:List Value},eG ds=true->DRs w X ds vs->vs=ds.map bA
 |[],[],_,_=>rfl
 | .lit v::ds,u::vs,hl,h=>by
  have h1:=h.1;cases h1;rw[aOa (ds:=ds) (by simpa[eG] using hl) h.2]
  rfl
 | .sl _ _::_,_,hl,_=>by simp[eG] at hl
 | .sn _ _::_,_,hl,_=>by simp[eG] at hl
 | .mp _ _::_,_,hl,_=>by simp[eG] at hl
 | .pt _::_,_,hl,_=>by simp[eG] at hl
 | .fc .. ::_,_,hl,_=>by simp[eG] at hl
 | .hv .. ::_,_,hl,_=>by simp[eG] at hl
theorem VR.agg_lits{w:World}{X:aS}{ds:List D}{v:Value}(hl:eG ds=true)(h:VR w X (.agg ds) v):v=.agg (ds.map bA).toArray:=by
 cases h with
 | agg h=>
  have:=aOa hl h;rw[<-this]
theorem cGb[Mode]{P:Program}{n d:Nat}{st:St}{α:Type}[DecidableEq α]{enc:α->List D}{a b:α}{x y:Operand}{t u ty:TypeId}{pos:String}{af:Array Edge}{gd:Option (Nat×Bool)}(hd:d<n)(hx:st.eval x=.agg (enc a))(hy:st.eval y=.agg (enc b))
  (la:eG (enc a)=true)(lb:eG (enc b)=true)(hg:P.eqGuardType P.depth t=false)(he:aGs P t enc):aM P n ⟨some d,.binOp .eql t x y u,ty,pos,af,gd⟩ st (st.set d (.b (decide (a=b)))):=
 gP rfl hd rfl λA M w0 ac w hR=>by
  have kx:cD x=true:=by cases x with|const u=>cases hx|_=>rfl
  have ky:cD y=true:=by cases y with|const u=>cases hy|_=>rfl
  have h1:=hR.eval' kx;rw[hx] at h1;have h2:=hR.eval' ky;rw[hy] at h2;simp only[execOp,h1.agg_lits la,h2.agg_lits lb,Sem.run_bind,run_eqGuard_agg _ _ _ _ _ _ _ hg,Result.andThen_ok,run_eql_struct,he a b w]
  rfl
theorem bFm[Mode]{P:Program}{n d:Nat}{st:St}{α:Type}[DecidableEq α]{enc:α->List D}{a b:α}{x y:Operand}{t u ty:TypeId}{pos:String}{af:Array Edge}{gd:Option (Nat×Bool)}(hd:d<n)(hx:st.eval x=.agg (enc a))(hy:st.eval y=.agg (enc b))
  (la:eG (enc a)=true)(lb:eG (enc b)=true)(hg:P.eqGuardType P.depth t=false)(he:aGs P t enc):aM P n ⟨some d,.binOp .neq t x y u,ty,pos,af,gd⟩ st (st.set d (.b (!decide (a=b)))):=
 gP rfl hd rfl λA M w0 ac w hR=>by
  have kx:cD x=true:=by cases x with|const u=>cases hx|_=>rfl
  have ky:cD y=true:=by cases y with|const u=>cases hy|_=>rfl
  have h1:=hR.eval' kx;rw[hx] at h1;have h2:=hR.eval' ky;rw[hy] at h2;simp only[execOp,h1.agg_lits la,h2.agg_lits lb,Sem.run_bind,run_eqGuard_agg _ _ _ _ _ _ _ hg,Result.andThen_ok,run_neq_struct,he a b w]
  rfl
end Go.Am
end
section
namespace Go.Am
structure XV where
 b:Nat
 v:Value
abbrev Mk:=Nat->XV
def aTf(X:Mk)(i:Nat)(x:XV):Mk:=λk=>bif Nat.beq k i then x else X k
def Sp(i:Nat)(S:Nat->Bool):Nat->Bool:=λj=>Nat.beq j i||S j
abbrev Stg:=List (Nat×MO)×MO
def xS(S:Nat->Bool):List (Nat×MO)->MO->MO
 |[],m=>m
 |(i,x)::l,m=>bif S i then x else xS S l m
def gQ(S:Nat->Bool):List Stg->List MO
 |[]=>[]
 |s::r=>xS S s.1 s.2::gQ S r
def aOp(yes no:List Nat):List (Nat×MO)->MO->Option MO
 |[],m=>some m
 |(i,x)::l,m=>bif aV i yes then some x else bif aV i no then aOp yes no l m else none
def aRt(i:Nat):List (Nat×MO)->Bool
 |[]=>false
 |(j,_)::l=>Nat.beq j i||aRt i l
def aLy(i:Nat):List Stg->Bool
 |[]=>true
 |s::r=>!(aRt i s.1)&&aLy i r
def aJc(i:Nat):Nat->List Stg->Bool
 |_,[]=>true
 |0,_::r=>aLy i r
 |p+1,s::r=>!(aRt i s.1)&&aJc i p r
def aGf(m:Nat):List Stg->Bool
 |[]=>true
 |s::r=>s.1.all (λx=>Nat.blt x.1 m)&&aGf m r
theorem aMi{S:Nat->Bool}{yes no:List Nat}(hS:Knows S yes no):∀{l:List (Nat×MO)} {m x:MO},aOp yes no l m=some x->xS S l m=x
 |[],m,x,h=>by simpa[aOp,xS] using h
 | (i,y)::l,m,x,h=>by
  simp only[aOp] at h;simp only[xS];cases hy:aV i yes with
  |true=>rw[hy] at h;simp at h;simp[hS.y i hy,h]
  | false=>
   cases hn:aV i no with
   |true=>rw[hy,hn] at h;simp at h;simp[hS.n i hn,aMi hS h]
   |false=>rw[hy,hn] at h;simp at h
theorem og{S:Nat->Bool}{yes no:List Nat}{objs:List MO}{i:Nat}{l:List (Nat×MO)}{m x:MO}(hS:Knows S yes no)(h:objs[i]?=some (xS S l m))(h2:aOp yes no l m=some x):objs[i]?=some x:=by
 rw[h,aMi hS h2]
theorem bQy{i j:Nat}{S:Nat->Bool}(h:Nat.beq j i=false):Sp i S j=S j:=by simp[Sp,h]
theorem aSp{i:Nat}{S:Nat->Bool}:∀{l:List (Nat×MO)} {m:MO},aRt i l=false->xS (Sp i S) l m=xS S l m
 |[],_,_=>rfl
 | (j,x)::l,m,h=>by
  simp only[aRt,Bool.or_eq_false_iff] at h;simp only[xS,bQy h.1,aSp h.2]
theorem aOl{i:Nat}{S:Nat->Bool}:∀{obs:List Stg},aLy i obs=true->gQ (Sp i S) obs=gQ S obs
 |[],_=>rfl
 | s::r,h=>by
  simp only[aLy,Bool.and_eq_true,Bool.not_eq_true'] at h;simp only[gQ,aSp h.1,aOl h.2]
theorem aKf{i:Nat}{S:Nat->Bool}:∀{p:Nat} {obs:List Stg},aJc i p obs=true->∀{s:Stg} {x:MO},obs[p]?=some s->xS (Sp i S) s.1 s.2=x->gQ (Sp i S) obs=(gQ S obs).set p x
 |p,[],_,s,x,h,_=>by simp at h
 | 0,s0::r,ho,s,x,h,hx=>by
  simp at h;subst h;subst hx
  simp only[gQ,List.set_cons_zero];rw[aOl ho]
 | p+1,s0::r,ho,s,x,h,hx=>by
  simp only[aJc,Bool.and_eq_true,Bool.not_eq_true'] at ho;simp only[gQ,List.set_cons_succ,aSp ho.1];rw[aKf ho.2 (by simpa using h) hx]
theorem aZk{m:Nat}{S S':Nat->Bool}(hS:∀j,j<m->S' j=S j):∀{l:List (Nat×MO)} {x:MO},(l.all λx=>Nat.blt x.1 m)=true->xS S' l x=xS S l x
 |[],_,_=>rfl
 | (j,y)::l,x,h=>by
  simp only[List.all_cons,Bool.and_eq_true] at h;simp only[xS,hS j (aC h.1),aZk hS h.2]
theorem aUz{m:Nat}{S S':Nat->Bool}(hS:∀j,j<m->S' j=S j):∀{obs:List Stg},aGf m obs=true->gQ S' obs=gQ S obs
 |[],_=>rfl
 | s::r,h=>by
  simp only[aGf,Bool.and_eq_true] at h;simp only[gQ,aZk hS h.1,aUz hS h.2]
def bOb(no:List Nat):Tab->Tab->Prop
 |[],[]=>True
 |x::l,x'::l'=>x.1=x'.1/\x.2.1=x'.2.1/\(aV x.2.1 no=true\/x.2.2=x'.2.2)/\bOb no l l'
 |_,_=>False
def bFs(no:List Nat):List (Nat×MO)->List (Nat×MO)->Prop
 |[],[]=>True
 |x::l,x'::l'=>x.1=x'.1/\(aV x.1 no=true\/x.2=x'.2)/\bFs no l l'
 |_,_=>False
def bFr(no:List Nat):List Stg->List Stg->Prop
 |[],[]=>True
 |s::r,s'::r'=>bFs no s.1 s'.1/\s.2=s'.2/\bFr no r r'
 |_,_=>False
theorem aYo{no:List Nat}{S:Nat->Bool}{base:Nat->AV}(hS:∀j,aV j no=true->S j=false):∀{t t':Tab},bOb no t t'->∀k,ov t S base k=ov t' S base k
 |[],[],_,k=>rfl
 | (d,j,v)::l,(d',j',v')::l',h,k=>by
  obtain⟨h1,h2,h3,h4⟩:=h;simp only at h1 h2 h3;subst h1;subst h2;have ih:=aYo (base:=base) hS h4 k;unfold ov at ih|-;simp only[find];cases hk:Nat.beq d k with
  |false=>simpa using ih
  | true=>
   simp only[cond_true]
   rcases h3 with h3|h3
   ·rw[hS j h3];rfl
   ·rw[h3]
theorem aZj{no:List Nat}{S:Nat->Bool}(hS:∀j,aV j no=true->S j=false):∀{l l':List (Nat×MO)} {m:MO},bFs no l l'->xS S l m=xS S l' m
 |[],[],_,_=>rfl
 | (j,x)::l,(j',x')::l',m,h=>by
  obtain⟨h1,h2,h3⟩:=h;simp only at h1 h2;subst h1;simp only[xS,aZj hS h3]
  rcases h2 with h2|h2
  ·rw[hS j h2];rfl
  ·rw[h2]
theorem aUy{no:List Nat}{S:Nat->Bool}(hS:∀j,aV j no=true->S j=false):∀{o o':List Stg},bFr no o o'->gQ S o=gQ S o'
 |[],[],_=>rfl
 | s::r,s'::r',h=>by
  simp only[gQ,aZj hS h.1,h.2.1,aUy hS h.2.2]
def aTx(i:Nat):Tab->Bool
 |[]=>true
 |x::l=>!(Nat.beq x.2.1 i)&&aTx i l
theorem aYp{i:Nat}:∀{t:Tab},aTx i t=true->∀{k j:Nat} {v:AV},find t k=some (j,v)->Nat.beq j i=false
 |[],_,k,j,v,h=>by simp[find] at h
 | (d0,j0,v0)::l,hn,k,j,v,h=>by
  simp only[aTx,Bool.and_eq_true,Bool.not_eq_true'] at hn;simp only[find] at h;cases hb:Nat.beq d0 k with
  |true=>rw[hb] at h;simp at h;rw[<-h.1];exact hn.1
  |false=>rw[hb] at h;exact aYp hn.2 (by simpa using h)
theorem bXh{i:Nat}{t:Tab}{S:Nat->Bool}{base:Nat->AV}(hn:aTx i t=true)(k:Nat):ov t (Sp i S) base k=ov t S base k:=by
 unfold ov;cases hf:find t k with
 |none=>rfl
 | some p=>
  obtain⟨j,v⟩:=p;simp only[bQy (aYp hn hf)]
theorem Knows.sp{S:Nat->Bool}{yes no:List Nat}{i:Nat}(h:Knows S yes no)(hn:aV i no=false):Knows (Sp i S) (i::yes) no:=by
 refine⟨λj hj=>?_,λj hj=>?_⟩
 ·simp only[aV] at hj;cases hb:Nat.beq i j with
  |true=>have:=Nat.eq_of_beq_eq_true hb;subst this;simp[Sp]
  |false=>rw[hb] at hj;simp only[cond_false] at hj;simp[Sp,h.y j hj]
 ·have:Nat.beq j i=false:=by
   cases hb:Nat.beq j i with
   |false=>rfl
   |true=>have:=Nat.eq_of_beq_eq_true hb;subst this;rw[hn] at hj;cases hj
  rw[bQy this];exact h.n j hj
theorem Knows.tl{S:Nat->Bool}{yes no:List Nat}{i:Nat}(h:Knows S yes (i::no)):Knows S yes no:=⟨h.y,λj hj=>h.n j (by simp only[aV];cases Nat.beq i j<;>simp[hj])⟩
theorem Knows.cons{S:Nat->Bool}{yes no:List Nat}{i:Nat}(h:Knows S yes no)(hi:S i=false):∀j,aV j (i::no)=true->S j=false:=by
 intro j hj;simp only[aV] at hj;cases hb:Nat.beq i j with
 |true=>have:=Nat.eq_of_beq_eq_true hb;subst this;exact hi
 |false=>rw[hb] at hj;exact h.n j (by simpa using hj)
def aJq[Mode](P:Program)(n:Nat)(ops:Array Oper)(o:Oper)(tab:Mk->Tab)(base:Nat->AV)(obs:Mk->List Stg)(i:Nat)(X:Mk)(S:Nat->Bool):Prop:=
 GStepP P n ops o ⟨ov (tab X) S base,gQ S (obs X)⟩ (λs=>∃X',Ent s ⟨ov (tab X') (Sp i S) base,gQ (Sp i S) (obs X')⟩)
def XSteps[Mode](P:Program)(n:Nat)(ops:Array Oper)(tab:Mk->Tab)(base:Nat->AV)(obs:Mk->List Stg):List Oper->List (List Nat×List Nat)->Nat->Prop
 |[],_,_=>True
 | o::l,yn,i=>(∀(X:Mk) (S:Nat->Bool),(∀X,lX (tab X)=true)->S i=false->Knows S (yn.headD ([],[])).1 (i::(yn.headD ([],[])).2)->
   aJq P n ops o tab base obs i X S)/\XSteps P n ops tab base obs l yn.tail (i+1)
theorem XSteps.get[Mode]{P:Program}{n:Nat}{ops:Array Oper}{tab:Mk->Tab}{base:Nat->AV}{obs:Mk->List Stg}:∀{l:List Oper} {yn:List (List Nat×List Nat)} {k:Nat},XSteps P n ops tab base obs l yn k->∀{i:Nat} {o:Oper},l[i]?=some o->
  ∀ (X:Mk) (S:Nat->Bool),(∀X,lX (tab X)=true)->S (k+i)=false->Knows S (yn.getD i ([],[])).1 ((k+i)::(yn.getD i ([],[])).2)->
   aJq P n ops o tab base obs (k+i) X S
 |[],_,_,_,i,o,h=>by simp at h
 | _::_,yn,k,h,0,o,ho=>by
  simp at ho;subst ho
  have:=h.1;cases yn<;>simpa using this
 | _::l,yn,k,h,i+1,o,ho=>by
  have:=h.2.get (i:=i) (by simpa using ho);rw[show k+1+i=k+(i+1) by omega] at this;cases yn<;>simpa using this
section
variable{P:Program}{n:Nat}{st:St}{Q:Exit->St->Prop}{ops:Array Oper}{o:Oper}
theorem GStep.toP'[Mode]{st1 st2:St}(h:GStep P n ops o st1 st2){Post:St->Prop}(hp:Post st2):GStepP P n ops o st1 Post:=by
 rcases h with⟨hw,h⟩|⟨hw,d,ho,hd,rfl⟩
 ·exact .inl ⟨hw,λA M w0 a w hR K Q hK=>h A M w0 a w hR K Q λs a' w' e hR'=>hK s a' w' (e▸hp) hR'⟩
 ·exact .inr ⟨hw,d,ho,hd,hp⟩
def nob:MO:=.box 0 0 []
theorem cAu[Mode]{env:Nat->AV}{objs:List MO}:Ent ⟨env,objs⟩ ⟨env,objs++[nob]⟩:=by
 intro A M w0 n a w hR;refine hR.change (Keeps.refl (λ_ _=>False) w) (λ_ _ h=>h.elim) (λb o _ hx=>?_) ?_ λhm m hmm=>?_
 ·rcases kM.1 hx with h|⟨m,hm,hf⟩
  ·exact h
  ·simp at hm;subst hm;obtain⟨_,h1,h2⟩:=hf;simp at h2
 ·refine List.pairwise_append.2 ⟨hR.inv.sep,by simp,λx hx y hy b o h1 h2=>?_⟩
  simp at hy;subst hy;obtain⟨_,h3,h4⟩:=h2;simp at h4
 ·rcases List.mem_append.1 hmm with h|h
  ·exact bW (hR.inv.holds m h) (Keeps.refl (λ_ _=>False) w) (λ_ _ _ h=>h) hm
  ·simp at h;subst h
   exact⟨[],trivial,λj v h=>by simp at h,λj h=>by simp at h⟩
theorem bHg[Mode]{env:Nat->AV}{objs:List MO}:∀q,Ent ⟨env,objs⟩ ⟨env,objs++List.replicate q nob⟩
 |0=>by simpa using Ent.refl _
 | q+1=>by
  have:=(bHg (env:=env) (objs:=objs) q).trans cAu
  rwa[List.append_assoc,<-List.replicate_succ'] at this
theorem aDz[Mode]{tab:Mk->Tab}{base:Nat->AV}{obs:Mk->List Stg}{X:Mk}{S:Nat->Bool}{i d:Nat}{v:AV}(hf:find (tab X) d=some (i,v))(hown:lX (tab X)=true)(hfree:aLy i (obs X)=true)
  (h:GStep P n ops o ⟨ov (tab X) S base,gQ S (obs X)⟩ ⟨upd (ov (tab X) S base) d v,gQ S (obs X)⟩):
  aJq P n ops o tab base obs i X S:=by
 refine h.toP' ⟨X,?_⟩;have:ov (tab X) (Sp i S) base=upd (ov (tab X) S base) d v:=funext λk=>aIh hown hf k;rw[this,aOl hfree];exact Ent.refl _
theorem cCk[Mode]{tab:Mk->Tab}{base:Nat->AV}{obs:Mk->List Stg}{X:Mk}{S:Nat->Bool}{yes no:List Nat}{i p:Nat}{s0:Stg}{mo:MO}(hS:Knows S yes (i::no))(hno:aV i no=false)(hn:aTx i (tab X)=true)(ho:aJc i p (obs X)=true)
  (hp:(obs X)[p]?=some s0)(hm:aOp (i::yes) no s0.1 s0.2=some mo)
  (h:GStep P n ops o ⟨ov (tab X) S base,gQ S (obs X)⟩ ⟨ov (tab X) S base,(gQ S (obs X)).set p mo⟩):
  aJq P n ops o tab base obs i X S:=by
 refine h.toP' ⟨X,?_⟩;have:ov (tab X) (Sp i S) base=ov (tab X) S base:=funext λk=>bXh hn k;rw[this,aKf ho hp (aMi (hS.tl.sp hno) hm)];exact Ent.refl _
theorem cEw[Mode]{tab:Mk->Tab}{base:Nat->AV}{obs:Mk->List Stg}{X:Mk}{S:Nat->Bool}{yes no:List Nat}{i d p:Nat}{v:AV}{s0:Stg}{mo:MO}(hS:Knows S yes (i::no))(hg:o.guard=none)(hno:aV i no=false)
  (hf:find (tab X) d=some (i,v))(hown:lX (tab X)=true)(ho:aJc i p (obs X)=true)(hp:(obs X)[p]?=some s0)(hm:aOp (i::yes) no s0.1 s0.2=some mo)
  (h:Step P n o ⟨ov (tab X) S base,gQ S (obs X)⟩ (λs=>Ent s ⟨upd (ov (tab X) S base) d v,(gQ S (obs X)).set p mo⟩)):
  aJq P n ops o tab base obs i X S:=by
 refine .inl ⟨λ_ _ _ _ _ _=>by simp[Region.wanted,hg],λA M w0 a w hR K Q hK=>h A M w0 a w hR K Q λs a' w' he hR'=>hK s a' w' ⟨X,?_⟩ hR'⟩;have:ov (tab X) (Sp i S) base=upd (ov (tab X) S base) d v:=funext λk=>aIh hown hf k;rw[this,aKf ho hp (aMi (hS.tl.sp hno) hm)];exact he
theorem bAr[Mode]{tab:Mk->Tab}{base:Nat->AV}{obs:Mk->List Stg}{X:Mk}{S:Nat->Bool}{yes no:List Nat}{i d p:Nat}{v:XV->AV}{s0:XV->Stg}{mo:XV->MO}(hS:Knows S yes (i::no))(hi:S i=false)(hg:o.guard=none)(hno:aV i no=false)
  (hf:∀x,find (tab (aTf X i x)) d=some (i,v x))(hown:∀X,lX (tab X)=true)(ho:∀X,aJc i p (obs X)=true)(hp:∀x,(obs (aTf X i x))[p]?=some (s0 x))(hm:∀x,aOp (i::yes) no (s0 x).1 (s0 x).2=some (mo x))
  (hat:∀x,bOb (i::no) (tab (aTf X i x)) (tab X))(hao:∀x,bFr (i::no) (obs (aTf X i x)) (obs X))
  (h:Step P n o ⟨ov (tab X) S base,gQ S (obs X)⟩ (λs=>∃x,Ent s ⟨upd (ov (tab X) S base) d (v x),(gQ S (obs X)).set p (mo x)⟩)):
  aJq P n ops o tab base obs i X S:=by
 refine .inl ⟨λ_ _ _ _ _ _=>by simp[Region.wanted,hg],λA M w0 a w hR K Q hK=>h A M w0 a w hR K Q ?_⟩;rintro s a' w' ⟨x,he⟩ hR';refine hK s a' w' ⟨aTf X i x,?_⟩ hR';have h1:ov (tab (aTf X i x)) (Sp i S) base=upd (ov (tab X) S base) d (v x):=by
  funext k
  rw[show ov (tab (aTf X i x)) (Sp i S) base k=_ from aIh (hown _) (hf x) k];have:ov (tab (aTf X i x)) S base=ov (tab X) S base:=funext λk=>aYo (hS.n) (hat x) k;rw[this]
 rw[h1,aKf (ho _) (hp x) (aMi (hS.tl.sp hno) (hm x)),aUy (hS.n) (hao x)];exact he
def XOK[Mode](P:Program)(n:Nat)(l:List Oper)(m q:Nat)(tab:Mk->Tab)(obs:Mk->List Stg)(st:St):Prop:=
 zX l=true/\wL (cL l l.length) m l.length=true/\Nat.ble m l.length=true/\(∀X,lX (tab X)=true)/\(∀X,((tab X).all λx=>Nat.blt x.2.1 m)=true)/\(∀X,aGf m (obs X)=true)/\
  (∀X,gQ (λ_=>false) (obs X)=st.objs++List.replicate q nob)/\
  ∃yn,aPt (cL l l.length) m yn=true/\XSteps P n l.toArray tab st.env obs (l.take m) yn 0
theorem bYd[Mode]{id:Nat}{l:List Oper}(hm:P.follows .mixedOrders=true)(m q:Nat)(tab:Mk->Tab)(obs:Mk->List Stg)(ks:List Nat)(us:Mk->List (Nat×AV))(objs:Mk->List MO)(h:XOK P n l m q tab obs st)
  (he:∀X,Ent ⟨ov (tab X) (λ_=>true) st.env,gQ (λ_=>true) (obs X)⟩ ⟨aDx (keep ks st.env) (us X),objs X⟩)
  (htail:∀X,TrL P n l.toArray (l.drop m) ⟨aDx (keep ks st.env) (us X),objs X⟩ Q):Tr P n (.region id l.toArray true) st Q:=by
 obtain⟨h1,h2,h3,hw,h4,h5,h6,yn,h7,h8⟩:=h;refine kA (bHg q) ?_;have h0:(⟨st.env,st.objs++List.replicate q nob⟩:St)=⟨ov (tab λ_=>⟨0,undef⟩) (λ_=>false) st.env,gQ (λ_=>false) (obs λ_=>⟨0,undef⟩)⟩:=by
  rw[h6]
  congr 1
  funext k
  unfold ov;cases find (tab λ_=>⟨0,undef⟩) k<;>rfl
 refine aPm m (λS st'=>∃X,st'=⟨ov (tab X) S st.env,gQ S (obs X)⟩) hm h1 h2 h3 yn h7 ⟨_,h0⟩ ?_ ?_ ?_
 ·rintro S S' st' hS ⟨X,rfl⟩;refine⟨X,?_⟩;rw[aUz hS (h5 X)]
  congr 1
  funext k
  unfold ov;cases hf:find (tab X) k with
  |none=>rfl
  | some p=>
   obtain⟨j,v⟩:=p;have hjm:j<m:=aC (List.all_eq_true.1 (h4 X) _ (aBk hf))
   simp[hS j hjm]
 ·rintro i o hoi S st' ⟨X,rfl⟩ hi hk;have:=h8.get hoi X S hw (by rw[Nat.zero_add];exact hi) ⟨hk.y,by rw[Nat.zero_add];exact hk.cons hi⟩;rw[Nat.zero_add] at this
  rcases this with⟨hw',h⟩|⟨hw',d,ho,hd,X',he'⟩
  ·exact .inl ⟨hw',λA M w0 a w hR K Q hK=>h A M w0 a w hR K Q λs a' w' ⟨X',he'⟩ hR'=>hK s a' w' ⟨_,⟨X',rfl⟩,he'⟩ hR'⟩
  ·exact .inr ⟨hw',d,ho,hd,_,⟨X',rfl⟩,he'⟩
 ·rintro st' ⟨X,rfl⟩;exact fY (he X) (htail X)
theorem aTm[Mode]{id:Nat}{l:List Oper}(hm:P.follows .mixedOrders=true)(m:Nat)(ks:List Nat)(us:Mk->List (Nat×AV))(objs:Mk->List MO)
  (h:∃q tab obs,XOK P n l m q tab obs st/\∀X,Ent ⟨ov (tab X) (λ_=>true) st.env,gQ (λ_=>true) (obs X)⟩ ⟨aDx (keep ks st.env) (us X),objs X⟩)
  (htail:∀X,TrL P n l.toArray (l.drop m) ⟨aDx (keep ks st.env) (us X),objs X⟩ Q):Tr P n (.region id l.toArray true) st Q:=by
 obtain⟨q,tab,obs,h,he⟩:=h;exact bYd hm m q tab obs ks us objs h he htail
theorem le_refl(e:Nat->AV):Le e e:=λ_=>.inr rfl
theorem bYa[Mode]{st1:St}{Post:St->Prop}(he:Ent st st1)(h:Step P n o st1 Post):Step P n o st Post:=λA M w0 a w hR K Q hK=>h A M w0 a w (he A M w0 n a w hR) K Q hK
theorem aGq[Mode]{Post Post':St->Prop}(h:Step P n o st Post)(hp:∀s,Post s->Post' s):Step P n o st Post':=λA M w0 a w hR K Q hK=>h A M w0 a w hR K Q λs a' w' hs hR'=>hK s a' w' (hp s hs) hR'
end
end Go.Am
end
end
section
section
namespace Go.Am
theorem aZy{P:Program}{t:TypeId}{m:Nat}(ht:jV P t m){w:World}{b o:Nat}{vs:List Value}(hl:vs.length=m)(h:cellsAt w b o vs):
  (loadVar t ⟨b,o,none⟩).run P w=.ok (.agg vs.toArray) w:=by
 subst hl;have:=run_loadCells_list (P:=P) w ⟨b,o,none⟩ vs λj v hj=>by rw[Addr.add_lit];exact h j v hj
 simp[loadVar,ht.1,ht.2,this]
inductive RVc(P:Program)(st:St):ResultVar->AV->Prop where
 |tmp (t:Nat) {v:AV} (h:st.env t=v):RVc P st (.tmp t) v
 |cell (a:Nat) (t:TypeId) {b o j i m:Nat} {ds es:List D} (ha:st.env a=.bp b o j) (ho:st.objs[i]?=some (.box b o ds)) (ht:jV P t m) (he:(ds.drop j).take m=es) (hl:es.length=m):RVc P st (.cell a t) (.agg es)
 |cell1 (a:Nat) (t:TypeId) {b o j i:Nat} {ds:List D} {d0:D} (ha:st.env a=.bp b o j) (ho:st.objs[i]?=some (.box b o ds)) (ht:fZ P t) (he:ds[j]?=some d0):RVc P st (.cell a t) (.d d0)
def aIi(tmps:Array Value):ResultVar->Sem Value
 | .tmp t=>pure (tmps.getD t undef)
 | .cell a t=>do loadVar t (<-asAddr (tmps.getD a undef))
theorem RVc.run[Mode]{P:Program}{st:St}{x:ResultVar}{r:AV}(h:RVc P st x r){A M:aS}{w0:W0}{n:Nat}{a:Act}{w:World}(hR:R A M w0 n st a w):
  ∃v,(aIi a.tmps x).run P w=.ok v w/\VR w (aT A st.objs) r v:=by
 cases h with
 |tmp t h=>exact⟨_,rfl,h▸hR.env t⟩
 | @cell p t b o j i m ds es ha ho ht he hl=>
  have h:=hR.env p;rw[ha] at h
  generalize hu:a.tmps.getD p undef=u at h
  obtain⟨vs,hds,hc,_⟩:=hR.inv.holds _ (List.mem_of_getElem? ho);have hdt:=(hds.drop j).take m;cases h with
  | bp=>
   subst he;refine⟨.agg ((vs.drop j).take m).toArray,?_,.agg (by simpa using hdt)⟩
   simp[aIi,hu,asAddr,aZy ht (vs:=(vs.drop j).take m) (by rw[hdt.length,hl]) ((hc.drop j).take m)]
 | @cell1 p t b o j i ds d0 ha ho ht he=>
  have h:=hR.env p;rw[ha] at h
  generalize hu:a.tmps.getD p undef=u at h
  obtain⟨vs,hds,hc,_⟩:=hR.inv.holds _ (List.mem_of_getElem? ho);obtain⟨v,hv,hdv⟩:=hds.get he;cases h with
  | bp=>
   refine⟨v,?_,.d hdv⟩;have hcell:=hc j v hv
   simp[aIi,hu,asAddr,loadVar,ht.1,hcell]
inductive ResW(P:Program)(st:St):List ResultVar->AV->Prop where
 |one {x:ResultVar} {r:AV} (h:RVc P st x r):ResW P st [x] r
 |two {x y:ResultVar} {r s:AV} (h:RVc P st x r) (h2:RVc P st y s):ResW P st [x,y] (.tup [r,s])
 |three {x y z:ResultVar} {r s t:AV} (h:RVc P st x r) (h2:RVc P st y s) (h3:RVc P st z t):ResW P st [x,y,z] (.tup [r,s,t])
 |none:ResW P st [] (.tup [])
theorem aFr(fn:Func)(tmps:Array Value):results fn tmps=(do
  let vs<-fn.results.mapM (aIi tmps)
  pure (if h:vs.size=1 then vs[0] else .tuple vs)):=by
 unfold results;have:(λx:ResultVar=>aIi tmps x)=aIi tmps:=rfl
 congr 1
theorem aQf[Mode]{fn:Func}{rs:List ResultVar}(hr:fn.results=rs.toArray){P:Program}{st:St}{r:AV}(h:ResW P st rs r){A M:aS}{w0:W0}{n:Nat}{a:Act}{w:World}(hR:R A M w0 n st a w):
  ∃v,(results fn a.tmps).run P w=.ok v w/\VR w (aT A st.objs) r v:=by
 cases h with
 | one h=>
  obtain⟨v,h1,h2⟩:=h.run hR;refine⟨v,?_,h2⟩;rw[aFr,hr]
  simp[h1]
 | two h k=>
  obtain⟨v,h1,h2⟩:=h.run hR;obtain⟨u,k1,k2⟩:=k.run hR;refine⟨.tuple #[v,u],?_,.tup (us:=[_,_]) rfl λi hi=>by
    match i,hi with
    |0,_=>exact h2
    |1,_=>exact k2⟩
  rw[aFr,hr]
  simp[h1,k1]
 | three h k l=>
  obtain⟨v,h1,h2⟩:=h.run hR;obtain⟨u,k1,k2⟩:=k.run hR;obtain⟨x,l1,l2⟩:=l.run hR;refine⟨.tuple #[v,u,x],?_,.tup (us:=[_,_,_]) rfl λi hi=>by
    match i,hi with
    |0,_=>exact h2
    |1,_=>exact k2
    |2,_=>exact l2⟩
  rw[aFr,hr]
  simp[h1,k1,l1]
 | none=>
  refine⟨.tuple #[],?_,.tup (us:=[]) rfl λi hi=>by simp at hi⟩;rw[aFr,hr]
  simp
theorem iW[Mode]{P:Program}{f:FuncId}{fn:Func}{c:Code}{args:List AV}{objs:List MO}{Q:AV->List MO->Prop}(hf:P.funcs[f]?=some fn)(hb:fn.body=some c){rs:List ResultVar}(hr:fn.results=rs.toArray){n:Nat}(hn:fn.ntmps=n)(ha:args.length<=n)
  (h:Tr P n c ⟨entry args,objs⟩ (λe st=>e=.ret/\∃r0 objs' gone r,ResW P st rs r0/\st.objs.Perm (objs'++gone)/\BV gone r0 r/\Q r objs')):bC P f args objs Q:=by
 subst hn;intro A w vs hinv hA hvs;refine aKy hf hb ha h hinv hA hvs (λe st hq=>.inl hq.1) ?_;rintro e st a' w' ⟨rfl,r0,objs',gone,r,hres,hp,hbv,hq⟩ hR';obtain⟨v,hrun,hv⟩:=aQf hr hres hR';have hR1:R A (fJ objs) ⟨w,[],none⟩ 1 ⟨upd emp 0 r0,st.objs⟩ {tmps:= #[v],defers:=[]} w':=by
  refine⟨rfl,Marks.nil _ ⟨w,[],none⟩ _,λk=>?_,hR'.inv,hR'.keeps,hR'.own,hR'.old⟩;show VR _ _ (upd emp 0 r0 k) _
  by_cases hk:0=k
  ·subst hk;rw[fK];exact hv
  ·rw[lJ _ _ hk];exact .any _
 have hR2:=pC (env':=upd emp 0 r) hp (λk=>by
  by_cases hk:0=k
  ·subst hk;rw[fK,fK];exact hbv
  ·rw[lJ _ _ hk,lJ _ _ hk];exact .any _) A (fJ objs) ⟨w,[],none⟩ 1 _ w' hR1
 have hv2:VR w' (aT A objs') (upd emp 0 r 0) v:=hR2.env 0;rw[fK] at hv2;exact⟨v,hrun,v,r,objs',rfl,hR2.keeps,hR2.inv,hv2,hR2.own,hq⟩
theorem iE[Mode]{P:Program}{f:FuncId}{fn:Func}{c:Code}{args:List AV}{objs objs':List MO}{r:AV}(hf:P.funcs[f]?=some fn)(hb:fn.body=some c){rs:List ResultVar}(hr:fn.results=rs.toArray){n:Nat}(hn:fn.ntmps=n)(ha:args.length<=n)
  (h:Tr P n c ⟨entry args,objs⟩ (λe st=>e=.ret/\∃r0 gone,ResW P st rs r0/\st.objs.Perm (objs'++gone)/\BV gone r0 r)):bC P f args objs (λr' o=>r'=r/\o=objs'):=
 iW hf hb hr hn ha (rL h λe st ⟨h1,r0,gone,h2,h3,h4⟩=>⟨h1,r0,objs',gone,r,h2,h3,h4,rfl,rfl⟩)
theorem pD[Mode](e k:Nat){env:Nat->AV}{objs:List MO}:Ent ⟨env,objs⟩ ⟨env,objs++[.arr (.slice none 0 0) e k []]⟩:=by
 intro A M w0 n a w hR;exact hR.add (w':=w) (m:=.arr (.slice none 0 0) e k []) (Keeps.refl _ _) (λb o hf=>by simp[MO.foot,Value.ownBlock] at hf)
  (λhm=>⟨[],trivial,⟨by simp,.inl ⟨rfl,rfl⟩⟩,by simp⟩)
section
variable{P:Program}{n d:Nat}{st:St}{o:Oper}
theorem nJ[Mode]{c:Callee}{l:List Operand}{f:FuncId}{args args':List AV}{r:AV}{ts:Array TypeId}{ty:TypeId}{pos:String}{af:Array Edge}{gd:Option (Nat×Bool)}(hd:d<n)
  {a0:List AV}(hc:mD P st c l f a0)(ha:a0=args)(hok:iN l=true)(hb:BVs [] args args')(hf:Fn P f args' r):
  aM P n ⟨some d,.call {callee:=c,args:=l.toArray,argTypes:=ts},ty,pos,af,gd⟩ st (st.set d r):=by
 refine aIk hd hc ha hok ?_;intro A w vs hinv hA hvs;exact hf A w vs hinv hA (hb.sound (λm hm=>by simp at hm) (λ_ _ h=>h) (λm hm=>by simp at hm) hvs)
theorem cEo[Mode]{x y:AV}(hw:BV [] x y)(h:aM P n o st (st.set d x)):aM P n o st (st.set d y):=by
 intro A M w0 a w hR K Q hK;refine h A M w0 a w hR K Q ?_;rintro s a' w' rfl hR';refine hK _ _ _ rfl ?_;have:=pC (env:=upd st.env d x) (env':=upd st.env d y) (objs:=st.objs) (keepers:=st.objs) (gone:=[]) (by simp) (λk=>by
  by_cases hk:d=k
  ·subst hk;rw[fK,fK];exact hw
  ·rw[lJ _ _ hk,lJ _ _ hk];exact .same _)
 exact this A M w0 n a' w' hR'
end
theorem cAt[Mode]{env env':Nat->AV}{objs:List MO}(keepers gone:List MO)(ho:objs=keepers++gone)(h:BLe gone env env'):Ent ⟨env,objs⟩ ⟨env',keepers⟩:=pC (ho▸List.Perm.refl _) h
theorem cEu[Mode]{P:Program}{n:Nat}{c:Code}{Q:Exit->St->Prop}{env env':Nat->AV}{objs:List MO}(keepers gone:List MO)(ho:objs=keepers++gone)(h:BLe gone env env')(k:Tr P n c ⟨env',keepers⟩ Q):Tr P n c ⟨env,objs⟩ Q:=kA (cAt keepers gone ho h) k
theorem cAr{v:Value}{e k:Nat}{rows:List (List D)}(hk:∀r∈rows,r.length=k):DV [.arr v e k rows] (.lit v) (.sl k rows):=
 .arr v e k rows rows (by simp) rfl hk λ_ _ _ _=>.same _
theorem aYm[Mode]{A M:aS}{w0:W0}{n:Nat}{st:St}{a:Act}{w:World}(hR:R A M w0 n st a w){k:IntKind}:∀{l:List Operand} {ps:List Int},st.evals l=ps.map (λp=>.d (.lit (.int k p)))->l.map a.eval=ps.map (λp=>.int k p)
 |[],[],_=>rfl
 | x::l,p::ps,h=>by
  simp only[St.evals,List.map_cons,List.cons.injEq] at h|-;exact⟨hR.lit h.1,aYm hR h.2⟩
 |[],_::_,h=>by simp[St.evals] at h
 |_::_,[],h=>by simp[St.evals] at h
section
variable{P:Program}{n d:Nat}{st:St}
theorem bJf{k:IntKind}{w:World}:∀(ps:List Int) (p:Int),(List.foldlM Builtin.max2 (.int k p) (ps.map (λp=>Value.int k p))).run P w=.ok (.int k (ps.foldl max p)) w
 |[],p=>rfl
 | q::ps,p=>by
  have:(if q>p then q else p)=max p q:=by simp only[Int.max_def];split<;>split<;>omega
  simp[Builtin.max2,this,bJf ps]
theorem bUq[Mode]{x:Operand}{l:List Operand}{k:IntKind}{p:Int}(ps:List Int){ts:Array TypeId}{ty:TypeId}{pos:String}{af:Array Edge}{gd:Option (Nat×Bool)}(hd:d<n)
  (hx:st.eval x=.d (.lit (.int k p)))(hl:st.evals l=ps.map (λp=>.d (.lit (.int k p)))):
  aM P n ⟨some d,.call {callee:=.builtin .max,args:=(x::l).toArray,argTypes:=ts},ty,pos,af,gd⟩ st (st.set d (.d (.lit (.int k (ps.foldl max p))))):=
 gP rfl hd rfl λA M w0 a w hR=>by
  simp[execOp,resolve,hR.lit hx,aYm hR hl,invoke,builtin,Builtin.max_,bJf]
end
def cCs(Q:Exit->St->Prop):Prop:=∀l s,¬Q (.goto l) s
theorem bLt{P:Program}{b:Frame}{a:Act}{k:List Item}{cs:List Frame}{w:World}{c:Code}:step P (lone (b.atR a (.code (.scope c)::k)) cs w)=.next (lone (b.atR a (.code c:: .inScope c::k)) cs w):=
 step_lone_go (by simp[stepG,stepG.exec,Frame.atR])
theorem bFi{P:Program}{b:Frame}{a:Act}{k:List Item}{cs:List Frame}{w:World}{c:Code}:step P (lone (b.atR a (.inScope c::k)) cs w)=.next (lone (b.atR a k) cs w):=
 step_lone_go (by simp[stepG,stepG.exec,Frame.atR])
theorem aQo{F:Fence}{n:Nat}{P:Program}{a:Act}{w:World}{Q:Exit->Act->World->Prop}{c:Code}(h:c.wpIn F n P (Exit.noGoto Q) a w):(Code.scope c).wpIn F n P Q a w:=by
 intro b k cs hro hb hr;obtain⟨e,a₁,w₁,hq,harr⟩:=h b (.inScope c::k) cs hro hb hr;have s0:StepsIn (Machine.fenced P F) P (lone (b.atR a (.code (.scope c)::k)) cs w) (lone (b.atR a (.code c:: .inScope c::k)) cs w):=.one (fenced_calm (fr:=b.atR a (.code (.scope c)::k)) hb hr rfl) bLt;have harr:=ArrivesIn.of_steps s0 harr;cases e with
 |normal=>exact⟨.normal,a₁,w₁,hq,StepsIn.trans harr (.one (fenced_calm (fr:=b.atR a₁ (.inScope c::k)) hb hr rfl) bFi)⟩
 |goto l=>exact hq.elim
 |exit id=>exact⟨.exit id,a₁,w₁,hq,λk' hk=>harr.1 k' (by simp[exitTo,hk]),λhr hk=>harr.2 hr (by simp[exitTo,hk])⟩
 |ret=>exact⟨.ret,a₁,w₁,hq,harr⟩
 |panic ch=>exact⟨.panic ch,a₁,w₁,hq,harr⟩
 |outgrown=>exact⟨.outgrown,a₁,w₁,hq,harr⟩
theorem bYf[Mode]{P:Program}{n:Nat}{st:St}{c:Code}{Q:Exit->St->Prop}(hg:cCs Q)(h:Tr P n c st Q):Tr P n (.scope c) st Q:=by
 intro A M w0 a w hR hn;refine aQo (wpIn_mono (h A M w0 a w hR hn) ?_);rintro e a' w' ⟨st',hq,hR'⟩;cases e with
 |goto l=>exact absurd hq (hg l st')
 |_=>exact⟨st',hq,hR'⟩
section
variable{P:Program}{n d:Nat}{st:St}
end
end Go.Am
end
section
namespace Go.Am
def eW{α:Type}[DecidableEq α](a:α):List α->Option Nat
 |[]=>none
 |b::l=>bif decide (a=b) then some 0 else(eW a l).map (·+1)
structure mX(P:Program)(kt:TypeId){α:Type}[DecidableEq α](kv:α->Value):Prop where
 chk:∀b a w,(Instr.checkKey b 10000 kt (kv a)).run P w=.ok () w
 find:∀(a:α) (l:List α) (ms:List MapEntry) (w:World),ms.map (·.key)=l.map kv->
  (Instr.findKey kt (kv a) ms).run P w=.ok ((eW a l).bind λi=>(ms[i]?).map λe=>(i,e.val)) w
 stays:∀a w,(Instr.keyThatStays (kv a) (kv a)).run P w=.ok (kv a) w
 inj:∀a b,kv a=kv b->a=b
section
variable{P:Program}{n d:Nat}{st:St}
theorem aGj[Mode]{t:TypeId}{ty:TypeId}{pos:String}{af:Array Edge}{gd:Option (Nat×Bool)}(hd:d<n):
  Step P n ⟨some d,.makeMap t none,ty,pos,af,gd⟩ st (λs=>∃r,s=⟨upd st.env d (.d (.lit (.map (some r)))),st.objs++[.map r [] [] 0]⟩):=by
 intro A M w0 a w hR K Q hK;unfold Oper.wp;have hrun:(execOp a.eval ⟨some d,.makeMap t none,ty,pos,af,gd⟩).run P w=.ok (.value (.map (some w.heap.size))) (w.alloc (.map #[] 0)):=by
  simp[execOp,Instr.makeMap]
 rw[hrun,Oper.upon_value];refine hK _ _ _ ⟨w.heap.size,rfl⟩ ?_;have hR':=hR.add (w':=w.alloc (.map #[] 0)) (m:=.map w.heap.size [] [] 0) (Keeps.alloc _ _ _)
  (λb o hf=>by simp[MO.foot] at hf;omega)
  (λhmo=>⟨#[],heap_alloc_new w _,trivial,rfl,List.Pairwise.nil,λb hb=>by simp at hb⟩)
 exact hR'.put (o:=⟨some d,.makeMap t none,ty,pos,af,gd⟩) rfl hd (.of_lit rfl)
end
theorem aLx{P:Program}{kt:TypeId}{α:Type}[DecidableEq α]{kv:α->Value}(heq:∀a b w,(Op.equal kt (kv a) (kv b)).run P w=.ok (decide (a=b)) w){a:α}{w:World}:∀{l:List α} {ms:List MapEntry} {i:Nat},ms.map (·.key)=l.map kv->
  (Instr.findAsking kt (kv a) ms i).run P w=.ok ((eW a l).bind λj=>(ms[j]?).map λe=>(i+j,e.val)) w
 |[],[],i,_=>by simp[Instr.findAsking,eW]
 | b::l,m::ms,i,h=>by
  simp only[List.map_cons,List.cons.injEq] at h;have ih:=aLx heq (a:=a) (w:=w) (i:=i+1) h.2;simp only[Instr.findAsking,Sem.run_bind,h.1,heq a b w,Result.andThen_ok,eW]
  by_cases hab:a=b
  ·simp[hab]
  ·simp only[hab,decide_false,cond_false];simp only[Bool.false_eq_true,if_false];rw[ih];cases eW a l with
   |none=>rfl
   |some j=>simp[Nat.add_assoc,Nat.add_comm 1 j]
 |[],_::_,i,h=>by simp at h
 |_::_,[],i,h=>by simp at h
theorem aIy{P:Program}{kt:TypeId}{fs:Array Field}{α:Type}[DecidableEq α]{enc:α->List D}(hu:P.underlying kt=some (.struct fs))(he:aGs P kt enc)
  (hc:∀b a w,(Instr.checkKey b 10000 kt (.agg ((enc a).map bA).toArray)).run P w=.ok () w)(hs:∀a w,(Instr.keyThatStays (.agg ((enc a).map bA).toArray) (.agg ((enc a).map bA).toArray)).run P w=.ok (.agg ((enc a).map bA).toArray) w)
  (hi:∀a b,enc a=enc b->a=b)(hl:∀a,eG (enc a)=true):mX P kt (λa=>.agg ((enc a).map bA).toArray):=by
 have heq:∀a b w,(Op.equal kt (.agg ((enc a).map bA).toArray) (.agg ((enc b).map bA).toArray)).run P w=.ok (decide (a=b)) w:=λa b w=>he a b w;refine⟨hc,λa l ms w h=>?_,hs,λa b h=>?_⟩
 ·have hrun:=aLx (P:=P) (kt:=kt) (kv:=λa=>.agg ((enc a).map bA).toArray) heq (a:=a) (w:=w) (i:=0) h;have hnow:Instr.findNow (.struct fs) (.agg ((enc a).map bA).toArray) ms 0=none\/Instr.findNow (.struct fs) (.agg ((enc a).map bA).toArray) ms 0=some none/\ms=[]:=by
   cases ms with
   |nil=>exact .inr ⟨rfl,rfl⟩
   |cons m ms=>exact .inl (by simp[Instr.findNow,Instr.sameNow])
  rcases hnow with h1|⟨h1,rfl⟩
  ·simp only[Instr.findKey,Sem.run_bind,run_underlying hu,Result.andThen_ok,h1]
   simpa using hrun
  ·cases l with
   |nil=>simp[Instr.findKey,run_underlying hu,h1,eW]
   |cons=>simp at h
 ·have :=hl a;have:=hl b;have key:∀(x y:List D),eG x=true->eG y=true->x.map bA=y.map bA->x=y:=by
   intro x
   induction x with
   | nil=>intro y _ _ h;cases y with
    |nil=>rfl
    |cons=>simp at h
   | cons d x ih=>
    intro y h1 h2 h;cases y with
    |nil=>simp at h
    | cons e y=>
     cases d with
     |sl=>simp[eG] at h1
     |sn=>simp[eG] at h1
     |mp=>simp[eG] at h1
     |pt=>simp[eG] at h1
     |hv=>simp[eG] at h1
     |fc=>simp[eG] at h1
     | lit v=>
      cases e with
      |sl=>simp[eG] at h2
      |sn=>simp[eG] at h2
      |mp=>simp[eG] at h2
      |pt=>simp[eG] at h2
      |hv=>simp[eG] at h2
      |fc=>simp[eG] at h2
      | lit u=>
       simp only[List.map_cons,List.cons.injEq,bA] at h;rw[h.1,ih y (by simpa[eG] using h1) (by simpa[eG] using h2) h.2]
  exact hi a b (key _ _ (hl a) (hl b) (by simpa using h))
def cE{α β:Type}[DecidableEq α](a:α)(z:β):List (α×β)->β
 |[]=>z
 |(b,v)::l=>bif decide (a=b) then v else cE a z l
def eM{α β:Type}[DecidableEq α](a:α)(v:β):List (α×β)->List (α×β)
 |[]=>[(a,v)]
 |(b,u)::l=>bif decide (a=b) then(b,v)::l else(b,u)::eM a v l
def cI{α β:Type}[DecidableEq α](a:α):List (α×β)->Bool
 |[]=>false
 |(b,_)::l=>decide (a=b)||cI a l
theorem MRs.keys{w:World}{X:aS}:∀{es:List (Value×AV)} {ms:List MapEntry},MRs w X es ms->ms.map (·.key)=es.map (·.1)
 |[],[],_=>rfl
 |(_,_)::_,_::_,h=>by simp[h.1,MRs.keys h.2.2]
theorem MRs.get{w:World}{X:aS}:∀{es:List (Value×AV)} {ms:List MapEntry},MRs w X es ms->∀{j:Nat} {e:Value×AV},es[j]?=some e->∃m,ms[j]?=some m/\VR w X e.2 m.val
 |[],[],_,j,e,h=>by simp at h
 |(_,_)::_,m::_,h,0,e,he=>by simp at he;subst he;exact⟨m,rfl,h.2.1⟩
 |(_,_)::_,m::_,h,j+1,e,he=>by simpa using MRs.get h.2.2 (j:=j) (by simpa using he)
theorem vN{α β:Type}[DecidableEq α](a:α)(z:β):∀(l:List (α×β)),(eW a (l.map (·.1))=none/\cE a z l=z)\/∃j p,eW a (l.map (·.1))=some j/\l[j]?=some p/\cE a z l=p.2/\p.1=a
 |[]=>.inl ⟨rfl,rfl⟩
 | (b,v)::l=>by
  simp only[List.map_cons,eW,cE]
  by_cases hab:a=b
  ·exact .inr ⟨0,(b,v),by simp[hab],rfl,by simp[hab],hab.symm⟩
  ·rcases vN a z l with⟨h1,h2⟩|⟨j,p,h1,h2,h3,h4⟩
   ·exact .inl ⟨by simp[hab,h1],by simp[hab,h2]⟩
   ·exact .inr ⟨j+1,p,by simp[hab,h1],by simpa using h2,by simp[hab,h3],h4⟩
section
variable{P:Program}{n d:Nat}{st:St}
theorem eS{w:World}{r:Nat}{ms:Array MapEntry}{clock:Nat}(h:w.heap[r]?=some (.map ms clock)):(getObj r).run P w=.ok (.map ms clock) w:=by simp[getObj,Sem.run,h]
def uB{α:Type}(kv:α->Value)(x:AV)(a:α):Prop:=∀w X u,VR w X x u->u=kv a
theorem aWv[Mode]{t kt et:TypeId}{α β:Type}[DecidableEq α]{kv:α->Value}{av:β->AV}{l:List (α×β)}{z:β}{zv:Value}{a:α}{x y:Operand}{r m:Nat}{bs:List Nat}{clock:Nat}{ty:TypeId}{pos:String}{af:Array Edge}{gd:Option (Nat×Bool)}(hd:d<n)
  (hk:mX P kt kv)(ht:P.underlying t=some (.map kt et))(hz:∀w,(zeroValue et).run P w=.ok zv w)(hzv:∀w X,VR w X (av z) zv)
  (hx:st.eval x=.d (.lit (.map (some r))))(ho:st.objs[m]?=some (.map r (l.map λp=>(kv p.1,av p.2)) bs clock))(hyk:cD y=true){yv:AV}(hyv:st.eval y=yv)(hy:uB kv yv a):
  aM P n ⟨some d,.lookup t x y false,ty,pos,af,gd⟩ st (st.set d (av (cE a z l))):=
 bZ rfl hd λA M w0 ac w hR=>by
  obtain⟨ms,hh,hms,_⟩:=hR.inv.holds _ (List.mem_of_getElem? ho);have hkey:=hy _ _ _ (hyv▸hR.eval' hyk);have hkeys:ms.toList.map (·.key)=(l.map (·.1)).map kv:=by rw[hms.keys];simp
  have hf:=hk.find a (l.map (·.1)) ms.toList w hkeys
  rcases vN a z l with⟨h1,h2⟩|⟨j,p,h1,h2,h3,h4⟩
  ·refine⟨zv,?_,by rw[h2];exact hzv _ _⟩
   simp[execOp,hR.lit hx,hkey,Instr.lookup,run_underlying ht,eS hh,hk.chk,hf,h1,hz]
  ·obtain⟨e,he,hv⟩:=hms.get (j:=j) (e:=(kv p.1,av p.2)) (by simp[h2]);refine⟨e.val,?_,by rw[h3];exact hv⟩;simp only[Array.getElem?_toList] at he
   simp[execOp,hR.lit hx,hkey,Instr.lookup,run_underlying ht,eS hh,hk.chk,hf,h1,he]
end
def tV{α β:Type}[DecidableEq α](a:α)(z:β)(l:List (α×β)):List (α×β):=bif cI a l then l else l++[(a,z)]
def mbs{α β:Type}[DecidableEq α](a:α)(l:List (α×β))(bs:List Nat)(clock:Nat):List Nat:=bif cI a l then bs else bs++[clock]
def mck{α β:Type}[DecidableEq α](a:α)(l:List (α×β))(clock:Nat):Nat:=bif cI a l then clock else clock+1
def wT{α β:Type}[DecidableEq α](a:α)(l:List (α×β))(bs:List Nat)(clock:Nat):Nat:=match eW a (l.map (·.1)) with|some j=>bs.getD j 0|none=>clock
theorem pN{α β:Type}[DecidableEq α](a:α):∀(l:List (α×β)),cI a l=(eW a (l.map (·.1))).isSome
 |[]=>rfl
 | (b,v)::l=>by
  simp only[cI,List.map_cons,eW,pN a l]
  by_cases hab:a=b<;>simp[hab]
theorem Keeps.setObj[Mode](w:World)(r:Nat)(o:Obj):Keeps (λb _=>b=r) w {w with heap:=w.heap.setIfInBounds r o}:=by
 have hb:∀b,b≠r->(w.heap.setIfInBounds r o)[b]?=w.heap[b]?:=λb h=>Array.getElem?_setIfInBounds_ne (Ne.symm h);exact⟨rfl,rfl,rfl,by simp,λb _ h=>hb b (h 0),λb o _ h=>World.cell?_of_block (hb b h),λb o _ h=>World.frozen?_of_block (hb b h),λ_=>Nat.le_refl _⟩
section
variable{P:Program}{n d:Nat}{st:St}
theorem qM{w:World}{r:Nat}{es:Array MapEntry}{clock:Nat}(o:Obj)(hb:w.heap[r]?=some (.map es clock)):(setObj r o).run P w=.ok () {w with heap:=w.heap.setIfInBounds r o}:=by
 simp[setObj,Sem.run,hb]
theorem MRs.snoc{w:World}{X:aS}:∀{es:List (Value×AV)} {ms:List MapEntry} {k:Value} {x:AV} {m:MapEntry},MRs w X es ms->m.key=k->VR w X x m.val->MRs w X (es++[(k,x)]) (ms++[m])
 |[],[],_,_,_,_,h1,h2=>⟨h1,h2,trivial⟩
 |(_,_)::_,_::_,_,_,_,h,h1,h2=>⟨h.1,h.2.1,MRs.snoc h.2.2 h1 h2⟩
theorem bQq[Mode]{t kt et:TypeId}{α β:Type}[DecidableEq α]{kv:α->Value}{av:β->AV}{l:List (α×β)}{z:β}{zv:Value}{a:α}{x y:Operand}{r m:Nat}{bs:List Nat}{clock:Nat}{ty:TypeId}{pos:String}{af:Array Edge}{gd:Option (Nat×Bool)}(hd:d<n)
  (hk:mX P kt kv)(ht:P.underlying t=some (.map kt et))(hz:∀w,(zeroValue et).run P w=.ok zv w)(hzv:∀w X,VR w X (av z) zv)
  (hx:st.eval x=.d (.lit (.map (some r))))(ho:st.objs[m]?=some (.map r (l.map λp=>(kv p.1,av p.2)) bs clock))(hyk:cD y=true){yv:AV}(hyv:st.eval y=yv)(hy:uB kv yv a):
  aM P n ⟨some d,.mapEntry t x y,ty,pos,af,gd⟩ st ⟨upd st.env d (.tup [av (cE a z l),.d (.lit (.int .i64 (wT a l bs clock)))]),st.objs.set m (.map r ((tV a z l).map λp=>(kv p.1,av p.2)) (mbs a l bs clock) (mck a l clock))⟩:=by
 intro A M w0 ac w hR K Q hK;obtain⟨ms,hh,hms,hb1,hb2,hb3⟩:=hR.inv.holds _ (List.mem_of_getElem? ho);have hkey:=hy _ _ _ (hyv▸hR.eval' hyk);have hkeys:ms.toList.map (·.key)=(l.map (·.1)).map kv:=by rw[hms.keys];simp
 have hf:=hk.find a (l.map (·.1)) ms.toList w hkeys;have hrl:r<w.heap.size:=(Array.getElem?_eq_some_iff.1 hh).1;unfold Oper.wp
 rcases vN a z l with⟨h1,h2⟩|⟨j,p,h1,h2,h3,h4⟩
 ·have hhas:cI a l=false:=by rw[pN,h1];rfl
  have hrun:(execOp ac.eval ⟨some d,.mapEntry t x y,ty,pos,af,gd⟩).run P w=.ok (.value (.tuple #[zv,.int .i64 clock])) {w with heap:=w.heap.setIfInBounds r (.map (ms.push {key:=kv a,val:=zv,born:=clock}) (clock+1))}:=by
   simp[execOp,hR.lit hx,hkey,Instr.mapEntry,run_underlying ht,eS hh,hk.chk,hf,h1,hz,qM _ hh,goInt]
  rw [hrun,Oper.upon_value];refine hK _ _ _ rfl ?_;have hR':=hR.replace (w':={w with heap:=w.heap.setIfInBounds r (.map (ms.push {key:=kv a,val:=zv,born:=clock}) (clock+1))}) (m':=.map r ((tV a z l).map λp=>(kv p.1,av p.2)) (mbs a l bs clock) (mck a l clock)) ho
   (Keeps.setObj w r _) (λb o hb=>by subst hb;rfl) (λb o hf=>.inl hf) λhmono=>by
    refine⟨ms.push {key:=kv a,val:=zv,born:=clock},?_,?_,?_,?_,?_⟩
    ·simp[hrl,mck,hhas]
    ·have hm2:=hms.mono hmono
     revert hm2
     generalize aT A (st.objs.set m (.map r ((tV a z l).map λp=>(kv p.1,av p.2)) (mbs a l bs clock) (mck a l clock)))=Z
     intro hm2;simp only[tV,hhas,cond_false,List.map_append,Array.toList_push];exact MRs.snoc hm2 rfl (hzv _ _)
    ·simp[mbs,hhas,hb1]
    ·simp only[mbs,hhas,cond_false];exact List.pairwise_append.2 ⟨hb2,by simp,λx hx y hy=>by simp at hy;subst hy;exact hb3 x hx⟩
    ·simp only[mbs,hhas,cond_false,mck];intro b hb
     rcases List.mem_append.1 hb with h|h
     ·have:=hb3 b h;omega
     ·simp at h;omega
  have e:wT a l bs clock=clock:=by simp[wT,h1]
  rw[h2,e];exact hR'.put (o:=⟨some d,.mapEntry t x y,ty,pos,af,gd⟩) rfl hd (.tup (us:=[_,_]) rfl λi hi=>by
   match i,hi with
   |0,_=>exact hzv _ _
   |1,_=>exact .d (.lit _ rfl))
 ·have hhas:cI a l=true:=by rw[pN,h1];rfl
  obtain⟨e,he,hv⟩:=hms.get (j:=j) (e:=(kv p.1,av p.2)) (by simp[h2]);have he':ms[j]?=some e:=by simpa using he
  have hke:e.key=kv a:=by
   have:=congrArg (λq=>q[j]?) hkeys
   simp[he',h2,h4] at this
   exact this
  have hmod:ms.modify j (λe=>{e with key:=kv a})=ms:=by
   apply Array.ext_getElem?;intro q;rw[Array.getElem?_modify]
   split
   ·rename_i hq;subst hq;rw[he'];simp[<-hke]
   ·rfl
  have hset:w.heap.setIfInBounds r (.map ms clock)=w.heap:=by
   apply Array.ext_getElem?;intro q;rw[Array.getElem?_setIfInBounds]
   split
   ·rename_i hq;cases hq;rw[hh]
   ·rfl
  have hrun:(execOp ac.eval ⟨some d,.mapEntry t x y,ty,pos,af,gd⟩).run P w=.ok (.value (.tuple #[e.val,.int .i64 e.born])) w:=by
   simp[execOp,hR.lit hx,hkey,Instr.mapEntry,run_underlying ht,eS hh,hk.chk,hf,h1,he',hke,hk.stays,hmod,qM _ hh,goInt,hset]
  rw[hrun,Oper.upon_value];refine hK _ _ _ rfl ?_;have e1:wT a l bs clock=e.born:=by simp[wT,h1,<-hb1,List.getD,he]
  have e2:st.objs.set m (.map r ((tV a z l).map λp=>(kv p.1,av p.2)) (mbs a l bs clock) (mck a l clock))=st.objs:=by
   simp only[tV,mbs,mck,hhas,cond_true];apply List.ext_getElem?;intro q;rw[List.getElem?_set]
   split
   ·rename_i hq;subst hq;rw[ho];simp;have:=(List.getElem?_eq_some_iff.1 ho).1;omega
   ·rfl
  rw[h3,e1,e2];exact hR.put (o:=⟨some d,.mapEntry t x y,ty,pos,af,gd⟩) rfl hd (.tup (us:=[_,_]) rfl λi hi=>by
   match i,hi with
   |0,_=>exact hv
   |1,_=>exact .d (.lit _ rfl))
end
theorem aYx{α:Type}[DecidableEq α](a:α):∀(l:List α),eW a l=none->eW a (l++[a])=some l.length
 |[],_=>by simp[eW]
 | b::l,h=>by
  simp only[eW] at h
  by_cases hab:a=b
  ·simp[hab] at h
  ·simp[hab] at h
   simp[eW,hab,aYx a l h]
theorem bTh{α β:Type}[DecidableEq α](a:α)(z:β)(l:List (α×β))(bs:List Nat)(clock:Nat)(hl:bs.length=l.length):
  ∃j,eW a ((tV a z l).map (·.1))=some j/\(mbs a l bs clock)[j]?=some (wT a l bs clock):=by
 cases h:eW a (l.map (·.1)) with
 | none=>
  have hh:cI a l=false:=by rw[pN,h];rfl
  refine⟨l.length,?_,?_⟩
  ·simp only[tV,hh,cond_false,List.map_append,List.map_cons,List.map_nil];have:=aYx a _ h
   simpa using this
  ·simp[mbs,hh,wT,h,<-hl]
 | some j=>
  have hh:cI a l=true:=by rw[pN,h];rfl
  refine⟨j,by simp[tV,hh,h],?_⟩
  rcases vN a z l with⟨h1,_⟩|⟨j',p,h1,h2,_⟩
  ·rw[h] at h1;cases h1
  ·rw[h] at h1;cases h1;have hj:=(List.getElem?_eq_some_iff.1 h2).1
   simp[mbs,hh,wT,h,List.getD,List.getElem?_eq_getElem (show j<bs.length by omega)]
theorem bBv{α β:Type}[DecidableEq α](a:α)(v:β):∀(l:List (α×β)) (j:Nat),eW a (l.map (·.1))=some j->eM a v l=l.set j (a,v)
 |[],j,h=>by simp[eW] at h
 | (b,u)::l,j,h=>by
  simp only[List.map_cons,eW] at h
  by_cases hab:a=b
  ·simp[hab] at h;subst h;simp[eM,hab]
  ·simp[hab] at h
   obtain⟨i,hi,rfl⟩:=h
   simp[eM,hab,bBv a v l i hi]
theorem bTk{α β:Type}[DecidableEq α](a:α)(v z:β)(l:List (α×β)):eM a v (tV a z l)=eM a v l:=by
 cases h:cI a l with
 |true=>simp[tV,h]
 | false=>
  simp only[tV,h,cond_false]
  induction l with
  |nil=>simp[eM]
  | cons p l ih=>
   obtain⟨b,u⟩:=p;simp only[cI,Bool.or_eq_false_iff,decide_eq_false_iff_not] at h
   simp[eM,h.1,ih h.2]
theorem MRs.set{w:World}{X:aS}:∀{es:List (Value×AV)} {ms:List MapEntry} {j:Nat} {k:Value} {x:AV} {u:Value},MRs w X es ms->(es[j]?).map (·.1)=some k->VR w X x u->
  MRs w X (es.set j (k,x)) (ms.modify j λe=>{e with val:=u})
 |[],[],_,_,_,_,_,_,_=>by simp;trivial
 | (k0,x0)::es,m::ms,0,k,x,u,h,hk,hv=>by
  simp at hk;subst hk
  simp only[List.set_cons_zero,List.modify_zero_cons];exact⟨h.1,hv,h.2.2⟩
 | (k0,x0)::es,m::ms,j+1,k,x,u,h,hk,hv=>by
  simp only[List.set_cons_succ,List.modify_succ_cons];exact⟨h.1,h.2.1,MRs.set h.2.2 (by simpa using hk) hv⟩
section
variable{P:Program}{n d:Nat}{st:St}
theorem bJh[Mode]{t:TypeId}{α β:Type}[DecidableEq α]{kv:α->Value}{av:β->AV}{l:List (α×β)}{v:β}{a:α}{x y q:Operand}{r m j:Nat}{bs:List Nat}{clock b:Nat}{ty:TypeId}{pos:String}{af:Array Edge}{gd:Option (Nat×Bool)}
  (hx:st.eval x=.d (.lit (.map (some r))))(ho:st.objs[m]?=some (.map r (l.map λp=>(kv p.1,av p.2)) bs clock))(hq:st.eval q=.d (.lit (.int .i64 b)))
  (hyk:cD y=true)(hy:st.eval y=av v)(hj:eW a (l.map (·.1))=some j)(hb:bs[j]?=some b):
  aM P n ⟨none,.entryStore t x q y,ty,pos,af,gd⟩ st ⟨st.env,st.objs.set m (.map r ((eM a v l).map λp=>(kv p.1,av p.2)) bs clock)⟩:=by
 intro A M w0 ac w hR K Q hK;obtain⟨ms,hh,hms,hb1,hb2,hb3⟩:=hR.inv.holds _ (List.mem_of_getElem? ho);have hv:=hR.eval' hyk;rw[hy] at hv;have hrl:r<w.heap.size:=(Array.getElem?_eq_some_iff.1 hh).1;have hjl:(l[j]?).map (·.1)=some a:=by
  clear hb hb1 hb2 hb3 hms ho hK
  induction l generalizing j with
  |nil=>simp[eW] at hj
  | cons p l ih=>
   simp only[List.map_cons,eW] at hj
   by_cases hab:a=p.1
   ·simp[hab] at hj;subst hj;simp[hab]
   ·simp[hab] at hj
    obtain⟨i,hi,rfl⟩:=hj
    simpa using ih hi
 have hmj:(ms.toList[j]?).map (·.born)=some b:=by rw[<-hb1] at hb;simpa using hb
 have hfind:ms.findIdx? (λe=>(e.born:Int)==b)=some j:=by
  have hjm:j<ms.size:=by
   rw[Array.getElem?_toList] at hmj;cases h:ms[j]? with
   |none=>rw[h] at hmj;simp at hmj
   |some e=>exact(Array.getElem?_eq_some_iff.1 h).1
  rw[Array.findIdx?_eq_some_iff_findIdx_eq];refine⟨hjm,?_⟩;rw[Array.findIdx_eq hjm];have hbj:ms[j].born=b:=by
   rw[Array.getElem?_toList,Array.getElem?_eq_getElem hjm] at hmj
   simpa using hmj
  refine⟨by simp[hbj],λi hi=>?_⟩;have hpw:=List.pairwise_iff_getElem.1 hb2;have h1:i<bs.length:=by rw[<-hb1];simp;omega
  have h2:j<bs.length:=by rw[<-hb1];simp;omega
  have:=hpw i j h1 h2 hi;have e1:bs[i]=ms[i].born:=by simp[<-hb1]
  have e2:bs[j]=ms[j].born:=by simp[<-hb1]
  rw[e1,e2,hbj] at this
  simp;omega
 unfold Oper.wp;have hrun:(execOp ac.eval ⟨none,.entryStore t x q y,ty,pos,af,gd⟩).run P w=.ok .skip {w with heap:=w.heap.setIfInBounds r (.map (ms.modify j λe=>{e with val:=ac.eval y}) clock)}:=by
  simp[execOp,hR.lit hx,hR.lit hq,Instr.entryStore,eS hh,asInt,asIntOf,hfind,qM _ hh]
 rw [hrun,Oper.upon_skip];refine hK _ _ _ rfl ?_;have hR':=hR.replace (w':={w with heap:=w.heap.setIfInBounds r (.map (ms.modify j λe=>{e with val:=ac.eval y}) clock)}) (m':=.map r ((eM a v l).map λp=>(kv p.1,av p.2)) bs clock) ho
  (Keeps.setObj w r _) (λb o hb=>by subst hb;rfl) (λb o hf=>.inl hf) λhmono=>by
   refine⟨ms.modify j λe=>{e with val:=ac.eval y},by simp[hrl],?_,?_,hb2,hb3⟩
   ·have hm2:=hms.mono hmono;have hv2:=hv.mono hmono
    revert hm2 hv2
    generalize aT A (st.objs.set m (.map r ((eM a v l).map λp=>(kv p.1,av p.2)) bs clock))=Z
    intro hm2 hv2;rw[bBv a v l j hj,List.map_set,Array.toList_modify];refine MRs.set hm2 ?_ hv2;simp only[List.getElem?_map,Option.map_map];cases hl:l[j]? with
    |none=>rw[hl] at hjl;cases hjl
    |some p=>rw[hl] at hjl;simp at hjl|-;rw[hjl]
   ·rw[<-hb1,Array.toList_modify];apply List.ext_getElem?;intro i;simp only[List.getElem?_map,List.getElem?_modify];cases ms.toList[i]? with
    |none=>simp
    |some e=>simp;split<;>rfl
 exact hR'.put_none rfl
end
def bIt:Value->Bool
 | .int _ _| .bool _| .string _=>true
 |_=>false
theorem bCo(n:Nat)(v:Value)(h:bIt v=true):Instr.sameBits n v v=true:=by
 have hs:∀s:ByteArray,(s==s)=true:=λs=>by
  obtain⟨d⟩:=s;show(d==d)=true
  simp
 cases n<;>cases v<;>simp_all[Instr.sameBits,bIt]
theorem aWb(vs:List Value)(h:vs.all bIt=true)(P:Program)(w:World):(Instr.keyThatStays (.agg vs.toArray) (.agg vs.toArray)).run P w=.ok (.agg vs.toArray) w:=by
 have:Instr.sameBits 10000 (.agg vs.toArray) (.agg vs.toArray)=true:=by
  rw[show(10000:Nat)=9999+1 from rfl];simp only[Instr.sameBits,BEq.rfl,Bool.true_and]
  generalize(9999:Nat)=n
  induction vs with
  |nil=>rfl
  | cons v vs ih=>
   simp only[List.all_cons,Bool.and_eq_true] at h;have:=ih h.2
   simp_all[bCo n v h.1]
 simp[Instr.keyThatStays,this]
theorem bWo(k:IntKind)(a:Int)(P:Program)(w:World):(Instr.keyThatStays (.int k a) (.int k a)).run P w=.ok (.int k a) w:=by
 simp[Instr.keyThatStays,Instr.sameBits]
theorem aUt{k:IntKind}(a:Int):∀(l:List Int) (ms:List MapEntry) (i:Nat),ms.map (·.key)=l.map (λn=>Value.int k n)->
  Instr.findNow (.int k) (.int k a) ms i=some ((eW a l).bind λj=>(ms[j]?).map λe=>(i+j,e.val))
 |[],[],_,_=>by simp[Instr.findNow,eW]
 | b::l,m::ms,i,h=>by
  simp only[List.map_cons,List.cons.injEq] at h;simp only[Instr.findNow,h.1,Instr.sameNow,if_true,eW];have ih:=aUt (k:=k) a l ms (i+1) h.2
  by_cases hab:a=b
  ·simp[hab]
  ·have e:(a==b)=false:=by simpa using hab
   simp only[e,hab,decide_false,cond_false];rw[ih];cases eW a l with
   |none=>rfl
   |some j=>simp[Nat.add_assoc,Nat.add_comm 1 j]
 |[],_::_,_,h=>by simp at h
 |_::_,[],_,h=>by simp at h
theorem bSu{P:Program}{kt:TypeId}{k:IntKind}(hu:P.underlying kt=some (.int k)):mX P kt (λn:Int=>.int k n) where
 chk b a w:=by
  rw[show(10000:Nat)=9999+1 from rfl]
  generalize(9999:Nat)=m
  simp only[Instr.checkKey,Sem.run_bind,run_underlying hu,Result.andThen_ok]
  rfl
 find a l ms w h:=by simp[Instr.findKey,run_underlying hu,aUt a l ms 0 h]
 stays a w:=bWo k a P w
 inj a b h:=by simpa using h
theorem bTi{α β:Type}[DecidableEq α](a:α)(z:β)(l:List (α×β)):cE a z (tV a z l)=cE a z l:=by
 cases h:cI a l with
 |true=>simp[tV,h]
 | false=>
  simp only[tV,h,cond_false]
  induction l with
  |nil=>simp[cE]
  | cons p l ih=>
   obtain⟨b,u⟩:=p;simp only[cI,Bool.or_eq_false_iff,decide_eq_false_iff_not] at h
   simp[cE,h.1,ih h.2]
theorem mO{α:Type}{enc:α->List D}(a:α)(hl:eG (enc a)=true):uB (λa=>.agg ((enc a).map bA).toArray) (.agg (enc a)) a:=by
 intro w X u h;cases h with
 | agg h=>
  rename_i cs
  have:=aOa hl h;have:cs=((enc a).map bA).toArray:=by rw[<-this]
  rw[this]
theorem aGe{α:Type}{kv:α->Value}(a:α):uB kv (.d (.lit (kv a))) a:=λ_ _ _ h=>h.lit
theorem og2{S:Nat->Bool}{objs:List MO}{i e:Nat}{m m':MO}(h:objs[i]?=some (xS S [(e,m')] m)):objs[i]?=some m\/objs[i]?=some m':=by
 rw[h];simp only[xS];cases S e<;>simp
section
variable{P:Program}{n d:Nat}{st:St}
theorem bUp[Mode]{t kt et:TypeId}{α β:Type}[DecidableEq α]{kv:α->Value}{av:β->AV}{l:List (α×β)}{z:β}{zv:Value}{a:α}{x y:Operand}{r m:Nat}{bs bs':List Nat}{clock clock':Nat}{ty:TypeId}{pos:String}{af:Array Edge}{gd:Option (Nat×Bool)}(hd:d<n)
  (hk:mX P kt kv)(ht:P.underlying t=some (.map kt et))(hz:∀w,(zeroValue et).run P w=.ok zv w)(hzv:∀w X,VR w X (av z) zv)
  (hx:st.eval x=.d (.lit (.map (some r))))(ho:st.objs[m]?=some (.map r (l.map λp=>(kv p.1,av p.2)) bs clock)\/st.objs[m]?=some (.map r ((tV a z l).map λp=>(kv p.1,av p.2)) bs' clock'))
  (hyk:cD y=true){yv:AV}(hyv:st.eval y=yv)(hy:uB kv yv a):
  aM P n ⟨some d,.lookup t x y false,ty,pos,af,gd⟩ st (st.set d (av (cE a z l))):=by
 rcases ho with ho|ho
 ·exact aWv hd hk ht hz hzv hx ho hyk hyv hy
 ·rw[<-bTi];exact aWv hd hk ht hz hzv hx ho hyk hyv hy
theorem bFg[Mode]{t:TypeId}{α β:Type}[DecidableEq α]{kv:α->Value}{av:β->AV}{l:List (α×β)}{z v:β}{a:α}{x y q:Operand}{r m:Nat}{bs:List Nat}{clock clock':Nat}{ty:TypeId}{pos:String}{af:Array Edge}{gd:Option (Nat×Bool)}
  (hx:st.eval x=.d (.lit (.map (some r))))(ho:st.objs[m]?=some (.map r ((tV a z l).map λp=>(kv p.1,av p.2)) (mbs a l bs clock) clock'))(hq:st.eval q=.d (.lit (.int .i64 (wT a l bs clock))))
  (hyk:cD y=true)(hy:st.eval y=av v):
  aM P n ⟨none,.entryStore t x q y,ty,pos,af,gd⟩ st ⟨st.env,st.objs.set m (.map r ((eM a v l).map λp=>(kv p.1,av p.2)) (mbs a l bs clock) clock')⟩:=by
 intro A M w0 ac w hR K Q hK;obtain⟨ms,hh,hms,hb1,_⟩:=hR.inv.holds _ (List.mem_of_getElem? ho);have hlen:bs.length=l.length:=by
  have h1:(mbs a l bs clock).length=(tV a z l).length:=by
   rw[<-hb1];have:=congrArg List.length hms.keys
   simpa using this
  cases h:cI a l<;>simpa[mbs,tV,h] using h1
 obtain⟨j,hj,hb⟩:=bTh a z l bs clock hlen;have:=bJh (P:=P) (n:=n) (t:=t) (ty:=ty) (pos:=pos) (af:=af) (gd:=gd) hx ho hq hyk hy hj hb;rw[bTk] at this;exact this A M w0 ac w hR K Q hK
end
end Go.Am
end
end
section
section
namespace Go.Am
section
variable{P:Program}{n d:Nat}{st:St}{o:Oper}
theorem bXs[Mode]{t e k len bytes:Nat}{z:Value}{l:List (Nat×Operand)}{rows:List (List D)}{ty:TypeId}{pos:String}{af:Array Edge}{gd:Option (Nat×Bool)}(hd:d<n)
  (ht:SliceTy P t e k bytes z)(hp:xH l=true){ps:List (Nat×AV)}(hps:st.parts l=ps)(hr:rT 0 ps=some rows)(hk:∀r∈rows,r.length=k)
  (hl:rows.length=len)(hb:len*k<=16777216):aM P n ⟨some d,.buildSlice t len l.toArray,ty,pos,af,gd⟩ st (st.set d (.fl true k rows)):=by
 replace hps:=hps.symm;subst hps
 intro A M w0 a w hR K Q hK;obtain⟨vs,hrun,hds⟩:=aFb (P:=P) ht.of ht.zero ht.size (w:=w) (aCj hR hp) hr hk hl hb;unfold Oper.wp;have hrun':(execOp a.eval ⟨some d,.buildSlice t len l.toArray,ty,pos,af,gd⟩).run P w=.ok (.value (.slice (some ⟨w.heap.size,0,none⟩) len len)) (w.alloc (.cells vs.toArray e)):=by
  simp only[execOp,Sem.run_bind,List.map_toArray];rw[hrun]
  rfl
 rw[hrun',Oper.upon_value];refine hK _ _ _ rfl ?_;have hR':R A M w0 n ⟨st.env,st.objs⟩ a (w.alloc (.cells vs.toArray e)):=hR.change (Keeps.alloc (λ_ _=>False) _ _) (λ_ _ h=>h.elim) (λ_ _ _ h=>h) hR.inv.sep λhm m hmm=>
  bW (hR.inv.holds m hmm) (Keeps.alloc (λ_ _=>False) _ _) (λ_ _ _ h=>h) hm
 refine hR'.put (o:=⟨some d,.buildSlice t len l.toArray,ty,pos,af,gd⟩) rfl hd ?_;subst hl;have hm:Mono w (aT A st.objs) (w.alloc (.cells vs.toArray e)) (aT A st.objs):=lO (Keeps.alloc (λ_ _=>False) _ _) (λ_ _ h=>h.elim) (λ_ _ _ h=>h);refine .fl (DR.of_flat hk (hds.mono hm) (λj v hj=>by rw[World.cell?_alloc_new];simpa using hj) (λj hj hx=>?_) (Nat.le_refl _) (by
  have:=Nat.le_mul_of_pos_right rows.length ht.pos;simp only[maxLen];omega)) (.inr ⟨_,_,rfl⟩) (λ_ h=>by cases h)
 exact aDg hR _ hx
theorem bRs[Mode]{t e k bytes:Nat}{z:Value}(ht:SliceTy P t e k bytes z){A M:aS}{w0:W0}{a:Act}{w:World}(hR:R A M w0 n st a w){nn:Bool}{v u:Value}{rows rows2:List (List D)}
  (hv:VR w (aT A st.objs) (.fl nn k rows) v)(hu:DR w (aT A st.objs) (.sl k rows2) u)(hk1:∀r∈rows,r.length=k)(hk2:∀r∈rows2,r.length=k)(hb:(rows.length+rows2.length)*bytes<=140737488355328)(hby:0<bytes)(ty:TypeId):
  ∃v' w',(Builtin.append_ #[t,t] ty #[v,u]).run P w=.ok v' w'/\R A M w0 n st a w'/\DR w' (aT A st.objs) (.sl k (rows++rows2)) v'/\(nn=true->v'≠.slice none 0 0):=by
 cases hv with
 |fl hv hc hn=>
 obtain⟨inf,hi,hz,hs,hbs⟩:=ht.inf;subst hs;subst hbs;have hn63:rows.length+rows2.length<=maxLen:=by
  have:=Nat.le_mul_of_pos_right (rows.length+rows2.length) hby;simp only[maxLen];omega
 have hn64:rows.length+rows2.length<=9223372036854775807:=by simp only[maxLen] at hn63;omega
 obtain⟨ad,m,c,news,hu',rfl,hnd,hnc⟩:=hu.news ht.pos hk2;obtain⟨ax,mx,cx,xs,hx',rfl,hxs,hxc⟩:=hv.news ht.pos hk1;have hnl:news.length=rows2.length*inf.size:=by rw[hnd.length,tT hk2]
 have hxl:xs.length=rows.length*inf.size:=by rw[hxs.length,tT hk1]
 have hall:∀r∈rows++rows2,r.length=inf.size:=λr hr=>by
  rcases List.mem_append.1 hr with h|h
  ·exact hk1 r h
  ·exact hk2 r h
 have fin:∀cap (cur:Array Value),rows.length+rows2.length<=cap->cap<=maxLen->cur.toList.take ((rows.length+rows2.length)*inf.size)=xs++news->
   R A M w0 n st a (w.drew.alloc (.cells cur e))/\DR (w.drew.alloc (.cells cur e)) (aT A st.objs) (.sl inf.size (rows++rows2)) (.slice (some ⟨w.heap.size,0,none⟩) (rows.length+rows2.length) cap):=by
  intro cap cur h1 h2 h4;have hk':Keeps (λ_ _=>False) w (w.drew.alloc (.cells cur e)):=(Keeps.drew _ _).trans (Keeps.alloc _ _ _);have hm:Mono w (aT A st.objs) (w.drew.alloc (.cells cur e)) (aT A st.objs):=lO hk' (λ_ _ h=>h.elim) (λ_ _ _ h=>h);refine⟨hR.change hk' (λ_ _ h=>h.elim) (λ_ _ _ h=>h) hR.inv.sep λhm m hmm=>bW (hR.inv.holds m hmm) hk' (λ_ _ _ h=>h) hm,?_⟩;have hlen:(rows++rows2).length=rows.length+rows2.length:=by simp
  rw[<-hlen];have hfl:DRs (w.drew.alloc (.cells cur e)) (aT A st.objs) (rows++rows2).flatten (xs++news):=by
   rw[List.flatten_append];exact(hxs.append hnd).mono hm
  refine DR.of_flat hall hfl (λj q hj=>?_) (λj hj hx=>?_) (by simpa using h1) h2
  ·have hsz:w.heap.size=w.drew.heap.size:=rfl;rw[hsz,World.cell?_alloc_new];rw[<-h4,List.getElem?_take] at hj;split at hj
   ·simpa using hj
   ·cases hj
  ·exact aDg hR _ hx
 have zc:∀q,(Builtin.zeroCells z.cells q).size=q*inf.size:=λq=>by rw[size_zeroCells,ht.size]
 have gmax:∀old,grownCap w (rows.length+rows2.length) old e<=maxLen:=λold=>grownCap_le_maxLen w _ old e hn63;have gge:∀old,rows.length+rows2.length<=grownCap w (rows.length+rows2.length) old e:=λold=>grownCap_ge w _ old e;have tk:∀(zs:Array Value),(xs.toArray++news.toArray++zs).toList.take ((rows.length+rows2.length)*inf.size)=xs++news:=by
  intro zs;have:(rows.length+rows2.length)*inf.size=(xs++news).length:=by simp[hxl,hnl,Nat.add_mul]
  simp only[Array.toList_append,this];exact List.take_left
 by_cases hm0:rows2.length=0
 ·have hr2:rows2=[]:=List.eq_nil_of_length_eq_zero hm0;subst hr2;refine⟨v,w,?_,hR,by simpa using hv,hn⟩
  rcases hc with rfl|⟨b,q,rfl⟩<;>rcases hu' with rfl|⟨rfl,_⟩<;>
   simp[Builtin.append_,run_underlying ht.und,sizeOf,typeInfo,hi,Builtin.lenOf,Builtin.firstCells,loadCells,loadCellsFrom,storeCells]
 ·rcases hu' with rfl|⟨rfl,h0⟩
  ·rcases hc with rfl|⟨b,q,rfl⟩
   ·rcases hx' with h|⟨_,h0⟩
    ·cases h
    ·have hx0:xs=[]:=List.eq_nil_of_length_eq_zero (by rw[hxl,h0];simp);have hr:=run_append_nil (P:=P) w t ty e inf z ht.und hi hz ad rows2.length c news hnl hnc (by omega) (by omega) (by rw[h0,Nat.zero_add] at hb;omega);have hf:=fin (grownCap w (rows.length+rows2.length) 0 e) (xs.toArray++news.toArray++Builtin.zeroCells z.cells (grownCap w (rows.length+rows2.length) 0 e-(rows.length+rows2.length))) (gge 0) (gmax 0) (tk _);rw[hx0] at hf;simp only[h0,Nat.zero_add,Array.empty_append] at hf;exact⟨_,_,hr,hf.1,hf.2,λ_ h=>by cases h⟩
   ·rcases hx' with h|⟨h,_⟩
    ·cases h;have hr:=run_append_grow (P:=P) w t ty e inf z ht.und hi hz ax rows.length rows.length xs hxl hxc ad rows2.length c news hnl hnc (by omega) (by omega) (growslice_fits (by omega) hb);have hf:=fin (grownCap w (rows.length+rows2.length) rows.length e) (xs.toArray++news.toArray++Builtin.zeroCells z.cells (grownCap w (rows.length+rows2.length) rows.length e-(rows.length+rows2.length))) (gge _) (gmax _) (tk _);exact⟨_,_,hr,hf.1,hf.2,λ_ h=>by cases h⟩
    ·cases h
  ·omega
theorem bLo[Mode]{nn:Bool}{t e k bytes:Nat}{z:Value}{x y:Operand}{rows rows2:List (List D)}{ty:TypeId}{pos:String}{af:Array Edge}{gd:Option (Nat×Bool)}(hd:d<n)(ht:SliceTy P t e k bytes z)
  (hx:st.eval x=.fl nn k rows)(hy:st.eval y=.d (.sl k rows2))(hk1:∀r∈rows,r.length=k)(hk2:∀r∈rows2,r.length=k)
  (hb:(rows.length+rows2.length)*bytes<=140737488355328)(hby:0<bytes):
  aM P n ⟨some d,.call {callee:=.builtin .append,args:= #[x,y],argTypes:= #[t,t]},ty,pos,af,gd⟩ st (st.set d (bif nn then .d (.sn k (rows++rows2)) else .d (.sl k (rows++rows2)))):=by
 intro A M w0 a w hR K Q hK;have hky:cD y=true:=by cases y with|const u=>cases hy|_=>rfl
 have hkx:cD x=true:=by cases x with|const u=>cases hx|_=>rfl
 have h:=hR.eval' hky;rw[hy] at h;have hv:=hR.eval' hkx;rw[hx] at hv
 generalize hu:a.eval y=u at h
 cases h with
 | d h=>
  obtain⟨v',w',hr,hR',hdr,hnn⟩:=bRs ht hR hv h hk1 hk2 hb hby ty;unfold Oper.wp;have hrun:(execOp a.eval ⟨some d,.call {callee:=.builtin .append,args:= #[x,y],argTypes:= #[t,t]},ty,pos,af,gd⟩).run P w=.ok (.value v') w':=by
   simp[execOp,resolve,invoke,builtin,hu,hr]
  rw[hrun,Oper.upon_value];refine hK _ _ _ rfl (hR'.put (o:=⟨some d,.call {callee:=.builtin .append,args:= #[x,y],argTypes:= #[t,t]},ty,pos,af,gd⟩) rfl hd ?_);cases nn with
  |false=>exact .d hdr
  |true=>exact .d (hdr.strong (hnn rfl))
end
theorem aCf{w:World}{X:aS}{zs:List D}(h:zOK zs=true):DRs w X zs (zs.map bA):=aBu h
end Go.Am
end
section
namespace Go.Am
open Go.ChangeShapes Go.WideShapes Go.ChangeAt Go.RowKit
def Rd(P:Program)(t:TypeId){α:Type}(enc:α->List D)(ok:α->Prop):Prop:=
 ∀ (H:Type) (eh:TypeId×Value->H) (w:World) (X:aS),(∀b o,¬X b o)->∀(fuel:Nat) (cs:List Value) (x:DataW H×List MemPlace),DataW.trod eh P w 0 (λ_=>true) true fuel t cs=some x->
  ∃a:α,ok a/\DRs w X (enc a) cs
section
variable{P:Program}
theorem eZ{t:TypeId}(ht:P.underlying t=some (.int .i64)):Rd P t aI okI:=by
 intro H eh w X hX fuel cs x h;obtain⟨n,rfl,_,hw⟩:=DataW.trod_int ht h;exact⟨n,by simpa[okI,Lit.wf,IntKind.min,IntKind.max,IntKind.signed,IntKind.bits] using hw,.lit _ rfl,trivial⟩
theorem bNg{t:TypeId}(ht:P.underlying t=some .bool):Rd P t uW okB:=by
 intro H eh w X hX fuel cs x h;obtain⟨n,rfl,_⟩:=DataW.trod_bool ht h;exact⟨n,trivial,.lit _ rfl,trivial⟩
theorem bIc{α β:Type}{f:α->Option β}:∀{l:List α} {vs:List β},l.mapM f=some vs->vs.length=l.length/\∀(j:Nat) (x:α),l[j]?=some x->f x=vs[j]?
 | [],vs,h=>by
  simp at h
  subst h
  simp
 | a::l,vs,h=>by
  rw[List.mapM_cons] at h;simp only[bind,Option.bind_eq_some_iff,pure,Option.some.injEq] at h;obtain⟨b,hb,bs,hbs,rfl⟩:=h;obtain⟨h1,h2⟩:=bIc hbs;refine⟨by simp[h1],λj x hj=>?_⟩;cases j with
  |zero=>simp at hj;subst hj;simpa using hb
  |succ j=>simpa using h2 j x (by simpa using hj)
theorem aRb{w:World}{a:Addr}{n:Nat}{vs:List Value}(h:w.cells? 0 a n=some vs):vs.length=n/\∀j,j<n->w.cell? (a.add j)=vs[j]?:=by
 unfold World.cells? at h;rw[if_pos (Nat.zero_le _)] at h;obtain⟨h1,h2⟩:=bIc h;exact⟨by simpa using h1,λj hj=>h2 j j (by simp[hj])⟩
theorem aEy{t e:TypeId}{k:Nat}{α:Type}{enc:α->List D}{ok:α->Prop}(ht:P.underlying t=some (.slice e))(hc:P.cellsOf e=k)(hk0:0<k)(he:Rd P e enc ok)(hk:∀a,(enc a).length=k):
  Rd P t (λxs:List α=>[.sl k (xs.map enc)]) (okL ok):=by
 intro H eh w X hX fuel cs x h;subst hc
 rcases DataW.trod_slice ht h with⟨rfl,_⟩|⟨a,len,cap,elems,rest,n,_,rfl,_,hb,hl,hm,hlen,hel,hsp,_⟩
 ·exact⟨[],⟨Nat.zero_le _,by simp⟩,.nil _,trivial⟩
 ·have each:∀i,i<len->∃(y:α) (vs:List Value),ok y/\DRs w X (enc y) vs/\w.cells? 0 (a.add (i*P.cellsOf e)) (P.cellsOf e)=some vs:=by
   intro i hi;have h1:=hel i hi;rw[List.getElem?_eq_getElem (by omega)] at h1;obtain⟨vs,h2,h3⟩:=Option.bind_eq_some_iff.1 h1;obtain⟨y,hy,hd⟩:=he H eh w X hX _ _ _ h3;exact⟨y,vs,hy,hd,h2⟩
  have all:∀m,m<=len->∃xs:List α,xs.length=m/\∀i y,xs[i]?=some y->ok y/\∃vs,DRs w X (enc y) vs/\w.cells? 0 (a.add (i*P.cellsOf e)) (P.cellsOf e)=some vs:=by
   intro m
   induction m with
   |zero=>exactλ_=>⟨[],rfl,by simp⟩
   | succ m ih=>
    intro hm;obtain⟨xs,hx,hxs⟩:=ih (by omega);obtain⟨y,vs,hy,hd,hcs⟩:=each m (by omega);refine⟨xs++[y],by simp[hx],λi z hz=>?_⟩
    by_cases hi:i<m
    ·rw[List.getElem?_append_left (by omega)] at hz;exact hxs i z hz
    ·rw[List.getElem?_append_right (by omega),hx] at hz;have:i=m:=by
      have:=(List.getElem?_eq_some_iff.1 hz).1
      simp at this;omega
     subst this
     simp at hz
     subst hz;exact⟨hy,vs,hd,hcs⟩
  obtain⟨xs,hxl,hxs⟩:=all len (Nat.le_refl _);refine⟨xs,⟨by omega,λy hy=>?_⟩,?_,trivial⟩
  ·obtain⟨i,hi⟩:=List.getElem?_of_mem hy;exact(hxs i y hi).1
  ·by_cases h0:cap=0
   ·have:len=0:=by omega
    subst this;subst h0;have:xs=[]:=List.eq_nil_of_length_eq_zero hxl;subst this;exact .e0 _ a
   ·have hspot:a.spot=none:=by
     obtain⟨hs1,hs2⟩:=hsp rfl;have key:∃vs,w.cells? 0 (a.add (0*P.cellsOf e)) (P.cellsOf e)=some vs:=by
      by_cases hl0:0<len
      ·obtain⟨_,vs,_,_,h⟩:=each 0 hl0;exact⟨vs,h⟩
      ·have h1:=hs2 0 (by omega);rw[List.getElem?_eq_getElem (by omega)] at h1;obtain⟨vs,h2,_⟩:=Option.bind_eq_some_iff.1 h1;have:len=0:=by omega
       subst this;exact⟨vs,by simpa using h2⟩
     obtain⟨vs,hvs⟩:=key;obtain⟨g1,g2⟩:=aRb hvs;have g3:=g2 0 hk0;rw[List.getElem?_eq_getElem (by omega)] at g3;have:=World.cell?_spot g3
     simpa[Addr.add] using this
    obtain⟨b,o,spot⟩:=a;simp only at hspot;subst hspot;have hxl':len=(xs.map enc).length:=by simp[hxl]
    rw[hxl'];refine .sl _ _ b o cap (λi j=>(w.cell? ⟨b,o+(i*P.cellsOf e+j),none⟩).getD undef) (λr hr=>?_) (by rw[<-hxl'];exact hl) hm (λi j hi hj=>?_) (λi j hi hj=>?_)
    ·obtain⟨y,_,rfl⟩:=List.mem_map.1 hr;exact hk y
    ·rw[<-hxl'] at hi;obtain⟨_,vs,hd,hcs⟩:=hxs i _ (List.getElem?_eq_getElem (by omega));obtain⟨g1,g2⟩:=aRb hcs;have g3:=g2 j hj;rw[List.getElem?_eq_getElem (by omega)] at g3;have e1:(((⟨b,o,none⟩:Addr).add (i*P.cellsOf e)).add j)=⟨b,o+(i*P.cellsOf e+j),none⟩:=by
      rw[Addr.add_lit,Addr.add_lit,Nat.add_assoc]
     rw[e1] at g3;exact⟨by simp[g3],hX _ _⟩
    ·rw[<-hxl'] at hi;have hix:i<xs.length:=by omega
     obtain⟨_,vs,hd,hcs⟩:=hxs i _ (List.getElem?_eq_getElem hix);obtain⟨g1,g2⟩:=aRb hcs;have g3:=g2 j hj;have e1:(((⟨b,o,none⟩:Addr).add (i*P.cellsOf e)).add j)=⟨b,o+(i*P.cellsOf e+j),none⟩:=by
      rw[Addr.add_lit,Addr.add_lit,Nat.add_assoc]
     rw[e1] at g3;have hjy:j<(enc xs[i]).length:=by rw[hk];exact hj
     obtain⟨q,hq,hdq⟩:=hd.get (List.getElem?_eq_getElem hjy);rw[hq] at g3;have e2:((xs.map enc).getD i []).getD j (.lit undef)=(enc xs[i])[j]:=by
      simp[List.getD,List.getElem?_eq_getElem hix,List.getElem?_eq_getElem hjy]
     rw[e2];simp only[g3,Option.getD_some];exact hdq
theorem bR{w:World}{X:aS}{ds1 ds2:List D}{cs:List Value}{o k:Nat}(h1:DRs w X ds1 ((cs.drop o).take k))(h2:DRs w X ds2 (cs.drop (o+k))):DRs w X (ds1++ds2) (cs.drop o):=by
 have:=h1.append h2;rw[<-List.drop_drop,List.take_append_drop] at this;exact this
theorem uV{w:World}{X:aS}{cs:List Value}{n:Nat}(h:cs.length=n):DRs w X [] (cs.drop n):=by
 rw[List.drop_of_length_le (by omega)];trivial
end
theorem Keeps.below[Mode]{w w':World}(h:Keeps (fJ []) w w'):RowKit.Below w.heap.size w w':=
 ⟨h.os,h.tape,h.output,h.size,λb hb=>h.block b hb λo ⟨m,hm,_⟩=>by simp at hm⟩
theorem aVd{H:Type}{eh:TypeId×Value->H}{P:Program}(hl:laidOutB P=true){W W':World}(hb:RowKit.Below W.heap.size W W'):
  ∀ {ts:List TypeId} {vs:List Value} {ds:List (DataW H)} {ps:List MemPlace},(ts.all λt=>P.readableRec t&&decide (t<P.types.size))=true->(∀x∈ps,x.block<W.heap.size)->
   DataW.TrodAll eh P W 0 (λ_=>true) true ts vs ds ps->DataW.TrodAll eh P W' 0 (λb=>decide (b<W.heap.size)) true ts vs ds ps
 |[],[],[],_,_,_,h=>h
 | t::ts,v::vs,d::ds,ps,ht,hlt,h=>by
  obtain⟨p,q,h1,h2,rfl⟩:=h;simp only[List.all_cons,Bool.and_eq_true,decide_eq_true_eq] at ht;exact⟨p,q,RowKit.Below.trod hl ht.1.1 ht.1.2 h1 hb λx hx=>hlt x (List.mem_append.2 (.inl hx)),aVd hl hb ht.2 (λx hx=>hlt x (List.mem_append.2 (.inr hx))) h2,rfl⟩
 |[],_::_,_,_,_,_,h=>h.elim
 |[],[],_::_,_,_,_,h=>h.elim
 |_::_,[],_,_,_,_,h=>h.elim
 |_::_,_::_,[],_,_,_,h=>h.elim
theorem bWr{P:Program}{f:Func}{s:ChangeSpec}{tb:TypeId}(hl:laidOutB P=true)(hres:f.resultTypes= #[tb])(htb:P.underlying tb=some .bool)(hvars:s.vars=[])
  (ht:(f.params.toList.all λt=>P.readableRec t&&decide (t<P.types.size))=true)
  {H:Type}{eh:TypeId×Value->H}{W W':World}{args:Array Value}{ds gs:List (DataW H)}{before:List MemPlace}(hW:DataW.Whole eh P f.params.toList s.vars false W args.toList ds gs before)
  (hb:RowKit.Below W.heap.size W W')(hfn:s.fn H (ds++gs)={results:=[.lit (.bool true)],args:=ds}):s.post eh P f false true false false W args (.bool true) W':=by
 have hlt:=hW.lt;have hW0:=hW;obtain⟨p,q,hA,hV,rfl,hfz,hnd⟩:=hW;rw[hvars] at hV;obtain⟨rfl,rfl⟩:=trodVars_none hV;refine⟨ds,[],p++[],[],p,[],hW0,?_,?_,?_,?_,λh=>by cases h⟩
 ·rw[hres,hfn];exact trodAll_cons_mk (shut_bool htb _) trodAll_mk0
 ·rw[hfn];exact aVd hl hb ht (λx hx=>hlt x (by simpa using hx)) hA
 ·rw[hfn,hvars];rfl
 ·exact hb.frame _
section
variable{P:Program}{W:World}{X:aS}{r:Reach}{base:Nat}{t:TypeId}{v:Value}{H:Type}{eh:TypeId×Value->H}{d:DataW H}{p:List MemPlace}{α:Type}{ok:α->Prop}
theorem cAb{e:TypeId}{k:Nat}{enc:α->List D}{ok:List α->Prop}(ht:P.underlying t=some (.slice e))(hr:Rd P t (λxs:List α=>[.sl k (xs.map enc)]) ok)(hv:Value.okWide P W r base t v)
  (h:DataW.Trod eh P W 0 (λ_=>true) true t v d p)(hX:∀b o,¬X b o):∃xs,ok xs/\VR W X (.d (.sl k (xs.map enc))) v:=by
 obtain⟨fuel,h⟩:=h;obtain⟨xs,h1,h2⟩:=hr H eh W X hX fuel _ _ h;refine⟨xs,h1,?_⟩;have hc:v.cells.toList=[v]:=by
  simp only[Value.okWide,ht,Cell.okWide,Cell.ok] at hv;split at hv<;>first|rfl|(simp_all[Cell.ok];done)|(cases v<;>simp_all[Cell.ok,Value.cells])
 rw[hc] at h2;exact .d h2.1
theorem cEv{enc:α->List D}{fs:Array Field}(ht:P.underlying t=some (.struct fs))(hr:Rd P t enc ok)(hv:Value.okWide P W r base t v)
  (h:DataW.Trod eh P W 0 (λ_=>true) true t v d p)(hX:∀b o,¬X b o):∃a,ok a/\VR W X (.agg (enc a)) v:=by
 obtain⟨fuel,h⟩:=h;obtain⟨xs,h1,h2⟩:=hr H eh W X hX fuel _ _ h;refine⟨xs,h1,?_⟩;simp only[Value.okWide,ht] at hv;obtain⟨cs,rfl,_⟩:=hv;exact .agg h2
theorem bSx[Mode]{f:FuncId}{fn:Func}{s:ChangeSpec}{tb:TypeId}(hl:laidOutB P=true)(hres:fn.resultTypes= #[tb])(htb:P.underlying tb=some .bool)(hvars:s.vars=[])
  (ht:(fn.params.toList.all λt=>P.readableRec t&&decide (t<P.types.size))=true){args:Array Value}{ds gs:List (DataW H)}{before:List MemPlace}(hW:DataW.Whole eh P fn.params.toList s.vars false W args.toList ds gs before)
  (hfn:s.fn H (ds++gs)={results:=[.lit (.bool true)],args:=ds}){avs:List AV}(hf:Fn P f avs (.b true))(hv:VRs W (aT (λ_ _=>False) []) avs args.toList)(hamb:Amb W (aT (λ_ _=>False) [])):
  Calls P f args W λe W'=>∃v,e=.returned v/\s.post eh P fn false true false false W args v W':=by
 refine(hf (λ_ _=>False) W args.toList ⟨by simp[Sep],by simp,by simp,hamb⟩ (λ_ _ h=>h.elim) hv).mono ?_;rintro e w' ⟨v,r',objs',rfl,hk,hinv,hr,hnew,rfl,rfl⟩;have:=hr.lit;subst this;exact⟨_,rfl,bWr hl hres htb hvars ht hW hk.below hfn⟩
theorem aMe(b o:Nat):¬aT (λ_ _=>False) [] b o:=by
 rintro(h|⟨m,hm,_⟩)
 ·exact h
 ·simp at hm
end
end Go.Am
end
end
