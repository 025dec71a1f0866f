/- The program logic 'Am': a region whose order is open, in which objects are made and changed. -/
import Derived.Test.YtiohgpipanopaaaGreatAmDraw
namespace Go.Am
structure XV where
 b:Nat
 v:Value
abbrev Mk:=Nat->XV
def aQd(X:Mk)(i:Nat)(x:XV):Mk:=λk=>bif Nat.beq k i then x else X k
def Sp(i:Nat)(S:Nat->Bool):Nat->Bool:=λj=>Nat.beq j i||S j
abbrev Stg:=List (Nat×MO)×MO
def wL(S:Nat->Bool):List (Nat×MO)->MO->MO
 |[],m=>m
 |(i,x)::l,m=>bif S i then x else wL S l m
def gV(S:Nat->Bool):List Stg->List MO
 |[]=>[]
 |s::r=>wL S s.1 s.2::gV S r
def aMs(yes no:List Nat):List (Nat×MO)->MO->Option MO
 |[],m=>some m
 |(i,x)::l,m=>bif bG i yes then some x else bif bG i no then aMs yes no l m else none
def aPc(i:Nat):List (Nat×MO)->Bool
 |[]=>false
 |(j,_)::l=>Nat.beq j i||aPc i l
def aKc(i:Nat):List Stg->Bool
 |[]=>true
 |s::r=>!(aPc i s.1)&&aKc i r
def aHf(i:Nat):Nat->List Stg->Bool
 |_,[]=>true
 |0,_::r=>aKc i r
 |p+1,s::r=>!(aPc i s.1)&&aHf i p r
def aEc(m:Nat):List Stg->Bool
 |[]=>true
 |s::r=>s.1.all (λx=>Nat.blt x.1 m)&&aEc m r
theorem aKi{S:Nat->Bool}{yes no:List Nat}(hS:Knows S yes no):∀{l:List (Nat×MO)} {m x:MO},aMs yes no l m=some x->wL S l m=x
 |[],m,x,h=>by simpa[aMs,wL] using h
 | (i,y)::l,m,x,h=>by
  simp only[aMs] at h;simp only[wL];cases hy:bG i yes with
  |true=>rw[hy] at h;simp at h;simp[hS.y i hy,h]
  | false=>
   cases hn:bG i no with
   |true=>rw[hy,hn] at h;simp at h;simp[hS.n i hn,aKi hS h]
   |false=>rw[hy,hn] at h;simp at h
theorem og{S:Nat->Bool}{yes no:List Nat}{objs:List MO}{i:Nat}{l:List (Nat×MO)}{m x:MO}(hS:Knows S yes no)(h:objs[i]?=some (wL S l m))(h2:aMs yes no l m=some x):objs[i]?=some x:=by
 rw[h,aKi hS h2]
theorem bMh{i j:Nat}{S:Nat->Bool}(h:Nat.beq j i=false):Sp i S j=S j:=by simp[Sp,h]
theorem aPt{i:Nat}{S:Nat->Bool}:∀{l:List (Nat×MO)} {m:MO},aPc i l=false->wL (Sp i S) l m=wL S l m
 |[],_,_=>rfl
 | (j,x)::l,m,h=>by
  simp only[aPc,Bool.or_eq_false_iff] at h;simp only[wL,bMh h.1,aPt h.2]
theorem aMn{i:Nat}{S:Nat->Bool}:∀{obs:List Stg},aKc i obs=true->gV (Sp i S) obs=gV S obs
 |[],_=>rfl
 | s::r,h=>by
  simp only[aKc,Bool.and_eq_true,Bool.not_eq_true'] at h;simp only[gV,aPt h.1,aMn h.2]
theorem aIo{i:Nat}{S:Nat->Bool}:∀{p:Nat} {obs:List Stg},aHf i p obs=true->∀{s:Stg} {x:MO},obs[p]?=some s->wL (Sp i S) s.1 s.2=x->gV (Sp i S) obs=(gV S obs).set p x
 |p,[],_,s,x,h,_=>by simp at h
 | 0,s0::r,ho,s,x,h,hx=>by
  simp at h;subst h;subst hx
  simp only[gV,List.set_cons_zero];rw[aMn ho]
 | p+1,s0::r,ho,s,x,h,hx=>by
  simp only[aHf,Bool.and_eq_true,Bool.not_eq_true'] at ho;simp only[gV,List.set_cons_succ,aPt ho.1];rw[aIo ho.2 (by simpa using h) hx]
theorem aWg{m:Nat}{S S':Nat->Bool}(hS:∀j,j<m->S' j=S j):∀{l:List (Nat×MO)} {x:MO},(l.all λx=>Nat.blt x.1 m)=true->wL S' l x=wL S l x
 |[],_,_=>rfl
 | (j,y)::l,x,h=>by
  simp only[List.all_cons,Bool.and_eq_true] at h;simp only[wL,hS j (aE h.1),aWg hS h.2]
theorem aRy{m:Nat}{S S':Nat->Bool}(hS:∀j,j<m->S' j=S j):∀{obs:List Stg},aEc m obs=true->gV S' obs=gV S obs
 |[],_=>rfl
 | s::r,h=>by
  simp only[aEc,Bool.and_eq_true] at h;simp only[gV,aWg hS h.1,aRy hS h.2]
def bJr(no:List Nat):Tab->Tab->Prop
 |[],[]=>True
 |x::l,x'::l'=>x.1=x'.1/\x.2.1=x'.2.1/\(bG x.2.1 no=true\/x.2.2=x'.2.2)/\bJr no l l'
 |_,_=>False
def bCj(no:List Nat):List (Nat×MO)->List (Nat×MO)->Prop
 |[],[]=>True
 |x::l,x'::l'=>x.1=x'.1/\(bG x.1 no=true\/x.2=x'.2)/\bCj no l l'
 |_,_=>False
def bCi(no:List Nat):List Stg->List Stg->Prop
 |[],[]=>True
 |s::r,s'::r'=>bCj no s.1 s'.1/\s.2=s'.2/\bCi no r r'
 |_,_=>False
theorem aVj{no:List Nat}{S:Nat->Bool}{base:Nat->AV}(hS:∀j,bG j no=true->S j=false):∀{t t':Tab},bJr no t t'->∀k,ov t S base k=ov t' S base k
 |[],[],_,k=>rfl
 | (d,j,v)::l,(d',j',v')::l',h,k=>by
  obtain⟨h1,h2,h3,h4⟩:=h;simp only at h1 h2 h3;subst h1;subst h2;have ih:=aVj (base:=base) hS h4 k;unfold ov at ih|-;simp only[find];cases hk:Nat.beq d k with
  |false=>simpa using ih
  | true=>
   simp only[cond_true]
   rcases h3 with h3|h3
   ·rw[hS j h3];rfl
   ·rw[h3]
theorem aWf{no:List Nat}{S:Nat->Bool}(hS:∀j,bG j no=true->S j=false):∀{l l':List (Nat×MO)} {m:MO},bCj no l l'->wL S l m=wL S l' m
 |[],[],_,_=>rfl
 | (j,x)::l,(j',x')::l',m,h=>by
  obtain⟨h1,h2,h3⟩:=h;simp only at h1 h2;subst h1;simp only[wL,aWf hS h3]
  rcases h2 with h2|h2
  ·rw[hS j h2];rfl
  ·rw[h2]
theorem aRx{no:List Nat}{S:Nat->Bool}(hS:∀j,bG j no=true->S j=false):∀{o o':List Stg},bCi no o o'->gV S o=gV S o'
 |[],[],_=>rfl
 | s::r,s'::r',h=>by
  simp only[gV,aWf hS h.1,h.2.1,aRx hS h.2.2]
def aQt(i:Nat):Tab->Bool
 |[]=>true
 |x::l=>!(Nat.beq x.2.1 i)&&aQt i l
theorem aVk{i:Nat}:∀{t:Tab},aQt i t=true->∀{k j:Nat} {v:AV},find t k=some (j,v)->Nat.beq j i=false
 |[],_,k,j,v,h=>by simp[find] at h
 | (d0,j0,v0)::l,hn,k,j,v,h=>by
  simp only[aQt,Bool.and_eq_true,Bool.not_eq_true'] at hn;simp only[find] at h;cases hb:Nat.beq d0 k with
  |true=>rw[hb] at h;simp at h;rw[<-h.1];exact hn.1
  |false=>rw[hb] at h;exact aVk hn.2 (by simpa using h)
theorem bSq{i:Nat}{t:Tab}{S:Nat->Bool}{base:Nat->AV}(hn:aQt i t=true)(k:Nat):ov t (Sp i S) base k=ov t S base k:=by
 unfold ov;cases hf:find t k with
 |none=>rfl
 | some p=>
  obtain⟨j,v⟩:=p;simp only[bMh (aVk hn hf)]
theorem Knows.sp{S:Nat->Bool}{yes no:List Nat}{i:Nat}(h:Knows S yes no)(hn:bG i no=false):Knows (Sp i S) (i::yes) no:=by
 refine⟨λj hj=>?_,λj hj=>?_⟩
 ·simp only[bG] at hj;cases hb:Nat.beq i j with
  |true=>have:=Nat.eq_of_beq_eq_true hb;subst this;simp[Sp]
  |false=>rw[hb] at hj;simp only[cond_false] at hj;simp[Sp,h.y j hj]
 ·have:Nat.beq j i=false:=by
   cases hb:Nat.beq j i with
   |false=>rfl
   |true=>have:=Nat.eq_of_beq_eq_true hb;subst this;rw[hn] at hj;cases hj
  rw[bMh this];exact h.n j hj
theorem Knows.tl{S:Nat->Bool}{yes no:List Nat}{i:Nat}(h:Knows S yes (i::no)):Knows S yes no:=⟨h.y,λj hj=>h.n j (by simp only[bG];cases Nat.beq i j<;>simp[hj])⟩
theorem Knows.cons{S:Nat->Bool}{yes no:List Nat}{i:Nat}(h:Knows S yes no)(hi:S i=false):∀j,bG j (i::no)=true->S j=false:=by
 intro j hj;simp only[bG] at hj;cases hb:Nat.beq i j with
 |true=>have:=Nat.eq_of_beq_eq_true hb;subst this;exact hi
 |false=>rw[hb] at hj;exact h.n j (by simpa using hj)
def aIb(P:Program)(n:Nat)(ops:Array Oper)(o:Oper)(tab:Mk->Tab)(base:Nat->AV)(obs:Mk->List Stg)(i:Nat)(X:Mk)(S:Nat->Bool):Prop:=
 GStepP P n ops o ⟨ov (tab X) S base,gV S (obs X)⟩ (λs=>∃X',Ent s ⟨ov (tab X') (Sp i S) base,gV (Sp i S) (obs X')⟩)
def XSteps(P:Program)(n:Nat)(ops:Array Oper)(tab:Mk->Tab)(base:Nat->AV)(obs:Mk->List Stg):List Oper->List (List Nat×List Nat)->Nat->Prop
 |[],_,_=>True
 | o::l,yn,i=>(∀(X:Mk) (S:Nat->Bool),(∀X,mX (tab X)=true)->S i=false->Knows S (yn.headD ([],[])).1 (i::(yn.headD ([],[])).2)->
   aIb P n ops o tab base obs i X S)/\XSteps P n ops tab base obs l yn.tail (i+1)
theorem XSteps.get{P:Program}{n:Nat}{ops:Array Oper}{tab:Mk->Tab}{base:Nat->AV}{obs:Mk->List Stg}:∀{l:List Oper} {yn:List (List Nat×List Nat)} {k:Nat},XSteps P n ops tab base obs l yn k->∀{i:Nat} {o:Oper},l[i]?=some o->
  ∀ (X:Mk) (S:Nat->Bool),(∀X,mX (tab X)=true)->S (k+i)=false->Knows S (yn.getD i ([],[])).1 ((k+i)::(yn.getD i ([],[])).2)->
   aIb P n ops o tab base obs (k+i) X S
 |[],_,_,_,i,o,h=>by simp at h
 | _::_,yn,k,h,0,o,ho=>by
  simp at ho;subst ho
  have:=h.1;cases yn<;>simpa using this
 | _::l,yn,k,h,i+1,o,ho=>by
  have:=h.2.get (i:=i) (by simpa using ho);rw[show k+1+i=k+(i+1) by omega] at this;cases yn<;>simpa using this
section
variable{P:Program}{n:Nat}{st:St}{Q:Exit->St->Prop}{ops:Array Oper}{o:Oper}
theorem GStep.toP'{st1 st2:St}(h:GStep P n ops o st1 st2){Post:St->Prop}(hp:Post st2):GStepP P n ops o st1 Post:=by
 rcases h with⟨hw,h⟩|⟨hw,d,ho,hd,rfl⟩
 ·exact .inl ⟨hw,λA M w0 a w hR K Q hK=>h A M w0 a w hR K Q λs a' w' e hR'=>hK s a' w' (e▸hp) hR'⟩
 ·exact .inr ⟨hw,d,ho,hd,hp⟩
def nob:MO:=.box 0 0 []
theorem bVk{env:Nat->AV}{objs:List MO}:Ent ⟨env,objs⟩ ⟨env,objs++[nob]⟩:=by
 intro A M w0 n a w hR;refine hR.change (Keeps.refl (λ_ _=>False) w) (λ_ _ h=>h.elim) (λb o _ hx=>?_) ?_ λhm m hmm=>?_
 ·rcases qN.1 hx with h|⟨m,hm,hf⟩
  ·exact h
  ·simp at hm;subst hm;obtain⟨_,h1,h2⟩:=hf;simp at h2
 ·refine List.pairwise_append.2 ⟨hR.inv.sep,by simp,λx hx y hy b o h1 h2=>?_⟩
  simp at hy;subst hy;obtain⟨_,h3,h4⟩:=h2;simp at h4
 ·rcases List.mem_append.1 hmm with h|h
  ·exact bY (hR.inv.holds m h) (Keeps.refl (λ_ _=>False) w) (λ_ _ _ h=>h) hm
  ·simp at h;subst h
   exact⟨[],trivial,λj v h=>by simp at h,λj h=>by simp at h⟩
theorem bDn{env:Nat->AV}{objs:List MO}:∀q,Ent ⟨env,objs⟩ ⟨env,objs++List.replicate q nob⟩
 |0=>by simpa using Ent.refl _
 | q+1=>by
  have:=(bDn (env:=env) (objs:=objs) q).trans bVk
  rwa[List.append_assoc,<-List.replicate_succ'] at this
theorem bZf{tab:Mk->Tab}{base:Nat->AV}{obs:Mk->List Stg}{X:Mk}{S:Nat->Bool}{i d:Nat}{v:AV}(hf:find (tab X) d=some (i,v))(hown:mX (tab X)=true)(hfree:aKc i (obs X)=true)
  (h:GStep P n ops o ⟨ov (tab X) S base,gV S (obs X)⟩ ⟨upd (ov (tab X) S base) d v,gV S (obs X)⟩):
  aIb P n ops o tab base obs i X S:=by
 refine h.toP' ⟨X,?_⟩;have:ov (tab X) (Sp i S) base=upd (ov (tab X) S base) d v:=funext λk=>aQw hown hf k;rw[this,aMn hfree];exact Ent.refl _
theorem bXe{tab:Mk->Tab}{base:Nat->AV}{obs:Mk->List Stg}{X:Mk}{S:Nat->Bool}{yes no:List Nat}{i p:Nat}{s0:Stg}{mo:MO}(hS:Knows S yes (i::no))(hno:bG i no=false)(hn:aQt i (tab X)=true)(ho:aHf i p (obs X)=true)
  (hp:(obs X)[p]?=some s0)(hm:aMs (i::yes) no s0.1 s0.2=some mo)
  (h:GStep P n ops o ⟨ov (tab X) S base,gV S (obs X)⟩ ⟨ov (tab X) S base,(gV S (obs X)).set p mo⟩):
  aIb P n ops o tab base obs i X S:=by
 refine h.toP' ⟨X,?_⟩;have:ov (tab X) (Sp i S) base=ov (tab X) S base:=funext λk=>bSq hn k;rw[this,aIo ho hp (aKi (hS.tl.sp hno) hm)];exact Ent.refl _
theorem aHw{tab:Mk->Tab}{base:Nat->AV}{obs:Mk->List Stg}{X:Mk}{S:Nat->Bool}{yes no:List Nat}{i d p:Nat}{v:AV}{s0:Stg}{mo:MO}(hS:Knows S yes (i::no))(hg:o.guard=none)(hno:bG i no=false)
  (hf:find (tab X) d=some (i,v))(hown:mX (tab X)=true)(ho:aHf i p (obs X)=true)(hp:(obs X)[p]?=some s0)(hm:aMs (i::yes) no s0.1 s0.2=some mo)
  (h:Step P n o ⟨ov (tab X) S base,gV S (obs X)⟩ (λs=>Ent s ⟨upd (ov (tab X) S base) d v,(gV S (obs X)).set p mo⟩)):
  aIb P n ops o tab base obs i X S:=by
 refine .inl ⟨λ_ _ _ _ _ _=>by simp[Region.wanted,hg],λA M w0 a w hR K Q hK=>h A M w0 a w hR K Q λs a' w' he hR'=>hK s a' w' ⟨X,?_⟩ hR'⟩;have:ov (tab X) (Sp i S) base=upd (ov (tab X) S base) d v:=funext λk=>aQw hown hf k;rw[this,aIo ho hp (aKi (hS.tl.sp hno) hm)];exact he
theorem aEr{tab:Mk->Tab}{base:Nat->AV}{obs:Mk->List Stg}{X:Mk}{S:Nat->Bool}{yes no:List Nat}{i d p:Nat}{v:XV->AV}{s0:XV->Stg}{mo:XV->MO}(hS:Knows S yes (i::no))(hi:S i=false)(hg:o.guard=none)(hno:bG i no=false)
  (hf:∀x,find (tab (aQd X i x)) d=some (i,v x))(hown:∀X,mX (tab X)=true)(ho:∀X,aHf i p (obs X)=true)(hp:∀x,(obs (aQd X i x))[p]?=some (s0 x))(hm:∀x,aMs (i::yes) no (s0 x).1 (s0 x).2=some (mo x))
  (hat:∀x,bJr (i::no) (tab (aQd X i x)) (tab X))(hao:∀x,bCi (i::no) (obs (aQd X i x)) (obs X))
  (h:Step P n o ⟨ov (tab X) S base,gV S (obs X)⟩ (λs=>∃x,Ent s ⟨upd (ov (tab X) S base) d (v x),(gV S (obs X)).set p (mo x)⟩)):
  aIb P n ops o tab base obs i X S:=by
 refine .inl ⟨λ_ _ _ _ _ _=>by simp[Region.wanted,hg],λA M w0 a w hR K Q hK=>h A M w0 a w hR K Q ?_⟩;rintro s a' w' ⟨x,he⟩ hR';refine hK s a' w' ⟨aQd X i x,?_⟩ hR';have h1:ov (tab (aQd X i x)) (Sp i S) base=upd (ov (tab X) S base) d (v x):=by
  funext k
  rw[show ov (tab (aQd X i x)) (Sp i S) base k=_ from aQw (hown _) (hf x) k];have:ov (tab (aQd X i x)) S base=ov (tab X) S base:=funext λk=>aVj (hS.n) (hat x) k;rw[this]
 rw[h1,aIo (ho _) (hp x) (aKi (hS.tl.sp hno) (hm x)),aRx (hS.n) (hao x)];exact he
def XOK(P:Program)(n:Nat)(l:List Oper)(m q:Nat)(tab:Mk->Tab)(obs:Mk->List Stg)(st:St):Prop:=
 zT l=true/\wZ (dC l l.length) m l.length=true/\Nat.ble m l.length=true/\(∀X,mX (tab X)=true)/\(∀X,((tab X).all λx=>Nat.blt x.2.1 m)=true)/\(∀X,aEc m (obs X)=true)/\
  (∀X,gV (λ_=>false) (obs X)=st.objs++List.replicate q nob)/\
  ∃yn,aQj (dC l l.length) m yn=true/\XSteps P n l.toArray tab st.env obs (l.take m) yn 0
theorem bTi{id:Nat}{l:List Oper}(hm:P.follows .mixedOrders=true)(m q:Nat)(tab:Mk->Tab)(obs:Mk->List Stg)(ks:List Nat)(us:Mk->List (Nat×AV))(objs:Mk->List MO)(h:XOK P n l m q tab obs st)
  (he:∀X,Ent ⟨ov (tab X) (λ_=>true) st.env,gV (λ_=>true) (obs X)⟩ ⟨zD (keep ks st.env) (us X),objs X⟩)
  (htail:∀X,TrL P n l.toArray (l.drop m) ⟨zD (keep ks st.env) (us X),objs X⟩ Q):Tr P n (.region id l.toArray true) st Q:=by
 obtain⟨h1,h2,h3,hw,h4,h5,h6,yn,h7,h8⟩:=h;refine eW (bDn q) ?_;have h0:(⟨st.env,st.objs++List.replicate q nob⟩:St)=⟨ov (tab λ_=>⟨0,undef⟩) (λ_=>false) st.env,gV (λ_=>false) (obs λ_=>⟨0,undef⟩)⟩:=by
  rw[h6]
  congr 1
  funext k
  unfold ov;cases find (tab λ_=>⟨0,undef⟩) k<;>rfl
 refine aUd m (λS st'=>∃X,st'=⟨ov (tab X) S st.env,gV S (obs X)⟩) hm h1 h2 h3 yn h7 ⟨_,h0⟩ ?_ ?_ ?_
 ·rintro S S' st' hS ⟨X,rfl⟩;refine⟨X,?_⟩;rw[aRy hS (h5 X)]
  congr 1
  funext k
  unfold ov;cases hf:find (tab X) k with
  |none=>rfl
  | some p=>
   obtain⟨j,v⟩:=p;have hjm:j<m:=aE (List.all_eq_true.1 (h4 X) _ (aGp hf))
   simp[hS j hjm]
 ·rintro i o hoi S st' ⟨X,rfl⟩ hi hk;have:=h8.get hoi X S hw (by rw[Nat.zero_add];exact hi) ⟨hk.y,by rw[Nat.zero_add];exact hk.cons hi⟩;rw[Nat.zero_add] at this
  rcases this with⟨hw',h⟩|⟨hw',d,ho,hd,X',he'⟩
  ·exact .inl ⟨hw',λA M w0 a w hR K Q hK=>h A M w0 a w hR K Q λs a' w' ⟨X',he'⟩ hR'=>hK s a' w' ⟨_,⟨X',rfl⟩,he'⟩ hR'⟩
  ·exact .inr ⟨hw',d,ho,hd,_,⟨X',rfl⟩,he'⟩
 ·rintro st' ⟨X,rfl⟩;exact gW (he X) (htail X)
theorem jX{id:Nat}{l:List Oper}(hm:P.follows .mixedOrders=true)(m:Nat)(ks:List Nat)(us:Mk->List (Nat×AV))(objs:Mk->List MO)
  (h:∃q tab obs,XOK P n l m q tab obs st/\∀X,Ent ⟨ov (tab X) (λ_=>true) st.env,gV (λ_=>true) (obs X)⟩ ⟨zD (keep ks st.env) (us X),objs X⟩)
  (htail:∀X,TrL P n l.toArray (l.drop m) ⟨zD (keep ks st.env) (us X),objs X⟩ Q):Tr P n (.region id l.toArray true) st Q:=by
 obtain⟨q,tab,obs,h,he⟩:=h;exact bTi hm m q tab obs ks us objs h he htail
theorem le_refl(e:Nat->AV):Le e e:=λ_=>.inr rfl
theorem aVg{env:Nat->AV}{objs:List MO}(p:Nat){x:MO}(h:objs[p]?=some x):Ent ⟨env,objs⟩ ⟨env,objs.set p x⟩:=by
 have:objs.set p x=objs:=by
  apply List.ext_getElem?;intro q;rw[List.getElem?_set]
  split
  ·rename_i hq
   subst hq;rw[h]
   simp
   have:=(List.getElem?_eq_some_iff.1 h).1
   omega
  ·rfl
 rw[this];exact Ent.refl _
theorem aNb{st1:St}{Post:St->Prop}(he:Ent st st1)(h:Step P n o st1 Post):Step P n o st Post:=λA M w0 a w hR K Q hK=>h A M w0 a w (he A M w0 n a w hR) K Q hK
theorem kW{Post Post':St->Prop}(h:Step P n o st Post)(hp:∀s,Post s->Post' s):Step P n o st Post':=λA M w0 a w hR K Q hK=>h A M w0 a w hR K Q λs a' w' hs hR'=>hK s a' w' (hp s hs) hR'
theorem bMu{f:FuncId}{fn:Func}{c:Code}{args:List AV}{objs objs':List MO}{r:AV}(hf:P.funcs[f]?=some fn)(hb:fn.body=some c){rs:List ResultVar}(hr:fn.results=rs.toArray){n:Nat}(hn:fn.ntmps=n)(ha:args.length<=n)
  (h:Tr P n c ⟨entry args,objs⟩ (λe st=>e=.ret/\∃r',aLb st rs r'/\r'=r/\st.objs=objs')):dX P f args objs (λr' o=>r'=r/\o=objs'):=by
 subst hn;exact aGg hf hb hr ha (pY h λe s ⟨h1,r',h2,h3,h4⟩=>⟨.inl h1,r',h2,h3,h4⟩)
theorem bDz{len j m:Nat}{p:Int}{u:Unit}(h:inb len p=some u)(hb:Nat.ble (j+len) m=true):j+p.toNat*1+1<=m:=by
 obtain⟨h1,h2⟩:=lH h;have:=Nat.le_of_ble_eq_true hb
 omega
end
end Go.Am
