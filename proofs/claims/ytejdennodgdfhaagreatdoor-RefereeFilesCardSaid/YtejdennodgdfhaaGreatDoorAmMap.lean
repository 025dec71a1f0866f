/- Several texts, one behind the other. -/
import Derived.Test.YtejdennodgdfhaaGreatDoorAmDraw
import Derived.Scope
import Derived.Lib.SliceRun
import Derived.MapKept
import Derived.ChangeKeysEq
section
section
namespace Go.Am
structure XV where
 b:Nat
 v:Value
abbrev Mk:=Nat->XV
def aLv(X:Mk)(i:Nat)(x:XV):Mk:=λk=>bif Nat.beq k i then x else X k
def Sp(i:Nat)(S:Nat->Bool):Nat->Bool:=λj=>Nat.beq j i||S j
abbrev Stg:=List (Nat×MO)×MO
def sI(S:Nat->Bool):List (Nat×MO)->MO->MO
 |[],m=>m
 |(i,x)::l,m=>bif S i then x else sI S l m
def fC(S:Nat->Bool):List Stg->List MO
 |[]=>[]
 |s::r=>sI S s.1 s.2::fC S r
def aIf(yes no:List Nat):List (Nat×MO)->MO->Option MO
 |[],m=>some m
 |(i,x)::l,m=>bif bF i yes then some x else bif bF i no then aIf yes no l m else none
def aKt(i:Nat):List (Nat×MO)->Bool
 |[]=>false
 |(j,_)::l=>Nat.beq j i||aKt i l
def aGh(i:Nat):List Stg->Bool
 |[]=>true
 |s::r=>!(aKt i s.1)&&aGh i r
def aDf(i:Nat):Nat->List Stg->Bool
 |_,[]=>true
 |0,_::r=>aGh i r
 |p+1,s::r=>!(aKt i s.1)&&aDf i p r
def aAg(m:Nat):List Stg->Bool
 |[]=>true
 |s::r=>s.1.all (λx=>Nat.blt x.1 m)&&aAg m r
theorem aGn{S:Nat->Bool}{yes no:List Nat}(hS:Knows S yes no):∀{l:List (Nat×MO)} {m x:MO},aIf yes no l m=some x->sI S l m=x
 |[],m,x,h=>by simpa[aIf,sI] using h
 | (i,y)::l,m,x,h=>by
  simp only[aIf] at h;simp only[sI];cases hy:bF i yes with
  |true=>rw[hy] at h;simp at h;simp[hS.y i hy,h]
  | false=>
   cases hn:bF i no with
   |true=>rw[hy,hn] at h;simp at h;simp[hS.n i hn,aGn hS h]
   |false=>rw[hy,hn] at h;simp at h
theorem og{S:Nat->Bool}{yes no:List Nat}{objs:List MO}{i:Nat}{l:List (Nat×MO)}{m x:MO}(hS:Knows S yes no)(h:objs[i]?=some (sI S l m))(h2:aIf yes no l m=some x):objs[i]?=some x:=by
 rw[h,aGn hS h2]
theorem bFt{i j:Nat}{S:Nat->Bool}(h:Nat.beq j i=false):Sp i S j=S j:=by simp[Sp,h]
theorem aLh{i:Nat}{S:Nat->Bool}:∀{l:List (Nat×MO)} {m:MO},aKt i l=false->sI (Sp i S) l m=sI S l m
 |[],_,_=>rfl
 | (j,x)::l,m,h=>by
  simp only[aKt,Bool.or_eq_false_iff] at h;simp only[sI,bFt h.1,aLh h.2]
theorem aIb{i:Nat}{S:Nat->Bool}:∀{obs:List Stg},aGh i obs=true->fC (Sp i S) obs=fC S obs
 |[],_=>rfl
 | s::r,h=>by
  simp only[aGh,Bool.and_eq_true,Bool.not_eq_true'] at h;simp only[fC,aLh h.1,aIb h.2]
theorem aEl{i:Nat}{S:Nat->Bool}:∀{p:Nat} {obs:List Stg},aDf i p obs=true->∀{s:Stg} {x:MO},obs[p]?=some s->sI (Sp i S) s.1 s.2=x->fC (Sp i S) obs=(fC S obs).set p x
 |p,[],_,s,x,h,_=>by simp at h
 | 0,s0::r,ho,s,x,h,hx=>by
  simp at h;subst h;subst hx
  simp only[fC,List.set_cons_zero];rw[aIb ho]
 | p+1,s0::r,ho,s,x,h,hx=>by
  simp only[aDf,Bool.and_eq_true,Bool.not_eq_true'] at ho;simp only[fC,List.set_cons_succ,aLh ho.1];rw[aEl ho.2 (by simpa using h) hx]
theorem aRj{m:Nat}{S S':Nat->Bool}(hS:∀j,j<m->S' j=S j):∀{l:List (Nat×MO)} {x:MO},(l.all λx=>Nat.blt x.1 m)=true->sI S' l x=sI S l x
 |[],_,_=>rfl
 | (j,y)::l,x,h=>by
  simp only[List.all_cons,Bool.and_eq_true] at h;simp only[sI,hS j (aA h.1),aRj hS h.2]
theorem aNs{m:Nat}{S S':Nat->Bool}(hS:∀j,j<m->S' j=S j):∀{obs:List Stg},aAg m obs=true->fC S' obs=fC S obs
 |[],_=>rfl
 | s::r,h=>by
  simp only[aAg,Bool.and_eq_true] at h;simp only[fC,aRj hS h.1,aNs hS h.2]
def bDo(no:List Nat):Tab->Tab->Prop
 |[],[]=>True
 |x::l,x'::l'=>x.1=x'.1/\x.2.1=x'.2.1/\(bF x.2.1 no=true\/x.2.2=x'.2.2)/\bDo no l l'
 |_,_=>False
def aWs(no:List Nat):List (Nat×MO)->List (Nat×MO)->Prop
 |[],[]=>True
 |x::l,x'::l'=>x.1=x'.1/\(bF x.1 no=true\/x.2=x'.2)/\aWs no l l'
 |_,_=>False
def aWr(no:List Nat):List Stg->List Stg->Prop
 |[],[]=>True
 |s::r,s'::r'=>aWs no s.1 s'.1/\s.2=s'.2/\aWr no r r'
 |_,_=>False
theorem aQh{no:List Nat}{S:Nat->Bool}{base:Nat->AV}(hS:∀j,bF j no=true->S j=false):∀{t t':Tab},bDo no t t'->∀k,ov t S base k=ov t' S base k
 |[],[],_,k=>rfl
 | (d,j,v)::l,(d',j',v')::l',h,k=>by
  obtain⟨h1,h2,h3,h4⟩:=h;simp only at h1 h2 h3;subst h1;subst h2;have ih:=aQh (base:=base) hS h4 k;unfold ov at ih|-;simp only[find];cases hk:Nat.beq d k with
  |false=>simpa using ih
  | true=>
   simp only[cond_true]
   rcases h3 with h3|h3
   ·rw[hS j h3];rfl
   ·rw[h3]
theorem aRi{no:List Nat}{S:Nat->Bool}(hS:∀j,bF j no=true->S j=false):∀{l l':List (Nat×MO)} {m:MO},aWs no l l'->sI S l m=sI S l' m
 |[],[],_,_=>rfl
 | (j,x)::l,(j',x')::l',m,h=>by
  obtain⟨h1,h2,h3⟩:=h;simp only at h1 h2;subst h1;simp only[sI,aRi hS h3]
  rcases h2 with h2|h2
  ·rw[hS j h2];rfl
  ·rw[h2]
theorem aNr{no:List Nat}{S:Nat->Bool}(hS:∀j,bF j no=true->S j=false):∀{o o':List Stg},aWr no o o'->fC S o=fC S o'
 |[],[],_=>rfl
 | s::r,s'::r',h=>by
  simp only[fC,aRi hS h.1,h.2.1,aNr hS h.2.2]
def aMo(i:Nat):Tab->Bool
 |[]=>true
 |x::l=>!(Nat.beq x.2.1 i)&&aMo i l
theorem aQi{i:Nat}:∀{t:Tab},aMo i t=true->∀{k j:Nat} {v:AV},find t k=some (j,v)->Nat.beq j i=false
 |[],_,k,j,v,h=>by simp[find] at h
 | (d0,j0,v0)::l,hn,k,j,v,h=>by
  simp only[aMo,Bool.and_eq_true,Bool.not_eq_true'] at hn;simp only[find] at h;cases hb:Nat.beq d0 k with
  |true=>rw[hb] at h;simp at h;rw[<-h.1];exact hn.1
  |false=>rw[hb] at h;exact aQi hn.2 (by simpa using h)
theorem bMg{i:Nat}{t:Tab}{S:Nat->Bool}{base:Nat->AV}(hn:aMo i t=true)(k:Nat):ov t (Sp i S) base k=ov t S base k:=by
 unfold ov;cases hf:find t k with
 |none=>rfl
 | some p=>
  obtain⟨j,v⟩:=p;simp only[bFt (aQi hn hf)]
theorem Knows.sp{S:Nat->Bool}{yes no:List Nat}{i:Nat}(h:Knows S yes no)(hn:bF i no=false):Knows (Sp i S) (i::yes) no:=by
 refine⟨λj hj=>?_,λj hj=>?_⟩
 ·simp only[bF] at hj;cases hb:Nat.beq i j with
  |true=>have:=Nat.eq_of_beq_eq_true hb;subst this;simp[Sp]
  |false=>rw[hb] at hj;simp only[cond_false] at hj;simp[Sp,h.y j hj]
 ·have:Nat.beq j i=false:=by
   cases hb:Nat.beq j i with
   |false=>rfl
   |true=>have:=Nat.eq_of_beq_eq_true hb;subst this;rw[hn] at hj;cases hj
  rw[bFt this];exact h.n j hj
theorem Knows.tl{S:Nat->Bool}{yes no:List Nat}{i:Nat}(h:Knows S yes (i::no)):Knows S yes no:=⟨h.y,λj hj=>h.n j (by simp only[bF];cases Nat.beq i j<;>simp[hj])⟩
theorem Knows.cons{S:Nat->Bool}{yes no:List Nat}{i:Nat}(h:Knows S yes no)(hi:S i=false):∀j,bF j (i::no)=true->S j=false:=by
 intro j hj;simp only[bF] at hj;cases hb:Nat.beq i j with
 |true=>have:=Nat.eq_of_beq_eq_true hb;subst this;exact hi
 |false=>rw[hb] at hj;exact h.n j (by simpa using hj)
def aEb[Mode](P:Program)(n:Nat)(ops:Array Oper)(o:Oper)(tab:Mk->Tab)(base:Nat->AV)(obs:Mk->List Stg)(i:Nat)(X:Mk)(S:Nat->Bool):Prop:=
 GStepP P n ops o ⟨ov (tab X) S base,fC S (obs X)⟩ (λs=>∃X',Ent s ⟨ov (tab X') (Sp i S) base,fC (Sp i S) (obs X')⟩)
def XSteps[Mode](P:Program)(n:Nat)(ops:Array Oper)(tab:Mk->Tab)(base:Nat->AV)(obs:Mk->List Stg):List Oper->List (List Nat×List Nat)->Nat->Prop
 |[],_,_=>True
 | o::l,yn,i=>(∀(X:Mk) (S:Nat->Bool),(∀X,jN (tab X)=true)->S i=false->Knows S (yn.headD ([],[])).1 (i::(yn.headD ([],[])).2)->
   aEb P n ops o tab base obs i X S)/\XSteps P n ops tab base obs l yn.tail (i+1)
theorem XSteps.get[Mode]{P:Program}{n:Nat}{ops:Array Oper}{tab:Mk->Tab}{base:Nat->AV}{obs:Mk->List Stg}:∀{l:List Oper} {yn:List (List Nat×List Nat)} {k:Nat},XSteps P n ops tab base obs l yn k->∀{i:Nat} {o:Oper},l[i]?=some o->
  ∀ (X:Mk) (S:Nat->Bool),(∀X,jN (tab X)=true)->S (k+i)=false->Knows S (yn.getD i ([],[])).1 ((k+i)::(yn.getD i ([],[])).2)->
   aEb P n ops o tab base obs (k+i) X S
 |[],_,_,_,i,o,h=>by simp at h
 | _::_,yn,k,h,0,o,ho=>by
  simp at ho;subst ho
  have:=h.1;cases yn<;>simpa using this
 | _::l,yn,k,h,i+1,o,ho=>by
  have:=h.2.get (i:=i) (by simpa using ho);rw[show k+1+i=k+(i+1) by omega] at this;cases yn<;>simpa using this
section
variable{P:Program}{n:Nat}{st:St}{Q:Exit->St->Prop}{ops:Array Oper}{o:Oper}
theorem GStep.toP'[Mode]{st1 st2:St}(h:GStep P n ops o st1 st2){Post:St->Prop}(hp:Post st2):GStepP P n ops o st1 Post:=by
 rcases h with⟨hw,h⟩|⟨hw,d,ho,hd,rfl⟩
 ·exact .inl ⟨hw,λA M w0 a w hR K Q hK=>h A M w0 a w hR K Q λs a' w' e hR'=>hK s a' w' (e▸hp) hR'⟩
 ·exact .inr ⟨hw,d,ho,hd,hp⟩
def nob:MO:=.box 0 0 []
theorem bPd[Mode]{env:Nat->AV}{objs:List MO}:Ent ⟨env,objs⟩ ⟨env,objs++[nob]⟩:=by
 intro A M w0 n a w hR;refine hR.change (Keeps.refl (λ_ _=>False) w) (λ_ _ h=>h.elim) (λb o _ hx=>?_) ?_ λhm m hmm=>?_
 ·rcases lW.1 hx with h|⟨m,hm,hf⟩
  ·exact h
  ·simp at hm;subst hm;obtain⟨_,h1,h2⟩:=hf;simp at h2
 ·refine List.pairwise_append.2 ⟨hR.inv.sep,by simp,λx hx y hy b o h1 h2=>?_⟩
  simp at hy;subst hy;obtain⟨_,h3,h4⟩:=h2;simp at h4
 ·rcases List.mem_append.1 hmm with h|h
  ·exact bV (hR.inv.holds m h) (Keeps.refl (λ_ _=>False) w) (λ_ _ _ h=>h) hm
  ·simp at h;subst h
   exact⟨[],trivial,λj v h=>by simp at h,λj h=>by simp at h⟩
theorem aYa[Mode]{env:Nat->AV}{objs:List MO}:∀q,Ent ⟨env,objs⟩ ⟨env,objs++List.replicate q nob⟩
 |0=>by simpa using Ent.refl _
 | q+1=>by
  have:=(aYa (env:=env) (objs:=objs) q).trans bPd
  rwa[List.append_assoc,<-List.replicate_succ'] at this
theorem xV[Mode]{tab:Mk->Tab}{base:Nat->AV}{obs:Mk->List Stg}{X:Mk}{S:Nat->Bool}{i d:Nat}{v:AV}(hf:find (tab X) d=some (i,v))(hown:jN (tab X)=true)(hfree:aGh i (obs X)=true)
  (h:GStep P n ops o ⟨ov (tab X) S base,fC S (obs X)⟩ ⟨upd (ov (tab X) S base) d v,fC S (obs X)⟩):
  aEb P n ops o tab base obs i X S:=by
 refine h.toP' ⟨X,?_⟩;have:ov (tab X) (Sp i S) base=upd (ov (tab X) S base) d v:=funext λk=>aCj hown hf k;rw[this,aIb hfree];exact Ent.refl _
theorem bQt[Mode]{tab:Mk->Tab}{base:Nat->AV}{obs:Mk->List Stg}{X:Mk}{S:Nat->Bool}{yes no:List Nat}{i p:Nat}{s0:Stg}{mo:MO}(hS:Knows S yes (i::no))(hno:bF i no=false)(hn:aMo i (tab X)=true)(ho:aDf i p (obs X)=true)
  (hp:(obs X)[p]?=some s0)(hm:aIf (i::yes) no s0.1 s0.2=some mo)
  (h:GStep P n ops o ⟨ov (tab X) S base,fC S (obs X)⟩ ⟨ov (tab X) S base,(fC S (obs X)).set p mo⟩):
  aEb P n ops o tab base obs i X S:=by
 refine h.toP' ⟨X,?_⟩;have:ov (tab X) (Sp i S) base=ov (tab X) S base:=funext λk=>bMg hn k;rw[this,aEl ho hp (aGn (hS.tl.sp hno) hm)];exact Ent.refl _
theorem bSu[Mode]{tab:Mk->Tab}{base:Nat->AV}{obs:Mk->List Stg}{X:Mk}{S:Nat->Bool}{yes no:List Nat}{i d p:Nat}{v:AV}{s0:Stg}{mo:MO}(hS:Knows S yes (i::no))(hg:o.guard=none)(hno:bF i no=false)
  (hf:find (tab X) d=some (i,v))(hown:jN (tab X)=true)(ho:aDf i p (obs X)=true)(hp:(obs X)[p]?=some s0)(hm:aIf (i::yes) no s0.1 s0.2=some mo)
  (h:Step P n o ⟨ov (tab X) S base,fC S (obs X)⟩ (λs=>Ent s ⟨upd (ov (tab X) S base) d v,(fC S (obs X)).set p mo⟩)):
  aEb P n ops o tab base obs i X S:=by
 refine .inl ⟨λ_ _ _ _ _ _=>by simp[Region.wanted,hg],λA M w0 a w hR K Q hK=>h A M w0 a w hR K Q λs a' w' he hR'=>hK s a' w' ⟨X,?_⟩ hR'⟩;have:ov (tab X) (Sp i S) base=upd (ov (tab X) S base) d v:=funext λk=>aCj hown hf k;rw[this,aEl ho hp (aGn (hS.tl.sp hno) hm)];exact he
theorem tU[Mode]{tab:Mk->Tab}{base:Nat->AV}{obs:Mk->List Stg}{X:Mk}{S:Nat->Bool}{yes no:List Nat}{i d p:Nat}{v:XV->AV}{s0:XV->Stg}{mo:XV->MO}(hS:Knows S yes (i::no))(hi:S i=false)(hg:o.guard=none)(hno:bF i no=false)
  (hf:∀x,find (tab (aLv X i x)) d=some (i,v x))(hown:∀X,jN (tab X)=true)(ho:∀X,aDf i p (obs X)=true)(hp:∀x,(obs (aLv X i x))[p]?=some (s0 x))(hm:∀x,aIf (i::yes) no (s0 x).1 (s0 x).2=some (mo x))
  (hat:∀x,bDo (i::no) (tab (aLv X i x)) (tab X))(hao:∀x,aWr (i::no) (obs (aLv X i x)) (obs X))
  (h:Step P n o ⟨ov (tab X) S base,fC S (obs X)⟩ (λs=>∃x,Ent s ⟨upd (ov (tab X) S base) d (v x),(fC S (obs X)).set p (mo x)⟩)):
  aEb P n ops o tab base obs i X S:=by
 refine .inl ⟨λ_ _ _ _ _ _=>by simp[Region.wanted,hg],λA M w0 a w hR K Q hK=>h A M w0 a w hR K Q ?_⟩;rintro s a' w' ⟨x,he⟩ hR';refine hK s a' w' ⟨aLv X i x,?_⟩ hR';have h1:ov (tab (aLv X i x)) (Sp i S) base=upd (ov (tab X) S base) d (v x):=by
  funext k
  rw[show ov (tab (aLv X i x)) (Sp i S) base k=_ from aCj (hown _) (hf x) k];have:ov (tab (aLv X i x)) S base=ov (tab X) S base:=funext λk=>aQh (hS.n) (hat x) k;rw[this]
 rw[h1,aEl (ho _) (hp x) (aGn (hS.tl.sp hno) (hm x)),aNr (hS.n) (hao x)];exact he
def XOK[Mode](P:Program)(n:Nat)(l:List Oper)(m q:Nat)(tab:Mk->Tab)(obs:Mk->List Stg)(st:St):Prop:=
 uH l=true/\rR (cM l l.length) m l.length=true/\Nat.ble m l.length=true/\(∀X,jN (tab X)=true)/\(∀X,((tab X).all λx=>Nat.blt x.2.1 m)=true)/\(∀X,aAg m (obs X)=true)/\
  (∀X,fC (λ_=>false) (obs X)=st.objs++List.replicate q nob)/\
  ∃yn,aJb (cM l l.length) m yn=true/\XSteps P n l.toArray tab st.env obs (l.take m) yn 0
theorem bNa[Mode]{id:Nat}{l:List Oper}(hm:P.follows .mixedOrders=true)(m q:Nat)(tab:Mk->Tab)(obs:Mk->List Stg)(ks:List Nat)(us:Mk->List (Nat×AV))(objs:Mk->List MO)(h:XOK P n l m q tab obs st)
  (he:∀X,Ent ⟨ov (tab X) (λ_=>true) st.env,fC (λ_=>true) (obs X)⟩ ⟨xU (keep ks st.env) (us X),objs X⟩)
  (htail:∀X,TrL P n l.toArray (l.drop m) ⟨xU (keep ks st.env) (us X),objs X⟩ Q):Tr P n (.region id l.toArray true) st Q:=by
 obtain⟨h1,h2,h3,hw,h4,h5,h6,yn,h7,h8⟩:=h;refine dA (aYa q) ?_;have h0:(⟨st.env,st.objs++List.replicate q nob⟩:St)=⟨ov (tab λ_=>⟨0,undef⟩) (λ_=>false) st.env,fC (λ_=>false) (obs λ_=>⟨0,undef⟩)⟩:=by
  rw[h6]
  congr 1
  funext k
  unfold ov;cases find (tab λ_=>⟨0,undef⟩) k<;>rfl
 refine aIv m (λS st'=>∃X,st'=⟨ov (tab X) S st.env,fC S (obs X)⟩) hm h1 h2 h3 yn h7 ⟨_,h0⟩ ?_ ?_ ?_
 ·rintro S S' st' hS ⟨X,rfl⟩;refine⟨X,?_⟩;rw[aNs hS (h5 X)]
  congr 1
  funext k
  unfold ov;cases hf:find (tab X) k with
  |none=>rfl
  | some p=>
   obtain⟨j,v⟩:=p;have hjm:j<m:=aA (List.all_eq_true.1 (h4 X) _ (vK hf))
   simp[hS j hjm]
 ·rintro i o hoi S st' ⟨X,rfl⟩ hi hk;have:=h8.get hoi X S hw (by rw[Nat.zero_add];exact hi) ⟨hk.y,by rw[Nat.zero_add];exact hk.cons hi⟩;rw[Nat.zero_add] at this
  rcases this with⟨hw',h⟩|⟨hw',d,ho,hd,X',he'⟩
  ·exact .inl ⟨hw',λA M w0 a w hR K Q hK=>h A M w0 a w hR K Q λs a' w' ⟨X',he'⟩ hR'=>hK s a' w' ⟨_,⟨X',rfl⟩,he'⟩ hR'⟩
  ·exact .inr ⟨hw',d,ho,hd,_,⟨X',rfl⟩,he'⟩
 ·rintro st' ⟨X,rfl⟩;exact cL (he X) (htail X)
theorem kX[Mode]{id:Nat}{l:List Oper}(hm:P.follows .mixedOrders=true)(m:Nat)(ks:List Nat)(us:Mk->List (Nat×AV))(objs:Mk->List MO)
  (h:∃q tab obs,XOK P n l m q tab obs st/\∀X,Ent ⟨ov (tab X) (λ_=>true) st.env,fC (λ_=>true) (obs X)⟩ ⟨xU (keep ks st.env) (us X),objs X⟩)
  (htail:∀X,TrL P n l.toArray (l.drop m) ⟨xU (keep ks st.env) (us X),objs X⟩ Q):Tr P n (.region id l.toArray true) st Q:=by
 obtain⟨q,tab,obs,h,he⟩:=h;exact bNa hm m q tab obs ks us objs h he htail
theorem le_refl(e:Nat->AV):Le e e:=λ_=>.inr rfl
theorem kW[Mode]{Post Post':St->Prop}(h:Step P n o st Post)(hp:∀s,Post s->Post' s):Step P n o st Post':=λA M w0 a w hR K Q hK=>h A M w0 a w hR K Q λs a' w' hs hR'=>hK s a' w' (hp s hs) hR'
end
end Go.Am
end
section
namespace Go.Am
theorem aRu{P:Program}{t:TypeId}{m:Nat}(ht:gL P t m){w:World}{b o:Nat}{vs:List Value}(hl:vs.length=m)(h:cellsAt w b o vs):
  (loadVar t ⟨b,o,none⟩).run P w=.ok (.agg vs.toArray) w:=by
 subst hl;have:=run_loadCells_list (P:=P) w ⟨b,o,none⟩ vs λj v hj=>by rw[Addr.add_lit];exact h j v hj
 simp[loadVar,ht.1,ht.2,this]
inductive RVc(P:Program)(st:St):ResultVar->AV->Prop where
 |tmp (t:Nat) {v:AV} (h:st.env t=v):RVc P st (.tmp t) v
 |cell (a:Nat) (t:TypeId) {b o j i m:Nat} {ds es:List D} (ha:st.env a=.bp b o j) (ho:st.objs[i]?=some (.box b o ds)) (ht:gL P t m) (he:(ds.drop j).take m=es) (hl:es.length=m):RVc P st (.cell a t) (.agg es)
 |cell1 (a:Nat) (t:TypeId) {b o j i:Nat} {ds:List D} {d0:D} (ha:st.env a=.bp b o j) (ho:st.objs[i]?=some (.box b o ds)) (ht:dJ P t) (he:ds[j]?=some d0):RVc P st (.cell a t) (.d d0)
def aCk(tmps:Array Value):ResultVar->Sem Value
 | .tmp t=>pure (tmps.getD t undef)
 | .cell a t=>do loadVar t (<-asAddr (tmps.getD a undef))
theorem RVc.run[Mode]{P:Program}{st:St}{x:ResultVar}{r:AV}(h:RVc P st x r){A M:bE}{w0:W0}{n:Nat}{a:Act}{w:World}(hR:R A M w0 n st a w):
  ∃v,(aCk a.tmps x).run P w=.ok v w/\VR w (aV A st.objs) r v:=by
 cases h with
 |tmp t h=>exact⟨_,rfl,h▸hR.env t⟩
 | @cell p t b o j i m ds es ha ho ht he hl=>
  have h:=hR.env p;rw[ha] at h
  generalize hu:a.tmps.getD p undef=u at h
  obtain⟨vs,hds,hc,_⟩:=hR.inv.holds _ (List.mem_of_getElem? ho);have hdt:=(hds.drop j).take m;cases h with
  | bp=>
   subst he;refine⟨.agg ((vs.drop j).take m).toArray,?_,.agg (by simpa using hdt)⟩
   simp[aCk,hu,asAddr,aRu ht (vs:=(vs.drop j).take m) (by rw[hdt.length,hl]) ((hc.drop j).take m)]
 | @cell1 p t b o j i ds d0 ha ho ht he=>
  have h:=hR.env p;rw[ha] at h
  generalize hu:a.tmps.getD p undef=u at h
  obtain⟨vs,hds,hc,_⟩:=hR.inv.holds _ (List.mem_of_getElem? ho);obtain⟨v,hv,hdv⟩:=hds.get he;cases h with
  | bp=>
   refine⟨v,?_,.d hdv⟩;have hcell:=hc j v hv
   simp[aCk,hu,asAddr,loadVar,ht.1,hcell]
inductive ResW(P:Program)(st:St):List ResultVar->AV->Prop where
 |one {x:ResultVar} {r:AV} (h:RVc P st x r):ResW P st [x] r
 |two {x y:ResultVar} {r s:AV} (h:RVc P st x r) (h2:RVc P st y s):ResW P st [x,y] (.tup [r,s])
 |three {x y z:ResultVar} {r s t:AV} (h:RVc P st x r) (h2:RVc P st y s) (h3:RVc P st z t):ResW P st [x,y,z] (.tup [r,s,t])
 |none:ResW P st [] (.tup [])
theorem zN(fn:Func)(tmps:Array Value):results fn tmps=(do
  let vs<-fn.results.mapM (aCk tmps)
  pure (if h:vs.size=1 then vs[0] else .tuple vs)):=by
 unfold results;have:(λx:ResultVar=>aCk tmps x)=aCk tmps:=rfl
 congr 1
theorem aJk[Mode]{fn:Func}{rs:List ResultVar}(hr:fn.results=rs.toArray){P:Program}{st:St}{r:AV}(h:ResW P st rs r){A M:bE}{w0:W0}{n:Nat}{a:Act}{w:World}(hR:R A M w0 n st a w):
  ∃v,(results fn a.tmps).run P w=.ok v w/\VR w (aV A st.objs) r v:=by
 cases h with
 | one h=>
  obtain⟨v,h1,h2⟩:=h.run hR;refine⟨v,?_,h2⟩;rw[zN,hr]
  simp[h1]
 | two h k=>
  obtain⟨v,h1,h2⟩:=h.run hR;obtain⟨u,k1,k2⟩:=k.run hR;refine⟨.tuple #[v,u],?_,.tup (us:=[_,_]) rfl λi hi=>by
    match i,hi with
    |0,_=>exact h2
    |1,_=>exact k2⟩
  rw[zN,hr]
  simp[h1,k1]
 | three h k l=>
  obtain⟨v,h1,h2⟩:=h.run hR;obtain⟨u,k1,k2⟩:=k.run hR;obtain⟨x,l1,l2⟩:=l.run hR;refine⟨.tuple #[v,u,x],?_,.tup (us:=[_,_,_]) rfl λi hi=>by
    match i,hi with
    |0,_=>exact h2
    |1,_=>exact k2
    |2,_=>exact l2⟩
  rw[zN,hr]
  simp[h1,k1,l1]
 | none=>
  refine⟨.tuple #[],?_,.tup (us:=[]) rfl λi hi=>by simp at hi⟩;rw[zN,hr]
  simp
theorem cB[Mode]{P:Program}{f:FuncId}{fn:Func}{c:Code}{args:List AV}{objs:List MO}{Q:AV->List MO->Prop}(hf:P.funcs[f]?=some fn)(hb:fn.body=some c){rs:List ResultVar}(hr:fn.results=rs.toArray){n:Nat}(hn:fn.ntmps=n)(ha:args.length<=n)
  (h:Tr P n c ⟨entry args,objs⟩ (λe st=>e=.ret/\∃r0 objs' gone r,ResW P st rs r0/\st.objs.Perm (objs'++gone)/\BV gone r0 r/\Q r objs')):bI P f args objs Q:=by
 subst hn;intro A w vs hinv hA hvs;refine aFd hf hb ha h hinv hA hvs (λe st hq=>.inl hq.1) ?_;rintro e st a' w' ⟨rfl,r0,objs',gone,r,hres,hp,hbv,hq⟩ hR';obtain⟨v,hrun,hv⟩:=aJk hr hres hR';have hR1:R A (dR objs) ⟨w,[],none⟩ 1 ⟨upd emp 0 r0,st.objs⟩ {tmps:= #[v],defers:=[]} w':=by
  refine⟨rfl,Marks.nil _ ⟨w,[],none⟩ _,λk=>?_,hR'.inv,hR'.keeps,hR'.own,hR'.old⟩;show VR _ _ (upd emp 0 r0 k) _
  by_cases hk:0=k
  ·subst hk;rw[fS];exact hv
  ·rw[mJ _ _ hk];exact .any _
 have hR2:=kD (env':=upd emp 0 r) hp (λk=>by
  by_cases hk:0=k
  ·subst hk;rw[fS,fS];exact hbv
  ·rw[mJ _ _ hk,mJ _ _ hk];exact .any _) A (dR objs) ⟨w,[],none⟩ 1 _ w' hR1
 have hv2:VR w' (aV A objs') (upd emp 0 r 0) v:=hR2.env 0;rw[fS] at hv2;exact⟨v,hrun,v,r,objs',rfl,hR2.keeps,hR2.inv,hv2,hR2.own,hq⟩
theorem eH[Mode]{P:Program}{f:FuncId}{fn:Func}{c:Code}{args:List AV}{objs objs':List MO}{r:AV}(hf:P.funcs[f]?=some fn)(hb:fn.body=some c){rs:List ResultVar}(hr:fn.results=rs.toArray){n:Nat}(hn:fn.ntmps=n)(ha:args.length<=n)
  (h:Tr P n c ⟨entry args,objs⟩ (λe st=>e=.ret/\∃r0 gone,ResW P st rs r0/\st.objs.Perm (objs'++gone)/\BV gone r0 r)):bI P f args objs (λr' o=>r'=r/\o=objs'):=
 cB hf hb hr hn ha (oU h λe st ⟨h1,r0,gone,h2,h3,h4⟩=>⟨h1,r0,objs',gone,r,h2,h3,h4,rfl,rfl⟩)
theorem gF[Mode](e k:Nat){env:Nat->AV}{objs:List MO}:Ent ⟨env,objs⟩ ⟨env,objs++[.arr (.slice none 0 0) e k []]⟩:=by
 intro A M w0 n a w hR;exact hR.add (w':=w) (m:=.arr (.slice none 0 0) e k []) (Keeps.refl _ _) (λb o hf=>by simp[MO.foot,Value.ownBlock] at hf)
  (λhm=>⟨[],trivial,⟨by simp,.inl ⟨rfl,rfl⟩⟩,by simp⟩)
section
variable{P:Program}{n d:Nat}{st:St}{o:Oper}
theorem cY[Mode]{c:Callee}{l:List Operand}{f:FuncId}{args args':List AV}{r:AV}{ts:Array TypeId}{ty:TypeId}{pos:String}{af:Array Edge}{gd:Option (Nat×Bool)}(hd:d<n)
  {a0:List AV}(hc:kL P st c l f a0)(ha:a0=args)(hok:iE l=true)(hb:BVs [] args args')(hf:Fn P f args' r):
  aY P n ⟨some d,.call {callee:=c,args:=l.toArray,argTypes:=ts},ty,pos,af,gd⟩ st (st.set d r):=by
 refine oS hd hc ha hok ?_;intro A w vs hinv hA hvs;exact hf A w vs hinv hA (hb.sound (λm hm=>by simp at hm) (λ_ _ h=>h) (λm hm=>by simp at hm) hvs)
theorem aLq[Mode]{x y:AV}(hw:BV [] x y)(h:aY P n o st (st.set d x)):aY P n o st (st.set d y):=by
 intro A M w0 a w hR K Q hK;refine h A M w0 a w hR K Q ?_;rintro s a' w' rfl hR';refine hK _ _ _ rfl ?_;have:=kD (env:=upd st.env d x) (env':=upd st.env d y) (objs:=st.objs) (keepers:=st.objs) (gone:=[]) (by simp) (λk=>by
  by_cases hk:d=k
  ·subst hk;rw[fS,fS];exact hw
  ·rw[mJ _ _ hk,mJ _ _ hk];exact .same _)
 exact this A M w0 n a' w' hR'
end
theorem aCp(fs:List MO)(e:Nat->AV):BLe fs e e:=λ_=>.same _
theorem bCc[Mode]{env env':Nat->AV}{objs:List MO}(keepers gone:List MO)(ho:objs=keepers++gone)(h:BLe gone env env'):Ent ⟨env,objs⟩ ⟨env',keepers⟩:=kD (ho▸List.Perm.refl _) h
theorem aSj[Mode]{P:Program}{n:Nat}{c:Code}{Q:Exit->St->Prop}{env env':Nat->AV}{objs:List MO}(keepers gone:List MO)(ho:objs=keepers++gone)(h:BLe gone env env')(k:Tr P n c ⟨env',keepers⟩ Q):Tr P n c ⟨env,objs⟩ Q:=dA (bCc keepers gone ho h) k
theorem bDl[Mode]{P:Program}{n:Nat}{ops:Array Oper}{l:List Oper}{Q:Exit->St->Prop}{env env':Nat->AV}{objs:List MO}(keepers gone:List MO)(ho:objs=keepers++gone)(h:BLe gone env env')(k:TrL P n ops l ⟨env',keepers⟩ Q):TrL P n ops l ⟨env,objs⟩ Q:=cL (bCc keepers gone ho h) k
theorem bPb{v:Value}{e k:Nat}{rows:List (List D)}(hk:∀r∈rows,r.length=k):DV [.arr v e k rows] (.lit v) (.sl k rows):=
 .arr v e k rows rows (by simp) rfl hk λ_ _ _ _=>.same _
section
variable{P:Program}{n d:Nat}{st:St}
end
def bQz(Q:Exit->St->Prop):Prop:=∀l s,¬Q (.goto l) s
theorem bBq{P:Program}{b:Frame}{a:Act}{k:List Item}{cs:List Frame}{w:World}{c:Code}:step P (lone (b.atR a (.code (.scope c)::k)) cs w)=.next (lone (b.atR a (.code c:: .inScope c::k)) cs w):=
 step_lone_go (by simp[stepG,stepG.exec,Frame.atR])
theorem aWe{P:Program}{b:Frame}{a:Act}{k:List Item}{cs:List Frame}{w:World}{c:Code}:step P (lone (b.atR a (.inScope c::k)) cs w)=.next (lone (b.atR a k) cs w):=
 step_lone_go (by simp[stepG,stepG.exec,Frame.atR])
theorem aJt{F:Fence}{n:Nat}{P:Program}{a:Act}{w:World}{Q:Exit->Act->World->Prop}{c:Code}(h:c.wpIn F n P (Exit.noGoto Q) a w):(Code.scope c).wpIn F n P Q a w:=by
 intro b k cs hro hb hr;obtain⟨e,a₁,w₁,hq,harr⟩:=h b (.inScope c::k) cs hro hb hr;have s0:StepsIn (Machine.fenced P F) P (lone (b.atR a (.code (.scope c)::k)) cs w) (lone (b.atR a (.code c:: .inScope c::k)) cs w):=.one (fenced_calm (fr:=b.atR a (.code (.scope c)::k)) hb hr rfl) bBq;have harr:=ArrivesIn.of_steps s0 harr;cases e with
 |normal=>exact⟨.normal,a₁,w₁,hq,StepsIn.trans harr (.one (fenced_calm (fr:=b.atR a₁ (.inScope c::k)) hb hr rfl) aWe)⟩
 |goto l=>exact hq.elim
 |exit id=>exact⟨.exit id,a₁,w₁,hq,λk' hk=>harr.1 k' (by simp[exitTo,hk]),λhr hk=>harr.2 hr (by simp[exitTo,hk])⟩
 |ret=>exact⟨.ret,a₁,w₁,hq,harr⟩
 |panic ch=>exact⟨.panic ch,a₁,w₁,hq,harr⟩
 |outgrown=>exact⟨.outgrown,a₁,w₁,hq,harr⟩
theorem bNc[Mode]{P:Program}{n:Nat}{st:St}{c:Code}{Q:Exit->St->Prop}(hg:bQz Q)(h:Tr P n c st Q):Tr P n (.scope c) st Q:=by
 intro A M w0 a w hR hn;refine aJt (wpIn_mono (h A M w0 a w hR hn) ?_);rintro e a' w' ⟨st',hq,hR'⟩;cases e with
 |goto l=>exact absurd hq (hg l st')
 |_=>exact⟨st',hq,hR'⟩
section
variable{P:Program}{n d:Nat}{st:St}
end
end Go.Am
end
end
section
namespace Go.Am
def dT{α:Type}[DecidableEq α](a:α):List α->Option Nat
 |[]=>none
 |b::l=>bif decide (a=b) then some 0 else(dT a l).map (·+1)
structure oV(P:Program)(kt:TypeId){α:Type}[DecidableEq α](kv:α->Value):Prop where
 chk:∀b a w,(Instr.checkKey b 10000 kt (kv a)).run P w=.ok () w
 find:∀(a:α) (l:List α) (ms:List MapEntry) (w:World),ms.map (·.key)=l.map kv->
  (Instr.findKey kt (kv a) ms).run P w=.ok ((dT a l).bind λi=>(ms[i]?).map λe=>(i,e.val)) w
 stays:∀a w,(Instr.keyThatStays (kv a) (kv a)).run P w=.ok (kv a) w
 inj:∀a b,kv a=kv b->a=b
section
variable{P:Program}{n d:Nat}{st:St}
theorem tQ[Mode]{t:TypeId}{ty:TypeId}{pos:String}{af:Array Edge}{gd:Option (Nat×Bool)}(hd:d<n):
  Step P n ⟨some d,.makeMap t none,ty,pos,af,gd⟩ st (λs=>∃r,s=⟨upd st.env d (.d (.lit (.map (some r)))),st.objs++[.map r [] [] 0]⟩):=by
 intro A M w0 a w hR K Q hK;unfold Oper.wp;have hrun:(execOp a.eval ⟨some d,.makeMap t none,ty,pos,af,gd⟩).run P w=.ok (.value (.map (some w.heap.size))) (w.alloc (.map #[] 0)):=by
  simp[execOp,Instr.makeMap]
 rw[hrun,Oper.upon_value];refine hK _ _ _ ⟨w.heap.size,rfl⟩ ?_;have hR':=hR.add (w':=w.alloc (.map #[] 0)) (m:=.map w.heap.size [] [] 0) (Keeps.alloc _ _ _)
  (λb o hf=>by simp[MO.foot] at hf;omega)
  (λhmo=>⟨#[],heap_alloc_new w _,trivial,rfl,List.Pairwise.nil,λb hb=>by simp at hb⟩)
 exact hR'.put (o:=⟨some d,.makeMap t none,ty,pos,af,gd⟩) rfl hd (.of_lit rfl)
end
theorem aGg{P:Program}{kt:TypeId}{α:Type}[DecidableEq α]{kv:α->Value}(heq:∀a b w,(Op.equal kt (kv a) (kv b)).run P w=.ok (decide (a=b)) w){a:α}{w:World}:∀{l:List α} {ms:List MapEntry} {i:Nat},ms.map (·.key)=l.map kv->
  (Instr.findAsking kt (kv a) ms i).run P w=.ok ((dT a l).bind λj=>(ms[j]?).map λe=>(i+j,e.val)) w
 |[],[],i,_=>by simp[Instr.findAsking,dT]
 | b::l,m::ms,i,h=>by
  simp only[List.map_cons,List.cons.injEq] at h;have ih:=aGg heq (a:=a) (w:=w) (i:=i+1) h.2;simp only[Instr.findAsking,Sem.run_bind,h.1,heq a b w,Result.andThen_ok,dT]
  by_cases hab:a=b
  ·simp[hab]
  ·simp only[hab,decide_false,cond_false];simp only[Bool.false_eq_true,if_false];rw[ih];cases dT a l with
   |none=>rfl
   |some j=>simp[Nat.add_assoc,Nat.add_comm 1 j]
 |[],_::_,i,h=>by simp at h
 |_::_,[],i,h=>by simp at h
theorem aKv{P:Program}{kt:TypeId}{fs:Array Field}{α:Type}[DecidableEq α]{enc:α->List D}(hu:P.underlying kt=some (.struct fs))(he:aWv P kt enc)
  (hc:∀b a w,(Instr.checkKey b 10000 kt (.agg ((enc a).map bD).toArray)).run P w=.ok () w)(hs:∀a w,(Instr.keyThatStays (.agg ((enc a).map bD).toArray) (.agg ((enc a).map bD).toArray)).run P w=.ok (.agg ((enc a).map bD).toArray) w)
  (hi:∀a b,enc a=enc b->a=b)(hl:∀a,dH (enc a)=true):oV P kt (λa=>.agg ((enc a).map bD).toArray):=by
 have heq:∀a b w,(Op.equal kt (.agg ((enc a).map bD).toArray) (.agg ((enc b).map bD).toArray)).run P w=.ok (decide (a=b)) w:=λa b w=>he a b w;refine⟨hc,λa l ms w h=>?_,hs,λa b h=>?_⟩
 ·have hrun:=aGg (P:=P) (kt:=kt) (kv:=λa=>.agg ((enc a).map bD).toArray) heq (a:=a) (w:=w) (i:=0) h;have hnow:Instr.findNow (.struct fs) (.agg ((enc a).map bD).toArray) ms 0=none\/Instr.findNow (.struct fs) (.agg ((enc a).map bD).toArray) ms 0=some none/\ms=[]:=by
   cases ms with
   |nil=>exact .inr ⟨rfl,rfl⟩
   |cons m ms=>exact .inl (by simp[Instr.findNow,Instr.sameNow])
  rcases hnow with h1|⟨h1,rfl⟩
  ·simp only[Instr.findKey,Sem.run_bind,run_underlying hu,Result.andThen_ok,h1]
   simpa using hrun
  ·cases l with
   |nil=>simp[Instr.findKey,run_underlying hu,h1,dT]
   |cons=>simp at h
 ·have :=hl a;have:=hl b;have key:∀(x y:List D),dH x=true->dH y=true->x.map bD=y.map bD->x=y:=by
   intro x
   induction x with
   | nil=>intro y _ _ h;cases y with
    |nil=>rfl
    |cons=>simp at h
   | cons d x ih=>
    intro y h1 h2 h;cases y with
    |nil=>simp at h
    | cons e y=>
     cases d with
     |sl=>simp[dH] at h1
     |sn=>simp[dH] at h1
     |mp=>simp[dH] at h1
     |pt=>simp[dH] at h1
     |hv=>simp[dH] at h1
     |fc=>simp[dH] at h1
     | lit v=>
      cases e with
      |sl=>simp[dH] at h2
      |sn=>simp[dH] at h2
      |mp=>simp[dH] at h2
      |pt=>simp[dH] at h2
      |hv=>simp[dH] at h2
      |fc=>simp[dH] at h2
      | lit u=>
       simp only[List.map_cons,List.cons.injEq,bD] at h;rw[h.1,ih y (by simpa[dH] using h1) (by simpa[dH] using h2) h.2]
  exact hi a b (key _ _ (hl a) (hl b) (by simpa using h))
def aR{α β:Type}[DecidableEq α](a:α)(z:β):List (α×β)->β
 |[]=>z
 |(b,v)::l=>bif decide (a=b) then v else aR a z l
def dL{α β:Type}[DecidableEq α](a:α)(v:β):List (α×β)->List (α×β)
 |[]=>[(a,v)]
 |(b,u)::l=>bif decide (a=b) then(b,v)::l else(b,u)::dL a v l
def cN{α β:Type}[DecidableEq α](a:α):List (α×β)->Bool
 |[]=>false
 |(b,_)::l=>decide (a=b)||cN a l
theorem MRs.keys{w:World}{X:bE}:∀{es:List (Value×AV)} {ms:List MapEntry},MRs w X es ms->ms.map (·.key)=es.map (·.1)
 |[],[],_=>rfl
 |(_,_)::_,_::_,h=>by simp[h.1,MRs.keys h.2.2]
theorem MRs.get{w:World}{X:bE}:∀{es:List (Value×AV)} {ms:List MapEntry},MRs w X es ms->∀{j:Nat} {e:Value×AV},es[j]?=some e->∃m,ms[j]?=some m/\VR w X e.2 m.val
 |[],[],_,j,e,h=>by simp at h
 |(_,_)::_,m::_,h,0,e,he=>by simp at he;subst he;exact⟨m,rfl,h.2.1⟩
 |(_,_)::_,m::_,h,j+1,e,he=>by simpa using MRs.get h.2.2 (j:=j) (by simpa using he)
theorem qT{α β:Type}[DecidableEq α](a:α)(z:β):∀(l:List (α×β)),(dT a (l.map (·.1))=none/\aR a z l=z)\/∃j p,dT a (l.map (·.1))=some j/\l[j]?=some p/\aR a z l=p.2/\p.1=a
 |[]=>.inl ⟨rfl,rfl⟩
 | (b,v)::l=>by
  simp only[List.map_cons,dT,aR]
  by_cases hab:a=b
  ·exact .inr ⟨0,(b,v),by simp[hab],rfl,by simp[hab],hab.symm⟩
  ·rcases qT a z l with⟨h1,h2⟩|⟨j,p,h1,h2,h3,h4⟩
   ·exact .inl ⟨by simp[hab,h1],by simp[hab,h2]⟩
   ·exact .inr ⟨j+1,p,by simp[hab,h1],by simpa using h2,by simp[hab,h3],h4⟩
section
variable{P:Program}{n d:Nat}{st:St}
theorem dF{w:World}{r:Nat}{ms:Array MapEntry}{clock:Nat}(h:w.heap[r]?=some (.map ms clock)):(getObj r).run P w=.ok (.map ms clock) w:=by simp[getObj,Sem.run,h]
def wL{α:Type}(kv:α->Value)(x:AV)(a:α):Prop:=∀w X u,VR w X x u->u=kv a
theorem aDs[Mode]{t kt et:TypeId}{α β:Type}[DecidableEq α]{kv:α->Value}{av:β->AV}{l:List (α×β)}{z:β}{zv:Value}{a:α}{x y:Operand}{r m:Nat}{bs:List Nat}{clock:Nat}{ty:TypeId}{pos:String}{af:Array Edge}{gd:Option (Nat×Bool)}(hd:d<n)
  (hk:oV P kt kv)(ht:P.underlying t=some (.map kt et))(hz:∀w,(zeroValue et).run P w=.ok zv w)(hzv:∀w X,VR w X (av z) zv)
  (hx:st.eval x=.d (.lit (.map (some r))))(ho:st.objs[m]?=some (.map r (l.map λp=>(kv p.1,av p.2)) bs clock))(hyk:cJ y=true){yv:AV}(hyv:st.eval y=yv)(hy:wL kv yv a):
  aY P n ⟨some d,.lookup t x y false,ty,pos,af,gd⟩ st (st.set d (av (aR a z l))):=
 cA rfl hd λA M w0 ac w hR=>by
  obtain⟨ms,hh,hms,_⟩:=hR.inv.holds _ (List.mem_of_getElem? ho);have hkey:=hy _ _ _ (hyv▸hR.eval' hyk);have hkeys:ms.toList.map (·.key)=(l.map (·.1)).map kv:=by rw[hms.keys];simp
  have hf:=hk.find a (l.map (·.1)) ms.toList w hkeys
  rcases qT a z l with⟨h1,h2⟩|⟨j,p,h1,h2,h3,h4⟩
  ·refine⟨zv,?_,by rw[h2];exact hzv _ _⟩
   simp[execOp,hR.lit hx,hkey,Instr.lookup,run_underlying ht,dF hh,hk.chk,hf,h1,hz]
  ·obtain⟨e,he,hv⟩:=hms.get (j:=j) (e:=(kv p.1,av p.2)) (by simp[h2]);refine⟨e.val,?_,by rw[h3];exact hv⟩;simp only[Array.getElem?_toList] at he
   simp[execOp,hR.lit hx,hkey,Instr.lookup,run_underlying ht,dF hh,hk.chk,hf,h1,he]
end
def pK{α β:Type}[DecidableEq α](a:α)(z:β)(l:List (α×β)):List (α×β):=bif cN a l then l else l++[(a,z)]
def mbs{α β:Type}[DecidableEq α](a:α)(l:List (α×β))(bs:List Nat)(clock:Nat):List Nat:=bif cN a l then bs else bs++[clock]
def mck{α β:Type}[DecidableEq α](a:α)(l:List (α×β))(clock:Nat):Nat:=bif cN a l then clock else clock+1
def rW{α β:Type}[DecidableEq α](a:α)(l:List (α×β))(bs:List Nat)(clock:Nat):Nat:=match dT a (l.map (·.1)) with|some j=>bs.getD j 0|none=>clock
theorem mB{α β:Type}[DecidableEq α](a:α):∀(l:List (α×β)),cN a l=(dT a (l.map (·.1))).isSome
 |[]=>rfl
 | (b,v)::l=>by
  simp only[cN,List.map_cons,dT,mB a l]
  by_cases hab:a=b<;>simp[hab]
theorem Keeps.setObj[Mode](w:World)(r:Nat)(o:Obj):Keeps (λb _=>b=r) w {w with heap:=w.heap.setIfInBounds r o}:=by
 have hb:∀b,b≠r->(w.heap.setIfInBounds r o)[b]?=w.heap[b]?:=λb h=>Array.getElem?_setIfInBounds_ne (Ne.symm h);exact⟨rfl,rfl,rfl,by simp,λb _ h=>hb b (h 0),λb o _ h=>World.cell?_of_block (hb b h),λb o _ h=>World.frozen?_of_block (hb b h),λ_=>Nat.le_refl _⟩
section
variable{P:Program}{n d:Nat}{st:St}
theorem mU{w:World}{r:Nat}{es:Array MapEntry}{clock:Nat}(o:Obj)(hb:w.heap[r]?=some (.map es clock)):(setObj r o).run P w=.ok () {w with heap:=w.heap.setIfInBounds r o}:=by
 simp[setObj,Sem.run,hb]
theorem MRs.snoc{w:World}{X:bE}:∀{es:List (Value×AV)} {ms:List MapEntry} {k:Value} {x:AV} {m:MapEntry},MRs w X es ms->m.key=k->VR w X x m.val->MRs w X (es++[(k,x)]) (ms++[m])
 |[],[],_,_,_,_,h1,h2=>⟨h1,h2,trivial⟩
 |(_,_)::_,_::_,_,_,_,h,h1,h2=>⟨h.1,h.2.1,MRs.snoc h.2.2 h1 h2⟩
theorem bFn[Mode]{t kt et:TypeId}{α β:Type}[DecidableEq α]{kv:α->Value}{av:β->AV}{l:List (α×β)}{z:β}{zv:Value}{a:α}{x y:Operand}{r m:Nat}{bs:List Nat}{clock:Nat}{ty:TypeId}{pos:String}{af:Array Edge}{gd:Option (Nat×Bool)}(hd:d<n)
  (hk:oV P kt kv)(ht:P.underlying t=some (.map kt et))(hz:∀w,(zeroValue et).run P w=.ok zv w)(hzv:∀w X,VR w X (av z) zv)
  (hx:st.eval x=.d (.lit (.map (some r))))(ho:st.objs[m]?=some (.map r (l.map λp=>(kv p.1,av p.2)) bs clock))(hyk:cJ y=true){yv:AV}(hyv:st.eval y=yv)(hy:wL kv yv a):
  aY P n ⟨some d,.mapEntry t x y,ty,pos,af,gd⟩ st ⟨upd st.env d (.tup [av (aR a z l),.d (.lit (.int .i64 (rW a l bs clock)))]),st.objs.set m (.map r ((pK a z l).map λp=>(kv p.1,av p.2)) (mbs a l bs clock) (mck a l clock))⟩:=by
 intro A M w0 ac w hR K Q hK;obtain⟨ms,hh,hms,hb1,hb2,hb3⟩:=hR.inv.holds _ (List.mem_of_getElem? ho);have hkey:=hy _ _ _ (hyv▸hR.eval' hyk);have hkeys:ms.toList.map (·.key)=(l.map (·.1)).map kv:=by rw[hms.keys];simp
 have hf:=hk.find a (l.map (·.1)) ms.toList w hkeys;have hrl:r<w.heap.size:=(Array.getElem?_eq_some_iff.1 hh).1;unfold Oper.wp
 rcases qT a z l with⟨h1,h2⟩|⟨j,p,h1,h2,h3,h4⟩
 ·have hhas:cN a l=false:=by rw[mB,h1];rfl
  have hrun:(execOp ac.eval ⟨some d,.mapEntry t x y,ty,pos,af,gd⟩).run P w=.ok (.value (.tuple #[zv,.int .i64 clock])) {w with heap:=w.heap.setIfInBounds r (.map (ms.push {key:=kv a,val:=zv,born:=clock}) (clock+1))}:=by
   simp[execOp,hR.lit hx,hkey,Instr.mapEntry,run_underlying ht,dF hh,hk.chk,hf,h1,hz,mU _ hh,goInt]
  rw [hrun,Oper.upon_value];refine hK _ _ _ rfl ?_;have hR':=hR.replace (w':={w with heap:=w.heap.setIfInBounds r (.map (ms.push {key:=kv a,val:=zv,born:=clock}) (clock+1))}) (m':=.map r ((pK a z l).map λp=>(kv p.1,av p.2)) (mbs a l bs clock) (mck a l clock)) ho
   (Keeps.setObj w r _) (λb o hb=>by subst hb;rfl) (λb o hf=>.inl hf) λhmono=>by
    refine⟨ms.push {key:=kv a,val:=zv,born:=clock},?_,?_,?_,?_,?_⟩
    ·simp[hrl,mck,hhas]
    ·have hm2:=hms.mono hmono
     revert hm2
     generalize aV A (st.objs.set m (.map r ((pK a z l).map λp=>(kv p.1,av p.2)) (mbs a l bs clock) (mck a l clock)))=Z
     intro hm2;simp only[pK,hhas,cond_false,List.map_append,Array.toList_push];exact MRs.snoc hm2 rfl (hzv _ _)
    ·simp[mbs,hhas,hb1]
    ·simp only[mbs,hhas,cond_false];exact List.pairwise_append.2 ⟨hb2,by simp,λx hx y hy=>by simp at hy;subst hy;exact hb3 x hx⟩
    ·simp only[mbs,hhas,cond_false,mck];intro b hb
     rcases List.mem_append.1 hb with h|h
     ·have:=hb3 b h;omega
     ·simp at h;omega
  have e:rW a l bs clock=clock:=by simp[rW,h1]
  rw[h2,e];exact hR'.put (o:=⟨some d,.mapEntry t x y,ty,pos,af,gd⟩) rfl hd (.tup (us:=[_,_]) rfl λi hi=>by
   match i,hi with
   |0,_=>exact hzv _ _
   |1,_=>exact .d (.lit _ rfl))
 ·have hhas:cN a l=true:=by rw[mB,h1];rfl
  obtain⟨e,he,hv⟩:=hms.get (j:=j) (e:=(kv p.1,av p.2)) (by simp[h2]);have he':ms[j]?=some e:=by simpa using he
  have hke:e.key=kv a:=by
   have:=congrArg (λq=>q[j]?) hkeys
   simp[he',h2,h4] at this
   exact this
  have hmod:ms.modify j (λe=>{e with key:=kv a})=ms:=by
   apply Array.ext_getElem?;intro q;rw[Array.getElem?_modify]
   split
   ·rename_i hq;subst hq;rw[he'];simp[<-hke]
   ·rfl
  have hset:w.heap.setIfInBounds r (.map ms clock)=w.heap:=by
   apply Array.ext_getElem?;intro q;rw[Array.getElem?_setIfInBounds]
   split
   ·rename_i hq;cases hq;rw[hh]
   ·rfl
  have hrun:(execOp ac.eval ⟨some d,.mapEntry t x y,ty,pos,af,gd⟩).run P w=.ok (.value (.tuple #[e.val,.int .i64 e.born])) w:=by
   simp[execOp,hR.lit hx,hkey,Instr.mapEntry,run_underlying ht,dF hh,hk.chk,hf,h1,he',hke,hk.stays,hmod,mU _ hh,goInt,hset]
  rw[hrun,Oper.upon_value];refine hK _ _ _ rfl ?_;have e1:rW a l bs clock=e.born:=by simp[rW,h1,<-hb1,List.getD,he]
  have e2:st.objs.set m (.map r ((pK a z l).map λp=>(kv p.1,av p.2)) (mbs a l bs clock) (mck a l clock))=st.objs:=by
   simp only[pK,mbs,mck,hhas,cond_true];apply List.ext_getElem?;intro q;rw[List.getElem?_set]
   split
   ·rename_i hq;subst hq;rw[ho];simp;have:=(List.getElem?_eq_some_iff.1 ho).1;omega
   ·rfl
  rw[h3,e1,e2];exact hR.put (o:=⟨some d,.mapEntry t x y,ty,pos,af,gd⟩) rfl hd (.tup (us:=[_,_]) rfl λi hi=>by
   match i,hi with
   |0,_=>exact hv
   |1,_=>exact .d (.lit _ rfl))
end
theorem aQt{α:Type}[DecidableEq α](a:α):∀(l:List α),dT a l=none->dT a (l++[a])=some l.length
 |[],_=>by simp[dT]
 | b::l,h=>by
  simp only[dT] at h
  by_cases hab:a=b
  ·simp[hab] at h
  ·simp[hab] at h
   simp[dT,hab,aQt a l h]
theorem bId{α β:Type}[DecidableEq α](a:α)(z:β)(l:List (α×β))(bs:List Nat)(clock:Nat)(hl:bs.length=l.length):
  ∃j,dT a ((pK a z l).map (·.1))=some j/\(mbs a l bs clock)[j]?=some (rW a l bs clock):=by
 cases h:dT a (l.map (·.1)) with
 | none=>
  have hh:cN a l=false:=by rw[mB,h];rfl
  refine⟨l.length,?_,?_⟩
  ·simp only[pK,hh,cond_false,List.map_append,List.map_cons,List.map_nil];have:=aQt a _ h
   simpa using this
  ·simp[mbs,hh,rW,h,<-hl]
 | some j=>
  have hh:cN a l=true:=by rw[mB,h];rfl
  refine⟨j,by simp[pK,hh,h],?_⟩
  rcases qT a z l with⟨h1,_⟩|⟨j',p,h1,h2,_⟩
  ·rw[h] at h1;cases h1
  ·rw[h] at h1;cases h1;have hj:=(List.getElem?_eq_some_iff.1 h2).1
   simp[mbs,hh,rW,h,List.getD,List.getElem?_eq_getElem (show j<bs.length by omega)]
theorem aTa{α β:Type}[DecidableEq α](a:α)(v:β):∀(l:List (α×β)) (j:Nat),dT a (l.map (·.1))=some j->dL a v l=l.set j (a,v)
 |[],j,h=>by simp[dT] at h
 | (b,u)::l,j,h=>by
  simp only[List.map_cons,dT] at h
  by_cases hab:a=b
  ·simp[hab] at h;subst h;simp[dL,hab]
  ·simp[hab] at h
   obtain⟨i,hi,rfl⟩:=h
   simp[dL,hab,aTa a v l i hi]
theorem bIg{α β:Type}[DecidableEq α](a:α)(v z:β)(l:List (α×β)):dL a v (pK a z l)=dL a v l:=by
 cases h:cN a l with
 |true=>simp[pK,h]
 | false=>
  simp only[pK,h,cond_false]
  induction l with
  |nil=>simp[dL]
  | cons p l ih=>
   obtain⟨b,u⟩:=p;simp only[cN,Bool.or_eq_false_iff,decide_eq_false_iff_not] at h
   simp[dL,h.1,ih h.2]
theorem MRs.set{w:World}{X:bE}:∀{es:List (Value×AV)} {ms:List MapEntry} {j:Nat} {k:Value} {x:AV} {u:Value},MRs w X es ms->(es[j]?).map (·.1)=some k->VR w X x u->
  MRs w X (es.set j (k,x)) (ms.modify j λe=>{e with val:=u})
 |[],[],_,_,_,_,_,_,_=>by simp;trivial
 | (k0,x0)::es,m::ms,0,k,x,u,h,hk,hv=>by
  simp at hk;subst hk
  simp only[List.set_cons_zero,List.modify_zero_cons];exact⟨h.1,hv,h.2.2⟩
 | (k0,x0)::es,m::ms,j+1,k,x,u,h,hk,hv=>by
  simp only[List.set_cons_succ,List.modify_succ_cons];exact⟨h.1,h.2.1,MRs.set h.2.2 (by simpa using hk) hv⟩
section
variable{P:Program}{n d:Nat}{st:St}
theorem aZx[Mode]{t:TypeId}{α β:Type}[DecidableEq α]{kv:α->Value}{av:β->AV}{l:List (α×β)}{v:β}{a:α}{x y q:Operand}{r m j:Nat}{bs:List Nat}{clock b:Nat}{ty:TypeId}{pos:String}{af:Array Edge}{gd:Option (Nat×Bool)}
  (hx:st.eval x=.d (.lit (.map (some r))))(ho:st.objs[m]?=some (.map r (l.map λp=>(kv p.1,av p.2)) bs clock))(hq:st.eval q=.d (.lit (.int .i64 b)))
  (hyk:cJ y=true)(hy:st.eval y=av v)(hj:dT a (l.map (·.1))=some j)(hb:bs[j]?=some b):
  aY P n ⟨none,.entryStore t x q y,ty,pos,af,gd⟩ st ⟨st.env,st.objs.set m (.map r ((dL a v l).map λp=>(kv p.1,av p.2)) bs clock)⟩:=by
 intro A M w0 ac w hR K Q hK;obtain⟨ms,hh,hms,hb1,hb2,hb3⟩:=hR.inv.holds _ (List.mem_of_getElem? ho);have hv:=hR.eval' hyk;rw[hy] at hv;have hrl:r<w.heap.size:=(Array.getElem?_eq_some_iff.1 hh).1;have hjl:(l[j]?).map (·.1)=some a:=by
  clear hb hb1 hb2 hb3 hms ho hK
  induction l generalizing j with
  |nil=>simp[dT] at hj
  | cons p l ih=>
   simp only[List.map_cons,dT] at hj
   by_cases hab:a=p.1
   ·simp[hab] at hj;subst hj;simp[hab]
   ·simp[hab] at hj
    obtain⟨i,hi,rfl⟩:=hj
    simpa using ih hi
 have hmj:(ms.toList[j]?).map (·.born)=some b:=by rw[<-hb1] at hb;simpa using hb
 have hfind:ms.findIdx? (λe=>(e.born:Int)==b)=some j:=by
  have hjm:j<ms.size:=by
   rw[Array.getElem?_toList] at hmj;cases h:ms[j]? with
   |none=>rw[h] at hmj;simp at hmj
   |some e=>exact(Array.getElem?_eq_some_iff.1 h).1
  rw[Array.findIdx?_eq_some_iff_findIdx_eq];refine⟨hjm,?_⟩;rw[Array.findIdx_eq hjm];have hbj:ms[j].born=b:=by
   rw[Array.getElem?_toList,Array.getElem?_eq_getElem hjm] at hmj
   simpa using hmj
  refine⟨by simp[hbj],λi hi=>?_⟩;have hpw:=List.pairwise_iff_getElem.1 hb2;have h1:i<bs.length:=by rw[<-hb1];simp;omega
  have h2:j<bs.length:=by rw[<-hb1];simp;omega
  have:=hpw i j h1 h2 hi;have e1:bs[i]=ms[i].born:=by simp[<-hb1]
  have e2:bs[j]=ms[j].born:=by simp[<-hb1]
  rw[e1,e2,hbj] at this
  simp;omega
 unfold Oper.wp;have hrun:(execOp ac.eval ⟨none,.entryStore t x q y,ty,pos,af,gd⟩).run P w=.ok .skip {w with heap:=w.heap.setIfInBounds r (.map (ms.modify j λe=>{e with val:=ac.eval y}) clock)}:=by
  simp[execOp,hR.lit hx,hR.lit hq,Instr.entryStore,dF hh,asInt,asIntOf,hfind,mU _ hh]
 rw [hrun,Oper.upon_skip];refine hK _ _ _ rfl ?_;have hR':=hR.replace (w':={w with heap:=w.heap.setIfInBounds r (.map (ms.modify j λe=>{e with val:=ac.eval y}) clock)}) (m':=.map r ((dL a v l).map λp=>(kv p.1,av p.2)) bs clock) ho
  (Keeps.setObj w r _) (λb o hb=>by subst hb;rfl) (λb o hf=>.inl hf) λhmono=>by
   refine⟨ms.modify j λe=>{e with val:=ac.eval y},by simp[hrl],?_,?_,hb2,hb3⟩
   ·have hm2:=hms.mono hmono;have hv2:=hv.mono hmono
    revert hm2 hv2
    generalize aV A (st.objs.set m (.map r ((dL a v l).map λp=>(kv p.1,av p.2)) bs clock))=Z
    intro hm2 hv2;rw[aTa a v l j hj,List.map_set,Array.toList_modify];refine MRs.set hm2 ?_ hv2;simp only[List.getElem?_map,Option.map_map];cases hl:l[j]? with
    |none=>rw[hl] at hjl;cases hjl
    |some p=>rw[hl] at hjl;simp at hjl|-;rw[hjl]
   ·rw[<-hb1,Array.toList_modify];apply List.ext_getElem?;intro i;simp only[List.getElem?_map,List.getElem?_modify];cases ms.toList[i]? with
    |none=>simp
    |some e=>simp;split<;>rfl
 exact hR'.put_none rfl
end
def aZn:Value->Bool
 | .int _ _| .bool _| .string _=>true
 |_=>false
theorem aTo(n:Nat)(v:Value)(h:aZn v=true):Instr.sameBits n v v=true:=by
 have hs:∀s:ByteArray,(s==s)=true:=λs=>by
  obtain⟨d⟩:=s;show(d==d)=true
  simp
 cases n<;>cases v<;>simp_all[Instr.sameBits,aZn]
theorem aYr(vs:List Value)(h:vs.all aZn=true)(P:Program)(w:World):(Instr.keyThatStays (.agg vs.toArray) (.agg vs.toArray)).run P w=.ok (.agg vs.toArray) w:=by
 have:Instr.sameBits 10000 (.agg vs.toArray) (.agg vs.toArray)=true:=by
  rw[show(10000:Nat)=9999+1 from rfl];simp only[Instr.sameBits,BEq.rfl,Bool.true_and]
  generalize(9999:Nat)=n
  induction vs with
  |nil=>rfl
  | cons v vs ih=>
   simp only[List.all_cons,Bool.and_eq_true] at h;have:=ih h.2
   simp_all[aTo n v h.1]
 simp[Instr.keyThatStays,this]
theorem bLw(k:IntKind)(a:Int)(P:Program)(w:World):(Instr.keyThatStays (.int k a) (.int k a)).run P w=.ok (.int k a) w:=by
 simp[Instr.keyThatStays,Instr.sameBits]
theorem aNk{k:IntKind}(a:Int):∀(l:List Int) (ms:List MapEntry) (i:Nat),ms.map (·.key)=l.map (λn=>Value.int k n)->
  Instr.findNow (.int k) (.int k a) ms i=some ((dT a l).bind λj=>(ms[j]?).map λe=>(i+j,e.val))
 |[],[],_,_=>by simp[Instr.findNow,dT]
 | b::l,m::ms,i,h=>by
  simp only[List.map_cons,List.cons.injEq] at h;simp only[Instr.findNow,h.1,Instr.sameNow,if_true,dT];have ih:=aNk (k:=k) a l ms (i+1) h.2
  by_cases hab:a=b
  ·simp[hab]
  ·have e:(a==b)=false:=by simpa using hab
   simp only[e,hab,decide_false,cond_false];rw[ih];cases dT a l with
   |none=>rfl
   |some j=>simp[Nat.add_assoc,Nat.add_comm 1 j]
 |[],_::_,_,h=>by simp at h
 |_::_,[],_,h=>by simp at h
theorem bHv{P:Program}{kt:TypeId}{k:IntKind}(hu:P.underlying kt=some (.int k)):oV P kt (λn:Int=>.int k n) where
 chk b a w:=by
  rw[show(10000:Nat)=9999+1 from rfl]
  generalize(9999:Nat)=m
  simp only[Instr.checkKey,Sem.run_bind,run_underlying hu,Result.andThen_ok]
  rfl
 find a l ms w h:=by simp[Instr.findKey,run_underlying hu,aNk a l ms 0 h]
 stays a w:=bLw k a P w
 inj a b h:=by simpa using h
theorem bIe{α β:Type}[DecidableEq α](a:α)(z:β)(l:List (α×β)):aR a z (pK a z l)=aR a z l:=by
 cases h:cN a l with
 |true=>simp[pK,h]
 | false=>
  simp only[pK,h,cond_false]
  induction l with
  |nil=>simp[aR]
  | cons p l ih=>
   obtain⟨b,u⟩:=p;simp only[cN,Bool.or_eq_false_iff,decide_eq_false_iff_not] at h
   simp[aR,h.1,ih h.2]
theorem nM{α:Type}{enc:α->List D}(a:α)(hl:dH (enc a)=true):wL (λa=>.agg ((enc a).map bD).toArray) (.agg (enc a)) a:=by
 intro w X u h;cases h with
 | agg h=>
  rename_i cs
  have:=aDa hl h;have:cs=((enc a).map bD).toArray:=by rw[<-this]
  rw[this]
theorem cC{α:Type}{kv:α->Value}(a:α):wL kv (.d (.lit (kv a))) a:=λ_ _ _ h=>h.lit
theorem og2{S:Nat->Bool}{objs:List MO}{i e:Nat}{m m':MO}(h:objs[i]?=some (sI S [(e,m')] m)):objs[i]?=some m\/objs[i]?=some m':=by
 rw[h];simp only[sI];cases S e<;>simp
section
variable{P:Program}{n d:Nat}{st:St}
theorem bJc[Mode]{t kt et:TypeId}{α β:Type}[DecidableEq α]{kv:α->Value}{av:β->AV}{l:List (α×β)}{z:β}{zv:Value}{a:α}{x y:Operand}{r m:Nat}{bs bs':List Nat}{clock clock':Nat}{ty:TypeId}{pos:String}{af:Array Edge}{gd:Option (Nat×Bool)}(hd:d<n)
  (hk:oV P kt kv)(ht:P.underlying t=some (.map kt et))(hz:∀w,(zeroValue et).run P w=.ok zv w)(hzv:∀w X,VR w X (av z) zv)
  (hx:st.eval x=.d (.lit (.map (some r))))(ho:st.objs[m]?=some (.map r (l.map λp=>(kv p.1,av p.2)) bs clock)\/st.objs[m]?=some (.map r ((pK a z l).map λp=>(kv p.1,av p.2)) bs' clock'))
  (hyk:cJ y=true){yv:AV}(hyv:st.eval y=yv)(hy:wL kv yv a):
  aY P n ⟨some d,.lookup t x y false,ty,pos,af,gd⟩ st (st.set d (av (aR a z l))):=by
 rcases ho with ho|ho
 ·exact aDs hd hk ht hz hzv hx ho hyk hyv hy
 ·rw[<-bIe];exact aDs hd hk ht hz hzv hx ho hyk hyv hy
theorem aWb[Mode]{t:TypeId}{α β:Type}[DecidableEq α]{kv:α->Value}{av:β->AV}{l:List (α×β)}{z v:β}{a:α}{x y q:Operand}{r m:Nat}{bs:List Nat}{clock clock':Nat}{ty:TypeId}{pos:String}{af:Array Edge}{gd:Option (Nat×Bool)}
  (hx:st.eval x=.d (.lit (.map (some r))))(ho:st.objs[m]?=some (.map r ((pK a z l).map λp=>(kv p.1,av p.2)) (mbs a l bs clock) clock'))(hq:st.eval q=.d (.lit (.int .i64 (rW a l bs clock))))
  (hyk:cJ y=true)(hy:st.eval y=av v):
  aY P n ⟨none,.entryStore t x q y,ty,pos,af,gd⟩ st ⟨st.env,st.objs.set m (.map r ((dL a v l).map λp=>(kv p.1,av p.2)) (mbs a l bs clock) clock')⟩:=by
 intro A M w0 ac w hR K Q hK;obtain⟨ms,hh,hms,hb1,_⟩:=hR.inv.holds _ (List.mem_of_getElem? ho);have hlen:bs.length=l.length:=by
  have h1:(mbs a l bs clock).length=(pK a z l).length:=by
   rw[<-hb1];have:=congrArg List.length hms.keys
   simpa using this
  cases h:cN a l<;>simpa[mbs,pK,h] using h1
 obtain⟨j,hj,hb⟩:=bId a z l bs clock hlen;have:=aZx (P:=P) (n:=n) (t:=t) (ty:=ty) (pos:=pos) (af:=af) (gd:=gd) hx ho hq hyk hy hj hb;rw[bIg] at this;exact this A M w0 ac w hR K Q hK
end
end Go.Am
end
