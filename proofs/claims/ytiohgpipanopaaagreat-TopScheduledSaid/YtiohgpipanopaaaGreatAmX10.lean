/- Walks by reckoning: a region whose order is open is carried out as if in the order of its text. -/
import Derived.Test.YtiohgpipanopaaaGreatAmX9
namespace Go.Am
def stD(D:Nat->Bool):Nat->List Oper->List Eff->VS->VS
 |k,o::l,e::es,S=>stD D (k+1) l es (bif D k then S.app o.dst e else S)
 |_,_,_,S=>S
theorem zI{S:VS}{dst:Option Nat}{e:Eff}{q:Nat}:lk (S.app dst e).env q=match dst with|some d=>bif Nat.beq d q then e.v else lk S.env q|none=>lk S.env q:=by
 cases dst<;>rfl
theorem aXd{D D':Nat->Bool}{q:Nat}:∀{l:List Oper} {es:List Eff} {k:Nat} {S S':VS},(∀j o,l[j]?=some o->o.dst=some q->D (k+j)=D' (k+j))->lk S.env q=lk S'.env q->lk (stD D k l es S).env q=lk (stD D' k l es S').env q
 |[],_,_,_,_,_,h=>by simpa[stD] using h
 |_::_,[],_,_,_,_,h=>by simpa[stD] using h
 | o :: l,e::es,k,S,S',hD,h=>by
  simp only[stD];refine aXd (λj o' hj ho=>?_) ?_
  ·have:=hD (j+1) o' (by simpa using hj) ho
   rwa[show k+1+j=k+(j+1) by omega]
  ·by_cases hq:o.dst=some q
   ·have:=hD 0 o rfl hq;simp only[Nat.add_zero] at this;rw[this];cases D' k with
    |true=>simp only[cond_true,zI,hq,Nat.beq_refl,cond_true]
    |false=>exact h
   ·have keep:∀S:VS,∀b:Bool,lk (bif b then S.app o.dst e else S).env q=lk S.env q:=λS b=>by
     cases b with
     |false=>rfl
     | true=>
      simp only[cond_true,zI];cases hd:o.dst with
      |none=>rfl
      | some d=>
       have:Nat.beq d q=false:=by
        cases hb:Nat.beq d q with
        |false=>rfl
        |true=>have:=Nat.eq_of_beq_eq_true hb;subst this;exact absurd hd hq
       simp only[this,cond_false]
    rw[keep S,keep S'];exact h
theorem bJj{D:Nat->Bool}{q:Nat}:∀{l:List Oper} {es:List Eff} {k i:Nat} {S:VS} {o:Oper} {e:Eff},l[i]?=some o->es[i]?=some e->o.dst=some q->D (k+i)=true->(∀j o',j≠i->l[j]?=some o'->o'.dst≠some q)->lk (stD D k l es S).env q=e.v
 |[],_,_,i,_,_,_,h,_,_,_,_=>by simp at h
 |_::_,[],_,i,_,_,_,_,h,_,_,_=>by simp at h
 | o::l,e::es,k,0,S,o1,e1,h1,h2,hd,hD,hu=>by
  simp at h1 h2;subst h1;subst h2
  simp only[Nat.add_zero] at hD;simp only[stD,hD,cond_true];have:=aXd (D:=D) (D':=λ_=>false) (q:=q) (l:=l) (es:=es) (k:=k+1) (S:=S.app o.dst e) (S':=S.app o.dst e) (λj o' hj ho=>absurd ho (hu (j+1) o' (by omega) (by simpa using hj))) rfl;rw[this];have e0:∀(l:List Oper) (es:List Eff) (k:Nat) (S:VS),stD (λ_=>false) k l es S=S:=by
   intro l
   induction l with
   |nil=>intros;simp[stD]
   |cons o l ih=>intro es k S;cases es<;>simp[stD,ih]
  rw[e0,zI,hd];simp
 | o::l,e::es,k,i+1,S,o1,e1,h1,h2,hd,hD,hu=>by
  simp only[stD];exact bJj (by simpa using h1) (by simpa using h2) hd (by rwa[show k+1+i=k+(i+1) by omega]) λj o' hj ho=>hu (j+1) o' (by omega) (by simpa using ho)
theorem bGa{D:Nat->Bool}:∀{l:List Oper} {es:List Eff} {k:Nat} {S:VS},gH S.objs->gH (stD D k l es S).objs
 |[],_,_,_,h=>by simpa[stD] using h
 |_::_,[],_,_,h=>by simpa[stD] using h
 | o::l,e::es,k,S,h=>by
  simp only[stD];refine bGa ?_;cases D k with
  |false=>exact h
  |true=>exact aAw h
theorem aOj{S:VS}{dst:Option Nat}{e:Eff}(h:gH S.objs)(q:Nat):ob (S.app dst e).objs q=cOb e.ch (ob S.objs) q:=bDd h q
theorem aXe{D D':Nat->Bool}{q:Nat}:∀{l:List Oper} {es:List Eff} {k:Nat} {S S':VS},gH S.objs->gH S'.objs->(∀j e,es[j]?=some e->bG q (sN e.ch)=true->D (k+j)=D' (k+j))->ob S.objs q=ob S'.objs q->ob (stD D k l es S).objs q=ob (stD D' k l es S').objs q
 |[],_,_,_,_,_,_,_,h=>by simpa[stD] using h
 |_::_,[],_,_,_,_,_,_,h=>by simpa[stD] using h
 | o ::l,e::es,k,S,S',h1,h2,hD,h=>by
  simp only[stD];refine aXe ?_ ?_ (λj e' hj ho=>?_) ?_
  ·cases D k with
   |false=>exact h1
   |true=>exact aAw h1
  ·cases D' k with
   |false=>exact h2
   |true=>exact aAw h2
  ·have:=hD (j+1) e' (by simpa using hj) ho
   rwa[show k+1+j=k+(j+1) by omega]
  ·cases hq:bG q (sN e.ch) with
   | true=>
    have:=hD 0 e rfl hq;simp only[Nat.add_zero] at this;rw[this];cases D' k with
    |true=>simp only[cond_true];rw[aOj h1,aOj h2];exact bDb (.inl hq)
    |false=>exact h
   | false=>
    have keep:∀S:VS,gH S.objs->∀b:Bool,ob (bif b then S.app o.dst e else S).objs q=ob S.objs q:=λS hS b=>by
     cases b with
     |false=>rfl
     |true=>simp only[cond_true];rw[aOj hS];exact aXu hq
    rw[keep S h1,keep S' h2];exact h
theorem aYz(l:List Oper):∀(es:List Eff) (k:Nat) (S:VS),stD (λ_=>false) k l es S=S:=by
 induction l with
 |nil=>intros;simp[stD]
 |cons o l ih=>intro es k S;cases es<;>simp[stD,ih]
theorem bJi{D:Nat->Bool}{q:Nat}:∀{l:List Oper} {es:List Eff} {k i:Nat} {S:VS} {o:Oper} {e:Eff},gH S.objs->l[i]?=some o->es[i]?=some e->bG q (sN e.ch)=true->D (k+i)=true->(∀j e',i<j->es[j]?=some e'->bG q (sN e'.ch)=true->D (k+j)=false)->∀f,ob (stD D k l es S).objs q=cOb e.ch f q
 |[],_,_,i,_,_,_,_,h,_,_,_,_=>by simp at h
 |_::_,[],_,i,_,_,_,_,_,h,_,_,_=>by simp at h
 | o::l,e::es,k,0,S,o1,e1,hS,h1,h2,hq,hD,hu=>λf=>by
  simp at h1 h2;subst h1;subst h2
  simp only[Nat.add_zero] at hD;simp only[stD,hD,cond_true];have:=aXe (D:=D) (D':=λ_=>false) (q:=q) (l:=l) (es:=es) (k:=k+1) (S:=S.app o.dst e) (S':=S.app o.dst e) (aAw hS) (aAw hS) (λj e' hj ho=>by
   have:=hu (j+1) e' (by omega) (by simpa using hj) ho
   rwa[show k+1+j=k+(j+1) by omega]) rfl
  rw[this,aYz,aOj hS];exact bDb (.inl hq)
 | o::l,e::es,k,i+1,S,o1,e1,hS,h1,h2,hq,hD,hu=>λf=>by
  simp only[stD];refine bJi ?_ (by simpa using h1) (by simpa using h2) hq (by rwa[show k+1+i=k+(i+1) by omega]) (λj e' hj he ho=>?_) f
  ·cases D k with
   |false=>exact hS
   |true=>exact aAw hS
  ·have:=hu (j+1) e' (by omega) (by simpa using he) ho
   rwa[show k+1+j=k+(j+1) by omega]
theorem bJh{D:Nat->Bool}{h:Nat}:∀{l:List Oper} {es:List Eff} {k:Nat} {S:VS},pI h S=false->(∀j e,es[j]?=some e->D (k+j)=true->aBl h e=false)->pI h (stD D k l es S)=false
 |[],_,_,_,h,_=>by simpa[stD] using h
 |_::_,[],_,_,h,_=>by simpa[stD] using h
 | o::l,e::es,k,S,hS,hD=>by
  simp only[stD];refine bJh ?_ λj e' hj hd=>hD (j+1) e' (by simpa using hj) (by rwa[show k+(j+1)=k+1+j by omega]);cases hk:D k with
  |false=>exact hS
  |true=>exact aXm hS (hD 0 e rfl (by simpa using hk))
theorem aQf{D D':Nat->Bool}:∀{l:List Oper} {es:List Eff} {k:Nat} {S:VS},(∀j,j<l.length->D (k+j)=D' (k+j))->stD D k l es S=stD D' k l es S
 |[],_,_,_,_=>by simp[stD]
 |_::_,[],_,_,_=>by simp[stD]
 | o::l,e::es,k,S,h=>by
  have:=h 0 (by simp);simp only[Nat.add_zero] at this;simp only[stD,this];exact aQf λj hj=>by
   have:=h (j+1) (by simpa using hj)
   rwa[show k+(j+1)=k+1+j by omega] at this
theorem aZq{P:Program}{n:Nat}{ops:List Oper}:∀{l:List Oper} {es:List Eff} {S S1:VS} {k:Nat},uN P n ops l S es S1->es.length=l.length/\S1=stD (λ_=>true) k l es S/\∀(i:Nat) (o:Oper) (e:Eff),l[i]?=some o->es[i]?=some e->aCl P n ops o (stD (λj=>Nat.blt j (k+i)) k l es S) e/\∀h∈e.nw,pI h (stD (λj=>Nat.blt j (k+i)) k l es S)=false/\Nat.ble 100000 h=false
 |[],[],S,S1,k,h=>⟨rfl,by simpa[uN,stD] using h.symm,λi o e hi=>by simp at hi⟩
 | o ::l,e::es,S,S1,k,h=>by
  obtain⟨h1,h2,h3⟩:=h;obtain⟨a,b,c⟩:=aZq (k:=k+1) h3;refine⟨by simp[a],by simp only[stD,cond_true];exact b,λi o' e' hi he=>?_⟩;cases i with
  | zero=>
   simp at hi he;subst hi;subst he
   have:stD (λj=>Nat.blt j (k+0)) k (o::l) (e::es) S=S:=by
    have:stD (λj=>Nat.blt j (k+0)) k (o::l) (e::es) S=stD (λ_=>false) k (o::l) (e::es) S:=aQf λj _=>by
     cases hb:Nat.blt (k+j) (k+0) with
     |false=>rfl
     |true=>have:=Nat.le_of_ble_eq_true hb;omega
    rw[this,aYz]
   rw[this];exact⟨h1,h2⟩
  | succ i=>
   have:=c i o' e' (by simpa using hi) (by simpa using he);simp only[stD,show Nat.blt k (k+(i+1))=true from Nat.ble_eq_true_of_le (by omega),cond_true]
   rwa[show k+(i+1)=k+1+i by omega]
 |[],_::_,_,_,_,h=>h.elim
 |_::_,[],_,_,_,h=>h.elim
theorem aTv{l:List Oper}(hb:zT l=true):∀i,i<l.length->∀j,bG j ((dC l l.length).getD i [])=true->j<i:=by
 intro i
 induction i using Nat.strongRecOn with
 | _ i ih=>
  intro hi j hj;rw[jK,yG l _ i hi] at hj;obtain⟨e,he,hj⟩:=aSx hj;have hei:=aXo hb hi e he
  rcases hj with rfl|hj
  ·exact hei
  ·rw[yG l i e hei] at hj;have:=ih e hei (by omega) j (jK.2 (by rwa[yG l _ e (by omega)]))
   omega
theorem bXu{P:Program}{n id:Nat}{β:yW}{l:List Oper}{S S1:VS}{es:List Eff}(hm:P.follows .mixedOrders=true)(hb:zT l=true)(hd:xS n l=true)(hch:uN P n l l S es S1)(ho:gH S.objs)
  (H0:∀(i j:Nat) (o o':Oper) (q:Nat),i≠j->l[i]?=some o->l[j]?=some o'->o.dst=some q->o'.dst≠some q)
  (H1:∀(i j:Nat) (o o':Oper) (q:Nat),i≠j->l[i]?=some o->l[j]?=some o'->q∈rdO l o->o'.dst=some q->bG j ((dC l l.length).getD i [])=true\/bG i ((dC l l.length).getD j [])=true)
  (H2:∀(i j:Nat) (e e':Eff),i≠j->es[i]?=some e->es[j]?=some e'->bG j ((dC l l.length).getD i [])=false->bG i ((dC l l.length).getD j [])=false->∀h,bG h (sN e'.ch)=true->h∉e.us/\bG h (sN e.ch)=false)
  (H3:∀(i j:Nat) (e e':Eff),i≠j->es[i]?=some e->es[j]?=some e'->bG i ((dC l l.length).getD j [])=false->∀h∈e.nw,aBl h e'=false)
  (H4:∀(i:Nat) (e:Eff),es[i]?=some e->∀h∈e.nw,pI h S=false)(ρ:Rho)(hρ:ρ.β=β):Tr P n (.region id l.toArray true) (S.at ρ) λe st=>e=.normal/\∃ρ':Rho,ρ'.β=β/\Ent st (S1.at ρ'):=by
 obtain⟨hlen,hS1,hget⟩:=aZq (k:=0) hch;refine aUd l.length (λD st=>∃ρ':Rho,ρ'.β=β/\st=(stD D 0 l es S).at ρ') hm hb ?_ (Nat.ble_eq_true_of_le (Nat.le_refl _))
  ((List.range l.length).map λi=>((dC l l.length).getD i [],(List.range l.length).filter λj=>bG i ((dC l l.length).getD j []))) ?_ ⟨ρ,hρ,by rw[aYz]⟩ ?_ ?_ ?_
 ·simp only[wZ,List.all_eq_true,List.mem_range];intro i hi;rw[show Nat.blt i l.length=true from Nat.ble_eq_true_of_le hi];rfl
 ·simp only[aQj,List.all_eq_true,List.mem_range];intro i hi;have:((List.range l.length).map λi=>((dC l l.length).getD i [],(List.range l.length).filter λj=>bG i ((dC l l.length).getD j []))).getD i ([],[])=((dC l l.length).getD i [],(List.range l.length).filter λj=>bG i ((dC l l.length).getD j [])):=by
   simp[List.getD,hi]
  rw[this];simp only[Bool.and_eq_true,List.all_eq_true,List.mem_filter,List.mem_range];exact⟨λj hj=>jK.2 hj,λj hj=>⟨Nat.ble_eq_true_of_le hj.1,hj.2⟩⟩
 ·rintro D D' st' hD ⟨ρ',h1,rfl⟩;exact⟨ρ',h1,by rw[aQf (D:=D') (D':=D) λj hj=>by rw[Nat.zero_add];exact hD j hj]⟩
 ·rintro i o hi D st' ⟨ρ',hβ,rfl⟩ hDi hK;have hi':l[i]?=some o:=by rwa[List.take_length] at hi
  have hil:i<l.length:=(List.getElem?_eq_some_iff.1 hi').1;obtain⟨e,he⟩:∃e,es[i]?=some e:=⟨_,List.getElem?_eq_getElem (by omega)⟩;obtain⟨hg,hfr⟩:=hget i o e hi' he;simp only[Nat.zero_add] at hg hfr;have hyn:((List.range l.length).map λi=>((dC l l.length).getD i [],(List.range l.length).filter λj=>bG i ((dC l l.length).getD j []))).getD i ([],[])=((dC l l.length).getD i [],(List.range l.length).filter λj=>bG i ((dC l l.length).getD j [])):=by
   simp[List.getD,hil]
  rw [hyn] at hK;have hyes:∀j,bG j ((dC l l.length).getD i [])=true->D j=true:=hK.y;have hno:∀j,j<l.length->bG i ((dC l l.length).getD j [])=true->D j=false:=λj hj hm=>hK.n j (jK.2 (List.mem_filter.2 ⟨List.mem_range.2 hj,hm⟩));have ord:∀j,j<l.length->j≠i->(bG j ((dC l l.length).getD i [])=true\/bG i ((dC l l.length).getD j [])=true)->D j=Nat.blt j i:=by
   intro j hj hji hor
   rcases hor with h|h
   ·rw[hyes j h,show Nat.blt j i=true from Nat.ble_eq_true_of_le (aTv hb i hil j h)]
   ·rw[hno j hj h];have:=aTv hb j hj i h;cases hbl:Nat.blt j i with
    |false=>rfl
    |true=>have:=Nat.le_of_ble_eq_true hbl;omega
  have hbii:Nat.blt i i=false:=by
   cases hbl:Nat.blt i i with
   |false=>rfl
   |true=>have:=Nat.le_of_ble_eq_true hbl;omega
  have hesl:∀j (e':Eff),es[j]?=some e'->j<l.length:=λj e' h=>by have:=(List.getElem?_eq_some_iff.1 h).1;omega
  have hg':aCl P n l o (stD D 0 l es S) e:=by
   refine aVn hg (λq hq=>?_) λh hh=>?_
   ·refine aXd (λj o' hj hd'=>?_) rfl;rw[Nat.zero_add]
    by_cases hji:j=i
    ·subst hji;rw[hDi,hbii]
    ·exact ord j (List.getElem?_eq_some_iff.1 hj).1 hji (H1 i j o o' q (Ne.symm hji) hi' hj hq hd')
   ·refine aXe ho ho (λj e' hj hk=>?_) rfl;rw[Nat.zero_add]
    by_cases hji:j=i
    ·subst hji;rw[hDi,hbii]
    ·refine ord j (hesl j e' hj) hji ?_;cases h1:bG j ((dC l l.length).getD i []) with
     |true=>exact .inl rfl
     | false=>
      cases h2:bG i ((dC l l.length).getD j []) with
      |true=>exact .inr rfl
      |false=>exact absurd hh (H2 i j e e' (Ne.symm hji) he hj h1 h2 h hk).1
  have hfresh:∀h∈e.nw,pI h (stD D 0 l es S)=false/\Nat.ble 100000 h=false:=λh hh=>by
   refine⟨bJh (H4 i e he h hh) λj e' hj hDj=>?_,(hfr h hh).2⟩;rw[Nat.zero_add] at hDj;have hji:j≠i:=λe0=>by subst e0;rw[hDi] at hDj;cases hDj
   refine H3 i j e e' (Ne.symm hji) he hj ?_ h hh;cases h2:bG i ((dC l l.length).getD j []) with
   |false=>rfl
   |true=>rw[hno j (hesl j e' hj) h2] at hDj;cases hDj
  have after:∀ρ2:Rho,Ent (((stD D 0 l es S).app o.dst e).at ρ2) ((stD (λj=>Nat.beq j i||D j) 0 l es S).at ρ2):=by
   intro ρ2;have henv:∀q,lk ((stD D 0 l es S).app o.dst e).env q=lk (stD (λj=>Nat.beq j i||D j) 0 l es S).env q:=by
    intro q;rw[zI];have off:o.dst≠some q->lk (stD D 0 l es S).env q=lk (stD (λj=>Nat.beq j i||D j) 0 l es S).env q:=λhq=>by
     refine aXd (λj o' hj hd'=>?_) rfl;rw[Nat.zero_add];have hji:j≠i:=λe0=>by subst e0;rw[hi'] at hj;cases hj;exact hq hd'
     have:Nat.beq j i=false:=by
      cases hbj:Nat.beq j i with
      |false=>rfl
      |true=>exact absurd (Nat.eq_of_beq_eq_true hbj) hji
     rw[this,Bool.false_or]
    cases hdst:o.dst with
    |none=>exact off (by rw[hdst];simp)
    | some d=>
     cases hbq:Nat.beq d q with
     | true=>
      have:=Nat.eq_of_beq_eq_true hbq;subst this;simp only[hbq,cond_true];exact(bJj hi' he hdst (by simp) λj o' hj ho'=>H0 i j o o' d (Ne.symm hj) hi' ho' hdst).symm
     | false=>
      simp only[hbq,cond_false];exact off (by rw[hdst];intro e0;cases e0;simp at hbq)
   have hok1:gH (stD D 0 l es S).objs:=bGa ho;have hobj:((stD D 0 l es S).app o.dst e).objs.Perm (stD (λj=>Nat.beq j i||D j) 0 l es S).objs:=by
    refine bLj (aAw hok1) (bGa ho) λq=>?_;rw[aOj hok1];cases hq:bG q (sN e.ch) with
    | true=>
     refine(bJi ho hi' he hq (by simp) (λj e' hij hj hk=>?_) _).symm;rw[Nat.zero_add];have hji:j≠i:=by omega
     have:Nat.beq j i=false:=by
      cases hbj:Nat.beq j i with
      |false=>rfl
      |true=>exact absurd (Nat.eq_of_beq_eq_true hbj) hji
     rw[this,Bool.false_or];have h1:bG j ((dC l l.length).getD i [])=false:=by
      cases h1:bG j ((dC l l.length).getD i []) with
      |false=>rfl
      |true=>have:=aTv hb i hil j h1;omega
     cases h2:bG i ((dC l l.length).getD j []) with
     |true=>exact hno j (hesl j e' hj) h2
     | false=>
      have:=(H2 i j e e' (Ne.symm hji) he hj h1 h2 q hk).2;rw[hq] at this;cases this
    | false=>
     rw[aXu hq];refine aXe ho ho (λj e' hj hk=>?_) rfl;rw[Nat.zero_add];have hji:j≠i:=λe0=>by subst e0;rw[he] at hj;cases hj;rw[hq] at hk;cases hk
     have:Nat.beq j i=false:=by
      cases hbj:Nat.beq j i with
      |false=>rfl
      |true=>exact absurd (Nat.eq_of_beq_eq_true hbj) hji
     rw[this,Bool.false_or]
   have e1:(λq=>ρ2.av (lk ((stD D 0 l es S).app o.dst e).env q))=λq=>ρ2.av (lk (stD (λj=>Nat.beq j i||D j) 0 l es S).env q):=funext λq=>by rw[henv q]
   unfold VS.at;rw[e1];exact aLt (hobj.map _)
  have hdo:=aVc hd o (List.mem_of_getElem? hi');have run:pO P n o (stD D 0 l es S) e->Step P n o ((stD D 0 l es S).at ρ') (λs=>∃st3,(∃ρ'':Rho,ρ''.β=β/\st3=(stD (λj=>Nat.beq j i||D j) 0 l es S).at ρ'')/\Ent s st3):=λhs=>
   kV (hs _ ⟨λ_ _=>rfl,λ_ _=>rfl⟩ hfresh ρ') λs ⟨ρ2,h2,hent⟩=>⟨_,⟨ρ2,h2.trans hβ,rfl⟩,hent.trans (after ρ2)⟩
  have skip:e=.p (.tup [])->∀d,o.dst=some d->∃st3,(∃ρ'':Rho,ρ''.β=β/\st3=(stD (λj=>Nat.beq j i||D j) 0 l es S).at ρ'')/\Ent (((stD D 0 l es S).at ρ').set d (.tup [])) st3:=λhep d hdst=>by
   refine⟨_,⟨ρ',hβ,rfl⟩,?_⟩;have a:=after ρ';have e2:((stD D 0 l es S).at ρ').set d (.tup [])=((stD D 0 l es S).app o.dst e).at ρ':=by
    rw[hep,hdst];exact at_set _ d (.tup [])
   rw[e2];exact a
  unfold aCl at hg';split at hg'
  ·rename_i hgd
   exact .inl ⟨λ_ _ _ _ _ _=>by simp[Region.wanted,hgd],run hg'⟩
  ·rename_i j g hgd
   obtain⟨s,hs,hsn,hg'⟩:=hg';have hj:(l.toArray[j]?).bind (·.dst)=some s:=by simpa using hs
   rcases hg' with⟨c,hc,⟨hcg,h⟩|⟨hcg,hep,d,hdst,hdn⟩⟩|⟨hc,hep,d,hdst,hdn⟩
   ·subst hcg;exact .inl ⟨λA M w0 a w hR=>by simp[Region.wanted,hgd,yV hR hj hsn (aBj hc)],run h⟩
   ·exact .inr ⟨λA M w0 a w hR=>by simp[Region.wanted,hgd,yV hR hj hsn (aBj hc),hcg],d,hdst,hdn,skip hep d hdst⟩
   ·refine .inr ⟨λA M w0 a w hR=>?_,d,hdst,hdn,skip hep d hdst⟩;have h:=hR.env s;rw[aBj hc] at h;have hlt:s<a.tmps.size:=by rw[hR.size];exact hsn
    rw[Array.getD_eq_getD_getElem?,Array.getElem?_eq_getElem hlt,Option.getD_some] at h;have hy:yielded l.toArray a.tmps j=none:=by
     simp only[yielded,hj,Option.bind_some,Array.getElem?_eq_getElem hlt]
     generalize a.tmps[s]=u at h
     cases h;rfl
    simp[Region.wanted,hgd,hy]
 ·rintro st' ⟨ρ',hβ,rfl⟩;rw[List.drop_length];refine bWz ⟨rfl,ρ',hβ,?_⟩;rw[hS1];exact Ent.refl _
end Go.Am
