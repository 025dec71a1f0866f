/- Walks by reckoning: a region whose order is open. -/
import Derived.Test.YtiohgpipanopaaaGreatAmX5
namespace Go.Am
def sN(c:List (Nat×Option VO)):List Nat:=c.map (·.1)
def cOb:List (Nat×Option VO)->(Nat->Option VO)->Nat->Option VO
 |[],f=>f
 |(k,m)::c,f=>cOb c λh=>bif Nat.beq k h then m else f h
theorem aXu{h:Nat}:∀{c:List (Nat×Option VO)} {f:Nat->Option VO},bG h (sN c)=false->cOb c f h=f h
 |[],_,_=>rfl
 | (k,m)::c,f,hk=>by
  simp only[sN,List.map_cons,bG] at hk;cases hb:Nat.beq k h with
  |true=>rw[hb] at hk;cases hk
  | false=>
   rw[hb] at hk;simp only[cOb];rw[aXu (by simpa[sN] using hk)]
   simp[hb]
theorem bDb{h:Nat}:∀{c:List (Nat×Option VO)} {f g:Nat->Option VO},(bG h (sN c)=true\/f h=g h)->cOb c f h=cOb c g h
 | [],f,g,hk=>by
  rcases hk with hk|hk
  ·cases hk
  ·exact hk
 | (k,m)::c,f,g,hk=>by
  simp only[cOb];refine bDb ?_;simp only[sN,List.map_cons,bG] at hk;cases hb:Nat.beq k h with
  |true=>right;simp
  | false=>
   rw[hb] at hk
   rcases hk with hk|hk
   ·left;simpa[sN] using hk
   ·right;simpa using hk
def gH(l:List (Nat×VO)):Prop:=(l.map (·.1)).Nodup
theorem bIt{h:Nat}:∀{l:List (Nat×VO)},h∉l.map (·.1)->ob l h=none
 |[],_=>rfl
 | (k,x)::l,hk=>by
  simp only[List.map_cons,List.mem_cons,not_or] at hk;have:Nat.beq k h=false:=by
   cases hb:Nat.beq k h with
   |false=>rfl
   |true=>exact absurd (Nat.eq_of_beq_eq_true hb).symm hk.1
  simp only[ob,this,cond_false];exact bIt hk.2
theorem bIz{h k:Nat}{m:VO}:∀{l:List (Nat×VO)},ob (nB h m l) k=bif Nat.beq h k then some m else ob l k
 |[]=>by simp[nB,ob]
 | (j,x)::l=>by
  simp only[nB];cases hb:Nat.beq j h with
  | true=>
   have:=Nat.eq_of_beq_eq_true hb;subst this;simp only[cond_true,ob];cases Nat.beq j k<;>rfl
  | false=>
   simp only[cond_false,ob,bIz (l:=l)];cases hc:Nat.beq j k with
   | true=>
    have:=Nat.eq_of_beq_eq_true hc;subst this;have:Nat.beq h j=false:=by
     cases hd:Nat.beq h j with
     |false=>rfl
     |true=>have:=Nat.eq_of_beq_eq_true hd;subst this;simp at hb
    simp[this]
   |false=>simp
theorem bAw{h:Nat}{m:VO}:∀{l:List (Nat×VO)},∀k∈(nB h m l).map (·.1),k=h\/k∈l.map (·.1)
 |[],k,hk=>by simp[nB] at hk;exact .inl hk
 | (j,x)::l,k,hk=>by
  simp only[nB] at hk;cases hb:Nat.beq j h with
  |true=>rw[hb] at hk;right;simpa using hk
  | false=>
   rw[hb] at hk;simp only[cond_false,List.map_cons,List.mem_cons] at hk|-
   rcases hk with hk|hk
   ·exact .inr (.inl hk)
   ·rcases bAw k hk with h1|h1
    ·exact .inl h1
    ·exact .inr (.inr h1)
theorem aYq{h:Nat}{m:VO}:∀{l:List (Nat×VO)},gH l->gH (nB h m l)
 |[],_=>by simp[gH,nB]
 | (j,x)::l,hl=>by
  simp only[gH,List.map_cons,List.nodup_cons] at hl;simp only[nB];cases hb:Nat.beq j h with
  |true=>simpa[gH] using hl
  | false=>
   simp only[cond_false,gH,List.map_cons,List.nodup_cons];refine⟨λhj=>?_,aYq hl.2⟩
   rcases bAw j hj with h1|h1
   ·subst h1;simp at hb
   ·exact hl.1 h1
theorem bDi{h:Nat}:∀{l:List (Nat×VO)},((sW h l).map (·.1)).Sublist (l.map (·.1))
 |[]=>.slnil
 | (j,x)::l=>by
  simp only[sW];cases Nat.beq j h with
  |true=>simp
  |false=>simpa using bDi (l:=l)
theorem bIc{h:Nat}{l:List (Nat×VO)}(hl:gH l):gH (sW h l):=List.Nodup.sublist bDi hl
theorem bIb{h k:Nat}:∀{l:List (Nat×VO)},gH l->ob (sW h l) k=bif Nat.beq h k then none else ob l k
 |[],_=>by simp[sW,ob]
 | (j,x)::l,hl=>by
  simp only[gH,List.map_cons,List.nodup_cons] at hl;simp only[sW];cases hb:Nat.beq j h with
  | true=>
   have:=Nat.eq_of_beq_eq_true hb;subst this;simp only[cond_true,ob];cases hc:Nat.beq j k with
   |true=>have:=Nat.eq_of_beq_eq_true hc;subst this;simp[bIt hl.1]
   |false=>simp
  | false=>
   simp only[cond_false,ob,bIb (l:=l) hl.2];cases hc:Nat.beq j k with
   | true=>
    have:=Nat.eq_of_beq_eq_true hc;subst this;have:Nat.beq h j=false:=by
     cases hd:Nat.beq h j with
     |false=>rfl
     |true=>have:=Nat.eq_of_beq_eq_true hd;subst this;simp at hb
    simp[this]
   |false=>simp
theorem aAw:∀{c:List (Nat×Option VO)} {l:List (Nat×VO)},gH l->gH (chg c l)
 |[],_,h=>h
 |(_,some _)::c,_,h=>by simp only[chg];exact aAw (aYq h)
 |(_,none)::c,_,h=>by simp only[chg];exact aAw (bIc h)
theorem bDd:∀{c:List (Nat×Option VO)} {l:List (Nat×VO)},gH l->∀h,ob (chg c l) h=cOb c (ob l) h
 |[],_,_,_=>rfl
 | (k,some m)::c,l,hl,h=>by
  simp only[chg,cOb];rw[bDd (aYq hl) h];exact congrArg (λf=>cOb c f h) (funext λq=>bIz)
 | (k,none)::c,l,hl,h=>by
  simp only[chg,cOb];rw[bDd (bIc hl) h];exact congrArg (λf=>cOb c f h) (funext λq=>bIb hl)
theorem aJi{h:Nat}{m:VO}:∀{l:List (Nat×VO)},ob l h=some m->(h,m)∈l
 |[],h=>by cases h
 | (k,x)::l,hm=>by
  simp only[ob] at hm;cases hb:Nat.beq k h with
  |true=>rw[hb] at hm;have:=Nat.eq_of_beq_eq_true hb;subst this;simp at hm;subst hm;simp
  |false=>rw[hb] at hm;exact List.mem_cons_of_mem _ (aJi (by simpa using hm))
theorem bEn{h:Nat}{m:VO}:∀{l:List (Nat×VO)},gH l->(h,m)∈l->ob l h=some m
 | (k,x)::l,hl,hm=>by
  simp only[gH,List.map_cons,List.nodup_cons] at hl;simp only[ob]
  rcases List.mem_cons.1 hm with e|hm
  ·cases e;simp
  ·have:Nat.beq k h=false:=by
    cases hb:Nat.beq k h with
    |false=>rfl
    |true=>have:=Nat.eq_of_beq_eq_true hb;subst this;exact absurd (List.mem_map.2 ⟨_,hm,rfl⟩) hl.1
   simp only[this,cond_false];exact bEn hl.2 hm
theorem bLj{l l':List (Nat×VO)}(h:gH l)(h':gH l')(he:∀k,ob l k=ob l' k):l.Perm l':=by
 have nd:∀{l:List (Nat×VO)},gH l->l.Nodup:=by
  intro l
  induction l with
  |nil=>intro _;exact .nil
  | cons p l ih=>
   intro h;simp only[gH,List.map_cons,List.nodup_cons] at h;exact List.nodup_cons.2 ⟨λhm=>h.1 (List.mem_map.2 ⟨p,hm,rfl⟩),ih h.2⟩
 refine(List.perm_ext_iff_of_nodup (nd h) (nd h')).2 λ⟨k,m⟩=>⟨λhm=>aJi ((he k).symm.trans (bEn h hm)),λhm=>aJi ((he k).trans (bEn h' hm))⟩
def aCl(P:Program)(n:Nat)(ops:List Oper)(o:Oper)(S:VS)(e:Eff):Prop:=match o.guard with
 |none=>pO P n o S e
 |some (j,g)=>∃s,(ops[j]?).bind (·.dst)=some s/\s<n/\((∃c,lk S.env s=.b c/\((c=g/\pO P n o S e)\/(c=!g/\e=.p (.tup [])/\∃d,o.dst=some d/\d<n)))\/(lk S.env s=.tup []/\e=.p (.tup [])/\∃d,o.dst=some d/\d<n))
def uN(P:Program)(n:Nat)(ops:List Oper):List Oper->VS->List Eff->VS->Prop
 |[],S,[],S'=>S=S'
 |o::l,S,e::es,S'=>aCl P n ops o S e/\(∀h∈e.nw,pI h S=false/\Nat.ble 100000 h=false)/\uN P n ops l (S.app o.dst e) es S'
 |_,_,_,_=>False
def cAj:Operand->Option Nat
 | .tmp t=>some t
 |_=>none
def gdS(ops:List Oper)(o:Oper):List Nat:=match o.guard with
 |some (j,_)=>((ops[j]?).bind (·.dst)).toList
 |none=>[]
def rdO(ops:List Oper)(o:Oper):List Nat:=o.op.operands.toList.filterMap cAj++gdS ops o
theorem aVn{P:Program}{n:Nat}{ops:List Oper}{o:Oper}{S S2:VS}{e:Eff}(h:aCl P n ops o S e)(he:∀k∈rdO ops o,lk S2.env k=lk S.env k)(ho:∀k∈e.us,ob S2.objs k=ob S.objs k):aCl P n ops o S2 e:=by
 have ev:∀x∈o.op.operands.toList,S2.ev x=S.ev x:=λx hx=>by
  cases x with
  |tmp t=>exact he t (List.mem_append.2 (.inl (List.mem_filterMap.2 ⟨.tmp t,hx,rfl⟩)))
  |_=>rfl
 have sem:pO P n o S e->pO P n o S2 e:=λh S' hA hn ρ=>h S' ⟨λx hx=>(hA.ev x hx).trans (ev x hx),λk hk=>(hA.ob k hk).trans (ho k hk)⟩ hn ρ;unfold aCl at h|-;split at h
 ·rename_i hg;exact sem h
 ·rename_i j g hg
  obtain⟨s,hs,hsn,h⟩:=h;have hk:lk S2.env s=lk S.env s:=he s (List.mem_append.2 (.inr (by simp[gdS,hg,hs])));refine⟨s,hs,hsn,?_⟩
  rcases h with⟨c,hc,h⟩|h
  ·left
   refine⟨c,hk.trans hc,?_⟩
   rcases h with⟨h1,h2⟩|h
   ·exact .inl ⟨h1,sem h2⟩
   ·exact .inr h
  ·right;exact⟨hk.trans h.1,h.2⟩
end Go.Am
