/- Layer 6, plain: the reference's list of draws comes to an end. -/
import Derived.Test.YtiohgpipanopaaaGreatDrPlain7
namespace Go.Am
theorem bVt(l:List Int)(hl:l.length<=1000)(n:Int):∃m,sG l n=some m:=by
 unfold sG;have:=iZ (S:=Int) (λk i s=>iR l n k s i) l.length (λo=>∃m,o=some m) (λi _=>i<=l.length) (λk i s hi _ ih=>?_) (λk i s h5 h6=>?_) BIG 0 0 (bI (by omega)) (Nat.zero_le _)
 ·exact this
 ·simp only[iR,Int.ofNat_lt,hi,decide_true,cond_true,aZ (show i<9223372036854775807 by omega)];rw[bV (aY hi)];cases decide (l[i]=n) with
  |true=>exact ih _ (by omega)
  |false=>exact ih _ (by omega)
 ·have:i=l.length:=by omega
  subst this;simp only[iR,Int.lt_irrefl,decide_false,cond_false,xG];exact⟨_,rfl⟩
section
variable{p:aQ}(hp:lN p=true)
include hp
omit hp in
theorem aVp{i:Nat}(hi:i<p.Persons.length):IsP p (pp p i).Player:=.inr (bIs ⟨i,hi,rfl⟩)
theorem bLh:∃r,oY p=some r/\r.length<=8/\∀x∈r,IsP p x:=by
 have hsz:=fT (shp hp);unfold oY;have main:=iZ (S:=List Int) (λk i o=>dY p k o i) p.Persons.length (λr=>∃q,r=some q/\q.length<=8/\∀x∈q,IsP p x) (λi o=>i<=p.Persons.length/\o.length=i/\∀x∈o,IsP p x) (λk i o hi hI ih=>?_) (λk i o h5 h6=>?_) BIG 0 [] (bI (by omega)) ⟨Nat.zero_le _,rfl,by simp⟩
 ·exact main
 ·obtain⟨h1,h2,h3⟩:=hI;simp only[dY,Int.ofNat_lt,hi,decide_true,cond_true];rw[bV (aY hi)];have inner:=iZ (S:=Unit) (λk2 j _=>iI (dY p k) o i p.Persons[i].Player p k2 j) o.length (λr=>∃q,r=some q/\q.length<=8/\∀x∈q,IsP p x) (λj _=>j<=o.length) ?_ ?_ BIG 0 () (bI (by omega)) (Nat.zero_le _)
  ·exact inner
  all_goals
   intro k2 j _ hj hJ
  ·intro ih2;have hK:∃q,kI (dY p k) o i p.Persons[i].Player j p=some q/\q.length<=8/\∀x∈q,IsP p x:=by
    have hs1:sub o (j:Int) (o.length:Int)=some (o.drop j):=by
     unfold sub;rw[if_pos ⟨by omega,by omega,Int.le_refl _⟩]
     simp
    unfold kI;rw[bV hs1,bV (eE (by simp;omega)),bV (aRe hJ),bV (eE (by simp;omega)),bV (eE (by simp;omega))];unfold pP;rw[aZ (show i<9223372036854775807 by omega)];refine ih _ ⟨by omega,by simp;omega,λx hx=>?_⟩;simp only[List.nil_append,List.mem_append,List.mem_singleton] at hx
    rcases hx with hx|hx|hx
    ·exact h3 x (List.mem_of_mem_take hx)
    ·rw[hx,<-nY hi];exact aVp hi
    ·exact h3 x (List.mem_of_mem_drop hx)
   simp only[iI,Int.ofNat_lt,hj,decide_true,cond_true,aY hj,Option.bind_some,aZ (show j<9223372036854775807 by omega)];cases decide (o[j]<p.Persons[i].Player) with
   |true=>exact ih2 () (by omega)
   |false=>exact hK
  ·have hje:j=o.length:=by omega
   have hK:∃q,kI (dY p k) o i p.Persons[i].Player j p=some q/\q.length<=8/\∀x∈q,IsP p x:=by
    have hs1:sub o (j:Int) (o.length:Int)=some (o.drop j):=by
     unfold sub;rw[if_pos ⟨by omega,by omega,Int.le_refl _⟩]
     simp
    unfold kI;rw[bV hs1,bV (eE (by simp;omega)),bV (aRe hJ),bV (eE (by simp;omega)),bV (eE (by simp;omega))];unfold pP;rw[aZ (show i<9223372036854775807 by omega)];refine ih _ ⟨by omega,by simp;omega,λx hx=>?_⟩;simp only[List.nil_append,List.mem_append,List.mem_singleton] at hx
    rcases hx with hx|hx|hx
    ·exact h3 x (List.mem_of_mem_take hx)
    ·rw[hx,<-nY hi];exact aVp hi
    ·exact h3 x (List.mem_of_mem_drop hx)
   subst hje;simp only[iI,Int.lt_irrefl,decide_false,cond_false,Option.bind_some];exact hK
 ·obtain⟨h1,h2,h3⟩:=h6;have:i=p.Persons.length:=by omega
  subst this;simp only[dY,Int.lt_irrefl,decide_false,cond_false,tQ];exact⟨_,rfl,by omega,h3⟩
theorem bVp{now:List Int}(h0:0<now.length)(h8:now.length<=8)(hn:∀x∈now,IsP p x):∃b,sF p now=some b:=by
 have hsz:=fT (shp hp);have e1:w64 ((now.length:Int)-1)=((now.length-1:Nat):Int):=rN h0 (by omega);have hlt:now.length-1<now.length:=by omega
 have hL:∃b,fR now ((now.length-1:Nat):Int) p BIG 0=some b:=by
  refine bIm (λk i=>fR now ((now.length-1:Nat):Int) p k i) p.Seeds.toNat (λk i hi b hb=>?_) (λk=>?_) BIG (bI (by omega))
  ·have hin:i<p.Persons.length:=by omega
   have hlt2:decide ((i:Int)<p.Seeds)=true:=decide_eq_true (by omega);simp only[fR,hlt2,cond_true,aZ (show i<9223372036854775807 by omega)];rw[bV (aY hlt),bV (aY hin)];simp only[cW,Option.bind_some];cases decide ((i:Int)=0) with
   | true=>
    simp only[cond_true];cases !decide (decide (now[now.length-1]=p.Persons[i].Player)=decide (((now.length-1:Nat):Int)=0)) with
    |true=>exact⟨_,rfl⟩
    |false=>exact⟨b,hb⟩
   | false=>
    simp only[cond_false];cases decide ((i:Int)=1) with
    | true=>
     simp only[cond_true];cases !decide (decide (now[now.length-1]=p.Persons[i].Player)=decide (((now.length-1:Nat):Int)=w64 (p.Size-1))) with
     |true=>exact⟨_,rfl⟩
     |false=>exact⟨b,hb⟩
    | false=>
     simp only[cond_false];cases decide (now[now.length-1]=p.Persons[i].Player)&&!decide (((now.length-1:Nat):Int)=w64 (p.Size.tdiv 4))&&!decide (((now.length-1:Nat):Int)=w64 (w64 (p.Size-1)-w64 (p.Size.tdiv 4))) with
     |true=>exact⟨_,rfl⟩
     |false=>exact⟨b,hb⟩
  ·have hlt2:decide (((p.Seeds.toNat:Nat):Int)<p.Seeds)=false:=decide_eq_false (by omega);exact⟨true,by simp only[fR,hlt2,cond_false,xF]⟩
 have hF:∃c,((bif decide (((w64 ((now.length:Int)-1)).tmod 2)=1) then((idx now (w64 ((w64 ((now.length:Int)-1))-1))).bind λx2=>(idx now (w64 ((now.length:Int)-1))).bind λx3=>(kO p x2 x3).bind λr4=>some (!r4)) else(some false)):Option Bool)=some c:=by
  rw[e1];cases ho:decide ((((now.length-1:Nat):Int).tmod 2)=1) with
  |false=>exact⟨_,rfl⟩
  | true=>
   have h2:0<now.length-1:=by
    have:=of_decide_eq_true ho;refine Nat.pos_of_ne_zero λhz=>?_;rw[hz] at this;exact absurd this (by decide)
   have h3:now.length-1-1<now.length:=by omega
   rw[cond_true,rN h2 (by omega),bV (aY h3),bV (aY hlt),bV (aVy (by omega) (hn _ (List.getElem_mem h3)) (hn _ (List.getElem_mem hlt)))];exact⟨_,rfl⟩
 obtain⟨c,hc⟩:=hF;unfold sF;rw[bV hc];cases c with
 |true=>exact⟨_,rfl⟩
 |false=>rw[cond_false,e1];exact hL
theorem bMt:∀(k fuel:Nat) (first:List Int) (most:Nat),k<fuel->((first.length+k:Nat):Int)=p.Size->(∀x∈first,IsP p x)->most<=300->∃r,gB fuel p first most=some r/\r.length<=most+1:=by
 have hsz:=fT (shp hp);intro k
 induction k with
 | zero=>
  intro fuel first most hf hl hn _;obtain⟨fuel,rfl⟩:∃q,fuel=q+1:=⟨fuel-1,by omega⟩;have hc:decide ((first.length:Int)=p.Size)=true:=decide_eq_true (by omega);obtain⟨b,hb,_⟩:=bJs hp (S:=first) (by omega) hn;rw[gB,hc,cond_true,bV hb];cases b with
  |true=>exact⟨_,rfl,by simp⟩
  |false=>exact⟨_,rfl,by simp⟩
 | succ k ih=>
  intro fuel first most hf hl hn hm;obtain⟨fuel,rfl⟩:∃q,fuel=q+1:=⟨fuel-1,by omega⟩;have hc:decide ((first.length:Int)=p.Size)=false:=decide_eq_false (by omega);obtain⟨os,ho,ho8,hoP⟩:=bLh hp;rw[gB,hc,cond_false,bV ho,bV (eE (xs:=[-1]) (ys:=os) (by simp;omega))];have hch:∀x∈[-1]++os,IsP p x:=λx hx=>by
   rcases List.mem_append.1 hx with h|h
   ·exact .inl (List.mem_singleton.1 h)
   ·exact hoP x h
  have hcl:([-1]++os).length<=9:=by simp;omega
  generalize[-1]++os=ch at hch hcl
  have main:=iZ (S:=List (List Int)) (λq i o=>fP (gB fuel) first most ch p q i o) ch.length (λr=>∃q,r=some q/\q.length<=most+1) (λi o=>i<=ch.length/\o.length<=most+1) (λq i o hi hI ih2=>?_) (λq i o h5 h6=>?_) BIG 0 [] (bI (by omega)) ⟨Nat.zero_le _,by simp⟩
  ·exact main
  ·obtain⟨_,h2⟩:=hI;simp only[fP,Int.ofNat_lt,hi,decide_true,cond_true,Option.bind_some,aZ (show i<9223372036854775807 by omega)]
   by_cases hle:(o.length:Int)<=(most:Int)
   ·rw [decide_eq_true hle,cond_true];obtain⟨m,hm2⟩:=bVt first (by omega) (-1);have hx:=hch _ (List.getElem_mem hi);have hin:qA first ch[i]=some (decide (ch[i]∈first)):=aWo first (by omega) _;simp only[aY hi,Option.bind_some,hm2,cW,hin,dJ];cases(decide (ch[i]= -1)&&decide (m=w64 (p.Size-(p.Persons.length:Int)))||!decide (ch[i]= -1)&&decide (ch[i]∈first)) with
    |true=>exact ih2 o ⟨by omega,h2⟩
    | false=>
     rw[cond_false,bV (eE (bytes:=8) (xs:=([]:List Int)) (ys:=first) (by simp;omega)),bV (eE (bytes:=8) (xs:=[]++first) (ys:=[ch[i]]) (by simp;omega))];have hnow:∀x∈([]++first)++[ch[i]],IsP p x:=λx h=>by
      rcases List.mem_append.1 h with h|h
      ·exact hn x (by simpa using h)
      ·rw[List.mem_singleton.1 h];exact hx
     have hnl:(([]++first)++[ch[i]]).length=first.length+1:=by simp
     obtain⟨b,hb⟩:=bVp hp (now:=([]++first)++[ch[i]]) (by omega) (by omega) hnow;rw[bV hb];cases b with
     |false=>exact ih2 o ⟨by omega,h2⟩
     | true=>
      have e:w64 ((most:Int)-(o.length:Int))=((most-o.length:Nat):Int):=by rw[cD (by omega) (by omega)];omega
      obtain⟨r,hr,hrl⟩:=ih fuel (([]++first)++[ch[i]]) (most-o.length) (by omega) (by omega) hnow (by omega);rw[cond_true,e,bV hr,bV (eE (by omega))];exact ih2 _ ⟨by omega,by rw[List.length_append];omega⟩
   ·rw[decide_eq_false hle,cond_false];exact⟨_,rfl,h2⟩
  ·obtain⟨_,h2⟩:=h6;have:i=ch.length:=by omega
   subst this;simp only[fP,Int.lt_irrefl,decide_false,cond_false,Option.bind_some];exact⟨_,rfl,h2⟩
end
theorem bUw(p:aQ):∃b,tP p=some b/\(b=false->p.Persons.length<=40/\p.Lots.length<=40):=by
 unfold tP;simp only[dJ,Option.bind_some];cases hg:decide (40<(p.Persons.length:Int))||decide (40<(p.Lots.length:Int)) with
 |true=>exact⟨true,rfl,λh=>by cases h⟩
 | false=>
  simp only[Bool.or_eq_false_iff,decide_eq_false_iff_not] at hg;rw[cond_false,bV (aNq p)];cases hp:lN p with
  |false=>exact⟨false,rfl,λ_=>by omega⟩
  | true=>
   have hsz:=fT (shp hp);obtain⟨r,hr,_⟩:=bMt hp p.Size.toNat BIG [] 300 (bI (by omega)) (by simp;omega) (by simp) (by omega);have hr':yY p [] 300=some r:=hr;simp only[if_true,decide_true,cond_true];rw[bV hr'];exact⟨_,rfl,λ_=>by omega⟩
end Go.Am
