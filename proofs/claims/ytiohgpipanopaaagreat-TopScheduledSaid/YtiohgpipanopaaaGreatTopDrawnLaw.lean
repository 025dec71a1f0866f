/- The plain law TopDrawn. -/
import Derived.Test.YtiohgpipanopaaaGreatDrPlain8
import Derived.Test.YtiohgpipanopaaaGreatDrFar
import Derived.Test.YtiohgpipanopaaaGreatDrWorks
namespace Go.Am
theorem bLb:∀a b:Fin 4,fA ⟨2,[]⟩ a b=if a.val/2=b.val/2 then 0 else 1:=by decide+kernel
theorem bLc:∀a b:Fin 8,fA ⟨3,[]⟩ a b=if a.val/2=b.val/2 then 0 else if a.val/4=b.val/4 then 1 else 2:=by decide+kernel
theorem aGb{t t':aF}(h:t.Rounds=t'.Rounds)(a b:Nat):fA t a b=fA t' a b:=by unfold fA;rw[h]
section
variable{p:aQ}(hp:lN p=true){l:List Int}(hl:aOd p l)
include hp hl
theorem aRf:(bZ p l).Rounds=2/\p.Size=4/\l.length=4\/(bZ p l).Rounds=3/\p.Size=8/\l.length=8:=by
 rcases(bKy hp hl).2.2 with⟨h,h'⟩|⟨h,h'⟩
 ·exact .inl ⟨if_pos h,h,h'⟩
 ·exact .inr ⟨if_neg (by omega),h,h'⟩
theorem bJg{s a:Nat}(hs:s<l.length)(ha:a<p.Persons.length)(he:l.getD s 0=(a:Int)):
  (l.map (plF p)).getD s 0=(pp p a).Player/\lE (l.map (plF p)) (pp p a).Player=(s:Int)/\(l.map (plF p)).getD s 0≠-1:=by
 have hpl:(l.map (plF p)).getD s 0=(pp p a).Player:=by
  rw[aKs hs,he,plF,if_neg (by omega),pn,Int.toNat_natCast]
 have hne:(pp p a).Player≠-1:=by have:=aKj hp ha;omega
 refine⟨hpl,?_,by rw[hpl];exact hne⟩
 rcases zO (l.map (plF p)) (pp p a).Player with⟨_,h⟩|⟨q,h1,h2,h3⟩
 ·exact absurd hpl (h s (by simpa using hs))
 ·rw[h1];have hD:=(aGu (aHu hp hl)).dok;have:q=s:=hD.uni h2 (by simpa[bZ] using hs) (h3.trans hpl.symm) (show(l.map (plF p)).getD q 0≠-1 by rw[h3];exact hne);rw[this]
theorem aMy{s a:Nat}(hs:s<l.length)(ha:(a:Int)<p.Seeds)(he:l.getD s 0=(a:Int)):(a=0->s=0)/\(a=1->(s:Int)=p.Size-1)/\(2<=a->(s:Int)=p.Size/4\/(s:Int)=p.Size-1-p.Size/4):=by
 have hsz:=fT (shp hp);have h8:=bKy hp hl;have h0:=hl.seat 0 (by omega);have h1:=hl.seat (l.length-1) (by omega);have hh:=hl.seat s hs;have hdup:∀q,q<l.length->l.getD q 0=(a:Int)->q=s:=by
  intro q hq hqa
  rcases Nat.lt_trichotomy q s with h|h|h
  ·have:=hl.nd q s h hs (hqa.trans he.symm);omega
  ·exact h
  ·have:=hl.nd s q h hq (he.trans hqa.symm);omega
 have e0:l.getD 0 0=0:=by
  unfold aFw at h0;rw[if_pos ⟨rfl,by omega⟩] at h0;exact of_decide_eq_true h0
 have e1:1<p.Seeds->l.getD (l.length-1) 0=1:=by
  intro h;unfold aFw at h1;rw[if_neg (by omega),if_pos ⟨by omega,h⟩] at h1;exact of_decide_eq_true h1
 refine⟨λh=>?_,λh=>?_,λh=>?_⟩
 ·subst h;exact(hdup 0 (by omega) e0).symm
 ·subst h;have:=hdup (l.length-1) (by omega) (e1 (by omega))
  omega
 ·unfold aFw at hh;split at hh
  ·have:=of_decide_eq_true hh;omega
  ·split at hh
   ·have:=of_decide_eq_true hh;omega
   ·simp only[Bool.or_eq_true,decide_eq_true_eq,Bool.and_eq_true] at hh
    omega
theorem bVu{must:List (List Int)}(hM:MustIs (bZ p l) must (fB (bZ p l).Slots (Res []))){s q a b:Nat}(hs:s<l.length)(hq:q<l.length)(ha:a<p.Persons.length)(hb:b<p.Persons.length)(hab:a≠b)
  (ea:l.getD s 0=(a:Int))(eb:l.getD q 0=(b:Int)):aWa (bZ p l) (l.map (plF p)) must (pp p a).Player (pp p b).Player=((fA (bZ p l) s q:Int),0):=by
 have hT:=aHu hp hl;obtain⟨a1,a2,a3⟩:=bJg hp hl hs ha ea;obtain⟨b1,b2,b3⟩:=bJg hp hl hq hb eb;have ra:=aKj hp ha;have rb:=aKj hp hb;have hs':s<(bZ p l).Slots.length:=by simpa[bZ] using hs
 have hq':q<(bZ p l).Slots.length:=by simpa[bZ] using hq
 have m1:=bEq hT hM hs' a3;have m2:=bEq hT hM hq' b3;have hlt:=aGy (oU hT) hs' hq';have hne:(pp p a).Player≠(pp p b).Player:=λh=>hab (bFf hp ha hb h);unfold aWa;rw[if_pos ⟨gY.2 ra,gY.2 rb,hne⟩,a2,b2,if_neg (by omega)];simp only[Int.toNat_natCast];have m1':mU (l.map (plF p)) must s (bZ p l)=(bZ p l).Rounds.toNat:=m1;have m2':mU (l.map (plF p)) must q (bZ p l)=(bZ p l).Rounds.toNat:=m2;rw[m1',m2',if_neg (by omega)]
theorem bZe{s q a b:Nat}(hs:s<l.length)(hq:q<l.length)(ha:a<p.Persons.length)(hab:b<a)(ea:l.getD s 0=(a:Int))(eb:l.getD q 0=(b:Int)):
  (fA (bZ p l) s q=0->¬((pp p a).Nation=(pp p b).Nation/\(pp p a).Nation≠0)/\¬((pp p a).Qualified=true/\(pp p b).Qualified=true))/\
  (a=1->1<p.Seeds->((fA (bZ p l) s q:Nat):Int)=(bZ p l).Rounds-1)/\((a:Int)<p.Seeds->(bZ p l).Rounds-2<=((fA (bZ p l) s q:Nat):Int)):=by
 have hsz:=fT (shp hp);have hr:=aRf hp hl;have hmeet:(p.Size=4/\fA (bZ p l) s q=if s/2=q/2 then 0 else 1)\/(p.Size=8/\fA (bZ p l) s q=if s/2=q/2 then 0 else if s/4=q/4 then 1 else 2):=by
  rcases hr with⟨h,h',h2⟩|⟨h,h',h2⟩
  ·refine .inl ⟨h',?_⟩;rw[aGb (t':=⟨2,[]⟩) h];exact bLb ⟨s,by omega⟩ ⟨q,by omega⟩
  ·refine .inr ⟨h',?_⟩;rw[aGb (t':=⟨3,[]⟩) h];exact bLc ⟨s,by omega⟩ ⟨q,by omega⟩
 refine⟨λh0=>?_,λh1 hsd=>?_,λhsd=>?_⟩
 ·have h2:s/2=q/2:=by
   rcases hmeet with⟨_,h⟩|⟨_,h⟩
   ·rw[h] at h0;split at h0
    ·assumption
    ·omega
   ·rw[h] at h0;split at h0
    ·assumption
    ·split at h0<;>omega
  have key:zH p (a:Int) (b:Int)=true\/zH p (b:Int) (a:Int)=true:=by
   have hpair:=hl.pair (s/2) (by have:=(bKy hp hl).2.1;omega)
   rcases aYc h2 with h|h
   ·rw[h,eb] at ea
    omega
   ·unfold sib at h;split at h
    ·have x1:2*(s/2)=q:=by omega
     have x2:2*(s/2)+1=s:=by omega
     rw[x2,x1,ea,eb] at hpair;unfold aDm at hpair;simp only[Bool.and_eq_true] at hpair;exact .inr hpair.2.1.1
    ·have x1:2*(s/2)=s:=by omega
     have x2:2*(s/2)+1=q:=by omega
     rw[x2,x1,ea,eb] at hpair;unfold aDm at hpair;simp only[Bool.and_eq_true] at hpair;exact .inl hpair.2.1.1
  rcases key with h|h
  ·unfold zH pn at h;rw[if_neg (by omega)] at h;simp only[Int.toNat_natCast,Bool.and_eq_true,Bool.or_eq_true,Bool.not_eq_true',decide_eq_true_eq,decide_eq_false_iff_not,Bool.and_eq_false_iff] at h;refine⟨λ⟨x,y⟩=>?_,λ⟨x,y⟩=>?_⟩
   ·rcases h.1 with h|h
    ·exact h x
    ·exact y h
   ·rcases h.2 with h|h
    ·rw[x] at h;cases h
    ·rw[y] at h;cases h
  ·unfold zH pn at h;rw[if_neg (by omega)] at h;simp only[Int.toNat_natCast,Bool.and_eq_true,Bool.or_eq_true,Bool.not_eq_true',decide_eq_true_eq,decide_eq_false_iff_not,Bool.and_eq_false_iff] at h;refine⟨λ⟨x,y⟩=>?_,λ⟨x,y⟩=>?_⟩
   ·rcases h.1 with h|h
    ·exact h x.symm
    ·exact y (x.trans h)
   ·rcases h.2 with h|h
    ·rw[y] at h;cases h
    ·rw[x] at h;cases h
 ·subst h1;obtain⟨_,s1,_⟩:=aMy hp hl hs (by omega) ea;obtain⟨s0,_,_⟩:=aMy hp hl (a:=b) hq (by omega) eb;have e1:=s1 rfl;have e0:=s0 (by omega);subst e0
  rcases hr with⟨h,h',h2⟩|⟨h,h',h2⟩
  ·rcases hmeet with⟨_,hm⟩|⟨hx,_⟩
   ·have:s=3:=by omega
    subst this;rw[hm,h];decide
   ·omega
  ·rcases hmeet with⟨hx,_⟩|⟨_,hm⟩
   ·omega
   ·have:s=7:=by omega
    subst this;rw[hm,h];decide
 ·obtain⟨_,sa1,sa2⟩:=aMy hp hl hs hsd ea;obtain⟨sb0,sb1,sb2⟩:=aMy hp hl (a:=b) hq (by omega) eb
  rcases hr with⟨h,h',h2⟩|⟨h,h',h2⟩
  ·rw[h];omega
  ·rcases hmeet with⟨hx,_⟩|⟨_,hm⟩
   ·omega
   ·rw [hm,h];have hsq:s≠q:=λe=>by rw[e,eb] at ea;omega
    have ha':s=7\/s=2\/s=5:=by
     rcases Nat.lt_or_ge a 2 with h|h
     ·exact .inl (by have:=sa1 (by omega);omega)
     ·have:=sa2 h;omega
    have hb':q=0\/q=7\/q=2\/q=5:=by
     rcases Nat.lt_or_ge b 2 with h|h
     ·rcases Nat.lt_or_ge b 1 with h1|h1
      ·exact .inl (sb0 (by omega))
      ·exact .inr (.inl (by have:=sb1 (by omega);omega))
     ·have:=sb2 h;omega
    rcases ha' with rfl|rfl|rfl<;>rcases hb' with rfl|rfl|rfl|rfl<;>first|exact absurd rfl hsq|decide
end
end Go.Am
