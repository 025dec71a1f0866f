/- Plain laws: loops, indexes and sums of the shallow functions. -/
import Derived.Test.YtammglnfelkbpaaGreatDoorAmGen
namespace Go.Am
theorem cV{n:Int}(h1: -9223372036854775808<=n)(h2:n<=9223372036854775807):w64 n=n:=by
 have hw:IntKind.i64.wrap n=if n<9223372036854775808-18446744073709551616*0 then n else n:=by
  simp[IntKind.wrap,IntKind.signed,IntKind.bits]
  omega
 simpa using hw
theorem bF{i:Nat}(h:i<9223372036854775807):w64 ((i:Int)+1)=((i+1:Nat):Int):=by
 rw[cV (by omega) (by omega)];omega
theorem aEy{i:Nat}(h:0<i)(h2:i<=9223372036854775807):w64 ((i:Int)-1)=((i-1:Nat):Int):=by
 rw[cV (by omega) (by omega)];omega
theorem bI{α:Type}{xs:List α}{i:Nat}(h:i<xs.length):idx xs (i:Int)=some xs[i]:=by
 simp[idx,h]
theorem yQ{α:Type}{xs:List α}{p:Int}(h0:0<=p)(h:p.toNat<xs.length):idx xs p=some xs[p.toNat]:=by
 simp[idx,h0,h]
theorem cAl{α:Type}{x:α}{xs:List α}:idx (x::xs) 0=some x:=by simp[idx]
theorem cIe{α:Type}{xs:List α}{i:Nat}(h:i<=xs.length):sub xs 0 (i:Int)=some (xs.take i):=by
 simp[sub]
 omega
theorem gD{α:Type}{bytes:Nat}{xs ys:List α}(h:(xs.length+ys.length)*bytes<=140737488355328):app bytes xs ys=some (xs++ys):=by
 unfold app;rw[if_pos h]
theorem jG(a b:Bool):(bif a then some true else some b)=some (a||b):=by cases a<;>rfl
theorem dA(a b:Bool):(bif a then some b else some false)=some (a&&b):=by cases a<;>rfl
theorem cB{n:Nat}(h:n<=9223372036854775807):n<BIG:=by unfold BIG;omega
theorem aVq:BIG=18446744073709551615+1:=rfl
theorem gR{T:Type}(F:Nat->Int->T)(n:Nat)(good:Nat->Bool)(bad K:T)(hstep:∀k i,i<n->F (k+1) (i:Int)=bif good i then F k ((i+1:Nat):Int) else bad)(hstop:∀k,F (k+1) (n:Int)=K):
  ∀k,n<k->F k 0=bif (List.range n).all good then K else bad:=by
 have key:∀m k i,n-i=m->i<=n->m<k->F k (i:Int)=bif (List.range' i (n-i)).all good then K else bad:=by
  intro m
  induction m with
  | zero=>
   intro k i hm hi hk;have:i=n:=by omega
   subst this;cases k with
   |zero=>omega
   |succ k=>simpa using hstop k
  | succ m ih=>
   intro k i hm hi hk;cases k with
   |zero=>omega
   | succ k=>
    rw[hstep k i (by omega),ih k (i+1) (by omega) (by omega) (by omega)];have e:n-i=(n-(i+1))+1:=by omega
    rw[e,List.range'_succ];cases hg:good i<;>simp[hg]
 intro k hk;have:=key n k 0 (by omega) (by omega) hk
 simpa[List.range_eq_range'] using this
theorem eX{S T:Type}(F:Nat->Int->S->T)(n:Nat)(G:Nat->S->T)(I:Nat->S->Prop)(hstep:∀k i s,i<n->I i s->(∀s',I (i+1) s'->F k ((i+1:Nat):Int) s'=G (i+1) s')->F (k+1) (i:Int) s=G i s)
  (hstop:∀k s,I n s->F (k+1) (n:Int) s=G n s):∀k s,n<k->I 0 s->F k 0 s=G 0 s:=by
 have key:∀m k i s,n-i=m->i<=n->m<k->I i s->F k (i:Int) s=G i s:=by
  intro m
  induction m with
  | zero=>
   intro k i s hm hi hk hI;have:i=n:=by omega
   subst this;cases k with
   |zero=>omega
   |succ k=>exact hstop k s hI
  | succ m ih=>
   intro k i s hm hi hk hI;cases k with
   |zero=>omega
   |succ k=>exact hstep k i s (by omega) hI λs' hs'=>ih k (i+1) s' (by omega) (by omega) (by omega) hs'
 intro k s hk hI;exact key n k 0 s (by omega) (by omega) hk hI
theorem gP{n:Nat}{good:Nat->Bool}:(List.range n).all good=true↔∀i,i<n->good i=true:=by simp
theorem uM{S T:Type}(F:Nat->Int->S->T)(n:Nat)(G:T->Prop)(I:Nat->S->Prop)(hstep:∀k i s,i<n->I i s->(∀s',I (i+1) s'->G (F k ((i+1:Nat):Int) s'))->G (F (k+1) (i:Int) s))
  (hstop:∀k i s,n<=i->I i s->G (F (k+1) (i:Int) s)):∀k i s,n-i<k->I i s->G (F k (i:Int) s):=by
 have key:∀m k i s,n-i=m->m<k->I i s->G (F k (i:Int) s):=by
  intro m
  induction m with
  | zero=>
   intro k i s hm hk hI;cases k with
   |zero=>omega
   |succ k=>exact hstop k i s (by omega) hI
  | succ m ih=>
   intro k i s hm hk hI;cases k with
   |zero=>omega
   |succ k=>exact hstep k i s (by omega) hI λs' hs'=>ih k (i+1) s' (by omega) (by omega) hs'
 intro k i s hk hI;exact key (n-i) k i s rfl hk hI
theorem bYb(n:Int): -9223372036854775808<=w64 n/\w64 n<=9223372036854775807:=by
 simp only[w64,IntKind.wrap,IntKind.signed,IntKind.bits]
 simp
 omega
end Go.Am
