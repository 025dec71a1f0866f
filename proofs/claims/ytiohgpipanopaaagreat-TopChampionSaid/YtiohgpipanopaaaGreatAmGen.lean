/- The program logic 'Am': the rules in the form in which a program prints them. -/
import Derived.Test.YtiohgpipanopaaaGreatAmFn
namespace Go.Am
def aL (n : Int) : List D := [.lit (.int .i64 n)]
def dC (b : Bool) : List D := [.lit (.bool b)]
def aMp (a b : Int) : Int := IntKind.i64.wrap ((BitVec.ofInt IntKind.i64.bits a ^^^ BitVec.ofInt IntKind.i64.bits b).toNat)
def chk (b : Bool) : Option Unit := bif b then some () else none
theorem aMw {b : Bool} {u : Unit} (h : chk b = some u) : b = true := by cases b <;> simp [chk] at h ⊢
def app {α : Type} (bytes : Nat) (xs ys : List α) : Option (List α) := if (xs.length + ys.length) * bytes ≤ 140737488355328 then some (xs ++ ys) else none
theorem aUh {α : Type} {bytes : Nat} {xs ys zs : List α} (h : app bytes xs ys = some zs) : (xs.length + ys.length) * bytes ≤ 140737488355328 ∧ zs = xs ++ ys := by
 unfold app at h
 split at h
 ·rename_i hc; cases h; exact ⟨hc, rfl⟩
 ·cases h
theorem aXi {α : Type} (f : α → List D) (xs : List α) (i : Nat) (y : α) {ds : List D} (h : ds = f y) : (xs.map f).set i ds = (xs.set i y).map f := by
 subst h
 exact List.map_set.symm
theorem rF {α : Type} (f : α → List D) {xs : List α} {p : Int} {x : α} (h : idx xs p = some x) : (xs.map f)[p.toNat]? = some (f x) := (aCp (cL f h)).2.2
section
variable {P : Program} {n d : Nat} {st st' : St} {o : Oper} {Q : Exit → St → Prop} {N : St → Prop} {ops : Array Oper}
theorem aOd {α : Type} {x : Operand} {k : Nat} {f : α → List D} {xs : List α} {t ty : TypeId} {pos : String} {af : Array Edge} {gd : Option (Nat × Bool)} (hd : d < n)
  (hx : st.eval x = .d (.sl k (xs.map f))) {e kk : Nat} (ht : jV P t e kk) : bR P n ⟨some d, .call { callee := .builtin .len, args := #[x], argTypes := #[t] }, ty, pos, af, gd⟩ st (st.set d (.i xs.length)) := by
 have := aVq (ty := ty) (pos := pos) (af := af) (gd := gd) hd hx ht
 rwa [List.length_map] at this
theorem vL {α : Type} {x : Operand} {v : Value} {e k m : Nat} {f : α → List D} {xs : List α} {t ty : TypeId} {pos : String} {af : Array Edge} {gd : Option (Nat × Bool)} (hd : d < n)
  (hx : st.eval x = .d (.lit v)) (ho : st.objs[m]? = some (.arr v e k (xs.map f))) {e' kk : Nat} (ht : jV P t e' kk) : bR P n ⟨some d, .call { callee := .builtin .len, args := #[x], argTypes := #[t] }, ty, pos, af, gd⟩ st (st.set d (.i xs.length)) := by
 have := aTo (ty := ty) (pos := pos) (af := af) (gd := gd) hd hx ho ht
 rwa [List.length_map] at this
theorem eF {α : Type} {t e k bytes i : Nat} {z v : Value} {x y : Operand} {f : α → List D} {xs ys zs : List α} {ty : TypeId} {pos : String} {af : Array Edge} {gd : Option (Nat × Bool)} (hd : d < n) (ht : SliceTy P t e k bytes z)
  (hx : st.eval x = .d (.lit v)) (ho : st.objs[i]? = some (.arr v e k (xs.map f))) (hy : st.eval y = .d (.sl k (ys.map f))) (hk : ∀ x, (f x).length = k)
  (h : app bytes xs ys = some zs) (hby : Nat.blt 0 bytes = true) :
  Step P n ⟨some d, .call { callee := .builtin .append, args := #[x, y], argTypes := #[t, t] }, ty, pos, af, gd⟩ st
   (fun s => ∃ v', s = (st.setput d (.d (.lit v')) i (.arr v' e k (zs.map f)))) := by
 obtain ⟨h1, rfl⟩ := aUh h
 have := aVo (ty := ty) (pos := pos) (af := af) (gd := gd) hd ht hx ho hy (bL hk) (by simpa using h1) (aH hby)
 simpa using this
theorem aYz {x y : Operand} {k : IntKind} {p q : Int} {ts : Array TypeId} {ty : TypeId} {pos : String} {af : Array Edge} {gd : Option (Nat × Bool)} (hd : d < n)
  (hx : st.eval x = .d (.lit (.int k p))) (hy : st.eval y = .d (.lit (.int k q))) :
  bR P n ⟨some d, .call { callee := .builtin .max, args := #[x, y], argTypes := ts }, ty, pos, af, gd⟩ st (st.set d (.d (.lit (.int k (max p q))))) :=
 kW rfl hd rfl fun A M w0 a w hR => by
  have : (if q > p then q else p) = max p q := by simp only [Int.max_def]; split <;> split <;> omega
  simp [execOp, resolve, hR.lit hx, hR.lit hy, invoke, builtin, Builtin.max_, Builtin.max2, this]
theorem aWk {x y : Operand} {k : IntKind} {p q : Int} {ts : Array TypeId} {ty : TypeId} {pos : String} {af : Array Edge} {gd : Option (Nat × Bool)} (hd : d < n)
  (hx : st.eval x = .d (.lit (.int k p))) (hy : st.eval y = .d (.lit (.int k q))) :
  bR P n ⟨some d, .call { callee := .builtin .min, args := #[x, y], argTypes := ts }, ty, pos, af, gd⟩ st (st.set d (.d (.lit (.int k (min p q))))) :=
 kW rfl hd rfl fun A M w0 a w hR => by
  have : (if q < p then q else p) = min p q := by simp only [Int.min_def]; split <;> split <;> omega
  simp [execOp, resolve, hR.lit hx, hR.lit hy, invoke, builtin, Builtin.min_, Builtin.min2, this]
theorem aTn {x : Operand} {k k' : IntKind} {p : Int} {t u ty : TypeId} {td : TypeDesc} {pos : String} {af : Array Edge} {gd : Option (Nat × Bool)} (hd : d < n)
  (hx : st.eval x = .d (.lit (.int k p))) (ht : ∀ w, (underlying t).run P w = .ok td w) (hu : ∀ w, (underlying u).run P w = .ok (.int k') w) :
  bR P n ⟨some d, .convert t u x, ty, pos, af, gd⟩ st (st.set d (.d (.lit (.int k' (k'.wrap p))))) :=
 kW rfl hd rfl fun A M w0 a w hR => by simp [execOp, hR.lit hx, convert, ht, hu, Conv.intToInt]
theorem aM {ks : List Nat} {t : Nat} {v : AV} {s : St} (ho : s.objs = st.objs) (he : AllEq s.env st.env ks) (hv : s.env t = v) : Ent s ⟨upd (keep ks st.env) t v, st.objs⟩ := by
 rw [← ho]
 exact cN (aR hv (bB he))
theorem eO {S T : Type} (l : List Nat) (us : S → List (Nat × AV)) (objs : S → List MO) (F : Nat → S → Option T) {r : T} {c : Code} (hz : ∀ s, F 0 s = none) {k0 : Nat} (s0 : S) (h0 : F k0 s0 = some r)
  (he : Ent st ⟨tN (keep l st.env) (us s0), objs s0⟩)
  (body : ∀ k s, F (k + 1) s = some r → Tr P n c ⟨tN (keep l st.env) (us s), objs s⟩ (kH (fun st' => ∃ s', F k s' = some r ∧ Ent st' ⟨tN (keep l st.env) (us s'), objs s'⟩) Q)) : Tr P n (.loop c) st Q :=
 bX he (aXo (fun s => ⟨tN (keep l st.env) (us s), objs s⟩) F r hz body k0 s0 h0)
theorem aKi {id id' : Nat} {c : Code} (h : Tr P n c st (uY id N (uY id' N Q))) : Tr P n (.block id c) st (uY id' N Q) := aOn h fun _ h => h
end
def okI (n : Int) : Prop := -9223372036854775808 ≤ n ∧ n ≤ 9223372036854775807
def okB (_ : Bool) : Prop := True
def okL {α : Type} (ok : α → Prop) (xs : List α) : Prop := xs.length ≤ maxLen ∧ ∀ x ∈ xs, ok x
end Go.Am
