/- The program logic 'Am': the rules in the form in which a program prints them. -/
import Derived.Test.YtiohgpipanopaaaGreatAmFn
namespace Go.Am
def aF (n : Int) : List D := [.lit (.int .i64 n)]
def bHu (b : Bool) : List D := [.lit (.bool b)]
def aHw (a b : Int) : Int := IntKind.i64.wrap ((BitVec.ofInt IntKind.i64.bits a ^^^ BitVec.ofInt IntKind.i64.bits b).toNat)
def chk (b : Bool) : Option Unit := bif b then some () else none
theorem aHx {b : Bool} {u : Unit} (h : chk b = some u) : b = true := by cases b <;> simp [chk] at h ⊢
def app {α : Type} (bytes : Nat) (xs ys : List α) : Option (List α) := if (xs.length + ys.length) * bytes ≤ 140737488355328 then some (xs ++ ys) else none
theorem aTx {α : Type} {bytes : Nat} {xs ys zs : List α} (h : app bytes xs ys = some zs) : (xs.length + ys.length) * bytes ≤ 140737488355328 ∧ zs = xs ++ ys := by
 unfold app at h
 split at h
 ·rename_i hc; cases h; exact ⟨hc, rfl⟩
 ·cases h
theorem uA {α : Type} (f : α → List D) (xs : List α) (i : Nat) (y : α) {ds : List D} (h : ds = f y) : (xs.map f).set i ds = (xs.set i y).map f := by
 subst h
 exact List.map_set.symm
theorem dI {α : Type} (f : α → List D) {xs : List α} {p : Int} {x : α} (h : idx xs p = some x) : (xs.map f)[p.toNat]? = some (f x) := (uY (aW f h)).2.2
section
variable {P : Program} {n d : Nat} {st st' : St} {o : Oper} {Q : Exit → St → Prop} {N : St → Prop} {ops : Array Oper}
theorem aVp {α : Type} {x : Operand} {k : Nat} {f : α → List D} {xs : List α} {t ty : TypeId} {pos : String} {af : Array Edge} {gd : Option (Nat × Bool)} (hd : d < n)
  (hx : st.eval x = .d (.sl k (xs.map f))) {e kk : Nat} (ht : fF P t e kk) : bL P n ⟨some d, .call { callee := .builtin .len, args := #[x], argTypes := #[t] }, ty, pos, af, gd⟩ st (st.set d (.i xs.length)) := by
 have := bDx (ty := ty) (pos := pos) (af := af) (gd := gd) hd hx ht
 rwa [List.length_map] at this
theorem iH {α : Type} {x : Operand} {v : Value} {e k m : Nat} {f : α → List D} {xs : List α} {t ty : TypeId} {pos : String} {af : Array Edge} {gd : Option (Nat × Bool)} (hd : d < n)
  (hx : st.eval x = .d (.lit v)) (ho : st.objs[m]? = some (.arr v e k (xs.map f))) {e' kk : Nat} (ht : fF P t e' kk) : bL P n ⟨some d, .call { callee := .builtin .len, args := #[x], argTypes := #[t] }, ty, pos, af, gd⟩ st (st.set d (.i xs.length)) := by
 have := bBt (ty := ty) (pos := pos) (af := af) (gd := gd) hd hx ho ht
 rwa [List.length_map] at this
theorem dL {α : Type} {t e k bytes i : Nat} {z v : Value} {x y : Operand} {f : α → List D} {xs ys zs : List α} {ty : TypeId} {pos : String} {af : Array Edge} {gd : Option (Nat × Bool)} (hd : d < n) (ht : SliceTy P t e k bytes z)
  (hx : st.eval x = .d (.lit v)) (ho : st.objs[i]? = some (.arr v e k (xs.map f))) (hy : st.eval y = .d (.sl k (ys.map f))) (hk : ∀ x, (f x).length = k)
  (h : app bytes xs ys = some zs) (hby : Nat.blt 0 bytes = true) :
  Step P n ⟨some d, .call { callee := .builtin .append, args := #[x, y], argTypes := #[t, t] }, ty, pos, af, gd⟩ st
   (fun s => ∃ v', s = (st.setput d (.d (.lit v')) i (.arr v' e k (zs.map f)))) := by
 obtain ⟨h1, rfl⟩ := aTx h
 have := bDu (ty := ty) (pos := pos) (af := af) (gd := gd) hd ht hx ho hy (bY hk) (by simpa using h1) (aE hby)
 simpa using this
theorem bEo {x y : Operand} {k : IntKind} {p q : Int} {ts : Array TypeId} {ty : TypeId} {pos : String} {af : Array Edge} {gd : Option (Nat × Bool)} (hd : d < n)
  (hx : st.eval x = .d (.lit (.int k p))) (hy : st.eval y = .d (.lit (.int k q))) :
  bL P n ⟨some d, .call { callee := .builtin .min, args := #[x, y], argTypes := ts }, ty, pos, af, gd⟩ st (st.set d (.d (.lit (.int k (min p q))))) :=
 mZ rfl hd rfl fun A M w0 a w hR => by
  have : (if q < p then q else p) = min p q := by simp only [Int.min_def]; split <;> split <;> omega
  simp [execOp, resolve, hR.lit hx, hR.lit hy, invoke, builtin, Builtin.min_, Builtin.min2, this]
theorem sU {x : Operand} {k k' : IntKind} {p : Int} {t u ty : TypeId} {td : TypeDesc} {pos : String} {af : Array Edge} {gd : Option (Nat × Bool)} (hd : d < n)
  (hx : st.eval x = .d (.lit (.int k p))) (ht : ∀ w, (underlying t).run P w = .ok td w) (hu : ∀ w, (underlying u).run P w = .ok (.int k') w) :
  bL P n ⟨some d, .convert t u x, ty, pos, af, gd⟩ st (st.set d (.d (.lit (.int k' (k'.wrap p))))) :=
 mZ rfl hd rfl fun A M w0 a w hR => by simp [execOp, hR.lit hx, convert, ht, hu, Conv.intToInt]
theorem aJ {ks : List Nat} {t : Nat} {v : AV} {s : St} (ho : s.objs = st.objs) (he : AllEq s.env st.env ks) (hv : s.env t = v) : Ent s ⟨upd (keep ks st.env) t v, st.objs⟩ := by
 rw [← ho]
 exact bT (aH hv (aK he))
theorem bP {S T : Type} (l : List Nat) (us : S → List (Nat × AV)) (objs : S → List MO) (F : Nat → S → Option T) {r : T} {c : Code} (hz : ∀ s, F 0 s = none) {k0 : Nat} (s0 : S) (h0 : F k0 s0 = some r)
  (he : Ent st ⟨xY (keep l st.env) (us s0), objs s0⟩)
  (body : ∀ k s, F (k + 1) s = some r → Tr P n c ⟨xY (keep l st.env) (us s), objs s⟩ (qS (fun st' => ∃ s', F k s' = some r ∧ Ent st' ⟨xY (keep l st.env) (us s'), objs s'⟩) Q)) : Tr P n (.loop c) st Q :=
 bK he (bGf (fun s => ⟨xY (keep l st.env) (us s), objs s⟩) F r hz body k0 s0 h0)
theorem vQ {id id' : Nat} {c : Code} (h : Tr P n c st (aBs id N (aBs id' N Q))) : Tr P n (.block id c) st (aBs id' N Q) := aVy h fun _ h => h
end
def okI (n : Int) : Prop := -9223372036854775808 ≤ n ∧ n ≤ 9223372036854775807
def okB (_ : Bool) : Prop := True
def okL {α : Type} (ok : α → Prop) (xs : List α) : Prop := xs.length ≤ maxLen ∧ ∀ x ∈ xs, ok x
end Go.Am
