/- The program logic 'Am': the rules in the form in which a program prints them. -/
import Derived.Test.YtikcmpflkibomaaAmFn
namespace Go.Am

def aW (n : Int) : List D := [.lit (.int .i64 n)]
def aNj (a b : Int) : Int := IntKind.i64.wrap ((BitVec.ofInt IntKind.i64.bits a &&& BitVec.ofInt IntKind.i64.bits b).toNat)
def bOr (a b : Int) : Int := IntKind.i64.wrap ((BitVec.ofInt IntKind.i64.bits a ||| BitVec.ofInt IntKind.i64.bits b).toNat)
def aFf (a b : Int) : Int := IntKind.i64.wrap ((BitVec.ofInt IntKind.i64.bits a ^^^ BitVec.ofInt IntKind.i64.bits b).toNat)
def chk (b : Bool) : Option Unit := bif b then some () else none
theorem aKq {b : Bool} {u : Unit} (h : chk b = some u) : b = true := by cases b <;> simp [chk] at h ⊢
def app {α : Type} (bytes : Nat) (xs ys : List α) : Option (List α) := if (xs.length + ys.length) * bytes ≤ 140737488355328 then some (xs ++ ys) else none
theorem aFe {α : Type} {bytes : Nat} {xs ys zs : List α} (h : app bytes xs ys = some zs) : (xs.length + ys.length) * bytes ≤ 140737488355328 ∧ zs = xs ++ ys := by
  unfold app at h
  split at h
  · rename_i hc; cases h; exact ⟨hc, rfl⟩
  · cases h
theorem aJw {α β : Type} (f : α → β) {bytes : Nat} {m : Int} {z : α} {l : List α} (h : mk bytes m z = some l) : mk bytes m (f z) = some (l.map f) := by
  obtain ⟨h0, h1, rfl⟩ := aHi h
  simp [mk, h0, h1]
theorem wP {α : Type} (f : α → List D) (xs : List α) (i : Nat) (y : α) {ds : List D} (h : ds = f y) : (xs.map f).set i ds = (xs.set i y).map f := by
  subst h
  exact List.map_set.symm
theorem pF {α : Type} (f : α → List D) {xs : List α} {p : Int} {x : α} (h : idx xs p = some x) : (xs.map f)[p.toNat]? = some (f x) := (xD (cE f h)).2.2

section
variable {P : Program} {n d : Nat} {st st' : St} {o : Oper} {Q : Exit → St → Prop} {N : St → Prop} {ops : Array Oper}

theorem dC {α : Type} {x : Operand} {k : Nat} {f : α → List D} {xs : List α} {t ty : TypeId} {pos : String} {af : Array Edge} {gd : Option (Nat × Bool)} (hd : d < n)
    (hx : st.eval x = .d (.sl k (xs.map f))) {e kk : Nat} (ht : nV P t e kk) : dH P n ⟨some d, .call { callee := .builtin .len, args := #[x], argTypes := #[t] }, ty, pos, af, gd⟩ st (st.set d (.i xs.length)) := by
  have := aLl (ty := ty) (pos := pos) (af := af) (gd := gd) hd hx ht
  rwa [List.length_map] at this
theorem qW {α : Type} {x : Operand} {v : Value} {e k m : Nat} {f : α → List D} {xs : List α} {t ty : TypeId} {pos : String} {af : Array Edge} {gd : Option (Nat × Bool)} (hd : d < n)
    (hx : st.eval x = .d (.lit v)) (ho : st.objs[m]? = some (.arr v e k (xs.map f))) {e' kk : Nat} (ht : nV P t e' kk) : dH P n ⟨some d, .call { callee := .builtin .len, args := #[x], argTypes := #[t] }, ty, pos, af, gd⟩ st (st.set d (.i xs.length)) := by
  have := aKd (ty := ty) (pos := pos) (af := af) (gd := gd) hd hx ho ht
  rwa [List.length_map] at this

theorem mJ {α : Type} {t e k bytes i : Nat} {z v : Value} {x y : Operand} {f : α → List D} {xs ys zs : List α} {ty : TypeId} {pos : String} {af : Array Edge} {gd : Option (Nat × Bool)} (hd : d < n) (ht : SliceTy P t e k bytes z)
    (hx : st.eval x = .d (.lit v)) (ho : st.objs[i]? = some (.arr v e k (xs.map f))) (hy : st.eval y = .d (.sl k (ys.map f))) (hk : ∀ x, (f x).length = k)
    (h : app bytes xs ys = some zs) (hby : Nat.blt 0 bytes = true) :
    Step P n ⟨some d, .call { callee := .builtin .append, args := #[x, y], argTypes := #[t, t] }, ty, pos, af, gd⟩ st
      (fun s => ∃ v', s = ⟨upd st.env d (.d (.lit v')), st.objs.set i (.arr v' e k (zs.map f))⟩) := by
  obtain ⟨h1, rfl⟩ := aFe h
  have := aLj (ty := ty) (pos := pos) (af := af) (gd := gd) hd ht hx ho hy (dT hk) (by simpa using h1) (aA hby)
  simpa using this

theorem aMa {x y : Operand} {k : IntKind} {p q : Int} {ts : Array TypeId} {ty : TypeId} {pos : String} {af : Array Edge} {gd : Option (Nat × Bool)} (hd : d < n)
    (hx : st.eval x = .d (.lit (.int k p))) (hy : st.eval y = .d (.lit (.int k q))) :
    dH P n ⟨some d, .call { callee := .builtin .max, args := #[x, y], argTypes := ts }, ty, pos, af, gd⟩ st (st.set d (.d (.lit (.int k (max p q))))) :=
  lP rfl hd rfl fun A M w0 a w hR => by
    have : (if q > p then q else p) = max p q := by simp only [Int.max_def]; split <;> split <;> omega
    simp [execOp, resolve, hR.lit hx, hR.lit hy, invoke, builtin, Builtin.max_, Builtin.max2, this]
/-- A component of an array's value. -/
theorem aGw {x y : Operand} {t len e : Nat} {ds : List D} {kd : IntKind} {p : Int} {d0 : D} {ty : TypeId} {pos : String} {af : Array Edge} {gd : Option (Nat × Bool)} (hd : d < n)
    (hx : st.eval x = .agg ds) (hy : st.eval y = .d (.lit (.int kd p))) (ht : aBs P t len e 1) (h1 : oA P e) (hp : 0 ≤ p ∧ p < len) (hj : ds[p.toNat * 1]? = some d0) :
    dH P n ⟨some d, .index t x y, ty, pos, af, gd⟩ st (st.set d (.d d0)) :=
  dR rfl hd fun A M w0 a w hR => by
    have hk : eZ x = true := by cases x with | const u => cases hx | _ => rfl
    have h := hR.eval' hk
    rw [hx] at h
    generalize hu : a.eval x = u at h
    cases h with
    | agg h =>
      rename_i cs
      obtain ⟨v, hv, hdv⟩ := h.get hj
      refine ⟨v, ?_, .d hdv⟩
      have hv' : cs[p.toNat]? = some v := by simpa using hv
      simp [execOp, hu, hR.lit hy, Instr.index, asIntOf, ht.1, ht.2, hp.1, hp.2, part, h1.1, hv']

theorem bT {ks : List Nat} {t : Nat} {v : AV} {s : St} (ho : s.objs = st.objs) (he : AllEq s.env st.env ks) (hv : s.env t = v) : Ent s ⟨upd (keep ks st.env) t v, st.objs⟩ := by
  rw [← ho]
  exact dB (aZ hv (bC he))

theorem dY {S T : Type} (l : List Nat) (us : S → List (Nat × AV)) (objs : S → List MO) (F : Nat → S → Option T) {r : T} {c : Code} (hz : ∀ s, F 0 s = none) {k0 : Nat} (s0 : S) (h0 : F k0 s0 = some r)
    (he : Ent st ⟨rB (keep l st.env) (us s0), objs s0⟩)
    (body : ∀ k s, F (k + 1) s = some r → Tr P n c ⟨rB (keep l st.env) (us s), objs s⟩ (kN (fun st' => ∃ s', F k s' = some r ∧ Ent st' ⟨rB (keep l st.env) (us s'), objs s'⟩) Q)) : Tr P n (.loop c) st Q :=
  cT he (aNe (fun s => ⟨rB (keep l st.env) (us s), objs s⟩) F r hz body k0 s0 h0)

theorem aKk {l : Nat} (h : N st) : Tr P n (.label l) st (kN N Q) := aLq h
theorem tQ {id id' : Nat} {c : Code} (h : Tr P n c st (qD id N (qD id' N Q))) : Tr P n (.block id c) st (qD id' N Q) := aGh h fun _ h => h
end

/-- A bound on an index. -/
def inb (len : Nat) (p : Int) : Option Unit := if 0 ≤ p ∧ p < len then some () else none
theorem iE {len : Nat} {p : Int} {u : Unit} (h : inb len p = some u) : 0 ≤ p ∧ p < len := by
  unfold inb at h
  split at h
  · assumption
  · cases h

/-! What readings are: integers of 64 bits, slices of a bounded length. -/
def okI (n : Int) : Prop := -9223372036854775808 ≤ n ∧ n ≤ 9223372036854775807
def okL {α : Type} (ok : α → Prop) (xs : List α) : Prop := xs.length ≤ maxLen ∧ ∀ x ∈ xs, ok x

end Go.Am
