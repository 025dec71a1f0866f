/- Slices that came in lie within the machine's addresses. -/
import Derived.Test.YtaocljlhapoieaaAmClose
import Derived.SizedLaws
namespace Go.Am
open Go.ChangeShapes Go.WideShapes Go.ChangeAt Go.RowKit

section
variable {P : Program}
theorem aFo {w : World} {X : bY} {k : Nat} {rows : List (List D)} {p : Option Addr} {len cap : Nat} (h : DRs w X [.sl k rows] [.slice p len cap]) : rows.length = len := by
  have h1 := h.1
  cases h1 with
  | nil => rfl
  | e0 => rfl
  | sl => rfl
theorem xJ {t e : TypeId} {k : Nat} {α : Type} {enc : α → List D} {ok : α → Prop} (ht : P.underlying t = some (.slice e)) (hr : Rd P t (fun xs : List α => [.sl k (xs.map enc)]) (okL ok))
    (H : Type) (eh : TypeId × Value → H) (w : World) (X : bY) (hX : ∀ b o, ¬ X b o) (fuel : Nat) (cs : List Value) (x : DataW H × List MemPlace) (h : DataW.trod eh P w 0 (fun _ => true) true fuel t cs = some x) (hz : ∀ n ∈ x.1.weights P t, n ≤ reachBytes) :
    ∃ a : List α, (okL ok a ∧ a.length * P.bytesOf e ≤ reachBytes) ∧ DRs w X [.sl k (a.map enc)] cs := by
  obtain ⟨a, hok, hd⟩ := hr H eh w X hX fuel cs x h
  refine ⟨a, ⟨hok, ?_⟩, hd⟩
  rcases DataW.trod_slice ht h with ⟨rfl, _⟩ | ⟨ad, len, cap, elems, rest, n, _, rfl, rfl, _, _, _, hlen, _⟩
  · have := aFo hd
    rw [List.length_map] at this
    rw [this]; simp
  · have hl := aFo hd
    rw [List.length_map] at hl
    have hm := hz ((elems.map (·.1)).length + (rest.map (·.1)).length |>.mul (P.bytesOf e)) (by simp [DataW.weights, ht])
    rw [List.length_map, List.length_map] at hm
    refine Nat.le_trans (Nat.mul_le_mul_right _ ?_) hm
    omega
theorem sB {H : Type} {t : TypeId} {fs : Array Field} (ht : P.underlying t = some (.struct fs)) {parts : List (DataW H)} {j : Nat} {tj : TypeId} {d : DataW H} (hj : (fs.toList.map (·.type))[j]? = some tj) (hd : parts[j]? = some d) {m : Nat} (hm : m ∈ d.weights P tj) : m ∈ (DataW.agg parts).weights P t := by
  simp only [DataW.weights, ht]
  exact DataW.weights_mem_each hj hd m hm
/-- As 'Rd', of what came in. -/
def RdZ (P : Program) (t : TypeId) {α : Type} (enc : α → List D) (ok : α → Prop) : Prop :=
  ∀ (H : Type) (eh : TypeId × Value → H) (w : World) (X : bY), (∀ b o, ¬ X b o) → ∀ (fuel : Nat) (cs : List Value) (x : DataW H × List MemPlace), DataW.trod eh P w 0 (fun _ => true) true fuel t cs = some x →
    (∀ n ∈ x.1.weights P t, n ≤ reachBytes) → ∃ a : α, ok a ∧ DRs w X (enc a) cs
variable {r : Reach} {H : Type} {eh : TypeId × Value → H} {W : World} {base : Nat} {t : TypeId} {v : Value} {d : DataW H} {p : List MemPlace} {X : bY} {α : Type} {ok : α → Prop}
theorem aIa {enc : α → List D} {fs : Array Field} (ht : P.underlying t = some (.struct fs)) (hr : RdZ P t enc ok) (hv : Value.okWide P W r base t v)
    (h : DataW.Trod eh P W 0 (fun _ => true) true t v d p) (hX : ∀ b o, ¬ X b o) (hz : ∀ n ∈ d.weights P t, n ≤ reachBytes) : ∃ a, ok a ∧ VR W X (.agg (enc a)) v := by
  obtain ⟨fuel, h⟩ := h
  obtain ⟨xs, h1, h2⟩ := hr H eh W X hX fuel _ _ h hz
  refine ⟨xs, h1, ?_⟩
  simp only [Value.okWide, ht] at hv
  obtain ⟨cs, rfl, _⟩ := hv
  exact .agg h2
end
end Go.Am
