/- One more ban; one more report. -/
import Derived.Test.YtaocljlhapoieaaRkPlain17
namespace Go.Am

section ban
variable {l : aP} {z : List aC} (ban : aZ) (w : Int)
end ban

/-- A ledger with one more report. -/
def lQ (l : aP) (r : aC) : aP := ⟨l.Players, l.Counts, l.Reports ++ [r], l.Bans, l.Frozen⟩
theorem aIx {l : aP} {z zo : List aC} {r : aC} (h : GL l z) (ho : GL (lQ l r) zo) (hr : ∀ x ∈ l.Reports, x.Id < r.Id) : zo = z ++ [r] :=
  sZ (key := fun x : aC => x.Id) ho.st (List.pairwise_append.2 ⟨h.st, List.pairwise_singleton _ _, fun x hx y hy => by
    rw [List.mem_singleton] at hy; subst hy; exact hr x ((h.mem x).1 hx)⟩) fun x => by
    rw [ho.mem, List.mem_append, h.mem, List.mem_singleton]
    show x ∈ l.Reports ++ [r] ↔ _
    rw [List.mem_append, List.mem_singleton]
section add
variable {l : aP} {z : List aC} {r : aC} (w : Int)
theorem uM (p : Int) : dZ (lQ l r) (z ++ [r]) p w = dZ l z p w ++ (if uU l p w r = true then [r] else []) := by
  unfold dZ
  rw [List.filter_append, show uU (lQ l r) p w = uU l p w from rfl]
  congr 1
  by_cases h : uU l p w r = true <;> simp [h]
theorem aAp {p : Int} (hp : p ≠ r.Player) : dZ (lQ l r) (z ++ [r]) p w = dZ l z p w := by
  rw [uM, if_neg, List.append_nil]
  unfold uU
  rw [decide_eq_false (Ne.symm hp)]; simp
theorem aFu {p : Int} (hp : p ≠ r.Player) : lE (lQ l r) (z ++ [r]) w p = lE l z w p := by unfold lE lR; rw [aAp w hp]; rfl
theorem zI {p : Int} (h : iN l z w p = true) : iN (lQ l r) (z ++ [r]) w p = true := by
  unfold iN at h ⊢
  simp only [Bool.and_eq_true, Bool.not_eq_true', decide_eq_false_iff_not] at h ⊢
  refine ⟨h.1, ?_⟩
  rw [uM, List.length_append]; omega
theorem yT {p : Int} (hp : p ≠ r.Player) : iN (lQ l r) (z ++ [r]) w p = iN l z w p := by
  unfold iN
  rw [aAp w hp]; rfl
theorem aEd (h : GL l z) (hz : (z ++ [r]).Pairwise fun x y => x.Id < y.Id) (hok : ∀ x ∈ z ++ [r], rZ l.Players x = true) (hm : r.Must = false) (p : Int) : lR l z p w ≤ lR (lQ l r) (z ++ [r]) p w := by
  unfold lR
  have hC := (mD h.led).2.1
  have hzl := h.len
  refine aDb (C := l.Counts) (tR h.st) (tR (l := lQ l r) hz) (oV (l := lQ l r) hok) (Nat.le_trans mN (by simp; omega)) (by omega) (fun x hx => ?_) fun x hx hxm => ?_
  · rw [uM]; exact List.mem_append_left _ hx
  · rw [uM] at hx
    rcases List.mem_append.1 hx with hx | hx
    · exact hx
    · split at hx
      · rw [List.mem_singleton] at hx; subst hx; rw [hm] at hxm; cases hxm
      · simp at hx
/-- With more points a player falls to no later place. -/
theorem aEz {a b : List Int} (ha : IsList l z w a) (hb : IsList (lQ l r) (z ++ [r]) w b) {p : Int} (hp : p ∈ a) (hm : lR l z p w < lR (lQ l r) (z ++ [r]) p w) (hpr : p = r.Player) : jU b p ≤ jU a p := by
  have hpb : p ∈ b := (hb.mem p).2 ⟨((ha.mem p).1 hp).1, zI w ((ha.mem p).1 hp).2⟩
  refine aGe ha hb hp hpb fun q hq hqb => ?_
  have hqp : q ≠ r.Player := fun he => by rw [he, ← hpr] at hqb; exact vF _ _ _ _ hqb
  have h1 := (hb.mem q).1 hq
  rw [yT w hqp] at h1
  refine ⟨(ha.mem q).2 h1, ?_⟩
  unfold bef ltL at hqb ⊢
  rw [aFu w hqp] at hqb
  left
  have : (lE (lQ l r) (z ++ [r]) w p).points = lR (lQ l r) (z ++ [r]) p w := rfl
  have h2 : (lE l z w p).points = lR l z p w := rfl
  omega
end add
end Go.Am
