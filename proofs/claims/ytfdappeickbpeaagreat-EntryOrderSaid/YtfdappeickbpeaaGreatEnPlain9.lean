/- Entry, plainly: where a player stands; the entries by an insertion sort, to be computed. -/
import Derived.Test.YtfdappeickbpeaaGreatEnPlain8
namespace Go.Am

def pO (a b c : List Int) (p : Int) : Int × Int :=
  bif decide (0 ≤ gX (fun x => decide (p = x)) a) then (1, gX (fun x => decide (p = x)) a + 1)
  else bif decide (0 ≤ gX (fun x => decide (p = x)) b) then (2, gX (fun x => decide (p = x)) b + 1)
  else bif decide (0 ≤ gX (fun x => decide (p = x)) c) then (3, gX (fun x => decide (p = x)) c + 1)
  else (0, 0)
theorem tO {α : Type} (p : α → Bool) (xs : List α) : -1 ≤ gX p xs ∧ gX p xs ≤ xs.length := by
  unfold gX
  split <;> omega
theorem aIh (a b c : List Int) (p : Int) (ha : a.length ≤ 1000) (hb : b.length ≤ 1000) (hc : c.length ≤ 1000) : gP p [a, b, c] 3 BIG 0 = some (pO a b c p) := by
  obtain ⟨k, hk⟩ : ∃ k, BIG = k + 1 + 1 + 1 + 1 := ⟨BIG - 4, by unfold BIG; omega⟩
  have i1 := aCy a p (by omega)
  have i2 := aCy b p (by omega)
  have i3 := aCy c p (by omega)
  have r1 := tO (fun x => decide (p = x)) a
  have r2 := tO (fun x => decide (p = x)) b
  have r3 := tO (fun x => decide (p = x)) c
  rw [hk]
  unfold pO
  simp only [gP, mV, show decide ((0 : Int) < 3) = true from rfl, cond_true, show idx [a, b, c] 0 = some a from rfl, Option.bind_some, show w64 (0 + 1) = 1 from rfl, show decide ((1 : Int) < 3) = true from rfl, show idx [a, b, c] 1 = some b from rfl, show w64 (1 + 1) = 2 from rfl, show decide ((2 : Int) < 3) = true from rfl, show idx [a, b, c] 2 = some c from rfl, show w64 (2 + 1) = 3 from rfl, show decide ((3 : Int) < 3) = false from rfl, cond_false, i1, i2, i3]
  rw [gV (by omega) (by omega), gV (by omega) (by omega), gV (by omega) (by omega)]
  cases decide (0 ≤ gX (fun x => decide (p = x)) a) <;> cases decide (0 ≤ gX (fun x => decide (p = x)) b) <;> cases decide (0 ≤ gX (fun x => decide (p = x)) c) <;> rfl
def rA (l : aK) (p : Int) : Int × Int := pO (nB l) l.wilds (xX l) p
theorem aCv {l : aK} (h : WF l) : (xX l).length ≤ 60 := Nat.le_trans (List.length_filter_le _ _) (oN h)
theorem aDh {f : aU} {l : aK} {i : Nat} (h : jW f l i) (hi : i ≤ 60) (p : Int) : iU l p = some (rA l p) := by
  have hm := tE h
  have ho := aCv h.wf
  have hw := h.cn.wl
  unfold iU rA
  rw [xW h, Option.bind_some, aGn h, Option.bind_some]
  exact aIh _ _ _ p (by omega) (by omega) (by omega)
/-! ### The entries by an insertion sort. -/
def uS (l : aK) (n : Int) : List Int → List Int
  | [] => [n]
  | m :: t => bif decide (iV l n < iV l m) then n :: m :: t else m :: uS l n t
theorem vU (l : aK) (n : Int) : ∀ t : List Int, (uS l n t).Perm (n :: t)
  | [] => .refl _
  | m :: t => by
    simp only [uS]
    cases decide (iV l n < iV l m) with
    | true => exact .refl _
    | false => exact ((vU l n t).cons m).trans (.swap _ _ _)
theorem xB (l : aK) (n : Int) : ∀ t : List Int, t.Pairwise (fun a b => iV l a < iV l b) → (∀ m ∈ t, iV l m ≠ iV l n) → (uS l n t).Pairwise fun a b => iV l a < iV l b
  | [], _, _ => List.pairwise_singleton _ _
  | m :: t, hs, hne => by
    have h1 := List.pairwise_cons.1 hs
    simp only [uS]
    cases hc : decide (iV l n < iV l m) with
    | true =>
      simp only [decide_eq_true_eq] at hc
      refine List.pairwise_cons.2 ⟨fun b hb => ?_, hs⟩
      rcases List.mem_cons.1 hb with rfl | hb
      · exact hc
      · exact Int.lt_trans hc (h1.1 b hb)
    | false =>
      simp only [decide_eq_false_iff_not] at hc
      refine List.pairwise_cons.2 ⟨fun b hb => ?_, xB l n t h1.2 fun x hx => hne x (by simp [hx])⟩
      rcases List.mem_cons.1 ((vU l n t).mem_iff.1 hb) with rfl | hb
      · have := hne m (by simp); omega
      · exact h1.1 b hb
def aEx (l : aK) : List Int := (nT l).foldr (uS l) []
theorem vN (l : aK) : ∀ t : List Int, (t.foldr (uS l) []).Perm t
  | [] => .refl _
  | n :: t => (vU l n _).trans ((vN l t).cons n)
theorem tA {l : aK} (h : WF l) : gS l = aEx l := by
  have hn : (nT l).Nodup := by
    unfold nT
    exact h.keys.sublist ((List.filter_sublist).map _)
  have hs : ∀ t : List Int, t.Nodup → (∀ n ∈ t, (pl l n).entered = true) → (t.foldr (uS l) []).Pairwise fun a b => iV l a < iV l b := by
    intro t
    induction t with
    | nil => intro _ _; exact .nil
    | cons n t ih =>
      intro hn he
      have h1 := List.nodup_cons.1 hn
      refine xB l n _ (ih h1.2 fun m hm => he m (by simp [hm])) fun m hm e => ?_
      have hmt := (vN l t).mem_iff.1 hm
      have := xT h (he m (by simp [hmt])) (he n (by simp)) e
      subst this
      exact h1.1 hmt
  refine mK (key := iV l) (aDt h) (hs (nT l) hn fun n hm => sP hm) fun n => ?_
  rw [aBz]
  show isE l.players n = true ↔ n ∈ (nT l).foldr (uS l) []
  rw [(vN l (nT l)).mem_iff, uU]
def wP (l : aK) : List Int := vW l [] (aEx l)
theorem yS {l : aK} (h : WF l) : mN l = wP l := by
  unfold mN wP
  rw [tA h]
def rQ (l : aK) : List Int := bif l.frozen then l.first ++ l.late else wP l
theorem xV {l : aK} (h : WF l) : nB l = rQ l := by
  unfold nB rQ
  rw [yS h]
def wB (l : aK) : List Int := (aEx l).filter fun n => !decide (n ∈ rQ l)
theorem aEl {l : aK} (h : WF l) : xX l = wB l := by
  unfold xX wB
  rw [xV h, tA h]
def tZ (l : aK) : aK := bif l.frozen then l else { l with frozen := true, first := wP l }
theorem yM {l : aK} (h : WF l) : kH l = tZ l := by
  unfold kH tZ
  rw [yS h]
def yJ (l : aK) (es : List Int) (first : List Int) : Nat → List Int → List Int
  | 0, late => late
  | k + 1, late => bif decide (((first ++ late).length : Int) < plc l) then (match es.find? (oA l (first ++ late)) with
    | none => late
    | some n => yJ l es first k (late ++ [n])) else late
theorem aAi {l : aK} (first : List Int) : ∀ (k : Nat) (late : List Int), oF l first k late = yJ l (gS l) first k late
  | 0, _ => rfl
  | k + 1, late => by
    simp only [oF, yJ]
    cases (gS l).find? (oA l (first ++ late)) with
    | none => rfl
    | some n => simp only; rw [aAi first k (late ++ [n])]
def aEy (l : aK) : aK := wl l (l.first.filter fun n => isE l.players n) (yJ l (aEx l) (l.first.filter fun n => isE l.players n) 100 (l.late.filter fun n => isE l.players n))
theorem aHn {l : aK} (h : WF l) : uN l = aEy l := by
  unfold uN aEy
  rw [aAi, tA h]
def aFo (l : aK) (x : aJ) : aK :=
  let l2 := fP (bif decide (l.Field.Freeze < x.Hour) then tZ l else l) x
  bif l2.frozen then aEy l2 else l2
theorem aIi {f : aU} {l : aK} {x : aJ} {i : Nat} (h : jW f l i) (hi : i < 60) (hx : kV x = true) : wR l x = aFo l x := by
  have h1 : jW f (bif decide (l.Field.Freeze < x.Hour) then kH l else l) i := by
    cases decide (l.Field.Freeze < x.Hour) with
    | true => exact qM h
    | false => exact h
  have h2 := wI h1 hi hx
  have e1 : (bif decide (l.Field.Freeze < x.Hour) then kH l else l) = bif decide (l.Field.Freeze < x.Hour) then tZ l else l := by rw [yM h.wf]
  unfold wR aFo
  simp only
  rw [e1] at h2 ⊢
  rw [aHn h2.wf]
def aDb (hour : Int) (l : aK) : List aJ → aK
  | [] => l
  | x :: t => bif decide (hour < x.Hour) then l else aDb hour (aFo l x) t
theorem aEn {f : aU} (hour : Int) : ∀ (t : List aJ) (l : aK) (i : Nat), jW f l i → i + t.length ≤ 60 → (∀ x ∈ t, kV x = true) → oQ hour l t = aDb hour l t
  | [], _, _, _, _, _ => rfl
  | x :: t, l, i, h, hi, hx => by
    simp only [List.length_cons] at hi
    simp only [oQ, aDb]
    rw [← aIi h (by omega) (hx x (by simp)), aEn hour t _ (i + 1) (aBa h (by omega) (hx x (by simp))) (by omega) fun y hy => hx y (by simp [hy])]
def aHi (hour : Int) (l : aK) : aK := bif decide (l.Field.Freeze < hour) then tZ l else l
theorem aFr {f : aU} {l : List aJ} (h : VL f l) (hs : l.Pairwise fun x y => iE x < iE y) (hour : Int) : gH f l hour = aHi hour (aDb hour (kA f) l) := by
  have hb : ∀ x ∈ l, bN x := fun x hx => aBk (h.nt x hx)
  have ht : jV l = l := mK (kZ hb h.id) hs fun x => lF x
  have hlen := h.len
  obtain ⟨j, hj, hg⟩ := xZ hour l (kA f) 0 (tC h.fd) (by omega) h.nt
  unfold gH xK aHi
  rw [ht, yM hg.wf, aEn hour l (kA f) 0 (tC h.fd) (by omega) h.nt]
end Go.Am
