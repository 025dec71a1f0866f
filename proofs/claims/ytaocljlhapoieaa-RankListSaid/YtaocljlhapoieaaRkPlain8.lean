/- Leaves, ages, the reports that count. -/
import Derived.Test.YtaocljlhapoieaaRkPlain7
namespace Go.Am

/-- A loop along a row, with a state. -/
theorem kD {α S T : Type} (F : Nat → Int → S → T) (l : List α) (f : S → α → S) (K : S → T) (s0 : S) (h1 : ∀ k i (hi : i < l.length) s, s = (l.take i).foldl f s0 → F (k + 1) (i : Nat) s = F k ((i + 1 : Nat) : Int) (f s l[i])) (h2 : ∀ k s, F (k + 1) (l.length : Nat) s = K s) :
    ∀ k, l.length < k → F k 0 s0 = K (l.foldl f s0) := by
  intro k hk
  have := aHp F l.length (fun i s => K ((l.drop i).foldl f s)) (fun i s => s = (l.take i).foldl f s0) (fun k i s hi hI ih => by
    rw [h1 k i hi s hI, ih _ (by rw [List.take_succ_eq_append_getElem hi, List.foldl_append, ← hI]; rfl), List.drop_eq_getElem_cons hi]; rfl)
    (fun k s _ => by rw [h2]; simp) k s0 hk (by simp)
  simpa using this
theorem uW {α T : Type} (F : Nat → Int → List α → T) (l : List α) (p : α → Bool) (K : List α → T) (h1 : ∀ k i (hi : i < l.length) s, s = (l.take i).filter p → F (k + 1) (i : Nat) s = F k ((i + 1 : Nat) : Int) (bif p l[i] then s ++ [l[i]] else s)) (h2 : ∀ k s, F (k + 1) (l.length : Nat) s = K s) :
    ∀ k, l.length < k → F k 0 [] = K (l.filter p) := by
  intro k hk
  have hf : ∀ (l : List α) (s : List α), l.foldl (fun s x => bif p x then s ++ [x] else s) s = s ++ l.filter p := by
    intro l
    induction l with
    | nil => intro s; simp
    | cons x l ih =>
      intro s
      rw [List.foldl_cons, ih]
      cases hp : p x <;> simp [hp]
  have := kD F l (fun s x => bif p x then s ++ [x] else s) K [] (fun k i hi s hs => h1 k i hi s (by rw [hs, hf]; simp)) h2 k hk
  rw [this, hf]; simp

/-- Whether a player is away. -/
def kF (all : List aZ) (p w : Int) : Bool := all.any fun a => decide (a.Player = p) && (decide (a.From ≤ w) && decide (w ≤ a.To))
theorem aGr (all : List aZ) (p w : Int) (hb : all.length ≤ 1000000) : mS all p w = some (kF all p w) := by
  have h1 : ∀ x ∈ all, qC x p w = some (decide (x.Player = p) && (decide (x.From ≤ w) && decide (w ≤ x.To))) := by
    intro x _
    unfold qC
    simp only [tL, Option.bind_some, gC]
  unfold mS
  rw [uV all _ _ h1 hb]; rfl
theorem aAq {α : Type} [Inhabited α] (l : List α) (p : α → Bool) : (List.range l.length).all (fun i => !p (l.getD i default)) = !l.any p := by
  rw [pK l (fun x => !p x), List.not_any_eq_all_not]
theorem aEg (all : List aZ) (p w : Int) (hb : all.length ≤ 1000000) : iX all p w = some (kF all p w) := by
  unfold iX
  have main := mE (fun k i => hY all p w k i) all.length (fun i => !(fun a : aZ => decide (a.Player = p) && (decide (a.From ≤ w) && decide (w ≤ a.To))) (all.getD i default)) (some true) (some false) ?_ ?_ BIG (dD (by omega))
  · rw [main, aAq all (fun a : aZ => decide (a.Player = p) && (decide (a.From ≤ w) && decide (w ≤ a.To)))]
    unfold kF
    cases all.any fun a => decide (a.Player = p) && (decide (a.From ≤ w) && decide (w ≤ a.To)) <;> rfl
  · intro k i hi
    have hlt : decide ((i : Int) < (all.length : Int)) = true := decide_eq_true (by omega)
    have ei : all.getD i default = all[i] := by simp [List.getD, List.getElem?_eq_getElem hi]
    simp only [hY, hlt, cond_true, dK hi, Option.bind_some, vM, gC, cP (show i < 9223372036854775807 by omega), ei]
    cases (decide (all[i].Player = p) && (decide (all[i].From ≤ w) && decide (w ≤ all[i].To))) <;> rfl
  · intro k
    have hlt : decide ((all.length : Int) < (all.length : Int)) = false := decide_eq_false (by omega)
    simp only [hY, hlt, cond_false, oY]

/-- The weeks behind a report's own that are not frozen. -/
def tM (fz : List aZ) (r : aC) (w : Int) : Int := (((List.range (w - r.Week).toNat).filter fun j => !kF fz r.Player (r.Week + 1 + (j : Nat))).length : Nat)
theorem aJc (l : aP) (r : aC) (w : Int) (hb : l.Frozen.length ≤ 1000000) (h0 : 0 ≤ r.Week) (h1 : r.Week ≤ 1000) (h2 : w ≤ 1000) (h3 : 0 ≤ w) : lX l r w = some (tM l.Frozen r w) := by
  unfold lX
  have main : ∀ (d : Nat) (j k : Nat) (c : Nat), (w - r.Week).toNat - j = d → d < k → j ≤ (w - r.Week).toNat → c ≤ j → c = ((List.range j).filter fun j => !kF l.Frozen r.Player (r.Week + 1 + (j : Nat))).length →
      gP w l r k (c : Nat) (r.Week + 1 + (j : Nat)) = some (tM l.Frozen r w) := by
    intro d
    induction d with
    | zero =>
      intro j k c hd hk hj hcj hc
      obtain ⟨k, rfl⟩ : ∃ q, k = q + 1 := ⟨k - 1, by omega⟩
      have hlt : decide (r.Week + 1 + (j : Int) ≤ w) = false := decide_eq_false (by omega)
      have : j = (w - r.Week).toNat := by omega
      simp only [gP, hlt, cond_false, pR]
      unfold tM
      rw [← this, hc]
    | succ d ih =>
      intro j k c hd hk hj hcj hc
      obtain ⟨k, rfl⟩ : ∃ q, k = q + 1 := ⟨k - 1, by omega⟩
      have hlt : decide (r.Week + 1 + (j : Int) ≤ w) = true := decide_eq_true (by omega)
      have e1 : w64 (r.Week + 1 + (j : Int) + 1) = r.Week + 1 + ((j + 1 : Nat) : Int) := by rw [cW (by omega) (by omega)]; omega
      simp only [gP, hlt, cond_true, aEg _ _ _ hb, Option.bind_some, e1]
      cases ha : kF l.Frozen r.Player (r.Week + 1 + (j : Int)) with
      | true =>
        simp only [Bool.not_true, cond_false]
        exact ih (j + 1) k c (by omega) (by omega) (by omega) (by omega) (by rw [List.range_succ, List.filter_append, List.length_append, ← hc]; simp [ha])
      | false =>
        simp only [Bool.not_false, cond_true]
        rw [cP (by omega)]
        exact ih (j + 1) k (c + 1) (by omega) (by omega) (by omega) (by omega) (by rw [List.range_succ, List.filter_append, List.length_append, ← hc]; simp [ha])
  have e1 : w64 (r.Week + 1) = r.Week + 1 + ((0 : Nat) : Int) := by rw [cW (by omega) (by omega)]; omega
  rw [e1]
  exact main _ 0 BIG 0 rfl (dD (by omega)) (Nat.zero_le _) (Nat.le_refl _) (by simp)
/-- The weeks of a leave within a stretch of weeks. -/
theorem aCy (f t s : Int) (n : Nat) : ((((List.range n).filter fun j => decide (f ≤ s + 1 + (j : Nat)) && decide (s + 1 + (j : Nat) ≤ t)).length : Nat) : Int) = max 0 (min t (s + n) - max f (s + 1) + 1) := by
  induction n with
  | zero => simp only [List.range_zero, List.filter_nil, List.length_nil]; omega
  | succ n ih =>
    rw [List.range_succ, List.filter_append, List.length_append]
    simp only [Int.natCast_add, ih]
    by_cases h1 : f ≤ s + 1 + (n : Int) <;> by_cases h2 : s + 1 + (n : Int) ≤ t <;> simp [h1, h2] <;> omega
theorem yW {α : Type} (l : List α) (p q : α → Bool) (h : ∀ x ∈ l, ¬ (p x = true ∧ q x = true)) : (l.filter fun x => p x || q x).length = (l.filter p).length + (l.filter q).length := by
  induction l with
  | nil => rfl
  | cons x l ih =>
    have h1 := ih fun y hy => h y (List.mem_cons_of_mem _ hy)
    have h2 := h x (by simp)
    cases hp : p x <;> cases hq : q x <;> simp [hp, hq] at h2 ⊢ <;> omega
theorem aAt {α : Type} (l : List α) (p : α → Bool) : (l.filter p).length + (l.filter fun x => !p x).length = l.length := by
  induction l with
  | nil => rfl
  | cons x l ih => cases hp : p x <;> simp [hp] <;> omega
/-- What the leaves take off an age. -/
def sW (p s w : Int) : List aZ → Int
  | [] => 0
  | f :: fz => (if f.Player = p then max 0 (min f.To w - max f.From (s + 1) + 1) else 0) + sW p s w fz
theorem aAv (l : List Nat) : l.filter (fun _ => false) = [] := by
  induction l with
  | nil => rfl
  | cons x l ih => rw [List.filter_cons, ih]; rfl
theorem aBe (p s w : Int) (hsw : s ≤ w) : ∀ fz : List aZ, fz.Pairwise (fun a b => kY a b = false) → sW p s w fz = (((List.range (w - s).toNat).filter fun j => kF fz p (s + 1 + (j : Nat))).length : Nat)
  | [], _ => by simp [sW, kF, aAv]
  | f :: fz, h => by
    have h' := List.pairwise_cons.1 h
    have ih := aBe p s w hsw fz h'.2
    have e : (List.range (w - s).toNat).filter (fun j => kF (f :: fz) p (s + 1 + (j : Nat))) = (List.range (w - s).toNat).filter (fun j => (decide (f.Player = p) && (decide (f.From ≤ s + 1 + (j : Nat)) && decide (s + 1 + (j : Nat) ≤ f.To))) || kF fz p (s + 1 + (j : Nat))) := by
      simp only [kF, List.any_cons]
    rw [e, yW]
    · simp only [sW, ih, Int.natCast_add]
      congr 1
      by_cases hp : f.Player = p
      · have := aCy f.From f.To s (w - s).toNat
        have e2 : s + ((w - s).toNat : Int) = w := by omega
        rw [e2] at this
        simp only [hp, if_true, decide_true, Bool.true_and]
        rw [this]
      · simp [hp, aAv]
    · rintro j _ ⟨h1, h2⟩
      simp only [Bool.and_eq_true, decide_eq_true_eq] at h1
      obtain ⟨a, ha, h3⟩ := List.any_eq_true.1 h2
      simp only [Bool.and_eq_true, decide_eq_true_eq] at h3
      have := h'.1 a ha
      unfold kY at this
      rw [Bool.eq_false_iff] at this
      apply this
      simp only [Bool.and_eq_true, decide_eq_true_eq]
      omega
theorem aAg {l : List aZ} (h : nP l = true) : l.Pairwise (fun a b => kY a b = false) := by
  refine List.pairwise_iff_getElem.2 fun i j hi hj hij => ?_
  have h1 := List.all_eq_true.1 h j (List.mem_range.2 hj)
  have h2 := List.all_eq_true.1 h1 i (List.mem_range.2 hij)
  have ei : l.getD i default = l[i] := by simp [List.getD, List.getElem?_eq_getElem hi]
  have ej : l.getD j default = l[j] := by simp [List.getD, List.getElem?_eq_getElem hj]
  rw [ei, ej] at h2
  unfold kY at h2 ⊢
  rw [Bool.eq_false_iff]
  simp only [Bool.not_eq_true', Bool.eq_false_iff] at h2
  intro hn
  apply h2
  simp only [Bool.and_eq_true, decide_eq_true_eq] at hn ⊢
  omega
theorem aGx (fz : List aZ) (r : aC) (w : Int) (hw : r.Week ≤ w) (ha : fz.Pairwise (fun a b => kY a b = false)) : w - r.Week - sW r.Player r.Week w fz = tM fz r w := by
  rw [aBe r.Player r.Week w hw fz ha]
  unfold tM
  have := aAt (List.range (w - r.Week).toNat) fun j => kF fz r.Player (r.Week + 1 + (j : Nat))
  rw [List.length_range] at this
  omega
theorem aBd (p s w : Int) : ∀ (fz : List aZ), (∀ f ∈ fz, 0 ≤ f.From ∧ f.To ≤ 400) → 0 ≤ sW p s w fz ∧ sW p s w fz ≤ 401 * fz.length
  | [], _ => by simp [sW]
  | f :: fz, h => by
    have h1 := aBd p s w fz fun x hx => h x (List.mem_cons_of_mem _ hx)
    have h2 := h f (by simp)
    simp only [sW, List.length_cons]
    split <;> constructor <;> omega
theorem aJe (b : bY) (r : aC) (w : Int) (hfz : ∀ f ∈ b.Ledger.Frozen, 0 ≤ f.From ∧ f.To ≤ 400 ∧ f.From ≤ f.To) (hb : b.Ledger.Frozen.length ≤ 8) (ha : nP b.Ledger.Frozen = true) (h0 : 0 ≤ r.Week) (h1 : r.Week ≤ w) (h2 : w ≤ 1000) : mL b r w = some (tM b.Ledger.Frozen r w) := by
  unfold mL
  have hoff : ∀ (l : List aZ) (n : Int), l.foldl (fun n f => if f.Player = r.Player then n - max 0 (min f.To w - max f.From (r.Week + 1) + 1) else n) n = n - sW r.Player r.Week w l := by
    intro l
    induction l with
    | nil => intro n; simp [sW]
    | cons f l ih =>
      intro n
      rw [List.foldl_cons, ih]
      simp only [sW]
      split <;> omega
  have main := kD (fun k i n => iD w b.Ledger.Frozen (b.Ledger.Frozen.length : Int) r k n i) b.Ledger.Frozen (fun n f => if f.Player = r.Player then n - max 0 (min f.To w - max f.From (r.Week + 1) + 1) else n) (fun n => some n) (w - r.Week) ?_ ?_ BIG (dD (by omega))
  · rw [cW (by omega) (by omega), main, hoff, aGx _ _ _ h1 (aAg ha)]
  · intro k i hi n hn
    have hlt : decide ((i : Int) < (b.Ledger.Frozen.length : Int)) = true := decide_eq_true (by omega)
    have hf := hfz _ (List.getElem_mem hi)
    have hr := aBd r.Player r.Week w (b.Ledger.Frozen.take i) fun x hx => by have := hfz x (List.mem_of_mem_take hx); omega
    rw [hoff] at hn
    simp only [List.length_take] at hr
    simp only [iD, hlt, cond_true, dK hi, Option.bind_some, cP (show i < 9223372036854775807 by omega)]
    by_cases hp : b.Ledger.Frozen[i].Player = r.Player
    · rw [decide_eq_true hp, cond_true, if_pos hp]
      have e1 : w64 (r.Week + 1) = r.Week + 1 := cW (by omega) (by omega)
      rw [e1]
      have e2 : w64 (min b.Ledger.Frozen[i].To w - max b.Ledger.Frozen[i].From (r.Week + 1)) = min b.Ledger.Frozen[i].To w - max b.Ledger.Frozen[i].From (r.Week + 1) := cW (by omega) (by omega)
      rw [e2]
      have e3 : w64 (min b.Ledger.Frozen[i].To w - max b.Ledger.Frozen[i].From (r.Week + 1) + 1) = min b.Ledger.Frozen[i].To w - max b.Ledger.Frozen[i].From (r.Week + 1) + 1 := cW (by omega) (by omega)
      rw [e3]
      have e4 : w64 (n - max 0 (min b.Ledger.Frozen[i].To w - max b.Ledger.Frozen[i].From (r.Week + 1) + 1)) = n - max 0 (min b.Ledger.Frozen[i].To w - max b.Ledger.Frozen[i].From (r.Week + 1) + 1) := cW (by omega) (by omega)
      rw [e4]
    · rw [decide_eq_false hp, cond_false, if_neg hp]
  · intro k n
    have hlt : decide ((b.Ledger.Frozen.length : Int) < (b.Ledger.Frozen.length : Int)) = false := decide_eq_false (by omega)
    simp only [iD, hlt, cond_false, qO]
end Go.Am
