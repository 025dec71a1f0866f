/- The plain law RankSum. -/
import Derived.Test.YtaocljlhapoieaaRkPlain19
import Derived.Test.YtaocljlhapoieaaRankDefendsLaw
namespace Go.Am

section sum
variable (b : aD → Bool)
def qT : List aD → Int → Int
  | [], a => a
  | r :: L, a => qT L (bif (!r.Must && b r) && (decide (a < 0) || decide (r.Points < a)) then r.Points else a)
def uF : List aD → Int → Int
  | [], a => a
  | r :: L, a => uF L (bif !r.Must && !b r then max a r.Points else a)
theorem yQ : ∀ (L : List aD) (a : Int), qT b L a = a ∨ ∃ r ∈ L, r.Must = false ∧ b r = true ∧ qT b L a = r.Points
  | [], a => .inl rfl
  | r :: L, a => by
    rw [qT]
    cases h : (!r.Must && b r) && (decide (a < 0) || decide (r.Points < a)) with
    | false =>
      rcases yQ L a with h1 | ⟨q, h1, h2⟩
      · exact .inl h1
      · exact .inr ⟨q, List.mem_cons_of_mem _ h1, h2⟩
    | true =>
      simp only [Bool.and_eq_true, Bool.not_eq_true'] at h
      rcases yQ L r.Points with h1 | ⟨q, h1, h2⟩
      · exact .inr ⟨r, List.mem_cons_self, h.1.1, h.1.2, h1⟩
      · exact .inr ⟨q, List.mem_cons_of_mem _ h1, h2⟩
theorem aAa : ∀ (L : List aD) (a : Int), uF b L a = a ∨ ∃ r ∈ L, r.Must = false ∧ b r = false ∧ uF b L a = r.Points
  | [], a => .inl rfl
  | r :: L, a => by
    rw [uF]
    cases h : !r.Must && !b r with
    | false =>
      rcases aAa L a with h1 | ⟨q, h1, h2⟩
      · exact .inl h1
      · exact .inr ⟨q, List.mem_cons_of_mem _ h1, h2⟩
    | true =>
      simp only [Bool.and_eq_true, Bool.not_eq_true'] at h
      rw [cond_true]
      rcases aAa L (max a r.Points) with h1 | ⟨q, h1, h2⟩
      · rcases Int.le_total a r.Points with h3 | h3
        · rw [Int.max_eq_right h3] at h1 ⊢; exact .inr ⟨r, List.mem_cons_self, h.1, h.2, h1⟩
        · rw [Int.max_eq_left h3] at h1 ⊢; exact .inl h1
      · exact .inr ⟨q, List.mem_cons_of_mem _ h1, h2⟩
/-- The walk along what counts. -/
def pD (s : Int × Int × Int × Int × Int) (r : aD) : Int × Int × Int × Int × Int :=
  (bif b r then s.1 + r.Points else s.1, bif r.Must then s.2.1 + 1 else s.2.1, bif (!r.Must && b r) && (decide (s.2.2.1 < 0) || decide (r.Points < s.2.2.1)) then r.Points else s.2.2.1, bif !r.Must && !b r then max s.2.2.2.1 r.Points else s.2.2.2.1, bif b r then s.2.2.2.2 + 1 else s.2.2.2.2)
theorem yY : ∀ (L : List aD) (s : Int × Int × Int × Int × Int), L.foldl (pD b) s = (s.1 + iS (L.filter b), s.2.1 + dP L, qT b L s.2.2.1, uF b L s.2.2.2.1, s.2.2.2.2 + (L.filter b).length)
  | [], s => by simp [iS, dP, qT, uF]
  | r :: L, s => by
    rw [List.foldl_cons, yY L]
    simp only [pD, qT, uF, Prod.mk.injEq, true_and, and_true]
    refine ⟨?_, ?_, ?_⟩
    · cases h : b r <;> simp [h, iS]; omega
    · unfold dP; cases h : r.Must <;> simp [h]; omega
    · cases h : b r <;> simp [h]; omega
theorem aIl (again : Int → Int → Int → Int → Int → Int → Option Bool) (n : Int) (ids : List Int) (all : List aD) (l : aR) {i : Nat} (hi : i < all.length) (hi2 : i < 1000000) (s : Int × Int × Int × Int × Int) (hm : all[i].Must = true → b all[i] = true) (h1 : w64 (s.1 + all[i].Points) = s.1 + all[i].Points) (h2 : w64 (s.2.1 + 1) = s.2.1 + 1) (h3 : w64 (s.2.2.2.2 + 1) = s.2.2.2.2 + 1) :
    iA again n ids all s.1 s.2.1 s.2.2.1 s.2.2.2.1 s.2.2.2.2 (i : Nat) (b all[i]) l = again (pD b s all[i]).1 (pD b s all[i]).2.1 (pD b s all[i]).2.2.1 (pD b s all[i]).2.2.2.1 (pD b s all[i]).2.2.2.2 ((i + 1 : Nat) : Int) := by
  unfold iA pD bX
  simp only [dL hi, Option.bind_some, h1, h2, h3, cN (show i < 9223372036854775807 by omega), fP]
  cases hb : b all[i] <;> cases hmu : all[i].Must
  · simp
  · rw [hm hmu] at hb; cases hb
  · cases decide (s.2.2.1 < 0) <;> cases decide (all[i].Points < s.2.2.1) <;> simp
  · simp
end sum
theorem aDq (p : Int → Bool) : ∀ (L : List Int) (b : Bool), L.foldl (fun b y => b || p y) b = (b || L.any p)
  | [], b => by simp
  | y :: L, b => by rw [List.foldl_cons, aDq p L]; simp [Bool.or_assoc]
theorem aFj (again : Int → Int → Int → Int → Int → Int → Option Bool) (n : Int) (ids : List Int) (all : List aD) (l : aR) {i : Nat} (hi : i < all.length) (s : Int × Int × Int × Int × Int) (hb : ids.length ≤ 1000000) :
    fO again n ids all s.1 s.2.1 s.2.2.1 s.2.2.2.1 s.2.2.2.2 (i : Nat) l BIG false 0 = iA again n ids all s.1 s.2.1 s.2.2.1 s.2.2.2.1 s.2.2.2.2 (i : Nat) (ids.any fun y => decide (y = all[i].Id)) l := by
  have main := jN (fun k j isv => fO again n ids all s.1 s.2.1 s.2.2.1 s.2.2.2.1 s.2.2.2.2 (i : Nat) l k isv j) ids (fun isv y => isv || decide (y = all[i].Id)) (fun isv => iA again n ids all s.1 s.2.1 s.2.2.1 s.2.2.2.1 s.2.2.2.2 (i : Nat) isv l) false ?_ ?_ BIG (dG (by omega))
  · refine Eq.trans main ?_
    rw [aDq, Bool.false_or]
  · intro k j hj isv _
    have hlt : decide ((j : Int) < (ids.length : Int)) = true := decide_eq_true (by omega)
    simp only [fO, hlt, cond_true, dL hj, dL hi, Option.bind_some, fP, cN (show j < 9223372036854775807 by omega)]
  · intro k isv
    have hlt : decide ((ids.length : Int) < (ids.length : Int)) = false := decide_eq_false (by omega)
    simp only [fO, hlt, cond_false]

theorem uC (l : aR) (x : nP) (ok0 : yC l) (ok1 : uG x) : mI l x = some true := by
  unfold mI
  rcases aEp l x.Player x.Week ⟨ok0.2.2.1.1, ok0.2.2.2.1.1, ok0.2.2.2.2.1⟩ with h | ⟨h, z, hk⟩
  · rw [h, Option.bind_some]
    simp only [Bool.not_false, cond_true, Option.bind_some, yG]
  · rw [h, Option.bind_some]
    have hw := hk.w0
    have n0 : (!decide ((0 : Int) = 0)) = false := rfl
    rw [Bool.not_true, cond_false, aCy hk.gl hk.arg, Option.bind_some, aEj hk.gl hk.arg, Option.bind_some, n0, cond_false, Option.bind_some, cond_false, aHz hk.gl hw.1 (by omega), Option.bind_some]
    obtain ⟨all, hall⟩ : ∃ all, all = eA l z x.Player x.Week := ⟨_, rfl⟩
    obtain ⟨T, hT⟩ : ∃ T, T = iT l.Counts all := ⟨_, rfl⟩
    have hlen : z.length ≤ 1000 := Nat.le_trans hk.gl.len (by omega)
    have hal : all.length ≤ 1000 := by rw [hall]; exact Nat.le_trans kT hlen
    have hst : all.Pairwise fun x y => x.Id < y.Id := by rw [hall]; exact rR hk.gl.st
    have hok : ∀ r ∈ all, okT r := by rw [hall]; exact nI hk.gl.reps
    have hC := (nH hk.gl.led).2.1
    have hpts : uO l z x.Player x.Week = iS T := by rw [hT, hall]; rfl
    have hids : aBz l z x.Player x.Week = T.map fun r => r.Id := by rw [hT, hall]; rfl
    have hTf : all.filter (fun r => decide (r ∈ T)) = T := by
      conv => rhs; rw [hT]
      unfold iT
      refine List.filter_congr fun r hr => ?_
      rw [Bool.eq_iff_iff, decide_eq_true_eq, hT]
      unfold iT
      rw [List.mem_filter]
      exact ⟨fun h => h.2, fun h => ⟨hr, h⟩⟩
    have hTm : ∀ r ∈ all, r.Must = true → r ∈ T := fun r hr hm => by
      rw [hT]; unfold iT
      rw [List.mem_filter, hm]; exact ⟨hr, rfl⟩
    have hTl := aFb (C := l.Counts) hst hok hal (by omega)
    rw [← hT] at hTl
    have hml : dP all ≤ all.length := List.length_filter_le _ _
    rw [hpts, hids, ← hall]
    have hidl : (T.map fun r => r.Id).length ≤ 1000 := by rw [List.length_map, hT]; exact Nat.le_trans (List.length_filter_le _ _) hal
    have main := jN (S := Int × Int × Int × Int × Int) (fun k i s => eR (iS T) (T.map fun r => r.Id) all l k s.1 s.2.1 s.2.2.1 s.2.2.2.1 s.2.2.2.2 i) all (pD fun r => decide (r ∈ T)) (fun s => lC (iS T) (T.map fun r => r.Id) all s.1 s.2.1 s.2.2.1 s.2.2.2.1 s.2.2.2.2 l) (0, 0, -1, -1, 0) ?_ ?_ BIG (dG (by omega))
    · refine Eq.trans main ?_
      rw [yY, hTf]
      unfold lC
      have e1 : decide (iS T = 0 + iS T) = true := decide_eq_true (by omega)
      have e2 : decide (0 + (T.length : Int) = ((T.map fun r => r.Id).length : Int)) = true := decide_eq_true (by rw [List.length_map]; omega)
      have e3 : decide (0 + (T.length : Int) = max (0 + (dP all : Int)) (min (all.length : Int) l.Counts)) = true := decide_eq_true (by omega)
      simp only [e1, e2, e3, Bool.not_true, cond_false, Option.bind_some, fP, yG]
      have e4 : (decide (qT (fun r => decide (r ∈ T)) all (-1) < 0) || decide (uF (fun r => decide (r ∈ T)) all (-1) ≤ qT (fun r => decide (r ∈ T)) all (-1))) = true := by
        rw [Bool.or_eq_true, decide_eq_true_eq, decide_eq_true_eq]
        rcases yQ (fun r => decide (r ∈ T)) all (-1) with h1 | ⟨y, h1, h2, h3, h4⟩
        · left; omega
        · right
          have hy := (hok y h1).2
          rcases aAa (fun r => decide (r ∈ T)) all (-1) with h5 | ⟨q, h5, h6, h7, h8⟩
          · omega
          · rw [h4, h8]
            have h3' : y ∈ T := by simpa using h3
            have h7' : q ∉ T := by simpa using h7
            rw [hT] at h3' h7'
            exact (aEo hst h5 h7' h3' h2).2
      rw [e4]; rfl
    · intro k i hi s hs
      have hlt : decide ((i : Int) < (all.length : Int)) = true := decide_eq_true (by omega)
      simp only [eR, hlt, cond_true]
      have hil : i ≤ 1000 := by omega
      have hsb := yY (fun r => decide (r ∈ T)) (all.take i) (0, 0, -1, -1, 0)
      rw [← hs] at hsb
      have hsl : ((all.take i).filter fun r => decide (r ∈ T)).length ≤ 1000 := Nat.le_trans (List.length_filter_le _ _) (by simp; omega)
      have hml' : dP (all.take i) ≤ 1000 := Nat.le_trans (List.length_filter_le _ _) (by simp; omega)
      have hsp := nO (l := (all.take i).filter fun r => decide (r ∈ T)) fun r hr => (hok r (List.mem_of_mem_take (jI hr))).2
      have hsi := (hok _ (List.getElem_mem hi)).2
      have b1 : s.1 = 0 + iS ((all.take i).filter fun r => decide (r ∈ T)) := by rw [hsb]
      have b2 : s.2.1 = 0 + (dP (all.take i) : Int) := by rw [hsb]
      have b3 : s.2.2.2.2 = 0 + (((all.take i).filter fun r => decide (r ∈ T)).length : Int) := by rw [hsb]
      have hany : (T.map fun r => r.Id).any (fun y => decide (y = all[i].Id)) = decide (all[i] ∈ T) := by
        have := aHf (l := l) hk.gl.st (p := x.Player) (w := x.Week) (r := all[i]) (jI (p := zX l x.Player x.Week) (show all[i] ∈ eA l z x.Player x.Week from by rw [← hall]; exact List.getElem_mem hi))
        rw [← hall, ← hT, hids] at this
        exact this
      rw [aFj (eR (iS T) (T.map fun r => r.Id) all l k) (iS T) (T.map fun r => r.Id) all l hi s (by omega) , hany]
      exact aIl (fun r => decide (r ∈ T)) _ _ _ all l hi (by omega) s (fun h => decide_eq_true (hTm _ (List.getElem_mem hi) h)) (cV (by omega) (by omega)) (cV (by omega) (by omega)) (cV (by omega) (by omega))
    · intro k s
      have hlt : decide ((all.length : Int) < (all.length : Int)) = false := decide_eq_false (by omega)
      simp only [eR, hlt, cond_false]
end Go.Am
