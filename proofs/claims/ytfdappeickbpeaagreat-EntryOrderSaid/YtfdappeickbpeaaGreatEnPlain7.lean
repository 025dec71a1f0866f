/- Entry, plainly: open places are given, and the list after the notices of an hour. -/
import Derived.Test.YtfdappeickbpeaaGreatEnPlain6
namespace Go.Am

def wl (l : aK) (a b : List Int) : aK := aK.mk l.Field l.players l.wilds l.frozen a b l.more l.entered
theorem wW {l : aK} (h : WF l) (a b : List Int) : WF (wl l a b) := ⟨h.fd, h.keys, h.cnt, h.ent, h.mr, h.turn, h.inj⟩
/-- Who may get an open place. -/
def oA (l : aK) (inn : List Int) (n : Int) : Bool := ((pl l n).signed && !decide (n ∈ inn)) && (!(pl l n).guard || decide (((gd l inn : Nat) : Int) < l.Field.Guards))
theorem aHm (l : aK) (inn : List Int) (n : Int) (hb : inn.length ≤ 1000) : iJ n l inn = some (oA l inn n) := by
  unfold iJ oA
  rw [aGp, aAr l inn hb, sY inn (by omega) n]
  simp only [Option.bind_some, sC, rX]
theorem aCd (l : aK) (n : Int) : eB n l.players = some (!isE l.players n) := by
  unfold eB
  rw [rP]; rfl
def oF (l : aK) (first : List Int) : Nat → List Int → List Int
  | 0, late => late
  | k + 1, late => bif decide (((first ++ late).length : Int) < plc l) then (match (gS l).find? (oA l (first ++ late)) with
    | none => late
    | some n => oF l first k (late ++ [n])) else late
theorem zB {l : aK} (h : WF l) : 1 ≤ plc l ∧ plc l ≤ 92 := by
  have hf := h.fd
  unfold qD at hf
  simp only [Bool.and_eq_true, zK] at hf
  have hm := h.mr
  unfold plc
  omega
theorem aEz {α : Type} (p : α → Bool) (xs : List α) (hb : xs.length ≤ 1000) : (match xs.find? p with
    | none => gX p xs = -1
    | some n => 0 ≤ gX p xs ∧ idx xs (gX p xs) = some n) := by
  cases hf : xs.find? p with
  | none =>
    simp only
    unfold gX
    rw [if_neg]
    intro hl
    have h1 := List.findIdx_getElem (p := p) (w := hl)
    exact (List.find?_eq_none.1 hf) _ (List.getElem_mem hl) h1
  | some n =>
    simp only
    have hl : xs.findIdx p < xs.length := List.findIdx_lt_length_of_exists ⟨n, List.mem_of_find?_eq_some hf, List.find?_some hf⟩
    unfold gX
    rw [if_pos hl]
    refine ⟨by omega, ?_⟩
    rw [eP hl]
    rw [List.find?_eq_getElem?_findIdx, List.getElem?_eq_getElem hl] at hf
    exact hf
theorem aJb {l : aK} (h : WF l) (hfz : l.frozen = true) (first : List Int) : ∀ (d : Nat) (late : List Int) (k K : Nat), (plc l - ((first ++ late).length : Int)).toNat ≤ d → d < K → d ≤ k → (first ++ late).length ≤ 500 →
    fY l.players l.wilds first K late l.Field l.frozen l.more l.entered (first ++ late) = some (wl l first (oF l first k late)) := by
  intro d
  induction d with
  | zero =>
    intro late k K hd hK hk hb
    obtain ⟨K, rfl⟩ : ∃ q, K = q + 1 := ⟨K - 1, by omega⟩
    have hlt : decide (((first ++ late).length : Int) < plc l) = false := decide_eq_false (by omega)
    have hp : dR (aK.mk l.Field l.players l.wilds l.frozen first late l.more l.entered) = some (plc l) := tH (wW h first late)
    have hg : oF l first k late = late := by
      cases k with
      | zero => rfl
      | succ k => simp only [oF, hlt, cond_false]
    simp only [fY, hp, Option.bind_some, hlt, cond_false, lD, hg]
    rfl
  | succ d ih =>
    intro late k K hd hK hk hb
    obtain ⟨K, rfl⟩ : ∃ q, K = q + 1 := ⟨K - 1, by omega⟩
    obtain ⟨k, rfl⟩ : ∃ q, k = q + 1 := ⟨k - 1, by omega⟩
    have hp : dR (aK.mk l.Field l.players l.wilds l.frozen first late l.more l.entered) = some (plc l) := tH (wW h first late)
    have hen : dX (aK.mk l.Field l.players l.wilds l.frozen first late l.more l.entered) = some (gS l) := rO (wW h first late)
    have hix : fK (gS l) (fun y => iJ y (aK.mk l.Field l.players l.wilds l.frozen first late l.more l.entered) (first ++ late)) = some (gX (oA l (first ++ late)) (gS l)) :=
      aCi (gS l) _ (oA l (first ++ late)) (fun n _ => aHm (wl l first late) (first ++ late) n (by omega)) (by have := oN h; omega)
    have hfi := aEz (oA l (first ++ late)) (gS l) (by have := oN h; omega)
    simp only [fY, hp, Option.bind_some, oF]
    cases hlt : decide (((first ++ late).length : Int) < plc l) with
    | false =>
      simp only [cond_false, lD]
      rfl
    | true =>
      simp only [cond_true, hen, Option.bind_some, hix]
      have hlt' : ((first ++ late).length : Int) < plc l := by simpa using hlt
      have hp92 := zB h
      cases hf : (gS l).find? (oA l (first ++ late)) with
      | none =>
        rw [hf] at hfi
        simp only at hfi
        rw [hfi]
        rfl
      | some n =>
        rw [hf] at hfi
        simp only at hfi
        rw [decide_eq_false (by omega), cond_false, hfi.2]
        simp only [Option.bind_some]
        have hbl : late.length ≤ 500 := by simp at hb; omega
        rw [nD (by simp; omega)]
        simp only [Option.bind_some]
        have hm : dE (aK.mk l.Field l.players l.wilds l.frozen first (late ++ [n]) l.more l.entered) = some (first ++ (late ++ [n])) := by
          have := zV (wW h first (late ++ [n])) (show first.length ≤ 1000 by simp at hb; omega) (show (late ++ [n]).length ≤ 1000 by simp; omega)
          rw [show (aK.mk l.Field l.players l.wilds l.frozen first (late ++ [n]) l.more l.entered) = wl l first (late ++ [n]) from rfl, this]
          unfold nB
          rw [show (wl l first (late ++ [n])).frozen = l.frozen from rfl, hfz]
          rfl
        rw [hm]
        simp only [Option.bind_some]
        refine ih (late ++ [n]) k K ?_ (by omega) (by omega) ?_
        · simp only [List.length_append, List.length_cons, List.length_nil] at hd hlt' ⊢
          omega
        · simp only [List.length_append, List.length_cons, List.length_nil] at hb hlt' ⊢
          omega
def uN (l : aK) : aK := wl l (l.first.filter fun n => isE l.players n) (oF l (l.first.filter fun n => isE l.players n) 100 (l.late.filter fun n => isE l.players n))
theorem aJc {l : aK} (h : WF l) (hfz : l.frozen = true) (hb : (l.first ++ l.late).length ≤ 200) : iB l = some (uN l) := by
  have hb' : l.first.length + l.late.length ≤ 200 := by simpa using hb
  have d1 : bY l.first (fun y => eB y l.players) = some (l.first.filter fun n => isE l.players n) := by
    rw [yC l.first _ (fun n => !isE l.players n) (fun n _ => aCd l n) (by omega)]
    simp
  have d2 : bY l.late (fun y => eB y l.players) = some (l.late.filter fun n => isE l.players n) := by
    rw [yC l.late _ (fun n => !isE l.players n) (fun n _ => aCd l n) (by omega)]
    simp
  have f1 : (l.first.filter fun n => isE l.players n).length ≤ l.first.length := List.length_filter_le _ _
  have f2 : (l.late.filter fun n => isE l.players n).length ≤ l.late.length := List.length_filter_le _ _
  have hm := zV (wW h (l.first.filter fun n => isE l.players n) (l.late.filter fun n => isE l.players n)) (show (l.first.filter fun n => isE l.players n).length ≤ 1000 by omega) (show (l.late.filter fun n => isE l.players n).length ≤ 1000 by omega)
  unfold iB uN
  rw [d1, Option.bind_some, d2, Option.bind_some]
  rw [show (aK.mk l.Field l.players l.wilds l.frozen (l.first.filter fun n => isE l.players n) (l.late.filter fun n => isE l.players n) l.more l.entered) = wl l (l.first.filter fun n => isE l.players n) (l.late.filter fun n => isE l.players n) from rfl, hm, Option.bind_some]
  unfold nB
  rw [show (wl l (l.first.filter fun n => isE l.players n) (l.late.filter fun n => isE l.players n)).frozen = l.frozen from rfl]
  rw [show (bif l.frozen then (wl l (l.first.filter fun n => isE l.players n) (l.late.filter fun n => isE l.players n)).first ++ (wl l (l.first.filter fun n => isE l.players n) (l.late.filter fun n => isE l.players n)).late else mN (wl l (l.first.filter fun n => isE l.players n) (l.late.filter fun n => isE l.players n))) = (l.first.filter fun n => isE l.players n) ++ (l.late.filter fun n => isE l.players n) by rw [hfz]; rfl]
  have hp := zB h
  exact aJb h hfz _ 100 _ 100 BIG (by omega) (gG (by omega)) (Nat.le_refl _) (by simp only [List.length_append]; omega)
theorem aAj {l : aK} (h : WF l) (first : List Int) : ∀ (k : Nat) (late : List Int), (first ++ oF l first k late).length ≤ max (first ++ late).length 92
  | 0, late => by simp only [oF]; omega
  | k + 1, late => by
    have hp := zB h
    simp only [oF]
    cases hlt : decide (((first ++ late).length : Int) < plc l) with
    | false => simp only [cond_false]; omega
    | true =>
      simp only [cond_true]
      have hlt' : ((first ++ late).length : Int) < plc l := by simpa using hlt
      cases (gS l).find? (oA l (first ++ late)) with
      | none => simp only; omega
      | some n =>
        simp only
        have := aAj h first k (late ++ [n])
        simp only [List.length_append, List.length_cons, List.length_nil] at this hlt' ⊢
        omega

/-! ### After the notices of an hour -/
/-- One more notice. -/
def wR (l : aK) (x : aJ) : aK :=
  let l2 := fP (bif decide (l.Field.Freeze < x.Hour) then kH l else l) x
  bif l2.frozen then uN l2 else l2
structure jW (f : aU) (l : aK) (i : Nat) : Prop where
  wf : WF l
  cn : Cn l i
  fd : l.Field = f
  len : (l.first ++ l.late).length ≤ 92
  fz : l.frozen = false → l.first = [] ∧ l.late = []
theorem qM {f : aU} {l : aK} {i : Nat} (h : jW f l i) : jW f (kH l) i := by
  unfold kH
  cases hz : l.frozen with
  | true => exact h
  | false =>
    obtain ⟨_, hlate⟩ := h.fz hz
    simp only [cond_false]
    refine ⟨⟨h.wf.fd, h.wf.keys, h.wf.cnt, h.wf.ent, h.wf.mr, h.wf.turn, h.wf.inj⟩, ⟨h.cn.pls, h.cn.ent, h.cn.mr, h.cn.wl⟩, h.fd, ?_, fun h => by cases h⟩
    show (mN l ++ l.late).length ≤ 92
    have h1 := xU l (gS l) []
    have h2 := oN h.wf
    rw [hlate]
    simp only [List.append_nil]
    unfold mN
    simp only [List.length_nil] at h1
    omega
theorem wI {f : aU} {l : aK} {x : aJ} {i : Nat} (h : jW f l i) (hi : i < 60) (hx : kV x = true) : jW f (fP l x) (i + 1) := by
  obtain ⟨h1, h2⟩ := aJn h.wf h.cn hi hx
  obtain ⟨g1, g2, g3, g4⟩ := zI l x
  exact ⟨h1, h2, by rw [g1]; exact h.fd, by rw [g3, g4]; exact h.len, fun hz => by rw [g2] at hz; rw [g3, g4]; exact h.fz hz⟩
theorem aAk {f : aU} {l : aK} {i : Nat} (h : jW f l i) (hz : l.frozen = true) : jW f (uN l) i := by
  have hl : l.first.length + l.late.length ≤ 92 := by have := h.len; simpa using this
  have f1 : (l.first.filter fun n => isE l.players n).length ≤ l.first.length := List.length_filter_le _ _
  have f2 : (l.late.filter fun n => isE l.players n).length ≤ l.late.length := List.length_filter_le _ _
  refine ⟨wW h.wf _ _, ⟨h.cn.pls, h.cn.ent, h.cn.mr, h.cn.wl⟩, h.fd, ?_, fun hf => ?_⟩
  · have := aAj h.wf (l.first.filter fun n => isE l.players n) 100 (l.late.filter fun n => isE l.players n)
    simp only [List.length_append] at this
    show ((l.first.filter fun n => isE l.players n) ++ oF l (l.first.filter fun n => isE l.players n) 100 (l.late.filter fun n => isE l.players n)).length ≤ 92
    simp only [List.length_append]
    omega
  · have : l.frozen = false := hf
    rw [hz] at this; cases this
theorem aBa {f : aU} {l : aK} {x : aJ} {i : Nat} (h : jW f l i) (hi : i < 60) (hx : kV x = true) : jW f (wR l x) (i + 1) := by
  unfold wR
  have h1 : jW f (bif decide (l.Field.Freeze < x.Hour) then kH l else l) i := by
    cases decide (l.Field.Freeze < x.Hour) with
    | true => exact qM h
    | false => exact h
  have h2 := wI h1 hi hx
  simp only
  cases hz : (fP (bif decide (l.Field.Freeze < x.Hour) then kH l else l) x).frozen with
  | true => exact aAk h2 hz
  | false => exact h2
def kA (f : aU) : aK := aK.mk f [] [] false [] [] 0 0
theorem tC {f : aU} (hf : qD f = true) : jW f (kA f) 0 :=
  ⟨⟨hf, .nil, by simp [kA], ⟨Int.le_refl _, by simp [kA]⟩, ⟨Int.le_refl _, by simp [kA]⟩, fun n h => by simp [pl, kA, aE] at h, fun n m h => by simp [pl, kA, aE] at h⟩, ⟨by simp [kA], by simp [kA], by simp [kA], by simp [kA]⟩, rfl, by simp [kA], fun _ => ⟨rfl, rfl⟩⟩
/-- The notices of an hour and before. -/
def oQ (hour : Int) (l : aK) : List aJ → aK
  | [] => l
  | x :: t => bif decide (hour < x.Hour) then l else oQ hour (wR l x) t
def xK (hour : Int) (l : aK) : aK := bif decide (l.Field.Freeze < hour) then kH l else l
theorem xZ {f : aU} (hour : Int) : ∀ (t : List aJ) (l : aK) (i : Nat), jW f l i → i + t.length ≤ 60 → (∀ x ∈ t, kV x = true) → ∃ j, j ≤ 60 ∧ jW f (oQ hour l t) j
  | [], l, i, h, hi, _ => ⟨i, by simpa using hi, h⟩
  | x :: t, l, i, h, hi, hx => by
    simp only [oQ]
    cases decide (hour < x.Hour) with
    | true => exact ⟨i, by simp at hi; omega, h⟩
    | false =>
      simp only [List.length_cons] at hi
      exact xZ hour t _ (i + 1) (aBa h (by omega) (hx x (by simp))) (by omega) fun y hy => hx y (by simp [hy])
def gH (f : aU) (l : List aJ) (hour : Int) : aK := xK hour (oQ hour (kA f) (jV l))
theorem aHf {f : aU} (T : List aJ) (hT : ∀ x ∈ T, kV x = true) (hl : T.length ≤ 60) (hour : Int) : ∀ (d i k : Nat) (l : aK), T.length - i = d → d < k → i ≤ T.length → jW f l i →
    eH hour (T.length : Int) f T k (i : Int) l.players l.wilds l.first l.late l.Field l.frozen l.more l.entered = some (some (xK hour (oQ hour l (T.drop i)))) := by
  have hend : ∀ {l : aK} {i : Nat}, jW f l i → kG hour f l.players l.wilds l.first l.late l.Field l.frozen l.more l.entered = some (some (xK hour l)) := by
    intro l i h
    unfold kG xK
    rw [h.fd]
    cases decide (f.Freeze < hour) with
    | true =>
      simp only [cond_true]
      have := aAq h.wf
      rw [show (aK.mk f l.players l.wilds l.frozen l.first l.late l.more l.entered) = l by rw [← h.fd], this]
      rfl
    | false =>
      simp only [cond_false]
      rw [show (aK.mk f l.players l.wilds l.frozen l.first l.late l.more l.entered) = l by rw [← h.fd]]
  intro d
  induction d with
  | zero =>
    intro i k l hd hk hi h
    obtain ⟨k, rfl⟩ : ∃ q, k = q + 1 := ⟨k - 1, by omega⟩
    have : i = T.length := by omega
    subst this
    simp only [eH, Int.lt_irrefl, decide_false, cond_false, List.drop_length, oQ]
    exact hend h
  | succ d ih =>
    intro i k l hd hk hi h
    obtain ⟨k, rfl⟩ : ∃ q, k = q + 1 := ⟨k - 1, by omega⟩
    have hil : i < T.length := by omega
    have hlt : decide ((i : Int) < (T.length : Int)) = true := decide_eq_true (by omega)
    have hw : w64 ((i : Int) + 1) = ((i + 1 : Nat) : Int) := dV (by omega)
    have hx : kV T[i] = true := hT _ (List.getElem_mem hil)
    rw [List.drop_eq_getElem_cons hil, oQ]
    simp only [eH, hlt, cond_true, eP hil, Option.bind_some, hw]
    cases decide (hour < T[i].Hour) with
    | true => simp only [cond_true]; exact hend h
    | false =>
      simp only [cond_false]
      have hmk : (aK.mk l.Field l.players l.wilds l.frozen l.first l.late l.more l.entered) = l := rfl
      have goon : ∀ (l1 : aK), jW f l1 i → ((iC l1 T[i]).bind fun r25 =>
          bif r25.frozen then ((iB r25).bind fun r31 =>
          (eH hour (T.length : Int) f T k) ((i + 1 : Nat) : Int) r31.players r31.wilds r31.first r31.late r31.Field r31.frozen r31.more r31.entered)
          else ((eH hour (T.length : Int) f T k) ((i + 1 : Nat) : Int) r25.players r25.wilds r25.first r25.late r25.Field r25.frozen r25.more r25.entered)) =
          some (some (xK hour (oQ hour (bif (fP l1 T[i]).frozen then uN (fP l1 T[i]) else fP l1 T[i]) (T.drop (i + 1))))) := by
        intro l1 h1
        have hwl := h1.cn.wl
        rw [aJm l1 T[i] h1.wf.ent h1.wf.mr (by omega)]
        simp only [Option.bind_some]
        have h2 := wI h1 (by omega) hx
        cases hz : (fP l1 T[i]).frozen with
        | true =>
          simp only [cond_true]
          rw [aJc h2.wf hz (by have := h2.len; omega)]
          simp only [Option.bind_some]
          exact ih (i + 1) k _ (by omega) (by omega) (by omega) (aAk h2 hz)
        | false =>
          simp only [cond_false]
          have := ih (i + 1) k _ (by omega) (by omega) (by omega) h2
          rw [hz] at this
          exact this
      unfold wR
      rw [h.fd]
      cases decide (f.Freeze < T[i].Hour) with
      | true =>
        simp only [cond_true]
        have hfz := aAq h.wf
        rw [show (aK.mk f l.players l.wilds l.frozen l.first l.late l.more l.entered) = l by rw [← h.fd], hfz]
        simp only [Option.bind_some]
        exact goon (kH l) (qM h)
      | false =>
        simp only [cond_false]
        rw [show (aK.mk f l.players l.wilds l.frozen l.first l.late l.more l.entered) = l by rw [← h.fd]]
        exact goon l h
theorem zJ (l : List aJ) : (jV l).length ≤ l.length := by
  unfold jV
  have h1 := (gU (fun a b => dH a b) l).length_eq
  rw [← h1]
  cases dA (fun a b => dH a b) l with
  | nil => simp [nE]
  | cons p t => simp only [nE, List.length_cons]; have := (aHt p t).length_le; omega
theorem aBs {f : aU} {l : List aJ} (h : VL f l) (hour : Int) : mM f l hour = some (some (gH f l hour)) := by
  have hb : ∀ x ∈ l, bN x := fun x hx => aBk (h.nt x hx)
  obtain ⟨e1, e2⟩ := aJw h.len hb h.id
  have hT := zJ l
  have hlen := h.len
  unfold mM iH
  rw [Option.bind_some, e1, Option.bind_some, e2, Option.bind_some]
  exact aHf (jV l) (fun x hx => h.nt x ((lF x).1 hx)) (by omega) hour _ 0 BIG (kA f) rfl (gG (by omega)) (Nat.zero_le _) (tC h.fd)
theorem rK {f : aU} {l : List aJ} (h : VL f l) (hour : Int) : ∃ j, j ≤ 60 ∧ jW f (gH f l hour) j := by
  have hT := zJ l
  have hlen := h.len
  obtain ⟨j, hj, hg⟩ := xZ hour (jV l) (kA f) 0 (tC h.fd) (by omega) fun x hx => h.nt x ((lF x).1 hx)
  refine ⟨j, hj, ?_⟩
  unfold gH xK
  cases decide ((oQ hour (kA f) (jV l)).Field.Freeze < hour) with
  | true => exact qM hg
  | false => exact hg
end Go.Am
