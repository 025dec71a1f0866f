/- The list of a week. -/
import Derived.Test.YtaocljlhapoieaaRkPlain11
namespace Go.Am

theorem wQ {α : Type} {R : α → α → Prop} (hirr : ∀ x, ¬ R x x) (hasym : ∀ x y, R x y → ¬ R y x) : ∀ {xs ys : List α}, xs.Pairwise R → ys.Pairwise R → (∀ x, x ∈ xs ↔ x ∈ ys) → xs = ys
  | [], [], _, _, _ => rfl
  | [], y :: ys, _, _, h => by have := (h y).2 (by simp); simp at this
  | x :: xs, [], _, _, h => by have := (h x).1 (by simp); simp at this
  | x :: xs, y :: ys, h1, h2, h => by
    have a1 := List.pairwise_cons.1 h1
    have a2 := List.pairwise_cons.1 h2
    have hxy : x = y := by
      rcases List.mem_cons.1 ((h x).1 (by simp)) with e | e
      · exact e
      · rcases List.mem_cons.1 ((h y).2 (by simp)) with e2 | e2
        · exact e2.symm
        · exact absurd (a2.1 x e) (hasym _ _ (a1.1 y e2))
    subst hxy
    have := wQ hirr hasym a1.2 a2.2 fun z => by
      have hz := h z
      simp only [List.mem_cons] at hz
      constructor
      · intro hm
        rcases hz.1 (.inr hm) with e | e
        · have := a1.1 z hm; rw [e] at this; exact absurd this (hirr _)
        · exact e
      · intro hm
        rcases hz.2 (.inr hm) with e | e
        · have := a2.1 z hm; rw [e] at this; exact absurd this (hirr _)
        · exact e
    rw [this]

/-- The order of the lines. -/
def leL (x y : bD) : Prop := y.points < x.points ∨ (x.points = y.points ∧ (y.musts < x.musts ∨ (x.musts = y.musts ∧ (x.many < y.many ∨ (x.many = y.many ∧ x.player ≤ y.player)))))
def ltL (x y : bD) : Prop := y.points < x.points ∨ (x.points = y.points ∧ (y.musts < x.musts ∨ (x.musts = y.musts ∧ (x.many < y.many ∨ (x.many = y.many ∧ x.player < y.player)))))
def aCk (x : bD) : Prop := (0 ≤ x.points ∧ x.points ≤ 1000000000) ∧ (0 ≤ x.musts ∧ x.musts ≤ 1000000000) ∧ (0 ≤ x.many ∧ x.many ≤ 1000000000) ∧ (0 ≤ x.player ∧ x.player ≤ 1000000000)
theorem aJa : mH (fun x y => kB x y) aCk leL where
  run x y hx hy := by
    unfold aCk at hx hy
    unfold kB leL
    have e1 : w64 (y.points - x.points) = y.points - x.points := cW (by omega) (by omega)
    have e2 : w64 (y.musts - x.musts) = y.musts - x.musts := cW (by omega) (by omega)
    have e3 : w64 (x.many - y.many) = x.many - y.many := cW (by omega) (by omega)
    have e4 : w64 (x.player - y.player) = x.player - y.player := cW (by omega) (by omega)
    rw [e1, e2, e3, e4, aDu _ (by simp), Option.bind_some]
    refine ⟨_, rfl, ?_⟩
    simp only [orF]
    split
    · split
      · split
        · split <;> omega
        · omega
      · omega
    · omega
  tot x y _ _ := by unfold leL; omega
  tr x y z _ _ _ h1 h2 := by unfold leL at *; omega

/-- A player's line. -/
def lE (l : aP) (z : List aC) (w p : Int) : bD := ⟨p, lR l z p w, jT (dZ l z p w), ((dZ l z p w).length : Nat)⟩
def iN (l : aP) (z : List aC) (w p : Int) : Bool := !kF l.Bans p w && !decide ((dZ l z p w).length = 0)
/-- One player stands before another. -/
def bef (l : aP) (z : List aC) (w : Int) (a b : Int) : Prop := ltL (lE l z w a) (lE l z w b)
theorem vF (l : aP) (z : List aC) (w a : Int) : ¬ bef l z w a a := by unfold bef ltL; omega
theorem aBx (l : aP) (z : List aC) (w a b : Int) (h : bef l z w a b) : ¬ bef l z w b a := by unfold bef ltL at *; omega
theorem aIe {l : aP} {z : List aC} {w a b c : Int} (h : bef l z w a b) (h2 : bef l z w b c) : bef l z w a c := by unfold bef ltL at *; omega
theorem aGy (l : aP) (z : List aC) (w a b : Int) (h : a ≠ b) : bef l z w a b ∨ bef l z w b a := by unfold bef ltL lE; simp only; omega
/-- A list of players that is as the document says. -/
structure IsList (l : aP) (z : List aC) (w : Int) (out : List Int) : Prop where
  st : out.Pairwise (bef l z w)
  mem : ∀ p, p ∈ out ↔ (0 ≤ p ∧ p < l.Players) ∧ iN l z w p = true
theorem IsList.uniq {l : aP} {z : List aC} {w : Int} {a b : List Int} (h : IsList l z w a) (k : IsList l z w b) : a = b :=
  wQ (vF l z w) (aBx l z w) h.st k.st fun x => (h.mem x).trans (k.mem x).symm

section list
variable {l : aP} {z : List aC} (hl : sF l = true) (hz : ∀ x ∈ z, rZ l.Players x = true) (hst : z.Pairwise fun x y => x.Id < y.Id) (hlen : z.length ≤ 1000) {w : Int} (hw : 0 ≤ w) (hw1 : w ≤ 1000)
include hl hz hlen hw hw1
omit hl hw hw1 in
theorem aHn (p : Int) (hp : 0 ≤ p ∧ p ≤ 100) : aCk (lE l z w p) := by
  have h1 : ∀ r ∈ dZ l z p w, 0 ≤ r.Points ∧ r.Points ≤ 2000 := fun r hr => (oV hz r hr).2
  have h2 := pO (l := jW l.Counts (dZ l z p w)) fun r hr => h1 r (kU hr)
  have h3 := pO (l := (dZ l z p w).filter fun r => r.Must) fun r hr => h1 r (kU hr)
  have h4 : (jW l.Counts (dZ l z p w)).length ≤ 1000 := Nat.le_trans (List.length_filter_le _ _) (Nat.le_trans mN hlen)
  have h5 : ((dZ l z p w).filter fun r => r.Must).length ≤ 1000 := Nat.le_trans (List.length_filter_le _ _) (Nat.le_trans mN hlen)
  have h6 : (dZ l z p w).length ≤ 1000 := Nat.le_trans mN hlen
  unfold aCk lE lR jT
  simp only
  omega
include hst
omit hw in
theorem aJb (hP : l.Players ≤ 12) : ∃ out, gE (gK l z) w = some out ∧ IsList l z w out := by
  have hf := nY hl
  obtain ⟨P, hPe⟩ : ∃ P : Nat, l.Players = P := ⟨l.Players.toNat, by omega⟩
  -- the lines
  have hfold : ∀ (ps : List Nat) (s : List bD), ps.foldl (fun s p => bif iN l z w (p : Nat) then s ++ [lE l z w (p : Nat)] else s) s = s ++ (ps.filter fun p => iN l z w (p : Nat)).map fun p => lE l z w (p : Nat) := by
    intro ps
    induction ps with
    | nil => intro s; simp
    | cons p ps ih =>
      intro s
      rw [List.foldl_cons, ih]
      cases h : iN l z w (p : Nat) <;> simp [h]
  obtain ⟨lines, hlines⟩ : ∃ lines, lines = ((List.range P).filter fun p => iN l z w (p : Nat)).map fun p => lE l z w (p : Nat) := ⟨_, rfl⟩
  have hll : lines.length ≤ P := by rw [hlines, List.length_map]; exact Nat.le_trans (List.length_filter_le _ _) (by simp)
  have step1 : gE (gK l z) w = lM lines := by
    unfold gE
    have main := kD (fun k i s => fB (gK l z) w l.Players k i s) (List.range P) (fun s p => bif iN l z w (p : Nat) then s ++ [lE l z w (p : Nat)] else s) (fun s => lM s) [] ?_ ?_ BIG (dD (by simp; omega))
    · refine Eq.trans main ?_
      rw [hfold, hlines]; simp
    · intro k i hi s hs
      have hi' : i < P := by simpa using hi
      have hlt : decide ((i : Int) < l.Players) = true := decide_eq_true (by omega)
      have hsl : s.length ≤ i := by
        rw [hs, hfold]
        simp only [List.nil_append, List.length_map]
        exact Nat.le_trans (List.length_filter_le _ _) (by simp; omega)
      have haw : mS (gK l z).Ledger.Bans (i : Int) w = some (kF l.Bans (i : Int) w) := aGr _ _ _ (show l.Bans.length ≤ 1000000 by omega)
      have hcl : (dZ l z (i : Int) w).length ≤ 1000 := Nat.le_trans mN hlen
      have eg : (List.range P)[i] = i := by simp
      have hdz : decide (((dZ l z (i : Int) w).length : Int) = 0) = decide ((dZ l z (i : Int) w).length = 0) := by rw [decide_eq_decide]; omega
      simp only [fB, hlt, cond_true, aFl hl hz hlen hw1, haw, Option.bind_some, fO, eg, hdz]
      have hlb : iN l z w (i : Int) = !(kF l.Bans (i : Int) w || decide ((dZ l z (i : Int) w).length = 0)) := by unfold iN; cases kF l.Bans (i : Int) w <;> simp
      rw [hlb]
      cases hb : (kF l.Bans (i : Int) w || decide ((dZ l z (i : Int) w).length = 0)) with
      | true =>
        simp only [cond_true, Bool.not_true, cond_false, jZ, cP (show i < 9223372036854775807 by omega)]
      | false =>
        simp only [cond_false, Bool.not_false, cond_true]
        obtain ⟨t, h1, h2⟩ := aFm (gK l z) (dZ l z (i : Int) w) (tR hst) (oV hz) hcl (by have := hf.2.1; show 0 ≤ l.Counts ∧ l.Counts ≤ 1000; omega)
        have ht : ∀ r ∈ t, 0 ≤ r.Points ∧ r.Points ≤ 2000 := fun r hr => (oV hz r (kU (h2.mem_iff.1 hr))).2
        have htl : t.length ≤ 1000 := by rw [h2.length_eq]; exact Nat.le_trans (List.length_filter_le _ _) hcl
        rw [h1, Option.bind_some, aIq t ht (by omega), Option.bind_some, xY h2]
        obtain ⟨c, hc⟩ : ∃ c, c = dZ l z (i : Int) w := ⟨_, rfl⟩
        have hcp : ∀ r ∈ c, 0 ≤ r.Points ∧ r.Points ≤ 2000 := fun r hr => (oV hz r (hc ▸ hr)).2
        have hmf : ∀ (c : List aC) (x : bD), c.foldl (fun (x : bD) r => bif r.Must then bD.mk x.player x.points (x.musts + r.Points) x.many else x) x = bD.mk x.player x.points (x.musts + jT c) x.many := by
          intro c
          induction c with
          | nil => intro x; simp [jT, gJ]
          | cons r c ih =>
            intro x
            rw [List.foldl_cons, ih]
            unfold jT
            rw [List.filter_cons]
            cases r.Must <;> simp [gJ] <;> omega
        have inner := kD (fun k2 q x => gR (fB (gK l z) w l.Players k) (gK l z) w l.Players (i : Nat) c (c.length : Int) s k2 q x) c (fun (x : bD) r => bif r.Must then bD.mk x.player x.points (x.musts + r.Points) x.many else x)
          (fun x => nO (fB (gK l z) w l.Players k) (gK l z) w l.Players (i : Nat) s x) (bD.mk (i : Int) (gJ (jW (gK l z).Ledger.Counts (dZ l z (i : Int) w))) 0 ((dZ l z (i : Int) w).length : Nat)) ?_ ?_ BIG (dD (by rw [hc]; omega))
        · rw [← hc] at inner ⊢
          refine Eq.trans inner ?_
          rw [hmf]
          unfold nO jZ
          rw [jL (by simp; omega), Option.bind_some, cP (by omega)]
          unfold lE lR
          rw [← hc]
          simp [gK]
        · intro k2 q hq x hx
          have hlt2 : decide ((q : Int) < (c.length : Int)) = true := decide_eq_true (by omega)
          rw [hmf] at hx
          have h3 := pO (l := (c.take q).filter fun r => r.Must) fun r hr => hcp r (List.mem_of_mem_take (kU hr))
          have h4 := List.length_filter_le (fun r : aC => r.Must) (c.take q)
          have h5 := hcp _ (List.getElem_mem hq)
          have hcl' : c.length ≤ 1000 := hc ▸ hcl
          simp only [List.length_take] at h4
          have hxm : x.musts = 0 + jT (c.take q) := by rw [hx]
          simp only [gR, hlt2, cond_true, dK hq, Option.bind_some, cP (show q < 9223372036854775807 by omega)]
          rw [cW (by rw [hxm]; unfold jT; omega) (by rw [hxm]; unfold jT; omega)]
          cases c[q].Must <;> rfl
        · intro k2 x
          have hlt2 : decide ((c.length : Int) < (c.length : Int)) = false := decide_eq_false (by omega)
          simp only [gR, hlt2, cond_false]
    · intro k s
      have hlt : decide ((((List.range P).length : Nat) : Int) < l.Players) = false := decide_eq_false (by simp; omega)
      simp only [fB, hlt, cond_false]
  have hlok : ∀ y ∈ lines, aCk y ∧ y = lE l z w y.player ∧ (0 ≤ y.player ∧ y.player < l.Players) ∧ iN l z w y.player = true := by
    intro y hy
    rw [hlines] at hy
    obtain ⟨p, hp, rfl⟩ := List.mem_map.1 hy
    have h1 := List.mem_filter.1 hp
    have h2 := List.mem_range.1 h1.1
    exact ⟨aHn hz hlen p (by omega), rfl, by show 0 ≤ (p : Int) ∧ (p : Int) < l.Players; omega, h1.2⟩
  obtain ⟨s, hp, hs, hr⟩ := aBp aJa lines (fun y hy => (hlok y hy).1) (by omega)
  have hnd : (lines.map (·.player)).Nodup := by
    rw [hlines, List.map_map]
    have : ((fun y : bD => y.player) ∘ fun p : Nat => lE l z w (p : Nat)) = fun p : Nat => (p : Int) := rfl
    rw [this]
    refine List.Pairwise.map _ (fun a b h => ?_) (List.Pairwise.sublist List.filter_sublist (List.nodup_range (n := P)))
    omega
  have hnd2 : (s.map (·.player)).Nodup := (hp.map _).nodup_iff.2 hnd
  refine ⟨s.map (·.player), ?_, ?_, fun p => ?_⟩
  · rw [step1]
    unfold lM
    rw [hr, Option.bind_some]
    have hsl : s.length ≤ 12 := by rw [hp.length_eq]; omega
    have hmf : ∀ (t : List bD) (o : List Int), t.foldl (fun o x => o ++ [x.player]) o = o ++ t.map (·.player) := by
      intro t
      induction t with
      | nil => intro o; simp
      | cons x t ih => intro o; rw [List.foldl_cons, ih]; simp
    have main := kD (fun k i o => iS (s.length : Int) s k i o) s (fun o x => o ++ [x.player]) (fun o => some o) [] ?_ ?_ BIG (dD (by omega))
    · refine Eq.trans main ?_
      rw [hmf]; simp
    · intro k i hi o ho
      have hlt : decide ((i : Int) < (s.length : Int)) = true := decide_eq_true (by omega)
      have hol : o.length ≤ i := by rw [ho, hmf]; simp; omega
      simp only [iS, hlt, cond_true, dK hi, Option.bind_some, jL (show (o.length + [s[i].player].length) * 8 ≤ 140737488355328 by simp; omega), cP (show i < 9223372036854775807 by omega)]
    · intro k o
      have hlt : decide ((s.length : Int) < (s.length : Int)) = false := decide_eq_false (by omega)
      simp only [iS, hlt, cond_false, pW]
  · refine List.pairwise_iff_getElem.2 fun i j hi hj hij => ?_
    simp only [List.length_map] at hi hj
    simp only [List.getElem_map]
    have h1 := List.pairwise_iff_getElem.1 hs i j hi hj hij
    have h2 := hlok _ (hp.mem_iff.1 (List.getElem_mem hi))
    have h3 := hlok _ (hp.mem_iff.1 (List.getElem_mem hj))
    have h4 := List.pairwise_iff_getElem.1 hnd2 i j (by simpa using hi) (by simpa using hj) hij
    simp only [List.getElem_map] at h4
    unfold bef
    rw [← h2.2.1, ← h3.2.1]
    unfold leL at h1
    unfold ltL
    omega
  · rw [List.mem_map]
    constructor
    · rintro ⟨y, hy, rfl⟩
      exact (hlok y (hp.mem_iff.1 hy)).2.2
    · rintro ⟨h1, h2⟩
      obtain ⟨q, rfl⟩ : ∃ q : Nat, p = q := ⟨p.toNat, by omega⟩
      refine ⟨lE l z w (q : Nat), hp.mem_iff.2 ?_, rfl⟩
      rw [hlines]
      exact List.mem_map.2 ⟨q, List.mem_filter.2 ⟨List.mem_range.2 (by omega), h2⟩, rfl⟩
end list
end Go.Am
