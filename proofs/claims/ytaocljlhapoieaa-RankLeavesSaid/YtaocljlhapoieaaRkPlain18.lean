/- Plain laws, one behind the other. -/
import Derived.Test.YtaocljlhapoieaaRkWorks
section
namespace Go.Am

theorem aDo {α : Type} {R : α → α → Prop} [DecidableRel R] (hirr : ∀ x, ¬ R x x) (hasym : ∀ x y, R x y → ¬ R y x) {s : List α} (hs : s.Pairwise R) {i : Nat} (hi : i < s.length) : (s.filter fun q => decide (R q s[i])).length = i := by
  have es : s = s.take i ++ s[i] :: s.drop (i + 1) := by rw [← List.drop_eq_getElem_cons hi, List.take_append_drop]
  have h1 := List.pairwise_append.1 (es ▸ hs)
  have a1 : (s.take i).filter (fun q => decide (R q s[i])) = s.take i := List.filter_eq_self.2 fun q hq => decide_eq_true (h1.2.2 q hq _ List.mem_cons_self)
  have a2 : (s[i] :: s.drop (i + 1)).filter (fun q => decide (R q s[i])) = [] := List.filter_eq_nil_iff.2 fun q hq => by
    rw [decide_eq_true_eq]
    rcases List.mem_cons.1 hq with rfl | hq
    · exact hirr _
    · exact hasym _ _ ((List.pairwise_cons.1 h1.2.1).1 q hq)
  have a3 : s.filter (fun q => decide (R q s[i])) = s.take i := by
    conv => lhs; arg 2; rw [es]
    rw [List.filter_append, a1, a2, List.append_nil]
  rw [a3, List.length_take]; omega
theorem aFk {out : List Int} (hn : out.Nodup) {i : Nat} (hi : i < out.length) : vJ out out[i] = i + 1 := by
  have : out.findIdx (fun x => decide (out[i] = x)) = i := by
    rw [List.findIdx_eq hi]
    refine ⟨by simp, fun j hj => ?_⟩
    rw [decide_eq_false_iff_not]
    exact fun he => absurd he.symm (List.pairwise_iff_getElem.1 hn j i (by omega) hi hj)
  unfold vJ sD
  rw [this, if_pos hi]
theorem IsList.nodup {l : aM} {z : List aB} {w : Int} {out : List Int} (h : IsList l z w out) : out.Nodup := h.st.imp fun {a b} hb he => by subst he; exact vB _ _ _ _ hb
theorem aHl {a b : List Int} (ha : a.Nodup) (hb : b.Nodup) (h : ∀ x ∈ a, x ∈ b) : a.length ≤ b.length := by
  have hp : a.Perm (b.filter fun x => decide (x ∈ a)) := (List.perm_ext_iff_of_nodup ha (hb.sublist List.filter_sublist)).2 fun x => by
    rw [List.mem_filter, decide_eq_true_eq]
    exact ⟨fun hx => ⟨h x hx, hx⟩, fun hx => hx.2⟩
  rw [hp.length_eq]
  exact List.length_filter_le _ _
/-- A place is one more than the number of those before. -/
theorem IsList.place {l : aM} {z : List aB} {w : Int} {out : List Int} (h : IsList l z w out) {p : Int} (hp : p ∈ out) : vJ out p = (out.filter fun q => decide (bef l z w q p)).length + 1 := by
  obtain ⟨i, hi, rfl⟩ := List.getElem_of_mem hp
  rw [aFk h.nodup hi, aDo (vB l z w) (yN l z w) h.st hi]
/-- The Ids of what is taken, in their order. -/
def aCd (l : aM) (z : List aB) (p w : Int) : List Int := (nL l.Counts (dS l z p w)).map fun r => r.Id
theorem aFp {t u : List aB} (hp : t.Perm u) (hu : u.Pairwise fun x y => x.Id < y.Id) : pZ (t.map fun r => r.Id) = u.map fun r => r.Id := by
  have h1 : (u.map fun r => r.Id).Pairwise fun x y : Int => x < y := List.Pairwise.map _ (fun _ _ h => h) hu
  have h2 : (pZ (t.map fun r => r.Id)).Perm (u.map fun r => r.Id) := (List.mergeSort_perm _ _).trans (hp.map _)
  have h3 : (pZ (t.map fun r => r.Id)).Pairwise fun x y : Int => x ≤ y := by
    have := List.pairwise_mergeSort (le := fun x y : Int => decide (x ≤ y)) (by intro a b c; simp only [decide_eq_true_eq]; omega) (by intro a b; simp only [Bool.or_eq_true, decide_eq_true_eq]; omega) (t.map fun r => r.Id)
    exact this.imp fun h => by simpa using h
  have h4 : (pZ (t.map fun r => r.Id)).Nodup := h2.nodup_iff.2 (h1.imp fun h he => by omega)
  exact qA (key := fun x : Int => x) (h3.imp₂ (fun _ _ a b => by omega) h4) h1 fun x => h2.mem_iff
theorem aGk {C : Int} {l : aM} {z : List aB} (hst : z.Pairwise fun x y => x.Id < y.Id) {p w : Int} : (nL C (dS l z p w)).Pairwise fun x y => x.Id < y.Id := (tP hst).sublist List.filter_sublist
theorem aFf {l l' : aM} {z z' : List aB} (h : GL l z) (h' : GL l' z') (hm : ∀ x, x ∈ l.Reports ↔ x ∈ l'.Reports) : z = z' :=
  qA (key := fun x : aB => x.Id) h.st h'.st fun x => ((h.mem x).trans (hm x)).trans (h'.mem x).symm
end Go.Am

end
section
namespace Go.Am

section ban
variable {l : aM} {z : List aB} (ban : aW) (w : Int)
/-- A ledger with one more ban. -/
def gE (l : aM) (ban : aW) : aM := ⟨l.Players, l.Counts, l.Reports, l.Bans ++ [ban], l.Frozen⟩
theorem vR (p v : Int) : jC (gE l ban).Bans p v = (jC l.Bans p v || (decide (ban.Player = p) && (decide (ban.From ≤ v) && decide (v ≤ ban.To)))) := by
  unfold gE jC; simp
theorem wT {p : Int} (hp : p ≠ ban.Player) : dS (gE l ban) z p w = dS l z p w := by
  unfold dS
  refine List.filter_congr fun r _ => ?_
  unfold yQ
  rw [vR, decide_eq_false (Ne.symm hp), Bool.false_and, Bool.or_false]
  rfl
theorem aDr {p : Int} (hp : p ≠ ban.Player) : qY (gE l ban) z p w = qY l z p w := by unfold qY; rw [wT ban w hp]; rfl
theorem aBs {p : Int} (hp : p ≠ ban.Player) : mL (gE l ban) z w p = mL l z w p := by unfold mL; rw [wT ban w hp, aDr ban w hp]
theorem zF {p : Int} (hp : p ≠ ban.Player) : jH (gE l ban) z w p = jH l z w p := by
  unfold jH
  rw [wT ban w hp, vR, decide_eq_false (Ne.symm hp)]; simp
theorem aFw {a b : List Int} (ha : IsList l z w a) (hb : IsList (gE l ban) z w b) : (a.filter fun p => !decide (p = ban.Player)) = b.filter fun p => !decide (p = ban.Player) := by
  refine sY (vB l z w) (yN l z w) (ha.st.sublist List.filter_sublist) ?_ fun p => ?_
  · refine List.Pairwise.imp_of_mem ?_ (hb.st.sublist List.filter_sublist)
    intro x y hx hy hxy
    have h1 := (List.mem_filter.1 hx).2
    have h2 := (List.mem_filter.1 hy).2
    simp only [Bool.not_eq_true', decide_eq_false_iff_not] at h1 h2
    unfold bef at hxy ⊢
    rwa [aBs ban w h1, aBs ban w h2] at hxy
  · rw [List.mem_filter, List.mem_filter, ha.mem, hb.mem]
    constructor
    · rintro ⟨⟨h1, h2⟩, h3⟩
      have h4 : p ≠ ban.Player := by simpa using h3
      exact ⟨⟨h1, by rwa [zF ban w h4]⟩, h3⟩
    · rintro ⟨⟨h1, h2⟩, h3⟩
      have h4 : p ≠ ban.Player := by simpa using h3
      exact ⟨⟨h1, by rwa [zF ban w h4] at h2⟩, h3⟩
theorem aGw {b : List Int} (hb : IsList (gE l ban) z w b) (h1 : ban.From ≤ w) (h2 : w ≤ ban.To) : ban.Player ∉ b := fun hp => by
  have := ((hb.mem _).1 hp).2
  unfold jH at this
  rw [vR, decide_eq_true rfl, decide_eq_true h1, decide_eq_true h2] at this
  simp at this
theorem aEy (hst : z.Pairwise fun x y => x.Id < y.Id) {r : aB} (hr : r ∈ z) (hi : r.Id ∈ aCd (gE l ban) z ban.Player w) : ¬ (ban.From ≤ r.Week ∧ r.Week ≤ ban.To) := by
  unfold aCd at hi
  obtain ⟨q, hq, he⟩ := List.mem_map.1 hi
  have hq' := kS hq
  have : q = r := zY hst q (kS hq') r hr he
  subst this
  have h1 := (List.mem_filter.1 hq').2
  unfold yQ at h1
  rw [vR, decide_eq_true rfl] at h1
  simp only [Bool.true_and, Bool.and_eq_true, Bool.not_eq_true', Bool.or_eq_false_iff, decide_eq_true_eq, Bool.and_eq_false_iff, decide_eq_false_iff_not] at h1
  omega
end ban

section add
variable {l : aM} {z : List aB} {r : aB} (w : Int)
end add
end Go.Am

end
