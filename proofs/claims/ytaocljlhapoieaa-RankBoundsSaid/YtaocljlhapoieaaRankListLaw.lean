/- The plain law RankList. -/
import Derived.Test.YtaocljlhapoieaaRankDefendsLaw
import Derived.Test.YtaocljlhapoieaaRkWorks
namespace Go.Am

/-- The Id of one more report. -/
def pE (rs : List aB) : Int := rs.foldl (fun a r => max a (r.Id + 1)) 0
theorem vI : ∀ (rs : List aB) (a : Int), a ≤ rs.foldl (fun a r => max a (r.Id + 1)) a ∧ (∀ r ∈ rs, r.Id < rs.foldl (fun a r => max a (r.Id + 1)) a) ∧ ∀ M : Int, a ≤ M → (∀ r ∈ rs, r.Id + 1 ≤ M) → rs.foldl (fun a r => max a (r.Id + 1)) a ≤ M
  | [], a => ⟨Int.le_refl _, by simp, fun M h _ => h⟩
  | r :: rs, a => by
    rw [List.foldl_cons]
    obtain ⟨h1, h2, h3⟩ := vI rs (max a (r.Id + 1))
    refine ⟨by omega, fun q hq => ?_, fun M hM hr => h3 M (by have := hr r (by simp); omega) fun q hq => hr q (List.mem_cons_of_mem _ hq)⟩
    rcases List.mem_cons.1 hq with rfl | hq
    · omega
    · exact h2 q hq
theorem aKj {l : aM} (hb : Bd l) (hi : ∀ r ∈ l.Reports, 0 ≤ r.Id ∧ r.Id ≤ 1000) (p w n : Int) : lO l p w n = some (aKo l ⟨pE l.Reports, p, w, n, false⟩) := by
  have h1 := hb.1
  unfold lO
  rw [aFa hb, Option.bind_some]
  have main := lH (fun k i s => iE p w n l (aM.mk 0 0 [] [] []) l.Players l.Counts l.Reports l.Bans l.Frozen k s i) l.Reports (fun a r => max a (r.Id + 1)) (fun s => mW p w n s (aM.mk 0 0 [] [] []) l.Players l.Counts l.Reports l.Bans l.Frozen) 0 ?_ ?_ BIG (cY (by omega))
  · refine Eq.trans main ?_
    unfold mW
    rw [hJ (by simp; omega), Option.bind_some]; rfl
  · intro k i hil s _
    have hlt : decide ((i : Int) < (l.Reports.length : Int)) = true := decide_eq_true (by omega)
    have hr := hi _ (List.getElem_mem hil)
    simp only [iE, hlt, cond_true, dD hil, Option.bind_some, cF (show i < 9223372036854775807 by omega), cS (show -9223372036854775808 ≤ l.Reports[i].Id + 1 by omega) (by omega)]
  · intro k s
    have hlt : decide ((l.Reports.length : Int) < (l.Reports.length : Int)) = false := decide_eq_false (by omega)
    simp only [iE, hlt, cond_false]
theorem IsList.len_le {l : aM} {z : List aB} {w : Int} {out : List Int} (h : IsList l z w out) (hP : 0 ≤ l.Players) : (out.length : Int) ≤ l.Players := by
  have hnr : ((List.range l.Players.toNat).map fun n : Nat => (n : Int)).Nodup := List.Pairwise.map _ (fun a b h => by omega) (List.nodup_range (n := l.Players.toNat))
  have := aFe h.nodup hnr fun x hx => by
    have := (h.mem x).1 hx
    exact List.mem_map.2 ⟨x.toNat, List.mem_range.2 (by omega), by omega⟩
  rw [List.length_map, List.length_range] at this
  omega
end Go.Am
