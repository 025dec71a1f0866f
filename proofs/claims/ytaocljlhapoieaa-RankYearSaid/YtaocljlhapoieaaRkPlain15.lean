/- The best results: none are better. -/
import Derived.Test.YtaocljlhapoieaaRkPlain14
namespace Go.Am

theorem aBc (all : List aB) (hok : ∀ x ∈ all, okT x) (hb : all.length ≤ 1000) : ∃ s : List aB, s.Perm all ∧ s.Pairwise leT := by
  obtain ⟨s, hp, hs, _⟩ := uW aGo all hok (by omega)
  exact ⟨s, hp, hs⟩
theorem aEy {C : Int} {all : List aB} (hall : all.Pairwise fun x y => x.Id < y.Id) (hok : ∀ x ∈ all, okT x) (hb : all.length ≤ 1000) (hC : 0 ≤ C) : ((kD C all).length : Int) = min (all.length : Int) (max (dZ all : Int) C) := by
  obtain ⟨s, hp, hs⟩ := aBc all hok hb
  have hm : dZ s = dZ all := oG hp
  have hl := hp.length_eq
  have hml : dZ s ≤ s.length := List.length_filter_le _ _
  have := (zS (C := C) hall hp hs (N := (min (s.length : Int) (max (dZ s : Int) C)).toNat) (by omega) (by omega)).length_eq
  rw [← this, List.length_take]
  omega
end Go.Am
