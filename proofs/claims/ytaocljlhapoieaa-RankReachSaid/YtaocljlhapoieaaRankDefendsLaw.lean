/- The plain law RankDefends. -/
import Derived.Test.YtaocljlhapoieaaRkWorks
namespace Go.Am

/-- What a statement looks at. -/
structure Look (l : aL) (z : List aD) (p w : Int) : Prop where
  gl : GL l z
  pl : l.Players ≤ 5
  rl : l.Reports.length ≤ 10
  wk : ∀ r ∈ l.Reports, r.Week ≤ 150
  p0 : 0 ≤ p ∧ p < l.Players
  w0 : 0 ≤ w ∧ w ≤ 250
theorem Look.arg {l : aL} {z : List aD} {p w : Int} (h : Look l z p w) : sD l p w = true := by
  have := h.p0; have := h.w0
  unfold sD inB
  simp; omega
end Go.Am
