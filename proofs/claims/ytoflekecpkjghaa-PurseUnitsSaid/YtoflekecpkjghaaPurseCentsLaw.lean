/- The plain law PurseCents. -/
import Derived.Test.YtoflekecpkjghaaPpPlain17
import Derived.Test.YtoflekecpkjghaaPuSh
namespace Go.Am

theorem aPb {b : aY} (h : SumIn b 1000) (hb : Bal b) : mB b = some true := by
  obtain ⟨a1, a2, a3, a4, a5, a6, a7, a8⟩ := h
  unfold Bal at hb
  unfold mB
  rw [bN (n := b.Gross + b.Daily) (by omega) (by omega), bN (n := b.Gross + b.Daily + b.Debt) (by omega) (by omega), bN (n := b.Tax + b.Fines) (by omega) (by omega), bN (n := b.Tax + b.Fines + b.Used) (by omega) (by omega), bN (n := b.Tax + b.Fines + b.Used + b.Rest) (by omega) (by omega), decide_eq_true hb, decide_eq_true (aYx a1.1 a2.1 a3.1 a4.1 a5.1 a6.1 a7.1 a8.1)]
  rfl
end Go.Am
