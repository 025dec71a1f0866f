/- The functions compute what the shallow ones say: printed by program. -/
import Derived.Test.YtoflekecpkjghaaGreatPgSh
import Derived.Test.YtoflekecpkjghaaGreatAmFam2
import Derived.Test.YtoflekecpkjghaaGreatAmRange
import Derived.Test.YtoflekecpkjghaaGreatAmSort
import Derived.Test.YtoflekecpkjghaaGreatPgShelf
import Derived.Test.YtoflekecpkjghaaGreatAmSub
import Derived.Test.YtoflekecpkjghaaGreatBkDet
import Derived.Test.YtoflekecpkjghaaGreatChecked
import Derived.Test.YtoflekecpkjghaaGreatAmShort
import Derived.KernelRfl
namespace Go.Am
open Go.Proofs
set_option maxRecDepth 100000
set_option maxHeartbeats 4000000

theorem mix : Tryz.prog.follows .mixedOrders = true := Checked.mixed Tryz.checked

theorem eI : nJ Tryz.prog 31 9 := ⟨Tryz.isAgg31, Tryz.sizeOf31⟩
theorem aJg : cY Tryz.prog 37 0 0 := cL Tryz.runUnderlying37 rfl rfl Tryz.sizeOf3
theorem aU : mM Tryz.prog 3 := ⟨Tryz.isAgg3, Tryz.sizeOf3⟩
theorem aOk : cY Tryz.prog 37 1 1 := cL Tryz.runUnderlying37 rfl rfl Tryz.sizeOf3
theorem aAp : cY Tryz.prog 42 1 1 := cL Tryz.runUnderlying42 rfl rfl Tryz.sizeOf3
theorem kE : cY Tryz.prog 46 2 2 := cL Tryz.runUnderlying46 rfl rfl Tryz.sizeOf3
theorem pW : cY Tryz.prog 46 1 1 := cL Tryz.runUnderlying46 rfl rfl Tryz.sizeOf3
theorem gH : cY Tryz.prog 31 0 0 := cL Tryz.runUnderlying31 rfl rfl Tryz.sizeOf24
theorem jR : nJ Tryz.prog 24 2 := ⟨Tryz.isAgg24, Tryz.sizeOf24⟩
theorem oG : cY Tryz.prog 31 1 2 := cL Tryz.runUnderlying31 rfl rfl Tryz.sizeOf25
theorem uG : mM Tryz.prog 25 := ⟨Tryz.isAgg25, Tryz.sizeOf25⟩
theorem uB : cY Tryz.prog 46 0 0 := cL Tryz.runUnderlying46 rfl rfl Tryz.sizeOf3
theorem tR : nJ Tryz.prog 46 3 := ⟨Tryz.isAgg46, Tryz.sizeOf46⟩
theorem fP : cY Tryz.prog 31 2 3 := cL Tryz.runUnderlying31 rfl rfl Tryz.sizeOf22
theorem cI : mM Tryz.prog 22 := ⟨Tryz.isAgg22, Tryz.sizeOf22⟩
theorem bJ : SliceTy Tryz.prog 22 3 1 8 (.int .i64 0) := ⟨Tryz.underlying22, ⟨Tryz.t3, by kernel_rfl, rfl, rfl, rfl⟩, rfl, by decide⟩
theorem dM : cY Tryz.prog 24 1 1 := cL Tryz.runUnderlying24 rfl rfl Tryz.sizeOf22
theorem hC : SliceTy Tryz.prog 25 67 5 40 (.agg #[.int .i64 0, .int .i64 0, .int .i64 0, .int .i64 0, .int .i64 0]) := ⟨Tryz.underlying25, ⟨Tryz.t67, by kernel_rfl, rfl, rfl, rfl⟩, rfl, by decide⟩
theorem jA : cY Tryz.prog 31 4 5 := cL Tryz.runUnderlying31 rfl rfl Tryz.sizeOf26
theorem mS : mM Tryz.prog 26 := ⟨Tryz.isAgg26, Tryz.sizeOf26⟩
theorem mA : SliceTy Tryz.prog 26 46 3 24 (.agg #[.int .i64 0, .int .i64 0, .int .i64 0]) := ⟨Tryz.underlying26, ⟨Tryz.t46, by kernel_rfl, rfl, rfl, rfl⟩, rfl, by decide⟩
theorem pT : cY Tryz.prog 31 5 6 := cL Tryz.runUnderlying31 rfl rfl Tryz.sizeOf27
theorem vE : mM Tryz.prog 27 := ⟨Tryz.isAgg27, Tryz.sizeOf27⟩
theorem tO : SliceTy Tryz.prog 27 78 2 16 (.agg #[.int .i64 0, .int .i64 0]) := ⟨Tryz.underlying27, ⟨Tryz.t78, by kernel_rfl, rfl, rfl, rfl⟩, rfl, by decide⟩
theorem uA : cY Tryz.prog 31 6 7 := cL Tryz.runUnderlying31 rfl rfl Tryz.sizeOf28
theorem aBa : mM Tryz.prog 28 := ⟨Tryz.isAgg28, Tryz.sizeOf28⟩
theorem xE : SliceTy Tryz.prog 28 80 3 24 (.agg #[.int .i64 0, .int .i64 0, .int .i64 0]) := ⟨Tryz.underlying28, ⟨Tryz.t80, by kernel_rfl, rfl, rfl, rfl⟩, rfl, by decide⟩
theorem nC : cY Tryz.prog 31 7 8 := cL Tryz.runUnderlying31 rfl rfl Tryz.sizeOf29
theorem sY : mM Tryz.prog 29 := ⟨Tryz.isAgg29, Tryz.sizeOf29⟩
theorem dC : SliceTy Tryz.prog 29 76 4 32 (.agg #[.int .i64 0, .int .i64 0, .int .i64 0, .int .i64 0]) := ⟨Tryz.underlying29, ⟨Tryz.t76, by kernel_rfl, rfl, rfl, rfl⟩, rfl, by decide⟩
theorem fI : cY Tryz.prog 24 0 0 := cL Tryz.runUnderlying24 rfl rfl Tryz.sizeOf3
theorem aJf : cY Tryz.prog 31 3 4 := cL Tryz.runUnderlying31 rfl rfl Tryz.sizeOf3
theorem lX : nJ Tryz.prog 67 5 := ⟨Tryz.isAgg67, Tryz.sizeOf67⟩
theorem oI : cY Tryz.prog 67 3 3 := cL Tryz.runUnderlying67 rfl rfl Tryz.sizeOf3
theorem oH : cY Tryz.prog 67 0 0 := cL Tryz.runUnderlying67 rfl rfl Tryz.sizeOf3
theorem pX : cY Tryz.prog 67 1 1 := cL Tryz.runUnderlying67 rfl rfl Tryz.sizeOf3
theorem lD : cY Tryz.prog 67 2 2 := cL Tryz.runUnderlying67 rfl rfl Tryz.sizeOf3
theorem xS : cY Tryz.prog 67 4 4 := cL Tryz.runUnderlying67 rfl rfl Tryz.sizeOf3
theorem aDf : mW Tryz.prog 126 (.agg #[.slice none 0 0, .slice none 0 0]) [(0, 1), (1, 1)] := ⟨Tryz.zeroValue126, _, Tryz.runUnderlying126, fun w => by simp [Tryz.sizeOf22, Tryz.sizeOf32]⟩
theorem pF : cY Tryz.prog 126 1 1 := cL Tryz.runUnderlying126 rfl rfl Tryz.sizeOf32
theorem wS : mM Tryz.prog 32 := ⟨Tryz.isAgg32, Tryz.sizeOf32⟩
theorem yI : SliceTy Tryz.prog 32 22 1 24 (.slice none 0 0) := ⟨Tryz.underlying32, ⟨Tryz.t22, by kernel_rfl, rfl, rfl, rfl⟩, rfl, by decide⟩
theorem uR : nJ Tryz.prog 126 2 := ⟨Tryz.isAgg126, Tryz.sizeOf126⟩
theorem aOh : aFj Tryz.prog 67 aL := by
  rintro ⟨a0, a1, a2, a3, a4⟩ ⟨b0, b1, b2, b3, b4⟩ w
  simp [aL, cC, go_sem, Op.eqFields, Program.fieldsOf] <;> (repeat' split) <;> simp_all
theorem xU : cY Tryz.prog 78 0 0 := cL Tryz.runUnderlying78 rfl rfl Tryz.sizeOf3
theorem aJh : cY Tryz.prog 78 1 1 := cL Tryz.runUnderlying78 rfl rfl Tryz.sizeOf3
theorem aJu : nJ Tryz.prog 80 3 := ⟨Tryz.isAgg80, Tryz.sizeOf80⟩
theorem xV : cY Tryz.prog 80 0 0 := cL Tryz.runUnderlying80 rfl rfl Tryz.sizeOf3
theorem aDu : cY Tryz.prog 80 1 1 := cL Tryz.runUnderlying80 rfl rfl Tryz.sizeOf3
theorem aJi : cY Tryz.prog 80 2 2 := cL Tryz.runUnderlying80 rfl rfl Tryz.sizeOf3
theorem aHq : mW Tryz.prog 46 (.agg #[.int .i64 0, .int .i64 0, .int .i64 0]) [(0, 1), (1, 1), (2, 1)] := ⟨Tryz.zeroValue46, _, Tryz.runUnderlying46, fun w => by simp [Tryz.sizeOf3]⟩
theorem gS : nJ Tryz.prog 76 4 := ⟨Tryz.isAgg76, Tryz.sizeOf76⟩
theorem nD : cY Tryz.prog 76 0 0 := cL Tryz.runUnderlying76 rfl rfl Tryz.sizeOf3
theorem aDt : cY Tryz.prog 76 2 2 := cL Tryz.runUnderlying76 rfl rfl Tryz.sizeOf3
theorem uC : cY Tryz.prog 76 1 1 := cL Tryz.runUnderlying76 rfl rfl Tryz.sizeOf3
theorem xT : cY Tryz.prog 76 3 3 := cL Tryz.runUnderlying76 rfl rfl Tryz.sizeOf3
theorem aKe : aFj Tryz.prog 76 aE := by
  rintro ⟨a0, a1, a2, a3⟩ ⟨b0, b1, b2, b3⟩ w
  simp [aE, cC, go_sem, Op.eqFields, Program.fieldsOf] <;> (repeat' split) <;> simp_all
theorem wK : nJ Tryz.prog 42 9 := ⟨Tryz.isAgg42, Tryz.sizeOf42⟩
theorem aHp : mW Tryz.prog 42 (.agg #[.int .i64 0, .int .i64 0, .int .i64 0, .int .i64 0, .int .i64 0, .int .i64 0, .int .i64 0, .int .i64 0, .int .i64 0]) [(0, 1), (1, 1), (2, 1), (3, 1), (4, 1), (5, 1), (6, 1), (7, 1), (8, 1)] := ⟨Tryz.zeroValue42, _, Tryz.runUnderlying42, fun w => by simp [Tryz.sizeOf3]⟩
theorem aYj : aFj Tryz.prog 42 bP := by
  rintro ⟨a0, a1, a2, a3, a4, a5, a6, a7, a8⟩ ⟨b0, b1, b2, b3, b4, b5, b6, b7, b8⟩ w
  simp [bP, cC, go_sem, Op.eqFields, Program.fieldsOf] <;> (repeat' split) <;> simp_all
theorem aAr : cY Tryz.prog 42 5 5 := cL Tryz.runUnderlying42 rfl rfl Tryz.sizeOf3
theorem aZc : mW Tryz.prog 24 (.agg #[.int .i64 0, .slice none 0 0]) [(0, 1), (1, 1)] := ⟨Tryz.zeroValue24, _, Tryz.runUnderlying24, fun w => by simp [Tryz.sizeOf22, Tryz.sizeOf3]⟩
theorem aUm : mW Tryz.prog 67 (.agg #[.int .i64 0, .int .i64 0, .int .i64 0, .int .i64 0, .int .i64 0]) [(0, 1), (1, 1), (2, 1), (3, 1), (4, 1)] := ⟨Tryz.zeroValue67, _, Tryz.runUnderlying67, fun w => by simp [Tryz.sizeOf3]⟩
theorem aZe : mW Tryz.prog 78 (.agg #[.int .i64 0, .int .i64 0]) [(0, 1), (1, 1)] := ⟨Tryz.zeroValue78, _, Tryz.runUnderlying78, fun w => by simp [Tryz.sizeOf3]⟩
theorem aUn : mW Tryz.prog 80 (.agg #[.int .i64 0, .int .i64 0, .int .i64 0]) [(0, 1), (1, 1), (2, 1)] := ⟨Tryz.zeroValue80, _, Tryz.runUnderlying80, fun w => by simp [Tryz.sizeOf3]⟩
theorem aPl : mW Tryz.prog 76 (.agg #[.int .i64 0, .int .i64 0, .int .i64 0, .int .i64 0]) [(0, 1), (1, 1), (2, 1), (3, 1)] := ⟨Tryz.zeroValue76, _, Tryz.runUnderlying76, fun w => by simp [Tryz.sizeOf3]⟩
theorem aZd : mW Tryz.prog 31 (.agg #[.int .i64 0, .slice none 0 0, .slice none 0 0, .slice none 0 0, .int .i64 0, .slice none 0 0, .slice none 0 0, .slice none 0 0, .slice none 0 0]) [(0, 2), (2, 1), (3, 1), (4, 1), (5, 1), (6, 1), (7, 1), (8, 1)] := ⟨Tryz.zeroValue31, _, Tryz.runUnderlying31, fun w => by simp [Tryz.sizeOf22, Tryz.sizeOf24, Tryz.sizeOf25, Tryz.sizeOf26, Tryz.sizeOf27, Tryz.sizeOf28, Tryz.sizeOf29, Tryz.sizeOf3]⟩
theorem aRz : uQ Tryz.prog 3 (fun n : Int => Value.int .i64 n) := aTk Tryz.underlying3
theorem aLw : mW Tryz.prog 155 (.agg #[.int .i64 0, .int .i64 0]) [(0, 1), (1, 1)] := ⟨Tryz.zeroValue155, _, Tryz.runUnderlying155, fun w => by simp [Tryz.sizeOf3]⟩
theorem wC : nJ Tryz.prog 155 2 := ⟨Tryz.isAgg155, Tryz.sizeOf155⟩
theorem tZ : cY Tryz.prog 155 0 0 := cL Tryz.runUnderlying155 rfl rfl Tryz.sizeOf3
theorem aTh : cY Tryz.prog 155 1 1 := cL Tryz.runUnderlying155 rfl rfl Tryz.sizeOf3
theorem aXs : mW Tryz.prog 153 (.agg #[.int .i64 0, .slice none 0 0, .slice none 0 0, .map none]) [(0, 2), (2, 1), (3, 1)] := ⟨Tryz.zeroValue153, _, Tryz.runUnderlying153, fun w => by simp [Tryz.sizeOf151, Tryz.sizeOf22, Tryz.sizeOf24]⟩
theorem aYa (b : Bool) (a : aF) (w : World) : (Instr.checkKey b 10000 67 (.agg ((aL a).map cC).toArray)).run Tryz.prog w = .ok () w := by
  obtain ⟨a1, a2, a3, a4, a5⟩ := a;rw [show (10000 : Nat) = 9990 + 10 from rfl]
  generalize (9990 : Nat) = m
  simp [Instr.checkKey, aL, cC, go_sem, Std.Legacy.Range.forIn_eq_forIn_range', Std.Legacy.Range.size]
theorem aOp : uQ Tryz.prog 67 (fun a : aF => Value.agg ((aL a).map cC).toArray) :=
  aGi Tryz.underlying67 aOh aYa (fun a w => aOn _ rfl _ _) (by
    rintro ⟨a1, a2, a3, a4, a5⟩ ⟨b1, b2, b3, b4, b5⟩ h
    simp [aL] at h ⊢
    simp_all) (fun _ => rfl)
theorem aLq : aFj Tryz.prog 155 aT := by
  rintro ⟨a0, a1⟩ ⟨b0, b1⟩ w
  simp [aT, cC, go_sem, Op.eqFields, Program.fieldsOf] <;> (repeat' split) <;> simp_all
theorem aWx (b : Bool) (a : aH) (w : World) : (Instr.checkKey b 10000 155 (.agg ((aT a).map cC).toArray)).run Tryz.prog w = .ok () w := by
  obtain ⟨a1, a2⟩ := a;rw [show (10000 : Nat) = 9990 + 10 from rfl]
  generalize (9990 : Nat) = m
  simp [Instr.checkKey, aT, cC, go_sem, Std.Legacy.Range.forIn_eq_forIn_range', Std.Legacy.Range.size]
theorem aAb : uQ Tryz.prog 155 (fun a : aH => Value.agg ((aT a).map cC).toArray) :=
  aGi Tryz.underlying155 aLq aWx (fun a w => aOn _ rfl _ _) (by
    rintro ⟨a1, a2⟩ ⟨b1, b2⟩ h
    simp [aT] at h ⊢
    simp_all) (fun _ => rfl)
theorem pG : cY Tryz.prog 153 1 2 := cL Tryz.runUnderlying153 rfl rfl Tryz.sizeOf22
theorem yR : cY Tryz.prog 153 0 0 := cL Tryz.runUnderlying153 rfl rfl Tryz.sizeOf24
theorem aBq : cY Tryz.prog 153 2 3 := cL Tryz.runUnderlying153 rfl rfl Tryz.sizeOf151
theorem aHw : mM Tryz.prog 151 := ⟨Tryz.isAgg151, Tryz.sizeOf151⟩
theorem aNx : nJ Tryz.prog 78 2 := ⟨Tryz.isAgg78, Tryz.sizeOf78⟩
theorem oU : mW Tryz.prog 37 (.agg #[.int .i64 0, .int .i64 0]) [(0, 1), (1, 1)] := ⟨Tryz.zeroValue37, _, Tryz.runUnderlying37, fun w => by simp [Tryz.sizeOf3]⟩
theorem kP : nJ Tryz.prog 37 2 := ⟨Tryz.isAgg37, Tryz.sizeOf37⟩
theorem aBp : cY Tryz.prog 126 0 0 := cL Tryz.runUnderlying126 rfl rfl Tryz.sizeOf22
theorem aAq : cY Tryz.prog 42 2 2 := cL Tryz.runUnderlying42 rfl rfl Tryz.sizeOf3
theorem xQ : cY Tryz.prog 42 3 3 := cL Tryz.runUnderlying42 rfl rfl Tryz.sizeOf3
theorem xR : cY Tryz.prog 42 4 4 := cL Tryz.runUnderlying42 rfl rfl Tryz.sizeOf3
theorem aAs : cY Tryz.prog 42 6 6 := cL Tryz.runUnderlying42 rfl rfl Tryz.sizeOf3
theorem aAt : cY Tryz.prog 42 7 7 := cL Tryz.runUnderlying42 rfl rfl Tryz.sizeOf3
theorem aDs : cY Tryz.prog 42 8 8 := cL Tryz.runUnderlying42 rfl rfl Tryz.sizeOf3
theorem aNp : SliceTy Tryz.prog 59 42 9 72 (.agg #[.int .i64 0, .int .i64 0, .int .i64 0, .int .i64 0, .int .i64 0, .int .i64 0, .int .i64 0, .int .i64 0, .int .i64 0]) := ⟨Tryz.underlying59, ⟨Tryz.t42, by kernel_rfl, rfl, rfl, rfl⟩, rfl, by decide⟩
theorem aYi : aFj Tryz.prog 37 bG := by
  rintro ⟨a0, a1⟩ ⟨b0, b1⟩ w
  simp [bG, cC, go_sem, Op.eqFields, Program.fieldsOf] <;> (repeat' split) <;> simp_all

theorem aJd (i : aR) {r : Bool} (h : mY i = some r) : Fn Tryz.prog 21 [.agg (aP i)] (.b r) := by
 unfold mY at h;refine Fn.of_tr Tryz.func21 rfl (rs := [.tmp 2]) Tryz.results21 Tryz.ntmps21 (Nat.le_of_ble_eq_true rfl) ?_;refine aC (aA ?_);refine bE rfl (dN (v := .agg (aP i)) (aD rfl) rfl rfl rfl) ?_;rintro _ ⟨b1, rfl⟩;refine ta (.b false) (aB (aC (aA (to (sf rfl gH) (to (sf rfl dM) (to (sl 0 rfl rfl rfl cI) (to (sle rfl bJ.of) (to (scm rfl rfl rfl) (tm (.b (decide (8 < (i.Tree.Slots.length : Int)))) ?_)))))))));obtain ⟨b2, h3, h⟩ := bind_some h;refine bH 5 [1] 13 b2 ?_ ?_
 ·refine aW (decide (8 < (i.Tree.Slots.length : Int))) (fun a => ?_) (fun a => ?_)
  ·have h3 := aK a h3;refine tp a (tp a (tp a (tp a (to (spt (.b true) a) ?_))));have h3 := Option.some.inj h3;subst h3;refine aB (aO rfl ⟨rfl, trivial⟩ rfl)
  ·have h3 := aJ a h3;refine tk a (sf rfl oG) (tk a (sl 0 rfl rfl rfl uG) (tk a (sle rfl hC.of) (tk a (scm rfl rfl rfl) (to (spf (.b (decide (20 < (i.Slips.length : Int)))) a) ?_))));have h3 := Option.some.inj h3;subst h3;refine aB (aO rfl ⟨rfl, trivial⟩ rfl)
 ·refine tm (.b b2) ?_;obtain ⟨b4, h5, h⟩ := bind_some h;refine bH 5 [1] 19 b4 ?_ ?_
  ·refine aW (b2) (fun c => ?_) (fun c => ?_)
   ·have h5 := aK c h5;refine tp c (tp c (tp c (tp c (to (spt (.b true) c) ?_))));have h5 := Option.some.inj h5;subst h5;refine aB (aO rfl ⟨rfl, trivial⟩ rfl)
   ·have h5 := aJ c h5;refine tk c (sf rfl fP) (tk c (sl 0 rfl rfl rfl cI) (tk c (sle rfl bJ.of) (tk c (scm rfl rfl rfl) (to (spf (.b (decide (20 < (i.Prizes.length : Int)))) c) ?_))));have h5 := Option.some.inj h5;subst h5;refine aB (aO rfl ⟨rfl, trivial⟩ rfl)
  ·refine tm (.b b4) ?_;obtain ⟨b6, h7, h⟩ := bind_some h;refine bH 5 [1] 25 b6 ?_ ?_
   ·refine aW (b4) (fun d => ?_) (fun d => ?_)
    ·have h7 := aK d h7;refine tp d (tp d (tp d (tp d (to (spt (.b true) d) ?_))));have h7 := Option.some.inj h7;subst h7;refine aB (aO rfl ⟨rfl, trivial⟩ rfl)
    ·have h7 := aJ d h7;refine tk d (sf rfl jA) (tk d (sl 0 rfl rfl rfl mS) (tk d (sle rfl mA.of) (tk d (scm rfl rfl rfl) (to (spf (.b (decide (40 < (i.Teams.length : Int)))) d) ?_))));have h7 := Option.some.inj h7;subst h7;refine aB (aO rfl ⟨rfl, trivial⟩ rfl)
   ·refine tm (.b b6) ?_;obtain ⟨b8, h9, h⟩ := bind_some h;refine bH 5 [1] 31 b8 ?_ ?_
    ·refine aW (b6) (fun e => ?_) (fun e => ?_)
     ·have h9 := aK e h9;refine tp e (tp e (tp e (tp e (to (spt (.b true) e) ?_))));have h9 := Option.some.inj h9;subst h9;refine aB (aO rfl ⟨rfl, trivial⟩ rfl)
     ·have h9 := aJ e h9;refine tk e (sf rfl pT) (tk e (sl 0 rfl rfl rfl vE) (tk e (sle rfl tO.of) (tk e (scm rfl rfl rfl) (to (spf (.b (decide (40 < (i.Levies.length : Int)))) e) ?_))));have h9 := Option.some.inj h9;subst h9;refine aB (aO rfl ⟨rfl, trivial⟩ rfl)
    ·refine tm (.b b8) ?_;obtain ⟨m, j, h⟩ := bind_some h;refine bH 5 [1] 37 m ?_ ?_
     ·refine aW (b8) (fun f => ?_) (fun f => ?_)
      ·have j := aK f j;refine tp f (tp f (tp f (tp f (to (spt (.b true) f) ?_))));have j := Option.some.inj j;subst j;refine aB (aO rfl ⟨rfl, trivial⟩ rfl)
      ·have j := aJ f j;refine tk f (sf rfl uA) (tk f (sl 0 rfl rfl rfl aBa) (tk f (sle rfl xE.of) (tk f (scm rfl rfl rfl) (to (spf (.b (decide (40 < (i.Rates.length : Int)))) f) ?_))));have j := Option.some.inj j;subst j;refine aB (aO rfl ⟨rfl, trivial⟩ rfl)
     ·refine tm (.b m) ?_;obtain ⟨n, k, h⟩ := bind_some h;refine bH 5 [] 43 n ?_ ?_
      ·refine aW (m) (fun g => ?_) (fun g => ?_)
       ·have k := aK g k;refine tp g (tp g (tp g (tp g (to (spt (.b true) g) ?_))));have k := Option.some.inj k;subst k;refine aB (aO rfl trivial rfl)
       ·have k := aJ g k;refine tk g (sf rfl nC) (tk g (sl 0 rfl rfl rfl sY) (tk g (sle rfl dC.of) (tk g (scm rfl rfl rfl) (to (spf (.b (decide (60 < (i.Items.length : Int)))) g) ?_))));have k := Option.some.inj k;subst k;refine aB (aO rfl trivial rfl)
      ·refine ta (.b n) (aB ?_);have h := Option.some.inj h;subst h;refine bT (bL (bO (l := [2]) ⟨rfl, trivial⟩)) ?_;exact bB ⟨rfl, _, .one _, rfl, rfl⟩

theorem gM (d : Int) (a : Int) (c : Int) {r : Bool} (h : eT d a c = some r) : Fn Tryz.prog 109 [.i d, .i a, .i c] (.b r) := by
 unfold eT at h;refine Fn.of_tr Tryz.func109 rfl (rs := [.tmp 6]) Tryz.results109 Tryz.ntmps109 (Nat.le_of_ble_eq_true rfl) ?_;refine aC (aA (ta (.b false) (aB (aC (aA (tm (.i d) (tm (.i a) (to (scm rfl rfl rfl) (tm (.b (decide (a ≤ d))) ?_)))))))));obtain ⟨b1, h2, h⟩ := bind_some h;refine bH 4 [] 14 b1 ?_ ?_
 ·refine aW (decide (a ≤ d)) (fun c3 => ?_) (fun c3 => ?_)
  ·have h2 := aK c3 h2;refine tk c3 (sm (.i d)) (tk c3 (sm (.i c)) (tk c3 (scm rfl rfl rfl) (to (spt (.b (decide (d ≤ c))) c3) ?_)));have h2 := Option.some.inj h2;subst h2;refine aB (aO rfl trivial rfl)
  ·have h2 := aJ c3 h2;refine tp c3 (tp c3 (tp c3 (to (spf (.b false) c3) ?_)));have h2 := Option.some.inj h2;subst h2;refine aB (aO rfl trivial rfl)
 ·refine ta (.b b1) (aB ?_);have h := Option.some.inj h;subst h;exact bB ⟨rfl, _, .one _, rfl, rfl⟩

theorem aFh (n : aV) {r : Bool} (h : mE n = some r) : Fn Tryz.prog 83 [.agg (bC n)] (.b r) := by
 unfold mE at h;refine Fn.of_tr Tryz.func83 rfl (rs := [.tmp 2]) Tryz.results83 Tryz.ntmps83 (Nat.le_of_ble_eq_true rfl) ?_;refine aC (aA ?_);refine bE rfl (dN (v := .agg (bC n)) (aD rfl) rfl rfl rfl) ?_;rintro _ ⟨b1, rfl⟩;refine ta (.b false) (aB (aC (aC (aA (to (sf rfl fI) (to (sl 0 rfl rfl rfl aU) ?_))))));obtain ⟨r2, h3, h⟩ := bind_some h;refine to (scr Tryz.call109 (gM _ _ _ h3)) (to (sn rfl) (tm (.b (!r2)) ?_));obtain ⟨b4, h5, h⟩ := bind_some h;refine bH 9 [1] 18 b4 ?_ ?_
 ·refine aW (!r2) (fun c => ?_) (fun c => ?_)
  ·have h5 := aK c h5;refine tp c (tp c (tp c (tp c (tp c (tp c (tp c (tp c (to (spt (.b true) c) ?_))))))));have h5 := Option.some.inj h5;subst h5;refine aB (aO rfl ⟨rfl, trivial⟩ rfl)
  ·have h5 := aJ c h5;refine tk c (sf rfl dM) (tk c (sl 0 rfl rfl rfl cI) (tk c (sle rfl bJ.of) (tk c (sf rfl fI) (tk c (sl 0 rfl rfl rfl aU) (tk c (mT (aD rfl) rfl Tryz.runUnderlying3 Tryz.runUnderlying113) ?_)))));obtain ⟨S, H, h5⟩ := bind_some h5;refine tk c (aNo (aD rfl) rfl rfl (vI H)) ?_;refine tk c (scm rfl rfl rfl) (to (spf (.b (!decide ((n.Slots.length : Int) = (w64 (1 * 2 ^ (min (IntKind.u64.wrap n.Rounds).toNat 64)))))) c) ?_);have h5 := Option.some.inj h5;subst h5;refine aB (aO rfl ⟨rfl, trivial⟩ rfl)
 ·refine aB ?_;refine aZ rfl (fun c6 => ?_) (fun c6 => ?_)
  ·have h := aK c6 h;refine aC (aA (ta (.b false) (aB ?_)));have h := Option.some.inj h;subst h;refine bT (bL (bO (l := [2]) ⟨rfl, trivial⟩)) ?_;exact bB ⟨rfl, _, .one _, rfl, rfl⟩
  ·have h := aJ c6 h;refine aY (aC (aC (aA (ta (.i 0) (aB (bF ?_))))));refine bY [1] (fun (s7 : Int) => [(3, .i s7)]) (fun (s7 : Int) => [.box b1 0 (bC n)]) (fun (k : Nat) (s7 : Int) => gX n k s7) (fun _ => rfl) (0) h (aQ [0] rfl rfl (aI rfl (aN ⟨rfl, trivial⟩))) ?_;rintro k8 a h;simp only [gX] at h;refine aC (aC (aA (tm (.i a) (to (sf rfl dM) (to (sl 0 rfl rfl rfl cI) (to (sle rfl bJ.of) (to (scm rfl rfl rfl) (aB ?_))))))));refine aZ rfl (fun c9 => ?_) (fun c9 => ?_)
   ·have h := aK c9 h;refine aY (aC (bF (aC (aC (aA (to (sf rfl dM) (to (sl 0 rfl rfl rfl cI) (tm (.i a) ?_))))))));obtain ⟨T, I, h⟩ := bind_some h;refine to (six rfl rfl bJ.of (bA aM I)) (to (slc rfl aU) ?_);obtain ⟨C, J, h⟩ := bind_some h;refine to (scr Tryz.call109 (gM _ _ _ J)) (to (sn rfl) (tm (.b (!C)) ?_));obtain ⟨K, o, h⟩ := bind_some h;refine bH 21 [1, 3] 54 K ?_ ?_
    ·refine aW (!C) (fun e => ?_) (fun e => ?_)
     ·have o := aK e o;refine tp e (tp e (tp e (tp e (tq (tq (tq (tq (tq (tq (tp e (tp e (tq (tq ?_)))))))))))));refine tq (tq (tq (tq (tq (tp e (to (spt (.b true) e) ?_))))));have o := Option.some.inj o;subst o;refine aB (aO rfl ⟨rfl, rfl, trivial⟩ rfl)
     ·have o := aJ e o;refine tk e (sm (.i a)) (tk e (aZr (aD rfl) rfl rfl (by decide)) ?_);refine tk e (scm rfl rfl rfl) (tk e (sm (.b (decide ((a.tmod 2) = 1)))) ?_);obtain ⟨y, p, o⟩ := bind_some o;refine bH 7 [1, 3, 33, 34, 35, 36, 37] 44 y ?_ ?_
      ·refine aW (decide ((a.tmod 2) = 1)) (fun g => ?_) (fun g => ?_)
       ·have p := aK g p;refine tk g (sf rfl dM) (tk g (sl 0 rfl rfl rfl cI) (tk g (sm (.i a)) ?_));obtain ⟨L, M, p⟩ := bind_some p;refine tk g (six rfl rfl bJ.of (bA aM M)) (tk g (slc rfl aU) (tk g (scm rfl rfl rfl) (tk e (spt (.b (decide (L = (-1)))) g) ?_)));have p := Option.some.inj p;subst p;refine aB (aO rfl ⟨rfl, rfl, rfl, rfl, rfl, rfl, rfl, trivial⟩ rfl)
       ·have p := aJ g p;refine tp g (tp g (tp g (tp g (tp g (tp g (tk e (spf (.b false) g) ?_))))));have p := Option.some.inj p;subst p;refine aB (aO rfl ⟨rfl, rfl, rfl, rfl, rfl, rfl, rfl, trivial⟩ rfl)
      ·refine tk e (sm (.b y)) ?_;obtain ⟨E, q, o⟩ := bind_some o;refine bH 8 [1, 3, 33, 34, 35, 36, 37, 44, 45] 53 E ?_ ?_
       ·refine aW (y) (fun f => ?_) (fun f => ?_)
        ·have q := aK f q;refine tk f (sf rfl dM) (tk f (sl 0 rfl rfl rfl cI) (tk f (sm (.i a)) (tk f (sar rfl rfl rfl) ?_)));obtain ⟨N, O, q⟩ := bind_some q;refine tk f (six rfl rfl bJ.of (bA aM O)) (tk f (slc rfl aU) (tk f (scm rfl rfl rfl) (tk e (spt (.b (decide (N = (-1)))) f) ?_)));have q := Option.some.inj q;subst q;refine aB (aO rfl ⟨rfl, rfl, rfl, rfl, rfl, rfl, rfl, rfl, rfl, trivial⟩ rfl)
        ·have q := aJ f q;refine tp f (tp f (tp f (tp f (tp f (tp f (tp f (tk e (spf (.b false) f) ?_)))))));have q := Option.some.inj q;subst q;refine aB (aO rfl ⟨rfl, rfl, rfl, rfl, rfl, rfl, rfl, rfl, rfl, trivial⟩ rfl)
       ·refine to (spf (.b E) e) ?_;have o := Option.some.inj o;subst o;refine aB (aO rfl ⟨rfl, rfl, trivial⟩ rfl)
    ·refine aB ?_;refine aZ rfl (fun z => ?_) (fun z => ?_)
     ·have h := aK z h;refine aC (aA (ta (.b false) (aB ?_)));have h := Option.some.inj h;subst h;refine bT (bL (bO (l := [2]) ⟨rfl, trivial⟩)) ?_;exact bB ⟨rfl, _, .one _, rfl, rfl⟩
     ·have h := aJ z h;refine aY (aC (aA (ta (.i 0) (aB ?_))));refine uZ ?_;refine bY [1, 3] (fun (x : Int) => [(4, .i x)]) (fun (x : Int) => [.box b1 0 (bC n)]) (fun (k : Nat) (x : Int) => gY (gX n k8) a n k x) (fun _ => rfl) (0) h (aQ [0] rfl rfl (aI rfl (aN ⟨rfl, rfl, trivial⟩))) ?_;rintro U j h;simp only [gY] at h;refine aC (aC (aA (tm (.i j) (tm (.i a) (to (scm rfl rfl rfl) (aB ?_))))));refine aZ rfl (fun A => ?_) (fun A => ?_)
      ·have h := aK A h;refine aY (aC (bF (aC ?_)));obtain ⟨t, F, h⟩ := bind_some h;obtain ⟨u, G, h⟩ := bind_some h;obtain ⟨P, s, h⟩ := bind_some h;refine cV mix 19 [1, 3, 4] [(78, .b P)] ?_ ?_
       ·refine aW (decide (t = u)) (fun m => ?_) (fun m => ?_)
        ·have s := aK m s;obtain ⟨w, Q, s⟩ := bind_some s;have s := Option.some.inj s;subst s;refine ⟨[(60, 0, .bp b1 0 1), (61, 1, .d (.sl 1 (n.Slots.map aM))), (62, 2, .i j), (63, 3, .cp [.lit (.int .i64 t)]), (64, 4, .i t), (65, 5, .bp b1 0 1), (66, 6, .d (.sl 1 (n.Slots.map aM))), (67, 7, .i a), (68, 8, .cp [.lit (.int .i64 u)]), (69, 9, .i u), (70, 10, .b (decide (t = u))), (71, 11, .b (decide (t = u))), (72, 12, .bp b1 0 1), (73, 13, .d (.sl 1 (n.Slots.map aM))), (74, 14, .i a), (75, 15, .cp [.lit (.int .i64 w)]), (76, 16, .i w), (77, 17, .b (!decide (w = (-1)))), (78, 18, .b (!decide (w = (-1))))], ?_, ?_⟩
         · exact dok [([], []), ([0], []), ([], []), ([1, 2], []), ([3], []), ([], []), ([5], []), ([], []), ([6, 7], []), ([8], []), ([4, 9], []), ([10], []), ([11], []), ([11, 12], []), ([11], []), ([11, 13, 14], []), ([11, 15], []), ([11, 16], []), ([11, 17], [])] ⟨go (zf rfl dM),
      go (zl 0 rfl rfl rfl cI),
      go (zm (.i j)),
      go (zix rfl rfl bJ.of (bA aM F)),
      go (zlc rfl aU),
      go (zf rfl dM),
      go (zl 0 rfl rfl rfl cI),
      go (zm (.i a)),
      go (zix rfl rfl bJ.of (bA aM G)),
      go (zlc rfl aU),
      go (zcm rfl rfl rfl),
      go (zm (.b (decide (t = u)))),
      gt m (zf rfl dM),
      gt m (zl 0 rfl rfl rfl cI),
      gt m (zm (.i a)),
      gt m (zix rfl rfl bJ.of (bA aM Q)),
      gt m (zlc rfl aU),
      gt m (zcm rfl rfl rfl),
      go (zpt (.b (!decide (w = (-1)))) m), trivial⟩
         · exact cK (aI rfl (aN ⟨rfl, rfl, rfl, trivial⟩))
        ·have s := aJ m s;have s := Option.some.inj s;subst s;refine ⟨[(60, 0, .bp b1 0 1), (61, 1, .d (.sl 1 (n.Slots.map aM))), (62, 2, .i j), (63, 3, .cp [.lit (.int .i64 t)]), (64, 4, .i t), (65, 5, .bp b1 0 1), (66, 6, .d (.sl 1 (n.Slots.map aM))), (67, 7, .i a), (68, 8, .cp [.lit (.int .i64 u)]), (69, 9, .i u), (70, 10, .b (decide (t = u))), (71, 11, .b (decide (t = u))), (72, 12, .tup []), (73, 13, .tup []), (74, 14, .tup []), (75, 15, .tup []), (76, 16, .tup []), (77, 17, .tup []), (78, 18, .b false)], ?_, ?_⟩
         · exact dok [([], []), ([0], []), ([], []), ([1, 2], []), ([3], []), ([], []), ([5], []), ([], []), ([6, 7], []), ([8], []), ([4, 9], []), ([10], []), ([11], []), ([11, 12], []), ([11], []), ([11, 13, 14], []), ([11, 15], []), ([11, 16], []), ([11, 17], [])] ⟨go (zf rfl dM),
      go (zl 0 rfl rfl rfl cI),
      go (zm (.i j)),
      go (zix rfl rfl bJ.of (bA aM F)),
      go (zlc rfl aU),
      go (zf rfl dM),
      go (zl 0 rfl rfl rfl cI),
      go (zm (.i a)),
      go (zix rfl rfl bJ.of (bA aM G)),
      go (zlc rfl aU),
      go (zcm rfl rfl rfl),
      go (zm (.b (decide (t = u)))),
      gp m,
      gp m,
      gp m,
      gp m,
      gp m,
      gp m,
      go (zpf (.b false) m), trivial⟩
         · exact cK (aI rfl (aN ⟨rfl, rfl, rfl, trivial⟩))
       ·refine aB ?_;refine aZ rfl (fun B => ?_) (fun B => ?_)
        ·have h := aK B h;refine aC (aA (ta (.b false) (aB ?_)));have h := Option.some.inj h;subst h;refine bT (bL (bO (l := [2]) ⟨rfl, trivial⟩)) ?_;exact bB ⟨rfl, _, .one _, rfl, rfl⟩
        ·have h := aJ B h;refine cR ?_;refine aA (tm (.i j) (to (sar rfl rfl rfl) (ta (.i (w64 (j + 1))) (aB ?_))));exact ⟨(w64 (j + 1)), h, aQ [0] rfl rfl (aI rfl (aN ⟨rfl, rfl, trivial⟩))⟩
      ·have h := aJ A h;refine cB ?_;refine .inl ⟨rfl, ?_⟩;simp only [sO] at h;simp only [sN] at h;refine aA (tm (.i a) (to (sar rfl rfl rfl) (ta (.i (w64 (a + 1))) (aB ?_))));exact ⟨(w64 (a + 1)), h, aQ [0] rfl rfl (aI rfl (aN ⟨rfl, trivial⟩))⟩
   ·have h := aJ c9 h;refine cB ?_;refine .inl ⟨rfl, ?_⟩;simp only [sM] at h;refine aC (aA (ta (.b true) (aB ?_)));have h := Option.some.inj h;subst h;refine bT (bL (bO (l := [2]) ⟨rfl, trivial⟩)) ?_;exact bB ⟨rfl, _, .one _, rfl, rfl⟩

theorem xL (b : aV) (a : Int) {r : Int} (h : mF b a = some r) : Fn Tryz.prog 44 [.agg (bC b), .i a] (.i r) := by
 unfold mF at h;refine Fn.of_tr Tryz.func44 rfl (rs := [.tmp 4]) Tryz.results44 Tryz.ntmps44 (Nat.le_of_ble_eq_true rfl) ?_;refine aC (aA ?_);refine bE rfl (dN (v := .agg (bC b)) (aD rfl) rfl rfl rfl) ?_;rintro _ ⟨b1, rfl⟩;refine ta (.i 0) (aB (aC (aA (to (sf rfl fI) (to (sl 0 rfl rfl rfl aU) (to (sar rfl rfl rfl) (tm (.i a) (to (sar rfl rfl rfl) (to (mT (aD rfl) rfl Tryz.runUnderlying3 Tryz.runUnderlying113) ?_)))))))));obtain ⟨u2, h3, h⟩ := bind_some h;refine to (aNo (aD rfl) rfl rfl (vI h3)) ?_;refine ta (.i (w64 (1 * 2 ^ (min (IntKind.u64.wrap (w64 ((w64 (b.Rounds - 1)) - a))).toNat 64)))) (aB ?_);have h := Option.some.inj h;subst h;refine bT (bL (bO (l := [4]) ⟨rfl, trivial⟩)) ?_;exact bB ⟨rfl, _, .one _, rfl, rfl⟩

theorem aDn (d : aV) (a : Int) (c : Int) {r : Bool} (h : nS d a c = some r) : Fn Tryz.prog 110 [.agg (bC d), .i a, .i c] (.b r) := by
 unfold nS at h;refine Fn.of_tr Tryz.func110 rfl (rs := [.tmp 6]) Tryz.results110 Tryz.ntmps110 (Nat.le_of_ble_eq_true rfl) ?_;refine aC (aA ?_);refine bE rfl (dN (v := .agg (bC d)) (aD rfl) rfl rfl rfl) ?_;rintro _ ⟨b1, rfl⟩;refine ta (.b false) (aB (aC (aA (tm (.i a) (to (sf rfl fI) (to (sl 0 rfl rfl rfl aU) (to (sar rfl rfl rfl) ?_)))))));obtain ⟨r2, h3, h⟩ := bind_some h;refine to (scr Tryz.call109 (gM _ _ _ h3)) (tm (.b r2) ?_);obtain ⟨b4, h5, h⟩ := bind_some h;refine bH 7 [] 19 b4 ?_ ?_
 ·refine aW (r2) (fun c6 => ?_) (fun c6 => ?_)
  ·have h5 := aK c6 h5;refine tk c6 (sm (.i c)) (tk c6 (sla 0 (bC d) rfl rfl jR) (tk c6 (sm (.i a)) ?_));obtain ⟨r7, h8, h5⟩ := bind_some h5;refine tk c6 (scr Tryz.call44 (xL _ _ h8)) (tk c6 (sar rfl rfl rfl) ?_);obtain ⟨r9, e, h5⟩ := bind_some h5;refine tk c6 (scr Tryz.call109 (gM _ _ _ e)) (to (spt (.b r9) c6) ?_);have h5 := Option.some.inj h5;subst h5;refine aB (aO rfl trivial rfl)
  ·have h5 := aJ c6 h5;refine tp c6 (tp c6 (tp c6 (tp c6 (tp c6 (tp c6 (to (spf (.b false) c6) ?_))))));have h5 := Option.some.inj h5;subst h5;refine aB (aO rfl trivial rfl)
 ·refine ta (.b b4) (aB ?_);have h := Option.some.inj h;subst h;refine bT (bL (bO (l := [6]) ⟨rfl, trivial⟩)) ?_;exact bB ⟨rfl, _, .one _, rfl, rfl⟩

theorem aFi (p : aV) (o : aF) {r : Bool} (h : oP p o = some r) : Fn Tryz.prog 84 [.agg (bC p), .agg (aL o)] (.b r) := by
 unfold oP at h;refine Fn.of_tr Tryz.func84 rfl (rs := [.tmp 4]) Tryz.results84 Tryz.ntmps84 (Nat.le_of_ble_eq_true rfl) ?_;refine aC (aA ?_);refine bE rfl (dN (v := .agg (bC p)) (aD rfl) rfl rfl rfl) ?_;rintro _ ⟨b1, rfl⟩;refine bE rfl (dN (v := .agg (aL o)) (aD rfl) rfl rfl rfl) ?_;rintro _ ⟨b2, rfl⟩;refine ta (.b false) (aB (aC (aC (aA (to (sf rfl oI) (to (sl 1 rfl rfl rfl aU) ?_))))));obtain ⟨r3, h4, h⟩ := bind_some h;refine to (scr Tryz.call109 (gM _ _ _ h4)) (to (sn rfl) (aB ?_));refine aZ rfl (fun c5 => ?_) (fun c5 => ?_)
 ·have h := aK c5 h;refine aC (aA (ta (.b false) (aB ?_)));have h := Option.some.inj h;subst h;refine bT (bL (bO (l := [4]) ⟨rfl, trivial⟩)) ?_;exact bB ⟨rfl, _, .one _, rfl, rfl⟩
 ·have h := aJ c5 h;refine aY (aC (aC (aA (to (sf rfl oH) (to (sl 1 rfl rfl rfl aU) (to (scm rfl rfl rfl) (aB ?_)))))));refine aZ rfl (fun c6 => ?_) (fun c6 => ?_)
  ·have h := aK c6 h;refine aC (aA (to (sf rfl pX) (to (sl 1 rfl rfl rfl aU) (to (scm rfl rfl rfl) (tm (.b (decide (o.Round = 0))) ?_)))));obtain ⟨b7, h8, h⟩ := bind_some h;refine bH 8 [3] 23 b7 ?_ ?_
   ·refine aW (decide (o.Round = 0)) (fun d => ?_) (fun d => ?_)
    ·have h8 := aK d h8;refine tk d (sf rfl lD) (tk d (sl 1 rfl rfl rfl aU) (tk d (sf rfl dM) (tk d (sl 0 rfl rfl rfl cI) (tk d (sle rfl bJ.of) (tk d (sar rfl rfl rfl) ?_)))));obtain ⟨y, z, h8⟩ := bind_some h8;refine tk d (scr Tryz.call109 (gM _ _ _ z)) (to (spt (.b y) d) ?_);have h8 := Option.some.inj h8;subst h8;refine aB (aO rfl ⟨rfl, trivial⟩ rfl)
    ·have h8 := aJ d h8;refine tp d (tp d (tp d (tp d (tp d (tp d (tp d (to (spf (.b false) d) ?_)))))));have h8 := Option.some.inj h8;subst h8;refine aB (aO rfl ⟨rfl, trivial⟩ rfl)
   ·refine tm (.b b7) ?_;obtain ⟨b9, g, h⟩ := bind_some h;refine bH 4 [] 28 b9 ?_ ?_
    ·refine aW (b7) (fun k => ?_) (fun k => ?_)
     ·have g := aK k g;refine tk k (sf rfl xS) (tk k (sl 1 rfl rfl rfl aU) ?_);obtain ⟨A, B, g⟩ := bind_some g;refine tk k (scr Tryz.call109 (gM _ _ _ B)) (to (spt (.b A) k) ?_);have g := Option.some.inj g;subst g;refine aB (aO rfl trivial rfl)
     ·have g := aJ k g;refine tp k (tp k (tp k (to (spf (.b false) k) ?_)));have g := Option.some.inj g;subst g;refine aB (aO rfl trivial rfl)
    ·refine ta (.b b9) (aB ?_);have h := Option.some.inj h;subst h;refine bT (bL (bO (l := [4]) ⟨rfl, trivial⟩)) ?_;exact bB ⟨rfl, _, .one _, rfl, rfl⟩
  ·have h := aJ c6 h;refine aY (aC (aC (aA (to (sf rfl oH) (to (sl 1 rfl rfl rfl aU) ?_)))));obtain ⟨t, C, h⟩ := bind_some h;refine to (scr Tryz.call109 (gM _ _ _ C)) (to (sn rfl) (tm (.b (!t)) ?_));obtain ⟨q, i, h⟩ := bind_some h;refine bH 8 [2, 3] 41 q ?_ ?_
   ·refine aW (!t) (fun e => ?_) (fun e => ?_)
    ·have i := aK e i;refine tp e (tp e (tp e (tp e (tp e (tp e (tp e (to (spt (.b true) e) ?_)))))));have i := Option.some.inj i;subst i;refine aB (aO rfl ⟨rfl, rfl, trivial⟩ rfl)
    ·have i := aJ e i;refine tk e (sla 0 (bC p) rfl rfl jR) (tk e (sf rfl pX) (tk e (sl 1 rfl rfl rfl aU) (tk e (sf rfl lD) (tk e (sl 1 rfl rfl rfl aU) ?_))));obtain ⟨E, F, i⟩ := bind_some i;refine tk e (scr Tryz.call110 (aDn _ _ _ F)) (tk e (sn rfl) (to (spf (.b (!E)) e) ?_));have i := Option.some.inj i;subst i;refine aB (aO rfl ⟨rfl, rfl, trivial⟩ rfl)
   ·refine tm (.b q) ?_;obtain ⟨G, n, h⟩ := bind_some h;refine bH 4 [2, 3] 46 G ?_ ?_
    ·refine aW (q) (fun m => ?_) (fun m => ?_)
     ·have n := aK m n;refine tp m (tp m (tp m (to (spt (.b true) m) ?_)));have n := Option.some.inj n;subst n;refine aB (aO rfl ⟨rfl, rfl, trivial⟩ rfl)
     ·have n := aJ m n;refine tk m (sf rfl xS) (tk m (sl 1 rfl rfl rfl aU) (tk m (scm rfl rfl rfl) (to (spf (.b (!decide (o.Old = 0))) m) ?_)));have n := Option.some.inj n;subst n;refine aB (aO rfl ⟨rfl, rfl, trivial⟩ rfl)
    ·refine aB ?_;refine aZ rfl (fun s => ?_) (fun s => ?_)
     ·have h := aK s h;refine aC (aA (ta (.b false) (aB ?_)));have h := Option.some.inj h;subst h;refine bT (bL (bO (l := [4]) ⟨rfl, trivial⟩)) ?_;exact bB ⟨rfl, _, .one _, rfl, rfl⟩
     ·have h := aJ s h;refine aY (aC (aA (to (sf rfl pX) (to (sl 1 rfl rfl rfl aU) (to (scm rfl rfl rfl) (tm (.b (decide (0 < o.Round))) ?_))))));obtain ⟨u, f, h⟩ := bind_some h;refine bH 20 [] 70 u ?_ ?_
      ·refine aW (decide (0 < o.Round)) (fun a => ?_) (fun a => ?_)
       ·have f := aK a f;refine tp a (tp a (tp a (tp a (tp a (tp a (tp a (tp a (tp a (tq (tq (tq (tq (tq ?_)))))))))))));refine tq (tq (tq (tq (tp a (to (spt (.b true) a) ?_)))));have f := Option.some.inj f;subst f;refine aB (aO rfl trivial rfl)
       ·have f := aJ a f;refine tk a (sf rfl dM) (tk a (sl 0 rfl rfl rfl cI) (tk a (sf rfl lD) (tk a (sl 1 rfl rfl rfl aU) (tk a (sar rfl rfl rfl) ?_))));obtain ⟨w, H, f⟩ := bind_some f;refine tk a (six rfl rfl bJ.of (bA aM H)) (tk a (slc rfl aU) (tk a (scm rfl rfl rfl) (tk a (sm (.b (!decide (w = (-1))))) ?_)));obtain ⟨x, j, f⟩ := bind_some f;refine bH 10 [50] 69 x ?_ ?_
        ·refine aW (!decide (w = (-1))) (fun c => ?_) (fun c => ?_)
         ·have j := aK c j;refine tk c (sf rfl dM) (tk c (sl 0 rfl rfl rfl cI) (tk c (sf rfl lD) (tk c (sl 1 rfl rfl rfl aU) (tk c (sar rfl rfl rfl) (tk c (sar rfl rfl rfl) ?_)))));obtain ⟨I, J, j⟩ := bind_some j;refine tk c (six rfl rfl bJ.of (bA aM J)) (tk c (slc rfl aU) (tk c (scm rfl rfl rfl) (tk a (spt (.b (!decide (I = (-1)))) c) ?_)));have j := Option.some.inj j;subst j;refine aB (aO rfl ⟨rfl, trivial⟩ rfl)
         ·have j := aJ c j;refine tp c (tp c (tp c (tp c (tp c (tp c (tp c (tp c (tp c (tk a (spf (.b false) c) ?_)))))))));have j := Option.some.inj j;subst j;refine aB (aO rfl ⟨rfl, trivial⟩ rfl)
        ·refine to (spf (.b x) a) ?_;have f := Option.some.inj f;subst f;refine aB (aO rfl trivial rfl)
      ·refine ta (.b u) (aB ?_);have h := Option.some.inj h;subst h;refine bT (bL (bO (l := [4]) ⟨rfl, trivial⟩)) ?_;exact bB ⟨rfl, _, .one _, rfl, rfl⟩

theorem zI (q : List aF) {r : (List aF)} (h : oB q = some r) : Fn Tryz.prog 42 [.d (.sl 5 (q.map aL))] (.d (.sl 5 (r.map aL))) := by
 unfold oB at h;refine Fn.of_tr Tryz.func42 rfl (rs := [.tmp 2]) Tryz.results42 Tryz.ntmps42 (Nat.le_of_ble_eq_true rfl) ?_;refine aC (aA (to (aCb 5 (aD rfl)) ?_));refine aB (aC (aA (to (iJ 67 5 (.inl rfl) (aD rfl)) ?_)));refine aB (aC (aC (aA (ta (.i 0) (aB (bF ?_))))));refine bY [0] (fun (s2 : Int × (List aF) × Value) => [(3, .d (.lit s2.2.2)), (4, .i s2.1)]) (fun (s2 : Int × (List aF) × Value) => [.arr s2.2.2 67 5 (s2.2.1.map aL)]) (fun (k : Nat) (s2 : Int × (List aF) × Value) => eZ q k s2.1 s2.2.1) (fun _ => rfl) (0, ([] : List aF), (.slice none 0 0)) h (aQ [0] rfl rfl (aI rfl (aI rfl (aN ⟨rfl, trivial⟩)))) ?_;rintro k4 ⟨g, p, w3⟩ h;simp only [eZ] at h;refine aC (aC (aA (tm (.i g) (tm (.d (.sl 5 (q.map aL))) (to (sle rfl hC.of) (to (scm rfl rfl rfl) (aB ?_)))))));refine aZ rfl (fun c5 => ?_) (fun c5 => ?_)
 ·have h := aK c5 h;refine aY (aC (bF (aC (aA (ta (.b false) (aB (aC (aC (aA (ta (.i 0) (aB (bF ?_))))))))))));refine bY [0, 3, 4] (fun (s6 : Bool × Int) => [(5, .b s6.1), (6, .i s6.2)]) (fun (s6 : Bool × Int) => [.arr w3 67 5 (p.map aL)]) (fun (k : Nat) (s6 : Bool × Int) => iS (eZ q k4) q g p k s6.1 s6.2) (fun _ => rfl) (false, 0) h (aQ [0] rfl rfl (aI rfl (aI rfl (aN ⟨rfl, rfl, rfl, trivial⟩)))) ?_;rintro k7 ⟨c, n⟩ h;simp only [iS] at h;refine aC (aC (aA (tm (.i n) (tm (.d (.lit w3)) (to (kA (m := 0) (aD rfl) rfl rfl hC.of) ?_)))));refine to (scm rfl rfl rfl) (aB ?_);refine aZ rfl (fun c8 => ?_) (fun c8 => ?_)
  ·have h := aK c8 h;refine aY (aC (bF ?_));obtain ⟨b9, j, h⟩ := bind_some h;refine cV mix 12 [0, 3, 4, 6] [(30, .b b9)] ?_ ?_
   ·refine aW (c) (fun e => ?_) (fun e => ?_)
    ·have j := aK e j;have j := Option.some.inj j;subst j;refine ⟨[(19, 0, .b c), (20, 1, .b c), (21, 2, .tup []), (22, 3, .tup []), (23, 4, .tup []), (24, 5, .tup []), (25, 6, .tup []), (26, 7, .tup []), (27, 8, .tup []), (28, 9, .tup []), (29, 10, .tup []), (30, 11, .b true)], ?_, ?_⟩
     · exact dok [([], []), ([0], []), ([1], []), ([1], []), ([1, 2, 3], []), ([1, 4], []), ([1], []), ([1], []), ([1, 6, 7], []), ([1, 8], []), ([1, 5, 9], []), ([1, 10], [])] ⟨go (zm (.b c)),
      go (zm (.b c)),
      gp e,
      gp e,
      gp e,
      gp e,
      gp e,
      gp e,
      gp e,
      gp e,
      gp e,
      go (zpt (.b true) e), trivial⟩
     · exact cK (aI rfl (aN ⟨rfl, rfl, rfl, rfl, trivial⟩))
    ·have j := aJ e j;obtain ⟨s, u, j⟩ := bind_some j;obtain ⟨o, y, j⟩ := bind_some j;have j := Option.some.inj j;subst j;refine ⟨[(19, 0, .b c), (20, 1, .b c), (21, 2, .d (.lit w3)), (22, 3, .i n), (23, 4, .ep w3 5 n.toNat 0), (24, 5, .agg (aL s)), (25, 6, .d (.sl 5 (q.map aL))), (26, 7, .i g), (27, 8, .cp [.lit (.int .i64 o.Kind), .lit (.int .i64 o.Round), .lit (.int .i64 o.Place), .lit (.int .i64 o.Player), .lit (.int .i64 o.Old)]), (28, 9, .agg (aL o)), (29, 10, .b (decide (s = o))), (30, 11, .b (decide (s = o)))], ?_, ?_⟩
     · exact dok [([], []), ([0], []), ([1], []), ([1], []), ([1, 2, 3], []), ([1, 4], []), ([1], []), ([1], []), ([1, 6, 7], []), ([1, 8], []), ([1, 5, 9], []), ([1, 10], [])] ⟨go (zm (.b c)),
      go (zm (.b c)),
      gt e (zm (.d (.lit w3))),
      gt e (zm (.i n)),
      gt e (zia 0 rfl rfl rfl hC.of (bA aL u)),
      gt e fun S hS => eG (aD rfl) (aX hS rfl) (l := 0) rfl (dY aL u) lX (es := (aL s)) rfl rfl,
      gt e (zm (.d (.sl 5 (q.map aL)))),
      gt e (zm (.i g)),
      gt e (zix rfl rfl hC.of (bA aL y)),
      gt e (aWj (aL o) rfl lX),
      gt e fun S hS => aNn (a := s) (b := o) (aD rfl) (aX hS rfl) (aX hS rfl) rfl rfl Tryz.eqGuardType67 aOh,
      go (zpf (.b (decide (s = o))) e), trivial⟩
     · exact cK (aI rfl (aN ⟨rfl, rfl, rfl, rfl, trivial⟩))
   ·refine ta (.b b9) ?_;refine cQ ?_;refine aA (tm (.i n) (to (sar rfl rfl rfl) (ta (.i (w64 (n + 1))) (aB ?_))));exact ⟨(b9, w64 (n + 1)), h, aQ [0] rfl rfl (aI rfl (aI rfl (aN ⟨rfl, rfl, rfl, trivial⟩)))⟩
  ·have h := aJ c8 h;refine cB ?_;refine .inl ⟨rfl, ?_⟩;simp only [nU] at h;refine aC (aA (tm (.b c) (to (sn rfl) (aB ?_))));refine aZ rfl (fun t => ?_) (fun t => ?_)
   ·have h := aK t h;refine aA (tm (.d (.lit w3)) (tm (.d (.sl 5 (q.map aL))) (tm (.i g) ?_)));obtain ⟨w, z, h⟩ := bind_some h;refine to (six rfl rfl hC.of (bA aL z)) (to (qH (aL w) rfl lX) (to (fR (aD rfl) hC rfl rfl (rows := ([w]).map aL) rfl (cP (f := aL) fun _ => rfl) rfl (by decide)) ?_));obtain ⟨A, B, h⟩ := bind_some h;refine bE rfl (gP (i := 0) (aD rfl) hC rfl rfl rfl (fun _ => rfl) B rfl) ?_;rintro _ ⟨x, rfl⟩;refine ta (.d (.lit x)) ?_;refine cQ ?_;simp only [lP] at h;refine aA (tm (.i g) (to (sar rfl rfl rfl) (ta (.i (w64 (g + 1))) (aB ?_))));exact ⟨(w64 (g + 1), A, x), h, aQ [0] rfl rfl (aI rfl (aI rfl (aN ⟨rfl, trivial⟩)))⟩
   ·have h := aJ t h;refine cR ?_;simp only [lP] at h;refine aA (tm (.i g) (to (sar rfl rfl rfl) (ta (.i (w64 (g + 1))) (aB ?_))));exact ⟨(w64 (g + 1), p, w3), h, aQ [0] rfl rfl (aI rfl (aI rfl (aN ⟨rfl, trivial⟩)))⟩
 ·have h := aJ c5 h;refine cB ?_;refine .inl ⟨rfl, ?_⟩;simp only [tX] at h;refine aC (aA (tm (.d (.lit w3)) (ta (.d (.lit w3)) (aB ?_))));have h := Option.some.inj h;subst h;refine bT (bL (wD (k := 2) (v := .d (.sl 5 (p.map aL))) (.d (nV 0 rfl (cP (f := aL) fun _ => rfl))) (aCq))) ?_;exact bB ⟨rfl, _, .one _, rfl, rfl⟩

theorem aKd (c : List Int) (e : Int) {r : Bool} (h : sV c e = some r) : Fn Tryz.prog 43 [.d (.sl 1 (c.map aM)), .i e] (.b r) := by
 unfold sV at h;refine Fn.of_tr Tryz.func43 rfl (rs := [.tmp 4]) Tryz.results43 Tryz.ntmps43 (Nat.le_of_ble_eq_true rfl) ?_;refine aC (aA (ta (.b false) (aB (aC (aC (aA (ta (.i 0) (aB (bF ?_)))))))));refine bY [0, 1] (fun (s1 : Int) => [(5, .i s1)]) (fun (s1 : Int) => []) (fun (k : Nat) (s1 : Int) => lC c e k s1) (fun _ => rfl) (0) h (aQ [] rfl rfl (aI rfl (aN ⟨rfl, rfl, trivial⟩))) ?_;rintro k2 a h;simp only [lC] at h;refine aC (aC (aA (tm (.i a) (tm (.d (.sl 1 (c.map aM))) (to (sle rfl bJ.of) (to (scm rfl rfl rfl) (aB ?_)))))));refine aZ rfl (fun c3 => ?_) (fun c3 => ?_)
 ·have h := aK c3 h;refine aY (aC (bF (aC (aA (tm (.d (.sl 1 (c.map aM))) (tm (.i a) ?_))))));obtain ⟨x4, h5, h⟩ := bind_some h;refine to (six rfl rfl bJ.of (bA aM h5)) (to (slc rfl aU) (tm (.i e) (to (scm rfl rfl rfl) (aB ?_))));refine aZ rfl (fun c6 => ?_) (fun c6 => ?_)
  ·have h := aK c6 h;refine aC (aA (ta (.b true) (aB ?_)));have h := Option.some.inj h;subst h;exact bB ⟨rfl, _, .one _, rfl, rfl⟩
  ·have h := aJ c6 h;refine cR ?_;refine aA (tm (.i a) (to (sar rfl rfl rfl) (ta (.i (w64 (a + 1))) (aB ?_))));exact ⟨(w64 (a + 1)), h, aQ [] rfl rfl (aI rfl (aN ⟨rfl, rfl, trivial⟩))⟩
 ·have h := aJ c3 h;refine cB ?_;refine .inl ⟨rfl, ?_⟩;simp only [vQ] at h;refine aC (aA (ta (.b false) (aB ?_)));have h := Option.some.inj h;subst h;exact bB ⟨rfl, _, .one _, rfl, rfl⟩

theorem aDo (x : aV) (N : List aF) {r : (List Int) × Bool} (h : nT x N = some r) : Fn Tryz.prog 16 [.agg (bC x), .d (.sl 5 (N.map aL))] (.tup [.d (.sl 1 (r.1.map aM)), .b r.2]) := by
 unfold nT at h;refine Fn.of_tr Tryz.func16 rfl (rs := [.tmp 4, .tmp 5]) Tryz.results16 Tryz.ntmps16 (Nat.le_of_ble_eq_true rfl) ?_;refine aC (aA ?_);refine bE rfl (dN (v := .agg (bC x)) (aD rfl) rfl rfl rfl) ?_;rintro _ ⟨b1, rfl⟩;refine to (aCb 1 (aD rfl)) ?_;refine ta (.b false) (aB (aC (aA (tm (.d (.sl 5 (N.map aL))) ?_))));obtain ⟨r2, h3, h⟩ := bind_some h;refine to (fB (aD rfl) (.func _ _ Tryz.call42) rfl rfl (zI _ h3)) ?_;refine ta (.d (.sl 5 (r2.map aL))) (aB (aC (aA ?_)));refine bE rfl (aHg (aD rfl) bJ rfl rfl (rows := (([] : List Int)).map aM) rfl (cP (f := aM) fun _ => rfl) rfl (by decide)) ?_;rintro _ ⟨v4, rfl⟩;refine to (sf rfl dM) (to (sl 0 rfl rfl rfl cI) ?_);obtain ⟨x5, h6, h⟩ := bind_some h;refine bE rfl (gP (i := 1) (aD rfl) bJ rfl rfl rfl (fun _ => rfl) h6 rfl) ?_;rintro _ ⟨v7, rfl⟩;refine ta (.d (.lit v7)) (aB (aC (aA (to (iJ 3 1 (.inl rfl) (aD rfl)) ?_))));refine aB (aC (aA (ta (.i 0) (aB (aC (aC (aA (ta (.i 0) (aB (bF ?_))))))))));refine bY [2, 6] (fun (s9 : Int × Int × (List Int) × (List Int) × Value × Value) => [(7, .d (.lit s9.2.2.2.2.2)), (8, .d (.lit s9.2.2.2.2.1)), (9, .i s9.1), (10, .i s9.2.1)]) (fun (s9 : Int × Int × (List Int) × (List Int) × Value × Value) => [.box b1 0 (bC x), .arr s9.2.2.2.2.1 3 1 (s9.2.2.1.map aM), .arr s9.2.2.2.2.2 3 1 (s9.2.2.2.1.map aM)]) (fun (k : Nat) (s9 : Int × Int × (List Int) × (List Int) × Value × Value) => eO r2 x k s9.1 s9.2.1 s9.2.2.1 s9.2.2.2.1) (fun _ => rfl) (0, 0, ([] : List Int), x5, (.slice none 0 0), v7) h (aQ [0, 2, 1] rfl rfl (aI rfl (aI rfl (aI rfl (aI rfl (aN ⟨rfl, rfl, trivial⟩)))))) ?_;rintro O ⟨F, q, e, M, H, b0⟩ h;simp only [eO] at h;refine aC (aC (aA (tm (.i q) (to (sf rfl dM) (to (sl 0 rfl rfl rfl cI) (to (sle rfl bJ.of) (to (scm rfl rfl rfl) (aB ?_))))))));refine aZ rfl (fun P => ?_) (fun P => ?_)
 ·have h := aK P h;refine aY (aC (bF (aC (aA (to (sf rfl dM) (to (sl 0 rfl rfl rfl cI) (tm (.i q) ?_)))))));obtain ⟨a0, b2, h⟩ := bind_some h;refine to (six rfl rfl bJ.of (bA aM b2)) (to (slc rfl aU) (ta (.i a0) (aB (aC (aC (aA (ta (.b true) (aB (bF ?_)))))))));refine bY [2, 6, 8, 10] (fun (z : Int × Int × Bool × (List Int) × Value) => [(7, .d (.lit z.2.2.2.2)), (9, .i z.1), (11, .i z.2.1), (12, .b z.2.2.1)]) (fun (z : Int × Int × Bool × (List Int) × Value) => [.box b1 0 (bC x), .arr H 3 1 (e.map aM), .arr z.2.2.2.2 3 1 (z.2.2.2.1.map aM)]) (fun (k : Nat) (z : Int × Int × Bool × (List Int) × Value) => gN (eO r2 x O) r2 q x e k z.1 z.2.1 z.2.2.1 z.2.2.2.1) (fun _ => rfl) (F, a0, true, M, b0) h (aQ [0, 1, 2] rfl rfl (aI rfl (aI rfl (aI rfl (aI rfl (aN ⟨rfl, rfl, rfl, rfl, trivial⟩)))))) ?_;rintro b3 ⟨g, p, J, y, K⟩ h;simp only [gN] at h;refine aC (aC (aA (tm (.b J) (aB ?_))));refine aZ rfl (fun Q => ?_) (fun Q => ?_)
  ·have h := aK Q h;refine aY (bF (aC (aA (ta (.b false) (aB (aC (aA (to (iJ 3 1 (.inl rfl) (aD rfl)) ?_))))))));refine aB (aC (aC (aA (ta (.i 0) (aB (bF ?_))))));refine bY [2, 6, 7, 8, 9, 10, 11, 12] (fun (E : Int × (List Int) × Value) => [(13, .d (.lit E.2.2)), (14, .i E.1)]) (fun (E : Int × (List Int) × Value) => [.box b1 0 (bC x), .arr H 3 1 (e.map aM), .arr E.2.2 3 1 (E.2.1.map aM), .arr K 3 1 (y.map aM)]) (fun (k : Nat) (E : Int × (List Int) × Value) => fK (eO r2 x O) (gN (eO r2 x O) r2 q x e b3) r2 g q p false x e y k E.1 E.2.1) (fun _ => rfl) (0, ([] : List Int), (.slice none 0 0)) h (aQ [0, 1, 3, 2] rfl rfl (aI rfl (aI rfl (aN ⟨rfl, rfl, rfl, rfl, rfl, rfl, rfl, rfl, trivial⟩)))) ?_;rintro d0 ⟨a, j, G⟩ h;simp only [fK] at h;refine aC (aC (aA (tm (.i a) (tm (.d (.sl 5 (r2.map aL))) (to (sle rfl hC.of) (to (scm rfl rfl rfl) (aB ?_)))))));refine aZ rfl (fun S => ?_) (fun S => ?_)
   ·have h := aK S h;refine aY (aC (bF (aC (aA (tm (.d (.sl 5 (r2.map aL))) (tm (.i a) ?_))))));obtain ⟨T, b4, h⟩ := bind_some h;refine to (six rfl rfl hC.of (bA aL b4)) (to (sfc [.lit (.int .i64 T.Kind)] rfl oH) (to (slc rfl aU) (to (scm rfl rfl rfl) (tm (.b (decide (T.Kind = 5))) ?_))));obtain ⟨U, A, h⟩ := bind_some h;refine bH 8 [2, 6, 7, 8, 9, 10, 11, 12, 13, 14] 55 U ?_ ?_
    ·refine aW (decide (T.Kind = 5)) (fun n => ?_) (fun n => ?_)
     ·have A := aK n A;refine tk n (sm (.d (.sl 5 (r2.map aL)))) (tk n (sm (.i a)) ?_);obtain ⟨a1, b5, A⟩ := bind_some A;refine tk n (six rfl rfl hC.of (bA aL b5)) (tk n (sfc [.lit (.int .i64 a1.Place)] rfl lD) (tk n (slc rfl aU) (tk n (sm (.i q)) (tk n (scm rfl rfl rfl) (to (spt (.b (decide (a1.Place = q))) n) ?_)))));have A := Option.some.inj A;subst A;refine aB (aO rfl ⟨rfl, rfl, rfl, rfl, rfl, rfl, rfl, rfl, rfl, rfl, trivial⟩ rfl)
     ·have A := aJ n A;refine tp n (tp n (tp n (tp n (tp n (tp n (tp n (to (spf (.b false) n) ?_)))))));have A := Option.some.inj A;subst A;refine aB (aO rfl ⟨rfl, rfl, rfl, rfl, rfl, rfl, rfl, rfl, rfl, rfl, trivial⟩ rfl)
    ·refine tm (.b U) ?_;obtain ⟨b6, B, h⟩ := bind_some h;refine bH 8 [2, 6, 7, 8, 9, 10, 11, 12, 13, 14] 64 b6 ?_ ?_
     ·refine aW (U) (fun o => ?_) (fun o => ?_)
      ·have B := aK o B;refine tk o (sm (.d (.sl 5 (r2.map aL)))) (tk o (sm (.i a)) ?_);obtain ⟨a2, b7, B⟩ := bind_some B;refine tk o (six rfl rfl hC.of (bA aL b7)) (tk o (sfc [.lit (.int .i64 a2.Old)] rfl xS) (tk o (slc rfl aU) (tk o (sm (.i p)) (tk o (scm rfl rfl rfl) (to (spt (.b (decide (a2.Old = p))) o) ?_)))));have B := Option.some.inj B;subst B;refine aB (aO rfl ⟨rfl, rfl, rfl, rfl, rfl, rfl, rfl, rfl, rfl, rfl, trivial⟩ rfl)
      ·have B := aJ o B;refine tp o (tp o (tp o (tp o (tp o (tp o (tp o (to (spf (.b false) o) ?_)))))));have B := Option.some.inj B;subst B;refine aB (aO rfl ⟨rfl, rfl, rfl, rfl, rfl, rfl, rfl, rfl, rfl, rfl, trivial⟩ rfl)
     ·refine aB ?_;refine aZ rfl (fun V => ?_) (fun V => ?_)
      ·have h := aK V h;refine aA (tm (.d (.lit G)) (tm (.d (.sl 5 (r2.map aL))) (tm (.i a) ?_)));obtain ⟨a3, b8, h⟩ := bind_some h;refine to (six rfl rfl hC.of (bA aL b8)) (to (sfc [.lit (.int .i64 a3.Player)] rfl oI) (to (slc rfl aU) (to (fR (aD rfl) bJ rfl rfl (rows := ([a3.Player]).map aM) rfl (cP (f := aM) fun _ => rfl) rfl (by decide)) ?_)));obtain ⟨b9, c0, h⟩ := bind_some h;refine bE rfl (gP (i := 2) (aD rfl) bJ rfl rfl rfl (fun _ => rfl) c0 rfl) ?_;rintro _ ⟨a4, rfl⟩;refine ta (.d (.lit a4)) ?_;refine cQ ?_;refine aA (tm (.i a) (to (sar rfl rfl rfl) (ta (.i (w64 (a + 1))) (aB ?_))));exact ⟨(w64 (a + 1), b9, a4), h, aQ [0, 1, 2, 3] rfl rfl (aI rfl (aI rfl (aN ⟨rfl, rfl, rfl, rfl, rfl, rfl, rfl, rfl, trivial⟩)))⟩
      ·have h := aJ V h;refine cR ?_;refine aA (tm (.i a) (to (sar rfl rfl rfl) (ta (.i (w64 (a + 1))) (aB ?_))));exact ⟨(w64 (a + 1), j, G), h, aQ [0, 1, 2, 3] rfl rfl (aI rfl (aI rfl (aN ⟨rfl, rfl, rfl, rfl, rfl, rfl, rfl, rfl, trivial⟩)))⟩
   ·have h := aJ S h;refine cB ?_;refine .inl ⟨rfl, ?_⟩;simp only [lL] at h;refine aC (aC (aA (tm (.d (.lit G)) (to (kA (m := 2) (aD rfl) rfl rfl bJ.of) ?_))));refine to (scm rfl rfl rfl) (tm (.b (decide (1 < (j.length : Int)))) ?_);obtain ⟨c1, C, h⟩ := bind_some h;refine bH 11 [2, 6, 7, 8, 9, 10, 11, 12, 13] 87 c1 ?_ ?_
    ·refine aW (decide (1 < (j.length : Int))) (fun t => ?_) (fun t => ?_)
     ·have C := aK t C;refine tp t (tp t (tp t (tp t (tq (tq (tq (tq (tq (tp t (to (spt (.b true) t) ?_))))))))));have C := Option.some.inj C;subst C;refine aB (aO rfl ⟨rfl, rfl, rfl, rfl, rfl, rfl, rfl, rfl, rfl, trivial⟩ rfl)
     ·have C := aJ t C;refine tk t (sm (.d (.lit G))) (tk t (kA (m := 2) (aD rfl) rfl rfl bJ.of) ?_);refine tk t (scm rfl rfl rfl) (tk t (sm (.b (decide ((j.length : Int) = 1)))) ?_);obtain ⟨a5, w, C⟩ := bind_some C;refine bH 6 [2, 6, 7, 8, 9, 10, 11, 12, 13, 76, 77, 78, 79, 80] 86 a5 ?_ ?_
      ·refine aW (decide ((j.length : Int) = 1)) (fun u => ?_) (fun u => ?_)
       ·have w := aK u w;refine tk u (sm (.d (.lit K))) (tk u (sm (.d (.lit G))) ?_);obtain ⟨d1, a6, w⟩ := bind_some w;refine tk u (dL (m := 2) (aD rfl) rfl rfl rfl bJ.of (bA aM a6)) ?_;refine tk u (iU (aD rfl) rfl (m := 2) rfl (dY aM a6) rfl aU) ?_;obtain ⟨c2, c3, w⟩ := bind_some w;refine tk u (sc Tryz.call43 (aKd _ _ c3) (.cons (.d (nV 3 rfl (cP (f := aM) fun _ => rfl))) (.cons (.same _) .nil))) (tk t (spt (.b c2) u) ?_);have w := Option.some.inj w;subst w;refine aB (aO rfl ⟨rfl, rfl, rfl, rfl, rfl, rfl, rfl, rfl, rfl, rfl, rfl, rfl, rfl, rfl, trivial⟩ rfl)
       ·have w := aJ u w;refine tp u (tp u (tp u (tp u (tp u (tk t (spf (.b false) u) ?_)))));have w := Option.some.inj w;subst w;refine aB (aO rfl ⟨rfl, rfl, rfl, rfl, rfl, rfl, rfl, rfl, rfl, rfl, rfl, rfl, rfl, rfl, trivial⟩ rfl)
      ·refine to (spf (.b a5) t) ?_;have C := Option.some.inj C;subst C;refine aB (aO rfl ⟨rfl, rfl, rfl, rfl, rfl, rfl, rfl, rfl, rfl, trivial⟩ rfl)
    ·refine aB ?_;refine aZ rfl (fun W => ?_) (fun W => ?_)
     ·have h := aK W h;refine aC (aA (to (aCb 1 (aD rfl)) ?_));refine ta (.b false) (aB ?_);have h := Option.some.inj h;subst h;refine bT (bL (bO (l := [4, 5]) ⟨rfl, rfl, trivial⟩)) ?_;exact bB ⟨rfl, _, .two _ _, rfl, rfl⟩
     ·have h := aJ W h;refine aY (aC (aA (tm (.d (.lit G)) (to (kA (m := 2) (aD rfl) rfl rfl bJ.of) ?_))));refine to (scm rfl rfl rfl) (aB ?_);refine aZ rfl (fun X => ?_) (fun X => ?_)
      ·have h := aK X h;refine aC (aA (tm (.d (.lit G)) ?_));obtain ⟨L, a7, h⟩ := bind_some h;refine to (dL (m := 2) (aD rfl) rfl rfl rfl bJ.of (bA aM a7)) ?_;refine to (iU (aD rfl) rfl (m := 2) rfl (dY aM a7) rfl aU) ?_;refine ta (.i L) (aB (aC (aA (tm (.d (.lit K)) (tm (.i L) (to (fR (aD rfl) bJ rfl rfl (rows := ([L]).map aM) rfl (cP (f := aM) fun _ => rfl) rfl (by decide)) ?_))))));obtain ⟨c4, c5, h⟩ := bind_some h;refine bE rfl (gP (i := 3) (aD rfl) bJ rfl rfl rfl (fun _ => rfl) c5 rfl) ?_;rintro _ ⟨a8, rfl⟩;refine ta (.d (.lit a8)) (aB (aC (aA (tm (.i g) (to (sar rfl rfl rfl) (ta (.i (w64 (g + 1))) (aB (aA (ta (.b true) ?_)))))))));refine cQ ?_;simp only [jP] at h;exact ⟨(w64 (g + 1), L, true, c4, a8), h, aQ [0, 1, 3] rfl rfl (aI rfl (aI rfl (aI rfl (aI rfl (aN ⟨rfl, rfl, rfl, rfl, trivial⟩)))))⟩
      ·have h := aJ X h;refine cR ?_;simp only [jP] at h;exact ⟨(g, p, false, y, K), h, aQ [0, 1, 3] rfl rfl (aI rfl (aI rfl (aI rfl (aI rfl (aN ⟨rfl, rfl, rfl, rfl, trivial⟩)))))⟩
  ·have h := aJ Q h;refine cB ?_;refine .inl ⟨rfl, ?_⟩;simp only [oA] at h;refine aA (tm (.d (.lit H)) (tm (.i p) (to (fR (aD rfl) bJ rfl rfl (rows := ([p]).map aM) rfl (cP (f := aM) fun _ => rfl) rfl (by decide)) ?_)));obtain ⟨c6, c7, h⟩ := bind_some h;refine bE rfl (gP (i := 1) (aD rfl) bJ rfl rfl rfl (fun _ => rfl) c7 rfl) ?_;rintro _ ⟨a9, rfl⟩;refine ta (.d (.lit a9)) ?_;refine cQ ?_;simp only [rP] at h;refine aA (tm (.i q) (to (sar rfl rfl rfl) (ta (.i (w64 (q + 1))) (aB ?_))));exact ⟨(g, w64 (q + 1), c6, y, a9, K), h, aQ [0, 1, 2] rfl rfl (aI rfl (aI rfl (aI rfl (aI rfl (aN ⟨rfl, rfl, trivial⟩)))))⟩
 ·have h := aJ P h;refine cB ?_;refine .inl ⟨rfl, ?_⟩;simp only [rO] at h;refine aC (aC (aA (ta (.i 0) (aB (bF ?_)))));refine bY [6, 8] (fun (I : Int × Int) => [(9, .i I.1), (15, .i I.2)]) (fun (I : Int × Int) => [.arr H 3 1 (e.map aM)]) (fun (k : Nat) (I : Int × Int) => fL r2 e k I.1 I.2) (fun _ => rfl) (F, 0) h (aQ [1] rfl rfl (aI rfl (aI rfl (aN ⟨rfl, rfl, trivial⟩)))) ?_;rintro d2 ⟨c, s⟩ h;simp only [fL] at h;refine aC (aC (aA (tm (.i s) (tm (.d (.sl 5 (r2.map aL))) (to (sle rfl hC.of) (to (scm rfl rfl rfl) (aB ?_)))))));refine aZ rfl (fun Y => ?_) (fun Y => ?_)
  ·have h := aK Y h;refine aY (aC (bF (aC (aA (tm (.d (.sl 5 (r2.map aL))) (tm (.i s) ?_))))));obtain ⟨c8, c9, h⟩ := bind_some h;refine to (six rfl rfl hC.of (bA aL c9)) (to (sfc [.lit (.int .i64 c8.Kind)] rfl oH) (to (slc rfl aU) (to (scm rfl rfl rfl) (aB ?_))));refine aZ rfl (fun Z => ?_) (fun Z => ?_)
   ·have h := aK Z h;refine aA (tm (.i c) (to (sar rfl rfl rfl) (ta (.i (w64 (c - 1))) ?_)));refine cQ ?_;refine aA (tm (.i s) (to (sar rfl rfl rfl) (ta (.i (w64 (s + 1))) (aB ?_))));exact ⟨(w64 (c - 1), w64 (s + 1)), h, aQ [0] rfl rfl (aI rfl (aI rfl (aN ⟨rfl, rfl, trivial⟩)))⟩
   ·have h := aJ Z h;refine cR ?_;refine aA (tm (.i s) (to (sar rfl rfl rfl) (ta (.i (w64 (s + 1))) (aB ?_))));exact ⟨(c, w64 (s + 1)), h, aQ [0] rfl rfl (aI rfl (aI rfl (aN ⟨rfl, rfl, trivial⟩)))⟩
  ·have h := aJ Y h;refine cB ?_;refine .inl ⟨rfl, ?_⟩;simp only [rQ] at h;refine aC (aA (tm (.d (.lit H)) (tm (.i c) (to (scm rfl rfl rfl) (ta (.d (.lit H)) (ta (.b (decide (c = 0))) (aB ?_)))))));have h := Option.some.inj h;subst h;refine bT (bL (wD (k := 5) (v := .b (decide (c = 0))) (.same _) (wD (k := 4) (v := .d (.sl 1 (e.map aM))) (.d (nV 0 rfl (cP (f := aM) fun _ => rfl))) (aCq)))) ?_;exact bB ⟨rfl, _, .two _ _, rfl, rfl⟩

theorem zH (E : aV) (a0 : List aF) {r : aS × Bool} (h : fM E a0 = some r) : Fn Tryz.prog 85 [.agg (bC E), .d (.sl 5 (a0.map aL))] (.tup [.agg (bN r.1), .b r.2]) := by
 unfold fM at h;refine gV Tryz.func85 rfl (rs := [.cell 4 126, .tmp 5]) Tryz.results85 Tryz.ntmps85 (Nat.le_of_ble_eq_true rfl) ?_;refine aC (aA ?_);refine bE rfl (dN (v := .agg (bC E)) (aD rfl) rfl rfl rfl) ?_;rintro _ ⟨b1, rfl⟩;refine bE rfl (cM (zs := [.sl 1 ((([] : List Int)).map aM), .sl 1 ((([] : List (List Int))).map iV)]) (aD rfl) Tryz.zeroValue126 rfl rfl) ?_;rintro _ ⟨b2, rfl⟩;refine ta (.b false) (aB (aC (aA (to (sla 0 (bC E) rfl rfl jR) (tm (.d (.sl 5 (a0.map aL))) ?_)))));obtain ⟨r3, h4, h⟩ := bind_some h;refine to (fB (aD rfl) (.func _ _ Tryz.call16) rfl rfl (aDo _ _ h4)) ?_;refine tm (.tup [.d (.sl 1 (r3.1.map aM)), .b r3.2]) (to (sex rfl rfl) (to (sex rfl rfl) (ta (.d (.sl 1 (r3.1.map aM))) (ta (.b r3.2) (aB (aC (aC (aA (tm (.b r3.2) (to (sn rfl) (aB ?_)))))))))));refine aZ rfl (fun c5 => ?_) (fun c5 => ?_)
 ·have h := aK c5 h;refine aC (aA (to (dE (aD rfl) aDf (zs := [.sl 1 ((([] : List Int)).map aM), .sl 1 ((([] : List (List Int))).map iV)]) rfl rfl rfl rfl (es := [.sl 1 ((([] : List Int)).map aM), .sl 1 ((([] : List (List Int))).map iV)]) rfl) ?_));refine to (sst 1 rfl rfl Tryz.sizeOf126 (bN (aS.mk ([] : List Int) ([] : List (List Int))))) (ta (.b false) (aB ?_));have h := Option.some.inj h;subst h;exact bB ⟨rfl, _, [.box b1 0 (bC E), .box b2 0 (bN (aS.mk ([] : List Int) ([] : List (List Int))))], .two (.cell 4 126 rfl (i := 1) rfl uR (es := (bN (aS.mk ([] : List Int) ([] : List (List Int))))) rfl rfl) (.tmp 5 (v := .b false) rfl), .refl _, .same _⟩
 ·have h := aJ c5 h;refine aY (aC (aA (tm (.d (.sl 1 (r3.1.map aM))) (to (dE (aD rfl) aDf (zs := [.sl 1 ((([] : List Int)).map aM), .lit (.slice none 0 0)]) rfl rfl rfl rfl (es := [.sl 1 (r3.1.map aM), .lit (.slice none 0 0)]) rfl) ?_))));refine bE rfl (cM (zs := [.sl 1 ((([] : List Int)).map aM), .lit (.slice none 0 0)]) (aD rfl) Tryz.zeroValue126 rfl rfl) ?_;rintro _ ⟨b6, rfl⟩;refine sC (aRs 22 1) ?_;refine sC (aRt 3 1) ?_;refine to (sst 2 rfl rfl Tryz.sizeOf126 [.sl 1 (r3.1.map aM), .lit (.slice none 0 0)]) (aB (aC (aC (aA (ta (.i 0) (aB (bF ?_)))))));refine bY [1, 2, 4, 6, 8] (fun (s7 : Int × (List (List Int)) × (List Int) × (List Value) × Value) => [(9, .i s7.1)]) (fun (s7 : Int × (List (List Int)) × (List Int) × (List Value) × Value) => [.box b1 0 (bC E), .box b2 0 (bN (aS.mk ([] : List Int) ([] : List (List Int)))), .fam 3 1 s7.2.2.2.1 (s7.2.1.map fun r => r.map aM), .arr s7.2.2.2.2 22 1 (s7.2.2.2.1.map fun v => [.lit v]), .box b6 0 [.sl 1 (s7.2.2.1.map aM), .lit s7.2.2.2.2]]) (fun (k : Nat) (s7 : Int × (List (List Int)) × (List Int) × (List Value) × Value) => gZ a0 r3.1 E (aS.mk ([] : List Int) ([] : List (List Int))) k s7.1 s7.2.1 s7.2.2.1) (fun _ => rfl) (0, ([] : List (List Int)), r3.1, [], (.slice none 0 0)) h (aQ [0, 1, 4, 3, 2] rfl rfl (aI rfl (aN ⟨rfl, rfl, rfl, rfl, rfl, trivial⟩))) ?_;rintro e7 ⟨p, Z, e, W, w9⟩ h;simp only [gZ] at h;refine aC (aC (aA (tm (.i p) (to (sf rfl fI) (to (sl 0 rfl rfl rfl aU) (to (scm rfl rfl rfl) (aB ?_)))))));refine aZ rfl (fun b4 => ?_) (fun b4 => ?_)
  ·have h := aK b4 h;refine aY (aC (bF (aC (aA (to (iJ 3 1 (.inl rfl) (aD rfl)) ?_)))));refine aB (aC (aC (aA (ta (.i 0) (aB (bF ?_))))));refine bY [1, 2, 4, 6, 8, 9] (fun (X : Int × (List Int) × Value) => [(10, .d (.lit X.2.2)), (11, .i X.1)]) (fun (X : Int × (List Int) × Value) => [.box b1 0 (bC E), .box b2 0 (bN (aS.mk ([] : List Int) ([] : List (List Int)))), .fam 3 1 W (Z.map fun r => r.map aM), .arr w9 22 1 (W.map fun v => [.lit v]), .box b6 0 [.sl 1 (e.map aM), .lit w9], .arr X.2.2 3 1 (X.2.1.map aM)]) (fun (k : Nat) (X : Int × (List Int) × Value) => eY (gZ a0 r3.1 E (aS.mk ([] : List Int) ([] : List (List Int))) e7) a0 r3.1 p E (aS.mk ([] : List Int) ([] : List (List Int))) Z e k X.1 X.2.1) (fun _ => rfl) (0, ([] : List Int), (.slice none 0 0)) h (aQ [0, 1, 2, 3, 4, 5] rfl rfl (aI rfl (aI rfl (aN ⟨rfl, rfl, rfl, rfl, rfl, rfl, trivial⟩)))) ?_;rintro i1 ⟨j, e4, N⟩ h;simp only [eY] at h;refine aC (aC (aA (tm (.i j) (to (sla 0 (bC E) rfl rfl jR) (tm (.i p) ?_)))));obtain ⟨i2, e8, h⟩ := bind_some h;refine to (scr Tryz.call44 (xL _ _ e8)) (to (scm rfl rfl rfl) (aB ?_));refine aZ rfl (fun b5 => ?_) (fun b5 => ?_)
   ·have h := aK b5 h;refine aY (aC (bF (aC (aA (ta (.i (-2)) (aB (aC (aC (aA (tm (.i p) (to (scm rfl rfl rfl) (tm (.b (decide (p = 0))) ?_))))))))))));obtain ⟨e9, F, h⟩ := bind_some h;refine bH 7 [1, 2, 4, 6, 8, 9, 10, 11, 12] 55 e9 ?_ ?_
    ·refine aW (decide (p = 0)) (fun y => ?_) (fun y => ?_)
     ·have F := aK y F;refine tk y (sm (.d (.sl 1 (r3.1.map aM)))) (tk y (sm (.i j)) (tk y (sar rfl rfl rfl) ?_));obtain ⟨f0, f1, F⟩ := bind_some F;refine tk y (six rfl rfl bJ.of (bA aM f1)) (tk y (slc rfl aU) (tk y (scm rfl rfl rfl) (to (spt (.b (decide (f0 = (-1)))) y) ?_)));have F := Option.some.inj F;subst F;refine aB (aO rfl ⟨rfl, rfl, rfl, rfl, rfl, rfl, rfl, rfl, rfl, trivial⟩ rfl)
     ·have F := aJ y F;refine tp y (tp y (tp y (tp y (tp y (tp y (to (spf (.b false) y) ?_))))));have F := Option.some.inj F;subst F;refine aB (aO rfl ⟨rfl, rfl, rfl, rfl, rfl, rfl, rfl, rfl, rfl, trivial⟩ rfl)
    ·refine aB ?_;refine aZ rfl (fun b7 => ?_) (fun b7 => ?_)
     ·have h := aK b7 h;refine aA (tm (.d (.sl 1 (r3.1.map aM))) (tm (.i j) (to (sar rfl rfl rfl) (to (sar rfl rfl rfl) ?_))));obtain ⟨b8, f2, h⟩ := bind_some h;refine to (six rfl rfl bJ.of (bA aM f2)) (to (slc rfl aU) (ta (.i b8) (aB (aC (aC (aA (tm (.i p) (to (scm rfl rfl rfl) (tm (.b (decide (p = 0))) ?_)))))))));obtain ⟨f3, G, h⟩ := bind_some h;refine bH 8 [1, 2, 4, 6, 8, 9, 10, 11, 12] 72 f3 ?_ ?_
      ·refine aW (decide (p = 0)) (fun t => ?_) (fun t => ?_)
       ·have G := aK t G;refine tk t (sm (.d (.sl 1 (r3.1.map aM)))) (tk t (sm (.i j)) (tk t (sar rfl rfl rfl) (tk t (sar rfl rfl rfl) ?_)));obtain ⟨f4, f5, G⟩ := bind_some G;refine tk t (six rfl rfl bJ.of (bA aM f5)) (tk t (slc rfl aU) (tk t (scm rfl rfl rfl) (to (spt (.b (decide (f4 = (-1)))) t) ?_)));have G := Option.some.inj G;subst G;refine aB (aO rfl ⟨rfl, rfl, rfl, rfl, rfl, rfl, rfl, rfl, rfl, trivial⟩ rfl)
       ·have G := aJ t G;refine tp t (tp t (tp t (tp t (tp t (tp t (tp t (to (spf (.b false) t) ?_)))))));have G := Option.some.inj G;subst G;refine aB (aO rfl ⟨rfl, rfl, rfl, rfl, rfl, rfl, rfl, rfl, rfl, trivial⟩ rfl)
      ·refine aB ?_;refine aZ rfl (fun b9 => ?_) (fun b9 => ?_)
       ·have h := aK b9 h;refine aA (tm (.d (.sl 1 (r3.1.map aM))) (tm (.i j) (to (sar rfl rfl rfl) ?_)));obtain ⟨c0, f6, h⟩ := bind_some h;refine to (six rfl rfl bJ.of (bA aM f6)) (to (slc rfl aU) (ta (.i c0) (aB (aA (tm (.d (.lit N)) (tm (.i c0) (to (fR (aD rfl) bJ rfl rfl (rows := ([c0]).map aM) rfl (cP (f := aM) fun _ => rfl) rfl (by decide)) ?_)))))));obtain ⟨f7, f8, h⟩ := bind_some h;refine bE rfl (gP (i := 5) (aD rfl) bJ rfl rfl rfl (fun _ => rfl) f8 rfl) ?_;rintro _ ⟨d8, rfl⟩;refine ta (.d (.lit d8)) ?_;refine cQ ?_;refine aA (tm (.i j) (to (sar rfl rfl rfl) (ta (.i (w64 (j + 1))) (aB ?_))));exact ⟨(w64 (j + 1), f7, d8), h, aQ [0, 1, 2, 3, 4, 5] rfl rfl (aI rfl (aI rfl (aN ⟨rfl, rfl, rfl, rfl, rfl, rfl, trivial⟩)))⟩
       ·have h := aJ b9 h;refine aY (aA (tm (.d (.lit N)) (tm (.i b8) (to (fR (aD rfl) bJ rfl rfl (rows := ([b8]).map aM) rfl (cP (f := aM) fun _ => rfl) rfl (by decide)) ?_))));obtain ⟨f9, g0, h⟩ := bind_some h;refine bE rfl (gP (i := 5) (aD rfl) bJ rfl rfl rfl (fun _ => rfl) g0 rfl) ?_;rintro _ ⟨d9, rfl⟩;refine ta (.d (.lit d9)) ?_;refine cQ ?_;refine aA (tm (.i j) (to (sar rfl rfl rfl) (ta (.i (w64 (j + 1))) (aB ?_))));exact ⟨(w64 (j + 1), f9, d9), h, aQ [0, 1, 2, 3, 4, 5] rfl rfl (aI rfl (aI rfl (aN ⟨rfl, rfl, rfl, rfl, rfl, rfl, trivial⟩)))⟩
     ·have h := aJ b7 h;refine aY (aC (aC (aA (tm (.i p) (to (scm rfl rfl rfl) (tm (.b (decide (p = 0))) ?_))))));obtain ⟨g1, H, h⟩ := bind_some h;refine bH 8 [1, 2, 4, 6, 8, 9, 10, 11, 12] 72 g1 ?_ ?_
      ·refine aW (decide (p = 0)) (fun u => ?_) (fun u => ?_)
       ·have H := aK u H;refine tk u (sm (.d (.sl 1 (r3.1.map aM)))) (tk u (sm (.i j)) (tk u (sar rfl rfl rfl) (tk u (sar rfl rfl rfl) ?_)));obtain ⟨g2, g3, H⟩ := bind_some H;refine tk u (six rfl rfl bJ.of (bA aM g3)) (tk u (slc rfl aU) (tk u (scm rfl rfl rfl) (to (spt (.b (decide (g2 = (-1)))) u) ?_)));have H := Option.some.inj H;subst H;refine aB (aO rfl ⟨rfl, rfl, rfl, rfl, rfl, rfl, rfl, rfl, rfl, trivial⟩ rfl)
       ·have H := aJ u H;refine tp u (tp u (tp u (tp u (tp u (tp u (tp u (to (spf (.b false) u) ?_)))))));have H := Option.some.inj H;subst H;refine aB (aO rfl ⟨rfl, rfl, rfl, rfl, rfl, rfl, rfl, rfl, rfl, trivial⟩ rfl)
      ·refine aB ?_;refine aZ rfl (fun c1 => ?_) (fun c1 => ?_)
       ·have h := aK c1 h;refine aA (tm (.d (.sl 1 (r3.1.map aM))) (tm (.i j) (to (sar rfl rfl rfl) ?_)));obtain ⟨c2, g4, h⟩ := bind_some h;refine to (six rfl rfl bJ.of (bA aM g4)) (to (slc rfl aU) (ta (.i c2) (aB (aA (tm (.d (.lit N)) (tm (.i c2) (to (fR (aD rfl) bJ rfl rfl (rows := ([c2]).map aM) rfl (cP (f := aM) fun _ => rfl) rfl (by decide)) ?_)))))));obtain ⟨g5, g6, h⟩ := bind_some h;refine bE rfl (gP (i := 5) (aD rfl) bJ rfl rfl rfl (fun _ => rfl) g6 rfl) ?_;rintro _ ⟨e0, rfl⟩;refine ta (.d (.lit e0)) ?_;refine cQ ?_;refine aA (tm (.i j) (to (sar rfl rfl rfl) (ta (.i (w64 (j + 1))) (aB ?_))));exact ⟨(w64 (j + 1), g5, e0), h, aQ [0, 1, 2, 3, 4, 5] rfl rfl (aI rfl (aI rfl (aN ⟨rfl, rfl, rfl, rfl, rfl, rfl, trivial⟩)))⟩
       ·have h := aJ c1 h;refine aY (aA (tm (.d (.lit N)) (tm (.i (-2)) (to (fR (aD rfl) bJ rfl rfl (rows := ([(-2)]).map aM) rfl (cP (f := aM) fun _ => rfl) rfl (by decide)) ?_))));obtain ⟨g7, g8, h⟩ := bind_some h;refine bE rfl (gP (i := 5) (aD rfl) bJ rfl rfl rfl (fun _ => rfl) g8 rfl) ?_;rintro _ ⟨e1, rfl⟩;refine ta (.d (.lit e1)) ?_;refine cQ ?_;refine aA (tm (.i j) (to (sar rfl rfl rfl) (ta (.i (w64 (j + 1))) (aB ?_))));exact ⟨(w64 (j + 1), g7, e1), h, aQ [0, 1, 2, 3, 4, 5] rfl rfl (aI rfl (aI rfl (aN ⟨rfl, rfl, rfl, rfl, rfl, rfl, trivial⟩)))⟩
   ·have h := aJ b5 h;refine cB ?_;refine .inl ⟨rfl, ?_⟩;simp only [lN] at h;refine aA (to (sf rfl pF) (to (sl 4 rfl rfl rfl wS) (tm (.d (.lit N)) (to (fR (aD rfl) yI rfl rfl (rows := [[.lit N]]) rfl (fun r hr => by cases hr with | head => rfl | tail _ h => cases h) rfl (by decide)) ?_))));obtain ⟨e2, e3, h⟩ := bind_some h;refine bE rfl (aPd (m := 3) (f := 2) (aD rfl) yI rfl rfl rfl rfl e3 rfl) ?_;rintro _ ⟨b0, rfl⟩;refine sC (aPz (i := 2) [.box b1 0 (bC E), .box b2 0 (bN (aS.mk ([] : List Int) ([] : List (List Int)))), .fam 3 1 W (Z.map fun r => r.map aM), .arr b0 22 1 ((W ++ [N]).map fun v => [.lit v]), .box b6 0 [.sl 1 (e.map aM), .lit w9]] [.box b1 0 (bC E), .box b2 0 (bN (aS.mk ([] : List Int) ([] : List (List Int)))), .fam 3 1 (W ++ [N]) (e2.map fun r => r.map aM), .arr b0 22 1 ((W ++ [N]).map fun v => [.lit v]), .box b6 0 [.sl 1 (e.map aM), .lit w9]] rfl rfl e3 rfl) ?_;refine to (sf rfl pF) (to (sst 4 rfl rfl Tryz.sizeOf32 [.sl 1 (e.map aM), .lit b0]) ?_);refine cQ ?_;simp only [tV] at h;refine aA (tm (.i p) (to (sar rfl rfl rfl) (ta (.i (w64 (p + 1))) (aB ?_))));exact ⟨(w64 (p + 1), e2, e, (W ++ [N]), b0), h, aQ [0, 1, 2, 3, 4] rfl rfl (aI rfl (aN ⟨rfl, rfl, rfl, rfl, rfl, trivial⟩))⟩
  ·have h := aJ b4 h;refine cB ?_;refine .inl ⟨rfl, ?_⟩;simp only [lM] at h;refine aC (aA (tm (.d (.sl 5 (a0.map aL))) ?_));obtain ⟨J, g9, h⟩ := bind_some h;refine to (fB (aD rfl) (.func _ _ Tryz.call42) rfl rfl (zI _ g9)) ?_;refine ta (.d (.sl 5 (J.map aL))) (aB (aC (aC (aA (ta (.i 0) (aB (bF ?_)))))));refine bY [4, 6, 8, 13] (fun (O : Int × aS × (List (List Int)) × (List Value)) => [(14, .i O.1)]) (fun (O : Int × aS × (List (List Int)) × (List Value)) => [.box b2 0 (bN O.2.1), .fam 3 1 O.2.2.2 (O.2.2.1.map fun r => r.map aM), .arr w9 22 1 (O.2.2.2.map fun v => [.lit v]), .box b6 0 [.sl 1 (e.map aM), .lit w9]]) (fun (k : Nat) (O : Int × aS × (List (List Int)) × (List Value)) => dO r3.1 J e k O.1 O.2.1 O.2.2.1) (fun _ => rfl) (0, (aS.mk ([] : List Int) ([] : List (List Int))), Z, W) h (aQ [1, 2, 3, 4] rfl rfl (aI rfl (aN ⟨rfl, rfl, rfl, rfl, trivial⟩))) ?_;rintro c3 ⟨q, a3, w, z⟩ h;simp only [dO] at h;refine aC (aC (aA (tm (.i q) (tm (.d (.sl 5 (J.map aL))) (to (sle rfl hC.of) (to (scm rfl rfl rfl) (aB ?_)))))));refine aZ rfl (fun c4 => ?_) (fun c4 => ?_)
   ·have h := aK c4 h;refine aY (aC (bF (aC (aA (tm (.d (.sl 5 (J.map aL))) (tm (.i q) ?_))))));obtain ⟨o, h0, h⟩ := bind_some h;refine to (six rfl rfl hC.of (bA aL h0)) (to (qH (aL o) rfl lX) ?_);refine bE rfl (cM (zs := [.lit (.int .i64 0), .lit (.int .i64 0), .lit (.int .i64 0), .lit (.int .i64 0), .lit (.int .i64 0)]) (aD rfl) Tryz.zeroValue67 rfl rfl) ?_;rintro _ ⟨U, rfl⟩;refine to (sst 4 rfl rfl Tryz.sizeOf67 (aL o)) (aB (aC (aC (aA (to (sf rfl oH) (to (sl 4 rfl rfl rfl aU) (to (scm rfl rfl rfl) (aB ?_))))))));refine aZ rfl (fun c6 => ?_) (fun c6 => ?_)
    ·have h := aK c6 h;refine cB ?_;refine .inl ⟨rfl, ?_⟩;simp only [lO] at h;refine aA (tm (.i q) (to (sar rfl rfl rfl) (ta (.i (w64 (q + 1))) (aB ?_))));exact ⟨(w64 (q + 1), a3, w, z), h, aQ [0, 1, 2, 3] rfl rfl (aI rfl (aN ⟨rfl, rfl, rfl, rfl, trivial⟩))⟩
    ·have h := aJ c6 h;refine aY (aC (aC (aA (ta (.i 0) (aB (bF ?_))))));refine bY [4, 6, 8, 13, 14, 15] (fun (a4 : Int × aS) => [(16, .i a4.1)]) (fun (a4 : Int × aS) => [.box b2 0 (bN a4.2), .fam 3 1 z (w.map fun r => r.map aM), .arr w9 22 1 (z.map fun v => [.lit v]), .box b6 0 [.sl 1 (e.map aM), .lit w9], .box U 0 (aL o)]) (fun (k : Nat) (a4 : Int × aS) => iR (dO r3.1 J e c3) r3.1 J q w e o k a4.1 a4.2) (fun _ => rfl) (0, a3) h (aQ [0, 1, 2, 3, 4] rfl rfl (aI rfl (aN ⟨rfl, rfl, rfl, rfl, rfl, rfl, trivial⟩))) ?_;rintro i3 ⟨K, L⟩ h;simp only [iR] at h;refine aC (aC (aA (tm (.i K) (tm (.i q) (to (scm rfl rfl rfl) (aB ?_))))));refine aZ rfl (fun c7 => ?_) (fun c7 => ?_)
     ·have h := aK c7 h;refine aY (aC (bF (aC (aA (tm (.d (.sl 5 (J.map aL))) (tm (.i K) ?_))))));obtain ⟨a1, h1, h⟩ := bind_some h;refine to (six rfl rfl hC.of (bA aL h1)) (to (qH (aL a1) rfl lX) ?_);refine bE rfl (cM (zs := [.lit (.int .i64 0), .lit (.int .i64 0), .lit (.int .i64 0), .lit (.int .i64 0), .lit (.int .i64 0)]) (aD rfl) Tryz.zeroValue67 rfl rfl) ?_;rintro _ ⟨h2, rfl⟩;refine to (sst 5 rfl rfl Tryz.sizeOf67 (aL a1)) (aB (aC (aA (to (sf rfl oH) (to (sl 5 rfl rfl rfl aU) (to (scm rfl rfl rfl) (tm (.b (!decide (a1.Kind = 5))) ?_)))))));obtain ⟨c8, P, h⟩ := bind_some h;refine bH 6 [4, 6, 8, 13, 14, 15, 16, 17] 121 c8 ?_ ?_
      ·refine aW (!decide (a1.Kind = 5)) (fun B => ?_) (fun B => ?_)
       ·have P := aK B P;refine tk B (sf rfl pX) (tk B (sl 5 rfl rfl rfl aU) (tk B (sf rfl pX) (tk B (sl 4 rfl rfl rfl aU) (tk B (scm rfl rfl rfl) (to (spt (.b (decide (a1.Round = o.Round))) B) ?_)))));have P := Option.some.inj P;subst P;refine aB (aO rfl ⟨rfl, rfl, rfl, rfl, rfl, rfl, rfl, rfl, trivial⟩ rfl)
       ·have P := aJ B P;refine tp B (tp B (tp B (tp B (tp B (to (spf (.b false) B) ?_)))));have P := Option.some.inj P;subst P;refine aB (aO rfl ⟨rfl, rfl, rfl, rfl, rfl, rfl, rfl, rfl, trivial⟩ rfl)
      ·refine tm (.b c8) ?_;obtain ⟨h3, Q, h⟩ := bind_some h;refine bH 6 [4, 6, 8, 13, 14, 15, 16] 128 h3 ?_ ?_
       ·refine aW (c8) (fun C => ?_) (fun C => ?_)
        ·have Q := aK C Q;refine tk C (sf rfl lD) (tk C (sl 5 rfl rfl rfl aU) (tk C (sf rfl lD) (tk C (sl 4 rfl rfl rfl aU) (tk C (scm rfl rfl rfl) (to (spt (.b (decide (a1.Place = o.Place))) C) ?_)))));have Q := Option.some.inj Q;subst Q;refine aB (aO rfl ⟨rfl, rfl, rfl, rfl, rfl, rfl, rfl, trivial⟩ rfl)
        ·have Q := aJ C Q;refine tp C (tp C (tp C (tp C (tp C (to (spf (.b false) C) ?_)))));have Q := Option.some.inj Q;subst Q;refine aB (aO rfl ⟨rfl, rfl, rfl, rfl, rfl, rfl, rfl, trivial⟩ rfl)
       ·refine aB ?_;refine aZ rfl (fun c9 => ?_) (fun c9 => ?_)
        ·have h := aK c9 h;refine aC (aA (to (dE (aD rfl) aDf (zs := [.sl 1 ((([] : List Int)).map aM), .sl 1 ((([] : List (List Int))).map iV)]) rfl rfl rfl rfl (es := [.sl 1 ((([] : List Int)).map aM), .sl 1 ((([] : List (List Int))).map iV)]) rfl) ?_));refine to (sst 0 rfl rfl Tryz.sizeOf126 (bN (aS.mk ([] : List Int) ([] : List (List Int))))) (ta (.b false) (aB ?_));have h := Option.some.inj h;subst h;exact bB ⟨rfl, _, [.box b2 0 (bN (aS.mk ([] : List Int) ([] : List (List Int)))), .fam 3 1 z (w.map fun r => r.map aM), .arr w9 22 1 (z.map fun v => [.lit v]), .box b6 0 [.sl 1 (e.map aM), .lit w9], .box U 0 (aL o), .box h2 0 (aL a1)], .two (.cell 4 126 rfl (i := 0) rfl uR (es := (bN (aS.mk ([] : List Int) ([] : List (List Int))))) rfl rfl) (.tmp 5 (v := .b false) rfl), .refl _, .same _⟩
        ·have h := aJ c9 h;refine cR ?_;refine aA (tm (.i K) (to (sar rfl rfl rfl) (ta (.i (w64 (K + 1))) (aB ?_))));exact ⟨(w64 (K + 1), L), h, aQ [0, 1, 2, 3, 4] rfl rfl (aI rfl (aN ⟨rfl, rfl, rfl, rfl, rfl, rfl, trivial⟩))⟩
     ·have h := aJ c7 h;refine cB ?_;refine .inl ⟨rfl, ?_⟩;simp only [qK] at h;refine aC (aA (ta (.i (-1)) (aB (aC (aC (aA (ta (.i 0) (aB (bF ?_)))))))));refine bY [4, 6, 8, 13, 14, 15] (fun (a5 : Int × Int) => [(18, .i a5.1), (19, .i a5.2)]) (fun (a5 : Int × Int) => [.box b2 0 (bN L), .fam 3 1 z (w.map fun r => r.map aM), .arr w9 22 1 (z.map fun v => [.lit v]), .box b6 0 [.sl 1 (e.map aM), .lit w9], .box U 0 (aL o)]) (fun (k : Nat) (a5 : Int × Int) => eP (dO r3.1 J e c3) r3.1 J q L w e o k a5.1 a5.2) (fun _ => rfl) ((-1), 0) h (aQ [0, 1, 2, 3, 4] rfl rfl (aI rfl (aI rfl (aN ⟨rfl, rfl, rfl, rfl, rfl, rfl, trivial⟩)))) ?_;rintro i4 ⟨c, s⟩ h;simp only [eP] at h;refine aC (aC (aA (tm (.i s) (tm (.d (.sl 1 (r3.1.map aM))) (to (sle rfl bJ.of) (to (scm rfl rfl rfl) (aB ?_)))))));refine aZ rfl (fun d0 => ?_) (fun d0 => ?_)
      ·have h := aK d0 h;refine aY (aC (bF (aC ?_)));obtain ⟨d1, h5, h⟩ := bind_some h;refine cV mix 6 [4, 6, 8, 13, 14, 15, 18, 19] [(139, .i d1), (141, .i o.Player)] ?_ ?_
       ·refine ⟨[(136, 0, .d (.sl 1 (r3.1.map aM))), (137, 1, .i s), (138, 2, .cp [.lit (.int .i64 d1)]), (139, 3, .i d1), (140, 4, .bp U 0 3), (141, 5, .i o.Player)], ?_, ?_⟩
        · exact dok [([], []), ([], []), ([0, 1], []), ([2], []), ([], []), ([4], [])] ⟨go (zm (.d (.sl 1 (r3.1.map aM)))),
      go (zm (.i s)),
      go (zix rfl rfl bJ.of (bA aM h5)),
      go (zlc rfl aU),
      go (zf rfl oI),
      go (zl 4 rfl rfl rfl aU), trivial⟩
        · exact cK (aI rfl (aI rfl (aN ⟨rfl, rfl, rfl, rfl, rfl, rfl, rfl, rfl, trivial⟩)))
       ·refine to (scm rfl rfl rfl) (aB ?_);refine aZ rfl (fun d2 => ?_) (fun d2 => ?_)
        ·have h := aK d2 h;refine aA (tm (.i s) (ta (.i s) ?_));refine cQ ?_;refine aA (tm (.i s) (to (sar rfl rfl rfl) (ta (.i (w64 (s + 1))) (aB ?_))));exact ⟨(s, w64 (s + 1)), h, aQ [0, 1, 2, 3, 4] rfl rfl (aI rfl (aI rfl (aN ⟨rfl, rfl, rfl, rfl, rfl, rfl, trivial⟩)))⟩
        ·have h := aJ d2 h;refine cR ?_;refine aA (tm (.i s) (to (sar rfl rfl rfl) (ta (.i (w64 (s + 1))) (aB ?_))));exact ⟨(c, w64 (s + 1)), h, aQ [0, 1, 2, 3, 4] rfl rfl (aI rfl (aI rfl (aN ⟨rfl, rfl, rfl, rfl, rfl, rfl, trivial⟩)))⟩
      ·have h := aJ d0 h;refine cB ?_;refine .inl ⟨rfl, ?_⟩;simp only [iQ] at h;refine aC (aC (aA (tm (.i c) (to (scm rfl rfl rfl) (tm (.b (decide (c < 0))) ?_)))));obtain ⟨h6, I, h⟩ := bind_some h;refine bH 10 [4, 6, 8, 13, 14, 15, 18] 156 h6 ?_ ?_
       ·refine aW (decide (c < 0)) (fun n => ?_) (fun n => ?_)
        ·have I := aK n I;refine tp n (tp n (tp n (tp n (tp n (tp n (tp n (tp n (tp n (to (spt (.b true) n) ?_)))))))));have I := Option.some.inj I;subst I;refine aB (aO rfl ⟨rfl, rfl, rfl, rfl, rfl, rfl, rfl, trivial⟩ rfl)
        ·have I := aJ n I;refine tk n (sm (.i c)) (tk n (sf rfl pX) (tk n (sl 4 rfl rfl rfl aU) (tk n (sar rfl rfl rfl) (tk n (mT (aD rfl) rfl Tryz.runUnderlying3 Tryz.runUnderlying113) ?_))));obtain ⟨h8, e5, I⟩ := bind_some I;refine tk n (uX (aD rfl) rfl rfl (vI e5)) ?_;refine tk n (sf rfl lD) (tk n (sl 4 rfl rfl rfl aU) (tk n (scm rfl rfl rfl) (to (spf (.b (!decide ((c.fdiv (2 ^ (min (IntKind.u64.wrap (w64 (o.Round + 1))).toNat 64))) = o.Place))) n) ?_)));have I := Option.some.inj I;subst I;refine aB (aO rfl ⟨rfl, rfl, rfl, rfl, rfl, rfl, rfl, trivial⟩ rfl)
       ·refine aB ?_;refine aZ rfl (fun d3 => ?_) (fun d3 => ?_)
        ·have h := aK d3 h;refine aC (aA (to (dE (aD rfl) aDf (zs := [.sl 1 ((([] : List Int)).map aM), .sl 1 ((([] : List (List Int))).map iV)]) rfl rfl rfl rfl (es := [.sl 1 ((([] : List Int)).map aM), .sl 1 ((([] : List (List Int))).map iV)]) rfl) ?_));refine to (sst 0 rfl rfl Tryz.sizeOf126 (bN (aS.mk ([] : List Int) ([] : List (List Int))))) (ta (.b false) (aB ?_));have h := Option.some.inj h;subst h;exact bB ⟨rfl, _, [.box b2 0 (bN (aS.mk ([] : List Int) ([] : List (List Int)))), .fam 3 1 z (w.map fun r => r.map aM), .arr w9 22 1 (z.map fun v => [.lit v]), .box b6 0 [.sl 1 (e.map aM), .lit w9], .box U 0 (aL o)], .two (.cell 4 126 rfl (i := 0) rfl uR (es := (bN (aS.mk ([] : List Int) ([] : List (List Int))))) rfl rfl) (.tmp 5 (v := .b false) rfl), .refl _, .same _⟩
        ·have h := aJ d3 h;refine aY (aC (aA (ta (.i 0) (aB ?_))));refine uZ ?_;refine bY [4, 6, 8, 13, 14, 15, 18] (fun (T : Int × aS × (List (List Int)) × (List Value)) => [(20, .i T.1)]) (fun (T : Int × aS × (List (List Int)) × (List Value)) => [.box b2 0 (bN T.2.1), .fam 3 1 T.2.2.2 (T.2.2.1.map fun r => r.map aM), .arr w9 22 1 (T.2.2.2.map fun v => [.lit v]), .box b6 0 [.sl 1 (e.map aM), .lit w9], .box U 0 (aL o)]) (fun (k : Nat) (T : Int × aS × (List (List Int)) × (List Value)) => iG (dO r3.1 J e c3) r3.1 J q c e o k T.1 T.2.1 T.2.2.1) (fun _ => rfl) (0, L, w, z) h (aQ [0, 1, 2, 3, 4] rfl rfl (aI rfl (aN ⟨rfl, rfl, rfl, rfl, rfl, rfl, rfl, trivial⟩))) ?_;rintro i5 ⟨a, a2, M, A⟩ h;simp only [iG] at h;refine aC (aC (aA (tm (.i a) (to (sf rfl pX) (to (sl 4 rfl rfl rfl aU) (to (scm rfl rfl rfl) (aB ?_)))))));refine aZ rfl (fun d4 => ?_) (fun d4 => ?_)
         ·have h := aK d4 h;refine aY (aC (bF (aC (aA (tm (.i c) (tm (.i a) (to (sar rfl rfl rfl) (to (mT (aD rfl) rfl Tryz.runUnderlying3 Tryz.runUnderlying113) ?_))))))));obtain ⟨i6, h7, h⟩ := bind_some h;refine to (uX (aD rfl) rfl rfl (vI h7)) ?_;refine ta (.i (c.fdiv (2 ^ (min (IntKind.u64.wrap (w64 (a + 1))).toNat 64)))) (aB (aC (aC ?_)));obtain ⟨i7, Y, h⟩ := bind_some h;obtain ⟨V, b3, h⟩ := bind_some h;obtain ⟨e6, x, h⟩ := bind_some h;refine cV mix 22 [4, 6, 8, 13, 14, 15, 18, 20, 21] [(190, .b e6)] ?_ ?_
          ·refine aW (!decide (V = (-2))) (fun l => ?_) (fun l => ?_)
           ·have x := aK l x;obtain ⟨h9, a6, x⟩ := bind_some x;obtain ⟨a7, d5, x⟩ := bind_some x;have x := Option.some.inj x;subst x;refine ⟨[(169, 0, .bp b6 0 1), (170, 1, .d (.lit w9)), (171, 2, .i a), (172, 3, .ep w9 1 a.toNat 0), (173, 4, .d (.lit (vR A a))), (174, 5, .i (c.fdiv (2 ^ (min (IntKind.u64.wrap (w64 (a + 1))).toNat 64)))), (175, 6, .ep (vR A a) 1 (c.fdiv (2 ^ (min (IntKind.u64.wrap (w64 (a + 1))).toNat 64))).toNat 0), (176, 7, .i V), (177, 8, .b (!decide (V = (-2)))), (178, 9, .b (!decide (V = (-2)))), (179, 10, .bp b6 0 1), (180, 11, .d (.lit w9)), (181, 12, .i a), (182, 13, .ep w9 1 a.toNat 0), (183, 14, .d (.lit (vR A a))), (184, 15, .i (c.fdiv (2 ^ (min (IntKind.u64.wrap (w64 (a + 1))).toNat 64)))), (185, 16, .ep (vR A a) 1 (c.fdiv (2 ^ (min (IntKind.u64.wrap (w64 (a + 1))).toNat 64))).toNat 0), (186, 17, .i a7), (187, 18, .bp U 0 3), (188, 19, .i o.Player), (189, 20, .b (!decide (a7 = o.Player))), (190, 21, .b (!decide (a7 = o.Player)))], ?_, ?_⟩
            · exact dok [([], []), ([0], []), ([], []), ([1, 2], []), ([3], []), ([], []), ([4, 5], []), ([6], []), ([7], []), ([8], []), ([9], []), ([9, 10], []), ([9], []), ([9, 11, 12], []), ([9, 13], []), ([9], []), ([9, 14, 15], []), ([9, 16], []), ([9], []), ([9, 18], []), ([9, 17, 19], []), ([9, 20], [])] ⟨go (zf rfl pF),
      go (zl 3 rfl rfl rfl wS),
      go (zm (.i a)),
      go fun S hS => xB (m := 2) (f := 1) (aD rfl) (aX hS rfl) rfl rfl (aX hS rfl) yI.of Y,
      go fun S hS => yH (m := 2) (f := 1) (aD rfl) (aX hS rfl) rfl rfl Y cI,
      go (zm (.i (c.fdiv (2 ^ (min (IntKind.u64.wrap (w64 (a + 1))).toNat 64))))),
      go fun S hS => yG (f := 1) (g := aM) (aD rfl) (aX hS rfl) rfl Y (aX hS rfl) bJ.of b3,
      go fun S hS => aEo (f := 1) (g := aM) (aD rfl) (aX hS rfl) rfl Y b3 rfl aU,
      go (zcm rfl rfl rfl),
      go (zm (.b (!decide (V = (-2))))),
      gt l (zf rfl pF),
      gt l (zl 3 rfl rfl rfl wS),
      gt l (zm (.i a)),
      gt l fun S hS => xB (m := 2) (f := 1) (aD rfl) (aX hS rfl) rfl rfl (aX hS rfl) yI.of a6,
      gt l fun S hS => yH (m := 2) (f := 1) (aD rfl) (aX hS rfl) rfl rfl a6 cI,
      gt l (zm (.i (c.fdiv (2 ^ (min (IntKind.u64.wrap (w64 (a + 1))).toNat 64))))),
      gt l fun S hS => yG (f := 1) (g := aM) (aD rfl) (aX hS rfl) rfl a6 (aX hS rfl) bJ.of d5,
      gt l fun S hS => aEo (f := 1) (g := aM) (aD rfl) (aX hS rfl) rfl a6 d5 rfl aU,
      gt l (zf rfl oI),
      gt l (zl 4 rfl rfl rfl aU),
      gt l (zcm rfl rfl rfl),
      go (zpt (.b (!decide (a7 = o.Player))) l), trivial⟩
            · exact cK (aI rfl (aN ⟨rfl, rfl, rfl, rfl, rfl, rfl, rfl, rfl, rfl, trivial⟩))
           ·have x := aJ l x;have x := Option.some.inj x;subst x;refine ⟨[(169, 0, .bp b6 0 1), (170, 1, .d (.lit w9)), (171, 2, .i a), (172, 3, .ep w9 1 a.toNat 0), (173, 4, .d (.lit (vR A a))), (174, 5, .i (c.fdiv (2 ^ (min (IntKind.u64.wrap (w64 (a + 1))).toNat 64)))), (175, 6, .ep (vR A a) 1 (c.fdiv (2 ^ (min (IntKind.u64.wrap (w64 (a + 1))).toNat 64))).toNat 0), (176, 7, .i V), (177, 8, .b (!decide (V = (-2)))), (178, 9, .b (!decide (V = (-2)))), (179, 10, .tup []), (180, 11, .tup []), (181, 12, .tup []), (182, 13, .tup []), (183, 14, .tup []), (184, 15, .tup []), (185, 16, .tup []), (186, 17, .tup []), (187, 18, .tup []), (188, 19, .tup []), (189, 20, .tup []), (190, 21, .b false)], ?_, ?_⟩
            · exact dok [([], []), ([0], []), ([], []), ([1, 2], []), ([3], []), ([], []), ([4, 5], []), ([6], []), ([7], []), ([8], []), ([9], []), ([9, 10], []), ([9], []), ([9, 11, 12], []), ([9, 13], []), ([9], []), ([9, 14, 15], []), ([9, 16], []), ([9], []), ([9, 18], []), ([9, 17, 19], []), ([9, 20], [])] ⟨go (zf rfl pF),
      go (zl 3 rfl rfl rfl wS),
      go (zm (.i a)),
      go fun S hS => xB (m := 2) (f := 1) (aD rfl) (aX hS rfl) rfl rfl (aX hS rfl) yI.of Y,
      go fun S hS => yH (m := 2) (f := 1) (aD rfl) (aX hS rfl) rfl rfl Y cI,
      go (zm (.i (c.fdiv (2 ^ (min (IntKind.u64.wrap (w64 (a + 1))).toNat 64))))),
      go fun S hS => yG (f := 1) (g := aM) (aD rfl) (aX hS rfl) rfl Y (aX hS rfl) bJ.of b3,
      go fun S hS => aEo (f := 1) (g := aM) (aD rfl) (aX hS rfl) rfl Y b3 rfl aU,
      go (zcm rfl rfl rfl),
      go (zm (.b (!decide (V = (-2))))),
      gp l,
      gp l,
      gp l,
      gp l,
      gp l,
      gp l,
      gp l,
      gp l,
      gp l,
      gp l,
      gp l,
      go (zpf (.b false) l), trivial⟩
            · exact cK (aI rfl (aN ⟨rfl, rfl, rfl, rfl, rfl, rfl, rfl, rfl, rfl, trivial⟩))
          ·refine aB ?_;refine aZ rfl (fun a9 => ?_) (fun a9 => ?_)
           ·have h := aK a9 h;refine aC (aA (to (dE (aD rfl) aDf (zs := [.sl 1 ((([] : List Int)).map aM), .sl 1 ((([] : List (List Int))).map iV)]) rfl rfl rfl rfl (es := [.sl 1 ((([] : List Int)).map aM), .sl 1 ((([] : List (List Int))).map iV)]) rfl) ?_));refine to (sst 0 rfl rfl Tryz.sizeOf126 (bN (aS.mk ([] : List Int) ([] : List (List Int))))) (ta (.b false) (aB ?_));have h := Option.some.inj h;subst h;exact bB ⟨rfl, _, [.box b2 0 (bN (aS.mk ([] : List Int) ([] : List (List Int)))), .fam 3 1 A (M.map fun r => r.map aM), .arr w9 22 1 (A.map fun v => [.lit v]), .box b6 0 [.sl 1 (e.map aM), .lit w9], .box U 0 (aL o)], .two (.cell 4 126 rfl (i := 0) rfl uR (es := (bN (aS.mk ([] : List Int) ([] : List (List Int))))) rfl rfl) (.tmp 5 (v := .b false) rfl), .refl _, .same _⟩
           ·have h := aJ a9 h;refine aY ?_;obtain ⟨d6, a8, h⟩ := bind_some h;refine cV mix 8 [4, 6, 8, 13, 14, 15, 18, 20] [(196, .d (.lit (vR A a))), (197, .i (c.fdiv (2 ^ (min (IntKind.u64.wrap (w64 (a + 1))).toNat 64)))), (199, .i o.Player)] ?_ ?_
            ·refine ⟨[(192, 0, .bp b6 0 1), (193, 1, .d (.lit w9)), (194, 2, .i a), (195, 3, .ep w9 1 a.toNat 0), (196, 4, .d (.lit (vR A a))), (197, 5, .i (c.fdiv (2 ^ (min (IntKind.u64.wrap (w64 (a + 1))).toNat 64)))), (198, 6, .bp U 0 3), (199, 7, .i o.Player)], ?_, ?_⟩
             · exact dok [([], []), ([0], []), ([], []), ([1, 2], []), ([3], []), ([], []), ([], []), ([6], [])] ⟨go (zf rfl pF),
      go (zl 3 rfl rfl rfl wS),
      go (zm (.i a)),
      go fun S hS => xB (m := 2) (f := 1) (aD rfl) (aX hS rfl) rfl rfl (aX hS rfl) yI.of a8,
      go fun S hS => yH (m := 2) (f := 1) (aD rfl) (aX hS rfl) rfl rfl a8 cI,
      go (zm (.i (c.fdiv (2 ^ (min (IntKind.u64.wrap (w64 (a + 1))).toNat 64))))),
      go (zf rfl oI),
      go (zl 4 rfl rfl rfl aU), trivial⟩
             · exact cK (aI rfl (aI rfl (aI rfl (aN ⟨rfl, rfl, rfl, rfl, rfl, rfl, rfl, rfl, trivial⟩))))
            ·obtain ⟨i0, d7, h⟩ := bind_some h;refine to (yG (f := 1) (g := aM) (aD rfl) rfl rfl a8 rfl bJ.of d7) ?_;refine to (aQq (f := 1) (g := aM) rfl rfl a8 d7 rfl rfl rfl Tryz.sizeOf3 rfl (aD rfl) (Nat.le_of_ble_eq_true rfl) (a' := o.Player) rfl (c' := (M.set a.toNat (d6.set (c.fdiv (2 ^ (min (IntKind.u64.wrap (w64 (a + 1))).toNat 64))).toNat o.Player))) rfl) ?_;refine cQ ?_;refine aA (tm (.i a) (to (sar rfl rfl rfl) (ta (.i (w64 (a + 1))) (aB ?_))));exact ⟨(w64 (a + 1), a2, (M.set a.toNat (d6.set (c.fdiv (2 ^ (min (IntKind.u64.wrap (w64 (a + 1))).toNat 64))).toNat o.Player)), A), h, aQ [0, 1, 2, 3, 4] rfl rfl (aI rfl (aN ⟨rfl, rfl, rfl, rfl, rfl, rfl, rfl, trivial⟩))⟩
         ·have h := aJ d4 h;refine cB ?_;refine .inl ⟨rfl, ?_⟩;simp only [tH] at h;simp only [lO] at h;refine aA (tm (.i q) (to (sar rfl rfl rfl) (ta (.i (w64 (q + 1))) (aB ?_))));exact ⟨(w64 (q + 1), a2, M, A), h, aQ [0, 1, 2, 3] rfl rfl (aI rfl (aN ⟨rfl, rfl, rfl, rfl, trivial⟩))⟩
   ·have h := aJ c4 h;refine cB ?_;refine .inl ⟨rfl, ?_⟩;simp only [tW] at h;refine aC (aA (to (sla 3 [.sl 1 (e.map aM), .lit w9] rfl rfl uR) (to (sst 0 rfl rfl Tryz.sizeOf126 [.sl 1 (e.map aM), .lit w9]) (ta (.b true) (aB ?_)))));have h := Option.some.inj h;subst h;exact bB ⟨rfl, _, [.box b2 0 [.sl 1 (e.map aM), .lit w9], .fam 3 1 z (w.map fun r => r.map aM), .arr w9 22 1 (z.map fun v => [.lit v]), .box b6 0 [.sl 1 (e.map aM), .lit w9]], .two (.cell 4 126 rfl (i := 0) rfl uR (es := [.sl 1 (e.map aM), .lit w9]) rfl rfl) (.tmp 5 (v := .b true) rfl), .refl _, aFr (.cons (.agg (dvc (.same _) (dvc (aYh 2 1 rfl rfl (h := iV) (fun _ => rfl)) dvn))) (.cons (.same _) .nil))⟩

theorem yN (c : aV) (e : List aF) {r : Int} (h : fO c e = some r) : Fn Tryz.prog 49 [.agg (bC c), .d (.sl 5 (e.map aL))] (.i r) := by
 unfold fO at h;refine Fn.of_tr Tryz.func49 rfl (rs := [.tmp 4]) Tryz.results49 Tryz.ntmps49 (Nat.le_of_ble_eq_true rfl) ?_;refine aC (aA ?_);refine bE rfl (dN (v := .agg (bC c)) (aD rfl) rfl rfl rfl) ?_;rintro _ ⟨b1, rfl⟩;refine ta (.i 0) (aB (aC (aC (aA (to (sla 0 (bC c) rfl rfl jR) ?_)))));obtain ⟨r2, h3, h⟩ := bind_some h;refine to (scr Tryz.call83 (aFh _ h3)) (to (sn rfl) (aB ?_));refine aZ rfl (fun c4 => ?_) (fun c4 => ?_)
 ·have h := aK c4 h;refine aC (aA (ta (.i 70) (aB ?_)));have h := Option.some.inj h;subst h;refine bT (bL (bO (l := [4]) ⟨rfl, trivial⟩)) ?_;exact bB ⟨rfl, _, .one _, rfl, rfl⟩
 ·have h := aJ c4 h;refine aY (aC (aC (aA (tm (.d (.sl 5 (e.map aL))) (to (sle rfl hC.of) (to (scm rfl rfl rfl) (aB ?_)))))));refine aZ rfl (fun c5 => ?_) (fun c5 => ?_)
  ·have h := aK c5 h;refine aC (aA (ta (.i 71) (aB ?_)));have h := Option.some.inj h;subst h;refine bT (bL (bO (l := [4]) ⟨rfl, trivial⟩)) ?_;exact bB ⟨rfl, _, .one _, rfl, rfl⟩
  ·have h := aJ c5 h;refine aY (aC (aC (aA (ta (.i 0) (aB (bF ?_))))));refine bY [1, 2] (fun (s6 : Int) => [(5, .i s6)]) (fun (s6 : Int) => [.box b1 0 (bC c)]) (fun (k : Nat) (s6 : Int) => iF e c k s6) (fun _ => rfl) (0) h (aQ [0] rfl rfl (aI rfl (aN ⟨rfl, rfl, trivial⟩))) ?_;rintro k7 a h;simp only [iF] at h;refine aC (aC (aA (tm (.i a) (tm (.d (.sl 5 (e.map aL))) (to (sle rfl hC.of) (to (scm rfl rfl rfl) (aB ?_)))))));refine aZ rfl (fun c8 => ?_) (fun c8 => ?_)
   ·have h := aK c8 h;refine aY (aC (bF (aC ?_)));obtain ⟨x9, m, h⟩ := bind_some h;refine cV mix 5 [1, 2, 5] [(20, .agg (bC c)), (24, .agg (aL x9))] ?_ ?_
    ·refine ⟨[(20, 0, .agg (bC c)), (21, 1, .d (.sl 5 (e.map aL))), (22, 2, .i a), (23, 3, .cp [.lit (.int .i64 x9.Kind), .lit (.int .i64 x9.Round), .lit (.int .i64 x9.Place), .lit (.int .i64 x9.Player), .lit (.int .i64 x9.Old)]), (24, 4, .agg (aL x9))], ?_, ?_⟩
     · exact dok [([], []), ([], []), ([], []), ([1, 2], []), ([3], [])] ⟨go (zla 0 (bC c) rfl rfl jR),
      go (zm (.d (.sl 5 (e.map aL)))),
      go (zm (.i a)),
      go (zix rfl rfl hC.of (bA aL m)),
      go (aWj (aL x9) rfl lX), trivial⟩
     · exact cK (aI rfl (aI rfl (aN ⟨rfl, rfl, rfl, trivial⟩)))
    ·obtain ⟨p, n, h⟩ := bind_some h;refine to (scr Tryz.call84 (aFi _ _ n)) (to (sn rfl) (aB ?_));refine aZ rfl (fun g => ?_) (fun g => ?_)
     ·have h := aK g h;refine aC (aA (ta (.i 71) (aB ?_)));have h := Option.some.inj h;subst h;refine bT (bL (bO (l := [4]) ⟨rfl, trivial⟩)) ?_;exact bB ⟨rfl, _, .one _, rfl, rfl⟩
     ·have h := aJ g h;refine cR ?_;refine aA (tm (.i a) (to (sar rfl rfl rfl) (ta (.i (w64 (a + 1))) (aB ?_))));exact ⟨(w64 (a + 1)), h, aQ [0] rfl rfl (aI rfl (aN ⟨rfl, rfl, trivial⟩))⟩
   ·have h := aJ c8 h;refine cB ?_;refine .inl ⟨rfl, ?_⟩;simp only [kN] at h;refine aC (aC (aA (to (sla 0 (bC c) rfl rfl jR) (tm (.d (.sl 5 (e.map aL))) ?_))));obtain ⟨f, o, h⟩ := bind_some h;refine to (fB (aD rfl) (.func _ _ Tryz.call85) rfl rfl (zH _ _ o)) ?_;refine tm (.tup [.agg (bN f.1), .b f.2]) (to (sex rfl rfl) (to (sex rfl rfl) ?_));refine bE rfl (cM (zs := [.sl 1 ((([] : List Int)).map aM), .sl 1 ((([] : List (List Int))).map iV)]) (aD rfl) Tryz.zeroValue126 rfl rfl) ?_;rintro _ ⟨q, rfl⟩;refine to (sst 1 rfl rfl Tryz.sizeOf126 (bN f.1)) (ta (.b f.2) (aB (aC (aA (tm (.b f.2) (to (sn rfl) (aB ?_)))))));refine aZ rfl (fun j => ?_) (fun j => ?_)
    ·have h := aK j h;refine aC (aA (ta (.i 72) (aB ?_)));have h := Option.some.inj h;subst h;refine bT (bL (bO (l := [4]) ⟨rfl, trivial⟩)) ?_;exact bB ⟨rfl, _, .one _, rfl, rfl⟩
    ·have h := aJ j h;refine aY (aC (aA (ta (.i 0) (aB ?_))));have h := Option.some.inj h;subst h;refine bT (bL (bO (l := [4]) ⟨rfl, trivial⟩)) ?_;exact bB ⟨rfl, _, .one _, rfl, rfl⟩

theorem eH (d : Int) (a : Int) (c : Int) {r : Bool} (h : eC d a c = some r) : Fn Tryz.prog 50 [.i d, .i a, .i c] (.b r) := by
 unfold eC at h;refine Fn.of_tr Tryz.func50 rfl (rs := [.tmp 6]) Tryz.results50 Tryz.ntmps50 (Nat.le_of_ble_eq_true rfl) ?_;refine aC (aA (ta (.b false) (aB (aC (aA (tm (.i d) (tm (.i a) (to (scm rfl rfl rfl) (tm (.b (decide (a ≤ d))) ?_)))))))));obtain ⟨b1, h2, h⟩ := bind_some h;refine bH 4 [] 14 b1 ?_ ?_
 ·refine aW (decide (a ≤ d)) (fun c3 => ?_) (fun c3 => ?_)
  ·have h2 := aK c3 h2;refine tk c3 (sm (.i d)) (tk c3 (sm (.i c)) (tk c3 (scm rfl rfl rfl) (to (spt (.b (decide (d ≤ c))) c3) ?_)));have h2 := Option.some.inj h2;subst h2;refine aB (aO rfl trivial rfl)
  ·have h2 := aJ c3 h2;refine tp c3 (tp c3 (tp c3 (to (spf (.b false) c3) ?_)));have h2 := Option.some.inj h2;subst h2;refine aB (aO rfl trivial rfl)
 ·refine ta (.b b1) (aB ?_);have h := Option.some.inj h;subst h;exact bB ⟨rfl, _, .one _, rfl, rfl⟩

theorem wO (d : aR) (a : Int) {r : Bool} (h : lR d a = some r) : Fn Tryz.prog 86 [.agg (aP d), .i a] (.b r) := by
 unfold lR at h;refine Fn.of_tr Tryz.func86 rfl (rs := [.tmp 4]) Tryz.results86 Tryz.ntmps86 (Nat.le_of_ble_eq_true rfl) ?_;refine aC (aA ?_);refine bE rfl (dN (v := .agg (aP d)) (aD rfl) rfl rfl rfl) ?_;rintro _ ⟨b1, rfl⟩;refine ta (.b false) (aB (aC (aC (aA (ta (.i 0) (aB (bF ?_)))))));refine bY [1, 2] (fun (s2 : Int) => [(5, .i s2)]) (fun (s2 : Int) => [.box b1 0 (aP d)]) (fun (k : Nat) (s2 : Int) => iM a d k s2) (fun _ => rfl) (0) h (aQ [0] rfl rfl (aI rfl (aN ⟨rfl, rfl, trivial⟩))) ?_;rintro k3 c h;simp only [iM] at h;refine aC (aC (aA (tm (.i c) (to (sf rfl jA) (to (sl 0 rfl rfl rfl mS) (to (sle rfl mA.of) (to (scm rfl rfl rfl) (aB ?_))))))));refine aZ rfl (fun c4 => ?_) (fun c4 => ?_)
 ·have h := aK c4 h;refine aY (aC (bF (aC (aA (to (sf rfl jA) (to (sl 0 rfl rfl rfl mS) (tm (.i c) ?_)))))));obtain ⟨x5, h6, h⟩ := bind_some h;refine to (six rfl rfl mA.of (bA bM h6)) (to (sfc [.lit (.int .i64 x5.Player)] rfl uB) (to (slc rfl aU) (tm (.i a) (to (scm rfl rfl rfl) (aB ?_)))));refine aZ rfl (fun c7 => ?_) (fun c7 => ?_)
  ·have h := aK c7 h;refine aC (aA (ta (.b true) (aB ?_)));have h := Option.some.inj h;subst h;refine bT (bL (bO (l := [4]) ⟨rfl, trivial⟩)) ?_;exact bB ⟨rfl, _, .one _, rfl, rfl⟩
  ·have h := aJ c7 h;refine cR ?_;refine aA (tm (.i c) (to (sar rfl rfl rfl) (ta (.i (w64 (c + 1))) (aB ?_))));exact ⟨(w64 (c + 1)), h, aQ [0] rfl rfl (aI rfl (aN ⟨rfl, rfl, trivial⟩))⟩
 ·have h := aJ c4 h;refine cB ?_;refine .inl ⟨rfl, ?_⟩;simp only [wE] at h;refine aC (aA (ta (.b false) (aB ?_)));have h := Option.some.inj h;subst h;refine bT (bL (bO (l := [4]) ⟨rfl, trivial⟩)) ?_;exact bB ⟨rfl, _, .one _, rfl, rfl⟩

theorem aCv (a : aR) {r : Bool} (h : kO a = some r) : Fn Tryz.prog 51 [.agg (aP a)] (.b r) := by
 unfold kO at h;refine Fn.of_tr Tryz.func51 rfl (rs := [.tmp 2]) Tryz.results51 Tryz.ntmps51 (Nat.le_of_ble_eq_true rfl) ?_;refine aC (aA ?_);refine bE rfl (dN (v := .agg (aP a)) (aD rfl) rfl rfl rfl) ?_;rintro _ ⟨b1, rfl⟩;refine ta (.b false) (aB (aC (aC (aA (ta (.i 0) (aB (bF ?_)))))));refine bY [1] (fun (s2 : Int) => [(3, .i s2)]) (fun (s2 : Int) => [.box b1 0 (aP a)]) (fun (k : Nat) (s2 : Int) => fZ a k s2) (fun _ => rfl) (0) h (aQ [0] rfl rfl (aI rfl (aN ⟨rfl, trivial⟩))) ?_;rintro k3 y h;simp only [fZ] at h;refine aC (aC (aA (tm (.i y) (to (sf rfl jA) (to (sl 0 rfl rfl rfl mS) (to (sle rfl mA.of) (to (scm rfl rfl rfl) (aB ?_))))))));refine aZ rfl (fun c4 => ?_) (fun c4 => ?_)
 ·have h := aK c4 h;refine aY (aC (bF (aC (aA (to (sf rfl jA) (to (sl 0 rfl rfl rfl mS) (tm (.i y) ?_)))))));obtain ⟨x5, h6, h⟩ := bind_some h;refine to (six rfl rfl mA.of (bA bM h6)) (to (qH (bM x5) rfl tR) ?_);refine bE rfl (cM (zs := [.lit (.int .i64 0), .lit (.int .i64 0), .lit (.int .i64 0)]) (aD rfl) Tryz.zeroValue46 rfl rfl) ?_;rintro _ ⟨b7, rfl⟩;refine to (sst 1 rfl rfl Tryz.sizeOf46 (bM x5)) (aB (aC (aC (aA (to (sf rfl uB) (to (sl 1 rfl rfl rfl aU) ?_))))));obtain ⟨r8, h9, h⟩ := bind_some h;refine to (scr Tryz.call50 (eH _ _ _ h9)) (to (sn rfl) (tm (.b (!r8)) ?_));obtain ⟨T, z, h⟩ := bind_some h;refine bH 5 [1, 3, 4] 30 T ?_ ?_
  ·refine aW (!r8) (fun w => ?_) (fun w => ?_)
   ·have z := aK w z;refine tp w (tp w (tp w (tp w (to (spt (.b true) w) ?_))));have z := Option.some.inj z;subst z;refine aB (aO rfl ⟨rfl, rfl, rfl, trivial⟩ rfl)
   ·have z := aJ w z;refine tk w (sf rfl pW) (tk w (sl 1 rfl rfl rfl aU) ?_);obtain ⟨a9, b0, z⟩ := bind_some z;refine tk w (scr Tryz.call50 (eH _ _ _ b0)) (tk w (sn rfl) (to (spf (.b (!a9)) w) ?_));have z := Option.some.inj z;subst z;refine aB (aO rfl ⟨rfl, rfl, rfl, trivial⟩ rfl)
  ·refine tm (.b T) ?_;obtain ⟨U, A, h⟩ := bind_some h;refine bH 5 [1, 3, 4] 36 U ?_ ?_
   ·refine aW (T) (fun x => ?_) (fun x => ?_)
    ·have A := aK x A;refine tp x (tp x (tp x (tp x (to (spt (.b true) x) ?_))));have A := Option.some.inj A;subst A;refine aB (aO rfl ⟨rfl, rfl, rfl, trivial⟩ rfl)
    ·have A := aJ x A;refine tk x (sf rfl kE) (tk x (sl 1 rfl rfl rfl aU) ?_);obtain ⟨b2, b3, A⟩ := bind_some A;refine tk x (scr Tryz.call50 (eH _ _ _ b3)) (tk x (sn rfl) (to (spf (.b (!b2)) x) ?_));have A := Option.some.inj A;subst A;refine aB (aO rfl ⟨rfl, rfl, rfl, trivial⟩ rfl)
   ·refine tm (.b U) ?_;obtain ⟨b4, G, h⟩ := bind_some h;refine bH 6 [1, 3, 4] 43 b4 ?_ ?_
    ·refine aW (U) (fun o => ?_) (fun o => ?_)
     ·have G := aK o G;refine tp o (tp o (tp o (tp o (tp o (to (spt (.b true) o) ?_)))));have G := Option.some.inj G;subst G;refine aB (aO rfl ⟨rfl, rfl, rfl, trivial⟩ rfl)
     ·have G := aJ o G;refine tk o (sf rfl pW) (tk o (sl 1 rfl rfl rfl aU) (tk o (sf rfl kE) (tk o (sl 1 rfl rfl rfl aU) (tk o (scm rfl rfl rfl) (to (spf (.b (decide (x5.One = x5.Two))) o) ?_)))));have G := Option.some.inj G;subst G;refine aB (aO rfl ⟨rfl, rfl, rfl, trivial⟩ rfl)
    ·refine aB ?_;refine aZ rfl (fun V => ?_) (fun V => ?_)
     ·have h := aK V h;refine aC (aA (ta (.b false) (aB ?_)));have h := Option.some.inj h;subst h;refine bT (bL (bO (l := [2]) ⟨rfl, trivial⟩)) ?_;exact bB ⟨rfl, _, .one _, rfl, rfl⟩
     ·have h := aJ V h;refine aY (aC (aA (ta (.i 0) (aB ?_))));refine uZ ?_;refine bY [1, 3, 4] (fun (M : Int) => [(5, .i M)]) (fun (M : Int) => [.box b1 0 (aP a), .box b7 0 (bM x5)]) (fun (k : Nat) (M : Int) => gA (fZ a k3) y a x5 k M) (fun _ => rfl) (0) h (aQ [0, 1] rfl rfl (aI rfl (aN ⟨rfl, rfl, rfl, trivial⟩))) ?_;rintro c5 E h;simp only [gA] at h;refine aC (aC (aA (tm (.i E) (tm (.i y) (to (scm rfl rfl rfl) (aB ?_))))));refine aZ rfl (fun W => ?_) (fun W => ?_)
      ·have h := aK W h;refine aY (aC (bF (aC (aA (to (sf rfl jA) (to (sl 0 rfl rfl rfl mS) (tm (.i E) ?_)))))));obtain ⟨K, b5, h⟩ := bind_some h;refine to (six rfl rfl mA.of (bA bM b5)) (to (qH (bM K) rfl tR) ?_);refine bE rfl (cM (zs := [.lit (.int .i64 0), .lit (.int .i64 0), .lit (.int .i64 0)]) (aD rfl) Tryz.zeroValue46 rfl rfl) ?_;rintro _ ⟨c6, rfl⟩;refine to (sst 2 rfl rfl Tryz.sizeOf46 (bM K)) (aB (aC (aA (to (sf rfl uB) (to (sl 2 rfl rfl rfl aU) (to (sf rfl uB) (to (sl 1 rfl rfl rfl aU) (to (scm rfl rfl rfl) (tm (.b (decide (K.Player = x5.Player))) ?_)))))))));obtain ⟨X, H, h⟩ := bind_some h;refine bH 6 [1, 3, 4, 5, 6] 65 X ?_ ?_
       ·refine aW (decide (K.Player = x5.Player)) (fun p => ?_) (fun p => ?_)
        ·have H := aK p H;refine tp p (tp p (tp p (tp p (tp p (to (spt (.b true) p) ?_)))));have H := Option.some.inj H;subst H;refine aB (aO rfl ⟨rfl, rfl, rfl, rfl, rfl, trivial⟩ rfl)
        ·have H := aJ p H;refine tk p (sf rfl pW) (tk p (sl 2 rfl rfl rfl aU) (tk p (sf rfl pW) (tk p (sl 1 rfl rfl rfl aU) (tk p (scm rfl rfl rfl) (to (spf (.b (decide (K.One = x5.One))) p) ?_)))));have H := Option.some.inj H;subst H;refine aB (aO rfl ⟨rfl, rfl, rfl, rfl, rfl, trivial⟩ rfl)
       ·refine tm (.b X) ?_;obtain ⟨Y, I, h⟩ := bind_some h;refine bH 6 [1, 3, 4, 5, 6] 72 Y ?_ ?_
        ·refine aW (X) (fun q => ?_) (fun q => ?_)
         ·have I := aK q I;refine tp q (tp q (tp q (tp q (tp q (to (spt (.b true) q) ?_)))));have I := Option.some.inj I;subst I;refine aB (aO rfl ⟨rfl, rfl, rfl, rfl, rfl, trivial⟩ rfl)
         ·have I := aJ q I;refine tk q (sf rfl kE) (tk q (sl 2 rfl rfl rfl aU) (tk q (sf rfl pW) (tk q (sl 1 rfl rfl rfl aU) (tk q (scm rfl rfl rfl) (to (spf (.b (decide (K.Two = x5.One))) q) ?_)))));have I := Option.some.inj I;subst I;refine aB (aO rfl ⟨rfl, rfl, rfl, rfl, rfl, trivial⟩ rfl)
        ·refine tm (.b Y) ?_;obtain ⟨b6, B, h⟩ := bind_some h;refine bH 18 [1, 3, 4, 5] 91 b6 ?_ ?_
         ·refine aW (Y) (fun n => ?_) (fun n => ?_)
          ·have B := aK n B;refine tp n (tp n (tp n (tp n (tq (tq (tq (tq (tq (tq (tq (tq (tq (tq ?_)))))))))))));refine tq (tq (tp n (to (spt (.b true) n) ?_)));have B := Option.some.inj B;subst B;refine aB (aO rfl ⟨rfl, rfl, rfl, rfl, trivial⟩ rfl)
          ·have B := aJ n B;refine tk n (sf rfl kE) (tk n (sl 1 rfl rfl rfl aU) (tk n (scm rfl rfl rfl) (tk n (sm (.b (decide (0 ≤ x5.Two)))) ?_)));obtain ⟨a4, C, B⟩ := bind_some B;refine bH 13 [1, 3, 4, 5, 73, 74, 75, 76, 77] 90 a4 ?_ ?_
           ·refine aW (decide (0 ≤ x5.Two)) (fun m => ?_) (fun m => ?_)
            ·have C := aK m C;refine tk m (sf rfl pW) (tk m (sl 2 rfl rfl rfl aU) (tk m (sf rfl kE) (tk m (sl 1 rfl rfl rfl aU) (tk m (scm rfl rfl rfl) (tk m (sm (.b (decide (K.One = x5.Two)))) ?_)))));obtain ⟨a5, J, C⟩ := bind_some C;refine bH 6 [1, 3, 4, 5, 73, 74, 75, 76, 77, 78, 79, 80, 81, 82, 83] 89 a5 ?_ ?_
             ·refine aW (decide (K.One = x5.Two)) (fun s => ?_) (fun s => ?_)
              ·have J := aK s J;refine tp s (tp s (tp s (tp s (tp s (tk m (spt (.b true) s) ?_)))));have J := Option.some.inj J;subst J;refine aB (aO rfl ⟨rfl, rfl, rfl, rfl, rfl, rfl, rfl, rfl, rfl, rfl, rfl, rfl, rfl, rfl, rfl, trivial⟩ rfl)
              ·have J := aJ s J;refine tk s (sf rfl kE) (tk s (sl 2 rfl rfl rfl aU) (tk s (sf rfl kE) (tk s (sl 1 rfl rfl rfl aU) (tk s (scm rfl rfl rfl) (tk m (spf (.b (decide (K.Two = x5.Two))) s) ?_)))));have J := Option.some.inj J;subst J;refine aB (aO rfl ⟨rfl, rfl, rfl, rfl, rfl, rfl, rfl, rfl, rfl, rfl, rfl, rfl, rfl, rfl, rfl, trivial⟩ rfl)
             ·refine tk n (spt (.b a5) m) ?_;have C := Option.some.inj C;subst C;refine aB (aO rfl ⟨rfl, rfl, rfl, rfl, rfl, rfl, rfl, rfl, rfl, trivial⟩ rfl)
            ·have C := aJ m C;refine tp m (tp m (tp m (tp m (tp m (tp m (tq (tq (tq (tq (tq (tp m (tk n (spf (.b false) m) ?_))))))))))));have C := Option.some.inj C;subst C;refine aB (aO rfl ⟨rfl, rfl, rfl, rfl, rfl, rfl, rfl, rfl, rfl, trivial⟩ rfl)
           ·refine to (spf (.b a4) n) ?_;have B := Option.some.inj B;subst B;refine aB (aO rfl ⟨rfl, rfl, rfl, rfl, trivial⟩ rfl)
         ·refine aB ?_;refine aZ rfl (fun Z => ?_) (fun Z => ?_)
          ·have h := aK Z h;refine aC (aA (ta (.b false) (aB ?_)));have h := Option.some.inj h;subst h;refine bT (bL (bO (l := [2]) ⟨rfl, trivial⟩)) ?_;exact bB ⟨rfl, _, .one _, rfl, rfl⟩
          ·have h := aJ Z h;refine cR ?_;refine aA (tm (.i E) (to (sar rfl rfl rfl) (ta (.i (w64 (E + 1))) (aB ?_))));exact ⟨(w64 (E + 1)), h, aQ [0, 1] rfl rfl (aI rfl (aN ⟨rfl, rfl, rfl, trivial⟩))⟩
      ·have h := aJ W h;refine cB ?_;refine .inl ⟨rfl, ?_⟩;simp only [rF] at h;simp only [rE] at h;refine aA (tm (.i y) (to (sar rfl rfl rfl) (ta (.i (w64 (y + 1))) (aB ?_))));exact ⟨(w64 (y + 1)), h, aQ [0] rfl rfl (aI rfl (aN ⟨rfl, trivial⟩))⟩
 ·have h := aJ c4 h;refine cB ?_;refine .inl ⟨rfl, ?_⟩;simp only [kR] at h;refine aC (aC (aA (ta (.i 0) (aB (bF ?_)))));refine bY [1] (fun (N : Int) => [(7, .i N)]) (fun (N : Int) => [.box b1 0 (aP a)]) (fun (k : Nat) (N : Int) => hY a k N) (fun _ => rfl) (0) h (aQ [0] rfl rfl (aI rfl (aN ⟨rfl, trivial⟩))) ?_;rintro c7 g h;simp only [hY] at h;refine aC (aC (aA (tm (.i g) (to (sf rfl gH) (to (sf rfl dM) (to (sl 0 rfl rfl rfl cI) (to (sle rfl bJ.of) (to (scm rfl rfl rfl) (aB ?_)))))))));refine aZ rfl (fun a0 => ?_) (fun a0 => ?_)
  ·have h := aK a0 h;refine aY (aC (bF (aC ?_)));obtain ⟨F, a6, h⟩ := bind_some h;obtain ⟨b8, t, h⟩ := bind_some h;refine cV mix 18 [1, 7] [(117, .b b8)] ?_ ?_
   ·refine aW (!decide (F = (-1))) (fun c => ?_) (fun c => ?_)
    ·have t := aK c t;obtain ⟨a7, b9, t⟩ := bind_some t;obtain ⟨O, c0, t⟩ := bind_some t;have t := Option.some.inj t;subst t;refine ⟨[(100, 0, .bp b1 0 0), (101, 1, .bp b1 0 1), (102, 2, .d (.sl 1 (a.Tree.Slots.map aM))), (103, 3, .i g), (104, 4, .cp [.lit (.int .i64 F)]), (105, 5, .i F), (106, 6, .b (!decide (F = (-1)))), (107, 7, .b (!decide (F = (-1)))), (108, 8, .agg (aP a)), (109, 9, .bp b1 0 0), (110, 10, .bp b1 0 1), (111, 11, .d (.sl 1 (a.Tree.Slots.map aM))), (112, 12, .i g), (113, 13, .cp [.lit (.int .i64 a7)]), (114, 14, .i a7), (115, 15, .b O), (116, 16, .b (!O)), (117, 17, .b (!O))], ?_, ?_⟩
     · exact dok [([], []), ([0], []), ([1], []), ([], []), ([2, 3], []), ([4], []), ([5], []), ([6], []), ([7], []), ([7], []), ([7, 9], []), ([7, 10], []), ([7], []), ([7, 11, 12], []), ([7, 13], []), ([7, 8, 14], []), ([7, 15], []), ([7, 16], [])] ⟨go (zf rfl gH),
      go (zf rfl dM),
      go (zl 0 rfl rfl rfl cI),
      go (zm (.i g)),
      go (zix rfl rfl bJ.of (bA aM a6)),
      go (zlc rfl aU),
      go (zcm rfl rfl rfl),
      go (zm (.b (!decide (F = (-1))))),
      gt c (zla 0 (aP a) rfl rfl eI),
      gt c (zf rfl gH),
      gt c (zf rfl dM),
      gt c (zl 0 rfl rfl rfl cI),
      gt c (zm (.i g)),
      gt c (zix rfl rfl bJ.of (bA aM b9)),
      gt c (zlc rfl aU),
      gt c fun S hS => fS (aD rfl) (.func _ _ Tryz.call86) (ev2 (aX hS rfl) (ev2 (aX hS rfl) evn)) rfl (BVs.refl _ _) (wO _ _ c0) rfl,
      gt c (zn rfl),
      go (zpt (.b (!O)) c), trivial⟩
     · exact cK (aI rfl (aN ⟨rfl, rfl, trivial⟩))
    ·have t := aJ c t;have t := Option.some.inj t;subst t;refine ⟨[(100, 0, .bp b1 0 0), (101, 1, .bp b1 0 1), (102, 2, .d (.sl 1 (a.Tree.Slots.map aM))), (103, 3, .i g), (104, 4, .cp [.lit (.int .i64 F)]), (105, 5, .i F), (106, 6, .b (!decide (F = (-1)))), (107, 7, .b (!decide (F = (-1)))), (108, 8, .tup []), (109, 9, .tup []), (110, 10, .tup []), (111, 11, .tup []), (112, 12, .tup []), (113, 13, .tup []), (114, 14, .tup []), (115, 15, .tup []), (116, 16, .tup []), (117, 17, .b false)], ?_, ?_⟩
     · exact dok [([], []), ([0], []), ([1], []), ([], []), ([2, 3], []), ([4], []), ([5], []), ([6], []), ([7], []), ([7], []), ([7, 9], []), ([7, 10], []), ([7], []), ([7, 11, 12], []), ([7, 13], []), ([7, 8, 14], []), ([7, 15], []), ([7, 16], [])] ⟨go (zf rfl gH),
      go (zf rfl dM),
      go (zl 0 rfl rfl rfl cI),
      go (zm (.i g)),
      go (zix rfl rfl bJ.of (bA aM a6)),
      go (zlc rfl aU),
      go (zcm rfl rfl rfl),
      go (zm (.b (!decide (F = (-1))))),
      gp c,
      gp c,
      gp c,
      gp c,
      gp c,
      gp c,
      gp c,
      gp c,
      gp c,
      go (zpf (.b false) c), trivial⟩
     · exact cK (aI rfl (aN ⟨rfl, rfl, trivial⟩))
   ·refine aB ?_;refine aZ rfl (fun a1 => ?_) (fun a1 => ?_)
    ·have h := aK a1 h;refine aC (aA (ta (.b false) (aB ?_)));have h := Option.some.inj h;subst h;refine bT (bL (bO (l := [2]) ⟨rfl, trivial⟩)) ?_;exact bB ⟨rfl, _, .one _, rfl, rfl⟩
    ·have h := aJ a1 h;refine cR ?_;refine aA (tm (.i g) (to (sar rfl rfl rfl) (ta (.i (w64 (g + 1))) (aB ?_))));exact ⟨(w64 (g + 1)), h, aQ [0] rfl rfl (aI rfl (aN ⟨rfl, trivial⟩))⟩
  ·have h := aJ a0 h;refine cB ?_;refine .inl ⟨rfl, ?_⟩;simp only [kS] at h;refine aC (aC (aA (ta (.i 0) (aB (bF ?_)))));refine bY [1] (fun (P : Int) => [(8, .i P)]) (fun (P : Int) => [.box b1 0 (aP a)]) (fun (k : Nat) (P : Int) => hZ a k P) (fun _ => rfl) (0) h (aQ [0] rfl rfl (aI rfl (aN ⟨rfl, trivial⟩))) ?_;rintro c8 j h;simp only [hZ] at h;refine aC (aC (aA (tm (.i j) (to (sf rfl oG) (to (sl 0 rfl rfl rfl uG) (to (sle rfl hC.of) (to (scm rfl rfl rfl) (aB ?_))))))));refine aZ rfl (fun a2 => ?_) (fun a2 => ?_)
   ·have h := aK a2 h;refine aY (aC (bF (aC ?_)));obtain ⟨e, a8, h⟩ := bind_some h;obtain ⟨c1, u, h⟩ := bind_some h;refine cV mix 18 [1, 8] [(142, .b c1)] ?_ ?_
    ·refine aW (decide (e.Kind = 5)) (fun f => ?_) (fun f => ?_)
     ·have u := aK f u;obtain ⟨L, c2, u⟩ := bind_some u;obtain ⟨Q, c3, u⟩ := bind_some u;have u := Option.some.inj u;subst u;refine ⟨[(125, 0, .bp b1 0 2), (126, 1, .d (.sl 5 (a.Slips.map aL))), (127, 2, .i j), (128, 3, .cp [.lit (.int .i64 e.Kind), .lit (.int .i64 e.Round), .lit (.int .i64 e.Place), .lit (.int .i64 e.Player), .lit (.int .i64 e.Old)]), (129, 4, .cp [.lit (.int .i64 e.Kind)]), (130, 5, .i e.Kind), (131, 6, .b (decide (e.Kind = 5))), (132, 7, .b (decide (e.Kind = 5))), (133, 8, .agg (aP a)), (134, 9, .bp b1 0 2), (135, 10, .d (.sl 5 (a.Slips.map aL))), (136, 11, .i j), (137, 12, .cp [.lit (.int .i64 L.Kind), .lit (.int .i64 L.Round), .lit (.int .i64 L.Place), .lit (.int .i64 L.Player), .lit (.int .i64 L.Old)]), (138, 13, .cp [.lit (.int .i64 L.Player)]), (139, 14, .i L.Player), (140, 15, .b Q), (141, 16, .b (!Q)), (142, 17, .b (!Q))], ?_, ?_⟩
      · exact dok [([], []), ([0], []), ([], []), ([1, 2], []), ([3], []), ([4], []), ([5], []), ([6], []), ([7], []), ([7], []), ([7, 9], []), ([7], []), ([7, 10, 11], []), ([7, 12], []), ([7, 13], []), ([7, 8, 14], []), ([7, 15], []), ([7, 16], [])] ⟨go (zf rfl oG),
      go (zl 0 rfl rfl rfl uG),
      go (zm (.i j)),
      go (zix rfl rfl hC.of (bA aL a8)),
      go (zfc [.lit (.int .i64 e.Kind)] rfl oH),
      go (zlc rfl aU),
      go (zcm rfl rfl rfl),
      go (zm (.b (decide (e.Kind = 5)))),
      gt f (zla 0 (aP a) rfl rfl eI),
      gt f (zf rfl oG),
      gt f (zl 0 rfl rfl rfl uG),
      gt f (zm (.i j)),
      gt f (zix rfl rfl hC.of (bA aL c2)),
      gt f (zfc [.lit (.int .i64 L.Player)] rfl oI),
      gt f (zlc rfl aU),
      gt f fun S hS => fS (aD rfl) (.func _ _ Tryz.call86) (ev2 (aX hS rfl) (ev2 (aX hS rfl) evn)) rfl (BVs.refl _ _) (wO _ _ c3) rfl,
      gt f (zn rfl),
      go (zpt (.b (!Q)) f), trivial⟩
      · exact cK (aI rfl (aN ⟨rfl, rfl, trivial⟩))
     ·have u := aJ f u;have u := Option.some.inj u;subst u;refine ⟨[(125, 0, .bp b1 0 2), (126, 1, .d (.sl 5 (a.Slips.map aL))), (127, 2, .i j), (128, 3, .cp [.lit (.int .i64 e.Kind), .lit (.int .i64 e.Round), .lit (.int .i64 e.Place), .lit (.int .i64 e.Player), .lit (.int .i64 e.Old)]), (129, 4, .cp [.lit (.int .i64 e.Kind)]), (130, 5, .i e.Kind), (131, 6, .b (decide (e.Kind = 5))), (132, 7, .b (decide (e.Kind = 5))), (133, 8, .tup []), (134, 9, .tup []), (135, 10, .tup []), (136, 11, .tup []), (137, 12, .tup []), (138, 13, .tup []), (139, 14, .tup []), (140, 15, .tup []), (141, 16, .tup []), (142, 17, .b false)], ?_, ?_⟩
      · exact dok [([], []), ([0], []), ([], []), ([1, 2], []), ([3], []), ([4], []), ([5], []), ([6], []), ([7], []), ([7], []), ([7, 9], []), ([7], []), ([7, 10, 11], []), ([7, 12], []), ([7, 13], []), ([7, 8, 14], []), ([7, 15], []), ([7, 16], [])] ⟨go (zf rfl oG),
      go (zl 0 rfl rfl rfl uG),
      go (zm (.i j)),
      go (zix rfl rfl hC.of (bA aL a8)),
      go (zfc [.lit (.int .i64 e.Kind)] rfl oH),
      go (zlc rfl aU),
      go (zcm rfl rfl rfl),
      go (zm (.b (decide (e.Kind = 5)))),
      gp f,
      gp f,
      gp f,
      gp f,
      gp f,
      gp f,
      gp f,
      gp f,
      gp f,
      go (zpf (.b false) f), trivial⟩
      · exact cK (aI rfl (aN ⟨rfl, rfl, trivial⟩))
    ·refine aB ?_;refine aZ rfl (fun a3 => ?_) (fun a3 => ?_)
     ·have h := aK a3 h;refine aC (aA (ta (.b false) (aB ?_)));have h := Option.some.inj h;subst h;refine bT (bL (bO (l := [2]) ⟨rfl, trivial⟩)) ?_;exact bB ⟨rfl, _, .one _, rfl, rfl⟩
     ·have h := aJ a3 h;refine cR ?_;refine aA (tm (.i j) (to (sar rfl rfl rfl) (ta (.i (w64 (j + 1))) (aB ?_))));exact ⟨(w64 (j + 1)), h, aQ [0] rfl rfl (aI rfl (aN ⟨rfl, trivial⟩))⟩
   ·have h := aJ a2 h;refine cB ?_;refine .inl ⟨rfl, ?_⟩;simp only [nL] at h;refine aC (aA (to (sf rfl jA) (to (sl 0 rfl rfl rfl mS) (to (sle rfl mA.of) (to (scm rfl rfl rfl) (ta (.b (decide ((a.Teams.length : Int) ≤ 64))) (aB ?_)))))));have h := Option.some.inj h;subst h;refine bT (bL (bO (l := [2]) ⟨rfl, trivial⟩)) ?_;exact bB ⟨rfl, _, .one _, rfl, rfl⟩

theorem zJ (g : aR) (a : Int) {r : bZ × Bool × Bool} (h : oC g a = some r) : Fn Tryz.prog 15 [.agg (aP g), .i a] (.tup [.agg (bM r.1), .b r.2.1, .b r.2.2]) := by
 unfold oC at h;refine gV Tryz.func15 rfl (rs := [.cell 4 46, .tmp 5, .tmp 6]) Tryz.results15 Tryz.ntmps15 (Nat.le_of_ble_eq_true rfl) ?_;refine aC (aA ?_);refine bE rfl (dN (v := .agg (aP g)) (aD rfl) rfl rfl rfl) ?_;rintro _ ⟨b1, rfl⟩;refine bE rfl (cM (zs := [.lit (.int .i64 0), .lit (.int .i64 0), .lit (.int .i64 0)]) (aD rfl) Tryz.zeroValue46 rfl rfl) ?_;rintro _ ⟨b2, rfl⟩;refine ta (.b false) (ta (.b false) (aB (aC (aC (aA (ta (.i 0) (aB (bF ?_))))))));refine bY [1, 2, 4] (fun (s3 : Int × bZ) => [(7, .i s3.1)]) (fun (s3 : Int × bZ) => [.box b1 0 (aP g), .box b2 0 (bM s3.2)]) (fun (k : Nat) (s3 : Int × bZ) => jW a g k s3.1 s3.2) (fun _ => rfl) (0, (bZ.mk 0 0 0)) h (aQ [0, 1] rfl rfl (aI rfl (aN ⟨rfl, rfl, rfl, trivial⟩))) ?_;rintro k4 ⟨f, o⟩ h;simp only [jW] at h;refine aC (aC (aA (tm (.i f) (to (sf rfl jA) (to (sl 0 rfl rfl rfl mS) (to (sle rfl mA.of) (to (scm rfl rfl rfl) (aB ?_))))))));refine aZ rfl (fun c5 => ?_) (fun c5 => ?_)
 ·have h := aK c5 h;refine aY (aC (bF (aC (aA (to (sf rfl jA) (to (sl 0 rfl rfl rfl mS) (tm (.i f) ?_)))))));obtain ⟨x6, h7, h⟩ := bind_some h;refine to (six rfl rfl mA.of (bA bM h7)) (to (sfc [.lit (.int .i64 x6.One)] rfl pW) (to (slc rfl aU) (tm (.i a) (to (scm rfl rfl rfl) (tm (.b (decide (x6.One = a))) ?_)))));obtain ⟨b8, h9, h⟩ := bind_some h;refine bH 13 [1, 2, 4, 7] 36 b8 ?_ ?_
  ·refine aW (decide (x6.One = a)) (fun e => ?_) (fun e => ?_)
   ·have h9 := aK e h9;refine tp e (tp e (tp e (tp e (tp e (tp e (tp e (tp e (tp e (tq (tq (tp e (to (spt (.b true) e) ?_))))))))))));have h9 := Option.some.inj h9;subst h9;refine aB (aO rfl ⟨rfl, rfl, rfl, rfl, trivial⟩ rfl)
   ·have h9 := aJ e h9;refine tk e (sf rfl jA) (tk e (sl 0 rfl rfl rfl mS) (tk e (sm (.i f)) ?_));obtain ⟨q, u, h9⟩ := bind_some h9;refine tk e (six rfl rfl mA.of (bA bM u)) (tk e (sfc [.lit (.int .i64 q.Two)] rfl kE) (tk e (slc rfl aU) (tk e (sm (.i a)) (tk e (scm rfl rfl rfl) (tk e (sm (.b (decide (q.Two = a)))) ?_)))));obtain ⟨t, j, h9⟩ := bind_some h9;refine bH 3 [1, 2, 4, 7, 23, 24, 25, 26, 27, 28, 29, 30, 31, 32] 35 t ?_ ?_
    ·refine aW (decide (q.Two = a)) (fun n => ?_) (fun n => ?_)
     ·have j := aK n j;refine tk n (sm (.i a)) (tk n (scm rfl rfl rfl) (tk e (spt (.b (decide (0 ≤ a))) n) ?_));have j := Option.some.inj j;subst j;refine aB (aO rfl ⟨rfl, rfl, rfl, rfl, rfl, rfl, rfl, rfl, rfl, rfl, rfl, rfl, rfl, rfl, trivial⟩ rfl)
     ·have j := aJ n j;refine tp n (tp n (tk e (spf (.b false) n) ?_));have j := Option.some.inj j;subst j;refine aB (aO rfl ⟨rfl, rfl, rfl, rfl, rfl, rfl, rfl, rfl, rfl, rfl, rfl, rfl, rfl, rfl, trivial⟩ rfl)
    ·refine to (spf (.b t) e) ?_;have h9 := Option.some.inj h9;subst h9;refine aB (aO rfl ⟨rfl, rfl, rfl, rfl, trivial⟩ rfl)
  ·refine aB ?_;refine aZ rfl (fun s => ?_) (fun s => ?_)
   ·have h := aK s h;refine aC ?_;obtain ⟨l, w, h⟩ := bind_some h;obtain ⟨m, x, h⟩ := bind_some h;refine uO mix 14 [4] (fun c => [(49, .b (decide (m.Two = a)))]) (fun c => [.box b1 0 (aP g), .box b2 0 (bM l)]) ?_ ?_
    ·refine ⟨0, fun c => [(37, 0, .bp b1 0 5), (38, 1, .d (.sl 3 (g.Teams.map bM))), (39, 2, .i f), (40, 3, .cp [.lit (.int .i64 l.Player), .lit (.int .i64 l.One), .lit (.int .i64 l.Two)]), (41, 4, .agg (bM l)), (42, 5, .bp b1 0 5), (43, 6, .d (.sl 3 (g.Teams.map bM))), (44, 7, .i f), (45, 8, .cp [.lit (.int .i64 m.Player), .lit (.int .i64 m.One), .lit (.int .i64 m.Two)]), (46, 9, .cp [.lit (.int .i64 m.Two)]), (47, 10, .i m.Two), (48, 11, .i a), (49, 12, .b (decide (m.Two = a)))], fun c => [([], .box b1 0 (aP g)), ([(13, .box b2 0 (bM l))], .box b2 0 (bM o))], ?_, ?_⟩
     · exact ⟨by kernel_rfl, by kernel_rfl, by kernel_rfl, fun _ => by kernel_rfl, fun _ => by kernel_rfl, fun _ => by kernel_rfl, fun _ => rfl, [([], [13]), ([0], [13]), ([], [13]), ([1, 2], [13]), ([3], [13]), ([], []), ([5], []), ([], []), ([6, 7], []), ([8], []), ([9], []), ([], []), ([10, 11], []), ([4], [])], by kernel_rfl, ⟨fun c S hw hi hS => cE (X := c) rfl (hw c) rfl (cT rfl (xA (aD rfl) (aX hS rfl) jA)),
      fun c S hw hi hS => cE (X := c) rfl (hw c) rfl (cT rfl (yX (aD rfl) (aX hS rfl) (i := 0) (og hS rfl rfl) rfl mS)),
      fun c S hw hi hS => cE (X := c) rfl (hw c) rfl (cT rfl (eJ (v := .i f) (aD rfl) (aX hS rfl) rfl)),
      fun c S hw hi hS => cE (X := c) rfl (hw c) rfl (cT rfl (zV (aD rfl) (aX hS rfl) (aX hS rfl) mA.of (bA bM w))),
      fun c S hw hi hS => cE (X := c) rfl (hw c) rfl (cT rfl (aEp (aD rfl) (aX hS rfl) tR (es := (bM l)) rfl rfl)),
      fun c S hw hi hS => cE (X := c) rfl (hw c) rfl (cT rfl (xA (aD rfl) (aX hS rfl) jA)),
      fun c S hw hi hS => cE (X := c) rfl (hw c) rfl (cT rfl (yX (aD rfl) (aX hS rfl) (i := 0) (og hS rfl rfl) rfl mS)),
      fun c S hw hi hS => cE (X := c) rfl (hw c) rfl (cT rfl (eJ (v := .i f) (aD rfl) (aX hS rfl) rfl)),
      fun c S hw hi hS => cE (X := c) rfl (hw c) rfl (cT rfl (zV (aD rfl) (aX hS rfl) (aX hS rfl) mA.of (bA bM x))),
      fun c S hw hi hS => cE (X := c) rfl (hw c) rfl (cT rfl (aEn (aD rfl) (aX hS rfl) kE (es := [.lit (.int .i64 m.Two)]) rfl)),
      fun c S hw hi hS => cE (X := c) rfl (hw c) rfl (cT rfl (aHh (aD rfl) (aX hS rfl) aU)),
      fun c S hw hi hS => cE (X := c) rfl (hw c) rfl (cT rfl (eJ (v := .i a) (aD rfl) (aX hS rfl) rfl)),
      fun c S hw hi hS => cE (X := c) rfl (hw c) rfl (cT rfl (aSh (aD rfl) (aX hS rfl) (aX hS rfl) rfl)),
      fun c S hw hi hS => aDg (X := c) hS rfl rfl rfl (p := 1) rfl rfl (cT rfl (aLj (i := 1) (aX hS rfl) (og hS rfl rfl) (aX hS rfl) rfl rfl Tryz.sizeOf46 rfl (aD rfl) (Nat.le_of_ble_eq_true rfl) (ds' := (bM l)) rfl)), trivial⟩⟩
     · exact fun c => cK (aI rfl (aN ⟨rfl, trivial⟩))
    ·intro c;refine ta (.b (decide (m.Two = a))) (ta (.b true) (aB ?_));have h := Option.some.inj h;subst h;exact bB ⟨rfl, _, [.box b1 0 (aP g), .box b2 0 (bM l)], .three (.cell 4 46 rfl (i := 1) rfl tR (es := (bM l)) rfl rfl) (.tmp 5 (v := .b (decide (m.Two = a))) rfl) (.tmp 6 (v := .b true) rfl), .refl _, .same _⟩
   ·have h := aJ s h;refine cR ?_;refine aA (tm (.i f) (to (sar rfl rfl rfl) (ta (.i (w64 (f + 1))) (aB ?_))));exact ⟨(w64 (f + 1), o), h, aQ [0, 1] rfl rfl (aI rfl (aN ⟨rfl, rfl, rfl, trivial⟩))⟩
 ·have h := aJ c5 h;refine cB ?_;refine .inl ⟨rfl, ?_⟩;simp only [yQ] at h;refine aC (aA (to (dE (aD rfl) aHq (zs := [.lit (.int .i64 0), .lit (.int .i64 0), .lit (.int .i64 0)]) rfl rfl rfl rfl (es := [.lit (.int .i64 0), .lit (.int .i64 0), .lit (.int .i64 0)]) rfl) ?_));refine to (sst 1 rfl rfl Tryz.sizeOf46 (bM (bZ.mk 0 0 0))) (ta (.b false) (ta (.b false) (aB ?_)));have h := Option.some.inj h;subst h;exact bB ⟨rfl, _, [.box b1 0 (aP g), .box b2 0 (bM (bZ.mk 0 0 0))], .three (.cell 4 46 rfl (i := 1) rfl tR (es := (bM (bZ.mk 0 0 0))) rfl rfl) (.tmp 5 (v := .b false) rfl) (.tmp 6 (v := .b false) rfl), .refl _, .same _⟩

theorem lQ (c : aR) (a : Int) {r : Bool} (h : iI c a = some r) : Fn Tryz.prog 11 [.agg (aP c), .i a] (.b r) := by
 unfold iI at h;refine Fn.of_tr Tryz.func11 rfl (rs := [.tmp 4]) Tryz.results11 Tryz.ntmps11 (Nat.le_of_ble_eq_true rfl) ?_;refine aC (aA ?_);refine bE rfl (dN (v := .agg (aP c)) (aD rfl) rfl rfl rfl) ?_;rintro _ ⟨b1, rfl⟩;refine ta (.b false) (aB (aC (aA (to (sla 0 (aP c) rfl rfl eI) (tm (.i a) ?_)))));obtain ⟨r2, h3, h⟩ := bind_some h;refine to (fB (aD rfl) (.func _ _ Tryz.call15) rfl rfl (zJ _ _ h3)) ?_;refine tm (.tup [.agg (bM r2.1), .b r2.2.1, .b r2.2.2]) (to (sex rfl rfl) (to (sex rfl rfl) (to (sex rfl rfl) ?_)));refine bE rfl (cM (zs := [.lit (.int .i64 0), .lit (.int .i64 0), .lit (.int .i64 0)]) (aD rfl) Tryz.zeroValue46 rfl rfl) ?_;rintro _ ⟨b4, rfl⟩;refine to (sst 1 rfl rfl Tryz.sizeOf46 (bM r2.1)) (ta (.b r2.2.1) (ta (.b r2.2.2) (aB (aC (aA (tm (.b r2.2.2) (tm (.b r2.2.2) ?_)))))));obtain ⟨b5, h6, h⟩ := bind_some h;refine bH 3 [] 19 b5 ?_ ?_
 ·refine aW (r2.2.2) (fun c7 => ?_) (fun c7 => ?_)
  ·have h6 := aK c7 h6;refine tk c7 (sm (.i a)) (tk c7 (scm rfl rfl rfl) (to (spt (.b (decide (0 ≤ a))) c7) ?_));have h6 := Option.some.inj h6;subst h6;refine aB (aO rfl trivial rfl)
  ·have h6 := aJ c7 h6;refine tp c7 (tp c7 (to (spf (.b false) c7) ?_));have h6 := Option.some.inj h6;subst h6;refine aB (aO rfl trivial rfl)
 ·refine ta (.b b5) (aB ?_);have h := Option.some.inj h;subst h;refine bT (bL (bO (l := [4]) ⟨rfl, trivial⟩)) ?_;exact bB ⟨rfl, _, .one _, rfl, rfl⟩

theorem aCu (a : aR) {r : Bool} (h : mR a = some r) : Fn Tryz.prog 52 [.agg (aP a)] (.b r) := by
 unfold mR at h;refine Fn.of_tr Tryz.func52 rfl (rs := [.tmp 2]) Tryz.results52 Tryz.ntmps52 (Nat.le_of_ble_eq_true rfl) ?_;refine aC (aA ?_);refine bE rfl (dN (v := .agg (aP a)) (aD rfl) rfl rfl rfl) ?_;rintro _ ⟨b1, rfl⟩;refine ta (.b false) (aB (aC (aC (aA (ta (.i 0) (aB (bF ?_)))))));refine bY [1] (fun (s2 : Int) => [(3, .i s2)]) (fun (s2 : Int) => [.box b1 0 (aP a)]) (fun (k : Nat) (s2 : Int) => dS a k s2) (fun _ => rfl) (0) h (aQ [0] rfl rfl (aI rfl (aN ⟨rfl, trivial⟩))) ?_;rintro k3 c h;simp only [dS] at h;refine aC (aC (aA (tm (.i c) (to (sf rfl pT) (to (sl 0 rfl rfl rfl vE) (to (sle rfl tO.of) (to (scm rfl rfl rfl) (aB ?_))))))));refine aZ rfl (fun c4 => ?_) (fun c4 => ?_)
 ·have h := aK c4 h;refine aY (aC (bF (aC (aC ?_))));obtain ⟨x5, h6, h⟩ := bind_some h;obtain ⟨r7, h8, h⟩ := bind_some h;obtain ⟨b9, g, h⟩ := bind_some h;refine cV mix 19 [1, 3] [(33, .b b9)] ?_ ?_
  ·refine aW (!r7) (fun e => ?_) (fun e => ?_)
   ·have g := aK e g;have g := Option.some.inj g;subst g;refine ⟨[(15, 0, .agg (aP a)), (16, 1, .bp b1 0 6), (17, 2, .d (.sl 2 (a.Levies.map cS))), (18, 3, .i c), (19, 4, .cp [.lit (.int .i64 x5.Person), .lit (.int .i64 x5.Mille)]), (20, 5, .cp [.lit (.int .i64 x5.Person)]), (21, 6, .i x5.Person), (22, 7, .b r7), (23, 8, .b (!r7)), (24, 9, .b (!r7)), (25, 10, .tup []), (26, 11, .tup []), (27, 12, .tup []), (28, 13, .tup []), (29, 14, .tup []), (30, 15, .tup []), (31, 16, .tup []), (32, 17, .tup []), (33, 18, .b true)], ?_, ?_⟩
    · exact dok [([], []), ([], []), ([1], []), ([], []), ([2, 3], []), ([4], []), ([5], []), ([0, 6], []), ([7], []), ([8], []), ([9], []), ([9, 10], []), ([9], []), ([9, 11, 12], []), ([9, 13], []), ([9, 14], []), ([9, 15], []), ([9, 16], []), ([9, 17], [])] ⟨go (zla 0 (aP a) rfl rfl eI),
      go (zf rfl pT),
      go (zl 0 rfl rfl rfl vE),
      go (zm (.i c)),
      go (zix rfl rfl tO.of (bA cS h6)),
      go (zfc [.lit (.int .i64 x5.Person)] rfl xU),
      go (zlc rfl aU),
      go fun S hS => fS (aD rfl) (.func _ _ Tryz.call11) (ev2 (aX hS rfl) (ev2 (aX hS rfl) evn)) rfl (BVs.refl _ _) (lQ _ _ h8) rfl,
      go (zn rfl),
      go (zm (.b (!r7))),
      gp e,
      gp e,
      gp e,
      gp e,
      gp e,
      gp e,
      gp e,
      gp e,
      go (zpt (.b true) e), trivial⟩
    · exact cK (aI rfl (aN ⟨rfl, rfl, trivial⟩))
   ·have g := aJ e g;obtain ⟨x, N, g⟩ := bind_some g;obtain ⟨y, O, g⟩ := bind_some g;have g := Option.some.inj g;subst g;refine ⟨[(15, 0, .agg (aP a)), (16, 1, .bp b1 0 6), (17, 2, .d (.sl 2 (a.Levies.map cS))), (18, 3, .i c), (19, 4, .cp [.lit (.int .i64 x5.Person), .lit (.int .i64 x5.Mille)]), (20, 5, .cp [.lit (.int .i64 x5.Person)]), (21, 6, .i x5.Person), (22, 7, .b r7), (23, 8, .b (!r7)), (24, 9, .b (!r7)), (25, 10, .bp b1 0 6), (26, 11, .d (.sl 2 (a.Levies.map cS))), (27, 12, .i c), (28, 13, .cp [.lit (.int .i64 x.Person), .lit (.int .i64 x.Mille)]), (29, 14, .cp [.lit (.int .i64 x.Mille)]), (30, 15, .i x.Mille), (31, 16, .b y), (32, 17, .b (!y)), (33, 18, .b (!y))], ?_, ?_⟩
    · exact dok [([], []), ([], []), ([1], []), ([], []), ([2, 3], []), ([4], []), ([5], []), ([0, 6], []), ([7], []), ([8], []), ([9], []), ([9, 10], []), ([9], []), ([9, 11, 12], []), ([9, 13], []), ([9, 14], []), ([9, 15], []), ([9, 16], []), ([9, 17], [])] ⟨go (zla 0 (aP a) rfl rfl eI),
      go (zf rfl pT),
      go (zl 0 rfl rfl rfl vE),
      go (zm (.i c)),
      go (zix rfl rfl tO.of (bA cS h6)),
      go (zfc [.lit (.int .i64 x5.Person)] rfl xU),
      go (zlc rfl aU),
      go fun S hS => fS (aD rfl) (.func _ _ Tryz.call11) (ev2 (aX hS rfl) (ev2 (aX hS rfl) evn)) rfl (BVs.refl _ _) (lQ _ _ h8) rfl,
      go (zn rfl),
      go (zm (.b (!r7))),
      gt e (zf rfl pT),
      gt e (zl 0 rfl rfl rfl vE),
      gt e (zm (.i c)),
      gt e (zix rfl rfl tO.of (bA cS N)),
      gt e (zfc [.lit (.int .i64 x.Mille)] rfl aJh),
      gt e (zlc rfl aU),
      gt e fun S hS => fS (aD rfl) (.func _ _ Tryz.call50) (ev2 (aX hS rfl) (ev2 rfl (ev2 rfl evn))) rfl (BVs.refl _ _) (eH _ _ _ O) rfl,
      gt e (zn rfl),
      go (zpf (.b (!y)) e), trivial⟩
    · exact cK (aI rfl (aN ⟨rfl, rfl, trivial⟩))
  ·refine aB ?_;refine aZ rfl (fun C => ?_) (fun C => ?_)
   ·have h := aK C h;refine aC (aA (ta (.b false) (aB ?_)));have h := Option.some.inj h;subst h;refine bT (bL (bO (l := [2]) ⟨rfl, trivial⟩)) ?_;exact bB ⟨rfl, _, .one _, rfl, rfl⟩
   ·have h := aJ C h;refine aY (aC (aA (ta (.i 0) (aB ?_))));refine uZ ?_;refine bY [1, 3] (fun (z : Int) => [(4, .i z)]) (fun (z : Int) => [.box b1 0 (aP a)]) (fun (k : Nat) (z : Int) => fX (dS a k3) c a k z) (fun _ => rfl) (0) h (aQ [0] rfl rfl (aI rfl (aN ⟨rfl, rfl, trivial⟩))) ?_;rintro a2 j h;simp only [fX] at h;refine aC (aC (aA (tm (.i j) (tm (.i c) (to (scm rfl rfl rfl) (aB ?_))))));refine aZ rfl (fun E => ?_) (fun E => ?_)
    ·have h := aK E h;refine aY (aC (bF (aC ?_)));obtain ⟨t, P, h⟩ := bind_some h;obtain ⟨u, Q, h⟩ := bind_some h;refine cV mix 12 [1, 3, 4] [(44, .i t.Person), (50, .i u.Person)] ?_ ?_
     ·refine ⟨[(39, 0, .bp b1 0 6), (40, 1, .d (.sl 2 (a.Levies.map cS))), (41, 2, .i j), (42, 3, .cp [.lit (.int .i64 t.Person), .lit (.int .i64 t.Mille)]), (43, 4, .cp [.lit (.int .i64 t.Person)]), (44, 5, .i t.Person), (45, 6, .bp b1 0 6), (46, 7, .d (.sl 2 (a.Levies.map cS))), (47, 8, .i c), (48, 9, .cp [.lit (.int .i64 u.Person), .lit (.int .i64 u.Mille)]), (49, 10, .cp [.lit (.int .i64 u.Person)]), (50, 11, .i u.Person)], ?_, ?_⟩
      · exact dok [([], []), ([0], []), ([], []), ([1, 2], []), ([3], []), ([4], []), ([], []), ([6], []), ([], []), ([7, 8], []), ([9], []), ([10], [])] ⟨go (zf rfl pT),
      go (zl 0 rfl rfl rfl vE),
      go (zm (.i j)),
      go (zix rfl rfl tO.of (bA cS P)),
      go (zfc [.lit (.int .i64 t.Person)] rfl xU),
      go (zlc rfl aU),
      go (zf rfl pT),
      go (zl 0 rfl rfl rfl vE),
      go (zm (.i c)),
      go (zix rfl rfl tO.of (bA cS Q)),
      go (zfc [.lit (.int .i64 u.Person)] rfl xU),
      go (zlc rfl aU), trivial⟩
      · exact cK (aI rfl (aI rfl (aN ⟨rfl, rfl, rfl, trivial⟩)))
     ·refine to (scm rfl rfl rfl) (aB ?_);refine aZ rfl (fun F => ?_) (fun F => ?_)
      ·have h := aK F h;refine aC (aA (ta (.b false) (aB ?_)));have h := Option.some.inj h;subst h;refine bT (bL (bO (l := [2]) ⟨rfl, trivial⟩)) ?_;exact bB ⟨rfl, _, .one _, rfl, rfl⟩
      ·have h := aJ F h;refine cR ?_;refine aA (tm (.i j) (to (sar rfl rfl rfl) (ta (.i (w64 (j + 1))) (aB ?_))));exact ⟨(w64 (j + 1)), h, aQ [0] rfl rfl (aI rfl (aN ⟨rfl, rfl, trivial⟩))⟩
    ·have h := aJ E h;refine cB ?_;refine .inl ⟨rfl, ?_⟩;simp only [rA] at h;simp only [qZ] at h;refine aA (tm (.i c) (to (sar rfl rfl rfl) (ta (.i (w64 (c + 1))) (aB ?_))));exact ⟨(w64 (c + 1)), h, aQ [0] rfl rfl (aI rfl (aN ⟨rfl, trivial⟩))⟩
 ·have h := aJ c4 h;refine cB ?_;refine .inl ⟨rfl, ?_⟩;simp only [kQ] at h;refine aC (aC (aA (ta (.i 0) (aB (bF ?_)))));refine bY [1] (fun (A : Int) => [(5, .i A)]) (fun (A : Int) => [.box b1 0 (aP a)]) (fun (k : Nat) (A : Int) => dT a k A) (fun _ => rfl) (0) h (aQ [0] rfl rfl (aI rfl (aN ⟨rfl, trivial⟩))) ?_;rintro T f h;simp only [dT] at h;refine aC (aC (aA (tm (.i f) (to (sf rfl uA) (to (sl 0 rfl rfl rfl aBa) (to (sle rfl xE.of) (to (scm rfl rfl rfl) (aB ?_))))))));refine aZ rfl (fun G => ?_) (fun G => ?_)
  ·have h := aK G h;refine aY (aC (bF (aC (aA (to (sf rfl uA) (to (sl 0 rfl rfl rfl aBa) (tm (.i f) ?_)))))));obtain ⟨w, U, h⟩ := bind_some h;refine to (six rfl rfl xE.of (bA dB U)) (to (qH (dB w) rfl aJu) ?_);refine bE rfl (cM (zs := [.lit (.int .i64 0), .lit (.int .i64 0), .lit (.int .i64 0)]) (aD rfl) Tryz.zeroValue80 rfl rfl) ?_;rintro _ ⟨L, rfl⟩;refine to (sst 1 rfl rfl Tryz.sizeOf80 (dB w)) (aB (aC (aC (aA (to (sla 0 (aP a) rfl rfl eI) (to (sf rfl xV) (to (sl 1 rfl rfl rfl aU) ?_)))))));obtain ⟨M, V, h⟩ := bind_some h;refine to (scr Tryz.call11 (lQ _ _ V)) (to (sn rfl) (tm (.b (!M)) ?_));obtain ⟨H, p, h⟩ := bind_some h;refine bH 5 [1, 5, 6] 74 H ?_ ?_
   ·refine aW (!M) (fun m => ?_) (fun m => ?_)
    ·have p := aK m p;refine tp m (tp m (tp m (tp m (to (spt (.b true) m) ?_))));have p := Option.some.inj p;subst p;refine aB (aO rfl ⟨rfl, rfl, rfl, trivial⟩ rfl)
    ·have p := aJ m p;refine tk m (sf rfl aDu) (tk m (sl 1 rfl rfl rfl aU) ?_);obtain ⟨W, X, p⟩ := bind_some p;refine tk m (scr Tryz.call50 (eH _ _ _ X)) (tk m (sn rfl) (to (spf (.b (!W)) m) ?_));have p := Option.some.inj p;subst p;refine aB (aO rfl ⟨rfl, rfl, rfl, trivial⟩ rfl)
   ·refine tm (.b H) ?_;obtain ⟨Y, q, h⟩ := bind_some h;refine bH 5 [1, 5, 6] 80 Y ?_ ?_
    ·refine aW (H) (fun n => ?_) (fun n => ?_)
     ·have q := aK n q;refine tp n (tp n (tp n (tp n (to (spt (.b true) n) ?_))));have q := Option.some.inj q;subst q;refine aB (aO rfl ⟨rfl, rfl, rfl, trivial⟩ rfl)
     ·have q := aJ n q;refine tk n (sf rfl aJi) (tk n (sl 1 rfl rfl rfl aU) ?_);obtain ⟨Z, a0, q⟩ := bind_some q;refine tk n (scr Tryz.call50 (eH _ _ _ a0)) (tk n (sn rfl) (to (spf (.b (!Z)) n) ?_));have q := Option.some.inj q;subst q;refine aB (aO rfl ⟨rfl, rfl, rfl, trivial⟩ rfl)
    ·refine aB ?_;refine aZ rfl (fun I => ?_) (fun I => ?_)
     ·have h := aK I h;refine aC (aA (ta (.b false) (aB ?_)));have h := Option.some.inj h;subst h;refine bT (bL (bO (l := [2]) ⟨rfl, trivial⟩)) ?_;exact bB ⟨rfl, _, .one _, rfl, rfl⟩
     ·have h := aJ I h;refine aY (aC (aA (ta (.i 0) (aB ?_))));refine uZ ?_;refine bY [1, 5, 6] (fun (B : Int) => [(7, .i B)]) (fun (B : Int) => [.box b1 0 (aP a), .box L 0 (dB w)]) (fun (k : Nat) (B : Int) => fY (dT a T) f a w k B) (fun _ => rfl) (0) h (aQ [0, 1] rfl rfl (aI rfl (aN ⟨rfl, rfl, rfl, trivial⟩))) ?_;rintro a3 o h;simp only [fY] at h;refine aC (aC (aA (tm (.i o) (tm (.i f) (to (scm rfl rfl rfl) (aB ?_))))));refine aZ rfl (fun J => ?_) (fun J => ?_)
      ·have h := aK J h;refine aY (aC (bF (aC ?_)));obtain ⟨s, a1, h⟩ := bind_some h;refine cV mix 8 [1, 5, 6, 7] [(91, .i s.Person), (93, .i w.Person)] ?_ ?_
       ·refine ⟨[(86, 0, .bp b1 0 7), (87, 1, .d (.sl 3 (a.Rates.map dB))), (88, 2, .i o), (89, 3, .cp [.lit (.int .i64 s.Person), .lit (.int .i64 s.Num), .lit (.int .i64 s.Den)]), (90, 4, .cp [.lit (.int .i64 s.Person)]), (91, 5, .i s.Person), (92, 6, .bp L 0 0), (93, 7, .i w.Person)], ?_, ?_⟩
        · exact dok [([], []), ([0], []), ([], []), ([1, 2], []), ([3], []), ([4], []), ([], []), ([6], [])] ⟨go (zf rfl uA),
      go (zl 0 rfl rfl rfl aBa),
      go (zm (.i o)),
      go (zix rfl rfl xE.of (bA dB a1)),
      go (zfc [.lit (.int .i64 s.Person)] rfl xV),
      go (zlc rfl aU),
      go (zf rfl xV),
      go (zl 1 rfl rfl rfl aU), trivial⟩
        · exact cK (aI rfl (aI rfl (aN ⟨rfl, rfl, rfl, rfl, trivial⟩)))
       ·refine to (scm rfl rfl rfl) (aB ?_);refine aZ rfl (fun K => ?_) (fun K => ?_)
        ·have h := aK K h;refine aC (aA (ta (.b false) (aB ?_)));have h := Option.some.inj h;subst h;refine bT (bL (bO (l := [2]) ⟨rfl, trivial⟩)) ?_;exact bB ⟨rfl, _, .one _, rfl, rfl⟩
        ·have h := aJ K h;refine cR ?_;refine aA (tm (.i o) (to (sar rfl rfl rfl) (ta (.i (w64 (o + 1))) (aB ?_))));exact ⟨(w64 (o + 1)), h, aQ [0, 1] rfl rfl (aI rfl (aN ⟨rfl, rfl, rfl, trivial⟩))⟩
      ·have h := aJ J h;refine cB ?_;refine .inl ⟨rfl, ?_⟩;simp only [rD] at h;simp only [rC] at h;refine aA (tm (.i f) (to (sar rfl rfl rfl) (ta (.i (w64 (f + 1))) (aB ?_))));exact ⟨(w64 (f + 1)), h, aQ [0] rfl rfl (aI rfl (aN ⟨rfl, trivial⟩))⟩
  ·have h := aJ G h;refine cB ?_;refine .inl ⟨rfl, ?_⟩;simp only [rB] at h;refine aC (aA (ta (.b true) (aB ?_)));have h := Option.some.inj h;subst h;refine bT (bL (bO (l := [2]) ⟨rfl, trivial⟩)) ?_;exact bB ⟨rfl, _, .one _, rfl, rfl⟩

theorem aCt (o : aR) {r : Bool} (h : mQ o = some r) : Fn Tryz.prog 53 [.agg (aP o)] (.b r) := by
 unfold mQ at h;refine Fn.of_tr Tryz.func53 rfl (rs := [.tmp 2]) Tryz.results53 Tryz.ntmps53 (Nat.le_of_ble_eq_true rfl) ?_;refine aC (aA ?_);refine bE rfl (dN (v := .agg (aP o)) (aD rfl) rfl rfl rfl) ?_;rintro _ ⟨b1, rfl⟩;refine ta (.b false) (aB (aC (aC (aA (ta (.i 0) (aB (bF ?_)))))));refine bY [1] (fun (s2 : Int) => [(3, .i s2)]) (fun (s2 : Int) => [.box b1 0 (aP o)]) (fun (k : Nat) (s2 : Int) => dR o k s2) (fun _ => rfl) (0) h (aQ [0] rfl rfl (aI rfl (aN ⟨rfl, trivial⟩))) ?_;rintro k3 p h;simp only [dR] at h;refine aC (aC (aA (tm (.i p) (to (sf rfl nC) (to (sl 0 rfl rfl rfl sY) (to (sle rfl dC.of) (to (scm rfl rfl rfl) (aB ?_))))))));refine aZ rfl (fun c4 => ?_) (fun c4 => ?_)
 ·have h := aK c4 h;refine aY (aC (bF (aC (aA (to (sf rfl nC) (to (sl 0 rfl rfl rfl sY) (tm (.i p) ?_)))))));obtain ⟨x5, h6, h⟩ := bind_some h;refine to (six rfl rfl dC.of (bA aE h6)) (to (qH (aE x5) rfl gS) ?_);refine bE rfl (cM (zs := [.lit (.int .i64 0), .lit (.int .i64 0), .lit (.int .i64 0), .lit (.int .i64 0)]) (aD rfl) Tryz.zeroValue76 rfl rfl) ?_;rintro _ ⟨b7, rfl⟩;refine to (sst 1 rfl rfl Tryz.sizeOf76 (aE x5)) (aB (aC (aC (aA (to (sf rfl nD) (to (sl 1 rfl rfl rfl aU) ?_))))));obtain ⟨r8, h9, h⟩ := bind_some h;refine to (scr Tryz.call50 (eH _ _ _ h9)) (to (sn rfl) (tm (.b (!r8)) ?_));obtain ⟨B, q, h⟩ := bind_some h;refine bH 6 [1, 3, 4] 28 B ?_ ?_
  ·refine aW (!r8) (fun m => ?_) (fun m => ?_)
   ·have q := aK m q;refine tp m (tp m (tp m (tp m (tp m (to (spt (.b true) m) ?_)))));have q := Option.some.inj q;subst q;refine aB (aO rfl ⟨rfl, rfl, rfl, trivial⟩ rfl)
   ·have q := aJ m q;refine tk m (sla 0 (aP o) rfl rfl eI) (tk m (sf rfl aDt) (tk m (sl 1 rfl rfl rfl aU) ?_));obtain ⟨K, L, q⟩ := bind_some q;refine tk m (scr Tryz.call11 (lQ _ _ L)) (tk m (sn rfl) (to (spf (.b (!K)) m) ?_));have q := Option.some.inj q;subst q;refine aB (aO rfl ⟨rfl, rfl, rfl, trivial⟩ rfl)
  ·refine tm (.b B) ?_;obtain ⟨M, n, h⟩ := bind_some h;refine bH 20 [1, 3, 4] 49 M ?_ ?_
   ·refine aW (B) (fun c => ?_) (fun c => ?_)
    ·have n := aK c n;refine tp c (tp c (tp c (tp c (tq (tq (tq (tp c (tp c (tq (tq (tq (tq (tq ?_)))))))))))));refine tq (tq (tq (tp c (tp c (to (spt (.b true) c) ?_)))));have n := Option.some.inj n;subst n;refine aB (aO rfl ⟨rfl, rfl, rfl, trivial⟩ rfl)
    ·have n := aJ c n;refine tk c (sf rfl uC) (tk c (sl 1 rfl rfl rfl aU) (tk c (scm rfl rfl rfl) (tk c (sm (.b (decide (x5.Kind = 1)))) ?_)));obtain ⟨C, s, n⟩ := bind_some n;refine bH 4 [1, 3, 4, 29, 30, 31, 32, 33] 37 C ?_ ?_
     ·refine aW (decide (x5.Kind = 1)) (fun x => ?_) (fun x => ?_)
      ·have s := aK x s;refine tk x (sf rfl xT) (tk x (sl 1 rfl rfl rfl aU) ?_);obtain ⟨N, O, s⟩ := bind_some s;refine tk x (scr Tryz.call50 (eH _ _ _ O)) (tk c (spt (.b N) x) ?_);have s := Option.some.inj s;subst s;refine aB (aO rfl ⟨rfl, rfl, rfl, rfl, rfl, rfl, rfl, rfl, trivial⟩ rfl)
      ·have s := aJ x s;refine tp x (tp x (tp x (tk c (spf (.b false) x) ?_)));have s := Option.some.inj s;subst s;refine aB (aO rfl ⟨rfl, rfl, rfl, rfl, rfl, rfl, rfl, rfl, trivial⟩ rfl)
     ·refine tk c (sm (.b C)) ?_;obtain ⟨H, t, n⟩ := bind_some n;refine bH 9 [1, 3, 4, 29, 30, 31, 32, 33, 37, 38] 47 H ?_ ?_
      ·refine aW (C) (fun j => ?_) (fun j => ?_)
       ·have t := aK j t;refine tp j (tp j (tp j (tp j (tq (tq (tq (tp j (tk c (spt (.b true) j) ?_))))))));have t := Option.some.inj t;subst t;refine aB (aO rfl ⟨rfl, rfl, rfl, rfl, rfl, rfl, rfl, rfl, rfl, rfl, trivial⟩ rfl)
       ·have t := aJ j t;refine tk j (sf rfl uC) (tk j (sl 1 rfl rfl rfl aU) (tk j (scm rfl rfl rfl) (tk j (sm (.b (decide (x5.Kind = 2)))) ?_)));obtain ⟨I, u, t⟩ := bind_some t;refine bH 4 [1, 3, 4, 29, 30, 31, 32, 33, 37, 38, 39, 40, 41, 42] 46 I ?_ ?_
        ·refine aW (decide (x5.Kind = 2)) (fun y => ?_) (fun y => ?_)
         ·have u := aK y u;refine tk y (sf rfl xT) (tk y (sl 1 rfl rfl rfl aU) ?_);obtain ⟨P, Q, u⟩ := bind_some u;refine tk y (scr Tryz.call50 (eH _ _ _ Q)) (tk j (spt (.b P) y) ?_);have u := Option.some.inj u;subst u;refine aB (aO rfl ⟨rfl, rfl, rfl, rfl, rfl, rfl, rfl, rfl, rfl, rfl, rfl, rfl, rfl, rfl, trivial⟩ rfl)
         ·have u := aJ y u;refine tp y (tp y (tp y (tk j (spf (.b false) y) ?_)));have u := Option.some.inj u;subst u;refine aB (aO rfl ⟨rfl, rfl, rfl, rfl, rfl, rfl, rfl, rfl, rfl, rfl, rfl, rfl, rfl, rfl, trivial⟩ rfl)
        ·refine tk c (spf (.b I) j) ?_;have t := Option.some.inj t;subst t;refine aB (aO rfl ⟨rfl, rfl, rfl, rfl, rfl, rfl, rfl, rfl, rfl, rfl, trivial⟩ rfl)
      ·refine tk c (sn rfl) (to (spf (.b (!H)) c) ?_);have n := Option.some.inj n;subst n;refine aB (aO rfl ⟨rfl, rfl, rfl, trivial⟩ rfl)
   ·refine aB ?_;refine aZ rfl (fun E => ?_) (fun E => ?_)
    ·have h := aK E h;refine aC (aA (ta (.b false) (aB ?_)));have h := Option.some.inj h;subst h;refine bT (bL (bO (l := [2]) ⟨rfl, trivial⟩)) ?_;exact bB ⟨rfl, _, .one _, rfl, rfl⟩
    ·have h := aJ E h;refine aY (aC (aA (ta (.i 0) (aB ?_))));refine uZ ?_;refine bY [1, 3, 4] (fun (A : Int) => [(5, .i A)]) (fun (A : Int) => [.box b1 0 (aP o), .box b7 0 (aE x5)]) (fun (k : Nat) (A : Int) => fW (dR o k3) p o x5 k A) (fun _ => rfl) (0) h (aQ [0, 1] rfl rfl (aI rfl (aN ⟨rfl, rfl, rfl, trivial⟩))) ?_;rintro V e h;simp only [fW] at h;refine aC (aC (aA (tm (.i e) (tm (.i p) (to (scm rfl rfl rfl) (aB ?_))))));refine aZ rfl (fun F => ?_) (fun F => ?_)
     ·have h := aK F h;refine aY (aC (bF (aC ?_)));obtain ⟨f, J, h⟩ := bind_some h;obtain ⟨T, w, h⟩ := bind_some h;refine cV mix 18 [1, 3, 4, 5] [(72, .b T)] ?_ ?_
      ·refine aW (decide (f.Id = x5.Id)) (fun g => ?_) (fun g => ?_)
       ·have w := aK g w;obtain ⟨z, U, w⟩ := bind_some w;have w := Option.some.inj w;subst w;refine ⟨[(55, 0, .bp b1 0 8), (56, 1, .d (.sl 4 (o.Items.map aE))), (57, 2, .i e), (58, 3, .cp [.lit (.int .i64 f.Id), .lit (.int .i64 f.Kind), .lit (.int .i64 f.Person), .lit (.int .i64 f.Amount)]), (59, 4, .cp [.lit (.int .i64 f.Id)]), (60, 5, .i f.Id), (61, 6, .bp b7 0 0), (62, 7, .i x5.Id), (63, 8, .b (decide (f.Id = x5.Id))), (64, 9, .b (decide (f.Id = x5.Id))), (65, 10, .bp b1 0 8), (66, 11, .d (.sl 4 (o.Items.map aE))), (67, 12, .i e), (68, 13, .cp [.lit (.int .i64 z.Id), .lit (.int .i64 z.Kind), .lit (.int .i64 z.Person), .lit (.int .i64 z.Amount)]), (69, 14, .agg (aE z)), (70, 15, .agg (aE x5)), (71, 16, .b (!decide (z = x5))), (72, 17, .b (!decide (z = x5)))], ?_, ?_⟩
        · exact dok [([], []), ([0], []), ([], []), ([1, 2], []), ([3], []), ([4], []), ([], []), ([6], []), ([5, 7], []), ([8], []), ([9], []), ([9, 10], []), ([9], []), ([9, 11, 12], []), ([9, 13], []), ([9], []), ([9, 14, 15], []), ([9, 16], [])] ⟨go (zf rfl nC),
      go (zl 0 rfl rfl rfl sY),
      go (zm (.i e)),
      go (zix rfl rfl dC.of (bA aE J)),
      go (zfc [.lit (.int .i64 f.Id)] rfl nD),
      go (zlc rfl aU),
      go (zf rfl nD),
      go (zl 1 rfl rfl rfl aU),
      go (zcm rfl rfl rfl),
      go (zm (.b (decide (f.Id = x5.Id)))),
      gt g (zf rfl nC),
      gt g (zl 0 rfl rfl rfl sY),
      gt g (zm (.i e)),
      gt g (zix rfl rfl dC.of (bA aE U)),
      gt g (aWj (aE z) rfl gS),
      gt g (zla 1 (aE x5) rfl rfl gS),
      gt g fun S hS => aHy (a := z) (b := x5) (aD rfl) (aX hS rfl) (aX hS rfl) rfl rfl Tryz.eqGuardType76 aKe,
      go (zpt (.b (!decide (z = x5))) g), trivial⟩
        · exact cK (aI rfl (aN ⟨rfl, rfl, rfl, rfl, trivial⟩))
       ·have w := aJ g w;have w := Option.some.inj w;subst w;refine ⟨[(55, 0, .bp b1 0 8), (56, 1, .d (.sl 4 (o.Items.map aE))), (57, 2, .i e), (58, 3, .cp [.lit (.int .i64 f.Id), .lit (.int .i64 f.Kind), .lit (.int .i64 f.Person), .lit (.int .i64 f.Amount)]), (59, 4, .cp [.lit (.int .i64 f.Id)]), (60, 5, .i f.Id), (61, 6, .bp b7 0 0), (62, 7, .i x5.Id), (63, 8, .b (decide (f.Id = x5.Id))), (64, 9, .b (decide (f.Id = x5.Id))), (65, 10, .tup []), (66, 11, .tup []), (67, 12, .tup []), (68, 13, .tup []), (69, 14, .tup []), (70, 15, .tup []), (71, 16, .tup []), (72, 17, .b false)], ?_, ?_⟩
        · exact dok [([], []), ([0], []), ([], []), ([1, 2], []), ([3], []), ([4], []), ([], []), ([6], []), ([5, 7], []), ([8], []), ([9], []), ([9, 10], []), ([9], []), ([9, 11, 12], []), ([9, 13], []), ([9], []), ([9, 14, 15], []), ([9, 16], [])] ⟨go (zf rfl nC),
      go (zl 0 rfl rfl rfl sY),
      go (zm (.i e)),
      go (zix rfl rfl dC.of (bA aE J)),
      go (zfc [.lit (.int .i64 f.Id)] rfl nD),
      go (zlc rfl aU),
      go (zf rfl nD),
      go (zl 1 rfl rfl rfl aU),
      go (zcm rfl rfl rfl),
      go (zm (.b (decide (f.Id = x5.Id)))),
      gp g,
      gp g,
      gp g,
      gp g,
      gp g,
      gp g,
      gp g,
      go (zpf (.b false) g), trivial⟩
        · exact cK (aI rfl (aN ⟨rfl, rfl, rfl, rfl, trivial⟩))
      ·refine aB ?_;refine aZ rfl (fun G => ?_) (fun G => ?_)
       ·have h := aK G h;refine aC (aA (ta (.b false) (aB ?_)));have h := Option.some.inj h;subst h;refine bT (bL (bO (l := [2]) ⟨rfl, trivial⟩)) ?_;exact bB ⟨rfl, _, .one _, rfl, rfl⟩
       ·have h := aJ G h;refine cR ?_;refine aA (tm (.i e) (to (sar rfl rfl rfl) (ta (.i (w64 (e + 1))) (aB ?_))));exact ⟨(w64 (e + 1)), h, aQ [0, 1] rfl rfl (aI rfl (aN ⟨rfl, rfl, rfl, trivial⟩))⟩
     ·have h := aJ F h;refine cB ?_;refine .inl ⟨rfl, ?_⟩;simp only [qY] at h;simp only [qX] at h;refine aA (tm (.i p) (to (sar rfl rfl rfl) (ta (.i (w64 (p + 1))) (aB ?_))));exact ⟨(w64 (p + 1)), h, aQ [0] rfl rfl (aI rfl (aN ⟨rfl, trivial⟩))⟩
 ·have h := aJ c4 h;refine cB ?_;refine .inl ⟨rfl, ?_⟩;simp only [nK] at h;refine aC (aA (to (sf rfl nC) (to (sl 0 rfl rfl rfl sY) (to (sle rfl dC.of) (to (scm rfl rfl rfl) (ta (.b (decide ((o.Items.length : Int) ≤ 40))) (aB ?_)))))));have h := Option.some.inj h;subst h;refine bT (bL (bO (l := [2]) ⟨rfl, trivial⟩)) ?_;exact bB ⟨rfl, _, .one _, rfl, rfl⟩

theorem yO (e : aR) {r : Int} (h : nA e = some r) : Fn Tryz.prog 24 [.agg (aP e)] (.i r) := by
 unfold nA at h;refine Fn.of_tr Tryz.func24 rfl (rs := [.tmp 2]) Tryz.results24 Tryz.ntmps24 (Nat.le_of_ble_eq_true rfl) ?_;refine aC (aA ?_);refine bE rfl (dN (v := .agg (aP e)) (aD rfl) rfl rfl rfl) ?_;rintro _ ⟨b1, rfl⟩;refine ta (.i 0) (aB (aC (aC (aA (to (sf rfl gH) (to (sla 0 (bC e.Tree) rfl rfl jR) (to (sf rfl oG) (to (sl 0 rfl rfl rfl uG) ?_))))))));obtain ⟨r2, h3, h⟩ := bind_some h;refine to (scr Tryz.call49 (yN _ _ h3)) (ta (.i r2) (aB (aC (aA (tm (.i r2) (to (scm rfl rfl rfl) (aB ?_)))))));refine aZ rfl (fun c4 => ?_) (fun c4 => ?_)
 ·have h := aK c4 h;refine aC (aA (tm (.i r2) (ta (.i r2) (aB ?_))));have h := Option.some.inj h;subst h;refine bT (bL (bO (l := [2]) ⟨rfl, trivial⟩)) ?_;exact bB ⟨rfl, _, .one _, rfl, rfl⟩
 ·have h := aJ c4 h;refine aY (aC (aC (aA (ta (.i 0) (aB (bF ?_))))));refine bY [1] (fun (s5 : Int) => [(4, .i s5)]) (fun (s5 : Int) => [.box b1 0 (aP e)]) (fun (k : Nat) (s5 : Int) => iH e k s5) (fun _ => rfl) (0) h (aQ [0] rfl rfl (aI rfl (aN ⟨rfl, trivial⟩))) ?_;rintro k6 a h;simp only [iH] at h;refine aC (aC (aA (tm (.i a) (to (sf rfl fP) (to (sl 0 rfl rfl rfl cI) (to (sle rfl bJ.of) (to (scm rfl rfl rfl) (aB ?_))))))));refine aZ rfl (fun c7 => ?_) (fun c7 => ?_)
  ·have h := aK c7 h;refine aY (aC (bF (aC ?_)));obtain ⟨x8, h9, h⟩ := bind_some h;obtain ⟨m, u, h⟩ := bind_some h;obtain ⟨B, g, h⟩ := bind_some h;refine cV mix 25 [1, 4] [(44, .b B)] ?_ ?_
   ·refine aW (!m) (fun f => ?_) (fun f => ?_)
    ·have g := aK f g;have g := Option.some.inj g;subst g;refine ⟨[(20, 0, .bp b1 0 3), (21, 1, .d (.sl 1 (e.Prizes.map aM))), (22, 2, .i a), (23, 3, .cp [.lit (.int .i64 x8)]), (24, 4, .i x8), (25, 5, .b m), (26, 6, .b (!m)), (27, 7, .b (!m)), (28, 8, .tup []), (29, 9, .tup []), (30, 10, .tup []), (31, 11, .tup []), (32, 12, .tup []), (33, 13, .tup []), (34, 14, .tup []), (35, 15, .tup []), (36, 16, .tup []), (37, 17, .tup []), (38, 18, .tup []), (39, 19, .tup []), (40, 20, .tup []), (41, 21, .tup []), (42, 22, .tup []), (43, 23, .tup []), (44, 24, .b true)], ?_, ?_⟩
     · exact dok [([], []), ([0], []), ([], []), ([1, 2], []), ([3], []), ([4], []), ([5], []), ([6], []), ([7], []), ([7, 8], []), ([7, 9], []), ([10], []), ([10, 11], []), ([10], []), ([10, 12, 13], []), ([10, 14], []), ([10], []), ([10, 16], []), ([10], []), ([10, 18], []), ([10, 17, 19], []), ([10, 20], []), ([10, 15, 21], []), ([7, 10, 22], []), ([7, 23], [])] ⟨go (zf rfl fP),
      go (zl 0 rfl rfl rfl cI),
      go (zm (.i a)),
      go (zix rfl rfl bJ.of (bA aM h9)),
      go (zlc rfl aU),
      go fun S hS => fS (aD rfl) (.func _ _ Tryz.call50) (ev2 (aX hS rfl) (ev2 rfl (ev2 rfl evn))) rfl (BVs.refl _ _) (eH _ _ _ u) rfl,
      go (zn rfl),
      go (zm (.b (!m))),
      gp f,
      gp f,
      gp f,
      gq,
      gq,
      gq,
      gq,
      gq,
      gq,
      gq,
      gq,
      gq,
      gq,
      gq,
      gq,
      gp f,
      go (zpt (.b true) f), trivial⟩
     · exact cK (aI rfl (aN ⟨rfl, rfl, trivial⟩))
    ·have g := aJ f g;obtain ⟨N, j, g⟩ := bind_some g;refine aW (decide (0 < a)) (fun c => ?_) (fun c => ?_)
     ·have j := aK c j;obtain ⟨s, C, j⟩ := bind_some j;obtain ⟨t, E, j⟩ := bind_some j;have j := Option.some.inj j;subst j;have g := Option.some.inj g;subst g;refine ⟨[(20, 0, .bp b1 0 3), (21, 1, .d (.sl 1 (e.Prizes.map aM))), (22, 2, .i a), (23, 3, .cp [.lit (.int .i64 x8)]), (24, 4, .i x8), (25, 5, .b m), (26, 6, .b (!m)), (27, 7, .b (!m)), (28, 8, .i a), (29, 9, .b (decide (0 < a))), (30, 10, .b (decide (0 < a))), (31, 11, .bp b1 0 3), (32, 12, .d (.sl 1 (e.Prizes.map aM))), (33, 13, .i a), (34, 14, .cp [.lit (.int .i64 s)]), (35, 15, .i s), (36, 16, .bp b1 0 3), (37, 17, .d (.sl 1 (e.Prizes.map aM))), (38, 18, .i a), (39, 19, .i (w64 (a - 1))), (40, 20, .cp [.lit (.int .i64 t)]), (41, 21, .i t), (42, 22, .b (decide (s < t))), (43, 23, .b (decide (s < t))), (44, 24, .b (decide (s < t)))], ?_, ?_⟩
      · exact dok [([], []), ([0], []), ([], []), ([1, 2], []), ([3], []), ([4], []), ([5], []), ([6], []), ([7], []), ([7, 8], []), ([7, 9], []), ([10], []), ([10, 11], []), ([10], []), ([10, 12, 13], []), ([10, 14], []), ([10], []), ([10, 16], []), ([10], []), ([10, 18], []), ([10, 17, 19], []), ([10, 20], []), ([10, 15, 21], []), ([7, 10, 22], []), ([7, 23], [])] ⟨go (zf rfl fP),
      go (zl 0 rfl rfl rfl cI),
      go (zm (.i a)),
      go (zix rfl rfl bJ.of (bA aM h9)),
      go (zlc rfl aU),
      go fun S hS => fS (aD rfl) (.func _ _ Tryz.call50) (ev2 (aX hS rfl) (ev2 rfl (ev2 rfl evn))) rfl (BVs.refl _ _) (eH _ _ _ u) rfl,
      go (zn rfl),
      go (zm (.b (!m))),
      gt f (zm (.i a)),
      gt f (zcm rfl rfl rfl),
      gt f (zm (.b (decide (0 < a)))),
      gt c (zf rfl fP),
      gt c (zl 0 rfl rfl rfl cI),
      gt c (zm (.i a)),
      gt c (zix rfl rfl bJ.of (bA aM C)),
      gt c (zlc rfl aU),
      gt c (zf rfl fP),
      gt c (zl 0 rfl rfl rfl cI),
      gt c (zm (.i a)),
      gt c (zar rfl rfl rfl),
      gt c (zix rfl rfl bJ.of (bA aM E)),
      gt c (zlc rfl aU),
      gt c (zcm rfl rfl rfl),
      gt f (zpt (.b (decide (s < t))) c),
      go (zpf (.b (decide (s < t))) f), trivial⟩
      · exact cK (aI rfl (aN ⟨rfl, rfl, trivial⟩))
     ·have j := aJ c j;have j := Option.some.inj j;subst j;have g := Option.some.inj g;subst g;refine ⟨[(20, 0, .bp b1 0 3), (21, 1, .d (.sl 1 (e.Prizes.map aM))), (22, 2, .i a), (23, 3, .cp [.lit (.int .i64 x8)]), (24, 4, .i x8), (25, 5, .b m), (26, 6, .b (!m)), (27, 7, .b (!m)), (28, 8, .i a), (29, 9, .b (decide (0 < a))), (30, 10, .b (decide (0 < a))), (31, 11, .tup []), (32, 12, .tup []), (33, 13, .tup []), (34, 14, .tup []), (35, 15, .tup []), (36, 16, .tup []), (37, 17, .tup []), (38, 18, .tup []), (39, 19, .tup []), (40, 20, .tup []), (41, 21, .tup []), (42, 22, .tup []), (43, 23, .b false), (44, 24, .b (false))], ?_, ?_⟩
      · exact dok [([], []), ([0], []), ([], []), ([1, 2], []), ([3], []), ([4], []), ([5], []), ([6], []), ([7], []), ([7, 8], []), ([7, 9], []), ([10], []), ([10, 11], []), ([10], []), ([10, 12, 13], []), ([10, 14], []), ([10], []), ([10, 16], []), ([10], []), ([10, 18], []), ([10, 17, 19], []), ([10, 20], []), ([10, 15, 21], []), ([7, 10, 22], []), ([7, 23], [])] ⟨go (zf rfl fP),
      go (zl 0 rfl rfl rfl cI),
      go (zm (.i a)),
      go (zix rfl rfl bJ.of (bA aM h9)),
      go (zlc rfl aU),
      go fun S hS => fS (aD rfl) (.func _ _ Tryz.call50) (ev2 (aX hS rfl) (ev2 rfl (ev2 rfl evn))) rfl (BVs.refl _ _) (eH _ _ _ u) rfl,
      go (zn rfl),
      go (zm (.b (!m))),
      gt f (zm (.i a)),
      gt f (zcm rfl rfl rfl),
      gt f (zm (.b (decide (0 < a)))),
      gp c,
      gp c,
      gp c,
      gp c,
      gp c,
      gp c,
      gp c,
      gp c,
      gp c,
      gp c,
      gp c,
      gp c,
      gt f (zpf (.b false) c),
      go (zpf (.b (false)) f), trivial⟩
      · exact cK (aI rfl (aN ⟨rfl, rfl, trivial⟩))
   ·refine aB ?_;refine aZ rfl (fun w => ?_) (fun w => ?_)
    ·have h := aK w h;refine aC (aA (ta (.i 100) (aB ?_)));have h := Option.some.inj h;subst h;refine bT (bL (bO (l := [2]) ⟨rfl, trivial⟩)) ?_;exact bB ⟨rfl, _, .one _, rfl, rfl⟩
    ·have h := aJ w h;refine cR ?_;refine aA (tm (.i a) (to (sar rfl rfl rfl) (ta (.i (w64 (a + 1))) (aB ?_))));exact ⟨(w64 (a + 1)), h, aQ [0] rfl rfl (aI rfl (aN ⟨rfl, trivial⟩))⟩
  ·have h := aJ c7 h;refine cB ?_;refine .inl ⟨rfl, ?_⟩;simp only [qE] at h;refine aC (aC (aA (to (sf rfl fP) (to (sl 0 rfl rfl rfl cI) (to (sle rfl bJ.of) (to (sf rfl gH) (to (sf rfl fI) (to (sl 0 rfl rfl rfl aU) (to (sar rfl rfl rfl) (to (scm rfl rfl rfl) (tm (.b (!decide ((e.Prizes.length : Int) = (w64 (e.Tree.Rounds + 1))))) ?_)))))))))));obtain ⟨F, o, h⟩ := bind_some h;refine bH 5 [1] 58 F ?_ ?_
   ·refine aW (!decide ((e.Prizes.length : Int) = (w64 (e.Tree.Rounds + 1)))) (fun n => ?_) (fun n => ?_)
    ·have o := aK n o;refine tp n (tp n (tp n (tp n (to (spt (.b true) n) ?_))));have o := Option.some.inj o;subst o;refine aB (aO rfl ⟨rfl, trivial⟩ rfl)
    ·have o := aJ n o;refine tk n (sf rfl aJf) (tk n (sl 0 rfl rfl rfl aU) ?_);obtain ⟨G, H, o⟩ := bind_some o;refine tk n (scr Tryz.call50 (eH _ _ _ H)) (tk n (sn rfl) (to (spf (.b (!G)) n) ?_));have o := Option.some.inj o;subst o;refine aB (aO rfl ⟨rfl, trivial⟩ rfl)
   ·refine aB ?_;refine aZ rfl (fun x => ?_) (fun x => ?_)
    ·have h := aK x h;refine aC (aA (ta (.i 100) (aB ?_)));have h := Option.some.inj h;subst h;refine bT (bL (bO (l := [2]) ⟨rfl, trivial⟩)) ?_;exact bB ⟨rfl, _, .one _, rfl, rfl⟩
    ·have h := aJ x h;refine aY (aC (aC (aA (to (sla 0 (aP e) rfl rfl eI) ?_))));obtain ⟨A, I, h⟩ := bind_some h;refine to (scr Tryz.call51 (aCv _ I)) (to (sn rfl) (tm (.b (!A)) ?_));obtain ⟨J, p, h⟩ := bind_some h;refine bH 4 [1] 66 J ?_ ?_
     ·refine aW (!A) (fun q => ?_) (fun q => ?_)
      ·have p := aK q p;refine tp q (tp q (tp q (to (spt (.b true) q) ?_)));have p := Option.some.inj p;subst p;refine aB (aO rfl ⟨rfl, trivial⟩ rfl)
      ·have p := aJ q p;refine tk q (sla 0 (aP e) rfl rfl eI) ?_;obtain ⟨K, L, p⟩ := bind_some p;refine tk q (scr Tryz.call52 (aCu _ L)) (tk q (sn rfl) (to (spf (.b (!K)) q) ?_));have p := Option.some.inj p;subst p;refine aB (aO rfl ⟨rfl, trivial⟩ rfl)
     ·refine aB ?_;refine aZ rfl (fun y => ?_) (fun y => ?_)
      ·have h := aK y h;refine aC (aA (ta (.i 101) (aB ?_)));have h := Option.some.inj h;subst h;refine bT (bL (bO (l := [2]) ⟨rfl, trivial⟩)) ?_;exact bB ⟨rfl, _, .one _, rfl, rfl⟩
      ·have h := aJ y h;refine aY (aC (aC (aA (to (sla 0 (aP e) rfl rfl eI) ?_))));obtain ⟨O, M, h⟩ := bind_some h;refine to (scr Tryz.call53 (aCt _ M)) (to (sn rfl) (aB ?_));refine aZ rfl (fun z => ?_) (fun z => ?_)
       ·have h := aK z h;refine aC (aA (ta (.i 102) (aB ?_)));have h := Option.some.inj h;subst h;refine bT (bL (bO (l := [2]) ⟨rfl, trivial⟩)) ?_;exact bB ⟨rfl, _, .one _, rfl, rfl⟩
       ·have h := aJ z h;refine aY (aC (aA (ta (.i 0) (aB ?_))));have h := Option.some.inj h;subst h;refine bT (bL (bO (l := [2]) ⟨rfl, trivial⟩)) ?_;exact bB ⟨rfl, _, .one _, rfl, rfl⟩

theorem aDm {r : aR} (h : nR = some r) : Fn Tryz.prog 39 [] (.agg (aP r)) := by
 unfold nR at h;refine gV Tryz.func39 rfl (rs := [.cell 0 31]) Tryz.results39 Tryz.ntmps39 (Nat.le_of_ble_eq_true rfl) ?_;refine aC (aA ?_);refine bE rfl (cM (zs := [.lit (.int .i64 0), .sl 1 ((([] : List Int)).map aM), .sl 5 ((([] : List aF)).map aL), .sl 1 ((([] : List Int)).map aM), .lit (.int .i64 0), .sl 3 ((([] : List bZ)).map bM), .sl 2 ((([] : List eS)).map cS), .sl 3 ((([] : List dZ)).map dB), .sl 4 ((([] : List aG)).map aE)]) (aD rfl) Tryz.zeroValue31 rfl rfl) ?_;rintro _ ⟨b1, rfl⟩;refine aB (aC (aA (to (fR (aD rfl) bJ rfl rfl (rows := ([1, 2, 3, 4]).map aM) rfl (cP (f := aM) fun _ => rfl) rfl (by decide)) ?_)));refine to (dE (aD rfl) aZc (zs := [.lit (.int .i64 0), .sl 1 ((([] : List Int)).map aM)]) rfl rfl rfl rfl (es := [.lit (.int .i64 2), .sl 1 ((([1, 2, 3, 4])).map aM)]) rfl) ?_;refine to (dE (aD rfl) aUm (zs := [.lit (.int .i64 0), .lit (.int .i64 0), .lit (.int .i64 0), .lit (.int .i64 0), .lit (.int .i64 0)]) rfl rfl rfl rfl (es := [.lit (.int .i64 1), .lit (.int .i64 0), .lit (.int .i64 0), .lit (.int .i64 1), .lit (.int .i64 0)]) rfl) ?_;refine to (fR (aD rfl) hC rfl rfl (rows := ([(aF.mk 1 0 0 1 0)]).map aL) rfl (cP (f := aL) fun _ => rfl) rfl (by decide)) ?_;refine to (fR (aD rfl) bJ rfl rfl (rows := ([100, 300, 1001]).map aM) rfl (cP (f := aM) fun _ => rfl) rfl (by decide)) ?_;refine to (dE (aD rfl) aHq (zs := [.lit (.int .i64 0), .lit (.int .i64 0), .lit (.int .i64 0)]) rfl rfl rfl rfl (es := [.lit (.int .i64 1), .lit (.int .i64 11), .lit (.int .i64 12)]) rfl) ?_;refine to (dE (aD rfl) aHq (zs := [.lit (.int .i64 0), .lit (.int .i64 0), .lit (.int .i64 0)]) rfl rfl rfl rfl (es := [.lit (.int .i64 2), .lit (.int .i64 21), .lit (.int .i64 22)]) rfl) ?_;refine to (dE (aD rfl) aHq (zs := [.lit (.int .i64 0), .lit (.int .i64 0), .lit (.int .i64 0)]) rfl rfl rfl rfl (es := [.lit (.int .i64 3), .lit (.int .i64 31), .lit (.int .i64 (-1))]) rfl) ?_;refine to (dE (aD rfl) aHq (zs := [.lit (.int .i64 0), .lit (.int .i64 0), .lit (.int .i64 0)]) rfl rfl rfl rfl (es := [.lit (.int .i64 4), .lit (.int .i64 41), .lit (.int .i64 (-1))]) rfl) ?_;refine to (fR (aD rfl) mA rfl rfl (rows := ([(bZ.mk 1 11 12), (bZ.mk 2 21 22), (bZ.mk 3 31 (-1)), (bZ.mk 4 41 (-1))]).map bM) rfl (cP (f := bM) fun _ => rfl) rfl (by decide)) ?_;refine to (dE (aD rfl) aZe (zs := [.lit (.int .i64 0), .lit (.int .i64 0)]) rfl rfl rfl rfl (es := [.lit (.int .i64 11), .lit (.int .i64 250)]) rfl) ?_;refine to (fR (aD rfl) tO rfl rfl (rows := ([(eS.mk 11 250)]).map cS) rfl (cP (f := cS) fun _ => rfl) rfl (by decide)) ?_;refine to (dE (aD rfl) aUn (zs := [.lit (.int .i64 0), .lit (.int .i64 0), .lit (.int .i64 0)]) rfl rfl rfl rfl (es := [.lit (.int .i64 21), .lit (.int .i64 3), .lit (.int .i64 2)]) rfl) ?_;refine to (dE (aD rfl) aUn (zs := [.lit (.int .i64 0), .lit (.int .i64 0), .lit (.int .i64 0)]) rfl rfl rfl rfl (es := [.lit (.int .i64 22), .lit (.int .i64 1), .lit (.int .i64 3)]) rfl) ?_;refine to (fR (aD rfl) xE rfl rfl (rows := ([(dZ.mk 21 3 2), (dZ.mk 22 1 3)]).map dB) rfl (cP (f := dB) fun _ => rfl) rfl (by decide)) ?_;refine to (dE (aD rfl) aPl (zs := [.lit (.int .i64 0), .lit (.int .i64 0), .lit (.int .i64 0), .lit (.int .i64 0)]) rfl rfl rfl rfl (es := [.lit (.int .i64 1), .lit (.int .i64 1), .lit (.int .i64 21), .lit (.int .i64 30)]) rfl) ?_;refine to (dE (aD rfl) aPl (zs := [.lit (.int .i64 0), .lit (.int .i64 0), .lit (.int .i64 0), .lit (.int .i64 0)]) rfl rfl rfl rfl (es := [.lit (.int .i64 2), .lit (.int .i64 2), .lit (.int .i64 11), .lit (.int .i64 2)]) rfl) ?_;refine to (dE (aD rfl) aPl (zs := [.lit (.int .i64 0), .lit (.int .i64 0), .lit (.int .i64 0), .lit (.int .i64 0)]) rfl rfl rfl rfl (es := [.lit (.int .i64 3), .lit (.int .i64 1), .lit (.int .i64 31), .lit (.int .i64 160)]) rfl) ?_;refine to (fR (aD rfl) dC rfl rfl (rows := ([(aG.mk 1 1 21 30), (aG.mk 2 2 11 2), (aG.mk 3 1 31 160)]).map aE) rfl (cP (f := aE) fun _ => rfl) rfl (by decide)) ?_;refine to (dE (aD rfl) aZd (zs := [.lit (.int .i64 0), .sl 1 ((([] : List Int)).map aM), .sl 5 ((([] : List aF)).map aL), .sl 1 ((([] : List Int)).map aM), .lit (.int .i64 0), .sl 3 ((([] : List bZ)).map bM), .sl 2 ((([] : List eS)).map cS), .sl 3 ((([] : List dZ)).map dB), .sl 4 ((([] : List aG)).map aE)]) rfl rfl rfl rfl (es := [.lit (.int .i64 2), .sl 1 ((([1, 2, 3, 4])).map aM), .sl 5 ((([(aF.mk 1 0 0 1 0)])).map aL), .sl 1 ((([100, 300, 1001])).map aM), .lit (.int .i64 40), .sl 3 ((([(bZ.mk 1 11 12), (bZ.mk 2 21 22), (bZ.mk 3 31 (-1)), (bZ.mk 4 41 (-1))])).map bM), .sl 2 ((([(eS.mk 11 250)])).map cS), .sl 3 ((([(dZ.mk 21 3 2), (dZ.mk 22 1 3)])).map dB), .sl 4 ((([(aG.mk 1 1 21 30), (aG.mk 2 2 11 2), (aG.mk 3 1 31 160)])).map aE)]) rfl) ?_;refine to (sst 0 rfl rfl Tryz.sizeOf31 (aP (aR.mk (aV.mk 2 ([1, 2, 3, 4])) ([(aF.mk 1 0 0 1 0)]) ([100, 300, 1001]) 40 ([(bZ.mk 1 11 12), (bZ.mk 2 21 22), (bZ.mk 3 31 (-1)), (bZ.mk 4 41 (-1))]) ([(eS.mk 11 250)]) ([(dZ.mk 21 3 2), (dZ.mk 22 1 3)]) ([(aG.mk 1 1 21 30), (aG.mk 2 2 11 2), (aG.mk 3 1 31 160)])))) (aB ?_);have h := Option.some.inj h;subst h;exact bB ⟨rfl, _, [.box b1 0 (aP (aR.mk (aV.mk 2 ([1, 2, 3, 4])) ([(aF.mk 1 0 0 1 0)]) ([100, 300, 1001]) 40 ([(bZ.mk 1 11 12), (bZ.mk 2 21 22), (bZ.mk 3 31 (-1)), (bZ.mk 4 41 (-1))]) ([(eS.mk 11 250)]) ([(dZ.mk 21 3 2), (dZ.mk 22 1 3)]) ([(aG.mk 1 1 21 30), (aG.mk 2 2 11 2), (aG.mk 3 1 31 160)])))], .one (.cell 0 31 rfl (i := 0) rfl eI (es := (aP (aR.mk (aV.mk 2 ([1, 2, 3, 4])) ([(aF.mk 1 0 0 1 0)]) ([100, 300, 1001]) 40 ([(bZ.mk 1 11 12), (bZ.mk 2 21 22), (bZ.mk 3 31 (-1)), (bZ.mk 4 41 (-1))]) ([(eS.mk 11 250)]) ([(dZ.mk 21 3 2), (dZ.mk 22 1 3)]) ([(aG.mk 1 1 21 30), (aG.mk 2 2 11 2), (aG.mk 3 1 31 160)])))) rfl rfl), .refl _, .same _⟩

theorem gG (d : Int) (a : Int) (c : Int) {r : Bool} (h : gB d a c = some r) : Fn Tryz.prog 115 [.i d, .i a, .i c] (.b r) := by
 unfold gB at h;refine Fn.of_tr Tryz.func115 rfl (rs := [.tmp 6]) Tryz.results115 Tryz.ntmps115 (Nat.le_of_ble_eq_true rfl) ?_;refine aC (aA (ta (.b false) (aB (aC (aA (tm (.i a) (tm (.i d) (to (scm rfl rfl rfl) (tm (.b (decide (a ≤ d))) ?_)))))))));obtain ⟨b1, h2, h⟩ := bind_some h;refine bH 4 [] 14 b1 ?_ ?_
 ·refine aW (decide (a ≤ d)) (fun c3 => ?_) (fun c3 => ?_)
  ·have h2 := aK c3 h2;refine tk c3 (sm (.i d)) (tk c3 (sm (.i c)) (tk c3 (scm rfl rfl rfl) (to (spt (.b (decide (d ≤ c))) c3) ?_)));have h2 := Option.some.inj h2;subst h2;refine aB (aO rfl trivial rfl)
  ·have h2 := aJ c3 h2;refine tp c3 (tp c3 (tp c3 (to (spf (.b false) c3) ?_)));have h2 := Option.some.inj h2;subst h2;refine aB (aO rfl trivial rfl)
 ·refine ta (.b b1) (aB ?_);have h := Option.some.inj h;subst h;exact bB ⟨rfl, _, .one _, rfl, rfl⟩

theorem aJa (g : aV) {r : Bool} (h : pK g = some r) : Fn Tryz.prog 100 [.agg (bC g)] (.b r) := by
 unfold pK at h;refine Fn.of_tr Tryz.func100 rfl (rs := [.tmp 2]) Tryz.results100 Tryz.ntmps100 (Nat.le_of_ble_eq_true rfl) ?_;refine aC (aA ?_);refine bE rfl (dN (v := .agg (bC g)) (aD rfl) rfl rfl rfl) ?_;rintro _ ⟨b1, rfl⟩;refine ta (.b false) (aB (aC (aC ?_)));obtain ⟨r2, h3, h⟩ := bind_some h;obtain ⟨b4, h5, h⟩ := bind_some h;refine cV mix 13 [1] [(18, .b b4)] ?_ ?_
 ·refine aW (!r2) (fun c6 => ?_) (fun c6 => ?_)
  ·have h5 := aK c6 h5;have h5 := Option.some.inj h5;subst h5;refine ⟨[(6, 0, .bp b1 0 0), (7, 1, .i g.Rounds), (8, 2, .b r2), (9, 3, .b (!r2)), (10, 4, .b (!r2)), (11, 5, .tup []), (12, 6, .tup []), (13, 7, .tup []), (14, 8, .tup []), (15, 9, .tup []), (16, 10, .tup []), (17, 11, .tup []), (18, 12, .b true)], ?_, ?_⟩
   · exact dok [([], []), ([0], []), ([1], []), ([2], []), ([3], []), ([4], []), ([4, 5], []), ([4, 6], []), ([4], []), ([4, 8], []), ([4, 9], []), ([4, 7, 10], []), ([4, 11], [])] ⟨go (zf rfl fI),
      go (zl 0 rfl rfl rfl aU),
      go fun S hS => fS (aD rfl) (.func _ _ Tryz.call115) (ev2 (aX hS rfl) (ev2 rfl (ev2 rfl evn))) rfl (BVs.refl _ _) (gG _ _ _ h3) rfl,
      go (zn rfl),
      go (zm (.b (!r2))),
      gp c6,
      gp c6,
      gp c6,
      gp c6,
      gp c6,
      gp c6,
      gp c6,
      go (zpt (.b true) c6), trivial⟩
   · exact cK (aI rfl (aN ⟨rfl, trivial⟩))
  ·have h5 := aJ c6 h5;obtain ⟨u7, h8, h5⟩ := bind_some h5;have h5 := Option.some.inj h5;subst h5;refine ⟨[(6, 0, .bp b1 0 0), (7, 1, .i g.Rounds), (8, 2, .b r2), (9, 3, .b (!r2)), (10, 4, .b (!r2)), (11, 5, .bp b1 0 1), (12, 6, .d (.sl 1 (g.Slots.map aM))), (13, 7, .i (g.Slots.length : Int)), (14, 8, .bp b1 0 0), (15, 9, .i g.Rounds), (16, 10, .i (w64 (1 * 2 ^ (min g.Rounds.toNat 64)))), (17, 11, .b (!decide ((g.Slots.length : Int) = (w64 (1 * 2 ^ (min g.Rounds.toNat 64)))))), (18, 12, .b (!decide ((g.Slots.length : Int) = (w64 (1 * 2 ^ (min g.Rounds.toNat 64))))))], ?_, ?_⟩
   · exact dok [([], []), ([0], []), ([1], []), ([2], []), ([3], []), ([4], []), ([4, 5], []), ([4, 6], []), ([4], []), ([4, 8], []), ([4, 9], []), ([4, 7, 10], []), ([4, 11], [])] ⟨go (zf rfl fI),
      go (zl 0 rfl rfl rfl aU),
      go fun S hS => fS (aD rfl) (.func _ _ Tryz.call115) (ev2 (aX hS rfl) (ev2 rfl (ev2 rfl evn))) rfl (BVs.refl _ _) (gG _ _ _ h3) rfl,
      go (zn rfl),
      go (zm (.b (!r2))),
      gt c6 (zf rfl dM),
      gt c6 (zl 0 rfl rfl rfl cI),
      gt c6 (zle rfl bJ.of),
      gt c6 (zf rfl fI),
      gt c6 (zl 0 rfl rfl rfl aU),
      gt c6 fun S hS => aNo (aD rfl) rfl (aX hS rfl) (vI h8),
      gt c6 (zcm rfl rfl rfl),
      go (zpf (.b (!decide ((g.Slots.length : Int) = (w64 (1 * 2 ^ (min g.Rounds.toNat 64)))))) c6), trivial⟩
   · exact cK (aI rfl (aN ⟨rfl, trivial⟩))
 ·refine aB ?_;refine aZ rfl (fun c9 => ?_) (fun c9 => ?_)
  ·have h := aK c9 h;refine aC (aA (ta (.b false) (aB ?_)));have h := Option.some.inj h;subst h;refine bT (bL (bO (l := [2]) ⟨rfl, trivial⟩)) ?_;exact bB ⟨rfl, _, .one _, rfl, rfl⟩
  ·have h := aJ c9 h;refine aY (aC (aA ?_));refine bE rfl (aCa (aD rfl)) ?_;rintro _ ⟨t, rfl⟩;refine ta (.d (.lit (.map (some t)))) (aB (aC (aC (aA (to (sf rfl dM) (to (sl 0 rfl rfl rfl cI) (to (sle rfl bJ.of) (tm (.i 0) (aB (bF ?_))))))))));refine bY [1, 3, 21, 22] (fun (q : Int × (List (Int × Int)) × (List Nat) × Nat) => [(23, .i q.1)]) (fun (q : Int × (List (Int × Int)) × (List Nat) × Nat) => [.box b1 0 (bC g), .map t (q.2.1.map fun p : Int × Int => ((fun n : Int => Value.int .i64 n) p.1, (fun v : Int => AV.i v) p.2)) q.2.2.1 q.2.2.2]) (fun (k : Nat) (q : Int × (List (Int × Int)) × (List Nat) × Nat) => jD g.Slots (g.Slots.length : Int) g k q.1 q.2.1) (fun _ => rfl) (0, ([] : List (Int × Int)), [], 0) h (aQ [0, 1] rfl rfl (aI rfl (aN ⟨rfl, rfl, rfl, rfl, trivial⟩))) ?_;rintro H ⟨f, c, u, s⟩ h;simp only [jD] at h;refine aC (aA (to (scm rfl rfl rfl) (aB (aC ?_))));refine aZ rfl (fun w => ?_) (fun w => ?_)
   ·have h := aK w h;refine aY (aC (bF (aC (aA (tm (.i f) ?_)))));obtain ⟨e, B, h⟩ := bind_some h;refine to (six rfl rfl bJ.of (bA aM B)) (to (slc rfl aU) (ta (.i f) (ta (.i e) (aB (aC (aC (aA (tm (.i e) (to (scm rfl rfl rfl) (aB ?_))))))))));refine aZ rfl (fun x => ?_) (fun x => ?_)
    ·have h := aK x h;refine aC (aC (aA (to (sf rfl dM) (to (sl 0 rfl rfl rfl cI) (tm (.i f) (to (aUb (aD rfl) rfl rfl (.inr (.inr ⟨rfl, rfl⟩))) ?_))))));obtain ⟨I, C, h⟩ := bind_some h;refine to (six rfl rfl bJ.of (bA aM C)) (to (slc rfl aU) (to (scm rfl rfl rfl) (aB ?_)));refine aZ rfl (fun y => ?_) (fun y => ?_)
     ·have h := aK y h;refine aC (aA (ta (.b false) (aB ?_)));have h := Option.some.inj h;subst h;refine bT (bL (bO (l := [2]) ⟨rfl, trivial⟩)) ?_;exact bB ⟨rfl, _, .one _, rfl, rfl⟩
     ·have h := aJ y h;refine aY ?_;refine cB ?_;refine .inl ⟨rfl, ?_⟩;refine aA (to (sar rfl rfl rfl) (tm (.i (w64 (f + 1))) (aB ?_)));exact ⟨(w64 (f + 1), c, u, s), h, aQ [0, 1] rfl rfl (aI rfl (aN ⟨rfl, rfl, rfl, rfl, trivial⟩))⟩
    ·have h := aJ x h;refine aY (aC (aA (tm (.d (.lit (.map (some t)))) (tm (.i e) (to (aEq (av := (fun v : Int => AV.i v)) (l := c) (z := 0) (a := e) (m := 1) (aD rfl) aRz Tryz.underlying157 Tryz.zeroValue3 (fun _ _ => .d (.lit _ rfl)) rfl rfl rfl rfl (aGh (kv := (fun n : Int => Value.int .i64 n)) e)) ?_)))));refine to (sar rfl rfl rfl) (to (aCo (av := (fun v : Int => AV.i v)) (l := c) (v := w64 ((dA e 0 c) + 1)) (a := e) (m := 1) aRz Tryz.underlying157 rfl rfl rfl rfl (aGh (kv := (fun n : Int => Value.int .i64 n)) e) rfl rfl) ?_);refine aB (aC (aA (tm (.d (.lit (.map (some t)))) (tm (.i e) (to (aEq (av := (fun v : Int => AV.i v)) (l := (gR e (w64 ((dA e 0 c) + 1)) c)) (z := 0) (a := e) (m := 1) (aD rfl) aRz Tryz.underlying157 Tryz.zeroValue3 (fun _ _ => .d (.lit _ rfl)) rfl rfl rfl rfl (aGh (kv := (fun n : Int => Value.int .i64 n)) e)) ?_)))));refine to (scm rfl rfl rfl) (tm (.b (decide (1 < (dA e 0 (gR e (w64 ((dA e 0 c) + 1)) c))))) ?_);obtain ⟨E, j, h⟩ := bind_some h;refine bH 4 [1, 3, 21, 22, 23] 49 E ?_ ?_
     ·refine aW (decide (1 < (dA e 0 (gR e (w64 ((dA e 0 c) + 1)) c)))) (fun o => ?_) (fun o => ?_)
      ·have j := aK o j;refine tp o (tp o (tp o (to (spt (.b true) o) ?_)));have j := Option.some.inj j;subst j;refine aB (aO rfl ⟨rfl, rfl, rfl, rfl, rfl, trivial⟩ rfl)
      ·have j := aJ o j;refine tk o (sm (.i e)) ?_;obtain ⟨F, G, j⟩ := bind_some j;refine tk o (scr Tryz.call115 (gG _ _ _ G)) (tk o (sn rfl) (to (spf (.b (!F)) o) ?_));have j := Option.some.inj j;subst j;refine aB (aO rfl ⟨rfl, rfl, rfl, rfl, rfl, trivial⟩ rfl)
     ·refine aB ?_;refine aZ rfl (fun A => ?_) (fun A => ?_)
      ·have h := aK A h;refine aC (aA (ta (.b false) (aB ?_)));have h := Option.some.inj h;subst h;refine bT (bL (bO (l := [2]) ⟨rfl, trivial⟩)) ?_;exact bB ⟨rfl, _, .one _, rfl, rfl⟩
      ·have h := aJ A h;refine cR ?_;refine aA (to (sar rfl rfl rfl) (tm (.i (w64 (f + 1))) (aB ?_)));exact ⟨(w64 (f + 1), (gR e (w64 ((dA e 0 c) + 1)) c), (mbs e c u s), (mck e c s)), h, aQ [0, 1] rfl rfl (aI rfl (aN ⟨rfl, rfl, rfl, rfl, trivial⟩))⟩
   ·have h := aJ w h;refine cB ?_;refine .inl ⟨rfl, ?_⟩;simp only [vA] at h;refine aC (aA (ta (.b true) (aB ?_)));have h := Option.some.inj h;subst h;refine bT (bL (bO (l := [2]) ⟨rfl, trivial⟩)) ?_;exact bB ⟨rfl, _, .one _, rfl, rfl⟩

theorem yY (e : List aF) (g : aF → Option Bool) {r : Int} (c : Nat) (f : List AV) (j : ∀ args w, (callFunc c args).run Tryz.prog w = .ok (.enter c args) w) (l : ∀ (x0 : aF) r, g x0 = some r → Fn Tryz.prog c ([.agg (aL x0)] ++ f) (.b r)) (h : jL e g = some r) : Fn Tryz.prog 117 [.d (.sl 5 (e.map aL)), .fn c f] (.i r) := by
 unfold jL at h;refine Fn.of_tr Tryz.func117 rfl (rs := [.tmp 4]) Tryz.results117 Tryz.ntmps117 (Nat.le_of_ble_eq_true rfl) ?_;refine aC (aA (ta (.i 0) (aB (aC (aC (aA (tm (.d (.sl 5 (e.map aL))) (to (sle rfl hC.of) (tm (.i 0) (aB (bF ?_)))))))))));refine bY [0, 1, 7] (fun (s1 : Int) => [(8, .i s1)]) (fun (s1 : Int) => []) (fun (k : Nat) (s1 : Int) => fG e g (e.length : Int) k s1) (fun _ => rfl) (0) h (aQ [] rfl rfl (aI rfl (aN ⟨rfl, rfl, rfl, trivial⟩))) ?_;rintro k2 a h;simp only [fG] at h;refine aC (aA (to (scm rfl rfl rfl) (aB (aC ?_))));refine aZ rfl (fun c3 => ?_) (fun c3 => ?_)
 ·have h := aK c3 h;refine aY (aC (bF (aC (aA (tm (.i a) (ta (.i a) (aB (aC (aA (tm (.fn c f) (tm (.d (.sl 5 (e.map aL))) (tm (.i a) ?_))))))))))));obtain ⟨x4, h5, h⟩ := bind_some h;refine to (six rfl rfl hC.of (bA aL h5)) (to (qH (aL x4) rfl lX) ?_);obtain ⟨r6, h7, h⟩ := bind_some h;refine to (fS (aD rfl) (.clo _ _ _ _ j rfl) (aAl rfl) rfl (BVs.refl _ _) (l _ _  h7) rfl) ?_;refine aB ?_;refine aZ rfl (fun c8 => ?_) (fun c8 => ?_)
  ·have h := aK c8 h;refine aC (aA (tm (.i a) (ta (.i a) (aB ?_))));have h := Option.some.inj h;subst h;exact bB ⟨rfl, _, .one _, rfl, rfl⟩
  ·have h := aJ c8 h;refine cR ?_;refine aA (to (sar rfl rfl rfl) (tm (.i (w64 (a + 1))) (aB ?_)));exact ⟨(w64 (a + 1)), h, aQ [] rfl rfl (aI rfl (aN ⟨rfl, rfl, rfl, trivial⟩))⟩
 ·have h := aJ c3 h;refine cB ?_;refine .inl ⟨rfl, ?_⟩;simp only [nH] at h;refine aC (aA (ta (.i (-1)) (aB ?_)));have h := Option.some.inj h;subst h;exact bB ⟨rfl, _, .one _, rfl, rfl⟩

theorem xF (e : List aF) (i : aF → Option Bool) {r : Bool} (a : Nat) (c : List AV) (f : ∀ args w, (callFunc a args).run Tryz.prog w = .ok (.enter a args) w) (g : ∀ (x0 : aF) r, i x0 = some r → Fn Tryz.prog a ([.agg (aL x0)] ++ c) (.b r)) (h : iN e i = some r) : Fn Tryz.prog 101 [.d (.sl 5 (e.map aL)), .fn a c] (.b r) := by
 unfold iN at h;refine Fn.of_tr Tryz.func101 rfl (rs := [.tmp 4]) Tryz.results101 Tryz.ntmps101 (Nat.le_of_ble_eq_true rfl) ?_;refine aC (aA (ta (.b false) (aB (aC (aA (tm (.d (.sl 5 (e.map aL))) (tm (.fn a c) ?_)))))));obtain ⟨r1, h2, h⟩ := bind_some h;refine to (scr Tryz.call117 (yY _ _ a c f g h2)) (to (scm rfl rfl rfl) (ta (.b (decide (0 ≤ r1))) (aB ?_)));have h := Option.some.inj h;subst h;exact bB ⟨rfl, _, .one _, rfl, rfl⟩

theorem aFq (c : aH) (a : aV) {r : Bool} (h : pQ c a = some r) : Fn Tryz.prog 118 [.agg (aT c), .agg (bC a)] (.b r) := by
 unfold pQ at h;refine Fn.of_tr Tryz.func118 rfl (rs := [.tmp 4]) Tryz.results118 Tryz.ntmps118 (Nat.le_of_ble_eq_true rfl) ?_;refine aC (aA ?_);refine bE rfl (dN (v := .agg (aT c)) (aD rfl) rfl rfl rfl) ?_;rintro _ ⟨b1, rfl⟩;refine bE rfl (dN (v := .agg (bC a)) (aD rfl) rfl rfl rfl) ?_;rintro _ ⟨b2, rfl⟩;refine ta (.b false) (aB (aC ?_));obtain ⟨r3, h4, h⟩ := bind_some h;obtain ⟨b5, h6, h⟩ := bind_some h;refine cV mix 19 [] [(23, .b b5)] ?_ ?_
 ·refine aW (r3) (fun c7 => ?_) (fun c7 => ?_)
  ·have h6 := aK c7 h6;obtain ⟨u8, h9, h6⟩ := bind_some h6;obtain ⟨e, f, h6⟩ := bind_some h6;have h6 := Option.some.inj h6;subst h6;refine ⟨[(5, 0, .bp b1 0 0), (6, 1, .i c.round), (7, 2, .bp b2 0 0), (8, 3, .i a.Rounds), (9, 4, .i (w64 (a.Rounds - 1))), (10, 5, .b r3), (11, 6, .b r3), (12, 7, .bp b1 0 1), (13, 8, .i c.place), (14, 9, .bp b2 0 1), (15, 10, .d (.sl 1 (a.Slots.map aM))), (16, 11, .i (a.Slots.length : Int)), (17, 12, .bp b1 0 0), (18, 13, .i c.round), (19, 14, .i (w64 (c.round + 1))), (20, 15, .i ((a.Slots.length : Int).fdiv (2 ^ (min (w64 (c.round + 1)).toNat 64)))), (21, 16, .i (w64 (((a.Slots.length : Int).fdiv (2 ^ (min (w64 (c.round + 1)).toNat 64))) - 1))), (22, 17, .b e), (23, 18, .b e)], ?_, ?_⟩
   · exact dok [([], []), ([0], []), ([], []), ([2], []), ([3], []), ([1, 4], []), ([5], []), ([6], []), ([6, 7], []), ([6], []), ([6, 9], []), ([6, 10], []), ([6], []), ([6, 12], []), ([6, 13], []), ([6, 11, 14], []), ([6, 15], []), ([6, 8, 16], []), ([6, 17], [])] ⟨go (zf rfl tZ),
      go (zl 0 rfl rfl rfl aU),
      go (zf rfl fI),
      go (zl 1 rfl rfl rfl aU),
      go (zar rfl rfl rfl),
      go fun S hS => fS (aD rfl) (.func _ _ Tryz.call115) (ev2 (aX hS rfl) (ev2 rfl (ev2 (aX hS rfl) evn))) rfl (BVs.refl _ _) (gG _ _ _ h4) rfl,
      go (zm (.b r3)),
      gt c7 (zf rfl aTh),
      gt c7 (zl 0 rfl rfl rfl aU),
      gt c7 (zf rfl dM),
      gt c7 (zl 1 rfl rfl rfl cI),
      gt c7 (zle rfl bJ.of),
      gt c7 (zf rfl tZ),
      gt c7 (zl 0 rfl rfl rfl aU),
      gt c7 (zar rfl rfl rfl),
      gt c7 fun S hS => uX (aD rfl) (aX hS rfl) (aX hS rfl) (vI h9),
      gt c7 (zar rfl rfl rfl),
      gt c7 fun S hS => fS (aD rfl) (.func _ _ Tryz.call115) (ev2 (aX hS rfl) (ev2 rfl (ev2 (aX hS rfl) evn))) rfl (BVs.refl _ _) (gG _ _ _ f) rfl,
      go (zpt (.b e) c7), trivial⟩
   · exact cK (aI rfl (aN trivial))
  ·have h6 := aJ c7 h6;have h6 := Option.some.inj h6;subst h6;refine ⟨[(5, 0, .bp b1 0 0), (6, 1, .i c.round), (7, 2, .bp b2 0 0), (8, 3, .i a.Rounds), (9, 4, .i (w64 (a.Rounds - 1))), (10, 5, .b r3), (11, 6, .b r3), (12, 7, .tup []), (13, 8, .tup []), (14, 9, .tup []), (15, 10, .tup []), (16, 11, .tup []), (17, 12, .tup []), (18, 13, .tup []), (19, 14, .tup []), (20, 15, .tup []), (21, 16, .tup []), (22, 17, .tup []), (23, 18, .b false)], ?_, ?_⟩
   · exact dok [([], []), ([0], []), ([], []), ([2], []), ([3], []), ([1, 4], []), ([5], []), ([6], []), ([6, 7], []), ([6], []), ([6, 9], []), ([6, 10], []), ([6], []), ([6, 12], []), ([6, 13], []), ([6, 11, 14], []), ([6, 15], []), ([6, 8, 16], []), ([6, 17], [])] ⟨go (zf rfl tZ),
      go (zl 0 rfl rfl rfl aU),
      go (zf rfl fI),
      go (zl 1 rfl rfl rfl aU),
      go (zar rfl rfl rfl),
      go fun S hS => fS (aD rfl) (.func _ _ Tryz.call115) (ev2 (aX hS rfl) (ev2 rfl (ev2 (aX hS rfl) evn))) rfl (BVs.refl _ _) (gG _ _ _ h4) rfl,
      go (zm (.b r3)),
      gp c7,
      gp c7,
      gp c7,
      gp c7,
      gp c7,
      gp c7,
      gp c7,
      gp c7,
      gp c7,
      gp c7,
      gp c7,
      go (zpf (.b false) c7), trivial⟩
   · exact cK (aI rfl (aN trivial))
 ·refine ta (.b b5) (aB ?_);have h := Option.some.inj h;subst h;refine bT (bL (bO (l := [4]) ⟨rfl, trivial⟩)) ?_;exact bB ⟨rfl, _, .one _, rfl, rfl⟩

theorem uN (b : List Int) (c : Int) {r : Int} (h : iA b c = some r) : Fn Tryz.prog 89 [.d (.sl 1 (b.map aM)), .i c] (.i r) := by
 unfold iA at h;refine Fn.of_tr Tryz.func89 rfl (rs := [.tmp 4]) Tryz.results89 Tryz.ntmps89 (Nat.le_of_ble_eq_true rfl) ?_;refine aC (aA (ta (.i 0) (aB (aC (aC (aA (tm (.d (.sl 1 (b.map aM))) (to (sle rfl bJ.of) (tm (.i 0) (aB (bF ?_)))))))))));refine bY [0, 1, 7] (fun (s1 : Int) => [(8, .i s1)]) (fun (s1 : Int) => []) (fun (k : Nat) (s1 : Int) => jJ b c (b.length : Int) k s1) (fun _ => rfl) (0) h (aQ [] rfl rfl (aI rfl (aN ⟨rfl, rfl, rfl, trivial⟩))) ?_;rintro k2 a h;simp only [jJ] at h;refine aC (aA (to (scm rfl rfl rfl) (aB (aC ?_))));refine aZ rfl (fun c3 => ?_) (fun c3 => ?_)
 ·have h := aK c3 h;refine aY (aC (bF (aC (aA (tm (.i a) (ta (.i a) (aB (aC (aA (tm (.i c) (tm (.d (.sl 1 (b.map aM))) (tm (.i a) ?_))))))))))));obtain ⟨x4, h5, h⟩ := bind_some h;refine to (six rfl rfl bJ.of (bA aM h5)) (to (slc rfl aU) (to (scm rfl rfl rfl) (aB ?_)));refine aZ rfl (fun c6 => ?_) (fun c6 => ?_)
  ·have h := aK c6 h;refine aC (aA (tm (.i a) (ta (.i a) (aB ?_))));have h := Option.some.inj h;subst h;exact bB ⟨rfl, _, .one _, rfl, rfl⟩
  ·have h := aJ c6 h;refine cR ?_;refine aA (to (sar rfl rfl rfl) (tm (.i (w64 (a + 1))) (aB ?_)));exact ⟨(w64 (a + 1)), h, aQ [] rfl rfl (aI rfl (aN ⟨rfl, rfl, rfl, trivial⟩))⟩
 ·have h := aJ c3 h;refine cB ?_;refine .inl ⟨rfl, ?_⟩;simp only [tL] at h;refine aC (aA (ta (.i (-1)) (aB ?_)));have h := Option.some.inj h;subst h;exact bB ⟨rfl, _, .one _, rfl, rfl⟩

theorem fE (a : List Int) (c : Int) {r : Bool} (h : dJ a c = some r) : Fn Tryz.prog 60 [.d (.sl 1 (a.map aM)), .i c] (.b r) := by
 unfold dJ at h;refine Fn.of_tr Tryz.func60 rfl (rs := [.tmp 4]) Tryz.results60 Tryz.ntmps60 (Nat.le_of_ble_eq_true rfl) ?_;refine aC (aA (ta (.b false) (aB (aC (aA (tm (.d (.sl 1 (a.map aM))) (tm (.i c) ?_)))))));obtain ⟨r1, h2, h⟩ := bind_some h;refine to (scr Tryz.call89 (uN _ _ h2)) (to (scm rfl rfl rfl) (ta (.b (decide (0 ≤ r1))) (aB ?_)));have h := Option.some.inj h;subst h;exact bB ⟨rfl, _, .one _, rfl, rfl⟩

theorem aIz (n : aV) (d : aF) {r : Bool} (h : rN n d = some r) : Fn Tryz.prog 103 [.agg (bC n), .agg (aL d)] (.b r) := by
 unfold rN at h;refine Fn.of_tr Tryz.func103 rfl (rs := [.tmp 4]) Tryz.results103 Tryz.ntmps103 (Nat.le_of_ble_eq_true rfl) ?_;refine aC (aA ?_);refine bE rfl (dN (v := .agg (bC n)) (aD rfl) rfl rfl rfl) ?_;rintro _ ⟨b1, rfl⟩;refine bE rfl (dN (v := .agg (aL d)) (aD rfl) rfl rfl rfl) ?_;rintro _ ⟨b2, rfl⟩;refine ta (.b false) (aB (aC (aC (aA (to (sf rfl oI) (to (sl 1 rfl rfl rfl aU) ?_))))));obtain ⟨r3, h4, h⟩ := bind_some h;refine to (scr Tryz.call115 (gG _ _ _ h4)) (to (sn rfl) (aB ?_));refine aZ rfl (fun c5 => ?_) (fun c5 => ?_)
 ·have h := aK c5 h;refine aC (aA (ta (.b false) (aB ?_)));have h := Option.some.inj h;subst h;refine bT (bL (bO (l := [4]) ⟨rfl, trivial⟩)) ?_;exact bB ⟨rfl, _, .one _, rfl, rfl⟩
 ·have h := aJ c5 h;refine aY (aC (aC (aA (to (sf rfl oH) (to (sl 1 rfl rfl rfl aU) (to (scm rfl rfl rfl) (aB ?_)))))));refine aZ rfl (fun c6 => ?_) (fun c6 => ?_)
  ·have h := aK c6 h;refine aC (aA (to (sf rfl pX) (to (sl 1 rfl rfl rfl aU) (to (scm rfl rfl rfl) (tm (.b (decide (d.Round = 0))) ?_)))));obtain ⟨b7, h8, h⟩ := bind_some h;refine bH 8 [3] 24 b7 ?_ ?_
   ·refine aW (decide (d.Round = 0)) (fun c => ?_) (fun c => ?_)
    ·have h8 := aK c h8;refine tk c (sf rfl lD) (tk c (sl 1 rfl rfl rfl aU) (tk c (sf rfl dM) (tk c (sl 0 rfl rfl rfl cI) (tk c (sle rfl bJ.of) (tk c (sar rfl rfl rfl) ?_)))));obtain ⟨t, u, h8⟩ := bind_some h8;refine tk c (scr Tryz.call115 (gG _ _ _ u)) (to (spt (.b t) c) ?_);have h8 := Option.some.inj h8;subst h8;refine aB (aO rfl ⟨rfl, trivial⟩ rfl)
    ·have h8 := aJ c h8;refine tp c (tp c (tp c (tp c (tp c (tp c (tp c (to (spf (.b false) c) ?_)))))));have h8 := Option.some.inj h8;subst h8;refine aB (aO rfl ⟨rfl, trivial⟩ rfl)
   ·refine tm (.b b7) ?_;obtain ⟨b9, g, h⟩ := bind_some h;refine bH 4 [] 29 b9 ?_ ?_
    ·refine aW (b7) (fun j => ?_) (fun j => ?_)
     ·have g := aK j g;refine tk j (sf rfl xS) (tk j (sl 1 rfl rfl rfl aU) ?_);obtain ⟨w, x, g⟩ := bind_some g;refine tk j (scr Tryz.call115 (gG _ _ _ x)) (to (spt (.b w) j) ?_);have g := Option.some.inj g;subst g;refine aB (aO rfl trivial rfl)
     ·have g := aJ j g;refine tp j (tp j (tp j (to (spf (.b false) j) ?_)));have g := Option.some.inj g;subst g;refine aB (aO rfl trivial rfl)
    ·refine ta (.b b9) (aB ?_);have h := Option.some.inj h;subst h;refine bT (bL (bO (l := [4]) ⟨rfl, trivial⟩)) ?_;exact bB ⟨rfl, _, .one _, rfl, rfl⟩
  ·have h := aJ c6 h;refine aY (aC (aA (to (sf rfl pX) (to (sl 1 rfl rfl rfl aU) (to (sf rfl lD) (to (sl 1 rfl rfl rfl aU) (to (dE (aD rfl) aLw (zs := [.lit (.int .i64 0), .lit (.int .i64 0)]) rfl rfl rfl rfl (es := [.lit (.int .i64 d.Round), .lit (.int .i64 d.Place)]) rfl) ?_)))))));refine bE rfl (cM (zs := [.lit (.int .i64 0), .lit (.int .i64 0)]) (aD rfl) Tryz.zeroValue155 rfl rfl) ?_;rintro _ ⟨G, rfl⟩;refine to (sst 2 rfl rfl Tryz.sizeOf155 (aT (aH.mk d.Round d.Place))) (aB (aC (aC (aA (to (sf rfl oH) (to (sl 1 rfl rfl rfl aU) ?_))))));obtain ⟨q, y, h⟩ := bind_some h;refine to (scr Tryz.call115 (gG _ _ _ y)) (to (sn rfl) (tm (.b (!q)) ?_));obtain ⟨o, m, h⟩ := bind_some h;refine bH 4 [2, 3, 5] 43 o ?_ ?_
   ·refine aW (!q) (fun k => ?_) (fun k => ?_)
    ·have m := aK k m;refine tp k (tp k (tp k (to (spt (.b true) k) ?_)));have m := Option.some.inj m;subst m;refine aB (aO rfl ⟨rfl, rfl, rfl, trivial⟩ rfl)
    ·have m := aJ k m;refine tk k (sf rfl xS) (tk k (sl 1 rfl rfl rfl aU) (tk k (scm rfl rfl rfl) (to (spf (.b (!decide (d.Old = 0))) k) ?_)));have m := Option.some.inj m;subst m;refine aB (aO rfl ⟨rfl, rfl, rfl, trivial⟩ rfl)
   ·refine tm (.b o) ?_;obtain ⟨z, i, h⟩ := bind_some h;refine bH 5 [2, 3] 49 z ?_ ?_
    ·refine aW (o) (fun f => ?_) (fun f => ?_)
     ·have i := aK f i;refine tp f (tp f (tp f (tp f (to (spt (.b true) f) ?_))));have i := Option.some.inj i;subst i;refine aB (aO rfl ⟨rfl, rfl, trivial⟩ rfl)
     ·have i := aJ f i;refine tk f (sla 2 (aT (aH.mk d.Round d.Place)) rfl rfl wC) (tk f (sla 0 (bC n) rfl rfl jR) ?_);obtain ⟨A, B, i⟩ := bind_some i;refine tk f (scr Tryz.call118 (aFq _ _ B)) (tk f (sn rfl) (to (spf (.b (!A)) f) ?_));have i := Option.some.inj i;subst i;refine aB (aO rfl ⟨rfl, rfl, trivial⟩ rfl)
    ·refine aB ?_;refine aZ rfl (fun p => ?_) (fun p => ?_)
     ·have h := aK p h;refine aC (aA (ta (.b false) (aB ?_)));have h := Option.some.inj h;subst h;refine bT (bL (bO (l := [4]) ⟨rfl, trivial⟩)) ?_;exact bB ⟨rfl, _, .one _, rfl, rfl⟩
     ·have h := aJ p h;refine aY (aC (aA (to (sf rfl pX) (to (sl 1 rfl rfl rfl aU) (to (scm rfl rfl rfl) (tm (.b (decide (0 < d.Round))) ?_))))));obtain ⟨s, e, h⟩ := bind_some h;refine bH 13 [] 66 s ?_ ?_
      ·refine aW (decide (0 < d.Round)) (fun a => ?_) (fun a => ?_)
       ·have e := aK a e;refine tp a (tp a (tp a (tp a (tp a (tp a (tp a (tp a (tp a (tp a (tp a (tp a (to (spt (.b true) a) ?_))))))))))));have e := Option.some.inj e;subst e;refine aB (aO rfl trivial rfl)
       ·have e := aJ a e;refine tk a (sf rfl dM) (tk a (sl 0 rfl rfl rfl cI) (tk a (sf rfl lD) (tk a (sl 1 rfl rfl rfl aU) (tk a (sar rfl rfl rfl) (tk a (sf rfl lD) (tk a (sl 1 rfl rfl rfl aU) (tk a (sar rfl rfl rfl) (tk a (sar rfl rfl rfl) ?_))))))));obtain ⟨H, C, e⟩ := bind_some e;refine tk a (aSl (aD rfl) bJ.of rfl rfl rfl (aXt aM C)) ?_;obtain ⟨E, F, e⟩ := bind_some e;refine tk a (scr Tryz.call60 (fE _ _ F)) (tk a (sn rfl) (to (spf (.b (!E)) a) ?_));have e := Option.some.inj e;subst e;refine aB (aO rfl trivial rfl)
      ·refine ta (.b s) (aB ?_);have h := Option.some.inj h;subst h;refine bT (bL (bO (l := [4]) ⟨rfl, trivial⟩)) ?_;exact bB ⟨rfl, _, .one _, rfl, rfl⟩

theorem aJb (a : aF) (c : aV) {r : Bool} (h : pL a c = some r) : Fn Tryz.prog 102 [.agg (aL a), .cp (bC c)] (.b r) := by
 unfold pL at h;refine Fn.of_tr Tryz.func102 rfl (rs := [.tmp 3]) Tryz.results102 Tryz.ntmps102 (Nat.le_of_ble_eq_true rfl) ?_;refine aC (aA ?_);refine bE rfl (dN (v := .agg (aL a)) (aD rfl) rfl rfl rfl) ?_;rintro _ ⟨b1, rfl⟩;refine ta (.b false) (aB (aC (aA (to (qH (bC c) rfl jR) (to (sla 0 (aL a) rfl rfl lX) ?_)))));obtain ⟨r2, h3, h⟩ := bind_some h;refine to (scr Tryz.call103 (aIz _ _ h3)) (to (sn rfl) (ta (.b (!r2)) (aB ?_)));have h := Option.some.inj h;subst h;refine bT (bL (bO (l := [3]) ⟨rfl, trivial⟩)) ?_;exact bB ⟨rfl, _, .one _, rfl, rfl⟩

theorem tK (a : List Int) {r : (List Int)} (h : slices_Clone_int a = some r) : fU Tryz.prog 63 [.d (.sl 1 (a.map aM))] [] (fun r' o' => ∃ (w0 : Value), r' = .d (.lit w0) ∧ o' = [.arr w0 3 1 (r.map aM)]) := by
 unfold slices_Clone_int at h;refine jZ Tryz.func63 rfl (rs := [.tmp 2]) Tryz.results63 Tryz.ntmps63 (Nat.le_of_ble_eq_true rfl) ?_;refine aC (aA (to (iJ 3 1 (.inl rfl) (aD rfl)) ?_));refine aB (aC (aC (aA (tm (.d (.sl 1 (a.map aM))) ?_))));refine bE rfl (aLg (aD rfl) rfl rfl Tryz.underlying22) ?_;rintro _ ⟨b2, h3, rfl⟩;refine aB ?_;refine aZ rfl (fun c4 => ?_) (fun c4 => ?_)
 ·obtain rfl := aKr (h3 c4)
  simp [app] at h
  subst h;refine aC (aA (to (iJ 3 1 (.inl rfl) (aD rfl)) ?_));refine aB ?_;refine bT (aQ [1, 0] rfl rfl (le_refl _)) ?_;exact bB ⟨rfl, _, [.arr (.slice none 0 0) 3 1 (([] : List Int).map aM)], [.arr (.slice none 0 0) 3 1 (([] : List Int).map aM)], _, .one (.tmp 2 (v := .d (.lit (.slice none 0 0))) rfl), .refl _, .same _, (.slice none 0 0), rfl, rfl⟩
 ·refine aY (aC (aA ?_));refine bE rfl (aHg (aD rfl) bJ rfl rfl (rows := (([] : List Int)).map aM) rfl (cP (f := aM) fun _ => rfl) rfl (by decide)) ?_;rintro _ ⟨v5, rfl⟩;refine tm (.d (.sl 1 (a.map aM))) ?_;obtain ⟨x6, h7, h⟩ := bind_some h;refine bE rfl (gP (i := 1) (aD rfl) bJ rfl rfl rfl (fun _ => rfl) h7 rfl) ?_;rintro _ ⟨v8, rfl⟩;refine ta (.d (.lit v8)) (aB ?_);have h := Option.some.inj h;subst h;refine bT (aQ [1, 0] rfl rfl (le_refl _)) ?_;exact bB ⟨rfl, _, [.arr v8 3 1 (x6.map aM)], [.arr (.slice none 0 0) 3 1 (([] : List Int).map aM)], _, .one (.tmp 2 (v := .d (.lit v8)) rfl), .refl _, .same _, v8, rfl, rfl⟩

theorem xJ (g : aV) (n : List Int) (q : List (aF × Int)) (f : Int) {Q : (aF × Bool) → Prop} {t u : Nat} {c : Value} {w : Nat} {j : Nat} {s : List Nat} {e : Nat} (h : jC g n q f Q) : fU Tryz.prog 134 [.bp t u 0, .d (.lit (.map (some j))), .i f] [.box t u [.lit (.int .i64 g.Rounds), .sl 1 (g.Slots.map aM), .lit c, .lit (.map (some w))], .arr c 3 1 (n.map aM), .map j (q.map fun p : aF × Int => ((fun a : aF => Value.agg ((aL a).map cC).toArray) p.1, (fun v : Int => AV.i v) p.2)) s e] (fun r' o' => ∃ (r : aF × Bool), Q r ∧ r' = .tup [.agg (aL r.1), .b r.2] ∧ o' = [.box t u [.lit (.int .i64 g.Rounds), .sl 1 (g.Slots.map aM), .lit c, .lit (.map (some w))], .arr c 3 1 (n.map aM), .map j (q.map fun p : aF × Int => ((fun a : aF => Value.agg ((aL a).map cC).toArray) p.1, (fun v : Int => AV.i v) p.2)) s e]) := by
 unfold jC at h;refine jZ Tryz.func134 rfl (rs := [.cell 6 67, .tmp 7]) Tryz.results134 Tryz.ntmps134 (Nat.le_of_ble_eq_true rfl) ?_;refine aC (aA ?_);refine bE rfl (cM (zs := [.lit (.int .i64 0), .lit (.int .i64 0), .lit (.int .i64 0), .lit (.int .i64 0), .lit (.int .i64 0)]) (aD rfl) Tryz.zeroValue67 rfl rfl) ?_;rintro _ ⟨b1, rfl⟩;refine ta (.b false) (aB (aC (aC (aA (tm (.d (.lit (.map (some j)))) ?_)))));refine bE rfl (aRf (m := 2) (aD rfl) Tryz.underlying159 rfl rfl) ?_;rintro _ ⟨q2, h4, rfl⟩;have h := aGn h h4;refine aB (bF ?_);refine vY [0, 2, 6, 10] (fun (s5 : aF × (List Nat)) => []) (fun (s5 : aF × (List Nat)) => [.arr c 3 1 (n.map aM), .box t u [.lit (.int .i64 g.Rounds), .sl 1 (g.Slots.map aM), .lit c, .lit (.map (some w))], .map j (q.map fun p : aF × Int => ((fun a : aF => Value.agg ((aL a).map cC).toArray) p.1, (fun v : Int => AV.i v) p.2)) s e, .box b1 0 (aL s5.1), .iter q2 j e s5.2 e]) (fun (k : Nat) (s5 : aF × (List Nat)) => iY Q f n g q k s5.1 (oE q s s5.2)) (fun _ h => h) ((aF.mk 0 0 0 0 0), []) h (aQ [1, 0, 2, 3, 4] rfl rfl (aN ⟨rfl, rfl, rfl, rfl, trivial⟩)) ?_;rintro k7 ⟨B, y⟩ h;simp only [iY] at h;refine aC (aA ?_);refine bE rfl (aUh (kv := (fun a : aF => Value.agg ((aL a).map cC).toArray)) (av := (fun v : Int => AV.i v)) (l := q) (mi := 4) (mm := 2) (aD rfl) rfl rfl rfl) ?_;rintro _ (⟨J, rfl⟩ | ⟨j9, E, p8, F, rfl⟩)
 ·have h := h.1 J;refine to (sex rfl rfl) (aB (aC ?_));refine aZ rfl (fun G => ?_) (fun G => ?_)
  ·exact absurd G (by decide)
  ·refine cB ?_;refine .inl ⟨rfl, ?_⟩;simp only [oX] at h;refine aC (aA (to (dE (aD rfl) aUm (zs := [.lit (.int .i64 0), .lit (.int .i64 0), .lit (.int .i64 0), .lit (.int .i64 0), .lit (.int .i64 0)]) rfl rfl rfl rfl (es := [.lit (.int .i64 0), .lit (.int .i64 0), .lit (.int .i64 0), .lit (.int .i64 0), .lit (.int .i64 0)]) rfl) ?_));refine to (sst 3 rfl rfl Tryz.sizeOf67 (aL (aF.mk 0 0 0 0 0))) (ta (.b false) (aB ?_));refine bT (aQ [1, 0, 2, 3, 4] rfl rfl (le_refl _)) ?_;exact bB ⟨rfl, _, [.box t u [.lit (.int .i64 g.Rounds), .sl 1 (g.Slots.map aM), .lit c, .lit (.map (some w))], .arr c 3 1 (n.map aM), .map j (q.map fun p : aF × Int => ((fun a : aF => Value.agg ((aL a).map cC).toArray) p.1, (fun v : Int => AV.i v) p.2)) s e], [.box b1 0 (aL (aF.mk 0 0 0 0 0)), .iter q2 j e y e], _, .two (.cell 6 67 rfl (i := 3) rfl lX (es := (aL (aF.mk 0 0 0 0 0))) rfl rfl) (.tmp 7 (v := .b false) rfl), .refl _, .same _, ((aF.mk 0 0 0 0 0), false), h, rfl, rfl⟩
 ·have h := aIm h F;refine to (sex rfl rfl) (aB (aC ?_));refine aZ rfl (fun H => ?_) (fun H => ?_)
  ·refine aY (bF (aC (aA (to (aRe (kv := (fun a : aF => Value.agg ((aL a).map cC).toArray)) (av := (fun v : Int => AV.i v)) (l := q) (mi := 4) (mm := 2) (ka := .agg (aL p8.1)) (aD rfl) rfl rfl rfl F (fun _ _ => .agg (aGj rfl))) ?_))));refine to (sex rfl rfl) ?_;refine bE rfl (cM (zs := [.lit (.int .i64 0), .lit (.int .i64 0), .lit (.int .i64 0), .lit (.int .i64 0), .lit (.int .i64 0)]) (aD rfl) Tryz.zeroValue67 rfl rfl) ?_;rintro _ ⟨z, rfl⟩;refine to (sst 5 rfl rfl Tryz.sizeOf67 (aL p8.1)) (aB (aC ?_));obtain ⟨K, x, h⟩ := gO h;refine cV mix 16 [0, 2, 6, 8, 10] [(30, .b K)] ?_ ?_
   ·refine aW (decide (p8.1.Place = f)) (fun o => ?_) (fun o => ?_)
    ·have x := aK o x;obtain ⟨A, I, x⟩ := bind_some x;have x := Option.some.inj x;subst x;refine ⟨[(15, 0, .bp z 0 2), (16, 1, .i p8.1.Place), (17, 2, .i f), (18, 3, .b (decide (p8.1.Place = f))), (19, 4, .b (decide (p8.1.Place = f))), (20, 5, .bp z 0 4), (21, 6, .i p8.1.Old), (22, 7, .bp t u 0), (23, 8, .bp t u 0), (24, 9, .bp t u 2), (25, 10, .d (.lit c)), (26, 11, .i f), (27, 12, .ep c 1 f.toNat 0), (28, 13, .i A), (29, 14, .b (decide (p8.1.Old = A))), (30, 15, .b (decide (p8.1.Old = A)))], ?_, ?_⟩
     · exact dok [([], []), ([0], []), ([], []), ([1, 2], []), ([3], []), ([4], []), ([4, 5], []), ([4], []), ([4, 7], []), ([4, 8], []), ([4, 9], []), ([4], []), ([4, 10, 11], []), ([4, 12], []), ([4, 6, 13], []), ([4, 14], [])] ⟨go (zf rfl lD),
      go (zl 5 rfl rfl rfl aU),
      go (zm (.i f)),
      go (zcm rfl rfl rfl),
      go (zm (.b (decide (p8.1.Place = f)))),
      gt o (zf rfl xS),
      gt o (zl 5 rfl rfl rfl aU),
      gt o (zm (.bp t u 0)),
      gt o fun S hS => nO (aD rfl) (aX hS rfl),
      gt o (zf rfl pG),
      gt o (zl 1 rfl rfl rfl cI),
      gt o (zm (.i f)),
      gt o (zia 0 rfl rfl rfl bJ.of (bA aM I)),
      gt o fun S hS => iU (aD rfl) (aX hS rfl) (m := 0) rfl (dY aM I) rfl aU,
      gt o (zcm rfl rfl rfl),
      go (zpt (.b (decide (p8.1.Old = A))) o), trivial⟩
     · exact cK (aI rfl (aN ⟨rfl, rfl, rfl, rfl, rfl, trivial⟩))
    ·have x := aJ o x;have x := Option.some.inj x;subst x;refine ⟨[(15, 0, .bp z 0 2), (16, 1, .i p8.1.Place), (17, 2, .i f), (18, 3, .b (decide (p8.1.Place = f))), (19, 4, .b (decide (p8.1.Place = f))), (20, 5, .tup []), (21, 6, .tup []), (22, 7, .tup []), (23, 8, .tup []), (24, 9, .tup []), (25, 10, .tup []), (26, 11, .tup []), (27, 12, .tup []), (28, 13, .tup []), (29, 14, .tup []), (30, 15, .b false)], ?_, ?_⟩
     · exact dok [([], []), ([0], []), ([], []), ([1, 2], []), ([3], []), ([4], []), ([4, 5], []), ([4], []), ([4, 7], []), ([4, 8], []), ([4, 9], []), ([4], []), ([4, 10, 11], []), ([4, 12], []), ([4, 6, 13], []), ([4, 14], [])] ⟨go (zf rfl lD),
      go (zl 5 rfl rfl rfl aU),
      go (zm (.i f)),
      go (zcm rfl rfl rfl),
      go (zm (.b (decide (p8.1.Place = f)))),
      gp o,
      gp o,
      gp o,
      gp o,
      gp o,
      gp o,
      gp o,
      gp o,
      gp o,
      gp o,
      go (zpf (.b false) o), trivial⟩
     · exact cK (aI rfl (aN ⟨rfl, rfl, rfl, rfl, rfl, trivial⟩))
   ·refine aB ?_;refine aZ rfl (fun C => ?_) (fun C => ?_)
    ·have h := jO C h;refine aC (aA (to (sla 5 (aL p8.1) rfl rfl lX) (to (sst 3 rfl rfl Tryz.sizeOf67 (aL p8.1)) (ta (.b true) (aB ?_)))));refine bT (aQ [1, 0, 2, 3, 4, 5] rfl rfl (le_refl _)) ?_;exact bB ⟨rfl, _, [.box t u [.lit (.int .i64 g.Rounds), .sl 1 (g.Slots.map aM), .lit c, .lit (.map (some w))], .arr c 3 1 (n.map aM), .map j (q.map fun p : aF × Int => ((fun a : aF => Value.agg ((aL a).map cC).toArray) p.1, (fun v : Int => AV.i v) p.2)) s e], [.box b1 0 (aL p8.1), .iter q2 j e (y ++ [E]) e, .box z 0 (aL p8.1)], _, .two (.cell 6 67 rfl (i := 3) rfl lX (es := (aL p8.1)) rfl rfl) (.tmp 7 (v := .b true) rfl), .refl _, .same _, (p8.1, true), h, rfl, rfl⟩
    ·have h := jN C h;refine cR ?_;exact ⟨(B, (y ++ [E])), h, aQ [0, 1, 2, 3, 4] rfl rfl (aN ⟨rfl, rfl, rfl, rfl, trivial⟩)⟩
  ·exact absurd H (by decide)

theorem aCf (e : aV) (w : List Int) (C : List (aF × Int)) {Q : (Bool × (List Int) × (List (aF × Int))) → Prop} {q s : Nat} {c : Value} {t : Nat} {g : Nat} {z : List Nat} {A : Nat} (h : lY e w C Q) : fU Tryz.prog 119 [.bp q s 0, .d (.lit (.map (some g)))] [.box q s [.lit (.int .i64 e.Rounds), .sl 1 (e.Slots.map aM), .lit c, .lit (.map (some t))], .arr c 3 1 (w.map aM), .map g (C.map fun p : aF × Int => ((fun a : aF => Value.agg ((aL a).map cC).toArray) p.1, (fun v : Int => AV.i v) p.2)) z A] (fun r' o' => ∃ (r : Bool × (List Int) × (List (aF × Int))) (W : List Nat) (X : Nat), Q r ∧ r' = .b r.1 ∧ o' = [.box q s [.lit (.int .i64 e.Rounds), .sl 1 (e.Slots.map aM), .lit c, .lit (.map (some t))], .arr c 3 1 (r.2.1.map aM), .map g (r.2.2.map fun p : aF × Int => ((fun a : aF => Value.agg ((aL a).map cC).toArray) p.1, (fun v : Int => AV.i v) p.2)) W X]) := by
 unfold lY at h;refine jZ Tryz.func119 rfl (rs := [.tmp 4]) Tryz.results119 Tryz.ntmps119 (Nat.le_of_ble_eq_true rfl) ?_;refine aC (aA (ta (.b false) (aB (aC (aA (tm (.bp q s 0) (to (nO (aD rfl) rfl) ?_)))))));refine to (sf rfl yR) (to (sf rfl dM) (to (sl 0 rfl rfl rfl cI) ?_));obtain ⟨r1, h2, h⟩ := gO h;refine bE rfl (zT (aD rfl) (.func _ _ Tryz.call63) rfl rfl (tK _ h2)) ?_;rintro _ ⟨v3, rfl⟩;refine ta (.d (.lit v3)) (aB (aC (aC (aA (tm (.bp q s 0) (to (nO (aD rfl) rfl) ?_))))));refine to (sf rfl pG) (to (sl 0 rfl rfl rfl cI) (to (kA (m := 1) (aD rfl) rfl rfl bJ.of) ?_));refine tm (.i 0) (aB (bF ?_));refine vY [0, 1, 19] (fun (s4 : Int × (List Int) × (List (aF × Int)) × (List Int) × (List Nat) × Nat × Value) => [(5, .d (.lit s4.2.2.2.2.2.2)), (20, .i s4.1)]) (fun (s4 : Int × (List Int) × (List (aF × Int)) × (List Int) × (List Nat) × Nat × Value) => [.arr c 3 1 (s4.2.1.map aM), .box q s [.lit (.int .i64 e.Rounds), .sl 1 (e.Slots.map aM), .lit c, .lit (.map (some t))], .map g (s4.2.2.1.map fun p : aF × Int => ((fun a : aF => Value.agg ((aL a).map cC).toArray) p.1, (fun v : Int => AV.i v) p.2)) s4.2.2.2.2.1 s4.2.2.2.2.2.1, .arr s4.2.2.2.2.2.2 3 1 (s4.2.2.2.1.map aM)]) (fun (k : Nat) (s4 : Int × (List Int) × (List (aF × Int)) × (List Int) × (List Nat) × Nat × Value) => dD Q (w.length : Int) e k s4.1 s4.2.1 s4.2.2.1 s4.2.2.2.1) (fun _ h => h) (0, w, C, r1, z, A, v3) h (aQ [1, 0, 2, 3] rfl rfl (aI rfl (aI rfl (aN ⟨rfl, rfl, rfl, trivial⟩)))) ?_;rintro k8 ⟨j, B, u, H, L, M, w7⟩ h;simp only [dD] at h;refine aC (aA (to (scm rfl rfl rfl) (aB (aC ?_))));refine aZ rfl (fun c9 => ?_) (fun c9 => ?_)
 ·have h := jO c9 h;refine aY (aC (bF (aC (aA (tm (.i j) (ta (.i j) (aB (aC (aA (tm (.bp q s 0) (tm (.d (.lit (.map (some g)))) (tm (.i j) ?_))))))))))));refine sC (aQ [1, 0, 2, 3] rfl rfl (le_refl _)) ?_;refine bE rfl (fC (passed := [.box q s [.lit (.int .i64 e.Rounds), .sl 1 (e.Slots.map aM), .lit c, .lit (.map (some t))], .arr c 3 1 (B.map aM), .map g (u.map fun p : aF × Int => ((fun a : aF => Value.agg ((aL a).map cC).toArray) p.1, (fun v : Int => AV.i v) p.2)) L M]) (aD rfl) rfl (.func _ _ Tryz.call134) rfl rfl (xJ e B u j h)) ?_;rintro _ ⟨_, _, ⟨I, h, rfl, rfl⟩, rfl⟩;refine tm (.tup [.agg (aL I.1), .b I.2]) (to (sex rfl rfl) (to (sex rfl rfl) ?_));refine bE rfl (cM (zs := [.lit (.int .i64 0), .lit (.int .i64 0), .lit (.int .i64 0), .lit (.int .i64 0), .lit (.int .i64 0)]) (aD rfl) Tryz.zeroValue67 rfl rfl) ?_;rintro _ ⟨Y, rfl⟩;refine to (sst 4 rfl rfl Tryz.sizeOf67 (aL I.1)) (ta (.b I.2) (aB ?_));refine uZ ?_;refine vY [0, 1, 6, 19, 20] (fun (x : Bool × (List Int) × (List (aF × Int)) × aF × (List Int) × (List Nat) × Nat × Nat × Value) => [(5, .d (.lit x.2.2.2.2.2.2.2.2)), (7, .bp x.2.2.2.2.2.2.2.1 0 0), (8, .b x.1)]) (fun (x : Bool × (List Int) × (List (aF × Int)) × aF × (List Int) × (List Nat) × Nat × Nat × Value) => [.arr c 3 1 (x.2.1.map aM), .box q s [.lit (.int .i64 e.Rounds), .sl 1 (e.Slots.map aM), .lit c, .lit (.map (some t))], .map g (x.2.2.1.map fun p : aF × Int => ((fun a : aF => Value.agg ((aL a).map cC).toArray) p.1, (fun v : Int => AV.i v) p.2)) x.2.2.2.2.2.1 x.2.2.2.2.2.2.1, .box x.2.2.2.2.2.2.2.1 0 (aL x.2.2.2.1), .arr x.2.2.2.2.2.2.2.2 3 1 (x.2.2.2.2.1.map aM)]) (fun (k : Nat) (x : Bool × (List Int) × (List (aF × Int)) × aF × (List Int) × (List Nat) × Nat × Nat × Value) => eN Q (dD Q (w.length : Int) e k8) j (w.length : Int) j e k x.1 x.2.1 x.2.2.1 x.2.2.2.1 x.2.2.2.2.1) (fun _ h => h) (I.2, B, u, I.1, H, L, M, Y, w7) h (aQ [1, 0, 2, 4, 3] rfl rfl (aI rfl (aI rfl (aI rfl (aN ⟨rfl, rfl, rfl, rfl, rfl, trivial⟩))))) ?_;rintro a3 ⟨K, y, o, n, E, F, G, T, N⟩ h;simp only [eN] at h;refine aC (aC (aA (tm (.b K) (aB ?_))));refine aZ rfl (fun O => ?_) (fun O => ?_)
  ·have h := jO O h;refine aY (aC (bF (aC (aC (aA (tm (.d (.lit N)) (to (sf rfl oI) (to (sl 3 rfl rfl rfl aU) ?_))))))));obtain ⟨a4, Z, h⟩ := gO h;refine to (sc Tryz.call60 (fE _ _ Z) (.cons (.d (nV 4 rfl (cP (f := aM) fun _ => rfl))) (.cons (.same _) .nil))) (aB ?_);refine aZ rfl (fun P => ?_) (fun P => ?_)
   ·have h := jO P h;refine aC (aA (ta (.b false) (aB ?_)));refine bT (aQ [1, 0, 2, 3, 4] rfl rfl (le_refl _)) ?_;exact bB ⟨rfl, _, [.box q s [.lit (.int .i64 e.Rounds), .sl 1 (e.Slots.map aM), .lit c, .lit (.map (some t))], .arr c 3 1 (y.map aM), .map g (o.map fun p : aF × Int => ((fun a : aF => Value.agg ((aL a).map cC).toArray) p.1, (fun v : Int => AV.i v) p.2)) F G], [.box T 0 (aL n), .arr N 3 1 (E.map aM)], _, .one (.tmp 4 (v := .b false) rfl), .refl _, .same _, (false, y, o), F, G, h, rfl, rfl⟩
   ·have h := jN P h;refine aY (aC ?_);refine cV mix 7 [0, 1, 5, 6, 7, 19, 20] [(45, .d (.lit c)), (46, .i j), (48, .i n.Player)] ?_ ?_
    ·refine ⟨[(42, 0, .bp q s 0), (43, 1, .bp q s 0), (44, 2, .bp q s 2), (45, 3, .d (.lit c)), (46, 4, .i j), (47, 5, .bp T 0 3), (48, 6, .i n.Player)], ?_, ?_⟩
     · exact dok [([], []), ([0], []), ([1], []), ([2], []), ([], []), ([], []), ([5], [])] ⟨go (zm (.bp q s 0)),
      go fun S hS => nO (aD rfl) (aX hS rfl),
      go (zf rfl pG),
      go (zl 1 rfl rfl rfl cI),
      go (zm (.i j)),
      go (zf rfl oI),
      go (zl 3 rfl rfl rfl aU), trivial⟩
     · exact cK (aI rfl (aI rfl (aI rfl (aN ⟨rfl, rfl, rfl, rfl, rfl, rfl, rfl, trivial⟩))))
    ·obtain ⟨a5, U, h⟩ := gO h;refine to (dL (m := 0) (aD rfl) rfl rfl rfl bJ.of (bA aM U)) ?_;refine to (kZ (l := 0) rfl rfl (dY aM U) rfl rfl rfl Tryz.sizeOf3 rfl (aD rfl) (Nat.le_of_ble_eq_true rfl) (rows' := ((y.set j.toNat n.Player)).map aM) (rW _ _ _ _ rfl)) ?_;refine aB (aC (aA (tm (.d (.lit N)) (to (sf rfl oI) (to (sl 3 rfl rfl rfl aU) (to (fR (aD rfl) bJ rfl rfl (rows := ([n.Player]).map aM) rfl (cP (f := aM) fun _ => rfl) rfl (by decide)) ?_))))));obtain ⟨a0, a1, h⟩ := gO h;refine bE rfl (gP (i := 4) (aD rfl) bJ rfl rfl rfl (fun _ => rfl) a1 rfl) ?_;rintro _ ⟨V, rfl⟩;refine ta (.d (.lit V)) (aB (aA (tm (.d (.lit (.map (some g)))) (to (sla 3 (aL n) rfl rfl lX) (to (aVv (av := (fun v : Int => AV.i v)) (l := o) (a := n) (m := 2) aOp Tryz.underlying159 rfl rfl rfl rfl (qT (enc := aL) n rfl)) ?_)))));refine cQ ?_;refine aC (aC (aA (to (sla 3 (aL n) rfl rfl lX) (aB (aA ?_)))));refine bE rfl (cM (zs := [.lit (.int .i64 0), .lit (.int .i64 0), .lit (.int .i64 0), .lit (.int .i64 0), .lit (.int .i64 0)]) (aD rfl) Tryz.zeroValue67 rfl rfl) ?_;rintro _ ⟨a2, rfl⟩;refine to (sst 5 rfl rfl Tryz.sizeOf67 (aL n)) (aB (aA (tm (.bp q s 0) (tm (.d (.lit (.map (some g)))) (tm (.i j) ?_)))));refine sC (aQ [1, 0, 2, 3, 4, 5] rfl rfl (le_refl _)) ?_;refine bE rfl (fC (passed := [.box q s [.lit (.int .i64 e.Rounds), .sl 1 (e.Slots.map aM), .lit c, .lit (.map (some t))], .arr c 3 1 ((y.set j.toNat n.Player).map aM), .map g ((rI n o).map fun p : aF × Int => ((fun a : aF => Value.agg ((aL a).map cC).toArray) p.1, (fun v : Int => AV.i v) p.2)) (aCk n o F) G]) (aD rfl) rfl (.func _ _ Tryz.call134) rfl rfl (xJ e (y.set j.toNat n.Player) (rI n o) j h)) ?_;rintro _ ⟨_, _, ⟨J, h, rfl, rfl⟩, rfl⟩;refine tm (.tup [.agg (aL J.1), .b J.2]) (to (sex rfl rfl) (to (sex rfl rfl) (to (sst 5 rfl rfl Tryz.sizeOf67 (aL J.1)) (ta (.b J.2) (aB ?_)))));exact ⟨(J.2, (y.set j.toNat n.Player), (rI n o), J.1, a0, (aCk n o F), G, a2, V), h, aQ [1, 0, 2, 5, 4] rfl rfl (aI rfl (aI rfl (aI rfl (aN ⟨rfl, rfl, rfl, rfl, rfl, trivial⟩))))⟩
  ·have h := jN O h;refine cB ?_;refine .inl ⟨rfl, ?_⟩;simp only [mP] at h;simp only [mO] at h;refine aA (to (sar rfl rfl rfl) (tm (.i (w64 (j + 1))) (aB ?_)));exact ⟨(w64 (j + 1), y, o, E, F, G, N), h, aQ [0, 1, 2, 4] rfl rfl (aI rfl (aI rfl (aN ⟨rfl, rfl, rfl, trivial⟩)))⟩
 ·have h := jN c9 h;refine cB ?_;refine .inl ⟨rfl, ?_⟩;simp only [mN] at h;refine aC (aA (tm (.d (.lit (.map (some g)))) (to (aVx (m := 2) (aD rfl) Tryz.underlying159 rfl rfl) ?_)));refine to (scm rfl rfl rfl) (ta (.b (decide ((u.length : Int) = 0))) (aB ?_));refine bT (aQ [1, 0, 2, 3] rfl rfl (le_refl _)) ?_;exact bB ⟨rfl, _, [.box q s [.lit (.int .i64 e.Rounds), .sl 1 (e.Slots.map aM), .lit c, .lit (.map (some t))], .arr c 3 1 (B.map aM), .map g (u.map fun p : aF × Int => ((fun a : aF => Value.agg ((aL a).map cC).toArray) p.1, (fun v : Int => AV.i v) p.2)) L M], [.arr w7 3 1 (H.map aM)], _, .one (.tmp 4 (v := .b (decide ((u.length : Int) = 0))) rfl), .refl _, .same _, (decide ((u.length : Int) = 0), B, u), L, M, h, rfl, rfl⟩

theorem tT (a : Int) (b : Int) {r : aH} (h : oY a b = some r) : Fn Tryz.prog 116 [.i a, .i b] (.agg (aT r)) := by
 unfold oY at h;refine gV Tryz.func116 rfl (rs := [.cell 4 155]) Tryz.results116 Tryz.ntmps116 (Nat.le_of_ble_eq_true rfl) ?_;refine aC (aA ?_);refine bE rfl (cM (zs := [.lit (.int .i64 0), .lit (.int .i64 0)]) (aD rfl) Tryz.zeroValue155 rfl rfl) ?_;rintro _ ⟨b1, rfl⟩;refine aB (aC (aA (tm (.i a) (tm (.i b) (tm (.i a) (to (sar rfl rfl rfl) ?_))))));obtain ⟨u2, h3, h⟩ := bind_some h;refine to (uX (aD rfl) rfl rfl (vI h3)) ?_;refine to (dE (aD rfl) aLw (zs := [.lit (.int .i64 0), .lit (.int .i64 0)]) rfl rfl rfl rfl (es := [.lit (.int .i64 a), .lit (.int .i64 (b.fdiv (2 ^ (min (w64 (a + 1)).toNat 64))))]) rfl) ?_;refine to (sst 0 rfl rfl Tryz.sizeOf155 (aT (aH.mk a (b.fdiv (2 ^ (min (w64 (a + 1)).toNat 64)))))) (aB ?_);have h := Option.some.inj h;subst h;exact bB ⟨rfl, _, [.box b1 0 (aT (aH.mk a (b.fdiv (2 ^ (min (w64 (a + 1)).toNat 64)))))], .one (.cell 4 155 rfl (i := 0) rfl wC (es := (aT (aH.mk a (b.fdiv (2 ^ (min (w64 (a + 1)).toNat 64)))))) rfl rfl), .refl _, .same _⟩

theorem xK (g : aV) (o : List Int) (A : List (aH × Int)) (s : Int) (w : Int) {r : Bool × (List (aH × Int))} {j n : Nat} {e : Value} {f : Nat} {x : List Nat} {y : Nat} (h : mD g o A s w = some r) : fU Tryz.prog 120 [.bp j n 0, .i s, .i w] [.box j n [.lit (.int .i64 g.Rounds), .sl 1 (g.Slots.map aM), .lit e, .lit (.map (some f))], .arr e 3 1 (o.map aM), .map f (A.map fun p : aH × Int => ((fun a : aH => Value.agg ((aT a).map cC).toArray) p.1, (fun v : Int => AV.i v) p.2)) x y] (fun r' o' => ∃ (B : List Nat) (I : Nat), r' = .b r.1 ∧ o' = [.box j n [.lit (.int .i64 g.Rounds), .sl 1 (g.Slots.map aM), .lit e, .lit (.map (some f))], .arr e 3 1 (o.map aM), .map f (r.2.map fun p : aH × Int => ((fun a : aH => Value.agg ((aT a).map cC).toArray) p.1, (fun v : Int => AV.i v) p.2)) B I]) := by
 unfold mD at h;refine jZ Tryz.func120 rfl (rs := [.tmp 6]) Tryz.results120 Tryz.ntmps120 (Nat.le_of_ble_eq_true rfl) ?_;refine aC (aA (ta (.b false) (aB (aC (aC (aA (tm (.i w) (to (sar rfl rfl rfl) (tm (.i 0) (aB (bF ?_)))))))))));refine bY [0, 1, 12] (fun (s1 : Int × (List (aH × Int)) × (List Nat) × Nat) => [(13, .i s1.1)]) (fun (s1 : Int × (List (aH × Int)) × (List Nat) × Nat) => [.arr e 3 1 (o.map aM), .map f (s1.2.1.map fun p : aH × Int => ((fun a : aH => Value.agg ((aT a).map cC).toArray) p.1, (fun v : Int => AV.i v) p.2)) s1.2.2.1 s1.2.2.2, .box j n [.lit (.int .i64 g.Rounds), .sl 1 (g.Slots.map aM), .lit e, .lit (.map (some f))]]) (fun (k : Nat) (s1 : Int × (List (aH × Int)) × (List Nat) × Nat) => iZ s (w64 (w + 1)) o g k s1.1 s1.2.1) (fun _ => rfl) (0, A, x, y) h (aQ [1, 2, 0] rfl rfl (aI rfl (aN ⟨rfl, rfl, rfl, trivial⟩))) ?_;rintro k4 ⟨t, c, B, C⟩ h;simp only [iZ] at h;refine aC (aA (to (scm rfl rfl rfl) (aB (aC ?_))));refine aZ rfl (fun c5 => ?_) (fun c5 => ?_)
 ·have h := aK c5 h;refine aY (aC (bF (aC (aA (tm (.i t) (ta (.i t) (aB (aC (aA (tm (.i t) (tm (.i s) ?_)))))))))));obtain ⟨r6, h7, h⟩ := bind_some h;refine to (fB (aD rfl) (.func _ _ Tryz.call116) rfl rfl (tT _ _ h7)) ?_;refine bE rfl (cM (zs := [.lit (.int .i64 0), .lit (.int .i64 0)]) (aD rfl) Tryz.zeroValue155 rfl rfl) ?_;rintro _ ⟨b8, rfl⟩;refine to (sst 3 rfl rfl Tryz.sizeOf155 (aT r6)) (aB (aC (aC ?_)));refine cV mix 10 [0, 1, 8, 12, 13] [(9, .i (dA r6 0 c)), (27, .b (dP r6 c))] ?_ ?_
  ·refine ⟨[(20, 0, .bp j n 0), (21, 1, .bp j n 0), (22, 2, .bp j n 3), (23, 3, .d (.lit (.map (some f)))), (24, 4, .agg (aT r6)), (25, 5, .tup [.i (dA r6 0 c), .b (dP r6 c)]), (19, 6, .tup [.i (dA r6 0 c), .b (dP r6 c)]), (26, 7, .i (dA r6 0 c)), (27, 8, .b (dP r6 c)), (9, 9, .i (dA r6 0 c))], ?_, ?_⟩
   · exact dok [([], []), ([0], []), ([1], []), ([2], []), ([], []), ([3, 4], []), ([5], []), ([6], []), ([6], []), ([7], [])] ⟨go (zm (.bp j n 0)),
      go fun S hS => nO (aD rfl) (aX hS rfl),
      go (zf rfl aBq),
      go (zl 2 rfl rfl rfl aHw),
      go (zla 3 (aT r6) rfl rfl wC),
      go fun S hS => aLi (av := (fun v : Int => AV.i v)) (l := c) (z := 0) (a := r6) (m := 1) (aD rfl) aAb Tryz.underlying151 Tryz.zeroValue3 (fun _ _ => .d (.lit _ rfl)) (aX hS rfl) rfl rfl (aX hS rfl) (qT (enc := aT) r6 rfl),
      go (zm (.tup [.i (dA r6 0 c), .b (dP r6 c)])),
      go (zex rfl rfl),
      go (zex rfl rfl),
      go (za (.i (dA r6 0 c))), trivial⟩
   · exact cK (aI rfl (aI rfl (aN ⟨rfl, rfl, rfl, rfl, rfl, trivial⟩)))
  ·refine ta (.b (dP r6 c)) (aB (aC (aA (tm (.b (dP r6 c)) (tm (.b (dP r6 c)) ?_)))));obtain ⟨b9, u, h⟩ := bind_some h;refine bH 10 [0, 1, 8, 12, 13] 39 b9 ?_ ?_
   ·refine aW (dP r6 c) (fun q => ?_) (fun q => ?_)
    ·have u := aK q u;refine tk q (sm (.i (dA r6 0 c))) (tk q (sm (.bp j n 0)) (tk q (nO (aD rfl) rfl) ?_));refine tk q (sf rfl pG) (tk q (sl 2 rfl rfl rfl cI) (tk q (sm (.i s)) ?_));obtain ⟨J, G, u⟩ := bind_some u;refine tk q (dL (m := 0) (aD rfl) rfl rfl rfl bJ.of (bA aM G)) ?_;refine tk q (iU (aD rfl) rfl (m := 0) rfl (dY aM G) rfl aU) ?_;refine tk q (scm rfl rfl rfl) (to (spt (.b (!decide ((dA r6 0 c) = J))) q) ?_);have u := Option.some.inj u;subst u;refine aB (aO rfl ⟨rfl, rfl, rfl, rfl, rfl, trivial⟩ rfl)
    ·have u := aJ q u;refine tp q (tp q (tp q (tp q (tp q (tp q (tp q (tp q (tp q (to (spf (.b false) q) ?_)))))))));have u := Option.some.inj u;subst u;refine aB (aO rfl ⟨rfl, rfl, rfl, rfl, rfl, trivial⟩ rfl)
   ·refine aB ?_;refine aZ rfl (fun F => ?_) (fun F => ?_)
    ·have h := aK F h;refine aC (aA (ta (.b false) (aB ?_)));have h := Option.some.inj h;subst h;refine bT (aQ [2, 0, 1, 3] rfl rfl (le_refl _)) ?_;exact bB ⟨rfl, _, [.box j n [.lit (.int .i64 g.Rounds), .sl 1 (g.Slots.map aM), .lit e, .lit (.map (some f))], .arr e 3 1 (o.map aM), .map f (c.map fun p : aH × Int => ((fun a : aH => Value.agg ((aT a).map cC).toArray) p.1, (fun v : Int => AV.i v) p.2)) B C], [.box b8 0 (aT r6)], _, .one (.tmp 6 (v := .b false) rfl), .refl _, .same _, B, C, rfl, rfl⟩
    ·have h := aJ F h;refine aY ?_;obtain ⟨E, H, h⟩ := bind_some h;refine cV mix 12 [0, 1, 12, 13] [(43, .d (.lit (.map (some f)))), (44, .agg (aT r6)), (51, .i E)] ?_ ?_
     ·refine ⟨[(40, 0, .bp j n 0), (41, 1, .bp j n 0), (42, 2, .bp j n 3), (43, 3, .d (.lit (.map (some f)))), (44, 4, .agg (aT r6)), (45, 5, .bp j n 0), (46, 6, .bp j n 0), (47, 7, .bp j n 2), (48, 8, .d (.lit e)), (49, 9, .i s), (50, 10, .ep e 1 s.toNat 0), (51, 11, .i E)], ?_, ?_⟩
      · exact dok [([], []), ([0], []), ([1], []), ([2], []), ([], []), ([], []), ([5], []), ([6], []), ([7], []), ([], []), ([8, 9], []), ([10], [])] ⟨go (zm (.bp j n 0)),
      go fun S hS => nO (aD rfl) (aX hS rfl),
      go (zf rfl aBq),
      go (zl 2 rfl rfl rfl aHw),
      go (zla 3 (aT r6) rfl rfl wC),
      go (zm (.bp j n 0)),
      go fun S hS => nO (aD rfl) (aX hS rfl),
      go (zf rfl pG),
      go (zl 2 rfl rfl rfl cI),
      go (zm (.i s)),
      go (zia 0 rfl rfl rfl bJ.of (bA aM H)),
      go fun S hS => iU (aD rfl) (aX hS rfl) (m := 0) rfl (dY aM H) rfl aU, trivial⟩
      · exact cK (aI rfl (aI rfl (aI rfl (aN ⟨rfl, rfl, rfl, rfl, trivial⟩))))
     ·refine to (aCo (av := (fun v : Int => AV.i v)) (l := c) (v := E) (a := r6) (m := 1) aAb Tryz.underlying151 rfl rfl rfl rfl (qT (enc := aT) r6 rfl) rfl rfl) ?_;refine cQ ?_;refine aA (to (sar rfl rfl rfl) (tm (.i (w64 (t + 1))) (aB ?_)));exact ⟨(w64 (t + 1), (gR r6 E c), (mbs r6 c B C), (mck r6 c C)), h, aQ [0, 1, 2] rfl rfl (aI rfl (aN ⟨rfl, rfl, rfl, trivial⟩))⟩
 ·have h := aJ c5 h;refine cB ?_;refine .inl ⟨rfl, ?_⟩;simp only [sK] at h;refine aC (aA (ta (.b true) (aB ?_)));have h := Option.some.inj h;subst h;refine bT (aQ [2, 0, 1] rfl rfl (le_refl _)) ?_;exact bB ⟨rfl, _, [.box j n [.lit (.int .i64 g.Rounds), .sl 1 (g.Slots.map aM), .lit e, .lit (.map (some f))], .arr e 3 1 (o.map aM), .map f (c.map fun p : aH × Int => ((fun a : aH => Value.agg ((aT a).map cC).toArray) p.1, (fun v : Int => AV.i v) p.2)) B C], [], _, .one (.tmp 6 (v := .b true) rfl), .refl _, .same _, B, C, rfl, rfl⟩

theorem aKa (j : aV) (T : List aF) {Q : ((Option bI) × Bool) → Prop} (h : sT j T Q) : fU Tryz.prog 104 [.agg (bC j), .d (.sl 5 (T.map aL))] [] (fun r' o' => ∃ (r : (Option bI) × Bool), Q r ∧ r' = .tup [fJ bX r.1, .b r.2] ∧ o' = []) := by
 unfold sT at h;refine jZ Tryz.func104 rfl (rs := [.tmp 4, .tmp 5]) Tryz.results104 Tryz.ntmps104 (Nat.le_of_ble_eq_true rfl) ?_;refine aC (aA ?_);refine bE rfl (dN (v := .agg (bC j)) (aD rfl) rfl rfl rfl) ?_;rintro _ ⟨b1, rfl⟩;refine ta (fJ bX (none : Option bI)) (ta (.b false) (aB (aC ?_)));obtain ⟨r3, h4, h⟩ := gO h;refine uO mix 5 [1] (fun X2 => [(19, .agg (bC j)), (22, .d (.lit (X2 3).v)), (23, .d (.lit (.map (some (X2 4).b))))]) (fun X2 => [.box b1 0 (bC j), .arr (X2 3).v 3 1 (r3.map aM), .map (X2 4).b (([] : List (aH × Int)).map fun p : aH × Int => ((fun a : aH => Value.agg ((aT a).map cC).toArray) p.1, (fun v : Int => AV.i v) p.2)) ([]) 0]) ?_ ?_
 ·refine ⟨2, fun X2 => [(19, 0, .agg (bC j)), (20, 1, .bp b1 0 1), (21, 2, .d (.sl 1 (j.Slots.map aM))), (22, 3, .d (.lit (X2 3).v)), (23, 4, .d (.lit (.map (some (X2 4).b))))], fun X2 => [([], .box b1 0 (bC j)), ([(3, .arr (X2 3).v 3 1 (r3.map aM))], nob), ([(4, .map (X2 4).b (([] : List (aH × Int)).map fun p : aH × Int => ((fun a : aH => Value.agg ((aT a).map cC).toArray) p.1, (fun v : Int => AV.i v) p.2)) ([]) 0)], nob)], ?_, ?_⟩
  · exact ⟨by kernel_rfl, by kernel_rfl, by kernel_rfl, fun _ => by kernel_rfl, fun _ => by kernel_rfl, fun _ => by kernel_rfl, fun _ => rfl, [([], []), ([], [3]), ([1], [3]), ([2], []), ([], [])], by kernel_rfl, ⟨fun X2 S hw hi hS => cE (X := X2) rfl (hw X2) rfl (cT rfl (zW (aD rfl) (aX hS rfl) (i := 0) (og hS rfl rfl) jR (es := (bC j)) rfl rfl)),
      fun X2 S hw hi hS => cE (X := X2) rfl (hw X2) rfl (cT rfl (xA (aD rfl) (aX hS rfl) dM)),
      fun X2 S hw hi hS => cE (X := X2) rfl (hw X2) rfl (cT rfl (yX (aD rfl) (aX hS rfl) (i := 0) (og hS rfl rfl) rfl cI)),
      fun X2 S hw hi hS => aUs (X := X2) (p := 1) (v := fun x => .d (.lit x.v)) (mo := fun x => .arr x.v 3 1 (r3.map aM)) hS hi rfl rfl (fun _ => rfl) hw (fun _ => rfl) (fun _ => rfl) (fun _ => rfl) (fun _ => ⟨rfl, rfl, .inr rfl, ⟨rfl, rfl, .inr rfl, ⟨rfl, rfl, .inr rfl, ⟨rfl, rfl, .inl rfl, ⟨rfl, rfl, .inr rfl, trivial⟩⟩⟩⟩⟩) (fun _ => ⟨trivial, rfl, ⟨⟨rfl, .inl rfl, trivial⟩, rfl, ⟨⟨rfl, .inr rfl, trivial⟩, rfl, trivial⟩⟩⟩) (aHo (zT (aD rfl) (.func _ _ Tryz.call63) (ev2 (aX hS rfl) evn) rfl (tK _ h4)) (by rintro _ ⟨w, rfl⟩; exact ⟨⟨0, w⟩, aQ [0, 3, 2] rfl rfl (le_refl _)⟩)),
      fun X2 S hw hi hS => aUs (X := X2) (p := 2) (v := fun x => .d (.lit (.map (some x.b)))) (mo := fun x => .map x.b (([] : List (aH × Int)).map fun p : aH × Int => ((fun a : aH => Value.agg ((aT a).map cC).toArray) p.1, (fun v : Int => AV.i v) p.2)) ([]) 0) hS hi rfl rfl (fun _ => rfl) hw (fun _ => rfl) (fun _ => rfl) (fun _ => rfl) (fun _ => ⟨rfl, rfl, .inr rfl, ⟨rfl, rfl, .inr rfl, ⟨rfl, rfl, .inr rfl, ⟨rfl, rfl, .inr rfl, ⟨rfl, rfl, .inl rfl, trivial⟩⟩⟩⟩⟩) (fun _ => ⟨trivial, rfl, ⟨⟨rfl, .inr rfl, trivial⟩, rfl, ⟨⟨rfl, .inl rfl, trivial⟩, rfl, trivial⟩⟩⟩) (aHo (aCa (aD rfl)) (by rintro _ ⟨w, rfl⟩; exact ⟨⟨w, undef⟩, aQ [0, 1, 3] rfl rfl (le_refl _)⟩)), trivial⟩⟩
  · exact fun X2 => cK (aI rfl (aI rfl (aI rfl (aN ⟨rfl, trivial⟩))))
 ·intro X2;refine to (dE (aD rfl) aXs (zs := [.lit (.int .i64 0), .sl 1 ((([] : List Int)).map aM), .sl 1 ((([] : List Int)).map aM), .lit (.map none)]) rfl rfl rfl rfl (es := [.lit (.int .i64 j.Rounds), .sl 1 (j.Slots.map aM), .lit (X2 3).v, .lit (.map (some (X2 4).b))]) rfl) ?_;refine bE rfl (dN (v := .agg [.lit (.int .i64 j.Rounds), .sl 1 (j.Slots.map aM), .lit (X2 3).v, .lit (.map (some (X2 4).b))]) (aD rfl) rfl rfl rfl) ?_;rintro _ ⟨b5, rfl⟩;refine ta (.bp b5 0 0) (aB (aC (aA ?_)));refine bE rfl (aCa (aD rfl)) ?_;rintro _ ⟨r6, rfl⟩;refine bE rfl (aCa (aD rfl)) ?_;rintro _ ⟨r7, rfl⟩;refine ta (.d (.lit (.map (some r6)))) (ta (.d (.lit (.map (some r7)))) (aB (aC (aC (aA (tm (.d (.sl 5 (T.map aL))) (to (sle rfl hC.of) (tm (.i 0) (aB (bF ?_))))))))));refine vY [6, 7, 8, 28, 29] (fun (s8 : Int × (List (aF × Int)) × (List (aH × aF)) × (List Nat) × Nat × (List Nat) × Nat) => [(30, .i s8.1)]) (fun (s8 : Int × (List (aF × Int)) × (List (aH × aF)) × (List Nat) × Nat × (List Nat) × Nat) => [.arr (X2 3).v 3 1 (r3.map aM), .map (X2 4).b (([] : List (aH × Int)).map fun p : aH × Int => ((fun a : aH => Value.agg ((aT a).map cC).toArray) p.1, (fun v : Int => AV.i v) p.2)) ([]) 0, .box b5 0 [.lit (.int .i64 j.Rounds), .sl 1 (j.Slots.map aM), .lit (X2 3).v, .lit (.map (some (X2 4).b))], .map r6 (s8.2.1.map fun p : aF × Int => ((fun a : aF => Value.agg ((aL a).map cC).toArray) p.1, (fun v : Int => AV.i v) p.2)) s8.2.2.2.1 s8.2.2.2.2.1, .map r7 (s8.2.2.1.map fun p : aH × aF => ((fun a : aH => Value.agg ((aT a).map cC).toArray) p.1, (fun v : aF => AV.agg (aL v)) p.2)) s8.2.2.2.2.2.1 s8.2.2.2.2.2.2]) (fun (k : Nat) (s8 : Int × (List (aF × Int)) × (List (aH × aF)) × (List Nat) × Nat × (List Nat) × Nat) => iW Q T (T.length : Int) r3 ([] : List (aH × Int)) j k s8.1 s8.2.1 s8.2.2.1) (fun _ h => h) (0, ([] : List (aF × Int)), ([] : List (aH × aF)), [], 0, [], 0) h (aQ [1, 2, 3, 4, 5] rfl rfl (aI rfl (aN ⟨rfl, rfl, rfl, rfl, rfl, trivial⟩))) ?_;rintro d7 ⟨J, g, e, K, B, E, s⟩ h;simp only [iW] at h;refine aC (aA (to (scm rfl rfl rfl) (aB (aC ?_))));refine aZ rfl (fun a0 => ?_) (fun a0 => ?_)
  ·have h := jO a0 h;refine aY (aC (bF (aC (aA ?_))));obtain ⟨c, c7, h⟩ := gO h;refine to (six rfl rfl hC.of (bA aL c7)) (to (qH (aL c) rfl lX) ?_);refine bE rfl (cM (zs := [.lit (.int .i64 0), .lit (.int .i64 0), .lit (.int .i64 0), .lit (.int .i64 0), .lit (.int .i64 0)]) (aD rfl) Tryz.zeroValue67 rfl rfl) ?_;rintro _ ⟨a1, rfl⟩;refine to (sst 5 rfl rfl Tryz.sizeOf67 (aL c)) (aB (aC (aC (aA (to (sf rfl oH) (to (sl 5 rfl rfl rfl aU) (to (scm rfl rfl rfl) (aB ?_))))))));refine aZ rfl (fun a2 => ?_) (fun a2 => ?_)
   ·have h := jO a2 h;refine aC ?_;refine uO mix 6 [6, 7, 8, 28, 29, 30] (fun y => [(37, .d (.lit (.map (some r6)))), (40, .i (w64 ((dA c 0 g) + 1))), (42, .i (sX c g K B))]) (fun y => [.arr (X2 3).v 3 1 (r3.map aM), .map (X2 4).b (([] : List (aH × Int)).map fun p : aH × Int => ((fun a : aH => Value.agg ((aT a).map cC).toArray) p.1, (fun v : Int => AV.i v) p.2)) ([]) 0, .box b5 0 [.lit (.int .i64 j.Rounds), .sl 1 (j.Slots.map aM), .lit (X2 3).v, .lit (.map (some (X2 4).b))], .map r6 ((rJ c 0 g).map fun p : aF × Int => ((fun a : aF => Value.agg ((aL a).map cC).toArray) p.1, (fun v : Int => AV.i v) p.2)) (mbs c g K B) (mck c g B), .map r7 (e.map fun p : aH × aF => ((fun a : aH => Value.agg ((aT a).map cC).toArray) p.1, (fun v : aF => AV.agg (aL v)) p.2)) E s, .box a1 0 (aL c)]) ?_ ?_
    ·refine ⟨0, fun y => [(37, 0, .d (.lit (.map (some r6)))), (38, 1, .agg (aL c)), (39, 2, .i (dA c 0 g)), (40, 3, .i (w64 ((dA c 0 g) + 1))), (41, 4, .tup [.i (dA c 0 g), .i (sX c g K B)]), (42, 5, .i (sX c g K B))], fun y => [([], .arr (X2 3).v 3 1 (r3.map aM)), ([], .map (X2 4).b (([] : List (aH × Int)).map fun p : aH × Int => ((fun a : aH => Value.agg ((aT a).map cC).toArray) p.1, (fun v : Int => AV.i v) p.2)) ([]) 0), ([], .box b5 0 [.lit (.int .i64 j.Rounds), .sl 1 (j.Slots.map aM), .lit (X2 3).v, .lit (.map (some (X2 4).b))]), ([(4, .map r6 ((rJ c 0 g).map fun p : aF × Int => ((fun a : aF => Value.agg ((aL a).map cC).toArray) p.1, (fun v : Int => AV.i v) p.2)) (mbs c g K B) (mck c g B))], .map r6 (g.map fun p : aF × Int => ((fun a : aF => Value.agg ((aL a).map cC).toArray) p.1, (fun v : Int => AV.i v) p.2)) K B), ([], .map r7 (e.map fun p : aH × aF => ((fun a : aH => Value.agg ((aT a).map cC).toArray) p.1, (fun v : aF => AV.agg (aL v)) p.2)) E s), ([], .box a1 0 (aL c))], ?_, ?_⟩
     · exact ⟨by kernel_rfl, by kernel_rfl, by kernel_rfl, fun _ => by kernel_rfl, fun _ => by kernel_rfl, fun _ => by kernel_rfl, fun _ => rfl, [([], [4]), ([], [4]), ([0, 1], []), ([2], []), ([0, 1], []), ([4], [])], by kernel_rfl, ⟨fun y S hw hi hS => cE (X := y) rfl (hw y) rfl (cT rfl (eJ (v := .d (.lit (.map (some r6)))) (aD rfl) (aX hS rfl) rfl)),
      fun y S hw hi hS => cE (X := y) rfl (hw y) rfl (cT rfl (zW (aD rfl) (aX hS rfl) (i := 5) (og hS rfl rfl) lX (es := (aL c)) rfl rfl)),
      fun y S hw hi hS => cE (X := y) rfl (hw y) rfl (cT rfl (aUg (av := (fun v : Int => AV.i v)) (l := g) (z := 0) (a := c) (m := 3) (aD rfl) aOp Tryz.underlying159 Tryz.zeroValue3 (fun _ _ => .d (.lit _ rfl)) (aX hS rfl) (og2 rfl) rfl (aX hS rfl) (qT (enc := aL) c rfl))),
      fun y S hw hi hS => cE (X := y) rfl (hw y) rfl (cT rfl (pM (aD rfl) (aX hS rfl) rfl rfl)),
      fun y S hw hi hS => aZi (X := y) (p := 3) hS rfl rfl rfl (hw y) rfl rfl rfl (aHo (aSk (av := (fun v : Int => AV.i v)) (l := g) (z := 0) (a := c) (m := 3) (aD rfl) aOp Tryz.underlying159 Tryz.zeroValue3 (fun _ _ => .d (.lit _ rfl)) (aX hS rfl) (og hS rfl rfl) rfl (aX hS rfl) (qT (enc := aL) c rfl)) (by rintro _ rfl; exact Ent.refl _)),
      fun y S hw hi hS => cE (X := y) rfl (hw y) rfl (cT rfl (aHf (aD rfl) (aX hS rfl) rfl)), trivial⟩⟩
     · exact fun y => cK (aI rfl (aI rfl (aI rfl (aN ⟨rfl, rfl, rfl, rfl, rfl, rfl, trivial⟩))))
    ·intro y;refine to (aNh (kv := (fun a : aF => Value.agg ((aL a).map cC).toArray)) (av := (fun v : Int => AV.i v)) (l := g) (z := 0) (v := w64 ((dA c 0 g) + 1)) (a := c) (m := 3) rfl rfl rfl rfl rfl) ?_;refine aB ?_;refine cB ?_;refine .inl ⟨rfl, ?_⟩;refine aA (to (sar rfl rfl rfl) (tm (.i (w64 (J + 1))) (aB ?_)));exact ⟨(w64 (J + 1), (gR c (w64 ((dA c 0 g) + 1)) g), e, (mbs c g K B), (mck c g B), E, s), h, aQ [0, 1, 2, 3, 4] rfl rfl (aI rfl (aN ⟨rfl, rfl, rfl, rfl, rfl, trivial⟩))⟩
   ·have h := jN a2 h;refine aY (aC (aA (to (sf rfl pX) (to (sl 5 rfl rfl rfl aU) (to (sf rfl lD) (to (sl 5 rfl rfl rfl aU) (to (dE (aD rfl) aLw (zs := [.lit (.int .i64 0), .lit (.int .i64 0)]) rfl rfl rfl rfl (es := [.lit (.int .i64 c.Round), .lit (.int .i64 c.Place)]) rfl) ?_)))))));refine bE rfl (cM (zs := [.lit (.int .i64 0), .lit (.int .i64 0)]) (aD rfl) Tryz.zeroValue155 rfl rfl) ?_;rintro _ ⟨c8, rfl⟩;refine to (sst 6 rfl rfl Tryz.sizeOf155 (aT (aH.mk c.Round c.Place))) (aB (aC (aC (aA (tm (.d (.lit (.map (some r7)))) (to (sla 6 (aT (aH.mk c.Round c.Place)) rfl rfl wC) (to (aLi (av := (fun v : aF => AV.agg (aL v))) (l := e) (z := (aF.mk 0 0 0 0 0)) (a := (aH.mk c.Round c.Place)) (m := 4) (aD rfl) aAb Tryz.underlying160 Tryz.zeroValue67 (fun _ _ => .agg (aGj rfl)) rfl rfl rfl rfl (qT (enc := aT) (aH.mk c.Round c.Place) rfl)) ?_)))))));refine tm (.tup [.agg (aL (dA (aH.mk c.Round c.Place) (aF.mk 0 0 0 0 0) e)), .b (dP (aH.mk c.Round c.Place) e)]) (to (sex rfl rfl) (to (sex rfl rfl) ?_));refine bE rfl (cM (zs := [.lit (.int .i64 0), .lit (.int .i64 0), .lit (.int .i64 0), .lit (.int .i64 0), .lit (.int .i64 0)]) (aD rfl) Tryz.zeroValue67 rfl rfl) ?_;rintro _ ⟨c9, rfl⟩;refine to (sst 7 rfl rfl Tryz.sizeOf67 (aL (dA (aH.mk c.Round c.Place) (aF.mk 0 0 0 0 0) e))) (ta (.b (dP (aH.mk c.Round c.Place) e)) (aB (aC (aA (tm (.b (dP (aH.mk c.Round c.Place) e)) (tm (.b (dP (aH.mk c.Round c.Place) e)) ?_))))));obtain ⟨d0, L, h⟩ := gO h;refine bH 4 [6, 7, 8, 10, 11, 28, 29, 30] 59 d0 ?_ ?_
    ·refine aW (dP (aH.mk c.Round c.Place) e) (fun I => ?_) (fun I => ?_)
     ·have L := aK I L;refine tk I (sla 7 (aL (dA (aH.mk c.Round c.Place) (aF.mk 0 0 0 0 0) e)) rfl rfl lX) (tk I (sla 5 (aL c) rfl rfl lX) (tk I (aHy (a := (dA (aH.mk c.Round c.Place) (aF.mk 0 0 0 0 0) e)) (b := c) (aD rfl) rfl rfl rfl rfl Tryz.eqGuardType67 aOh) ?_));refine to (spt (.b (!decide ((dA (aH.mk c.Round c.Place) (aF.mk 0 0 0 0 0) e) = c))) I) ?_;have L := Option.some.inj L;subst L;refine aB (aO rfl ⟨rfl, rfl, rfl, rfl, rfl, rfl, rfl, rfl, trivial⟩ rfl)
     ·have L := aJ I L;refine tp I (tp I (tp I (to (spf (.b false) I) ?_)));have L := Option.some.inj L;subst L;refine aB (aO rfl ⟨rfl, rfl, rfl, rfl, rfl, rfl, rfl, rfl, trivial⟩ rfl)
    ·refine aB ?_;refine aZ rfl (fun a3 => ?_) (fun a3 => ?_)
     ·have h := jO a3 h;refine aC (aA (ta (fJ bX (none : Option bI)) (ta (.b false) (aB ?_))));exact bB ⟨rfl, _, [], [.arr (X2 3).v 3 1 (r3.map aM), .map (X2 4).b (([] : List (aH × Int)).map fun p : aH × Int => ((fun a : aH => Value.agg ((aT a).map cC).toArray) p.1, (fun v : Int => AV.i v) p.2)) ([]) 0, .box b5 0 [.lit (.int .i64 j.Rounds), .sl 1 (j.Slots.map aM), .lit (X2 3).v, .lit (.map (some (X2 4).b))], .map r6 (g.map fun p : aF × Int => ((fun a : aF => Value.agg ((aL a).map cC).toArray) p.1, (fun v : Int => AV.i v) p.2)) K B, .map r7 (e.map fun p : aH × aF => ((fun a : aH => Value.agg ((aT a).map cC).toArray) p.1, (fun v : aF => AV.agg (aL v)) p.2)) E s, .box a1 0 (aL c), .box c8 0 (aT (aH.mk c.Round c.Place)), .box c9 0 (aL (dA (aH.mk c.Round c.Place) (aF.mk 0 0 0 0 0) e))], _, .two (.tmp 4 (v := fJ bX (none : Option bI)) rfl) (.tmp 5 (v := .b false) rfl), .refl _, .same _, ((none : Option bI), false), h, rfl, rfl⟩
     ·have h := jN a3 h;refine aY (aA (tm (.d (.lit (.map (some r7)))) (to (sla 6 (aT (aH.mk c.Round c.Place)) rfl rfl wC) (to (sla 5 (aL c) rfl rfl lX) (to (aCo (av := (fun v : aF => AV.agg (aL v))) (l := e) (v := c) (a := (aH.mk c.Round c.Place)) (m := 4) aAb Tryz.underlying160 rfl rfl rfl rfl (qT (enc := aT) (aH.mk c.Round c.Place) rfl) rfl rfl) ?_)))));refine cQ ?_;refine aA (to (sar rfl rfl rfl) (tm (.i (w64 (J + 1))) (aB ?_)));exact ⟨(w64 (J + 1), g, (gR (aH.mk c.Round c.Place) c e), K, B, (mbs (aH.mk c.Round c.Place) e E s), (mck (aH.mk c.Round c.Place) e s)), h, aQ [0, 1, 2, 3, 4] rfl rfl (aI rfl (aN ⟨rfl, rfl, rfl, rfl, rfl, trivial⟩))⟩
  ·have h := jN a0 h;refine cB ?_;refine .inl ⟨rfl, ?_⟩;simp only [sI] at h;refine aC (aC (aA (tm (.bp b5 0 0) (tm (.d (.lit (.map (some r6)))) ?_))));refine sC (aQ [2, 0, 3, 1, 4] rfl rfl (le_refl _)) ?_;refine bE rfl (fC (passed := [.box b5 0 [.lit (.int .i64 j.Rounds), .sl 1 (j.Slots.map aM), .lit (X2 3).v, .lit (.map (some (X2 4).b))], .arr (X2 3).v 3 1 (r3.map aM), .map r6 (g.map fun p : aF × Int => ((fun a : aF => Value.agg ((aL a).map cC).toArray) p.1, (fun v : Int => AV.i v) p.2)) K B]) (aD rfl) rfl (.func _ _ Tryz.call119) rfl rfl (aCf j r3 g h)) ?_;rintro _ ⟨_, _, ⟨F, c3, c4, h, rfl, rfl⟩, rfl⟩;refine to (sn rfl) (aB ?_);refine aZ rfl (fun a4 => ?_) (fun a4 => ?_)
   ·have h := jO a4 h;refine aC (aA (ta (fJ bX (none : Option bI)) (ta (.b false) (aB ?_))));exact bB ⟨rfl, _, [], [.box b5 0 [.lit (.int .i64 j.Rounds), .sl 1 (j.Slots.map aM), .lit (X2 3).v, .lit (.map (some (X2 4).b))], .arr (X2 3).v 3 1 (F.2.1.map aM), .map r6 (F.2.2.map fun p : aF × Int => ((fun a : aF => Value.agg ((aL a).map cC).toArray) p.1, (fun v : Int => AV.i v) p.2)) c3 c4, .map (X2 4).b (([] : List (aH × Int)).map fun p : aH × Int => ((fun a : aH => Value.agg ((aT a).map cC).toArray) p.1, (fun v : Int => AV.i v) p.2)) ([]) 0, .map r7 (e.map fun p : aH × aF => ((fun a : aH => Value.agg ((aT a).map cC).toArray) p.1, (fun v : aF => AV.agg (aL v)) p.2)) E s], _, .two (.tmp 4 (v := fJ bX (none : Option bI)) rfl) (.tmp 5 (v := .b false) rfl), .refl _, .same _, ((none : Option bI), false), h, rfl, rfl⟩
   ·have h := jN a4 h;refine aY (aC (aC (aA (tm (.bp b5 0 0) (to (nO (aD rfl) rfl) ?_)))));refine to (sf rfl pG) (to (sl 0 rfl rfl rfl cI) (to (kA (m := 1) (aD rfl) rfl rfl bJ.of) ?_));refine tm (.i 0) (aB (bF ?_));refine vY [6, 8, 71, 72] (fun (N : Int × (List (aH × Int)) × (List Nat) × Nat) => [(73, .i N.1)]) (fun (N : Int × (List (aH × Int)) × (List Nat) × Nat) => [.arr (X2 3).v 3 1 (F.2.1.map aM), .map (X2 4).b (N.2.1.map fun p : aH × Int => ((fun a : aH => Value.agg ((aT a).map cC).toArray) p.1, (fun v : Int => AV.i v) p.2)) N.2.2.1 N.2.2.2, .box b5 0 [.lit (.int .i64 j.Rounds), .sl 1 (j.Slots.map aM), .lit (X2 3).v, .lit (.map (some (X2 4).b))], .map r7 (e.map fun p : aH × aF => ((fun a : aH => Value.agg ((aT a).map cC).toArray) p.1, (fun v : aF => AV.agg (aL v)) p.2)) E s]) (fun (k : Nat) (N : Int × (List (aH × Int)) × (List Nat) × Nat) => iX Q (F.2.1.length : Int) F.2.1 j e k N.1 N.2.1) (fun _ h => h) (0, ([] : List (aH × Int)), [], 0) h (aQ [1, 3, 0, 4] rfl rfl (aI rfl (aN ⟨rfl, rfl, rfl, rfl, trivial⟩))) ?_;rintro d8 ⟨A, H, U, V⟩ h;simp only [iX] at h;refine aC (aA (to (scm rfl rfl rfl) (aB (aC ?_))));refine aZ rfl (fun a5 => ?_) (fun a5 => ?_)
    ·have h := jO a5 h;refine aY (aC (bF (aC (aA (tm (.i A) ?_)))));obtain ⟨b7, b8, h⟩ := gO h;refine to (dL (m := 0) (aD rfl) rfl rfl rfl bJ.of (bA aM b8)) ?_;refine to (iU (aD rfl) rfl (m := 0) rfl (dY aM b8) rfl aU) ?_;refine ta (.i A) (ta (.i b7) (aB (aC (aA (tm (.i b7) (to (scm rfl rfl rfl) (aB ?_)))))));refine aZ rfl (fun a6 => ?_) (fun a6 => ?_)
     ·have h := jO a6 h;refine aA (tm (.bp b5 0 0) (tm (.i A) (to (aUb (aD rfl) rfl rfl (.inr (.inr ⟨rfl, rfl⟩))) ?_)));obtain ⟨d1, d2, h⟩ := gO h;refine sC (aQ [2, 0, 1, 3] rfl rfl (le_refl _)) ?_;refine bE rfl (fC (passed := [.box b5 0 [.lit (.int .i64 j.Rounds), .sl 1 (j.Slots.map aM), .lit (X2 3).v, .lit (.map (some (X2 4).b))], .arr (X2 3).v 3 1 (F.2.1.map aM), .map (X2 4).b (H.map fun p : aH × Int => ((fun a : aH => Value.agg ((aT a).map cC).toArray) p.1, (fun v : Int => AV.i v) p.2)) U V]) (aD rfl) rfl (.func _ _ Tryz.call120) rfl rfl (xK j F.2.1 H (aOa A 1) 0 d2)) ?_;rintro _ ⟨_, _, ⟨c5, c6, rfl, rfl⟩, rfl⟩;refine cQ ?_;refine aA (to (sar rfl rfl rfl) (tm (.i (w64 (A + 1))) (aB ?_)));exact ⟨(w64 (A + 1), d1.2, c5, c6), h, aQ [1, 2, 0, 3] rfl rfl (aI rfl (aN ⟨rfl, rfl, rfl, rfl, trivial⟩))⟩
     ·have h := jN a6 h;refine cR ?_;refine aA (to (sar rfl rfl rfl) (tm (.i (w64 (A + 1))) (aB ?_)));exact ⟨(w64 (A + 1), H, U, V), h, aQ [0, 1, 2, 3] rfl rfl (aI rfl (aN ⟨rfl, rfl, rfl, rfl, trivial⟩))⟩
    ·have h := jN a5 h;refine cB ?_;refine .inl ⟨rfl, ?_⟩;simp only [sJ] at h;refine aC (aC (aA (tm (.d (.lit (.map (some r7)))) ?_)));refine bE rfl (aRf (m := 3) (aD rfl) Tryz.underlying160 rfl rfl) ?_;rintro _ ⟨Z, d3, rfl⟩;have h := aGn h d3;refine aB (bF ?_);refine vY [6, 86] (fun (O : (List (aH × Int)) × (List Nat) × Nat × (List Nat)) => []) (fun (O : (List (aH × Int)) × (List Nat) × Nat × (List Nat)) => [.arr (X2 3).v 3 1 (F.2.1.map aM), .map (X2 4).b (O.1.map fun p : aH × Int => ((fun a : aH => Value.agg ((aT a).map cC).toArray) p.1, (fun v : Int => AV.i v) p.2)) O.2.1 O.2.2.1, .box b5 0 [.lit (.int .i64 j.Rounds), .sl 1 (j.Slots.map aM), .lit (X2 3).v, .lit (.map (some (X2 4).b))], .map r7 (e.map fun p : aH × aF => ((fun a : aH => Value.agg ((aT a).map cC).toArray) p.1, (fun v : aF => AV.agg (aL v)) p.2)) E s, .iter Z r7 s O.2.2.2 s]) (fun (k : Nat) (O : (List (aH × Int)) × (List Nat) × Nat × (List Nat)) => lB Q F.2.1 j e k O.1 (oE e E O.2.2.2)) (fun _ h => h) (H, U, V, []) h (aQ [0, 1, 2, 3, 4] rfl rfl (aN ⟨rfl, rfl, trivial⟩)) ?_;rintro d9 ⟨C, W, Y, M⟩ h;simp only [lB] at h;refine aC (aA ?_);refine bE rfl (aUh (kv := (fun a : aH => Value.agg ((aT a).map cC).toArray)) (av := (fun v : aF => AV.agg (aL v))) (l := e) (mi := 4) (mm := 3) (aD rfl) rfl rfl rfl) ?_;rintro _ (⟨d4, rfl⟩ | ⟨e0, a7, q, b9, rfl⟩)
     ·have h := h.1 d4;refine to (sex rfl rfl) (aB (aC ?_));refine aZ rfl (fun c0 => ?_) (fun c0 => ?_)
      ·exact absurd c0 (by decide)
      ·refine cB ?_;refine .inl ⟨rfl, ?_⟩;simp only [vP] at h;refine aC (aA (tm (.bp b5 0 0) (ta (.bp b5 0 0) (ta (.b true) (aB ?_)))));exact bB ⟨rfl, _, [], [.arr (X2 3).v 3 1 (F.2.1.map aM), .map (X2 4).b (C.map fun p : aH × Int => ((fun a : aH => Value.agg ((aT a).map cC).toArray) p.1, (fun v : Int => AV.i v) p.2)) W Y, .box b5 0 [.lit (.int .i64 j.Rounds), .sl 1 (j.Slots.map aM), .lit (X2 3).v, .lit (.map (some (X2 4).b))], .map r7 (e.map fun p : aH × aF => ((fun a : aH => Value.agg ((aT a).map cC).toArray) p.1, (fun v : aF => AV.agg (aL v)) p.2)) E s, .iter Z r7 s M s], _, .two (.tmp 4 (v := .bp b5 0 0) rfl) (.tmp 5 (v := .b true) rfl), .refl _, aFr (.cons (aDl 2 rfl rfl (dvc (.same _) (dvc (.same _) (dvc (nV 0 rfl (cP (f := aM) fun _ => rfl)) (dvc (aZm (kv := (fun a : aH => Value.agg ((aT a).map cC).toArray)) (av := (fun v : Int => AV.i v)) (l := C) (enc := aM) (agg := false) 1 rfl (fun _ _ => rfl) (fun _ => rfl)) dvn))))) (.cons (.same _) .nil)), ((some (bI.mk j F.2.1 C)), true), h, rfl, rfl⟩
     ·have h := aIm h b9;refine to (sex rfl rfl) (aB (aC ?_));refine aZ rfl (fun c1 => ?_) (fun c1 => ?_)
      ·refine aY (bF (aC (aA (to (aRe (kv := (fun a : aH => Value.agg ((aT a).map cC).toArray)) (av := (fun v : aF => AV.agg (aL v))) (l := e) (mi := 4) (mm := 3) (ka := .agg (aT q.1)) (aD rfl) rfl rfl rfl b9 (fun _ _ => .agg (aGj rfl))) ?_))));refine to (sex rfl rfl) (to (sex rfl rfl) ?_);refine bE rfl (cM (zs := [.lit (.int .i64 0), .lit (.int .i64 0)]) (aD rfl) Tryz.zeroValue155 rfl rfl) ?_;rintro _ ⟨P, rfl⟩;refine bE rfl (cM (zs := [.lit (.int .i64 0), .lit (.int .i64 0), .lit (.int .i64 0), .lit (.int .i64 0), .lit (.int .i64 0)]) (aD rfl) Tryz.zeroValue67 rfl rfl) ?_;rintro _ ⟨a8, rfl⟩;refine to (sst 5 rfl rfl Tryz.sizeOf155 (aT q.1)) (to (sst 6 rfl rfl Tryz.sizeOf67 (aL q.2)) (aB (aC ?_)));refine cV mix 6 [6, 16, 86] [(95, .d (.lit (X2 3).v)), (97, .i q.2.Player)] ?_ ?_
       ·refine ⟨[(92, 0, .bp b5 0 0), (93, 1, .bp b5 0 0), (94, 2, .bp b5 0 2), (95, 3, .d (.lit (X2 3).v)), (96, 4, .bp a8 0 3), (97, 5, .i q.2.Player)], ?_, ?_⟩
        · exact dok [([], []), ([0], []), ([1], []), ([2], []), ([], []), ([4], [])] ⟨go (zm (.bp b5 0 0)),
      go fun S hS => nO (aD rfl) (aX hS rfl),
      go (zf rfl pG),
      go (zl 2 rfl rfl rfl cI),
      go (zf rfl oI),
      go (zl 6 rfl rfl rfl aU), trivial⟩
        · exact cK (aI rfl (aI rfl (aN ⟨rfl, rfl, rfl, trivial⟩)))
       ·obtain ⟨o, d5, h⟩ := gO h;refine to (sc Tryz.call89 (uN _ _ d5) (.cons (.d (nV 0 rfl (cP (f := aM) fun _ => rfl))) (.cons (.same _) .nil))) (ta (.i o) (aB (aC ?_)));obtain ⟨a9, u, h⟩ := gO h;refine aW (a9) (fun t => ?_) (fun t => ?_)
        ·have h := jO t h;refine cV mix 15 [6, 86] [(109, .b a9)] ?_ ?_
         ·refine aW (decide (o < 0)) (fun n => ?_) (fun n => ?_)
          ·have u := aK n u;have u := Option.some.inj u;subst u;refine ⟨[(99, 0, .i o), (100, 1, .b (decide (o < 0))), (101, 2, .b (decide (o < 0))), (102, 3, .tup []), (103, 4, .tup []), (104, 5, .tup []), (105, 6, .tup []), (106, 7, .tup []), (107, 8, .tup []), (108, 9, .b true), (109, 10, .b (true)), (110, 11, .tup []), (111, 12, .tup []), (112, 13, .tup []), (113, 14, .tup [])], ?_, ?_⟩
           · exact dok [([], []), ([0], []), ([1], []), ([2], []), ([2, 3], []), ([2], []), ([2, 4, 5], []), ([2], []), ([2, 6, 7], []), ([2, 8], []), ([9], []), ([10], []), ([10], []), ([10], []), ([10, 13], [])] ⟨go (zm (.i o)),
      go (zcm rfl rfl rfl),
      go (zm (.b (decide (o < 0)))),
      gp n,
      gp n,
      gp n,
      gp n,
      gp n,
      gp n,
      go (zpt (.b true) n),
      go (zm (.b (true))),
      gp t,
      gp t,
      gp t,
      gp t, trivial⟩
           · exact cK (aI rfl (aN ⟨rfl, rfl, trivial⟩))
          ·have u := aJ n u;obtain ⟨G, b0, u⟩ := bind_some u;have u := Option.some.inj u;subst u;refine ⟨[(99, 0, .i o), (100, 1, .b (decide (o < 0))), (101, 2, .b (decide (o < 0))), (102, 3, .bp P 0 0), (103, 4, .i q.1.round), (104, 5, .i o), (105, 6, .agg (aT G)), (106, 7, .agg (aT q.1)), (107, 8, .b (!decide (G = q.1))), (108, 9, .b (!decide (G = q.1))), (109, 10, .b (!decide (G = q.1))), (110, 11, .tup []), (111, 12, .tup []), (112, 13, .tup []), (113, 14, .tup [])], ?_, ?_⟩
           · exact dok [([], []), ([0], []), ([1], []), ([2], []), ([2, 3], []), ([2], []), ([2, 4, 5], []), ([2], []), ([2, 6, 7], []), ([2, 8], []), ([9], []), ([10], []), ([10], []), ([10], []), ([10, 13], [])] ⟨go (zm (.i o)),
      go (zcm rfl rfl rfl),
      go (zm (.b (decide (o < 0)))),
      gt n (zf rfl tZ),
      gt n (zl 5 rfl rfl rfl aU),
      gt n (zm (.i o)),
      gt n fun S hS => fB (aD rfl) (.func _ _ Tryz.call116) (ev2 (aX hS rfl) (ev2 (aX hS rfl) evn)) rfl (tT _ _ b0),
      gt n (zla 5 (aT q.1) rfl rfl wC),
      gt n fun S hS => aHy (a := G) (b := q.1) (aD rfl) (aX hS rfl) (aX hS rfl) rfl rfl Tryz.eqGuardType155 aLq,
      go (zpf (.b (!decide (G = q.1))) n),
      go (zm (.b (!decide (G = q.1)))),
      gp t,
      gp t,
      gp t,
      gp t, trivial⟩
           · exact cK (aI rfl (aN ⟨rfl, rfl, trivial⟩))
         ·refine tp t (tp t (to (spt (.b true) t) (aB ?_)));refine aZ rfl (fun c2 => ?_) (fun c2 => ?_)
          ·refine aC (aA (ta (fJ bX (none : Option bI)) (ta (.b false) (aB ?_))));exact bB ⟨rfl, _, [], [.arr (X2 3).v 3 1 (F.2.1.map aM), .map (X2 4).b (C.map fun p : aH × Int => ((fun a : aH => Value.agg ((aT a).map cC).toArray) p.1, (fun v : Int => AV.i v) p.2)) W Y, .box b5 0 [.lit (.int .i64 j.Rounds), .sl 1 (j.Slots.map aM), .lit (X2 3).v, .lit (.map (some (X2 4).b))], .map r7 (e.map fun p : aH × aF => ((fun a : aH => Value.agg ((aT a).map cC).toArray) p.1, (fun v : aF => AV.agg (aL v)) p.2)) E s, .iter Z r7 s (M ++ [a7]) s, .box P 0 (aT q.1), .box a8 0 (aL q.2)], _, .two (.tmp 4 (v := fJ bX (none : Option bI)) rfl) (.tmp 5 (v := .b false) rfl), .refl _, .same _, ((none : Option bI), false), h, rfl, rfl⟩
          ·exact absurd c2 (by decide)
        ·have h := jN t h;refine cV mix 15 [6, 86] [(109, .b a9), (110, .bp b5 0 0), (111, .i o), (112, .bp P 0 0), (113, .i q.1.round)] ?_ ?_
         ·refine aW (decide (o < 0)) (fun n => ?_) (fun n => ?_)
          ·have u := aK n u;have u := Option.some.inj u;subst u;refine ⟨[(99, 0, .i o), (100, 1, .b (decide (o < 0))), (101, 2, .b (decide (o < 0))), (102, 3, .tup []), (103, 4, .tup []), (104, 5, .tup []), (105, 6, .tup []), (106, 7, .tup []), (107, 8, .tup []), (108, 9, .b true), (109, 10, .b (true)), (110, 11, .bp b5 0 0), (111, 12, .i o), (112, 13, .bp P 0 0), (113, 14, .i q.1.round)], ?_, ?_⟩
           · exact dok [([], []), ([0], []), ([1], []), ([2], []), ([2, 3], []), ([2], []), ([2, 4, 5], []), ([2], []), ([2, 6, 7], []), ([2, 8], []), ([9], []), ([10], []), ([10], []), ([10], []), ([10, 13], [])] ⟨go (zm (.i o)),
      go (zcm rfl rfl rfl),
      go (zm (.b (decide (o < 0)))),
      gp n,
      gp n,
      gp n,
      gp n,
      gp n,
      gp n,
      go (zpt (.b true) n),
      go (zm (.b (true))),
      gt t (zm (.bp b5 0 0)),
      gt t (zm (.i o)),
      gt t (zf rfl tZ),
      gt t (zl 5 rfl rfl rfl aU), trivial⟩
           · exact cK (aI rfl (aI rfl (aI rfl (aI rfl (aI rfl (aN ⟨rfl, rfl, trivial⟩))))))
          ·have u := aJ n u;obtain ⟨G, b0, u⟩ := bind_some u;have u := Option.some.inj u;subst u;refine ⟨[(99, 0, .i o), (100, 1, .b (decide (o < 0))), (101, 2, .b (decide (o < 0))), (102, 3, .bp P 0 0), (103, 4, .i q.1.round), (104, 5, .i o), (105, 6, .agg (aT G)), (106, 7, .agg (aT q.1)), (107, 8, .b (!decide (G = q.1))), (108, 9, .b (!decide (G = q.1))), (109, 10, .b (!decide (G = q.1))), (110, 11, .bp b5 0 0), (111, 12, .i o), (112, 13, .bp P 0 0), (113, 14, .i q.1.round)], ?_, ?_⟩
           · exact dok [([], []), ([0], []), ([1], []), ([2], []), ([2, 3], []), ([2], []), ([2, 4, 5], []), ([2], []), ([2, 6, 7], []), ([2, 8], []), ([9], []), ([10], []), ([10], []), ([10], []), ([10, 13], [])] ⟨go (zm (.i o)),
      go (zcm rfl rfl rfl),
      go (zm (.b (decide (o < 0)))),
      gt n (zf rfl tZ),
      gt n (zl 5 rfl rfl rfl aU),
      gt n (zm (.i o)),
      gt n fun S hS => fB (aD rfl) (.func _ _ Tryz.call116) (ev2 (aX hS rfl) (ev2 (aX hS rfl) evn)) rfl (tT _ _ b0),
      gt n (zla 5 (aT q.1) rfl rfl wC),
      gt n fun S hS => aHy (a := G) (b := q.1) (aD rfl) (aX hS rfl) (aX hS rfl) rfl rfl Tryz.eqGuardType155 aLq,
      go (zpf (.b (!decide (G = q.1))) n),
      go (zm (.b (!decide (G = q.1)))),
      gt t (zm (.bp b5 0 0)),
      gt t (zm (.i o)),
      gt t (zf rfl tZ),
      gt t (zl 5 rfl rfl rfl aU), trivial⟩
           · exact cK (aI rfl (aI rfl (aI rfl (aI rfl (aI rfl (aN ⟨rfl, rfl, trivial⟩))))))
         ·obtain ⟨b2, d6, h⟩ := gO h;refine sC (aQ [2, 0, 1, 3, 4, 5, 6] rfl rfl (le_refl _)) ?_;refine aRg rfl rfl (aD rfl) rfl t (fC (passed := [.box b5 0 [.lit (.int .i64 j.Rounds), .sl 1 (j.Slots.map aM), .lit (X2 3).v, .lit (.map (some (X2 4).b))], .arr (X2 3).v 3 1 (F.2.1.map aM), .map (X2 4).b (C.map fun p : aH × Int => ((fun a : aH => Value.agg ((aT a).map cC).toArray) p.1, (fun v : Int => AV.i v) p.2)) W Y]) (aD rfl) rfl (.func _ _ Tryz.call120) rfl rfl (xK j F.2.1 C o q.1.round d6)) ?_;rintro _ ⟨_, _, ⟨b3, b4, rfl, rfl⟩, rfl⟩;refine tk t (sn rfl) (to (spf (.b (!b2.1)) t) (aB ?_));refine aZ rfl (fun b6 => ?_) (fun b6 => ?_)
          ·have h := jO b6 h;refine aC (aA (ta (fJ bX (none : Option bI)) (ta (.b false) (aB ?_))));exact bB ⟨rfl, _, [], [.box b5 0 [.lit (.int .i64 j.Rounds), .sl 1 (j.Slots.map aM), .lit (X2 3).v, .lit (.map (some (X2 4).b))], .arr (X2 3).v 3 1 (F.2.1.map aM), .map (X2 4).b (b2.2.map fun p : aH × Int => ((fun a : aH => Value.agg ((aT a).map cC).toArray) p.1, (fun v : Int => AV.i v) p.2)) b3 b4, .map r7 (e.map fun p : aH × aF => ((fun a : aH => Value.agg ((aT a).map cC).toArray) p.1, (fun v : aF => AV.agg (aL v)) p.2)) E s, .iter Z r7 s (M ++ [a7]) s, .box P 0 (aT q.1), .box a8 0 (aL q.2)], _, .two (.tmp 4 (v := fJ bX (none : Option bI)) rfl) (.tmp 5 (v := .b false) rfl), .refl _, .same _, ((none : Option bI), false), h, rfl, rfl⟩
          ·have h := jN b6 h;refine cR ?_;exact ⟨(b2.2, b3, b4, (M ++ [a7])), h, aQ [1, 2, 0, 3, 4] rfl rfl (aN ⟨rfl, rfl, trivial⟩)⟩
      ·exact absurd c1 (by decide)

end Go.Am
