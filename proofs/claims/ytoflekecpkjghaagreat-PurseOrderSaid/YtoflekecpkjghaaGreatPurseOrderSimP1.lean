/- The functions compute what the shallow ones say: printed by program. -/
import Derived.Test.YtoflekecpkjghaaGreatPgSh
import Derived.Test.YtoflekecpkjghaaGreatAmFam2
import Derived.Test.YtoflekecpkjghaaGreatAmRange
import Derived.Test.YtoflekecpkjghaaGreatAmSort
import Derived.Test.YtoflekecpkjghaaGreatPgShelf
import Derived.Test.YtoflekecpkjghaaGreatAmSub
import Derived.Test.YtoflekecpkjghaaGreatBkDet
import Derived.Test.YtoflekecpkjghaaGreatChecked
import Derived.Test.YtoflekecpkjghaaGreatAmShort
import Derived.KernelRfl
namespace Go.Am
open Go.Proofs
set_option maxRecDepth 100000
set_option maxHeartbeats 40000000

theorem mix : Tryz.prog.follows .mixedOrders = true := Checked.mixed Tryz.checked

theorem dI : oB Tryz.prog 31 9 := ⟨Tryz.isAgg31, Tryz.sizeOf31⟩
theorem aQj : cV Tryz.prog 37 0 0 := cK Tryz.runUnderlying37 rfl rfl Tryz.sizeOf3
theorem aU : mL Tryz.prog 3 := ⟨Tryz.isAgg3, Tryz.sizeOf3⟩
theorem aYk : cV Tryz.prog 37 1 1 := cK Tryz.runUnderlying37 rfl rfl Tryz.sizeOf3
theorem aCf : cV Tryz.prog 42 1 1 := cK Tryz.runUnderlying42 rfl rfl Tryz.sizeOf3
theorem lS : cV Tryz.prog 46 2 2 := cK Tryz.runUnderlying46 rfl rfl Tryz.sizeOf3
theorem rD : cV Tryz.prog 46 1 1 := cK Tryz.runUnderlying46 rfl rfl Tryz.sizeOf3
theorem jJ : cV Tryz.prog 31 0 0 := cK Tryz.runUnderlying31 rfl rfl Tryz.sizeOf24
theorem nJ : oB Tryz.prog 24 2 := ⟨Tryz.isAgg24, Tryz.sizeOf24⟩
theorem gC : cV Tryz.prog 31 1 2 := cK Tryz.runUnderlying31 rfl rfl Tryz.sizeOf25
theorem lG : mL Tryz.prog 25 := ⟨Tryz.isAgg25, Tryz.sizeOf25⟩
theorem xJ : cV Tryz.prog 46 0 0 := cK Tryz.runUnderlying46 rfl rfl Tryz.sizeOf3
theorem wN : oB Tryz.prog 46 3 := ⟨Tryz.isAgg46, Tryz.sizeOf46⟩
theorem iC : cV Tryz.prog 31 2 3 := cK Tryz.runUnderlying31 rfl rfl Tryz.sizeOf22
theorem cQ : mL Tryz.prog 22 := ⟨Tryz.isAgg22, Tryz.sizeOf22⟩
theorem bL : SliceTy Tryz.prog 22 3 1 8 (.int .i64 0) := ⟨Tryz.underlying22, ⟨Tryz.t3, by kernel_rfl, rfl, rfl, rfl⟩, rfl, by decide⟩
theorem dL : cV Tryz.prog 24 1 1 := cK Tryz.runUnderlying24 rfl rfl Tryz.sizeOf22
theorem eL : SliceTy Tryz.prog 25 67 5 40 (.agg #[.int .i64 0, .int .i64 0, .int .i64 0, .int .i64 0, .int .i64 0]) := ⟨Tryz.underlying25, ⟨Tryz.t67, by kernel_rfl, rfl, rfl, rfl⟩, rfl, by decide⟩
theorem fL : cV Tryz.prog 31 4 5 := cK Tryz.runUnderlying31 rfl rfl Tryz.sizeOf26
theorem kJ : mL Tryz.prog 26 := ⟨Tryz.isAgg26, Tryz.sizeOf26⟩
theorem jQ : SliceTy Tryz.prog 26 46 3 24 (.agg #[.int .i64 0, .int .i64 0, .int .i64 0]) := ⟨Tryz.underlying26, ⟨Tryz.t46, by kernel_rfl, rfl, rfl, rfl⟩, rfl, by decide⟩
theorem jK : cV Tryz.prog 31 5 6 := cK Tryz.runUnderlying31 rfl rfl Tryz.sizeOf27
theorem rG : mL Tryz.prog 27 := ⟨Tryz.isAgg27, Tryz.sizeOf27⟩
theorem oH : SliceTy Tryz.prog 27 78 2 16 (.agg #[.int .i64 0, .int .i64 0]) := ⟨Tryz.underlying27, ⟨Tryz.t78, by kernel_rfl, rfl, rfl, rfl⟩, rfl, by decide⟩
theorem kT : cV Tryz.prog 31 6 7 := cK Tryz.runUnderlying31 rfl rfl Tryz.sizeOf28
theorem uF : mL Tryz.prog 28 := ⟨Tryz.isAgg28, Tryz.sizeOf28⟩
theorem rM : SliceTy Tryz.prog 28 80 3 24 (.agg #[.int .i64 0, .int .i64 0, .int .i64 0]) := ⟨Tryz.underlying28, ⟨Tryz.t80, by kernel_rfl, rfl, rfl, rfl⟩, rfl, by decide⟩
theorem eZ : cV Tryz.prog 31 7 8 := cK Tryz.runUnderlying31 rfl rfl Tryz.sizeOf29
theorem jP : mL Tryz.prog 29 := ⟨Tryz.isAgg29, Tryz.sizeOf29⟩
theorem cO : SliceTy Tryz.prog 29 76 4 32 (.agg #[.int .i64 0, .int .i64 0, .int .i64 0, .int .i64 0]) := ⟨Tryz.underlying29, ⟨Tryz.t76, by kernel_rfl, rfl, rfl, rfl⟩, rfl, by decide⟩
theorem jI : cV Tryz.prog 24 0 0 := cK Tryz.runUnderlying24 rfl rfl Tryz.sizeOf3
theorem aLf : cV Tryz.prog 31 3 4 := cK Tryz.runUnderlying31 rfl rfl Tryz.sizeOf3
theorem mA : oB Tryz.prog 67 5 := ⟨Tryz.isAgg67, Tryz.sizeOf67⟩
theorem pH : cV Tryz.prog 67 3 3 := cK Tryz.runUnderlying67 rfl rfl Tryz.sizeOf3
theorem pG : cV Tryz.prog 67 0 0 := cK Tryz.runUnderlying67 rfl rfl Tryz.sizeOf3
theorem rE : cV Tryz.prog 67 1 1 := cK Tryz.runUnderlying67 rfl rfl Tryz.sizeOf3
theorem lT : cV Tryz.prog 67 2 2 := cK Tryz.runUnderlying67 rfl rfl Tryz.sizeOf3
theorem zI : cV Tryz.prog 67 4 4 := cK Tryz.runUnderlying67 rfl rfl Tryz.sizeOf3
theorem aFh : nR Tryz.prog 126 (.agg #[.slice none 0 0, .slice none 0 0]) [(0, 1), (1, 1)] := ⟨Tryz.zeroValue126, _, Tryz.runUnderlying126, fun w => by simp [Tryz.sizeOf22, Tryz.sizeOf32]⟩
theorem xW : cV Tryz.prog 126 1 1 := cK Tryz.runUnderlying126 rfl rfl Tryz.sizeOf32
theorem aIz : mL Tryz.prog 32 := ⟨Tryz.isAgg32, Tryz.sizeOf32⟩
theorem aKb : SliceTy Tryz.prog 32 22 1 24 (.slice none 0 0) := ⟨Tryz.underlying32, ⟨Tryz.t22, by kernel_rfl, rfl, rfl, rfl⟩, rfl, by decide⟩
theorem aBt : oB Tryz.prog 126 2 := ⟨Tryz.isAgg126, Tryz.sizeOf126⟩
theorem aQg : aKv Tryz.prog 67 aJ := by
  rintro ⟨a0, a1, a2, a3, a4⟩ ⟨b0, b1, b2, b3, b4⟩ w
  simp [aJ, cB, go_sem, Op.eqFields, Program.fieldsOf] <;> (repeat' split) <;> simp_all
theorem zK : cV Tryz.prog 78 0 0 := cK Tryz.runUnderlying78 rfl rfl Tryz.sizeOf3
theorem aLg : cV Tryz.prog 78 1 1 := cK Tryz.runUnderlying78 rfl rfl Tryz.sizeOf3
theorem aHn : oB Tryz.prog 80 3 := ⟨Tryz.isAgg80, Tryz.sizeOf80⟩
theorem zL : cV Tryz.prog 80 0 0 := cK Tryz.runUnderlying80 rfl rfl Tryz.sizeOf3
theorem aFv : cV Tryz.prog 80 1 1 := cK Tryz.runUnderlying80 rfl rfl Tryz.sizeOf3
theorem aLh : cV Tryz.prog 80 2 2 := cK Tryz.runUnderlying80 rfl rfl Tryz.sizeOf3
theorem aJr : nR Tryz.prog 46 (.agg #[.int .i64 0, .int .i64 0, .int .i64 0]) [(0, 1), (1, 1), (2, 1)] := ⟨Tryz.zeroValue46, _, Tryz.runUnderlying46, fun w => by simp [Tryz.sizeOf3]⟩
theorem gI : oB Tryz.prog 76 4 := ⟨Tryz.isAgg76, Tryz.sizeOf76⟩
theorem nW : cV Tryz.prog 76 0 0 := cK Tryz.runUnderlying76 rfl rfl Tryz.sizeOf3
theorem aFu : cV Tryz.prog 76 2 2 := cK Tryz.runUnderlying76 rfl rfl Tryz.sizeOf3
theorem vK : cV Tryz.prog 76 1 1 := cK Tryz.runUnderlying76 rfl rfl Tryz.sizeOf3
theorem zJ : cV Tryz.prog 76 3 3 := cK Tryz.runUnderlying76 rfl rfl Tryz.sizeOf3
theorem aMf : aKv Tryz.prog 76 aD := by
  rintro ⟨a0, a1, a2, a3⟩ ⟨b0, b1, b2, b3⟩ w
  simp [aD, cB, go_sem, Op.eqFields, Program.fieldsOf] <;> (repeat' split) <;> simp_all
theorem qU : oB Tryz.prog 42 9 := ⟨Tryz.isAgg42, Tryz.sizeOf42⟩
theorem aJq : nR Tryz.prog 42 (.agg #[.int .i64 0, .int .i64 0, .int .i64 0, .int .i64 0, .int .i64 0, .int .i64 0, .int .i64 0, .int .i64 0, .int .i64 0]) [(0, 1), (1, 1), (2, 1), (3, 1), (4, 1), (5, 1), (6, 1), (7, 1), (8, 1)] := ⟨Tryz.zeroValue42, _, Tryz.runUnderlying42, fun w => by simp [Tryz.sizeOf3]⟩
theorem aMe : aKv Tryz.prog 42 aZ := by
  rintro ⟨a0, a1, a2, a3, a4, a5, a6, a7, a8⟩ ⟨b0, b1, b2, b3, b4, b5, b6, b7, b8⟩ w
  simp [aZ, cB, go_sem, Op.eqFields, Program.fieldsOf] <;> (repeat' split) <;> simp_all
theorem aCh : cV Tryz.prog 42 5 5 := cK Tryz.runUnderlying42 rfl rfl Tryz.sizeOf3
theorem bCk : nR Tryz.prog 24 (.agg #[.int .i64 0, .slice none 0 0]) [(0, 1), (1, 1)] := ⟨Tryz.zeroValue24, _, Tryz.runUnderlying24, fun w => by simp [Tryz.sizeOf22, Tryz.sizeOf3]⟩
theorem aXr : nR Tryz.prog 67 (.agg #[.int .i64 0, .int .i64 0, .int .i64 0, .int .i64 0, .int .i64 0]) [(0, 1), (1, 1), (2, 1), (3, 1), (4, 1)] := ⟨Tryz.zeroValue67, _, Tryz.runUnderlying67, fun w => by simp [Tryz.sizeOf3]⟩
theorem bCl : nR Tryz.prog 78 (.agg #[.int .i64 0, .int .i64 0]) [(0, 1), (1, 1)] := ⟨Tryz.zeroValue78, _, Tryz.runUnderlying78, fun w => by simp [Tryz.sizeOf3]⟩
theorem aXs : nR Tryz.prog 80 (.agg #[.int .i64 0, .int .i64 0, .int .i64 0]) [(0, 1), (1, 1), (2, 1)] := ⟨Tryz.zeroValue80, _, Tryz.runUnderlying80, fun w => by simp [Tryz.sizeOf3]⟩
theorem aRq : nR Tryz.prog 76 (.agg #[.int .i64 0, .int .i64 0, .int .i64 0, .int .i64 0]) [(0, 1), (1, 1), (2, 1), (3, 1)] := ⟨Tryz.zeroValue76, _, Tryz.runUnderlying76, fun w => by simp [Tryz.sizeOf3]⟩
theorem aRp : nR Tryz.prog 31 (.agg #[.int .i64 0, .slice none 0 0, .slice none 0 0, .slice none 0 0, .int .i64 0, .slice none 0 0, .slice none 0 0, .slice none 0 0, .slice none 0 0]) [(0, 2), (2, 1), (3, 1), (4, 1), (5, 1), (6, 1), (7, 1), (8, 1)] := ⟨Tryz.zeroValue31, _, Tryz.runUnderlying31, fun w => by simp [Tryz.sizeOf22, Tryz.sizeOf24, Tryz.sizeOf25, Tryz.sizeOf26, Tryz.sizeOf27, Tryz.sizeOf28, Tryz.sizeOf29, Tryz.sizeOf3]⟩
theorem aUp : vY Tryz.prog 3 (fun n : Int => Value.int .i64 n) := aWh Tryz.underlying3
theorem aNy : nR Tryz.prog 155 (.agg #[.int .i64 0, .int .i64 0]) [(0, 1), (1, 1)] := ⟨Tryz.zeroValue155, _, Tryz.runUnderlying155, fun w => by simp [Tryz.sizeOf3]⟩
theorem xT : oB Tryz.prog 155 2 := ⟨Tryz.isAgg155, Tryz.sizeOf155⟩
theorem vJ : cV Tryz.prog 155 0 0 := cK Tryz.runUnderlying155 rfl rfl Tryz.sizeOf3
theorem aWb : cV Tryz.prog 155 1 1 := cK Tryz.runUnderlying155 rfl rfl Tryz.sizeOf3
theorem bBf : nR Tryz.prog 153 (.agg #[.int .i64 0, .slice none 0 0, .slice none 0 0, .map none]) [(0, 2), (2, 1), (3, 1)] := ⟨Tryz.zeroValue153, _, Tryz.runUnderlying153, fun w => by simp [Tryz.sizeOf151, Tryz.sizeOf22, Tryz.sizeOf24]⟩
theorem bBn (b : Bool) (a : aF) (w : World) : (Instr.checkKey b 10000 67 (.agg ((aJ a).map cB).toArray)).run Tryz.prog w = .ok () w := by
  obtain ⟨a1, a2, a3, a4, a5⟩ := a;rw [show (10000 : Nat) = 9990 + 10 from rfl]
  generalize (9990 : Nat) = m
  simp [Instr.checkKey, aJ, cB, go_sem, Std.Legacy.Range.forIn_eq_forIn_range', Std.Legacy.Range.size]
theorem aQo : vY Tryz.prog 67 (fun a : aF => Value.agg ((aJ a).map cB).toArray) :=
  aIk Tryz.underlying67 aQg bBn (fun a w => aQm _ rfl _ _) (by
    rintro ⟨a1, a2, a3, a4, a5⟩ ⟨b1, b2, b3, b4, b5⟩ h
    simp [aJ] at h ⊢
    simp_all) (fun _ => rfl)
theorem aNr : aKv Tryz.prog 155 aS := by
  rintro ⟨a0, a1⟩ ⟨b0, b1⟩ w
  simp [aS, cB, go_sem, Op.eqFields, Program.fieldsOf] <;> (repeat' split) <;> simp_all
theorem bAi (b : Bool) (a : aH) (w : World) : (Instr.checkKey b 10000 155 (.agg ((aS a).map cB).toArray)).run Tryz.prog w = .ok () w := by
  obtain ⟨a1, a2⟩ := a;rw [show (10000 : Nat) = 9990 + 10 from rfl]
  generalize (9990 : Nat) = m
  simp [Instr.checkKey, aS, cB, go_sem, Std.Legacy.Range.forIn_eq_forIn_range', Std.Legacy.Range.size]
theorem aBu : vY Tryz.prog 155 (fun a : aH => Value.agg ((aS a).map cB).toArray) :=
  aIk Tryz.underlying155 aNr bAi (fun a w => aQm _ rfl _ _) (by
    rintro ⟨a1, a2⟩ ⟨b1, b2⟩ h
    simp [aS] at h ⊢
    simp_all) (fun _ => rfl)
theorem qI : cV Tryz.prog 153 1 2 := cK Tryz.runUnderlying153 rfl rfl Tryz.sizeOf22
theorem aAk : cV Tryz.prog 153 0 0 := cK Tryz.runUnderlying153 rfl rfl Tryz.sizeOf24
theorem aDm : cV Tryz.prog 153 2 3 := cK Tryz.runUnderlying153 rfl rfl Tryz.sizeOf151
theorem aJx : mL Tryz.prog 151 := ⟨Tryz.isAgg151, Tryz.sizeOf151⟩
theorem aLu : oB Tryz.prog 78 2 := ⟨Tryz.isAgg78, Tryz.sizeOf78⟩
theorem aAu : nR Tryz.prog 37 (.agg #[.int .i64 0, .int .i64 0]) [(0, 1), (1, 1)] := ⟨Tryz.zeroValue37, _, Tryz.runUnderlying37, fun w => by simp [Tryz.sizeOf3]⟩
theorem wM : oB Tryz.prog 37 2 := ⟨Tryz.isAgg37, Tryz.sizeOf37⟩
theorem aCg : cV Tryz.prog 42 2 2 := cK Tryz.runUnderlying42 rfl rfl Tryz.sizeOf3
theorem zG : cV Tryz.prog 42 3 3 := cK Tryz.runUnderlying42 rfl rfl Tryz.sizeOf3
theorem zH : cV Tryz.prog 42 4 4 := cK Tryz.runUnderlying42 rfl rfl Tryz.sizeOf3
theorem aCi : cV Tryz.prog 42 6 6 := cK Tryz.runUnderlying42 rfl rfl Tryz.sizeOf3
theorem aCj : cV Tryz.prog 42 7 7 := cK Tryz.runUnderlying42 rfl rfl Tryz.sizeOf3
theorem aFt : cV Tryz.prog 42 8 8 := cK Tryz.runUnderlying42 rfl rfl Tryz.sizeOf3
theorem tX : SliceTy Tryz.prog 59 42 9 72 (.agg #[.int .i64 0, .int .i64 0, .int .i64 0, .int .i64 0, .int .i64 0, .int .i64 0, .int .i64 0, .int .i64 0, .int .i64 0]) := ⟨Tryz.underlying59, ⟨Tryz.t42, by kernel_rfl, rfl, rfl, rfl⟩, rfl, by decide⟩
theorem aJn : SliceTy Tryz.prog 132 25 1 24 (.slice none 0 0) := ⟨Tryz.underlying132, ⟨Tryz.t25, by kernel_rfl, rfl, rfl, rfl⟩, rfl, by decide⟩
theorem aJo : SliceTy Tryz.prog 134 29 1 24 (.slice none 0 0) := ⟨Tryz.underlying134, ⟨Tryz.t29, by kernel_rfl, rfl, rfl, rfl⟩, rfl, by decide⟩

theorem aLd (a : aM) {r : Bool} (h : nT a = some r) : Fn Tryz.prog 21 [.agg (aL a)] (.b r) := by
 unfold nT at h;refine Fn.of_tr Tryz.func21 rfl (rs := [.tmp 2]) Tryz.results21 Tryz.ntmps21 (Nat.le_of_ble_eq_true rfl) ?_;refine aC (aA ?_);refine bB rfl (eP (v := .agg (aL a)) (aE rfl) rfl rfl rfl) ?_;rintro _ ⟨b1, rfl⟩;refine ta (.b false) (aB (aC (aA (to (sf rfl jJ) (tfl 0 rfl rfl dL rfl cQ (to (sle rfl bL.of) (to (scm rfl rfl rfl) (tm (.b (decide (8 < (a.Tree.Slots.length : Int)))) ?_))))))));obtain ⟨b2, h3, h⟩ := bns h;refine bD 5 [1] 13 b2 ?_ ?_
 ·refine bch h3 (fun c h3 => ?_) (fun c h3 => ?_)
  ·refine tp c (tp c (tp c (tp c (to (spt (.b true) c) ?_))));obtain rfl := sIn h3;refine aB (aO rfl ⟨rfl, trivial⟩ rfl)
  ·refine tkl 0 c rfl rfl gC rfl lG (tk c (sle rfl eL.of) (tk c (scm rfl rfl rfl) (to (spf (.b (decide (20 < (a.Slips.length : Int)))) c) ?_)));obtain rfl := sIn h3;refine aB (aO rfl ⟨rfl, trivial⟩ rfl)
 ·refine tm (.b b2) ?_;obtain ⟨b4, h5, h⟩ := bns h;refine bD 5 [1] 19 b4 ?_ ?_
  ·refine bch h5 (fun d h5 => ?_) (fun d h5 => ?_)
   ·refine tp d (tp d (tp d (tp d (to (spt (.b true) d) ?_))));obtain rfl := sIn h5;refine aB (aO rfl ⟨rfl, trivial⟩ rfl)
   ·refine tkl 0 d rfl rfl iC rfl cQ (tk d (sle rfl bL.of) (tk d (scm rfl rfl rfl) (to (spf (.b (decide (20 < (a.Prizes.length : Int)))) d) ?_)));obtain rfl := sIn h5;refine aB (aO rfl ⟨rfl, trivial⟩ rfl)
  ·refine tm (.b b4) ?_;obtain ⟨b6, h7, h⟩ := bns h;refine bD 5 [1] 25 b6 ?_ ?_
   ·refine bch h7 (fun e h7 => ?_) (fun e h7 => ?_)
    ·refine tp e (tp e (tp e (tp e (to (spt (.b true) e) ?_))));obtain rfl := sIn h7;refine aB (aO rfl ⟨rfl, trivial⟩ rfl)
    ·refine tkl 0 e rfl rfl fL rfl kJ (tk e (sle rfl jQ.of) (tk e (scm rfl rfl rfl) (to (spf (.b (decide (40 < (a.Teams.length : Int)))) e) ?_)));obtain rfl := sIn h7;refine aB (aO rfl ⟨rfl, trivial⟩ rfl)
   ·refine tm (.b b6) ?_;obtain ⟨b8, h9, h⟩ := bns h;refine bD 5 [1] 31 b8 ?_ ?_
    ·refine bch h9 (fun f h9 => ?_) (fun f h9 => ?_)
     ·refine tp f (tp f (tp f (tp f (to (spt (.b true) f) ?_))));obtain rfl := sIn h9;refine aB (aO rfl ⟨rfl, trivial⟩ rfl)
     ·refine tkl 0 f rfl rfl jK rfl rG (tk f (sle rfl oH.of) (tk f (scm rfl rfl rfl) (to (spf (.b (decide (40 < (a.Levies.length : Int)))) f) ?_)));obtain rfl := sIn h9;refine aB (aO rfl ⟨rfl, trivial⟩ rfl)
    ·refine tm (.b b8) ?_;obtain ⟨m, j, h⟩ := bns h;refine bD 5 [1] 37 m ?_ ?_
     ·refine bch j (fun g j => ?_) (fun g j => ?_)
      ·refine tp g (tp g (tp g (tp g (to (spt (.b true) g) ?_))));obtain rfl := sIn j;refine aB (aO rfl ⟨rfl, trivial⟩ rfl)
      ·refine tkl 0 g rfl rfl kT rfl uF (tk g (sle rfl rM.of) (tk g (scm rfl rfl rfl) (to (spf (.b (decide (40 < (a.Rates.length : Int)))) g) ?_)));obtain rfl := sIn j;refine aB (aO rfl ⟨rfl, trivial⟩ rfl)
     ·refine tm (.b m) ?_;obtain ⟨n, k, h⟩ := bns h;refine bD 5 [] 43 n ?_ ?_
      ·refine bch k (fun i k => ?_) (fun i k => ?_)
       ·refine tp i (tp i (tp i (tp i (to (spt (.b true) i) ?_))));obtain rfl := sIn k;refine aB (aO rfl trivial rfl)
       ·refine tkl 0 i rfl rfl eZ rfl jP (tk i (sle rfl cO.of) (tk i (scm rfl rfl rfl) (to (spf (.b (decide (60 < (a.Items.length : Int)))) i) ?_)));obtain rfl := sIn k;refine aB (aO rfl trivial rfl)
      ·refine ta (.b n) (aB ?_);obtain rfl := sIn h;refine bO (bK (bN (l := [2]) ⟨rfl, trivial⟩)) ?_;exact aY ⟨rfl, _, .one _, rfl, rfl⟩

theorem iR (d : Int) (c : Int) (a : Int) {r : Bool} (h : fA d c a = some r) : Fn Tryz.prog 109 [.i d, .i c, .i a] (.b r) := by
 unfold fA at h;refine Fn.of_tr Tryz.func109 rfl (rs := [.tmp 6]) Tryz.results109 Tryz.ntmps109 (Nat.le_of_ble_eq_true rfl) ?_;refine aC (aA (ta (.b false) (aB (aC (aA (tm (.i d) (tm (.i c) (to (scm rfl rfl rfl) (tm (.b (decide (c ≤ d))) ?_)))))))));obtain ⟨b1, h2, h⟩ := bns h;refine bD 4 [] 14 b1 ?_ ?_
 ·refine bch h2 (fun c3 h2 => ?_) (fun c3 h2 => ?_)
  ·refine tk c3 (sm (.i d)) (tk c3 (sm (.i a)) (tk c3 (scm rfl rfl rfl) (to (spt (.b (decide (d ≤ a))) c3) ?_)));obtain rfl := sIn h2;refine aB (aO rfl trivial rfl)
  ·refine tp c3 (tp c3 (tp c3 (to (spf (.b false) c3) ?_)));obtain rfl := sIn h2;refine aB (aO rfl trivial rfl)
 ·refine ta (.b b1) (aB ?_);obtain rfl := sIn h;exact aY ⟨rfl, _, .one _, rfl, rfl⟩

theorem aHj (j : aQ) {r : Bool} (h : mZ j = some r) : Fn Tryz.prog 83 [.agg (bI j)] (.b r) := by
 unfold mZ at h;refine Fn.of_tr Tryz.func83 rfl (rs := [.tmp 2]) Tryz.results83 Tryz.ntmps83 (Nat.le_of_ble_eq_true rfl) ?_;refine aC (aA ?_);refine bB rfl (eP (v := .agg (bI j)) (aE rfl) rfl rfl rfl) ?_;rintro _ ⟨b1, rfl⟩;refine ta (.b false) (aB (aC (aC (aA (tfl 0 rfl rfl jI rfl aU ?_)))));obtain ⟨r2, h3, h⟩ := bns h;refine to (scr Tryz.call109 (iR _ _ _ h3)) (to (sn rfl) (tm (.b (!r2)) ?_));obtain ⟨b4, h5, h⟩ := bns h;refine bD 9 [1] 18 b4 ?_ ?_
 ·refine bch h5 (fun e h5 => ?_) (fun e h5 => ?_)
  ·refine tp e (tp e (tp e (tp e (tp e (tp e (tp e (tp e (to (spt (.b true) e) ?_))))))));obtain rfl := sIn h5;refine aB (aO rfl ⟨rfl, trivial⟩ rfl)
  ·refine tkl 0 e rfl rfl dL rfl cQ (tk e (sle rfl bL.of) (tkl 0 e rfl rfl jI rfl aU (tk e (rV (aE rfl) rfl Tryz.runUnderlying3 Tryz.runUnderlying113) ?_)));obtain ⟨T, C, h5⟩ := bns h5;refine tk e (aPn (aE rfl) rfl rfl (aDn C)) ?_;refine tk e (scm rfl rfl rfl) (to (spf (.b (!decide ((j.Slots.length : Int) = (w64 (1 * 2 ^ (min (uw j.Rounds).toNat 64)))))) e) ?_);obtain rfl := sIn h5;refine aB (aO rfl ⟨rfl, trivial⟩ rfl)
 ·refine aB ?_;refine tih h (fun c6 h => ?_) (fun c6 h => ?_)
  ·refine aC (aA (ta (.b false) (aB ?_)));obtain rfl := sIn h;refine bO (bK (bN (l := [2]) ⟨rfl, trivial⟩)) ?_;exact aY ⟨rfl, _, .one _, rfl, rfl⟩
  ·refine aV (aC (aC (aA (ta (.i 0) (aB (bA ?_))))));refine bR (S := Int) [1] (fun s7 => [(3, .i s7)]) (fun s7 => [.box b1 0 (bI j)]) (fun k s7 => iF j k s7) (fun _ => rfl) (0) h (aP [0] rfl rfl (aI rfl (aN ⟨rfl, trivial⟩))) ?_;rintro k8 a h;simp only [iF] at h;refine aC (aC (aA (tm (.i a) (tfl 0 rfl rfl dL rfl cQ (to (sle rfl bL.of) (to (scm rfl rfl rfl) (aB ?_)))))));refine tih h (fun c9 h => ?_) (fun c9 h => ?_)
   ·refine aV (aC (bA (aC (aC (aA (tfl 0 rfl rfl dL rfl cQ (tm (.i a) ?_)))))));obtain ⟨U, E, h⟩ := bns h;refine to (six rfl rfl bL.of (aX aK E)) (to (slc rfl aU) ?_);obtain ⟨F, G, h⟩ := bns h;refine to (scr Tryz.call109 (iR _ _ _ G)) (to (sn rfl) (tm (.b (!F)) ?_));obtain ⟨H, q, h⟩ := bns h;refine bD 21 [1, 3] 54 H ?_ ?_
    ·refine bch q (fun c q => ?_) (fun c q => ?_)
     ·refine tp c (tp c (tp c (tp c (tq (tq (tq (tq (tq (tq (tp c (tp c (tq (tq ?_)))))))))))));refine tq (tq (tq (tq (tq (tp c (to (spt (.b true) c) ?_))))));obtain rfl := sIn q;refine aB (aO rfl ⟨rfl, rfl, trivial⟩ rfl)
     ·refine tk c (sm (.i a)) (tk c (aJz (aE rfl) rfl rfl (by decide)) ?_);refine tk c (scm rfl rfl rfl) (tk c (sm (.b (decide ((a.tmod 2) = 1)))) ?_);obtain ⟨y, s, q⟩ := bns q;refine bD 7 [1, 3, 33, 34, 35, 36, 37] 44 y ?_ ?_
      ·refine bch s (fun n s => ?_) (fun n s => ?_)
       ·refine tkl 0 n rfl rfl dL rfl cQ (tk n (sm (.i a)) ?_);obtain ⟨I, J, s⟩ := bns s;refine tk n (six rfl rfl bL.of (aX aK J)) (tk n (slc rfl aU) (tk n (scm rfl rfl rfl) (tk c (spt (.b (decide (I = (-1)))) n) ?_)));obtain rfl := sIn s;refine aB (aO rfl ⟨rfl, rfl, rfl, rfl, rfl, rfl, rfl, trivial⟩ rfl)
       ·refine tp n (tp n (tp n (tp n (tp n (tp n (tk c (spf (.b false) n) ?_))))));obtain rfl := sIn s;refine aB (aO rfl ⟨rfl, rfl, rfl, rfl, rfl, rfl, rfl, trivial⟩ rfl)
      ·refine tk c (sm (.b y)) ?_;obtain ⟨z, t, q⟩ := bns q;refine bD 8 [1, 3, 33, 34, 35, 36, 37, 44, 45] 53 z ?_ ?_
       ·refine bch t (fun g t => ?_) (fun g t => ?_)
        ·refine tkl 0 g rfl rfl dL rfl cQ (tk g (sm (.i a)) (tk g (sar rfl rfl rfl) ?_));obtain ⟨K, L, t⟩ := bns t;refine tk g (six rfl rfl bL.of (aX aK L)) (tk g (slc rfl aU) (tk g (scm rfl rfl rfl) (tk c (spt (.b (decide (K = (-1)))) g) ?_)));obtain rfl := sIn t;refine aB (aO rfl ⟨rfl, rfl, rfl, rfl, rfl, rfl, rfl, rfl, rfl, trivial⟩ rfl)
        ·refine tp g (tp g (tp g (tp g (tp g (tp g (tp g (tk c (spf (.b false) g) ?_)))))));obtain rfl := sIn t;refine aB (aO rfl ⟨rfl, rfl, rfl, rfl, rfl, rfl, rfl, rfl, rfl, trivial⟩ rfl)
       ·refine to (spf (.b z) c) ?_;obtain rfl := sIn q;refine aB (aO rfl ⟨rfl, rfl, trivial⟩ rfl)
    ·refine aB ?_;refine tih h (fun M h => ?_) (fun M h => ?_)
     ·refine aC (aA (ta (.b false) (aB ?_)));obtain rfl := sIn h;refine bO (bK (bN (l := [2]) ⟨rfl, trivial⟩)) ?_;exact aY ⟨rfl, _, .one _, rfl, rfl⟩
     ·refine aV (aC (aA (ta (.i 0) (aB ?_))));refine wJ ?_;refine bR (S := Int) [1, 3] (fun x => [(4, .i x)]) (fun x => [.box b1 0 (bI j)]) (fun k x => iG (iF j k8) a j k x) (fun _ => rfl) (0) h (aP [0] rfl rfl (aI rfl (aN ⟨rfl, rfl, trivial⟩))) ?_;rintro V f h;simp only [iG] at h;refine aC (aC (aA (tm (.i f) (tm (.i a) (to (scm rfl rfl rfl) (aB ?_))))));refine tih h (fun N h => ?_) (fun N h => ?_)
      ·refine aV (aC (bA (aC ?_)));obtain ⟨o, A, h⟩ := bns h;obtain ⟨p, B, h⟩ := bns h;obtain ⟨O, u, h⟩ := bns h;refine cT mix 19 [1, 3, 4] [(78, .b O)] ?_ ?_
       ·refine bch u (fun m u => ?_) (fun m u => ?_)
        ·obtain ⟨w, P, u⟩ := bns u;obtain rfl := sIn u;refine ⟨[(60, 0, .bp b1 0 1), (61, 1, .d (.sl 1 (j.Slots.map aK))), (62, 2, .i f), (63, 3, .cp [.lit (.int .i64 o)]), (64, 4, .i o), (65, 5, .bp b1 0 1), (66, 6, .d (.sl 1 (j.Slots.map aK))), (67, 7, .i a), (68, 8, .cp [.lit (.int .i64 p)]), (69, 9, .i p), (70, 10, .b (decide (o = p))), (71, 11, .b (decide (o = p))), (72, 12, .bp b1 0 1), (73, 13, .d (.sl 1 (j.Slots.map aK))), (74, 14, .i a), (75, 15, .cp [.lit (.int .i64 w)]), (76, 16, .i w), (77, 17, .b (!decide (w = (-1)))), (78, 18, .b (!decide (w = (-1))))], ?_, ?_⟩
         · exact dok [([], []), ([0], []), ([], []), ([1, 2], []), ([3], []), ([], []), ([5], []), ([], []), ([6, 7], []), ([8], []), ([4, 9], []), ([10], []), ([11], []), ([11, 12], []), ([11], []), ([11, 13, 14], []), ([11, 15], []), ([11, 16], []), ([11, 17], [])] ⟨go (zf rfl dL),
      go (zl 0 rfl rfl rfl cQ),
      go (zm (.i f)),
      go (zix rfl rfl bL.of (aX aK A)),
      go (zlc rfl aU),
      go (zf rfl dL),
      go (zl 0 rfl rfl rfl cQ),
      go (zm (.i a)),
      go (zix rfl rfl bL.of (aX aK B)),
      go (zlc rfl aU),
      go (zcm rfl rfl rfl),
      go (zm (.b (decide (o = p)))),
      gt m (zf rfl dL),
      gt m (zl 0 rfl rfl rfl cQ),
      gt m (zm (.i a)),
      gt m (zix rfl rfl bL.of (aX aK P)),
      gt m (zlc rfl aU),
      gt m (zcm rfl rfl rfl),
      go (zpt (.b (!decide (w = (-1)))) m), trivial⟩
         · exact cI (aI rfl (aN ⟨rfl, rfl, rfl, trivial⟩))
        ·obtain rfl := sIn u;refine ⟨[(60, 0, .bp b1 0 1), (61, 1, .d (.sl 1 (j.Slots.map aK))), (62, 2, .i f), (63, 3, .cp [.lit (.int .i64 o)]), (64, 4, .i o), (65, 5, .bp b1 0 1), (66, 6, .d (.sl 1 (j.Slots.map aK))), (67, 7, .i a), (68, 8, .cp [.lit (.int .i64 p)]), (69, 9, .i p), (70, 10, .b (decide (o = p))), (71, 11, .b (decide (o = p))), (72, 12, .tup []), (73, 13, .tup []), (74, 14, .tup []), (75, 15, .tup []), (76, 16, .tup []), (77, 17, .tup []), (78, 18, .b false)], ?_, ?_⟩
         · exact dok [([], []), ([0], []), ([], []), ([1, 2], []), ([3], []), ([], []), ([5], []), ([], []), ([6, 7], []), ([8], []), ([4, 9], []), ([10], []), ([11], []), ([11, 12], []), ([11], []), ([11, 13, 14], []), ([11, 15], []), ([11, 16], []), ([11, 17], [])] ⟨go (zf rfl dL),
      go (zl 0 rfl rfl rfl cQ),
      go (zm (.i f)),
      go (zix rfl rfl bL.of (aX aK A)),
      go (zlc rfl aU),
      go (zf rfl dL),
      go (zl 0 rfl rfl rfl cQ),
      go (zm (.i a)),
      go (zix rfl rfl bL.of (aX aK B)),
      go (zlc rfl aU),
      go (zcm rfl rfl rfl),
      go (zm (.b (decide (o = p)))),
      gp m,
      gp m,
      gp m,
      gp m,
      gp m,
      gp m,
      go (zpf (.b false) m), trivial⟩
         · exact cI (aI rfl (aN ⟨rfl, rfl, rfl, trivial⟩))
       ·refine aB ?_;refine tih h (fun Q h => ?_) (fun Q h => ?_)
        ·refine aC (aA (ta (.b false) (aB ?_)));obtain rfl := sIn h;refine bO (bK (bN (l := [2]) ⟨rfl, trivial⟩)) ?_;exact aY ⟨rfl, _, .one _, rfl, rfl⟩
        ·refine cU ?_;refine aA (tm (.i f) (to (sar rfl rfl rfl) (ta (.i (w64 (f + 1))) (aB ?_))));exact ⟨(w64 (f + 1)), h, aP [0] rfl rfl (aI rfl (aN ⟨rfl, rfl, trivial⟩))⟩
      ·refine bX ?_;refine .inl ⟨rfl, ?_⟩;simp only [tT] at h;simp only [tS] at h;refine aA (tm (.i a) (to (sar rfl rfl rfl) (ta (.i (w64 (a + 1))) (aB ?_))));exact ⟨(w64 (a + 1)), h, aP [0] rfl rfl (aI rfl (aN ⟨rfl, trivial⟩))⟩
   ·refine bX ?_;refine .inl ⟨rfl, ?_⟩;simp only [tR] at h;refine aC (aA (ta (.b true) (aB ?_)));obtain rfl := sIn h;refine bO (bK (bN (l := [2]) ⟨rfl, trivial⟩)) ?_;exact aY ⟨rfl, _, .one _, rfl, rfl⟩

theorem zB (b : aQ) (a : Int) {r : Int} (h : nA b a = some r) : Fn Tryz.prog 44 [.agg (bI b), .i a] (.i r) := by
 unfold nA at h;refine Fn.of_tr Tryz.func44 rfl (rs := [.tmp 4]) Tryz.results44 Tryz.ntmps44 (Nat.le_of_ble_eq_true rfl) ?_;refine aC (aA ?_);refine bB rfl (eP (v := .agg (bI b)) (aE rfl) rfl rfl rfl) ?_;rintro _ ⟨b1, rfl⟩;refine ta (.i 0) (aB (aC (aA (tfl 0 rfl rfl jI rfl aU (to (sar rfl rfl rfl) (tm (.i a) (to (sar rfl rfl rfl) (to (rV (aE rfl) rfl Tryz.runUnderlying3 Tryz.runUnderlying113) ?_))))))));obtain ⟨u2, h3, h⟩ := bns h;refine to (aPn (aE rfl) rfl rfl (aDn h3)) ?_;refine ta (.i (w64 (1 * 2 ^ (min (uw (w64 ((w64 (b.Rounds - 1)) - a))).toNat 64)))) (aB ?_);obtain rfl := sIn h;refine bO (bK (bN (l := [4]) ⟨rfl, trivial⟩)) ?_;exact aY ⟨rfl, _, .one _, rfl, rfl⟩

theorem aFp (d : aQ) (a : Int) (c : Int) {r : Bool} (h : oM d a c = some r) : Fn Tryz.prog 110 [.agg (bI d), .i a, .i c] (.b r) := by
 unfold oM at h;refine Fn.of_tr Tryz.func110 rfl (rs := [.tmp 6]) Tryz.results110 Tryz.ntmps110 (Nat.le_of_ble_eq_true rfl) ?_;refine aC (aA ?_);refine bB rfl (eP (v := .agg (bI d)) (aE rfl) rfl rfl rfl) ?_;rintro _ ⟨b1, rfl⟩;refine ta (.b false) (aB (aC (aA (tm (.i a) (tfl 0 rfl rfl jI rfl aU (to (sar rfl rfl rfl) ?_))))));obtain ⟨r2, h3, h⟩ := bns h;refine to (scr Tryz.call109 (iR _ _ _ h3)) (tm (.b r2) ?_);obtain ⟨b4, h5, h⟩ := bns h;refine bD 7 [] 19 b4 ?_ ?_
 ·refine bch h5 (fun c6 h5 => ?_) (fun c6 h5 => ?_)
  ·refine tk c6 (sm (.i c)) (tk c6 (sla 0 (bI d) rfl rfl nJ) (tk c6 (sm (.i a)) ?_));obtain ⟨r7, h8, h5⟩ := bns h5;refine tk c6 (scr Tryz.call44 (zB _ _ h8)) (tk c6 (sar rfl rfl rfl) ?_);obtain ⟨r9, e, h5⟩ := bns h5;refine tk c6 (scr Tryz.call109 (iR _ _ _ e)) (to (spt (.b r9) c6) ?_);obtain rfl := sIn h5;refine aB (aO rfl trivial rfl)
  ·refine tp c6 (tp c6 (tp c6 (tp c6 (tp c6 (tp c6 (to (spf (.b false) c6) ?_))))));obtain rfl := sIn h5;refine aB (aO rfl trivial rfl)
 ·refine ta (.b b4) (aB ?_);obtain rfl := sIn h;refine bO (bK (bN (l := [6]) ⟨rfl, trivial⟩)) ?_;exact aY ⟨rfl, _, .one _, rfl, rfl⟩

theorem aHk (p : aQ) (n : aF) {r : Bool} (h : pP p n = some r) : Fn Tryz.prog 84 [.agg (bI p), .agg (aJ n)] (.b r) := by
 unfold pP at h;refine Fn.of_tr Tryz.func84 rfl (rs := [.tmp 4]) Tryz.results84 Tryz.ntmps84 (Nat.le_of_ble_eq_true rfl) ?_;refine aC (aA ?_);refine bB rfl (eP (v := .agg (bI p)) (aE rfl) rfl rfl rfl) ?_;rintro _ ⟨b1, rfl⟩;refine bB rfl (eP (v := .agg (aJ n)) (aE rfl) rfl rfl rfl) ?_;rintro _ ⟨b2, rfl⟩;refine ta (.b false) (aB (aC (aC (aA (tfl 1 rfl rfl pH rfl aU ?_)))));obtain ⟨r3, h4, h⟩ := bns h;refine to (scr Tryz.call109 (iR _ _ _ h4)) (to (sn rfl) (aB ?_));refine tih h (fun c5 h => ?_) (fun c5 h => ?_)
 ·refine aC (aA (ta (.b false) (aB ?_)));obtain rfl := sIn h;refine bO (bK (bN (l := [4]) ⟨rfl, trivial⟩)) ?_;exact aY ⟨rfl, _, .one _, rfl, rfl⟩
 ·refine aV (aC (aC (aA (tfl 1 rfl rfl pG rfl aU (to (scm rfl rfl rfl) (aB ?_))))));refine tih h (fun c6 h => ?_) (fun c6 h => ?_)
  ·refine aC (aA (tfl 1 rfl rfl rE rfl aU (to (scm rfl rfl rfl) (tm (.b (decide (n.Round = 0))) ?_))));obtain ⟨b7, h8, h⟩ := bns h;refine bD 8 [3] 23 b7 ?_ ?_
   ·refine bch h8 (fun d h8 => ?_) (fun d h8 => ?_)
    ·refine tkl 1 d rfl rfl lT rfl aU (tkl 0 d rfl rfl dL rfl cQ (tk d (sle rfl bL.of) (tk d (sar rfl rfl rfl) ?_)));obtain ⟨u, w, h8⟩ := bns h8;refine tk d (scr Tryz.call109 (iR _ _ _ w)) (to (spt (.b u) d) ?_);obtain rfl := sIn h8;refine aB (aO rfl ⟨rfl, trivial⟩ rfl)
    ·refine tp d (tp d (tp d (tp d (tp d (tp d (tp d (to (spf (.b false) d) ?_)))))));obtain rfl := sIn h8;refine aB (aO rfl ⟨rfl, trivial⟩ rfl)
   ·refine tm (.b b7) ?_;obtain ⟨b9, j, h⟩ := bns h;refine bD 4 [] 28 b9 ?_ ?_
    ·refine bch j (fun g j => ?_) (fun g j => ?_)
     ·refine tkl 1 g rfl rfl zI rfl aU ?_;obtain ⟨x, y, j⟩ := bns j;refine tk g (scr Tryz.call109 (iR _ _ _ y)) (to (spt (.b x) g) ?_);obtain rfl := sIn j;refine aB (aO rfl trivial rfl)
     ·refine tp g (tp g (tp g (to (spf (.b false) g) ?_)));obtain rfl := sIn j;refine aB (aO rfl trivial rfl)
    ·refine ta (.b b9) (aB ?_);obtain rfl := sIn h;refine bO (bK (bN (l := [4]) ⟨rfl, trivial⟩)) ?_;exact aY ⟨rfl, _, .one _, rfl, rfl⟩
  ·refine aV (aC (aC (aA (tfl 1 rfl rfl pG rfl aU ?_))));obtain ⟨z, A, h⟩ := bns h;refine to (scr Tryz.call109 (iR _ _ _ A)) (to (sn rfl) (tm (.b (!z)) ?_));obtain ⟨q, k, h⟩ := bns h;refine bD 8 [2, 3] 41 q ?_ ?_
   ·refine bch k (fun e k => ?_) (fun e k => ?_)
    ·refine tp e (tp e (tp e (tp e (tp e (tp e (tp e (to (spt (.b true) e) ?_)))))));obtain rfl := sIn k;refine aB (aO rfl ⟨rfl, rfl, trivial⟩ rfl)
    ·refine tk e (sla 0 (bI p) rfl rfl nJ) (tkl 1 e rfl rfl rE rfl aU (tkl 1 e rfl rfl lT rfl aU ?_));obtain ⟨B, C, k⟩ := bns k;refine tk e (scr Tryz.call110 (aFp _ _ _ C)) (tk e (sn rfl) (to (spf (.b (!B)) e) ?_));obtain rfl := sIn k;refine aB (aO rfl ⟨rfl, rfl, trivial⟩ rfl)
   ·refine tm (.b q) ?_;obtain ⟨E, o, h⟩ := bns h;refine bD 4 [2, 3] 46 E ?_ ?_
    ·refine bch o (fun i o => ?_) (fun i o => ?_)
     ·refine tp i (tp i (tp i (to (spt (.b true) i) ?_)));obtain rfl := sIn o;refine aB (aO rfl ⟨rfl, rfl, trivial⟩ rfl)
     ·refine tkl 1 i rfl rfl zI rfl aU (tk i (scm rfl rfl rfl) (to (spf (.b (!decide (n.Old = 0))) i) ?_));obtain rfl := sIn o;refine aB (aO rfl ⟨rfl, rfl, trivial⟩ rfl)
    ·refine aB ?_;refine tih h (fun F h => ?_) (fun F h => ?_)
     ·refine aC (aA (ta (.b false) (aB ?_)));obtain rfl := sIn h;refine bO (bK (bN (l := [4]) ⟨rfl, trivial⟩)) ?_;exact aY ⟨rfl, _, .one _, rfl, rfl⟩
     ·refine aV (aC (aA (tfl 1 rfl rfl rE rfl aU (to (scm rfl rfl rfl) (tm (.b (decide (0 < n.Round))) ?_)))));obtain ⟨s, f, h⟩ := bns h;refine bD 20 [] 70 s ?_ ?_
      ·refine bch f (fun a f => ?_) (fun a f => ?_)
       ·refine tp a (tp a (tp a (tp a (tp a (tp a (tp a (tp a (tp a (tq (tq (tq (tq (tq ?_)))))))))))));refine tq (tq (tq (tq (tp a (to (spt (.b true) a) ?_)))));obtain rfl := sIn f;refine aB (aO rfl trivial rfl)
       ·refine tkl 0 a rfl rfl dL rfl cQ (tkl 1 a rfl rfl lT rfl aU (tk a (sar rfl rfl rfl) ?_));obtain ⟨G, H, f⟩ := bns f;refine tk a (six rfl rfl bL.of (aX aK H)) (tk a (slc rfl aU) (tk a (scm rfl rfl rfl) (tk a (sm (.b (!decide (G = (-1))))) ?_)));obtain ⟨t, m, f⟩ := bns f;refine bD 10 [50] 69 t ?_ ?_
        ·refine bch m (fun c m => ?_) (fun c m => ?_)
         ·refine tkl 0 c rfl rfl dL rfl cQ (tkl 1 c rfl rfl lT rfl aU (tk c (sar rfl rfl rfl) (tk c (sar rfl rfl rfl) ?_)));obtain ⟨I, J, m⟩ := bns m;refine tk c (six rfl rfl bL.of (aX aK J)) (tk c (slc rfl aU) (tk c (scm rfl rfl rfl) (tk a (spt (.b (!decide (I = (-1)))) c) ?_)));obtain rfl := sIn m;refine aB (aO rfl ⟨rfl, trivial⟩ rfl)
         ·refine tp c (tp c (tp c (tp c (tp c (tp c (tp c (tp c (tp c (tk a (spf (.b false) c) ?_)))))))));obtain rfl := sIn m;refine aB (aO rfl ⟨rfl, trivial⟩ rfl)
        ·refine to (spf (.b t) a) ?_;obtain rfl := sIn f;refine aB (aO rfl trivial rfl)
      ·refine ta (.b s) (aB ?_);obtain rfl := sIn h;refine bO (bK (bN (l := [4]) ⟨rfl, trivial⟩)) ?_;exact aY ⟨rfl, _, .one _, rfl, rfl⟩

theorem aAz (p : List aF) {r : (List aF)} (h : oX p = some r) : Fn Tryz.prog 42 [.d (.sl 5 (p.map aJ))] (.d (.sl 5 (r.map aJ))) := by
 unfold oX at h;refine Fn.of_tr Tryz.func42 rfl (rs := [.tmp 2]) Tryz.results42 Tryz.ntmps42 (Nat.le_of_ble_eq_true rfl) ?_;refine aC (aA (to (aAc 5 (aE rfl)) ?_));refine aB (aC (aA (to (eY 67 5 (.inl rfl) (aE rfl)) ?_)));refine aB (aC (aC (aA (ta (.i 0) (aB (bA ?_))))));refine bR (S := Int × (List aF) × Value) [0] (fun s2 => [(3, .d (.lit s2.2.2)), (4, .i s2.1)]) (fun s2 => [.arr s2.2.2 67 5 (s2.2.1.map aJ)]) (fun k s2 => fE p k s2.1 s2.2.1) (fun _ => rfl) (0, ([] : List aF), (.slice none 0 0)) h (aP [0] rfl rfl (aI rfl (aI rfl (aN ⟨rfl, trivial⟩)))) ?_;rintro k4 ⟨g, o, w3⟩ h;simp only [fE] at h;refine aC (aC (aA (tm (.i g) (tm (.d (.sl 5 (p.map aJ))) (to (sle rfl eL.of) (to (scm rfl rfl rfl) (aB ?_)))))));refine tih h (fun c5 h => ?_) (fun c5 h => ?_)
 ·refine aV (aC (bA (aC (aA (ta (.b false) (aB (aC (aC (aA (ta (.i 0) (aB (bA ?_))))))))))));refine bR (S := Bool × Int) [0, 3, 4] (fun s6 => [(5, .b s6.1), (6, .i s6.2)]) (fun s6 => [.arr w3 67 5 (o.map aJ)]) (fun k s6 => jB (fE p k4) p g o k s6.1 s6.2) (fun _ => rfl) (false, 0) h (aP [0] rfl rfl (aI rfl (aI rfl (aN ⟨rfl, rfl, rfl, trivial⟩)))) ?_;rintro k7 ⟨c, j⟩ h;simp only [jB] at h;refine aC (aC (aA (tm (.i j) (tm (.d (.lit w3)) (to (kO (m := 0) (aE rfl) rfl rfl eL.of) ?_)))));refine to (scm rfl rfl rfl) (aB ?_);refine tih h (fun c8 h => ?_) (fun c8 h => ?_)
  ·refine aV (aC (bA ?_));obtain ⟨b9, q, h⟩ := bns h;refine cT mix 12 [0, 3, 4, 6] [(30, .b b9)] ?_ ?_
   ·refine bch q (fun e q => ?_) (fun e q => ?_)
    ·obtain rfl := sIn q;refine ⟨[(19, 0, .b c), (20, 1, .b c), (21, 2, .tup []), (22, 3, .tup []), (23, 4, .tup []), (24, 5, .tup []), (25, 6, .tup []), (26, 7, .tup []), (27, 8, .tup []), (28, 9, .tup []), (29, 10, .tup []), (30, 11, .b true)], ?_, ?_⟩
     · exact dok [([], []), ([0], []), ([1], []), ([1], []), ([1, 2, 3], []), ([1, 4], []), ([1], []), ([1], []), ([1, 6, 7], []), ([1, 8], []), ([1, 5, 9], []), ([1, 10], [])] ⟨go (zm (.b c)),
      go (zm (.b c)),
      gp e,
      gp e,
      gp e,
      gp e,
      gp e,
      gp e,
      gp e,
      gp e,
      gp e,
      go (zpt (.b true) e), trivial⟩
     · exact cI (aI rfl (aN ⟨rfl, rfl, rfl, rfl, trivial⟩))
    ·obtain ⟨s, t, q⟩ := bns q;obtain ⟨n, x, q⟩ := bns q;obtain rfl := sIn q;refine ⟨[(19, 0, .b c), (20, 1, .b c), (21, 2, .d (.lit w3)), (22, 3, .i j), (23, 4, .ep w3 5 j.toNat 0), (24, 5, .agg (aJ s)), (25, 6, .d (.sl 5 (p.map aJ))), (26, 7, .i g), (27, 8, .cp [.lit (.int .i64 n.Kind), .lit (.int .i64 n.Round), .lit (.int .i64 n.Place), .lit (.int .i64 n.Player), .lit (.int .i64 n.Old)]), (28, 9, .agg (aJ n)), (29, 10, .b (decide (s = n))), (30, 11, .b (decide (s = n)))], ?_, ?_⟩
     · exact dok [([], []), ([0], []), ([1], []), ([1], []), ([1, 2, 3], []), ([1, 4], []), ([1], []), ([1], []), ([1, 6, 7], []), ([1, 8], []), ([1, 5, 9], []), ([1, 10], [])] ⟨go (zm (.b c)),
      go (zm (.b c)),
      gt e (zm (.d (.lit w3))),
      gt e (zm (.i j)),
      gt e (zia 0 rfl rfl rfl eL.of (aX aJ t)),
      gt e fun S hS => eH (aE rfl) (aR hS rfl) (l := 0) rfl (dX aJ t) mA (es := (aJ s)) rfl rfl,
      gt e (zm (.d (.sl 5 (p.map aJ)))),
      gt e (zm (.i g)),
      gt e (zix rfl rfl eL.of (aX aJ x)),
      gt e (xQ (aJ n) rfl mA),
      gt e fun S hS => aUz (a := s) (b := n) (aE rfl) (aR hS rfl) (aR hS rfl) rfl rfl Tryz.eqGuardType67 aQg,
      go (zpf (.b (decide (s = n))) e), trivial⟩
     · exact cI (aI rfl (aN ⟨rfl, rfl, rfl, rfl, trivial⟩))
   ·refine ta (.b b9) ?_;refine cS ?_;refine aA (tm (.i j) (to (sar rfl rfl rfl) (ta (.i (w64 (j + 1))) (aB ?_))));exact ⟨(b9, w64 (j + 1)), h, aP [0] rfl rfl (aI rfl (aI rfl (aN ⟨rfl, rfl, rfl, trivial⟩)))⟩
  ·refine bX ?_;refine .inl ⟨rfl, ?_⟩;simp only [oP] at h;refine aC (aA (tm (.b c) (to (sn rfl) (aB ?_))));refine tih h (fun y h => ?_) (fun y h => ?_)
   ·refine aA (tm (.d (.lit w3)) (tm (.d (.sl 5 (p.map aJ))) (tm (.i g) ?_)));obtain ⟨u, z, h⟩ := bns h;refine to (six rfl rfl eL.of (aX aJ z)) (to (rO (aJ u) rfl mA) (to (eK (aE rfl) eL rfl rfl (rows := ([u]).map aJ) rfl (bZ (f := aJ) fun _ => rfl) rfl (by decide)) ?_));obtain ⟨A, B, h⟩ := bns h;refine bB rfl (dN (i := 0) (aE rfl) eL rfl rfl rfl (fun _ => rfl) B rfl) ?_;rintro _ ⟨w, rfl⟩;refine ta (.d (.lit w)) ?_;refine cS ?_;simp only [mF] at h;refine aA (tm (.i g) (to (sar rfl rfl rfl) (ta (.i (w64 (g + 1))) (aB ?_))));exact ⟨(w64 (g + 1), A, w), h, aP [0] rfl rfl (aI rfl (aI rfl (aN ⟨rfl, trivial⟩)))⟩
   ·refine cU ?_;simp only [mF] at h;refine aA (tm (.i g) (to (sar rfl rfl rfl) (ta (.i (w64 (g + 1))) (aB ?_))));exact ⟨(w64 (g + 1), o, w3), h, aP [0] rfl rfl (aI rfl (aI rfl (aN ⟨rfl, trivial⟩)))⟩
 ·refine bX ?_;refine .inl ⟨rfl, ?_⟩;simp only [vH] at h;refine aC (aA (tm (.d (.lit w3)) (ta (.d (.lit w3)) (aB ?_))));obtain rfl := sIn h;refine bO (bK (mX (k := 2) (v := .d (.sl 5 (o.map aJ))) (.d (eW 0 rfl (bZ (f := aJ) fun _ => rfl))) (zC))) ?_;exact aY ⟨rfl, _, .one _, rfl, rfl⟩

theorem aMd (c : List Int) (e : Int) {r : Bool} (h : uC c e = some r) : Fn Tryz.prog 43 [.d (.sl 1 (c.map aK)), .i e] (.b r) := by
 unfold uC at h;refine Fn.of_tr Tryz.func43 rfl (rs := [.tmp 4]) Tryz.results43 Tryz.ntmps43 (Nat.le_of_ble_eq_true rfl) ?_;refine aC (aA (ta (.b false) (aB (aC (aC (aA (ta (.i 0) (aB (bA ?_)))))))));refine bR (S := Int) [0, 1] (fun s1 => [(5, .i s1)]) (fun s1 => []) (fun k s1 => lR c e k s1) (fun _ => rfl) (0) h (aP [] rfl rfl (aI rfl (aN ⟨rfl, rfl, trivial⟩))) ?_;rintro k2 a h;simp only [lR] at h;refine aC (aC (aA (tm (.i a) (tm (.d (.sl 1 (c.map aK))) (to (sle rfl bL.of) (to (scm rfl rfl rfl) (aB ?_)))))));refine tih h (fun c3 h => ?_) (fun c3 h => ?_)
 ·refine aV (aC (bA (aC (aA (tm (.d (.sl 1 (c.map aK))) (tm (.i a) ?_))))));obtain ⟨x4, h5, h⟩ := bns h;refine to (six rfl rfl bL.of (aX aK h5)) (to (slc rfl aU) (tm (.i e) (to (scm rfl rfl rfl) (aB ?_))));refine tih h (fun c6 h => ?_) (fun c6 h => ?_)
  ·refine aC (aA (ta (.b true) (aB ?_)));obtain rfl := sIn h;exact aY ⟨rfl, _, .one _, rfl, rfl⟩
  ·refine cU ?_;refine aA (tm (.i a) (to (sar rfl rfl rfl) (ta (.i (w64 (a + 1))) (aB ?_))));exact ⟨(w64 (a + 1)), h, aP [] rfl rfl (aI rfl (aN ⟨rfl, rfl, trivial⟩))⟩
 ·refine bX ?_;refine .inl ⟨rfl, ?_⟩;simp only [xG] at h;refine aC (aA (ta (.b false) (aB ?_)));obtain rfl := sIn h;exact aY ⟨rfl, _, .one _, rfl, rfl⟩

theorem aFq (t : aQ) (N : List aF) {r : (List Int) × Bool} (h : oN t N = some r) : Fn Tryz.prog 16 [.agg (bI t), .d (.sl 5 (N.map aJ))] (.tup [.d (.sl 1 (r.1.map aK)), .b r.2]) := by
 unfold oN at h;refine Fn.of_tr Tryz.func16 rfl (rs := [.tmp 4, .tmp 5]) Tryz.results16 Tryz.ntmps16 (Nat.le_of_ble_eq_true rfl) ?_;refine aC (aA ?_);refine bB rfl (eP (v := .agg (bI t)) (aE rfl) rfl rfl rfl) ?_;rintro _ ⟨b1, rfl⟩;refine to (aAc 1 (aE rfl)) ?_;refine ta (.b false) (aB (aC (aA (tm (.d (.sl 5 (N.map aJ))) ?_))));obtain ⟨r2, h3, h⟩ := bns h;refine to (eX (aE rfl) (.func _ _ Tryz.call42) rfl rfl (aAz _ h3)) ?_;refine ta (.d (.sl 5 (r2.map aJ))) (aB (aC (aA ?_)));refine bB rfl (xZ (aE rfl) bL rfl rfl (rows := (([] : List Int)).map aK) rfl (bZ (f := aK) fun _ => rfl) rfl (by decide)) ?_;rintro _ ⟨v4, rfl⟩;refine tfl 0 rfl rfl dL rfl cQ ?_;obtain ⟨x5, h6, h⟩ := bns h;refine bB rfl (dN (i := 1) (aE rfl) bL rfl rfl rfl (fun _ => rfl) h6 rfl) ?_;rintro _ ⟨v7, rfl⟩;refine ta (.d (.lit v7)) (aB (aC (aA (to (eY 3 1 (.inl rfl) (aE rfl)) ?_))));refine aB (aC (aA (ta (.i 0) (aB (aC (aC (aA (ta (.i 0) (aB (bA ?_))))))))));refine bR (S := Int × Int × (List Int) × (List Int) × Value × Value) [2, 6] (fun s9 => [(7, .d (.lit s9.2.2.2.2.2)), (8, .d (.lit s9.2.2.2.2.1)), (9, .i s9.1), (10, .i s9.2.1)]) (fun s9 => [.box b1 0 (bI t), .arr s9.2.2.2.2.1 3 1 (s9.2.2.1.map aK), .arr s9.2.2.2.2.2 3 1 (s9.2.2.2.1.map aK)]) (fun k s9 => eR r2 t k s9.1 s9.2.1 s9.2.2.1 s9.2.2.2.1) (fun _ => rfl) (0, 0, ([] : List Int), x5, (.slice none 0 0), v7) h (aP [0, 2, 1] rfl rfl (aI rfl (aI rfl (aI rfl (aI rfl (aN ⟨rfl, rfl, trivial⟩)))))) ?_;rintro O ⟨B, n, e, M, H, a3⟩ h;simp only [eR] at h;refine aC (aC (aA (tm (.i n) (tfl 0 rfl rfl dL rfl cQ (to (sle rfl bL.of) (to (scm rfl rfl rfl) (aB ?_)))))));refine tih h (fun a4 h => ?_) (fun a4 h => ?_)
 ·refine aV (aC (bA (aC (aA (tfl 0 rfl rfl dL rfl cQ (tm (.i n) ?_))))));obtain ⟨P, a5, h⟩ := bns h;refine to (six rfl rfl bL.of (aX aK a5)) (to (slc rfl aU) (ta (.i P) (aB (aC (aC (aA (ta (.b true) (aB (bA ?_)))))))));refine bR (S := Int × Int × Bool × (List Int) × Value) [2, 6, 8, 10] (fun y => [(7, .d (.lit y.2.2.2.2)), (9, .i y.1), (11, .i y.2.1), (12, .b y.2.2.1)]) (fun y => [.box b1 0 (bI t), .arr H 3 1 (e.map aK), .arr y.2.2.2.2 3 1 (y.2.2.2.1.map aK)]) (fun k y => hZ (eR r2 t O) r2 n t e k y.1 y.2.1 y.2.2.1 y.2.2.2.1) (fun _ => rfl) (B, P, true, M, a3) h (aP [0, 1, 2] rfl rfl (aI rfl (aI rfl (aI rfl (aI rfl (aN ⟨rfl, rfl, rfl, rfl, trivial⟩)))))) ?_;rintro a6 ⟨g, j, J, w, K⟩ h;simp only [hZ] at h;refine aC (aC (aA (tm (.b J) (aB ?_))));refine tih h (fun a7 h => ?_) (fun a7 h => ?_)
  ·refine aV (bA (aC (aA (ta (.b false) (aB (aC (aA (to (eY 3 1 (.inl rfl) (aE rfl)) ?_))))))));refine aB (aC (aC (aA (ta (.i 0) (aB (bA ?_))))));refine bR (S := Int × (List Int) × Value) [2, 6, 7, 8, 9, 10, 11, 12] (fun A => [(13, .d (.lit A.2.2)), (14, .i A.1)]) (fun A => [.box b1 0 (bI t), .arr H 3 1 (e.map aK), .arr A.2.2 3 1 (A.2.1.map aK), .arr K 3 1 (w.map aK)]) (fun k A => fU (eR r2 t O) (hZ (eR r2 t O) r2 n t e a6) r2 g n j false t e w k A.1 A.2.1) (fun _ => rfl) (0, ([] : List Int), (.slice none 0 0)) h (aP [0, 1, 3, 2] rfl rfl (aI rfl (aI rfl (aN ⟨rfl, rfl, rfl, rfl, rfl, rfl, rfl, rfl, trivial⟩)))) ?_;rintro d1 ⟨a, x, C⟩ h;simp only [fU] at h;refine aC (aC (aA (tm (.i a) (tm (.d (.sl 5 (r2.map aJ))) (to (sle rfl eL.of) (to (scm rfl rfl rfl) (aB ?_)))))));refine tih h (fun a8 h => ?_) (fun a8 h => ?_)
   ·refine aV (aC (bA (aC (aA (tm (.d (.sl 5 (r2.map aJ))) (tm (.i a) ?_))))));obtain ⟨Q, a9, h⟩ := bns h;refine to (six rfl rfl eL.of (aX aJ a9)) (to (sfc [.lit (.int .i64 Q.Kind)] rfl pG) (to (slc rfl aU) (to (scm rfl rfl rfl) (tm (.b (decide (Q.Kind = 5))) ?_))));obtain ⟨T, E, h⟩ := bns h;refine bD 8 [2, 6, 7, 8, 9, 10, 11, 12, 13, 14] 55 T ?_ ?_
    ·refine bch E (fun o E => ?_) (fun o E => ?_)
     ·refine tk o (sm (.d (.sl 5 (r2.map aJ)))) (tk o (sm (.i a)) ?_);obtain ⟨U, b0, E⟩ := bns E;refine tk o (six rfl rfl eL.of (aX aJ b0)) (tk o (sfc [.lit (.int .i64 U.Place)] rfl lT) (tk o (slc rfl aU) (tk o (sm (.i n)) (tk o (scm rfl rfl rfl) (to (spt (.b (decide (U.Place = n))) o) ?_)))));obtain rfl := sIn E;refine aB (aO rfl ⟨rfl, rfl, rfl, rfl, rfl, rfl, rfl, rfl, rfl, rfl, trivial⟩ rfl)
     ·refine tp o (tp o (tp o (tp o (tp o (tp o (tp o (to (spf (.b false) o) ?_)))))));obtain rfl := sIn E;refine aB (aO rfl ⟨rfl, rfl, rfl, rfl, rfl, rfl, rfl, rfl, rfl, rfl, trivial⟩ rfl)
    ·refine tm (.b T) ?_;obtain ⟨b2, F, h⟩ := bns h;refine bD 8 [2, 6, 7, 8, 9, 10, 11, 12, 13, 14] 64 b2 ?_ ?_
     ·refine bch F (fun p F => ?_) (fun p F => ?_)
      ·refine tk p (sm (.d (.sl 5 (r2.map aJ)))) (tk p (sm (.i a)) ?_);obtain ⟨V, b3, F⟩ := bns F;refine tk p (six rfl rfl eL.of (aX aJ b3)) (tk p (sfc [.lit (.int .i64 V.Old)] rfl zI) (tk p (slc rfl aU) (tk p (sm (.i j)) (tk p (scm rfl rfl rfl) (to (spt (.b (decide (V.Old = j))) p) ?_)))));obtain rfl := sIn F;refine aB (aO rfl ⟨rfl, rfl, rfl, rfl, rfl, rfl, rfl, rfl, rfl, rfl, trivial⟩ rfl)
      ·refine tp p (tp p (tp p (tp p (tp p (tp p (tp p (to (spf (.b false) p) ?_)))))));obtain rfl := sIn F;refine aB (aO rfl ⟨rfl, rfl, rfl, rfl, rfl, rfl, rfl, rfl, rfl, rfl, trivial⟩ rfl)
     ·refine aB ?_;refine tih h (fun b4 h => ?_) (fun b4 h => ?_)
      ·refine aA (tm (.d (.lit C)) (tm (.d (.sl 5 (r2.map aJ))) (tm (.i a) ?_)));obtain ⟨W, b5, h⟩ := bns h;refine to (six rfl rfl eL.of (aX aJ b5)) (to (sfc [.lit (.int .i64 W.Player)] rfl pH) (to (slc rfl aU) (to (eK (aE rfl) bL rfl rfl (rows := ([W.Player]).map aK) rfl (bZ (f := aK) fun _ => rfl) rfl (by decide)) ?_)));obtain ⟨b6, b7, h⟩ := bns h;refine bB rfl (dN (i := 2) (aE rfl) bL rfl rfl rfl (fun _ => rfl) b7 rfl) ?_;rintro _ ⟨X, rfl⟩;refine ta (.d (.lit X)) ?_;refine cS ?_;refine aA (tm (.i a) (to (sar rfl rfl rfl) (ta (.i (w64 (a + 1))) (aB ?_))));exact ⟨(w64 (a + 1), b6, X), h, aP [0, 1, 2, 3] rfl rfl (aI rfl (aI rfl (aN ⟨rfl, rfl, rfl, rfl, rfl, rfl, rfl, rfl, trivial⟩)))⟩
      ·refine cU ?_;refine aA (tm (.i a) (to (sar rfl rfl rfl) (ta (.i (w64 (a + 1))) (aB ?_))));exact ⟨(w64 (a + 1), x, C), h, aP [0, 1, 2, 3] rfl rfl (aI rfl (aI rfl (aN ⟨rfl, rfl, rfl, rfl, rfl, rfl, rfl, rfl, trivial⟩)))⟩
   ·refine bX ?_;refine .inl ⟨rfl, ?_⟩;simp only [mB] at h;refine aC (aC (aA (tm (.d (.lit C)) (to (kO (m := 2) (aE rfl) rfl rfl bL.of) ?_))));refine to (scm rfl rfl rfl) (tm (.b (decide (1 < (x.length : Int)))) ?_);obtain ⟨b8, G, h⟩ := bns h;refine bD 11 [2, 6, 7, 8, 9, 10, 11, 12, 13] 87 b8 ?_ ?_
    ·refine bch G (fun s G => ?_) (fun s G => ?_)
     ·refine tp s (tp s (tp s (tp s (tq (tq (tq (tq (tq (tp s (to (spt (.b true) s) ?_))))))))));obtain rfl := sIn G;refine aB (aO rfl ⟨rfl, rfl, rfl, rfl, rfl, rfl, rfl, rfl, rfl, trivial⟩ rfl)
     ·refine tk s (sm (.d (.lit C))) (tk s (kO (m := 2) (aE rfl) rfl rfl bL.of) ?_);refine tk s (scm rfl rfl rfl) (tk s (sm (.b (decide ((x.length : Int) = 1)))) ?_);obtain ⟨Y, z, G⟩ := bns G;refine bD 6 [2, 6, 7, 8, 9, 10, 11, 12, 13, 76, 77, 78, 79, 80] 86 Y ?_ ?_
      ·refine bch z (fun u z => ?_) (fun u z => ?_)
       ·refine tk u (sm (.d (.lit K))) (tk u (sm (.d (.lit C))) ?_);obtain ⟨d2, Z, z⟩ := bns z;refine tk u (dJ (m := 2) (aE rfl) rfl rfl rfl bL.of (aX aK Z)) ?_;refine tk u (jC (aE rfl) rfl (m := 2) rfl (dX aK Z) rfl aU) ?_;obtain ⟨b9, c0, z⟩ := bns z;refine tk u (sc Tryz.call43 (aMd _ _ c0) (.cons (.d (eW 3 rfl (bZ (f := aK) fun _ => rfl))) (.cons (.same _) .nil))) (tk s (spt (.b b9) u) ?_);obtain rfl := sIn z;refine aB (aO rfl ⟨rfl, rfl, rfl, rfl, rfl, rfl, rfl, rfl, rfl, rfl, rfl, rfl, rfl, rfl, trivial⟩ rfl)
       ·refine tp u (tp u (tp u (tp u (tp u (tk s (spf (.b false) u) ?_)))));obtain rfl := sIn z;refine aB (aO rfl ⟨rfl, rfl, rfl, rfl, rfl, rfl, rfl, rfl, rfl, rfl, rfl, rfl, rfl, rfl, trivial⟩ rfl)
      ·refine to (spf (.b Y) s) ?_;obtain rfl := sIn G;refine aB (aO rfl ⟨rfl, rfl, rfl, rfl, rfl, rfl, rfl, rfl, rfl, trivial⟩ rfl)
    ·refine aB ?_;refine tih h (fun c1 h => ?_) (fun c1 h => ?_)
     ·refine aC (aA (to (aAc 1 (aE rfl)) ?_));refine ta (.b false) (aB ?_);obtain rfl := sIn h;refine bO (bK (bN (l := [4, 5]) ⟨rfl, rfl, trivial⟩)) ?_;exact aY ⟨rfl, _, .two _ _, rfl, rfl⟩
     ·refine aV (aC (aA (tm (.d (.lit C)) (to (kO (m := 2) (aE rfl) rfl rfl bL.of) ?_))));refine to (scm rfl rfl rfl) (aB ?_);refine tih h (fun c2 h => ?_) (fun c2 h => ?_)
      ·refine aC (aA (tm (.d (.lit C)) ?_));obtain ⟨L, a0, h⟩ := bns h;refine to (dJ (m := 2) (aE rfl) rfl rfl rfl bL.of (aX aK a0)) ?_;refine to (jC (aE rfl) rfl (m := 2) rfl (dX aK a0) rfl aU) ?_;refine ta (.i L) (aB (aC (aA (tm (.d (.lit K)) (tm (.i L) (to (eK (aE rfl) bL rfl rfl (rows := ([L]).map aK) rfl (bZ (f := aK) fun _ => rfl) rfl (by decide)) ?_))))));obtain ⟨c3, c4, h⟩ := bns h;refine bB rfl (dN (i := 3) (aE rfl) bL rfl rfl rfl (fun _ => rfl) c4 rfl) ?_;rintro _ ⟨a1, rfl⟩;refine ta (.d (.lit a1)) (aB (aC (aA (tm (.i g) (to (sar rfl rfl rfl) (ta (.i (w64 (g + 1))) (aB (aA (ta (.b true) ?_)))))))));refine cS ?_;simp only [kE] at h;exact ⟨(w64 (g + 1), L, true, c3, a1), h, aP [0, 1, 3] rfl rfl (aI rfl (aI rfl (aI rfl (aI rfl (aN ⟨rfl, rfl, rfl, rfl, trivial⟩)))))⟩
      ·refine cU ?_;simp only [kE] at h;exact ⟨(g, j, false, w, K), h, aP [0, 1, 3] rfl rfl (aI rfl (aI rfl (aI rfl (aI rfl (aN ⟨rfl, rfl, rfl, rfl, trivial⟩)))))⟩
  ·refine bX ?_;refine .inl ⟨rfl, ?_⟩;simp only [oW] at h;refine aA (tm (.d (.lit H)) (tm (.i j) (to (eK (aE rfl) bL rfl rfl (rows := ([j]).map aK) rfl (bZ (f := aK) fun _ => rfl) rfl (by decide)) ?_)));obtain ⟨c5, c6, h⟩ := bns h;refine bB rfl (dN (i := 1) (aE rfl) bL rfl rfl rfl (fun _ => rfl) c6 rfl) ?_;rintro _ ⟨a2, rfl⟩;refine ta (.d (.lit a2)) ?_;refine cS ?_;simp only [sR] at h;refine aA (tm (.i n) (to (sar rfl rfl rfl) (ta (.i (w64 (n + 1))) (aB ?_))));exact ⟨(g, w64 (n + 1), c5, w, a2, K), h, aP [0, 1, 2] rfl rfl (aI rfl (aI rfl (aI rfl (aI rfl (aN ⟨rfl, rfl, trivial⟩)))))⟩
 ·refine bX ?_;refine .inl ⟨rfl, ?_⟩;simp only [sQ] at h;refine aC (aC (aA (ta (.i 0) (aB (bA ?_)))));refine bR (S := Int × Int) [6, 8] (fun I => [(9, .i I.1), (15, .i I.2)]) (fun I => [.arr H 3 1 (e.map aK)]) (fun k I => fV r2 e k I.1 I.2) (fun _ => rfl) (B, 0) h (aP [1] rfl rfl (aI rfl (aI rfl (aN ⟨rfl, rfl, trivial⟩)))) ?_;rintro d3 ⟨c, q⟩ h;simp only [fV] at h;refine aC (aC (aA (tm (.i q) (tm (.d (.sl 5 (r2.map aJ))) (to (sle rfl eL.of) (to (scm rfl rfl rfl) (aB ?_)))))));refine tih h (fun c7 h => ?_) (fun c7 h => ?_)
  ·refine aV (aC (bA (aC (aA (tm (.d (.sl 5 (r2.map aJ))) (tm (.i q) ?_))))));obtain ⟨c8, c9, h⟩ := bns h;refine to (six rfl rfl eL.of (aX aJ c9)) (to (sfc [.lit (.int .i64 c8.Kind)] rfl pG) (to (slc rfl aU) (to (scm rfl rfl rfl) (aB ?_))));refine tih h (fun d0 h => ?_) (fun d0 h => ?_)
   ·refine aA (tm (.i c) (to (sar rfl rfl rfl) (ta (.i (w64 (c - 1))) ?_)));refine cS ?_;refine aA (tm (.i q) (to (sar rfl rfl rfl) (ta (.i (w64 (q + 1))) (aB ?_))));exact ⟨(w64 (c - 1), w64 (q + 1)), h, aP [0] rfl rfl (aI rfl (aI rfl (aN ⟨rfl, rfl, trivial⟩)))⟩
   ·refine cU ?_;refine aA (tm (.i q) (to (sar rfl rfl rfl) (ta (.i (w64 (q + 1))) (aB ?_))));exact ⟨(c, w64 (q + 1)), h, aP [0] rfl rfl (aI rfl (aI rfl (aN ⟨rfl, rfl, trivial⟩)))⟩
  ·refine bX ?_;refine .inl ⟨rfl, ?_⟩;simp only [sS] at h;refine aC (aA (tm (.d (.lit H)) (tm (.i c) (to (scm rfl rfl rfl) (ta (.d (.lit H)) (ta (.b (decide (c = 0))) (aB ?_)))))));obtain rfl := sIn h;refine bO (bK (mX (k := 5) (v := .b (decide (c = 0))) (.same _) (mX (k := 4) (v := .d (.sl 1 (e.map aK))) (.d (eW 0 rfl (bZ (f := aK) fun _ => rfl))) (zC)))) ?_;exact aY ⟨rfl, _, .two _ _, rfl, rfl⟩

theorem aKg (A : aQ) (U : List aF) {r : aT × Bool} (h : fW A U = some r) : Fn Tryz.prog 85 [.agg (bI A), .d (.sl 5 (U.map aJ))] (.tup [.agg (cP r.1), .b r.2]) := by
 unfold fW at h;refine jM Tryz.func85 rfl (rs := [.cell 4 126, .tmp 5]) Tryz.results85 Tryz.ntmps85 (Nat.le_of_ble_eq_true rfl) ?_;refine aC (aA ?_);refine bB rfl (eP (v := .agg (bI A)) (aE rfl) rfl rfl rfl) ?_;rintro _ ⟨b1, rfl⟩;refine bB rfl (cR (zs := [.sl 1 ((([] : List Int)).map aK), .sl 1 ((([] : List (List Int))).map qQ)]) (aE rfl) Tryz.zeroValue126 rfl rfl) ?_;rintro _ ⟨b2, rfl⟩;refine ta (.b false) (aB (aC (aA (to (sla 0 (bI A) rfl rfl nJ) (tm (.d (.sl 5 (U.map aJ))) ?_)))));obtain ⟨r3, h4, h⟩ := bns h;refine to (eX (aE rfl) (.func _ _ Tryz.call16) rfl rfl (aFq _ _ h4)) ?_;refine tm (.tup [.d (.sl 1 (r3.1.map aK)), .b r3.2]) (to (sex rfl rfl) (to (sex rfl rfl) (ta (.d (.sl 1 (r3.1.map aK))) (ta (.b r3.2) (aB (aC (aC (aA (tm (.b r3.2) (to (sn rfl) (aB ?_)))))))))));refine tih h (fun c5 h => ?_) (fun c5 h => ?_)
 ·refine aC (aA (to (dZ (aE rfl) aFh (zs := [.sl 1 ((([] : List Int)).map aK), .sl 1 ((([] : List (List Int))).map qQ)]) rfl rfl rfl rfl (es := [.sl 1 ((([] : List Int)).map aK), .sl 1 ((([] : List (List Int))).map qQ)]) rfl) ?_));refine to (sst 1 rfl rfl Tryz.sizeOf126 (cP (aT.mk ([] : List Int) ([] : List (List Int))))) (ta (.b false) (aB ?_));obtain rfl := sIn h;exact aY ⟨rfl, _, [.box b1 0 (bI A), .box b2 0 (cP (aT.mk ([] : List Int) ([] : List (List Int))))], .two (.cell 4 126 rfl (i := 1) rfl aBt (es := (cP (aT.mk ([] : List Int) ([] : List (List Int))))) rfl rfl) (.tmp 5 (v := .b false) rfl), .refl _, .same _⟩
 ·refine aV (aC (aA (tm (.d (.sl 1 (r3.1.map aK))) (to (dZ (aE rfl) aFh (zs := [.sl 1 ((([] : List Int)).map aK), .lit (.slice none 0 0)]) rfl rfl rfl rfl (es := [.sl 1 (r3.1.map aK), .lit (.slice none 0 0)]) rfl) ?_))));refine bB rfl (cR (zs := [.sl 1 ((([] : List Int)).map aK), .lit (.slice none 0 0)]) (aE rfl) Tryz.zeroValue126 rfl rfl) ?_;rintro _ ⟨b6, rfl⟩;refine jD (kN 22 1) ?_;refine jD (aUi 3 1) ?_;refine to (sst 2 rfl rfl Tryz.sizeOf126 [.sl 1 (r3.1.map aK), .lit (.slice none 0 0)]) (aB (aC (aC (aA (ta (.i 0) (aB (bA ?_)))))));refine bR (S := Int × (List (List Int)) × (List Int) × (List Value) × Value) [1, 2, 4, 6, 8] (fun s7 => [(9, .i s7.1)]) (fun s7 => [.box b1 0 (bI A), .box b2 0 (cP (aT.mk ([] : List Int) ([] : List (List Int)))), .fam 3 1 s7.2.2.2.1 (s7.2.1.map fun r => r.map aK), .arr s7.2.2.2.2 22 1 (s7.2.2.2.1.map fun v => [.lit v]), .box b6 0 [.sl 1 (s7.2.2.1.map aK), .lit s7.2.2.2.2]]) (fun k s7 => iH U r3.1 A (aT.mk ([] : List Int) ([] : List (List Int))) k s7.1 s7.2.1 s7.2.2.1) (fun _ => rfl) (0, ([] : List (List Int)), r3.1, [], (.slice none 0 0)) h (aP [0, 1, 4, 3, 2] rfl rfl (aI rfl (aN ⟨rfl, rfl, rfl, rfl, rfl, trivial⟩))) ?_;rintro d4 ⟨s, T, e, N, w9⟩ h;simp only [iH] at h;refine aC (aC (aA (tm (.i s) (tfl 0 rfl rfl jI rfl aU (to (scm rfl rfl rfl) (aB ?_))))));refine tih h (fun d5 h => ?_) (fun d5 h => ?_)
  ·refine aV (aC (bA (aC (aA (to (eY 3 1 (.inl rfl) (aE rfl)) ?_)))));refine aB (aC (aC (aA (ta (.i 0) (aB (bA ?_))))));refine bR (S := Int × (List Int) × Value) [1, 2, 4, 6, 8, 9] (fun O => [(10, .d (.lit O.2.2)), (11, .i O.1)]) (fun O => [.box b1 0 (bI A), .box b2 0 (cP (aT.mk ([] : List Int) ([] : List (List Int)))), .fam 3 1 N (T.map fun r => r.map aK), .arr w9 22 1 (N.map fun v => [.lit v]), .box b6 0 [.sl 1 (e.map aK), .lit w9], .arr O.2.2 3 1 (O.2.1.map aK)]) (fun k O => fD (iH U r3.1 A (aT.mk ([] : List Int) ([] : List (List Int))) d4) U r3.1 s A (aT.mk ([] : List Int) ([] : List (List Int))) T e k O.1 O.2.1) (fun _ => rfl) (0, ([] : List Int), (.slice none 0 0)) h (aP [0, 1, 2, 3, 4, 5] rfl rfl (aI rfl (aI rfl (aN ⟨rfl, rfl, rfl, rfl, rfl, rfl, trivial⟩)))) ?_;rintro i1 ⟨j, d0, J⟩ h;simp only [fD] at h;refine aC (aC (aA (tm (.i j) (to (sla 0 (bI A) rfl rfl nJ) (tm (.i s) ?_)))));obtain ⟨i2, d6, h⟩ := bns h;refine to (scr Tryz.call44 (zB _ _ d6)) (to (scm rfl rfl rfl) (aB ?_));refine tih h (fun d7 h => ?_) (fun d7 h => ?_)
   ·refine aV (aC (bA (aC (aA (ta (.i (-2)) (aB (aC (aC (aA (tm (.i s) (to (scm rfl rfl rfl) (tm (.b (decide (s = 0))) ?_))))))))))));obtain ⟨d8, V, h⟩ := bns h;refine bD 7 [1, 2, 4, 6, 8, 9, 10, 11, 12] 55 d8 ?_ ?_
    ·refine bch V (fun z V => ?_) (fun z V => ?_)
     ·refine tk z (sm (.d (.sl 1 (r3.1.map aK)))) (tk z (sm (.i j)) (tk z (sar rfl rfl rfl) ?_));obtain ⟨d9, e0, V⟩ := bns V;refine tk z (six rfl rfl bL.of (aX aK e0)) (tk z (slc rfl aU) (tk z (scm rfl rfl rfl) (to (spt (.b (decide (d9 = (-1)))) z) ?_)));obtain rfl := sIn V;refine aB (aO rfl ⟨rfl, rfl, rfl, rfl, rfl, rfl, rfl, rfl, rfl, trivial⟩ rfl)
     ·refine tp z (tp z (tp z (tp z (tp z (tp z (to (spf (.b false) z) ?_))))));obtain rfl := sIn V;refine aB (aO rfl ⟨rfl, rfl, rfl, rfl, rfl, rfl, rfl, rfl, rfl, trivial⟩ rfl)
    ·refine aB ?_;refine tih h (fun e1 h => ?_) (fun e1 h => ?_)
     ·refine aA (tm (.d (.sl 1 (r3.1.map aK))) (tm (.i j) (to (sar rfl rfl rfl) (to (sar rfl rfl rfl) ?_))));obtain ⟨b3, e2, h⟩ := bns h;refine to (six rfl rfl bL.of (aX aK e2)) (to (slc rfl aU) (ta (.i b3) (aB (aC (aC (aA (tm (.i s) (to (scm rfl rfl rfl) (tm (.b (decide (s = 0))) ?_)))))))));obtain ⟨e3, W, h⟩ := bns h;refine bD 8 [1, 2, 4, 6, 8, 9, 10, 11, 12] 72 e3 ?_ ?_
      ·refine bch W (fun u W => ?_) (fun u W => ?_)
       ·refine tk u (sm (.d (.sl 1 (r3.1.map aK)))) (tk u (sm (.i j)) (tk u (sar rfl rfl rfl) (tk u (sar rfl rfl rfl) ?_)));obtain ⟨e4, e5, W⟩ := bns W;refine tk u (six rfl rfl bL.of (aX aK e5)) (tk u (slc rfl aU) (tk u (scm rfl rfl rfl) (to (spt (.b (decide (e4 = (-1)))) u) ?_)));obtain rfl := sIn W;refine aB (aO rfl ⟨rfl, rfl, rfl, rfl, rfl, rfl, rfl, rfl, rfl, trivial⟩ rfl)
       ·refine tp u (tp u (tp u (tp u (tp u (tp u (tp u (to (spf (.b false) u) ?_)))))));obtain rfl := sIn W;refine aB (aO rfl ⟨rfl, rfl, rfl, rfl, rfl, rfl, rfl, rfl, rfl, trivial⟩ rfl)
      ·refine aB ?_;refine tih h (fun e6 h => ?_) (fun e6 h => ?_)
       ·refine aA (tm (.d (.sl 1 (r3.1.map aK))) (tm (.i j) (to (sar rfl rfl rfl) ?_)));obtain ⟨b4, e7, h⟩ := bns h;refine to (six rfl rfl bL.of (aX aK e7)) (to (slc rfl aU) (ta (.i b4) (aB (aA (tm (.d (.lit J)) (tm (.i b4) (to (eK (aE rfl) bL rfl rfl (rows := ([b4]).map aK) rfl (bZ (f := aK) fun _ => rfl) rfl (by decide)) ?_)))))));obtain ⟨e8, e9, h⟩ := bns h;refine bB rfl (dN (i := 5) (aE rfl) bL rfl rfl rfl (fun _ => rfl) e9 rfl) ?_;rintro _ ⟨c2, rfl⟩;refine ta (.d (.lit c2)) ?_;refine cS ?_;refine aA (tm (.i j) (to (sar rfl rfl rfl) (ta (.i (w64 (j + 1))) (aB ?_))));exact ⟨(w64 (j + 1), e8, c2), h, aP [0, 1, 2, 3, 4, 5] rfl rfl (aI rfl (aI rfl (aN ⟨rfl, rfl, rfl, rfl, rfl, rfl, trivial⟩)))⟩
       ·refine aV (aA (tm (.d (.lit J)) (tm (.i b3) (to (eK (aE rfl) bL rfl rfl (rows := ([b3]).map aK) rfl (bZ (f := aK) fun _ => rfl) rfl (by decide)) ?_))));obtain ⟨f0, f1, h⟩ := bns h;refine bB rfl (dN (i := 5) (aE rfl) bL rfl rfl rfl (fun _ => rfl) f1 rfl) ?_;rintro _ ⟨c3, rfl⟩;refine ta (.d (.lit c3)) ?_;refine cS ?_;refine aA (tm (.i j) (to (sar rfl rfl rfl) (ta (.i (w64 (j + 1))) (aB ?_))));exact ⟨(w64 (j + 1), f0, c3), h, aP [0, 1, 2, 3, 4, 5] rfl rfl (aI rfl (aI rfl (aN ⟨rfl, rfl, rfl, rfl, rfl, rfl, trivial⟩)))⟩
     ·refine aV (aC (aC (aA (tm (.i s) (to (scm rfl rfl rfl) (tm (.b (decide (s = 0))) ?_))))));obtain ⟨f2, X, h⟩ := bns h;refine bD 8 [1, 2, 4, 6, 8, 9, 10, 11, 12] 72 f2 ?_ ?_
      ·refine bch X (fun w X => ?_) (fun w X => ?_)
       ·refine tk w (sm (.d (.sl 1 (r3.1.map aK)))) (tk w (sm (.i j)) (tk w (sar rfl rfl rfl) (tk w (sar rfl rfl rfl) ?_)));obtain ⟨f3, f4, X⟩ := bns X;refine tk w (six rfl rfl bL.of (aX aK f4)) (tk w (slc rfl aU) (tk w (scm rfl rfl rfl) (to (spt (.b (decide (f3 = (-1)))) w) ?_)));obtain rfl := sIn X;refine aB (aO rfl ⟨rfl, rfl, rfl, rfl, rfl, rfl, rfl, rfl, rfl, trivial⟩ rfl)
       ·refine tp w (tp w (tp w (tp w (tp w (tp w (tp w (to (spf (.b false) w) ?_)))))));obtain rfl := sIn X;refine aB (aO rfl ⟨rfl, rfl, rfl, rfl, rfl, rfl, rfl, rfl, rfl, trivial⟩ rfl)
      ·refine aB ?_;refine tih h (fun f5 h => ?_) (fun f5 h => ?_)
       ·refine aA (tm (.d (.sl 1 (r3.1.map aK))) (tm (.i j) (to (sar rfl rfl rfl) ?_)));obtain ⟨b5, f6, h⟩ := bns h;refine to (six rfl rfl bL.of (aX aK f6)) (to (slc rfl aU) (ta (.i b5) (aB (aA (tm (.d (.lit J)) (tm (.i b5) (to (eK (aE rfl) bL rfl rfl (rows := ([b5]).map aK) rfl (bZ (f := aK) fun _ => rfl) rfl (by decide)) ?_)))))));obtain ⟨f7, f8, h⟩ := bns h;refine bB rfl (dN (i := 5) (aE rfl) bL rfl rfl rfl (fun _ => rfl) f8 rfl) ?_;rintro _ ⟨c4, rfl⟩;refine ta (.d (.lit c4)) ?_;refine cS ?_;refine aA (tm (.i j) (to (sar rfl rfl rfl) (ta (.i (w64 (j + 1))) (aB ?_))));exact ⟨(w64 (j + 1), f7, c4), h, aP [0, 1, 2, 3, 4, 5] rfl rfl (aI rfl (aI rfl (aN ⟨rfl, rfl, rfl, rfl, rfl, rfl, trivial⟩)))⟩
       ·refine aV (aA (tm (.d (.lit J)) (tm (.i (-2)) (to (eK (aE rfl) bL rfl rfl (rows := ([(-2)]).map aK) rfl (bZ (f := aK) fun _ => rfl) rfl (by decide)) ?_))));obtain ⟨f9, g0, h⟩ := bns h;refine bB rfl (dN (i := 5) (aE rfl) bL rfl rfl rfl (fun _ => rfl) g0 rfl) ?_;rintro _ ⟨c6, rfl⟩;refine ta (.d (.lit c6)) ?_;refine cS ?_;refine aA (tm (.i j) (to (sar rfl rfl rfl) (ta (.i (w64 (j + 1))) (aB ?_))));exact ⟨(w64 (j + 1), f9, c6), h, aP [0, 1, 2, 3, 4, 5] rfl rfl (aI rfl (aI rfl (aN ⟨rfl, rfl, rfl, rfl, rfl, rfl, trivial⟩)))⟩
   ·refine bX ?_;refine .inl ⟨rfl, ?_⟩;simp only [mD] at h;refine aA (tfl 4 rfl rfl xW rfl aIz (tm (.d (.lit J)) (to (eK (aE rfl) aKb rfl rfl (rows := [[.lit J]]) rfl (fun r hr => by cases hr with | head => rfl | tail _ h => cases h) rfl (by decide)) ?_)));obtain ⟨c7, c8, h⟩ := bns h;refine bB rfl (aRg (m := 3) (f := 2) (aE rfl) aKb rfl rfl rfl rfl c8 rfl) ?_;rintro _ ⟨a9, rfl⟩;refine jD (aSh (i := 2) [.box b1 0 (bI A), .box b2 0 (cP (aT.mk ([] : List Int) ([] : List (List Int)))), .fam 3 1 N (T.map fun r => r.map aK), .arr a9 22 1 ((N ++ [J]).map fun v => [.lit v]), .box b6 0 [.sl 1 (e.map aK), .lit w9]] [.box b1 0 (bI A), .box b2 0 (cP (aT.mk ([] : List Int) ([] : List (List Int)))), .fam 3 1 (N ++ [J]) (c7.map fun r => r.map aK), .arr a9 22 1 ((N ++ [J]).map fun v => [.lit v]), .box b6 0 [.sl 1 (e.map aK), .lit w9]] rfl rfl c8 rfl) ?_;refine to (sf rfl xW) (to (sst 4 rfl rfl Tryz.sizeOf32 [.sl 1 (e.map aK), .lit a9]) ?_);refine cS ?_;simp only [vE] at h;refine aA (tm (.i s) (to (sar rfl rfl rfl) (ta (.i (w64 (s + 1))) (aB ?_))));exact ⟨(w64 (s + 1), c7, e, (N ++ [J]), a9), h, aP [0, 1, 2, 3, 4] rfl rfl (aI rfl (aN ⟨rfl, rfl, rfl, rfl, rfl, trivial⟩))⟩
  ·refine bX ?_;refine .inl ⟨rfl, ?_⟩;simp only [mC] at h;refine aC (aA (tm (.d (.sl 5 (U.map aJ))) ?_));obtain ⟨C, g1, h⟩ := bns h;refine to (eX (aE rfl) (.func _ _ Tryz.call42) rfl rfl (aAz _ g1)) ?_;refine ta (.d (.sl 5 (C.map aJ))) (aB (aC (aC (aA (ta (.i 0) (aB (bA ?_)))))));refine bR (S := Int × aT × (List (List Int)) × (List Value)) [4, 6, 8, 13] (fun K => [(14, .i K.1)]) (fun K => [.box b2 0 (cP K.2.1), .fam 3 1 K.2.2.2 (K.2.2.1.map fun r => r.map aK), .arr w9 22 1 (K.2.2.2.map fun v => [.lit v]), .box b6 0 [.sl 1 (e.map aK), .lit w9]]) (fun k K => dK r3.1 C e k K.1 K.2.1 K.2.2.1) (fun _ => rfl) (0, (aT.mk ([] : List Int) ([] : List (List Int))), T, N) h (aP [1, 2, 3, 4] rfl rfl (aI rfl (aN ⟨rfl, rfl, rfl, rfl, trivial⟩))) ?_;rintro b7 ⟨p, a0, t, x⟩ h;simp only [dK] at h;refine aC (aC (aA (tm (.i p) (tm (.d (.sl 5 (C.map aJ))) (to (sle rfl eL.of) (to (scm rfl rfl rfl) (aB ?_)))))));refine tih h (fun g2 h => ?_) (fun g2 h => ?_)
   ·refine aV (aC (bA (aC (aA (tm (.d (.sl 5 (C.map aJ))) (tm (.i p) ?_))))));obtain ⟨n, g3, h⟩ := bns h;refine to (six rfl rfl eL.of (aX aJ g3)) (to (rO (aJ n) rfl mA) ?_);refine bB rfl (cR (zs := [.lit (.int .i64 0), .lit (.int .i64 0), .lit (.int .i64 0), .lit (.int .i64 0), .lit (.int .i64 0)]) (aE rfl) Tryz.zeroValue67 rfl rfl) ?_;rintro _ ⟨M, rfl⟩;refine to (sst 4 rfl rfl Tryz.sizeOf67 (aJ n)) (aB (aC (aC (aA (tfl 4 rfl rfl pG rfl aU (to (scm rfl rfl rfl) (aB ?_)))))));refine tih h (fun g4 h => ?_) (fun g4 h => ?_)
    ·refine bX ?_;refine .inl ⟨rfl, ?_⟩;simp only [mE] at h;refine aA (tm (.i p) (to (sar rfl rfl rfl) (ta (.i (w64 (p + 1))) (aB ?_))));exact ⟨(w64 (p + 1), a0, t, x), h, aP [0, 1, 2, 3] rfl rfl (aI rfl (aN ⟨rfl, rfl, rfl, rfl, trivial⟩))⟩
    ·refine aV (aC (aC (aA (ta (.i 0) (aB (bA ?_))))));refine bR (S := Int × aT) [4, 6, 8, 13, 14, 15] (fun a1 => [(16, .i a1.1)]) (fun a1 => [.box b2 0 (cP a1.2), .fam 3 1 x (t.map fun r => r.map aK), .arr w9 22 1 (x.map fun v => [.lit v]), .box b6 0 [.sl 1 (e.map aK), .lit w9], .box M 0 (aJ n)]) (fun k a1 => jA (dK r3.1 C e b7) r3.1 C p t e n k a1.1 a1.2) (fun _ => rfl) (0, a0) h (aP [0, 1, 2, 3, 4] rfl rfl (aI rfl (aN ⟨rfl, rfl, rfl, rfl, rfl, rfl, trivial⟩))) ?_;rintro i3 ⟨E, H⟩ h;simp only [jA] at h;refine aC (aC (aA (tm (.i E) (tm (.i p) (to (scm rfl rfl rfl) (aB ?_))))));refine tih h (fun g5 h => ?_) (fun g5 h => ?_)
     ·refine aV (aC (bA (aC (aA (tm (.d (.sl 5 (C.map aJ))) (tm (.i E) ?_))))));obtain ⟨a2, g6, h⟩ := bns h;refine to (six rfl rfl eL.of (aX aJ g6)) (to (rO (aJ a2) rfl mA) ?_);refine bB rfl (cR (zs := [.lit (.int .i64 0), .lit (.int .i64 0), .lit (.int .i64 0), .lit (.int .i64 0), .lit (.int .i64 0)]) (aE rfl) Tryz.zeroValue67 rfl rfl) ?_;rintro _ ⟨g7, rfl⟩;refine to (sst 5 rfl rfl Tryz.sizeOf67 (aJ a2)) (aB (aC (aA (tfl 5 rfl rfl pG rfl aU (to (scm rfl rfl rfl) (tm (.b (!decide (a2.Kind = 5))) ?_))))));obtain ⟨c9, a7, h⟩ := bns h;refine bD 6 [4, 6, 8, 13, 14, 15, 16, 17] 121 c9 ?_ ?_
      ·refine bch a7 (fun F a7 => ?_) (fun F a7 => ?_)
       ·refine tkl 5 F rfl rfl rE rfl aU (tkl 4 F rfl rfl rE rfl aU (tk F (scm rfl rfl rfl) (to (spt (.b (decide (a2.Round = n.Round))) F) ?_)));obtain rfl := sIn a7;refine aB (aO rfl ⟨rfl, rfl, rfl, rfl, rfl, rfl, rfl, rfl, trivial⟩ rfl)
       ·refine tp F (tp F (tp F (tp F (tp F (to (spf (.b false) F) ?_)))));obtain rfl := sIn a7;refine aB (aO rfl ⟨rfl, rfl, rfl, rfl, rfl, rfl, rfl, rfl, trivial⟩ rfl)
      ·refine tm (.b c9) ?_;obtain ⟨g8, a8, h⟩ := bns h;refine bD 6 [4, 6, 8, 13, 14, 15, 16] 128 g8 ?_ ?_
       ·refine bch a8 (fun G a8 => ?_) (fun G a8 => ?_)
        ·refine tkl 5 G rfl rfl lT rfl aU (tkl 4 G rfl rfl lT rfl aU (tk G (scm rfl rfl rfl) (to (spt (.b (decide (a2.Place = n.Place))) G) ?_)));obtain rfl := sIn a8;refine aB (aO rfl ⟨rfl, rfl, rfl, rfl, rfl, rfl, rfl, trivial⟩ rfl)
        ·refine tp G (tp G (tp G (tp G (tp G (to (spf (.b false) G) ?_)))));obtain rfl := sIn a8;refine aB (aO rfl ⟨rfl, rfl, rfl, rfl, rfl, rfl, rfl, trivial⟩ rfl)
       ·refine aB ?_;refine tih h (fun g9 h => ?_) (fun g9 h => ?_)
        ·refine aC (aA (to (dZ (aE rfl) aFh (zs := [.sl 1 ((([] : List Int)).map aK), .sl 1 ((([] : List (List Int))).map qQ)]) rfl rfl rfl rfl (es := [.sl 1 ((([] : List Int)).map aK), .sl 1 ((([] : List (List Int))).map qQ)]) rfl) ?_));refine to (sst 0 rfl rfl Tryz.sizeOf126 (cP (aT.mk ([] : List Int) ([] : List (List Int))))) (ta (.b false) (aB ?_));obtain rfl := sIn h;exact aY ⟨rfl, _, [.box b2 0 (cP (aT.mk ([] : List Int) ([] : List (List Int)))), .fam 3 1 x (t.map fun r => r.map aK), .arr w9 22 1 (x.map fun v => [.lit v]), .box b6 0 [.sl 1 (e.map aK), .lit w9], .box M 0 (aJ n), .box g7 0 (aJ a2)], .two (.cell 4 126 rfl (i := 0) rfl aBt (es := (cP (aT.mk ([] : List Int) ([] : List (List Int))))) rfl rfl) (.tmp 5 (v := .b false) rfl), .refl _, .same _⟩
        ·refine cU ?_;refine aA (tm (.i E) (to (sar rfl rfl rfl) (ta (.i (w64 (E + 1))) (aB ?_))));exact ⟨(w64 (E + 1), H), h, aP [0, 1, 2, 3, 4] rfl rfl (aI rfl (aN ⟨rfl, rfl, rfl, rfl, rfl, rfl, trivial⟩))⟩
     ·refine bX ?_;refine .inl ⟨rfl, ?_⟩;simp only [rR] at h;refine aC (aA (ta (.i (-1)) (aB (aC (aC (aA (ta (.i 0) (aB (bA ?_)))))))));refine bR (S := Int × Int) [4, 6, 8, 13, 14, 15] (fun a3 => [(18, .i a3.1), (19, .i a3.2)]) (fun a3 => [.box b2 0 (cP H), .fam 3 1 x (t.map fun r => r.map aK), .arr w9 22 1 (x.map fun v => [.lit v]), .box b6 0 [.sl 1 (e.map aK), .lit w9], .box M 0 (aJ n)]) (fun k a3 => eS (dK r3.1 C e b7) r3.1 C p H t e n k a3.1 a3.2) (fun _ => rfl) ((-1), 0) h (aP [0, 1, 2, 3, 4] rfl rfl (aI rfl (aI rfl (aN ⟨rfl, rfl, rfl, rfl, rfl, rfl, trivial⟩)))) ?_;rintro i4 ⟨c, q⟩ h;simp only [eS] at h;refine aC (aC (aA (tm (.i q) (tm (.d (.sl 1 (r3.1.map aK))) (to (sle rfl bL.of) (to (scm rfl rfl rfl) (aB ?_)))))));refine tih h (fun h0 h => ?_) (fun h0 h => ?_)
      ·refine aV (aC (bA (aC ?_)));obtain ⟨b8, h1, h⟩ := bns h;refine cT mix 6 [4, 6, 8, 13, 14, 15, 18, 19] [(139, .i b8), (141, .i n.Player)] ?_ ?_
       ·refine ⟨[(136, 0, .d (.sl 1 (r3.1.map aK))), (137, 1, .i q), (138, 2, .cp [.lit (.int .i64 b8)]), (139, 3, .i b8), (140, 4, .bp M 0 3), (141, 5, .i n.Player)], ?_, ?_⟩
        · exact dok [([], []), ([], []), ([0, 1], []), ([2], []), ([], []), ([4], [])] ⟨go (zm (.d (.sl 1 (r3.1.map aK)))),
      go (zm (.i q)),
      go (zix rfl rfl bL.of (aX aK h1)),
      go (zlc rfl aU),
      go (zf rfl pH),
      go (zl 4 rfl rfl rfl aU), trivial⟩
        · exact cI (aI rfl (aI rfl (aN ⟨rfl, rfl, rfl, rfl, rfl, rfl, rfl, rfl, trivial⟩)))
       ·refine to (scm rfl rfl rfl) (aB ?_);refine tih h (fun h2 h => ?_) (fun h2 h => ?_)
        ·refine aA (tm (.i q) (ta (.i q) ?_));refine cS ?_;refine aA (tm (.i q) (to (sar rfl rfl rfl) (ta (.i (w64 (q + 1))) (aB ?_))));exact ⟨(q, w64 (q + 1)), h, aP [0, 1, 2, 3, 4] rfl rfl (aI rfl (aI rfl (aN ⟨rfl, rfl, rfl, rfl, rfl, rfl, trivial⟩)))⟩
        ·refine cU ?_;refine aA (tm (.i q) (to (sar rfl rfl rfl) (ta (.i (w64 (q + 1))) (aB ?_))));exact ⟨(c, w64 (q + 1)), h, aP [0, 1, 2, 3, 4] rfl rfl (aI rfl (aI rfl (aN ⟨rfl, rfl, rfl, rfl, rfl, rfl, trivial⟩)))⟩
      ·refine bX ?_;refine .inl ⟨rfl, ?_⟩;simp only [iZ] at h;refine aC (aC (aA (tm (.i c) (to (scm rfl rfl rfl) (tm (.b (decide (c < 0))) ?_)))));obtain ⟨h3, Y, h⟩ := bns h;refine bD 10 [4, 6, 8, 13, 14, 15, 18] 156 h3 ?_ ?_
       ·refine bch Y (fun o Y => ?_) (fun o Y => ?_)
        ·refine tp o (tp o (tp o (tp o (tp o (tp o (tp o (tp o (tp o (to (spt (.b true) o) ?_)))))))));obtain rfl := sIn Y;refine aB (aO rfl ⟨rfl, rfl, rfl, rfl, rfl, rfl, rfl, trivial⟩ rfl)
        ·refine tk o (sm (.i c)) (tkl 4 o rfl rfl rE rfl aU (tk o (sar rfl rfl rfl) (tk o (rV (aE rfl) rfl Tryz.runUnderlying3 Tryz.runUnderlying113) ?_)));obtain ⟨h8, d1, Y⟩ := bns Y;refine tk o (aBo (aE rfl) rfl rfl (aDn d1)) ?_;refine tkl 4 o rfl rfl lT rfl aU (tk o (scm rfl rfl rfl) (to (spf (.b (!decide ((c.fdiv (2 ^ (min (uw (w64 (n.Round + 1))).toNat 64))) = n.Place))) o) ?_));obtain rfl := sIn Y;refine aB (aO rfl ⟨rfl, rfl, rfl, rfl, rfl, rfl, rfl, trivial⟩ rfl)
       ·refine aB ?_;refine tih h (fun h5 h => ?_) (fun h5 h => ?_)
        ·refine aC (aA (to (dZ (aE rfl) aFh (zs := [.sl 1 ((([] : List Int)).map aK), .sl 1 ((([] : List (List Int))).map qQ)]) rfl rfl rfl rfl (es := [.sl 1 ((([] : List Int)).map aK), .sl 1 ((([] : List (List Int))).map qQ)]) rfl) ?_));refine to (sst 0 rfl rfl Tryz.sizeOf126 (cP (aT.mk ([] : List Int) ([] : List (List Int))))) (ta (.b false) (aB ?_));obtain rfl := sIn h;exact aY ⟨rfl, _, [.box b2 0 (cP (aT.mk ([] : List Int) ([] : List (List Int)))), .fam 3 1 x (t.map fun r => r.map aK), .arr w9 22 1 (x.map fun v => [.lit v]), .box b6 0 [.sl 1 (e.map aK), .lit w9], .box M 0 (aJ n)], .two (.cell 4 126 rfl (i := 0) rfl aBt (es := (cP (aT.mk ([] : List Int) ([] : List (List Int))))) rfl rfl) (.tmp 5 (v := .b false) rfl), .refl _, .same _⟩
        ·refine aV (aC (aA (ta (.i 0) (aB ?_))));refine wJ ?_;refine bR (S := Int × aT × (List (List Int)) × (List Value)) [4, 6, 8, 13, 14, 15, 18] (fun L => [(20, .i L.1)]) (fun L => [.box b2 0 (cP L.2.1), .fam 3 1 L.2.2.2 (L.2.2.1.map fun r => r.map aK), .arr w9 22 1 (L.2.2.2.map fun v => [.lit v]), .box b6 0 [.sl 1 (e.map aK), .lit w9], .box M 0 (aJ n)]) (fun k L => iQ (dK r3.1 C e b7) r3.1 C p c e n k L.1 L.2.1 L.2.2.1) (fun _ => rfl) (0, H, t, x) h (aP [0, 1, 2, 3, 4] rfl rfl (aI rfl (aN ⟨rfl, rfl, rfl, rfl, rfl, rfl, rfl, trivial⟩))) ?_;rintro i5 ⟨a, Z, I, y⟩ h;simp only [iQ] at h;refine aC (aC (aA (tm (.i a) (tfl 4 rfl rfl rE rfl aU (to (scm rfl rfl rfl) (aB ?_))))));refine tih h (fun h6 h => ?_) (fun h6 h => ?_)
         ·refine aV (aC (bA (aC (aA (tm (.i c) (tm (.i a) (to (sar rfl rfl rfl) (to (rV (aE rfl) rfl Tryz.runUnderlying3 Tryz.runUnderlying113) ?_))))))));obtain ⟨i6, h7, h⟩ := bns h;refine to (aBo (aE rfl) rfl rfl (aDn h7)) ?_;refine ta (.i (c.fdiv (2 ^ (min (uw (w64 (a + 1))).toNat 64)))) (aB (aC (aC ?_)));obtain ⟨i7, P, h⟩ := bns h;obtain ⟨Q, b0, h⟩ := bns h;obtain ⟨d2, B, h⟩ := bns h;refine cT mix 22 [4, 6, 8, 13, 14, 15, 18, 20, 21] [(190, .b d2)] ?_ ?_
          ·refine bch B (fun l B => ?_) (fun l B => ?_)
           ·obtain ⟨h9, a4, B⟩ := bns B;obtain ⟨a5, b9, B⟩ := bns B;obtain rfl := sIn B;refine ⟨[(169, 0, .bp b6 0 1), (170, 1, .d (.lit w9)), (171, 2, .i a), (172, 3, .ep w9 1 a.toNat 0), (173, 4, .d (.lit (xI y a))), (174, 5, .i (c.fdiv (2 ^ (min (uw (w64 (a + 1))).toNat 64)))), (175, 6, .ep (xI y a) 1 (c.fdiv (2 ^ (min (uw (w64 (a + 1))).toNat 64))).toNat 0), (176, 7, .i Q), (177, 8, .b (!decide (Q = (-2)))), (178, 9, .b (!decide (Q = (-2)))), (179, 10, .bp b6 0 1), (180, 11, .d (.lit w9)), (181, 12, .i a), (182, 13, .ep w9 1 a.toNat 0), (183, 14, .d (.lit (xI y a))), (184, 15, .i (c.fdiv (2 ^ (min (uw (w64 (a + 1))).toNat 64)))), (185, 16, .ep (xI y a) 1 (c.fdiv (2 ^ (min (uw (w64 (a + 1))).toNat 64))).toNat 0), (186, 17, .i a5), (187, 18, .bp M 0 3), (188, 19, .i n.Player), (189, 20, .b (!decide (a5 = n.Player))), (190, 21, .b (!decide (a5 = n.Player)))], ?_, ?_⟩
            · exact dok [([], []), ([0], []), ([], []), ([1, 2], []), ([3], []), ([], []), ([4, 5], []), ([6], []), ([7], []), ([8], []), ([9], []), ([9, 10], []), ([9], []), ([9, 11, 12], []), ([9, 13], []), ([9], []), ([9, 14, 15], []), ([9, 16], []), ([9], []), ([9, 18], []), ([9, 17, 19], []), ([9, 20], [])] ⟨go (zf rfl xW),
      go (zl 3 rfl rfl rfl aIz),
      go (zm (.i a)),
      go fun S hS => yS (m := 2) (f := 1) (aE rfl) (aR hS rfl) rfl rfl (aR hS rfl) aKb.of P,
      go fun S hS => aAb (m := 2) (f := 1) (aE rfl) (aR hS rfl) rfl rfl P cQ,
      go (zm (.i (c.fdiv (2 ^ (min (uw (w64 (a + 1))).toNat 64))))),
      go fun S hS => aAa (f := 1) (g := aK) (aE rfl) (aR hS rfl) rfl P (aR hS rfl) bL.of b0,
      go fun S hS => aGo (f := 1) (g := aK) (aE rfl) (aR hS rfl) rfl P b0 rfl aU,
      go (zcm rfl rfl rfl),
      go (zm (.b (!decide (Q = (-2))))),
      gt l (zf rfl xW),
      gt l (zl 3 rfl rfl rfl aIz),
      gt l (zm (.i a)),
      gt l fun S hS => yS (m := 2) (f := 1) (aE rfl) (aR hS rfl) rfl rfl (aR hS rfl) aKb.of a4,
      gt l fun S hS => aAb (m := 2) (f := 1) (aE rfl) (aR hS rfl) rfl rfl a4 cQ,
      gt l (zm (.i (c.fdiv (2 ^ (min (uw (w64 (a + 1))).toNat 64))))),
      gt l fun S hS => aAa (f := 1) (g := aK) (aE rfl) (aR hS rfl) rfl a4 (aR hS rfl) bL.of b9,
      gt l fun S hS => aGo (f := 1) (g := aK) (aE rfl) (aR hS rfl) rfl a4 b9 rfl aU,
      gt l (zf rfl pH),
      gt l (zl 4 rfl rfl rfl aU),
      gt l (zcm rfl rfl rfl),
      go (zpt (.b (!decide (a5 = n.Player))) l), trivial⟩
            · exact cI (aI rfl (aN ⟨rfl, rfl, rfl, rfl, rfl, rfl, rfl, rfl, rfl, trivial⟩))
           ·obtain rfl := sIn B;refine ⟨[(169, 0, .bp b6 0 1), (170, 1, .d (.lit w9)), (171, 2, .i a), (172, 3, .ep w9 1 a.toNat 0), (173, 4, .d (.lit (xI y a))), (174, 5, .i (c.fdiv (2 ^ (min (uw (w64 (a + 1))).toNat 64)))), (175, 6, .ep (xI y a) 1 (c.fdiv (2 ^ (min (uw (w64 (a + 1))).toNat 64))).toNat 0), (176, 7, .i Q), (177, 8, .b (!decide (Q = (-2)))), (178, 9, .b (!decide (Q = (-2)))), (179, 10, .tup []), (180, 11, .tup []), (181, 12, .tup []), (182, 13, .tup []), (183, 14, .tup []), (184, 15, .tup []), (185, 16, .tup []), (186, 17, .tup []), (187, 18, .tup []), (188, 19, .tup []), (189, 20, .tup []), (190, 21, .b false)], ?_, ?_⟩
            · exact dok [([], []), ([0], []), ([], []), ([1, 2], []), ([3], []), ([], []), ([4, 5], []), ([6], []), ([7], []), ([8], []), ([9], []), ([9, 10], []), ([9], []), ([9, 11, 12], []), ([9, 13], []), ([9], []), ([9, 14, 15], []), ([9, 16], []), ([9], []), ([9, 18], []), ([9, 17, 19], []), ([9, 20], [])] ⟨go (zf rfl xW),
      go (zl 3 rfl rfl rfl aIz),
      go (zm (.i a)),
      go fun S hS => yS (m := 2) (f := 1) (aE rfl) (aR hS rfl) rfl rfl (aR hS rfl) aKb.of P,
      go fun S hS => aAb (m := 2) (f := 1) (aE rfl) (aR hS rfl) rfl rfl P cQ,
      go (zm (.i (c.fdiv (2 ^ (min (uw (w64 (a + 1))).toNat 64))))),
      go fun S hS => aAa (f := 1) (g := aK) (aE rfl) (aR hS rfl) rfl P (aR hS rfl) bL.of b0,
      go fun S hS => aGo (f := 1) (g := aK) (aE rfl) (aR hS rfl) rfl P b0 rfl aU,
      go (zcm rfl rfl rfl),
      go (zm (.b (!decide (Q = (-2))))),
      gp l,
      gp l,
      gp l,
      gp l,
      gp l,
      gp l,
      gp l,
      gp l,
      gp l,
      gp l,
      gp l,
      go (zpf (.b false) l), trivial⟩
            · exact cI (aI rfl (aN ⟨rfl, rfl, rfl, rfl, rfl, rfl, rfl, rfl, rfl, trivial⟩))
          ·refine aB ?_;refine tih h (fun d3 h => ?_) (fun d3 h => ?_)
           ·refine aC (aA (to (dZ (aE rfl) aFh (zs := [.sl 1 ((([] : List Int)).map aK), .sl 1 ((([] : List (List Int))).map qQ)]) rfl rfl rfl rfl (es := [.sl 1 ((([] : List Int)).map aK), .sl 1 ((([] : List (List Int))).map qQ)]) rfl) ?_));refine to (sst 0 rfl rfl Tryz.sizeOf126 (cP (aT.mk ([] : List Int) ([] : List (List Int))))) (ta (.b false) (aB ?_));obtain rfl := sIn h;exact aY ⟨rfl, _, [.box b2 0 (cP (aT.mk ([] : List Int) ([] : List (List Int)))), .fam 3 1 y (I.map fun r => r.map aK), .arr w9 22 1 (y.map fun v => [.lit v]), .box b6 0 [.sl 1 (e.map aK), .lit w9], .box M 0 (aJ n)], .two (.cell 4 126 rfl (i := 0) rfl aBt (es := (cP (aT.mk ([] : List Int) ([] : List (List Int))))) rfl rfl) (.tmp 5 (v := .b false) rfl), .refl _, .same _⟩
           ·refine aV ?_;obtain ⟨c0, a6, h⟩ := bns h;refine cT mix 8 [4, 6, 8, 13, 14, 15, 18, 20] [(196, .d (.lit (xI y a))), (197, .i (c.fdiv (2 ^ (min (uw (w64 (a + 1))).toNat 64)))), (199, .i n.Player)] ?_ ?_
            ·refine ⟨[(192, 0, .bp b6 0 1), (193, 1, .d (.lit w9)), (194, 2, .i a), (195, 3, .ep w9 1 a.toNat 0), (196, 4, .d (.lit (xI y a))), (197, 5, .i (c.fdiv (2 ^ (min (uw (w64 (a + 1))).toNat 64)))), (198, 6, .bp M 0 3), (199, 7, .i n.Player)], ?_, ?_⟩
             · exact dok [([], []), ([0], []), ([], []), ([1, 2], []), ([3], []), ([], []), ([], []), ([6], [])] ⟨go (zf rfl xW),
      go (zl 3 rfl rfl rfl aIz),
      go (zm (.i a)),
      go fun S hS => yS (m := 2) (f := 1) (aE rfl) (aR hS rfl) rfl rfl (aR hS rfl) aKb.of a6,
      go fun S hS => aAb (m := 2) (f := 1) (aE rfl) (aR hS rfl) rfl rfl a6 cQ,
      go (zm (.i (c.fdiv (2 ^ (min (uw (w64 (a + 1))).toNat 64))))),
      go (zf rfl pH),
      go (zl 4 rfl rfl rfl aU), trivial⟩
             · exact cI (aI rfl (aI rfl (aI rfl (aN ⟨rfl, rfl, rfl, rfl, rfl, rfl, rfl, rfl, trivial⟩))))
            ·obtain ⟨i0, c1, h⟩ := bns h;refine to (aAa (f := 1) (g := aK) (aE rfl) rfl rfl a6 rfl bL.of c1) ?_;refine to (aTb (f := 1) (g := aK) rfl rfl a6 c1 rfl rfl rfl Tryz.sizeOf3 rfl (aE rfl) (Nat.le_of_ble_eq_true rfl) (a' := n.Player) rfl (c' := (I.set a.toNat (c0.set (c.fdiv (2 ^ (min (uw (w64 (a + 1))).toNat 64))).toNat n.Player))) rfl) ?_;refine cS ?_;refine aA (tm (.i a) (to (sar rfl rfl rfl) (ta (.i (w64 (a + 1))) (aB ?_))));exact ⟨(w64 (a + 1), Z, (I.set a.toNat (c0.set (c.fdiv (2 ^ (min (uw (w64 (a + 1))).toNat 64))).toNat n.Player)), y), h, aP [0, 1, 2, 3, 4] rfl rfl (aI rfl (aN ⟨rfl, rfl, rfl, rfl, rfl, rfl, rfl, trivial⟩))⟩
         ·refine bX ?_;refine .inl ⟨rfl, ?_⟩;simp only [uQ] at h;simp only [mE] at h;refine aA (tm (.i p) (to (sar rfl rfl rfl) (ta (.i (w64 (p + 1))) (aB ?_))));exact ⟨(w64 (p + 1), Z, I, y), h, aP [0, 1, 2, 3] rfl rfl (aI rfl (aN ⟨rfl, rfl, rfl, rfl, trivial⟩))⟩
   ·refine bX ?_;refine .inl ⟨rfl, ?_⟩;simp only [vF] at h;refine aC (aA (to (sla 3 [.sl 1 (e.map aK), .lit w9] rfl rfl aBt) (to (sst 0 rfl rfl Tryz.sizeOf126 [.sl 1 (e.map aK), .lit w9]) (ta (.b true) (aB ?_)))));obtain rfl := sIn h;exact aY ⟨rfl, _, [.box b2 0 [.sl 1 (e.map aK), .lit w9], .fam 3 1 x (t.map fun r => r.map aK), .arr w9 22 1 (x.map fun v => [.lit v]), .box b6 0 [.sl 1 (e.map aK), .lit w9]], .two (.cell 4 126 rfl (i := 0) rfl aBt (es := [.sl 1 (e.map aK), .lit w9]) rfl rfl) (.tmp 5 (v := .b true) rfl), .refl _, aEq (.cons (.agg (dvc (.same _) (dvc (bBs 2 1 rfl rfl (h := qQ) (fun _ => rfl)) dvn))) (.cons (.same _) .nil))⟩

theorem aHy (c : aQ) (e : List aF) {r : Int} (h : fY c e = some r) : Fn Tryz.prog 49 [.agg (bI c), .d (.sl 5 (e.map aJ))] (.i r) := by
 unfold fY at h;refine Fn.of_tr Tryz.func49 rfl (rs := [.tmp 4]) Tryz.results49 Tryz.ntmps49 (Nat.le_of_ble_eq_true rfl) ?_;refine aC (aA ?_);refine bB rfl (eP (v := .agg (bI c)) (aE rfl) rfl rfl rfl) ?_;rintro _ ⟨b1, rfl⟩;refine ta (.i 0) (aB (aC (aC (aA (to (sla 0 (bI c) rfl rfl nJ) ?_)))));obtain ⟨r2, h3, h⟩ := bns h;refine to (scr Tryz.call83 (aHj _ h3)) (to (sn rfl) (aB ?_));refine tih h (fun c4 h => ?_) (fun c4 h => ?_)
 ·refine aC (aA (ta (.i 70) (aB ?_)));obtain rfl := sIn h;refine bO (bK (bN (l := [4]) ⟨rfl, trivial⟩)) ?_;exact aY ⟨rfl, _, .one _, rfl, rfl⟩
 ·refine aV (aC (aC (aA (tm (.d (.sl 5 (e.map aJ))) (to (sle rfl eL.of) (to (scm rfl rfl rfl) (aB ?_)))))));refine tih h (fun c5 h => ?_) (fun c5 h => ?_)
  ·refine aC (aA (ta (.i 71) (aB ?_)));obtain rfl := sIn h;refine bO (bK (bN (l := [4]) ⟨rfl, trivial⟩)) ?_;exact aY ⟨rfl, _, .one _, rfl, rfl⟩
  ·refine aV (aC (aC (aA (ta (.i 0) (aB (bA ?_))))));refine bR (S := Int) [1, 2] (fun s6 => [(5, .i s6)]) (fun s6 => [.box b1 0 (bI c)]) (fun k s6 => iP e c k s6) (fun _ => rfl) (0) h (aP [0] rfl rfl (aI rfl (aN ⟨rfl, rfl, trivial⟩))) ?_;rintro k7 a h;simp only [iP] at h;refine aC (aC (aA (tm (.i a) (tm (.d (.sl 5 (e.map aJ))) (to (sle rfl eL.of) (to (scm rfl rfl rfl) (aB ?_)))))));refine tih h (fun c8 h => ?_) (fun c8 h => ?_)
   ·refine aV (aC (bA (aC ?_)));obtain ⟨x9, g, h⟩ := bns h;refine cT mix 5 [1, 2, 5] [(20, .agg (bI c)), (24, .agg (aJ x9))] ?_ ?_
    ·refine ⟨[(20, 0, .agg (bI c)), (21, 1, .d (.sl 5 (e.map aJ))), (22, 2, .i a), (23, 3, .cp [.lit (.int .i64 x9.Kind), .lit (.int .i64 x9.Round), .lit (.int .i64 x9.Place), .lit (.int .i64 x9.Player), .lit (.int .i64 x9.Old)]), (24, 4, .agg (aJ x9))], ?_, ?_⟩
     · exact dok [([], []), ([], []), ([], []), ([1, 2], []), ([3], [])] ⟨go (zla 0 (bI c) rfl rfl nJ),
      go (zm (.d (.sl 5 (e.map aJ)))),
      go (zm (.i a)),
      go (zix rfl rfl eL.of (aX aJ g)),
      go (xQ (aJ x9) rfl mA), trivial⟩
     · exact cI (aI rfl (aI rfl (aN ⟨rfl, rfl, rfl, trivial⟩)))
    ·obtain ⟨p, j, h⟩ := bns h;refine to (scr Tryz.call84 (aHk _ _ j)) (to (sn rfl) (aB ?_));refine tih h (fun m h => ?_) (fun m h => ?_)
     ·refine aC (aA (ta (.i 71) (aB ?_)));obtain rfl := sIn h;refine bO (bK (bN (l := [4]) ⟨rfl, trivial⟩)) ?_;exact aY ⟨rfl, _, .one _, rfl, rfl⟩
     ·refine cU ?_;refine aA (tm (.i a) (to (sar rfl rfl rfl) (ta (.i (w64 (a + 1))) (aB ?_))));exact ⟨(w64 (a + 1)), h, aP [0] rfl rfl (aI rfl (aN ⟨rfl, rfl, trivial⟩))⟩
   ·refine bX ?_;refine .inl ⟨rfl, ?_⟩;simp only [lB] at h;refine aC (aC (aA (to (sla 0 (bI c) rfl rfl nJ) (tm (.d (.sl 5 (e.map aJ))) ?_))));obtain ⟨f, n, h⟩ := bns h;refine to (eX (aE rfl) (.func _ _ Tryz.call85) rfl rfl (aKg _ _ n)) ?_;refine tm (.tup [.agg (cP f.1), .b f.2]) (to (sex rfl rfl) (to (sex rfl rfl) ?_));refine bB rfl (cR (zs := [.sl 1 ((([] : List Int)).map aK), .sl 1 ((([] : List (List Int))).map qQ)]) (aE rfl) Tryz.zeroValue126 rfl rfl) ?_;rintro _ ⟨q, rfl⟩;refine to (sst 1 rfl rfl Tryz.sizeOf126 (cP f.1)) (ta (.b f.2) (aB (aC (aA (tm (.b f.2) (to (sn rfl) (aB ?_)))))));refine tih h (fun o h => ?_) (fun o h => ?_)
    ·refine aC (aA (ta (.i 72) (aB ?_)));obtain rfl := sIn h;refine bO (bK (bN (l := [4]) ⟨rfl, trivial⟩)) ?_;exact aY ⟨rfl, _, .one _, rfl, rfl⟩
    ·refine aV (aC (aA (ta (.i 0) (aB ?_))));obtain rfl := sIn h;refine bO (bK (bN (l := [4]) ⟨rfl, trivial⟩)) ?_;exact aY ⟨rfl, _, .one _, rfl, rfl⟩

theorem eI (d : Int) (c : Int) (a : Int) {r : Bool} (h : eD d c a = some r) : Fn Tryz.prog 50 [.i d, .i c, .i a] (.b r) := by
 unfold eD at h;refine Fn.of_tr Tryz.func50 rfl (rs := [.tmp 6]) Tryz.results50 Tryz.ntmps50 (Nat.le_of_ble_eq_true rfl) ?_;refine aC (aA (ta (.b false) (aB (aC (aA (tm (.i d) (tm (.i c) (to (scm rfl rfl rfl) (tm (.b (decide (c ≤ d))) ?_)))))))));obtain ⟨b1, h2, h⟩ := bns h;refine bD 4 [] 14 b1 ?_ ?_
 ·refine bch h2 (fun c3 h2 => ?_) (fun c3 h2 => ?_)
  ·refine tk c3 (sm (.i d)) (tk c3 (sm (.i a)) (tk c3 (scm rfl rfl rfl) (to (spt (.b (decide (d ≤ a))) c3) ?_)));obtain rfl := sIn h2;refine aB (aO rfl trivial rfl)
  ·refine tp c3 (tp c3 (tp c3 (to (spf (.b false) c3) ?_)));obtain rfl := sIn h2;refine aB (aO rfl trivial rfl)
 ·refine ta (.b b1) (aB ?_);obtain rfl := sIn h;exact aY ⟨rfl, _, .one _, rfl, rfl⟩

theorem yI (d : aM) (a : Int) {r : Bool} (h : mG d a = some r) : Fn Tryz.prog 86 [.agg (aL d), .i a] (.b r) := by
 unfold mG at h;refine Fn.of_tr Tryz.func86 rfl (rs := [.tmp 4]) Tryz.results86 Tryz.ntmps86 (Nat.le_of_ble_eq_true rfl) ?_;refine aC (aA ?_);refine bB rfl (eP (v := .agg (aL d)) (aE rfl) rfl rfl rfl) ?_;rintro _ ⟨b1, rfl⟩;refine ta (.b false) (aB (aC (aC (aA (ta (.i 0) (aB (bA ?_)))))));refine bR (S := Int) [1, 2] (fun s2 => [(5, .i s2)]) (fun s2 => [.box b1 0 (aL d)]) (fun k s2 => iV a d k s2) (fun _ => rfl) (0) h (aP [0] rfl rfl (aI rfl (aN ⟨rfl, rfl, trivial⟩))) ?_;rintro k3 c h;simp only [iV] at h;refine aC (aC (aA (tm (.i c) (tfl 0 rfl rfl fL rfl kJ (to (sle rfl jQ.of) (to (scm rfl rfl rfl) (aB ?_)))))));refine tih h (fun c4 h => ?_) (fun c4 h => ?_)
 ·refine aV (aC (bA (aC (aA (tfl 0 rfl rfl fL rfl kJ (tm (.i c) ?_))))));obtain ⟨x5, h6, h⟩ := bns h;refine to (six rfl rfl jQ.of (aX aW h6)) (to (sfc [.lit (.int .i64 x5.Player)] rfl xJ) (to (slc rfl aU) (tm (.i a) (to (scm rfl rfl rfl) (aB ?_)))));refine tih h (fun c7 h => ?_) (fun c7 h => ?_)
  ·refine aC (aA (ta (.b true) (aB ?_)));obtain rfl := sIn h;refine bO (bK (bN (l := [4]) ⟨rfl, trivial⟩)) ?_;exact aY ⟨rfl, _, .one _, rfl, rfl⟩
  ·refine cU ?_;refine aA (tm (.i c) (to (sar rfl rfl rfl) (ta (.i (w64 (c + 1))) (aB ?_))));exact ⟨(w64 (c + 1)), h, aP [0] rfl rfl (aI rfl (aN ⟨rfl, rfl, trivial⟩))⟩
 ·refine bX ?_;refine .inl ⟨rfl, ?_⟩;simp only [xV] at h;refine aC (aA (ta (.b false) (aB ?_)));obtain rfl := sIn h;refine bO (bK (bN (l := [4]) ⟨rfl, trivial⟩)) ?_;exact aY ⟨rfl, _, .one _, rfl, rfl⟩

theorem aEv (a : aM) {r : Bool} (h : lC a = some r) : Fn Tryz.prog 51 [.agg (aL a)] (.b r) := by
 unfold lC at h;refine Fn.of_tr Tryz.func51 rfl (rs := [.tmp 2]) Tryz.results51 Tryz.ntmps51 (Nat.le_of_ble_eq_true rfl) ?_;refine aC (aA ?_);refine bB rfl (eP (v := .agg (aL a)) (aE rfl) rfl rfl rfl) ?_;rintro _ ⟨b1, rfl⟩;refine ta (.b false) (aB (aC (aC (aA (ta (.i 0) (aB (bA ?_)))))));refine bR (S := Int) [1] (fun s2 => [(3, .i s2)]) (fun s2 => [.box b1 0 (aL a)]) (fun k s2 => gM a k s2) (fun _ => rfl) (0) h (aP [0] rfl rfl (aI rfl (aN ⟨rfl, trivial⟩))) ?_;rintro k3 o h;simp only [gM] at h;refine aC (aC (aA (tm (.i o) (tfl 0 rfl rfl fL rfl kJ (to (sle rfl jQ.of) (to (scm rfl rfl rfl) (aB ?_)))))));refine tih h (fun c4 h => ?_) (fun c4 h => ?_)
 ·refine aV (aC (bA (aC (aA (tfl 0 rfl rfl fL rfl kJ (tm (.i o) ?_))))));obtain ⟨x5, h6, h⟩ := bns h;refine to (six rfl rfl jQ.of (aX aW h6)) (to (rO (aW x5) rfl wN) ?_);refine bB rfl (cR (zs := [.lit (.int .i64 0), .lit (.int .i64 0), .lit (.int .i64 0)]) (aE rfl) Tryz.zeroValue46 rfl rfl) ?_;rintro _ ⟨b7, rfl⟩;refine to (sst 1 rfl rfl Tryz.sizeOf46 (aW x5)) (aB (aC (aC (aA (tfl 1 rfl rfl xJ rfl aU ?_)))));obtain ⟨r8, h9, h⟩ := bns h;refine to (scr Tryz.call50 (eI _ _ _ h9)) (to (sn rfl) (tm (.b (!r8)) ?_));obtain ⟨T, C, h⟩ := bns h;refine bD 5 [1, 3, 4] 30 T ?_ ?_
  ·refine bch C (fun w C => ?_) (fun w C => ?_)
   ·refine tp w (tp w (tp w (tp w (to (spt (.b true) w) ?_))));obtain rfl := sIn C;refine aB (aO rfl ⟨rfl, rfl, rfl, trivial⟩ rfl)
   ·refine tkl 1 w rfl rfl rD rfl aU ?_;obtain ⟨a2, a3, C⟩ := bns C;refine tk w (scr Tryz.call50 (eI _ _ _ a3)) (tk w (sn rfl) (to (spf (.b (!a2)) w) ?_));obtain rfl := sIn C;refine aB (aO rfl ⟨rfl, rfl, rfl, trivial⟩ rfl)
  ·refine tm (.b T) ?_;obtain ⟨U, E, h⟩ := bns h;refine bD 5 [1, 3, 4] 36 U ?_ ?_
   ·refine bch E (fun x E => ?_) (fun x E => ?_)
    ·refine tp x (tp x (tp x (tp x (to (spt (.b true) x) ?_))));obtain rfl := sIn E;refine aB (aO rfl ⟨rfl, rfl, rfl, trivial⟩ rfl)
    ·refine tkl 1 x rfl rfl lS rfl aU ?_;obtain ⟨a4, a5, E⟩ := bns E;refine tk x (scr Tryz.call50 (eI _ _ _ a5)) (tk x (sn rfl) (to (spf (.b (!a4)) x) ?_));obtain rfl := sIn E;refine aB (aO rfl ⟨rfl, rfl, rfl, trivial⟩ rfl)
   ·refine tm (.b U) ?_;obtain ⟨a6, I, h⟩ := bns h;refine bD 6 [1, 3, 4] 43 a6 ?_ ?_
    ·refine bch I (fun p I => ?_) (fun p I => ?_)
     ·refine tp p (tp p (tp p (tp p (tp p (to (spt (.b true) p) ?_)))));obtain rfl := sIn I;refine aB (aO rfl ⟨rfl, rfl, rfl, trivial⟩ rfl)
     ·refine tkl 1 p rfl rfl rD rfl aU (tkl 1 p rfl rfl lS rfl aU (tk p (scm rfl rfl rfl) (to (spf (.b (decide (x5.One = x5.Two))) p) ?_)));obtain rfl := sIn I;refine aB (aO rfl ⟨rfl, rfl, rfl, trivial⟩ rfl)
    ·refine aB ?_;refine tih h (fun a7 h => ?_) (fun a7 h => ?_)
     ·refine aC (aA (ta (.b false) (aB ?_)));obtain rfl := sIn h;refine bO (bK (bN (l := [2]) ⟨rfl, trivial⟩)) ?_;exact aY ⟨rfl, _, .one _, rfl, rfl⟩
     ·refine aV (aC (aA (ta (.i 0) (aB ?_))));refine wJ ?_;refine bR (S := Int) [1, 3, 4] (fun M => [(5, .i M)]) (fun M => [.box b1 0 (aL a), .box b7 0 (aW x5)]) (fun k M => gN (gM a k3) o a x5 k M) (fun _ => rfl) (0) h (aP [0, 1] rfl rfl (aI rfl (aN ⟨rfl, rfl, rfl, trivial⟩))) ?_;rintro c5 q h;simp only [gN] at h;refine aC (aC (aA (tm (.i q) (tm (.i o) (to (scm rfl rfl rfl) (aB ?_))))));refine tih h (fun a8 h => ?_) (fun a8 h => ?_)
      ·refine aV (aC (bA (aC (aA (tfl 0 rfl rfl fL rfl kJ (tm (.i q) ?_))))));obtain ⟨F, a9, h⟩ := bns h;refine to (six rfl rfl jQ.of (aX aW a9)) (to (rO (aW F) rfl wN) ?_);refine bB rfl (cR (zs := [.lit (.int .i64 0), .lit (.int .i64 0), .lit (.int .i64 0)]) (aE rfl) Tryz.zeroValue46 rfl rfl) ?_;rintro _ ⟨c6, rfl⟩;refine to (sst 2 rfl rfl Tryz.sizeOf46 (aW F)) (aB (aC (aA (tfl 2 rfl rfl xJ rfl aU (tfl 1 rfl rfl xJ rfl aU (to (scm rfl rfl rfl) (tm (.b (decide (F.Player = x5.Player))) ?_)))))));obtain ⟨V, J, h⟩ := bns h;refine bD 6 [1, 3, 4, 5, 6] 65 V ?_ ?_
       ·refine bch J (fun s J => ?_) (fun s J => ?_)
        ·refine tp s (tp s (tp s (tp s (tp s (to (spt (.b true) s) ?_)))));obtain rfl := sIn J;refine aB (aO rfl ⟨rfl, rfl, rfl, rfl, rfl, trivial⟩ rfl)
        ·refine tkl 2 s rfl rfl rD rfl aU (tkl 1 s rfl rfl rD rfl aU (tk s (scm rfl rfl rfl) (to (spf (.b (decide (F.One = x5.One))) s) ?_)));obtain rfl := sIn J;refine aB (aO rfl ⟨rfl, rfl, rfl, rfl, rfl, trivial⟩ rfl)
       ·refine tm (.b V) ?_;obtain ⟨W, K, h⟩ := bns h;refine bD 6 [1, 3, 4, 5, 6] 72 W ?_ ?_
        ·refine bch K (fun t K => ?_) (fun t K => ?_)
         ·refine tp t (tp t (tp t (tp t (tp t (to (spt (.b true) t) ?_)))));obtain rfl := sIn K;refine aB (aO rfl ⟨rfl, rfl, rfl, rfl, rfl, trivial⟩ rfl)
         ·refine tkl 2 t rfl rfl lS rfl aU (tkl 1 t rfl rfl rD rfl aU (tk t (scm rfl rfl rfl) (to (spf (.b (decide (F.Two = x5.One))) t) ?_)));obtain rfl := sIn K;refine aB (aO rfl ⟨rfl, rfl, rfl, rfl, rfl, trivial⟩ rfl)
        ·refine tm (.b W) ?_;obtain ⟨b0, G, h⟩ := bns h;refine bD 18 [1, 3, 4, 5] 91 b0 ?_ ?_
         ·refine bch G (fun n G => ?_) (fun n G => ?_)
          ·refine tp n (tp n (tp n (tp n (tq (tq (tq (tq (tq (tq (tq (tq (tq (tq ?_)))))))))))));refine tq (tq (tp n (to (spt (.b true) n) ?_)));obtain rfl := sIn G;refine aB (aO rfl ⟨rfl, rfl, rfl, rfl, trivial⟩ rfl)
          ·refine tkl 1 n rfl rfl lS rfl aU (tk n (scm rfl rfl rfl) (tk n (sm (.b (decide (0 ≤ x5.Two)))) ?_));obtain ⟨X, H, G⟩ := bns G;refine bD 13 [1, 3, 4, 5, 73, 74, 75, 76, 77] 90 X ?_ ?_
           ·refine bch H (fun m H => ?_) (fun m H => ?_)
            ·refine tkl 2 m rfl rfl rD rfl aU (tkl 1 m rfl rfl lS rfl aU (tk m (scm rfl rfl rfl) (tk m (sm (.b (decide (F.One = x5.Two)))) ?_)));obtain ⟨Y, L, H⟩ := bns H;refine bD 6 [1, 3, 4, 5, 73, 74, 75, 76, 77, 78, 79, 80, 81, 82, 83] 89 Y ?_ ?_
             ·refine bch L (fun u L => ?_) (fun u L => ?_)
              ·refine tp u (tp u (tp u (tp u (tp u (tk m (spt (.b true) u) ?_)))));obtain rfl := sIn L;refine aB (aO rfl ⟨rfl, rfl, rfl, rfl, rfl, rfl, rfl, rfl, rfl, rfl, rfl, rfl, rfl, rfl, rfl, trivial⟩ rfl)
              ·refine tkl 2 u rfl rfl lS rfl aU (tkl 1 u rfl rfl lS rfl aU (tk u (scm rfl rfl rfl) (tk m (spf (.b (decide (F.Two = x5.Two))) u) ?_)));obtain rfl := sIn L;refine aB (aO rfl ⟨rfl, rfl, rfl, rfl, rfl, rfl, rfl, rfl, rfl, rfl, rfl, rfl, rfl, rfl, rfl, trivial⟩ rfl)
             ·refine tk n (spt (.b Y) m) ?_;obtain rfl := sIn H;refine aB (aO rfl ⟨rfl, rfl, rfl, rfl, rfl, rfl, rfl, rfl, rfl, trivial⟩ rfl)
            ·refine tp m (tp m (tp m (tp m (tp m (tp m (tq (tq (tq (tq (tq (tp m (tk n (spf (.b false) m) ?_))))))))))));obtain rfl := sIn H;refine aB (aO rfl ⟨rfl, rfl, rfl, rfl, rfl, rfl, rfl, rfl, rfl, trivial⟩ rfl)
           ·refine to (spf (.b X) n) ?_;obtain rfl := sIn G;refine aB (aO rfl ⟨rfl, rfl, rfl, rfl, trivial⟩ rfl)
         ·refine aB ?_;refine tih h (fun b2 h => ?_) (fun b2 h => ?_)
          ·refine aC (aA (ta (.b false) (aB ?_)));obtain rfl := sIn h;refine bO (bK (bN (l := [2]) ⟨rfl, trivial⟩)) ?_;exact aY ⟨rfl, _, .one _, rfl, rfl⟩
          ·refine cU ?_;refine aA (tm (.i q) (to (sar rfl rfl rfl) (ta (.i (w64 (q + 1))) (aB ?_))));exact ⟨(w64 (q + 1)), h, aP [0, 1] rfl rfl (aI rfl (aN ⟨rfl, rfl, rfl, trivial⟩))⟩
      ·refine bX ?_;refine .inl ⟨rfl, ?_⟩;simp only [sH] at h;simp only [sG] at h;refine aA (tm (.i o) (to (sar rfl rfl rfl) (ta (.i (w64 (o + 1))) (aB ?_))));exact ⟨(w64 (o + 1)), h, aP [0] rfl rfl (aI rfl (aN ⟨rfl, trivial⟩))⟩
 ·refine bX ?_;refine .inl ⟨rfl, ?_⟩;simp only [lE] at h;refine aC (aC (aA (ta (.i 0) (aB (bA ?_)))));refine bR (S := Int) [1] (fun N => [(7, .i N)]) (fun N => [.box b1 0 (aL a)]) (fun k N => iJ a k N) (fun _ => rfl) (0) h (aP [0] rfl rfl (aI rfl (aN ⟨rfl, trivial⟩))) ?_;rintro c7 e h;simp only [iJ] at h;refine aC (aC (aA (tm (.i e) (to (sf rfl jJ) (tfl 0 rfl rfl dL rfl cQ (to (sle rfl bL.of) (to (scm rfl rfl rfl) (aB ?_))))))));refine tih h (fun b3 h => ?_) (fun b3 h => ?_)
  ·refine aV (aC (bA (aC ?_)));obtain ⟨y, Z, h⟩ := bns h;obtain ⟨b4, z, h⟩ := bns h;refine cT mix 18 [1, 7] [(117, .b b4)] ?_ ?_
   ·refine bch z (fun f z => ?_) (fun f z => ?_)
    ·obtain ⟨a0, b5, z⟩ := bns z;obtain ⟨O, b6, z⟩ := bns z;obtain rfl := sIn z;refine ⟨[(100, 0, .bp b1 0 0), (101, 1, .bp b1 0 1), (102, 2, .d (.sl 1 (a.Tree.Slots.map aK))), (103, 3, .i e), (104, 4, .cp [.lit (.int .i64 y)]), (105, 5, .i y), (106, 6, .b (!decide (y = (-1)))), (107, 7, .b (!decide (y = (-1)))), (108, 8, .agg (aL a)), (109, 9, .bp b1 0 0), (110, 10, .bp b1 0 1), (111, 11, .d (.sl 1 (a.Tree.Slots.map aK))), (112, 12, .i e), (113, 13, .cp [.lit (.int .i64 a0)]), (114, 14, .i a0), (115, 15, .b O), (116, 16, .b (!O)), (117, 17, .b (!O))], ?_, ?_⟩
     · exact dok [([], []), ([0], []), ([1], []), ([], []), ([2, 3], []), ([4], []), ([5], []), ([6], []), ([7], []), ([7], []), ([7, 9], []), ([7, 10], []), ([7], []), ([7, 11, 12], []), ([7, 13], []), ([7, 8, 14], []), ([7, 15], []), ([7, 16], [])] ⟨go (zf rfl jJ),
      go (zf rfl dL),
      go (zl 0 rfl rfl rfl cQ),
      go (zm (.i e)),
      go (zix rfl rfl bL.of (aX aK Z)),
      go (zlc rfl aU),
      go (zcm rfl rfl rfl),
      go (zm (.b (!decide (y = (-1))))),
      gt f (zla 0 (aL a) rfl rfl dI),
      gt f (zf rfl jJ),
      gt f (zf rfl dL),
      gt f (zl 0 rfl rfl rfl cQ),
      gt f (zm (.i e)),
      gt f (zix rfl rfl bL.of (aX aK b5)),
      gt f (zlc rfl aU),
      gt f fun S hS => gZ (aE rfl) (.func _ _ Tryz.call86) (ev2 (aR hS rfl) (ev2 (aR hS rfl) evn)) rfl (BVs.refl _ _) (yI _ _ b6) rfl,
      gt f (zn rfl),
      go (zpt (.b (!O)) f), trivial⟩
     · exact cI (aI rfl (aN ⟨rfl, rfl, trivial⟩))
    ·obtain rfl := sIn z;refine ⟨[(100, 0, .bp b1 0 0), (101, 1, .bp b1 0 1), (102, 2, .d (.sl 1 (a.Tree.Slots.map aK))), (103, 3, .i e), (104, 4, .cp [.lit (.int .i64 y)]), (105, 5, .i y), (106, 6, .b (!decide (y = (-1)))), (107, 7, .b (!decide (y = (-1)))), (108, 8, .tup []), (109, 9, .tup []), (110, 10, .tup []), (111, 11, .tup []), (112, 12, .tup []), (113, 13, .tup []), (114, 14, .tup []), (115, 15, .tup []), (116, 16, .tup []), (117, 17, .b false)], ?_, ?_⟩
     · exact dok [([], []), ([0], []), ([1], []), ([], []), ([2, 3], []), ([4], []), ([5], []), ([6], []), ([7], []), ([7], []), ([7, 9], []), ([7, 10], []), ([7], []), ([7, 11, 12], []), ([7, 13], []), ([7, 8, 14], []), ([7, 15], []), ([7, 16], [])] ⟨go (zf rfl jJ),
      go (zf rfl dL),
      go (zl 0 rfl rfl rfl cQ),
      go (zm (.i e)),
      go (zix rfl rfl bL.of (aX aK Z)),
      go (zlc rfl aU),
      go (zcm rfl rfl rfl),
      go (zm (.b (!decide (y = (-1))))),
      gp f,
      gp f,
      gp f,
      gp f,
      gp f,
      gp f,
      gp f,
      gp f,
      gp f,
      go (zpf (.b false) f), trivial⟩
     · exact cI (aI rfl (aN ⟨rfl, rfl, trivial⟩))
   ·refine aB ?_;refine tih h (fun b8 h => ?_) (fun b8 h => ?_)
    ·refine aC (aA (ta (.b false) (aB ?_)));obtain rfl := sIn h;refine bO (bK (bN (l := [2]) ⟨rfl, trivial⟩)) ?_;exact aY ⟨rfl, _, .one _, rfl, rfl⟩
    ·refine cU ?_;refine aA (tm (.i e) (to (sar rfl rfl rfl) (ta (.i (w64 (e + 1))) (aB ?_))));exact ⟨(w64 (e + 1)), h, aP [0] rfl rfl (aI rfl (aN ⟨rfl, trivial⟩))⟩
  ·refine bX ?_;refine .inl ⟨rfl, ?_⟩;simp only [lF] at h;refine aC (aC (aA (ta (.i 0) (aB (bA ?_)))));refine bR (S := Int) [1] (fun P => [(8, .i P)]) (fun P => [.box b1 0 (aL a)]) (fun k P => iK a k P) (fun _ => rfl) (0) h (aP [0] rfl rfl (aI rfl (aN ⟨rfl, trivial⟩))) ?_;rintro c8 g h;simp only [iK] at h;refine aC (aC (aA (tm (.i g) (tfl 0 rfl rfl gC rfl lG (to (sle rfl eL.of) (to (scm rfl rfl rfl) (aB ?_)))))));refine tih h (fun b9 h => ?_) (fun b9 h => ?_)
   ·refine aV (aC (bA (aC ?_)));obtain ⟨c, a1, h⟩ := bns h;obtain ⟨c0, A, h⟩ := bns h;refine cT mix 18 [1, 8] [(142, .b c0)] ?_ ?_
    ·refine bch A (fun j A => ?_) (fun j A => ?_)
     ·obtain ⟨B, c1, A⟩ := bns A;obtain ⟨Q, c2, A⟩ := bns A;obtain rfl := sIn A;refine ⟨[(125, 0, .bp b1 0 2), (126, 1, .d (.sl 5 (a.Slips.map aJ))), (127, 2, .i g), (128, 3, .cp [.lit (.int .i64 c.Kind), .lit (.int .i64 c.Round), .lit (.int .i64 c.Place), .lit (.int .i64 c.Player), .lit (.int .i64 c.Old)]), (129, 4, .cp [.lit (.int .i64 c.Kind)]), (130, 5, .i c.Kind), (131, 6, .b (decide (c.Kind = 5))), (132, 7, .b (decide (c.Kind = 5))), (133, 8, .agg (aL a)), (134, 9, .bp b1 0 2), (135, 10, .d (.sl 5 (a.Slips.map aJ))), (136, 11, .i g), (137, 12, .cp [.lit (.int .i64 B.Kind), .lit (.int .i64 B.Round), .lit (.int .i64 B.Place), .lit (.int .i64 B.Player), .lit (.int .i64 B.Old)]), (138, 13, .cp [.lit (.int .i64 B.Player)]), (139, 14, .i B.Player), (140, 15, .b Q), (141, 16, .b (!Q)), (142, 17, .b (!Q))], ?_, ?_⟩
      · exact dok [([], []), ([0], []), ([], []), ([1, 2], []), ([3], []), ([4], []), ([5], []), ([6], []), ([7], []), ([7], []), ([7, 9], []), ([7], []), ([7, 10, 11], []), ([7, 12], []), ([7, 13], []), ([7, 8, 14], []), ([7, 15], []), ([7, 16], [])] ⟨go (zf rfl gC),
      go (zl 0 rfl rfl rfl lG),
      go (zm (.i g)),
      go (zix rfl rfl eL.of (aX aJ a1)),
      go (zfc [.lit (.int .i64 c.Kind)] rfl pG),
      go (zlc rfl aU),
      go (zcm rfl rfl rfl),
      go (zm (.b (decide (c.Kind = 5)))),
      gt j (zla 0 (aL a) rfl rfl dI),
      gt j (zf rfl gC),
      gt j (zl 0 rfl rfl rfl lG),
      gt j (zm (.i g)),
      gt j (zix rfl rfl eL.of (aX aJ c1)),
      gt j (zfc [.lit (.int .i64 B.Player)] rfl pH),
      gt j (zlc rfl aU),
      gt j fun S hS => gZ (aE rfl) (.func _ _ Tryz.call86) (ev2 (aR hS rfl) (ev2 (aR hS rfl) evn)) rfl (BVs.refl _ _) (yI _ _ c2) rfl,
      gt j (zn rfl),
      go (zpt (.b (!Q)) j), trivial⟩
      · exact cI (aI rfl (aN ⟨rfl, rfl, trivial⟩))
     ·obtain rfl := sIn A;refine ⟨[(125, 0, .bp b1 0 2), (126, 1, .d (.sl 5 (a.Slips.map aJ))), (127, 2, .i g), (128, 3, .cp [.lit (.int .i64 c.Kind), .lit (.int .i64 c.Round), .lit (.int .i64 c.Place), .lit (.int .i64 c.Player), .lit (.int .i64 c.Old)]), (129, 4, .cp [.lit (.int .i64 c.Kind)]), (130, 5, .i c.Kind), (131, 6, .b (decide (c.Kind = 5))), (132, 7, .b (decide (c.Kind = 5))), (133, 8, .tup []), (134, 9, .tup []), (135, 10, .tup []), (136, 11, .tup []), (137, 12, .tup []), (138, 13, .tup []), (139, 14, .tup []), (140, 15, .tup []), (141, 16, .tup []), (142, 17, .b false)], ?_, ?_⟩
      · exact dok [([], []), ([0], []), ([], []), ([1, 2], []), ([3], []), ([4], []), ([5], []), ([6], []), ([7], []), ([7], []), ([7, 9], []), ([7], []), ([7, 10, 11], []), ([7, 12], []), ([7, 13], []), ([7, 8, 14], []), ([7, 15], []), ([7, 16], [])] ⟨go (zf rfl gC),
      go (zl 0 rfl rfl rfl lG),
      go (zm (.i g)),
      go (zix rfl rfl eL.of (aX aJ a1)),
      go (zfc [.lit (.int .i64 c.Kind)] rfl pG),
      go (zlc rfl aU),
      go (zcm rfl rfl rfl),
      go (zm (.b (decide (c.Kind = 5)))),
      gp j,
      gp j,
      gp j,
      gp j,
      gp j,
      gp j,
      gp j,
      gp j,
      gp j,
      go (zpf (.b false) j), trivial⟩
      · exact cI (aI rfl (aN ⟨rfl, rfl, trivial⟩))
    ·refine aB ?_;refine tih h (fun c3 h => ?_) (fun c3 h => ?_)
     ·refine aC (aA (ta (.b false) (aB ?_)));obtain rfl := sIn h;refine bO (bK (bN (l := [2]) ⟨rfl, trivial⟩)) ?_;exact aY ⟨rfl, _, .one _, rfl, rfl⟩
     ·refine cU ?_;refine aA (tm (.i g) (to (sar rfl rfl rfl) (ta (.i (w64 (g + 1))) (aB ?_))));exact ⟨(w64 (g + 1)), h, aP [0] rfl rfl (aI rfl (aN ⟨rfl, trivial⟩))⟩
   ·refine bX ?_;refine .inl ⟨rfl, ?_⟩;simp only [oD] at h;refine aC (aA (tfl 0 rfl rfl fL rfl kJ (to (sle rfl jQ.of) (to (scm rfl rfl rfl) (ta (.b (decide ((a.Teams.length : Int) ≤ 64))) (aB ?_))))));obtain rfl := sIn h;refine bO (bK (bN (l := [2]) ⟨rfl, trivial⟩)) ?_;exact aY ⟨rfl, _, .one _, rfl, rfl⟩

theorem aKh (g : aM) (c : Int) {r : bE × Bool × Bool} (h : rS g c = some r) : Fn Tryz.prog 15 [.agg (aL g), .i c] (.tup [.agg (aW r.1), .b r.2.1, .b r.2.2]) := by
 unfold rS at h;refine jM Tryz.func15 rfl (rs := [.cell 4 46, .tmp 5, .tmp 6]) Tryz.results15 Tryz.ntmps15 (Nat.le_of_ble_eq_true rfl) ?_;refine aC (aA ?_);refine bB rfl (eP (v := .agg (aL g)) (aE rfl) rfl rfl rfl) ?_;rintro _ ⟨b1, rfl⟩;refine bB rfl (cR (zs := [.lit (.int .i64 0), .lit (.int .i64 0), .lit (.int .i64 0)]) (aE rfl) Tryz.zeroValue46 rfl rfl) ?_;rintro _ ⟨b2, rfl⟩;refine ta (.b false) (ta (.b false) (aB (aC (aC (aA (ta (.i 0) (aB (bA ?_))))))));refine bR (S := Int × bE) [1, 2, 4] (fun s3 => [(7, .i s3.1)]) (fun s3 => [.box b1 0 (aL g), .box b2 0 (aW s3.2)]) (fun k s3 => kI c g k s3.1 s3.2) (fun _ => rfl) (0, (bE.mk 0 0 0)) h (aP [0, 1] rfl rfl (aI rfl (aN ⟨rfl, rfl, rfl, trivial⟩))) ?_;rintro k4 ⟨f, o⟩ h;simp only [kI] at h;refine aC (aC (aA (tm (.i f) (tfl 0 rfl rfl fL rfl kJ (to (sle rfl jQ.of) (to (scm rfl rfl rfl) (aB ?_)))))));refine tih h (fun c5 h => ?_) (fun c5 h => ?_)
 ·refine aV (aC (bA (aC (aA (tfl 0 rfl rfl fL rfl kJ (tm (.i f) ?_))))));obtain ⟨x6, h7, h⟩ := bns h;refine to (six rfl rfl jQ.of (aX aW h7)) (to (sfc [.lit (.int .i64 x6.One)] rfl rD) (to (slc rfl aU) (tm (.i c) (to (scm rfl rfl rfl) (tm (.b (decide (x6.One = c))) ?_)))));obtain ⟨b8, h9, h⟩ := bns h;refine bD 13 [1, 2, 4, 7] 36 b8 ?_ ?_
  ·refine bch h9 (fun e h9 => ?_) (fun e h9 => ?_)
   ·refine tp e (tp e (tp e (tp e (tp e (tp e (tp e (tp e (tp e (tq (tq (tp e (to (spt (.b true) e) ?_))))))))))));obtain rfl := sIn h9;refine aB (aO rfl ⟨rfl, rfl, rfl, rfl, trivial⟩ rfl)
   ·refine tkl 0 e rfl rfl fL rfl kJ (tk e (sm (.i f)) ?_);obtain ⟨q, t, h9⟩ := bns h9;refine tk e (six rfl rfl jQ.of (aX aW t)) (tk e (sfc [.lit (.int .i64 q.Two)] rfl lS) (tk e (slc rfl aU) (tk e (sm (.i c)) (tk e (scm rfl rfl rfl) (tk e (sm (.b (decide (q.Two = c)))) ?_)))));obtain ⟨s, n, h9⟩ := bns h9;refine bD 3 [1, 2, 4, 7, 23, 24, 25, 26, 27, 28, 29, 30, 31, 32] 35 s ?_ ?_
    ·refine bch n (fun m n => ?_) (fun m n => ?_)
     ·refine tk m (sm (.i c)) (tk m (scm rfl rfl rfl) (tk e (spt (.b (decide (0 ≤ c))) m) ?_));obtain rfl := sIn n;refine aB (aO rfl ⟨rfl, rfl, rfl, rfl, rfl, rfl, rfl, rfl, rfl, rfl, rfl, rfl, rfl, rfl, trivial⟩ rfl)
     ·refine tp m (tp m (tk e (spf (.b false) m) ?_));obtain rfl := sIn n;refine aB (aO rfl ⟨rfl, rfl, rfl, rfl, rfl, rfl, rfl, rfl, rfl, rfl, rfl, rfl, rfl, rfl, trivial⟩ rfl)
    ·refine to (spf (.b s) e) ?_;obtain rfl := sIn h9;refine aB (aO rfl ⟨rfl, rfl, rfl, rfl, trivial⟩ rfl)
  ·refine aB ?_;refine tih h (fun u h => ?_) (fun u h => ?_)
   ·refine aC ?_;obtain ⟨j, w, h⟩ := bns h;obtain ⟨l, x, h⟩ := bns h;refine qN mix 14 [4] (fun a => [(49, .b (decide (l.Two = c)))]) (fun a => [.box b1 0 (aL g), .box b2 0 (aW j)]) ?_ ?_
    ·refine ⟨0, fun a => [(37, 0, .bp b1 0 5), (38, 1, .d (.sl 3 (g.Teams.map aW))), (39, 2, .i f), (40, 3, .cp [.lit (.int .i64 j.Player), .lit (.int .i64 j.One), .lit (.int .i64 j.Two)]), (41, 4, .agg (aW j)), (42, 5, .bp b1 0 5), (43, 6, .d (.sl 3 (g.Teams.map aW))), (44, 7, .i f), (45, 8, .cp [.lit (.int .i64 l.Player), .lit (.int .i64 l.One), .lit (.int .i64 l.Two)]), (46, 9, .cp [.lit (.int .i64 l.Two)]), (47, 10, .i l.Two), (48, 11, .i c), (49, 12, .b (decide (l.Two = c)))], fun a => [([], .box b1 0 (aL g)), ([(13, .box b2 0 (aW j))], .box b2 0 (aW o))], ?_, ?_⟩
     · exact ⟨by kernel_rfl, by kernel_rfl, by kernel_rfl, fun _ => by kernel_rfl, fun _ => by kernel_rfl, fun _ => by kernel_rfl, fun _ => rfl, [([], [13]), ([0], [13]), ([], [13]), ([1, 2], [13]), ([3], [13]), ([], []), ([5], []), ([], []), ([6, 7], []), ([8], []), ([9], []), ([], []), ([10, 11], []), ([4], [])], by kernel_rfl, ⟨fun a S hw hi hS => bQ (X := a) rfl (hw a) rfl (cJ rfl (jL (aE rfl) (aR hS rfl) fL)),
      fun a S hw hi hS => bQ (X := a) rfl (hw a) rfl (cJ rfl (mJ (aE rfl) (aR hS rfl) (i := 0) (og hS rfl rfl) rfl kJ)),
      fun a S hw hi hS => bQ (X := a) rfl (hw a) rfl (cJ rfl (eB (v := .i f) (aE rfl) (aR hS rfl) rfl)),
      fun a S hw hi hS => bQ (X := a) rfl (hw a) rfl (cJ rfl (aBm (aE rfl) (aR hS rfl) (aR hS rfl) jQ.of (aX aW w))),
      fun a S hw hi hS => bQ (X := a) rfl (hw a) rfl (cJ rfl (aGp (aE rfl) (aR hS rfl) wN (es := (aW j)) rfl rfl)),
      fun a S hw hi hS => bQ (X := a) rfl (hw a) rfl (cJ rfl (jL (aE rfl) (aR hS rfl) fL)),
      fun a S hw hi hS => bQ (X := a) rfl (hw a) rfl (cJ rfl (mJ (aE rfl) (aR hS rfl) (i := 0) (og hS rfl rfl) rfl kJ)),
      fun a S hw hi hS => bQ (X := a) rfl (hw a) rfl (cJ rfl (eB (v := .i f) (aE rfl) (aR hS rfl) rfl)),
      fun a S hw hi hS => bQ (X := a) rfl (hw a) rfl (cJ rfl (aBm (aE rfl) (aR hS rfl) (aR hS rfl) jQ.of (aX aW x))),
      fun a S hw hi hS => bQ (X := a) rfl (hw a) rfl (cJ rfl (aGn (aE rfl) (aR hS rfl) lS (es := [.lit (.int .i64 l.Two)]) rfl)),
      fun a S hw hi hS => bQ (X := a) rfl (hw a) rfl (cJ rfl (aJj (aE rfl) (aR hS rfl) aU)),
      fun a S hw hi hS => bQ (X := a) rfl (hw a) rfl (cJ rfl (eB (v := .i c) (aE rfl) (aR hS rfl) rfl)),
      fun a S hw hi hS => bQ (X := a) rfl (hw a) rfl (cJ rfl (aUy (aE rfl) (aR hS rfl) (aR hS rfl) rfl)),
      fun a S hw hi hS => aBz (X := a) hS rfl rfl rfl (p := 1) rfl rfl (cJ rfl (aGs (i := 1) (aR hS rfl) (og hS rfl rfl) (aR hS rfl) rfl rfl Tryz.sizeOf46 rfl (aE rfl) (Nat.le_of_ble_eq_true rfl) (ds' := (aW j)) rfl)), trivial⟩⟩
     · exact fun a => cI (aI rfl (aN ⟨rfl, trivial⟩))
    ·intro a;refine ta (.b (decide (l.Two = c))) (ta (.b true) (aB ?_));obtain rfl := sIn h;exact aY ⟨rfl, _, [.box b1 0 (aL g), .box b2 0 (aW j)], .three (.cell 4 46 rfl (i := 1) rfl wN (es := (aW j)) rfl rfl) (.tmp 5 (v := .b (decide (l.Two = c))) rfl) (.tmp 6 (v := .b true) rfl), .refl _, .same _⟩
   ·refine cU ?_;refine aA (tm (.i f) (to (sar rfl rfl rfl) (ta (.i (w64 (f + 1))) (aB ?_))));exact ⟨(w64 (f + 1), o), h, aP [0, 1] rfl rfl (aI rfl (aN ⟨rfl, rfl, rfl, trivial⟩))⟩
 ·refine bX ?_;refine .inl ⟨rfl, ?_⟩;simp only [aAj] at h;refine aC (aA (to (dZ (aE rfl) aJr (zs := [.lit (.int .i64 0), .lit (.int .i64 0), .lit (.int .i64 0)]) rfl rfl rfl rfl (es := [.lit (.int .i64 0), .lit (.int .i64 0), .lit (.int .i64 0)]) rfl) ?_));refine to (sst 1 rfl rfl Tryz.sizeOf46 (aW (bE.mk 0 0 0))) (ta (.b false) (ta (.b false) (aB ?_)));obtain rfl := sIn h;exact aY ⟨rfl, _, [.box b1 0 (aL g), .box b2 0 (aW (bE.mk 0 0 0))], .three (.cell 4 46 rfl (i := 1) rfl wN (es := (aW (bE.mk 0 0 0))) rfl rfl) (.tmp 5 (v := .b false) rfl) (.tmp 6 (v := .b false) rfl), .refl _, .same _⟩

theorem oZ (c : aM) (a : Int) {r : Bool} (h : jY c a = some r) : Fn Tryz.prog 11 [.agg (aL c), .i a] (.b r) := by
 unfold jY at h;refine Fn.of_tr Tryz.func11 rfl (rs := [.tmp 4]) Tryz.results11 Tryz.ntmps11 (Nat.le_of_ble_eq_true rfl) ?_;refine aC (aA ?_);refine bB rfl (eP (v := .agg (aL c)) (aE rfl) rfl rfl rfl) ?_;rintro _ ⟨b1, rfl⟩;refine ta (.b false) (aB (aC (aA (to (sla 0 (aL c) rfl rfl dI) (tm (.i a) ?_)))));obtain ⟨r2, h3, h⟩ := bns h;refine to (eX (aE rfl) (.func _ _ Tryz.call15) rfl rfl (aKh _ _ h3)) ?_;refine tm (.tup [.agg (aW r2.1), .b r2.2.1, .b r2.2.2]) (to (sex rfl rfl) (to (sex rfl rfl) (to (sex rfl rfl) ?_)));refine bB rfl (cR (zs := [.lit (.int .i64 0), .lit (.int .i64 0), .lit (.int .i64 0)]) (aE rfl) Tryz.zeroValue46 rfl rfl) ?_;rintro _ ⟨b4, rfl⟩;refine to (sst 1 rfl rfl Tryz.sizeOf46 (aW r2.1)) (ta (.b r2.2.1) (ta (.b r2.2.2) (aB (aC (aA (tm (.b r2.2.2) (tm (.b r2.2.2) ?_)))))));obtain ⟨b5, h6, h⟩ := bns h;refine bD 3 [] 19 b5 ?_ ?_
 ·refine bch h6 (fun c7 h6 => ?_) (fun c7 h6 => ?_)
  ·refine tk c7 (sm (.i a)) (tk c7 (scm rfl rfl rfl) (to (spt (.b (decide (0 ≤ a))) c7) ?_));obtain rfl := sIn h6;refine aB (aO rfl trivial rfl)
  ·refine tp c7 (tp c7 (to (spf (.b false) c7) ?_));obtain rfl := sIn h6;refine aB (aO rfl trivial rfl)
 ·refine ta (.b b5) (aB ?_);obtain rfl := sIn h;refine bO (bK (bN (l := [4]) ⟨rfl, trivial⟩)) ?_;exact aY ⟨rfl, _, .one _, rfl, rfl⟩

theorem aEu (a : aM) {r : Bool} (h : nM a = some r) : Fn Tryz.prog 52 [.agg (aL a)] (.b r) := by
 unfold nM at h;refine Fn.of_tr Tryz.func52 rfl (rs := [.tmp 2]) Tryz.results52 Tryz.ntmps52 (Nat.le_of_ble_eq_true rfl) ?_;refine aC (aA ?_);refine bB rfl (eP (v := .agg (aL a)) (aE rfl) rfl rfl rfl) ?_;rintro _ ⟨b1, rfl⟩;refine ta (.b false) (aB (aC (aC (aA (ta (.i 0) (aB (bA ?_)))))));refine bR (S := Int) [1] (fun s2 => [(3, .i s2)]) (fun s2 => [.box b1 0 (aL a)]) (fun k s2 => dR a k s2) (fun _ => rfl) (0) h (aP [0] rfl rfl (aI rfl (aN ⟨rfl, trivial⟩))) ?_;rintro k3 c h;simp only [dR] at h;refine aC (aC (aA (tm (.i c) (tfl 0 rfl rfl jK rfl rG (to (sle rfl oH.of) (to (scm rfl rfl rfl) (aB ?_)))))));refine tih h (fun c4 h => ?_) (fun c4 h => ?_)
 ·refine aV (aC (bA (aC (aC ?_))));obtain ⟨x5, h6, h⟩ := bns h;obtain ⟨r7, h8, h⟩ := bns h;obtain ⟨b9, o, h⟩ := bns h;refine cT mix 19 [1, 3] [(33, .b b9)] ?_ ?_
  ·refine bch o (fun e o => ?_) (fun e o => ?_)
   ·obtain rfl := sIn o;refine ⟨[(15, 0, .agg (aL a)), (16, 1, .bp b1 0 6), (17, 2, .d (.sl 2 (a.Levies.map bF))), (18, 3, .i c), (19, 4, .cp [.lit (.int .i64 x5.Person), .lit (.int .i64 x5.Mille)]), (20, 5, .cp [.lit (.int .i64 x5.Person)]), (21, 6, .i x5.Person), (22, 7, .b r7), (23, 8, .b (!r7)), (24, 9, .b (!r7)), (25, 10, .tup []), (26, 11, .tup []), (27, 12, .tup []), (28, 13, .tup []), (29, 14, .tup []), (30, 15, .tup []), (31, 16, .tup []), (32, 17, .tup []), (33, 18, .b true)], ?_, ?_⟩
    · exact dok [([], []), ([], []), ([1], []), ([], []), ([2, 3], []), ([4], []), ([5], []), ([0, 6], []), ([7], []), ([8], []), ([9], []), ([9, 10], []), ([9], []), ([9, 11, 12], []), ([9, 13], []), ([9, 14], []), ([9, 15], []), ([9, 16], []), ([9, 17], [])] ⟨go (zla 0 (aL a) rfl rfl dI),
      go (zf rfl jK),
      go (zl 0 rfl rfl rfl rG),
      go (zm (.i c)),
      go (zix rfl rfl oH.of (aX bF h6)),
      go (zfc [.lit (.int .i64 x5.Person)] rfl zK),
      go (zlc rfl aU),
      go fun S hS => gZ (aE rfl) (.func _ _ Tryz.call11) (ev2 (aR hS rfl) (ev2 (aR hS rfl) evn)) rfl (BVs.refl _ _) (oZ _ _ h8) rfl,
      go (zn rfl),
      go (zm (.b (!r7))),
      gp e,
      gp e,
      gp e,
      gp e,
      gp e,
      gp e,
      gp e,
      gp e,
      go (zpt (.b true) e), trivial⟩
    · exact cI (aI rfl (aN ⟨rfl, rfl, trivial⟩))
   ·obtain ⟨x, F, o⟩ := bns o;obtain ⟨y, G, o⟩ := bns o;obtain rfl := sIn o;refine ⟨[(15, 0, .agg (aL a)), (16, 1, .bp b1 0 6), (17, 2, .d (.sl 2 (a.Levies.map bF))), (18, 3, .i c), (19, 4, .cp [.lit (.int .i64 x5.Person), .lit (.int .i64 x5.Mille)]), (20, 5, .cp [.lit (.int .i64 x5.Person)]), (21, 6, .i x5.Person), (22, 7, .b r7), (23, 8, .b (!r7)), (24, 9, .b (!r7)), (25, 10, .bp b1 0 6), (26, 11, .d (.sl 2 (a.Levies.map bF))), (27, 12, .i c), (28, 13, .cp [.lit (.int .i64 x.Person), .lit (.int .i64 x.Mille)]), (29, 14, .cp [.lit (.int .i64 x.Mille)]), (30, 15, .i x.Mille), (31, 16, .b y), (32, 17, .b (!y)), (33, 18, .b (!y))], ?_, ?_⟩
    · exact dok [([], []), ([], []), ([1], []), ([], []), ([2, 3], []), ([4], []), ([5], []), ([0, 6], []), ([7], []), ([8], []), ([9], []), ([9, 10], []), ([9], []), ([9, 11, 12], []), ([9, 13], []), ([9, 14], []), ([9, 15], []), ([9, 16], []), ([9, 17], [])] ⟨go (zla 0 (aL a) rfl rfl dI),
      go (zf rfl jK),
      go (zl 0 rfl rfl rfl rG),
      go (zm (.i c)),
      go (zix rfl rfl oH.of (aX bF h6)),
      go (zfc [.lit (.int .i64 x5.Person)] rfl zK),
      go (zlc rfl aU),
      go fun S hS => gZ (aE rfl) (.func _ _ Tryz.call11) (ev2 (aR hS rfl) (ev2 (aR hS rfl) evn)) rfl (BVs.refl _ _) (oZ _ _ h8) rfl,
      go (zn rfl),
      go (zm (.b (!r7))),
      gt e (zf rfl jK),
      gt e (zl 0 rfl rfl rfl rG),
      gt e (zm (.i c)),
      gt e (zix rfl rfl oH.of (aX bF F)),
      gt e (zfc [.lit (.int .i64 x.Mille)] rfl aLg),
      gt e (zlc rfl aU),
      gt e fun S hS => gZ (aE rfl) (.func _ _ Tryz.call50) (ev2 (aR hS rfl) (ev2 rfl (ev2 rfl evn))) rfl (BVs.refl _ _) (eI _ _ _ G) rfl,
      gt e (zn rfl),
      go (zpf (.b (!y)) e), trivial⟩
    · exact cI (aI rfl (aN ⟨rfl, rfl, trivial⟩))
  ·refine aB ?_;refine tih h (fun H h => ?_) (fun H h => ?_)
   ·refine aC (aA (ta (.b false) (aB ?_)));obtain rfl := sIn h;refine bO (bK (bN (l := [2]) ⟨rfl, trivial⟩)) ?_;exact aY ⟨rfl, _, .one _, rfl, rfl⟩
   ·refine aV (aC (aA (ta (.i 0) (aB ?_))));refine wJ ?_;refine bR (S := Int) [1, 3] (fun z => [(4, .i z)]) (fun z => [.box b1 0 (aL a)]) (fun k z => gK (dR a k3) c a k z) (fun _ => rfl) (0) h (aP [0] rfl rfl (aI rfl (aN ⟨rfl, rfl, trivial⟩))) ?_;rintro a2 g h;simp only [gK] at h;refine aC (aC (aA (tm (.i g) (tm (.i c) (to (scm rfl rfl rfl) (aB ?_))))));refine tih h (fun I h => ?_) (fun I h => ?_)
    ·refine aV (aC (bA (aC ?_)));obtain ⟨t, J, h⟩ := bns h;obtain ⟨u, K, h⟩ := bns h;refine cT mix 12 [1, 3, 4] [(44, .i t.Person), (50, .i u.Person)] ?_ ?_
     ·refine ⟨[(39, 0, .bp b1 0 6), (40, 1, .d (.sl 2 (a.Levies.map bF))), (41, 2, .i g), (42, 3, .cp [.lit (.int .i64 t.Person), .lit (.int .i64 t.Mille)]), (43, 4, .cp [.lit (.int .i64 t.Person)]), (44, 5, .i t.Person), (45, 6, .bp b1 0 6), (46, 7, .d (.sl 2 (a.Levies.map bF))), (47, 8, .i c), (48, 9, .cp [.lit (.int .i64 u.Person), .lit (.int .i64 u.Mille)]), (49, 10, .cp [.lit (.int .i64 u.Person)]), (50, 11, .i u.Person)], ?_, ?_⟩
      · exact dok [([], []), ([0], []), ([], []), ([1, 2], []), ([3], []), ([4], []), ([], []), ([6], []), ([], []), ([7, 8], []), ([9], []), ([10], [])] ⟨go (zf rfl jK),
      go (zl 0 rfl rfl rfl rG),
      go (zm (.i g)),
      go (zix rfl rfl oH.of (aX bF J)),
      go (zfc [.lit (.int .i64 t.Person)] rfl zK),
      go (zlc rfl aU),
      go (zf rfl jK),
      go (zl 0 rfl rfl rfl rG),
      go (zm (.i c)),
      go (zix rfl rfl oH.of (aX bF K)),
      go (zfc [.lit (.int .i64 u.Person)] rfl zK),
      go (zlc rfl aU), trivial⟩
      · exact cI (aI rfl (aI rfl (aN ⟨rfl, rfl, rfl, trivial⟩)))
     ·refine to (scm rfl rfl rfl) (aB ?_);refine tih h (fun L h => ?_) (fun L h => ?_)
      ·refine aC (aA (ta (.b false) (aB ?_)));obtain rfl := sIn h;refine bO (bK (bN (l := [2]) ⟨rfl, trivial⟩)) ?_;exact aY ⟨rfl, _, .one _, rfl, rfl⟩
      ·refine cU ?_;refine aA (tm (.i g) (to (sar rfl rfl rfl) (ta (.i (w64 (g + 1))) (aB ?_))));exact ⟨(w64 (g + 1)), h, aP [0] rfl rfl (aI rfl (aN ⟨rfl, rfl, trivial⟩))⟩
    ·refine bX ?_;refine .inl ⟨rfl, ?_⟩;simp only [sC] at h;simp only [sB] at h;refine aA (tm (.i c) (to (sar rfl rfl rfl) (ta (.i (w64 (c + 1))) (aB ?_))));exact ⟨(w64 (c + 1)), h, aP [0] rfl rfl (aI rfl (aN ⟨rfl, trivial⟩))⟩
 ·refine bX ?_;refine .inl ⟨rfl, ?_⟩;simp only [lD] at h;refine aC (aC (aA (ta (.i 0) (aB (bA ?_)))));refine bR (S := Int) [1] (fun A => [(5, .i A)]) (fun A => [.box b1 0 (aL a)]) (fun k A => dS a k A) (fun _ => rfl) (0) h (aP [0] rfl rfl (aI rfl (aN ⟨rfl, trivial⟩))) ?_;rintro M f h;simp only [dS] at h;refine aC (aC (aA (tm (.i f) (tfl 0 rfl rfl kT rfl uF (to (sle rfl rM.of) (to (scm rfl rfl rfl) (aB ?_)))))));refine tih h (fun N h => ?_) (fun N h => ?_)
  ·refine aV (aC (bA (aC (aA (tfl 0 rfl rfl kT rfl uF (tm (.i f) ?_))))));obtain ⟨w, O, h⟩ := bns h;refine to (six rfl rfl rM.of (aX bG O)) (to (rO (bG w) rfl aHn) ?_);refine bB rfl (cR (zs := [.lit (.int .i64 0), .lit (.int .i64 0), .lit (.int .i64 0)]) (aE rfl) Tryz.zeroValue80 rfl rfl) ?_;rintro _ ⟨C, rfl⟩;refine to (sst 1 rfl rfl Tryz.sizeOf80 (bG w)) (aB (aC (aC (aA (to (sla 0 (aL a) rfl rfl dI) (tfl 1 rfl rfl zL rfl aU ?_))))));obtain ⟨P, Q, h⟩ := bns h;refine to (scr Tryz.call11 (oZ _ _ Q)) (to (sn rfl) (tm (.b (!P)) ?_));obtain ⟨E, p, h⟩ := bns h;refine bD 5 [1, 5, 6] 74 E ?_ ?_
   ·refine bch p (fun m p => ?_) (fun m p => ?_)
    ·refine tp m (tp m (tp m (tp m (to (spt (.b true) m) ?_))));obtain rfl := sIn p;refine aB (aO rfl ⟨rfl, rfl, rfl, trivial⟩ rfl)
    ·refine tkl 1 m rfl rfl aFv rfl aU ?_;obtain ⟨T, U, p⟩ := bns p;refine tk m (scr Tryz.call50 (eI _ _ _ U)) (tk m (sn rfl) (to (spf (.b (!T)) m) ?_));obtain rfl := sIn p;refine aB (aO rfl ⟨rfl, rfl, rfl, trivial⟩ rfl)
   ·refine tm (.b E) ?_;obtain ⟨V, q, h⟩ := bns h;refine bD 5 [1, 5, 6] 80 V ?_ ?_
    ·refine bch q (fun n q => ?_) (fun n q => ?_)
     ·refine tp n (tp n (tp n (tp n (to (spt (.b true) n) ?_))));obtain rfl := sIn q;refine aB (aO rfl ⟨rfl, rfl, rfl, trivial⟩ rfl)
     ·refine tkl 1 n rfl rfl aLh rfl aU ?_;obtain ⟨W, X, q⟩ := bns q;refine tk n (scr Tryz.call50 (eI _ _ _ X)) (tk n (sn rfl) (to (spf (.b (!W)) n) ?_));obtain rfl := sIn q;refine aB (aO rfl ⟨rfl, rfl, rfl, trivial⟩ rfl)
    ·refine aB ?_;refine tih h (fun Y h => ?_) (fun Y h => ?_)
     ·refine aC (aA (ta (.b false) (aB ?_)));obtain rfl := sIn h;refine bO (bK (bN (l := [2]) ⟨rfl, trivial⟩)) ?_;exact aY ⟨rfl, _, .one _, rfl, rfl⟩
     ·refine aV (aC (aA (ta (.i 0) (aB ?_))));refine wJ ?_;refine bR (S := Int) [1, 5, 6] (fun B => [(7, .i B)]) (fun B => [.box b1 0 (aL a), .box C 0 (bG w)]) (fun k B => gL (dS a M) f a w k B) (fun _ => rfl) (0) h (aP [0, 1] rfl rfl (aI rfl (aN ⟨rfl, rfl, rfl, trivial⟩))) ?_;rintro a3 j h;simp only [gL] at h;refine aC (aC (aA (tm (.i j) (tm (.i f) (to (scm rfl rfl rfl) (aB ?_))))));refine tih h (fun Z h => ?_) (fun Z h => ?_)
      ·refine aV (aC (bA (aC ?_)));obtain ⟨s, a0, h⟩ := bns h;refine cT mix 8 [1, 5, 6, 7] [(91, .i s.Person), (93, .i w.Person)] ?_ ?_
       ·refine ⟨[(86, 0, .bp b1 0 7), (87, 1, .d (.sl 3 (a.Rates.map bG))), (88, 2, .i j), (89, 3, .cp [.lit (.int .i64 s.Person), .lit (.int .i64 s.Num), .lit (.int .i64 s.Den)]), (90, 4, .cp [.lit (.int .i64 s.Person)]), (91, 5, .i s.Person), (92, 6, .bp C 0 0), (93, 7, .i w.Person)], ?_, ?_⟩
        · exact dok [([], []), ([0], []), ([], []), ([1, 2], []), ([3], []), ([4], []), ([], []), ([6], [])] ⟨go (zf rfl kT),
      go (zl 0 rfl rfl rfl uF),
      go (zm (.i j)),
      go (zix rfl rfl rM.of (aX bG a0)),
      go (zfc [.lit (.int .i64 s.Person)] rfl zL),
      go (zlc rfl aU),
      go (zf rfl zL),
      go (zl 1 rfl rfl rfl aU), trivial⟩
        · exact cI (aI rfl (aI rfl (aN ⟨rfl, rfl, rfl, rfl, trivial⟩)))
       ·refine to (scm rfl rfl rfl) (aB ?_);refine tih h (fun a1 h => ?_) (fun a1 h => ?_)
        ·refine aC (aA (ta (.b false) (aB ?_)));obtain rfl := sIn h;refine bO (bK (bN (l := [2]) ⟨rfl, trivial⟩)) ?_;exact aY ⟨rfl, _, .one _, rfl, rfl⟩
        ·refine cU ?_;refine aA (tm (.i j) (to (sar rfl rfl rfl) (ta (.i (w64 (j + 1))) (aB ?_))));exact ⟨(w64 (j + 1)), h, aP [0, 1] rfl rfl (aI rfl (aN ⟨rfl, rfl, rfl, trivial⟩))⟩
      ·refine bX ?_;refine .inl ⟨rfl, ?_⟩;simp only [sF] at h;simp only [sE] at h;refine aA (tm (.i f) (to (sar rfl rfl rfl) (ta (.i (w64 (f + 1))) (aB ?_))));exact ⟨(w64 (f + 1)), h, aP [0] rfl rfl (aI rfl (aN ⟨rfl, trivial⟩))⟩
  ·refine bX ?_;refine .inl ⟨rfl, ?_⟩;simp only [sD] at h;refine aC (aA (ta (.b true) (aB ?_)));obtain rfl := sIn h;refine bO (bK (bN (l := [2]) ⟨rfl, trivial⟩)) ?_;exact aY ⟨rfl, _, .one _, rfl, rfl⟩

theorem aEt (j : aM) {r : Bool} (h : nL j = some r) : Fn Tryz.prog 53 [.agg (aL j)] (.b r) := by
 unfold nL at h;refine Fn.of_tr Tryz.func53 rfl (rs := [.tmp 2]) Tryz.results53 Tryz.ntmps53 (Nat.le_of_ble_eq_true rfl) ?_;refine aC (aA ?_);refine bB rfl (eP (v := .agg (aL j)) (aE rfl) rfl rfl rfl) ?_;rintro _ ⟨b1, rfl⟩;refine ta (.b false) (aB (aC (aC (aA (ta (.i 0) (aB (bA ?_)))))));refine bR (S := Int) [1] (fun s2 => [(3, .i s2)]) (fun s2 => [.box b1 0 (aL j)]) (fun k s2 => dQ j k s2) (fun _ => rfl) (0) h (aP [0] rfl rfl (aI rfl (aN ⟨rfl, trivial⟩))) ?_;rintro k3 n h;simp only [dQ] at h;refine aC (aC (aA (tm (.i n) (tfl 0 rfl rfl eZ rfl jP (to (sle rfl cO.of) (to (scm rfl rfl rfl) (aB ?_)))))));refine tih h (fun c4 h => ?_) (fun c4 h => ?_)
 ·refine aV (aC (bA (aC (aA (tfl 0 rfl rfl eZ rfl jP (tm (.i n) ?_))))));obtain ⟨x5, h6, h⟩ := bns h;refine to (six rfl rfl cO.of (aX aD h6)) (to (rO (aD x5) rfl gI) ?_);refine bB rfl (cR (zs := [.lit (.int .i64 0), .lit (.int .i64 0), .lit (.int .i64 0), .lit (.int .i64 0)]) (aE rfl) Tryz.zeroValue76 rfl rfl) ?_;rintro _ ⟨b7, rfl⟩;refine to (sst 1 rfl rfl Tryz.sizeOf76 (aD x5)) (aB (aC (aC (aA (tfl 1 rfl rfl nW rfl aU ?_)))));obtain ⟨r8, h9, h⟩ := bns h;refine to (scr Tryz.call50 (eI _ _ _ h9)) (to (sn rfl) (tm (.b (!r8)) ?_));obtain ⟨B, u, h⟩ := bns h;refine bD 6 [1, 3, 4] 28 B ?_ ?_
  ·refine bch u (fun o u => ?_) (fun o u => ?_)
   ·refine tp o (tp o (tp o (tp o (tp o (to (spt (.b true) o) ?_)))));obtain rfl := sIn u;refine aB (aO rfl ⟨rfl, rfl, rfl, trivial⟩ rfl)
   ·refine tk o (sla 0 (aL j) rfl rfl dI) (tkl 1 o rfl rfl aFu rfl aU ?_);obtain ⟨H, I, u⟩ := bns u;refine tk o (scr Tryz.call11 (oZ _ _ I)) (tk o (sn rfl) (to (spf (.b (!H)) o) ?_));obtain rfl := sIn u;refine aB (aO rfl ⟨rfl, rfl, rfl, trivial⟩ rfl)
  ·refine tm (.b B) ?_;obtain ⟨J, q, h⟩ := bns h;refine bD 20 [1, 3, 4] 49 J ?_ ?_
   ·refine bch q (fun e q => ?_) (fun e q => ?_)
    ·refine tp e (tp e (tp e (tp e (tq (tq (tq (tp e (tp e (tq (tq (tq (tq (tq ?_)))))))))))));refine tq (tq (tq (tp e (tp e (to (spt (.b true) e) ?_)))));obtain rfl := sIn q;refine aB (aO rfl ⟨rfl, rfl, rfl, trivial⟩ rfl)
    ·refine tkl 1 e rfl rfl vK rfl aU (tk e (scm rfl rfl rfl) (tk e (sm (.b (decide (x5.Kind = 1)))) ?_));obtain ⟨C, w, q⟩ := bns q;refine bD 4 [1, 3, 4, 29, 30, 31, 32, 33] 37 C ?_ ?_
     ·refine bch w (fun s w => ?_) (fun s w => ?_)
      ·refine tkl 1 s rfl rfl zJ rfl aU ?_;obtain ⟨K, L, w⟩ := bns w;refine tk s (scr Tryz.call50 (eI _ _ _ L)) (tk e (spt (.b K) s) ?_);obtain rfl := sIn w;refine aB (aO rfl ⟨rfl, rfl, rfl, rfl, rfl, rfl, rfl, rfl, trivial⟩ rfl)
      ·refine tp s (tp s (tp s (tk e (spf (.b false) s) ?_)));obtain rfl := sIn w;refine aB (aO rfl ⟨rfl, rfl, rfl, rfl, rfl, rfl, rfl, rfl, trivial⟩ rfl)
     ·refine tk e (sm (.b C)) ?_;obtain ⟨E, x, q⟩ := bns q;refine bD 9 [1, 3, 4, 29, 30, 31, 32, 33, 37, 38] 47 E ?_ ?_
      ·refine bch x (fun m x => ?_) (fun m x => ?_)
       ·refine tp m (tp m (tp m (tp m (tq (tq (tq (tp m (tk e (spt (.b true) m) ?_))))))));obtain rfl := sIn x;refine aB (aO rfl ⟨rfl, rfl, rfl, rfl, rfl, rfl, rfl, rfl, rfl, rfl, trivial⟩ rfl)
       ·refine tkl 1 m rfl rfl vK rfl aU (tk m (scm rfl rfl rfl) (tk m (sm (.b (decide (x5.Kind = 2)))) ?_));obtain ⟨F, y, x⟩ := bns x;refine bD 4 [1, 3, 4, 29, 30, 31, 32, 33, 37, 38, 39, 40, 41, 42] 46 F ?_ ?_
        ·refine bch y (fun t y => ?_) (fun t y => ?_)
         ·refine tkl 1 t rfl rfl zJ rfl aU ?_;obtain ⟨M, N, y⟩ := bns y;refine tk t (scr Tryz.call50 (eI _ _ _ N)) (tk m (spt (.b M) t) ?_);obtain rfl := sIn y;refine aB (aO rfl ⟨rfl, rfl, rfl, rfl, rfl, rfl, rfl, rfl, rfl, rfl, rfl, rfl, rfl, rfl, trivial⟩ rfl)
         ·refine tp t (tp t (tp t (tk m (spf (.b false) t) ?_)));obtain rfl := sIn y;refine aB (aO rfl ⟨rfl, rfl, rfl, rfl, rfl, rfl, rfl, rfl, rfl, rfl, rfl, rfl, rfl, rfl, trivial⟩ rfl)
        ·refine tk e (spf (.b F) m) ?_;obtain rfl := sIn x;refine aB (aO rfl ⟨rfl, rfl, rfl, rfl, rfl, rfl, rfl, rfl, rfl, rfl, trivial⟩ rfl)
      ·refine tk e (sn rfl) (to (spf (.b (!E)) e) ?_);obtain rfl := sIn q;refine aB (aO rfl ⟨rfl, rfl, rfl, trivial⟩ rfl)
   ·refine aB ?_;refine tih h (fun O h => ?_) (fun O h => ?_)
    ·refine aC (aA (ta (.b false) (aB ?_)));obtain rfl := sIn h;refine bO (bK (bN (l := [2]) ⟨rfl, trivial⟩)) ?_;exact aY ⟨rfl, _, .one _, rfl, rfl⟩
    ·refine aV (aC (aA (ta (.i 0) (aB ?_))));refine wJ ?_;refine bR (S := Int) [1, 3, 4] (fun A => [(5, .i A)]) (fun A => [.box b1 0 (aL j), .box b7 0 (aD x5)]) (fun k A => gJ (dQ j k3) n j x5 k A) (fun _ => rfl) (0) h (aP [0, 1] rfl rfl (aI rfl (aN ⟨rfl, rfl, rfl, trivial⟩))) ?_;rintro V c h;simp only [gJ] at h;refine aC (aC (aA (tm (.i c) (tm (.i n) (to (scm rfl rfl rfl) (aB ?_))))));refine tih h (fun P h => ?_) (fun P h => ?_)
     ·refine aV (aC (bA (aC ?_)));obtain ⟨f, G, h⟩ := bns h;obtain ⟨Q, z, h⟩ := bns h;refine cT mix 18 [1, 3, 4, 5] [(72, .b Q)] ?_ ?_
      ·refine bch z (fun g z => ?_) (fun g z => ?_)
       ·obtain ⟨p, T, z⟩ := bns z;obtain rfl := sIn z;refine ⟨[(55, 0, .bp b1 0 8), (56, 1, .d (.sl 4 (j.Items.map aD))), (57, 2, .i c), (58, 3, .cp [.lit (.int .i64 f.Id), .lit (.int .i64 f.Kind), .lit (.int .i64 f.Person), .lit (.int .i64 f.Amount)]), (59, 4, .cp [.lit (.int .i64 f.Id)]), (60, 5, .i f.Id), (61, 6, .bp b7 0 0), (62, 7, .i x5.Id), (63, 8, .b (decide (f.Id = x5.Id))), (64, 9, .b (decide (f.Id = x5.Id))), (65, 10, .bp b1 0 8), (66, 11, .d (.sl 4 (j.Items.map aD))), (67, 12, .i c), (68, 13, .cp [.lit (.int .i64 p.Id), .lit (.int .i64 p.Kind), .lit (.int .i64 p.Person), .lit (.int .i64 p.Amount)]), (69, 14, .agg (aD p)), (70, 15, .agg (aD x5)), (71, 16, .b (!decide (p = x5))), (72, 17, .b (!decide (p = x5)))], ?_, ?_⟩
        · exact dok [([], []), ([0], []), ([], []), ([1, 2], []), ([3], []), ([4], []), ([], []), ([6], []), ([5, 7], []), ([8], []), ([9], []), ([9, 10], []), ([9], []), ([9, 11, 12], []), ([9, 13], []), ([9], []), ([9, 14, 15], []), ([9, 16], [])] ⟨go (zf rfl eZ),
      go (zl 0 rfl rfl rfl jP),
      go (zm (.i c)),
      go (zix rfl rfl cO.of (aX aD G)),
      go (zfc [.lit (.int .i64 f.Id)] rfl nW),
      go (zlc rfl aU),
      go (zf rfl nW),
      go (zl 1 rfl rfl rfl aU),
      go (zcm rfl rfl rfl),
      go (zm (.b (decide (f.Id = x5.Id)))),
      gt g (zf rfl eZ),
      gt g (zl 0 rfl rfl rfl jP),
      gt g (zm (.i c)),
      gt g (zix rfl rfl cO.of (aX aD T)),
      gt g (xQ (aD p) rfl gI),
      gt g (zla 1 (aD x5) rfl rfl gI),
      gt g fun S hS => aBn (a := p) (b := x5) (aE rfl) (aR hS rfl) (aR hS rfl) rfl rfl Tryz.eqGuardType76 aMf,
      go (zpt (.b (!decide (p = x5))) g), trivial⟩
        · exact cI (aI rfl (aN ⟨rfl, rfl, rfl, rfl, trivial⟩))
       ·obtain rfl := sIn z;refine ⟨[(55, 0, .bp b1 0 8), (56, 1, .d (.sl 4 (j.Items.map aD))), (57, 2, .i c), (58, 3, .cp [.lit (.int .i64 f.Id), .lit (.int .i64 f.Kind), .lit (.int .i64 f.Person), .lit (.int .i64 f.Amount)]), (59, 4, .cp [.lit (.int .i64 f.Id)]), (60, 5, .i f.Id), (61, 6, .bp b7 0 0), (62, 7, .i x5.Id), (63, 8, .b (decide (f.Id = x5.Id))), (64, 9, .b (decide (f.Id = x5.Id))), (65, 10, .tup []), (66, 11, .tup []), (67, 12, .tup []), (68, 13, .tup []), (69, 14, .tup []), (70, 15, .tup []), (71, 16, .tup []), (72, 17, .b false)], ?_, ?_⟩
        · exact dok [([], []), ([0], []), ([], []), ([1, 2], []), ([3], []), ([4], []), ([], []), ([6], []), ([5, 7], []), ([8], []), ([9], []), ([9, 10], []), ([9], []), ([9, 11, 12], []), ([9, 13], []), ([9], []), ([9, 14, 15], []), ([9, 16], [])] ⟨go (zf rfl eZ),
      go (zl 0 rfl rfl rfl jP),
      go (zm (.i c)),
      go (zix rfl rfl cO.of (aX aD G)),
      go (zfc [.lit (.int .i64 f.Id)] rfl nW),
      go (zlc rfl aU),
      go (zf rfl nW),
      go (zl 1 rfl rfl rfl aU),
      go (zcm rfl rfl rfl),
      go (zm (.b (decide (f.Id = x5.Id)))),
      gp g,
      gp g,
      gp g,
      gp g,
      gp g,
      gp g,
      gp g,
      go (zpf (.b false) g), trivial⟩
        · exact cI (aI rfl (aN ⟨rfl, rfl, rfl, rfl, trivial⟩))
      ·refine aB ?_;refine tih h (fun U h => ?_) (fun U h => ?_)
       ·refine aC (aA (ta (.b false) (aB ?_)));obtain rfl := sIn h;refine bO (bK (bN (l := [2]) ⟨rfl, trivial⟩)) ?_;exact aY ⟨rfl, _, .one _, rfl, rfl⟩
       ·refine cU ?_;refine aA (tm (.i c) (to (sar rfl rfl rfl) (ta (.i (w64 (c + 1))) (aB ?_))));exact ⟨(w64 (c + 1)), h, aP [0, 1] rfl rfl (aI rfl (aN ⟨rfl, rfl, rfl, trivial⟩))⟩
     ·refine bX ?_;refine .inl ⟨rfl, ?_⟩;simp only [sA] at h;simp only [rZ] at h;refine aA (tm (.i n) (to (sar rfl rfl rfl) (ta (.i (w64 (n + 1))) (aB ?_))));exact ⟨(w64 (n + 1)), h, aP [0] rfl rfl (aI rfl (aN ⟨rfl, trivial⟩))⟩
 ·refine bX ?_;refine .inl ⟨rfl, ?_⟩;simp only [oC] at h;refine aC (aA (tfl 0 rfl rfl eZ rfl jP (to (sle rfl cO.of) (to (scm rfl rfl rfl) (ta (.b (decide ((j.Items.length : Int) ≤ 40))) (aB ?_))))));obtain rfl := sIn h;refine bO (bK (bN (l := [2]) ⟨rfl, trivial⟩)) ?_;exact aY ⟨rfl, _, .one _, rfl, rfl⟩

theorem aAi (e : aM) {r : Int} (h : kH e = some r) : Fn Tryz.prog 24 [.agg (aL e)] (.i r) := by
 unfold kH at h;refine Fn.of_tr Tryz.func24 rfl (rs := [.tmp 2]) Tryz.results24 Tryz.ntmps24 (Nat.le_of_ble_eq_true rfl) ?_;refine aC (aA ?_);refine bB rfl (eP (v := .agg (aL e)) (aE rfl) rfl rfl rfl) ?_;rintro _ ⟨b1, rfl⟩;refine ta (.i 0) (aB (aC (aC (aA (to (sf rfl jJ) (to (sla 0 (bI e.Tree) rfl rfl nJ) (tfl 0 rfl rfl gC rfl lG ?_)))))));obtain ⟨r2, h3, h⟩ := bns h;refine to (scr Tryz.call49 (aHy _ _ h3)) (ta (.i r2) (aB (aC (aA (tm (.i r2) (to (scm rfl rfl rfl) (aB ?_)))))));refine tih h (fun c4 h => ?_) (fun c4 h => ?_)
 ·refine aC (aA (tm (.i r2) (ta (.i r2) (aB ?_))));obtain rfl := sIn h;refine bO (bK (bN (l := [2]) ⟨rfl, trivial⟩)) ?_;exact aY ⟨rfl, _, .one _, rfl, rfl⟩
 ·refine aV (aC (aC (aA (ta (.i 0) (aB (bA ?_))))));refine bR (S := Int) [1] (fun s5 => [(4, .i s5)]) (fun s5 => [.box b1 0 (aL e)]) (fun k s5 => iS e k s5) (fun _ => rfl) (0) h (aP [0] rfl rfl (aI rfl (aN ⟨rfl, trivial⟩))) ?_;rintro k6 a h;simp only [iS] at h;refine aC (aC (aA (tm (.i a) (tfl 0 rfl rfl iC rfl cQ (to (sle rfl bL.of) (to (scm rfl rfl rfl) (aB ?_)))))));refine tih h (fun c7 h => ?_) (fun c7 h => ?_)
  ·refine aV (aC (bA (aC ?_)));obtain ⟨x8, h9, h⟩ := bns h;obtain ⟨g, u, h⟩ := bns h;obtain ⟨w, o, h⟩ := bns h;refine cT mix 25 [1, 4] [(44, .b w)] ?_ ?_
   ·refine bch o (fun f o => ?_) (fun f o => ?_)
    ·obtain rfl := sIn o;refine ⟨[(20, 0, .bp b1 0 3), (21, 1, .d (.sl 1 (e.Prizes.map aK))), (22, 2, .i a), (23, 3, .cp [.lit (.int .i64 x8)]), (24, 4, .i x8), (25, 5, .b g), (26, 6, .b (!g)), (27, 7, .b (!g)), (28, 8, .tup []), (29, 9, .tup []), (30, 10, .tup []), (31, 11, .tup []), (32, 12, .tup []), (33, 13, .tup []), (34, 14, .tup []), (35, 15, .tup []), (36, 16, .tup []), (37, 17, .tup []), (38, 18, .tup []), (39, 19, .tup []), (40, 20, .tup []), (41, 21, .tup []), (42, 22, .tup []), (43, 23, .tup []), (44, 24, .b true)], ?_, ?_⟩
     · exact dok [([], []), ([0], []), ([], []), ([1, 2], []), ([3], []), ([4], []), ([5], []), ([6], []), ([7], []), ([7, 8], []), ([7, 9], []), ([10], []), ([10, 11], []), ([10], []), ([10, 12, 13], []), ([10, 14], []), ([10], []), ([10, 16], []), ([10], []), ([10, 18], []), ([10, 17, 19], []), ([10, 20], []), ([10, 15, 21], []), ([7, 10, 22], []), ([7, 23], [])] ⟨go (zf rfl iC),
      go (zl 0 rfl rfl rfl cQ),
      go (zm (.i a)),
      go (zix rfl rfl bL.of (aX aK h9)),
      go (zlc rfl aU),
      go fun S hS => gZ (aE rfl) (.func _ _ Tryz.call50) (ev2 (aR hS rfl) (ev2 rfl (ev2 rfl evn))) rfl (BVs.refl _ _) (eI _ _ _ u) rfl,
      go (zn rfl),
      go (zm (.b (!g))),
      gp f,
      gp f,
      gp f,
      gq,
      gq,
      gq,
      gq,
      gq,
      gq,
      gq,
      gq,
      gq,
      gq,
      gq,
      gq,
      gp f,
      go (zpt (.b true) f), trivial⟩
     · exact cI (aI rfl (aN ⟨rfl, rfl, trivial⟩))
    ·obtain ⟨N, m, o⟩ := bns o;refine bch m (fun c m => ?_) (fun c m => ?_)
     ·obtain ⟨p, x, m⟩ := bns m;obtain ⟨q, y, m⟩ := bns m;obtain rfl := sIn m;obtain rfl := sIn o;refine ⟨[(20, 0, .bp b1 0 3), (21, 1, .d (.sl 1 (e.Prizes.map aK))), (22, 2, .i a), (23, 3, .cp [.lit (.int .i64 x8)]), (24, 4, .i x8), (25, 5, .b g), (26, 6, .b (!g)), (27, 7, .b (!g)), (28, 8, .i a), (29, 9, .b (decide (0 < a))), (30, 10, .b (decide (0 < a))), (31, 11, .bp b1 0 3), (32, 12, .d (.sl 1 (e.Prizes.map aK))), (33, 13, .i a), (34, 14, .cp [.lit (.int .i64 p)]), (35, 15, .i p), (36, 16, .bp b1 0 3), (37, 17, .d (.sl 1 (e.Prizes.map aK))), (38, 18, .i a), (39, 19, .i (w64 (a - 1))), (40, 20, .cp [.lit (.int .i64 q)]), (41, 21, .i q), (42, 22, .b (decide (p < q))), (43, 23, .b (decide (p < q))), (44, 24, .b (decide (p < q)))], ?_, ?_⟩
      · exact dok [([], []), ([0], []), ([], []), ([1, 2], []), ([3], []), ([4], []), ([5], []), ([6], []), ([7], []), ([7, 8], []), ([7, 9], []), ([10], []), ([10, 11], []), ([10], []), ([10, 12, 13], []), ([10, 14], []), ([10], []), ([10, 16], []), ([10], []), ([10, 18], []), ([10, 17, 19], []), ([10, 20], []), ([10, 15, 21], []), ([7, 10, 22], []), ([7, 23], [])] ⟨go (zf rfl iC),
      go (zl 0 rfl rfl rfl cQ),
      go (zm (.i a)),
      go (zix rfl rfl bL.of (aX aK h9)),
      go (zlc rfl aU),
      go fun S hS => gZ (aE rfl) (.func _ _ Tryz.call50) (ev2 (aR hS rfl) (ev2 rfl (ev2 rfl evn))) rfl (BVs.refl _ _) (eI _ _ _ u) rfl,
      go (zn rfl),
      go (zm (.b (!g))),
      gt f (zm (.i a)),
      gt f (zcm rfl rfl rfl),
      gt f (zm (.b (decide (0 < a)))),
      gt c (zf rfl iC),
      gt c (zl 0 rfl rfl rfl cQ),
      gt c (zm (.i a)),
      gt c (zix rfl rfl bL.of (aX aK x)),
      gt c (zlc rfl aU),
      gt c (zf rfl iC),
      gt c (zl 0 rfl rfl rfl cQ),
      gt c (zm (.i a)),
      gt c (zar rfl rfl rfl),
      gt c (zix rfl rfl bL.of (aX aK y)),
      gt c (zlc rfl aU),
      gt c (zcm rfl rfl rfl),
      gt f (zpt (.b (decide (p < q))) c),
      go (zpf (.b (decide (p < q))) f), trivial⟩
      · exact cI (aI rfl (aN ⟨rfl, rfl, trivial⟩))
     ·obtain rfl := sIn m;obtain rfl := sIn o;refine ⟨[(20, 0, .bp b1 0 3), (21, 1, .d (.sl 1 (e.Prizes.map aK))), (22, 2, .i a), (23, 3, .cp [.lit (.int .i64 x8)]), (24, 4, .i x8), (25, 5, .b g), (26, 6, .b (!g)), (27, 7, .b (!g)), (28, 8, .i a), (29, 9, .b (decide (0 < a))), (30, 10, .b (decide (0 < a))), (31, 11, .tup []), (32, 12, .tup []), (33, 13, .tup []), (34, 14, .tup []), (35, 15, .tup []), (36, 16, .tup []), (37, 17, .tup []), (38, 18, .tup []), (39, 19, .tup []), (40, 20, .tup []), (41, 21, .tup []), (42, 22, .tup []), (43, 23, .b false), (44, 24, .b (false))], ?_, ?_⟩
      · exact dok [([], []), ([0], []), ([], []), ([1, 2], []), ([3], []), ([4], []), ([5], []), ([6], []), ([7], []), ([7, 8], []), ([7, 9], []), ([10], []), ([10, 11], []), ([10], []), ([10, 12, 13], []), ([10, 14], []), ([10], []), ([10, 16], []), ([10], []), ([10, 18], []), ([10, 17, 19], []), ([10, 20], []), ([10, 15, 21], []), ([7, 10, 22], []), ([7, 23], [])] ⟨go (zf rfl iC),
      go (zl 0 rfl rfl rfl cQ),
      go (zm (.i a)),
      go (zix rfl rfl bL.of (aX aK h9)),
      go (zlc rfl aU),
      go fun S hS => gZ (aE rfl) (.func _ _ Tryz.call50) (ev2 (aR hS rfl) (ev2 rfl (ev2 rfl evn))) rfl (BVs.refl _ _) (eI _ _ _ u) rfl,
      go (zn rfl),
      go (zm (.b (!g))),
      gt f (zm (.i a)),
      gt f (zcm rfl rfl rfl),
      gt f (zm (.b (decide (0 < a)))),
      gp c,
      gp c,
      gp c,
      gp c,
      gp c,
      gp c,
      gp c,
      gp c,
      gp c,
      gp c,
      gp c,
      gp c,
      gt f (zpf (.b false) c),
      go (zpf (.b (false)) f), trivial⟩
      · exact cI (aI rfl (aN ⟨rfl, rfl, trivial⟩))
   ·refine aB ?_;refine tih h (fun z h => ?_) (fun z h => ?_)
    ·refine aC (aA (ta (.i 100) (aB ?_)));obtain rfl := sIn h;refine bO (bK (bN (l := [2]) ⟨rfl, trivial⟩)) ?_;exact aY ⟨rfl, _, .one _, rfl, rfl⟩
    ·refine cU ?_;refine aA (tm (.i a) (to (sar rfl rfl rfl) (ta (.i (w64 (a + 1))) (aB ?_))));exact ⟨(w64 (a + 1)), h, aP [0] rfl rfl (aI rfl (aN ⟨rfl, trivial⟩))⟩
  ·refine bX ?_;refine .inl ⟨rfl, ?_⟩;simp only [rK] at h;refine aC (aC (aA (tfl 0 rfl rfl iC rfl cQ (to (sle rfl bL.of) (to (sf rfl jJ) (tfl 0 rfl rfl jI rfl aU (to (sar rfl rfl rfl) (to (scm rfl rfl rfl) (tm (.b (!decide ((e.Prizes.length : Int) = (w64 (e.Tree.Rounds + 1))))) ?_)))))))));obtain ⟨A, s, h⟩ := bns h;refine bD 5 [1] 58 A ?_ ?_
   ·refine bch s (fun j s => ?_) (fun j s => ?_)
    ·refine tp j (tp j (tp j (tp j (to (spt (.b true) j) ?_))));obtain rfl := sIn s;refine aB (aO rfl ⟨rfl, trivial⟩ rfl)
    ·refine tkl 0 j rfl rfl aLf rfl aU ?_;obtain ⟨B, C, s⟩ := bns s;refine tk j (scr Tryz.call50 (eI _ _ _ C)) (tk j (sn rfl) (to (spf (.b (!B)) j) ?_));obtain rfl := sIn s;refine aB (aO rfl ⟨rfl, trivial⟩ rfl)
   ·refine aB ?_;refine tih h (fun E h => ?_) (fun E h => ?_)
    ·refine aC (aA (ta (.i 100) (aB ?_)));obtain rfl := sIn h;refine bO (bK (bN (l := [2]) ⟨rfl, trivial⟩)) ?_;exact aY ⟨rfl, _, .one _, rfl, rfl⟩
    ·refine aV (aC (aC (aA (to (sla 0 (aL e) rfl rfl dI) ?_))));obtain ⟨F, G, h⟩ := bns h;refine to (scr Tryz.call51 (aEv _ G)) (to (sn rfl) (tm (.b (!F)) ?_));obtain ⟨H, t, h⟩ := bns h;refine bD 4 [1] 66 H ?_ ?_
     ·refine bch t (fun n t => ?_) (fun n t => ?_)
      ·refine tp n (tp n (tp n (to (spt (.b true) n) ?_)));obtain rfl := sIn t;refine aB (aO rfl ⟨rfl, trivial⟩ rfl)
      ·refine tk n (sla 0 (aL e) rfl rfl dI) ?_;obtain ⟨I, J, t⟩ := bns t;refine tk n (scr Tryz.call52 (aEu _ J)) (tk n (sn rfl) (to (spf (.b (!I)) n) ?_));obtain rfl := sIn t;refine aB (aO rfl ⟨rfl, trivial⟩ rfl)
     ·refine aB ?_;refine tih h (fun K h => ?_) (fun K h => ?_)
      ·refine aC (aA (ta (.i 101) (aB ?_)));obtain rfl := sIn h;refine bO (bK (bN (l := [2]) ⟨rfl, trivial⟩)) ?_;exact aY ⟨rfl, _, .one _, rfl, rfl⟩
      ·refine aV (aC (aC (aA (to (sla 0 (aL e) rfl rfl dI) ?_))));obtain ⟨O, L, h⟩ := bns h;refine to (scr Tryz.call53 (aEt _ L)) (to (sn rfl) (aB ?_));refine tih h (fun M h => ?_) (fun M h => ?_)
       ·refine aC (aA (ta (.i 102) (aB ?_)));obtain rfl := sIn h;refine bO (bK (bN (l := [2]) ⟨rfl, trivial⟩)) ?_;exact aY ⟨rfl, _, .one _, rfl, rfl⟩
       ·refine aV (aC (aA (ta (.i 0) (aB ?_))));obtain rfl := sIn h;refine bO (bK (bN (l := [2]) ⟨rfl, trivial⟩)) ?_;exact aY ⟨rfl, _, .one _, rfl, rfl⟩

theorem aHx (a : aM) {r : Bool} (h : nU a = some r) : Fn Tryz.prog 10 [.agg (aL a)] (.b r) := by
 unfold nU at h;refine Fn.of_tr Tryz.func10 rfl (rs := [.tmp 2]) Tryz.results10 Tryz.ntmps10 (Nat.le_of_ble_eq_true rfl) ?_;refine aC (aA ?_);refine bB rfl (eP (v := .agg (aL a)) (aE rfl) rfl rfl rfl) ?_;rintro _ ⟨b1, rfl⟩;refine ta (.b false) (aB (aC (aA (to (sla 0 (aL a) rfl rfl dI) ?_))));obtain ⟨r2, h3, h⟩ := bns h;refine to (scr Tryz.call21 (aLd _ h3)) (to (sn rfl) (tm (.b (!r2)) ?_));obtain ⟨b4, h5, h⟩ := bns h;refine bD 4 [] 10 b4 ?_ ?_
 ·refine bch h5 (fun c6 h5 => ?_) (fun c6 h5 => ?_)
  ·refine tk c6 (sla 0 (aL a) rfl rfl dI) ?_;obtain ⟨r7, h8, h5⟩ := bns h5;refine tk c6 (scr Tryz.call24 (aAi _ h8)) (tk c6 (scm rfl rfl rfl) (to (spt (.b (decide (r7 = 0))) c6) ?_));obtain rfl := sIn h5;refine aB (aO rfl trivial rfl)
  ·refine tp c6 (tp c6 (tp c6 (to (spf (.b false) c6) ?_)));obtain rfl := sIn h5;refine aB (aO rfl trivial rfl)
 ·refine ta (.b b4) (aB ?_);obtain rfl := sIn h;refine bO (bK (bN (l := [2]) ⟨rfl, trivial⟩)) ?_;exact aY ⟨rfl, _, .one _, rfl, rfl⟩

theorem aFo {r : aM} (h : oL = some r) : Fn Tryz.prog 39 [] (.agg (aL r)) := by
 unfold oL at h;refine jM Tryz.func39 rfl (rs := [.cell 0 31]) Tryz.results39 Tryz.ntmps39 (Nat.le_of_ble_eq_true rfl) ?_;refine aC (aA ?_);refine bB rfl (cR (zs := [.lit (.int .i64 0), .sl 1 ((([] : List Int)).map aK), .sl 5 ((([] : List aF)).map aJ), .sl 1 ((([] : List Int)).map aK), .lit (.int .i64 0), .sl 3 ((([] : List bE)).map aW), .sl 2 ((([] : List cA)).map bF), .sl 3 ((([] : List bT)).map bG), .sl 4 ((([] : List aG)).map aD)]) (aE rfl) Tryz.zeroValue31 rfl rfl) ?_;rintro _ ⟨b1, rfl⟩;refine aB (aC (aA (to (eK (aE rfl) bL rfl rfl (rows := ([1, 2, 3, 4]).map aK) rfl (bZ (f := aK) fun _ => rfl) rfl (by decide)) ?_)));refine to (dZ (aE rfl) bCk (zs := [.lit (.int .i64 0), .sl 1 ((([] : List Int)).map aK)]) rfl rfl rfl rfl (es := [.lit (.int .i64 2), .sl 1 ((([1, 2, 3, 4])).map aK)]) rfl) ?_;refine to (dZ (aE rfl) aXr (zs := [.lit (.int .i64 0), .lit (.int .i64 0), .lit (.int .i64 0), .lit (.int .i64 0), .lit (.int .i64 0)]) rfl rfl rfl rfl (es := [.lit (.int .i64 1), .lit (.int .i64 0), .lit (.int .i64 0), .lit (.int .i64 1), .lit (.int .i64 0)]) rfl) ?_;refine to (eK (aE rfl) eL rfl rfl (rows := ([(aF.mk 1 0 0 1 0)]).map aJ) rfl (bZ (f := aJ) fun _ => rfl) rfl (by decide)) ?_;refine to (eK (aE rfl) bL rfl rfl (rows := ([100, 300, 1001]).map aK) rfl (bZ (f := aK) fun _ => rfl) rfl (by decide)) ?_;refine to (dZ (aE rfl) aJr (zs := [.lit (.int .i64 0), .lit (.int .i64 0), .lit (.int .i64 0)]) rfl rfl rfl rfl (es := [.lit (.int .i64 1), .lit (.int .i64 11), .lit (.int .i64 12)]) rfl) ?_;refine to (dZ (aE rfl) aJr (zs := [.lit (.int .i64 0), .lit (.int .i64 0), .lit (.int .i64 0)]) rfl rfl rfl rfl (es := [.lit (.int .i64 2), .lit (.int .i64 21), .lit (.int .i64 22)]) rfl) ?_;refine to (dZ (aE rfl) aJr (zs := [.lit (.int .i64 0), .lit (.int .i64 0), .lit (.int .i64 0)]) rfl rfl rfl rfl (es := [.lit (.int .i64 3), .lit (.int .i64 31), .lit (.int .i64 (-1))]) rfl) ?_;refine to (dZ (aE rfl) aJr (zs := [.lit (.int .i64 0), .lit (.int .i64 0), .lit (.int .i64 0)]) rfl rfl rfl rfl (es := [.lit (.int .i64 4), .lit (.int .i64 41), .lit (.int .i64 (-1))]) rfl) ?_;refine to (eK (aE rfl) jQ rfl rfl (rows := ([(bE.mk 1 11 12), (bE.mk 2 21 22), (bE.mk 3 31 (-1)), (bE.mk 4 41 (-1))]).map aW) rfl (bZ (f := aW) fun _ => rfl) rfl (by decide)) ?_;refine to (dZ (aE rfl) bCl (zs := [.lit (.int .i64 0), .lit (.int .i64 0)]) rfl rfl rfl rfl (es := [.lit (.int .i64 11), .lit (.int .i64 250)]) rfl) ?_;refine to (eK (aE rfl) oH rfl rfl (rows := ([(cA.mk 11 250)]).map bF) rfl (bZ (f := bF) fun _ => rfl) rfl (by decide)) ?_;refine to (dZ (aE rfl) aXs (zs := [.lit (.int .i64 0), .lit (.int .i64 0), .lit (.int .i64 0)]) rfl rfl rfl rfl (es := [.lit (.int .i64 21), .lit (.int .i64 3), .lit (.int .i64 2)]) rfl) ?_;refine to (dZ (aE rfl) aXs (zs := [.lit (.int .i64 0), .lit (.int .i64 0), .lit (.int .i64 0)]) rfl rfl rfl rfl (es := [.lit (.int .i64 22), .lit (.int .i64 1), .lit (.int .i64 3)]) rfl) ?_;refine to (eK (aE rfl) rM rfl rfl (rows := ([(bT.mk 21 3 2), (bT.mk 22 1 3)]).map bG) rfl (bZ (f := bG) fun _ => rfl) rfl (by decide)) ?_;refine to (dZ (aE rfl) aRq (zs := [.lit (.int .i64 0), .lit (.int .i64 0), .lit (.int .i64 0), .lit (.int .i64 0)]) rfl rfl rfl rfl (es := [.lit (.int .i64 1), .lit (.int .i64 1), .lit (.int .i64 21), .lit (.int .i64 30)]) rfl) ?_;refine to (dZ (aE rfl) aRq (zs := [.lit (.int .i64 0), .lit (.int .i64 0), .lit (.int .i64 0), .lit (.int .i64 0)]) rfl rfl rfl rfl (es := [.lit (.int .i64 2), .lit (.int .i64 2), .lit (.int .i64 11), .lit (.int .i64 2)]) rfl) ?_;refine to (dZ (aE rfl) aRq (zs := [.lit (.int .i64 0), .lit (.int .i64 0), .lit (.int .i64 0), .lit (.int .i64 0)]) rfl rfl rfl rfl (es := [.lit (.int .i64 3), .lit (.int .i64 1), .lit (.int .i64 31), .lit (.int .i64 160)]) rfl) ?_;refine to (eK (aE rfl) cO rfl rfl (rows := ([(aG.mk 1 1 21 30), (aG.mk 2 2 11 2), (aG.mk 3 1 31 160)]).map aD) rfl (bZ (f := aD) fun _ => rfl) rfl (by decide)) ?_;refine to (dZ (aE rfl) aRp (zs := [.lit (.int .i64 0), .sl 1 ((([] : List Int)).map aK), .sl 5 ((([] : List aF)).map aJ), .sl 1 ((([] : List Int)).map aK), .lit (.int .i64 0), .sl 3 ((([] : List bE)).map aW), .sl 2 ((([] : List cA)).map bF), .sl 3 ((([] : List bT)).map bG), .sl 4 ((([] : List aG)).map aD)]) rfl rfl rfl rfl (es := [.lit (.int .i64 2), .sl 1 ((([1, 2, 3, 4])).map aK), .sl 5 ((([(aF.mk 1 0 0 1 0)])).map aJ), .sl 1 ((([100, 300, 1001])).map aK), .lit (.int .i64 40), .sl 3 ((([(bE.mk 1 11 12), (bE.mk 2 21 22), (bE.mk 3 31 (-1)), (bE.mk 4 41 (-1))])).map aW), .sl 2 ((([(cA.mk 11 250)])).map bF), .sl 3 ((([(bT.mk 21 3 2), (bT.mk 22 1 3)])).map bG), .sl 4 ((([(aG.mk 1 1 21 30), (aG.mk 2 2 11 2), (aG.mk 3 1 31 160)])).map aD)]) rfl) ?_;refine to (sst 0 rfl rfl Tryz.sizeOf31 (aL (aM.mk (aQ.mk 2 ([1, 2, 3, 4])) ([(aF.mk 1 0 0 1 0)]) ([100, 300, 1001]) 40 ([(bE.mk 1 11 12), (bE.mk 2 21 22), (bE.mk 3 31 (-1)), (bE.mk 4 41 (-1))]) ([(cA.mk 11 250)]) ([(bT.mk 21 3 2), (bT.mk 22 1 3)]) ([(aG.mk 1 1 21 30), (aG.mk 2 2 11 2), (aG.mk 3 1 31 160)])))) (aB ?_);obtain rfl := sIn h;exact aY ⟨rfl, _, [.box b1 0 (aL (aM.mk (aQ.mk 2 ([1, 2, 3, 4])) ([(aF.mk 1 0 0 1 0)]) ([100, 300, 1001]) 40 ([(bE.mk 1 11 12), (bE.mk 2 21 22), (bE.mk 3 31 (-1)), (bE.mk 4 41 (-1))]) ([(cA.mk 11 250)]) ([(bT.mk 21 3 2), (bT.mk 22 1 3)]) ([(aG.mk 1 1 21 30), (aG.mk 2 2 11 2), (aG.mk 3 1 31 160)])))], .one (.cell 0 31 rfl (i := 0) rfl dI (es := (aL (aM.mk (aQ.mk 2 ([1, 2, 3, 4])) ([(aF.mk 1 0 0 1 0)]) ([100, 300, 1001]) 40 ([(bE.mk 1 11 12), (bE.mk 2 21 22), (bE.mk 3 31 (-1)), (bE.mk 4 41 (-1))]) ([(cA.mk 11 250)]) ([(bT.mk 21 3 2), (bT.mk 22 1 3)]) ([(aG.mk 1 1 21 30), (aG.mk 2 2 11 2), (aG.mk 3 1 31 160)])))) rfl rfl), .refl _, .same _⟩

theorem gU (d : Int) (c : Int) (a : Int) {r : Bool} (h : gP d c a = some r) : Fn Tryz.prog 115 [.i d, .i c, .i a] (.b r) := by
 unfold gP at h;refine Fn.of_tr Tryz.func115 rfl (rs := [.tmp 6]) Tryz.results115 Tryz.ntmps115 (Nat.le_of_ble_eq_true rfl) ?_;refine aC (aA (ta (.b false) (aB (aC (aA (tm (.i c) (tm (.i d) (to (scm rfl rfl rfl) (tm (.b (decide (c ≤ d))) ?_)))))))));obtain ⟨b1, h2, h⟩ := bns h;refine bD 4 [] 14 b1 ?_ ?_
 ·refine bch h2 (fun c3 h2 => ?_) (fun c3 h2 => ?_)
  ·refine tk c3 (sm (.i d)) (tk c3 (sm (.i a)) (tk c3 (scm rfl rfl rfl) (to (spt (.b (decide (d ≤ a))) c3) ?_)));obtain rfl := sIn h2;refine aB (aO rfl trivial rfl)
  ·refine tp c3 (tp c3 (tp c3 (to (spf (.b false) c3) ?_)));obtain rfl := sIn h2;refine aB (aO rfl trivial rfl)
 ·refine ta (.b b1) (aB ?_);obtain rfl := sIn h;exact aY ⟨rfl, _, .one _, rfl, rfl⟩

theorem aLa (g : aQ) {r : Bool} (h : qO g = some r) : Fn Tryz.prog 100 [.agg (bI g)] (.b r) := by
 unfold qO at h;refine Fn.of_tr Tryz.func100 rfl (rs := [.tmp 2]) Tryz.results100 Tryz.ntmps100 (Nat.le_of_ble_eq_true rfl) ?_;refine aC (aA ?_);refine bB rfl (eP (v := .agg (bI g)) (aE rfl) rfl rfl rfl) ?_;rintro _ ⟨b1, rfl⟩;refine ta (.b false) (aB (aC (aC ?_)));obtain ⟨r2, h3, h⟩ := bns h;obtain ⟨b4, h5, h⟩ := bns h;refine cT mix 13 [1] [(18, .b b4)] ?_ ?_
 ·refine bch h5 (fun c6 h5 => ?_) (fun c6 h5 => ?_)
  ·obtain rfl := sIn h5;refine ⟨[(6, 0, .bp b1 0 0), (7, 1, .i g.Rounds), (8, 2, .b r2), (9, 3, .b (!r2)), (10, 4, .b (!r2)), (11, 5, .tup []), (12, 6, .tup []), (13, 7, .tup []), (14, 8, .tup []), (15, 9, .tup []), (16, 10, .tup []), (17, 11, .tup []), (18, 12, .b true)], ?_, ?_⟩
   · exact dok [([], []), ([0], []), ([1], []), ([2], []), ([3], []), ([4], []), ([4, 5], []), ([4, 6], []), ([4], []), ([4, 8], []), ([4, 9], []), ([4, 7, 10], []), ([4, 11], [])] ⟨go (zf rfl jI),
      go (zl 0 rfl rfl rfl aU),
      go fun S hS => gZ (aE rfl) (.func _ _ Tryz.call115) (ev2 (aR hS rfl) (ev2 rfl (ev2 rfl evn))) rfl (BVs.refl _ _) (gU _ _ _ h3) rfl,
      go (zn rfl),
      go (zm (.b (!r2))),
      gp c6,
      gp c6,
      gp c6,
      gp c6,
      gp c6,
      gp c6,
      gp c6,
      go (zpt (.b true) c6), trivial⟩
   · exact cI (aI rfl (aN ⟨rfl, trivial⟩))
  ·obtain ⟨u7, h8, h5⟩ := bns h5;obtain rfl := sIn h5;refine ⟨[(6, 0, .bp b1 0 0), (7, 1, .i g.Rounds), (8, 2, .b r2), (9, 3, .b (!r2)), (10, 4, .b (!r2)), (11, 5, .bp b1 0 1), (12, 6, .d (.sl 1 (g.Slots.map aK))), (13, 7, .i (g.Slots.length : Int)), (14, 8, .bp b1 0 0), (15, 9, .i g.Rounds), (16, 10, .i (w64 (1 * 2 ^ (min g.Rounds.toNat 64)))), (17, 11, .b (!decide ((g.Slots.length : Int) = (w64 (1 * 2 ^ (min g.Rounds.toNat 64)))))), (18, 12, .b (!decide ((g.Slots.length : Int) = (w64 (1 * 2 ^ (min g.Rounds.toNat 64))))))], ?_, ?_⟩
   · exact dok [([], []), ([0], []), ([1], []), ([2], []), ([3], []), ([4], []), ([4, 5], []), ([4, 6], []), ([4], []), ([4, 8], []), ([4, 9], []), ([4, 7, 10], []), ([4, 11], [])] ⟨go (zf rfl jI),
      go (zl 0 rfl rfl rfl aU),
      go fun S hS => gZ (aE rfl) (.func _ _ Tryz.call115) (ev2 (aR hS rfl) (ev2 rfl (ev2 rfl evn))) rfl (BVs.refl _ _) (gU _ _ _ h3) rfl,
      go (zn rfl),
      go (zm (.b (!r2))),
      gt c6 (zf rfl dL),
      gt c6 (zl 0 rfl rfl rfl cQ),
      gt c6 (zle rfl bL.of),
      gt c6 (zf rfl jI),
      gt c6 (zl 0 rfl rfl rfl aU),
      gt c6 fun S hS => aPn (aE rfl) rfl (aR hS rfl) (aDn h8),
      gt c6 (zcm rfl rfl rfl),
      go (zpf (.b (!decide ((g.Slots.length : Int) = (w64 (1 * 2 ^ (min g.Rounds.toNat 64)))))) c6), trivial⟩
   · exact cI (aI rfl (aN ⟨rfl, trivial⟩))
 ·refine aB ?_;refine tih h (fun c9 h => ?_) (fun c9 h => ?_)
  ·refine aC (aA (ta (.b false) (aB ?_)));obtain rfl := sIn h;refine bO (bK (bN (l := [2]) ⟨rfl, trivial⟩)) ?_;exact aY ⟨rfl, _, .one _, rfl, rfl⟩
  ·refine aV (aC (aA ?_));refine bB rfl (aEa (aE rfl)) ?_;rintro _ ⟨t, rfl⟩;refine ta (.d (.lit (.map (some t)))) (aB (aC (aC (aA (tfl 0 rfl rfl dL rfl cQ (to (sle rfl bL.of) (tm (.i 0) (aB (bA ?_)))))))));refine bR (S := Int × (List (Int × Int)) × (List Nat) × Nat) [1, 3, 21, 22] (fun o => [(23, .i o.1)]) (fun o => [.box b1 0 (bI g), .map t (o.2.1.map fun p : Int × Int => ((fun n : Int => Value.int .i64 n) p.1, (fun v : Int => AV.i v) p.2)) o.2.2.1 o.2.2.2]) (fun k o => jT g.Slots (g.Slots.length : Int) g k o.1 o.2.1) (fun _ => rfl) (0, ([] : List (Int × Int)), [], 0) h (aP [0, 1] rfl rfl (aI rfl (aN ⟨rfl, rfl, rfl, rfl, trivial⟩))) ?_;rintro H ⟨f, c, u, s⟩ h;simp only [jT] at h;refine aC (aA (to (scm rfl rfl rfl) (aB (aC ?_))));refine tih h (fun w h => ?_) (fun w h => ?_)
   ·refine aV (aC (bA (aC (aA (tm (.i f) ?_)))));obtain ⟨e, x, h⟩ := bns h;refine to (six rfl rfl bL.of (aX aK x)) (to (slc rfl aU) (ta (.i f) (ta (.i e) (aB (aC (aC (aA (tm (.i e) (to (scm rfl rfl rfl) (aB ?_))))))))));refine tih h (fun y h => ?_) (fun y h => ?_)
    ·refine aC (aC (aA (tfl 0 rfl rfl dL rfl cQ (tm (.i f) (to (aXb (aE rfl) rfl rfl (.inr (.inr ⟨rfl, rfl⟩))) ?_)))));obtain ⟨I, A, h⟩ := bns h;refine to (six rfl rfl bL.of (aX aK A)) (to (slc rfl aU) (to (scm rfl rfl rfl) (aB ?_)));refine tih h (fun B h => ?_) (fun B h => ?_)
     ·refine aC (aA (ta (.b false) (aB ?_)));obtain rfl := sIn h;refine bO (bK (bN (l := [2]) ⟨rfl, trivial⟩)) ?_;exact aY ⟨rfl, _, .one _, rfl, rfl⟩
     ·refine aV ?_;refine bX ?_;refine .inl ⟨rfl, ?_⟩;refine aA (to (sar rfl rfl rfl) (tm (.i (w64 (f + 1))) (aB ?_)));exact ⟨(w64 (f + 1), c, u, s), h, aP [0, 1] rfl rfl (aI rfl (aN ⟨rfl, rfl, rfl, rfl, trivial⟩))⟩
    ·refine aV (aC (aA (tm (.d (.lit (.map (some t)))) (tm (.i e) (to (aGq (av := (fun v : Int => AV.i v)) (l := c) (z := 0) (a := e) (m := 1) (aE rfl) aUp Tryz.underlying157 Tryz.zeroValue3 (fun _ _ => .d (.lit _ rfl)) rfl rfl rfl rfl (aIj (kv := (fun n : Int => Value.int .i64 n)) e)) ?_)))));refine to (sar rfl rfl rfl) (to (aEn (av := (fun v : Int => AV.i v)) (l := c) (v := w64 ((dA e 0 c) + 1)) (a := e) (m := 1) aUp Tryz.underlying157 rfl rfl rfl rfl (aIj (kv := (fun n : Int => Value.int .i64 n)) e) rfl rfl) ?_);refine aB (aC (aA (tm (.d (.lit (.map (some t)))) (tm (.i e) (to (aGq (av := (fun v : Int => AV.i v)) (l := (iD e (w64 ((dA e 0 c) + 1)) c)) (z := 0) (a := e) (m := 1) (aE rfl) aUp Tryz.underlying157 Tryz.zeroValue3 (fun _ _ => .d (.lit _ rfl)) rfl rfl rfl rfl (aIj (kv := (fun n : Int => Value.int .i64 n)) e)) ?_)))));refine to (scm rfl rfl rfl) (tm (.b (decide (1 < (dA e 0 (iD e (w64 ((dA e 0 c) + 1)) c))))) ?_);obtain ⟨C, q, h⟩ := bns h;refine bD 4 [1, 3, 21, 22, 23] 49 C ?_ ?_
     ·refine bch q (fun j q => ?_) (fun j q => ?_)
      ·refine tp j (tp j (tp j (to (spt (.b true) j) ?_)));obtain rfl := sIn q;refine aB (aO rfl ⟨rfl, rfl, rfl, rfl, rfl, trivial⟩ rfl)
      ·refine tk j (sm (.i e)) ?_;obtain ⟨E, F, q⟩ := bns q;refine tk j (scr Tryz.call115 (gU _ _ _ F)) (tk j (sn rfl) (to (spf (.b (!E)) j) ?_));obtain rfl := sIn q;refine aB (aO rfl ⟨rfl, rfl, rfl, rfl, rfl, trivial⟩ rfl)
     ·refine aB ?_;refine tih h (fun G h => ?_) (fun G h => ?_)
      ·refine aC (aA (ta (.b false) (aB ?_)));obtain rfl := sIn h;refine bO (bK (bN (l := [2]) ⟨rfl, trivial⟩)) ?_;exact aY ⟨rfl, _, .one _, rfl, rfl⟩
      ·refine cU ?_;refine aA (to (sar rfl rfl rfl) (tm (.i (w64 (f + 1))) (aB ?_)));exact ⟨(w64 (f + 1), (iD e (w64 ((dA e 0 c) + 1)) c), (mbs e c u s), (mck e c s)), h, aP [0, 1] rfl rfl (aI rfl (aN ⟨rfl, rfl, rfl, rfl, trivial⟩))⟩
   ·refine bX ?_;refine .inl ⟨rfl, ?_⟩;simp only [wK] at h;refine aC (aA (ta (.b true) (aB ?_)));obtain rfl := sIn h;refine bO (bK (bN (l := [2]) ⟨rfl, trivial⟩)) ?_;exact aY ⟨rfl, _, .one _, rfl, rfl⟩

theorem aAs (e : List aF) (g : aF → Option Bool) {r : Int} (c : Nat) (f : List AV) (j : ∀ args w, (callFunc c args).run Tryz.prog w = .ok (.enter c args) w) (l : ∀ (x0 : aF) r, g x0 = some r → Fn Tryz.prog c ([.agg (aJ x0)] ++ f) (.b r)) (h : kC e g = some r) : Fn Tryz.prog 117 [.d (.sl 5 (e.map aJ)), .fn c f] (.i r) := by
 unfold kC at h;refine Fn.of_tr Tryz.func117 rfl (rs := [.tmp 4]) Tryz.results117 Tryz.ntmps117 (Nat.le_of_ble_eq_true rfl) ?_;refine aC (aA (ta (.i 0) (aB (aC (aC (aA (tm (.d (.sl 5 (e.map aJ))) (to (sle rfl eL.of) (tm (.i 0) (aB (bA ?_)))))))))));refine bR (S := Int) [0, 1, 7] (fun s1 => [(8, .i s1)]) (fun s1 => []) (fun k s1 => fM e g (e.length : Int) k s1) (fun _ => rfl) (0) h (aP [] rfl rfl (aI rfl (aN ⟨rfl, rfl, rfl, trivial⟩))) ?_;rintro k2 a h;simp only [fM] at h;refine aC (aA (to (scm rfl rfl rfl) (aB (aC ?_))));refine tih h (fun c3 h => ?_) (fun c3 h => ?_)
 ·refine aV (aC (bA (aC (aA (tm (.i a) (ta (.i a) (aB (aC (aA (tm (.fn c f) (tm (.d (.sl 5 (e.map aJ))) (tm (.i a) ?_))))))))))));obtain ⟨x4, h5, h⟩ := bns h;refine to (six rfl rfl eL.of (aX aJ h5)) (to (rO (aJ x4) rfl mA) ?_);obtain ⟨r6, h7, h⟩ := bns h;refine to (gZ (aE rfl) (.clo _ _ _ _ j rfl) (aCb rfl) rfl (BVs.refl _ _) (l _ _  h7) rfl) ?_;refine aB ?_;refine tih h (fun c8 h => ?_) (fun c8 h => ?_)
  ·refine aC (aA (tm (.i a) (ta (.i a) (aB ?_))));obtain rfl := sIn h;exact aY ⟨rfl, _, .one _, rfl, rfl⟩
  ·refine cU ?_;refine aA (to (sar rfl rfl rfl) (tm (.i (w64 (a + 1))) (aB ?_)));exact ⟨(w64 (a + 1)), h, aP [] rfl rfl (aI rfl (aN ⟨rfl, rfl, rfl, trivial⟩))⟩
 ·refine bX ?_;refine .inl ⟨rfl, ?_⟩;simp only [oA] at h;refine aC (aA (ta (.i (-1)) (aB ?_)));obtain rfl := sIn h;exact aY ⟨rfl, _, .one _, rfl, rfl⟩

theorem yW (e : List aF) (i : aF → Option Bool) {r : Bool} (a : Nat) (c : List AV) (f : ∀ args w, (callFunc a args).run Tryz.prog w = .ok (.enter a args) w) (g : ∀ (x0 : aF) r, i x0 = some r → Fn Tryz.prog a ([.agg (aJ x0)] ++ c) (.b r)) (h : iW e i = some r) : Fn Tryz.prog 101 [.d (.sl 5 (e.map aJ)), .fn a c] (.b r) := by
 unfold iW at h;refine Fn.of_tr Tryz.func101 rfl (rs := [.tmp 4]) Tryz.results101 Tryz.ntmps101 (Nat.le_of_ble_eq_true rfl) ?_;refine aC (aA (ta (.b false) (aB (aC (aA (tm (.d (.sl 5 (e.map aJ))) (tm (.fn a c) ?_)))))));obtain ⟨r1, h2, h⟩ := bns h;refine to (scr Tryz.call117 (aAs _ _ a c f g h2)) (to (scm rfl rfl rfl) (ta (.b (decide (0 ≤ r1))) (aB ?_)));obtain rfl := sIn h;exact aY ⟨rfl, _, .one _, rfl, rfl⟩

theorem aHt (c : aH) (a : aQ) {r : Bool} (h : qY c a = some r) : Fn Tryz.prog 118 [.agg (aS c), .agg (bI a)] (.b r) := by
 unfold qY at h;refine Fn.of_tr Tryz.func118 rfl (rs := [.tmp 4]) Tryz.results118 Tryz.ntmps118 (Nat.le_of_ble_eq_true rfl) ?_;refine aC (aA ?_);refine bB rfl (eP (v := .agg (aS c)) (aE rfl) rfl rfl rfl) ?_;rintro _ ⟨b1, rfl⟩;refine bB rfl (eP (v := .agg (bI a)) (aE rfl) rfl rfl rfl) ?_;rintro _ ⟨b2, rfl⟩;refine ta (.b false) (aB (aC ?_));obtain ⟨r3, h4, h⟩ := bns h;obtain ⟨b5, h6, h⟩ := bns h;refine cT mix 19 [] [(23, .b b5)] ?_ ?_
 ·refine bch h6 (fun c7 h6 => ?_) (fun c7 h6 => ?_)
  ·obtain ⟨u8, h9, h6⟩ := bns h6;obtain ⟨e, f, h6⟩ := bns h6;obtain rfl := sIn h6;refine ⟨[(5, 0, .bp b1 0 0), (6, 1, .i c.round), (7, 2, .bp b2 0 0), (8, 3, .i a.Rounds), (9, 4, .i (w64 (a.Rounds - 1))), (10, 5, .b r3), (11, 6, .b r3), (12, 7, .bp b1 0 1), (13, 8, .i c.place), (14, 9, .bp b2 0 1), (15, 10, .d (.sl 1 (a.Slots.map aK))), (16, 11, .i (a.Slots.length : Int)), (17, 12, .bp b1 0 0), (18, 13, .i c.round), (19, 14, .i (w64 (c.round + 1))), (20, 15, .i ((a.Slots.length : Int).fdiv (2 ^ (min (w64 (c.round + 1)).toNat 64)))), (21, 16, .i (w64 (((a.Slots.length : Int).fdiv (2 ^ (min (w64 (c.round + 1)).toNat 64))) - 1))), (22, 17, .b e), (23, 18, .b e)], ?_, ?_⟩
   · exact dok [([], []), ([0], []), ([], []), ([2], []), ([3], []), ([1, 4], []), ([5], []), ([6], []), ([6, 7], []), ([6], []), ([6, 9], []), ([6, 10], []), ([6], []), ([6, 12], []), ([6, 13], []), ([6, 11, 14], []), ([6, 15], []), ([6, 8, 16], []), ([6, 17], [])] ⟨go (zf rfl vJ),
      go (zl 0 rfl rfl rfl aU),
      go (zf rfl jI),
      go (zl 1 rfl rfl rfl aU),
      go (zar rfl rfl rfl),
      go fun S hS => gZ (aE rfl) (.func _ _ Tryz.call115) (ev2 (aR hS rfl) (ev2 rfl (ev2 (aR hS rfl) evn))) rfl (BVs.refl _ _) (gU _ _ _ h4) rfl,
      go (zm (.b r3)),
      gt c7 (zf rfl aWb),
      gt c7 (zl 0 rfl rfl rfl aU),
      gt c7 (zf rfl dL),
      gt c7 (zl 1 rfl rfl rfl cQ),
      gt c7 (zle rfl bL.of),
      gt c7 (zf rfl vJ),
      gt c7 (zl 0 rfl rfl rfl aU),
      gt c7 (zar rfl rfl rfl),
      gt c7 fun S hS => aBo (aE rfl) (aR hS rfl) (aR hS rfl) (aDn h9),
      gt c7 (zar rfl rfl rfl),
      gt c7 fun S hS => gZ (aE rfl) (.func _ _ Tryz.call115) (ev2 (aR hS rfl) (ev2 rfl (ev2 (aR hS rfl) evn))) rfl (BVs.refl _ _) (gU _ _ _ f) rfl,
      go (zpt (.b e) c7), trivial⟩
   · exact cI (aI rfl (aN trivial))
  ·obtain rfl := sIn h6;refine ⟨[(5, 0, .bp b1 0 0), (6, 1, .i c.round), (7, 2, .bp b2 0 0), (8, 3, .i a.Rounds), (9, 4, .i (w64 (a.Rounds - 1))), (10, 5, .b r3), (11, 6, .b r3), (12, 7, .tup []), (13, 8, .tup []), (14, 9, .tup []), (15, 10, .tup []), (16, 11, .tup []), (17, 12, .tup []), (18, 13, .tup []), (19, 14, .tup []), (20, 15, .tup []), (21, 16, .tup []), (22, 17, .tup []), (23, 18, .b false)], ?_, ?_⟩
   · exact dok [([], []), ([0], []), ([], []), ([2], []), ([3], []), ([1, 4], []), ([5], []), ([6], []), ([6, 7], []), ([6], []), ([6, 9], []), ([6, 10], []), ([6], []), ([6, 12], []), ([6, 13], []), ([6, 11, 14], []), ([6, 15], []), ([6, 8, 16], []), ([6, 17], [])] ⟨go (zf rfl vJ),
      go (zl 0 rfl rfl rfl aU),
      go (zf rfl jI),
      go (zl 1 rfl rfl rfl aU),
      go (zar rfl rfl rfl),
      go fun S hS => gZ (aE rfl) (.func _ _ Tryz.call115) (ev2 (aR hS rfl) (ev2 rfl (ev2 (aR hS rfl) evn))) rfl (BVs.refl _ _) (gU _ _ _ h4) rfl,
      go (zm (.b r3)),
      gp c7,
      gp c7,
      gp c7,
      gp c7,
      gp c7,
      gp c7,
      gp c7,
      gp c7,
      gp c7,
      gp c7,
      gp c7,
      go (zpf (.b false) c7), trivial⟩
   · exact cI (aI rfl (aN trivial))
 ·refine ta (.b b5) (aB ?_);obtain rfl := sIn h;refine bO (bK (bN (l := [4]) ⟨rfl, trivial⟩)) ?_;exact aY ⟨rfl, _, .one _, rfl, rfl⟩

theorem vW (b : List Int) (c : Int) {r : Int} (h : iL b c = some r) : Fn Tryz.prog 89 [.d (.sl 1 (b.map aK)), .i c] (.i r) := by
 unfold iL at h;refine Fn.of_tr Tryz.func89 rfl (rs := [.tmp 4]) Tryz.results89 Tryz.ntmps89 (Nat.le_of_ble_eq_true rfl) ?_;refine aC (aA (ta (.i 0) (aB (aC (aC (aA (tm (.d (.sl 1 (b.map aK))) (to (sle rfl bL.of) (tm (.i 0) (aB (bA ?_)))))))))));refine bR (S := Int) [0, 1, 7] (fun s1 => [(8, .i s1)]) (fun s1 => []) (fun k s1 => jZ b c (b.length : Int) k s1) (fun _ => rfl) (0) h (aP [] rfl rfl (aI rfl (aN ⟨rfl, rfl, rfl, trivial⟩))) ?_;rintro k2 a h;simp only [jZ] at h;refine aC (aA (to (scm rfl rfl rfl) (aB (aC ?_))));refine tih h (fun c3 h => ?_) (fun c3 h => ?_)
 ·refine aV (aC (bA (aC (aA (tm (.i a) (ta (.i a) (aB (aC (aA (tm (.i c) (tm (.d (.sl 1 (b.map aK))) (tm (.i a) ?_))))))))))));obtain ⟨x4, h5, h⟩ := bns h;refine to (six rfl rfl bL.of (aX aK h5)) (to (slc rfl aU) (to (scm rfl rfl rfl) (aB ?_)));refine tih h (fun c6 h => ?_) (fun c6 h => ?_)
  ·refine aC (aA (tm (.i a) (ta (.i a) (aB ?_))));obtain rfl := sIn h;exact aY ⟨rfl, _, .one _, rfl, rfl⟩
  ·refine cU ?_;refine aA (to (sar rfl rfl rfl) (tm (.i (w64 (a + 1))) (aB ?_)));exact ⟨(w64 (a + 1)), h, aP [] rfl rfl (aI rfl (aN ⟨rfl, rfl, rfl, trivial⟩))⟩
 ·refine bX ?_;refine .inl ⟨rfl, ?_⟩;simp only [uU] at h;refine aC (aA (ta (.i (-1)) (aB ?_)));obtain rfl := sIn h;exact aY ⟨rfl, _, .one _, rfl, rfl⟩

theorem fI (a : List Int) (c : Int) {r : Bool} (h : dH a c = some r) : Fn Tryz.prog 60 [.d (.sl 1 (a.map aK)), .i c] (.b r) := by
 unfold dH at h;refine Fn.of_tr Tryz.func60 rfl (rs := [.tmp 4]) Tryz.results60 Tryz.ntmps60 (Nat.le_of_ble_eq_true rfl) ?_;refine aC (aA (ta (.b false) (aB (aC (aA (tm (.d (.sl 1 (a.map aK))) (tm (.i c) ?_)))))));obtain ⟨r1, h2, h⟩ := bns h;refine to (scr Tryz.call89 (vW _ _ h2)) (to (scm rfl rfl rfl) (ta (.b (decide (0 ≤ r1))) (aB ?_)));obtain rfl := sIn h;exact aY ⟨rfl, _, .one _, rfl, rfl⟩

theorem aKz (n : aQ) (d : aF) {r : Bool} (h : sP n d = some r) : Fn Tryz.prog 103 [.agg (bI n), .agg (aJ d)] (.b r) := by
 unfold sP at h;refine Fn.of_tr Tryz.func103 rfl (rs := [.tmp 4]) Tryz.results103 Tryz.ntmps103 (Nat.le_of_ble_eq_true rfl) ?_;refine aC (aA ?_);refine bB rfl (eP (v := .agg (bI n)) (aE rfl) rfl rfl rfl) ?_;rintro _ ⟨b1, rfl⟩;refine bB rfl (eP (v := .agg (aJ d)) (aE rfl) rfl rfl rfl) ?_;rintro _ ⟨b2, rfl⟩;refine ta (.b false) (aB (aC (aC (aA (tfl 1 rfl rfl pH rfl aU ?_)))));obtain ⟨r3, h4, h⟩ := bns h;refine to (scr Tryz.call115 (gU _ _ _ h4)) (to (sn rfl) (aB ?_));refine tih h (fun c5 h => ?_) (fun c5 h => ?_)
 ·refine aC (aA (ta (.b false) (aB ?_)));obtain rfl := sIn h;refine bO (bK (bN (l := [4]) ⟨rfl, trivial⟩)) ?_;exact aY ⟨rfl, _, .one _, rfl, rfl⟩
 ·refine aV (aC (aC (aA (tfl 1 rfl rfl pG rfl aU (to (scm rfl rfl rfl) (aB ?_))))));refine tih h (fun c6 h => ?_) (fun c6 h => ?_)
  ·refine aC (aA (tfl 1 rfl rfl rE rfl aU (to (scm rfl rfl rfl) (tm (.b (decide (d.Round = 0))) ?_))));obtain ⟨b7, h8, h⟩ := bns h;refine bD 8 [3] 24 b7 ?_ ?_
   ·refine bch h8 (fun c h8 => ?_) (fun c h8 => ?_)
    ·refine tkl 1 c rfl rfl lT rfl aU (tkl 0 c rfl rfl dL rfl cQ (tk c (sle rfl bL.of) (tk c (sar rfl rfl rfl) ?_)));obtain ⟨q, s, h8⟩ := bns h8;refine tk c (scr Tryz.call115 (gU _ _ _ s)) (to (spt (.b q) c) ?_);obtain rfl := sIn h8;refine aB (aO rfl ⟨rfl, trivial⟩ rfl)
    ·refine tp c (tp c (tp c (tp c (tp c (tp c (tp c (to (spf (.b false) c) ?_)))))));obtain rfl := sIn h8;refine aB (aO rfl ⟨rfl, trivial⟩ rfl)
   ·refine tm (.b b7) ?_;obtain ⟨b9, j, h⟩ := bns h;refine bD 4 [] 29 b9 ?_ ?_
    ·refine bch j (fun g j => ?_) (fun g j => ?_)
     ·refine tkl 1 g rfl rfl zI rfl aU ?_;obtain ⟨t, u, j⟩ := bns j;refine tk g (scr Tryz.call115 (gU _ _ _ u)) (to (spt (.b t) g) ?_);obtain rfl := sIn j;refine aB (aO rfl trivial rfl)
     ·refine tp g (tp g (tp g (to (spf (.b false) g) ?_)));obtain rfl := sIn j;refine aB (aO rfl trivial rfl)
    ·refine ta (.b b9) (aB ?_);obtain rfl := sIn h;refine bO (bK (bN (l := [4]) ⟨rfl, trivial⟩)) ?_;exact aY ⟨rfl, _, .one _, rfl, rfl⟩
  ·refine aV (aC (aA (tfl 1 rfl rfl rE rfl aU (tfl 1 rfl rfl lT rfl aU (to (dZ (aE rfl) aNy (zs := [.lit (.int .i64 0), .lit (.int .i64 0)]) rfl rfl rfl rfl (es := [.lit (.int .i64 d.Round), .lit (.int .i64 d.Place)]) rfl) ?_)))));refine bB rfl (cR (zs := [.lit (.int .i64 0), .lit (.int .i64 0)]) (aE rfl) Tryz.zeroValue155 rfl rfl) ?_;rintro _ ⟨G, rfl⟩;refine to (sst 2 rfl rfl Tryz.sizeOf155 (aS (aH.mk d.Round d.Place))) (aB (aC (aC (aA (tfl 1 rfl rfl pG rfl aU ?_)))));obtain ⟨w, x, h⟩ := bns h;refine to (scr Tryz.call115 (gU _ _ _ x)) (to (sn rfl) (tm (.b (!w)) ?_));obtain ⟨o, m, h⟩ := bns h;refine bD 4 [2, 3, 5] 43 o ?_ ?_
   ·refine bch m (fun i m => ?_) (fun i m => ?_)
    ·refine tp i (tp i (tp i (to (spt (.b true) i) ?_)));obtain rfl := sIn m;refine aB (aO rfl ⟨rfl, rfl, rfl, trivial⟩ rfl)
    ·refine tkl 1 i rfl rfl zI rfl aU (tk i (scm rfl rfl rfl) (to (spf (.b (!decide (d.Old = 0))) i) ?_));obtain rfl := sIn m;refine aB (aO rfl ⟨rfl, rfl, rfl, trivial⟩ rfl)
   ·refine tm (.b o) ?_;obtain ⟨y, k, h⟩ := bns h;refine bD 5 [2, 3] 49 y ?_ ?_
    ·refine bch k (fun e k => ?_) (fun e k => ?_)
     ·refine tp e (tp e (tp e (tp e (to (spt (.b true) e) ?_))));obtain rfl := sIn k;refine aB (aO rfl ⟨rfl, rfl, trivial⟩ rfl)
     ·refine tk e (sla 2 (aS (aH.mk d.Round d.Place)) rfl rfl xT) (tk e (sla 0 (bI n) rfl rfl nJ) ?_);obtain ⟨z, A, k⟩ := bns k;refine tk e (scr Tryz.call118 (aHt _ _ A)) (tk e (sn rfl) (to (spf (.b (!z)) e) ?_));obtain rfl := sIn k;refine aB (aO rfl ⟨rfl, rfl, trivial⟩ rfl)
    ·refine aB ?_;refine tih h (fun B h => ?_) (fun B h => ?_)
     ·refine aC (aA (ta (.b false) (aB ?_)));obtain rfl := sIn h;refine bO (bK (bN (l := [4]) ⟨rfl, trivial⟩)) ?_;exact aY ⟨rfl, _, .one _, rfl, rfl⟩
     ·refine aV (aC (aA (tfl 1 rfl rfl rE rfl aU (to (scm rfl rfl rfl) (tm (.b (decide (0 < d.Round))) ?_)))));obtain ⟨p, f, h⟩ := bns h;refine bD 13 [] 66 p ?_ ?_
      ·refine bch f (fun a f => ?_) (fun a f => ?_)
       ·refine tp a (tp a (tp a (tp a (tp a (tp a (tp a (tp a (tp a (tp a (tp a (tp a (to (spt (.b true) a) ?_))))))))))));obtain rfl := sIn f;refine aB (aO rfl trivial rfl)
       ·refine tkl 0 a rfl rfl dL rfl cQ (tkl 1 a rfl rfl lT rfl aU (tk a (sar rfl rfl rfl) (tkl 1 a rfl rfl lT rfl aU (tk a (sar rfl rfl rfl) (tk a (sar rfl rfl rfl) ?_)))));obtain ⟨H, C, f⟩ := bns f;refine tk a (aGr (aE rfl) bL.of rfl rfl rfl (aNz aK C)) ?_;obtain ⟨E, F, f⟩ := bns f;refine tk a (scr Tryz.call60 (fI _ _ F)) (tk a (sn rfl) (to (spf (.b (!E)) a) ?_));obtain rfl := sIn f;refine aB (aO rfl trivial rfl)
      ·refine ta (.b p) (aB ?_);obtain rfl := sIn h;refine bO (bK (bN (l := [4]) ⟨rfl, trivial⟩)) ?_;exact aY ⟨rfl, _, .one _, rfl, rfl⟩

theorem aLb (a : aF) (c : aQ) {r : Bool} (h : qP a c = some r) : Fn Tryz.prog 102 [.agg (aJ a), .cp (bI c)] (.b r) := by
 unfold qP at h;refine Fn.of_tr Tryz.func102 rfl (rs := [.tmp 3]) Tryz.results102 Tryz.ntmps102 (Nat.le_of_ble_eq_true rfl) ?_;refine aC (aA ?_);refine bB rfl (eP (v := .agg (aJ a)) (aE rfl) rfl rfl rfl) ?_;rintro _ ⟨b1, rfl⟩;refine ta (.b false) (aB (aC (aA (to (rO (bI c) rfl nJ) (to (sla 0 (aJ a) rfl rfl mA) ?_)))));obtain ⟨r2, h3, h⟩ := bns h;refine to (scr Tryz.call103 (aKz _ _ h3)) (to (sn rfl) (ta (.b (!r2)) (aB ?_)));obtain rfl := sIn h;refine bO (bK (bN (l := [3]) ⟨rfl, trivial⟩)) ?_;exact aY ⟨rfl, _, .one _, rfl, rfl⟩

theorem nO (a : List Int) {r : (List Int)} (h : slices_Clone_int a = some r) : fK Tryz.prog 63 [.d (.sl 1 (a.map aK))] [] (fun r' o' => ∃ (w0 : Value), r' = .d (.lit w0) ∧ o' = [.arr w0 3 1 (r.map aK)]) := by
 unfold slices_Clone_int at h;refine hY Tryz.func63 rfl (rs := [.tmp 2]) Tryz.results63 Tryz.ntmps63 (Nat.le_of_ble_eq_true rfl) ?_;refine aC (aA (to (eY 3 1 (.inl rfl) (aE rfl)) ?_));refine aB (aC (aC (aA (tm (.d (.sl 1 (a.map aK))) ?_))));refine bB rfl (yT (aE rfl) rfl rfl Tryz.underlying22) ?_;rintro _ ⟨b2, h3, rfl⟩;refine aB ?_;refine xD rfl (fun c4 => ?_) (fun c4 => ?_)
 ·obtain rfl := yK (h3 c4)
  simp [app] at h
  subst h;refine aC (aA (to (eY 3 1 (.inl rfl) (aE rfl)) ?_));refine aB ?_;refine bO (aP [1, 0] rfl rfl (le_refl _)) ?_;exact aY ⟨rfl, _, [.arr (.slice none 0 0) 3 1 (([] : List Int).map aK)], [.arr (.slice none 0 0) 3 1 (([] : List Int).map aK)], _, .one (.tmp 2 (v := .d (.lit (.slice none 0 0))) rfl), .refl _, .same _, (.slice none 0 0), rfl, rfl⟩
 ·refine aV (aC (aA ?_));refine bB rfl (xZ (aE rfl) bL rfl rfl (rows := (([] : List Int)).map aK) rfl (bZ (f := aK) fun _ => rfl) rfl (by decide)) ?_;rintro _ ⟨v5, rfl⟩;refine tm (.d (.sl 1 (a.map aK))) ?_;obtain ⟨x6, h7, h⟩ := bns h;refine bB rfl (dN (i := 1) (aE rfl) bL rfl rfl rfl (fun _ => rfl) h7 rfl) ?_;rintro _ ⟨v8, rfl⟩;refine ta (.d (.lit v8)) (aB ?_);obtain rfl := sIn h;refine bO (aP [1, 0] rfl rfl (le_refl _)) ?_;exact aY ⟨rfl, _, [.arr v8 3 1 (x6.map aK)], [.arr (.slice none 0 0) 3 1 (([] : List Int).map aK)], _, .one (.tmp 2 (v := .d (.lit v8)) rfl), .refl _, .same _, v8, rfl, rfl⟩

theorem yZ (f : aQ) (n : List Int) (o : List (aF × Int)) (g : Int) {Q : (aF × Bool) → Prop} {t u : Nat} {c : Value} {w : Nat} {j : Nat} {s : List Nat} {e : Nat} (h : jS f n o g Q) : fK Tryz.prog 134 [.bp t u 0, .d (.lit (.map (some j))), .i g] [.box t u [.lit (.int .i64 f.Rounds), .sl 1 (f.Slots.map aK), .lit c, .lit (.map (some w))], .arr c 3 1 (n.map aK), .map j (o.map fun p : aF × Int => ((fun a : aF => Value.agg ((aJ a).map cB).toArray) p.1, (fun v : Int => AV.i v) p.2)) s e] (fun r' o' => ∃ (r : aF × Bool), Q r ∧ r' = .tup [.agg (aJ r.1), .b r.2] ∧ o' = [.box t u [.lit (.int .i64 f.Rounds), .sl 1 (f.Slots.map aK), .lit c, .lit (.map (some w))], .arr c 3 1 (n.map aK), .map j (o.map fun p : aF × Int => ((fun a : aF => Value.agg ((aJ a).map cB).toArray) p.1, (fun v : Int => AV.i v) p.2)) s e]) := by
 unfold jS at h;refine hY Tryz.func134 rfl (rs := [.cell 6 67, .tmp 7]) Tryz.results134 Tryz.ntmps134 (Nat.le_of_ble_eq_true rfl) ?_;refine aC (aA ?_);refine bB rfl (cR (zs := [.lit (.int .i64 0), .lit (.int .i64 0), .lit (.int .i64 0), .lit (.int .i64 0), .lit (.int .i64 0)]) (aE rfl) Tryz.zeroValue67 rfl rfl) ?_;rintro _ ⟨b1, rfl⟩;refine ta (.b false) (aB (aC (aC (aA (tm (.d (.lit (.map (some j)))) ?_)))));refine bB rfl (aTu (m := 2) (aE rfl) Tryz.underlying159 rfl rfl) ?_;rintro _ ⟨q2, h4, rfl⟩;have h := aIq h h4;refine aB (bA ?_);refine xP [0, 2, 6, 10] (fun (s5 : aF × (List Nat)) => []) (fun (s5 : aF × (List Nat)) => [.arr c 3 1 (n.map aK), .box t u [.lit (.int .i64 f.Rounds), .sl 1 (f.Slots.map aK), .lit c, .lit (.map (some w))], .map j (o.map fun p : aF × Int => ((fun a : aF => Value.agg ((aJ a).map cB).toArray) p.1, (fun v : Int => AV.i v) p.2)) s e, .box b1 0 (aJ s5.1), .iter q2 j e s5.2 e]) (fun (k : Nat) (s5 : aF × (List Nat)) => jG Q g n f o k s5.1 (pB o s s5.2)) (fun _ h => h) ((aF.mk 0 0 0 0 0), []) h (aP [1, 0, 2, 3, 4] rfl rfl (aN ⟨rfl, rfl, rfl, rfl, trivial⟩)) ?_;rintro k7 ⟨B, y⟩ h;simp only [jG] at h;refine aC (aA ?_);refine bB rfl (aXh (kv := (fun a : aF => Value.agg ((aJ a).map cB).toArray)) (av := (fun v : Int => AV.i v)) (l := o) (mi := 4) (mm := 2) (aE rfl) rfl rfl rfl) ?_;rintro _ (⟨I, rfl⟩ | ⟨j9, C, p8, E, rfl⟩)
 ·have h := h.1 I;refine to (sex rfl rfl) (aB (aC ?_));refine xD rfl (fun F => ?_) (fun F => ?_)
  ·exact absurd F (by decide)
  ·refine bX ?_;refine .inl ⟨rfl, ?_⟩;simp only [pY] at h;refine aC (aA (to (dZ (aE rfl) aXr (zs := [.lit (.int .i64 0), .lit (.int .i64 0), .lit (.int .i64 0), .lit (.int .i64 0), .lit (.int .i64 0)]) rfl rfl rfl rfl (es := [.lit (.int .i64 0), .lit (.int .i64 0), .lit (.int .i64 0), .lit (.int .i64 0), .lit (.int .i64 0)]) rfl) ?_));refine to (sst 3 rfl rfl Tryz.sizeOf67 (aJ (aF.mk 0 0 0 0 0))) (ta (.b false) (aB ?_));refine bO (aP [1, 0, 2, 3, 4] rfl rfl (le_refl _)) ?_;exact aY ⟨rfl, _, [.box t u [.lit (.int .i64 f.Rounds), .sl 1 (f.Slots.map aK), .lit c, .lit (.map (some w))], .arr c 3 1 (n.map aK), .map j (o.map fun p : aF × Int => ((fun a : aF => Value.agg ((aJ a).map cB).toArray) p.1, (fun v : Int => AV.i v) p.2)) s e], [.box b1 0 (aJ (aF.mk 0 0 0 0 0)), .iter q2 j e y e], _, .two (.cell 6 67 rfl (i := 3) rfl mA (es := (aJ (aF.mk 0 0 0 0 0))) rfl rfl) (.tmp 7 (v := .b false) rfl), .refl _, .same _, ((aF.mk 0 0 0 0 0), false), h, rfl, rfl⟩
 ·have h := aKm h E;refine to (sex rfl rfl) (aB (aC ?_));refine xD rfl (fun G => ?_) (fun G => ?_)
  ·refine aV (bA (aC (aA (to (aTt (kv := (fun a : aF => Value.agg ((aJ a).map cB).toArray)) (av := (fun v : Int => AV.i v)) (l := o) (mi := 4) (mm := 2) (ka := .agg (aJ p8.1)) (aE rfl) rfl rfl rfl E (fun _ _ => .agg (aIl rfl))) ?_))));refine to (sex rfl rfl) ?_;refine bB rfl (cR (zs := [.lit (.int .i64 0), .lit (.int .i64 0), .lit (.int .i64 0), .lit (.int .i64 0), .lit (.int .i64 0)]) (aE rfl) Tryz.zeroValue67 rfl rfl) ?_;rintro _ ⟨z, rfl⟩;refine to (sst 5 rfl rfl Tryz.sizeOf67 (aJ p8.1)) (aB (aC ?_));obtain ⟨J, x, h⟩ := iA h;refine cT mix 16 [0, 2, 6, 8, 10] [(30, .b J)] ?_ ?_
   ·refine bch x (fun q x => ?_) (fun q x => ?_)
    ·obtain ⟨A, H, x⟩ := bns x;obtain rfl := sIn x;refine ⟨[(15, 0, .bp z 0 2), (16, 1, .i p8.1.Place), (17, 2, .i g), (18, 3, .b (decide (p8.1.Place = g))), (19, 4, .b (decide (p8.1.Place = g))), (20, 5, .bp z 0 4), (21, 6, .i p8.1.Old), (22, 7, .bp t u 0), (23, 8, .bp t u 0), (24, 9, .bp t u 2), (25, 10, .d (.lit c)), (26, 11, .i g), (27, 12, .ep c 1 g.toNat 0), (28, 13, .i A), (29, 14, .b (decide (p8.1.Old = A))), (30, 15, .b (decide (p8.1.Old = A)))], ?_, ?_⟩
     · exact dok [([], []), ([0], []), ([], []), ([1, 2], []), ([3], []), ([4], []), ([4, 5], []), ([4], []), ([4, 7], []), ([4, 8], []), ([4, 9], []), ([4], []), ([4, 10, 11], []), ([4, 12], []), ([4, 6, 13], []), ([4, 14], [])] ⟨go (zf rfl lT),
      go (zl 5 rfl rfl rfl aU),
      go (zm (.i g)),
      go (zcm rfl rfl rfl),
      go (zm (.b (decide (p8.1.Place = g)))),
      gt q (zf rfl zI),
      gt q (zl 5 rfl rfl rfl aU),
      gt q (zm (.bp t u 0)),
      gt q fun S hS => oG (aE rfl) (aR hS rfl),
      gt q (zf rfl qI),
      gt q (zl 1 rfl rfl rfl cQ),
      gt q (zm (.i g)),
      gt q (zia 0 rfl rfl rfl bL.of (aX aK H)),
      gt q fun S hS => jC (aE rfl) (aR hS rfl) (m := 0) rfl (dX aK H) rfl aU,
      gt q (zcm rfl rfl rfl),
      go (zpt (.b (decide (p8.1.Old = A))) q), trivial⟩
     · exact cI (aI rfl (aN ⟨rfl, rfl, rfl, rfl, rfl, trivial⟩))
    ·obtain rfl := sIn x;refine ⟨[(15, 0, .bp z 0 2), (16, 1, .i p8.1.Place), (17, 2, .i g), (18, 3, .b (decide (p8.1.Place = g))), (19, 4, .b (decide (p8.1.Place = g))), (20, 5, .tup []), (21, 6, .tup []), (22, 7, .tup []), (23, 8, .tup []), (24, 9, .tup []), (25, 10, .tup []), (26, 11, .tup []), (27, 12, .tup []), (28, 13, .tup []), (29, 14, .tup []), (30, 15, .b false)], ?_, ?_⟩
     · exact dok [([], []), ([0], []), ([], []), ([1, 2], []), ([3], []), ([4], []), ([4, 5], []), ([4], []), ([4, 7], []), ([4, 8], []), ([4, 9], []), ([4], []), ([4, 10, 11], []), ([4, 12], []), ([4, 6, 13], []), ([4, 14], [])] ⟨go (zf rfl lT),
      go (zl 5 rfl rfl rfl aU),
      go (zm (.i g)),
      go (zcm rfl rfl rfl),
      go (zm (.b (decide (p8.1.Place = g)))),
      gp q,
      gp q,
      gp q,
      gp q,
      gp q,
      gp q,
      gp q,
      gp q,
      gp q,
      gp q,
      go (zpf (.b false) q), trivial⟩
     · exact cI (aI rfl (aN ⟨rfl, rfl, rfl, rfl, rfl, trivial⟩))
   ·refine aB ?_;refine tip h (fun K h => ?_) (fun K h => ?_)
    ·refine aC (aA (to (sla 5 (aJ p8.1) rfl rfl mA) (to (sst 3 rfl rfl Tryz.sizeOf67 (aJ p8.1)) (ta (.b true) (aB ?_)))));refine bO (aP [1, 0, 2, 3, 4, 5] rfl rfl (le_refl _)) ?_;exact aY ⟨rfl, _, [.box t u [.lit (.int .i64 f.Rounds), .sl 1 (f.Slots.map aK), .lit c, .lit (.map (some w))], .arr c 3 1 (n.map aK), .map j (o.map fun p : aF × Int => ((fun a : aF => Value.agg ((aJ a).map cB).toArray) p.1, (fun v : Int => AV.i v) p.2)) s e], [.box b1 0 (aJ p8.1), .iter q2 j e (y ++ [C]) e, .box z 0 (aJ p8.1)], _, .two (.cell 6 67 rfl (i := 3) rfl mA (es := (aJ p8.1)) rfl rfl) (.tmp 7 (v := .b true) rfl), .refl _, .same _, (p8.1, true), h, rfl, rfl⟩
    ·refine cU ?_;exact ⟨(B, (y ++ [C])), h, aP [0, 1, 2, 3, 4] rfl rfl (aN ⟨rfl, rfl, rfl, rfl, trivial⟩)⟩
  ·exact absurd G (by decide)

theorem aEg (e : aQ) (w : List Int) (C : List (aF × Int)) {Q : (Bool × (List Int) × (List (aF × Int))) → Prop} {q s : Nat} {c : Value} {t : Nat} {g : Nat} {z : List Nat} {A : Nat} (h : mP e w C Q) : fK Tryz.prog 119 [.bp q s 0, .d (.lit (.map (some g)))] [.box q s [.lit (.int .i64 e.Rounds), .sl 1 (e.Slots.map aK), .lit c, .lit (.map (some t))], .arr c 3 1 (w.map aK), .map g (C.map fun p : aF × Int => ((fun a : aF => Value.agg ((aJ a).map cB).toArray) p.1, (fun v : Int => AV.i v) p.2)) z A] (fun r' o' => ∃ (r : Bool × (List Int) × (List (aF × Int))) (U : List Nat) (V : Nat), Q r ∧ r' = .b r.1 ∧ o' = [.box q s [.lit (.int .i64 e.Rounds), .sl 1 (e.Slots.map aK), .lit c, .lit (.map (some t))], .arr c 3 1 (r.2.1.map aK), .map g (r.2.2.map fun p : aF × Int => ((fun a : aF => Value.agg ((aJ a).map cB).toArray) p.1, (fun v : Int => AV.i v) p.2)) U V]) := by
 unfold mP at h;refine hY Tryz.func119 rfl (rs := [.tmp 4]) Tryz.results119 Tryz.ntmps119 (Nat.le_of_ble_eq_true rfl) ?_;refine aC (aA (ta (.b false) (aB (aC (aA (tm (.bp q s 0) (to (oG (aE rfl) rfl) ?_)))))));refine to (sf rfl aAk) (tfl 0 rfl rfl dL rfl cQ ?_);obtain ⟨r1, h2, h⟩ := iA h;refine bB rfl (mR (aE rfl) (.func _ _ Tryz.call63) rfl rfl (nO _ h2)) ?_;rintro _ ⟨v3, rfl⟩;refine ta (.d (.lit v3)) (aB (aC (aC (aA (tm (.bp q s 0) (to (oG (aE rfl) rfl) ?_))))));refine tfl 0 rfl rfl qI rfl cQ (to (kO (m := 1) (aE rfl) rfl rfl bL.of) ?_);refine tm (.i 0) (aB (bA ?_));refine xP [0, 1, 19] (fun (s4 : Int × (List Int) × (List (aF × Int)) × (List Int) × (List Nat) × Nat × Value) => [(5, .d (.lit s4.2.2.2.2.2.2)), (20, .i s4.1)]) (fun (s4 : Int × (List Int) × (List (aF × Int)) × (List Int) × (List Nat) × Nat × Value) => [.arr c 3 1 (s4.2.1.map aK), .box q s [.lit (.int .i64 e.Rounds), .sl 1 (e.Slots.map aK), .lit c, .lit (.map (some t))], .map g (s4.2.2.1.map fun p : aF × Int => ((fun a : aF => Value.agg ((aJ a).map cB).toArray) p.1, (fun v : Int => AV.i v) p.2)) s4.2.2.2.2.1 s4.2.2.2.2.2.1, .arr s4.2.2.2.2.2.2 3 1 (s4.2.2.2.1.map aK)]) (fun (k : Nat) (s4 : Int × (List Int) × (List (aF × Int)) × (List Int) × (List Nat) × Nat × Value) => dC Q (w.length : Int) e k s4.1 s4.2.1 s4.2.2.1 s4.2.2.2.1) (fun _ h => h) (0, w, C, r1, z, A, v3) h (aP [1, 0, 2, 3] rfl rfl (aI rfl (aI rfl (aN ⟨rfl, rfl, rfl, trivial⟩)))) ?_;rintro k8 ⟨j, B, u, H, L, M, w7⟩ h;simp only [dC] at h;refine aC (aA (to (scm rfl rfl rfl) (aB (aC ?_))));refine tip h (fun c9 h => ?_) (fun c9 h => ?_)
 ·refine aV (aC (bA (aC (aA (tm (.i j) (ta (.i j) (aB (aC (aA (tm (.bp q s 0) (tm (.d (.lit (.map (some g)))) (tm (.i j) ?_))))))))))));refine jD (aP [1, 0, 2, 3] rfl rfl (le_refl _)) ?_;refine bB rfl (fG (passed := [.box q s [.lit (.int .i64 e.Rounds), .sl 1 (e.Slots.map aK), .lit c, .lit (.map (some t))], .arr c 3 1 (B.map aK), .map g (u.map fun p : aF × Int => ((fun a : aF => Value.agg ((aJ a).map cB).toArray) p.1, (fun v : Int => AV.i v) p.2)) L M]) (aE rfl) rfl (.func _ _ Tryz.call134) rfl rfl (yZ e B u j h)) ?_;rintro _ ⟨_, _, ⟨I, h, rfl, rfl⟩, rfl⟩;refine tm (.tup [.agg (aJ I.1), .b I.2]) (to (sex rfl rfl) (to (sex rfl rfl) ?_));refine bB rfl (cR (zs := [.lit (.int .i64 0), .lit (.int .i64 0), .lit (.int .i64 0), .lit (.int .i64 0), .lit (.int .i64 0)]) (aE rfl) Tryz.zeroValue67 rfl rfl) ?_;rintro _ ⟨W, rfl⟩;refine to (sst 4 rfl rfl Tryz.sizeOf67 (aJ I.1)) (ta (.b I.2) (aB ?_));refine wJ ?_;refine xP [0, 1, 6, 19, 20] (fun (x : Bool × (List Int) × (List (aF × Int)) × aF × (List Int) × (List Nat) × Nat × Nat × Value) => [(5, .d (.lit x.2.2.2.2.2.2.2.2)), (7, .bp x.2.2.2.2.2.2.2.1 0 0), (8, .b x.1)]) (fun (x : Bool × (List Int) × (List (aF × Int)) × aF × (List Int) × (List Nat) × Nat × Nat × Value) => [.arr c 3 1 (x.2.1.map aK), .box q s [.lit (.int .i64 e.Rounds), .sl 1 (e.Slots.map aK), .lit c, .lit (.map (some t))], .map g (x.2.2.1.map fun p : aF × Int => ((fun a : aF => Value.agg ((aJ a).map cB).toArray) p.1, (fun v : Int => AV.i v) p.2)) x.2.2.2.2.2.1 x.2.2.2.2.2.2.1, .box x.2.2.2.2.2.2.2.1 0 (aJ x.2.2.2.1), .arr x.2.2.2.2.2.2.2.2 3 1 (x.2.2.2.2.1.map aK)]) (fun (k : Nat) (x : Bool × (List Int) × (List (aF × Int)) × aF × (List Int) × (List Nat) × Nat × Nat × Value) => eQ Q (dC Q (w.length : Int) e k8) j (w.length : Int) j e k x.1 x.2.1 x.2.2.1 x.2.2.2.1 x.2.2.2.2.1) (fun _ h => h) (I.2, B, u, I.1, H, L, M, W, w7) h (aP [1, 0, 2, 4, 3] rfl rfl (aI rfl (aI rfl (aI rfl (aN ⟨rfl, rfl, rfl, rfl, rfl, trivial⟩))))) ?_;rintro a3 ⟨K, y, o, n, E, F, G, O, N⟩ h;simp only [eQ] at h;refine aC (aC (aA (tm (.b K) (aB ?_))));refine tip h (fun X h => ?_) (fun X h => ?_)
  ·refine aV (aC (bA (aC (aC (aA (tm (.d (.lit N)) (tfl 3 rfl rfl pH rfl aU ?_)))))));obtain ⟨a4, Y, h⟩ := iA h;refine to (sc Tryz.call60 (fI _ _ Y) (.cons (.d (eW 4 rfl (bZ (f := aK) fun _ => rfl))) (.cons (.same _) .nil))) (aB ?_);refine tip h (fun Z h => ?_) (fun Z h => ?_)
   ·refine aC (aA (ta (.b false) (aB ?_)));refine bO (aP [1, 0, 2, 3, 4] rfl rfl (le_refl _)) ?_;exact aY ⟨rfl, _, [.box q s [.lit (.int .i64 e.Rounds), .sl 1 (e.Slots.map aK), .lit c, .lit (.map (some t))], .arr c 3 1 (y.map aK), .map g (o.map fun p : aF × Int => ((fun a : aF => Value.agg ((aJ a).map cB).toArray) p.1, (fun v : Int => AV.i v) p.2)) F G], [.box O 0 (aJ n), .arr N 3 1 (E.map aK)], _, .one (.tmp 4 (v := .b false) rfl), .refl _, .same _, (false, y, o), F, G, h, rfl, rfl⟩
   ·refine aV (aC ?_);refine cT mix 7 [0, 1, 5, 6, 7, 19, 20] [(45, .d (.lit c)), (46, .i j), (48, .i n.Player)] ?_ ?_
    ·refine ⟨[(42, 0, .bp q s 0), (43, 1, .bp q s 0), (44, 2, .bp q s 2), (45, 3, .d (.lit c)), (46, 4, .i j), (47, 5, .bp O 0 3), (48, 6, .i n.Player)], ?_, ?_⟩
     · exact dok [([], []), ([0], []), ([1], []), ([2], []), ([], []), ([], []), ([5], [])] ⟨go (zm (.bp q s 0)),
      go fun S hS => oG (aE rfl) (aR hS rfl),
      go (zf rfl qI),
      go (zl 1 rfl rfl rfl cQ),
      go (zm (.i j)),
      go (zf rfl pH),
      go (zl 3 rfl rfl rfl aU), trivial⟩
     · exact cI (aI rfl (aI rfl (aI rfl (aN ⟨rfl, rfl, rfl, rfl, rfl, rfl, rfl, trivial⟩))))
    ·obtain ⟨a5, P, h⟩ := iA h;refine to (dJ (m := 0) (aE rfl) rfl rfl rfl bL.of (aX aK P)) ?_;refine to (lP (l := 0) rfl rfl (dX aK P) rfl rfl rfl Tryz.sizeOf3 rfl (aE rfl) (Nat.le_of_ble_eq_true rfl) (rows' := ((y.set j.toNat n.Player)).map aK) (sZ _ _ _ _ rfl)) ?_;refine aB (aC (aA (tm (.d (.lit N)) (tfl 3 rfl rfl pH rfl aU (to (eK (aE rfl) bL rfl rfl (rows := ([n.Player]).map aK) rfl (bZ (f := aK) fun _ => rfl) rfl (by decide)) ?_)))));obtain ⟨a0, a1, h⟩ := iA h;refine bB rfl (dN (i := 4) (aE rfl) bL rfl rfl rfl (fun _ => rfl) a1 rfl) ?_;rintro _ ⟨T, rfl⟩;refine ta (.d (.lit T)) (aB (aA (tm (.d (.lit (.map (some g)))) (to (sla 3 (aJ n) rfl rfl mA) (to (aZd (av := (fun v : Int => AV.i v)) (l := o) (a := n) (m := 2) aQo Tryz.underlying159 rfl rfl rfl rfl (rU (enc := aJ) n rfl)) ?_)))));refine cS ?_;refine aC (aC (aA (to (sla 3 (aJ n) rfl rfl mA) (aB (aA ?_)))));refine bB rfl (cR (zs := [.lit (.int .i64 0), .lit (.int .i64 0), .lit (.int .i64 0), .lit (.int .i64 0), .lit (.int .i64 0)]) (aE rfl) Tryz.zeroValue67 rfl rfl) ?_;rintro _ ⟨a2, rfl⟩;refine to (sst 5 rfl rfl Tryz.sizeOf67 (aJ n)) (aB (aA (tm (.bp q s 0) (tm (.d (.lit (.map (some g)))) (tm (.i j) ?_)))));refine jD (aP [1, 0, 2, 3, 4, 5] rfl rfl (le_refl _)) ?_;refine bB rfl (fG (passed := [.box q s [.lit (.int .i64 e.Rounds), .sl 1 (e.Slots.map aK), .lit c, .lit (.map (some t))], .arr c 3 1 ((y.set j.toNat n.Player).map aK), .map g ((sK n o).map fun p : aF × Int => ((fun a : aF => Value.agg ((aJ a).map cB).toArray) p.1, (fun v : Int => AV.i v) p.2)) (aEk n o F) G]) (aE rfl) rfl (.func _ _ Tryz.call134) rfl rfl (yZ e (y.set j.toNat n.Player) (sK n o) j h)) ?_;rintro _ ⟨_, _, ⟨J, h, rfl, rfl⟩, rfl⟩;refine tm (.tup [.agg (aJ J.1), .b J.2]) (to (sex rfl rfl) (to (sex rfl rfl) (to (sst 5 rfl rfl Tryz.sizeOf67 (aJ J.1)) (ta (.b J.2) (aB ?_)))));exact ⟨(J.2, (y.set j.toNat n.Player), (sK n o), J.1, a0, (aEk n o F), G, a2, T), h, aP [1, 0, 2, 5, 4] rfl rfl (aI rfl (aI rfl (aI rfl (aN ⟨rfl, rfl, rfl, rfl, rfl, trivial⟩))))⟩
  ·refine bX ?_;refine .inl ⟨rfl, ?_⟩;simp only [nI] at h;simp only [nH] at h;refine aA (to (sar rfl rfl rfl) (tm (.i (w64 (j + 1))) (aB ?_)));exact ⟨(w64 (j + 1), y, o, E, F, G, N), h, aP [0, 1, 2, 4] rfl rfl (aI rfl (aI rfl (aN ⟨rfl, rfl, rfl, trivial⟩)))⟩
 ·refine bX ?_;refine .inl ⟨rfl, ?_⟩;simp only [nG] at h;refine aC (aA (tm (.d (.lit (.map (some g)))) (to (aZf (m := 2) (aE rfl) Tryz.underlying159 rfl rfl) ?_)));refine to (scm rfl rfl rfl) (ta (.b (decide ((u.length : Int) = 0))) (aB ?_));refine bO (aP [1, 0, 2, 3] rfl rfl (le_refl _)) ?_;exact aY ⟨rfl, _, [.box q s [.lit (.int .i64 e.Rounds), .sl 1 (e.Slots.map aK), .lit c, .lit (.map (some t))], .arr c 3 1 (B.map aK), .map g (u.map fun p : aF × Int => ((fun a : aF => Value.agg ((aJ a).map cB).toArray) p.1, (fun v : Int => AV.i v) p.2)) L M], [.arr w7 3 1 (H.map aK)], _, .one (.tmp 4 (v := .b (decide ((u.length : Int) = 0))) rfl), .refl _, .same _, (decide ((u.length : Int) = 0), B, u), L, M, h, rfl, rfl⟩

theorem vC (a : Int) (b : Int) {r : aH} (h : pZ a b = some r) : Fn Tryz.prog 116 [.i a, .i b] (.agg (aS r)) := by
 unfold pZ at h;refine jM Tryz.func116 rfl (rs := [.cell 4 155]) Tryz.results116 Tryz.ntmps116 (Nat.le_of_ble_eq_true rfl) ?_;refine aC (aA ?_);refine bB rfl (cR (zs := [.lit (.int .i64 0), .lit (.int .i64 0)]) (aE rfl) Tryz.zeroValue155 rfl rfl) ?_;rintro _ ⟨b1, rfl⟩;refine aB (aC (aA (tm (.i a) (tm (.i b) (tm (.i a) (to (sar rfl rfl rfl) ?_))))));obtain ⟨u2, h3, h⟩ := bns h;refine to (aBo (aE rfl) rfl rfl (aDn h3)) ?_;refine to (dZ (aE rfl) aNy (zs := [.lit (.int .i64 0), .lit (.int .i64 0)]) rfl rfl rfl rfl (es := [.lit (.int .i64 a), .lit (.int .i64 (b.fdiv (2 ^ (min (w64 (a + 1)).toNat 64))))]) rfl) ?_;refine to (sst 0 rfl rfl Tryz.sizeOf155 (aS (aH.mk a (b.fdiv (2 ^ (min (w64 (a + 1)).toNat 64)))))) (aB ?_);obtain rfl := sIn h;exact aY ⟨rfl, _, [.box b1 0 (aS (aH.mk a (b.fdiv (2 ^ (min (w64 (a + 1)).toNat 64)))))], .one (.cell 4 155 rfl (i := 0) rfl xT (es := (aS (aH.mk a (b.fdiv (2 ^ (min (w64 (a + 1)).toNat 64)))))) rfl rfl), .refl _, .same _⟩

theorem zA (g : aQ) (o : List Int) (y : List (aH × Int)) (s : Int) (u : Int) {r : Bool × (List (aH × Int))} {j n : Nat} {e : Value} {f : Nat} {w : List Nat} {x : Nat} (h : mY g o y s u = some r) : fK Tryz.prog 120 [.bp j n 0, .i s, .i u] [.box j n [.lit (.int .i64 g.Rounds), .sl 1 (g.Slots.map aK), .lit e, .lit (.map (some f))], .arr e 3 1 (o.map aK), .map f (y.map fun p : aH × Int => ((fun a : aH => Value.agg ((aS a).map cB).toArray) p.1, (fun v : Int => AV.i v) p.2)) w x] (fun r' o' => ∃ (A : List Nat) (H : Nat), r' = .b r.1 ∧ o' = [.box j n [.lit (.int .i64 g.Rounds), .sl 1 (g.Slots.map aK), .lit e, .lit (.map (some f))], .arr e 3 1 (o.map aK), .map f (r.2.map fun p : aH × Int => ((fun a : aH => Value.agg ((aS a).map cB).toArray) p.1, (fun v : Int => AV.i v) p.2)) A H]) := by
 unfold mY at h;refine hY Tryz.func120 rfl (rs := [.tmp 6]) Tryz.results120 Tryz.ntmps120 (Nat.le_of_ble_eq_true rfl) ?_;refine aC (aA (ta (.b false) (aB (aC (aC (aA (tm (.i u) (to (sar rfl rfl rfl) (tm (.i 0) (aB (bA ?_)))))))))));refine bR (S := Int × (List (aH × Int)) × (List Nat) × Nat) [0, 1, 12] (fun s1 => [(13, .i s1.1)]) (fun s1 => [.arr e 3 1 (o.map aK), .map f (s1.2.1.map fun p : aH × Int => ((fun a : aH => Value.agg ((aS a).map cB).toArray) p.1, (fun v : Int => AV.i v) p.2)) s1.2.2.1 s1.2.2.2, .box j n [.lit (.int .i64 g.Rounds), .sl 1 (g.Slots.map aK), .lit e, .lit (.map (some f))]]) (fun k s1 => jH s (w64 (u + 1)) o g k s1.1 s1.2.1) (fun _ => rfl) (0, y, w, x) h (aP [1, 2, 0] rfl rfl (aI rfl (aN ⟨rfl, rfl, rfl, trivial⟩))) ?_;rintro k4 ⟨t, c, A, C⟩ h;simp only [jH] at h;refine aC (aA (to (scm rfl rfl rfl) (aB (aC ?_))));refine tih h (fun c5 h => ?_) (fun c5 h => ?_)
 ·refine aV (aC (bA (aC (aA (tm (.i t) (ta (.i t) (aB (aC (aA (tm (.i t) (tm (.i s) ?_)))))))))));obtain ⟨r6, h7, h⟩ := bns h;refine to (eX (aE rfl) (.func _ _ Tryz.call116) rfl rfl (vC _ _ h7)) ?_;refine bB rfl (cR (zs := [.lit (.int .i64 0), .lit (.int .i64 0)]) (aE rfl) Tryz.zeroValue155 rfl rfl) ?_;rintro _ ⟨b8, rfl⟩;refine to (sst 3 rfl rfl Tryz.sizeOf155 (aS r6)) (aB (aC (aC ?_)));refine cT mix 10 [0, 1, 8, 12, 13] [(9, .i (dA r6 0 c)), (27, .b (eE r6 c))] ?_ ?_
  ·refine ⟨[(20, 0, .bp j n 0), (21, 1, .bp j n 0), (22, 2, .bp j n 3), (23, 3, .d (.lit (.map (some f)))), (24, 4, .agg (aS r6)), (25, 5, .tup [.i (dA r6 0 c), .b (eE r6 c)]), (19, 6, .tup [.i (dA r6 0 c), .b (eE r6 c)]), (26, 7, .i (dA r6 0 c)), (27, 8, .b (eE r6 c)), (9, 9, .i (dA r6 0 c))], ?_, ?_⟩
   · exact dok [([], []), ([0], []), ([1], []), ([2], []), ([], []), ([3, 4], []), ([5], []), ([6], []), ([6], []), ([7], [])] ⟨go (zm (.bp j n 0)),
      go fun S hS => oG (aE rfl) (aR hS rfl),
      go (zf rfl aDm),
      go (zl 2 rfl rfl rfl aJx),
      go (zla 3 (aS r6) rfl rfl xT),
      go fun S hS => aNj (av := (fun v : Int => AV.i v)) (l := c) (z := 0) (a := r6) (m := 1) (aE rfl) aBu Tryz.underlying151 Tryz.zeroValue3 (fun _ _ => .d (.lit _ rfl)) (aR hS rfl) rfl rfl (aR hS rfl) (rU (enc := aS) r6 rfl),
      go (zm (.tup [.i (dA r6 0 c), .b (eE r6 c)])),
      go (zex rfl rfl),
      go (zex rfl rfl),
      go (za (.i (dA r6 0 c))), trivial⟩
   · exact cI (aI rfl (aI rfl (aN ⟨rfl, rfl, rfl, rfl, rfl, trivial⟩)))
  ·refine ta (.b (eE r6 c)) (aB (aC (aA (tm (.b (eE r6 c)) (tm (.b (eE r6 c)) ?_)))));obtain ⟨b9, B, h⟩ := bns h;refine bD 10 [0, 1, 8, 12, 13] 39 b9 ?_ ?_
   ·refine bch B (fun q B => ?_) (fun q B => ?_)
    ·refine tk q (sm (.i (dA r6 0 c))) (tk q (sm (.bp j n 0)) (tk q (oG (aE rfl) rfl) ?_));refine tkl 2 q rfl rfl qI rfl cQ (tk q (sm (.i s)) ?_);obtain ⟨I, F, B⟩ := bns B;refine tk q (dJ (m := 0) (aE rfl) rfl rfl rfl bL.of (aX aK F)) ?_;refine tk q (jC (aE rfl) rfl (m := 0) rfl (dX aK F) rfl aU) ?_;refine tk q (scm rfl rfl rfl) (to (spt (.b (!decide ((dA r6 0 c) = I))) q) ?_);obtain rfl := sIn B;refine aB (aO rfl ⟨rfl, rfl, rfl, rfl, rfl, trivial⟩ rfl)
    ·refine tp q (tp q (tp q (tp q (tp q (tp q (tp q (tp q (tp q (to (spf (.b false) q) ?_)))))))));obtain rfl := sIn B;refine aB (aO rfl ⟨rfl, rfl, rfl, rfl, rfl, trivial⟩ rfl)
   ·refine aB ?_;refine tih h (fun J h => ?_) (fun J h => ?_)
    ·refine aC (aA (ta (.b false) (aB ?_)));obtain rfl := sIn h;refine bO (aP [2, 0, 1, 3] rfl rfl (le_refl _)) ?_;exact aY ⟨rfl, _, [.box j n [.lit (.int .i64 g.Rounds), .sl 1 (g.Slots.map aK), .lit e, .lit (.map (some f))], .arr e 3 1 (o.map aK), .map f (c.map fun p : aH × Int => ((fun a : aH => Value.agg ((aS a).map cB).toArray) p.1, (fun v : Int => AV.i v) p.2)) A C], [.box b8 0 (aS r6)], _, .one (.tmp 6 (v := .b false) rfl), .refl _, .same _, A, C, rfl, rfl⟩
    ·refine aV ?_;obtain ⟨E, G, h⟩ := bns h;refine cT mix 12 [0, 1, 12, 13] [(43, .d (.lit (.map (some f)))), (44, .agg (aS r6)), (51, .i E)] ?_ ?_
     ·refine ⟨[(40, 0, .bp j n 0), (41, 1, .bp j n 0), (42, 2, .bp j n 3), (43, 3, .d (.lit (.map (some f)))), (44, 4, .agg (aS r6)), (45, 5, .bp j n 0), (46, 6, .bp j n 0), (47, 7, .bp j n 2), (48, 8, .d (.lit e)), (49, 9, .i s), (50, 10, .ep e 1 s.toNat 0), (51, 11, .i E)], ?_, ?_⟩
      · exact dok [([], []), ([0], []), ([1], []), ([2], []), ([], []), ([], []), ([5], []), ([6], []), ([7], []), ([], []), ([8, 9], []), ([10], [])] ⟨go (zm (.bp j n 0)),
      go fun S hS => oG (aE rfl) (aR hS rfl),
      go (zf rfl aDm),
      go (zl 2 rfl rfl rfl aJx),
      go (zla 3 (aS r6) rfl rfl xT),
      go (zm (.bp j n 0)),
      go fun S hS => oG (aE rfl) (aR hS rfl),
      go (zf rfl qI),
      go (zl 2 rfl rfl rfl cQ),
      go (zm (.i s)),
      go (zia 0 rfl rfl rfl bL.of (aX aK G)),
      go fun S hS => jC (aE rfl) (aR hS rfl) (m := 0) rfl (dX aK G) rfl aU, trivial⟩
      · exact cI (aI rfl (aI rfl (aI rfl (aN ⟨rfl, rfl, rfl, rfl, trivial⟩))))
     ·refine to (aEn (av := (fun v : Int => AV.i v)) (l := c) (v := E) (a := r6) (m := 1) aBu Tryz.underlying151 rfl rfl rfl rfl (rU (enc := aS) r6 rfl) rfl rfl) ?_;refine cS ?_;refine aA (to (sar rfl rfl rfl) (tm (.i (w64 (t + 1))) (aB ?_)));exact ⟨(w64 (t + 1), (iD r6 E c), (mbs r6 c A C), (mck r6 c C)), h, aP [0, 1, 2] rfl rfl (aI rfl (aN ⟨rfl, rfl, rfl, trivial⟩))⟩
 ·refine bX ?_;refine .inl ⟨rfl, ?_⟩;simp only [tP] at h;refine aC (aA (ta (.b true) (aB ?_)));obtain rfl := sIn h;refine bO (aP [2, 0, 1] rfl rfl (le_refl _)) ?_;exact aY ⟨rfl, _, [.box j n [.lit (.int .i64 g.Rounds), .sl 1 (g.Slots.map aK), .lit e, .lit (.map (some f))], .arr e 3 1 (o.map aK), .map f (c.map fun p : aH × Int => ((fun a : aH => Value.agg ((aS a).map cB).toArray) p.1, (fun v : Int => AV.i v) p.2)) A C], [], _, .one (.tmp 6 (v := .b true) rfl), .refl _, .same _, A, C, rfl, rfl⟩

theorem aMb (j : aQ) (P : List aF) {Q : ((Option bH) × Bool) → Prop} (h : uA j P Q) : fK Tryz.prog 104 [.agg (bI j), .d (.sl 5 (P.map aJ))] [] (fun r' o' => ∃ (r : (Option bH) × Bool), Q r ∧ r' = .tup [fT bW r.1, .b r.2] ∧ o' = []) := by
 unfold uA at h;refine hY Tryz.func104 rfl (rs := [.tmp 4, .tmp 5]) Tryz.results104 Tryz.ntmps104 (Nat.le_of_ble_eq_true rfl) ?_;refine aC (aA ?_);refine bB rfl (eP (v := .agg (bI j)) (aE rfl) rfl rfl rfl) ?_;rintro _ ⟨b1, rfl⟩;refine ta (fT bW (none : Option bH)) (ta (.b false) (aB (aC ?_)));obtain ⟨r3, h4, h⟩ := iA h;refine qN mix 5 [1] (fun X2 => [(19, .agg (bI j)), (22, .d (.lit (X2 3).v)), (23, .d (.lit (.map (some (X2 4).b))))]) (fun X2 => [.box b1 0 (bI j), .arr (X2 3).v 3 1 (r3.map aK), .map (X2 4).b (([] : List (aH × Int)).map fun p : aH × Int => ((fun a : aH => Value.agg ((aS a).map cB).toArray) p.1, (fun v : Int => AV.i v) p.2)) ([]) 0]) ?_ ?_
 ·refine ⟨2, fun X2 => [(19, 0, .agg (bI j)), (20, 1, .bp b1 0 1), (21, 2, .d (.sl 1 (j.Slots.map aK))), (22, 3, .d (.lit (X2 3).v)), (23, 4, .d (.lit (.map (some (X2 4).b))))], fun X2 => [([], .box b1 0 (bI j)), ([(3, .arr (X2 3).v 3 1 (r3.map aK))], nob), ([(4, .map (X2 4).b (([] : List (aH × Int)).map fun p : aH × Int => ((fun a : aH => Value.agg ((aS a).map cB).toArray) p.1, (fun v : Int => AV.i v) p.2)) ([]) 0)], nob)], ?_, ?_⟩
  · exact ⟨by kernel_rfl, by kernel_rfl, by kernel_rfl, fun _ => by kernel_rfl, fun _ => by kernel_rfl, fun _ => by kernel_rfl, fun _ => rfl, [([], []), ([], [3]), ([1], [3]), ([2], []), ([], [])], by kernel_rfl, ⟨fun X2 S hw hi hS => bQ (X := X2) rfl (hw X2) rfl (cJ rfl (yU (aE rfl) (aR hS rfl) (i := 0) (og hS rfl rfl) nJ (es := (bI j)) rfl rfl)),
      fun X2 S hw hi hS => bQ (X := X2) rfl (hw X2) rfl (cJ rfl (jL (aE rfl) (aR hS rfl) dL)),
      fun X2 S hw hi hS => bQ (X := X2) rfl (hw X2) rfl (cJ rfl (mJ (aE rfl) (aR hS rfl) (i := 0) (og hS rfl rfl) rfl cQ)),
      fun X2 S hw hi hS => aDc (X := X2) (p := 1) (v := fun x => .d (.lit x.v)) (mo := fun x => .arr x.v 3 1 (r3.map aK)) hS hi rfl rfl (fun _ => rfl) hw (fun _ => rfl) (fun _ => rfl) (fun _ => rfl) (fun _ => ⟨rfl, rfl, .inr rfl, ⟨rfl, rfl, .inr rfl, ⟨rfl, rfl, .inr rfl, ⟨rfl, rfl, .inl rfl, ⟨rfl, rfl, .inr rfl, trivial⟩⟩⟩⟩⟩) (fun _ => ⟨trivial, rfl, ⟨⟨rfl, .inl rfl, trivial⟩, rfl, ⟨⟨rfl, .inr rfl, trivial⟩, rfl, trivial⟩⟩⟩) (tK (mR (aE rfl) (.func _ _ Tryz.call63) (ev2 (aR hS rfl) evn) rfl (nO _ h4)) (by rintro _ ⟨w, rfl⟩; exact ⟨⟨0, w⟩, aP [0, 3, 2] rfl rfl (le_refl _)⟩)),
      fun X2 S hw hi hS => aDc (X := X2) (p := 2) (v := fun x => .d (.lit (.map (some x.b)))) (mo := fun x => .map x.b (([] : List (aH × Int)).map fun p : aH × Int => ((fun a : aH => Value.agg ((aS a).map cB).toArray) p.1, (fun v : Int => AV.i v) p.2)) ([]) 0) hS hi rfl rfl (fun _ => rfl) hw (fun _ => rfl) (fun _ => rfl) (fun _ => rfl) (fun _ => ⟨rfl, rfl, .inr rfl, ⟨rfl, rfl, .inr rfl, ⟨rfl, rfl, .inr rfl, ⟨rfl, rfl, .inr rfl, ⟨rfl, rfl, .inl rfl, trivial⟩⟩⟩⟩⟩) (fun _ => ⟨trivial, rfl, ⟨⟨rfl, .inr rfl, trivial⟩, rfl, ⟨⟨rfl, .inl rfl, trivial⟩, rfl, trivial⟩⟩⟩) (tK (aEa (aE rfl)) (by rintro _ ⟨w, rfl⟩; exact ⟨⟨w, undef⟩, aP [0, 1, 3] rfl rfl (le_refl _)⟩)), trivial⟩⟩
  · exact fun X2 => cI (aI rfl (aI rfl (aI rfl (aN ⟨rfl, trivial⟩))))
 ·intro X2;refine to (dZ (aE rfl) bBf (zs := [.lit (.int .i64 0), .sl 1 ((([] : List Int)).map aK), .sl 1 ((([] : List Int)).map aK), .lit (.map none)]) rfl rfl rfl rfl (es := [.lit (.int .i64 j.Rounds), .sl 1 (j.Slots.map aK), .lit (X2 3).v, .lit (.map (some (X2 4).b))]) rfl) ?_;refine bB rfl (eP (v := .agg [.lit (.int .i64 j.Rounds), .sl 1 (j.Slots.map aK), .lit (X2 3).v, .lit (.map (some (X2 4).b))]) (aE rfl) rfl rfl rfl) ?_;rintro _ ⟨b5, rfl⟩;refine ta (.bp b5 0 0) (aB (aC (aA ?_)));refine bB rfl (aEa (aE rfl)) ?_;rintro _ ⟨r6, rfl⟩;refine bB rfl (aEa (aE rfl)) ?_;rintro _ ⟨r7, rfl⟩;refine ta (.d (.lit (.map (some r6)))) (ta (.d (.lit (.map (some r7)))) (aB (aC (aC (aA (tm (.d (.sl 5 (P.map aJ))) (to (sle rfl eL.of) (tm (.i 0) (aB (bA ?_))))))))));refine xP [6, 7, 8, 28, 29] (fun (s8 : Int × (List (aF × Int)) × (List (aH × aF)) × (List Nat) × Nat × (List Nat) × Nat) => [(30, .i s8.1)]) (fun (s8 : Int × (List (aF × Int)) × (List (aH × aF)) × (List Nat) × Nat × (List Nat) × Nat) => [.arr (X2 3).v 3 1 (r3.map aK), .map (X2 4).b (([] : List (aH × Int)).map fun p : aH × Int => ((fun a : aH => Value.agg ((aS a).map cB).toArray) p.1, (fun v : Int => AV.i v) p.2)) ([]) 0, .box b5 0 [.lit (.int .i64 j.Rounds), .sl 1 (j.Slots.map aK), .lit (X2 3).v, .lit (.map (some (X2 4).b))], .map r6 (s8.2.1.map fun p : aF × Int => ((fun a : aF => Value.agg ((aJ a).map cB).toArray) p.1, (fun v : Int => AV.i v) p.2)) s8.2.2.2.1 s8.2.2.2.2.1, .map r7 (s8.2.2.1.map fun p : aH × aF => ((fun a : aH => Value.agg ((aS a).map cB).toArray) p.1, (fun v : aF => AV.agg (aJ v)) p.2)) s8.2.2.2.2.2.1 s8.2.2.2.2.2.2]) (fun (k : Nat) (s8 : Int × (List (aF × Int)) × (List (aH × aF)) × (List Nat) × Nat × (List Nat) × Nat) => jE Q P (P.length : Int) r3 ([] : List (aH × Int)) j k s8.1 s8.2.1 s8.2.2.1) (fun _ h => h) (0, ([] : List (aF × Int)), ([] : List (aH × aF)), [], 0, [], 0) h (aP [1, 2, 3, 4, 5] rfl rfl (aI rfl (aN ⟨rfl, rfl, rfl, rfl, rfl, trivial⟩))) ?_;rintro d7 ⟨I, g, e, J, A, C, s⟩ h;simp only [jE] at h;refine aC (aA (to (scm rfl rfl rfl) (aB (aC ?_))));refine tip h (fun c0 h => ?_) (fun c0 h => ?_)
  ·refine aV (aC (bA (aC (aA ?_))));obtain ⟨c, c1, h⟩ := iA h;refine to (six rfl rfl eL.of (aX aJ c1)) (to (rO (aJ c) rfl mA) ?_);refine bB rfl (cR (zs := [.lit (.int .i64 0), .lit (.int .i64 0), .lit (.int .i64 0), .lit (.int .i64 0), .lit (.int .i64 0)]) (aE rfl) Tryz.zeroValue67 rfl rfl) ?_;rintro _ ⟨a0, rfl⟩;refine to (sst 5 rfl rfl Tryz.sizeOf67 (aJ c)) (aB (aC (aC (aA (tfl 5 rfl rfl pG rfl aU (to (scm rfl rfl rfl) (aB ?_)))))));refine tip h (fun c2 h => ?_) (fun c2 h => ?_)
   ·refine aC ?_;refine qN mix 6 [6, 7, 8, 28, 29, 30] (fun u => [(37, .d (.lit (.map (some r6)))), (40, .i (w64 ((dA c 0 g) + 1))), (42, .i (uE c g J A))]) (fun u => [.arr (X2 3).v 3 1 (r3.map aK), .map (X2 4).b (([] : List (aH × Int)).map fun p : aH × Int => ((fun a : aH => Value.agg ((aS a).map cB).toArray) p.1, (fun v : Int => AV.i v) p.2)) ([]) 0, .box b5 0 [.lit (.int .i64 j.Rounds), .sl 1 (j.Slots.map aK), .lit (X2 3).v, .lit (.map (some (X2 4).b))], .map r6 ((sL c 0 g).map fun p : aF × Int => ((fun a : aF => Value.agg ((aJ a).map cB).toArray) p.1, (fun v : Int => AV.i v) p.2)) (mbs c g J A) (mck c g A), .map r7 (e.map fun p : aH × aF => ((fun a : aH => Value.agg ((aS a).map cB).toArray) p.1, (fun v : aF => AV.agg (aJ v)) p.2)) C s, .box a0 0 (aJ c)]) ?_ ?_
    ·refine ⟨0, fun u => [(37, 0, .d (.lit (.map (some r6)))), (38, 1, .agg (aJ c)), (39, 2, .i (dA c 0 g)), (40, 3, .i (w64 ((dA c 0 g) + 1))), (41, 4, .tup [.i (dA c 0 g), .i (uE c g J A)]), (42, 5, .i (uE c g J A))], fun u => [([], .arr (X2 3).v 3 1 (r3.map aK)), ([], .map (X2 4).b (([] : List (aH × Int)).map fun p : aH × Int => ((fun a : aH => Value.agg ((aS a).map cB).toArray) p.1, (fun v : Int => AV.i v) p.2)) ([]) 0), ([], .box b5 0 [.lit (.int .i64 j.Rounds), .sl 1 (j.Slots.map aK), .lit (X2 3).v, .lit (.map (some (X2 4).b))]), ([(4, .map r6 ((sL c 0 g).map fun p : aF × Int => ((fun a : aF => Value.agg ((aJ a).map cB).toArray) p.1, (fun v : Int => AV.i v) p.2)) (mbs c g J A) (mck c g A))], .map r6 (g.map fun p : aF × Int => ((fun a : aF => Value.agg ((aJ a).map cB).toArray) p.1, (fun v : Int => AV.i v) p.2)) J A), ([], .map r7 (e.map fun p : aH × aF => ((fun a : aH => Value.agg ((aS a).map cB).toArray) p.1, (fun v : aF => AV.agg (aJ v)) p.2)) C s), ([], .box a0 0 (aJ c))], ?_, ?_⟩
     · exact ⟨by kernel_rfl, by kernel_rfl, by kernel_rfl, fun _ => by kernel_rfl, fun _ => by kernel_rfl, fun _ => by kernel_rfl, fun _ => rfl, [([], [4]), ([], [4]), ([0, 1], []), ([2], []), ([0, 1], []), ([4], [])], by kernel_rfl, ⟨fun u S hw hi hS => bQ (X := u) rfl (hw u) rfl (cJ rfl (eB (v := .d (.lit (.map (some r6)))) (aE rfl) (aR hS rfl) rfl)),
      fun u S hw hi hS => bQ (X := u) rfl (hw u) rfl (cJ rfl (yU (aE rfl) (aR hS rfl) (i := 5) (og hS rfl rfl) mA (es := (aJ c)) rfl rfl)),
      fun u S hw hi hS => bQ (X := u) rfl (hw u) rfl (cJ rfl (aXg (av := (fun v : Int => AV.i v)) (l := g) (z := 0) (a := c) (m := 3) (aE rfl) aQo Tryz.underlying159 Tryz.zeroValue3 (fun _ _ => .d (.lit _ rfl)) (aR hS rfl) (og2 rfl) rfl (aR hS rfl) (rU (enc := aJ) c rfl))),
      fun u S hw hi hS => bQ (X := u) rfl (hw u) rfl (cJ rfl (qT (aE rfl) (aR hS rfl) rfl rfl)),
      fun u S hw hi hS => bCo (X := u) (p := 3) hS rfl rfl rfl (hw u) rfl rfl rfl (tK (aVc (av := (fun v : Int => AV.i v)) (l := g) (z := 0) (a := c) (m := 3) (aE rfl) aQo Tryz.underlying159 Tryz.zeroValue3 (fun _ _ => .d (.lit _ rfl)) (aR hS rfl) (og hS rfl rfl) rfl (aR hS rfl) (rU (enc := aJ) c rfl)) (by rintro _ rfl; exact Ent.refl _)),
      fun u S hw hi hS => bQ (X := u) rfl (hw u) rfl (cJ rfl (aAr (aE rfl) (aR hS rfl) rfl)), trivial⟩⟩
     · exact fun u => cI (aI rfl (aI rfl (aI rfl (aN ⟨rfl, rfl, rfl, rfl, rfl, rfl, trivial⟩))))
    ·intro u;refine to (aPh (kv := (fun a : aF => Value.agg ((aJ a).map cB).toArray)) (av := (fun v : Int => AV.i v)) (l := g) (z := 0) (v := w64 ((dA c 0 g) + 1)) (a := c) (m := 3) rfl rfl rfl rfl rfl) ?_;refine aB ?_;refine bX ?_;refine .inl ⟨rfl, ?_⟩;refine aA (to (sar rfl rfl rfl) (tm (.i (w64 (I + 1))) (aB ?_)));exact ⟨(w64 (I + 1), (iD c (w64 ((dA c 0 g) + 1)) g), e, (mbs c g J A), (mck c g A), C, s), h, aP [0, 1, 2, 3, 4] rfl rfl (aI rfl (aN ⟨rfl, rfl, rfl, rfl, rfl, trivial⟩))⟩
   ·refine aV (aC (aA (tfl 5 rfl rfl rE rfl aU (tfl 5 rfl rfl lT rfl aU (to (dZ (aE rfl) aNy (zs := [.lit (.int .i64 0), .lit (.int .i64 0)]) rfl rfl rfl rfl (es := [.lit (.int .i64 c.Round), .lit (.int .i64 c.Place)]) rfl) ?_)))));refine bB rfl (cR (zs := [.lit (.int .i64 0), .lit (.int .i64 0)]) (aE rfl) Tryz.zeroValue155 rfl rfl) ?_;rintro _ ⟨c3, rfl⟩;refine to (sst 6 rfl rfl Tryz.sizeOf155 (aS (aH.mk c.Round c.Place))) (aB (aC (aC (aA (tm (.d (.lit (.map (some r7)))) (to (sla 6 (aS (aH.mk c.Round c.Place)) rfl rfl xT) (to (aNj (av := (fun v : aF => AV.agg (aJ v))) (l := e) (z := (aF.mk 0 0 0 0 0)) (a := (aH.mk c.Round c.Place)) (m := 4) (aE rfl) aBu Tryz.underlying160 Tryz.zeroValue67 (fun _ _ => .agg (aIl rfl)) rfl rfl rfl rfl (rU (enc := aS) (aH.mk c.Round c.Place) rfl)) ?_)))))));refine tm (.tup [.agg (aJ (dA (aH.mk c.Round c.Place) (aF.mk 0 0 0 0 0) e)), .b (eE (aH.mk c.Round c.Place) e)]) (to (sex rfl rfl) (to (sex rfl rfl) ?_));refine bB rfl (cR (zs := [.lit (.int .i64 0), .lit (.int .i64 0), .lit (.int .i64 0), .lit (.int .i64 0), .lit (.int .i64 0)]) (aE rfl) Tryz.zeroValue67 rfl rfl) ?_;rintro _ ⟨c4, rfl⟩;refine to (sst 7 rfl rfl Tryz.sizeOf67 (aJ (dA (aH.mk c.Round c.Place) (aF.mk 0 0 0 0 0) e))) (ta (.b (eE (aH.mk c.Round c.Place) e)) (aB (aC (aA (tm (.b (eE (aH.mk c.Round c.Place) e)) (tm (.b (eE (aH.mk c.Round c.Place) e)) ?_))))));obtain ⟨c5, T, h⟩ := iA h;refine bD 4 [6, 7, 8, 10, 11, 28, 29, 30] 59 c5 ?_ ?_
    ·refine bch T (fun K T => ?_) (fun K T => ?_)
     ·refine tk K (sla 7 (aJ (dA (aH.mk c.Round c.Place) (aF.mk 0 0 0 0 0) e)) rfl rfl mA) (tk K (sla 5 (aJ c) rfl rfl mA) (tk K (aBn (a := (dA (aH.mk c.Round c.Place) (aF.mk 0 0 0 0 0) e)) (b := c) (aE rfl) rfl rfl rfl rfl Tryz.eqGuardType67 aQg) ?_));refine to (spt (.b (!decide ((dA (aH.mk c.Round c.Place) (aF.mk 0 0 0 0 0) e) = c))) K) ?_;obtain rfl := sIn T;refine aB (aO rfl ⟨rfl, rfl, rfl, rfl, rfl, rfl, rfl, rfl, trivial⟩ rfl)
     ·refine tp K (tp K (tp K (to (spf (.b false) K) ?_)));obtain rfl := sIn T;refine aB (aO rfl ⟨rfl, rfl, rfl, rfl, rfl, rfl, rfl, rfl, trivial⟩ rfl)
    ·refine aB ?_;refine tip h (fun c6 h => ?_) (fun c6 h => ?_)
     ·refine aC (aA (ta (fT bW (none : Option bH)) (ta (.b false) (aB ?_))));exact aY ⟨rfl, _, [], [.arr (X2 3).v 3 1 (r3.map aK), .map (X2 4).b (([] : List (aH × Int)).map fun p : aH × Int => ((fun a : aH => Value.agg ((aS a).map cB).toArray) p.1, (fun v : Int => AV.i v) p.2)) ([]) 0, .box b5 0 [.lit (.int .i64 j.Rounds), .sl 1 (j.Slots.map aK), .lit (X2 3).v, .lit (.map (some (X2 4).b))], .map r6 (g.map fun p : aF × Int => ((fun a : aF => Value.agg ((aJ a).map cB).toArray) p.1, (fun v : Int => AV.i v) p.2)) J A, .map r7 (e.map fun p : aH × aF => ((fun a : aH => Value.agg ((aS a).map cB).toArray) p.1, (fun v : aF => AV.agg (aJ v)) p.2)) C s, .box a0 0 (aJ c), .box c3 0 (aS (aH.mk c.Round c.Place)), .box c4 0 (aJ (dA (aH.mk c.Round c.Place) (aF.mk 0 0 0 0 0) e))], _, .two (.tmp 4 (v := fT bW (none : Option bH)) rfl) (.tmp 5 (v := .b false) rfl), .refl _, .same _, ((none : Option bH), false), h, rfl, rfl⟩
     ·refine aV (aA (tm (.d (.lit (.map (some r7)))) (to (sla 6 (aS (aH.mk c.Round c.Place)) rfl rfl xT) (to (sla 5 (aJ c) rfl rfl mA) (to (aEn (av := (fun v : aF => AV.agg (aJ v))) (l := e) (v := c) (a := (aH.mk c.Round c.Place)) (m := 4) aBu Tryz.underlying160 rfl rfl rfl rfl (rU (enc := aS) (aH.mk c.Round c.Place) rfl) rfl rfl) ?_)))));refine cS ?_;refine aA (to (sar rfl rfl rfl) (tm (.i (w64 (I + 1))) (aB ?_)));exact ⟨(w64 (I + 1), g, (iD (aH.mk c.Round c.Place) c e), J, A, (mbs (aH.mk c.Round c.Place) e C s), (mck (aH.mk c.Round c.Place) e s)), h, aP [0, 1, 2, 3, 4] rfl rfl (aI rfl (aN ⟨rfl, rfl, rfl, rfl, rfl, trivial⟩))⟩
  ·refine bX ?_;refine .inl ⟨rfl, ?_⟩;simp only [tN] at h;refine aC (aC (aA (tm (.bp b5 0 0) (tm (.d (.lit (.map (some r6)))) ?_))));refine jD (aP [2, 0, 3, 1, 4] rfl rfl (le_refl _)) ?_;refine bB rfl (fG (passed := [.box b5 0 [.lit (.int .i64 j.Rounds), .sl 1 (j.Slots.map aK), .lit (X2 3).v, .lit (.map (some (X2 4).b))], .arr (X2 3).v 3 1 (r3.map aK), .map r6 (g.map fun p : aF × Int => ((fun a : aF => Value.agg ((aJ a).map cB).toArray) p.1, (fun v : Int => AV.i v) p.2)) J A]) (aE rfl) rfl (.func _ _ Tryz.call119) rfl rfl (aEg j r3 g h)) ?_;rintro _ ⟨_, _, ⟨E, b6, b7, h, rfl, rfl⟩, rfl⟩;refine to (sn rfl) (aB ?_);refine tip h (fun c7 h => ?_) (fun c7 h => ?_)
   ·refine aC (aA (ta (fT bW (none : Option bH)) (ta (.b false) (aB ?_))));exact aY ⟨rfl, _, [], [.box b5 0 [.lit (.int .i64 j.Rounds), .sl 1 (j.Slots.map aK), .lit (X2 3).v, .lit (.map (some (X2 4).b))], .arr (X2 3).v 3 1 (E.2.1.map aK), .map r6 (E.2.2.map fun p : aF × Int => ((fun a : aF => Value.agg ((aJ a).map cB).toArray) p.1, (fun v : Int => AV.i v) p.2)) b6 b7, .map (X2 4).b (([] : List (aH × Int)).map fun p : aH × Int => ((fun a : aH => Value.agg ((aS a).map cB).toArray) p.1, (fun v : Int => AV.i v) p.2)) ([]) 0, .map r7 (e.map fun p : aH × aF => ((fun a : aH => Value.agg ((aS a).map cB).toArray) p.1, (fun v : aF => AV.agg (aJ v)) p.2)) C s], _, .two (.tmp 4 (v := fT bW (none : Option bH)) rfl) (.tmp 5 (v := .b false) rfl), .refl _, .same _, ((none : Option bH), false), h, rfl, rfl⟩
   ·refine aV (aC (aC (aA (tm (.bp b5 0 0) (to (oG (aE rfl) rfl) ?_)))));refine tfl 0 rfl rfl qI rfl cQ (to (kO (m := 1) (aE rfl) rfl rfl bL.of) ?_);refine tm (.i 0) (aB (bA ?_));refine xP [6, 8, 71, 72] (fun (M : Int × (List (aH × Int)) × (List Nat) × Nat) => [(73, .i M.1)]) (fun (M : Int × (List (aH × Int)) × (List Nat) × Nat) => [.arr (X2 3).v 3 1 (E.2.1.map aK), .map (X2 4).b (M.2.1.map fun p : aH × Int => ((fun a : aH => Value.agg ((aS a).map cB).toArray) p.1, (fun v : Int => AV.i v) p.2)) M.2.2.1 M.2.2.2, .box b5 0 [.lit (.int .i64 j.Rounds), .sl 1 (j.Slots.map aK), .lit (X2 3).v, .lit (.map (some (X2 4).b))], .map r7 (e.map fun p : aH × aF => ((fun a : aH => Value.agg ((aS a).map cB).toArray) p.1, (fun v : aF => AV.agg (aJ v)) p.2)) C s]) (fun (k : Nat) (M : Int × (List (aH × Int)) × (List Nat) × Nat) => jF Q (E.2.1.length : Int) E.2.1 j e k M.1 M.2.1) (fun _ h => h) (0, ([] : List (aH × Int)), [], 0) h (aP [1, 3, 0, 4] rfl rfl (aI rfl (aN ⟨rfl, rfl, rfl, rfl, trivial⟩))) ?_;rintro d8 ⟨y, H, U, V⟩ h;simp only [jF] at h;refine aC (aA (to (scm rfl rfl rfl) (aB (aC ?_))));refine tip h (fun c8 h => ?_) (fun c8 h => ?_)
    ·refine aV (aC (bA (aC (aA (tm (.i y) ?_)))));obtain ⟨a8, a9, h⟩ := iA h;refine to (dJ (m := 0) (aE rfl) rfl rfl rfl bL.of (aX aK a9)) ?_;refine to (jC (aE rfl) rfl (m := 0) rfl (dX aK a9) rfl aU) ?_;refine ta (.i y) (ta (.i a8) (aB (aC (aA (tm (.i a8) (to (scm rfl rfl rfl) (aB ?_)))))));refine tip h (fun c9 h => ?_) (fun c9 h => ?_)
     ·refine aA (tm (.bp b5 0 0) (tm (.i y) (to (aXb (aE rfl) rfl rfl (.inr (.inr ⟨rfl, rfl⟩))) ?_)));obtain ⟨d0, d1, h⟩ := iA h;refine jD (aP [2, 0, 1, 3] rfl rfl (le_refl _)) ?_;refine bB rfl (fG (passed := [.box b5 0 [.lit (.int .i64 j.Rounds), .sl 1 (j.Slots.map aK), .lit (X2 3).v, .lit (.map (some (X2 4).b))], .arr (X2 3).v 3 1 (E.2.1.map aK), .map (X2 4).b (H.map fun p : aH × Int => ((fun a : aH => Value.agg ((aS a).map cB).toArray) p.1, (fun v : Int => AV.i v) p.2)) U V]) (aE rfl) rfl (.func _ _ Tryz.call120) rfl rfl (zA j E.2.1 H (aPx y 1) 0 d1)) ?_;rintro _ ⟨_, _, ⟨b8, b9, rfl, rfl⟩, rfl⟩;refine cS ?_;refine aA (to (sar rfl rfl rfl) (tm (.i (w64 (y + 1))) (aB ?_)));exact ⟨(w64 (y + 1), d0.2, b8, b9), h, aP [1, 2, 0, 3] rfl rfl (aI rfl (aN ⟨rfl, rfl, rfl, rfl, trivial⟩))⟩
     ·refine cU ?_;refine aA (to (sar rfl rfl rfl) (tm (.i (w64 (y + 1))) (aB ?_)));exact ⟨(w64 (y + 1), H, U, V), h, aP [0, 1, 2, 3] rfl rfl (aI rfl (aN ⟨rfl, rfl, rfl, rfl, trivial⟩))⟩
    ·refine bX ?_;refine .inl ⟨rfl, ?_⟩;simp only [tO] at h;refine aC (aC (aA (tm (.d (.lit (.map (some r7)))) ?_)));refine bB rfl (aTu (m := 3) (aE rfl) Tryz.underlying160 rfl rfl) ?_;rintro _ ⟨Z, d2, rfl⟩;have h := aIq h d2;refine aB (bA ?_);refine xP [6, 86] (fun (N : (List (aH × Int)) × (List Nat) × Nat × (List Nat)) => []) (fun (N : (List (aH × Int)) × (List Nat) × Nat × (List Nat)) => [.arr (X2 3).v 3 1 (E.2.1.map aK), .map (X2 4).b (N.1.map fun p : aH × Int => ((fun a : aH => Value.agg ((aS a).map cB).toArray) p.1, (fun v : Int => AV.i v) p.2)) N.2.1 N.2.2.1, .box b5 0 [.lit (.int .i64 j.Rounds), .sl 1 (j.Slots.map aK), .lit (X2 3).v, .lit (.map (some (X2 4).b))], .map r7 (e.map fun p : aH × aF => ((fun a : aH => Value.agg ((aS a).map cB).toArray) p.1, (fun v : aF => AV.agg (aJ v)) p.2)) C s, .iter Z r7 s N.2.2.2 s]) (fun (k : Nat) (N : (List (aH × Int)) × (List Nat) × Nat × (List Nat)) => lQ Q E.2.1 j e k N.1 (pB e C N.2.2.2)) (fun _ h => h) (H, U, V, []) h (aP [0, 1, 2, 3, 4] rfl rfl (aN ⟨rfl, rfl, trivial⟩)) ?_;rintro d9 ⟨B, W, Y, L⟩ h;simp only [lQ] at h;refine aC (aA ?_);refine bB rfl (aXh (kv := (fun a : aH => Value.agg ((aS a).map cB).toArray)) (av := (fun v : aF => AV.agg (aJ v))) (l := e) (mi := 4) (mm := 3) (aE rfl) rfl rfl rfl) ?_;rintro _ (⟨d3, rfl⟩ | ⟨e0, a1, n, b0, rfl⟩)
     ·have h := h.1 d3;refine to (sex rfl rfl) (aB (aC ?_));refine xD rfl (fun b2 => ?_) (fun b2 => ?_)
      ·exact absurd b2 (by decide)
      ·refine bX ?_;refine .inl ⟨rfl, ?_⟩;simp only [xE] at h;refine aC (aA (tm (.bp b5 0 0) (ta (.bp b5 0 0) (ta (.b true) (aB ?_)))));exact aY ⟨rfl, _, [], [.arr (X2 3).v 3 1 (E.2.1.map aK), .map (X2 4).b (B.map fun p : aH × Int => ((fun a : aH => Value.agg ((aS a).map cB).toArray) p.1, (fun v : Int => AV.i v) p.2)) W Y, .box b5 0 [.lit (.int .i64 j.Rounds), .sl 1 (j.Slots.map aK), .lit (X2 3).v, .lit (.map (some (X2 4).b))], .map r7 (e.map fun p : aH × aF => ((fun a : aH => Value.agg ((aS a).map cB).toArray) p.1, (fun v : aF => AV.agg (aJ v)) p.2)) C s, .iter Z r7 s L s], _, .two (.tmp 4 (v := .bp b5 0 0) rfl) (.tmp 5 (v := .b true) rfl), .refl _, aEq (.cons (aDk 2 rfl rfl (dvc (.same _) (dvc (.same _) (dvc (eW 0 rfl (bZ (f := aK) fun _ => rfl)) (dvc (bCr (kv := (fun a : aH => Value.agg ((aS a).map cB).toArray)) (av := (fun v : Int => AV.i v)) (l := B) (enc := aK) (agg := false) 1 rfl (fun _ _ => rfl) (fun _ => rfl)) dvn))))) (.cons (.same _) .nil)), ((some (bH.mk j E.2.1 B)), true), h, rfl, rfl⟩
     ·have h := aKm h b0;refine to (sex rfl rfl) (aB (aC ?_));refine xD rfl (fun b3 => ?_) (fun b3 => ?_)
      ·refine aV (bA (aC (aA (to (aTt (kv := (fun a : aH => Value.agg ((aS a).map cB).toArray)) (av := (fun v : aF => AV.agg (aJ v))) (l := e) (mi := 4) (mm := 3) (ka := .agg (aS n.1)) (aE rfl) rfl rfl rfl b0 (fun _ _ => .agg (aIl rfl))) ?_))));refine to (sex rfl rfl) (to (sex rfl rfl) ?_);refine bB rfl (cR (zs := [.lit (.int .i64 0), .lit (.int .i64 0)]) (aE rfl) Tryz.zeroValue155 rfl rfl) ?_;rintro _ ⟨O, rfl⟩;refine bB rfl (cR (zs := [.lit (.int .i64 0), .lit (.int .i64 0), .lit (.int .i64 0), .lit (.int .i64 0), .lit (.int .i64 0)]) (aE rfl) Tryz.zeroValue67 rfl rfl) ?_;rintro _ ⟨a2, rfl⟩;refine to (sst 5 rfl rfl Tryz.sizeOf155 (aS n.1)) (to (sst 6 rfl rfl Tryz.sizeOf67 (aJ n.2)) (aB (aC ?_)));refine cT mix 6 [6, 16, 86] [(95, .d (.lit (X2 3).v)), (97, .i n.2.Player)] ?_ ?_
       ·refine ⟨[(92, 0, .bp b5 0 0), (93, 1, .bp b5 0 0), (94, 2, .bp b5 0 2), (95, 3, .d (.lit (X2 3).v)), (96, 4, .bp a2 0 3), (97, 5, .i n.2.Player)], ?_, ?_⟩
        · exact dok [([], []), ([0], []), ([1], []), ([2], []), ([], []), ([4], [])] ⟨go (zm (.bp b5 0 0)),
      go fun S hS => oG (aE rfl) (aR hS rfl),
      go (zf rfl qI),
      go (zl 2 rfl rfl rfl cQ),
      go (zf rfl pH),
      go (zl 6 rfl rfl rfl aU), trivial⟩
        · exact cI (aI rfl (aI rfl (aN ⟨rfl, rfl, rfl, trivial⟩)))
       ·obtain ⟨o, d4, h⟩ := iA h;refine to (sc Tryz.call89 (vW _ _ d4) (.cons (.d (eW 0 rfl (bZ (f := aK) fun _ => rfl))) (.cons (.same _) .nil))) (ta (.i o) (aB (aC ?_)));obtain ⟨a3, G, h⟩ := iA h;refine aLx (a3) (fun t => ?_) (fun t => ?_)
        ·have h := aTl t h;refine cT mix 15 [6, 86] [(109, .b a3)] ?_ ?_
         ·refine bch G (fun q G => ?_) (fun q G => ?_)
          ·obtain rfl := sIn G;refine ⟨[(99, 0, .i o), (100, 1, .b (decide (o < 0))), (101, 2, .b (decide (o < 0))), (102, 3, .tup []), (103, 4, .tup []), (104, 5, .tup []), (105, 6, .tup []), (106, 7, .tup []), (107, 8, .tup []), (108, 9, .b true), (109, 10, .b (true)), (110, 11, .tup []), (111, 12, .tup []), (112, 13, .tup []), (113, 14, .tup [])], ?_, ?_⟩
           · exact dok [([], []), ([0], []), ([1], []), ([2], []), ([2, 3], []), ([2], []), ([2, 4, 5], []), ([2], []), ([2, 6, 7], []), ([2, 8], []), ([9], []), ([10], []), ([10], []), ([10], []), ([10, 13], [])] ⟨go (zm (.i o)),
      go (zcm rfl rfl rfl),
      go (zm (.b (decide (o < 0)))),
      gp q,
      gp q,
      gp q,
      gp q,
      gp q,
      gp q,
      go (zpt (.b true) q),
      go (zm (.b (true))),
      gp t,
      gp t,
      gp t,
      gp t, trivial⟩
           · exact cI (aI rfl (aN ⟨rfl, rfl, trivial⟩))
          ·obtain ⟨F, a4, G⟩ := bns G;obtain rfl := sIn G;refine ⟨[(99, 0, .i o), (100, 1, .b (decide (o < 0))), (101, 2, .b (decide (o < 0))), (102, 3, .bp O 0 0), (103, 4, .i n.1.round), (104, 5, .i o), (105, 6, .agg (aS F)), (106, 7, .agg (aS n.1)), (107, 8, .b (!decide (F = n.1))), (108, 9, .b (!decide (F = n.1))), (109, 10, .b (!decide (F = n.1))), (110, 11, .tup []), (111, 12, .tup []), (112, 13, .tup []), (113, 14, .tup [])], ?_, ?_⟩
           · exact dok [([], []), ([0], []), ([1], []), ([2], []), ([2, 3], []), ([2], []), ([2, 4, 5], []), ([2], []), ([2, 6, 7], []), ([2, 8], []), ([9], []), ([10], []), ([10], []), ([10], []), ([10, 13], [])] ⟨go (zm (.i o)),
      go (zcm rfl rfl rfl),
      go (zm (.b (decide (o < 0)))),
      gt q (zf rfl vJ),
      gt q (zl 5 rfl rfl rfl aU),
      gt q (zm (.i o)),
      gt q fun S hS => eX (aE rfl) (.func _ _ Tryz.call116) (ev2 (aR hS rfl) (ev2 (aR hS rfl) evn)) rfl (vC _ _ a4),
      gt q (zla 5 (aS n.1) rfl rfl xT),
      gt q fun S hS => aBn (a := F) (b := n.1) (aE rfl) (aR hS rfl) (aR hS rfl) rfl rfl Tryz.eqGuardType155 aNr,
      go (zpf (.b (!decide (F = n.1))) q),
      go (zm (.b (!decide (F = n.1)))),
      gp t,
      gp t,
      gp t,
      gp t, trivial⟩
           · exact cI (aI rfl (aN ⟨rfl, rfl, trivial⟩))
         ·refine tp t (tp t (to (spt (.b true) t) (aB ?_)));refine xD rfl (fun b4 => ?_) (fun b4 => ?_)
          ·refine aC (aA (ta (fT bW (none : Option bH)) (ta (.b false) (aB ?_))));exact aY ⟨rfl, _, [], [.arr (X2 3).v 3 1 (E.2.1.map aK), .map (X2 4).b (B.map fun p : aH × Int => ((fun a : aH => Value.agg ((aS a).map cB).toArray) p.1, (fun v : Int => AV.i v) p.2)) W Y, .box b5 0 [.lit (.int .i64 j.Rounds), .sl 1 (j.Slots.map aK), .lit (X2 3).v, .lit (.map (some (X2 4).b))], .map r7 (e.map fun p : aH × aF => ((fun a : aH => Value.agg ((aS a).map cB).toArray) p.1, (fun v : aF => AV.agg (aJ v)) p.2)) C s, .iter Z r7 s (L ++ [a1]) s, .box O 0 (aS n.1), .box a2 0 (aJ n.2)], _, .two (.tmp 4 (v := fT bW (none : Option bH)) rfl) (.tmp 5 (v := .b false) rfl), .refl _, .same _, ((none : Option bH), false), h, rfl, rfl⟩
          ·exact absurd b4 (by decide)
        ·have h := aTk t h;refine cT mix 15 [6, 86] [(109, .b a3), (110, .bp b5 0 0), (111, .i o), (112, .bp O 0 0), (113, .i n.1.round)] ?_ ?_
         ·refine bch G (fun q G => ?_) (fun q G => ?_)
          ·obtain rfl := sIn G;refine ⟨[(99, 0, .i o), (100, 1, .b (decide (o < 0))), (101, 2, .b (decide (o < 0))), (102, 3, .tup []), (103, 4, .tup []), (104, 5, .tup []), (105, 6, .tup []), (106, 7, .tup []), (107, 8, .tup []), (108, 9, .b true), (109, 10, .b (true)), (110, 11, .bp b5 0 0), (111, 12, .i o), (112, 13, .bp O 0 0), (113, 14, .i n.1.round)], ?_, ?_⟩
           · exact dok [([], []), ([0], []), ([1], []), ([2], []), ([2, 3], []), ([2], []), ([2, 4, 5], []), ([2], []), ([2, 6, 7], []), ([2, 8], []), ([9], []), ([10], []), ([10], []), ([10], []), ([10, 13], [])] ⟨go (zm (.i o)),
      go (zcm rfl rfl rfl),
      go (zm (.b (decide (o < 0)))),
      gp q,
      gp q,
      gp q,
      gp q,
      gp q,
      gp q,
      go (zpt (.b true) q),
      go (zm (.b (true))),
      gt t (zm (.bp b5 0 0)),
      gt t (zm (.i o)),
      gt t (zf rfl vJ),
      gt t (zl 5 rfl rfl rfl aU), trivial⟩
           · exact cI (aI rfl (aI rfl (aI rfl (aI rfl (aI rfl (aN ⟨rfl, rfl, trivial⟩))))))
          ·obtain ⟨F, a4, G⟩ := bns G;obtain rfl := sIn G;refine ⟨[(99, 0, .i o), (100, 1, .b (decide (o < 0))), (101, 2, .b (decide (o < 0))), (102, 3, .bp O 0 0), (103, 4, .i n.1.round), (104, 5, .i o), (105, 6, .agg (aS F)), (106, 7, .agg (aS n.1)), (107, 8, .b (!decide (F = n.1))), (108, 9, .b (!decide (F = n.1))), (109, 10, .b (!decide (F = n.1))), (110, 11, .bp b5 0 0), (111, 12, .i o), (112, 13, .bp O 0 0), (113, 14, .i n.1.round)], ?_, ?_⟩
           · exact dok [([], []), ([0], []), ([1], []), ([2], []), ([2, 3], []), ([2], []), ([2, 4, 5], []), ([2], []), ([2, 6, 7], []), ([2, 8], []), ([9], []), ([10], []), ([10], []), ([10], []), ([10, 13], [])] ⟨go (zm (.i o)),
      go (zcm rfl rfl rfl),
      go (zm (.b (decide (o < 0)))),
      gt q (zf rfl vJ),
      gt q (zl 5 rfl rfl rfl aU),
      gt q (zm (.i o)),
      gt q fun S hS => eX (aE rfl) (.func _ _ Tryz.call116) (ev2 (aR hS rfl) (ev2 (aR hS rfl) evn)) rfl (vC _ _ a4),
      gt q (zla 5 (aS n.1) rfl rfl xT),
      gt q fun S hS => aBn (a := F) (b := n.1) (aE rfl) (aR hS rfl) (aR hS rfl) rfl rfl Tryz.eqGuardType155 aNr,
      go (zpf (.b (!decide (F = n.1))) q),
      go (zm (.b (!decide (F = n.1)))),
      gt t (zm (.bp b5 0 0)),
      gt t (zm (.i o)),
      gt t (zf rfl vJ),
      gt t (zl 5 rfl rfl rfl aU), trivial⟩
           · exact cI (aI rfl (aI rfl (aI rfl (aI rfl (aI rfl (aN ⟨rfl, rfl, trivial⟩))))))
         ·obtain ⟨a5, d5, h⟩ := iA h;refine jD (aP [2, 0, 1, 3, 4, 5, 6] rfl rfl (le_refl _)) ?_;refine aTw rfl rfl (aE rfl) rfl t (fG (passed := [.box b5 0 [.lit (.int .i64 j.Rounds), .sl 1 (j.Slots.map aK), .lit (X2 3).v, .lit (.map (some (X2 4).b))], .arr (X2 3).v 3 1 (E.2.1.map aK), .map (X2 4).b (B.map fun p : aH × Int => ((fun a : aH => Value.agg ((aS a).map cB).toArray) p.1, (fun v : Int => AV.i v) p.2)) W Y]) (aE rfl) rfl (.func _ _ Tryz.call120) rfl rfl (zA j E.2.1 B o n.1.round d5)) ?_;rintro _ ⟨_, _, ⟨a6, a7, rfl, rfl⟩, rfl⟩;refine tk t (sn rfl) (to (spf (.b (!a5.1)) t) (aB ?_));refine tip h (fun d6 h => ?_) (fun d6 h => ?_)
          ·refine aC (aA (ta (fT bW (none : Option bH)) (ta (.b false) (aB ?_))));exact aY ⟨rfl, _, [], [.box b5 0 [.lit (.int .i64 j.Rounds), .sl 1 (j.Slots.map aK), .lit (X2 3).v, .lit (.map (some (X2 4).b))], .arr (X2 3).v 3 1 (E.2.1.map aK), .map (X2 4).b (a5.2.map fun p : aH × Int => ((fun a : aH => Value.agg ((aS a).map cB).toArray) p.1, (fun v : Int => AV.i v) p.2)) a6 a7, .map r7 (e.map fun p : aH × aF => ((fun a : aH => Value.agg ((aS a).map cB).toArray) p.1, (fun v : aF => AV.agg (aJ v)) p.2)) C s, .iter Z r7 s (L ++ [a1]) s, .box O 0 (aS n.1), .box a2 0 (aJ n.2)], _, .two (.tmp 4 (v := fT bW (none : Option bH)) rfl) (.tmp 5 (v := .b false) rfl), .refl _, .same _, ((none : Option bH), false), h, rfl, rfl⟩
          ·refine cU ?_;exact ⟨(a5.2, a6, a7, (L ++ [a1])), h, aP [1, 2, 0, 3, 4] rfl rfl (aN ⟨rfl, rfl, trivial⟩)⟩
      ·exact absurd b3 (by decide)

theorem aEp (a : aQ) (e : List aF) {Q : ((Option bH) × Int) → Prop} (h : oJ a e Q) : fK Tryz.prog 75 [.agg (bI a), .d (.sl 5 (e.map aJ))] [] (fun r' o' => ∃ (r : (Option bH) × Int), Q r ∧ r' = .tup [fT bW r.1, .i r.2] ∧ o' = []) := by
 unfold oJ at h;refine hY Tryz.func75 rfl (rs := [.tmp 4, .tmp 5]) Tryz.results75 Tryz.ntmps75 (Nat.le_of_ble_eq_true rfl) ?_;refine aC (aA ?_);refine bB rfl (eP (v := .agg (bI a)) (aE rfl) rfl rfl rfl) ?_;rintro _ ⟨b1, rfl⟩;refine ta (fT bW (none : Option bH)) (ta (.i 0) (aB (aC (aC (aA (to (sla 0 (bI a) rfl rfl nJ) ?_))))));obtain ⟨r2, h3, h⟩ := iA h;refine to (scr Tryz.call100 (aLa _ h3)) (to (sn rfl) (aB ?_));refine tip h (fun c4 h => ?_) (fun c4 h => ?_)
 ·refine aC (aA (ta (fT bW (none : Option bH)) (ta (.i 70) (aB ?_))));exact aY ⟨rfl, _, [], [.box b1 0 (bI a)], _, .two (.tmp 4 (v := fT bW (none : Option bH)) rfl) (.tmp 5 (v := .i 70) rfl), .refl _, .same _, ((none : Option bH), 70), h, rfl, rfl⟩
 ·refine aV (aC (aC (aA (tm (.d (.sl 5 (e.map aJ))) (to (sle rfl eL.of) (to (scm rfl rfl rfl) (tm (.b (decide (60 < (e.length : Int)))) ?_)))))));obtain ⟨b5, h6, h⟩ := iA h;refine bD 4 [1, 2] 18 b5 ?_ ?_
  ·refine bch h6 (fun c h6 => ?_) (fun c h6 => ?_)
   ·refine tp c (tp c (tp c (to (spt (.b true) c) ?_)));obtain rfl := sIn h6;refine aB (aO rfl ⟨rfl, rfl, trivial⟩ rfl)
   ·refine tk c (sm (.d (.sl 5 (e.map aJ)))) (tk c (aRk (aE rfl) rfl rfl) ?_);obtain ⟨f, g, h6⟩ := bns h6;refine tk c (sc Tryz.call101 (yW _ _ 102 [.cp [.lit (.int .i64 a.Rounds), .sl 1 (a.Slots.map aK)]] Tryz.call102 (fun _ _ h6 => aLb _ _ h6) g) (.cons (.same _) (.cons (aZv (.cons (aDk 0 rfl rfl (dvc (.same _) (dvc (.same _) dvn))) .nil)) .nil))) (to (spf (.b f) c) ?_);obtain rfl := sIn h6;refine aB (aO rfl ⟨rfl, rfl, trivial⟩ rfl)
  ·refine aB ?_;refine tip h (fun c7 h => ?_) (fun c7 h => ?_)
   ·refine aC (aA (ta (fT bW (none : Option bH)) (ta (.i 71) (aB ?_))));exact aY ⟨rfl, _, [], [.box b1 0 (bI a)], _, .two (.tmp 4 (v := fT bW (none : Option bH)) rfl) (.tmp 5 (v := .i 71) rfl), .refl _, .same _, ((none : Option bH), 71), h, rfl, rfl⟩
   ·refine aV (aC (aA (to (sla 0 (bI a) rfl rfl nJ) (tm (.d (.sl 5 (e.map aJ))) ?_))));refine bB rfl (aBx (aE rfl) (.func _ _ Tryz.call104) rfl rfl (aMb _ _ h)) ?_;rintro _ ⟨_, _, ⟨r8, h, rfl, rfl⟩, rfl⟩;refine tm (.tup [fT bW r8.1, .b r8.2]) (to (sex rfl rfl) (to (sex rfl rfl) (ta (fT bW r8.1) (ta (.b r8.2) (aB (aC (aC (aA (tm (.b r8.2) (to (sn rfl) (aB ?_)))))))))));refine tip h (fun c9 h => ?_) (fun c9 h => ?_)
    ·refine aC (aA (ta (fT bW (none : Option bH)) (ta (.i 72) (aB ?_))));exact aY ⟨rfl, _, [], [.box b1 0 (bI a)], _, .two (.tmp 4 (v := fT bW (none : Option bH)) rfl) (.tmp 5 (v := .i 72) rfl), .refl _, .same _, ((none : Option bH), 72), h, rfl, rfl⟩
    ·refine aV (aC (aA (tm (fT bW r8.1) (ta (fT bW r8.1) (ta (.i 0) (aB ?_))))));exact aY ⟨rfl, _, [], [.box b1 0 (bI a)], _, .two (.tmp 4 (v := fT bW r8.1) rfl) (.tmp 5 (v := .i 0) rfl), .refl _, .same _, (r8.1, 0), h, rfl, rfl⟩

theorem aLz (a : aQ) (b : List aF) {Q : Int → Prop} (h : tZ a b Q) : fK Tryz.prog 45 [.agg (bI a), .d (.sl 5 (b.map aJ))] [] (fun r' o' => ∃ (r : Int), Q r ∧ r' = .i r ∧ o' = []) := by
 unfold tZ at h;refine hY Tryz.func45 rfl (rs := [.tmp 4]) Tryz.results45 Tryz.ntmps45 (Nat.le_of_ble_eq_true rfl) ?_;refine aC (aA ?_);refine bB rfl (eP (v := .agg (bI a)) (aE rfl) rfl rfl rfl) ?_;rintro _ ⟨b1, rfl⟩;refine ta (.i 0) (aB (aC (aA (to (sla 0 (bI a) rfl rfl nJ) (tm (.d (.sl 5 (b.map aJ))) ?_)))));refine bB rfl (aBx (aE rfl) (.func _ _ Tryz.call75) rfl rfl (aEp _ _ h)) ?_;rintro _ ⟨_, _, ⟨r2, h, rfl, rfl⟩, rfl⟩;refine tm (.tup [fT bW r2.1, .i r2.2]) (to (sex rfl rfl) (to (sex rfl rfl) (ta (fT bW r2.1) (ta (.i r2.2) (aB (aC (aA (tm (.i r2.2) (ta (.i r2.2) (aB ?_))))))))));exact aY ⟨rfl, _, [], [.box b1 0 (bI a)], _, .one (.tmp 4 (v := .i r2.2) rfl), .refl _, .same _, r2.2, h, rfl, rfl⟩

theorem aDl (a : Int) {r : Bool} (h : uB a = some r) : Fn Tryz.prog 121 [.i a] (.b r) := by
 unfold uB at h;refine Fn.of_tr Tryz.func121 rfl (rs := [.tmp 2]) Tryz.results121 Tryz.ntmps121 (Nat.le_of_ble_eq_true rfl) ?_;refine aC (aA (ta (.b false) (aB (aC (aA (tm (.i a) (tm (.i a) (to (scm rfl rfl rfl) (ta (.b (!decide (a = a))) (aB ?_))))))))));obtain rfl := sIn h;exact aY ⟨rfl, _, .one _, rfl, rfl⟩

theorem aNq (a : Int) (c : Int) {r : Bool} (h : vD a c = some r) : Fn Tryz.prog 105 [.i a, .i c] (.b r) := by
 unfold vD at h;refine Fn.of_tr Tryz.func105 rfl (rs := [.tmp 4]) Tryz.results105 Tryz.ntmps105 (Nat.le_of_ble_eq_true rfl) ?_;refine aC (aA (ta (.b false) (aB (aC (aA (tm (.i a) ?_))))));obtain ⟨r1, h2, h⟩ := bns h;refine to (scr Tryz.call121 (aDl _ h2)) (tm (.b r1) ?_);obtain ⟨b3, h4, h⟩ := bns h;refine bD 4 [0, 1] 11 b3 ?_ ?_
 ·refine bch h4 (fun c8 h4 => ?_) (fun c8 h4 => ?_)
  ·refine tk c8 (sm (.i c)) ?_;obtain ⟨r9, d, h4⟩ := bns h4;refine tk c8 (scr Tryz.call121 (aDl _ d)) (tk c8 (sn rfl) (to (spt (.b (!r9)) c8) ?_));obtain rfl := sIn h4;refine aB (aO rfl ⟨rfl, rfl, trivial⟩ rfl)
  ·refine tp c8 (tp c8 (tp c8 (to (spf (.b false) c8) ?_)));obtain rfl := sIn h4;refine aB (aO rfl ⟨rfl, rfl, trivial⟩ rfl)
 ·refine tm (.b b3) ?_;obtain ⟨b5, h6, h⟩ := bns h;refine bD 4 [] 16 b5 ?_ ?_
  ·refine bch h6 (fun c7 h6 => ?_) (fun c7 h6 => ?_)
   ·refine tp c7 (tp c7 (tp c7 (to (spt (.b true) c7) ?_)));obtain rfl := sIn h6;refine aB (aO rfl trivial rfl)
   ·refine tk c7 (sm (.i a)) (tk c7 (sm (.i c)) (tk c7 (scm rfl rfl rfl) (to (spf (.b (decide (a < c))) c7) ?_)));obtain rfl := sIn h6;refine aB (aO rfl trivial rfl)
  ·refine ta (.b b5) (aB ?_);obtain rfl := sIn h;exact aY ⟨rfl, _, .one _, rfl, rfl⟩

theorem aFg (c : List Int) {r : Bool} (h : nP c = some r) : Fn Tryz.prog 76 [.d (.sl 1 (c.map aK))] (.b r) := by
 unfold nP at h;refine Fn.of_tr Tryz.func76 rfl (rs := [.tmp 2]) Tryz.results76 Tryz.ntmps76 (Nat.le_of_ble_eq_true rfl) ?_;refine aC (aA (ta (.b false) (aB (aC (aC (aA (tm (.d (.sl 1 (c.map aK))) (to (sle rfl bL.of) (to (sar rfl rfl rfl) (ta (.i (w64 ((c.length : Int) - 1))) (aB (bA ?_))))))))))));refine bR (S := Int) [0] (fun s1 => [(3, .i s1)]) (fun s1 => []) (fun k s1 => iM c k s1) (fun _ => rfl) (w64 ((c.length : Int) - 1)) h (aP [] rfl rfl (aI rfl (aN ⟨rfl, trivial⟩))) ?_;rintro k2 a h;simp only [iM] at h;refine aC (aC (aA (tm (.i a) (to (scm rfl rfl rfl) (aB ?_)))));refine tih h (fun c3 h => ?_) (fun c3 h => ?_)
 ·refine aV (aC (bA (aC ?_)));obtain ⟨x4, h5, h⟩ := bns h;obtain ⟨x6, h7, h⟩ := bns h;refine cT mix 9 [0, 3] [(14, .i x4), (19, .i x6)] ?_ ?_
  ·refine ⟨[(11, 0, .d (.sl 1 (c.map aK))), (12, 1, .i a), (13, 2, .cp [.lit (.int .i64 x4)]), (14, 3, .i x4), (15, 4, .d (.sl 1 (c.map aK))), (16, 5, .i a), (17, 6, .i (w64 (a - 1))), (18, 7, .cp [.lit (.int .i64 x6)]), (19, 8, .i x6)], ?_, ?_⟩
   · exact dok [([], []), ([], []), ([0, 1], []), ([2], []), ([], []), ([], []), ([5], []), ([4, 6], []), ([7], [])] ⟨go (zm (.d (.sl 1 (c.map aK)))),
      go (zm (.i a)),
      go (zix rfl rfl bL.of (aX aK h5)),
      go (zlc rfl aU),
      go (zm (.d (.sl 1 (c.map aK)))),
      go (zm (.i a)),
      go (zar rfl rfl rfl),
      go (zix rfl rfl bL.of (aX aK h7)),
      go (zlc rfl aU), trivial⟩
   · exact cI (aI rfl (aI rfl (aN ⟨rfl, rfl, trivial⟩)))
  ·obtain ⟨r8, h9, h⟩ := bns h;refine to (scr Tryz.call105 (aNq _ _ h9)) (aB ?_);refine tih h (fun e h => ?_) (fun e h => ?_)
   ·refine aC (aA (ta (.b false) (aB ?_)));obtain rfl := sIn h;exact aY ⟨rfl, _, .one _, rfl, rfl⟩
   ·refine cU ?_;refine aA (tm (.i a) (to (sar rfl rfl rfl) (ta (.i (w64 (a - 1))) (aB ?_))));exact ⟨(w64 (a - 1)), h, aP [] rfl rfl (aI rfl (aN ⟨rfl, trivial⟩))⟩
 ·refine bX ?_;refine .inl ⟨rfl, ?_⟩;simp only [wT] at h;refine aC (aA (ta (.b true) (aB ?_)));obtain rfl := sIn h;exact aY ⟨rfl, _, .one _, rfl, rfl⟩

theorem iE (d : Int) (c : Int) (a : Int) {r : Bool} (h : gY d c a = some r) : Fn Tryz.prog 61 [.i d, .i c, .i a] (.b r) := by
 unfold gY at h;refine Fn.of_tr Tryz.func61 rfl (rs := [.tmp 6]) Tryz.results61 Tryz.ntmps61 (Nat.le_of_ble_eq_true rfl) ?_;refine aC (aA (ta (.b false) (aB (aC (aA (tm (.i c) (tm (.i d) (to (scm rfl rfl rfl) (tm (.b (decide (c ≤ d))) ?_)))))))));obtain ⟨b1, h2, h⟩ := bns h;refine bD 4 [] 14 b1 ?_ ?_
 ·refine bch h2 (fun c3 h2 => ?_) (fun c3 h2 => ?_)
  ·refine tk c3 (sm (.i d)) (tk c3 (sm (.i a)) (tk c3 (scm rfl rfl rfl) (to (spt (.b (decide (d ≤ a))) c3) ?_)));obtain rfl := sIn h2;refine aB (aO rfl trivial rfl)
  ·refine tp c3 (tp c3 (tp c3 (to (spf (.b false) c3) ?_)));obtain rfl := sIn h2;refine aB (aO rfl trivial rfl)
 ·refine ta (.b b1) (aB ?_);obtain rfl := sIn h;exact aY ⟨rfl, _, .one _, rfl, rfl⟩

theorem aNe (f : aM) {r : Bool} (h : uJ f = some r) : Fn Tryz.prog 46 [.agg (aL f)] (.b r) := by
 unfold uJ at h;refine Fn.of_tr Tryz.func46 rfl (rs := [.tmp 2]) Tryz.results46 Tryz.ntmps46 (Nat.le_of_ble_eq_true rfl) ?_;refine aC (aA ?_);refine bB rfl (eP (v := .agg (aL f)) (aE rfl) rfl rfl rfl) ?_;rintro _ ⟨b1, rfl⟩;refine ta (.b false) (aB (aC (aC (aA (tfl 0 rfl rfl iC rfl cQ (to (sle rfl bL.of) (to (sf rfl jJ) (tfl 0 rfl rfl jI rfl aU (to (sar rfl rfl rfl) (to (scm rfl rfl rfl) (tm (.b (!decide ((f.Prizes.length : Int) = (w64 (f.Tree.Rounds + 1))))) ?_)))))))))));obtain ⟨b2, h3, h⟩ := bns h;refine bD 5 [1] 16 b2 ?_ ?_
 ·refine bch h3 (fun c h3 => ?_) (fun c h3 => ?_)
  ·refine tp c (tp c (tp c (tp c (to (spt (.b true) c) ?_))));obtain rfl := sIn h3;refine aB (aO rfl ⟨rfl, trivial⟩ rfl)
  ·refine tkl 0 c rfl rfl iC rfl cQ ?_;obtain ⟨g, i, h3⟩ := bns h3;refine tk c (scr Tryz.call76 (aFg _ i)) (tk c (sn rfl) (to (spf (.b (!g)) c) ?_));obtain rfl := sIn h3;refine aB (aO rfl ⟨rfl, trivial⟩ rfl)
 ·refine tm (.b b2) ?_;obtain ⟨b4, h5, h⟩ := bns h;refine bD 5 [1] 22 b4 ?_ ?_
  ·refine bch h5 (fun d h5 => ?_) (fun d h5 => ?_)
   ·refine tp d (tp d (tp d (tp d (to (spt (.b true) d) ?_))));obtain rfl := sIn h5;refine aB (aO rfl ⟨rfl, trivial⟩ rfl)
   ·refine tkl 0 d rfl rfl aLf rfl aU ?_;obtain ⟨j, k, h5⟩ := bns h5;refine tk d (scr Tryz.call61 (iE _ _ _ k)) (tk d (sn rfl) (to (spf (.b (!j)) d) ?_));obtain rfl := sIn h5;refine aB (aO rfl ⟨rfl, trivial⟩ rfl)
  ·refine aB ?_;refine tih h (fun c6 h => ?_) (fun c6 h => ?_)
   ·refine aC (aA (ta (.b false) (aB ?_)));obtain rfl := sIn h;refine bO (bK (bN (l := [2]) ⟨rfl, trivial⟩)) ?_;exact aY ⟨rfl, _, .one _, rfl, rfl⟩
   ·refine aV (aC (aA (tfl 0 rfl rfl iC rfl cQ ?_)));obtain ⟨x7, h8, h⟩ := bns h;refine to (six rfl rfl bL.of (aX aK h8)) (to (slc rfl aU) (to (scm rfl rfl rfl) (tm (.b (decide (0 ≤ x7))) ?_)));obtain ⟨b9, e, h⟩ := bns h;refine bD 10 [] 38 b9 ?_ ?_
    ·refine bch e (fun a e => ?_) (fun a e => ?_)
     ·refine tkl 0 a rfl rfl iC rfl cQ (tkl 0 a rfl rfl iC rfl cQ (tk a (sle rfl bL.of) (tk a (sar rfl rfl rfl) ?_)));obtain ⟨m, n, e⟩ := bns e;refine tk a (six rfl rfl bL.of (aX aK n)) (tk a (slc rfl aU) (tk a (scm rfl rfl rfl) (to (spt (.b (decide (m ≤ 10000000))) a) ?_)));obtain rfl := sIn e;refine aB (aO rfl trivial rfl)
     ·refine tp a (tp a (tp a (tp a (tp a (tp a (tp a (tp a (tp a (to (spf (.b false) a) ?_)))))))));obtain rfl := sIn e;refine aB (aO rfl trivial rfl)
    ·refine ta (.b b9) (aB ?_);obtain rfl := sIn h;refine bO (bK (bN (l := [2]) ⟨rfl, trivial⟩)) ?_;exact aY ⟨rfl, _, .one _, rfl, rfl⟩

theorem aBc (x : List Int) {r : List Int} {x_v : Value} {e : TypeId} (h : slices_Sort_int x = some r) : fK Tryz.prog 77 [.d (.lit x_v)] [.arr x_v e 1 (x.map aK)] (fun r' o' => r' = .tup [] ∧ o' = [.arr x_v e 1 (r.map aK)]) := by
 unfold slices_Sort_int at h;split at h
 ·cases h;exact aVg (fun blk off cap zs w => Tryz.slices_Sort_int blk off cap zs w) (fun q cap w => Tryz.slices_Sort_int_none q cap w) (by assumption)
 ·cases h

theorem yQ (c : aM) {r : (List Int)} (h : pJ c = some r) : Fn Tryz.prog 55 [.agg (aL c)] (.d (.sl 1 (r.map aK))) := by
 unfold pJ at h;refine Fn.of_tr Tryz.func55 rfl (rs := [.tmp 2]) Tryz.results55 Tryz.ntmps55 (Nat.le_of_ble_eq_true rfl) ?_;refine aC (aA ?_);refine bB rfl (eP (v := .agg (aL c)) (aE rfl) rfl rfl rfl) ?_;rintro _ ⟨b1, rfl⟩;refine to (aAc 1 (aE rfl)) ?_;refine aB (aC (aA (to (eY 3 1 (.inl rfl) (aE rfl)) ?_)));refine aB (aC (aC (aA (tfl 0 rfl rfl fL rfl kJ (to (sle rfl jQ.of) (tm (.i 0) (aB (bA ?_))))))));refine bR (S := Int × (List Int) × Value) [7, 8] (fun s3 => [(3, .d (.lit s3.2.2)), (9, .i s3.1)]) (fun s3 => [.arr s3.2.2 3 1 (s3.2.1.map aK)]) (fun k s3 => kK c.Teams (c.Teams.length : Int) k s3.1 s3.2.1) (fun _ => rfl) (0, ([] : List Int), (.slice none 0 0)) h (aP [1] rfl rfl (aI rfl (aI rfl (aN ⟨rfl, rfl, trivial⟩)))) ?_;rintro k5 ⟨a, b, w4⟩ h;simp only [kK] at h;refine aC (aA (to (scm rfl rfl rfl) (aB (aC ?_))));refine tih h (fun c6 h => ?_) (fun c6 h => ?_)
 ·refine aV (aC (bA (aC (aA ?_))));obtain ⟨x7, h8, h⟩ := bns h;refine to (six rfl rfl jQ.of (aX aW h8)) (to (rO (aW x7) rfl wN) ?_);refine bB rfl (cR (zs := [.lit (.int .i64 0), .lit (.int .i64 0), .lit (.int .i64 0)]) (aE rfl) Tryz.zeroValue46 rfl rfl) ?_;rintro _ ⟨b9, rfl⟩;refine to (sst 1 rfl rfl Tryz.sizeOf46 (aW x7)) (aB (aC (aA (tm (.d (.lit w4)) (tfl 1 rfl rfl rD rfl aU (to (eK (aE rfl) bL rfl rfl (rows := ([x7.One]).map aK) rfl (bZ (f := aK) fun _ => rfl) rfl (by decide)) ?_))))));obtain ⟨j, l, h⟩ := bns h;refine bB rfl (dN (i := 0) (aE rfl) bL rfl rfl rfl (fun _ => rfl) l rfl) ?_;rintro _ ⟨e, rfl⟩;refine ta (.d (.lit e)) (aB (aC (aA (tfl 1 rfl rfl lS rfl aU (to (scm rfl rfl rfl) (aB ?_))))));refine tih h (fun m h => ?_) (fun m h => ?_)
  ·refine aA (tm (.d (.lit e)) (tfl 1 rfl rfl lS rfl aU (to (eK (aE rfl) bL rfl rfl (rows := ([x7.Two]).map aK) rfl (bZ (f := aK) fun _ => rfl) rfl (by decide)) ?_)));obtain ⟨n, o, h⟩ := bns h;refine bB rfl (dN (i := 0) (aE rfl) bL rfl rfl rfl (fun _ => rfl) o rfl) ?_;rintro _ ⟨g, rfl⟩;refine ta (.d (.lit g)) ?_;refine cS ?_;refine aA (to (sar rfl rfl rfl) (tm (.i (w64 (a + 1))) (aB ?_)));exact ⟨(w64 (a + 1), n, g), h, aP [0] rfl rfl (aI rfl (aI rfl (aN ⟨rfl, rfl, trivial⟩)))⟩
  ·refine cU ?_;refine aA (to (sar rfl rfl rfl) (tm (.i (w64 (a + 1))) (aB ?_)));exact ⟨(w64 (a + 1), j, e), h, aP [0] rfl rfl (aI rfl (aI rfl (aN ⟨rfl, rfl, trivial⟩)))⟩
 ·refine bX ?_;refine .inl ⟨rfl, ?_⟩;simp only [tW] at h;refine aC (aA (tm (.d (.lit w4)) ?_));obtain ⟨p, q, h⟩ := bns h;refine bB rfl (fG (passed := [.arr w4 3 1 (b.map aK)]) (aE rfl) rfl (.func _ _ Tryz.call77) rfl rfl (aBc b q)) ?_;rintro _ ⟨_, _, ⟨rfl, rfl⟩, rfl⟩;refine aB (aC (aA (tm (.d (.lit w4)) (ta (.d (.lit w4)) (aB ?_)))));obtain rfl := sIn h;refine bO (bK (mX (k := 2) (v := .d (.sl 1 (p.map aK))) (.d (eW 0 rfl (bZ (f := aK) fun _ => rfl))) (zC))) ?_;exact aY ⟨rfl, _, .one _, rfl, rfl⟩

end Go.Am
