/- The functions compute what the shallow ones say: printed by program. -/
import Derived.Test.YtoflekecpkjghaaPuSh
import Derived.Test.YtoflekecpkjghaaAmFam2
import Derived.Test.YtoflekecpkjghaaAmRange
import Derived.Test.YtoflekecpkjghaaAmSort
import Derived.Test.YtoflekecpkjghaaPuShelf
import Derived.Test.YtoflekecpkjghaaAmSub
import Derived.Test.YtoflekecpkjghaaPuDet
import Derived.Test.YtoflekecpkjghaaChecked
import Derived.Test.YtoflekecpkjghaaAmShort
import Derived.KernelRfl
namespace Go.Am
open Go.Proofs
set_option maxRecDepth 100000
set_option maxHeartbeats 40000000

theorem mix : Try.prog.follows .mixedOrders = true := Checked.mixed Try.checked

theorem fC : mR Try.prog 31 9 := ⟨Try.isAgg31, Try.sizeOf31⟩
theorem uI : mR Try.prog 39 9 := ⟨Try.isAgg39, Try.sizeOf39⟩
theorem aMt : SliceTy Try.prog 34 39 9 72 (.agg #[.int .i64 0, .int .i64 0, .int .i64 0, .int .i64 0, .int .i64 0, .int .i64 0, .int .i64 0, .int .i64 0, .int .i64 0]) := ⟨Try.underlying34, ⟨Try.t39, by kernel_rfl, rfl, rfl, rfl⟩, rfl, by decide⟩
theorem aGo : mH Try.prog 39 (.agg #[.int .i64 0, .int .i64 0, .int .i64 0, .int .i64 0, .int .i64 0, .int .i64 0, .int .i64 0, .int .i64 0, .int .i64 0]) [(0, 1), (1, 1), (2, 1), (3, 1), (4, 1), (5, 1), (6, 1), (7, 1), (8, 1)] := ⟨Try.zeroValue39, _, Try.runUnderlying39, fun w => by simp [Try.sizeOf3]⟩
theorem vG : cK Try.prog 39 5 5 := cD Try.runUnderlying39 rfl rfl Try.sizeOf3
theorem aP : lF Try.prog 3 := ⟨Try.isAgg3, Try.sizeOf3⟩
theorem lL : cK Try.prog 39 7 7 := cD Try.runUnderlying39 rfl rfl Try.sizeOf3
theorem tH : cK Try.prog 39 8 8 := cD Try.runUnderlying39 rfl rfl Try.sizeOf3
theorem vE : cK Try.prog 39 1 1 := cD Try.runUnderlying39 rfl rfl Try.sizeOf3
theorem vF : cK Try.prog 39 2 2 := cD Try.runUnderlying39 rfl rfl Try.sizeOf3
theorem tF : cK Try.prog 39 3 3 := cD Try.runUnderlying39 rfl rfl Try.sizeOf3
theorem tG : cK Try.prog 39 4 4 := cD Try.runUnderlying39 rfl rfl Try.sizeOf3
theorem qI : cK Try.prog 39 6 6 := cD Try.runUnderlying39 rfl rfl Try.sizeOf3
theorem aXn : aHy Try.prog 39 bF := by
  rintro ⟨a0, a1, a2, a3, a4, a5, a6, a7, a8⟩ ⟨b0, b1, b2, b3, b4, b5, b6, b7, b8⟩ w
  simp [bF, bQ, go_sem, Op.eqFields, Program.fieldsOf] <;> (repeat' split) <;> simp_all
theorem kK : cK Try.prog 31 0 0 := cD Try.runUnderlying31 rfl rfl Try.sizeOf24
theorem eC : cK Try.prog 24 1 1 := cD Try.runUnderlying24 rfl rfl Try.sizeOf22
theorem cJ : lF Try.prog 22 := ⟨Try.isAgg22, Try.sizeOf22⟩
theorem bH : SliceTy Try.prog 22 3 1 8 (.int .i64 0) := ⟨Try.underlying22, ⟨Try.t3, by kernel_rfl, rfl, rfl, rfl⟩, rfl, by decide⟩
theorem rS : cK Try.prog 31 1 2 := cD Try.runUnderlying31 rfl rfl Try.sizeOf25
theorem wJ : lF Try.prog 25 := ⟨Try.isAgg25, Try.sizeOf25⟩
theorem iA : SliceTy Try.prog 25 46 5 40 (.agg #[.int .i64 0, .int .i64 0, .int .i64 0, .int .i64 0, .int .i64 0]) := ⟨Try.underlying25, ⟨Try.t46, by kernel_rfl, rfl, rfl, rfl⟩, rfl, by decide⟩
theorem iX : cK Try.prog 31 2 3 := cD Try.runUnderlying31 rfl rfl Try.sizeOf22
theorem jH : cK Try.prog 31 4 5 := cD Try.runUnderlying31 rfl rfl Try.sizeOf26
theorem nI : lF Try.prog 26 := ⟨Try.isAgg26, Try.sizeOf26⟩
theorem mW : SliceTy Try.prog 26 63 3 24 (.agg #[.int .i64 0, .int .i64 0, .int .i64 0]) := ⟨Try.underlying26, ⟨Try.t63, by kernel_rfl, rfl, rfl, rfl⟩, rfl, by decide⟩
theorem rT : cK Try.prog 31 5 6 := cD Try.runUnderlying31 rfl rfl Try.sizeOf27
theorem wK : lF Try.prog 27 := ⟨Try.isAgg27, Try.sizeOf27⟩
theorem uY : SliceTy Try.prog 27 77 2 16 (.agg #[.int .i64 0, .int .i64 0]) := ⟨Try.underlying27, ⟨Try.t77, by kernel_rfl, rfl, rfl, rfl⟩, rfl, by decide⟩
theorem qH : cK Try.prog 31 6 7 := cD Try.runUnderlying31 rfl rfl Try.sizeOf28
theorem uN : lF Try.prog 28 := ⟨Try.isAgg28, Try.sizeOf28⟩
theorem uD : SliceTy Try.prog 28 55 3 24 (.agg #[.int .i64 0, .int .i64 0, .int .i64 0]) := ⟨Try.underlying28, ⟨Try.t55, by kernel_rfl, rfl, rfl, rfl⟩, rfl, by decide⟩
theorem oX : cK Try.prog 31 7 8 := cD Try.runUnderlying31 rfl rfl Try.sizeOf29
theorem tM : lF Try.prog 29 := ⟨Try.isAgg29, Try.sizeOf29⟩
theorem dB : SliceTy Try.prog 29 79 4 32 (.agg #[.int .i64 0, .int .i64 0, .int .i64 0, .int .i64 0]) := ⟨Try.underlying29, ⟨Try.t79, by kernel_rfl, rfl, rfl, rfl⟩, rfl, by decide⟩
theorem mA : mR Try.prog 24 2 := ⟨Try.isAgg24, Try.sizeOf24⟩
theorem iP : cK Try.prog 24 0 0 := cD Try.runUnderlying24 rfl rfl Try.sizeOf3
theorem aIi : cK Try.prog 31 3 4 := cD Try.runUnderlying31 rfl rfl Try.sizeOf3
theorem lI : mR Try.prog 46 5 := ⟨Try.isAgg46, Try.sizeOf46⟩
theorem nR : cK Try.prog 46 3 3 := cD Try.runUnderlying46 rfl rfl Try.sizeOf3
theorem nQ : cK Try.prog 46 0 0 := cD Try.runUnderlying46 rfl rfl Try.sizeOf3
theorem oY : cK Try.prog 46 1 1 := cD Try.runUnderlying46 rfl rfl Try.sizeOf3
theorem kL : cK Try.prog 46 2 2 := cD Try.runUnderlying46 rfl rfl Try.sizeOf3
theorem xE : cK Try.prog 46 4 4 := cD Try.runUnderlying46 rfl rfl Try.sizeOf3
theorem aGq : mH Try.prog 87 (.agg #[.slice none 0 0, .slice none 0 0]) [(0, 1), (1, 1)] := ⟨Try.zeroValue87, _, Try.runUnderlying87, fun w => by simp [Try.sizeOf22, Try.sizeOf85]⟩
theorem xH : cK Try.prog 87 1 1 := cD Try.runUnderlying87 rfl rfl Try.sizeOf85
theorem aFv : lF Try.prog 85 := ⟨Try.isAgg85, Try.sizeOf85⟩
theorem aGz : SliceTy Try.prog 85 22 1 24 (.slice none 0 0) := ⟨Try.underlying85, ⟨Try.t22, by kernel_rfl, rfl, rfl, rfl⟩, rfl, by decide⟩
theorem aBq : mR Try.prog 87 2 := ⟨Try.isAgg87, Try.sizeOf87⟩
theorem aNk : aHy Try.prog 46 aJ := by
  rintro ⟨a0, a1, a2, a3, a4⟩ ⟨b0, b1, b2, b3, b4⟩ w
  simp [aJ, bQ, go_sem, Op.eqFields, Program.fieldsOf] <;> (repeat' split) <;> simp_all
theorem wA : mR Try.prog 63 3 := ⟨Try.isAgg63, Try.sizeOf63⟩
theorem vI : cK Try.prog 63 0 0 := cD Try.runUnderlying63 rfl rfl Try.sizeOf3
theorem oZ : cK Try.prog 63 1 1 := cD Try.runUnderlying63 rfl rfl Try.sizeOf3
theorem kM : cK Try.prog 63 2 2 := cD Try.runUnderlying63 rfl rfl Try.sizeOf3
theorem xF : cK Try.prog 77 0 0 := cD Try.runUnderlying77 rfl rfl Try.sizeOf3
theorem aIj : cK Try.prog 77 1 1 := cD Try.runUnderlying77 rfl rfl Try.sizeOf3
theorem aIx : mR Try.prog 55 3 := ⟨Try.isAgg55, Try.sizeOf55⟩
theorem vH : cK Try.prog 55 0 0 := cD Try.runUnderlying55 rfl rfl Try.sizeOf3
theorem zX : cK Try.prog 55 1 1 := cD Try.runUnderlying55 rfl rfl Try.sizeOf3
theorem aCv : cK Try.prog 55 2 2 := cD Try.runUnderlying55 rfl rfl Try.sizeOf3
theorem aGp : mH Try.prog 63 (.agg #[.int .i64 0, .int .i64 0, .int .i64 0]) [(0, 1), (1, 1), (2, 1)] := ⟨Try.zeroValue63, _, Try.runUnderlying63, fun w => by simp [Try.sizeOf3]⟩
theorem gJ : mR Try.prog 79 4 := ⟨Try.isAgg79, Try.sizeOf79⟩
theorem mM : cK Try.prog 79 0 0 := cD Try.runUnderlying79 rfl rfl Try.sizeOf3
theorem aCx : cK Try.prog 79 2 2 := cD Try.runUnderlying79 rfl rfl Try.sizeOf3
theorem tI : cK Try.prog 79 1 1 := cD Try.runUnderlying79 rfl rfl Try.sizeOf3
theorem xG : cK Try.prog 79 3 3 := cD Try.runUnderlying79 rfl rfl Try.sizeOf3
theorem aJh : aHy Try.prog 79 aE := by
  rintro ⟨a0, a1, a2, a3⟩ ⟨b0, b1, b2, b3⟩ w
  simp [aE, bQ, go_sem, Op.eqFields, Program.fieldsOf] <;> (repeat' split) <;> simp_all
theorem aYf : mH Try.prog 24 (.agg #[.int .i64 0, .slice none 0 0]) [(0, 1), (1, 1)] := ⟨Try.zeroValue24, _, Try.runUnderlying24, fun w => by simp [Try.sizeOf22, Try.sizeOf3]⟩
theorem aTv : mH Try.prog 46 (.agg #[.int .i64 0, .int .i64 0, .int .i64 0, .int .i64 0, .int .i64 0]) [(0, 1), (1, 1), (2, 1), (3, 1), (4, 1)] := ⟨Try.zeroValue46, _, Try.runUnderlying46, fun w => by simp [Try.sizeOf3]⟩
theorem aYi : mH Try.prog 77 (.agg #[.int .i64 0, .int .i64 0]) [(0, 1), (1, 1)] := ⟨Try.zeroValue77, _, Try.runUnderlying77, fun w => by simp [Try.sizeOf3]⟩
theorem aTw : mH Try.prog 55 (.agg #[.int .i64 0, .int .i64 0, .int .i64 0]) [(0, 1), (1, 1), (2, 1)] := ⟨Try.zeroValue55, _, Try.runUnderlying55, fun w => by simp [Try.sizeOf3]⟩
theorem aOq : mH Try.prog 79 (.agg #[.int .i64 0, .int .i64 0, .int .i64 0, .int .i64 0]) [(0, 1), (1, 1), (2, 1), (3, 1)] := ⟨Try.zeroValue79, _, Try.runUnderlying79, fun w => by simp [Try.sizeOf3]⟩
theorem aYg : mH Try.prog 31 (.agg #[.int .i64 0, .slice none 0 0, .slice none 0 0, .slice none 0 0, .int .i64 0, .slice none 0 0, .slice none 0 0, .slice none 0 0, .slice none 0 0]) [(0, 2), (2, 1), (3, 1), (4, 1), (5, 1), (6, 1), (7, 1), (8, 1)] := ⟨Try.zeroValue31, _, Try.runUnderlying31, fun w => by simp [Try.sizeOf22, Try.sizeOf24, Try.sizeOf25, Try.sizeOf26, Try.sizeOf27, Try.sizeOf28, Try.sizeOf29, Try.sizeOf3]⟩
theorem aRf : tX Try.prog 3 (fun n : Int => Value.int .i64 n) := aSt Try.underlying3
theorem aLb : mH Try.prog 120 (.agg #[.int .i64 0, .int .i64 0]) [(0, 1), (1, 1)] := ⟨Try.zeroValue120, _, Try.runUnderlying120, fun w => by simp [Try.sizeOf3]⟩
theorem vS : mR Try.prog 120 2 := ⟨Try.isAgg120, Try.sizeOf120⟩
theorem tE : cK Try.prog 120 0 0 := cD Try.runUnderlying120 rfl rfl Try.sizeOf3
theorem aSq : cK Try.prog 120 1 1 := cD Try.runUnderlying120 rfl rfl Try.sizeOf3
theorem aYh : mH Try.prog 75 (.agg #[.int .i64 0, .slice none 0 0, .slice none 0 0, .map none]) [(0, 2), (2, 1), (3, 1)] := ⟨Try.zeroValue75, _, Try.runUnderlying75, fun w => by simp [Try.sizeOf22, Try.sizeOf24, Try.sizeOf73]⟩
theorem aXg (b : Bool) (a : aF) (w : World) : (Instr.checkKey b 10000 46 (.agg ((aJ a).map bQ).toArray)).run Try.prog w = .ok () w := by
  obtain ⟨a1, a2, a3, a4, a5⟩ := a;rw [show (10000 : Nat) = 9990 + 10 from rfl]
  generalize (9990 : Nat) = m
  simp [Instr.checkKey, aJ, bQ, go_sem, Std.Legacy.Range.forIn_eq_forIn_range', Std.Legacy.Range.size]
theorem aNs : tX Try.prog 46 (fun a : aF => Value.agg ((aJ a).map bQ).toArray) :=
  aFh Try.underlying46 aNk aXg (fun a w => aNq _ rfl _ _) (by
    rintro ⟨a1, a2, a3, a4, a5⟩ ⟨b1, b2, b3, b4, b5⟩ h
    simp [aJ] at h ⊢
    simp_all) (fun _ => rfl)
theorem aKv : aHy Try.prog 120 aO := by
  rintro ⟨a0, a1⟩ ⟨b0, b1⟩ w
  simp [aO, bQ, go_sem, Op.eqFields, Program.fieldsOf] <;> (repeat' split) <;> simp_all
theorem aWf (b : Bool) (a : aG) (w : World) : (Instr.checkKey b 10000 120 (.agg ((aO a).map bQ).toArray)).run Try.prog w = .ok () w := by
  obtain ⟨a1, a2⟩ := a;rw [show (10000 : Nat) = 9990 + 10 from rfl]
  generalize (9990 : Nat) = m
  simp [Instr.checkKey, aO, bQ, go_sem, Std.Legacy.Range.forIn_eq_forIn_range', Std.Legacy.Range.size]
theorem zJ : tX Try.prog 120 (fun a : aG => Value.agg ((aO a).map bQ).toArray) :=
  aFh Try.underlying120 aKv aWf (fun a w => aNq _ rfl _ _) (by
    rintro ⟨a1, a2⟩ ⟨b1, b2⟩ h
    simp [aO] at h ⊢
    simp_all) (fun _ => rfl)
theorem qJ : cK Try.prog 75 1 2 := cD Try.runUnderlying75 rfl rfl Try.sizeOf22
theorem zY : cK Try.prog 75 0 0 := cD Try.runUnderlying75 rfl rfl Try.sizeOf24
theorem aCw : cK Try.prog 75 2 3 := cD Try.runUnderlying75 rfl rfl Try.sizeOf73
theorem aJy : lF Try.prog 73 := ⟨Try.isAgg73, Try.sizeOf73⟩
theorem aNa : mR Try.prog 77 2 := ⟨Try.isAgg77, Try.sizeOf77⟩
theorem yE : mH Try.prog 49 (.agg #[.int .i64 0, .int .i64 0]) [(0, 1), (1, 1)] := ⟨Try.zeroValue49, _, Try.runUnderlying49, fun w => by simp [Try.sizeOf3]⟩
theorem uJ : mR Try.prog 49 2 := ⟨Try.isAgg49, Try.sizeOf49⟩
theorem aNn : cK Try.prog 49 0 0 := cD Try.runUnderlying49 rfl rfl Try.sizeOf3
theorem aUn : cK Try.prog 49 1 1 := cD Try.runUnderlying49 rfl rfl Try.sizeOf3

theorem aIg (a : aQ) {r : Bool} (h : mJ a = some r) : Fn Try.prog 19 [.agg (aS a)] (.b r) := by
 unfold mJ at h;refine Fn.of_tr Try.func19 rfl (rs := [.tmp 2]) Try.results19 Try.ntmps19 (Nat.le_of_ble_eq_true rfl) ?_;refine aC (aA ?_);refine bC rfl (eL (v := .agg (aS a)) (aD rfl) rfl rfl rfl) ?_;rintro _ ⟨b1, rfl⟩;refine ta (.b false) (aB (aC (aA (to (sf rfl kK) (tfl 0 rfl rfl eC rfl cJ (to (sle rfl bH.of) (to (scm rfl rfl rfl) (tm (.b (decide (8 < (a.Tree.Slots.length : Int)))) ?_))))))));obtain ⟨b2, h3, h⟩ := bns h;refine aZ 5 [1] 13 b2 ?_ ?_
 ·refine bch h3 (fun c h3 => ?_) (fun c h3 => ?_)
  ·refine tp c (tp c (tp c (tp c (to (spt (.b true) c) ?_))));obtain rfl := sIn h3;refine aB (aL rfl ⟨rfl, trivial⟩ rfl)
  ·refine tkl 0 c rfl rfl rS rfl wJ (tk c (sle rfl iA.of) (tk c (scm rfl rfl rfl) (to (spf (.b (decide (20 < (a.Slips.length : Int)))) c) ?_)));obtain rfl := sIn h3;refine aB (aL rfl ⟨rfl, trivial⟩ rfl)
 ·refine tm (.b b2) ?_;obtain ⟨b4, h5, h⟩ := bns h;refine aZ 5 [1] 19 b4 ?_ ?_
  ·refine bch h5 (fun d h5 => ?_) (fun d h5 => ?_)
   ·refine tp d (tp d (tp d (tp d (to (spt (.b true) d) ?_))));obtain rfl := sIn h5;refine aB (aL rfl ⟨rfl, trivial⟩ rfl)
   ·refine tkl 0 d rfl rfl iX rfl cJ (tk d (sle rfl bH.of) (tk d (scm rfl rfl rfl) (to (spf (.b (decide (20 < (a.Prizes.length : Int)))) d) ?_)));obtain rfl := sIn h5;refine aB (aL rfl ⟨rfl, trivial⟩ rfl)
  ·refine tm (.b b4) ?_;obtain ⟨b6, h7, h⟩ := bns h;refine aZ 5 [1] 25 b6 ?_ ?_
   ·refine bch h7 (fun e h7 => ?_) (fun e h7 => ?_)
    ·refine tp e (tp e (tp e (tp e (to (spt (.b true) e) ?_))));obtain rfl := sIn h7;refine aB (aL rfl ⟨rfl, trivial⟩ rfl)
    ·refine tkl 0 e rfl rfl jH rfl nI (tk e (sle rfl mW.of) (tk e (scm rfl rfl rfl) (to (spf (.b (decide (40 < (a.Teams.length : Int)))) e) ?_)));obtain rfl := sIn h7;refine aB (aL rfl ⟨rfl, trivial⟩ rfl)
   ·refine tm (.b b6) ?_;obtain ⟨b8, h9, h⟩ := bns h;refine aZ 5 [1] 31 b8 ?_ ?_
    ·refine bch h9 (fun f h9 => ?_) (fun f h9 => ?_)
     ·refine tp f (tp f (tp f (tp f (to (spt (.b true) f) ?_))));obtain rfl := sIn h9;refine aB (aL rfl ⟨rfl, trivial⟩ rfl)
     ·refine tkl 0 f rfl rfl rT rfl wK (tk f (sle rfl uY.of) (tk f (scm rfl rfl rfl) (to (spf (.b (decide (40 < (a.Levies.length : Int)))) f) ?_)));obtain rfl := sIn h9;refine aB (aL rfl ⟨rfl, trivial⟩ rfl)
    ·refine tm (.b b8) ?_;obtain ⟨m, j, h⟩ := bns h;refine aZ 5 [1] 37 m ?_ ?_
     ·refine bch j (fun g j => ?_) (fun g j => ?_)
      ·refine tp g (tp g (tp g (tp g (to (spt (.b true) g) ?_))));obtain rfl := sIn j;refine aB (aL rfl ⟨rfl, trivial⟩ rfl)
      ·refine tkl 0 g rfl rfl qH rfl uN (tk g (sle rfl uD.of) (tk g (scm rfl rfl rfl) (to (spf (.b (decide (40 < (a.Rates.length : Int)))) g) ?_)));obtain rfl := sIn j;refine aB (aL rfl ⟨rfl, trivial⟩ rfl)
     ·refine tm (.b m) ?_;obtain ⟨n, k, h⟩ := bns h;refine aZ 5 [] 43 n ?_ ?_
      ·refine bch k (fun i k => ?_) (fun i k => ?_)
       ·refine tp i (tp i (tp i (tp i (to (spt (.b true) i) ?_))));obtain rfl := sIn k;refine aB (aL rfl trivial rfl)
       ·refine tkl 0 i rfl rfl oX rfl tM (tk i (sle rfl dB.of) (tk i (scm rfl rfl rfl) (to (spf (.b (decide (60 < (a.Items.length : Int)))) i) ?_)));obtain rfl := sIn k;refine aB (aL rfl trivial rfl)
      ·refine ta (.b n) (aB ?_);obtain rfl := sIn h;refine bM (bG (bI (l := [2]) ⟨rfl, trivial⟩)) ?_;exact aX ⟨rfl, _, .one _, rfl, rfl⟩

theorem hC (d : Int) (c : Int) (a : Int) {r : Bool} (h : eN d c a = some r) : Fn Try.prog 65 [.i d, .i c, .i a] (.b r) := by
 unfold eN at h;refine Fn.of_tr Try.func65 rfl (rs := [.tmp 6]) Try.results65 Try.ntmps65 (Nat.le_of_ble_eq_true rfl) ?_;refine aC (aA (ta (.b false) (aB (aC (aA (tm (.i d) (tm (.i c) (to (scm rfl rfl rfl) (tm (.b (decide (c ≤ d))) ?_)))))))));obtain ⟨b1, h2, h⟩ := bns h;refine aZ 4 [] 14 b1 ?_ ?_
 ·refine bch h2 (fun c3 h2 => ?_) (fun c3 h2 => ?_)
  ·refine tk c3 (sm (.i d)) (tk c3 (sm (.i a)) (tk c3 (scm rfl rfl rfl) (to (spt (.b (decide (d ≤ a))) c3) ?_)));obtain rfl := sIn h2;refine aB (aL rfl trivial rfl)
  ·refine tp c3 (tp c3 (tp c3 (to (spf (.b false) c3) ?_)));obtain rfl := sIn h2;refine aB (aL rfl trivial rfl)
 ·refine ta (.b b1) (aB ?_);obtain rfl := sIn h;exact aX ⟨rfl, _, .one _, rfl, rfl⟩

theorem aEj (j : aU) {r : Bool} (h : lQ j = some r) : Fn Try.prog 38 [.agg (bD j)] (.b r) := by
 unfold lQ at h;refine Fn.of_tr Try.func38 rfl (rs := [.tmp 2]) Try.results38 Try.ntmps38 (Nat.le_of_ble_eq_true rfl) ?_;refine aC (aA ?_);refine bC rfl (eL (v := .agg (bD j)) (aD rfl) rfl rfl rfl) ?_;rintro _ ⟨b1, rfl⟩;refine ta (.b false) (aB (aC (aC (aA (tfl 0 rfl rfl iP rfl aP ?_)))));obtain ⟨r2, h3, h⟩ := bns h;refine to (scr Try.call65 (hC _ _ _ h3)) (to (sn rfl) (tm (.b (!r2)) ?_));obtain ⟨b4, h5, h⟩ := bns h;refine aZ 9 [1] 18 b4 ?_ ?_
 ·refine bch h5 (fun e h5 => ?_) (fun e h5 => ?_)
  ·refine tp e (tp e (tp e (tp e (tp e (tp e (tp e (tp e (to (spt (.b true) e) ?_))))))));obtain rfl := sIn h5;refine aB (aL rfl ⟨rfl, trivial⟩ rfl)
  ·refine tkl 0 e rfl rfl eC rfl cJ (tk e (sle rfl bH.of) (tkl 0 e rfl rfl iP rfl aP (tk e (pR (aD rfl) rfl Try.runUnderlying3 Try.runUnderlying106) ?_)));obtain ⟨T, C, h5⟩ := bns h5;refine tk e (aMs (aD rfl) rfl rfl (aAs C)) ?_;refine tk e (scm rfl rfl rfl) (to (spf (.b (!decide ((j.Slots.length : Int) = (w64 (1 * 2 ^ (min (uw j.Rounds).toNat 64)))))) e) ?_);obtain rfl := sIn h5;refine aB (aL rfl ⟨rfl, trivial⟩ rfl)
 ·refine aB ?_;refine tih h (fun c6 h => ?_) (fun c6 h => ?_)
  ·refine aC (aA (ta (.b false) (aB ?_)));obtain rfl := sIn h;refine bM (bG (bI (l := [2]) ⟨rfl, trivial⟩)) ?_;exact aX ⟨rfl, _, .one _, rfl, rfl⟩
  ·refine aV (aC (aC (aA (ta (.i 0) (aB (bA ?_))))));refine bR (S := Int) [1] (fun s7 => [(3, .i s7)]) (fun s7 => [.box b1 0 (bD j)]) (fun k s7 => gO j k s7) (fun _ => rfl) (0) h (aN [0] rfl rfl (aI rfl (aM ⟨rfl, trivial⟩))) ?_;rintro k8 a h;simp only [gO] at h;refine aC (aC (aA (tm (.i a) (tfl 0 rfl rfl eC rfl cJ (to (sle rfl bH.of) (to (scm rfl rfl rfl) (aB ?_)))))));refine tih h (fun c9 h => ?_) (fun c9 h => ?_)
   ·refine aV (aC (bA (aC (aC (aA (tfl 0 rfl rfl eC rfl cJ (tm (.i a) ?_)))))));obtain ⟨U, E, h⟩ := bns h;refine to (six rfl rfl bH.of (aW aK E)) (to (slc rfl aP) ?_);obtain ⟨F, G, h⟩ := bns h;refine to (scr Try.call65 (hC _ _ _ G)) (to (sn rfl) (tm (.b (!F)) ?_));obtain ⟨H, q, h⟩ := bns h;refine aZ 21 [1, 3] 54 H ?_ ?_
    ·refine bch q (fun c q => ?_) (fun c q => ?_)
     ·refine tp c (tp c (tp c (tp c (tq (tq (tq (tq (tq (tq (tp c (tp c (tq (tq ?_)))))))))))));refine tq (tq (tq (tq (tq (tp c (to (spt (.b true) c) ?_))))));obtain rfl := sIn q;refine aB (aL rfl ⟨rfl, rfl, trivial⟩ rfl)
     ·refine tk c (sm (.i a)) (tk c (aYw (aD rfl) rfl rfl (by decide)) ?_);refine tk c (scm rfl rfl rfl) (tk c (sm (.b (decide ((a.tmod 2) = 1)))) ?_);obtain ⟨y, s, q⟩ := bns q;refine aZ 7 [1, 3, 33, 34, 35, 36, 37] 44 y ?_ ?_
      ·refine bch s (fun n s => ?_) (fun n s => ?_)
       ·refine tkl 0 n rfl rfl eC rfl cJ (tk n (sm (.i a)) ?_);obtain ⟨I, J, s⟩ := bns s;refine tk n (six rfl rfl bH.of (aW aK J)) (tk n (slc rfl aP) (tk n (scm rfl rfl rfl) (tk c (spt (.b (decide (I = (-1)))) n) ?_)));obtain rfl := sIn s;refine aB (aL rfl ⟨rfl, rfl, rfl, rfl, rfl, rfl, rfl, trivial⟩ rfl)
       ·refine tp n (tp n (tp n (tp n (tp n (tp n (tk c (spf (.b false) n) ?_))))));obtain rfl := sIn s;refine aB (aL rfl ⟨rfl, rfl, rfl, rfl, rfl, rfl, rfl, trivial⟩ rfl)
      ·refine tk c (sm (.b y)) ?_;obtain ⟨z, t, q⟩ := bns q;refine aZ 8 [1, 3, 33, 34, 35, 36, 37, 44, 45] 53 z ?_ ?_
       ·refine bch t (fun g t => ?_) (fun g t => ?_)
        ·refine tkl 0 g rfl rfl eC rfl cJ (tk g (sm (.i a)) (tk g (sar rfl rfl rfl) ?_));obtain ⟨K, L, t⟩ := bns t;refine tk g (six rfl rfl bH.of (aW aK L)) (tk g (slc rfl aP) (tk g (scm rfl rfl rfl) (tk c (spt (.b (decide (K = (-1)))) g) ?_)));obtain rfl := sIn t;refine aB (aL rfl ⟨rfl, rfl, rfl, rfl, rfl, rfl, rfl, rfl, rfl, trivial⟩ rfl)
        ·refine tp g (tp g (tp g (tp g (tp g (tp g (tp g (tk c (spf (.b false) g) ?_)))))));obtain rfl := sIn t;refine aB (aL rfl ⟨rfl, rfl, rfl, rfl, rfl, rfl, rfl, rfl, rfl, trivial⟩ rfl)
       ·refine to (spf (.b z) c) ?_;obtain rfl := sIn q;refine aB (aL rfl ⟨rfl, rfl, trivial⟩ rfl)
    ·refine aB ?_;refine tih h (fun M h => ?_) (fun M h => ?_)
     ·refine aC (aA (ta (.b false) (aB ?_)));obtain rfl := sIn h;refine bM (bG (bI (l := [2]) ⟨rfl, trivial⟩)) ?_;exact aX ⟨rfl, _, .one _, rfl, rfl⟩
     ·refine aV (aC (aA (ta (.i 0) (aB ?_))));refine uF ?_;refine bR (S := Int) [1, 3] (fun x => [(4, .i x)]) (fun x => [.box b1 0 (bD j)]) (fun k x => gP (gO j k8) a j k x) (fun _ => rfl) (0) h (aN [0] rfl rfl (aI rfl (aM ⟨rfl, rfl, trivial⟩))) ?_;rintro V f h;simp only [gP] at h;refine aC (aC (aA (tm (.i f) (tm (.i a) (to (scm rfl rfl rfl) (aB ?_))))));refine tih h (fun N h => ?_) (fun N h => ?_)
      ·refine aV (aC (bA (aC ?_)));obtain ⟨o, A, h⟩ := bns h;obtain ⟨p, B, h⟩ := bns h;obtain ⟨O, u, h⟩ := bns h;refine cR mix 19 [1, 3, 4] [(78, .b O)] ?_ ?_
       ·refine bch u (fun m u => ?_) (fun m u => ?_)
        ·obtain ⟨w, P, u⟩ := bns u;obtain rfl := sIn u;refine ⟨[(60, 0, .bp b1 0 1), (61, 1, .d (.sl 1 (j.Slots.map aK))), (62, 2, .i f), (63, 3, .cp [.lit (.int .i64 o)]), (64, 4, .i o), (65, 5, .bp b1 0 1), (66, 6, .d (.sl 1 (j.Slots.map aK))), (67, 7, .i a), (68, 8, .cp [.lit (.int .i64 p)]), (69, 9, .i p), (70, 10, .b (decide (o = p))), (71, 11, .b (decide (o = p))), (72, 12, .bp b1 0 1), (73, 13, .d (.sl 1 (j.Slots.map aK))), (74, 14, .i a), (75, 15, .cp [.lit (.int .i64 w)]), (76, 16, .i w), (77, 17, .b (!decide (w = (-1)))), (78, 18, .b (!decide (w = (-1))))], ?_, ?_⟩
         · exact dok [([], []), ([0], []), ([], []), ([1, 2], []), ([3], []), ([], []), ([5], []), ([], []), ([6, 7], []), ([8], []), ([4, 9], []), ([10], []), ([11], []), ([11, 12], []), ([11], []), ([11, 13, 14], []), ([11, 15], []), ([11, 16], []), ([11, 17], [])] ⟨go (zf rfl eC),
      go (zl 0 rfl rfl rfl cJ),
      go (zm (.i f)),
      go (zix rfl rfl bH.of (aW aK A)),
      go (zlc rfl aP),
      go (zf rfl eC),
      go (zl 0 rfl rfl rfl cJ),
      go (zm (.i a)),
      go (zix rfl rfl bH.of (aW aK B)),
      go (zlc rfl aP),
      go (zcm rfl rfl rfl),
      go (zm (.b (decide (o = p)))),
      gt m (zf rfl eC),
      gt m (zl 0 rfl rfl rfl cJ),
      gt m (zm (.i a)),
      gt m (zix rfl rfl bH.of (aW aK P)),
      gt m (zlc rfl aP),
      gt m (zcm rfl rfl rfl),
      go (zpt (.b (!decide (w = (-1)))) m), trivial⟩
         · exact cE (aI rfl (aM ⟨rfl, rfl, rfl, trivial⟩))
        ·obtain rfl := sIn u;refine ⟨[(60, 0, .bp b1 0 1), (61, 1, .d (.sl 1 (j.Slots.map aK))), (62, 2, .i f), (63, 3, .cp [.lit (.int .i64 o)]), (64, 4, .i o), (65, 5, .bp b1 0 1), (66, 6, .d (.sl 1 (j.Slots.map aK))), (67, 7, .i a), (68, 8, .cp [.lit (.int .i64 p)]), (69, 9, .i p), (70, 10, .b (decide (o = p))), (71, 11, .b (decide (o = p))), (72, 12, .tup []), (73, 13, .tup []), (74, 14, .tup []), (75, 15, .tup []), (76, 16, .tup []), (77, 17, .tup []), (78, 18, .b false)], ?_, ?_⟩
         · exact dok [([], []), ([0], []), ([], []), ([1, 2], []), ([3], []), ([], []), ([5], []), ([], []), ([6, 7], []), ([8], []), ([4, 9], []), ([10], []), ([11], []), ([11, 12], []), ([11], []), ([11, 13, 14], []), ([11, 15], []), ([11, 16], []), ([11, 17], [])] ⟨go (zf rfl eC),
      go (zl 0 rfl rfl rfl cJ),
      go (zm (.i f)),
      go (zix rfl rfl bH.of (aW aK A)),
      go (zlc rfl aP),
      go (zf rfl eC),
      go (zl 0 rfl rfl rfl cJ),
      go (zm (.i a)),
      go (zix rfl rfl bH.of (aW aK B)),
      go (zlc rfl aP),
      go (zcm rfl rfl rfl),
      go (zm (.b (decide (o = p)))),
      gp m,
      gp m,
      gp m,
      gp m,
      gp m,
      gp m,
      go (zpf (.b false) m), trivial⟩
         · exact cE (aI rfl (aM ⟨rfl, rfl, rfl, trivial⟩))
       ·refine aB ?_;refine tih h (fun Q h => ?_) (fun Q h => ?_)
        ·refine aC (aA (ta (.b false) (aB ?_)));obtain rfl := sIn h;refine bM (bG (bI (l := [2]) ⟨rfl, trivial⟩)) ?_;exact aX ⟨rfl, _, .one _, rfl, rfl⟩
        ·refine cM ?_;refine aA (tm (.i f) (to (sar rfl rfl rfl) (ta (.i (w64 (f + 1))) (aB ?_))));exact ⟨(w64 (f + 1)), h, aN [0] rfl rfl (aI rfl (aM ⟨rfl, rfl, trivial⟩))⟩
      ·refine bT ?_;refine .inl ⟨rfl, ?_⟩;simp only [rR] at h;simp only [rQ] at h;refine aA (tm (.i a) (to (sar rfl rfl rfl) (ta (.i (w64 (a + 1))) (aB ?_))));exact ⟨(w64 (a + 1)), h, aN [0] rfl rfl (aI rfl (aM ⟨rfl, trivial⟩))⟩
   ·refine bT ?_;refine .inl ⟨rfl, ?_⟩;simp only [rP] at h;refine aC (aA (ta (.b true) (aB ?_)));obtain rfl := sIn h;refine bM (bG (bI (l := [2]) ⟨rfl, trivial⟩)) ?_;exact aX ⟨rfl, _, .one _, rfl, rfl⟩

theorem wZ (b : aU) (a : Int) {r : Int} (h : lR b a = some r) : Fn Try.prog 68 [.agg (bD b), .i a] (.i r) := by
 unfold lR at h;refine Fn.of_tr Try.func68 rfl (rs := [.tmp 4]) Try.results68 Try.ntmps68 (Nat.le_of_ble_eq_true rfl) ?_;refine aC (aA ?_);refine bC rfl (eL (v := .agg (bD b)) (aD rfl) rfl rfl rfl) ?_;rintro _ ⟨b1, rfl⟩;refine ta (.i 0) (aB (aC (aA (tfl 0 rfl rfl iP rfl aP (to (sar rfl rfl rfl) (tm (.i a) (to (sar rfl rfl rfl) (to (pR (aD rfl) rfl Try.runUnderlying3 Try.runUnderlying106) ?_))))))));obtain ⟨u2, h3, h⟩ := bns h;refine to (aMs (aD rfl) rfl rfl (aAs h3)) ?_;refine ta (.i (w64 (1 * 2 ^ (min (uw (w64 ((w64 (b.Rounds - 1)) - a))).toNat 64)))) (aB ?_);obtain rfl := sIn h;refine bM (bG (bI (l := [4]) ⟨rfl, trivial⟩)) ?_;exact aX ⟨rfl, _, .one _, rfl, rfl⟩

theorem aCr (d : aU) (a : Int) (c : Int) {r : Bool} (h : mZ d a c = some r) : Fn Try.prog 66 [.agg (bD d), .i a, .i c] (.b r) := by
 unfold mZ at h;refine Fn.of_tr Try.func66 rfl (rs := [.tmp 6]) Try.results66 Try.ntmps66 (Nat.le_of_ble_eq_true rfl) ?_;refine aC (aA ?_);refine bC rfl (eL (v := .agg (bD d)) (aD rfl) rfl rfl rfl) ?_;rintro _ ⟨b1, rfl⟩;refine ta (.b false) (aB (aC (aA (tm (.i a) (tfl 0 rfl rfl iP rfl aP (to (sar rfl rfl rfl) ?_))))));obtain ⟨r2, h3, h⟩ := bns h;refine to (scr Try.call65 (hC _ _ _ h3)) (tm (.b r2) ?_);obtain ⟨b4, h5, h⟩ := bns h;refine aZ 7 [] 19 b4 ?_ ?_
 ·refine bch h5 (fun c6 h5 => ?_) (fun c6 h5 => ?_)
  ·refine tk c6 (sm (.i c)) (tk c6 (sla 0 (bD d) rfl rfl mA) (tk c6 (sm (.i a)) ?_));obtain ⟨r7, h8, h5⟩ := bns h5;refine tk c6 (scr Try.call68 (wZ _ _ h8)) (tk c6 (sar rfl rfl rfl) ?_);obtain ⟨r9, e, h5⟩ := bns h5;refine tk c6 (scr Try.call65 (hC _ _ _ e)) (to (spt (.b r9) c6) ?_);obtain rfl := sIn h5;refine aB (aL rfl trivial rfl)
  ·refine tp c6 (tp c6 (tp c6 (tp c6 (tp c6 (tp c6 (to (spf (.b false) c6) ?_))))));obtain rfl := sIn h5;refine aB (aL rfl trivial rfl)
 ·refine ta (.b b4) (aB ?_);obtain rfl := sIn h;refine bM (bG (bI (l := [6]) ⟨rfl, trivial⟩)) ?_;exact aX ⟨rfl, _, .one _, rfl, rfl⟩

theorem aEk (p : aU) (n : aF) {r : Bool} (h : nY p n = some r) : Fn Try.prog 39 [.agg (bD p), .agg (aJ n)] (.b r) := by
 unfold nY at h;refine Fn.of_tr Try.func39 rfl (rs := [.tmp 4]) Try.results39 Try.ntmps39 (Nat.le_of_ble_eq_true rfl) ?_;refine aC (aA ?_);refine bC rfl (eL (v := .agg (bD p)) (aD rfl) rfl rfl rfl) ?_;rintro _ ⟨b1, rfl⟩;refine bC rfl (eL (v := .agg (aJ n)) (aD rfl) rfl rfl rfl) ?_;rintro _ ⟨b2, rfl⟩;refine ta (.b false) (aB (aC (aC (aA (tfl 1 rfl rfl nR rfl aP ?_)))));obtain ⟨r3, h4, h⟩ := bns h;refine to (scr Try.call65 (hC _ _ _ h4)) (to (sn rfl) (aB ?_));refine tih h (fun c5 h => ?_) (fun c5 h => ?_)
 ·refine aC (aA (ta (.b false) (aB ?_)));obtain rfl := sIn h;refine bM (bG (bI (l := [4]) ⟨rfl, trivial⟩)) ?_;exact aX ⟨rfl, _, .one _, rfl, rfl⟩
 ·refine aV (aC (aC (aA (tfl 1 rfl rfl nQ rfl aP (to (scm rfl rfl rfl) (aB ?_))))));refine tih h (fun c6 h => ?_) (fun c6 h => ?_)
  ·refine aC (aA (tfl 1 rfl rfl oY rfl aP (to (scm rfl rfl rfl) (tm (.b (decide (n.Round = 0))) ?_))));obtain ⟨b7, h8, h⟩ := bns h;refine aZ 8 [3] 23 b7 ?_ ?_
   ·refine bch h8 (fun d h8 => ?_) (fun d h8 => ?_)
    ·refine tkl 1 d rfl rfl kL rfl aP (tkl 0 d rfl rfl eC rfl cJ (tk d (sle rfl bH.of) (tk d (sar rfl rfl rfl) ?_)));obtain ⟨u, w, h8⟩ := bns h8;refine tk d (scr Try.call65 (hC _ _ _ w)) (to (spt (.b u) d) ?_);obtain rfl := sIn h8;refine aB (aL rfl ⟨rfl, trivial⟩ rfl)
    ·refine tp d (tp d (tp d (tp d (tp d (tp d (tp d (to (spf (.b false) d) ?_)))))));obtain rfl := sIn h8;refine aB (aL rfl ⟨rfl, trivial⟩ rfl)
   ·refine tm (.b b7) ?_;obtain ⟨b9, j, h⟩ := bns h;refine aZ 4 [] 28 b9 ?_ ?_
    ·refine bch j (fun g j => ?_) (fun g j => ?_)
     ·refine tkl 1 g rfl rfl xE rfl aP ?_;obtain ⟨x, y, j⟩ := bns j;refine tk g (scr Try.call65 (hC _ _ _ y)) (to (spt (.b x) g) ?_);obtain rfl := sIn j;refine aB (aL rfl trivial rfl)
     ·refine tp g (tp g (tp g (to (spf (.b false) g) ?_)));obtain rfl := sIn j;refine aB (aL rfl trivial rfl)
    ·refine ta (.b b9) (aB ?_);obtain rfl := sIn h;refine bM (bG (bI (l := [4]) ⟨rfl, trivial⟩)) ?_;exact aX ⟨rfl, _, .one _, rfl, rfl⟩
  ·refine aV (aC (aC (aA (tfl 1 rfl rfl nQ rfl aP ?_))));obtain ⟨z, A, h⟩ := bns h;refine to (scr Try.call65 (hC _ _ _ A)) (to (sn rfl) (tm (.b (!z)) ?_));obtain ⟨q, k, h⟩ := bns h;refine aZ 8 [2, 3] 41 q ?_ ?_
   ·refine bch k (fun e k => ?_) (fun e k => ?_)
    ·refine tp e (tp e (tp e (tp e (tp e (tp e (tp e (to (spt (.b true) e) ?_)))))));obtain rfl := sIn k;refine aB (aL rfl ⟨rfl, rfl, trivial⟩ rfl)
    ·refine tk e (sla 0 (bD p) rfl rfl mA) (tkl 1 e rfl rfl oY rfl aP (tkl 1 e rfl rfl kL rfl aP ?_));obtain ⟨B, C, k⟩ := bns k;refine tk e (scr Try.call66 (aCr _ _ _ C)) (tk e (sn rfl) (to (spf (.b (!B)) e) ?_));obtain rfl := sIn k;refine aB (aL rfl ⟨rfl, rfl, trivial⟩ rfl)
   ·refine tm (.b q) ?_;obtain ⟨E, o, h⟩ := bns h;refine aZ 4 [2, 3] 46 E ?_ ?_
    ·refine bch o (fun i o => ?_) (fun i o => ?_)
     ·refine tp i (tp i (tp i (to (spt (.b true) i) ?_)));obtain rfl := sIn o;refine aB (aL rfl ⟨rfl, rfl, trivial⟩ rfl)
     ·refine tkl 1 i rfl rfl xE rfl aP (tk i (scm rfl rfl rfl) (to (spf (.b (!decide (n.Old = 0))) i) ?_));obtain rfl := sIn o;refine aB (aL rfl ⟨rfl, rfl, trivial⟩ rfl)
    ·refine aB ?_;refine tih h (fun F h => ?_) (fun F h => ?_)
     ·refine aC (aA (ta (.b false) (aB ?_)));obtain rfl := sIn h;refine bM (bG (bI (l := [4]) ⟨rfl, trivial⟩)) ?_;exact aX ⟨rfl, _, .one _, rfl, rfl⟩
     ·refine aV (aC (aA (tfl 1 rfl rfl oY rfl aP (to (scm rfl rfl rfl) (tm (.b (decide (0 < n.Round))) ?_)))));obtain ⟨s, f, h⟩ := bns h;refine aZ 20 [] 70 s ?_ ?_
      ·refine bch f (fun a f => ?_) (fun a f => ?_)
       ·refine tp a (tp a (tp a (tp a (tp a (tp a (tp a (tp a (tp a (tq (tq (tq (tq (tq ?_)))))))))))));refine tq (tq (tq (tq (tp a (to (spt (.b true) a) ?_)))));obtain rfl := sIn f;refine aB (aL rfl trivial rfl)
       ·refine tkl 0 a rfl rfl eC rfl cJ (tkl 1 a rfl rfl kL rfl aP (tk a (sar rfl rfl rfl) ?_));obtain ⟨G, H, f⟩ := bns f;refine tk a (six rfl rfl bH.of (aW aK H)) (tk a (slc rfl aP) (tk a (scm rfl rfl rfl) (tk a (sm (.b (!decide (G = (-1))))) ?_)));obtain ⟨t, m, f⟩ := bns f;refine aZ 10 [50] 69 t ?_ ?_
        ·refine bch m (fun c m => ?_) (fun c m => ?_)
         ·refine tkl 0 c rfl rfl eC rfl cJ (tkl 1 c rfl rfl kL rfl aP (tk c (sar rfl rfl rfl) (tk c (sar rfl rfl rfl) ?_)));obtain ⟨I, J, m⟩ := bns m;refine tk c (six rfl rfl bH.of (aW aK J)) (tk c (slc rfl aP) (tk c (scm rfl rfl rfl) (tk a (spt (.b (!decide (I = (-1)))) c) ?_)));obtain rfl := sIn m;refine aB (aL rfl ⟨rfl, trivial⟩ rfl)
         ·refine tp c (tp c (tp c (tp c (tp c (tp c (tp c (tp c (tp c (tk a (spf (.b false) c) ?_)))))))));obtain rfl := sIn m;refine aB (aL rfl ⟨rfl, trivial⟩ rfl)
        ·refine to (spf (.b t) a) ?_;obtain rfl := sIn f;refine aB (aL rfl trivial rfl)
      ·refine ta (.b s) (aB ?_);obtain rfl := sIn h;refine bM (bG (bI (l := [4]) ⟨rfl, trivial⟩)) ?_;exact aX ⟨rfl, _, .one _, rfl, rfl⟩

theorem yM (p : List aF) {r : (List aF)} (h : nM p = some r) : Fn Try.prog 69 [.d (.sl 5 (p.map aJ))] (.d (.sl 5 (r.map aJ))) := by
 unfold nM at h;refine Fn.of_tr Try.func69 rfl (rs := [.tmp 2]) Try.results69 Try.ntmps69 (Nat.le_of_ble_eq_true rfl) ?_;refine aC (aA (to (aBe 5 (aD rfl)) ?_));refine aB (aC (aA (to (hZ 46 5 (.inl rfl) (aD rfl)) ?_)));refine aB (aC (aC (aA (ta (.i 0) (aB (bA ?_))))));refine bR (S := Int × (List aF) × Value) [0] (fun s2 => [(3, .d (.lit s2.2.2)), (4, .i s2.1)]) (fun s2 => [.arr s2.2.2 46 5 (s2.2.1.map aJ)]) (fun k s2 => eQ p k s2.1 s2.2.1) (fun _ => rfl) (0, ([] : List aF), (.slice none 0 0)) h (aN [0] rfl rfl (aI rfl (aI rfl (aM ⟨rfl, trivial⟩)))) ?_;rintro k4 ⟨g, o, w3⟩ h;simp only [eQ] at h;refine aC (aC (aA (tm (.i g) (tm (.d (.sl 5 (p.map aJ))) (to (sle rfl iA.of) (to (scm rfl rfl rfl) (aB ?_)))))));refine tih h (fun c5 h => ?_) (fun c5 h => ?_)
 ·refine aV (aC (bA (aC (aA (ta (.b false) (aB (aC (aC (aA (ta (.i 0) (aB (bA ?_))))))))))));refine bR (S := Bool × Int) [0, 3, 4] (fun s6 => [(5, .b s6.1), (6, .i s6.2)]) (fun s6 => [.arr w3 46 5 (o.map aJ)]) (fun k s6 => iJ (eQ p k4) p g o k s6.1 s6.2) (fun _ => rfl) (false, 0) h (aN [0] rfl rfl (aI rfl (aI rfl (aM ⟨rfl, rfl, rfl, trivial⟩)))) ?_;rintro k7 ⟨c, j⟩ h;simp only [iJ] at h;refine aC (aC (aA (tm (.i j) (tm (.d (.lit w3)) (to (jL (m := 0) (aD rfl) rfl rfl iA.of) ?_)))));refine to (scm rfl rfl rfl) (aB ?_);refine tih h (fun c8 h => ?_) (fun c8 h => ?_)
  ·refine aV (aC (bA ?_));obtain ⟨b9, q, h⟩ := bns h;refine cR mix 12 [0, 3, 4, 6] [(30, .b b9)] ?_ ?_
   ·refine bch q (fun e q => ?_) (fun e q => ?_)
    ·obtain rfl := sIn q;refine ⟨[(19, 0, .b c), (20, 1, .b c), (21, 2, .tup []), (22, 3, .tup []), (23, 4, .tup []), (24, 5, .tup []), (25, 6, .tup []), (26, 7, .tup []), (27, 8, .tup []), (28, 9, .tup []), (29, 10, .tup []), (30, 11, .b true)], ?_, ?_⟩
     · exact dok [([], []), ([0], []), ([1], []), ([1], []), ([1, 2, 3], []), ([1, 4], []), ([1], []), ([1], []), ([1, 6, 7], []), ([1, 8], []), ([1, 5, 9], []), ([1, 10], [])] ⟨go (zm (.b c)),
      go (zm (.b c)),
      gp e,
      gp e,
      gp e,
      gp e,
      gp e,
      gp e,
      gp e,
      gp e,
      gp e,
      go (zpt (.b true) e), trivial⟩
     · exact cE (aI rfl (aM ⟨rfl, rfl, rfl, rfl, trivial⟩))
    ·obtain ⟨s, t, q⟩ := bns q;obtain ⟨n, x, q⟩ := bns q;obtain rfl := sIn q;refine ⟨[(19, 0, .b c), (20, 1, .b c), (21, 2, .d (.lit w3)), (22, 3, .i j), (23, 4, .ep w3 5 j.toNat 0), (24, 5, .agg (aJ s)), (25, 6, .d (.sl 5 (p.map aJ))), (26, 7, .i g), (27, 8, .cp [.lit (.int .i64 n.Kind), .lit (.int .i64 n.Round), .lit (.int .i64 n.Place), .lit (.int .i64 n.Player), .lit (.int .i64 n.Old)]), (28, 9, .agg (aJ n)), (29, 10, .b (decide (s = n))), (30, 11, .b (decide (s = n)))], ?_, ?_⟩
     · exact dok [([], []), ([0], []), ([1], []), ([1], []), ([1, 2, 3], []), ([1, 4], []), ([1], []), ([1], []), ([1, 6, 7], []), ([1, 8], []), ([1, 5, 9], []), ([1, 10], [])] ⟨go (zm (.b c)),
      go (zm (.b c)),
      gt e (zm (.d (.lit w3))),
      gt e (zm (.i j)),
      gt e (zia 0 rfl rfl rfl iA.of (aW aJ t)),
      gt e fun S hS => dY (aD rfl) (aT hS rfl) (l := 0) rfl (dO aJ t) lI (es := (aJ s)) rfl rfl,
      gt e (zm (.d (.sl 5 (p.map aJ)))),
      gt e (zm (.i g)),
      gt e (zix rfl rfl iA.of (aW aJ x)),
      gt e (aVt (aJ n) rfl lI),
      gt e fun S hS => aRp (a := s) (b := n) (aD rfl) (aT hS rfl) (aT hS rfl) rfl rfl Try.eqGuardType46 aNk,
      go (zpf (.b (decide (s = n))) e), trivial⟩
     · exact cE (aI rfl (aM ⟨rfl, rfl, rfl, rfl, trivial⟩))
   ·refine ta (.b b9) ?_;refine cQ ?_;refine aA (tm (.i j) (to (sar rfl rfl rfl) (ta (.i (w64 (j + 1))) (aB ?_))));exact ⟨(b9, w64 (j + 1)), h, aN [0] rfl rfl (aI rfl (aI rfl (aM ⟨rfl, rfl, rfl, trivial⟩)))⟩
  ·refine bT ?_;refine .inl ⟨rfl, ?_⟩;simp only [nC] at h;refine aC (aA (tm (.b c) (to (sn rfl) (aB ?_))));refine tih h (fun y h => ?_) (fun y h => ?_)
   ·refine aA (tm (.d (.lit w3)) (tm (.d (.sl 5 (p.map aJ))) (tm (.i g) ?_)));obtain ⟨u, z, h⟩ := bns h;refine to (six rfl rfl iA.of (aW aJ z)) (to (pH (aJ u) rfl lI) (to (fK (aD rfl) iA rfl rfl (rows := ([u]).map aJ) rfl (cX (f := aJ) fun _ => rfl) rfl (by decide)) ?_));obtain ⟨A, B, h⟩ := bns h;refine bC rfl (gG (i := 0) (aD rfl) iA rfl rfl rfl (fun _ => rfl) B rfl) ?_;rintro _ ⟨w, rfl⟩;refine ta (.d (.lit w)) ?_;refine cQ ?_;simp only [kZ] at h;refine aA (tm (.i g) (to (sar rfl rfl rfl) (ta (.i (w64 (g + 1))) (aB ?_))));exact ⟨(w64 (g + 1), A, w), h, aN [0] rfl rfl (aI rfl (aI rfl (aM ⟨rfl, trivial⟩)))⟩
   ·refine cM ?_;simp only [kZ] at h;refine aA (tm (.i g) (to (sar rfl rfl rfl) (ta (.i (w64 (g + 1))) (aB ?_))));exact ⟨(w64 (g + 1), o, w3), h, aN [0] rfl rfl (aI rfl (aI rfl (aM ⟨rfl, trivial⟩)))⟩
 ·refine bT ?_;refine .inl ⟨rfl, ?_⟩;simp only [tC] at h;refine aC (aA (tm (.d (.lit w3)) (ta (.d (.lit w3)) (aB ?_))));obtain rfl := sIn h;refine bM (bG (vT (k := 2) (v := .d (.sl 5 (o.map aJ))) (.d (nE 0 rfl (cX (f := aJ) fun _ => rfl))) (aBr))) ?_;exact aX ⟨rfl, _, .one _, rfl, rfl⟩

theorem aJg (c : List Int) (e : Int) {r : Bool} (h : sA c e = some r) : Fn Try.prog 94 [.d (.sl 1 (c.map aK)), .i e] (.b r) := by
 unfold sA at h;refine Fn.of_tr Try.func94 rfl (rs := [.tmp 4]) Try.results94 Try.ntmps94 (Nat.le_of_ble_eq_true rfl) ?_;refine aC (aA (ta (.b false) (aB (aC (aC (aA (ta (.i 0) (aB (bA ?_)))))))));refine bR (S := Int) [0, 1] (fun s1 => [(5, .i s1)]) (fun s1 => []) (fun k s1 => kJ c e k s1) (fun _ => rfl) (0) h (aN [] rfl rfl (aI rfl (aM ⟨rfl, rfl, trivial⟩))) ?_;rintro k2 a h;simp only [kJ] at h;refine aC (aC (aA (tm (.i a) (tm (.d (.sl 1 (c.map aK))) (to (sle rfl bH.of) (to (scm rfl rfl rfl) (aB ?_)))))));refine tih h (fun c3 h => ?_) (fun c3 h => ?_)
 ·refine aV (aC (bA (aC (aA (tm (.d (.sl 1 (c.map aK))) (tm (.i a) ?_))))));obtain ⟨x4, h5, h⟩ := bns h;refine to (six rfl rfl bH.of (aW aK h5)) (to (slc rfl aP) (tm (.i e) (to (scm rfl rfl rfl) (aB ?_))));refine tih h (fun c6 h => ?_) (fun c6 h => ?_)
  ·refine aC (aA (ta (.b true) (aB ?_)));obtain rfl := sIn h;exact aX ⟨rfl, _, .one _, rfl, rfl⟩
  ·refine cM ?_;refine aA (tm (.i a) (to (sar rfl rfl rfl) (ta (.i (w64 (a + 1))) (aB ?_))));exact ⟨(w64 (a + 1)), h, aN [] rfl rfl (aI rfl (aM ⟨rfl, rfl, trivial⟩))⟩
 ·refine bT ?_;refine .inl ⟨rfl, ?_⟩;simp only [vB] at h;refine aC (aA (ta (.b false) (aB ?_)));obtain rfl := sIn h;exact aX ⟨rfl, _, .one _, rfl, rfl⟩

theorem aCs (t : aU) (N : List aF) {r : (List Int) × Bool} (h : nA t N = some r) : Fn Try.prog 67 [.agg (bD t), .d (.sl 5 (N.map aJ))] (.tup [.d (.sl 1 (r.1.map aK)), .b r.2]) := by
 unfold nA at h;refine Fn.of_tr Try.func67 rfl (rs := [.tmp 4, .tmp 5]) Try.results67 Try.ntmps67 (Nat.le_of_ble_eq_true rfl) ?_;refine aC (aA ?_);refine bC rfl (eL (v := .agg (bD t)) (aD rfl) rfl rfl rfl) ?_;rintro _ ⟨b1, rfl⟩;refine to (aBe 1 (aD rfl)) ?_;refine ta (.b false) (aB (aC (aA (tm (.d (.sl 5 (N.map aJ))) ?_))));obtain ⟨r2, h3, h⟩ := bns h;refine to (gH (aD rfl) (.func _ _ Try.call69) rfl rfl (yM _ h3)) ?_;refine ta (.d (.sl 5 (r2.map aJ))) (aB (aC (aA ?_)));refine bC rfl (aGf (aD rfl) bH rfl rfl (rows := (([] : List Int)).map aK) rfl (cX (f := aK) fun _ => rfl) rfl (by decide)) ?_;rintro _ ⟨v4, rfl⟩;refine tfl 0 rfl rfl eC rfl cJ ?_;obtain ⟨x5, h6, h⟩ := bns h;refine bC rfl (gG (i := 1) (aD rfl) bH rfl rfl rfl (fun _ => rfl) h6 rfl) ?_;rintro _ ⟨v7, rfl⟩;refine ta (.d (.lit v7)) (aB (aC (aA (to (hZ 3 1 (.inl rfl) (aD rfl)) ?_))));refine aB (aC (aA (ta (.i 0) (aB (aC (aC (aA (ta (.i 0) (aB (bA ?_))))))))));refine bR (S := Int × Int × (List Int) × (List Int) × Value × Value) [2, 6] (fun s9 => [(7, .d (.lit s9.2.2.2.2.2)), (8, .d (.lit s9.2.2.2.2.1)), (9, .i s9.1), (10, .i s9.2.1)]) (fun s9 => [.box b1 0 (bD t), .arr s9.2.2.2.2.1 3 1 (s9.2.2.1.map aK), .arr s9.2.2.2.2.2 3 1 (s9.2.2.2.1.map aK)]) (fun k s9 => eH r2 t k s9.1 s9.2.1 s9.2.2.1 s9.2.2.2.1) (fun _ => rfl) (0, 0, ([] : List Int), x5, (.slice none 0 0), v7) h (aN [0, 2, 1] rfl rfl (aI rfl (aI rfl (aI rfl (aI rfl (aM ⟨rfl, rfl, trivial⟩)))))) ?_;rintro O ⟨B, n, e, M, H, a3⟩ h;simp only [eH] at h;refine aC (aC (aA (tm (.i n) (tfl 0 rfl rfl eC rfl cJ (to (sle rfl bH.of) (to (scm rfl rfl rfl) (aB ?_)))))));refine tih h (fun a4 h => ?_) (fun a4 h => ?_)
 ·refine aV (aC (bA (aC (aA (tfl 0 rfl rfl eC rfl cJ (tm (.i n) ?_))))));obtain ⟨P, a5, h⟩ := bns h;refine to (six rfl rfl bH.of (aW aK a5)) (to (slc rfl aP) (ta (.i P) (aB (aC (aC (aA (ta (.b true) (aB (bA ?_)))))))));refine bR (S := Int × Int × Bool × (List Int) × Value) [2, 6, 8, 10] (fun y => [(7, .d (.lit y.2.2.2.2)), (9, .i y.1), (11, .i y.2.1), (12, .b y.2.2.1)]) (fun y => [.box b1 0 (bD t), .arr H 3 1 (e.map aK), .arr y.2.2.2.2 3 1 (y.2.2.2.1.map aK)]) (fun k y => gE (eH r2 t O) r2 n t e k y.1 y.2.1 y.2.2.1 y.2.2.2.1) (fun _ => rfl) (B, P, true, M, a3) h (aN [0, 1, 2] rfl rfl (aI rfl (aI rfl (aI rfl (aI rfl (aM ⟨rfl, rfl, rfl, rfl, trivial⟩)))))) ?_;rintro a6 ⟨g, j, J, w, K⟩ h;simp only [gE] at h;refine aC (aC (aA (tm (.b J) (aB ?_))));refine tih h (fun a7 h => ?_) (fun a7 h => ?_)
  ·refine aV (bA (aC (aA (ta (.b false) (aB (aC (aA (to (hZ 3 1 (.inl rfl) (aD rfl)) ?_))))))));refine aB (aC (aC (aA (ta (.i 0) (aB (bA ?_))))));refine bR (S := Int × (List Int) × Value) [2, 6, 7, 8, 9, 10, 11, 12] (fun A => [(13, .d (.lit A.2.2)), (14, .i A.1)]) (fun A => [.box b1 0 (bD t), .arr H 3 1 (e.map aK), .arr A.2.2 3 1 (A.2.1.map aK), .arr K 3 1 (w.map aK)]) (fun k A => fD (eH r2 t O) (gE (eH r2 t O) r2 n t e a6) r2 g n j false t e w k A.1 A.2.1) (fun _ => rfl) (0, ([] : List Int), (.slice none 0 0)) h (aN [0, 1, 3, 2] rfl rfl (aI rfl (aI rfl (aM ⟨rfl, rfl, rfl, rfl, rfl, rfl, rfl, rfl, trivial⟩)))) ?_;rintro d1 ⟨a, x, C⟩ h;simp only [fD] at h;refine aC (aC (aA (tm (.i a) (tm (.d (.sl 5 (r2.map aJ))) (to (sle rfl iA.of) (to (scm rfl rfl rfl) (aB ?_)))))));refine tih h (fun a8 h => ?_) (fun a8 h => ?_)
   ·refine aV (aC (bA (aC (aA (tm (.d (.sl 5 (r2.map aJ))) (tm (.i a) ?_))))));obtain ⟨Q, a9, h⟩ := bns h;refine to (six rfl rfl iA.of (aW aJ a9)) (to (sfc [.lit (.int .i64 Q.Kind)] rfl nQ) (to (slc rfl aP) (to (scm rfl rfl rfl) (tm (.b (decide (Q.Kind = 5))) ?_))));obtain ⟨T, E, h⟩ := bns h;refine aZ 8 [2, 6, 7, 8, 9, 10, 11, 12, 13, 14] 55 T ?_ ?_
    ·refine bch E (fun o E => ?_) (fun o E => ?_)
     ·refine tk o (sm (.d (.sl 5 (r2.map aJ)))) (tk o (sm (.i a)) ?_);obtain ⟨U, b0, E⟩ := bns E;refine tk o (six rfl rfl iA.of (aW aJ b0)) (tk o (sfc [.lit (.int .i64 U.Place)] rfl kL) (tk o (slc rfl aP) (tk o (sm (.i n)) (tk o (scm rfl rfl rfl) (to (spt (.b (decide (U.Place = n))) o) ?_)))));obtain rfl := sIn E;refine aB (aL rfl ⟨rfl, rfl, rfl, rfl, rfl, rfl, rfl, rfl, rfl, rfl, trivial⟩ rfl)
     ·refine tp o (tp o (tp o (tp o (tp o (tp o (tp o (to (spf (.b false) o) ?_)))))));obtain rfl := sIn E;refine aB (aL rfl ⟨rfl, rfl, rfl, rfl, rfl, rfl, rfl, rfl, rfl, rfl, trivial⟩ rfl)
    ·refine tm (.b T) ?_;obtain ⟨b2, F, h⟩ := bns h;refine aZ 8 [2, 6, 7, 8, 9, 10, 11, 12, 13, 14] 64 b2 ?_ ?_
     ·refine bch F (fun p F => ?_) (fun p F => ?_)
      ·refine tk p (sm (.d (.sl 5 (r2.map aJ)))) (tk p (sm (.i a)) ?_);obtain ⟨V, b3, F⟩ := bns F;refine tk p (six rfl rfl iA.of (aW aJ b3)) (tk p (sfc [.lit (.int .i64 V.Old)] rfl xE) (tk p (slc rfl aP) (tk p (sm (.i j)) (tk p (scm rfl rfl rfl) (to (spt (.b (decide (V.Old = j))) p) ?_)))));obtain rfl := sIn F;refine aB (aL rfl ⟨rfl, rfl, rfl, rfl, rfl, rfl, rfl, rfl, rfl, rfl, trivial⟩ rfl)
      ·refine tp p (tp p (tp p (tp p (tp p (tp p (tp p (to (spf (.b false) p) ?_)))))));obtain rfl := sIn F;refine aB (aL rfl ⟨rfl, rfl, rfl, rfl, rfl, rfl, rfl, rfl, rfl, rfl, trivial⟩ rfl)
     ·refine aB ?_;refine tih h (fun b4 h => ?_) (fun b4 h => ?_)
      ·refine aA (tm (.d (.lit C)) (tm (.d (.sl 5 (r2.map aJ))) (tm (.i a) ?_)));obtain ⟨W, b5, h⟩ := bns h;refine to (six rfl rfl iA.of (aW aJ b5)) (to (sfc [.lit (.int .i64 W.Player)] rfl nR) (to (slc rfl aP) (to (fK (aD rfl) bH rfl rfl (rows := ([W.Player]).map aK) rfl (cX (f := aK) fun _ => rfl) rfl (by decide)) ?_)));obtain ⟨b6, b7, h⟩ := bns h;refine bC rfl (gG (i := 2) (aD rfl) bH rfl rfl rfl (fun _ => rfl) b7 rfl) ?_;rintro _ ⟨X, rfl⟩;refine ta (.d (.lit X)) ?_;refine cQ ?_;refine aA (tm (.i a) (to (sar rfl rfl rfl) (ta (.i (w64 (a + 1))) (aB ?_))));exact ⟨(w64 (a + 1), b6, X), h, aN [0, 1, 2, 3] rfl rfl (aI rfl (aI rfl (aM ⟨rfl, rfl, rfl, rfl, rfl, rfl, rfl, rfl, trivial⟩)))⟩
      ·refine cM ?_;refine aA (tm (.i a) (to (sar rfl rfl rfl) (ta (.i (w64 (a + 1))) (aB ?_))));exact ⟨(w64 (a + 1), x, C), h, aN [0, 1, 2, 3] rfl rfl (aI rfl (aI rfl (aM ⟨rfl, rfl, rfl, rfl, rfl, rfl, rfl, rfl, trivial⟩)))⟩
   ·refine bT ?_;refine .inl ⟨rfl, ?_⟩;simp only [kV] at h;refine aC (aC (aA (tm (.d (.lit C)) (to (jL (m := 2) (aD rfl) rfl rfl bH.of) ?_))));refine to (scm rfl rfl rfl) (tm (.b (decide (1 < (x.length : Int)))) ?_);obtain ⟨b8, G, h⟩ := bns h;refine aZ 11 [2, 6, 7, 8, 9, 10, 11, 12, 13] 87 b8 ?_ ?_
    ·refine bch G (fun s G => ?_) (fun s G => ?_)
     ·refine tp s (tp s (tp s (tp s (tq (tq (tq (tq (tq (tp s (to (spt (.b true) s) ?_))))))))));obtain rfl := sIn G;refine aB (aL rfl ⟨rfl, rfl, rfl, rfl, rfl, rfl, rfl, rfl, rfl, trivial⟩ rfl)
     ·refine tk s (sm (.d (.lit C))) (tk s (jL (m := 2) (aD rfl) rfl rfl bH.of) ?_);refine tk s (scm rfl rfl rfl) (tk s (sm (.b (decide ((x.length : Int) = 1)))) ?_);obtain ⟨Y, z, G⟩ := bns G;refine aZ 6 [2, 6, 7, 8, 9, 10, 11, 12, 13, 76, 77, 78, 79, 80] 86 Y ?_ ?_
      ·refine bch z (fun u z => ?_) (fun u z => ?_)
       ·refine tk u (sm (.d (.lit K))) (tk u (sm (.d (.lit C))) ?_);obtain ⟨d2, Z, z⟩ := bns z;refine tk u (dF (m := 2) (aD rfl) rfl rfl rfl bH.of (aW aK Z)) ?_;refine tk u (iK (aD rfl) rfl (m := 2) rfl (dO aK Z) rfl aP) ?_;obtain ⟨b9, c0, z⟩ := bns z;refine tk u (sc Try.call94 (aJg _ _ c0) (.cons (.d (nE 3 rfl (cX (f := aK) fun _ => rfl))) (.cons (.same _) .nil))) (tk s (spt (.b b9) u) ?_);obtain rfl := sIn z;refine aB (aL rfl ⟨rfl, rfl, rfl, rfl, rfl, rfl, rfl, rfl, rfl, rfl, rfl, rfl, rfl, rfl, trivial⟩ rfl)
       ·refine tp u (tp u (tp u (tp u (tp u (tk s (spf (.b false) u) ?_)))));obtain rfl := sIn z;refine aB (aL rfl ⟨rfl, rfl, rfl, rfl, rfl, rfl, rfl, rfl, rfl, rfl, rfl, rfl, rfl, rfl, trivial⟩ rfl)
      ·refine to (spf (.b Y) s) ?_;obtain rfl := sIn G;refine aB (aL rfl ⟨rfl, rfl, rfl, rfl, rfl, rfl, rfl, rfl, rfl, trivial⟩ rfl)
    ·refine aB ?_;refine tih h (fun c1 h => ?_) (fun c1 h => ?_)
     ·refine aC (aA (to (aBe 1 (aD rfl)) ?_));refine ta (.b false) (aB ?_);obtain rfl := sIn h;refine bM (bG (bI (l := [4, 5]) ⟨rfl, rfl, trivial⟩)) ?_;exact aX ⟨rfl, _, .two _ _, rfl, rfl⟩
     ·refine aV (aC (aA (tm (.d (.lit C)) (to (jL (m := 2) (aD rfl) rfl rfl bH.of) ?_))));refine to (scm rfl rfl rfl) (aB ?_);refine tih h (fun c2 h => ?_) (fun c2 h => ?_)
      ·refine aC (aA (tm (.d (.lit C)) ?_));obtain ⟨L, a0, h⟩ := bns h;refine to (dF (m := 2) (aD rfl) rfl rfl rfl bH.of (aW aK a0)) ?_;refine to (iK (aD rfl) rfl (m := 2) rfl (dO aK a0) rfl aP) ?_;refine ta (.i L) (aB (aC (aA (tm (.d (.lit K)) (tm (.i L) (to (fK (aD rfl) bH rfl rfl (rows := ([L]).map aK) rfl (cX (f := aK) fun _ => rfl) rfl (by decide)) ?_))))));obtain ⟨c3, c4, h⟩ := bns h;refine bC rfl (gG (i := 3) (aD rfl) bH rfl rfl rfl (fun _ => rfl) c4 rfl) ?_;rintro _ ⟨a1, rfl⟩;refine ta (.d (.lit a1)) (aB (aC (aA (tm (.i g) (to (sar rfl rfl rfl) (ta (.i (w64 (g + 1))) (aB (aA (ta (.b true) ?_)))))))));refine cQ ?_;simp only [jD] at h;exact ⟨(w64 (g + 1), L, true, c3, a1), h, aN [0, 1, 3] rfl rfl (aI rfl (aI rfl (aI rfl (aI rfl (aM ⟨rfl, rfl, rfl, rfl, trivial⟩)))))⟩
      ·refine cM ?_;simp only [jD] at h;exact ⟨(g, j, false, w, K), h, aN [0, 1, 3] rfl rfl (aI rfl (aI rfl (aI rfl (aI rfl (aM ⟨rfl, rfl, rfl, rfl, trivial⟩)))))⟩
  ·refine bT ?_;refine .inl ⟨rfl, ?_⟩;simp only [nL] at h;refine aA (tm (.d (.lit H)) (tm (.i j) (to (fK (aD rfl) bH rfl rfl (rows := ([j]).map aK) rfl (cX (f := aK) fun _ => rfl) rfl (by decide)) ?_)));obtain ⟨c5, c6, h⟩ := bns h;refine bC rfl (gG (i := 1) (aD rfl) bH rfl rfl rfl (fun _ => rfl) c6 rfl) ?_;rintro _ ⟨a2, rfl⟩;refine ta (.d (.lit a2)) ?_;refine cQ ?_;simp only [qT] at h;refine aA (tm (.i n) (to (sar rfl rfl rfl) (ta (.i (w64 (n + 1))) (aB ?_))));exact ⟨(g, w64 (n + 1), c5, w, a2, K), h, aN [0, 1, 2] rfl rfl (aI rfl (aI rfl (aI rfl (aI rfl (aM ⟨rfl, rfl, trivial⟩)))))⟩
 ·refine bT ?_;refine .inl ⟨rfl, ?_⟩;simp only [qS] at h;refine aC (aC (aA (ta (.i 0) (aB (bA ?_)))));refine bR (S := Int × Int) [6, 8] (fun I => [(9, .i I.1), (15, .i I.2)]) (fun I => [.arr H 3 1 (e.map aK)]) (fun k I => fE r2 e k I.1 I.2) (fun _ => rfl) (B, 0) h (aN [1] rfl rfl (aI rfl (aI rfl (aM ⟨rfl, rfl, trivial⟩)))) ?_;rintro d3 ⟨c, q⟩ h;simp only [fE] at h;refine aC (aC (aA (tm (.i q) (tm (.d (.sl 5 (r2.map aJ))) (to (sle rfl iA.of) (to (scm rfl rfl rfl) (aB ?_)))))));refine tih h (fun c7 h => ?_) (fun c7 h => ?_)
  ·refine aV (aC (bA (aC (aA (tm (.d (.sl 5 (r2.map aJ))) (tm (.i q) ?_))))));obtain ⟨c8, c9, h⟩ := bns h;refine to (six rfl rfl iA.of (aW aJ c9)) (to (sfc [.lit (.int .i64 c8.Kind)] rfl nQ) (to (slc rfl aP) (to (scm rfl rfl rfl) (aB ?_))));refine tih h (fun d0 h => ?_) (fun d0 h => ?_)
   ·refine aA (tm (.i c) (to (sar rfl rfl rfl) (ta (.i (w64 (c - 1))) ?_)));refine cQ ?_;refine aA (tm (.i q) (to (sar rfl rfl rfl) (ta (.i (w64 (q + 1))) (aB ?_))));exact ⟨(w64 (c - 1), w64 (q + 1)), h, aN [0] rfl rfl (aI rfl (aI rfl (aM ⟨rfl, rfl, trivial⟩)))⟩
   ·refine cM ?_;refine aA (tm (.i q) (to (sar rfl rfl rfl) (ta (.i (w64 (q + 1))) (aB ?_))));exact ⟨(c, w64 (q + 1)), h, aN [0] rfl rfl (aI rfl (aI rfl (aM ⟨rfl, rfl, trivial⟩)))⟩
  ·refine bT ?_;refine .inl ⟨rfl, ?_⟩;simp only [qU] at h;refine aC (aA (tm (.d (.lit H)) (tm (.i c) (to (scm rfl rfl rfl) (ta (.d (.lit H)) (ta (.b (decide (c = 0))) (aB ?_)))))));obtain rfl := sIn h;refine bM (bG (vT (k := 5) (v := .b (decide (c = 0))) (.same _) (vT (k := 4) (v := .d (.sl 1 (e.map aK))) (.d (nE 0 rfl (cX (f := aK) fun _ => rfl))) (aBr)))) ?_;exact aX ⟨rfl, _, .two _ _, rfl, rfl⟩

theorem aHf (A : aU) (U : List aF) {r : aR × Bool} (h : fF A U = some r) : Fn Try.prog 40 [.agg (bD A), .d (.sl 5 (U.map aJ))] (.tup [.agg (cH r.1), .b r.2]) := by
 unfold fF at h;refine kC Try.func40 rfl (rs := [.cell 4 87, .tmp 5]) Try.results40 Try.ntmps40 (Nat.le_of_ble_eq_true rfl) ?_;refine aC (aA ?_);refine bC rfl (eL (v := .agg (bD A)) (aD rfl) rfl rfl rfl) ?_;rintro _ ⟨b1, rfl⟩;refine bC rfl (cP (zs := [.sl 1 ((([] : List Int)).map aK), .sl 1 ((([] : List (List Int))).map oQ)]) (aD rfl) Try.zeroValue87 rfl rfl) ?_;rintro _ ⟨b2, rfl⟩;refine ta (.b false) (aB (aC (aA (to (sla 0 (bD A) rfl rfl mA) (tm (.d (.sl 5 (U.map aJ))) ?_)))));obtain ⟨r3, h4, h⟩ := bns h;refine to (gH (aD rfl) (.func _ _ Try.call67) rfl rfl (aCs _ _ h4)) ?_;refine tm (.tup [.d (.sl 1 (r3.1.map aK)), .b r3.2]) (to (sex rfl rfl) (to (sex rfl rfl) (ta (.d (.sl 1 (r3.1.map aK))) (ta (.b r3.2) (aB (aC (aC (aA (tm (.b r3.2) (to (sn rfl) (aB ?_)))))))))));refine tih h (fun c5 h => ?_) (fun c5 h => ?_)
 ·refine aC (aA (to (eA (aD rfl) aGq (zs := [.sl 1 ((([] : List Int)).map aK), .sl 1 ((([] : List (List Int))).map oQ)]) rfl rfl rfl rfl (es := [.sl 1 ((([] : List Int)).map aK), .sl 1 ((([] : List (List Int))).map oQ)]) rfl) ?_));refine to (sst 1 rfl rfl Try.sizeOf87 (cH (aR.mk ([] : List Int) ([] : List (List Int))))) (ta (.b false) (aB ?_));obtain rfl := sIn h;exact aX ⟨rfl, _, [.box b1 0 (bD A), .box b2 0 (cH (aR.mk ([] : List Int) ([] : List (List Int))))], .two (.cell 4 87 rfl (i := 1) rfl aBq (es := (cH (aR.mk ([] : List Int) ([] : List (List Int))))) rfl rfl) (.tmp 5 (v := .b false) rfl), .refl _, .same _⟩
 ·refine aV (aC (aA (tm (.d (.sl 1 (r3.1.map aK))) (to (eA (aD rfl) aGq (zs := [.sl 1 ((([] : List Int)).map aK), .lit (.slice none 0 0)]) rfl rfl rfl rfl (es := [.sl 1 (r3.1.map aK), .lit (.slice none 0 0)]) rfl) ?_))));refine bC rfl (cP (zs := [.sl 1 ((([] : List Int)).map aK), .lit (.slice none 0 0)]) (aD rfl) Try.zeroValue87 rfl rfl) ?_;rintro _ ⟨b6, rfl⟩;refine rH (aQz 22 1) ?_;refine rH (aRa 3 1) ?_;refine to (sst 2 rfl rfl Try.sizeOf87 [.sl 1 (r3.1.map aK), .lit (.slice none 0 0)]) (aB (aC (aC (aA (ta (.i 0) (aB (bA ?_)))))));refine bR (S := Int × (List (List Int)) × (List Int) × (List Value) × Value) [1, 2, 4, 6, 8] (fun s7 => [(9, .i s7.1)]) (fun s7 => [.box b1 0 (bD A), .box b2 0 (cH (aR.mk ([] : List Int) ([] : List (List Int)))), .fam 3 1 s7.2.2.2.1 (s7.2.1.map fun r => r.map aK), .arr s7.2.2.2.2 22 1 (s7.2.2.2.1.map fun v => [.lit v]), .box b6 0 [.sl 1 (s7.2.2.1.map aK), .lit s7.2.2.2.2]]) (fun k s7 => gQ U r3.1 A (aR.mk ([] : List Int) ([] : List (List Int))) k s7.1 s7.2.1 s7.2.2.1) (fun _ => rfl) (0, ([] : List (List Int)), r3.1, [], (.slice none 0 0)) h (aN [0, 1, 4, 3, 2] rfl rfl (aI rfl (aM ⟨rfl, rfl, rfl, rfl, rfl, trivial⟩))) ?_;rintro d4 ⟨s, T, e, N, w9⟩ h;simp only [gQ] at h;refine aC (aC (aA (tm (.i s) (tfl 0 rfl rfl iP rfl aP (to (scm rfl rfl rfl) (aB ?_))))));refine tih h (fun d5 h => ?_) (fun d5 h => ?_)
  ·refine aV (aC (bA (aC (aA (to (hZ 3 1 (.inl rfl) (aD rfl)) ?_)))));refine aB (aC (aC (aA (ta (.i 0) (aB (bA ?_))))));refine bR (S := Int × (List Int) × Value) [1, 2, 4, 6, 8, 9] (fun O => [(10, .d (.lit O.2.2)), (11, .i O.1)]) (fun O => [.box b1 0 (bD A), .box b2 0 (cH (aR.mk ([] : List Int) ([] : List (List Int)))), .fam 3 1 N (T.map fun r => r.map aK), .arr w9 22 1 (N.map fun v => [.lit v]), .box b6 0 [.sl 1 (e.map aK), .lit w9], .arr O.2.2 3 1 (O.2.1.map aK)]) (fun k O => eP (gQ U r3.1 A (aR.mk ([] : List Int) ([] : List (List Int))) d4) U r3.1 s A (aR.mk ([] : List Int) ([] : List (List Int))) T e k O.1 O.2.1) (fun _ => rfl) (0, ([] : List Int), (.slice none 0 0)) h (aN [0, 1, 2, 3, 4, 5] rfl rfl (aI rfl (aI rfl (aM ⟨rfl, rfl, rfl, rfl, rfl, rfl, trivial⟩)))) ?_;rintro i1 ⟨j, d0, J⟩ h;simp only [eP] at h;refine aC (aC (aA (tm (.i j) (to (sla 0 (bD A) rfl rfl mA) (tm (.i s) ?_)))));obtain ⟨i2, d6, h⟩ := bns h;refine to (scr Try.call68 (wZ _ _ d6)) (to (scm rfl rfl rfl) (aB ?_));refine tih h (fun d7 h => ?_) (fun d7 h => ?_)
   ·refine aV (aC (bA (aC (aA (ta (.i (-2)) (aB (aC (aC (aA (tm (.i s) (to (scm rfl rfl rfl) (tm (.b (decide (s = 0))) ?_))))))))))));obtain ⟨d8, V, h⟩ := bns h;refine aZ 7 [1, 2, 4, 6, 8, 9, 10, 11, 12] 55 d8 ?_ ?_
    ·refine bch V (fun z V => ?_) (fun z V => ?_)
     ·refine tk z (sm (.d (.sl 1 (r3.1.map aK)))) (tk z (sm (.i j)) (tk z (sar rfl rfl rfl) ?_));obtain ⟨d9, e0, V⟩ := bns V;refine tk z (six rfl rfl bH.of (aW aK e0)) (tk z (slc rfl aP) (tk z (scm rfl rfl rfl) (to (spt (.b (decide (d9 = (-1)))) z) ?_)));obtain rfl := sIn V;refine aB (aL rfl ⟨rfl, rfl, rfl, rfl, rfl, rfl, rfl, rfl, rfl, trivial⟩ rfl)
     ·refine tp z (tp z (tp z (tp z (tp z (tp z (to (spf (.b false) z) ?_))))));obtain rfl := sIn V;refine aB (aL rfl ⟨rfl, rfl, rfl, rfl, rfl, rfl, rfl, rfl, rfl, trivial⟩ rfl)
    ·refine aB ?_;refine tih h (fun e1 h => ?_) (fun e1 h => ?_)
     ·refine aA (tm (.d (.sl 1 (r3.1.map aK))) (tm (.i j) (to (sar rfl rfl rfl) (to (sar rfl rfl rfl) ?_))));obtain ⟨b3, e2, h⟩ := bns h;refine to (six rfl rfl bH.of (aW aK e2)) (to (slc rfl aP) (ta (.i b3) (aB (aC (aC (aA (tm (.i s) (to (scm rfl rfl rfl) (tm (.b (decide (s = 0))) ?_)))))))));obtain ⟨e3, W, h⟩ := bns h;refine aZ 8 [1, 2, 4, 6, 8, 9, 10, 11, 12] 72 e3 ?_ ?_
      ·refine bch W (fun u W => ?_) (fun u W => ?_)
       ·refine tk u (sm (.d (.sl 1 (r3.1.map aK)))) (tk u (sm (.i j)) (tk u (sar rfl rfl rfl) (tk u (sar rfl rfl rfl) ?_)));obtain ⟨e4, e5, W⟩ := bns W;refine tk u (six rfl rfl bH.of (aW aK e5)) (tk u (slc rfl aP) (tk u (scm rfl rfl rfl) (to (spt (.b (decide (e4 = (-1)))) u) ?_)));obtain rfl := sIn W;refine aB (aL rfl ⟨rfl, rfl, rfl, rfl, rfl, rfl, rfl, rfl, rfl, trivial⟩ rfl)
       ·refine tp u (tp u (tp u (tp u (tp u (tp u (tp u (to (spf (.b false) u) ?_)))))));obtain rfl := sIn W;refine aB (aL rfl ⟨rfl, rfl, rfl, rfl, rfl, rfl, rfl, rfl, rfl, trivial⟩ rfl)
      ·refine aB ?_;refine tih h (fun e6 h => ?_) (fun e6 h => ?_)
       ·refine aA (tm (.d (.sl 1 (r3.1.map aK))) (tm (.i j) (to (sar rfl rfl rfl) ?_)));obtain ⟨b4, e7, h⟩ := bns h;refine to (six rfl rfl bH.of (aW aK e7)) (to (slc rfl aP) (ta (.i b4) (aB (aA (tm (.d (.lit J)) (tm (.i b4) (to (fK (aD rfl) bH rfl rfl (rows := ([b4]).map aK) rfl (cX (f := aK) fun _ => rfl) rfl (by decide)) ?_)))))));obtain ⟨e8, e9, h⟩ := bns h;refine bC rfl (gG (i := 5) (aD rfl) bH rfl rfl rfl (fun _ => rfl) e9 rfl) ?_;rintro _ ⟨c2, rfl⟩;refine ta (.d (.lit c2)) ?_;refine cQ ?_;refine aA (tm (.i j) (to (sar rfl rfl rfl) (ta (.i (w64 (j + 1))) (aB ?_))));exact ⟨(w64 (j + 1), e8, c2), h, aN [0, 1, 2, 3, 4, 5] rfl rfl (aI rfl (aI rfl (aM ⟨rfl, rfl, rfl, rfl, rfl, rfl, trivial⟩)))⟩
       ·refine aV (aA (tm (.d (.lit J)) (tm (.i b3) (to (fK (aD rfl) bH rfl rfl (rows := ([b3]).map aK) rfl (cX (f := aK) fun _ => rfl) rfl (by decide)) ?_))));obtain ⟨f0, f1, h⟩ := bns h;refine bC rfl (gG (i := 5) (aD rfl) bH rfl rfl rfl (fun _ => rfl) f1 rfl) ?_;rintro _ ⟨c3, rfl⟩;refine ta (.d (.lit c3)) ?_;refine cQ ?_;refine aA (tm (.i j) (to (sar rfl rfl rfl) (ta (.i (w64 (j + 1))) (aB ?_))));exact ⟨(w64 (j + 1), f0, c3), h, aN [0, 1, 2, 3, 4, 5] rfl rfl (aI rfl (aI rfl (aM ⟨rfl, rfl, rfl, rfl, rfl, rfl, trivial⟩)))⟩
     ·refine aV (aC (aC (aA (tm (.i s) (to (scm rfl rfl rfl) (tm (.b (decide (s = 0))) ?_))))));obtain ⟨f2, X, h⟩ := bns h;refine aZ 8 [1, 2, 4, 6, 8, 9, 10, 11, 12] 72 f2 ?_ ?_
      ·refine bch X (fun w X => ?_) (fun w X => ?_)
       ·refine tk w (sm (.d (.sl 1 (r3.1.map aK)))) (tk w (sm (.i j)) (tk w (sar rfl rfl rfl) (tk w (sar rfl rfl rfl) ?_)));obtain ⟨f3, f4, X⟩ := bns X;refine tk w (six rfl rfl bH.of (aW aK f4)) (tk w (slc rfl aP) (tk w (scm rfl rfl rfl) (to (spt (.b (decide (f3 = (-1)))) w) ?_)));obtain rfl := sIn X;refine aB (aL rfl ⟨rfl, rfl, rfl, rfl, rfl, rfl, rfl, rfl, rfl, trivial⟩ rfl)
       ·refine tp w (tp w (tp w (tp w (tp w (tp w (tp w (to (spf (.b false) w) ?_)))))));obtain rfl := sIn X;refine aB (aL rfl ⟨rfl, rfl, rfl, rfl, rfl, rfl, rfl, rfl, rfl, trivial⟩ rfl)
      ·refine aB ?_;refine tih h (fun f5 h => ?_) (fun f5 h => ?_)
       ·refine aA (tm (.d (.sl 1 (r3.1.map aK))) (tm (.i j) (to (sar rfl rfl rfl) ?_)));obtain ⟨b5, f6, h⟩ := bns h;refine to (six rfl rfl bH.of (aW aK f6)) (to (slc rfl aP) (ta (.i b5) (aB (aA (tm (.d (.lit J)) (tm (.i b5) (to (fK (aD rfl) bH rfl rfl (rows := ([b5]).map aK) rfl (cX (f := aK) fun _ => rfl) rfl (by decide)) ?_)))))));obtain ⟨f7, f8, h⟩ := bns h;refine bC rfl (gG (i := 5) (aD rfl) bH rfl rfl rfl (fun _ => rfl) f8 rfl) ?_;rintro _ ⟨c4, rfl⟩;refine ta (.d (.lit c4)) ?_;refine cQ ?_;refine aA (tm (.i j) (to (sar rfl rfl rfl) (ta (.i (w64 (j + 1))) (aB ?_))));exact ⟨(w64 (j + 1), f7, c4), h, aN [0, 1, 2, 3, 4, 5] rfl rfl (aI rfl (aI rfl (aM ⟨rfl, rfl, rfl, rfl, rfl, rfl, trivial⟩)))⟩
       ·refine aV (aA (tm (.d (.lit J)) (tm (.i (-2)) (to (fK (aD rfl) bH rfl rfl (rows := ([(-2)]).map aK) rfl (cX (f := aK) fun _ => rfl) rfl (by decide)) ?_))));obtain ⟨f9, g0, h⟩ := bns h;refine bC rfl (gG (i := 5) (aD rfl) bH rfl rfl rfl (fun _ => rfl) g0 rfl) ?_;rintro _ ⟨c6, rfl⟩;refine ta (.d (.lit c6)) ?_;refine cQ ?_;refine aA (tm (.i j) (to (sar rfl rfl rfl) (ta (.i (w64 (j + 1))) (aB ?_))));exact ⟨(w64 (j + 1), f9, c6), h, aN [0, 1, 2, 3, 4, 5] rfl rfl (aI rfl (aI rfl (aM ⟨rfl, rfl, rfl, rfl, rfl, rfl, trivial⟩)))⟩
   ·refine bT ?_;refine .inl ⟨rfl, ?_⟩;simp only [kX] at h;refine aA (tfl 4 rfl rfl xH rfl aFv (tm (.d (.lit J)) (to (fK (aD rfl) aGz rfl rfl (rows := [[.lit J]]) rfl (fun r hr => by cases hr with | head => rfl | tail _ h => cases h) rfl (by decide)) ?_)));obtain ⟨c7, c8, h⟩ := bns h;refine bC rfl (aOi (m := 3) (f := 2) (aD rfl) aGz rfl rfl rfl rfl c8 rfl) ?_;rintro _ ⟨a9, rfl⟩;refine rH (aPf (i := 2) [.box b1 0 (bD A), .box b2 0 (cH (aR.mk ([] : List Int) ([] : List (List Int)))), .fam 3 1 N (T.map fun r => r.map aK), .arr a9 22 1 ((N ++ [J]).map fun v => [.lit v]), .box b6 0 [.sl 1 (e.map aK), .lit w9]] [.box b1 0 (bD A), .box b2 0 (cH (aR.mk ([] : List Int) ([] : List (List Int)))), .fam 3 1 (N ++ [J]) (c7.map fun r => r.map aK), .arr a9 22 1 ((N ++ [J]).map fun v => [.lit v]), .box b6 0 [.sl 1 (e.map aK), .lit w9]] rfl rfl c8 rfl) ?_;refine to (sf rfl xH) (to (sst 4 rfl rfl Try.sizeOf85 [.sl 1 (e.map aK), .lit a9]) ?_);refine cQ ?_;simp only [sZ] at h;refine aA (tm (.i s) (to (sar rfl rfl rfl) (ta (.i (w64 (s + 1))) (aB ?_))));exact ⟨(w64 (s + 1), c7, e, (N ++ [J]), a9), h, aN [0, 1, 2, 3, 4] rfl rfl (aI rfl (aM ⟨rfl, rfl, rfl, rfl, rfl, trivial⟩))⟩
  ·refine bT ?_;refine .inl ⟨rfl, ?_⟩;simp only [kW] at h;refine aC (aA (tm (.d (.sl 5 (U.map aJ))) ?_));obtain ⟨C, g1, h⟩ := bns h;refine to (gH (aD rfl) (.func _ _ Try.call69) rfl rfl (yM _ g1)) ?_;refine ta (.d (.sl 5 (C.map aJ))) (aB (aC (aC (aA (ta (.i 0) (aB (bA ?_)))))));refine bR (S := Int × aR × (List (List Int)) × (List Value)) [4, 6, 8, 13] (fun K => [(14, .i K.1)]) (fun K => [.box b2 0 (cH K.2.1), .fam 3 1 K.2.2.2 (K.2.2.1.map fun r => r.map aK), .arr w9 22 1 (K.2.2.2.map fun v => [.lit v]), .box b6 0 [.sl 1 (e.map aK), .lit w9]]) (fun k K => dH r3.1 C e k K.1 K.2.1 K.2.2.1) (fun _ => rfl) (0, (aR.mk ([] : List Int) ([] : List (List Int))), T, N) h (aN [1, 2, 3, 4] rfl rfl (aI rfl (aM ⟨rfl, rfl, rfl, rfl, trivial⟩))) ?_;rintro b7 ⟨p, a0, t, x⟩ h;simp only [dH] at h;refine aC (aC (aA (tm (.i p) (tm (.d (.sl 5 (C.map aJ))) (to (sle rfl iA.of) (to (scm rfl rfl rfl) (aB ?_)))))));refine tih h (fun g2 h => ?_) (fun g2 h => ?_)
   ·refine aV (aC (bA (aC (aA (tm (.d (.sl 5 (C.map aJ))) (tm (.i p) ?_))))));obtain ⟨n, g3, h⟩ := bns h;refine to (six rfl rfl iA.of (aW aJ g3)) (to (pH (aJ n) rfl lI) ?_);refine bC rfl (cP (zs := [.lit (.int .i64 0), .lit (.int .i64 0), .lit (.int .i64 0), .lit (.int .i64 0), .lit (.int .i64 0)]) (aD rfl) Try.zeroValue46 rfl rfl) ?_;rintro _ ⟨M, rfl⟩;refine to (sst 4 rfl rfl Try.sizeOf46 (aJ n)) (aB (aC (aC (aA (tfl 4 rfl rfl nQ rfl aP (to (scm rfl rfl rfl) (aB ?_)))))));refine tih h (fun g4 h => ?_) (fun g4 h => ?_)
    ·refine bT ?_;refine .inl ⟨rfl, ?_⟩;simp only [kY] at h;refine aA (tm (.i p) (to (sar rfl rfl rfl) (ta (.i (w64 (p + 1))) (aB ?_))));exact ⟨(w64 (p + 1), a0, t, x), h, aN [0, 1, 2, 3] rfl rfl (aI rfl (aM ⟨rfl, rfl, rfl, rfl, trivial⟩))⟩
    ·refine aV (aC (aC (aA (ta (.i 0) (aB (bA ?_))))));refine bR (S := Int × aR) [4, 6, 8, 13, 14, 15] (fun a1 => [(16, .i a1.1)]) (fun a1 => [.box b2 0 (cH a1.2), .fam 3 1 x (t.map fun r => r.map aK), .arr w9 22 1 (x.map fun v => [.lit v]), .box b6 0 [.sl 1 (e.map aK), .lit w9], .box M 0 (aJ n)]) (fun k a1 => iI (dH r3.1 C e b7) r3.1 C p t e n k a1.1 a1.2) (fun _ => rfl) (0, a0) h (aN [0, 1, 2, 3, 4] rfl rfl (aI rfl (aM ⟨rfl, rfl, rfl, rfl, rfl, rfl, trivial⟩))) ?_;rintro i3 ⟨E, H⟩ h;simp only [iI] at h;refine aC (aC (aA (tm (.i E) (tm (.i p) (to (scm rfl rfl rfl) (aB ?_))))));refine tih h (fun g5 h => ?_) (fun g5 h => ?_)
     ·refine aV (aC (bA (aC (aA (tm (.d (.sl 5 (C.map aJ))) (tm (.i E) ?_))))));obtain ⟨a2, g6, h⟩ := bns h;refine to (six rfl rfl iA.of (aW aJ g6)) (to (pH (aJ a2) rfl lI) ?_);refine bC rfl (cP (zs := [.lit (.int .i64 0), .lit (.int .i64 0), .lit (.int .i64 0), .lit (.int .i64 0), .lit (.int .i64 0)]) (aD rfl) Try.zeroValue46 rfl rfl) ?_;rintro _ ⟨g7, rfl⟩;refine to (sst 5 rfl rfl Try.sizeOf46 (aJ a2)) (aB (aC (aA (tfl 5 rfl rfl nQ rfl aP (to (scm rfl rfl rfl) (tm (.b (!decide (a2.Kind = 5))) ?_))))));obtain ⟨c9, a7, h⟩ := bns h;refine aZ 6 [4, 6, 8, 13, 14, 15, 16, 17] 121 c9 ?_ ?_
      ·refine bch a7 (fun F a7 => ?_) (fun F a7 => ?_)
       ·refine tkl 5 F rfl rfl oY rfl aP (tkl 4 F rfl rfl oY rfl aP (tk F (scm rfl rfl rfl) (to (spt (.b (decide (a2.Round = n.Round))) F) ?_)));obtain rfl := sIn a7;refine aB (aL rfl ⟨rfl, rfl, rfl, rfl, rfl, rfl, rfl, rfl, trivial⟩ rfl)
       ·refine tp F (tp F (tp F (tp F (tp F (to (spf (.b false) F) ?_)))));obtain rfl := sIn a7;refine aB (aL rfl ⟨rfl, rfl, rfl, rfl, rfl, rfl, rfl, rfl, trivial⟩ rfl)
      ·refine tm (.b c9) ?_;obtain ⟨g8, a8, h⟩ := bns h;refine aZ 6 [4, 6, 8, 13, 14, 15, 16] 128 g8 ?_ ?_
       ·refine bch a8 (fun G a8 => ?_) (fun G a8 => ?_)
        ·refine tkl 5 G rfl rfl kL rfl aP (tkl 4 G rfl rfl kL rfl aP (tk G (scm rfl rfl rfl) (to (spt (.b (decide (a2.Place = n.Place))) G) ?_)));obtain rfl := sIn a8;refine aB (aL rfl ⟨rfl, rfl, rfl, rfl, rfl, rfl, rfl, trivial⟩ rfl)
        ·refine tp G (tp G (tp G (tp G (tp G (to (spf (.b false) G) ?_)))));obtain rfl := sIn a8;refine aB (aL rfl ⟨rfl, rfl, rfl, rfl, rfl, rfl, rfl, trivial⟩ rfl)
       ·refine aB ?_;refine tih h (fun g9 h => ?_) (fun g9 h => ?_)
        ·refine aC (aA (to (eA (aD rfl) aGq (zs := [.sl 1 ((([] : List Int)).map aK), .sl 1 ((([] : List (List Int))).map oQ)]) rfl rfl rfl rfl (es := [.sl 1 ((([] : List Int)).map aK), .sl 1 ((([] : List (List Int))).map oQ)]) rfl) ?_));refine to (sst 0 rfl rfl Try.sizeOf87 (cH (aR.mk ([] : List Int) ([] : List (List Int))))) (ta (.b false) (aB ?_));obtain rfl := sIn h;exact aX ⟨rfl, _, [.box b2 0 (cH (aR.mk ([] : List Int) ([] : List (List Int)))), .fam 3 1 x (t.map fun r => r.map aK), .arr w9 22 1 (x.map fun v => [.lit v]), .box b6 0 [.sl 1 (e.map aK), .lit w9], .box M 0 (aJ n), .box g7 0 (aJ a2)], .two (.cell 4 87 rfl (i := 0) rfl aBq (es := (cH (aR.mk ([] : List Int) ([] : List (List Int))))) rfl rfl) (.tmp 5 (v := .b false) rfl), .refl _, .same _⟩
        ·refine cM ?_;refine aA (tm (.i E) (to (sar rfl rfl rfl) (ta (.i (w64 (E + 1))) (aB ?_))));exact ⟨(w64 (E + 1), H), h, aN [0, 1, 2, 3, 4] rfl rfl (aI rfl (aM ⟨rfl, rfl, rfl, rfl, rfl, rfl, trivial⟩))⟩
     ·refine bT ?_;refine .inl ⟨rfl, ?_⟩;simp only [pK] at h;refine aC (aA (ta (.i (-1)) (aB (aC (aC (aA (ta (.i 0) (aB (bA ?_)))))))));refine bR (S := Int × Int) [4, 6, 8, 13, 14, 15] (fun a3 => [(18, .i a3.1), (19, .i a3.2)]) (fun a3 => [.box b2 0 (cH H), .fam 3 1 x (t.map fun r => r.map aK), .arr w9 22 1 (x.map fun v => [.lit v]), .box b6 0 [.sl 1 (e.map aK), .lit w9], .box M 0 (aJ n)]) (fun k a3 => eI (dH r3.1 C e b7) r3.1 C p H t e n k a3.1 a3.2) (fun _ => rfl) ((-1), 0) h (aN [0, 1, 2, 3, 4] rfl rfl (aI rfl (aI rfl (aM ⟨rfl, rfl, rfl, rfl, rfl, rfl, trivial⟩)))) ?_;rintro i4 ⟨c, q⟩ h;simp only [eI] at h;refine aC (aC (aA (tm (.i q) (tm (.d (.sl 1 (r3.1.map aK))) (to (sle rfl bH.of) (to (scm rfl rfl rfl) (aB ?_)))))));refine tih h (fun h0 h => ?_) (fun h0 h => ?_)
      ·refine aV (aC (bA (aC ?_)));obtain ⟨b8, h1, h⟩ := bns h;refine cR mix 6 [4, 6, 8, 13, 14, 15, 18, 19] [(139, .i b8), (141, .i n.Player)] ?_ ?_
       ·refine ⟨[(136, 0, .d (.sl 1 (r3.1.map aK))), (137, 1, .i q), (138, 2, .cp [.lit (.int .i64 b8)]), (139, 3, .i b8), (140, 4, .bp M 0 3), (141, 5, .i n.Player)], ?_, ?_⟩
        · exact dok [([], []), ([], []), ([0, 1], []), ([2], []), ([], []), ([4], [])] ⟨go (zm (.d (.sl 1 (r3.1.map aK)))),
      go (zm (.i q)),
      go (zix rfl rfl bH.of (aW aK h1)),
      go (zlc rfl aP),
      go (zf rfl nR),
      go (zl 4 rfl rfl rfl aP), trivial⟩
        · exact cE (aI rfl (aI rfl (aM ⟨rfl, rfl, rfl, rfl, rfl, rfl, rfl, rfl, trivial⟩)))
       ·refine to (scm rfl rfl rfl) (aB ?_);refine tih h (fun h2 h => ?_) (fun h2 h => ?_)
        ·refine aA (tm (.i q) (ta (.i q) ?_));refine cQ ?_;refine aA (tm (.i q) (to (sar rfl rfl rfl) (ta (.i (w64 (q + 1))) (aB ?_))));exact ⟨(q, w64 (q + 1)), h, aN [0, 1, 2, 3, 4] rfl rfl (aI rfl (aI rfl (aM ⟨rfl, rfl, rfl, rfl, rfl, rfl, trivial⟩)))⟩
        ·refine cM ?_;refine aA (tm (.i q) (to (sar rfl rfl rfl) (ta (.i (w64 (q + 1))) (aB ?_))));exact ⟨(c, w64 (q + 1)), h, aN [0, 1, 2, 3, 4] rfl rfl (aI rfl (aI rfl (aM ⟨rfl, rfl, rfl, rfl, rfl, rfl, trivial⟩)))⟩
      ·refine bT ?_;refine .inl ⟨rfl, ?_⟩;simp only [iH] at h;refine aC (aC (aA (tm (.i c) (to (scm rfl rfl rfl) (tm (.b (decide (c < 0))) ?_)))));obtain ⟨h3, Y, h⟩ := bns h;refine aZ 10 [4, 6, 8, 13, 14, 15, 18] 156 h3 ?_ ?_
       ·refine bch Y (fun o Y => ?_) (fun o Y => ?_)
        ·refine tp o (tp o (tp o (tp o (tp o (tp o (tp o (tp o (tp o (to (spt (.b true) o) ?_)))))))));obtain rfl := sIn Y;refine aB (aL rfl ⟨rfl, rfl, rfl, rfl, rfl, rfl, rfl, trivial⟩ rfl)
        ·refine tk o (sm (.i c)) (tkl 4 o rfl rfl oY rfl aP (tk o (sar rfl rfl rfl) (tk o (pR (aD rfl) rfl Try.runUnderlying3 Try.runUnderlying106) ?_)));obtain ⟨h8, d1, Y⟩ := bns Y;refine tk o (zC (aD rfl) rfl rfl (aAs d1)) ?_;refine tkl 4 o rfl rfl kL rfl aP (tk o (scm rfl rfl rfl) (to (spf (.b (!decide ((c.fdiv (2 ^ (min (uw (w64 (n.Round + 1))).toNat 64))) = n.Place))) o) ?_));obtain rfl := sIn Y;refine aB (aL rfl ⟨rfl, rfl, rfl, rfl, rfl, rfl, rfl, trivial⟩ rfl)
       ·refine aB ?_;refine tih h (fun h5 h => ?_) (fun h5 h => ?_)
        ·refine aC (aA (to (eA (aD rfl) aGq (zs := [.sl 1 ((([] : List Int)).map aK), .sl 1 ((([] : List (List Int))).map oQ)]) rfl rfl rfl rfl (es := [.sl 1 ((([] : List Int)).map aK), .sl 1 ((([] : List (List Int))).map oQ)]) rfl) ?_));refine to (sst 0 rfl rfl Try.sizeOf87 (cH (aR.mk ([] : List Int) ([] : List (List Int))))) (ta (.b false) (aB ?_));obtain rfl := sIn h;exact aX ⟨rfl, _, [.box b2 0 (cH (aR.mk ([] : List Int) ([] : List (List Int)))), .fam 3 1 x (t.map fun r => r.map aK), .arr w9 22 1 (x.map fun v => [.lit v]), .box b6 0 [.sl 1 (e.map aK), .lit w9], .box M 0 (aJ n)], .two (.cell 4 87 rfl (i := 0) rfl aBq (es := (cH (aR.mk ([] : List Int) ([] : List (List Int))))) rfl rfl) (.tmp 5 (v := .b false) rfl), .refl _, .same _⟩
        ·refine aV (aC (aA (ta (.i 0) (aB ?_))));refine uF ?_;refine bR (S := Int × aR × (List (List Int)) × (List Value)) [4, 6, 8, 13, 14, 15, 18] (fun L => [(20, .i L.1)]) (fun L => [.box b2 0 (cH L.2.1), .fam 3 1 L.2.2.2 (L.2.2.1.map fun r => r.map aK), .arr w9 22 1 (L.2.2.2.map fun v => [.lit v]), .box b6 0 [.sl 1 (e.map aK), .lit w9], .box M 0 (aJ n)]) (fun k L => gZ (dH r3.1 C e b7) r3.1 C p c e n k L.1 L.2.1 L.2.2.1) (fun _ => rfl) (0, H, t, x) h (aN [0, 1, 2, 3, 4] rfl rfl (aI rfl (aM ⟨rfl, rfl, rfl, rfl, rfl, rfl, rfl, trivial⟩))) ?_;rintro i5 ⟨a, Z, I, y⟩ h;simp only [gZ] at h;refine aC (aC (aA (tm (.i a) (tfl 4 rfl rfl oY rfl aP (to (scm rfl rfl rfl) (aB ?_))))));refine tih h (fun h6 h => ?_) (fun h6 h => ?_)
         ·refine aV (aC (bA (aC (aA (tm (.i c) (tm (.i a) (to (sar rfl rfl rfl) (to (pR (aD rfl) rfl Try.runUnderlying3 Try.runUnderlying106) ?_))))))));obtain ⟨i6, h7, h⟩ := bns h;refine to (zC (aD rfl) rfl rfl (aAs h7)) ?_;refine ta (.i (c.fdiv (2 ^ (min (uw (w64 (a + 1))).toNat 64)))) (aB (aC (aC ?_)));obtain ⟨i7, P, h⟩ := bns h;obtain ⟨Q, b0, h⟩ := bns h;obtain ⟨d2, B, h⟩ := bns h;refine cR mix 22 [4, 6, 8, 13, 14, 15, 18, 20, 21] [(190, .b d2)] ?_ ?_
          ·refine bch B (fun l B => ?_) (fun l B => ?_)
           ·obtain ⟨h9, a4, B⟩ := bns B;obtain ⟨a5, b9, B⟩ := bns B;obtain rfl := sIn B;refine ⟨[(169, 0, .bp b6 0 1), (170, 1, .d (.lit w9)), (171, 2, .i a), (172, 3, .ep w9 1 a.toNat 0), (173, 4, .d (.lit (vD y a))), (174, 5, .i (c.fdiv (2 ^ (min (uw (w64 (a + 1))).toNat 64)))), (175, 6, .ep (vD y a) 1 (c.fdiv (2 ^ (min (uw (w64 (a + 1))).toNat 64))).toNat 0), (176, 7, .i Q), (177, 8, .b (!decide (Q = (-2)))), (178, 9, .b (!decide (Q = (-2)))), (179, 10, .bp b6 0 1), (180, 11, .d (.lit w9)), (181, 12, .i a), (182, 13, .ep w9 1 a.toNat 0), (183, 14, .d (.lit (vD y a))), (184, 15, .i (c.fdiv (2 ^ (min (uw (w64 (a + 1))).toNat 64)))), (185, 16, .ep (vD y a) 1 (c.fdiv (2 ^ (min (uw (w64 (a + 1))).toNat 64))).toNat 0), (186, 17, .i a5), (187, 18, .bp M 0 3), (188, 19, .i n.Player), (189, 20, .b (!decide (a5 = n.Player))), (190, 21, .b (!decide (a5 = n.Player)))], ?_, ?_⟩
            · exact dok [([], []), ([0], []), ([], []), ([1, 2], []), ([3], []), ([], []), ([4, 5], []), ([6], []), ([7], []), ([8], []), ([9], []), ([9, 10], []), ([9], []), ([9, 11, 12], []), ([9, 13], []), ([9], []), ([9, 14, 15], []), ([9, 16], []), ([9], []), ([9, 18], []), ([9, 17, 19], []), ([9, 20], [])] ⟨go (zf rfl xH),
      go (zl 3 rfl rfl rfl aFv),
      go (zm (.i a)),
      go fun S hS => wS (m := 2) (f := 1) (aD rfl) (aT hS rfl) rfl rfl (aT hS rfl) aGz.of P,
      go fun S hS => xR (m := 2) (f := 1) (aD rfl) (aT hS rfl) rfl rfl P cJ,
      go (zm (.i (c.fdiv (2 ^ (min (uw (w64 (a + 1))).toNat 64))))),
      go fun S hS => xQ (f := 1) (g := aK) (aD rfl) (aT hS rfl) rfl P (aT hS rfl) bH.of b0,
      go fun S hS => aDr (f := 1) (g := aK) (aD rfl) (aT hS rfl) rfl P b0 rfl aP,
      go (zcm rfl rfl rfl),
      go (zm (.b (!decide (Q = (-2))))),
      gt l (zf rfl xH),
      gt l (zl 3 rfl rfl rfl aFv),
      gt l (zm (.i a)),
      gt l fun S hS => wS (m := 2) (f := 1) (aD rfl) (aT hS rfl) rfl rfl (aT hS rfl) aGz.of a4,
      gt l fun S hS => xR (m := 2) (f := 1) (aD rfl) (aT hS rfl) rfl rfl a4 cJ,
      gt l (zm (.i (c.fdiv (2 ^ (min (uw (w64 (a + 1))).toNat 64))))),
      gt l fun S hS => xQ (f := 1) (g := aK) (aD rfl) (aT hS rfl) rfl a4 (aT hS rfl) bH.of b9,
      gt l fun S hS => aDr (f := 1) (g := aK) (aD rfl) (aT hS rfl) rfl a4 b9 rfl aP,
      gt l (zf rfl nR),
      gt l (zl 4 rfl rfl rfl aP),
      gt l (zcm rfl rfl rfl),
      go (zpt (.b (!decide (a5 = n.Player))) l), trivial⟩
            · exact cE (aI rfl (aM ⟨rfl, rfl, rfl, rfl, rfl, rfl, rfl, rfl, rfl, trivial⟩))
           ·obtain rfl := sIn B;refine ⟨[(169, 0, .bp b6 0 1), (170, 1, .d (.lit w9)), (171, 2, .i a), (172, 3, .ep w9 1 a.toNat 0), (173, 4, .d (.lit (vD y a))), (174, 5, .i (c.fdiv (2 ^ (min (uw (w64 (a + 1))).toNat 64)))), (175, 6, .ep (vD y a) 1 (c.fdiv (2 ^ (min (uw (w64 (a + 1))).toNat 64))).toNat 0), (176, 7, .i Q), (177, 8, .b (!decide (Q = (-2)))), (178, 9, .b (!decide (Q = (-2)))), (179, 10, .tup []), (180, 11, .tup []), (181, 12, .tup []), (182, 13, .tup []), (183, 14, .tup []), (184, 15, .tup []), (185, 16, .tup []), (186, 17, .tup []), (187, 18, .tup []), (188, 19, .tup []), (189, 20, .tup []), (190, 21, .b false)], ?_, ?_⟩
            · exact dok [([], []), ([0], []), ([], []), ([1, 2], []), ([3], []), ([], []), ([4, 5], []), ([6], []), ([7], []), ([8], []), ([9], []), ([9, 10], []), ([9], []), ([9, 11, 12], []), ([9, 13], []), ([9], []), ([9, 14, 15], []), ([9, 16], []), ([9], []), ([9, 18], []), ([9, 17, 19], []), ([9, 20], [])] ⟨go (zf rfl xH),
      go (zl 3 rfl rfl rfl aFv),
      go (zm (.i a)),
      go fun S hS => wS (m := 2) (f := 1) (aD rfl) (aT hS rfl) rfl rfl (aT hS rfl) aGz.of P,
      go fun S hS => xR (m := 2) (f := 1) (aD rfl) (aT hS rfl) rfl rfl P cJ,
      go (zm (.i (c.fdiv (2 ^ (min (uw (w64 (a + 1))).toNat 64))))),
      go fun S hS => xQ (f := 1) (g := aK) (aD rfl) (aT hS rfl) rfl P (aT hS rfl) bH.of b0,
      go fun S hS => aDr (f := 1) (g := aK) (aD rfl) (aT hS rfl) rfl P b0 rfl aP,
      go (zcm rfl rfl rfl),
      go (zm (.b (!decide (Q = (-2))))),
      gp l,
      gp l,
      gp l,
      gp l,
      gp l,
      gp l,
      gp l,
      gp l,
      gp l,
      gp l,
      gp l,
      go (zpf (.b false) l), trivial⟩
            · exact cE (aI rfl (aM ⟨rfl, rfl, rfl, rfl, rfl, rfl, rfl, rfl, rfl, trivial⟩))
          ·refine aB ?_;refine tih h (fun d3 h => ?_) (fun d3 h => ?_)
           ·refine aC (aA (to (eA (aD rfl) aGq (zs := [.sl 1 ((([] : List Int)).map aK), .sl 1 ((([] : List (List Int))).map oQ)]) rfl rfl rfl rfl (es := [.sl 1 ((([] : List Int)).map aK), .sl 1 ((([] : List (List Int))).map oQ)]) rfl) ?_));refine to (sst 0 rfl rfl Try.sizeOf87 (cH (aR.mk ([] : List Int) ([] : List (List Int))))) (ta (.b false) (aB ?_));obtain rfl := sIn h;exact aX ⟨rfl, _, [.box b2 0 (cH (aR.mk ([] : List Int) ([] : List (List Int)))), .fam 3 1 y (I.map fun r => r.map aK), .arr w9 22 1 (y.map fun v => [.lit v]), .box b6 0 [.sl 1 (e.map aK), .lit w9], .box M 0 (aJ n)], .two (.cell 4 87 rfl (i := 0) rfl aBq (es := (cH (aR.mk ([] : List Int) ([] : List (List Int))))) rfl rfl) (.tmp 5 (v := .b false) rfl), .refl _, .same _⟩
           ·refine aV ?_;obtain ⟨c0, a6, h⟩ := bns h;refine cR mix 8 [4, 6, 8, 13, 14, 15, 18, 20] [(196, .d (.lit (vD y a))), (197, .i (c.fdiv (2 ^ (min (uw (w64 (a + 1))).toNat 64)))), (199, .i n.Player)] ?_ ?_
            ·refine ⟨[(192, 0, .bp b6 0 1), (193, 1, .d (.lit w9)), (194, 2, .i a), (195, 3, .ep w9 1 a.toNat 0), (196, 4, .d (.lit (vD y a))), (197, 5, .i (c.fdiv (2 ^ (min (uw (w64 (a + 1))).toNat 64)))), (198, 6, .bp M 0 3), (199, 7, .i n.Player)], ?_, ?_⟩
             · exact dok [([], []), ([0], []), ([], []), ([1, 2], []), ([3], []), ([], []), ([], []), ([6], [])] ⟨go (zf rfl xH),
      go (zl 3 rfl rfl rfl aFv),
      go (zm (.i a)),
      go fun S hS => wS (m := 2) (f := 1) (aD rfl) (aT hS rfl) rfl rfl (aT hS rfl) aGz.of a6,
      go fun S hS => xR (m := 2) (f := 1) (aD rfl) (aT hS rfl) rfl rfl a6 cJ,
      go (zm (.i (c.fdiv (2 ^ (min (uw (w64 (a + 1))).toNat 64))))),
      go (zf rfl nR),
      go (zl 4 rfl rfl rfl aP), trivial⟩
             · exact cE (aI rfl (aI rfl (aI rfl (aM ⟨rfl, rfl, rfl, rfl, rfl, rfl, rfl, rfl, trivial⟩))))
            ·obtain ⟨i0, c1, h⟩ := bns h;refine to (xQ (f := 1) (g := aK) (aD rfl) rfl rfl a6 rfl bH.of c1) ?_;refine to (aPv (f := 1) (g := aK) rfl rfl a6 c1 rfl rfl rfl Try.sizeOf3 rfl (aD rfl) (Nat.le_of_ble_eq_true rfl) (a' := n.Player) rfl (c' := (I.set a.toNat (c0.set (c.fdiv (2 ^ (min (uw (w64 (a + 1))).toNat 64))).toNat n.Player))) rfl) ?_;refine cQ ?_;refine aA (tm (.i a) (to (sar rfl rfl rfl) (ta (.i (w64 (a + 1))) (aB ?_))));exact ⟨(w64 (a + 1), Z, (I.set a.toNat (c0.set (c.fdiv (2 ^ (min (uw (w64 (a + 1))).toNat 64))).toNat n.Player)), y), h, aN [0, 1, 2, 3, 4] rfl rfl (aI rfl (aM ⟨rfl, rfl, rfl, rfl, rfl, rfl, rfl, trivial⟩))⟩
         ·refine bT ?_;refine .inl ⟨rfl, ?_⟩;simp only [sM] at h;simp only [kY] at h;refine aA (tm (.i p) (to (sar rfl rfl rfl) (ta (.i (w64 (p + 1))) (aB ?_))));exact ⟨(w64 (p + 1), Z, I, y), h, aN [0, 1, 2, 3] rfl rfl (aI rfl (aM ⟨rfl, rfl, rfl, rfl, trivial⟩))⟩
   ·refine bT ?_;refine .inl ⟨rfl, ?_⟩;simp only [tA] at h;refine aC (aA (to (sla 3 [.sl 1 (e.map aK), .lit w9] rfl rfl aBq) (to (sst 0 rfl rfl Try.sizeOf87 [.sl 1 (e.map aK), .lit w9]) (ta (.b true) (aB ?_)))));obtain rfl := sIn h;exact aX ⟨rfl, _, [.box b2 0 [.sl 1 (e.map aK), .lit w9], .fam 3 1 x (t.map fun r => r.map aK), .arr w9 22 1 (x.map fun v => [.lit v]), .box b6 0 [.sl 1 (e.map aK), .lit w9]], .two (.cell 4 87 rfl (i := 0) rfl aBq (es := [.sl 1 (e.map aK), .lit w9]) rfl rfl) (.tmp 5 (v := .b true) rfl), .refl _, aEr (.cons (.agg (dvc (.same _) (dvc (aXm 2 1 rfl rfl (h := oQ) (fun _ => rfl)) dvn))) (.cons (.same _) .nil))⟩

theorem aEv (c : aU) (e : List aF) {r : Int} (h : fI c e = some r) : Fn Try.prog 25 [.agg (bD c), .d (.sl 5 (e.map aJ))] (.i r) := by
 unfold fI at h;refine Fn.of_tr Try.func25 rfl (rs := [.tmp 4]) Try.results25 Try.ntmps25 (Nat.le_of_ble_eq_true rfl) ?_;refine aC (aA ?_);refine bC rfl (eL (v := .agg (bD c)) (aD rfl) rfl rfl rfl) ?_;rintro _ ⟨b1, rfl⟩;refine ta (.i 0) (aB (aC (aC (aA (to (sla 0 (bD c) rfl rfl mA) ?_)))));obtain ⟨r2, h3, h⟩ := bns h;refine to (scr Try.call38 (aEj _ h3)) (to (sn rfl) (aB ?_));refine tih h (fun c4 h => ?_) (fun c4 h => ?_)
 ·refine aC (aA (ta (.i 70) (aB ?_)));obtain rfl := sIn h;refine bM (bG (bI (l := [4]) ⟨rfl, trivial⟩)) ?_;exact aX ⟨rfl, _, .one _, rfl, rfl⟩
 ·refine aV (aC (aC (aA (tm (.d (.sl 5 (e.map aJ))) (to (sle rfl iA.of) (to (scm rfl rfl rfl) (aB ?_)))))));refine tih h (fun c5 h => ?_) (fun c5 h => ?_)
  ·refine aC (aA (ta (.i 71) (aB ?_)));obtain rfl := sIn h;refine bM (bG (bI (l := [4]) ⟨rfl, trivial⟩)) ?_;exact aX ⟨rfl, _, .one _, rfl, rfl⟩
  ·refine aV (aC (aC (aA (ta (.i 0) (aB (bA ?_))))));refine bR (S := Int) [1, 2] (fun s6 => [(5, .i s6)]) (fun s6 => [.box b1 0 (bD c)]) (fun k s6 => gY e c k s6) (fun _ => rfl) (0) h (aN [0] rfl rfl (aI rfl (aM ⟨rfl, rfl, trivial⟩))) ?_;rintro k7 a h;simp only [gY] at h;refine aC (aC (aA (tm (.i a) (tm (.d (.sl 5 (e.map aJ))) (to (sle rfl iA.of) (to (scm rfl rfl rfl) (aB ?_)))))));refine tih h (fun c8 h => ?_) (fun c8 h => ?_)
   ·refine aV (aC (bA (aC ?_)));obtain ⟨x9, g, h⟩ := bns h;refine cR mix 5 [1, 2, 5] [(20, .agg (bD c)), (24, .agg (aJ x9))] ?_ ?_
    ·refine ⟨[(20, 0, .agg (bD c)), (21, 1, .d (.sl 5 (e.map aJ))), (22, 2, .i a), (23, 3, .cp [.lit (.int .i64 x9.Kind), .lit (.int .i64 x9.Round), .lit (.int .i64 x9.Place), .lit (.int .i64 x9.Player), .lit (.int .i64 x9.Old)]), (24, 4, .agg (aJ x9))], ?_, ?_⟩
     · exact dok [([], []), ([], []), ([], []), ([1, 2], []), ([3], [])] ⟨go (zla 0 (bD c) rfl rfl mA),
      go (zm (.d (.sl 5 (e.map aJ)))),
      go (zm (.i a)),
      go (zix rfl rfl iA.of (aW aJ g)),
      go (aVt (aJ x9) rfl lI), trivial⟩
     · exact cE (aI rfl (aI rfl (aM ⟨rfl, rfl, rfl, trivial⟩)))
    ·obtain ⟨p, j, h⟩ := bns h;refine to (scr Try.call39 (aEk _ _ j)) (to (sn rfl) (aB ?_));refine tih h (fun m h => ?_) (fun m h => ?_)
     ·refine aC (aA (ta (.i 71) (aB ?_)));obtain rfl := sIn h;refine bM (bG (bI (l := [4]) ⟨rfl, trivial⟩)) ?_;exact aX ⟨rfl, _, .one _, rfl, rfl⟩
     ·refine cM ?_;refine aA (tm (.i a) (to (sar rfl rfl rfl) (ta (.i (w64 (a + 1))) (aB ?_))));exact ⟨(w64 (a + 1)), h, aN [0] rfl rfl (aI rfl (aM ⟨rfl, rfl, trivial⟩))⟩
   ·refine bT ?_;refine .inl ⟨rfl, ?_⟩;simp only [jV] at h;refine aC (aC (aA (to (sla 0 (bD c) rfl rfl mA) (tm (.d (.sl 5 (e.map aJ))) ?_))));obtain ⟨f, n, h⟩ := bns h;refine to (gH (aD rfl) (.func _ _ Try.call40) rfl rfl (aHf _ _ n)) ?_;refine tm (.tup [.agg (cH f.1), .b f.2]) (to (sex rfl rfl) (to (sex rfl rfl) ?_));refine bC rfl (cP (zs := [.sl 1 ((([] : List Int)).map aK), .sl 1 ((([] : List (List Int))).map oQ)]) (aD rfl) Try.zeroValue87 rfl rfl) ?_;rintro _ ⟨q, rfl⟩;refine to (sst 1 rfl rfl Try.sizeOf87 (cH f.1)) (ta (.b f.2) (aB (aC (aA (tm (.b f.2) (to (sn rfl) (aB ?_)))))));refine tih h (fun o h => ?_) (fun o h => ?_)
    ·refine aC (aA (ta (.i 72) (aB ?_)));obtain rfl := sIn h;refine bM (bG (bI (l := [4]) ⟨rfl, trivial⟩)) ?_;exact aX ⟨rfl, _, .one _, rfl, rfl⟩
    ·refine aV (aC (aA (ta (.i 0) (aB ?_))));obtain rfl := sIn h;refine bM (bG (bI (l := [4]) ⟨rfl, trivial⟩)) ?_;exact aX ⟨rfl, _, .one _, rfl, rfl⟩

theorem dZ (d : Int) (c : Int) (a : Int) {r : Bool} (h : dR d c a = some r) : Fn Try.prog 26 [.i d, .i c, .i a] (.b r) := by
 unfold dR at h;refine Fn.of_tr Try.func26 rfl (rs := [.tmp 6]) Try.results26 Try.ntmps26 (Nat.le_of_ble_eq_true rfl) ?_;refine aC (aA (ta (.b false) (aB (aC (aA (tm (.i d) (tm (.i c) (to (scm rfl rfl rfl) (tm (.b (decide (c ≤ d))) ?_)))))))));obtain ⟨b1, h2, h⟩ := bns h;refine aZ 4 [] 14 b1 ?_ ?_
 ·refine bch h2 (fun c3 h2 => ?_) (fun c3 h2 => ?_)
  ·refine tk c3 (sm (.i d)) (tk c3 (sm (.i a)) (tk c3 (scm rfl rfl rfl) (to (spt (.b (decide (d ≤ a))) c3) ?_)));obtain rfl := sIn h2;refine aB (aL rfl trivial rfl)
  ·refine tp c3 (tp c3 (tp c3 (to (spf (.b false) c3) ?_)));obtain rfl := sIn h2;refine aB (aL rfl trivial rfl)
 ·refine ta (.b b1) (aB ?_);obtain rfl := sIn h;exact aX ⟨rfl, _, .one _, rfl, rfl⟩

theorem wG (d : aQ) (a : Int) {r : Bool} (h : lB d a = some r) : Fn Try.prog 41 [.agg (aS d), .i a] (.b r) := by
 unfold lB at h;refine Fn.of_tr Try.func41 rfl (rs := [.tmp 4]) Try.results41 Try.ntmps41 (Nat.le_of_ble_eq_true rfl) ?_;refine aC (aA ?_);refine bC rfl (eL (v := .agg (aS d)) (aD rfl) rfl rfl rfl) ?_;rintro _ ⟨b1, rfl⟩;refine ta (.b false) (aB (aC (aC (aA (ta (.i 0) (aB (bA ?_)))))));refine bR (S := Int) [1, 2] (fun s2 => [(5, .i s2)]) (fun s2 => [.box b1 0 (aS d)]) (fun k s2 => iD a d k s2) (fun _ => rfl) (0) h (aN [0] rfl rfl (aI rfl (aM ⟨rfl, rfl, trivial⟩))) ?_;rintro k3 c h;simp only [iD] at h;refine aC (aC (aA (tm (.i c) (tfl 0 rfl rfl jH rfl nI (to (sle rfl mW.of) (to (scm rfl rfl rfl) (aB ?_)))))));refine tih h (fun c4 h => ?_) (fun c4 h => ?_)
 ·refine aV (aC (bA (aC (aA (tfl 0 rfl rfl jH rfl nI (tm (.i c) ?_))))));obtain ⟨x5, h6, h⟩ := bns h;refine to (six rfl rfl mW.of (aW bP h6)) (to (sfc [.lit (.int .i64 x5.Player)] rfl vI) (to (slc rfl aP) (tm (.i a) (to (scm rfl rfl rfl) (aB ?_)))));refine tih h (fun c7 h => ?_) (fun c7 h => ?_)
  ·refine aC (aA (ta (.b true) (aB ?_)));obtain rfl := sIn h;refine bM (bG (bI (l := [4]) ⟨rfl, trivial⟩)) ?_;exact aX ⟨rfl, _, .one _, rfl, rfl⟩
  ·refine cM ?_;refine aA (tm (.i c) (to (sar rfl rfl rfl) (ta (.i (w64 (c + 1))) (aB ?_))));exact ⟨(w64 (c + 1)), h, aN [0] rfl rfl (aI rfl (aM ⟨rfl, rfl, trivial⟩))⟩
 ·refine bT ?_;refine .inl ⟨rfl, ?_⟩;simp only [vU] at h;refine aC (aA (ta (.b false) (aB ?_)));obtain rfl := sIn h;refine bM (bG (bI (l := [4]) ⟨rfl, trivial⟩)) ?_;exact aX ⟨rfl, _, .one _, rfl, rfl⟩

theorem aBx (a : aQ) {r : Bool} (h : jW a = some r) : Fn Try.prog 27 [.agg (aS a)] (.b r) := by
 unfold jW at h;refine Fn.of_tr Try.func27 rfl (rs := [.tmp 2]) Try.results27 Try.ntmps27 (Nat.le_of_ble_eq_true rfl) ?_;refine aC (aA ?_);refine bC rfl (eL (v := .agg (aS a)) (aD rfl) rfl rfl rfl) ?_;rintro _ ⟨b1, rfl⟩;refine ta (.b false) (aB (aC (aC (aA (ta (.i 0) (aB (bA ?_)))))));refine bR (S := Int) [1] (fun s2 => [(3, .i s2)]) (fun s2 => [.box b1 0 (aS a)]) (fun k s2 => fQ a k s2) (fun _ => rfl) (0) h (aN [0] rfl rfl (aI rfl (aM ⟨rfl, trivial⟩))) ?_;rintro k3 o h;simp only [fQ] at h;refine aC (aC (aA (tm (.i o) (tfl 0 rfl rfl jH rfl nI (to (sle rfl mW.of) (to (scm rfl rfl rfl) (aB ?_)))))));refine tih h (fun c4 h => ?_) (fun c4 h => ?_)
 ·refine aV (aC (bA (aC (aA (tfl 0 rfl rfl jH rfl nI (tm (.i o) ?_))))));obtain ⟨x5, h6, h⟩ := bns h;refine to (six rfl rfl mW.of (aW bP h6)) (to (pH (bP x5) rfl wA) ?_);refine bC rfl (cP (zs := [.lit (.int .i64 0), .lit (.int .i64 0), .lit (.int .i64 0)]) (aD rfl) Try.zeroValue63 rfl rfl) ?_;rintro _ ⟨b7, rfl⟩;refine to (sst 1 rfl rfl Try.sizeOf63 (bP x5)) (aB (aC (aC (aA (tfl 1 rfl rfl vI rfl aP ?_)))));obtain ⟨r8, h9, h⟩ := bns h;refine to (scr Try.call26 (dZ _ _ _ h9)) (to (sn rfl) (tm (.b (!r8)) ?_));obtain ⟨T, C, h⟩ := bns h;refine aZ 5 [1, 3, 4] 30 T ?_ ?_
  ·refine bch C (fun w C => ?_) (fun w C => ?_)
   ·refine tp w (tp w (tp w (tp w (to (spt (.b true) w) ?_))));obtain rfl := sIn C;refine aB (aL rfl ⟨rfl, rfl, rfl, trivial⟩ rfl)
   ·refine tkl 1 w rfl rfl oZ rfl aP ?_;obtain ⟨a2, a3, C⟩ := bns C;refine tk w (scr Try.call26 (dZ _ _ _ a3)) (tk w (sn rfl) (to (spf (.b (!a2)) w) ?_));obtain rfl := sIn C;refine aB (aL rfl ⟨rfl, rfl, rfl, trivial⟩ rfl)
  ·refine tm (.b T) ?_;obtain ⟨U, E, h⟩ := bns h;refine aZ 5 [1, 3, 4] 36 U ?_ ?_
   ·refine bch E (fun x E => ?_) (fun x E => ?_)
    ·refine tp x (tp x (tp x (tp x (to (spt (.b true) x) ?_))));obtain rfl := sIn E;refine aB (aL rfl ⟨rfl, rfl, rfl, trivial⟩ rfl)
    ·refine tkl 1 x rfl rfl kM rfl aP ?_;obtain ⟨a4, a5, E⟩ := bns E;refine tk x (scr Try.call26 (dZ _ _ _ a5)) (tk x (sn rfl) (to (spf (.b (!a4)) x) ?_));obtain rfl := sIn E;refine aB (aL rfl ⟨rfl, rfl, rfl, trivial⟩ rfl)
   ·refine tm (.b U) ?_;obtain ⟨a6, I, h⟩ := bns h;refine aZ 6 [1, 3, 4] 43 a6 ?_ ?_
    ·refine bch I (fun p I => ?_) (fun p I => ?_)
     ·refine tp p (tp p (tp p (tp p (tp p (to (spt (.b true) p) ?_)))));obtain rfl := sIn I;refine aB (aL rfl ⟨rfl, rfl, rfl, trivial⟩ rfl)
     ·refine tkl 1 p rfl rfl oZ rfl aP (tkl 1 p rfl rfl kM rfl aP (tk p (scm rfl rfl rfl) (to (spf (.b (decide (x5.One = x5.Two))) p) ?_)));obtain rfl := sIn I;refine aB (aL rfl ⟨rfl, rfl, rfl, trivial⟩ rfl)
    ·refine aB ?_;refine tih h (fun a7 h => ?_) (fun a7 h => ?_)
     ·refine aC (aA (ta (.b false) (aB ?_)));obtain rfl := sIn h;refine bM (bG (bI (l := [2]) ⟨rfl, trivial⟩)) ?_;exact aX ⟨rfl, _, .one _, rfl, rfl⟩
     ·refine aV (aC (aA (ta (.i 0) (aB ?_))));refine uF ?_;refine bR (S := Int) [1, 3, 4] (fun M => [(5, .i M)]) (fun M => [.box b1 0 (aS a), .box b7 0 (bP x5)]) (fun k M => fR (fQ a k3) o a x5 k M) (fun _ => rfl) (0) h (aN [0, 1] rfl rfl (aI rfl (aM ⟨rfl, rfl, rfl, trivial⟩))) ?_;rintro c5 q h;simp only [fR] at h;refine aC (aC (aA (tm (.i q) (tm (.i o) (to (scm rfl rfl rfl) (aB ?_))))));refine tih h (fun a8 h => ?_) (fun a8 h => ?_)
      ·refine aV (aC (bA (aC (aA (tfl 0 rfl rfl jH rfl nI (tm (.i q) ?_))))));obtain ⟨F, a9, h⟩ := bns h;refine to (six rfl rfl mW.of (aW bP a9)) (to (pH (bP F) rfl wA) ?_);refine bC rfl (cP (zs := [.lit (.int .i64 0), .lit (.int .i64 0), .lit (.int .i64 0)]) (aD rfl) Try.zeroValue63 rfl rfl) ?_;rintro _ ⟨c6, rfl⟩;refine to (sst 2 rfl rfl Try.sizeOf63 (bP F)) (aB (aC (aA (tfl 2 rfl rfl vI rfl aP (tfl 1 rfl rfl vI rfl aP (to (scm rfl rfl rfl) (tm (.b (decide (F.Player = x5.Player))) ?_)))))));obtain ⟨V, J, h⟩ := bns h;refine aZ 6 [1, 3, 4, 5, 6] 65 V ?_ ?_
       ·refine bch J (fun s J => ?_) (fun s J => ?_)
        ·refine tp s (tp s (tp s (tp s (tp s (to (spt (.b true) s) ?_)))));obtain rfl := sIn J;refine aB (aL rfl ⟨rfl, rfl, rfl, rfl, rfl, trivial⟩ rfl)
        ·refine tkl 2 s rfl rfl oZ rfl aP (tkl 1 s rfl rfl oZ rfl aP (tk s (scm rfl rfl rfl) (to (spf (.b (decide (F.One = x5.One))) s) ?_)));obtain rfl := sIn J;refine aB (aL rfl ⟨rfl, rfl, rfl, rfl, rfl, trivial⟩ rfl)
       ·refine tm (.b V) ?_;obtain ⟨W, K, h⟩ := bns h;refine aZ 6 [1, 3, 4, 5, 6] 72 W ?_ ?_
        ·refine bch K (fun t K => ?_) (fun t K => ?_)
         ·refine tp t (tp t (tp t (tp t (tp t (to (spt (.b true) t) ?_)))));obtain rfl := sIn K;refine aB (aL rfl ⟨rfl, rfl, rfl, rfl, rfl, trivial⟩ rfl)
         ·refine tkl 2 t rfl rfl kM rfl aP (tkl 1 t rfl rfl oZ rfl aP (tk t (scm rfl rfl rfl) (to (spf (.b (decide (F.Two = x5.One))) t) ?_)));obtain rfl := sIn K;refine aB (aL rfl ⟨rfl, rfl, rfl, rfl, rfl, trivial⟩ rfl)
        ·refine tm (.b W) ?_;obtain ⟨b0, G, h⟩ := bns h;refine aZ 18 [1, 3, 4, 5] 91 b0 ?_ ?_
         ·refine bch G (fun n G => ?_) (fun n G => ?_)
          ·refine tp n (tp n (tp n (tp n (tq (tq (tq (tq (tq (tq (tq (tq (tq (tq ?_)))))))))))));refine tq (tq (tp n (to (spt (.b true) n) ?_)));obtain rfl := sIn G;refine aB (aL rfl ⟨rfl, rfl, rfl, rfl, trivial⟩ rfl)
          ·refine tkl 1 n rfl rfl kM rfl aP (tk n (scm rfl rfl rfl) (tk n (sm (.b (decide (0 ≤ x5.Two)))) ?_));obtain ⟨X, H, G⟩ := bns G;refine aZ 13 [1, 3, 4, 5, 73, 74, 75, 76, 77] 90 X ?_ ?_
           ·refine bch H (fun m H => ?_) (fun m H => ?_)
            ·refine tkl 2 m rfl rfl oZ rfl aP (tkl 1 m rfl rfl kM rfl aP (tk m (scm rfl rfl rfl) (tk m (sm (.b (decide (F.One = x5.Two)))) ?_)));obtain ⟨Y, L, H⟩ := bns H;refine aZ 6 [1, 3, 4, 5, 73, 74, 75, 76, 77, 78, 79, 80, 81, 82, 83] 89 Y ?_ ?_
             ·refine bch L (fun u L => ?_) (fun u L => ?_)
              ·refine tp u (tp u (tp u (tp u (tp u (tk m (spt (.b true) u) ?_)))));obtain rfl := sIn L;refine aB (aL rfl ⟨rfl, rfl, rfl, rfl, rfl, rfl, rfl, rfl, rfl, rfl, rfl, rfl, rfl, rfl, rfl, trivial⟩ rfl)
              ·refine tkl 2 u rfl rfl kM rfl aP (tkl 1 u rfl rfl kM rfl aP (tk u (scm rfl rfl rfl) (tk m (spf (.b (decide (F.Two = x5.Two))) u) ?_)));obtain rfl := sIn L;refine aB (aL rfl ⟨rfl, rfl, rfl, rfl, rfl, rfl, rfl, rfl, rfl, rfl, rfl, rfl, rfl, rfl, rfl, trivial⟩ rfl)
             ·refine tk n (spt (.b Y) m) ?_;obtain rfl := sIn H;refine aB (aL rfl ⟨rfl, rfl, rfl, rfl, rfl, rfl, rfl, rfl, rfl, trivial⟩ rfl)
            ·refine tp m (tp m (tp m (tp m (tp m (tp m (tq (tq (tq (tq (tq (tp m (tk n (spf (.b false) m) ?_))))))))))));obtain rfl := sIn H;refine aB (aL rfl ⟨rfl, rfl, rfl, rfl, rfl, rfl, rfl, rfl, rfl, trivial⟩ rfl)
           ·refine to (spf (.b X) n) ?_;obtain rfl := sIn G;refine aB (aL rfl ⟨rfl, rfl, rfl, rfl, trivial⟩ rfl)
         ·refine aB ?_;refine tih h (fun b2 h => ?_) (fun b2 h => ?_)
          ·refine aC (aA (ta (.b false) (aB ?_)));obtain rfl := sIn h;refine bM (bG (bI (l := [2]) ⟨rfl, trivial⟩)) ?_;exact aX ⟨rfl, _, .one _, rfl, rfl⟩
          ·refine cM ?_;refine aA (tm (.i q) (to (sar rfl rfl rfl) (ta (.i (w64 (q + 1))) (aB ?_))));exact ⟨(w64 (q + 1)), h, aN [0, 1] rfl rfl (aI rfl (aM ⟨rfl, rfl, rfl, trivial⟩))⟩
      ·refine bT ?_;refine .inl ⟨rfl, ?_⟩;simp only [qF] at h;simp only [qE] at h;refine aA (tm (.i o) (to (sar rfl rfl rfl) (ta (.i (w64 (o + 1))) (aB ?_))));exact ⟨(w64 (o + 1)), h, aN [0] rfl rfl (aI rfl (aM ⟨rfl, trivial⟩))⟩
 ·refine bT ?_;refine .inl ⟨rfl, ?_⟩;simp only [jZ] at h;refine aC (aC (aA (ta (.i 0) (aB (bA ?_)))));refine bR (S := Int) [1] (fun N => [(7, .i N)]) (fun N => [.box b1 0 (aS a)]) (fun k N => gS a k N) (fun _ => rfl) (0) h (aN [0] rfl rfl (aI rfl (aM ⟨rfl, trivial⟩))) ?_;rintro c7 e h;simp only [gS] at h;refine aC (aC (aA (tm (.i e) (to (sf rfl kK) (tfl 0 rfl rfl eC rfl cJ (to (sle rfl bH.of) (to (scm rfl rfl rfl) (aB ?_))))))));refine tih h (fun b3 h => ?_) (fun b3 h => ?_)
  ·refine aV (aC (bA (aC ?_)));obtain ⟨y, Z, h⟩ := bns h;obtain ⟨b4, z, h⟩ := bns h;refine cR mix 18 [1, 7] [(117, .b b4)] ?_ ?_
   ·refine bch z (fun f z => ?_) (fun f z => ?_)
    ·obtain ⟨a0, b5, z⟩ := bns z;obtain ⟨O, b6, z⟩ := bns z;obtain rfl := sIn z;refine ⟨[(100, 0, .bp b1 0 0), (101, 1, .bp b1 0 1), (102, 2, .d (.sl 1 (a.Tree.Slots.map aK))), (103, 3, .i e), (104, 4, .cp [.lit (.int .i64 y)]), (105, 5, .i y), (106, 6, .b (!decide (y = (-1)))), (107, 7, .b (!decide (y = (-1)))), (108, 8, .agg (aS a)), (109, 9, .bp b1 0 0), (110, 10, .bp b1 0 1), (111, 11, .d (.sl 1 (a.Tree.Slots.map aK))), (112, 12, .i e), (113, 13, .cp [.lit (.int .i64 a0)]), (114, 14, .i a0), (115, 15, .b O), (116, 16, .b (!O)), (117, 17, .b (!O))], ?_, ?_⟩
     · exact dok [([], []), ([0], []), ([1], []), ([], []), ([2, 3], []), ([4], []), ([5], []), ([6], []), ([7], []), ([7], []), ([7, 9], []), ([7, 10], []), ([7], []), ([7, 11, 12], []), ([7, 13], []), ([7, 8, 14], []), ([7, 15], []), ([7, 16], [])] ⟨go (zf rfl kK),
      go (zf rfl eC),
      go (zl 0 rfl rfl rfl cJ),
      go (zm (.i e)),
      go (zix rfl rfl bH.of (aW aK Z)),
      go (zlc rfl aP),
      go (zcm rfl rfl rfl),
      go (zm (.b (!decide (y = (-1))))),
      gt f (zla 0 (aS a) rfl rfl fC),
      gt f (zf rfl kK),
      gt f (zf rfl eC),
      gt f (zl 0 rfl rfl rfl cJ),
      gt f (zm (.i e)),
      gt f (zix rfl rfl bH.of (aW aK b5)),
      gt f (zlc rfl aP),
      gt f fun S hS => gC (aD rfl) (.func _ _ Try.call41) (ev2 (aT hS rfl) (ev2 (aT hS rfl) evn)) rfl (BVs.refl _ _) (wG _ _ b6) rfl,
      gt f (zn rfl),
      go (zpt (.b (!O)) f), trivial⟩
     · exact cE (aI rfl (aM ⟨rfl, rfl, trivial⟩))
    ·obtain rfl := sIn z;refine ⟨[(100, 0, .bp b1 0 0), (101, 1, .bp b1 0 1), (102, 2, .d (.sl 1 (a.Tree.Slots.map aK))), (103, 3, .i e), (104, 4, .cp [.lit (.int .i64 y)]), (105, 5, .i y), (106, 6, .b (!decide (y = (-1)))), (107, 7, .b (!decide (y = (-1)))), (108, 8, .tup []), (109, 9, .tup []), (110, 10, .tup []), (111, 11, .tup []), (112, 12, .tup []), (113, 13, .tup []), (114, 14, .tup []), (115, 15, .tup []), (116, 16, .tup []), (117, 17, .b false)], ?_, ?_⟩
     · exact dok [([], []), ([0], []), ([1], []), ([], []), ([2, 3], []), ([4], []), ([5], []), ([6], []), ([7], []), ([7], []), ([7, 9], []), ([7, 10], []), ([7], []), ([7, 11, 12], []), ([7, 13], []), ([7, 8, 14], []), ([7, 15], []), ([7, 16], [])] ⟨go (zf rfl kK),
      go (zf rfl eC),
      go (zl 0 rfl rfl rfl cJ),
      go (zm (.i e)),
      go (zix rfl rfl bH.of (aW aK Z)),
      go (zlc rfl aP),
      go (zcm rfl rfl rfl),
      go (zm (.b (!decide (y = (-1))))),
      gp f,
      gp f,
      gp f,
      gp f,
      gp f,
      gp f,
      gp f,
      gp f,
      gp f,
      go (zpf (.b false) f), trivial⟩
     · exact cE (aI rfl (aM ⟨rfl, rfl, trivial⟩))
   ·refine aB ?_;refine tih h (fun b8 h => ?_) (fun b8 h => ?_)
    ·refine aC (aA (ta (.b false) (aB ?_)));obtain rfl := sIn h;refine bM (bG (bI (l := [2]) ⟨rfl, trivial⟩)) ?_;exact aX ⟨rfl, _, .one _, rfl, rfl⟩
    ·refine cM ?_;refine aA (tm (.i e) (to (sar rfl rfl rfl) (ta (.i (w64 (e + 1))) (aB ?_))));exact ⟨(w64 (e + 1)), h, aN [0] rfl rfl (aI rfl (aM ⟨rfl, trivial⟩))⟩
  ·refine bT ?_;refine .inl ⟨rfl, ?_⟩;simp only [kA] at h;refine aC (aC (aA (ta (.i 0) (aB (bA ?_)))));refine bR (S := Int) [1] (fun P => [(8, .i P)]) (fun P => [.box b1 0 (aS a)]) (fun k P => gT a k P) (fun _ => rfl) (0) h (aN [0] rfl rfl (aI rfl (aM ⟨rfl, trivial⟩))) ?_;rintro c8 g h;simp only [gT] at h;refine aC (aC (aA (tm (.i g) (tfl 0 rfl rfl rS rfl wJ (to (sle rfl iA.of) (to (scm rfl rfl rfl) (aB ?_)))))));refine tih h (fun b9 h => ?_) (fun b9 h => ?_)
   ·refine aV (aC (bA (aC ?_)));obtain ⟨c, a1, h⟩ := bns h;obtain ⟨c0, A, h⟩ := bns h;refine cR mix 18 [1, 8] [(142, .b c0)] ?_ ?_
    ·refine bch A (fun j A => ?_) (fun j A => ?_)
     ·obtain ⟨B, c1, A⟩ := bns A;obtain ⟨Q, c2, A⟩ := bns A;obtain rfl := sIn A;refine ⟨[(125, 0, .bp b1 0 2), (126, 1, .d (.sl 5 (a.Slips.map aJ))), (127, 2, .i g), (128, 3, .cp [.lit (.int .i64 c.Kind), .lit (.int .i64 c.Round), .lit (.int .i64 c.Place), .lit (.int .i64 c.Player), .lit (.int .i64 c.Old)]), (129, 4, .cp [.lit (.int .i64 c.Kind)]), (130, 5, .i c.Kind), (131, 6, .b (decide (c.Kind = 5))), (132, 7, .b (decide (c.Kind = 5))), (133, 8, .agg (aS a)), (134, 9, .bp b1 0 2), (135, 10, .d (.sl 5 (a.Slips.map aJ))), (136, 11, .i g), (137, 12, .cp [.lit (.int .i64 B.Kind), .lit (.int .i64 B.Round), .lit (.int .i64 B.Place), .lit (.int .i64 B.Player), .lit (.int .i64 B.Old)]), (138, 13, .cp [.lit (.int .i64 B.Player)]), (139, 14, .i B.Player), (140, 15, .b Q), (141, 16, .b (!Q)), (142, 17, .b (!Q))], ?_, ?_⟩
      · exact dok [([], []), ([0], []), ([], []), ([1, 2], []), ([3], []), ([4], []), ([5], []), ([6], []), ([7], []), ([7], []), ([7, 9], []), ([7], []), ([7, 10, 11], []), ([7, 12], []), ([7, 13], []), ([7, 8, 14], []), ([7, 15], []), ([7, 16], [])] ⟨go (zf rfl rS),
      go (zl 0 rfl rfl rfl wJ),
      go (zm (.i g)),
      go (zix rfl rfl iA.of (aW aJ a1)),
      go (zfc [.lit (.int .i64 c.Kind)] rfl nQ),
      go (zlc rfl aP),
      go (zcm rfl rfl rfl),
      go (zm (.b (decide (c.Kind = 5)))),
      gt j (zla 0 (aS a) rfl rfl fC),
      gt j (zf rfl rS),
      gt j (zl 0 rfl rfl rfl wJ),
      gt j (zm (.i g)),
      gt j (zix rfl rfl iA.of (aW aJ c1)),
      gt j (zfc [.lit (.int .i64 B.Player)] rfl nR),
      gt j (zlc rfl aP),
      gt j fun S hS => gC (aD rfl) (.func _ _ Try.call41) (ev2 (aT hS rfl) (ev2 (aT hS rfl) evn)) rfl (BVs.refl _ _) (wG _ _ c2) rfl,
      gt j (zn rfl),
      go (zpt (.b (!Q)) j), trivial⟩
      · exact cE (aI rfl (aM ⟨rfl, rfl, trivial⟩))
     ·obtain rfl := sIn A;refine ⟨[(125, 0, .bp b1 0 2), (126, 1, .d (.sl 5 (a.Slips.map aJ))), (127, 2, .i g), (128, 3, .cp [.lit (.int .i64 c.Kind), .lit (.int .i64 c.Round), .lit (.int .i64 c.Place), .lit (.int .i64 c.Player), .lit (.int .i64 c.Old)]), (129, 4, .cp [.lit (.int .i64 c.Kind)]), (130, 5, .i c.Kind), (131, 6, .b (decide (c.Kind = 5))), (132, 7, .b (decide (c.Kind = 5))), (133, 8, .tup []), (134, 9, .tup []), (135, 10, .tup []), (136, 11, .tup []), (137, 12, .tup []), (138, 13, .tup []), (139, 14, .tup []), (140, 15, .tup []), (141, 16, .tup []), (142, 17, .b false)], ?_, ?_⟩
      · exact dok [([], []), ([0], []), ([], []), ([1, 2], []), ([3], []), ([4], []), ([5], []), ([6], []), ([7], []), ([7], []), ([7, 9], []), ([7], []), ([7, 10, 11], []), ([7, 12], []), ([7, 13], []), ([7, 8, 14], []), ([7, 15], []), ([7, 16], [])] ⟨go (zf rfl rS),
      go (zl 0 rfl rfl rfl wJ),
      go (zm (.i g)),
      go (zix rfl rfl iA.of (aW aJ a1)),
      go (zfc [.lit (.int .i64 c.Kind)] rfl nQ),
      go (zlc rfl aP),
      go (zcm rfl rfl rfl),
      go (zm (.b (decide (c.Kind = 5)))),
      gp j,
      gp j,
      gp j,
      gp j,
      gp j,
      gp j,
      gp j,
      gp j,
      gp j,
      go (zpf (.b false) j), trivial⟩
      · exact cE (aI rfl (aM ⟨rfl, rfl, trivial⟩))
    ·refine aB ?_;refine tih h (fun c3 h => ?_) (fun c3 h => ?_)
     ·refine aC (aA (ta (.b false) (aB ?_)));obtain rfl := sIn h;refine bM (bG (bI (l := [2]) ⟨rfl, trivial⟩)) ?_;exact aX ⟨rfl, _, .one _, rfl, rfl⟩
     ·refine cM ?_;refine aA (tm (.i g) (to (sar rfl rfl rfl) (ta (.i (w64 (g + 1))) (aB ?_))));exact ⟨(w64 (g + 1)), h, aN [0] rfl rfl (aI rfl (aM ⟨rfl, trivial⟩))⟩
   ·refine bT ?_;refine .inl ⟨rfl, ?_⟩;simp only [mT] at h;refine aC (aA (tfl 0 rfl rfl jH rfl nI (to (sle rfl mW.of) (to (scm rfl rfl rfl) (ta (.b (decide ((a.Teams.length : Int) ≤ 64))) (aB ?_))))));obtain rfl := sIn h;refine bM (bG (bI (l := [2]) ⟨rfl, trivial⟩)) ?_;exact aX ⟨rfl, _, .one _, rfl, rfl⟩

theorem aHg (g : aQ) (c : Int) {r : bX × Bool × Bool} (h : pL g c = some r) : Fn Try.prog 24 [.agg (aS g), .i c] (.tup [.agg (bP r.1), .b r.2.1, .b r.2.2]) := by
 unfold pL at h;refine kC Try.func24 rfl (rs := [.cell 4 63, .tmp 5, .tmp 6]) Try.results24 Try.ntmps24 (Nat.le_of_ble_eq_true rfl) ?_;refine aC (aA ?_);refine bC rfl (eL (v := .agg (aS g)) (aD rfl) rfl rfl rfl) ?_;rintro _ ⟨b1, rfl⟩;refine bC rfl (cP (zs := [.lit (.int .i64 0), .lit (.int .i64 0), .lit (.int .i64 0)]) (aD rfl) Try.zeroValue63 rfl rfl) ?_;rintro _ ⟨b2, rfl⟩;refine ta (.b false) (ta (.b false) (aB (aC (aC (aA (ta (.i 0) (aB (bA ?_))))))));refine bR (S := Int × bX) [1, 2, 4] (fun s3 => [(7, .i s3.1)]) (fun s3 => [.box b1 0 (aS g), .box b2 0 (bP s3.2)]) (fun k s3 => jG c g k s3.1 s3.2) (fun _ => rfl) (0, (bX.mk 0 0 0)) h (aN [0, 1] rfl rfl (aI rfl (aM ⟨rfl, rfl, rfl, trivial⟩))) ?_;rintro k4 ⟨f, o⟩ h;simp only [jG] at h;refine aC (aC (aA (tm (.i f) (tfl 0 rfl rfl jH rfl nI (to (sle rfl mW.of) (to (scm rfl rfl rfl) (aB ?_)))))));refine tih h (fun c5 h => ?_) (fun c5 h => ?_)
 ·refine aV (aC (bA (aC (aA (tfl 0 rfl rfl jH rfl nI (tm (.i f) ?_))))));obtain ⟨x6, h7, h⟩ := bns h;refine to (six rfl rfl mW.of (aW bP h7)) (to (sfc [.lit (.int .i64 x6.One)] rfl oZ) (to (slc rfl aP) (tm (.i c) (to (scm rfl rfl rfl) (tm (.b (decide (x6.One = c))) ?_)))));obtain ⟨b8, h9, h⟩ := bns h;refine aZ 13 [1, 2, 4, 7] 36 b8 ?_ ?_
  ·refine bch h9 (fun e h9 => ?_) (fun e h9 => ?_)
   ·refine tp e (tp e (tp e (tp e (tp e (tp e (tp e (tp e (tp e (tq (tq (tp e (to (spt (.b true) e) ?_))))))))))));obtain rfl := sIn h9;refine aB (aL rfl ⟨rfl, rfl, rfl, rfl, trivial⟩ rfl)
   ·refine tkl 0 e rfl rfl jH rfl nI (tk e (sm (.i f)) ?_);obtain ⟨q, t, h9⟩ := bns h9;refine tk e (six rfl rfl mW.of (aW bP t)) (tk e (sfc [.lit (.int .i64 q.Two)] rfl kM) (tk e (slc rfl aP) (tk e (sm (.i c)) (tk e (scm rfl rfl rfl) (tk e (sm (.b (decide (q.Two = c)))) ?_)))));obtain ⟨s, n, h9⟩ := bns h9;refine aZ 3 [1, 2, 4, 7, 23, 24, 25, 26, 27, 28, 29, 30, 31, 32] 35 s ?_ ?_
    ·refine bch n (fun m n => ?_) (fun m n => ?_)
     ·refine tk m (sm (.i c)) (tk m (scm rfl rfl rfl) (tk e (spt (.b (decide (0 ≤ c))) m) ?_));obtain rfl := sIn n;refine aB (aL rfl ⟨rfl, rfl, rfl, rfl, rfl, rfl, rfl, rfl, rfl, rfl, rfl, rfl, rfl, rfl, trivial⟩ rfl)
     ·refine tp m (tp m (tk e (spf (.b false) m) ?_));obtain rfl := sIn n;refine aB (aL rfl ⟨rfl, rfl, rfl, rfl, rfl, rfl, rfl, rfl, rfl, rfl, rfl, rfl, rfl, rfl, trivial⟩ rfl)
    ·refine to (spf (.b s) e) ?_;obtain rfl := sIn h9;refine aB (aL rfl ⟨rfl, rfl, rfl, rfl, trivial⟩ rfl)
  ·refine aB ?_;refine tih h (fun u h => ?_) (fun u h => ?_)
   ·refine aC ?_;obtain ⟨j, w, h⟩ := bns h;obtain ⟨l, x, h⟩ := bns h;refine tV mix 14 [4] (fun a => [(49, .b (decide (l.Two = c)))]) (fun a => [.box b1 0 (aS g), .box b2 0 (bP j)]) ?_ ?_
    ·refine ⟨0, fun a => [(37, 0, .bp b1 0 5), (38, 1, .d (.sl 3 (g.Teams.map bP))), (39, 2, .i f), (40, 3, .cp [.lit (.int .i64 j.Player), .lit (.int .i64 j.One), .lit (.int .i64 j.Two)]), (41, 4, .agg (bP j)), (42, 5, .bp b1 0 5), (43, 6, .d (.sl 3 (g.Teams.map bP))), (44, 7, .i f), (45, 8, .cp [.lit (.int .i64 l.Player), .lit (.int .i64 l.One), .lit (.int .i64 l.Two)]), (46, 9, .cp [.lit (.int .i64 l.Two)]), (47, 10, .i l.Two), (48, 11, .i c), (49, 12, .b (decide (l.Two = c)))], fun a => [([], .box b1 0 (aS g)), ([(13, .box b2 0 (bP j))], .box b2 0 (bP o))], ?_, ?_⟩
     · exact ⟨by kernel_rfl, by kernel_rfl, by kernel_rfl, fun _ => by kernel_rfl, fun _ => by kernel_rfl, fun _ => by kernel_rfl, fun _ => rfl, [([], [13]), ([0], [13]), ([], [13]), ([1, 2], [13]), ([3], [13]), ([], []), ([5], []), ([], []), ([6, 7], []), ([8], []), ([9], []), ([], []), ([10, 11], []), ([4], [])], by kernel_rfl, ⟨fun a S hw hi hS => bW (X := a) rfl (hw a) rfl (cL rfl (rW (aD rfl) (aT hS rfl) jH)),
      fun a S hw hi hS => bW (X := a) rfl (hw a) rfl (cL rfl (tS (aD rfl) (aT hS rfl) (i := 0) (og hS rfl rfl) rfl nI)),
      fun a S hw hi hS => bW (X := a) rfl (hw a) rfl (cL rfl (eB (v := .i f) (aD rfl) (aT hS rfl) rfl)),
      fun a S hw hi hS => bW (X := a) rfl (hw a) rfl (cL rfl (yZ (aD rfl) (aT hS rfl) (aT hS rfl) mW.of (aW bP w))),
      fun a S hw hi hS => bW (X := a) rfl (hw a) rfl (cL rfl (aDs (aD rfl) (aT hS rfl) wA (es := (bP j)) rfl rfl)),
      fun a S hw hi hS => bW (X := a) rfl (hw a) rfl (cL rfl (rW (aD rfl) (aT hS rfl) jH)),
      fun a S hw hi hS => bW (X := a) rfl (hw a) rfl (cL rfl (tS (aD rfl) (aT hS rfl) (i := 0) (og hS rfl rfl) rfl nI)),
      fun a S hw hi hS => bW (X := a) rfl (hw a) rfl (cL rfl (eB (v := .i f) (aD rfl) (aT hS rfl) rfl)),
      fun a S hw hi hS => bW (X := a) rfl (hw a) rfl (cL rfl (yZ (aD rfl) (aT hS rfl) (aT hS rfl) mW.of (aW bP x))),
      fun a S hw hi hS => bW (X := a) rfl (hw a) rfl (cL rfl (aDq (aD rfl) (aT hS rfl) kM (es := [.lit (.int .i64 l.Two)]) rfl)),
      fun a S hw hi hS => bW (X := a) rfl (hw a) rfl (cL rfl (aGg (aD rfl) (aT hS rfl) aP)),
      fun a S hw hi hS => bW (X := a) rfl (hw a) rfl (cL rfl (eB (v := .i c) (aD rfl) (aT hS rfl) rfl)),
      fun a S hw hi hS => bW (X := a) rfl (hw a) rfl (cL rfl (aRo (aD rfl) (aT hS rfl) (aT hS rfl) rfl)),
      fun a S hw hi hS => aCi (X := a) hS rfl rfl rfl (p := 1) rfl rfl (cL rfl (aKo (i := 1) (aT hS rfl) (og hS rfl rfl) (aT hS rfl) rfl rfl Try.sizeOf63 rfl (aD rfl) (Nat.le_of_ble_eq_true rfl) (ds' := (bP j)) rfl)), trivial⟩⟩
     · exact fun a => cE (aI rfl (aM ⟨rfl, trivial⟩))
    ·intro a;refine ta (.b (decide (l.Two = c))) (ta (.b true) (aB ?_));obtain rfl := sIn h;exact aX ⟨rfl, _, [.box b1 0 (aS g), .box b2 0 (bP j)], .three (.cell 4 63 rfl (i := 1) rfl wA (es := (bP j)) rfl rfl) (.tmp 5 (v := .b (decide (l.Two = c))) rfl) (.tmp 6 (v := .b true) rfl), .refl _, .same _⟩
   ·refine cM ?_;refine aA (tm (.i f) (to (sar rfl rfl rfl) (ta (.i (w64 (f + 1))) (aB ?_))));exact ⟨(w64 (f + 1), o), h, aN [0, 1] rfl rfl (aI rfl (aM ⟨rfl, rfl, rfl, trivial⟩))⟩
 ·refine bT ?_;refine .inl ⟨rfl, ?_⟩;simp only [xX] at h;refine aC (aA (to (eA (aD rfl) aGp (zs := [.lit (.int .i64 0), .lit (.int .i64 0), .lit (.int .i64 0)]) rfl rfl rfl rfl (es := [.lit (.int .i64 0), .lit (.int .i64 0), .lit (.int .i64 0)]) rfl) ?_));refine to (sst 1 rfl rfl Try.sizeOf63 (bP (bX.mk 0 0 0))) (ta (.b false) (ta (.b false) (aB ?_)));obtain rfl := sIn h;exact aX ⟨rfl, _, [.box b1 0 (aS g), .box b2 0 (bP (bX.mk 0 0 0))], .three (.cell 4 63 rfl (i := 1) rfl wA (es := (bP (bX.mk 0 0 0))) rfl rfl) (.tmp 5 (v := .b false) rfl) (.tmp 6 (v := .b false) rfl), .refl _, .same _⟩

theorem lA (c : aQ) (a : Int) {r : Bool} (h : hY c a = some r) : Fn Try.prog 12 [.agg (aS c), .i a] (.b r) := by
 unfold hY at h;refine Fn.of_tr Try.func12 rfl (rs := [.tmp 4]) Try.results12 Try.ntmps12 (Nat.le_of_ble_eq_true rfl) ?_;refine aC (aA ?_);refine bC rfl (eL (v := .agg (aS c)) (aD rfl) rfl rfl rfl) ?_;rintro _ ⟨b1, rfl⟩;refine ta (.b false) (aB (aC (aA (to (sla 0 (aS c) rfl rfl fC) (tm (.i a) ?_)))));obtain ⟨r2, h3, h⟩ := bns h;refine to (gH (aD rfl) (.func _ _ Try.call24) rfl rfl (aHg _ _ h3)) ?_;refine tm (.tup [.agg (bP r2.1), .b r2.2.1, .b r2.2.2]) (to (sex rfl rfl) (to (sex rfl rfl) (to (sex rfl rfl) ?_)));refine bC rfl (cP (zs := [.lit (.int .i64 0), .lit (.int .i64 0), .lit (.int .i64 0)]) (aD rfl) Try.zeroValue63 rfl rfl) ?_;rintro _ ⟨b4, rfl⟩;refine to (sst 1 rfl rfl Try.sizeOf63 (bP r2.1)) (ta (.b r2.2.1) (ta (.b r2.2.2) (aB (aC (aA (tm (.b r2.2.2) (tm (.b r2.2.2) ?_)))))));obtain ⟨b5, h6, h⟩ := bns h;refine aZ 3 [] 19 b5 ?_ ?_
 ·refine bch h6 (fun c7 h6 => ?_) (fun c7 h6 => ?_)
  ·refine tk c7 (sm (.i a)) (tk c7 (scm rfl rfl rfl) (to (spt (.b (decide (0 ≤ a))) c7) ?_));obtain rfl := sIn h6;refine aB (aL rfl trivial rfl)
  ·refine tp c7 (tp c7 (to (spf (.b false) c7) ?_));obtain rfl := sIn h6;refine aB (aL rfl trivial rfl)
 ·refine ta (.b b5) (aB ?_);obtain rfl := sIn h;refine bM (bG (bI (l := [4]) ⟨rfl, trivial⟩)) ?_;exact aX ⟨rfl, _, .one _, rfl, rfl⟩

theorem aBw (a : aQ) {r : Bool} (h : mE a = some r) : Fn Try.prog 28 [.agg (aS a)] (.b r) := by
 unfold mE at h;refine Fn.of_tr Try.func28 rfl (rs := [.tmp 2]) Try.results28 Try.ntmps28 (Nat.le_of_ble_eq_true rfl) ?_;refine aC (aA ?_);refine bC rfl (eL (v := .agg (aS a)) (aD rfl) rfl rfl rfl) ?_;rintro _ ⟨b1, rfl⟩;refine ta (.b false) (aB (aC (aC (aA (ta (.i 0) (aB (bA ?_)))))));refine bR (S := Int) [1] (fun s2 => [(3, .i s2)]) (fun s2 => [.box b1 0 (aS a)]) (fun k s2 => dK a k s2) (fun _ => rfl) (0) h (aN [0] rfl rfl (aI rfl (aM ⟨rfl, trivial⟩))) ?_;rintro k3 c h;simp only [dK] at h;refine aC (aC (aA (tm (.i c) (tfl 0 rfl rfl rT rfl wK (to (sle rfl uY.of) (to (scm rfl rfl rfl) (aB ?_)))))));refine tih h (fun c4 h => ?_) (fun c4 h => ?_)
 ·refine aV (aC (bA (aC (aC ?_))));obtain ⟨x5, h6, h⟩ := bns h;obtain ⟨r7, h8, h⟩ := bns h;obtain ⟨b9, o, h⟩ := bns h;refine cR mix 19 [1, 3] [(33, .b b9)] ?_ ?_
  ·refine bch o (fun e o => ?_) (fun e o => ?_)
   ·obtain rfl := sIn o;refine ⟨[(15, 0, .agg (aS a)), (16, 1, .bp b1 0 6), (17, 2, .d (.sl 2 (a.Levies.map cY))), (18, 3, .i c), (19, 4, .cp [.lit (.int .i64 x5.Person), .lit (.int .i64 x5.Mille)]), (20, 5, .cp [.lit (.int .i64 x5.Person)]), (21, 6, .i x5.Person), (22, 7, .b r7), (23, 8, .b (!r7)), (24, 9, .b (!r7)), (25, 10, .tup []), (26, 11, .tup []), (27, 12, .tup []), (28, 13, .tup []), (29, 14, .tup []), (30, 15, .tup []), (31, 16, .tup []), (32, 17, .tup []), (33, 18, .b true)], ?_, ?_⟩
    · exact dok [([], []), ([], []), ([1], []), ([], []), ([2, 3], []), ([4], []), ([5], []), ([0, 6], []), ([7], []), ([8], []), ([9], []), ([9, 10], []), ([9], []), ([9, 11, 12], []), ([9, 13], []), ([9, 14], []), ([9, 15], []), ([9, 16], []), ([9, 17], [])] ⟨go (zla 0 (aS a) rfl rfl fC),
      go (zf rfl rT),
      go (zl 0 rfl rfl rfl wK),
      go (zm (.i c)),
      go (zix rfl rfl uY.of (aW cY h6)),
      go (zfc [.lit (.int .i64 x5.Person)] rfl xF),
      go (zlc rfl aP),
      go fun S hS => gC (aD rfl) (.func _ _ Try.call12) (ev2 (aT hS rfl) (ev2 (aT hS rfl) evn)) rfl (BVs.refl _ _) (lA _ _ h8) rfl,
      go (zn rfl),
      go (zm (.b (!r7))),
      gp e,
      gp e,
      gp e,
      gp e,
      gp e,
      gp e,
      gp e,
      gp e,
      go (zpt (.b true) e), trivial⟩
    · exact cE (aI rfl (aM ⟨rfl, rfl, trivial⟩))
   ·obtain ⟨x, F, o⟩ := bns o;obtain ⟨y, G, o⟩ := bns o;obtain rfl := sIn o;refine ⟨[(15, 0, .agg (aS a)), (16, 1, .bp b1 0 6), (17, 2, .d (.sl 2 (a.Levies.map cY))), (18, 3, .i c), (19, 4, .cp [.lit (.int .i64 x5.Person), .lit (.int .i64 x5.Mille)]), (20, 5, .cp [.lit (.int .i64 x5.Person)]), (21, 6, .i x5.Person), (22, 7, .b r7), (23, 8, .b (!r7)), (24, 9, .b (!r7)), (25, 10, .bp b1 0 6), (26, 11, .d (.sl 2 (a.Levies.map cY))), (27, 12, .i c), (28, 13, .cp [.lit (.int .i64 x.Person), .lit (.int .i64 x.Mille)]), (29, 14, .cp [.lit (.int .i64 x.Mille)]), (30, 15, .i x.Mille), (31, 16, .b y), (32, 17, .b (!y)), (33, 18, .b (!y))], ?_, ?_⟩
    · exact dok [([], []), ([], []), ([1], []), ([], []), ([2, 3], []), ([4], []), ([5], []), ([0, 6], []), ([7], []), ([8], []), ([9], []), ([9, 10], []), ([9], []), ([9, 11, 12], []), ([9, 13], []), ([9, 14], []), ([9, 15], []), ([9, 16], []), ([9, 17], [])] ⟨go (zla 0 (aS a) rfl rfl fC),
      go (zf rfl rT),
      go (zl 0 rfl rfl rfl wK),
      go (zm (.i c)),
      go (zix rfl rfl uY.of (aW cY h6)),
      go (zfc [.lit (.int .i64 x5.Person)] rfl xF),
      go (zlc rfl aP),
      go fun S hS => gC (aD rfl) (.func _ _ Try.call12) (ev2 (aT hS rfl) (ev2 (aT hS rfl) evn)) rfl (BVs.refl _ _) (lA _ _ h8) rfl,
      go (zn rfl),
      go (zm (.b (!r7))),
      gt e (zf rfl rT),
      gt e (zl 0 rfl rfl rfl wK),
      gt e (zm (.i c)),
      gt e (zix rfl rfl uY.of (aW cY F)),
      gt e (zfc [.lit (.int .i64 x.Mille)] rfl aIj),
      gt e (zlc rfl aP),
      gt e fun S hS => gC (aD rfl) (.func _ _ Try.call26) (ev2 (aT hS rfl) (ev2 rfl (ev2 rfl evn))) rfl (BVs.refl _ _) (dZ _ _ _ G) rfl,
      gt e (zn rfl),
      go (zpf (.b (!y)) e), trivial⟩
    · exact cE (aI rfl (aM ⟨rfl, rfl, trivial⟩))
  ·refine aB ?_;refine tih h (fun H h => ?_) (fun H h => ?_)
   ·refine aC (aA (ta (.b false) (aB ?_)));obtain rfl := sIn h;refine bM (bG (bI (l := [2]) ⟨rfl, trivial⟩)) ?_;exact aX ⟨rfl, _, .one _, rfl, rfl⟩
   ·refine aV (aC (aA (ta (.i 0) (aB ?_))));refine uF ?_;refine bR (S := Int) [1, 3] (fun z => [(4, .i z)]) (fun z => [.box b1 0 (aS a)]) (fun k z => fO (dK a k3) c a k z) (fun _ => rfl) (0) h (aN [0] rfl rfl (aI rfl (aM ⟨rfl, rfl, trivial⟩))) ?_;rintro a2 g h;simp only [fO] at h;refine aC (aC (aA (tm (.i g) (tm (.i c) (to (scm rfl rfl rfl) (aB ?_))))));refine tih h (fun I h => ?_) (fun I h => ?_)
    ·refine aV (aC (bA (aC ?_)));obtain ⟨t, J, h⟩ := bns h;obtain ⟨u, K, h⟩ := bns h;refine cR mix 12 [1, 3, 4] [(44, .i t.Person), (50, .i u.Person)] ?_ ?_
     ·refine ⟨[(39, 0, .bp b1 0 6), (40, 1, .d (.sl 2 (a.Levies.map cY))), (41, 2, .i g), (42, 3, .cp [.lit (.int .i64 t.Person), .lit (.int .i64 t.Mille)]), (43, 4, .cp [.lit (.int .i64 t.Person)]), (44, 5, .i t.Person), (45, 6, .bp b1 0 6), (46, 7, .d (.sl 2 (a.Levies.map cY))), (47, 8, .i c), (48, 9, .cp [.lit (.int .i64 u.Person), .lit (.int .i64 u.Mille)]), (49, 10, .cp [.lit (.int .i64 u.Person)]), (50, 11, .i u.Person)], ?_, ?_⟩
      · exact dok [([], []), ([0], []), ([], []), ([1, 2], []), ([3], []), ([4], []), ([], []), ([6], []), ([], []), ([7, 8], []), ([9], []), ([10], [])] ⟨go (zf rfl rT),
      go (zl 0 rfl rfl rfl wK),
      go (zm (.i g)),
      go (zix rfl rfl uY.of (aW cY J)),
      go (zfc [.lit (.int .i64 t.Person)] rfl xF),
      go (zlc rfl aP),
      go (zf rfl rT),
      go (zl 0 rfl rfl rfl wK),
      go (zm (.i c)),
      go (zix rfl rfl uY.of (aW cY K)),
      go (zfc [.lit (.int .i64 u.Person)] rfl xF),
      go (zlc rfl aP), trivial⟩
      · exact cE (aI rfl (aI rfl (aM ⟨rfl, rfl, rfl, trivial⟩)))
     ·refine to (scm rfl rfl rfl) (aB ?_);refine tih h (fun L h => ?_) (fun L h => ?_)
      ·refine aC (aA (ta (.b false) (aB ?_)));obtain rfl := sIn h;refine bM (bG (bI (l := [2]) ⟨rfl, trivial⟩)) ?_;exact aX ⟨rfl, _, .one _, rfl, rfl⟩
      ·refine cM ?_;refine aA (tm (.i g) (to (sar rfl rfl rfl) (ta (.i (w64 (g + 1))) (aB ?_))));exact ⟨(w64 (g + 1)), h, aN [0] rfl rfl (aI rfl (aM ⟨rfl, rfl, trivial⟩))⟩
    ·refine bT ?_;refine .inl ⟨rfl, ?_⟩;simp only [qA] at h;simp only [pZ] at h;refine aA (tm (.i c) (to (sar rfl rfl rfl) (ta (.i (w64 (c + 1))) (aB ?_))));exact ⟨(w64 (c + 1)), h, aN [0] rfl rfl (aI rfl (aM ⟨rfl, trivial⟩))⟩
 ·refine bT ?_;refine .inl ⟨rfl, ?_⟩;simp only [jY] at h;refine aC (aC (aA (ta (.i 0) (aB (bA ?_)))));refine bR (S := Int) [1] (fun A => [(5, .i A)]) (fun A => [.box b1 0 (aS a)]) (fun k A => dL a k A) (fun _ => rfl) (0) h (aN [0] rfl rfl (aI rfl (aM ⟨rfl, trivial⟩))) ?_;rintro M f h;simp only [dL] at h;refine aC (aC (aA (tm (.i f) (tfl 0 rfl rfl qH rfl uN (to (sle rfl uD.of) (to (scm rfl rfl rfl) (aB ?_)))))));refine tih h (fun N h => ?_) (fun N h => ?_)
  ·refine aV (aC (bA (aC (aA (tfl 0 rfl rfl qH rfl uN (tm (.i f) ?_))))));obtain ⟨w, O, h⟩ := bns h;refine to (six rfl rfl uD.of (aW cV O)) (to (pH (cV w) rfl aIx) ?_);refine bC rfl (cP (zs := [.lit (.int .i64 0), .lit (.int .i64 0), .lit (.int .i64 0)]) (aD rfl) Try.zeroValue55 rfl rfl) ?_;rintro _ ⟨C, rfl⟩;refine to (sst 1 rfl rfl Try.sizeOf55 (cV w)) (aB (aC (aC (aA (to (sla 0 (aS a) rfl rfl fC) (tfl 1 rfl rfl vH rfl aP ?_))))));obtain ⟨P, Q, h⟩ := bns h;refine to (scr Try.call12 (lA _ _ Q)) (to (sn rfl) (tm (.b (!P)) ?_));obtain ⟨E, p, h⟩ := bns h;refine aZ 5 [1, 5, 6] 74 E ?_ ?_
   ·refine bch p (fun m p => ?_) (fun m p => ?_)
    ·refine tp m (tp m (tp m (tp m (to (spt (.b true) m) ?_))));obtain rfl := sIn p;refine aB (aL rfl ⟨rfl, rfl, rfl, trivial⟩ rfl)
    ·refine tkl 1 m rfl rfl zX rfl aP ?_;obtain ⟨T, U, p⟩ := bns p;refine tk m (scr Try.call26 (dZ _ _ _ U)) (tk m (sn rfl) (to (spf (.b (!T)) m) ?_));obtain rfl := sIn p;refine aB (aL rfl ⟨rfl, rfl, rfl, trivial⟩ rfl)
   ·refine tm (.b E) ?_;obtain ⟨V, q, h⟩ := bns h;refine aZ 5 [1, 5, 6] 80 V ?_ ?_
    ·refine bch q (fun n q => ?_) (fun n q => ?_)
     ·refine tp n (tp n (tp n (tp n (to (spt (.b true) n) ?_))));obtain rfl := sIn q;refine aB (aL rfl ⟨rfl, rfl, rfl, trivial⟩ rfl)
     ·refine tkl 1 n rfl rfl aCv rfl aP ?_;obtain ⟨W, X, q⟩ := bns q;refine tk n (scr Try.call26 (dZ _ _ _ X)) (tk n (sn rfl) (to (spf (.b (!W)) n) ?_));obtain rfl := sIn q;refine aB (aL rfl ⟨rfl, rfl, rfl, trivial⟩ rfl)
    ·refine aB ?_;refine tih h (fun Y h => ?_) (fun Y h => ?_)
     ·refine aC (aA (ta (.b false) (aB ?_)));obtain rfl := sIn h;refine bM (bG (bI (l := [2]) ⟨rfl, trivial⟩)) ?_;exact aX ⟨rfl, _, .one _, rfl, rfl⟩
     ·refine aV (aC (aA (ta (.i 0) (aB ?_))));refine uF ?_;refine bR (S := Int) [1, 5, 6] (fun B => [(7, .i B)]) (fun B => [.box b1 0 (aS a), .box C 0 (cV w)]) (fun k B => fP (dL a M) f a w k B) (fun _ => rfl) (0) h (aN [0, 1] rfl rfl (aI rfl (aM ⟨rfl, rfl, rfl, trivial⟩))) ?_;rintro a3 j h;simp only [fP] at h;refine aC (aC (aA (tm (.i j) (tm (.i f) (to (scm rfl rfl rfl) (aB ?_))))));refine tih h (fun Z h => ?_) (fun Z h => ?_)
      ·refine aV (aC (bA (aC ?_)));obtain ⟨s, a0, h⟩ := bns h;refine cR mix 8 [1, 5, 6, 7] [(91, .i s.Person), (93, .i w.Person)] ?_ ?_
       ·refine ⟨[(86, 0, .bp b1 0 7), (87, 1, .d (.sl 3 (a.Rates.map cV))), (88, 2, .i j), (89, 3, .cp [.lit (.int .i64 s.Person), .lit (.int .i64 s.Num), .lit (.int .i64 s.Den)]), (90, 4, .cp [.lit (.int .i64 s.Person)]), (91, 5, .i s.Person), (92, 6, .bp C 0 0), (93, 7, .i w.Person)], ?_, ?_⟩
        · exact dok [([], []), ([0], []), ([], []), ([1, 2], []), ([3], []), ([4], []), ([], []), ([6], [])] ⟨go (zf rfl qH),
      go (zl 0 rfl rfl rfl uN),
      go (zm (.i j)),
      go (zix rfl rfl uD.of (aW cV a0)),
      go (zfc [.lit (.int .i64 s.Person)] rfl vH),
      go (zlc rfl aP),
      go (zf rfl vH),
      go (zl 1 rfl rfl rfl aP), trivial⟩
        · exact cE (aI rfl (aI rfl (aM ⟨rfl, rfl, rfl, rfl, trivial⟩)))
       ·refine to (scm rfl rfl rfl) (aB ?_);refine tih h (fun a1 h => ?_) (fun a1 h => ?_)
        ·refine aC (aA (ta (.b false) (aB ?_)));obtain rfl := sIn h;refine bM (bG (bI (l := [2]) ⟨rfl, trivial⟩)) ?_;exact aX ⟨rfl, _, .one _, rfl, rfl⟩
        ·refine cM ?_;refine aA (tm (.i j) (to (sar rfl rfl rfl) (ta (.i (w64 (j + 1))) (aB ?_))));exact ⟨(w64 (j + 1)), h, aN [0, 1] rfl rfl (aI rfl (aM ⟨rfl, rfl, rfl, trivial⟩))⟩
      ·refine bT ?_;refine .inl ⟨rfl, ?_⟩;simp only [qD] at h;simp only [qC] at h;refine aA (tm (.i f) (to (sar rfl rfl rfl) (ta (.i (w64 (f + 1))) (aB ?_))));exact ⟨(w64 (f + 1)), h, aN [0] rfl rfl (aI rfl (aM ⟨rfl, trivial⟩))⟩
  ·refine bT ?_;refine .inl ⟨rfl, ?_⟩;simp only [qB] at h;refine aC (aA (ta (.b true) (aB ?_)));obtain rfl := sIn h;refine bM (bG (bI (l := [2]) ⟨rfl, trivial⟩)) ?_;exact aX ⟨rfl, _, .one _, rfl, rfl⟩

theorem aBv (j : aQ) {r : Bool} (h : mD j = some r) : Fn Try.prog 29 [.agg (aS j)] (.b r) := by
 unfold mD at h;refine Fn.of_tr Try.func29 rfl (rs := [.tmp 2]) Try.results29 Try.ntmps29 (Nat.le_of_ble_eq_true rfl) ?_;refine aC (aA ?_);refine bC rfl (eL (v := .agg (aS j)) (aD rfl) rfl rfl rfl) ?_;rintro _ ⟨b1, rfl⟩;refine ta (.b false) (aB (aC (aC (aA (ta (.i 0) (aB (bA ?_)))))));refine bR (S := Int) [1] (fun s2 => [(3, .i s2)]) (fun s2 => [.box b1 0 (aS j)]) (fun k s2 => dJ j k s2) (fun _ => rfl) (0) h (aN [0] rfl rfl (aI rfl (aM ⟨rfl, trivial⟩))) ?_;rintro k3 n h;simp only [dJ] at h;refine aC (aC (aA (tm (.i n) (tfl 0 rfl rfl oX rfl tM (to (sle rfl dB.of) (to (scm rfl rfl rfl) (aB ?_)))))));refine tih h (fun c4 h => ?_) (fun c4 h => ?_)
 ·refine aV (aC (bA (aC (aA (tfl 0 rfl rfl oX rfl tM (tm (.i n) ?_))))));obtain ⟨x5, h6, h⟩ := bns h;refine to (six rfl rfl dB.of (aW aE h6)) (to (pH (aE x5) rfl gJ) ?_);refine bC rfl (cP (zs := [.lit (.int .i64 0), .lit (.int .i64 0), .lit (.int .i64 0), .lit (.int .i64 0)]) (aD rfl) Try.zeroValue79 rfl rfl) ?_;rintro _ ⟨b7, rfl⟩;refine to (sst 1 rfl rfl Try.sizeOf79 (aE x5)) (aB (aC (aC (aA (tfl 1 rfl rfl mM rfl aP ?_)))));obtain ⟨r8, h9, h⟩ := bns h;refine to (scr Try.call26 (dZ _ _ _ h9)) (to (sn rfl) (tm (.b (!r8)) ?_));obtain ⟨B, u, h⟩ := bns h;refine aZ 6 [1, 3, 4] 28 B ?_ ?_
  ·refine bch u (fun o u => ?_) (fun o u => ?_)
   ·refine tp o (tp o (tp o (tp o (tp o (to (spt (.b true) o) ?_)))));obtain rfl := sIn u;refine aB (aL rfl ⟨rfl, rfl, rfl, trivial⟩ rfl)
   ·refine tk o (sla 0 (aS j) rfl rfl fC) (tkl 1 o rfl rfl aCx rfl aP ?_);obtain ⟨H, I, u⟩ := bns u;refine tk o (scr Try.call12 (lA _ _ I)) (tk o (sn rfl) (to (spf (.b (!H)) o) ?_));obtain rfl := sIn u;refine aB (aL rfl ⟨rfl, rfl, rfl, trivial⟩ rfl)
  ·refine tm (.b B) ?_;obtain ⟨J, q, h⟩ := bns h;refine aZ 20 [1, 3, 4] 49 J ?_ ?_
   ·refine bch q (fun e q => ?_) (fun e q => ?_)
    ·refine tp e (tp e (tp e (tp e (tq (tq (tq (tp e (tp e (tq (tq (tq (tq (tq ?_)))))))))))));refine tq (tq (tq (tp e (tp e (to (spt (.b true) e) ?_)))));obtain rfl := sIn q;refine aB (aL rfl ⟨rfl, rfl, rfl, trivial⟩ rfl)
    ·refine tkl 1 e rfl rfl tI rfl aP (tk e (scm rfl rfl rfl) (tk e (sm (.b (decide (x5.Kind = 1)))) ?_));obtain ⟨C, w, q⟩ := bns q;refine aZ 4 [1, 3, 4, 29, 30, 31, 32, 33] 37 C ?_ ?_
     ·refine bch w (fun s w => ?_) (fun s w => ?_)
      ·refine tkl 1 s rfl rfl xG rfl aP ?_;obtain ⟨K, L, w⟩ := bns w;refine tk s (scr Try.call26 (dZ _ _ _ L)) (tk e (spt (.b K) s) ?_);obtain rfl := sIn w;refine aB (aL rfl ⟨rfl, rfl, rfl, rfl, rfl, rfl, rfl, rfl, trivial⟩ rfl)
      ·refine tp s (tp s (tp s (tk e (spf (.b false) s) ?_)));obtain rfl := sIn w;refine aB (aL rfl ⟨rfl, rfl, rfl, rfl, rfl, rfl, rfl, rfl, trivial⟩ rfl)
     ·refine tk e (sm (.b C)) ?_;obtain ⟨E, x, q⟩ := bns q;refine aZ 9 [1, 3, 4, 29, 30, 31, 32, 33, 37, 38] 47 E ?_ ?_
      ·refine bch x (fun m x => ?_) (fun m x => ?_)
       ·refine tp m (tp m (tp m (tp m (tq (tq (tq (tp m (tk e (spt (.b true) m) ?_))))))));obtain rfl := sIn x;refine aB (aL rfl ⟨rfl, rfl, rfl, rfl, rfl, rfl, rfl, rfl, rfl, rfl, trivial⟩ rfl)
       ·refine tkl 1 m rfl rfl tI rfl aP (tk m (scm rfl rfl rfl) (tk m (sm (.b (decide (x5.Kind = 2)))) ?_));obtain ⟨F, y, x⟩ := bns x;refine aZ 4 [1, 3, 4, 29, 30, 31, 32, 33, 37, 38, 39, 40, 41, 42] 46 F ?_ ?_
        ·refine bch y (fun t y => ?_) (fun t y => ?_)
         ·refine tkl 1 t rfl rfl xG rfl aP ?_;obtain ⟨M, N, y⟩ := bns y;refine tk t (scr Try.call26 (dZ _ _ _ N)) (tk m (spt (.b M) t) ?_);obtain rfl := sIn y;refine aB (aL rfl ⟨rfl, rfl, rfl, rfl, rfl, rfl, rfl, rfl, rfl, rfl, rfl, rfl, rfl, rfl, trivial⟩ rfl)
         ·refine tp t (tp t (tp t (tk m (spf (.b false) t) ?_)));obtain rfl := sIn y;refine aB (aL rfl ⟨rfl, rfl, rfl, rfl, rfl, rfl, rfl, rfl, rfl, rfl, rfl, rfl, rfl, rfl, trivial⟩ rfl)
        ·refine tk e (spf (.b F) m) ?_;obtain rfl := sIn x;refine aB (aL rfl ⟨rfl, rfl, rfl, rfl, rfl, rfl, rfl, rfl, rfl, rfl, trivial⟩ rfl)
      ·refine tk e (sn rfl) (to (spf (.b (!E)) e) ?_);obtain rfl := sIn q;refine aB (aL rfl ⟨rfl, rfl, rfl, trivial⟩ rfl)
   ·refine aB ?_;refine tih h (fun O h => ?_) (fun O h => ?_)
    ·refine aC (aA (ta (.b false) (aB ?_)));obtain rfl := sIn h;refine bM (bG (bI (l := [2]) ⟨rfl, trivial⟩)) ?_;exact aX ⟨rfl, _, .one _, rfl, rfl⟩
    ·refine aV (aC (aA (ta (.i 0) (aB ?_))));refine uF ?_;refine bR (S := Int) [1, 3, 4] (fun A => [(5, .i A)]) (fun A => [.box b1 0 (aS j), .box b7 0 (aE x5)]) (fun k A => fN (dJ j k3) n j x5 k A) (fun _ => rfl) (0) h (aN [0, 1] rfl rfl (aI rfl (aM ⟨rfl, rfl, rfl, trivial⟩))) ?_;rintro V c h;simp only [fN] at h;refine aC (aC (aA (tm (.i c) (tm (.i n) (to (scm rfl rfl rfl) (aB ?_))))));refine tih h (fun P h => ?_) (fun P h => ?_)
     ·refine aV (aC (bA (aC ?_)));obtain ⟨f, G, h⟩ := bns h;obtain ⟨Q, z, h⟩ := bns h;refine cR mix 18 [1, 3, 4, 5] [(72, .b Q)] ?_ ?_
      ·refine bch z (fun g z => ?_) (fun g z => ?_)
       ·obtain ⟨p, T, z⟩ := bns z;obtain rfl := sIn z;refine ⟨[(55, 0, .bp b1 0 8), (56, 1, .d (.sl 4 (j.Items.map aE))), (57, 2, .i c), (58, 3, .cp [.lit (.int .i64 f.Id), .lit (.int .i64 f.Kind), .lit (.int .i64 f.Person), .lit (.int .i64 f.Amount)]), (59, 4, .cp [.lit (.int .i64 f.Id)]), (60, 5, .i f.Id), (61, 6, .bp b7 0 0), (62, 7, .i x5.Id), (63, 8, .b (decide (f.Id = x5.Id))), (64, 9, .b (decide (f.Id = x5.Id))), (65, 10, .bp b1 0 8), (66, 11, .d (.sl 4 (j.Items.map aE))), (67, 12, .i c), (68, 13, .cp [.lit (.int .i64 p.Id), .lit (.int .i64 p.Kind), .lit (.int .i64 p.Person), .lit (.int .i64 p.Amount)]), (69, 14, .agg (aE p)), (70, 15, .agg (aE x5)), (71, 16, .b (!decide (p = x5))), (72, 17, .b (!decide (p = x5)))], ?_, ?_⟩
        · exact dok [([], []), ([0], []), ([], []), ([1, 2], []), ([3], []), ([4], []), ([], []), ([6], []), ([5, 7], []), ([8], []), ([9], []), ([9, 10], []), ([9], []), ([9, 11, 12], []), ([9, 13], []), ([9], []), ([9, 14, 15], []), ([9, 16], [])] ⟨go (zf rfl oX),
      go (zl 0 rfl rfl rfl tM),
      go (zm (.i c)),
      go (zix rfl rfl dB.of (aW aE G)),
      go (zfc [.lit (.int .i64 f.Id)] rfl mM),
      go (zlc rfl aP),
      go (zf rfl mM),
      go (zl 1 rfl rfl rfl aP),
      go (zcm rfl rfl rfl),
      go (zm (.b (decide (f.Id = x5.Id)))),
      gt g (zf rfl oX),
      gt g (zl 0 rfl rfl rfl tM),
      gt g (zm (.i c)),
      gt g (zix rfl rfl dB.of (aW aE T)),
      gt g (aVt (aE p) rfl gJ),
      gt g (zla 1 (aE x5) rfl rfl gJ),
      gt g fun S hS => aGy (a := p) (b := x5) (aD rfl) (aT hS rfl) (aT hS rfl) rfl rfl Try.eqGuardType79 aJh,
      go (zpt (.b (!decide (p = x5))) g), trivial⟩
        · exact cE (aI rfl (aM ⟨rfl, rfl, rfl, rfl, trivial⟩))
       ·obtain rfl := sIn z;refine ⟨[(55, 0, .bp b1 0 8), (56, 1, .d (.sl 4 (j.Items.map aE))), (57, 2, .i c), (58, 3, .cp [.lit (.int .i64 f.Id), .lit (.int .i64 f.Kind), .lit (.int .i64 f.Person), .lit (.int .i64 f.Amount)]), (59, 4, .cp [.lit (.int .i64 f.Id)]), (60, 5, .i f.Id), (61, 6, .bp b7 0 0), (62, 7, .i x5.Id), (63, 8, .b (decide (f.Id = x5.Id))), (64, 9, .b (decide (f.Id = x5.Id))), (65, 10, .tup []), (66, 11, .tup []), (67, 12, .tup []), (68, 13, .tup []), (69, 14, .tup []), (70, 15, .tup []), (71, 16, .tup []), (72, 17, .b false)], ?_, ?_⟩
        · exact dok [([], []), ([0], []), ([], []), ([1, 2], []), ([3], []), ([4], []), ([], []), ([6], []), ([5, 7], []), ([8], []), ([9], []), ([9, 10], []), ([9], []), ([9, 11, 12], []), ([9, 13], []), ([9], []), ([9, 14, 15], []), ([9, 16], [])] ⟨go (zf rfl oX),
      go (zl 0 rfl rfl rfl tM),
      go (zm (.i c)),
      go (zix rfl rfl dB.of (aW aE G)),
      go (zfc [.lit (.int .i64 f.Id)] rfl mM),
      go (zlc rfl aP),
      go (zf rfl mM),
      go (zl 1 rfl rfl rfl aP),
      go (zcm rfl rfl rfl),
      go (zm (.b (decide (f.Id = x5.Id)))),
      gp g,
      gp g,
      gp g,
      gp g,
      gp g,
      gp g,
      gp g,
      go (zpf (.b false) g), trivial⟩
        · exact cE (aI rfl (aM ⟨rfl, rfl, rfl, rfl, trivial⟩))
      ·refine aB ?_;refine tih h (fun U h => ?_) (fun U h => ?_)
       ·refine aC (aA (ta (.b false) (aB ?_)));obtain rfl := sIn h;refine bM (bG (bI (l := [2]) ⟨rfl, trivial⟩)) ?_;exact aX ⟨rfl, _, .one _, rfl, rfl⟩
       ·refine cM ?_;refine aA (tm (.i c) (to (sar rfl rfl rfl) (ta (.i (w64 (c + 1))) (aB ?_))));exact ⟨(w64 (c + 1)), h, aN [0, 1] rfl rfl (aI rfl (aM ⟨rfl, rfl, rfl, trivial⟩))⟩
     ·refine bT ?_;refine .inl ⟨rfl, ?_⟩;simp only [pY] at h;simp only [pX] at h;refine aA (tm (.i n) (to (sar rfl rfl rfl) (ta (.i (w64 (n + 1))) (aB ?_))));exact ⟨(w64 (n + 1)), h, aN [0] rfl rfl (aI rfl (aM ⟨rfl, trivial⟩))⟩
 ·refine bT ?_;refine .inl ⟨rfl, ?_⟩;simp only [mS] at h;refine aC (aA (tfl 0 rfl rfl oX rfl tM (to (sle rfl dB.of) (to (scm rfl rfl rfl) (ta (.b (decide ((j.Items.length : Int) ≤ 40))) (aB ?_))))));obtain rfl := sIn h;refine bM (bG (bI (l := [2]) ⟨rfl, trivial⟩)) ?_;exact aX ⟨rfl, _, .one _, rfl, rfl⟩

theorem aEw (e : aQ) {r : Int} (h : oW e = some r) : Fn Try.prog 14 [.agg (aS e)] (.i r) := by
 unfold oW at h;refine Fn.of_tr Try.func14 rfl (rs := [.tmp 2]) Try.results14 Try.ntmps14 (Nat.le_of_ble_eq_true rfl) ?_;refine aC (aA ?_);refine bC rfl (eL (v := .agg (aS e)) (aD rfl) rfl rfl rfl) ?_;rintro _ ⟨b1, rfl⟩;refine ta (.i 0) (aB (aC (aC (aA (to (sf rfl kK) (to (sla 0 (bD e.Tree) rfl rfl mA) (tfl 0 rfl rfl rS rfl wJ ?_)))))));obtain ⟨r2, h3, h⟩ := bns h;refine to (scr Try.call25 (aEv _ _ h3)) (ta (.i r2) (aB (aC (aA (tm (.i r2) (to (scm rfl rfl rfl) (aB ?_)))))));refine tih h (fun c4 h => ?_) (fun c4 h => ?_)
 ·refine aC (aA (tm (.i r2) (ta (.i r2) (aB ?_))));obtain rfl := sIn h;refine bM (bG (bI (l := [2]) ⟨rfl, trivial⟩)) ?_;exact aX ⟨rfl, _, .one _, rfl, rfl⟩
 ·refine aV (aC (aC (aA (ta (.i 0) (aB (bA ?_))))));refine bR (S := Int) [1] (fun s5 => [(4, .i s5)]) (fun s5 => [.box b1 0 (aS e)]) (fun k s5 => hJ e k s5) (fun _ => rfl) (0) h (aN [0] rfl rfl (aI rfl (aM ⟨rfl, trivial⟩))) ?_;rintro k6 a h;simp only [hJ] at h;refine aC (aC (aA (tm (.i a) (tfl 0 rfl rfl iX rfl cJ (to (sle rfl bH.of) (to (scm rfl rfl rfl) (aB ?_)))))));refine tih h (fun c7 h => ?_) (fun c7 h => ?_)
  ·refine aV (aC (bA (aC ?_)));obtain ⟨x8, h9, h⟩ := bns h;obtain ⟨g, u, h⟩ := bns h;obtain ⟨w, o, h⟩ := bns h;refine cR mix 25 [1, 4] [(44, .b w)] ?_ ?_
   ·refine bch o (fun f o => ?_) (fun f o => ?_)
    ·obtain rfl := sIn o;refine ⟨[(20, 0, .bp b1 0 3), (21, 1, .d (.sl 1 (e.Prizes.map aK))), (22, 2, .i a), (23, 3, .cp [.lit (.int .i64 x8)]), (24, 4, .i x8), (25, 5, .b g), (26, 6, .b (!g)), (27, 7, .b (!g)), (28, 8, .tup []), (29, 9, .tup []), (30, 10, .tup []), (31, 11, .tup []), (32, 12, .tup []), (33, 13, .tup []), (34, 14, .tup []), (35, 15, .tup []), (36, 16, .tup []), (37, 17, .tup []), (38, 18, .tup []), (39, 19, .tup []), (40, 20, .tup []), (41, 21, .tup []), (42, 22, .tup []), (43, 23, .tup []), (44, 24, .b true)], ?_, ?_⟩
     · exact dok [([], []), ([0], []), ([], []), ([1, 2], []), ([3], []), ([4], []), ([5], []), ([6], []), ([7], []), ([7, 8], []), ([7, 9], []), ([10], []), ([10, 11], []), ([10], []), ([10, 12, 13], []), ([10, 14], []), ([10], []), ([10, 16], []), ([10], []), ([10, 18], []), ([10, 17, 19], []), ([10, 20], []), ([10, 15, 21], []), ([7, 10, 22], []), ([7, 23], [])] ⟨go (zf rfl iX),
      go (zl 0 rfl rfl rfl cJ),
      go (zm (.i a)),
      go (zix rfl rfl bH.of (aW aK h9)),
      go (zlc rfl aP),
      go fun S hS => gC (aD rfl) (.func _ _ Try.call26) (ev2 (aT hS rfl) (ev2 rfl (ev2 rfl evn))) rfl (BVs.refl _ _) (dZ _ _ _ u) rfl,
      go (zn rfl),
      go (zm (.b (!g))),
      gp f,
      gp f,
      gp f,
      gq,
      gq,
      gq,
      gq,
      gq,
      gq,
      gq,
      gq,
      gq,
      gq,
      gq,
      gq,
      gp f,
      go (zpt (.b true) f), trivial⟩
     · exact cE (aI rfl (aM ⟨rfl, rfl, trivial⟩))
    ·obtain ⟨N, m, o⟩ := bns o;refine bch m (fun c m => ?_) (fun c m => ?_)
     ·obtain ⟨p, x, m⟩ := bns m;obtain ⟨q, y, m⟩ := bns m;obtain rfl := sIn m;obtain rfl := sIn o;refine ⟨[(20, 0, .bp b1 0 3), (21, 1, .d (.sl 1 (e.Prizes.map aK))), (22, 2, .i a), (23, 3, .cp [.lit (.int .i64 x8)]), (24, 4, .i x8), (25, 5, .b g), (26, 6, .b (!g)), (27, 7, .b (!g)), (28, 8, .i a), (29, 9, .b (decide (0 < a))), (30, 10, .b (decide (0 < a))), (31, 11, .bp b1 0 3), (32, 12, .d (.sl 1 (e.Prizes.map aK))), (33, 13, .i a), (34, 14, .cp [.lit (.int .i64 p)]), (35, 15, .i p), (36, 16, .bp b1 0 3), (37, 17, .d (.sl 1 (e.Prizes.map aK))), (38, 18, .i a), (39, 19, .i (w64 (a - 1))), (40, 20, .cp [.lit (.int .i64 q)]), (41, 21, .i q), (42, 22, .b (decide (p < q))), (43, 23, .b (decide (p < q))), (44, 24, .b (decide (p < q)))], ?_, ?_⟩
      · exact dok [([], []), ([0], []), ([], []), ([1, 2], []), ([3], []), ([4], []), ([5], []), ([6], []), ([7], []), ([7, 8], []), ([7, 9], []), ([10], []), ([10, 11], []), ([10], []), ([10, 12, 13], []), ([10, 14], []), ([10], []), ([10, 16], []), ([10], []), ([10, 18], []), ([10, 17, 19], []), ([10, 20], []), ([10, 15, 21], []), ([7, 10, 22], []), ([7, 23], [])] ⟨go (zf rfl iX),
      go (zl 0 rfl rfl rfl cJ),
      go (zm (.i a)),
      go (zix rfl rfl bH.of (aW aK h9)),
      go (zlc rfl aP),
      go fun S hS => gC (aD rfl) (.func _ _ Try.call26) (ev2 (aT hS rfl) (ev2 rfl (ev2 rfl evn))) rfl (BVs.refl _ _) (dZ _ _ _ u) rfl,
      go (zn rfl),
      go (zm (.b (!g))),
      gt f (zm (.i a)),
      gt f (zcm rfl rfl rfl),
      gt f (zm (.b (decide (0 < a)))),
      gt c (zf rfl iX),
      gt c (zl 0 rfl rfl rfl cJ),
      gt c (zm (.i a)),
      gt c (zix rfl rfl bH.of (aW aK x)),
      gt c (zlc rfl aP),
      gt c (zf rfl iX),
      gt c (zl 0 rfl rfl rfl cJ),
      gt c (zm (.i a)),
      gt c (zar rfl rfl rfl),
      gt c (zix rfl rfl bH.of (aW aK y)),
      gt c (zlc rfl aP),
      gt c (zcm rfl rfl rfl),
      gt f (zpt (.b (decide (p < q))) c),
      go (zpf (.b (decide (p < q))) f), trivial⟩
      · exact cE (aI rfl (aM ⟨rfl, rfl, trivial⟩))
     ·obtain rfl := sIn m;obtain rfl := sIn o;refine ⟨[(20, 0, .bp b1 0 3), (21, 1, .d (.sl 1 (e.Prizes.map aK))), (22, 2, .i a), (23, 3, .cp [.lit (.int .i64 x8)]), (24, 4, .i x8), (25, 5, .b g), (26, 6, .b (!g)), (27, 7, .b (!g)), (28, 8, .i a), (29, 9, .b (decide (0 < a))), (30, 10, .b (decide (0 < a))), (31, 11, .tup []), (32, 12, .tup []), (33, 13, .tup []), (34, 14, .tup []), (35, 15, .tup []), (36, 16, .tup []), (37, 17, .tup []), (38, 18, .tup []), (39, 19, .tup []), (40, 20, .tup []), (41, 21, .tup []), (42, 22, .tup []), (43, 23, .b false), (44, 24, .b (false))], ?_, ?_⟩
      · exact dok [([], []), ([0], []), ([], []), ([1, 2], []), ([3], []), ([4], []), ([5], []), ([6], []), ([7], []), ([7, 8], []), ([7, 9], []), ([10], []), ([10, 11], []), ([10], []), ([10, 12, 13], []), ([10, 14], []), ([10], []), ([10, 16], []), ([10], []), ([10, 18], []), ([10, 17, 19], []), ([10, 20], []), ([10, 15, 21], []), ([7, 10, 22], []), ([7, 23], [])] ⟨go (zf rfl iX),
      go (zl 0 rfl rfl rfl cJ),
      go (zm (.i a)),
      go (zix rfl rfl bH.of (aW aK h9)),
      go (zlc rfl aP),
      go fun S hS => gC (aD rfl) (.func _ _ Try.call26) (ev2 (aT hS rfl) (ev2 rfl (ev2 rfl evn))) rfl (BVs.refl _ _) (dZ _ _ _ u) rfl,
      go (zn rfl),
      go (zm (.b (!g))),
      gt f (zm (.i a)),
      gt f (zcm rfl rfl rfl),
      gt f (zm (.b (decide (0 < a)))),
      gp c,
      gp c,
      gp c,
      gp c,
      gp c,
      gp c,
      gp c,
      gp c,
      gp c,
      gp c,
      gp c,
      gp c,
      gt f (zpf (.b false) c),
      go (zpf (.b (false)) f), trivial⟩
      · exact cE (aI rfl (aM ⟨rfl, rfl, trivial⟩))
   ·refine aB ?_;refine tih h (fun z h => ?_) (fun z h => ?_)
    ·refine aC (aA (ta (.i 100) (aB ?_)));obtain rfl := sIn h;refine bM (bG (bI (l := [2]) ⟨rfl, trivial⟩)) ?_;exact aX ⟨rfl, _, .one _, rfl, rfl⟩
    ·refine cM ?_;refine aA (tm (.i a) (to (sar rfl rfl rfl) (ta (.i (w64 (a + 1))) (aB ?_))));exact ⟨(w64 (a + 1)), h, aN [0] rfl rfl (aI rfl (aM ⟨rfl, trivial⟩))⟩
  ·refine bT ?_;refine .inl ⟨rfl, ?_⟩;simp only [pE] at h;refine aC (aC (aA (tfl 0 rfl rfl iX rfl cJ (to (sle rfl bH.of) (to (sf rfl kK) (tfl 0 rfl rfl iP rfl aP (to (sar rfl rfl rfl) (to (scm rfl rfl rfl) (tm (.b (!decide ((e.Prizes.length : Int) = (w64 (e.Tree.Rounds + 1))))) ?_)))))))));obtain ⟨A, s, h⟩ := bns h;refine aZ 5 [1] 58 A ?_ ?_
   ·refine bch s (fun j s => ?_) (fun j s => ?_)
    ·refine tp j (tp j (tp j (tp j (to (spt (.b true) j) ?_))));obtain rfl := sIn s;refine aB (aL rfl ⟨rfl, trivial⟩ rfl)
    ·refine tkl 0 j rfl rfl aIi rfl aP ?_;obtain ⟨B, C, s⟩ := bns s;refine tk j (scr Try.call26 (dZ _ _ _ C)) (tk j (sn rfl) (to (spf (.b (!B)) j) ?_));obtain rfl := sIn s;refine aB (aL rfl ⟨rfl, trivial⟩ rfl)
   ·refine aB ?_;refine tih h (fun E h => ?_) (fun E h => ?_)
    ·refine aC (aA (ta (.i 100) (aB ?_)));obtain rfl := sIn h;refine bM (bG (bI (l := [2]) ⟨rfl, trivial⟩)) ?_;exact aX ⟨rfl, _, .one _, rfl, rfl⟩
    ·refine aV (aC (aC (aA (to (sla 0 (aS e) rfl rfl fC) ?_))));obtain ⟨F, G, h⟩ := bns h;refine to (scr Try.call27 (aBx _ G)) (to (sn rfl) (tm (.b (!F)) ?_));obtain ⟨H, t, h⟩ := bns h;refine aZ 4 [1] 66 H ?_ ?_
     ·refine bch t (fun n t => ?_) (fun n t => ?_)
      ·refine tp n (tp n (tp n (to (spt (.b true) n) ?_)));obtain rfl := sIn t;refine aB (aL rfl ⟨rfl, trivial⟩ rfl)
      ·refine tk n (sla 0 (aS e) rfl rfl fC) ?_;obtain ⟨I, J, t⟩ := bns t;refine tk n (scr Try.call28 (aBw _ J)) (tk n (sn rfl) (to (spf (.b (!I)) n) ?_));obtain rfl := sIn t;refine aB (aL rfl ⟨rfl, trivial⟩ rfl)
     ·refine aB ?_;refine tih h (fun K h => ?_) (fun K h => ?_)
      ·refine aC (aA (ta (.i 101) (aB ?_)));obtain rfl := sIn h;refine bM (bG (bI (l := [2]) ⟨rfl, trivial⟩)) ?_;exact aX ⟨rfl, _, .one _, rfl, rfl⟩
      ·refine aV (aC (aC (aA (to (sla 0 (aS e) rfl rfl fC) ?_))));obtain ⟨O, L, h⟩ := bns h;refine to (scr Try.call29 (aBv _ L)) (to (sn rfl) (aB ?_));refine tih h (fun M h => ?_) (fun M h => ?_)
       ·refine aC (aA (ta (.i 102) (aB ?_)));obtain rfl := sIn h;refine bM (bG (bI (l := [2]) ⟨rfl, trivial⟩)) ?_;exact aX ⟨rfl, _, .one _, rfl, rfl⟩
       ·refine aV (aC (aA (ta (.i 0) (aB ?_))));obtain rfl := sIn h;refine bM (bG (bI (l := [2]) ⟨rfl, trivial⟩)) ?_;exact aX ⟨rfl, _, .one _, rfl, rfl⟩

theorem aEu (a : aQ) {r : Bool} (h : mK a = some r) : Fn Try.prog 7 [.agg (aS a)] (.b r) := by
 unfold mK at h;refine Fn.of_tr Try.func7 rfl (rs := [.tmp 2]) Try.results7 Try.ntmps7 (Nat.le_of_ble_eq_true rfl) ?_;refine aC (aA ?_);refine bC rfl (eL (v := .agg (aS a)) (aD rfl) rfl rfl rfl) ?_;rintro _ ⟨b1, rfl⟩;refine ta (.b false) (aB (aC (aA (to (sla 0 (aS a) rfl rfl fC) ?_))));obtain ⟨r2, h3, h⟩ := bns h;refine to (scr Try.call19 (aIg _ h3)) (to (sn rfl) (tm (.b (!r2)) ?_));obtain ⟨b4, h5, h⟩ := bns h;refine aZ 4 [] 10 b4 ?_ ?_
 ·refine bch h5 (fun c6 h5 => ?_) (fun c6 h5 => ?_)
  ·refine tk c6 (sla 0 (aS a) rfl rfl fC) ?_;obtain ⟨r7, h8, h5⟩ := bns h5;refine tk c6 (scr Try.call14 (aEw _ h8)) (tk c6 (scm rfl rfl rfl) (to (spt (.b (decide (r7 = 0))) c6) ?_));obtain rfl := sIn h5;refine aB (aL rfl trivial rfl)
  ·refine tp c6 (tp c6 (tp c6 (to (spf (.b false) c6) ?_)));obtain rfl := sIn h5;refine aB (aL rfl trivial rfl)
 ·refine ta (.b b4) (aB ?_);obtain rfl := sIn h;refine bM (bG (bI (l := [2]) ⟨rfl, trivial⟩)) ?_;exact aX ⟨rfl, _, .one _, rfl, rfl⟩

theorem aCq {r : aQ} (h : mY = some r) : Fn Try.prog 20 [] (.agg (aS r)) := by
 unfold mY at h;refine kC Try.func20 rfl (rs := [.cell 0 31]) Try.results20 Try.ntmps20 (Nat.le_of_ble_eq_true rfl) ?_;refine aC (aA ?_);refine bC rfl (cP (zs := [.lit (.int .i64 0), .sl 1 ((([] : List Int)).map aK), .sl 5 ((([] : List aF)).map aJ), .sl 1 ((([] : List Int)).map aK), .lit (.int .i64 0), .sl 3 ((([] : List bX)).map bP), .sl 2 ((([] : List fS)).map cY), .sl 3 ((([] : List eM)).map cV), .sl 4 ((([] : List aH)).map aE)]) (aD rfl) Try.zeroValue31 rfl rfl) ?_;rintro _ ⟨b1, rfl⟩;refine aB (aC (aA (to (fK (aD rfl) bH rfl rfl (rows := ([1, 2, 3, 4]).map aK) rfl (cX (f := aK) fun _ => rfl) rfl (by decide)) ?_)));refine to (eA (aD rfl) aYf (zs := [.lit (.int .i64 0), .sl 1 ((([] : List Int)).map aK)]) rfl rfl rfl rfl (es := [.lit (.int .i64 2), .sl 1 ((([1, 2, 3, 4])).map aK)]) rfl) ?_;refine to (eA (aD rfl) aTv (zs := [.lit (.int .i64 0), .lit (.int .i64 0), .lit (.int .i64 0), .lit (.int .i64 0), .lit (.int .i64 0)]) rfl rfl rfl rfl (es := [.lit (.int .i64 1), .lit (.int .i64 0), .lit (.int .i64 0), .lit (.int .i64 1), .lit (.int .i64 0)]) rfl) ?_;refine to (fK (aD rfl) iA rfl rfl (rows := ([(aF.mk 1 0 0 1 0)]).map aJ) rfl (cX (f := aJ) fun _ => rfl) rfl (by decide)) ?_;refine to (fK (aD rfl) bH rfl rfl (rows := ([100, 300, 1001]).map aK) rfl (cX (f := aK) fun _ => rfl) rfl (by decide)) ?_;refine to (eA (aD rfl) aGp (zs := [.lit (.int .i64 0), .lit (.int .i64 0), .lit (.int .i64 0)]) rfl rfl rfl rfl (es := [.lit (.int .i64 1), .lit (.int .i64 11), .lit (.int .i64 12)]) rfl) ?_;refine to (eA (aD rfl) aGp (zs := [.lit (.int .i64 0), .lit (.int .i64 0), .lit (.int .i64 0)]) rfl rfl rfl rfl (es := [.lit (.int .i64 2), .lit (.int .i64 21), .lit (.int .i64 22)]) rfl) ?_;refine to (eA (aD rfl) aGp (zs := [.lit (.int .i64 0), .lit (.int .i64 0), .lit (.int .i64 0)]) rfl rfl rfl rfl (es := [.lit (.int .i64 3), .lit (.int .i64 31), .lit (.int .i64 (-1))]) rfl) ?_;refine to (eA (aD rfl) aGp (zs := [.lit (.int .i64 0), .lit (.int .i64 0), .lit (.int .i64 0)]) rfl rfl rfl rfl (es := [.lit (.int .i64 4), .lit (.int .i64 41), .lit (.int .i64 (-1))]) rfl) ?_;refine to (fK (aD rfl) mW rfl rfl (rows := ([(bX.mk 1 11 12), (bX.mk 2 21 22), (bX.mk 3 31 (-1)), (bX.mk 4 41 (-1))]).map bP) rfl (cX (f := bP) fun _ => rfl) rfl (by decide)) ?_;refine to (eA (aD rfl) aYi (zs := [.lit (.int .i64 0), .lit (.int .i64 0)]) rfl rfl rfl rfl (es := [.lit (.int .i64 11), .lit (.int .i64 250)]) rfl) ?_;refine to (fK (aD rfl) uY rfl rfl (rows := ([(fS.mk 11 250)]).map cY) rfl (cX (f := cY) fun _ => rfl) rfl (by decide)) ?_;refine to (eA (aD rfl) aTw (zs := [.lit (.int .i64 0), .lit (.int .i64 0), .lit (.int .i64 0)]) rfl rfl rfl rfl (es := [.lit (.int .i64 21), .lit (.int .i64 3), .lit (.int .i64 2)]) rfl) ?_;refine to (eA (aD rfl) aTw (zs := [.lit (.int .i64 0), .lit (.int .i64 0), .lit (.int .i64 0)]) rfl rfl rfl rfl (es := [.lit (.int .i64 22), .lit (.int .i64 1), .lit (.int .i64 3)]) rfl) ?_;refine to (fK (aD rfl) uD rfl rfl (rows := ([(eM.mk 21 3 2), (eM.mk 22 1 3)]).map cV) rfl (cX (f := cV) fun _ => rfl) rfl (by decide)) ?_;refine to (eA (aD rfl) aOq (zs := [.lit (.int .i64 0), .lit (.int .i64 0), .lit (.int .i64 0), .lit (.int .i64 0)]) rfl rfl rfl rfl (es := [.lit (.int .i64 1), .lit (.int .i64 1), .lit (.int .i64 21), .lit (.int .i64 30)]) rfl) ?_;refine to (eA (aD rfl) aOq (zs := [.lit (.int .i64 0), .lit (.int .i64 0), .lit (.int .i64 0), .lit (.int .i64 0)]) rfl rfl rfl rfl (es := [.lit (.int .i64 2), .lit (.int .i64 2), .lit (.int .i64 11), .lit (.int .i64 2)]) rfl) ?_;refine to (eA (aD rfl) aOq (zs := [.lit (.int .i64 0), .lit (.int .i64 0), .lit (.int .i64 0), .lit (.int .i64 0)]) rfl rfl rfl rfl (es := [.lit (.int .i64 3), .lit (.int .i64 1), .lit (.int .i64 31), .lit (.int .i64 160)]) rfl) ?_;refine to (fK (aD rfl) dB rfl rfl (rows := ([(aH.mk 1 1 21 30), (aH.mk 2 2 11 2), (aH.mk 3 1 31 160)]).map aE) rfl (cX (f := aE) fun _ => rfl) rfl (by decide)) ?_;refine to (eA (aD rfl) aYg (zs := [.lit (.int .i64 0), .sl 1 ((([] : List Int)).map aK), .sl 5 ((([] : List aF)).map aJ), .sl 1 ((([] : List Int)).map aK), .lit (.int .i64 0), .sl 3 ((([] : List bX)).map bP), .sl 2 ((([] : List fS)).map cY), .sl 3 ((([] : List eM)).map cV), .sl 4 ((([] : List aH)).map aE)]) rfl rfl rfl rfl (es := [.lit (.int .i64 2), .sl 1 ((([1, 2, 3, 4])).map aK), .sl 5 ((([(aF.mk 1 0 0 1 0)])).map aJ), .sl 1 ((([100, 300, 1001])).map aK), .lit (.int .i64 40), .sl 3 ((([(bX.mk 1 11 12), (bX.mk 2 21 22), (bX.mk 3 31 (-1)), (bX.mk 4 41 (-1))])).map bP), .sl 2 ((([(fS.mk 11 250)])).map cY), .sl 3 ((([(eM.mk 21 3 2), (eM.mk 22 1 3)])).map cV), .sl 4 ((([(aH.mk 1 1 21 30), (aH.mk 2 2 11 2), (aH.mk 3 1 31 160)])).map aE)]) rfl) ?_;refine to (sst 0 rfl rfl Try.sizeOf31 (aS (aQ.mk (aU.mk 2 ([1, 2, 3, 4])) ([(aF.mk 1 0 0 1 0)]) ([100, 300, 1001]) 40 ([(bX.mk 1 11 12), (bX.mk 2 21 22), (bX.mk 3 31 (-1)), (bX.mk 4 41 (-1))]) ([(fS.mk 11 250)]) ([(eM.mk 21 3 2), (eM.mk 22 1 3)]) ([(aH.mk 1 1 21 30), (aH.mk 2 2 11 2), (aH.mk 3 1 31 160)])))) (aB ?_);obtain rfl := sIn h;exact aX ⟨rfl, _, [.box b1 0 (aS (aQ.mk (aU.mk 2 ([1, 2, 3, 4])) ([(aF.mk 1 0 0 1 0)]) ([100, 300, 1001]) 40 ([(bX.mk 1 11 12), (bX.mk 2 21 22), (bX.mk 3 31 (-1)), (bX.mk 4 41 (-1))]) ([(fS.mk 11 250)]) ([(eM.mk 21 3 2), (eM.mk 22 1 3)]) ([(aH.mk 1 1 21 30), (aH.mk 2 2 11 2), (aH.mk 3 1 31 160)])))], .one (.cell 0 31 rfl (i := 0) rfl fC (es := (aS (aQ.mk (aU.mk 2 ([1, 2, 3, 4])) ([(aF.mk 1 0 0 1 0)]) ([100, 300, 1001]) 40 ([(bX.mk 1 11 12), (bX.mk 2 21 22), (bX.mk 3 31 (-1)), (bX.mk 4 41 (-1))]) ([(fS.mk 11 250)]) ([(eM.mk 21 3 2), (eM.mk 22 1 3)]) ([(aH.mk 1 1 21 30), (aH.mk 2 2 11 2), (aH.mk 3 1 31 160)])))) rfl rfl), .refl _, .same _⟩

theorem fY (d : Int) (c : Int) (a : Int) {r : Bool} (h : fT d c a = some r) : Fn Try.prog 73 [.i d, .i c, .i a] (.b r) := by
 unfold fT at h;refine Fn.of_tr Try.func73 rfl (rs := [.tmp 6]) Try.results73 Try.ntmps73 (Nat.le_of_ble_eq_true rfl) ?_;refine aC (aA (ta (.b false) (aB (aC (aA (tm (.i c) (tm (.i d) (to (scm rfl rfl rfl) (tm (.b (decide (c ≤ d))) ?_)))))))));obtain ⟨b1, h2, h⟩ := bns h;refine aZ 4 [] 14 b1 ?_ ?_
 ·refine bch h2 (fun c3 h2 => ?_) (fun c3 h2 => ?_)
  ·refine tk c3 (sm (.i d)) (tk c3 (sm (.i a)) (tk c3 (scm rfl rfl rfl) (to (spt (.b (decide (d ≤ a))) c3) ?_)));obtain rfl := sIn h2;refine aB (aL rfl trivial rfl)
  ·refine tp c3 (tp c3 (tp c3 (to (spf (.b false) c3) ?_)));obtain rfl := sIn h2;refine aB (aL rfl trivial rfl)
 ·refine ta (.b b1) (aB ?_);obtain rfl := sIn h;exact aX ⟨rfl, _, .one _, rfl, rfl⟩

theorem aId (g : aU) {r : Bool} (h : oO g = some r) : Fn Try.prog 46 [.agg (bD g)] (.b r) := by
 unfold oO at h;refine Fn.of_tr Try.func46 rfl (rs := [.tmp 2]) Try.results46 Try.ntmps46 (Nat.le_of_ble_eq_true rfl) ?_;refine aC (aA ?_);refine bC rfl (eL (v := .agg (bD g)) (aD rfl) rfl rfl rfl) ?_;rintro _ ⟨b1, rfl⟩;refine ta (.b false) (aB (aC (aC ?_)));obtain ⟨r2, h3, h⟩ := bns h;obtain ⟨b4, h5, h⟩ := bns h;refine cR mix 13 [1] [(18, .b b4)] ?_ ?_
 ·refine bch h5 (fun c6 h5 => ?_) (fun c6 h5 => ?_)
  ·obtain rfl := sIn h5;refine ⟨[(6, 0, .bp b1 0 0), (7, 1, .i g.Rounds), (8, 2, .b r2), (9, 3, .b (!r2)), (10, 4, .b (!r2)), (11, 5, .tup []), (12, 6, .tup []), (13, 7, .tup []), (14, 8, .tup []), (15, 9, .tup []), (16, 10, .tup []), (17, 11, .tup []), (18, 12, .b true)], ?_, ?_⟩
   · exact dok [([], []), ([0], []), ([1], []), ([2], []), ([3], []), ([4], []), ([4, 5], []), ([4, 6], []), ([4], []), ([4, 8], []), ([4, 9], []), ([4, 7, 10], []), ([4, 11], [])] ⟨go (zf rfl iP),
      go (zl 0 rfl rfl rfl aP),
      go fun S hS => gC (aD rfl) (.func _ _ Try.call73) (ev2 (aT hS rfl) (ev2 rfl (ev2 rfl evn))) rfl (BVs.refl _ _) (fY _ _ _ h3) rfl,
      go (zn rfl),
      go (zm (.b (!r2))),
      gp c6,
      gp c6,
      gp c6,
      gp c6,
      gp c6,
      gp c6,
      gp c6,
      go (zpt (.b true) c6), trivial⟩
   · exact cE (aI rfl (aM ⟨rfl, trivial⟩))
  ·obtain ⟨u7, h8, h5⟩ := bns h5;obtain rfl := sIn h5;refine ⟨[(6, 0, .bp b1 0 0), (7, 1, .i g.Rounds), (8, 2, .b r2), (9, 3, .b (!r2)), (10, 4, .b (!r2)), (11, 5, .bp b1 0 1), (12, 6, .d (.sl 1 (g.Slots.map aK))), (13, 7, .i (g.Slots.length : Int)), (14, 8, .bp b1 0 0), (15, 9, .i g.Rounds), (16, 10, .i (w64 (1 * 2 ^ (min g.Rounds.toNat 64)))), (17, 11, .b (!decide ((g.Slots.length : Int) = (w64 (1 * 2 ^ (min g.Rounds.toNat 64)))))), (18, 12, .b (!decide ((g.Slots.length : Int) = (w64 (1 * 2 ^ (min g.Rounds.toNat 64))))))], ?_, ?_⟩
   · exact dok [([], []), ([0], []), ([1], []), ([2], []), ([3], []), ([4], []), ([4, 5], []), ([4, 6], []), ([4], []), ([4, 8], []), ([4, 9], []), ([4, 7, 10], []), ([4, 11], [])] ⟨go (zf rfl iP),
      go (zl 0 rfl rfl rfl aP),
      go fun S hS => gC (aD rfl) (.func _ _ Try.call73) (ev2 (aT hS rfl) (ev2 rfl (ev2 rfl evn))) rfl (BVs.refl _ _) (fY _ _ _ h3) rfl,
      go (zn rfl),
      go (zm (.b (!r2))),
      gt c6 (zf rfl eC),
      gt c6 (zl 0 rfl rfl rfl cJ),
      gt c6 (zle rfl bH.of),
      gt c6 (zf rfl iP),
      gt c6 (zl 0 rfl rfl rfl aP),
      gt c6 fun S hS => aMs (aD rfl) rfl (aT hS rfl) (aAs h8),
      gt c6 (zcm rfl rfl rfl),
      go (zpf (.b (!decide ((g.Slots.length : Int) = (w64 (1 * 2 ^ (min g.Rounds.toNat 64)))))) c6), trivial⟩
   · exact cE (aI rfl (aM ⟨rfl, trivial⟩))
 ·refine aB ?_;refine tih h (fun c9 h => ?_) (fun c9 h => ?_)
  ·refine aC (aA (ta (.b false) (aB ?_)));obtain rfl := sIn h;refine bM (bG (bI (l := [2]) ⟨rfl, trivial⟩)) ?_;exact aX ⟨rfl, _, .one _, rfl, rfl⟩
  ·refine aV (aC (aA ?_));refine bC rfl (aBd (aD rfl)) ?_;rintro _ ⟨t, rfl⟩;refine ta (.d (.lit (.map (some t)))) (aB (aC (aC (aA (tfl 0 rfl rfl eC rfl cJ (to (sle rfl bH.of) (tm (.i 0) (aB (bA ?_)))))))));refine bR (S := Int × (List (Int × Int)) × (List Nat) × Nat) [1, 3, 21, 22] (fun o => [(23, .i o.1)]) (fun o => [.box b1 0 (bD g), .map t (o.2.1.map fun p : Int × Int => ((fun n : Int => Value.int .i64 n) p.1, (fun v : Int => AV.i v) p.2)) o.2.2.1 o.2.2.2]) (fun k o => iS g.Slots (g.Slots.length : Int) g k o.1 o.2.1) (fun _ => rfl) (0, ([] : List (Int × Int)), [], 0) h (aN [0, 1] rfl rfl (aI rfl (aM ⟨rfl, rfl, rfl, rfl, trivial⟩))) ?_;rintro H ⟨f, c, u, s⟩ h;simp only [iS] at h;refine aC (aA (to (scm rfl rfl rfl) (aB (aC ?_))));refine tih h (fun w h => ?_) (fun w h => ?_)
   ·refine aV (aC (bA (aC (aA (tm (.i f) ?_)))));obtain ⟨e, x, h⟩ := bns h;refine to (six rfl rfl bH.of (aW aK x)) (to (slc rfl aP) (ta (.i f) (ta (.i e) (aB (aC (aC (aA (tm (.i e) (to (scm rfl rfl rfl) (aB ?_))))))))));refine tih h (fun y h => ?_) (fun y h => ?_)
    ·refine aC (aC (aA (tfl 0 rfl rfl eC rfl cJ (tm (.i f) (to (aTk (aD rfl) rfl rfl (.inr (.inr ⟨rfl, rfl⟩))) ?_)))));obtain ⟨I, A, h⟩ := bns h;refine to (six rfl rfl bH.of (aW aK A)) (to (slc rfl aP) (to (scm rfl rfl rfl) (aB ?_)));refine tih h (fun B h => ?_) (fun B h => ?_)
     ·refine aC (aA (ta (.b false) (aB ?_)));obtain rfl := sIn h;refine bM (bG (bI (l := [2]) ⟨rfl, trivial⟩)) ?_;exact aX ⟨rfl, _, .one _, rfl, rfl⟩
     ·refine aV ?_;refine bT ?_;refine .inl ⟨rfl, ?_⟩;refine aA (to (sar rfl rfl rfl) (tm (.i (w64 (f + 1))) (aB ?_)));exact ⟨(w64 (f + 1), c, u, s), h, aN [0, 1] rfl rfl (aI rfl (aM ⟨rfl, rfl, rfl, rfl, trivial⟩))⟩
    ·refine aV (aC (aA (tm (.d (.lit (.map (some t)))) (tm (.i e) (to (aDt (av := (fun v : Int => AV.i v)) (l := c) (z := 0) (a := e) (m := 1) (aD rfl) aRf Try.underlying117 Try.zeroValue3 (fun _ _ => .d (.lit _ rfl)) rfl rfl rfl rfl (aFg (kv := (fun n : Int => Value.int .i64 n)) e)) ?_)))));refine to (sar rfl rfl rfl) (to (aBp (av := (fun v : Int => AV.i v)) (l := c) (v := w64 ((cU e 0 c) + 1)) (a := e) (m := 1) aRf Try.underlying117 rfl rfl rfl rfl (aFg (kv := (fun n : Int => Value.int .i64 n)) e) rfl rfl) ?_);refine aB (aC (aA (tm (.d (.lit (.map (some t)))) (tm (.i e) (to (aDt (av := (fun v : Int => AV.i v)) (l := (gL e (w64 ((cU e 0 c) + 1)) c)) (z := 0) (a := e) (m := 1) (aD rfl) aRf Try.underlying117 Try.zeroValue3 (fun _ _ => .d (.lit _ rfl)) rfl rfl rfl rfl (aFg (kv := (fun n : Int => Value.int .i64 n)) e)) ?_)))));refine to (scm rfl rfl rfl) (tm (.b (decide (1 < (cU e 0 (gL e (w64 ((cU e 0 c) + 1)) c))))) ?_);obtain ⟨C, q, h⟩ := bns h;refine aZ 4 [1, 3, 21, 22, 23] 49 C ?_ ?_
     ·refine bch q (fun j q => ?_) (fun j q => ?_)
      ·refine tp j (tp j (tp j (to (spt (.b true) j) ?_)));obtain rfl := sIn q;refine aB (aL rfl ⟨rfl, rfl, rfl, rfl, rfl, trivial⟩ rfl)
      ·refine tk j (sm (.i e)) ?_;obtain ⟨E, F, q⟩ := bns q;refine tk j (scr Try.call73 (fY _ _ _ F)) (tk j (sn rfl) (to (spf (.b (!E)) j) ?_));obtain rfl := sIn q;refine aB (aL rfl ⟨rfl, rfl, rfl, rfl, rfl, trivial⟩ rfl)
     ·refine aB ?_;refine tih h (fun G h => ?_) (fun G h => ?_)
      ·refine aC (aA (ta (.b false) (aB ?_)));obtain rfl := sIn h;refine bM (bG (bI (l := [2]) ⟨rfl, trivial⟩)) ?_;exact aX ⟨rfl, _, .one _, rfl, rfl⟩
      ·refine cM ?_;refine aA (to (sar rfl rfl rfl) (tm (.i (w64 (f + 1))) (aB ?_)));exact ⟨(w64 (f + 1), (gL e (w64 ((cU e 0 c) + 1)) c), (mbs e c u s), (mck e c s)), h, aN [0, 1] rfl rfl (aI rfl (aM ⟨rfl, rfl, rfl, rfl, trivial⟩))⟩
   ·refine bT ?_;refine .inl ⟨rfl, ?_⟩;simp only [uG] at h;refine aC (aA (ta (.b true) (aB ?_)));obtain rfl := sIn h;refine bM (bG (bI (l := [2]) ⟨rfl, trivial⟩)) ?_;exact aX ⟨rfl, _, .one _, rfl, rfl⟩

theorem yB (e : List aF) (g : aF → Option Bool) {r : Int} (c : Nat) (f : List AV) (j : ∀ args w, (callFunc c args).run Try.prog w = .ok (.enter c args) w) (l : ∀ (x0 : aF) r, g x0 = some r → Fn Try.prog c ([.agg (aJ x0)] ++ f) (.b r)) (h : jB e g = some r) : Fn Try.prog 74 [.d (.sl 5 (e.map aJ)), .fn c f] (.i r) := by
 unfold jB at h;refine Fn.of_tr Try.func74 rfl (rs := [.tmp 4]) Try.results74 Try.ntmps74 (Nat.le_of_ble_eq_true rfl) ?_;refine aC (aA (ta (.i 0) (aB (aC (aC (aA (tm (.d (.sl 5 (e.map aJ))) (to (sle rfl iA.of) (tm (.i 0) (aB (bA ?_)))))))))));refine bR (S := Int) [0, 1, 7] (fun s1 => [(8, .i s1)]) (fun s1 => []) (fun k s1 => eY e g (e.length : Int) k s1) (fun _ => rfl) (0) h (aN [] rfl rfl (aI rfl (aM ⟨rfl, rfl, rfl, trivial⟩))) ?_;rintro k2 a h;simp only [eY] at h;refine aC (aA (to (scm rfl rfl rfl) (aB (aC ?_))));refine tih h (fun c3 h => ?_) (fun c3 h => ?_)
 ·refine aV (aC (bA (aC (aA (tm (.i a) (ta (.i a) (aB (aC (aA (tm (.fn c f) (tm (.d (.sl 5 (e.map aJ))) (tm (.i a) ?_))))))))))));obtain ⟨x4, h5, h⟩ := bns h;refine to (six rfl rfl iA.of (aW aJ h5)) (to (pH (aJ x4) rfl lI) ?_);obtain ⟨r6, h7, h⟩ := bns h;refine to (gC (aD rfl) (.clo _ _ _ _ j rfl) (zT rfl) rfl (BVs.refl _ _) (l _ _  h7) rfl) ?_;refine aB ?_;refine tih h (fun c8 h => ?_) (fun c8 h => ?_)
  ·refine aC (aA (tm (.i a) (ta (.i a) (aB ?_))));obtain rfl := sIn h;exact aX ⟨rfl, _, .one _, rfl, rfl⟩
  ·refine cM ?_;refine aA (to (sar rfl rfl rfl) (tm (.i (w64 (a + 1))) (aB ?_)));exact ⟨(w64 (a + 1)), h, aN [] rfl rfl (aI rfl (aM ⟨rfl, rfl, rfl, trivial⟩))⟩
 ·refine bT ?_;refine .inl ⟨rfl, ?_⟩;simp only [mQ] at h;refine aC (aA (ta (.i (-1)) (aB ?_)));obtain rfl := sIn h;exact aX ⟨rfl, _, .one _, rfl, rfl⟩

theorem wU (e : List aF) (i : aF → Option Bool) {r : Bool} (a : Nat) (c : List AV) (f : ∀ args w, (callFunc a args).run Try.prog w = .ok (.enter a args) w) (g : ∀ (x0 : aF) r, i x0 = some r → Fn Try.prog a ([.agg (aJ x0)] ++ c) (.b r)) (h : iE e i = some r) : Fn Try.prog 47 [.d (.sl 5 (e.map aJ)), .fn a c] (.b r) := by
 unfold iE at h;refine Fn.of_tr Try.func47 rfl (rs := [.tmp 4]) Try.results47 Try.ntmps47 (Nat.le_of_ble_eq_true rfl) ?_;refine aC (aA (ta (.b false) (aB (aC (aA (tm (.d (.sl 5 (e.map aJ))) (tm (.fn a c) ?_)))))));obtain ⟨r1, h2, h⟩ := bns h;refine to (scr Try.call74 (yB _ _ a c f g h2)) (to (scm rfl rfl rfl) (ta (.b (decide (0 ≤ r1))) (aB ?_)));obtain rfl := sIn h;exact aX ⟨rfl, _, .one _, rfl, rfl⟩

theorem aEq (c : aG) (a : aU) {r : Bool} (h : oV c a = some r) : Fn Try.prog 75 [.agg (aO c), .agg (bD a)] (.b r) := by
 unfold oV at h;refine Fn.of_tr Try.func75 rfl (rs := [.tmp 4]) Try.results75 Try.ntmps75 (Nat.le_of_ble_eq_true rfl) ?_;refine aC (aA ?_);refine bC rfl (eL (v := .agg (aO c)) (aD rfl) rfl rfl rfl) ?_;rintro _ ⟨b1, rfl⟩;refine bC rfl (eL (v := .agg (bD a)) (aD rfl) rfl rfl rfl) ?_;rintro _ ⟨b2, rfl⟩;refine ta (.b false) (aB (aC ?_));obtain ⟨r3, h4, h⟩ := bns h;obtain ⟨b5, h6, h⟩ := bns h;refine cR mix 19 [] [(23, .b b5)] ?_ ?_
 ·refine bch h6 (fun c7 h6 => ?_) (fun c7 h6 => ?_)
  ·obtain ⟨u8, h9, h6⟩ := bns h6;obtain ⟨e, f, h6⟩ := bns h6;obtain rfl := sIn h6;refine ⟨[(5, 0, .bp b1 0 0), (6, 1, .i c.round), (7, 2, .bp b2 0 0), (8, 3, .i a.Rounds), (9, 4, .i (w64 (a.Rounds - 1))), (10, 5, .b r3), (11, 6, .b r3), (12, 7, .bp b1 0 1), (13, 8, .i c.place), (14, 9, .bp b2 0 1), (15, 10, .d (.sl 1 (a.Slots.map aK))), (16, 11, .i (a.Slots.length : Int)), (17, 12, .bp b1 0 0), (18, 13, .i c.round), (19, 14, .i (w64 (c.round + 1))), (20, 15, .i ((a.Slots.length : Int).fdiv (2 ^ (min (w64 (c.round + 1)).toNat 64)))), (21, 16, .i (w64 (((a.Slots.length : Int).fdiv (2 ^ (min (w64 (c.round + 1)).toNat 64))) - 1))), (22, 17, .b e), (23, 18, .b e)], ?_, ?_⟩
   · exact dok [([], []), ([0], []), ([], []), ([2], []), ([3], []), ([1, 4], []), ([5], []), ([6], []), ([6, 7], []), ([6], []), ([6, 9], []), ([6, 10], []), ([6], []), ([6, 12], []), ([6, 13], []), ([6, 11, 14], []), ([6, 15], []), ([6, 8, 16], []), ([6, 17], [])] ⟨go (zf rfl tE),
      go (zl 0 rfl rfl rfl aP),
      go (zf rfl iP),
      go (zl 1 rfl rfl rfl aP),
      go (zar rfl rfl rfl),
      go fun S hS => gC (aD rfl) (.func _ _ Try.call73) (ev2 (aT hS rfl) (ev2 rfl (ev2 (aT hS rfl) evn))) rfl (BVs.refl _ _) (fY _ _ _ h4) rfl,
      go (zm (.b r3)),
      gt c7 (zf rfl aSq),
      gt c7 (zl 0 rfl rfl rfl aP),
      gt c7 (zf rfl eC),
      gt c7 (zl 1 rfl rfl rfl cJ),
      gt c7 (zle rfl bH.of),
      gt c7 (zf rfl tE),
      gt c7 (zl 0 rfl rfl rfl aP),
      gt c7 (zar rfl rfl rfl),
      gt c7 fun S hS => zC (aD rfl) (aT hS rfl) (aT hS rfl) (aAs h9),
      gt c7 (zar rfl rfl rfl),
      gt c7 fun S hS => gC (aD rfl) (.func _ _ Try.call73) (ev2 (aT hS rfl) (ev2 rfl (ev2 (aT hS rfl) evn))) rfl (BVs.refl _ _) (fY _ _ _ f) rfl,
      go (zpt (.b e) c7), trivial⟩
   · exact cE (aI rfl (aM trivial))
  ·obtain rfl := sIn h6;refine ⟨[(5, 0, .bp b1 0 0), (6, 1, .i c.round), (7, 2, .bp b2 0 0), (8, 3, .i a.Rounds), (9, 4, .i (w64 (a.Rounds - 1))), (10, 5, .b r3), (11, 6, .b r3), (12, 7, .tup []), (13, 8, .tup []), (14, 9, .tup []), (15, 10, .tup []), (16, 11, .tup []), (17, 12, .tup []), (18, 13, .tup []), (19, 14, .tup []), (20, 15, .tup []), (21, 16, .tup []), (22, 17, .tup []), (23, 18, .b false)], ?_, ?_⟩
   · exact dok [([], []), ([0], []), ([], []), ([2], []), ([3], []), ([1, 4], []), ([5], []), ([6], []), ([6, 7], []), ([6], []), ([6, 9], []), ([6, 10], []), ([6], []), ([6, 12], []), ([6, 13], []), ([6, 11, 14], []), ([6, 15], []), ([6, 8, 16], []), ([6, 17], [])] ⟨go (zf rfl tE),
      go (zl 0 rfl rfl rfl aP),
      go (zf rfl iP),
      go (zl 1 rfl rfl rfl aP),
      go (zar rfl rfl rfl),
      go fun S hS => gC (aD rfl) (.func _ _ Try.call73) (ev2 (aT hS rfl) (ev2 rfl (ev2 (aT hS rfl) evn))) rfl (BVs.refl _ _) (fY _ _ _ h4) rfl,
      go (zm (.b r3)),
      gp c7,
      gp c7,
      gp c7,
      gp c7,
      gp c7,
      gp c7,
      gp c7,
      gp c7,
      gp c7,
      gp c7,
      gp c7,
      go (zpf (.b false) c7), trivial⟩
   · exact cE (aI rfl (aM trivial))
 ·refine ta (.b b5) (aB ?_);obtain rfl := sIn h;refine bM (bG (bI (l := [4]) ⟨rfl, trivial⟩)) ?_;exact aX ⟨rfl, _, .one _, rfl, rfl⟩

theorem tT (b : List Int) (c : Int) {r : Int} (h : gU b c = some r) : Fn Try.prog 79 [.d (.sl 1 (b.map aK)), .i c] (.i r) := by
 unfold gU at h;refine Fn.of_tr Try.func79 rfl (rs := [.tmp 4]) Try.results79 Try.ntmps79 (Nat.le_of_ble_eq_true rfl) ?_;refine aC (aA (ta (.i 0) (aB (aC (aC (aA (tm (.d (.sl 1 (b.map aK))) (to (sle rfl bH.of) (tm (.i 0) (aB (bA ?_)))))))))));refine bR (S := Int) [0, 1, 7] (fun s1 => [(8, .i s1)]) (fun s1 => []) (fun k s1 => iY b c (b.length : Int) k s1) (fun _ => rfl) (0) h (aN [] rfl rfl (aI rfl (aM ⟨rfl, rfl, rfl, trivial⟩))) ?_;rintro k2 a h;simp only [iY] at h;refine aC (aA (to (scm rfl rfl rfl) (aB (aC ?_))));refine tih h (fun c3 h => ?_) (fun c3 h => ?_)
 ·refine aV (aC (bA (aC (aA (tm (.i a) (ta (.i a) (aB (aC (aA (tm (.i c) (tm (.d (.sl 1 (b.map aK))) (tm (.i a) ?_))))))))))));obtain ⟨x4, h5, h⟩ := bns h;refine to (six rfl rfl bH.of (aW aK h5)) (to (slc rfl aP) (to (scm rfl rfl rfl) (aB ?_)));refine tih h (fun c6 h => ?_) (fun c6 h => ?_)
  ·refine aC (aA (tm (.i a) (ta (.i a) (aB ?_))));obtain rfl := sIn h;exact aX ⟨rfl, _, .one _, rfl, rfl⟩
  ·refine cM ?_;refine aA (to (sar rfl rfl rfl) (tm (.i (w64 (a + 1))) (aB ?_)));exact ⟨(w64 (a + 1)), h, aN [] rfl rfl (aI rfl (aM ⟨rfl, rfl, rfl, trivial⟩))⟩
 ·refine bT ?_;refine .inl ⟨rfl, ?_⟩;simp only [sR] at h;refine aC (aA (ta (.i (-1)) (aB ?_)));obtain rfl := sIn h;exact aX ⟨rfl, _, .one _, rfl, rfl⟩

theorem eW (a : List Int) (c : Int) {r : Bool} (h : dE a c = some r) : Fn Try.prog 54 [.d (.sl 1 (a.map aK)), .i c] (.b r) := by
 unfold dE at h;refine Fn.of_tr Try.func54 rfl (rs := [.tmp 4]) Try.results54 Try.ntmps54 (Nat.le_of_ble_eq_true rfl) ?_;refine aC (aA (ta (.b false) (aB (aC (aA (tm (.d (.sl 1 (a.map aK))) (tm (.i c) ?_)))))));obtain ⟨r1, h2, h⟩ := bns h;refine to (scr Try.call79 (tT _ _ h2)) (to (scm rfl rfl rfl) (ta (.b (decide (0 ≤ r1))) (aB ?_)));obtain rfl := sIn h;exact aX ⟨rfl, _, .one _, rfl, rfl⟩

theorem aIc (n : aU) (d : aF) {r : Bool} (h : qQ n d = some r) : Fn Try.prog 49 [.agg (bD n), .agg (aJ d)] (.b r) := by
 unfold qQ at h;refine Fn.of_tr Try.func49 rfl (rs := [.tmp 4]) Try.results49 Try.ntmps49 (Nat.le_of_ble_eq_true rfl) ?_;refine aC (aA ?_);refine bC rfl (eL (v := .agg (bD n)) (aD rfl) rfl rfl rfl) ?_;rintro _ ⟨b1, rfl⟩;refine bC rfl (eL (v := .agg (aJ d)) (aD rfl) rfl rfl rfl) ?_;rintro _ ⟨b2, rfl⟩;refine ta (.b false) (aB (aC (aC (aA (tfl 1 rfl rfl nR rfl aP ?_)))));obtain ⟨r3, h4, h⟩ := bns h;refine to (scr Try.call73 (fY _ _ _ h4)) (to (sn rfl) (aB ?_));refine tih h (fun c5 h => ?_) (fun c5 h => ?_)
 ·refine aC (aA (ta (.b false) (aB ?_)));obtain rfl := sIn h;refine bM (bG (bI (l := [4]) ⟨rfl, trivial⟩)) ?_;exact aX ⟨rfl, _, .one _, rfl, rfl⟩
 ·refine aV (aC (aC (aA (tfl 1 rfl rfl nQ rfl aP (to (scm rfl rfl rfl) (aB ?_))))));refine tih h (fun c6 h => ?_) (fun c6 h => ?_)
  ·refine aC (aA (tfl 1 rfl rfl oY rfl aP (to (scm rfl rfl rfl) (tm (.b (decide (d.Round = 0))) ?_))));obtain ⟨b7, h8, h⟩ := bns h;refine aZ 8 [3] 24 b7 ?_ ?_
   ·refine bch h8 (fun c h8 => ?_) (fun c h8 => ?_)
    ·refine tkl 1 c rfl rfl kL rfl aP (tkl 0 c rfl rfl eC rfl cJ (tk c (sle rfl bH.of) (tk c (sar rfl rfl rfl) ?_)));obtain ⟨q, s, h8⟩ := bns h8;refine tk c (scr Try.call73 (fY _ _ _ s)) (to (spt (.b q) c) ?_);obtain rfl := sIn h8;refine aB (aL rfl ⟨rfl, trivial⟩ rfl)
    ·refine tp c (tp c (tp c (tp c (tp c (tp c (tp c (to (spf (.b false) c) ?_)))))));obtain rfl := sIn h8;refine aB (aL rfl ⟨rfl, trivial⟩ rfl)
   ·refine tm (.b b7) ?_;obtain ⟨b9, j, h⟩ := bns h;refine aZ 4 [] 29 b9 ?_ ?_
    ·refine bch j (fun g j => ?_) (fun g j => ?_)
     ·refine tkl 1 g rfl rfl xE rfl aP ?_;obtain ⟨t, u, j⟩ := bns j;refine tk g (scr Try.call73 (fY _ _ _ u)) (to (spt (.b t) g) ?_);obtain rfl := sIn j;refine aB (aL rfl trivial rfl)
     ·refine tp g (tp g (tp g (to (spf (.b false) g) ?_)));obtain rfl := sIn j;refine aB (aL rfl trivial rfl)
    ·refine ta (.b b9) (aB ?_);obtain rfl := sIn h;refine bM (bG (bI (l := [4]) ⟨rfl, trivial⟩)) ?_;exact aX ⟨rfl, _, .one _, rfl, rfl⟩
  ·refine aV (aC (aA (tfl 1 rfl rfl oY rfl aP (tfl 1 rfl rfl kL rfl aP (to (eA (aD rfl) aLb (zs := [.lit (.int .i64 0), .lit (.int .i64 0)]) rfl rfl rfl rfl (es := [.lit (.int .i64 d.Round), .lit (.int .i64 d.Place)]) rfl) ?_)))));refine bC rfl (cP (zs := [.lit (.int .i64 0), .lit (.int .i64 0)]) (aD rfl) Try.zeroValue120 rfl rfl) ?_;rintro _ ⟨G, rfl⟩;refine to (sst 2 rfl rfl Try.sizeOf120 (aO (aG.mk d.Round d.Place))) (aB (aC (aC (aA (tfl 1 rfl rfl nQ rfl aP ?_)))));obtain ⟨w, x, h⟩ := bns h;refine to (scr Try.call73 (fY _ _ _ x)) (to (sn rfl) (tm (.b (!w)) ?_));obtain ⟨o, m, h⟩ := bns h;refine aZ 4 [2, 3, 5] 43 o ?_ ?_
   ·refine bch m (fun i m => ?_) (fun i m => ?_)
    ·refine tp i (tp i (tp i (to (spt (.b true) i) ?_)));obtain rfl := sIn m;refine aB (aL rfl ⟨rfl, rfl, rfl, trivial⟩ rfl)
    ·refine tkl 1 i rfl rfl xE rfl aP (tk i (scm rfl rfl rfl) (to (spf (.b (!decide (d.Old = 0))) i) ?_));obtain rfl := sIn m;refine aB (aL rfl ⟨rfl, rfl, rfl, trivial⟩ rfl)
   ·refine tm (.b o) ?_;obtain ⟨y, k, h⟩ := bns h;refine aZ 5 [2, 3] 49 y ?_ ?_
    ·refine bch k (fun e k => ?_) (fun e k => ?_)
     ·refine tp e (tp e (tp e (tp e (to (spt (.b true) e) ?_))));obtain rfl := sIn k;refine aB (aL rfl ⟨rfl, rfl, trivial⟩ rfl)
     ·refine tk e (sla 2 (aO (aG.mk d.Round d.Place)) rfl rfl vS) (tk e (sla 0 (bD n) rfl rfl mA) ?_);obtain ⟨z, A, k⟩ := bns k;refine tk e (scr Try.call75 (aEq _ _ A)) (tk e (sn rfl) (to (spf (.b (!z)) e) ?_));obtain rfl := sIn k;refine aB (aL rfl ⟨rfl, rfl, trivial⟩ rfl)
    ·refine aB ?_;refine tih h (fun B h => ?_) (fun B h => ?_)
     ·refine aC (aA (ta (.b false) (aB ?_)));obtain rfl := sIn h;refine bM (bG (bI (l := [4]) ⟨rfl, trivial⟩)) ?_;exact aX ⟨rfl, _, .one _, rfl, rfl⟩
     ·refine aV (aC (aA (tfl 1 rfl rfl oY rfl aP (to (scm rfl rfl rfl) (tm (.b (decide (0 < d.Round))) ?_)))));obtain ⟨p, f, h⟩ := bns h;refine aZ 13 [] 66 p ?_ ?_
      ·refine bch f (fun a f => ?_) (fun a f => ?_)
       ·refine tp a (tp a (tp a (tp a (tp a (tp a (tp a (tp a (tp a (tp a (tp a (tp a (to (spt (.b true) a) ?_))))))))))));obtain rfl := sIn f;refine aB (aL rfl trivial rfl)
       ·refine tkl 0 a rfl rfl eC rfl cJ (tkl 1 a rfl rfl kL rfl aP (tk a (sar rfl rfl rfl) (tkl 1 a rfl rfl kL rfl aP (tk a (sar rfl rfl rfl) (tk a (sar rfl rfl rfl) ?_)))));obtain ⟨H, C, f⟩ := bns f;refine tk a (aRt (aD rfl) bH.of rfl rfl rfl (aXa aK C)) ?_;obtain ⟨E, F, f⟩ := bns f;refine tk a (scr Try.call54 (eW _ _ F)) (tk a (sn rfl) (to (spf (.b (!E)) a) ?_));obtain rfl := sIn f;refine aB (aL rfl trivial rfl)
      ·refine ta (.b p) (aB ?_);obtain rfl := sIn h;refine bM (bG (bI (l := [4]) ⟨rfl, trivial⟩)) ?_;exact aX ⟨rfl, _, .one _, rfl, rfl⟩

theorem aIe (a : aF) (c : aU) {r : Bool} (h : oP a c = some r) : Fn Try.prog 48 [.agg (aJ a), .cp (bD c)] (.b r) := by
 unfold oP at h;refine Fn.of_tr Try.func48 rfl (rs := [.tmp 3]) Try.results48 Try.ntmps48 (Nat.le_of_ble_eq_true rfl) ?_;refine aC (aA ?_);refine bC rfl (eL (v := .agg (aJ a)) (aD rfl) rfl rfl rfl) ?_;rintro _ ⟨b1, rfl⟩;refine ta (.b false) (aB (aC (aA (to (pH (bD c) rfl mA) (to (sla 0 (aJ a) rfl rfl lI) ?_)))));obtain ⟨r2, h3, h⟩ := bns h;refine to (scr Try.call49 (aIc _ _ h3)) (to (sn rfl) (ta (.b (!r2)) (aB ?_)));obtain rfl := sIn h;refine bM (bG (bI (l := [3]) ⟨rfl, trivial⟩)) ?_;exact aX ⟨rfl, _, .one _, rfl, rfl⟩

theorem sQ (a : List Int) {r : (List Int)} (h : slices_Clone_int a = some r) : fM Try.prog 76 [.d (.sl 1 (a.map aK))] [] (fun r' o' => ∃ (w0 : Value), r' = .d (.lit w0) ∧ o' = [.arr w0 3 1 (r.map aK)]) := by
 unfold slices_Clone_int at h;refine jK Try.func76 rfl (rs := [.tmp 2]) Try.results76 Try.ntmps76 (Nat.le_of_ble_eq_true rfl) ?_;refine aC (aA (to (hZ 3 1 (.inl rfl) (aD rfl)) ?_));refine aB (aC (aC (aA (tm (.d (.sl 1 (a.map aK))) ?_))));refine bC rfl (aKl (aD rfl) rfl rfl Try.underlying22) ?_;rintro _ ⟨b2, h3, rfl⟩;refine aB ?_;refine zF rfl (fun c4 => ?_) (fun c4 => ?_)
 ·obtain rfl := aJv (h3 c4)
  simp [app] at h
  subst h;refine aC (aA (to (hZ 3 1 (.inl rfl) (aD rfl)) ?_));refine aB ?_;refine bM (aN [1, 0] rfl rfl (le_refl _)) ?_;exact aX ⟨rfl, _, [.arr (.slice none 0 0) 3 1 (([] : List Int).map aK)], [.arr (.slice none 0 0) 3 1 (([] : List Int).map aK)], _, .one (.tmp 2 (v := .d (.lit (.slice none 0 0))) rfl), .refl _, .same _, (.slice none 0 0), rfl, rfl⟩
 ·refine aV (aC (aA ?_));refine bC rfl (aGf (aD rfl) bH rfl rfl (rows := (([] : List Int)).map aK) rfl (cX (f := aK) fun _ => rfl) rfl (by decide)) ?_;rintro _ ⟨v5, rfl⟩;refine tm (.d (.sl 1 (a.map aK))) ?_;obtain ⟨x6, h7, h⟩ := bns h;refine bC rfl (gG (i := 1) (aD rfl) bH rfl rfl rfl (fun _ => rfl) h7 rfl) ?_;rintro _ ⟨v8, rfl⟩;refine ta (.d (.lit v8)) (aB ?_);obtain rfl := sIn h;refine bM (aN [1, 0] rfl rfl (le_refl _)) ?_;exact aX ⟨rfl, _, [.arr v8 3 1 (x6.map aK)], [.arr (.slice none 0 0) 3 1 (([] : List Int).map aK)], _, .one (.tmp 2 (v := .d (.lit v8)) rfl), .refl _, .same _, v8, rfl, rfl⟩

theorem wX (f : aU) (n : List Int) (o : List (aF × Int)) (g : Int) {Q : (aF × Bool) → Prop} {t u : Nat} {c : Value} {w : Nat} {j : Nat} {s : List Nat} {e : Nat} (h : iR f n o g Q) : fM Try.prog 95 [.bp t u 0, .d (.lit (.map (some j))), .i g] [.box t u [.lit (.int .i64 f.Rounds), .sl 1 (f.Slots.map aK), .lit c, .lit (.map (some w))], .arr c 3 1 (n.map aK), .map j (o.map fun p : aF × Int => ((fun a : aF => Value.agg ((aJ a).map bQ).toArray) p.1, (fun v : Int => AV.i v) p.2)) s e] (fun r' o' => ∃ (r : aF × Bool), Q r ∧ r' = .tup [.agg (aJ r.1), .b r.2] ∧ o' = [.box t u [.lit (.int .i64 f.Rounds), .sl 1 (f.Slots.map aK), .lit c, .lit (.map (some w))], .arr c 3 1 (n.map aK), .map j (o.map fun p : aF × Int => ((fun a : aF => Value.agg ((aJ a).map bQ).toArray) p.1, (fun v : Int => AV.i v) p.2)) s e]) := by
 unfold iR at h;refine jK Try.func95 rfl (rs := [.cell 6 46, .tmp 7]) Try.results95 Try.ntmps95 (Nat.le_of_ble_eq_true rfl) ?_;refine aC (aA ?_);refine bC rfl (cP (zs := [.lit (.int .i64 0), .lit (.int .i64 0), .lit (.int .i64 0), .lit (.int .i64 0), .lit (.int .i64 0)]) (aD rfl) Try.zeroValue46 rfl rfl) ?_;rintro _ ⟨b1, rfl⟩;refine ta (.b false) (aB (aC (aC (aA (tm (.d (.lit (.map (some j)))) ?_)))));refine bC rfl (aQm (m := 2) (aD rfl) Try.underlying122 rfl rfl) ?_;rintro _ ⟨q2, h4, rfl⟩;have h := aFm h h4;refine aB (bA ?_);refine vP [0, 2, 6, 10] (fun (s5 : aF × (List Nat)) => []) (fun (s5 : aF × (List Nat)) => [.arr c 3 1 (n.map aK), .box t u [.lit (.int .i64 f.Rounds), .sl 1 (f.Slots.map aK), .lit c, .lit (.map (some w))], .map j (o.map fun p : aF × Int => ((fun a : aF => Value.agg ((aJ a).map bQ).toArray) p.1, (fun v : Int => AV.i v) p.2)) s e, .box b1 0 (aJ s5.1), .iter q2 j e s5.2 e]) (fun (k : Nat) (s5 : aF × (List Nat)) => iN Q g n f o k s5.1 (nO o s s5.2)) (fun _ h => h) ((aF.mk 0 0 0 0 0), []) h (aN [1, 0, 2, 3, 4] rfl rfl (aM ⟨rfl, rfl, rfl, rfl, trivial⟩)) ?_;rintro k7 ⟨B, y⟩ h;simp only [iN] at h;refine aC (aA ?_);refine bC rfl (aTq (kv := (fun a : aF => Value.agg ((aJ a).map bQ).toArray)) (av := (fun v : Int => AV.i v)) (l := o) (mi := 4) (mm := 2) (aD rfl) rfl rfl rfl) ?_;rintro _ (⟨I, rfl⟩ | ⟨j9, C, p8, E, rfl⟩)
 ·have h := h.1 I;refine to (sex rfl rfl) (aB (aC ?_));refine zF rfl (fun F => ?_) (fun F => ?_)
  ·exact absurd F (by decide)
  ·refine bT ?_;refine .inl ⟨rfl, ?_⟩;simp only [oF] at h;refine aC (aA (to (eA (aD rfl) aTv (zs := [.lit (.int .i64 0), .lit (.int .i64 0), .lit (.int .i64 0), .lit (.int .i64 0), .lit (.int .i64 0)]) rfl rfl rfl rfl (es := [.lit (.int .i64 0), .lit (.int .i64 0), .lit (.int .i64 0), .lit (.int .i64 0), .lit (.int .i64 0)]) rfl) ?_));refine to (sst 3 rfl rfl Try.sizeOf46 (aJ (aF.mk 0 0 0 0 0))) (ta (.b false) (aB ?_));refine bM (aN [1, 0, 2, 3, 4] rfl rfl (le_refl _)) ?_;exact aX ⟨rfl, _, [.box t u [.lit (.int .i64 f.Rounds), .sl 1 (f.Slots.map aK), .lit c, .lit (.map (some w))], .arr c 3 1 (n.map aK), .map j (o.map fun p : aF × Int => ((fun a : aF => Value.agg ((aJ a).map bQ).toArray) p.1, (fun v : Int => AV.i v) p.2)) s e], [.box b1 0 (aJ (aF.mk 0 0 0 0 0)), .iter q2 j e y e], _, .two (.cell 6 46 rfl (i := 3) rfl lI (es := (aJ (aF.mk 0 0 0 0 0))) rfl rfl) (.tmp 7 (v := .b false) rfl), .refl _, .same _, ((aF.mk 0 0 0 0 0), false), h, rfl, rfl⟩
 ·have h := aHl h E;refine to (sex rfl rfl) (aB (aC ?_));refine zF rfl (fun G => ?_) (fun G => ?_)
  ·refine aV (bA (aC (aA (to (aQl (kv := (fun a : aF => Value.agg ((aJ a).map bQ).toArray)) (av := (fun v : Int => AV.i v)) (l := o) (mi := 4) (mm := 2) (ka := .agg (aJ p8.1)) (aD rfl) rfl rfl rfl E (fun _ _ => .agg (aFi rfl))) ?_))));refine to (sex rfl rfl) ?_;refine bC rfl (cP (zs := [.lit (.int .i64 0), .lit (.int .i64 0), .lit (.int .i64 0), .lit (.int .i64 0), .lit (.int .i64 0)]) (aD rfl) Try.zeroValue46 rfl rfl) ?_;rintro _ ⟨z, rfl⟩;refine to (sst 5 rfl rfl Try.sizeOf46 (aJ p8.1)) (aB (aC ?_));obtain ⟨J, x, h⟩ := gF h;refine cR mix 16 [0, 2, 6, 8, 10] [(30, .b J)] ?_ ?_
   ·refine bch x (fun q x => ?_) (fun q x => ?_)
    ·obtain ⟨A, H, x⟩ := bns x;obtain rfl := sIn x;refine ⟨[(15, 0, .bp z 0 2), (16, 1, .i p8.1.Place), (17, 2, .i g), (18, 3, .b (decide (p8.1.Place = g))), (19, 4, .b (decide (p8.1.Place = g))), (20, 5, .bp z 0 4), (21, 6, .i p8.1.Old), (22, 7, .bp t u 0), (23, 8, .bp t u 0), (24, 9, .bp t u 2), (25, 10, .d (.lit c)), (26, 11, .i g), (27, 12, .ep c 1 g.toNat 0), (28, 13, .i A), (29, 14, .b (decide (p8.1.Old = A))), (30, 15, .b (decide (p8.1.Old = A)))], ?_, ?_⟩
     · exact dok [([], []), ([0], []), ([], []), ([1, 2], []), ([3], []), ([4], []), ([4, 5], []), ([4], []), ([4, 7], []), ([4, 8], []), ([4, 9], []), ([4], []), ([4, 10, 11], []), ([4, 12], []), ([4, 6, 13], []), ([4, 14], [])] ⟨go (zf rfl kL),
      go (zl 5 rfl rfl rfl aP),
      go (zm (.i g)),
      go (zcm rfl rfl rfl),
      go (zm (.b (decide (p8.1.Place = g)))),
      gt q (zf rfl xE),
      gt q (zl 5 rfl rfl rfl aP),
      gt q (zm (.bp t u 0)),
      gt q fun S hS => mV (aD rfl) (aT hS rfl),
      gt q (zf rfl qJ),
      gt q (zl 1 rfl rfl rfl cJ),
      gt q (zm (.i g)),
      gt q (zia 0 rfl rfl rfl bH.of (aW aK H)),
      gt q fun S hS => iK (aD rfl) (aT hS rfl) (m := 0) rfl (dO aK H) rfl aP,
      gt q (zcm rfl rfl rfl),
      go (zpt (.b (decide (p8.1.Old = A))) q), trivial⟩
     · exact cE (aI rfl (aM ⟨rfl, rfl, rfl, rfl, rfl, trivial⟩))
    ·obtain rfl := sIn x;refine ⟨[(15, 0, .bp z 0 2), (16, 1, .i p8.1.Place), (17, 2, .i g), (18, 3, .b (decide (p8.1.Place = g))), (19, 4, .b (decide (p8.1.Place = g))), (20, 5, .tup []), (21, 6, .tup []), (22, 7, .tup []), (23, 8, .tup []), (24, 9, .tup []), (25, 10, .tup []), (26, 11, .tup []), (27, 12, .tup []), (28, 13, .tup []), (29, 14, .tup []), (30, 15, .b false)], ?_, ?_⟩
     · exact dok [([], []), ([0], []), ([], []), ([1, 2], []), ([3], []), ([4], []), ([4, 5], []), ([4], []), ([4, 7], []), ([4, 8], []), ([4, 9], []), ([4], []), ([4, 10, 11], []), ([4, 12], []), ([4, 6, 13], []), ([4, 14], [])] ⟨go (zf rfl kL),
      go (zl 5 rfl rfl rfl aP),
      go (zm (.i g)),
      go (zcm rfl rfl rfl),
      go (zm (.b (decide (p8.1.Place = g)))),
      gp q,
      gp q,
      gp q,
      gp q,
      gp q,
      gp q,
      gp q,
      gp q,
      gp q,
      gp q,
      go (zpf (.b false) q), trivial⟩
     · exact cE (aI rfl (aM ⟨rfl, rfl, rfl, rfl, rfl, trivial⟩))
   ·refine aB ?_;refine tip h (fun K h => ?_) (fun K h => ?_)
    ·refine aC (aA (to (sla 5 (aJ p8.1) rfl rfl lI) (to (sst 3 rfl rfl Try.sizeOf46 (aJ p8.1)) (ta (.b true) (aB ?_)))));refine bM (aN [1, 0, 2, 3, 4, 5] rfl rfl (le_refl _)) ?_;exact aX ⟨rfl, _, [.box t u [.lit (.int .i64 f.Rounds), .sl 1 (f.Slots.map aK), .lit c, .lit (.map (some w))], .arr c 3 1 (n.map aK), .map j (o.map fun p : aF × Int => ((fun a : aF => Value.agg ((aJ a).map bQ).toArray) p.1, (fun v : Int => AV.i v) p.2)) s e], [.box b1 0 (aJ p8.1), .iter q2 j e (y ++ [C]) e, .box z 0 (aJ p8.1)], _, .two (.cell 6 46 rfl (i := 3) rfl lI (es := (aJ p8.1)) rfl rfl) (.tmp 7 (v := .b true) rfl), .refl _, .same _, (p8.1, true), h, rfl, rfl⟩
    ·refine cM ?_;exact ⟨(B, (y ++ [C])), h, aN [0, 1, 2, 3, 4] rfl rfl (aM ⟨rfl, rfl, rfl, rfl, trivial⟩)⟩
  ·exact absurd G (by decide)

theorem aBi (e : aU) (w : List Int) (C : List (aF × Int)) {Q : (Bool × (List Int) × (List (aF × Int))) → Prop} {q s : Nat} {c : Value} {t : Nat} {g : Nat} {z : List Nat} {A : Nat} (h : lJ e w C Q) : fM Try.prog 77 [.bp q s 0, .d (.lit (.map (some g)))] [.box q s [.lit (.int .i64 e.Rounds), .sl 1 (e.Slots.map aK), .lit c, .lit (.map (some t))], .arr c 3 1 (w.map aK), .map g (C.map fun p : aF × Int => ((fun a : aF => Value.agg ((aJ a).map bQ).toArray) p.1, (fun v : Int => AV.i v) p.2)) z A] (fun r' o' => ∃ (r : Bool × (List Int) × (List (aF × Int))) (U : List Nat) (V : Nat), Q r ∧ r' = .b r.1 ∧ o' = [.box q s [.lit (.int .i64 e.Rounds), .sl 1 (e.Slots.map aK), .lit c, .lit (.map (some t))], .arr c 3 1 (r.2.1.map aK), .map g (r.2.2.map fun p : aF × Int => ((fun a : aF => Value.agg ((aJ a).map bQ).toArray) p.1, (fun v : Int => AV.i v) p.2)) U V]) := by
 unfold lJ at h;refine jK Try.func77 rfl (rs := [.tmp 4]) Try.results77 Try.ntmps77 (Nat.le_of_ble_eq_true rfl) ?_;refine aC (aA (ta (.b false) (aB (aC (aA (tm (.bp q s 0) (to (mV (aD rfl) rfl) ?_)))))));refine to (sf rfl zY) (tfl 0 rfl rfl eC rfl cJ ?_);obtain ⟨r1, h2, h⟩ := gF h;refine bC rfl (yX (aD rfl) (.func _ _ Try.call76) rfl rfl (sQ _ h2)) ?_;rintro _ ⟨v3, rfl⟩;refine ta (.d (.lit v3)) (aB (aC (aC (aA (tm (.bp q s 0) (to (mV (aD rfl) rfl) ?_))))));refine tfl 0 rfl rfl qJ rfl cJ (to (jL (m := 1) (aD rfl) rfl rfl bH.of) ?_);refine tm (.i 0) (aB (bA ?_));refine vP [0, 1, 19] (fun (s4 : Int × (List Int) × (List (aF × Int)) × (List Int) × (List Nat) × Nat × Value) => [(5, .d (.lit s4.2.2.2.2.2.2)), (20, .i s4.1)]) (fun (s4 : Int × (List Int) × (List (aF × Int)) × (List Int) × (List Nat) × Nat × Value) => [.arr c 3 1 (s4.2.1.map aK), .box q s [.lit (.int .i64 e.Rounds), .sl 1 (e.Slots.map aK), .lit c, .lit (.map (some t))], .map g (s4.2.2.1.map fun p : aF × Int => ((fun a : aF => Value.agg ((aJ a).map bQ).toArray) p.1, (fun v : Int => AV.i v) p.2)) s4.2.2.2.2.1 s4.2.2.2.2.2.1, .arr s4.2.2.2.2.2.2 3 1 (s4.2.2.2.1.map aK)]) (fun (k : Nat) (s4 : Int × (List Int) × (List (aF × Int)) × (List Int) × (List Nat) × Nat × Value) => cW Q (w.length : Int) e k s4.1 s4.2.1 s4.2.2.1 s4.2.2.2.1) (fun _ h => h) (0, w, C, r1, z, A, v3) h (aN [1, 0, 2, 3] rfl rfl (aI rfl (aI rfl (aM ⟨rfl, rfl, rfl, trivial⟩)))) ?_;rintro k8 ⟨j, B, u, H, L, M, w7⟩ h;simp only [cW] at h;refine aC (aA (to (scm rfl rfl rfl) (aB (aC ?_))));refine tip h (fun c9 h => ?_) (fun c9 h => ?_)
 ·refine aV (aC (bA (aC (aA (tm (.i j) (ta (.i j) (aB (aC (aA (tm (.bp q s 0) (tm (.d (.lit (.map (some g)))) (tm (.i j) ?_))))))))))));refine rH (aN [1, 0, 2, 3] rfl rfl (le_refl _)) ?_;refine bC rfl (eS (passed := [.box q s [.lit (.int .i64 e.Rounds), .sl 1 (e.Slots.map aK), .lit c, .lit (.map (some t))], .arr c 3 1 (B.map aK), .map g (u.map fun p : aF × Int => ((fun a : aF => Value.agg ((aJ a).map bQ).toArray) p.1, (fun v : Int => AV.i v) p.2)) L M]) (aD rfl) rfl (.func _ _ Try.call95) rfl rfl (wX e B u j h)) ?_;rintro _ ⟨_, _, ⟨I, h, rfl, rfl⟩, rfl⟩;refine tm (.tup [.agg (aJ I.1), .b I.2]) (to (sex rfl rfl) (to (sex rfl rfl) ?_));refine bC rfl (cP (zs := [.lit (.int .i64 0), .lit (.int .i64 0), .lit (.int .i64 0), .lit (.int .i64 0), .lit (.int .i64 0)]) (aD rfl) Try.zeroValue46 rfl rfl) ?_;rintro _ ⟨W, rfl⟩;refine to (sst 4 rfl rfl Try.sizeOf46 (aJ I.1)) (ta (.b I.2) (aB ?_));refine uF ?_;refine vP [0, 1, 6, 19, 20] (fun (x : Bool × (List Int) × (List (aF × Int)) × aF × (List Int) × (List Nat) × Nat × Nat × Value) => [(5, .d (.lit x.2.2.2.2.2.2.2.2)), (7, .bp x.2.2.2.2.2.2.2.1 0 0), (8, .b x.1)]) (fun (x : Bool × (List Int) × (List (aF × Int)) × aF × (List Int) × (List Nat) × Nat × Nat × Value) => [.arr c 3 1 (x.2.1.map aK), .box q s [.lit (.int .i64 e.Rounds), .sl 1 (e.Slots.map aK), .lit c, .lit (.map (some t))], .map g (x.2.2.1.map fun p : aF × Int => ((fun a : aF => Value.agg ((aJ a).map bQ).toArray) p.1, (fun v : Int => AV.i v) p.2)) x.2.2.2.2.2.1 x.2.2.2.2.2.2.1, .box x.2.2.2.2.2.2.2.1 0 (aJ x.2.2.2.1), .arr x.2.2.2.2.2.2.2.2 3 1 (x.2.2.2.2.1.map aK)]) (fun (k : Nat) (x : Bool × (List Int) × (List (aF × Int)) × aF × (List Int) × (List Nat) × Nat × Nat × Value) => eG Q (cW Q (w.length : Int) e k8) j (w.length : Int) j e k x.1 x.2.1 x.2.2.1 x.2.2.2.1 x.2.2.2.2.1) (fun _ h => h) (I.2, B, u, I.1, H, L, M, W, w7) h (aN [1, 0, 2, 4, 3] rfl rfl (aI rfl (aI rfl (aI rfl (aM ⟨rfl, rfl, rfl, rfl, rfl, trivial⟩))))) ?_;rintro a3 ⟨K, y, o, n, E, F, G, O, N⟩ h;simp only [eG] at h;refine aC (aC (aA (tm (.b K) (aB ?_))));refine tip h (fun X h => ?_) (fun X h => ?_)
  ·refine aV (aC (bA (aC (aC (aA (tm (.d (.lit N)) (tfl 3 rfl rfl nR rfl aP ?_)))))));obtain ⟨a4, Y, h⟩ := gF h;refine to (sc Try.call54 (eW _ _ Y) (.cons (.d (nE 4 rfl (cX (f := aK) fun _ => rfl))) (.cons (.same _) .nil))) (aB ?_);refine tip h (fun Z h => ?_) (fun Z h => ?_)
   ·refine aC (aA (ta (.b false) (aB ?_)));refine bM (aN [1, 0, 2, 3, 4] rfl rfl (le_refl _)) ?_;exact aX ⟨rfl, _, [.box q s [.lit (.int .i64 e.Rounds), .sl 1 (e.Slots.map aK), .lit c, .lit (.map (some t))], .arr c 3 1 (y.map aK), .map g (o.map fun p : aF × Int => ((fun a : aF => Value.agg ((aJ a).map bQ).toArray) p.1, (fun v : Int => AV.i v) p.2)) F G], [.box O 0 (aJ n), .arr N 3 1 (E.map aK)], _, .one (.tmp 4 (v := .b false) rfl), .refl _, .same _, (false, y, o), F, G, h, rfl, rfl⟩
   ·refine aV (aC ?_);refine cR mix 7 [0, 1, 5, 6, 7, 19, 20] [(45, .d (.lit c)), (46, .i j), (48, .i n.Player)] ?_ ?_
    ·refine ⟨[(42, 0, .bp q s 0), (43, 1, .bp q s 0), (44, 2, .bp q s 2), (45, 3, .d (.lit c)), (46, 4, .i j), (47, 5, .bp O 0 3), (48, 6, .i n.Player)], ?_, ?_⟩
     · exact dok [([], []), ([0], []), ([1], []), ([2], []), ([], []), ([], []), ([5], [])] ⟨go (zm (.bp q s 0)),
      go fun S hS => mV (aD rfl) (aT hS rfl),
      go (zf rfl qJ),
      go (zl 1 rfl rfl rfl cJ),
      go (zm (.i j)),
      go (zf rfl nR),
      go (zl 3 rfl rfl rfl aP), trivial⟩
     · exact cE (aI rfl (aI rfl (aI rfl (aM ⟨rfl, rfl, rfl, rfl, rfl, rfl, rfl, trivial⟩))))
    ·obtain ⟨a5, P, h⟩ := gF h;refine to (dF (m := 0) (aD rfl) rfl rfl rfl bH.of (aW aK P)) ?_;refine to (kG (l := 0) rfl rfl (dO aK P) rfl rfl rfl Try.sizeOf3 rfl (aD rfl) (Nat.le_of_ble_eq_true rfl) (rows' := ((y.set j.toNat n.Player)).map aK) (rB _ _ _ _ rfl)) ?_;refine aB (aC (aA (tm (.d (.lit N)) (tfl 3 rfl rfl nR rfl aP (to (fK (aD rfl) bH rfl rfl (rows := ([n.Player]).map aK) rfl (cX (f := aK) fun _ => rfl) rfl (by decide)) ?_)))));obtain ⟨a0, a1, h⟩ := gF h;refine bC rfl (gG (i := 4) (aD rfl) bH rfl rfl rfl (fun _ => rfl) a1 rfl) ?_;rintro _ ⟨T, rfl⟩;refine ta (.d (.lit T)) (aB (aA (tm (.d (.lit (.map (some g)))) (to (sla 3 (aJ n) rfl rfl lI) (to (aVf (av := (fun v : Int => AV.i v)) (l := o) (a := n) (m := 2) aNs Try.underlying122 rfl rfl rfl rfl (pP (enc := aJ) n rfl)) ?_)))));refine cQ ?_;refine aC (aC (aA (to (sla 3 (aJ n) rfl rfl lI) (aB (aA ?_)))));refine bC rfl (cP (zs := [.lit (.int .i64 0), .lit (.int .i64 0), .lit (.int .i64 0), .lit (.int .i64 0), .lit (.int .i64 0)]) (aD rfl) Try.zeroValue46 rfl rfl) ?_;rintro _ ⟨a2, rfl⟩;refine to (sst 5 rfl rfl Try.sizeOf46 (aJ n)) (aB (aA (tm (.bp q s 0) (tm (.d (.lit (.map (some g)))) (tm (.i j) ?_)))));refine rH (aN [1, 0, 2, 3, 4, 5] rfl rfl (le_refl _)) ?_;refine bC rfl (eS (passed := [.box q s [.lit (.int .i64 e.Rounds), .sl 1 (e.Slots.map aK), .lit c, .lit (.map (some t))], .arr c 3 1 ((y.set j.toNat n.Player).map aK), .map g ((qK n o).map fun p : aF × Int => ((fun a : aF => Value.agg ((aJ a).map bQ).toArray) p.1, (fun v : Int => AV.i v) p.2)) (aBn n o F) G]) (aD rfl) rfl (.func _ _ Try.call95) rfl rfl (wX e (y.set j.toNat n.Player) (qK n o) j h)) ?_;rintro _ ⟨_, _, ⟨J, h, rfl, rfl⟩, rfl⟩;refine tm (.tup [.agg (aJ J.1), .b J.2]) (to (sex rfl rfl) (to (sex rfl rfl) (to (sst 5 rfl rfl Try.sizeOf46 (aJ J.1)) (ta (.b J.2) (aB ?_)))));exact ⟨(J.2, (y.set j.toNat n.Player), (qK n o), J.1, a0, (aBn n o F), G, a2, T), h, aN [1, 0, 2, 5, 4] rfl rfl (aI rfl (aI rfl (aI rfl (aM ⟨rfl, rfl, rfl, rfl, rfl, trivial⟩))))⟩
  ·refine bT ?_;refine .inl ⟨rfl, ?_⟩;simp only [lZ] at h;simp only [lY] at h;refine aA (to (sar rfl rfl rfl) (tm (.i (w64 (j + 1))) (aB ?_)));exact ⟨(w64 (j + 1), y, o, E, F, G, N), h, aN [0, 1, 2, 4] rfl rfl (aI rfl (aI rfl (aM ⟨rfl, rfl, rfl, trivial⟩)))⟩
 ·refine bT ?_;refine .inl ⟨rfl, ?_⟩;simp only [lX] at h;refine aC (aA (tm (.d (.lit (.map (some g)))) (to (aVh (m := 2) (aD rfl) Try.underlying122 rfl rfl) ?_)));refine to (scm rfl rfl rfl) (ta (.b (decide ((u.length : Int) = 0))) (aB ?_));refine bM (aN [1, 0, 2, 3] rfl rfl (le_refl _)) ?_;exact aX ⟨rfl, _, [.box q s [.lit (.int .i64 e.Rounds), .sl 1 (e.Slots.map aK), .lit c, .lit (.map (some t))], .arr c 3 1 (B.map aK), .map g (u.map fun p : aF × Int => ((fun a : aF => Value.agg ((aJ a).map bQ).toArray) p.1, (fun v : Int => AV.i v) p.2)) L M], [.arr w7 3 1 (H.map aK)], _, .one (.tmp 4 (v := .b (decide ((u.length : Int) = 0))) rfl), .refl _, .same _, (decide ((u.length : Int) = 0), B, u), L, M, h, rfl, rfl⟩

theorem sW (a : Int) (b : Int) {r : aG} (h : oG a b = some r) : Fn Try.prog 80 [.i a, .i b] (.agg (aO r)) := by
 unfold oG at h;refine kC Try.func80 rfl (rs := [.cell 4 120]) Try.results80 Try.ntmps80 (Nat.le_of_ble_eq_true rfl) ?_;refine aC (aA ?_);refine bC rfl (cP (zs := [.lit (.int .i64 0), .lit (.int .i64 0)]) (aD rfl) Try.zeroValue120 rfl rfl) ?_;rintro _ ⟨b1, rfl⟩;refine aB (aC (aA (tm (.i a) (tm (.i b) (tm (.i a) (to (sar rfl rfl rfl) ?_))))));obtain ⟨u2, h3, h⟩ := bns h;refine to (zC (aD rfl) rfl rfl (aAs h3)) ?_;refine to (eA (aD rfl) aLb (zs := [.lit (.int .i64 0), .lit (.int .i64 0)]) rfl rfl rfl rfl (es := [.lit (.int .i64 a), .lit (.int .i64 (b.fdiv (2 ^ (min (w64 (a + 1)).toNat 64))))]) rfl) ?_;refine to (sst 0 rfl rfl Try.sizeOf120 (aO (aG.mk a (b.fdiv (2 ^ (min (w64 (a + 1)).toNat 64)))))) (aB ?_);obtain rfl := sIn h;exact aX ⟨rfl, _, [.box b1 0 (aO (aG.mk a (b.fdiv (2 ^ (min (w64 (a + 1)).toNat 64)))))], .one (.cell 4 120 rfl (i := 0) rfl vS (es := (aO (aG.mk a (b.fdiv (2 ^ (min (w64 (a + 1)).toNat 64)))))) rfl rfl), .refl _, .same _⟩

theorem wY (g : aU) (o : List Int) (y : List (aG × Int)) (s : Int) (u : Int) {r : Bool × (List (aG × Int))} {j n : Nat} {e : Value} {f : Nat} {w : List Nat} {x : Nat} (h : lP g o y s u = some r) : fM Try.prog 78 [.bp j n 0, .i s, .i u] [.box j n [.lit (.int .i64 g.Rounds), .sl 1 (g.Slots.map aK), .lit e, .lit (.map (some f))], .arr e 3 1 (o.map aK), .map f (y.map fun p : aG × Int => ((fun a : aG => Value.agg ((aO a).map bQ).toArray) p.1, (fun v : Int => AV.i v) p.2)) w x] (fun r' o' => ∃ (A : List Nat) (H : Nat), r' = .b r.1 ∧ o' = [.box j n [.lit (.int .i64 g.Rounds), .sl 1 (g.Slots.map aK), .lit e, .lit (.map (some f))], .arr e 3 1 (o.map aK), .map f (r.2.map fun p : aG × Int => ((fun a : aG => Value.agg ((aO a).map bQ).toArray) p.1, (fun v : Int => AV.i v) p.2)) A H]) := by
 unfold lP at h;refine jK Try.func78 rfl (rs := [.tmp 6]) Try.results78 Try.ntmps78 (Nat.le_of_ble_eq_true rfl) ?_;refine aC (aA (ta (.b false) (aB (aC (aC (aA (tm (.i u) (to (sar rfl rfl rfl) (tm (.i 0) (aB (bA ?_)))))))))));refine bR (S := Int × (List (aG × Int)) × (List Nat) × Nat) [0, 1, 12] (fun s1 => [(13, .i s1.1)]) (fun s1 => [.arr e 3 1 (o.map aK), .map f (s1.2.1.map fun p : aG × Int => ((fun a : aG => Value.agg ((aO a).map bQ).toArray) p.1, (fun v : Int => AV.i v) p.2)) s1.2.2.1 s1.2.2.2, .box j n [.lit (.int .i64 g.Rounds), .sl 1 (g.Slots.map aK), .lit e, .lit (.map (some f))]]) (fun k s1 => iO s (w64 (u + 1)) o g k s1.1 s1.2.1) (fun _ => rfl) (0, y, w, x) h (aN [1, 2, 0] rfl rfl (aI rfl (aM ⟨rfl, rfl, rfl, trivial⟩))) ?_;rintro k4 ⟨t, c, A, C⟩ h;simp only [iO] at h;refine aC (aA (to (scm rfl rfl rfl) (aB (aC ?_))));refine tih h (fun c5 h => ?_) (fun c5 h => ?_)
 ·refine aV (aC (bA (aC (aA (tm (.i t) (ta (.i t) (aB (aC (aA (tm (.i t) (tm (.i s) ?_)))))))))));obtain ⟨r6, h7, h⟩ := bns h;refine to (gH (aD rfl) (.func _ _ Try.call80) rfl rfl (sW _ _ h7)) ?_;refine bC rfl (cP (zs := [.lit (.int .i64 0), .lit (.int .i64 0)]) (aD rfl) Try.zeroValue120 rfl rfl) ?_;rintro _ ⟨b8, rfl⟩;refine to (sst 3 rfl rfl Try.sizeOf120 (aO r6)) (aB (aC (aC ?_)));refine cR mix 10 [0, 1, 8, 12, 13] [(9, .i (cU r6 0 c)), (27, .b (dS r6 c))] ?_ ?_
  ·refine ⟨[(20, 0, .bp j n 0), (21, 1, .bp j n 0), (22, 2, .bp j n 3), (23, 3, .d (.lit (.map (some f)))), (24, 4, .agg (aO r6)), (25, 5, .tup [.i (cU r6 0 c), .b (dS r6 c)]), (19, 6, .tup [.i (cU r6 0 c), .b (dS r6 c)]), (26, 7, .i (cU r6 0 c)), (27, 8, .b (dS r6 c)), (9, 9, .i (cU r6 0 c))], ?_, ?_⟩
   · exact dok [([], []), ([0], []), ([1], []), ([2], []), ([], []), ([3, 4], []), ([5], []), ([6], []), ([6], []), ([7], [])] ⟨go (zm (.bp j n 0)),
      go fun S hS => mV (aD rfl) (aT hS rfl),
      go (zf rfl aCw),
      go (zl 2 rfl rfl rfl aJy),
      go (zla 3 (aO r6) rfl rfl vS),
      go fun S hS => aKn (av := (fun v : Int => AV.i v)) (l := c) (z := 0) (a := r6) (m := 1) (aD rfl) zJ Try.underlying73 Try.zeroValue3 (fun _ _ => .d (.lit _ rfl)) (aT hS rfl) rfl rfl (aT hS rfl) (pP (enc := aO) r6 rfl),
      go (zm (.tup [.i (cU r6 0 c), .b (dS r6 c)])),
      go (zex rfl rfl),
      go (zex rfl rfl),
      go (za (.i (cU r6 0 c))), trivial⟩
   · exact cE (aI rfl (aI rfl (aM ⟨rfl, rfl, rfl, rfl, rfl, trivial⟩)))
  ·refine ta (.b (dS r6 c)) (aB (aC (aA (tm (.b (dS r6 c)) (tm (.b (dS r6 c)) ?_)))));obtain ⟨b9, B, h⟩ := bns h;refine aZ 10 [0, 1, 8, 12, 13] 39 b9 ?_ ?_
   ·refine bch B (fun q B => ?_) (fun q B => ?_)
    ·refine tk q (sm (.i (cU r6 0 c))) (tk q (sm (.bp j n 0)) (tk q (mV (aD rfl) rfl) ?_));refine tkl 2 q rfl rfl qJ rfl cJ (tk q (sm (.i s)) ?_);obtain ⟨I, F, B⟩ := bns B;refine tk q (dF (m := 0) (aD rfl) rfl rfl rfl bH.of (aW aK F)) ?_;refine tk q (iK (aD rfl) rfl (m := 0) rfl (dO aK F) rfl aP) ?_;refine tk q (scm rfl rfl rfl) (to (spt (.b (!decide ((cU r6 0 c) = I))) q) ?_);obtain rfl := sIn B;refine aB (aL rfl ⟨rfl, rfl, rfl, rfl, rfl, trivial⟩ rfl)
    ·refine tp q (tp q (tp q (tp q (tp q (tp q (tp q (tp q (tp q (to (spf (.b false) q) ?_)))))))));obtain rfl := sIn B;refine aB (aL rfl ⟨rfl, rfl, rfl, rfl, rfl, trivial⟩ rfl)
   ·refine aB ?_;refine tih h (fun J h => ?_) (fun J h => ?_)
    ·refine aC (aA (ta (.b false) (aB ?_)));obtain rfl := sIn h;refine bM (aN [2, 0, 1, 3] rfl rfl (le_refl _)) ?_;exact aX ⟨rfl, _, [.box j n [.lit (.int .i64 g.Rounds), .sl 1 (g.Slots.map aK), .lit e, .lit (.map (some f))], .arr e 3 1 (o.map aK), .map f (c.map fun p : aG × Int => ((fun a : aG => Value.agg ((aO a).map bQ).toArray) p.1, (fun v : Int => AV.i v) p.2)) A C], [.box b8 0 (aO r6)], _, .one (.tmp 6 (v := .b false) rfl), .refl _, .same _, A, C, rfl, rfl⟩
    ·refine aV ?_;obtain ⟨E, G, h⟩ := bns h;refine cR mix 12 [0, 1, 12, 13] [(43, .d (.lit (.map (some f)))), (44, .agg (aO r6)), (51, .i E)] ?_ ?_
     ·refine ⟨[(40, 0, .bp j n 0), (41, 1, .bp j n 0), (42, 2, .bp j n 3), (43, 3, .d (.lit (.map (some f)))), (44, 4, .agg (aO r6)), (45, 5, .bp j n 0), (46, 6, .bp j n 0), (47, 7, .bp j n 2), (48, 8, .d (.lit e)), (49, 9, .i s), (50, 10, .ep e 1 s.toNat 0), (51, 11, .i E)], ?_, ?_⟩
      · exact dok [([], []), ([0], []), ([1], []), ([2], []), ([], []), ([], []), ([5], []), ([6], []), ([7], []), ([], []), ([8, 9], []), ([10], [])] ⟨go (zm (.bp j n 0)),
      go fun S hS => mV (aD rfl) (aT hS rfl),
      go (zf rfl aCw),
      go (zl 2 rfl rfl rfl aJy),
      go (zla 3 (aO r6) rfl rfl vS),
      go (zm (.bp j n 0)),
      go fun S hS => mV (aD rfl) (aT hS rfl),
      go (zf rfl qJ),
      go (zl 2 rfl rfl rfl cJ),
      go (zm (.i s)),
      go (zia 0 rfl rfl rfl bH.of (aW aK G)),
      go fun S hS => iK (aD rfl) (aT hS rfl) (m := 0) rfl (dO aK G) rfl aP, trivial⟩
      · exact cE (aI rfl (aI rfl (aI rfl (aM ⟨rfl, rfl, rfl, rfl, trivial⟩))))
     ·refine to (aBp (av := (fun v : Int => AV.i v)) (l := c) (v := E) (a := r6) (m := 1) zJ Try.underlying73 rfl rfl rfl rfl (pP (enc := aO) r6 rfl) rfl rfl) ?_;refine cQ ?_;refine aA (to (sar rfl rfl rfl) (tm (.i (w64 (t + 1))) (aB ?_)));exact ⟨(w64 (t + 1), (gL r6 E c), (mbs r6 c A C), (mck r6 c C)), h, aN [0, 1, 2] rfl rfl (aI rfl (aM ⟨rfl, rfl, rfl, trivial⟩))⟩
 ·refine bT ?_;refine .inl ⟨rfl, ?_⟩;simp only [rN] at h;refine aC (aA (ta (.b true) (aB ?_)));obtain rfl := sIn h;refine bM (aN [2, 0, 1] rfl rfl (le_refl _)) ?_;exact aX ⟨rfl, _, [.box j n [.lit (.int .i64 g.Rounds), .sl 1 (g.Slots.map aK), .lit e, .lit (.map (some f))], .arr e 3 1 (o.map aK), .map f (c.map fun p : aG × Int => ((fun a : aG => Value.agg ((aO a).map bQ).toArray) p.1, (fun v : Int => AV.i v) p.2)) A C], [], _, .one (.tmp 6 (v := .b true) rfl), .refl _, .same _, A, C, rfl, rfl⟩

theorem aJe (j : aU) (P : List aF) {Q : ((Option bB) × Bool) → Prop} (h : rY j P Q) : fM Try.prog 50 [.agg (bD j), .d (.sl 5 (P.map aJ))] [] (fun r' o' => ∃ (r : (Option bB) × Bool), Q r ∧ r' = .tup [fB bL r.1, .b r.2] ∧ o' = []) := by
 unfold rY at h;refine jK Try.func50 rfl (rs := [.tmp 4, .tmp 5]) Try.results50 Try.ntmps50 (Nat.le_of_ble_eq_true rfl) ?_;refine aC (aA ?_);refine bC rfl (eL (v := .agg (bD j)) (aD rfl) rfl rfl rfl) ?_;rintro _ ⟨b1, rfl⟩;refine ta (fB bL (none : Option bB)) (ta (.b false) (aB (aC ?_)));obtain ⟨r3, h4, h⟩ := gF h;refine tV mix 5 [1] (fun X2 => [(19, .agg (bD j)), (22, .d (.lit (X2 3).v)), (23, .d (.lit (.map (some (X2 4).b))))]) (fun X2 => [.box b1 0 (bD j), .arr (X2 3).v 3 1 (r3.map aK), .map (X2 4).b (([] : List (aG × Int)).map fun p : aG × Int => ((fun a : aG => Value.agg ((aO a).map bQ).toArray) p.1, (fun v : Int => AV.i v) p.2)) ([]) 0]) ?_ ?_
 ·refine ⟨2, fun X2 => [(19, 0, .agg (bD j)), (20, 1, .bp b1 0 1), (21, 2, .d (.sl 1 (j.Slots.map aK))), (22, 3, .d (.lit (X2 3).v)), (23, 4, .d (.lit (.map (some (X2 4).b))))], fun X2 => [([], .box b1 0 (bD j)), ([(3, .arr (X2 3).v 3 1 (r3.map aK))], nob), ([(4, .map (X2 4).b (([] : List (aG × Int)).map fun p : aG × Int => ((fun a : aG => Value.agg ((aO a).map bQ).toArray) p.1, (fun v : Int => AV.i v) p.2)) ([]) 0)], nob)], ?_, ?_⟩
  · exact ⟨by kernel_rfl, by kernel_rfl, by kernel_rfl, fun _ => by kernel_rfl, fun _ => by kernel_rfl, fun _ => by kernel_rfl, fun _ => rfl, [([], []), ([], [3]), ([1], [3]), ([2], []), ([], [])], by kernel_rfl, ⟨fun X2 S hw hi hS => bW (X := X2) rfl (hw X2) rfl (cL rfl (zA (aD rfl) (aT hS rfl) (i := 0) (og hS rfl rfl) mA (es := (bD j)) rfl rfl)),
      fun X2 S hw hi hS => bW (X := X2) rfl (hw X2) rfl (cL rfl (rW (aD rfl) (aT hS rfl) eC)),
      fun X2 S hw hi hS => bW (X := X2) rfl (hw X2) rfl (cL rfl (tS (aD rfl) (aT hS rfl) (i := 0) (og hS rfl rfl) rfl cJ)),
      fun X2 S hw hi hS => aUb (X := X2) (p := 1) (v := fun x => .d (.lit x.v)) (mo := fun x => .arr x.v 3 1 (r3.map aK)) hS hi rfl rfl (fun _ => rfl) hw (fun _ => rfl) (fun _ => rfl) (fun _ => rfl) (fun _ => ⟨rfl, rfl, .inr rfl, ⟨rfl, rfl, .inr rfl, ⟨rfl, rfl, .inr rfl, ⟨rfl, rfl, .inl rfl, ⟨rfl, rfl, .inr rfl, trivial⟩⟩⟩⟩⟩) (fun _ => ⟨trivial, rfl, ⟨⟨rfl, .inl rfl, trivial⟩, rfl, ⟨⟨rfl, .inr rfl, trivial⟩, rfl, trivial⟩⟩⟩) (aGn (yX (aD rfl) (.func _ _ Try.call76) (ev2 (aT hS rfl) evn) rfl (sQ _ h4)) (by rintro _ ⟨w, rfl⟩; exact ⟨⟨0, w⟩, aN [0, 3, 2] rfl rfl (le_refl _)⟩)),
      fun X2 S hw hi hS => aUb (X := X2) (p := 2) (v := fun x => .d (.lit (.map (some x.b)))) (mo := fun x => .map x.b (([] : List (aG × Int)).map fun p : aG × Int => ((fun a : aG => Value.agg ((aO a).map bQ).toArray) p.1, (fun v : Int => AV.i v) p.2)) ([]) 0) hS hi rfl rfl (fun _ => rfl) hw (fun _ => rfl) (fun _ => rfl) (fun _ => rfl) (fun _ => ⟨rfl, rfl, .inr rfl, ⟨rfl, rfl, .inr rfl, ⟨rfl, rfl, .inr rfl, ⟨rfl, rfl, .inr rfl, ⟨rfl, rfl, .inl rfl, trivial⟩⟩⟩⟩⟩) (fun _ => ⟨trivial, rfl, ⟨⟨rfl, .inr rfl, trivial⟩, rfl, ⟨⟨rfl, .inl rfl, trivial⟩, rfl, trivial⟩⟩⟩) (aGn (aBd (aD rfl)) (by rintro _ ⟨w, rfl⟩; exact ⟨⟨w, undef⟩, aN [0, 1, 3] rfl rfl (le_refl _)⟩)), trivial⟩⟩
  · exact fun X2 => cE (aI rfl (aI rfl (aI rfl (aM ⟨rfl, trivial⟩))))
 ·intro X2;refine to (eA (aD rfl) aYh (zs := [.lit (.int .i64 0), .sl 1 ((([] : List Int)).map aK), .sl 1 ((([] : List Int)).map aK), .lit (.map none)]) rfl rfl rfl rfl (es := [.lit (.int .i64 j.Rounds), .sl 1 (j.Slots.map aK), .lit (X2 3).v, .lit (.map (some (X2 4).b))]) rfl) ?_;refine bC rfl (eL (v := .agg [.lit (.int .i64 j.Rounds), .sl 1 (j.Slots.map aK), .lit (X2 3).v, .lit (.map (some (X2 4).b))]) (aD rfl) rfl rfl rfl) ?_;rintro _ ⟨b5, rfl⟩;refine ta (.bp b5 0 0) (aB (aC (aA ?_)));refine bC rfl (aBd (aD rfl)) ?_;rintro _ ⟨r6, rfl⟩;refine bC rfl (aBd (aD rfl)) ?_;rintro _ ⟨r7, rfl⟩;refine ta (.d (.lit (.map (some r6)))) (ta (.d (.lit (.map (some r7)))) (aB (aC (aC (aA (tm (.d (.sl 5 (P.map aJ))) (to (sle rfl iA.of) (tm (.i 0) (aB (bA ?_))))))))));refine vP [6, 7, 8, 28, 29] (fun (s8 : Int × (List (aF × Int)) × (List (aG × aF)) × (List Nat) × Nat × (List Nat) × Nat) => [(30, .i s8.1)]) (fun (s8 : Int × (List (aF × Int)) × (List (aG × aF)) × (List Nat) × Nat × (List Nat) × Nat) => [.arr (X2 3).v 3 1 (r3.map aK), .map (X2 4).b (([] : List (aG × Int)).map fun p : aG × Int => ((fun a : aG => Value.agg ((aO a).map bQ).toArray) p.1, (fun v : Int => AV.i v) p.2)) ([]) 0, .box b5 0 [.lit (.int .i64 j.Rounds), .sl 1 (j.Slots.map aK), .lit (X2 3).v, .lit (.map (some (X2 4).b))], .map r6 (s8.2.1.map fun p : aF × Int => ((fun a : aF => Value.agg ((aJ a).map bQ).toArray) p.1, (fun v : Int => AV.i v) p.2)) s8.2.2.2.1 s8.2.2.2.2.1, .map r7 (s8.2.2.1.map fun p : aG × aF => ((fun a : aG => Value.agg ((aO a).map bQ).toArray) p.1, (fun v : aF => AV.agg (aJ v)) p.2)) s8.2.2.2.2.2.1 s8.2.2.2.2.2.2]) (fun (k : Nat) (s8 : Int × (List (aF × Int)) × (List (aG × aF)) × (List Nat) × Nat × (List Nat) × Nat) => iL Q P (P.length : Int) r3 ([] : List (aG × Int)) j k s8.1 s8.2.1 s8.2.2.1) (fun _ h => h) (0, ([] : List (aF × Int)), ([] : List (aG × aF)), [], 0, [], 0) h (aN [1, 2, 3, 4, 5] rfl rfl (aI rfl (aM ⟨rfl, rfl, rfl, rfl, rfl, trivial⟩))) ?_;rintro d7 ⟨I, g, e, J, A, C, s⟩ h;simp only [iL] at h;refine aC (aA (to (scm rfl rfl rfl) (aB (aC ?_))));refine tip h (fun c0 h => ?_) (fun c0 h => ?_)
  ·refine aV (aC (bA (aC (aA ?_))));obtain ⟨c, c1, h⟩ := gF h;refine to (six rfl rfl iA.of (aW aJ c1)) (to (pH (aJ c) rfl lI) ?_);refine bC rfl (cP (zs := [.lit (.int .i64 0), .lit (.int .i64 0), .lit (.int .i64 0), .lit (.int .i64 0), .lit (.int .i64 0)]) (aD rfl) Try.zeroValue46 rfl rfl) ?_;rintro _ ⟨a0, rfl⟩;refine to (sst 5 rfl rfl Try.sizeOf46 (aJ c)) (aB (aC (aC (aA (tfl 5 rfl rfl nQ rfl aP (to (scm rfl rfl rfl) (aB ?_)))))));refine tip h (fun c2 h => ?_) (fun c2 h => ?_)
   ·refine aC ?_;refine tV mix 6 [6, 7, 8, 28, 29, 30] (fun u => [(37, .d (.lit (.map (some r6)))), (40, .i (w64 ((cU c 0 g) + 1))), (42, .i (sC c g J A))]) (fun u => [.arr (X2 3).v 3 1 (r3.map aK), .map (X2 4).b (([] : List (aG × Int)).map fun p : aG × Int => ((fun a : aG => Value.agg ((aO a).map bQ).toArray) p.1, (fun v : Int => AV.i v) p.2)) ([]) 0, .box b5 0 [.lit (.int .i64 j.Rounds), .sl 1 (j.Slots.map aK), .lit (X2 3).v, .lit (.map (some (X2 4).b))], .map r6 ((qL c 0 g).map fun p : aF × Int => ((fun a : aF => Value.agg ((aJ a).map bQ).toArray) p.1, (fun v : Int => AV.i v) p.2)) (mbs c g J A) (mck c g A), .map r7 (e.map fun p : aG × aF => ((fun a : aG => Value.agg ((aO a).map bQ).toArray) p.1, (fun v : aF => AV.agg (aJ v)) p.2)) C s, .box a0 0 (aJ c)]) ?_ ?_
    ·refine ⟨0, fun u => [(37, 0, .d (.lit (.map (some r6)))), (38, 1, .agg (aJ c)), (39, 2, .i (cU c 0 g)), (40, 3, .i (w64 ((cU c 0 g) + 1))), (41, 4, .tup [.i (cU c 0 g), .i (sC c g J A)]), (42, 5, .i (sC c g J A))], fun u => [([], .arr (X2 3).v 3 1 (r3.map aK)), ([], .map (X2 4).b (([] : List (aG × Int)).map fun p : aG × Int => ((fun a : aG => Value.agg ((aO a).map bQ).toArray) p.1, (fun v : Int => AV.i v) p.2)) ([]) 0), ([], .box b5 0 [.lit (.int .i64 j.Rounds), .sl 1 (j.Slots.map aK), .lit (X2 3).v, .lit (.map (some (X2 4).b))]), ([(4, .map r6 ((qL c 0 g).map fun p : aF × Int => ((fun a : aF => Value.agg ((aJ a).map bQ).toArray) p.1, (fun v : Int => AV.i v) p.2)) (mbs c g J A) (mck c g A))], .map r6 (g.map fun p : aF × Int => ((fun a : aF => Value.agg ((aJ a).map bQ).toArray) p.1, (fun v : Int => AV.i v) p.2)) J A), ([], .map r7 (e.map fun p : aG × aF => ((fun a : aG => Value.agg ((aO a).map bQ).toArray) p.1, (fun v : aF => AV.agg (aJ v)) p.2)) C s), ([], .box a0 0 (aJ c))], ?_, ?_⟩
     · exact ⟨by kernel_rfl, by kernel_rfl, by kernel_rfl, fun _ => by kernel_rfl, fun _ => by kernel_rfl, fun _ => by kernel_rfl, fun _ => rfl, [([], [4]), ([], [4]), ([0, 1], []), ([2], []), ([0, 1], []), ([4], [])], by kernel_rfl, ⟨fun u S hw hi hS => bW (X := u) rfl (hw u) rfl (cL rfl (eB (v := .d (.lit (.map (some r6)))) (aD rfl) (aT hS rfl) rfl)),
      fun u S hw hi hS => bW (X := u) rfl (hw u) rfl (cL rfl (zA (aD rfl) (aT hS rfl) (i := 5) (og hS rfl rfl) lI (es := (aJ c)) rfl rfl)),
      fun u S hw hi hS => bW (X := u) rfl (hw u) rfl (cL rfl (aTp (av := (fun v : Int => AV.i v)) (l := g) (z := 0) (a := c) (m := 3) (aD rfl) aNs Try.underlying122 Try.zeroValue3 (fun _ _ => .d (.lit _ rfl)) (aT hS rfl) (og2 rfl) rfl (aT hS rfl) (pP (enc := aJ) c rfl))),
      fun u S hw hi hS => bW (X := u) rfl (hw u) rfl (cL rfl (oR (aD rfl) (aT hS rfl) rfl rfl)),
      fun u S hw hi hS => aYm (X := u) (p := 3) hS rfl rfl rfl (hw u) rfl rfl rfl (aGn (aRs (av := (fun v : Int => AV.i v)) (l := g) (z := 0) (a := c) (m := 3) (aD rfl) aNs Try.underlying122 Try.zeroValue3 (fun _ _ => .d (.lit _ rfl)) (aT hS rfl) (og hS rfl rfl) rfl (aT hS rfl) (pP (enc := aJ) c rfl)) (by rintro _ rfl; exact Ent.refl _)),
      fun u S hw hi hS => bW (X := u) rfl (hw u) rfl (cL rfl (aGe (aD rfl) (aT hS rfl) rfl)), trivial⟩⟩
     · exact fun u => cE (aI rfl (aI rfl (aI rfl (aM ⟨rfl, rfl, rfl, rfl, rfl, rfl, trivial⟩))))
    ·intro u;refine to (aMn (kv := (fun a : aF => Value.agg ((aJ a).map bQ).toArray)) (av := (fun v : Int => AV.i v)) (l := g) (z := 0) (v := w64 ((cU c 0 g) + 1)) (a := c) (m := 3) rfl rfl rfl rfl rfl) ?_;refine aB ?_;refine bT ?_;refine .inl ⟨rfl, ?_⟩;refine aA (to (sar rfl rfl rfl) (tm (.i (w64 (I + 1))) (aB ?_)));exact ⟨(w64 (I + 1), (gL c (w64 ((cU c 0 g) + 1)) g), e, (mbs c g J A), (mck c g A), C, s), h, aN [0, 1, 2, 3, 4] rfl rfl (aI rfl (aM ⟨rfl, rfl, rfl, rfl, rfl, trivial⟩))⟩
   ·refine aV (aC (aA (tfl 5 rfl rfl oY rfl aP (tfl 5 rfl rfl kL rfl aP (to (eA (aD rfl) aLb (zs := [.lit (.int .i64 0), .lit (.int .i64 0)]) rfl rfl rfl rfl (es := [.lit (.int .i64 c.Round), .lit (.int .i64 c.Place)]) rfl) ?_)))));refine bC rfl (cP (zs := [.lit (.int .i64 0), .lit (.int .i64 0)]) (aD rfl) Try.zeroValue120 rfl rfl) ?_;rintro _ ⟨c3, rfl⟩;refine to (sst 6 rfl rfl Try.sizeOf120 (aO (aG.mk c.Round c.Place))) (aB (aC (aC (aA (tm (.d (.lit (.map (some r7)))) (to (sla 6 (aO (aG.mk c.Round c.Place)) rfl rfl vS) (to (aKn (av := (fun v : aF => AV.agg (aJ v))) (l := e) (z := (aF.mk 0 0 0 0 0)) (a := (aG.mk c.Round c.Place)) (m := 4) (aD rfl) zJ Try.underlying123 Try.zeroValue46 (fun _ _ => .agg (aFi rfl)) rfl rfl rfl rfl (pP (enc := aO) (aG.mk c.Round c.Place) rfl)) ?_)))))));refine tm (.tup [.agg (aJ (cU (aG.mk c.Round c.Place) (aF.mk 0 0 0 0 0) e)), .b (dS (aG.mk c.Round c.Place) e)]) (to (sex rfl rfl) (to (sex rfl rfl) ?_));refine bC rfl (cP (zs := [.lit (.int .i64 0), .lit (.int .i64 0), .lit (.int .i64 0), .lit (.int .i64 0), .lit (.int .i64 0)]) (aD rfl) Try.zeroValue46 rfl rfl) ?_;rintro _ ⟨c4, rfl⟩;refine to (sst 7 rfl rfl Try.sizeOf46 (aJ (cU (aG.mk c.Round c.Place) (aF.mk 0 0 0 0 0) e))) (ta (.b (dS (aG.mk c.Round c.Place) e)) (aB (aC (aA (tm (.b (dS (aG.mk c.Round c.Place) e)) (tm (.b (dS (aG.mk c.Round c.Place) e)) ?_))))));obtain ⟨c5, T, h⟩ := gF h;refine aZ 4 [6, 7, 8, 10, 11, 28, 29, 30] 59 c5 ?_ ?_
    ·refine bch T (fun K T => ?_) (fun K T => ?_)
     ·refine tk K (sla 7 (aJ (cU (aG.mk c.Round c.Place) (aF.mk 0 0 0 0 0) e)) rfl rfl lI) (tk K (sla 5 (aJ c) rfl rfl lI) (tk K (aGy (a := (cU (aG.mk c.Round c.Place) (aF.mk 0 0 0 0 0) e)) (b := c) (aD rfl) rfl rfl rfl rfl Try.eqGuardType46 aNk) ?_));refine to (spt (.b (!decide ((cU (aG.mk c.Round c.Place) (aF.mk 0 0 0 0 0) e) = c))) K) ?_;obtain rfl := sIn T;refine aB (aL rfl ⟨rfl, rfl, rfl, rfl, rfl, rfl, rfl, rfl, trivial⟩ rfl)
     ·refine tp K (tp K (tp K (to (spf (.b false) K) ?_)));obtain rfl := sIn T;refine aB (aL rfl ⟨rfl, rfl, rfl, rfl, rfl, rfl, rfl, rfl, trivial⟩ rfl)
    ·refine aB ?_;refine tip h (fun c6 h => ?_) (fun c6 h => ?_)
     ·refine aC (aA (ta (fB bL (none : Option bB)) (ta (.b false) (aB ?_))));exact aX ⟨rfl, _, [], [.arr (X2 3).v 3 1 (r3.map aK), .map (X2 4).b (([] : List (aG × Int)).map fun p : aG × Int => ((fun a : aG => Value.agg ((aO a).map bQ).toArray) p.1, (fun v : Int => AV.i v) p.2)) ([]) 0, .box b5 0 [.lit (.int .i64 j.Rounds), .sl 1 (j.Slots.map aK), .lit (X2 3).v, .lit (.map (some (X2 4).b))], .map r6 (g.map fun p : aF × Int => ((fun a : aF => Value.agg ((aJ a).map bQ).toArray) p.1, (fun v : Int => AV.i v) p.2)) J A, .map r7 (e.map fun p : aG × aF => ((fun a : aG => Value.agg ((aO a).map bQ).toArray) p.1, (fun v : aF => AV.agg (aJ v)) p.2)) C s, .box a0 0 (aJ c), .box c3 0 (aO (aG.mk c.Round c.Place)), .box c4 0 (aJ (cU (aG.mk c.Round c.Place) (aF.mk 0 0 0 0 0) e))], _, .two (.tmp 4 (v := fB bL (none : Option bB)) rfl) (.tmp 5 (v := .b false) rfl), .refl _, .same _, ((none : Option bB), false), h, rfl, rfl⟩
     ·refine aV (aA (tm (.d (.lit (.map (some r7)))) (to (sla 6 (aO (aG.mk c.Round c.Place)) rfl rfl vS) (to (sla 5 (aJ c) rfl rfl lI) (to (aBp (av := (fun v : aF => AV.agg (aJ v))) (l := e) (v := c) (a := (aG.mk c.Round c.Place)) (m := 4) zJ Try.underlying123 rfl rfl rfl rfl (pP (enc := aO) (aG.mk c.Round c.Place) rfl) rfl rfl) ?_)))));refine cQ ?_;refine aA (to (sar rfl rfl rfl) (tm (.i (w64 (I + 1))) (aB ?_)));exact ⟨(w64 (I + 1), g, (gL (aG.mk c.Round c.Place) c e), J, A, (mbs (aG.mk c.Round c.Place) e C s), (mck (aG.mk c.Round c.Place) e s)), h, aN [0, 1, 2, 3, 4] rfl rfl (aI rfl (aM ⟨rfl, rfl, rfl, rfl, rfl, trivial⟩))⟩
  ·refine bT ?_;refine .inl ⟨rfl, ?_⟩;simp only [rL] at h;refine aC (aC (aA (tm (.bp b5 0 0) (tm (.d (.lit (.map (some r6)))) ?_))));refine rH (aN [2, 0, 3, 1, 4] rfl rfl (le_refl _)) ?_;refine bC rfl (eS (passed := [.box b5 0 [.lit (.int .i64 j.Rounds), .sl 1 (j.Slots.map aK), .lit (X2 3).v, .lit (.map (some (X2 4).b))], .arr (X2 3).v 3 1 (r3.map aK), .map r6 (g.map fun p : aF × Int => ((fun a : aF => Value.agg ((aJ a).map bQ).toArray) p.1, (fun v : Int => AV.i v) p.2)) J A]) (aD rfl) rfl (.func _ _ Try.call77) rfl rfl (aBi j r3 g h)) ?_;rintro _ ⟨_, _, ⟨E, b6, b7, h, rfl, rfl⟩, rfl⟩;refine to (sn rfl) (aB ?_);refine tip h (fun c7 h => ?_) (fun c7 h => ?_)
   ·refine aC (aA (ta (fB bL (none : Option bB)) (ta (.b false) (aB ?_))));exact aX ⟨rfl, _, [], [.box b5 0 [.lit (.int .i64 j.Rounds), .sl 1 (j.Slots.map aK), .lit (X2 3).v, .lit (.map (some (X2 4).b))], .arr (X2 3).v 3 1 (E.2.1.map aK), .map r6 (E.2.2.map fun p : aF × Int => ((fun a : aF => Value.agg ((aJ a).map bQ).toArray) p.1, (fun v : Int => AV.i v) p.2)) b6 b7, .map (X2 4).b (([] : List (aG × Int)).map fun p : aG × Int => ((fun a : aG => Value.agg ((aO a).map bQ).toArray) p.1, (fun v : Int => AV.i v) p.2)) ([]) 0, .map r7 (e.map fun p : aG × aF => ((fun a : aG => Value.agg ((aO a).map bQ).toArray) p.1, (fun v : aF => AV.agg (aJ v)) p.2)) C s], _, .two (.tmp 4 (v := fB bL (none : Option bB)) rfl) (.tmp 5 (v := .b false) rfl), .refl _, .same _, ((none : Option bB), false), h, rfl, rfl⟩
   ·refine aV (aC (aC (aA (tm (.bp b5 0 0) (to (mV (aD rfl) rfl) ?_)))));refine tfl 0 rfl rfl qJ rfl cJ (to (jL (m := 1) (aD rfl) rfl rfl bH.of) ?_);refine tm (.i 0) (aB (bA ?_));refine vP [6, 8, 71, 72] (fun (M : Int × (List (aG × Int)) × (List Nat) × Nat) => [(73, .i M.1)]) (fun (M : Int × (List (aG × Int)) × (List Nat) × Nat) => [.arr (X2 3).v 3 1 (E.2.1.map aK), .map (X2 4).b (M.2.1.map fun p : aG × Int => ((fun a : aG => Value.agg ((aO a).map bQ).toArray) p.1, (fun v : Int => AV.i v) p.2)) M.2.2.1 M.2.2.2, .box b5 0 [.lit (.int .i64 j.Rounds), .sl 1 (j.Slots.map aK), .lit (X2 3).v, .lit (.map (some (X2 4).b))], .map r7 (e.map fun p : aG × aF => ((fun a : aG => Value.agg ((aO a).map bQ).toArray) p.1, (fun v : aF => AV.agg (aJ v)) p.2)) C s]) (fun (k : Nat) (M : Int × (List (aG × Int)) × (List Nat) × Nat) => iM Q (E.2.1.length : Int) E.2.1 j e k M.1 M.2.1) (fun _ h => h) (0, ([] : List (aG × Int)), [], 0) h (aN [1, 3, 0, 4] rfl rfl (aI rfl (aM ⟨rfl, rfl, rfl, rfl, trivial⟩))) ?_;rintro d8 ⟨y, H, U, V⟩ h;simp only [iM] at h;refine aC (aA (to (scm rfl rfl rfl) (aB (aC ?_))));refine tip h (fun c8 h => ?_) (fun c8 h => ?_)
    ·refine aV (aC (bA (aC (aA (tm (.i y) ?_)))));obtain ⟨a8, a9, h⟩ := gF h;refine to (dF (m := 0) (aD rfl) rfl rfl rfl bH.of (aW aK a9)) ?_;refine to (iK (aD rfl) rfl (m := 0) rfl (dO aK a9) rfl aP) ?_;refine ta (.i y) (ta (.i a8) (aB (aC (aA (tm (.i a8) (to (scm rfl rfl rfl) (aB ?_)))))));refine tip h (fun c9 h => ?_) (fun c9 h => ?_)
     ·refine aA (tm (.bp b5 0 0) (tm (.i y) (to (aTk (aD rfl) rfl rfl (.inr (.inr ⟨rfl, rfl⟩))) ?_)));obtain ⟨d0, d1, h⟩ := gF h;refine rH (aN [2, 0, 1, 3] rfl rfl (le_refl _)) ?_;refine bC rfl (eS (passed := [.box b5 0 [.lit (.int .i64 j.Rounds), .sl 1 (j.Slots.map aK), .lit (X2 3).v, .lit (.map (some (X2 4).b))], .arr (X2 3).v 3 1 (E.2.1.map aK), .map (X2 4).b (H.map fun p : aG × Int => ((fun a : aG => Value.agg ((aO a).map bQ).toArray) p.1, (fun v : Int => AV.i v) p.2)) U V]) (aD rfl) rfl (.func _ _ Try.call78) rfl rfl (wY j E.2.1 H (aNc y 1) 0 d1)) ?_;rintro _ ⟨_, _, ⟨b8, b9, rfl, rfl⟩, rfl⟩;refine cQ ?_;refine aA (to (sar rfl rfl rfl) (tm (.i (w64 (y + 1))) (aB ?_)));exact ⟨(w64 (y + 1), d0.2, b8, b9), h, aN [1, 2, 0, 3] rfl rfl (aI rfl (aM ⟨rfl, rfl, rfl, rfl, trivial⟩))⟩
     ·refine cM ?_;refine aA (to (sar rfl rfl rfl) (tm (.i (w64 (y + 1))) (aB ?_)));exact ⟨(w64 (y + 1), H, U, V), h, aN [0, 1, 2, 3] rfl rfl (aI rfl (aM ⟨rfl, rfl, rfl, rfl, trivial⟩))⟩
    ·refine bT ?_;refine .inl ⟨rfl, ?_⟩;simp only [rM] at h;refine aC (aC (aA (tm (.d (.lit (.map (some r7)))) ?_)));refine bC rfl (aQm (m := 3) (aD rfl) Try.underlying123 rfl rfl) ?_;rintro _ ⟨Z, d2, rfl⟩;have h := aFm h d2;refine aB (bA ?_);refine vP [6, 86] (fun (N : (List (aG × Int)) × (List Nat) × Nat × (List Nat)) => []) (fun (N : (List (aG × Int)) × (List Nat) × Nat × (List Nat)) => [.arr (X2 3).v 3 1 (E.2.1.map aK), .map (X2 4).b (N.1.map fun p : aG × Int => ((fun a : aG => Value.agg ((aO a).map bQ).toArray) p.1, (fun v : Int => AV.i v) p.2)) N.2.1 N.2.2.1, .box b5 0 [.lit (.int .i64 j.Rounds), .sl 1 (j.Slots.map aK), .lit (X2 3).v, .lit (.map (some (X2 4).b))], .map r7 (e.map fun p : aG × aF => ((fun a : aG => Value.agg ((aO a).map bQ).toArray) p.1, (fun v : aF => AV.agg (aJ v)) p.2)) C s, .iter Z r7 s N.2.2.2 s]) (fun (k : Nat) (N : (List (aG × Int)) × (List Nat) × Nat × (List Nat)) => kI Q E.2.1 j e k N.1 (nO e C N.2.2.2)) (fun _ h => h) (H, U, V, []) h (aN [0, 1, 2, 3, 4] rfl rfl (aM ⟨rfl, rfl, trivial⟩)) ?_;rintro d9 ⟨B, W, Y, L⟩ h;simp only [kI] at h;refine aC (aA ?_);refine bC rfl (aTq (kv := (fun a : aG => Value.agg ((aO a).map bQ).toArray)) (av := (fun v : aF => AV.agg (aJ v))) (l := e) (mi := 4) (mm := 3) (aD rfl) rfl rfl rfl) ?_;rintro _ (⟨d3, rfl⟩ | ⟨e0, a1, n, b0, rfl⟩)
     ·have h := h.1 d3;refine to (sex rfl rfl) (aB (aC ?_));refine zF rfl (fun b2 => ?_) (fun b2 => ?_)
      ·exact absurd b2 (by decide)
      ·refine bT ?_;refine .inl ⟨rfl, ?_⟩;simp only [vA] at h;refine aC (aA (tm (.bp b5 0 0) (ta (.bp b5 0 0) (ta (.b true) (aB ?_)))));exact aX ⟨rfl, _, [], [.arr (X2 3).v 3 1 (E.2.1.map aK), .map (X2 4).b (B.map fun p : aG × Int => ((fun a : aG => Value.agg ((aO a).map bQ).toArray) p.1, (fun v : Int => AV.i v) p.2)) W Y, .box b5 0 [.lit (.int .i64 j.Rounds), .sl 1 (j.Slots.map aK), .lit (X2 3).v, .lit (.map (some (X2 4).b))], .map r7 (e.map fun p : aG × aF => ((fun a : aG => Value.agg ((aO a).map bQ).toArray) p.1, (fun v : aF => AV.agg (aJ v)) p.2)) C s, .iter Z r7 s L s], _, .two (.tmp 4 (v := .bp b5 0 0) rfl) (.tmp 5 (v := .b true) rfl), .refl _, aEr (.cons (aCo 2 rfl rfl (dvc (.same _) (dvc (.same _) (dvc (nE 0 rfl (cX (f := aK) fun _ => rfl)) (dvc (aYp (kv := (fun a : aG => Value.agg ((aO a).map bQ).toArray)) (av := (fun v : Int => AV.i v)) (l := B) (enc := aK) (agg := false) 1 rfl (fun _ _ => rfl) (fun _ => rfl)) dvn))))) (.cons (.same _) .nil)), ((some (bB.mk j E.2.1 B)), true), h, rfl, rfl⟩
     ·have h := aHl h b0;refine to (sex rfl rfl) (aB (aC ?_));refine zF rfl (fun b3 => ?_) (fun b3 => ?_)
      ·refine aV (bA (aC (aA (to (aQl (kv := (fun a : aG => Value.agg ((aO a).map bQ).toArray)) (av := (fun v : aF => AV.agg (aJ v))) (l := e) (mi := 4) (mm := 3) (ka := .agg (aO n.1)) (aD rfl) rfl rfl rfl b0 (fun _ _ => .agg (aFi rfl))) ?_))));refine to (sex rfl rfl) (to (sex rfl rfl) ?_);refine bC rfl (cP (zs := [.lit (.int .i64 0), .lit (.int .i64 0)]) (aD rfl) Try.zeroValue120 rfl rfl) ?_;rintro _ ⟨O, rfl⟩;refine bC rfl (cP (zs := [.lit (.int .i64 0), .lit (.int .i64 0), .lit (.int .i64 0), .lit (.int .i64 0), .lit (.int .i64 0)]) (aD rfl) Try.zeroValue46 rfl rfl) ?_;rintro _ ⟨a2, rfl⟩;refine to (sst 5 rfl rfl Try.sizeOf120 (aO n.1)) (to (sst 6 rfl rfl Try.sizeOf46 (aJ n.2)) (aB (aC ?_)));refine cR mix 6 [6, 16, 86] [(95, .d (.lit (X2 3).v)), (97, .i n.2.Player)] ?_ ?_
       ·refine ⟨[(92, 0, .bp b5 0 0), (93, 1, .bp b5 0 0), (94, 2, .bp b5 0 2), (95, 3, .d (.lit (X2 3).v)), (96, 4, .bp a2 0 3), (97, 5, .i n.2.Player)], ?_, ?_⟩
        · exact dok [([], []), ([0], []), ([1], []), ([2], []), ([], []), ([4], [])] ⟨go (zm (.bp b5 0 0)),
      go fun S hS => mV (aD rfl) (aT hS rfl),
      go (zf rfl qJ),
      go (zl 2 rfl rfl rfl cJ),
      go (zf rfl nR),
      go (zl 6 rfl rfl rfl aP), trivial⟩
        · exact cE (aI rfl (aI rfl (aM ⟨rfl, rfl, rfl, trivial⟩)))
       ·obtain ⟨o, d4, h⟩ := gF h;refine to (sc Try.call79 (tT _ _ d4) (.cons (.d (nE 0 rfl (cX (f := aK) fun _ => rfl))) (.cons (.same _) .nil))) (ta (.i o) (aB (aC ?_)));obtain ⟨a3, G, h⟩ := gF h;refine aJa (a3) (fun t => ?_) (fun t => ?_)
        ·have h := aQe t h;refine cR mix 15 [6, 86] [(109, .b a3)] ?_ ?_
         ·refine bch G (fun q G => ?_) (fun q G => ?_)
          ·obtain rfl := sIn G;refine ⟨[(99, 0, .i o), (100, 1, .b (decide (o < 0))), (101, 2, .b (decide (o < 0))), (102, 3, .tup []), (103, 4, .tup []), (104, 5, .tup []), (105, 6, .tup []), (106, 7, .tup []), (107, 8, .tup []), (108, 9, .b true), (109, 10, .b (true)), (110, 11, .tup []), (111, 12, .tup []), (112, 13, .tup []), (113, 14, .tup [])], ?_, ?_⟩
           · exact dok [([], []), ([0], []), ([1], []), ([2], []), ([2, 3], []), ([2], []), ([2, 4, 5], []), ([2], []), ([2, 6, 7], []), ([2, 8], []), ([9], []), ([10], []), ([10], []), ([10], []), ([10, 13], [])] ⟨go (zm (.i o)),
      go (zcm rfl rfl rfl),
      go (zm (.b (decide (o < 0)))),
      gp q,
      gp q,
      gp q,
      gp q,
      gp q,
      gp q,
      go (zpt (.b true) q),
      go (zm (.b (true))),
      gp t,
      gp t,
      gp t,
      gp t, trivial⟩
           · exact cE (aI rfl (aM ⟨rfl, rfl, trivial⟩))
          ·obtain ⟨F, a4, G⟩ := bns G;obtain rfl := sIn G;refine ⟨[(99, 0, .i o), (100, 1, .b (decide (o < 0))), (101, 2, .b (decide (o < 0))), (102, 3, .bp O 0 0), (103, 4, .i n.1.round), (104, 5, .i o), (105, 6, .agg (aO F)), (106, 7, .agg (aO n.1)), (107, 8, .b (!decide (F = n.1))), (108, 9, .b (!decide (F = n.1))), (109, 10, .b (!decide (F = n.1))), (110, 11, .tup []), (111, 12, .tup []), (112, 13, .tup []), (113, 14, .tup [])], ?_, ?_⟩
           · exact dok [([], []), ([0], []), ([1], []), ([2], []), ([2, 3], []), ([2], []), ([2, 4, 5], []), ([2], []), ([2, 6, 7], []), ([2, 8], []), ([9], []), ([10], []), ([10], []), ([10], []), ([10, 13], [])] ⟨go (zm (.i o)),
      go (zcm rfl rfl rfl),
      go (zm (.b (decide (o < 0)))),
      gt q (zf rfl tE),
      gt q (zl 5 rfl rfl rfl aP),
      gt q (zm (.i o)),
      gt q fun S hS => gH (aD rfl) (.func _ _ Try.call80) (ev2 (aT hS rfl) (ev2 (aT hS rfl) evn)) rfl (sW _ _ a4),
      gt q (zla 5 (aO n.1) rfl rfl vS),
      gt q fun S hS => aGy (a := F) (b := n.1) (aD rfl) (aT hS rfl) (aT hS rfl) rfl rfl Try.eqGuardType120 aKv,
      go (zpf (.b (!decide (F = n.1))) q),
      go (zm (.b (!decide (F = n.1)))),
      gp t,
      gp t,
      gp t,
      gp t, trivial⟩
           · exact cE (aI rfl (aM ⟨rfl, rfl, trivial⟩))
         ·refine tp t (tp t (to (spt (.b true) t) (aB ?_)));refine zF rfl (fun b4 => ?_) (fun b4 => ?_)
          ·refine aC (aA (ta (fB bL (none : Option bB)) (ta (.b false) (aB ?_))));exact aX ⟨rfl, _, [], [.arr (X2 3).v 3 1 (E.2.1.map aK), .map (X2 4).b (B.map fun p : aG × Int => ((fun a : aG => Value.agg ((aO a).map bQ).toArray) p.1, (fun v : Int => AV.i v) p.2)) W Y, .box b5 0 [.lit (.int .i64 j.Rounds), .sl 1 (j.Slots.map aK), .lit (X2 3).v, .lit (.map (some (X2 4).b))], .map r7 (e.map fun p : aG × aF => ((fun a : aG => Value.agg ((aO a).map bQ).toArray) p.1, (fun v : aF => AV.agg (aJ v)) p.2)) C s, .iter Z r7 s (L ++ [a1]) s, .box O 0 (aO n.1), .box a2 0 (aJ n.2)], _, .two (.tmp 4 (v := fB bL (none : Option bB)) rfl) (.tmp 5 (v := .b false) rfl), .refl _, .same _, ((none : Option bB), false), h, rfl, rfl⟩
          ·exact absurd b4 (by decide)
        ·have h := aQd t h;refine cR mix 15 [6, 86] [(109, .b a3), (110, .bp b5 0 0), (111, .i o), (112, .bp O 0 0), (113, .i n.1.round)] ?_ ?_
         ·refine bch G (fun q G => ?_) (fun q G => ?_)
          ·obtain rfl := sIn G;refine ⟨[(99, 0, .i o), (100, 1, .b (decide (o < 0))), (101, 2, .b (decide (o < 0))), (102, 3, .tup []), (103, 4, .tup []), (104, 5, .tup []), (105, 6, .tup []), (106, 7, .tup []), (107, 8, .tup []), (108, 9, .b true), (109, 10, .b (true)), (110, 11, .bp b5 0 0), (111, 12, .i o), (112, 13, .bp O 0 0), (113, 14, .i n.1.round)], ?_, ?_⟩
           · exact dok [([], []), ([0], []), ([1], []), ([2], []), ([2, 3], []), ([2], []), ([2, 4, 5], []), ([2], []), ([2, 6, 7], []), ([2, 8], []), ([9], []), ([10], []), ([10], []), ([10], []), ([10, 13], [])] ⟨go (zm (.i o)),
      go (zcm rfl rfl rfl),
      go (zm (.b (decide (o < 0)))),
      gp q,
      gp q,
      gp q,
      gp q,
      gp q,
      gp q,
      go (zpt (.b true) q),
      go (zm (.b (true))),
      gt t (zm (.bp b5 0 0)),
      gt t (zm (.i o)),
      gt t (zf rfl tE),
      gt t (zl 5 rfl rfl rfl aP), trivial⟩
           · exact cE (aI rfl (aI rfl (aI rfl (aI rfl (aI rfl (aM ⟨rfl, rfl, trivial⟩))))))
          ·obtain ⟨F, a4, G⟩ := bns G;obtain rfl := sIn G;refine ⟨[(99, 0, .i o), (100, 1, .b (decide (o < 0))), (101, 2, .b (decide (o < 0))), (102, 3, .bp O 0 0), (103, 4, .i n.1.round), (104, 5, .i o), (105, 6, .agg (aO F)), (106, 7, .agg (aO n.1)), (107, 8, .b (!decide (F = n.1))), (108, 9, .b (!decide (F = n.1))), (109, 10, .b (!decide (F = n.1))), (110, 11, .bp b5 0 0), (111, 12, .i o), (112, 13, .bp O 0 0), (113, 14, .i n.1.round)], ?_, ?_⟩
           · exact dok [([], []), ([0], []), ([1], []), ([2], []), ([2, 3], []), ([2], []), ([2, 4, 5], []), ([2], []), ([2, 6, 7], []), ([2, 8], []), ([9], []), ([10], []), ([10], []), ([10], []), ([10, 13], [])] ⟨go (zm (.i o)),
      go (zcm rfl rfl rfl),
      go (zm (.b (decide (o < 0)))),
      gt q (zf rfl tE),
      gt q (zl 5 rfl rfl rfl aP),
      gt q (zm (.i o)),
      gt q fun S hS => gH (aD rfl) (.func _ _ Try.call80) (ev2 (aT hS rfl) (ev2 (aT hS rfl) evn)) rfl (sW _ _ a4),
      gt q (zla 5 (aO n.1) rfl rfl vS),
      gt q fun S hS => aGy (a := F) (b := n.1) (aD rfl) (aT hS rfl) (aT hS rfl) rfl rfl Try.eqGuardType120 aKv,
      go (zpf (.b (!decide (F = n.1))) q),
      go (zm (.b (!decide (F = n.1)))),
      gt t (zm (.bp b5 0 0)),
      gt t (zm (.i o)),
      gt t (zf rfl tE),
      gt t (zl 5 rfl rfl rfl aP), trivial⟩
           · exact cE (aI rfl (aI rfl (aI rfl (aI rfl (aI rfl (aM ⟨rfl, rfl, trivial⟩))))))
         ·obtain ⟨a5, d5, h⟩ := gF h;refine rH (aN [2, 0, 1, 3, 4, 5, 6] rfl rfl (le_refl _)) ?_;refine aQo rfl rfl (aD rfl) rfl t (eS (passed := [.box b5 0 [.lit (.int .i64 j.Rounds), .sl 1 (j.Slots.map aK), .lit (X2 3).v, .lit (.map (some (X2 4).b))], .arr (X2 3).v 3 1 (E.2.1.map aK), .map (X2 4).b (B.map fun p : aG × Int => ((fun a : aG => Value.agg ((aO a).map bQ).toArray) p.1, (fun v : Int => AV.i v) p.2)) W Y]) (aD rfl) rfl (.func _ _ Try.call78) rfl rfl (wY j E.2.1 B o n.1.round d5)) ?_;rintro _ ⟨_, _, ⟨a6, a7, rfl, rfl⟩, rfl⟩;refine tk t (sn rfl) (to (spf (.b (!a5.1)) t) (aB ?_));refine tip h (fun d6 h => ?_) (fun d6 h => ?_)
          ·refine aC (aA (ta (fB bL (none : Option bB)) (ta (.b false) (aB ?_))));exact aX ⟨rfl, _, [], [.box b5 0 [.lit (.int .i64 j.Rounds), .sl 1 (j.Slots.map aK), .lit (X2 3).v, .lit (.map (some (X2 4).b))], .arr (X2 3).v 3 1 (E.2.1.map aK), .map (X2 4).b (a5.2.map fun p : aG × Int => ((fun a : aG => Value.agg ((aO a).map bQ).toArray) p.1, (fun v : Int => AV.i v) p.2)) a6 a7, .map r7 (e.map fun p : aG × aF => ((fun a : aG => Value.agg ((aO a).map bQ).toArray) p.1, (fun v : aF => AV.agg (aJ v)) p.2)) C s, .iter Z r7 s (L ++ [a1]) s, .box O 0 (aO n.1), .box a2 0 (aJ n.2)], _, .two (.tmp 4 (v := fB bL (none : Option bB)) rfl) (.tmp 5 (v := .b false) rfl), .refl _, .same _, ((none : Option bB), false), h, rfl, rfl⟩
          ·refine cM ?_;exact ⟨(a5.2, a6, a7, (L ++ [a1])), h, aN [1, 2, 0, 3, 4] rfl rfl (aM ⟨rfl, rfl, trivial⟩)⟩
      ·exact absurd b3 (by decide)

theorem aBs (a : aU) (e : List aF) {Q : ((Option bB) × Int) → Prop} (h : mX a e Q) : fM Try.prog 31 [.agg (bD a), .d (.sl 5 (e.map aJ))] [] (fun r' o' => ∃ (r : (Option bB) × Int), Q r ∧ r' = .tup [fB bL r.1, .i r.2] ∧ o' = []) := by
 unfold mX at h;refine jK Try.func31 rfl (rs := [.tmp 4, .tmp 5]) Try.results31 Try.ntmps31 (Nat.le_of_ble_eq_true rfl) ?_;refine aC (aA ?_);refine bC rfl (eL (v := .agg (bD a)) (aD rfl) rfl rfl rfl) ?_;rintro _ ⟨b1, rfl⟩;refine ta (fB bL (none : Option bB)) (ta (.i 0) (aB (aC (aC (aA (to (sla 0 (bD a) rfl rfl mA) ?_))))));obtain ⟨r2, h3, h⟩ := gF h;refine to (scr Try.call46 (aId _ h3)) (to (sn rfl) (aB ?_));refine tip h (fun c4 h => ?_) (fun c4 h => ?_)
 ·refine aC (aA (ta (fB bL (none : Option bB)) (ta (.i 70) (aB ?_))));exact aX ⟨rfl, _, [], [.box b1 0 (bD a)], _, .two (.tmp 4 (v := fB bL (none : Option bB)) rfl) (.tmp 5 (v := .i 70) rfl), .refl _, .same _, ((none : Option bB), 70), h, rfl, rfl⟩
 ·refine aV (aC (aC (aA (tm (.d (.sl 5 (e.map aJ))) (to (sle rfl iA.of) (to (scm rfl rfl rfl) (tm (.b (decide (60 < (e.length : Int)))) ?_)))))));obtain ⟨b5, h6, h⟩ := gF h;refine aZ 4 [1, 2] 18 b5 ?_ ?_
  ·refine bch h6 (fun c h6 => ?_) (fun c h6 => ?_)
   ·refine tp c (tp c (tp c (to (spt (.b true) c) ?_)));obtain rfl := sIn h6;refine aB (aL rfl ⟨rfl, rfl, trivial⟩ rfl)
   ·refine tk c (sm (.d (.sl 5 (e.map aJ)))) (tk c (aOm (aD rfl) rfl rfl) ?_);obtain ⟨f, g, h6⟩ := bns h6;refine tk c (sc Try.call47 (wU _ _ 48 [.cp [.lit (.int .i64 a.Rounds), .sl 1 (a.Slots.map aK)]] Try.call48 (fun _ _ h6 => aIe _ _ h6) g) (.cons (.same _) (.cons (aVv (.cons (aCo 0 rfl rfl (dvc (.same _) (dvc (.same _) dvn))) .nil)) .nil))) (to (spf (.b f) c) ?_);obtain rfl := sIn h6;refine aB (aL rfl ⟨rfl, rfl, trivial⟩ rfl)
  ·refine aB ?_;refine tip h (fun c7 h => ?_) (fun c7 h => ?_)
   ·refine aC (aA (ta (fB bL (none : Option bB)) (ta (.i 71) (aB ?_))));exact aX ⟨rfl, _, [], [.box b1 0 (bD a)], _, .two (.tmp 4 (v := fB bL (none : Option bB)) rfl) (.tmp 5 (v := .i 71) rfl), .refl _, .same _, ((none : Option bB), 71), h, rfl, rfl⟩
   ·refine aV (aC (aA (to (sla 0 (bD a) rfl rfl mA) (tm (.d (.sl 5 (e.map aJ))) ?_))));refine bC rfl (zO (aD rfl) (.func _ _ Try.call50) rfl rfl (aJe _ _ h)) ?_;rintro _ ⟨_, _, ⟨r8, h, rfl, rfl⟩, rfl⟩;refine tm (.tup [fB bL r8.1, .b r8.2]) (to (sex rfl rfl) (to (sex rfl rfl) (ta (fB bL r8.1) (ta (.b r8.2) (aB (aC (aC (aA (tm (.b r8.2) (to (sn rfl) (aB ?_)))))))))));refine tip h (fun c9 h => ?_) (fun c9 h => ?_)
    ·refine aC (aA (ta (fB bL (none : Option bB)) (ta (.i 72) (aB ?_))));exact aX ⟨rfl, _, [], [.box b1 0 (bD a)], _, .two (.tmp 4 (v := fB bL (none : Option bB)) rfl) (.tmp 5 (v := .i 72) rfl), .refl _, .same _, ((none : Option bB), 72), h, rfl, rfl⟩
    ·refine aV (aC (aA (tm (fB bL r8.1) (ta (fB bL r8.1) (ta (.i 0) (aB ?_))))));exact aX ⟨rfl, _, [], [.box b1 0 (bD a)], _, .two (.tmp 4 (v := fB bL r8.1) rfl) (.tmp 5 (v := .i 0) rfl), .refl _, .same _, (r8.1, 0), h, rfl, rfl⟩

theorem aJc (a : aU) (b : List aF) {Q : Int → Prop} (h : rX a b Q) : fM Try.prog 32 [.agg (bD a), .d (.sl 5 (b.map aJ))] [] (fun r' o' => ∃ (r : Int), Q r ∧ r' = .i r ∧ o' = []) := by
 unfold rX at h;refine jK Try.func32 rfl (rs := [.tmp 4]) Try.results32 Try.ntmps32 (Nat.le_of_ble_eq_true rfl) ?_;refine aC (aA ?_);refine bC rfl (eL (v := .agg (bD a)) (aD rfl) rfl rfl rfl) ?_;rintro _ ⟨b1, rfl⟩;refine ta (.i 0) (aB (aC (aA (to (sla 0 (bD a) rfl rfl mA) (tm (.d (.sl 5 (b.map aJ))) ?_)))));refine bC rfl (zO (aD rfl) (.func _ _ Try.call31) rfl rfl (aBs _ _ h)) ?_;rintro _ ⟨_, _, ⟨r2, h, rfl, rfl⟩, rfl⟩;refine tm (.tup [fB bL r2.1, .i r2.2]) (to (sex rfl rfl) (to (sex rfl rfl) (ta (fB bL r2.1) (ta (.i r2.2) (aB (aC (aA (tm (.i r2.2) (ta (.i r2.2) (aB ?_))))))))));exact aX ⟨rfl, _, [], [.box b1 0 (bD a)], _, .one (.tmp 4 (v := .i r2.2) rfl), .refl _, .same _, r2.2, h, rfl, rfl⟩

theorem aAq (a : Int) {r : Bool} (h : rZ a = some r) : Fn Try.prog 96 [.i a] (.b r) := by
 unfold rZ at h;refine Fn.of_tr Try.func96 rfl (rs := [.tmp 2]) Try.results96 Try.ntmps96 (Nat.le_of_ble_eq_true rfl) ?_;refine aC (aA (ta (.b false) (aB (aC (aA (tm (.i a) (tm (.i a) (to (scm rfl rfl rfl) (ta (.b (!decide (a = a))) (aB ?_))))))))));obtain rfl := sIn h;exact aX ⟨rfl, _, .one _, rfl, rfl⟩

theorem aKu (a : Int) (c : Int) {r : Bool} (h : sX a c = some r) : Fn Try.prog 81 [.i a, .i c] (.b r) := by
 unfold sX at h;refine Fn.of_tr Try.func81 rfl (rs := [.tmp 4]) Try.results81 Try.ntmps81 (Nat.le_of_ble_eq_true rfl) ?_;refine aC (aA (ta (.b false) (aB (aC (aA (tm (.i a) ?_))))));obtain ⟨r1, h2, h⟩ := bns h;refine to (scr Try.call96 (aAq _ h2)) (tm (.b r1) ?_);obtain ⟨b3, h4, h⟩ := bns h;refine aZ 4 [0, 1] 11 b3 ?_ ?_
 ·refine bch h4 (fun c8 h4 => ?_) (fun c8 h4 => ?_)
  ·refine tk c8 (sm (.i c)) ?_;obtain ⟨r9, d, h4⟩ := bns h4;refine tk c8 (scr Try.call96 (aAq _ d)) (tk c8 (sn rfl) (to (spt (.b (!r9)) c8) ?_));obtain rfl := sIn h4;refine aB (aL rfl ⟨rfl, rfl, trivial⟩ rfl)
  ·refine tp c8 (tp c8 (tp c8 (to (spf (.b false) c8) ?_)));obtain rfl := sIn h4;refine aB (aL rfl ⟨rfl, rfl, trivial⟩ rfl)
 ·refine tm (.b b3) ?_;obtain ⟨b5, h6, h⟩ := bns h;refine aZ 4 [] 16 b5 ?_ ?_
  ·refine bch h6 (fun c7 h6 => ?_) (fun c7 h6 => ?_)
   ·refine tp c7 (tp c7 (tp c7 (to (spt (.b true) c7) ?_)));obtain rfl := sIn h6;refine aB (aL rfl trivial rfl)
   ·refine tk c7 (sm (.i a)) (tk c7 (sm (.i c)) (tk c7 (scm rfl rfl rfl) (to (spf (.b (decide (a < c))) c7) ?_)));obtain rfl := sIn h6;refine aB (aL rfl trivial rfl)
  ·refine ta (.b b5) (aB ?_);obtain rfl := sIn h;exact aX ⟨rfl, _, .one _, rfl, rfl⟩

theorem aCh (c : List Int) {r : Bool} (h : mF c = some r) : Fn Try.prog 51 [.d (.sl 1 (c.map aK))] (.b r) := by
 unfold mF at h;refine Fn.of_tr Try.func51 rfl (rs := [.tmp 2]) Try.results51 Try.ntmps51 (Nat.le_of_ble_eq_true rfl) ?_;refine aC (aA (ta (.b false) (aB (aC (aC (aA (tm (.d (.sl 1 (c.map aK))) (to (sle rfl bH.of) (to (sar rfl rfl rfl) (ta (.i (w64 ((c.length : Int) - 1))) (aB (bA ?_))))))))))));refine bR (S := Int) [0] (fun s1 => [(3, .i s1)]) (fun s1 => []) (fun k s1 => gV c k s1) (fun _ => rfl) (w64 ((c.length : Int) - 1)) h (aN [] rfl rfl (aI rfl (aM ⟨rfl, trivial⟩))) ?_;rintro k2 a h;simp only [gV] at h;refine aC (aC (aA (tm (.i a) (to (scm rfl rfl rfl) (aB ?_)))));refine tih h (fun c3 h => ?_) (fun c3 h => ?_)
 ·refine aV (aC (bA (aC ?_)));obtain ⟨x4, h5, h⟩ := bns h;obtain ⟨x6, h7, h⟩ := bns h;refine cR mix 9 [0, 3] [(14, .i x4), (19, .i x6)] ?_ ?_
  ·refine ⟨[(11, 0, .d (.sl 1 (c.map aK))), (12, 1, .i a), (13, 2, .cp [.lit (.int .i64 x4)]), (14, 3, .i x4), (15, 4, .d (.sl 1 (c.map aK))), (16, 5, .i a), (17, 6, .i (w64 (a - 1))), (18, 7, .cp [.lit (.int .i64 x6)]), (19, 8, .i x6)], ?_, ?_⟩
   · exact dok [([], []), ([], []), ([0, 1], []), ([2], []), ([], []), ([], []), ([5], []), ([4, 6], []), ([7], [])] ⟨go (zm (.d (.sl 1 (c.map aK)))),
      go (zm (.i a)),
      go (zix rfl rfl bH.of (aW aK h5)),
      go (zlc rfl aP),
      go (zm (.d (.sl 1 (c.map aK)))),
      go (zm (.i a)),
      go (zar rfl rfl rfl),
      go (zix rfl rfl bH.of (aW aK h7)),
      go (zlc rfl aP), trivial⟩
   · exact cE (aI rfl (aI rfl (aM ⟨rfl, rfl, trivial⟩)))
  ·obtain ⟨r8, h9, h⟩ := bns h;refine to (scr Try.call81 (aKu _ _ h9)) (aB ?_);refine tih h (fun e h => ?_) (fun e h => ?_)
   ·refine aC (aA (ta (.b false) (aB ?_)));obtain rfl := sIn h;exact aX ⟨rfl, _, .one _, rfl, rfl⟩
   ·refine cM ?_;refine aA (tm (.i a) (to (sar rfl rfl rfl) (ta (.i (w64 (a - 1))) (aB ?_))));exact ⟨(w64 (a - 1)), h, aN [] rfl rfl (aI rfl (aM ⟨rfl, trivial⟩))⟩
 ·refine bT ?_;refine .inl ⟨rfl, ?_⟩;simp only [uS] at h;refine aC (aA (ta (.b true) (aB ?_)));obtain rfl := sIn h;exact aX ⟨rfl, _, .one _, rfl, rfl⟩

theorem gN (d : Int) (c : Int) (a : Int) {r : Bool} (h : gB d c a = some r) : Fn Try.prog 52 [.i d, .i c, .i a] (.b r) := by
 unfold gB at h;refine Fn.of_tr Try.func52 rfl (rs := [.tmp 6]) Try.results52 Try.ntmps52 (Nat.le_of_ble_eq_true rfl) ?_;refine aC (aA (ta (.b false) (aB (aC (aA (tm (.i c) (tm (.i d) (to (scm rfl rfl rfl) (tm (.b (decide (c ≤ d))) ?_)))))))));obtain ⟨b1, h2, h⟩ := bns h;refine aZ 4 [] 14 b1 ?_ ?_
 ·refine bch h2 (fun c3 h2 => ?_) (fun c3 h2 => ?_)
  ·refine tk c3 (sm (.i d)) (tk c3 (sm (.i a)) (tk c3 (scm rfl rfl rfl) (to (spt (.b (decide (d ≤ a))) c3) ?_)));obtain rfl := sIn h2;refine aB (aL rfl trivial rfl)
  ·refine tp c3 (tp c3 (tp c3 (to (spf (.b false) c3) ?_)));obtain rfl := sIn h2;refine aB (aL rfl trivial rfl)
 ·refine ta (.b b1) (aB ?_);obtain rfl := sIn h;exact aX ⟨rfl, _, .one _, rfl, rfl⟩

theorem aKh (f : aQ) {r : Bool} (h : sF f = some r) : Fn Try.prog 33 [.agg (aS f)] (.b r) := by
 unfold sF at h;refine Fn.of_tr Try.func33 rfl (rs := [.tmp 2]) Try.results33 Try.ntmps33 (Nat.le_of_ble_eq_true rfl) ?_;refine aC (aA ?_);refine bC rfl (eL (v := .agg (aS f)) (aD rfl) rfl rfl rfl) ?_;rintro _ ⟨b1, rfl⟩;refine ta (.b false) (aB (aC (aC (aA (tfl 0 rfl rfl iX rfl cJ (to (sle rfl bH.of) (to (sf rfl kK) (tfl 0 rfl rfl iP rfl aP (to (sar rfl rfl rfl) (to (scm rfl rfl rfl) (tm (.b (!decide ((f.Prizes.length : Int) = (w64 (f.Tree.Rounds + 1))))) ?_)))))))))));obtain ⟨b2, h3, h⟩ := bns h;refine aZ 5 [1] 16 b2 ?_ ?_
 ·refine bch h3 (fun c h3 => ?_) (fun c h3 => ?_)
  ·refine tp c (tp c (tp c (tp c (to (spt (.b true) c) ?_))));obtain rfl := sIn h3;refine aB (aL rfl ⟨rfl, trivial⟩ rfl)
  ·refine tkl 0 c rfl rfl iX rfl cJ ?_;obtain ⟨g, i, h3⟩ := bns h3;refine tk c (scr Try.call51 (aCh _ i)) (tk c (sn rfl) (to (spf (.b (!g)) c) ?_));obtain rfl := sIn h3;refine aB (aL rfl ⟨rfl, trivial⟩ rfl)
 ·refine tm (.b b2) ?_;obtain ⟨b4, h5, h⟩ := bns h;refine aZ 5 [1] 22 b4 ?_ ?_
  ·refine bch h5 (fun d h5 => ?_) (fun d h5 => ?_)
   ·refine tp d (tp d (tp d (tp d (to (spt (.b true) d) ?_))));obtain rfl := sIn h5;refine aB (aL rfl ⟨rfl, trivial⟩ rfl)
   ·refine tkl 0 d rfl rfl aIi rfl aP ?_;obtain ⟨j, k, h5⟩ := bns h5;refine tk d (scr Try.call52 (gN _ _ _ k)) (tk d (sn rfl) (to (spf (.b (!j)) d) ?_));obtain rfl := sIn h5;refine aB (aL rfl ⟨rfl, trivial⟩ rfl)
  ·refine aB ?_;refine tih h (fun c6 h => ?_) (fun c6 h => ?_)
   ·refine aC (aA (ta (.b false) (aB ?_)));obtain rfl := sIn h;refine bM (bG (bI (l := [2]) ⟨rfl, trivial⟩)) ?_;exact aX ⟨rfl, _, .one _, rfl, rfl⟩
   ·refine aV (aC (aA (tfl 0 rfl rfl iX rfl cJ ?_)));obtain ⟨x7, h8, h⟩ := bns h;refine to (six rfl rfl bH.of (aW aK h8)) (to (slc rfl aP) (to (scm rfl rfl rfl) (tm (.b (decide (0 ≤ x7))) ?_)));obtain ⟨b9, e, h⟩ := bns h;refine aZ 10 [] 38 b9 ?_ ?_
    ·refine bch e (fun a e => ?_) (fun a e => ?_)
     ·refine tkl 0 a rfl rfl iX rfl cJ (tkl 0 a rfl rfl iX rfl cJ (tk a (sle rfl bH.of) (tk a (sar rfl rfl rfl) ?_)));obtain ⟨m, n, e⟩ := bns e;refine tk a (six rfl rfl bH.of (aW aK n)) (tk a (slc rfl aP) (tk a (scm rfl rfl rfl) (to (spt (.b (decide (m ≤ 10000000))) a) ?_)));obtain rfl := sIn e;refine aB (aL rfl trivial rfl)
     ·refine tp a (tp a (tp a (tp a (tp a (tp a (tp a (tp a (tp a (to (spf (.b false) a) ?_)))))))));obtain rfl := sIn e;refine aB (aL rfl trivial rfl)
    ·refine ta (.b b9) (aB ?_);obtain rfl := sIn h;refine bM (bG (bI (l := [2]) ⟨rfl, trivial⟩)) ?_;exact aX ⟨rfl, _, .one _, rfl, rfl⟩

theorem yO (x : List Int) {r : List Int} {x_v : Value} {e : TypeId} (h : slices_Sort_int x = some r) : fM Try.prog 36 [.d (.lit x_v)] [.arr x_v e 1 (x.map aK)] (fun r' o' => r' = .tup [] ∧ o' = [.arr x_v e 1 (r.map aK)]) := by
 unfold slices_Sort_int at h;split at h
 ·cases h;exact aRv (fun blk off cap zs w => Try.slices_Sort_int blk off cap zs w) (fun q cap w => Try.slices_Sort_int_none q cap w) (by assumption)
 ·cases h

theorem wQ (c : aQ) {r : (List Int)} (h : nT c = some r) : Fn Try.prog 22 [.agg (aS c)] (.d (.sl 1 (r.map aK))) := by
 unfold nT at h;refine Fn.of_tr Try.func22 rfl (rs := [.tmp 2]) Try.results22 Try.ntmps22 (Nat.le_of_ble_eq_true rfl) ?_;refine aC (aA ?_);refine bC rfl (eL (v := .agg (aS c)) (aD rfl) rfl rfl rfl) ?_;rintro _ ⟨b1, rfl⟩;refine to (aBe 1 (aD rfl)) ?_;refine aB (aC (aA (to (hZ 3 1 (.inl rfl) (aD rfl)) ?_)));refine aB (aC (aC (aA (tfl 0 rfl rfl jH rfl nI (to (sle rfl mW.of) (tm (.i 0) (aB (bA ?_))))))));refine bR (S := Int × (List Int) × Value) [7, 8] (fun s3 => [(3, .d (.lit s3.2.2)), (9, .i s3.1)]) (fun s3 => [.arr s3.2.2 3 1 (s3.2.1.map aK)]) (fun k s3 => jI c.Teams (c.Teams.length : Int) k s3.1 s3.2.1) (fun _ => rfl) (0, ([] : List Int), (.slice none 0 0)) h (aN [1] rfl rfl (aI rfl (aI rfl (aM ⟨rfl, rfl, trivial⟩)))) ?_;rintro k5 ⟨a, b, w4⟩ h;simp only [jI] at h;refine aC (aA (to (scm rfl rfl rfl) (aB (aC ?_))));refine tih h (fun c6 h => ?_) (fun c6 h => ?_)
 ·refine aV (aC (bA (aC (aA ?_))));obtain ⟨x7, h8, h⟩ := bns h;refine to (six rfl rfl mW.of (aW bP h8)) (to (pH (bP x7) rfl wA) ?_);refine bC rfl (cP (zs := [.lit (.int .i64 0), .lit (.int .i64 0), .lit (.int .i64 0)]) (aD rfl) Try.zeroValue63 rfl rfl) ?_;rintro _ ⟨b9, rfl⟩;refine to (sst 1 rfl rfl Try.sizeOf63 (bP x7)) (aB (aC (aA (tm (.d (.lit w4)) (tfl 1 rfl rfl oZ rfl aP (to (fK (aD rfl) bH rfl rfl (rows := ([x7.One]).map aK) rfl (cX (f := aK) fun _ => rfl) rfl (by decide)) ?_))))));obtain ⟨j, l, h⟩ := bns h;refine bC rfl (gG (i := 0) (aD rfl) bH rfl rfl rfl (fun _ => rfl) l rfl) ?_;rintro _ ⟨e, rfl⟩;refine ta (.d (.lit e)) (aB (aC (aA (tfl 1 rfl rfl kM rfl aP (to (scm rfl rfl rfl) (aB ?_))))));refine tih h (fun m h => ?_) (fun m h => ?_)
  ·refine aA (tm (.d (.lit e)) (tfl 1 rfl rfl kM rfl aP (to (fK (aD rfl) bH rfl rfl (rows := ([x7.Two]).map aK) rfl (cX (f := aK) fun _ => rfl) rfl (by decide)) ?_)));obtain ⟨n, o, h⟩ := bns h;refine bC rfl (gG (i := 0) (aD rfl) bH rfl rfl rfl (fun _ => rfl) o rfl) ?_;rintro _ ⟨g, rfl⟩;refine ta (.d (.lit g)) ?_;refine cQ ?_;refine aA (to (sar rfl rfl rfl) (tm (.i (w64 (a + 1))) (aB ?_)));exact ⟨(w64 (a + 1), n, g), h, aN [0] rfl rfl (aI rfl (aI rfl (aM ⟨rfl, rfl, trivial⟩)))⟩
  ·refine cM ?_;refine aA (to (sar rfl rfl rfl) (tm (.i (w64 (a + 1))) (aB ?_)));exact ⟨(w64 (a + 1), j, e), h, aN [0] rfl rfl (aI rfl (aI rfl (aM ⟨rfl, rfl, trivial⟩)))⟩
 ·refine bT ?_;refine .inl ⟨rfl, ?_⟩;simp only [rV] at h;refine aC (aA (tm (.d (.lit w4)) ?_));obtain ⟨p, q, h⟩ := bns h;refine bC rfl (eS (passed := [.arr w4 3 1 (b.map aK)]) (aD rfl) rfl (.func _ _ Try.call36) rfl rfl (yO b q)) ?_;rintro _ ⟨_, _, ⟨rfl, rfl⟩, rfl⟩;refine aB (aC (aA (tm (.d (.lit w4)) (ta (.d (.lit w4)) (aB ?_)))));obtain rfl := sIn h;refine bM (bG (vT (k := 2) (v := .d (.sl 1 (p.map aK))) (.d (nE 0 rfl (cX (f := aK) fun _ => rfl))) (aBr))) ?_;exact aX ⟨rfl, _, .one _, rfl, rfl⟩

end Go.Am
