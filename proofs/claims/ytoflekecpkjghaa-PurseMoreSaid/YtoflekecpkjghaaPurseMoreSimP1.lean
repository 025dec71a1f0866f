/- The functions compute what the shallow ones say: printed by program. -/
import Derived.Test.YtoflekecpkjghaaPuSh
import Derived.Test.YtoflekecpkjghaaAmFam2
import Derived.Test.YtoflekecpkjghaaAmRange
import Derived.Test.YtoflekecpkjghaaAmSort
import Derived.Test.YtoflekecpkjghaaPuShelf
import Derived.Test.YtoflekecpkjghaaAmSub
import Derived.Test.YtoflekecpkjghaaPuDet
import Derived.Test.YtoflekecpkjghaaChecked
import Derived.Test.YtoflekecpkjghaaAmShort
import Derived.KernelRfl
namespace Go.Am
open Go.Proofs
set_option maxRecDepth 100000
set_option maxHeartbeats 40000000

theorem mix : Try.prog.follows .mixedOrders = true := Checked.mixed Try.checked

theorem eG : nB Try.prog 31 9 := ⟨Try.isAgg31, Try.sizeOf31⟩
theorem wG : nB Try.prog 39 9 := ⟨Try.isAgg39, Try.sizeOf39⟩
theorem aNk : SliceTy Try.prog 34 39 9 72 (.agg #[.int .i64 0, .int .i64 0, .int .i64 0, .int .i64 0, .int .i64 0, .int .i64 0, .int .i64 0, .int .i64 0, .int .i64 0]) := ⟨Try.underlying34, ⟨Try.t39, by kernel_rfl, rfl, rfl, rfl⟩, rfl, by decide⟩
theorem aHf : mO Try.prog 39 (.agg #[.int .i64 0, .int .i64 0, .int .i64 0, .int .i64 0, .int .i64 0, .int .i64 0, .int .i64 0, .int .i64 0, .int .i64 0]) [(0, 1), (1, 1), (2, 1), (3, 1), (4, 1), (5, 1), (6, 1), (7, 1), (8, 1)] := ⟨Try.zeroValue39, _, Try.runUnderlying39, fun w => by simp [Try.sizeOf3]⟩
theorem aAk : cO Try.prog 39 5 5 := cE Try.runUnderlying39 rfl rfl Try.sizeOf3
theorem aT : lM Try.prog 3 := ⟨Try.isAgg3, Try.sizeOf3⟩
theorem aAl : cO Try.prog 39 7 7 := cE Try.runUnderlying39 rfl rfl Try.sizeOf3
theorem aDl : cO Try.prog 39 8 8 := cE Try.runUnderlying39 rfl rfl Try.sizeOf3
theorem aAi : cO Try.prog 39 1 1 := cE Try.runUnderlying39 rfl rfl Try.sizeOf3
theorem aAj : cO Try.prog 39 2 2 := cE Try.runUnderlying39 rfl rfl Try.sizeOf3
theorem xH : cO Try.prog 39 3 3 := cE Try.runUnderlying39 rfl rfl Try.sizeOf3
theorem xI : cO Try.prog 39 4 4 := cE Try.runUnderlying39 rfl rfl Try.sizeOf3
theorem vM : cO Try.prog 39 6 6 := cE Try.runUnderlying39 rfl rfl Try.sizeOf3
theorem aYs : aIn Try.prog 39 bI := by
  rintro ⟨a0, a1, a2, a3, a4, a5, a6, a7, a8⟩ ⟨b0, b1, b2, b3, b4, b5, b6, b7, b8⟩ w
  simp [bI, bQ, go_sem, Op.eqFields, Program.fieldsOf] <;> (repeat' split) <;> simp_all
theorem jL : cO Try.prog 31 0 0 := cE Try.runUnderlying31 rfl rfl Try.sizeOf24
theorem dX : cO Try.prog 24 1 1 := cE Try.runUnderlying24 rfl rfl Try.sizeOf22
theorem cN : lM Try.prog 22 := ⟨Try.isAgg22, Try.sizeOf22⟩
theorem bG : SliceTy Try.prog 22 3 1 8 (.int .i64 0) := ⟨Try.underlying22, ⟨Try.t3, by kernel_rfl, rfl, rfl, rfl⟩, rfl, by decide⟩
theorem jM : cO Try.prog 31 1 2 := cE Try.runUnderlying31 rfl rfl Try.sizeOf25
theorem qA : lM Try.prog 25 := ⟨Try.isAgg25, Try.sizeOf25⟩
theorem fN : SliceTy Try.prog 25 46 5 40 (.agg #[.int .i64 0, .int .i64 0, .int .i64 0, .int .i64 0, .int .i64 0]) := ⟨Try.underlying25, ⟨Try.t46, by kernel_rfl, rfl, rfl, rfl⟩, rfl, by decide⟩
theorem iG : cO Try.prog 31 2 3 := cE Try.runUnderlying31 rfl rfl Try.sizeOf22
theorem iT : cO Try.prog 31 4 5 := cE Try.runUnderlying31 rfl rfl Try.sizeOf26
theorem mK : lM Try.prog 26 := ⟨Try.isAgg26, Try.sizeOf26⟩
theorem lQ : SliceTy Try.prog 26 63 3 24 (.agg #[.int .i64 0, .int .i64 0, .int .i64 0]) := ⟨Try.underlying26, ⟨Try.t63, by kernel_rfl, rfl, rfl, rfl⟩, rfl, by decide⟩
theorem pE : cO Try.prog 31 5 6 := cE Try.runUnderlying31 rfl rfl Try.sizeOf27
theorem uX : lM Try.prog 27 := ⟨Try.isAgg27, Try.sizeOf27⟩
theorem tC : SliceTy Try.prog 27 77 2 16 (.agg #[.int .i64 0, .int .i64 0]) := ⟨Try.underlying27, ⟨Try.t77, by kernel_rfl, rfl, rfl, rfl⟩, rfl, by decide⟩
theorem tP : cO Try.prog 31 6 7 := cE Try.runUnderlying31 rfl rfl Try.sizeOf28
theorem aAs : lM Try.prog 28 := ⟨Try.isAgg28, Try.sizeOf28⟩
theorem wZ : SliceTy Try.prog 28 55 3 24 (.agg #[.int .i64 0, .int .i64 0, .int .i64 0]) := ⟨Try.underlying28, ⟨Try.t55, by kernel_rfl, rfl, rfl, rfl⟩, rfl, by decide⟩
theorem mT : cO Try.prog 31 7 8 := cE Try.runUnderlying31 rfl rfl Try.sizeOf29
theorem sM : lM Try.prog 29 := ⟨Try.isAgg29, Try.sizeOf29⟩
theorem cZ : SliceTy Try.prog 29 79 4 32 (.agg #[.int .i64 0, .int .i64 0, .int .i64 0, .int .i64 0]) := ⟨Try.underlying29, ⟨Try.t79, by kernel_rfl, rfl, rfl, rfl⟩, rfl, by decide⟩
theorem mG : nB Try.prog 24 2 := ⟨Try.isAgg24, Try.sizeOf24⟩
theorem iS : cO Try.prog 24 0 0 := cE Try.runUnderlying24 rfl rfl Try.sizeOf3
theorem aIx : cO Try.prog 31 3 4 := cE Try.runUnderlying31 rfl rfl Try.sizeOf3
theorem lB : nB Try.prog 46 5 := ⟨Try.isAgg46, Try.sizeOf46⟩
theorem nY : cO Try.prog 46 3 3 := cE Try.runUnderlying46 rfl rfl Try.sizeOf3
theorem mU : cO Try.prog 46 0 0 := cE Try.runUnderlying46 rfl rfl Try.sizeOf3
theorem pF : cO Try.prog 46 1 1 := cE Try.runUnderlying46 rfl rfl Try.sizeOf3
theorem kT : cO Try.prog 46 2 2 := cE Try.runUnderlying46 rfl rfl Try.sizeOf3
theorem xJ : cO Try.prog 46 4 4 := cE Try.runUnderlying46 rfl rfl Try.sizeOf3
theorem aHh : mO Try.prog 87 (.agg #[.slice none 0 0, .slice none 0 0]) [(0, 1), (1, 1)] := ⟨Try.zeroValue87, _, Try.runUnderlying87, fun w => by simp [Try.sizeOf22, Try.sizeOf85]⟩
theorem xN : cO Try.prog 87 1 1 := cE Try.runUnderlying87 rfl rfl Try.sizeOf85
theorem aGo : lM Try.prog 85 := ⟨Try.isAgg85, Try.sizeOf85⟩
theorem aHp : SliceTy Try.prog 85 22 1 24 (.slice none 0 0) := ⟨Try.underlying85, ⟨Try.t22, by kernel_rfl, rfl, rfl, rfl⟩, rfl, by decide⟩
theorem aCi : nB Try.prog 87 2 := ⟨Try.isAgg87, Try.sizeOf87⟩
theorem aOd : aIn Try.prog 46 aJ := by
  rintro ⟨a0, a1, a2, a3, a4⟩ ⟨b0, b1, b2, b3, b4⟩ w
  simp [aJ, bQ, go_sem, Op.eqFields, Program.fieldsOf] <;> (repeat' split) <;> simp_all
theorem wH : nB Try.prog 63 3 := ⟨Try.isAgg63, Try.sizeOf63⟩
theorem vN : cO Try.prog 63 0 0 := cE Try.runUnderlying63 rfl rfl Try.sizeOf3
theorem pG : cO Try.prog 63 1 1 := cE Try.runUnderlying63 rfl rfl Try.sizeOf3
theorem kU : cO Try.prog 63 2 2 := cE Try.runUnderlying63 rfl rfl Try.sizeOf3
theorem xL : cO Try.prog 77 0 0 := cE Try.runUnderlying77 rfl rfl Try.sizeOf3
theorem aJa : cO Try.prog 77 1 1 := cE Try.runUnderlying77 rfl rfl Try.sizeOf3
theorem aJo : nB Try.prog 55 3 := ⟨Try.isAgg55, Try.sizeOf55⟩
theorem xK : cO Try.prog 55 0 0 := cE Try.runUnderlying55 rfl rfl Try.sizeOf3
theorem aDn : cO Try.prog 55 1 1 := cE Try.runUnderlying55 rfl rfl Try.sizeOf3
theorem aIz : cO Try.prog 55 2 2 := cE Try.runUnderlying55 rfl rfl Try.sizeOf3
theorem aHg : mO Try.prog 63 (.agg #[.int .i64 0, .int .i64 0, .int .i64 0]) [(0, 1), (1, 1), (2, 1)] := ⟨Try.zeroValue63, _, Try.runUnderlying63, fun w => by simp [Try.sizeOf3]⟩
theorem gK : nB Try.prog 79 4 := ⟨Try.isAgg79, Try.sizeOf79⟩
theorem mV : cO Try.prog 79 0 0 := cE Try.runUnderlying79 rfl rfl Try.sizeOf3
theorem aDp : cO Try.prog 79 2 2 := cE Try.runUnderlying79 rfl rfl Try.sizeOf3
theorem tQ : cO Try.prog 79 1 1 := cE Try.runUnderlying79 rfl rfl Try.sizeOf3
theorem xM : cO Try.prog 79 3 3 := cE Try.runUnderlying79 rfl rfl Try.sizeOf3
theorem aJy : aIn Try.prog 79 aE := by
  rintro ⟨a0, a1, a2, a3⟩ ⟨b0, b1, b2, b3⟩ w
  simp [aE, bQ, go_sem, Op.eqFields, Program.fieldsOf] <;> (repeat' split) <;> simp_all
theorem aZj : mO Try.prog 24 (.agg #[.int .i64 0, .slice none 0 0]) [(0, 1), (1, 1)] := ⟨Try.zeroValue24, _, Try.runUnderlying24, fun w => by simp [Try.sizeOf22, Try.sizeOf3]⟩
theorem aVa : mO Try.prog 46 (.agg #[.int .i64 0, .int .i64 0, .int .i64 0, .int .i64 0, .int .i64 0]) [(0, 1), (1, 1), (2, 1), (3, 1), (4, 1)] := ⟨Try.zeroValue46, _, Try.runUnderlying46, fun w => by simp [Try.sizeOf3]⟩
theorem aZm : mO Try.prog 77 (.agg #[.int .i64 0, .int .i64 0]) [(0, 1), (1, 1)] := ⟨Try.zeroValue77, _, Try.runUnderlying77, fun w => by simp [Try.sizeOf3]⟩
theorem aVb : mO Try.prog 55 (.agg #[.int .i64 0, .int .i64 0, .int .i64 0]) [(0, 1), (1, 1), (2, 1)] := ⟨Try.zeroValue55, _, Try.runUnderlying55, fun w => by simp [Try.sizeOf3]⟩
theorem aPk : mO Try.prog 79 (.agg #[.int .i64 0, .int .i64 0, .int .i64 0, .int .i64 0]) [(0, 1), (1, 1), (2, 1), (3, 1)] := ⟨Try.zeroValue79, _, Try.runUnderlying79, fun w => by simp [Try.sizeOf3]⟩
theorem aZk : mO Try.prog 31 (.agg #[.int .i64 0, .slice none 0 0, .slice none 0 0, .slice none 0 0, .int .i64 0, .slice none 0 0, .slice none 0 0, .slice none 0 0, .slice none 0 0]) [(0, 2), (2, 1), (3, 1), (4, 1), (5, 1), (6, 1), (7, 1), (8, 1)] := ⟨Try.zeroValue31, _, Try.runUnderlying31, fun w => by simp [Try.sizeOf22, Try.sizeOf24, Try.sizeOf25, Try.sizeOf26, Try.sizeOf27, Try.sizeOf28, Try.sizeOf29, Try.sizeOf3]⟩
theorem aSc : uI Try.prog 3 (fun n : Int => Value.int .i64 n) := aTu Try.underlying3
theorem aLv : mO Try.prog 120 (.agg #[.int .i64 0, .int .i64 0]) [(0, 1), (1, 1)] := ⟨Try.zeroValue120, _, Try.runUnderlying120, fun w => by simp [Try.sizeOf3]⟩
theorem vW : nB Try.prog 120 2 := ⟨Try.isAgg120, Try.sizeOf120⟩
theorem tO : cO Try.prog 120 0 0 := cE Try.runUnderlying120 rfl rfl Try.sizeOf3
theorem aTq : cO Try.prog 120 1 1 := cE Try.runUnderlying120 rfl rfl Try.sizeOf3
theorem aZl : mO Try.prog 75 (.agg #[.int .i64 0, .slice none 0 0, .slice none 0 0, .map none]) [(0, 2), (2, 1), (3, 1)] := ⟨Try.zeroValue75, _, Try.runUnderlying75, fun w => by simp [Try.sizeOf22, Try.sizeOf24, Try.sizeOf73]⟩
theorem aYm (b : Bool) (a : aF) (w : World) : (Instr.checkKey b 10000 46 (.agg ((aJ a).map bQ).toArray)).run Try.prog w = .ok () w := by
  obtain ⟨a1, a2, a3, a4, a5⟩ := a;rw [show (10000 : Nat) = 9990 + 10 from rfl]
  generalize (9990 : Nat) = m
  simp [Instr.checkKey, aJ, bQ, go_sem, Std.Legacy.Range.forIn_eq_forIn_range', Std.Legacy.Range.size]
theorem aOk : uI Try.prog 46 (fun a : aF => Value.agg ((aJ a).map bQ).toArray) :=
  aGa Try.underlying46 aOd aYm (fun a w => aOi _ rfl _ _) (by
    rintro ⟨a1, a2, a3, a4, a5⟩ ⟨b1, b2, b3, b4, b5⟩ h
    simp [aJ] at h ⊢
    simp_all) (fun _ => rfl)
theorem aLn : aIn Try.prog 120 aQ := by
  rintro ⟨a0, a1⟩ ⟨b0, b1⟩ w
  simp [aQ, bQ, go_sem, Op.eqFields, Program.fieldsOf] <;> (repeat' split) <;> simp_all
theorem aXk (b : Bool) (a : aG) (w : World) : (Instr.checkKey b 10000 120 (.agg ((aQ a).map bQ).toArray)).run Try.prog w = .ok () w := by
  obtain ⟨a1, a2⟩ := a;rw [show (10000 : Nat) = 9990 + 10 from rfl]
  generalize (9990 : Nat) = m
  simp [Instr.checkKey, aQ, bQ, go_sem, Std.Legacy.Range.forIn_eq_forIn_range', Std.Legacy.Range.size]
theorem zV : uI Try.prog 120 (fun a : aG => Value.agg ((aQ a).map bQ).toArray) :=
  aGa Try.underlying120 aLn aXk (fun a w => aOi _ rfl _ _) (by
    rintro ⟨a1, a2⟩ ⟨b1, b2⟩ h
    simp [aQ] at h ⊢
    simp_all) (fun _ => rfl)
theorem qS : cO Try.prog 75 1 2 := cE Try.runUnderlying75 rfl rfl Try.sizeOf22
theorem aAm : cO Try.prog 75 0 0 := cE Try.runUnderlying75 rfl rfl Try.sizeOf24
theorem aDo : cO Try.prog 75 2 3 := cE Try.runUnderlying75 rfl rfl Try.sizeOf73
theorem aKo : lM Try.prog 73 := ⟨Try.isAgg73, Try.sizeOf73⟩
theorem aNr : nB Try.prog 77 2 := ⟨Try.isAgg77, Try.sizeOf77⟩
theorem yR : mO Try.prog 49 (.agg #[.int .i64 0, .int .i64 0]) [(0, 1), (1, 1)] := ⟨Try.zeroValue49, _, Try.runUnderlying49, fun w => by simp [Try.sizeOf3]⟩
theorem uU : nB Try.prog 49 2 := ⟨Try.isAgg49, Try.sizeOf49⟩
theorem aDm : cO Try.prog 49 0 0 := cE Try.runUnderlying49 rfl rfl Try.sizeOf3
theorem aIy : cO Try.prog 49 1 1 := cE Try.runUnderlying49 rfl rfl Try.sizeOf3

theorem aIv (a : aN) {r : Bool} (h : mQ a = some r) : Fn Try.prog 19 [.agg (aO a)] (.b r) := by
 unfold mQ at h;refine Fn.of_tr Try.func19 rfl (rs := [.tmp 2]) Try.results19 Try.ntmps19 (Nat.le_of_ble_eq_true rfl) ?_;refine aC (aA ?_);refine bB rfl (eP (v := .agg (aO a)) (aD rfl) rfl rfl rfl) ?_;rintro _ ⟨b1, rfl⟩;refine ta (.b false) (aB (aC (aA (to (sf rfl jL) (tfl 0 rfl rfl dX rfl cN (to (sle rfl bG.of) (to (scm rfl rfl rfl) (tm (.b (decide (8 < (a.Tree.Slots.length : Int)))) ?_))))))));obtain ⟨b2, h3, h⟩ := bns h;refine aY 5 [1] 13 b2 ?_ ?_
 ·refine bch h3 (fun c h3 => ?_) (fun c h3 => ?_)
  ·refine tp c (tp c (tp c (tp c (to (spt (.b true) c) ?_))));obtain rfl := sIn h3;refine aB (aL rfl ⟨rfl, trivial⟩ rfl)
  ·refine tkl 0 c rfl rfl jM rfl qA (tk c (sle rfl fN.of) (tk c (scm rfl rfl rfl) (to (spf (.b (decide (20 < (a.Slips.length : Int)))) c) ?_)));obtain rfl := sIn h3;refine aB (aL rfl ⟨rfl, trivial⟩ rfl)
 ·refine tm (.b b2) ?_;obtain ⟨b4, h5, h⟩ := bns h;refine aY 5 [1] 19 b4 ?_ ?_
  ·refine bch h5 (fun d h5 => ?_) (fun d h5 => ?_)
   ·refine tp d (tp d (tp d (tp d (to (spt (.b true) d) ?_))));obtain rfl := sIn h5;refine aB (aL rfl ⟨rfl, trivial⟩ rfl)
   ·refine tkl 0 d rfl rfl iG rfl cN (tk d (sle rfl bG.of) (tk d (scm rfl rfl rfl) (to (spf (.b (decide (20 < (a.Prizes.length : Int)))) d) ?_)));obtain rfl := sIn h5;refine aB (aL rfl ⟨rfl, trivial⟩ rfl)
  ·refine tm (.b b4) ?_;obtain ⟨b6, h7, h⟩ := bns h;refine aY 5 [1] 25 b6 ?_ ?_
   ·refine bch h7 (fun e h7 => ?_) (fun e h7 => ?_)
    ·refine tp e (tp e (tp e (tp e (to (spt (.b true) e) ?_))));obtain rfl := sIn h7;refine aB (aL rfl ⟨rfl, trivial⟩ rfl)
    ·refine tkl 0 e rfl rfl iT rfl mK (tk e (sle rfl lQ.of) (tk e (scm rfl rfl rfl) (to (spf (.b (decide (40 < (a.Teams.length : Int)))) e) ?_)));obtain rfl := sIn h7;refine aB (aL rfl ⟨rfl, trivial⟩ rfl)
   ·refine tm (.b b6) ?_;obtain ⟨b8, h9, h⟩ := bns h;refine aY 5 [1] 31 b8 ?_ ?_
    ·refine bch h9 (fun f h9 => ?_) (fun f h9 => ?_)
     ·refine tp f (tp f (tp f (tp f (to (spt (.b true) f) ?_))));obtain rfl := sIn h9;refine aB (aL rfl ⟨rfl, trivial⟩ rfl)
     ·refine tkl 0 f rfl rfl pE rfl uX (tk f (sle rfl tC.of) (tk f (scm rfl rfl rfl) (to (spf (.b (decide (40 < (a.Levies.length : Int)))) f) ?_)));obtain rfl := sIn h9;refine aB (aL rfl ⟨rfl, trivial⟩ rfl)
    ·refine tm (.b b8) ?_;obtain ⟨m, j, h⟩ := bns h;refine aY 5 [1] 37 m ?_ ?_
     ·refine bch j (fun g j => ?_) (fun g j => ?_)
      ·refine tp g (tp g (tp g (tp g (to (spt (.b true) g) ?_))));obtain rfl := sIn j;refine aB (aL rfl ⟨rfl, trivial⟩ rfl)
      ·refine tkl 0 g rfl rfl tP rfl aAs (tk g (sle rfl wZ.of) (tk g (scm rfl rfl rfl) (to (spf (.b (decide (40 < (a.Rates.length : Int)))) g) ?_)));obtain rfl := sIn j;refine aB (aL rfl ⟨rfl, trivial⟩ rfl)
     ·refine tm (.b m) ?_;obtain ⟨n, k, h⟩ := bns h;refine aY 5 [] 43 n ?_ ?_
      ·refine bch k (fun i k => ?_) (fun i k => ?_)
       ·refine tp i (tp i (tp i (tp i (to (spt (.b true) i) ?_))));obtain rfl := sIn k;refine aB (aL rfl trivial rfl)
       ·refine tkl 0 i rfl rfl mT rfl sM (tk i (sle rfl cZ.of) (tk i (scm rfl rfl rfl) (to (spf (.b (decide (60 < (a.Items.length : Int)))) i) ?_)));obtain rfl := sIn k;refine aB (aL rfl trivial rfl)
      ·refine ta (.b n) (aB ?_);obtain rfl := sIn h;refine bO (bH (bJ (l := [2]) ⟨rfl, trivial⟩)) ?_;exact aX ⟨rfl, _, .one _, rfl, rfl⟩

theorem hZ (d : Int) (c : Int) (a : Int) {r : Bool} (h : eQ d c a = some r) : Fn Try.prog 65 [.i d, .i c, .i a] (.b r) := by
 unfold eQ at h;refine Fn.of_tr Try.func65 rfl (rs := [.tmp 6]) Try.results65 Try.ntmps65 (Nat.le_of_ble_eq_true rfl) ?_;refine aC (aA (ta (.b false) (aB (aC (aA (tm (.i d) (tm (.i c) (to (scm rfl rfl rfl) (tm (.b (decide (c ≤ d))) ?_)))))))));obtain ⟨b1, h2, h⟩ := bns h;refine aY 4 [] 14 b1 ?_ ?_
 ·refine bch h2 (fun c3 h2 => ?_) (fun c3 h2 => ?_)
  ·refine tk c3 (sm (.i d)) (tk c3 (sm (.i a)) (tk c3 (scm rfl rfl rfl) (to (spt (.b (decide (d ≤ a))) c3) ?_)));obtain rfl := sIn h2;refine aB (aL rfl trivial rfl)
  ·refine tp c3 (tp c3 (tp c3 (to (spf (.b false) c3) ?_)));obtain rfl := sIn h2;refine aB (aL rfl trivial rfl)
 ·refine ta (.b b1) (aB ?_);obtain rfl := sIn h;exact aX ⟨rfl, _, .one _, rfl, rfl⟩

theorem aFb (j : aR) {r : Bool} (h : lU j = some r) : Fn Try.prog 38 [.agg (bD j)] (.b r) := by
 unfold lU at h;refine Fn.of_tr Try.func38 rfl (rs := [.tmp 2]) Try.results38 Try.ntmps38 (Nat.le_of_ble_eq_true rfl) ?_;refine aC (aA ?_);refine bB rfl (eP (v := .agg (bD j)) (aD rfl) rfl rfl rfl) ?_;rintro _ ⟨b1, rfl⟩;refine ta (.b false) (aB (aC (aC (aA (tfl 0 rfl rfl iS rfl aT ?_)))));obtain ⟨r2, h3, h⟩ := bns h;refine to (scr Try.call65 (hZ _ _ _ h3)) (to (sn rfl) (tm (.b (!r2)) ?_));obtain ⟨b4, h5, h⟩ := bns h;refine aY 9 [1] 18 b4 ?_ ?_
 ·refine bch h5 (fun e h5 => ?_) (fun e h5 => ?_)
  ·refine tp e (tp e (tp e (tp e (tp e (tp e (tp e (tp e (to (spt (.b true) e) ?_))))))));obtain rfl := sIn h5;refine aB (aL rfl ⟨rfl, trivial⟩ rfl)
  ·refine tkl 0 e rfl rfl dX rfl cN (tk e (sle rfl bG.of) (tkl 0 e rfl rfl iS rfl aT (tk e (qB (aD rfl) rfl Try.runUnderlying3 Try.runUnderlying106) ?_)));obtain ⟨T, C, h5⟩ := bns h5;refine tk e (aNj (aD rfl) rfl rfl (aBh C)) ?_;refine tk e (scm rfl rfl rfl) (to (spf (.b (!decide ((j.Slots.length : Int) = (w64 (1 * 2 ^ (min (uw j.Rounds).toNat 64)))))) e) ?_);obtain rfl := sIn h5;refine aB (aL rfl ⟨rfl, trivial⟩ rfl)
 ·refine aB ?_;refine tih h (fun c6 h => ?_) (fun c6 h => ?_)
  ·refine aC (aA (ta (.b false) (aB ?_)));obtain rfl := sIn h;refine bO (bH (bJ (l := [2]) ⟨rfl, trivial⟩)) ?_;exact aX ⟨rfl, _, .one _, rfl, rfl⟩
  ·refine aV (aC (aC (aA (ta (.i 0) (aB (bA ?_))))));refine bR (S := Int) [1] (fun s7 => [(3, .i s7)]) (fun s7 => [.box b1 0 (bD j)]) (fun k s7 => gR j k s7) (fun _ => rfl) (0) h (aP [0] rfl rfl (aI rfl (aM ⟨rfl, trivial⟩))) ?_;rintro k8 a h;simp only [gR] at h;refine aC (aC (aA (tm (.i a) (tfl 0 rfl rfl dX rfl cN (to (sle rfl bG.of) (to (scm rfl rfl rfl) (aB ?_)))))));refine tih h (fun c9 h => ?_) (fun c9 h => ?_)
   ·refine aV (aC (bA (aC (aC (aA (tfl 0 rfl rfl dX rfl cN (tm (.i a) ?_)))))));obtain ⟨U, E, h⟩ := bns h;refine to (six rfl rfl bG.of (aW aK E)) (to (slc rfl aT) ?_);obtain ⟨F, G, h⟩ := bns h;refine to (scr Try.call65 (hZ _ _ _ G)) (to (sn rfl) (tm (.b (!F)) ?_));obtain ⟨H, q, h⟩ := bns h;refine aY 21 [1, 3] 54 H ?_ ?_
    ·refine bch q (fun c q => ?_) (fun c q => ?_)
     ·refine tp c (tp c (tp c (tp c (tq (tq (tq (tq (tq (tq (tp c (tp c (tq (tq ?_)))))))))))));refine tq (tq (tq (tq (tq (tp c (to (spt (.b true) c) ?_))))));obtain rfl := sIn q;refine aB (aL rfl ⟨rfl, rfl, trivial⟩ rfl)
     ·refine tk c (sm (.i a)) (tk c (bAb (aD rfl) rfl rfl (by decide)) ?_);refine tk c (scm rfl rfl rfl) (tk c (sm (.b (decide ((a.tmod 2) = 1)))) ?_);obtain ⟨y, s, q⟩ := bns q;refine aY 7 [1, 3, 33, 34, 35, 36, 37] 44 y ?_ ?_
      ·refine bch s (fun n s => ?_) (fun n s => ?_)
       ·refine tkl 0 n rfl rfl dX rfl cN (tk n (sm (.i a)) ?_);obtain ⟨I, J, s⟩ := bns s;refine tk n (six rfl rfl bG.of (aW aK J)) (tk n (slc rfl aT) (tk n (scm rfl rfl rfl) (tk c (spt (.b (decide (I = (-1)))) n) ?_)));obtain rfl := sIn s;refine aB (aL rfl ⟨rfl, rfl, rfl, rfl, rfl, rfl, rfl, trivial⟩ rfl)
       ·refine tp n (tp n (tp n (tp n (tp n (tp n (tk c (spf (.b false) n) ?_))))));obtain rfl := sIn s;refine aB (aL rfl ⟨rfl, rfl, rfl, rfl, rfl, rfl, rfl, trivial⟩ rfl)
      ·refine tk c (sm (.b y)) ?_;obtain ⟨z, t, q⟩ := bns q;refine aY 8 [1, 3, 33, 34, 35, 36, 37, 44, 45] 53 z ?_ ?_
       ·refine bch t (fun g t => ?_) (fun g t => ?_)
        ·refine tkl 0 g rfl rfl dX rfl cN (tk g (sm (.i a)) (tk g (sar rfl rfl rfl) ?_));obtain ⟨K, L, t⟩ := bns t;refine tk g (six rfl rfl bG.of (aW aK L)) (tk g (slc rfl aT) (tk g (scm rfl rfl rfl) (tk c (spt (.b (decide (K = (-1)))) g) ?_)));obtain rfl := sIn t;refine aB (aL rfl ⟨rfl, rfl, rfl, rfl, rfl, rfl, rfl, rfl, rfl, trivial⟩ rfl)
        ·refine tp g (tp g (tp g (tp g (tp g (tp g (tp g (tk c (spf (.b false) g) ?_)))))));obtain rfl := sIn t;refine aB (aL rfl ⟨rfl, rfl, rfl, rfl, rfl, rfl, rfl, rfl, rfl, trivial⟩ rfl)
       ·refine to (spf (.b z) c) ?_;obtain rfl := sIn q;refine aB (aL rfl ⟨rfl, rfl, trivial⟩ rfl)
    ·refine aB ?_;refine tih h (fun M h => ?_) (fun M h => ?_)
     ·refine aC (aA (ta (.b false) (aB ?_)));obtain rfl := sIn h;refine bO (bH (bJ (l := [2]) ⟨rfl, trivial⟩)) ?_;exact aX ⟨rfl, _, .one _, rfl, rfl⟩
     ·refine aV (aC (aA (ta (.i 0) (aB ?_))));refine uP ?_;refine bR (S := Int) [1, 3] (fun x => [(4, .i x)]) (fun x => [.box b1 0 (bD j)]) (fun k x => gS (gR j k8) a j k x) (fun _ => rfl) (0) h (aP [0] rfl rfl (aI rfl (aM ⟨rfl, rfl, trivial⟩))) ?_;rintro V f h;simp only [gS] at h;refine aC (aC (aA (tm (.i f) (tm (.i a) (to (scm rfl rfl rfl) (aB ?_))))));refine tih h (fun N h => ?_) (fun N h => ?_)
      ·refine aV (aC (bA (aC ?_)));obtain ⟨o, A, h⟩ := bns h;obtain ⟨p, B, h⟩ := bns h;obtain ⟨O, u, h⟩ := bns h;refine cW mix 19 [1, 3, 4] [(78, .b O)] ?_ ?_
       ·refine bch u (fun m u => ?_) (fun m u => ?_)
        ·obtain ⟨w, P, u⟩ := bns u;obtain rfl := sIn u;refine ⟨[(60, 0, .bp b1 0 1), (61, 1, .d (.sl 1 (j.Slots.map aK))), (62, 2, .i f), (63, 3, .cp [.lit (.int .i64 o)]), (64, 4, .i o), (65, 5, .bp b1 0 1), (66, 6, .d (.sl 1 (j.Slots.map aK))), (67, 7, .i a), (68, 8, .cp [.lit (.int .i64 p)]), (69, 9, .i p), (70, 10, .b (decide (o = p))), (71, 11, .b (decide (o = p))), (72, 12, .bp b1 0 1), (73, 13, .d (.sl 1 (j.Slots.map aK))), (74, 14, .i a), (75, 15, .cp [.lit (.int .i64 w)]), (76, 16, .i w), (77, 17, .b (!decide (w = (-1)))), (78, 18, .b (!decide (w = (-1))))], ?_, ?_⟩
         · exact dok [([], []), ([0], []), ([], []), ([1, 2], []), ([3], []), ([], []), ([5], []), ([], []), ([6, 7], []), ([8], []), ([4, 9], []), ([10], []), ([11], []), ([11, 12], []), ([11], []), ([11, 13, 14], []), ([11, 15], []), ([11, 16], []), ([11, 17], [])] ⟨go (zf rfl dX),
      go (zl 0 rfl rfl rfl cN),
      go (zm (.i f)),
      go (zix rfl rfl bG.of (aW aK A)),
      go (zlc rfl aT),
      go (zf rfl dX),
      go (zl 0 rfl rfl rfl cN),
      go (zm (.i a)),
      go (zix rfl rfl bG.of (aW aK B)),
      go (zlc rfl aT),
      go (zcm rfl rfl rfl),
      go (zm (.b (decide (o = p)))),
      gt m (zf rfl dX),
      gt m (zl 0 rfl rfl rfl cN),
      gt m (zm (.i a)),
      gt m (zix rfl rfl bG.of (aW aK P)),
      gt m (zlc rfl aT),
      gt m (zcm rfl rfl rfl),
      go (zpt (.b (!decide (w = (-1)))) m), trivial⟩
         · exact cL (aI rfl (aM ⟨rfl, rfl, rfl, trivial⟩))
        ·obtain rfl := sIn u;refine ⟨[(60, 0, .bp b1 0 1), (61, 1, .d (.sl 1 (j.Slots.map aK))), (62, 2, .i f), (63, 3, .cp [.lit (.int .i64 o)]), (64, 4, .i o), (65, 5, .bp b1 0 1), (66, 6, .d (.sl 1 (j.Slots.map aK))), (67, 7, .i a), (68, 8, .cp [.lit (.int .i64 p)]), (69, 9, .i p), (70, 10, .b (decide (o = p))), (71, 11, .b (decide (o = p))), (72, 12, .tup []), (73, 13, .tup []), (74, 14, .tup []), (75, 15, .tup []), (76, 16, .tup []), (77, 17, .tup []), (78, 18, .b false)], ?_, ?_⟩
         · exact dok [([], []), ([0], []), ([], []), ([1, 2], []), ([3], []), ([], []), ([5], []), ([], []), ([6, 7], []), ([8], []), ([4, 9], []), ([10], []), ([11], []), ([11, 12], []), ([11], []), ([11, 13, 14], []), ([11, 15], []), ([11, 16], []), ([11, 17], [])] ⟨go (zf rfl dX),
      go (zl 0 rfl rfl rfl cN),
      go (zm (.i f)),
      go (zix rfl rfl bG.of (aW aK A)),
      go (zlc rfl aT),
      go (zf rfl dX),
      go (zl 0 rfl rfl rfl cN),
      go (zm (.i a)),
      go (zix rfl rfl bG.of (aW aK B)),
      go (zlc rfl aT),
      go (zcm rfl rfl rfl),
      go (zm (.b (decide (o = p)))),
      gp m,
      gp m,
      gp m,
      gp m,
      gp m,
      gp m,
      go (zpf (.b false) m), trivial⟩
         · exact cL (aI rfl (aM ⟨rfl, rfl, rfl, trivial⟩))
       ·refine aB ?_;refine tih h (fun Q h => ?_) (fun Q h => ?_)
        ·refine aC (aA (ta (.b false) (aB ?_)));obtain rfl := sIn h;refine bO (bH (bJ (l := [2]) ⟨rfl, trivial⟩)) ?_;exact aX ⟨rfl, _, .one _, rfl, rfl⟩
        ·refine cR ?_;refine aA (tm (.i f) (to (sar rfl rfl rfl) (ta (.i (w64 (f + 1))) (aB ?_))));exact ⟨(w64 (f + 1)), h, aP [0] rfl rfl (aI rfl (aM ⟨rfl, rfl, trivial⟩))⟩
      ·refine bT ?_;refine .inl ⟨rfl, ?_⟩;simp only [sA] at h;simp only [rZ] at h;refine aA (tm (.i a) (to (sar rfl rfl rfl) (ta (.i (w64 (a + 1))) (aB ?_))));exact ⟨(w64 (a + 1)), h, aP [0] rfl rfl (aI rfl (aM ⟨rfl, trivial⟩))⟩
   ·refine bT ?_;refine .inl ⟨rfl, ?_⟩;simp only [rY] at h;refine aC (aA (ta (.b true) (aB ?_)));obtain rfl := sIn h;refine bO (bH (bJ (l := [2]) ⟨rfl, trivial⟩)) ?_;exact aX ⟨rfl, _, .one _, rfl, rfl⟩

theorem xE (b : aR) (a : Int) {r : Int} (h : lV b a = some r) : Fn Try.prog 68 [.agg (bD b), .i a] (.i r) := by
 unfold lV at h;refine Fn.of_tr Try.func68 rfl (rs := [.tmp 4]) Try.results68 Try.ntmps68 (Nat.le_of_ble_eq_true rfl) ?_;refine aC (aA ?_);refine bB rfl (eP (v := .agg (bD b)) (aD rfl) rfl rfl rfl) ?_;rintro _ ⟨b1, rfl⟩;refine ta (.i 0) (aB (aC (aA (tfl 0 rfl rfl iS rfl aT (to (sar rfl rfl rfl) (tm (.i a) (to (sar rfl rfl rfl) (to (qB (aD rfl) rfl Try.runUnderlying3 Try.runUnderlying106) ?_))))))));obtain ⟨u2, h3, h⟩ := bns h;refine to (aNj (aD rfl) rfl rfl (aBh h3)) ?_;refine ta (.i (w64 (1 * 2 ^ (min (uw (w64 ((w64 (b.Rounds - 1)) - a))).toNat 64)))) (aB ?_);obtain rfl := sIn h;refine bO (bH (bJ (l := [4]) ⟨rfl, trivial⟩)) ?_;exact aX ⟨rfl, _, .one _, rfl, rfl⟩

theorem aDg (d : aR) (a : Int) (c : Int) {r : Bool} (h : nJ d a c = some r) : Fn Try.prog 66 [.agg (bD d), .i a, .i c] (.b r) := by
 unfold nJ at h;refine Fn.of_tr Try.func66 rfl (rs := [.tmp 6]) Try.results66 Try.ntmps66 (Nat.le_of_ble_eq_true rfl) ?_;refine aC (aA ?_);refine bB rfl (eP (v := .agg (bD d)) (aD rfl) rfl rfl rfl) ?_;rintro _ ⟨b1, rfl⟩;refine ta (.b false) (aB (aC (aA (tm (.i a) (tfl 0 rfl rfl iS rfl aT (to (sar rfl rfl rfl) ?_))))));obtain ⟨r2, h3, h⟩ := bns h;refine to (scr Try.call65 (hZ _ _ _ h3)) (tm (.b r2) ?_);obtain ⟨b4, h5, h⟩ := bns h;refine aY 7 [] 19 b4 ?_ ?_
 ·refine bch h5 (fun c6 h5 => ?_) (fun c6 h5 => ?_)
  ·refine tk c6 (sm (.i c)) (tk c6 (sla 0 (bD d) rfl rfl mG) (tk c6 (sm (.i a)) ?_));obtain ⟨r7, h8, h5⟩ := bns h5;refine tk c6 (scr Try.call68 (xE _ _ h8)) (tk c6 (sar rfl rfl rfl) ?_);obtain ⟨r9, e, h5⟩ := bns h5;refine tk c6 (scr Try.call65 (hZ _ _ _ e)) (to (spt (.b r9) c6) ?_);obtain rfl := sIn h5;refine aB (aL rfl trivial rfl)
  ·refine tp c6 (tp c6 (tp c6 (tp c6 (tp c6 (tp c6 (to (spf (.b false) c6) ?_))))));obtain rfl := sIn h5;refine aB (aL rfl trivial rfl)
 ·refine ta (.b b4) (aB ?_);obtain rfl := sIn h;refine bO (bH (bJ (l := [6]) ⟨rfl, trivial⟩)) ?_;exact aX ⟨rfl, _, .one _, rfl, rfl⟩

theorem aFc (p : aR) (n : aF) {r : Bool} (h : oF p n = some r) : Fn Try.prog 39 [.agg (bD p), .agg (aJ n)] (.b r) := by
 unfold oF at h;refine Fn.of_tr Try.func39 rfl (rs := [.tmp 4]) Try.results39 Try.ntmps39 (Nat.le_of_ble_eq_true rfl) ?_;refine aC (aA ?_);refine bB rfl (eP (v := .agg (bD p)) (aD rfl) rfl rfl rfl) ?_;rintro _ ⟨b1, rfl⟩;refine bB rfl (eP (v := .agg (aJ n)) (aD rfl) rfl rfl rfl) ?_;rintro _ ⟨b2, rfl⟩;refine ta (.b false) (aB (aC (aC (aA (tfl 1 rfl rfl nY rfl aT ?_)))));obtain ⟨r3, h4, h⟩ := bns h;refine to (scr Try.call65 (hZ _ _ _ h4)) (to (sn rfl) (aB ?_));refine tih h (fun c5 h => ?_) (fun c5 h => ?_)
 ·refine aC (aA (ta (.b false) (aB ?_)));obtain rfl := sIn h;refine bO (bH (bJ (l := [4]) ⟨rfl, trivial⟩)) ?_;exact aX ⟨rfl, _, .one _, rfl, rfl⟩
 ·refine aV (aC (aC (aA (tfl 1 rfl rfl mU rfl aT (to (scm rfl rfl rfl) (aB ?_))))));refine tih h (fun c6 h => ?_) (fun c6 h => ?_)
  ·refine aC (aA (tfl 1 rfl rfl pF rfl aT (to (scm rfl rfl rfl) (tm (.b (decide (n.Round = 0))) ?_))));obtain ⟨b7, h8, h⟩ := bns h;refine aY 8 [3] 23 b7 ?_ ?_
   ·refine bch h8 (fun d h8 => ?_) (fun d h8 => ?_)
    ·refine tkl 1 d rfl rfl kT rfl aT (tkl 0 d rfl rfl dX rfl cN (tk d (sle rfl bG.of) (tk d (sar rfl rfl rfl) ?_)));obtain ⟨u, w, h8⟩ := bns h8;refine tk d (scr Try.call65 (hZ _ _ _ w)) (to (spt (.b u) d) ?_);obtain rfl := sIn h8;refine aB (aL rfl ⟨rfl, trivial⟩ rfl)
    ·refine tp d (tp d (tp d (tp d (tp d (tp d (tp d (to (spf (.b false) d) ?_)))))));obtain rfl := sIn h8;refine aB (aL rfl ⟨rfl, trivial⟩ rfl)
   ·refine tm (.b b7) ?_;obtain ⟨b9, j, h⟩ := bns h;refine aY 4 [] 28 b9 ?_ ?_
    ·refine bch j (fun g j => ?_) (fun g j => ?_)
     ·refine tkl 1 g rfl rfl xJ rfl aT ?_;obtain ⟨x, y, j⟩ := bns j;refine tk g (scr Try.call65 (hZ _ _ _ y)) (to (spt (.b x) g) ?_);obtain rfl := sIn j;refine aB (aL rfl trivial rfl)
     ·refine tp g (tp g (tp g (to (spf (.b false) g) ?_)));obtain rfl := sIn j;refine aB (aL rfl trivial rfl)
    ·refine ta (.b b9) (aB ?_);obtain rfl := sIn h;refine bO (bH (bJ (l := [4]) ⟨rfl, trivial⟩)) ?_;exact aX ⟨rfl, _, .one _, rfl, rfl⟩
  ·refine aV (aC (aC (aA (tfl 1 rfl rfl mU rfl aT ?_))));obtain ⟨z, A, h⟩ := bns h;refine to (scr Try.call65 (hZ _ _ _ A)) (to (sn rfl) (tm (.b (!z)) ?_));obtain ⟨q, k, h⟩ := bns h;refine aY 8 [2, 3] 41 q ?_ ?_
   ·refine bch k (fun e k => ?_) (fun e k => ?_)
    ·refine tp e (tp e (tp e (tp e (tp e (tp e (tp e (to (spt (.b true) e) ?_)))))));obtain rfl := sIn k;refine aB (aL rfl ⟨rfl, rfl, trivial⟩ rfl)
    ·refine tk e (sla 0 (bD p) rfl rfl mG) (tkl 1 e rfl rfl pF rfl aT (tkl 1 e rfl rfl kT rfl aT ?_));obtain ⟨B, C, k⟩ := bns k;refine tk e (scr Try.call66 (aDg _ _ _ C)) (tk e (sn rfl) (to (spf (.b (!B)) e) ?_));obtain rfl := sIn k;refine aB (aL rfl ⟨rfl, rfl, trivial⟩ rfl)
   ·refine tm (.b q) ?_;obtain ⟨E, o, h⟩ := bns h;refine aY 4 [2, 3] 46 E ?_ ?_
    ·refine bch o (fun i o => ?_) (fun i o => ?_)
     ·refine tp i (tp i (tp i (to (spt (.b true) i) ?_)));obtain rfl := sIn o;refine aB (aL rfl ⟨rfl, rfl, trivial⟩ rfl)
     ·refine tkl 1 i rfl rfl xJ rfl aT (tk i (scm rfl rfl rfl) (to (spf (.b (!decide (n.Old = 0))) i) ?_));obtain rfl := sIn o;refine aB (aL rfl ⟨rfl, rfl, trivial⟩ rfl)
    ·refine aB ?_;refine tih h (fun F h => ?_) (fun F h => ?_)
     ·refine aC (aA (ta (.b false) (aB ?_)));obtain rfl := sIn h;refine bO (bH (bJ (l := [4]) ⟨rfl, trivial⟩)) ?_;exact aX ⟨rfl, _, .one _, rfl, rfl⟩
     ·refine aV (aC (aA (tfl 1 rfl rfl pF rfl aT (to (scm rfl rfl rfl) (tm (.b (decide (0 < n.Round))) ?_)))));obtain ⟨s, f, h⟩ := bns h;refine aY 20 [] 70 s ?_ ?_
      ·refine bch f (fun a f => ?_) (fun a f => ?_)
       ·refine tp a (tp a (tp a (tp a (tp a (tp a (tp a (tp a (tp a (tq (tq (tq (tq (tq ?_)))))))))))));refine tq (tq (tq (tq (tp a (to (spt (.b true) a) ?_)))));obtain rfl := sIn f;refine aB (aL rfl trivial rfl)
       ·refine tkl 0 a rfl rfl dX rfl cN (tkl 1 a rfl rfl kT rfl aT (tk a (sar rfl rfl rfl) ?_));obtain ⟨G, H, f⟩ := bns f;refine tk a (six rfl rfl bG.of (aW aK H)) (tk a (slc rfl aT) (tk a (scm rfl rfl rfl) (tk a (sm (.b (!decide (G = (-1))))) ?_)));obtain ⟨t, m, f⟩ := bns f;refine aY 10 [50] 69 t ?_ ?_
        ·refine bch m (fun c m => ?_) (fun c m => ?_)
         ·refine tkl 0 c rfl rfl dX rfl cN (tkl 1 c rfl rfl kT rfl aT (tk c (sar rfl rfl rfl) (tk c (sar rfl rfl rfl) ?_)));obtain ⟨I, J, m⟩ := bns m;refine tk c (six rfl rfl bG.of (aW aK J)) (tk c (slc rfl aT) (tk c (scm rfl rfl rfl) (tk a (spt (.b (!decide (I = (-1)))) c) ?_)));obtain rfl := sIn m;refine aB (aL rfl ⟨rfl, trivial⟩ rfl)
         ·refine tp c (tp c (tp c (tp c (tp c (tp c (tp c (tp c (tp c (tk a (spf (.b false) c) ?_)))))))));obtain rfl := sIn m;refine aB (aL rfl ⟨rfl, trivial⟩ rfl)
        ·refine to (spf (.b t) a) ?_;obtain rfl := sIn f;refine aB (aL rfl trivial rfl)
      ·refine ta (.b s) (aB ?_);obtain rfl := sIn h;refine bO (bH (bJ (l := [4]) ⟨rfl, trivial⟩)) ?_;exact aX ⟨rfl, _, .one _, rfl, rfl⟩

theorem yZ (p : List aF) {r : (List aF)} (h : nT p = some r) : Fn Try.prog 69 [.d (.sl 5 (p.map aJ))] (.d (.sl 5 (r.map aJ))) := by
 unfold nT at h;refine Fn.of_tr Try.func69 rfl (rs := [.tmp 2]) Try.results69 Try.ntmps69 (Nat.le_of_ble_eq_true rfl) ?_;refine aC (aA (to (aBt 5 (aD rfl)) ?_));refine aB (aC (aA (to (iC 46 5 (.inl rfl) (aD rfl)) ?_)));refine aB (aC (aC (aA (ta (.i 0) (aB (bA ?_))))));refine bR (S := Int × (List aF) × Value) [0] (fun s2 => [(3, .d (.lit s2.2.2)), (4, .i s2.1)]) (fun s2 => [.arr s2.2.2 46 5 (s2.2.1.map aJ)]) (fun k s2 => eW p k s2.1 s2.2.1) (fun _ => rfl) (0, ([] : List aF), (.slice none 0 0)) h (aP [0] rfl rfl (aI rfl (aI rfl (aM ⟨rfl, trivial⟩)))) ?_;rintro k4 ⟨g, o, w3⟩ h;simp only [eW] at h;refine aC (aC (aA (tm (.i g) (tm (.d (.sl 5 (p.map aJ))) (to (sle rfl fN.of) (to (scm rfl rfl rfl) (aB ?_)))))));refine tih h (fun c5 h => ?_) (fun c5 h => ?_)
 ·refine aV (aC (bA (aC (aA (ta (.b false) (aB (aC (aC (aA (ta (.i 0) (aB (bA ?_))))))))))));refine bR (S := Bool × Int) [0, 3, 4] (fun s6 => [(5, .b s6.1), (6, .i s6.2)]) (fun s6 => [.arr w3 46 5 (o.map aJ)]) (fun k s6 => iM (eW p k4) p g o k s6.1 s6.2) (fun _ => rfl) (false, 0) h (aP [0] rfl rfl (aI rfl (aI rfl (aM ⟨rfl, rfl, rfl, trivial⟩)))) ?_;rintro k7 ⟨c, j⟩ h;simp only [iM] at h;refine aC (aC (aA (tm (.i j) (tm (.d (.lit w3)) (to (jS (m := 0) (aD rfl) rfl rfl fN.of) ?_)))));refine to (scm rfl rfl rfl) (aB ?_);refine tih h (fun c8 h => ?_) (fun c8 h => ?_)
  ·refine aV (aC (bA ?_));obtain ⟨b9, q, h⟩ := bns h;refine cW mix 12 [0, 3, 4, 6] [(30, .b b9)] ?_ ?_
   ·refine bch q (fun e q => ?_) (fun e q => ?_)
    ·obtain rfl := sIn q;refine ⟨[(19, 0, .b c), (20, 1, .b c), (21, 2, .tup []), (22, 3, .tup []), (23, 4, .tup []), (24, 5, .tup []), (25, 6, .tup []), (26, 7, .tup []), (27, 8, .tup []), (28, 9, .tup []), (29, 10, .tup []), (30, 11, .b true)], ?_, ?_⟩
     · exact dok [([], []), ([0], []), ([1], []), ([1], []), ([1, 2, 3], []), ([1, 4], []), ([1], []), ([1], []), ([1, 6, 7], []), ([1, 8], []), ([1, 5, 9], []), ([1, 10], [])] ⟨go (zm (.b c)),
      go (zm (.b c)),
      gp e,
      gp e,
      gp e,
      gp e,
      gp e,
      gp e,
      gp e,
      gp e,
      gp e,
      go (zpt (.b true) e), trivial⟩
     · exact cL (aI rfl (aM ⟨rfl, rfl, rfl, rfl, trivial⟩))
    ·obtain ⟨s, t, q⟩ := bns q;obtain ⟨n, x, q⟩ := bns q;obtain rfl := sIn q;refine ⟨[(19, 0, .b c), (20, 1, .b c), (21, 2, .d (.lit w3)), (22, 3, .i j), (23, 4, .ep w3 5 j.toNat 0), (24, 5, .agg (aJ s)), (25, 6, .d (.sl 5 (p.map aJ))), (26, 7, .i g), (27, 8, .cp [.lit (.int .i64 n.Kind), .lit (.int .i64 n.Round), .lit (.int .i64 n.Place), .lit (.int .i64 n.Player), .lit (.int .i64 n.Old)]), (28, 9, .agg (aJ n)), (29, 10, .b (decide (s = n))), (30, 11, .b (decide (s = n)))], ?_, ?_⟩
     · exact dok [([], []), ([0], []), ([1], []), ([1], []), ([1, 2, 3], []), ([1, 4], []), ([1], []), ([1], []), ([1, 6, 7], []), ([1, 8], []), ([1, 5, 9], []), ([1, 10], [])] ⟨go (zm (.b c)),
      go (zm (.b c)),
      gt e (zm (.d (.lit w3))),
      gt e (zm (.i j)),
      gt e (zia 0 rfl rfl rfl fN.of (aW aJ t)),
      gt e fun S hS => eC (aD rfl) (aU hS rfl) (l := 0) rfl (dR aJ t) lB (es := (aJ s)) rfl rfl,
      gt e (zm (.d (.sl 5 (p.map aJ)))),
      gt e (zm (.i g)),
      gt e (zix rfl rfl fN.of (aW aJ x)),
      gt e (aSx (aJ n) rfl lB),
      gt e fun S hS => aSm (a := s) (b := n) (aD rfl) (aU hS rfl) (aU hS rfl) rfl rfl Try.eqGuardType46 aOd,
      go (zpf (.b (decide (s = n))) e), trivial⟩
     · exact cL (aI rfl (aM ⟨rfl, rfl, rfl, rfl, trivial⟩))
   ·refine ta (.b b9) ?_;refine cU ?_;refine aA (tm (.i j) (to (sar rfl rfl rfl) (ta (.i (w64 (j + 1))) (aB ?_))));exact ⟨(b9, w64 (j + 1)), h, aP [0] rfl rfl (aI rfl (aI rfl (aM ⟨rfl, rfl, rfl, trivial⟩)))⟩
  ·refine bT ?_;refine .inl ⟨rfl, ?_⟩;simp only [nM] at h;refine aC (aA (tm (.b c) (to (sn rfl) (aB ?_))));refine tih h (fun y h => ?_) (fun y h => ?_)
   ·refine aA (tm (.d (.lit w3)) (tm (.d (.sl 5 (p.map aJ))) (tm (.i g) ?_)));obtain ⟨u, z, h⟩ := bns h;refine to (six rfl rfl fN.of (aW aJ z)) (to (pL (aJ u) rfl lB) (to (fF (aD rfl) fN rfl rfl (rows := ([u]).map aJ) rfl (cI (f := aJ) fun _ => rfl) rfl (by decide)) ?_));obtain ⟨A, B, h⟩ := bns h;refine bB rfl (fV (i := 0) (aD rfl) fN rfl rfl rfl (fun _ => rfl) B rfl) ?_;rintro _ ⟨w, rfl⟩;refine ta (.d (.lit w)) ?_;refine cU ?_;simp only [lG] at h;refine aA (tm (.i g) (to (sar rfl rfl rfl) (ta (.i (w64 (g + 1))) (aB ?_))));exact ⟨(w64 (g + 1), A, w), h, aP [0] rfl rfl (aI rfl (aI rfl (aM ⟨rfl, trivial⟩)))⟩
   ·refine cR ?_;simp only [lG] at h;refine aA (tm (.i g) (to (sar rfl rfl rfl) (ta (.i (w64 (g + 1))) (aB ?_))));exact ⟨(w64 (g + 1), o, w3), h, aP [0] rfl rfl (aI rfl (aI rfl (aM ⟨rfl, trivial⟩)))⟩
 ·refine bT ?_;refine .inl ⟨rfl, ?_⟩;simp only [tM] at h;refine aC (aA (tm (.d (.lit w3)) (ta (.d (.lit w3)) (aB ?_))));obtain rfl := sIn h;refine bO (bH (rB (k := 2) (v := .d (.sl 5 (o.map aJ))) (.d (kK 0 rfl (cI (f := aJ) fun _ => rfl))) (aCj))) ?_;exact aX ⟨rfl, _, .one _, rfl, rfl⟩

theorem aJx (c : List Int) (e : Int) {r : Bool} (h : sJ c e = some r) : Fn Try.prog 94 [.d (.sl 1 (c.map aK)), .i e] (.b r) := by
 unfold sJ at h;refine Fn.of_tr Try.func94 rfl (rs := [.tmp 4]) Try.results94 Try.ntmps94 (Nat.le_of_ble_eq_true rfl) ?_;refine aC (aA (ta (.b false) (aB (aC (aC (aA (ta (.i 0) (aB (bA ?_)))))))));refine bR (S := Int) [0, 1] (fun s1 => [(5, .i s1)]) (fun s1 => []) (fun k s1 => kS c e k s1) (fun _ => rfl) (0) h (aP [] rfl rfl (aI rfl (aM ⟨rfl, rfl, trivial⟩))) ?_;rintro k2 a h;simp only [kS] at h;refine aC (aC (aA (tm (.i a) (tm (.d (.sl 1 (c.map aK))) (to (sle rfl bG.of) (to (scm rfl rfl rfl) (aB ?_)))))));refine tih h (fun c3 h => ?_) (fun c3 h => ?_)
 ·refine aV (aC (bA (aC (aA (tm (.d (.sl 1 (c.map aK))) (tm (.i a) ?_))))));obtain ⟨x4, h5, h⟩ := bns h;refine to (six rfl rfl bG.of (aW aK h5)) (to (slc rfl aT) (tm (.i e) (to (scm rfl rfl rfl) (aB ?_))));refine tih h (fun c6 h => ?_) (fun c6 h => ?_)
  ·refine aC (aA (ta (.b true) (aB ?_)));obtain rfl := sIn h;exact aX ⟨rfl, _, .one _, rfl, rfl⟩
  ·refine cR ?_;refine aA (tm (.i a) (to (sar rfl rfl rfl) (ta (.i (w64 (a + 1))) (aB ?_))));exact ⟨(w64 (a + 1)), h, aP [] rfl rfl (aI rfl (aM ⟨rfl, rfl, trivial⟩))⟩
 ·refine bT ?_;refine .inl ⟨rfl, ?_⟩;simp only [vJ] at h;refine aC (aA (ta (.b false) (aB ?_)));obtain rfl := sIn h;exact aX ⟨rfl, _, .one _, rfl, rfl⟩

theorem aDh (t : aR) (N : List aF) {r : (List Int) × Bool} (h : nK t N = some r) : Fn Try.prog 67 [.agg (bD t), .d (.sl 5 (N.map aJ))] (.tup [.d (.sl 1 (r.1.map aK)), .b r.2]) := by
 unfold nK at h;refine Fn.of_tr Try.func67 rfl (rs := [.tmp 4, .tmp 5]) Try.results67 Try.ntmps67 (Nat.le_of_ble_eq_true rfl) ?_;refine aC (aA ?_);refine bB rfl (eP (v := .agg (bD t)) (aD rfl) rfl rfl rfl) ?_;rintro _ ⟨b1, rfl⟩;refine to (aBt 1 (aD rfl)) ?_;refine ta (.b false) (aB (aC (aA (tm (.d (.sl 5 (N.map aJ))) ?_))));obtain ⟨r2, h3, h⟩ := bns h;refine to (fE (aD rfl) (.func _ _ Try.call69) rfl rfl (yZ _ h3)) ?_;refine ta (.d (.sl 5 (r2.map aJ))) (aB (aC (aA ?_)));refine bB rfl (aGx (aD rfl) bG rfl rfl (rows := (([] : List Int)).map aK) rfl (cI (f := aK) fun _ => rfl) rfl (by decide)) ?_;rintro _ ⟨v4, rfl⟩;refine tfl 0 rfl rfl dX rfl cN ?_;obtain ⟨x5, h6, h⟩ := bns h;refine bB rfl (fV (i := 1) (aD rfl) bG rfl rfl rfl (fun _ => rfl) h6 rfl) ?_;rintro _ ⟨v7, rfl⟩;refine ta (.d (.lit v7)) (aB (aC (aA (to (iC 3 1 (.inl rfl) (aD rfl)) ?_))));refine aB (aC (aA (ta (.i 0) (aB (aC (aC (aA (ta (.i 0) (aB (bA ?_))))))))));refine bR (S := Int × Int × (List Int) × (List Int) × Value × Value) [2, 6] (fun s9 => [(7, .d (.lit s9.2.2.2.2.2)), (8, .d (.lit s9.2.2.2.2.1)), (9, .i s9.1), (10, .i s9.2.1)]) (fun s9 => [.box b1 0 (bD t), .arr s9.2.2.2.2.1 3 1 (s9.2.2.1.map aK), .arr s9.2.2.2.2.2 3 1 (s9.2.2.2.1.map aK)]) (fun k s9 => eL r2 t k s9.1 s9.2.1 s9.2.2.1 s9.2.2.2.1) (fun _ => rfl) (0, 0, ([] : List Int), x5, (.slice none 0 0), v7) h (aP [0, 2, 1] rfl rfl (aI rfl (aI rfl (aI rfl (aI rfl (aM ⟨rfl, rfl, trivial⟩)))))) ?_;rintro O ⟨B, n, e, M, H, a3⟩ h;simp only [eL] at h;refine aC (aC (aA (tm (.i n) (tfl 0 rfl rfl dX rfl cN (to (sle rfl bG.of) (to (scm rfl rfl rfl) (aB ?_)))))));refine tih h (fun a4 h => ?_) (fun a4 h => ?_)
 ·refine aV (aC (bA (aC (aA (tfl 0 rfl rfl dX rfl cN (tm (.i n) ?_))))));obtain ⟨P, a5, h⟩ := bns h;refine to (six rfl rfl bG.of (aW aK a5)) (to (slc rfl aT) (ta (.i P) (aB (aC (aC (aA (ta (.b true) (aB (bA ?_)))))))));refine bR (S := Int × Int × Bool × (List Int) × Value) [2, 6, 8, 10] (fun y => [(7, .d (.lit y.2.2.2.2)), (9, .i y.1), (11, .i y.2.1), (12, .b y.2.2.1)]) (fun y => [.box b1 0 (bD t), .arr H 3 1 (e.map aK), .arr y.2.2.2.2 3 1 (y.2.2.2.1.map aK)]) (fun k y => gH (eL r2 t O) r2 n t e k y.1 y.2.1 y.2.2.1 y.2.2.2.1) (fun _ => rfl) (B, P, true, M, a3) h (aP [0, 1, 2] rfl rfl (aI rfl (aI rfl (aI rfl (aI rfl (aM ⟨rfl, rfl, rfl, rfl, trivial⟩)))))) ?_;rintro a6 ⟨g, j, J, w, K⟩ h;simp only [gH] at h;refine aC (aC (aA (tm (.b J) (aB ?_))));refine tih h (fun a7 h => ?_) (fun a7 h => ?_)
  ·refine aV (bA (aC (aA (ta (.b false) (aB (aC (aA (to (iC 3 1 (.inl rfl) (aD rfl)) ?_))))))));refine aB (aC (aC (aA (ta (.i 0) (aB (bA ?_))))));refine bR (S := Int × (List Int) × Value) [2, 6, 7, 8, 9, 10, 11, 12] (fun A => [(13, .d (.lit A.2.2)), (14, .i A.1)]) (fun A => [.box b1 0 (bD t), .arr H 3 1 (e.map aK), .arr A.2.2 3 1 (A.2.1.map aK), .arr K 3 1 (w.map aK)]) (fun k A => fH (eL r2 t O) (gH (eL r2 t O) r2 n t e a6) r2 g n j false t e w k A.1 A.2.1) (fun _ => rfl) (0, ([] : List Int), (.slice none 0 0)) h (aP [0, 1, 3, 2] rfl rfl (aI rfl (aI rfl (aM ⟨rfl, rfl, rfl, rfl, rfl, rfl, rfl, rfl, trivial⟩)))) ?_;rintro d1 ⟨a, x, C⟩ h;simp only [fH] at h;refine aC (aC (aA (tm (.i a) (tm (.d (.sl 5 (r2.map aJ))) (to (sle rfl fN.of) (to (scm rfl rfl rfl) (aB ?_)))))));refine tih h (fun a8 h => ?_) (fun a8 h => ?_)
   ·refine aV (aC (bA (aC (aA (tm (.d (.sl 5 (r2.map aJ))) (tm (.i a) ?_))))));obtain ⟨Q, a9, h⟩ := bns h;refine to (six rfl rfl fN.of (aW aJ a9)) (to (sfc [.lit (.int .i64 Q.Kind)] rfl mU) (to (slc rfl aT) (to (scm rfl rfl rfl) (tm (.b (decide (Q.Kind = 5))) ?_))));obtain ⟨T, E, h⟩ := bns h;refine aY 8 [2, 6, 7, 8, 9, 10, 11, 12, 13, 14] 55 T ?_ ?_
    ·refine bch E (fun o E => ?_) (fun o E => ?_)
     ·refine tk o (sm (.d (.sl 5 (r2.map aJ)))) (tk o (sm (.i a)) ?_);obtain ⟨U, b0, E⟩ := bns E;refine tk o (six rfl rfl fN.of (aW aJ b0)) (tk o (sfc [.lit (.int .i64 U.Place)] rfl kT) (tk o (slc rfl aT) (tk o (sm (.i n)) (tk o (scm rfl rfl rfl) (to (spt (.b (decide (U.Place = n))) o) ?_)))));obtain rfl := sIn E;refine aB (aL rfl ⟨rfl, rfl, rfl, rfl, rfl, rfl, rfl, rfl, rfl, rfl, trivial⟩ rfl)
     ·refine tp o (tp o (tp o (tp o (tp o (tp o (tp o (to (spf (.b false) o) ?_)))))));obtain rfl := sIn E;refine aB (aL rfl ⟨rfl, rfl, rfl, rfl, rfl, rfl, rfl, rfl, rfl, rfl, trivial⟩ rfl)
    ·refine tm (.b T) ?_;obtain ⟨b2, F, h⟩ := bns h;refine aY 8 [2, 6, 7, 8, 9, 10, 11, 12, 13, 14] 64 b2 ?_ ?_
     ·refine bch F (fun p F => ?_) (fun p F => ?_)
      ·refine tk p (sm (.d (.sl 5 (r2.map aJ)))) (tk p (sm (.i a)) ?_);obtain ⟨V, b3, F⟩ := bns F;refine tk p (six rfl rfl fN.of (aW aJ b3)) (tk p (sfc [.lit (.int .i64 V.Old)] rfl xJ) (tk p (slc rfl aT) (tk p (sm (.i j)) (tk p (scm rfl rfl rfl) (to (spt (.b (decide (V.Old = j))) p) ?_)))));obtain rfl := sIn F;refine aB (aL rfl ⟨rfl, rfl, rfl, rfl, rfl, rfl, rfl, rfl, rfl, rfl, trivial⟩ rfl)
      ·refine tp p (tp p (tp p (tp p (tp p (tp p (tp p (to (spf (.b false) p) ?_)))))));obtain rfl := sIn F;refine aB (aL rfl ⟨rfl, rfl, rfl, rfl, rfl, rfl, rfl, rfl, rfl, rfl, trivial⟩ rfl)
     ·refine aB ?_;refine tih h (fun b4 h => ?_) (fun b4 h => ?_)
      ·refine aA (tm (.d (.lit C)) (tm (.d (.sl 5 (r2.map aJ))) (tm (.i a) ?_)));obtain ⟨W, b5, h⟩ := bns h;refine to (six rfl rfl fN.of (aW aJ b5)) (to (sfc [.lit (.int .i64 W.Player)] rfl nY) (to (slc rfl aT) (to (fF (aD rfl) bG rfl rfl (rows := ([W.Player]).map aK) rfl (cI (f := aK) fun _ => rfl) rfl (by decide)) ?_)));obtain ⟨b6, b7, h⟩ := bns h;refine bB rfl (fV (i := 2) (aD rfl) bG rfl rfl rfl (fun _ => rfl) b7 rfl) ?_;rintro _ ⟨X, rfl⟩;refine ta (.d (.lit X)) ?_;refine cU ?_;refine aA (tm (.i a) (to (sar rfl rfl rfl) (ta (.i (w64 (a + 1))) (aB ?_))));exact ⟨(w64 (a + 1), b6, X), h, aP [0, 1, 2, 3] rfl rfl (aI rfl (aI rfl (aM ⟨rfl, rfl, rfl, rfl, rfl, rfl, rfl, rfl, trivial⟩)))⟩
      ·refine cR ?_;refine aA (tm (.i a) (to (sar rfl rfl rfl) (ta (.i (w64 (a + 1))) (aB ?_))));exact ⟨(w64 (a + 1), x, C), h, aP [0, 1, 2, 3] rfl rfl (aI rfl (aI rfl (aM ⟨rfl, rfl, rfl, rfl, rfl, rfl, rfl, rfl, trivial⟩)))⟩
   ·refine bT ?_;refine .inl ⟨rfl, ?_⟩;simp only [lC] at h;refine aC (aC (aA (tm (.d (.lit C)) (to (jS (m := 2) (aD rfl) rfl rfl bG.of) ?_))));refine to (scm rfl rfl rfl) (tm (.b (decide (1 < (x.length : Int)))) ?_);obtain ⟨b8, G, h⟩ := bns h;refine aY 11 [2, 6, 7, 8, 9, 10, 11, 12, 13] 87 b8 ?_ ?_
    ·refine bch G (fun s G => ?_) (fun s G => ?_)
     ·refine tp s (tp s (tp s (tp s (tq (tq (tq (tq (tq (tp s (to (spt (.b true) s) ?_))))))))));obtain rfl := sIn G;refine aB (aL rfl ⟨rfl, rfl, rfl, rfl, rfl, rfl, rfl, rfl, rfl, trivial⟩ rfl)
     ·refine tk s (sm (.d (.lit C))) (tk s (jS (m := 2) (aD rfl) rfl rfl bG.of) ?_);refine tk s (scm rfl rfl rfl) (tk s (sm (.b (decide ((x.length : Int) = 1)))) ?_);obtain ⟨Y, z, G⟩ := bns G;refine aY 6 [2, 6, 7, 8, 9, 10, 11, 12, 13, 76, 77, 78, 79, 80] 86 Y ?_ ?_
      ·refine bch z (fun u z => ?_) (fun u z => ?_)
       ·refine tk u (sm (.d (.lit K))) (tk u (sm (.d (.lit C))) ?_);obtain ⟨d2, Z, z⟩ := bns z;refine tk u (dI (m := 2) (aD rfl) rfl rfl rfl bG.of (aW aK Z)) ?_;refine tk u (iN (aD rfl) rfl (m := 2) rfl (dR aK Z) rfl aT) ?_;obtain ⟨b9, c0, z⟩ := bns z;refine tk u (sc Try.call94 (aJx _ _ c0) (.cons (.d (kK 3 rfl (cI (f := aK) fun _ => rfl))) (.cons (.same _) .nil))) (tk s (spt (.b b9) u) ?_);obtain rfl := sIn z;refine aB (aL rfl ⟨rfl, rfl, rfl, rfl, rfl, rfl, rfl, rfl, rfl, rfl, rfl, rfl, rfl, rfl, trivial⟩ rfl)
       ·refine tp u (tp u (tp u (tp u (tp u (tk s (spf (.b false) u) ?_)))));obtain rfl := sIn z;refine aB (aL rfl ⟨rfl, rfl, rfl, rfl, rfl, rfl, rfl, rfl, rfl, rfl, rfl, rfl, rfl, rfl, trivial⟩ rfl)
      ·refine to (spf (.b Y) s) ?_;obtain rfl := sIn G;refine aB (aL rfl ⟨rfl, rfl, rfl, rfl, rfl, rfl, rfl, rfl, rfl, trivial⟩ rfl)
    ·refine aB ?_;refine tih h (fun c1 h => ?_) (fun c1 h => ?_)
     ·refine aC (aA (to (aBt 1 (aD rfl)) ?_));refine ta (.b false) (aB ?_);obtain rfl := sIn h;refine bO (bH (bJ (l := [4, 5]) ⟨rfl, rfl, trivial⟩)) ?_;exact aX ⟨rfl, _, .two _ _, rfl, rfl⟩
     ·refine aV (aC (aA (tm (.d (.lit C)) (to (jS (m := 2) (aD rfl) rfl rfl bG.of) ?_))));refine to (scm rfl rfl rfl) (aB ?_);refine tih h (fun c2 h => ?_) (fun c2 h => ?_)
      ·refine aC (aA (tm (.d (.lit C)) ?_));obtain ⟨L, a0, h⟩ := bns h;refine to (dI (m := 2) (aD rfl) rfl rfl rfl bG.of (aW aK a0)) ?_;refine to (iN (aD rfl) rfl (m := 2) rfl (dR aK a0) rfl aT) ?_;refine ta (.i L) (aB (aC (aA (tm (.d (.lit K)) (tm (.i L) (to (fF (aD rfl) bG rfl rfl (rows := ([L]).map aK) rfl (cI (f := aK) fun _ => rfl) rfl (by decide)) ?_))))));obtain ⟨c3, c4, h⟩ := bns h;refine bB rfl (fV (i := 3) (aD rfl) bG rfl rfl rfl (fun _ => rfl) c4 rfl) ?_;rintro _ ⟨a1, rfl⟩;refine ta (.d (.lit a1)) (aB (aC (aA (tm (.i g) (to (sar rfl rfl rfl) (ta (.i (w64 (g + 1))) (aB (aA (ta (.b true) ?_)))))))));refine cU ?_;simp only [jG] at h;exact ⟨(w64 (g + 1), L, true, c3, a1), h, aP [0, 1, 3] rfl rfl (aI rfl (aI rfl (aI rfl (aI rfl (aM ⟨rfl, rfl, rfl, rfl, trivial⟩)))))⟩
      ·refine cR ?_;simp only [jG] at h;exact ⟨(g, j, false, w, K), h, aP [0, 1, 3] rfl rfl (aI rfl (aI rfl (aI rfl (aI rfl (aM ⟨rfl, rfl, rfl, rfl, trivial⟩)))))⟩
  ·refine bT ?_;refine .inl ⟨rfl, ?_⟩;simp only [nS] at h;refine aA (tm (.d (.lit H)) (tm (.i j) (to (fF (aD rfl) bG rfl rfl (rows := ([j]).map aK) rfl (cI (f := aK) fun _ => rfl) rfl (by decide)) ?_)));obtain ⟨c5, c6, h⟩ := bns h;refine bB rfl (fV (i := 1) (aD rfl) bG rfl rfl rfl (fun _ => rfl) c6 rfl) ?_;rintro _ ⟨a2, rfl⟩;refine ta (.d (.lit a2)) ?_;refine cU ?_;simp only [rE] at h;refine aA (tm (.i n) (to (sar rfl rfl rfl) (ta (.i (w64 (n + 1))) (aB ?_))));exact ⟨(g, w64 (n + 1), c5, w, a2, K), h, aP [0, 1, 2] rfl rfl (aI rfl (aI rfl (aI rfl (aI rfl (aM ⟨rfl, rfl, trivial⟩)))))⟩
 ·refine bT ?_;refine .inl ⟨rfl, ?_⟩;simp only [rD] at h;refine aC (aC (aA (ta (.i 0) (aB (bA ?_)))));refine bR (S := Int × Int) [6, 8] (fun I => [(9, .i I.1), (15, .i I.2)]) (fun I => [.arr H 3 1 (e.map aK)]) (fun k I => fI r2 e k I.1 I.2) (fun _ => rfl) (B, 0) h (aP [1] rfl rfl (aI rfl (aI rfl (aM ⟨rfl, rfl, trivial⟩)))) ?_;rintro d3 ⟨c, q⟩ h;simp only [fI] at h;refine aC (aC (aA (tm (.i q) (tm (.d (.sl 5 (r2.map aJ))) (to (sle rfl fN.of) (to (scm rfl rfl rfl) (aB ?_)))))));refine tih h (fun c7 h => ?_) (fun c7 h => ?_)
  ·refine aV (aC (bA (aC (aA (tm (.d (.sl 5 (r2.map aJ))) (tm (.i q) ?_))))));obtain ⟨c8, c9, h⟩ := bns h;refine to (six rfl rfl fN.of (aW aJ c9)) (to (sfc [.lit (.int .i64 c8.Kind)] rfl mU) (to (slc rfl aT) (to (scm rfl rfl rfl) (aB ?_))));refine tih h (fun d0 h => ?_) (fun d0 h => ?_)
   ·refine aA (tm (.i c) (to (sar rfl rfl rfl) (ta (.i (w64 (c - 1))) ?_)));refine cU ?_;refine aA (tm (.i q) (to (sar rfl rfl rfl) (ta (.i (w64 (q + 1))) (aB ?_))));exact ⟨(w64 (c - 1), w64 (q + 1)), h, aP [0] rfl rfl (aI rfl (aI rfl (aM ⟨rfl, rfl, trivial⟩)))⟩
   ·refine cR ?_;refine aA (tm (.i q) (to (sar rfl rfl rfl) (ta (.i (w64 (q + 1))) (aB ?_))));exact ⟨(c, w64 (q + 1)), h, aP [0] rfl rfl (aI rfl (aI rfl (aM ⟨rfl, rfl, trivial⟩)))⟩
  ·refine bT ?_;refine .inl ⟨rfl, ?_⟩;simp only [rF] at h;refine aC (aA (tm (.d (.lit H)) (tm (.i c) (to (scm rfl rfl rfl) (ta (.d (.lit H)) (ta (.b (decide (c = 0))) (aB ?_)))))));obtain rfl := sIn h;refine bO (bH (rB (k := 5) (v := .b (decide (c = 0))) (.same _) (rB (k := 4) (v := .d (.sl 1 (e.map aK))) (.d (kK 0 rfl (cI (f := aK) fun _ => rfl))) (aCj)))) ?_;exact aX ⟨rfl, _, .two _ _, rfl, rfl⟩

theorem aHv (A : aR) (U : List aF) {r : aS × Bool} (h : fJ A U = some r) : Fn Try.prog 40 [.agg (bD A), .d (.sl 5 (U.map aJ))] (.tup [.agg (cK r.1), .b r.2]) := by
 unfold fJ at h;refine jQ Try.func40 rfl (rs := [.cell 4 87, .tmp 5]) Try.results40 Try.ntmps40 (Nat.le_of_ble_eq_true rfl) ?_;refine aC (aA ?_);refine bB rfl (eP (v := .agg (bD A)) (aD rfl) rfl rfl rfl) ?_;rintro _ ⟨b1, rfl⟩;refine bB rfl (cM (zs := [.sl 1 ((([] : List Int)).map aK), .sl 1 ((([] : List (List Int))).map oY)]) (aD rfl) Try.zeroValue87 rfl rfl) ?_;rintro _ ⟨b2, rfl⟩;refine ta (.b false) (aB (aC (aA (to (sla 0 (bD A) rfl rfl mG) (tm (.d (.sl 5 (U.map aJ))) ?_)))));obtain ⟨r3, h4, h⟩ := bns h;refine to (fE (aD rfl) (.func _ _ Try.call67) rfl rfl (aDh _ _ h4)) ?_;refine tm (.tup [.d (.sl 1 (r3.1.map aK)), .b r3.2]) (to (sex rfl rfl) (to (sex rfl rfl) (ta (.d (.sl 1 (r3.1.map aK))) (ta (.b r3.2) (aB (aC (aC (aA (tm (.b r3.2) (to (sn rfl) (aB ?_)))))))))));refine tih h (fun c5 h => ?_) (fun c5 h => ?_)
 ·refine aC (aA (to (eE (aD rfl) aHh (zs := [.sl 1 ((([] : List Int)).map aK), .sl 1 ((([] : List (List Int))).map oY)]) rfl rfl rfl rfl (es := [.sl 1 ((([] : List Int)).map aK), .sl 1 ((([] : List (List Int))).map oY)]) rfl) ?_));refine to (sst 1 rfl rfl Try.sizeOf87 (cK (aS.mk ([] : List Int) ([] : List (List Int))))) (ta (.b false) (aB ?_));obtain rfl := sIn h;exact aX ⟨rfl, _, [.box b1 0 (bD A), .box b2 0 (cK (aS.mk ([] : List Int) ([] : List (List Int))))], .two (.cell 4 87 rfl (i := 1) rfl aCi (es := (cK (aS.mk ([] : List Int) ([] : List (List Int))))) rfl rfl) (.tmp 5 (v := .b false) rfl), .refl _, .same _⟩
 ·refine aV (aC (aA (tm (.d (.sl 1 (r3.1.map aK))) (to (eE (aD rfl) aHh (zs := [.sl 1 ((([] : List Int)).map aK), .lit (.slice none 0 0)]) rfl rfl rfl rfl (es := [.sl 1 (r3.1.map aK), .lit (.slice none 0 0)]) rfl) ?_))));refine bB rfl (cM (zs := [.sl 1 ((([] : List Int)).map aK), .lit (.slice none 0 0)]) (aD rfl) Try.zeroValue87 rfl rfl) ?_;rintro _ ⟨b6, rfl⟩;refine nX (aDi 22 1) ?_;refine nX (aRv 3 1) ?_;refine to (sst 2 rfl rfl Try.sizeOf87 [.sl 1 (r3.1.map aK), .lit (.slice none 0 0)]) (aB (aC (aC (aA (ta (.i 0) (aB (bA ?_)))))));refine bR (S := Int × (List (List Int)) × (List Int) × (List Value) × Value) [1, 2, 4, 6, 8] (fun s7 => [(9, .i s7.1)]) (fun s7 => [.box b1 0 (bD A), .box b2 0 (cK (aS.mk ([] : List Int) ([] : List (List Int)))), .fam 3 1 s7.2.2.2.1 (s7.2.1.map fun r => r.map aK), .arr s7.2.2.2.2 22 1 (s7.2.2.2.1.map fun v => [.lit v]), .box b6 0 [.sl 1 (s7.2.2.1.map aK), .lit s7.2.2.2.2]]) (fun k s7 => gT U r3.1 A (aS.mk ([] : List Int) ([] : List (List Int))) k s7.1 s7.2.1 s7.2.2.1) (fun _ => rfl) (0, ([] : List (List Int)), r3.1, [], (.slice none 0 0)) h (aP [0, 1, 4, 3, 2] rfl rfl (aI rfl (aM ⟨rfl, rfl, rfl, rfl, rfl, trivial⟩))) ?_;rintro d4 ⟨s, T, e, N, w9⟩ h;simp only [gT] at h;refine aC (aC (aA (tm (.i s) (tfl 0 rfl rfl iS rfl aT (to (scm rfl rfl rfl) (aB ?_))))));refine tih h (fun d5 h => ?_) (fun d5 h => ?_)
  ·refine aV (aC (bA (aC (aA (to (iC 3 1 (.inl rfl) (aD rfl)) ?_)))));refine aB (aC (aC (aA (ta (.i 0) (aB (bA ?_))))));refine bR (S := Int × (List Int) × Value) [1, 2, 4, 6, 8, 9] (fun O => [(10, .d (.lit O.2.2)), (11, .i O.1)]) (fun O => [.box b1 0 (bD A), .box b2 0 (cK (aS.mk ([] : List Int) ([] : List (List Int)))), .fam 3 1 N (T.map fun r => r.map aK), .arr w9 22 1 (N.map fun v => [.lit v]), .box b6 0 [.sl 1 (e.map aK), .lit w9], .arr O.2.2 3 1 (O.2.1.map aK)]) (fun k O => eT (gT U r3.1 A (aS.mk ([] : List Int) ([] : List (List Int))) d4) U r3.1 s A (aS.mk ([] : List Int) ([] : List (List Int))) T e k O.1 O.2.1) (fun _ => rfl) (0, ([] : List Int), (.slice none 0 0)) h (aP [0, 1, 2, 3, 4, 5] rfl rfl (aI rfl (aI rfl (aM ⟨rfl, rfl, rfl, rfl, rfl, rfl, trivial⟩)))) ?_;rintro i1 ⟨j, d0, J⟩ h;simp only [eT] at h;refine aC (aC (aA (tm (.i j) (to (sla 0 (bD A) rfl rfl mG) (tm (.i s) ?_)))));obtain ⟨i2, d6, h⟩ := bns h;refine to (scr Try.call68 (xE _ _ d6)) (to (scm rfl rfl rfl) (aB ?_));refine tih h (fun d7 h => ?_) (fun d7 h => ?_)
   ·refine aV (aC (bA (aC (aA (ta (.i (-2)) (aB (aC (aC (aA (tm (.i s) (to (scm rfl rfl rfl) (tm (.b (decide (s = 0))) ?_))))))))))));obtain ⟨d8, V, h⟩ := bns h;refine aY 7 [1, 2, 4, 6, 8, 9, 10, 11, 12] 55 d8 ?_ ?_
    ·refine bch V (fun z V => ?_) (fun z V => ?_)
     ·refine tk z (sm (.d (.sl 1 (r3.1.map aK)))) (tk z (sm (.i j)) (tk z (sar rfl rfl rfl) ?_));obtain ⟨d9, e0, V⟩ := bns V;refine tk z (six rfl rfl bG.of (aW aK e0)) (tk z (slc rfl aT) (tk z (scm rfl rfl rfl) (to (spt (.b (decide (d9 = (-1)))) z) ?_)));obtain rfl := sIn V;refine aB (aL rfl ⟨rfl, rfl, rfl, rfl, rfl, rfl, rfl, rfl, rfl, trivial⟩ rfl)
     ·refine tp z (tp z (tp z (tp z (tp z (tp z (to (spf (.b false) z) ?_))))));obtain rfl := sIn V;refine aB (aL rfl ⟨rfl, rfl, rfl, rfl, rfl, rfl, rfl, rfl, rfl, trivial⟩ rfl)
    ·refine aB ?_;refine tih h (fun e1 h => ?_) (fun e1 h => ?_)
     ·refine aA (tm (.d (.sl 1 (r3.1.map aK))) (tm (.i j) (to (sar rfl rfl rfl) (to (sar rfl rfl rfl) ?_))));obtain ⟨b3, e2, h⟩ := bns h;refine to (six rfl rfl bG.of (aW aK e2)) (to (slc rfl aT) (ta (.i b3) (aB (aC (aC (aA (tm (.i s) (to (scm rfl rfl rfl) (tm (.b (decide (s = 0))) ?_)))))))));obtain ⟨e3, W, h⟩ := bns h;refine aY 8 [1, 2, 4, 6, 8, 9, 10, 11, 12] 72 e3 ?_ ?_
      ·refine bch W (fun u W => ?_) (fun u W => ?_)
       ·refine tk u (sm (.d (.sl 1 (r3.1.map aK)))) (tk u (sm (.i j)) (tk u (sar rfl rfl rfl) (tk u (sar rfl rfl rfl) ?_)));obtain ⟨e4, e5, W⟩ := bns W;refine tk u (six rfl rfl bG.of (aW aK e5)) (tk u (slc rfl aT) (tk u (scm rfl rfl rfl) (to (spt (.b (decide (e4 = (-1)))) u) ?_)));obtain rfl := sIn W;refine aB (aL rfl ⟨rfl, rfl, rfl, rfl, rfl, rfl, rfl, rfl, rfl, trivial⟩ rfl)
       ·refine tp u (tp u (tp u (tp u (tp u (tp u (tp u (to (spf (.b false) u) ?_)))))));obtain rfl := sIn W;refine aB (aL rfl ⟨rfl, rfl, rfl, rfl, rfl, rfl, rfl, rfl, rfl, trivial⟩ rfl)
      ·refine aB ?_;refine tih h (fun e6 h => ?_) (fun e6 h => ?_)
       ·refine aA (tm (.d (.sl 1 (r3.1.map aK))) (tm (.i j) (to (sar rfl rfl rfl) ?_)));obtain ⟨b4, e7, h⟩ := bns h;refine to (six rfl rfl bG.of (aW aK e7)) (to (slc rfl aT) (ta (.i b4) (aB (aA (tm (.d (.lit J)) (tm (.i b4) (to (fF (aD rfl) bG rfl rfl (rows := ([b4]).map aK) rfl (cI (f := aK) fun _ => rfl) rfl (by decide)) ?_)))))));obtain ⟨e8, e9, h⟩ := bns h;refine bB rfl (fV (i := 5) (aD rfl) bG rfl rfl rfl (fun _ => rfl) e9 rfl) ?_;rintro _ ⟨c2, rfl⟩;refine ta (.d (.lit c2)) ?_;refine cU ?_;refine aA (tm (.i j) (to (sar rfl rfl rfl) (ta (.i (w64 (j + 1))) (aB ?_))));exact ⟨(w64 (j + 1), e8, c2), h, aP [0, 1, 2, 3, 4, 5] rfl rfl (aI rfl (aI rfl (aM ⟨rfl, rfl, rfl, rfl, rfl, rfl, trivial⟩)))⟩
       ·refine aV (aA (tm (.d (.lit J)) (tm (.i b3) (to (fF (aD rfl) bG rfl rfl (rows := ([b3]).map aK) rfl (cI (f := aK) fun _ => rfl) rfl (by decide)) ?_))));obtain ⟨f0, f1, h⟩ := bns h;refine bB rfl (fV (i := 5) (aD rfl) bG rfl rfl rfl (fun _ => rfl) f1 rfl) ?_;rintro _ ⟨c3, rfl⟩;refine ta (.d (.lit c3)) ?_;refine cU ?_;refine aA (tm (.i j) (to (sar rfl rfl rfl) (ta (.i (w64 (j + 1))) (aB ?_))));exact ⟨(w64 (j + 1), f0, c3), h, aP [0, 1, 2, 3, 4, 5] rfl rfl (aI rfl (aI rfl (aM ⟨rfl, rfl, rfl, rfl, rfl, rfl, trivial⟩)))⟩
     ·refine aV (aC (aC (aA (tm (.i s) (to (scm rfl rfl rfl) (tm (.b (decide (s = 0))) ?_))))));obtain ⟨f2, X, h⟩ := bns h;refine aY 8 [1, 2, 4, 6, 8, 9, 10, 11, 12] 72 f2 ?_ ?_
      ·refine bch X (fun w X => ?_) (fun w X => ?_)
       ·refine tk w (sm (.d (.sl 1 (r3.1.map aK)))) (tk w (sm (.i j)) (tk w (sar rfl rfl rfl) (tk w (sar rfl rfl rfl) ?_)));obtain ⟨f3, f4, X⟩ := bns X;refine tk w (six rfl rfl bG.of (aW aK f4)) (tk w (slc rfl aT) (tk w (scm rfl rfl rfl) (to (spt (.b (decide (f3 = (-1)))) w) ?_)));obtain rfl := sIn X;refine aB (aL rfl ⟨rfl, rfl, rfl, rfl, rfl, rfl, rfl, rfl, rfl, trivial⟩ rfl)
       ·refine tp w (tp w (tp w (tp w (tp w (tp w (tp w (to (spf (.b false) w) ?_)))))));obtain rfl := sIn X;refine aB (aL rfl ⟨rfl, rfl, rfl, rfl, rfl, rfl, rfl, rfl, rfl, trivial⟩ rfl)
      ·refine aB ?_;refine tih h (fun f5 h => ?_) (fun f5 h => ?_)
       ·refine aA (tm (.d (.sl 1 (r3.1.map aK))) (tm (.i j) (to (sar rfl rfl rfl) ?_)));obtain ⟨b5, f6, h⟩ := bns h;refine to (six rfl rfl bG.of (aW aK f6)) (to (slc rfl aT) (ta (.i b5) (aB (aA (tm (.d (.lit J)) (tm (.i b5) (to (fF (aD rfl) bG rfl rfl (rows := ([b5]).map aK) rfl (cI (f := aK) fun _ => rfl) rfl (by decide)) ?_)))))));obtain ⟨f7, f8, h⟩ := bns h;refine bB rfl (fV (i := 5) (aD rfl) bG rfl rfl rfl (fun _ => rfl) f8 rfl) ?_;rintro _ ⟨c4, rfl⟩;refine ta (.d (.lit c4)) ?_;refine cU ?_;refine aA (tm (.i j) (to (sar rfl rfl rfl) (ta (.i (w64 (j + 1))) (aB ?_))));exact ⟨(w64 (j + 1), f7, c4), h, aP [0, 1, 2, 3, 4, 5] rfl rfl (aI rfl (aI rfl (aM ⟨rfl, rfl, rfl, rfl, rfl, rfl, trivial⟩)))⟩
       ·refine aV (aA (tm (.d (.lit J)) (tm (.i (-2)) (to (fF (aD rfl) bG rfl rfl (rows := ([(-2)]).map aK) rfl (cI (f := aK) fun _ => rfl) rfl (by decide)) ?_))));obtain ⟨f9, g0, h⟩ := bns h;refine bB rfl (fV (i := 5) (aD rfl) bG rfl rfl rfl (fun _ => rfl) g0 rfl) ?_;rintro _ ⟨c6, rfl⟩;refine ta (.d (.lit c6)) ?_;refine cU ?_;refine aA (tm (.i j) (to (sar rfl rfl rfl) (ta (.i (w64 (j + 1))) (aB ?_))));exact ⟨(w64 (j + 1), f9, c6), h, aP [0, 1, 2, 3, 4, 5] rfl rfl (aI rfl (aI rfl (aM ⟨rfl, rfl, rfl, rfl, rfl, rfl, trivial⟩)))⟩
   ·refine bT ?_;refine .inl ⟨rfl, ?_⟩;simp only [lE] at h;refine aA (tfl 4 rfl rfl xN rfl aGo (tm (.d (.lit J)) (to (fF (aD rfl) aHp rfl rfl (rows := [[.lit J]]) rfl (fun r hr => by cases hr with | head => rfl | tail _ h => cases h) rfl (by decide)) ?_)));obtain ⟨c7, c8, h⟩ := bns h;refine bB rfl (aPc (m := 3) (f := 2) (aD rfl) aHp rfl rfl rfl rfl c8 rfl) ?_;rintro _ ⟨a9, rfl⟩;refine nX (aPz (i := 2) [.box b1 0 (bD A), .box b2 0 (cK (aS.mk ([] : List Int) ([] : List (List Int)))), .fam 3 1 N (T.map fun r => r.map aK), .arr a9 22 1 ((N ++ [J]).map fun v => [.lit v]), .box b6 0 [.sl 1 (e.map aK), .lit w9]] [.box b1 0 (bD A), .box b2 0 (cK (aS.mk ([] : List Int) ([] : List (List Int)))), .fam 3 1 (N ++ [J]) (c7.map fun r => r.map aK), .arr a9 22 1 ((N ++ [J]).map fun v => [.lit v]), .box b6 0 [.sl 1 (e.map aK), .lit w9]] rfl rfl c8 rfl) ?_;refine to (sf rfl xN) (to (sst 4 rfl rfl Try.sizeOf85 [.sl 1 (e.map aK), .lit a9]) ?_);refine cU ?_;simp only [tJ] at h;refine aA (tm (.i s) (to (sar rfl rfl rfl) (ta (.i (w64 (s + 1))) (aB ?_))));exact ⟨(w64 (s + 1), c7, e, (N ++ [J]), a9), h, aP [0, 1, 2, 3, 4] rfl rfl (aI rfl (aM ⟨rfl, rfl, rfl, rfl, rfl, trivial⟩))⟩
  ·refine bT ?_;refine .inl ⟨rfl, ?_⟩;simp only [lD] at h;refine aC (aA (tm (.d (.sl 5 (U.map aJ))) ?_));obtain ⟨C, g1, h⟩ := bns h;refine to (fE (aD rfl) (.func _ _ Try.call69) rfl rfl (yZ _ g1)) ?_;refine ta (.d (.sl 5 (C.map aJ))) (aB (aC (aC (aA (ta (.i 0) (aB (bA ?_)))))));refine bR (S := Int × aS × (List (List Int)) × (List Value)) [4, 6, 8, 13] (fun K => [(14, .i K.1)]) (fun K => [.box b2 0 (cK K.2.1), .fam 3 1 K.2.2.2 (K.2.2.1.map fun r => r.map aK), .arr w9 22 1 (K.2.2.2.map fun v => [.lit v]), .box b6 0 [.sl 1 (e.map aK), .lit w9]]) (fun k K => dK r3.1 C e k K.1 K.2.1 K.2.2.1) (fun _ => rfl) (0, (aS.mk ([] : List Int) ([] : List (List Int))), T, N) h (aP [1, 2, 3, 4] rfl rfl (aI rfl (aM ⟨rfl, rfl, rfl, rfl, trivial⟩))) ?_;rintro b7 ⟨p, a0, t, x⟩ h;simp only [dK] at h;refine aC (aC (aA (tm (.i p) (tm (.d (.sl 5 (C.map aJ))) (to (sle rfl fN.of) (to (scm rfl rfl rfl) (aB ?_)))))));refine tih h (fun g2 h => ?_) (fun g2 h => ?_)
   ·refine aV (aC (bA (aC (aA (tm (.d (.sl 5 (C.map aJ))) (tm (.i p) ?_))))));obtain ⟨n, g3, h⟩ := bns h;refine to (six rfl rfl fN.of (aW aJ g3)) (to (pL (aJ n) rfl lB) ?_);refine bB rfl (cM (zs := [.lit (.int .i64 0), .lit (.int .i64 0), .lit (.int .i64 0), .lit (.int .i64 0), .lit (.int .i64 0)]) (aD rfl) Try.zeroValue46 rfl rfl) ?_;rintro _ ⟨M, rfl⟩;refine to (sst 4 rfl rfl Try.sizeOf46 (aJ n)) (aB (aC (aC (aA (tfl 4 rfl rfl mU rfl aT (to (scm rfl rfl rfl) (aB ?_)))))));refine tih h (fun g4 h => ?_) (fun g4 h => ?_)
    ·refine bT ?_;refine .inl ⟨rfl, ?_⟩;simp only [lF] at h;refine aA (tm (.i p) (to (sar rfl rfl rfl) (ta (.i (w64 (p + 1))) (aB ?_))));exact ⟨(w64 (p + 1), a0, t, x), h, aP [0, 1, 2, 3] rfl rfl (aI rfl (aM ⟨rfl, rfl, rfl, rfl, trivial⟩))⟩
    ·refine aV (aC (aC (aA (ta (.i 0) (aB (bA ?_))))));refine bR (S := Int × aS) [4, 6, 8, 13, 14, 15] (fun a1 => [(16, .i a1.1)]) (fun a1 => [.box b2 0 (cK a1.2), .fam 3 1 x (t.map fun r => r.map aK), .arr w9 22 1 (x.map fun v => [.lit v]), .box b6 0 [.sl 1 (e.map aK), .lit w9], .box M 0 (aJ n)]) (fun k a1 => iL (dK r3.1 C e b7) r3.1 C p t e n k a1.1 a1.2) (fun _ => rfl) (0, a0) h (aP [0, 1, 2, 3, 4] rfl rfl (aI rfl (aM ⟨rfl, rfl, rfl, rfl, rfl, rfl, trivial⟩))) ?_;rintro i3 ⟨E, H⟩ h;simp only [iL] at h;refine aC (aC (aA (tm (.i E) (tm (.i p) (to (scm rfl rfl rfl) (aB ?_))))));refine tih h (fun g5 h => ?_) (fun g5 h => ?_)
     ·refine aV (aC (bA (aC (aA (tm (.d (.sl 5 (C.map aJ))) (tm (.i E) ?_))))));obtain ⟨a2, g6, h⟩ := bns h;refine to (six rfl rfl fN.of (aW aJ g6)) (to (pL (aJ a2) rfl lB) ?_);refine bB rfl (cM (zs := [.lit (.int .i64 0), .lit (.int .i64 0), .lit (.int .i64 0), .lit (.int .i64 0), .lit (.int .i64 0)]) (aD rfl) Try.zeroValue46 rfl rfl) ?_;rintro _ ⟨g7, rfl⟩;refine to (sst 5 rfl rfl Try.sizeOf46 (aJ a2)) (aB (aC (aA (tfl 5 rfl rfl mU rfl aT (to (scm rfl rfl rfl) (tm (.b (!decide (a2.Kind = 5))) ?_))))));obtain ⟨c9, a7, h⟩ := bns h;refine aY 6 [4, 6, 8, 13, 14, 15, 16, 17] 121 c9 ?_ ?_
      ·refine bch a7 (fun F a7 => ?_) (fun F a7 => ?_)
       ·refine tkl 5 F rfl rfl pF rfl aT (tkl 4 F rfl rfl pF rfl aT (tk F (scm rfl rfl rfl) (to (spt (.b (decide (a2.Round = n.Round))) F) ?_)));obtain rfl := sIn a7;refine aB (aL rfl ⟨rfl, rfl, rfl, rfl, rfl, rfl, rfl, rfl, trivial⟩ rfl)
       ·refine tp F (tp F (tp F (tp F (tp F (to (spf (.b false) F) ?_)))));obtain rfl := sIn a7;refine aB (aL rfl ⟨rfl, rfl, rfl, rfl, rfl, rfl, rfl, rfl, trivial⟩ rfl)
      ·refine tm (.b c9) ?_;obtain ⟨g8, a8, h⟩ := bns h;refine aY 6 [4, 6, 8, 13, 14, 15, 16] 128 g8 ?_ ?_
       ·refine bch a8 (fun G a8 => ?_) (fun G a8 => ?_)
        ·refine tkl 5 G rfl rfl kT rfl aT (tkl 4 G rfl rfl kT rfl aT (tk G (scm rfl rfl rfl) (to (spt (.b (decide (a2.Place = n.Place))) G) ?_)));obtain rfl := sIn a8;refine aB (aL rfl ⟨rfl, rfl, rfl, rfl, rfl, rfl, rfl, trivial⟩ rfl)
        ·refine tp G (tp G (tp G (tp G (tp G (to (spf (.b false) G) ?_)))));obtain rfl := sIn a8;refine aB (aL rfl ⟨rfl, rfl, rfl, rfl, rfl, rfl, rfl, trivial⟩ rfl)
       ·refine aB ?_;refine tih h (fun g9 h => ?_) (fun g9 h => ?_)
        ·refine aC (aA (to (eE (aD rfl) aHh (zs := [.sl 1 ((([] : List Int)).map aK), .sl 1 ((([] : List (List Int))).map oY)]) rfl rfl rfl rfl (es := [.sl 1 ((([] : List Int)).map aK), .sl 1 ((([] : List (List Int))).map oY)]) rfl) ?_));refine to (sst 0 rfl rfl Try.sizeOf87 (cK (aS.mk ([] : List Int) ([] : List (List Int))))) (ta (.b false) (aB ?_));obtain rfl := sIn h;exact aX ⟨rfl, _, [.box b2 0 (cK (aS.mk ([] : List Int) ([] : List (List Int)))), .fam 3 1 x (t.map fun r => r.map aK), .arr w9 22 1 (x.map fun v => [.lit v]), .box b6 0 [.sl 1 (e.map aK), .lit w9], .box M 0 (aJ n), .box g7 0 (aJ a2)], .two (.cell 4 87 rfl (i := 0) rfl aCi (es := (cK (aS.mk ([] : List Int) ([] : List (List Int))))) rfl rfl) (.tmp 5 (v := .b false) rfl), .refl _, .same _⟩
        ·refine cR ?_;refine aA (tm (.i E) (to (sar rfl rfl rfl) (ta (.i (w64 (E + 1))) (aB ?_))));exact ⟨(w64 (E + 1), H), h, aP [0, 1, 2, 3, 4] rfl rfl (aI rfl (aM ⟨rfl, rfl, rfl, rfl, rfl, rfl, trivial⟩))⟩
     ·refine bT ?_;refine .inl ⟨rfl, ?_⟩;simp only [pT] at h;refine aC (aA (ta (.i (-1)) (aB (aC (aC (aA (ta (.i 0) (aB (bA ?_)))))))));refine bR (S := Int × Int) [4, 6, 8, 13, 14, 15] (fun a3 => [(18, .i a3.1), (19, .i a3.2)]) (fun a3 => [.box b2 0 (cK H), .fam 3 1 x (t.map fun r => r.map aK), .arr w9 22 1 (x.map fun v => [.lit v]), .box b6 0 [.sl 1 (e.map aK), .lit w9], .box M 0 (aJ n)]) (fun k a3 => eM (dK r3.1 C e b7) r3.1 C p H t e n k a3.1 a3.2) (fun _ => rfl) ((-1), 0) h (aP [0, 1, 2, 3, 4] rfl rfl (aI rfl (aI rfl (aM ⟨rfl, rfl, rfl, rfl, rfl, rfl, trivial⟩)))) ?_;rintro i4 ⟨c, q⟩ h;simp only [eM] at h;refine aC (aC (aA (tm (.i q) (tm (.d (.sl 1 (r3.1.map aK))) (to (sle rfl bG.of) (to (scm rfl rfl rfl) (aB ?_)))))));refine tih h (fun h0 h => ?_) (fun h0 h => ?_)
      ·refine aV (aC (bA (aC ?_)));obtain ⟨b8, h1, h⟩ := bns h;refine cW mix 6 [4, 6, 8, 13, 14, 15, 18, 19] [(139, .i b8), (141, .i n.Player)] ?_ ?_
       ·refine ⟨[(136, 0, .d (.sl 1 (r3.1.map aK))), (137, 1, .i q), (138, 2, .cp [.lit (.int .i64 b8)]), (139, 3, .i b8), (140, 4, .bp M 0 3), (141, 5, .i n.Player)], ?_, ?_⟩
        · exact dok [([], []), ([], []), ([0, 1], []), ([2], []), ([], []), ([4], [])] ⟨go (zm (.d (.sl 1 (r3.1.map aK)))),
      go (zm (.i q)),
      go (zix rfl rfl bG.of (aW aK h1)),
      go (zlc rfl aT),
      go (zf rfl nY),
      go (zl 4 rfl rfl rfl aT), trivial⟩
        · exact cL (aI rfl (aI rfl (aM ⟨rfl, rfl, rfl, rfl, rfl, rfl, rfl, rfl, trivial⟩)))
       ·refine to (scm rfl rfl rfl) (aB ?_);refine tih h (fun h2 h => ?_) (fun h2 h => ?_)
        ·refine aA (tm (.i q) (ta (.i q) ?_));refine cU ?_;refine aA (tm (.i q) (to (sar rfl rfl rfl) (ta (.i (w64 (q + 1))) (aB ?_))));exact ⟨(q, w64 (q + 1)), h, aP [0, 1, 2, 3, 4] rfl rfl (aI rfl (aI rfl (aM ⟨rfl, rfl, rfl, rfl, rfl, rfl, trivial⟩)))⟩
        ·refine cR ?_;refine aA (tm (.i q) (to (sar rfl rfl rfl) (ta (.i (w64 (q + 1))) (aB ?_))));exact ⟨(c, w64 (q + 1)), h, aP [0, 1, 2, 3, 4] rfl rfl (aI rfl (aI rfl (aM ⟨rfl, rfl, rfl, rfl, rfl, rfl, trivial⟩)))⟩
      ·refine bT ?_;refine .inl ⟨rfl, ?_⟩;simp only [iK] at h;refine aC (aC (aA (tm (.i c) (to (scm rfl rfl rfl) (tm (.b (decide (c < 0))) ?_)))));obtain ⟨h3, Y, h⟩ := bns h;refine aY 10 [4, 6, 8, 13, 14, 15, 18] 156 h3 ?_ ?_
       ·refine bch Y (fun o Y => ?_) (fun o Y => ?_)
        ·refine tp o (tp o (tp o (tp o (tp o (tp o (tp o (tp o (tp o (to (spt (.b true) o) ?_)))))))));obtain rfl := sIn Y;refine aB (aL rfl ⟨rfl, rfl, rfl, rfl, rfl, rfl, rfl, trivial⟩ rfl)
        ·refine tk o (sm (.i c)) (tkl 4 o rfl rfl pF rfl aT (tk o (sar rfl rfl rfl) (tk o (qB (aD rfl) rfl Try.runUnderlying3 Try.runUnderlying106) ?_)));obtain ⟨h8, d1, Y⟩ := bns Y;refine tk o (zO (aD rfl) rfl rfl (aBh d1)) ?_;refine tkl 4 o rfl rfl kT rfl aT (tk o (scm rfl rfl rfl) (to (spf (.b (!decide ((c.fdiv (2 ^ (min (uw (w64 (n.Round + 1))).toNat 64))) = n.Place))) o) ?_));obtain rfl := sIn Y;refine aB (aL rfl ⟨rfl, rfl, rfl, rfl, rfl, rfl, rfl, trivial⟩ rfl)
       ·refine aB ?_;refine tih h (fun h5 h => ?_) (fun h5 h => ?_)
        ·refine aC (aA (to (eE (aD rfl) aHh (zs := [.sl 1 ((([] : List Int)).map aK), .sl 1 ((([] : List (List Int))).map oY)]) rfl rfl rfl rfl (es := [.sl 1 ((([] : List Int)).map aK), .sl 1 ((([] : List (List Int))).map oY)]) rfl) ?_));refine to (sst 0 rfl rfl Try.sizeOf87 (cK (aS.mk ([] : List Int) ([] : List (List Int))))) (ta (.b false) (aB ?_));obtain rfl := sIn h;exact aX ⟨rfl, _, [.box b2 0 (cK (aS.mk ([] : List Int) ([] : List (List Int)))), .fam 3 1 x (t.map fun r => r.map aK), .arr w9 22 1 (x.map fun v => [.lit v]), .box b6 0 [.sl 1 (e.map aK), .lit w9], .box M 0 (aJ n)], .two (.cell 4 87 rfl (i := 0) rfl aCi (es := (cK (aS.mk ([] : List Int) ([] : List (List Int))))) rfl rfl) (.tmp 5 (v := .b false) rfl), .refl _, .same _⟩
        ·refine aV (aC (aA (ta (.i 0) (aB ?_))));refine uP ?_;refine bR (S := Int × aS × (List (List Int)) × (List Value)) [4, 6, 8, 13, 14, 15, 18] (fun L => [(20, .i L.1)]) (fun L => [.box b2 0 (cK L.2.1), .fam 3 1 L.2.2.2 (L.2.2.1.map fun r => r.map aK), .arr w9 22 1 (L.2.2.2.map fun v => [.lit v]), .box b6 0 [.sl 1 (e.map aK), .lit w9], .box M 0 (aJ n)]) (fun k L => hY (dK r3.1 C e b7) r3.1 C p c e n k L.1 L.2.1 L.2.2.1) (fun _ => rfl) (0, H, t, x) h (aP [0, 1, 2, 3, 4] rfl rfl (aI rfl (aM ⟨rfl, rfl, rfl, rfl, rfl, rfl, rfl, trivial⟩))) ?_;rintro i5 ⟨a, Z, I, y⟩ h;simp only [hY] at h;refine aC (aC (aA (tm (.i a) (tfl 4 rfl rfl pF rfl aT (to (scm rfl rfl rfl) (aB ?_))))));refine tih h (fun h6 h => ?_) (fun h6 h => ?_)
         ·refine aV (aC (bA (aC (aA (tm (.i c) (tm (.i a) (to (sar rfl rfl rfl) (to (qB (aD rfl) rfl Try.runUnderlying3 Try.runUnderlying106) ?_))))))));obtain ⟨i6, h7, h⟩ := bns h;refine to (zO (aD rfl) rfl rfl (aBh h7)) ?_;refine ta (.i (c.fdiv (2 ^ (min (uw (w64 (a + 1))).toNat 64)))) (aB (aC (aC ?_)));obtain ⟨i7, P, h⟩ := bns h;obtain ⟨Q, b0, h⟩ := bns h;obtain ⟨d2, B, h⟩ := bns h;refine cW mix 22 [4, 6, 8, 13, 14, 15, 18, 20, 21] [(190, .b d2)] ?_ ?_
          ·refine bch B (fun l B => ?_) (fun l B => ?_)
           ·obtain ⟨h9, a4, B⟩ := bns B;obtain ⟨a5, b9, B⟩ := bns B;obtain rfl := sIn B;refine ⟨[(169, 0, .bp b6 0 1), (170, 1, .d (.lit w9)), (171, 2, .i a), (172, 3, .ep w9 1 a.toNat 0), (173, 4, .d (.lit (vL y a))), (174, 5, .i (c.fdiv (2 ^ (min (uw (w64 (a + 1))).toNat 64)))), (175, 6, .ep (vL y a) 1 (c.fdiv (2 ^ (min (uw (w64 (a + 1))).toNat 64))).toNat 0), (176, 7, .i Q), (177, 8, .b (!decide (Q = (-2)))), (178, 9, .b (!decide (Q = (-2)))), (179, 10, .bp b6 0 1), (180, 11, .d (.lit w9)), (181, 12, .i a), (182, 13, .ep w9 1 a.toNat 0), (183, 14, .d (.lit (vL y a))), (184, 15, .i (c.fdiv (2 ^ (min (uw (w64 (a + 1))).toNat 64)))), (185, 16, .ep (vL y a) 1 (c.fdiv (2 ^ (min (uw (w64 (a + 1))).toNat 64))).toNat 0), (186, 17, .i a5), (187, 18, .bp M 0 3), (188, 19, .i n.Player), (189, 20, .b (!decide (a5 = n.Player))), (190, 21, .b (!decide (a5 = n.Player)))], ?_, ?_⟩
            · exact dok [([], []), ([0], []), ([], []), ([1, 2], []), ([3], []), ([], []), ([4, 5], []), ([6], []), ([7], []), ([8], []), ([9], []), ([9, 10], []), ([9], []), ([9, 11, 12], []), ([9, 13], []), ([9], []), ([9, 14, 15], []), ([9, 16], []), ([9], []), ([9, 18], []), ([9, 17, 19], []), ([9, 20], [])] ⟨go (zf rfl xN),
      go (zl 3 rfl rfl rfl aGo),
      go (zm (.i a)),
      go fun S hS => wX (m := 2) (f := 1) (aD rfl) (aU hS rfl) rfl rfl (aU hS rfl) aHp.of P,
      go fun S hS => yB (m := 2) (f := 1) (aD rfl) (aU hS rfl) rfl rfl P cN,
      go (zm (.i (c.fdiv (2 ^ (min (uw (w64 (a + 1))).toNat 64))))),
      go fun S hS => yA (f := 1) (g := aK) (aD rfl) (aU hS rfl) rfl P (aU hS rfl) bG.of b0,
      go fun S hS => aEj (f := 1) (g := aK) (aD rfl) (aU hS rfl) rfl P b0 rfl aT,
      go (zcm rfl rfl rfl),
      go (zm (.b (!decide (Q = (-2))))),
      gt l (zf rfl xN),
      gt l (zl 3 rfl rfl rfl aGo),
      gt l (zm (.i a)),
      gt l fun S hS => wX (m := 2) (f := 1) (aD rfl) (aU hS rfl) rfl rfl (aU hS rfl) aHp.of a4,
      gt l fun S hS => yB (m := 2) (f := 1) (aD rfl) (aU hS rfl) rfl rfl a4 cN,
      gt l (zm (.i (c.fdiv (2 ^ (min (uw (w64 (a + 1))).toNat 64))))),
      gt l fun S hS => yA (f := 1) (g := aK) (aD rfl) (aU hS rfl) rfl a4 (aU hS rfl) bG.of b9,
      gt l fun S hS => aEj (f := 1) (g := aK) (aD rfl) (aU hS rfl) rfl a4 b9 rfl aT,
      gt l (zf rfl nY),
      gt l (zl 4 rfl rfl rfl aT),
      gt l (zcm rfl rfl rfl),
      go (zpt (.b (!decide (a5 = n.Player))) l), trivial⟩
            · exact cL (aI rfl (aM ⟨rfl, rfl, rfl, rfl, rfl, rfl, rfl, rfl, rfl, trivial⟩))
           ·obtain rfl := sIn B;refine ⟨[(169, 0, .bp b6 0 1), (170, 1, .d (.lit w9)), (171, 2, .i a), (172, 3, .ep w9 1 a.toNat 0), (173, 4, .d (.lit (vL y a))), (174, 5, .i (c.fdiv (2 ^ (min (uw (w64 (a + 1))).toNat 64)))), (175, 6, .ep (vL y a) 1 (c.fdiv (2 ^ (min (uw (w64 (a + 1))).toNat 64))).toNat 0), (176, 7, .i Q), (177, 8, .b (!decide (Q = (-2)))), (178, 9, .b (!decide (Q = (-2)))), (179, 10, .tup []), (180, 11, .tup []), (181, 12, .tup []), (182, 13, .tup []), (183, 14, .tup []), (184, 15, .tup []), (185, 16, .tup []), (186, 17, .tup []), (187, 18, .tup []), (188, 19, .tup []), (189, 20, .tup []), (190, 21, .b false)], ?_, ?_⟩
            · exact dok [([], []), ([0], []), ([], []), ([1, 2], []), ([3], []), ([], []), ([4, 5], []), ([6], []), ([7], []), ([8], []), ([9], []), ([9, 10], []), ([9], []), ([9, 11, 12], []), ([9, 13], []), ([9], []), ([9, 14, 15], []), ([9, 16], []), ([9], []), ([9, 18], []), ([9, 17, 19], []), ([9, 20], [])] ⟨go (zf rfl xN),
      go (zl 3 rfl rfl rfl aGo),
      go (zm (.i a)),
      go fun S hS => wX (m := 2) (f := 1) (aD rfl) (aU hS rfl) rfl rfl (aU hS rfl) aHp.of P,
      go fun S hS => yB (m := 2) (f := 1) (aD rfl) (aU hS rfl) rfl rfl P cN,
      go (zm (.i (c.fdiv (2 ^ (min (uw (w64 (a + 1))).toNat 64))))),
      go fun S hS => yA (f := 1) (g := aK) (aD rfl) (aU hS rfl) rfl P (aU hS rfl) bG.of b0,
      go fun S hS => aEj (f := 1) (g := aK) (aD rfl) (aU hS rfl) rfl P b0 rfl aT,
      go (zcm rfl rfl rfl),
      go (zm (.b (!decide (Q = (-2))))),
      gp l,
      gp l,
      gp l,
      gp l,
      gp l,
      gp l,
      gp l,
      gp l,
      gp l,
      gp l,
      gp l,
      go (zpf (.b false) l), trivial⟩
            · exact cL (aI rfl (aM ⟨rfl, rfl, rfl, rfl, rfl, rfl, rfl, rfl, rfl, trivial⟩))
          ·refine aB ?_;refine tih h (fun d3 h => ?_) (fun d3 h => ?_)
           ·refine aC (aA (to (eE (aD rfl) aHh (zs := [.sl 1 ((([] : List Int)).map aK), .sl 1 ((([] : List (List Int))).map oY)]) rfl rfl rfl rfl (es := [.sl 1 ((([] : List Int)).map aK), .sl 1 ((([] : List (List Int))).map oY)]) rfl) ?_));refine to (sst 0 rfl rfl Try.sizeOf87 (cK (aS.mk ([] : List Int) ([] : List (List Int))))) (ta (.b false) (aB ?_));obtain rfl := sIn h;exact aX ⟨rfl, _, [.box b2 0 (cK (aS.mk ([] : List Int) ([] : List (List Int)))), .fam 3 1 y (I.map fun r => r.map aK), .arr w9 22 1 (y.map fun v => [.lit v]), .box b6 0 [.sl 1 (e.map aK), .lit w9], .box M 0 (aJ n)], .two (.cell 4 87 rfl (i := 0) rfl aCi (es := (cK (aS.mk ([] : List Int) ([] : List (List Int))))) rfl rfl) (.tmp 5 (v := .b false) rfl), .refl _, .same _⟩
           ·refine aV ?_;obtain ⟨c0, a6, h⟩ := bns h;refine cW mix 8 [4, 6, 8, 13, 14, 15, 18, 20] [(196, .d (.lit (vL y a))), (197, .i (c.fdiv (2 ^ (min (uw (w64 (a + 1))).toNat 64)))), (199, .i n.Player)] ?_ ?_
            ·refine ⟨[(192, 0, .bp b6 0 1), (193, 1, .d (.lit w9)), (194, 2, .i a), (195, 3, .ep w9 1 a.toNat 0), (196, 4, .d (.lit (vL y a))), (197, 5, .i (c.fdiv (2 ^ (min (uw (w64 (a + 1))).toNat 64)))), (198, 6, .bp M 0 3), (199, 7, .i n.Player)], ?_, ?_⟩
             · exact dok [([], []), ([0], []), ([], []), ([1, 2], []), ([3], []), ([], []), ([], []), ([6], [])] ⟨go (zf rfl xN),
      go (zl 3 rfl rfl rfl aGo),
      go (zm (.i a)),
      go fun S hS => wX (m := 2) (f := 1) (aD rfl) (aU hS rfl) rfl rfl (aU hS rfl) aHp.of a6,
      go fun S hS => yB (m := 2) (f := 1) (aD rfl) (aU hS rfl) rfl rfl a6 cN,
      go (zm (.i (c.fdiv (2 ^ (min (uw (w64 (a + 1))).toNat 64))))),
      go (zf rfl nY),
      go (zl 4 rfl rfl rfl aT), trivial⟩
             · exact cL (aI rfl (aI rfl (aI rfl (aM ⟨rfl, rfl, rfl, rfl, rfl, rfl, rfl, rfl, trivial⟩))))
            ·obtain ⟨i0, c1, h⟩ := bns h;refine to (yA (f := 1) (g := aK) (aD rfl) rfl rfl a6 rfl bG.of c1) ?_;refine to (aQq (f := 1) (g := aK) rfl rfl a6 c1 rfl rfl rfl Try.sizeOf3 rfl (aD rfl) (Nat.le_of_ble_eq_true rfl) (a' := n.Player) rfl (c' := (I.set a.toNat (c0.set (c.fdiv (2 ^ (min (uw (w64 (a + 1))).toNat 64))).toNat n.Player))) rfl) ?_;refine cU ?_;refine aA (tm (.i a) (to (sar rfl rfl rfl) (ta (.i (w64 (a + 1))) (aB ?_))));exact ⟨(w64 (a + 1), Z, (I.set a.toNat (c0.set (c.fdiv (2 ^ (min (uw (w64 (a + 1))).toNat 64))).toNat n.Player)), y), h, aP [0, 1, 2, 3, 4] rfl rfl (aI rfl (aM ⟨rfl, rfl, rfl, rfl, rfl, rfl, rfl, trivial⟩))⟩
         ·refine bT ?_;refine .inl ⟨rfl, ?_⟩;simp only [sV] at h;simp only [lF] at h;refine aA (tm (.i p) (to (sar rfl rfl rfl) (ta (.i (w64 (p + 1))) (aB ?_))));exact ⟨(w64 (p + 1), Z, I, y), h, aP [0, 1, 2, 3] rfl rfl (aI rfl (aM ⟨rfl, rfl, rfl, rfl, trivial⟩))⟩
   ·refine bT ?_;refine .inl ⟨rfl, ?_⟩;simp only [tK] at h;refine aC (aA (to (sla 3 [.sl 1 (e.map aK), .lit w9] rfl rfl aCi) (to (sst 0 rfl rfl Try.sizeOf87 [.sl 1 (e.map aK), .lit w9]) (ta (.b true) (aB ?_)))));obtain rfl := sIn h;exact aX ⟨rfl, _, [.box b2 0 [.sl 1 (e.map aK), .lit w9], .fam 3 1 x (t.map fun r => r.map aK), .arr w9 22 1 (x.map fun v => [.lit v]), .box b6 0 [.sl 1 (e.map aK), .lit w9]], .two (.cell 4 87 rfl (i := 0) rfl aCi (es := [.sl 1 (e.map aK), .lit w9]) rfl rfl) (.tmp 5 (v := .b true) rfl), .refl _, aFl (.cons (.agg (dvc (.same _) (dvc (aYr 2 1 rfl rfl (h := oY) (fun _ => rfl)) dvn))) (.cons (.same _) .nil))⟩

theorem aFp (c : aR) (e : List aF) {r : Int} (h : fL c e = some r) : Fn Try.prog 25 [.agg (bD c), .d (.sl 5 (e.map aJ))] (.i r) := by
 unfold fL at h;refine Fn.of_tr Try.func25 rfl (rs := [.tmp 4]) Try.results25 Try.ntmps25 (Nat.le_of_ble_eq_true rfl) ?_;refine aC (aA ?_);refine bB rfl (eP (v := .agg (bD c)) (aD rfl) rfl rfl rfl) ?_;rintro _ ⟨b1, rfl⟩;refine ta (.i 0) (aB (aC (aC (aA (to (sla 0 (bD c) rfl rfl mG) ?_)))));obtain ⟨r2, h3, h⟩ := bns h;refine to (scr Try.call38 (aFb _ h3)) (to (sn rfl) (aB ?_));refine tih h (fun c4 h => ?_) (fun c4 h => ?_)
 ·refine aC (aA (ta (.i 70) (aB ?_)));obtain rfl := sIn h;refine bO (bH (bJ (l := [4]) ⟨rfl, trivial⟩)) ?_;exact aX ⟨rfl, _, .one _, rfl, rfl⟩
 ·refine aV (aC (aC (aA (tm (.d (.sl 5 (e.map aJ))) (to (sle rfl fN.of) (to (scm rfl rfl rfl) (aB ?_)))))));refine tih h (fun c5 h => ?_) (fun c5 h => ?_)
  ·refine aC (aA (ta (.i 71) (aB ?_)));obtain rfl := sIn h;refine bO (bH (bJ (l := [4]) ⟨rfl, trivial⟩)) ?_;exact aX ⟨rfl, _, .one _, rfl, rfl⟩
  ·refine aV (aC (aC (aA (ta (.i 0) (aB (bA ?_))))));refine bR (S := Int) [1, 2] (fun s6 => [(5, .i s6)]) (fun s6 => [.box b1 0 (bD c)]) (fun k s6 => hJ e c k s6) (fun _ => rfl) (0) h (aP [0] rfl rfl (aI rfl (aM ⟨rfl, rfl, trivial⟩))) ?_;rintro k7 a h;simp only [hJ] at h;refine aC (aC (aA (tm (.i a) (tm (.d (.sl 5 (e.map aJ))) (to (sle rfl fN.of) (to (scm rfl rfl rfl) (aB ?_)))))));refine tih h (fun c8 h => ?_) (fun c8 h => ?_)
   ·refine aV (aC (bA (aC ?_)));obtain ⟨x9, g, h⟩ := bns h;refine cW mix 5 [1, 2, 5] [(20, .agg (bD c)), (24, .agg (aJ x9))] ?_ ?_
    ·refine ⟨[(20, 0, .agg (bD c)), (21, 1, .d (.sl 5 (e.map aJ))), (22, 2, .i a), (23, 3, .cp [.lit (.int .i64 x9.Kind), .lit (.int .i64 x9.Round), .lit (.int .i64 x9.Place), .lit (.int .i64 x9.Player), .lit (.int .i64 x9.Old)]), (24, 4, .agg (aJ x9))], ?_, ?_⟩
     · exact dok [([], []), ([], []), ([], []), ([1, 2], []), ([3], [])] ⟨go (zla 0 (bD c) rfl rfl mG),
      go (zm (.d (.sl 5 (e.map aJ)))),
      go (zm (.i a)),
      go (zix rfl rfl fN.of (aW aJ g)),
      go (aSx (aJ x9) rfl lB), trivial⟩
     · exact cL (aI rfl (aI rfl (aM ⟨rfl, rfl, rfl, trivial⟩)))
    ·obtain ⟨p, j, h⟩ := bns h;refine to (scr Try.call39 (aFc _ _ j)) (to (sn rfl) (aB ?_));refine tih h (fun m h => ?_) (fun m h => ?_)
     ·refine aC (aA (ta (.i 71) (aB ?_)));obtain rfl := sIn h;refine bO (bH (bJ (l := [4]) ⟨rfl, trivial⟩)) ?_;exact aX ⟨rfl, _, .one _, rfl, rfl⟩
     ·refine cR ?_;refine aA (tm (.i a) (to (sar rfl rfl rfl) (ta (.i (w64 (a + 1))) (aB ?_))));exact ⟨(w64 (a + 1)), h, aP [0] rfl rfl (aI rfl (aM ⟨rfl, rfl, trivial⟩))⟩
   ·refine bT ?_;refine .inl ⟨rfl, ?_⟩;simp only [kF] at h;refine aC (aC (aA (to (sla 0 (bD c) rfl rfl mG) (tm (.d (.sl 5 (e.map aJ))) ?_))));obtain ⟨f, n, h⟩ := bns h;refine to (fE (aD rfl) (.func _ _ Try.call40) rfl rfl (aHv _ _ n)) ?_;refine tm (.tup [.agg (cK f.1), .b f.2]) (to (sex rfl rfl) (to (sex rfl rfl) ?_));refine bB rfl (cM (zs := [.sl 1 ((([] : List Int)).map aK), .sl 1 ((([] : List (List Int))).map oY)]) (aD rfl) Try.zeroValue87 rfl rfl) ?_;rintro _ ⟨q, rfl⟩;refine to (sst 1 rfl rfl Try.sizeOf87 (cK f.1)) (ta (.b f.2) (aB (aC (aA (tm (.b f.2) (to (sn rfl) (aB ?_)))))));refine tih h (fun o h => ?_) (fun o h => ?_)
    ·refine aC (aA (ta (.i 72) (aB ?_)));obtain rfl := sIn h;refine bO (bH (bJ (l := [4]) ⟨rfl, trivial⟩)) ?_;exact aX ⟨rfl, _, .one _, rfl, rfl⟩
    ·refine aV (aC (aA (ta (.i 0) (aB ?_))));obtain rfl := sIn h;refine bO (bH (bJ (l := [4]) ⟨rfl, trivial⟩)) ?_;exact aX ⟨rfl, _, .one _, rfl, rfl⟩

theorem eD (d : Int) (c : Int) (a : Int) {r : Bool} (h : dW d c a = some r) : Fn Try.prog 26 [.i d, .i c, .i a] (.b r) := by
 unfold dW at h;refine Fn.of_tr Try.func26 rfl (rs := [.tmp 6]) Try.results26 Try.ntmps26 (Nat.le_of_ble_eq_true rfl) ?_;refine aC (aA (ta (.b false) (aB (aC (aA (tm (.i d) (tm (.i c) (to (scm rfl rfl rfl) (tm (.b (decide (c ≤ d))) ?_)))))))));obtain ⟨b1, h2, h⟩ := bns h;refine aY 4 [] 14 b1 ?_ ?_
 ·refine bch h2 (fun c3 h2 => ?_) (fun c3 h2 => ?_)
  ·refine tk c3 (sm (.i d)) (tk c3 (sm (.i a)) (tk c3 (scm rfl rfl rfl) (to (spt (.b (decide (d ≤ a))) c3) ?_)));obtain rfl := sIn h2;refine aB (aL rfl trivial rfl)
  ·refine tp c3 (tp c3 (tp c3 (to (spf (.b false) c3) ?_)));obtain rfl := sIn h2;refine aB (aL rfl trivial rfl)
 ·refine ta (.b b1) (aB ?_);obtain rfl := sIn h;exact aX ⟨rfl, _, .one _, rfl, rfl⟩

theorem wN (d : aN) (a : Int) {r : Bool} (h : lI d a = some r) : Fn Try.prog 41 [.agg (aO d), .i a] (.b r) := by
 unfold lI at h;refine Fn.of_tr Try.func41 rfl (rs := [.tmp 4]) Try.results41 Try.ntmps41 (Nat.le_of_ble_eq_true rfl) ?_;refine aC (aA ?_);refine bB rfl (eP (v := .agg (aO d)) (aD rfl) rfl rfl rfl) ?_;rintro _ ⟨b1, rfl⟩;refine ta (.b false) (aB (aC (aC (aA (ta (.i 0) (aB (bA ?_)))))));refine bR (S := Int) [1, 2] (fun s2 => [(5, .i s2)]) (fun s2 => [.box b1 0 (aO d)]) (fun k s2 => iF a d k s2) (fun _ => rfl) (0) h (aP [0] rfl rfl (aI rfl (aM ⟨rfl, rfl, trivial⟩))) ?_;rintro k3 c h;simp only [iF] at h;refine aC (aC (aA (tm (.i c) (tfl 0 rfl rfl iT rfl mK (to (sle rfl lQ.of) (to (scm rfl rfl rfl) (aB ?_)))))));refine tih h (fun c4 h => ?_) (fun c4 h => ?_)
 ·refine aV (aC (bA (aC (aA (tfl 0 rfl rfl iT rfl mK (tm (.i c) ?_))))));obtain ⟨x5, h6, h⟩ := bns h;refine to (six rfl rfl lQ.of (aW bF h6)) (to (sfc [.lit (.int .i64 x5.Player)] rfl vN) (to (slc rfl aT) (tm (.i a) (to (scm rfl rfl rfl) (aB ?_)))));refine tih h (fun c7 h => ?_) (fun c7 h => ?_)
  ·refine aC (aA (ta (.b true) (aB ?_)));obtain rfl := sIn h;refine bO (bH (bJ (l := [4]) ⟨rfl, trivial⟩)) ?_;exact aX ⟨rfl, _, .one _, rfl, rfl⟩
  ·refine cR ?_;refine aA (tm (.i c) (to (sar rfl rfl rfl) (ta (.i (w64 (c + 1))) (aB ?_))));exact ⟨(w64 (c + 1)), h, aP [0] rfl rfl (aI rfl (aM ⟨rfl, rfl, trivial⟩))⟩
 ·refine bT ?_;refine .inl ⟨rfl, ?_⟩;simp only [vY] at h;refine aC (aA (ta (.b false) (aB ?_)));obtain rfl := sIn h;refine bO (bH (bJ (l := [4]) ⟨rfl, trivial⟩)) ?_;exact aX ⟨rfl, _, .one _, rfl, rfl⟩

theorem aCo (a : aN) {r : Bool} (h : kG a = some r) : Fn Try.prog 27 [.agg (aO a)] (.b r) := by
 unfold kG at h;refine Fn.of_tr Try.func27 rfl (rs := [.tmp 2]) Try.results27 Try.ntmps27 (Nat.le_of_ble_eq_true rfl) ?_;refine aC (aA ?_);refine bB rfl (eP (v := .agg (aO a)) (aD rfl) rfl rfl rfl) ?_;rintro _ ⟨b1, rfl⟩;refine ta (.b false) (aB (aC (aC (aA (ta (.i 0) (aB (bA ?_)))))));refine bR (S := Int) [1] (fun s2 => [(3, .i s2)]) (fun s2 => [.box b1 0 (aO a)]) (fun k s2 => fT a k s2) (fun _ => rfl) (0) h (aP [0] rfl rfl (aI rfl (aM ⟨rfl, trivial⟩))) ?_;rintro k3 o h;simp only [fT] at h;refine aC (aC (aA (tm (.i o) (tfl 0 rfl rfl iT rfl mK (to (sle rfl lQ.of) (to (scm rfl rfl rfl) (aB ?_)))))));refine tih h (fun c4 h => ?_) (fun c4 h => ?_)
 ·refine aV (aC (bA (aC (aA (tfl 0 rfl rfl iT rfl mK (tm (.i o) ?_))))));obtain ⟨x5, h6, h⟩ := bns h;refine to (six rfl rfl lQ.of (aW bF h6)) (to (pL (bF x5) rfl wH) ?_);refine bB rfl (cM (zs := [.lit (.int .i64 0), .lit (.int .i64 0), .lit (.int .i64 0)]) (aD rfl) Try.zeroValue63 rfl rfl) ?_;rintro _ ⟨b7, rfl⟩;refine to (sst 1 rfl rfl Try.sizeOf63 (bF x5)) (aB (aC (aC (aA (tfl 1 rfl rfl vN rfl aT ?_)))));obtain ⟨r8, h9, h⟩ := bns h;refine to (scr Try.call26 (eD _ _ _ h9)) (to (sn rfl) (tm (.b (!r8)) ?_));obtain ⟨T, C, h⟩ := bns h;refine aY 5 [1, 3, 4] 30 T ?_ ?_
  ·refine bch C (fun w C => ?_) (fun w C => ?_)
   ·refine tp w (tp w (tp w (tp w (to (spt (.b true) w) ?_))));obtain rfl := sIn C;refine aB (aL rfl ⟨rfl, rfl, rfl, trivial⟩ rfl)
   ·refine tkl 1 w rfl rfl pG rfl aT ?_;obtain ⟨a2, a3, C⟩ := bns C;refine tk w (scr Try.call26 (eD _ _ _ a3)) (tk w (sn rfl) (to (spf (.b (!a2)) w) ?_));obtain rfl := sIn C;refine aB (aL rfl ⟨rfl, rfl, rfl, trivial⟩ rfl)
  ·refine tm (.b T) ?_;obtain ⟨U, E, h⟩ := bns h;refine aY 5 [1, 3, 4] 36 U ?_ ?_
   ·refine bch E (fun x E => ?_) (fun x E => ?_)
    ·refine tp x (tp x (tp x (tp x (to (spt (.b true) x) ?_))));obtain rfl := sIn E;refine aB (aL rfl ⟨rfl, rfl, rfl, trivial⟩ rfl)
    ·refine tkl 1 x rfl rfl kU rfl aT ?_;obtain ⟨a4, a5, E⟩ := bns E;refine tk x (scr Try.call26 (eD _ _ _ a5)) (tk x (sn rfl) (to (spf (.b (!a4)) x) ?_));obtain rfl := sIn E;refine aB (aL rfl ⟨rfl, rfl, rfl, trivial⟩ rfl)
   ·refine tm (.b U) ?_;obtain ⟨a6, I, h⟩ := bns h;refine aY 6 [1, 3, 4] 43 a6 ?_ ?_
    ·refine bch I (fun p I => ?_) (fun p I => ?_)
     ·refine tp p (tp p (tp p (tp p (tp p (to (spt (.b true) p) ?_)))));obtain rfl := sIn I;refine aB (aL rfl ⟨rfl, rfl, rfl, trivial⟩ rfl)
     ·refine tkl 1 p rfl rfl pG rfl aT (tkl 1 p rfl rfl kU rfl aT (tk p (scm rfl rfl rfl) (to (spf (.b (decide (x5.One = x5.Two))) p) ?_)));obtain rfl := sIn I;refine aB (aL rfl ⟨rfl, rfl, rfl, trivial⟩ rfl)
    ·refine aB ?_;refine tih h (fun a7 h => ?_) (fun a7 h => ?_)
     ·refine aC (aA (ta (.b false) (aB ?_)));obtain rfl := sIn h;refine bO (bH (bJ (l := [2]) ⟨rfl, trivial⟩)) ?_;exact aX ⟨rfl, _, .one _, rfl, rfl⟩
     ·refine aV (aC (aA (ta (.i 0) (aB ?_))));refine uP ?_;refine bR (S := Int) [1, 3, 4] (fun M => [(5, .i M)]) (fun M => [.box b1 0 (aO a), .box b7 0 (bF x5)]) (fun k M => fU (fT a k3) o a x5 k M) (fun _ => rfl) (0) h (aP [0, 1] rfl rfl (aI rfl (aM ⟨rfl, rfl, rfl, trivial⟩))) ?_;rintro c5 q h;simp only [fU] at h;refine aC (aC (aA (tm (.i q) (tm (.i o) (to (scm rfl rfl rfl) (aB ?_))))));refine tih h (fun a8 h => ?_) (fun a8 h => ?_)
      ·refine aV (aC (bA (aC (aA (tfl 0 rfl rfl iT rfl mK (tm (.i q) ?_))))));obtain ⟨F, a9, h⟩ := bns h;refine to (six rfl rfl lQ.of (aW bF a9)) (to (pL (bF F) rfl wH) ?_);refine bB rfl (cM (zs := [.lit (.int .i64 0), .lit (.int .i64 0), .lit (.int .i64 0)]) (aD rfl) Try.zeroValue63 rfl rfl) ?_;rintro _ ⟨c6, rfl⟩;refine to (sst 2 rfl rfl Try.sizeOf63 (bF F)) (aB (aC (aA (tfl 2 rfl rfl vN rfl aT (tfl 1 rfl rfl vN rfl aT (to (scm rfl rfl rfl) (tm (.b (decide (F.Player = x5.Player))) ?_)))))));obtain ⟨V, J, h⟩ := bns h;refine aY 6 [1, 3, 4, 5, 6] 65 V ?_ ?_
       ·refine bch J (fun s J => ?_) (fun s J => ?_)
        ·refine tp s (tp s (tp s (tp s (tp s (to (spt (.b true) s) ?_)))));obtain rfl := sIn J;refine aB (aL rfl ⟨rfl, rfl, rfl, rfl, rfl, trivial⟩ rfl)
        ·refine tkl 2 s rfl rfl pG rfl aT (tkl 1 s rfl rfl pG rfl aT (tk s (scm rfl rfl rfl) (to (spf (.b (decide (F.One = x5.One))) s) ?_)));obtain rfl := sIn J;refine aB (aL rfl ⟨rfl, rfl, rfl, rfl, rfl, trivial⟩ rfl)
       ·refine tm (.b V) ?_;obtain ⟨W, K, h⟩ := bns h;refine aY 6 [1, 3, 4, 5, 6] 72 W ?_ ?_
        ·refine bch K (fun t K => ?_) (fun t K => ?_)
         ·refine tp t (tp t (tp t (tp t (tp t (to (spt (.b true) t) ?_)))));obtain rfl := sIn K;refine aB (aL rfl ⟨rfl, rfl, rfl, rfl, rfl, trivial⟩ rfl)
         ·refine tkl 2 t rfl rfl kU rfl aT (tkl 1 t rfl rfl pG rfl aT (tk t (scm rfl rfl rfl) (to (spf (.b (decide (F.Two = x5.One))) t) ?_)));obtain rfl := sIn K;refine aB (aL rfl ⟨rfl, rfl, rfl, rfl, rfl, trivial⟩ rfl)
        ·refine tm (.b W) ?_;obtain ⟨b0, G, h⟩ := bns h;refine aY 18 [1, 3, 4, 5] 91 b0 ?_ ?_
         ·refine bch G (fun n G => ?_) (fun n G => ?_)
          ·refine tp n (tp n (tp n (tp n (tq (tq (tq (tq (tq (tq (tq (tq (tq (tq ?_)))))))))))));refine tq (tq (tp n (to (spt (.b true) n) ?_)));obtain rfl := sIn G;refine aB (aL rfl ⟨rfl, rfl, rfl, rfl, trivial⟩ rfl)
          ·refine tkl 1 n rfl rfl kU rfl aT (tk n (scm rfl rfl rfl) (tk n (sm (.b (decide (0 ≤ x5.Two)))) ?_));obtain ⟨X, H, G⟩ := bns G;refine aY 13 [1, 3, 4, 5, 73, 74, 75, 76, 77] 90 X ?_ ?_
           ·refine bch H (fun m H => ?_) (fun m H => ?_)
            ·refine tkl 2 m rfl rfl pG rfl aT (tkl 1 m rfl rfl kU rfl aT (tk m (scm rfl rfl rfl) (tk m (sm (.b (decide (F.One = x5.Two)))) ?_)));obtain ⟨Y, L, H⟩ := bns H;refine aY 6 [1, 3, 4, 5, 73, 74, 75, 76, 77, 78, 79, 80, 81, 82, 83] 89 Y ?_ ?_
             ·refine bch L (fun u L => ?_) (fun u L => ?_)
              ·refine tp u (tp u (tp u (tp u (tp u (tk m (spt (.b true) u) ?_)))));obtain rfl := sIn L;refine aB (aL rfl ⟨rfl, rfl, rfl, rfl, rfl, rfl, rfl, rfl, rfl, rfl, rfl, rfl, rfl, rfl, rfl, trivial⟩ rfl)
              ·refine tkl 2 u rfl rfl kU rfl aT (tkl 1 u rfl rfl kU rfl aT (tk u (scm rfl rfl rfl) (tk m (spf (.b (decide (F.Two = x5.Two))) u) ?_)));obtain rfl := sIn L;refine aB (aL rfl ⟨rfl, rfl, rfl, rfl, rfl, rfl, rfl, rfl, rfl, rfl, rfl, rfl, rfl, rfl, rfl, trivial⟩ rfl)
             ·refine tk n (spt (.b Y) m) ?_;obtain rfl := sIn H;refine aB (aL rfl ⟨rfl, rfl, rfl, rfl, rfl, rfl, rfl, rfl, rfl, trivial⟩ rfl)
            ·refine tp m (tp m (tp m (tp m (tp m (tp m (tq (tq (tq (tq (tq (tp m (tk n (spf (.b false) m) ?_))))))))))));obtain rfl := sIn H;refine aB (aL rfl ⟨rfl, rfl, rfl, rfl, rfl, rfl, rfl, rfl, rfl, trivial⟩ rfl)
           ·refine to (spf (.b X) n) ?_;obtain rfl := sIn G;refine aB (aL rfl ⟨rfl, rfl, rfl, rfl, trivial⟩ rfl)
         ·refine aB ?_;refine tih h (fun b2 h => ?_) (fun b2 h => ?_)
          ·refine aC (aA (ta (.b false) (aB ?_)));obtain rfl := sIn h;refine bO (bH (bJ (l := [2]) ⟨rfl, trivial⟩)) ?_;exact aX ⟨rfl, _, .one _, rfl, rfl⟩
          ·refine cR ?_;refine aA (tm (.i q) (to (sar rfl rfl rfl) (ta (.i (w64 (q + 1))) (aB ?_))));exact ⟨(w64 (q + 1)), h, aP [0, 1] rfl rfl (aI rfl (aM ⟨rfl, rfl, rfl, trivial⟩))⟩
      ·refine bT ?_;refine .inl ⟨rfl, ?_⟩;simp only [qO] at h;simp only [qN] at h;refine aA (tm (.i o) (to (sar rfl rfl rfl) (ta (.i (w64 (o + 1))) (aB ?_))));exact ⟨(w64 (o + 1)), h, aP [0] rfl rfl (aI rfl (aM ⟨rfl, trivial⟩))⟩
 ·refine bT ?_;refine .inl ⟨rfl, ?_⟩;simp only [kI] at h;refine aC (aC (aA (ta (.i 0) (aB (bA ?_)))));refine bR (S := Int) [1] (fun N => [(7, .i N)]) (fun N => [.box b1 0 (aO a)]) (fun k N => gV a k N) (fun _ => rfl) (0) h (aP [0] rfl rfl (aI rfl (aM ⟨rfl, trivial⟩))) ?_;rintro c7 e h;simp only [gV] at h;refine aC (aC (aA (tm (.i e) (to (sf rfl jL) (tfl 0 rfl rfl dX rfl cN (to (sle rfl bG.of) (to (scm rfl rfl rfl) (aB ?_))))))));refine tih h (fun b3 h => ?_) (fun b3 h => ?_)
  ·refine aV (aC (bA (aC ?_)));obtain ⟨y, Z, h⟩ := bns h;obtain ⟨b4, z, h⟩ := bns h;refine cW mix 18 [1, 7] [(117, .b b4)] ?_ ?_
   ·refine bch z (fun f z => ?_) (fun f z => ?_)
    ·obtain ⟨a0, b5, z⟩ := bns z;obtain ⟨O, b6, z⟩ := bns z;obtain rfl := sIn z;refine ⟨[(100, 0, .bp b1 0 0), (101, 1, .bp b1 0 1), (102, 2, .d (.sl 1 (a.Tree.Slots.map aK))), (103, 3, .i e), (104, 4, .cp [.lit (.int .i64 y)]), (105, 5, .i y), (106, 6, .b (!decide (y = (-1)))), (107, 7, .b (!decide (y = (-1)))), (108, 8, .agg (aO a)), (109, 9, .bp b1 0 0), (110, 10, .bp b1 0 1), (111, 11, .d (.sl 1 (a.Tree.Slots.map aK))), (112, 12, .i e), (113, 13, .cp [.lit (.int .i64 a0)]), (114, 14, .i a0), (115, 15, .b O), (116, 16, .b (!O)), (117, 17, .b (!O))], ?_, ?_⟩
     · exact dok [([], []), ([0], []), ([1], []), ([], []), ([2, 3], []), ([4], []), ([5], []), ([6], []), ([7], []), ([7], []), ([7, 9], []), ([7, 10], []), ([7], []), ([7, 11, 12], []), ([7, 13], []), ([7, 8, 14], []), ([7, 15], []), ([7, 16], [])] ⟨go (zf rfl jL),
      go (zf rfl dX),
      go (zl 0 rfl rfl rfl cN),
      go (zm (.i e)),
      go (zix rfl rfl bG.of (aW aK Z)),
      go (zlc rfl aT),
      go (zcm rfl rfl rfl),
      go (zm (.b (!decide (y = (-1))))),
      gt f (zla 0 (aO a) rfl rfl eG),
      gt f (zf rfl jL),
      gt f (zf rfl dX),
      gt f (zl 0 rfl rfl rfl cN),
      gt f (zm (.i e)),
      gt f (zix rfl rfl bG.of (aW aK b5)),
      gt f (zlc rfl aT),
      gt f fun S hS => gF (aD rfl) (.func _ _ Try.call41) (ev2 (aU hS rfl) (ev2 (aU hS rfl) evn)) rfl (BVs.refl _ _) (wN _ _ b6) rfl,
      gt f (zn rfl),
      go (zpt (.b (!O)) f), trivial⟩
     · exact cL (aI rfl (aM ⟨rfl, rfl, trivial⟩))
    ·obtain rfl := sIn z;refine ⟨[(100, 0, .bp b1 0 0), (101, 1, .bp b1 0 1), (102, 2, .d (.sl 1 (a.Tree.Slots.map aK))), (103, 3, .i e), (104, 4, .cp [.lit (.int .i64 y)]), (105, 5, .i y), (106, 6, .b (!decide (y = (-1)))), (107, 7, .b (!decide (y = (-1)))), (108, 8, .tup []), (109, 9, .tup []), (110, 10, .tup []), (111, 11, .tup []), (112, 12, .tup []), (113, 13, .tup []), (114, 14, .tup []), (115, 15, .tup []), (116, 16, .tup []), (117, 17, .b false)], ?_, ?_⟩
     · exact dok [([], []), ([0], []), ([1], []), ([], []), ([2, 3], []), ([4], []), ([5], []), ([6], []), ([7], []), ([7], []), ([7, 9], []), ([7, 10], []), ([7], []), ([7, 11, 12], []), ([7, 13], []), ([7, 8, 14], []), ([7, 15], []), ([7, 16], [])] ⟨go (zf rfl jL),
      go (zf rfl dX),
      go (zl 0 rfl rfl rfl cN),
      go (zm (.i e)),
      go (zix rfl rfl bG.of (aW aK Z)),
      go (zlc rfl aT),
      go (zcm rfl rfl rfl),
      go (zm (.b (!decide (y = (-1))))),
      gp f,
      gp f,
      gp f,
      gp f,
      gp f,
      gp f,
      gp f,
      gp f,
      gp f,
      go (zpf (.b false) f), trivial⟩
     · exact cL (aI rfl (aM ⟨rfl, rfl, trivial⟩))
   ·refine aB ?_;refine tih h (fun b8 h => ?_) (fun b8 h => ?_)
    ·refine aC (aA (ta (.b false) (aB ?_)));obtain rfl := sIn h;refine bO (bH (bJ (l := [2]) ⟨rfl, trivial⟩)) ?_;exact aX ⟨rfl, _, .one _, rfl, rfl⟩
    ·refine cR ?_;refine aA (tm (.i e) (to (sar rfl rfl rfl) (ta (.i (w64 (e + 1))) (aB ?_))));exact ⟨(w64 (e + 1)), h, aP [0] rfl rfl (aI rfl (aM ⟨rfl, trivial⟩))⟩
  ·refine bT ?_;refine .inl ⟨rfl, ?_⟩;simp only [kJ] at h;refine aC (aC (aA (ta (.i 0) (aB (bA ?_)))));refine bR (S := Int) [1] (fun P => [(8, .i P)]) (fun P => [.box b1 0 (aO a)]) (fun k P => gW a k P) (fun _ => rfl) (0) h (aP [0] rfl rfl (aI rfl (aM ⟨rfl, trivial⟩))) ?_;rintro c8 g h;simp only [gW] at h;refine aC (aC (aA (tm (.i g) (tfl 0 rfl rfl jM rfl qA (to (sle rfl fN.of) (to (scm rfl rfl rfl) (aB ?_)))))));refine tih h (fun b9 h => ?_) (fun b9 h => ?_)
   ·refine aV (aC (bA (aC ?_)));obtain ⟨c, a1, h⟩ := bns h;obtain ⟨c0, A, h⟩ := bns h;refine cW mix 18 [1, 8] [(142, .b c0)] ?_ ?_
    ·refine bch A (fun j A => ?_) (fun j A => ?_)
     ·obtain ⟨B, c1, A⟩ := bns A;obtain ⟨Q, c2, A⟩ := bns A;obtain rfl := sIn A;refine ⟨[(125, 0, .bp b1 0 2), (126, 1, .d (.sl 5 (a.Slips.map aJ))), (127, 2, .i g), (128, 3, .cp [.lit (.int .i64 c.Kind), .lit (.int .i64 c.Round), .lit (.int .i64 c.Place), .lit (.int .i64 c.Player), .lit (.int .i64 c.Old)]), (129, 4, .cp [.lit (.int .i64 c.Kind)]), (130, 5, .i c.Kind), (131, 6, .b (decide (c.Kind = 5))), (132, 7, .b (decide (c.Kind = 5))), (133, 8, .agg (aO a)), (134, 9, .bp b1 0 2), (135, 10, .d (.sl 5 (a.Slips.map aJ))), (136, 11, .i g), (137, 12, .cp [.lit (.int .i64 B.Kind), .lit (.int .i64 B.Round), .lit (.int .i64 B.Place), .lit (.int .i64 B.Player), .lit (.int .i64 B.Old)]), (138, 13, .cp [.lit (.int .i64 B.Player)]), (139, 14, .i B.Player), (140, 15, .b Q), (141, 16, .b (!Q)), (142, 17, .b (!Q))], ?_, ?_⟩
      · exact dok [([], []), ([0], []), ([], []), ([1, 2], []), ([3], []), ([4], []), ([5], []), ([6], []), ([7], []), ([7], []), ([7, 9], []), ([7], []), ([7, 10, 11], []), ([7, 12], []), ([7, 13], []), ([7, 8, 14], []), ([7, 15], []), ([7, 16], [])] ⟨go (zf rfl jM),
      go (zl 0 rfl rfl rfl qA),
      go (zm (.i g)),
      go (zix rfl rfl fN.of (aW aJ a1)),
      go (zfc [.lit (.int .i64 c.Kind)] rfl mU),
      go (zlc rfl aT),
      go (zcm rfl rfl rfl),
      go (zm (.b (decide (c.Kind = 5)))),
      gt j (zla 0 (aO a) rfl rfl eG),
      gt j (zf rfl jM),
      gt j (zl 0 rfl rfl rfl qA),
      gt j (zm (.i g)),
      gt j (zix rfl rfl fN.of (aW aJ c1)),
      gt j (zfc [.lit (.int .i64 B.Player)] rfl nY),
      gt j (zlc rfl aT),
      gt j fun S hS => gF (aD rfl) (.func _ _ Try.call41) (ev2 (aU hS rfl) (ev2 (aU hS rfl) evn)) rfl (BVs.refl _ _) (wN _ _ c2) rfl,
      gt j (zn rfl),
      go (zpt (.b (!Q)) j), trivial⟩
      · exact cL (aI rfl (aM ⟨rfl, rfl, trivial⟩))
     ·obtain rfl := sIn A;refine ⟨[(125, 0, .bp b1 0 2), (126, 1, .d (.sl 5 (a.Slips.map aJ))), (127, 2, .i g), (128, 3, .cp [.lit (.int .i64 c.Kind), .lit (.int .i64 c.Round), .lit (.int .i64 c.Place), .lit (.int .i64 c.Player), .lit (.int .i64 c.Old)]), (129, 4, .cp [.lit (.int .i64 c.Kind)]), (130, 5, .i c.Kind), (131, 6, .b (decide (c.Kind = 5))), (132, 7, .b (decide (c.Kind = 5))), (133, 8, .tup []), (134, 9, .tup []), (135, 10, .tup []), (136, 11, .tup []), (137, 12, .tup []), (138, 13, .tup []), (139, 14, .tup []), (140, 15, .tup []), (141, 16, .tup []), (142, 17, .b false)], ?_, ?_⟩
      · exact dok [([], []), ([0], []), ([], []), ([1, 2], []), ([3], []), ([4], []), ([5], []), ([6], []), ([7], []), ([7], []), ([7, 9], []), ([7], []), ([7, 10, 11], []), ([7, 12], []), ([7, 13], []), ([7, 8, 14], []), ([7, 15], []), ([7, 16], [])] ⟨go (zf rfl jM),
      go (zl 0 rfl rfl rfl qA),
      go (zm (.i g)),
      go (zix rfl rfl fN.of (aW aJ a1)),
      go (zfc [.lit (.int .i64 c.Kind)] rfl mU),
      go (zlc rfl aT),
      go (zcm rfl rfl rfl),
      go (zm (.b (decide (c.Kind = 5)))),
      gp j,
      gp j,
      gp j,
      gp j,
      gp j,
      gp j,
      gp j,
      gp j,
      gp j,
      go (zpf (.b false) j), trivial⟩
      · exact cL (aI rfl (aM ⟨rfl, rfl, trivial⟩))
    ·refine aB ?_;refine tih h (fun c3 h => ?_) (fun c3 h => ?_)
     ·refine aC (aA (ta (.b false) (aB ?_)));obtain rfl := sIn h;refine bO (bH (bJ (l := [2]) ⟨rfl, trivial⟩)) ?_;exact aX ⟨rfl, _, .one _, rfl, rfl⟩
     ·refine cR ?_;refine aA (tm (.i g) (to (sar rfl rfl rfl) (ta (.i (w64 (g + 1))) (aB ?_))));exact ⟨(w64 (g + 1)), h, aP [0] rfl rfl (aI rfl (aM ⟨rfl, trivial⟩))⟩
   ·refine bT ?_;refine .inl ⟨rfl, ?_⟩;simp only [nD] at h;refine aC (aA (tfl 0 rfl rfl iT rfl mK (to (sle rfl lQ.of) (to (scm rfl rfl rfl) (ta (.b (decide ((a.Teams.length : Int) ≤ 64))) (aB ?_))))));obtain rfl := sIn h;refine bO (bH (bJ (l := [2]) ⟨rfl, trivial⟩)) ?_;exact aX ⟨rfl, _, .one _, rfl, rfl⟩

theorem aHx (g : aN) (c : Int) {r : bM × Bool × Bool} (h : pX g c = some r) : Fn Try.prog 24 [.agg (aO g), .i c] (.tup [.agg (bF r.1), .b r.2.1, .b r.2.2]) := by
 unfold pX at h;refine jQ Try.func24 rfl (rs := [.cell 4 63, .tmp 5, .tmp 6]) Try.results24 Try.ntmps24 (Nat.le_of_ble_eq_true rfl) ?_;refine aC (aA ?_);refine bB rfl (eP (v := .agg (aO g)) (aD rfl) rfl rfl rfl) ?_;rintro _ ⟨b1, rfl⟩;refine bB rfl (cM (zs := [.lit (.int .i64 0), .lit (.int .i64 0), .lit (.int .i64 0)]) (aD rfl) Try.zeroValue63 rfl rfl) ?_;rintro _ ⟨b2, rfl⟩;refine ta (.b false) (ta (.b false) (aB (aC (aC (aA (ta (.i 0) (aB (bA ?_))))))));refine bR (S := Int × bM) [1, 2, 4] (fun s3 => [(7, .i s3.1)]) (fun s3 => [.box b1 0 (aO g), .box b2 0 (bF s3.2)]) (fun k s3 => jK c g k s3.1 s3.2) (fun _ => rfl) (0, (bM.mk 0 0 0)) h (aP [0, 1] rfl rfl (aI rfl (aM ⟨rfl, rfl, rfl, trivial⟩))) ?_;rintro k4 ⟨f, o⟩ h;simp only [jK] at h;refine aC (aC (aA (tm (.i f) (tfl 0 rfl rfl iT rfl mK (to (sle rfl lQ.of) (to (scm rfl rfl rfl) (aB ?_)))))));refine tih h (fun c5 h => ?_) (fun c5 h => ?_)
 ·refine aV (aC (bA (aC (aA (tfl 0 rfl rfl iT rfl mK (tm (.i f) ?_))))));obtain ⟨x6, h7, h⟩ := bns h;refine to (six rfl rfl lQ.of (aW bF h7)) (to (sfc [.lit (.int .i64 x6.One)] rfl pG) (to (slc rfl aT) (tm (.i c) (to (scm rfl rfl rfl) (tm (.b (decide (x6.One = c))) ?_)))));obtain ⟨b8, h9, h⟩ := bns h;refine aY 13 [1, 2, 4, 7] 36 b8 ?_ ?_
  ·refine bch h9 (fun e h9 => ?_) (fun e h9 => ?_)
   ·refine tp e (tp e (tp e (tp e (tp e (tp e (tp e (tp e (tp e (tq (tq (tp e (to (spt (.b true) e) ?_))))))))))));obtain rfl := sIn h9;refine aB (aL rfl ⟨rfl, rfl, rfl, rfl, trivial⟩ rfl)
   ·refine tkl 0 e rfl rfl iT rfl mK (tk e (sm (.i f)) ?_);obtain ⟨q, t, h9⟩ := bns h9;refine tk e (six rfl rfl lQ.of (aW bF t)) (tk e (sfc [.lit (.int .i64 q.Two)] rfl kU) (tk e (slc rfl aT) (tk e (sm (.i c)) (tk e (scm rfl rfl rfl) (tk e (sm (.b (decide (q.Two = c)))) ?_)))));obtain ⟨s, n, h9⟩ := bns h9;refine aY 3 [1, 2, 4, 7, 23, 24, 25, 26, 27, 28, 29, 30, 31, 32] 35 s ?_ ?_
    ·refine bch n (fun m n => ?_) (fun m n => ?_)
     ·refine tk m (sm (.i c)) (tk m (scm rfl rfl rfl) (tk e (spt (.b (decide (0 ≤ c))) m) ?_));obtain rfl := sIn n;refine aB (aL rfl ⟨rfl, rfl, rfl, rfl, rfl, rfl, rfl, rfl, rfl, rfl, rfl, rfl, rfl, rfl, trivial⟩ rfl)
     ·refine tp m (tp m (tk e (spf (.b false) m) ?_));obtain rfl := sIn n;refine aB (aL rfl ⟨rfl, rfl, rfl, rfl, rfl, rfl, rfl, rfl, rfl, rfl, rfl, rfl, rfl, rfl, trivial⟩ rfl)
    ·refine to (spf (.b s) e) ?_;obtain rfl := sIn h9;refine aB (aL rfl ⟨rfl, rfl, rfl, rfl, trivial⟩ rfl)
  ·refine aB ?_;refine tih h (fun u h => ?_) (fun u h => ?_)
   ·refine aC ?_;obtain ⟨j, w, h⟩ := bns h;obtain ⟨l, x, h⟩ := bns h;refine uF mix 14 [4] (fun a => [(49, .b (decide (l.Two = c)))]) (fun a => [.box b1 0 (aO g), .box b2 0 (bF j)]) ?_ ?_
    ·refine ⟨0, fun a => [(37, 0, .bp b1 0 5), (38, 1, .d (.sl 3 (g.Teams.map bF))), (39, 2, .i f), (40, 3, .cp [.lit (.int .i64 j.Player), .lit (.int .i64 j.One), .lit (.int .i64 j.Two)]), (41, 4, .agg (bF j)), (42, 5, .bp b1 0 5), (43, 6, .d (.sl 3 (g.Teams.map bF))), (44, 7, .i f), (45, 8, .cp [.lit (.int .i64 l.Player), .lit (.int .i64 l.One), .lit (.int .i64 l.Two)]), (46, 9, .cp [.lit (.int .i64 l.Two)]), (47, 10, .i l.Two), (48, 11, .i c), (49, 12, .b (decide (l.Two = c)))], fun a => [([], .box b1 0 (aO g)), ([(13, .box b2 0 (bF j))], .box b2 0 (bF o))], ?_, ?_⟩
     · exact ⟨by kernel_rfl, by kernel_rfl, by kernel_rfl, fun _ => by kernel_rfl, fun _ => by kernel_rfl, fun _ => by kernel_rfl, fun _ => rfl, [([], [13]), ([0], [13]), ([], [13]), ([1, 2], [13]), ([3], [13]), ([], []), ([5], []), ([], []), ([6, 7], []), ([8], []), ([9], []), ([], []), ([10, 11], []), ([4], [])], by kernel_rfl, ⟨fun a S hw hi hS => bX (X := a) rfl (hw a) rfl (cP rfl (sE (aD rfl) (aU hS rfl) iT)),
      fun a S hw hi hS => bX (X := a) rfl (hw a) rfl (cP rfl (uB (aD rfl) (aU hS rfl) (i := 0) (og hS rfl rfl) rfl mK)),
      fun a S hw hi hS => bX (X := a) rfl (hw a) rfl (cP rfl (eF (v := .i f) (aD rfl) (aU hS rfl) rfl)),
      fun a S hw hi hS => bX (X := a) rfl (hw a) rfl (cP rfl (zM (aD rfl) (aU hS rfl) (aU hS rfl) lQ.of (aW bF w))),
      fun a S hw hi hS => bX (X := a) rfl (hw a) rfl (cP rfl (aEk (aD rfl) (aU hS rfl) wH (es := (bF j)) rfl rfl)),
      fun a S hw hi hS => bX (X := a) rfl (hw a) rfl (cP rfl (sE (aD rfl) (aU hS rfl) iT)),
      fun a S hw hi hS => bX (X := a) rfl (hw a) rfl (cP rfl (uB (aD rfl) (aU hS rfl) (i := 0) (og hS rfl rfl) rfl mK)),
      fun a S hw hi hS => bX (X := a) rfl (hw a) rfl (cP rfl (eF (v := .i f) (aD rfl) (aU hS rfl) rfl)),
      fun a S hw hi hS => bX (X := a) rfl (hw a) rfl (cP rfl (zM (aD rfl) (aU hS rfl) (aU hS rfl) lQ.of (aW bF x))),
      fun a S hw hi hS => bX (X := a) rfl (hw a) rfl (cP rfl (aEi (aD rfl) (aU hS rfl) kU (es := [.lit (.int .i64 l.Two)]) rfl)),
      fun a S hw hi hS => bX (X := a) rfl (hw a) rfl (cP rfl (aGy (aD rfl) (aU hS rfl) aT)),
      fun a S hw hi hS => bX (X := a) rfl (hw a) rfl (cP rfl (eF (v := .i c) (aD rfl) (aU hS rfl) rfl)),
      fun a S hw hi hS => bX (X := a) rfl (hw a) rfl (cP rfl (aSl (aD rfl) (aU hS rfl) (aU hS rfl) rfl)),
      fun a S hw hi hS => aCy (X := a) hS rfl rfl rfl (p := 1) rfl rfl (cP rfl (aLh (i := 1) (aU hS rfl) (og hS rfl rfl) (aU hS rfl) rfl rfl Try.sizeOf63 rfl (aD rfl) (Nat.le_of_ble_eq_true rfl) (ds' := (bF j)) rfl)), trivial⟩⟩
     · exact fun a => cL (aI rfl (aM ⟨rfl, trivial⟩))
    ·intro a;refine ta (.b (decide (l.Two = c))) (ta (.b true) (aB ?_));obtain rfl := sIn h;exact aX ⟨rfl, _, [.box b1 0 (aO g), .box b2 0 (bF j)], .three (.cell 4 63 rfl (i := 1) rfl wH (es := (bF j)) rfl rfl) (.tmp 5 (v := .b (decide (l.Two = c))) rfl) (.tmp 6 (v := .b true) rfl), .refl _, .same _⟩
   ·refine cR ?_;refine aA (tm (.i f) (to (sar rfl rfl rfl) (ta (.i (w64 (f + 1))) (aB ?_))));exact ⟨(w64 (f + 1), o), h, aP [0, 1] rfl rfl (aI rfl (aM ⟨rfl, rfl, rfl, trivial⟩))⟩
 ·refine bT ?_;refine .inl ⟨rfl, ?_⟩;simp only [yH] at h;refine aC (aA (to (eE (aD rfl) aHg (zs := [.lit (.int .i64 0), .lit (.int .i64 0), .lit (.int .i64 0)]) rfl rfl rfl rfl (es := [.lit (.int .i64 0), .lit (.int .i64 0), .lit (.int .i64 0)]) rfl) ?_));refine to (sst 1 rfl rfl Try.sizeOf63 (bF (bM.mk 0 0 0))) (ta (.b false) (ta (.b false) (aB ?_)));obtain rfl := sIn h;exact aX ⟨rfl, _, [.box b1 0 (aO g), .box b2 0 (bF (bM.mk 0 0 0))], .three (.cell 4 63 rfl (i := 1) rfl wH (es := (bF (bM.mk 0 0 0))) rfl rfl) (.tmp 5 (v := .b false) rfl) (.tmp 6 (v := .b false) rfl), .refl _, .same _⟩

theorem lH (c : aN) (a : Int) {r : Bool} (h : iB c a = some r) : Fn Try.prog 12 [.agg (aO c), .i a] (.b r) := by
 unfold iB at h;refine Fn.of_tr Try.func12 rfl (rs := [.tmp 4]) Try.results12 Try.ntmps12 (Nat.le_of_ble_eq_true rfl) ?_;refine aC (aA ?_);refine bB rfl (eP (v := .agg (aO c)) (aD rfl) rfl rfl rfl) ?_;rintro _ ⟨b1, rfl⟩;refine ta (.b false) (aB (aC (aA (to (sla 0 (aO c) rfl rfl eG) (tm (.i a) ?_)))));obtain ⟨r2, h3, h⟩ := bns h;refine to (fE (aD rfl) (.func _ _ Try.call24) rfl rfl (aHx _ _ h3)) ?_;refine tm (.tup [.agg (bF r2.1), .b r2.2.1, .b r2.2.2]) (to (sex rfl rfl) (to (sex rfl rfl) (to (sex rfl rfl) ?_)));refine bB rfl (cM (zs := [.lit (.int .i64 0), .lit (.int .i64 0), .lit (.int .i64 0)]) (aD rfl) Try.zeroValue63 rfl rfl) ?_;rintro _ ⟨b4, rfl⟩;refine to (sst 1 rfl rfl Try.sizeOf63 (bF r2.1)) (ta (.b r2.2.1) (ta (.b r2.2.2) (aB (aC (aA (tm (.b r2.2.2) (tm (.b r2.2.2) ?_)))))));obtain ⟨b5, h6, h⟩ := bns h;refine aY 3 [] 19 b5 ?_ ?_
 ·refine bch h6 (fun c7 h6 => ?_) (fun c7 h6 => ?_)
  ·refine tk c7 (sm (.i a)) (tk c7 (scm rfl rfl rfl) (to (spt (.b (decide (0 ≤ a))) c7) ?_));obtain rfl := sIn h6;refine aB (aL rfl trivial rfl)
  ·refine tp c7 (tp c7 (to (spf (.b false) c7) ?_));obtain rfl := sIn h6;refine aB (aL rfl trivial rfl)
 ·refine ta (.b b5) (aB ?_);obtain rfl := sIn h;refine bO (bH (bJ (l := [4]) ⟨rfl, trivial⟩)) ?_;exact aX ⟨rfl, _, .one _, rfl, rfl⟩

theorem aCn (a : aN) {r : Bool} (h : mJ a = some r) : Fn Try.prog 28 [.agg (aO a)] (.b r) := by
 unfold mJ at h;refine Fn.of_tr Try.func28 rfl (rs := [.tmp 2]) Try.results28 Try.ntmps28 (Nat.le_of_ble_eq_true rfl) ?_;refine aC (aA ?_);refine bB rfl (eP (v := .agg (aO a)) (aD rfl) rfl rfl rfl) ?_;rintro _ ⟨b1, rfl⟩;refine ta (.b false) (aB (aC (aC (aA (ta (.i 0) (aB (bA ?_)))))));refine bR (S := Int) [1] (fun s2 => [(3, .i s2)]) (fun s2 => [.box b1 0 (aO a)]) (fun k s2 => dN a k s2) (fun _ => rfl) (0) h (aP [0] rfl rfl (aI rfl (aM ⟨rfl, trivial⟩))) ?_;rintro k3 c h;simp only [dN] at h;refine aC (aC (aA (tm (.i c) (tfl 0 rfl rfl pE rfl uX (to (sle rfl tC.of) (to (scm rfl rfl rfl) (aB ?_)))))));refine tih h (fun c4 h => ?_) (fun c4 h => ?_)
 ·refine aV (aC (bA (aC (aC ?_))));obtain ⟨x5, h6, h⟩ := bns h;obtain ⟨r7, h8, h⟩ := bns h;obtain ⟨b9, o, h⟩ := bns h;refine cW mix 19 [1, 3] [(33, .b b9)] ?_ ?_
  ·refine bch o (fun e o => ?_) (fun e o => ?_)
   ·obtain rfl := sIn o;refine ⟨[(15, 0, .agg (aO a)), (16, 1, .bp b1 0 6), (17, 2, .d (.sl 2 (a.Levies.map cD))), (18, 3, .i c), (19, 4, .cp [.lit (.int .i64 x5.Person), .lit (.int .i64 x5.Mille)]), (20, 5, .cp [.lit (.int .i64 x5.Person)]), (21, 6, .i x5.Person), (22, 7, .b r7), (23, 8, .b (!r7)), (24, 9, .b (!r7)), (25, 10, .tup []), (26, 11, .tup []), (27, 12, .tup []), (28, 13, .tup []), (29, 14, .tup []), (30, 15, .tup []), (31, 16, .tup []), (32, 17, .tup []), (33, 18, .b true)], ?_, ?_⟩
    · exact dok [([], []), ([], []), ([1], []), ([], []), ([2, 3], []), ([4], []), ([5], []), ([0, 6], []), ([7], []), ([8], []), ([9], []), ([9, 10], []), ([9], []), ([9, 11, 12], []), ([9, 13], []), ([9, 14], []), ([9, 15], []), ([9, 16], []), ([9, 17], [])] ⟨go (zla 0 (aO a) rfl rfl eG),
      go (zf rfl pE),
      go (zl 0 rfl rfl rfl uX),
      go (zm (.i c)),
      go (zix rfl rfl tC.of (aW cD h6)),
      go (zfc [.lit (.int .i64 x5.Person)] rfl xL),
      go (zlc rfl aT),
      go fun S hS => gF (aD rfl) (.func _ _ Try.call12) (ev2 (aU hS rfl) (ev2 (aU hS rfl) evn)) rfl (BVs.refl _ _) (lH _ _ h8) rfl,
      go (zn rfl),
      go (zm (.b (!r7))),
      gp e,
      gp e,
      gp e,
      gp e,
      gp e,
      gp e,
      gp e,
      gp e,
      go (zpt (.b true) e), trivial⟩
    · exact cL (aI rfl (aM ⟨rfl, rfl, trivial⟩))
   ·obtain ⟨x, F, o⟩ := bns o;obtain ⟨y, G, o⟩ := bns o;obtain rfl := sIn o;refine ⟨[(15, 0, .agg (aO a)), (16, 1, .bp b1 0 6), (17, 2, .d (.sl 2 (a.Levies.map cD))), (18, 3, .i c), (19, 4, .cp [.lit (.int .i64 x5.Person), .lit (.int .i64 x5.Mille)]), (20, 5, .cp [.lit (.int .i64 x5.Person)]), (21, 6, .i x5.Person), (22, 7, .b r7), (23, 8, .b (!r7)), (24, 9, .b (!r7)), (25, 10, .bp b1 0 6), (26, 11, .d (.sl 2 (a.Levies.map cD))), (27, 12, .i c), (28, 13, .cp [.lit (.int .i64 x.Person), .lit (.int .i64 x.Mille)]), (29, 14, .cp [.lit (.int .i64 x.Mille)]), (30, 15, .i x.Mille), (31, 16, .b y), (32, 17, .b (!y)), (33, 18, .b (!y))], ?_, ?_⟩
    · exact dok [([], []), ([], []), ([1], []), ([], []), ([2, 3], []), ([4], []), ([5], []), ([0, 6], []), ([7], []), ([8], []), ([9], []), ([9, 10], []), ([9], []), ([9, 11, 12], []), ([9, 13], []), ([9, 14], []), ([9, 15], []), ([9, 16], []), ([9, 17], [])] ⟨go (zla 0 (aO a) rfl rfl eG),
      go (zf rfl pE),
      go (zl 0 rfl rfl rfl uX),
      go (zm (.i c)),
      go (zix rfl rfl tC.of (aW cD h6)),
      go (zfc [.lit (.int .i64 x5.Person)] rfl xL),
      go (zlc rfl aT),
      go fun S hS => gF (aD rfl) (.func _ _ Try.call12) (ev2 (aU hS rfl) (ev2 (aU hS rfl) evn)) rfl (BVs.refl _ _) (lH _ _ h8) rfl,
      go (zn rfl),
      go (zm (.b (!r7))),
      gt e (zf rfl pE),
      gt e (zl 0 rfl rfl rfl uX),
      gt e (zm (.i c)),
      gt e (zix rfl rfl tC.of (aW cD F)),
      gt e (zfc [.lit (.int .i64 x.Mille)] rfl aJa),
      gt e (zlc rfl aT),
      gt e fun S hS => gF (aD rfl) (.func _ _ Try.call26) (ev2 (aU hS rfl) (ev2 rfl (ev2 rfl evn))) rfl (BVs.refl _ _) (eD _ _ _ G) rfl,
      gt e (zn rfl),
      go (zpf (.b (!y)) e), trivial⟩
    · exact cL (aI rfl (aM ⟨rfl, rfl, trivial⟩))
  ·refine aB ?_;refine tih h (fun H h => ?_) (fun H h => ?_)
   ·refine aC (aA (ta (.b false) (aB ?_)));obtain rfl := sIn h;refine bO (bH (bJ (l := [2]) ⟨rfl, trivial⟩)) ?_;exact aX ⟨rfl, _, .one _, rfl, rfl⟩
   ·refine aV (aC (aA (ta (.i 0) (aB ?_))));refine uP ?_;refine bR (S := Int) [1, 3] (fun z => [(4, .i z)]) (fun z => [.box b1 0 (aO a)]) (fun k z => fR (dN a k3) c a k z) (fun _ => rfl) (0) h (aP [0] rfl rfl (aI rfl (aM ⟨rfl, rfl, trivial⟩))) ?_;rintro a2 g h;simp only [fR] at h;refine aC (aC (aA (tm (.i g) (tm (.i c) (to (scm rfl rfl rfl) (aB ?_))))));refine tih h (fun I h => ?_) (fun I h => ?_)
    ·refine aV (aC (bA (aC ?_)));obtain ⟨t, J, h⟩ := bns h;obtain ⟨u, K, h⟩ := bns h;refine cW mix 12 [1, 3, 4] [(44, .i t.Person), (50, .i u.Person)] ?_ ?_
     ·refine ⟨[(39, 0, .bp b1 0 6), (40, 1, .d (.sl 2 (a.Levies.map cD))), (41, 2, .i g), (42, 3, .cp [.lit (.int .i64 t.Person), .lit (.int .i64 t.Mille)]), (43, 4, .cp [.lit (.int .i64 t.Person)]), (44, 5, .i t.Person), (45, 6, .bp b1 0 6), (46, 7, .d (.sl 2 (a.Levies.map cD))), (47, 8, .i c), (48, 9, .cp [.lit (.int .i64 u.Person), .lit (.int .i64 u.Mille)]), (49, 10, .cp [.lit (.int .i64 u.Person)]), (50, 11, .i u.Person)], ?_, ?_⟩
      · exact dok [([], []), ([0], []), ([], []), ([1, 2], []), ([3], []), ([4], []), ([], []), ([6], []), ([], []), ([7, 8], []), ([9], []), ([10], [])] ⟨go (zf rfl pE),
      go (zl 0 rfl rfl rfl uX),
      go (zm (.i g)),
      go (zix rfl rfl tC.of (aW cD J)),
      go (zfc [.lit (.int .i64 t.Person)] rfl xL),
      go (zlc rfl aT),
      go (zf rfl pE),
      go (zl 0 rfl rfl rfl uX),
      go (zm (.i c)),
      go (zix rfl rfl tC.of (aW cD K)),
      go (zfc [.lit (.int .i64 u.Person)] rfl xL),
      go (zlc rfl aT), trivial⟩
      · exact cL (aI rfl (aI rfl (aM ⟨rfl, rfl, rfl, trivial⟩)))
     ·refine to (scm rfl rfl rfl) (aB ?_);refine tih h (fun L h => ?_) (fun L h => ?_)
      ·refine aC (aA (ta (.b false) (aB ?_)));obtain rfl := sIn h;refine bO (bH (bJ (l := [2]) ⟨rfl, trivial⟩)) ?_;exact aX ⟨rfl, _, .one _, rfl, rfl⟩
      ·refine cR ?_;refine aA (tm (.i g) (to (sar rfl rfl rfl) (ta (.i (w64 (g + 1))) (aB ?_))));exact ⟨(w64 (g + 1)), h, aP [0] rfl rfl (aI rfl (aM ⟨rfl, rfl, trivial⟩))⟩
    ·refine bT ?_;refine .inl ⟨rfl, ?_⟩;simp only [qJ] at h;simp only [qI] at h;refine aA (tm (.i c) (to (sar rfl rfl rfl) (ta (.i (w64 (c + 1))) (aB ?_))));exact ⟨(w64 (c + 1)), h, aP [0] rfl rfl (aI rfl (aM ⟨rfl, trivial⟩))⟩
 ·refine bT ?_;refine .inl ⟨rfl, ?_⟩;simp only [kH] at h;refine aC (aC (aA (ta (.i 0) (aB (bA ?_)))));refine bR (S := Int) [1] (fun A => [(5, .i A)]) (fun A => [.box b1 0 (aO a)]) (fun k A => dO a k A) (fun _ => rfl) (0) h (aP [0] rfl rfl (aI rfl (aM ⟨rfl, trivial⟩))) ?_;rintro M f h;simp only [dO] at h;refine aC (aC (aA (tm (.i f) (tfl 0 rfl rfl tP rfl aAs (to (sle rfl wZ.of) (to (scm rfl rfl rfl) (aB ?_)))))));refine tih h (fun N h => ?_) (fun N h => ?_)
  ·refine aV (aC (bA (aC (aA (tfl 0 rfl rfl tP rfl aAs (tm (.i f) ?_))))));obtain ⟨w, O, h⟩ := bns h;refine to (six rfl rfl wZ.of (aW cH O)) (to (pL (cH w) rfl aJo) ?_);refine bB rfl (cM (zs := [.lit (.int .i64 0), .lit (.int .i64 0), .lit (.int .i64 0)]) (aD rfl) Try.zeroValue55 rfl rfl) ?_;rintro _ ⟨C, rfl⟩;refine to (sst 1 rfl rfl Try.sizeOf55 (cH w)) (aB (aC (aC (aA (to (sla 0 (aO a) rfl rfl eG) (tfl 1 rfl rfl xK rfl aT ?_))))));obtain ⟨P, Q, h⟩ := bns h;refine to (scr Try.call12 (lH _ _ Q)) (to (sn rfl) (tm (.b (!P)) ?_));obtain ⟨E, p, h⟩ := bns h;refine aY 5 [1, 5, 6] 74 E ?_ ?_
   ·refine bch p (fun m p => ?_) (fun m p => ?_)
    ·refine tp m (tp m (tp m (tp m (to (spt (.b true) m) ?_))));obtain rfl := sIn p;refine aB (aL rfl ⟨rfl, rfl, rfl, trivial⟩ rfl)
    ·refine tkl 1 m rfl rfl aDn rfl aT ?_;obtain ⟨T, U, p⟩ := bns p;refine tk m (scr Try.call26 (eD _ _ _ U)) (tk m (sn rfl) (to (spf (.b (!T)) m) ?_));obtain rfl := sIn p;refine aB (aL rfl ⟨rfl, rfl, rfl, trivial⟩ rfl)
   ·refine tm (.b E) ?_;obtain ⟨V, q, h⟩ := bns h;refine aY 5 [1, 5, 6] 80 V ?_ ?_
    ·refine bch q (fun n q => ?_) (fun n q => ?_)
     ·refine tp n (tp n (tp n (tp n (to (spt (.b true) n) ?_))));obtain rfl := sIn q;refine aB (aL rfl ⟨rfl, rfl, rfl, trivial⟩ rfl)
     ·refine tkl 1 n rfl rfl aIz rfl aT ?_;obtain ⟨W, X, q⟩ := bns q;refine tk n (scr Try.call26 (eD _ _ _ X)) (tk n (sn rfl) (to (spf (.b (!W)) n) ?_));obtain rfl := sIn q;refine aB (aL rfl ⟨rfl, rfl, rfl, trivial⟩ rfl)
    ·refine aB ?_;refine tih h (fun Y h => ?_) (fun Y h => ?_)
     ·refine aC (aA (ta (.b false) (aB ?_)));obtain rfl := sIn h;refine bO (bH (bJ (l := [2]) ⟨rfl, trivial⟩)) ?_;exact aX ⟨rfl, _, .one _, rfl, rfl⟩
     ·refine aV (aC (aA (ta (.i 0) (aB ?_))));refine uP ?_;refine bR (S := Int) [1, 5, 6] (fun B => [(7, .i B)]) (fun B => [.box b1 0 (aO a), .box C 0 (cH w)]) (fun k B => fS (dO a M) f a w k B) (fun _ => rfl) (0) h (aP [0, 1] rfl rfl (aI rfl (aM ⟨rfl, rfl, rfl, trivial⟩))) ?_;rintro a3 j h;simp only [fS] at h;refine aC (aC (aA (tm (.i j) (tm (.i f) (to (scm rfl rfl rfl) (aB ?_))))));refine tih h (fun Z h => ?_) (fun Z h => ?_)
      ·refine aV (aC (bA (aC ?_)));obtain ⟨s, a0, h⟩ := bns h;refine cW mix 8 [1, 5, 6, 7] [(91, .i s.Person), (93, .i w.Person)] ?_ ?_
       ·refine ⟨[(86, 0, .bp b1 0 7), (87, 1, .d (.sl 3 (a.Rates.map cH))), (88, 2, .i j), (89, 3, .cp [.lit (.int .i64 s.Person), .lit (.int .i64 s.Num), .lit (.int .i64 s.Den)]), (90, 4, .cp [.lit (.int .i64 s.Person)]), (91, 5, .i s.Person), (92, 6, .bp C 0 0), (93, 7, .i w.Person)], ?_, ?_⟩
        · exact dok [([], []), ([0], []), ([], []), ([1, 2], []), ([3], []), ([4], []), ([], []), ([6], [])] ⟨go (zf rfl tP),
      go (zl 0 rfl rfl rfl aAs),
      go (zm (.i j)),
      go (zix rfl rfl wZ.of (aW cH a0)),
      go (zfc [.lit (.int .i64 s.Person)] rfl xK),
      go (zlc rfl aT),
      go (zf rfl xK),
      go (zl 1 rfl rfl rfl aT), trivial⟩
        · exact cL (aI rfl (aI rfl (aM ⟨rfl, rfl, rfl, rfl, trivial⟩)))
       ·refine to (scm rfl rfl rfl) (aB ?_);refine tih h (fun a1 h => ?_) (fun a1 h => ?_)
        ·refine aC (aA (ta (.b false) (aB ?_)));obtain rfl := sIn h;refine bO (bH (bJ (l := [2]) ⟨rfl, trivial⟩)) ?_;exact aX ⟨rfl, _, .one _, rfl, rfl⟩
        ·refine cR ?_;refine aA (tm (.i j) (to (sar rfl rfl rfl) (ta (.i (w64 (j + 1))) (aB ?_))));exact ⟨(w64 (j + 1)), h, aP [0, 1] rfl rfl (aI rfl (aM ⟨rfl, rfl, rfl, trivial⟩))⟩
      ·refine bT ?_;refine .inl ⟨rfl, ?_⟩;simp only [qM] at h;simp only [qL] at h;refine aA (tm (.i f) (to (sar rfl rfl rfl) (ta (.i (w64 (f + 1))) (aB ?_))));exact ⟨(w64 (f + 1)), h, aP [0] rfl rfl (aI rfl (aM ⟨rfl, trivial⟩))⟩
  ·refine bT ?_;refine .inl ⟨rfl, ?_⟩;simp only [qK] at h;refine aC (aA (ta (.b true) (aB ?_)));obtain rfl := sIn h;refine bO (bH (bJ (l := [2]) ⟨rfl, trivial⟩)) ?_;exact aX ⟨rfl, _, .one _, rfl, rfl⟩

theorem aCm (j : aN) {r : Bool} (h : mI j = some r) : Fn Try.prog 29 [.agg (aO j)] (.b r) := by
 unfold mI at h;refine Fn.of_tr Try.func29 rfl (rs := [.tmp 2]) Try.results29 Try.ntmps29 (Nat.le_of_ble_eq_true rfl) ?_;refine aC (aA ?_);refine bB rfl (eP (v := .agg (aO j)) (aD rfl) rfl rfl rfl) ?_;rintro _ ⟨b1, rfl⟩;refine ta (.b false) (aB (aC (aC (aA (ta (.i 0) (aB (bA ?_)))))));refine bR (S := Int) [1] (fun s2 => [(3, .i s2)]) (fun s2 => [.box b1 0 (aO j)]) (fun k s2 => dM j k s2) (fun _ => rfl) (0) h (aP [0] rfl rfl (aI rfl (aM ⟨rfl, trivial⟩))) ?_;rintro k3 n h;simp only [dM] at h;refine aC (aC (aA (tm (.i n) (tfl 0 rfl rfl mT rfl sM (to (sle rfl cZ.of) (to (scm rfl rfl rfl) (aB ?_)))))));refine tih h (fun c4 h => ?_) (fun c4 h => ?_)
 ·refine aV (aC (bA (aC (aA (tfl 0 rfl rfl mT rfl sM (tm (.i n) ?_))))));obtain ⟨x5, h6, h⟩ := bns h;refine to (six rfl rfl cZ.of (aW aE h6)) (to (pL (aE x5) rfl gK) ?_);refine bB rfl (cM (zs := [.lit (.int .i64 0), .lit (.int .i64 0), .lit (.int .i64 0), .lit (.int .i64 0)]) (aD rfl) Try.zeroValue79 rfl rfl) ?_;rintro _ ⟨b7, rfl⟩;refine to (sst 1 rfl rfl Try.sizeOf79 (aE x5)) (aB (aC (aC (aA (tfl 1 rfl rfl mV rfl aT ?_)))));obtain ⟨r8, h9, h⟩ := bns h;refine to (scr Try.call26 (eD _ _ _ h9)) (to (sn rfl) (tm (.b (!r8)) ?_));obtain ⟨B, u, h⟩ := bns h;refine aY 6 [1, 3, 4] 28 B ?_ ?_
  ·refine bch u (fun o u => ?_) (fun o u => ?_)
   ·refine tp o (tp o (tp o (tp o (tp o (to (spt (.b true) o) ?_)))));obtain rfl := sIn u;refine aB (aL rfl ⟨rfl, rfl, rfl, trivial⟩ rfl)
   ·refine tk o (sla 0 (aO j) rfl rfl eG) (tkl 1 o rfl rfl aDp rfl aT ?_);obtain ⟨H, I, u⟩ := bns u;refine tk o (scr Try.call12 (lH _ _ I)) (tk o (sn rfl) (to (spf (.b (!H)) o) ?_));obtain rfl := sIn u;refine aB (aL rfl ⟨rfl, rfl, rfl, trivial⟩ rfl)
  ·refine tm (.b B) ?_;obtain ⟨J, q, h⟩ := bns h;refine aY 20 [1, 3, 4] 49 J ?_ ?_
   ·refine bch q (fun e q => ?_) (fun e q => ?_)
    ·refine tp e (tp e (tp e (tp e (tq (tq (tq (tp e (tp e (tq (tq (tq (tq (tq ?_)))))))))))));refine tq (tq (tq (tp e (tp e (to (spt (.b true) e) ?_)))));obtain rfl := sIn q;refine aB (aL rfl ⟨rfl, rfl, rfl, trivial⟩ rfl)
    ·refine tkl 1 e rfl rfl tQ rfl aT (tk e (scm rfl rfl rfl) (tk e (sm (.b (decide (x5.Kind = 1)))) ?_));obtain ⟨C, w, q⟩ := bns q;refine aY 4 [1, 3, 4, 29, 30, 31, 32, 33] 37 C ?_ ?_
     ·refine bch w (fun s w => ?_) (fun s w => ?_)
      ·refine tkl 1 s rfl rfl xM rfl aT ?_;obtain ⟨K, L, w⟩ := bns w;refine tk s (scr Try.call26 (eD _ _ _ L)) (tk e (spt (.b K) s) ?_);obtain rfl := sIn w;refine aB (aL rfl ⟨rfl, rfl, rfl, rfl, rfl, rfl, rfl, rfl, trivial⟩ rfl)
      ·refine tp s (tp s (tp s (tk e (spf (.b false) s) ?_)));obtain rfl := sIn w;refine aB (aL rfl ⟨rfl, rfl, rfl, rfl, rfl, rfl, rfl, rfl, trivial⟩ rfl)
     ·refine tk e (sm (.b C)) ?_;obtain ⟨E, x, q⟩ := bns q;refine aY 9 [1, 3, 4, 29, 30, 31, 32, 33, 37, 38] 47 E ?_ ?_
      ·refine bch x (fun m x => ?_) (fun m x => ?_)
       ·refine tp m (tp m (tp m (tp m (tq (tq (tq (tp m (tk e (spt (.b true) m) ?_))))))));obtain rfl := sIn x;refine aB (aL rfl ⟨rfl, rfl, rfl, rfl, rfl, rfl, rfl, rfl, rfl, rfl, trivial⟩ rfl)
       ·refine tkl 1 m rfl rfl tQ rfl aT (tk m (scm rfl rfl rfl) (tk m (sm (.b (decide (x5.Kind = 2)))) ?_));obtain ⟨F, y, x⟩ := bns x;refine aY 4 [1, 3, 4, 29, 30, 31, 32, 33, 37, 38, 39, 40, 41, 42] 46 F ?_ ?_
        ·refine bch y (fun t y => ?_) (fun t y => ?_)
         ·refine tkl 1 t rfl rfl xM rfl aT ?_;obtain ⟨M, N, y⟩ := bns y;refine tk t (scr Try.call26 (eD _ _ _ N)) (tk m (spt (.b M) t) ?_);obtain rfl := sIn y;refine aB (aL rfl ⟨rfl, rfl, rfl, rfl, rfl, rfl, rfl, rfl, rfl, rfl, rfl, rfl, rfl, rfl, trivial⟩ rfl)
         ·refine tp t (tp t (tp t (tk m (spf (.b false) t) ?_)));obtain rfl := sIn y;refine aB (aL rfl ⟨rfl, rfl, rfl, rfl, rfl, rfl, rfl, rfl, rfl, rfl, rfl, rfl, rfl, rfl, trivial⟩ rfl)
        ·refine tk e (spf (.b F) m) ?_;obtain rfl := sIn x;refine aB (aL rfl ⟨rfl, rfl, rfl, rfl, rfl, rfl, rfl, rfl, rfl, rfl, trivial⟩ rfl)
      ·refine tk e (sn rfl) (to (spf (.b (!E)) e) ?_);obtain rfl := sIn q;refine aB (aL rfl ⟨rfl, rfl, rfl, trivial⟩ rfl)
   ·refine aB ?_;refine tih h (fun O h => ?_) (fun O h => ?_)
    ·refine aC (aA (ta (.b false) (aB ?_)));obtain rfl := sIn h;refine bO (bH (bJ (l := [2]) ⟨rfl, trivial⟩)) ?_;exact aX ⟨rfl, _, .one _, rfl, rfl⟩
    ·refine aV (aC (aA (ta (.i 0) (aB ?_))));refine uP ?_;refine bR (S := Int) [1, 3, 4] (fun A => [(5, .i A)]) (fun A => [.box b1 0 (aO j), .box b7 0 (aE x5)]) (fun k A => fQ (dM j k3) n j x5 k A) (fun _ => rfl) (0) h (aP [0, 1] rfl rfl (aI rfl (aM ⟨rfl, rfl, rfl, trivial⟩))) ?_;rintro V c h;simp only [fQ] at h;refine aC (aC (aA (tm (.i c) (tm (.i n) (to (scm rfl rfl rfl) (aB ?_))))));refine tih h (fun P h => ?_) (fun P h => ?_)
     ·refine aV (aC (bA (aC ?_)));obtain ⟨f, G, h⟩ := bns h;obtain ⟨Q, z, h⟩ := bns h;refine cW mix 18 [1, 3, 4, 5] [(72, .b Q)] ?_ ?_
      ·refine bch z (fun g z => ?_) (fun g z => ?_)
       ·obtain ⟨p, T, z⟩ := bns z;obtain rfl := sIn z;refine ⟨[(55, 0, .bp b1 0 8), (56, 1, .d (.sl 4 (j.Items.map aE))), (57, 2, .i c), (58, 3, .cp [.lit (.int .i64 f.Id), .lit (.int .i64 f.Kind), .lit (.int .i64 f.Person), .lit (.int .i64 f.Amount)]), (59, 4, .cp [.lit (.int .i64 f.Id)]), (60, 5, .i f.Id), (61, 6, .bp b7 0 0), (62, 7, .i x5.Id), (63, 8, .b (decide (f.Id = x5.Id))), (64, 9, .b (decide (f.Id = x5.Id))), (65, 10, .bp b1 0 8), (66, 11, .d (.sl 4 (j.Items.map aE))), (67, 12, .i c), (68, 13, .cp [.lit (.int .i64 p.Id), .lit (.int .i64 p.Kind), .lit (.int .i64 p.Person), .lit (.int .i64 p.Amount)]), (69, 14, .agg (aE p)), (70, 15, .agg (aE x5)), (71, 16, .b (!decide (p = x5))), (72, 17, .b (!decide (p = x5)))], ?_, ?_⟩
        · exact dok [([], []), ([0], []), ([], []), ([1, 2], []), ([3], []), ([4], []), ([], []), ([6], []), ([5, 7], []), ([8], []), ([9], []), ([9, 10], []), ([9], []), ([9, 11, 12], []), ([9, 13], []), ([9], []), ([9, 14, 15], []), ([9, 16], [])] ⟨go (zf rfl mT),
      go (zl 0 rfl rfl rfl sM),
      go (zm (.i c)),
      go (zix rfl rfl cZ.of (aW aE G)),
      go (zfc [.lit (.int .i64 f.Id)] rfl mV),
      go (zlc rfl aT),
      go (zf rfl mV),
      go (zl 1 rfl rfl rfl aT),
      go (zcm rfl rfl rfl),
      go (zm (.b (decide (f.Id = x5.Id)))),
      gt g (zf rfl mT),
      gt g (zl 0 rfl rfl rfl sM),
      gt g (zm (.i c)),
      gt g (zix rfl rfl cZ.of (aW aE T)),
      gt g (aSx (aE p) rfl gK),
      gt g (zla 1 (aE x5) rfl rfl gK),
      gt g fun S hS => aHo (a := p) (b := x5) (aD rfl) (aU hS rfl) (aU hS rfl) rfl rfl Try.eqGuardType79 aJy,
      go (zpt (.b (!decide (p = x5))) g), trivial⟩
        · exact cL (aI rfl (aM ⟨rfl, rfl, rfl, rfl, trivial⟩))
       ·obtain rfl := sIn z;refine ⟨[(55, 0, .bp b1 0 8), (56, 1, .d (.sl 4 (j.Items.map aE))), (57, 2, .i c), (58, 3, .cp [.lit (.int .i64 f.Id), .lit (.int .i64 f.Kind), .lit (.int .i64 f.Person), .lit (.int .i64 f.Amount)]), (59, 4, .cp [.lit (.int .i64 f.Id)]), (60, 5, .i f.Id), (61, 6, .bp b7 0 0), (62, 7, .i x5.Id), (63, 8, .b (decide (f.Id = x5.Id))), (64, 9, .b (decide (f.Id = x5.Id))), (65, 10, .tup []), (66, 11, .tup []), (67, 12, .tup []), (68, 13, .tup []), (69, 14, .tup []), (70, 15, .tup []), (71, 16, .tup []), (72, 17, .b false)], ?_, ?_⟩
        · exact dok [([], []), ([0], []), ([], []), ([1, 2], []), ([3], []), ([4], []), ([], []), ([6], []), ([5, 7], []), ([8], []), ([9], []), ([9, 10], []), ([9], []), ([9, 11, 12], []), ([9, 13], []), ([9], []), ([9, 14, 15], []), ([9, 16], [])] ⟨go (zf rfl mT),
      go (zl 0 rfl rfl rfl sM),
      go (zm (.i c)),
      go (zix rfl rfl cZ.of (aW aE G)),
      go (zfc [.lit (.int .i64 f.Id)] rfl mV),
      go (zlc rfl aT),
      go (zf rfl mV),
      go (zl 1 rfl rfl rfl aT),
      go (zcm rfl rfl rfl),
      go (zm (.b (decide (f.Id = x5.Id)))),
      gp g,
      gp g,
      gp g,
      gp g,
      gp g,
      gp g,
      gp g,
      go (zpf (.b false) g), trivial⟩
        · exact cL (aI rfl (aM ⟨rfl, rfl, rfl, rfl, trivial⟩))
      ·refine aB ?_;refine tih h (fun U h => ?_) (fun U h => ?_)
       ·refine aC (aA (ta (.b false) (aB ?_)));obtain rfl := sIn h;refine bO (bH (bJ (l := [2]) ⟨rfl, trivial⟩)) ?_;exact aX ⟨rfl, _, .one _, rfl, rfl⟩
       ·refine cR ?_;refine aA (tm (.i c) (to (sar rfl rfl rfl) (ta (.i (w64 (c + 1))) (aB ?_))));exact ⟨(w64 (c + 1)), h, aP [0, 1] rfl rfl (aI rfl (aM ⟨rfl, rfl, rfl, trivial⟩))⟩
     ·refine bT ?_;refine .inl ⟨rfl, ?_⟩;simp only [qH] at h;simp only [qG] at h;refine aA (tm (.i n) (to (sar rfl rfl rfl) (ta (.i (w64 (n + 1))) (aB ?_))));exact ⟨(w64 (n + 1)), h, aP [0] rfl rfl (aI rfl (aM ⟨rfl, trivial⟩))⟩
 ·refine bT ?_;refine .inl ⟨rfl, ?_⟩;simp only [nC] at h;refine aC (aA (tfl 0 rfl rfl mT rfl sM (to (sle rfl cZ.of) (to (scm rfl rfl rfl) (ta (.b (decide ((j.Items.length : Int) ≤ 40))) (aB ?_))))));obtain rfl := sIn h;refine bO (bH (bJ (l := [2]) ⟨rfl, trivial⟩)) ?_;exact aX ⟨rfl, _, .one _, rfl, rfl⟩

theorem yG (e : aN) {r : Int} (h : mS e = some r) : Fn Try.prog 14 [.agg (aO e)] (.i r) := by
 unfold mS at h;refine Fn.of_tr Try.func14 rfl (rs := [.tmp 2]) Try.results14 Try.ntmps14 (Nat.le_of_ble_eq_true rfl) ?_;refine aC (aA ?_);refine bB rfl (eP (v := .agg (aO e)) (aD rfl) rfl rfl rfl) ?_;rintro _ ⟨b1, rfl⟩;refine ta (.i 0) (aB (aC (aC (aA (to (sf rfl jL) (to (sla 0 (bD e.Tree) rfl rfl mG) (tfl 0 rfl rfl jM rfl qA ?_)))))));obtain ⟨r2, h3, h⟩ := bns h;refine to (scr Try.call25 (aFp _ _ h3)) (ta (.i r2) (aB (aC (aA (tm (.i r2) (to (scm rfl rfl rfl) (aB ?_)))))));refine tih h (fun c4 h => ?_) (fun c4 h => ?_)
 ·refine aC (aA (tm (.i r2) (ta (.i r2) (aB ?_))));obtain rfl := sIn h;refine bO (bH (bJ (l := [2]) ⟨rfl, trivial⟩)) ?_;exact aX ⟨rfl, _, .one _, rfl, rfl⟩
 ·refine aV (aC (aC (aA (ta (.i 0) (aB (bA ?_))))));refine bR (S := Int) [1] (fun s5 => [(4, .i s5)]) (fun s5 => [.box b1 0 (aO e)]) (fun k s5 => iA e k s5) (fun _ => rfl) (0) h (aP [0] rfl rfl (aI rfl (aM ⟨rfl, trivial⟩))) ?_;rintro k6 a h;simp only [iA] at h;refine aC (aC (aA (tm (.i a) (tfl 0 rfl rfl iG rfl cN (to (sle rfl bG.of) (to (scm rfl rfl rfl) (aB ?_)))))));refine tih h (fun c7 h => ?_) (fun c7 h => ?_)
  ·refine aV (aC (bA (aC ?_)));obtain ⟨x8, h9, h⟩ := bns h;obtain ⟨g, u, h⟩ := bns h;obtain ⟨w, o, h⟩ := bns h;refine cW mix 25 [1, 4] [(44, .b w)] ?_ ?_
   ·refine bch o (fun f o => ?_) (fun f o => ?_)
    ·obtain rfl := sIn o;refine ⟨[(20, 0, .bp b1 0 3), (21, 1, .d (.sl 1 (e.Prizes.map aK))), (22, 2, .i a), (23, 3, .cp [.lit (.int .i64 x8)]), (24, 4, .i x8), (25, 5, .b g), (26, 6, .b (!g)), (27, 7, .b (!g)), (28, 8, .tup []), (29, 9, .tup []), (30, 10, .tup []), (31, 11, .tup []), (32, 12, .tup []), (33, 13, .tup []), (34, 14, .tup []), (35, 15, .tup []), (36, 16, .tup []), (37, 17, .tup []), (38, 18, .tup []), (39, 19, .tup []), (40, 20, .tup []), (41, 21, .tup []), (42, 22, .tup []), (43, 23, .tup []), (44, 24, .b true)], ?_, ?_⟩
     · exact dok [([], []), ([0], []), ([], []), ([1, 2], []), ([3], []), ([4], []), ([5], []), ([6], []), ([7], []), ([7, 8], []), ([7, 9], []), ([10], []), ([10, 11], []), ([10], []), ([10, 12, 13], []), ([10, 14], []), ([10], []), ([10, 16], []), ([10], []), ([10, 18], []), ([10, 17, 19], []), ([10, 20], []), ([10, 15, 21], []), ([7, 10, 22], []), ([7, 23], [])] ⟨go (zf rfl iG),
      go (zl 0 rfl rfl rfl cN),
      go (zm (.i a)),
      go (zix rfl rfl bG.of (aW aK h9)),
      go (zlc rfl aT),
      go fun S hS => gF (aD rfl) (.func _ _ Try.call26) (ev2 (aU hS rfl) (ev2 rfl (ev2 rfl evn))) rfl (BVs.refl _ _) (eD _ _ _ u) rfl,
      go (zn rfl),
      go (zm (.b (!g))),
      gp f,
      gp f,
      gp f,
      gq,
      gq,
      gq,
      gq,
      gq,
      gq,
      gq,
      gq,
      gq,
      gq,
      gq,
      gq,
      gp f,
      go (zpt (.b true) f), trivial⟩
     · exact cL (aI rfl (aM ⟨rfl, rfl, trivial⟩))
    ·obtain ⟨N, m, o⟩ := bns o;refine bch m (fun c m => ?_) (fun c m => ?_)
     ·obtain ⟨p, x, m⟩ := bns m;obtain ⟨q, y, m⟩ := bns m;obtain rfl := sIn m;obtain rfl := sIn o;refine ⟨[(20, 0, .bp b1 0 3), (21, 1, .d (.sl 1 (e.Prizes.map aK))), (22, 2, .i a), (23, 3, .cp [.lit (.int .i64 x8)]), (24, 4, .i x8), (25, 5, .b g), (26, 6, .b (!g)), (27, 7, .b (!g)), (28, 8, .i a), (29, 9, .b (decide (0 < a))), (30, 10, .b (decide (0 < a))), (31, 11, .bp b1 0 3), (32, 12, .d (.sl 1 (e.Prizes.map aK))), (33, 13, .i a), (34, 14, .cp [.lit (.int .i64 p)]), (35, 15, .i p), (36, 16, .bp b1 0 3), (37, 17, .d (.sl 1 (e.Prizes.map aK))), (38, 18, .i a), (39, 19, .i (w64 (a - 1))), (40, 20, .cp [.lit (.int .i64 q)]), (41, 21, .i q), (42, 22, .b (decide (p < q))), (43, 23, .b (decide (p < q))), (44, 24, .b (decide (p < q)))], ?_, ?_⟩
      · exact dok [([], []), ([0], []), ([], []), ([1, 2], []), ([3], []), ([4], []), ([5], []), ([6], []), ([7], []), ([7, 8], []), ([7, 9], []), ([10], []), ([10, 11], []), ([10], []), ([10, 12, 13], []), ([10, 14], []), ([10], []), ([10, 16], []), ([10], []), ([10, 18], []), ([10, 17, 19], []), ([10, 20], []), ([10, 15, 21], []), ([7, 10, 22], []), ([7, 23], [])] ⟨go (zf rfl iG),
      go (zl 0 rfl rfl rfl cN),
      go (zm (.i a)),
      go (zix rfl rfl bG.of (aW aK h9)),
      go (zlc rfl aT),
      go fun S hS => gF (aD rfl) (.func _ _ Try.call26) (ev2 (aU hS rfl) (ev2 rfl (ev2 rfl evn))) rfl (BVs.refl _ _) (eD _ _ _ u) rfl,
      go (zn rfl),
      go (zm (.b (!g))),
      gt f (zm (.i a)),
      gt f (zcm rfl rfl rfl),
      gt f (zm (.b (decide (0 < a)))),
      gt c (zf rfl iG),
      gt c (zl 0 rfl rfl rfl cN),
      gt c (zm (.i a)),
      gt c (zix rfl rfl bG.of (aW aK x)),
      gt c (zlc rfl aT),
      gt c (zf rfl iG),
      gt c (zl 0 rfl rfl rfl cN),
      gt c (zm (.i a)),
      gt c (zar rfl rfl rfl),
      gt c (zix rfl rfl bG.of (aW aK y)),
      gt c (zlc rfl aT),
      gt c (zcm rfl rfl rfl),
      gt f (zpt (.b (decide (p < q))) c),
      go (zpf (.b (decide (p < q))) f), trivial⟩
      · exact cL (aI rfl (aM ⟨rfl, rfl, trivial⟩))
     ·obtain rfl := sIn m;obtain rfl := sIn o;refine ⟨[(20, 0, .bp b1 0 3), (21, 1, .d (.sl 1 (e.Prizes.map aK))), (22, 2, .i a), (23, 3, .cp [.lit (.int .i64 x8)]), (24, 4, .i x8), (25, 5, .b g), (26, 6, .b (!g)), (27, 7, .b (!g)), (28, 8, .i a), (29, 9, .b (decide (0 < a))), (30, 10, .b (decide (0 < a))), (31, 11, .tup []), (32, 12, .tup []), (33, 13, .tup []), (34, 14, .tup []), (35, 15, .tup []), (36, 16, .tup []), (37, 17, .tup []), (38, 18, .tup []), (39, 19, .tup []), (40, 20, .tup []), (41, 21, .tup []), (42, 22, .tup []), (43, 23, .b false), (44, 24, .b (false))], ?_, ?_⟩
      · exact dok [([], []), ([0], []), ([], []), ([1, 2], []), ([3], []), ([4], []), ([5], []), ([6], []), ([7], []), ([7, 8], []), ([7, 9], []), ([10], []), ([10, 11], []), ([10], []), ([10, 12, 13], []), ([10, 14], []), ([10], []), ([10, 16], []), ([10], []), ([10, 18], []), ([10, 17, 19], []), ([10, 20], []), ([10, 15, 21], []), ([7, 10, 22], []), ([7, 23], [])] ⟨go (zf rfl iG),
      go (zl 0 rfl rfl rfl cN),
      go (zm (.i a)),
      go (zix rfl rfl bG.of (aW aK h9)),
      go (zlc rfl aT),
      go fun S hS => gF (aD rfl) (.func _ _ Try.call26) (ev2 (aU hS rfl) (ev2 rfl (ev2 rfl evn))) rfl (BVs.refl _ _) (eD _ _ _ u) rfl,
      go (zn rfl),
      go (zm (.b (!g))),
      gt f (zm (.i a)),
      gt f (zcm rfl rfl rfl),
      gt f (zm (.b (decide (0 < a)))),
      gp c,
      gp c,
      gp c,
      gp c,
      gp c,
      gp c,
      gp c,
      gp c,
      gp c,
      gp c,
      gp c,
      gp c,
      gt f (zpf (.b false) c),
      go (zpf (.b (false)) f), trivial⟩
      · exact cL (aI rfl (aM ⟨rfl, rfl, trivial⟩))
   ·refine aB ?_;refine tih h (fun z h => ?_) (fun z h => ?_)
    ·refine aC (aA (ta (.i 100) (aB ?_)));obtain rfl := sIn h;refine bO (bH (bJ (l := [2]) ⟨rfl, trivial⟩)) ?_;exact aX ⟨rfl, _, .one _, rfl, rfl⟩
    ·refine cR ?_;refine aA (tm (.i a) (to (sar rfl rfl rfl) (ta (.i (w64 (a + 1))) (aB ?_))));exact ⟨(w64 (a + 1)), h, aP [0] rfl rfl (aI rfl (aM ⟨rfl, trivial⟩))⟩
  ·refine bT ?_;refine .inl ⟨rfl, ?_⟩;simp only [pM] at h;refine aC (aC (aA (tfl 0 rfl rfl iG rfl cN (to (sle rfl bG.of) (to (sf rfl jL) (tfl 0 rfl rfl iS rfl aT (to (sar rfl rfl rfl) (to (scm rfl rfl rfl) (tm (.b (!decide ((e.Prizes.length : Int) = (w64 (e.Tree.Rounds + 1))))) ?_)))))))));obtain ⟨A, s, h⟩ := bns h;refine aY 5 [1] 58 A ?_ ?_
   ·refine bch s (fun j s => ?_) (fun j s => ?_)
    ·refine tp j (tp j (tp j (tp j (to (spt (.b true) j) ?_))));obtain rfl := sIn s;refine aB (aL rfl ⟨rfl, trivial⟩ rfl)
    ·refine tkl 0 j rfl rfl aIx rfl aT ?_;obtain ⟨B, C, s⟩ := bns s;refine tk j (scr Try.call26 (eD _ _ _ C)) (tk j (sn rfl) (to (spf (.b (!B)) j) ?_));obtain rfl := sIn s;refine aB (aL rfl ⟨rfl, trivial⟩ rfl)
   ·refine aB ?_;refine tih h (fun E h => ?_) (fun E h => ?_)
    ·refine aC (aA (ta (.i 100) (aB ?_)));obtain rfl := sIn h;refine bO (bH (bJ (l := [2]) ⟨rfl, trivial⟩)) ?_;exact aX ⟨rfl, _, .one _, rfl, rfl⟩
    ·refine aV (aC (aC (aA (to (sla 0 (aO e) rfl rfl eG) ?_))));obtain ⟨F, G, h⟩ := bns h;refine to (scr Try.call27 (aCo _ G)) (to (sn rfl) (tm (.b (!F)) ?_));obtain ⟨H, t, h⟩ := bns h;refine aY 4 [1] 66 H ?_ ?_
     ·refine bch t (fun n t => ?_) (fun n t => ?_)
      ·refine tp n (tp n (tp n (to (spt (.b true) n) ?_)));obtain rfl := sIn t;refine aB (aL rfl ⟨rfl, trivial⟩ rfl)
      ·refine tk n (sla 0 (aO e) rfl rfl eG) ?_;obtain ⟨I, J, t⟩ := bns t;refine tk n (scr Try.call28 (aCn _ J)) (tk n (sn rfl) (to (spf (.b (!I)) n) ?_));obtain rfl := sIn t;refine aB (aL rfl ⟨rfl, trivial⟩ rfl)
     ·refine aB ?_;refine tih h (fun K h => ?_) (fun K h => ?_)
      ·refine aC (aA (ta (.i 101) (aB ?_)));obtain rfl := sIn h;refine bO (bH (bJ (l := [2]) ⟨rfl, trivial⟩)) ?_;exact aX ⟨rfl, _, .one _, rfl, rfl⟩
      ·refine aV (aC (aC (aA (to (sla 0 (aO e) rfl rfl eG) ?_))));obtain ⟨O, L, h⟩ := bns h;refine to (scr Try.call29 (aCm _ L)) (to (sn rfl) (aB ?_));refine tih h (fun M h => ?_) (fun M h => ?_)
       ·refine aC (aA (ta (.i 102) (aB ?_)));obtain rfl := sIn h;refine bO (bH (bJ (l := [2]) ⟨rfl, trivial⟩)) ?_;exact aX ⟨rfl, _, .one _, rfl, rfl⟩
       ·refine aV (aC (aA (ta (.i 0) (aB ?_))));obtain rfl := sIn h;refine bO (bH (bJ (l := [2]) ⟨rfl, trivial⟩)) ?_;exact aX ⟨rfl, _, .one _, rfl, rfl⟩

theorem aFo (a : aN) {r : Bool} (h : mR a = some r) : Fn Try.prog 7 [.agg (aO a)] (.b r) := by
 unfold mR at h;refine Fn.of_tr Try.func7 rfl (rs := [.tmp 2]) Try.results7 Try.ntmps7 (Nat.le_of_ble_eq_true rfl) ?_;refine aC (aA ?_);refine bB rfl (eP (v := .agg (aO a)) (aD rfl) rfl rfl rfl) ?_;rintro _ ⟨b1, rfl⟩;refine ta (.b false) (aB (aC (aA (to (sla 0 (aO a) rfl rfl eG) ?_))));obtain ⟨r2, h3, h⟩ := bns h;refine to (scr Try.call19 (aIv _ h3)) (to (sn rfl) (tm (.b (!r2)) ?_));obtain ⟨b4, h5, h⟩ := bns h;refine aY 4 [] 10 b4 ?_ ?_
 ·refine bch h5 (fun c6 h5 => ?_) (fun c6 h5 => ?_)
  ·refine tk c6 (sla 0 (aO a) rfl rfl eG) ?_;obtain ⟨r7, h8, h5⟩ := bns h5;refine tk c6 (scr Try.call14 (yG _ h8)) (tk c6 (scm rfl rfl rfl) (to (spt (.b (decide (r7 = 0))) c6) ?_));obtain rfl := sIn h5;refine aB (aL rfl trivial rfl)
  ·refine tp c6 (tp c6 (tp c6 (to (spf (.b false) c6) ?_)));obtain rfl := sIn h5;refine aB (aL rfl trivial rfl)
 ·refine ta (.b b4) (aB ?_);obtain rfl := sIn h;refine bO (bH (bJ (l := [2]) ⟨rfl, trivial⟩)) ?_;exact aX ⟨rfl, _, .one _, rfl, rfl⟩

theorem aDf {r : aN} (h : nI = some r) : Fn Try.prog 20 [] (.agg (aO r)) := by
 unfold nI at h;refine jQ Try.func20 rfl (rs := [.cell 0 31]) Try.results20 Try.ntmps20 (Nat.le_of_ble_eq_true rfl) ?_;refine aC (aA ?_);refine bB rfl (cM (zs := [.lit (.int .i64 0), .sl 1 ((([] : List Int)).map aK), .sl 5 ((([] : List aF)).map aJ), .sl 1 ((([] : List Int)).map aK), .lit (.int .i64 0), .sl 3 ((([] : List bM)).map bF), .sl 2 ((([] : List dG)).map cD), .sl 3 ((([] : List cX)).map cH), .sl 4 ((([] : List aH)).map aE)]) (aD rfl) Try.zeroValue31 rfl rfl) ?_;rintro _ ⟨b1, rfl⟩;refine aB (aC (aA (to (fF (aD rfl) bG rfl rfl (rows := ([1, 2, 3, 4]).map aK) rfl (cI (f := aK) fun _ => rfl) rfl (by decide)) ?_)));refine to (eE (aD rfl) aZj (zs := [.lit (.int .i64 0), .sl 1 ((([] : List Int)).map aK)]) rfl rfl rfl rfl (es := [.lit (.int .i64 2), .sl 1 ((([1, 2, 3, 4])).map aK)]) rfl) ?_;refine to (eE (aD rfl) aVa (zs := [.lit (.int .i64 0), .lit (.int .i64 0), .lit (.int .i64 0), .lit (.int .i64 0), .lit (.int .i64 0)]) rfl rfl rfl rfl (es := [.lit (.int .i64 1), .lit (.int .i64 0), .lit (.int .i64 0), .lit (.int .i64 1), .lit (.int .i64 0)]) rfl) ?_;refine to (fF (aD rfl) fN rfl rfl (rows := ([(aF.mk 1 0 0 1 0)]).map aJ) rfl (cI (f := aJ) fun _ => rfl) rfl (by decide)) ?_;refine to (fF (aD rfl) bG rfl rfl (rows := ([100, 300, 1001]).map aK) rfl (cI (f := aK) fun _ => rfl) rfl (by decide)) ?_;refine to (eE (aD rfl) aHg (zs := [.lit (.int .i64 0), .lit (.int .i64 0), .lit (.int .i64 0)]) rfl rfl rfl rfl (es := [.lit (.int .i64 1), .lit (.int .i64 11), .lit (.int .i64 12)]) rfl) ?_;refine to (eE (aD rfl) aHg (zs := [.lit (.int .i64 0), .lit (.int .i64 0), .lit (.int .i64 0)]) rfl rfl rfl rfl (es := [.lit (.int .i64 2), .lit (.int .i64 21), .lit (.int .i64 22)]) rfl) ?_;refine to (eE (aD rfl) aHg (zs := [.lit (.int .i64 0), .lit (.int .i64 0), .lit (.int .i64 0)]) rfl rfl rfl rfl (es := [.lit (.int .i64 3), .lit (.int .i64 31), .lit (.int .i64 (-1))]) rfl) ?_;refine to (eE (aD rfl) aHg (zs := [.lit (.int .i64 0), .lit (.int .i64 0), .lit (.int .i64 0)]) rfl rfl rfl rfl (es := [.lit (.int .i64 4), .lit (.int .i64 41), .lit (.int .i64 (-1))]) rfl) ?_;refine to (fF (aD rfl) lQ rfl rfl (rows := ([(bM.mk 1 11 12), (bM.mk 2 21 22), (bM.mk 3 31 (-1)), (bM.mk 4 41 (-1))]).map bF) rfl (cI (f := bF) fun _ => rfl) rfl (by decide)) ?_;refine to (eE (aD rfl) aZm (zs := [.lit (.int .i64 0), .lit (.int .i64 0)]) rfl rfl rfl rfl (es := [.lit (.int .i64 11), .lit (.int .i64 250)]) rfl) ?_;refine to (fF (aD rfl) tC rfl rfl (rows := ([(dG.mk 11 250)]).map cD) rfl (cI (f := cD) fun _ => rfl) rfl (by decide)) ?_;refine to (eE (aD rfl) aVb (zs := [.lit (.int .i64 0), .lit (.int .i64 0), .lit (.int .i64 0)]) rfl rfl rfl rfl (es := [.lit (.int .i64 21), .lit (.int .i64 3), .lit (.int .i64 2)]) rfl) ?_;refine to (eE (aD rfl) aVb (zs := [.lit (.int .i64 0), .lit (.int .i64 0), .lit (.int .i64 0)]) rfl rfl rfl rfl (es := [.lit (.int .i64 22), .lit (.int .i64 1), .lit (.int .i64 3)]) rfl) ?_;refine to (fF (aD rfl) wZ rfl rfl (rows := ([(cX.mk 21 3 2), (cX.mk 22 1 3)]).map cH) rfl (cI (f := cH) fun _ => rfl) rfl (by decide)) ?_;refine to (eE (aD rfl) aPk (zs := [.lit (.int .i64 0), .lit (.int .i64 0), .lit (.int .i64 0), .lit (.int .i64 0)]) rfl rfl rfl rfl (es := [.lit (.int .i64 1), .lit (.int .i64 1), .lit (.int .i64 21), .lit (.int .i64 30)]) rfl) ?_;refine to (eE (aD rfl) aPk (zs := [.lit (.int .i64 0), .lit (.int .i64 0), .lit (.int .i64 0), .lit (.int .i64 0)]) rfl rfl rfl rfl (es := [.lit (.int .i64 2), .lit (.int .i64 2), .lit (.int .i64 11), .lit (.int .i64 2)]) rfl) ?_;refine to (eE (aD rfl) aPk (zs := [.lit (.int .i64 0), .lit (.int .i64 0), .lit (.int .i64 0), .lit (.int .i64 0)]) rfl rfl rfl rfl (es := [.lit (.int .i64 3), .lit (.int .i64 1), .lit (.int .i64 31), .lit (.int .i64 160)]) rfl) ?_;refine to (fF (aD rfl) cZ rfl rfl (rows := ([(aH.mk 1 1 21 30), (aH.mk 2 2 11 2), (aH.mk 3 1 31 160)]).map aE) rfl (cI (f := aE) fun _ => rfl) rfl (by decide)) ?_;refine to (eE (aD rfl) aZk (zs := [.lit (.int .i64 0), .sl 1 ((([] : List Int)).map aK), .sl 5 ((([] : List aF)).map aJ), .sl 1 ((([] : List Int)).map aK), .lit (.int .i64 0), .sl 3 ((([] : List bM)).map bF), .sl 2 ((([] : List dG)).map cD), .sl 3 ((([] : List cX)).map cH), .sl 4 ((([] : List aH)).map aE)]) rfl rfl rfl rfl (es := [.lit (.int .i64 2), .sl 1 ((([1, 2, 3, 4])).map aK), .sl 5 ((([(aF.mk 1 0 0 1 0)])).map aJ), .sl 1 ((([100, 300, 1001])).map aK), .lit (.int .i64 40), .sl 3 ((([(bM.mk 1 11 12), (bM.mk 2 21 22), (bM.mk 3 31 (-1)), (bM.mk 4 41 (-1))])).map bF), .sl 2 ((([(dG.mk 11 250)])).map cD), .sl 3 ((([(cX.mk 21 3 2), (cX.mk 22 1 3)])).map cH), .sl 4 ((([(aH.mk 1 1 21 30), (aH.mk 2 2 11 2), (aH.mk 3 1 31 160)])).map aE)]) rfl) ?_;refine to (sst 0 rfl rfl Try.sizeOf31 (aO (aN.mk (aR.mk 2 ([1, 2, 3, 4])) ([(aF.mk 1 0 0 1 0)]) ([100, 300, 1001]) 40 ([(bM.mk 1 11 12), (bM.mk 2 21 22), (bM.mk 3 31 (-1)), (bM.mk 4 41 (-1))]) ([(dG.mk 11 250)]) ([(cX.mk 21 3 2), (cX.mk 22 1 3)]) ([(aH.mk 1 1 21 30), (aH.mk 2 2 11 2), (aH.mk 3 1 31 160)])))) (aB ?_);obtain rfl := sIn h;exact aX ⟨rfl, _, [.box b1 0 (aO (aN.mk (aR.mk 2 ([1, 2, 3, 4])) ([(aF.mk 1 0 0 1 0)]) ([100, 300, 1001]) 40 ([(bM.mk 1 11 12), (bM.mk 2 21 22), (bM.mk 3 31 (-1)), (bM.mk 4 41 (-1))]) ([(dG.mk 11 250)]) ([(cX.mk 21 3 2), (cX.mk 22 1 3)]) ([(aH.mk 1 1 21 30), (aH.mk 2 2 11 2), (aH.mk 3 1 31 160)])))], .one (.cell 0 31 rfl (i := 0) rfl eG (es := (aO (aN.mk (aR.mk 2 ([1, 2, 3, 4])) ([(aF.mk 1 0 0 1 0)]) ([100, 300, 1001]) 40 ([(bM.mk 1 11 12), (bM.mk 2 21 22), (bM.mk 3 31 (-1)), (bM.mk 4 41 (-1))]) ([(dG.mk 11 250)]) ([(cX.mk 21 3 2), (cX.mk 22 1 3)]) ([(aH.mk 1 1 21 30), (aH.mk 2 2 11 2), (aH.mk 3 1 31 160)])))) rfl rfl), .refl _, .same _⟩

theorem gB (d : Int) (c : Int) (a : Int) {r : Bool} (h : fW d c a = some r) : Fn Try.prog 73 [.i d, .i c, .i a] (.b r) := by
 unfold fW at h;refine Fn.of_tr Try.func73 rfl (rs := [.tmp 6]) Try.results73 Try.ntmps73 (Nat.le_of_ble_eq_true rfl) ?_;refine aC (aA (ta (.b false) (aB (aC (aA (tm (.i c) (tm (.i d) (to (scm rfl rfl rfl) (tm (.b (decide (c ≤ d))) ?_)))))))));obtain ⟨b1, h2, h⟩ := bns h;refine aY 4 [] 14 b1 ?_ ?_
 ·refine bch h2 (fun c3 h2 => ?_) (fun c3 h2 => ?_)
  ·refine tk c3 (sm (.i d)) (tk c3 (sm (.i a)) (tk c3 (scm rfl rfl rfl) (to (spt (.b (decide (d ≤ a))) c3) ?_)));obtain rfl := sIn h2;refine aB (aL rfl trivial rfl)
  ·refine tp c3 (tp c3 (tp c3 (to (spf (.b false) c3) ?_)));obtain rfl := sIn h2;refine aB (aL rfl trivial rfl)
 ·refine ta (.b b1) (aB ?_);obtain rfl := sIn h;exact aX ⟨rfl, _, .one _, rfl, rfl⟩

theorem aIs (g : aR) {r : Bool} (h : oW g = some r) : Fn Try.prog 46 [.agg (bD g)] (.b r) := by
 unfold oW at h;refine Fn.of_tr Try.func46 rfl (rs := [.tmp 2]) Try.results46 Try.ntmps46 (Nat.le_of_ble_eq_true rfl) ?_;refine aC (aA ?_);refine bB rfl (eP (v := .agg (bD g)) (aD rfl) rfl rfl rfl) ?_;rintro _ ⟨b1, rfl⟩;refine ta (.b false) (aB (aC (aC ?_)));obtain ⟨r2, h3, h⟩ := bns h;obtain ⟨b4, h5, h⟩ := bns h;refine cW mix 13 [1] [(18, .b b4)] ?_ ?_
 ·refine bch h5 (fun c6 h5 => ?_) (fun c6 h5 => ?_)
  ·obtain rfl := sIn h5;refine ⟨[(6, 0, .bp b1 0 0), (7, 1, .i g.Rounds), (8, 2, .b r2), (9, 3, .b (!r2)), (10, 4, .b (!r2)), (11, 5, .tup []), (12, 6, .tup []), (13, 7, .tup []), (14, 8, .tup []), (15, 9, .tup []), (16, 10, .tup []), (17, 11, .tup []), (18, 12, .b true)], ?_, ?_⟩
   · exact dok [([], []), ([0], []), ([1], []), ([2], []), ([3], []), ([4], []), ([4, 5], []), ([4, 6], []), ([4], []), ([4, 8], []), ([4, 9], []), ([4, 7, 10], []), ([4, 11], [])] ⟨go (zf rfl iS),
      go (zl 0 rfl rfl rfl aT),
      go fun S hS => gF (aD rfl) (.func _ _ Try.call73) (ev2 (aU hS rfl) (ev2 rfl (ev2 rfl evn))) rfl (BVs.refl _ _) (gB _ _ _ h3) rfl,
      go (zn rfl),
      go (zm (.b (!r2))),
      gp c6,
      gp c6,
      gp c6,
      gp c6,
      gp c6,
      gp c6,
      gp c6,
      go (zpt (.b true) c6), trivial⟩
   · exact cL (aI rfl (aM ⟨rfl, trivial⟩))
  ·obtain ⟨u7, h8, h5⟩ := bns h5;obtain rfl := sIn h5;refine ⟨[(6, 0, .bp b1 0 0), (7, 1, .i g.Rounds), (8, 2, .b r2), (9, 3, .b (!r2)), (10, 4, .b (!r2)), (11, 5, .bp b1 0 1), (12, 6, .d (.sl 1 (g.Slots.map aK))), (13, 7, .i (g.Slots.length : Int)), (14, 8, .bp b1 0 0), (15, 9, .i g.Rounds), (16, 10, .i (w64 (1 * 2 ^ (min g.Rounds.toNat 64)))), (17, 11, .b (!decide ((g.Slots.length : Int) = (w64 (1 * 2 ^ (min g.Rounds.toNat 64)))))), (18, 12, .b (!decide ((g.Slots.length : Int) = (w64 (1 * 2 ^ (min g.Rounds.toNat 64))))))], ?_, ?_⟩
   · exact dok [([], []), ([0], []), ([1], []), ([2], []), ([3], []), ([4], []), ([4, 5], []), ([4, 6], []), ([4], []), ([4, 8], []), ([4, 9], []), ([4, 7, 10], []), ([4, 11], [])] ⟨go (zf rfl iS),
      go (zl 0 rfl rfl rfl aT),
      go fun S hS => gF (aD rfl) (.func _ _ Try.call73) (ev2 (aU hS rfl) (ev2 rfl (ev2 rfl evn))) rfl (BVs.refl _ _) (gB _ _ _ h3) rfl,
      go (zn rfl),
      go (zm (.b (!r2))),
      gt c6 (zf rfl dX),
      gt c6 (zl 0 rfl rfl rfl cN),
      gt c6 (zle rfl bG.of),
      gt c6 (zf rfl iS),
      gt c6 (zl 0 rfl rfl rfl aT),
      gt c6 fun S hS => aNj (aD rfl) rfl (aU hS rfl) (aBh h8),
      gt c6 (zcm rfl rfl rfl),
      go (zpf (.b (!decide ((g.Slots.length : Int) = (w64 (1 * 2 ^ (min g.Rounds.toNat 64)))))) c6), trivial⟩
   · exact cL (aI rfl (aM ⟨rfl, trivial⟩))
 ·refine aB ?_;refine tih h (fun c9 h => ?_) (fun c9 h => ?_)
  ·refine aC (aA (ta (.b false) (aB ?_)));obtain rfl := sIn h;refine bO (bH (bJ (l := [2]) ⟨rfl, trivial⟩)) ?_;exact aX ⟨rfl, _, .one _, rfl, rfl⟩
  ·refine aV (aC (aA ?_));refine bB rfl (aBs (aD rfl)) ?_;rintro _ ⟨t, rfl⟩;refine ta (.d (.lit (.map (some t)))) (aB (aC (aC (aA (tfl 0 rfl rfl dX rfl cN (to (sle rfl bG.of) (tm (.i 0) (aB (bA ?_)))))))));refine bR (S := Int × (List (Int × Int)) × (List Nat) × Nat) [1, 3, 21, 22] (fun o => [(23, .i o.1)]) (fun o => [.box b1 0 (bD g), .map t (o.2.1.map fun p : Int × Int => ((fun n : Int => Value.int .i64 n) p.1, (fun v : Int => AV.i v) p.2)) o.2.2.1 o.2.2.2]) (fun k o => iX g.Slots (g.Slots.length : Int) g k o.1 o.2.1) (fun _ => rfl) (0, ([] : List (Int × Int)), [], 0) h (aP [0, 1] rfl rfl (aI rfl (aM ⟨rfl, rfl, rfl, rfl, trivial⟩))) ?_;rintro H ⟨f, c, u, s⟩ h;simp only [iX] at h;refine aC (aA (to (scm rfl rfl rfl) (aB (aC ?_))));refine tih h (fun w h => ?_) (fun w h => ?_)
   ·refine aV (aC (bA (aC (aA (tm (.i f) ?_)))));obtain ⟨e, x, h⟩ := bns h;refine to (six rfl rfl bG.of (aW aK x)) (to (slc rfl aT) (ta (.i f) (ta (.i e) (aB (aC (aC (aA (tm (.i e) (to (scm rfl rfl rfl) (aB ?_))))))))));refine tih h (fun y h => ?_) (fun y h => ?_)
    ·refine aC (aC (aA (tfl 0 rfl rfl dX rfl cN (tm (.i f) (to (aUo (aD rfl) rfl rfl (.inr (.inr ⟨rfl, rfl⟩))) ?_)))));obtain ⟨I, A, h⟩ := bns h;refine to (six rfl rfl bG.of (aW aK A)) (to (slc rfl aT) (to (scm rfl rfl rfl) (aB ?_)));refine tih h (fun B h => ?_) (fun B h => ?_)
     ·refine aC (aA (ta (.b false) (aB ?_)));obtain rfl := sIn h;refine bO (bH (bJ (l := [2]) ⟨rfl, trivial⟩)) ?_;exact aX ⟨rfl, _, .one _, rfl, rfl⟩
     ·refine aV ?_;refine bT ?_;refine .inl ⟨rfl, ?_⟩;refine aA (to (sar rfl rfl rfl) (tm (.i (w64 (f + 1))) (aB ?_)));exact ⟨(w64 (f + 1), c, u, s), h, aP [0, 1] rfl rfl (aI rfl (aM ⟨rfl, rfl, rfl, rfl, trivial⟩))⟩
    ·refine aV (aC (aA (tm (.d (.lit (.map (some t)))) (tm (.i e) (to (aEl (av := (fun v : Int => AV.i v)) (l := c) (z := 0) (a := e) (m := 1) (aD rfl) aSc Try.underlying117 Try.zeroValue3 (fun _ _ => .d (.lit _ rfl)) rfl rfl rfl rfl (aFz (kv := (fun n : Int => Value.int .i64 n)) e)) ?_)))));refine to (sar rfl rfl rfl) (to (aCg (av := (fun v : Int => AV.i v)) (l := c) (v := w64 ((cY e 0 c) + 1)) (a := e) (m := 1) aSc Try.underlying117 rfl rfl rfl rfl (aFz (kv := (fun n : Int => Value.int .i64 n)) e) rfl rfl) ?_);refine aB (aC (aA (tm (.d (.lit (.map (some t)))) (tm (.i e) (to (aEl (av := (fun v : Int => AV.i v)) (l := (gN e (w64 ((cY e 0 c) + 1)) c)) (z := 0) (a := e) (m := 1) (aD rfl) aSc Try.underlying117 Try.zeroValue3 (fun _ _ => .d (.lit _ rfl)) rfl rfl rfl rfl (aFz (kv := (fun n : Int => Value.int .i64 n)) e)) ?_)))));refine to (scm rfl rfl rfl) (tm (.b (decide (1 < (cY e 0 (gN e (w64 ((cY e 0 c) + 1)) c))))) ?_);obtain ⟨C, q, h⟩ := bns h;refine aY 4 [1, 3, 21, 22, 23] 49 C ?_ ?_
     ·refine bch q (fun j q => ?_) (fun j q => ?_)
      ·refine tp j (tp j (tp j (to (spt (.b true) j) ?_)));obtain rfl := sIn q;refine aB (aL rfl ⟨rfl, rfl, rfl, rfl, rfl, trivial⟩ rfl)
      ·refine tk j (sm (.i e)) ?_;obtain ⟨E, F, q⟩ := bns q;refine tk j (scr Try.call73 (gB _ _ _ F)) (tk j (sn rfl) (to (spf (.b (!E)) j) ?_));obtain rfl := sIn q;refine aB (aL rfl ⟨rfl, rfl, rfl, rfl, rfl, trivial⟩ rfl)
     ·refine aB ?_;refine tih h (fun G h => ?_) (fun G h => ?_)
      ·refine aC (aA (ta (.b false) (aB ?_)));obtain rfl := sIn h;refine bO (bH (bJ (l := [2]) ⟨rfl, trivial⟩)) ?_;exact aX ⟨rfl, _, .one _, rfl, rfl⟩
      ·refine cR ?_;refine aA (to (sar rfl rfl rfl) (tm (.i (w64 (f + 1))) (aB ?_)));exact ⟨(w64 (f + 1), (gN e (w64 ((cY e 0 c) + 1)) c), (mbs e c u s), (mck e c s)), h, aP [0, 1] rfl rfl (aI rfl (aM ⟨rfl, rfl, rfl, rfl, trivial⟩))⟩
   ·refine bT ?_;refine .inl ⟨rfl, ?_⟩;simp only [uQ] at h;refine aC (aA (ta (.b true) (aB ?_)));obtain rfl := sIn h;refine bO (bH (bJ (l := [2]) ⟨rfl, trivial⟩)) ?_;exact aX ⟨rfl, _, .one _, rfl, rfl⟩

theorem yO (e : List aF) (g : aF → Option Bool) {r : Int} (c : Nat) (f : List AV) (j : ∀ args w, (callFunc c args).run Try.prog w = .ok (.enter c args) w) (l : ∀ (x0 : aF) r, g x0 = some r → Fn Try.prog c ([.agg (aJ x0)] ++ f) (.b r)) (h : jE e g = some r) : Fn Try.prog 74 [.d (.sl 5 (e.map aJ)), .fn c f] (.i r) := by
 unfold jE at h;refine Fn.of_tr Try.func74 rfl (rs := [.tmp 4]) Try.results74 Try.ntmps74 (Nat.le_of_ble_eq_true rfl) ?_;refine aC (aA (ta (.i 0) (aB (aC (aC (aA (tm (.d (.sl 5 (e.map aJ))) (to (sle rfl fN.of) (tm (.i 0) (aB (bA ?_)))))))))));refine bR (S := Int) [0, 1, 7] (fun s1 => [(8, .i s1)]) (fun s1 => []) (fun k s1 => fC e g (e.length : Int) k s1) (fun _ => rfl) (0) h (aP [] rfl rfl (aI rfl (aM ⟨rfl, rfl, rfl, trivial⟩))) ?_;rintro k2 a h;simp only [fC] at h;refine aC (aA (to (scm rfl rfl rfl) (aB (aC ?_))));refine tih h (fun c3 h => ?_) (fun c3 h => ?_)
 ·refine aV (aC (bA (aC (aA (tm (.i a) (ta (.i a) (aB (aC (aA (tm (.fn c f) (tm (.d (.sl 5 (e.map aJ))) (tm (.i a) ?_))))))))))));obtain ⟨x4, h5, h⟩ := bns h;refine to (six rfl rfl fN.of (aW aJ h5)) (to (pL (aJ x4) rfl lB) ?_);obtain ⟨r6, h7, h⟩ := bns h;refine to (gF (aD rfl) (.clo _ _ _ _ j rfl) (aAe rfl) rfl (BVs.refl _ _) (l _ _  h7) rfl) ?_;refine aB ?_;refine tih h (fun c8 h => ?_) (fun c8 h => ?_)
  ·refine aC (aA (tm (.i a) (ta (.i a) (aB ?_))));obtain rfl := sIn h;exact aX ⟨rfl, _, .one _, rfl, rfl⟩
  ·refine cR ?_;refine aA (to (sar rfl rfl rfl) (tm (.i (w64 (a + 1))) (aB ?_)));exact ⟨(w64 (a + 1)), h, aP [] rfl rfl (aI rfl (aM ⟨rfl, rfl, rfl, trivial⟩))⟩
 ·refine bT ?_;refine .inl ⟨rfl, ?_⟩;simp only [mZ] at h;refine aC (aA (ta (.i (-1)) (aB ?_)));obtain rfl := sIn h;exact aX ⟨rfl, _, .one _, rfl, rfl⟩

theorem xA (e : List aF) (i : aF → Option Bool) {r : Bool} (a : Nat) (c : List AV) (f : ∀ args w, (callFunc a args).run Try.prog w = .ok (.enter a args) w) (g : ∀ (x0 : aF) r, i x0 = some r → Fn Try.prog a ([.agg (aJ x0)] ++ c) (.b r)) (h : iH e i = some r) : Fn Try.prog 47 [.d (.sl 5 (e.map aJ)), .fn a c] (.b r) := by
 unfold iH at h;refine Fn.of_tr Try.func47 rfl (rs := [.tmp 4]) Try.results47 Try.ntmps47 (Nat.le_of_ble_eq_true rfl) ?_;refine aC (aA (ta (.b false) (aB (aC (aA (tm (.d (.sl 5 (e.map aJ))) (tm (.fn a c) ?_)))))));obtain ⟨r1, h2, h⟩ := bns h;refine to (scr Try.call74 (yO _ _ a c f g h2)) (to (scm rfl rfl rfl) (ta (.b (decide (0 ≤ r1))) (aB ?_)));obtain rfl := sIn h;exact aX ⟨rfl, _, .one _, rfl, rfl⟩

theorem aFk (c : aG) (a : aR) {r : Bool} (h : pD c a = some r) : Fn Try.prog 75 [.agg (aQ c), .agg (bD a)] (.b r) := by
 unfold pD at h;refine Fn.of_tr Try.func75 rfl (rs := [.tmp 4]) Try.results75 Try.ntmps75 (Nat.le_of_ble_eq_true rfl) ?_;refine aC (aA ?_);refine bB rfl (eP (v := .agg (aQ c)) (aD rfl) rfl rfl rfl) ?_;rintro _ ⟨b1, rfl⟩;refine bB rfl (eP (v := .agg (bD a)) (aD rfl) rfl rfl rfl) ?_;rintro _ ⟨b2, rfl⟩;refine ta (.b false) (aB (aC ?_));obtain ⟨r3, h4, h⟩ := bns h;obtain ⟨b5, h6, h⟩ := bns h;refine cW mix 19 [] [(23, .b b5)] ?_ ?_
 ·refine bch h6 (fun c7 h6 => ?_) (fun c7 h6 => ?_)
  ·obtain ⟨u8, h9, h6⟩ := bns h6;obtain ⟨e, f, h6⟩ := bns h6;obtain rfl := sIn h6;refine ⟨[(5, 0, .bp b1 0 0), (6, 1, .i c.round), (7, 2, .bp b2 0 0), (8, 3, .i a.Rounds), (9, 4, .i (w64 (a.Rounds - 1))), (10, 5, .b r3), (11, 6, .b r3), (12, 7, .bp b1 0 1), (13, 8, .i c.place), (14, 9, .bp b2 0 1), (15, 10, .d (.sl 1 (a.Slots.map aK))), (16, 11, .i (a.Slots.length : Int)), (17, 12, .bp b1 0 0), (18, 13, .i c.round), (19, 14, .i (w64 (c.round + 1))), (20, 15, .i ((a.Slots.length : Int).fdiv (2 ^ (min (w64 (c.round + 1)).toNat 64)))), (21, 16, .i (w64 (((a.Slots.length : Int).fdiv (2 ^ (min (w64 (c.round + 1)).toNat 64))) - 1))), (22, 17, .b e), (23, 18, .b e)], ?_, ?_⟩
   · exact dok [([], []), ([0], []), ([], []), ([2], []), ([3], []), ([1, 4], []), ([5], []), ([6], []), ([6, 7], []), ([6], []), ([6, 9], []), ([6, 10], []), ([6], []), ([6, 12], []), ([6, 13], []), ([6, 11, 14], []), ([6, 15], []), ([6, 8, 16], []), ([6, 17], [])] ⟨go (zf rfl tO),
      go (zl 0 rfl rfl rfl aT),
      go (zf rfl iS),
      go (zl 1 rfl rfl rfl aT),
      go (zar rfl rfl rfl),
      go fun S hS => gF (aD rfl) (.func _ _ Try.call73) (ev2 (aU hS rfl) (ev2 rfl (ev2 (aU hS rfl) evn))) rfl (BVs.refl _ _) (gB _ _ _ h4) rfl,
      go (zm (.b r3)),
      gt c7 (zf rfl aTq),
      gt c7 (zl 0 rfl rfl rfl aT),
      gt c7 (zf rfl dX),
      gt c7 (zl 1 rfl rfl rfl cN),
      gt c7 (zle rfl bG.of),
      gt c7 (zf rfl tO),
      gt c7 (zl 0 rfl rfl rfl aT),
      gt c7 (zar rfl rfl rfl),
      gt c7 fun S hS => zO (aD rfl) (aU hS rfl) (aU hS rfl) (aBh h9),
      gt c7 (zar rfl rfl rfl),
      gt c7 fun S hS => gF (aD rfl) (.func _ _ Try.call73) (ev2 (aU hS rfl) (ev2 rfl (ev2 (aU hS rfl) evn))) rfl (BVs.refl _ _) (gB _ _ _ f) rfl,
      go (zpt (.b e) c7), trivial⟩
   · exact cL (aI rfl (aM trivial))
  ·obtain rfl := sIn h6;refine ⟨[(5, 0, .bp b1 0 0), (6, 1, .i c.round), (7, 2, .bp b2 0 0), (8, 3, .i a.Rounds), (9, 4, .i (w64 (a.Rounds - 1))), (10, 5, .b r3), (11, 6, .b r3), (12, 7, .tup []), (13, 8, .tup []), (14, 9, .tup []), (15, 10, .tup []), (16, 11, .tup []), (17, 12, .tup []), (18, 13, .tup []), (19, 14, .tup []), (20, 15, .tup []), (21, 16, .tup []), (22, 17, .tup []), (23, 18, .b false)], ?_, ?_⟩
   · exact dok [([], []), ([0], []), ([], []), ([2], []), ([3], []), ([1, 4], []), ([5], []), ([6], []), ([6, 7], []), ([6], []), ([6, 9], []), ([6, 10], []), ([6], []), ([6, 12], []), ([6, 13], []), ([6, 11, 14], []), ([6, 15], []), ([6, 8, 16], []), ([6, 17], [])] ⟨go (zf rfl tO),
      go (zl 0 rfl rfl rfl aT),
      go (zf rfl iS),
      go (zl 1 rfl rfl rfl aT),
      go (zar rfl rfl rfl),
      go fun S hS => gF (aD rfl) (.func _ _ Try.call73) (ev2 (aU hS rfl) (ev2 rfl (ev2 (aU hS rfl) evn))) rfl (BVs.refl _ _) (gB _ _ _ h4) rfl,
      go (zm (.b r3)),
      gp c7,
      gp c7,
      gp c7,
      gp c7,
      gp c7,
      gp c7,
      gp c7,
      gp c7,
      gp c7,
      gp c7,
      gp c7,
      go (zpf (.b false) c7), trivial⟩
   · exact cL (aI rfl (aM trivial))
 ·refine ta (.b b5) (aB ?_);obtain rfl := sIn h;refine bO (bH (bJ (l := [4]) ⟨rfl, trivial⟩)) ?_;exact aX ⟨rfl, _, .one _, rfl, rfl⟩

theorem uC (b : List Int) (c : Int) {r : Int} (h : gX b c = some r) : Fn Try.prog 79 [.d (.sl 1 (b.map aK)), .i c] (.i r) := by
 unfold gX at h;refine Fn.of_tr Try.func79 rfl (rs := [.tmp 4]) Try.results79 Try.ntmps79 (Nat.le_of_ble_eq_true rfl) ?_;refine aC (aA (ta (.i 0) (aB (aC (aC (aA (tm (.d (.sl 1 (b.map aK))) (to (sle rfl bG.of) (tm (.i 0) (aB (bA ?_)))))))))));refine bR (S := Int) [0, 1, 7] (fun s1 => [(8, .i s1)]) (fun s1 => []) (fun k s1 => jC b c (b.length : Int) k s1) (fun _ => rfl) (0) h (aP [] rfl rfl (aI rfl (aM ⟨rfl, rfl, rfl, trivial⟩))) ?_;rintro k2 a h;simp only [jC] at h;refine aC (aA (to (scm rfl rfl rfl) (aB (aC ?_))));refine tih h (fun c3 h => ?_) (fun c3 h => ?_)
 ·refine aV (aC (bA (aC (aA (tm (.i a) (ta (.i a) (aB (aC (aA (tm (.i c) (tm (.d (.sl 1 (b.map aK))) (tm (.i a) ?_))))))))))));obtain ⟨x4, h5, h⟩ := bns h;refine to (six rfl rfl bG.of (aW aK h5)) (to (slc rfl aT) (to (scm rfl rfl rfl) (aB ?_)));refine tih h (fun c6 h => ?_) (fun c6 h => ?_)
  ·refine aC (aA (tm (.i a) (ta (.i a) (aB ?_))));obtain rfl := sIn h;exact aX ⟨rfl, _, .one _, rfl, rfl⟩
  ·refine cR ?_;refine aA (to (sar rfl rfl rfl) (tm (.i (w64 (a + 1))) (aB ?_)));exact ⟨(w64 (a + 1)), h, aP [] rfl rfl (aI rfl (aM ⟨rfl, rfl, rfl, trivial⟩))⟩
 ·refine bT ?_;refine .inl ⟨rfl, ?_⟩;simp only [tA] at h;refine aC (aA (ta (.i (-1)) (aB ?_)));obtain rfl := sIn h;exact aX ⟨rfl, _, .one _, rfl, rfl⟩

theorem fA (a : List Int) (c : Int) {r : Bool} (h : dF a c = some r) : Fn Try.prog 54 [.d (.sl 1 (a.map aK)), .i c] (.b r) := by
 unfold dF at h;refine Fn.of_tr Try.func54 rfl (rs := [.tmp 4]) Try.results54 Try.ntmps54 (Nat.le_of_ble_eq_true rfl) ?_;refine aC (aA (ta (.b false) (aB (aC (aA (tm (.d (.sl 1 (a.map aK))) (tm (.i c) ?_)))))));obtain ⟨r1, h2, h⟩ := bns h;refine to (scr Try.call79 (uC _ _ h2)) (to (scm rfl rfl rfl) (ta (.b (decide (0 ≤ r1))) (aB ?_)));obtain rfl := sIn h;exact aX ⟨rfl, _, .one _, rfl, rfl⟩

theorem aIr (n : aR) (d : aF) {r : Bool} (h : rC n d = some r) : Fn Try.prog 49 [.agg (bD n), .agg (aJ d)] (.b r) := by
 unfold rC at h;refine Fn.of_tr Try.func49 rfl (rs := [.tmp 4]) Try.results49 Try.ntmps49 (Nat.le_of_ble_eq_true rfl) ?_;refine aC (aA ?_);refine bB rfl (eP (v := .agg (bD n)) (aD rfl) rfl rfl rfl) ?_;rintro _ ⟨b1, rfl⟩;refine bB rfl (eP (v := .agg (aJ d)) (aD rfl) rfl rfl rfl) ?_;rintro _ ⟨b2, rfl⟩;refine ta (.b false) (aB (aC (aC (aA (tfl 1 rfl rfl nY rfl aT ?_)))));obtain ⟨r3, h4, h⟩ := bns h;refine to (scr Try.call73 (gB _ _ _ h4)) (to (sn rfl) (aB ?_));refine tih h (fun c5 h => ?_) (fun c5 h => ?_)
 ·refine aC (aA (ta (.b false) (aB ?_)));obtain rfl := sIn h;refine bO (bH (bJ (l := [4]) ⟨rfl, trivial⟩)) ?_;exact aX ⟨rfl, _, .one _, rfl, rfl⟩
 ·refine aV (aC (aC (aA (tfl 1 rfl rfl mU rfl aT (to (scm rfl rfl rfl) (aB ?_))))));refine tih h (fun c6 h => ?_) (fun c6 h => ?_)
  ·refine aC (aA (tfl 1 rfl rfl pF rfl aT (to (scm rfl rfl rfl) (tm (.b (decide (d.Round = 0))) ?_))));obtain ⟨b7, h8, h⟩ := bns h;refine aY 8 [3] 24 b7 ?_ ?_
   ·refine bch h8 (fun c h8 => ?_) (fun c h8 => ?_)
    ·refine tkl 1 c rfl rfl kT rfl aT (tkl 0 c rfl rfl dX rfl cN (tk c (sle rfl bG.of) (tk c (sar rfl rfl rfl) ?_)));obtain ⟨q, s, h8⟩ := bns h8;refine tk c (scr Try.call73 (gB _ _ _ s)) (to (spt (.b q) c) ?_);obtain rfl := sIn h8;refine aB (aL rfl ⟨rfl, trivial⟩ rfl)
    ·refine tp c (tp c (tp c (tp c (tp c (tp c (tp c (to (spf (.b false) c) ?_)))))));obtain rfl := sIn h8;refine aB (aL rfl ⟨rfl, trivial⟩ rfl)
   ·refine tm (.b b7) ?_;obtain ⟨b9, j, h⟩ := bns h;refine aY 4 [] 29 b9 ?_ ?_
    ·refine bch j (fun g j => ?_) (fun g j => ?_)
     ·refine tkl 1 g rfl rfl xJ rfl aT ?_;obtain ⟨t, u, j⟩ := bns j;refine tk g (scr Try.call73 (gB _ _ _ u)) (to (spt (.b t) g) ?_);obtain rfl := sIn j;refine aB (aL rfl trivial rfl)
     ·refine tp g (tp g (tp g (to (spf (.b false) g) ?_)));obtain rfl := sIn j;refine aB (aL rfl trivial rfl)
    ·refine ta (.b b9) (aB ?_);obtain rfl := sIn h;refine bO (bH (bJ (l := [4]) ⟨rfl, trivial⟩)) ?_;exact aX ⟨rfl, _, .one _, rfl, rfl⟩
  ·refine aV (aC (aA (tfl 1 rfl rfl pF rfl aT (tfl 1 rfl rfl kT rfl aT (to (eE (aD rfl) aLv (zs := [.lit (.int .i64 0), .lit (.int .i64 0)]) rfl rfl rfl rfl (es := [.lit (.int .i64 d.Round), .lit (.int .i64 d.Place)]) rfl) ?_)))));refine bB rfl (cM (zs := [.lit (.int .i64 0), .lit (.int .i64 0)]) (aD rfl) Try.zeroValue120 rfl rfl) ?_;rintro _ ⟨G, rfl⟩;refine to (sst 2 rfl rfl Try.sizeOf120 (aQ (aG.mk d.Round d.Place))) (aB (aC (aC (aA (tfl 1 rfl rfl mU rfl aT ?_)))));obtain ⟨w, x, h⟩ := bns h;refine to (scr Try.call73 (gB _ _ _ x)) (to (sn rfl) (tm (.b (!w)) ?_));obtain ⟨o, m, h⟩ := bns h;refine aY 4 [2, 3, 5] 43 o ?_ ?_
   ·refine bch m (fun i m => ?_) (fun i m => ?_)
    ·refine tp i (tp i (tp i (to (spt (.b true) i) ?_)));obtain rfl := sIn m;refine aB (aL rfl ⟨rfl, rfl, rfl, trivial⟩ rfl)
    ·refine tkl 1 i rfl rfl xJ rfl aT (tk i (scm rfl rfl rfl) (to (spf (.b (!decide (d.Old = 0))) i) ?_));obtain rfl := sIn m;refine aB (aL rfl ⟨rfl, rfl, rfl, trivial⟩ rfl)
   ·refine tm (.b o) ?_;obtain ⟨y, k, h⟩ := bns h;refine aY 5 [2, 3] 49 y ?_ ?_
    ·refine bch k (fun e k => ?_) (fun e k => ?_)
     ·refine tp e (tp e (tp e (tp e (to (spt (.b true) e) ?_))));obtain rfl := sIn k;refine aB (aL rfl ⟨rfl, rfl, trivial⟩ rfl)
     ·refine tk e (sla 2 (aQ (aG.mk d.Round d.Place)) rfl rfl vW) (tk e (sla 0 (bD n) rfl rfl mG) ?_);obtain ⟨z, A, k⟩ := bns k;refine tk e (scr Try.call75 (aFk _ _ A)) (tk e (sn rfl) (to (spf (.b (!z)) e) ?_));obtain rfl := sIn k;refine aB (aL rfl ⟨rfl, rfl, trivial⟩ rfl)
    ·refine aB ?_;refine tih h (fun B h => ?_) (fun B h => ?_)
     ·refine aC (aA (ta (.b false) (aB ?_)));obtain rfl := sIn h;refine bO (bH (bJ (l := [4]) ⟨rfl, trivial⟩)) ?_;exact aX ⟨rfl, _, .one _, rfl, rfl⟩
     ·refine aV (aC (aA (tfl 1 rfl rfl pF rfl aT (to (scm rfl rfl rfl) (tm (.b (decide (0 < d.Round))) ?_)))));obtain ⟨p, f, h⟩ := bns h;refine aY 13 [] 66 p ?_ ?_
      ·refine bch f (fun a f => ?_) (fun a f => ?_)
       ·refine tp a (tp a (tp a (tp a (tp a (tp a (tp a (tp a (tp a (tp a (tp a (tp a (to (spt (.b true) a) ?_))))))))))));obtain rfl := sIn f;refine aB (aL rfl trivial rfl)
       ·refine tkl 0 a rfl rfl dX rfl cN (tkl 1 a rfl rfl kT rfl aT (tk a (sar rfl rfl rfl) (tkl 1 a rfl rfl kT rfl aT (tk a (sar rfl rfl rfl) (tk a (sar rfl rfl rfl) ?_)))));obtain ⟨H, C, f⟩ := bns f;refine tk a (aSq (aD rfl) bG.of rfl rfl rfl (aYf aK C)) ?_;obtain ⟨E, F, f⟩ := bns f;refine tk a (scr Try.call54 (fA _ _ F)) (tk a (sn rfl) (to (spf (.b (!E)) a) ?_));obtain rfl := sIn f;refine aB (aL rfl trivial rfl)
      ·refine ta (.b p) (aB ?_);obtain rfl := sIn h;refine bO (bH (bJ (l := [4]) ⟨rfl, trivial⟩)) ?_;exact aX ⟨rfl, _, .one _, rfl, rfl⟩

theorem aIt (a : aF) (c : aR) {r : Bool} (h : oX a c = some r) : Fn Try.prog 48 [.agg (aJ a), .cp (bD c)] (.b r) := by
 unfold oX at h;refine Fn.of_tr Try.func48 rfl (rs := [.tmp 3]) Try.results48 Try.ntmps48 (Nat.le_of_ble_eq_true rfl) ?_;refine aC (aA ?_);refine bB rfl (eP (v := .agg (aJ a)) (aD rfl) rfl rfl rfl) ?_;rintro _ ⟨b1, rfl⟩;refine ta (.b false) (aB (aC (aA (to (pL (bD c) rfl mG) (to (sla 0 (aJ a) rfl rfl lB) ?_)))));obtain ⟨r2, h3, h⟩ := bns h;refine to (scr Try.call49 (aIr _ _ h3)) (to (sn rfl) (ta (.b (!r2)) (aB ?_)));obtain rfl := sIn h;refine bO (bH (bJ (l := [3]) ⟨rfl, trivial⟩)) ?_;exact aX ⟨rfl, _, .one _, rfl, rfl⟩

theorem sZ (a : List Int) {r : (List Int)} (h : slices_Clone_int a = some r) : fP Try.prog 76 [.d (.sl 1 (a.map aK))] [] (fun r' o' => ∃ (w0 : Value), r' = .d (.lit w0) ∧ o' = [.arr w0 3 1 (r.map aK)]) := by
 unfold slices_Clone_int at h;refine jR Try.func76 rfl (rs := [.tmp 2]) Try.results76 Try.ntmps76 (Nat.le_of_ble_eq_true rfl) ?_;refine aC (aA (to (iC 3 1 (.inl rfl) (aD rfl)) ?_));refine aB (aC (aC (aA (tm (.d (.sl 1 (a.map aK))) ?_))));refine bB rfl (aLd (aD rfl) rfl rfl Try.underlying22) ?_;rintro _ ⟨b2, h3, rfl⟩;refine aB ?_;refine zR rfl (fun c4 => ?_) (fun c4 => ?_)
 ·obtain rfl := aKl (h3 c4)
  simp [app] at h
  subst h;refine aC (aA (to (iC 3 1 (.inl rfl) (aD rfl)) ?_));refine aB ?_;refine bO (aP [1, 0] rfl rfl (le_refl _)) ?_;exact aX ⟨rfl, _, [.arr (.slice none 0 0) 3 1 (([] : List Int).map aK)], [.arr (.slice none 0 0) 3 1 (([] : List Int).map aK)], _, .one (.tmp 2 (v := .d (.lit (.slice none 0 0))) rfl), .refl _, .same _, (.slice none 0 0), rfl, rfl⟩
 ·refine aV (aC (aA ?_));refine bB rfl (aGx (aD rfl) bG rfl rfl (rows := (([] : List Int)).map aK) rfl (cI (f := aK) fun _ => rfl) rfl (by decide)) ?_;rintro _ ⟨v5, rfl⟩;refine tm (.d (.sl 1 (a.map aK))) ?_;obtain ⟨x6, h7, h⟩ := bns h;refine bB rfl (fV (i := 1) (aD rfl) bG rfl rfl rfl (fun _ => rfl) h7 rfl) ?_;rintro _ ⟨v8, rfl⟩;refine ta (.d (.lit v8)) (aB ?_);obtain rfl := sIn h;refine bO (aP [1, 0] rfl rfl (le_refl _)) ?_;exact aX ⟨rfl, _, [.arr v8 3 1 (x6.map aK)], [.arr (.slice none 0 0) 3 1 (([] : List Int).map aK)], _, .one (.tmp 2 (v := .d (.lit v8)) rfl), .refl _, .same _, v8, rfl, rfl⟩

theorem xC (f : aR) (n : List Int) (o : List (aF × Int)) (g : Int) {Q : (aF × Bool) → Prop} {t u : Nat} {c : Value} {w : Nat} {j : Nat} {s : List Nat} {e : Nat} (h : iW f n o g Q) : fP Try.prog 95 [.bp t u 0, .d (.lit (.map (some j))), .i g] [.box t u [.lit (.int .i64 f.Rounds), .sl 1 (f.Slots.map aK), .lit c, .lit (.map (some w))], .arr c 3 1 (n.map aK), .map j (o.map fun p : aF × Int => ((fun a : aF => Value.agg ((aJ a).map bQ).toArray) p.1, (fun v : Int => AV.i v) p.2)) s e] (fun r' o' => ∃ (r : aF × Bool), Q r ∧ r' = .tup [.agg (aJ r.1), .b r.2] ∧ o' = [.box t u [.lit (.int .i64 f.Rounds), .sl 1 (f.Slots.map aK), .lit c, .lit (.map (some w))], .arr c 3 1 (n.map aK), .map j (o.map fun p : aF × Int => ((fun a : aF => Value.agg ((aJ a).map bQ).toArray) p.1, (fun v : Int => AV.i v) p.2)) s e]) := by
 unfold iW at h;refine jR Try.func95 rfl (rs := [.cell 6 46, .tmp 7]) Try.results95 Try.ntmps95 (Nat.le_of_ble_eq_true rfl) ?_;refine aC (aA ?_);refine bB rfl (cM (zs := [.lit (.int .i64 0), .lit (.int .i64 0), .lit (.int .i64 0), .lit (.int .i64 0), .lit (.int .i64 0)]) (aD rfl) Try.zeroValue46 rfl rfl) ?_;rintro _ ⟨b1, rfl⟩;refine ta (.b false) (aB (aC (aC (aA (tm (.d (.lit (.map (some j)))) ?_)))));refine bB rfl (aRh (m := 2) (aD rfl) Try.underlying122 rfl rfl) ?_;rintro _ ⟨q2, h4, rfl⟩;have h := aGf h h4;refine aB (bA ?_);refine vT [0, 2, 6, 10] (fun (s5 : aF × (List Nat)) => []) (fun (s5 : aF × (List Nat)) => [.arr c 3 1 (n.map aK), .box t u [.lit (.int .i64 f.Rounds), .sl 1 (f.Slots.map aK), .lit c, .lit (.map (some w))], .map j (o.map fun p : aF × Int => ((fun a : aF => Value.agg ((aJ a).map bQ).toArray) p.1, (fun v : Int => AV.i v) p.2)) s e, .box b1 0 (aJ s5.1), .iter q2 j e s5.2 e]) (fun (k : Nat) (s5 : aF × (List Nat)) => iQ Q g n f o k s5.1 (nV o s s5.2)) (fun _ h => h) ((aF.mk 0 0 0 0 0), []) h (aP [1, 0, 2, 3, 4] rfl rfl (aM ⟨rfl, rfl, rfl, rfl, trivial⟩)) ?_;rintro k7 ⟨B, y⟩ h;simp only [iQ] at h;refine aC (aA ?_);refine bB rfl (aUu (kv := (fun a : aF => Value.agg ((aJ a).map bQ).toArray)) (av := (fun v : Int => AV.i v)) (l := o) (mi := 4) (mm := 2) (aD rfl) rfl rfl rfl) ?_;rintro _ (⟨I, rfl⟩ | ⟨j9, C, p8, E, rfl⟩)
 ·have h := h.1 I;refine to (sex rfl rfl) (aB (aC ?_));refine zR rfl (fun F => ?_) (fun F => ?_)
  ·exact absurd F (by decide)
  ·refine bT ?_;refine .inl ⟨rfl, ?_⟩;simp only [oM] at h;refine aC (aA (to (eE (aD rfl) aVa (zs := [.lit (.int .i64 0), .lit (.int .i64 0), .lit (.int .i64 0), .lit (.int .i64 0), .lit (.int .i64 0)]) rfl rfl rfl rfl (es := [.lit (.int .i64 0), .lit (.int .i64 0), .lit (.int .i64 0), .lit (.int .i64 0), .lit (.int .i64 0)]) rfl) ?_));refine to (sst 3 rfl rfl Try.sizeOf46 (aJ (aF.mk 0 0 0 0 0))) (ta (.b false) (aB ?_));refine bO (aP [1, 0, 2, 3, 4] rfl rfl (le_refl _)) ?_;exact aX ⟨rfl, _, [.box t u [.lit (.int .i64 f.Rounds), .sl 1 (f.Slots.map aK), .lit c, .lit (.map (some w))], .arr c 3 1 (n.map aK), .map j (o.map fun p : aF × Int => ((fun a : aF => Value.agg ((aJ a).map bQ).toArray) p.1, (fun v : Int => AV.i v) p.2)) s e], [.box b1 0 (aJ (aF.mk 0 0 0 0 0)), .iter q2 j e y e], _, .two (.cell 6 46 rfl (i := 3) rfl lB (es := (aJ (aF.mk 0 0 0 0 0))) rfl rfl) (.tmp 7 (v := .b false) rfl), .refl _, .same _, ((aF.mk 0 0 0 0 0), false), h, rfl, rfl⟩
 ·have h := aIc h E;refine to (sex rfl rfl) (aB (aC ?_));refine zR rfl (fun G => ?_) (fun G => ?_)
  ·refine aV (bA (aC (aA (to (aRg (kv := (fun a : aF => Value.agg ((aJ a).map bQ).toArray)) (av := (fun v : Int => AV.i v)) (l := o) (mi := 4) (mm := 2) (ka := .agg (aJ p8.1)) (aD rfl) rfl rfl rfl E (fun _ _ => .agg (aGb rfl))) ?_))));refine to (sex rfl rfl) ?_;refine bB rfl (cM (zs := [.lit (.int .i64 0), .lit (.int .i64 0), .lit (.int .i64 0), .lit (.int .i64 0), .lit (.int .i64 0)]) (aD rfl) Try.zeroValue46 rfl rfl) ?_;rintro _ ⟨z, rfl⟩;refine to (sst 5 rfl rfl Try.sizeOf46 (aJ p8.1)) (aB (aC ?_));obtain ⟨J, x, h⟩ := gI h;refine cW mix 16 [0, 2, 6, 8, 10] [(30, .b J)] ?_ ?_
   ·refine bch x (fun q x => ?_) (fun q x => ?_)
    ·obtain ⟨A, H, x⟩ := bns x;obtain rfl := sIn x;refine ⟨[(15, 0, .bp z 0 2), (16, 1, .i p8.1.Place), (17, 2, .i g), (18, 3, .b (decide (p8.1.Place = g))), (19, 4, .b (decide (p8.1.Place = g))), (20, 5, .bp z 0 4), (21, 6, .i p8.1.Old), (22, 7, .bp t u 0), (23, 8, .bp t u 0), (24, 9, .bp t u 2), (25, 10, .d (.lit c)), (26, 11, .i g), (27, 12, .ep c 1 g.toNat 0), (28, 13, .i A), (29, 14, .b (decide (p8.1.Old = A))), (30, 15, .b (decide (p8.1.Old = A)))], ?_, ?_⟩
     · exact dok [([], []), ([0], []), ([], []), ([1, 2], []), ([3], []), ([4], []), ([4, 5], []), ([4], []), ([4, 7], []), ([4, 8], []), ([4, 9], []), ([4], []), ([4, 10, 11], []), ([4, 12], []), ([4, 6, 13], []), ([4, 14], [])] ⟨go (zf rfl kT),
      go (zl 5 rfl rfl rfl aT),
      go (zm (.i g)),
      go (zcm rfl rfl rfl),
      go (zm (.b (decide (p8.1.Place = g)))),
      gt q (zf rfl xJ),
      gt q (zl 5 rfl rfl rfl aT),
      gt q (zm (.bp t u 0)),
      gt q fun S hS => nF (aD rfl) (aU hS rfl),
      gt q (zf rfl qS),
      gt q (zl 1 rfl rfl rfl cN),
      gt q (zm (.i g)),
      gt q (zia 0 rfl rfl rfl bG.of (aW aK H)),
      gt q fun S hS => iN (aD rfl) (aU hS rfl) (m := 0) rfl (dR aK H) rfl aT,
      gt q (zcm rfl rfl rfl),
      go (zpt (.b (decide (p8.1.Old = A))) q), trivial⟩
     · exact cL (aI rfl (aM ⟨rfl, rfl, rfl, rfl, rfl, trivial⟩))
    ·obtain rfl := sIn x;refine ⟨[(15, 0, .bp z 0 2), (16, 1, .i p8.1.Place), (17, 2, .i g), (18, 3, .b (decide (p8.1.Place = g))), (19, 4, .b (decide (p8.1.Place = g))), (20, 5, .tup []), (21, 6, .tup []), (22, 7, .tup []), (23, 8, .tup []), (24, 9, .tup []), (25, 10, .tup []), (26, 11, .tup []), (27, 12, .tup []), (28, 13, .tup []), (29, 14, .tup []), (30, 15, .b false)], ?_, ?_⟩
     · exact dok [([], []), ([0], []), ([], []), ([1, 2], []), ([3], []), ([4], []), ([4, 5], []), ([4], []), ([4, 7], []), ([4, 8], []), ([4, 9], []), ([4], []), ([4, 10, 11], []), ([4, 12], []), ([4, 6, 13], []), ([4, 14], [])] ⟨go (zf rfl kT),
      go (zl 5 rfl rfl rfl aT),
      go (zm (.i g)),
      go (zcm rfl rfl rfl),
      go (zm (.b (decide (p8.1.Place = g)))),
      gp q,
      gp q,
      gp q,
      gp q,
      gp q,
      gp q,
      gp q,
      gp q,
      gp q,
      gp q,
      go (zpf (.b false) q), trivial⟩
     · exact cL (aI rfl (aM ⟨rfl, rfl, rfl, rfl, rfl, trivial⟩))
   ·refine aB ?_;refine tip h (fun K h => ?_) (fun K h => ?_)
    ·refine aC (aA (to (sla 5 (aJ p8.1) rfl rfl lB) (to (sst 3 rfl rfl Try.sizeOf46 (aJ p8.1)) (ta (.b true) (aB ?_)))));refine bO (aP [1, 0, 2, 3, 4, 5] rfl rfl (le_refl _)) ?_;exact aX ⟨rfl, _, [.box t u [.lit (.int .i64 f.Rounds), .sl 1 (f.Slots.map aK), .lit c, .lit (.map (some w))], .arr c 3 1 (n.map aK), .map j (o.map fun p : aF × Int => ((fun a : aF => Value.agg ((aJ a).map bQ).toArray) p.1, (fun v : Int => AV.i v) p.2)) s e], [.box b1 0 (aJ p8.1), .iter q2 j e (y ++ [C]) e, .box z 0 (aJ p8.1)], _, .two (.cell 6 46 rfl (i := 3) rfl lB (es := (aJ p8.1)) rfl rfl) (.tmp 7 (v := .b true) rfl), .refl _, .same _, (p8.1, true), h, rfl, rfl⟩
    ·refine cR ?_;exact ⟨(B, (y ++ [C])), h, aP [0, 1, 2, 3, 4] rfl rfl (aM ⟨rfl, rfl, rfl, rfl, trivial⟩)⟩
  ·exact absurd G (by decide)

theorem aBz (e : aR) (w : List Int) (C : List (aF × Int)) {Q : (Bool × (List Int) × (List (aF × Int))) → Prop} {q s : Nat} {c : Value} {t : Nat} {g : Nat} {z : List Nat} {A : Nat} (h : lP e w C Q) : fP Try.prog 77 [.bp q s 0, .d (.lit (.map (some g)))] [.box q s [.lit (.int .i64 e.Rounds), .sl 1 (e.Slots.map aK), .lit c, .lit (.map (some t))], .arr c 3 1 (w.map aK), .map g (C.map fun p : aF × Int => ((fun a : aF => Value.agg ((aJ a).map bQ).toArray) p.1, (fun v : Int => AV.i v) p.2)) z A] (fun r' o' => ∃ (r : Bool × (List Int) × (List (aF × Int))) (U : List Nat) (V : Nat), Q r ∧ r' = .b r.1 ∧ o' = [.box q s [.lit (.int .i64 e.Rounds), .sl 1 (e.Slots.map aK), .lit c, .lit (.map (some t))], .arr c 3 1 (r.2.1.map aK), .map g (r.2.2.map fun p : aF × Int => ((fun a : aF => Value.agg ((aJ a).map bQ).toArray) p.1, (fun v : Int => AV.i v) p.2)) U V]) := by
 unfold lP at h;refine jR Try.func77 rfl (rs := [.tmp 4]) Try.results77 Try.ntmps77 (Nat.le_of_ble_eq_true rfl) ?_;refine aC (aA (ta (.b false) (aB (aC (aA (tm (.bp q s 0) (to (nF (aD rfl) rfl) ?_)))))));refine to (sf rfl aAm) (tfl 0 rfl rfl dX rfl cN ?_);obtain ⟨r1, h2, h⟩ := gI h;refine bB rfl (zK (aD rfl) (.func _ _ Try.call76) rfl rfl (sZ _ h2)) ?_;rintro _ ⟨v3, rfl⟩;refine ta (.d (.lit v3)) (aB (aC (aC (aA (tm (.bp q s 0) (to (nF (aD rfl) rfl) ?_))))));refine tfl 0 rfl rfl qS rfl cN (to (jS (m := 1) (aD rfl) rfl rfl bG.of) ?_);refine tm (.i 0) (aB (bA ?_));refine vT [0, 1, 19] (fun (s4 : Int × (List Int) × (List (aF × Int)) × (List Int) × (List Nat) × Nat × Value) => [(5, .d (.lit s4.2.2.2.2.2.2)), (20, .i s4.1)]) (fun (s4 : Int × (List Int) × (List (aF × Int)) × (List Int) × (List Nat) × Nat × Value) => [.arr c 3 1 (s4.2.1.map aK), .box q s [.lit (.int .i64 e.Rounds), .sl 1 (e.Slots.map aK), .lit c, .lit (.map (some t))], .map g (s4.2.2.1.map fun p : aF × Int => ((fun a : aF => Value.agg ((aJ a).map bQ).toArray) p.1, (fun v : Int => AV.i v) p.2)) s4.2.2.2.2.1 s4.2.2.2.2.2.1, .arr s4.2.2.2.2.2.2 3 1 (s4.2.2.2.1.map aK)]) (fun (k : Nat) (s4 : Int × (List Int) × (List (aF × Int)) × (List Int) × (List Nat) × Nat × Value) => dA Q (w.length : Int) e k s4.1 s4.2.1 s4.2.2.1 s4.2.2.2.1) (fun _ h => h) (0, w, C, r1, z, A, v3) h (aP [1, 0, 2, 3] rfl rfl (aI rfl (aI rfl (aM ⟨rfl, rfl, rfl, trivial⟩)))) ?_;rintro k8 ⟨j, B, u, H, L, M, w7⟩ h;simp only [dA] at h;refine aC (aA (to (scm rfl rfl rfl) (aB (aC ?_))));refine tip h (fun c9 h => ?_) (fun c9 h => ?_)
 ·refine aV (aC (bA (aC (aA (tm (.i j) (ta (.i j) (aB (aC (aA (tm (.bp q s 0) (tm (.d (.lit (.map (some g)))) (tm (.i j) ?_))))))))))));refine nX (aP [1, 0, 2, 3] rfl rfl (le_refl _)) ?_;refine bB rfl (eY (passed := [.box q s [.lit (.int .i64 e.Rounds), .sl 1 (e.Slots.map aK), .lit c, .lit (.map (some t))], .arr c 3 1 (B.map aK), .map g (u.map fun p : aF × Int => ((fun a : aF => Value.agg ((aJ a).map bQ).toArray) p.1, (fun v : Int => AV.i v) p.2)) L M]) (aD rfl) rfl (.func _ _ Try.call95) rfl rfl (xC e B u j h)) ?_;rintro _ ⟨_, _, ⟨I, h, rfl, rfl⟩, rfl⟩;refine tm (.tup [.agg (aJ I.1), .b I.2]) (to (sex rfl rfl) (to (sex rfl rfl) ?_));refine bB rfl (cM (zs := [.lit (.int .i64 0), .lit (.int .i64 0), .lit (.int .i64 0), .lit (.int .i64 0), .lit (.int .i64 0)]) (aD rfl) Try.zeroValue46 rfl rfl) ?_;rintro _ ⟨W, rfl⟩;refine to (sst 4 rfl rfl Try.sizeOf46 (aJ I.1)) (ta (.b I.2) (aB ?_));refine uP ?_;refine vT [0, 1, 6, 19, 20] (fun (x : Bool × (List Int) × (List (aF × Int)) × aF × (List Int) × (List Nat) × Nat × Nat × Value) => [(5, .d (.lit x.2.2.2.2.2.2.2.2)), (7, .bp x.2.2.2.2.2.2.2.1 0 0), (8, .b x.1)]) (fun (x : Bool × (List Int) × (List (aF × Int)) × aF × (List Int) × (List Nat) × Nat × Nat × Value) => [.arr c 3 1 (x.2.1.map aK), .box q s [.lit (.int .i64 e.Rounds), .sl 1 (e.Slots.map aK), .lit c, .lit (.map (some t))], .map g (x.2.2.1.map fun p : aF × Int => ((fun a : aF => Value.agg ((aJ a).map bQ).toArray) p.1, (fun v : Int => AV.i v) p.2)) x.2.2.2.2.2.1 x.2.2.2.2.2.2.1, .box x.2.2.2.2.2.2.2.1 0 (aJ x.2.2.2.1), .arr x.2.2.2.2.2.2.2.2 3 1 (x.2.2.2.2.1.map aK)]) (fun (k : Nat) (x : Bool × (List Int) × (List (aF × Int)) × aF × (List Int) × (List Nat) × Nat × Nat × Value) => eK Q (dA Q (w.length : Int) e k8) j (w.length : Int) j e k x.1 x.2.1 x.2.2.1 x.2.2.2.1 x.2.2.2.2.1) (fun _ h => h) (I.2, B, u, I.1, H, L, M, W, w7) h (aP [1, 0, 2, 4, 3] rfl rfl (aI rfl (aI rfl (aI rfl (aM ⟨rfl, rfl, rfl, rfl, rfl, trivial⟩))))) ?_;rintro a3 ⟨K, y, o, n, E, F, G, O, N⟩ h;simp only [eK] at h;refine aC (aC (aA (tm (.b K) (aB ?_))));refine tip h (fun X h => ?_) (fun X h => ?_)
  ·refine aV (aC (bA (aC (aC (aA (tm (.d (.lit N)) (tfl 3 rfl rfl nY rfl aT ?_)))))));obtain ⟨a4, Y, h⟩ := gI h;refine to (sc Try.call54 (fA _ _ Y) (.cons (.d (kK 4 rfl (cI (f := aK) fun _ => rfl))) (.cons (.same _) .nil))) (aB ?_);refine tip h (fun Z h => ?_) (fun Z h => ?_)
   ·refine aC (aA (ta (.b false) (aB ?_)));refine bO (aP [1, 0, 2, 3, 4] rfl rfl (le_refl _)) ?_;exact aX ⟨rfl, _, [.box q s [.lit (.int .i64 e.Rounds), .sl 1 (e.Slots.map aK), .lit c, .lit (.map (some t))], .arr c 3 1 (y.map aK), .map g (o.map fun p : aF × Int => ((fun a : aF => Value.agg ((aJ a).map bQ).toArray) p.1, (fun v : Int => AV.i v) p.2)) F G], [.box O 0 (aJ n), .arr N 3 1 (E.map aK)], _, .one (.tmp 4 (v := .b false) rfl), .refl _, .same _, (false, y, o), F, G, h, rfl, rfl⟩
   ·refine aV (aC ?_);refine cW mix 7 [0, 1, 5, 6, 7, 19, 20] [(45, .d (.lit c)), (46, .i j), (48, .i n.Player)] ?_ ?_
    ·refine ⟨[(42, 0, .bp q s 0), (43, 1, .bp q s 0), (44, 2, .bp q s 2), (45, 3, .d (.lit c)), (46, 4, .i j), (47, 5, .bp O 0 3), (48, 6, .i n.Player)], ?_, ?_⟩
     · exact dok [([], []), ([0], []), ([1], []), ([2], []), ([], []), ([], []), ([5], [])] ⟨go (zm (.bp q s 0)),
      go fun S hS => nF (aD rfl) (aU hS rfl),
      go (zf rfl qS),
      go (zl 1 rfl rfl rfl cN),
      go (zm (.i j)),
      go (zf rfl nY),
      go (zl 3 rfl rfl rfl aT), trivial⟩
     · exact cL (aI rfl (aI rfl (aI rfl (aM ⟨rfl, rfl, rfl, rfl, rfl, rfl, rfl, trivial⟩))))
    ·obtain ⟨a5, P, h⟩ := gI h;refine to (dI (m := 0) (aD rfl) rfl rfl rfl bG.of (aW aK P)) ?_;refine to (kP (l := 0) rfl rfl (dR aK P) rfl rfl rfl Try.sizeOf3 rfl (aD rfl) (Nat.le_of_ble_eq_true rfl) (rows' := ((y.set j.toNat n.Player)).map aK) (rK _ _ _ _ rfl)) ?_;refine aB (aC (aA (tm (.d (.lit N)) (tfl 3 rfl rfl nY rfl aT (to (fF (aD rfl) bG rfl rfl (rows := ([n.Player]).map aK) rfl (cI (f := aK) fun _ => rfl) rfl (by decide)) ?_)))));obtain ⟨a0, a1, h⟩ := gI h;refine bB rfl (fV (i := 4) (aD rfl) bG rfl rfl rfl (fun _ => rfl) a1 rfl) ?_;rintro _ ⟨T, rfl⟩;refine ta (.d (.lit T)) (aB (aA (tm (.d (.lit (.map (some g)))) (to (sla 3 (aJ n) rfl rfl lB) (to (aWk (av := (fun v : Int => AV.i v)) (l := o) (a := n) (m := 2) aOk Try.underlying122 rfl rfl rfl rfl (pZ (enc := aJ) n rfl)) ?_)))));refine cU ?_;refine aC (aC (aA (to (sla 3 (aJ n) rfl rfl lB) (aB (aA ?_)))));refine bB rfl (cM (zs := [.lit (.int .i64 0), .lit (.int .i64 0), .lit (.int .i64 0), .lit (.int .i64 0), .lit (.int .i64 0)]) (aD rfl) Try.zeroValue46 rfl rfl) ?_;rintro _ ⟨a2, rfl⟩;refine to (sst 5 rfl rfl Try.sizeOf46 (aJ n)) (aB (aA (tm (.bp q s 0) (tm (.d (.lit (.map (some g)))) (tm (.i j) ?_)))));refine nX (aP [1, 0, 2, 3, 4, 5] rfl rfl (le_refl _)) ?_;refine bB rfl (eY (passed := [.box q s [.lit (.int .i64 e.Rounds), .sl 1 (e.Slots.map aK), .lit c, .lit (.map (some t))], .arr c 3 1 ((y.set j.toNat n.Player).map aK), .map g ((qT n o).map fun p : aF × Int => ((fun a : aF => Value.agg ((aJ a).map bQ).toArray) p.1, (fun v : Int => AV.i v) p.2)) (aCe n o F) G]) (aD rfl) rfl (.func _ _ Try.call95) rfl rfl (xC e (y.set j.toNat n.Player) (qT n o) j h)) ?_;rintro _ ⟨_, _, ⟨J, h, rfl, rfl⟩, rfl⟩;refine tm (.tup [.agg (aJ J.1), .b J.2]) (to (sex rfl rfl) (to (sex rfl rfl) (to (sst 5 rfl rfl Try.sizeOf46 (aJ J.1)) (ta (.b J.2) (aB ?_)))));exact ⟨(J.2, (y.set j.toNat n.Player), (qT n o), J.1, a0, (aCe n o F), G, a2, T), h, aP [1, 0, 2, 5, 4] rfl rfl (aI rfl (aI rfl (aI rfl (aM ⟨rfl, rfl, rfl, rfl, rfl, trivial⟩))))⟩
  ·refine bT ?_;refine .inl ⟨rfl, ?_⟩;simp only [mE] at h;simp only [mD] at h;refine aA (to (sar rfl rfl rfl) (tm (.i (w64 (j + 1))) (aB ?_)));exact ⟨(w64 (j + 1), y, o, E, F, G, N), h, aP [0, 1, 2, 4] rfl rfl (aI rfl (aI rfl (aM ⟨rfl, rfl, rfl, trivial⟩)))⟩
 ·refine bT ?_;refine .inl ⟨rfl, ?_⟩;simp only [mC] at h;refine aC (aA (tm (.d (.lit (.map (some g)))) (to (aWm (m := 2) (aD rfl) Try.underlying122 rfl rfl) ?_)));refine to (scm rfl rfl rfl) (ta (.b (decide ((u.length : Int) = 0))) (aB ?_));refine bO (aP [1, 0, 2, 3] rfl rfl (le_refl _)) ?_;exact aX ⟨rfl, _, [.box q s [.lit (.int .i64 e.Rounds), .sl 1 (e.Slots.map aK), .lit c, .lit (.map (some t))], .arr c 3 1 (B.map aK), .map g (u.map fun p : aF × Int => ((fun a : aF => Value.agg ((aJ a).map bQ).toArray) p.1, (fun v : Int => AV.i v) p.2)) L M], [.arr w7 3 1 (H.map aK)], _, .one (.tmp 4 (v := .b (decide ((u.length : Int) = 0))) rfl), .refl _, .same _, (decide ((u.length : Int) = 0), B, u), L, M, h, rfl, rfl⟩

theorem tF (a : Int) (b : Int) {r : aG} (h : oN a b = some r) : Fn Try.prog 80 [.i a, .i b] (.agg (aQ r)) := by
 unfold oN at h;refine jQ Try.func80 rfl (rs := [.cell 4 120]) Try.results80 Try.ntmps80 (Nat.le_of_ble_eq_true rfl) ?_;refine aC (aA ?_);refine bB rfl (cM (zs := [.lit (.int .i64 0), .lit (.int .i64 0)]) (aD rfl) Try.zeroValue120 rfl rfl) ?_;rintro _ ⟨b1, rfl⟩;refine aB (aC (aA (tm (.i a) (tm (.i b) (tm (.i a) (to (sar rfl rfl rfl) ?_))))));obtain ⟨u2, h3, h⟩ := bns h;refine to (zO (aD rfl) rfl rfl (aBh h3)) ?_;refine to (eE (aD rfl) aLv (zs := [.lit (.int .i64 0), .lit (.int .i64 0)]) rfl rfl rfl rfl (es := [.lit (.int .i64 a), .lit (.int .i64 (b.fdiv (2 ^ (min (w64 (a + 1)).toNat 64))))]) rfl) ?_;refine to (sst 0 rfl rfl Try.sizeOf120 (aQ (aG.mk a (b.fdiv (2 ^ (min (w64 (a + 1)).toNat 64)))))) (aB ?_);obtain rfl := sIn h;exact aX ⟨rfl, _, [.box b1 0 (aQ (aG.mk a (b.fdiv (2 ^ (min (w64 (a + 1)).toNat 64)))))], .one (.cell 4 120 rfl (i := 0) rfl vW (es := (aQ (aG.mk a (b.fdiv (2 ^ (min (w64 (a + 1)).toNat 64)))))) rfl rfl), .refl _, .same _⟩

theorem xD (g : aR) (o : List Int) (y : List (aG × Int)) (s : Int) (u : Int) {r : Bool × (List (aG × Int))} {j n : Nat} {e : Value} {f : Nat} {w : List Nat} {x : Nat} (h : lT g o y s u = some r) : fP Try.prog 78 [.bp j n 0, .i s, .i u] [.box j n [.lit (.int .i64 g.Rounds), .sl 1 (g.Slots.map aK), .lit e, .lit (.map (some f))], .arr e 3 1 (o.map aK), .map f (y.map fun p : aG × Int => ((fun a : aG => Value.agg ((aQ a).map bQ).toArray) p.1, (fun v : Int => AV.i v) p.2)) w x] (fun r' o' => ∃ (A : List Nat) (H : Nat), r' = .b r.1 ∧ o' = [.box j n [.lit (.int .i64 g.Rounds), .sl 1 (g.Slots.map aK), .lit e, .lit (.map (some f))], .arr e 3 1 (o.map aK), .map f (r.2.map fun p : aG × Int => ((fun a : aG => Value.agg ((aQ a).map bQ).toArray) p.1, (fun v : Int => AV.i v) p.2)) A H]) := by
 unfold lT at h;refine jR Try.func78 rfl (rs := [.tmp 6]) Try.results78 Try.ntmps78 (Nat.le_of_ble_eq_true rfl) ?_;refine aC (aA (ta (.b false) (aB (aC (aC (aA (tm (.i u) (to (sar rfl rfl rfl) (tm (.i 0) (aB (bA ?_)))))))))));refine bR (S := Int × (List (aG × Int)) × (List Nat) × Nat) [0, 1, 12] (fun s1 => [(13, .i s1.1)]) (fun s1 => [.arr e 3 1 (o.map aK), .map f (s1.2.1.map fun p : aG × Int => ((fun a : aG => Value.agg ((aQ a).map bQ).toArray) p.1, (fun v : Int => AV.i v) p.2)) s1.2.2.1 s1.2.2.2, .box j n [.lit (.int .i64 g.Rounds), .sl 1 (g.Slots.map aK), .lit e, .lit (.map (some f))]]) (fun k s1 => iR s (w64 (u + 1)) o g k s1.1 s1.2.1) (fun _ => rfl) (0, y, w, x) h (aP [1, 2, 0] rfl rfl (aI rfl (aM ⟨rfl, rfl, rfl, trivial⟩))) ?_;rintro k4 ⟨t, c, A, C⟩ h;simp only [iR] at h;refine aC (aA (to (scm rfl rfl rfl) (aB (aC ?_))));refine tih h (fun c5 h => ?_) (fun c5 h => ?_)
 ·refine aV (aC (bA (aC (aA (tm (.i t) (ta (.i t) (aB (aC (aA (tm (.i t) (tm (.i s) ?_)))))))))));obtain ⟨r6, h7, h⟩ := bns h;refine to (fE (aD rfl) (.func _ _ Try.call80) rfl rfl (tF _ _ h7)) ?_;refine bB rfl (cM (zs := [.lit (.int .i64 0), .lit (.int .i64 0)]) (aD rfl) Try.zeroValue120 rfl rfl) ?_;rintro _ ⟨b8, rfl⟩;refine to (sst 3 rfl rfl Try.sizeOf120 (aQ r6)) (aB (aC (aC ?_)));refine cW mix 10 [0, 1, 8, 12, 13] [(9, .i (cY r6 0 c)), (27, .b (dY r6 c))] ?_ ?_
  ·refine ⟨[(20, 0, .bp j n 0), (21, 1, .bp j n 0), (22, 2, .bp j n 3), (23, 3, .d (.lit (.map (some f)))), (24, 4, .agg (aQ r6)), (25, 5, .tup [.i (cY r6 0 c), .b (dY r6 c)]), (19, 6, .tup [.i (cY r6 0 c), .b (dY r6 c)]), (26, 7, .i (cY r6 0 c)), (27, 8, .b (dY r6 c)), (9, 9, .i (cY r6 0 c))], ?_, ?_⟩
   · exact dok [([], []), ([0], []), ([1], []), ([2], []), ([], []), ([3, 4], []), ([5], []), ([6], []), ([6], []), ([7], [])] ⟨go (zm (.bp j n 0)),
      go fun S hS => nF (aD rfl) (aU hS rfl),
      go (zf rfl aDo),
      go (zl 2 rfl rfl rfl aKo),
      go (zla 3 (aQ r6) rfl rfl vW),
      go fun S hS => aLf (av := (fun v : Int => AV.i v)) (l := c) (z := 0) (a := r6) (m := 1) (aD rfl) zV Try.underlying73 Try.zeroValue3 (fun _ _ => .d (.lit _ rfl)) (aU hS rfl) rfl rfl (aU hS rfl) (pZ (enc := aQ) r6 rfl),
      go (zm (.tup [.i (cY r6 0 c), .b (dY r6 c)])),
      go (zex rfl rfl),
      go (zex rfl rfl),
      go (za (.i (cY r6 0 c))), trivial⟩
   · exact cL (aI rfl (aI rfl (aM ⟨rfl, rfl, rfl, rfl, rfl, trivial⟩)))
  ·refine ta (.b (dY r6 c)) (aB (aC (aA (tm (.b (dY r6 c)) (tm (.b (dY r6 c)) ?_)))));obtain ⟨b9, B, h⟩ := bns h;refine aY 10 [0, 1, 8, 12, 13] 39 b9 ?_ ?_
   ·refine bch B (fun q B => ?_) (fun q B => ?_)
    ·refine tk q (sm (.i (cY r6 0 c))) (tk q (sm (.bp j n 0)) (tk q (nF (aD rfl) rfl) ?_));refine tkl 2 q rfl rfl qS rfl cN (tk q (sm (.i s)) ?_);obtain ⟨I, F, B⟩ := bns B;refine tk q (dI (m := 0) (aD rfl) rfl rfl rfl bG.of (aW aK F)) ?_;refine tk q (iN (aD rfl) rfl (m := 0) rfl (dR aK F) rfl aT) ?_;refine tk q (scm rfl rfl rfl) (to (spt (.b (!decide ((cY r6 0 c) = I))) q) ?_);obtain rfl := sIn B;refine aB (aL rfl ⟨rfl, rfl, rfl, rfl, rfl, trivial⟩ rfl)
    ·refine tp q (tp q (tp q (tp q (tp q (tp q (tp q (tp q (tp q (to (spf (.b false) q) ?_)))))))));obtain rfl := sIn B;refine aB (aL rfl ⟨rfl, rfl, rfl, rfl, rfl, trivial⟩ rfl)
   ·refine aB ?_;refine tih h (fun J h => ?_) (fun J h => ?_)
    ·refine aC (aA (ta (.b false) (aB ?_)));obtain rfl := sIn h;refine bO (aP [2, 0, 1, 3] rfl rfl (le_refl _)) ?_;exact aX ⟨rfl, _, [.box j n [.lit (.int .i64 g.Rounds), .sl 1 (g.Slots.map aK), .lit e, .lit (.map (some f))], .arr e 3 1 (o.map aK), .map f (c.map fun p : aG × Int => ((fun a : aG => Value.agg ((aQ a).map bQ).toArray) p.1, (fun v : Int => AV.i v) p.2)) A C], [.box b8 0 (aQ r6)], _, .one (.tmp 6 (v := .b false) rfl), .refl _, .same _, A, C, rfl, rfl⟩
    ·refine aV ?_;obtain ⟨E, G, h⟩ := bns h;refine cW mix 12 [0, 1, 12, 13] [(43, .d (.lit (.map (some f)))), (44, .agg (aQ r6)), (51, .i E)] ?_ ?_
     ·refine ⟨[(40, 0, .bp j n 0), (41, 1, .bp j n 0), (42, 2, .bp j n 3), (43, 3, .d (.lit (.map (some f)))), (44, 4, .agg (aQ r6)), (45, 5, .bp j n 0), (46, 6, .bp j n 0), (47, 7, .bp j n 2), (48, 8, .d (.lit e)), (49, 9, .i s), (50, 10, .ep e 1 s.toNat 0), (51, 11, .i E)], ?_, ?_⟩
      · exact dok [([], []), ([0], []), ([1], []), ([2], []), ([], []), ([], []), ([5], []), ([6], []), ([7], []), ([], []), ([8, 9], []), ([10], [])] ⟨go (zm (.bp j n 0)),
      go fun S hS => nF (aD rfl) (aU hS rfl),
      go (zf rfl aDo),
      go (zl 2 rfl rfl rfl aKo),
      go (zla 3 (aQ r6) rfl rfl vW),
      go (zm (.bp j n 0)),
      go fun S hS => nF (aD rfl) (aU hS rfl),
      go (zf rfl qS),
      go (zl 2 rfl rfl rfl cN),
      go (zm (.i s)),
      go (zia 0 rfl rfl rfl bG.of (aW aK G)),
      go fun S hS => iN (aD rfl) (aU hS rfl) (m := 0) rfl (dR aK G) rfl aT, trivial⟩
      · exact cL (aI rfl (aI rfl (aI rfl (aM ⟨rfl, rfl, rfl, rfl, trivial⟩))))
     ·refine to (aCg (av := (fun v : Int => AV.i v)) (l := c) (v := E) (a := r6) (m := 1) zV Try.underlying73 rfl rfl rfl rfl (pZ (enc := aQ) r6 rfl) rfl rfl) ?_;refine cU ?_;refine aA (to (sar rfl rfl rfl) (tm (.i (w64 (t + 1))) (aB ?_)));exact ⟨(w64 (t + 1), (gN r6 E c), (mbs r6 c A C), (mck r6 c C)), h, aP [0, 1, 2] rfl rfl (aI rfl (aM ⟨rfl, rfl, rfl, trivial⟩))⟩
 ·refine bT ?_;refine .inl ⟨rfl, ?_⟩;simp only [rW] at h;refine aC (aA (ta (.b true) (aB ?_)));obtain rfl := sIn h;refine bO (aP [2, 0, 1] rfl rfl (le_refl _)) ?_;exact aX ⟨rfl, _, [.box j n [.lit (.int .i64 g.Rounds), .sl 1 (g.Slots.map aK), .lit e, .lit (.map (some f))], .arr e 3 1 (o.map aK), .map f (c.map fun p : aG × Int => ((fun a : aG => Value.agg ((aQ a).map bQ).toArray) p.1, (fun v : Int => AV.i v) p.2)) A C], [], _, .one (.tmp 6 (v := .b true) rfl), .refl _, .same _, A, C, rfl, rfl⟩

theorem aJv (j : aR) (P : List aF) {Q : ((Option bC) × Bool) → Prop} (h : sH j P Q) : fP Try.prog 50 [.agg (bD j), .d (.sl 5 (P.map aJ))] [] (fun r' o' => ∃ (r : (Option bC) × Bool), Q r ∧ r' = .tup [fG bN r.1, .b r.2] ∧ o' = []) := by
 unfold sH at h;refine jR Try.func50 rfl (rs := [.tmp 4, .tmp 5]) Try.results50 Try.ntmps50 (Nat.le_of_ble_eq_true rfl) ?_;refine aC (aA ?_);refine bB rfl (eP (v := .agg (bD j)) (aD rfl) rfl rfl rfl) ?_;rintro _ ⟨b1, rfl⟩;refine ta (fG bN (none : Option bC)) (ta (.b false) (aB (aC ?_)));obtain ⟨r3, h4, h⟩ := gI h;refine uF mix 5 [1] (fun X2 => [(19, .agg (bD j)), (22, .d (.lit (X2 3).v)), (23, .d (.lit (.map (some (X2 4).b))))]) (fun X2 => [.box b1 0 (bD j), .arr (X2 3).v 3 1 (r3.map aK), .map (X2 4).b (([] : List (aG × Int)).map fun p : aG × Int => ((fun a : aG => Value.agg ((aQ a).map bQ).toArray) p.1, (fun v : Int => AV.i v) p.2)) ([]) 0]) ?_ ?_
 ·refine ⟨2, fun X2 => [(19, 0, .agg (bD j)), (20, 1, .bp b1 0 1), (21, 2, .d (.sl 1 (j.Slots.map aK))), (22, 3, .d (.lit (X2 3).v)), (23, 4, .d (.lit (.map (some (X2 4).b))))], fun X2 => [([], .box b1 0 (bD j)), ([(3, .arr (X2 3).v 3 1 (r3.map aK))], nob), ([(4, .map (X2 4).b (([] : List (aG × Int)).map fun p : aG × Int => ((fun a : aG => Value.agg ((aQ a).map bQ).toArray) p.1, (fun v : Int => AV.i v) p.2)) ([]) 0)], nob)], ?_, ?_⟩
  · exact ⟨by kernel_rfl, by kernel_rfl, by kernel_rfl, fun _ => by kernel_rfl, fun _ => by kernel_rfl, fun _ => by kernel_rfl, fun _ => rfl, [([], []), ([], [3]), ([1], [3]), ([2], []), ([], [])], by kernel_rfl, ⟨fun X2 S hw hi hS => bX (X := X2) rfl (hw X2) rfl (cP rfl (zN (aD rfl) (aU hS rfl) (i := 0) (og hS rfl rfl) mG (es := (bD j)) rfl rfl)),
      fun X2 S hw hi hS => bX (X := X2) rfl (hw X2) rfl (cP rfl (sE (aD rfl) (aU hS rfl) dX)),
      fun X2 S hw hi hS => bX (X := X2) rfl (hw X2) rfl (cP rfl (uB (aD rfl) (aU hS rfl) (i := 0) (og hS rfl rfl) rfl cN)),
      fun X2 S hw hi hS => aVg (X := X2) (p := 1) (v := fun x => .d (.lit x.v)) (mo := fun x => .arr x.v 3 1 (r3.map aK)) hS hi rfl rfl (fun _ => rfl) hw (fun _ => rfl) (fun _ => rfl) (fun _ => rfl) (fun _ => ⟨rfl, rfl, .inr rfl, ⟨rfl, rfl, .inr rfl, ⟨rfl, rfl, .inr rfl, ⟨rfl, rfl, .inl rfl, ⟨rfl, rfl, .inr rfl, trivial⟩⟩⟩⟩⟩) (fun _ => ⟨trivial, rfl, ⟨⟨rfl, .inl rfl, trivial⟩, rfl, ⟨⟨rfl, .inr rfl, trivial⟩, rfl, trivial⟩⟩⟩) (aHe (zK (aD rfl) (.func _ _ Try.call76) (ev2 (aU hS rfl) evn) rfl (sZ _ h4)) (by rintro _ ⟨w, rfl⟩; exact ⟨⟨0, w⟩, aP [0, 3, 2] rfl rfl (le_refl _)⟩)),
      fun X2 S hw hi hS => aVg (X := X2) (p := 2) (v := fun x => .d (.lit (.map (some x.b)))) (mo := fun x => .map x.b (([] : List (aG × Int)).map fun p : aG × Int => ((fun a : aG => Value.agg ((aQ a).map bQ).toArray) p.1, (fun v : Int => AV.i v) p.2)) ([]) 0) hS hi rfl rfl (fun _ => rfl) hw (fun _ => rfl) (fun _ => rfl) (fun _ => rfl) (fun _ => ⟨rfl, rfl, .inr rfl, ⟨rfl, rfl, .inr rfl, ⟨rfl, rfl, .inr rfl, ⟨rfl, rfl, .inr rfl, ⟨rfl, rfl, .inl rfl, trivial⟩⟩⟩⟩⟩) (fun _ => ⟨trivial, rfl, ⟨⟨rfl, .inr rfl, trivial⟩, rfl, ⟨⟨rfl, .inl rfl, trivial⟩, rfl, trivial⟩⟩⟩) (aHe (aBs (aD rfl)) (by rintro _ ⟨w, rfl⟩; exact ⟨⟨w, undef⟩, aP [0, 1, 3] rfl rfl (le_refl _)⟩)), trivial⟩⟩
  · exact fun X2 => cL (aI rfl (aI rfl (aI rfl (aM ⟨rfl, trivial⟩))))
 ·intro X2;refine to (eE (aD rfl) aZl (zs := [.lit (.int .i64 0), .sl 1 ((([] : List Int)).map aK), .sl 1 ((([] : List Int)).map aK), .lit (.map none)]) rfl rfl rfl rfl (es := [.lit (.int .i64 j.Rounds), .sl 1 (j.Slots.map aK), .lit (X2 3).v, .lit (.map (some (X2 4).b))]) rfl) ?_;refine bB rfl (eP (v := .agg [.lit (.int .i64 j.Rounds), .sl 1 (j.Slots.map aK), .lit (X2 3).v, .lit (.map (some (X2 4).b))]) (aD rfl) rfl rfl rfl) ?_;rintro _ ⟨b5, rfl⟩;refine ta (.bp b5 0 0) (aB (aC (aA ?_)));refine bB rfl (aBs (aD rfl)) ?_;rintro _ ⟨r6, rfl⟩;refine bB rfl (aBs (aD rfl)) ?_;rintro _ ⟨r7, rfl⟩;refine ta (.d (.lit (.map (some r6)))) (ta (.d (.lit (.map (some r7)))) (aB (aC (aC (aA (tm (.d (.sl 5 (P.map aJ))) (to (sle rfl fN.of) (tm (.i 0) (aB (bA ?_))))))))));refine vT [6, 7, 8, 28, 29] (fun (s8 : Int × (List (aF × Int)) × (List (aG × aF)) × (List Nat) × Nat × (List Nat) × Nat) => [(30, .i s8.1)]) (fun (s8 : Int × (List (aF × Int)) × (List (aG × aF)) × (List Nat) × Nat × (List Nat) × Nat) => [.arr (X2 3).v 3 1 (r3.map aK), .map (X2 4).b (([] : List (aG × Int)).map fun p : aG × Int => ((fun a : aG => Value.agg ((aQ a).map bQ).toArray) p.1, (fun v : Int => AV.i v) p.2)) ([]) 0, .box b5 0 [.lit (.int .i64 j.Rounds), .sl 1 (j.Slots.map aK), .lit (X2 3).v, .lit (.map (some (X2 4).b))], .map r6 (s8.2.1.map fun p : aF × Int => ((fun a : aF => Value.agg ((aJ a).map bQ).toArray) p.1, (fun v : Int => AV.i v) p.2)) s8.2.2.2.1 s8.2.2.2.2.1, .map r7 (s8.2.2.1.map fun p : aG × aF => ((fun a : aG => Value.agg ((aQ a).map bQ).toArray) p.1, (fun v : aF => AV.agg (aJ v)) p.2)) s8.2.2.2.2.2.1 s8.2.2.2.2.2.2]) (fun (k : Nat) (s8 : Int × (List (aF × Int)) × (List (aG × aF)) × (List Nat) × Nat × (List Nat) × Nat) => iO Q P (P.length : Int) r3 ([] : List (aG × Int)) j k s8.1 s8.2.1 s8.2.2.1) (fun _ h => h) (0, ([] : List (aF × Int)), ([] : List (aG × aF)), [], 0, [], 0) h (aP [1, 2, 3, 4, 5] rfl rfl (aI rfl (aM ⟨rfl, rfl, rfl, rfl, rfl, trivial⟩))) ?_;rintro d7 ⟨I, g, e, J, A, C, s⟩ h;simp only [iO] at h;refine aC (aA (to (scm rfl rfl rfl) (aB (aC ?_))));refine tip h (fun c0 h => ?_) (fun c0 h => ?_)
  ·refine aV (aC (bA (aC (aA ?_))));obtain ⟨c, c1, h⟩ := gI h;refine to (six rfl rfl fN.of (aW aJ c1)) (to (pL (aJ c) rfl lB) ?_);refine bB rfl (cM (zs := [.lit (.int .i64 0), .lit (.int .i64 0), .lit (.int .i64 0), .lit (.int .i64 0), .lit (.int .i64 0)]) (aD rfl) Try.zeroValue46 rfl rfl) ?_;rintro _ ⟨a0, rfl⟩;refine to (sst 5 rfl rfl Try.sizeOf46 (aJ c)) (aB (aC (aC (aA (tfl 5 rfl rfl mU rfl aT (to (scm rfl rfl rfl) (aB ?_)))))));refine tip h (fun c2 h => ?_) (fun c2 h => ?_)
   ·refine aC ?_;refine uF mix 6 [6, 7, 8, 28, 29, 30] (fun u => [(37, .d (.lit (.map (some r6)))), (40, .i (w64 ((cY c 0 g) + 1))), (42, .i (sL c g J A))]) (fun u => [.arr (X2 3).v 3 1 (r3.map aK), .map (X2 4).b (([] : List (aG × Int)).map fun p : aG × Int => ((fun a : aG => Value.agg ((aQ a).map bQ).toArray) p.1, (fun v : Int => AV.i v) p.2)) ([]) 0, .box b5 0 [.lit (.int .i64 j.Rounds), .sl 1 (j.Slots.map aK), .lit (X2 3).v, .lit (.map (some (X2 4).b))], .map r6 ((qU c 0 g).map fun p : aF × Int => ((fun a : aF => Value.agg ((aJ a).map bQ).toArray) p.1, (fun v : Int => AV.i v) p.2)) (mbs c g J A) (mck c g A), .map r7 (e.map fun p : aG × aF => ((fun a : aG => Value.agg ((aQ a).map bQ).toArray) p.1, (fun v : aF => AV.agg (aJ v)) p.2)) C s, .box a0 0 (aJ c)]) ?_ ?_
    ·refine ⟨0, fun u => [(37, 0, .d (.lit (.map (some r6)))), (38, 1, .agg (aJ c)), (39, 2, .i (cY c 0 g)), (40, 3, .i (w64 ((cY c 0 g) + 1))), (41, 4, .tup [.i (cY c 0 g), .i (sL c g J A)]), (42, 5, .i (sL c g J A))], fun u => [([], .arr (X2 3).v 3 1 (r3.map aK)), ([], .map (X2 4).b (([] : List (aG × Int)).map fun p : aG × Int => ((fun a : aG => Value.agg ((aQ a).map bQ).toArray) p.1, (fun v : Int => AV.i v) p.2)) ([]) 0), ([], .box b5 0 [.lit (.int .i64 j.Rounds), .sl 1 (j.Slots.map aK), .lit (X2 3).v, .lit (.map (some (X2 4).b))]), ([(4, .map r6 ((qU c 0 g).map fun p : aF × Int => ((fun a : aF => Value.agg ((aJ a).map bQ).toArray) p.1, (fun v : Int => AV.i v) p.2)) (mbs c g J A) (mck c g A))], .map r6 (g.map fun p : aF × Int => ((fun a : aF => Value.agg ((aJ a).map bQ).toArray) p.1, (fun v : Int => AV.i v) p.2)) J A), ([], .map r7 (e.map fun p : aG × aF => ((fun a : aG => Value.agg ((aQ a).map bQ).toArray) p.1, (fun v : aF => AV.agg (aJ v)) p.2)) C s), ([], .box a0 0 (aJ c))], ?_, ?_⟩
     · exact ⟨by kernel_rfl, by kernel_rfl, by kernel_rfl, fun _ => by kernel_rfl, fun _ => by kernel_rfl, fun _ => by kernel_rfl, fun _ => rfl, [([], [4]), ([], [4]), ([0, 1], []), ([2], []), ([0, 1], []), ([4], [])], by kernel_rfl, ⟨fun u S hw hi hS => bX (X := u) rfl (hw u) rfl (cP rfl (eF (v := .d (.lit (.map (some r6)))) (aD rfl) (aU hS rfl) rfl)),
      fun u S hw hi hS => bX (X := u) rfl (hw u) rfl (cP rfl (zN (aD rfl) (aU hS rfl) (i := 5) (og hS rfl rfl) lB (es := (aJ c)) rfl rfl)),
      fun u S hw hi hS => bX (X := u) rfl (hw u) rfl (cP rfl (aUt (av := (fun v : Int => AV.i v)) (l := g) (z := 0) (a := c) (m := 3) (aD rfl) aOk Try.underlying122 Try.zeroValue3 (fun _ _ => .d (.lit _ rfl)) (aU hS rfl) (og2 rfl) rfl (aU hS rfl) (pZ (enc := aJ) c rfl))),
      fun u S hw hi hS => bX (X := u) rfl (hw u) rfl (cP rfl (oZ (aD rfl) (aU hS rfl) rfl rfl)),
      fun u S hw hi hS => aZq (X := u) (p := 3) hS rfl rfl rfl (hw u) rfl rfl rfl (aHe (aSp (av := (fun v : Int => AV.i v)) (l := g) (z := 0) (a := c) (m := 3) (aD rfl) aOk Try.underlying122 Try.zeroValue3 (fun _ _ => .d (.lit _ rfl)) (aU hS rfl) (og hS rfl rfl) rfl (aU hS rfl) (pZ (enc := aJ) c rfl)) (by rintro _ rfl; exact Ent.refl _)),
      fun u S hw hi hS => bX (X := u) rfl (hw u) rfl (cP rfl (aGw (aD rfl) (aU hS rfl) rfl)), trivial⟩⟩
     · exact fun u => cL (aI rfl (aI rfl (aI rfl (aM ⟨rfl, rfl, rfl, rfl, rfl, rfl, trivial⟩))))
    ·intro u;refine to (aNf (kv := (fun a : aF => Value.agg ((aJ a).map bQ).toArray)) (av := (fun v : Int => AV.i v)) (l := g) (z := 0) (v := w64 ((cY c 0 g) + 1)) (a := c) (m := 3) rfl rfl rfl rfl rfl) ?_;refine aB ?_;refine bT ?_;refine .inl ⟨rfl, ?_⟩;refine aA (to (sar rfl rfl rfl) (tm (.i (w64 (I + 1))) (aB ?_)));exact ⟨(w64 (I + 1), (gN c (w64 ((cY c 0 g) + 1)) g), e, (mbs c g J A), (mck c g A), C, s), h, aP [0, 1, 2, 3, 4] rfl rfl (aI rfl (aM ⟨rfl, rfl, rfl, rfl, rfl, trivial⟩))⟩
   ·refine aV (aC (aA (tfl 5 rfl rfl pF rfl aT (tfl 5 rfl rfl kT rfl aT (to (eE (aD rfl) aLv (zs := [.lit (.int .i64 0), .lit (.int .i64 0)]) rfl rfl rfl rfl (es := [.lit (.int .i64 c.Round), .lit (.int .i64 c.Place)]) rfl) ?_)))));refine bB rfl (cM (zs := [.lit (.int .i64 0), .lit (.int .i64 0)]) (aD rfl) Try.zeroValue120 rfl rfl) ?_;rintro _ ⟨c3, rfl⟩;refine to (sst 6 rfl rfl Try.sizeOf120 (aQ (aG.mk c.Round c.Place))) (aB (aC (aC (aA (tm (.d (.lit (.map (some r7)))) (to (sla 6 (aQ (aG.mk c.Round c.Place)) rfl rfl vW) (to (aLf (av := (fun v : aF => AV.agg (aJ v))) (l := e) (z := (aF.mk 0 0 0 0 0)) (a := (aG.mk c.Round c.Place)) (m := 4) (aD rfl) zV Try.underlying123 Try.zeroValue46 (fun _ _ => .agg (aGb rfl)) rfl rfl rfl rfl (pZ (enc := aQ) (aG.mk c.Round c.Place) rfl)) ?_)))))));refine tm (.tup [.agg (aJ (cY (aG.mk c.Round c.Place) (aF.mk 0 0 0 0 0) e)), .b (dY (aG.mk c.Round c.Place) e)]) (to (sex rfl rfl) (to (sex rfl rfl) ?_));refine bB rfl (cM (zs := [.lit (.int .i64 0), .lit (.int .i64 0), .lit (.int .i64 0), .lit (.int .i64 0), .lit (.int .i64 0)]) (aD rfl) Try.zeroValue46 rfl rfl) ?_;rintro _ ⟨c4, rfl⟩;refine to (sst 7 rfl rfl Try.sizeOf46 (aJ (cY (aG.mk c.Round c.Place) (aF.mk 0 0 0 0 0) e))) (ta (.b (dY (aG.mk c.Round c.Place) e)) (aB (aC (aA (tm (.b (dY (aG.mk c.Round c.Place) e)) (tm (.b (dY (aG.mk c.Round c.Place) e)) ?_))))));obtain ⟨c5, T, h⟩ := gI h;refine aY 4 [6, 7, 8, 10, 11, 28, 29, 30] 59 c5 ?_ ?_
    ·refine bch T (fun K T => ?_) (fun K T => ?_)
     ·refine tk K (sla 7 (aJ (cY (aG.mk c.Round c.Place) (aF.mk 0 0 0 0 0) e)) rfl rfl lB) (tk K (sla 5 (aJ c) rfl rfl lB) (tk K (aHo (a := (cY (aG.mk c.Round c.Place) (aF.mk 0 0 0 0 0) e)) (b := c) (aD rfl) rfl rfl rfl rfl Try.eqGuardType46 aOd) ?_));refine to (spt (.b (!decide ((cY (aG.mk c.Round c.Place) (aF.mk 0 0 0 0 0) e) = c))) K) ?_;obtain rfl := sIn T;refine aB (aL rfl ⟨rfl, rfl, rfl, rfl, rfl, rfl, rfl, rfl, trivial⟩ rfl)
     ·refine tp K (tp K (tp K (to (spf (.b false) K) ?_)));obtain rfl := sIn T;refine aB (aL rfl ⟨rfl, rfl, rfl, rfl, rfl, rfl, rfl, rfl, trivial⟩ rfl)
    ·refine aB ?_;refine tip h (fun c6 h => ?_) (fun c6 h => ?_)
     ·refine aC (aA (ta (fG bN (none : Option bC)) (ta (.b false) (aB ?_))));exact aX ⟨rfl, _, [], [.arr (X2 3).v 3 1 (r3.map aK), .map (X2 4).b (([] : List (aG × Int)).map fun p : aG × Int => ((fun a : aG => Value.agg ((aQ a).map bQ).toArray) p.1, (fun v : Int => AV.i v) p.2)) ([]) 0, .box b5 0 [.lit (.int .i64 j.Rounds), .sl 1 (j.Slots.map aK), .lit (X2 3).v, .lit (.map (some (X2 4).b))], .map r6 (g.map fun p : aF × Int => ((fun a : aF => Value.agg ((aJ a).map bQ).toArray) p.1, (fun v : Int => AV.i v) p.2)) J A, .map r7 (e.map fun p : aG × aF => ((fun a : aG => Value.agg ((aQ a).map bQ).toArray) p.1, (fun v : aF => AV.agg (aJ v)) p.2)) C s, .box a0 0 (aJ c), .box c3 0 (aQ (aG.mk c.Round c.Place)), .box c4 0 (aJ (cY (aG.mk c.Round c.Place) (aF.mk 0 0 0 0 0) e))], _, .two (.tmp 4 (v := fG bN (none : Option bC)) rfl) (.tmp 5 (v := .b false) rfl), .refl _, .same _, ((none : Option bC), false), h, rfl, rfl⟩
     ·refine aV (aA (tm (.d (.lit (.map (some r7)))) (to (sla 6 (aQ (aG.mk c.Round c.Place)) rfl rfl vW) (to (sla 5 (aJ c) rfl rfl lB) (to (aCg (av := (fun v : aF => AV.agg (aJ v))) (l := e) (v := c) (a := (aG.mk c.Round c.Place)) (m := 4) zV Try.underlying123 rfl rfl rfl rfl (pZ (enc := aQ) (aG.mk c.Round c.Place) rfl) rfl rfl) ?_)))));refine cU ?_;refine aA (to (sar rfl rfl rfl) (tm (.i (w64 (I + 1))) (aB ?_)));exact ⟨(w64 (I + 1), g, (gN (aG.mk c.Round c.Place) c e), J, A, (mbs (aG.mk c.Round c.Place) e C s), (mck (aG.mk c.Round c.Place) e s)), h, aP [0, 1, 2, 3, 4] rfl rfl (aI rfl (aM ⟨rfl, rfl, rfl, rfl, rfl, trivial⟩))⟩
  ·refine bT ?_;refine .inl ⟨rfl, ?_⟩;simp only [rU] at h;refine aC (aC (aA (tm (.bp b5 0 0) (tm (.d (.lit (.map (some r6)))) ?_))));refine nX (aP [2, 0, 3, 1, 4] rfl rfl (le_refl _)) ?_;refine bB rfl (eY (passed := [.box b5 0 [.lit (.int .i64 j.Rounds), .sl 1 (j.Slots.map aK), .lit (X2 3).v, .lit (.map (some (X2 4).b))], .arr (X2 3).v 3 1 (r3.map aK), .map r6 (g.map fun p : aF × Int => ((fun a : aF => Value.agg ((aJ a).map bQ).toArray) p.1, (fun v : Int => AV.i v) p.2)) J A]) (aD rfl) rfl (.func _ _ Try.call77) rfl rfl (aBz j r3 g h)) ?_;rintro _ ⟨_, _, ⟨E, b6, b7, h, rfl, rfl⟩, rfl⟩;refine to (sn rfl) (aB ?_);refine tip h (fun c7 h => ?_) (fun c7 h => ?_)
   ·refine aC (aA (ta (fG bN (none : Option bC)) (ta (.b false) (aB ?_))));exact aX ⟨rfl, _, [], [.box b5 0 [.lit (.int .i64 j.Rounds), .sl 1 (j.Slots.map aK), .lit (X2 3).v, .lit (.map (some (X2 4).b))], .arr (X2 3).v 3 1 (E.2.1.map aK), .map r6 (E.2.2.map fun p : aF × Int => ((fun a : aF => Value.agg ((aJ a).map bQ).toArray) p.1, (fun v : Int => AV.i v) p.2)) b6 b7, .map (X2 4).b (([] : List (aG × Int)).map fun p : aG × Int => ((fun a : aG => Value.agg ((aQ a).map bQ).toArray) p.1, (fun v : Int => AV.i v) p.2)) ([]) 0, .map r7 (e.map fun p : aG × aF => ((fun a : aG => Value.agg ((aQ a).map bQ).toArray) p.1, (fun v : aF => AV.agg (aJ v)) p.2)) C s], _, .two (.tmp 4 (v := fG bN (none : Option bC)) rfl) (.tmp 5 (v := .b false) rfl), .refl _, .same _, ((none : Option bC), false), h, rfl, rfl⟩
   ·refine aV (aC (aC (aA (tm (.bp b5 0 0) (to (nF (aD rfl) rfl) ?_)))));refine tfl 0 rfl rfl qS rfl cN (to (jS (m := 1) (aD rfl) rfl rfl bG.of) ?_);refine tm (.i 0) (aB (bA ?_));refine vT [6, 8, 71, 72] (fun (M : Int × (List (aG × Int)) × (List Nat) × Nat) => [(73, .i M.1)]) (fun (M : Int × (List (aG × Int)) × (List Nat) × Nat) => [.arr (X2 3).v 3 1 (E.2.1.map aK), .map (X2 4).b (M.2.1.map fun p : aG × Int => ((fun a : aG => Value.agg ((aQ a).map bQ).toArray) p.1, (fun v : Int => AV.i v) p.2)) M.2.2.1 M.2.2.2, .box b5 0 [.lit (.int .i64 j.Rounds), .sl 1 (j.Slots.map aK), .lit (X2 3).v, .lit (.map (some (X2 4).b))], .map r7 (e.map fun p : aG × aF => ((fun a : aG => Value.agg ((aQ a).map bQ).toArray) p.1, (fun v : aF => AV.agg (aJ v)) p.2)) C s]) (fun (k : Nat) (M : Int × (List (aG × Int)) × (List Nat) × Nat) => iP Q (E.2.1.length : Int) E.2.1 j e k M.1 M.2.1) (fun _ h => h) (0, ([] : List (aG × Int)), [], 0) h (aP [1, 3, 0, 4] rfl rfl (aI rfl (aM ⟨rfl, rfl, rfl, rfl, trivial⟩))) ?_;rintro d8 ⟨y, H, U, V⟩ h;simp only [iP] at h;refine aC (aA (to (scm rfl rfl rfl) (aB (aC ?_))));refine tip h (fun c8 h => ?_) (fun c8 h => ?_)
    ·refine aV (aC (bA (aC (aA (tm (.i y) ?_)))));obtain ⟨a8, a9, h⟩ := gI h;refine to (dI (m := 0) (aD rfl) rfl rfl rfl bG.of (aW aK a9)) ?_;refine to (iN (aD rfl) rfl (m := 0) rfl (dR aK a9) rfl aT) ?_;refine ta (.i y) (ta (.i a8) (aB (aC (aA (tm (.i a8) (to (scm rfl rfl rfl) (aB ?_)))))));refine tip h (fun c9 h => ?_) (fun c9 h => ?_)
     ·refine aA (tm (.bp b5 0 0) (tm (.i y) (to (aUo (aD rfl) rfl rfl (.inr (.inr ⟨rfl, rfl⟩))) ?_)));obtain ⟨d0, d1, h⟩ := gI h;refine nX (aP [2, 0, 1, 3] rfl rfl (le_refl _)) ?_;refine bB rfl (eY (passed := [.box b5 0 [.lit (.int .i64 j.Rounds), .sl 1 (j.Slots.map aK), .lit (X2 3).v, .lit (.map (some (X2 4).b))], .arr (X2 3).v 3 1 (E.2.1.map aK), .map (X2 4).b (H.map fun p : aG × Int => ((fun a : aG => Value.agg ((aQ a).map bQ).toArray) p.1, (fun v : Int => AV.i v) p.2)) U V]) (aD rfl) rfl (.func _ _ Try.call78) rfl rfl (xD j E.2.1 H (aNu y 1) 0 d1)) ?_;rintro _ ⟨_, _, ⟨b8, b9, rfl, rfl⟩, rfl⟩;refine cU ?_;refine aA (to (sar rfl rfl rfl) (tm (.i (w64 (y + 1))) (aB ?_)));exact ⟨(w64 (y + 1), d0.2, b8, b9), h, aP [1, 2, 0, 3] rfl rfl (aI rfl (aM ⟨rfl, rfl, rfl, rfl, trivial⟩))⟩
     ·refine cR ?_;refine aA (to (sar rfl rfl rfl) (tm (.i (w64 (y + 1))) (aB ?_)));exact ⟨(w64 (y + 1), H, U, V), h, aP [0, 1, 2, 3] rfl rfl (aI rfl (aM ⟨rfl, rfl, rfl, rfl, trivial⟩))⟩
    ·refine bT ?_;refine .inl ⟨rfl, ?_⟩;simp only [rV] at h;refine aC (aC (aA (tm (.d (.lit (.map (some r7)))) ?_)));refine bB rfl (aRh (m := 3) (aD rfl) Try.underlying123 rfl rfl) ?_;rintro _ ⟨Z, d2, rfl⟩;have h := aGf h d2;refine aB (bA ?_);refine vT [6, 86] (fun (N : (List (aG × Int)) × (List Nat) × Nat × (List Nat)) => []) (fun (N : (List (aG × Int)) × (List Nat) × Nat × (List Nat)) => [.arr (X2 3).v 3 1 (E.2.1.map aK), .map (X2 4).b (N.1.map fun p : aG × Int => ((fun a : aG => Value.agg ((aQ a).map bQ).toArray) p.1, (fun v : Int => AV.i v) p.2)) N.2.1 N.2.2.1, .box b5 0 [.lit (.int .i64 j.Rounds), .sl 1 (j.Slots.map aK), .lit (X2 3).v, .lit (.map (some (X2 4).b))], .map r7 (e.map fun p : aG × aF => ((fun a : aG => Value.agg ((aQ a).map bQ).toArray) p.1, (fun v : aF => AV.agg (aJ v)) p.2)) C s, .iter Z r7 s N.2.2.2 s]) (fun (k : Nat) (N : (List (aG × Int)) × (List Nat) × Nat × (List Nat)) => kQ Q E.2.1 j e k N.1 (nV e C N.2.2.2)) (fun _ h => h) (H, U, V, []) h (aP [0, 1, 2, 3, 4] rfl rfl (aM ⟨rfl, rfl, trivial⟩)) ?_;rintro d9 ⟨B, W, Y, L⟩ h;simp only [kQ] at h;refine aC (aA ?_);refine bB rfl (aUu (kv := (fun a : aG => Value.agg ((aQ a).map bQ).toArray)) (av := (fun v : aF => AV.agg (aJ v))) (l := e) (mi := 4) (mm := 3) (aD rfl) rfl rfl rfl) ?_;rintro _ (⟨d3, rfl⟩ | ⟨e0, a1, n, b0, rfl⟩)
     ·have h := h.1 d3;refine to (sex rfl rfl) (aB (aC ?_));refine zR rfl (fun b2 => ?_) (fun b2 => ?_)
      ·exact absurd b2 (by decide)
      ·refine bT ?_;refine .inl ⟨rfl, ?_⟩;simp only [vI] at h;refine aC (aA (tm (.bp b5 0 0) (ta (.bp b5 0 0) (ta (.b true) (aB ?_)))));exact aX ⟨rfl, _, [], [.arr (X2 3).v 3 1 (E.2.1.map aK), .map (X2 4).b (B.map fun p : aG × Int => ((fun a : aG => Value.agg ((aQ a).map bQ).toArray) p.1, (fun v : Int => AV.i v) p.2)) W Y, .box b5 0 [.lit (.int .i64 j.Rounds), .sl 1 (j.Slots.map aK), .lit (X2 3).v, .lit (.map (some (X2 4).b))], .map r7 (e.map fun p : aG × aF => ((fun a : aG => Value.agg ((aQ a).map bQ).toArray) p.1, (fun v : aF => AV.agg (aJ v)) p.2)) C s, .iter Z r7 s L s], _, .two (.tmp 4 (v := .bp b5 0 0) rfl) (.tmp 5 (v := .b true) rfl), .refl _, aFl (.cons (aBe 2 rfl rfl (dvc (.same _) (dvc (.same _) (dvc (kK 0 rfl (cI (f := aK) fun _ => rfl)) (dvc (aZu (kv := (fun a : aG => Value.agg ((aQ a).map bQ).toArray)) (av := (fun v : Int => AV.i v)) (l := B) (enc := aK) (agg := false) 1 rfl (fun _ _ => rfl) (fun _ => rfl)) dvn))))) (.cons (.same _) .nil)), ((some (bC.mk j E.2.1 B)), true), h, rfl, rfl⟩
     ·have h := aIc h b0;refine to (sex rfl rfl) (aB (aC ?_));refine zR rfl (fun b3 => ?_) (fun b3 => ?_)
      ·refine aV (bA (aC (aA (to (aRg (kv := (fun a : aG => Value.agg ((aQ a).map bQ).toArray)) (av := (fun v : aF => AV.agg (aJ v))) (l := e) (mi := 4) (mm := 3) (ka := .agg (aQ n.1)) (aD rfl) rfl rfl rfl b0 (fun _ _ => .agg (aGb rfl))) ?_))));refine to (sex rfl rfl) (to (sex rfl rfl) ?_);refine bB rfl (cM (zs := [.lit (.int .i64 0), .lit (.int .i64 0)]) (aD rfl) Try.zeroValue120 rfl rfl) ?_;rintro _ ⟨O, rfl⟩;refine bB rfl (cM (zs := [.lit (.int .i64 0), .lit (.int .i64 0), .lit (.int .i64 0), .lit (.int .i64 0), .lit (.int .i64 0)]) (aD rfl) Try.zeroValue46 rfl rfl) ?_;rintro _ ⟨a2, rfl⟩;refine to (sst 5 rfl rfl Try.sizeOf120 (aQ n.1)) (to (sst 6 rfl rfl Try.sizeOf46 (aJ n.2)) (aB (aC ?_)));refine cW mix 6 [6, 16, 86] [(95, .d (.lit (X2 3).v)), (97, .i n.2.Player)] ?_ ?_
       ·refine ⟨[(92, 0, .bp b5 0 0), (93, 1, .bp b5 0 0), (94, 2, .bp b5 0 2), (95, 3, .d (.lit (X2 3).v)), (96, 4, .bp a2 0 3), (97, 5, .i n.2.Player)], ?_, ?_⟩
        · exact dok [([], []), ([0], []), ([1], []), ([2], []), ([], []), ([4], [])] ⟨go (zm (.bp b5 0 0)),
      go fun S hS => nF (aD rfl) (aU hS rfl),
      go (zf rfl qS),
      go (zl 2 rfl rfl rfl cN),
      go (zf rfl nY),
      go (zl 6 rfl rfl rfl aT), trivial⟩
        · exact cL (aI rfl (aI rfl (aM ⟨rfl, rfl, rfl, trivial⟩)))
       ·obtain ⟨o, d4, h⟩ := gI h;refine to (sc Try.call79 (uC _ _ d4) (.cons (.d (kK 0 rfl (cI (f := aK) fun _ => rfl))) (.cons (.same _) .nil))) (ta (.i o) (aB (aC ?_)));obtain ⟨a3, G, h⟩ := gI h;refine aJr (a3) (fun t => ?_) (fun t => ?_)
        ·have h := aQz t h;refine cW mix 15 [6, 86] [(109, .b a3)] ?_ ?_
         ·refine bch G (fun q G => ?_) (fun q G => ?_)
          ·obtain rfl := sIn G;refine ⟨[(99, 0, .i o), (100, 1, .b (decide (o < 0))), (101, 2, .b (decide (o < 0))), (102, 3, .tup []), (103, 4, .tup []), (104, 5, .tup []), (105, 6, .tup []), (106, 7, .tup []), (107, 8, .tup []), (108, 9, .b true), (109, 10, .b (true)), (110, 11, .tup []), (111, 12, .tup []), (112, 13, .tup []), (113, 14, .tup [])], ?_, ?_⟩
           · exact dok [([], []), ([0], []), ([1], []), ([2], []), ([2, 3], []), ([2], []), ([2, 4, 5], []), ([2], []), ([2, 6, 7], []), ([2, 8], []), ([9], []), ([10], []), ([10], []), ([10], []), ([10, 13], [])] ⟨go (zm (.i o)),
      go (zcm rfl rfl rfl),
      go (zm (.b (decide (o < 0)))),
      gp q,
      gp q,
      gp q,
      gp q,
      gp q,
      gp q,
      go (zpt (.b true) q),
      go (zm (.b (true))),
      gp t,
      gp t,
      gp t,
      gp t, trivial⟩
           · exact cL (aI rfl (aM ⟨rfl, rfl, trivial⟩))
          ·obtain ⟨F, a4, G⟩ := bns G;obtain rfl := sIn G;refine ⟨[(99, 0, .i o), (100, 1, .b (decide (o < 0))), (101, 2, .b (decide (o < 0))), (102, 3, .bp O 0 0), (103, 4, .i n.1.round), (104, 5, .i o), (105, 6, .agg (aQ F)), (106, 7, .agg (aQ n.1)), (107, 8, .b (!decide (F = n.1))), (108, 9, .b (!decide (F = n.1))), (109, 10, .b (!decide (F = n.1))), (110, 11, .tup []), (111, 12, .tup []), (112, 13, .tup []), (113, 14, .tup [])], ?_, ?_⟩
           · exact dok [([], []), ([0], []), ([1], []), ([2], []), ([2, 3], []), ([2], []), ([2, 4, 5], []), ([2], []), ([2, 6, 7], []), ([2, 8], []), ([9], []), ([10], []), ([10], []), ([10], []), ([10, 13], [])] ⟨go (zm (.i o)),
      go (zcm rfl rfl rfl),
      go (zm (.b (decide (o < 0)))),
      gt q (zf rfl tO),
      gt q (zl 5 rfl rfl rfl aT),
      gt q (zm (.i o)),
      gt q fun S hS => fE (aD rfl) (.func _ _ Try.call80) (ev2 (aU hS rfl) (ev2 (aU hS rfl) evn)) rfl (tF _ _ a4),
      gt q (zla 5 (aQ n.1) rfl rfl vW),
      gt q fun S hS => aHo (a := F) (b := n.1) (aD rfl) (aU hS rfl) (aU hS rfl) rfl rfl Try.eqGuardType120 aLn,
      go (zpf (.b (!decide (F = n.1))) q),
      go (zm (.b (!decide (F = n.1)))),
      gp t,
      gp t,
      gp t,
      gp t, trivial⟩
           · exact cL (aI rfl (aM ⟨rfl, rfl, trivial⟩))
         ·refine tp t (tp t (to (spt (.b true) t) (aB ?_)));refine zR rfl (fun b4 => ?_) (fun b4 => ?_)
          ·refine aC (aA (ta (fG bN (none : Option bC)) (ta (.b false) (aB ?_))));exact aX ⟨rfl, _, [], [.arr (X2 3).v 3 1 (E.2.1.map aK), .map (X2 4).b (B.map fun p : aG × Int => ((fun a : aG => Value.agg ((aQ a).map bQ).toArray) p.1, (fun v : Int => AV.i v) p.2)) W Y, .box b5 0 [.lit (.int .i64 j.Rounds), .sl 1 (j.Slots.map aK), .lit (X2 3).v, .lit (.map (some (X2 4).b))], .map r7 (e.map fun p : aG × aF => ((fun a : aG => Value.agg ((aQ a).map bQ).toArray) p.1, (fun v : aF => AV.agg (aJ v)) p.2)) C s, .iter Z r7 s (L ++ [a1]) s, .box O 0 (aQ n.1), .box a2 0 (aJ n.2)], _, .two (.tmp 4 (v := fG bN (none : Option bC)) rfl) (.tmp 5 (v := .b false) rfl), .refl _, .same _, ((none : Option bC), false), h, rfl, rfl⟩
          ·exact absurd b4 (by decide)
        ·have h := aQy t h;refine cW mix 15 [6, 86] [(109, .b a3), (110, .bp b5 0 0), (111, .i o), (112, .bp O 0 0), (113, .i n.1.round)] ?_ ?_
         ·refine bch G (fun q G => ?_) (fun q G => ?_)
          ·obtain rfl := sIn G;refine ⟨[(99, 0, .i o), (100, 1, .b (decide (o < 0))), (101, 2, .b (decide (o < 0))), (102, 3, .tup []), (103, 4, .tup []), (104, 5, .tup []), (105, 6, .tup []), (106, 7, .tup []), (107, 8, .tup []), (108, 9, .b true), (109, 10, .b (true)), (110, 11, .bp b5 0 0), (111, 12, .i o), (112, 13, .bp O 0 0), (113, 14, .i n.1.round)], ?_, ?_⟩
           · exact dok [([], []), ([0], []), ([1], []), ([2], []), ([2, 3], []), ([2], []), ([2, 4, 5], []), ([2], []), ([2, 6, 7], []), ([2, 8], []), ([9], []), ([10], []), ([10], []), ([10], []), ([10, 13], [])] ⟨go (zm (.i o)),
      go (zcm rfl rfl rfl),
      go (zm (.b (decide (o < 0)))),
      gp q,
      gp q,
      gp q,
      gp q,
      gp q,
      gp q,
      go (zpt (.b true) q),
      go (zm (.b (true))),
      gt t (zm (.bp b5 0 0)),
      gt t (zm (.i o)),
      gt t (zf rfl tO),
      gt t (zl 5 rfl rfl rfl aT), trivial⟩
           · exact cL (aI rfl (aI rfl (aI rfl (aI rfl (aI rfl (aM ⟨rfl, rfl, trivial⟩))))))
          ·obtain ⟨F, a4, G⟩ := bns G;obtain rfl := sIn G;refine ⟨[(99, 0, .i o), (100, 1, .b (decide (o < 0))), (101, 2, .b (decide (o < 0))), (102, 3, .bp O 0 0), (103, 4, .i n.1.round), (104, 5, .i o), (105, 6, .agg (aQ F)), (106, 7, .agg (aQ n.1)), (107, 8, .b (!decide (F = n.1))), (108, 9, .b (!decide (F = n.1))), (109, 10, .b (!decide (F = n.1))), (110, 11, .bp b5 0 0), (111, 12, .i o), (112, 13, .bp O 0 0), (113, 14, .i n.1.round)], ?_, ?_⟩
           · exact dok [([], []), ([0], []), ([1], []), ([2], []), ([2, 3], []), ([2], []), ([2, 4, 5], []), ([2], []), ([2, 6, 7], []), ([2, 8], []), ([9], []), ([10], []), ([10], []), ([10], []), ([10, 13], [])] ⟨go (zm (.i o)),
      go (zcm rfl rfl rfl),
      go (zm (.b (decide (o < 0)))),
      gt q (zf rfl tO),
      gt q (zl 5 rfl rfl rfl aT),
      gt q (zm (.i o)),
      gt q fun S hS => fE (aD rfl) (.func _ _ Try.call80) (ev2 (aU hS rfl) (ev2 (aU hS rfl) evn)) rfl (tF _ _ a4),
      gt q (zla 5 (aQ n.1) rfl rfl vW),
      gt q fun S hS => aHo (a := F) (b := n.1) (aD rfl) (aU hS rfl) (aU hS rfl) rfl rfl Try.eqGuardType120 aLn,
      go (zpf (.b (!decide (F = n.1))) q),
      go (zm (.b (!decide (F = n.1)))),
      gt t (zm (.bp b5 0 0)),
      gt t (zm (.i o)),
      gt t (zf rfl tO),
      gt t (zl 5 rfl rfl rfl aT), trivial⟩
           · exact cL (aI rfl (aI rfl (aI rfl (aI rfl (aI rfl (aM ⟨rfl, rfl, trivial⟩))))))
         ·obtain ⟨a5, d5, h⟩ := gI h;refine nX (aP [2, 0, 1, 3, 4, 5, 6] rfl rfl (le_refl _)) ?_;refine aRj rfl rfl (aD rfl) rfl t (eY (passed := [.box b5 0 [.lit (.int .i64 j.Rounds), .sl 1 (j.Slots.map aK), .lit (X2 3).v, .lit (.map (some (X2 4).b))], .arr (X2 3).v 3 1 (E.2.1.map aK), .map (X2 4).b (B.map fun p : aG × Int => ((fun a : aG => Value.agg ((aQ a).map bQ).toArray) p.1, (fun v : Int => AV.i v) p.2)) W Y]) (aD rfl) rfl (.func _ _ Try.call78) rfl rfl (xD j E.2.1 B o n.1.round d5)) ?_;rintro _ ⟨_, _, ⟨a6, a7, rfl, rfl⟩, rfl⟩;refine tk t (sn rfl) (to (spf (.b (!a5.1)) t) (aB ?_));refine tip h (fun d6 h => ?_) (fun d6 h => ?_)
          ·refine aC (aA (ta (fG bN (none : Option bC)) (ta (.b false) (aB ?_))));exact aX ⟨rfl, _, [], [.box b5 0 [.lit (.int .i64 j.Rounds), .sl 1 (j.Slots.map aK), .lit (X2 3).v, .lit (.map (some (X2 4).b))], .arr (X2 3).v 3 1 (E.2.1.map aK), .map (X2 4).b (a5.2.map fun p : aG × Int => ((fun a : aG => Value.agg ((aQ a).map bQ).toArray) p.1, (fun v : Int => AV.i v) p.2)) a6 a7, .map r7 (e.map fun p : aG × aF => ((fun a : aG => Value.agg ((aQ a).map bQ).toArray) p.1, (fun v : aF => AV.agg (aJ v)) p.2)) C s, .iter Z r7 s (L ++ [a1]) s, .box O 0 (aQ n.1), .box a2 0 (aJ n.2)], _, .two (.tmp 4 (v := fG bN (none : Option bC)) rfl) (.tmp 5 (v := .b false) rfl), .refl _, .same _, ((none : Option bC), false), h, rfl, rfl⟩
          ·refine cR ?_;exact ⟨(a5.2, a6, a7, (L ++ [a1])), h, aP [1, 2, 0, 3, 4] rfl rfl (aM ⟨rfl, rfl, trivial⟩)⟩
      ·exact absurd b3 (by decide)

theorem aCk (a : aR) (e : List aF) {Q : ((Option bC) × Int) → Prop} (h : nH a e Q) : fP Try.prog 31 [.agg (bD a), .d (.sl 5 (e.map aJ))] [] (fun r' o' => ∃ (r : (Option bC) × Int), Q r ∧ r' = .tup [fG bN r.1, .i r.2] ∧ o' = []) := by
 unfold nH at h;refine jR Try.func31 rfl (rs := [.tmp 4, .tmp 5]) Try.results31 Try.ntmps31 (Nat.le_of_ble_eq_true rfl) ?_;refine aC (aA ?_);refine bB rfl (eP (v := .agg (bD a)) (aD rfl) rfl rfl rfl) ?_;rintro _ ⟨b1, rfl⟩;refine ta (fG bN (none : Option bC)) (ta (.i 0) (aB (aC (aC (aA (to (sla 0 (bD a) rfl rfl mG) ?_))))));obtain ⟨r2, h3, h⟩ := gI h;refine to (scr Try.call46 (aIs _ h3)) (to (sn rfl) (aB ?_));refine tip h (fun c4 h => ?_) (fun c4 h => ?_)
 ·refine aC (aA (ta (fG bN (none : Option bC)) (ta (.i 70) (aB ?_))));exact aX ⟨rfl, _, [], [.box b1 0 (bD a)], _, .two (.tmp 4 (v := fG bN (none : Option bC)) rfl) (.tmp 5 (v := .i 70) rfl), .refl _, .same _, ((none : Option bC), 70), h, rfl, rfl⟩
 ·refine aV (aC (aC (aA (tm (.d (.sl 5 (e.map aJ))) (to (sle rfl fN.of) (to (scm rfl rfl rfl) (tm (.b (decide (60 < (e.length : Int)))) ?_)))))));obtain ⟨b5, h6, h⟩ := gI h;refine aY 4 [1, 2] 18 b5 ?_ ?_
  ·refine bch h6 (fun c h6 => ?_) (fun c h6 => ?_)
   ·refine tp c (tp c (tp c (to (spt (.b true) c) ?_)));obtain rfl := sIn h6;refine aB (aL rfl ⟨rfl, rfl, trivial⟩ rfl)
   ·refine tk c (sm (.d (.sl 5 (e.map aJ)))) (tk c (aPg (aD rfl) rfl rfl) ?_);obtain ⟨f, g, h6⟩ := bns h6;refine tk c (sc Try.call47 (xA _ _ 48 [.cp [.lit (.int .i64 a.Rounds), .sl 1 (a.Slots.map aK)]] Try.call48 (fun _ _ h6 => aIt _ _ h6) g) (.cons (.same _) (.cons (aXa (.cons (aBe 0 rfl rfl (dvc (.same _) (dvc (.same _) dvn))) .nil)) .nil))) (to (spf (.b f) c) ?_);obtain rfl := sIn h6;refine aB (aL rfl ⟨rfl, rfl, trivial⟩ rfl)
  ·refine aB ?_;refine tip h (fun c7 h => ?_) (fun c7 h => ?_)
   ·refine aC (aA (ta (fG bN (none : Option bC)) (ta (.i 71) (aB ?_))));exact aX ⟨rfl, _, [], [.box b1 0 (bD a)], _, .two (.tmp 4 (v := fG bN (none : Option bC)) rfl) (.tmp 5 (v := .i 71) rfl), .refl _, .same _, ((none : Option bC), 71), h, rfl, rfl⟩
   ·refine aV (aC (aA (to (sla 0 (bD a) rfl rfl mG) (tm (.d (.sl 5 (e.map aJ))) ?_))));refine bB rfl (zZ (aD rfl) (.func _ _ Try.call50) rfl rfl (aJv _ _ h)) ?_;rintro _ ⟨_, _, ⟨r8, h, rfl, rfl⟩, rfl⟩;refine tm (.tup [fG bN r8.1, .b r8.2]) (to (sex rfl rfl) (to (sex rfl rfl) (ta (fG bN r8.1) (ta (.b r8.2) (aB (aC (aC (aA (tm (.b r8.2) (to (sn rfl) (aB ?_)))))))))));refine tip h (fun c9 h => ?_) (fun c9 h => ?_)
    ·refine aC (aA (ta (fG bN (none : Option bC)) (ta (.i 72) (aB ?_))));exact aX ⟨rfl, _, [], [.box b1 0 (bD a)], _, .two (.tmp 4 (v := fG bN (none : Option bC)) rfl) (.tmp 5 (v := .i 72) rfl), .refl _, .same _, ((none : Option bC), 72), h, rfl, rfl⟩
    ·refine aV (aC (aA (tm (fG bN r8.1) (ta (fG bN r8.1) (ta (.i 0) (aB ?_))))));exact aX ⟨rfl, _, [], [.box b1 0 (bD a)], _, .two (.tmp 4 (v := fG bN r8.1) rfl) (.tmp 5 (v := .i 0) rfl), .refl _, .same _, (r8.1, 0), h, rfl, rfl⟩

theorem aJt (a : aR) (b : List aF) {Q : Int → Prop} (h : sG a b Q) : fP Try.prog 32 [.agg (bD a), .d (.sl 5 (b.map aJ))] [] (fun r' o' => ∃ (r : Int), Q r ∧ r' = .i r ∧ o' = []) := by
 unfold sG at h;refine jR Try.func32 rfl (rs := [.tmp 4]) Try.results32 Try.ntmps32 (Nat.le_of_ble_eq_true rfl) ?_;refine aC (aA ?_);refine bB rfl (eP (v := .agg (bD a)) (aD rfl) rfl rfl rfl) ?_;rintro _ ⟨b1, rfl⟩;refine ta (.i 0) (aB (aC (aA (to (sla 0 (bD a) rfl rfl mG) (tm (.d (.sl 5 (b.map aJ))) ?_)))));refine bB rfl (zZ (aD rfl) (.func _ _ Try.call31) rfl rfl (aCk _ _ h)) ?_;rintro _ ⟨_, _, ⟨r2, h, rfl, rfl⟩, rfl⟩;refine tm (.tup [fG bN r2.1, .i r2.2]) (to (sex rfl rfl) (to (sex rfl rfl) (ta (fG bN r2.1) (ta (.i r2.2) (aB (aC (aA (tm (.i r2.2) (ta (.i r2.2) (aB ?_))))))))));exact aX ⟨rfl, _, [], [.box b1 0 (bD a)], _, .one (.tmp 4 (v := .i r2.2) rfl), .refl _, .same _, r2.2, h, rfl, rfl⟩

theorem aBf (a : Int) {r : Bool} (h : sI a = some r) : Fn Try.prog 96 [.i a] (.b r) := by
 unfold sI at h;refine Fn.of_tr Try.func96 rfl (rs := [.tmp 2]) Try.results96 Try.ntmps96 (Nat.le_of_ble_eq_true rfl) ?_;refine aC (aA (ta (.b false) (aB (aC (aA (tm (.i a) (tm (.i a) (to (scm rfl rfl rfl) (ta (.b (!decide (a = a))) (aB ?_))))))))));obtain rfl := sIn h;exact aX ⟨rfl, _, .one _, rfl, rfl⟩

theorem aLm (a : Int) (c : Int) {r : Bool} (h : tH a c = some r) : Fn Try.prog 81 [.i a, .i c] (.b r) := by
 unfold tH at h;refine Fn.of_tr Try.func81 rfl (rs := [.tmp 4]) Try.results81 Try.ntmps81 (Nat.le_of_ble_eq_true rfl) ?_;refine aC (aA (ta (.b false) (aB (aC (aA (tm (.i a) ?_))))));obtain ⟨r1, h2, h⟩ := bns h;refine to (scr Try.call96 (aBf _ h2)) (tm (.b r1) ?_);obtain ⟨b3, h4, h⟩ := bns h;refine aY 4 [0, 1] 11 b3 ?_ ?_
 ·refine bch h4 (fun c8 h4 => ?_) (fun c8 h4 => ?_)
  ·refine tk c8 (sm (.i c)) ?_;obtain ⟨r9, d, h4⟩ := bns h4;refine tk c8 (scr Try.call96 (aBf _ d)) (tk c8 (sn rfl) (to (spt (.b (!r9)) c8) ?_));obtain rfl := sIn h4;refine aB (aL rfl ⟨rfl, rfl, trivial⟩ rfl)
  ·refine tp c8 (tp c8 (tp c8 (to (spf (.b false) c8) ?_)));obtain rfl := sIn h4;refine aB (aL rfl ⟨rfl, rfl, trivial⟩ rfl)
 ·refine tm (.b b3) ?_;obtain ⟨b5, h6, h⟩ := bns h;refine aY 4 [] 16 b5 ?_ ?_
  ·refine bch h6 (fun c7 h6 => ?_) (fun c7 h6 => ?_)
   ·refine tp c7 (tp c7 (tp c7 (to (spt (.b true) c7) ?_)));obtain rfl := sIn h6;refine aB (aL rfl trivial rfl)
   ·refine tk c7 (sm (.i a)) (tk c7 (sm (.i c)) (tk c7 (scm rfl rfl rfl) (to (spf (.b (decide (a < c))) c7) ?_)));obtain rfl := sIn h6;refine aB (aL rfl trivial rfl)
  ·refine ta (.b b5) (aB ?_);obtain rfl := sIn h;exact aX ⟨rfl, _, .one _, rfl, rfl⟩

theorem aCx (c : List Int) {r : Bool} (h : mM c = some r) : Fn Try.prog 51 [.d (.sl 1 (c.map aK))] (.b r) := by
 unfold mM at h;refine Fn.of_tr Try.func51 rfl (rs := [.tmp 2]) Try.results51 Try.ntmps51 (Nat.le_of_ble_eq_true rfl) ?_;refine aC (aA (ta (.b false) (aB (aC (aC (aA (tm (.d (.sl 1 (c.map aK))) (to (sle rfl bG.of) (to (sar rfl rfl rfl) (ta (.i (w64 ((c.length : Int) - 1))) (aB (bA ?_))))))))))));refine bR (S := Int) [0] (fun s1 => [(3, .i s1)]) (fun s1 => []) (fun k s1 => gY c k s1) (fun _ => rfl) (w64 ((c.length : Int) - 1)) h (aP [] rfl rfl (aI rfl (aM ⟨rfl, trivial⟩))) ?_;rintro k2 a h;simp only [gY] at h;refine aC (aC (aA (tm (.i a) (to (scm rfl rfl rfl) (aB ?_)))));refine tih h (fun c3 h => ?_) (fun c3 h => ?_)
 ·refine aV (aC (bA (aC ?_)));obtain ⟨x4, h5, h⟩ := bns h;obtain ⟨x6, h7, h⟩ := bns h;refine cW mix 9 [0, 3] [(14, .i x4), (19, .i x6)] ?_ ?_
  ·refine ⟨[(11, 0, .d (.sl 1 (c.map aK))), (12, 1, .i a), (13, 2, .cp [.lit (.int .i64 x4)]), (14, 3, .i x4), (15, 4, .d (.sl 1 (c.map aK))), (16, 5, .i a), (17, 6, .i (w64 (a - 1))), (18, 7, .cp [.lit (.int .i64 x6)]), (19, 8, .i x6)], ?_, ?_⟩
   · exact dok [([], []), ([], []), ([0, 1], []), ([2], []), ([], []), ([], []), ([5], []), ([4, 6], []), ([7], [])] ⟨go (zm (.d (.sl 1 (c.map aK)))),
      go (zm (.i a)),
      go (zix rfl rfl bG.of (aW aK h5)),
      go (zlc rfl aT),
      go (zm (.d (.sl 1 (c.map aK)))),
      go (zm (.i a)),
      go (zar rfl rfl rfl),
      go (zix rfl rfl bG.of (aW aK h7)),
      go (zlc rfl aT), trivial⟩
   · exact cL (aI rfl (aI rfl (aM ⟨rfl, rfl, trivial⟩)))
  ·obtain ⟨r8, h9, h⟩ := bns h;refine to (scr Try.call81 (aLm _ _ h9)) (aB ?_);refine tih h (fun e h => ?_) (fun e h => ?_)
   ·refine aC (aA (ta (.b false) (aB ?_)));obtain rfl := sIn h;exact aX ⟨rfl, _, .one _, rfl, rfl⟩
   ·refine cR ?_;refine aA (tm (.i a) (to (sar rfl rfl rfl) (ta (.i (w64 (a - 1))) (aB ?_))));exact ⟨(w64 (a - 1)), h, aP [] rfl rfl (aI rfl (aM ⟨rfl, trivial⟩))⟩
 ·refine bT ?_;refine .inl ⟨rfl, ?_⟩;simp only [vB] at h;refine aC (aA (ta (.b true) (aB ?_)));obtain rfl := sIn h;exact aX ⟨rfl, _, .one _, rfl, rfl⟩

theorem gP (d : Int) (c : Int) (a : Int) {r : Bool} (h : gE d c a = some r) : Fn Try.prog 52 [.i d, .i c, .i a] (.b r) := by
 unfold gE at h;refine Fn.of_tr Try.func52 rfl (rs := [.tmp 6]) Try.results52 Try.ntmps52 (Nat.le_of_ble_eq_true rfl) ?_;refine aC (aA (ta (.b false) (aB (aC (aA (tm (.i c) (tm (.i d) (to (scm rfl rfl rfl) (tm (.b (decide (c ≤ d))) ?_)))))))));obtain ⟨b1, h2, h⟩ := bns h;refine aY 4 [] 14 b1 ?_ ?_
 ·refine bch h2 (fun c3 h2 => ?_) (fun c3 h2 => ?_)
  ·refine tk c3 (sm (.i d)) (tk c3 (sm (.i a)) (tk c3 (scm rfl rfl rfl) (to (spt (.b (decide (d ≤ a))) c3) ?_)));obtain rfl := sIn h2;refine aB (aL rfl trivial rfl)
  ·refine tp c3 (tp c3 (tp c3 (to (spf (.b false) c3) ?_)));obtain rfl := sIn h2;refine aB (aL rfl trivial rfl)
 ·refine ta (.b b1) (aB ?_);obtain rfl := sIn h;exact aX ⟨rfl, _, .one _, rfl, rfl⟩

theorem aKz (f : aN) {r : Bool} (h : sP f = some r) : Fn Try.prog 33 [.agg (aO f)] (.b r) := by
 unfold sP at h;refine Fn.of_tr Try.func33 rfl (rs := [.tmp 2]) Try.results33 Try.ntmps33 (Nat.le_of_ble_eq_true rfl) ?_;refine aC (aA ?_);refine bB rfl (eP (v := .agg (aO f)) (aD rfl) rfl rfl rfl) ?_;rintro _ ⟨b1, rfl⟩;refine ta (.b false) (aB (aC (aC (aA (tfl 0 rfl rfl iG rfl cN (to (sle rfl bG.of) (to (sf rfl jL) (tfl 0 rfl rfl iS rfl aT (to (sar rfl rfl rfl) (to (scm rfl rfl rfl) (tm (.b (!decide ((f.Prizes.length : Int) = (w64 (f.Tree.Rounds + 1))))) ?_)))))))))));obtain ⟨b2, h3, h⟩ := bns h;refine aY 5 [1] 16 b2 ?_ ?_
 ·refine bch h3 (fun c h3 => ?_) (fun c h3 => ?_)
  ·refine tp c (tp c (tp c (tp c (to (spt (.b true) c) ?_))));obtain rfl := sIn h3;refine aB (aL rfl ⟨rfl, trivial⟩ rfl)
  ·refine tkl 0 c rfl rfl iG rfl cN ?_;obtain ⟨g, i, h3⟩ := bns h3;refine tk c (scr Try.call51 (aCx _ i)) (tk c (sn rfl) (to (spf (.b (!g)) c) ?_));obtain rfl := sIn h3;refine aB (aL rfl ⟨rfl, trivial⟩ rfl)
 ·refine tm (.b b2) ?_;obtain ⟨b4, h5, h⟩ := bns h;refine aY 5 [1] 22 b4 ?_ ?_
  ·refine bch h5 (fun d h5 => ?_) (fun d h5 => ?_)
   ·refine tp d (tp d (tp d (tp d (to (spt (.b true) d) ?_))));obtain rfl := sIn h5;refine aB (aL rfl ⟨rfl, trivial⟩ rfl)
   ·refine tkl 0 d rfl rfl aIx rfl aT ?_;obtain ⟨j, k, h5⟩ := bns h5;refine tk d (scr Try.call52 (gP _ _ _ k)) (tk d (sn rfl) (to (spf (.b (!j)) d) ?_));obtain rfl := sIn h5;refine aB (aL rfl ⟨rfl, trivial⟩ rfl)
  ·refine aB ?_;refine tih h (fun c6 h => ?_) (fun c6 h => ?_)
   ·refine aC (aA (ta (.b false) (aB ?_)));obtain rfl := sIn h;refine bO (bH (bJ (l := [2]) ⟨rfl, trivial⟩)) ?_;exact aX ⟨rfl, _, .one _, rfl, rfl⟩
   ·refine aV (aC (aA (tfl 0 rfl rfl iG rfl cN ?_)));obtain ⟨x7, h8, h⟩ := bns h;refine to (six rfl rfl bG.of (aW aK h8)) (to (slc rfl aT) (to (scm rfl rfl rfl) (tm (.b (decide (0 ≤ x7))) ?_)));obtain ⟨b9, e, h⟩ := bns h;refine aY 10 [] 38 b9 ?_ ?_
    ·refine bch e (fun a e => ?_) (fun a e => ?_)
     ·refine tkl 0 a rfl rfl iG rfl cN (tkl 0 a rfl rfl iG rfl cN (tk a (sle rfl bG.of) (tk a (sar rfl rfl rfl) ?_)));obtain ⟨m, n, e⟩ := bns e;refine tk a (six rfl rfl bG.of (aW aK n)) (tk a (slc rfl aT) (tk a (scm rfl rfl rfl) (to (spt (.b (decide (m ≤ 10000000))) a) ?_)));obtain rfl := sIn e;refine aB (aL rfl trivial rfl)
     ·refine tp a (tp a (tp a (tp a (tp a (tp a (tp a (tp a (tp a (to (spf (.b false) a) ?_)))))))));obtain rfl := sIn e;refine aB (aL rfl trivial rfl)
    ·refine ta (.b b9) (aB ?_);obtain rfl := sIn h;refine bO (bH (bJ (l := [2]) ⟨rfl, trivial⟩)) ?_;exact aX ⟨rfl, _, .one _, rfl, rfl⟩

theorem zB (x : List Int) {r : List Int} {x_v : Value} {e : TypeId} (h : slices_Sort_int x = some r) : fP Try.prog 36 [.d (.lit x_v)] [.arr x_v e 1 (x.map aK)] (fun r' o' => r' = .tup [] ∧ o' = [.arr x_v e 1 (r.map aK)]) := by
 unfold slices_Sort_int at h;split at h
 ·cases h;exact aSs (fun blk off cap zs w => Try.slices_Sort_int blk off cap zs w) (fun q cap w => Try.slices_Sort_int_none q cap w) (by assumption)
 ·cases h

theorem wV (c : aN) {r : (List Int)} (h : oA c = some r) : Fn Try.prog 22 [.agg (aO c)] (.d (.sl 1 (r.map aK))) := by
 unfold oA at h;refine Fn.of_tr Try.func22 rfl (rs := [.tmp 2]) Try.results22 Try.ntmps22 (Nat.le_of_ble_eq_true rfl) ?_;refine aC (aA ?_);refine bB rfl (eP (v := .agg (aO c)) (aD rfl) rfl rfl rfl) ?_;rintro _ ⟨b1, rfl⟩;refine to (aBt 1 (aD rfl)) ?_;refine aB (aC (aA (to (iC 3 1 (.inl rfl) (aD rfl)) ?_)));refine aB (aC (aC (aA (tfl 0 rfl rfl iT rfl mK (to (sle rfl lQ.of) (tm (.i 0) (aB (bA ?_))))))));refine bR (S := Int × (List Int) × Value) [7, 8] (fun s3 => [(3, .d (.lit s3.2.2)), (9, .i s3.1)]) (fun s3 => [.arr s3.2.2 3 1 (s3.2.1.map aK)]) (fun k s3 => jN c.Teams (c.Teams.length : Int) k s3.1 s3.2.1) (fun _ => rfl) (0, ([] : List Int), (.slice none 0 0)) h (aP [1] rfl rfl (aI rfl (aI rfl (aM ⟨rfl, rfl, trivial⟩)))) ?_;rintro k5 ⟨a, b, w4⟩ h;simp only [jN] at h;refine aC (aA (to (scm rfl rfl rfl) (aB (aC ?_))));refine tih h (fun c6 h => ?_) (fun c6 h => ?_)
 ·refine aV (aC (bA (aC (aA ?_))));obtain ⟨x7, h8, h⟩ := bns h;refine to (six rfl rfl lQ.of (aW bF h8)) (to (pL (bF x7) rfl wH) ?_);refine bB rfl (cM (zs := [.lit (.int .i64 0), .lit (.int .i64 0), .lit (.int .i64 0)]) (aD rfl) Try.zeroValue63 rfl rfl) ?_;rintro _ ⟨b9, rfl⟩;refine to (sst 1 rfl rfl Try.sizeOf63 (bF x7)) (aB (aC (aA (tm (.d (.lit w4)) (tfl 1 rfl rfl pG rfl aT (to (fF (aD rfl) bG rfl rfl (rows := ([x7.One]).map aK) rfl (cI (f := aK) fun _ => rfl) rfl (by decide)) ?_))))));obtain ⟨j, l, h⟩ := bns h;refine bB rfl (fV (i := 0) (aD rfl) bG rfl rfl rfl (fun _ => rfl) l rfl) ?_;rintro _ ⟨e, rfl⟩;refine ta (.d (.lit e)) (aB (aC (aA (tfl 1 rfl rfl kU rfl aT (to (scm rfl rfl rfl) (aB ?_))))));refine tih h (fun m h => ?_) (fun m h => ?_)
  ·refine aA (tm (.d (.lit e)) (tfl 1 rfl rfl kU rfl aT (to (fF (aD rfl) bG rfl rfl (rows := ([x7.Two]).map aK) rfl (cI (f := aK) fun _ => rfl) rfl (by decide)) ?_)));obtain ⟨n, o, h⟩ := bns h;refine bB rfl (fV (i := 0) (aD rfl) bG rfl rfl rfl (fun _ => rfl) o rfl) ?_;rintro _ ⟨g, rfl⟩;refine ta (.d (.lit g)) ?_;refine cU ?_;refine aA (to (sar rfl rfl rfl) (tm (.i (w64 (a + 1))) (aB ?_)));exact ⟨(w64 (a + 1), n, g), h, aP [0] rfl rfl (aI rfl (aI rfl (aM ⟨rfl, rfl, trivial⟩)))⟩
  ·refine cR ?_;refine aA (to (sar rfl rfl rfl) (tm (.i (w64 (a + 1))) (aB ?_)));exact ⟨(w64 (a + 1), j, e), h, aP [0] rfl rfl (aI rfl (aI rfl (aM ⟨rfl, rfl, trivial⟩)))⟩
 ·refine bT ?_;refine .inl ⟨rfl, ?_⟩;simp only [sD] at h;refine aC (aA (tm (.d (.lit w4)) ?_));obtain ⟨p, q, h⟩ := bns h;refine bB rfl (eY (passed := [.arr w4 3 1 (b.map aK)]) (aD rfl) rfl (.func _ _ Try.call36) rfl rfl (zB b q)) ?_;rintro _ ⟨_, _, ⟨rfl, rfl⟩, rfl⟩;refine aB (aC (aA (tm (.d (.lit w4)) (ta (.d (.lit w4)) (aB ?_)))));obtain rfl := sIn h;refine bO (bH (rB (k := 2) (v := .d (.sl 1 (p.map aK))) (.d (kK 0 rfl (cI (f := aK) fun _ => rfl))) (aCj))) ?_;exact aX ⟨rfl, _, .one _, rfl, rfl⟩

end Go.Am
