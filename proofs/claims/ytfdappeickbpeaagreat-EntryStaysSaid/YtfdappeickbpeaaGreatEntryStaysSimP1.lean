/- The functions compute what the shallow ones say: printed by program. -/
import Derived.Test.YtfdappeickbpeaaGreatEnSh
import Derived.Test.YtfdappeickbpeaaGreatAmVal
import Derived.Test.YtfdappeickbpeaaGreatAmRange
import Derived.Test.YtfdappeickbpeaaGreatAmSort
import Derived.Test.YtfdappeickbpeaaGreatEnShelf
import Derived.Test.YtfdappeickbpeaaGreatAmEnt
import Derived.Test.YtfdappeickbpeaaGreatAmSortF
import Derived.Test.YtfdappeickbpeaaGreatAmRangeC
import Derived.Test.YtfdappeickbpeaaGreatAmSub
import Derived.Test.YtfdappeickbpeaaGreatEnDet
import Derived.Test.YtfdappeickbpeaaGreatChecked
import Derived.Test.YtfdappeickbpeaaGreatAmShort
import Derived.KernelRfl
namespace Go.Am
open Go.Proofs
set_option maxRecDepth 100000
set_option maxHeartbeats 40000000

theorem mix : Tryz.prog.follows .mixedOrders = true := Checked.mixed Tryz.checked

theorem jC : lS Tryz.prog 23 5 := ⟨Tryz.isAgg23, Tryz.sizeOf23⟩
theorem cW : SliceTy Tryz.prog 24 32 5 40 (.agg #[.int .i64 0, .int .i64 0, .int .i64 0, .int .i64 0, .int .i64 0]) := ⟨Tryz.underlying24, ⟨Tryz.t32, by kernel_rfl, rfl, rfl, rfl⟩, rfl, by decide⟩
theorem aS : jX Tryz.prog 3 := ⟨Tryz.isAgg3, Tryz.sizeOf3⟩
theorem cV : jX Tryz.prog 25 := ⟨Tryz.isAgg25, Tryz.sizeOf25⟩
theorem bO : SliceTy Tryz.prog 25 3 1 8 (.int .i64 0) := ⟨Tryz.underlying25, ⟨Tryz.t3, by kernel_rfl, rfl, rfl, rfl⟩, rfl, by decide⟩
theorem gP : lS Tryz.prog 32 5 := ⟨Tryz.isAgg32, Tryz.sizeOf32⟩
theorem dM : cD Tryz.prog 32 1 1 := bS Tryz.runUnderlying32 rfl rfl Tryz.sizeOf3
theorem aGk : lS Tryz.prog 34 4 := ⟨Tryz.isAgg34, Tryz.sizeOf34⟩
theorem xX : cD Tryz.prog 23 0 0 := bS Tryz.runUnderlying23 rfl rfl Tryz.sizeOf3
theorem uU : cD Tryz.prog 23 1 1 := bS Tryz.runUnderlying23 rfl rfl Tryz.sizeOf3
theorem mA : cD Tryz.prog 23 2 2 := bS Tryz.runUnderlying23 rfl rfl Tryz.sizeOf3
theorem oQ : cD Tryz.prog 23 3 3 := bS Tryz.runUnderlying23 rfl rfl Tryz.sizeOf3
theorem gV : cD Tryz.prog 23 4 4 := bS Tryz.runUnderlying23 rfl rfl Tryz.sizeOf3
theorem iE : cD Tryz.prog 32 0 0 := bS Tryz.runUnderlying32 rfl rfl Tryz.sizeOf3
theorem yM : aCe Tryz.prog 32 aH := by
  rintro ⟨a0, a1, a2, a3, a4⟩ ⟨b0, b1, b2, b3, b4⟩ w
  simp [aH, bT, go_sem, Op.eqFields, Program.fieldsOf] <;> (repeat' split) <;> simp_all
theorem cT : cD Tryz.prog 32 3 3 := bS Tryz.runUnderlying32 rfl rfl Tryz.sizeOf3
theorem nG : cD Tryz.prog 32 2 2 := bS Tryz.runUnderlying32 rfl rfl Tryz.sizeOf3
theorem jS : cD Tryz.prog 32 4 4 := bS Tryz.runUnderlying32 rfl rfl Tryz.sizeOf3
theorem mB : cD Tryz.prog 34 0 0 := bS Tryz.runUnderlying34 rfl rfl Tryz.sizeOf25
theorem aCx : cD Tryz.prog 34 1 1 := bS Tryz.runUnderlying34 rfl rfl Tryz.sizeOf25
theorem aIf : cD Tryz.prog 34 2 2 := bS Tryz.runUnderlying34 rfl rfl Tryz.sizeOf25
theorem aLd : qA Tryz.prog 23 (.agg #[.int .i64 0, .int .i64 0, .int .i64 0, .int .i64 0, .int .i64 0]) [(0, 1), (1, 1), (2, 1), (3, 1), (4, 1)] := ⟨Tryz.zeroValue23, _, Tryz.runUnderlying23, fun w => by simp [Tryz.sizeOf3]⟩
theorem aLe : qA Tryz.prog 32 (.agg #[.int .i64 0, .int .i64 0, .int .i64 0, .int .i64 0, .int .i64 0]) [(0, 1), (1, 1), (2, 1), (3, 1), (4, 1)] := ⟨Tryz.zeroValue32, _, Tryz.runUnderlying32, fun w => by simp [Tryz.sizeOf3]⟩
theorem aHq : qA Tryz.prog 34 (.agg #[.slice none 0 0, .slice none 0 0, .slice none 0 0, .int .i64 0]) [(0, 1), (1, 1), (2, 1), (3, 1)] := ⟨Tryz.zeroValue34, _, Tryz.runUnderlying34, fun w => by simp [Tryz.sizeOf25, Tryz.sizeOf3]⟩
theorem gF : cD Tryz.prog 70 2 6 := bS Tryz.runUnderlying70 rfl rfl Tryz.sizeOf25
theorem fF : pC Tryz.prog 3 (fun n : Int => Value.int .i64 n) := aGz Tryz.underlying3
theorem aLf : qA Tryz.prog 70 (.agg #[.int .i64 0, .int .i64 0, .int .i64 0, .int .i64 0, .int .i64 0, .map none, .slice none 0 0, .bool false, .slice none 0 0, .slice none 0 0, .int .i64 0, .int .i64 0]) [(0, 5), (5, 1), (6, 1), (7, 1), (8, 1), (9, 1), (10, 1), (11, 1)] := ⟨Tryz.zeroValue70, _, Tryz.runUnderlying70, fun w => by simp [Tryz.sizeOf23, Tryz.sizeOf25, Tryz.sizeOf3, Tryz.sizeOf4, Tryz.sizeOf68]⟩
theorem oR : cD Tryz.prog 70 3 7 := bS Tryz.runUnderlying70 rfl rfl Tryz.sizeOf4
theorem dU : jX Tryz.prog 4 := ⟨Tryz.isAgg4, Tryz.sizeOf4⟩
theorem aDn : jX Tryz.prog 24 := ⟨Tryz.isAgg24, Tryz.sizeOf24⟩
theorem sS : cD Tryz.prog 70 4 8 := bS Tryz.runUnderlying70 rfl rfl Tryz.sizeOf25
theorem cU : cD Tryz.prog 70 1 5 := bS Tryz.runUnderlying70 rfl rfl Tryz.sizeOf68
theorem eC : jX Tryz.prog 68 := ⟨Tryz.isAgg68, Tryz.sizeOf68⟩
theorem eE : cD Tryz.prog 70 0 0 := bS Tryz.runUnderlying70 rfl rfl Tryz.sizeOf23
theorem sT : cD Tryz.prog 70 6 10 := bS Tryz.runUnderlying70 rfl rfl Tryz.sizeOf3
theorem eZ : jX Tryz.prog 64 := ⟨Tryz.isAgg64, Tryz.sizeOf64⟩
theorem sU : cD Tryz.prog 94 0 0 := bS Tryz.runUnderlying94 rfl rfl Tryz.sizeOf4
theorem mC : cD Tryz.prog 94 4 4 := bS Tryz.runUnderlying94 rfl rfl Tryz.sizeOf4
theorem xY : cD Tryz.prog 94 7 7 := bS Tryz.runUnderlying94 rfl rfl Tryz.sizeOf4
theorem iP : lS Tryz.prog 94 8 := ⟨Tryz.isAgg94, Tryz.sizeOf94⟩
theorem sV : cD Tryz.prog 94 2 2 := bS Tryz.runUnderlying94 rfl rfl Tryz.sizeOf3
theorem uX : cD Tryz.prog 94 3 3 := bS Tryz.runUnderlying94 rfl rfl Tryz.sizeOf3
theorem qF : cD Tryz.prog 70 7 11 := bS Tryz.runUnderlying70 rfl rfl Tryz.sizeOf3
theorem uW : cD Tryz.prog 94 1 1 := bS Tryz.runUnderlying94 rfl rfl Tryz.sizeOf4
theorem gG : cD Tryz.prog 94 6 6 := bS Tryz.runUnderlying94 rfl rfl Tryz.sizeOf4
theorem qG : cD Tryz.prog 94 5 5 := bS Tryz.runUnderlying94 rfl rfl Tryz.sizeOf4
theorem qE : cD Tryz.prog 70 5 9 := bS Tryz.runUnderlying70 rfl rfl Tryz.sizeOf25
theorem pR : SliceTy Tryz.prog 106 25 1 24 (.slice none 0 0) := ⟨Tryz.underlying106, ⟨Tryz.t25, by kernel_rfl, rfl, rfl, rfl⟩, rfl, by decide⟩
theorem aKk : qA Tryz.prog 110 (.agg #[.int .i64 0, .int .i64 0, .int .i64 0, .int .i64 0]) [(0, 1), (1, 1), (2, 1), (3, 1)] := ⟨Tryz.zeroValue110, _, Tryz.runUnderlying110, fun w => by simp [Tryz.sizeOf3]⟩
theorem rI : SliceTy Tryz.prog 112 110 4 32 (.agg #[.int .i64 0, .int .i64 0, .int .i64 0, .int .i64 0]) := ⟨Tryz.underlying112, ⟨Tryz.t110, by kernel_rfl, rfl, rfl, rfl⟩, rfl, by decide⟩
theorem iI : lS Tryz.prog 110 4 := ⟨Tryz.isAgg110, Tryz.sizeOf110⟩
theorem lQ : cD Tryz.prog 110 1 1 := bS Tryz.runUnderlying110 rfl rfl Tryz.sizeOf3
theorem nF : cD Tryz.prog 110 0 0 := bS Tryz.runUnderlying110 rfl rfl Tryz.sizeOf3
theorem aJw : aCe Tryz.prog 110 aM := by
  rintro ⟨a0, a1, a2, a3⟩ ⟨b0, b1, b2, b3⟩ w
  simp [aM, bT, go_sem, Op.eqFields, Program.fieldsOf] <;> (repeat' split) <;> simp_all
theorem aJr (b : Bool) (a : aP) (w : World) : (Instr.checkKey b 10000 110 (.agg ((aM a).map bT).toArray)).run Tryz.prog w = .ok () w := by
  obtain ⟨a1, a2, a3, a4⟩ := a;rw [show (10000 : Nat) = 9990 + 10 from rfl]
  generalize (9990 : Nat) = m
  simp [Instr.checkKey, aM, bT, go_sem, Std.Legacy.Range.forIn_eq_forIn_range', Std.Legacy.Range.size]
theorem sE : pC Tryz.prog 110 (fun a : aP => Value.agg ((aM a).map bT).toArray) :=
  aDd Tryz.underlying110 aJw aJr (fun a w => aIi _ rfl _ _) (by
    rintro ⟨a1, a2, a3, a4⟩ ⟨b1, b2, b3, b4⟩ h
    simp [aM] at h ⊢
    simp_all) (fun _ => rfl)
theorem wA : cD Tryz.prog 110 3 3 := bS Tryz.runUnderlying110 rfl rfl Tryz.sizeOf3
theorem vZ : cD Tryz.prog 110 2 2 := bS Tryz.runUnderlying110 rfl rfl Tryz.sizeOf3
theorem qD : cD Tryz.prog 44 0 0 := bS Tryz.runUnderlying44 rfl rfl Tryz.sizeOf3
theorem uV : cD Tryz.prog 44 1 1 := bS Tryz.runUnderlying44 rfl rfl Tryz.sizeOf3

theorem xT (a : List aK) {r : Bool} (h : lI a = some r) : Fn Tryz.prog 20 [.d (.sl 5 (a.map aH))] (.b r) := by
 unfold lI at h;refine Fn.of_tr Tryz.func20 rfl (rs := [.tmp 2]) Tryz.results20 Tryz.ntmps20 (Nat.le_of_ble_eq_true rfl) ?_;refine aF (aC (ta (.b false) (aD (aF (aC (tm (.d (.sl 5 (a.map aH))) (to (sle rfl cW.of) (to (scm rfl rfl rfl) (tm (.b (decide (20 < (a.length : Int)))) ?_)))))))));obtain ⟨b1, h2, h⟩ := bns h;refine bG 4 [0] 10 b1 ?_ ?_
 ·refine bch h2 (fun c6 h2 => ?_) (fun c6 h2 => ?_)
  ·refine tk c6 (sm (.d (.sl 5 (a.map aH)))) (tk c6 (sle rfl cW.of) (tk c6 (scm rfl rfl rfl) (to (spt (.b (decide ((a.length : Int) ≤ 60))) c6) ?_)));obtain rfl := sIn h2;refine aD (aR rfl ⟨rfl, trivial⟩ rfl)
  ·refine tp c6 (tp c6 (tp c6 (to (spf (.b false) c6) ?_)));obtain rfl := sIn h2;refine aD (aR rfl ⟨rfl, trivial⟩ rfl)
 ·refine tm (.b b1) ?_;obtain ⟨b3, h4, h⟩ := bns h;refine bG 4 [] 15 b3 ?_ ?_
  ·refine bch h4 (fun c5 h4 => ?_) (fun c5 h4 => ?_)
   ·refine tp c5 (tp c5 (tp c5 (to (spt (.b true) c5) ?_)));obtain rfl := sIn h4;refine aD (aR rfl trivial rfl)
   ·refine tk c5 (sm (.d (.sl 5 (a.map aH)))) (tk c5 (sle rfl cW.of) (tk c5 (scm rfl rfl rfl) (to (spf (.b (decide (100 < (a.length : Int)))) c5) ?_)));obtain rfl := sIn h4;refine aD (aR rfl trivial rfl)
  ·refine ta (.b b3) (aD ?_);obtain rfl := sIn h;exact aU ⟨rfl, _, .one _, rfl, rfl⟩

theorem dO (d : Int) (c : Int) (a : Int) {r : Bool} (h : bW d c a = some r) : Fn Tryz.prog 42 [.i d, .i c, .i a] (.b r) := by
 unfold bW at h;refine Fn.of_tr Tryz.func42 rfl (rs := [.tmp 6]) Tryz.results42 Tryz.ntmps42 (Nat.le_of_ble_eq_true rfl) ?_;refine aF (aC (ta (.b false) (aD (aF (aC (tm (.i d) (tm (.i c) (to (scm rfl rfl rfl) (tm (.b (decide (c ≤ d))) ?_)))))))));obtain ⟨b1, h2, h⟩ := bns h;refine bG 4 [] 14 b1 ?_ ?_
 ·refine bch h2 (fun c3 h2 => ?_) (fun c3 h2 => ?_)
  ·refine tk c3 (sm (.i d)) (tk c3 (sm (.i a)) (tk c3 (scm rfl rfl rfl) (to (spt (.b (decide (d ≤ a))) c3) ?_)));obtain rfl := sIn h2;refine aD (aR rfl trivial rfl)
  ·refine tp c3 (tp c3 (tp c3 (to (spf (.b false) c3) ?_)));obtain rfl := sIn h2;refine aD (aR rfl trivial rfl)
 ·refine ta (.b b1) (aD ?_);obtain rfl := sIn h;exact aU ⟨rfl, _, .one _, rfl, rfl⟩

theorem uD (a : aK) {r : Bool} (h : iR a = some r) : Fn Tryz.prog 43 [.agg (aH a)] (.b r) := by
 unfold iR at h;refine Fn.of_tr Tryz.func43 rfl (rs := [.tmp 2]) Tryz.results43 Tryz.ntmps43 (Nat.le_of_ble_eq_true rfl) ?_;refine aF (aC ?_);refine bF rfl (gU (v := .agg (aH a)) (aI rfl) rfl rfl rfl) ?_;rintro _ ⟨b1, rfl⟩;refine ta (.b false) (aD (aF (aF (aC (tfl 0 rfl rfl iE rfl aS ?_)))));obtain ⟨r2, h3, h⟩ := bns h;refine to (scr Tryz.call42 (dO _ _ _ h3)) (to (sn rfl) (tm (.b (!r2)) ?_));obtain ⟨b4, h5, h⟩ := bns h;refine bG 5 [1] 12 b4 ?_ ?_
 ·refine bch h5 (fun c h5 => ?_) (fun c h5 => ?_)
  ·refine tp c (tp c (tp c (tp c (to (spt (.b true) c) ?_))));obtain rfl := sIn h5;refine aD (aR rfl ⟨rfl, trivial⟩ rfl)
  ·refine tkl 0 c rfl rfl cT rfl aS ?_;obtain ⟨e, f, h5⟩ := bns h5;refine tk c (scr Tryz.call42 (dO _ _ _ f)) (tk c (sn rfl) (to (spf (.b (!e)) c) ?_));obtain rfl := sIn h5;refine aD (aR rfl ⟨rfl, trivial⟩ rfl)
 ·refine tm (.b b4) ?_;obtain ⟨b6, h7, h⟩ := bns h;refine bG 5 [1] 18 b6 ?_ ?_
  ·refine bch h7 (fun d h7 => ?_) (fun d h7 => ?_)
   ·refine tp d (tp d (tp d (tp d (to (spt (.b true) d) ?_))));obtain rfl := sIn h7;refine aD (aR rfl ⟨rfl, trivial⟩ rfl)
   ·refine tkl 0 d rfl rfl dM rfl aS ?_;obtain ⟨g, i, h7⟩ := bns h7;refine tk d (scr Tryz.call42 (dO _ _ _ i)) (tk d (sn rfl) (to (spf (.b (!g)) d) ?_));obtain rfl := sIn h7;refine aD (aR rfl ⟨rfl, trivial⟩ rfl)
  ·refine aD ?_;refine tih h (fun c8 h => ?_) (fun c8 h => ?_)
   ·refine aF (aC (ta (.b false) (aD ?_)));obtain rfl := sIn h;refine bK (bE (bH (l := [2]) ⟨rfl, trivial⟩)) ?_;exact aU ⟨rfl, _, .one _, rfl, rfl⟩
   ·refine bB (aF (aF (aC (tfl 0 rfl rfl nG rfl aS (aD (bL (aF (aC (to (scm rfl rfl rfl) (ta (.b (decide (a.Kind = 1))) (aD ?_)))))))))));refine tih h (fun c9 h => ?_) (fun c9 h => ?_)
    ·refine aF (aC (tfl 0 rfl rfl jS rfl aS ?_));obtain ⟨j, k, h⟩ := bns h;refine to (scr Tryz.call42 (dO _ _ _ k)) (ta (.b j) (aD ?_));obtain rfl := sIn h;refine bK (bE (bH (l := [2]) ⟨rfl, trivial⟩)) ?_;exact aU ⟨rfl, _, .one _, rfl, rfl⟩
    ·refine aF (aC (to (scm rfl rfl rfl) (ta (.b (decide (a.Kind = 2))) (aD ?_))));refine tih h (fun m h => ?_) (fun m h => ?_)
     ·refine aF (aC (tfl 0 rfl rfl jS rfl aS ?_));obtain ⟨n, o, h⟩ := bns h;refine to (scr Tryz.call42 (dO _ _ _ o)) (ta (.b n) (aD ?_));obtain rfl := sIn h;refine bK (bE (bH (l := [2]) ⟨rfl, trivial⟩)) ?_;exact aU ⟨rfl, _, .one _, rfl, rfl⟩
     ·refine aF (aF (aC (to (scm rfl rfl rfl) (ta (.b (decide (a.Kind = 3))) (aD ?_)))));refine tih h (fun p h => ?_) (fun p h => ?_)
      ·refine bB ?_;refine tih h (fun q h => ?_) (fun q h => ?_)
       ·refine aF (aC (tfl 0 rfl rfl jS rfl aS (to (scm rfl rfl rfl) (ta (.b (decide (a.Rank = 0))) (aD ?_)))));obtain rfl := sIn h;refine bK (bE (bH (l := [2]) ⟨rfl, trivial⟩)) ?_;exact aU ⟨rfl, _, .one _, rfl, rfl⟩
       ·refine bV ?_;refine aF (aC (ta (.b false) (aD ?_)));obtain rfl := sIn h;refine bK (bE (bH (l := [2]) ⟨rfl, trivial⟩)) ?_;exact aU ⟨rfl, _, .one _, rfl, rfl⟩
      ·refine aF (aC (to (scm rfl rfl rfl) (ta (.b (decide (a.Kind = 4))) (aD ?_))));refine tih h (fun s h => ?_) (fun s h => ?_)
       ·refine bB ?_;refine tih h (fun t h => ?_) (fun t h => ?_)
        ·refine aF (aC (tfl 0 rfl rfl jS rfl aS (to (scm rfl rfl rfl) (ta (.b (decide (a.Rank = 0))) (aD ?_)))));obtain rfl := sIn h;refine bK (bE (bH (l := [2]) ⟨rfl, trivial⟩)) ?_;exact aU ⟨rfl, _, .one _, rfl, rfl⟩
        ·refine bV ?_;refine aF (aC (ta (.b false) (aD ?_)));obtain rfl := sIn h;refine bK (bE (bH (l := [2]) ⟨rfl, trivial⟩)) ?_;exact aU ⟨rfl, _, .one _, rfl, rfl⟩
       ·refine aC (to (scm rfl rfl rfl) (ta (.b (decide (a.Kind = 5))) (aD ?_)));refine tih h (fun u h => ?_) (fun u h => ?_)
        ·refine aF (aC (tfl 0 rfl rfl jS rfl aS (to (scm rfl rfl rfl) (ta (.b (decide (a.Rank = 0))) (aD ?_)))));obtain rfl := sIn h;refine bK (bE (bH (l := [2]) ⟨rfl, trivial⟩)) ?_;exact aU ⟨rfl, _, .one _, rfl, rfl⟩
        ·refine bV ?_;refine aF (aC (ta (.b false) (aD ?_)));obtain rfl := sIn h;refine bK (bE (bH (l := [2]) ⟨rfl, trivial⟩)) ?_;exact aU ⟨rfl, _, .one _, rfl, rfl⟩

theorem vW (z : aT) (m : List aK) {r : Int} (h : kL z m = some r) : Fn Tryz.prog 22 [.agg (aX z), .d (.sl 5 (m.map aH))] (.i r) := by
 unfold kL at h;refine Fn.of_tr Tryz.func22 rfl (rs := [.tmp 4]) Tryz.results22 Tryz.ntmps22 (Nat.le_of_ble_eq_true rfl) ?_;refine aF (aC ?_);refine bF rfl (gU (v := .agg (aX z)) (aI rfl) rfl rfl rfl) ?_;rintro _ ⟨b1, rfl⟩;refine ta (.i 0) (aD (aF (aF (aC (tfl 0 rfl rfl xX rfl aS ?_)))));obtain ⟨r2, h3, h⟩ := bns h;refine to (scr Tryz.call42 (dO _ _ _ h3)) (to (sn rfl) (tm (.b (!r2)) ?_));obtain ⟨b4, h5, h⟩ := bns h;refine bG 5 [1, 2] 16 b4 ?_ ?_
 ·refine bch h5 (fun q h5 => ?_) (fun q h5 => ?_)
  ·refine tp q (tp q (tp q (tp q (to (spt (.b true) q) ?_))));obtain rfl := sIn h5;refine aD (aR rfl ⟨rfl, rfl, trivial⟩ rfl)
  ·refine tkl 0 q rfl rfl uU rfl aS ?_;obtain ⟨C, E, h5⟩ := bns h5;refine tk q (scr Tryz.call42 (dO _ _ _ E)) (tk q (sn rfl) (to (spf (.b (!C)) q) ?_));obtain rfl := sIn h5;refine aD (aR rfl ⟨rfl, rfl, trivial⟩ rfl)
 ·refine tm (.b b4) ?_;obtain ⟨b6, h7, h⟩ := bns h;refine bG 5 [1, 2] 22 b6 ?_ ?_
  ·refine bch h7 (fun s h7 => ?_) (fun s h7 => ?_)
   ·refine tp s (tp s (tp s (tp s (to (spt (.b true) s) ?_))));obtain rfl := sIn h7;refine aD (aR rfl ⟨rfl, rfl, trivial⟩ rfl)
   ·refine tkl 0 s rfl rfl mA rfl aS ?_;obtain ⟨F, G, h7⟩ := bns h7;refine tk s (scr Tryz.call42 (dO _ _ _ G)) (tk s (sn rfl) (to (spf (.b (!F)) s) ?_));obtain rfl := sIn h7;refine aD (aR rfl ⟨rfl, rfl, trivial⟩ rfl)
  ·refine tm (.b b6) ?_;obtain ⟨b8, h9, h⟩ := bns h;refine bG 5 [1, 2] 28 b8 ?_ ?_
   ·refine bch h9 (fun t h9 => ?_) (fun t h9 => ?_)
    ·refine tp t (tp t (tp t (tp t (to (spt (.b true) t) ?_))));obtain rfl := sIn h9;refine aD (aR rfl ⟨rfl, rfl, trivial⟩ rfl)
    ·refine tkl 0 t rfl rfl oQ rfl aS ?_;obtain ⟨H, I, h9⟩ := bns h9;refine tk t (scr Tryz.call42 (dO _ _ _ I)) (tk t (sn rfl) (to (spf (.b (!H)) t) ?_));obtain rfl := sIn h9;refine aD (aR rfl ⟨rfl, rfl, trivial⟩ rfl)
   ·refine tm (.b b8) ?_;obtain ⟨J, w, h⟩ := bns h;refine bG 7 [1] 36 J ?_ ?_
    ·refine bch w (fun n w => ?_) (fun n w => ?_)
     ·refine tp n (tp n (tp n (tp n (tp n (tp n (to (spt (.b true) n) ?_))))));obtain rfl := sIn w;refine aD (aR rfl ⟨rfl, trivial⟩ rfl)
     ·refine tkl 0 n rfl rfl gV rfl aS (tkl 0 n rfl rfl oQ rfl aS ?_);obtain ⟨K, L, w⟩ := bns w;refine tk n (scr Tryz.call42 (dO _ _ _ L)) (tk n (sn rfl) (to (spf (.b (!K)) n) ?_));obtain rfl := sIn w;refine aD (aR rfl ⟨rfl, trivial⟩ rfl)
    ·refine aD ?_;refine tih h (fun M h => ?_) (fun M h => ?_)
     ·refine aF (aC (ta (.i 50) (aD ?_)));obtain rfl := sIn h;refine bK (bE (bH (l := [4]) ⟨rfl, trivial⟩)) ?_;exact aU ⟨rfl, _, .one _, rfl, rfl⟩
     ·refine bB (aF (aF (aC (tm (.d (.sl 5 (m.map aH))) (to (sle rfl cW.of) (to (scm rfl rfl rfl) (aD ?_)))))));refine tih h (fun N h => ?_) (fun N h => ?_)
      ·refine aF (aC (ta (.i 51) (aD ?_)));obtain rfl := sIn h;refine bK (bE (bH (l := [4]) ⟨rfl, trivial⟩)) ?_;exact aU ⟨rfl, _, .one _, rfl, rfl⟩
      ·refine bB (aF (aF (aC (ta (.i 0) (aD (bL ?_))))));refine cH (S := Int) [1] (fun x => [(5, .i x)]) (fun x => []) (fun k x => eQ m k x) (fun _ => rfl) (0) h (aQ [] rfl rfl (aL rfl (aO ⟨rfl, trivial⟩))) ?_;rintro O c h;simp only [eQ] at h;refine aF (aF (aC (tm (.i c) (tm (.d (.sl 5 (m.map aH))) (to (sle rfl cW.of) (to (scm rfl rfl rfl) (aD ?_)))))));refine tih h (fun P h => ?_) (fun P h => ?_)
       ·refine bB (aF (bL (aF (aF (aC (tm (.d (.sl 5 (m.map aH))) (tm (.i c) ?_)))))));obtain ⟨Q, T, h⟩ := bns h;refine to (six rfl rfl cW.of (bR aH T)) (to (aDx (aH Q) rfl gP) ?_);obtain ⟨a1, U, h⟩ := bns h;refine to (scr Tryz.call43 (uD _ U)) (to (sn rfl) (aD ?_));refine tih h (fun V h => ?_) (fun V h => ?_)
        ·refine aF (aC (ta (.i 51) (aD ?_)));obtain rfl := sIn h;exact aU ⟨rfl, _, .one _, rfl, rfl⟩
        ·refine bB (aF (aC (ta (.i 0) (aD ?_))));refine xB ?_;refine cH (S := Int) [1, 5] (fun y => [(6, .i y)]) (fun y => []) (fun k y => eR (eQ m O) m c k y) (fun _ => rfl) (0) h (aQ [] rfl rfl (aL rfl (aO ⟨rfl, rfl, trivial⟩))) ?_;rintro a2 g h;simp only [eR] at h;refine aF (aF (aC (tm (.i g) (tm (.i c) (to (scm rfl rfl rfl) (aD ?_))))));refine tih h (fun W h => ?_) (fun W h => ?_)
         ·refine bB (aF (bL (aF ?_)));obtain ⟨e, A, h⟩ := bns h;obtain ⟨f, B, h⟩ := bns h;obtain ⟨X, u, h⟩ := bns h;refine bU mix 22 [1, 5, 6] [(78, .b X)] ?_ ?_
          ·refine bch u (fun j u => ?_) (fun j u => ?_)
           ·obtain ⟨o, Y, u⟩ := bns u;obtain ⟨p, Z, u⟩ := bns u;obtain rfl := sIn u;refine ⟨[(57, 0, .d (.sl 5 (m.map aH))), (58, 1, .i g), (59, 2, .cp [.lit (.int .i64 e.Id), .lit (.int .i64 e.Hour), .lit (.int .i64 e.Kind), .lit (.int .i64 e.Player), .lit (.int .i64 e.Rank)]), (60, 3, .cp [.lit (.int .i64 e.Id)]), (61, 4, .i e.Id), (62, 5, .d (.sl 5 (m.map aH))), (63, 6, .i c), (64, 7, .cp [.lit (.int .i64 f.Id), .lit (.int .i64 f.Hour), .lit (.int .i64 f.Kind), .lit (.int .i64 f.Player), .lit (.int .i64 f.Rank)]), (65, 8, .cp [.lit (.int .i64 f.Id)]), (66, 9, .i f.Id), (67, 10, .b (decide (e.Id = f.Id))), (68, 11, .b (decide (e.Id = f.Id))), (69, 12, .d (.sl 5 (m.map aH))), (70, 13, .i g), (71, 14, .cp [.lit (.int .i64 o.Id), .lit (.int .i64 o.Hour), .lit (.int .i64 o.Kind), .lit (.int .i64 o.Player), .lit (.int .i64 o.Rank)]), (72, 15, .agg (aH o)), (73, 16, .d (.sl 5 (m.map aH))), (74, 17, .i c), (75, 18, .cp [.lit (.int .i64 p.Id), .lit (.int .i64 p.Hour), .lit (.int .i64 p.Kind), .lit (.int .i64 p.Player), .lit (.int .i64 p.Rank)]), (76, 19, .agg (aH p)), (77, 20, .b (!decide (o = p))), (78, 21, .b (!decide (o = p)))], ?_, ?_⟩
            · exact dok [([], []), ([], []), ([0, 1], []), ([2], []), ([3], []), ([], []), ([], []), ([5, 6], []), ([7], []), ([8], []), ([4, 9], []), ([10], []), ([11], []), ([11], []), ([11, 12, 13], []), ([11, 14], []), ([11], []), ([11], []), ([11, 16, 17], []), ([11, 18], []), ([11, 15, 19], []), ([11, 20], [])] ⟨go (zm (.d (.sl 5 (m.map aH)))),
      go (zm (.i g)),
      go (zix rfl rfl cW.of (bR aH A)),
      go (zfc [.lit (.int .i64 e.Id)] rfl iE),
      go (zlc rfl aS),
      go (zm (.d (.sl 5 (m.map aH)))),
      go (zm (.i c)),
      go (zix rfl rfl cW.of (bR aH B)),
      go (zfc [.lit (.int .i64 f.Id)] rfl iE),
      go (zlc rfl aS),
      go (zcm rfl rfl rfl),
      go (zm (.b (decide (e.Id = f.Id)))),
      gt j (zm (.d (.sl 5 (m.map aH)))),
      gt j (zm (.i g)),
      gt j (zix rfl rfl cW.of (bR aH Y)),
      gt j (aLh (aH o) rfl gP),
      gt j (zm (.d (.sl 5 (m.map aH)))),
      gt j (zm (.i c)),
      gt j (zix rfl rfl cW.of (bR aH Z)),
      gt j (aLh (aH p) rfl gP),
      gt j fun S hS => aGa (a := o) (b := p) (aI rfl) (aN hS rfl) (aN hS rfl) rfl rfl Tryz.eqGuardType32 yM,
      go (zpt (.b (!decide (o = p))) j), trivial⟩
            · exact bM (aL rfl (aO ⟨rfl, rfl, rfl, trivial⟩))
           ·obtain rfl := sIn u;refine ⟨[(57, 0, .d (.sl 5 (m.map aH))), (58, 1, .i g), (59, 2, .cp [.lit (.int .i64 e.Id), .lit (.int .i64 e.Hour), .lit (.int .i64 e.Kind), .lit (.int .i64 e.Player), .lit (.int .i64 e.Rank)]), (60, 3, .cp [.lit (.int .i64 e.Id)]), (61, 4, .i e.Id), (62, 5, .d (.sl 5 (m.map aH))), (63, 6, .i c), (64, 7, .cp [.lit (.int .i64 f.Id), .lit (.int .i64 f.Hour), .lit (.int .i64 f.Kind), .lit (.int .i64 f.Player), .lit (.int .i64 f.Rank)]), (65, 8, .cp [.lit (.int .i64 f.Id)]), (66, 9, .i f.Id), (67, 10, .b (decide (e.Id = f.Id))), (68, 11, .b (decide (e.Id = f.Id))), (69, 12, .tup []), (70, 13, .tup []), (71, 14, .tup []), (72, 15, .tup []), (73, 16, .tup []), (74, 17, .tup []), (75, 18, .tup []), (76, 19, .tup []), (77, 20, .tup []), (78, 21, .b false)], ?_, ?_⟩
            · exact dok [([], []), ([], []), ([0, 1], []), ([2], []), ([3], []), ([], []), ([], []), ([5, 6], []), ([7], []), ([8], []), ([4, 9], []), ([10], []), ([11], []), ([11], []), ([11, 12, 13], []), ([11, 14], []), ([11], []), ([11], []), ([11, 16, 17], []), ([11, 18], []), ([11, 15, 19], []), ([11, 20], [])] ⟨go (zm (.d (.sl 5 (m.map aH)))),
      go (zm (.i g)),
      go (zix rfl rfl cW.of (bR aH A)),
      go (zfc [.lit (.int .i64 e.Id)] rfl iE),
      go (zlc rfl aS),
      go (zm (.d (.sl 5 (m.map aH)))),
      go (zm (.i c)),
      go (zix rfl rfl cW.of (bR aH B)),
      go (zfc [.lit (.int .i64 f.Id)] rfl iE),
      go (zlc rfl aS),
      go (zcm rfl rfl rfl),
      go (zm (.b (decide (e.Id = f.Id)))),
      gp j,
      gp j,
      gp j,
      gp j,
      gp j,
      gp j,
      gp j,
      gp j,
      gp j,
      go (zpf (.b false) j), trivial⟩
            · exact bM (aL rfl (aO ⟨rfl, rfl, rfl, trivial⟩))
          ·refine aD ?_;refine tih h (fun a0 h => ?_) (fun a0 h => ?_)
           ·refine aF (aC (ta (.i 51) (aD ?_)));obtain rfl := sIn h;exact aU ⟨rfl, _, .one _, rfl, rfl⟩
           ·refine bV ?_;refine aC (tm (.i g) (to (sar rfl rfl rfl) (ta (.i (w64 (g + 1))) (aD ?_))));exact ⟨(w64 (g + 1)), h, aQ [] rfl rfl (aL rfl (aO ⟨rfl, rfl, trivial⟩))⟩
         ·refine bZ ?_;refine .inl ⟨rfl, ?_⟩;simp only [mR] at h;simp only [mQ] at h;refine aC (tm (.i c) (to (sar rfl rfl rfl) (ta (.i (w64 (c + 1))) (aD ?_))));exact ⟨(w64 (c + 1)), h, aQ [] rfl rfl (aL rfl (aO ⟨rfl, trivial⟩))⟩
       ·refine bZ ?_;refine .inl ⟨rfl, ?_⟩;simp only [mP] at h;refine aF (aC (ta (.i 0) (aD ?_)));obtain rfl := sIn h;exact aU ⟨rfl, _, .one _, rfl, rfl⟩

theorem vV (a : aT) (c : List aK) {r : Bool} (h : kK a c = some r) : Fn Tryz.prog 11 [.agg (aX a), .d (.sl 5 (c.map aH))] (.b r) := by
 unfold kK at h;refine Fn.of_tr Tryz.func11 rfl (rs := [.tmp 4]) Tryz.results11 Tryz.ntmps11 (Nat.le_of_ble_eq_true rfl) ?_;refine aF (aC ?_);refine bF rfl (gU (v := .agg (aX a)) (aI rfl) rfl rfl rfl) ?_;rintro _ ⟨b1, rfl⟩;refine ta (.b false) (aD (aF (aC (tm (.d (.sl 5 (c.map aH))) ?_))));obtain ⟨r2, h3, h⟩ := bns h;refine to (scr Tryz.call20 (xT _ h3)) (to (sn rfl) (tm (.b (!r2)) ?_));obtain ⟨b4, h5, h⟩ := bns h;refine bG 5 [] 13 b4 ?_ ?_
 ·refine bch h5 (fun c6 h5 => ?_) (fun c6 h5 => ?_)
  ·refine tk c6 (sla 0 (aX a) rfl rfl jC) (tk c6 (sm (.d (.sl 5 (c.map aH)))) ?_);obtain ⟨r7, h8, h5⟩ := bns h5;refine tk c6 (scr Tryz.call22 (vW _ _ h8)) (tk c6 (scm rfl rfl rfl) (to (spt (.b (decide (r7 = 0))) c6) ?_));obtain rfl := sIn h5;refine aD (aR rfl trivial rfl)
  ·refine tp c6 (tp c6 (tp c6 (tp c6 (to (spf (.b false) c6) ?_))));obtain rfl := sIn h5;refine aD (aR rfl trivial rfl)
 ·refine ta (.b b4) (aD ?_);obtain rfl := sIn h;refine bK (bE (bH (l := [4]) ⟨rfl, trivial⟩)) ?_;exact aU ⟨rfl, _, .one _, rfl, rfl⟩

theorem pY (a : Int) {r : Bool} (h : iJ a = some r) : Fn Tryz.prog 12 [.i a] (.b r) := by
 unfold iJ at h;refine Fn.of_tr Tryz.func12 rfl (rs := [.tmp 2]) Tryz.results12 Tryz.ntmps12 (Nat.le_of_ble_eq_true rfl) ?_;refine aF (aC (ta (.b false) (aD (aF (aC (tm (.i a) (to (scm rfl rfl rfl) (tm (.b (decide (0 ≤ a))) ?_))))))));obtain ⟨b1, h2, h⟩ := bns h;refine bG 3 [] 8 b1 ?_ ?_
 ·refine bch h2 (fun c3 h2 => ?_) (fun c3 h2 => ?_)
  ·refine tk c3 (sm (.i a)) (tk c3 (scm rfl rfl rfl) (to (spt (.b (decide (a ≤ 9999))) c3) ?_));obtain rfl := sIn h2;refine aD (aR rfl trivial rfl)
  ·refine tp c3 (tp c3 (to (spf (.b false) c3) ?_));obtain rfl := sIn h2;refine aD (aR rfl trivial rfl)
 ·refine ta (.b b1) (aD ?_);obtain rfl := sIn h;exact aU ⟨rfl, _, .one _, rfl, rfl⟩

theorem dG (e : Int) (b : Int) (c : Int) (a : Int) (d : Int) {r : aK} (h : cY e b c a d = some r) : Fn Tryz.prog 60 [.i e, .i b, .i c, .i a, .i d] (.agg (aH r)) := by
 unfold cY at h;refine mG Tryz.func60 rfl (rs := [.cell 10 32]) Tryz.results60 Tryz.ntmps60 (Nat.le_of_ble_eq_true rfl) ?_;refine aF (aC ?_);refine bF rfl (dX (zs := [.lit (.int .i64 0), .lit (.int .i64 0), .lit (.int .i64 0), .lit (.int .i64 0), .lit (.int .i64 0)]) (aI rfl) Tryz.zeroValue32 rfl rfl) ?_;rintro _ ⟨b1, rfl⟩;refine aD (aF (aC (tm (.i e) (tm (.i b) (tm (.i c) (tm (.i a) (tm (.i d) (to (sJ (aI rfl) aLe (zs := [.lit (.int .i64 0), .lit (.int .i64 0), .lit (.int .i64 0), .lit (.int .i64 0), .lit (.int .i64 0)]) rfl rfl rfl rfl (es := [.lit (.int .i64 e), .lit (.int .i64 b), .lit (.int .i64 c), .lit (.int .i64 a), .lit (.int .i64 d)]) rfl) ?_))))))));refine to (sst 0 rfl rfl Tryz.sizeOf32 (aH (aK.mk e b c a d))) (aD ?_);obtain rfl := sIn h;exact aU ⟨rfl, _, [.box b1 0 (aH (aK.mk e b c a d))], .one (.cell 10 32 rfl (i := 0) rfl gP (es := (aH (aK.mk e b c a d))) rfl rfl), .refl _, .same _⟩

theorem uQ {r : aT × (List aK)} (h : gW = some r) : Fn Tryz.prog 31 [] (.tup [.agg (aX r.1), .d (.sl 5 (r.2.map aH))]) := by
 unfold gW at h;refine mG Tryz.func31 rfl (rs := [.cell 0 23, .tmp 1]) Tryz.results31 Tryz.ntmps31 (Nat.le_of_ble_eq_true rfl) ?_;refine aF (aC ?_);refine bF rfl (dX (zs := [.lit (.int .i64 0), .lit (.int .i64 0), .lit (.int .i64 0), .lit (.int .i64 0), .lit (.int .i64 0)]) (aI rfl) Tryz.zeroValue23 rfl rfl) ?_;rintro _ ⟨b1, rfl⟩;refine to (aGb 5 (aI rfl)) ?_;refine aD (aF (aC (to (sJ (aI rfl) aLd (zs := [.lit (.int .i64 0), .lit (.int .i64 0), .lit (.int .i64 0), .lit (.int .i64 0), .lit (.int .i64 0)]) rfl rfl rfl rfl (es := [.lit (.int .i64 3), .lit (.int .i64 1), .lit (.int .i64 1), .lit (.int .i64 10), .lit (.int .i64 20)]) rfl) ?_)));refine bF rfl (dX (zs := [.lit (.int .i64 0), .lit (.int .i64 0), .lit (.int .i64 0), .lit (.int .i64 0), .lit (.int .i64 0)]) (aI rfl) Tryz.zeroValue23 rfl rfl) ?_;rintro _ ⟨b2, rfl⟩;refine to (sst 1 rfl rfl Tryz.sizeOf23 (aX (aT.mk 3 1 1 10 20))) (aD (aF ?_));obtain ⟨r4, h5, h⟩ := bns h;obtain ⟨r6, h7, h⟩ := bns h;obtain ⟨r8, h9, h⟩ := bns h;obtain ⟨a, m, h⟩ := bns h;obtain ⟨b, n, h⟩ := bns h;obtain ⟨c, o, h⟩ := bns h;obtain ⟨e, q, h⟩ := bns h;obtain ⟨g, s, h⟩ := bns h;obtain ⟨j, t, h⟩ := bns h;obtain ⟨k, u, h⟩ := bns h;obtain ⟨l, w, h⟩ := bns h;refine jJ mix 14 [0] (fun X3 => [(16, .d (.sl 5 ((([r4, r6, r8, a, b, c, e, g, j, k, l])).map aH)))]) (fun X3 => [.box b1 0 (aX (aT.mk 3 1 1 10 20)), .box b2 0 (aX (aT.mk 3 1 1 10 20))]) ?_ ?_
 ·refine ⟨0, fun X3 => [(4, 0, .agg (aX (aT.mk 3 1 1 10 20))), (5, 1, .agg (aH r4)), (6, 2, .agg (aH r6)), (7, 3, .agg (aH r8)), (8, 4, .agg (aH a)), (9, 5, .agg (aH b)), (10, 6, .agg (aH c)), (11, 7, .agg (aH e)), (12, 8, .agg (aH g)), (13, 9, .agg (aH j)), (14, 10, .agg (aH k)), (15, 11, .agg (aH l)), (16, 12, .d (.sl 5 ((([r4, r6, r8, a, b, c, e, g, j, k, l])).map aH)))], fun X3 => [([(13, .box b1 0 (aX (aT.mk 3 1 1 10 20)))], .box b1 0 (aX (aT.mk 0 0 0 0 0))), ([], .box b2 0 (aX (aT.mk 3 1 1 10 20)))], ?_, ?_⟩
  · exact ⟨by kernel_rfl, by kernel_rfl, by kernel_rfl, fun _ => by kernel_rfl, fun _ => by kernel_rfl, fun _ => by kernel_rfl, fun _ => rfl, [([], [13]), ([], [13]), ([], [13]), ([], [13]), ([], [13]), ([], [13]), ([], [13]), ([], [13]), ([], [13]), ([], [13]), ([], [13]), ([], [13]), ([1, 2, 3, 4, 5, 6, 7, 8, 9, 10, 11], []), ([0], [])], by kernel_rfl, ⟨fun X3 S hw hi hS => aZ (X := X3) rfl (hw X3) rfl (bJ rfl (pQ (aI rfl) (aN hS rfl) (i := 1) (og hS rfl rfl) jC (es := (aX (aT.mk 3 1 1 10 20))) rfl rfl)),
      fun X3 S hw hi hS => aZ (X := X3) rfl (hw X3) rfl (bJ rfl (dC (aI rfl) (.func _ _ Tryz.call60) (ev2 rfl (ev2 rfl (ev2 rfl (ev2 rfl (ev2 rfl evn))))) rfl (dG _ _ _ _ _ h5))),
      fun X3 S hw hi hS => aZ (X := X3) rfl (hw X3) rfl (bJ rfl (dC (aI rfl) (.func _ _ Tryz.call60) (ev2 rfl (ev2 rfl (ev2 rfl (ev2 rfl (ev2 rfl evn))))) rfl (dG _ _ _ _ _ h7))),
      fun X3 S hw hi hS => aZ (X := X3) rfl (hw X3) rfl (bJ rfl (dC (aI rfl) (.func _ _ Tryz.call60) (ev2 rfl (ev2 rfl (ev2 rfl (ev2 rfl (ev2 rfl evn))))) rfl (dG _ _ _ _ _ h9))),
      fun X3 S hw hi hS => aZ (X := X3) rfl (hw X3) rfl (bJ rfl (dC (aI rfl) (.func _ _ Tryz.call60) (ev2 rfl (ev2 rfl (ev2 rfl (ev2 rfl (ev2 rfl evn))))) rfl (dG _ _ _ _ _ m))),
      fun X3 S hw hi hS => aZ (X := X3) rfl (hw X3) rfl (bJ rfl (dC (aI rfl) (.func _ _ Tryz.call60) (ev2 rfl (ev2 rfl (ev2 rfl (ev2 rfl (ev2 rfl evn))))) rfl (dG _ _ _ _ _ n))),
      fun X3 S hw hi hS => aZ (X := X3) rfl (hw X3) rfl (bJ rfl (dC (aI rfl) (.func _ _ Tryz.call60) (ev2 rfl (ev2 rfl (ev2 rfl (ev2 rfl (ev2 rfl evn))))) rfl (dG _ _ _ _ _ o))),
      fun X3 S hw hi hS => aZ (X := X3) rfl (hw X3) rfl (bJ rfl (dC (aI rfl) (.func _ _ Tryz.call60) (ev2 rfl (ev2 rfl (ev2 rfl (ev2 rfl (ev2 rfl evn))))) rfl (dG _ _ _ _ _ q))),
      fun X3 S hw hi hS => aZ (X := X3) rfl (hw X3) rfl (bJ rfl (dC (aI rfl) (.func _ _ Tryz.call60) (ev2 rfl (ev2 rfl (ev2 rfl (ev2 rfl (ev2 rfl evn))))) rfl (dG _ _ _ _ _ s))),
      fun X3 S hw hi hS => aZ (X := X3) rfl (hw X3) rfl (bJ rfl (dC (aI rfl) (.func _ _ Tryz.call60) (ev2 rfl (ev2 rfl (ev2 rfl (ev2 rfl (ev2 rfl evn))))) rfl (dG _ _ _ _ _ t))),
      fun X3 S hw hi hS => aZ (X := X3) rfl (hw X3) rfl (bJ rfl (dC (aI rfl) (.func _ _ Tryz.call60) (ev2 rfl (ev2 rfl (ev2 rfl (ev2 rfl (ev2 rfl evn))))) rfl (dG _ _ _ _ _ u))),
      fun X3 S hw hi hS => aZ (X := X3) rfl (hw X3) rfl (bJ rfl (dC (aI rfl) (.func _ _ Tryz.call60) (ev2 rfl (ev2 rfl (ev2 rfl (ev2 rfl (ev2 rfl evn))))) rfl (dG _ _ _ _ _ w))),
      fun X3 S hw hi hS => aZ (X := X3) rfl (hw X3) rfl (bJ rfl (fG (aI rfl) cW rfl (pa2 (aN hS rfl) (pa2 (aN hS rfl) (pa2 (aN hS rfl) (pa2 (aN hS rfl) (pa2 (aN hS rfl) (pa2 (aN hS rfl) (pa2 (aN hS rfl) (pa2 (aN hS rfl) (pa2 (aN hS rfl) (pa2 (aN hS rfl) (pa2 (aN hS rfl) pan))))))))))) (rows := ([r4, r6, r8, a, b, c, e, g, j, k, l]).map aH) rfl (aV (f := aH) fun _ => rfl) rfl (by decide))),
      fun X3 S hw hi hS => nS (X := X3) hS rfl rfl rfl (p := 0) rfl rfl (bJ rfl (jB (i := 0) (aN hS rfl) (og hS rfl rfl) (aN hS rfl) rfl rfl Tryz.sizeOf23 rfl (aI rfl) (Nat.le_of_ble_eq_true rfl) (ds' := (aX (aT.mk 3 1 1 10 20))) rfl)), trivial⟩⟩
  · exact fun X3 => bM (aL rfl (aO ⟨rfl, trivial⟩))
 ·intro X3;refine ta (.d (.sl 5 ((([r4, r6, r8, a, b, c, e, g, j, k, l])).map aH))) (aD ?_);obtain rfl := sIn h;exact aU ⟨rfl, _, [.box b1 0 (aX (aT.mk 3 1 1 10 20)), .box b2 0 (aX (aT.mk 3 1 1 10 20))], .two (.cell 0 23 rfl (i := 0) rfl jC (es := (aX (aT.mk 3 1 1 10 20))) rfl rfl) (.tmp 1 (v := .d (.sl 5 ((([r4, r6, r8, a, b, c, e, g, j, k, l])).map aH))) rfl), .refl _, .same _⟩

theorem bP (d : Int) (c : Int) (a : Int) {r : Bool} (h : bQ d c a = some r) : Fn Tryz.prog 61 [.i d, .i c, .i a] (.b r) := by
 unfold bQ at h;refine Fn.of_tr Tryz.func61 rfl (rs := [.tmp 6]) Tryz.results61 Tryz.ntmps61 (Nat.le_of_ble_eq_true rfl) ?_;refine aF (aC (ta (.b false) (aD (aF (aC (tm (.i c) (tm (.i d) (to (scm rfl rfl rfl) (tm (.b (decide (c ≤ d))) ?_)))))))));obtain ⟨b1, h2, h⟩ := bns h;refine bG 4 [] 14 b1 ?_ ?_
 ·refine bch h2 (fun c3 h2 => ?_) (fun c3 h2 => ?_)
  ·refine tk c3 (sm (.i d)) (tk c3 (sm (.i a)) (tk c3 (scm rfl rfl rfl) (to (spt (.b (decide (d ≤ a))) c3) ?_)));obtain rfl := sIn h2;refine aD (aR rfl trivial rfl)
  ·refine tp c3 (tp c3 (tp c3 (to (spf (.b false) c3) ?_)));obtain rfl := sIn h2;refine aD (aR rfl trivial rfl)
 ·refine ta (.b b1) (aD ?_);obtain rfl := sIn h;exact aU ⟨rfl, _, .one _, rfl, rfl⟩

theorem yL (g : aT) {r : Bool} (h : mH g = some r) : Fn Tryz.prog 40 [.agg (aX g)] (.b r) := by
 unfold mH at h;refine Fn.of_tr Tryz.func40 rfl (rs := [.tmp 2]) Tryz.results40 Tryz.ntmps40 (Nat.le_of_ble_eq_true rfl) ?_;refine aF (aC ?_);refine bF rfl (gU (v := .agg (aX g)) (aI rfl) rfl rfl rfl) ?_;rintro _ ⟨b1, rfl⟩;refine ta (.b false) (aD (aF (aC (tfl 0 rfl rfl xX rfl aS ?_))));obtain ⟨r2, h3, h⟩ := bns h;refine to (scr Tryz.call61 (bP _ _ _ h3)) (tm (.b r2) ?_);obtain ⟨b4, h5, h⟩ := bns h;refine bG 4 [1] 10 b4 ?_ ?_
 ·refine bch h5 (fun c h5 => ?_) (fun c h5 => ?_)
  ·refine tkl 0 c rfl rfl uU rfl aS ?_;obtain ⟨j, k, h5⟩ := bns h5;refine tk c (scr Tryz.call61 (bP _ _ _ k)) (to (spt (.b j) c) ?_);obtain rfl := sIn h5;refine aD (aR rfl ⟨rfl, trivial⟩ rfl)
  ·refine tp c (tp c (tp c (to (spf (.b false) c) ?_)));obtain rfl := sIn h5;refine aD (aR rfl ⟨rfl, trivial⟩ rfl)
 ·refine tm (.b b4) ?_;obtain ⟨b6, h7, h⟩ := bns h;refine bG 4 [1] 15 b6 ?_ ?_
  ·refine bch h7 (fun d h7 => ?_) (fun d h7 => ?_)
   ·refine tkl 0 d rfl rfl mA rfl aS ?_;obtain ⟨m, n, h7⟩ := bns h7;refine tk d (scr Tryz.call61 (bP _ _ _ n)) (to (spt (.b m) d) ?_);obtain rfl := sIn h7;refine aD (aR rfl ⟨rfl, trivial⟩ rfl)
   ·refine tp d (tp d (tp d (to (spf (.b false) d) ?_)));obtain rfl := sIn h7;refine aD (aR rfl ⟨rfl, trivial⟩ rfl)
  ·refine tm (.b b6) ?_;obtain ⟨b8, h9, h⟩ := bns h;refine bG 4 [1] 20 b8 ?_ ?_
   ·refine bch h9 (fun e h9 => ?_) (fun e h9 => ?_)
    ·refine tkl 0 e rfl rfl oQ rfl aS ?_;obtain ⟨o, p, h9⟩ := bns h9;refine tk e (scr Tryz.call61 (bP _ _ _ p)) (to (spt (.b o) e) ?_);obtain rfl := sIn h9;refine aD (aR rfl ⟨rfl, trivial⟩ rfl)
    ·refine tp e (tp e (tp e (to (spf (.b false) e) ?_)));obtain rfl := sIn h9;refine aD (aR rfl ⟨rfl, trivial⟩ rfl)
   ·refine tm (.b b8) ?_;obtain ⟨i, f, h⟩ := bns h;refine bG 6 [] 27 i ?_ ?_
    ·refine bch f (fun a f => ?_) (fun a f => ?_)
     ·refine tkl 0 a rfl rfl gV rfl aS (tkl 0 a rfl rfl oQ rfl aS ?_);obtain ⟨q, s, f⟩ := bns f;refine tk a (scr Tryz.call61 (bP _ _ _ s)) (to (spt (.b q) a) ?_);obtain rfl := sIn f;refine aD (aR rfl trivial rfl)
     ·refine tp a (tp a (tp a (tp a (tp a (to (spf (.b false) a) ?_)))));obtain rfl := sIn f;refine aD (aR rfl trivial rfl)
    ·refine ta (.b i) (aD ?_);obtain rfl := sIn h;refine bK (bE (bH (l := [2]) ⟨rfl, trivial⟩)) ?_;exact aU ⟨rfl, _, .one _, rfl, rfl⟩

theorem xW (g : aK) {r : Bool} (h : lK g = some r) : Fn Tryz.prog 41 [.agg (aH g)] (.b r) := by
 unfold lK at h;refine Fn.of_tr Tryz.func41 rfl (rs := [.tmp 2]) Tryz.results41 Tryz.ntmps41 (Nat.le_of_ble_eq_true rfl) ?_;refine aF (aC ?_);refine bF rfl (gU (v := .agg (aH g)) (aI rfl) rfl rfl rfl) ?_;rintro _ ⟨b1, rfl⟩;refine ta (.b false) (aD (aF (aC (ta (.i 0) (ta (.i 0) (aD (aF (aF (aC (tfl 0 rfl rfl nG rfl aS (aD (bL ?_))))))))))));refine aF (aC (to (scm rfl rfl rfl) (ta (.b (decide (g.Kind = 1))) (aD ?_))));refine tih h (fun c2 h => ?_) (fun c2 h => ?_)
 ·refine aC (ta (.i 9999) ?_);refine cN ?_;refine aF (aC (tfl 0 rfl rfl iE rfl aS ?_));obtain ⟨r3, h4, h⟩ := bns h;refine to (scr Tryz.call61 (bP _ _ _ h4)) (tm (.b r3) ?_);obtain ⟨b5, h6, h⟩ := bns h;refine bG 4 [1, 3, 4] 22 b5 ?_ ?_
  ·refine bch h6 (fun j h6 => ?_) (fun j h6 => ?_)
   ·refine tkl 0 j rfl rfl cT rfl aS ?_;obtain ⟨X, Y, h6⟩ := bns h6;refine tk j (scr Tryz.call61 (bP _ _ _ Y)) (to (spt (.b X) j) ?_);obtain rfl := sIn h6;refine aD (aR rfl ⟨rfl, rfl, rfl, trivial⟩ rfl)
   ·refine tp j (tp j (tp j (to (spf (.b false) j) ?_)));obtain rfl := sIn h6;refine aD (aR rfl ⟨rfl, rfl, rfl, trivial⟩ rfl)
  ·refine tm (.b b5) ?_;obtain ⟨b7, h8, h⟩ := bns h;refine bG 4 [1, 3, 4] 27 b7 ?_ ?_
   ·refine bch h8 (fun k h8 => ?_) (fun k h8 => ?_)
    ·refine tkl 0 k rfl rfl dM rfl aS ?_;obtain ⟨Z, a0, h8⟩ := bns h8;refine tk k (scr Tryz.call61 (bP _ _ _ a0)) (to (spt (.b Z) k) ?_);obtain rfl := sIn h8;refine aD (aR rfl ⟨rfl, rfl, rfl, trivial⟩ rfl)
    ·refine tp k (tp k (tp k (to (spf (.b false) k) ?_)));obtain rfl := sIn h8;refine aD (aR rfl ⟨rfl, rfl, rfl, trivial⟩ rfl)
   ·refine tm (.b b7) ?_;obtain ⟨b9, w, h⟩ := bns h;refine bG 6 [] 34 b9 ?_ ?_
    ·refine bch w (fun a w => ?_) (fun a w => ?_)
     ·refine tkl 0 a rfl rfl jS rfl aS (tk a (sm (.i 0)) (tk a (sm (.i 9999)) ?_));obtain ⟨a1, a2, w⟩ := bns w;refine tk a (scr Tryz.call61 (bP _ _ _ a2)) (to (spt (.b a1) a) ?_);obtain rfl := sIn w;refine aD (aR rfl trivial rfl)
     ·refine tp a (tp a (tp a (tp a (tp a (to (spf (.b false) a) ?_)))));obtain rfl := sIn w;refine aD (aR rfl trivial rfl)
    ·refine ta (.b b9) (aD ?_);obtain rfl := sIn h;refine bK (bE (bH (l := [2]) ⟨rfl, trivial⟩)) ?_;exact aU ⟨rfl, _, .one _, rfl, rfl⟩
 ·refine aF (aC (to (scm rfl rfl rfl) (ta (.b (decide (g.Kind = 2))) (aD ?_))));refine tih h (fun a3 h => ?_) (fun a3 h => ?_)
  ·refine aC (ta (.i 1) (ta (.i 9999) ?_));refine cN ?_;refine aF (aC (tfl 0 rfl rfl iE rfl aS ?_));obtain ⟨a4, a5, h⟩ := bns h;refine to (scr Tryz.call61 (bP _ _ _ a5)) (tm (.b a4) ?_);obtain ⟨K, x, h⟩ := bns h;refine bG 4 [1, 3, 4] 22 K ?_ ?_
   ·refine bch x (fun m x => ?_) (fun m x => ?_)
    ·refine tkl 0 m rfl rfl cT rfl aS ?_;obtain ⟨a6, a7, x⟩ := bns x;refine tk m (scr Tryz.call61 (bP _ _ _ a7)) (to (spt (.b a6) m) ?_);obtain rfl := sIn x;refine aD (aR rfl ⟨rfl, rfl, rfl, trivial⟩ rfl)
    ·refine tp m (tp m (tp m (to (spf (.b false) m) ?_)));obtain rfl := sIn x;refine aD (aR rfl ⟨rfl, rfl, rfl, trivial⟩ rfl)
   ·refine tm (.b K) ?_;obtain ⟨L, y, h⟩ := bns h;refine bG 4 [1, 3, 4] 27 L ?_ ?_
    ·refine bch y (fun n y => ?_) (fun n y => ?_)
     ·refine tkl 0 n rfl rfl dM rfl aS ?_;obtain ⟨a8, a9, y⟩ := bns y;refine tk n (scr Tryz.call61 (bP _ _ _ a9)) (to (spt (.b a8) n) ?_);obtain rfl := sIn y;refine aD (aR rfl ⟨rfl, rfl, rfl, trivial⟩ rfl)
     ·refine tp n (tp n (tp n (to (spf (.b false) n) ?_)));obtain rfl := sIn y;refine aD (aR rfl ⟨rfl, rfl, rfl, trivial⟩ rfl)
    ·refine tm (.b L) ?_;obtain ⟨M, z, h⟩ := bns h;refine bG 6 [] 34 M ?_ ?_
     ·refine bch z (fun c z => ?_) (fun c z => ?_)
      ·refine tkl 0 c rfl rfl jS rfl aS (tk c (sm (.i 1)) (tk c (sm (.i 9999)) ?_));obtain ⟨b0, b2, z⟩ := bns z;refine tk c (scr Tryz.call61 (bP _ _ _ b2)) (to (spt (.b b0) c) ?_);obtain rfl := sIn z;refine aD (aR rfl trivial rfl)
      ·refine tp c (tp c (tp c (tp c (tp c (to (spf (.b false) c) ?_)))));obtain rfl := sIn z;refine aD (aR rfl trivial rfl)
     ·refine ta (.b M) (aD ?_);obtain rfl := sIn h;refine bK (bE (bH (l := [2]) ⟨rfl, trivial⟩)) ?_;exact aU ⟨rfl, _, .one _, rfl, rfl⟩
  ·refine aF (aF (aC (to (scm rfl rfl rfl) (ta (.b (decide (g.Kind = 3))) (aD ?_)))));refine tih h (fun b3 h => ?_) (fun b3 h => ?_)
   ·refine bB ?_;refine tih h (fun b4 h => ?_) (fun b4 h => ?_)
    ·refine bV ?_;refine aF (aC (tfl 0 rfl rfl iE rfl aS ?_));obtain ⟨b6, b8, h⟩ := bns h;refine to (scr Tryz.call61 (bP _ _ _ b8)) (tm (.b b6) ?_);obtain ⟨N, A, h⟩ := bns h;refine bG 4 [1, 3, 4] 22 N ?_ ?_
     ·refine bch A (fun o A => ?_) (fun o A => ?_)
      ·refine tkl 0 o rfl rfl cT rfl aS ?_;obtain ⟨c0, c1, A⟩ := bns A;refine tk o (scr Tryz.call61 (bP _ _ _ c1)) (to (spt (.b c0) o) ?_);obtain rfl := sIn A;refine aD (aR rfl ⟨rfl, rfl, rfl, trivial⟩ rfl)
      ·refine tp o (tp o (tp o (to (spf (.b false) o) ?_)));obtain rfl := sIn A;refine aD (aR rfl ⟨rfl, rfl, rfl, trivial⟩ rfl)
     ·refine tm (.b N) ?_;obtain ⟨O, B, h⟩ := bns h;refine bG 4 [1, 3, 4] 27 O ?_ ?_
      ·refine bch B (fun p B => ?_) (fun p B => ?_)
       ·refine tkl 0 p rfl rfl dM rfl aS ?_;obtain ⟨c3, c4, B⟩ := bns B;refine tk p (scr Tryz.call61 (bP _ _ _ c4)) (to (spt (.b c3) p) ?_);obtain rfl := sIn B;refine aD (aR rfl ⟨rfl, rfl, rfl, trivial⟩ rfl)
       ·refine tp p (tp p (tp p (to (spf (.b false) p) ?_)));obtain rfl := sIn B;refine aD (aR rfl ⟨rfl, rfl, rfl, trivial⟩ rfl)
      ·refine tm (.b O) ?_;obtain ⟨P, C, h⟩ := bns h;refine bG 6 [] 34 P ?_ ?_
       ·refine bch C (fun d C => ?_) (fun d C => ?_)
        ·refine tkl 0 d rfl rfl jS rfl aS (tk d (sm (.i 0)) (tk d (sm (.i 0)) ?_));obtain ⟨c5, c6, C⟩ := bns C;refine tk d (scr Tryz.call61 (bP _ _ _ c6)) (to (spt (.b c5) d) ?_);obtain rfl := sIn C;refine aD (aR rfl trivial rfl)
        ·refine tp d (tp d (tp d (tp d (tp d (to (spf (.b false) d) ?_)))));obtain rfl := sIn C;refine aD (aR rfl trivial rfl)
       ·refine ta (.b P) (aD ?_);obtain rfl := sIn h;refine bK (bE (bH (l := [2]) ⟨rfl, trivial⟩)) ?_;exact aU ⟨rfl, _, .one _, rfl, rfl⟩
    ·refine aF (aC (ta (.b false) (aD ?_)));obtain rfl := sIn h;refine bK (bE (bH (l := [2]) ⟨rfl, trivial⟩)) ?_;exact aU ⟨rfl, _, .one _, rfl, rfl⟩
   ·refine aF (aC (to (scm rfl rfl rfl) (ta (.b (decide (g.Kind = 4))) (aD ?_))));refine tih h (fun c7 h => ?_) (fun c7 h => ?_)
    ·refine bB ?_;refine tih h (fun c8 h => ?_) (fun c8 h => ?_)
     ·refine bV ?_;refine aF (aC (tfl 0 rfl rfl iE rfl aS ?_));obtain ⟨c9, d0, h⟩ := bns h;refine to (scr Tryz.call61 (bP _ _ _ d0)) (tm (.b c9) ?_);obtain ⟨Q, E, h⟩ := bns h;refine bG 4 [1, 3, 4] 22 Q ?_ ?_
      ·refine bch E (fun q E => ?_) (fun q E => ?_)
       ·refine tkl 0 q rfl rfl cT rfl aS ?_;obtain ⟨d1, d2, E⟩ := bns E;refine tk q (scr Tryz.call61 (bP _ _ _ d2)) (to (spt (.b d1) q) ?_);obtain rfl := sIn E;refine aD (aR rfl ⟨rfl, rfl, rfl, trivial⟩ rfl)
       ·refine tp q (tp q (tp q (to (spf (.b false) q) ?_)));obtain rfl := sIn E;refine aD (aR rfl ⟨rfl, rfl, rfl, trivial⟩ rfl)
      ·refine tm (.b Q) ?_;obtain ⟨S, F, h⟩ := bns h;refine bG 4 [1, 3, 4] 27 S ?_ ?_
       ·refine bch F (fun s F => ?_) (fun s F => ?_)
        ·refine tkl 0 s rfl rfl dM rfl aS ?_;obtain ⟨d3, d4, F⟩ := bns F;refine tk s (scr Tryz.call61 (bP _ _ _ d4)) (to (spt (.b d3) s) ?_);obtain rfl := sIn F;refine aD (aR rfl ⟨rfl, rfl, rfl, trivial⟩ rfl)
        ·refine tp s (tp s (tp s (to (spf (.b false) s) ?_)));obtain rfl := sIn F;refine aD (aR rfl ⟨rfl, rfl, rfl, trivial⟩ rfl)
       ·refine tm (.b S) ?_;obtain ⟨T, G, h⟩ := bns h;refine bG 6 [] 34 T ?_ ?_
        ·refine bch G (fun e G => ?_) (fun e G => ?_)
         ·refine tkl 0 e rfl rfl jS rfl aS (tk e (sm (.i 0)) (tk e (sm (.i 0)) ?_));obtain ⟨d5, d6, G⟩ := bns G;refine tk e (scr Tryz.call61 (bP _ _ _ d6)) (to (spt (.b d5) e) ?_);obtain rfl := sIn G;refine aD (aR rfl trivial rfl)
         ·refine tp e (tp e (tp e (tp e (tp e (to (spf (.b false) e) ?_)))));obtain rfl := sIn G;refine aD (aR rfl trivial rfl)
        ·refine ta (.b T) (aD ?_);obtain rfl := sIn h;refine bK (bE (bH (l := [2]) ⟨rfl, trivial⟩)) ?_;exact aU ⟨rfl, _, .one _, rfl, rfl⟩
     ·refine aF (aC (ta (.b false) (aD ?_)));obtain rfl := sIn h;refine bK (bE (bH (l := [2]) ⟨rfl, trivial⟩)) ?_;exact aU ⟨rfl, _, .one _, rfl, rfl⟩
    ·refine aC (to (scm rfl rfl rfl) (ta (.b (decide (g.Kind = 5))) (aD ?_)));refine tih h (fun d7 h => ?_) (fun d7 h => ?_)
     ·refine bV ?_;refine aF (aC (tfl 0 rfl rfl iE rfl aS ?_));obtain ⟨d8, d9, h⟩ := bns h;refine to (scr Tryz.call61 (bP _ _ _ d9)) (tm (.b d8) ?_);obtain ⟨U, H, h⟩ := bns h;refine bG 4 [1, 3, 4] 22 U ?_ ?_
      ·refine bch H (fun t H => ?_) (fun t H => ?_)
       ·refine tkl 0 t rfl rfl cT rfl aS ?_;obtain ⟨e0, e1, H⟩ := bns H;refine tk t (scr Tryz.call61 (bP _ _ _ e1)) (to (spt (.b e0) t) ?_);obtain rfl := sIn H;refine aD (aR rfl ⟨rfl, rfl, rfl, trivial⟩ rfl)
       ·refine tp t (tp t (tp t (to (spf (.b false) t) ?_)));obtain rfl := sIn H;refine aD (aR rfl ⟨rfl, rfl, rfl, trivial⟩ rfl)
      ·refine tm (.b U) ?_;obtain ⟨V, I, h⟩ := bns h;refine bG 4 [1, 3, 4] 27 V ?_ ?_
       ·refine bch I (fun u I => ?_) (fun u I => ?_)
        ·refine tkl 0 u rfl rfl dM rfl aS ?_;obtain ⟨e2, e3, I⟩ := bns I;refine tk u (scr Tryz.call61 (bP _ _ _ e3)) (to (spt (.b e2) u) ?_);obtain rfl := sIn I;refine aD (aR rfl ⟨rfl, rfl, rfl, trivial⟩ rfl)
        ·refine tp u (tp u (tp u (to (spf (.b false) u) ?_)));obtain rfl := sIn I;refine aD (aR rfl ⟨rfl, rfl, rfl, trivial⟩ rfl)
       ·refine tm (.b V) ?_;obtain ⟨W, J, h⟩ := bns h;refine bG 6 [] 34 W ?_ ?_
        ·refine bch J (fun f J => ?_) (fun f J => ?_)
         ·refine tkl 0 f rfl rfl jS rfl aS (tk f (sm (.i 0)) (tk f (sm (.i 0)) ?_));obtain ⟨e4, e5, J⟩ := bns J;refine tk f (scr Tryz.call61 (bP _ _ _ e5)) (to (spt (.b e4) f) ?_);obtain rfl := sIn J;refine aD (aR rfl trivial rfl)
         ·refine tp f (tp f (tp f (tp f (tp f (to (spf (.b false) f) ?_)))));obtain rfl := sIn J;refine aD (aR rfl trivial rfl)
        ·refine ta (.b W) (aD ?_);obtain rfl := sIn h;refine bK (bE (bH (l := [2]) ⟨rfl, trivial⟩)) ?_;exact aU ⟨rfl, _, .one _, rfl, rfl⟩
     ·refine aF (aC (ta (.b false) (aD ?_)));obtain rfl := sIn h;refine bK (bE (bH (l := [2]) ⟨rfl, trivial⟩)) ?_;exact aU ⟨rfl, _, .one _, rfl, rfl⟩

theorem aBu (t : aT) (o : List aK) {r : Int} (h : nZ t o = some r) : Fn Tryz.prog 21 [.agg (aX t), .d (.sl 5 (o.map aH))] (.i r) := by
 unfold nZ at h;refine Fn.of_tr Tryz.func21 rfl (rs := [.tmp 4]) Tryz.results21 Tryz.ntmps21 (Nat.le_of_ble_eq_true rfl) ?_;refine aF (aC ?_);refine bF rfl (gU (v := .agg (aX t)) (aI rfl) rfl rfl rfl) ?_;rintro _ ⟨b1, rfl⟩;refine ta (.i 0) (aD (aF (aF (aC (to (sla 0 (aX t) rfl rfl jC) ?_)))));obtain ⟨r2, h3, h⟩ := bns h;refine to (scr Tryz.call40 (yL _ h3)) (to (sn rfl) (aD ?_));refine tih h (fun c4 h => ?_) (fun c4 h => ?_)
 ·refine aF (aC (ta (.i 50) (aD ?_)));obtain rfl := sIn h;refine bK (bE (bH (l := [4]) ⟨rfl, trivial⟩)) ?_;exact aU ⟨rfl, _, .one _, rfl, rfl⟩
 ·refine bB (aF (aF (aC (tm (.d (.sl 5 (o.map aH))) (to (sle rfl cW.of) (to (scm rfl rfl rfl) (aD ?_)))))));refine tih h (fun c5 h => ?_) (fun c5 h => ?_)
  ·refine aF (aC (ta (.i 51) (aD ?_)));obtain rfl := sIn h;refine bK (bE (bH (l := [4]) ⟨rfl, trivial⟩)) ?_;exact aU ⟨rfl, _, .one _, rfl, rfl⟩
  ·refine bB (aF (aC ?_));refine bF rfl (wO (aI rfl)) ?_;rintro _ ⟨r6, rfl⟩;refine ta (.d (.lit (.map (some r6)))) (aD (aF (aF (aC (tm (.d (.sl 5 (o.map aH))) (to (sle rfl cW.of) (tm (.i 0) (aD (bL ?_)))))))));refine cH (S := Int × (List (Int × aK)) × (List Nat) × Nat) [5, 17, 18] (fun s7 => [(19, .i s7.1)]) (fun s7 => [.map r6 (s7.2.1.map fun p : Int × aK => ((fun n : Int => Value.int .i64 n) p.1, (fun v : aK => AV.agg (aH v)) p.2)) s7.2.2.1 s7.2.2.2]) (fun k s7 => gX o (o.length : Int) k s7.1 s7.2.1) (fun _ => rfl) (0, ([] : List (Int × aK)), [], 0) h (aQ [1] rfl rfl (aL rfl (aO ⟨rfl, rfl, rfl, trivial⟩))) ?_;rintro G ⟨q, c, x, u⟩ h;simp only [gX] at h;refine aF (aC (to (scm rfl rfl rfl) (aD (aF ?_))));refine tih h (fun y h => ?_) (fun y h => ?_)
   ·refine bB (aF (bL (aF (aC ?_))));obtain ⟨e, A, h⟩ := bns h;refine to (six rfl rfl cW.of (bR aH A)) (to (aDx (aH e) rfl gP) ?_);refine bF rfl (dX (zs := [.lit (.int .i64 0), .lit (.int .i64 0), .lit (.int .i64 0), .lit (.int .i64 0), .lit (.int .i64 0)]) (aI rfl) Tryz.zeroValue32 rfl rfl) ?_;rintro _ ⟨H, rfl⟩;refine to (sst 1 rfl rfl Tryz.sizeOf32 (aH e)) (aD (aF (aF (aC (tm (.d (.lit (.map (some r6)))) (tfl 1 rfl rfl iE rfl aS (to (aFz (av := (fun v : aK => AV.agg (aH v))) (l := c) (z := (aK.mk 0 0 0 0 0)) (a := e.Id) (m := 0) (aI rfl) fF Tryz.underlying76 Tryz.zeroValue32 (fun _ _ => .agg (gJ rfl)) rfl rfl rfl rfl (cI (kv := (fun n : Int => Value.int .i64 n)) e.Id)) ?_)))))));refine tm (.tup [.agg (aH (aE e.Id (aK.mk 0 0 0 0 0) c)), .b (eY e.Id c)]) (to (sex rfl rfl) (to (sex rfl rfl) ?_));refine bF rfl (dX (zs := [.lit (.int .i64 0), .lit (.int .i64 0), .lit (.int .i64 0), .lit (.int .i64 0), .lit (.int .i64 0)]) (aI rfl) Tryz.zeroValue32 rfl rfl) ?_;rintro _ ⟨I, rfl⟩;refine to (sst 2 rfl rfl Tryz.sizeOf32 (aH (aE e.Id (aK.mk 0 0 0 0 0) c))) (ta (.b (eY e.Id c)) (aD (aF (aC (to (sla 1 (aH e) rfl rfl gP) ?_)))));obtain ⟨B, C, h⟩ := bns h;refine to (scr Tryz.call41 (xW _ C)) (to (sn rfl) (tm (.b (!B)) ?_));obtain ⟨E, j, h⟩ := bns h;refine bG 7 [5, 7, 17, 18, 19] 40 E ?_ ?_
    ·refine bch j (fun f j => ?_) (fun f j => ?_)
     ·refine tp f (tp f (tq (tq (tq (tp f (to (spt (.b true) f) ?_))))));obtain rfl := sIn j;refine aD (aR rfl ⟨rfl, rfl, rfl, rfl, rfl, trivial⟩ rfl)
     ·refine tk f (sm (.b (eY e.Id c))) (tk f (sm (.b (eY e.Id c))) ?_);obtain ⟨w, s, j⟩ := bns j;refine bG 4 [5, 7, 17, 18, 19, 33, 34, 35] 39 w ?_ ?_
      ·refine bch s (fun g s => ?_) (fun g s => ?_)
       ·refine tk g (sla 2 (aH (aE e.Id (aK.mk 0 0 0 0 0) c)) rfl rfl gP) (tk g (sla 1 (aH e) rfl rfl gP) (tk g (aGa (a := (aE e.Id (aK.mk 0 0 0 0 0) c)) (b := e) (aI rfl) rfl rfl rfl rfl Tryz.eqGuardType32 yM) ?_));refine tk f (spt (.b (!decide ((aE e.Id (aK.mk 0 0 0 0 0) c) = e))) g) ?_;obtain rfl := sIn s;refine aD (aR rfl ⟨rfl, rfl, rfl, rfl, rfl, rfl, rfl, rfl, trivial⟩ rfl)
       ·refine tp g (tp g (tp g (tk f (spf (.b false) g) ?_)));obtain rfl := sIn s;refine aD (aR rfl ⟨rfl, rfl, rfl, rfl, rfl, rfl, rfl, rfl, trivial⟩ rfl)
      ·refine to (spf (.b w) f) ?_;obtain rfl := sIn j;refine aD (aR rfl ⟨rfl, rfl, rfl, rfl, rfl, trivial⟩ rfl)
    ·refine aD ?_;refine tih h (fun F h => ?_) (fun F h => ?_)
     ·refine aF (aC (ta (.i 51) (aD ?_)));obtain rfl := sIn h;refine bK (bE (bH (l := [4]) ⟨rfl, trivial⟩)) ?_;exact aU ⟨rfl, _, .one _, rfl, rfl⟩
     ·refine bB (aC (tm (.d (.lit (.map (some r6)))) (tfl 1 rfl rfl iE rfl aS (to (sla 1 (aH e) rfl rfl gP) (to (dW (av := (fun v : aK => AV.agg (aH v))) (l := c) (v := e) (a := e.Id) (m := 0) fF Tryz.underlying76 rfl rfl rfl rfl (cI (kv := (fun n : Int => Value.int .i64 n)) e.Id) rfl rfl) ?_)))));refine cN ?_;refine aC (to (sar rfl rfl rfl) (tm (.i (w64 (q + 1))) (aD ?_)));exact ⟨(w64 (q + 1), (bX e.Id e c), (mbs e.Id c x u), (mck e.Id c u)), h, aQ [0] rfl rfl (aL rfl (aO ⟨rfl, rfl, rfl, trivial⟩))⟩
   ·refine bZ ?_;refine .inl ⟨rfl, ?_⟩;simp only [qC] at h;refine aF (aC (ta (.i 0) (aD ?_)));obtain rfl := sIn h;refine bK (bE (bH (l := [4]) ⟨rfl, trivial⟩)) ?_;exact aU ⟨rfl, _, .one _, rfl, rfl⟩

theorem rQ (a : List aK) {r : Unit} (h : iH a = some r) : Fn Tryz.prog 75 [.d (.sl 5 (a.map aH))] (.fn 107 [.cp [.sl 5 (a.map aH)]]) := by
 unfold iH at h;refine mG Tryz.func75 rfl (rs := [.tmp 2]) Tryz.results75 Tryz.ntmps75 (Nat.le_of_ble_eq_true rfl) ?_;refine aF (aC ?_);refine bF rfl (gU (v := .d (.sl 5 (a.map aH))) (aI rfl) rfl rfl rfl) ?_;rintro _ ⟨b1, rfl⟩;refine ta (.d (.lit .nilFunc)) (aD (aF (aC (to (mK (aI rfl) rfl rfl) ?_))));refine ta (.fn 107 [.bp b1 0 0]) (aD ?_);exact aU ⟨rfl, _, [.box b1 0 [.sl 5 (a.map aH)]], .one (.tmp 2 (v := .fn 107 [.bp b1 0 0]) rfl), .refl _, (mY (.cons (cX 0 rfl rfl (dvc (.same _) dvn)) .nil))⟩

theorem mL {S : Type} (J K : S → MO → Prop) (ly : Nat) (a : S → aK → Option (S × Bool)) (hy : ∀ (s : S) (m : MO) (x0 : aK) (s' : S × Bool), J s m → a s x0 = some s' → uC Tryz.prog ly [.agg (aH x0)] m (fun b m' => b = s'.2 ∧ JK J K s' m')) (e : List aK) (sy : S) (m0 : MO) (hj : J sy m0) {r : S × Bool} (h : eD a e sy = some r) : cO Tryz.prog 107 [.d (.lit (yv ly)), .cp [.sl 5 (e.map aH)]] [m0] (fun _ o' => ∃ m', JK J K r m' ∧ o' = [m']) := by
 unfold eD at h;refine qT Tryz.func107 rfl (rs := []) Tryz.results107 Tryz.ntmps107 (Nat.le_of_ble_eq_true rfl) ?_;refine aF (aC (to (slc rfl aDn) (to (sle rfl cW.of) (tm (.i 0) (aD (bL ?_))))));refine cH (S := Int × ({x : S × MO // J x.1 x.2})) [0, 5, 6] (fun s1 => [(7, .i s1.1)]) (fun s1 => [s1.2.1.2]) (fun k s1 => cB a e (e.length : Int) k s1.1 s1.2.1.1) (fun _ => rfl) (0, ⟨(sy, m0), hj⟩) h (aQ [0] rfl rfl (aL rfl (aO ⟨rfl, rfl, rfl, trivial⟩))) ?_;rintro k3 ⟨c, y2⟩ h;simp only [cB] at h;refine aF (aC (to (scm rfl rfl rfl) (aD (aF ?_))));refine tih h (fun c4 h => ?_) (fun c4 h => ?_)
 ·refine bB (aF (bL (aF (aC ?_))));obtain ⟨x5, h6, h⟩ := bns h;refine to (six rfl rfl cW.of (bR aH h6)) (to (aDx (aH x5) rfl gP) ?_);refine bF rfl (dX (zs := [.lit (.int .i64 0), .lit (.int .i64 0), .lit (.int .i64 0), .lit (.int .i64 0), .lit (.int .i64 0)]) (aI rfl) Tryz.zeroValue32 rfl rfl) ?_;rintro _ ⟨b7, rfl⟩;refine to (sst 1 rfl rfl Tryz.sizeOf32 (aH x5)) (aD (aF (aC (tm (.d (.lit (yv ly))) (to (sla 1 (aH x5) rfl rfl gP) ?_)))));obtain ⟨y8, h9, h⟩ := bns h;refine aHr rfl (aIx (aI rfl) rfl rfl rfl rfl (hy _ _ _ _ y2.2 h9)) ?_;rintro _ ⟨_, f, ⟨rfl, g⟩, rfl⟩;refine to (sn rfl) (aD ?_);refine tih h (fun j h => ?_) (fun j h => ?_)
  ·obtain rfl := sIn h;exact aU ⟨rfl, _, [f], [.box b7 0 (aH x5)], _, .none, .refl _, .same _, f, g, rfl⟩
  ·refine bV ?_;refine aC (to (sar rfl rfl rfl) (tm (.i (w64 (c + 1))) (aD ?_)));exact ⟨(w64 (c + 1), ⟨(y8.1, f), (aLo g (bnf j))⟩), h, aQ [0] rfl rfl (aL rfl (aO ⟨rfl, rfl, rfl, trivial⟩))⟩
 ·refine bZ ?_;refine .inl ⟨rfl, ?_⟩;simp only [fJ] at h;obtain rfl := sIn h;exact ⟨_, [y2.1.2], [], _, .none, .refl _, .same _, y2.1.2, y2.2, rfl⟩

theorem pS (a : List aK) {r : (List aK)} (h : gL a = some r) : cO Tryz.prog 119 [.d (.lit (.slice none 0 0)), .fn 107 [.cp [.sl 5 (a.map aH)]]] [] (fun r' o' => ∃ (w0 : Value), r' = .d (.lit w0) ∧ o' = [.arr w0 32 5 (r.map aH)]) := by
 unfold gL at h;refine fY Tryz.func119 rfl (rs := [.tmp 4]) Tryz.results119 Tryz.ntmps119 (Nat.le_of_ble_eq_true rfl) ?_;refine bK (pE 32 5) ?_;refine aF (aC ?_);refine bF rfl (gU (v := .d (.lit (.slice none 0 0))) (aI rfl) rfl rfl rfl) ?_;rintro _ ⟨b1, rfl⟩;refine to (fP 32 5 (.inl rfl) (aI rfl)) ?_;refine aD (aF (aF (aC (tm (.fn 107 [.cp [.sl 5 (a.map aH)]]) (aD (bL ?_))))));obtain ⟨⟨s3, b9⟩, h4, h⟩ := bns h;refine aHs (S := (List aK) × Value) (S0 := (List aK)) (f := 107) (ps := [7]) (fun z7 => z7.1) (fun z7 => [.arr z7.2 32 5 (z7.1.map aH), .box b1 0 [.lit z7.2], .arr (.slice none 0 0) 32 5 (([] : List aK).map aH)]) (aLg (fun x8 : aK => .agg (aH x8)) _) (([] : List aK), (.slice none 0 0)) ([] : List aK) (s3, b9) (aQ [0, 1, 2] rfl rfl (le_refl _)) rfl Tryz.call107 rfl (by decide) rfl rfl (fun l J K hy m0 h0 => mL (S := (List aK)) J K l _ (fun _ _ _ _ hJ hq => hy _ _ _ _ hJ ⟨_, rfl, hq⟩) a _ m0 h0 h4) ?_ ?_ ?_
 ·rintro ⟨e5, w6⟩ _ _ ⟨x8, rfl, h⟩;refine ⟨rfl, ?_⟩;refine aC ?_;refine bF rfl (dX (zs := [.lit (.int .i64 0), .lit (.int .i64 0), .lit (.int .i64 0), .lit (.int .i64 0), .lit (.int .i64 0)]) (aI rfl) Tryz.zeroValue32 rfl rfl) ?_;rintro _ ⟨k, rfl⟩;refine to (sst 3 rfl rfl Tryz.sizeOf32 (aH x8)) (aD (bL (aC (to (sl 1 rfl rfl rfl aDn) (to (sla 3 (aH x8) rfl rfl gP) (to (fG (aI rfl) cW rfl rfl (rows := ([x8]).map aH) rfl (aV (f := aH) fun _ => rfl) rfl (by decide)) ?_))))));obtain ⟨g, j, h⟩ := bns h;refine bF rfl (kC (i := 0) (aI rfl) cW rfl rfl rfl (fun _ => rfl) j rfl) ?_;rintro _ ⟨e, rfl⟩;refine to (sst 1 rfl rfl Tryz.sizeOf24 [.lit e]) ?_;refine cN ?_;obtain rfl := sIn h;exact ⟨rfl, (g, e), rfl, aQ [0, 1, 2] rfl rfl aLc⟩
 ·rintro ⟨e5, w6⟩ b c;subst c;have h := zY b h;refine aLj ?_;refine aF (aC (to (sl 1 rfl rfl rfl aDn) (ta (.d (.lit w6)) (aD ?_))));obtain rfl := sIn h;exact aU ⟨rfl, _, [.arr w6 32 5 (e5.map aH)], [.box b1 0 [.lit w6], .arr (.slice none 0 0) 32 5 (([] : List aK).map aH)], _, .one (.tmp 4 (v := .d (.lit w6)) rfl), .refl _, .same _, w6, rfl, rfl⟩
 ·rintro ⟨e5, w6⟩ b c;subst c;have h := kF b h;cases h

theorem qQ (a : List aK) {r : (List aK)} (h : fR a = some r) : cO Tryz.prog 105 [.fn 107 [.cp [.sl 5 (a.map aH)]]] [] (fun r' o' => ∃ (w0 : Value), r' = .d (.lit w0) ∧ o' = [.arr w0 32 5 (r.map aH)]) := by
 unfold fR at h;refine fY Tryz.func105 rfl (rs := [.tmp 2]) Tryz.results105 Tryz.ntmps105 (Nat.le_of_ble_eq_true rfl) ?_;refine aF (aC (to (fP 32 5 (.inl rfl) (aI rfl)) ?_));refine aD (aF (aC (tm (.fn 107 [.cp [.sl 5 (a.map aH)]]) ?_)));obtain ⟨r2, h3, h⟩ := bns h;refine bF rfl (iG (aI rfl) (.func _ _ Tryz.call119) rfl rfl (pS _ h3)) ?_;rintro _ ⟨v4, rfl⟩;refine ta (.d (.lit v4)) (aD ?_);obtain rfl := sIn h;refine bK (aQ [1, 0] rfl rfl (le_refl _)) ?_;exact aU ⟨rfl, _, [.arr v4 32 5 (r2.map aH)], [.arr (.slice none 0 0) 32 5 (([] : List aK).map aH)], _, .one (.tmp 2 (v := .d (.lit v4)) rfl), .refl _, .same _, v4, rfl, rfl⟩

theorem qR (x : List aK) (cmp : aK → aK → Option Int) {r : List aK} {x_v : Value} {e : TypeId} (f : Nat) (v : List AV) (he : ∀ args w, (callFunc f args).run Tryz.prog w = .ok (.enter f args) w) (hh : ∀ x0 x1 r, cmp x0 x1 = some r → Fn Tryz.prog f ([.agg (aH x0), .agg (aH x1)] ++ v) (.i r)) (h : jT x cmp = some r) : cO Tryz.prog 106 [.d (.lit x_v), .fn f v] [.arr x_v e 5 (x.map aH)] (fun r' o' => r' = .tup [] ∧ o' = [.arr x_v e 5 (r.map aH)]) := aKj (k := 5) (enc := aH) (fun _ => rfl) (fun _ => rfl) (by intro x v hv; simp [aH, bT] at hv; rcases hv with h | h | h | h | h <;> subst h <;> rfl) (fun enc hk h1 cf hO g cb blk off cap d w => Tryz.slices_SortFunc_total_k enc hk h1 cf hO g cb blk off cap d w) (fun p cap fv w => Tryz.slices_SortFunc_none_k p cap fv w) he hh h

theorem pB (c : List aK) (e : aK → aK → Option Int) {r : (List aK)} (a : Nat) (b : List AV) (f : ∀ args w, (callFunc a args).run Tryz.prog w = .ok (.enter a args) w) (g : ∀ (x0 : aK) (x1 : aK) r, e x0 x1 = some r → Fn Tryz.prog a ([.agg (aH x0), .agg (aH x1)] ++ b) (.i r)) (h : eV c e = some r) : cO Tryz.prog 74 [.fn 107 [.cp [.sl 5 (c.map aH)]], .fn a b] [] (fun r' o' => ∃ (w0 : Value), r' = .d (.lit w0) ∧ o' = [.arr w0 32 5 (r.map aH)]) := by
 unfold eV at h;refine fY Tryz.func74 rfl (rs := [.tmp 4]) Tryz.results74 Tryz.ntmps74 (Nat.le_of_ble_eq_true rfl) ?_;refine aF (aC (to (fP 32 5 (.inl rfl) (aI rfl)) ?_));refine aD (aF (aC (tm (.fn 107 [.cp [.sl 5 (c.map aH)]]) ?_)));obtain ⟨r2, h3, h⟩ := bns h;refine bF rfl (iG (aI rfl) (.func _ _ Tryz.call105) rfl rfl (qQ _ h3)) ?_;rintro _ ⟨v4, rfl⟩;refine ta (.d (.lit v4)) (aD (aF (aC (tm (.d (.lit v4)) (tm (.fn a b) ?_)))));obtain ⟨r5, h6, h⟩ := bns h;refine cR (aQ [1, 0] rfl rfl (le_refl _)) ?_;refine bF rfl (gA (passed := [.arr v4 32 5 (r2.map aH)]) (aI rfl) rfl (.func _ _ Tryz.call106) rfl rfl (qR r2 e a b f g h6)) ?_;rintro _ ⟨_, _, ⟨rfl, rfl⟩, rfl⟩;refine aD (aF (aC (tm (.d (.lit v4)) (ta (.d (.lit v4)) (aD ?_)))));obtain rfl := sIn h;exact aU ⟨rfl, _, [.arr v4 32 5 (r5.map aH)], [.arr (.slice none 0 0) 32 5 (([] : List aK).map aH)], _, .one (.tmp 4 (v := .d (.lit v4)) rfl), .refl _, .same _, v4, rfl, rfl⟩

theorem vU (a : List Int) {r : Int} (h : kZ a = some r) : Fn Tryz.prog 77 [.d (.sl 1 (a.map aG))] (.i r) := by
 unfold kZ at h;refine Fn.of_tr Tryz.func77 rfl (rs := [.tmp 2]) Tryz.results77 Tryz.ntmps77 (Nat.le_of_ble_eq_true rfl) ?_;refine aF (aC (ta (.i 0) (aD (aF (aC (ta (.i 0) (aD (aF (aF (aC (tm (.d (.sl 1 (a.map aG))) (to (sle rfl bO.of) (tm (.i 0) ?_)))))))))))));refine aD (bL ?_);refine cH (S := Int) [3, 6, 7] (fun s1 => [(8, .i s1)]) (fun s1 => []) (fun k s1 => kY 0 a (a.length : Int) k s1) (fun _ => rfl) (0) h (aQ [] rfl rfl (aL rfl (aO ⟨rfl, rfl, rfl, trivial⟩))) ?_;rintro k2 b h;simp only [kY] at h;refine aF (aC (to (scm rfl rfl rfl) (aD (aF ?_))));refine tih h (fun c3 h => ?_) (fun c3 h => ?_)
 ·refine bB (aF (bL (aF (aC ?_))));obtain ⟨x4, h5, h⟩ := bns h;refine to (six rfl rfl bO.of (bR aG h5)) (to (slc rfl aS) (ta (.i x4) (aD (aF (aC (tm (.i x4) (tm (.i 0) (to (scm rfl rfl rfl) (aD ?_)))))))));refine tih h (fun c6 h => ?_) (fun c6 h => ?_)
  ·refine aF (aC (tm (.i x4) (ta (.i x4) (aD ?_))));obtain rfl := sIn h;exact aU ⟨rfl, _, .one _, rfl, rfl⟩
  ·refine bV ?_;refine aC (to (sar rfl rfl rfl) (tm (.i (w64 (b + 1))) (aD ?_)));exact ⟨(w64 (b + 1)), h, aQ [] rfl rfl (aL rfl (aO ⟨rfl, rfl, rfl, trivial⟩))⟩
 ·refine bZ ?_;refine .inl ⟨rfl, ?_⟩;simp only [oG] at h;refine aF (aC (tm (.i 0) (ta (.i 0) (aD ?_))));obtain rfl := sIn h;exact aU ⟨rfl, _, .one _, rfl, rfl⟩

theorem yK (a : aK) (b : aK) {r : Int} (h : dJ a b = some r) : Fn Tryz.prog 76 [.agg (aH a), .agg (aH b)] (.i r) := by
 unfold dJ at h;refine Fn.of_tr Tryz.func76 rfl (rs := [.tmp 4]) Tryz.results76 Tryz.ntmps76 (Nat.le_of_ble_eq_true rfl) ?_;refine aF (aC ?_);refine bF rfl (gU (v := .agg (aH a)) (aI rfl) rfl rfl rfl) ?_;rintro _ ⟨b1, rfl⟩;refine bF rfl (gU (v := .agg (aH b)) (aI rfl) rfl rfl rfl) ?_;rintro _ ⟨b2, rfl⟩;refine ta (.i 0) (aD (aF (aC (tfl 0 rfl rfl dM rfl aS (tfl 1 rfl rfl dM rfl aS (to (sar rfl rfl rfl) (tfl 0 rfl rfl iE rfl aS (tfl 1 rfl rfl iE rfl aS (to (sar rfl rfl rfl) ?_)))))))));refine to (fG (aI rfl) bO rfl rfl (rows := ([w64 (a.Hour - b.Hour), w64 (a.Id - b.Id)]).map aG) rfl (aV (f := aG) fun _ => rfl) rfl (by decide)) ?_;obtain ⟨r3, h4, h⟩ := bns h;refine to (scr Tryz.call77 (vU _ h4)) (ta (.i r3) (aD ?_));obtain rfl := sIn h;refine bK (bE (bH (l := [4]) ⟨rfl, trivial⟩)) ?_;exact aU ⟨rfl, _, .one _, rfl, rfl⟩

theorem rJ (s : List aK) {r : (List aK)} {j : Value} (h : eO s = some r) : cO Tryz.prog 78 [.d (.lit j)] [.arr j 32 5 (s.map aH)] (fun r' o' => ∃ w0 : Value, r' = .d (.lit w0) ∧ o' = [.arr w0 32 5 (r.map aH)]) := by
 unfold eO at h;refine fY Tryz.func78 rfl (rs := [.tmp 2]) Tryz.results78 Tryz.ntmps78 (Nat.le_of_ble_eq_true rfl) ?_;refine aF (aC (to (fP 32 5 (.inl rfl) (aI rfl)) ?_));refine aD (aF (aF (aC (tm (.d (.lit j)) (to (gB (m := 0) (aI rfl) rfl rfl cW.of) ?_)))));refine to (scm rfl rfl rfl) (aD ?_);refine tih h (fun c2 h => ?_) (fun c2 h => ?_)
 ·refine aF (aC (tm (.d (.lit j)) (ta (.d (.lit j)) (aD ?_))));obtain rfl := sIn h;exact aU ⟨rfl, _, [.arr j 32 5 (s.map aH)], [.arr (.slice none 0 0) 32 5 (([] : List aK).map aH)], _, .one (.tmp 2 (v := .d (.lit j)) rfl), .refl _, .same _, j, rfl, rfl⟩
 ·refine bB (aF (aF (aC (ta (.i 1) (aD (bL ?_))))));refine cH (S := Int × (List aK) × Value) [] (fun s3 => [(0, .d (.lit s3.2.2)), (3, .i s3.1)]) (fun s3 => [.arr s3.2.2 32 5 (s3.2.1.map aH)]) (fun k s3 => cF k s3.1 s3.2.1) (fun _ => rfl) (1, s, j) h (aQ [0] rfl rfl (aL rfl (aL rfl (aO trivial)))) ?_;rintro k5 ⟨c, p, w4⟩ h;simp only [cF] at h;refine aF (aF (aC (tm (.i c) (tm (.d (.lit w4)) (to (gB (m := 0) (aI rfl) rfl rfl cW.of) ?_)))));refine to (scm rfl rfl rfl) (aD ?_);refine tih h (fun c6 h => ?_) (fun c6 h => ?_)
  ·refine bB (aF (bL (aF ?_)));obtain ⟨x7, h8, h⟩ := bns h;obtain ⟨x9, x, h⟩ := bns h;refine bU mix 9 [0, 3] [(19, .agg (aH x7)), (24, .agg (aH x9))] ?_ ?_
   ·refine ⟨[(16, 0, .d (.lit w4)), (17, 1, .i c), (18, 2, .ep w4 5 c.toNat 0), (19, 3, .agg (aH x7)), (20, 4, .d (.lit w4)), (21, 5, .i c), (22, 6, .i (w64 (c - 1))), (23, 7, .ep w4 5 (w64 (c - 1)).toNat 0), (24, 8, .agg (aH x9))], ?_, ?_⟩
    · exact dok [([], []), ([], []), ([0, 1], []), ([2], []), ([], []), ([], []), ([5], []), ([4, 6], []), ([7], [])] ⟨go (zm (.d (.lit w4))),
      go (zm (.i c)),
      go (zia 0 rfl rfl rfl cW.of (bR aH h8)),
      go fun S hS => nR (aI rfl) (aN hS rfl) (l := 0) rfl (nI aH h8) gP (es := (aH x7)) rfl rfl,
      go (zm (.d (.lit w4))),
      go (zm (.i c)),
      go (zar rfl rfl rfl),
      go (zia 0 rfl rfl rfl cW.of (bR aH x)),
      go fun S hS => nR (aI rfl) (aN hS rfl) (l := 0) rfl (nI aH x) gP (es := (aH x9)) rfl rfl, trivial⟩
    · exact bM (aL rfl (aL rfl (aO ⟨rfl, rfl, trivial⟩)))
   ·refine to (aLm (a := x7) (b := x9) (aI rfl) rfl rfl rfl rfl Tryz.eqGuardType32 yM) ?_;refine aD ?_;refine tih h (fun C h => ?_) (fun C h => ?_)
    ·refine aF (aC (tm (.d (.lit w4)) (tm (.i c) ?_)));obtain ⟨K, E, h⟩ := bns h;refine to (nK (m := 0) (aI rfl) rfl rfl rfl cW.of E) ?_;refine ta (.d (.lit (gC w4 c.toNat 5))) (aD (aF (aF (aC (ta (.i 1) (aD (bL ?_)))))));refine cH (S := Int × Int × (List aK)) [] (fun o => [(0, .d (.lit w4)), (3, .i o.1), (4, .d (.lit (gC w4 c.toNat 5))), (5, .i o.2.1)]) (fun o => [.arr w4 32 5 (o.2.2.map aH)]) (fun k o => cQ (cF k5) c k o.1 o.2.1 o.2.2) (fun _ => rfl) (c, 1, p) h (aQ [0] rfl rfl (aL rfl (aL rfl (aL rfl (aL rfl (aO trivial)))))) ?_;rintro L ⟨g, e, n⟩ h;simp only [cQ] at h;refine aF (aF (aC (tm (.i e) (tm (.d (.lit (gC w4 c.toNat 5))) (to (zN (m := 0) (aI rfl) rfl rfl cW.of) ?_)))));refine to (scm rfl rfl rfl) (aD ?_);refine tih h (fun F h => ?_) (fun F h => ?_)
     ·refine bB (aF (bL (aF ?_)));obtain ⟨t, y, h⟩ := bns h;obtain ⟨u, z, h⟩ := bns h;refine bU mix 9 [0, 3, 4, 5] [(38, .agg (aH t)), (43, .agg (aH u))] ?_ ?_
      ·refine ⟨[(35, 0, .d (.lit (gC w4 c.toNat 5))), (36, 1, .i e), (37, 2, .ep w4 5 (c.toNat + e.toNat) 0), (38, 3, .agg (aH t)), (39, 4, .d (.lit (gC w4 c.toNat 5))), (40, 5, .i e), (41, 6, .i (w64 (e - 1))), (42, 7, .ep w4 5 (c.toNat + (w64 (e - 1)).toNat) 0), (43, 8, .agg (aH u))], ?_, ?_⟩
       · exact dok [([], []), ([], []), ([0, 1], []), ([2], []), ([], []), ([], []), ([5], []), ([4, 6], []), ([7], [])] ⟨go (zm (.d (.lit (gC w4 c.toNat 5)))),
      go (zm (.i e)),
      go fun S hS => mO (m := 0) (aI rfl) (aN hS rfl) rfl (aN hS rfl) cW.of (lP (f := aH) y),
      go fun S hS => nR (aI rfl) (aN hS rfl) (l := 0) rfl (sI aH y) gP (es := (aH t)) rfl rfl,
      go (zm (.d (.lit (gC w4 c.toNat 5)))),
      go (zm (.i e)),
      go (zar rfl rfl rfl),
      go fun S hS => mO (m := 0) (aI rfl) (aN hS rfl) rfl (aN hS rfl) cW.of (lP (f := aH) z),
      go fun S hS => nR (aI rfl) (aN hS rfl) (l := 0) rfl (sI aH z) gP (es := (aH u)) rfl rfl, trivial⟩
       · exact bM (aL rfl (aL rfl (aO ⟨rfl, rfl, rfl, rfl, trivial⟩)))
      ·refine to (aGa (a := t) (b := u) (aI rfl) rfl rfl rfl rfl Tryz.eqGuardType32 yM) ?_;refine aD ?_;refine tih h (fun G h => ?_) (fun G h => ?_)
       ·refine aF (aC (tm (.d (.lit w4)) (tm (.i g) (tm (.d (.lit (gC w4 c.toNat 5))) (tm (.i e) ?_)))));obtain ⟨w, A, h⟩ := bns h;refine to (mO (m := 0) (aI rfl) rfl rfl rfl cW.of (lP (f := aH) A)) ?_;refine to (nR (aI rfl) rfl (l := 0) rfl (sI aH A) gP (es := (aH w)) rfl rfl) ?_;obtain ⟨M, B, h⟩ := bns h;refine to (kE (m := 0) (aI rfl) rfl rfl rfl cW.of (bR aH B)) ?_;refine to (vD (l := 0) rfl rfl (nI aH B) rfl rfl rfl Tryz.sizeOf32 rfl (aI rfl) (Nat.le_of_ble_eq_true rfl) (rows' := ((n.set g.toNat w)).map aH) (aAo _ _ _ _ rfl)) ?_;refine aD (aC (tm (.i g) (to (sar rfl rfl rfl) (ta (.i (w64 (g + 1))) ?_))));refine cN ?_;refine aC (tm (.i e) (to (sar rfl rfl rfl) (ta (.i (w64 (e + 1))) (aD ?_))));exact ⟨(w64 (g + 1), w64 (e + 1), (n.set g.toNat w)), h, aQ [0] rfl rfl (aL rfl (aL rfl (aL rfl (aL rfl (aO trivial)))))⟩
       ·refine bV ?_;refine aC (tm (.i e) (to (sar rfl rfl rfl) (ta (.i (w64 (e + 1))) (aD ?_))));exact ⟨(g, w64 (e + 1), n), h, aQ [0] rfl rfl (aL rfl (aL rfl (aL rfl (aL rfl (aO trivial)))))⟩
     ·refine bZ ?_;refine .inl ⟨rfl, ?_⟩;simp only [iY] at h;refine aF (aC (tm (.d (.lit w4)) (tm (.i g) ?_)));obtain ⟨N, H, h⟩ := bns h;refine to (nK (m := 0) (aI rfl) rfl rfl rfl cW.of H) ?_;obtain ⟨O, I, h⟩ := bns h;refine to (yG (f := aH) (m := 0) cW rfl rfl I (by decide)) ?_;refine aD (aF (aC (tm (.d (.lit w4)) (tm (.i g) ?_))));obtain ⟨P, J, h⟩ := bns h;refine to (nJ (m := 0) (q := g.toNat) (v := w4) (aI rfl) rfl rfl rfl rfl (vT J) cW.of) ?_;refine ta (.d (.lit (dZ w4 g.toNat))) (aD ?_);obtain rfl := sIn h;exact aU ⟨rfl, _, [.arr (dZ w4 g.toNat) 32 5 ((n.take g.toNat).map aH)], [], _, .one (.tmp 2 (v := .d (.lit (dZ w4 g.toNat))) rfl), .refl _, .same _, (dZ w4 g.toNat), rfl, rfl⟩
    ·refine bV ?_;simp only [iX] at h;refine aC (tm (.i c) (to (sar rfl rfl rfl) (ta (.i (w64 (c + 1))) (aD ?_))));exact ⟨(w64 (c + 1), p, w4), h, aQ [0] rfl rfl (aL rfl (aL rfl (aO trivial)))⟩
  ·refine bZ ?_;refine .inl ⟨rfl, ?_⟩;simp only [iW] at h;refine aF (aC (tm (.d (.lit w4)) (ta (.d (.lit w4)) (aD ?_))));obtain rfl := sIn h;exact aU ⟨rfl, _, [.arr w4 32 5 (p.map aH)], [], _, .one (.tmp 2 (v := .d (.lit w4)) rfl), .refl _, .same _, w4, rfl, rfl⟩

theorem eS (a : aJ) {r : Int} (h : dR a = some r) : Fn Tryz.prog 36 [.cp (aW a)] (.i r) := by
 unfold dR at h;refine Fn.of_tr Tryz.func36 rfl (rs := [.tmp 2]) Tryz.results36 Tryz.ntmps36 (Nat.le_of_ble_eq_true rfl) ?_;refine aF (aC (ta (.i 0) (aD (aF ?_))));refine bU mix 9 [] [(7, .i a.Field.Places), (11, .i a.more)] ?_ ?_
 ·refine ⟨[(3, 0, .cp [.lit (.int .i64 a.Field.Places), .lit (.int .i64 a.Field.Wilds), .lit (.int .i64 a.Field.Guards), .lit (.int .i64 a.Field.Close), .lit (.int .i64 a.Field.Freeze), .mp true (a.players.map fun p : Int × aA => ((fun n : Int => Value.int .i64 n) p.1, aB p.2)), .sl 1 (a.wilds.map aG), .lit (.bool a.frozen), .sl 1 (a.first.map aG), .sl 1 (a.late.map aG), .lit (.int .i64 a.more), .lit (.int .i64 a.entered)]), (4, 1, .cp [.lit (.int .i64 a.Field.Places), .lit (.int .i64 a.Field.Wilds), .lit (.int .i64 a.Field.Guards), .lit (.int .i64 a.Field.Close), .lit (.int .i64 a.Field.Freeze), .mp true (a.players.map fun p : Int × aA => ((fun n : Int => Value.int .i64 n) p.1, aB p.2)), .sl 1 (a.wilds.map aG), .lit (.bool a.frozen), .sl 1 (a.first.map aG), .sl 1 (a.late.map aG), .lit (.int .i64 a.more), .lit (.int .i64 a.entered)]), (5, 2, .cp [.lit (.int .i64 a.Field.Places), .lit (.int .i64 a.Field.Wilds), .lit (.int .i64 a.Field.Guards), .lit (.int .i64 a.Field.Close), .lit (.int .i64 a.Field.Freeze)]), (6, 3, .cp [.lit (.int .i64 a.Field.Places)]), (7, 4, .i a.Field.Places), (8, 5, .cp [.lit (.int .i64 a.Field.Places), .lit (.int .i64 a.Field.Wilds), .lit (.int .i64 a.Field.Guards), .lit (.int .i64 a.Field.Close), .lit (.int .i64 a.Field.Freeze), .mp true (a.players.map fun p : Int × aA => ((fun n : Int => Value.int .i64 n) p.1, aB p.2)), .sl 1 (a.wilds.map aG), .lit (.bool a.frozen), .sl 1 (a.first.map aG), .sl 1 (a.late.map aG), .lit (.int .i64 a.more), .lit (.int .i64 a.entered)]), (9, 6, .cp [.lit (.int .i64 a.Field.Places), .lit (.int .i64 a.Field.Wilds), .lit (.int .i64 a.Field.Guards), .lit (.int .i64 a.Field.Close), .lit (.int .i64 a.Field.Freeze), .mp true (a.players.map fun p : Int × aA => ((fun n : Int => Value.int .i64 n) p.1, aB p.2)), .sl 1 (a.wilds.map aG), .lit (.bool a.frozen), .sl 1 (a.first.map aG), .sl 1 (a.late.map aG), .lit (.int .i64 a.more), .lit (.int .i64 a.entered)]), (10, 7, .cp [.lit (.int .i64 a.more)]), (11, 8, .i a.more)], ?_, ?_⟩
  · exact dok [([], []), ([0], []), ([1], []), ([2], []), ([3], []), ([], []), ([5], []), ([6], []), ([7], [])] ⟨go (zm (.cp [.lit (.int .i64 a.Field.Places), .lit (.int .i64 a.Field.Wilds), .lit (.int .i64 a.Field.Guards), .lit (.int .i64 a.Field.Close), .lit (.int .i64 a.Field.Freeze), .mp true (a.players.map fun p : Int × aA => ((fun n : Int => Value.int .i64 n) p.1, aB p.2)), .sl 1 (a.wilds.map aG), .lit (.bool a.frozen), .sl 1 (a.first.map aG), .sl 1 (a.late.map aG), .lit (.int .i64 a.more), .lit (.int .i64 a.entered)])),
      go fun S hS => cA (aI rfl) (aN hS rfl),
      go (zfc [.lit (.int .i64 a.Field.Places), .lit (.int .i64 a.Field.Wilds), .lit (.int .i64 a.Field.Guards), .lit (.int .i64 a.Field.Close), .lit (.int .i64 a.Field.Freeze)] rfl eE),
      go (zfc [.lit (.int .i64 a.Field.Places)] rfl xX),
      go (zlc rfl aS),
      go (zm (.cp [.lit (.int .i64 a.Field.Places), .lit (.int .i64 a.Field.Wilds), .lit (.int .i64 a.Field.Guards), .lit (.int .i64 a.Field.Close), .lit (.int .i64 a.Field.Freeze), .mp true (a.players.map fun p : Int × aA => ((fun n : Int => Value.int .i64 n) p.1, aB p.2)), .sl 1 (a.wilds.map aG), .lit (.bool a.frozen), .sl 1 (a.first.map aG), .sl 1 (a.late.map aG), .lit (.int .i64 a.more), .lit (.int .i64 a.entered)])),
      go fun S hS => cA (aI rfl) (aN hS rfl),
      go (zfc [.lit (.int .i64 a.more)] rfl sT),
      go (zlc rfl aS), trivial⟩
  · exact bM (aL rfl (aL rfl (aO trivial)))
 ·refine to (sar rfl rfl rfl) (ta (.i (w64 (a.Field.Places + a.more))) (aD ?_));obtain rfl := sIn h;exact aU ⟨rfl, _, .one _, rfl, rfl⟩

theorem mT (c : aJ) (f : List Int) {r : Int} (h : gE c f = some r) : Fn Tryz.prog 67 [.cp (aW c), .d (.sl 1 (f.map aG))] (.i r) := by
 unfold gE at h;refine Fn.of_tr Tryz.func67 rfl (rs := [.tmp 4]) Tryz.results67 Tryz.ntmps67 (Nat.le_of_ble_eq_true rfl) ?_;refine aF (aC (ta (.i 0) (aD (aF (aF (aC (tm (.d (.sl 1 (f.map aG))) (to (sle rfl bO.of) (tm (.i 0) (aD (bL ?_)))))))))));refine cH (S := Int × Int) [0, 7, 8] (fun s1 => [(4, .i s1.1), (9, .i s1.2)]) (fun s1 => []) (fun k s1 => eK c f (f.length : Int) k s1.1 s1.2) (fun _ => rfl) (0, 0) h (aQ [] rfl rfl (aL rfl (aL rfl (aO ⟨rfl, rfl, rfl, trivial⟩)))) ?_;rintro k2 ⟨b, e⟩ h;simp only [eK] at h;refine aF (aC (to (scm rfl rfl rfl) (aD (aF ?_))));refine tih h (fun c3 h => ?_) (fun c3 h => ?_)
 ·refine bB (aF (bL (aF (aC ?_))));obtain ⟨x4, h5, h⟩ := bns h;refine to (six rfl rfl bO.of (bR aG h5)) (to (slc rfl aS) (ta (.i x4) (aD (aF (aC (tm (.cp [.lit (.int .i64 c.Field.Places), .lit (.int .i64 c.Field.Wilds), .lit (.int .i64 c.Field.Guards), .lit (.int .i64 c.Field.Close), .lit (.int .i64 c.Field.Freeze), .mp true (c.players.map fun p : Int × aA => ((fun n : Int => Value.int .i64 n) p.1, aB p.2)), .sl 1 (c.wilds.map aG), .lit (.bool c.frozen), .sl 1 (c.first.map aG), .sl 1 (c.late.map aG), .lit (.int .i64 c.more), .lit (.int .i64 c.entered)]) (to (cA (aI rfl) rfl) ?_)))))));refine to (sfc [.mp true (c.players.map fun p : Int × aA => ((fun n : Int => Value.int .i64 n) p.1, aB p.2))] rfl cU) (to (slc rfl eC) (tm (.i x4) (to (fW (enc := aB) (agg := true) (l := c.players) (z := (aA.mk false false 0 0 false false false false)) (a := x4) (aI rfl) fF Tryz.underlying68 Tryz.zeroValue94 (fun _ _ => .agg (gJ rfl)) rfl rfl rfl rfl (cI (kv := (fun n : Int => Value.int .i64 n)) x4)) ?_)));refine to (kD (aI rfl) rfl Tryz.runUnderlying94 rfl dU rfl) ?_;refine aD ?_;refine tih h (fun c6 h => ?_) (fun c6 h => ?_)
  ·refine aC (tm (.i b) (to (sar rfl rfl rfl) (ta (.i (w64 (b + 1))) ?_)));refine cN ?_;refine aC (to (sar rfl rfl rfl) (tm (.i (w64 (e + 1))) (aD ?_)));exact ⟨(w64 (b + 1), w64 (e + 1)), h, aQ [] rfl rfl (aL rfl (aL rfl (aO ⟨rfl, rfl, rfl, trivial⟩)))⟩
  ·refine bV ?_;refine aC (to (sar rfl rfl rfl) (tm (.i (w64 (e + 1))) (aD ?_)));exact ⟨(b, w64 (e + 1)), h, aQ [] rfl rfl (aL rfl (aL rfl (aO ⟨rfl, rfl, rfl, trivial⟩)))⟩
 ·refine bZ ?_;refine .inl ⟨rfl, ?_⟩;simp only [lW] at h;refine aF (aC (tm (.i b) (ta (.i b) (aD ?_))));obtain rfl := sIn h;exact aU ⟨rfl, _, .one _, rfl, rfl⟩

theorem pL (c : List (Int × aA)) (d : Int) {r : Bool} {f g j k m o q s t u e : D} (h : eL c d = some r) : Fn Tryz.prog 83 [.cp [f, g, j, k, m, .mp true (c.map fun p : Int × aA => ((fun n : Int => Value.int .i64 n) p.1, aB p.2)), o, q, s, t, u, e], .i d] (.b r) := by
 unfold eL at h;refine Fn.of_tr Tryz.func83 rfl (rs := [.tmp 4]) Tryz.results83 Tryz.ntmps83 (Nat.le_of_ble_eq_true rfl) ?_;refine aF (aC (ta (.b false) (aD (aF (aC (tm (.cp [f, g, j, k, m, .mp true (c.map fun p : Int × aA => ((fun n : Int => Value.int .i64 n) p.1, aB p.2)), o, q, s, t, u, e]) (to (cA (aI rfl) rfl) ?_)))))));refine to (sfc [.mp true (c.map fun p : Int × aA => ((fun n : Int => Value.int .i64 n) p.1, aB p.2))] rfl cU) (to (slc rfl eC) (tm (.i d) (to (fW (enc := aB) (agg := true) (l := c) (z := (aA.mk false false 0 0 false false false false)) (a := d) (aI rfl) fF Tryz.underlying68 Tryz.zeroValue94 (fun _ _ => .agg (gJ rfl)) rfl rfl rfl rfl (cI (kv := (fun n : Int => Value.int .i64 n)) d)) ?_)));refine bF rfl (dX (zs := [.lit (.bool false), .lit (.bool false), .lit (.int .i64 0), .lit (.int .i64 0), .lit (.bool false), .lit (.bool false), .lit (.bool false), .lit (.bool false)]) (aI rfl) Tryz.zeroValue94 rfl rfl) ?_;rintro _ ⟨b1, rfl⟩;refine to (sst 0 rfl rfl Tryz.sizeOf94 (aB (aE d (aA.mk false false 0 0 false false false false) c))) (aD (aF (aC (tfl 0 rfl rfl sU rfl dU (tm (.b ((aE d (aA.mk false false 0 0 false false false false) c).entered)) ?_)))));obtain ⟨b2, h3, h⟩ := bns h;refine bG 4 [5] 18 b2 ?_ ?_
 ·refine bch h3 (fun c7 h3 => ?_) (fun c7 h3 => ?_)
  ·refine tkl 0 c7 rfl rfl mC rfl dU (tk c7 (sn rfl) (to (spt (.b (!((aE d (aA.mk false false 0 0 false false false false) c).quit))) c7) ?_));obtain rfl := sIn h3;refine aD (aR rfl ⟨rfl, trivial⟩ rfl)
  ·refine tp c7 (tp c7 (tp c7 (to (spf (.b false) c7) ?_)));obtain rfl := sIn h3;refine aD (aR rfl ⟨rfl, trivial⟩ rfl)
 ·refine tm (.b b2) ?_;obtain ⟨b4, h5, h⟩ := bns h;refine bG 4 [] 23 b4 ?_ ?_
  ·refine bch h5 (fun c6 h5 => ?_) (fun c6 h5 => ?_)
   ·refine tkl 0 c6 rfl rfl xY rfl dU (tk c6 (sn rfl) (to (spt (.b (!((aE d (aA.mk false false 0 0 false false false false) c).had))) c6) ?_));obtain rfl := sIn h5;refine aD (aR rfl trivial rfl)
   ·refine tp c6 (tp c6 (tp c6 (to (spf (.b false) c6) ?_)));obtain rfl := sIn h5;refine aD (aR rfl trivial rfl)
  ·refine ta (.b b4) (aD ?_);obtain rfl := sIn h;refine bK (bE (bH (l := [4]) ⟨rfl, trivial⟩)) ?_;exact aU ⟨rfl, _, .one _, rfl, rfl⟩

theorem uN (x : List Int) (cmp : Int → Int → Option Int) {r : List Int} {x_v : Value} {e : TypeId} (f : Nat) (v : List AV) (he : ∀ args w, (callFunc f args).run Tryz.prog w = .ok (.enter f args) w) (hh : ∀ x0 x1 r, cmp x0 x1 = some r → Fn Tryz.prog f ([.i x0, .i x1] ++ v) (.i r)) (h : mX x cmp = some r) : cO Tryz.prog 84 [.d (.lit x_v), .fn f v] [.arr x_v e 1 (x.map aG)] (fun r' o' => r' = .tup [] ∧ o' = [.arr x_v e 1 (r.map aG)]) := aHo (fun enc h1 cf hO g cb blk off cap d w => Tryz.slices_SortFunc_total enc h1 cf hO g cb blk off cap d w) (fun p cap fv w => Tryz.slices_SortFunc_none (α := Int) p cap fv w) he hh h

theorem nE (a : aA) {r : Int} (h : fO a = some r) : Fn Tryz.prog 86 [.agg (aB a)] (.i r) := by
 unfold fO at h;refine Fn.of_tr Tryz.func86 rfl (rs := [.tmp 2]) Tryz.results86 Tryz.ntmps86 (Nat.le_of_ble_eq_true rfl) ?_;refine aF (aC ?_);refine bF rfl (gU (v := .agg (aB a)) (aI rfl) rfl rfl rfl) ?_;rintro _ ⟨b1, rfl⟩;refine ta (.i 0) (aD (aF (aF (aC (tfl 0 rfl rfl sV rfl aS (to (scm rfl rfl rfl) (aD ?_)))))));refine tih h (fun c2 h => ?_) (fun c2 h => ?_)
 ·refine aF (aC (ta (.i 1) (aD ?_)));obtain rfl := sIn h;refine bK (bE (bH (l := [2]) ⟨rfl, trivial⟩)) ?_;exact aU ⟨rfl, _, .one _, rfl, rfl⟩
 ·refine bB (aF (aC (ta (.i 0) (aD ?_))));obtain rfl := sIn h;refine bK (bE (bH (l := [2]) ⟨rfl, trivial⟩)) ?_;exact aU ⟨rfl, _, .one _, rfl, rfl⟩

theorem tU (e : Int) (g : Int) (c : aJ) {r : Int} (h : dK e g c = some r) : Fn Tryz.prog 85 [.i e, .i g, .cp [.pt (aW c)]] (.i r) := by
 unfold dK at h;refine Fn.of_tr Tryz.func85 rfl (rs := [.tmp 5]) Tryz.results85 Tryz.ntmps85 (Nat.le_of_ble_eq_true rfl) ?_;refine aF (aC (ta (.i 0) (aD (aF ?_))));refine jJ mix 15 [] (fun X1 => [(6, .bp (X1 12).b 0 0), (7, .bp (X1 13).b 0 0), (20, .agg (aB (aE g (aA.mk false false 0 0 false false false false) c.players)))]) (fun X1 => [.box (X1 12).b 0 (aB (aE e (aA.mk false false 0 0 false false false false) c.players)), .box (X1 13).b 0 (aB (aA.mk false false 0 0 false false false false))]) ?_ ?_
 ·refine ⟨2, fun X1 => [(9, 0, .cp [.lit (.int .i64 c.Field.Places), .lit (.int .i64 c.Field.Wilds), .lit (.int .i64 c.Field.Guards), .lit (.int .i64 c.Field.Close), .lit (.int .i64 c.Field.Freeze), .mp true (c.players.map fun p : Int × aA => ((fun n : Int => Value.int .i64 n) p.1, aB p.2)), .sl 1 (c.wilds.map aG), .lit (.bool c.frozen), .sl 1 (c.first.map aG), .sl 1 (c.late.map aG), .lit (.int .i64 c.more), .lit (.int .i64 c.entered)]), (10, 1, .cp [.lit (.int .i64 c.Field.Places), .lit (.int .i64 c.Field.Wilds), .lit (.int .i64 c.Field.Guards), .lit (.int .i64 c.Field.Close), .lit (.int .i64 c.Field.Freeze), .mp true (c.players.map fun p : Int × aA => ((fun n : Int => Value.int .i64 n) p.1, aB p.2)), .sl 1 (c.wilds.map aG), .lit (.bool c.frozen), .sl 1 (c.first.map aG), .sl 1 (c.late.map aG), .lit (.int .i64 c.more), .lit (.int .i64 c.entered)]), (11, 2, .cp [.mp true (c.players.map fun p : Int × aA => ((fun n : Int => Value.int .i64 n) p.1, aB p.2))]), (12, 3, .d (.mp true (c.players.map fun p : Int × aA => ((fun n : Int => Value.int .i64 n) p.1, aB p.2)))), (13, 4, .i e), (14, 5, .agg (aB (aE e (aA.mk false false 0 0 false false false false) c.players))), (15, 6, .cp [.lit (.int .i64 c.Field.Places), .lit (.int .i64 c.Field.Wilds), .lit (.int .i64 c.Field.Guards), .lit (.int .i64 c.Field.Close), .lit (.int .i64 c.Field.Freeze), .mp true (c.players.map fun p : Int × aA => ((fun n : Int => Value.int .i64 n) p.1, aB p.2)), .sl 1 (c.wilds.map aG), .lit (.bool c.frozen), .sl 1 (c.first.map aG), .sl 1 (c.late.map aG), .lit (.int .i64 c.more), .lit (.int .i64 c.entered)]), (16, 7, .cp [.lit (.int .i64 c.Field.Places), .lit (.int .i64 c.Field.Wilds), .lit (.int .i64 c.Field.Guards), .lit (.int .i64 c.Field.Close), .lit (.int .i64 c.Field.Freeze), .mp true (c.players.map fun p : Int × aA => ((fun n : Int => Value.int .i64 n) p.1, aB p.2)), .sl 1 (c.wilds.map aG), .lit (.bool c.frozen), .sl 1 (c.first.map aG), .sl 1 (c.late.map aG), .lit (.int .i64 c.more), .lit (.int .i64 c.entered)]), (17, 8, .cp [.mp true (c.players.map fun p : Int × aA => ((fun n : Int => Value.int .i64 n) p.1, aB p.2))]), (18, 9, .d (.mp true (c.players.map fun p : Int × aA => ((fun n : Int => Value.int .i64 n) p.1, aB p.2)))), (19, 10, .i g), (20, 11, .agg (aB (aE g (aA.mk false false 0 0 false false false false) c.players))), (6, 12, .bp (X1 12).b 0 0), (7, 13, .bp (X1 13).b 0 0)], fun X1 => [([(14, .box (X1 12).b 0 (aB (aE e (aA.mk false false 0 0 false false false false) c.players))), (12, .box (X1 12).b 0 (aB (aA.mk false false 0 0 false false false false)))], nob), ([(13, .box (X1 13).b 0 (aB (aA.mk false false 0 0 false false false false)))], nob)], ?_, ?_⟩
  · exact ⟨by kernel_rfl, by kernel_rfl, by kernel_rfl, fun _ => by kernel_rfl, fun _ => by kernel_rfl, fun _ => by kernel_rfl, fun _ => rfl, [([], [14]), ([0], [14]), ([1], [14]), ([2], [14]), ([], [14]), ([3, 4], [14]), ([], []), ([6], []), ([7], []), ([8], []), ([], []), ([9, 10], []), ([], [14]), ([], [14]), ([5, 12, 13], [])], by kernel_rfl, ⟨fun X1 S hw hi hS => aZ (X := X1) rfl (hw X1) rfl (bJ rfl (kQ (.ptc _) (gK (aI rfl) (aN hS rfl) eZ))),
      fun X1 S hw hi hS => aZ (X := X1) rfl (hw X1) rfl (bJ rfl (cA (aI rfl) (aN hS rfl))),
      fun X1 S hw hi hS => aZ (X := X1) rfl (hw X1) rfl (bJ rfl (sB (aI rfl) (aN hS rfl) cU (es := [.mp true (c.players.map fun p : Int × aA => ((fun n : Int => Value.int .i64 n) p.1, aB p.2))]) rfl)),
      fun X1 S hw hi hS => aZ (X := X1) rfl (hw X1) rfl (bJ rfl (gK (aI rfl) (aN hS rfl) eC)),
      fun X1 S hw hi hS => aZ (X := X1) rfl (hw X1) rfl (bJ rfl (jG (v := .i e) (aI rfl) (aN hS rfl) rfl)),
      fun X1 S hw hi hS => aZ (X := X1) rfl (hw X1) rfl (bJ rfl (fW (enc := aB) (agg := true) (l := c.players) (z := (aA.mk false false 0 0 false false false false)) (a := e) (aI rfl) fF Tryz.underlying68 Tryz.zeroValue94 (fun _ _ => .agg (gJ rfl)) (aN hS rfl) rfl rfl (aN hS rfl) (cI (kv := (fun n : Int => Value.int .i64 n)) e))),
      fun X1 S hw hi hS => aZ (X := X1) rfl (hw X1) rfl (bJ rfl (kQ (.ptc _) (gK (aI rfl) (aN hS rfl) eZ))),
      fun X1 S hw hi hS => aZ (X := X1) rfl (hw X1) rfl (bJ rfl (cA (aI rfl) (aN hS rfl))),
      fun X1 S hw hi hS => aZ (X := X1) rfl (hw X1) rfl (bJ rfl (sB (aI rfl) (aN hS rfl) cU (es := [.mp true (c.players.map fun p : Int × aA => ((fun n : Int => Value.int .i64 n) p.1, aB p.2))]) rfl)),
      fun X1 S hw hi hS => aZ (X := X1) rfl (hw X1) rfl (bJ rfl (gK (aI rfl) (aN hS rfl) eC)),
      fun X1 S hw hi hS => aZ (X := X1) rfl (hw X1) rfl (bJ rfl (jG (v := .i g) (aI rfl) (aN hS rfl) rfl)),
      fun X1 S hw hi hS => aZ (X := X1) rfl (hw X1) rfl (bJ rfl (fW (enc := aB) (agg := true) (l := c.players) (z := (aA.mk false false 0 0 false false false false)) (a := g) (aI rfl) fF Tryz.underlying68 Tryz.zeroValue94 (fun _ _ => .agg (gJ rfl)) (aN hS rfl) rfl rfl (aN hS rfl) (cI (kv := (fun n : Int => Value.int .i64 n)) g))),
      fun X1 S hw hi hS => pX (X := X1) (p := 0) (v := fun x => .bp x.b 0 0) (mo := fun x => .box x.b 0 (aB (aA.mk false false 0 0 false false false false))) hS hi rfl rfl (fun _ => rfl) hw (fun _ => rfl) (fun _ => rfl) (fun _ => rfl) (fun _ => ⟨rfl, rfl, .inr rfl, ⟨rfl, rfl, .inr rfl, ⟨rfl, rfl, .inr rfl, ⟨rfl, rfl, .inr rfl, ⟨rfl, rfl, .inr rfl, ⟨rfl, rfl, .inr rfl, ⟨rfl, rfl, .inr rfl, ⟨rfl, rfl, .inr rfl, ⟨rfl, rfl, .inr rfl, ⟨rfl, rfl, .inr rfl, ⟨rfl, rfl, .inr rfl, ⟨rfl, rfl, .inr rfl, ⟨rfl, rfl, .inl rfl, ⟨rfl, rfl, .inr rfl, trivial⟩⟩⟩⟩⟩⟩⟩⟩⟩⟩⟩⟩⟩⟩) (fun _ => ⟨⟨rfl, .inl rfl, ⟨rfl, .inl rfl, trivial⟩⟩, rfl, ⟨⟨rfl, .inr rfl, trivial⟩, rfl, trivial⟩⟩) (jI (dX (zs := [.lit (.bool false), .lit (.bool false), .lit (.int .i64 0), .lit (.int .i64 0), .lit (.bool false), .lit (.bool false), .lit (.bool false), .lit (.bool false)]) (aI rfl) Tryz.zeroValue94 rfl rfl) (by rintro _ ⟨w, rfl⟩; exact ⟨⟨w, undef⟩, aQ [2, 1] rfl rfl (le_refl _)⟩)),
      fun X1 S hw hi hS => pX (X := X1) (p := 1) (v := fun x => .bp x.b 0 0) (mo := fun x => .box x.b 0 (aB (aA.mk false false 0 0 false false false false))) hS hi rfl rfl (fun _ => rfl) hw (fun _ => rfl) (fun _ => rfl) (fun _ => rfl) (fun _ => ⟨rfl, rfl, .inr rfl, ⟨rfl, rfl, .inr rfl, ⟨rfl, rfl, .inr rfl, ⟨rfl, rfl, .inr rfl, ⟨rfl, rfl, .inr rfl, ⟨rfl, rfl, .inr rfl, ⟨rfl, rfl, .inr rfl, ⟨rfl, rfl, .inr rfl, ⟨rfl, rfl, .inr rfl, ⟨rfl, rfl, .inr rfl, ⟨rfl, rfl, .inr rfl, ⟨rfl, rfl, .inr rfl, ⟨rfl, rfl, .inr rfl, ⟨rfl, rfl, .inl rfl, trivial⟩⟩⟩⟩⟩⟩⟩⟩⟩⟩⟩⟩⟩⟩) (fun _ => ⟨⟨rfl, .inr rfl, ⟨rfl, .inr rfl, trivial⟩⟩, rfl, ⟨⟨rfl, .inl rfl, trivial⟩, rfl, trivial⟩⟩) (jI (dX (zs := [.lit (.bool false), .lit (.bool false), .lit (.int .i64 0), .lit (.int .i64 0), .lit (.bool false), .lit (.bool false), .lit (.bool false), .lit (.bool false)]) (aI rfl) Tryz.zeroValue94 rfl rfl) (by rintro _ ⟨w, rfl⟩; exact ⟨⟨w, undef⟩, aQ [0, 2] rfl rfl (le_refl _)⟩)),
      fun X1 S hw hi hS => nS (X := X1) hS rfl rfl rfl (p := 0) rfl rfl (bJ rfl (jB (i := 0) (aN hS rfl) (og hS rfl rfl) (aN hS rfl) rfl rfl Tryz.sizeOf94 rfl (aI rfl) (Nat.le_of_ble_eq_true rfl) (ds' := (aB (aE e (aA.mk false false 0 0 false false false false) c.players))) rfl)), trivial⟩⟩
  · exact fun X1 => bM (aL rfl (aL rfl (aL rfl (aO trivial))))
 ·intro X1;refine to (sst 1 rfl rfl Tryz.sizeOf94 (aB (aE g (aA.mk false false 0 0 false false false false) c.players))) (aD (aF (aC (ta (.fn 86 []) (aD (aF ?_))))));obtain ⟨r2, h3, h⟩ := bns h;obtain ⟨r4, h5, h⟩ := bns h;refine bU mix 17 [] [(27, .i (w64 (r2 - r4))), (32, .i (w64 (((aE e (aA.mk false false 0 0 false false false false) c.players).rank) - ((aE g (aA.mk false false 0 0 false false false false) c.players).rank)))), (37, .i (w64 (((aE e (aA.mk false false 0 0 false false false false) c.players).turn) - ((aE g (aA.mk false false 0 0 false false false false) c.players).turn))))] ?_ ?_
  ·refine ⟨[(21, 0, .fn 86 []), (22, 1, .agg (aB (aE e (aA.mk false false 0 0 false false false false) c.players))), (23, 2, .i r2), (24, 3, .fn 86 []), (25, 4, .agg (aB (aE g (aA.mk false false 0 0 false false false false) c.players))), (26, 5, .i r4), (27, 6, .i (w64 (r2 - r4))), (28, 7, .bp (X1 12).b 0 2), (29, 8, .i ((aE e (aA.mk false false 0 0 false false false false) c.players).rank)), (30, 9, .bp (X1 13).b 0 2), (31, 10, .i ((aE g (aA.mk false false 0 0 false false false false) c.players).rank)), (32, 11, .i (w64 (((aE e (aA.mk false false 0 0 false false false false) c.players).rank) - ((aE g (aA.mk false false 0 0 false false false false) c.players).rank)))), (33, 12, .bp (X1 12).b 0 3), (34, 13, .i ((aE e (aA.mk false false 0 0 false false false false) c.players).turn)), (35, 14, .bp (X1 13).b 0 3), (36, 15, .i ((aE g (aA.mk false false 0 0 false false false false) c.players).turn)), (37, 16, .i (w64 (((aE e (aA.mk false false 0 0 false false false false) c.players).turn) - ((aE g (aA.mk false false 0 0 false false false false) c.players).turn))))], ?_, ?_⟩
   · exact dok [([], []), ([], []), ([0, 1], []), ([], []), ([], []), ([3, 4], []), ([2, 5], []), ([], []), ([7], []), ([], []), ([9], []), ([8, 10], []), ([], []), ([12], []), ([], []), ([14], []), ([13, 15], [])] ⟨go (zm (.fn 86 [])),
      go (zla 0 (aB (aE e (aA.mk false false 0 0 false false false false) c.players)) rfl rfl iP),
      go fun S hS => iS (aI rfl) (.clo _ _ _ _ Tryz.call86 (zJ hS rfl)) (aAc (ev2 (aN hS rfl) evn)) rfl (BVs.refl _ _) (nE _ h3) rfl,
      go (zm (.fn 86 [])),
      go (zla 1 (aB (aE g (aA.mk false false 0 0 false false false false) c.players)) rfl rfl iP),
      go fun S hS => iS (aI rfl) (.clo _ _ _ _ Tryz.call86 (zJ hS rfl)) (aAc (ev2 (aN hS rfl) evn)) rfl (BVs.refl _ _) (nE _ h5) rfl,
      go (zar rfl rfl rfl),
      go (zf rfl sV),
      go (zl 0 rfl rfl rfl aS),
      go (zf rfl sV),
      go (zl 1 rfl rfl rfl aS),
      go (zar rfl rfl rfl),
      go (zf rfl uX),
      go (zl 0 rfl rfl rfl aS),
      go (zf rfl uX),
      go (zl 1 rfl rfl rfl aS),
      go (zar rfl rfl rfl), trivial⟩
   · exact bM (aL rfl (aL rfl (aL rfl (aO trivial))))
  ·refine to (fG (aI rfl) bO rfl rfl (rows := ([w64 (r2 - r4), w64 (((aE e (aA.mk false false 0 0 false false false false) c.players).rank) - ((aE g (aA.mk false false 0 0 false false false false) c.players).rank)), w64 (((aE e (aA.mk false false 0 0 false false false false) c.players).turn) - ((aE g (aA.mk false false 0 0 false false false false) c.players).turn))]).map aG) rfl (aV (f := aG) fun _ => rfl) rfl (by decide)) ?_;obtain ⟨r6, h7, h⟩ := bns h;refine to (scr Tryz.call77 (vU _ h7)) (ta (.i r6) (aD ?_));obtain rfl := sIn h;refine bK (bE (bH (l := [5]) ⟨rfl, trivial⟩)) ?_;exact aU ⟨rfl, _, .one _, rfl, rfl⟩

theorem uF (a : aJ) {Q : (List Int) → Prop} (h : lC a Q) : cO Tryz.prog 52 [.cp (aW a)] [] (fun r' o' => ∃ (r : (List Int)) (w0 : Value), Q r ∧ r' = .d (.lit w0) ∧ o' = [.arr w0 3 1 (r.map aG)]) := by
 unfold lC at h;refine fY Tryz.func52 rfl (rs := [.tmp 2]) Tryz.results52 Tryz.ntmps52 (Nat.le_of_ble_eq_true rfl) ?_;refine aF (aC ?_);refine cR (aGt 0 rfl (.cpt _)) ?_;refine bF rfl (gU (v := .d (.pt (aW a))) (aI rfl) rfl rfl rfl) ?_;rintro _ ⟨b1, rfl⟩;refine to (fP 3 1 (.inl rfl) (aI rfl)) ?_;refine aD (aF (aC (to (fP 3 1 (.inl rfl) (aI rfl)) ?_)));refine aD (aF (aF (aC (to (kQ (.ptc _) (dA (aI rfl) rfl (i := 0) rfl rfl eZ)) ?_))));refine to (cA (aI rfl) rfl) ?_;refine to (sfc [.mp true (a.players.map fun p : Int × aA => ((fun n : Int => Value.int .i64 n) p.1, aB p.2))] rfl cU) (to (slc rfl eC) ?_);refine bF rfl (aGc (kv := (fun n : Int => Value.int .i64 n)) (enc := aB) (agg := true) (l := a.players) (av := (fun v : aA => AV.agg (aB v))) (fun _ => rfl) (aI rfl) Tryz.underlying68 rfl rfl) ?_;rintro _ ⟨q4, r5, o, e, h8, rfl⟩;have h := aDl h h8;refine aD (bL ?_);refine aJe [1, 9] (fun (j : (List Int) × Value × (List Nat)) => [(3, .d (.lit j.2.1))]) (fun (j : (List Int) × Value × (List Nat)) => [.box b1 0 [.pt (aW a)], .arr j.2.1 3 1 (j.1.map aG), qW (fun n : Int => Value.int .i64 n) (fun v : aA => AV.agg (aB v)) a.players r5 o e, .iter q4 r5 e j.2.2 e]) (fun (k : Nat) (j : (List Int) × Value × (List Nat)) => eU Q a k j.1 (jZ a.players o j.2.2)) (fun _ h => h) (([] : List Int), (.slice none 0 0), []) h (aQ [0, 2, 3, 4] rfl rfl (aL rfl (aO ⟨rfl, rfl, trivial⟩))) ?_;rintro H ⟨b, c, g⟩ h;simp only [eU] at h;refine aF (aC ?_);refine bF rfl (aHn (kv := (fun n : Int => Value.int .i64 n)) (av := (fun v : aA => AV.agg (aB v))) (l := a.players) (mi := 3) (mm := 2) (aI rfl) rfl rfl rfl) ?_;rintro _ (⟨y, rfl⟩ | ⟨I, q, m, s, rfl⟩)
 ·have h := h.1 y;refine to (sex rfl rfl) (aD (aF ?_));refine xC rfl (fun t => ?_) (fun t => ?_)
  ·exact absurd t (by decide)
  ·refine bZ ?_;refine .inl ⟨rfl, ?_⟩;simp only [jN] at h;refine aF (aC (tm (.d (.lit c)) (to (mK (aI rfl) rfl rfl) ?_)));refine cR (aQ [1, 2, 3, 0] rfl rfl (le_refl _)) ?_;apply pA [.arr c 3 1 (b.map aG), qW (fun n : Int => Value.int .i64 n) (fun v : aA => AV.agg (aB v)) a.players r5 o e, .iter q4 r5 e g e] [.box b1 0 [.pt (aW a)]] rfl;exact cG (k := 22) (v := .fn 85 [.cp [.pt (aW a)]]) (mY (.cons (cX 0 rfl rfl (dvc (.same _) dvn)) .nil)) (cG (k := 1) (v := .cp [.pt (aW a)]) (cX 0 rfl rfl (dvc (.same _) dvn)) (hM _ _));obtain ⟨u, z, h⟩ := aAi h;refine bF rfl (gA (passed := [.arr c 3 1 (b.map aG)]) (aI rfl) rfl (.func _ _ Tryz.call84) rfl rfl (uN b (fun A B => dK A B a) 85 [.cp [.pt (aW a)]] Tryz.call85 (fun _ _ _ h => tU _ _ a h) z)) ?_;rintro _ ⟨_, _, ⟨rfl, rfl⟩, rfl⟩;refine aD (aF (aC (tm (.d (.lit c)) (ta (.d (.lit c)) (aD ?_)))));exact aU ⟨rfl, _, [.arr c 3 1 (u.map aG)], [qW (fun n : Int => Value.int .i64 n) (fun v : aA => AV.agg (aB v)) a.players r5 o e, .iter q4 r5 e g e], _, .one (.tmp 2 (v := .d (.lit c)) rfl), .refl _, .same _, u, c, h, rfl, rfl⟩
 ·have h := aEn h s;refine to (sex rfl rfl) (aD (aF ?_));refine xC rfl (fun w => ?_) (fun w => ?_)
  ·refine bB (bL (aF (aC (to (aFy (kv := (fun n : Int => Value.int .i64 n)) (av := (fun v : aA => AV.agg (aB v))) (l := a.players) (mi := 3) (mm := 2) (ka := .i m.1) (aI rfl) rfl rfl rfl s (fun _ _ => .d (.lit _ rfl))) ?_))));refine to (sex rfl rfl) (ta (.i m.1) (aD (aF (aC (to (kQ (.ptc _) (dA (aI rfl) rfl (i := 0) rfl rfl eZ)) ?_)))));refine tm (.i m.1) ?_;obtain ⟨J, C, h⟩ := aAi h;refine to (scr Tryz.call83 (pL _ _ C)) (aD ?_);refine tip h (fun E h => ?_) (fun E h => ?_)
   ·refine aC (tm (.d (.lit c)) (tm (.i m.1) (to (fG (aI rfl) bO rfl rfl (rows := ([m.1]).map aG) rfl (aV (f := aG) fun _ => rfl) rfl (by decide)) ?_)));obtain ⟨F, G, h⟩ := aAi h;refine bF rfl (kC (i := 1) (aI rfl) bO rfl rfl rfl (fun _ => rfl) G rfl) ?_;rintro _ ⟨x, rfl⟩;refine ta (.d (.lit x)) ?_;refine cN ?_;exact ⟨(F, x, (g ++ [q])), h, aQ [0, 1, 2, 3] rfl rfl (aL rfl (aO ⟨rfl, rfl, trivial⟩))⟩
   ·refine bV ?_;exact ⟨(b, c, (g ++ [q])), h, aQ [0, 1, 2, 3] rfl rfl (aL rfl (aO ⟨rfl, rfl, trivial⟩))⟩
  ·exact absurd w (by decide)

theorem gY (a0 : aJ) {r : List Int} (h : dY a0 = some r) : cO Tryz.prog 52 [.cp [.lit (.int .i64 a0.Field.Places), .lit (.int .i64 a0.Field.Wilds), .lit (.int .i64 a0.Field.Guards), .lit (.int .i64 a0.Field.Close), .lit (.int .i64 a0.Field.Freeze), .mp true (a0.players.map fun p : Int × aA => ((fun n : Int => Value.int .i64 n) p.1, aB p.2)), .sl 1 (a0.wilds.map aG), .lit (.bool a0.frozen), .sl 1 (a0.first.map aG), .sl 1 (a0.late.map aG), .lit (.int .i64 a0.more), .lit (.int .i64 a0.entered)]] [] (fun r' o' => ∃ w0, r' = .d (.lit w0) ∧ o' = [.arr w0 3 1 (r.map aG)]) := aHh (enc := fun x : List Int => x.map aG) (uF a0 (tV a0 h (fun x => x = r) rfl))
theorem pK (a0 : aJ) {r : List Int} (h : dY a0 = some r) : Fn Tryz.prog 52 [.cp [.lit (.int .i64 a0.Field.Places), .lit (.int .i64 a0.Field.Wilds), .lit (.int .i64 a0.Field.Guards), .lit (.int .i64 a0.Field.Close), .lit (.int .i64 a0.Field.Freeze), .mp true (a0.players.map fun p : Int × aA => ((fun n : Int => Value.int .i64 n) p.1, aB p.2)), .sl 1 (a0.wilds.map aG), .lit (.bool a0.frozen), .sl 1 (a0.first.map aG), .sl 1 (a0.late.map aG), .lit (.int .i64 a0.more), .lit (.int .i64 a0.entered)]] (.d (.sl 1 (r.map aG))) := aGw (gY a0 h)

theorem lY (c : aJ) {r : (List Int)} (h : iM c = some r) : cO Tryz.prog 62 [.cp (aW c)] [] (fun r' o' => ∃ (w0 : Value), r' = .d (.lit w0) ∧ o' = [.arr w0 3 1 (r.map aG)]) := by
 unfold iM at h;refine fY Tryz.func62 rfl (rs := [.tmp 2]) Tryz.results62 Tryz.ntmps62 (Nat.le_of_ble_eq_true rfl) ?_;refine aF (aC (to (fP 3 1 (.inl rfl) (aI rfl)) ?_));refine aD (aF (aC (to (fP 3 1 (.inl rfl) (aI rfl)) ?_)));refine aD (aF (aF (aC (tm (.cp [.lit (.int .i64 c.Field.Places), .lit (.int .i64 c.Field.Wilds), .lit (.int .i64 c.Field.Guards), .lit (.int .i64 c.Field.Close), .lit (.int .i64 c.Field.Freeze), .mp true (c.players.map fun p : Int × aA => ((fun n : Int => Value.int .i64 n) p.1, aB p.2)), .sl 1 (c.wilds.map aG), .lit (.bool c.frozen), .sl 1 (c.first.map aG), .sl 1 (c.late.map aG), .lit (.int .i64 c.more), .lit (.int .i64 c.entered)]) ?_))));obtain ⟨r3, h4, h⟩ := bns h;refine to (dC (aI rfl) (.func _ _ Tryz.call52) rfl rfl (pK _ h4)) ?_;refine to (sle rfl bO.of) (tm (.i 0) (aD (bL ?_)));refine cH (S := Int × (List Int) × Value) [0, 7, 8] (fun s5 => [(3, .d (.lit s5.2.2)), (9, .i s5.1)]) (fun s5 => [.arr s5.2.2 3 1 (s5.2.1.map aG)]) (fun k s5 => eM c r3 (r3.length : Int) k s5.1 s5.2.1) (fun _ => rfl) (0, ([] : List Int), (.slice none 0 0)) h (aQ [1] rfl rfl (aL rfl (aL rfl (aO ⟨rfl, rfl, rfl, trivial⟩)))) ?_;rintro k7 ⟨q, e, w6⟩ h;simp only [eM] at h;refine aF (aC (to (scm rfl rfl rfl) (aD (aF ?_))));refine tih h (fun c8 h => ?_) (fun c8 h => ?_)
 ·refine bB (aF (bL (aF (aC ?_))));obtain ⟨x9, y, h⟩ := bns h;refine to (six rfl rfl bO.of (bR aG y)) (to (slc rfl aS) (ta (.i x9) (aD (aF ?_))));obtain ⟨o, w, h⟩ := bns h;obtain ⟨A, s, h⟩ := bns h;refine bU mix 26 [0, 3, 5, 7, 8, 9] [(38, .b A)] ?_ ?_
  ·refine bch s (fun g s => ?_) (fun g s => ?_)
   ·obtain ⟨G, t, s⟩ := bns s;refine bch t (fun j t => ?_) (fun j t => ?_)
    ·obtain rfl := sIn t;obtain rfl := sIn s;refine ⟨[(13, 0, .d (.lit w6)), (14, 1, .i (e.length : Int)), (15, 2, .cp [.lit (.int .i64 c.Field.Places), .lit (.int .i64 c.Field.Wilds), .lit (.int .i64 c.Field.Guards), .lit (.int .i64 c.Field.Close), .lit (.int .i64 c.Field.Freeze), .mp true (c.players.map fun p : Int × aA => ((fun n : Int => Value.int .i64 n) p.1, aB p.2)), .sl 1 (c.wilds.map aG), .lit (.bool c.frozen), .sl 1 (c.first.map aG), .sl 1 (c.late.map aG), .lit (.int .i64 c.more), .lit (.int .i64 c.entered)]), (16, 3, .i o), (17, 4, .b (decide ((e.length : Int) < o))), (18, 5, .b (decide ((e.length : Int) < o))), (19, 6, .cp [.lit (.int .i64 c.Field.Places), .lit (.int .i64 c.Field.Wilds), .lit (.int .i64 c.Field.Guards), .lit (.int .i64 c.Field.Close), .lit (.int .i64 c.Field.Freeze), .mp true (c.players.map fun p : Int × aA => ((fun n : Int => Value.int .i64 n) p.1, aB p.2)), .sl 1 (c.wilds.map aG), .lit (.bool c.frozen), .sl 1 (c.first.map aG), .sl 1 (c.late.map aG), .lit (.int .i64 c.more), .lit (.int .i64 c.entered)]), (20, 7, .cp [.lit (.int .i64 c.Field.Places), .lit (.int .i64 c.Field.Wilds), .lit (.int .i64 c.Field.Guards), .lit (.int .i64 c.Field.Close), .lit (.int .i64 c.Field.Freeze), .mp true (c.players.map fun p : Int × aA => ((fun n : Int => Value.int .i64 n) p.1, aB p.2)), .sl 1 (c.wilds.map aG), .lit (.bool c.frozen), .sl 1 (c.first.map aG), .sl 1 (c.late.map aG), .lit (.int .i64 c.more), .lit (.int .i64 c.entered)]), (21, 8, .cp [.mp true (c.players.map fun p : Int × aA => ((fun n : Int => Value.int .i64 n) p.1, aB p.2))]), (22, 9, .d (.mp true (c.players.map fun p : Int × aA => ((fun n : Int => Value.int .i64 n) p.1, aB p.2)))), (23, 10, .i x9), (24, 11, .agg (aB (aE x9 (aA.mk false false 0 0 false false false false) c.players))), (25, 12, .b ((aE x9 (aA.mk false false 0 0 false false false false) c.players).guard)), (26, 13, .b (!((aE x9 (aA.mk false false 0 0 false false false false) c.players).guard))), (27, 14, .b (!((aE x9 (aA.mk false false 0 0 false false false false) c.players).guard))), (28, 15, .tup []), (29, 16, .tup []), (30, 17, .tup []), (31, 18, .tup []), (32, 19, .tup []), (33, 20, .tup []), (34, 21, .tup []), (35, 22, .tup []), (36, 23, .tup []), (37, 24, .b true), (38, 25, .b (true))], ?_, ?_⟩
     · exact dok [([], []), ([0], []), ([], []), ([2], []), ([1, 3], []), ([4], []), ([5], []), ([5, 6], []), ([5, 7], []), ([5, 8], []), ([5], []), ([5, 9, 10], []), ([5, 11], []), ([5, 12], []), ([5, 13], []), ([14], []), ([14], []), ([14, 15, 16], []), ([14], []), ([14, 18], []), ([14, 19], []), ([14, 20], []), ([14, 21], []), ([14, 17, 22], []), ([5, 14, 23], []), ([5, 24], [])] ⟨go (zm (.d (.lit w6))),
      go fun S hS => gB (m := 0) (aI rfl) (aN hS rfl) rfl bO.of,
      go (zm (.cp [.lit (.int .i64 c.Field.Places), .lit (.int .i64 c.Field.Wilds), .lit (.int .i64 c.Field.Guards), .lit (.int .i64 c.Field.Close), .lit (.int .i64 c.Field.Freeze), .mp true (c.players.map fun p : Int × aA => ((fun n : Int => Value.int .i64 n) p.1, aB p.2)), .sl 1 (c.wilds.map aG), .lit (.bool c.frozen), .sl 1 (c.first.map aG), .sl 1 (c.late.map aG), .lit (.int .i64 c.more), .lit (.int .i64 c.entered)])),
      go fun S hS => iS (aI rfl) (.func _ _ Tryz.call36) (ev2 (aN hS rfl) evn) rfl (BVs.refl _ _) (eS _ w) rfl,
      go (zcm rfl rfl rfl),
      go (zm (.b (decide ((e.length : Int) < o)))),
      gt g (zm (.cp [.lit (.int .i64 c.Field.Places), .lit (.int .i64 c.Field.Wilds), .lit (.int .i64 c.Field.Guards), .lit (.int .i64 c.Field.Close), .lit (.int .i64 c.Field.Freeze), .mp true (c.players.map fun p : Int × aA => ((fun n : Int => Value.int .i64 n) p.1, aB p.2)), .sl 1 (c.wilds.map aG), .lit (.bool c.frozen), .sl 1 (c.first.map aG), .sl 1 (c.late.map aG), .lit (.int .i64 c.more), .lit (.int .i64 c.entered)])),
      gt g fun S hS => cA (aI rfl) (aN hS rfl),
      gt g (zfc [.mp true (c.players.map fun p : Int × aA => ((fun n : Int => Value.int .i64 n) p.1, aB p.2))] rfl cU),
      gt g (zlc rfl eC),
      gt g (zm (.i x9)),
      gt g fun S hS => fW (enc := aB) (agg := true) (l := c.players) (z := (aA.mk false false 0 0 false false false false)) (a := x9) (aI rfl) fF Tryz.underlying68 Tryz.zeroValue94 (fun _ _ => .agg (gJ rfl)) (aN hS rfl) rfl rfl (aN hS rfl) (cI (kv := (fun n : Int => Value.int .i64 n)) x9),
      gt g fun S hS => kD (aI rfl) (aN hS rfl) Tryz.runUnderlying94 rfl dU rfl,
      gt g (zn rfl),
      gt g (zm (.b (!((aE x9 (aA.mk false false 0 0 false false false false) c.players).guard)))),
      gp j,
      gp j,
      gp j,
      gp j,
      gp j,
      gp j,
      gp j,
      gp j,
      gp j,
      gt g (zpt (.b true) j),
      go (zpt (.b (true)) g), trivial⟩
     · exact bM (aL rfl (aO ⟨rfl, rfl, rfl, rfl, rfl, rfl, trivial⟩))
    ·obtain ⟨u, B, t⟩ := bns t;obtain rfl := sIn t;obtain rfl := sIn s;refine ⟨[(13, 0, .d (.lit w6)), (14, 1, .i (e.length : Int)), (15, 2, .cp [.lit (.int .i64 c.Field.Places), .lit (.int .i64 c.Field.Wilds), .lit (.int .i64 c.Field.Guards), .lit (.int .i64 c.Field.Close), .lit (.int .i64 c.Field.Freeze), .mp true (c.players.map fun p : Int × aA => ((fun n : Int => Value.int .i64 n) p.1, aB p.2)), .sl 1 (c.wilds.map aG), .lit (.bool c.frozen), .sl 1 (c.first.map aG), .sl 1 (c.late.map aG), .lit (.int .i64 c.more), .lit (.int .i64 c.entered)]), (16, 3, .i o), (17, 4, .b (decide ((e.length : Int) < o))), (18, 5, .b (decide ((e.length : Int) < o))), (19, 6, .cp [.lit (.int .i64 c.Field.Places), .lit (.int .i64 c.Field.Wilds), .lit (.int .i64 c.Field.Guards), .lit (.int .i64 c.Field.Close), .lit (.int .i64 c.Field.Freeze), .mp true (c.players.map fun p : Int × aA => ((fun n : Int => Value.int .i64 n) p.1, aB p.2)), .sl 1 (c.wilds.map aG), .lit (.bool c.frozen), .sl 1 (c.first.map aG), .sl 1 (c.late.map aG), .lit (.int .i64 c.more), .lit (.int .i64 c.entered)]), (20, 7, .cp [.lit (.int .i64 c.Field.Places), .lit (.int .i64 c.Field.Wilds), .lit (.int .i64 c.Field.Guards), .lit (.int .i64 c.Field.Close), .lit (.int .i64 c.Field.Freeze), .mp true (c.players.map fun p : Int × aA => ((fun n : Int => Value.int .i64 n) p.1, aB p.2)), .sl 1 (c.wilds.map aG), .lit (.bool c.frozen), .sl 1 (c.first.map aG), .sl 1 (c.late.map aG), .lit (.int .i64 c.more), .lit (.int .i64 c.entered)]), (21, 8, .cp [.mp true (c.players.map fun p : Int × aA => ((fun n : Int => Value.int .i64 n) p.1, aB p.2))]), (22, 9, .d (.mp true (c.players.map fun p : Int × aA => ((fun n : Int => Value.int .i64 n) p.1, aB p.2)))), (23, 10, .i x9), (24, 11, .agg (aB (aE x9 (aA.mk false false 0 0 false false false false) c.players))), (25, 12, .b ((aE x9 (aA.mk false false 0 0 false false false false) c.players).guard)), (26, 13, .b (!((aE x9 (aA.mk false false 0 0 false false false false) c.players).guard))), (27, 14, .b (!((aE x9 (aA.mk false false 0 0 false false false false) c.players).guard))), (28, 15, .cp [.lit (.int .i64 c.Field.Places), .lit (.int .i64 c.Field.Wilds), .lit (.int .i64 c.Field.Guards), .lit (.int .i64 c.Field.Close), .lit (.int .i64 c.Field.Freeze), .mp true (c.players.map fun p : Int × aA => ((fun n : Int => Value.int .i64 n) p.1, aB p.2)), .sl 1 (c.wilds.map aG), .lit (.bool c.frozen), .sl 1 (c.first.map aG), .sl 1 (c.late.map aG), .lit (.int .i64 c.more), .lit (.int .i64 c.entered)]), (29, 16, .d (.lit w6)), (30, 17, .i u), (31, 18, .cp [.lit (.int .i64 c.Field.Places), .lit (.int .i64 c.Field.Wilds), .lit (.int .i64 c.Field.Guards), .lit (.int .i64 c.Field.Close), .lit (.int .i64 c.Field.Freeze), .mp true (c.players.map fun p : Int × aA => ((fun n : Int => Value.int .i64 n) p.1, aB p.2)), .sl 1 (c.wilds.map aG), .lit (.bool c.frozen), .sl 1 (c.first.map aG), .sl 1 (c.late.map aG), .lit (.int .i64 c.more), .lit (.int .i64 c.entered)]), (32, 19, .cp [.lit (.int .i64 c.Field.Places), .lit (.int .i64 c.Field.Wilds), .lit (.int .i64 c.Field.Guards), .lit (.int .i64 c.Field.Close), .lit (.int .i64 c.Field.Freeze), .mp true (c.players.map fun p : Int × aA => ((fun n : Int => Value.int .i64 n) p.1, aB p.2)), .sl 1 (c.wilds.map aG), .lit (.bool c.frozen), .sl 1 (c.first.map aG), .sl 1 (c.late.map aG), .lit (.int .i64 c.more), .lit (.int .i64 c.entered)]), (33, 20, .cp [.lit (.int .i64 c.Field.Places), .lit (.int .i64 c.Field.Wilds), .lit (.int .i64 c.Field.Guards), .lit (.int .i64 c.Field.Close), .lit (.int .i64 c.Field.Freeze)]), (34, 21, .cp [.lit (.int .i64 c.Field.Guards)]), (35, 22, .i c.Field.Guards), (36, 23, .b (decide (u < c.Field.Guards))), (37, 24, .b (decide (u < c.Field.Guards))), (38, 25, .b (decide (u < c.Field.Guards)))], ?_, ?_⟩
     · exact dok [([], []), ([0], []), ([], []), ([2], []), ([1, 3], []), ([4], []), ([5], []), ([5, 6], []), ([5, 7], []), ([5, 8], []), ([5], []), ([5, 9, 10], []), ([5, 11], []), ([5, 12], []), ([5, 13], []), ([14], []), ([14], []), ([14, 15, 16], []), ([14], []), ([14, 18], []), ([14, 19], []), ([14, 20], []), ([14, 21], []), ([14, 17, 22], []), ([5, 14, 23], []), ([5, 24], [])] ⟨go (zm (.d (.lit w6))),
      go fun S hS => gB (m := 0) (aI rfl) (aN hS rfl) rfl bO.of,
      go (zm (.cp [.lit (.int .i64 c.Field.Places), .lit (.int .i64 c.Field.Wilds), .lit (.int .i64 c.Field.Guards), .lit (.int .i64 c.Field.Close), .lit (.int .i64 c.Field.Freeze), .mp true (c.players.map fun p : Int × aA => ((fun n : Int => Value.int .i64 n) p.1, aB p.2)), .sl 1 (c.wilds.map aG), .lit (.bool c.frozen), .sl 1 (c.first.map aG), .sl 1 (c.late.map aG), .lit (.int .i64 c.more), .lit (.int .i64 c.entered)])),
      go fun S hS => iS (aI rfl) (.func _ _ Tryz.call36) (ev2 (aN hS rfl) evn) rfl (BVs.refl _ _) (eS _ w) rfl,
      go (zcm rfl rfl rfl),
      go (zm (.b (decide ((e.length : Int) < o)))),
      gt g (zm (.cp [.lit (.int .i64 c.Field.Places), .lit (.int .i64 c.Field.Wilds), .lit (.int .i64 c.Field.Guards), .lit (.int .i64 c.Field.Close), .lit (.int .i64 c.Field.Freeze), .mp true (c.players.map fun p : Int × aA => ((fun n : Int => Value.int .i64 n) p.1, aB p.2)), .sl 1 (c.wilds.map aG), .lit (.bool c.frozen), .sl 1 (c.first.map aG), .sl 1 (c.late.map aG), .lit (.int .i64 c.more), .lit (.int .i64 c.entered)])),
      gt g fun S hS => cA (aI rfl) (aN hS rfl),
      gt g (zfc [.mp true (c.players.map fun p : Int × aA => ((fun n : Int => Value.int .i64 n) p.1, aB p.2))] rfl cU),
      gt g (zlc rfl eC),
      gt g (zm (.i x9)),
      gt g fun S hS => fW (enc := aB) (agg := true) (l := c.players) (z := (aA.mk false false 0 0 false false false false)) (a := x9) (aI rfl) fF Tryz.underlying68 Tryz.zeroValue94 (fun _ _ => .agg (gJ rfl)) (aN hS rfl) rfl rfl (aN hS rfl) (cI (kv := (fun n : Int => Value.int .i64 n)) x9),
      gt g fun S hS => kD (aI rfl) (aN hS rfl) Tryz.runUnderlying94 rfl dU rfl,
      gt g (zn rfl),
      gt g (zm (.b (!((aE x9 (aA.mk false false 0 0 false false false false) c.players).guard)))),
      gt j (zm (.cp [.lit (.int .i64 c.Field.Places), .lit (.int .i64 c.Field.Wilds), .lit (.int .i64 c.Field.Guards), .lit (.int .i64 c.Field.Close), .lit (.int .i64 c.Field.Freeze), .mp true (c.players.map fun p : Int × aA => ((fun n : Int => Value.int .i64 n) p.1, aB p.2)), .sl 1 (c.wilds.map aG), .lit (.bool c.frozen), .sl 1 (c.first.map aG), .sl 1 (c.late.map aG), .lit (.int .i64 c.more), .lit (.int .i64 c.entered)])),
      gt j (zm (.d (.lit w6))),
      gt j fun S hS => iS (aI rfl) (.func _ _ Tryz.call67) (ev2 (aN hS rfl) (ev2 (aN hS rfl) evn)) rfl (.cons (.same _) (.cons (.d (bI 0 rfl (aV (f := aG) fun _ => rfl))) .nil)) (mT _ _ B) rfl,
      gt j (zm (.cp [.lit (.int .i64 c.Field.Places), .lit (.int .i64 c.Field.Wilds), .lit (.int .i64 c.Field.Guards), .lit (.int .i64 c.Field.Close), .lit (.int .i64 c.Field.Freeze), .mp true (c.players.map fun p : Int × aA => ((fun n : Int => Value.int .i64 n) p.1, aB p.2)), .sl 1 (c.wilds.map aG), .lit (.bool c.frozen), .sl 1 (c.first.map aG), .sl 1 (c.late.map aG), .lit (.int .i64 c.more), .lit (.int .i64 c.entered)])),
      gt j fun S hS => cA (aI rfl) (aN hS rfl),
      gt j (zfc [.lit (.int .i64 c.Field.Places), .lit (.int .i64 c.Field.Wilds), .lit (.int .i64 c.Field.Guards), .lit (.int .i64 c.Field.Close), .lit (.int .i64 c.Field.Freeze)] rfl eE),
      gt j (zfc [.lit (.int .i64 c.Field.Guards)] rfl mA),
      gt j (zlc rfl aS),
      gt j (zcm rfl rfl rfl),
      gt g (zpf (.b (decide (u < c.Field.Guards))) j),
      go (zpt (.b (decide (u < c.Field.Guards))) g), trivial⟩
     · exact bM (aL rfl (aO ⟨rfl, rfl, rfl, rfl, rfl, rfl, trivial⟩))
   ·obtain rfl := sIn s;refine ⟨[(13, 0, .d (.lit w6)), (14, 1, .i (e.length : Int)), (15, 2, .cp [.lit (.int .i64 c.Field.Places), .lit (.int .i64 c.Field.Wilds), .lit (.int .i64 c.Field.Guards), .lit (.int .i64 c.Field.Close), .lit (.int .i64 c.Field.Freeze), .mp true (c.players.map fun p : Int × aA => ((fun n : Int => Value.int .i64 n) p.1, aB p.2)), .sl 1 (c.wilds.map aG), .lit (.bool c.frozen), .sl 1 (c.first.map aG), .sl 1 (c.late.map aG), .lit (.int .i64 c.more), .lit (.int .i64 c.entered)]), (16, 3, .i o), (17, 4, .b (decide ((e.length : Int) < o))), (18, 5, .b (decide ((e.length : Int) < o))), (19, 6, .tup []), (20, 7, .tup []), (21, 8, .tup []), (22, 9, .tup []), (23, 10, .tup []), (24, 11, .tup []), (25, 12, .tup []), (26, 13, .tup []), (27, 14, .tup []), (28, 15, .tup []), (29, 16, .tup []), (30, 17, .tup []), (31, 18, .tup []), (32, 19, .tup []), (33, 20, .tup []), (34, 21, .tup []), (35, 22, .tup []), (36, 23, .tup []), (37, 24, .tup []), (38, 25, .b false)], ?_, ?_⟩
    · exact dok [([], []), ([0], []), ([], []), ([2], []), ([1, 3], []), ([4], []), ([5], []), ([5, 6], []), ([5, 7], []), ([5, 8], []), ([5], []), ([5, 9, 10], []), ([5, 11], []), ([5, 12], []), ([5, 13], []), ([14], []), ([14], []), ([14, 15, 16], []), ([14], []), ([14, 18], []), ([14, 19], []), ([14, 20], []), ([14, 21], []), ([14, 17, 22], []), ([5, 14, 23], []), ([5, 24], [])] ⟨go (zm (.d (.lit w6))),
      go fun S hS => gB (m := 0) (aI rfl) (aN hS rfl) rfl bO.of,
      go (zm (.cp [.lit (.int .i64 c.Field.Places), .lit (.int .i64 c.Field.Wilds), .lit (.int .i64 c.Field.Guards), .lit (.int .i64 c.Field.Close), .lit (.int .i64 c.Field.Freeze), .mp true (c.players.map fun p : Int × aA => ((fun n : Int => Value.int .i64 n) p.1, aB p.2)), .sl 1 (c.wilds.map aG), .lit (.bool c.frozen), .sl 1 (c.first.map aG), .sl 1 (c.late.map aG), .lit (.int .i64 c.more), .lit (.int .i64 c.entered)])),
      go fun S hS => iS (aI rfl) (.func _ _ Tryz.call36) (ev2 (aN hS rfl) evn) rfl (BVs.refl _ _) (eS _ w) rfl,
      go (zcm rfl rfl rfl),
      go (zm (.b (decide ((e.length : Int) < o)))),
      gp g,
      gp g,
      gp g,
      gp g,
      gp g,
      gp g,
      gp g,
      gp g,
      gp g,
      gq,
      gq,
      gq,
      gq,
      gq,
      gq,
      gq,
      gq,
      gq,
      gp g,
      go (zpf (.b false) g), trivial⟩
    · exact bM (aL rfl (aO ⟨rfl, rfl, rfl, rfl, rfl, rfl, trivial⟩))
  ·refine aD ?_;refine tih h (fun C h => ?_) (fun C h => ?_)
   ·refine aC (tm (.d (.lit w6)) (tm (.i x9) (to (fG (aI rfl) bO rfl rfl (rows := ([x9]).map aG) rfl (aV (f := aG) fun _ => rfl) rfl (by decide)) ?_)));obtain ⟨E, F, h⟩ := bns h;refine bF rfl (kC (i := 0) (aI rfl) bO rfl rfl rfl (fun _ => rfl) F rfl) ?_;rintro _ ⟨x, rfl⟩;refine ta (.d (.lit x)) ?_;refine cN ?_;refine aC (to (sar rfl rfl rfl) (tm (.i (w64 (q + 1))) (aD ?_)));exact ⟨(w64 (q + 1), E, x), h, aQ [0] rfl rfl (aL rfl (aL rfl (aO ⟨rfl, rfl, rfl, trivial⟩)))⟩
   ·refine bV ?_;refine aC (to (sar rfl rfl rfl) (tm (.i (w64 (q + 1))) (aD ?_)));exact ⟨(w64 (q + 1), e, w6), h, aQ [0] rfl rfl (aL rfl (aL rfl (aO ⟨rfl, rfl, rfl, trivial⟩)))⟩
 ·refine bZ ?_;refine .inl ⟨rfl, ?_⟩;simp only [lX] at h;refine aF (aC (tm (.d (.lit w6)) (ta (.d (.lit w6)) (aD ?_))));obtain rfl := sIn h;exact aU ⟨rfl, _, [.arr w6 3 1 (e.map aG)], [], _, .one (.tmp 2 (v := .d (.lit w6)) rfl), .refl _, .same _, w6, rfl, rfl⟩

theorem mS (a : aJ) {r : aJ} {k m : Nat} {b : Nat} {e : List Nat} {g : Nat} {c : Value} {j : Value} {d : Value} (h : iL a = some r) : cO Tryz.prog 79 [.bp k m 0] [.box k m [.lit (.int .i64 a.Field.Places), .lit (.int .i64 a.Field.Wilds), .lit (.int .i64 a.Field.Guards), .lit (.int .i64 a.Field.Close), .lit (.int .i64 a.Field.Freeze), .lit (.map (some b)), .lit c, .lit (.bool a.frozen), .lit j, .lit d, .lit (.int .i64 a.more), .lit (.int .i64 a.entered)], .map b (a.players.map fun p : Int × aA => ((fun n : Int => Value.int .i64 n) p.1, (fun v : aA => AV.agg (aB v)) p.2)) e g, .arr c 3 1 (a.wilds.map aG), .arr j 3 1 (a.first.map aG), .arr d 3 1 (a.late.map aG)] (fun r' o' => ∃ (o : List Nat) (q : Nat) (w2 : Value) (w4 : Value) (w5 : Value), r' = .tup [] ∧ o' = [.box k m [.lit (.int .i64 r.Field.Places), .lit (.int .i64 r.Field.Wilds), .lit (.int .i64 r.Field.Guards), .lit (.int .i64 r.Field.Close), .lit (.int .i64 r.Field.Freeze), .lit (.map (some b)), .lit w2, .lit (.bool r.frozen), .lit w4, .lit w5, .lit (.int .i64 r.more), .lit (.int .i64 r.entered)], .map b (r.players.map fun p : Int × aA => ((fun n : Int => Value.int .i64 n) p.1, (fun v : aA => AV.agg (aB v)) p.2)) o q, .arr w2 3 1 (r.wilds.map aG), .arr w4 3 1 (r.first.map aG), .arr w5 3 1 (r.late.map aG)]) := by
 unfold iL at h;refine qT Tryz.func79 rfl (rs := []) Tryz.results79 Tryz.ntmps79 (Nat.le_of_ble_eq_true rfl) ?_;refine aF (aC (tm (.bp k m 0) (to (aY (aI rfl) rfl) ?_)));refine tfl 0 rfl rfl oR rfl dU (to (sn rfl) (aD ?_));refine tih h (fun c1 h => ?_) (fun c1 h => ?_)
 ·refine aC (tm (.bp k m 0) (tm (.bp k m 0) (tm (.bp k m 0) ?_)));obtain ⟨r2, h3, h⟩ := bns h;refine bF rfl (oE (aI rfl) (.func _ _ Tryz.call62) rfl rfl (.cons (cX 0 rfl rfl (dvc (.same _) (dvc (.same _) (dvc (.same _) (dvc (.same _) (dvc (.same _) (dvc (hZ (kv := (fun n : Int => Value.int .i64 n)) (av := (fun v : aA => AV.agg (aB v))) (l := a.players) (enc := aB) (agg := true) 1 rfl (fun h => by cases h) (fun _ => rfl)) (dvc (bI 2 rfl (aV (f := aG) fun _ => rfl)) (dvc (.same _) (dvc (bI 3 rfl (aV (f := aG) fun _ => rfl)) (dvc (bI 4 rfl (aV (f := aG) fun _ => rfl)) (dvc (.same _) (dvc (.same _) dvn))))))))))))) .nil) (lY _ h3) (iO (fun _ => rfl) _)) ?_;rintro _ ⟨v4, rfl⟩;refine to (aY (aI rfl) rfl) ?_;refine to (sf rfl sS) (to (sst 0 rfl rfl Tryz.sizeOf25 [.lit (.int .i64 a.Field.Places), .lit (.int .i64 a.Field.Wilds), .lit (.int .i64 a.Field.Guards), .lit (.int .i64 a.Field.Close), .lit (.int .i64 a.Field.Freeze), .lit (.map (some b)), .lit c, .lit (.bool a.frozen), .lit v4, .lit d, .lit (.int .i64 a.more), .lit (.int .i64 a.entered)]) (to (aY (aI rfl) rfl) ?_));refine to (sf rfl oR) (to (sst 0 rfl rfl Tryz.sizeOf4 [.lit (.int .i64 a.Field.Places), .lit (.int .i64 a.Field.Wilds), .lit (.int .i64 a.Field.Guards), .lit (.int .i64 a.Field.Close), .lit (.int .i64 a.Field.Freeze), .lit (.map (some b)), .lit c, .lit (.bool true), .lit v4, .lit d, .lit (.int .i64 a.more), .lit (.int .i64 a.entered)]) (aD ?_));obtain rfl := sIn h;exact ⟨_, [.box k m [.lit (.int .i64 a.Field.Places), .lit (.int .i64 a.Field.Wilds), .lit (.int .i64 a.Field.Guards), .lit (.int .i64 a.Field.Close), .lit (.int .i64 a.Field.Freeze), .lit (.map (some b)), .lit c, .lit (.bool true), .lit v4, .lit d, .lit (.int .i64 a.more), .lit (.int .i64 a.entered)], .map b (a.players.map fun p : Int × aA => ((fun n : Int => Value.int .i64 n) p.1, (fun v : aA => AV.agg (aB v)) p.2)) e g, .arr c 3 1 (a.wilds.map aG), .arr v4 3 1 (r2.map aG), .arr d 3 1 (a.late.map aG)], [.arr j 3 1 (a.first.map aG)], _, .none, (cJ (i := 0) rfl).trans (.cons _ ((cJ (i := 0) rfl).trans (.cons _ ((cJ (i := 0) rfl).trans (.cons _ ((cJ (i := 2) rfl).trans (.cons _ ((cJ (i := 1) rfl).trans (.cons _ ((cJ (i := 0) rfl).trans (.cons _ (.refl _)))))))))))), .same _, e, g, c, v4, d, rfl, rfl⟩
 ·refine bB ?_;obtain rfl := sIn h;exact ⟨_, [.box k m [.lit (.int .i64 a.Field.Places), .lit (.int .i64 a.Field.Wilds), .lit (.int .i64 a.Field.Guards), .lit (.int .i64 a.Field.Close), .lit (.int .i64 a.Field.Freeze), .lit (.map (some b)), .lit c, .lit (.bool a.frozen), .lit j, .lit d, .lit (.int .i64 a.more), .lit (.int .i64 a.entered)], .map b (a.players.map fun p : Int × aA => ((fun n : Int => Value.int .i64 n) p.1, (fun v : aA => AV.agg (aB v)) p.2)) e g, .arr c 3 1 (a.wilds.map aG), .arr j 3 1 (a.first.map aG), .arr d 3 1 (a.late.map aG)], [], _, .none, .refl _, .same _, e, g, c, j, d, rfl, rfl⟩

theorem oF (e : List Int) (g : Int → Option Bool) {r : Int} (c : Nat) (f : List AV) (j : ∀ args w, (callFunc c args).run Tryz.prog w = .ok (.enter c args) w) (l : ∀ (x0 : Int) r, g x0 = some r → Fn Tryz.prog c ([.i x0] ++ f) (.b r)) (h : fI e g = some r) : Fn Tryz.prog 90 [.d (.sl 1 (e.map aG)), .fn c f] (.i r) := by
 unfold fI at h;refine Fn.of_tr Tryz.func90 rfl (rs := [.tmp 4]) Tryz.results90 Tryz.ntmps90 (Nat.le_of_ble_eq_true rfl) ?_;refine aF (aC (ta (.i 0) (aD (aF (aF (aC (tm (.d (.sl 1 (e.map aG))) (to (sle rfl bO.of) (tm (.i 0) (aD (bL ?_)))))))))));refine cH (S := Int) [0, 1, 7] (fun s1 => [(8, .i s1)]) (fun s1 => []) (fun k s1 => eF e g (e.length : Int) k s1) (fun _ => rfl) (0) h (aQ [] rfl rfl (aL rfl (aO ⟨rfl, rfl, rfl, trivial⟩))) ?_;rintro k2 a h;simp only [eF] at h;refine aF (aC (to (scm rfl rfl rfl) (aD (aF ?_))));refine tih h (fun c3 h => ?_) (fun c3 h => ?_)
 ·refine bB (aF (bL (aF (aC (tm (.i a) (ta (.i a) (aD (aF (aC (tm (.fn c f) (tm (.d (.sl 1 (e.map aG))) (tm (.i a) ?_))))))))))));obtain ⟨x4, h5, h⟩ := bns h;refine to (six rfl rfl bO.of (bR aG h5)) (to (slc rfl aS) ?_);obtain ⟨r6, h7, h⟩ := bns h;refine to (iS (aI rfl) (.clo _ _ _ _ j rfl) (aAc rfl) rfl (BVs.refl _ _) (l _ _  h7) rfl) ?_;refine aD ?_;refine tih h (fun c8 h => ?_) (fun c8 h => ?_)
  ·refine aF (aC (tm (.i a) (ta (.i a) (aD ?_))));obtain rfl := sIn h;exact aU ⟨rfl, _, .one _, rfl, rfl⟩
  ·refine bV ?_;refine aC (to (sar rfl rfl rfl) (tm (.i (w64 (a + 1))) (aD ?_)));exact ⟨(w64 (a + 1)), h, aQ [] rfl rfl (aL rfl (aO ⟨rfl, rfl, rfl, trivial⟩))⟩
 ·refine bZ ?_;refine .inl ⟨rfl, ?_⟩;simp only [kW] at h;refine aF (aC (ta (.i (-1)) (aD ?_)));obtain rfl := sIn h;exact aU ⟨rfl, _, .one _, rfl, rfl⟩

theorem dF (t : List Int) (s : Int → Option Bool) {r : (List Int)} {a : Value} (e : Nat) (j : List AV) (o : ∀ args w, (callFunc e args).run Tryz.prog w = .ok (.enter e args) w) (p : ∀ (x0 : Int) r, s x0 = some r → Fn Tryz.prog e ([.i x0] ++ j) (.b r)) (h : bY t s = some r) : cO Tryz.prog 64 [.d (.lit a), .fn e j] [.arr a 3 1 (t.map aG)] (fun r' o' => ∃ w0 : Value, r' = .d (.lit w0) ∧ o' = [.arr w0 3 1 (r.map aG)]) := by
 unfold bY at h;refine fY Tryz.func64 rfl (rs := [.tmp 4]) Tryz.results64 Tryz.ntmps64 (Nat.le_of_ble_eq_true rfl) ?_;refine aF (aC (to (fP 3 1 (.inl rfl) (aI rfl)) ?_));refine aD (aF (aC (tm (.d (.lit a)) (tm (.fn e j) ?_))));obtain ⟨r2, h3, h⟩ := bns h;refine to (sc Tryz.call90 (oF _ _ e j o p h3) (.cons (.d (bI 0 rfl (aV (f := aG) fun _ => rfl))) (.cons (.same _) .nil))) (ta (.i r2) (aD (aF (aF (aC (tm (.i r2) (to (scm rfl rfl rfl) (aD ?_))))))));refine tih h (fun c4 h => ?_) (fun c4 h => ?_)
 ·refine aF (aC (tm (.d (.lit a)) (ta (.d (.lit a)) (aD ?_))));obtain rfl := sIn h;exact aU ⟨rfl, _, [.arr a 3 1 (t.map aG)], [.arr (.slice none 0 0) 3 1 (([] : List Int).map aG)], _, .one (.tmp 4 (v := .d (.lit a)) rfl), .refl _, .same _, a, rfl, rfl⟩
 ·refine bB (aF (aF (aC (tm (.i r2) (to (sar rfl rfl rfl) (ta (.i (w64 (r2 + 1))) (aD (bL ?_))))))));refine cH (S := Int × Int × (List Int)) [1] (fun s5 => [(0, .d (.lit a)), (5, .i s5.1), (6, .i s5.2.1)]) (fun s5 => [.arr a 3 1 (s5.2.2.map aG)]) (fun k s5 => dN s k s5.1 s5.2.1 s5.2.2) (fun _ => rfl) (r2, w64 (r2 + 1), t) h (aQ [0] rfl rfl (aL rfl (aL rfl (aL rfl (aO ⟨rfl, trivial⟩))))) ?_;rintro k6 ⟨c, g, n⟩ h;simp only [dN] at h;refine aF (aF (aC (tm (.i g) (tm (.d (.lit a)) (to (gB (m := 0) (aI rfl) rfl rfl bO.of) ?_)))));refine to (scm rfl rfl rfl) (aD ?_);refine tih h (fun c7 h => ?_) (fun c7 h => ?_)
  ·refine bB (aF (bL (aF (aC (tm (.d (.lit a)) (tm (.i g) ?_))))));obtain ⟨x8, h9, h⟩ := bns h;refine to (kE (m := 0) (aI rfl) rfl rfl rfl bO.of (bR aG h9)) ?_;refine to (lR (aI rfl) rfl (m := 0) rfl (nI aG h9) rfl aS) ?_;refine ta (.i x8) (aD (aF (aC (tm (.fn e j) (tm (.i x8) ?_)))));obtain ⟨C, x, h⟩ := bns h;refine to (iS (aI rfl) (.clo _ _ _ _ o rfl) (aAc rfl) rfl (BVs.refl _ _) (p _ _  x) rfl) ?_;refine to (sn rfl) (aD ?_);refine tih h (fun y h => ?_) (fun y h => ?_)
   ·refine aF (aC (tm (.d (.lit a)) (tm (.i c) (tm (.i x8) ?_))));obtain ⟨E, u, h⟩ := bns h;refine to (kE (m := 0) (aI rfl) rfl rfl rfl bO.of (bR aG u)) ?_;refine to (vD (l := 0) rfl rfl (nI aG u) rfl rfl rfl Tryz.sizeOf3 rfl (aI rfl) (Nat.le_of_ble_eq_true rfl) (rows' := ((n.set c.toNat x8)).map aG) (aAo _ _ _ _ rfl)) ?_;refine aD (aC (tm (.i c) (to (sar rfl rfl rfl) (ta (.i (w64 (c + 1))) ?_))));refine cN ?_;refine aC (tm (.i g) (to (sar rfl rfl rfl) (ta (.i (w64 (g + 1))) (aD ?_))));exact ⟨(w64 (c + 1), w64 (g + 1), (n.set c.toNat x8)), h, aQ [0] rfl rfl (aL rfl (aL rfl (aL rfl (aO ⟨rfl, trivial⟩))))⟩
   ·refine bV ?_;refine aC (tm (.i g) (to (sar rfl rfl rfl) (ta (.i (w64 (g + 1))) (aD ?_))));exact ⟨(c, w64 (g + 1), n), h, aQ [0] rfl rfl (aL rfl (aL rfl (aL rfl (aO ⟨rfl, trivial⟩))))⟩
  ·refine bZ ?_;refine .inl ⟨rfl, ?_⟩;simp only [kR] at h;refine aF (aC (tm (.d (.lit a)) (tm (.i c) ?_)));obtain ⟨F, z, h⟩ := bns h;refine to (nK (m := 0) (aI rfl) rfl rfl rfl bO.of z) ?_;obtain ⟨G, A, h⟩ := bns h;refine to (yG (f := aG) (m := 0) bO rfl rfl A (by decide)) ?_;refine aD (aF (aC (tm (.d (.lit a)) (tm (.i c) ?_))));obtain ⟨H, B, h⟩ := bns h;refine to (nJ (m := 0) (q := c.toNat) (v := a) (aI rfl) rfl rfl rfl rfl (vT B) bO.of) ?_;refine ta (.d (.lit (dZ a c.toNat))) (aD ?_);obtain rfl := sIn h;exact aU ⟨rfl, _, [.arr (dZ a c.toNat) 3 1 ((n.take c.toNat).map aG)], [], _, .one (.tmp 4 (v := .d (.lit (dZ a c.toNat))) rfl), .refl _, .same _, (dZ a c.toNat), rfl, rfl⟩

theorem kU (a : Int) (c : aK) {r : Bool} (h : dS a c = some r) : Fn Tryz.prog 108 [.i a, .cp (aH c)] (.b r) := by
 unfold dS at h;refine Fn.of_tr Tryz.func108 rfl (rs := [.tmp 3]) Tryz.results108 Tryz.ntmps108 (Nat.le_of_ble_eq_true rfl) ?_;refine aF (aC (ta (.b false) (aD (aF (aC (tm (.i a) (to (sfc [.lit (.int .i64 c.Player)] rfl cT) (to (slc rfl aS) (to (scm rfl rfl rfl) (ta (.b (decide (a = c.Player))) (aD ?_)))))))))));obtain rfl := sIn h;exact aU ⟨rfl, _, .one _, rfl, rfl⟩

end Go.Am
