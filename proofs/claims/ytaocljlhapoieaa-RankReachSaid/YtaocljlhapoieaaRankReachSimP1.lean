/- The functions compute what the shallow ones say: printed by program. -/
import Derived.Test.YtaocljlhapoieaaRkSh
import Derived.Test.YtaocljlhapoieaaAmRange
import Derived.Test.YtaocljlhapoieaaRkShelf
import Derived.Test.YtaocljlhapoieaaAmSub
import Derived.Test.YtaocljlhapoieaaChecked
import Derived.KernelRfl
namespace Go.Am
open Go.Proofs
set_option maxRecDepth 100000
set_option maxHeartbeats 4000000

theorem mix : Try.prog.follows .mixedOrders = true := Checked.mixed Try.checked

theorem dW : tK Try.prog 25 5 := ⟨Try.isAgg25, Try.sizeOf25⟩
theorem aAs : gL Try.prog 27 1 1 := eZ Try.runUnderlying27 rfl rfl Try.sizeOf3
theorem bH : rK Try.prog 3 := ⟨Try.isAgg3, Try.sizeOf3⟩
theorem dK : SliceTy Try.prog 28 3 1 8 (.int .i64 0) := ⟨Try.underlying28, ⟨Try.t3, by kernel_rfl, rfl, rfl, rfl⟩, rfl, by decide⟩
theorem iJ : gL Try.prog 25 0 0 := eZ Try.runUnderlying25 rfl rfl Try.sizeOf3
theorem aEe : gL Try.prog 27 0 0 := eZ Try.runUnderlying27 rfl rfl Try.sizeOf3
theorem eH : gL Try.prog 25 2 2 := eZ Try.runUnderlying25 rfl rfl Try.sizeOf22
theorem iZ : rK Try.prog 22 := ⟨Try.isAgg22, Try.sizeOf22⟩
theorem bR : SliceTy Try.prog 22 42 5 40 (.agg #[.int .i64 0, .int .i64 0, .int .i64 0, .int .i64 0, .bool false]) := ⟨Try.underlying22, ⟨Try.t42, by kernel_rfl, rfl, rfl, rfl⟩, rfl, by decide⟩
theorem lH : gL Try.prog 25 3 3 := eZ Try.runUnderlying25 rfl rfl Try.sizeOf23
theorem jA : rK Try.prog 23 := ⟨Try.isAgg23, Try.sizeOf23⟩
theorem eY : SliceTy Try.prog 23 66 3 24 (.agg #[.int .i64 0, .int .i64 0, .int .i64 0]) := ⟨Try.underlying23, ⟨Try.t66, by kernel_rfl, rfl, rfl, rfl⟩, rfl, by decide⟩
theorem kG : gL Try.prog 25 4 4 := eZ Try.runUnderlying25 rfl rfl Try.sizeOf23
theorem lI : gL Try.prog 42 2 2 := eZ Try.runUnderlying42 rfl rfl Try.sizeOf3
theorem wZ : gL Try.prog 25 1 1 := eZ Try.runUnderlying25 rfl rfl Try.sizeOf3
theorem dY : tK Try.prog 42 5 := ⟨Try.isAgg42, Try.sizeOf42⟩
theorem yA : tK Try.prog 66 3 := ⟨Try.isAgg66, Try.sizeOf66⟩
theorem lJ : gL Try.prog 66 0 0 := eZ Try.runUnderlying66 rfl rfl Try.sizeOf3
theorem kI : gL Try.prog 66 1 1 := eZ Try.runUnderlying66 rfl rfl Try.sizeOf3
theorem mI : gL Try.prog 66 2 2 := eZ Try.runUnderlying66 rfl rfl Try.sizeOf3
theorem kA : gL Try.prog 42 0 0 := eZ Try.runUnderlying42 rfl rfl Try.sizeOf3
theorem pA : gL Try.prog 42 1 1 := eZ Try.runUnderlying42 rfl rfl Try.sizeOf3
theorem iK : gL Try.prog 42 3 3 := eZ Try.runUnderlying42 rfl rfl Try.sizeOf3
theorem aBg : aIc Try.prog 42 aB := by
  rintro ⟨a0, a1, a2, a3, a4⟩ ⟨b0, b1, b2, b3, b4⟩ w
  simp [aB, oF, go_sem, Op.eqFields, Program.fieldsOf] <;> (repeat' split) <;> simp_all
theorem tY : sV Try.prog 42 (.agg #[.int .i64 0, .int .i64 0, .int .i64 0, .int .i64 0, .bool false]) [(0, 1), (1, 1), (2, 1), (3, 1), (4, 1)] := ⟨Try.zeroValue42, _, Try.runUnderlying42, fun w => by simp [Try.sizeOf3, Try.sizeOf4]⟩
theorem aHz : sV Try.prog 66 (.agg #[.int .i64 0, .int .i64 0, .int .i64 0]) [(0, 1), (1, 1), (2, 1)] := ⟨Try.zeroValue66, _, Try.runUnderlying66, fun w => by simp [Try.sizeOf3]⟩
theorem aLd : sV Try.prog 25 (.agg #[.int .i64 0, .int .i64 0, .slice none 0 0, .slice none 0 0, .slice none 0 0]) [(0, 1), (1, 1), (2, 1), (3, 1), (4, 1)] := ⟨Try.zeroValue25, _, Try.runUnderlying25, fun w => by simp [Try.sizeOf22, Try.sizeOf23, Try.sizeOf3]⟩
theorem aLe : sV Try.prog 76 (.agg #[.int .i64 0, .int .i64 0, .slice none 0 0, .slice none 0 0, .slice none 0 0]) [(0, 5)] := ⟨Try.zeroValue76, _, Try.runUnderlying76, fun w => by simp [Try.sizeOf25]⟩
theorem jO : gL Try.prog 76 0 0 := eZ Try.runUnderlying76 rfl rfl Try.sizeOf25
theorem aKh : sV Try.prog 114 (.agg #[.int .i64 0, .int .i64 0, .int .i64 0, .int .i64 0]) [(0, 1), (1, 1), (2, 1), (3, 1)] := ⟨Try.zeroValue114, _, Try.runUnderlying114, fun w => by simp [Try.sizeOf3]⟩
theorem kH : gL Try.prog 42 4 4 := eZ Try.runUnderlying42 rfl rfl Try.sizeOf4
theorem nW : rK Try.prog 4 := ⟨Try.isAgg4, Try.sizeOf4⟩
theorem vM : gL Try.prog 114 2 2 := eZ Try.runUnderlying114 rfl rfl Try.sizeOf3
theorem uK : tK Try.prog 114 4 := ⟨Try.isAgg114, Try.sizeOf114⟩
theorem qP : SliceTy Try.prog 112 114 4 32 (.agg #[.int .i64 0, .int .i64 0, .int .i64 0, .int .i64 0]) := ⟨Try.underlying112, ⟨Try.t114, by kernel_rfl, rfl, rfl, rfl⟩, rfl, by decide⟩
theorem yM : gL Try.prog 114 0 0 := eZ Try.runUnderlying114 rfl rfl Try.sizeOf3
theorem aCw : gL Try.prog 114 1 1 := eZ Try.runUnderlying114 rfl rfl Try.sizeOf3
theorem aCx : gL Try.prog 114 3 3 := eZ Try.runUnderlying114 rfl rfl Try.sizeOf3
theorem wO : rK Try.prog 70 := ⟨Try.isAgg70, Try.sizeOf70⟩
theorem zD : SliceTy Try.prog 128 28 1 24 (.slice none 0 0) := ⟨Try.underlying128, ⟨Try.t28, by kernel_rfl, rfl, rfl, rfl⟩, rfl, by decide⟩
theorem aHs : rK Try.prog 28 := ⟨Try.isAgg28, Try.sizeOf28⟩
theorem aBz : SliceTy Try.prog 47 4 1 1 (.bool false) := ⟨Try.underlying47, ⟨Try.t4, by kernel_rfl, rfl, rfl, rfl⟩, rfl, by decide⟩
theorem zO : SliceTy Try.prog 80 25 5 88 (.agg #[.int .i64 0, .int .i64 0, .slice none 0 0, .slice none 0 0, .slice none 0 0]) := ⟨Try.underlying80, ⟨Try.t25, by kernel_rfl, rfl, rfl, rfl⟩, rfl, by decide⟩

theorem dT (n_0 : Int) (low_1 : Int) (high_2 : Int) {r : Bool} (h : dZ n_0 low_1 high_2 = some r) : Fn Try.prog 58 [.d (.lit (.int .i64 n_0)), .d (.lit (.int .i64 low_1)), .d (.lit (.int .i64 high_2))] (.d (.lit (.bool r))) := by
 unfold dZ at h
 refine Fn.of_tr Try.func58 rfl (rs := [.tmp 6]) Try.results58 Try.ntmps58 (Nat.le_of_ble_eq_true rfl) ?_
 refine aG ?_
 refine aE ?_
 refine tr1 rfl (aJ (v := .d (.lit (.bool false))) (aA rfl) rfl rfl) ?_
 refine aF ?_
 refine aG ?_
 refine aE ?_
 refine tr1 rfl (aC (v := .d (.lit (.int .i64 n_0))) (aA rfl) rfl rfl) ?_
 refine tr1 rfl (aC (v := .d (.lit (.int .i64 low_1))) (aA rfl) rfl rfl) ?_
 refine tr1 rfl (bC (aA rfl) rfl rfl rfl) ?_
 refine tr1 rfl (aC (v := .d (.lit (.bool ((decide (low_1 ≤ n_0)))))) (aA rfl) rfl rfl) ?_
 obtain ⟨b1, h2, h⟩ := bind_some h
 refine cA 4 [] 14 b1 ?_ ?_
 ·refine bF (decide (low_1 ≤ n_0)) (fun c3 => ?_) (fun c3 => ?_)
  ·have h2 := aT c3 h2
   refine aO rfl rfl (aA rfl) rfl c3 (aC (v := .d (.lit (.int .i64 n_0))) (aA rfl) rfl rfl) ?_
   refine aO rfl rfl (aA rfl) rfl c3 (aC (v := .d (.lit (.int .i64 high_2))) (aA rfl) rfl rfl) ?_
   refine aO rfl rfl (aA rfl) rfl c3 (bC (aA rfl) rfl rfl rfl) ?_
   refine tr1 rfl (bN (v := .d (.lit (.bool ((decide (n_0 ≤ high_2)))))) (aA rfl) rfl c3 rfl rfl) ?_
   have h2 := Option.some.inj h2
   subst h2
   refine aF (bB rfl trivial rfl)
  ·have h2 := aS c3 h2
   refine aR rfl rfl (aA rfl) rfl (aA rfl) rfl c3 ?_
   refine aR rfl rfl (aA rfl) rfl (aA rfl) rfl c3 ?_
   refine aR rfl rfl (aA rfl) rfl (aA rfl) rfl c3 ?_
   refine tr1 rfl (bP (v := .d (.lit (.bool false))) (aA rfl) rfl c3 rfl rfl) ?_
   have h2 := Option.some.inj h2
   subst h2
   refine aF (bB rfl trivial rfl)
 ·refine tr1 rfl (aJ (v := .d (.lit (.bool b1))) (aA rfl) rfl rfl) ?_
  refine aF ?_
  have h := Option.some.inj h
  subst h
  exact bM ⟨rfl, _, .one _, rfl, rfl⟩

theorem rF (players_0 : Int) (l_1 : List bA) {r : Bool} (h : jJ players_0 l_1 = some r) : Fn Try.prog 78 [.d (.lit (.int .i64 players_0)), .d (.sl 3 (l_1.map aK))] (.d (.lit (.bool r))) := by
 unfold jJ at h
 refine Fn.of_tr Try.func78 rfl (rs := [.tmp 4]) Try.results78 Try.ntmps78 (Nat.le_of_ble_eq_true rfl) ?_
 refine aG ?_
 refine aE ?_
 refine tr1 rfl (aJ (v := .d (.lit (.bool false))) (aA rfl) rfl rfl) ?_
 refine aF ?_
 refine aG ?_
 refine aG ?_
 refine aE ?_
 refine tr1 rfl (aJ (v := .d (.lit (.int .i64 0))) (aA rfl) rfl rfl) ?_
 refine aF ?_
 refine bQ ?_
 refine cG [0, 1] (fun (s1 : Int) => [(5, .d (.lit (.int .i64 s1)))]) (fun (s1 : Int) => []) (fun (k : Nat) (s1 : Int) => fZ players_0 l_1 k s1) (fun _ => rfl) (0) h (aX [] rfl rfl (aM rfl (aV ⟨rfl, rfl, trivial⟩))) ?_
 rintro k2 i_0_1 h
 simp only [fZ] at h
 refine aG ?_
 refine aG ?_
 refine aE ?_
 refine tr1 rfl (aC (v := .d (.lit (.int .i64 i_0_1))) (aA rfl) rfl rfl) ?_
 refine tr1 rfl (aC (v := .d (.sl 3 (l_1.map aK))) (aA rfl) rfl rfl) ?_
 refine tr1 rfl (cX (aA rfl) rfl eY.of) ?_
 refine tr1 rfl (bC (aA rfl) rfl rfl rfl) ?_
 refine aF ?_
 refine bJ rfl (fun c3 => ?_) (fun c3 => ?_)
 ·have h := aT c3 h
  refine bG ?_
  refine aG ?_
  refine bQ ?_
  refine aG ?_
  obtain ⟨x4, h5, h⟩ := bind_some h
  obtain ⟨r6, h7, h⟩ := bind_some h
  obtain ⟨b8, h9, h⟩ := bind_some h
  obtain ⟨b13, h14, h⟩ := bind_some h
  obtain ⟨b20, h21, h⟩ := bind_some h
  refine fN mix 38 [0, 1, 5] [(49, .d (.lit (.bool b20)))] ?_ ?_
  ·refine bF (!r6) (fun c10 => ?_) (fun c10 => ?_)
   ·have h9 := aT c10 h9
    have h9 := Option.some.inj h9
    subst h9
    have c15 : true = true := rfl
    have h14 := aT c15 h14
    have h14 := Option.some.inj h14
    subst h14
    have c22 : true = true := rfl
    have h21 := aT c22 h21
    have h21 := Option.some.inj h21
    subst h21
    refine ⟨[(12, 0, .d (.sl 3 (l_1.map aK))), (13, 1, .d (.lit (.int .i64 i_0_1))), (14, 2, .cp [.lit (.int .i64 x4.Player), .lit (.int .i64 x4.From), .lit (.int .i64 x4.To)]), (15, 3, .cp [.lit (.int .i64 x4.Player)]), (16, 4, .d (.lit (.int .i64 x4.Player))), (17, 5, .d (.lit (.int .i64 players_0))), (18, 6, .d (.lit (.int .i64 ((w64 (players_0 - 1)))))), (19, 7, .d (.lit (.bool r6))), (20, 8, .d (.lit (.bool (!r6)))), (21, 9, .d (.lit (.bool (!r6)))), (22, 10, .tup []), (23, 11, .tup []), (24, 12, .tup []), (25, 13, .tup []), (26, 14, .tup []), (27, 15, .tup []), (28, 16, .d (.lit (.bool true))), (29, 17, .d (.lit (.bool (true)))), (30, 18, .tup []), (31, 19, .tup []), (32, 20, .tup []), (33, 21, .tup []), (34, 22, .tup []), (35, 23, .tup []), (36, 24, .tup []), (37, 25, .tup []), (38, 26, .tup []), (39, 27, .tup []), (40, 28, .tup []), (41, 29, .d (.lit (.bool true))), (42, 30, .d (.lit (.bool (true)))), (43, 31, .tup []), (44, 32, .tup []), (45, 33, .tup []), (46, 34, .tup []), (47, 35, .tup []), (48, 36, .tup []), (49, 37, .d (.lit (.bool true)))], ?_, ?_⟩
    · exact ⟨by kernel_rfl, by kernel_rfl, by kernel_rfl, by kernel_rfl, by kernel_rfl, [([], []), ([], []), ([0, 1], []), ([2], []), ([3], []), ([], []), ([5], []), ([4, 6], []), ([7], []), ([8], []), ([9], []), ([9], []), ([9, 10, 11], []), ([9, 12], []), ([9, 13], []), ([9, 14], []), ([9, 15], []), ([16], []), ([17], []), ([17], []), ([17, 18, 19], []), ([17, 20], []), ([17, 21], []), ([17], []), ([17], []), ([17, 23, 24], []), ([17, 25], []), ([17, 26], []), ([17, 22, 27], []), ([17, 28], []), ([29], []), ([30], []), ([30], []), ([30, 31, 32], []), ([30, 33], []), ([30, 34], []), ([30, 35], []), ([30, 36], [])], by kernel_rfl, ⟨fun S hS => aI rfl (aQ rfl (aC (v := .d (.sl 3 (l_1.map aK))) (aA rfl) (aH hS rfl) rfl)),
      fun S hS => aI rfl (aQ rfl (aC (v := .d (.lit (.int .i64 i_0_1))) (aA rfl) (aH hS rfl) rfl)),
      fun S hS => aI rfl (aQ rfl (bO (aA rfl) (aH hS rfl) (aH hS rfl) eY.of (bI aK h5))),
      fun S hS => aI rfl (aQ rfl (bZ (aA rfl) (aH hS rfl) lJ (es := [.lit (.int .i64 x4.Player)]) rfl)),
      fun S hS => aI rfl (aQ rfl (bX (aA rfl) (aH hS rfl) bH)),
      fun S hS => aI rfl (aQ rfl (aC (v := .d (.lit (.int .i64 players_0))) (aA rfl) (aH hS rfl) rfl)),
      fun S hS => aI rfl (aQ rfl (aZ (aA rfl) (aH hS rfl) rfl rfl)),
      fun S hS => aI rfl (aQ rfl (cC (aA rfl) (.func _ _ Try.call58) (ev2 (aH hS rfl) (ev2 rfl (ev2 (aH hS rfl) evn))) rfl (BVs.refl _ _) (dT _ _ _ h7) rfl)),
      fun S hS => aI rfl (aQ rfl (eM (aA rfl) (aH hS rfl))),
      fun S hS => aI rfl (aQ rfl (aC (v := .d (.lit (.bool (!r6)))) (aA rfl) (aH hS rfl) rfl)),
      fun S hS => aI rfl (bD rfl rfl (aA rfl) rfl (aA rfl) (aP hS rfl) c10),
      fun S hS => aI rfl (bD rfl rfl (aA rfl) rfl (aA rfl) (aP hS rfl) c10),
      fun S hS => aI rfl (bD rfl rfl (aA rfl) rfl (aA rfl) (aP hS rfl) c10),
      fun S hS => aI rfl (bD rfl rfl (aA rfl) rfl (aA rfl) (aP hS rfl) c10),
      fun S hS => aI rfl (bD rfl rfl (aA rfl) rfl (aA rfl) (aP hS rfl) c10),
      fun S hS => aI rfl (bD rfl rfl (aA rfl) rfl (aA rfl) (aP hS rfl) c10),
      fun S hS => aI rfl (aQ rfl (bN (v := .d (.lit (.bool true))) (aA rfl) (aH hS rfl) c10 rfl rfl)),
      fun S hS => aI rfl (aQ rfl (aC (v := .d (.lit (.bool (true)))) (aA rfl) (aH hS rfl) rfl)),
      fun S hS => aI rfl (bD rfl rfl (aA rfl) rfl (aA rfl) (aP hS rfl) c15),
      fun S hS => aI rfl (bD rfl rfl (aA rfl) rfl (aA rfl) (aP hS rfl) c15),
      fun S hS => aI rfl (bD rfl rfl (aA rfl) rfl (aA rfl) (aP hS rfl) c15),
      fun S hS => aI rfl (bD rfl rfl (aA rfl) rfl (aA rfl) (aP hS rfl) c15),
      fun S hS => aI rfl (bD rfl rfl (aA rfl) rfl (aA rfl) (aP hS rfl) c15),
      fun S hS => aI rfl (bD rfl rfl (aA rfl) rfl (aA rfl) (aP hS rfl) c15),
      fun S hS => aI rfl (bD rfl rfl (aA rfl) rfl (aA rfl) (aP hS rfl) c15),
      fun S hS => aI rfl (bD rfl rfl (aA rfl) rfl (aA rfl) (aP hS rfl) c15),
      fun S hS => aI rfl (bD rfl rfl (aA rfl) rfl (aA rfl) (aP hS rfl) c15),
      fun S hS => aI rfl (bD rfl rfl (aA rfl) rfl (aA rfl) (aP hS rfl) c15),
      fun S hS => aI rfl (bD rfl rfl (aA rfl) rfl (aA rfl) (aP hS rfl) c15),
      fun S hS => aI rfl (aQ rfl (bN (v := .d (.lit (.bool true))) (aA rfl) (aH hS rfl) c15 rfl rfl)),
      fun S hS => aI rfl (aQ rfl (aC (v := .d (.lit (.bool (true)))) (aA rfl) (aH hS rfl) rfl)),
      fun S hS => aI rfl (bD rfl rfl (aA rfl) rfl (aA rfl) (aP hS rfl) c22),
      fun S hS => aI rfl (bD rfl rfl (aA rfl) rfl (aA rfl) (aP hS rfl) c22),
      fun S hS => aI rfl (bD rfl rfl (aA rfl) rfl (aA rfl) (aP hS rfl) c22),
      fun S hS => aI rfl (bD rfl rfl (aA rfl) rfl (aA rfl) (aP hS rfl) c22),
      fun S hS => aI rfl (bD rfl rfl (aA rfl) rfl (aA rfl) (aP hS rfl) c22),
      fun S hS => aI rfl (bD rfl rfl (aA rfl) rfl (aA rfl) (aP hS rfl) c22),
      fun S hS => aI rfl (aQ rfl (bN (v := .d (.lit (.bool true))) (aA rfl) (aH hS rfl) c22 rfl rfl)), trivial⟩⟩
    · exact dI (aM rfl (aV ⟨rfl, rfl, rfl, trivial⟩))
   ·have h9 := aS c10 h9
    obtain ⟨x11, h12, h9⟩ := bind_some h9
    have h9 := Option.some.inj h9
    subst h9
    refine bF (decide (x11.From < 0)) (fun c15 => ?_) (fun c15 => ?_)
    ·have h14 := aT c15 h14
     have h14 := Option.some.inj h14
     subst h14
     have c22 : true = true := rfl
     have h21 := aT c22 h21
     have h21 := Option.some.inj h21
     subst h21
     refine ⟨[(12, 0, .d (.sl 3 (l_1.map aK))), (13, 1, .d (.lit (.int .i64 i_0_1))), (14, 2, .cp [.lit (.int .i64 x4.Player), .lit (.int .i64 x4.From), .lit (.int .i64 x4.To)]), (15, 3, .cp [.lit (.int .i64 x4.Player)]), (16, 4, .d (.lit (.int .i64 x4.Player))), (17, 5, .d (.lit (.int .i64 players_0))), (18, 6, .d (.lit (.int .i64 ((w64 (players_0 - 1)))))), (19, 7, .d (.lit (.bool r6))), (20, 8, .d (.lit (.bool (!r6)))), (21, 9, .d (.lit (.bool (!r6)))), (22, 10, .d (.sl 3 (l_1.map aK))), (23, 11, .d (.lit (.int .i64 i_0_1))), (24, 12, .cp [.lit (.int .i64 x11.Player), .lit (.int .i64 x11.From), .lit (.int .i64 x11.To)]), (25, 13, .cp [.lit (.int .i64 x11.From)]), (26, 14, .d (.lit (.int .i64 x11.From))), (27, 15, .d (.lit (.bool ((decide (x11.From < 0)))))), (28, 16, .d (.lit (.bool ((decide (x11.From < 0)))))), (29, 17, .d (.lit (.bool (decide (x11.From < 0))))), (30, 18, .tup []), (31, 19, .tup []), (32, 20, .tup []), (33, 21, .tup []), (34, 22, .tup []), (35, 23, .tup []), (36, 24, .tup []), (37, 25, .tup []), (38, 26, .tup []), (39, 27, .tup []), (40, 28, .tup []), (41, 29, .d (.lit (.bool true))), (42, 30, .d (.lit (.bool (true)))), (43, 31, .tup []), (44, 32, .tup []), (45, 33, .tup []), (46, 34, .tup []), (47, 35, .tup []), (48, 36, .tup []), (49, 37, .d (.lit (.bool true)))], ?_, ?_⟩
     · exact ⟨by kernel_rfl, by kernel_rfl, by kernel_rfl, by kernel_rfl, by kernel_rfl, [([], []), ([], []), ([0, 1], []), ([2], []), ([3], []), ([], []), ([5], []), ([4, 6], []), ([7], []), ([8], []), ([9], []), ([9], []), ([9, 10, 11], []), ([9, 12], []), ([9, 13], []), ([9, 14], []), ([9, 15], []), ([16], []), ([17], []), ([17], []), ([17, 18, 19], []), ([17, 20], []), ([17, 21], []), ([17], []), ([17], []), ([17, 23, 24], []), ([17, 25], []), ([17, 26], []), ([17, 22, 27], []), ([17, 28], []), ([29], []), ([30], []), ([30], []), ([30, 31, 32], []), ([30, 33], []), ([30, 34], []), ([30, 35], []), ([30, 36], [])], by kernel_rfl, ⟨fun S hS => aI rfl (aQ rfl (aC (v := .d (.sl 3 (l_1.map aK))) (aA rfl) (aH hS rfl) rfl)),
      fun S hS => aI rfl (aQ rfl (aC (v := .d (.lit (.int .i64 i_0_1))) (aA rfl) (aH hS rfl) rfl)),
      fun S hS => aI rfl (aQ rfl (bO (aA rfl) (aH hS rfl) (aH hS rfl) eY.of (bI aK h5))),
      fun S hS => aI rfl (aQ rfl (bZ (aA rfl) (aH hS rfl) lJ (es := [.lit (.int .i64 x4.Player)]) rfl)),
      fun S hS => aI rfl (aQ rfl (bX (aA rfl) (aH hS rfl) bH)),
      fun S hS => aI rfl (aQ rfl (aC (v := .d (.lit (.int .i64 players_0))) (aA rfl) (aH hS rfl) rfl)),
      fun S hS => aI rfl (aQ rfl (aZ (aA rfl) (aH hS rfl) rfl rfl)),
      fun S hS => aI rfl (aQ rfl (cC (aA rfl) (.func _ _ Try.call58) (ev2 (aH hS rfl) (ev2 rfl (ev2 (aH hS rfl) evn))) rfl (BVs.refl _ _) (dT _ _ _ h7) rfl)),
      fun S hS => aI rfl (aQ rfl (eM (aA rfl) (aH hS rfl))),
      fun S hS => aI rfl (aQ rfl (aC (v := .d (.lit (.bool (!r6)))) (aA rfl) (aH hS rfl) rfl)),
      fun S hS => aI rfl (aY rfl rfl (aA rfl) (aP hS rfl) c10 (aC (v := .d (.sl 3 (l_1.map aK))) (aA rfl) (aH hS rfl) rfl)),
      fun S hS => aI rfl (aY rfl rfl (aA rfl) (aP hS rfl) c10 (aC (v := .d (.lit (.int .i64 i_0_1))) (aA rfl) (aH hS rfl) rfl)),
      fun S hS => aI rfl (aY rfl rfl (aA rfl) (aP hS rfl) c10 (bO (aA rfl) (aH hS rfl) (aH hS rfl) eY.of (bI aK h12))),
      fun S hS => aI rfl (aY rfl rfl (aA rfl) (aP hS rfl) c10 (bZ (aA rfl) (aH hS rfl) kI (es := [.lit (.int .i64 x11.From)]) rfl)),
      fun S hS => aI rfl (aY rfl rfl (aA rfl) (aP hS rfl) c10 (bX (aA rfl) (aH hS rfl) bH)),
      fun S hS => aI rfl (aY rfl rfl (aA rfl) (aP hS rfl) c10 (bC (aA rfl) (aH hS rfl) rfl rfl)),
      fun S hS => aI rfl (aQ rfl (bP (v := .d (.lit (.bool ((decide (x11.From < 0)))))) (aA rfl) (aH hS rfl) c10 (aH hS rfl) rfl)),
      fun S hS => aI rfl (aQ rfl (aC (v := .d (.lit (.bool (decide (x11.From < 0))))) (aA rfl) (aH hS rfl) rfl)),
      fun S hS => aI rfl (bD rfl rfl (aA rfl) rfl (aA rfl) (aP hS rfl) c15),
      fun S hS => aI rfl (bD rfl rfl (aA rfl) rfl (aA rfl) (aP hS rfl) c15),
      fun S hS => aI rfl (bD rfl rfl (aA rfl) rfl (aA rfl) (aP hS rfl) c15),
      fun S hS => aI rfl (bD rfl rfl (aA rfl) rfl (aA rfl) (aP hS rfl) c15),
      fun S hS => aI rfl (bD rfl rfl (aA rfl) rfl (aA rfl) (aP hS rfl) c15),
      fun S hS => aI rfl (bD rfl rfl (aA rfl) rfl (aA rfl) (aP hS rfl) c15),
      fun S hS => aI rfl (bD rfl rfl (aA rfl) rfl (aA rfl) (aP hS rfl) c15),
      fun S hS => aI rfl (bD rfl rfl (aA rfl) rfl (aA rfl) (aP hS rfl) c15),
      fun S hS => aI rfl (bD rfl rfl (aA rfl) rfl (aA rfl) (aP hS rfl) c15),
      fun S hS => aI rfl (bD rfl rfl (aA rfl) rfl (aA rfl) (aP hS rfl) c15),
      fun S hS => aI rfl (bD rfl rfl (aA rfl) rfl (aA rfl) (aP hS rfl) c15),
      fun S hS => aI rfl (aQ rfl (bN (v := .d (.lit (.bool true))) (aA rfl) (aH hS rfl) c15 rfl rfl)),
      fun S hS => aI rfl (aQ rfl (aC (v := .d (.lit (.bool (true)))) (aA rfl) (aH hS rfl) rfl)),
      fun S hS => aI rfl (bD rfl rfl (aA rfl) rfl (aA rfl) (aP hS rfl) c22),
      fun S hS => aI rfl (bD rfl rfl (aA rfl) rfl (aA rfl) (aP hS rfl) c22),
      fun S hS => aI rfl (bD rfl rfl (aA rfl) rfl (aA rfl) (aP hS rfl) c22),
      fun S hS => aI rfl (bD rfl rfl (aA rfl) rfl (aA rfl) (aP hS rfl) c22),
      fun S hS => aI rfl (bD rfl rfl (aA rfl) rfl (aA rfl) (aP hS rfl) c22),
      fun S hS => aI rfl (bD rfl rfl (aA rfl) rfl (aA rfl) (aP hS rfl) c22),
      fun S hS => aI rfl (aQ rfl (bN (v := .d (.lit (.bool true))) (aA rfl) (aH hS rfl) c22 rfl rfl)), trivial⟩⟩
     · exact dI (aM rfl (aV ⟨rfl, rfl, rfl, trivial⟩))
    ·have h14 := aS c15 h14
     obtain ⟨x16, h17, h14⟩ := bind_some h14
     obtain ⟨x18, h19, h14⟩ := bind_some h14
     have h14 := Option.some.inj h14
     subst h14
     refine bF (decide (x18.To < x16.From)) (fun c22 => ?_) (fun c22 => ?_)
     ·have h21 := aT c22 h21
      have h21 := Option.some.inj h21
      subst h21
      refine ⟨[(12, 0, .d (.sl 3 (l_1.map aK))), (13, 1, .d (.lit (.int .i64 i_0_1))), (14, 2, .cp [.lit (.int .i64 x4.Player), .lit (.int .i64 x4.From), .lit (.int .i64 x4.To)]), (15, 3, .cp [.lit (.int .i64 x4.Player)]), (16, 4, .d (.lit (.int .i64 x4.Player))), (17, 5, .d (.lit (.int .i64 players_0))), (18, 6, .d (.lit (.int .i64 ((w64 (players_0 - 1)))))), (19, 7, .d (.lit (.bool r6))), (20, 8, .d (.lit (.bool (!r6)))), (21, 9, .d (.lit (.bool (!r6)))), (22, 10, .d (.sl 3 (l_1.map aK))), (23, 11, .d (.lit (.int .i64 i_0_1))), (24, 12, .cp [.lit (.int .i64 x11.Player), .lit (.int .i64 x11.From), .lit (.int .i64 x11.To)]), (25, 13, .cp [.lit (.int .i64 x11.From)]), (26, 14, .d (.lit (.int .i64 x11.From))), (27, 15, .d (.lit (.bool ((decide (x11.From < 0)))))), (28, 16, .d (.lit (.bool ((decide (x11.From < 0)))))), (29, 17, .d (.lit (.bool (decide (x11.From < 0))))), (30, 18, .d (.sl 3 (l_1.map aK))), (31, 19, .d (.lit (.int .i64 i_0_1))), (32, 20, .cp [.lit (.int .i64 x16.Player), .lit (.int .i64 x16.From), .lit (.int .i64 x16.To)]), (33, 21, .cp [.lit (.int .i64 x16.From)]), (34, 22, .d (.lit (.int .i64 x16.From))), (35, 23, .d (.sl 3 (l_1.map aK))), (36, 24, .d (.lit (.int .i64 i_0_1))), (37, 25, .cp [.lit (.int .i64 x18.Player), .lit (.int .i64 x18.From), .lit (.int .i64 x18.To)]), (38, 26, .cp [.lit (.int .i64 x18.To)]), (39, 27, .d (.lit (.int .i64 x18.To))), (40, 28, .d (.lit (.bool ((decide (x18.To < x16.From)))))), (41, 29, .d (.lit (.bool ((decide (x18.To < x16.From)))))), (42, 30, .d (.lit (.bool (decide (x18.To < x16.From))))), (43, 31, .tup []), (44, 32, .tup []), (45, 33, .tup []), (46, 34, .tup []), (47, 35, .tup []), (48, 36, .tup []), (49, 37, .d (.lit (.bool true)))], ?_, ?_⟩
      · exact ⟨by kernel_rfl, by kernel_rfl, by kernel_rfl, by kernel_rfl, by kernel_rfl, [([], []), ([], []), ([0, 1], []), ([2], []), ([3], []), ([], []), ([5], []), ([4, 6], []), ([7], []), ([8], []), ([9], []), ([9], []), ([9, 10, 11], []), ([9, 12], []), ([9, 13], []), ([9, 14], []), ([9, 15], []), ([16], []), ([17], []), ([17], []), ([17, 18, 19], []), ([17, 20], []), ([17, 21], []), ([17], []), ([17], []), ([17, 23, 24], []), ([17, 25], []), ([17, 26], []), ([17, 22, 27], []), ([17, 28], []), ([29], []), ([30], []), ([30], []), ([30, 31, 32], []), ([30, 33], []), ([30, 34], []), ([30, 35], []), ([30, 36], [])], by kernel_rfl, ⟨fun S hS => aI rfl (aQ rfl (aC (v := .d (.sl 3 (l_1.map aK))) (aA rfl) (aH hS rfl) rfl)),
      fun S hS => aI rfl (aQ rfl (aC (v := .d (.lit (.int .i64 i_0_1))) (aA rfl) (aH hS rfl) rfl)),
      fun S hS => aI rfl (aQ rfl (bO (aA rfl) (aH hS rfl) (aH hS rfl) eY.of (bI aK h5))),
      fun S hS => aI rfl (aQ rfl (bZ (aA rfl) (aH hS rfl) lJ (es := [.lit (.int .i64 x4.Player)]) rfl)),
      fun S hS => aI rfl (aQ rfl (bX (aA rfl) (aH hS rfl) bH)),
      fun S hS => aI rfl (aQ rfl (aC (v := .d (.lit (.int .i64 players_0))) (aA rfl) (aH hS rfl) rfl)),
      fun S hS => aI rfl (aQ rfl (aZ (aA rfl) (aH hS rfl) rfl rfl)),
      fun S hS => aI rfl (aQ rfl (cC (aA rfl) (.func _ _ Try.call58) (ev2 (aH hS rfl) (ev2 rfl (ev2 (aH hS rfl) evn))) rfl (BVs.refl _ _) (dT _ _ _ h7) rfl)),
      fun S hS => aI rfl (aQ rfl (eM (aA rfl) (aH hS rfl))),
      fun S hS => aI rfl (aQ rfl (aC (v := .d (.lit (.bool (!r6)))) (aA rfl) (aH hS rfl) rfl)),
      fun S hS => aI rfl (aY rfl rfl (aA rfl) (aP hS rfl) c10 (aC (v := .d (.sl 3 (l_1.map aK))) (aA rfl) (aH hS rfl) rfl)),
      fun S hS => aI rfl (aY rfl rfl (aA rfl) (aP hS rfl) c10 (aC (v := .d (.lit (.int .i64 i_0_1))) (aA rfl) (aH hS rfl) rfl)),
      fun S hS => aI rfl (aY rfl rfl (aA rfl) (aP hS rfl) c10 (bO (aA rfl) (aH hS rfl) (aH hS rfl) eY.of (bI aK h12))),
      fun S hS => aI rfl (aY rfl rfl (aA rfl) (aP hS rfl) c10 (bZ (aA rfl) (aH hS rfl) kI (es := [.lit (.int .i64 x11.From)]) rfl)),
      fun S hS => aI rfl (aY rfl rfl (aA rfl) (aP hS rfl) c10 (bX (aA rfl) (aH hS rfl) bH)),
      fun S hS => aI rfl (aY rfl rfl (aA rfl) (aP hS rfl) c10 (bC (aA rfl) (aH hS rfl) rfl rfl)),
      fun S hS => aI rfl (aQ rfl (bP (v := .d (.lit (.bool ((decide (x11.From < 0)))))) (aA rfl) (aH hS rfl) c10 (aH hS rfl) rfl)),
      fun S hS => aI rfl (aQ rfl (aC (v := .d (.lit (.bool (decide (x11.From < 0))))) (aA rfl) (aH hS rfl) rfl)),
      fun S hS => aI rfl (aY rfl rfl (aA rfl) (aP hS rfl) c15 (aC (v := .d (.sl 3 (l_1.map aK))) (aA rfl) (aH hS rfl) rfl)),
      fun S hS => aI rfl (aY rfl rfl (aA rfl) (aP hS rfl) c15 (aC (v := .d (.lit (.int .i64 i_0_1))) (aA rfl) (aH hS rfl) rfl)),
      fun S hS => aI rfl (aY rfl rfl (aA rfl) (aP hS rfl) c15 (bO (aA rfl) (aH hS rfl) (aH hS rfl) eY.of (bI aK h17))),
      fun S hS => aI rfl (aY rfl rfl (aA rfl) (aP hS rfl) c15 (bZ (aA rfl) (aH hS rfl) kI (es := [.lit (.int .i64 x16.From)]) rfl)),
      fun S hS => aI rfl (aY rfl rfl (aA rfl) (aP hS rfl) c15 (bX (aA rfl) (aH hS rfl) bH)),
      fun S hS => aI rfl (aY rfl rfl (aA rfl) (aP hS rfl) c15 (aC (v := .d (.sl 3 (l_1.map aK))) (aA rfl) (aH hS rfl) rfl)),
      fun S hS => aI rfl (aY rfl rfl (aA rfl) (aP hS rfl) c15 (aC (v := .d (.lit (.int .i64 i_0_1))) (aA rfl) (aH hS rfl) rfl)),
      fun S hS => aI rfl (aY rfl rfl (aA rfl) (aP hS rfl) c15 (bO (aA rfl) (aH hS rfl) (aH hS rfl) eY.of (bI aK h19))),
      fun S hS => aI rfl (aY rfl rfl (aA rfl) (aP hS rfl) c15 (bZ (aA rfl) (aH hS rfl) mI (es := [.lit (.int .i64 x18.To)]) rfl)),
      fun S hS => aI rfl (aY rfl rfl (aA rfl) (aP hS rfl) c15 (bX (aA rfl) (aH hS rfl) bH)),
      fun S hS => aI rfl (aY rfl rfl (aA rfl) (aP hS rfl) c15 (bC (aA rfl) (aH hS rfl) (aH hS rfl) rfl)),
      fun S hS => aI rfl (aQ rfl (bP (v := .d (.lit (.bool ((decide (x18.To < x16.From)))))) (aA rfl) (aH hS rfl) c15 (aH hS rfl) rfl)),
      fun S hS => aI rfl (aQ rfl (aC (v := .d (.lit (.bool (decide (x18.To < x16.From))))) (aA rfl) (aH hS rfl) rfl)),
      fun S hS => aI rfl (bD rfl rfl (aA rfl) rfl (aA rfl) (aP hS rfl) c22),
      fun S hS => aI rfl (bD rfl rfl (aA rfl) rfl (aA rfl) (aP hS rfl) c22),
      fun S hS => aI rfl (bD rfl rfl (aA rfl) rfl (aA rfl) (aP hS rfl) c22),
      fun S hS => aI rfl (bD rfl rfl (aA rfl) rfl (aA rfl) (aP hS rfl) c22),
      fun S hS => aI rfl (bD rfl rfl (aA rfl) rfl (aA rfl) (aP hS rfl) c22),
      fun S hS => aI rfl (bD rfl rfl (aA rfl) rfl (aA rfl) (aP hS rfl) c22),
      fun S hS => aI rfl (aQ rfl (bN (v := .d (.lit (.bool true))) (aA rfl) (aH hS rfl) c22 rfl rfl)), trivial⟩⟩
      · exact dI (aM rfl (aV ⟨rfl, rfl, rfl, trivial⟩))
     ·have h21 := aS c22 h21
      obtain ⟨x23, h24, h21⟩ := bind_some h21
      have h21 := Option.some.inj h21
      subst h21
      refine ⟨[(12, 0, .d (.sl 3 (l_1.map aK))), (13, 1, .d (.lit (.int .i64 i_0_1))), (14, 2, .cp [.lit (.int .i64 x4.Player), .lit (.int .i64 x4.From), .lit (.int .i64 x4.To)]), (15, 3, .cp [.lit (.int .i64 x4.Player)]), (16, 4, .d (.lit (.int .i64 x4.Player))), (17, 5, .d (.lit (.int .i64 players_0))), (18, 6, .d (.lit (.int .i64 ((w64 (players_0 - 1)))))), (19, 7, .d (.lit (.bool r6))), (20, 8, .d (.lit (.bool (!r6)))), (21, 9, .d (.lit (.bool (!r6)))), (22, 10, .d (.sl 3 (l_1.map aK))), (23, 11, .d (.lit (.int .i64 i_0_1))), (24, 12, .cp [.lit (.int .i64 x11.Player), .lit (.int .i64 x11.From), .lit (.int .i64 x11.To)]), (25, 13, .cp [.lit (.int .i64 x11.From)]), (26, 14, .d (.lit (.int .i64 x11.From))), (27, 15, .d (.lit (.bool ((decide (x11.From < 0)))))), (28, 16, .d (.lit (.bool ((decide (x11.From < 0)))))), (29, 17, .d (.lit (.bool (decide (x11.From < 0))))), (30, 18, .d (.sl 3 (l_1.map aK))), (31, 19, .d (.lit (.int .i64 i_0_1))), (32, 20, .cp [.lit (.int .i64 x16.Player), .lit (.int .i64 x16.From), .lit (.int .i64 x16.To)]), (33, 21, .cp [.lit (.int .i64 x16.From)]), (34, 22, .d (.lit (.int .i64 x16.From))), (35, 23, .d (.sl 3 (l_1.map aK))), (36, 24, .d (.lit (.int .i64 i_0_1))), (37, 25, .cp [.lit (.int .i64 x18.Player), .lit (.int .i64 x18.From), .lit (.int .i64 x18.To)]), (38, 26, .cp [.lit (.int .i64 x18.To)]), (39, 27, .d (.lit (.int .i64 x18.To))), (40, 28, .d (.lit (.bool ((decide (x18.To < x16.From)))))), (41, 29, .d (.lit (.bool ((decide (x18.To < x16.From)))))), (42, 30, .d (.lit (.bool (decide (x18.To < x16.From))))), (43, 31, .d (.sl 3 (l_1.map aK))), (44, 32, .d (.lit (.int .i64 i_0_1))), (45, 33, .cp [.lit (.int .i64 x23.Player), .lit (.int .i64 x23.From), .lit (.int .i64 x23.To)]), (46, 34, .cp [.lit (.int .i64 x23.To)]), (47, 35, .d (.lit (.int .i64 x23.To))), (48, 36, .d (.lit (.bool ((decide (400 < x23.To)))))), (49, 37, .d (.lit (.bool ((decide (400 < x23.To))))))], ?_, ?_⟩
      · exact ⟨by kernel_rfl, by kernel_rfl, by kernel_rfl, by kernel_rfl, by kernel_rfl, [([], []), ([], []), ([0, 1], []), ([2], []), ([3], []), ([], []), ([5], []), ([4, 6], []), ([7], []), ([8], []), ([9], []), ([9], []), ([9, 10, 11], []), ([9, 12], []), ([9, 13], []), ([9, 14], []), ([9, 15], []), ([16], []), ([17], []), ([17], []), ([17, 18, 19], []), ([17, 20], []), ([17, 21], []), ([17], []), ([17], []), ([17, 23, 24], []), ([17, 25], []), ([17, 26], []), ([17, 22, 27], []), ([17, 28], []), ([29], []), ([30], []), ([30], []), ([30, 31, 32], []), ([30, 33], []), ([30, 34], []), ([30, 35], []), ([30, 36], [])], by kernel_rfl, ⟨fun S hS => aI rfl (aQ rfl (aC (v := .d (.sl 3 (l_1.map aK))) (aA rfl) (aH hS rfl) rfl)),
      fun S hS => aI rfl (aQ rfl (aC (v := .d (.lit (.int .i64 i_0_1))) (aA rfl) (aH hS rfl) rfl)),
      fun S hS => aI rfl (aQ rfl (bO (aA rfl) (aH hS rfl) (aH hS rfl) eY.of (bI aK h5))),
      fun S hS => aI rfl (aQ rfl (bZ (aA rfl) (aH hS rfl) lJ (es := [.lit (.int .i64 x4.Player)]) rfl)),
      fun S hS => aI rfl (aQ rfl (bX (aA rfl) (aH hS rfl) bH)),
      fun S hS => aI rfl (aQ rfl (aC (v := .d (.lit (.int .i64 players_0))) (aA rfl) (aH hS rfl) rfl)),
      fun S hS => aI rfl (aQ rfl (aZ (aA rfl) (aH hS rfl) rfl rfl)),
      fun S hS => aI rfl (aQ rfl (cC (aA rfl) (.func _ _ Try.call58) (ev2 (aH hS rfl) (ev2 rfl (ev2 (aH hS rfl) evn))) rfl (BVs.refl _ _) (dT _ _ _ h7) rfl)),
      fun S hS => aI rfl (aQ rfl (eM (aA rfl) (aH hS rfl))),
      fun S hS => aI rfl (aQ rfl (aC (v := .d (.lit (.bool (!r6)))) (aA rfl) (aH hS rfl) rfl)),
      fun S hS => aI rfl (aY rfl rfl (aA rfl) (aP hS rfl) c10 (aC (v := .d (.sl 3 (l_1.map aK))) (aA rfl) (aH hS rfl) rfl)),
      fun S hS => aI rfl (aY rfl rfl (aA rfl) (aP hS rfl) c10 (aC (v := .d (.lit (.int .i64 i_0_1))) (aA rfl) (aH hS rfl) rfl)),
      fun S hS => aI rfl (aY rfl rfl (aA rfl) (aP hS rfl) c10 (bO (aA rfl) (aH hS rfl) (aH hS rfl) eY.of (bI aK h12))),
      fun S hS => aI rfl (aY rfl rfl (aA rfl) (aP hS rfl) c10 (bZ (aA rfl) (aH hS rfl) kI (es := [.lit (.int .i64 x11.From)]) rfl)),
      fun S hS => aI rfl (aY rfl rfl (aA rfl) (aP hS rfl) c10 (bX (aA rfl) (aH hS rfl) bH)),
      fun S hS => aI rfl (aY rfl rfl (aA rfl) (aP hS rfl) c10 (bC (aA rfl) (aH hS rfl) rfl rfl)),
      fun S hS => aI rfl (aQ rfl (bP (v := .d (.lit (.bool ((decide (x11.From < 0)))))) (aA rfl) (aH hS rfl) c10 (aH hS rfl) rfl)),
      fun S hS => aI rfl (aQ rfl (aC (v := .d (.lit (.bool (decide (x11.From < 0))))) (aA rfl) (aH hS rfl) rfl)),
      fun S hS => aI rfl (aY rfl rfl (aA rfl) (aP hS rfl) c15 (aC (v := .d (.sl 3 (l_1.map aK))) (aA rfl) (aH hS rfl) rfl)),
      fun S hS => aI rfl (aY rfl rfl (aA rfl) (aP hS rfl) c15 (aC (v := .d (.lit (.int .i64 i_0_1))) (aA rfl) (aH hS rfl) rfl)),
      fun S hS => aI rfl (aY rfl rfl (aA rfl) (aP hS rfl) c15 (bO (aA rfl) (aH hS rfl) (aH hS rfl) eY.of (bI aK h17))),
      fun S hS => aI rfl (aY rfl rfl (aA rfl) (aP hS rfl) c15 (bZ (aA rfl) (aH hS rfl) kI (es := [.lit (.int .i64 x16.From)]) rfl)),
      fun S hS => aI rfl (aY rfl rfl (aA rfl) (aP hS rfl) c15 (bX (aA rfl) (aH hS rfl) bH)),
      fun S hS => aI rfl (aY rfl rfl (aA rfl) (aP hS rfl) c15 (aC (v := .d (.sl 3 (l_1.map aK))) (aA rfl) (aH hS rfl) rfl)),
      fun S hS => aI rfl (aY rfl rfl (aA rfl) (aP hS rfl) c15 (aC (v := .d (.lit (.int .i64 i_0_1))) (aA rfl) (aH hS rfl) rfl)),
      fun S hS => aI rfl (aY rfl rfl (aA rfl) (aP hS rfl) c15 (bO (aA rfl) (aH hS rfl) (aH hS rfl) eY.of (bI aK h19))),
      fun S hS => aI rfl (aY rfl rfl (aA rfl) (aP hS rfl) c15 (bZ (aA rfl) (aH hS rfl) mI (es := [.lit (.int .i64 x18.To)]) rfl)),
      fun S hS => aI rfl (aY rfl rfl (aA rfl) (aP hS rfl) c15 (bX (aA rfl) (aH hS rfl) bH)),
      fun S hS => aI rfl (aY rfl rfl (aA rfl) (aP hS rfl) c15 (bC (aA rfl) (aH hS rfl) (aH hS rfl) rfl)),
      fun S hS => aI rfl (aQ rfl (bP (v := .d (.lit (.bool ((decide (x18.To < x16.From)))))) (aA rfl) (aH hS rfl) c15 (aH hS rfl) rfl)),
      fun S hS => aI rfl (aQ rfl (aC (v := .d (.lit (.bool (decide (x18.To < x16.From))))) (aA rfl) (aH hS rfl) rfl)),
      fun S hS => aI rfl (aY rfl rfl (aA rfl) (aP hS rfl) c22 (aC (v := .d (.sl 3 (l_1.map aK))) (aA rfl) (aH hS rfl) rfl)),
      fun S hS => aI rfl (aY rfl rfl (aA rfl) (aP hS rfl) c22 (aC (v := .d (.lit (.int .i64 i_0_1))) (aA rfl) (aH hS rfl) rfl)),
      fun S hS => aI rfl (aY rfl rfl (aA rfl) (aP hS rfl) c22 (bO (aA rfl) (aH hS rfl) (aH hS rfl) eY.of (bI aK h24))),
      fun S hS => aI rfl (aY rfl rfl (aA rfl) (aP hS rfl) c22 (bZ (aA rfl) (aH hS rfl) mI (es := [.lit (.int .i64 x23.To)]) rfl)),
      fun S hS => aI rfl (aY rfl rfl (aA rfl) (aP hS rfl) c22 (bX (aA rfl) (aH hS rfl) bH)),
      fun S hS => aI rfl (aY rfl rfl (aA rfl) (aP hS rfl) c22 (bC (aA rfl) (aH hS rfl) rfl rfl)),
      fun S hS => aI rfl (aQ rfl (bP (v := .d (.lit (.bool ((decide (400 < x23.To)))))) (aA rfl) (aH hS rfl) c22 (aH hS rfl) rfl)), trivial⟩⟩
      · exact dI (aM rfl (aV ⟨rfl, rfl, rfl, trivial⟩))
  ·refine aF ?_
   refine bJ rfl (fun c25 => ?_) (fun c25 => ?_)
   ·have h := aT c25 h
    refine aG ?_
    refine aE ?_
    refine tr1 rfl (aJ (v := .d (.lit (.bool false))) (aA rfl) rfl rfl) ?_
    refine aF ?_
    have h := Option.some.inj h
    subst h
    exact bM ⟨rfl, _, .one _, rfl, rfl⟩
   ·have h := aS c25 h
    refine dS ?_
    refine aE ?_
    refine tr1 rfl (aC (v := .d (.lit (.int .i64 i_0_1))) (aA rfl) rfl rfl) ?_
    refine tr1 rfl (aZ (aA rfl) rfl rfl rfl) ?_
    refine tr1 rfl (aJ (v := .d (.lit (.int .i64 ((w64 (i_0_1 + 1)))))) (aA rfl) rfl rfl) ?_
    refine aF ?_
    exact ⟨(w64 (i_0_1 + 1)), h, aX [] rfl rfl (aM rfl (aV ⟨rfl, rfl, trivial⟩))⟩
 ·have h := aS c3 h
  refine cN ?_
  refine .inl ⟨rfl, ?_⟩
  simp only [nO] at h
  refine aG ?_
  refine aE ?_
  refine tr1 rfl (aC (v := .d (.sl 3 (l_1.map aK))) (aA rfl) rfl rfl) ?_
  refine tr1 rfl (cX (aA rfl) rfl eY.of) ?_
  refine tr1 rfl (bC (aA rfl) rfl rfl rfl) ?_
  refine tr1 rfl (aJ (v := .d (.lit (.bool ((decide ((l_1.length : Int) ≤ 8)))))) (aA rfl) rfl rfl) ?_
  refine aF ?_
  have h := Option.some.inj h
  subst h
  exact bM ⟨rfl, _, .one _, rfl, rfl⟩

theorem wL (players_0 : Int) (r_1 : aD) {r : Bool} (h : lC players_0 r_1 = some r) : Fn Try.prog 79 [.d (.lit (.int .i64 players_0)), .agg (aB r_1)] (.d (.lit (.bool r))) := by
 unfold lC at h
 refine Fn.of_tr Try.func79 rfl (rs := [.tmp 4]) Try.results79 Try.ntmps79 (Nat.le_of_ble_eq_true rfl) ?_
 refine aG ?_
 refine aE ?_
 refine bW rfl (eN (v := .agg (aB r_1)) (aA rfl) rfl rfl rfl) ?_
 rintro _ ⟨b1, rfl⟩
 refine tr1 rfl (aJ (v := .d (.lit (.bool false))) (aA rfl) rfl rfl) ?_
 refine aF ?_
 refine aG ?_
 refine aE ?_
 refine tr1 rfl (aU (aA rfl) rfl kA) ?_
 refine tr1 rfl (aW (aA rfl) rfl (i := 0) rfl rfl bH) ?_
 obtain ⟨r2, h3, h⟩ := bind_some h
 refine tr1 rfl (cC (aA rfl) (.func _ _ Try.call58) rfl rfl (BVs.refl _ _) (dT _ _ _ h3) rfl) ?_
 refine tr1 rfl (aC (v := .d (.lit (.bool r2))) (aA rfl) rfl rfl) ?_
 obtain ⟨b4, h5, h⟩ := bind_some h
 refine cA 6 [3] 14 b4 ?_ ?_
 ·refine bF (r2) (fun c16 => ?_) (fun c16 => ?_)
  ·have h5 := aT c16 h5
   refine aO rfl rfl (aA rfl) rfl c16 (aU (aA rfl) rfl pA) ?_
   refine aO rfl rfl (aA rfl) rfl c16 (aW (aA rfl) rfl (i := 0) rfl rfl bH) ?_
   refine aO rfl rfl (aA rfl) rfl c16 (aC (v := .d (.lit (.int .i64 players_0))) (aA rfl) rfl rfl) ?_
   refine aO rfl rfl (aA rfl) rfl c16 (aZ (aA rfl) rfl rfl rfl) ?_
   obtain ⟨r17, h18, h5⟩ := bind_some h5
   refine aO rfl rfl (aA rfl) rfl c16 (cC (aA rfl) (.func _ _ Try.call58) rfl rfl (BVs.refl _ _) (dT _ _ _ h18) rfl) ?_
   refine tr1 rfl (bN (v := .d (.lit (.bool r17))) (aA rfl) rfl c16 rfl rfl) ?_
   have h5 := Option.some.inj h5
   subst h5
   refine aF (bB rfl ⟨rfl, trivial⟩ rfl)
  ·have h5 := aS c16 h5
   refine aR rfl rfl (aA rfl) rfl (aA rfl) rfl c16 ?_
   refine aR rfl rfl (aA rfl) rfl (aA rfl) rfl c16 ?_
   refine aR rfl rfl (aA rfl) rfl (aA rfl) rfl c16 ?_
   refine aR rfl rfl (aA rfl) rfl (aA rfl) rfl c16 ?_
   refine aR rfl rfl (aA rfl) rfl (aA rfl) rfl c16 ?_
   refine tr1 rfl (bP (v := .d (.lit (.bool false))) (aA rfl) rfl c16 rfl rfl) ?_
   have h5 := Option.some.inj h5
   subst h5
   refine aF (bB rfl ⟨rfl, trivial⟩ rfl)
 ·refine tr1 rfl (aC (v := .d (.lit (.bool b4))) (aA rfl) rfl rfl) ?_
  obtain ⟨b6, h7, h⟩ := bind_some h
  refine cA 4 [3] 19 b6 ?_ ?_
  ·refine bF (b4) (fun c13 => ?_) (fun c13 => ?_)
   ·have h7 := aT c13 h7
    refine aO rfl rfl (aA rfl) rfl c13 (aU (aA rfl) rfl lI) ?_
    refine aO rfl rfl (aA rfl) rfl c13 (aW (aA rfl) rfl (i := 0) rfl rfl bH) ?_
    obtain ⟨r14, h15, h7⟩ := bind_some h7
    refine aO rfl rfl (aA rfl) rfl c13 (cC (aA rfl) (.func _ _ Try.call58) rfl rfl (BVs.refl _ _) (dT _ _ _ h15) rfl) ?_
    refine tr1 rfl (bN (v := .d (.lit (.bool r14))) (aA rfl) rfl c13 rfl rfl) ?_
    have h7 := Option.some.inj h7
    subst h7
    refine aF (bB rfl ⟨rfl, trivial⟩ rfl)
   ·have h7 := aS c13 h7
    refine aR rfl rfl (aA rfl) rfl (aA rfl) rfl c13 ?_
    refine aR rfl rfl (aA rfl) rfl (aA rfl) rfl c13 ?_
    refine aR rfl rfl (aA rfl) rfl (aA rfl) rfl c13 ?_
    refine tr1 rfl (bP (v := .d (.lit (.bool false))) (aA rfl) rfl c13 rfl rfl) ?_
    have h7 := Option.some.inj h7
    subst h7
    refine aF (bB rfl ⟨rfl, trivial⟩ rfl)
  ·refine tr1 rfl (aC (v := .d (.lit (.bool b6))) (aA rfl) rfl rfl) ?_
   obtain ⟨b8, h9, h⟩ := bind_some h
   refine cA 4 [] 24 b8 ?_ ?_
   ·refine bF (b6) (fun c10 => ?_) (fun c10 => ?_)
    ·have h9 := aT c10 h9
     refine aO rfl rfl (aA rfl) rfl c10 (aU (aA rfl) rfl iK) ?_
     refine aO rfl rfl (aA rfl) rfl c10 (aW (aA rfl) rfl (i := 0) rfl rfl bH) ?_
     obtain ⟨r11, h12, h9⟩ := bind_some h9
     refine aO rfl rfl (aA rfl) rfl c10 (cC (aA rfl) (.func _ _ Try.call58) rfl rfl (BVs.refl _ _) (dT _ _ _ h12) rfl) ?_
     refine tr1 rfl (bN (v := .d (.lit (.bool r11))) (aA rfl) rfl c10 rfl rfl) ?_
     have h9 := Option.some.inj h9
     subst h9
     refine aF (bB rfl trivial rfl)
    ·have h9 := aS c10 h9
     refine aR rfl rfl (aA rfl) rfl (aA rfl) rfl c10 ?_
     refine aR rfl rfl (aA rfl) rfl (aA rfl) rfl c10 ?_
     refine aR rfl rfl (aA rfl) rfl (aA rfl) rfl c10 ?_
     refine tr1 rfl (bP (v := .d (.lit (.bool false))) (aA rfl) rfl c10 rfl rfl) ?_
     have h9 := Option.some.inj h9
     subst h9
     refine aF (bB rfl trivial rfl)
   ·refine tr1 rfl (aJ (v := .d (.lit (.bool b8))) (aA rfl) rfl rfl) ?_
    refine aF ?_
    have h := Option.some.inj h
    subst h
    refine cR (cE (cM (l := [4]) ⟨rfl, trivial⟩)) ?_
    exact bM ⟨rfl, _, .one _, rfl, rfl⟩

theorem wK (l_0 : aL) {r : Bool} (h : lB l_0 = some r) : Fn Try.prog 41 [.agg (aN l_0)] (.d (.lit (.bool r))) := by
 unfold lB at h
 refine Fn.of_tr Try.func41 rfl (rs := [.tmp 2]) Try.results41 Try.ntmps41 (Nat.le_of_ble_eq_true rfl) ?_
 refine aG ?_
 refine aE ?_
 refine bW rfl (eN (v := .agg (aN l_0)) (aA rfl) rfl rfl rfl) ?_
 rintro _ ⟨b1, rfl⟩
 refine tr1 rfl (aJ (v := .d (.lit (.bool false))) (aA rfl) rfl rfl) ?_
 refine aF ?_
 refine aG ?_
 refine aG ?_
 refine aE ?_
 refine tr1 rfl (aU (aA rfl) rfl iJ) ?_
 refine tr1 rfl (aW (aA rfl) rfl (i := 0) rfl rfl bH) ?_
 obtain ⟨r2, h3, h⟩ := bind_some h
 refine tr1 rfl (cC (aA rfl) (.func _ _ Try.call58) rfl rfl (BVs.refl _ _) (dT _ _ _ h3) rfl) ?_
 refine tr1 rfl (eM (aA rfl) rfl) ?_
 refine tr1 rfl (aC (v := .d (.lit (.bool (!r2)))) (aA rfl) rfl rfl) ?_
 obtain ⟨b4, h5, h⟩ := bind_some h
 refine cA 5 [1] 17 b4 ?_ ?_
 ·refine bF (!r2) (fun c46 => ?_) (fun c46 => ?_)
  ·have h5 := aT c46 h5
   refine aR rfl rfl (aA rfl) rfl (aA rfl) rfl c46 ?_
   refine aR rfl rfl (aA rfl) rfl (aA rfl) rfl c46 ?_
   refine aR rfl rfl (aA rfl) rfl (aA rfl) rfl c46 ?_
   refine aR rfl rfl (aA rfl) rfl (aA rfl) rfl c46 ?_
   refine tr1 rfl (bN (v := .d (.lit (.bool true))) (aA rfl) rfl c46 rfl rfl) ?_
   have h5 := Option.some.inj h5
   subst h5
   refine aF (bB rfl ⟨rfl, trivial⟩ rfl)
  ·have h5 := aS c46 h5
   refine aO rfl rfl (aA rfl) rfl c46 (aU (aA rfl) rfl wZ) ?_
   refine aO rfl rfl (aA rfl) rfl c46 (aW (aA rfl) rfl (i := 0) rfl rfl bH) ?_
   obtain ⟨r47, h48, h5⟩ := bind_some h5
   refine aO rfl rfl (aA rfl) rfl c46 (cC (aA rfl) (.func _ _ Try.call58) rfl rfl (BVs.refl _ _) (dT _ _ _ h48) rfl) ?_
   refine aO rfl rfl (aA rfl) rfl c46 (eM (aA rfl) rfl) ?_
   refine tr1 rfl (bP (v := .d (.lit (.bool (!r47)))) (aA rfl) rfl c46 rfl rfl) ?_
   have h5 := Option.some.inj h5
   subst h5
   refine aF (bB rfl ⟨rfl, trivial⟩ rfl)
 ·refine tr1 rfl (aC (v := .d (.lit (.bool b4))) (aA rfl) rfl rfl) ?_
  obtain ⟨b6, h7, h⟩ := bind_some h
  refine cA 5 [1] 23 b6 ?_ ?_
  ·refine bF (b4) (fun c45 => ?_) (fun c45 => ?_)
   ·have h7 := aT c45 h7
    refine aR rfl rfl (aA rfl) rfl (aA rfl) rfl c45 ?_
    refine aR rfl rfl (aA rfl) rfl (aA rfl) rfl c45 ?_
    refine aR rfl rfl (aA rfl) rfl (aA rfl) rfl c45 ?_
    refine aR rfl rfl (aA rfl) rfl (aA rfl) rfl c45 ?_
    refine tr1 rfl (bN (v := .d (.lit (.bool true))) (aA rfl) rfl c45 rfl rfl) ?_
    have h7 := Option.some.inj h7
    subst h7
    refine aF (bB rfl ⟨rfl, trivial⟩ rfl)
   ·have h7 := aS c45 h7
    refine aO rfl rfl (aA rfl) rfl c45 (aU (aA rfl) rfl eH) ?_
    refine aO rfl rfl (aA rfl) rfl c45 (aW (aA rfl) rfl (i := 0) rfl rfl iZ) ?_
    refine aO rfl rfl (aA rfl) rfl c45 (cX (aA rfl) rfl bR.of) ?_
    refine aO rfl rfl (aA rfl) rfl c45 (bC (aA rfl) rfl rfl rfl) ?_
    refine tr1 rfl (bP (v := .d (.lit (.bool ((decide (40 < (l_0.Reports.length : Int))))))) (aA rfl) rfl c45 rfl rfl) ?_
    have h7 := Option.some.inj h7
    subst h7
    refine aF (bB rfl ⟨rfl, trivial⟩ rfl)
  ·refine tr1 rfl (aC (v := .d (.lit (.bool b6))) (aA rfl) rfl rfl) ?_
   obtain ⟨b8, h9, h⟩ := bind_some h
   refine cA 7 [1] 31 b8 ?_ ?_
   ·refine bF (b6) (fun c42 => ?_) (fun c42 => ?_)
    ·have h9 := aT c42 h9
     refine aR rfl rfl (aA rfl) rfl (aA rfl) rfl c42 ?_
     refine aR rfl rfl (aA rfl) rfl (aA rfl) rfl c42 ?_
     refine aR rfl rfl (aA rfl) rfl (aA rfl) rfl c42 ?_
     refine aR rfl rfl (aA rfl) rfl (aA rfl) rfl c42 ?_
     refine aR rfl rfl (aA rfl) rfl (aA rfl) rfl c42 ?_
     refine aR rfl rfl (aA rfl) rfl (aA rfl) rfl c42 ?_
     refine tr1 rfl (bN (v := .d (.lit (.bool true))) (aA rfl) rfl c42 rfl rfl) ?_
     have h9 := Option.some.inj h9
     subst h9
     refine aF (bB rfl ⟨rfl, trivial⟩ rfl)
    ·have h9 := aS c42 h9
     refine aO rfl rfl (aA rfl) rfl c42 (aU (aA rfl) rfl iJ) ?_
     refine aO rfl rfl (aA rfl) rfl c42 (aW (aA rfl) rfl (i := 0) rfl rfl bH) ?_
     refine aO rfl rfl (aA rfl) rfl c42 (aU (aA rfl) rfl lH) ?_
     refine aO rfl rfl (aA rfl) rfl c42 (aW (aA rfl) rfl (i := 0) rfl rfl jA) ?_
     obtain ⟨r43, h44, h9⟩ := bind_some h9
     refine aO rfl rfl (aA rfl) rfl c42 (cC (aA rfl) (.func _ _ Try.call78) rfl rfl (BVs.refl _ _) (rF _ _ h44) rfl) ?_
     refine aO rfl rfl (aA rfl) rfl c42 (eM (aA rfl) rfl) ?_
     refine tr1 rfl (bP (v := .d (.lit (.bool (!r43)))) (aA rfl) rfl c42 rfl rfl) ?_
     have h9 := Option.some.inj h9
     subst h9
     refine aF (bB rfl ⟨rfl, trivial⟩ rfl)
   ·refine tr1 rfl (aC (v := .d (.lit (.bool b8))) (aA rfl) rfl rfl) ?_
    obtain ⟨b10, h11, h⟩ := bind_some h
    refine cA 7 [1] 39 b10 ?_ ?_
    ·refine bF (b8) (fun c39 => ?_) (fun c39 => ?_)
     ·have h11 := aT c39 h11
      refine aR rfl rfl (aA rfl) rfl (aA rfl) rfl c39 ?_
      refine aR rfl rfl (aA rfl) rfl (aA rfl) rfl c39 ?_
      refine aR rfl rfl (aA rfl) rfl (aA rfl) rfl c39 ?_
      refine aR rfl rfl (aA rfl) rfl (aA rfl) rfl c39 ?_
      refine aR rfl rfl (aA rfl) rfl (aA rfl) rfl c39 ?_
      refine aR rfl rfl (aA rfl) rfl (aA rfl) rfl c39 ?_
      refine tr1 rfl (bN (v := .d (.lit (.bool true))) (aA rfl) rfl c39 rfl rfl) ?_
      have h11 := Option.some.inj h11
      subst h11
      refine aF (bB rfl ⟨rfl, trivial⟩ rfl)
     ·have h11 := aS c39 h11
      refine aO rfl rfl (aA rfl) rfl c39 (aU (aA rfl) rfl iJ) ?_
      refine aO rfl rfl (aA rfl) rfl c39 (aW (aA rfl) rfl (i := 0) rfl rfl bH) ?_
      refine aO rfl rfl (aA rfl) rfl c39 (aU (aA rfl) rfl kG) ?_
      refine aO rfl rfl (aA rfl) rfl c39 (aW (aA rfl) rfl (i := 0) rfl rfl jA) ?_
      obtain ⟨r40, h41, h11⟩ := bind_some h11
      refine aO rfl rfl (aA rfl) rfl c39 (cC (aA rfl) (.func _ _ Try.call78) rfl rfl (BVs.refl _ _) (rF _ _ h41) rfl) ?_
      refine aO rfl rfl (aA rfl) rfl c39 (eM (aA rfl) rfl) ?_
      refine tr1 rfl (bP (v := .d (.lit (.bool (!r40)))) (aA rfl) rfl c39 rfl rfl) ?_
      have h11 := Option.some.inj h11
      subst h11
      refine aF (bB rfl ⟨rfl, trivial⟩ rfl)
    ·refine aF ?_
     refine bJ rfl (fun c12 => ?_) (fun c12 => ?_)
     ·have h := aT c12 h
      refine aG ?_
      refine aE ?_
      refine tr1 rfl (aJ (v := .d (.lit (.bool false))) (aA rfl) rfl rfl) ?_
      refine aF ?_
      have h := Option.some.inj h
      subst h
      refine cR (cE (cM (l := [2]) ⟨rfl, trivial⟩)) ?_
      exact bM ⟨rfl, _, .one _, rfl, rfl⟩
     ·have h := aS c12 h
      refine bG ?_
      refine aG ?_
      refine aG ?_
      refine aE ?_
      refine tr1 rfl (aJ (v := .d (.lit (.int .i64 0))) (aA rfl) rfl rfl) ?_
      refine aF ?_
      refine bQ ?_
      refine cG [1] (fun (s13 : Int) => [(3, .d (.lit (.int .i64 s13)))]) (fun (s13 : Int) => [.box b1 0 (aN l_0)]) (fun (k : Nat) (s13 : Int) => fO l_0 k s13) (fun _ => rfl) (0) h (aX [0] rfl rfl (aM rfl (aV ⟨rfl, trivial⟩))) ?_
      rintro k14 i_0_13 h
      simp only [fO] at h
      refine aG ?_
      refine aG ?_
      refine aE ?_
      refine tr1 rfl (aC (v := .d (.lit (.int .i64 i_0_13))) (aA rfl) rfl rfl) ?_
      refine tr1 rfl (aU (aA rfl) rfl eH) ?_
      refine tr1 rfl (aW (aA rfl) rfl (i := 0) rfl rfl iZ) ?_
      refine tr1 rfl (cX (aA rfl) rfl bR.of) ?_
      refine tr1 rfl (bC (aA rfl) rfl rfl rfl) ?_
      refine aF ?_
      refine bJ rfl (fun c15 => ?_) (fun c15 => ?_)
      ·have h := aT c15 h
       refine bG ?_
       refine aG ?_
       refine bQ ?_
       refine aG ?_
       obtain ⟨x16, h17, h⟩ := bind_some h
       refine fN mix 7 [1, 3] [(48, .d (.lit (.int .i64 l_0.Players))), (53, .agg (aB x16))] ?_ ?_
       ·refine ⟨[(47, 0, .bp b1 0 0), (48, 1, .d (.lit (.int .i64 l_0.Players))), (49, 2, .bp b1 0 2), (50, 3, .d (.sl 5 (l_0.Reports.map aB))), (51, 4, .d (.lit (.int .i64 i_0_13))), (52, 5, .cp [.lit (.int .i64 x16.Id), .lit (.int .i64 x16.Player), .lit (.int .i64 x16.Week), .lit (.int .i64 x16.Points), .lit (.bool x16.Must)]), (53, 6, .agg (aB x16))], ?_, ?_⟩
        · exact ⟨by kernel_rfl, by kernel_rfl, by kernel_rfl, by kernel_rfl, by kernel_rfl, [([], []), ([0], []), ([], []), ([2], []), ([], []), ([3, 4], []), ([5], [])], by kernel_rfl, ⟨fun S hS => aI rfl (aQ rfl (aU (aA rfl) (aH hS rfl) iJ)),
      fun S hS => aI rfl (aQ rfl (aW (aA rfl) (aH hS rfl) (i := 0) rfl rfl bH)),
      fun S hS => aI rfl (aQ rfl (aU (aA rfl) (aH hS rfl) eH)),
      fun S hS => aI rfl (aQ rfl (aW (aA rfl) (aH hS rfl) (i := 0) rfl rfl iZ)),
      fun S hS => aI rfl (aQ rfl (aC (v := .d (.lit (.int .i64 i_0_13))) (aA rfl) (aH hS rfl) rfl)),
      fun S hS => aI rfl (aQ rfl (bO (aA rfl) (aH hS rfl) (aH hS rfl) bR.of (bI aB h17))),
      fun S hS => aI rfl (aQ rfl (fJ (aA rfl) (aH hS rfl) dY (es := (aB x16)) rfl rfl)), trivial⟩⟩
        · exact dI (aM rfl (aM rfl (aV ⟨rfl, rfl, trivial⟩)))
       ·obtain ⟨r18, h19, h⟩ := bind_some h
        refine tr1 rfl (cC (aA rfl) (.func _ _ Try.call79) rfl rfl (BVs.refl _ _) (wL _ _ h19) rfl) ?_
        refine tr1 rfl (eM (aA rfl) rfl) ?_
        refine aF ?_
        refine bJ rfl (fun c20 => ?_) (fun c20 => ?_)
        ·have h := aT c20 h
         refine aG ?_
         refine aE ?_
         refine tr1 rfl (aJ (v := .d (.lit (.bool false))) (aA rfl) rfl rfl) ?_
         refine aF ?_
         have h := Option.some.inj h
         subst h
         refine cR (cE (cM (l := [2]) ⟨rfl, trivial⟩)) ?_
         exact bM ⟨rfl, _, .one _, rfl, rfl⟩
        ·have h := aS c20 h
         refine dS ?_
         refine aE ?_
         refine tr1 rfl (aC (v := .d (.lit (.int .i64 i_0_13))) (aA rfl) rfl rfl) ?_
         refine tr1 rfl (aZ (aA rfl) rfl rfl rfl) ?_
         refine tr1 rfl (aJ (v := .d (.lit (.int .i64 ((w64 (i_0_13 + 1)))))) (aA rfl) rfl rfl) ?_
         refine aF ?_
         exact ⟨(w64 (i_0_13 + 1)), h, aX [0] rfl rfl (aM rfl (aV ⟨rfl, trivial⟩))⟩
      ·have h := aS c15 h
       refine cN ?_
       refine .inl ⟨rfl, ?_⟩
       simp only [oI] at h
       refine aG ?_
       refine aG ?_
       refine aE ?_
       refine tr1 rfl (aJ (v := .d (.lit (.int .i64 0))) (aA rfl) rfl rfl) ?_
       refine aF ?_
       refine bQ ?_
       refine cG [1] (fun (s21 : Int) => [(4, .d (.lit (.int .i64 s21)))]) (fun (s21 : Int) => [.box b1 0 (aN l_0)]) (fun (k : Nat) (s21 : Int) => eD l_0 k s21) (fun _ => rfl) (0) h (aX [0] rfl rfl (aM rfl (aV ⟨rfl, trivial⟩))) ?_
       rintro k22 i_2_21 h
       simp only [eD] at h
       refine aG ?_
       refine aG ?_
       refine aE ?_
       refine tr1 rfl (aC (v := .d (.lit (.int .i64 i_2_21))) (aA rfl) rfl rfl) ?_
       refine tr1 rfl (aU (aA rfl) rfl kG) ?_
       refine tr1 rfl (aW (aA rfl) rfl (i := 0) rfl rfl jA) ?_
       refine tr1 rfl (cX (aA rfl) rfl eY.of) ?_
       refine tr1 rfl (bC (aA rfl) rfl rfl rfl) ?_
       refine aF ?_
       refine bJ rfl (fun c23 => ?_) (fun c23 => ?_)
       ·have h := aT c23 h
        refine bG ?_
        refine aG ?_
        refine bQ ?_
        refine aG ?_
        refine aE ?_
        refine tr1 rfl (aJ (v := .d (.lit (.int .i64 0))) (aA rfl) rfl rfl) ?_
        refine aF ?_
        refine zP ?_
        refine cG [1, 4] (fun (s24 : Int) => [(5, .d (.lit (.int .i64 s24)))]) (fun (s24 : Int) => [.box b1 0 (aN l_0)]) (fun (k : Nat) (s24 : Int) => gJ (eD l_0 k22) i_2_21 l_0 k s24) (fun _ => rfl) (0) h (aX [0] rfl rfl (aM rfl (aV ⟨rfl, rfl, trivial⟩))) ?_
        rintro k25 k_4_24 h
        simp only [gJ] at h
        refine aG ?_
        refine aG ?_
        refine aE ?_
        refine tr1 rfl (aC (v := .d (.lit (.int .i64 k_4_24))) (aA rfl) rfl rfl) ?_
        refine tr1 rfl (aC (v := .d (.lit (.int .i64 i_2_21))) (aA rfl) rfl rfl) ?_
        refine tr1 rfl (bC (aA rfl) rfl rfl rfl) ?_
        refine aF ?_
        refine bJ rfl (fun c26 => ?_) (fun c26 => ?_)
        ·have h := aT c26 h
         refine bG ?_
         refine aG ?_
         refine bQ ?_
         refine aG ?_
         obtain ⟨x28, h29, h⟩ := bind_some h
         obtain ⟨x30, h31, h⟩ := bind_some h
         refine lZ mix 13 [1, 4, 5] (fun X27 => [(6, .bp (X27 10).b 0 0), (7, .bp (X27 11).b 0 0), (77, .agg (aK x30))]) (fun X27 => [.box b1 0 (aN l_0), .box (X27 10).b 0 (aK x28), .box (X27 11).b 0 (aK (bA.mk 0 0 0))]) ?_ ?_
         ·refine ⟨2, fun X27 => [(68, 0, .bp b1 0 4), (69, 1, .d (.sl 3 (l_0.Frozen.map aK))), (70, 2, .d (.lit (.int .i64 i_2_21))), (71, 3, .cp [.lit (.int .i64 x28.Player), .lit (.int .i64 x28.From), .lit (.int .i64 x28.To)]), (72, 4, .agg (aK x28)), (73, 5, .bp b1 0 4), (74, 6, .d (.sl 3 (l_0.Frozen.map aK))), (75, 7, .d (.lit (.int .i64 k_4_24))), (76, 8, .cp [.lit (.int .i64 x30.Player), .lit (.int .i64 x30.From), .lit (.int .i64 x30.To)]), (77, 9, .agg (aK x30)), (6, 10, .bp (X27 10).b 0 0), (7, 11, .bp (X27 11).b 0 0)], fun X27 => [([], .box b1 0 (aN l_0)), ([(12, .box (X27 10).b 0 (aK x28)), (10, .box (X27 10).b 0 (aK (bA.mk 0 0 0)))], nob), ([(11, .box (X27 11).b 0 (aK (bA.mk 0 0 0)))], nob)], ?_, ?_⟩
          · exact ⟨by kernel_rfl, by kernel_rfl, by kernel_rfl, fun _ => by kernel_rfl, fun _ => by kernel_rfl, fun _ => by kernel_rfl, fun _ => rfl, [([], [12]), ([0], [12]), ([], [12]), ([1, 2], [12]), ([3], [12]), ([], []), ([5], []), ([], []), ([6, 7], []), ([8], []), ([], [12]), ([], [12]), ([4, 10, 11], [])], by kernel_rfl, ⟨fun X27 S hw hi hS => bL (X := X27) rfl (hw X27) rfl (aQ rfl (aU (aA rfl) (aH hS rfl) kG)),
      fun X27 S hw hi hS => bL (X := X27) rfl (hw X27) rfl (aQ rfl (aW (aA rfl) (aH hS rfl) (i := 0) (og hS rfl rfl) rfl jA)),
      fun X27 S hw hi hS => bL (X := X27) rfl (hw X27) rfl (aQ rfl (aC (v := .d (.lit (.int .i64 i_2_21))) (aA rfl) (aH hS rfl) rfl)),
      fun X27 S hw hi hS => bL (X := X27) rfl (hw X27) rfl (aQ rfl (bO (aA rfl) (aH hS rfl) (aH hS rfl) eY.of (bI aK h29))),
      fun X27 S hw hi hS => bL (X := X27) rfl (hw X27) rfl (aQ rfl (fJ (aA rfl) (aH hS rfl) yA (es := (aK x28)) rfl rfl)),
      fun X27 S hw hi hS => bL (X := X27) rfl (hw X27) rfl (aQ rfl (aU (aA rfl) (aH hS rfl) kG)),
      fun X27 S hw hi hS => bL (X := X27) rfl (hw X27) rfl (aQ rfl (aW (aA rfl) (aH hS rfl) (i := 0) (og hS rfl rfl) rfl jA)),
      fun X27 S hw hi hS => bL (X := X27) rfl (hw X27) rfl (aQ rfl (aC (v := .d (.lit (.int .i64 k_4_24))) (aA rfl) (aH hS rfl) rfl)),
      fun X27 S hw hi hS => bL (X := X27) rfl (hw X27) rfl (aQ rfl (bO (aA rfl) (aH hS rfl) (aH hS rfl) eY.of (bI aK h31))),
      fun X27 S hw hi hS => bL (X := X27) rfl (hw X27) rfl (aQ rfl (fJ (aA rfl) (aH hS rfl) yA (es := (aK x30)) rfl rfl)),
      fun X27 S hw hi hS => aEx (X := X27) (p := 1) (v := fun x => .bp x.b 0 0) (mo := fun x => .box x.b 0 (aK (bA.mk 0 0 0))) hS hi rfl rfl (fun _ => rfl) hw (fun _ => rfl) (fun _ => rfl) (fun _ => rfl) (fun _ => ⟨rfl, rfl, .inr rfl, ⟨rfl, rfl, .inr rfl, ⟨rfl, rfl, .inr rfl, ⟨rfl, rfl, .inr rfl, ⟨rfl, rfl, .inr rfl, ⟨rfl, rfl, .inr rfl, ⟨rfl, rfl, .inr rfl, ⟨rfl, rfl, .inr rfl, ⟨rfl, rfl, .inr rfl, ⟨rfl, rfl, .inr rfl, ⟨rfl, rfl, .inl rfl, ⟨rfl, rfl, .inr rfl, trivial⟩⟩⟩⟩⟩⟩⟩⟩⟩⟩⟩⟩) (fun _ => ⟨trivial, rfl, ⟨⟨rfl, .inl rfl, ⟨rfl, .inl rfl, trivial⟩⟩, rfl, ⟨⟨rfl, .inr rfl, trivial⟩, rfl, trivial⟩⟩⟩) (zG (fV (zs := [.lit (.int .i64 0), .lit (.int .i64 0), .lit (.int .i64 0)]) (aA rfl) Try.zeroValue66 rfl rfl) (by rintro _ ⟨w, rfl⟩; exact ⟨⟨w, undef⟩, aX [0, 3, 2] rfl rfl (le_refl _)⟩)),
      fun X27 S hw hi hS => aEx (X := X27) (p := 2) (v := fun x => .bp x.b 0 0) (mo := fun x => .box x.b 0 (aK (bA.mk 0 0 0))) hS hi rfl rfl (fun _ => rfl) hw (fun _ => rfl) (fun _ => rfl) (fun _ => rfl) (fun _ => ⟨rfl, rfl, .inr rfl, ⟨rfl, rfl, .inr rfl, ⟨rfl, rfl, .inr rfl, ⟨rfl, rfl, .inr rfl, ⟨rfl, rfl, .inr rfl, ⟨rfl, rfl, .inr rfl, ⟨rfl, rfl, .inr rfl, ⟨rfl, rfl, .inr rfl, ⟨rfl, rfl, .inr rfl, ⟨rfl, rfl, .inr rfl, ⟨rfl, rfl, .inr rfl, ⟨rfl, rfl, .inl rfl, trivial⟩⟩⟩⟩⟩⟩⟩⟩⟩⟩⟩⟩) (fun _ => ⟨trivial, rfl, ⟨⟨rfl, .inr rfl, ⟨rfl, .inr rfl, trivial⟩⟩, rfl, ⟨⟨rfl, .inl rfl, trivial⟩, rfl, trivial⟩⟩⟩) (zG (fV (zs := [.lit (.int .i64 0), .lit (.int .i64 0), .lit (.int .i64 0)]) (aA rfl) Try.zeroValue66 rfl rfl) (by rintro _ ⟨w, rfl⟩; exact ⟨⟨w, undef⟩, aX [0, 1, 3] rfl rfl (le_refl _)⟩)),
      fun X27 S hw hi hS => sC (X := X27) hS rfl rfl rfl (p := 1) rfl rfl (aQ rfl (cD (i := 1) (aH hS rfl) (og hS rfl rfl) (aH hS rfl) rfl rfl Try.sizeOf66 rfl (aA rfl) (Nat.le_of_ble_eq_true rfl) (ds' := (aK x28)) rfl)), trivial⟩⟩
          · exact fun X27 => dI (aM rfl (aM rfl (aM rfl (aV ⟨rfl, rfl, rfl, trivial⟩))))
         ·intro X27
          refine tr1 rfl (cD (i := 2) rfl rfl rfl rfl rfl Try.sizeOf66 rfl (aA rfl) (Nat.le_of_ble_eq_true rfl) (ds' := (aK x30)) rfl) ?_
          refine aF ?_
          refine aG ?_
          refine aE ?_
          refine tr1 rfl (aU (aA rfl) rfl lJ) ?_
          refine tr1 rfl (aW (aA rfl) rfl (i := 1) rfl rfl bH) ?_
          refine tr1 rfl (aU (aA rfl) rfl lJ) ?_
          refine tr1 rfl (aW (aA rfl) rfl (i := 2) rfl rfl bH) ?_
          refine tr1 rfl (bC (aA rfl) rfl rfl rfl) ?_
          refine tr1 rfl (aC (v := .d (.lit (.bool ((decide (x28.Player = x30.Player)))))) (aA rfl) rfl rfl) ?_
          obtain ⟨b32, h33, h⟩ := bind_some h
          refine cA 6 [1, 4, 5, 6, 7] 89 b32 ?_ ?_
          ·refine bF (decide (x28.Player = x30.Player)) (fun c38 => ?_) (fun c38 => ?_)
           ·have h33 := aT c38 h33
            refine aO rfl rfl (aA rfl) rfl c38 (aU (aA rfl) rfl kI) ?_
            refine aO rfl rfl (aA rfl) rfl c38 (aW (aA rfl) rfl (i := 1) rfl rfl bH) ?_
            refine aO rfl rfl (aA rfl) rfl c38 (aU (aA rfl) rfl mI) ?_
            refine aO rfl rfl (aA rfl) rfl c38 (aW (aA rfl) rfl (i := 2) rfl rfl bH) ?_
            refine aO rfl rfl (aA rfl) rfl c38 (bC (aA rfl) rfl rfl rfl) ?_
            refine tr1 rfl (bN (v := .d (.lit (.bool ((decide (x28.From ≤ x30.To)))))) (aA rfl) rfl c38 rfl rfl) ?_
            have h33 := Option.some.inj h33
            subst h33
            refine aF (bB rfl ⟨rfl, rfl, rfl, rfl, rfl, trivial⟩ rfl)
           ·have h33 := aS c38 h33
            refine aR rfl rfl (aA rfl) rfl (aA rfl) rfl c38 ?_
            refine aR rfl rfl (aA rfl) rfl (aA rfl) rfl c38 ?_
            refine aR rfl rfl (aA rfl) rfl (aA rfl) rfl c38 ?_
            refine aR rfl rfl (aA rfl) rfl (aA rfl) rfl c38 ?_
            refine aR rfl rfl (aA rfl) rfl (aA rfl) rfl c38 ?_
            refine tr1 rfl (bP (v := .d (.lit (.bool false))) (aA rfl) rfl c38 rfl rfl) ?_
            have h33 := Option.some.inj h33
            subst h33
            refine aF (bB rfl ⟨rfl, rfl, rfl, rfl, rfl, trivial⟩ rfl)
          ·refine tr1 rfl (aC (v := .d (.lit (.bool b32))) (aA rfl) rfl rfl) ?_
           obtain ⟨b34, h35, h⟩ := bind_some h
           refine cA 6 [1, 4, 5] 96 b34 ?_ ?_
           ·refine bF (b32) (fun c37 => ?_) (fun c37 => ?_)
            ·have h35 := aT c37 h35
             refine aO rfl rfl (aA rfl) rfl c37 (aU (aA rfl) rfl kI) ?_
             refine aO rfl rfl (aA rfl) rfl c37 (aW (aA rfl) rfl (i := 2) rfl rfl bH) ?_
             refine aO rfl rfl (aA rfl) rfl c37 (aU (aA rfl) rfl mI) ?_
             refine aO rfl rfl (aA rfl) rfl c37 (aW (aA rfl) rfl (i := 1) rfl rfl bH) ?_
             refine aO rfl rfl (aA rfl) rfl c37 (bC (aA rfl) rfl rfl rfl) ?_
             refine tr1 rfl (bN (v := .d (.lit (.bool ((decide (x30.From ≤ x28.To)))))) (aA rfl) rfl c37 rfl rfl) ?_
             have h35 := Option.some.inj h35
             subst h35
             refine aF (bB rfl ⟨rfl, rfl, rfl, trivial⟩ rfl)
            ·have h35 := aS c37 h35
             refine aR rfl rfl (aA rfl) rfl (aA rfl) rfl c37 ?_
             refine aR rfl rfl (aA rfl) rfl (aA rfl) rfl c37 ?_
             refine aR rfl rfl (aA rfl) rfl (aA rfl) rfl c37 ?_
             refine aR rfl rfl (aA rfl) rfl (aA rfl) rfl c37 ?_
             refine aR rfl rfl (aA rfl) rfl (aA rfl) rfl c37 ?_
             refine tr1 rfl (bP (v := .d (.lit (.bool false))) (aA rfl) rfl c37 rfl rfl) ?_
             have h35 := Option.some.inj h35
             subst h35
             refine aF (bB rfl ⟨rfl, rfl, rfl, trivial⟩ rfl)
           ·refine aF ?_
            refine bJ rfl (fun c36 => ?_) (fun c36 => ?_)
            ·have h := aT c36 h
             refine aG ?_
             refine aE ?_
             refine tr1 rfl (aJ (v := .d (.lit (.bool false))) (aA rfl) rfl rfl) ?_
             refine aF ?_
             have h := Option.some.inj h
             subst h
             refine cR (cE (cM (l := [2]) ⟨rfl, trivial⟩)) ?_
             exact bM ⟨rfl, _, .one _, rfl, rfl⟩
            ·have h := aS c36 h
             refine dS ?_
             refine aE ?_
             refine tr1 rfl (aC (v := .d (.lit (.int .i64 k_4_24))) (aA rfl) rfl rfl) ?_
             refine tr1 rfl (aZ (aA rfl) rfl rfl rfl) ?_
             refine tr1 rfl (aJ (v := .d (.lit (.int .i64 ((w64 (k_4_24 + 1)))))) (aA rfl) rfl rfl) ?_
             refine aF ?_
             exact ⟨(w64 (k_4_24 + 1)), h, aX [0] rfl rfl (aM rfl (aV ⟨rfl, rfl, trivial⟩))⟩
        ·have h := aS c26 h
         refine cN ?_
         refine .inl ⟨rfl, ?_⟩
         simp only [oL] at h
         simp only [oK] at h
         refine aE ?_
         refine tr1 rfl (aC (v := .d (.lit (.int .i64 i_2_21))) (aA rfl) rfl rfl) ?_
         refine tr1 rfl (aZ (aA rfl) rfl rfl rfl) ?_
         refine tr1 rfl (aJ (v := .d (.lit (.int .i64 ((w64 (i_2_21 + 1)))))) (aA rfl) rfl rfl) ?_
         refine aF ?_
         exact ⟨(w64 (i_2_21 + 1)), h, aX [0] rfl rfl (aM rfl (aV ⟨rfl, trivial⟩))⟩
       ·have h := aS c23 h
        refine cN ?_
        refine .inl ⟨rfl, ?_⟩
        simp only [oJ] at h
        refine aG ?_
        refine aE ?_
        refine tr1 rfl (aJ (v := .d (.lit (.bool true))) (aA rfl) rfl rfl) ?_
        refine aF ?_
        have h := Option.some.inj h
        subst h
        refine cR (cE (cM (l := [2]) ⟨rfl, trivial⟩)) ?_
        exact bM ⟨rfl, _, .one _, rfl, rfl⟩

theorem yH (l_0 : List aD) {r : Bool} (h : nA l_0 = some r) : Fn Try.prog 42 [.d (.sl 5 (l_0.map aB))] (.d (.lit (.bool r))) := by
 unfold nA at h
 refine Fn.of_tr Try.func42 rfl (rs := [.tmp 2]) Try.results42 Try.ntmps42 (Nat.le_of_ble_eq_true rfl) ?_
 refine aG ?_
 refine aE ?_
 refine tr1 rfl (aJ (v := .d (.lit (.bool false))) (aA rfl) rfl rfl) ?_
 refine aF ?_
 refine aG ?_
 refine aG ?_
 refine aE ?_
 refine tr1 rfl (aJ (v := .d (.lit (.int .i64 0))) (aA rfl) rfl rfl) ?_
 refine aF ?_
 refine bQ ?_
 refine cG [0] (fun (s1 : Int) => [(3, .d (.lit (.int .i64 s1)))]) (fun (s1 : Int) => []) (fun (k : Nat) (s1 : Int) => fA l_0 k s1) (fun _ => rfl) (0) h (aX [] rfl rfl (aM rfl (aV ⟨rfl, trivial⟩))) ?_
 rintro k2 i_0_1 h
 simp only [fA] at h
 refine aG ?_
 refine aG ?_
 refine aE ?_
 refine tr1 rfl (aC (v := .d (.lit (.int .i64 i_0_1))) (aA rfl) rfl rfl) ?_
 refine tr1 rfl (aC (v := .d (.sl 5 (l_0.map aB))) (aA rfl) rfl rfl) ?_
 refine tr1 rfl (cX (aA rfl) rfl bR.of) ?_
 refine tr1 rfl (bC (aA rfl) rfl rfl rfl) ?_
 refine aF ?_
 refine bJ rfl (fun c3 => ?_) (fun c3 => ?_)
 ·have h := aT c3 h
  refine bG ?_
  refine aG ?_
  refine bQ ?_
  refine aG ?_
  refine aE ?_
  refine tr1 rfl (aJ (v := .d (.lit (.int .i64 0))) (aA rfl) rfl rfl) ?_
  refine aF ?_
  refine zP ?_
  refine cG [0, 3] (fun (s4 : Int) => [(4, .d (.lit (.int .i64 s4)))]) (fun (s4 : Int) => []) (fun (k : Nat) (s4 : Int) => iH (fA l_0 k2) l_0 i_0_1 k s4) (fun _ => rfl) (0) h (aX [] rfl rfl (aM rfl (aV ⟨rfl, rfl, trivial⟩))) ?_
  rintro k5 k_2_4 h
  simp only [iH] at h
  refine aG ?_
  refine aG ?_
  refine aE ?_
  refine tr1 rfl (aC (v := .d (.lit (.int .i64 k_2_4))) (aA rfl) rfl rfl) ?_
  refine tr1 rfl (aC (v := .d (.lit (.int .i64 i_0_1))) (aA rfl) rfl rfl) ?_
  refine tr1 rfl (bC (aA rfl) rfl rfl rfl) ?_
  refine aF ?_
  refine bJ rfl (fun c6 => ?_) (fun c6 => ?_)
  ·have h := aT c6 h
   refine bG ?_
   refine aG ?_
   refine bQ ?_
   refine aG ?_
   obtain ⟨x7, h8, h⟩ := bind_some h
   obtain ⟨x9, h10, h⟩ := bind_some h
   obtain ⟨b11, h12, h⟩ := bind_some h
   refine fN mix 22 [0, 3, 4] [(37, .d (.lit (.bool b11)))] ?_ ?_
   ·refine bF (decide (x7.Id = x9.Id)) (fun c13 => ?_) (fun c13 => ?_)
    ·have h12 := aT c13 h12
     obtain ⟨x14, h15, h12⟩ := bind_some h12
     obtain ⟨x16, h17, h12⟩ := bind_some h12
     have h12 := Option.some.inj h12
     subst h12
     refine ⟨[(16, 0, .d (.sl 5 (l_0.map aB))), (17, 1, .d (.lit (.int .i64 i_0_1))), (18, 2, .cp [.lit (.int .i64 x7.Id), .lit (.int .i64 x7.Player), .lit (.int .i64 x7.Week), .lit (.int .i64 x7.Points), .lit (.bool x7.Must)]), (19, 3, .cp [.lit (.int .i64 x7.Id)]), (20, 4, .d (.lit (.int .i64 x7.Id))), (21, 5, .d (.sl 5 (l_0.map aB))), (22, 6, .d (.lit (.int .i64 k_2_4))), (23, 7, .cp [.lit (.int .i64 x9.Id), .lit (.int .i64 x9.Player), .lit (.int .i64 x9.Week), .lit (.int .i64 x9.Points), .lit (.bool x9.Must)]), (24, 8, .cp [.lit (.int .i64 x9.Id)]), (25, 9, .d (.lit (.int .i64 x9.Id))), (26, 10, .d (.lit (.bool ((decide (x7.Id = x9.Id)))))), (27, 11, .d (.lit (.bool ((decide (x7.Id = x9.Id)))))), (28, 12, .d (.sl 5 (l_0.map aB))), (29, 13, .d (.lit (.int .i64 i_0_1))), (30, 14, .cp [.lit (.int .i64 x14.Id), .lit (.int .i64 x14.Player), .lit (.int .i64 x14.Week), .lit (.int .i64 x14.Points), .lit (.bool x14.Must)]), (31, 15, .agg (aB x14)), (32, 16, .d (.sl 5 (l_0.map aB))), (33, 17, .d (.lit (.int .i64 k_2_4))), (34, 18, .cp [.lit (.int .i64 x16.Id), .lit (.int .i64 x16.Player), .lit (.int .i64 x16.Week), .lit (.int .i64 x16.Points), .lit (.bool x16.Must)]), (35, 19, .agg (aB x16)), (36, 20, .d (.lit (.bool ((!decide (x14 = x16)))))), (37, 21, .d (.lit (.bool ((!decide (x14 = x16))))))], ?_, ?_⟩
     · exact ⟨by kernel_rfl, by kernel_rfl, by kernel_rfl, by kernel_rfl, by kernel_rfl, [([], []), ([], []), ([0, 1], []), ([2], []), ([3], []), ([], []), ([], []), ([5, 6], []), ([7], []), ([8], []), ([4, 9], []), ([10], []), ([11], []), ([11], []), ([11, 12, 13], []), ([11, 14], []), ([11], []), ([11], []), ([11, 16, 17], []), ([11, 18], []), ([11, 15, 19], []), ([11, 20], [])], by kernel_rfl, ⟨fun S hS => aI rfl (aQ rfl (aC (v := .d (.sl 5 (l_0.map aB))) (aA rfl) (aH hS rfl) rfl)),
      fun S hS => aI rfl (aQ rfl (aC (v := .d (.lit (.int .i64 i_0_1))) (aA rfl) (aH hS rfl) rfl)),
      fun S hS => aI rfl (aQ rfl (bO (aA rfl) (aH hS rfl) (aH hS rfl) bR.of (bI aB h8))),
      fun S hS => aI rfl (aQ rfl (bZ (aA rfl) (aH hS rfl) kA (es := [.lit (.int .i64 x7.Id)]) rfl)),
      fun S hS => aI rfl (aQ rfl (bX (aA rfl) (aH hS rfl) bH)),
      fun S hS => aI rfl (aQ rfl (aC (v := .d (.sl 5 (l_0.map aB))) (aA rfl) (aH hS rfl) rfl)),
      fun S hS => aI rfl (aQ rfl (aC (v := .d (.lit (.int .i64 k_2_4))) (aA rfl) (aH hS rfl) rfl)),
      fun S hS => aI rfl (aQ rfl (bO (aA rfl) (aH hS rfl) (aH hS rfl) bR.of (bI aB h10))),
      fun S hS => aI rfl (aQ rfl (bZ (aA rfl) (aH hS rfl) kA (es := [.lit (.int .i64 x9.Id)]) rfl)),
      fun S hS => aI rfl (aQ rfl (bX (aA rfl) (aH hS rfl) bH)),
      fun S hS => aI rfl (aQ rfl (bC (aA rfl) (aH hS rfl) (aH hS rfl) rfl)),
      fun S hS => aI rfl (aQ rfl (aC (v := .d (.lit (.bool ((decide (x7.Id = x9.Id)))))) (aA rfl) (aH hS rfl) rfl)),
      fun S hS => aI rfl (aY rfl rfl (aA rfl) (aP hS rfl) c13 (aC (v := .d (.sl 5 (l_0.map aB))) (aA rfl) (aH hS rfl) rfl)),
      fun S hS => aI rfl (aY rfl rfl (aA rfl) (aP hS rfl) c13 (aC (v := .d (.lit (.int .i64 i_0_1))) (aA rfl) (aH hS rfl) rfl)),
      fun S hS => aI rfl (aY rfl rfl (aA rfl) (aP hS rfl) c13 (bO (aA rfl) (aH hS rfl) (aH hS rfl) bR.of (bI aB h15))),
      fun S hS => aI rfl (aY rfl rfl (aA rfl) (aP hS rfl) c13 (fJ (aA rfl) (aH hS rfl) dY (es := (aB x14)) rfl rfl)),
      fun S hS => aI rfl (aY rfl rfl (aA rfl) (aP hS rfl) c13 (aC (v := .d (.sl 5 (l_0.map aB))) (aA rfl) (aH hS rfl) rfl)),
      fun S hS => aI rfl (aY rfl rfl (aA rfl) (aP hS rfl) c13 (aC (v := .d (.lit (.int .i64 k_2_4))) (aA rfl) (aH hS rfl) rfl)),
      fun S hS => aI rfl (aY rfl rfl (aA rfl) (aP hS rfl) c13 (bO (aA rfl) (aH hS rfl) (aH hS rfl) bR.of (bI aB h17))),
      fun S hS => aI rfl (aY rfl rfl (aA rfl) (aP hS rfl) c13 (fJ (aA rfl) (aH hS rfl) dY (es := (aB x16)) rfl rfl)),
      fun S hS => aI rfl (aY rfl rfl (aA rfl) (aP hS rfl) c13 (aJb (a := x14) (b := x16) (aA rfl) (aH hS rfl) (aH hS rfl) rfl rfl Try.eqGuardType42 aBg)),
      fun S hS => aI rfl (aQ rfl (bN (v := .d (.lit (.bool ((!decide (x14 = x16)))))) (aA rfl) (aH hS rfl) c13 (aH hS rfl) rfl)), trivial⟩⟩
     · exact dI (aM rfl (aV ⟨rfl, rfl, rfl, trivial⟩))
    ·have h12 := aS c13 h12
     have h12 := Option.some.inj h12
     subst h12
     refine ⟨[(16, 0, .d (.sl 5 (l_0.map aB))), (17, 1, .d (.lit (.int .i64 i_0_1))), (18, 2, .cp [.lit (.int .i64 x7.Id), .lit (.int .i64 x7.Player), .lit (.int .i64 x7.Week), .lit (.int .i64 x7.Points), .lit (.bool x7.Must)]), (19, 3, .cp [.lit (.int .i64 x7.Id)]), (20, 4, .d (.lit (.int .i64 x7.Id))), (21, 5, .d (.sl 5 (l_0.map aB))), (22, 6, .d (.lit (.int .i64 k_2_4))), (23, 7, .cp [.lit (.int .i64 x9.Id), .lit (.int .i64 x9.Player), .lit (.int .i64 x9.Week), .lit (.int .i64 x9.Points), .lit (.bool x9.Must)]), (24, 8, .cp [.lit (.int .i64 x9.Id)]), (25, 9, .d (.lit (.int .i64 x9.Id))), (26, 10, .d (.lit (.bool ((decide (x7.Id = x9.Id)))))), (27, 11, .d (.lit (.bool ((decide (x7.Id = x9.Id)))))), (28, 12, .tup []), (29, 13, .tup []), (30, 14, .tup []), (31, 15, .tup []), (32, 16, .tup []), (33, 17, .tup []), (34, 18, .tup []), (35, 19, .tup []), (36, 20, .tup []), (37, 21, .d (.lit (.bool false)))], ?_, ?_⟩
     · exact ⟨by kernel_rfl, by kernel_rfl, by kernel_rfl, by kernel_rfl, by kernel_rfl, [([], []), ([], []), ([0, 1], []), ([2], []), ([3], []), ([], []), ([], []), ([5, 6], []), ([7], []), ([8], []), ([4, 9], []), ([10], []), ([11], []), ([11], []), ([11, 12, 13], []), ([11, 14], []), ([11], []), ([11], []), ([11, 16, 17], []), ([11, 18], []), ([11, 15, 19], []), ([11, 20], [])], by kernel_rfl, ⟨fun S hS => aI rfl (aQ rfl (aC (v := .d (.sl 5 (l_0.map aB))) (aA rfl) (aH hS rfl) rfl)),
      fun S hS => aI rfl (aQ rfl (aC (v := .d (.lit (.int .i64 i_0_1))) (aA rfl) (aH hS rfl) rfl)),
      fun S hS => aI rfl (aQ rfl (bO (aA rfl) (aH hS rfl) (aH hS rfl) bR.of (bI aB h8))),
      fun S hS => aI rfl (aQ rfl (bZ (aA rfl) (aH hS rfl) kA (es := [.lit (.int .i64 x7.Id)]) rfl)),
      fun S hS => aI rfl (aQ rfl (bX (aA rfl) (aH hS rfl) bH)),
      fun S hS => aI rfl (aQ rfl (aC (v := .d (.sl 5 (l_0.map aB))) (aA rfl) (aH hS rfl) rfl)),
      fun S hS => aI rfl (aQ rfl (aC (v := .d (.lit (.int .i64 k_2_4))) (aA rfl) (aH hS rfl) rfl)),
      fun S hS => aI rfl (aQ rfl (bO (aA rfl) (aH hS rfl) (aH hS rfl) bR.of (bI aB h10))),
      fun S hS => aI rfl (aQ rfl (bZ (aA rfl) (aH hS rfl) kA (es := [.lit (.int .i64 x9.Id)]) rfl)),
      fun S hS => aI rfl (aQ rfl (bX (aA rfl) (aH hS rfl) bH)),
      fun S hS => aI rfl (aQ rfl (bC (aA rfl) (aH hS rfl) (aH hS rfl) rfl)),
      fun S hS => aI rfl (aQ rfl (aC (v := .d (.lit (.bool ((decide (x7.Id = x9.Id)))))) (aA rfl) (aH hS rfl) rfl)),
      fun S hS => aI rfl (bD rfl rfl (aA rfl) rfl (aA rfl) (aP hS rfl) c13),
      fun S hS => aI rfl (bD rfl rfl (aA rfl) rfl (aA rfl) (aP hS rfl) c13),
      fun S hS => aI rfl (bD rfl rfl (aA rfl) rfl (aA rfl) (aP hS rfl) c13),
      fun S hS => aI rfl (bD rfl rfl (aA rfl) rfl (aA rfl) (aP hS rfl) c13),
      fun S hS => aI rfl (bD rfl rfl (aA rfl) rfl (aA rfl) (aP hS rfl) c13),
      fun S hS => aI rfl (bD rfl rfl (aA rfl) rfl (aA rfl) (aP hS rfl) c13),
      fun S hS => aI rfl (bD rfl rfl (aA rfl) rfl (aA rfl) (aP hS rfl) c13),
      fun S hS => aI rfl (bD rfl rfl (aA rfl) rfl (aA rfl) (aP hS rfl) c13),
      fun S hS => aI rfl (bD rfl rfl (aA rfl) rfl (aA rfl) (aP hS rfl) c13),
      fun S hS => aI rfl (aQ rfl (bP (v := .d (.lit (.bool false))) (aA rfl) (aH hS rfl) c13 rfl rfl)), trivial⟩⟩
     · exact dI (aM rfl (aV ⟨rfl, rfl, rfl, trivial⟩))
   ·refine aF ?_
    refine bJ rfl (fun c18 => ?_) (fun c18 => ?_)
    ·have h := aT c18 h
     refine aG ?_
     refine aE ?_
     refine tr1 rfl (aJ (v := .d (.lit (.bool true))) (aA rfl) rfl rfl) ?_
     refine aF ?_
     have h := Option.some.inj h
     subst h
     exact bM ⟨rfl, _, .one _, rfl, rfl⟩
    ·have h := aS c18 h
     refine dS ?_
     refine aE ?_
     refine tr1 rfl (aC (v := .d (.lit (.int .i64 k_2_4))) (aA rfl) rfl rfl) ?_
     refine tr1 rfl (aZ (aA rfl) rfl rfl rfl) ?_
     refine tr1 rfl (aJ (v := .d (.lit (.int .i64 ((w64 (k_2_4 + 1)))))) (aA rfl) rfl rfl) ?_
     refine aF ?_
     exact ⟨(w64 (k_2_4 + 1)), h, aX [] rfl rfl (aM rfl (aV ⟨rfl, rfl, trivial⟩))⟩
  ·have h := aS c6 h
   refine cN ?_
   refine .inl ⟨rfl, ?_⟩
   simp only [pS] at h
   simp only [pR] at h
   refine aE ?_
   refine tr1 rfl (aC (v := .d (.lit (.int .i64 i_0_1))) (aA rfl) rfl rfl) ?_
   refine tr1 rfl (aZ (aA rfl) rfl rfl rfl) ?_
   refine tr1 rfl (aJ (v := .d (.lit (.int .i64 ((w64 (i_0_1 + 1)))))) (aA rfl) rfl rfl) ?_
   refine aF ?_
   exact ⟨(w64 (i_0_1 + 1)), h, aX [] rfl rfl (aM rfl (aV ⟨rfl, trivial⟩))⟩
 ·have h := aS c3 h
  refine cN ?_
  refine .inl ⟨rfl, ?_⟩
  simp only [pQ] at h
  refine aG ?_
  refine aE ?_
  refine tr1 rfl (aJ (v := .d (.lit (.bool false))) (aA rfl) rfl rfl) ?_
  refine aF ?_
  have h := Option.some.inj h
  subst h
  exact bM ⟨rfl, _, .one _, rfl, rfl⟩

theorem qF (l_0 : aL) {r : Int} (h : jZ l_0 = some r) : Fn Try.prog 15 [.agg (aN l_0)] (.d (.lit (.int .i64 r))) := by
 unfold jZ at h
 refine Fn.of_tr Try.func15 rfl (rs := [.tmp 2]) Try.results15 Try.ntmps15 (Nat.le_of_ble_eq_true rfl) ?_
 refine aG ?_
 refine aE ?_
 refine bW rfl (eN (v := .agg (aN l_0)) (aA rfl) rfl rfl rfl) ?_
 rintro _ ⟨b1, rfl⟩
 refine tr1 rfl (aJ (v := .d (.lit (.int .i64 0))) (aA rfl) rfl rfl) ?_
 refine aF ?_
 refine aG ?_
 refine aG ?_
 refine aE ?_
 refine tr1 rfl (cH (aA rfl) rfl (i := 0) rfl dW (es := (aN l_0)) rfl rfl) ?_
 obtain ⟨r2, h3, h⟩ := bind_some h
 refine tr1 rfl (cC (aA rfl) (.func _ _ Try.call41) rfl rfl (BVs.refl _ _) (wK _ h3) rfl) ?_
 refine tr1 rfl (eM (aA rfl) rfl) ?_
 refine aF ?_
 refine bJ rfl (fun c4 => ?_) (fun c4 => ?_)
 ·have h := aT c4 h
  refine aG ?_
  refine aE ?_
  refine tr1 rfl (aJ (v := .d (.lit (.int .i64 40))) (aA rfl) rfl rfl) ?_
  refine aF ?_
  have h := Option.some.inj h
  subst h
  refine cR (cE (cM (l := [2]) ⟨rfl, trivial⟩)) ?_
  exact bM ⟨rfl, _, .one _, rfl, rfl⟩
 ·have h := aS c4 h
  refine bG ?_
  refine aG ?_
  refine aG ?_
  refine aE ?_
  refine tr1 rfl (aU (aA rfl) rfl eH) ?_
  refine tr1 rfl (aW (aA rfl) rfl (i := 0) rfl rfl iZ) ?_
  obtain ⟨r5, h6, h⟩ := bind_some h
  refine tr1 rfl (cC (aA rfl) (.func _ _ Try.call42) rfl rfl (BVs.refl _ _) (yH _ h6) rfl) ?_
  refine aF ?_
  refine bJ rfl (fun c7 => ?_) (fun c7 => ?_)
  ·have h := aT c7 h
   refine aG ?_
   refine aE ?_
   refine tr1 rfl (aJ (v := .d (.lit (.int .i64 41))) (aA rfl) rfl rfl) ?_
   refine aF ?_
   have h := Option.some.inj h
   subst h
   refine cR (cE (cM (l := [2]) ⟨rfl, trivial⟩)) ?_
   exact bM ⟨rfl, _, .one _, rfl, rfl⟩
  ·have h := aS c7 h
   refine bG ?_
   refine aG ?_
   refine aE ?_
   refine tr1 rfl (aJ (v := .d (.lit (.int .i64 0))) (aA rfl) rfl rfl) ?_
   refine aF ?_
   have h := Option.some.inj h
   subst h
   refine cR (cE (cM (l := [2]) ⟨rfl, trivial⟩)) ?_
   exact bM ⟨rfl, _, .one _, rfl, rfl⟩

theorem aAp (l_0 : aL) {r : Bool} (h : gV l_0 = some r) : Fn Try.prog 13 [.agg (aN l_0)] (.d (.lit (.bool r))) := by
 unfold gV at h
 refine Fn.of_tr Try.func13 rfl (rs := [.tmp 2]) Try.results13 Try.ntmps13 (Nat.le_of_ble_eq_true rfl) ?_
 refine aG ?_
 refine aE ?_
 refine bW rfl (eN (v := .agg (aN l_0)) (aA rfl) rfl rfl rfl) ?_
 rintro _ ⟨b1, rfl⟩
 refine tr1 rfl (aJ (v := .d (.lit (.bool false))) (aA rfl) rfl rfl) ?_
 refine aF ?_
 refine aG ?_
 refine aG ?_
 refine aE ?_
 refine tr1 rfl (aU (aA rfl) rfl eH) ?_
 refine tr1 rfl (aW (aA rfl) rfl (i := 0) rfl rfl iZ) ?_
 refine tr1 rfl (cX (aA rfl) rfl bR.of) ?_
 refine tr1 rfl (bC (aA rfl) rfl rfl rfl) ?_
 refine tr1 rfl (aC (v := .d (.lit (.bool ((decide (60 < (l_0.Reports.length : Int))))))) (aA rfl) rfl rfl) ?_
 obtain ⟨b2, h3, h⟩ := bind_some h
 refine cA 5 [1] 13 b2 ?_ ?_
 ·refine bF (decide (60 < (l_0.Reports.length : Int))) (fun c20 => ?_) (fun c20 => ?_)
  ·have h3 := aT c20 h3
   refine aR rfl rfl (aA rfl) rfl (aA rfl) rfl c20 ?_
   refine aR rfl rfl (aA rfl) rfl (aA rfl) rfl c20 ?_
   refine aR rfl rfl (aA rfl) rfl (aA rfl) rfl c20 ?_
   refine aR rfl rfl (aA rfl) rfl (aA rfl) rfl c20 ?_
   refine tr1 rfl (bN (v := .d (.lit (.bool true))) (aA rfl) rfl c20 rfl rfl) ?_
   have h3 := Option.some.inj h3
   subst h3
   refine aF (bB rfl ⟨rfl, trivial⟩ rfl)
  ·have h3 := aS c20 h3
   refine aO rfl rfl (aA rfl) rfl c20 (aU (aA rfl) rfl lH) ?_
   refine aO rfl rfl (aA rfl) rfl c20 (aW (aA rfl) rfl (i := 0) rfl rfl jA) ?_
   refine aO rfl rfl (aA rfl) rfl c20 (cX (aA rfl) rfl eY.of) ?_
   refine aO rfl rfl (aA rfl) rfl c20 (bC (aA rfl) rfl rfl rfl) ?_
   refine tr1 rfl (bP (v := .d (.lit (.bool ((decide (20 < (l_0.Bans.length : Int))))))) (aA rfl) rfl c20 rfl rfl) ?_
   have h3 := Option.some.inj h3
   subst h3
   refine aF (bB rfl ⟨rfl, trivial⟩ rfl)
 ·refine tr1 rfl (aC (v := .d (.lit (.bool b2))) (aA rfl) rfl rfl) ?_
  obtain ⟨b4, h5, h⟩ := bind_some h
  refine cA 5 [1] 19 b4 ?_ ?_
  ·refine bF (b2) (fun c19 => ?_) (fun c19 => ?_)
   ·have h5 := aT c19 h5
    refine aR rfl rfl (aA rfl) rfl (aA rfl) rfl c19 ?_
    refine aR rfl rfl (aA rfl) rfl (aA rfl) rfl c19 ?_
    refine aR rfl rfl (aA rfl) rfl (aA rfl) rfl c19 ?_
    refine aR rfl rfl (aA rfl) rfl (aA rfl) rfl c19 ?_
    refine tr1 rfl (bN (v := .d (.lit (.bool true))) (aA rfl) rfl c19 rfl rfl) ?_
    have h5 := Option.some.inj h5
    subst h5
    refine aF (bB rfl ⟨rfl, trivial⟩ rfl)
   ·have h5 := aS c19 h5
    refine aO rfl rfl (aA rfl) rfl c19 (aU (aA rfl) rfl kG) ?_
    refine aO rfl rfl (aA rfl) rfl c19 (aW (aA rfl) rfl (i := 0) rfl rfl jA) ?_
    refine aO rfl rfl (aA rfl) rfl c19 (cX (aA rfl) rfl eY.of) ?_
    refine aO rfl rfl (aA rfl) rfl c19 (bC (aA rfl) rfl rfl rfl) ?_
    refine tr1 rfl (bP (v := .d (.lit (.bool ((decide (20 < (l_0.Frozen.length : Int))))))) (aA rfl) rfl c19 rfl rfl) ?_
    have h5 := Option.some.inj h5
    subst h5
    refine aF (bB rfl ⟨rfl, trivial⟩ rfl)
  ·refine aF ?_
   refine bJ rfl (fun c6 => ?_) (fun c6 => ?_)
   ·have h := aT c6 h
    refine aG ?_
    refine aE ?_
    refine tr1 rfl (aJ (v := .d (.lit (.bool true))) (aA rfl) rfl rfl) ?_
    refine aF ?_
    have h := Option.some.inj h
    subst h
    refine cR (cE (cM (l := [2]) ⟨rfl, trivial⟩)) ?_
    exact bM ⟨rfl, _, .one _, rfl, rfl⟩
   ·have h := aS c6 h
    refine bG ?_
    refine aG ?_
    refine aG ?_
    refine aE ?_
    refine tr1 rfl (cH (aA rfl) rfl (i := 0) rfl dW (es := (aN l_0)) rfl rfl) ?_
    obtain ⟨r7, h8, h⟩ := bind_some h
    refine tr1 rfl (cC (aA rfl) (.func _ _ Try.call15) rfl rfl (BVs.refl _ _) (qF _ h8) rfl) ?_
    refine tr1 rfl (bC (aA rfl) rfl rfl rfl) ?_
    refine aF ?_
    refine bJ rfl (fun c9 => ?_) (fun c9 => ?_)
    ·have h := aT c9 h
     refine aG ?_
     refine aE ?_
     refine tr1 rfl (aJ (v := .d (.lit (.bool false))) (aA rfl) rfl rfl) ?_
     refine aF ?_
     have h := Option.some.inj h
     subst h
     refine cR (cE (cM (l := [2]) ⟨rfl, trivial⟩)) ?_
     exact bM ⟨rfl, _, .one _, rfl, rfl⟩
    ·have h := aS c9 h
     refine bG ?_
     refine aG ?_
     refine aG ?_
     refine aE ?_
     refine tr1 rfl (aJ (v := .d (.lit (.int .i64 0))) (aA rfl) rfl rfl) ?_
     refine aF ?_
     refine bQ ?_
     refine cG [1] (fun (s10 : Int) => [(3, .d (.lit (.int .i64 s10)))]) (fun (s10 : Int) => [.box b1 0 (aN l_0)]) (fun (k : Nat) (s10 : Int) => fW l_0 k s10) (fun _ => rfl) (0) h (aX [0] rfl rfl (aM rfl (aV ⟨rfl, trivial⟩))) ?_
     rintro k11 i_0_10 h
     simp only [fW] at h
     refine aG ?_
     refine aG ?_
     refine aE ?_
     refine tr1 rfl (aC (v := .d (.lit (.int .i64 i_0_10))) (aA rfl) rfl rfl) ?_
     refine tr1 rfl (aU (aA rfl) rfl eH) ?_
     refine tr1 rfl (aW (aA rfl) rfl (i := 0) rfl rfl iZ) ?_
     refine tr1 rfl (cX (aA rfl) rfl bR.of) ?_
     refine tr1 rfl (bC (aA rfl) rfl rfl rfl) ?_
     refine aF ?_
     refine bJ rfl (fun c12 => ?_) (fun c12 => ?_)
     ·have h := aT c12 h
      refine bG ?_
      refine aG ?_
      refine bQ ?_
      refine aG ?_
      refine aE ?_
      refine tr1 rfl (aU (aA rfl) rfl eH) ?_
      refine tr1 rfl (aW (aA rfl) rfl (i := 0) rfl rfl iZ) ?_
      refine tr1 rfl (aC (v := .d (.lit (.int .i64 i_0_10))) (aA rfl) rfl rfl) ?_
      obtain ⟨x13, h14, h⟩ := bind_some h
      refine tr1 rfl (bO (aA rfl) rfl rfl bR.of (bI aB h14)) ?_
      refine tr1 rfl (bZ (aA rfl) rfl lI (es := [.lit (.int .i64 x13.Week)]) rfl) ?_
      refine tr1 rfl (bX (aA rfl) rfl bH) ?_
      refine tr1 rfl (bC (aA rfl) rfl rfl rfl) ?_
      refine aF ?_
      refine bJ rfl (fun c15 => ?_) (fun c15 => ?_)
      ·have h := aT c15 h
       refine aG ?_
       refine aE ?_
       refine tr1 rfl (aJ (v := .d (.lit (.bool true))) (aA rfl) rfl rfl) ?_
       refine aF ?_
       have h := Option.some.inj h
       subst h
       refine cR (cE (cM (l := [2]) ⟨rfl, trivial⟩)) ?_
       exact bM ⟨rfl, _, .one _, rfl, rfl⟩
      ·have h := aS c15 h
       refine dS ?_
       refine aE ?_
       refine tr1 rfl (aC (v := .d (.lit (.int .i64 i_0_10))) (aA rfl) rfl rfl) ?_
       refine tr1 rfl (aZ (aA rfl) rfl rfl rfl) ?_
       refine tr1 rfl (aJ (v := .d (.lit (.int .i64 ((w64 (i_0_10 + 1)))))) (aA rfl) rfl rfl) ?_
       refine aF ?_
       exact ⟨(w64 (i_0_10 + 1)), h, aX [0] rfl rfl (aM rfl (aV ⟨rfl, trivial⟩))⟩
     ·have h := aS c12 h
      refine cN ?_
      refine .inl ⟨rfl, ?_⟩
      simp only [kP] at h
      refine aG ?_
      refine aE ?_
      refine tr1 rfl (aU (aA rfl) rfl iJ) ?_
      refine tr1 rfl (aW (aA rfl) rfl (i := 0) rfl rfl bH) ?_
      refine tr1 rfl (bC (aA rfl) rfl rfl rfl) ?_
      refine tr1 rfl (aC (v := .d (.lit (.bool ((decide (5 < l_0.Players)))))) (aA rfl) rfl rfl) ?_
      obtain ⟨b16, h17, h⟩ := bind_some h
      refine cA 5 [] 45 b16 ?_ ?_
      ·refine bF (decide (5 < l_0.Players)) (fun c18 => ?_) (fun c18 => ?_)
       ·have h17 := aT c18 h17
        refine aR rfl rfl (aA rfl) rfl (aA rfl) rfl c18 ?_
        refine aR rfl rfl (aA rfl) rfl (aA rfl) rfl c18 ?_
        refine aR rfl rfl (aA rfl) rfl (aA rfl) rfl c18 ?_
        refine aR rfl rfl (aA rfl) rfl (aA rfl) rfl c18 ?_
        refine tr1 rfl (bN (v := .d (.lit (.bool true))) (aA rfl) rfl c18 rfl rfl) ?_
        have h17 := Option.some.inj h17
        subst h17
        refine aF (bB rfl trivial rfl)
       ·have h17 := aS c18 h17
        refine aO rfl rfl (aA rfl) rfl c18 (aU (aA rfl) rfl eH) ?_
        refine aO rfl rfl (aA rfl) rfl c18 (aW (aA rfl) rfl (i := 0) rfl rfl iZ) ?_
        refine aO rfl rfl (aA rfl) rfl c18 (cX (aA rfl) rfl bR.of) ?_
        refine aO rfl rfl (aA rfl) rfl c18 (bC (aA rfl) rfl rfl rfl) ?_
        refine tr1 rfl (bP (v := .d (.lit (.bool ((decide (10 < (l_0.Reports.length : Int))))))) (aA rfl) rfl c18 rfl rfl) ?_
        have h17 := Option.some.inj h17
        subst h17
        refine aF (bB rfl trivial rfl)
      ·refine tr1 rfl (aJ (v := .d (.lit (.bool b16))) (aA rfl) rfl rfl) ?_
       refine aF ?_
       have h := Option.some.inj h
       subst h
       refine cR (cE (cM (l := [2]) ⟨rfl, trivial⟩)) ?_
       exact bM ⟨rfl, _, .one _, rfl, rfl⟩

theorem zR (week_0 : Int) {r : Bool} (h : nS week_0 = some r) : Fn Try.prog 14 [.d (.lit (.int .i64 week_0))] (.d (.lit (.bool r))) := by
 unfold nS at h
 refine Fn.of_tr Try.func14 rfl (rs := [.tmp 2]) Try.results14 Try.ntmps14 (Nat.le_of_ble_eq_true rfl) ?_
 refine aG ?_
 refine aE ?_
 refine tr1 rfl (aJ (v := .d (.lit (.bool false))) (aA rfl) rfl rfl) ?_
 refine aF ?_
 refine aG ?_
 refine aE ?_
 refine tr1 rfl (aC (v := .d (.lit (.int .i64 week_0))) (aA rfl) rfl rfl) ?_
 refine tr1 rfl (bC (aA rfl) rfl rfl rfl) ?_
 refine tr1 rfl (aC (v := .d (.lit (.bool ((decide (250 < week_0)))))) (aA rfl) rfl rfl) ?_
 obtain ⟨b1, h2, h⟩ := bind_some h
 refine cA 3 [] 8 b1 ?_ ?_
 ·refine bF (decide (250 < week_0)) (fun c3 => ?_) (fun c3 => ?_)
  ·have h2 := aT c3 h2
   refine aO rfl rfl (aA rfl) rfl c3 (aC (v := .d (.lit (.int .i64 week_0))) (aA rfl) rfl rfl) ?_
   refine aO rfl rfl (aA rfl) rfl c3 (bC (aA rfl) rfl rfl rfl) ?_
   refine tr1 rfl (bN (v := .d (.lit (.bool ((decide (week_0 ≤ 400)))))) (aA rfl) rfl c3 rfl rfl) ?_
   have h2 := Option.some.inj h2
   subst h2
   refine aF (bB rfl trivial rfl)
  ·have h2 := aS c3 h2
   refine aR rfl rfl (aA rfl) rfl (aA rfl) rfl c3 ?_
   refine aR rfl rfl (aA rfl) rfl (aA rfl) rfl c3 ?_
   refine tr1 rfl (bP (v := .d (.lit (.bool false))) (aA rfl) rfl c3 rfl rfl) ?_
   have h2 := Option.some.inj h2
   subst h2
   refine aF (bB rfl trivial rfl)
 ·refine tr1 rfl (aJ (v := .d (.lit (.bool b1))) (aA rfl) rfl rfl) ?_
  refine aF ?_
  have h := Option.some.inj h
  subst h
  exact bM ⟨rfl, _, .one _, rfl, rfl⟩

theorem wW {r : aL} (h : qD = some r) : Fn Try.prog 43 [] (.agg (aN r)) := by
 unfold qD at h
 refine rL Try.func43 rfl (rs := [.cell 0 25]) Try.results43 Try.ntmps43 (Nat.le_of_ble_eq_true rfl) ?_
 refine aG ?_
 refine aE ?_
 refine bW rfl (fV (zs := [.lit (.int .i64 0), .lit (.int .i64 0), .sl 5 ((([] : List aD)).map aB), .sl 3 ((([] : List bA)).map aK), .sl 3 ((([] : List bA)).map aK)]) (aA rfl) Try.zeroValue25 rfl rfl) ?_
 rintro _ ⟨b1, rfl⟩
 refine aF ?_
 refine aG ?_
 refine aE ?_
 refine tr1 rfl (mY (aA rfl) tY (zs := [.lit (.int .i64 0), .lit (.int .i64 0), .lit (.int .i64 0), .lit (.int .i64 0), .lit (.bool false)]) rfl rfl rfl rfl (es := [.lit (.int .i64 1), .lit (.int .i64 0), .lit (.int .i64 10), .lit (.int .i64 500), .lit (.bool false)]) rfl) ?_
 refine tr1 rfl (mY (aA rfl) tY (zs := [.lit (.int .i64 0), .lit (.int .i64 0), .lit (.int .i64 0), .lit (.int .i64 0), .lit (.bool false)]) rfl rfl rfl rfl (es := [.lit (.int .i64 2), .lit (.int .i64 0), .lit (.int .i64 20), .lit (.int .i64 300), .lit (.bool false)]) rfl) ?_
 refine tr1 rfl (mY (aA rfl) tY (zs := [.lit (.int .i64 0), .lit (.int .i64 0), .lit (.int .i64 0), .lit (.int .i64 0), .lit (.bool false)]) rfl rfl rfl rfl (es := [.lit (.int .i64 3), .lit (.int .i64 0), .lit (.int .i64 30), .lit (.int .i64 100), .lit (.bool true)]) rfl) ?_
 refine tr1 rfl (mY (aA rfl) tY (zs := [.lit (.int .i64 0), .lit (.int .i64 0), .lit (.int .i64 0), .lit (.int .i64 0), .lit (.bool false)]) rfl rfl rfl rfl (es := [.lit (.int .i64 4), .lit (.int .i64 1), .lit (.int .i64 12), .lit (.int .i64 400), .lit (.bool false)]) rfl) ?_
 refine tr1 rfl (mY (aA rfl) tY (zs := [.lit (.int .i64 0), .lit (.int .i64 0), .lit (.int .i64 0), .lit (.int .i64 0), .lit (.bool false)]) rfl rfl rfl rfl (es := [.lit (.int .i64 5), .lit (.int .i64 1), .lit (.int .i64 40), .lit (.int .i64 200), .lit (.bool false)]) rfl) ?_
 refine tr1 rfl (mY (aA rfl) tY (zs := [.lit (.int .i64 0), .lit (.int .i64 0), .lit (.int .i64 0), .lit (.int .i64 0), .lit (.bool false)]) rfl rfl rfl rfl (es := [.lit (.int .i64 6), .lit (.int .i64 2), .lit (.int .i64 15), .lit (.int .i64 600), .lit (.bool false)]) rfl) ?_
 refine tr1 rfl (iL (aA rfl) bR rfl rfl (rows := ([(aD.mk 1 0 10 500 false), (aD.mk 2 0 20 300 false), (aD.mk 3 0 30 100 true), (aD.mk 4 1 12 400 false), (aD.mk 5 1 40 200 false), (aD.mk 6 2 15 600 false)]).map aB) rfl (cP (f := aB) fun _ => rfl) rfl (by decide)) ?_
 refine tr1 rfl (mY (aA rfl) aHz (zs := [.lit (.int .i64 0), .lit (.int .i64 0), .lit (.int .i64 0)]) rfl rfl rfl rfl (es := [.lit (.int .i64 1), .lit (.int .i64 50), .lit (.int .i64 55)]) rfl) ?_
 refine tr1 rfl (iL (aA rfl) eY rfl rfl (rows := ([(bA.mk 1 50 55)]).map aK) rfl (cP (f := aK) fun _ => rfl) rfl (by decide)) ?_
 refine tr1 rfl (mY (aA rfl) aHz (zs := [.lit (.int .i64 0), .lit (.int .i64 0), .lit (.int .i64 0)]) rfl rfl rfl rfl (es := [.lit (.int .i64 2), .lit (.int .i64 20), .lit (.int .i64 29)]) rfl) ?_
 refine tr1 rfl (iL (aA rfl) eY rfl rfl (rows := ([(bA.mk 2 20 29)]).map aK) rfl (cP (f := aK) fun _ => rfl) rfl (by decide)) ?_
 refine tr1 rfl (mY (aA rfl) aLd (zs := [.lit (.int .i64 0), .lit (.int .i64 0), .sl 5 ((([] : List aD)).map aB), .sl 3 ((([] : List bA)).map aK), .sl 3 ((([] : List bA)).map aK)]) rfl rfl rfl rfl (es := [.lit (.int .i64 3), .lit (.int .i64 2), .sl 5 ((([(aD.mk 1 0 10 500 false), (aD.mk 2 0 20 300 false), (aD.mk 3 0 30 100 true), (aD.mk 4 1 12 400 false), (aD.mk 5 1 40 200 false), (aD.mk 6 2 15 600 false)])).map aB), .sl 3 ((([(bA.mk 1 50 55)])).map aK), .sl 3 ((([(bA.mk 2 20 29)])).map aK)]) rfl) ?_
 refine tr1 rfl (cD (i := 0) rfl rfl rfl rfl rfl Try.sizeOf25 rfl (aA rfl) (Nat.le_of_ble_eq_true rfl) (ds' := (aN (aL.mk 3 2 ([(aD.mk 1 0 10 500 false), (aD.mk 2 0 20 300 false), (aD.mk 3 0 30 100 true), (aD.mk 4 1 12 400 false), (aD.mk 5 1 40 200 false), (aD.mk 6 2 15 600 false)]) ([(bA.mk 1 50 55)]) ([(bA.mk 2 20 29)])))) rfl) ?_
 refine aF ?_
 have h := Option.some.inj h
 subst h
 exact bM ⟨rfl, _, [.box b1 0 (aN (aL.mk 3 2 ([(aD.mk 1 0 10 500 false), (aD.mk 2 0 20 300 false), (aD.mk 3 0 30 100 true), (aD.mk 4 1 12 400 false), (aD.mk 5 1 40 200 false), (aD.mk 6 2 15 600 false)]) ([(bA.mk 1 50 55)]) ([(bA.mk 2 20 29)])))], .one (.cell 0 25 rfl (i := 0) rfl dW (es := (aN (aL.mk 3 2 ([(aD.mk 1 0 10 500 false), (aD.mk 2 0 20 300 false), (aD.mk 3 0 30 100 true), (aD.mk 4 1 12 400 false), (aD.mk 5 1 40 200 false), (aD.mk 6 2 15 600 false)]) ([(bA.mk 1 50 55)]) ([(bA.mk 2 20 29)])))) rfl rfl), .refl _, .same _⟩

theorem fC (n_0 : Int) (low_1 : Int) (high_2 : Int) {r : Bool} (h : eW n_0 low_1 high_2 = some r) : Fn Try.prog 47 [.d (.lit (.int .i64 n_0)), .d (.lit (.int .i64 low_1)), .d (.lit (.int .i64 high_2))] (.d (.lit (.bool r))) := by
 unfold eW at h
 refine Fn.of_tr Try.func47 rfl (rs := [.tmp 6]) Try.results47 Try.ntmps47 (Nat.le_of_ble_eq_true rfl) ?_
 refine aG ?_
 refine aE ?_
 refine tr1 rfl (aJ (v := .d (.lit (.bool false))) (aA rfl) rfl rfl) ?_
 refine aF ?_
 refine aG ?_
 refine aE ?_
 refine tr1 rfl (aC (v := .d (.lit (.int .i64 low_1))) (aA rfl) rfl rfl) ?_
 refine tr1 rfl (aC (v := .d (.lit (.int .i64 n_0))) (aA rfl) rfl rfl) ?_
 refine tr1 rfl (bC (aA rfl) rfl rfl rfl) ?_
 refine tr1 rfl (aC (v := .d (.lit (.bool ((decide (low_1 ≤ n_0)))))) (aA rfl) rfl rfl) ?_
 obtain ⟨b1, h2, h⟩ := bind_some h
 refine cA 4 [] 14 b1 ?_ ?_
 ·refine bF (decide (low_1 ≤ n_0)) (fun c3 => ?_) (fun c3 => ?_)
  ·have h2 := aT c3 h2
   refine aO rfl rfl (aA rfl) rfl c3 (aC (v := .d (.lit (.int .i64 n_0))) (aA rfl) rfl rfl) ?_
   refine aO rfl rfl (aA rfl) rfl c3 (aC (v := .d (.lit (.int .i64 high_2))) (aA rfl) rfl rfl) ?_
   refine aO rfl rfl (aA rfl) rfl c3 (bC (aA rfl) rfl rfl rfl) ?_
   refine tr1 rfl (bN (v := .d (.lit (.bool ((decide (n_0 ≤ high_2)))))) (aA rfl) rfl c3 rfl rfl) ?_
   have h2 := Option.some.inj h2
   subst h2
   refine aF (bB rfl trivial rfl)
  ·have h2 := aS c3 h2
   refine aR rfl rfl (aA rfl) rfl (aA rfl) rfl c3 ?_
   refine aR rfl rfl (aA rfl) rfl (aA rfl) rfl c3 ?_
   refine aR rfl rfl (aA rfl) rfl (aA rfl) rfl c3 ?_
   refine tr1 rfl (bP (v := .d (.lit (.bool false))) (aA rfl) rfl c3 rfl rfl) ?_
   have h2 := Option.some.inj h2
   subst h2
   refine aF (bB rfl trivial rfl)
 ·refine tr1 rfl (aJ (v := .d (.lit (.bool b1))) (aA rfl) rfl rfl) ?_
  refine aF ?_
  have h := Option.some.inj h
  subst h
  exact bM ⟨rfl, _, .one _, rfl, rfl⟩

theorem sQ (s_0 : List bA) (f_1 : bA → Option Bool) {r : Int} (f_1_f : Nat) (f_1_v : List AV) (f_1_e : ∀ args w, (callFunc f_1_f args).run Try.prog w = .ok (.enter f_1_f args) w) (f_1_h : ∀ (x0 : bA) r, f_1 x0 = some r → Fn Try.prog f_1_f ([.agg (aK x0)] ++ f_1_v) (.d (.lit (.bool r)))) (h : gY s_0 f_1 = some r) : Fn Try.prog 97 [.d (.sl 3 (s_0.map aK)), .fn f_1_f f_1_v] (.d (.lit (.int .i64 r))) := by
 unfold gY at h
 refine Fn.of_tr Try.func97 rfl (rs := [.tmp 4]) Try.results97 Try.ntmps97 (Nat.le_of_ble_eq_true rfl) ?_
 refine aG ?_
 refine aE ?_
 refine tr1 rfl (aJ (v := .d (.lit (.int .i64 0))) (aA rfl) rfl rfl) ?_
 refine aF ?_
 refine aG ?_
 refine aG ?_
 refine aE ?_
 refine tr1 rfl (aC (v := .d (.sl 3 (s_0.map aK))) (aA rfl) rfl rfl) ?_
 refine tr1 rfl (cX (aA rfl) rfl eY.of) ?_
 refine tr1 rfl (aC (v := .d (.lit (.int .i64 0))) (aA rfl) rfl rfl) ?_
 refine aF ?_
 refine bQ ?_
 refine cG [0, 1, 7] (fun (s1 : Int) => [(8, .d (.lit (.int .i64 s1)))]) (fun (s1 : Int) => []) (fun (k : Nat) (s1 : Int) => eJ s_0 f_1 (s_0.length : Int) k s1) (fun _ => rfl) (0) h (aX [] rfl rfl (aM rfl (aV ⟨rfl, rfl, rfl, trivial⟩))) ?_
 rintro k2 t8_0_1 h
 simp only [eJ] at h
 refine aG ?_
 refine aE ?_
 refine tr1 rfl (bC (aA rfl) rfl rfl rfl) ?_
 refine aF ?_
 refine aG ?_
 refine bJ rfl (fun c3 => ?_) (fun c3 => ?_)
 ·have h := aT c3 h
  refine bG ?_
  refine aG ?_
  refine bQ ?_
  refine aG ?_
  refine aE ?_
  refine tr1 rfl (aC (v := .d (.lit (.int .i64 t8_0_1))) (aA rfl) rfl rfl) ?_
  refine tr1 rfl (aJ (v := .d (.lit (.int .i64 t8_0_1))) (aA rfl) rfl rfl) ?_
  refine aF ?_
  refine aG ?_
  refine aE ?_
  refine tr1 rfl (aC (v := .fn f_1_f f_1_v) (aA rfl) rfl rfl) ?_
  refine tr1 rfl (aC (v := .d (.sl 3 (s_0.map aK))) (aA rfl) rfl rfl) ?_
  refine tr1 rfl (aC (v := .d (.lit (.int .i64 t8_0_1))) (aA rfl) rfl rfl) ?_
  obtain ⟨x4, h5, h⟩ := bind_some h
  refine tr1 rfl (bO (aA rfl) rfl rfl eY.of (bI aK h5)) ?_
  refine tr1 rfl (fJ (aA rfl) rfl yA (es := (aK x4)) rfl rfl) ?_
  obtain ⟨r6, h7, h⟩ := bind_some h
  refine tr1 rfl (cC (aA rfl) (.clo _ _ _ _ f_1_e rfl) (uS rfl) rfl (BVs.refl _ _) (f_1_h _ _  h7) rfl) ?_
  refine aF ?_
  refine bJ rfl (fun c8 => ?_) (fun c8 => ?_)
  ·have h := aT c8 h
   refine aG ?_
   refine aE ?_
   refine tr1 rfl (aC (v := .d (.lit (.int .i64 t8_0_1))) (aA rfl) rfl rfl) ?_
   refine tr1 rfl (aJ (v := .d (.lit (.int .i64 t8_0_1))) (aA rfl) rfl rfl) ?_
   refine aF ?_
   have h := Option.some.inj h
   subst h
   exact bM ⟨rfl, _, .one _, rfl, rfl⟩
  ·have h := aS c8 h
   refine dS ?_
   refine aE ?_
   refine tr1 rfl (aZ (aA rfl) rfl rfl rfl) ?_
   refine tr1 rfl (aC (v := .d (.lit (.int .i64 ((w64 (t8_0_1 + 1)))))) (aA rfl) rfl rfl) ?_
   refine aF ?_
   exact ⟨(w64 (t8_0_1 + 1)), h, aX [] rfl rfl (aM rfl (aV ⟨rfl, rfl, rfl, trivial⟩))⟩
 ·have h := aS c3 h
  refine cN ?_
  refine .inl ⟨rfl, ?_⟩
  simp only [kD] at h
  refine aG ?_
  refine aE ?_
  refine tr1 rfl (aJ (v := .d (.lit (.int .i64 (-1)))) (aA rfl) rfl rfl) ?_
  refine aF ?_
  have h := Option.some.inj h
  subst h
  exact bM ⟨rfl, _, .one _, rfl, rfl⟩

theorem jY (s_0 : List bA) (f_1 : bA → Option Bool) {r : Bool} (f_1_f : Nat) (f_1_v : List AV) (f_1_e : ∀ args w, (callFunc f_1_f args).run Try.prog w = .ok (.enter f_1_f args) w) (f_1_h : ∀ (x0 : bA) r, f_1 x0 = some r → Fn Try.prog f_1_f ([.agg (aK x0)] ++ f_1_v) (.d (.lit (.bool r)))) (h : eI s_0 f_1 = some r) : Fn Try.prog 82 [.d (.sl 3 (s_0.map aK)), .fn f_1_f f_1_v] (.d (.lit (.bool r))) := by
 unfold eI at h
 refine Fn.of_tr Try.func82 rfl (rs := [.tmp 4]) Try.results82 Try.ntmps82 (Nat.le_of_ble_eq_true rfl) ?_
 refine aG ?_
 refine aE ?_
 refine tr1 rfl (aJ (v := .d (.lit (.bool false))) (aA rfl) rfl rfl) ?_
 refine aF ?_
 refine aG ?_
 refine aE ?_
 refine tr1 rfl (aC (v := .d (.sl 3 (s_0.map aK))) (aA rfl) rfl rfl) ?_
 refine tr1 rfl (aC (v := .fn f_1_f f_1_v) (aA rfl) rfl rfl) ?_
 obtain ⟨r1, h2, h⟩ := bind_some h
 refine tr1 rfl (cC (aA rfl) (.func _ _ Try.call97) rfl rfl (BVs.refl _ _) (sQ _ _ f_1_f f_1_v f_1_e f_1_h h2) rfl) ?_
 refine tr1 rfl (bC (aA rfl) rfl rfl rfl) ?_
 refine tr1 rfl (aJ (v := .d (.lit (.bool ((decide (0 ≤ r1)))))) (aA rfl) rfl rfl) ?_
 refine aF ?_
 have h := Option.some.inj h
 subst h
 exact bM ⟨rfl, _, .one _, rfl, rfl⟩

theorem yY (a_0 : bA) (c_1 : aL) {r : Bool} (h : nG a_0 c_1 = some r) : Fn Try.prog 126 [.agg (aK a_0), .cp (aN c_1)] (.d (.lit (.bool r))) := by
 unfold nG at h
 refine Fn.of_tr Try.func126 rfl (rs := [.tmp 3]) Try.results126 Try.ntmps126 (Nat.le_of_ble_eq_true rfl) ?_
 refine aG ?_
 refine aE ?_
 refine bW rfl (eN (v := .agg (aK a_0)) (aA rfl) rfl rfl rfl) ?_
 rintro _ ⟨b1, rfl⟩
 refine tr1 rfl (aJ (v := .d (.lit (.bool false))) (aA rfl) rfl rfl) ?_
 refine aF ?_
 refine aG ?_
 refine aE ?_
 refine tr1 rfl (aU (aA rfl) rfl lJ) ?_
 refine tr1 rfl (aW (aA rfl) rfl (i := 0) rfl rfl bH) ?_
 refine tr1 rfl (bZ (aA rfl) rfl iJ (es := [.lit (.int .i64 c_1.Players)]) rfl) ?_
 refine tr1 rfl (bX (aA rfl) rfl bH) ?_
 refine tr1 rfl (aZ (aA rfl) rfl rfl rfl) ?_
 obtain ⟨r2, h3, h⟩ := bind_some h
 refine tr1 rfl (cC (aA rfl) (.func _ _ Try.call47) rfl rfl (BVs.refl _ _) (fC _ _ _ h3) rfl) ?_
 refine tr1 rfl (eM (aA rfl) rfl) ?_
 refine tr1 rfl (aC (v := .d (.lit (.bool (!r2)))) (aA rfl) rfl rfl) ?_
 obtain ⟨b4, h5, h⟩ := bind_some h
 refine cA 6 [2] 17 b4 ?_ ?_
 ·refine bF (!r2) (fun c16 => ?_) (fun c16 => ?_)
  ·have h5 := aT c16 h5
   refine aR rfl rfl (aA rfl) rfl (aA rfl) rfl c16 ?_
   refine aR rfl rfl (aA rfl) rfl (aA rfl) rfl c16 ?_
   refine aR rfl rfl (aA rfl) rfl (aA rfl) rfl c16 ?_
   refine aR rfl rfl (aA rfl) rfl (aA rfl) rfl c16 ?_
   refine aR rfl rfl (aA rfl) rfl (aA rfl) rfl c16 ?_
   refine tr1 rfl (bN (v := .d (.lit (.bool true))) (aA rfl) rfl c16 rfl rfl) ?_
   have h5 := Option.some.inj h5
   subst h5
   refine aF (bB rfl ⟨rfl, trivial⟩ rfl)
  ·have h5 := aS c16 h5
   refine aO rfl rfl (aA rfl) rfl c16 (aU (aA rfl) rfl kI) ?_
   refine aO rfl rfl (aA rfl) rfl c16 (aW (aA rfl) rfl (i := 0) rfl rfl bH) ?_
   refine aO rfl rfl (aA rfl) rfl c16 (aU (aA rfl) rfl mI) ?_
   refine aO rfl rfl (aA rfl) rfl c16 (aW (aA rfl) rfl (i := 0) rfl rfl bH) ?_
   refine aO rfl rfl (aA rfl) rfl c16 (bC (aA rfl) rfl rfl rfl) ?_
   refine tr1 rfl (bP (v := .d (.lit (.bool ((decide (a_0.To < a_0.From)))))) (aA rfl) rfl c16 rfl rfl) ?_
   have h5 := Option.some.inj h5
   subst h5
   refine aF (bB rfl ⟨rfl, trivial⟩ rfl)
 ·refine tr1 rfl (aC (v := .d (.lit (.bool b4))) (aA rfl) rfl rfl) ?_
  obtain ⟨b6, h7, h⟩ := bind_some h
  refine cA 5 [2] 23 b6 ?_ ?_
  ·refine bF (b4) (fun c13 => ?_) (fun c13 => ?_)
   ·have h7 := aT c13 h7
    refine aR rfl rfl (aA rfl) rfl (aA rfl) rfl c13 ?_
    refine aR rfl rfl (aA rfl) rfl (aA rfl) rfl c13 ?_
    refine aR rfl rfl (aA rfl) rfl (aA rfl) rfl c13 ?_
    refine aR rfl rfl (aA rfl) rfl (aA rfl) rfl c13 ?_
    refine tr1 rfl (bN (v := .d (.lit (.bool true))) (aA rfl) rfl c13 rfl rfl) ?_
    have h7 := Option.some.inj h7
    subst h7
    refine aF (bB rfl ⟨rfl, trivial⟩ rfl)
   ·have h7 := aS c13 h7
    refine aO rfl rfl (aA rfl) rfl c13 (aU (aA rfl) rfl kI) ?_
    refine aO rfl rfl (aA rfl) rfl c13 (aW (aA rfl) rfl (i := 0) rfl rfl bH) ?_
    obtain ⟨r14, h15, h7⟩ := bind_some h7
    refine aO rfl rfl (aA rfl) rfl c13 (cC (aA rfl) (.func _ _ Try.call47) rfl rfl (BVs.refl _ _) (fC _ _ _ h15) rfl) ?_
    refine aO rfl rfl (aA rfl) rfl c13 (eM (aA rfl) rfl) ?_
    refine tr1 rfl (bP (v := .d (.lit (.bool (!r14)))) (aA rfl) rfl c13 rfl rfl) ?_
    have h7 := Option.some.inj h7
    subst h7
    refine aF (bB rfl ⟨rfl, trivial⟩ rfl)
  ·refine tr1 rfl (aC (v := .d (.lit (.bool b6))) (aA rfl) rfl rfl) ?_
   obtain ⟨b8, h9, h⟩ := bind_some h
   refine cA 5 [] 29 b8 ?_ ?_
   ·refine bF (b6) (fun c10 => ?_) (fun c10 => ?_)
    ·have h9 := aT c10 h9
     refine aR rfl rfl (aA rfl) rfl (aA rfl) rfl c10 ?_
     refine aR rfl rfl (aA rfl) rfl (aA rfl) rfl c10 ?_
     refine aR rfl rfl (aA rfl) rfl (aA rfl) rfl c10 ?_
     refine aR rfl rfl (aA rfl) rfl (aA rfl) rfl c10 ?_
     refine tr1 rfl (bN (v := .d (.lit (.bool true))) (aA rfl) rfl c10 rfl rfl) ?_
     have h9 := Option.some.inj h9
     subst h9
     refine aF (bB rfl trivial rfl)
    ·have h9 := aS c10 h9
     refine aO rfl rfl (aA rfl) rfl c10 (aU (aA rfl) rfl mI) ?_
     refine aO rfl rfl (aA rfl) rfl c10 (aW (aA rfl) rfl (i := 0) rfl rfl bH) ?_
     obtain ⟨r11, h12, h9⟩ := bind_some h9
     refine aO rfl rfl (aA rfl) rfl c10 (cC (aA rfl) (.func _ _ Try.call47) rfl rfl (BVs.refl _ _) (fC _ _ _ h12) rfl) ?_
     refine aO rfl rfl (aA rfl) rfl c10 (eM (aA rfl) rfl) ?_
     refine tr1 rfl (bP (v := .d (.lit (.bool (!r11)))) (aA rfl) rfl c10 rfl rfl) ?_
     have h9 := Option.some.inj h9
     subst h9
     refine aF (bB rfl trivial rfl)
   ·refine tr1 rfl (aJ (v := .d (.lit (.bool b8))) (aA rfl) rfl rfl) ?_
    refine aF ?_
    have h := Option.some.inj h
    subst h
    refine cR (cE (cM (l := [3]) ⟨rfl, trivial⟩)) ?_
    exact bM ⟨rfl, _, .one _, rfl, rfl⟩

theorem vA (l_0 : aL) (all_1 : List bA) {r : Bool} (h : mX l_0 all_1 = some r) : Fn Try.prog 104 [.agg (aN l_0), .d (.sl 3 (all_1.map aK))] (.d (.lit (.bool r))) := by
 unfold mX at h
 refine Fn.of_tr Try.func104 rfl (rs := [.tmp 4]) Try.results104 Try.ntmps104 (Nat.le_of_ble_eq_true rfl) ?_
 refine aG ?_
 refine aE ?_
 refine bW rfl (eN (v := .agg (aN l_0)) (aA rfl) rfl rfl rfl) ?_
 rintro _ ⟨b1, rfl⟩
 refine tr1 rfl (aJ (v := .d (.lit (.bool false))) (aA rfl) rfl rfl) ?_
 refine aF ?_
 refine aG ?_
 refine aE ?_
 refine tr1 rfl (aC (v := .d (.sl 3 (all_1.map aK))) (aA rfl) rfl rfl) ?_
 refine tr1 rfl (cX (aA rfl) rfl eY.of) ?_
 refine tr1 rfl (bC (aA rfl) rfl rfl rfl) ?_
 refine tr1 rfl (aC (v := .d (.lit (.bool ((decide ((all_1.length : Int) ≤ 8)))))) (aA rfl) rfl rfl) ?_
 obtain ⟨b2, h3, h⟩ := bind_some h
 refine cA 5 [] 13 b2 ?_ ?_
 ·refine bF (decide ((all_1.length : Int) ≤ 8)) (fun c4 => ?_) (fun c4 => ?_)
  ·have h3 := aT c4 h3
   refine aO rfl rfl (aA rfl) rfl c4 (aC (v := .d (.sl 3 (all_1.map aK))) (aA rfl) rfl rfl) ?_
   refine aO rfl rfl (aA rfl) rfl c4 (yZ (aA rfl) rfl rfl) ?_
   obtain ⟨r6, h7, h3⟩ := bind_some h3
   refine aO rfl rfl (aA rfl) rfl c4 (cC (aA rfl) (.func _ _ Try.call82) rfl rfl (.cons (.same _) (.cons ((aDk (.cons ((rM 0 rfl rfl (dvc (.same _) (dvc (.same _) (dvc (.same _) (dvc (.same _) (dvc (.same _) dvn))))))) .nil))) .nil)) (jY _ _ 126 [.cp [.lit (.int .i64 l_0.Players), .lit (.int .i64 l_0.Counts), .sl 5 (l_0.Reports.map aB), .sl 3 (l_0.Bans.map aK), .sl 3 (l_0.Frozen.map aK)]] Try.call126 (fun _ _ h3 => yY _ _ h3) h7) rfl) ?_
   refine aO rfl rfl (aA rfl) rfl c4 (eM (aA rfl) rfl) ?_
   refine tr1 rfl (bN (v := .d (.lit (.bool (!r6)))) (aA rfl) rfl c4 rfl rfl) ?_
   have h3 := Option.some.inj h3
   subst h3
   refine aF (bB rfl trivial rfl)
  ·have h3 := aS c4 h3
   refine aR rfl rfl (aA rfl) rfl (aA rfl) rfl c4 ?_
   refine aR rfl rfl (aA rfl) rfl (aA rfl) rfl c4 ?_
   refine aR rfl rfl (aA rfl) rfl (aA rfl) rfl c4 ?_
   refine aR rfl rfl (aA rfl) rfl (aA rfl) rfl c4 ?_
   refine tr1 rfl (bP (v := .d (.lit (.bool false))) (aA rfl) rfl c4 rfl rfl) ?_
   have h3 := Option.some.inj h3
   subst h3
   refine aF (bB rfl trivial rfl)
 ·refine tr1 rfl (aJ (v := .d (.lit (.bool b2))) (aA rfl) rfl rfl) ?_
  refine aF ?_
  have h := Option.some.inj h
  subst h
  refine cR (cE (cM (l := [4]) ⟨rfl, trivial⟩)) ?_
  exact bM ⟨rfl, _, .one _, rfl, rfl⟩

theorem zW (b_0 : bA) (c_1 : bA) {r : Bool} (h : nZ b_0 c_1 = some r) : Fn Try.prog 105 [.agg (aK b_0), .cp (aK c_1)] (.d (.lit (.bool r))) := by
 unfold nZ at h
 refine Fn.of_tr Try.func105 rfl (rs := [.tmp 3]) Try.results105 Try.ntmps105 (Nat.le_of_ble_eq_true rfl) ?_
 refine aG ?_
 refine aE ?_
 refine bW rfl (eN (v := .agg (aK b_0)) (aA rfl) rfl rfl rfl) ?_
 rintro _ ⟨b1, rfl⟩
 refine tr1 rfl (aJ (v := .d (.lit (.bool false))) (aA rfl) rfl rfl) ?_
 refine aF ?_
 refine aG ?_
 refine aE ?_
 refine tr1 rfl (bZ (aA rfl) rfl lJ (es := [.lit (.int .i64 c_1.Player)]) rfl) ?_
 refine tr1 rfl (bX (aA rfl) rfl bH) ?_
 refine tr1 rfl (aU (aA rfl) rfl lJ) ?_
 refine tr1 rfl (aW (aA rfl) rfl (i := 0) rfl rfl bH) ?_
 refine tr1 rfl (bC (aA rfl) rfl rfl rfl) ?_
 refine tr1 rfl (aC (v := .d (.lit (.bool ((decide (c_1.Player = b_0.Player)))))) (aA rfl) rfl rfl) ?_
 obtain ⟨b2, h3, h⟩ := bind_some h
 refine cA 6 [1, 2] 15 b2 ?_ ?_
 ·refine bF (decide (c_1.Player = b_0.Player)) (fun c7 => ?_) (fun c7 => ?_)
  ·have h3 := aT c7 h3
   refine aO rfl rfl (aA rfl) rfl c7 (bZ (aA rfl) rfl kI (es := [.lit (.int .i64 c_1.From)]) rfl) ?_
   refine aO rfl rfl (aA rfl) rfl c7 (bX (aA rfl) rfl bH) ?_
   refine aO rfl rfl (aA rfl) rfl c7 (aU (aA rfl) rfl mI) ?_
   refine aO rfl rfl (aA rfl) rfl c7 (aW (aA rfl) rfl (i := 0) rfl rfl bH) ?_
   refine aO rfl rfl (aA rfl) rfl c7 (bC (aA rfl) rfl rfl rfl) ?_
   refine tr1 rfl (bN (v := .d (.lit (.bool ((decide (c_1.From ≤ b_0.To)))))) (aA rfl) rfl c7 rfl rfl) ?_
   have h3 := Option.some.inj h3
   subst h3
   refine aF (bB rfl ⟨rfl, rfl, trivial⟩ rfl)
  ·have h3 := aS c7 h3
   refine aR rfl rfl (aA rfl) rfl (aA rfl) rfl c7 ?_
   refine aR rfl rfl (aA rfl) rfl (aA rfl) rfl c7 ?_
   refine aR rfl rfl (aA rfl) rfl (aA rfl) rfl c7 ?_
   refine aR rfl rfl (aA rfl) rfl (aA rfl) rfl c7 ?_
   refine aR rfl rfl (aA rfl) rfl (aA rfl) rfl c7 ?_
   refine tr1 rfl (bP (v := .d (.lit (.bool false))) (aA rfl) rfl c7 rfl rfl) ?_
   have h3 := Option.some.inj h3
   subst h3
   refine aF (bB rfl ⟨rfl, rfl, trivial⟩ rfl)
 ·refine tr1 rfl (aC (v := .d (.lit (.bool b2))) (aA rfl) rfl rfl) ?_
  obtain ⟨b4, h5, h⟩ := bind_some h
  refine cA 6 [] 22 b4 ?_ ?_
  ·refine bF (b2) (fun c6 => ?_) (fun c6 => ?_)
   ·have h5 := aT c6 h5
    refine aO rfl rfl (aA rfl) rfl c6 (aU (aA rfl) rfl kI) ?_
    refine aO rfl rfl (aA rfl) rfl c6 (aW (aA rfl) rfl (i := 0) rfl rfl bH) ?_
    refine aO rfl rfl (aA rfl) rfl c6 (bZ (aA rfl) rfl mI (es := [.lit (.int .i64 c_1.To)]) rfl) ?_
    refine aO rfl rfl (aA rfl) rfl c6 (bX (aA rfl) rfl bH) ?_
    refine aO rfl rfl (aA rfl) rfl c6 (bC (aA rfl) rfl rfl rfl) ?_
    refine tr1 rfl (bN (v := .d (.lit (.bool ((decide (b_0.From ≤ c_1.To)))))) (aA rfl) rfl c6 rfl rfl) ?_
    have h5 := Option.some.inj h5
    subst h5
    refine aF (bB rfl trivial rfl)
   ·have h5 := aS c6 h5
    refine aR rfl rfl (aA rfl) rfl (aA rfl) rfl c6 ?_
    refine aR rfl rfl (aA rfl) rfl (aA rfl) rfl c6 ?_
    refine aR rfl rfl (aA rfl) rfl (aA rfl) rfl c6 ?_
    refine aR rfl rfl (aA rfl) rfl (aA rfl) rfl c6 ?_
    refine aR rfl rfl (aA rfl) rfl (aA rfl) rfl c6 ?_
    refine tr1 rfl (bP (v := .d (.lit (.bool false))) (aA rfl) rfl c6 rfl rfl) ?_
    have h5 := Option.some.inj h5
    subst h5
    refine aF (bB rfl trivial rfl)
  ·refine tr1 rfl (aJ (v := .d (.lit (.bool b4))) (aA rfl) rfl rfl) ?_
   refine aF ?_
   have h := Option.some.inj h
   subst h
   refine cR (cE (cM (l := [3]) ⟨rfl, trivial⟩)) ?_
   exact bM ⟨rfl, _, .one _, rfl, rfl⟩

theorem aBt (l_0 : aL) {r : Bool} (h : pK l_0 = some r) : Fn Try.prog 89 [.agg (aN l_0)] (.d (.lit (.bool r))) := by
 unfold pK at h
 refine Fn.of_tr Try.func89 rfl (rs := [.tmp 2]) Try.results89 Try.ntmps89 (Nat.le_of_ble_eq_true rfl) ?_
 refine aG ?_
 refine aE ?_
 refine bW rfl (eN (v := .agg (aN l_0)) (aA rfl) rfl rfl rfl) ?_
 rintro _ ⟨b1, rfl⟩
 refine tr1 rfl (aJ (v := .d (.lit (.bool false))) (aA rfl) rfl rfl) ?_
 refine aF ?_
 refine aG ?_
 refine aG ?_
 refine aE ?_
 refine tr1 rfl (aU (aA rfl) rfl iJ) ?_
 refine tr1 rfl (aW (aA rfl) rfl (i := 0) rfl rfl bH) ?_
 obtain ⟨r2, h3, h⟩ := bind_some h
 refine tr1 rfl (cC (aA rfl) (.func _ _ Try.call47) rfl rfl (BVs.refl _ _) (fC _ _ _ h3) rfl) ?_
 refine tr1 rfl (eM (aA rfl) rfl) ?_
 refine tr1 rfl (aC (v := .d (.lit (.bool (!r2)))) (aA rfl) rfl rfl) ?_
 obtain ⟨b4, h5, h⟩ := bind_some h
 refine cA 5 [1] 16 b4 ?_ ?_
 ·refine bF (!r2) (fun c54 => ?_) (fun c54 => ?_)
  ·have h5 := aT c54 h5
   refine aR rfl rfl (aA rfl) rfl (aA rfl) rfl c54 ?_
   refine aR rfl rfl (aA rfl) rfl (aA rfl) rfl c54 ?_
   refine aR rfl rfl (aA rfl) rfl (aA rfl) rfl c54 ?_
   refine aR rfl rfl (aA rfl) rfl (aA rfl) rfl c54 ?_
   refine tr1 rfl (bN (v := .d (.lit (.bool true))) (aA rfl) rfl c54 rfl rfl) ?_
   have h5 := Option.some.inj h5
   subst h5
   refine aF (bB rfl ⟨rfl, trivial⟩ rfl)
  ·have h5 := aS c54 h5
   refine aO rfl rfl (aA rfl) rfl c54 (aU (aA rfl) rfl wZ) ?_
   refine aO rfl rfl (aA rfl) rfl c54 (aW (aA rfl) rfl (i := 0) rfl rfl bH) ?_
   obtain ⟨r55, h56, h5⟩ := bind_some h5
   refine aO rfl rfl (aA rfl) rfl c54 (cC (aA rfl) (.func _ _ Try.call47) rfl rfl (BVs.refl _ _) (fC _ _ _ h56) rfl) ?_
   refine aO rfl rfl (aA rfl) rfl c54 (eM (aA rfl) rfl) ?_
   refine tr1 rfl (bP (v := .d (.lit (.bool (!r55)))) (aA rfl) rfl c54 rfl rfl) ?_
   have h5 := Option.some.inj h5
   subst h5
   refine aF (bB rfl ⟨rfl, trivial⟩ rfl)
 ·refine tr1 rfl (aC (v := .d (.lit (.bool b4))) (aA rfl) rfl rfl) ?_
  obtain ⟨b6, h7, h⟩ := bind_some h
  refine cA 5 [1] 22 b6 ?_ ?_
  ·refine bF (b4) (fun c53 => ?_) (fun c53 => ?_)
   ·have h7 := aT c53 h7
    refine aR rfl rfl (aA rfl) rfl (aA rfl) rfl c53 ?_
    refine aR rfl rfl (aA rfl) rfl (aA rfl) rfl c53 ?_
    refine aR rfl rfl (aA rfl) rfl (aA rfl) rfl c53 ?_
    refine aR rfl rfl (aA rfl) rfl (aA rfl) rfl c53 ?_
    refine tr1 rfl (bN (v := .d (.lit (.bool true))) (aA rfl) rfl c53 rfl rfl) ?_
    have h7 := Option.some.inj h7
    subst h7
    refine aF (bB rfl ⟨rfl, trivial⟩ rfl)
   ·have h7 := aS c53 h7
    refine aO rfl rfl (aA rfl) rfl c53 (aU (aA rfl) rfl eH) ?_
    refine aO rfl rfl (aA rfl) rfl c53 (aW (aA rfl) rfl (i := 0) rfl rfl iZ) ?_
    refine aO rfl rfl (aA rfl) rfl c53 (cX (aA rfl) rfl bR.of) ?_
    refine aO rfl rfl (aA rfl) rfl c53 (bC (aA rfl) rfl rfl rfl) ?_
    refine tr1 rfl (bP (v := .d (.lit (.bool ((decide (40 < (l_0.Reports.length : Int))))))) (aA rfl) rfl c53 rfl rfl) ?_
    have h7 := Option.some.inj h7
    subst h7
    refine aF (bB rfl ⟨rfl, trivial⟩ rfl)
  ·refine aF ?_
   refine bJ rfl (fun c8 => ?_) (fun c8 => ?_)
   ·have h := aT c8 h
    refine aG ?_
    refine aE ?_
    refine tr1 rfl (aJ (v := .d (.lit (.bool false))) (aA rfl) rfl rfl) ?_
    refine aF ?_
    have h := Option.some.inj h
    subst h
    refine cR (cE (cM (l := [2]) ⟨rfl, trivial⟩)) ?_
    exact bM ⟨rfl, _, .one _, rfl, rfl⟩
   ·have h := aS c8 h
    refine bG ?_
    refine aG ?_
    refine aG ?_
    refine aE ?_
    refine tr1 rfl (aU (aA rfl) rfl eH) ?_
    refine tr1 rfl (aW (aA rfl) rfl (i := 0) rfl rfl iZ) ?_
    refine tr1 rfl (cX (aA rfl) rfl bR.of) ?_
    refine tr1 rfl (aC (v := .d (.lit (.int .i64 0))) (aA rfl) rfl rfl) ?_
    refine aF ?_
    refine bQ ?_
    refine cG [1, 24, 25] (fun (s9 : Int) => [(26, .d (.lit (.int .i64 s9)))]) (fun (s9 : Int) => [.box b1 0 (aN l_0)]) (fun (k : Nat) (s9 : Int) => jC l_0.Reports (l_0.Reports.length : Int) l_0 k s9) (fun _ => rfl) (0) h (aX [0] rfl rfl (aM rfl (aV ⟨rfl, rfl, rfl, trivial⟩))) ?_
    rintro k10 t26_0_9 h
    simp only [jC] at h
    refine aG ?_
    refine aE ?_
    refine tr1 rfl (bC (aA rfl) rfl rfl rfl) ?_
    refine aF ?_
    refine aG ?_
    refine bJ rfl (fun c11 => ?_) (fun c11 => ?_)
    ·have h := aT c11 h
     refine bG ?_
     refine aG ?_
     refine bQ ?_
     refine aG ?_
     refine aE ?_
     obtain ⟨x12, h13, h⟩ := bind_some h
     refine tr1 rfl (bO (aA rfl) rfl rfl bR.of (bI aB h13)) ?_
     refine tr1 rfl (fJ (aA rfl) rfl dY (es := (aB x12)) rfl rfl) ?_
     refine bW rfl (fV (zs := [.lit (.int .i64 0), .lit (.int .i64 0), .lit (.int .i64 0), .lit (.int .i64 0), .lit (.bool false)]) (aA rfl) Try.zeroValue42 rfl rfl) ?_
     rintro _ ⟨b14, rfl⟩
     refine tr1 rfl (cD (i := 1) rfl rfl rfl rfl rfl Try.sizeOf42 rfl (aA rfl) (Nat.le_of_ble_eq_true rfl) (ds' := (aB x12)) rfl) ?_
     refine aF ?_
     refine aG ?_
     refine aE ?_
     refine tr1 rfl (aU (aA rfl) rfl kA) ?_
     refine tr1 rfl (aW (aA rfl) rfl (i := 1) rfl rfl bH) ?_
     obtain ⟨r15, h16, h⟩ := bind_some h
     refine tr1 rfl (cC (aA rfl) (.func _ _ Try.call47) rfl rfl (BVs.refl _ _) (fC _ _ _ h16) rfl) ?_
     refine tr1 rfl (eM (aA rfl) rfl) ?_
     refine tr1 rfl (aC (v := .d (.lit (.bool (!r15)))) (aA rfl) rfl rfl) ?_
     obtain ⟨b17, h18, h⟩ := bind_some h
     refine cA 8 [1, 4, 24, 25, 26] 42 b17 ?_ ?_
     ·refine bF (!r15) (fun c30 => ?_) (fun c30 => ?_)
      ·have h18 := aT c30 h18
       refine aR rfl rfl (aA rfl) rfl (aA rfl) rfl c30 ?_
       refine aR rfl rfl (aA rfl) rfl (aA rfl) rfl c30 ?_
       refine aR rfl rfl (aA rfl) rfl (aA rfl) rfl c30 ?_
       refine aR rfl rfl (aA rfl) rfl (aA rfl) rfl c30 ?_
       refine aR rfl rfl (aA rfl) rfl (aA rfl) rfl c30 ?_
       refine aR rfl rfl (aA rfl) rfl (aA rfl) rfl c30 ?_
       refine aR rfl rfl (aA rfl) rfl (aA rfl) rfl c30 ?_
       refine tr1 rfl (bN (v := .d (.lit (.bool true))) (aA rfl) rfl c30 rfl rfl) ?_
       have h18 := Option.some.inj h18
       subst h18
       refine aF (bB rfl ⟨rfl, rfl, rfl, rfl, rfl, trivial⟩ rfl)
      ·have h18 := aS c30 h18
       refine aO rfl rfl (aA rfl) rfl c30 (aU (aA rfl) rfl pA) ?_
       refine aO rfl rfl (aA rfl) rfl c30 (aW (aA rfl) rfl (i := 1) rfl rfl bH) ?_
       refine aO rfl rfl (aA rfl) rfl c30 (aU (aA rfl) rfl iJ) ?_
       refine aO rfl rfl (aA rfl) rfl c30 (aW (aA rfl) rfl (i := 0) rfl rfl bH) ?_
       refine aO rfl rfl (aA rfl) rfl c30 (aZ (aA rfl) rfl rfl rfl) ?_
       obtain ⟨r31, h32, h18⟩ := bind_some h18
       refine aO rfl rfl (aA rfl) rfl c30 (cC (aA rfl) (.func _ _ Try.call47) rfl rfl (BVs.refl _ _) (fC _ _ _ h32) rfl) ?_
       refine aO rfl rfl (aA rfl) rfl c30 (eM (aA rfl) rfl) ?_
       refine tr1 rfl (bP (v := .d (.lit (.bool (!r31)))) (aA rfl) rfl c30 rfl rfl) ?_
       have h18 := Option.some.inj h18
       subst h18
       refine aF (bB rfl ⟨rfl, rfl, rfl, rfl, rfl, trivial⟩ rfl)
     ·refine tr1 rfl (aC (v := .d (.lit (.bool b17))) (aA rfl) rfl rfl) ?_
      obtain ⟨b19, h20, h⟩ := bind_some h
      refine cA 5 [1, 4, 24, 25, 26] 48 b19 ?_ ?_
      ·refine bF (b17) (fun c27 => ?_) (fun c27 => ?_)
       ·have h20 := aT c27 h20
        refine aR rfl rfl (aA rfl) rfl (aA rfl) rfl c27 ?_
        refine aR rfl rfl (aA rfl) rfl (aA rfl) rfl c27 ?_
        refine aR rfl rfl (aA rfl) rfl (aA rfl) rfl c27 ?_
        refine aR rfl rfl (aA rfl) rfl (aA rfl) rfl c27 ?_
        refine tr1 rfl (bN (v := .d (.lit (.bool true))) (aA rfl) rfl c27 rfl rfl) ?_
        have h20 := Option.some.inj h20
        subst h20
        refine aF (bB rfl ⟨rfl, rfl, rfl, rfl, rfl, trivial⟩ rfl)
       ·have h20 := aS c27 h20
        refine aO rfl rfl (aA rfl) rfl c27 (aU (aA rfl) rfl lI) ?_
        refine aO rfl rfl (aA rfl) rfl c27 (aW (aA rfl) rfl (i := 1) rfl rfl bH) ?_
        obtain ⟨r28, h29, h20⟩ := bind_some h20
        refine aO rfl rfl (aA rfl) rfl c27 (cC (aA rfl) (.func _ _ Try.call47) rfl rfl (BVs.refl _ _) (fC _ _ _ h29) rfl) ?_
        refine aO rfl rfl (aA rfl) rfl c27 (eM (aA rfl) rfl) ?_
        refine tr1 rfl (bP (v := .d (.lit (.bool (!r28)))) (aA rfl) rfl c27 rfl rfl) ?_
        have h20 := Option.some.inj h20
        subst h20
        refine aF (bB rfl ⟨rfl, rfl, rfl, rfl, rfl, trivial⟩ rfl)
      ·refine tr1 rfl (aC (v := .d (.lit (.bool b19))) (aA rfl) rfl rfl) ?_
       obtain ⟨b21, h22, h⟩ := bind_some h
       refine cA 5 [1, 24, 25, 26] 54 b21 ?_ ?_
       ·refine bF (b19) (fun c24 => ?_) (fun c24 => ?_)
        ·have h22 := aT c24 h22
         refine aR rfl rfl (aA rfl) rfl (aA rfl) rfl c24 ?_
         refine aR rfl rfl (aA rfl) rfl (aA rfl) rfl c24 ?_
         refine aR rfl rfl (aA rfl) rfl (aA rfl) rfl c24 ?_
         refine aR rfl rfl (aA rfl) rfl (aA rfl) rfl c24 ?_
         refine tr1 rfl (bN (v := .d (.lit (.bool true))) (aA rfl) rfl c24 rfl rfl) ?_
         have h22 := Option.some.inj h22
         subst h22
         refine aF (bB rfl ⟨rfl, rfl, rfl, rfl, trivial⟩ rfl)
        ·have h22 := aS c24 h22
         refine aO rfl rfl (aA rfl) rfl c24 (aU (aA rfl) rfl iK) ?_
         refine aO rfl rfl (aA rfl) rfl c24 (aW (aA rfl) rfl (i := 1) rfl rfl bH) ?_
         obtain ⟨r25, h26, h22⟩ := bind_some h22
         refine aO rfl rfl (aA rfl) rfl c24 (cC (aA rfl) (.func _ _ Try.call47) rfl rfl (BVs.refl _ _) (fC _ _ _ h26) rfl) ?_
         refine aO rfl rfl (aA rfl) rfl c24 (eM (aA rfl) rfl) ?_
         refine tr1 rfl (bP (v := .d (.lit (.bool (!r25)))) (aA rfl) rfl c24 rfl rfl) ?_
         have h22 := Option.some.inj h22
         subst h22
         refine aF (bB rfl ⟨rfl, rfl, rfl, rfl, trivial⟩ rfl)
       ·refine aF ?_
        refine bJ rfl (fun c23 => ?_) (fun c23 => ?_)
        ·have h := aT c23 h
         refine aG ?_
         refine aE ?_
         refine tr1 rfl (aJ (v := .d (.lit (.bool false))) (aA rfl) rfl rfl) ?_
         refine aF ?_
         have h := Option.some.inj h
         subst h
         refine cR (cE (cM (l := [2]) ⟨rfl, trivial⟩)) ?_
         exact bM ⟨rfl, _, .one _, rfl, rfl⟩
        ·have h := aS c23 h
         refine dS ?_
         refine aE ?_
         refine tr1 rfl (aZ (aA rfl) rfl rfl rfl) ?_
         refine tr1 rfl (aC (v := .d (.lit (.int .i64 ((w64 (t26_0_9 + 1)))))) (aA rfl) rfl rfl) ?_
         refine aF ?_
         exact ⟨(w64 (t26_0_9 + 1)), h, aX [0] rfl rfl (aM rfl (aV ⟨rfl, rfl, rfl, trivial⟩))⟩
    ·have h := aS c11 h
     refine cN ?_
     refine .inl ⟨rfl, ?_⟩
     simp only [rV] at h
     refine aG ?_
     refine aG ?_
     refine aE ?_
     refine tr1 rfl (cH (aA rfl) rfl (i := 0) rfl dW (es := (aN l_0)) rfl rfl) ?_
     refine tr1 rfl (aU (aA rfl) rfl lH) ?_
     refine tr1 rfl (aW (aA rfl) rfl (i := 0) rfl rfl jA) ?_
     obtain ⟨r33, h34, h⟩ := bind_some h
     refine tr1 rfl (cC (aA rfl) (.func _ _ Try.call104) rfl rfl (BVs.refl _ _) (vA _ _ h34) rfl) ?_
     refine tr1 rfl (eM (aA rfl) rfl) ?_
     refine tr1 rfl (aC (v := .d (.lit (.bool (!r33)))) (aA rfl) rfl rfl) ?_
     obtain ⟨b35, h36, h⟩ := bind_some h
     refine cA 6 [1] 67 b35 ?_ ?_
     ·refine bF (!r33) (fun c50 => ?_) (fun c50 => ?_)
      ·have h36 := aT c50 h36
       refine aR rfl rfl (aA rfl) rfl (aA rfl) rfl c50 ?_
       refine aR rfl rfl (aA rfl) rfl (aA rfl) rfl c50 ?_
       refine aR rfl rfl (aA rfl) rfl (aA rfl) rfl c50 ?_
       refine aR rfl rfl (aA rfl) rfl (aA rfl) rfl c50 ?_
       refine aR rfl rfl (aA rfl) rfl (aA rfl) rfl c50 ?_
       refine tr1 rfl (bN (v := .d (.lit (.bool true))) (aA rfl) rfl c50 rfl rfl) ?_
       have h36 := Option.some.inj h36
       subst h36
       refine aF (bB rfl ⟨rfl, trivial⟩ rfl)
      ·have h36 := aS c50 h36
       refine aO rfl rfl (aA rfl) rfl c50 (cH (aA rfl) rfl (i := 0) rfl dW (es := (aN l_0)) rfl rfl) ?_
       refine aO rfl rfl (aA rfl) rfl c50 (aU (aA rfl) rfl kG) ?_
       refine aO rfl rfl (aA rfl) rfl c50 (aW (aA rfl) rfl (i := 0) rfl rfl jA) ?_
       obtain ⟨r51, h52, h36⟩ := bind_some h36
       refine aO rfl rfl (aA rfl) rfl c50 (cC (aA rfl) (.func _ _ Try.call104) rfl rfl (BVs.refl _ _) (vA _ _ h52) rfl) ?_
       refine aO rfl rfl (aA rfl) rfl c50 (eM (aA rfl) rfl) ?_
       refine tr1 rfl (bP (v := .d (.lit (.bool (!r51)))) (aA rfl) rfl c50 rfl rfl) ?_
       have h36 := Option.some.inj h36
       subst h36
       refine aF (bB rfl ⟨rfl, trivial⟩ rfl)
     ·refine aF ?_
      refine bJ rfl (fun c37 => ?_) (fun c37 => ?_)
      ·have h := aT c37 h
       refine aG ?_
       refine aE ?_
       refine tr1 rfl (aJ (v := .d (.lit (.bool false))) (aA rfl) rfl rfl) ?_
       refine aF ?_
       have h := Option.some.inj h
       subst h
       refine cR (cE (cM (l := [2]) ⟨rfl, trivial⟩)) ?_
       exact bM ⟨rfl, _, .one _, rfl, rfl⟩
      ·have h := aS c37 h
       refine bG ?_
       refine aG ?_
       refine aG ?_
       refine aE ?_
       refine tr1 rfl (aU (aA rfl) rfl kG) ?_
       refine tr1 rfl (aW (aA rfl) rfl (i := 0) rfl rfl jA) ?_
       refine tr1 rfl (cX (aA rfl) rfl eY.of) ?_
       refine tr1 rfl (aC (v := .d (.lit (.int .i64 0))) (aA rfl) rfl rfl) ?_
       refine aF ?_
       refine bQ ?_
       refine cG [1, 69, 70] (fun (s38 : Int) => [(71, .d (.lit (.int .i64 s38)))]) (fun (s38 : Int) => [.box b1 0 (aN l_0)]) (fun (k : Nat) (s38 : Int) => jD l_0.Frozen (l_0.Frozen.length : Int) l_0 k s38) (fun _ => rfl) (0) h (aX [0] rfl rfl (aM rfl (aV ⟨rfl, rfl, rfl, trivial⟩))) ?_
       rintro k39 t71_2_38 h
       simp only [jD] at h
       refine aG ?_
       refine aE ?_
       refine tr1 rfl (bC (aA rfl) rfl rfl rfl) ?_
       refine aF ?_
       refine aG ?_
       refine bJ rfl (fun c40 => ?_) (fun c40 => ?_)
       ·have h := aT c40 h
        refine bG ?_
        refine aG ?_
        refine bQ ?_
        refine aG ?_
        refine aE ?_
        refine tr1 rfl (aC (v := .d (.lit (.int .i64 t71_2_38))) (aA rfl) rfl rfl) ?_
        obtain ⟨x41, h42, h⟩ := bind_some h
        refine tr1 rfl (bO (aA rfl) rfl rfl eY.of (bI aK h42)) ?_
        refine tr1 rfl (fJ (aA rfl) rfl yA (es := (aK x41)) rfl rfl) ?_
        refine bW rfl (fV (zs := [.lit (.int .i64 0), .lit (.int .i64 0), .lit (.int .i64 0)]) (aA rfl) Try.zeroValue66 rfl rfl) ?_
        rintro _ ⟨b43, rfl⟩
        refine tr1 rfl (aJ (v := .d (.lit (.int .i64 t71_2_38))) (aA rfl) rfl rfl) ?_
        refine tr1 rfl (cD (i := 1) rfl rfl rfl rfl rfl Try.sizeOf66 rfl (aA rfl) (Nat.le_of_ble_eq_true rfl) (ds' := (aK x41)) rfl) ?_
        refine aF ?_
        refine aG ?_
        refine aE ?_
        refine tr1 rfl (aU (aA rfl) rfl kG) ?_
        refine tr1 rfl (aW (aA rfl) rfl (i := 0) rfl rfl jA) ?_
        refine tr1 rfl (aC (v := .d (.lit (.int .i64 t71_2_38))) (aA rfl) rfl rfl) ?_
        obtain ⟨x44, h45, h⟩ := bind_some h
        refine tr1 rfl (kK (aA rfl) eY.of rfl rfl rfl (nR aK h45)) ?_
        refine tr1 rfl (yZ (aA rfl) rfl rfl) ?_
        obtain ⟨r47, h48, h⟩ := bind_some h
        refine tr1 rfl (cC (aA rfl) (.func _ _ Try.call82) rfl rfl (.cons (.same _) (.cons ((aDk (.cons ((rM 1 rfl rfl (dvc (.same _) (dvc (.same _) (dvc (.same _) dvn))))) .nil))) .nil)) (jY _ _ 105 [.cp [.lit (.int .i64 x41.Player), .lit (.int .i64 x41.From), .lit (.int .i64 x41.To)]] Try.call105 (fun _ _ h => zW _ _ h) h48) rfl) ?_
        refine aF ?_
        refine bJ rfl (fun c49 => ?_) (fun c49 => ?_)
        ·have h := aT c49 h
         refine aG ?_
         refine aE ?_
         refine tr1 rfl (aJ (v := .d (.lit (.bool false))) (aA rfl) rfl rfl) ?_
         refine aF ?_
         have h := Option.some.inj h
         subst h
         refine cR (cE (cM (l := [2]) ⟨rfl, trivial⟩)) ?_
         exact bM ⟨rfl, _, .one _, rfl, rfl⟩
        ·have h := aS c49 h
         refine dS ?_
         refine aE ?_
         refine tr1 rfl (aZ (aA rfl) rfl rfl rfl) ?_
         refine tr1 rfl (aC (v := .d (.lit (.int .i64 ((w64 (t71_2_38 + 1)))))) (aA rfl) rfl rfl) ?_
         refine aF ?_
         exact ⟨(w64 (t71_2_38 + 1)), h, aX [0] rfl rfl (aM rfl (aV ⟨rfl, rfl, rfl, trivial⟩))⟩
       ·have h := aS c40 h
        refine cN ?_
        refine .inl ⟨rfl, ?_⟩
        simp only [rW] at h
        refine aG ?_
        refine aE ?_
        refine tr1 rfl (aJ (v := .d (.lit (.bool true))) (aA rfl) rfl rfl) ?_
        refine aF ?_
        have h := Option.some.inj h
        subst h
        refine cR (cE (cM (l := [2]) ⟨rfl, trivial⟩)) ?_
        exact bM ⟨rfl, _, .one _, rfl, rfl⟩

theorem pL (s_0 : List aD) {r : (List aD)} (h : fD s_0 = some r) : gC Try.prog 91 [.d (.sl 5 (s_0.map aB))] [] (fun r' o' => ∃ (w0 : Value), r' = .d (.lit w0) ∧ o' = [.arr w0 42 5 (r.map aB)]) := by
 unfold fD at h
 refine mP Try.func91 rfl (rs := [.tmp 2]) Try.results91 Try.ntmps91 (Nat.le_of_ble_eq_true rfl) ?_
 refine aG ?_
 refine aE ?_
 refine tr1 rfl (jE 42 5 (.inl rfl) (aA rfl)) ?_
 refine aF ?_
 refine aG ?_
 refine aG ?_
 refine aE ?_
 refine tr1 rfl (aC (v := .d (.sl 5 (s_0.map aB))) (aA rfl) rfl rfl) ?_
 refine bW rfl (aHa (aA rfl) rfl rfl Try.underlying22) ?_
 rintro _ ⟨b2, h3, rfl⟩
 refine aF ?_
 refine bJ rfl (fun c4 => ?_) (fun c4 => ?_)
 ·obtain rfl := aGu (h3 c4)
  simp [app] at h
  subst h
  refine aG ?_
  refine aE ?_
  refine tr1 rfl (jE 42 5 (.inl rfl) (aA rfl)) ?_
  refine aF ?_
  refine cR (aX [1, 0] rfl rfl (le_refl _)) ?_
  exact bM ⟨rfl, _, [.arr (.slice none 0 0) 42 5 (([] : List aD).map aB)], [.arr (.slice none 0 0) 42 5 (([] : List aD).map aB)], _, .one (.tmp 2 (v := .d (.lit (.slice none 0 0))) rfl), .refl _, .same _, (.slice none 0 0), rfl, rfl⟩
 ·refine bG ?_
  refine aG ?_
  refine aE ?_
  refine bW rfl (qO (aA rfl) bR rfl rfl (rows := (([] : List aD)).map aB) rfl (cP (f := aB) fun _ => rfl) rfl (by decide)) ?_
  rintro _ ⟨v5, rfl⟩
  refine tr1 rfl (aC (v := .d (.sl 5 (s_0.map aB))) (aA rfl) rfl rfl) ?_
  obtain ⟨x6, h7, h⟩ := bind_some h
  refine bW rfl (gQ (i := 1) (aA rfl) bR rfl rfl rfl (fun _ => rfl) h7 rfl) ?_
  rintro _ ⟨v8, rfl⟩
  refine tr1 rfl (aJ (v := .d (.lit v8)) (aA rfl) rfl rfl) ?_
  refine aF ?_
  have h := Option.some.inj h
  subst h
  refine cR (aX [1, 0] rfl rfl (le_refl _)) ?_
  exact bM ⟨rfl, _, [.arr v8 42 5 (x6.map aB)], [.arr (.slice none 0 0) 42 5 (([] : List aD).map aB)], _, .one (.tmp 2 (v := .d (.lit v8)) rfl), .refl _, .same _, v8, rfl, rfl⟩

theorem kM (data_0 : List aD) (a_1 : Int) (b_2 : Int) (cmp_3 : aD → aD → Option Int) {r : (List aD)} {data_0_v : Value} (cmp_3_f : Nat) (cmp_3_v : List AV) (cmp_3_e : ∀ args w, (callFunc cmp_3_f args).run Try.prog w = .ok (.enter cmp_3_f args) w) (cmp_3_h : ∀ (x0 : aD) (x1 : aD) r, cmp_3 x0 x1 = some r → Fn Try.prog cmp_3_f ([.agg (aB x0), .agg (aB x1)] ++ cmp_3_v) (.d (.lit (.int .i64 r)))) (h : dM data_0 a_1 b_2 cmp_3 = some r) : gC Try.prog 127 [.d (.lit data_0_v), .d (.lit (.int .i64 a_1)), .d (.lit (.int .i64 b_2)), .fn cmp_3_f cmp_3_v] [.arr data_0_v 42 5 (data_0.map aB)] (fun r' o' => r' = .tup [] ∧ o' = [.arr data_0_v 42 5 (r.map aB)]) := by
 unfold dM at h
 refine jW Try.func127 rfl (rs := []) Try.results127 Try.ntmps127 (Nat.le_of_ble_eq_true rfl) ?_
 refine aG ?_
 refine aE ?_
 refine tr1 rfl (aC (v := .d (.lit (.int .i64 a_1))) (aA rfl) rfl rfl) ?_
 refine tr1 rfl (aZ (aA rfl) rfl rfl rfl) ?_
 refine tr1 rfl (aJ (v := .d (.lit (.int .i64 ((w64 (a_1 + 1)))))) (aA rfl) rfl rfl) ?_
 refine aF ?_
 refine bQ ?_
 refine cG [1, 2, 3] (fun (s1 : Int × (List aD)) => [(0, .d (.lit data_0_v)), (8, .d (.lit (.int .i64 s1.1)))]) (fun (s1 : Int × (List aD)) => [.arr data_0_v 42 5 (s1.2.map aB)]) (fun (k : Nat) (s1 : Int × (List aD)) => cO a_1 b_2 cmp_3 k s1.1 s1.2) (fun _ => rfl) (w64 (a_1 + 1), data_0) h (aX [0] rfl rfl (aM rfl (aM rfl (aV ⟨rfl, rfl, rfl, trivial⟩)))) ?_
 rintro k2 ⟨i_0_1, data_0_1⟩ h
 simp only [cO] at h
 refine aG ?_
 refine aG ?_
 refine aE ?_
 refine tr1 rfl (aC (v := .d (.lit (.int .i64 i_0_1))) (aA rfl) rfl rfl) ?_
 refine tr1 rfl (aC (v := .d (.lit (.int .i64 b_2))) (aA rfl) rfl rfl) ?_
 refine tr1 rfl (bC (aA rfl) rfl rfl rfl) ?_
 refine aF ?_
 refine bJ rfl (fun c3 => ?_) (fun c3 => ?_)
 ·have h := aT c3 h
  refine bG ?_
  refine aG ?_
  refine bQ ?_
  refine aG ?_
  refine aE ?_
  refine tr1 rfl (aC (v := .d (.lit (.int .i64 i_0_1))) (aA rfl) rfl rfl) ?_
  refine tr1 rfl (aJ (v := .d (.lit (.int .i64 i_0_1))) (aA rfl) rfl rfl) ?_
  refine aF ?_
  refine zP ?_
  refine cG [1, 2, 3, 8] (fun (s4 : Int × (List aD)) => [(0, .d (.lit data_0_v)), (9, .d (.lit (.int .i64 s4.1)))]) (fun (s4 : Int × (List aD)) => [.arr data_0_v 42 5 (s4.2.map aB)]) (fun (k : Nat) (s4 : Int × (List aD)) => cW (cO a_1 b_2 cmp_3 k2) a_1 b_2 cmp_3 i_0_1 k s4.1 s4.2) (fun _ => rfl) (i_0_1, data_0_1) h (aX [0] rfl rfl (aM rfl (aM rfl (aV ⟨rfl, rfl, rfl, rfl, trivial⟩)))) ?_
  rintro k5 ⟨j_2_4, data_2_4⟩ h
  simp only [cW] at h
  refine aG ?_
  refine aG ?_
  obtain ⟨b6, h7, h⟩ := bind_some h
  refine fN mix 17 [0, 1, 2, 3, 8, 9] [(34, .d (.lit (.bool b6)))] ?_ ?_
  ·refine bF (decide (a_1 < j_2_4)) (fun c8 => ?_) (fun c8 => ?_)
   ·have h7 := aT c8 h7
    obtain ⟨x9, h10, h7⟩ := bind_some h7
    obtain ⟨x11, h12, h7⟩ := bind_some h7
    obtain ⟨r13, h14, h7⟩ := bind_some h7
    have h7 := Option.some.inj h7
    subst h7
    refine ⟨[(18, 0, .d (.lit (.int .i64 j_2_4))), (19, 1, .d (.lit (.int .i64 a_1))), (20, 2, .d (.lit (.bool ((decide (a_1 < j_2_4)))))), (21, 3, .d (.lit (.bool ((decide (a_1 < j_2_4)))))), (22, 4, .fn cmp_3_f cmp_3_v), (23, 5, .d (.lit data_0_v)), (24, 6, .d (.lit (.int .i64 j_2_4))), (25, 7, .ep data_0_v 5 j_2_4.toNat 0), (26, 8, .agg (aB x9)), (27, 9, .d (.lit data_0_v)), (28, 10, .d (.lit (.int .i64 j_2_4))), (29, 11, .d (.lit (.int .i64 ((w64 (j_2_4 - 1)))))), (30, 12, .ep data_0_v 5 (w64 (j_2_4 - 1)).toNat 0), (31, 13, .agg (aB x11)), (32, 14, .d (.lit (.int .i64 r13))), (33, 15, .d (.lit (.bool ((decide (r13 < 0)))))), (34, 16, .d (.lit (.bool ((decide (r13 < 0))))))], ?_, ?_⟩
    · exact ⟨by kernel_rfl, by kernel_rfl, by kernel_rfl, by kernel_rfl, by kernel_rfl, [([], []), ([], []), ([0, 1], []), ([2], []), ([3], []), ([3], []), ([3], []), ([3, 5, 6], []), ([3, 7], []), ([3], []), ([3], []), ([3, 10], []), ([3, 9, 11], []), ([3, 12], []), ([3, 4, 8, 13], []), ([3, 14], []), ([3, 15], [])], by kernel_rfl, ⟨fun S hS => aI rfl (aQ rfl (aC (v := .d (.lit (.int .i64 j_2_4))) (aA rfl) (aH hS rfl) rfl)),
      fun S hS => aI rfl (aQ rfl (aC (v := .d (.lit (.int .i64 a_1))) (aA rfl) (aH hS rfl) rfl)),
      fun S hS => aI rfl (aQ rfl (bC (aA rfl) (aH hS rfl) (aH hS rfl) rfl)),
      fun S hS => aI rfl (aQ rfl (aC (v := .d (.lit (.bool ((decide (a_1 < j_2_4)))))) (aA rfl) (aH hS rfl) rfl)),
      fun S hS => aI rfl (aY rfl rfl (aA rfl) (aP hS rfl) c8 (aC (v := .fn cmp_3_f cmp_3_v) (aA rfl) (aH hS rfl) rfl)),
      fun S hS => aI rfl (aY rfl rfl (aA rfl) (aP hS rfl) c8 (aC (v := .d (.lit data_0_v)) (aA rfl) (aH hS rfl) rfl)),
      fun S hS => aI rfl (aY rfl rfl (aA rfl) (aP hS rfl) c8 (aC (v := .d (.lit (.int .i64 j_2_4))) (aA rfl) (aH hS rfl) rfl)),
      fun S hS => aI rfl (aY rfl rfl (aA rfl) (aP hS rfl) c8 (cL (m := 0) (aA rfl) (aH hS rfl) rfl (aH hS rfl) bR.of (bI aB h10))),
      fun S hS => aI rfl (aY rfl rfl (aA rfl) (aP hS rfl) c8 (dJ (aA rfl) (aH hS rfl) (l := 0) rfl (eF aB h10) dY (es := (aB x9)) rfl rfl)),
      fun S hS => aI rfl (aY rfl rfl (aA rfl) (aP hS rfl) c8 (aC (v := .d (.lit data_0_v)) (aA rfl) (aH hS rfl) rfl)),
      fun S hS => aI rfl (aY rfl rfl (aA rfl) (aP hS rfl) c8 (aC (v := .d (.lit (.int .i64 j_2_4))) (aA rfl) (aH hS rfl) rfl)),
      fun S hS => aI rfl (aY rfl rfl (aA rfl) (aP hS rfl) c8 (aZ (aA rfl) (aH hS rfl) rfl rfl)),
      fun S hS => aI rfl (aY rfl rfl (aA rfl) (aP hS rfl) c8 (cL (m := 0) (aA rfl) (aH hS rfl) rfl (aH hS rfl) bR.of (bI aB h12))),
      fun S hS => aI rfl (aY rfl rfl (aA rfl) (aP hS rfl) c8 (dJ (aA rfl) (aH hS rfl) (l := 0) rfl (eF aB h12) dY (es := (aB x11)) rfl rfl)),
      fun S hS => aI rfl (aY rfl rfl (aA rfl) (aP hS rfl) c8 (cC (aA rfl) (.clo _ _ _ _ cmp_3_e (aP hS rfl)) (uS (ev2 (aH hS rfl) (ev2 (aH hS rfl) evn))) rfl (BVs.refl _ _) (cmp_3_h _ _ _  h14) rfl)),
      fun S hS => aI rfl (aY rfl rfl (aA rfl) (aP hS rfl) c8 (bC (aA rfl) (aH hS rfl) rfl rfl)),
      fun S hS => aI rfl (aQ rfl (bN (v := .d (.lit (.bool ((decide (r13 < 0)))))) (aA rfl) (aH hS rfl) c8 (aH hS rfl) rfl)), trivial⟩⟩
    · exact dI (aM rfl (aV ⟨rfl, rfl, rfl, rfl, rfl, rfl, trivial⟩))
   ·have h7 := aS c8 h7
    have h7 := Option.some.inj h7
    subst h7
    refine ⟨[(18, 0, .d (.lit (.int .i64 j_2_4))), (19, 1, .d (.lit (.int .i64 a_1))), (20, 2, .d (.lit (.bool ((decide (a_1 < j_2_4)))))), (21, 3, .d (.lit (.bool ((decide (a_1 < j_2_4)))))), (22, 4, .tup []), (23, 5, .tup []), (24, 6, .tup []), (25, 7, .tup []), (26, 8, .tup []), (27, 9, .tup []), (28, 10, .tup []), (29, 11, .tup []), (30, 12, .tup []), (31, 13, .tup []), (32, 14, .tup []), (33, 15, .tup []), (34, 16, .d (.lit (.bool false)))], ?_, ?_⟩
    · exact ⟨by kernel_rfl, by kernel_rfl, by kernel_rfl, by kernel_rfl, by kernel_rfl, [([], []), ([], []), ([0, 1], []), ([2], []), ([3], []), ([3], []), ([3], []), ([3, 5, 6], []), ([3, 7], []), ([3], []), ([3], []), ([3, 10], []), ([3, 9, 11], []), ([3, 12], []), ([3, 4, 8, 13], []), ([3, 14], []), ([3, 15], [])], by kernel_rfl, ⟨fun S hS => aI rfl (aQ rfl (aC (v := .d (.lit (.int .i64 j_2_4))) (aA rfl) (aH hS rfl) rfl)),
      fun S hS => aI rfl (aQ rfl (aC (v := .d (.lit (.int .i64 a_1))) (aA rfl) (aH hS rfl) rfl)),
      fun S hS => aI rfl (aQ rfl (bC (aA rfl) (aH hS rfl) (aH hS rfl) rfl)),
      fun S hS => aI rfl (aQ rfl (aC (v := .d (.lit (.bool ((decide (a_1 < j_2_4)))))) (aA rfl) (aH hS rfl) rfl)),
      fun S hS => aI rfl (bD rfl rfl (aA rfl) rfl (aA rfl) (aP hS rfl) c8),
      fun S hS => aI rfl (bD rfl rfl (aA rfl) rfl (aA rfl) (aP hS rfl) c8),
      fun S hS => aI rfl (bD rfl rfl (aA rfl) rfl (aA rfl) (aP hS rfl) c8),
      fun S hS => aI rfl (bD rfl rfl (aA rfl) rfl (aA rfl) (aP hS rfl) c8),
      fun S hS => aI rfl (bD rfl rfl (aA rfl) rfl (aA rfl) (aP hS rfl) c8),
      fun S hS => aI rfl (bD rfl rfl (aA rfl) rfl (aA rfl) (aP hS rfl) c8),
      fun S hS => aI rfl (bD rfl rfl (aA rfl) rfl (aA rfl) (aP hS rfl) c8),
      fun S hS => aI rfl (bD rfl rfl (aA rfl) rfl (aA rfl) (aP hS rfl) c8),
      fun S hS => aI rfl (bD rfl rfl (aA rfl) rfl (aA rfl) (aP hS rfl) c8),
      fun S hS => aI rfl (bD rfl rfl (aA rfl) rfl (aA rfl) (aP hS rfl) c8),
      fun S hS => aI rfl (bD rfl rfl (aA rfl) rfl (aA rfl) (aP hS rfl) c8),
      fun S hS => aI rfl (bD rfl rfl (aA rfl) rfl (aA rfl) (aP hS rfl) c8),
      fun S hS => aI rfl (aQ rfl (bP (v := .d (.lit (.bool false))) (aA rfl) (aH hS rfl) c8 rfl rfl)), trivial⟩⟩
    · exact dI (aM rfl (aV ⟨rfl, rfl, rfl, rfl, rfl, rfl, trivial⟩))
  ·refine aF ?_
   refine bJ rfl (fun c15 => ?_) (fun c15 => ?_)
   ·have h := aT c15 h
    refine bG ?_
    refine aG ?_
    refine bQ ?_
    obtain ⟨x17, h18, h⟩ := bind_some h
    obtain ⟨x19, h20, h⟩ := bind_some h
    obtain ⟨x21, h22, h⟩ := bind_some h
    refine lZ mix 16 [0, 1, 2, 3, 8, 9] (fun X16 => [(39, .d (.lit data_0_v)), (41, .d (.lit (.int .i64 ((w64 (j_2_4 - 1)))))), (50, .agg (aB x19))]) (fun X16 => [.arr data_0_v 42 5 ((data_2_4.set j_2_4.toNat x17).map aB)]) ?_ ?_
    ·refine ⟨0, fun X16 => [(37, 0, .d (.lit data_0_v)), (38, 1, .d (.lit (.int .i64 j_2_4))), (39, 2, .d (.lit data_0_v)), (40, 3, .d (.lit (.int .i64 j_2_4))), (41, 4, .d (.lit (.int .i64 ((w64 (j_2_4 - 1)))))), (42, 5, .d (.lit data_0_v)), (43, 6, .d (.lit (.int .i64 j_2_4))), (44, 7, .d (.lit (.int .i64 ((w64 (j_2_4 - 1)))))), (45, 8, .ep data_0_v 5 (w64 (j_2_4 - 1)).toNat 0), (46, 9, .agg (aB x17)), (47, 10, .d (.lit data_0_v)), (48, 11, .d (.lit (.int .i64 j_2_4))), (49, 12, .ep data_0_v 5 j_2_4.toNat 0), (50, 13, .agg (aB x19)), (51, 14, .ep data_0_v 5 j_2_4.toNat 0)], fun X16 => [([(15, .arr data_0_v 42 5 ((data_2_4.set j_2_4.toNat x17).map aB))], .arr data_0_v 42 5 (data_2_4.map aB))], ?_, ?_⟩
     · exact ⟨by kernel_rfl, by kernel_rfl, by kernel_rfl, fun _ => by kernel_rfl, fun _ => by kernel_rfl, fun _ => by kernel_rfl, fun _ => rfl, [([], [15]), ([], [15]), ([], []), ([], []), ([3], []), ([], [15]), ([], [15]), ([6], [15]), ([5, 7], [15]), ([8], [15]), ([], [15]), ([], [15]), ([10, 11], [15]), ([12], [15]), ([0, 1], [15]), ([9, 14], [])], by kernel_rfl, ⟨fun X16 S hw hi hS => bL (X := X16) rfl (hw X16) rfl (aQ rfl (aC (v := .d (.lit data_0_v)) (aA rfl) (aH hS rfl) rfl)),
      fun X16 S hw hi hS => bL (X := X16) rfl (hw X16) rfl (aQ rfl (aC (v := .d (.lit (.int .i64 j_2_4))) (aA rfl) (aH hS rfl) rfl)),
      fun X16 S hw hi hS => bL (X := X16) rfl (hw X16) rfl (aQ rfl (aC (v := .d (.lit data_0_v)) (aA rfl) (aH hS rfl) rfl)),
      fun X16 S hw hi hS => bL (X := X16) rfl (hw X16) rfl (aQ rfl (aC (v := .d (.lit (.int .i64 j_2_4))) (aA rfl) (aH hS rfl) rfl)),
      fun X16 S hw hi hS => bL (X := X16) rfl (hw X16) rfl (aQ rfl (aZ (aA rfl) (aH hS rfl) rfl rfl)),
      fun X16 S hw hi hS => bL (X := X16) rfl (hw X16) rfl (aQ rfl (aC (v := .d (.lit data_0_v)) (aA rfl) (aH hS rfl) rfl)),
      fun X16 S hw hi hS => bL (X := X16) rfl (hw X16) rfl (aQ rfl (aC (v := .d (.lit (.int .i64 j_2_4))) (aA rfl) (aH hS rfl) rfl)),
      fun X16 S hw hi hS => bL (X := X16) rfl (hw X16) rfl (aQ rfl (aZ (aA rfl) (aH hS rfl) rfl rfl)),
      fun X16 S hw hi hS => bL (X := X16) rfl (hw X16) rfl (aQ rfl (cL (m := 0) (aA rfl) (aH hS rfl) (og hS rfl rfl) (aH hS rfl) bR.of (bI aB h18))),
      fun X16 S hw hi hS => bL (X := X16) rfl (hw X16) rfl (aQ rfl (dJ (aA rfl) (aH hS rfl) (l := 0) (og hS rfl rfl) (eF aB h18) dY (es := (aB x17)) rfl rfl)),
      fun X16 S hw hi hS => bL (X := X16) rfl (hw X16) rfl (aQ rfl (aC (v := .d (.lit data_0_v)) (aA rfl) (aH hS rfl) rfl)),
      fun X16 S hw hi hS => bL (X := X16) rfl (hw X16) rfl (aQ rfl (aC (v := .d (.lit (.int .i64 j_2_4))) (aA rfl) (aH hS rfl) rfl)),
      fun X16 S hw hi hS => bL (X := X16) rfl (hw X16) rfl (aQ rfl (cL (m := 0) (aA rfl) (aH hS rfl) (og hS rfl rfl) (aH hS rfl) bR.of (bI aB h20))),
      fun X16 S hw hi hS => bL (X := X16) rfl (hw X16) rfl (aQ rfl (dJ (aA rfl) (aH hS rfl) (l := 0) (og hS rfl rfl) (eF aB h20) dY (es := (aB x19)) rfl rfl)),
      fun X16 S hw hi hS => bL (X := X16) rfl (hw X16) rfl (aQ rfl (cL (m := 0) (aA rfl) (aH hS rfl) (og hS rfl rfl) (aH hS rfl) bR.of (bI aB h22))),
      fun X16 S hw hi hS => sC (X := X16) hS rfl rfl rfl (p := 0) rfl rfl (aQ rfl (jM (l := 0) (aH hS rfl) (og hS rfl rfl) (eF aB h22) (aH hS rfl) rfl rfl Try.sizeOf42 rfl (aA rfl) (Nat.le_of_ble_eq_true rfl) (rows' := ((data_2_4.set j_2_4.toNat x17)).map aB) (mZ _ _ _ _ rfl))), trivial⟩⟩
     · exact fun X16 => dI (aM rfl (aM rfl (aM rfl (aV ⟨rfl, rfl, rfl, rfl, rfl, rfl, trivial⟩))))
    ·intro X16
     obtain ⟨x23, h24, h⟩ := bind_some h
     refine tr1 rfl (cL (m := 0) (aA rfl) rfl rfl rfl bR.of (bI aB h24)) ?_
     refine tr1 rfl (jM (l := 0) rfl rfl (eF aB h24) rfl rfl rfl Try.sizeOf42 rfl (aA rfl) (Nat.le_of_ble_eq_true rfl) (rows' := (((data_2_4.set j_2_4.toNat x17).set (w64 (j_2_4 - 1)).toNat x19)).map aB) (mZ _ _ _ _ rfl)) ?_
     refine dG ?_
     refine aE ?_
     refine tr1 rfl (aC (v := .d (.lit (.int .i64 j_2_4))) (aA rfl) rfl rfl) ?_
     refine tr1 rfl (aZ (aA rfl) rfl rfl rfl) ?_
     refine tr1 rfl (aJ (v := .d (.lit (.int .i64 ((w64 (j_2_4 - 1)))))) (aA rfl) rfl rfl) ?_
     refine aF ?_
     exact ⟨(w64 (j_2_4 - 1), ((data_2_4.set j_2_4.toNat x17).set (w64 (j_2_4 - 1)).toNat x19)), h, aX [0] rfl rfl (aM rfl (aM rfl (aV ⟨rfl, rfl, rfl, rfl, trivial⟩)))⟩
   ·have h := aS c15 h
    refine cN ?_
    refine .inl ⟨rfl, ?_⟩
    simp only [fG] at h
    simp only [fF] at h
    refine aE ?_
    refine tr1 rfl (aC (v := .d (.lit (.int .i64 i_0_1))) (aA rfl) rfl rfl) ?_
    refine tr1 rfl (aZ (aA rfl) rfl rfl rfl) ?_
    refine tr1 rfl (aJ (v := .d (.lit (.int .i64 ((w64 (i_0_1 + 1)))))) (aA rfl) rfl rfl) ?_
    refine aF ?_
    exact ⟨(w64 (i_0_1 + 1), data_2_4), h, aX [0] rfl rfl (aM rfl (aM rfl (aV ⟨rfl, rfl, rfl, trivial⟩)))⟩
 ·have h := aS c3 h
  refine cN ?_
  refine .inl ⟨rfl, ?_⟩
  simp only [fE] at h
  have h := Option.some.inj h
  subst h
  exact ⟨_, [.arr data_0_v 42 5 (data_0_1.map aB)], [], _, .none, .refl _, .same _, rfl, rfl⟩

theorem jF (data_0 : List aD) (a_1 : Int) (b_2 : Int) (n_3 : Int) (cmp_4 : aD → aD → Option Int) {r : (List aD)} {data_0_v : Value} (cmp_4_f : Nat) (cmp_4_v : List AV) (cmp_4_e : ∀ args w, (callFunc cmp_4_f args).run Try.prog w = .ok (.enter cmp_4_f args) w) (cmp_4_h : ∀ (x0 : aD) (x1 : aD) r, cmp_4 x0 x1 = some r → Fn Try.prog cmp_4_f ([.agg (aB x0), .agg (aB x1)] ++ cmp_4_v) (.d (.lit (.int .i64 r)))) (h : eC data_0 a_1 b_2 n_3 cmp_4 = some r) : gC Try.prog 141 [.d (.lit data_0_v), .d (.lit (.int .i64 a_1)), .d (.lit (.int .i64 b_2)), .d (.lit (.int .i64 n_3)), .fn cmp_4_f cmp_4_v] [.arr data_0_v 42 5 (data_0.map aB)] (fun r' o' => r' = .tup [] ∧ o' = [.arr data_0_v 42 5 (r.map aB)]) := by
 unfold eC at h
 refine jW Try.func141 rfl (rs := []) Try.results141 Try.ntmps141 (Nat.le_of_ble_eq_true rfl) ?_
 refine aG ?_
 refine aE ?_
 refine tr1 rfl (aJ (v := .d (.lit (.int .i64 0))) (aA rfl) rfl rfl) ?_
 refine aF ?_
 refine bQ ?_
 refine cG [1, 2, 3] (fun (s1 : Int × (List aD)) => [(0, .d (.lit data_0_v)), (10, .d (.lit (.int .i64 s1.1)))]) (fun (s1 : Int × (List aD)) => [.arr data_0_v 42 5 (s1.2.map aB)]) (fun (k : Nat) (s1 : Int × (List aD)) => dP a_1 b_2 n_3 k s1.1 s1.2) (fun _ => rfl) (0, data_0) h (aX [0] rfl rfl (aM rfl (aM rfl (aV ⟨rfl, rfl, rfl, trivial⟩)))) ?_
 rintro k2 ⟨i_0_1, data_0_1⟩ h
 simp only [dP] at h
 refine aG ?_
 refine aG ?_
 refine aE ?_
 refine tr1 rfl (aC (v := .d (.lit (.int .i64 i_0_1))) (aA rfl) rfl rfl) ?_
 refine tr1 rfl (aC (v := .d (.lit (.int .i64 n_3))) (aA rfl) rfl rfl) ?_
 refine tr1 rfl (bC (aA rfl) rfl rfl rfl) ?_
 refine aF ?_
 refine bJ rfl (fun c3 => ?_) (fun c3 => ?_)
 ·have h := aT c3 h
  refine bG ?_
  refine aG ?_
  refine bQ ?_
  obtain ⟨x5, h6, h⟩ := bind_some h
  obtain ⟨x7, h8, h⟩ := bind_some h
  obtain ⟨x9, h10, h⟩ := bind_some h
  refine lZ mix 22 [0, 1, 2, 3, 10] (fun X4 => [(20, .d (.lit data_0_v)), (23, .d (.lit (.int .i64 ((w64 (b_2 + i_0_1)))))), (35, .agg (aB x7))]) (fun X4 => [.arr data_0_v 42 5 ((data_0_1.set (w64 (a_1 + i_0_1)).toNat x5).map aB)]) ?_ ?_
  ·refine ⟨0, fun X4 => [(16, 0, .d (.lit data_0_v)), (17, 1, .d (.lit (.int .i64 a_1))), (18, 2, .d (.lit (.int .i64 i_0_1))), (19, 3, .d (.lit (.int .i64 ((w64 (a_1 + i_0_1)))))), (20, 4, .d (.lit data_0_v)), (21, 5, .d (.lit (.int .i64 b_2))), (22, 6, .d (.lit (.int .i64 i_0_1))), (23, 7, .d (.lit (.int .i64 ((w64 (b_2 + i_0_1)))))), (24, 8, .d (.lit data_0_v)), (25, 9, .d (.lit (.int .i64 b_2))), (26, 10, .d (.lit (.int .i64 i_0_1))), (27, 11, .d (.lit (.int .i64 ((w64 (b_2 + i_0_1)))))), (28, 12, .ep data_0_v 5 (w64 (b_2 + i_0_1)).toNat 0), (29, 13, .agg (aB x5)), (30, 14, .d (.lit data_0_v)), (31, 15, .d (.lit (.int .i64 a_1))), (32, 16, .d (.lit (.int .i64 i_0_1))), (33, 17, .d (.lit (.int .i64 ((w64 (a_1 + i_0_1)))))), (34, 18, .ep data_0_v 5 (w64 (a_1 + i_0_1)).toNat 0), (35, 19, .agg (aB x7)), (36, 20, .ep data_0_v 5 (w64 (a_1 + i_0_1)).toNat 0)], fun X4 => [([(21, .arr data_0_v 42 5 ((data_0_1.set (w64 (a_1 + i_0_1)).toNat x5).map aB))], .arr data_0_v 42 5 (data_0_1.map aB))], ?_, ?_⟩
   · exact ⟨by kernel_rfl, by kernel_rfl, by kernel_rfl, fun _ => by kernel_rfl, fun _ => by kernel_rfl, fun _ => by kernel_rfl, fun _ => rfl, [([], [21]), ([], [21]), ([], [21]), ([1, 2], [21]), ([], []), ([], []), ([], []), ([5, 6], []), ([], [21]), ([], [21]), ([], [21]), ([9, 10], [21]), ([8, 11], [21]), ([12], [21]), ([], [21]), ([], [21]), ([], [21]), ([15, 16], [21]), ([14, 17], [21]), ([18], [21]), ([0, 3], [21]), ([13, 20], [])], by kernel_rfl, ⟨fun X4 S hw hi hS => bL (X := X4) rfl (hw X4) rfl (aQ rfl (aC (v := .d (.lit data_0_v)) (aA rfl) (aH hS rfl) rfl)),
      fun X4 S hw hi hS => bL (X := X4) rfl (hw X4) rfl (aQ rfl (aC (v := .d (.lit (.int .i64 a_1))) (aA rfl) (aH hS rfl) rfl)),
      fun X4 S hw hi hS => bL (X := X4) rfl (hw X4) rfl (aQ rfl (aC (v := .d (.lit (.int .i64 i_0_1))) (aA rfl) (aH hS rfl) rfl)),
      fun X4 S hw hi hS => bL (X := X4) rfl (hw X4) rfl (aQ rfl (aZ (aA rfl) (aH hS rfl) (aH hS rfl) rfl)),
      fun X4 S hw hi hS => bL (X := X4) rfl (hw X4) rfl (aQ rfl (aC (v := .d (.lit data_0_v)) (aA rfl) (aH hS rfl) rfl)),
      fun X4 S hw hi hS => bL (X := X4) rfl (hw X4) rfl (aQ rfl (aC (v := .d (.lit (.int .i64 b_2))) (aA rfl) (aH hS rfl) rfl)),
      fun X4 S hw hi hS => bL (X := X4) rfl (hw X4) rfl (aQ rfl (aC (v := .d (.lit (.int .i64 i_0_1))) (aA rfl) (aH hS rfl) rfl)),
      fun X4 S hw hi hS => bL (X := X4) rfl (hw X4) rfl (aQ rfl (aZ (aA rfl) (aH hS rfl) (aH hS rfl) rfl)),
      fun X4 S hw hi hS => bL (X := X4) rfl (hw X4) rfl (aQ rfl (aC (v := .d (.lit data_0_v)) (aA rfl) (aH hS rfl) rfl)),
      fun X4 S hw hi hS => bL (X := X4) rfl (hw X4) rfl (aQ rfl (aC (v := .d (.lit (.int .i64 b_2))) (aA rfl) (aH hS rfl) rfl)),
      fun X4 S hw hi hS => bL (X := X4) rfl (hw X4) rfl (aQ rfl (aC (v := .d (.lit (.int .i64 i_0_1))) (aA rfl) (aH hS rfl) rfl)),
      fun X4 S hw hi hS => bL (X := X4) rfl (hw X4) rfl (aQ rfl (aZ (aA rfl) (aH hS rfl) (aH hS rfl) rfl)),
      fun X4 S hw hi hS => bL (X := X4) rfl (hw X4) rfl (aQ rfl (cL (m := 0) (aA rfl) (aH hS rfl) (og hS rfl rfl) (aH hS rfl) bR.of (bI aB h6))),
      fun X4 S hw hi hS => bL (X := X4) rfl (hw X4) rfl (aQ rfl (dJ (aA rfl) (aH hS rfl) (l := 0) (og hS rfl rfl) (eF aB h6) dY (es := (aB x5)) rfl rfl)),
      fun X4 S hw hi hS => bL (X := X4) rfl (hw X4) rfl (aQ rfl (aC (v := .d (.lit data_0_v)) (aA rfl) (aH hS rfl) rfl)),
      fun X4 S hw hi hS => bL (X := X4) rfl (hw X4) rfl (aQ rfl (aC (v := .d (.lit (.int .i64 a_1))) (aA rfl) (aH hS rfl) rfl)),
      fun X4 S hw hi hS => bL (X := X4) rfl (hw X4) rfl (aQ rfl (aC (v := .d (.lit (.int .i64 i_0_1))) (aA rfl) (aH hS rfl) rfl)),
      fun X4 S hw hi hS => bL (X := X4) rfl (hw X4) rfl (aQ rfl (aZ (aA rfl) (aH hS rfl) (aH hS rfl) rfl)),
      fun X4 S hw hi hS => bL (X := X4) rfl (hw X4) rfl (aQ rfl (cL (m := 0) (aA rfl) (aH hS rfl) (og hS rfl rfl) (aH hS rfl) bR.of (bI aB h8))),
      fun X4 S hw hi hS => bL (X := X4) rfl (hw X4) rfl (aQ rfl (dJ (aA rfl) (aH hS rfl) (l := 0) (og hS rfl rfl) (eF aB h8) dY (es := (aB x7)) rfl rfl)),
      fun X4 S hw hi hS => bL (X := X4) rfl (hw X4) rfl (aQ rfl (cL (m := 0) (aA rfl) (aH hS rfl) (og hS rfl rfl) (aH hS rfl) bR.of (bI aB h10))),
      fun X4 S hw hi hS => sC (X := X4) hS rfl rfl rfl (p := 0) rfl rfl (aQ rfl (jM (l := 0) (aH hS rfl) (og hS rfl rfl) (eF aB h10) (aH hS rfl) rfl rfl Try.sizeOf42 rfl (aA rfl) (Nat.le_of_ble_eq_true rfl) (rows' := ((data_0_1.set (w64 (a_1 + i_0_1)).toNat x5)).map aB) (mZ _ _ _ _ rfl))), trivial⟩⟩
   · exact fun X4 => dI (aM rfl (aM rfl (aM rfl (aV ⟨rfl, rfl, rfl, rfl, rfl, trivial⟩))))
  ·intro X4
   obtain ⟨x11, h12, h⟩ := bind_some h
   refine tr1 rfl (cL (m := 0) (aA rfl) rfl rfl rfl bR.of (bI aB h12)) ?_
   refine tr1 rfl (jM (l := 0) rfl rfl (eF aB h12) rfl rfl rfl Try.sizeOf42 rfl (aA rfl) (Nat.le_of_ble_eq_true rfl) (rows' := (((data_0_1.set (w64 (a_1 + i_0_1)).toNat x5).set (w64 (b_2 + i_0_1)).toNat x7)).map aB) (mZ _ _ _ _ rfl)) ?_
   refine dG ?_
   refine aE ?_
   refine tr1 rfl (aC (v := .d (.lit (.int .i64 i_0_1))) (aA rfl) rfl rfl) ?_
   refine tr1 rfl (aZ (aA rfl) rfl rfl rfl) ?_
   refine tr1 rfl (aJ (v := .d (.lit (.int .i64 ((w64 (i_0_1 + 1)))))) (aA rfl) rfl rfl) ?_
   refine aF ?_
   exact ⟨(w64 (i_0_1 + 1), ((data_0_1.set (w64 (a_1 + i_0_1)).toNat x5).set (w64 (b_2 + i_0_1)).toNat x7)), h, aX [0] rfl rfl (aM rfl (aM rfl (aV ⟨rfl, rfl, rfl, trivial⟩)))⟩
 ·have h := aS c3 h
  refine cN ?_
  refine .inl ⟨rfl, ?_⟩
  simp only [iS] at h
  have h := Option.some.inj h
  subst h
  exact ⟨_, [.arr data_0_v 42 5 (data_0_1.map aB)], [], _, .none, .refl _, .same _, rfl, rfl⟩

theorem mV (data_0 : List aD) (a_1 : Int) (m_2 : Int) (b_3 : Int) (cmp_4 : aD → aD → Option Int) {r : (List aD)} {data_0_v : Value} (cmp_4_f : Nat) (cmp_4_v : List AV) (cmp_4_e : ∀ args w, (callFunc cmp_4_f args).run Try.prog w = .ok (.enter cmp_4_f args) w) (cmp_4_h : ∀ (x0 : aD) (x1 : aD) r, cmp_4 x0 x1 = some r → Fn Try.prog cmp_4_f ([.agg (aB x0), .agg (aB x1)] ++ cmp_4_v) (.d (.lit (.int .i64 r)))) (h : eX data_0 a_1 m_2 b_3 cmp_4 = some r) : gC Try.prog 138 [.d (.lit data_0_v), .d (.lit (.int .i64 a_1)), .d (.lit (.int .i64 m_2)), .d (.lit (.int .i64 b_3)), .fn cmp_4_f cmp_4_v] [.arr data_0_v 42 5 (data_0.map aB)] (fun r' o' => r' = .tup [] ∧ o' = [.arr data_0_v 42 5 (r.map aB)]) := by
 unfold eX at h
 refine jW Try.func138 rfl (rs := []) Try.results138 Try.ntmps138 (Nat.le_of_ble_eq_true rfl) ?_
 refine aG ?_
 refine aE ?_
 refine tr1 rfl (aC (v := .d (.lit (.int .i64 m_2))) (aA rfl) rfl rfl) ?_
 refine tr1 rfl (aC (v := .d (.lit (.int .i64 a_1))) (aA rfl) rfl rfl) ?_
 refine tr1 rfl (aZ (aA rfl) rfl rfl rfl) ?_
 refine tr1 rfl (aJ (v := .d (.lit (.int .i64 ((w64 (m_2 - a_1)))))) (aA rfl) rfl rfl) ?_
 refine aF ?_
 refine aG ?_
 refine aE ?_
 refine tr1 rfl (aC (v := .d (.lit (.int .i64 b_3))) (aA rfl) rfl rfl) ?_
 refine tr1 rfl (aC (v := .d (.lit (.int .i64 m_2))) (aA rfl) rfl rfl) ?_
 refine tr1 rfl (aZ (aA rfl) rfl rfl rfl) ?_
 refine tr1 rfl (aJ (v := .d (.lit (.int .i64 ((w64 (b_3 - m_2)))))) (aA rfl) rfl rfl) ?_
 refine aF ?_
 refine aG ?_
 refine bQ ?_
 refine cG [2, 4] (fun (s1 : Int × Int × (List aD)) => [(0, .d (.lit data_0_v)), (10, .d (.lit (.int .i64 s1.1))), (11, .d (.lit (.int .i64 s1.2.1)))]) (fun (s1 : Int × Int × (List aD)) => [.arr data_0_v 42 5 (s1.2.2.map aB)]) (fun (k : Nat) (s1 : Int × Int × (List aD)) => dB m_2 cmp_4 k s1.1 s1.2.1 s1.2.2) (fun _ => rfl) (w64 (m_2 - a_1), w64 (b_3 - m_2), data_0) h (aX [0] rfl rfl (aM rfl (aM rfl (aM rfl (aV ⟨rfl, rfl, trivial⟩))))) ?_
 rintro k2 ⟨i_0_1, j_0_1, data_0_1⟩ h
 simp only [dB] at h
 refine aG ?_
 refine aG ?_
 refine aE ?_
 refine tr1 rfl (aC (v := .d (.lit (.int .i64 i_0_1))) (aA rfl) rfl rfl) ?_
 refine tr1 rfl (aC (v := .d (.lit (.int .i64 j_0_1))) (aA rfl) rfl rfl) ?_
 refine tr1 rfl (bC (aA rfl) rfl rfl rfl) ?_
 refine aF ?_
 refine bJ rfl (fun c3 => ?_) (fun c3 => ?_)
 ·have h := aT c3 h
  refine bG ?_
  refine bQ ?_
  refine aG ?_
  refine aE ?_
  refine tr1 rfl (aC (v := .d (.lit (.int .i64 i_0_1))) (aA rfl) rfl rfl) ?_
  refine tr1 rfl (aC (v := .d (.lit (.int .i64 j_0_1))) (aA rfl) rfl rfl) ?_
  refine tr1 rfl (bC (aA rfl) rfl rfl rfl) ?_
  refine aF ?_
  refine bJ rfl (fun c4 => ?_) (fun c4 => ?_)
  ·have h := aT c4 h
   refine aG ?_
   refine aE ?_
   refine tr1 rfl (aC (v := .d (.lit data_0_v)) (aA rfl) rfl rfl) ?_
   refine tr1 rfl (aC (v := .d (.lit (.int .i64 m_2))) (aA rfl) rfl rfl) ?_
   refine tr1 rfl (aC (v := .d (.lit (.int .i64 i_0_1))) (aA rfl) rfl rfl) ?_
   refine tr1 rfl (aZ (aA rfl) rfl rfl rfl) ?_
   refine tr1 rfl (aC (v := .d (.lit (.int .i64 m_2))) (aA rfl) rfl rfl) ?_
   refine tr1 rfl (aC (v := .d (.lit (.int .i64 j_0_1))) (aA rfl) rfl rfl) ?_
   refine tr1 rfl (aC (v := .fn cmp_4_f cmp_4_v) (aA rfl) rfl rfl) ?_
   obtain ⟨r5, h6, h⟩ := bind_some h
   refine bW rfl (dX (passed := [.arr data_0_v 42 5 (data_0_1.map aB)]) (aA rfl) rfl (.func _ _ Try.call141) rfl rfl (jF data_0_1 (w64 (m_2 - i_0_1)) m_2 j_0_1 cmp_4 cmp_4_f cmp_4_v cmp_4_e cmp_4_h h6)) ?_
   rintro _ ⟨_, _, ⟨rfl, rfl⟩, rfl⟩
   refine aF ?_
   refine aE ?_
   refine tr1 rfl (aC (v := .d (.lit (.int .i64 i_0_1))) (aA rfl) rfl rfl) ?_
   refine tr1 rfl (aC (v := .d (.lit (.int .i64 j_0_1))) (aA rfl) rfl rfl) ?_
   refine tr1 rfl (aZ (aA rfl) rfl rfl rfl) ?_
   refine tr1 rfl (aJ (v := .d (.lit (.int .i64 ((w64 (i_0_1 - j_0_1)))))) (aA rfl) rfl rfl) ?_
   refine dG ?_
   exact ⟨(w64 (i_0_1 - j_0_1), j_0_1, r5), h, aX [0] rfl rfl (aM rfl (aM rfl (aM rfl (aV ⟨rfl, rfl, trivial⟩))))⟩
  ·have h := aS c4 h
   refine aG ?_
   refine aE ?_
   refine tr1 rfl (aC (v := .d (.lit data_0_v)) (aA rfl) rfl rfl) ?_
   refine tr1 rfl (aC (v := .d (.lit (.int .i64 m_2))) (aA rfl) rfl rfl) ?_
   refine tr1 rfl (aC (v := .d (.lit (.int .i64 i_0_1))) (aA rfl) rfl rfl) ?_
   refine tr1 rfl (aZ (aA rfl) rfl rfl rfl) ?_
   refine tr1 rfl (aC (v := .d (.lit (.int .i64 m_2))) (aA rfl) rfl rfl) ?_
   refine tr1 rfl (aC (v := .d (.lit (.int .i64 j_0_1))) (aA rfl) rfl rfl) ?_
   refine tr1 rfl (aZ (aA rfl) rfl rfl rfl) ?_
   refine tr1 rfl (aC (v := .d (.lit (.int .i64 i_0_1))) (aA rfl) rfl rfl) ?_
   refine tr1 rfl (aZ (aA rfl) rfl rfl rfl) ?_
   refine tr1 rfl (aC (v := .d (.lit (.int .i64 i_0_1))) (aA rfl) rfl rfl) ?_
   refine tr1 rfl (aC (v := .fn cmp_4_f cmp_4_v) (aA rfl) rfl rfl) ?_
   obtain ⟨r7, h8, h⟩ := bind_some h
   refine bW rfl (dX (passed := [.arr data_0_v 42 5 (data_0_1.map aB)]) (aA rfl) rfl (.func _ _ Try.call141) rfl rfl (jF data_0_1 (w64 (m_2 - i_0_1)) (w64 ((w64 (m_2 + j_0_1)) - i_0_1)) i_0_1 cmp_4 cmp_4_f cmp_4_v cmp_4_e cmp_4_h h8)) ?_
   rintro _ ⟨_, _, ⟨rfl, rfl⟩, rfl⟩
   refine aF ?_
   refine aE ?_
   refine tr1 rfl (aC (v := .d (.lit (.int .i64 j_0_1))) (aA rfl) rfl rfl) ?_
   refine tr1 rfl (aC (v := .d (.lit (.int .i64 i_0_1))) (aA rfl) rfl rfl) ?_
   refine tr1 rfl (aZ (aA rfl) rfl rfl rfl) ?_
   refine tr1 rfl (aJ (v := .d (.lit (.int .i64 ((w64 (j_0_1 - i_0_1)))))) (aA rfl) rfl rfl) ?_
   refine dG ?_
   exact ⟨(i_0_1, w64 (j_0_1 - i_0_1), r7), h, aX [0] rfl rfl (aM rfl (aM rfl (aM rfl (aV ⟨rfl, rfl, trivial⟩))))⟩
 ·have h := aS c3 h
  refine cN ?_
  refine .inl ⟨rfl, ?_⟩
  simp only [jQ] at h
  refine aE ?_
  refine tr1 rfl (aC (v := .d (.lit data_0_v)) (aA rfl) rfl rfl) ?_
  refine tr1 rfl (aC (v := .d (.lit (.int .i64 m_2))) (aA rfl) rfl rfl) ?_
  refine tr1 rfl (aC (v := .d (.lit (.int .i64 i_0_1))) (aA rfl) rfl rfl) ?_
  refine tr1 rfl (aZ (aA rfl) rfl rfl rfl) ?_
  refine tr1 rfl (aC (v := .d (.lit (.int .i64 m_2))) (aA rfl) rfl rfl) ?_
  refine tr1 rfl (aC (v := .d (.lit (.int .i64 i_0_1))) (aA rfl) rfl rfl) ?_
  refine tr1 rfl (aC (v := .fn cmp_4_f cmp_4_v) (aA rfl) rfl rfl) ?_
  obtain ⟨r9, h10, h⟩ := bind_some h
  refine bW rfl (dX (passed := [.arr data_0_v 42 5 (data_0_1.map aB)]) (aA rfl) rfl (.func _ _ Try.call141) rfl rfl (jF data_0_1 (w64 (m_2 - i_0_1)) m_2 i_0_1 cmp_4 cmp_4_f cmp_4_v cmp_4_e cmp_4_h h10)) ?_
  rintro _ ⟨_, _, ⟨rfl, rfl⟩, rfl⟩
  refine aF ?_
  have h := Option.some.inj h
  subst h
  exact ⟨_, [.arr data_0_v 42 5 (r9.map aB)], [], _, .none, .refl _, .same _, rfl, rfl⟩

theorem qQ (cmp_4 : aD → aD → Option Int) (cmp_4_f : Nat) (cmp_4_v : List AV) (cmp_4_e : ∀ args w, (callFunc cmp_4_f args).run Try.prog w = .ok (.enter cmp_4_f args) w) (cmp_4_h : ∀ (x0 : aD) (x1 : aD) r, cmp_4 x0 x1 = some r → Fn Try.prog cmp_4_f ([.agg (aB x0), .agg (aB x1)] ++ cmp_4_v) (.d (.lit (.int .i64 r)))) (kr : Nat) : ∀ (data_0 : List aD) (a_1 : Int) (m_2 : Int) (b_3 : Int) {r : (List aD)} {data_0_v : Value} (_h : bK cmp_4 kr data_0 a_1 m_2 b_3 = some r), gC Try.prog 128 [.d (.lit data_0_v), .d (.lit (.int .i64 a_1)), .d (.lit (.int .i64 m_2)), .d (.lit (.int .i64 b_3)), .fn cmp_4_f cmp_4_v] [.arr data_0_v 42 5 (data_0.map aB)] (fun r' o' => r' = .tup [] ∧ o' = [.arr data_0_v 42 5 (r.map aB)]) := by
  induction kr with
  | zero => intros; rename_i h; cases h
  | succ kr ih =>
    intro data_0 a_1 m_2 b_3 r data_0_v h
    simp only [bK] at h
    refine jW Try.func128 rfl (rs := []) Try.results128 Try.ntmps128 (Nat.le_of_ble_eq_true rfl) ?_
    refine aG ?_
    refine aG ?_
    refine aE ?_
    refine tr1 rfl (aC (v := .d (.lit (.int .i64 m_2))) (aA rfl) rfl rfl) ?_
    refine tr1 rfl (aC (v := .d (.lit (.int .i64 a_1))) (aA rfl) rfl rfl) ?_
    refine tr1 rfl (aZ (aA rfl) rfl rfl rfl) ?_
    refine tr1 rfl (bC (aA rfl) rfl rfl rfl) ?_
    refine aF ?_
    refine bJ rfl (fun c1 => ?_) (fun c1 => ?_)
    ·have h := aT c1 h
     refine aG ?_
     refine aE ?_
     refine tr1 rfl (aC (v := .d (.lit (.int .i64 m_2))) (aA rfl) rfl rfl) ?_
     refine tr1 rfl (aJ (v := .d (.lit (.int .i64 m_2))) (aA rfl) rfl rfl) ?_
     refine aF ?_
     refine aG ?_
     refine aE ?_
     refine tr1 rfl (aC (v := .d (.lit (.int .i64 b_3))) (aA rfl) rfl rfl) ?_
     refine tr1 rfl (aJ (v := .d (.lit (.int .i64 b_3))) (aA rfl) rfl rfl) ?_
     refine aF ?_
     refine aG ?_
     refine bQ ?_
     refine cG [0, 1, 4] (fun (s2 : Int × Int) => [(10, .d (.lit (.int .i64 s2.1))), (11, .d (.lit (.int .i64 s2.2)))]) (fun (s2 : Int × Int) => [.arr data_0_v 42 5 (data_0.map aB)]) (fun (k : Nat) (s2 : Int × Int) => cT (bK cmp_4 kr) a_1 cmp_4 data_0 k s2.1 s2.2) (fun _ => rfl) (m_2, b_3) h (aX [0] rfl rfl (aM rfl (aM rfl (aV ⟨rfl, rfl, rfl, trivial⟩)))) ?_
     rintro k3 ⟨i_0_2, j_0_2⟩ h
     simp only [cT] at h
     refine aG ?_
     refine aG ?_
     refine aE ?_
     refine tr1 rfl (aC (v := .d (.lit (.int .i64 i_0_2))) (aA rfl) rfl rfl) ?_
     refine tr1 rfl (aC (v := .d (.lit (.int .i64 j_0_2))) (aA rfl) rfl rfl) ?_
     refine tr1 rfl (bC (aA rfl) rfl rfl rfl) ?_
     refine aF ?_
     refine bJ rfl (fun c4 => ?_) (fun c4 => ?_)
     ·have h := aT c4 h
      refine bG ?_
      refine bQ ?_
      refine aG ?_
      refine aE ?_
      refine tr1 rfl (aC (v := .d (.lit (.int .i64 i_0_2))) (aA rfl) rfl rfl) ?_
      refine tr1 rfl (aC (v := .d (.lit (.int .i64 j_0_2))) (aA rfl) rfl rfl) ?_
      refine tr1 rfl (aZ (aA rfl) rfl rfl rfl) ?_
      refine tr1 rfl (qN (aA rfl) rfl Try.runUnderlying3 Try.runUnderlying127) ?_
      refine tr1 rfl (aBy (aA rfl) rfl rfl (by decide)) ?_
      refine tr1 rfl (qN (aA rfl) rfl Try.runUnderlying127 Try.runUnderlying3) ?_
      refine tr1 rfl (aJ (v := .d (.lit (.int .i64 ((w64 ((IntKind.u64.wrap (w64 (i_0_2 + j_0_2))).fdiv (2 ^ (min (1 : Int).toNat 64)))))))) (aA rfl) rfl rfl) ?_
      refine aF ?_
      refine aG ?_
      obtain ⟨x5, h6, h⟩ := bind_some h
      obtain ⟨x7, h8, h⟩ := bind_some h
      refine fN mix 9 [0, 1, 4, 10, 11, 12] [(40, .fn cmp_4_f cmp_4_v), (44, .agg (aB x5)), (48, .agg (aB x7))] ?_ ?_
      ·refine ⟨[(40, 0, .fn cmp_4_f cmp_4_v), (41, 1, .d (.lit data_0_v)), (42, 2, .d (.lit (.int .i64 ((w64 ((IntKind.u64.wrap (w64 (i_0_2 + j_0_2))).fdiv (2 ^ (min (1 : Int).toNat 64)))))))), (43, 3, .ep data_0_v 5 (w64 ((IntKind.u64.wrap (w64 (i_0_2 + j_0_2))).fdiv (2 ^ (min (1 : Int).toNat 64)))).toNat 0), (44, 4, .agg (aB x5)), (45, 5, .d (.lit data_0_v)), (46, 6, .d (.lit (.int .i64 a_1))), (47, 7, .ep data_0_v 5 a_1.toNat 0), (48, 8, .agg (aB x7))], ?_, ?_⟩
       · exact ⟨by kernel_rfl, by kernel_rfl, by kernel_rfl, by kernel_rfl, by kernel_rfl, [([], []), ([], []), ([], []), ([1, 2], []), ([3], []), ([], []), ([], []), ([5, 6], []), ([7], [])], by kernel_rfl, ⟨fun S hS => aI rfl (aQ rfl (aC (v := .fn cmp_4_f cmp_4_v) (aA rfl) (aH hS rfl) rfl)),
      fun S hS => aI rfl (aQ rfl (aC (v := .d (.lit data_0_v)) (aA rfl) (aH hS rfl) rfl)),
      fun S hS => aI rfl (aQ rfl (aC (v := .d (.lit (.int .i64 ((w64 ((IntKind.u64.wrap (w64 (i_0_2 + j_0_2))).fdiv (2 ^ (min (1 : Int).toNat 64)))))))) (aA rfl) (aH hS rfl) rfl)),
      fun S hS => aI rfl (aQ rfl (cL (m := 0) (aA rfl) (aH hS rfl) rfl (aH hS rfl) bR.of (bI aB h6))),
      fun S hS => aI rfl (aQ rfl (dJ (aA rfl) (aH hS rfl) (l := 0) rfl (eF aB h6) dY (es := (aB x5)) rfl rfl)),
      fun S hS => aI rfl (aQ rfl (aC (v := .d (.lit data_0_v)) (aA rfl) (aH hS rfl) rfl)),
      fun S hS => aI rfl (aQ rfl (aC (v := .d (.lit (.int .i64 a_1))) (aA rfl) (aH hS rfl) rfl)),
      fun S hS => aI rfl (aQ rfl (cL (m := 0) (aA rfl) (aH hS rfl) rfl (aH hS rfl) bR.of (bI aB h8))),
      fun S hS => aI rfl (aQ rfl (dJ (aA rfl) (aH hS rfl) (l := 0) rfl (eF aB h8) dY (es := (aB x7)) rfl rfl)), trivial⟩⟩
       · exact dI (aM rfl (aM rfl (aM rfl (aV ⟨rfl, rfl, rfl, rfl, rfl, rfl, trivial⟩))))
      ·obtain ⟨r9, h10, h⟩ := bind_some h
       refine tr1 rfl (cC (aA rfl) (.clo _ _ _ _ cmp_4_e rfl) (uS rfl) rfl (BVs.refl _ _) (cmp_4_h _ _ _  h10) rfl) ?_
       refine tr1 rfl (bC (aA rfl) rfl rfl rfl) ?_
       refine aF ?_
       refine bJ rfl (fun c11 => ?_) (fun c11 => ?_)
       ·have h := aT c11 h
        refine aE ?_
        refine tr1 rfl (aC (v := .d (.lit (.int .i64 ((w64 ((IntKind.u64.wrap (w64 (i_0_2 + j_0_2))).fdiv (2 ^ (min (1 : Int).toNat 64)))))))) (aA rfl) rfl rfl) ?_
        refine tr1 rfl (aZ (aA rfl) rfl rfl rfl) ?_
        refine tr1 rfl (aJ (v := .d (.lit (.int .i64 ((w64 ((w64 ((IntKind.u64.wrap (w64 (i_0_2 + j_0_2))).fdiv (2 ^ (min (1 : Int).toNat 64)))) + 1)))))) (aA rfl) rfl rfl) ?_
        refine dG ?_
        exact ⟨(w64 ((w64 ((IntKind.u64.wrap (w64 (i_0_2 + j_0_2))).fdiv (2 ^ (min (1 : Int).toNat 64)))) + 1), j_0_2), h, aX [0] rfl rfl (aM rfl (aM rfl (aV ⟨rfl, rfl, rfl, trivial⟩)))⟩
       ·have h := aS c11 h
        refine aE ?_
        refine tr1 rfl (aC (v := .d (.lit (.int .i64 ((w64 ((IntKind.u64.wrap (w64 (i_0_2 + j_0_2))).fdiv (2 ^ (min (1 : Int).toNat 64)))))))) (aA rfl) rfl rfl) ?_
        refine tr1 rfl (aJ (v := .d (.lit (.int .i64 ((w64 ((IntKind.u64.wrap (w64 (i_0_2 + j_0_2))).fdiv (2 ^ (min (1 : Int).toNat 64)))))))) (aA rfl) rfl rfl) ?_
        refine dG ?_
        exact ⟨(i_0_2, w64 ((IntKind.u64.wrap (w64 (i_0_2 + j_0_2))).fdiv (2 ^ (min (1 : Int).toNat 64)))), h, aX [0] rfl rfl (aM rfl (aM rfl (aV ⟨rfl, rfl, rfl, trivial⟩)))⟩
     ·have h := aS c4 h
      refine cN ?_
      refine .inl ⟨rfl, ?_⟩
      simp only [gG] at h
      refine aG ?_
      refine aG ?_
      refine aE ?_
      refine tr1 rfl (aC (v := .d (.lit (.int .i64 a_1))) (aA rfl) rfl rfl) ?_
      refine tr1 rfl (aJ (v := .d (.lit (.int .i64 a_1))) (aA rfl) rfl rfl) ?_
      refine aF ?_
      refine bQ ?_
      refine cG [10] (fun (s12 : Int × (List aD)) => [(0, .d (.lit data_0_v)), (13, .d (.lit (.int .i64 s12.1)))]) (fun (s12 : Int × (List aD)) => [.arr data_0_v 42 5 (s12.2.map aB)]) (fun (k : Nat) (s12 : Int × (List aD)) => dQ (bK cmp_4 kr) i_0_2 k s12.1 s12.2) (fun _ => rfl) (a_1, data_0) h (aX [0] rfl rfl (aM rfl (aM rfl (aV ⟨rfl, trivial⟩)))) ?_
      rintro k13 ⟨k_2_12, data_2_12⟩ h
      simp only [dQ] at h
      refine aG ?_
      refine aG ?_
      refine aE ?_
      refine tr1 rfl (aC (v := .d (.lit (.int .i64 k_2_12))) (aA rfl) rfl rfl) ?_
      refine tr1 rfl (aC (v := .d (.lit (.int .i64 i_0_2))) (aA rfl) rfl rfl) ?_
      refine tr1 rfl (aZ (aA rfl) rfl rfl rfl) ?_
      refine tr1 rfl (bC (aA rfl) rfl rfl rfl) ?_
      refine aF ?_
      refine bJ rfl (fun c14 => ?_) (fun c14 => ?_)
      ·have h := aT c14 h
       refine bG ?_
       refine aG ?_
       refine bQ ?_
       obtain ⟨x16, h17, h⟩ := bind_some h
       obtain ⟨x18, h19, h⟩ := bind_some h
       obtain ⟨x20, h21, h⟩ := bind_some h
       refine lZ mix 16 [0, 10, 13] (fun X15 => [(63, .d (.lit data_0_v)), (65, .d (.lit (.int .i64 ((w64 (k_2_12 + 1)))))), (74, .agg (aB x18))]) (fun X15 => [.arr data_0_v 42 5 ((data_2_12.set k_2_12.toNat x16).map aB)]) ?_ ?_
       ·refine ⟨0, fun X15 => [(61, 0, .d (.lit data_0_v)), (62, 1, .d (.lit (.int .i64 k_2_12))), (63, 2, .d (.lit data_0_v)), (64, 3, .d (.lit (.int .i64 k_2_12))), (65, 4, .d (.lit (.int .i64 ((w64 (k_2_12 + 1)))))), (66, 5, .d (.lit data_0_v)), (67, 6, .d (.lit (.int .i64 k_2_12))), (68, 7, .d (.lit (.int .i64 ((w64 (k_2_12 + 1)))))), (69, 8, .ep data_0_v 5 (w64 (k_2_12 + 1)).toNat 0), (70, 9, .agg (aB x16)), (71, 10, .d (.lit data_0_v)), (72, 11, .d (.lit (.int .i64 k_2_12))), (73, 12, .ep data_0_v 5 k_2_12.toNat 0), (74, 13, .agg (aB x18)), (75, 14, .ep data_0_v 5 k_2_12.toNat 0)], fun X15 => [([(15, .arr data_0_v 42 5 ((data_2_12.set k_2_12.toNat x16).map aB))], .arr data_0_v 42 5 (data_2_12.map aB))], ?_, ?_⟩
        · exact ⟨by kernel_rfl, by kernel_rfl, by kernel_rfl, fun _ => by kernel_rfl, fun _ => by kernel_rfl, fun _ => by kernel_rfl, fun _ => rfl, [([], [15]), ([], [15]), ([], []), ([], []), ([3], []), ([], [15]), ([], [15]), ([6], [15]), ([5, 7], [15]), ([8], [15]), ([], [15]), ([], [15]), ([10, 11], [15]), ([12], [15]), ([0, 1], [15]), ([9, 14], [])], by kernel_rfl, ⟨fun X15 S hw hi hS => bL (X := X15) rfl (hw X15) rfl (aQ rfl (aC (v := .d (.lit data_0_v)) (aA rfl) (aH hS rfl) rfl)),
      fun X15 S hw hi hS => bL (X := X15) rfl (hw X15) rfl (aQ rfl (aC (v := .d (.lit (.int .i64 k_2_12))) (aA rfl) (aH hS rfl) rfl)),
      fun X15 S hw hi hS => bL (X := X15) rfl (hw X15) rfl (aQ rfl (aC (v := .d (.lit data_0_v)) (aA rfl) (aH hS rfl) rfl)),
      fun X15 S hw hi hS => bL (X := X15) rfl (hw X15) rfl (aQ rfl (aC (v := .d (.lit (.int .i64 k_2_12))) (aA rfl) (aH hS rfl) rfl)),
      fun X15 S hw hi hS => bL (X := X15) rfl (hw X15) rfl (aQ rfl (aZ (aA rfl) (aH hS rfl) rfl rfl)),
      fun X15 S hw hi hS => bL (X := X15) rfl (hw X15) rfl (aQ rfl (aC (v := .d (.lit data_0_v)) (aA rfl) (aH hS rfl) rfl)),
      fun X15 S hw hi hS => bL (X := X15) rfl (hw X15) rfl (aQ rfl (aC (v := .d (.lit (.int .i64 k_2_12))) (aA rfl) (aH hS rfl) rfl)),
      fun X15 S hw hi hS => bL (X := X15) rfl (hw X15) rfl (aQ rfl (aZ (aA rfl) (aH hS rfl) rfl rfl)),
      fun X15 S hw hi hS => bL (X := X15) rfl (hw X15) rfl (aQ rfl (cL (m := 0) (aA rfl) (aH hS rfl) (og hS rfl rfl) (aH hS rfl) bR.of (bI aB h17))),
      fun X15 S hw hi hS => bL (X := X15) rfl (hw X15) rfl (aQ rfl (dJ (aA rfl) (aH hS rfl) (l := 0) (og hS rfl rfl) (eF aB h17) dY (es := (aB x16)) rfl rfl)),
      fun X15 S hw hi hS => bL (X := X15) rfl (hw X15) rfl (aQ rfl (aC (v := .d (.lit data_0_v)) (aA rfl) (aH hS rfl) rfl)),
      fun X15 S hw hi hS => bL (X := X15) rfl (hw X15) rfl (aQ rfl (aC (v := .d (.lit (.int .i64 k_2_12))) (aA rfl) (aH hS rfl) rfl)),
      fun X15 S hw hi hS => bL (X := X15) rfl (hw X15) rfl (aQ rfl (cL (m := 0) (aA rfl) (aH hS rfl) (og hS rfl rfl) (aH hS rfl) bR.of (bI aB h19))),
      fun X15 S hw hi hS => bL (X := X15) rfl (hw X15) rfl (aQ rfl (dJ (aA rfl) (aH hS rfl) (l := 0) (og hS rfl rfl) (eF aB h19) dY (es := (aB x18)) rfl rfl)),
      fun X15 S hw hi hS => bL (X := X15) rfl (hw X15) rfl (aQ rfl (cL (m := 0) (aA rfl) (aH hS rfl) (og hS rfl rfl) (aH hS rfl) bR.of (bI aB h21))),
      fun X15 S hw hi hS => sC (X := X15) hS rfl rfl rfl (p := 0) rfl rfl (aQ rfl (jM (l := 0) (aH hS rfl) (og hS rfl rfl) (eF aB h21) (aH hS rfl) rfl rfl Try.sizeOf42 rfl (aA rfl) (Nat.le_of_ble_eq_true rfl) (rows' := ((data_2_12.set k_2_12.toNat x16)).map aB) (mZ _ _ _ _ rfl))), trivial⟩⟩
        · exact fun X15 => dI (aM rfl (aM rfl (aM rfl (aV ⟨rfl, rfl, rfl, trivial⟩))))
       ·intro X15
        obtain ⟨x22, h23, h⟩ := bind_some h
        refine tr1 rfl (cL (m := 0) (aA rfl) rfl rfl rfl bR.of (bI aB h23)) ?_
        refine tr1 rfl (jM (l := 0) rfl rfl (eF aB h23) rfl rfl rfl Try.sizeOf42 rfl (aA rfl) (Nat.le_of_ble_eq_true rfl) (rows' := (((data_2_12.set k_2_12.toNat x16).set (w64 (k_2_12 + 1)).toNat x18)).map aB) (mZ _ _ _ _ rfl)) ?_
        refine dG ?_
        refine aE ?_
        refine tr1 rfl (aC (v := .d (.lit (.int .i64 k_2_12))) (aA rfl) rfl rfl) ?_
        refine tr1 rfl (aZ (aA rfl) rfl rfl rfl) ?_
        refine tr1 rfl (aJ (v := .d (.lit (.int .i64 ((w64 (k_2_12 + 1)))))) (aA rfl) rfl rfl) ?_
        refine aF ?_
        exact ⟨(w64 (k_2_12 + 1), ((data_2_12.set k_2_12.toNat x16).set (w64 (k_2_12 + 1)).toNat x18)), h, aX [0] rfl rfl (aM rfl (aM rfl (aV ⟨rfl, trivial⟩)))⟩
      ·have h := aS c14 h
       refine cN ?_
       refine .inl ⟨rfl, ?_⟩
       simp only [jG] at h
       have h := Option.some.inj h
       subst h
       exact bM ⟨rfl, _, [.arr data_0_v 42 5 (data_2_12.map aB)], [], _, .none, .refl _, .same _, rfl, rfl⟩
    ·have h := aS c1 h
     refine bG ?_
     refine aG ?_
     refine aG ?_
     refine aE ?_
     refine tr1 rfl (aC (v := .d (.lit (.int .i64 b_3))) (aA rfl) rfl rfl) ?_
     refine tr1 rfl (aC (v := .d (.lit (.int .i64 m_2))) (aA rfl) rfl rfl) ?_
     refine tr1 rfl (aZ (aA rfl) rfl rfl rfl) ?_
     refine tr1 rfl (bC (aA rfl) rfl rfl rfl) ?_
     refine aF ?_
     refine bJ rfl (fun c24 => ?_) (fun c24 => ?_)
     ·have h := aT c24 h
      refine aG ?_
      refine aE ?_
      refine tr1 rfl (aC (v := .d (.lit (.int .i64 a_1))) (aA rfl) rfl rfl) ?_
      refine tr1 rfl (aJ (v := .d (.lit (.int .i64 a_1))) (aA rfl) rfl rfl) ?_
      refine aF ?_
      refine aG ?_
      refine aE ?_
      refine tr1 rfl (aC (v := .d (.lit (.int .i64 m_2))) (aA rfl) rfl rfl) ?_
      refine tr1 rfl (aJ (v := .d (.lit (.int .i64 m_2))) (aA rfl) rfl rfl) ?_
      refine aF ?_
      refine aG ?_
      refine bQ ?_
      refine cG [0, 2, 4] (fun (s25 : Int × Int) => [(14, .d (.lit (.int .i64 s25.1))), (15, .d (.lit (.int .i64 s25.2)))]) (fun (s25 : Int × Int) => [.arr data_0_v 42 5 (data_0.map aB)]) (fun (k : Nat) (s25 : Int × Int) => cU (bK cmp_4 kr) m_2 cmp_4 data_0 k s25.1 s25.2) (fun _ => rfl) (a_1, m_2) h (aX [0] rfl rfl (aM rfl (aM rfl (aV ⟨rfl, rfl, rfl, trivial⟩)))) ?_
      rintro k26 ⟨i_4_25, j_4_25⟩ h
      simp only [cU] at h
      refine aG ?_
      refine aG ?_
      refine aE ?_
      refine tr1 rfl (aC (v := .d (.lit (.int .i64 i_4_25))) (aA rfl) rfl rfl) ?_
      refine tr1 rfl (aC (v := .d (.lit (.int .i64 j_4_25))) (aA rfl) rfl rfl) ?_
      refine tr1 rfl (bC (aA rfl) rfl rfl rfl) ?_
      refine aF ?_
      refine bJ rfl (fun c27 => ?_) (fun c27 => ?_)
      ·have h := aT c27 h
       refine bG ?_
       refine bQ ?_
       refine aG ?_
       refine aE ?_
       refine tr1 rfl (aC (v := .d (.lit (.int .i64 i_4_25))) (aA rfl) rfl rfl) ?_
       refine tr1 rfl (aC (v := .d (.lit (.int .i64 j_4_25))) (aA rfl) rfl rfl) ?_
       refine tr1 rfl (aZ (aA rfl) rfl rfl rfl) ?_
       refine tr1 rfl (qN (aA rfl) rfl Try.runUnderlying3 Try.runUnderlying127) ?_
       refine tr1 rfl (aBy (aA rfl) rfl rfl (by decide)) ?_
       refine tr1 rfl (qN (aA rfl) rfl Try.runUnderlying127 Try.runUnderlying3) ?_
       refine tr1 rfl (aJ (v := .d (.lit (.int .i64 ((w64 ((IntKind.u64.wrap (w64 (i_4_25 + j_4_25))).fdiv (2 ^ (min (1 : Int).toNat 64)))))))) (aA rfl) rfl rfl) ?_
       refine aF ?_
       refine aG ?_
       obtain ⟨x28, h29, h⟩ := bind_some h
       obtain ⟨x30, h31, h⟩ := bind_some h
       refine fN mix 9 [0, 2, 4, 14, 15, 16] [(92, .fn cmp_4_f cmp_4_v), (96, .agg (aB x28)), (100, .agg (aB x30))] ?_ ?_
       ·refine ⟨[(92, 0, .fn cmp_4_f cmp_4_v), (93, 1, .d (.lit data_0_v)), (94, 2, .d (.lit (.int .i64 m_2))), (95, 3, .ep data_0_v 5 m_2.toNat 0), (96, 4, .agg (aB x28)), (97, 5, .d (.lit data_0_v)), (98, 6, .d (.lit (.int .i64 ((w64 ((IntKind.u64.wrap (w64 (i_4_25 + j_4_25))).fdiv (2 ^ (min (1 : Int).toNat 64)))))))), (99, 7, .ep data_0_v 5 (w64 ((IntKind.u64.wrap (w64 (i_4_25 + j_4_25))).fdiv (2 ^ (min (1 : Int).toNat 64)))).toNat 0), (100, 8, .agg (aB x30))], ?_, ?_⟩
        · exact ⟨by kernel_rfl, by kernel_rfl, by kernel_rfl, by kernel_rfl, by kernel_rfl, [([], []), ([], []), ([], []), ([1, 2], []), ([3], []), ([], []), ([], []), ([5, 6], []), ([7], [])], by kernel_rfl, ⟨fun S hS => aI rfl (aQ rfl (aC (v := .fn cmp_4_f cmp_4_v) (aA rfl) (aH hS rfl) rfl)),
      fun S hS => aI rfl (aQ rfl (aC (v := .d (.lit data_0_v)) (aA rfl) (aH hS rfl) rfl)),
      fun S hS => aI rfl (aQ rfl (aC (v := .d (.lit (.int .i64 m_2))) (aA rfl) (aH hS rfl) rfl)),
      fun S hS => aI rfl (aQ rfl (cL (m := 0) (aA rfl) (aH hS rfl) rfl (aH hS rfl) bR.of (bI aB h29))),
      fun S hS => aI rfl (aQ rfl (dJ (aA rfl) (aH hS rfl) (l := 0) rfl (eF aB h29) dY (es := (aB x28)) rfl rfl)),
      fun S hS => aI rfl (aQ rfl (aC (v := .d (.lit data_0_v)) (aA rfl) (aH hS rfl) rfl)),
      fun S hS => aI rfl (aQ rfl (aC (v := .d (.lit (.int .i64 ((w64 ((IntKind.u64.wrap (w64 (i_4_25 + j_4_25))).fdiv (2 ^ (min (1 : Int).toNat 64)))))))) (aA rfl) (aH hS rfl) rfl)),
      fun S hS => aI rfl (aQ rfl (cL (m := 0) (aA rfl) (aH hS rfl) rfl (aH hS rfl) bR.of (bI aB h31))),
      fun S hS => aI rfl (aQ rfl (dJ (aA rfl) (aH hS rfl) (l := 0) rfl (eF aB h31) dY (es := (aB x30)) rfl rfl)), trivial⟩⟩
        · exact dI (aM rfl (aM rfl (aM rfl (aV ⟨rfl, rfl, rfl, rfl, rfl, rfl, trivial⟩))))
       ·obtain ⟨r32, h33, h⟩ := bind_some h
        refine tr1 rfl (cC (aA rfl) (.clo _ _ _ _ cmp_4_e rfl) (uS rfl) rfl (BVs.refl _ _) (cmp_4_h _ _ _  h33) rfl) ?_
        refine tr1 rfl (bC (aA rfl) rfl rfl rfl) ?_
        refine tr1 rfl (eM (aA rfl) rfl) ?_
        refine aF ?_
        refine bJ rfl (fun c34 => ?_) (fun c34 => ?_)
        ·have h := aT c34 h
         refine aE ?_
         refine tr1 rfl (aC (v := .d (.lit (.int .i64 ((w64 ((IntKind.u64.wrap (w64 (i_4_25 + j_4_25))).fdiv (2 ^ (min (1 : Int).toNat 64)))))))) (aA rfl) rfl rfl) ?_
         refine tr1 rfl (aZ (aA rfl) rfl rfl rfl) ?_
         refine tr1 rfl (aJ (v := .d (.lit (.int .i64 ((w64 ((w64 ((IntKind.u64.wrap (w64 (i_4_25 + j_4_25))).fdiv (2 ^ (min (1 : Int).toNat 64)))) + 1)))))) (aA rfl) rfl rfl) ?_
         refine dG ?_
         exact ⟨(w64 ((w64 ((IntKind.u64.wrap (w64 (i_4_25 + j_4_25))).fdiv (2 ^ (min (1 : Int).toNat 64)))) + 1), j_4_25), h, aX [0] rfl rfl (aM rfl (aM rfl (aV ⟨rfl, rfl, rfl, trivial⟩)))⟩
        ·have h := aS c34 h
         refine aE ?_
         refine tr1 rfl (aC (v := .d (.lit (.int .i64 ((w64 ((IntKind.u64.wrap (w64 (i_4_25 + j_4_25))).fdiv (2 ^ (min (1 : Int).toNat 64)))))))) (aA rfl) rfl rfl) ?_
         refine tr1 rfl (aJ (v := .d (.lit (.int .i64 ((w64 ((IntKind.u64.wrap (w64 (i_4_25 + j_4_25))).fdiv (2 ^ (min (1 : Int).toNat 64)))))))) (aA rfl) rfl rfl) ?_
         refine dG ?_
         exact ⟨(i_4_25, w64 ((IntKind.u64.wrap (w64 (i_4_25 + j_4_25))).fdiv (2 ^ (min (1 : Int).toNat 64)))), h, aX [0] rfl rfl (aM rfl (aM rfl (aV ⟨rfl, rfl, rfl, trivial⟩)))⟩
      ·have h := aS c27 h
       refine cN ?_
       refine .inl ⟨rfl, ?_⟩
       simp only [gH] at h
       refine aG ?_
       refine aG ?_
       refine aE ?_
       refine tr1 rfl (aC (v := .d (.lit (.int .i64 m_2))) (aA rfl) rfl rfl) ?_
       refine tr1 rfl (aJ (v := .d (.lit (.int .i64 m_2))) (aA rfl) rfl rfl) ?_
       refine aF ?_
       refine bQ ?_
       refine cG [14] (fun (s35 : Int × (List aD)) => [(0, .d (.lit data_0_v)), (17, .d (.lit (.int .i64 s35.1)))]) (fun (s35 : Int × (List aD)) => [.arr data_0_v 42 5 (s35.2.map aB)]) (fun (k : Nat) (s35 : Int × (List aD)) => dR (bK cmp_4 kr) i_4_25 k s35.1 s35.2) (fun _ => rfl) (m_2, data_0) h (aX [0] rfl rfl (aM rfl (aM rfl (aV ⟨rfl, trivial⟩)))) ?_
       rintro k36 ⟨k_6_35, data_6_35⟩ h
       simp only [dR] at h
       refine aG ?_
       refine aG ?_
       refine aE ?_
       refine tr1 rfl (aC (v := .d (.lit (.int .i64 k_6_35))) (aA rfl) rfl rfl) ?_
       refine tr1 rfl (aC (v := .d (.lit (.int .i64 i_4_25))) (aA rfl) rfl rfl) ?_
       refine tr1 rfl (bC (aA rfl) rfl rfl rfl) ?_
       refine aF ?_
       refine bJ rfl (fun c37 => ?_) (fun c37 => ?_)
       ·have h := aT c37 h
        refine bG ?_
        refine aG ?_
        refine bQ ?_
        obtain ⟨x39, h40, h⟩ := bind_some h
        obtain ⟨x41, h42, h⟩ := bind_some h
        obtain ⟨x43, h44, h⟩ := bind_some h
        refine lZ mix 16 [0, 14, 17] (fun X38 => [(115, .d (.lit data_0_v)), (117, .d (.lit (.int .i64 ((w64 (k_6_35 - 1)))))), (126, .agg (aB x41))]) (fun X38 => [.arr data_0_v 42 5 ((data_6_35.set k_6_35.toNat x39).map aB)]) ?_ ?_
        ·refine ⟨0, fun X38 => [(113, 0, .d (.lit data_0_v)), (114, 1, .d (.lit (.int .i64 k_6_35))), (115, 2, .d (.lit data_0_v)), (116, 3, .d (.lit (.int .i64 k_6_35))), (117, 4, .d (.lit (.int .i64 ((w64 (k_6_35 - 1)))))), (118, 5, .d (.lit data_0_v)), (119, 6, .d (.lit (.int .i64 k_6_35))), (120, 7, .d (.lit (.int .i64 ((w64 (k_6_35 - 1)))))), (121, 8, .ep data_0_v 5 (w64 (k_6_35 - 1)).toNat 0), (122, 9, .agg (aB x39)), (123, 10, .d (.lit data_0_v)), (124, 11, .d (.lit (.int .i64 k_6_35))), (125, 12, .ep data_0_v 5 k_6_35.toNat 0), (126, 13, .agg (aB x41)), (127, 14, .ep data_0_v 5 k_6_35.toNat 0)], fun X38 => [([(15, .arr data_0_v 42 5 ((data_6_35.set k_6_35.toNat x39).map aB))], .arr data_0_v 42 5 (data_6_35.map aB))], ?_, ?_⟩
         · exact ⟨by kernel_rfl, by kernel_rfl, by kernel_rfl, fun _ => by kernel_rfl, fun _ => by kernel_rfl, fun _ => by kernel_rfl, fun _ => rfl, [([], [15]), ([], [15]), ([], []), ([], []), ([3], []), ([], [15]), ([], [15]), ([6], [15]), ([5, 7], [15]), ([8], [15]), ([], [15]), ([], [15]), ([10, 11], [15]), ([12], [15]), ([0, 1], [15]), ([9, 14], [])], by kernel_rfl, ⟨fun X38 S hw hi hS => bL (X := X38) rfl (hw X38) rfl (aQ rfl (aC (v := .d (.lit data_0_v)) (aA rfl) (aH hS rfl) rfl)),
      fun X38 S hw hi hS => bL (X := X38) rfl (hw X38) rfl (aQ rfl (aC (v := .d (.lit (.int .i64 k_6_35))) (aA rfl) (aH hS rfl) rfl)),
      fun X38 S hw hi hS => bL (X := X38) rfl (hw X38) rfl (aQ rfl (aC (v := .d (.lit data_0_v)) (aA rfl) (aH hS rfl) rfl)),
      fun X38 S hw hi hS => bL (X := X38) rfl (hw X38) rfl (aQ rfl (aC (v := .d (.lit (.int .i64 k_6_35))) (aA rfl) (aH hS rfl) rfl)),
      fun X38 S hw hi hS => bL (X := X38) rfl (hw X38) rfl (aQ rfl (aZ (aA rfl) (aH hS rfl) rfl rfl)),
      fun X38 S hw hi hS => bL (X := X38) rfl (hw X38) rfl (aQ rfl (aC (v := .d (.lit data_0_v)) (aA rfl) (aH hS rfl) rfl)),
      fun X38 S hw hi hS => bL (X := X38) rfl (hw X38) rfl (aQ rfl (aC (v := .d (.lit (.int .i64 k_6_35))) (aA rfl) (aH hS rfl) rfl)),
      fun X38 S hw hi hS => bL (X := X38) rfl (hw X38) rfl (aQ rfl (aZ (aA rfl) (aH hS rfl) rfl rfl)),
      fun X38 S hw hi hS => bL (X := X38) rfl (hw X38) rfl (aQ rfl (cL (m := 0) (aA rfl) (aH hS rfl) (og hS rfl rfl) (aH hS rfl) bR.of (bI aB h40))),
      fun X38 S hw hi hS => bL (X := X38) rfl (hw X38) rfl (aQ rfl (dJ (aA rfl) (aH hS rfl) (l := 0) (og hS rfl rfl) (eF aB h40) dY (es := (aB x39)) rfl rfl)),
      fun X38 S hw hi hS => bL (X := X38) rfl (hw X38) rfl (aQ rfl (aC (v := .d (.lit data_0_v)) (aA rfl) (aH hS rfl) rfl)),
      fun X38 S hw hi hS => bL (X := X38) rfl (hw X38) rfl (aQ rfl (aC (v := .d (.lit (.int .i64 k_6_35))) (aA rfl) (aH hS rfl) rfl)),
      fun X38 S hw hi hS => bL (X := X38) rfl (hw X38) rfl (aQ rfl (cL (m := 0) (aA rfl) (aH hS rfl) (og hS rfl rfl) (aH hS rfl) bR.of (bI aB h42))),
      fun X38 S hw hi hS => bL (X := X38) rfl (hw X38) rfl (aQ rfl (dJ (aA rfl) (aH hS rfl) (l := 0) (og hS rfl rfl) (eF aB h42) dY (es := (aB x41)) rfl rfl)),
      fun X38 S hw hi hS => bL (X := X38) rfl (hw X38) rfl (aQ rfl (cL (m := 0) (aA rfl) (aH hS rfl) (og hS rfl rfl) (aH hS rfl) bR.of (bI aB h44))),
      fun X38 S hw hi hS => sC (X := X38) hS rfl rfl rfl (p := 0) rfl rfl (aQ rfl (jM (l := 0) (aH hS rfl) (og hS rfl rfl) (eF aB h44) (aH hS rfl) rfl rfl Try.sizeOf42 rfl (aA rfl) (Nat.le_of_ble_eq_true rfl) (rows' := ((data_6_35.set k_6_35.toNat x39)).map aB) (mZ _ _ _ _ rfl))), trivial⟩⟩
         · exact fun X38 => dI (aM rfl (aM rfl (aM rfl (aV ⟨rfl, rfl, rfl, trivial⟩))))
        ·intro X38
         obtain ⟨x45, h46, h⟩ := bind_some h
         refine tr1 rfl (cL (m := 0) (aA rfl) rfl rfl rfl bR.of (bI aB h46)) ?_
         refine tr1 rfl (jM (l := 0) rfl rfl (eF aB h46) rfl rfl rfl Try.sizeOf42 rfl (aA rfl) (Nat.le_of_ble_eq_true rfl) (rows' := (((data_6_35.set k_6_35.toNat x39).set (w64 (k_6_35 - 1)).toNat x41)).map aB) (mZ _ _ _ _ rfl)) ?_
         refine dG ?_
         refine aE ?_
         refine tr1 rfl (aC (v := .d (.lit (.int .i64 k_6_35))) (aA rfl) rfl rfl) ?_
         refine tr1 rfl (aZ (aA rfl) rfl rfl rfl) ?_
         refine tr1 rfl (aJ (v := .d (.lit (.int .i64 ((w64 (k_6_35 - 1)))))) (aA rfl) rfl rfl) ?_
         refine aF ?_
         exact ⟨(w64 (k_6_35 - 1), ((data_6_35.set k_6_35.toNat x39).set (w64 (k_6_35 - 1)).toNat x41)), h, aX [0] rfl rfl (aM rfl (aM rfl (aV ⟨rfl, trivial⟩)))⟩
       ·have h := aS c37 h
        refine cN ?_
        refine .inl ⟨rfl, ?_⟩
        simp only [jH] at h
        have h := Option.some.inj h
        subst h
        exact bM ⟨rfl, _, [.arr data_0_v 42 5 (data_6_35.map aB)], [], _, .none, .refl _, .same _, rfl, rfl⟩
     ·have h := aS c24 h
      refine bG ?_
      refine aG ?_
      refine aE ?_
      refine tr1 rfl (aC (v := .d (.lit (.int .i64 a_1))) (aA rfl) rfl rfl) ?_
      refine tr1 rfl (aC (v := .d (.lit (.int .i64 b_3))) (aA rfl) rfl rfl) ?_
      refine tr1 rfl (aZ (aA rfl) rfl rfl rfl) ?_
      refine tr1 rfl (qN (aA rfl) rfl Try.runUnderlying3 Try.runUnderlying127) ?_
      refine tr1 rfl (aBy (aA rfl) rfl rfl (by decide)) ?_
      refine tr1 rfl (qN (aA rfl) rfl Try.runUnderlying127 Try.runUnderlying3) ?_
      refine tr1 rfl (aJ (v := .d (.lit (.int .i64 ((w64 ((IntKind.u64.wrap (w64 (a_1 + b_3))).fdiv (2 ^ (min (1 : Int).toNat 64)))))))) (aA rfl) rfl rfl) ?_
      refine aF ?_
      refine aG ?_
      refine aE ?_
      refine tr1 rfl (aC (v := .d (.lit (.int .i64 ((w64 ((IntKind.u64.wrap (w64 (a_1 + b_3))).fdiv (2 ^ (min (1 : Int).toNat 64)))))))) (aA rfl) rfl rfl) ?_
      refine tr1 rfl (aC (v := .d (.lit (.int .i64 m_2))) (aA rfl) rfl rfl) ?_
      refine tr1 rfl (aZ (aA rfl) rfl rfl rfl) ?_
      refine tr1 rfl (aJ (v := .d (.lit (.int .i64 ((w64 ((w64 ((IntKind.u64.wrap (w64 (a_1 + b_3))).fdiv (2 ^ (min (1 : Int).toNat 64)))) + m_2)))))) (aA rfl) rfl rfl) ?_
      refine aF ?_
      refine aG ?_
      refine aE ?_
      refine tr1 rfl (aJ (v := .d (.lit (.int .i64 0))) (aA rfl) rfl rfl) ?_
      refine tr1 rfl (aJ (v := .d (.lit (.int .i64 0))) (aA rfl) rfl rfl) ?_
      refine aF ?_
      refine aG ?_
      refine aG ?_
      refine aE ?_
      refine tr1 rfl (aC (v := .d (.lit (.int .i64 m_2))) (aA rfl) rfl rfl) ?_
      refine tr1 rfl (aC (v := .d (.lit (.int .i64 ((w64 ((IntKind.u64.wrap (w64 (a_1 + b_3))).fdiv (2 ^ (min (1 : Int).toNat 64)))))))) (aA rfl) rfl rfl) ?_
      refine tr1 rfl (bC (aA rfl) rfl rfl rfl) ?_
      refine aF ?_
      refine bJ rfl (fun c47 => ?_) (fun c47 => ?_)
      ·have h := aT c47 h
       refine aG ?_
       refine aE ?_
       refine tr1 rfl (aC (v := .d (.lit (.int .i64 ((w64 ((w64 ((IntKind.u64.wrap (w64 (a_1 + b_3))).fdiv (2 ^ (min (1 : Int).toNat 64)))) + m_2)))))) (aA rfl) rfl rfl) ?_
       refine tr1 rfl (aC (v := .d (.lit (.int .i64 b_3))) (aA rfl) rfl rfl) ?_
       refine tr1 rfl (aZ (aA rfl) rfl rfl rfl) ?_
       refine tr1 rfl (aJ (v := .d (.lit (.int .i64 ((w64 ((w64 ((w64 ((IntKind.u64.wrap (w64 (a_1 + b_3))).fdiv (2 ^ (min (1 : Int).toNat 64)))) + m_2)) - b_3)))))) (aA rfl) rfl rfl) ?_
       refine aF ?_
       refine aE ?_
       refine tr1 rfl (aC (v := .d (.lit (.int .i64 ((w64 ((IntKind.u64.wrap (w64 (a_1 + b_3))).fdiv (2 ^ (min (1 : Int).toNat 64)))))))) (aA rfl) rfl rfl) ?_
       refine tr1 rfl (aJ (v := .d (.lit (.int .i64 ((w64 ((IntKind.u64.wrap (w64 (a_1 + b_3))).fdiv (2 ^ (min (1 : Int).toNat 64)))))))) (aA rfl) rfl rfl) ?_
       refine aF ?_
       refine aG ?_
       refine aE ?_
       refine tr1 rfl (aC (v := .d (.lit (.int .i64 ((w64 ((w64 ((IntKind.u64.wrap (w64 (a_1 + b_3))).fdiv (2 ^ (min (1 : Int).toNat 64)))) + m_2)))))) (aA rfl) rfl rfl) ?_
       refine tr1 rfl (aZ (aA rfl) rfl rfl rfl) ?_
       refine tr1 rfl (aJ (v := .d (.lit (.int .i64 ((w64 ((w64 ((w64 ((IntKind.u64.wrap (w64 (a_1 + b_3))).fdiv (2 ^ (min (1 : Int).toNat 64)))) + m_2)) - 1)))))) (aA rfl) rfl rfl) ?_
       refine aF ?_
       refine aG ?_
       refine bQ ?_
       refine cG [0, 1, 2, 3, 4, 18, 19, 22] (fun (s48 : Int × Int) => [(20, .d (.lit (.int .i64 s48.1))), (21, .d (.lit (.int .i64 s48.2)))]) (fun (s48 : Int × Int) => [.arr data_0_v 42 5 (data_0.map aB)]) (fun (k : Nat) (s48 : Int × Int) => cF (bK cmp_4 kr) a_1 m_2 b_3 cmp_4 (w64 ((IntKind.u64.wrap (w64 (a_1 + b_3))).fdiv (2 ^ (min (1 : Int).toNat 64)))) (w64 ((w64 ((IntKind.u64.wrap (w64 (a_1 + b_3))).fdiv (2 ^ (min (1 : Int).toNat 64)))) + m_2)) (w64 ((w64 ((w64 ((IntKind.u64.wrap (w64 (a_1 + b_3))).fdiv (2 ^ (min (1 : Int).toNat 64)))) + m_2)) - 1)) data_0 k s48.1 s48.2) (fun _ => rfl) (w64 ((w64 ((w64 ((IntKind.u64.wrap (w64 (a_1 + b_3))).fdiv (2 ^ (min (1 : Int).toNat 64)))) + m_2)) - b_3), w64 ((IntKind.u64.wrap (w64 (a_1 + b_3))).fdiv (2 ^ (min (1 : Int).toNat 64)))) h (aX [0] rfl rfl (aM rfl (aM rfl (aV ⟨rfl, rfl, rfl, rfl, rfl, rfl, rfl, rfl, trivial⟩)))) ?_
       rintro k49 ⟨start_8_48, r_8_48⟩ h
       simp only [cF] at h
       refine aG ?_
       refine aG ?_
       refine aE ?_
       refine tr1 rfl (aC (v := .d (.lit (.int .i64 start_8_48))) (aA rfl) rfl rfl) ?_
       refine tr1 rfl (aC (v := .d (.lit (.int .i64 r_8_48))) (aA rfl) rfl rfl) ?_
       refine tr1 rfl (bC (aA rfl) rfl rfl rfl) ?_
       refine aF ?_
       refine bJ rfl (fun c50 => ?_) (fun c50 => ?_)
       ·have h := aT c50 h
        refine bG ?_
        refine bQ ?_
        refine aG ?_
        refine aE ?_
        refine tr1 rfl (aC (v := .d (.lit (.int .i64 start_8_48))) (aA rfl) rfl rfl) ?_
        refine tr1 rfl (aC (v := .d (.lit (.int .i64 r_8_48))) (aA rfl) rfl rfl) ?_
        refine tr1 rfl (aZ (aA rfl) rfl rfl rfl) ?_
        refine tr1 rfl (qN (aA rfl) rfl Try.runUnderlying3 Try.runUnderlying127) ?_
        refine tr1 rfl (aBy (aA rfl) rfl rfl (by decide)) ?_
        refine tr1 rfl (qN (aA rfl) rfl Try.runUnderlying127 Try.runUnderlying3) ?_
        refine tr1 rfl (aJ (v := .d (.lit (.int .i64 ((w64 ((IntKind.u64.wrap (w64 (start_8_48 + r_8_48))).fdiv (2 ^ (min (1 : Int).toNat 64)))))))) (aA rfl) rfl rfl) ?_
        refine aF ?_
        refine aG ?_
        obtain ⟨x51, h52, h⟩ := bind_some h
        obtain ⟨x53, h54, h⟩ := bind_some h
        refine fN mix 11 [0, 1, 2, 3, 4, 18, 19, 20, 21, 22, 23] [(158, .fn cmp_4_f cmp_4_v), (164, .agg (aB x51)), (168, .agg (aB x53))] ?_ ?_
        ·refine ⟨[(158, 0, .fn cmp_4_f cmp_4_v), (159, 1, .d (.lit data_0_v)), (160, 2, .d (.lit (.int .i64 ((w64 ((w64 ((w64 ((IntKind.u64.wrap (w64 (a_1 + b_3))).fdiv (2 ^ (min (1 : Int).toNat 64)))) + m_2)) - 1)))))), (161, 3, .d (.lit (.int .i64 ((w64 ((IntKind.u64.wrap (w64 (start_8_48 + r_8_48))).fdiv (2 ^ (min (1 : Int).toNat 64)))))))), (162, 4, .d (.lit (.int .i64 ((w64 ((w64 ((w64 ((w64 ((IntKind.u64.wrap (w64 (a_1 + b_3))).fdiv (2 ^ (min (1 : Int).toNat 64)))) + m_2)) - 1)) - (w64 ((IntKind.u64.wrap (w64 (start_8_48 + r_8_48))).fdiv (2 ^ (min (1 : Int).toNat 64)))))))))), (163, 5, .ep data_0_v 5 (w64 ((w64 ((w64 ((w64 ((IntKind.u64.wrap (w64 (a_1 + b_3))).fdiv (2 ^ (min (1 : Int).toNat 64)))) + m_2)) - 1)) - (w64 ((IntKind.u64.wrap (w64 (start_8_48 + r_8_48))).fdiv (2 ^ (min (1 : Int).toNat 64)))))).toNat 0), (164, 6, .agg (aB x51)), (165, 7, .d (.lit data_0_v)), (166, 8, .d (.lit (.int .i64 ((w64 ((IntKind.u64.wrap (w64 (start_8_48 + r_8_48))).fdiv (2 ^ (min (1 : Int).toNat 64)))))))), (167, 9, .ep data_0_v 5 (w64 ((IntKind.u64.wrap (w64 (start_8_48 + r_8_48))).fdiv (2 ^ (min (1 : Int).toNat 64)))).toNat 0), (168, 10, .agg (aB x53))], ?_, ?_⟩
         · exact ⟨by kernel_rfl, by kernel_rfl, by kernel_rfl, by kernel_rfl, by kernel_rfl, [([], []), ([], []), ([], []), ([], []), ([2, 3], []), ([1, 4], []), ([5], []), ([], []), ([], []), ([7, 8], []), ([9], [])], by kernel_rfl, ⟨fun S hS => aI rfl (aQ rfl (aC (v := .fn cmp_4_f cmp_4_v) (aA rfl) (aH hS rfl) rfl)),
      fun S hS => aI rfl (aQ rfl (aC (v := .d (.lit data_0_v)) (aA rfl) (aH hS rfl) rfl)),
      fun S hS => aI rfl (aQ rfl (aC (v := .d (.lit (.int .i64 ((w64 ((w64 ((w64 ((IntKind.u64.wrap (w64 (a_1 + b_3))).fdiv (2 ^ (min (1 : Int).toNat 64)))) + m_2)) - 1)))))) (aA rfl) (aH hS rfl) rfl)),
      fun S hS => aI rfl (aQ rfl (aC (v := .d (.lit (.int .i64 ((w64 ((IntKind.u64.wrap (w64 (start_8_48 + r_8_48))).fdiv (2 ^ (min (1 : Int).toNat 64)))))))) (aA rfl) (aH hS rfl) rfl)),
      fun S hS => aI rfl (aQ rfl (aZ (aA rfl) (aH hS rfl) (aH hS rfl) rfl)),
      fun S hS => aI rfl (aQ rfl (cL (m := 0) (aA rfl) (aH hS rfl) rfl (aH hS rfl) bR.of (bI aB h52))),
      fun S hS => aI rfl (aQ rfl (dJ (aA rfl) (aH hS rfl) (l := 0) rfl (eF aB h52) dY (es := (aB x51)) rfl rfl)),
      fun S hS => aI rfl (aQ rfl (aC (v := .d (.lit data_0_v)) (aA rfl) (aH hS rfl) rfl)),
      fun S hS => aI rfl (aQ rfl (aC (v := .d (.lit (.int .i64 ((w64 ((IntKind.u64.wrap (w64 (start_8_48 + r_8_48))).fdiv (2 ^ (min (1 : Int).toNat 64)))))))) (aA rfl) (aH hS rfl) rfl)),
      fun S hS => aI rfl (aQ rfl (cL (m := 0) (aA rfl) (aH hS rfl) rfl (aH hS rfl) bR.of (bI aB h54))),
      fun S hS => aI rfl (aQ rfl (dJ (aA rfl) (aH hS rfl) (l := 0) rfl (eF aB h54) dY (es := (aB x53)) rfl rfl)), trivial⟩⟩
         · exact dI (aM rfl (aM rfl (aM rfl (aV ⟨rfl, rfl, rfl, rfl, rfl, rfl, rfl, rfl, rfl, rfl, rfl, trivial⟩))))
        ·obtain ⟨r55, h56, h⟩ := bind_some h
         refine tr1 rfl (cC (aA rfl) (.clo _ _ _ _ cmp_4_e rfl) (uS rfl) rfl (BVs.refl _ _) (cmp_4_h _ _ _  h56) rfl) ?_
         refine tr1 rfl (bC (aA rfl) rfl rfl rfl) ?_
         refine tr1 rfl (eM (aA rfl) rfl) ?_
         refine aF ?_
         refine bJ rfl (fun c57 => ?_) (fun c57 => ?_)
         ·have h := aT c57 h
          refine aE ?_
          refine tr1 rfl (aC (v := .d (.lit (.int .i64 ((w64 ((IntKind.u64.wrap (w64 (start_8_48 + r_8_48))).fdiv (2 ^ (min (1 : Int).toNat 64)))))))) (aA rfl) rfl rfl) ?_
          refine tr1 rfl (aZ (aA rfl) rfl rfl rfl) ?_
          refine tr1 rfl (aJ (v := .d (.lit (.int .i64 ((w64 ((w64 ((IntKind.u64.wrap (w64 (start_8_48 + r_8_48))).fdiv (2 ^ (min (1 : Int).toNat 64)))) + 1)))))) (aA rfl) rfl rfl) ?_
          refine dG ?_
          exact ⟨(w64 ((w64 ((IntKind.u64.wrap (w64 (start_8_48 + r_8_48))).fdiv (2 ^ (min (1 : Int).toNat 64)))) + 1), r_8_48), h, aX [0] rfl rfl (aM rfl (aM rfl (aV ⟨rfl, rfl, rfl, rfl, rfl, rfl, rfl, rfl, trivial⟩)))⟩
         ·have h := aS c57 h
          refine aE ?_
          refine tr1 rfl (aC (v := .d (.lit (.int .i64 ((w64 ((IntKind.u64.wrap (w64 (start_8_48 + r_8_48))).fdiv (2 ^ (min (1 : Int).toNat 64)))))))) (aA rfl) rfl rfl) ?_
          refine tr1 rfl (aJ (v := .d (.lit (.int .i64 ((w64 ((IntKind.u64.wrap (w64 (start_8_48 + r_8_48))).fdiv (2 ^ (min (1 : Int).toNat 64)))))))) (aA rfl) rfl rfl) ?_
          refine dG ?_
          exact ⟨(start_8_48, w64 ((IntKind.u64.wrap (w64 (start_8_48 + r_8_48))).fdiv (2 ^ (min (1 : Int).toNat 64)))), h, aX [0] rfl rfl (aM rfl (aM rfl (aV ⟨rfl, rfl, rfl, rfl, rfl, rfl, rfl, rfl, trivial⟩)))⟩
       ·have h := aS c50 h
        refine cN ?_
        refine .inl ⟨rfl, ?_⟩
        simp only [dF] at h
        refine aG ?_
        refine aE ?_
        refine tr1 rfl (aC (v := .d (.lit (.int .i64 ((w64 ((w64 ((IntKind.u64.wrap (w64 (a_1 + b_3))).fdiv (2 ^ (min (1 : Int).toNat 64)))) + m_2)))))) (aA rfl) rfl rfl) ?_
        refine tr1 rfl (aC (v := .d (.lit (.int .i64 start_8_48))) (aA rfl) rfl rfl) ?_
        refine tr1 rfl (aZ (aA rfl) rfl rfl rfl) ?_
        refine tr1 rfl (aJ (v := .d (.lit (.int .i64 ((w64 ((w64 ((w64 ((IntKind.u64.wrap (w64 (a_1 + b_3))).fdiv (2 ^ (min (1 : Int).toNat 64)))) + m_2)) - start_8_48)))))) (aA rfl) rfl rfl) ?_
        refine aF ?_
        refine aG ?_
        refine aG ?_
        refine aE ?_
        refine tr1 rfl (aC (v := .d (.lit (.int .i64 start_8_48))) (aA rfl) rfl rfl) ?_
        refine tr1 rfl (aC (v := .d (.lit (.int .i64 m_2))) (aA rfl) rfl rfl) ?_
        refine tr1 rfl (bC (aA rfl) rfl rfl rfl) ?_
        refine tr1 rfl (aC (v := .d (.lit (.bool ((decide (start_8_48 < m_2)))))) (aA rfl) rfl rfl) ?_
        obtain ⟨b58, h59, h⟩ := bind_some h
        refine cA 4 [0, 1, 2, 3, 4, 18, 20, 24] 185 b58 ?_ ?_
        ·refine bF (decide (start_8_48 < m_2)) (fun c99 => ?_) (fun c99 => ?_)
         ·have h59 := aT c99 h59
          refine aO rfl rfl (aA rfl) rfl c99 (aC (v := .d (.lit (.int .i64 m_2))) (aA rfl) rfl rfl) ?_
          refine aO rfl rfl (aA rfl) rfl c99 (aC (v := .d (.lit (.int .i64 ((w64 ((w64 ((w64 ((IntKind.u64.wrap (w64 (a_1 + b_3))).fdiv (2 ^ (min (1 : Int).toNat 64)))) + m_2)) - start_8_48)))))) (aA rfl) rfl rfl) ?_
          refine aO rfl rfl (aA rfl) rfl c99 (bC (aA rfl) rfl rfl rfl) ?_
          refine tr1 rfl (bN (v := .d (.lit (.bool ((decide (m_2 < (w64 ((w64 ((w64 ((IntKind.u64.wrap (w64 (a_1 + b_3))).fdiv (2 ^ (min (1 : Int).toNat 64)))) + m_2)) - start_8_48)))))))) (aA rfl) rfl c99 rfl rfl) ?_
          have h59 := Option.some.inj h59
          subst h59
          refine aF (bB rfl ⟨rfl, rfl, rfl, rfl, rfl, rfl, rfl, rfl, trivial⟩ rfl)
         ·have h59 := aS c99 h59
          refine aR rfl rfl (aA rfl) rfl (aA rfl) rfl c99 ?_
          refine aR rfl rfl (aA rfl) rfl (aA rfl) rfl c99 ?_
          refine aR rfl rfl (aA rfl) rfl (aA rfl) rfl c99 ?_
          refine tr1 rfl (bP (v := .d (.lit (.bool false))) (aA rfl) rfl c99 rfl rfl) ?_
          have h59 := Option.some.inj h59
          subst h59
          refine aF (bB rfl ⟨rfl, rfl, rfl, rfl, rfl, rfl, rfl, rfl, trivial⟩ rfl)
        ·refine aF ?_
         refine bJ rfl (fun c60 => ?_) (fun c60 => ?_)
         ·have h := aT c60 h
          refine aE ?_
          refine tr1 rfl (aC (v := .d (.lit data_0_v)) (aA rfl) rfl rfl) ?_
          refine tr1 rfl (aC (v := .d (.lit (.int .i64 start_8_48))) (aA rfl) rfl rfl) ?_
          refine tr1 rfl (aC (v := .d (.lit (.int .i64 m_2))) (aA rfl) rfl rfl) ?_
          refine tr1 rfl (aC (v := .d (.lit (.int .i64 ((w64 ((w64 ((w64 ((IntKind.u64.wrap (w64 (a_1 + b_3))).fdiv (2 ^ (min (1 : Int).toNat 64)))) + m_2)) - start_8_48)))))) (aA rfl) rfl rfl) ?_
          refine tr1 rfl (aC (v := .fn cmp_4_f cmp_4_v) (aA rfl) rfl rfl) ?_
          obtain ⟨r61, h62, h⟩ := bind_some h
          refine bW rfl (dX (passed := [.arr data_0_v 42 5 (data_0.map aB)]) (aA rfl) rfl (.func _ _ Try.call138) rfl rfl (mV data_0 start_8_48 m_2 (w64 ((w64 ((w64 ((IntKind.u64.wrap (w64 (a_1 + b_3))).fdiv (2 ^ (min (1 : Int).toNat 64)))) + m_2)) - start_8_48)) cmp_4 cmp_4_f cmp_4_v cmp_4_e cmp_4_h h62)) ?_
          rintro _ ⟨_, _, ⟨rfl, rfl⟩, rfl⟩
          refine aF ?_
          refine aG ?_
          refine aG ?_
          refine aE ?_
          refine tr1 rfl (aC (v := .d (.lit (.int .i64 a_1))) (aA rfl) rfl rfl) ?_
          refine tr1 rfl (aC (v := .d (.lit (.int .i64 start_8_48))) (aA rfl) rfl rfl) ?_
          refine tr1 rfl (bC (aA rfl) rfl rfl rfl) ?_
          refine tr1 rfl (aC (v := .d (.lit (.bool ((decide (a_1 < start_8_48)))))) (aA rfl) rfl rfl) ?_
          obtain ⟨b63, h64, h⟩ := bind_some h
          refine cA 4 [0, 1, 3, 4, 18, 20, 24] 199 b63 ?_ ?_
          ·refine bF (decide (a_1 < start_8_48)) (fun c80 => ?_) (fun c80 => ?_)
           ·have h64 := aT c80 h64
            refine aO rfl rfl (aA rfl) rfl c80 (aC (v := .d (.lit (.int .i64 start_8_48))) (aA rfl) rfl rfl) ?_
            refine aO rfl rfl (aA rfl) rfl c80 (aC (v := .d (.lit (.int .i64 ((w64 ((IntKind.u64.wrap (w64 (a_1 + b_3))).fdiv (2 ^ (min (1 : Int).toNat 64)))))))) (aA rfl) rfl rfl) ?_
            refine aO rfl rfl (aA rfl) rfl c80 (bC (aA rfl) rfl rfl rfl) ?_
            refine tr1 rfl (bN (v := .d (.lit (.bool ((decide (start_8_48 < (w64 ((IntKind.u64.wrap (w64 (a_1 + b_3))).fdiv (2 ^ (min (1 : Int).toNat 64)))))))))) (aA rfl) rfl c80 rfl rfl) ?_
            have h64 := Option.some.inj h64
            subst h64
            refine aF (bB rfl ⟨rfl, rfl, rfl, rfl, rfl, rfl, rfl, trivial⟩ rfl)
           ·have h64 := aS c80 h64
            refine aR rfl rfl (aA rfl) rfl (aA rfl) rfl c80 ?_
            refine aR rfl rfl (aA rfl) rfl (aA rfl) rfl c80 ?_
            refine aR rfl rfl (aA rfl) rfl (aA rfl) rfl c80 ?_
            refine tr1 rfl (bP (v := .d (.lit (.bool false))) (aA rfl) rfl c80 rfl rfl) ?_
            have h64 := Option.some.inj h64
            subst h64
            refine aF (bB rfl ⟨rfl, rfl, rfl, rfl, rfl, rfl, rfl, trivial⟩ rfl)
          ·refine aF ?_
           refine bJ rfl (fun c65 => ?_) (fun c65 => ?_)
           ·have h := aT c65 h
            refine aE ?_
            refine tr1 rfl (aC (v := .d (.lit data_0_v)) (aA rfl) rfl rfl) ?_
            refine tr1 rfl (aC (v := .d (.lit (.int .i64 a_1))) (aA rfl) rfl rfl) ?_
            refine tr1 rfl (aC (v := .d (.lit (.int .i64 start_8_48))) (aA rfl) rfl rfl) ?_
            refine tr1 rfl (aC (v := .d (.lit (.int .i64 ((w64 ((IntKind.u64.wrap (w64 (a_1 + b_3))).fdiv (2 ^ (min (1 : Int).toNat 64)))))))) (aA rfl) rfl rfl) ?_
            refine tr1 rfl (aC (v := .fn cmp_4_f cmp_4_v) (aA rfl) rfl rfl) ?_
            obtain ⟨r66, h67, h⟩ := bind_some h
            refine bW rfl (dX (passed := [.arr data_0_v 42 5 (r61.map aB)]) (aA rfl) rfl (.func _ _ Try.call128) rfl rfl (ih r61 a_1 start_8_48 (w64 ((IntKind.u64.wrap (w64 (a_1 + b_3))).fdiv (2 ^ (min (1 : Int).toNat 64)))) h67)) ?_
            rintro _ ⟨_, _, ⟨rfl, rfl⟩, rfl⟩
            refine aF ?_
            refine aG ?_
            refine aE ?_
            refine tr1 rfl (aC (v := .d (.lit (.int .i64 ((w64 ((IntKind.u64.wrap (w64 (a_1 + b_3))).fdiv (2 ^ (min (1 : Int).toNat 64)))))))) (aA rfl) rfl rfl) ?_
            refine tr1 rfl (aC (v := .d (.lit (.int .i64 ((w64 ((w64 ((w64 ((IntKind.u64.wrap (w64 (a_1 + b_3))).fdiv (2 ^ (min (1 : Int).toNat 64)))) + m_2)) - start_8_48)))))) (aA rfl) rfl rfl) ?_
            refine tr1 rfl (bC (aA rfl) rfl rfl rfl) ?_
            refine tr1 rfl (aC (v := .d (.lit (.bool ((decide ((w64 ((IntKind.u64.wrap (w64 (a_1 + b_3))).fdiv (2 ^ (min (1 : Int).toNat 64)))) < (w64 ((w64 ((w64 ((IntKind.u64.wrap (w64 (a_1 + b_3))).fdiv (2 ^ (min (1 : Int).toNat 64)))) + m_2)) - start_8_48)))))))) (aA rfl) rfl rfl) ?_
            obtain ⟨b68, h69, h⟩ := bind_some h
            refine cA 4 [0, 3, 4, 18, 24] 213 b68 ?_ ?_
            ·refine bF (decide ((w64 ((IntKind.u64.wrap (w64 (a_1 + b_3))).fdiv (2 ^ (min (1 : Int).toNat 64)))) < (w64 ((w64 ((w64 ((IntKind.u64.wrap (w64 (a_1 + b_3))).fdiv (2 ^ (min (1 : Int).toNat 64)))) + m_2)) - start_8_48)))) (fun c73 => ?_) (fun c73 => ?_)
             ·have h69 := aT c73 h69
              refine aO rfl rfl (aA rfl) rfl c73 (aC (v := .d (.lit (.int .i64 ((w64 ((w64 ((w64 ((IntKind.u64.wrap (w64 (a_1 + b_3))).fdiv (2 ^ (min (1 : Int).toNat 64)))) + m_2)) - start_8_48)))))) (aA rfl) rfl rfl) ?_
              refine aO rfl rfl (aA rfl) rfl c73 (aC (v := .d (.lit (.int .i64 b_3))) (aA rfl) rfl rfl) ?_
              refine aO rfl rfl (aA rfl) rfl c73 (bC (aA rfl) rfl rfl rfl) ?_
              refine tr1 rfl (bN (v := .d (.lit (.bool ((decide ((w64 ((w64 ((w64 ((IntKind.u64.wrap (w64 (a_1 + b_3))).fdiv (2 ^ (min (1 : Int).toNat 64)))) + m_2)) - start_8_48)) < b_3)))))) (aA rfl) rfl c73 rfl rfl) ?_
              have h69 := Option.some.inj h69
              subst h69
              refine aF (bB rfl ⟨rfl, rfl, rfl, rfl, rfl, trivial⟩ rfl)
             ·have h69 := aS c73 h69
              refine aR rfl rfl (aA rfl) rfl (aA rfl) rfl c73 ?_
              refine aR rfl rfl (aA rfl) rfl (aA rfl) rfl c73 ?_
              refine aR rfl rfl (aA rfl) rfl (aA rfl) rfl c73 ?_
              refine tr1 rfl (bP (v := .d (.lit (.bool false))) (aA rfl) rfl c73 rfl rfl) ?_
              have h69 := Option.some.inj h69
              subst h69
              refine aF (bB rfl ⟨rfl, rfl, rfl, rfl, rfl, trivial⟩ rfl)
            ·refine aF ?_
             refine bJ rfl (fun c70 => ?_) (fun c70 => ?_)
             ·have h := aT c70 h
              refine aE ?_
              refine tr1 rfl (aC (v := .d (.lit data_0_v)) (aA rfl) rfl rfl) ?_
              refine tr1 rfl (aC (v := .d (.lit (.int .i64 ((w64 ((IntKind.u64.wrap (w64 (a_1 + b_3))).fdiv (2 ^ (min (1 : Int).toNat 64)))))))) (aA rfl) rfl rfl) ?_
              refine tr1 rfl (aC (v := .d (.lit (.int .i64 ((w64 ((w64 ((w64 ((IntKind.u64.wrap (w64 (a_1 + b_3))).fdiv (2 ^ (min (1 : Int).toNat 64)))) + m_2)) - start_8_48)))))) (aA rfl) rfl rfl) ?_
              refine tr1 rfl (aC (v := .d (.lit (.int .i64 b_3))) (aA rfl) rfl rfl) ?_
              refine tr1 rfl (aC (v := .fn cmp_4_f cmp_4_v) (aA rfl) rfl rfl) ?_
              obtain ⟨r71, h72, h⟩ := bind_some h
              refine bW rfl (dX (passed := [.arr data_0_v 42 5 (r66.map aB)]) (aA rfl) rfl (.func _ _ Try.call128) rfl rfl (ih r66 (w64 ((IntKind.u64.wrap (w64 (a_1 + b_3))).fdiv (2 ^ (min (1 : Int).toNat 64)))) (w64 ((w64 ((w64 ((IntKind.u64.wrap (w64 (a_1 + b_3))).fdiv (2 ^ (min (1 : Int).toNat 64)))) + m_2)) - start_8_48)) b_3 h72)) ?_
              rintro _ ⟨_, _, ⟨rfl, rfl⟩, rfl⟩
              refine aF ?_
              have h := Option.some.inj h
              subst h
              exact ⟨_, [.arr data_0_v 42 5 (r71.map aB)], [], _, .none, .refl _, .same _, rfl, rfl⟩
             ·have h := aS c70 h
              refine bG ?_
              have h := Option.some.inj h
              subst h
              exact ⟨_, [.arr data_0_v 42 5 (r66.map aB)], [], _, .none, .refl _, .same _, rfl, rfl⟩
           ·have h := aS c65 h
            refine bG ?_
            refine aG ?_
            refine aE ?_
            refine tr1 rfl (aC (v := .d (.lit (.int .i64 ((w64 ((IntKind.u64.wrap (w64 (a_1 + b_3))).fdiv (2 ^ (min (1 : Int).toNat 64)))))))) (aA rfl) rfl rfl) ?_
            refine tr1 rfl (aC (v := .d (.lit (.int .i64 ((w64 ((w64 ((w64 ((IntKind.u64.wrap (w64 (a_1 + b_3))).fdiv (2 ^ (min (1 : Int).toNat 64)))) + m_2)) - start_8_48)))))) (aA rfl) rfl rfl) ?_
            refine tr1 rfl (bC (aA rfl) rfl rfl rfl) ?_
            refine tr1 rfl (aC (v := .d (.lit (.bool ((decide ((w64 ((IntKind.u64.wrap (w64 (a_1 + b_3))).fdiv (2 ^ (min (1 : Int).toNat 64)))) < (w64 ((w64 ((w64 ((IntKind.u64.wrap (w64 (a_1 + b_3))).fdiv (2 ^ (min (1 : Int).toNat 64)))) + m_2)) - start_8_48)))))))) (aA rfl) rfl rfl) ?_
            obtain ⟨b74, h75, h⟩ := bind_some h
            refine cA 4 [0, 3, 4, 18, 24] 213 b74 ?_ ?_
            ·refine bF (decide ((w64 ((IntKind.u64.wrap (w64 (a_1 + b_3))).fdiv (2 ^ (min (1 : Int).toNat 64)))) < (w64 ((w64 ((w64 ((IntKind.u64.wrap (w64 (a_1 + b_3))).fdiv (2 ^ (min (1 : Int).toNat 64)))) + m_2)) - start_8_48)))) (fun c79 => ?_) (fun c79 => ?_)
             ·have h75 := aT c79 h75
              refine aO rfl rfl (aA rfl) rfl c79 (aC (v := .d (.lit (.int .i64 ((w64 ((w64 ((w64 ((IntKind.u64.wrap (w64 (a_1 + b_3))).fdiv (2 ^ (min (1 : Int).toNat 64)))) + m_2)) - start_8_48)))))) (aA rfl) rfl rfl) ?_
              refine aO rfl rfl (aA rfl) rfl c79 (aC (v := .d (.lit (.int .i64 b_3))) (aA rfl) rfl rfl) ?_
              refine aO rfl rfl (aA rfl) rfl c79 (bC (aA rfl) rfl rfl rfl) ?_
              refine tr1 rfl (bN (v := .d (.lit (.bool ((decide ((w64 ((w64 ((w64 ((IntKind.u64.wrap (w64 (a_1 + b_3))).fdiv (2 ^ (min (1 : Int).toNat 64)))) + m_2)) - start_8_48)) < b_3)))))) (aA rfl) rfl c79 rfl rfl) ?_
              have h75 := Option.some.inj h75
              subst h75
              refine aF (bB rfl ⟨rfl, rfl, rfl, rfl, rfl, trivial⟩ rfl)
             ·have h75 := aS c79 h75
              refine aR rfl rfl (aA rfl) rfl (aA rfl) rfl c79 ?_
              refine aR rfl rfl (aA rfl) rfl (aA rfl) rfl c79 ?_
              refine aR rfl rfl (aA rfl) rfl (aA rfl) rfl c79 ?_
              refine tr1 rfl (bP (v := .d (.lit (.bool false))) (aA rfl) rfl c79 rfl rfl) ?_
              have h75 := Option.some.inj h75
              subst h75
              refine aF (bB rfl ⟨rfl, rfl, rfl, rfl, rfl, trivial⟩ rfl)
            ·refine aF ?_
             refine bJ rfl (fun c76 => ?_) (fun c76 => ?_)
             ·have h := aT c76 h
              refine aE ?_
              refine tr1 rfl (aC (v := .d (.lit data_0_v)) (aA rfl) rfl rfl) ?_
              refine tr1 rfl (aC (v := .d (.lit (.int .i64 ((w64 ((IntKind.u64.wrap (w64 (a_1 + b_3))).fdiv (2 ^ (min (1 : Int).toNat 64)))))))) (aA rfl) rfl rfl) ?_
              refine tr1 rfl (aC (v := .d (.lit (.int .i64 ((w64 ((w64 ((w64 ((IntKind.u64.wrap (w64 (a_1 + b_3))).fdiv (2 ^ (min (1 : Int).toNat 64)))) + m_2)) - start_8_48)))))) (aA rfl) rfl rfl) ?_
              refine tr1 rfl (aC (v := .d (.lit (.int .i64 b_3))) (aA rfl) rfl rfl) ?_
              refine tr1 rfl (aC (v := .fn cmp_4_f cmp_4_v) (aA rfl) rfl rfl) ?_
              obtain ⟨r77, h78, h⟩ := bind_some h
              refine bW rfl (dX (passed := [.arr data_0_v 42 5 (r61.map aB)]) (aA rfl) rfl (.func _ _ Try.call128) rfl rfl (ih r61 (w64 ((IntKind.u64.wrap (w64 (a_1 + b_3))).fdiv (2 ^ (min (1 : Int).toNat 64)))) (w64 ((w64 ((w64 ((IntKind.u64.wrap (w64 (a_1 + b_3))).fdiv (2 ^ (min (1 : Int).toNat 64)))) + m_2)) - start_8_48)) b_3 h78)) ?_
              rintro _ ⟨_, _, ⟨rfl, rfl⟩, rfl⟩
              refine aF ?_
              have h := Option.some.inj h
              subst h
              exact ⟨_, [.arr data_0_v 42 5 (r77.map aB)], [], _, .none, .refl _, .same _, rfl, rfl⟩
             ·have h := aS c76 h
              refine bG ?_
              have h := Option.some.inj h
              subst h
              exact ⟨_, [.arr data_0_v 42 5 (r61.map aB)], [], _, .none, .refl _, .same _, rfl, rfl⟩
         ·have h := aS c60 h
          refine bG ?_
          refine aG ?_
          refine aG ?_
          refine aE ?_
          refine tr1 rfl (aC (v := .d (.lit (.int .i64 a_1))) (aA rfl) rfl rfl) ?_
          refine tr1 rfl (aC (v := .d (.lit (.int .i64 start_8_48))) (aA rfl) rfl rfl) ?_
          refine tr1 rfl (bC (aA rfl) rfl rfl rfl) ?_
          refine tr1 rfl (aC (v := .d (.lit (.bool ((decide (a_1 < start_8_48)))))) (aA rfl) rfl rfl) ?_
          obtain ⟨b81, h82, h⟩ := bind_some h
          refine cA 4 [0, 1, 3, 4, 18, 20, 24] 199 b81 ?_ ?_
          ·refine bF (decide (a_1 < start_8_48)) (fun c98 => ?_) (fun c98 => ?_)
           ·have h82 := aT c98 h82
            refine aO rfl rfl (aA rfl) rfl c98 (aC (v := .d (.lit (.int .i64 start_8_48))) (aA rfl) rfl rfl) ?_
            refine aO rfl rfl (aA rfl) rfl c98 (aC (v := .d (.lit (.int .i64 ((w64 ((IntKind.u64.wrap (w64 (a_1 + b_3))).fdiv (2 ^ (min (1 : Int).toNat 64)))))))) (aA rfl) rfl rfl) ?_
            refine aO rfl rfl (aA rfl) rfl c98 (bC (aA rfl) rfl rfl rfl) ?_
            refine tr1 rfl (bN (v := .d (.lit (.bool ((decide (start_8_48 < (w64 ((IntKind.u64.wrap (w64 (a_1 + b_3))).fdiv (2 ^ (min (1 : Int).toNat 64)))))))))) (aA rfl) rfl c98 rfl rfl) ?_
            have h82 := Option.some.inj h82
            subst h82
            refine aF (bB rfl ⟨rfl, rfl, rfl, rfl, rfl, rfl, rfl, trivial⟩ rfl)
           ·have h82 := aS c98 h82
            refine aR rfl rfl (aA rfl) rfl (aA rfl) rfl c98 ?_
            refine aR rfl rfl (aA rfl) rfl (aA rfl) rfl c98 ?_
            refine aR rfl rfl (aA rfl) rfl (aA rfl) rfl c98 ?_
            refine tr1 rfl (bP (v := .d (.lit (.bool false))) (aA rfl) rfl c98 rfl rfl) ?_
            have h82 := Option.some.inj h82
            subst h82
            refine aF (bB rfl ⟨rfl, rfl, rfl, rfl, rfl, rfl, rfl, trivial⟩ rfl)
          ·refine aF ?_
           refine bJ rfl (fun c83 => ?_) (fun c83 => ?_)
           ·have h := aT c83 h
            refine aE ?_
            refine tr1 rfl (aC (v := .d (.lit data_0_v)) (aA rfl) rfl rfl) ?_
            refine tr1 rfl (aC (v := .d (.lit (.int .i64 a_1))) (aA rfl) rfl rfl) ?_
            refine tr1 rfl (aC (v := .d (.lit (.int .i64 start_8_48))) (aA rfl) rfl rfl) ?_
            refine tr1 rfl (aC (v := .d (.lit (.int .i64 ((w64 ((IntKind.u64.wrap (w64 (a_1 + b_3))).fdiv (2 ^ (min (1 : Int).toNat 64)))))))) (aA rfl) rfl rfl) ?_
            refine tr1 rfl (aC (v := .fn cmp_4_f cmp_4_v) (aA rfl) rfl rfl) ?_
            obtain ⟨r84, h85, h⟩ := bind_some h
            refine bW rfl (dX (passed := [.arr data_0_v 42 5 (data_0.map aB)]) (aA rfl) rfl (.func _ _ Try.call128) rfl rfl (ih data_0 a_1 start_8_48 (w64 ((IntKind.u64.wrap (w64 (a_1 + b_3))).fdiv (2 ^ (min (1 : Int).toNat 64)))) h85)) ?_
            rintro _ ⟨_, _, ⟨rfl, rfl⟩, rfl⟩
            refine aF ?_
            refine aG ?_
            refine aE ?_
            refine tr1 rfl (aC (v := .d (.lit (.int .i64 ((w64 ((IntKind.u64.wrap (w64 (a_1 + b_3))).fdiv (2 ^ (min (1 : Int).toNat 64)))))))) (aA rfl) rfl rfl) ?_
            refine tr1 rfl (aC (v := .d (.lit (.int .i64 ((w64 ((w64 ((w64 ((IntKind.u64.wrap (w64 (a_1 + b_3))).fdiv (2 ^ (min (1 : Int).toNat 64)))) + m_2)) - start_8_48)))))) (aA rfl) rfl rfl) ?_
            refine tr1 rfl (bC (aA rfl) rfl rfl rfl) ?_
            refine tr1 rfl (aC (v := .d (.lit (.bool ((decide ((w64 ((IntKind.u64.wrap (w64 (a_1 + b_3))).fdiv (2 ^ (min (1 : Int).toNat 64)))) < (w64 ((w64 ((w64 ((IntKind.u64.wrap (w64 (a_1 + b_3))).fdiv (2 ^ (min (1 : Int).toNat 64)))) + m_2)) - start_8_48)))))))) (aA rfl) rfl rfl) ?_
            obtain ⟨b86, h87, h⟩ := bind_some h
            refine cA 4 [0, 3, 4, 18, 24] 213 b86 ?_ ?_
            ·refine bF (decide ((w64 ((IntKind.u64.wrap (w64 (a_1 + b_3))).fdiv (2 ^ (min (1 : Int).toNat 64)))) < (w64 ((w64 ((w64 ((IntKind.u64.wrap (w64 (a_1 + b_3))).fdiv (2 ^ (min (1 : Int).toNat 64)))) + m_2)) - start_8_48)))) (fun c91 => ?_) (fun c91 => ?_)
             ·have h87 := aT c91 h87
              refine aO rfl rfl (aA rfl) rfl c91 (aC (v := .d (.lit (.int .i64 ((w64 ((w64 ((w64 ((IntKind.u64.wrap (w64 (a_1 + b_3))).fdiv (2 ^ (min (1 : Int).toNat 64)))) + m_2)) - start_8_48)))))) (aA rfl) rfl rfl) ?_
              refine aO rfl rfl (aA rfl) rfl c91 (aC (v := .d (.lit (.int .i64 b_3))) (aA rfl) rfl rfl) ?_
              refine aO rfl rfl (aA rfl) rfl c91 (bC (aA rfl) rfl rfl rfl) ?_
              refine tr1 rfl (bN (v := .d (.lit (.bool ((decide ((w64 ((w64 ((w64 ((IntKind.u64.wrap (w64 (a_1 + b_3))).fdiv (2 ^ (min (1 : Int).toNat 64)))) + m_2)) - start_8_48)) < b_3)))))) (aA rfl) rfl c91 rfl rfl) ?_
              have h87 := Option.some.inj h87
              subst h87
              refine aF (bB rfl ⟨rfl, rfl, rfl, rfl, rfl, trivial⟩ rfl)
             ·have h87 := aS c91 h87
              refine aR rfl rfl (aA rfl) rfl (aA rfl) rfl c91 ?_
              refine aR rfl rfl (aA rfl) rfl (aA rfl) rfl c91 ?_
              refine aR rfl rfl (aA rfl) rfl (aA rfl) rfl c91 ?_
              refine tr1 rfl (bP (v := .d (.lit (.bool false))) (aA rfl) rfl c91 rfl rfl) ?_
              have h87 := Option.some.inj h87
              subst h87
              refine aF (bB rfl ⟨rfl, rfl, rfl, rfl, rfl, trivial⟩ rfl)
            ·refine aF ?_
             refine bJ rfl (fun c88 => ?_) (fun c88 => ?_)
             ·have h := aT c88 h
              refine aE ?_
              refine tr1 rfl (aC (v := .d (.lit data_0_v)) (aA rfl) rfl rfl) ?_
              refine tr1 rfl (aC (v := .d (.lit (.int .i64 ((w64 ((IntKind.u64.wrap (w64 (a_1 + b_3))).fdiv (2 ^ (min (1 : Int).toNat 64)))))))) (aA rfl) rfl rfl) ?_
              refine tr1 rfl (aC (v := .d (.lit (.int .i64 ((w64 ((w64 ((w64 ((IntKind.u64.wrap (w64 (a_1 + b_3))).fdiv (2 ^ (min (1 : Int).toNat 64)))) + m_2)) - start_8_48)))))) (aA rfl) rfl rfl) ?_
              refine tr1 rfl (aC (v := .d (.lit (.int .i64 b_3))) (aA rfl) rfl rfl) ?_
              refine tr1 rfl (aC (v := .fn cmp_4_f cmp_4_v) (aA rfl) rfl rfl) ?_
              obtain ⟨r89, h90, h⟩ := bind_some h
              refine bW rfl (dX (passed := [.arr data_0_v 42 5 (r84.map aB)]) (aA rfl) rfl (.func _ _ Try.call128) rfl rfl (ih r84 (w64 ((IntKind.u64.wrap (w64 (a_1 + b_3))).fdiv (2 ^ (min (1 : Int).toNat 64)))) (w64 ((w64 ((w64 ((IntKind.u64.wrap (w64 (a_1 + b_3))).fdiv (2 ^ (min (1 : Int).toNat 64)))) + m_2)) - start_8_48)) b_3 h90)) ?_
              rintro _ ⟨_, _, ⟨rfl, rfl⟩, rfl⟩
              refine aF ?_
              have h := Option.some.inj h
              subst h
              exact ⟨_, [.arr data_0_v 42 5 (r89.map aB)], [], _, .none, .refl _, .same _, rfl, rfl⟩
             ·have h := aS c88 h
              refine bG ?_
              have h := Option.some.inj h
              subst h
              exact ⟨_, [.arr data_0_v 42 5 (r84.map aB)], [], _, .none, .refl _, .same _, rfl, rfl⟩
           ·have h := aS c83 h
            refine bG ?_
            refine aG ?_
            refine aE ?_
            refine tr1 rfl (aC (v := .d (.lit (.int .i64 ((w64 ((IntKind.u64.wrap (w64 (a_1 + b_3))).fdiv (2 ^ (min (1 : Int).toNat 64)))))))) (aA rfl) rfl rfl) ?_
            refine tr1 rfl (aC (v := .d (.lit (.int .i64 ((w64 ((w64 ((w64 ((IntKind.u64.wrap (w64 (a_1 + b_3))).fdiv (2 ^ (min (1 : Int).toNat 64)))) + m_2)) - start_8_48)))))) (aA rfl) rfl rfl) ?_
            refine tr1 rfl (bC (aA rfl) rfl rfl rfl) ?_
            refine tr1 rfl (aC (v := .d (.lit (.bool ((decide ((w64 ((IntKind.u64.wrap (w64 (a_1 + b_3))).fdiv (2 ^ (min (1 : Int).toNat 64)))) < (w64 ((w64 ((w64 ((IntKind.u64.wrap (w64 (a_1 + b_3))).fdiv (2 ^ (min (1 : Int).toNat 64)))) + m_2)) - start_8_48)))))))) (aA rfl) rfl rfl) ?_
            obtain ⟨b92, h93, h⟩ := bind_some h
            refine cA 4 [0, 3, 4, 18, 24] 213 b92 ?_ ?_
            ·refine bF (decide ((w64 ((IntKind.u64.wrap (w64 (a_1 + b_3))).fdiv (2 ^ (min (1 : Int).toNat 64)))) < (w64 ((w64 ((w64 ((IntKind.u64.wrap (w64 (a_1 + b_3))).fdiv (2 ^ (min (1 : Int).toNat 64)))) + m_2)) - start_8_48)))) (fun c97 => ?_) (fun c97 => ?_)
             ·have h93 := aT c97 h93
              refine aO rfl rfl (aA rfl) rfl c97 (aC (v := .d (.lit (.int .i64 ((w64 ((w64 ((w64 ((IntKind.u64.wrap (w64 (a_1 + b_3))).fdiv (2 ^ (min (1 : Int).toNat 64)))) + m_2)) - start_8_48)))))) (aA rfl) rfl rfl) ?_
              refine aO rfl rfl (aA rfl) rfl c97 (aC (v := .d (.lit (.int .i64 b_3))) (aA rfl) rfl rfl) ?_
              refine aO rfl rfl (aA rfl) rfl c97 (bC (aA rfl) rfl rfl rfl) ?_
              refine tr1 rfl (bN (v := .d (.lit (.bool ((decide ((w64 ((w64 ((w64 ((IntKind.u64.wrap (w64 (a_1 + b_3))).fdiv (2 ^ (min (1 : Int).toNat 64)))) + m_2)) - start_8_48)) < b_3)))))) (aA rfl) rfl c97 rfl rfl) ?_
              have h93 := Option.some.inj h93
              subst h93
              refine aF (bB rfl ⟨rfl, rfl, rfl, rfl, rfl, trivial⟩ rfl)
             ·have h93 := aS c97 h93
              refine aR rfl rfl (aA rfl) rfl (aA rfl) rfl c97 ?_
              refine aR rfl rfl (aA rfl) rfl (aA rfl) rfl c97 ?_
              refine aR rfl rfl (aA rfl) rfl (aA rfl) rfl c97 ?_
              refine tr1 rfl (bP (v := .d (.lit (.bool false))) (aA rfl) rfl c97 rfl rfl) ?_
              have h93 := Option.some.inj h93
              subst h93
              refine aF (bB rfl ⟨rfl, rfl, rfl, rfl, rfl, trivial⟩ rfl)
            ·refine aF ?_
             refine bJ rfl (fun c94 => ?_) (fun c94 => ?_)
             ·have h := aT c94 h
              refine aE ?_
              refine tr1 rfl (aC (v := .d (.lit data_0_v)) (aA rfl) rfl rfl) ?_
              refine tr1 rfl (aC (v := .d (.lit (.int .i64 ((w64 ((IntKind.u64.wrap (w64 (a_1 + b_3))).fdiv (2 ^ (min (1 : Int).toNat 64)))))))) (aA rfl) rfl rfl) ?_
              refine tr1 rfl (aC (v := .d (.lit (.int .i64 ((w64 ((w64 ((w64 ((IntKind.u64.wrap (w64 (a_1 + b_3))).fdiv (2 ^ (min (1 : Int).toNat 64)))) + m_2)) - start_8_48)))))) (aA rfl) rfl rfl) ?_
              refine tr1 rfl (aC (v := .d (.lit (.int .i64 b_3))) (aA rfl) rfl rfl) ?_
              refine tr1 rfl (aC (v := .fn cmp_4_f cmp_4_v) (aA rfl) rfl rfl) ?_
              obtain ⟨r95, h96, h⟩ := bind_some h
              refine bW rfl (dX (passed := [.arr data_0_v 42 5 (data_0.map aB)]) (aA rfl) rfl (.func _ _ Try.call128) rfl rfl (ih data_0 (w64 ((IntKind.u64.wrap (w64 (a_1 + b_3))).fdiv (2 ^ (min (1 : Int).toNat 64)))) (w64 ((w64 ((w64 ((IntKind.u64.wrap (w64 (a_1 + b_3))).fdiv (2 ^ (min (1 : Int).toNat 64)))) + m_2)) - start_8_48)) b_3 h96)) ?_
              rintro _ ⟨_, _, ⟨rfl, rfl⟩, rfl⟩
              refine aF ?_
              have h := Option.some.inj h
              subst h
              exact ⟨_, [.arr data_0_v 42 5 (r95.map aB)], [], _, .none, .refl _, .same _, rfl, rfl⟩
             ·have h := aS c94 h
              refine bG ?_
              have h := Option.some.inj h
              subst h
              exact ⟨_, [.arr data_0_v 42 5 (data_0.map aB)], [], _, .none, .refl _, .same _, rfl, rfl⟩
      ·have h := aS c47 h
       refine aG ?_
       refine aE ?_
       refine tr1 rfl (aC (v := .d (.lit (.int .i64 a_1))) (aA rfl) rfl rfl) ?_
       refine tr1 rfl (aJ (v := .d (.lit (.int .i64 a_1))) (aA rfl) rfl rfl) ?_
       refine aF ?_
       refine aE ?_
       refine tr1 rfl (aC (v := .d (.lit (.int .i64 m_2))) (aA rfl) rfl rfl) ?_
       refine tr1 rfl (aJ (v := .d (.lit (.int .i64 m_2))) (aA rfl) rfl rfl) ?_
       refine aF ?_
       refine aG ?_
       refine aE ?_
       refine tr1 rfl (aC (v := .d (.lit (.int .i64 ((w64 ((w64 ((IntKind.u64.wrap (w64 (a_1 + b_3))).fdiv (2 ^ (min (1 : Int).toNat 64)))) + m_2)))))) (aA rfl) rfl rfl) ?_
       refine tr1 rfl (aZ (aA rfl) rfl rfl rfl) ?_
       refine tr1 rfl (aJ (v := .d (.lit (.int .i64 ((w64 ((w64 ((w64 ((IntKind.u64.wrap (w64 (a_1 + b_3))).fdiv (2 ^ (min (1 : Int).toNat 64)))) + m_2)) - 1)))))) (aA rfl) rfl rfl) ?_
       refine aF ?_
       refine aG ?_
       refine bQ ?_
       refine cG [0, 1, 2, 3, 4, 18, 19, 22] (fun (s100 : Int × Int) => [(20, .d (.lit (.int .i64 s100.1))), (21, .d (.lit (.int .i64 s100.2)))]) (fun (s100 : Int × Int) => [.arr data_0_v 42 5 (data_0.map aB)]) (fun (k : Nat) (s100 : Int × Int) => cF (bK cmp_4 kr) a_1 m_2 b_3 cmp_4 (w64 ((IntKind.u64.wrap (w64 (a_1 + b_3))).fdiv (2 ^ (min (1 : Int).toNat 64)))) (w64 ((w64 ((IntKind.u64.wrap (w64 (a_1 + b_3))).fdiv (2 ^ (min (1 : Int).toNat 64)))) + m_2)) (w64 ((w64 ((w64 ((IntKind.u64.wrap (w64 (a_1 + b_3))).fdiv (2 ^ (min (1 : Int).toNat 64)))) + m_2)) - 1)) data_0 k s100.1 s100.2) (fun _ => rfl) (a_1, m_2) h (aX [0] rfl rfl (aM rfl (aM rfl (aV ⟨rfl, rfl, rfl, rfl, rfl, rfl, rfl, rfl, trivial⟩)))) ?_
       rintro k101 ⟨start_8_100, r_8_100⟩ h
       simp only [cF] at h
       refine aG ?_
       refine aG ?_
       refine aE ?_
       refine tr1 rfl (aC (v := .d (.lit (.int .i64 start_8_100))) (aA rfl) rfl rfl) ?_
       refine tr1 rfl (aC (v := .d (.lit (.int .i64 r_8_100))) (aA rfl) rfl rfl) ?_
       refine tr1 rfl (bC (aA rfl) rfl rfl rfl) ?_
       refine aF ?_
       refine bJ rfl (fun c102 => ?_) (fun c102 => ?_)
       ·have h := aT c102 h
        refine bG ?_
        refine bQ ?_
        refine aG ?_
        refine aE ?_
        refine tr1 rfl (aC (v := .d (.lit (.int .i64 start_8_100))) (aA rfl) rfl rfl) ?_
        refine tr1 rfl (aC (v := .d (.lit (.int .i64 r_8_100))) (aA rfl) rfl rfl) ?_
        refine tr1 rfl (aZ (aA rfl) rfl rfl rfl) ?_
        refine tr1 rfl (qN (aA rfl) rfl Try.runUnderlying3 Try.runUnderlying127) ?_
        refine tr1 rfl (aBy (aA rfl) rfl rfl (by decide)) ?_
        refine tr1 rfl (qN (aA rfl) rfl Try.runUnderlying127 Try.runUnderlying3) ?_
        refine tr1 rfl (aJ (v := .d (.lit (.int .i64 ((w64 ((IntKind.u64.wrap (w64 (start_8_100 + r_8_100))).fdiv (2 ^ (min (1 : Int).toNat 64)))))))) (aA rfl) rfl rfl) ?_
        refine aF ?_
        refine aG ?_
        obtain ⟨x103, h104, h⟩ := bind_some h
        obtain ⟨x105, h106, h⟩ := bind_some h
        refine fN mix 11 [0, 1, 2, 3, 4, 18, 19, 20, 21, 22, 23] [(158, .fn cmp_4_f cmp_4_v), (164, .agg (aB x103)), (168, .agg (aB x105))] ?_ ?_
        ·refine ⟨[(158, 0, .fn cmp_4_f cmp_4_v), (159, 1, .d (.lit data_0_v)), (160, 2, .d (.lit (.int .i64 ((w64 ((w64 ((w64 ((IntKind.u64.wrap (w64 (a_1 + b_3))).fdiv (2 ^ (min (1 : Int).toNat 64)))) + m_2)) - 1)))))), (161, 3, .d (.lit (.int .i64 ((w64 ((IntKind.u64.wrap (w64 (start_8_100 + r_8_100))).fdiv (2 ^ (min (1 : Int).toNat 64)))))))), (162, 4, .d (.lit (.int .i64 ((w64 ((w64 ((w64 ((w64 ((IntKind.u64.wrap (w64 (a_1 + b_3))).fdiv (2 ^ (min (1 : Int).toNat 64)))) + m_2)) - 1)) - (w64 ((IntKind.u64.wrap (w64 (start_8_100 + r_8_100))).fdiv (2 ^ (min (1 : Int).toNat 64)))))))))), (163, 5, .ep data_0_v 5 (w64 ((w64 ((w64 ((w64 ((IntKind.u64.wrap (w64 (a_1 + b_3))).fdiv (2 ^ (min (1 : Int).toNat 64)))) + m_2)) - 1)) - (w64 ((IntKind.u64.wrap (w64 (start_8_100 + r_8_100))).fdiv (2 ^ (min (1 : Int).toNat 64)))))).toNat 0), (164, 6, .agg (aB x103)), (165, 7, .d (.lit data_0_v)), (166, 8, .d (.lit (.int .i64 ((w64 ((IntKind.u64.wrap (w64 (start_8_100 + r_8_100))).fdiv (2 ^ (min (1 : Int).toNat 64)))))))), (167, 9, .ep data_0_v 5 (w64 ((IntKind.u64.wrap (w64 (start_8_100 + r_8_100))).fdiv (2 ^ (min (1 : Int).toNat 64)))).toNat 0), (168, 10, .agg (aB x105))], ?_, ?_⟩
         · exact ⟨by kernel_rfl, by kernel_rfl, by kernel_rfl, by kernel_rfl, by kernel_rfl, [([], []), ([], []), ([], []), ([], []), ([2, 3], []), ([1, 4], []), ([5], []), ([], []), ([], []), ([7, 8], []), ([9], [])], by kernel_rfl, ⟨fun S hS => aI rfl (aQ rfl (aC (v := .fn cmp_4_f cmp_4_v) (aA rfl) (aH hS rfl) rfl)),
      fun S hS => aI rfl (aQ rfl (aC (v := .d (.lit data_0_v)) (aA rfl) (aH hS rfl) rfl)),
      fun S hS => aI rfl (aQ rfl (aC (v := .d (.lit (.int .i64 ((w64 ((w64 ((w64 ((IntKind.u64.wrap (w64 (a_1 + b_3))).fdiv (2 ^ (min (1 : Int).toNat 64)))) + m_2)) - 1)))))) (aA rfl) (aH hS rfl) rfl)),
      fun S hS => aI rfl (aQ rfl (aC (v := .d (.lit (.int .i64 ((w64 ((IntKind.u64.wrap (w64 (start_8_100 + r_8_100))).fdiv (2 ^ (min (1 : Int).toNat 64)))))))) (aA rfl) (aH hS rfl) rfl)),
      fun S hS => aI rfl (aQ rfl (aZ (aA rfl) (aH hS rfl) (aH hS rfl) rfl)),
      fun S hS => aI rfl (aQ rfl (cL (m := 0) (aA rfl) (aH hS rfl) rfl (aH hS rfl) bR.of (bI aB h104))),
      fun S hS => aI rfl (aQ rfl (dJ (aA rfl) (aH hS rfl) (l := 0) rfl (eF aB h104) dY (es := (aB x103)) rfl rfl)),
      fun S hS => aI rfl (aQ rfl (aC (v := .d (.lit data_0_v)) (aA rfl) (aH hS rfl) rfl)),
      fun S hS => aI rfl (aQ rfl (aC (v := .d (.lit (.int .i64 ((w64 ((IntKind.u64.wrap (w64 (start_8_100 + r_8_100))).fdiv (2 ^ (min (1 : Int).toNat 64)))))))) (aA rfl) (aH hS rfl) rfl)),
      fun S hS => aI rfl (aQ rfl (cL (m := 0) (aA rfl) (aH hS rfl) rfl (aH hS rfl) bR.of (bI aB h106))),
      fun S hS => aI rfl (aQ rfl (dJ (aA rfl) (aH hS rfl) (l := 0) rfl (eF aB h106) dY (es := (aB x105)) rfl rfl)), trivial⟩⟩
         · exact dI (aM rfl (aM rfl (aM rfl (aV ⟨rfl, rfl, rfl, rfl, rfl, rfl, rfl, rfl, rfl, rfl, rfl, trivial⟩))))
        ·obtain ⟨r107, h108, h⟩ := bind_some h
         refine tr1 rfl (cC (aA rfl) (.clo _ _ _ _ cmp_4_e rfl) (uS rfl) rfl (BVs.refl _ _) (cmp_4_h _ _ _  h108) rfl) ?_
         refine tr1 rfl (bC (aA rfl) rfl rfl rfl) ?_
         refine tr1 rfl (eM (aA rfl) rfl) ?_
         refine aF ?_
         refine bJ rfl (fun c109 => ?_) (fun c109 => ?_)
         ·have h := aT c109 h
          refine aE ?_
          refine tr1 rfl (aC (v := .d (.lit (.int .i64 ((w64 ((IntKind.u64.wrap (w64 (start_8_100 + r_8_100))).fdiv (2 ^ (min (1 : Int).toNat 64)))))))) (aA rfl) rfl rfl) ?_
          refine tr1 rfl (aZ (aA rfl) rfl rfl rfl) ?_
          refine tr1 rfl (aJ (v := .d (.lit (.int .i64 ((w64 ((w64 ((IntKind.u64.wrap (w64 (start_8_100 + r_8_100))).fdiv (2 ^ (min (1 : Int).toNat 64)))) + 1)))))) (aA rfl) rfl rfl) ?_
          refine dG ?_
          exact ⟨(w64 ((w64 ((IntKind.u64.wrap (w64 (start_8_100 + r_8_100))).fdiv (2 ^ (min (1 : Int).toNat 64)))) + 1), r_8_100), h, aX [0] rfl rfl (aM rfl (aM rfl (aV ⟨rfl, rfl, rfl, rfl, rfl, rfl, rfl, rfl, trivial⟩)))⟩
         ·have h := aS c109 h
          refine aE ?_
          refine tr1 rfl (aC (v := .d (.lit (.int .i64 ((w64 ((IntKind.u64.wrap (w64 (start_8_100 + r_8_100))).fdiv (2 ^ (min (1 : Int).toNat 64)))))))) (aA rfl) rfl rfl) ?_
          refine tr1 rfl (aJ (v := .d (.lit (.int .i64 ((w64 ((IntKind.u64.wrap (w64 (start_8_100 + r_8_100))).fdiv (2 ^ (min (1 : Int).toNat 64)))))))) (aA rfl) rfl rfl) ?_
          refine dG ?_
          exact ⟨(start_8_100, w64 ((IntKind.u64.wrap (w64 (start_8_100 + r_8_100))).fdiv (2 ^ (min (1 : Int).toNat 64)))), h, aX [0] rfl rfl (aM rfl (aM rfl (aV ⟨rfl, rfl, rfl, rfl, rfl, rfl, rfl, rfl, trivial⟩)))⟩
       ·have h := aS c102 h
        refine cN ?_
        refine .inl ⟨rfl, ?_⟩
        simp only [dF] at h
        refine aG ?_
        refine aE ?_
        refine tr1 rfl (aC (v := .d (.lit (.int .i64 ((w64 ((w64 ((IntKind.u64.wrap (w64 (a_1 + b_3))).fdiv (2 ^ (min (1 : Int).toNat 64)))) + m_2)))))) (aA rfl) rfl rfl) ?_
        refine tr1 rfl (aC (v := .d (.lit (.int .i64 start_8_100))) (aA rfl) rfl rfl) ?_
        refine tr1 rfl (aZ (aA rfl) rfl rfl rfl) ?_
        refine tr1 rfl (aJ (v := .d (.lit (.int .i64 ((w64 ((w64 ((w64 ((IntKind.u64.wrap (w64 (a_1 + b_3))).fdiv (2 ^ (min (1 : Int).toNat 64)))) + m_2)) - start_8_100)))))) (aA rfl) rfl rfl) ?_
        refine aF ?_
        refine aG ?_
        refine aG ?_
        refine aE ?_
        refine tr1 rfl (aC (v := .d (.lit (.int .i64 start_8_100))) (aA rfl) rfl rfl) ?_
        refine tr1 rfl (aC (v := .d (.lit (.int .i64 m_2))) (aA rfl) rfl rfl) ?_
        refine tr1 rfl (bC (aA rfl) rfl rfl rfl) ?_
        refine tr1 rfl (aC (v := .d (.lit (.bool ((decide (start_8_100 < m_2)))))) (aA rfl) rfl rfl) ?_
        obtain ⟨b110, h111, h⟩ := bind_some h
        refine cA 4 [0, 1, 2, 3, 4, 18, 20, 24] 185 b110 ?_ ?_
        ·refine bF (decide (start_8_100 < m_2)) (fun c151 => ?_) (fun c151 => ?_)
         ·have h111 := aT c151 h111
          refine aO rfl rfl (aA rfl) rfl c151 (aC (v := .d (.lit (.int .i64 m_2))) (aA rfl) rfl rfl) ?_
          refine aO rfl rfl (aA rfl) rfl c151 (aC (v := .d (.lit (.int .i64 ((w64 ((w64 ((w64 ((IntKind.u64.wrap (w64 (a_1 + b_3))).fdiv (2 ^ (min (1 : Int).toNat 64)))) + m_2)) - start_8_100)))))) (aA rfl) rfl rfl) ?_
          refine aO rfl rfl (aA rfl) rfl c151 (bC (aA rfl) rfl rfl rfl) ?_
          refine tr1 rfl (bN (v := .d (.lit (.bool ((decide (m_2 < (w64 ((w64 ((w64 ((IntKind.u64.wrap (w64 (a_1 + b_3))).fdiv (2 ^ (min (1 : Int).toNat 64)))) + m_2)) - start_8_100)))))))) (aA rfl) rfl c151 rfl rfl) ?_
          have h111 := Option.some.inj h111
          subst h111
          refine aF (bB rfl ⟨rfl, rfl, rfl, rfl, rfl, rfl, rfl, rfl, trivial⟩ rfl)
         ·have h111 := aS c151 h111
          refine aR rfl rfl (aA rfl) rfl (aA rfl) rfl c151 ?_
          refine aR rfl rfl (aA rfl) rfl (aA rfl) rfl c151 ?_
          refine aR rfl rfl (aA rfl) rfl (aA rfl) rfl c151 ?_
          refine tr1 rfl (bP (v := .d (.lit (.bool false))) (aA rfl) rfl c151 rfl rfl) ?_
          have h111 := Option.some.inj h111
          subst h111
          refine aF (bB rfl ⟨rfl, rfl, rfl, rfl, rfl, rfl, rfl, rfl, trivial⟩ rfl)
        ·refine aF ?_
         refine bJ rfl (fun c112 => ?_) (fun c112 => ?_)
         ·have h := aT c112 h
          refine aE ?_
          refine tr1 rfl (aC (v := .d (.lit data_0_v)) (aA rfl) rfl rfl) ?_
          refine tr1 rfl (aC (v := .d (.lit (.int .i64 start_8_100))) (aA rfl) rfl rfl) ?_
          refine tr1 rfl (aC (v := .d (.lit (.int .i64 m_2))) (aA rfl) rfl rfl) ?_
          refine tr1 rfl (aC (v := .d (.lit (.int .i64 ((w64 ((w64 ((w64 ((IntKind.u64.wrap (w64 (a_1 + b_3))).fdiv (2 ^ (min (1 : Int).toNat 64)))) + m_2)) - start_8_100)))))) (aA rfl) rfl rfl) ?_
          refine tr1 rfl (aC (v := .fn cmp_4_f cmp_4_v) (aA rfl) rfl rfl) ?_
          obtain ⟨r113, h114, h⟩ := bind_some h
          refine bW rfl (dX (passed := [.arr data_0_v 42 5 (data_0.map aB)]) (aA rfl) rfl (.func _ _ Try.call138) rfl rfl (mV data_0 start_8_100 m_2 (w64 ((w64 ((w64 ((IntKind.u64.wrap (w64 (a_1 + b_3))).fdiv (2 ^ (min (1 : Int).toNat 64)))) + m_2)) - start_8_100)) cmp_4 cmp_4_f cmp_4_v cmp_4_e cmp_4_h h114)) ?_
          rintro _ ⟨_, _, ⟨rfl, rfl⟩, rfl⟩
          refine aF ?_
          refine aG ?_
          refine aG ?_
          refine aE ?_
          refine tr1 rfl (aC (v := .d (.lit (.int .i64 a_1))) (aA rfl) rfl rfl) ?_
          refine tr1 rfl (aC (v := .d (.lit (.int .i64 start_8_100))) (aA rfl) rfl rfl) ?_
          refine tr1 rfl (bC (aA rfl) rfl rfl rfl) ?_
          refine tr1 rfl (aC (v := .d (.lit (.bool ((decide (a_1 < start_8_100)))))) (aA rfl) rfl rfl) ?_
          obtain ⟨b115, h116, h⟩ := bind_some h
          refine cA 4 [0, 1, 3, 4, 18, 20, 24] 199 b115 ?_ ?_
          ·refine bF (decide (a_1 < start_8_100)) (fun c132 => ?_) (fun c132 => ?_)
           ·have h116 := aT c132 h116
            refine aO rfl rfl (aA rfl) rfl c132 (aC (v := .d (.lit (.int .i64 start_8_100))) (aA rfl) rfl rfl) ?_
            refine aO rfl rfl (aA rfl) rfl c132 (aC (v := .d (.lit (.int .i64 ((w64 ((IntKind.u64.wrap (w64 (a_1 + b_3))).fdiv (2 ^ (min (1 : Int).toNat 64)))))))) (aA rfl) rfl rfl) ?_
            refine aO rfl rfl (aA rfl) rfl c132 (bC (aA rfl) rfl rfl rfl) ?_
            refine tr1 rfl (bN (v := .d (.lit (.bool ((decide (start_8_100 < (w64 ((IntKind.u64.wrap (w64 (a_1 + b_3))).fdiv (2 ^ (min (1 : Int).toNat 64)))))))))) (aA rfl) rfl c132 rfl rfl) ?_
            have h116 := Option.some.inj h116
            subst h116
            refine aF (bB rfl ⟨rfl, rfl, rfl, rfl, rfl, rfl, rfl, trivial⟩ rfl)
           ·have h116 := aS c132 h116
            refine aR rfl rfl (aA rfl) rfl (aA rfl) rfl c132 ?_
            refine aR rfl rfl (aA rfl) rfl (aA rfl) rfl c132 ?_
            refine aR rfl rfl (aA rfl) rfl (aA rfl) rfl c132 ?_
            refine tr1 rfl (bP (v := .d (.lit (.bool false))) (aA rfl) rfl c132 rfl rfl) ?_
            have h116 := Option.some.inj h116
            subst h116
            refine aF (bB rfl ⟨rfl, rfl, rfl, rfl, rfl, rfl, rfl, trivial⟩ rfl)
          ·refine aF ?_
           refine bJ rfl (fun c117 => ?_) (fun c117 => ?_)
           ·have h := aT c117 h
            refine aE ?_
            refine tr1 rfl (aC (v := .d (.lit data_0_v)) (aA rfl) rfl rfl) ?_
            refine tr1 rfl (aC (v := .d (.lit (.int .i64 a_1))) (aA rfl) rfl rfl) ?_
            refine tr1 rfl (aC (v := .d (.lit (.int .i64 start_8_100))) (aA rfl) rfl rfl) ?_
            refine tr1 rfl (aC (v := .d (.lit (.int .i64 ((w64 ((IntKind.u64.wrap (w64 (a_1 + b_3))).fdiv (2 ^ (min (1 : Int).toNat 64)))))))) (aA rfl) rfl rfl) ?_
            refine tr1 rfl (aC (v := .fn cmp_4_f cmp_4_v) (aA rfl) rfl rfl) ?_
            obtain ⟨r118, h119, h⟩ := bind_some h
            refine bW rfl (dX (passed := [.arr data_0_v 42 5 (r113.map aB)]) (aA rfl) rfl (.func _ _ Try.call128) rfl rfl (ih r113 a_1 start_8_100 (w64 ((IntKind.u64.wrap (w64 (a_1 + b_3))).fdiv (2 ^ (min (1 : Int).toNat 64)))) h119)) ?_
            rintro _ ⟨_, _, ⟨rfl, rfl⟩, rfl⟩
            refine aF ?_
            refine aG ?_
            refine aE ?_
            refine tr1 rfl (aC (v := .d (.lit (.int .i64 ((w64 ((IntKind.u64.wrap (w64 (a_1 + b_3))).fdiv (2 ^ (min (1 : Int).toNat 64)))))))) (aA rfl) rfl rfl) ?_
            refine tr1 rfl (aC (v := .d (.lit (.int .i64 ((w64 ((w64 ((w64 ((IntKind.u64.wrap (w64 (a_1 + b_3))).fdiv (2 ^ (min (1 : Int).toNat 64)))) + m_2)) - start_8_100)))))) (aA rfl) rfl rfl) ?_
            refine tr1 rfl (bC (aA rfl) rfl rfl rfl) ?_
            refine tr1 rfl (aC (v := .d (.lit (.bool ((decide ((w64 ((IntKind.u64.wrap (w64 (a_1 + b_3))).fdiv (2 ^ (min (1 : Int).toNat 64)))) < (w64 ((w64 ((w64 ((IntKind.u64.wrap (w64 (a_1 + b_3))).fdiv (2 ^ (min (1 : Int).toNat 64)))) + m_2)) - start_8_100)))))))) (aA rfl) rfl rfl) ?_
            obtain ⟨b120, h121, h⟩ := bind_some h
            refine cA 4 [0, 3, 4, 18, 24] 213 b120 ?_ ?_
            ·refine bF (decide ((w64 ((IntKind.u64.wrap (w64 (a_1 + b_3))).fdiv (2 ^ (min (1 : Int).toNat 64)))) < (w64 ((w64 ((w64 ((IntKind.u64.wrap (w64 (a_1 + b_3))).fdiv (2 ^ (min (1 : Int).toNat 64)))) + m_2)) - start_8_100)))) (fun c125 => ?_) (fun c125 => ?_)
             ·have h121 := aT c125 h121
              refine aO rfl rfl (aA rfl) rfl c125 (aC (v := .d (.lit (.int .i64 ((w64 ((w64 ((w64 ((IntKind.u64.wrap (w64 (a_1 + b_3))).fdiv (2 ^ (min (1 : Int).toNat 64)))) + m_2)) - start_8_100)))))) (aA rfl) rfl rfl) ?_
              refine aO rfl rfl (aA rfl) rfl c125 (aC (v := .d (.lit (.int .i64 b_3))) (aA rfl) rfl rfl) ?_
              refine aO rfl rfl (aA rfl) rfl c125 (bC (aA rfl) rfl rfl rfl) ?_
              refine tr1 rfl (bN (v := .d (.lit (.bool ((decide ((w64 ((w64 ((w64 ((IntKind.u64.wrap (w64 (a_1 + b_3))).fdiv (2 ^ (min (1 : Int).toNat 64)))) + m_2)) - start_8_100)) < b_3)))))) (aA rfl) rfl c125 rfl rfl) ?_
              have h121 := Option.some.inj h121
              subst h121
              refine aF (bB rfl ⟨rfl, rfl, rfl, rfl, rfl, trivial⟩ rfl)
             ·have h121 := aS c125 h121
              refine aR rfl rfl (aA rfl) rfl (aA rfl) rfl c125 ?_
              refine aR rfl rfl (aA rfl) rfl (aA rfl) rfl c125 ?_
              refine aR rfl rfl (aA rfl) rfl (aA rfl) rfl c125 ?_
              refine tr1 rfl (bP (v := .d (.lit (.bool false))) (aA rfl) rfl c125 rfl rfl) ?_
              have h121 := Option.some.inj h121
              subst h121
              refine aF (bB rfl ⟨rfl, rfl, rfl, rfl, rfl, trivial⟩ rfl)
            ·refine aF ?_
             refine bJ rfl (fun c122 => ?_) (fun c122 => ?_)
             ·have h := aT c122 h
              refine aE ?_
              refine tr1 rfl (aC (v := .d (.lit data_0_v)) (aA rfl) rfl rfl) ?_
              refine tr1 rfl (aC (v := .d (.lit (.int .i64 ((w64 ((IntKind.u64.wrap (w64 (a_1 + b_3))).fdiv (2 ^ (min (1 : Int).toNat 64)))))))) (aA rfl) rfl rfl) ?_
              refine tr1 rfl (aC (v := .d (.lit (.int .i64 ((w64 ((w64 ((w64 ((IntKind.u64.wrap (w64 (a_1 + b_3))).fdiv (2 ^ (min (1 : Int).toNat 64)))) + m_2)) - start_8_100)))))) (aA rfl) rfl rfl) ?_
              refine tr1 rfl (aC (v := .d (.lit (.int .i64 b_3))) (aA rfl) rfl rfl) ?_
              refine tr1 rfl (aC (v := .fn cmp_4_f cmp_4_v) (aA rfl) rfl rfl) ?_
              obtain ⟨r123, h124, h⟩ := bind_some h
              refine bW rfl (dX (passed := [.arr data_0_v 42 5 (r118.map aB)]) (aA rfl) rfl (.func _ _ Try.call128) rfl rfl (ih r118 (w64 ((IntKind.u64.wrap (w64 (a_1 + b_3))).fdiv (2 ^ (min (1 : Int).toNat 64)))) (w64 ((w64 ((w64 ((IntKind.u64.wrap (w64 (a_1 + b_3))).fdiv (2 ^ (min (1 : Int).toNat 64)))) + m_2)) - start_8_100)) b_3 h124)) ?_
              rintro _ ⟨_, _, ⟨rfl, rfl⟩, rfl⟩
              refine aF ?_
              have h := Option.some.inj h
              subst h
              exact ⟨_, [.arr data_0_v 42 5 (r123.map aB)], [], _, .none, .refl _, .same _, rfl, rfl⟩
             ·have h := aS c122 h
              refine bG ?_
              have h := Option.some.inj h
              subst h
              exact ⟨_, [.arr data_0_v 42 5 (r118.map aB)], [], _, .none, .refl _, .same _, rfl, rfl⟩
           ·have h := aS c117 h
            refine bG ?_
            refine aG ?_
            refine aE ?_
            refine tr1 rfl (aC (v := .d (.lit (.int .i64 ((w64 ((IntKind.u64.wrap (w64 (a_1 + b_3))).fdiv (2 ^ (min (1 : Int).toNat 64)))))))) (aA rfl) rfl rfl) ?_
            refine tr1 rfl (aC (v := .d (.lit (.int .i64 ((w64 ((w64 ((w64 ((IntKind.u64.wrap (w64 (a_1 + b_3))).fdiv (2 ^ (min (1 : Int).toNat 64)))) + m_2)) - start_8_100)))))) (aA rfl) rfl rfl) ?_
            refine tr1 rfl (bC (aA rfl) rfl rfl rfl) ?_
            refine tr1 rfl (aC (v := .d (.lit (.bool ((decide ((w64 ((IntKind.u64.wrap (w64 (a_1 + b_3))).fdiv (2 ^ (min (1 : Int).toNat 64)))) < (w64 ((w64 ((w64 ((IntKind.u64.wrap (w64 (a_1 + b_3))).fdiv (2 ^ (min (1 : Int).toNat 64)))) + m_2)) - start_8_100)))))))) (aA rfl) rfl rfl) ?_
            obtain ⟨b126, h127, h⟩ := bind_some h
            refine cA 4 [0, 3, 4, 18, 24] 213 b126 ?_ ?_
            ·refine bF (decide ((w64 ((IntKind.u64.wrap (w64 (a_1 + b_3))).fdiv (2 ^ (min (1 : Int).toNat 64)))) < (w64 ((w64 ((w64 ((IntKind.u64.wrap (w64 (a_1 + b_3))).fdiv (2 ^ (min (1 : Int).toNat 64)))) + m_2)) - start_8_100)))) (fun c131 => ?_) (fun c131 => ?_)
             ·have h127 := aT c131 h127
              refine aO rfl rfl (aA rfl) rfl c131 (aC (v := .d (.lit (.int .i64 ((w64 ((w64 ((w64 ((IntKind.u64.wrap (w64 (a_1 + b_3))).fdiv (2 ^ (min (1 : Int).toNat 64)))) + m_2)) - start_8_100)))))) (aA rfl) rfl rfl) ?_
              refine aO rfl rfl (aA rfl) rfl c131 (aC (v := .d (.lit (.int .i64 b_3))) (aA rfl) rfl rfl) ?_
              refine aO rfl rfl (aA rfl) rfl c131 (bC (aA rfl) rfl rfl rfl) ?_
              refine tr1 rfl (bN (v := .d (.lit (.bool ((decide ((w64 ((w64 ((w64 ((IntKind.u64.wrap (w64 (a_1 + b_3))).fdiv (2 ^ (min (1 : Int).toNat 64)))) + m_2)) - start_8_100)) < b_3)))))) (aA rfl) rfl c131 rfl rfl) ?_
              have h127 := Option.some.inj h127
              subst h127
              refine aF (bB rfl ⟨rfl, rfl, rfl, rfl, rfl, trivial⟩ rfl)
             ·have h127 := aS c131 h127
              refine aR rfl rfl (aA rfl) rfl (aA rfl) rfl c131 ?_
              refine aR rfl rfl (aA rfl) rfl (aA rfl) rfl c131 ?_
              refine aR rfl rfl (aA rfl) rfl (aA rfl) rfl c131 ?_
              refine tr1 rfl (bP (v := .d (.lit (.bool false))) (aA rfl) rfl c131 rfl rfl) ?_
              have h127 := Option.some.inj h127
              subst h127
              refine aF (bB rfl ⟨rfl, rfl, rfl, rfl, rfl, trivial⟩ rfl)
            ·refine aF ?_
             refine bJ rfl (fun c128 => ?_) (fun c128 => ?_)
             ·have h := aT c128 h
              refine aE ?_
              refine tr1 rfl (aC (v := .d (.lit data_0_v)) (aA rfl) rfl rfl) ?_
              refine tr1 rfl (aC (v := .d (.lit (.int .i64 ((w64 ((IntKind.u64.wrap (w64 (a_1 + b_3))).fdiv (2 ^ (min (1 : Int).toNat 64)))))))) (aA rfl) rfl rfl) ?_
              refine tr1 rfl (aC (v := .d (.lit (.int .i64 ((w64 ((w64 ((w64 ((IntKind.u64.wrap (w64 (a_1 + b_3))).fdiv (2 ^ (min (1 : Int).toNat 64)))) + m_2)) - start_8_100)))))) (aA rfl) rfl rfl) ?_
              refine tr1 rfl (aC (v := .d (.lit (.int .i64 b_3))) (aA rfl) rfl rfl) ?_
              refine tr1 rfl (aC (v := .fn cmp_4_f cmp_4_v) (aA rfl) rfl rfl) ?_
              obtain ⟨r129, h130, h⟩ := bind_some h
              refine bW rfl (dX (passed := [.arr data_0_v 42 5 (r113.map aB)]) (aA rfl) rfl (.func _ _ Try.call128) rfl rfl (ih r113 (w64 ((IntKind.u64.wrap (w64 (a_1 + b_3))).fdiv (2 ^ (min (1 : Int).toNat 64)))) (w64 ((w64 ((w64 ((IntKind.u64.wrap (w64 (a_1 + b_3))).fdiv (2 ^ (min (1 : Int).toNat 64)))) + m_2)) - start_8_100)) b_3 h130)) ?_
              rintro _ ⟨_, _, ⟨rfl, rfl⟩, rfl⟩
              refine aF ?_
              have h := Option.some.inj h
              subst h
              exact ⟨_, [.arr data_0_v 42 5 (r129.map aB)], [], _, .none, .refl _, .same _, rfl, rfl⟩
             ·have h := aS c128 h
              refine bG ?_
              have h := Option.some.inj h
              subst h
              exact ⟨_, [.arr data_0_v 42 5 (r113.map aB)], [], _, .none, .refl _, .same _, rfl, rfl⟩
         ·have h := aS c112 h
          refine bG ?_
          refine aG ?_
          refine aG ?_
          refine aE ?_
          refine tr1 rfl (aC (v := .d (.lit (.int .i64 a_1))) (aA rfl) rfl rfl) ?_
          refine tr1 rfl (aC (v := .d (.lit (.int .i64 start_8_100))) (aA rfl) rfl rfl) ?_
          refine tr1 rfl (bC (aA rfl) rfl rfl rfl) ?_
          refine tr1 rfl (aC (v := .d (.lit (.bool ((decide (a_1 < start_8_100)))))) (aA rfl) rfl rfl) ?_
          obtain ⟨b133, h134, h⟩ := bind_some h
          refine cA 4 [0, 1, 3, 4, 18, 20, 24] 199 b133 ?_ ?_
          ·refine bF (decide (a_1 < start_8_100)) (fun c150 => ?_) (fun c150 => ?_)
           ·have h134 := aT c150 h134
            refine aO rfl rfl (aA rfl) rfl c150 (aC (v := .d (.lit (.int .i64 start_8_100))) (aA rfl) rfl rfl) ?_
            refine aO rfl rfl (aA rfl) rfl c150 (aC (v := .d (.lit (.int .i64 ((w64 ((IntKind.u64.wrap (w64 (a_1 + b_3))).fdiv (2 ^ (min (1 : Int).toNat 64)))))))) (aA rfl) rfl rfl) ?_
            refine aO rfl rfl (aA rfl) rfl c150 (bC (aA rfl) rfl rfl rfl) ?_
            refine tr1 rfl (bN (v := .d (.lit (.bool ((decide (start_8_100 < (w64 ((IntKind.u64.wrap (w64 (a_1 + b_3))).fdiv (2 ^ (min (1 : Int).toNat 64)))))))))) (aA rfl) rfl c150 rfl rfl) ?_
            have h134 := Option.some.inj h134
            subst h134
            refine aF (bB rfl ⟨rfl, rfl, rfl, rfl, rfl, rfl, rfl, trivial⟩ rfl)
           ·have h134 := aS c150 h134
            refine aR rfl rfl (aA rfl) rfl (aA rfl) rfl c150 ?_
            refine aR rfl rfl (aA rfl) rfl (aA rfl) rfl c150 ?_
            refine aR rfl rfl (aA rfl) rfl (aA rfl) rfl c150 ?_
            refine tr1 rfl (bP (v := .d (.lit (.bool false))) (aA rfl) rfl c150 rfl rfl) ?_
            have h134 := Option.some.inj h134
            subst h134
            refine aF (bB rfl ⟨rfl, rfl, rfl, rfl, rfl, rfl, rfl, trivial⟩ rfl)
          ·refine aF ?_
           refine bJ rfl (fun c135 => ?_) (fun c135 => ?_)
           ·have h := aT c135 h
            refine aE ?_
            refine tr1 rfl (aC (v := .d (.lit data_0_v)) (aA rfl) rfl rfl) ?_
            refine tr1 rfl (aC (v := .d (.lit (.int .i64 a_1))) (aA rfl) rfl rfl) ?_
            refine tr1 rfl (aC (v := .d (.lit (.int .i64 start_8_100))) (aA rfl) rfl rfl) ?_
            refine tr1 rfl (aC (v := .d (.lit (.int .i64 ((w64 ((IntKind.u64.wrap (w64 (a_1 + b_3))).fdiv (2 ^ (min (1 : Int).toNat 64)))))))) (aA rfl) rfl rfl) ?_
            refine tr1 rfl (aC (v := .fn cmp_4_f cmp_4_v) (aA rfl) rfl rfl) ?_
            obtain ⟨r136, h137, h⟩ := bind_some h
            refine bW rfl (dX (passed := [.arr data_0_v 42 5 (data_0.map aB)]) (aA rfl) rfl (.func _ _ Try.call128) rfl rfl (ih data_0 a_1 start_8_100 (w64 ((IntKind.u64.wrap (w64 (a_1 + b_3))).fdiv (2 ^ (min (1 : Int).toNat 64)))) h137)) ?_
            rintro _ ⟨_, _, ⟨rfl, rfl⟩, rfl⟩
            refine aF ?_
            refine aG ?_
            refine aE ?_
            refine tr1 rfl (aC (v := .d (.lit (.int .i64 ((w64 ((IntKind.u64.wrap (w64 (a_1 + b_3))).fdiv (2 ^ (min (1 : Int).toNat 64)))))))) (aA rfl) rfl rfl) ?_
            refine tr1 rfl (aC (v := .d (.lit (.int .i64 ((w64 ((w64 ((w64 ((IntKind.u64.wrap (w64 (a_1 + b_3))).fdiv (2 ^ (min (1 : Int).toNat 64)))) + m_2)) - start_8_100)))))) (aA rfl) rfl rfl) ?_
            refine tr1 rfl (bC (aA rfl) rfl rfl rfl) ?_
            refine tr1 rfl (aC (v := .d (.lit (.bool ((decide ((w64 ((IntKind.u64.wrap (w64 (a_1 + b_3))).fdiv (2 ^ (min (1 : Int).toNat 64)))) < (w64 ((w64 ((w64 ((IntKind.u64.wrap (w64 (a_1 + b_3))).fdiv (2 ^ (min (1 : Int).toNat 64)))) + m_2)) - start_8_100)))))))) (aA rfl) rfl rfl) ?_
            obtain ⟨b138, h139, h⟩ := bind_some h
            refine cA 4 [0, 3, 4, 18, 24] 213 b138 ?_ ?_
            ·refine bF (decide ((w64 ((IntKind.u64.wrap (w64 (a_1 + b_3))).fdiv (2 ^ (min (1 : Int).toNat 64)))) < (w64 ((w64 ((w64 ((IntKind.u64.wrap (w64 (a_1 + b_3))).fdiv (2 ^ (min (1 : Int).toNat 64)))) + m_2)) - start_8_100)))) (fun c143 => ?_) (fun c143 => ?_)
             ·have h139 := aT c143 h139
              refine aO rfl rfl (aA rfl) rfl c143 (aC (v := .d (.lit (.int .i64 ((w64 ((w64 ((w64 ((IntKind.u64.wrap (w64 (a_1 + b_3))).fdiv (2 ^ (min (1 : Int).toNat 64)))) + m_2)) - start_8_100)))))) (aA rfl) rfl rfl) ?_
              refine aO rfl rfl (aA rfl) rfl c143 (aC (v := .d (.lit (.int .i64 b_3))) (aA rfl) rfl rfl) ?_
              refine aO rfl rfl (aA rfl) rfl c143 (bC (aA rfl) rfl rfl rfl) ?_
              refine tr1 rfl (bN (v := .d (.lit (.bool ((decide ((w64 ((w64 ((w64 ((IntKind.u64.wrap (w64 (a_1 + b_3))).fdiv (2 ^ (min (1 : Int).toNat 64)))) + m_2)) - start_8_100)) < b_3)))))) (aA rfl) rfl c143 rfl rfl) ?_
              have h139 := Option.some.inj h139
              subst h139
              refine aF (bB rfl ⟨rfl, rfl, rfl, rfl, rfl, trivial⟩ rfl)
             ·have h139 := aS c143 h139
              refine aR rfl rfl (aA rfl) rfl (aA rfl) rfl c143 ?_
              refine aR rfl rfl (aA rfl) rfl (aA rfl) rfl c143 ?_
              refine aR rfl rfl (aA rfl) rfl (aA rfl) rfl c143 ?_
              refine tr1 rfl (bP (v := .d (.lit (.bool false))) (aA rfl) rfl c143 rfl rfl) ?_
              have h139 := Option.some.inj h139
              subst h139
              refine aF (bB rfl ⟨rfl, rfl, rfl, rfl, rfl, trivial⟩ rfl)
            ·refine aF ?_
             refine bJ rfl (fun c140 => ?_) (fun c140 => ?_)
             ·have h := aT c140 h
              refine aE ?_
              refine tr1 rfl (aC (v := .d (.lit data_0_v)) (aA rfl) rfl rfl) ?_
              refine tr1 rfl (aC (v := .d (.lit (.int .i64 ((w64 ((IntKind.u64.wrap (w64 (a_1 + b_3))).fdiv (2 ^ (min (1 : Int).toNat 64)))))))) (aA rfl) rfl rfl) ?_
              refine tr1 rfl (aC (v := .d (.lit (.int .i64 ((w64 ((w64 ((w64 ((IntKind.u64.wrap (w64 (a_1 + b_3))).fdiv (2 ^ (min (1 : Int).toNat 64)))) + m_2)) - start_8_100)))))) (aA rfl) rfl rfl) ?_
              refine tr1 rfl (aC (v := .d (.lit (.int .i64 b_3))) (aA rfl) rfl rfl) ?_
              refine tr1 rfl (aC (v := .fn cmp_4_f cmp_4_v) (aA rfl) rfl rfl) ?_
              obtain ⟨r141, h142, h⟩ := bind_some h
              refine bW rfl (dX (passed := [.arr data_0_v 42 5 (r136.map aB)]) (aA rfl) rfl (.func _ _ Try.call128) rfl rfl (ih r136 (w64 ((IntKind.u64.wrap (w64 (a_1 + b_3))).fdiv (2 ^ (min (1 : Int).toNat 64)))) (w64 ((w64 ((w64 ((IntKind.u64.wrap (w64 (a_1 + b_3))).fdiv (2 ^ (min (1 : Int).toNat 64)))) + m_2)) - start_8_100)) b_3 h142)) ?_
              rintro _ ⟨_, _, ⟨rfl, rfl⟩, rfl⟩
              refine aF ?_
              have h := Option.some.inj h
              subst h
              exact ⟨_, [.arr data_0_v 42 5 (r141.map aB)], [], _, .none, .refl _, .same _, rfl, rfl⟩
             ·have h := aS c140 h
              refine bG ?_
              have h := Option.some.inj h
              subst h
              exact ⟨_, [.arr data_0_v 42 5 (r136.map aB)], [], _, .none, .refl _, .same _, rfl, rfl⟩
           ·have h := aS c135 h
            refine bG ?_
            refine aG ?_
            refine aE ?_
            refine tr1 rfl (aC (v := .d (.lit (.int .i64 ((w64 ((IntKind.u64.wrap (w64 (a_1 + b_3))).fdiv (2 ^ (min (1 : Int).toNat 64)))))))) (aA rfl) rfl rfl) ?_
            refine tr1 rfl (aC (v := .d (.lit (.int .i64 ((w64 ((w64 ((w64 ((IntKind.u64.wrap (w64 (a_1 + b_3))).fdiv (2 ^ (min (1 : Int).toNat 64)))) + m_2)) - start_8_100)))))) (aA rfl) rfl rfl) ?_
            refine tr1 rfl (bC (aA rfl) rfl rfl rfl) ?_
            refine tr1 rfl (aC (v := .d (.lit (.bool ((decide ((w64 ((IntKind.u64.wrap (w64 (a_1 + b_3))).fdiv (2 ^ (min (1 : Int).toNat 64)))) < (w64 ((w64 ((w64 ((IntKind.u64.wrap (w64 (a_1 + b_3))).fdiv (2 ^ (min (1 : Int).toNat 64)))) + m_2)) - start_8_100)))))))) (aA rfl) rfl rfl) ?_
            obtain ⟨b144, h145, h⟩ := bind_some h
            refine cA 4 [0, 3, 4, 18, 24] 213 b144 ?_ ?_
            ·refine bF (decide ((w64 ((IntKind.u64.wrap (w64 (a_1 + b_3))).fdiv (2 ^ (min (1 : Int).toNat 64)))) < (w64 ((w64 ((w64 ((IntKind.u64.wrap (w64 (a_1 + b_3))).fdiv (2 ^ (min (1 : Int).toNat 64)))) + m_2)) - start_8_100)))) (fun c149 => ?_) (fun c149 => ?_)
             ·have h145 := aT c149 h145
              refine aO rfl rfl (aA rfl) rfl c149 (aC (v := .d (.lit (.int .i64 ((w64 ((w64 ((w64 ((IntKind.u64.wrap (w64 (a_1 + b_3))).fdiv (2 ^ (min (1 : Int).toNat 64)))) + m_2)) - start_8_100)))))) (aA rfl) rfl rfl) ?_
              refine aO rfl rfl (aA rfl) rfl c149 (aC (v := .d (.lit (.int .i64 b_3))) (aA rfl) rfl rfl) ?_
              refine aO rfl rfl (aA rfl) rfl c149 (bC (aA rfl) rfl rfl rfl) ?_
              refine tr1 rfl (bN (v := .d (.lit (.bool ((decide ((w64 ((w64 ((w64 ((IntKind.u64.wrap (w64 (a_1 + b_3))).fdiv (2 ^ (min (1 : Int).toNat 64)))) + m_2)) - start_8_100)) < b_3)))))) (aA rfl) rfl c149 rfl rfl) ?_
              have h145 := Option.some.inj h145
              subst h145
              refine aF (bB rfl ⟨rfl, rfl, rfl, rfl, rfl, trivial⟩ rfl)
             ·have h145 := aS c149 h145
              refine aR rfl rfl (aA rfl) rfl (aA rfl) rfl c149 ?_
              refine aR rfl rfl (aA rfl) rfl (aA rfl) rfl c149 ?_
              refine aR rfl rfl (aA rfl) rfl (aA rfl) rfl c149 ?_
              refine tr1 rfl (bP (v := .d (.lit (.bool false))) (aA rfl) rfl c149 rfl rfl) ?_
              have h145 := Option.some.inj h145
              subst h145
              refine aF (bB rfl ⟨rfl, rfl, rfl, rfl, rfl, trivial⟩ rfl)
            ·refine aF ?_
             refine bJ rfl (fun c146 => ?_) (fun c146 => ?_)
             ·have h := aT c146 h
              refine aE ?_
              refine tr1 rfl (aC (v := .d (.lit data_0_v)) (aA rfl) rfl rfl) ?_
              refine tr1 rfl (aC (v := .d (.lit (.int .i64 ((w64 ((IntKind.u64.wrap (w64 (a_1 + b_3))).fdiv (2 ^ (min (1 : Int).toNat 64)))))))) (aA rfl) rfl rfl) ?_
              refine tr1 rfl (aC (v := .d (.lit (.int .i64 ((w64 ((w64 ((w64 ((IntKind.u64.wrap (w64 (a_1 + b_3))).fdiv (2 ^ (min (1 : Int).toNat 64)))) + m_2)) - start_8_100)))))) (aA rfl) rfl rfl) ?_
              refine tr1 rfl (aC (v := .d (.lit (.int .i64 b_3))) (aA rfl) rfl rfl) ?_
              refine tr1 rfl (aC (v := .fn cmp_4_f cmp_4_v) (aA rfl) rfl rfl) ?_
              obtain ⟨r147, h148, h⟩ := bind_some h
              refine bW rfl (dX (passed := [.arr data_0_v 42 5 (data_0.map aB)]) (aA rfl) rfl (.func _ _ Try.call128) rfl rfl (ih data_0 (w64 ((IntKind.u64.wrap (w64 (a_1 + b_3))).fdiv (2 ^ (min (1 : Int).toNat 64)))) (w64 ((w64 ((w64 ((IntKind.u64.wrap (w64 (a_1 + b_3))).fdiv (2 ^ (min (1 : Int).toNat 64)))) + m_2)) - start_8_100)) b_3 h148)) ?_
              rintro _ ⟨_, _, ⟨rfl, rfl⟩, rfl⟩
              refine aF ?_
              have h := Option.some.inj h
              subst h
              exact ⟨_, [.arr data_0_v 42 5 (r147.map aB)], [], _, .none, .refl _, .same _, rfl, rfl⟩
             ·have h := aS c146 h
              refine bG ?_
              have h := Option.some.inj h
              subst h
              exact ⟨_, [.arr data_0_v 42 5 (data_0.map aB)], [], _, .none, .refl _, .same _, rfl, rfl⟩
theorem mG (data_0 : List aD) (a_1 : Int) (m_2 : Int) (b_3 : Int) (cmp_4 : aD → aD → Option Int) {r : (List aD)} {data_0_v : Value} (cmp_4_f : Nat) (cmp_4_v : List AV) (cmp_4_e : ∀ args w, (callFunc cmp_4_f args).run Try.prog w = .ok (.enter cmp_4_f args) w) (cmp_4_h : ∀ (x0 : aD) (x1 : aD) r, cmp_4 x0 x1 = some r → Fn Try.prog cmp_4_f ([.agg (aB x0), .agg (aB x1)] ++ cmp_4_v) (.d (.lit (.int .i64 r)))) (h : hH data_0 a_1 m_2 b_3 cmp_4 = some r) : gC Try.prog 128 [.d (.lit data_0_v), .d (.lit (.int .i64 a_1)), .d (.lit (.int .i64 m_2)), .d (.lit (.int .i64 b_3)), .fn cmp_4_f cmp_4_v] [.arr data_0_v 42 5 (data_0.map aB)] (fun r' o' => r' = .tup [] ∧ o' = [.arr data_0_v 42 5 (r.map aB)]) := qQ cmp_4 cmp_4_f cmp_4_v cmp_4_e cmp_4_h BIG _ _ _ _ h

theorem rJ (data_0 : List aD) (n_1 : Int) (cmp_2 : aD → aD → Option Int) {r : (List aD)} {data_0_v : Value} (cmp_2_f : Nat) (cmp_2_v : List AV) (cmp_2_e : ∀ args w, (callFunc cmp_2_f args).run Try.prog w = .ok (.enter cmp_2_f args) w) (cmp_2_h : ∀ (x0 : aD) (x1 : aD) r, cmp_2 x0 x1 = some r → Fn Try.prog cmp_2_f ([.agg (aB x0), .agg (aB x1)] ++ cmp_2_v) (.d (.lit (.int .i64 r)))) (h : iC data_0 n_1 cmp_2 = some r) : gC Try.prog 106 [.d (.lit data_0_v), .d (.lit (.int .i64 n_1)), .fn cmp_2_f cmp_2_v] [.arr data_0_v 42 5 (data_0.map aB)] (fun r' o' => r' = .tup [] ∧ o' = [.arr data_0_v 42 5 (r.map aB)]) := by
 unfold iC at h
 refine jW Try.func106 rfl (rs := []) Try.results106 Try.ntmps106 (Nat.le_of_ble_eq_true rfl) ?_
 refine aG ?_
 refine aE ?_
 refine tr1 rfl (aJ (v := .d (.lit (.int .i64 20))) (aA rfl) rfl rfl) ?_
 refine aF ?_
 refine aG ?_
 refine aE ?_
 refine tr1 rfl (aC (v := .d (.lit (.int .i64 20))) (aA rfl) rfl rfl) ?_
 refine tr1 rfl (aJ (v := .d (.lit (.int .i64 0))) (aA rfl) rfl rfl) ?_
 refine tr1 rfl (aJ (v := .d (.lit (.int .i64 20))) (aA rfl) rfl rfl) ?_
 refine aF ?_
 refine aG ?_
 refine bQ ?_
 refine cG [1, 2, 6] (fun (s1 : Int × Int × (List aD)) => [(0, .d (.lit data_0_v)), (7, .d (.lit (.int .i64 s1.1))), (8, .d (.lit (.int .i64 s1.2.1)))]) (fun (s1 : Int × Int × (List aD)) => [.arr data_0_v 42 5 (s1.2.2.map aB)]) (fun (k : Nat) (s1 : Int × Int × (List aD)) => eA n_1 cmp_2 20 k s1.1 s1.2.1 s1.2.2) (fun _ => rfl) (0, 20, data_0) h (aX [0] rfl rfl (aM rfl (aM rfl (aM rfl (aV ⟨rfl, rfl, rfl, trivial⟩))))) ?_
 rintro k2 ⟨a_0_1, b_0_1, data_0_1⟩ h
 simp only [eA] at h
 refine aG ?_
 refine aG ?_
 refine aE ?_
 refine tr1 rfl (aC (v := .d (.lit (.int .i64 b_0_1))) (aA rfl) rfl rfl) ?_
 refine tr1 rfl (aC (v := .d (.lit (.int .i64 n_1))) (aA rfl) rfl rfl) ?_
 refine tr1 rfl (bC (aA rfl) rfl rfl rfl) ?_
 refine aF ?_
 refine bJ rfl (fun c3 => ?_) (fun c3 => ?_)
 ·have h := aT c3 h
  refine bG ?_
  refine bQ ?_
  refine aG ?_
  refine aE ?_
  refine tr1 rfl (aC (v := .d (.lit data_0_v)) (aA rfl) rfl rfl) ?_
  refine tr1 rfl (aC (v := .d (.lit (.int .i64 a_0_1))) (aA rfl) rfl rfl) ?_
  refine tr1 rfl (aC (v := .d (.lit (.int .i64 b_0_1))) (aA rfl) rfl rfl) ?_
  refine tr1 rfl (aC (v := .fn cmp_2_f cmp_2_v) (aA rfl) rfl rfl) ?_
  obtain ⟨r4, h5, h⟩ := bind_some h
  refine bW rfl (dX (passed := [.arr data_0_v 42 5 (data_0_1.map aB)]) (aA rfl) rfl (.func _ _ Try.call127) rfl rfl (kM data_0_1 a_0_1 b_0_1 cmp_2 cmp_2_f cmp_2_v cmp_2_e cmp_2_h h5)) ?_
  rintro _ ⟨_, _, ⟨rfl, rfl⟩, rfl⟩
  refine aF ?_
  refine aG ?_
  refine aE ?_
  refine tr1 rfl (aC (v := .d (.lit (.int .i64 b_0_1))) (aA rfl) rfl rfl) ?_
  refine tr1 rfl (aJ (v := .d (.lit (.int .i64 b_0_1))) (aA rfl) rfl rfl) ?_
  refine aF ?_
  refine aE ?_
  refine tr1 rfl (aC (v := .d (.lit (.int .i64 b_0_1))) (aA rfl) rfl rfl) ?_
  refine tr1 rfl (aC (v := .d (.lit (.int .i64 20))) (aA rfl) rfl rfl) ?_
  refine tr1 rfl (aZ (aA rfl) rfl rfl rfl) ?_
  refine tr1 rfl (aJ (v := .d (.lit (.int .i64 ((w64 (b_0_1 + 20)))))) (aA rfl) rfl rfl) ?_
  refine dG ?_
  exact ⟨(b_0_1, w64 (b_0_1 + 20), r4), h, aX [0] rfl rfl (aM rfl (aM rfl (aM rfl (aV ⟨rfl, rfl, rfl, trivial⟩))))⟩
 ·have h := aS c3 h
  refine cN ?_
  refine .inl ⟨rfl, ?_⟩
  simp only [jR] at h
  refine aG ?_
  refine aE ?_
  refine tr1 rfl (aC (v := .d (.lit data_0_v)) (aA rfl) rfl rfl) ?_
  refine tr1 rfl (aC (v := .d (.lit (.int .i64 a_0_1))) (aA rfl) rfl rfl) ?_
  refine tr1 rfl (aC (v := .d (.lit (.int .i64 n_1))) (aA rfl) rfl rfl) ?_
  refine tr1 rfl (aC (v := .fn cmp_2_f cmp_2_v) (aA rfl) rfl rfl) ?_
  obtain ⟨r6, h7, h⟩ := bind_some h
  refine bW rfl (dX (passed := [.arr data_0_v 42 5 (data_0_1.map aB)]) (aA rfl) rfl (.func _ _ Try.call127) rfl rfl (kM data_0_1 a_0_1 n_1 cmp_2 cmp_2_f cmp_2_v cmp_2_e cmp_2_h h7)) ?_
  rintro _ ⟨_, _, ⟨rfl, rfl⟩, rfl⟩
  refine aF ?_
  refine bQ ?_
  refine cG [1, 2] (fun (s8 : Int × (List aD)) => [(0, .d (.lit data_0_v)), (6, .d (.lit (.int .i64 s8.1)))]) (fun (s8 : Int × (List aD)) => [.arr data_0_v 42 5 (s8.2.map aB)]) (fun (k : Nat) (s8 : Int × (List aD)) => dC n_1 cmp_2 k s8.1 s8.2) (fun _ => rfl) (20, r6) h (aX [0] rfl rfl (aM rfl (aM rfl (aV ⟨rfl, rfl, trivial⟩)))) ?_
  rintro k9 ⟨blockSize_2_8, data_2_8⟩ h
  simp only [dC] at h
  refine aG ?_
  refine aG ?_
  refine aE ?_
  refine tr1 rfl (aC (v := .d (.lit (.int .i64 blockSize_2_8))) (aA rfl) rfl rfl) ?_
  refine tr1 rfl (aC (v := .d (.lit (.int .i64 n_1))) (aA rfl) rfl rfl) ?_
  refine tr1 rfl (bC (aA rfl) rfl rfl rfl) ?_
  refine aF ?_
  refine bJ rfl (fun c10 => ?_) (fun c10 => ?_)
  ·have h := aT c10 h
   refine bG ?_
   refine bQ ?_
   refine aG ?_
   refine aE ?_
   refine tr1 rfl (aC (v := .d (.lit (.int .i64 blockSize_2_8))) (aA rfl) rfl rfl) ?_
   refine tr1 rfl (aZ (aA rfl) rfl rfl rfl) ?_
   refine tr1 rfl (aJ (v := .d (.lit (.int .i64 0))) (aA rfl) rfl rfl) ?_
   refine tr1 rfl (aJ (v := .d (.lit (.int .i64 ((w64 (2 * blockSize_2_8)))))) (aA rfl) rfl rfl) ?_
   refine aF ?_
   refine aG ?_
   refine bQ ?_
   refine cG [1, 2, 6] (fun (s11 : Int × Int × (List aD)) => [(0, .d (.lit data_0_v)), (7, .d (.lit (.int .i64 s11.1))), (8, .d (.lit (.int .i64 s11.2.1)))]) (fun (s11 : Int × Int × (List aD)) => [.arr data_0_v 42 5 (s11.2.2.map aB)]) (fun (k : Nat) (s11 : Int × Int × (List aD)) => eB (dC n_1 cmp_2 k9) n_1 cmp_2 blockSize_2_8 k s11.1 s11.2.1 s11.2.2) (fun _ => rfl) (0, w64 (2 * blockSize_2_8), data_2_8) h (aX [0] rfl rfl (aM rfl (aM rfl (aM rfl (aV ⟨rfl, rfl, rfl, trivial⟩))))) ?_
   rintro k12 ⟨a_4_11, b_4_11, data_4_11⟩ h
   simp only [eB] at h
   refine aG ?_
   refine aG ?_
   refine aE ?_
   refine tr1 rfl (aC (v := .d (.lit (.int .i64 b_4_11))) (aA rfl) rfl rfl) ?_
   refine tr1 rfl (aC (v := .d (.lit (.int .i64 n_1))) (aA rfl) rfl rfl) ?_
   refine tr1 rfl (bC (aA rfl) rfl rfl rfl) ?_
   refine aF ?_
   refine bJ rfl (fun c13 => ?_) (fun c13 => ?_)
   ·have h := aT c13 h
    refine bG ?_
    refine bQ ?_
    refine aG ?_
    refine aE ?_
    refine tr1 rfl (aC (v := .d (.lit data_0_v)) (aA rfl) rfl rfl) ?_
    refine tr1 rfl (aC (v := .d (.lit (.int .i64 a_4_11))) (aA rfl) rfl rfl) ?_
    refine tr1 rfl (aC (v := .d (.lit (.int .i64 a_4_11))) (aA rfl) rfl rfl) ?_
    refine tr1 rfl (aC (v := .d (.lit (.int .i64 blockSize_2_8))) (aA rfl) rfl rfl) ?_
    refine tr1 rfl (aZ (aA rfl) rfl rfl rfl) ?_
    refine tr1 rfl (aC (v := .d (.lit (.int .i64 b_4_11))) (aA rfl) rfl rfl) ?_
    refine tr1 rfl (aC (v := .fn cmp_2_f cmp_2_v) (aA rfl) rfl rfl) ?_
    obtain ⟨r14, h15, h⟩ := bind_some h
    refine bW rfl (dX (passed := [.arr data_0_v 42 5 (data_4_11.map aB)]) (aA rfl) rfl (.func _ _ Try.call128) rfl rfl (mG data_4_11 a_4_11 (w64 (a_4_11 + blockSize_2_8)) b_4_11 cmp_2 cmp_2_f cmp_2_v cmp_2_e cmp_2_h h15)) ?_
    rintro _ ⟨_, _, ⟨rfl, rfl⟩, rfl⟩
    refine aF ?_
    refine aG ?_
    refine aE ?_
    refine tr1 rfl (aC (v := .d (.lit (.int .i64 b_4_11))) (aA rfl) rfl rfl) ?_
    refine tr1 rfl (aJ (v := .d (.lit (.int .i64 b_4_11))) (aA rfl) rfl rfl) ?_
    refine aF ?_
    refine aE ?_
    refine tr1 rfl (aC (v := .d (.lit (.int .i64 b_4_11))) (aA rfl) rfl rfl) ?_
    refine tr1 rfl (aC (v := .d (.lit (.int .i64 blockSize_2_8))) (aA rfl) rfl rfl) ?_
    refine tr1 rfl (aZ (aA rfl) rfl rfl rfl) ?_
    refine tr1 rfl (aZ (aA rfl) rfl rfl rfl) ?_
    refine tr1 rfl (aJ (v := .d (.lit (.int .i64 ((w64 (b_4_11 + (w64 (2 * blockSize_2_8)))))))) (aA rfl) rfl rfl) ?_
    refine dG ?_
    exact ⟨(b_4_11, w64 (b_4_11 + (w64 (2 * blockSize_2_8))), r14), h, aX [0] rfl rfl (aM rfl (aM rfl (aM rfl (aV ⟨rfl, rfl, rfl, trivial⟩))))⟩
   ·have h := aS c13 h
    refine cN ?_
    refine .inl ⟨rfl, ?_⟩
    simp only [jT] at h
    refine aG ?_
    refine aG ?_
    refine aE ?_
    refine tr1 rfl (aC (v := .d (.lit (.int .i64 a_4_11))) (aA rfl) rfl rfl) ?_
    refine tr1 rfl (aC (v := .d (.lit (.int .i64 blockSize_2_8))) (aA rfl) rfl rfl) ?_
    refine tr1 rfl (aZ (aA rfl) rfl rfl rfl) ?_
    refine tr1 rfl (aJ (v := .d (.lit (.int .i64 ((w64 (a_4_11 + blockSize_2_8)))))) (aA rfl) rfl rfl) ?_
    refine aF ?_
    refine aG ?_
    refine aE ?_
    refine tr1 rfl (aC (v := .d (.lit (.int .i64 ((w64 (a_4_11 + blockSize_2_8)))))) (aA rfl) rfl rfl) ?_
    refine tr1 rfl (aC (v := .d (.lit (.int .i64 n_1))) (aA rfl) rfl rfl) ?_
    refine tr1 rfl (bC (aA rfl) rfl rfl rfl) ?_
    refine aF ?_
    refine bJ rfl (fun c16 => ?_) (fun c16 => ?_)
    ·have h := aT c16 h
     refine aE ?_
     refine tr1 rfl (aC (v := .d (.lit data_0_v)) (aA rfl) rfl rfl) ?_
     refine tr1 rfl (aC (v := .d (.lit (.int .i64 a_4_11))) (aA rfl) rfl rfl) ?_
     refine tr1 rfl (aC (v := .d (.lit (.int .i64 ((w64 (a_4_11 + blockSize_2_8)))))) (aA rfl) rfl rfl) ?_
     refine tr1 rfl (aC (v := .d (.lit (.int .i64 n_1))) (aA rfl) rfl rfl) ?_
     refine tr1 rfl (aC (v := .fn cmp_2_f cmp_2_v) (aA rfl) rfl rfl) ?_
     obtain ⟨r17, h18, h⟩ := bind_some h
     refine bW rfl (dX (passed := [.arr data_0_v 42 5 (data_4_11.map aB)]) (aA rfl) rfl (.func _ _ Try.call128) rfl rfl (mG data_4_11 a_4_11 (w64 (a_4_11 + blockSize_2_8)) n_1 cmp_2 cmp_2_f cmp_2_v cmp_2_e cmp_2_h h18)) ?_
     rintro _ ⟨_, _, ⟨rfl, rfl⟩, rfl⟩
     refine aF ?_
     refine aE ?_
     refine tr1 rfl (aC (v := .d (.lit (.int .i64 blockSize_2_8))) (aA rfl) rfl rfl) ?_
     refine tr1 rfl (aZ (aA rfl) rfl rfl rfl) ?_
     refine tr1 rfl (aJ (v := .d (.lit (.int .i64 ((w64 (blockSize_2_8 * 2)))))) (aA rfl) rfl rfl) ?_
     refine dG ?_
     simp only [fI] at h
     exact ⟨(w64 (blockSize_2_8 * 2), r17), h, aX [0] rfl rfl (aM rfl (aM rfl (aV ⟨rfl, rfl, trivial⟩)))⟩
    ·have h := aS c16 h
     refine bG ?_
     refine aE ?_
     refine tr1 rfl (aC (v := .d (.lit (.int .i64 blockSize_2_8))) (aA rfl) rfl rfl) ?_
     refine tr1 rfl (aZ (aA rfl) rfl rfl rfl) ?_
     refine tr1 rfl (aJ (v := .d (.lit (.int .i64 ((w64 (blockSize_2_8 * 2)))))) (aA rfl) rfl rfl) ?_
     refine dG ?_
     simp only [fI] at h
     exact ⟨(w64 (blockSize_2_8 * 2), data_4_11), h, aX [0] rfl rfl (aM rfl (aM rfl (aV ⟨rfl, rfl, trivial⟩)))⟩
  ·have h := aS c10 h
   refine cN ?_
   refine .inl ⟨rfl, ?_⟩
   simp only [jS] at h
   have h := Option.some.inj h
   subst h
   exact ⟨_, [.arr data_0_v 42 5 (data_2_8.map aB)], [], _, .none, .refl _, .same _, rfl, rfl⟩

theorem mN (x_0 : List aD) (cmp_1 : aD → aD → Option Int) {r : (List aD)} {x_0_v : Value} (cmp_1_f : Nat) (cmp_1_v : List AV) (cmp_1_e : ∀ args w, (callFunc cmp_1_f args).run Try.prog w = .ok (.enter cmp_1_f args) w) (cmp_1_h : ∀ (x0 : aD) (x1 : aD) r, cmp_1 x0 x1 = some r → Fn Try.prog cmp_1_f ([.agg (aB x0), .agg (aB x1)] ++ cmp_1_v) (.d (.lit (.int .i64 r)))) (h : eQ x_0 cmp_1 = some r) : gC Try.prog 92 [.d (.lit x_0_v), .fn cmp_1_f cmp_1_v] [.arr x_0_v 42 5 (x_0.map aB)] (fun r' o' => r' = .tup [] ∧ o' = [.arr x_0_v 42 5 (r.map aB)]) := by
 unfold eQ at h
 refine jW Try.func92 rfl (rs := []) Try.results92 Try.ntmps92 (Nat.le_of_ble_eq_true rfl) ?_
 refine aE ?_
 refine tr1 rfl (aC (v := .d (.lit x_0_v)) (aA rfl) rfl rfl) ?_
 refine tr1 rfl (aC (v := .d (.lit x_0_v)) (aA rfl) rfl rfl) ?_
 refine tr1 rfl (lR (m := 0) (aA rfl) rfl rfl bR.of) ?_
 refine tr1 rfl (aC (v := .fn cmp_1_f cmp_1_v) (aA rfl) rfl rfl) ?_
 obtain ⟨r1, h2, h⟩ := bind_some h
 refine bW rfl (dX (passed := [.arr x_0_v 42 5 (x_0.map aB)]) (aA rfl) rfl (.func _ _ Try.call106) rfl rfl (rJ x_0 (x_0.length : Int) cmp_1 cmp_1_f cmp_1_v cmp_1_e cmp_1_h h2)) ?_
 rintro _ ⟨_, _, ⟨rfl, rfl⟩, rfl⟩
 refine aF ?_
 have h := Option.some.inj h
 subst h
 exact ⟨_, [.arr x_0_v 42 5 (r1.map aB)], [], _, .none, .refl _, .same _, rfl, rfl⟩

theorem aDh (a_0 : aD) (b_1 : aD) {r : Int} (h : pO a_0 b_1 = some r) : Fn Try.prog 93 [.agg (aB a_0), .agg (aB b_1)] (.d (.lit (.int .i64 r))) := by
 unfold pO at h
 refine Fn.of_tr Try.func93 rfl (rs := [.tmp 4]) Try.results93 Try.ntmps93 (Nat.le_of_ble_eq_true rfl) ?_
 refine aG ?_
 refine aE ?_
 refine bW rfl (eN (v := .agg (aB a_0)) (aA rfl) rfl rfl rfl) ?_
 rintro _ ⟨b1, rfl⟩
 refine bW rfl (eN (v := .agg (aB b_1)) (aA rfl) rfl rfl rfl) ?_
 rintro _ ⟨b2, rfl⟩
 refine tr1 rfl (aJ (v := .d (.lit (.int .i64 0))) (aA rfl) rfl rfl) ?_
 refine aF ?_
 refine aG ?_
 refine aE ?_
 refine tr1 rfl (aU (aA rfl) rfl kA) ?_
 refine tr1 rfl (aW (aA rfl) rfl (i := 0) rfl rfl bH) ?_
 refine tr1 rfl (aU (aA rfl) rfl kA) ?_
 refine tr1 rfl (aW (aA rfl) rfl (i := 1) rfl rfl bH) ?_
 refine tr1 rfl (aZ (aA rfl) rfl rfl rfl) ?_
 refine tr1 rfl (aJ (v := .d (.lit (.int .i64 ((w64 (a_0.Id - b_1.Id)))))) (aA rfl) rfl rfl) ?_
 refine aF ?_
 have h := Option.some.inj h
 subst h
 refine cR (cE (cM (l := [4]) ⟨rfl, trivial⟩)) ?_
 exact bM ⟨rfl, _, .one _, rfl, rfl⟩

theorem tW (s_0 : List aD) {r : (List aD)} {s_0_v : Value} (h : iO s_0 = some r) : gC Try.prog 94 [.d (.lit s_0_v)] [.arr s_0_v 42 5 (s_0.map aB)] (fun r' o' => ∃ w0 : Value, r' = .d (.lit w0) ∧ o' = [.arr w0 42 5 (r.map aB)]) := by
 unfold iO at h
 refine mP Try.func94 rfl (rs := [.tmp 2]) Try.results94 Try.ntmps94 (Nat.le_of_ble_eq_true rfl) ?_
 refine aG ?_
 refine aE ?_
 refine tr1 rfl (jE 42 5 (.inl rfl) (aA rfl)) ?_
 refine aF ?_
 refine aG ?_
 refine aG ?_
 refine aE ?_
 refine tr1 rfl (aC (v := .d (.lit s_0_v)) (aA rfl) rfl rfl) ?_
 refine tr1 rfl (lR (m := 0) (aA rfl) rfl rfl bR.of) ?_
 refine tr1 rfl (bC (aA rfl) rfl rfl rfl) ?_
 refine aF ?_
 refine bJ rfl (fun c2 => ?_) (fun c2 => ?_)
 ·have h := aT c2 h
  refine aG ?_
  refine aE ?_
  refine tr1 rfl (aC (v := .d (.lit s_0_v)) (aA rfl) rfl rfl) ?_
  refine tr1 rfl (aJ (v := .d (.lit s_0_v)) (aA rfl) rfl rfl) ?_
  refine aF ?_
  have h := Option.some.inj h
  subst h
  exact bM ⟨rfl, _, [.arr s_0_v 42 5 (s_0.map aB)], [.arr (.slice none 0 0) 42 5 (([] : List aD).map aB)], _, .one (.tmp 2 (v := .d (.lit s_0_v)) rfl), .refl _, .same _, s_0_v, rfl, rfl⟩
 ·have h := aS c2 h
  refine bG ?_
  refine aG ?_
  refine aG ?_
  refine aE ?_
  refine tr1 rfl (aJ (v := .d (.lit (.int .i64 1))) (aA rfl) rfl rfl) ?_
  refine aF ?_
  refine bQ ?_
  refine cG [] (fun (s3 : Int × (List aD) × Value) => [(0, .d (.lit s3.2.2)), (3, .d (.lit (.int .i64 s3.1)))]) (fun (s3 : Int × (List aD) × Value) => [.arr s3.2.2 42 5 (s3.2.1.map aB)]) (fun (k : Nat) (s3 : Int × (List aD) × Value) => dL k s3.1 s3.2.1) (fun _ => rfl) (1, s_0, s_0_v) h (aX [0] rfl rfl (aM rfl (aM rfl (aV trivial)))) ?_
  rintro k5 ⟨k_0_3, s_0_3, w4⟩ h
  simp only [dL] at h
  refine aG ?_
  refine aG ?_
  refine aE ?_
  refine tr1 rfl (aC (v := .d (.lit (.int .i64 k_0_3))) (aA rfl) rfl rfl) ?_
  refine tr1 rfl (aC (v := .d (.lit w4)) (aA rfl) rfl rfl) ?_
  refine tr1 rfl (lR (m := 0) (aA rfl) rfl rfl bR.of) ?_
  refine tr1 rfl (bC (aA rfl) rfl rfl rfl) ?_
  refine aF ?_
  refine bJ rfl (fun c6 => ?_) (fun c6 => ?_)
  ·have h := aT c6 h
   refine bG ?_
   refine aG ?_
   refine bQ ?_
   refine aG ?_
   obtain ⟨x7, h8, h⟩ := bind_some h
   obtain ⟨x9, h10, h⟩ := bind_some h
   refine fN mix 9 [0, 3] [(19, .agg (aB x7)), (24, .agg (aB x9))] ?_ ?_
   ·refine ⟨[(16, 0, .d (.lit w4)), (17, 1, .d (.lit (.int .i64 k_0_3))), (18, 2, .ep w4 5 k_0_3.toNat 0), (19, 3, .agg (aB x7)), (20, 4, .d (.lit w4)), (21, 5, .d (.lit (.int .i64 k_0_3))), (22, 6, .d (.lit (.int .i64 ((w64 (k_0_3 - 1)))))), (23, 7, .ep w4 5 (w64 (k_0_3 - 1)).toNat 0), (24, 8, .agg (aB x9))], ?_, ?_⟩
    · exact ⟨by kernel_rfl, by kernel_rfl, by kernel_rfl, by kernel_rfl, by kernel_rfl, [([], []), ([], []), ([0, 1], []), ([2], []), ([], []), ([], []), ([5], []), ([4, 6], []), ([7], [])], by kernel_rfl, ⟨fun S hS => aI rfl (aQ rfl (aC (v := .d (.lit w4)) (aA rfl) (aH hS rfl) rfl)),
      fun S hS => aI rfl (aQ rfl (aC (v := .d (.lit (.int .i64 k_0_3))) (aA rfl) (aH hS rfl) rfl)),
      fun S hS => aI rfl (aQ rfl (cL (m := 0) (aA rfl) (aH hS rfl) rfl (aH hS rfl) bR.of (bI aB h8))),
      fun S hS => aI rfl (aQ rfl (dJ (aA rfl) (aH hS rfl) (l := 0) rfl (eF aB h8) dY (es := (aB x7)) rfl rfl)),
      fun S hS => aI rfl (aQ rfl (aC (v := .d (.lit w4)) (aA rfl) (aH hS rfl) rfl)),
      fun S hS => aI rfl (aQ rfl (aC (v := .d (.lit (.int .i64 k_0_3))) (aA rfl) (aH hS rfl) rfl)),
      fun S hS => aI rfl (aQ rfl (aZ (aA rfl) (aH hS rfl) rfl rfl)),
      fun S hS => aI rfl (aQ rfl (cL (m := 0) (aA rfl) (aH hS rfl) rfl (aH hS rfl) bR.of (bI aB h10))),
      fun S hS => aI rfl (aQ rfl (dJ (aA rfl) (aH hS rfl) (l := 0) rfl (eF aB h10) dY (es := (aB x9)) rfl rfl)), trivial⟩⟩
    · exact dI (aM rfl (aM rfl (aV ⟨rfl, rfl, trivial⟩)))
   ·refine tr1 rfl (aIz (a := x7) (b := x9) (aA rfl) rfl rfl rfl rfl Try.eqGuardType42 aBg) ?_
    refine aF ?_
    refine bJ rfl (fun c11 => ?_) (fun c11 => ?_)
    ·have h := aT c11 h
     refine aG ?_
     refine aE ?_
     refine tr1 rfl (aC (v := .d (.lit w4)) (aA rfl) rfl rfl) ?_
     refine tr1 rfl (aC (v := .d (.lit (.int .i64 k_0_3))) (aA rfl) rfl rfl) ?_
     obtain ⟨u12, h13, h⟩ := bind_some h
     refine tr1 rfl (vG (m := 0) (aA rfl) rfl rfl rfl bR.of h13) ?_
     refine tr1 rfl (aJ (v := .d (.lit (lY w4 k_0_3.toNat 5))) (aA rfl) rfl rfl) ?_
     refine aF ?_
     refine aG ?_
     refine aG ?_
     refine aE ?_
     refine tr1 rfl (aJ (v := .d (.lit (.int .i64 1))) (aA rfl) rfl rfl) ?_
     refine aF ?_
     refine bQ ?_
     refine cG [] (fun (s14 : Int × Int × (List aD)) => [(0, .d (.lit w4)), (3, .d (.lit (.int .i64 s14.1))), (4, .d (.lit (lY w4 k_0_3.toNat 5))), (5, .d (.lit (.int .i64 s14.2.1)))]) (fun (s14 : Int × Int × (List aD)) => [.arr w4 42 5 (s14.2.2.map aB)]) (fun (k : Nat) (s14 : Int × Int × (List aD)) => eG (dL k5) k_0_3 k s14.1 s14.2.1 s14.2.2) (fun _ => rfl) (k_0_3, 1, s_0_3) h (aX [0] rfl rfl (aM rfl (aM rfl (aM rfl (aM rfl (aV trivial)))))) ?_
     rintro k15 ⟨k_2_14, k2_2_14, s_2_14⟩ h
     simp only [eG] at h
     refine aG ?_
     refine aG ?_
     refine aE ?_
     refine tr1 rfl (aC (v := .d (.lit (.int .i64 k2_2_14))) (aA rfl) rfl rfl) ?_
     refine tr1 rfl (aC (v := .d (.lit (lY w4 k_0_3.toNat 5))) (aA rfl) rfl rfl) ?_
     refine tr1 rfl (aHb (m := 0) (aA rfl) rfl rfl bR.of) ?_
     refine tr1 rfl (bC (aA rfl) rfl rfl rfl) ?_
     refine aF ?_
     refine bJ rfl (fun c16 => ?_) (fun c16 => ?_)
     ·have h := aT c16 h
      refine bG ?_
      refine aG ?_
      refine bQ ?_
      refine aG ?_
      obtain ⟨x17, h18, h⟩ := bind_some h
      obtain ⟨x19, h20, h⟩ := bind_some h
      refine fN mix 9 [0, 3, 4, 5] [(38, .agg (aB x17)), (43, .agg (aB x19))] ?_ ?_
      ·refine ⟨[(35, 0, .d (.lit (lY w4 k_0_3.toNat 5))), (36, 1, .d (.lit (.int .i64 k2_2_14))), (37, 2, .ep w4 5 (k_0_3.toNat + k2_2_14.toNat) 0), (38, 3, .agg (aB x17)), (39, 4, .d (.lit (lY w4 k_0_3.toNat 5))), (40, 5, .d (.lit (.int .i64 k2_2_14))), (41, 6, .d (.lit (.int .i64 ((w64 (k2_2_14 - 1)))))), (42, 7, .ep w4 5 (k_0_3.toNat + (w64 (k2_2_14 - 1)).toNat) 0), (43, 8, .agg (aB x19))], ?_, ?_⟩
       · exact ⟨by kernel_rfl, by kernel_rfl, by kernel_rfl, by kernel_rfl, by kernel_rfl, [([], []), ([], []), ([0, 1], []), ([2], []), ([], []), ([], []), ([5], []), ([4, 6], []), ([7], [])], by kernel_rfl, ⟨fun S hS => aI rfl (aQ rfl (aC (v := .d (.lit (lY w4 k_0_3.toNat 5))) (aA rfl) (aH hS rfl) rfl)),
      fun S hS => aI rfl (aQ rfl (aC (v := .d (.lit (.int .i64 k2_2_14))) (aA rfl) (aH hS rfl) rfl)),
      fun S hS => aI rfl (aQ rfl (wD (m := 0) (aA rfl) (aH hS rfl) rfl (aH hS rfl) bR.of (vH (f := aB) h18))),
      fun S hS => aI rfl (aQ rfl (dJ (aA rfl) (aH hS rfl) (l := 0) rfl (aCm aB h18) dY (es := (aB x17)) rfl rfl)),
      fun S hS => aI rfl (aQ rfl (aC (v := .d (.lit (lY w4 k_0_3.toNat 5))) (aA rfl) (aH hS rfl) rfl)),
      fun S hS => aI rfl (aQ rfl (aC (v := .d (.lit (.int .i64 k2_2_14))) (aA rfl) (aH hS rfl) rfl)),
      fun S hS => aI rfl (aQ rfl (aZ (aA rfl) (aH hS rfl) rfl rfl)),
      fun S hS => aI rfl (aQ rfl (wD (m := 0) (aA rfl) (aH hS rfl) rfl (aH hS rfl) bR.of (vH (f := aB) h20))),
      fun S hS => aI rfl (aQ rfl (dJ (aA rfl) (aH hS rfl) (l := 0) rfl (aCm aB h20) dY (es := (aB x19)) rfl rfl)), trivial⟩⟩
       · exact dI (aM rfl (aM rfl (aV ⟨rfl, rfl, rfl, rfl, trivial⟩)))
      ·refine tr1 rfl (aJb (a := x17) (b := x19) (aA rfl) rfl rfl rfl rfl Try.eqGuardType42 aBg) ?_
       refine aF ?_
       refine bJ rfl (fun c21 => ?_) (fun c21 => ?_)
       ·have h := aT c21 h
        refine aG ?_
        refine aE ?_
        refine tr1 rfl (aC (v := .d (.lit w4)) (aA rfl) rfl rfl) ?_
        refine tr1 rfl (aC (v := .d (.lit (.int .i64 k_2_14))) (aA rfl) rfl rfl) ?_
        refine tr1 rfl (aC (v := .d (.lit (lY w4 k_0_3.toNat 5))) (aA rfl) rfl rfl) ?_
        refine tr1 rfl (aC (v := .d (.lit (.int .i64 k2_2_14))) (aA rfl) rfl rfl) ?_
        obtain ⟨x22, h23, h⟩ := bind_some h
        refine tr1 rfl (wD (m := 0) (aA rfl) rfl rfl rfl bR.of (vH (f := aB) h23)) ?_
        refine tr1 rfl (dJ (aA rfl) rfl (l := 0) rfl (aCm aB h23) dY (es := (aB x22)) rfl rfl) ?_
        obtain ⟨x24, h25, h⟩ := bind_some h
        refine tr1 rfl (cL (m := 0) (aA rfl) rfl rfl rfl bR.of (bI aB h25)) ?_
        refine tr1 rfl (jM (l := 0) rfl rfl (eF aB h25) rfl rfl rfl Try.sizeOf42 rfl (aA rfl) (Nat.le_of_ble_eq_true rfl) (rows' := ((s_2_14.set k_2_14.toNat x22)).map aB) (mZ _ _ _ _ rfl)) ?_
        refine aF ?_
        refine aE ?_
        refine tr1 rfl (aC (v := .d (.lit (.int .i64 k_2_14))) (aA rfl) rfl rfl) ?_
        refine tr1 rfl (aZ (aA rfl) rfl rfl rfl) ?_
        refine tr1 rfl (aJ (v := .d (.lit (.int .i64 ((w64 (k_2_14 + 1)))))) (aA rfl) rfl rfl) ?_
        refine dG ?_
        refine aE ?_
        refine tr1 rfl (aC (v := .d (.lit (.int .i64 k2_2_14))) (aA rfl) rfl rfl) ?_
        refine tr1 rfl (aZ (aA rfl) rfl rfl rfl) ?_
        refine tr1 rfl (aJ (v := .d (.lit (.int .i64 ((w64 (k2_2_14 + 1)))))) (aA rfl) rfl rfl) ?_
        refine aF ?_
        exact ⟨(w64 (k_2_14 + 1), w64 (k2_2_14 + 1), (s_2_14.set k_2_14.toNat x22)), h, aX [0] rfl rfl (aM rfl (aM rfl (aM rfl (aM rfl (aV trivial)))))⟩
       ·have h := aS c21 h
        refine dS ?_
        refine aE ?_
        refine tr1 rfl (aC (v := .d (.lit (.int .i64 k2_2_14))) (aA rfl) rfl rfl) ?_
        refine tr1 rfl (aZ (aA rfl) rfl rfl rfl) ?_
        refine tr1 rfl (aJ (v := .d (.lit (.int .i64 ((w64 (k2_2_14 + 1)))))) (aA rfl) rfl rfl) ?_
        refine aF ?_
        exact ⟨(k_2_14, w64 (k2_2_14 + 1), s_2_14), h, aX [0] rfl rfl (aM rfl (aM rfl (aM rfl (aM rfl (aV trivial)))))⟩
     ·have h := aS c16 h
      refine cN ?_
      refine .inl ⟨rfl, ?_⟩
      simp only [lN] at h
      refine aG ?_
      refine aE ?_
      refine tr1 rfl (aC (v := .d (.lit w4)) (aA rfl) rfl rfl) ?_
      refine tr1 rfl (aC (v := .d (.lit (.int .i64 k_2_14))) (aA rfl) rfl rfl) ?_
      obtain ⟨u26, h27, h⟩ := bind_some h
      refine tr1 rfl (vG (m := 0) (aA rfl) rfl rfl rfl bR.of h27) ?_
      obtain ⟨u28, h29, h⟩ := bind_some h
      refine tr1 rfl (aEr (f := aB) (m := 0) bR rfl rfl h29 (by decide)) ?_
      refine aF ?_
      refine aG ?_
      refine aE ?_
      refine tr1 rfl (aC (v := .d (.lit w4)) (aA rfl) rfl rfl) ?_
      refine tr1 rfl (aC (v := .d (.lit (.int .i64 k_2_14))) (aA rfl) rfl rfl) ?_
      obtain ⟨u30, h31, h⟩ := bind_some h
      refine tr1 rfl (sN (m := 0) (q := k_2_14.toNat) (v := w4) (aA rfl) rfl rfl rfl rfl (aBd h31) bR.of) ?_
      refine tr1 rfl (aJ (v := .d (.lit (gS w4 k_2_14.toNat))) (aA rfl) rfl rfl) ?_
      refine aF ?_
      have h := Option.some.inj h
      subst h
      exact bM ⟨rfl, _, [.arr (gS w4 k_2_14.toNat) 42 5 ((s_2_14.take k_2_14.toNat).map aB)], [], _, .one (.tmp 2 (v := .d (.lit (gS w4 k_2_14.toNat))) rfl), .refl _, .same _, (gS w4 k_2_14.toNat), rfl, rfl⟩
    ·have h := aS c11 h
     refine dS ?_
     simp only [lM] at h
     refine aE ?_
     refine tr1 rfl (aC (v := .d (.lit (.int .i64 k_0_3))) (aA rfl) rfl rfl) ?_
     refine tr1 rfl (aZ (aA rfl) rfl rfl rfl) ?_
     refine tr1 rfl (aJ (v := .d (.lit (.int .i64 ((w64 (k_0_3 + 1)))))) (aA rfl) rfl rfl) ?_
     refine aF ?_
     exact ⟨(w64 (k_0_3 + 1), s_0_3, w4), h, aX [0] rfl rfl (aM rfl (aM rfl (aV trivial)))⟩
  ·have h := aS c6 h
   refine cN ?_
   refine .inl ⟨rfl, ?_⟩
   simp only [lL] at h
   refine aG ?_
   refine aE ?_
   refine tr1 rfl (aC (v := .d (.lit w4)) (aA rfl) rfl rfl) ?_
   refine tr1 rfl (aJ (v := .d (.lit w4)) (aA rfl) rfl rfl) ?_
   refine aF ?_
   have h := Option.some.inj h
   subst h
   exact bM ⟨rfl, _, [.arr w4 42 5 (s_0_3.map aB)], [], _, .one (.tmp 2 (v := .d (.lit w4)) rfl), .refl _, .same _, w4, rfl, rfl⟩

theorem aAi (all_0 : List aD) {r : (List aD) × Bool} (h : oA all_0 = some r) : gC Try.prog 62 [.d (.sl 5 (all_0.map aB))] [] (fun r' o' => ∃ (w0 : Value), r' = .tup [.d (.lit w0), .d (.lit (.bool r.2))] ∧ o' = [.arr w0 42 5 (r.1.map aB)]) := by
 unfold oA at h
 refine mP Try.func62 rfl (rs := [.tmp 2, .tmp 3]) Try.results62 Try.ntmps62 (Nat.le_of_ble_eq_true rfl) ?_
 refine aG ?_
 refine aE ?_
 refine tr1 rfl (jE 42 5 (.inl rfl) (aA rfl)) ?_
 refine tr1 rfl (aJ (v := .d (.lit (.bool false))) (aA rfl) rfl rfl) ?_
 refine aF ?_
 refine aG ?_
 refine aE ?_
 refine tr1 rfl (aC (v := .d (.sl 5 (all_0.map aB))) (aA rfl) rfl rfl) ?_
 obtain ⟨r2, h3, h⟩ := bind_some h
 refine bW rfl (xI (aA rfl) (.func _ _ Try.call91) rfl rfl (pL _ h3)) ?_
 rintro _ ⟨v4, rfl⟩
 refine tr1 rfl (aJ (v := .d (.lit v4)) (aA rfl) rfl rfl) ?_
 refine aF ?_
 refine aG ?_
 refine aE ?_
 refine tr1 rfl (aC (v := .d (.lit v4)) (aA rfl) rfl rfl) ?_
 obtain ⟨r7, h8, h⟩ := bind_some h
 refine gN (aX [1, 0] rfl rfl (le_refl _)) ?_
 refine bW rfl (dX (passed := [.arr v4 42 5 (r2.map aB)]) (aA rfl) rfl (.func _ _ Try.call92) rfl rfl (mN r2 (fun y5 y6 => pO y5 y6) 93 [] Try.call93 (fun _ _ _ h => aDh _ _ h) h8)) ?_
 rintro _ ⟨_, _, ⟨rfl, rfl⟩, rfl⟩
 refine aF ?_
 refine aG ?_
 refine aE ?_
 refine tr1 rfl (aC (v := .d (.lit v4)) (aA rfl) rfl rfl) ?_
 obtain ⟨r9, h10, h⟩ := bind_some h
 refine bW rfl (dX (passed := [.arr v4 42 5 (r7.map aB)]) (aA rfl) rfl (.func _ _ Try.call94) rfl rfl (tW r7 h10)) ?_
 rintro _ ⟨_, _, ⟨v11, rfl, rfl⟩, rfl⟩
 refine tr1 rfl (aJ (v := .d (.lit v11)) (aA rfl) rfl rfl) ?_
 refine aF ?_
 refine aG ?_
 refine aG ?_
 refine aE ?_
 refine tr1 rfl (aJ (v := .d (.lit (.int .i64 1))) (aA rfl) rfl rfl) ?_
 refine aF ?_
 refine bQ ?_
 refine cG [4] (fun (s12 : Int) => [(5, .d (.lit (.int .i64 s12)))]) (fun (s12 : Int) => [.arr v11 42 5 (r9.map aB)]) (fun (k : Nat) (s12 : Int) => iA r9 k s12) (fun _ => rfl) (1) h (aX [0] rfl rfl (aM rfl (aV ⟨rfl, trivial⟩))) ?_
 rintro k13 i_0_12 h
 simp only [iA] at h
 refine aG ?_
 refine aG ?_
 refine aE ?_
 refine tr1 rfl (aC (v := .d (.lit (.int .i64 i_0_12))) (aA rfl) rfl rfl) ?_
 refine tr1 rfl (aC (v := .d (.lit v11)) (aA rfl) rfl rfl) ?_
 refine tr1 rfl (lR (m := 0) (aA rfl) rfl rfl bR.of) ?_
 refine tr1 rfl (bC (aA rfl) rfl rfl rfl) ?_
 refine aF ?_
 refine bJ rfl (fun c14 => ?_) (fun c14 => ?_)
 ·have h := aT c14 h
  refine bG ?_
  refine aG ?_
  refine bQ ?_
  refine aG ?_
  obtain ⟨x15, h16, h⟩ := bind_some h
  obtain ⟨x17, h18, h⟩ := bind_some h
  refine fN mix 11 [4, 5] [(22, .d (.lit (.int .i64 x15.Id))), (28, .d (.lit (.int .i64 x17.Id)))] ?_ ?_
  ·refine ⟨[(18, 0, .d (.lit v11)), (19, 1, .d (.lit (.int .i64 i_0_12))), (20, 2, .ep v11 5 i_0_12.toNat 0), (21, 3, .ep v11 5 i_0_12.toNat 0), (22, 4, .d (.lit (.int .i64 x15.Id))), (23, 5, .d (.lit v11)), (24, 6, .d (.lit (.int .i64 i_0_12))), (25, 7, .d (.lit (.int .i64 ((w64 (i_0_12 - 1)))))), (26, 8, .ep v11 5 (w64 (i_0_12 - 1)).toNat 0), (27, 9, .ep v11 5 (w64 (i_0_12 - 1)).toNat 0), (28, 10, .d (.lit (.int .i64 x17.Id)))], ?_, ?_⟩
   · exact ⟨by kernel_rfl, by kernel_rfl, by kernel_rfl, by kernel_rfl, by kernel_rfl, [([], []), ([], []), ([0, 1], []), ([2], []), ([3], []), ([], []), ([], []), ([6], []), ([5, 7], []), ([8], []), ([9], [])], by kernel_rfl, ⟨fun S hS => aI rfl (aQ rfl (aC (v := .d (.lit v11)) (aA rfl) (aH hS rfl) rfl)),
      fun S hS => aI rfl (aQ rfl (aC (v := .d (.lit (.int .i64 i_0_12))) (aA rfl) (aH hS rfl) rfl)),
      fun S hS => aI rfl (aQ rfl (cL (m := 0) (aA rfl) (aH hS rfl) rfl (aH hS rfl) bR.of (bI aB h16))),
      fun S hS => aI rfl (aQ rfl (aBx (aA rfl) (aH hS rfl) kA)),
      fun S hS => aI rfl (aQ rfl (aDe (aA rfl) (aH hS rfl) (m := 0) rfl (eF aB h16) rfl bH)),
      fun S hS => aI rfl (aQ rfl (aC (v := .d (.lit v11)) (aA rfl) (aH hS rfl) rfl)),
      fun S hS => aI rfl (aQ rfl (aC (v := .d (.lit (.int .i64 i_0_12))) (aA rfl) (aH hS rfl) rfl)),
      fun S hS => aI rfl (aQ rfl (aZ (aA rfl) (aH hS rfl) rfl rfl)),
      fun S hS => aI rfl (aQ rfl (cL (m := 0) (aA rfl) (aH hS rfl) rfl (aH hS rfl) bR.of (bI aB h18))),
      fun S hS => aI rfl (aQ rfl (aBx (aA rfl) (aH hS rfl) kA)),
      fun S hS => aI rfl (aQ rfl (aDe (aA rfl) (aH hS rfl) (m := 0) rfl (eF aB h18) rfl bH)), trivial⟩⟩
   · exact dI (aM rfl (aM rfl (aV ⟨rfl, rfl, trivial⟩)))
  ·refine tr1 rfl (bC (aA rfl) rfl rfl rfl) ?_
   refine aF ?_
   refine bJ rfl (fun c19 => ?_) (fun c19 => ?_)
   ·have h := aT c19 h
    refine aG ?_
    refine aE ?_
    refine tr1 rfl (jE 42 5 (.inl rfl) (aA rfl)) ?_
    refine tr1 rfl (aJ (v := .d (.lit (.bool false))) (aA rfl) rfl rfl) ?_
    refine aF ?_
    have h := Option.some.inj h
    subst h
    refine cR (aX [1, 0] rfl rfl (le_refl _)) ?_
    exact bM ⟨rfl, _, [.arr (.slice none 0 0) 42 5 (([] : List aD).map aB)], [.arr v11 42 5 (r9.map aB)], _, .two (.tmp 2 (v := .d (.lit (.slice none 0 0))) rfl) (.tmp 3 (v := .d (.lit (.bool false))) rfl), .refl _, .same _, (.slice none 0 0), rfl, rfl⟩
   ·have h := aS c19 h
    refine dS ?_
    refine aE ?_
    refine tr1 rfl (aC (v := .d (.lit (.int .i64 i_0_12))) (aA rfl) rfl rfl) ?_
    refine tr1 rfl (aZ (aA rfl) rfl rfl rfl) ?_
    refine tr1 rfl (aJ (v := .d (.lit (.int .i64 ((w64 (i_0_12 + 1)))))) (aA rfl) rfl rfl) ?_
    refine aF ?_
    exact ⟨(w64 (i_0_12 + 1)), h, aX [0] rfl rfl (aM rfl (aV ⟨rfl, trivial⟩))⟩
 ·have h := aS c14 h
  refine cN ?_
  refine .inl ⟨rfl, ?_⟩
  simp only [vC] at h
  refine aG ?_
  refine aE ?_
  refine tr1 rfl (aC (v := .d (.lit v11)) (aA rfl) rfl rfl) ?_
  refine tr1 rfl (aJ (v := .d (.lit v11)) (aA rfl) rfl rfl) ?_
  refine tr1 rfl (aJ (v := .d (.lit (.bool true))) (aA rfl) rfl rfl) ?_
  refine aF ?_
  have h := Option.some.inj h
  subst h
  exact bM ⟨rfl, _, [.arr v11 42 5 (r9.map aB)], [], _, .two (.tmp 2 (v := .d (.lit v11)) rfl) (.tmp 3 (v := .d (.lit (.bool true))) rfl), .refl _, .same _, v11, rfl, rfl⟩

theorem aEp (l_0 : aL) {r : Int} (h : sK l_0 = some r) : Fn Try.prog 60 [.agg (aN l_0)] (.d (.lit (.int .i64 r))) := by
 unfold sK at h
 refine Fn.of_tr Try.func60 rfl (rs := [.tmp 2]) Try.results60 Try.ntmps60 (Nat.le_of_ble_eq_true rfl) ?_
 refine aG ?_
 refine aE ?_
 refine bW rfl (eN (v := .agg (aN l_0)) (aA rfl) rfl rfl rfl) ?_
 rintro _ ⟨b1, rfl⟩
 refine tr1 rfl (aJ (v := .d (.lit (.int .i64 0))) (aA rfl) rfl rfl) ?_
 refine aF ?_
 refine aG ?_
 refine aG ?_
 refine aE ?_
 refine tr1 rfl (cH (aA rfl) rfl (i := 0) rfl dW (es := (aN l_0)) rfl rfl) ?_
 obtain ⟨r2, h3, h⟩ := bind_some h
 refine tr1 rfl (cC (aA rfl) (.func _ _ Try.call89) rfl rfl (BVs.refl _ _) (aBt _ h3) rfl) ?_
 refine tr1 rfl (eM (aA rfl) rfl) ?_
 refine aF ?_
 refine bJ rfl (fun c4 => ?_) (fun c4 => ?_)
 ·have h := aT c4 h
  refine aG ?_
  refine aE ?_
  refine tr1 rfl (aJ (v := .d (.lit (.int .i64 40))) (aA rfl) rfl rfl) ?_
  refine aF ?_
  have h := Option.some.inj h
  subst h
  refine cR (cE (cM (l := [2]) ⟨rfl, trivial⟩)) ?_
  exact bM ⟨rfl, _, .one _, rfl, rfl⟩
 ·have h := aS c4 h
  refine bG ?_
  refine aG ?_
  refine aG ?_
  refine aE ?_
  refine tr1 rfl (aU (aA rfl) rfl eH) ?_
  refine tr1 rfl (aW (aA rfl) rfl (i := 0) rfl rfl iZ) ?_
  obtain ⟨r5, h6, h⟩ := bind_some h
  refine bW rfl (dX (passed := []) (aA rfl) rfl (.func _ _ Try.call62) rfl rfl (aAi _ h6)) ?_
  rintro _ ⟨_, _, ⟨w7, rfl, rfl⟩, rfl⟩
  refine tr1 rfl (aC (v := .tup [.d (.lit w7), .d (.lit (.bool r5.2))]) (aA rfl) rfl rfl) ?_
  refine tr1 rfl (dA (aA rfl) rfl rfl) ?_
  refine tr1 rfl (dA (aA rfl) rfl rfl) ?_
  refine tr1 rfl (aJ (v := .d (.lit w7)) (aA rfl) rfl rfl) ?_
  refine tr1 rfl (aJ (v := .d (.lit (.bool r5.2))) (aA rfl) rfl rfl) ?_
  refine aF ?_
  refine aG ?_
  refine aE ?_
  refine tr1 rfl (aC (v := .d (.lit (.bool r5.2))) (aA rfl) rfl rfl) ?_
  refine tr1 rfl (eM (aA rfl) rfl) ?_
  refine aF ?_
  refine bJ rfl (fun c8 => ?_) (fun c8 => ?_)
  ·have h := aT c8 h
   refine aG ?_
   refine aE ?_
   refine tr1 rfl (aJ (v := .d (.lit (.int .i64 41))) (aA rfl) rfl rfl) ?_
   refine aF ?_
   have h := Option.some.inj h
   subst h
   refine cR (cE (cM (l := [2]) ⟨rfl, trivial⟩)) ?_
   exact bM ⟨rfl, _, .one _, rfl, rfl⟩
  ·have h := aS c8 h
   refine bG ?_
   refine aG ?_
   refine aE ?_
   refine tr1 rfl (aJ (v := .d (.lit (.int .i64 0))) (aA rfl) rfl rfl) ?_
   refine aF ?_
   have h := Option.some.inj h
   subst h
   refine cR (cE (cM (l := [2]) ⟨rfl, trivial⟩)) ?_
   exact bM ⟨rfl, _, .one _, rfl, rfl⟩

end Go.Am
