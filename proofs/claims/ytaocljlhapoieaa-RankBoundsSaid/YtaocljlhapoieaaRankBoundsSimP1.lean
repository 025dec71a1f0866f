/- The functions compute what the shallow ones say: printed by program. -/
import Derived.Test.YtaocljlhapoieaaRkSh
import Derived.Test.YtaocljlhapoieaaAmRange
import Derived.Test.YtaocljlhapoieaaRkShelf
import Derived.Test.YtaocljlhapoieaaAmSub
import Derived.Test.YtaocljlhapoieaaChecked
import Derived.KernelRfl
namespace Go.Am
open Go.Proofs
set_option maxRecDepth 100000
set_option maxHeartbeats 4000000

theorem mix : Try.prog.follows .mixedOrders = true := Checked.mixed Try.checked

theorem eQ : sQ Try.prog 25 5 := ⟨Try.isAgg25, Try.sizeOf25⟩
theorem qX : fL Try.prog 27 1 1 := eK Try.runUnderlying27 rfl rfl Try.sizeOf3
theorem bG : qO Try.prog 3 := ⟨Try.isAgg3, Try.sizeOf3⟩
theorem eF : SliceTy Try.prog 28 3 1 8 (.int .i64 0) := ⟨Try.underlying28, ⟨Try.t3, by kernel_rfl, rfl, rfl, rfl⟩, rfl, by decide⟩
theorem gZ : fL Try.prog 25 0 0 := eK Try.runUnderlying25 rfl rfl Try.sizeOf3
theorem uL : fL Try.prog 27 0 0 := eK Try.runUnderlying27 rfl rfl Try.sizeOf3
theorem dZ : fL Try.prog 25 2 2 := eK Try.runUnderlying25 rfl rfl Try.sizeOf22
theorem iG : qO Try.prog 22 := ⟨Try.isAgg22, Try.sizeOf22⟩
theorem cA : SliceTy Try.prog 22 42 5 40 (.agg #[.int .i64 0, .int .i64 0, .int .i64 0, .int .i64 0, .bool false]) := ⟨Try.underlying22, ⟨Try.t42, by kernel_rfl, rfl, rfl, rfl⟩, rfl, by decide⟩
theorem mL : fL Try.prog 25 3 3 := eK Try.runUnderlying25 rfl rfl Try.sizeOf23
theorem jM : qO Try.prog 23 := ⟨Try.isAgg23, Try.sizeOf23⟩
theorem eS : SliceTy Try.prog 23 66 3 24 (.agg #[.int .i64 0, .int .i64 0, .int .i64 0]) := ⟨Try.underlying23, ⟨Try.t66, by kernel_rfl, rfl, rfl, rfl⟩, rfl, by decide⟩
theorem kR : fL Try.prog 25 4 4 := eK Try.runUnderlying25 rfl rfl Try.sizeOf23
theorem nP : fL Try.prog 42 2 2 := eK Try.runUnderlying42 rfl rfl Try.sizeOf3
theorem aAc : fL Try.prog 25 1 1 := eK Try.runUnderlying25 rfl rfl Try.sizeOf3
theorem eI : sQ Try.prog 42 5 := ⟨Try.isAgg42, Try.sizeOf42⟩
theorem xP : sQ Try.prog 66 3 := ⟨Try.isAgg66, Try.sizeOf66⟩
theorem kT : fL Try.prog 66 0 0 := eK Try.runUnderlying66 rfl rfl Try.sizeOf3
theorem jS : fL Try.prog 66 1 1 := eK Try.runUnderlying66 rfl rfl Try.sizeOf3
theorem lV : fL Try.prog 66 2 2 := eK Try.runUnderlying66 rfl rfl Try.sizeOf3
theorem kS : fL Try.prog 42 0 0 := eK Try.runUnderlying42 rfl rfl Try.sizeOf3
theorem qY : fL Try.prog 42 1 1 := eK Try.runUnderlying42 rfl rfl Try.sizeOf3
theorem sD : fL Try.prog 42 3 3 := eK Try.runUnderlying42 rfl rfl Try.sizeOf3
theorem aDf : aHi Try.prog 42 aD := by
  rintro ⟨a0, a1, a2, a3, a4⟩ ⟨b0, b1, b2, b3, b4⟩ w
  simp [aD, nI, go_sem, Op.eqFields, Program.fieldsOf] <;> (repeat' split) <;> simp_all
theorem tI : sB Try.prog 42 (.agg #[.int .i64 0, .int .i64 0, .int .i64 0, .int .i64 0, .bool false]) [(0, 1), (1, 1), (2, 1), (3, 1), (4, 1)] := ⟨Try.zeroValue42, _, Try.runUnderlying42, fun w => by simp [Try.sizeOf3, Try.sizeOf4]⟩
theorem aHf : sB Try.prog 66 (.agg #[.int .i64 0, .int .i64 0, .int .i64 0]) [(0, 1), (1, 1), (2, 1)] := ⟨Try.zeroValue66, _, Try.runUnderlying66, fun w => by simp [Try.sizeOf3]⟩
theorem aKf : sB Try.prog 25 (.agg #[.int .i64 0, .int .i64 0, .slice none 0 0, .slice none 0 0, .slice none 0 0]) [(0, 1), (1, 1), (2, 1), (3, 1), (4, 1)] := ⟨Try.zeroValue25, _, Try.runUnderlying25, fun w => by simp [Try.sizeOf22, Try.sizeOf23, Try.sizeOf3]⟩
theorem aKg : sB Try.prog 76 (.agg #[.int .i64 0, .int .i64 0, .slice none 0 0, .slice none 0 0, .slice none 0 0]) [(0, 5)] := ⟨Try.zeroValue76, _, Try.runUnderlying76, fun w => by simp [Try.sizeOf25]⟩
theorem iU : fL Try.prog 76 0 0 := eK Try.runUnderlying76 rfl rfl Try.sizeOf25
theorem aJj : sB Try.prog 114 (.agg #[.int .i64 0, .int .i64 0, .int .i64 0, .int .i64 0]) [(0, 1), (1, 1), (2, 1), (3, 1)] := ⟨Try.zeroValue114, _, Try.runUnderlying114, fun w => by simp [Try.sizeOf3]⟩
theorem qZ : fL Try.prog 42 4 4 := eK Try.runUnderlying42 rfl rfl Try.sizeOf4
theorem sT : qO Try.prog 4 := ⟨Try.isAgg4, Try.sizeOf4⟩
theorem vG : fL Try.prog 114 2 2 := eK Try.runUnderlying114 rfl rfl Try.sizeOf3
theorem tY : sQ Try.prog 114 4 := ⟨Try.isAgg114, Try.sizeOf114⟩
theorem pK : SliceTy Try.prog 112 114 4 32 (.agg #[.int .i64 0, .int .i64 0, .int .i64 0, .int .i64 0]) := ⟨Try.underlying112, ⟨Try.t114, by kernel_rfl, rfl, rfl, rfl⟩, rfl, by decide⟩
theorem xZ : fL Try.prog 114 0 0 := eK Try.runUnderlying114 rfl rfl Try.sizeOf3
theorem aCc : fL Try.prog 114 1 1 := eK Try.runUnderlying114 rfl rfl Try.sizeOf3
theorem aCd : fL Try.prog 114 3 3 := eK Try.runUnderlying114 rfl rfl Try.sizeOf3
theorem wJ : qO Try.prog 70 := ⟨Try.isAgg70, Try.sizeOf70⟩
theorem yV : SliceTy Try.prog 128 28 1 24 (.slice none 0 0) := ⟨Try.underlying128, ⟨Try.t28, by kernel_rfl, rfl, rfl, rfl⟩, rfl, by decide⟩
theorem qK : qO Try.prog 28 := ⟨Try.isAgg28, Try.sizeOf28⟩
theorem aGh : SliceTy Try.prog 47 4 1 1 (.bool false) := ⟨Try.underlying47, ⟨Try.t4, by kernel_rfl, rfl, rfl, rfl⟩, rfl, by decide⟩
theorem sE : fL Try.prog 45 0 0 := eK Try.runUnderlying45 rfl rfl Try.sizeOf28
theorem aDj : fL Try.prog 45 1 1 := eK Try.runUnderlying45 rfl rfl Try.sizeOf28

theorem eC (n_0 : Int) (low_1 : Int) (high_2 : Int) {r : Bool} (h : eG n_0 low_1 high_2 = some r) : Fn Try.prog 58 [.d (.lit (.int .i64 n_0)), .d (.lit (.int .i64 low_1)), .d (.lit (.int .i64 high_2))] (.d (.lit (.bool r))) := by
 unfold eG at h
 refine Fn.of_tr Try.func58 rfl (rs := [.tmp 6]) Try.results58 Try.ntmps58 (Nat.le_of_ble_eq_true rfl) ?_
 refine aG ?_
 refine aE ?_
 refine tr1 rfl (aJ (v := .d (.lit (.bool false))) (aA rfl) rfl rfl) ?_
 refine aF ?_
 refine aG ?_
 refine aE ?_
 refine tr1 rfl (aC (v := .d (.lit (.int .i64 n_0))) (aA rfl) rfl rfl) ?_
 refine tr1 rfl (aC (v := .d (.lit (.int .i64 low_1))) (aA rfl) rfl rfl) ?_
 refine tr1 rfl (bC (aA rfl) rfl rfl rfl) ?_
 refine tr1 rfl (aC (v := .d (.lit (.bool ((decide (low_1 ≤ n_0)))))) (aA rfl) rfl rfl) ?_
 obtain ⟨b1, h2, h⟩ := bind_some h
 refine bQ 4 [] 14 b1 ?_ ?_
 ·refine bD (decide (low_1 ≤ n_0)) (fun c3 => ?_) (fun c3 => ?_)
  ·have h2 := aR c3 h2
   refine aL rfl rfl (aA rfl) rfl c3 (aC (v := .d (.lit (.int .i64 n_0))) (aA rfl) rfl rfl) ?_
   refine aL rfl rfl (aA rfl) rfl c3 (aC (v := .d (.lit (.int .i64 high_2))) (aA rfl) rfl rfl) ?_
   refine aL rfl rfl (aA rfl) rfl c3 (bC (aA rfl) rfl rfl rfl) ?_
   refine tr1 rfl (bJ (v := .d (.lit (.bool ((decide (n_0 ≤ high_2)))))) (aA rfl) rfl c3 rfl rfl) ?_
   have h2 := Option.some.inj h2
   subst h2
   refine aF (aW rfl trivial rfl)
  ·have h2 := aQ c3 h2
   refine aN rfl rfl (aA rfl) rfl (aA rfl) rfl c3 ?_
   refine aN rfl rfl (aA rfl) rfl (aA rfl) rfl c3 ?_
   refine aN rfl rfl (aA rfl) rfl (aA rfl) rfl c3 ?_
   refine tr1 rfl (bI (v := .d (.lit (.bool false))) (aA rfl) rfl c3 rfl rfl) ?_
   have h2 := Option.some.inj h2
   subst h2
   refine aF (aW rfl trivial rfl)
 ·refine tr1 rfl (aJ (v := .d (.lit (.bool b1))) (aA rfl) rfl rfl) ?_
  refine aF ?_
  have h := Option.some.inj h
  subst h
  exact bL ⟨rfl, _, .one _, rfl, rfl⟩

theorem qH (players_0 : Int) (l_1 : List aX) {r : Bool} (h : iP players_0 l_1 = some r) : Fn Try.prog 78 [.d (.lit (.int .i64 players_0)), .d (.sl 3 (l_1.map aI))] (.d (.lit (.bool r))) := by
 unfold iP at h
 refine Fn.of_tr Try.func78 rfl (rs := [.tmp 4]) Try.results78 Try.ntmps78 (Nat.le_of_ble_eq_true rfl) ?_
 refine aG ?_
 refine aE ?_
 refine tr1 rfl (aJ (v := .d (.lit (.bool false))) (aA rfl) rfl rfl) ?_
 refine aF ?_
 refine aG ?_
 refine aG ?_
 refine aE ?_
 refine tr1 rfl (aJ (v := .d (.lit (.int .i64 0))) (aA rfl) rfl rfl) ?_
 refine aF ?_
 refine bT ?_
 refine cM [0, 1] (fun (s1 : Int) => [(5, .d (.lit (.int .i64 s1)))]) (fun (s1 : Int) => []) (fun (k : Nat) (s1 : Int) => fQ players_0 l_1 k s1) (fun _ => rfl) (0) h (aY [] rfl rfl (aO rfl (aZ ⟨rfl, rfl, trivial⟩))) ?_
 rintro k2 i_0_1 h
 simp only [fQ] at h
 refine aG ?_
 refine aG ?_
 refine aE ?_
 refine tr1 rfl (aC (v := .d (.lit (.int .i64 i_0_1))) (aA rfl) rfl rfl) ?_
 refine tr1 rfl (aC (v := .d (.sl 3 (l_1.map aI))) (aA rfl) rfl rfl) ?_
 refine tr1 rfl (dM (aA rfl) rfl eS.of) ?_
 refine tr1 rfl (bC (aA rfl) rfl rfl rfl) ?_
 refine aF ?_
 refine bN rfl (fun c3 => ?_) (fun c3 => ?_)
 ·have h := aR c3 h
  refine bH ?_
  refine aG ?_
  refine bT ?_
  refine aG ?_
  obtain ⟨x4, h5, h⟩ := bind_some h
  obtain ⟨r6, h7, h⟩ := bind_some h
  obtain ⟨b8, h9, h⟩ := bind_some h
  obtain ⟨b13, h14, h⟩ := bind_some h
  obtain ⟨b20, h21, h⟩ := bind_some h
  refine hH mix 38 [0, 1, 5] [(49, .d (.lit (.bool b20)))] ?_ ?_
  ·refine bD (!r6) (fun c10 => ?_) (fun c10 => ?_)
   ·have h9 := aR c10 h9
    have h9 := Option.some.inj h9
    subst h9
    have c15 : true = true := rfl
    have h14 := aR c15 h14
    have h14 := Option.some.inj h14
    subst h14
    have c22 : true = true := rfl
    have h21 := aR c22 h21
    have h21 := Option.some.inj h21
    subst h21
    refine ⟨[(12, 0, .d (.sl 3 (l_1.map aI))), (13, 1, .d (.lit (.int .i64 i_0_1))), (14, 2, .cp [.lit (.int .i64 x4.Player), .lit (.int .i64 x4.From), .lit (.int .i64 x4.To)]), (15, 3, .cp [.lit (.int .i64 x4.Player)]), (16, 4, .d (.lit (.int .i64 x4.Player))), (17, 5, .d (.lit (.int .i64 players_0))), (18, 6, .d (.lit (.int .i64 ((w64 (players_0 - 1)))))), (19, 7, .d (.lit (.bool r6))), (20, 8, .d (.lit (.bool (!r6)))), (21, 9, .d (.lit (.bool (!r6)))), (22, 10, .tup []), (23, 11, .tup []), (24, 12, .tup []), (25, 13, .tup []), (26, 14, .tup []), (27, 15, .tup []), (28, 16, .d (.lit (.bool true))), (29, 17, .d (.lit (.bool (true)))), (30, 18, .tup []), (31, 19, .tup []), (32, 20, .tup []), (33, 21, .tup []), (34, 22, .tup []), (35, 23, .tup []), (36, 24, .tup []), (37, 25, .tup []), (38, 26, .tup []), (39, 27, .tup []), (40, 28, .tup []), (41, 29, .d (.lit (.bool true))), (42, 30, .d (.lit (.bool (true)))), (43, 31, .tup []), (44, 32, .tup []), (45, 33, .tup []), (46, 34, .tup []), (47, 35, .tup []), (48, 36, .tup []), (49, 37, .d (.lit (.bool true)))], ?_, ?_⟩
    · exact ⟨by kernel_rfl, by kernel_rfl, by kernel_rfl, by kernel_rfl, by kernel_rfl, [([], []), ([], []), ([0, 1], []), ([2], []), ([3], []), ([], []), ([5], []), ([4, 6], []), ([7], []), ([8], []), ([9], []), ([9], []), ([9, 10, 11], []), ([9, 12], []), ([9, 13], []), ([9, 14], []), ([9, 15], []), ([16], []), ([17], []), ([17], []), ([17, 18, 19], []), ([17, 20], []), ([17, 21], []), ([17], []), ([17], []), ([17, 23, 24], []), ([17, 25], []), ([17, 26], []), ([17, 22, 27], []), ([17, 28], []), ([29], []), ([30], []), ([30], []), ([30, 31, 32], []), ([30, 33], []), ([30, 34], []), ([30, 35], []), ([30, 36], [])], by kernel_rfl, ⟨fun S hS => aK rfl (aS rfl (aC (v := .d (.sl 3 (l_1.map aI))) (aA rfl) (aH hS rfl) rfl)),
      fun S hS => aK rfl (aS rfl (aC (v := .d (.lit (.int .i64 i_0_1))) (aA rfl) (aH hS rfl) rfl)),
      fun S hS => aK rfl (aS rfl (cD (aA rfl) (aH hS rfl) (aH hS rfl) eS.of (bP aI h5))),
      fun S hS => aK rfl (aS rfl (cQ (aA rfl) (aH hS rfl) kT (es := [.lit (.int .i64 x4.Player)]) rfl)),
      fun S hS => aK rfl (aS rfl (cI (aA rfl) (aH hS rfl) bG)),
      fun S hS => aK rfl (aS rfl (aC (v := .d (.lit (.int .i64 players_0))) (aA rfl) (aH hS rfl) rfl)),
      fun S hS => aK rfl (aS rfl (bA (aA rfl) (aH hS rfl) rfl rfl)),
      fun S hS => aK rfl (aS rfl (bY (aA rfl) (.func _ _ Try.call58) (ev2 (aH hS rfl) (ev2 rfl (ev2 (aH hS rfl) evn))) rfl (BVs.refl _ _) (eC _ _ _ h7) rfl)),
      fun S hS => aK rfl (aS rfl (fD (aA rfl) (aH hS rfl))),
      fun S hS => aK rfl (aS rfl (aC (v := .d (.lit (.bool (!r6)))) (aA rfl) (aH hS rfl) rfl)),
      fun S hS => aK rfl (bF rfl rfl (aA rfl) rfl (aA rfl) (aV hS rfl) c10),
      fun S hS => aK rfl (bF rfl rfl (aA rfl) rfl (aA rfl) (aV hS rfl) c10),
      fun S hS => aK rfl (bF rfl rfl (aA rfl) rfl (aA rfl) (aV hS rfl) c10),
      fun S hS => aK rfl (bF rfl rfl (aA rfl) rfl (aA rfl) (aV hS rfl) c10),
      fun S hS => aK rfl (bF rfl rfl (aA rfl) rfl (aA rfl) (aV hS rfl) c10),
      fun S hS => aK rfl (bF rfl rfl (aA rfl) rfl (aA rfl) (aV hS rfl) c10),
      fun S hS => aK rfl (aS rfl (bJ (v := .d (.lit (.bool true))) (aA rfl) (aH hS rfl) c10 rfl rfl)),
      fun S hS => aK rfl (aS rfl (aC (v := .d (.lit (.bool (true)))) (aA rfl) (aH hS rfl) rfl)),
      fun S hS => aK rfl (bF rfl rfl (aA rfl) rfl (aA rfl) (aV hS rfl) c15),
      fun S hS => aK rfl (bF rfl rfl (aA rfl) rfl (aA rfl) (aV hS rfl) c15),
      fun S hS => aK rfl (bF rfl rfl (aA rfl) rfl (aA rfl) (aV hS rfl) c15),
      fun S hS => aK rfl (bF rfl rfl (aA rfl) rfl (aA rfl) (aV hS rfl) c15),
      fun S hS => aK rfl (bF rfl rfl (aA rfl) rfl (aA rfl) (aV hS rfl) c15),
      fun S hS => aK rfl (bF rfl rfl (aA rfl) rfl (aA rfl) (aV hS rfl) c15),
      fun S hS => aK rfl (bF rfl rfl (aA rfl) rfl (aA rfl) (aV hS rfl) c15),
      fun S hS => aK rfl (bF rfl rfl (aA rfl) rfl (aA rfl) (aV hS rfl) c15),
      fun S hS => aK rfl (bF rfl rfl (aA rfl) rfl (aA rfl) (aV hS rfl) c15),
      fun S hS => aK rfl (bF rfl rfl (aA rfl) rfl (aA rfl) (aV hS rfl) c15),
      fun S hS => aK rfl (bF rfl rfl (aA rfl) rfl (aA rfl) (aV hS rfl) c15),
      fun S hS => aK rfl (aS rfl (bJ (v := .d (.lit (.bool true))) (aA rfl) (aH hS rfl) c15 rfl rfl)),
      fun S hS => aK rfl (aS rfl (aC (v := .d (.lit (.bool (true)))) (aA rfl) (aH hS rfl) rfl)),
      fun S hS => aK rfl (bF rfl rfl (aA rfl) rfl (aA rfl) (aV hS rfl) c22),
      fun S hS => aK rfl (bF rfl rfl (aA rfl) rfl (aA rfl) (aV hS rfl) c22),
      fun S hS => aK rfl (bF rfl rfl (aA rfl) rfl (aA rfl) (aV hS rfl) c22),
      fun S hS => aK rfl (bF rfl rfl (aA rfl) rfl (aA rfl) (aV hS rfl) c22),
      fun S hS => aK rfl (bF rfl rfl (aA rfl) rfl (aA rfl) (aV hS rfl) c22),
      fun S hS => aK rfl (bF rfl rfl (aA rfl) rfl (aA rfl) (aV hS rfl) c22),
      fun S hS => aK rfl (aS rfl (bJ (v := .d (.lit (.bool true))) (aA rfl) (aH hS rfl) c22 rfl rfl)), trivial⟩⟩
    · exact eJ (aO rfl (aZ ⟨rfl, rfl, rfl, trivial⟩))
   ·have h9 := aQ c10 h9
    obtain ⟨x11, h12, h9⟩ := bind_some h9
    have h9 := Option.some.inj h9
    subst h9
    refine bD (decide (x11.From < 0)) (fun c15 => ?_) (fun c15 => ?_)
    ·have h14 := aR c15 h14
     have h14 := Option.some.inj h14
     subst h14
     have c22 : true = true := rfl
     have h21 := aR c22 h21
     have h21 := Option.some.inj h21
     subst h21
     refine ⟨[(12, 0, .d (.sl 3 (l_1.map aI))), (13, 1, .d (.lit (.int .i64 i_0_1))), (14, 2, .cp [.lit (.int .i64 x4.Player), .lit (.int .i64 x4.From), .lit (.int .i64 x4.To)]), (15, 3, .cp [.lit (.int .i64 x4.Player)]), (16, 4, .d (.lit (.int .i64 x4.Player))), (17, 5, .d (.lit (.int .i64 players_0))), (18, 6, .d (.lit (.int .i64 ((w64 (players_0 - 1)))))), (19, 7, .d (.lit (.bool r6))), (20, 8, .d (.lit (.bool (!r6)))), (21, 9, .d (.lit (.bool (!r6)))), (22, 10, .d (.sl 3 (l_1.map aI))), (23, 11, .d (.lit (.int .i64 i_0_1))), (24, 12, .cp [.lit (.int .i64 x11.Player), .lit (.int .i64 x11.From), .lit (.int .i64 x11.To)]), (25, 13, .cp [.lit (.int .i64 x11.From)]), (26, 14, .d (.lit (.int .i64 x11.From))), (27, 15, .d (.lit (.bool ((decide (x11.From < 0)))))), (28, 16, .d (.lit (.bool ((decide (x11.From < 0)))))), (29, 17, .d (.lit (.bool (decide (x11.From < 0))))), (30, 18, .tup []), (31, 19, .tup []), (32, 20, .tup []), (33, 21, .tup []), (34, 22, .tup []), (35, 23, .tup []), (36, 24, .tup []), (37, 25, .tup []), (38, 26, .tup []), (39, 27, .tup []), (40, 28, .tup []), (41, 29, .d (.lit (.bool true))), (42, 30, .d (.lit (.bool (true)))), (43, 31, .tup []), (44, 32, .tup []), (45, 33, .tup []), (46, 34, .tup []), (47, 35, .tup []), (48, 36, .tup []), (49, 37, .d (.lit (.bool true)))], ?_, ?_⟩
     · exact ⟨by kernel_rfl, by kernel_rfl, by kernel_rfl, by kernel_rfl, by kernel_rfl, [([], []), ([], []), ([0, 1], []), ([2], []), ([3], []), ([], []), ([5], []), ([4, 6], []), ([7], []), ([8], []), ([9], []), ([9], []), ([9, 10, 11], []), ([9, 12], []), ([9, 13], []), ([9, 14], []), ([9, 15], []), ([16], []), ([17], []), ([17], []), ([17, 18, 19], []), ([17, 20], []), ([17, 21], []), ([17], []), ([17], []), ([17, 23, 24], []), ([17, 25], []), ([17, 26], []), ([17, 22, 27], []), ([17, 28], []), ([29], []), ([30], []), ([30], []), ([30, 31, 32], []), ([30, 33], []), ([30, 34], []), ([30, 35], []), ([30, 36], [])], by kernel_rfl, ⟨fun S hS => aK rfl (aS rfl (aC (v := .d (.sl 3 (l_1.map aI))) (aA rfl) (aH hS rfl) rfl)),
      fun S hS => aK rfl (aS rfl (aC (v := .d (.lit (.int .i64 i_0_1))) (aA rfl) (aH hS rfl) rfl)),
      fun S hS => aK rfl (aS rfl (cD (aA rfl) (aH hS rfl) (aH hS rfl) eS.of (bP aI h5))),
      fun S hS => aK rfl (aS rfl (cQ (aA rfl) (aH hS rfl) kT (es := [.lit (.int .i64 x4.Player)]) rfl)),
      fun S hS => aK rfl (aS rfl (cI (aA rfl) (aH hS rfl) bG)),
      fun S hS => aK rfl (aS rfl (aC (v := .d (.lit (.int .i64 players_0))) (aA rfl) (aH hS rfl) rfl)),
      fun S hS => aK rfl (aS rfl (bA (aA rfl) (aH hS rfl) rfl rfl)),
      fun S hS => aK rfl (aS rfl (bY (aA rfl) (.func _ _ Try.call58) (ev2 (aH hS rfl) (ev2 rfl (ev2 (aH hS rfl) evn))) rfl (BVs.refl _ _) (eC _ _ _ h7) rfl)),
      fun S hS => aK rfl (aS rfl (fD (aA rfl) (aH hS rfl))),
      fun S hS => aK rfl (aS rfl (aC (v := .d (.lit (.bool (!r6)))) (aA rfl) (aH hS rfl) rfl)),
      fun S hS => aK rfl (bK rfl rfl (aA rfl) (aV hS rfl) c10 (aC (v := .d (.sl 3 (l_1.map aI))) (aA rfl) (aH hS rfl) rfl)),
      fun S hS => aK rfl (bK rfl rfl (aA rfl) (aV hS rfl) c10 (aC (v := .d (.lit (.int .i64 i_0_1))) (aA rfl) (aH hS rfl) rfl)),
      fun S hS => aK rfl (bK rfl rfl (aA rfl) (aV hS rfl) c10 (cD (aA rfl) (aH hS rfl) (aH hS rfl) eS.of (bP aI h12))),
      fun S hS => aK rfl (bK rfl rfl (aA rfl) (aV hS rfl) c10 (cQ (aA rfl) (aH hS rfl) jS (es := [.lit (.int .i64 x11.From)]) rfl)),
      fun S hS => aK rfl (bK rfl rfl (aA rfl) (aV hS rfl) c10 (cI (aA rfl) (aH hS rfl) bG)),
      fun S hS => aK rfl (bK rfl rfl (aA rfl) (aV hS rfl) c10 (bC (aA rfl) (aH hS rfl) rfl rfl)),
      fun S hS => aK rfl (aS rfl (bI (v := .d (.lit (.bool ((decide (x11.From < 0)))))) (aA rfl) (aH hS rfl) c10 (aH hS rfl) rfl)),
      fun S hS => aK rfl (aS rfl (aC (v := .d (.lit (.bool (decide (x11.From < 0))))) (aA rfl) (aH hS rfl) rfl)),
      fun S hS => aK rfl (bF rfl rfl (aA rfl) rfl (aA rfl) (aV hS rfl) c15),
      fun S hS => aK rfl (bF rfl rfl (aA rfl) rfl (aA rfl) (aV hS rfl) c15),
      fun S hS => aK rfl (bF rfl rfl (aA rfl) rfl (aA rfl) (aV hS rfl) c15),
      fun S hS => aK rfl (bF rfl rfl (aA rfl) rfl (aA rfl) (aV hS rfl) c15),
      fun S hS => aK rfl (bF rfl rfl (aA rfl) rfl (aA rfl) (aV hS rfl) c15),
      fun S hS => aK rfl (bF rfl rfl (aA rfl) rfl (aA rfl) (aV hS rfl) c15),
      fun S hS => aK rfl (bF rfl rfl (aA rfl) rfl (aA rfl) (aV hS rfl) c15),
      fun S hS => aK rfl (bF rfl rfl (aA rfl) rfl (aA rfl) (aV hS rfl) c15),
      fun S hS => aK rfl (bF rfl rfl (aA rfl) rfl (aA rfl) (aV hS rfl) c15),
      fun S hS => aK rfl (bF rfl rfl (aA rfl) rfl (aA rfl) (aV hS rfl) c15),
      fun S hS => aK rfl (bF rfl rfl (aA rfl) rfl (aA rfl) (aV hS rfl) c15),
      fun S hS => aK rfl (aS rfl (bJ (v := .d (.lit (.bool true))) (aA rfl) (aH hS rfl) c15 rfl rfl)),
      fun S hS => aK rfl (aS rfl (aC (v := .d (.lit (.bool (true)))) (aA rfl) (aH hS rfl) rfl)),
      fun S hS => aK rfl (bF rfl rfl (aA rfl) rfl (aA rfl) (aV hS rfl) c22),
      fun S hS => aK rfl (bF rfl rfl (aA rfl) rfl (aA rfl) (aV hS rfl) c22),
      fun S hS => aK rfl (bF rfl rfl (aA rfl) rfl (aA rfl) (aV hS rfl) c22),
      fun S hS => aK rfl (bF rfl rfl (aA rfl) rfl (aA rfl) (aV hS rfl) c22),
      fun S hS => aK rfl (bF rfl rfl (aA rfl) rfl (aA rfl) (aV hS rfl) c22),
      fun S hS => aK rfl (bF rfl rfl (aA rfl) rfl (aA rfl) (aV hS rfl) c22),
      fun S hS => aK rfl (aS rfl (bJ (v := .d (.lit (.bool true))) (aA rfl) (aH hS rfl) c22 rfl rfl)), trivial⟩⟩
     · exact eJ (aO rfl (aZ ⟨rfl, rfl, rfl, trivial⟩))
    ·have h14 := aQ c15 h14
     obtain ⟨x16, h17, h14⟩ := bind_some h14
     obtain ⟨x18, h19, h14⟩ := bind_some h14
     have h14 := Option.some.inj h14
     subst h14
     refine bD (decide (x18.To < x16.From)) (fun c22 => ?_) (fun c22 => ?_)
     ·have h21 := aR c22 h21
      have h21 := Option.some.inj h21
      subst h21
      refine ⟨[(12, 0, .d (.sl 3 (l_1.map aI))), (13, 1, .d (.lit (.int .i64 i_0_1))), (14, 2, .cp [.lit (.int .i64 x4.Player), .lit (.int .i64 x4.From), .lit (.int .i64 x4.To)]), (15, 3, .cp [.lit (.int .i64 x4.Player)]), (16, 4, .d (.lit (.int .i64 x4.Player))), (17, 5, .d (.lit (.int .i64 players_0))), (18, 6, .d (.lit (.int .i64 ((w64 (players_0 - 1)))))), (19, 7, .d (.lit (.bool r6))), (20, 8, .d (.lit (.bool (!r6)))), (21, 9, .d (.lit (.bool (!r6)))), (22, 10, .d (.sl 3 (l_1.map aI))), (23, 11, .d (.lit (.int .i64 i_0_1))), (24, 12, .cp [.lit (.int .i64 x11.Player), .lit (.int .i64 x11.From), .lit (.int .i64 x11.To)]), (25, 13, .cp [.lit (.int .i64 x11.From)]), (26, 14, .d (.lit (.int .i64 x11.From))), (27, 15, .d (.lit (.bool ((decide (x11.From < 0)))))), (28, 16, .d (.lit (.bool ((decide (x11.From < 0)))))), (29, 17, .d (.lit (.bool (decide (x11.From < 0))))), (30, 18, .d (.sl 3 (l_1.map aI))), (31, 19, .d (.lit (.int .i64 i_0_1))), (32, 20, .cp [.lit (.int .i64 x16.Player), .lit (.int .i64 x16.From), .lit (.int .i64 x16.To)]), (33, 21, .cp [.lit (.int .i64 x16.From)]), (34, 22, .d (.lit (.int .i64 x16.From))), (35, 23, .d (.sl 3 (l_1.map aI))), (36, 24, .d (.lit (.int .i64 i_0_1))), (37, 25, .cp [.lit (.int .i64 x18.Player), .lit (.int .i64 x18.From), .lit (.int .i64 x18.To)]), (38, 26, .cp [.lit (.int .i64 x18.To)]), (39, 27, .d (.lit (.int .i64 x18.To))), (40, 28, .d (.lit (.bool ((decide (x18.To < x16.From)))))), (41, 29, .d (.lit (.bool ((decide (x18.To < x16.From)))))), (42, 30, .d (.lit (.bool (decide (x18.To < x16.From))))), (43, 31, .tup []), (44, 32, .tup []), (45, 33, .tup []), (46, 34, .tup []), (47, 35, .tup []), (48, 36, .tup []), (49, 37, .d (.lit (.bool true)))], ?_, ?_⟩
      · exact ⟨by kernel_rfl, by kernel_rfl, by kernel_rfl, by kernel_rfl, by kernel_rfl, [([], []), ([], []), ([0, 1], []), ([2], []), ([3], []), ([], []), ([5], []), ([4, 6], []), ([7], []), ([8], []), ([9], []), ([9], []), ([9, 10, 11], []), ([9, 12], []), ([9, 13], []), ([9, 14], []), ([9, 15], []), ([16], []), ([17], []), ([17], []), ([17, 18, 19], []), ([17, 20], []), ([17, 21], []), ([17], []), ([17], []), ([17, 23, 24], []), ([17, 25], []), ([17, 26], []), ([17, 22, 27], []), ([17, 28], []), ([29], []), ([30], []), ([30], []), ([30, 31, 32], []), ([30, 33], []), ([30, 34], []), ([30, 35], []), ([30, 36], [])], by kernel_rfl, ⟨fun S hS => aK rfl (aS rfl (aC (v := .d (.sl 3 (l_1.map aI))) (aA rfl) (aH hS rfl) rfl)),
      fun S hS => aK rfl (aS rfl (aC (v := .d (.lit (.int .i64 i_0_1))) (aA rfl) (aH hS rfl) rfl)),
      fun S hS => aK rfl (aS rfl (cD (aA rfl) (aH hS rfl) (aH hS rfl) eS.of (bP aI h5))),
      fun S hS => aK rfl (aS rfl (cQ (aA rfl) (aH hS rfl) kT (es := [.lit (.int .i64 x4.Player)]) rfl)),
      fun S hS => aK rfl (aS rfl (cI (aA rfl) (aH hS rfl) bG)),
      fun S hS => aK rfl (aS rfl (aC (v := .d (.lit (.int .i64 players_0))) (aA rfl) (aH hS rfl) rfl)),
      fun S hS => aK rfl (aS rfl (bA (aA rfl) (aH hS rfl) rfl rfl)),
      fun S hS => aK rfl (aS rfl (bY (aA rfl) (.func _ _ Try.call58) (ev2 (aH hS rfl) (ev2 rfl (ev2 (aH hS rfl) evn))) rfl (BVs.refl _ _) (eC _ _ _ h7) rfl)),
      fun S hS => aK rfl (aS rfl (fD (aA rfl) (aH hS rfl))),
      fun S hS => aK rfl (aS rfl (aC (v := .d (.lit (.bool (!r6)))) (aA rfl) (aH hS rfl) rfl)),
      fun S hS => aK rfl (bK rfl rfl (aA rfl) (aV hS rfl) c10 (aC (v := .d (.sl 3 (l_1.map aI))) (aA rfl) (aH hS rfl) rfl)),
      fun S hS => aK rfl (bK rfl rfl (aA rfl) (aV hS rfl) c10 (aC (v := .d (.lit (.int .i64 i_0_1))) (aA rfl) (aH hS rfl) rfl)),
      fun S hS => aK rfl (bK rfl rfl (aA rfl) (aV hS rfl) c10 (cD (aA rfl) (aH hS rfl) (aH hS rfl) eS.of (bP aI h12))),
      fun S hS => aK rfl (bK rfl rfl (aA rfl) (aV hS rfl) c10 (cQ (aA rfl) (aH hS rfl) jS (es := [.lit (.int .i64 x11.From)]) rfl)),
      fun S hS => aK rfl (bK rfl rfl (aA rfl) (aV hS rfl) c10 (cI (aA rfl) (aH hS rfl) bG)),
      fun S hS => aK rfl (bK rfl rfl (aA rfl) (aV hS rfl) c10 (bC (aA rfl) (aH hS rfl) rfl rfl)),
      fun S hS => aK rfl (aS rfl (bI (v := .d (.lit (.bool ((decide (x11.From < 0)))))) (aA rfl) (aH hS rfl) c10 (aH hS rfl) rfl)),
      fun S hS => aK rfl (aS rfl (aC (v := .d (.lit (.bool (decide (x11.From < 0))))) (aA rfl) (aH hS rfl) rfl)),
      fun S hS => aK rfl (bK rfl rfl (aA rfl) (aV hS rfl) c15 (aC (v := .d (.sl 3 (l_1.map aI))) (aA rfl) (aH hS rfl) rfl)),
      fun S hS => aK rfl (bK rfl rfl (aA rfl) (aV hS rfl) c15 (aC (v := .d (.lit (.int .i64 i_0_1))) (aA rfl) (aH hS rfl) rfl)),
      fun S hS => aK rfl (bK rfl rfl (aA rfl) (aV hS rfl) c15 (cD (aA rfl) (aH hS rfl) (aH hS rfl) eS.of (bP aI h17))),
      fun S hS => aK rfl (bK rfl rfl (aA rfl) (aV hS rfl) c15 (cQ (aA rfl) (aH hS rfl) jS (es := [.lit (.int .i64 x16.From)]) rfl)),
      fun S hS => aK rfl (bK rfl rfl (aA rfl) (aV hS rfl) c15 (cI (aA rfl) (aH hS rfl) bG)),
      fun S hS => aK rfl (bK rfl rfl (aA rfl) (aV hS rfl) c15 (aC (v := .d (.sl 3 (l_1.map aI))) (aA rfl) (aH hS rfl) rfl)),
      fun S hS => aK rfl (bK rfl rfl (aA rfl) (aV hS rfl) c15 (aC (v := .d (.lit (.int .i64 i_0_1))) (aA rfl) (aH hS rfl) rfl)),
      fun S hS => aK rfl (bK rfl rfl (aA rfl) (aV hS rfl) c15 (cD (aA rfl) (aH hS rfl) (aH hS rfl) eS.of (bP aI h19))),
      fun S hS => aK rfl (bK rfl rfl (aA rfl) (aV hS rfl) c15 (cQ (aA rfl) (aH hS rfl) lV (es := [.lit (.int .i64 x18.To)]) rfl)),
      fun S hS => aK rfl (bK rfl rfl (aA rfl) (aV hS rfl) c15 (cI (aA rfl) (aH hS rfl) bG)),
      fun S hS => aK rfl (bK rfl rfl (aA rfl) (aV hS rfl) c15 (bC (aA rfl) (aH hS rfl) (aH hS rfl) rfl)),
      fun S hS => aK rfl (aS rfl (bI (v := .d (.lit (.bool ((decide (x18.To < x16.From)))))) (aA rfl) (aH hS rfl) c15 (aH hS rfl) rfl)),
      fun S hS => aK rfl (aS rfl (aC (v := .d (.lit (.bool (decide (x18.To < x16.From))))) (aA rfl) (aH hS rfl) rfl)),
      fun S hS => aK rfl (bF rfl rfl (aA rfl) rfl (aA rfl) (aV hS rfl) c22),
      fun S hS => aK rfl (bF rfl rfl (aA rfl) rfl (aA rfl) (aV hS rfl) c22),
      fun S hS => aK rfl (bF rfl rfl (aA rfl) rfl (aA rfl) (aV hS rfl) c22),
      fun S hS => aK rfl (bF rfl rfl (aA rfl) rfl (aA rfl) (aV hS rfl) c22),
      fun S hS => aK rfl (bF rfl rfl (aA rfl) rfl (aA rfl) (aV hS rfl) c22),
      fun S hS => aK rfl (bF rfl rfl (aA rfl) rfl (aA rfl) (aV hS rfl) c22),
      fun S hS => aK rfl (aS rfl (bJ (v := .d (.lit (.bool true))) (aA rfl) (aH hS rfl) c22 rfl rfl)), trivial⟩⟩
      · exact eJ (aO rfl (aZ ⟨rfl, rfl, rfl, trivial⟩))
     ·have h21 := aQ c22 h21
      obtain ⟨x23, h24, h21⟩ := bind_some h21
      have h21 := Option.some.inj h21
      subst h21
      refine ⟨[(12, 0, .d (.sl 3 (l_1.map aI))), (13, 1, .d (.lit (.int .i64 i_0_1))), (14, 2, .cp [.lit (.int .i64 x4.Player), .lit (.int .i64 x4.From), .lit (.int .i64 x4.To)]), (15, 3, .cp [.lit (.int .i64 x4.Player)]), (16, 4, .d (.lit (.int .i64 x4.Player))), (17, 5, .d (.lit (.int .i64 players_0))), (18, 6, .d (.lit (.int .i64 ((w64 (players_0 - 1)))))), (19, 7, .d (.lit (.bool r6))), (20, 8, .d (.lit (.bool (!r6)))), (21, 9, .d (.lit (.bool (!r6)))), (22, 10, .d (.sl 3 (l_1.map aI))), (23, 11, .d (.lit (.int .i64 i_0_1))), (24, 12, .cp [.lit (.int .i64 x11.Player), .lit (.int .i64 x11.From), .lit (.int .i64 x11.To)]), (25, 13, .cp [.lit (.int .i64 x11.From)]), (26, 14, .d (.lit (.int .i64 x11.From))), (27, 15, .d (.lit (.bool ((decide (x11.From < 0)))))), (28, 16, .d (.lit (.bool ((decide (x11.From < 0)))))), (29, 17, .d (.lit (.bool (decide (x11.From < 0))))), (30, 18, .d (.sl 3 (l_1.map aI))), (31, 19, .d (.lit (.int .i64 i_0_1))), (32, 20, .cp [.lit (.int .i64 x16.Player), .lit (.int .i64 x16.From), .lit (.int .i64 x16.To)]), (33, 21, .cp [.lit (.int .i64 x16.From)]), (34, 22, .d (.lit (.int .i64 x16.From))), (35, 23, .d (.sl 3 (l_1.map aI))), (36, 24, .d (.lit (.int .i64 i_0_1))), (37, 25, .cp [.lit (.int .i64 x18.Player), .lit (.int .i64 x18.From), .lit (.int .i64 x18.To)]), (38, 26, .cp [.lit (.int .i64 x18.To)]), (39, 27, .d (.lit (.int .i64 x18.To))), (40, 28, .d (.lit (.bool ((decide (x18.To < x16.From)))))), (41, 29, .d (.lit (.bool ((decide (x18.To < x16.From)))))), (42, 30, .d (.lit (.bool (decide (x18.To < x16.From))))), (43, 31, .d (.sl 3 (l_1.map aI))), (44, 32, .d (.lit (.int .i64 i_0_1))), (45, 33, .cp [.lit (.int .i64 x23.Player), .lit (.int .i64 x23.From), .lit (.int .i64 x23.To)]), (46, 34, .cp [.lit (.int .i64 x23.To)]), (47, 35, .d (.lit (.int .i64 x23.To))), (48, 36, .d (.lit (.bool ((decide (400 < x23.To)))))), (49, 37, .d (.lit (.bool ((decide (400 < x23.To))))))], ?_, ?_⟩
      · exact ⟨by kernel_rfl, by kernel_rfl, by kernel_rfl, by kernel_rfl, by kernel_rfl, [([], []), ([], []), ([0, 1], []), ([2], []), ([3], []), ([], []), ([5], []), ([4, 6], []), ([7], []), ([8], []), ([9], []), ([9], []), ([9, 10, 11], []), ([9, 12], []), ([9, 13], []), ([9, 14], []), ([9, 15], []), ([16], []), ([17], []), ([17], []), ([17, 18, 19], []), ([17, 20], []), ([17, 21], []), ([17], []), ([17], []), ([17, 23, 24], []), ([17, 25], []), ([17, 26], []), ([17, 22, 27], []), ([17, 28], []), ([29], []), ([30], []), ([30], []), ([30, 31, 32], []), ([30, 33], []), ([30, 34], []), ([30, 35], []), ([30, 36], [])], by kernel_rfl, ⟨fun S hS => aK rfl (aS rfl (aC (v := .d (.sl 3 (l_1.map aI))) (aA rfl) (aH hS rfl) rfl)),
      fun S hS => aK rfl (aS rfl (aC (v := .d (.lit (.int .i64 i_0_1))) (aA rfl) (aH hS rfl) rfl)),
      fun S hS => aK rfl (aS rfl (cD (aA rfl) (aH hS rfl) (aH hS rfl) eS.of (bP aI h5))),
      fun S hS => aK rfl (aS rfl (cQ (aA rfl) (aH hS rfl) kT (es := [.lit (.int .i64 x4.Player)]) rfl)),
      fun S hS => aK rfl (aS rfl (cI (aA rfl) (aH hS rfl) bG)),
      fun S hS => aK rfl (aS rfl (aC (v := .d (.lit (.int .i64 players_0))) (aA rfl) (aH hS rfl) rfl)),
      fun S hS => aK rfl (aS rfl (bA (aA rfl) (aH hS rfl) rfl rfl)),
      fun S hS => aK rfl (aS rfl (bY (aA rfl) (.func _ _ Try.call58) (ev2 (aH hS rfl) (ev2 rfl (ev2 (aH hS rfl) evn))) rfl (BVs.refl _ _) (eC _ _ _ h7) rfl)),
      fun S hS => aK rfl (aS rfl (fD (aA rfl) (aH hS rfl))),
      fun S hS => aK rfl (aS rfl (aC (v := .d (.lit (.bool (!r6)))) (aA rfl) (aH hS rfl) rfl)),
      fun S hS => aK rfl (bK rfl rfl (aA rfl) (aV hS rfl) c10 (aC (v := .d (.sl 3 (l_1.map aI))) (aA rfl) (aH hS rfl) rfl)),
      fun S hS => aK rfl (bK rfl rfl (aA rfl) (aV hS rfl) c10 (aC (v := .d (.lit (.int .i64 i_0_1))) (aA rfl) (aH hS rfl) rfl)),
      fun S hS => aK rfl (bK rfl rfl (aA rfl) (aV hS rfl) c10 (cD (aA rfl) (aH hS rfl) (aH hS rfl) eS.of (bP aI h12))),
      fun S hS => aK rfl (bK rfl rfl (aA rfl) (aV hS rfl) c10 (cQ (aA rfl) (aH hS rfl) jS (es := [.lit (.int .i64 x11.From)]) rfl)),
      fun S hS => aK rfl (bK rfl rfl (aA rfl) (aV hS rfl) c10 (cI (aA rfl) (aH hS rfl) bG)),
      fun S hS => aK rfl (bK rfl rfl (aA rfl) (aV hS rfl) c10 (bC (aA rfl) (aH hS rfl) rfl rfl)),
      fun S hS => aK rfl (aS rfl (bI (v := .d (.lit (.bool ((decide (x11.From < 0)))))) (aA rfl) (aH hS rfl) c10 (aH hS rfl) rfl)),
      fun S hS => aK rfl (aS rfl (aC (v := .d (.lit (.bool (decide (x11.From < 0))))) (aA rfl) (aH hS rfl) rfl)),
      fun S hS => aK rfl (bK rfl rfl (aA rfl) (aV hS rfl) c15 (aC (v := .d (.sl 3 (l_1.map aI))) (aA rfl) (aH hS rfl) rfl)),
      fun S hS => aK rfl (bK rfl rfl (aA rfl) (aV hS rfl) c15 (aC (v := .d (.lit (.int .i64 i_0_1))) (aA rfl) (aH hS rfl) rfl)),
      fun S hS => aK rfl (bK rfl rfl (aA rfl) (aV hS rfl) c15 (cD (aA rfl) (aH hS rfl) (aH hS rfl) eS.of (bP aI h17))),
      fun S hS => aK rfl (bK rfl rfl (aA rfl) (aV hS rfl) c15 (cQ (aA rfl) (aH hS rfl) jS (es := [.lit (.int .i64 x16.From)]) rfl)),
      fun S hS => aK rfl (bK rfl rfl (aA rfl) (aV hS rfl) c15 (cI (aA rfl) (aH hS rfl) bG)),
      fun S hS => aK rfl (bK rfl rfl (aA rfl) (aV hS rfl) c15 (aC (v := .d (.sl 3 (l_1.map aI))) (aA rfl) (aH hS rfl) rfl)),
      fun S hS => aK rfl (bK rfl rfl (aA rfl) (aV hS rfl) c15 (aC (v := .d (.lit (.int .i64 i_0_1))) (aA rfl) (aH hS rfl) rfl)),
      fun S hS => aK rfl (bK rfl rfl (aA rfl) (aV hS rfl) c15 (cD (aA rfl) (aH hS rfl) (aH hS rfl) eS.of (bP aI h19))),
      fun S hS => aK rfl (bK rfl rfl (aA rfl) (aV hS rfl) c15 (cQ (aA rfl) (aH hS rfl) lV (es := [.lit (.int .i64 x18.To)]) rfl)),
      fun S hS => aK rfl (bK rfl rfl (aA rfl) (aV hS rfl) c15 (cI (aA rfl) (aH hS rfl) bG)),
      fun S hS => aK rfl (bK rfl rfl (aA rfl) (aV hS rfl) c15 (bC (aA rfl) (aH hS rfl) (aH hS rfl) rfl)),
      fun S hS => aK rfl (aS rfl (bI (v := .d (.lit (.bool ((decide (x18.To < x16.From)))))) (aA rfl) (aH hS rfl) c15 (aH hS rfl) rfl)),
      fun S hS => aK rfl (aS rfl (aC (v := .d (.lit (.bool (decide (x18.To < x16.From))))) (aA rfl) (aH hS rfl) rfl)),
      fun S hS => aK rfl (bK rfl rfl (aA rfl) (aV hS rfl) c22 (aC (v := .d (.sl 3 (l_1.map aI))) (aA rfl) (aH hS rfl) rfl)),
      fun S hS => aK rfl (bK rfl rfl (aA rfl) (aV hS rfl) c22 (aC (v := .d (.lit (.int .i64 i_0_1))) (aA rfl) (aH hS rfl) rfl)),
      fun S hS => aK rfl (bK rfl rfl (aA rfl) (aV hS rfl) c22 (cD (aA rfl) (aH hS rfl) (aH hS rfl) eS.of (bP aI h24))),
      fun S hS => aK rfl (bK rfl rfl (aA rfl) (aV hS rfl) c22 (cQ (aA rfl) (aH hS rfl) lV (es := [.lit (.int .i64 x23.To)]) rfl)),
      fun S hS => aK rfl (bK rfl rfl (aA rfl) (aV hS rfl) c22 (cI (aA rfl) (aH hS rfl) bG)),
      fun S hS => aK rfl (bK rfl rfl (aA rfl) (aV hS rfl) c22 (bC (aA rfl) (aH hS rfl) rfl rfl)),
      fun S hS => aK rfl (aS rfl (bI (v := .d (.lit (.bool ((decide (400 < x23.To)))))) (aA rfl) (aH hS rfl) c22 (aH hS rfl) rfl)), trivial⟩⟩
      · exact eJ (aO rfl (aZ ⟨rfl, rfl, rfl, trivial⟩))
  ·refine aF ?_
   refine bN rfl (fun c25 => ?_) (fun c25 => ?_)
   ·have h := aR c25 h
    refine aG ?_
    refine aE ?_
    refine tr1 rfl (aJ (v := .d (.lit (.bool false))) (aA rfl) rfl rfl) ?_
    refine aF ?_
    have h := Option.some.inj h
    subst h
    exact bL ⟨rfl, _, .one _, rfl, rfl⟩
   ·have h := aQ c25 h
    refine eR ?_
    refine aE ?_
    refine tr1 rfl (aC (v := .d (.lit (.int .i64 i_0_1))) (aA rfl) rfl rfl) ?_
    refine tr1 rfl (bA (aA rfl) rfl rfl rfl) ?_
    refine tr1 rfl (aJ (v := .d (.lit (.int .i64 ((w64 (i_0_1 + 1)))))) (aA rfl) rfl rfl) ?_
    refine aF ?_
    exact ⟨(w64 (i_0_1 + 1)), h, aY [] rfl rfl (aO rfl (aZ ⟨rfl, rfl, trivial⟩))⟩
 ·have h := aQ c3 h
  refine cX ?_
  refine .inl ⟨rfl, ?_⟩
  simp only [mT] at h
  refine aG ?_
  refine aE ?_
  refine tr1 rfl (aC (v := .d (.sl 3 (l_1.map aI))) (aA rfl) rfl rfl) ?_
  refine tr1 rfl (dM (aA rfl) rfl eS.of) ?_
  refine tr1 rfl (bC (aA rfl) rfl rfl rfl) ?_
  refine tr1 rfl (aJ (v := .d (.lit (.bool ((decide ((l_1.length : Int) ≤ 8)))))) (aA rfl) rfl rfl) ?_
  refine aF ?_
  have h := Option.some.inj h
  subst h
  exact bL ⟨rfl, _, .one _, rfl, rfl⟩

theorem wF (players_0 : Int) (r_1 : aB) {r : Bool} (h : kO players_0 r_1 = some r) : Fn Try.prog 79 [.d (.lit (.int .i64 players_0)), .agg (aD r_1)] (.d (.lit (.bool r))) := by
 unfold kO at h
 refine Fn.of_tr Try.func79 rfl (rs := [.tmp 4]) Try.results79 Try.ntmps79 (Nat.le_of_ble_eq_true rfl) ?_
 refine aG ?_
 refine aE ?_
 refine bR rfl (fK (v := .agg (aD r_1)) (aA rfl) rfl rfl rfl) ?_
 rintro _ ⟨b1, rfl⟩
 refine tr1 rfl (aJ (v := .d (.lit (.bool false))) (aA rfl) rfl rfl) ?_
 refine aF ?_
 refine aG ?_
 refine aE ?_
 refine tr1 rfl (aP (aA rfl) rfl kS) ?_
 refine tr1 rfl (aT (aA rfl) rfl (i := 0) rfl rfl bG) ?_
 obtain ⟨r2, h3, h⟩ := bind_some h
 refine tr1 rfl (bY (aA rfl) (.func _ _ Try.call58) rfl rfl (BVs.refl _ _) (eC _ _ _ h3) rfl) ?_
 refine tr1 rfl (aC (v := .d (.lit (.bool r2))) (aA rfl) rfl rfl) ?_
 obtain ⟨b4, h5, h⟩ := bind_some h
 refine bQ 6 [3] 14 b4 ?_ ?_
 ·refine bD (r2) (fun c16 => ?_) (fun c16 => ?_)
  ·have h5 := aR c16 h5
   refine aL rfl rfl (aA rfl) rfl c16 (aP (aA rfl) rfl qY) ?_
   refine aL rfl rfl (aA rfl) rfl c16 (aT (aA rfl) rfl (i := 0) rfl rfl bG) ?_
   refine aL rfl rfl (aA rfl) rfl c16 (aC (v := .d (.lit (.int .i64 players_0))) (aA rfl) rfl rfl) ?_
   refine aL rfl rfl (aA rfl) rfl c16 (bA (aA rfl) rfl rfl rfl) ?_
   obtain ⟨r17, h18, h5⟩ := bind_some h5
   refine aL rfl rfl (aA rfl) rfl c16 (bY (aA rfl) (.func _ _ Try.call58) rfl rfl (BVs.refl _ _) (eC _ _ _ h18) rfl) ?_
   refine tr1 rfl (bJ (v := .d (.lit (.bool r17))) (aA rfl) rfl c16 rfl rfl) ?_
   have h5 := Option.some.inj h5
   subst h5
   refine aF (aW rfl ⟨rfl, trivial⟩ rfl)
  ·have h5 := aQ c16 h5
   refine aN rfl rfl (aA rfl) rfl (aA rfl) rfl c16 ?_
   refine aN rfl rfl (aA rfl) rfl (aA rfl) rfl c16 ?_
   refine aN rfl rfl (aA rfl) rfl (aA rfl) rfl c16 ?_
   refine aN rfl rfl (aA rfl) rfl (aA rfl) rfl c16 ?_
   refine aN rfl rfl (aA rfl) rfl (aA rfl) rfl c16 ?_
   refine tr1 rfl (bI (v := .d (.lit (.bool false))) (aA rfl) rfl c16 rfl rfl) ?_
   have h5 := Option.some.inj h5
   subst h5
   refine aF (aW rfl ⟨rfl, trivial⟩ rfl)
 ·refine tr1 rfl (aC (v := .d (.lit (.bool b4))) (aA rfl) rfl rfl) ?_
  obtain ⟨b6, h7, h⟩ := bind_some h
  refine bQ 4 [3] 19 b6 ?_ ?_
  ·refine bD (b4) (fun c13 => ?_) (fun c13 => ?_)
   ·have h7 := aR c13 h7
    refine aL rfl rfl (aA rfl) rfl c13 (aP (aA rfl) rfl nP) ?_
    refine aL rfl rfl (aA rfl) rfl c13 (aT (aA rfl) rfl (i := 0) rfl rfl bG) ?_
    obtain ⟨r14, h15, h7⟩ := bind_some h7
    refine aL rfl rfl (aA rfl) rfl c13 (bY (aA rfl) (.func _ _ Try.call58) rfl rfl (BVs.refl _ _) (eC _ _ _ h15) rfl) ?_
    refine tr1 rfl (bJ (v := .d (.lit (.bool r14))) (aA rfl) rfl c13 rfl rfl) ?_
    have h7 := Option.some.inj h7
    subst h7
    refine aF (aW rfl ⟨rfl, trivial⟩ rfl)
   ·have h7 := aQ c13 h7
    refine aN rfl rfl (aA rfl) rfl (aA rfl) rfl c13 ?_
    refine aN rfl rfl (aA rfl) rfl (aA rfl) rfl c13 ?_
    refine aN rfl rfl (aA rfl) rfl (aA rfl) rfl c13 ?_
    refine tr1 rfl (bI (v := .d (.lit (.bool false))) (aA rfl) rfl c13 rfl rfl) ?_
    have h7 := Option.some.inj h7
    subst h7
    refine aF (aW rfl ⟨rfl, trivial⟩ rfl)
  ·refine tr1 rfl (aC (v := .d (.lit (.bool b6))) (aA rfl) rfl rfl) ?_
   obtain ⟨b8, h9, h⟩ := bind_some h
   refine bQ 4 [] 24 b8 ?_ ?_
   ·refine bD (b6) (fun c10 => ?_) (fun c10 => ?_)
    ·have h9 := aR c10 h9
     refine aL rfl rfl (aA rfl) rfl c10 (aP (aA rfl) rfl sD) ?_
     refine aL rfl rfl (aA rfl) rfl c10 (aT (aA rfl) rfl (i := 0) rfl rfl bG) ?_
     obtain ⟨r11, h12, h9⟩ := bind_some h9
     refine aL rfl rfl (aA rfl) rfl c10 (bY (aA rfl) (.func _ _ Try.call58) rfl rfl (BVs.refl _ _) (eC _ _ _ h12) rfl) ?_
     refine tr1 rfl (bJ (v := .d (.lit (.bool r11))) (aA rfl) rfl c10 rfl rfl) ?_
     have h9 := Option.some.inj h9
     subst h9
     refine aF (aW rfl trivial rfl)
    ·have h9 := aQ c10 h9
     refine aN rfl rfl (aA rfl) rfl (aA rfl) rfl c10 ?_
     refine aN rfl rfl (aA rfl) rfl (aA rfl) rfl c10 ?_
     refine aN rfl rfl (aA rfl) rfl (aA rfl) rfl c10 ?_
     refine tr1 rfl (bI (v := .d (.lit (.bool false))) (aA rfl) rfl c10 rfl rfl) ?_
     have h9 := Option.some.inj h9
     subst h9
     refine aF (aW rfl trivial rfl)
   ·refine tr1 rfl (aJ (v := .d (.lit (.bool b8))) (aA rfl) rfl rfl) ?_
    refine aF ?_
    have h := Option.some.inj h
    subst h
    refine cR (cG (cL (l := [4]) ⟨rfl, trivial⟩)) ?_
    exact bL ⟨rfl, _, .one _, rfl, rfl⟩

theorem wE (l_0 : aM) {r : Bool} (h : kN l_0 = some r) : Fn Try.prog 41 [.agg (aU l_0)] (.d (.lit (.bool r))) := by
 unfold kN at h
 refine Fn.of_tr Try.func41 rfl (rs := [.tmp 2]) Try.results41 Try.ntmps41 (Nat.le_of_ble_eq_true rfl) ?_
 refine aG ?_
 refine aE ?_
 refine bR rfl (fK (v := .agg (aU l_0)) (aA rfl) rfl rfl rfl) ?_
 rintro _ ⟨b1, rfl⟩
 refine tr1 rfl (aJ (v := .d (.lit (.bool false))) (aA rfl) rfl rfl) ?_
 refine aF ?_
 refine aG ?_
 refine aG ?_
 refine aE ?_
 refine tr1 rfl (aP (aA rfl) rfl gZ) ?_
 refine tr1 rfl (aT (aA rfl) rfl (i := 0) rfl rfl bG) ?_
 obtain ⟨r2, h3, h⟩ := bind_some h
 refine tr1 rfl (bY (aA rfl) (.func _ _ Try.call58) rfl rfl (BVs.refl _ _) (eC _ _ _ h3) rfl) ?_
 refine tr1 rfl (fD (aA rfl) rfl) ?_
 refine tr1 rfl (aC (v := .d (.lit (.bool (!r2)))) (aA rfl) rfl rfl) ?_
 obtain ⟨b4, h5, h⟩ := bind_some h
 refine bQ 5 [1] 17 b4 ?_ ?_
 ·refine bD (!r2) (fun c46 => ?_) (fun c46 => ?_)
  ·have h5 := aR c46 h5
   refine aN rfl rfl (aA rfl) rfl (aA rfl) rfl c46 ?_
   refine aN rfl rfl (aA rfl) rfl (aA rfl) rfl c46 ?_
   refine aN rfl rfl (aA rfl) rfl (aA rfl) rfl c46 ?_
   refine aN rfl rfl (aA rfl) rfl (aA rfl) rfl c46 ?_
   refine tr1 rfl (bJ (v := .d (.lit (.bool true))) (aA rfl) rfl c46 rfl rfl) ?_
   have h5 := Option.some.inj h5
   subst h5
   refine aF (aW rfl ⟨rfl, trivial⟩ rfl)
  ·have h5 := aQ c46 h5
   refine aL rfl rfl (aA rfl) rfl c46 (aP (aA rfl) rfl aAc) ?_
   refine aL rfl rfl (aA rfl) rfl c46 (aT (aA rfl) rfl (i := 0) rfl rfl bG) ?_
   obtain ⟨r47, h48, h5⟩ := bind_some h5
   refine aL rfl rfl (aA rfl) rfl c46 (bY (aA rfl) (.func _ _ Try.call58) rfl rfl (BVs.refl _ _) (eC _ _ _ h48) rfl) ?_
   refine aL rfl rfl (aA rfl) rfl c46 (fD (aA rfl) rfl) ?_
   refine tr1 rfl (bI (v := .d (.lit (.bool (!r47)))) (aA rfl) rfl c46 rfl rfl) ?_
   have h5 := Option.some.inj h5
   subst h5
   refine aF (aW rfl ⟨rfl, trivial⟩ rfl)
 ·refine tr1 rfl (aC (v := .d (.lit (.bool b4))) (aA rfl) rfl rfl) ?_
  obtain ⟨b6, h7, h⟩ := bind_some h
  refine bQ 5 [1] 23 b6 ?_ ?_
  ·refine bD (b4) (fun c45 => ?_) (fun c45 => ?_)
   ·have h7 := aR c45 h7
    refine aN rfl rfl (aA rfl) rfl (aA rfl) rfl c45 ?_
    refine aN rfl rfl (aA rfl) rfl (aA rfl) rfl c45 ?_
    refine aN rfl rfl (aA rfl) rfl (aA rfl) rfl c45 ?_
    refine aN rfl rfl (aA rfl) rfl (aA rfl) rfl c45 ?_
    refine tr1 rfl (bJ (v := .d (.lit (.bool true))) (aA rfl) rfl c45 rfl rfl) ?_
    have h7 := Option.some.inj h7
    subst h7
    refine aF (aW rfl ⟨rfl, trivial⟩ rfl)
   ·have h7 := aQ c45 h7
    refine aL rfl rfl (aA rfl) rfl c45 (aP (aA rfl) rfl dZ) ?_
    refine aL rfl rfl (aA rfl) rfl c45 (aT (aA rfl) rfl (i := 0) rfl rfl iG) ?_
    refine aL rfl rfl (aA rfl) rfl c45 (dM (aA rfl) rfl cA.of) ?_
    refine aL rfl rfl (aA rfl) rfl c45 (bC (aA rfl) rfl rfl rfl) ?_
    refine tr1 rfl (bI (v := .d (.lit (.bool ((decide (40 < (l_0.Reports.length : Int))))))) (aA rfl) rfl c45 rfl rfl) ?_
    have h7 := Option.some.inj h7
    subst h7
    refine aF (aW rfl ⟨rfl, trivial⟩ rfl)
  ·refine tr1 rfl (aC (v := .d (.lit (.bool b6))) (aA rfl) rfl rfl) ?_
   obtain ⟨b8, h9, h⟩ := bind_some h
   refine bQ 7 [1] 31 b8 ?_ ?_
   ·refine bD (b6) (fun c42 => ?_) (fun c42 => ?_)
    ·have h9 := aR c42 h9
     refine aN rfl rfl (aA rfl) rfl (aA rfl) rfl c42 ?_
     refine aN rfl rfl (aA rfl) rfl (aA rfl) rfl c42 ?_
     refine aN rfl rfl (aA rfl) rfl (aA rfl) rfl c42 ?_
     refine aN rfl rfl (aA rfl) rfl (aA rfl) rfl c42 ?_
     refine aN rfl rfl (aA rfl) rfl (aA rfl) rfl c42 ?_
     refine aN rfl rfl (aA rfl) rfl (aA rfl) rfl c42 ?_
     refine tr1 rfl (bJ (v := .d (.lit (.bool true))) (aA rfl) rfl c42 rfl rfl) ?_
     have h9 := Option.some.inj h9
     subst h9
     refine aF (aW rfl ⟨rfl, trivial⟩ rfl)
    ·have h9 := aQ c42 h9
     refine aL rfl rfl (aA rfl) rfl c42 (aP (aA rfl) rfl gZ) ?_
     refine aL rfl rfl (aA rfl) rfl c42 (aT (aA rfl) rfl (i := 0) rfl rfl bG) ?_
     refine aL rfl rfl (aA rfl) rfl c42 (aP (aA rfl) rfl mL) ?_
     refine aL rfl rfl (aA rfl) rfl c42 (aT (aA rfl) rfl (i := 0) rfl rfl jM) ?_
     obtain ⟨r43, h44, h9⟩ := bind_some h9
     refine aL rfl rfl (aA rfl) rfl c42 (bY (aA rfl) (.func _ _ Try.call78) rfl rfl (BVs.refl _ _) (qH _ _ h44) rfl) ?_
     refine aL rfl rfl (aA rfl) rfl c42 (fD (aA rfl) rfl) ?_
     refine tr1 rfl (bI (v := .d (.lit (.bool (!r43)))) (aA rfl) rfl c42 rfl rfl) ?_
     have h9 := Option.some.inj h9
     subst h9
     refine aF (aW rfl ⟨rfl, trivial⟩ rfl)
   ·refine tr1 rfl (aC (v := .d (.lit (.bool b8))) (aA rfl) rfl rfl) ?_
    obtain ⟨b10, h11, h⟩ := bind_some h
    refine bQ 7 [1] 39 b10 ?_ ?_
    ·refine bD (b8) (fun c39 => ?_) (fun c39 => ?_)
     ·have h11 := aR c39 h11
      refine aN rfl rfl (aA rfl) rfl (aA rfl) rfl c39 ?_
      refine aN rfl rfl (aA rfl) rfl (aA rfl) rfl c39 ?_
      refine aN rfl rfl (aA rfl) rfl (aA rfl) rfl c39 ?_
      refine aN rfl rfl (aA rfl) rfl (aA rfl) rfl c39 ?_
      refine aN rfl rfl (aA rfl) rfl (aA rfl) rfl c39 ?_
      refine aN rfl rfl (aA rfl) rfl (aA rfl) rfl c39 ?_
      refine tr1 rfl (bJ (v := .d (.lit (.bool true))) (aA rfl) rfl c39 rfl rfl) ?_
      have h11 := Option.some.inj h11
      subst h11
      refine aF (aW rfl ⟨rfl, trivial⟩ rfl)
     ·have h11 := aQ c39 h11
      refine aL rfl rfl (aA rfl) rfl c39 (aP (aA rfl) rfl gZ) ?_
      refine aL rfl rfl (aA rfl) rfl c39 (aT (aA rfl) rfl (i := 0) rfl rfl bG) ?_
      refine aL rfl rfl (aA rfl) rfl c39 (aP (aA rfl) rfl kR) ?_
      refine aL rfl rfl (aA rfl) rfl c39 (aT (aA rfl) rfl (i := 0) rfl rfl jM) ?_
      obtain ⟨r40, h41, h11⟩ := bind_some h11
      refine aL rfl rfl (aA rfl) rfl c39 (bY (aA rfl) (.func _ _ Try.call78) rfl rfl (BVs.refl _ _) (qH _ _ h41) rfl) ?_
      refine aL rfl rfl (aA rfl) rfl c39 (fD (aA rfl) rfl) ?_
      refine tr1 rfl (bI (v := .d (.lit (.bool (!r40)))) (aA rfl) rfl c39 rfl rfl) ?_
      have h11 := Option.some.inj h11
      subst h11
      refine aF (aW rfl ⟨rfl, trivial⟩ rfl)
    ·refine aF ?_
     refine bN rfl (fun c12 => ?_) (fun c12 => ?_)
     ·have h := aR c12 h
      refine aG ?_
      refine aE ?_
      refine tr1 rfl (aJ (v := .d (.lit (.bool false))) (aA rfl) rfl rfl) ?_
      refine aF ?_
      have h := Option.some.inj h
      subst h
      refine cR (cG (cL (l := [2]) ⟨rfl, trivial⟩)) ?_
      exact bL ⟨rfl, _, .one _, rfl, rfl⟩
     ·have h := aQ c12 h
      refine bH ?_
      refine aG ?_
      refine aG ?_
      refine aE ?_
      refine tr1 rfl (aJ (v := .d (.lit (.int .i64 0))) (aA rfl) rfl rfl) ?_
      refine aF ?_
      refine bT ?_
      refine cM [1] (fun (s13 : Int) => [(3, .d (.lit (.int .i64 s13)))]) (fun (s13 : Int) => [.box b1 0 (aU l_0)]) (fun (k : Nat) (s13 : Int) => fH l_0 k s13) (fun _ => rfl) (0) h (aY [0] rfl rfl (aO rfl (aZ ⟨rfl, trivial⟩))) ?_
      rintro k14 i_0_13 h
      simp only [fH] at h
      refine aG ?_
      refine aG ?_
      refine aE ?_
      refine tr1 rfl (aC (v := .d (.lit (.int .i64 i_0_13))) (aA rfl) rfl rfl) ?_
      refine tr1 rfl (aP (aA rfl) rfl dZ) ?_
      refine tr1 rfl (aT (aA rfl) rfl (i := 0) rfl rfl iG) ?_
      refine tr1 rfl (dM (aA rfl) rfl cA.of) ?_
      refine tr1 rfl (bC (aA rfl) rfl rfl rfl) ?_
      refine aF ?_
      refine bN rfl (fun c15 => ?_) (fun c15 => ?_)
      ·have h := aR c15 h
       refine bH ?_
       refine aG ?_
       refine bT ?_
       refine aG ?_
       obtain ⟨x16, h17, h⟩ := bind_some h
       refine hH mix 7 [1, 3] [(48, .d (.lit (.int .i64 l_0.Players))), (53, .agg (aD x16))] ?_ ?_
       ·refine ⟨[(47, 0, .bp b1 0 0), (48, 1, .d (.lit (.int .i64 l_0.Players))), (49, 2, .bp b1 0 2), (50, 3, .d (.sl 5 (l_0.Reports.map aD))), (51, 4, .d (.lit (.int .i64 i_0_13))), (52, 5, .cp [.lit (.int .i64 x16.Id), .lit (.int .i64 x16.Player), .lit (.int .i64 x16.Week), .lit (.int .i64 x16.Points), .lit (.bool x16.Must)]), (53, 6, .agg (aD x16))], ?_, ?_⟩
        · exact ⟨by kernel_rfl, by kernel_rfl, by kernel_rfl, by kernel_rfl, by kernel_rfl, [([], []), ([0], []), ([], []), ([2], []), ([], []), ([3, 4], []), ([5], [])], by kernel_rfl, ⟨fun S hS => aK rfl (aS rfl (aP (aA rfl) (aH hS rfl) gZ)),
      fun S hS => aK rfl (aS rfl (aT (aA rfl) (aH hS rfl) (i := 0) rfl rfl bG)),
      fun S hS => aK rfl (aS rfl (aP (aA rfl) (aH hS rfl) dZ)),
      fun S hS => aK rfl (aS rfl (aT (aA rfl) (aH hS rfl) (i := 0) rfl rfl iG)),
      fun S hS => aK rfl (aS rfl (aC (v := .d (.lit (.int .i64 i_0_13))) (aA rfl) (aH hS rfl) rfl)),
      fun S hS => aK rfl (aS rfl (cD (aA rfl) (aH hS rfl) (aH hS rfl) cA.of (bP aD h17))),
      fun S hS => aK rfl (aS rfl (iS (aA rfl) (aH hS rfl) eI (es := (aD x16)) rfl rfl)), trivial⟩⟩
        · exact eJ (aO rfl (aO rfl (aZ ⟨rfl, rfl, trivial⟩)))
       ·obtain ⟨r18, h19, h⟩ := bind_some h
        refine tr1 rfl (bY (aA rfl) (.func _ _ Try.call79) rfl rfl (BVs.refl _ _) (wF _ _ h19) rfl) ?_
        refine tr1 rfl (fD (aA rfl) rfl) ?_
        refine aF ?_
        refine bN rfl (fun c20 => ?_) (fun c20 => ?_)
        ·have h := aR c20 h
         refine aG ?_
         refine aE ?_
         refine tr1 rfl (aJ (v := .d (.lit (.bool false))) (aA rfl) rfl rfl) ?_
         refine aF ?_
         have h := Option.some.inj h
         subst h
         refine cR (cG (cL (l := [2]) ⟨rfl, trivial⟩)) ?_
         exact bL ⟨rfl, _, .one _, rfl, rfl⟩
        ·have h := aQ c20 h
         refine eR ?_
         refine aE ?_
         refine tr1 rfl (aC (v := .d (.lit (.int .i64 i_0_13))) (aA rfl) rfl rfl) ?_
         refine tr1 rfl (bA (aA rfl) rfl rfl rfl) ?_
         refine tr1 rfl (aJ (v := .d (.lit (.int .i64 ((w64 (i_0_13 + 1)))))) (aA rfl) rfl rfl) ?_
         refine aF ?_
         exact ⟨(w64 (i_0_13 + 1)), h, aY [0] rfl rfl (aO rfl (aZ ⟨rfl, trivial⟩))⟩
      ·have h := aQ c15 h
       refine cX ?_
       refine .inl ⟨rfl, ?_⟩
       simp only [nJ] at h
       refine aG ?_
       refine aG ?_
       refine aE ?_
       refine tr1 rfl (aJ (v := .d (.lit (.int .i64 0))) (aA rfl) rfl rfl) ?_
       refine aF ?_
       refine bT ?_
       refine cM [1] (fun (s21 : Int) => [(4, .d (.lit (.int .i64 s21)))]) (fun (s21 : Int) => [.box b1 0 (aU l_0)]) (fun (k : Nat) (s21 : Int) => dW l_0 k s21) (fun _ => rfl) (0) h (aY [0] rfl rfl (aO rfl (aZ ⟨rfl, trivial⟩))) ?_
       rintro k22 i_2_21 h
       simp only [dW] at h
       refine aG ?_
       refine aG ?_
       refine aE ?_
       refine tr1 rfl (aC (v := .d (.lit (.int .i64 i_2_21))) (aA rfl) rfl rfl) ?_
       refine tr1 rfl (aP (aA rfl) rfl kR) ?_
       refine tr1 rfl (aT (aA rfl) rfl (i := 0) rfl rfl jM) ?_
       refine tr1 rfl (dM (aA rfl) rfl eS.of) ?_
       refine tr1 rfl (bC (aA rfl) rfl rfl rfl) ?_
       refine aF ?_
       refine bN rfl (fun c23 => ?_) (fun c23 => ?_)
       ·have h := aR c23 h
        refine bH ?_
        refine aG ?_
        refine bT ?_
        refine aG ?_
        refine aE ?_
        refine tr1 rfl (aJ (v := .d (.lit (.int .i64 0))) (aA rfl) rfl rfl) ?_
        refine aF ?_
        refine zE ?_
        refine cM [1, 4] (fun (s24 : Int) => [(5, .d (.lit (.int .i64 s24)))]) (fun (s24 : Int) => [.box b1 0 (aU l_0)]) (fun (k : Nat) (s24 : Int) => gA (dW l_0 k22) i_2_21 l_0 k s24) (fun _ => rfl) (0) h (aY [0] rfl rfl (aO rfl (aZ ⟨rfl, rfl, trivial⟩))) ?_
        rintro k25 k_4_24 h
        simp only [gA] at h
        refine aG ?_
        refine aG ?_
        refine aE ?_
        refine tr1 rfl (aC (v := .d (.lit (.int .i64 k_4_24))) (aA rfl) rfl rfl) ?_
        refine tr1 rfl (aC (v := .d (.lit (.int .i64 i_2_21))) (aA rfl) rfl rfl) ?_
        refine tr1 rfl (bC (aA rfl) rfl rfl rfl) ?_
        refine aF ?_
        refine bN rfl (fun c26 => ?_) (fun c26 => ?_)
        ·have h := aR c26 h
         refine bH ?_
         refine aG ?_
         refine bT ?_
         refine aG ?_
         obtain ⟨x28, h29, h⟩ := bind_some h
         obtain ⟨x30, h31, h⟩ := bind_some h
         refine nG mix 13 [1, 4, 5] (fun X27 => [(6, .bp (X27 10).b 0 0), (7, .bp (X27 11).b 0 0), (77, .agg (aI x30))]) (fun X27 => [.box b1 0 (aU l_0), .box (X27 10).b 0 (aI x28), .box (X27 11).b 0 (aI (aX.mk 0 0 0))]) ?_ ?_
         ·refine ⟨2, fun X27 => [(68, 0, .bp b1 0 4), (69, 1, .d (.sl 3 (l_0.Frozen.map aI))), (70, 2, .d (.lit (.int .i64 i_2_21))), (71, 3, .cp [.lit (.int .i64 x28.Player), .lit (.int .i64 x28.From), .lit (.int .i64 x28.To)]), (72, 4, .agg (aI x28)), (73, 5, .bp b1 0 4), (74, 6, .d (.sl 3 (l_0.Frozen.map aI))), (75, 7, .d (.lit (.int .i64 k_4_24))), (76, 8, .cp [.lit (.int .i64 x30.Player), .lit (.int .i64 x30.From), .lit (.int .i64 x30.To)]), (77, 9, .agg (aI x30)), (6, 10, .bp (X27 10).b 0 0), (7, 11, .bp (X27 11).b 0 0)], fun X27 => [([], .box b1 0 (aU l_0)), ([(12, .box (X27 10).b 0 (aI x28)), (10, .box (X27 10).b 0 (aI (aX.mk 0 0 0)))], nob), ([(11, .box (X27 11).b 0 (aI (aX.mk 0 0 0)))], nob)], ?_, ?_⟩
          · exact ⟨by kernel_rfl, by kernel_rfl, by kernel_rfl, fun _ => by kernel_rfl, fun _ => by kernel_rfl, fun _ => by kernel_rfl, fun _ => rfl, [([], [12]), ([0], [12]), ([], [12]), ([1, 2], [12]), ([3], [12]), ([], []), ([5], []), ([], []), ([6, 7], []), ([8], []), ([], [12]), ([], [12]), ([4, 10, 11], [])], by kernel_rfl, ⟨fun X27 S hw hi hS => bO (X := X27) rfl (hw X27) rfl (aS rfl (aP (aA rfl) (aH hS rfl) kR)),
      fun X27 S hw hi hS => bO (X := X27) rfl (hw X27) rfl (aS rfl (aT (aA rfl) (aH hS rfl) (i := 0) (og hS rfl rfl) rfl jM)),
      fun X27 S hw hi hS => bO (X := X27) rfl (hw X27) rfl (aS rfl (aC (v := .d (.lit (.int .i64 i_2_21))) (aA rfl) (aH hS rfl) rfl)),
      fun X27 S hw hi hS => bO (X := X27) rfl (hw X27) rfl (aS rfl (cD (aA rfl) (aH hS rfl) (aH hS rfl) eS.of (bP aI h29))),
      fun X27 S hw hi hS => bO (X := X27) rfl (hw X27) rfl (aS rfl (iS (aA rfl) (aH hS rfl) xP (es := (aI x28)) rfl rfl)),
      fun X27 S hw hi hS => bO (X := X27) rfl (hw X27) rfl (aS rfl (aP (aA rfl) (aH hS rfl) kR)),
      fun X27 S hw hi hS => bO (X := X27) rfl (hw X27) rfl (aS rfl (aT (aA rfl) (aH hS rfl) (i := 0) (og hS rfl rfl) rfl jM)),
      fun X27 S hw hi hS => bO (X := X27) rfl (hw X27) rfl (aS rfl (aC (v := .d (.lit (.int .i64 k_4_24))) (aA rfl) (aH hS rfl) rfl)),
      fun X27 S hw hi hS => bO (X := X27) rfl (hw X27) rfl (aS rfl (cD (aA rfl) (aH hS rfl) (aH hS rfl) eS.of (bP aI h31))),
      fun X27 S hw hi hS => bO (X := X27) rfl (hw X27) rfl (aS rfl (iS (aA rfl) (aH hS rfl) xP (es := (aI x30)) rfl rfl)),
      fun X27 S hw hi hS => aHh (X := X27) (p := 1) (v := fun x => .bp x.b 0 0) (mo := fun x => .box x.b 0 (aI (aX.mk 0 0 0))) hS hi rfl rfl (fun _ => rfl) hw (fun _ => rfl) (fun _ => rfl) (fun _ => rfl) (fun _ => ⟨rfl, rfl, .inr rfl, ⟨rfl, rfl, .inr rfl, ⟨rfl, rfl, .inr rfl, ⟨rfl, rfl, .inr rfl, ⟨rfl, rfl, .inr rfl, ⟨rfl, rfl, .inr rfl, ⟨rfl, rfl, .inr rfl, ⟨rfl, rfl, .inr rfl, ⟨rfl, rfl, .inr rfl, ⟨rfl, rfl, .inr rfl, ⟨rfl, rfl, .inl rfl, ⟨rfl, rfl, .inr rfl, trivial⟩⟩⟩⟩⟩⟩⟩⟩⟩⟩⟩⟩) (fun _ => ⟨trivial, rfl, ⟨⟨rfl, .inl rfl, ⟨rfl, .inl rfl, trivial⟩⟩, rfl, ⟨⟨rfl, .inr rfl, trivial⟩, rfl, trivial⟩⟩⟩) (aCl (fM (zs := [.lit (.int .i64 0), .lit (.int .i64 0), .lit (.int .i64 0)]) (aA rfl) Try.zeroValue66 rfl rfl) (by rintro _ ⟨w, rfl⟩; exact ⟨⟨w, undef⟩, aY [0, 3, 2] rfl rfl (le_refl _)⟩)),
      fun X27 S hw hi hS => aHh (X := X27) (p := 2) (v := fun x => .bp x.b 0 0) (mo := fun x => .box x.b 0 (aI (aX.mk 0 0 0))) hS hi rfl rfl (fun _ => rfl) hw (fun _ => rfl) (fun _ => rfl) (fun _ => rfl) (fun _ => ⟨rfl, rfl, .inr rfl, ⟨rfl, rfl, .inr rfl, ⟨rfl, rfl, .inr rfl, ⟨rfl, rfl, .inr rfl, ⟨rfl, rfl, .inr rfl, ⟨rfl, rfl, .inr rfl, ⟨rfl, rfl, .inr rfl, ⟨rfl, rfl, .inr rfl, ⟨rfl, rfl, .inr rfl, ⟨rfl, rfl, .inr rfl, ⟨rfl, rfl, .inr rfl, ⟨rfl, rfl, .inl rfl, trivial⟩⟩⟩⟩⟩⟩⟩⟩⟩⟩⟩⟩) (fun _ => ⟨trivial, rfl, ⟨⟨rfl, .inr rfl, ⟨rfl, .inr rfl, trivial⟩⟩, rfl, ⟨⟨rfl, .inl rfl, trivial⟩, rfl, trivial⟩⟩⟩) (aCl (fM (zs := [.lit (.int .i64 0), .lit (.int .i64 0), .lit (.int .i64 0)]) (aA rfl) Try.zeroValue66 rfl rfl) (by rintro _ ⟨w, rfl⟩; exact ⟨⟨w, undef⟩, aY [0, 1, 3] rfl rfl (le_refl _)⟩)),
      fun X27 S hw hi hS => rJ (X := X27) hS rfl rfl rfl (p := 1) rfl rfl (aS rfl (bX (i := 1) (aH hS rfl) (og hS rfl rfl) (aH hS rfl) rfl rfl Try.sizeOf66 rfl (aA rfl) (Nat.le_of_ble_eq_true rfl) (ds' := (aI x28)) rfl)), trivial⟩⟩
          · exact fun X27 => eJ (aO rfl (aO rfl (aO rfl (aZ ⟨rfl, rfl, rfl, trivial⟩))))
         ·intro X27
          refine tr1 rfl (bX (i := 2) rfl rfl rfl rfl rfl Try.sizeOf66 rfl (aA rfl) (Nat.le_of_ble_eq_true rfl) (ds' := (aI x30)) rfl) ?_
          refine aF ?_
          refine aG ?_
          refine aE ?_
          refine tr1 rfl (aP (aA rfl) rfl kT) ?_
          refine tr1 rfl (aT (aA rfl) rfl (i := 1) rfl rfl bG) ?_
          refine tr1 rfl (aP (aA rfl) rfl kT) ?_
          refine tr1 rfl (aT (aA rfl) rfl (i := 2) rfl rfl bG) ?_
          refine tr1 rfl (bC (aA rfl) rfl rfl rfl) ?_
          refine tr1 rfl (aC (v := .d (.lit (.bool ((decide (x28.Player = x30.Player)))))) (aA rfl) rfl rfl) ?_
          obtain ⟨b32, h33, h⟩ := bind_some h
          refine bQ 6 [1, 4, 5, 6, 7] 89 b32 ?_ ?_
          ·refine bD (decide (x28.Player = x30.Player)) (fun c38 => ?_) (fun c38 => ?_)
           ·have h33 := aR c38 h33
            refine aL rfl rfl (aA rfl) rfl c38 (aP (aA rfl) rfl jS) ?_
            refine aL rfl rfl (aA rfl) rfl c38 (aT (aA rfl) rfl (i := 1) rfl rfl bG) ?_
            refine aL rfl rfl (aA rfl) rfl c38 (aP (aA rfl) rfl lV) ?_
            refine aL rfl rfl (aA rfl) rfl c38 (aT (aA rfl) rfl (i := 2) rfl rfl bG) ?_
            refine aL rfl rfl (aA rfl) rfl c38 (bC (aA rfl) rfl rfl rfl) ?_
            refine tr1 rfl (bJ (v := .d (.lit (.bool ((decide (x28.From ≤ x30.To)))))) (aA rfl) rfl c38 rfl rfl) ?_
            have h33 := Option.some.inj h33
            subst h33
            refine aF (aW rfl ⟨rfl, rfl, rfl, rfl, rfl, trivial⟩ rfl)
           ·have h33 := aQ c38 h33
            refine aN rfl rfl (aA rfl) rfl (aA rfl) rfl c38 ?_
            refine aN rfl rfl (aA rfl) rfl (aA rfl) rfl c38 ?_
            refine aN rfl rfl (aA rfl) rfl (aA rfl) rfl c38 ?_
            refine aN rfl rfl (aA rfl) rfl (aA rfl) rfl c38 ?_
            refine aN rfl rfl (aA rfl) rfl (aA rfl) rfl c38 ?_
            refine tr1 rfl (bI (v := .d (.lit (.bool false))) (aA rfl) rfl c38 rfl rfl) ?_
            have h33 := Option.some.inj h33
            subst h33
            refine aF (aW rfl ⟨rfl, rfl, rfl, rfl, rfl, trivial⟩ rfl)
          ·refine tr1 rfl (aC (v := .d (.lit (.bool b32))) (aA rfl) rfl rfl) ?_
           obtain ⟨b34, h35, h⟩ := bind_some h
           refine bQ 6 [1, 4, 5] 96 b34 ?_ ?_
           ·refine bD (b32) (fun c37 => ?_) (fun c37 => ?_)
            ·have h35 := aR c37 h35
             refine aL rfl rfl (aA rfl) rfl c37 (aP (aA rfl) rfl jS) ?_
             refine aL rfl rfl (aA rfl) rfl c37 (aT (aA rfl) rfl (i := 2) rfl rfl bG) ?_
             refine aL rfl rfl (aA rfl) rfl c37 (aP (aA rfl) rfl lV) ?_
             refine aL rfl rfl (aA rfl) rfl c37 (aT (aA rfl) rfl (i := 1) rfl rfl bG) ?_
             refine aL rfl rfl (aA rfl) rfl c37 (bC (aA rfl) rfl rfl rfl) ?_
             refine tr1 rfl (bJ (v := .d (.lit (.bool ((decide (x30.From ≤ x28.To)))))) (aA rfl) rfl c37 rfl rfl) ?_
             have h35 := Option.some.inj h35
             subst h35
             refine aF (aW rfl ⟨rfl, rfl, rfl, trivial⟩ rfl)
            ·have h35 := aQ c37 h35
             refine aN rfl rfl (aA rfl) rfl (aA rfl) rfl c37 ?_
             refine aN rfl rfl (aA rfl) rfl (aA rfl) rfl c37 ?_
             refine aN rfl rfl (aA rfl) rfl (aA rfl) rfl c37 ?_
             refine aN rfl rfl (aA rfl) rfl (aA rfl) rfl c37 ?_
             refine aN rfl rfl (aA rfl) rfl (aA rfl) rfl c37 ?_
             refine tr1 rfl (bI (v := .d (.lit (.bool false))) (aA rfl) rfl c37 rfl rfl) ?_
             have h35 := Option.some.inj h35
             subst h35
             refine aF (aW rfl ⟨rfl, rfl, rfl, trivial⟩ rfl)
           ·refine aF ?_
            refine bN rfl (fun c36 => ?_) (fun c36 => ?_)
            ·have h := aR c36 h
             refine aG ?_
             refine aE ?_
             refine tr1 rfl (aJ (v := .d (.lit (.bool false))) (aA rfl) rfl rfl) ?_
             refine aF ?_
             have h := Option.some.inj h
             subst h
             refine cR (cG (cL (l := [2]) ⟨rfl, trivial⟩)) ?_
             exact bL ⟨rfl, _, .one _, rfl, rfl⟩
            ·have h := aQ c36 h
             refine eR ?_
             refine aE ?_
             refine tr1 rfl (aC (v := .d (.lit (.int .i64 k_4_24))) (aA rfl) rfl rfl) ?_
             refine tr1 rfl (bA (aA rfl) rfl rfl rfl) ?_
             refine tr1 rfl (aJ (v := .d (.lit (.int .i64 ((w64 (k_4_24 + 1)))))) (aA rfl) rfl rfl) ?_
             refine aF ?_
             exact ⟨(w64 (k_4_24 + 1)), h, aY [0] rfl rfl (aO rfl (aZ ⟨rfl, rfl, trivial⟩))⟩
        ·have h := aQ c26 h
         refine cX ?_
         refine .inl ⟨rfl, ?_⟩
         simp only [nM] at h
         simp only [nL] at h
         refine aE ?_
         refine tr1 rfl (aC (v := .d (.lit (.int .i64 i_2_21))) (aA rfl) rfl rfl) ?_
         refine tr1 rfl (bA (aA rfl) rfl rfl rfl) ?_
         refine tr1 rfl (aJ (v := .d (.lit (.int .i64 ((w64 (i_2_21 + 1)))))) (aA rfl) rfl rfl) ?_
         refine aF ?_
         exact ⟨(w64 (i_2_21 + 1)), h, aY [0] rfl rfl (aO rfl (aZ ⟨rfl, trivial⟩))⟩
       ·have h := aQ c23 h
        refine cX ?_
        refine .inl ⟨rfl, ?_⟩
        simp only [nK] at h
        refine aG ?_
        refine aE ?_
        refine tr1 rfl (aJ (v := .d (.lit (.bool true))) (aA rfl) rfl rfl) ?_
        refine aF ?_
        have h := Option.some.inj h
        subst h
        refine cR (cG (cL (l := [2]) ⟨rfl, trivial⟩)) ?_
        exact bL ⟨rfl, _, .one _, rfl, rfl⟩

theorem xW (l_0 : List aB) {r : Bool} (h : mI l_0 = some r) : Fn Try.prog 42 [.d (.sl 5 (l_0.map aD))] (.d (.lit (.bool r))) := by
 unfold mI at h
 refine Fn.of_tr Try.func42 rfl (rs := [.tmp 2]) Try.results42 Try.ntmps42 (Nat.le_of_ble_eq_true rfl) ?_
 refine aG ?_
 refine aE ?_
 refine tr1 rfl (aJ (v := .d (.lit (.bool false))) (aA rfl) rfl rfl) ?_
 refine aF ?_
 refine aG ?_
 refine aG ?_
 refine aE ?_
 refine tr1 rfl (aJ (v := .d (.lit (.int .i64 0))) (aA rfl) rfl rfl) ?_
 refine aF ?_
 refine bT ?_
 refine cM [0] (fun (s1 : Int) => [(3, .d (.lit (.int .i64 s1)))]) (fun (s1 : Int) => []) (fun (k : Nat) (s1 : Int) => eT l_0 k s1) (fun _ => rfl) (0) h (aY [] rfl rfl (aO rfl (aZ ⟨rfl, trivial⟩))) ?_
 rintro k2 i_0_1 h
 simp only [eT] at h
 refine aG ?_
 refine aG ?_
 refine aE ?_
 refine tr1 rfl (aC (v := .d (.lit (.int .i64 i_0_1))) (aA rfl) rfl rfl) ?_
 refine tr1 rfl (aC (v := .d (.sl 5 (l_0.map aD))) (aA rfl) rfl rfl) ?_
 refine tr1 rfl (dM (aA rfl) rfl cA.of) ?_
 refine tr1 rfl (bC (aA rfl) rfl rfl rfl) ?_
 refine aF ?_
 refine bN rfl (fun c3 => ?_) (fun c3 => ?_)
 ·have h := aR c3 h
  refine bH ?_
  refine aG ?_
  refine bT ?_
  refine aG ?_
  refine aE ?_
  refine tr1 rfl (aJ (v := .d (.lit (.int .i64 0))) (aA rfl) rfl rfl) ?_
  refine aF ?_
  refine zE ?_
  refine cM [0, 3] (fun (s4 : Int) => [(4, .d (.lit (.int .i64 s4)))]) (fun (s4 : Int) => []) (fun (k : Nat) (s4 : Int) => gV (eT l_0 k2) l_0 i_0_1 k s4) (fun _ => rfl) (0) h (aY [] rfl rfl (aO rfl (aZ ⟨rfl, rfl, trivial⟩))) ?_
  rintro k5 k_2_4 h
  simp only [gV] at h
  refine aG ?_
  refine aG ?_
  refine aE ?_
  refine tr1 rfl (aC (v := .d (.lit (.int .i64 k_2_4))) (aA rfl) rfl rfl) ?_
  refine tr1 rfl (aC (v := .d (.lit (.int .i64 i_0_1))) (aA rfl) rfl rfl) ?_
  refine tr1 rfl (bC (aA rfl) rfl rfl rfl) ?_
  refine aF ?_
  refine bN rfl (fun c6 => ?_) (fun c6 => ?_)
  ·have h := aR c6 h
   refine bH ?_
   refine aG ?_
   refine bT ?_
   refine aG ?_
   obtain ⟨x7, h8, h⟩ := bind_some h
   obtain ⟨x9, h10, h⟩ := bind_some h
   obtain ⟨b11, h12, h⟩ := bind_some h
   refine hH mix 22 [0, 3, 4] [(37, .d (.lit (.bool b11)))] ?_ ?_
   ·refine bD (decide (x7.Id = x9.Id)) (fun c13 => ?_) (fun c13 => ?_)
    ·have h12 := aR c13 h12
     obtain ⟨x14, h15, h12⟩ := bind_some h12
     obtain ⟨x16, h17, h12⟩ := bind_some h12
     have h12 := Option.some.inj h12
     subst h12
     refine ⟨[(16, 0, .d (.sl 5 (l_0.map aD))), (17, 1, .d (.lit (.int .i64 i_0_1))), (18, 2, .cp [.lit (.int .i64 x7.Id), .lit (.int .i64 x7.Player), .lit (.int .i64 x7.Week), .lit (.int .i64 x7.Points), .lit (.bool x7.Must)]), (19, 3, .cp [.lit (.int .i64 x7.Id)]), (20, 4, .d (.lit (.int .i64 x7.Id))), (21, 5, .d (.sl 5 (l_0.map aD))), (22, 6, .d (.lit (.int .i64 k_2_4))), (23, 7, .cp [.lit (.int .i64 x9.Id), .lit (.int .i64 x9.Player), .lit (.int .i64 x9.Week), .lit (.int .i64 x9.Points), .lit (.bool x9.Must)]), (24, 8, .cp [.lit (.int .i64 x9.Id)]), (25, 9, .d (.lit (.int .i64 x9.Id))), (26, 10, .d (.lit (.bool ((decide (x7.Id = x9.Id)))))), (27, 11, .d (.lit (.bool ((decide (x7.Id = x9.Id)))))), (28, 12, .d (.sl 5 (l_0.map aD))), (29, 13, .d (.lit (.int .i64 i_0_1))), (30, 14, .cp [.lit (.int .i64 x14.Id), .lit (.int .i64 x14.Player), .lit (.int .i64 x14.Week), .lit (.int .i64 x14.Points), .lit (.bool x14.Must)]), (31, 15, .agg (aD x14)), (32, 16, .d (.sl 5 (l_0.map aD))), (33, 17, .d (.lit (.int .i64 k_2_4))), (34, 18, .cp [.lit (.int .i64 x16.Id), .lit (.int .i64 x16.Player), .lit (.int .i64 x16.Week), .lit (.int .i64 x16.Points), .lit (.bool x16.Must)]), (35, 19, .agg (aD x16)), (36, 20, .d (.lit (.bool ((!decide (x14 = x16)))))), (37, 21, .d (.lit (.bool ((!decide (x14 = x16))))))], ?_, ?_⟩
     · exact ⟨by kernel_rfl, by kernel_rfl, by kernel_rfl, by kernel_rfl, by kernel_rfl, [([], []), ([], []), ([0, 1], []), ([2], []), ([3], []), ([], []), ([], []), ([5, 6], []), ([7], []), ([8], []), ([4, 9], []), ([10], []), ([11], []), ([11], []), ([11, 12, 13], []), ([11, 14], []), ([11], []), ([11], []), ([11, 16, 17], []), ([11, 18], []), ([11, 15, 19], []), ([11, 20], [])], by kernel_rfl, ⟨fun S hS => aK rfl (aS rfl (aC (v := .d (.sl 5 (l_0.map aD))) (aA rfl) (aH hS rfl) rfl)),
      fun S hS => aK rfl (aS rfl (aC (v := .d (.lit (.int .i64 i_0_1))) (aA rfl) (aH hS rfl) rfl)),
      fun S hS => aK rfl (aS rfl (cD (aA rfl) (aH hS rfl) (aH hS rfl) cA.of (bP aD h8))),
      fun S hS => aK rfl (aS rfl (cQ (aA rfl) (aH hS rfl) kS (es := [.lit (.int .i64 x7.Id)]) rfl)),
      fun S hS => aK rfl (aS rfl (cI (aA rfl) (aH hS rfl) bG)),
      fun S hS => aK rfl (aS rfl (aC (v := .d (.sl 5 (l_0.map aD))) (aA rfl) (aH hS rfl) rfl)),
      fun S hS => aK rfl (aS rfl (aC (v := .d (.lit (.int .i64 k_2_4))) (aA rfl) (aH hS rfl) rfl)),
      fun S hS => aK rfl (aS rfl (cD (aA rfl) (aH hS rfl) (aH hS rfl) cA.of (bP aD h10))),
      fun S hS => aK rfl (aS rfl (cQ (aA rfl) (aH hS rfl) kS (es := [.lit (.int .i64 x9.Id)]) rfl)),
      fun S hS => aK rfl (aS rfl (cI (aA rfl) (aH hS rfl) bG)),
      fun S hS => aK rfl (aS rfl (bC (aA rfl) (aH hS rfl) (aH hS rfl) rfl)),
      fun S hS => aK rfl (aS rfl (aC (v := .d (.lit (.bool ((decide (x7.Id = x9.Id)))))) (aA rfl) (aH hS rfl) rfl)),
      fun S hS => aK rfl (bK rfl rfl (aA rfl) (aV hS rfl) c13 (aC (v := .d (.sl 5 (l_0.map aD))) (aA rfl) (aH hS rfl) rfl)),
      fun S hS => aK rfl (bK rfl rfl (aA rfl) (aV hS rfl) c13 (aC (v := .d (.lit (.int .i64 i_0_1))) (aA rfl) (aH hS rfl) rfl)),
      fun S hS => aK rfl (bK rfl rfl (aA rfl) (aV hS rfl) c13 (cD (aA rfl) (aH hS rfl) (aH hS rfl) cA.of (bP aD h15))),
      fun S hS => aK rfl (bK rfl rfl (aA rfl) (aV hS rfl) c13 (iS (aA rfl) (aH hS rfl) eI (es := (aD x14)) rfl rfl)),
      fun S hS => aK rfl (bK rfl rfl (aA rfl) (aV hS rfl) c13 (aC (v := .d (.sl 5 (l_0.map aD))) (aA rfl) (aH hS rfl) rfl)),
      fun S hS => aK rfl (bK rfl rfl (aA rfl) (aV hS rfl) c13 (aC (v := .d (.lit (.int .i64 k_2_4))) (aA rfl) (aH hS rfl) rfl)),
      fun S hS => aK rfl (bK rfl rfl (aA rfl) (aV hS rfl) c13 (cD (aA rfl) (aH hS rfl) (aH hS rfl) cA.of (bP aD h17))),
      fun S hS => aK rfl (bK rfl rfl (aA rfl) (aV hS rfl) c13 (iS (aA rfl) (aH hS rfl) eI (es := (aD x16)) rfl rfl)),
      fun S hS => aK rfl (bK rfl rfl (aA rfl) (aV hS rfl) c13 (aIi (a := x14) (b := x16) (aA rfl) (aH hS rfl) (aH hS rfl) rfl rfl Try.eqGuardType42 aDf)),
      fun S hS => aK rfl (aS rfl (bJ (v := .d (.lit (.bool ((!decide (x14 = x16)))))) (aA rfl) (aH hS rfl) c13 (aH hS rfl) rfl)), trivial⟩⟩
     · exact eJ (aO rfl (aZ ⟨rfl, rfl, rfl, trivial⟩))
    ·have h12 := aQ c13 h12
     have h12 := Option.some.inj h12
     subst h12
     refine ⟨[(16, 0, .d (.sl 5 (l_0.map aD))), (17, 1, .d (.lit (.int .i64 i_0_1))), (18, 2, .cp [.lit (.int .i64 x7.Id), .lit (.int .i64 x7.Player), .lit (.int .i64 x7.Week), .lit (.int .i64 x7.Points), .lit (.bool x7.Must)]), (19, 3, .cp [.lit (.int .i64 x7.Id)]), (20, 4, .d (.lit (.int .i64 x7.Id))), (21, 5, .d (.sl 5 (l_0.map aD))), (22, 6, .d (.lit (.int .i64 k_2_4))), (23, 7, .cp [.lit (.int .i64 x9.Id), .lit (.int .i64 x9.Player), .lit (.int .i64 x9.Week), .lit (.int .i64 x9.Points), .lit (.bool x9.Must)]), (24, 8, .cp [.lit (.int .i64 x9.Id)]), (25, 9, .d (.lit (.int .i64 x9.Id))), (26, 10, .d (.lit (.bool ((decide (x7.Id = x9.Id)))))), (27, 11, .d (.lit (.bool ((decide (x7.Id = x9.Id)))))), (28, 12, .tup []), (29, 13, .tup []), (30, 14, .tup []), (31, 15, .tup []), (32, 16, .tup []), (33, 17, .tup []), (34, 18, .tup []), (35, 19, .tup []), (36, 20, .tup []), (37, 21, .d (.lit (.bool false)))], ?_, ?_⟩
     · exact ⟨by kernel_rfl, by kernel_rfl, by kernel_rfl, by kernel_rfl, by kernel_rfl, [([], []), ([], []), ([0, 1], []), ([2], []), ([3], []), ([], []), ([], []), ([5, 6], []), ([7], []), ([8], []), ([4, 9], []), ([10], []), ([11], []), ([11], []), ([11, 12, 13], []), ([11, 14], []), ([11], []), ([11], []), ([11, 16, 17], []), ([11, 18], []), ([11, 15, 19], []), ([11, 20], [])], by kernel_rfl, ⟨fun S hS => aK rfl (aS rfl (aC (v := .d (.sl 5 (l_0.map aD))) (aA rfl) (aH hS rfl) rfl)),
      fun S hS => aK rfl (aS rfl (aC (v := .d (.lit (.int .i64 i_0_1))) (aA rfl) (aH hS rfl) rfl)),
      fun S hS => aK rfl (aS rfl (cD (aA rfl) (aH hS rfl) (aH hS rfl) cA.of (bP aD h8))),
      fun S hS => aK rfl (aS rfl (cQ (aA rfl) (aH hS rfl) kS (es := [.lit (.int .i64 x7.Id)]) rfl)),
      fun S hS => aK rfl (aS rfl (cI (aA rfl) (aH hS rfl) bG)),
      fun S hS => aK rfl (aS rfl (aC (v := .d (.sl 5 (l_0.map aD))) (aA rfl) (aH hS rfl) rfl)),
      fun S hS => aK rfl (aS rfl (aC (v := .d (.lit (.int .i64 k_2_4))) (aA rfl) (aH hS rfl) rfl)),
      fun S hS => aK rfl (aS rfl (cD (aA rfl) (aH hS rfl) (aH hS rfl) cA.of (bP aD h10))),
      fun S hS => aK rfl (aS rfl (cQ (aA rfl) (aH hS rfl) kS (es := [.lit (.int .i64 x9.Id)]) rfl)),
      fun S hS => aK rfl (aS rfl (cI (aA rfl) (aH hS rfl) bG)),
      fun S hS => aK rfl (aS rfl (bC (aA rfl) (aH hS rfl) (aH hS rfl) rfl)),
      fun S hS => aK rfl (aS rfl (aC (v := .d (.lit (.bool ((decide (x7.Id = x9.Id)))))) (aA rfl) (aH hS rfl) rfl)),
      fun S hS => aK rfl (bF rfl rfl (aA rfl) rfl (aA rfl) (aV hS rfl) c13),
      fun S hS => aK rfl (bF rfl rfl (aA rfl) rfl (aA rfl) (aV hS rfl) c13),
      fun S hS => aK rfl (bF rfl rfl (aA rfl) rfl (aA rfl) (aV hS rfl) c13),
      fun S hS => aK rfl (bF rfl rfl (aA rfl) rfl (aA rfl) (aV hS rfl) c13),
      fun S hS => aK rfl (bF rfl rfl (aA rfl) rfl (aA rfl) (aV hS rfl) c13),
      fun S hS => aK rfl (bF rfl rfl (aA rfl) rfl (aA rfl) (aV hS rfl) c13),
      fun S hS => aK rfl (bF rfl rfl (aA rfl) rfl (aA rfl) (aV hS rfl) c13),
      fun S hS => aK rfl (bF rfl rfl (aA rfl) rfl (aA rfl) (aV hS rfl) c13),
      fun S hS => aK rfl (bF rfl rfl (aA rfl) rfl (aA rfl) (aV hS rfl) c13),
      fun S hS => aK rfl (aS rfl (bI (v := .d (.lit (.bool false))) (aA rfl) (aH hS rfl) c13 rfl rfl)), trivial⟩⟩
     · exact eJ (aO rfl (aZ ⟨rfl, rfl, rfl, trivial⟩))
   ·refine aF ?_
    refine bN rfl (fun c18 => ?_) (fun c18 => ?_)
    ·have h := aR c18 h
     refine aG ?_
     refine aE ?_
     refine tr1 rfl (aJ (v := .d (.lit (.bool true))) (aA rfl) rfl rfl) ?_
     refine aF ?_
     have h := Option.some.inj h
     subst h
     exact bL ⟨rfl, _, .one _, rfl, rfl⟩
    ·have h := aQ c18 h
     refine eR ?_
     refine aE ?_
     refine tr1 rfl (aC (v := .d (.lit (.int .i64 k_2_4))) (aA rfl) rfl rfl) ?_
     refine tr1 rfl (bA (aA rfl) rfl rfl rfl) ?_
     refine tr1 rfl (aJ (v := .d (.lit (.int .i64 ((w64 (k_2_4 + 1)))))) (aA rfl) rfl rfl) ?_
     refine aF ?_
     exact ⟨(w64 (k_2_4 + 1)), h, aY [] rfl rfl (aO rfl (aZ ⟨rfl, rfl, trivial⟩))⟩
  ·have h := aQ c6 h
   refine cX ?_
   refine .inl ⟨rfl, ?_⟩
   simp only [oQ] at h
   simp only [oP] at h
   refine aE ?_
   refine tr1 rfl (aC (v := .d (.lit (.int .i64 i_0_1))) (aA rfl) rfl rfl) ?_
   refine tr1 rfl (bA (aA rfl) rfl rfl rfl) ?_
   refine tr1 rfl (aJ (v := .d (.lit (.int .i64 ((w64 (i_0_1 + 1)))))) (aA rfl) rfl rfl) ?_
   refine aF ?_
   exact ⟨(w64 (i_0_1 + 1)), h, aY [] rfl rfl (aO rfl (aZ ⟨rfl, trivial⟩))⟩
 ·have h := aQ c3 h
  refine cX ?_
  refine .inl ⟨rfl, ?_⟩
  simp only [oO] at h
  refine aG ?_
  refine aE ?_
  refine tr1 rfl (aJ (v := .d (.lit (.bool false))) (aA rfl) rfl rfl) ?_
  refine aF ?_
  have h := Option.some.inj h
  subst h
  exact bL ⟨rfl, _, .one _, rfl, rfl⟩

theorem pB (l_0 : aM) {r : Int} (h : jJ l_0 = some r) : Fn Try.prog 15 [.agg (aU l_0)] (.d (.lit (.int .i64 r))) := by
 unfold jJ at h
 refine Fn.of_tr Try.func15 rfl (rs := [.tmp 2]) Try.results15 Try.ntmps15 (Nat.le_of_ble_eq_true rfl) ?_
 refine aG ?_
 refine aE ?_
 refine bR rfl (fK (v := .agg (aU l_0)) (aA rfl) rfl rfl rfl) ?_
 rintro _ ⟨b1, rfl⟩
 refine tr1 rfl (aJ (v := .d (.lit (.int .i64 0))) (aA rfl) rfl rfl) ?_
 refine aF ?_
 refine aG ?_
 refine aG ?_
 refine aE ?_
 refine tr1 rfl (cT (aA rfl) rfl (i := 0) rfl eQ (es := (aU l_0)) rfl rfl) ?_
 obtain ⟨r2, h3, h⟩ := bind_some h
 refine tr1 rfl (bY (aA rfl) (.func _ _ Try.call41) rfl rfl (BVs.refl _ _) (wE _ h3) rfl) ?_
 refine tr1 rfl (fD (aA rfl) rfl) ?_
 refine aF ?_
 refine bN rfl (fun c4 => ?_) (fun c4 => ?_)
 ·have h := aR c4 h
  refine aG ?_
  refine aE ?_
  refine tr1 rfl (aJ (v := .d (.lit (.int .i64 40))) (aA rfl) rfl rfl) ?_
  refine aF ?_
  have h := Option.some.inj h
  subst h
  refine cR (cG (cL (l := [2]) ⟨rfl, trivial⟩)) ?_
  exact bL ⟨rfl, _, .one _, rfl, rfl⟩
 ·have h := aQ c4 h
  refine bH ?_
  refine aG ?_
  refine aG ?_
  refine aE ?_
  refine tr1 rfl (aP (aA rfl) rfl dZ) ?_
  refine tr1 rfl (aT (aA rfl) rfl (i := 0) rfl rfl iG) ?_
  obtain ⟨r5, h6, h⟩ := bind_some h
  refine tr1 rfl (bY (aA rfl) (.func _ _ Try.call42) rfl rfl (BVs.refl _ _) (xW _ h6) rfl) ?_
  refine aF ?_
  refine bN rfl (fun c7 => ?_) (fun c7 => ?_)
  ·have h := aR c7 h
   refine aG ?_
   refine aE ?_
   refine tr1 rfl (aJ (v := .d (.lit (.int .i64 41))) (aA rfl) rfl rfl) ?_
   refine aF ?_
   have h := Option.some.inj h
   subst h
   refine cR (cG (cL (l := [2]) ⟨rfl, trivial⟩)) ?_
   exact bL ⟨rfl, _, .one _, rfl, rfl⟩
  ·have h := aQ c7 h
   refine bH ?_
   refine aG ?_
   refine aE ?_
   refine tr1 rfl (aJ (v := .d (.lit (.int .i64 0))) (aA rfl) rfl rfl) ?_
   refine aF ?_
   have h := Option.some.inj h
   subst h
   refine cR (cG (cL (l := [2]) ⟨rfl, trivial⟩)) ?_
   exact bL ⟨rfl, _, .one _, rfl, rfl⟩

theorem aAa (l_0 : aM) {r : Bool} (h : iO l_0 = some r) : Fn Try.prog 13 [.agg (aU l_0)] (.d (.lit (.bool r))) := by
 unfold iO at h
 refine Fn.of_tr Try.func13 rfl (rs := [.tmp 2]) Try.results13 Try.ntmps13 (Nat.le_of_ble_eq_true rfl) ?_
 refine aG ?_
 refine aE ?_
 refine bR rfl (fK (v := .agg (aU l_0)) (aA rfl) rfl rfl rfl) ?_
 rintro _ ⟨b1, rfl⟩
 refine tr1 rfl (aJ (v := .d (.lit (.bool false))) (aA rfl) rfl rfl) ?_
 refine aF ?_
 refine aG ?_
 refine aG ?_
 refine aE ?_
 refine tr1 rfl (aP (aA rfl) rfl dZ) ?_
 refine tr1 rfl (aT (aA rfl) rfl (i := 0) rfl rfl iG) ?_
 refine tr1 rfl (dM (aA rfl) rfl cA.of) ?_
 refine tr1 rfl (bC (aA rfl) rfl rfl rfl) ?_
 refine tr1 rfl (aC (v := .d (.lit (.bool ((decide (60 < (l_0.Reports.length : Int))))))) (aA rfl) rfl rfl) ?_
 obtain ⟨b2, h3, h⟩ := bind_some h
 refine bQ 5 [1] 13 b2 ?_ ?_
 ·refine bD (decide (60 < (l_0.Reports.length : Int))) (fun c20 => ?_) (fun c20 => ?_)
  ·have h3 := aR c20 h3
   refine aN rfl rfl (aA rfl) rfl (aA rfl) rfl c20 ?_
   refine aN rfl rfl (aA rfl) rfl (aA rfl) rfl c20 ?_
   refine aN rfl rfl (aA rfl) rfl (aA rfl) rfl c20 ?_
   refine aN rfl rfl (aA rfl) rfl (aA rfl) rfl c20 ?_
   refine tr1 rfl (bJ (v := .d (.lit (.bool true))) (aA rfl) rfl c20 rfl rfl) ?_
   have h3 := Option.some.inj h3
   subst h3
   refine aF (aW rfl ⟨rfl, trivial⟩ rfl)
  ·have h3 := aQ c20 h3
   refine aL rfl rfl (aA rfl) rfl c20 (aP (aA rfl) rfl mL) ?_
   refine aL rfl rfl (aA rfl) rfl c20 (aT (aA rfl) rfl (i := 0) rfl rfl jM) ?_
   refine aL rfl rfl (aA rfl) rfl c20 (dM (aA rfl) rfl eS.of) ?_
   refine aL rfl rfl (aA rfl) rfl c20 (bC (aA rfl) rfl rfl rfl) ?_
   refine tr1 rfl (bI (v := .d (.lit (.bool ((decide (20 < (l_0.Bans.length : Int))))))) (aA rfl) rfl c20 rfl rfl) ?_
   have h3 := Option.some.inj h3
   subst h3
   refine aF (aW rfl ⟨rfl, trivial⟩ rfl)
 ·refine tr1 rfl (aC (v := .d (.lit (.bool b2))) (aA rfl) rfl rfl) ?_
  obtain ⟨b4, h5, h⟩ := bind_some h
  refine bQ 5 [1] 19 b4 ?_ ?_
  ·refine bD (b2) (fun c19 => ?_) (fun c19 => ?_)
   ·have h5 := aR c19 h5
    refine aN rfl rfl (aA rfl) rfl (aA rfl) rfl c19 ?_
    refine aN rfl rfl (aA rfl) rfl (aA rfl) rfl c19 ?_
    refine aN rfl rfl (aA rfl) rfl (aA rfl) rfl c19 ?_
    refine aN rfl rfl (aA rfl) rfl (aA rfl) rfl c19 ?_
    refine tr1 rfl (bJ (v := .d (.lit (.bool true))) (aA rfl) rfl c19 rfl rfl) ?_
    have h5 := Option.some.inj h5
    subst h5
    refine aF (aW rfl ⟨rfl, trivial⟩ rfl)
   ·have h5 := aQ c19 h5
    refine aL rfl rfl (aA rfl) rfl c19 (aP (aA rfl) rfl kR) ?_
    refine aL rfl rfl (aA rfl) rfl c19 (aT (aA rfl) rfl (i := 0) rfl rfl jM) ?_
    refine aL rfl rfl (aA rfl) rfl c19 (dM (aA rfl) rfl eS.of) ?_
    refine aL rfl rfl (aA rfl) rfl c19 (bC (aA rfl) rfl rfl rfl) ?_
    refine tr1 rfl (bI (v := .d (.lit (.bool ((decide (20 < (l_0.Frozen.length : Int))))))) (aA rfl) rfl c19 rfl rfl) ?_
    have h5 := Option.some.inj h5
    subst h5
    refine aF (aW rfl ⟨rfl, trivial⟩ rfl)
  ·refine aF ?_
   refine bN rfl (fun c6 => ?_) (fun c6 => ?_)
   ·have h := aR c6 h
    refine aG ?_
    refine aE ?_
    refine tr1 rfl (aJ (v := .d (.lit (.bool true))) (aA rfl) rfl rfl) ?_
    refine aF ?_
    have h := Option.some.inj h
    subst h
    refine cR (cG (cL (l := [2]) ⟨rfl, trivial⟩)) ?_
    exact bL ⟨rfl, _, .one _, rfl, rfl⟩
   ·have h := aQ c6 h
    refine bH ?_
    refine aG ?_
    refine aG ?_
    refine aE ?_
    refine tr1 rfl (cT (aA rfl) rfl (i := 0) rfl eQ (es := (aU l_0)) rfl rfl) ?_
    obtain ⟨r7, h8, h⟩ := bind_some h
    refine tr1 rfl (bY (aA rfl) (.func _ _ Try.call15) rfl rfl (BVs.refl _ _) (pB _ h8) rfl) ?_
    refine tr1 rfl (bC (aA rfl) rfl rfl rfl) ?_
    refine aF ?_
    refine bN rfl (fun c9 => ?_) (fun c9 => ?_)
    ·have h := aR c9 h
     refine aG ?_
     refine aE ?_
     refine tr1 rfl (aJ (v := .d (.lit (.bool false))) (aA rfl) rfl rfl) ?_
     refine aF ?_
     have h := Option.some.inj h
     subst h
     refine cR (cG (cL (l := [2]) ⟨rfl, trivial⟩)) ?_
     exact bL ⟨rfl, _, .one _, rfl, rfl⟩
    ·have h := aQ c9 h
     refine bH ?_
     refine aG ?_
     refine aG ?_
     refine aE ?_
     refine tr1 rfl (aJ (v := .d (.lit (.int .i64 0))) (aA rfl) rfl rfl) ?_
     refine aF ?_
     refine bT ?_
     refine cM [1] (fun (s10 : Int) => [(3, .d (.lit (.int .i64 s10)))]) (fun (s10 : Int) => [.box b1 0 (aU l_0)]) (fun (k : Nat) (s10 : Int) => fN l_0 k s10) (fun _ => rfl) (0) h (aY [0] rfl rfl (aO rfl (aZ ⟨rfl, trivial⟩))) ?_
     rintro k11 i_0_10 h
     simp only [fN] at h
     refine aG ?_
     refine aG ?_
     refine aE ?_
     refine tr1 rfl (aC (v := .d (.lit (.int .i64 i_0_10))) (aA rfl) rfl rfl) ?_
     refine tr1 rfl (aP (aA rfl) rfl dZ) ?_
     refine tr1 rfl (aT (aA rfl) rfl (i := 0) rfl rfl iG) ?_
     refine tr1 rfl (dM (aA rfl) rfl cA.of) ?_
     refine tr1 rfl (bC (aA rfl) rfl rfl rfl) ?_
     refine aF ?_
     refine bN rfl (fun c12 => ?_) (fun c12 => ?_)
     ·have h := aR c12 h
      refine bH ?_
      refine aG ?_
      refine bT ?_
      refine aG ?_
      refine aE ?_
      refine tr1 rfl (aP (aA rfl) rfl dZ) ?_
      refine tr1 rfl (aT (aA rfl) rfl (i := 0) rfl rfl iG) ?_
      refine tr1 rfl (aC (v := .d (.lit (.int .i64 i_0_10))) (aA rfl) rfl rfl) ?_
      obtain ⟨x13, h14, h⟩ := bind_some h
      refine tr1 rfl (cD (aA rfl) rfl rfl cA.of (bP aD h14)) ?_
      refine tr1 rfl (cQ (aA rfl) rfl nP (es := [.lit (.int .i64 x13.Week)]) rfl) ?_
      refine tr1 rfl (cI (aA rfl) rfl bG) ?_
      refine tr1 rfl (bC (aA rfl) rfl rfl rfl) ?_
      refine aF ?_
      refine bN rfl (fun c15 => ?_) (fun c15 => ?_)
      ·have h := aR c15 h
       refine aG ?_
       refine aE ?_
       refine tr1 rfl (aJ (v := .d (.lit (.bool true))) (aA rfl) rfl rfl) ?_
       refine aF ?_
       have h := Option.some.inj h
       subst h
       refine cR (cG (cL (l := [2]) ⟨rfl, trivial⟩)) ?_
       exact bL ⟨rfl, _, .one _, rfl, rfl⟩
      ·have h := aQ c15 h
       refine eR ?_
       refine aE ?_
       refine tr1 rfl (aC (v := .d (.lit (.int .i64 i_0_10))) (aA rfl) rfl rfl) ?_
       refine tr1 rfl (bA (aA rfl) rfl rfl rfl) ?_
       refine tr1 rfl (aJ (v := .d (.lit (.int .i64 ((w64 (i_0_10 + 1)))))) (aA rfl) rfl rfl) ?_
       refine aF ?_
       exact ⟨(w64 (i_0_10 + 1)), h, aY [0] rfl rfl (aO rfl (aZ ⟨rfl, trivial⟩))⟩
     ·have h := aQ c12 h
      refine cX ?_
      refine .inl ⟨rfl, ?_⟩
      simp only [kA] at h
      refine aG ?_
      refine aE ?_
      refine tr1 rfl (aP (aA rfl) rfl gZ) ?_
      refine tr1 rfl (aT (aA rfl) rfl (i := 0) rfl rfl bG) ?_
      refine tr1 rfl (bC (aA rfl) rfl rfl rfl) ?_
      refine tr1 rfl (aC (v := .d (.lit (.bool ((decide (5 < l_0.Players)))))) (aA rfl) rfl rfl) ?_
      obtain ⟨b16, h17, h⟩ := bind_some h
      refine bQ 5 [] 45 b16 ?_ ?_
      ·refine bD (decide (5 < l_0.Players)) (fun c18 => ?_) (fun c18 => ?_)
       ·have h17 := aR c18 h17
        refine aN rfl rfl (aA rfl) rfl (aA rfl) rfl c18 ?_
        refine aN rfl rfl (aA rfl) rfl (aA rfl) rfl c18 ?_
        refine aN rfl rfl (aA rfl) rfl (aA rfl) rfl c18 ?_
        refine aN rfl rfl (aA rfl) rfl (aA rfl) rfl c18 ?_
        refine tr1 rfl (bJ (v := .d (.lit (.bool true))) (aA rfl) rfl c18 rfl rfl) ?_
        have h17 := Option.some.inj h17
        subst h17
        refine aF (aW rfl trivial rfl)
       ·have h17 := aQ c18 h17
        refine aL rfl rfl (aA rfl) rfl c18 (aP (aA rfl) rfl dZ) ?_
        refine aL rfl rfl (aA rfl) rfl c18 (aT (aA rfl) rfl (i := 0) rfl rfl iG) ?_
        refine aL rfl rfl (aA rfl) rfl c18 (dM (aA rfl) rfl cA.of) ?_
        refine aL rfl rfl (aA rfl) rfl c18 (bC (aA rfl) rfl rfl rfl) ?_
        refine tr1 rfl (bI (v := .d (.lit (.bool ((decide (10 < (l_0.Reports.length : Int))))))) (aA rfl) rfl c18 rfl rfl) ?_
        have h17 := Option.some.inj h17
        subst h17
        refine aF (aW rfl trivial rfl)
      ·refine tr1 rfl (aJ (v := .d (.lit (.bool b16))) (aA rfl) rfl rfl) ?_
       refine aF ?_
       have h := Option.some.inj h
       subst h
       refine cR (cG (cL (l := [2]) ⟨rfl, trivial⟩)) ?_
       exact bL ⟨rfl, _, .one _, rfl, rfl⟩

theorem wQ {r : aM} (h : oZ = some r) : Fn Try.prog 43 [] (.agg (aU r)) := by
 unfold oZ at h
 refine qP Try.func43 rfl (rs := [.cell 0 25]) Try.results43 Try.ntmps43 (Nat.le_of_ble_eq_true rfl) ?_
 refine aG ?_
 refine aE ?_
 refine bR rfl (fM (zs := [.lit (.int .i64 0), .lit (.int .i64 0), .sl 5 ((([] : List aB)).map aD), .sl 3 ((([] : List aX)).map aI), .sl 3 ((([] : List aX)).map aI)]) (aA rfl) Try.zeroValue25 rfl rfl) ?_
 rintro _ ⟨b1, rfl⟩
 refine aF ?_
 refine aG ?_
 refine aE ?_
 refine tr1 rfl (mG (aA rfl) tI (zs := [.lit (.int .i64 0), .lit (.int .i64 0), .lit (.int .i64 0), .lit (.int .i64 0), .lit (.bool false)]) rfl rfl rfl rfl (es := [.lit (.int .i64 1), .lit (.int .i64 0), .lit (.int .i64 10), .lit (.int .i64 500), .lit (.bool false)]) rfl) ?_
 refine tr1 rfl (mG (aA rfl) tI (zs := [.lit (.int .i64 0), .lit (.int .i64 0), .lit (.int .i64 0), .lit (.int .i64 0), .lit (.bool false)]) rfl rfl rfl rfl (es := [.lit (.int .i64 2), .lit (.int .i64 0), .lit (.int .i64 20), .lit (.int .i64 300), .lit (.bool false)]) rfl) ?_
 refine tr1 rfl (mG (aA rfl) tI (zs := [.lit (.int .i64 0), .lit (.int .i64 0), .lit (.int .i64 0), .lit (.int .i64 0), .lit (.bool false)]) rfl rfl rfl rfl (es := [.lit (.int .i64 3), .lit (.int .i64 0), .lit (.int .i64 30), .lit (.int .i64 100), .lit (.bool true)]) rfl) ?_
 refine tr1 rfl (mG (aA rfl) tI (zs := [.lit (.int .i64 0), .lit (.int .i64 0), .lit (.int .i64 0), .lit (.int .i64 0), .lit (.bool false)]) rfl rfl rfl rfl (es := [.lit (.int .i64 4), .lit (.int .i64 1), .lit (.int .i64 12), .lit (.int .i64 400), .lit (.bool false)]) rfl) ?_
 refine tr1 rfl (mG (aA rfl) tI (zs := [.lit (.int .i64 0), .lit (.int .i64 0), .lit (.int .i64 0), .lit (.int .i64 0), .lit (.bool false)]) rfl rfl rfl rfl (es := [.lit (.int .i64 5), .lit (.int .i64 1), .lit (.int .i64 40), .lit (.int .i64 200), .lit (.bool false)]) rfl) ?_
 refine tr1 rfl (mG (aA rfl) tI (zs := [.lit (.int .i64 0), .lit (.int .i64 0), .lit (.int .i64 0), .lit (.int .i64 0), .lit (.bool false)]) rfl rfl rfl rfl (es := [.lit (.int .i64 6), .lit (.int .i64 2), .lit (.int .i64 15), .lit (.int .i64 600), .lit (.bool false)]) rfl) ?_
 refine tr1 rfl (jU (aA rfl) cA rfl rfl (rows := ([(aB.mk 1 0 10 500 false), (aB.mk 2 0 20 300 false), (aB.mk 3 0 30 100 true), (aB.mk 4 1 12 400 false), (aB.mk 5 1 40 200 false), (aB.mk 6 2 15 600 false)]).map aD) rfl (dE (f := aD) fun _ => rfl) rfl (by decide)) ?_
 refine tr1 rfl (mG (aA rfl) aHf (zs := [.lit (.int .i64 0), .lit (.int .i64 0), .lit (.int .i64 0)]) rfl rfl rfl rfl (es := [.lit (.int .i64 1), .lit (.int .i64 50), .lit (.int .i64 55)]) rfl) ?_
 refine tr1 rfl (jU (aA rfl) eS rfl rfl (rows := ([(aX.mk 1 50 55)]).map aI) rfl (dE (f := aI) fun _ => rfl) rfl (by decide)) ?_
 refine tr1 rfl (mG (aA rfl) aHf (zs := [.lit (.int .i64 0), .lit (.int .i64 0), .lit (.int .i64 0)]) rfl rfl rfl rfl (es := [.lit (.int .i64 2), .lit (.int .i64 20), .lit (.int .i64 29)]) rfl) ?_
 refine tr1 rfl (jU (aA rfl) eS rfl rfl (rows := ([(aX.mk 2 20 29)]).map aI) rfl (dE (f := aI) fun _ => rfl) rfl (by decide)) ?_
 refine tr1 rfl (mG (aA rfl) aKf (zs := [.lit (.int .i64 0), .lit (.int .i64 0), .sl 5 ((([] : List aB)).map aD), .sl 3 ((([] : List aX)).map aI), .sl 3 ((([] : List aX)).map aI)]) rfl rfl rfl rfl (es := [.lit (.int .i64 3), .lit (.int .i64 2), .sl 5 ((([(aB.mk 1 0 10 500 false), (aB.mk 2 0 20 300 false), (aB.mk 3 0 30 100 true), (aB.mk 4 1 12 400 false), (aB.mk 5 1 40 200 false), (aB.mk 6 2 15 600 false)])).map aD), .sl 3 ((([(aX.mk 1 50 55)])).map aI), .sl 3 ((([(aX.mk 2 20 29)])).map aI)]) rfl) ?_
 refine tr1 rfl (bX (i := 0) rfl rfl rfl rfl rfl Try.sizeOf25 rfl (aA rfl) (Nat.le_of_ble_eq_true rfl) (ds' := (aU (aM.mk 3 2 ([(aB.mk 1 0 10 500 false), (aB.mk 2 0 20 300 false), (aB.mk 3 0 30 100 true), (aB.mk 4 1 12 400 false), (aB.mk 5 1 40 200 false), (aB.mk 6 2 15 600 false)]) ([(aX.mk 1 50 55)]) ([(aX.mk 2 20 29)])))) rfl) ?_
 refine aF ?_
 have h := Option.some.inj h
 subst h
 exact bL ⟨rfl, _, [.box b1 0 (aU (aM.mk 3 2 ([(aB.mk 1 0 10 500 false), (aB.mk 2 0 20 300 false), (aB.mk 3 0 30 100 true), (aB.mk 4 1 12 400 false), (aB.mk 5 1 40 200 false), (aB.mk 6 2 15 600 false)]) ([(aX.mk 1 50 55)]) ([(aX.mk 2 20 29)])))], .one (.cell 0 25 rfl (i := 0) rfl eQ (es := (aU (aM.mk 3 2 ([(aB.mk 1 0 10 500 false), (aB.mk 2 0 20 300 false), (aB.mk 3 0 30 100 true), (aB.mk 4 1 12 400 false), (aB.mk 5 1 40 200 false), (aB.mk 6 2 15 600 false)]) ([(aX.mk 1 50 55)]) ([(aX.mk 2 20 29)])))) rfl rfl), .refl _, .same _⟩

theorem eW (n_0 : Int) (low_1 : Int) (high_2 : Int) {r : Bool} (h : eN n_0 low_1 high_2 = some r) : Fn Try.prog 47 [.d (.lit (.int .i64 n_0)), .d (.lit (.int .i64 low_1)), .d (.lit (.int .i64 high_2))] (.d (.lit (.bool r))) := by
 unfold eN at h
 refine Fn.of_tr Try.func47 rfl (rs := [.tmp 6]) Try.results47 Try.ntmps47 (Nat.le_of_ble_eq_true rfl) ?_
 refine aG ?_
 refine aE ?_
 refine tr1 rfl (aJ (v := .d (.lit (.bool false))) (aA rfl) rfl rfl) ?_
 refine aF ?_
 refine aG ?_
 refine aE ?_
 refine tr1 rfl (aC (v := .d (.lit (.int .i64 low_1))) (aA rfl) rfl rfl) ?_
 refine tr1 rfl (aC (v := .d (.lit (.int .i64 n_0))) (aA rfl) rfl rfl) ?_
 refine tr1 rfl (bC (aA rfl) rfl rfl rfl) ?_
 refine tr1 rfl (aC (v := .d (.lit (.bool ((decide (low_1 ≤ n_0)))))) (aA rfl) rfl rfl) ?_
 obtain ⟨b1, h2, h⟩ := bind_some h
 refine bQ 4 [] 14 b1 ?_ ?_
 ·refine bD (decide (low_1 ≤ n_0)) (fun c3 => ?_) (fun c3 => ?_)
  ·have h2 := aR c3 h2
   refine aL rfl rfl (aA rfl) rfl c3 (aC (v := .d (.lit (.int .i64 n_0))) (aA rfl) rfl rfl) ?_
   refine aL rfl rfl (aA rfl) rfl c3 (aC (v := .d (.lit (.int .i64 high_2))) (aA rfl) rfl rfl) ?_
   refine aL rfl rfl (aA rfl) rfl c3 (bC (aA rfl) rfl rfl rfl) ?_
   refine tr1 rfl (bJ (v := .d (.lit (.bool ((decide (n_0 ≤ high_2)))))) (aA rfl) rfl c3 rfl rfl) ?_
   have h2 := Option.some.inj h2
   subst h2
   refine aF (aW rfl trivial rfl)
  ·have h2 := aQ c3 h2
   refine aN rfl rfl (aA rfl) rfl (aA rfl) rfl c3 ?_
   refine aN rfl rfl (aA rfl) rfl (aA rfl) rfl c3 ?_
   refine aN rfl rfl (aA rfl) rfl (aA rfl) rfl c3 ?_
   refine tr1 rfl (bI (v := .d (.lit (.bool false))) (aA rfl) rfl c3 rfl rfl) ?_
   have h2 := Option.some.inj h2
   subst h2
   refine aF (aW rfl trivial rfl)
 ·refine tr1 rfl (aJ (v := .d (.lit (.bool b1))) (aA rfl) rfl rfl) ?_
  refine aF ?_
  have h := Option.some.inj h
  subst h
  exact bL ⟨rfl, _, .one _, rfl, rfl⟩

theorem rW (s_0 : List aX) (f_1 : aX → Option Bool) {r : Int} (f_1_f : Nat) (f_1_v : List AV) (f_1_e : ∀ args w, (callFunc f_1_f args).run Try.prog w = .ok (.enter f_1_f args) w) (f_1_h : ∀ (x0 : aX) r, f_1 x0 = some r → Fn Try.prog f_1_f ([.agg (aI x0)] ++ f_1_v) (.d (.lit (.bool r)))) (h : gH s_0 f_1 = some r) : Fn Try.prog 97 [.d (.sl 3 (s_0.map aI)), .fn f_1_f f_1_v] (.d (.lit (.int .i64 r))) := by
 unfold gH at h
 refine Fn.of_tr Try.func97 rfl (rs := [.tmp 4]) Try.results97 Try.ntmps97 (Nat.le_of_ble_eq_true rfl) ?_
 refine aG ?_
 refine aE ?_
 refine tr1 rfl (aJ (v := .d (.lit (.int .i64 0))) (aA rfl) rfl rfl) ?_
 refine aF ?_
 refine aG ?_
 refine aG ?_
 refine aE ?_
 refine tr1 rfl (aC (v := .d (.sl 3 (s_0.map aI))) (aA rfl) rfl rfl) ?_
 refine tr1 rfl (dM (aA rfl) rfl eS.of) ?_
 refine tr1 rfl (aC (v := .d (.lit (.int .i64 0))) (aA rfl) rfl rfl) ?_
 refine aF ?_
 refine bT ?_
 refine cM [0, 1, 7] (fun (s1 : Int) => [(8, .d (.lit (.int .i64 s1)))]) (fun (s1 : Int) => []) (fun (k : Nat) (s1 : Int) => eB s_0 f_1 (s_0.length : Int) k s1) (fun _ => rfl) (0) h (aY [] rfl rfl (aO rfl (aZ ⟨rfl, rfl, rfl, trivial⟩))) ?_
 rintro k2 t8_0_1 h
 simp only [eB] at h
 refine aG ?_
 refine aE ?_
 refine tr1 rfl (bC (aA rfl) rfl rfl rfl) ?_
 refine aF ?_
 refine aG ?_
 refine bN rfl (fun c3 => ?_) (fun c3 => ?_)
 ·have h := aR c3 h
  refine bH ?_
  refine aG ?_
  refine bT ?_
  refine aG ?_
  refine aE ?_
  refine tr1 rfl (aC (v := .d (.lit (.int .i64 t8_0_1))) (aA rfl) rfl rfl) ?_
  refine tr1 rfl (aJ (v := .d (.lit (.int .i64 t8_0_1))) (aA rfl) rfl rfl) ?_
  refine aF ?_
  refine aG ?_
  refine aE ?_
  refine tr1 rfl (aC (v := .fn f_1_f f_1_v) (aA rfl) rfl rfl) ?_
  refine tr1 rfl (aC (v := .d (.sl 3 (s_0.map aI))) (aA rfl) rfl rfl) ?_
  refine tr1 rfl (aC (v := .d (.lit (.int .i64 t8_0_1))) (aA rfl) rfl rfl) ?_
  obtain ⟨x4, h5, h⟩ := bind_some h
  refine tr1 rfl (cD (aA rfl) rfl rfl eS.of (bP aI h5)) ?_
  refine tr1 rfl (iS (aA rfl) rfl xP (es := (aI x4)) rfl rfl) ?_
  obtain ⟨r6, h7, h⟩ := bind_some h
  refine tr1 rfl (bY (aA rfl) (.clo _ _ _ _ f_1_e rfl) (uI rfl) rfl (BVs.refl _ _) (f_1_h _ _  h7) rfl) ?_
  refine aF ?_
  refine bN rfl (fun c8 => ?_) (fun c8 => ?_)
  ·have h := aR c8 h
   refine aG ?_
   refine aE ?_
   refine tr1 rfl (aC (v := .d (.lit (.int .i64 t8_0_1))) (aA rfl) rfl rfl) ?_
   refine tr1 rfl (aJ (v := .d (.lit (.int .i64 t8_0_1))) (aA rfl) rfl rfl) ?_
   refine aF ?_
   have h := Option.some.inj h
   subst h
   exact bL ⟨rfl, _, .one _, rfl, rfl⟩
  ·have h := aQ c8 h
   refine eR ?_
   refine aE ?_
   refine tr1 rfl (bA (aA rfl) rfl rfl rfl) ?_
   refine tr1 rfl (aC (v := .d (.lit (.int .i64 ((w64 (t8_0_1 + 1)))))) (aA rfl) rfl rfl) ?_
   refine aF ?_
   exact ⟨(w64 (t8_0_1 + 1)), h, aY [] rfl rfl (aO rfl (aZ ⟨rfl, rfl, rfl, trivial⟩))⟩
 ·have h := aQ c3 h
  refine cX ?_
  refine .inl ⟨rfl, ?_⟩
  simp only [jP] at h
  refine aG ?_
  refine aE ?_
  refine tr1 rfl (aJ (v := .d (.lit (.int .i64 (-1)))) (aA rfl) rfl rfl) ?_
  refine aF ?_
  have h := Option.some.inj h
  subst h
  exact bL ⟨rfl, _, .one _, rfl, rfl⟩

theorem jH (s_0 : List aX) (f_1 : aX → Option Bool) {r : Bool} (f_1_f : Nat) (f_1_v : List AV) (f_1_e : ∀ args w, (callFunc f_1_f args).run Try.prog w = .ok (.enter f_1_f args) w) (f_1_h : ∀ (x0 : aX) r, f_1 x0 = some r → Fn Try.prog f_1_f ([.agg (aI x0)] ++ f_1_v) (.d (.lit (.bool r)))) (h : eA s_0 f_1 = some r) : Fn Try.prog 82 [.d (.sl 3 (s_0.map aI)), .fn f_1_f f_1_v] (.d (.lit (.bool r))) := by
 unfold eA at h
 refine Fn.of_tr Try.func82 rfl (rs := [.tmp 4]) Try.results82 Try.ntmps82 (Nat.le_of_ble_eq_true rfl) ?_
 refine aG ?_
 refine aE ?_
 refine tr1 rfl (aJ (v := .d (.lit (.bool false))) (aA rfl) rfl rfl) ?_
 refine aF ?_
 refine aG ?_
 refine aE ?_
 refine tr1 rfl (aC (v := .d (.sl 3 (s_0.map aI))) (aA rfl) rfl rfl) ?_
 refine tr1 rfl (aC (v := .fn f_1_f f_1_v) (aA rfl) rfl rfl) ?_
 obtain ⟨r1, h2, h⟩ := bind_some h
 refine tr1 rfl (bY (aA rfl) (.func _ _ Try.call97) rfl rfl (BVs.refl _ _) (rW _ _ f_1_f f_1_v f_1_e f_1_h h2) rfl) ?_
 refine tr1 rfl (bC (aA rfl) rfl rfl rfl) ?_
 refine tr1 rfl (aJ (v := .d (.lit (.bool ((decide (0 ≤ r1)))))) (aA rfl) rfl rfl) ?_
 refine aF ?_
 have h := Option.some.inj h
 subst h
 exact bL ⟨rfl, _, .one _, rfl, rfl⟩

theorem yP (a_0 : aX) (c_1 : aM) {r : Bool} (h : mO a_0 c_1 = some r) : Fn Try.prog 126 [.agg (aI a_0), .cp (aU c_1)] (.d (.lit (.bool r))) := by
 unfold mO at h
 refine Fn.of_tr Try.func126 rfl (rs := [.tmp 3]) Try.results126 Try.ntmps126 (Nat.le_of_ble_eq_true rfl) ?_
 refine aG ?_
 refine aE ?_
 refine bR rfl (fK (v := .agg (aI a_0)) (aA rfl) rfl rfl rfl) ?_
 rintro _ ⟨b1, rfl⟩
 refine tr1 rfl (aJ (v := .d (.lit (.bool false))) (aA rfl) rfl rfl) ?_
 refine aF ?_
 refine aG ?_
 refine aE ?_
 refine tr1 rfl (aP (aA rfl) rfl kT) ?_
 refine tr1 rfl (aT (aA rfl) rfl (i := 0) rfl rfl bG) ?_
 refine tr1 rfl (cQ (aA rfl) rfl gZ (es := [.lit (.int .i64 c_1.Players)]) rfl) ?_
 refine tr1 rfl (cI (aA rfl) rfl bG) ?_
 refine tr1 rfl (bA (aA rfl) rfl rfl rfl) ?_
 obtain ⟨r2, h3, h⟩ := bind_some h
 refine tr1 rfl (bY (aA rfl) (.func _ _ Try.call47) rfl rfl (BVs.refl _ _) (eW _ _ _ h3) rfl) ?_
 refine tr1 rfl (fD (aA rfl) rfl) ?_
 refine tr1 rfl (aC (v := .d (.lit (.bool (!r2)))) (aA rfl) rfl rfl) ?_
 obtain ⟨b4, h5, h⟩ := bind_some h
 refine bQ 6 [2] 17 b4 ?_ ?_
 ·refine bD (!r2) (fun c16 => ?_) (fun c16 => ?_)
  ·have h5 := aR c16 h5
   refine aN rfl rfl (aA rfl) rfl (aA rfl) rfl c16 ?_
   refine aN rfl rfl (aA rfl) rfl (aA rfl) rfl c16 ?_
   refine aN rfl rfl (aA rfl) rfl (aA rfl) rfl c16 ?_
   refine aN rfl rfl (aA rfl) rfl (aA rfl) rfl c16 ?_
   refine aN rfl rfl (aA rfl) rfl (aA rfl) rfl c16 ?_
   refine tr1 rfl (bJ (v := .d (.lit (.bool true))) (aA rfl) rfl c16 rfl rfl) ?_
   have h5 := Option.some.inj h5
   subst h5
   refine aF (aW rfl ⟨rfl, trivial⟩ rfl)
  ·have h5 := aQ c16 h5
   refine aL rfl rfl (aA rfl) rfl c16 (aP (aA rfl) rfl jS) ?_
   refine aL rfl rfl (aA rfl) rfl c16 (aT (aA rfl) rfl (i := 0) rfl rfl bG) ?_
   refine aL rfl rfl (aA rfl) rfl c16 (aP (aA rfl) rfl lV) ?_
   refine aL rfl rfl (aA rfl) rfl c16 (aT (aA rfl) rfl (i := 0) rfl rfl bG) ?_
   refine aL rfl rfl (aA rfl) rfl c16 (bC (aA rfl) rfl rfl rfl) ?_
   refine tr1 rfl (bI (v := .d (.lit (.bool ((decide (a_0.To < a_0.From)))))) (aA rfl) rfl c16 rfl rfl) ?_
   have h5 := Option.some.inj h5
   subst h5
   refine aF (aW rfl ⟨rfl, trivial⟩ rfl)
 ·refine tr1 rfl (aC (v := .d (.lit (.bool b4))) (aA rfl) rfl rfl) ?_
  obtain ⟨b6, h7, h⟩ := bind_some h
  refine bQ 5 [2] 23 b6 ?_ ?_
  ·refine bD (b4) (fun c13 => ?_) (fun c13 => ?_)
   ·have h7 := aR c13 h7
    refine aN rfl rfl (aA rfl) rfl (aA rfl) rfl c13 ?_
    refine aN rfl rfl (aA rfl) rfl (aA rfl) rfl c13 ?_
    refine aN rfl rfl (aA rfl) rfl (aA rfl) rfl c13 ?_
    refine aN rfl rfl (aA rfl) rfl (aA rfl) rfl c13 ?_
    refine tr1 rfl (bJ (v := .d (.lit (.bool true))) (aA rfl) rfl c13 rfl rfl) ?_
    have h7 := Option.some.inj h7
    subst h7
    refine aF (aW rfl ⟨rfl, trivial⟩ rfl)
   ·have h7 := aQ c13 h7
    refine aL rfl rfl (aA rfl) rfl c13 (aP (aA rfl) rfl jS) ?_
    refine aL rfl rfl (aA rfl) rfl c13 (aT (aA rfl) rfl (i := 0) rfl rfl bG) ?_
    obtain ⟨r14, h15, h7⟩ := bind_some h7
    refine aL rfl rfl (aA rfl) rfl c13 (bY (aA rfl) (.func _ _ Try.call47) rfl rfl (BVs.refl _ _) (eW _ _ _ h15) rfl) ?_
    refine aL rfl rfl (aA rfl) rfl c13 (fD (aA rfl) rfl) ?_
    refine tr1 rfl (bI (v := .d (.lit (.bool (!r14)))) (aA rfl) rfl c13 rfl rfl) ?_
    have h7 := Option.some.inj h7
    subst h7
    refine aF (aW rfl ⟨rfl, trivial⟩ rfl)
  ·refine tr1 rfl (aC (v := .d (.lit (.bool b6))) (aA rfl) rfl rfl) ?_
   obtain ⟨b8, h9, h⟩ := bind_some h
   refine bQ 5 [] 29 b8 ?_ ?_
   ·refine bD (b6) (fun c10 => ?_) (fun c10 => ?_)
    ·have h9 := aR c10 h9
     refine aN rfl rfl (aA rfl) rfl (aA rfl) rfl c10 ?_
     refine aN rfl rfl (aA rfl) rfl (aA rfl) rfl c10 ?_
     refine aN rfl rfl (aA rfl) rfl (aA rfl) rfl c10 ?_
     refine aN rfl rfl (aA rfl) rfl (aA rfl) rfl c10 ?_
     refine tr1 rfl (bJ (v := .d (.lit (.bool true))) (aA rfl) rfl c10 rfl rfl) ?_
     have h9 := Option.some.inj h9
     subst h9
     refine aF (aW rfl trivial rfl)
    ·have h9 := aQ c10 h9
     refine aL rfl rfl (aA rfl) rfl c10 (aP (aA rfl) rfl lV) ?_
     refine aL rfl rfl (aA rfl) rfl c10 (aT (aA rfl) rfl (i := 0) rfl rfl bG) ?_
     obtain ⟨r11, h12, h9⟩ := bind_some h9
     refine aL rfl rfl (aA rfl) rfl c10 (bY (aA rfl) (.func _ _ Try.call47) rfl rfl (BVs.refl _ _) (eW _ _ _ h12) rfl) ?_
     refine aL rfl rfl (aA rfl) rfl c10 (fD (aA rfl) rfl) ?_
     refine tr1 rfl (bI (v := .d (.lit (.bool (!r11)))) (aA rfl) rfl c10 rfl rfl) ?_
     have h9 := Option.some.inj h9
     subst h9
     refine aF (aW rfl trivial rfl)
   ·refine tr1 rfl (aJ (v := .d (.lit (.bool b8))) (aA rfl) rfl rfl) ?_
    refine aF ?_
    have h := Option.some.inj h
    subst h
    refine cR (cG (cL (l := [3]) ⟨rfl, trivial⟩)) ?_
    exact bL ⟨rfl, _, .one _, rfl, rfl⟩

theorem uR (l_0 : aM) (all_1 : List aX) {r : Bool} (h : mF l_0 all_1 = some r) : Fn Try.prog 104 [.agg (aU l_0), .d (.sl 3 (all_1.map aI))] (.d (.lit (.bool r))) := by
 unfold mF at h
 refine Fn.of_tr Try.func104 rfl (rs := [.tmp 4]) Try.results104 Try.ntmps104 (Nat.le_of_ble_eq_true rfl) ?_
 refine aG ?_
 refine aE ?_
 refine bR rfl (fK (v := .agg (aU l_0)) (aA rfl) rfl rfl rfl) ?_
 rintro _ ⟨b1, rfl⟩
 refine tr1 rfl (aJ (v := .d (.lit (.bool false))) (aA rfl) rfl rfl) ?_
 refine aF ?_
 refine aG ?_
 refine aE ?_
 refine tr1 rfl (aC (v := .d (.sl 3 (all_1.map aI))) (aA rfl) rfl rfl) ?_
 refine tr1 rfl (dM (aA rfl) rfl eS.of) ?_
 refine tr1 rfl (bC (aA rfl) rfl rfl rfl) ?_
 refine tr1 rfl (aC (v := .d (.lit (.bool ((decide ((all_1.length : Int) ≤ 8)))))) (aA rfl) rfl rfl) ?_
 obtain ⟨b2, h3, h⟩ := bind_some h
 refine bQ 5 [] 13 b2 ?_ ?_
 ·refine bD (decide ((all_1.length : Int) ≤ 8)) (fun c4 => ?_) (fun c4 => ?_)
  ·have h3 := aR c4 h3
   refine aL rfl rfl (aA rfl) rfl c4 (aC (v := .d (.sl 3 (all_1.map aI))) (aA rfl) rfl rfl) ?_
   refine aL rfl rfl (aA rfl) rfl c4 (yQ (aA rfl) rfl rfl) ?_
   obtain ⟨r6, h7, h3⟩ := bind_some h3
   refine aL rfl rfl (aA rfl) rfl c4 (bY (aA rfl) (.func _ _ Try.call82) rfl rfl (.cons (.same _) (.cons ((aCr (.cons ((pN 0 rfl rfl (dvc (.same _) (dvc (.same _) (dvc (.same _) (dvc (.same _) (dvc (.same _) dvn))))))) .nil))) .nil)) (jH _ _ 126 [.cp [.lit (.int .i64 l_0.Players), .lit (.int .i64 l_0.Counts), .sl 5 (l_0.Reports.map aD), .sl 3 (l_0.Bans.map aI), .sl 3 (l_0.Frozen.map aI)]] Try.call126 (fun _ _ h3 => yP _ _ h3) h7) rfl) ?_
   refine aL rfl rfl (aA rfl) rfl c4 (fD (aA rfl) rfl) ?_
   refine tr1 rfl (bJ (v := .d (.lit (.bool (!r6)))) (aA rfl) rfl c4 rfl rfl) ?_
   have h3 := Option.some.inj h3
   subst h3
   refine aF (aW rfl trivial rfl)
  ·have h3 := aQ c4 h3
   refine aN rfl rfl (aA rfl) rfl (aA rfl) rfl c4 ?_
   refine aN rfl rfl (aA rfl) rfl (aA rfl) rfl c4 ?_
   refine aN rfl rfl (aA rfl) rfl (aA rfl) rfl c4 ?_
   refine aN rfl rfl (aA rfl) rfl (aA rfl) rfl c4 ?_
   refine tr1 rfl (bI (v := .d (.lit (.bool false))) (aA rfl) rfl c4 rfl rfl) ?_
   have h3 := Option.some.inj h3
   subst h3
   refine aF (aW rfl trivial rfl)
 ·refine tr1 rfl (aJ (v := .d (.lit (.bool b2))) (aA rfl) rfl rfl) ?_
  refine aF ?_
  have h := Option.some.inj h
  subst h
  refine cR (cG (cL (l := [4]) ⟨rfl, trivial⟩)) ?_
  exact bL ⟨rfl, _, .one _, rfl, rfl⟩

theorem zJ (b_0 : aX) (c_1 : aX) {r : Bool} (h : mZ b_0 c_1 = some r) : Fn Try.prog 105 [.agg (aI b_0), .cp (aI c_1)] (.d (.lit (.bool r))) := by
 unfold mZ at h
 refine Fn.of_tr Try.func105 rfl (rs := [.tmp 3]) Try.results105 Try.ntmps105 (Nat.le_of_ble_eq_true rfl) ?_
 refine aG ?_
 refine aE ?_
 refine bR rfl (fK (v := .agg (aI b_0)) (aA rfl) rfl rfl rfl) ?_
 rintro _ ⟨b1, rfl⟩
 refine tr1 rfl (aJ (v := .d (.lit (.bool false))) (aA rfl) rfl rfl) ?_
 refine aF ?_
 refine aG ?_
 refine aE ?_
 refine tr1 rfl (cQ (aA rfl) rfl kT (es := [.lit (.int .i64 c_1.Player)]) rfl) ?_
 refine tr1 rfl (cI (aA rfl) rfl bG) ?_
 refine tr1 rfl (aP (aA rfl) rfl kT) ?_
 refine tr1 rfl (aT (aA rfl) rfl (i := 0) rfl rfl bG) ?_
 refine tr1 rfl (bC (aA rfl) rfl rfl rfl) ?_
 refine tr1 rfl (aC (v := .d (.lit (.bool ((decide (c_1.Player = b_0.Player)))))) (aA rfl) rfl rfl) ?_
 obtain ⟨b2, h3, h⟩ := bind_some h
 refine bQ 6 [1, 2] 15 b2 ?_ ?_
 ·refine bD (decide (c_1.Player = b_0.Player)) (fun c7 => ?_) (fun c7 => ?_)
  ·have h3 := aR c7 h3
   refine aL rfl rfl (aA rfl) rfl c7 (cQ (aA rfl) rfl jS (es := [.lit (.int .i64 c_1.From)]) rfl) ?_
   refine aL rfl rfl (aA rfl) rfl c7 (cI (aA rfl) rfl bG) ?_
   refine aL rfl rfl (aA rfl) rfl c7 (aP (aA rfl) rfl lV) ?_
   refine aL rfl rfl (aA rfl) rfl c7 (aT (aA rfl) rfl (i := 0) rfl rfl bG) ?_
   refine aL rfl rfl (aA rfl) rfl c7 (bC (aA rfl) rfl rfl rfl) ?_
   refine tr1 rfl (bJ (v := .d (.lit (.bool ((decide (c_1.From ≤ b_0.To)))))) (aA rfl) rfl c7 rfl rfl) ?_
   have h3 := Option.some.inj h3
   subst h3
   refine aF (aW rfl ⟨rfl, rfl, trivial⟩ rfl)
  ·have h3 := aQ c7 h3
   refine aN rfl rfl (aA rfl) rfl (aA rfl) rfl c7 ?_
   refine aN rfl rfl (aA rfl) rfl (aA rfl) rfl c7 ?_
   refine aN rfl rfl (aA rfl) rfl (aA rfl) rfl c7 ?_
   refine aN rfl rfl (aA rfl) rfl (aA rfl) rfl c7 ?_
   refine aN rfl rfl (aA rfl) rfl (aA rfl) rfl c7 ?_
   refine tr1 rfl (bI (v := .d (.lit (.bool false))) (aA rfl) rfl c7 rfl rfl) ?_
   have h3 := Option.some.inj h3
   subst h3
   refine aF (aW rfl ⟨rfl, rfl, trivial⟩ rfl)
 ·refine tr1 rfl (aC (v := .d (.lit (.bool b2))) (aA rfl) rfl rfl) ?_
  obtain ⟨b4, h5, h⟩ := bind_some h
  refine bQ 6 [] 22 b4 ?_ ?_
  ·refine bD (b2) (fun c6 => ?_) (fun c6 => ?_)
   ·have h5 := aR c6 h5
    refine aL rfl rfl (aA rfl) rfl c6 (aP (aA rfl) rfl jS) ?_
    refine aL rfl rfl (aA rfl) rfl c6 (aT (aA rfl) rfl (i := 0) rfl rfl bG) ?_
    refine aL rfl rfl (aA rfl) rfl c6 (cQ (aA rfl) rfl lV (es := [.lit (.int .i64 c_1.To)]) rfl) ?_
    refine aL rfl rfl (aA rfl) rfl c6 (cI (aA rfl) rfl bG) ?_
    refine aL rfl rfl (aA rfl) rfl c6 (bC (aA rfl) rfl rfl rfl) ?_
    refine tr1 rfl (bJ (v := .d (.lit (.bool ((decide (b_0.From ≤ c_1.To)))))) (aA rfl) rfl c6 rfl rfl) ?_
    have h5 := Option.some.inj h5
    subst h5
    refine aF (aW rfl trivial rfl)
   ·have h5 := aQ c6 h5
    refine aN rfl rfl (aA rfl) rfl (aA rfl) rfl c6 ?_
    refine aN rfl rfl (aA rfl) rfl (aA rfl) rfl c6 ?_
    refine aN rfl rfl (aA rfl) rfl (aA rfl) rfl c6 ?_
    refine aN rfl rfl (aA rfl) rfl (aA rfl) rfl c6 ?_
    refine aN rfl rfl (aA rfl) rfl (aA rfl) rfl c6 ?_
    refine tr1 rfl (bI (v := .d (.lit (.bool false))) (aA rfl) rfl c6 rfl rfl) ?_
    have h5 := Option.some.inj h5
    subst h5
    refine aF (aW rfl trivial rfl)
  ·refine tr1 rfl (aJ (v := .d (.lit (.bool b4))) (aA rfl) rfl rfl) ?_
   refine aF ?_
   have h := Option.some.inj h
   subst h
   refine cR (cG (cL (l := [3]) ⟨rfl, trivial⟩)) ?_
   exact bL ⟨rfl, _, .one _, rfl, rfl⟩

theorem aBa (l_0 : aM) {r : Bool} (h : oI l_0 = some r) : Fn Try.prog 89 [.agg (aU l_0)] (.d (.lit (.bool r))) := by
 unfold oI at h
 refine Fn.of_tr Try.func89 rfl (rs := [.tmp 2]) Try.results89 Try.ntmps89 (Nat.le_of_ble_eq_true rfl) ?_
 refine aG ?_
 refine aE ?_
 refine bR rfl (fK (v := .agg (aU l_0)) (aA rfl) rfl rfl rfl) ?_
 rintro _ ⟨b1, rfl⟩
 refine tr1 rfl (aJ (v := .d (.lit (.bool false))) (aA rfl) rfl rfl) ?_
 refine aF ?_
 refine aG ?_
 refine aG ?_
 refine aE ?_
 refine tr1 rfl (aP (aA rfl) rfl gZ) ?_
 refine tr1 rfl (aT (aA rfl) rfl (i := 0) rfl rfl bG) ?_
 obtain ⟨r2, h3, h⟩ := bind_some h
 refine tr1 rfl (bY (aA rfl) (.func _ _ Try.call47) rfl rfl (BVs.refl _ _) (eW _ _ _ h3) rfl) ?_
 refine tr1 rfl (fD (aA rfl) rfl) ?_
 refine tr1 rfl (aC (v := .d (.lit (.bool (!r2)))) (aA rfl) rfl rfl) ?_
 obtain ⟨b4, h5, h⟩ := bind_some h
 refine bQ 5 [1] 16 b4 ?_ ?_
 ·refine bD (!r2) (fun c54 => ?_) (fun c54 => ?_)
  ·have h5 := aR c54 h5
   refine aN rfl rfl (aA rfl) rfl (aA rfl) rfl c54 ?_
   refine aN rfl rfl (aA rfl) rfl (aA rfl) rfl c54 ?_
   refine aN rfl rfl (aA rfl) rfl (aA rfl) rfl c54 ?_
   refine aN rfl rfl (aA rfl) rfl (aA rfl) rfl c54 ?_
   refine tr1 rfl (bJ (v := .d (.lit (.bool true))) (aA rfl) rfl c54 rfl rfl) ?_
   have h5 := Option.some.inj h5
   subst h5
   refine aF (aW rfl ⟨rfl, trivial⟩ rfl)
  ·have h5 := aQ c54 h5
   refine aL rfl rfl (aA rfl) rfl c54 (aP (aA rfl) rfl aAc) ?_
   refine aL rfl rfl (aA rfl) rfl c54 (aT (aA rfl) rfl (i := 0) rfl rfl bG) ?_
   obtain ⟨r55, h56, h5⟩ := bind_some h5
   refine aL rfl rfl (aA rfl) rfl c54 (bY (aA rfl) (.func _ _ Try.call47) rfl rfl (BVs.refl _ _) (eW _ _ _ h56) rfl) ?_
   refine aL rfl rfl (aA rfl) rfl c54 (fD (aA rfl) rfl) ?_
   refine tr1 rfl (bI (v := .d (.lit (.bool (!r55)))) (aA rfl) rfl c54 rfl rfl) ?_
   have h5 := Option.some.inj h5
   subst h5
   refine aF (aW rfl ⟨rfl, trivial⟩ rfl)
 ·refine tr1 rfl (aC (v := .d (.lit (.bool b4))) (aA rfl) rfl rfl) ?_
  obtain ⟨b6, h7, h⟩ := bind_some h
  refine bQ 5 [1] 22 b6 ?_ ?_
  ·refine bD (b4) (fun c53 => ?_) (fun c53 => ?_)
   ·have h7 := aR c53 h7
    refine aN rfl rfl (aA rfl) rfl (aA rfl) rfl c53 ?_
    refine aN rfl rfl (aA rfl) rfl (aA rfl) rfl c53 ?_
    refine aN rfl rfl (aA rfl) rfl (aA rfl) rfl c53 ?_
    refine aN rfl rfl (aA rfl) rfl (aA rfl) rfl c53 ?_
    refine tr1 rfl (bJ (v := .d (.lit (.bool true))) (aA rfl) rfl c53 rfl rfl) ?_
    have h7 := Option.some.inj h7
    subst h7
    refine aF (aW rfl ⟨rfl, trivial⟩ rfl)
   ·have h7 := aQ c53 h7
    refine aL rfl rfl (aA rfl) rfl c53 (aP (aA rfl) rfl dZ) ?_
    refine aL rfl rfl (aA rfl) rfl c53 (aT (aA rfl) rfl (i := 0) rfl rfl iG) ?_
    refine aL rfl rfl (aA rfl) rfl c53 (dM (aA rfl) rfl cA.of) ?_
    refine aL rfl rfl (aA rfl) rfl c53 (bC (aA rfl) rfl rfl rfl) ?_
    refine tr1 rfl (bI (v := .d (.lit (.bool ((decide (40 < (l_0.Reports.length : Int))))))) (aA rfl) rfl c53 rfl rfl) ?_
    have h7 := Option.some.inj h7
    subst h7
    refine aF (aW rfl ⟨rfl, trivial⟩ rfl)
  ·refine aF ?_
   refine bN rfl (fun c8 => ?_) (fun c8 => ?_)
   ·have h := aR c8 h
    refine aG ?_
    refine aE ?_
    refine tr1 rfl (aJ (v := .d (.lit (.bool false))) (aA rfl) rfl rfl) ?_
    refine aF ?_
    have h := Option.some.inj h
    subst h
    refine cR (cG (cL (l := [2]) ⟨rfl, trivial⟩)) ?_
    exact bL ⟨rfl, _, .one _, rfl, rfl⟩
   ·have h := aQ c8 h
    refine bH ?_
    refine aG ?_
    refine aG ?_
    refine aE ?_
    refine tr1 rfl (aP (aA rfl) rfl dZ) ?_
    refine tr1 rfl (aT (aA rfl) rfl (i := 0) rfl rfl iG) ?_
    refine tr1 rfl (dM (aA rfl) rfl cA.of) ?_
    refine tr1 rfl (aC (v := .d (.lit (.int .i64 0))) (aA rfl) rfl rfl) ?_
    refine aF ?_
    refine bT ?_
    refine cM [1, 24, 25] (fun (s9 : Int) => [(26, .d (.lit (.int .i64 s9)))]) (fun (s9 : Int) => [.box b1 0 (aU l_0)]) (fun (k : Nat) (s9 : Int) => iI l_0.Reports (l_0.Reports.length : Int) l_0 k s9) (fun _ => rfl) (0) h (aY [0] rfl rfl (aO rfl (aZ ⟨rfl, rfl, rfl, trivial⟩))) ?_
    rintro k10 t26_0_9 h
    simp only [iI] at h
    refine aG ?_
    refine aE ?_
    refine tr1 rfl (bC (aA rfl) rfl rfl rfl) ?_
    refine aF ?_
    refine aG ?_
    refine bN rfl (fun c11 => ?_) (fun c11 => ?_)
    ·have h := aR c11 h
     refine bH ?_
     refine aG ?_
     refine bT ?_
     refine aG ?_
     refine aE ?_
     obtain ⟨x12, h13, h⟩ := bind_some h
     refine tr1 rfl (cD (aA rfl) rfl rfl cA.of (bP aD h13)) ?_
     refine tr1 rfl (iS (aA rfl) rfl eI (es := (aD x12)) rfl rfl) ?_
     refine bR rfl (fM (zs := [.lit (.int .i64 0), .lit (.int .i64 0), .lit (.int .i64 0), .lit (.int .i64 0), .lit (.bool false)]) (aA rfl) Try.zeroValue42 rfl rfl) ?_
     rintro _ ⟨b14, rfl⟩
     refine tr1 rfl (bX (i := 1) rfl rfl rfl rfl rfl Try.sizeOf42 rfl (aA rfl) (Nat.le_of_ble_eq_true rfl) (ds' := (aD x12)) rfl) ?_
     refine aF ?_
     refine aG ?_
     refine aE ?_
     refine tr1 rfl (aP (aA rfl) rfl kS) ?_
     refine tr1 rfl (aT (aA rfl) rfl (i := 1) rfl rfl bG) ?_
     obtain ⟨r15, h16, h⟩ := bind_some h
     refine tr1 rfl (bY (aA rfl) (.func _ _ Try.call47) rfl rfl (BVs.refl _ _) (eW _ _ _ h16) rfl) ?_
     refine tr1 rfl (fD (aA rfl) rfl) ?_
     refine tr1 rfl (aC (v := .d (.lit (.bool (!r15)))) (aA rfl) rfl rfl) ?_
     obtain ⟨b17, h18, h⟩ := bind_some h
     refine bQ 8 [1, 4, 24, 25, 26] 42 b17 ?_ ?_
     ·refine bD (!r15) (fun c30 => ?_) (fun c30 => ?_)
      ·have h18 := aR c30 h18
       refine aN rfl rfl (aA rfl) rfl (aA rfl) rfl c30 ?_
       refine aN rfl rfl (aA rfl) rfl (aA rfl) rfl c30 ?_
       refine aN rfl rfl (aA rfl) rfl (aA rfl) rfl c30 ?_
       refine aN rfl rfl (aA rfl) rfl (aA rfl) rfl c30 ?_
       refine aN rfl rfl (aA rfl) rfl (aA rfl) rfl c30 ?_
       refine aN rfl rfl (aA rfl) rfl (aA rfl) rfl c30 ?_
       refine aN rfl rfl (aA rfl) rfl (aA rfl) rfl c30 ?_
       refine tr1 rfl (bJ (v := .d (.lit (.bool true))) (aA rfl) rfl c30 rfl rfl) ?_
       have h18 := Option.some.inj h18
       subst h18
       refine aF (aW rfl ⟨rfl, rfl, rfl, rfl, rfl, trivial⟩ rfl)
      ·have h18 := aQ c30 h18
       refine aL rfl rfl (aA rfl) rfl c30 (aP (aA rfl) rfl qY) ?_
       refine aL rfl rfl (aA rfl) rfl c30 (aT (aA rfl) rfl (i := 1) rfl rfl bG) ?_
       refine aL rfl rfl (aA rfl) rfl c30 (aP (aA rfl) rfl gZ) ?_
       refine aL rfl rfl (aA rfl) rfl c30 (aT (aA rfl) rfl (i := 0) rfl rfl bG) ?_
       refine aL rfl rfl (aA rfl) rfl c30 (bA (aA rfl) rfl rfl rfl) ?_
       obtain ⟨r31, h32, h18⟩ := bind_some h18
       refine aL rfl rfl (aA rfl) rfl c30 (bY (aA rfl) (.func _ _ Try.call47) rfl rfl (BVs.refl _ _) (eW _ _ _ h32) rfl) ?_
       refine aL rfl rfl (aA rfl) rfl c30 (fD (aA rfl) rfl) ?_
       refine tr1 rfl (bI (v := .d (.lit (.bool (!r31)))) (aA rfl) rfl c30 rfl rfl) ?_
       have h18 := Option.some.inj h18
       subst h18
       refine aF (aW rfl ⟨rfl, rfl, rfl, rfl, rfl, trivial⟩ rfl)
     ·refine tr1 rfl (aC (v := .d (.lit (.bool b17))) (aA rfl) rfl rfl) ?_
      obtain ⟨b19, h20, h⟩ := bind_some h
      refine bQ 5 [1, 4, 24, 25, 26] 48 b19 ?_ ?_
      ·refine bD (b17) (fun c27 => ?_) (fun c27 => ?_)
       ·have h20 := aR c27 h20
        refine aN rfl rfl (aA rfl) rfl (aA rfl) rfl c27 ?_
        refine aN rfl rfl (aA rfl) rfl (aA rfl) rfl c27 ?_
        refine aN rfl rfl (aA rfl) rfl (aA rfl) rfl c27 ?_
        refine aN rfl rfl (aA rfl) rfl (aA rfl) rfl c27 ?_
        refine tr1 rfl (bJ (v := .d (.lit (.bool true))) (aA rfl) rfl c27 rfl rfl) ?_
        have h20 := Option.some.inj h20
        subst h20
        refine aF (aW rfl ⟨rfl, rfl, rfl, rfl, rfl, trivial⟩ rfl)
       ·have h20 := aQ c27 h20
        refine aL rfl rfl (aA rfl) rfl c27 (aP (aA rfl) rfl nP) ?_
        refine aL rfl rfl (aA rfl) rfl c27 (aT (aA rfl) rfl (i := 1) rfl rfl bG) ?_
        obtain ⟨r28, h29, h20⟩ := bind_some h20
        refine aL rfl rfl (aA rfl) rfl c27 (bY (aA rfl) (.func _ _ Try.call47) rfl rfl (BVs.refl _ _) (eW _ _ _ h29) rfl) ?_
        refine aL rfl rfl (aA rfl) rfl c27 (fD (aA rfl) rfl) ?_
        refine tr1 rfl (bI (v := .d (.lit (.bool (!r28)))) (aA rfl) rfl c27 rfl rfl) ?_
        have h20 := Option.some.inj h20
        subst h20
        refine aF (aW rfl ⟨rfl, rfl, rfl, rfl, rfl, trivial⟩ rfl)
      ·refine tr1 rfl (aC (v := .d (.lit (.bool b19))) (aA rfl) rfl rfl) ?_
       obtain ⟨b21, h22, h⟩ := bind_some h
       refine bQ 5 [1, 24, 25, 26] 54 b21 ?_ ?_
       ·refine bD (b19) (fun c24 => ?_) (fun c24 => ?_)
        ·have h22 := aR c24 h22
         refine aN rfl rfl (aA rfl) rfl (aA rfl) rfl c24 ?_
         refine aN rfl rfl (aA rfl) rfl (aA rfl) rfl c24 ?_
         refine aN rfl rfl (aA rfl) rfl (aA rfl) rfl c24 ?_
         refine aN rfl rfl (aA rfl) rfl (aA rfl) rfl c24 ?_
         refine tr1 rfl (bJ (v := .d (.lit (.bool true))) (aA rfl) rfl c24 rfl rfl) ?_
         have h22 := Option.some.inj h22
         subst h22
         refine aF (aW rfl ⟨rfl, rfl, rfl, rfl, trivial⟩ rfl)
        ·have h22 := aQ c24 h22
         refine aL rfl rfl (aA rfl) rfl c24 (aP (aA rfl) rfl sD) ?_
         refine aL rfl rfl (aA rfl) rfl c24 (aT (aA rfl) rfl (i := 1) rfl rfl bG) ?_
         obtain ⟨r25, h26, h22⟩ := bind_some h22
         refine aL rfl rfl (aA rfl) rfl c24 (bY (aA rfl) (.func _ _ Try.call47) rfl rfl (BVs.refl _ _) (eW _ _ _ h26) rfl) ?_
         refine aL rfl rfl (aA rfl) rfl c24 (fD (aA rfl) rfl) ?_
         refine tr1 rfl (bI (v := .d (.lit (.bool (!r25)))) (aA rfl) rfl c24 rfl rfl) ?_
         have h22 := Option.some.inj h22
         subst h22
         refine aF (aW rfl ⟨rfl, rfl, rfl, rfl, trivial⟩ rfl)
       ·refine aF ?_
        refine bN rfl (fun c23 => ?_) (fun c23 => ?_)
        ·have h := aR c23 h
         refine aG ?_
         refine aE ?_
         refine tr1 rfl (aJ (v := .d (.lit (.bool false))) (aA rfl) rfl rfl) ?_
         refine aF ?_
         have h := Option.some.inj h
         subst h
         refine cR (cG (cL (l := [2]) ⟨rfl, trivial⟩)) ?_
         exact bL ⟨rfl, _, .one _, rfl, rfl⟩
        ·have h := aQ c23 h
         refine eR ?_
         refine aE ?_
         refine tr1 rfl (bA (aA rfl) rfl rfl rfl) ?_
         refine tr1 rfl (aC (v := .d (.lit (.int .i64 ((w64 (t26_0_9 + 1)))))) (aA rfl) rfl rfl) ?_
         refine aF ?_
         exact ⟨(w64 (t26_0_9 + 1)), h, aY [0] rfl rfl (aO rfl (aZ ⟨rfl, rfl, rfl, trivial⟩))⟩
    ·have h := aQ c11 h
     refine cX ?_
     refine .inl ⟨rfl, ?_⟩
     simp only [rD] at h
     refine aG ?_
     refine aG ?_
     refine aE ?_
     refine tr1 rfl (cT (aA rfl) rfl (i := 0) rfl eQ (es := (aU l_0)) rfl rfl) ?_
     refine tr1 rfl (aP (aA rfl) rfl mL) ?_
     refine tr1 rfl (aT (aA rfl) rfl (i := 0) rfl rfl jM) ?_
     obtain ⟨r33, h34, h⟩ := bind_some h
     refine tr1 rfl (bY (aA rfl) (.func _ _ Try.call104) rfl rfl (BVs.refl _ _) (uR _ _ h34) rfl) ?_
     refine tr1 rfl (fD (aA rfl) rfl) ?_
     refine tr1 rfl (aC (v := .d (.lit (.bool (!r33)))) (aA rfl) rfl rfl) ?_
     obtain ⟨b35, h36, h⟩ := bind_some h
     refine bQ 6 [1] 67 b35 ?_ ?_
     ·refine bD (!r33) (fun c50 => ?_) (fun c50 => ?_)
      ·have h36 := aR c50 h36
       refine aN rfl rfl (aA rfl) rfl (aA rfl) rfl c50 ?_
       refine aN rfl rfl (aA rfl) rfl (aA rfl) rfl c50 ?_
       refine aN rfl rfl (aA rfl) rfl (aA rfl) rfl c50 ?_
       refine aN rfl rfl (aA rfl) rfl (aA rfl) rfl c50 ?_
       refine aN rfl rfl (aA rfl) rfl (aA rfl) rfl c50 ?_
       refine tr1 rfl (bJ (v := .d (.lit (.bool true))) (aA rfl) rfl c50 rfl rfl) ?_
       have h36 := Option.some.inj h36
       subst h36
       refine aF (aW rfl ⟨rfl, trivial⟩ rfl)
      ·have h36 := aQ c50 h36
       refine aL rfl rfl (aA rfl) rfl c50 (cT (aA rfl) rfl (i := 0) rfl eQ (es := (aU l_0)) rfl rfl) ?_
       refine aL rfl rfl (aA rfl) rfl c50 (aP (aA rfl) rfl kR) ?_
       refine aL rfl rfl (aA rfl) rfl c50 (aT (aA rfl) rfl (i := 0) rfl rfl jM) ?_
       obtain ⟨r51, h52, h36⟩ := bind_some h36
       refine aL rfl rfl (aA rfl) rfl c50 (bY (aA rfl) (.func _ _ Try.call104) rfl rfl (BVs.refl _ _) (uR _ _ h52) rfl) ?_
       refine aL rfl rfl (aA rfl) rfl c50 (fD (aA rfl) rfl) ?_
       refine tr1 rfl (bI (v := .d (.lit (.bool (!r51)))) (aA rfl) rfl c50 rfl rfl) ?_
       have h36 := Option.some.inj h36
       subst h36
       refine aF (aW rfl ⟨rfl, trivial⟩ rfl)
     ·refine aF ?_
      refine bN rfl (fun c37 => ?_) (fun c37 => ?_)
      ·have h := aR c37 h
       refine aG ?_
       refine aE ?_
       refine tr1 rfl (aJ (v := .d (.lit (.bool false))) (aA rfl) rfl rfl) ?_
       refine aF ?_
       have h := Option.some.inj h
       subst h
       refine cR (cG (cL (l := [2]) ⟨rfl, trivial⟩)) ?_
       exact bL ⟨rfl, _, .one _, rfl, rfl⟩
      ·have h := aQ c37 h
       refine bH ?_
       refine aG ?_
       refine aG ?_
       refine aE ?_
       refine tr1 rfl (aP (aA rfl) rfl kR) ?_
       refine tr1 rfl (aT (aA rfl) rfl (i := 0) rfl rfl jM) ?_
       refine tr1 rfl (dM (aA rfl) rfl eS.of) ?_
       refine tr1 rfl (aC (v := .d (.lit (.int .i64 0))) (aA rfl) rfl rfl) ?_
       refine aF ?_
       refine bT ?_
       refine cM [1, 69, 70] (fun (s38 : Int) => [(71, .d (.lit (.int .i64 s38)))]) (fun (s38 : Int) => [.box b1 0 (aU l_0)]) (fun (k : Nat) (s38 : Int) => iJ l_0.Frozen (l_0.Frozen.length : Int) l_0 k s38) (fun _ => rfl) (0) h (aY [0] rfl rfl (aO rfl (aZ ⟨rfl, rfl, rfl, trivial⟩))) ?_
       rintro k39 t71_2_38 h
       simp only [iJ] at h
       refine aG ?_
       refine aE ?_
       refine tr1 rfl (bC (aA rfl) rfl rfl rfl) ?_
       refine aF ?_
       refine aG ?_
       refine bN rfl (fun c40 => ?_) (fun c40 => ?_)
       ·have h := aR c40 h
        refine bH ?_
        refine aG ?_
        refine bT ?_
        refine aG ?_
        refine aE ?_
        refine tr1 rfl (aC (v := .d (.lit (.int .i64 t71_2_38))) (aA rfl) rfl rfl) ?_
        obtain ⟨x41, h42, h⟩ := bind_some h
        refine tr1 rfl (cD (aA rfl) rfl rfl eS.of (bP aI h42)) ?_
        refine tr1 rfl (iS (aA rfl) rfl xP (es := (aI x41)) rfl rfl) ?_
        refine bR rfl (fM (zs := [.lit (.int .i64 0), .lit (.int .i64 0), .lit (.int .i64 0)]) (aA rfl) Try.zeroValue66 rfl rfl) ?_
        rintro _ ⟨b43, rfl⟩
        refine tr1 rfl (aJ (v := .d (.lit (.int .i64 t71_2_38))) (aA rfl) rfl rfl) ?_
        refine tr1 rfl (bX (i := 1) rfl rfl rfl rfl rfl Try.sizeOf66 rfl (aA rfl) (Nat.le_of_ble_eq_true rfl) (ds' := (aI x41)) rfl) ?_
        refine aF ?_
        refine aG ?_
        refine aE ?_
        refine tr1 rfl (aP (aA rfl) rfl kR) ?_
        refine tr1 rfl (aT (aA rfl) rfl (i := 0) rfl rfl jM) ?_
        refine tr1 rfl (aC (v := .d (.lit (.int .i64 t71_2_38))) (aA rfl) rfl rfl) ?_
        obtain ⟨x44, h45, h⟩ := bind_some h
        refine tr1 rfl (pX (aA rfl) eS.of rfl rfl rfl (sO aI h45)) ?_
        refine tr1 rfl (yQ (aA rfl) rfl rfl) ?_
        obtain ⟨r47, h48, h⟩ := bind_some h
        refine tr1 rfl (bY (aA rfl) (.func _ _ Try.call82) rfl rfl (.cons (.same _) (.cons ((aCr (.cons ((pN 1 rfl rfl (dvc (.same _) (dvc (.same _) (dvc (.same _) dvn))))) .nil))) .nil)) (jH _ _ 105 [.cp [.lit (.int .i64 x41.Player), .lit (.int .i64 x41.From), .lit (.int .i64 x41.To)]] Try.call105 (fun _ _ h => zJ _ _ h) h48) rfl) ?_
        refine aF ?_
        refine bN rfl (fun c49 => ?_) (fun c49 => ?_)
        ·have h := aR c49 h
         refine aG ?_
         refine aE ?_
         refine tr1 rfl (aJ (v := .d (.lit (.bool false))) (aA rfl) rfl rfl) ?_
         refine aF ?_
         have h := Option.some.inj h
         subst h
         refine cR (cG (cL (l := [2]) ⟨rfl, trivial⟩)) ?_
         exact bL ⟨rfl, _, .one _, rfl, rfl⟩
        ·have h := aQ c49 h
         refine eR ?_
         refine aE ?_
         refine tr1 rfl (bA (aA rfl) rfl rfl rfl) ?_
         refine tr1 rfl (aC (v := .d (.lit (.int .i64 ((w64 (t71_2_38 + 1)))))) (aA rfl) rfl rfl) ?_
         refine aF ?_
         exact ⟨(w64 (t71_2_38 + 1)), h, aY [0] rfl rfl (aO rfl (aZ ⟨rfl, rfl, rfl, trivial⟩))⟩
       ·have h := aQ c40 h
        refine cX ?_
        refine .inl ⟨rfl, ?_⟩
        simp only [rE] at h
        refine aG ?_
        refine aE ?_
        refine tr1 rfl (aJ (v := .d (.lit (.bool true))) (aA rfl) rfl rfl) ?_
        refine aF ?_
        have h := Option.some.inj h
        subst h
        refine cR (cG (cL (l := [2]) ⟨rfl, trivial⟩)) ?_
        exact bL ⟨rfl, _, .one _, rfl, rfl⟩

theorem oJ (s_0 : List aB) {r : (List aB)} (h : eX s_0 = some r) : fT Try.prog 91 [.d (.sl 5 (s_0.map aD))] [] (fun r' o' => ∃ (w0 : Value), r' = .d (.lit w0) ∧ o' = [.arr w0 42 5 (r.map aD)]) := by
 unfold eX at h
 refine lZ Try.func91 rfl (rs := [.tmp 2]) Try.results91 Try.ntmps91 (Nat.le_of_ble_eq_true rfl) ?_
 refine aG ?_
 refine aE ?_
 refine tr1 rfl (kJ 42 5 (.inl rfl) (aA rfl)) ?_
 refine aF ?_
 refine aG ?_
 refine aG ?_
 refine aE ?_
 refine tr1 rfl (aC (v := .d (.sl 5 (s_0.map aD))) (aA rfl) rfl rfl) ?_
 refine bR rfl (aGe (aA rfl) rfl rfl Try.underlying22) ?_
 rintro _ ⟨b2, h3, rfl⟩
 refine aF ?_
 refine bN rfl (fun c4 => ?_) (fun c4 => ?_)
 ·obtain rfl := aGb (h3 c4)
  simp [app] at h
  subst h
  refine aG ?_
  refine aE ?_
  refine tr1 rfl (kJ 42 5 (.inl rfl) (aA rfl)) ?_
  refine aF ?_
  refine cR (aY [1, 0] rfl rfl (le_refl _)) ?_
  exact bL ⟨rfl, _, [.arr (.slice none 0 0) 42 5 (([] : List aB).map aD)], [.arr (.slice none 0 0) 42 5 (([] : List aB).map aD)], _, .one (.tmp 2 (v := .d (.lit (.slice none 0 0))) rfl), .refl _, .same _, (.slice none 0 0), rfl, rfl⟩
 ·refine bH ?_
  refine aG ?_
  refine aE ?_
  refine bR rfl (vP (aA rfl) cA rfl rfl (rows := (([] : List aB)).map aD) rfl (dE (f := aD) fun _ => rfl) rfl (by decide)) ?_
  rintro _ ⟨v5, rfl⟩
  refine tr1 rfl (aC (v := .d (.sl 5 (s_0.map aD))) (aA rfl) rfl rfl) ?_
  obtain ⟨x6, h7, h⟩ := bind_some h
  refine bR rfl (mD (i := 1) (aA rfl) cA rfl rfl rfl (fun _ => rfl) h7 rfl) ?_
  rintro _ ⟨v8, rfl⟩
  refine tr1 rfl (aJ (v := .d (.lit v8)) (aA rfl) rfl rfl) ?_
  refine aF ?_
  have h := Option.some.inj h
  subst h
  refine cR (aY [1, 0] rfl rfl (le_refl _)) ?_
  exact bL ⟨rfl, _, [.arr v8 42 5 (x6.map aD)], [.arr (.slice none 0 0) 42 5 (([] : List aB).map aD)], _, .one (.tmp 2 (v := .d (.lit v8)) rfl), .refl _, .same _, v8, rfl, rfl⟩

theorem jW (data_0 : List aB) (a_1 : Int) (b_2 : Int) (cmp_3 : aB → aB → Option Int) {r : (List aB)} {data_0_v : Value} (cmp_3_f : Nat) (cmp_3_v : List AV) (cmp_3_e : ∀ args w, (callFunc cmp_3_f args).run Try.prog w = .ok (.enter cmp_3_f args) w) (cmp_3_h : ∀ (x0 : aB) (x1 : aB) r, cmp_3 x0 x1 = some r → Fn Try.prog cmp_3_f ([.agg (aD x0), .agg (aD x1)] ++ cmp_3_v) (.d (.lit (.int .i64 r)))) (h : dI data_0 a_1 b_2 cmp_3 = some r) : fT Try.prog 127 [.d (.lit data_0_v), .d (.lit (.int .i64 a_1)), .d (.lit (.int .i64 b_2)), .fn cmp_3_f cmp_3_v] [.arr data_0_v 42 5 (data_0.map aD)] (fun r' o' => r' = .tup [] ∧ o' = [.arr data_0_v 42 5 (r.map aD)]) := by
 unfold dI at h
 refine jF Try.func127 rfl (rs := []) Try.results127 Try.ntmps127 (Nat.le_of_ble_eq_true rfl) ?_
 refine aG ?_
 refine aE ?_
 refine tr1 rfl (aC (v := .d (.lit (.int .i64 a_1))) (aA rfl) rfl rfl) ?_
 refine tr1 rfl (bA (aA rfl) rfl rfl rfl) ?_
 refine tr1 rfl (aJ (v := .d (.lit (.int .i64 ((w64 (a_1 + 1)))))) (aA rfl) rfl rfl) ?_
 refine aF ?_
 refine bT ?_
 refine cM [1, 2, 3] (fun (s1 : Int × (List aB)) => [(0, .d (.lit data_0_v)), (8, .d (.lit (.int .i64 s1.1)))]) (fun (s1 : Int × (List aB)) => [.arr data_0_v 42 5 (s1.2.map aD)]) (fun (k : Nat) (s1 : Int × (List aB)) => cH a_1 b_2 cmp_3 k s1.1 s1.2) (fun _ => rfl) (w64 (a_1 + 1), data_0) h (aY [0] rfl rfl (aO rfl (aO rfl (aZ ⟨rfl, rfl, rfl, trivial⟩)))) ?_
 rintro k2 ⟨i_0_1, data_0_1⟩ h
 simp only [cH] at h
 refine aG ?_
 refine aG ?_
 refine aE ?_
 refine tr1 rfl (aC (v := .d (.lit (.int .i64 i_0_1))) (aA rfl) rfl rfl) ?_
 refine tr1 rfl (aC (v := .d (.lit (.int .i64 b_2))) (aA rfl) rfl rfl) ?_
 refine tr1 rfl (bC (aA rfl) rfl rfl rfl) ?_
 refine aF ?_
 refine bN rfl (fun c3 => ?_) (fun c3 => ?_)
 ·have h := aR c3 h
  refine bH ?_
  refine aG ?_
  refine bT ?_
  refine aG ?_
  refine aE ?_
  refine tr1 rfl (aC (v := .d (.lit (.int .i64 i_0_1))) (aA rfl) rfl rfl) ?_
  refine tr1 rfl (aJ (v := .d (.lit (.int .i64 i_0_1))) (aA rfl) rfl rfl) ?_
  refine aF ?_
  refine zE ?_
  refine cM [1, 2, 3, 8] (fun (s4 : Int × (List aB)) => [(0, .d (.lit data_0_v)), (9, .d (.lit (.int .i64 s4.1)))]) (fun (s4 : Int × (List aB)) => [.arr data_0_v 42 5 (s4.2.map aD)]) (fun (k : Nat) (s4 : Int × (List aB)) => cV (cH a_1 b_2 cmp_3 k2) a_1 b_2 cmp_3 i_0_1 k s4.1 s4.2) (fun _ => rfl) (i_0_1, data_0_1) h (aY [0] rfl rfl (aO rfl (aO rfl (aZ ⟨rfl, rfl, rfl, rfl, trivial⟩)))) ?_
  rintro k5 ⟨j_2_4, data_2_4⟩ h
  simp only [cV] at h
  refine aG ?_
  refine aG ?_
  obtain ⟨b6, h7, h⟩ := bind_some h
  refine hH mix 17 [0, 1, 2, 3, 8, 9] [(34, .d (.lit (.bool b6)))] ?_ ?_
  ·refine bD (decide (a_1 < j_2_4)) (fun c8 => ?_) (fun c8 => ?_)
   ·have h7 := aR c8 h7
    obtain ⟨x9, h10, h7⟩ := bind_some h7
    obtain ⟨x11, h12, h7⟩ := bind_some h7
    obtain ⟨r13, h14, h7⟩ := bind_some h7
    have h7 := Option.some.inj h7
    subst h7
    refine ⟨[(18, 0, .d (.lit (.int .i64 j_2_4))), (19, 1, .d (.lit (.int .i64 a_1))), (20, 2, .d (.lit (.bool ((decide (a_1 < j_2_4)))))), (21, 3, .d (.lit (.bool ((decide (a_1 < j_2_4)))))), (22, 4, .fn cmp_3_f cmp_3_v), (23, 5, .d (.lit data_0_v)), (24, 6, .d (.lit (.int .i64 j_2_4))), (25, 7, .ep data_0_v 5 j_2_4.toNat 0), (26, 8, .agg (aD x9)), (27, 9, .d (.lit data_0_v)), (28, 10, .d (.lit (.int .i64 j_2_4))), (29, 11, .d (.lit (.int .i64 ((w64 (j_2_4 - 1)))))), (30, 12, .ep data_0_v 5 (w64 (j_2_4 - 1)).toNat 0), (31, 13, .agg (aD x11)), (32, 14, .d (.lit (.int .i64 r13))), (33, 15, .d (.lit (.bool ((decide (r13 < 0)))))), (34, 16, .d (.lit (.bool ((decide (r13 < 0))))))], ?_, ?_⟩
    · exact ⟨by kernel_rfl, by kernel_rfl, by kernel_rfl, by kernel_rfl, by kernel_rfl, [([], []), ([], []), ([0, 1], []), ([2], []), ([3], []), ([3], []), ([3], []), ([3, 5, 6], []), ([3, 7], []), ([3], []), ([3], []), ([3, 10], []), ([3, 9, 11], []), ([3, 12], []), ([3, 4, 8, 13], []), ([3, 14], []), ([3, 15], [])], by kernel_rfl, ⟨fun S hS => aK rfl (aS rfl (aC (v := .d (.lit (.int .i64 j_2_4))) (aA rfl) (aH hS rfl) rfl)),
      fun S hS => aK rfl (aS rfl (aC (v := .d (.lit (.int .i64 a_1))) (aA rfl) (aH hS rfl) rfl)),
      fun S hS => aK rfl (aS rfl (bC (aA rfl) (aH hS rfl) (aH hS rfl) rfl)),
      fun S hS => aK rfl (aS rfl (aC (v := .d (.lit (.bool ((decide (a_1 < j_2_4)))))) (aA rfl) (aH hS rfl) rfl)),
      fun S hS => aK rfl (bK rfl rfl (aA rfl) (aV hS rfl) c8 (aC (v := .fn cmp_3_f cmp_3_v) (aA rfl) (aH hS rfl) rfl)),
      fun S hS => aK rfl (bK rfl rfl (aA rfl) (aV hS rfl) c8 (aC (v := .d (.lit data_0_v)) (aA rfl) (aH hS rfl) rfl)),
      fun S hS => aK rfl (bK rfl rfl (aA rfl) (aV hS rfl) c8 (aC (v := .d (.lit (.int .i64 j_2_4))) (aA rfl) (aH hS rfl) rfl)),
      fun S hS => aK rfl (bK rfl rfl (aA rfl) (aV hS rfl) c8 (cC (m := 0) (aA rfl) (aH hS rfl) rfl (aH hS rfl) cA.of (bP aD h10))),
      fun S hS => aK rfl (bK rfl rfl (aA rfl) (aV hS rfl) c8 (dG (aA rfl) (aH hS rfl) (l := 0) rfl (dX aD h10) eI (es := (aD x9)) rfl rfl)),
      fun S hS => aK rfl (bK rfl rfl (aA rfl) (aV hS rfl) c8 (aC (v := .d (.lit data_0_v)) (aA rfl) (aH hS rfl) rfl)),
      fun S hS => aK rfl (bK rfl rfl (aA rfl) (aV hS rfl) c8 (aC (v := .d (.lit (.int .i64 j_2_4))) (aA rfl) (aH hS rfl) rfl)),
      fun S hS => aK rfl (bK rfl rfl (aA rfl) (aV hS rfl) c8 (bA (aA rfl) (aH hS rfl) rfl rfl)),
      fun S hS => aK rfl (bK rfl rfl (aA rfl) (aV hS rfl) c8 (cC (m := 0) (aA rfl) (aH hS rfl) rfl (aH hS rfl) cA.of (bP aD h12))),
      fun S hS => aK rfl (bK rfl rfl (aA rfl) (aV hS rfl) c8 (dG (aA rfl) (aH hS rfl) (l := 0) rfl (dX aD h12) eI (es := (aD x11)) rfl rfl)),
      fun S hS => aK rfl (bK rfl rfl (aA rfl) (aV hS rfl) c8 (bY (aA rfl) (.clo _ _ _ _ cmp_3_e (aV hS rfl)) (uI (ev2 (aH hS rfl) (ev2 (aH hS rfl) evn))) rfl (BVs.refl _ _) (cmp_3_h _ _ _  h14) rfl)),
      fun S hS => aK rfl (bK rfl rfl (aA rfl) (aV hS rfl) c8 (bC (aA rfl) (aH hS rfl) rfl rfl)),
      fun S hS => aK rfl (aS rfl (bJ (v := .d (.lit (.bool ((decide (r13 < 0)))))) (aA rfl) (aH hS rfl) c8 (aH hS rfl) rfl)), trivial⟩⟩
    · exact eJ (aO rfl (aZ ⟨rfl, rfl, rfl, rfl, rfl, rfl, trivial⟩))
   ·have h7 := aQ c8 h7
    have h7 := Option.some.inj h7
    subst h7
    refine ⟨[(18, 0, .d (.lit (.int .i64 j_2_4))), (19, 1, .d (.lit (.int .i64 a_1))), (20, 2, .d (.lit (.bool ((decide (a_1 < j_2_4)))))), (21, 3, .d (.lit (.bool ((decide (a_1 < j_2_4)))))), (22, 4, .tup []), (23, 5, .tup []), (24, 6, .tup []), (25, 7, .tup []), (26, 8, .tup []), (27, 9, .tup []), (28, 10, .tup []), (29, 11, .tup []), (30, 12, .tup []), (31, 13, .tup []), (32, 14, .tup []), (33, 15, .tup []), (34, 16, .d (.lit (.bool false)))], ?_, ?_⟩
    · exact ⟨by kernel_rfl, by kernel_rfl, by kernel_rfl, by kernel_rfl, by kernel_rfl, [([], []), ([], []), ([0, 1], []), ([2], []), ([3], []), ([3], []), ([3], []), ([3, 5, 6], []), ([3, 7], []), ([3], []), ([3], []), ([3, 10], []), ([3, 9, 11], []), ([3, 12], []), ([3, 4, 8, 13], []), ([3, 14], []), ([3, 15], [])], by kernel_rfl, ⟨fun S hS => aK rfl (aS rfl (aC (v := .d (.lit (.int .i64 j_2_4))) (aA rfl) (aH hS rfl) rfl)),
      fun S hS => aK rfl (aS rfl (aC (v := .d (.lit (.int .i64 a_1))) (aA rfl) (aH hS rfl) rfl)),
      fun S hS => aK rfl (aS rfl (bC (aA rfl) (aH hS rfl) (aH hS rfl) rfl)),
      fun S hS => aK rfl (aS rfl (aC (v := .d (.lit (.bool ((decide (a_1 < j_2_4)))))) (aA rfl) (aH hS rfl) rfl)),
      fun S hS => aK rfl (bF rfl rfl (aA rfl) rfl (aA rfl) (aV hS rfl) c8),
      fun S hS => aK rfl (bF rfl rfl (aA rfl) rfl (aA rfl) (aV hS rfl) c8),
      fun S hS => aK rfl (bF rfl rfl (aA rfl) rfl (aA rfl) (aV hS rfl) c8),
      fun S hS => aK rfl (bF rfl rfl (aA rfl) rfl (aA rfl) (aV hS rfl) c8),
      fun S hS => aK rfl (bF rfl rfl (aA rfl) rfl (aA rfl) (aV hS rfl) c8),
      fun S hS => aK rfl (bF rfl rfl (aA rfl) rfl (aA rfl) (aV hS rfl) c8),
      fun S hS => aK rfl (bF rfl rfl (aA rfl) rfl (aA rfl) (aV hS rfl) c8),
      fun S hS => aK rfl (bF rfl rfl (aA rfl) rfl (aA rfl) (aV hS rfl) c8),
      fun S hS => aK rfl (bF rfl rfl (aA rfl) rfl (aA rfl) (aV hS rfl) c8),
      fun S hS => aK rfl (bF rfl rfl (aA rfl) rfl (aA rfl) (aV hS rfl) c8),
      fun S hS => aK rfl (bF rfl rfl (aA rfl) rfl (aA rfl) (aV hS rfl) c8),
      fun S hS => aK rfl (bF rfl rfl (aA rfl) rfl (aA rfl) (aV hS rfl) c8),
      fun S hS => aK rfl (aS rfl (bI (v := .d (.lit (.bool false))) (aA rfl) (aH hS rfl) c8 rfl rfl)), trivial⟩⟩
    · exact eJ (aO rfl (aZ ⟨rfl, rfl, rfl, rfl, rfl, rfl, trivial⟩))
  ·refine aF ?_
   refine bN rfl (fun c15 => ?_) (fun c15 => ?_)
   ·have h := aR c15 h
    refine bH ?_
    refine aG ?_
    refine bT ?_
    obtain ⟨x17, h18, h⟩ := bind_some h
    obtain ⟨x19, h20, h⟩ := bind_some h
    obtain ⟨x21, h22, h⟩ := bind_some h
    refine nG mix 16 [0, 1, 2, 3, 8, 9] (fun X16 => [(39, .d (.lit data_0_v)), (41, .d (.lit (.int .i64 ((w64 (j_2_4 - 1)))))), (50, .agg (aD x19))]) (fun X16 => [.arr data_0_v 42 5 ((data_2_4.set j_2_4.toNat x17).map aD)]) ?_ ?_
    ·refine ⟨0, fun X16 => [(37, 0, .d (.lit data_0_v)), (38, 1, .d (.lit (.int .i64 j_2_4))), (39, 2, .d (.lit data_0_v)), (40, 3, .d (.lit (.int .i64 j_2_4))), (41, 4, .d (.lit (.int .i64 ((w64 (j_2_4 - 1)))))), (42, 5, .d (.lit data_0_v)), (43, 6, .d (.lit (.int .i64 j_2_4))), (44, 7, .d (.lit (.int .i64 ((w64 (j_2_4 - 1)))))), (45, 8, .ep data_0_v 5 (w64 (j_2_4 - 1)).toNat 0), (46, 9, .agg (aD x17)), (47, 10, .d (.lit data_0_v)), (48, 11, .d (.lit (.int .i64 j_2_4))), (49, 12, .ep data_0_v 5 j_2_4.toNat 0), (50, 13, .agg (aD x19)), (51, 14, .ep data_0_v 5 j_2_4.toNat 0)], fun X16 => [([(15, .arr data_0_v 42 5 ((data_2_4.set j_2_4.toNat x17).map aD))], .arr data_0_v 42 5 (data_2_4.map aD))], ?_, ?_⟩
     · exact ⟨by kernel_rfl, by kernel_rfl, by kernel_rfl, fun _ => by kernel_rfl, fun _ => by kernel_rfl, fun _ => by kernel_rfl, fun _ => rfl, [([], [15]), ([], [15]), ([], []), ([], []), ([3], []), ([], [15]), ([], [15]), ([6], [15]), ([5, 7], [15]), ([8], [15]), ([], [15]), ([], [15]), ([10, 11], [15]), ([12], [15]), ([0, 1], [15]), ([9, 14], [])], by kernel_rfl, ⟨fun X16 S hw hi hS => bO (X := X16) rfl (hw X16) rfl (aS rfl (aC (v := .d (.lit data_0_v)) (aA rfl) (aH hS rfl) rfl)),
      fun X16 S hw hi hS => bO (X := X16) rfl (hw X16) rfl (aS rfl (aC (v := .d (.lit (.int .i64 j_2_4))) (aA rfl) (aH hS rfl) rfl)),
      fun X16 S hw hi hS => bO (X := X16) rfl (hw X16) rfl (aS rfl (aC (v := .d (.lit data_0_v)) (aA rfl) (aH hS rfl) rfl)),
      fun X16 S hw hi hS => bO (X := X16) rfl (hw X16) rfl (aS rfl (aC (v := .d (.lit (.int .i64 j_2_4))) (aA rfl) (aH hS rfl) rfl)),
      fun X16 S hw hi hS => bO (X := X16) rfl (hw X16) rfl (aS rfl (bA (aA rfl) (aH hS rfl) rfl rfl)),
      fun X16 S hw hi hS => bO (X := X16) rfl (hw X16) rfl (aS rfl (aC (v := .d (.lit data_0_v)) (aA rfl) (aH hS rfl) rfl)),
      fun X16 S hw hi hS => bO (X := X16) rfl (hw X16) rfl (aS rfl (aC (v := .d (.lit (.int .i64 j_2_4))) (aA rfl) (aH hS rfl) rfl)),
      fun X16 S hw hi hS => bO (X := X16) rfl (hw X16) rfl (aS rfl (bA (aA rfl) (aH hS rfl) rfl rfl)),
      fun X16 S hw hi hS => bO (X := X16) rfl (hw X16) rfl (aS rfl (cC (m := 0) (aA rfl) (aH hS rfl) (og hS rfl rfl) (aH hS rfl) cA.of (bP aD h18))),
      fun X16 S hw hi hS => bO (X := X16) rfl (hw X16) rfl (aS rfl (dG (aA rfl) (aH hS rfl) (l := 0) (og hS rfl rfl) (dX aD h18) eI (es := (aD x17)) rfl rfl)),
      fun X16 S hw hi hS => bO (X := X16) rfl (hw X16) rfl (aS rfl (aC (v := .d (.lit data_0_v)) (aA rfl) (aH hS rfl) rfl)),
      fun X16 S hw hi hS => bO (X := X16) rfl (hw X16) rfl (aS rfl (aC (v := .d (.lit (.int .i64 j_2_4))) (aA rfl) (aH hS rfl) rfl)),
      fun X16 S hw hi hS => bO (X := X16) rfl (hw X16) rfl (aS rfl (cC (m := 0) (aA rfl) (aH hS rfl) (og hS rfl rfl) (aH hS rfl) cA.of (bP aD h20))),
      fun X16 S hw hi hS => bO (X := X16) rfl (hw X16) rfl (aS rfl (dG (aA rfl) (aH hS rfl) (l := 0) (og hS rfl rfl) (dX aD h20) eI (es := (aD x19)) rfl rfl)),
      fun X16 S hw hi hS => bO (X := X16) rfl (hw X16) rfl (aS rfl (cC (m := 0) (aA rfl) (aH hS rfl) (og hS rfl rfl) (aH hS rfl) cA.of (bP aD h22))),
      fun X16 S hw hi hS => rJ (X := X16) hS rfl rfl rfl (p := 0) rfl rfl (aS rfl (iT (l := 0) (aH hS rfl) (og hS rfl rfl) (dX aD h22) (aH hS rfl) rfl rfl Try.sizeOf42 rfl (aA rfl) (Nat.le_of_ble_eq_true rfl) (rows' := ((data_2_4.set j_2_4.toNat x17)).map aD) (mH _ _ _ _ rfl))), trivial⟩⟩
     · exact fun X16 => eJ (aO rfl (aO rfl (aO rfl (aZ ⟨rfl, rfl, rfl, rfl, rfl, rfl, trivial⟩))))
    ·intro X16
     obtain ⟨x23, h24, h⟩ := bind_some h
     refine tr1 rfl (cC (m := 0) (aA rfl) rfl rfl rfl cA.of (bP aD h24)) ?_
     refine tr1 rfl (iT (l := 0) rfl rfl (dX aD h24) rfl rfl rfl Try.sizeOf42 rfl (aA rfl) (Nat.le_of_ble_eq_true rfl) (rows' := (((data_2_4.set j_2_4.toNat x17).set (w64 (j_2_4 - 1)).toNat x19)).map aD) (mH _ _ _ _ rfl)) ?_
     refine eH ?_
     refine aE ?_
     refine tr1 rfl (aC (v := .d (.lit (.int .i64 j_2_4))) (aA rfl) rfl rfl) ?_
     refine tr1 rfl (bA (aA rfl) rfl rfl rfl) ?_
     refine tr1 rfl (aJ (v := .d (.lit (.int .i64 ((w64 (j_2_4 - 1)))))) (aA rfl) rfl rfl) ?_
     refine aF ?_
     exact ⟨(w64 (j_2_4 - 1), ((data_2_4.set j_2_4.toNat x17).set (w64 (j_2_4 - 1)).toNat x19)), h, aY [0] rfl rfl (aO rfl (aO rfl (aZ ⟨rfl, rfl, rfl, rfl, trivial⟩)))⟩
   ·have h := aQ c15 h
    refine cX ?_
    refine .inl ⟨rfl, ?_⟩
    simp only [fA] at h
    simp only [eZ] at h
    refine aE ?_
    refine tr1 rfl (aC (v := .d (.lit (.int .i64 i_0_1))) (aA rfl) rfl rfl) ?_
    refine tr1 rfl (bA (aA rfl) rfl rfl rfl) ?_
    refine tr1 rfl (aJ (v := .d (.lit (.int .i64 ((w64 (i_0_1 + 1)))))) (aA rfl) rfl rfl) ?_
    refine aF ?_
    exact ⟨(w64 (i_0_1 + 1), data_2_4), h, aY [0] rfl rfl (aO rfl (aO rfl (aZ ⟨rfl, rfl, rfl, trivial⟩)))⟩
 ·have h := aQ c3 h
  refine cX ?_
  refine .inl ⟨rfl, ?_⟩
  simp only [eY] at h
  have h := Option.some.inj h
  subst h
  exact ⟨_, [.arr data_0_v 42 5 (data_0_1.map aD)], [], _, .none, .refl _, .same _, rfl, rfl⟩

theorem iK (data_0 : List aB) (a_1 : Int) (b_2 : Int) (n_3 : Int) (cmp_4 : aB → aB → Option Int) {r : (List aB)} {data_0_v : Value} (cmp_4_f : Nat) (cmp_4_v : List AV) (cmp_4_e : ∀ args w, (callFunc cmp_4_f args).run Try.prog w = .ok (.enter cmp_4_f args) w) (cmp_4_h : ∀ (x0 : aB) (x1 : aB) r, cmp_4 x0 x1 = some r → Fn Try.prog cmp_4_f ([.agg (aD x0), .agg (aD x1)] ++ cmp_4_v) (.d (.lit (.int .i64 r)))) (h : dS data_0 a_1 b_2 n_3 cmp_4 = some r) : fT Try.prog 141 [.d (.lit data_0_v), .d (.lit (.int .i64 a_1)), .d (.lit (.int .i64 b_2)), .d (.lit (.int .i64 n_3)), .fn cmp_4_f cmp_4_v] [.arr data_0_v 42 5 (data_0.map aD)] (fun r' o' => r' = .tup [] ∧ o' = [.arr data_0_v 42 5 (r.map aD)]) := by
 unfold dS at h
 refine jF Try.func141 rfl (rs := []) Try.results141 Try.ntmps141 (Nat.le_of_ble_eq_true rfl) ?_
 refine aG ?_
 refine aE ?_
 refine tr1 rfl (aJ (v := .d (.lit (.int .i64 0))) (aA rfl) rfl rfl) ?_
 refine aF ?_
 refine bT ?_
 refine cM [1, 2, 3] (fun (s1 : Int × (List aB)) => [(0, .d (.lit data_0_v)), (10, .d (.lit (.int .i64 s1.1)))]) (fun (s1 : Int × (List aB)) => [.arr data_0_v 42 5 (s1.2.map aD)]) (fun (k : Nat) (s1 : Int × (List aB)) => dL a_1 b_2 n_3 k s1.1 s1.2) (fun _ => rfl) (0, data_0) h (aY [0] rfl rfl (aO rfl (aO rfl (aZ ⟨rfl, rfl, rfl, trivial⟩)))) ?_
 rintro k2 ⟨i_0_1, data_0_1⟩ h
 simp only [dL] at h
 refine aG ?_
 refine aG ?_
 refine aE ?_
 refine tr1 rfl (aC (v := .d (.lit (.int .i64 i_0_1))) (aA rfl) rfl rfl) ?_
 refine tr1 rfl (aC (v := .d (.lit (.int .i64 n_3))) (aA rfl) rfl rfl) ?_
 refine tr1 rfl (bC (aA rfl) rfl rfl rfl) ?_
 refine aF ?_
 refine bN rfl (fun c3 => ?_) (fun c3 => ?_)
 ·have h := aR c3 h
  refine bH ?_
  refine aG ?_
  refine bT ?_
  obtain ⟨x5, h6, h⟩ := bind_some h
  obtain ⟨x7, h8, h⟩ := bind_some h
  obtain ⟨x9, h10, h⟩ := bind_some h
  refine nG mix 22 [0, 1, 2, 3, 10] (fun X4 => [(20, .d (.lit data_0_v)), (23, .d (.lit (.int .i64 ((w64 (b_2 + i_0_1)))))), (35, .agg (aD x7))]) (fun X4 => [.arr data_0_v 42 5 ((data_0_1.set (w64 (a_1 + i_0_1)).toNat x5).map aD)]) ?_ ?_
  ·refine ⟨0, fun X4 => [(16, 0, .d (.lit data_0_v)), (17, 1, .d (.lit (.int .i64 a_1))), (18, 2, .d (.lit (.int .i64 i_0_1))), (19, 3, .d (.lit (.int .i64 ((w64 (a_1 + i_0_1)))))), (20, 4, .d (.lit data_0_v)), (21, 5, .d (.lit (.int .i64 b_2))), (22, 6, .d (.lit (.int .i64 i_0_1))), (23, 7, .d (.lit (.int .i64 ((w64 (b_2 + i_0_1)))))), (24, 8, .d (.lit data_0_v)), (25, 9, .d (.lit (.int .i64 b_2))), (26, 10, .d (.lit (.int .i64 i_0_1))), (27, 11, .d (.lit (.int .i64 ((w64 (b_2 + i_0_1)))))), (28, 12, .ep data_0_v 5 (w64 (b_2 + i_0_1)).toNat 0), (29, 13, .agg (aD x5)), (30, 14, .d (.lit data_0_v)), (31, 15, .d (.lit (.int .i64 a_1))), (32, 16, .d (.lit (.int .i64 i_0_1))), (33, 17, .d (.lit (.int .i64 ((w64 (a_1 + i_0_1)))))), (34, 18, .ep data_0_v 5 (w64 (a_1 + i_0_1)).toNat 0), (35, 19, .agg (aD x7)), (36, 20, .ep data_0_v 5 (w64 (a_1 + i_0_1)).toNat 0)], fun X4 => [([(21, .arr data_0_v 42 5 ((data_0_1.set (w64 (a_1 + i_0_1)).toNat x5).map aD))], .arr data_0_v 42 5 (data_0_1.map aD))], ?_, ?_⟩
   · exact ⟨by kernel_rfl, by kernel_rfl, by kernel_rfl, fun _ => by kernel_rfl, fun _ => by kernel_rfl, fun _ => by kernel_rfl, fun _ => rfl, [([], [21]), ([], [21]), ([], [21]), ([1, 2], [21]), ([], []), ([], []), ([], []), ([5, 6], []), ([], [21]), ([], [21]), ([], [21]), ([9, 10], [21]), ([8, 11], [21]), ([12], [21]), ([], [21]), ([], [21]), ([], [21]), ([15, 16], [21]), ([14, 17], [21]), ([18], [21]), ([0, 3], [21]), ([13, 20], [])], by kernel_rfl, ⟨fun X4 S hw hi hS => bO (X := X4) rfl (hw X4) rfl (aS rfl (aC (v := .d (.lit data_0_v)) (aA rfl) (aH hS rfl) rfl)),
      fun X4 S hw hi hS => bO (X := X4) rfl (hw X4) rfl (aS rfl (aC (v := .d (.lit (.int .i64 a_1))) (aA rfl) (aH hS rfl) rfl)),
      fun X4 S hw hi hS => bO (X := X4) rfl (hw X4) rfl (aS rfl (aC (v := .d (.lit (.int .i64 i_0_1))) (aA rfl) (aH hS rfl) rfl)),
      fun X4 S hw hi hS => bO (X := X4) rfl (hw X4) rfl (aS rfl (bA (aA rfl) (aH hS rfl) (aH hS rfl) rfl)),
      fun X4 S hw hi hS => bO (X := X4) rfl (hw X4) rfl (aS rfl (aC (v := .d (.lit data_0_v)) (aA rfl) (aH hS rfl) rfl)),
      fun X4 S hw hi hS => bO (X := X4) rfl (hw X4) rfl (aS rfl (aC (v := .d (.lit (.int .i64 b_2))) (aA rfl) (aH hS rfl) rfl)),
      fun X4 S hw hi hS => bO (X := X4) rfl (hw X4) rfl (aS rfl (aC (v := .d (.lit (.int .i64 i_0_1))) (aA rfl) (aH hS rfl) rfl)),
      fun X4 S hw hi hS => bO (X := X4) rfl (hw X4) rfl (aS rfl (bA (aA rfl) (aH hS rfl) (aH hS rfl) rfl)),
      fun X4 S hw hi hS => bO (X := X4) rfl (hw X4) rfl (aS rfl (aC (v := .d (.lit data_0_v)) (aA rfl) (aH hS rfl) rfl)),
      fun X4 S hw hi hS => bO (X := X4) rfl (hw X4) rfl (aS rfl (aC (v := .d (.lit (.int .i64 b_2))) (aA rfl) (aH hS rfl) rfl)),
      fun X4 S hw hi hS => bO (X := X4) rfl (hw X4) rfl (aS rfl (aC (v := .d (.lit (.int .i64 i_0_1))) (aA rfl) (aH hS rfl) rfl)),
      fun X4 S hw hi hS => bO (X := X4) rfl (hw X4) rfl (aS rfl (bA (aA rfl) (aH hS rfl) (aH hS rfl) rfl)),
      fun X4 S hw hi hS => bO (X := X4) rfl (hw X4) rfl (aS rfl (cC (m := 0) (aA rfl) (aH hS rfl) (og hS rfl rfl) (aH hS rfl) cA.of (bP aD h6))),
      fun X4 S hw hi hS => bO (X := X4) rfl (hw X4) rfl (aS rfl (dG (aA rfl) (aH hS rfl) (l := 0) (og hS rfl rfl) (dX aD h6) eI (es := (aD x5)) rfl rfl)),
      fun X4 S hw hi hS => bO (X := X4) rfl (hw X4) rfl (aS rfl (aC (v := .d (.lit data_0_v)) (aA rfl) (aH hS rfl) rfl)),
      fun X4 S hw hi hS => bO (X := X4) rfl (hw X4) rfl (aS rfl (aC (v := .d (.lit (.int .i64 a_1))) (aA rfl) (aH hS rfl) rfl)),
      fun X4 S hw hi hS => bO (X := X4) rfl (hw X4) rfl (aS rfl (aC (v := .d (.lit (.int .i64 i_0_1))) (aA rfl) (aH hS rfl) rfl)),
      fun X4 S hw hi hS => bO (X := X4) rfl (hw X4) rfl (aS rfl (bA (aA rfl) (aH hS rfl) (aH hS rfl) rfl)),
      fun X4 S hw hi hS => bO (X := X4) rfl (hw X4) rfl (aS rfl (cC (m := 0) (aA rfl) (aH hS rfl) (og hS rfl rfl) (aH hS rfl) cA.of (bP aD h8))),
      fun X4 S hw hi hS => bO (X := X4) rfl (hw X4) rfl (aS rfl (dG (aA rfl) (aH hS rfl) (l := 0) (og hS rfl rfl) (dX aD h8) eI (es := (aD x7)) rfl rfl)),
      fun X4 S hw hi hS => bO (X := X4) rfl (hw X4) rfl (aS rfl (cC (m := 0) (aA rfl) (aH hS rfl) (og hS rfl rfl) (aH hS rfl) cA.of (bP aD h10))),
      fun X4 S hw hi hS => rJ (X := X4) hS rfl rfl rfl (p := 0) rfl rfl (aS rfl (iT (l := 0) (aH hS rfl) (og hS rfl rfl) (dX aD h10) (aH hS rfl) rfl rfl Try.sizeOf42 rfl (aA rfl) (Nat.le_of_ble_eq_true rfl) (rows' := ((data_0_1.set (w64 (a_1 + i_0_1)).toNat x5)).map aD) (mH _ _ _ _ rfl))), trivial⟩⟩
   · exact fun X4 => eJ (aO rfl (aO rfl (aO rfl (aZ ⟨rfl, rfl, rfl, rfl, rfl, trivial⟩))))
  ·intro X4
   obtain ⟨x11, h12, h⟩ := bind_some h
   refine tr1 rfl (cC (m := 0) (aA rfl) rfl rfl rfl cA.of (bP aD h12)) ?_
   refine tr1 rfl (iT (l := 0) rfl rfl (dX aD h12) rfl rfl rfl Try.sizeOf42 rfl (aA rfl) (Nat.le_of_ble_eq_true rfl) (rows' := (((data_0_1.set (w64 (a_1 + i_0_1)).toNat x5).set (w64 (b_2 + i_0_1)).toNat x7)).map aD) (mH _ _ _ _ rfl)) ?_
   refine eH ?_
   refine aE ?_
   refine tr1 rfl (aC (v := .d (.lit (.int .i64 i_0_1))) (aA rfl) rfl rfl) ?_
   refine tr1 rfl (bA (aA rfl) rfl rfl rfl) ?_
   refine tr1 rfl (aJ (v := .d (.lit (.int .i64 ((w64 (i_0_1 + 1)))))) (aA rfl) rfl rfl) ?_
   refine aF ?_
   exact ⟨(w64 (i_0_1 + 1), ((data_0_1.set (w64 (a_1 + i_0_1)).toNat x5).set (w64 (b_2 + i_0_1)).toNat x7)), h, aY [0] rfl rfl (aO rfl (aO rfl (aZ ⟨rfl, rfl, rfl, trivial⟩)))⟩
 ·have h := aQ c3 h
  refine cX ?_
  refine .inl ⟨rfl, ?_⟩
  simp only [iB] at h
  have h := Option.some.inj h
  subst h
  exact ⟨_, [.arr data_0_v 42 5 (data_0_1.map aD)], [], _, .none, .refl _, .same _, rfl, rfl⟩

theorem mE (data_0 : List aB) (a_1 : Int) (m_2 : Int) (b_3 : Int) (cmp_4 : aB → aB → Option Int) {r : (List aB)} {data_0_v : Value} (cmp_4_f : Nat) (cmp_4_v : List AV) (cmp_4_e : ∀ args w, (callFunc cmp_4_f args).run Try.prog w = .ok (.enter cmp_4_f args) w) (cmp_4_h : ∀ (x0 : aB) (x1 : aB) r, cmp_4 x0 x1 = some r → Fn Try.prog cmp_4_f ([.agg (aD x0), .agg (aD x1)] ++ cmp_4_v) (.d (.lit (.int .i64 r)))) (h : eP data_0 a_1 m_2 b_3 cmp_4 = some r) : fT Try.prog 138 [.d (.lit data_0_v), .d (.lit (.int .i64 a_1)), .d (.lit (.int .i64 m_2)), .d (.lit (.int .i64 b_3)), .fn cmp_4_f cmp_4_v] [.arr data_0_v 42 5 (data_0.map aD)] (fun r' o' => r' = .tup [] ∧ o' = [.arr data_0_v 42 5 (r.map aD)]) := by
 unfold eP at h
 refine jF Try.func138 rfl (rs := []) Try.results138 Try.ntmps138 (Nat.le_of_ble_eq_true rfl) ?_
 refine aG ?_
 refine aE ?_
 refine tr1 rfl (aC (v := .d (.lit (.int .i64 m_2))) (aA rfl) rfl rfl) ?_
 refine tr1 rfl (aC (v := .d (.lit (.int .i64 a_1))) (aA rfl) rfl rfl) ?_
 refine tr1 rfl (bA (aA rfl) rfl rfl rfl) ?_
 refine tr1 rfl (aJ (v := .d (.lit (.int .i64 ((w64 (m_2 - a_1)))))) (aA rfl) rfl rfl) ?_
 refine aF ?_
 refine aG ?_
 refine aE ?_
 refine tr1 rfl (aC (v := .d (.lit (.int .i64 b_3))) (aA rfl) rfl rfl) ?_
 refine tr1 rfl (aC (v := .d (.lit (.int .i64 m_2))) (aA rfl) rfl rfl) ?_
 refine tr1 rfl (bA (aA rfl) rfl rfl rfl) ?_
 refine tr1 rfl (aJ (v := .d (.lit (.int .i64 ((w64 (b_3 - m_2)))))) (aA rfl) rfl rfl) ?_
 refine aF ?_
 refine aG ?_
 refine bT ?_
 refine cM [2, 4] (fun (s1 : Int × Int × (List aB)) => [(0, .d (.lit data_0_v)), (10, .d (.lit (.int .i64 s1.1))), (11, .d (.lit (.int .i64 s1.2.1)))]) (fun (s1 : Int × Int × (List aB)) => [.arr data_0_v 42 5 (s1.2.2.map aD)]) (fun (k : Nat) (s1 : Int × Int × (List aB)) => cZ m_2 cmp_4 k s1.1 s1.2.1 s1.2.2) (fun _ => rfl) (w64 (m_2 - a_1), w64 (b_3 - m_2), data_0) h (aY [0] rfl rfl (aO rfl (aO rfl (aO rfl (aZ ⟨rfl, rfl, trivial⟩))))) ?_
 rintro k2 ⟨i_0_1, j_0_1, data_0_1⟩ h
 simp only [cZ] at h
 refine aG ?_
 refine aG ?_
 refine aE ?_
 refine tr1 rfl (aC (v := .d (.lit (.int .i64 i_0_1))) (aA rfl) rfl rfl) ?_
 refine tr1 rfl (aC (v := .d (.lit (.int .i64 j_0_1))) (aA rfl) rfl rfl) ?_
 refine tr1 rfl (bC (aA rfl) rfl rfl rfl) ?_
 refine aF ?_
 refine bN rfl (fun c3 => ?_) (fun c3 => ?_)
 ·have h := aR c3 h
  refine bH ?_
  refine bT ?_
  refine aG ?_
  refine aE ?_
  refine tr1 rfl (aC (v := .d (.lit (.int .i64 i_0_1))) (aA rfl) rfl rfl) ?_
  refine tr1 rfl (aC (v := .d (.lit (.int .i64 j_0_1))) (aA rfl) rfl rfl) ?_
  refine tr1 rfl (bC (aA rfl) rfl rfl rfl) ?_
  refine aF ?_
  refine bN rfl (fun c4 => ?_) (fun c4 => ?_)
  ·have h := aR c4 h
   refine aG ?_
   refine aE ?_
   refine tr1 rfl (aC (v := .d (.lit data_0_v)) (aA rfl) rfl rfl) ?_
   refine tr1 rfl (aC (v := .d (.lit (.int .i64 m_2))) (aA rfl) rfl rfl) ?_
   refine tr1 rfl (aC (v := .d (.lit (.int .i64 i_0_1))) (aA rfl) rfl rfl) ?_
   refine tr1 rfl (bA (aA rfl) rfl rfl rfl) ?_
   refine tr1 rfl (aC (v := .d (.lit (.int .i64 m_2))) (aA rfl) rfl rfl) ?_
   refine tr1 rfl (aC (v := .d (.lit (.int .i64 j_0_1))) (aA rfl) rfl rfl) ?_
   refine tr1 rfl (aC (v := .fn cmp_4_f cmp_4_v) (aA rfl) rfl rfl) ?_
   obtain ⟨r5, h6, h⟩ := bind_some h
   refine bR rfl (dP (passed := [.arr data_0_v 42 5 (data_0_1.map aD)]) (aA rfl) rfl (.func _ _ Try.call141) rfl rfl (iK data_0_1 (w64 (m_2 - i_0_1)) m_2 j_0_1 cmp_4 cmp_4_f cmp_4_v cmp_4_e cmp_4_h h6)) ?_
   rintro _ ⟨_, _, ⟨rfl, rfl⟩, rfl⟩
   refine aF ?_
   refine aE ?_
   refine tr1 rfl (aC (v := .d (.lit (.int .i64 i_0_1))) (aA rfl) rfl rfl) ?_
   refine tr1 rfl (aC (v := .d (.lit (.int .i64 j_0_1))) (aA rfl) rfl rfl) ?_
   refine tr1 rfl (bA (aA rfl) rfl rfl rfl) ?_
   refine tr1 rfl (aJ (v := .d (.lit (.int .i64 ((w64 (i_0_1 - j_0_1)))))) (aA rfl) rfl rfl) ?_
   refine eH ?_
   exact ⟨(w64 (i_0_1 - j_0_1), j_0_1, r5), h, aY [0] rfl rfl (aO rfl (aO rfl (aO rfl (aZ ⟨rfl, rfl, trivial⟩))))⟩
  ·have h := aQ c4 h
   refine aG ?_
   refine aE ?_
   refine tr1 rfl (aC (v := .d (.lit data_0_v)) (aA rfl) rfl rfl) ?_
   refine tr1 rfl (aC (v := .d (.lit (.int .i64 m_2))) (aA rfl) rfl rfl) ?_
   refine tr1 rfl (aC (v := .d (.lit (.int .i64 i_0_1))) (aA rfl) rfl rfl) ?_
   refine tr1 rfl (bA (aA rfl) rfl rfl rfl) ?_
   refine tr1 rfl (aC (v := .d (.lit (.int .i64 m_2))) (aA rfl) rfl rfl) ?_
   refine tr1 rfl (aC (v := .d (.lit (.int .i64 j_0_1))) (aA rfl) rfl rfl) ?_
   refine tr1 rfl (bA (aA rfl) rfl rfl rfl) ?_
   refine tr1 rfl (aC (v := .d (.lit (.int .i64 i_0_1))) (aA rfl) rfl rfl) ?_
   refine tr1 rfl (bA (aA rfl) rfl rfl rfl) ?_
   refine tr1 rfl (aC (v := .d (.lit (.int .i64 i_0_1))) (aA rfl) rfl rfl) ?_
   refine tr1 rfl (aC (v := .fn cmp_4_f cmp_4_v) (aA rfl) rfl rfl) ?_
   obtain ⟨r7, h8, h⟩ := bind_some h
   refine bR rfl (dP (passed := [.arr data_0_v 42 5 (data_0_1.map aD)]) (aA rfl) rfl (.func _ _ Try.call141) rfl rfl (iK data_0_1 (w64 (m_2 - i_0_1)) (w64 ((w64 (m_2 + j_0_1)) - i_0_1)) i_0_1 cmp_4 cmp_4_f cmp_4_v cmp_4_e cmp_4_h h8)) ?_
   rintro _ ⟨_, _, ⟨rfl, rfl⟩, rfl⟩
   refine aF ?_
   refine aE ?_
   refine tr1 rfl (aC (v := .d (.lit (.int .i64 j_0_1))) (aA rfl) rfl rfl) ?_
   refine tr1 rfl (aC (v := .d (.lit (.int .i64 i_0_1))) (aA rfl) rfl rfl) ?_
   refine tr1 rfl (bA (aA rfl) rfl rfl rfl) ?_
   refine tr1 rfl (aJ (v := .d (.lit (.int .i64 ((w64 (j_0_1 - i_0_1)))))) (aA rfl) rfl rfl) ?_
   refine eH ?_
   exact ⟨(i_0_1, w64 (j_0_1 - i_0_1), r7), h, aY [0] rfl rfl (aO rfl (aO rfl (aO rfl (aZ ⟨rfl, rfl, trivial⟩))))⟩
 ·have h := aQ c3 h
  refine cX ?_
  refine .inl ⟨rfl, ?_⟩
  simp only [iW] at h
  refine aE ?_
  refine tr1 rfl (aC (v := .d (.lit data_0_v)) (aA rfl) rfl rfl) ?_
  refine tr1 rfl (aC (v := .d (.lit (.int .i64 m_2))) (aA rfl) rfl rfl) ?_
  refine tr1 rfl (aC (v := .d (.lit (.int .i64 i_0_1))) (aA rfl) rfl rfl) ?_
  refine tr1 rfl (bA (aA rfl) rfl rfl rfl) ?_
  refine tr1 rfl (aC (v := .d (.lit (.int .i64 m_2))) (aA rfl) rfl rfl) ?_
  refine tr1 rfl (aC (v := .d (.lit (.int .i64 i_0_1))) (aA rfl) rfl rfl) ?_
  refine tr1 rfl (aC (v := .fn cmp_4_f cmp_4_v) (aA rfl) rfl rfl) ?_
  obtain ⟨r9, h10, h⟩ := bind_some h
  refine bR rfl (dP (passed := [.arr data_0_v 42 5 (data_0_1.map aD)]) (aA rfl) rfl (.func _ _ Try.call141) rfl rfl (iK data_0_1 (w64 (m_2 - i_0_1)) m_2 i_0_1 cmp_4 cmp_4_f cmp_4_v cmp_4_e cmp_4_h h10)) ?_
  rintro _ ⟨_, _, ⟨rfl, rfl⟩, rfl⟩
  refine aF ?_
  have h := Option.some.inj h
  subst h
  exact ⟨_, [.arr data_0_v 42 5 (r9.map aD)], [], _, .none, .refl _, .same _, rfl, rfl⟩

theorem pL (cmp_4 : aB → aB → Option Int) (cmp_4_f : Nat) (cmp_4_v : List AV) (cmp_4_e : ∀ args w, (callFunc cmp_4_f args).run Try.prog w = .ok (.enter cmp_4_f args) w) (cmp_4_h : ∀ (x0 : aB) (x1 : aB) r, cmp_4 x0 x1 = some r → Fn Try.prog cmp_4_f ([.agg (aD x0), .agg (aD x1)] ++ cmp_4_v) (.d (.lit (.int .i64 r)))) (kr : Nat) : ∀ (data_0 : List aB) (a_1 : Int) (m_2 : Int) (b_3 : Int) {r : (List aB)} {data_0_v : Value} (_h : bE cmp_4 kr data_0 a_1 m_2 b_3 = some r), fT Try.prog 128 [.d (.lit data_0_v), .d (.lit (.int .i64 a_1)), .d (.lit (.int .i64 m_2)), .d (.lit (.int .i64 b_3)), .fn cmp_4_f cmp_4_v] [.arr data_0_v 42 5 (data_0.map aD)] (fun r' o' => r' = .tup [] ∧ o' = [.arr data_0_v 42 5 (r.map aD)]) := by
  induction kr with
  | zero => intros; rename_i h; cases h
  | succ kr ih =>
    intro data_0 a_1 m_2 b_3 r data_0_v h
    simp only [bE] at h
    refine jF Try.func128 rfl (rs := []) Try.results128 Try.ntmps128 (Nat.le_of_ble_eq_true rfl) ?_
    refine aG ?_
    refine aG ?_
    refine aE ?_
    refine tr1 rfl (aC (v := .d (.lit (.int .i64 m_2))) (aA rfl) rfl rfl) ?_
    refine tr1 rfl (aC (v := .d (.lit (.int .i64 a_1))) (aA rfl) rfl rfl) ?_
    refine tr1 rfl (bA (aA rfl) rfl rfl rfl) ?_
    refine tr1 rfl (bC (aA rfl) rfl rfl rfl) ?_
    refine aF ?_
    refine bN rfl (fun c1 => ?_) (fun c1 => ?_)
    ·have h := aR c1 h
     refine aG ?_
     refine aE ?_
     refine tr1 rfl (aC (v := .d (.lit (.int .i64 m_2))) (aA rfl) rfl rfl) ?_
     refine tr1 rfl (aJ (v := .d (.lit (.int .i64 m_2))) (aA rfl) rfl rfl) ?_
     refine aF ?_
     refine aG ?_
     refine aE ?_
     refine tr1 rfl (aC (v := .d (.lit (.int .i64 b_3))) (aA rfl) rfl rfl) ?_
     refine tr1 rfl (aJ (v := .d (.lit (.int .i64 b_3))) (aA rfl) rfl rfl) ?_
     refine aF ?_
     refine aG ?_
     refine bT ?_
     refine cM [0, 1, 4] (fun (s2 : Int × Int) => [(10, .d (.lit (.int .i64 s2.1))), (11, .d (.lit (.int .i64 s2.2)))]) (fun (s2 : Int × Int) => [.arr data_0_v 42 5 (data_0.map aD)]) (fun (k : Nat) (s2 : Int × Int) => cN (bE cmp_4 kr) a_1 cmp_4 data_0 k s2.1 s2.2) (fun _ => rfl) (m_2, b_3) h (aY [0] rfl rfl (aO rfl (aO rfl (aZ ⟨rfl, rfl, rfl, trivial⟩)))) ?_
     rintro k3 ⟨i_0_2, j_0_2⟩ h
     simp only [cN] at h
     refine aG ?_
     refine aG ?_
     refine aE ?_
     refine tr1 rfl (aC (v := .d (.lit (.int .i64 i_0_2))) (aA rfl) rfl rfl) ?_
     refine tr1 rfl (aC (v := .d (.lit (.int .i64 j_0_2))) (aA rfl) rfl rfl) ?_
     refine tr1 rfl (bC (aA rfl) rfl rfl rfl) ?_
     refine aF ?_
     refine bN rfl (fun c4 => ?_) (fun c4 => ?_)
     ·have h := aR c4 h
      refine bH ?_
      refine bT ?_
      refine aG ?_
      refine aE ?_
      refine tr1 rfl (aC (v := .d (.lit (.int .i64 i_0_2))) (aA rfl) rfl rfl) ?_
      refine tr1 rfl (aC (v := .d (.lit (.int .i64 j_0_2))) (aA rfl) rfl rfl) ?_
      refine tr1 rfl (bA (aA rfl) rfl rfl rfl) ?_
      refine tr1 rfl (pJ (aA rfl) rfl Try.runUnderlying3 Try.runUnderlying127) ?_
      refine tr1 rfl (aBf (aA rfl) rfl rfl (by decide)) ?_
      refine tr1 rfl (pJ (aA rfl) rfl Try.runUnderlying127 Try.runUnderlying3) ?_
      refine tr1 rfl (aJ (v := .d (.lit (.int .i64 ((w64 ((IntKind.u64.wrap (w64 (i_0_2 + j_0_2))).fdiv (2 ^ (min (1 : Int).toNat 64)))))))) (aA rfl) rfl rfl) ?_
      refine aF ?_
      refine aG ?_
      obtain ⟨x5, h6, h⟩ := bind_some h
      obtain ⟨x7, h8, h⟩ := bind_some h
      refine hH mix 9 [0, 1, 4, 10, 11, 12] [(40, .fn cmp_4_f cmp_4_v), (44, .agg (aD x5)), (48, .agg (aD x7))] ?_ ?_
      ·refine ⟨[(40, 0, .fn cmp_4_f cmp_4_v), (41, 1, .d (.lit data_0_v)), (42, 2, .d (.lit (.int .i64 ((w64 ((IntKind.u64.wrap (w64 (i_0_2 + j_0_2))).fdiv (2 ^ (min (1 : Int).toNat 64)))))))), (43, 3, .ep data_0_v 5 (w64 ((IntKind.u64.wrap (w64 (i_0_2 + j_0_2))).fdiv (2 ^ (min (1 : Int).toNat 64)))).toNat 0), (44, 4, .agg (aD x5)), (45, 5, .d (.lit data_0_v)), (46, 6, .d (.lit (.int .i64 a_1))), (47, 7, .ep data_0_v 5 a_1.toNat 0), (48, 8, .agg (aD x7))], ?_, ?_⟩
       · exact ⟨by kernel_rfl, by kernel_rfl, by kernel_rfl, by kernel_rfl, by kernel_rfl, [([], []), ([], []), ([], []), ([1, 2], []), ([3], []), ([], []), ([], []), ([5, 6], []), ([7], [])], by kernel_rfl, ⟨fun S hS => aK rfl (aS rfl (aC (v := .fn cmp_4_f cmp_4_v) (aA rfl) (aH hS rfl) rfl)),
      fun S hS => aK rfl (aS rfl (aC (v := .d (.lit data_0_v)) (aA rfl) (aH hS rfl) rfl)),
      fun S hS => aK rfl (aS rfl (aC (v := .d (.lit (.int .i64 ((w64 ((IntKind.u64.wrap (w64 (i_0_2 + j_0_2))).fdiv (2 ^ (min (1 : Int).toNat 64)))))))) (aA rfl) (aH hS rfl) rfl)),
      fun S hS => aK rfl (aS rfl (cC (m := 0) (aA rfl) (aH hS rfl) rfl (aH hS rfl) cA.of (bP aD h6))),
      fun S hS => aK rfl (aS rfl (dG (aA rfl) (aH hS rfl) (l := 0) rfl (dX aD h6) eI (es := (aD x5)) rfl rfl)),
      fun S hS => aK rfl (aS rfl (aC (v := .d (.lit data_0_v)) (aA rfl) (aH hS rfl) rfl)),
      fun S hS => aK rfl (aS rfl (aC (v := .d (.lit (.int .i64 a_1))) (aA rfl) (aH hS rfl) rfl)),
      fun S hS => aK rfl (aS rfl (cC (m := 0) (aA rfl) (aH hS rfl) rfl (aH hS rfl) cA.of (bP aD h8))),
      fun S hS => aK rfl (aS rfl (dG (aA rfl) (aH hS rfl) (l := 0) rfl (dX aD h8) eI (es := (aD x7)) rfl rfl)), trivial⟩⟩
       · exact eJ (aO rfl (aO rfl (aO rfl (aZ ⟨rfl, rfl, rfl, rfl, rfl, rfl, trivial⟩))))
      ·obtain ⟨r9, h10, h⟩ := bind_some h
       refine tr1 rfl (bY (aA rfl) (.clo _ _ _ _ cmp_4_e rfl) (uI rfl) rfl (BVs.refl _ _) (cmp_4_h _ _ _  h10) rfl) ?_
       refine tr1 rfl (bC (aA rfl) rfl rfl rfl) ?_
       refine aF ?_
       refine bN rfl (fun c11 => ?_) (fun c11 => ?_)
       ·have h := aR c11 h
        refine aE ?_
        refine tr1 rfl (aC (v := .d (.lit (.int .i64 ((w64 ((IntKind.u64.wrap (w64 (i_0_2 + j_0_2))).fdiv (2 ^ (min (1 : Int).toNat 64)))))))) (aA rfl) rfl rfl) ?_
        refine tr1 rfl (bA (aA rfl) rfl rfl rfl) ?_
        refine tr1 rfl (aJ (v := .d (.lit (.int .i64 ((w64 ((w64 ((IntKind.u64.wrap (w64 (i_0_2 + j_0_2))).fdiv (2 ^ (min (1 : Int).toNat 64)))) + 1)))))) (aA rfl) rfl rfl) ?_
        refine eH ?_
        exact ⟨(w64 ((w64 ((IntKind.u64.wrap (w64 (i_0_2 + j_0_2))).fdiv (2 ^ (min (1 : Int).toNat 64)))) + 1), j_0_2), h, aY [0] rfl rfl (aO rfl (aO rfl (aZ ⟨rfl, rfl, rfl, trivial⟩)))⟩
       ·have h := aQ c11 h
        refine aE ?_
        refine tr1 rfl (aC (v := .d (.lit (.int .i64 ((w64 ((IntKind.u64.wrap (w64 (i_0_2 + j_0_2))).fdiv (2 ^ (min (1 : Int).toNat 64)))))))) (aA rfl) rfl rfl) ?_
        refine tr1 rfl (aJ (v := .d (.lit (.int .i64 ((w64 ((IntKind.u64.wrap (w64 (i_0_2 + j_0_2))).fdiv (2 ^ (min (1 : Int).toNat 64)))))))) (aA rfl) rfl rfl) ?_
        refine eH ?_
        exact ⟨(i_0_2, w64 ((IntKind.u64.wrap (w64 (i_0_2 + j_0_2))).fdiv (2 ^ (min (1 : Int).toNat 64)))), h, aY [0] rfl rfl (aO rfl (aO rfl (aZ ⟨rfl, rfl, rfl, trivial⟩)))⟩
     ·have h := aQ c4 h
      refine cX ?_
      refine .inl ⟨rfl, ?_⟩
      simp only [fW] at h
      refine aG ?_
      refine aG ?_
      refine aE ?_
      refine tr1 rfl (aC (v := .d (.lit (.int .i64 a_1))) (aA rfl) rfl rfl) ?_
      refine tr1 rfl (aJ (v := .d (.lit (.int .i64 a_1))) (aA rfl) rfl rfl) ?_
      refine aF ?_
      refine bT ?_
      refine cM [10] (fun (s12 : Int × (List aB)) => [(0, .d (.lit data_0_v)), (13, .d (.lit (.int .i64 s12.1)))]) (fun (s12 : Int × (List aB)) => [.arr data_0_v 42 5 (s12.2.map aD)]) (fun (k : Nat) (s12 : Int × (List aB)) => dN (bE cmp_4 kr) i_0_2 k s12.1 s12.2) (fun _ => rfl) (a_1, data_0) h (aY [0] rfl rfl (aO rfl (aO rfl (aZ ⟨rfl, trivial⟩)))) ?_
      rintro k13 ⟨k_2_12, data_2_12⟩ h
      simp only [dN] at h
      refine aG ?_
      refine aG ?_
      refine aE ?_
      refine tr1 rfl (aC (v := .d (.lit (.int .i64 k_2_12))) (aA rfl) rfl rfl) ?_
      refine tr1 rfl (aC (v := .d (.lit (.int .i64 i_0_2))) (aA rfl) rfl rfl) ?_
      refine tr1 rfl (bA (aA rfl) rfl rfl rfl) ?_
      refine tr1 rfl (bC (aA rfl) rfl rfl rfl) ?_
      refine aF ?_
      refine bN rfl (fun c14 => ?_) (fun c14 => ?_)
      ·have h := aR c14 h
       refine bH ?_
       refine aG ?_
       refine bT ?_
       obtain ⟨x16, h17, h⟩ := bind_some h
       obtain ⟨x18, h19, h⟩ := bind_some h
       obtain ⟨x20, h21, h⟩ := bind_some h
       refine nG mix 16 [0, 10, 13] (fun X15 => [(63, .d (.lit data_0_v)), (65, .d (.lit (.int .i64 ((w64 (k_2_12 + 1)))))), (74, .agg (aD x18))]) (fun X15 => [.arr data_0_v 42 5 ((data_2_12.set k_2_12.toNat x16).map aD)]) ?_ ?_
       ·refine ⟨0, fun X15 => [(61, 0, .d (.lit data_0_v)), (62, 1, .d (.lit (.int .i64 k_2_12))), (63, 2, .d (.lit data_0_v)), (64, 3, .d (.lit (.int .i64 k_2_12))), (65, 4, .d (.lit (.int .i64 ((w64 (k_2_12 + 1)))))), (66, 5, .d (.lit data_0_v)), (67, 6, .d (.lit (.int .i64 k_2_12))), (68, 7, .d (.lit (.int .i64 ((w64 (k_2_12 + 1)))))), (69, 8, .ep data_0_v 5 (w64 (k_2_12 + 1)).toNat 0), (70, 9, .agg (aD x16)), (71, 10, .d (.lit data_0_v)), (72, 11, .d (.lit (.int .i64 k_2_12))), (73, 12, .ep data_0_v 5 k_2_12.toNat 0), (74, 13, .agg (aD x18)), (75, 14, .ep data_0_v 5 k_2_12.toNat 0)], fun X15 => [([(15, .arr data_0_v 42 5 ((data_2_12.set k_2_12.toNat x16).map aD))], .arr data_0_v 42 5 (data_2_12.map aD))], ?_, ?_⟩
        · exact ⟨by kernel_rfl, by kernel_rfl, by kernel_rfl, fun _ => by kernel_rfl, fun _ => by kernel_rfl, fun _ => by kernel_rfl, fun _ => rfl, [([], [15]), ([], [15]), ([], []), ([], []), ([3], []), ([], [15]), ([], [15]), ([6], [15]), ([5, 7], [15]), ([8], [15]), ([], [15]), ([], [15]), ([10, 11], [15]), ([12], [15]), ([0, 1], [15]), ([9, 14], [])], by kernel_rfl, ⟨fun X15 S hw hi hS => bO (X := X15) rfl (hw X15) rfl (aS rfl (aC (v := .d (.lit data_0_v)) (aA rfl) (aH hS rfl) rfl)),
      fun X15 S hw hi hS => bO (X := X15) rfl (hw X15) rfl (aS rfl (aC (v := .d (.lit (.int .i64 k_2_12))) (aA rfl) (aH hS rfl) rfl)),
      fun X15 S hw hi hS => bO (X := X15) rfl (hw X15) rfl (aS rfl (aC (v := .d (.lit data_0_v)) (aA rfl) (aH hS rfl) rfl)),
      fun X15 S hw hi hS => bO (X := X15) rfl (hw X15) rfl (aS rfl (aC (v := .d (.lit (.int .i64 k_2_12))) (aA rfl) (aH hS rfl) rfl)),
      fun X15 S hw hi hS => bO (X := X15) rfl (hw X15) rfl (aS rfl (bA (aA rfl) (aH hS rfl) rfl rfl)),
      fun X15 S hw hi hS => bO (X := X15) rfl (hw X15) rfl (aS rfl (aC (v := .d (.lit data_0_v)) (aA rfl) (aH hS rfl) rfl)),
      fun X15 S hw hi hS => bO (X := X15) rfl (hw X15) rfl (aS rfl (aC (v := .d (.lit (.int .i64 k_2_12))) (aA rfl) (aH hS rfl) rfl)),
      fun X15 S hw hi hS => bO (X := X15) rfl (hw X15) rfl (aS rfl (bA (aA rfl) (aH hS rfl) rfl rfl)),
      fun X15 S hw hi hS => bO (X := X15) rfl (hw X15) rfl (aS rfl (cC (m := 0) (aA rfl) (aH hS rfl) (og hS rfl rfl) (aH hS rfl) cA.of (bP aD h17))),
      fun X15 S hw hi hS => bO (X := X15) rfl (hw X15) rfl (aS rfl (dG (aA rfl) (aH hS rfl) (l := 0) (og hS rfl rfl) (dX aD h17) eI (es := (aD x16)) rfl rfl)),
      fun X15 S hw hi hS => bO (X := X15) rfl (hw X15) rfl (aS rfl (aC (v := .d (.lit data_0_v)) (aA rfl) (aH hS rfl) rfl)),
      fun X15 S hw hi hS => bO (X := X15) rfl (hw X15) rfl (aS rfl (aC (v := .d (.lit (.int .i64 k_2_12))) (aA rfl) (aH hS rfl) rfl)),
      fun X15 S hw hi hS => bO (X := X15) rfl (hw X15) rfl (aS rfl (cC (m := 0) (aA rfl) (aH hS rfl) (og hS rfl rfl) (aH hS rfl) cA.of (bP aD h19))),
      fun X15 S hw hi hS => bO (X := X15) rfl (hw X15) rfl (aS rfl (dG (aA rfl) (aH hS rfl) (l := 0) (og hS rfl rfl) (dX aD h19) eI (es := (aD x18)) rfl rfl)),
      fun X15 S hw hi hS => bO (X := X15) rfl (hw X15) rfl (aS rfl (cC (m := 0) (aA rfl) (aH hS rfl) (og hS rfl rfl) (aH hS rfl) cA.of (bP aD h21))),
      fun X15 S hw hi hS => rJ (X := X15) hS rfl rfl rfl (p := 0) rfl rfl (aS rfl (iT (l := 0) (aH hS rfl) (og hS rfl rfl) (dX aD h21) (aH hS rfl) rfl rfl Try.sizeOf42 rfl (aA rfl) (Nat.le_of_ble_eq_true rfl) (rows' := ((data_2_12.set k_2_12.toNat x16)).map aD) (mH _ _ _ _ rfl))), trivial⟩⟩
        · exact fun X15 => eJ (aO rfl (aO rfl (aO rfl (aZ ⟨rfl, rfl, rfl, trivial⟩))))
       ·intro X15
        obtain ⟨x22, h23, h⟩ := bind_some h
        refine tr1 rfl (cC (m := 0) (aA rfl) rfl rfl rfl cA.of (bP aD h23)) ?_
        refine tr1 rfl (iT (l := 0) rfl rfl (dX aD h23) rfl rfl rfl Try.sizeOf42 rfl (aA rfl) (Nat.le_of_ble_eq_true rfl) (rows' := (((data_2_12.set k_2_12.toNat x16).set (w64 (k_2_12 + 1)).toNat x18)).map aD) (mH _ _ _ _ rfl)) ?_
        refine eH ?_
        refine aE ?_
        refine tr1 rfl (aC (v := .d (.lit (.int .i64 k_2_12))) (aA rfl) rfl rfl) ?_
        refine tr1 rfl (bA (aA rfl) rfl rfl rfl) ?_
        refine tr1 rfl (aJ (v := .d (.lit (.int .i64 ((w64 (k_2_12 + 1)))))) (aA rfl) rfl rfl) ?_
        refine aF ?_
        exact ⟨(w64 (k_2_12 + 1), ((data_2_12.set k_2_12.toNat x16).set (w64 (k_2_12 + 1)).toNat x18)), h, aY [0] rfl rfl (aO rfl (aO rfl (aZ ⟨rfl, trivial⟩)))⟩
      ·have h := aQ c14 h
       refine cX ?_
       refine .inl ⟨rfl, ?_⟩
       simp only [iL] at h
       have h := Option.some.inj h
       subst h
       exact bL ⟨rfl, _, [.arr data_0_v 42 5 (data_2_12.map aD)], [], _, .none, .refl _, .same _, rfl, rfl⟩
    ·have h := aQ c1 h
     refine bH ?_
     refine aG ?_
     refine aG ?_
     refine aE ?_
     refine tr1 rfl (aC (v := .d (.lit (.int .i64 b_3))) (aA rfl) rfl rfl) ?_
     refine tr1 rfl (aC (v := .d (.lit (.int .i64 m_2))) (aA rfl) rfl rfl) ?_
     refine tr1 rfl (bA (aA rfl) rfl rfl rfl) ?_
     refine tr1 rfl (bC (aA rfl) rfl rfl rfl) ?_
     refine aF ?_
     refine bN rfl (fun c24 => ?_) (fun c24 => ?_)
     ·have h := aR c24 h
      refine aG ?_
      refine aE ?_
      refine tr1 rfl (aC (v := .d (.lit (.int .i64 a_1))) (aA rfl) rfl rfl) ?_
      refine tr1 rfl (aJ (v := .d (.lit (.int .i64 a_1))) (aA rfl) rfl rfl) ?_
      refine aF ?_
      refine aG ?_
      refine aE ?_
      refine tr1 rfl (aC (v := .d (.lit (.int .i64 m_2))) (aA rfl) rfl rfl) ?_
      refine tr1 rfl (aJ (v := .d (.lit (.int .i64 m_2))) (aA rfl) rfl rfl) ?_
      refine aF ?_
      refine aG ?_
      refine bT ?_
      refine cM [0, 2, 4] (fun (s25 : Int × Int) => [(14, .d (.lit (.int .i64 s25.1))), (15, .d (.lit (.int .i64 s25.2)))]) (fun (s25 : Int × Int) => [.arr data_0_v 42 5 (data_0.map aD)]) (fun (k : Nat) (s25 : Int × Int) => cO (bE cmp_4 kr) m_2 cmp_4 data_0 k s25.1 s25.2) (fun _ => rfl) (a_1, m_2) h (aY [0] rfl rfl (aO rfl (aO rfl (aZ ⟨rfl, rfl, rfl, trivial⟩)))) ?_
      rintro k26 ⟨i_4_25, j_4_25⟩ h
      simp only [cO] at h
      refine aG ?_
      refine aG ?_
      refine aE ?_
      refine tr1 rfl (aC (v := .d (.lit (.int .i64 i_4_25))) (aA rfl) rfl rfl) ?_
      refine tr1 rfl (aC (v := .d (.lit (.int .i64 j_4_25))) (aA rfl) rfl rfl) ?_
      refine tr1 rfl (bC (aA rfl) rfl rfl rfl) ?_
      refine aF ?_
      refine bN rfl (fun c27 => ?_) (fun c27 => ?_)
      ·have h := aR c27 h
       refine bH ?_
       refine bT ?_
       refine aG ?_
       refine aE ?_
       refine tr1 rfl (aC (v := .d (.lit (.int .i64 i_4_25))) (aA rfl) rfl rfl) ?_
       refine tr1 rfl (aC (v := .d (.lit (.int .i64 j_4_25))) (aA rfl) rfl rfl) ?_
       refine tr1 rfl (bA (aA rfl) rfl rfl rfl) ?_
       refine tr1 rfl (pJ (aA rfl) rfl Try.runUnderlying3 Try.runUnderlying127) ?_
       refine tr1 rfl (aBf (aA rfl) rfl rfl (by decide)) ?_
       refine tr1 rfl (pJ (aA rfl) rfl Try.runUnderlying127 Try.runUnderlying3) ?_
       refine tr1 rfl (aJ (v := .d (.lit (.int .i64 ((w64 ((IntKind.u64.wrap (w64 (i_4_25 + j_4_25))).fdiv (2 ^ (min (1 : Int).toNat 64)))))))) (aA rfl) rfl rfl) ?_
       refine aF ?_
       refine aG ?_
       obtain ⟨x28, h29, h⟩ := bind_some h
       obtain ⟨x30, h31, h⟩ := bind_some h
       refine hH mix 9 [0, 2, 4, 14, 15, 16] [(92, .fn cmp_4_f cmp_4_v), (96, .agg (aD x28)), (100, .agg (aD x30))] ?_ ?_
       ·refine ⟨[(92, 0, .fn cmp_4_f cmp_4_v), (93, 1, .d (.lit data_0_v)), (94, 2, .d (.lit (.int .i64 m_2))), (95, 3, .ep data_0_v 5 m_2.toNat 0), (96, 4, .agg (aD x28)), (97, 5, .d (.lit data_0_v)), (98, 6, .d (.lit (.int .i64 ((w64 ((IntKind.u64.wrap (w64 (i_4_25 + j_4_25))).fdiv (2 ^ (min (1 : Int).toNat 64)))))))), (99, 7, .ep data_0_v 5 (w64 ((IntKind.u64.wrap (w64 (i_4_25 + j_4_25))).fdiv (2 ^ (min (1 : Int).toNat 64)))).toNat 0), (100, 8, .agg (aD x30))], ?_, ?_⟩
        · exact ⟨by kernel_rfl, by kernel_rfl, by kernel_rfl, by kernel_rfl, by kernel_rfl, [([], []), ([], []), ([], []), ([1, 2], []), ([3], []), ([], []), ([], []), ([5, 6], []), ([7], [])], by kernel_rfl, ⟨fun S hS => aK rfl (aS rfl (aC (v := .fn cmp_4_f cmp_4_v) (aA rfl) (aH hS rfl) rfl)),
      fun S hS => aK rfl (aS rfl (aC (v := .d (.lit data_0_v)) (aA rfl) (aH hS rfl) rfl)),
      fun S hS => aK rfl (aS rfl (aC (v := .d (.lit (.int .i64 m_2))) (aA rfl) (aH hS rfl) rfl)),
      fun S hS => aK rfl (aS rfl (cC (m := 0) (aA rfl) (aH hS rfl) rfl (aH hS rfl) cA.of (bP aD h29))),
      fun S hS => aK rfl (aS rfl (dG (aA rfl) (aH hS rfl) (l := 0) rfl (dX aD h29) eI (es := (aD x28)) rfl rfl)),
      fun S hS => aK rfl (aS rfl (aC (v := .d (.lit data_0_v)) (aA rfl) (aH hS rfl) rfl)),
      fun S hS => aK rfl (aS rfl (aC (v := .d (.lit (.int .i64 ((w64 ((IntKind.u64.wrap (w64 (i_4_25 + j_4_25))).fdiv (2 ^ (min (1 : Int).toNat 64)))))))) (aA rfl) (aH hS rfl) rfl)),
      fun S hS => aK rfl (aS rfl (cC (m := 0) (aA rfl) (aH hS rfl) rfl (aH hS rfl) cA.of (bP aD h31))),
      fun S hS => aK rfl (aS rfl (dG (aA rfl) (aH hS rfl) (l := 0) rfl (dX aD h31) eI (es := (aD x30)) rfl rfl)), trivial⟩⟩
        · exact eJ (aO rfl (aO rfl (aO rfl (aZ ⟨rfl, rfl, rfl, rfl, rfl, rfl, trivial⟩))))
       ·obtain ⟨r32, h33, h⟩ := bind_some h
        refine tr1 rfl (bY (aA rfl) (.clo _ _ _ _ cmp_4_e rfl) (uI rfl) rfl (BVs.refl _ _) (cmp_4_h _ _ _  h33) rfl) ?_
        refine tr1 rfl (bC (aA rfl) rfl rfl rfl) ?_
        refine tr1 rfl (fD (aA rfl) rfl) ?_
        refine aF ?_
        refine bN rfl (fun c34 => ?_) (fun c34 => ?_)
        ·have h := aR c34 h
         refine aE ?_
         refine tr1 rfl (aC (v := .d (.lit (.int .i64 ((w64 ((IntKind.u64.wrap (w64 (i_4_25 + j_4_25))).fdiv (2 ^ (min (1 : Int).toNat 64)))))))) (aA rfl) rfl rfl) ?_
         refine tr1 rfl (bA (aA rfl) rfl rfl rfl) ?_
         refine tr1 rfl (aJ (v := .d (.lit (.int .i64 ((w64 ((w64 ((IntKind.u64.wrap (w64 (i_4_25 + j_4_25))).fdiv (2 ^ (min (1 : Int).toNat 64)))) + 1)))))) (aA rfl) rfl rfl) ?_
         refine eH ?_
         exact ⟨(w64 ((w64 ((IntKind.u64.wrap (w64 (i_4_25 + j_4_25))).fdiv (2 ^ (min (1 : Int).toNat 64)))) + 1), j_4_25), h, aY [0] rfl rfl (aO rfl (aO rfl (aZ ⟨rfl, rfl, rfl, trivial⟩)))⟩
        ·have h := aQ c34 h
         refine aE ?_
         refine tr1 rfl (aC (v := .d (.lit (.int .i64 ((w64 ((IntKind.u64.wrap (w64 (i_4_25 + j_4_25))).fdiv (2 ^ (min (1 : Int).toNat 64)))))))) (aA rfl) rfl rfl) ?_
         refine tr1 rfl (aJ (v := .d (.lit (.int .i64 ((w64 ((IntKind.u64.wrap (w64 (i_4_25 + j_4_25))).fdiv (2 ^ (min (1 : Int).toNat 64)))))))) (aA rfl) rfl rfl) ?_
         refine eH ?_
         exact ⟨(i_4_25, w64 ((IntKind.u64.wrap (w64 (i_4_25 + j_4_25))).fdiv (2 ^ (min (1 : Int).toNat 64)))), h, aY [0] rfl rfl (aO rfl (aO rfl (aZ ⟨rfl, rfl, rfl, trivial⟩)))⟩
      ·have h := aQ c27 h
       refine cX ?_
       refine .inl ⟨rfl, ?_⟩
       simp only [fX] at h
       refine aG ?_
       refine aG ?_
       refine aE ?_
       refine tr1 rfl (aC (v := .d (.lit (.int .i64 m_2))) (aA rfl) rfl rfl) ?_
       refine tr1 rfl (aJ (v := .d (.lit (.int .i64 m_2))) (aA rfl) rfl rfl) ?_
       refine aF ?_
       refine bT ?_
       refine cM [14] (fun (s35 : Int × (List aB)) => [(0, .d (.lit data_0_v)), (17, .d (.lit (.int .i64 s35.1)))]) (fun (s35 : Int × (List aB)) => [.arr data_0_v 42 5 (s35.2.map aD)]) (fun (k : Nat) (s35 : Int × (List aB)) => dO (bE cmp_4 kr) i_4_25 k s35.1 s35.2) (fun _ => rfl) (m_2, data_0) h (aY [0] rfl rfl (aO rfl (aO rfl (aZ ⟨rfl, trivial⟩)))) ?_
       rintro k36 ⟨k_6_35, data_6_35⟩ h
       simp only [dO] at h
       refine aG ?_
       refine aG ?_
       refine aE ?_
       refine tr1 rfl (aC (v := .d (.lit (.int .i64 k_6_35))) (aA rfl) rfl rfl) ?_
       refine tr1 rfl (aC (v := .d (.lit (.int .i64 i_4_25))) (aA rfl) rfl rfl) ?_
       refine tr1 rfl (bC (aA rfl) rfl rfl rfl) ?_
       refine aF ?_
       refine bN rfl (fun c37 => ?_) (fun c37 => ?_)
       ·have h := aR c37 h
        refine bH ?_
        refine aG ?_
        refine bT ?_
        obtain ⟨x39, h40, h⟩ := bind_some h
        obtain ⟨x41, h42, h⟩ := bind_some h
        obtain ⟨x43, h44, h⟩ := bind_some h
        refine nG mix 16 [0, 14, 17] (fun X38 => [(115, .d (.lit data_0_v)), (117, .d (.lit (.int .i64 ((w64 (k_6_35 - 1)))))), (126, .agg (aD x41))]) (fun X38 => [.arr data_0_v 42 5 ((data_6_35.set k_6_35.toNat x39).map aD)]) ?_ ?_
        ·refine ⟨0, fun X38 => [(113, 0, .d (.lit data_0_v)), (114, 1, .d (.lit (.int .i64 k_6_35))), (115, 2, .d (.lit data_0_v)), (116, 3, .d (.lit (.int .i64 k_6_35))), (117, 4, .d (.lit (.int .i64 ((w64 (k_6_35 - 1)))))), (118, 5, .d (.lit data_0_v)), (119, 6, .d (.lit (.int .i64 k_6_35))), (120, 7, .d (.lit (.int .i64 ((w64 (k_6_35 - 1)))))), (121, 8, .ep data_0_v 5 (w64 (k_6_35 - 1)).toNat 0), (122, 9, .agg (aD x39)), (123, 10, .d (.lit data_0_v)), (124, 11, .d (.lit (.int .i64 k_6_35))), (125, 12, .ep data_0_v 5 k_6_35.toNat 0), (126, 13, .agg (aD x41)), (127, 14, .ep data_0_v 5 k_6_35.toNat 0)], fun X38 => [([(15, .arr data_0_v 42 5 ((data_6_35.set k_6_35.toNat x39).map aD))], .arr data_0_v 42 5 (data_6_35.map aD))], ?_, ?_⟩
         · exact ⟨by kernel_rfl, by kernel_rfl, by kernel_rfl, fun _ => by kernel_rfl, fun _ => by kernel_rfl, fun _ => by kernel_rfl, fun _ => rfl, [([], [15]), ([], [15]), ([], []), ([], []), ([3], []), ([], [15]), ([], [15]), ([6], [15]), ([5, 7], [15]), ([8], [15]), ([], [15]), ([], [15]), ([10, 11], [15]), ([12], [15]), ([0, 1], [15]), ([9, 14], [])], by kernel_rfl, ⟨fun X38 S hw hi hS => bO (X := X38) rfl (hw X38) rfl (aS rfl (aC (v := .d (.lit data_0_v)) (aA rfl) (aH hS rfl) rfl)),
      fun X38 S hw hi hS => bO (X := X38) rfl (hw X38) rfl (aS rfl (aC (v := .d (.lit (.int .i64 k_6_35))) (aA rfl) (aH hS rfl) rfl)),
      fun X38 S hw hi hS => bO (X := X38) rfl (hw X38) rfl (aS rfl (aC (v := .d (.lit data_0_v)) (aA rfl) (aH hS rfl) rfl)),
      fun X38 S hw hi hS => bO (X := X38) rfl (hw X38) rfl (aS rfl (aC (v := .d (.lit (.int .i64 k_6_35))) (aA rfl) (aH hS rfl) rfl)),
      fun X38 S hw hi hS => bO (X := X38) rfl (hw X38) rfl (aS rfl (bA (aA rfl) (aH hS rfl) rfl rfl)),
      fun X38 S hw hi hS => bO (X := X38) rfl (hw X38) rfl (aS rfl (aC (v := .d (.lit data_0_v)) (aA rfl) (aH hS rfl) rfl)),
      fun X38 S hw hi hS => bO (X := X38) rfl (hw X38) rfl (aS rfl (aC (v := .d (.lit (.int .i64 k_6_35))) (aA rfl) (aH hS rfl) rfl)),
      fun X38 S hw hi hS => bO (X := X38) rfl (hw X38) rfl (aS rfl (bA (aA rfl) (aH hS rfl) rfl rfl)),
      fun X38 S hw hi hS => bO (X := X38) rfl (hw X38) rfl (aS rfl (cC (m := 0) (aA rfl) (aH hS rfl) (og hS rfl rfl) (aH hS rfl) cA.of (bP aD h40))),
      fun X38 S hw hi hS => bO (X := X38) rfl (hw X38) rfl (aS rfl (dG (aA rfl) (aH hS rfl) (l := 0) (og hS rfl rfl) (dX aD h40) eI (es := (aD x39)) rfl rfl)),
      fun X38 S hw hi hS => bO (X := X38) rfl (hw X38) rfl (aS rfl (aC (v := .d (.lit data_0_v)) (aA rfl) (aH hS rfl) rfl)),
      fun X38 S hw hi hS => bO (X := X38) rfl (hw X38) rfl (aS rfl (aC (v := .d (.lit (.int .i64 k_6_35))) (aA rfl) (aH hS rfl) rfl)),
      fun X38 S hw hi hS => bO (X := X38) rfl (hw X38) rfl (aS rfl (cC (m := 0) (aA rfl) (aH hS rfl) (og hS rfl rfl) (aH hS rfl) cA.of (bP aD h42))),
      fun X38 S hw hi hS => bO (X := X38) rfl (hw X38) rfl (aS rfl (dG (aA rfl) (aH hS rfl) (l := 0) (og hS rfl rfl) (dX aD h42) eI (es := (aD x41)) rfl rfl)),
      fun X38 S hw hi hS => bO (X := X38) rfl (hw X38) rfl (aS rfl (cC (m := 0) (aA rfl) (aH hS rfl) (og hS rfl rfl) (aH hS rfl) cA.of (bP aD h44))),
      fun X38 S hw hi hS => rJ (X := X38) hS rfl rfl rfl (p := 0) rfl rfl (aS rfl (iT (l := 0) (aH hS rfl) (og hS rfl rfl) (dX aD h44) (aH hS rfl) rfl rfl Try.sizeOf42 rfl (aA rfl) (Nat.le_of_ble_eq_true rfl) (rows' := ((data_6_35.set k_6_35.toNat x39)).map aD) (mH _ _ _ _ rfl))), trivial⟩⟩
         · exact fun X38 => eJ (aO rfl (aO rfl (aO rfl (aZ ⟨rfl, rfl, rfl, trivial⟩))))
        ·intro X38
         obtain ⟨x45, h46, h⟩ := bind_some h
         refine tr1 rfl (cC (m := 0) (aA rfl) rfl rfl rfl cA.of (bP aD h46)) ?_
         refine tr1 rfl (iT (l := 0) rfl rfl (dX aD h46) rfl rfl rfl Try.sizeOf42 rfl (aA rfl) (Nat.le_of_ble_eq_true rfl) (rows' := (((data_6_35.set k_6_35.toNat x39).set (w64 (k_6_35 - 1)).toNat x41)).map aD) (mH _ _ _ _ rfl)) ?_
         refine eH ?_
         refine aE ?_
         refine tr1 rfl (aC (v := .d (.lit (.int .i64 k_6_35))) (aA rfl) rfl rfl) ?_
         refine tr1 rfl (bA (aA rfl) rfl rfl rfl) ?_
         refine tr1 rfl (aJ (v := .d (.lit (.int .i64 ((w64 (k_6_35 - 1)))))) (aA rfl) rfl rfl) ?_
         refine aF ?_
         exact ⟨(w64 (k_6_35 - 1), ((data_6_35.set k_6_35.toNat x39).set (w64 (k_6_35 - 1)).toNat x41)), h, aY [0] rfl rfl (aO rfl (aO rfl (aZ ⟨rfl, trivial⟩)))⟩
       ·have h := aQ c37 h
        refine cX ?_
        refine .inl ⟨rfl, ?_⟩
        simp only [iM] at h
        have h := Option.some.inj h
        subst h
        exact bL ⟨rfl, _, [.arr data_0_v 42 5 (data_6_35.map aD)], [], _, .none, .refl _, .same _, rfl, rfl⟩
     ·have h := aQ c24 h
      refine bH ?_
      refine aG ?_
      refine aE ?_
      refine tr1 rfl (aC (v := .d (.lit (.int .i64 a_1))) (aA rfl) rfl rfl) ?_
      refine tr1 rfl (aC (v := .d (.lit (.int .i64 b_3))) (aA rfl) rfl rfl) ?_
      refine tr1 rfl (bA (aA rfl) rfl rfl rfl) ?_
      refine tr1 rfl (pJ (aA rfl) rfl Try.runUnderlying3 Try.runUnderlying127) ?_
      refine tr1 rfl (aBf (aA rfl) rfl rfl (by decide)) ?_
      refine tr1 rfl (pJ (aA rfl) rfl Try.runUnderlying127 Try.runUnderlying3) ?_
      refine tr1 rfl (aJ (v := .d (.lit (.int .i64 ((w64 ((IntKind.u64.wrap (w64 (a_1 + b_3))).fdiv (2 ^ (min (1 : Int).toNat 64)))))))) (aA rfl) rfl rfl) ?_
      refine aF ?_
      refine aG ?_
      refine aE ?_
      refine tr1 rfl (aC (v := .d (.lit (.int .i64 ((w64 ((IntKind.u64.wrap (w64 (a_1 + b_3))).fdiv (2 ^ (min (1 : Int).toNat 64)))))))) (aA rfl) rfl rfl) ?_
      refine tr1 rfl (aC (v := .d (.lit (.int .i64 m_2))) (aA rfl) rfl rfl) ?_
      refine tr1 rfl (bA (aA rfl) rfl rfl rfl) ?_
      refine tr1 rfl (aJ (v := .d (.lit (.int .i64 ((w64 ((w64 ((IntKind.u64.wrap (w64 (a_1 + b_3))).fdiv (2 ^ (min (1 : Int).toNat 64)))) + m_2)))))) (aA rfl) rfl rfl) ?_
      refine aF ?_
      refine aG ?_
      refine aE ?_
      refine tr1 rfl (aJ (v := .d (.lit (.int .i64 0))) (aA rfl) rfl rfl) ?_
      refine tr1 rfl (aJ (v := .d (.lit (.int .i64 0))) (aA rfl) rfl rfl) ?_
      refine aF ?_
      refine aG ?_
      refine aG ?_
      refine aE ?_
      refine tr1 rfl (aC (v := .d (.lit (.int .i64 m_2))) (aA rfl) rfl rfl) ?_
      refine tr1 rfl (aC (v := .d (.lit (.int .i64 ((w64 ((IntKind.u64.wrap (w64 (a_1 + b_3))).fdiv (2 ^ (min (1 : Int).toNat 64)))))))) (aA rfl) rfl rfl) ?_
      refine tr1 rfl (bC (aA rfl) rfl rfl rfl) ?_
      refine aF ?_
      refine bN rfl (fun c47 => ?_) (fun c47 => ?_)
      ·have h := aR c47 h
       refine aG ?_
       refine aE ?_
       refine tr1 rfl (aC (v := .d (.lit (.int .i64 ((w64 ((w64 ((IntKind.u64.wrap (w64 (a_1 + b_3))).fdiv (2 ^ (min (1 : Int).toNat 64)))) + m_2)))))) (aA rfl) rfl rfl) ?_
       refine tr1 rfl (aC (v := .d (.lit (.int .i64 b_3))) (aA rfl) rfl rfl) ?_
       refine tr1 rfl (bA (aA rfl) rfl rfl rfl) ?_
       refine tr1 rfl (aJ (v := .d (.lit (.int .i64 ((w64 ((w64 ((w64 ((IntKind.u64.wrap (w64 (a_1 + b_3))).fdiv (2 ^ (min (1 : Int).toNat 64)))) + m_2)) - b_3)))))) (aA rfl) rfl rfl) ?_
       refine aF ?_
       refine aE ?_
       refine tr1 rfl (aC (v := .d (.lit (.int .i64 ((w64 ((IntKind.u64.wrap (w64 (a_1 + b_3))).fdiv (2 ^ (min (1 : Int).toNat 64)))))))) (aA rfl) rfl rfl) ?_
       refine tr1 rfl (aJ (v := .d (.lit (.int .i64 ((w64 ((IntKind.u64.wrap (w64 (a_1 + b_3))).fdiv (2 ^ (min (1 : Int).toNat 64)))))))) (aA rfl) rfl rfl) ?_
       refine aF ?_
       refine aG ?_
       refine aE ?_
       refine tr1 rfl (aC (v := .d (.lit (.int .i64 ((w64 ((w64 ((IntKind.u64.wrap (w64 (a_1 + b_3))).fdiv (2 ^ (min (1 : Int).toNat 64)))) + m_2)))))) (aA rfl) rfl rfl) ?_
       refine tr1 rfl (bA (aA rfl) rfl rfl rfl) ?_
       refine tr1 rfl (aJ (v := .d (.lit (.int .i64 ((w64 ((w64 ((w64 ((IntKind.u64.wrap (w64 (a_1 + b_3))).fdiv (2 ^ (min (1 : Int).toNat 64)))) + m_2)) - 1)))))) (aA rfl) rfl rfl) ?_
       refine aF ?_
       refine aG ?_
       refine bT ?_
       refine cM [0, 1, 2, 3, 4, 18, 19, 22] (fun (s48 : Int × Int) => [(20, .d (.lit (.int .i64 s48.1))), (21, .d (.lit (.int .i64 s48.2)))]) (fun (s48 : Int × Int) => [.arr data_0_v 42 5 (data_0.map aD)]) (fun (k : Nat) (s48 : Int × Int) => bZ (bE cmp_4 kr) a_1 m_2 b_3 cmp_4 (w64 ((IntKind.u64.wrap (w64 (a_1 + b_3))).fdiv (2 ^ (min (1 : Int).toNat 64)))) (w64 ((w64 ((IntKind.u64.wrap (w64 (a_1 + b_3))).fdiv (2 ^ (min (1 : Int).toNat 64)))) + m_2)) (w64 ((w64 ((w64 ((IntKind.u64.wrap (w64 (a_1 + b_3))).fdiv (2 ^ (min (1 : Int).toNat 64)))) + m_2)) - 1)) data_0 k s48.1 s48.2) (fun _ => rfl) (w64 ((w64 ((w64 ((IntKind.u64.wrap (w64 (a_1 + b_3))).fdiv (2 ^ (min (1 : Int).toNat 64)))) + m_2)) - b_3), w64 ((IntKind.u64.wrap (w64 (a_1 + b_3))).fdiv (2 ^ (min (1 : Int).toNat 64)))) h (aY [0] rfl rfl (aO rfl (aO rfl (aZ ⟨rfl, rfl, rfl, rfl, rfl, rfl, rfl, rfl, trivial⟩)))) ?_
       rintro k49 ⟨start_8_48, r_8_48⟩ h
       simp only [bZ] at h
       refine aG ?_
       refine aG ?_
       refine aE ?_
       refine tr1 rfl (aC (v := .d (.lit (.int .i64 start_8_48))) (aA rfl) rfl rfl) ?_
       refine tr1 rfl (aC (v := .d (.lit (.int .i64 r_8_48))) (aA rfl) rfl rfl) ?_
       refine tr1 rfl (bC (aA rfl) rfl rfl rfl) ?_
       refine aF ?_
       refine bN rfl (fun c50 => ?_) (fun c50 => ?_)
       ·have h := aR c50 h
        refine bH ?_
        refine bT ?_
        refine aG ?_
        refine aE ?_
        refine tr1 rfl (aC (v := .d (.lit (.int .i64 start_8_48))) (aA rfl) rfl rfl) ?_
        refine tr1 rfl (aC (v := .d (.lit (.int .i64 r_8_48))) (aA rfl) rfl rfl) ?_
        refine tr1 rfl (bA (aA rfl) rfl rfl rfl) ?_
        refine tr1 rfl (pJ (aA rfl) rfl Try.runUnderlying3 Try.runUnderlying127) ?_
        refine tr1 rfl (aBf (aA rfl) rfl rfl (by decide)) ?_
        refine tr1 rfl (pJ (aA rfl) rfl Try.runUnderlying127 Try.runUnderlying3) ?_
        refine tr1 rfl (aJ (v := .d (.lit (.int .i64 ((w64 ((IntKind.u64.wrap (w64 (start_8_48 + r_8_48))).fdiv (2 ^ (min (1 : Int).toNat 64)))))))) (aA rfl) rfl rfl) ?_
        refine aF ?_
        refine aG ?_
        obtain ⟨x51, h52, h⟩ := bind_some h
        obtain ⟨x53, h54, h⟩ := bind_some h
        refine hH mix 11 [0, 1, 2, 3, 4, 18, 19, 20, 21, 22, 23] [(158, .fn cmp_4_f cmp_4_v), (164, .agg (aD x51)), (168, .agg (aD x53))] ?_ ?_
        ·refine ⟨[(158, 0, .fn cmp_4_f cmp_4_v), (159, 1, .d (.lit data_0_v)), (160, 2, .d (.lit (.int .i64 ((w64 ((w64 ((w64 ((IntKind.u64.wrap (w64 (a_1 + b_3))).fdiv (2 ^ (min (1 : Int).toNat 64)))) + m_2)) - 1)))))), (161, 3, .d (.lit (.int .i64 ((w64 ((IntKind.u64.wrap (w64 (start_8_48 + r_8_48))).fdiv (2 ^ (min (1 : Int).toNat 64)))))))), (162, 4, .d (.lit (.int .i64 ((w64 ((w64 ((w64 ((w64 ((IntKind.u64.wrap (w64 (a_1 + b_3))).fdiv (2 ^ (min (1 : Int).toNat 64)))) + m_2)) - 1)) - (w64 ((IntKind.u64.wrap (w64 (start_8_48 + r_8_48))).fdiv (2 ^ (min (1 : Int).toNat 64)))))))))), (163, 5, .ep data_0_v 5 (w64 ((w64 ((w64 ((w64 ((IntKind.u64.wrap (w64 (a_1 + b_3))).fdiv (2 ^ (min (1 : Int).toNat 64)))) + m_2)) - 1)) - (w64 ((IntKind.u64.wrap (w64 (start_8_48 + r_8_48))).fdiv (2 ^ (min (1 : Int).toNat 64)))))).toNat 0), (164, 6, .agg (aD x51)), (165, 7, .d (.lit data_0_v)), (166, 8, .d (.lit (.int .i64 ((w64 ((IntKind.u64.wrap (w64 (start_8_48 + r_8_48))).fdiv (2 ^ (min (1 : Int).toNat 64)))))))), (167, 9, .ep data_0_v 5 (w64 ((IntKind.u64.wrap (w64 (start_8_48 + r_8_48))).fdiv (2 ^ (min (1 : Int).toNat 64)))).toNat 0), (168, 10, .agg (aD x53))], ?_, ?_⟩
         · exact ⟨by kernel_rfl, by kernel_rfl, by kernel_rfl, by kernel_rfl, by kernel_rfl, [([], []), ([], []), ([], []), ([], []), ([2, 3], []), ([1, 4], []), ([5], []), ([], []), ([], []), ([7, 8], []), ([9], [])], by kernel_rfl, ⟨fun S hS => aK rfl (aS rfl (aC (v := .fn cmp_4_f cmp_4_v) (aA rfl) (aH hS rfl) rfl)),
      fun S hS => aK rfl (aS rfl (aC (v := .d (.lit data_0_v)) (aA rfl) (aH hS rfl) rfl)),
      fun S hS => aK rfl (aS rfl (aC (v := .d (.lit (.int .i64 ((w64 ((w64 ((w64 ((IntKind.u64.wrap (w64 (a_1 + b_3))).fdiv (2 ^ (min (1 : Int).toNat 64)))) + m_2)) - 1)))))) (aA rfl) (aH hS rfl) rfl)),
      fun S hS => aK rfl (aS rfl (aC (v := .d (.lit (.int .i64 ((w64 ((IntKind.u64.wrap (w64 (start_8_48 + r_8_48))).fdiv (2 ^ (min (1 : Int).toNat 64)))))))) (aA rfl) (aH hS rfl) rfl)),
      fun S hS => aK rfl (aS rfl (bA (aA rfl) (aH hS rfl) (aH hS rfl) rfl)),
      fun S hS => aK rfl (aS rfl (cC (m := 0) (aA rfl) (aH hS rfl) rfl (aH hS rfl) cA.of (bP aD h52))),
      fun S hS => aK rfl (aS rfl (dG (aA rfl) (aH hS rfl) (l := 0) rfl (dX aD h52) eI (es := (aD x51)) rfl rfl)),
      fun S hS => aK rfl (aS rfl (aC (v := .d (.lit data_0_v)) (aA rfl) (aH hS rfl) rfl)),
      fun S hS => aK rfl (aS rfl (aC (v := .d (.lit (.int .i64 ((w64 ((IntKind.u64.wrap (w64 (start_8_48 + r_8_48))).fdiv (2 ^ (min (1 : Int).toNat 64)))))))) (aA rfl) (aH hS rfl) rfl)),
      fun S hS => aK rfl (aS rfl (cC (m := 0) (aA rfl) (aH hS rfl) rfl (aH hS rfl) cA.of (bP aD h54))),
      fun S hS => aK rfl (aS rfl (dG (aA rfl) (aH hS rfl) (l := 0) rfl (dX aD h54) eI (es := (aD x53)) rfl rfl)), trivial⟩⟩
         · exact eJ (aO rfl (aO rfl (aO rfl (aZ ⟨rfl, rfl, rfl, rfl, rfl, rfl, rfl, rfl, rfl, rfl, rfl, trivial⟩))))
        ·obtain ⟨r55, h56, h⟩ := bind_some h
         refine tr1 rfl (bY (aA rfl) (.clo _ _ _ _ cmp_4_e rfl) (uI rfl) rfl (BVs.refl _ _) (cmp_4_h _ _ _  h56) rfl) ?_
         refine tr1 rfl (bC (aA rfl) rfl rfl rfl) ?_
         refine tr1 rfl (fD (aA rfl) rfl) ?_
         refine aF ?_
         refine bN rfl (fun c57 => ?_) (fun c57 => ?_)
         ·have h := aR c57 h
          refine aE ?_
          refine tr1 rfl (aC (v := .d (.lit (.int .i64 ((w64 ((IntKind.u64.wrap (w64 (start_8_48 + r_8_48))).fdiv (2 ^ (min (1 : Int).toNat 64)))))))) (aA rfl) rfl rfl) ?_
          refine tr1 rfl (bA (aA rfl) rfl rfl rfl) ?_
          refine tr1 rfl (aJ (v := .d (.lit (.int .i64 ((w64 ((w64 ((IntKind.u64.wrap (w64 (start_8_48 + r_8_48))).fdiv (2 ^ (min (1 : Int).toNat 64)))) + 1)))))) (aA rfl) rfl rfl) ?_
          refine eH ?_
          exact ⟨(w64 ((w64 ((IntKind.u64.wrap (w64 (start_8_48 + r_8_48))).fdiv (2 ^ (min (1 : Int).toNat 64)))) + 1), r_8_48), h, aY [0] rfl rfl (aO rfl (aO rfl (aZ ⟨rfl, rfl, rfl, rfl, rfl, rfl, rfl, rfl, trivial⟩)))⟩
         ·have h := aQ c57 h
          refine aE ?_
          refine tr1 rfl (aC (v := .d (.lit (.int .i64 ((w64 ((IntKind.u64.wrap (w64 (start_8_48 + r_8_48))).fdiv (2 ^ (min (1 : Int).toNat 64)))))))) (aA rfl) rfl rfl) ?_
          refine tr1 rfl (aJ (v := .d (.lit (.int .i64 ((w64 ((IntKind.u64.wrap (w64 (start_8_48 + r_8_48))).fdiv (2 ^ (min (1 : Int).toNat 64)))))))) (aA rfl) rfl rfl) ?_
          refine eH ?_
          exact ⟨(start_8_48, w64 ((IntKind.u64.wrap (w64 (start_8_48 + r_8_48))).fdiv (2 ^ (min (1 : Int).toNat 64)))), h, aY [0] rfl rfl (aO rfl (aO rfl (aZ ⟨rfl, rfl, rfl, rfl, rfl, rfl, rfl, rfl, trivial⟩)))⟩
       ·have h := aQ c50 h
        refine cX ?_
        refine .inl ⟨rfl, ?_⟩
        simp only [dC] at h
        refine aG ?_
        refine aE ?_
        refine tr1 rfl (aC (v := .d (.lit (.int .i64 ((w64 ((w64 ((IntKind.u64.wrap (w64 (a_1 + b_3))).fdiv (2 ^ (min (1 : Int).toNat 64)))) + m_2)))))) (aA rfl) rfl rfl) ?_
        refine tr1 rfl (aC (v := .d (.lit (.int .i64 start_8_48))) (aA rfl) rfl rfl) ?_
        refine tr1 rfl (bA (aA rfl) rfl rfl rfl) ?_
        refine tr1 rfl (aJ (v := .d (.lit (.int .i64 ((w64 ((w64 ((w64 ((IntKind.u64.wrap (w64 (a_1 + b_3))).fdiv (2 ^ (min (1 : Int).toNat 64)))) + m_2)) - start_8_48)))))) (aA rfl) rfl rfl) ?_
        refine aF ?_
        refine aG ?_
        refine aG ?_
        refine aE ?_
        refine tr1 rfl (aC (v := .d (.lit (.int .i64 start_8_48))) (aA rfl) rfl rfl) ?_
        refine tr1 rfl (aC (v := .d (.lit (.int .i64 m_2))) (aA rfl) rfl rfl) ?_
        refine tr1 rfl (bC (aA rfl) rfl rfl rfl) ?_
        refine tr1 rfl (aC (v := .d (.lit (.bool ((decide (start_8_48 < m_2)))))) (aA rfl) rfl rfl) ?_
        obtain ⟨b58, h59, h⟩ := bind_some h
        refine bQ 4 [0, 1, 2, 3, 4, 18, 20, 24] 185 b58 ?_ ?_
        ·refine bD (decide (start_8_48 < m_2)) (fun c99 => ?_) (fun c99 => ?_)
         ·have h59 := aR c99 h59
          refine aL rfl rfl (aA rfl) rfl c99 (aC (v := .d (.lit (.int .i64 m_2))) (aA rfl) rfl rfl) ?_
          refine aL rfl rfl (aA rfl) rfl c99 (aC (v := .d (.lit (.int .i64 ((w64 ((w64 ((w64 ((IntKind.u64.wrap (w64 (a_1 + b_3))).fdiv (2 ^ (min (1 : Int).toNat 64)))) + m_2)) - start_8_48)))))) (aA rfl) rfl rfl) ?_
          refine aL rfl rfl (aA rfl) rfl c99 (bC (aA rfl) rfl rfl rfl) ?_
          refine tr1 rfl (bJ (v := .d (.lit (.bool ((decide (m_2 < (w64 ((w64 ((w64 ((IntKind.u64.wrap (w64 (a_1 + b_3))).fdiv (2 ^ (min (1 : Int).toNat 64)))) + m_2)) - start_8_48)))))))) (aA rfl) rfl c99 rfl rfl) ?_
          have h59 := Option.some.inj h59
          subst h59
          refine aF (aW rfl ⟨rfl, rfl, rfl, rfl, rfl, rfl, rfl, rfl, trivial⟩ rfl)
         ·have h59 := aQ c99 h59
          refine aN rfl rfl (aA rfl) rfl (aA rfl) rfl c99 ?_
          refine aN rfl rfl (aA rfl) rfl (aA rfl) rfl c99 ?_
          refine aN rfl rfl (aA rfl) rfl (aA rfl) rfl c99 ?_
          refine tr1 rfl (bI (v := .d (.lit (.bool false))) (aA rfl) rfl c99 rfl rfl) ?_
          have h59 := Option.some.inj h59
          subst h59
          refine aF (aW rfl ⟨rfl, rfl, rfl, rfl, rfl, rfl, rfl, rfl, trivial⟩ rfl)
        ·refine aF ?_
         refine bN rfl (fun c60 => ?_) (fun c60 => ?_)
         ·have h := aR c60 h
          refine aE ?_
          refine tr1 rfl (aC (v := .d (.lit data_0_v)) (aA rfl) rfl rfl) ?_
          refine tr1 rfl (aC (v := .d (.lit (.int .i64 start_8_48))) (aA rfl) rfl rfl) ?_
          refine tr1 rfl (aC (v := .d (.lit (.int .i64 m_2))) (aA rfl) rfl rfl) ?_
          refine tr1 rfl (aC (v := .d (.lit (.int .i64 ((w64 ((w64 ((w64 ((IntKind.u64.wrap (w64 (a_1 + b_3))).fdiv (2 ^ (min (1 : Int).toNat 64)))) + m_2)) - start_8_48)))))) (aA rfl) rfl rfl) ?_
          refine tr1 rfl (aC (v := .fn cmp_4_f cmp_4_v) (aA rfl) rfl rfl) ?_
          obtain ⟨r61, h62, h⟩ := bind_some h
          refine bR rfl (dP (passed := [.arr data_0_v 42 5 (data_0.map aD)]) (aA rfl) rfl (.func _ _ Try.call138) rfl rfl (mE data_0 start_8_48 m_2 (w64 ((w64 ((w64 ((IntKind.u64.wrap (w64 (a_1 + b_3))).fdiv (2 ^ (min (1 : Int).toNat 64)))) + m_2)) - start_8_48)) cmp_4 cmp_4_f cmp_4_v cmp_4_e cmp_4_h h62)) ?_
          rintro _ ⟨_, _, ⟨rfl, rfl⟩, rfl⟩
          refine aF ?_
          refine aG ?_
          refine aG ?_
          refine aE ?_
          refine tr1 rfl (aC (v := .d (.lit (.int .i64 a_1))) (aA rfl) rfl rfl) ?_
          refine tr1 rfl (aC (v := .d (.lit (.int .i64 start_8_48))) (aA rfl) rfl rfl) ?_
          refine tr1 rfl (bC (aA rfl) rfl rfl rfl) ?_
          refine tr1 rfl (aC (v := .d (.lit (.bool ((decide (a_1 < start_8_48)))))) (aA rfl) rfl rfl) ?_
          obtain ⟨b63, h64, h⟩ := bind_some h
          refine bQ 4 [0, 1, 3, 4, 18, 20, 24] 199 b63 ?_ ?_
          ·refine bD (decide (a_1 < start_8_48)) (fun c80 => ?_) (fun c80 => ?_)
           ·have h64 := aR c80 h64
            refine aL rfl rfl (aA rfl) rfl c80 (aC (v := .d (.lit (.int .i64 start_8_48))) (aA rfl) rfl rfl) ?_
            refine aL rfl rfl (aA rfl) rfl c80 (aC (v := .d (.lit (.int .i64 ((w64 ((IntKind.u64.wrap (w64 (a_1 + b_3))).fdiv (2 ^ (min (1 : Int).toNat 64)))))))) (aA rfl) rfl rfl) ?_
            refine aL rfl rfl (aA rfl) rfl c80 (bC (aA rfl) rfl rfl rfl) ?_
            refine tr1 rfl (bJ (v := .d (.lit (.bool ((decide (start_8_48 < (w64 ((IntKind.u64.wrap (w64 (a_1 + b_3))).fdiv (2 ^ (min (1 : Int).toNat 64)))))))))) (aA rfl) rfl c80 rfl rfl) ?_
            have h64 := Option.some.inj h64
            subst h64
            refine aF (aW rfl ⟨rfl, rfl, rfl, rfl, rfl, rfl, rfl, trivial⟩ rfl)
           ·have h64 := aQ c80 h64
            refine aN rfl rfl (aA rfl) rfl (aA rfl) rfl c80 ?_
            refine aN rfl rfl (aA rfl) rfl (aA rfl) rfl c80 ?_
            refine aN rfl rfl (aA rfl) rfl (aA rfl) rfl c80 ?_
            refine tr1 rfl (bI (v := .d (.lit (.bool false))) (aA rfl) rfl c80 rfl rfl) ?_
            have h64 := Option.some.inj h64
            subst h64
            refine aF (aW rfl ⟨rfl, rfl, rfl, rfl, rfl, rfl, rfl, trivial⟩ rfl)
          ·refine aF ?_
           refine bN rfl (fun c65 => ?_) (fun c65 => ?_)
           ·have h := aR c65 h
            refine aE ?_
            refine tr1 rfl (aC (v := .d (.lit data_0_v)) (aA rfl) rfl rfl) ?_
            refine tr1 rfl (aC (v := .d (.lit (.int .i64 a_1))) (aA rfl) rfl rfl) ?_
            refine tr1 rfl (aC (v := .d (.lit (.int .i64 start_8_48))) (aA rfl) rfl rfl) ?_
            refine tr1 rfl (aC (v := .d (.lit (.int .i64 ((w64 ((IntKind.u64.wrap (w64 (a_1 + b_3))).fdiv (2 ^ (min (1 : Int).toNat 64)))))))) (aA rfl) rfl rfl) ?_
            refine tr1 rfl (aC (v := .fn cmp_4_f cmp_4_v) (aA rfl) rfl rfl) ?_
            obtain ⟨r66, h67, h⟩ := bind_some h
            refine bR rfl (dP (passed := [.arr data_0_v 42 5 (r61.map aD)]) (aA rfl) rfl (.func _ _ Try.call128) rfl rfl (ih r61 a_1 start_8_48 (w64 ((IntKind.u64.wrap (w64 (a_1 + b_3))).fdiv (2 ^ (min (1 : Int).toNat 64)))) h67)) ?_
            rintro _ ⟨_, _, ⟨rfl, rfl⟩, rfl⟩
            refine aF ?_
            refine aG ?_
            refine aE ?_
            refine tr1 rfl (aC (v := .d (.lit (.int .i64 ((w64 ((IntKind.u64.wrap (w64 (a_1 + b_3))).fdiv (2 ^ (min (1 : Int).toNat 64)))))))) (aA rfl) rfl rfl) ?_
            refine tr1 rfl (aC (v := .d (.lit (.int .i64 ((w64 ((w64 ((w64 ((IntKind.u64.wrap (w64 (a_1 + b_3))).fdiv (2 ^ (min (1 : Int).toNat 64)))) + m_2)) - start_8_48)))))) (aA rfl) rfl rfl) ?_
            refine tr1 rfl (bC (aA rfl) rfl rfl rfl) ?_
            refine tr1 rfl (aC (v := .d (.lit (.bool ((decide ((w64 ((IntKind.u64.wrap (w64 (a_1 + b_3))).fdiv (2 ^ (min (1 : Int).toNat 64)))) < (w64 ((w64 ((w64 ((IntKind.u64.wrap (w64 (a_1 + b_3))).fdiv (2 ^ (min (1 : Int).toNat 64)))) + m_2)) - start_8_48)))))))) (aA rfl) rfl rfl) ?_
            obtain ⟨b68, h69, h⟩ := bind_some h
            refine bQ 4 [0, 3, 4, 18, 24] 213 b68 ?_ ?_
            ·refine bD (decide ((w64 ((IntKind.u64.wrap (w64 (a_1 + b_3))).fdiv (2 ^ (min (1 : Int).toNat 64)))) < (w64 ((w64 ((w64 ((IntKind.u64.wrap (w64 (a_1 + b_3))).fdiv (2 ^ (min (1 : Int).toNat 64)))) + m_2)) - start_8_48)))) (fun c73 => ?_) (fun c73 => ?_)
             ·have h69 := aR c73 h69
              refine aL rfl rfl (aA rfl) rfl c73 (aC (v := .d (.lit (.int .i64 ((w64 ((w64 ((w64 ((IntKind.u64.wrap (w64 (a_1 + b_3))).fdiv (2 ^ (min (1 : Int).toNat 64)))) + m_2)) - start_8_48)))))) (aA rfl) rfl rfl) ?_
              refine aL rfl rfl (aA rfl) rfl c73 (aC (v := .d (.lit (.int .i64 b_3))) (aA rfl) rfl rfl) ?_
              refine aL rfl rfl (aA rfl) rfl c73 (bC (aA rfl) rfl rfl rfl) ?_
              refine tr1 rfl (bJ (v := .d (.lit (.bool ((decide ((w64 ((w64 ((w64 ((IntKind.u64.wrap (w64 (a_1 + b_3))).fdiv (2 ^ (min (1 : Int).toNat 64)))) + m_2)) - start_8_48)) < b_3)))))) (aA rfl) rfl c73 rfl rfl) ?_
              have h69 := Option.some.inj h69
              subst h69
              refine aF (aW rfl ⟨rfl, rfl, rfl, rfl, rfl, trivial⟩ rfl)
             ·have h69 := aQ c73 h69
              refine aN rfl rfl (aA rfl) rfl (aA rfl) rfl c73 ?_
              refine aN rfl rfl (aA rfl) rfl (aA rfl) rfl c73 ?_
              refine aN rfl rfl (aA rfl) rfl (aA rfl) rfl c73 ?_
              refine tr1 rfl (bI (v := .d (.lit (.bool false))) (aA rfl) rfl c73 rfl rfl) ?_
              have h69 := Option.some.inj h69
              subst h69
              refine aF (aW rfl ⟨rfl, rfl, rfl, rfl, rfl, trivial⟩ rfl)
            ·refine aF ?_
             refine bN rfl (fun c70 => ?_) (fun c70 => ?_)
             ·have h := aR c70 h
              refine aE ?_
              refine tr1 rfl (aC (v := .d (.lit data_0_v)) (aA rfl) rfl rfl) ?_
              refine tr1 rfl (aC (v := .d (.lit (.int .i64 ((w64 ((IntKind.u64.wrap (w64 (a_1 + b_3))).fdiv (2 ^ (min (1 : Int).toNat 64)))))))) (aA rfl) rfl rfl) ?_
              refine tr1 rfl (aC (v := .d (.lit (.int .i64 ((w64 ((w64 ((w64 ((IntKind.u64.wrap (w64 (a_1 + b_3))).fdiv (2 ^ (min (1 : Int).toNat 64)))) + m_2)) - start_8_48)))))) (aA rfl) rfl rfl) ?_
              refine tr1 rfl (aC (v := .d (.lit (.int .i64 b_3))) (aA rfl) rfl rfl) ?_
              refine tr1 rfl (aC (v := .fn cmp_4_f cmp_4_v) (aA rfl) rfl rfl) ?_
              obtain ⟨r71, h72, h⟩ := bind_some h
              refine bR rfl (dP (passed := [.arr data_0_v 42 5 (r66.map aD)]) (aA rfl) rfl (.func _ _ Try.call128) rfl rfl (ih r66 (w64 ((IntKind.u64.wrap (w64 (a_1 + b_3))).fdiv (2 ^ (min (1 : Int).toNat 64)))) (w64 ((w64 ((w64 ((IntKind.u64.wrap (w64 (a_1 + b_3))).fdiv (2 ^ (min (1 : Int).toNat 64)))) + m_2)) - start_8_48)) b_3 h72)) ?_
              rintro _ ⟨_, _, ⟨rfl, rfl⟩, rfl⟩
              refine aF ?_
              have h := Option.some.inj h
              subst h
              exact ⟨_, [.arr data_0_v 42 5 (r71.map aD)], [], _, .none, .refl _, .same _, rfl, rfl⟩
             ·have h := aQ c70 h
              refine bH ?_
              have h := Option.some.inj h
              subst h
              exact ⟨_, [.arr data_0_v 42 5 (r66.map aD)], [], _, .none, .refl _, .same _, rfl, rfl⟩
           ·have h := aQ c65 h
            refine bH ?_
            refine aG ?_
            refine aE ?_
            refine tr1 rfl (aC (v := .d (.lit (.int .i64 ((w64 ((IntKind.u64.wrap (w64 (a_1 + b_3))).fdiv (2 ^ (min (1 : Int).toNat 64)))))))) (aA rfl) rfl rfl) ?_
            refine tr1 rfl (aC (v := .d (.lit (.int .i64 ((w64 ((w64 ((w64 ((IntKind.u64.wrap (w64 (a_1 + b_3))).fdiv (2 ^ (min (1 : Int).toNat 64)))) + m_2)) - start_8_48)))))) (aA rfl) rfl rfl) ?_
            refine tr1 rfl (bC (aA rfl) rfl rfl rfl) ?_
            refine tr1 rfl (aC (v := .d (.lit (.bool ((decide ((w64 ((IntKind.u64.wrap (w64 (a_1 + b_3))).fdiv (2 ^ (min (1 : Int).toNat 64)))) < (w64 ((w64 ((w64 ((IntKind.u64.wrap (w64 (a_1 + b_3))).fdiv (2 ^ (min (1 : Int).toNat 64)))) + m_2)) - start_8_48)))))))) (aA rfl) rfl rfl) ?_
            obtain ⟨b74, h75, h⟩ := bind_some h
            refine bQ 4 [0, 3, 4, 18, 24] 213 b74 ?_ ?_
            ·refine bD (decide ((w64 ((IntKind.u64.wrap (w64 (a_1 + b_3))).fdiv (2 ^ (min (1 : Int).toNat 64)))) < (w64 ((w64 ((w64 ((IntKind.u64.wrap (w64 (a_1 + b_3))).fdiv (2 ^ (min (1 : Int).toNat 64)))) + m_2)) - start_8_48)))) (fun c79 => ?_) (fun c79 => ?_)
             ·have h75 := aR c79 h75
              refine aL rfl rfl (aA rfl) rfl c79 (aC (v := .d (.lit (.int .i64 ((w64 ((w64 ((w64 ((IntKind.u64.wrap (w64 (a_1 + b_3))).fdiv (2 ^ (min (1 : Int).toNat 64)))) + m_2)) - start_8_48)))))) (aA rfl) rfl rfl) ?_
              refine aL rfl rfl (aA rfl) rfl c79 (aC (v := .d (.lit (.int .i64 b_3))) (aA rfl) rfl rfl) ?_
              refine aL rfl rfl (aA rfl) rfl c79 (bC (aA rfl) rfl rfl rfl) ?_
              refine tr1 rfl (bJ (v := .d (.lit (.bool ((decide ((w64 ((w64 ((w64 ((IntKind.u64.wrap (w64 (a_1 + b_3))).fdiv (2 ^ (min (1 : Int).toNat 64)))) + m_2)) - start_8_48)) < b_3)))))) (aA rfl) rfl c79 rfl rfl) ?_
              have h75 := Option.some.inj h75
              subst h75
              refine aF (aW rfl ⟨rfl, rfl, rfl, rfl, rfl, trivial⟩ rfl)
             ·have h75 := aQ c79 h75
              refine aN rfl rfl (aA rfl) rfl (aA rfl) rfl c79 ?_
              refine aN rfl rfl (aA rfl) rfl (aA rfl) rfl c79 ?_
              refine aN rfl rfl (aA rfl) rfl (aA rfl) rfl c79 ?_
              refine tr1 rfl (bI (v := .d (.lit (.bool false))) (aA rfl) rfl c79 rfl rfl) ?_
              have h75 := Option.some.inj h75
              subst h75
              refine aF (aW rfl ⟨rfl, rfl, rfl, rfl, rfl, trivial⟩ rfl)
            ·refine aF ?_
             refine bN rfl (fun c76 => ?_) (fun c76 => ?_)
             ·have h := aR c76 h
              refine aE ?_
              refine tr1 rfl (aC (v := .d (.lit data_0_v)) (aA rfl) rfl rfl) ?_
              refine tr1 rfl (aC (v := .d (.lit (.int .i64 ((w64 ((IntKind.u64.wrap (w64 (a_1 + b_3))).fdiv (2 ^ (min (1 : Int).toNat 64)))))))) (aA rfl) rfl rfl) ?_
              refine tr1 rfl (aC (v := .d (.lit (.int .i64 ((w64 ((w64 ((w64 ((IntKind.u64.wrap (w64 (a_1 + b_3))).fdiv (2 ^ (min (1 : Int).toNat 64)))) + m_2)) - start_8_48)))))) (aA rfl) rfl rfl) ?_
              refine tr1 rfl (aC (v := .d (.lit (.int .i64 b_3))) (aA rfl) rfl rfl) ?_
              refine tr1 rfl (aC (v := .fn cmp_4_f cmp_4_v) (aA rfl) rfl rfl) ?_
              obtain ⟨r77, h78, h⟩ := bind_some h
              refine bR rfl (dP (passed := [.arr data_0_v 42 5 (r61.map aD)]) (aA rfl) rfl (.func _ _ Try.call128) rfl rfl (ih r61 (w64 ((IntKind.u64.wrap (w64 (a_1 + b_3))).fdiv (2 ^ (min (1 : Int).toNat 64)))) (w64 ((w64 ((w64 ((IntKind.u64.wrap (w64 (a_1 + b_3))).fdiv (2 ^ (min (1 : Int).toNat 64)))) + m_2)) - start_8_48)) b_3 h78)) ?_
              rintro _ ⟨_, _, ⟨rfl, rfl⟩, rfl⟩
              refine aF ?_
              have h := Option.some.inj h
              subst h
              exact ⟨_, [.arr data_0_v 42 5 (r77.map aD)], [], _, .none, .refl _, .same _, rfl, rfl⟩
             ·have h := aQ c76 h
              refine bH ?_
              have h := Option.some.inj h
              subst h
              exact ⟨_, [.arr data_0_v 42 5 (r61.map aD)], [], _, .none, .refl _, .same _, rfl, rfl⟩
         ·have h := aQ c60 h
          refine bH ?_
          refine aG ?_
          refine aG ?_
          refine aE ?_
          refine tr1 rfl (aC (v := .d (.lit (.int .i64 a_1))) (aA rfl) rfl rfl) ?_
          refine tr1 rfl (aC (v := .d (.lit (.int .i64 start_8_48))) (aA rfl) rfl rfl) ?_
          refine tr1 rfl (bC (aA rfl) rfl rfl rfl) ?_
          refine tr1 rfl (aC (v := .d (.lit (.bool ((decide (a_1 < start_8_48)))))) (aA rfl) rfl rfl) ?_
          obtain ⟨b81, h82, h⟩ := bind_some h
          refine bQ 4 [0, 1, 3, 4, 18, 20, 24] 199 b81 ?_ ?_
          ·refine bD (decide (a_1 < start_8_48)) (fun c98 => ?_) (fun c98 => ?_)
           ·have h82 := aR c98 h82
            refine aL rfl rfl (aA rfl) rfl c98 (aC (v := .d (.lit (.int .i64 start_8_48))) (aA rfl) rfl rfl) ?_
            refine aL rfl rfl (aA rfl) rfl c98 (aC (v := .d (.lit (.int .i64 ((w64 ((IntKind.u64.wrap (w64 (a_1 + b_3))).fdiv (2 ^ (min (1 : Int).toNat 64)))))))) (aA rfl) rfl rfl) ?_
            refine aL rfl rfl (aA rfl) rfl c98 (bC (aA rfl) rfl rfl rfl) ?_
            refine tr1 rfl (bJ (v := .d (.lit (.bool ((decide (start_8_48 < (w64 ((IntKind.u64.wrap (w64 (a_1 + b_3))).fdiv (2 ^ (min (1 : Int).toNat 64)))))))))) (aA rfl) rfl c98 rfl rfl) ?_
            have h82 := Option.some.inj h82
            subst h82
            refine aF (aW rfl ⟨rfl, rfl, rfl, rfl, rfl, rfl, rfl, trivial⟩ rfl)
           ·have h82 := aQ c98 h82
            refine aN rfl rfl (aA rfl) rfl (aA rfl) rfl c98 ?_
            refine aN rfl rfl (aA rfl) rfl (aA rfl) rfl c98 ?_
            refine aN rfl rfl (aA rfl) rfl (aA rfl) rfl c98 ?_
            refine tr1 rfl (bI (v := .d (.lit (.bool false))) (aA rfl) rfl c98 rfl rfl) ?_
            have h82 := Option.some.inj h82
            subst h82
            refine aF (aW rfl ⟨rfl, rfl, rfl, rfl, rfl, rfl, rfl, trivial⟩ rfl)
          ·refine aF ?_
           refine bN rfl (fun c83 => ?_) (fun c83 => ?_)
           ·have h := aR c83 h
            refine aE ?_
            refine tr1 rfl (aC (v := .d (.lit data_0_v)) (aA rfl) rfl rfl) ?_
            refine tr1 rfl (aC (v := .d (.lit (.int .i64 a_1))) (aA rfl) rfl rfl) ?_
            refine tr1 rfl (aC (v := .d (.lit (.int .i64 start_8_48))) (aA rfl) rfl rfl) ?_
            refine tr1 rfl (aC (v := .d (.lit (.int .i64 ((w64 ((IntKind.u64.wrap (w64 (a_1 + b_3))).fdiv (2 ^ (min (1 : Int).toNat 64)))))))) (aA rfl) rfl rfl) ?_
            refine tr1 rfl (aC (v := .fn cmp_4_f cmp_4_v) (aA rfl) rfl rfl) ?_
            obtain ⟨r84, h85, h⟩ := bind_some h
            refine bR rfl (dP (passed := [.arr data_0_v 42 5 (data_0.map aD)]) (aA rfl) rfl (.func _ _ Try.call128) rfl rfl (ih data_0 a_1 start_8_48 (w64 ((IntKind.u64.wrap (w64 (a_1 + b_3))).fdiv (2 ^ (min (1 : Int).toNat 64)))) h85)) ?_
            rintro _ ⟨_, _, ⟨rfl, rfl⟩, rfl⟩
            refine aF ?_
            refine aG ?_
            refine aE ?_
            refine tr1 rfl (aC (v := .d (.lit (.int .i64 ((w64 ((IntKind.u64.wrap (w64 (a_1 + b_3))).fdiv (2 ^ (min (1 : Int).toNat 64)))))))) (aA rfl) rfl rfl) ?_
            refine tr1 rfl (aC (v := .d (.lit (.int .i64 ((w64 ((w64 ((w64 ((IntKind.u64.wrap (w64 (a_1 + b_3))).fdiv (2 ^ (min (1 : Int).toNat 64)))) + m_2)) - start_8_48)))))) (aA rfl) rfl rfl) ?_
            refine tr1 rfl (bC (aA rfl) rfl rfl rfl) ?_
            refine tr1 rfl (aC (v := .d (.lit (.bool ((decide ((w64 ((IntKind.u64.wrap (w64 (a_1 + b_3))).fdiv (2 ^ (min (1 : Int).toNat 64)))) < (w64 ((w64 ((w64 ((IntKind.u64.wrap (w64 (a_1 + b_3))).fdiv (2 ^ (min (1 : Int).toNat 64)))) + m_2)) - start_8_48)))))))) (aA rfl) rfl rfl) ?_
            obtain ⟨b86, h87, h⟩ := bind_some h
            refine bQ 4 [0, 3, 4, 18, 24] 213 b86 ?_ ?_
            ·refine bD (decide ((w64 ((IntKind.u64.wrap (w64 (a_1 + b_3))).fdiv (2 ^ (min (1 : Int).toNat 64)))) < (w64 ((w64 ((w64 ((IntKind.u64.wrap (w64 (a_1 + b_3))).fdiv (2 ^ (min (1 : Int).toNat 64)))) + m_2)) - start_8_48)))) (fun c91 => ?_) (fun c91 => ?_)
             ·have h87 := aR c91 h87
              refine aL rfl rfl (aA rfl) rfl c91 (aC (v := .d (.lit (.int .i64 ((w64 ((w64 ((w64 ((IntKind.u64.wrap (w64 (a_1 + b_3))).fdiv (2 ^ (min (1 : Int).toNat 64)))) + m_2)) - start_8_48)))))) (aA rfl) rfl rfl) ?_
              refine aL rfl rfl (aA rfl) rfl c91 (aC (v := .d (.lit (.int .i64 b_3))) (aA rfl) rfl rfl) ?_
              refine aL rfl rfl (aA rfl) rfl c91 (bC (aA rfl) rfl rfl rfl) ?_
              refine tr1 rfl (bJ (v := .d (.lit (.bool ((decide ((w64 ((w64 ((w64 ((IntKind.u64.wrap (w64 (a_1 + b_3))).fdiv (2 ^ (min (1 : Int).toNat 64)))) + m_2)) - start_8_48)) < b_3)))))) (aA rfl) rfl c91 rfl rfl) ?_
              have h87 := Option.some.inj h87
              subst h87
              refine aF (aW rfl ⟨rfl, rfl, rfl, rfl, rfl, trivial⟩ rfl)
             ·have h87 := aQ c91 h87
              refine aN rfl rfl (aA rfl) rfl (aA rfl) rfl c91 ?_
              refine aN rfl rfl (aA rfl) rfl (aA rfl) rfl c91 ?_
              refine aN rfl rfl (aA rfl) rfl (aA rfl) rfl c91 ?_
              refine tr1 rfl (bI (v := .d (.lit (.bool false))) (aA rfl) rfl c91 rfl rfl) ?_
              have h87 := Option.some.inj h87
              subst h87
              refine aF (aW rfl ⟨rfl, rfl, rfl, rfl, rfl, trivial⟩ rfl)
            ·refine aF ?_
             refine bN rfl (fun c88 => ?_) (fun c88 => ?_)
             ·have h := aR c88 h
              refine aE ?_
              refine tr1 rfl (aC (v := .d (.lit data_0_v)) (aA rfl) rfl rfl) ?_
              refine tr1 rfl (aC (v := .d (.lit (.int .i64 ((w64 ((IntKind.u64.wrap (w64 (a_1 + b_3))).fdiv (2 ^ (min (1 : Int).toNat 64)))))))) (aA rfl) rfl rfl) ?_
              refine tr1 rfl (aC (v := .d (.lit (.int .i64 ((w64 ((w64 ((w64 ((IntKind.u64.wrap (w64 (a_1 + b_3))).fdiv (2 ^ (min (1 : Int).toNat 64)))) + m_2)) - start_8_48)))))) (aA rfl) rfl rfl) ?_
              refine tr1 rfl (aC (v := .d (.lit (.int .i64 b_3))) (aA rfl) rfl rfl) ?_
              refine tr1 rfl (aC (v := .fn cmp_4_f cmp_4_v) (aA rfl) rfl rfl) ?_
              obtain ⟨r89, h90, h⟩ := bind_some h
              refine bR rfl (dP (passed := [.arr data_0_v 42 5 (r84.map aD)]) (aA rfl) rfl (.func _ _ Try.call128) rfl rfl (ih r84 (w64 ((IntKind.u64.wrap (w64 (a_1 + b_3))).fdiv (2 ^ (min (1 : Int).toNat 64)))) (w64 ((w64 ((w64 ((IntKind.u64.wrap (w64 (a_1 + b_3))).fdiv (2 ^ (min (1 : Int).toNat 64)))) + m_2)) - start_8_48)) b_3 h90)) ?_
              rintro _ ⟨_, _, ⟨rfl, rfl⟩, rfl⟩
              refine aF ?_
              have h := Option.some.inj h
              subst h
              exact ⟨_, [.arr data_0_v 42 5 (r89.map aD)], [], _, .none, .refl _, .same _, rfl, rfl⟩
             ·have h := aQ c88 h
              refine bH ?_
              have h := Option.some.inj h
              subst h
              exact ⟨_, [.arr data_0_v 42 5 (r84.map aD)], [], _, .none, .refl _, .same _, rfl, rfl⟩
           ·have h := aQ c83 h
            refine bH ?_
            refine aG ?_
            refine aE ?_
            refine tr1 rfl (aC (v := .d (.lit (.int .i64 ((w64 ((IntKind.u64.wrap (w64 (a_1 + b_3))).fdiv (2 ^ (min (1 : Int).toNat 64)))))))) (aA rfl) rfl rfl) ?_
            refine tr1 rfl (aC (v := .d (.lit (.int .i64 ((w64 ((w64 ((w64 ((IntKind.u64.wrap (w64 (a_1 + b_3))).fdiv (2 ^ (min (1 : Int).toNat 64)))) + m_2)) - start_8_48)))))) (aA rfl) rfl rfl) ?_
            refine tr1 rfl (bC (aA rfl) rfl rfl rfl) ?_
            refine tr1 rfl (aC (v := .d (.lit (.bool ((decide ((w64 ((IntKind.u64.wrap (w64 (a_1 + b_3))).fdiv (2 ^ (min (1 : Int).toNat 64)))) < (w64 ((w64 ((w64 ((IntKind.u64.wrap (w64 (a_1 + b_3))).fdiv (2 ^ (min (1 : Int).toNat 64)))) + m_2)) - start_8_48)))))))) (aA rfl) rfl rfl) ?_
            obtain ⟨b92, h93, h⟩ := bind_some h
            refine bQ 4 [0, 3, 4, 18, 24] 213 b92 ?_ ?_
            ·refine bD (decide ((w64 ((IntKind.u64.wrap (w64 (a_1 + b_3))).fdiv (2 ^ (min (1 : Int).toNat 64)))) < (w64 ((w64 ((w64 ((IntKind.u64.wrap (w64 (a_1 + b_3))).fdiv (2 ^ (min (1 : Int).toNat 64)))) + m_2)) - start_8_48)))) (fun c97 => ?_) (fun c97 => ?_)
             ·have h93 := aR c97 h93
              refine aL rfl rfl (aA rfl) rfl c97 (aC (v := .d (.lit (.int .i64 ((w64 ((w64 ((w64 ((IntKind.u64.wrap (w64 (a_1 + b_3))).fdiv (2 ^ (min (1 : Int).toNat 64)))) + m_2)) - start_8_48)))))) (aA rfl) rfl rfl) ?_
              refine aL rfl rfl (aA rfl) rfl c97 (aC (v := .d (.lit (.int .i64 b_3))) (aA rfl) rfl rfl) ?_
              refine aL rfl rfl (aA rfl) rfl c97 (bC (aA rfl) rfl rfl rfl) ?_
              refine tr1 rfl (bJ (v := .d (.lit (.bool ((decide ((w64 ((w64 ((w64 ((IntKind.u64.wrap (w64 (a_1 + b_3))).fdiv (2 ^ (min (1 : Int).toNat 64)))) + m_2)) - start_8_48)) < b_3)))))) (aA rfl) rfl c97 rfl rfl) ?_
              have h93 := Option.some.inj h93
              subst h93
              refine aF (aW rfl ⟨rfl, rfl, rfl, rfl, rfl, trivial⟩ rfl)
             ·have h93 := aQ c97 h93
              refine aN rfl rfl (aA rfl) rfl (aA rfl) rfl c97 ?_
              refine aN rfl rfl (aA rfl) rfl (aA rfl) rfl c97 ?_
              refine aN rfl rfl (aA rfl) rfl (aA rfl) rfl c97 ?_
              refine tr1 rfl (bI (v := .d (.lit (.bool false))) (aA rfl) rfl c97 rfl rfl) ?_
              have h93 := Option.some.inj h93
              subst h93
              refine aF (aW rfl ⟨rfl, rfl, rfl, rfl, rfl, trivial⟩ rfl)
            ·refine aF ?_
             refine bN rfl (fun c94 => ?_) (fun c94 => ?_)
             ·have h := aR c94 h
              refine aE ?_
              refine tr1 rfl (aC (v := .d (.lit data_0_v)) (aA rfl) rfl rfl) ?_
              refine tr1 rfl (aC (v := .d (.lit (.int .i64 ((w64 ((IntKind.u64.wrap (w64 (a_1 + b_3))).fdiv (2 ^ (min (1 : Int).toNat 64)))))))) (aA rfl) rfl rfl) ?_
              refine tr1 rfl (aC (v := .d (.lit (.int .i64 ((w64 ((w64 ((w64 ((IntKind.u64.wrap (w64 (a_1 + b_3))).fdiv (2 ^ (min (1 : Int).toNat 64)))) + m_2)) - start_8_48)))))) (aA rfl) rfl rfl) ?_
              refine tr1 rfl (aC (v := .d (.lit (.int .i64 b_3))) (aA rfl) rfl rfl) ?_
              refine tr1 rfl (aC (v := .fn cmp_4_f cmp_4_v) (aA rfl) rfl rfl) ?_
              obtain ⟨r95, h96, h⟩ := bind_some h
              refine bR rfl (dP (passed := [.arr data_0_v 42 5 (data_0.map aD)]) (aA rfl) rfl (.func _ _ Try.call128) rfl rfl (ih data_0 (w64 ((IntKind.u64.wrap (w64 (a_1 + b_3))).fdiv (2 ^ (min (1 : Int).toNat 64)))) (w64 ((w64 ((w64 ((IntKind.u64.wrap (w64 (a_1 + b_3))).fdiv (2 ^ (min (1 : Int).toNat 64)))) + m_2)) - start_8_48)) b_3 h96)) ?_
              rintro _ ⟨_, _, ⟨rfl, rfl⟩, rfl⟩
              refine aF ?_
              have h := Option.some.inj h
              subst h
              exact ⟨_, [.arr data_0_v 42 5 (r95.map aD)], [], _, .none, .refl _, .same _, rfl, rfl⟩
             ·have h := aQ c94 h
              refine bH ?_
              have h := Option.some.inj h
              subst h
              exact ⟨_, [.arr data_0_v 42 5 (data_0.map aD)], [], _, .none, .refl _, .same _, rfl, rfl⟩
      ·have h := aQ c47 h
       refine aG ?_
       refine aE ?_
       refine tr1 rfl (aC (v := .d (.lit (.int .i64 a_1))) (aA rfl) rfl rfl) ?_
       refine tr1 rfl (aJ (v := .d (.lit (.int .i64 a_1))) (aA rfl) rfl rfl) ?_
       refine aF ?_
       refine aE ?_
       refine tr1 rfl (aC (v := .d (.lit (.int .i64 m_2))) (aA rfl) rfl rfl) ?_
       refine tr1 rfl (aJ (v := .d (.lit (.int .i64 m_2))) (aA rfl) rfl rfl) ?_
       refine aF ?_
       refine aG ?_
       refine aE ?_
       refine tr1 rfl (aC (v := .d (.lit (.int .i64 ((w64 ((w64 ((IntKind.u64.wrap (w64 (a_1 + b_3))).fdiv (2 ^ (min (1 : Int).toNat 64)))) + m_2)))))) (aA rfl) rfl rfl) ?_
       refine tr1 rfl (bA (aA rfl) rfl rfl rfl) ?_
       refine tr1 rfl (aJ (v := .d (.lit (.int .i64 ((w64 ((w64 ((w64 ((IntKind.u64.wrap (w64 (a_1 + b_3))).fdiv (2 ^ (min (1 : Int).toNat 64)))) + m_2)) - 1)))))) (aA rfl) rfl rfl) ?_
       refine aF ?_
       refine aG ?_
       refine bT ?_
       refine cM [0, 1, 2, 3, 4, 18, 19, 22] (fun (s100 : Int × Int) => [(20, .d (.lit (.int .i64 s100.1))), (21, .d (.lit (.int .i64 s100.2)))]) (fun (s100 : Int × Int) => [.arr data_0_v 42 5 (data_0.map aD)]) (fun (k : Nat) (s100 : Int × Int) => bZ (bE cmp_4 kr) a_1 m_2 b_3 cmp_4 (w64 ((IntKind.u64.wrap (w64 (a_1 + b_3))).fdiv (2 ^ (min (1 : Int).toNat 64)))) (w64 ((w64 ((IntKind.u64.wrap (w64 (a_1 + b_3))).fdiv (2 ^ (min (1 : Int).toNat 64)))) + m_2)) (w64 ((w64 ((w64 ((IntKind.u64.wrap (w64 (a_1 + b_3))).fdiv (2 ^ (min (1 : Int).toNat 64)))) + m_2)) - 1)) data_0 k s100.1 s100.2) (fun _ => rfl) (a_1, m_2) h (aY [0] rfl rfl (aO rfl (aO rfl (aZ ⟨rfl, rfl, rfl, rfl, rfl, rfl, rfl, rfl, trivial⟩)))) ?_
       rintro k101 ⟨start_8_100, r_8_100⟩ h
       simp only [bZ] at h
       refine aG ?_
       refine aG ?_
       refine aE ?_
       refine tr1 rfl (aC (v := .d (.lit (.int .i64 start_8_100))) (aA rfl) rfl rfl) ?_
       refine tr1 rfl (aC (v := .d (.lit (.int .i64 r_8_100))) (aA rfl) rfl rfl) ?_
       refine tr1 rfl (bC (aA rfl) rfl rfl rfl) ?_
       refine aF ?_
       refine bN rfl (fun c102 => ?_) (fun c102 => ?_)
       ·have h := aR c102 h
        refine bH ?_
        refine bT ?_
        refine aG ?_
        refine aE ?_
        refine tr1 rfl (aC (v := .d (.lit (.int .i64 start_8_100))) (aA rfl) rfl rfl) ?_
        refine tr1 rfl (aC (v := .d (.lit (.int .i64 r_8_100))) (aA rfl) rfl rfl) ?_
        refine tr1 rfl (bA (aA rfl) rfl rfl rfl) ?_
        refine tr1 rfl (pJ (aA rfl) rfl Try.runUnderlying3 Try.runUnderlying127) ?_
        refine tr1 rfl (aBf (aA rfl) rfl rfl (by decide)) ?_
        refine tr1 rfl (pJ (aA rfl) rfl Try.runUnderlying127 Try.runUnderlying3) ?_
        refine tr1 rfl (aJ (v := .d (.lit (.int .i64 ((w64 ((IntKind.u64.wrap (w64 (start_8_100 + r_8_100))).fdiv (2 ^ (min (1 : Int).toNat 64)))))))) (aA rfl) rfl rfl) ?_
        refine aF ?_
        refine aG ?_
        obtain ⟨x103, h104, h⟩ := bind_some h
        obtain ⟨x105, h106, h⟩ := bind_some h
        refine hH mix 11 [0, 1, 2, 3, 4, 18, 19, 20, 21, 22, 23] [(158, .fn cmp_4_f cmp_4_v), (164, .agg (aD x103)), (168, .agg (aD x105))] ?_ ?_
        ·refine ⟨[(158, 0, .fn cmp_4_f cmp_4_v), (159, 1, .d (.lit data_0_v)), (160, 2, .d (.lit (.int .i64 ((w64 ((w64 ((w64 ((IntKind.u64.wrap (w64 (a_1 + b_3))).fdiv (2 ^ (min (1 : Int).toNat 64)))) + m_2)) - 1)))))), (161, 3, .d (.lit (.int .i64 ((w64 ((IntKind.u64.wrap (w64 (start_8_100 + r_8_100))).fdiv (2 ^ (min (1 : Int).toNat 64)))))))), (162, 4, .d (.lit (.int .i64 ((w64 ((w64 ((w64 ((w64 ((IntKind.u64.wrap (w64 (a_1 + b_3))).fdiv (2 ^ (min (1 : Int).toNat 64)))) + m_2)) - 1)) - (w64 ((IntKind.u64.wrap (w64 (start_8_100 + r_8_100))).fdiv (2 ^ (min (1 : Int).toNat 64)))))))))), (163, 5, .ep data_0_v 5 (w64 ((w64 ((w64 ((w64 ((IntKind.u64.wrap (w64 (a_1 + b_3))).fdiv (2 ^ (min (1 : Int).toNat 64)))) + m_2)) - 1)) - (w64 ((IntKind.u64.wrap (w64 (start_8_100 + r_8_100))).fdiv (2 ^ (min (1 : Int).toNat 64)))))).toNat 0), (164, 6, .agg (aD x103)), (165, 7, .d (.lit data_0_v)), (166, 8, .d (.lit (.int .i64 ((w64 ((IntKind.u64.wrap (w64 (start_8_100 + r_8_100))).fdiv (2 ^ (min (1 : Int).toNat 64)))))))), (167, 9, .ep data_0_v 5 (w64 ((IntKind.u64.wrap (w64 (start_8_100 + r_8_100))).fdiv (2 ^ (min (1 : Int).toNat 64)))).toNat 0), (168, 10, .agg (aD x105))], ?_, ?_⟩
         · exact ⟨by kernel_rfl, by kernel_rfl, by kernel_rfl, by kernel_rfl, by kernel_rfl, [([], []), ([], []), ([], []), ([], []), ([2, 3], []), ([1, 4], []), ([5], []), ([], []), ([], []), ([7, 8], []), ([9], [])], by kernel_rfl, ⟨fun S hS => aK rfl (aS rfl (aC (v := .fn cmp_4_f cmp_4_v) (aA rfl) (aH hS rfl) rfl)),
      fun S hS => aK rfl (aS rfl (aC (v := .d (.lit data_0_v)) (aA rfl) (aH hS rfl) rfl)),
      fun S hS => aK rfl (aS rfl (aC (v := .d (.lit (.int .i64 ((w64 ((w64 ((w64 ((IntKind.u64.wrap (w64 (a_1 + b_3))).fdiv (2 ^ (min (1 : Int).toNat 64)))) + m_2)) - 1)))))) (aA rfl) (aH hS rfl) rfl)),
      fun S hS => aK rfl (aS rfl (aC (v := .d (.lit (.int .i64 ((w64 ((IntKind.u64.wrap (w64 (start_8_100 + r_8_100))).fdiv (2 ^ (min (1 : Int).toNat 64)))))))) (aA rfl) (aH hS rfl) rfl)),
      fun S hS => aK rfl (aS rfl (bA (aA rfl) (aH hS rfl) (aH hS rfl) rfl)),
      fun S hS => aK rfl (aS rfl (cC (m := 0) (aA rfl) (aH hS rfl) rfl (aH hS rfl) cA.of (bP aD h104))),
      fun S hS => aK rfl (aS rfl (dG (aA rfl) (aH hS rfl) (l := 0) rfl (dX aD h104) eI (es := (aD x103)) rfl rfl)),
      fun S hS => aK rfl (aS rfl (aC (v := .d (.lit data_0_v)) (aA rfl) (aH hS rfl) rfl)),
      fun S hS => aK rfl (aS rfl (aC (v := .d (.lit (.int .i64 ((w64 ((IntKind.u64.wrap (w64 (start_8_100 + r_8_100))).fdiv (2 ^ (min (1 : Int).toNat 64)))))))) (aA rfl) (aH hS rfl) rfl)),
      fun S hS => aK rfl (aS rfl (cC (m := 0) (aA rfl) (aH hS rfl) rfl (aH hS rfl) cA.of (bP aD h106))),
      fun S hS => aK rfl (aS rfl (dG (aA rfl) (aH hS rfl) (l := 0) rfl (dX aD h106) eI (es := (aD x105)) rfl rfl)), trivial⟩⟩
         · exact eJ (aO rfl (aO rfl (aO rfl (aZ ⟨rfl, rfl, rfl, rfl, rfl, rfl, rfl, rfl, rfl, rfl, rfl, trivial⟩))))
        ·obtain ⟨r107, h108, h⟩ := bind_some h
         refine tr1 rfl (bY (aA rfl) (.clo _ _ _ _ cmp_4_e rfl) (uI rfl) rfl (BVs.refl _ _) (cmp_4_h _ _ _  h108) rfl) ?_
         refine tr1 rfl (bC (aA rfl) rfl rfl rfl) ?_
         refine tr1 rfl (fD (aA rfl) rfl) ?_
         refine aF ?_
         refine bN rfl (fun c109 => ?_) (fun c109 => ?_)
         ·have h := aR c109 h
          refine aE ?_
          refine tr1 rfl (aC (v := .d (.lit (.int .i64 ((w64 ((IntKind.u64.wrap (w64 (start_8_100 + r_8_100))).fdiv (2 ^ (min (1 : Int).toNat 64)))))))) (aA rfl) rfl rfl) ?_
          refine tr1 rfl (bA (aA rfl) rfl rfl rfl) ?_
          refine tr1 rfl (aJ (v := .d (.lit (.int .i64 ((w64 ((w64 ((IntKind.u64.wrap (w64 (start_8_100 + r_8_100))).fdiv (2 ^ (min (1 : Int).toNat 64)))) + 1)))))) (aA rfl) rfl rfl) ?_
          refine eH ?_
          exact ⟨(w64 ((w64 ((IntKind.u64.wrap (w64 (start_8_100 + r_8_100))).fdiv (2 ^ (min (1 : Int).toNat 64)))) + 1), r_8_100), h, aY [0] rfl rfl (aO rfl (aO rfl (aZ ⟨rfl, rfl, rfl, rfl, rfl, rfl, rfl, rfl, trivial⟩)))⟩
         ·have h := aQ c109 h
          refine aE ?_
          refine tr1 rfl (aC (v := .d (.lit (.int .i64 ((w64 ((IntKind.u64.wrap (w64 (start_8_100 + r_8_100))).fdiv (2 ^ (min (1 : Int).toNat 64)))))))) (aA rfl) rfl rfl) ?_
          refine tr1 rfl (aJ (v := .d (.lit (.int .i64 ((w64 ((IntKind.u64.wrap (w64 (start_8_100 + r_8_100))).fdiv (2 ^ (min (1 : Int).toNat 64)))))))) (aA rfl) rfl rfl) ?_
          refine eH ?_
          exact ⟨(start_8_100, w64 ((IntKind.u64.wrap (w64 (start_8_100 + r_8_100))).fdiv (2 ^ (min (1 : Int).toNat 64)))), h, aY [0] rfl rfl (aO rfl (aO rfl (aZ ⟨rfl, rfl, rfl, rfl, rfl, rfl, rfl, rfl, trivial⟩)))⟩
       ·have h := aQ c102 h
        refine cX ?_
        refine .inl ⟨rfl, ?_⟩
        simp only [dC] at h
        refine aG ?_
        refine aE ?_
        refine tr1 rfl (aC (v := .d (.lit (.int .i64 ((w64 ((w64 ((IntKind.u64.wrap (w64 (a_1 + b_3))).fdiv (2 ^ (min (1 : Int).toNat 64)))) + m_2)))))) (aA rfl) rfl rfl) ?_
        refine tr1 rfl (aC (v := .d (.lit (.int .i64 start_8_100))) (aA rfl) rfl rfl) ?_
        refine tr1 rfl (bA (aA rfl) rfl rfl rfl) ?_
        refine tr1 rfl (aJ (v := .d (.lit (.int .i64 ((w64 ((w64 ((w64 ((IntKind.u64.wrap (w64 (a_1 + b_3))).fdiv (2 ^ (min (1 : Int).toNat 64)))) + m_2)) - start_8_100)))))) (aA rfl) rfl rfl) ?_
        refine aF ?_
        refine aG ?_
        refine aG ?_
        refine aE ?_
        refine tr1 rfl (aC (v := .d (.lit (.int .i64 start_8_100))) (aA rfl) rfl rfl) ?_
        refine tr1 rfl (aC (v := .d (.lit (.int .i64 m_2))) (aA rfl) rfl rfl) ?_
        refine tr1 rfl (bC (aA rfl) rfl rfl rfl) ?_
        refine tr1 rfl (aC (v := .d (.lit (.bool ((decide (start_8_100 < m_2)))))) (aA rfl) rfl rfl) ?_
        obtain ⟨b110, h111, h⟩ := bind_some h
        refine bQ 4 [0, 1, 2, 3, 4, 18, 20, 24] 185 b110 ?_ ?_
        ·refine bD (decide (start_8_100 < m_2)) (fun c151 => ?_) (fun c151 => ?_)
         ·have h111 := aR c151 h111
          refine aL rfl rfl (aA rfl) rfl c151 (aC (v := .d (.lit (.int .i64 m_2))) (aA rfl) rfl rfl) ?_
          refine aL rfl rfl (aA rfl) rfl c151 (aC (v := .d (.lit (.int .i64 ((w64 ((w64 ((w64 ((IntKind.u64.wrap (w64 (a_1 + b_3))).fdiv (2 ^ (min (1 : Int).toNat 64)))) + m_2)) - start_8_100)))))) (aA rfl) rfl rfl) ?_
          refine aL rfl rfl (aA rfl) rfl c151 (bC (aA rfl) rfl rfl rfl) ?_
          refine tr1 rfl (bJ (v := .d (.lit (.bool ((decide (m_2 < (w64 ((w64 ((w64 ((IntKind.u64.wrap (w64 (a_1 + b_3))).fdiv (2 ^ (min (1 : Int).toNat 64)))) + m_2)) - start_8_100)))))))) (aA rfl) rfl c151 rfl rfl) ?_
          have h111 := Option.some.inj h111
          subst h111
          refine aF (aW rfl ⟨rfl, rfl, rfl, rfl, rfl, rfl, rfl, rfl, trivial⟩ rfl)
         ·have h111 := aQ c151 h111
          refine aN rfl rfl (aA rfl) rfl (aA rfl) rfl c151 ?_
          refine aN rfl rfl (aA rfl) rfl (aA rfl) rfl c151 ?_
          refine aN rfl rfl (aA rfl) rfl (aA rfl) rfl c151 ?_
          refine tr1 rfl (bI (v := .d (.lit (.bool false))) (aA rfl) rfl c151 rfl rfl) ?_
          have h111 := Option.some.inj h111
          subst h111
          refine aF (aW rfl ⟨rfl, rfl, rfl, rfl, rfl, rfl, rfl, rfl, trivial⟩ rfl)
        ·refine aF ?_
         refine bN rfl (fun c112 => ?_) (fun c112 => ?_)
         ·have h := aR c112 h
          refine aE ?_
          refine tr1 rfl (aC (v := .d (.lit data_0_v)) (aA rfl) rfl rfl) ?_
          refine tr1 rfl (aC (v := .d (.lit (.int .i64 start_8_100))) (aA rfl) rfl rfl) ?_
          refine tr1 rfl (aC (v := .d (.lit (.int .i64 m_2))) (aA rfl) rfl rfl) ?_
          refine tr1 rfl (aC (v := .d (.lit (.int .i64 ((w64 ((w64 ((w64 ((IntKind.u64.wrap (w64 (a_1 + b_3))).fdiv (2 ^ (min (1 : Int).toNat 64)))) + m_2)) - start_8_100)))))) (aA rfl) rfl rfl) ?_
          refine tr1 rfl (aC (v := .fn cmp_4_f cmp_4_v) (aA rfl) rfl rfl) ?_
          obtain ⟨r113, h114, h⟩ := bind_some h
          refine bR rfl (dP (passed := [.arr data_0_v 42 5 (data_0.map aD)]) (aA rfl) rfl (.func _ _ Try.call138) rfl rfl (mE data_0 start_8_100 m_2 (w64 ((w64 ((w64 ((IntKind.u64.wrap (w64 (a_1 + b_3))).fdiv (2 ^ (min (1 : Int).toNat 64)))) + m_2)) - start_8_100)) cmp_4 cmp_4_f cmp_4_v cmp_4_e cmp_4_h h114)) ?_
          rintro _ ⟨_, _, ⟨rfl, rfl⟩, rfl⟩
          refine aF ?_
          refine aG ?_
          refine aG ?_
          refine aE ?_
          refine tr1 rfl (aC (v := .d (.lit (.int .i64 a_1))) (aA rfl) rfl rfl) ?_
          refine tr1 rfl (aC (v := .d (.lit (.int .i64 start_8_100))) (aA rfl) rfl rfl) ?_
          refine tr1 rfl (bC (aA rfl) rfl rfl rfl) ?_
          refine tr1 rfl (aC (v := .d (.lit (.bool ((decide (a_1 < start_8_100)))))) (aA rfl) rfl rfl) ?_
          obtain ⟨b115, h116, h⟩ := bind_some h
          refine bQ 4 [0, 1, 3, 4, 18, 20, 24] 199 b115 ?_ ?_
          ·refine bD (decide (a_1 < start_8_100)) (fun c132 => ?_) (fun c132 => ?_)
           ·have h116 := aR c132 h116
            refine aL rfl rfl (aA rfl) rfl c132 (aC (v := .d (.lit (.int .i64 start_8_100))) (aA rfl) rfl rfl) ?_
            refine aL rfl rfl (aA rfl) rfl c132 (aC (v := .d (.lit (.int .i64 ((w64 ((IntKind.u64.wrap (w64 (a_1 + b_3))).fdiv (2 ^ (min (1 : Int).toNat 64)))))))) (aA rfl) rfl rfl) ?_
            refine aL rfl rfl (aA rfl) rfl c132 (bC (aA rfl) rfl rfl rfl) ?_
            refine tr1 rfl (bJ (v := .d (.lit (.bool ((decide (start_8_100 < (w64 ((IntKind.u64.wrap (w64 (a_1 + b_3))).fdiv (2 ^ (min (1 : Int).toNat 64)))))))))) (aA rfl) rfl c132 rfl rfl) ?_
            have h116 := Option.some.inj h116
            subst h116
            refine aF (aW rfl ⟨rfl, rfl, rfl, rfl, rfl, rfl, rfl, trivial⟩ rfl)
           ·have h116 := aQ c132 h116
            refine aN rfl rfl (aA rfl) rfl (aA rfl) rfl c132 ?_
            refine aN rfl rfl (aA rfl) rfl (aA rfl) rfl c132 ?_
            refine aN rfl rfl (aA rfl) rfl (aA rfl) rfl c132 ?_
            refine tr1 rfl (bI (v := .d (.lit (.bool false))) (aA rfl) rfl c132 rfl rfl) ?_
            have h116 := Option.some.inj h116
            subst h116
            refine aF (aW rfl ⟨rfl, rfl, rfl, rfl, rfl, rfl, rfl, trivial⟩ rfl)
          ·refine aF ?_
           refine bN rfl (fun c117 => ?_) (fun c117 => ?_)
           ·have h := aR c117 h
            refine aE ?_
            refine tr1 rfl (aC (v := .d (.lit data_0_v)) (aA rfl) rfl rfl) ?_
            refine tr1 rfl (aC (v := .d (.lit (.int .i64 a_1))) (aA rfl) rfl rfl) ?_
            refine tr1 rfl (aC (v := .d (.lit (.int .i64 start_8_100))) (aA rfl) rfl rfl) ?_
            refine tr1 rfl (aC (v := .d (.lit (.int .i64 ((w64 ((IntKind.u64.wrap (w64 (a_1 + b_3))).fdiv (2 ^ (min (1 : Int).toNat 64)))))))) (aA rfl) rfl rfl) ?_
            refine tr1 rfl (aC (v := .fn cmp_4_f cmp_4_v) (aA rfl) rfl rfl) ?_
            obtain ⟨r118, h119, h⟩ := bind_some h
            refine bR rfl (dP (passed := [.arr data_0_v 42 5 (r113.map aD)]) (aA rfl) rfl (.func _ _ Try.call128) rfl rfl (ih r113 a_1 start_8_100 (w64 ((IntKind.u64.wrap (w64 (a_1 + b_3))).fdiv (2 ^ (min (1 : Int).toNat 64)))) h119)) ?_
            rintro _ ⟨_, _, ⟨rfl, rfl⟩, rfl⟩
            refine aF ?_
            refine aG ?_
            refine aE ?_
            refine tr1 rfl (aC (v := .d (.lit (.int .i64 ((w64 ((IntKind.u64.wrap (w64 (a_1 + b_3))).fdiv (2 ^ (min (1 : Int).toNat 64)))))))) (aA rfl) rfl rfl) ?_
            refine tr1 rfl (aC (v := .d (.lit (.int .i64 ((w64 ((w64 ((w64 ((IntKind.u64.wrap (w64 (a_1 + b_3))).fdiv (2 ^ (min (1 : Int).toNat 64)))) + m_2)) - start_8_100)))))) (aA rfl) rfl rfl) ?_
            refine tr1 rfl (bC (aA rfl) rfl rfl rfl) ?_
            refine tr1 rfl (aC (v := .d (.lit (.bool ((decide ((w64 ((IntKind.u64.wrap (w64 (a_1 + b_3))).fdiv (2 ^ (min (1 : Int).toNat 64)))) < (w64 ((w64 ((w64 ((IntKind.u64.wrap (w64 (a_1 + b_3))).fdiv (2 ^ (min (1 : Int).toNat 64)))) + m_2)) - start_8_100)))))))) (aA rfl) rfl rfl) ?_
            obtain ⟨b120, h121, h⟩ := bind_some h
            refine bQ 4 [0, 3, 4, 18, 24] 213 b120 ?_ ?_
            ·refine bD (decide ((w64 ((IntKind.u64.wrap (w64 (a_1 + b_3))).fdiv (2 ^ (min (1 : Int).toNat 64)))) < (w64 ((w64 ((w64 ((IntKind.u64.wrap (w64 (a_1 + b_3))).fdiv (2 ^ (min (1 : Int).toNat 64)))) + m_2)) - start_8_100)))) (fun c125 => ?_) (fun c125 => ?_)
             ·have h121 := aR c125 h121
              refine aL rfl rfl (aA rfl) rfl c125 (aC (v := .d (.lit (.int .i64 ((w64 ((w64 ((w64 ((IntKind.u64.wrap (w64 (a_1 + b_3))).fdiv (2 ^ (min (1 : Int).toNat 64)))) + m_2)) - start_8_100)))))) (aA rfl) rfl rfl) ?_
              refine aL rfl rfl (aA rfl) rfl c125 (aC (v := .d (.lit (.int .i64 b_3))) (aA rfl) rfl rfl) ?_
              refine aL rfl rfl (aA rfl) rfl c125 (bC (aA rfl) rfl rfl rfl) ?_
              refine tr1 rfl (bJ (v := .d (.lit (.bool ((decide ((w64 ((w64 ((w64 ((IntKind.u64.wrap (w64 (a_1 + b_3))).fdiv (2 ^ (min (1 : Int).toNat 64)))) + m_2)) - start_8_100)) < b_3)))))) (aA rfl) rfl c125 rfl rfl) ?_
              have h121 := Option.some.inj h121
              subst h121
              refine aF (aW rfl ⟨rfl, rfl, rfl, rfl, rfl, trivial⟩ rfl)
             ·have h121 := aQ c125 h121
              refine aN rfl rfl (aA rfl) rfl (aA rfl) rfl c125 ?_
              refine aN rfl rfl (aA rfl) rfl (aA rfl) rfl c125 ?_
              refine aN rfl rfl (aA rfl) rfl (aA rfl) rfl c125 ?_
              refine tr1 rfl (bI (v := .d (.lit (.bool false))) (aA rfl) rfl c125 rfl rfl) ?_
              have h121 := Option.some.inj h121
              subst h121
              refine aF (aW rfl ⟨rfl, rfl, rfl, rfl, rfl, trivial⟩ rfl)
            ·refine aF ?_
             refine bN rfl (fun c122 => ?_) (fun c122 => ?_)
             ·have h := aR c122 h
              refine aE ?_
              refine tr1 rfl (aC (v := .d (.lit data_0_v)) (aA rfl) rfl rfl) ?_
              refine tr1 rfl (aC (v := .d (.lit (.int .i64 ((w64 ((IntKind.u64.wrap (w64 (a_1 + b_3))).fdiv (2 ^ (min (1 : Int).toNat 64)))))))) (aA rfl) rfl rfl) ?_
              refine tr1 rfl (aC (v := .d (.lit (.int .i64 ((w64 ((w64 ((w64 ((IntKind.u64.wrap (w64 (a_1 + b_3))).fdiv (2 ^ (min (1 : Int).toNat 64)))) + m_2)) - start_8_100)))))) (aA rfl) rfl rfl) ?_
              refine tr1 rfl (aC (v := .d (.lit (.int .i64 b_3))) (aA rfl) rfl rfl) ?_
              refine tr1 rfl (aC (v := .fn cmp_4_f cmp_4_v) (aA rfl) rfl rfl) ?_
              obtain ⟨r123, h124, h⟩ := bind_some h
              refine bR rfl (dP (passed := [.arr data_0_v 42 5 (r118.map aD)]) (aA rfl) rfl (.func _ _ Try.call128) rfl rfl (ih r118 (w64 ((IntKind.u64.wrap (w64 (a_1 + b_3))).fdiv (2 ^ (min (1 : Int).toNat 64)))) (w64 ((w64 ((w64 ((IntKind.u64.wrap (w64 (a_1 + b_3))).fdiv (2 ^ (min (1 : Int).toNat 64)))) + m_2)) - start_8_100)) b_3 h124)) ?_
              rintro _ ⟨_, _, ⟨rfl, rfl⟩, rfl⟩
              refine aF ?_
              have h := Option.some.inj h
              subst h
              exact ⟨_, [.arr data_0_v 42 5 (r123.map aD)], [], _, .none, .refl _, .same _, rfl, rfl⟩
             ·have h := aQ c122 h
              refine bH ?_
              have h := Option.some.inj h
              subst h
              exact ⟨_, [.arr data_0_v 42 5 (r118.map aD)], [], _, .none, .refl _, .same _, rfl, rfl⟩
           ·have h := aQ c117 h
            refine bH ?_
            refine aG ?_
            refine aE ?_
            refine tr1 rfl (aC (v := .d (.lit (.int .i64 ((w64 ((IntKind.u64.wrap (w64 (a_1 + b_3))).fdiv (2 ^ (min (1 : Int).toNat 64)))))))) (aA rfl) rfl rfl) ?_
            refine tr1 rfl (aC (v := .d (.lit (.int .i64 ((w64 ((w64 ((w64 ((IntKind.u64.wrap (w64 (a_1 + b_3))).fdiv (2 ^ (min (1 : Int).toNat 64)))) + m_2)) - start_8_100)))))) (aA rfl) rfl rfl) ?_
            refine tr1 rfl (bC (aA rfl) rfl rfl rfl) ?_
            refine tr1 rfl (aC (v := .d (.lit (.bool ((decide ((w64 ((IntKind.u64.wrap (w64 (a_1 + b_3))).fdiv (2 ^ (min (1 : Int).toNat 64)))) < (w64 ((w64 ((w64 ((IntKind.u64.wrap (w64 (a_1 + b_3))).fdiv (2 ^ (min (1 : Int).toNat 64)))) + m_2)) - start_8_100)))))))) (aA rfl) rfl rfl) ?_
            obtain ⟨b126, h127, h⟩ := bind_some h
            refine bQ 4 [0, 3, 4, 18, 24] 213 b126 ?_ ?_
            ·refine bD (decide ((w64 ((IntKind.u64.wrap (w64 (a_1 + b_3))).fdiv (2 ^ (min (1 : Int).toNat 64)))) < (w64 ((w64 ((w64 ((IntKind.u64.wrap (w64 (a_1 + b_3))).fdiv (2 ^ (min (1 : Int).toNat 64)))) + m_2)) - start_8_100)))) (fun c131 => ?_) (fun c131 => ?_)
             ·have h127 := aR c131 h127
              refine aL rfl rfl (aA rfl) rfl c131 (aC (v := .d (.lit (.int .i64 ((w64 ((w64 ((w64 ((IntKind.u64.wrap (w64 (a_1 + b_3))).fdiv (2 ^ (min (1 : Int).toNat 64)))) + m_2)) - start_8_100)))))) (aA rfl) rfl rfl) ?_
              refine aL rfl rfl (aA rfl) rfl c131 (aC (v := .d (.lit (.int .i64 b_3))) (aA rfl) rfl rfl) ?_
              refine aL rfl rfl (aA rfl) rfl c131 (bC (aA rfl) rfl rfl rfl) ?_
              refine tr1 rfl (bJ (v := .d (.lit (.bool ((decide ((w64 ((w64 ((w64 ((IntKind.u64.wrap (w64 (a_1 + b_3))).fdiv (2 ^ (min (1 : Int).toNat 64)))) + m_2)) - start_8_100)) < b_3)))))) (aA rfl) rfl c131 rfl rfl) ?_
              have h127 := Option.some.inj h127
              subst h127
              refine aF (aW rfl ⟨rfl, rfl, rfl, rfl, rfl, trivial⟩ rfl)
             ·have h127 := aQ c131 h127
              refine aN rfl rfl (aA rfl) rfl (aA rfl) rfl c131 ?_
              refine aN rfl rfl (aA rfl) rfl (aA rfl) rfl c131 ?_
              refine aN rfl rfl (aA rfl) rfl (aA rfl) rfl c131 ?_
              refine tr1 rfl (bI (v := .d (.lit (.bool false))) (aA rfl) rfl c131 rfl rfl) ?_
              have h127 := Option.some.inj h127
              subst h127
              refine aF (aW rfl ⟨rfl, rfl, rfl, rfl, rfl, trivial⟩ rfl)
            ·refine aF ?_
             refine bN rfl (fun c128 => ?_) (fun c128 => ?_)
             ·have h := aR c128 h
              refine aE ?_
              refine tr1 rfl (aC (v := .d (.lit data_0_v)) (aA rfl) rfl rfl) ?_
              refine tr1 rfl (aC (v := .d (.lit (.int .i64 ((w64 ((IntKind.u64.wrap (w64 (a_1 + b_3))).fdiv (2 ^ (min (1 : Int).toNat 64)))))))) (aA rfl) rfl rfl) ?_
              refine tr1 rfl (aC (v := .d (.lit (.int .i64 ((w64 ((w64 ((w64 ((IntKind.u64.wrap (w64 (a_1 + b_3))).fdiv (2 ^ (min (1 : Int).toNat 64)))) + m_2)) - start_8_100)))))) (aA rfl) rfl rfl) ?_
              refine tr1 rfl (aC (v := .d (.lit (.int .i64 b_3))) (aA rfl) rfl rfl) ?_
              refine tr1 rfl (aC (v := .fn cmp_4_f cmp_4_v) (aA rfl) rfl rfl) ?_
              obtain ⟨r129, h130, h⟩ := bind_some h
              refine bR rfl (dP (passed := [.arr data_0_v 42 5 (r113.map aD)]) (aA rfl) rfl (.func _ _ Try.call128) rfl rfl (ih r113 (w64 ((IntKind.u64.wrap (w64 (a_1 + b_3))).fdiv (2 ^ (min (1 : Int).toNat 64)))) (w64 ((w64 ((w64 ((IntKind.u64.wrap (w64 (a_1 + b_3))).fdiv (2 ^ (min (1 : Int).toNat 64)))) + m_2)) - start_8_100)) b_3 h130)) ?_
              rintro _ ⟨_, _, ⟨rfl, rfl⟩, rfl⟩
              refine aF ?_
              have h := Option.some.inj h
              subst h
              exact ⟨_, [.arr data_0_v 42 5 (r129.map aD)], [], _, .none, .refl _, .same _, rfl, rfl⟩
             ·have h := aQ c128 h
              refine bH ?_
              have h := Option.some.inj h
              subst h
              exact ⟨_, [.arr data_0_v 42 5 (r113.map aD)], [], _, .none, .refl _, .same _, rfl, rfl⟩
         ·have h := aQ c112 h
          refine bH ?_
          refine aG ?_
          refine aG ?_
          refine aE ?_
          refine tr1 rfl (aC (v := .d (.lit (.int .i64 a_1))) (aA rfl) rfl rfl) ?_
          refine tr1 rfl (aC (v := .d (.lit (.int .i64 start_8_100))) (aA rfl) rfl rfl) ?_
          refine tr1 rfl (bC (aA rfl) rfl rfl rfl) ?_
          refine tr1 rfl (aC (v := .d (.lit (.bool ((decide (a_1 < start_8_100)))))) (aA rfl) rfl rfl) ?_
          obtain ⟨b133, h134, h⟩ := bind_some h
          refine bQ 4 [0, 1, 3, 4, 18, 20, 24] 199 b133 ?_ ?_
          ·refine bD (decide (a_1 < start_8_100)) (fun c150 => ?_) (fun c150 => ?_)
           ·have h134 := aR c150 h134
            refine aL rfl rfl (aA rfl) rfl c150 (aC (v := .d (.lit (.int .i64 start_8_100))) (aA rfl) rfl rfl) ?_
            refine aL rfl rfl (aA rfl) rfl c150 (aC (v := .d (.lit (.int .i64 ((w64 ((IntKind.u64.wrap (w64 (a_1 + b_3))).fdiv (2 ^ (min (1 : Int).toNat 64)))))))) (aA rfl) rfl rfl) ?_
            refine aL rfl rfl (aA rfl) rfl c150 (bC (aA rfl) rfl rfl rfl) ?_
            refine tr1 rfl (bJ (v := .d (.lit (.bool ((decide (start_8_100 < (w64 ((IntKind.u64.wrap (w64 (a_1 + b_3))).fdiv (2 ^ (min (1 : Int).toNat 64)))))))))) (aA rfl) rfl c150 rfl rfl) ?_
            have h134 := Option.some.inj h134
            subst h134
            refine aF (aW rfl ⟨rfl, rfl, rfl, rfl, rfl, rfl, rfl, trivial⟩ rfl)
           ·have h134 := aQ c150 h134
            refine aN rfl rfl (aA rfl) rfl (aA rfl) rfl c150 ?_
            refine aN rfl rfl (aA rfl) rfl (aA rfl) rfl c150 ?_
            refine aN rfl rfl (aA rfl) rfl (aA rfl) rfl c150 ?_
            refine tr1 rfl (bI (v := .d (.lit (.bool false))) (aA rfl) rfl c150 rfl rfl) ?_
            have h134 := Option.some.inj h134
            subst h134
            refine aF (aW rfl ⟨rfl, rfl, rfl, rfl, rfl, rfl, rfl, trivial⟩ rfl)
          ·refine aF ?_
           refine bN rfl (fun c135 => ?_) (fun c135 => ?_)
           ·have h := aR c135 h
            refine aE ?_
            refine tr1 rfl (aC (v := .d (.lit data_0_v)) (aA rfl) rfl rfl) ?_
            refine tr1 rfl (aC (v := .d (.lit (.int .i64 a_1))) (aA rfl) rfl rfl) ?_
            refine tr1 rfl (aC (v := .d (.lit (.int .i64 start_8_100))) (aA rfl) rfl rfl) ?_
            refine tr1 rfl (aC (v := .d (.lit (.int .i64 ((w64 ((IntKind.u64.wrap (w64 (a_1 + b_3))).fdiv (2 ^ (min (1 : Int).toNat 64)))))))) (aA rfl) rfl rfl) ?_
            refine tr1 rfl (aC (v := .fn cmp_4_f cmp_4_v) (aA rfl) rfl rfl) ?_
            obtain ⟨r136, h137, h⟩ := bind_some h
            refine bR rfl (dP (passed := [.arr data_0_v 42 5 (data_0.map aD)]) (aA rfl) rfl (.func _ _ Try.call128) rfl rfl (ih data_0 a_1 start_8_100 (w64 ((IntKind.u64.wrap (w64 (a_1 + b_3))).fdiv (2 ^ (min (1 : Int).toNat 64)))) h137)) ?_
            rintro _ ⟨_, _, ⟨rfl, rfl⟩, rfl⟩
            refine aF ?_
            refine aG ?_
            refine aE ?_
            refine tr1 rfl (aC (v := .d (.lit (.int .i64 ((w64 ((IntKind.u64.wrap (w64 (a_1 + b_3))).fdiv (2 ^ (min (1 : Int).toNat 64)))))))) (aA rfl) rfl rfl) ?_
            refine tr1 rfl (aC (v := .d (.lit (.int .i64 ((w64 ((w64 ((w64 ((IntKind.u64.wrap (w64 (a_1 + b_3))).fdiv (2 ^ (min (1 : Int).toNat 64)))) + m_2)) - start_8_100)))))) (aA rfl) rfl rfl) ?_
            refine tr1 rfl (bC (aA rfl) rfl rfl rfl) ?_
            refine tr1 rfl (aC (v := .d (.lit (.bool ((decide ((w64 ((IntKind.u64.wrap (w64 (a_1 + b_3))).fdiv (2 ^ (min (1 : Int).toNat 64)))) < (w64 ((w64 ((w64 ((IntKind.u64.wrap (w64 (a_1 + b_3))).fdiv (2 ^ (min (1 : Int).toNat 64)))) + m_2)) - start_8_100)))))))) (aA rfl) rfl rfl) ?_
            obtain ⟨b138, h139, h⟩ := bind_some h
            refine bQ 4 [0, 3, 4, 18, 24] 213 b138 ?_ ?_
            ·refine bD (decide ((w64 ((IntKind.u64.wrap (w64 (a_1 + b_3))).fdiv (2 ^ (min (1 : Int).toNat 64)))) < (w64 ((w64 ((w64 ((IntKind.u64.wrap (w64 (a_1 + b_3))).fdiv (2 ^ (min (1 : Int).toNat 64)))) + m_2)) - start_8_100)))) (fun c143 => ?_) (fun c143 => ?_)
             ·have h139 := aR c143 h139
              refine aL rfl rfl (aA rfl) rfl c143 (aC (v := .d (.lit (.int .i64 ((w64 ((w64 ((w64 ((IntKind.u64.wrap (w64 (a_1 + b_3))).fdiv (2 ^ (min (1 : Int).toNat 64)))) + m_2)) - start_8_100)))))) (aA rfl) rfl rfl) ?_
              refine aL rfl rfl (aA rfl) rfl c143 (aC (v := .d (.lit (.int .i64 b_3))) (aA rfl) rfl rfl) ?_
              refine aL rfl rfl (aA rfl) rfl c143 (bC (aA rfl) rfl rfl rfl) ?_
              refine tr1 rfl (bJ (v := .d (.lit (.bool ((decide ((w64 ((w64 ((w64 ((IntKind.u64.wrap (w64 (a_1 + b_3))).fdiv (2 ^ (min (1 : Int).toNat 64)))) + m_2)) - start_8_100)) < b_3)))))) (aA rfl) rfl c143 rfl rfl) ?_
              have h139 := Option.some.inj h139
              subst h139
              refine aF (aW rfl ⟨rfl, rfl, rfl, rfl, rfl, trivial⟩ rfl)
             ·have h139 := aQ c143 h139
              refine aN rfl rfl (aA rfl) rfl (aA rfl) rfl c143 ?_
              refine aN rfl rfl (aA rfl) rfl (aA rfl) rfl c143 ?_
              refine aN rfl rfl (aA rfl) rfl (aA rfl) rfl c143 ?_
              refine tr1 rfl (bI (v := .d (.lit (.bool false))) (aA rfl) rfl c143 rfl rfl) ?_
              have h139 := Option.some.inj h139
              subst h139
              refine aF (aW rfl ⟨rfl, rfl, rfl, rfl, rfl, trivial⟩ rfl)
            ·refine aF ?_
             refine bN rfl (fun c140 => ?_) (fun c140 => ?_)
             ·have h := aR c140 h
              refine aE ?_
              refine tr1 rfl (aC (v := .d (.lit data_0_v)) (aA rfl) rfl rfl) ?_
              refine tr1 rfl (aC (v := .d (.lit (.int .i64 ((w64 ((IntKind.u64.wrap (w64 (a_1 + b_3))).fdiv (2 ^ (min (1 : Int).toNat 64)))))))) (aA rfl) rfl rfl) ?_
              refine tr1 rfl (aC (v := .d (.lit (.int .i64 ((w64 ((w64 ((w64 ((IntKind.u64.wrap (w64 (a_1 + b_3))).fdiv (2 ^ (min (1 : Int).toNat 64)))) + m_2)) - start_8_100)))))) (aA rfl) rfl rfl) ?_
              refine tr1 rfl (aC (v := .d (.lit (.int .i64 b_3))) (aA rfl) rfl rfl) ?_
              refine tr1 rfl (aC (v := .fn cmp_4_f cmp_4_v) (aA rfl) rfl rfl) ?_
              obtain ⟨r141, h142, h⟩ := bind_some h
              refine bR rfl (dP (passed := [.arr data_0_v 42 5 (r136.map aD)]) (aA rfl) rfl (.func _ _ Try.call128) rfl rfl (ih r136 (w64 ((IntKind.u64.wrap (w64 (a_1 + b_3))).fdiv (2 ^ (min (1 : Int).toNat 64)))) (w64 ((w64 ((w64 ((IntKind.u64.wrap (w64 (a_1 + b_3))).fdiv (2 ^ (min (1 : Int).toNat 64)))) + m_2)) - start_8_100)) b_3 h142)) ?_
              rintro _ ⟨_, _, ⟨rfl, rfl⟩, rfl⟩
              refine aF ?_
              have h := Option.some.inj h
              subst h
              exact ⟨_, [.arr data_0_v 42 5 (r141.map aD)], [], _, .none, .refl _, .same _, rfl, rfl⟩
             ·have h := aQ c140 h
              refine bH ?_
              have h := Option.some.inj h
              subst h
              exact ⟨_, [.arr data_0_v 42 5 (r136.map aD)], [], _, .none, .refl _, .same _, rfl, rfl⟩
           ·have h := aQ c135 h
            refine bH ?_
            refine aG ?_
            refine aE ?_
            refine tr1 rfl (aC (v := .d (.lit (.int .i64 ((w64 ((IntKind.u64.wrap (w64 (a_1 + b_3))).fdiv (2 ^ (min (1 : Int).toNat 64)))))))) (aA rfl) rfl rfl) ?_
            refine tr1 rfl (aC (v := .d (.lit (.int .i64 ((w64 ((w64 ((w64 ((IntKind.u64.wrap (w64 (a_1 + b_3))).fdiv (2 ^ (min (1 : Int).toNat 64)))) + m_2)) - start_8_100)))))) (aA rfl) rfl rfl) ?_
            refine tr1 rfl (bC (aA rfl) rfl rfl rfl) ?_
            refine tr1 rfl (aC (v := .d (.lit (.bool ((decide ((w64 ((IntKind.u64.wrap (w64 (a_1 + b_3))).fdiv (2 ^ (min (1 : Int).toNat 64)))) < (w64 ((w64 ((w64 ((IntKind.u64.wrap (w64 (a_1 + b_3))).fdiv (2 ^ (min (1 : Int).toNat 64)))) + m_2)) - start_8_100)))))))) (aA rfl) rfl rfl) ?_
            obtain ⟨b144, h145, h⟩ := bind_some h
            refine bQ 4 [0, 3, 4, 18, 24] 213 b144 ?_ ?_
            ·refine bD (decide ((w64 ((IntKind.u64.wrap (w64 (a_1 + b_3))).fdiv (2 ^ (min (1 : Int).toNat 64)))) < (w64 ((w64 ((w64 ((IntKind.u64.wrap (w64 (a_1 + b_3))).fdiv (2 ^ (min (1 : Int).toNat 64)))) + m_2)) - start_8_100)))) (fun c149 => ?_) (fun c149 => ?_)
             ·have h145 := aR c149 h145
              refine aL rfl rfl (aA rfl) rfl c149 (aC (v := .d (.lit (.int .i64 ((w64 ((w64 ((w64 ((IntKind.u64.wrap (w64 (a_1 + b_3))).fdiv (2 ^ (min (1 : Int).toNat 64)))) + m_2)) - start_8_100)))))) (aA rfl) rfl rfl) ?_
              refine aL rfl rfl (aA rfl) rfl c149 (aC (v := .d (.lit (.int .i64 b_3))) (aA rfl) rfl rfl) ?_
              refine aL rfl rfl (aA rfl) rfl c149 (bC (aA rfl) rfl rfl rfl) ?_
              refine tr1 rfl (bJ (v := .d (.lit (.bool ((decide ((w64 ((w64 ((w64 ((IntKind.u64.wrap (w64 (a_1 + b_3))).fdiv (2 ^ (min (1 : Int).toNat 64)))) + m_2)) - start_8_100)) < b_3)))))) (aA rfl) rfl c149 rfl rfl) ?_
              have h145 := Option.some.inj h145
              subst h145
              refine aF (aW rfl ⟨rfl, rfl, rfl, rfl, rfl, trivial⟩ rfl)
             ·have h145 := aQ c149 h145
              refine aN rfl rfl (aA rfl) rfl (aA rfl) rfl c149 ?_
              refine aN rfl rfl (aA rfl) rfl (aA rfl) rfl c149 ?_
              refine aN rfl rfl (aA rfl) rfl (aA rfl) rfl c149 ?_
              refine tr1 rfl (bI (v := .d (.lit (.bool false))) (aA rfl) rfl c149 rfl rfl) ?_
              have h145 := Option.some.inj h145
              subst h145
              refine aF (aW rfl ⟨rfl, rfl, rfl, rfl, rfl, trivial⟩ rfl)
            ·refine aF ?_
             refine bN rfl (fun c146 => ?_) (fun c146 => ?_)
             ·have h := aR c146 h
              refine aE ?_
              refine tr1 rfl (aC (v := .d (.lit data_0_v)) (aA rfl) rfl rfl) ?_
              refine tr1 rfl (aC (v := .d (.lit (.int .i64 ((w64 ((IntKind.u64.wrap (w64 (a_1 + b_3))).fdiv (2 ^ (min (1 : Int).toNat 64)))))))) (aA rfl) rfl rfl) ?_
              refine tr1 rfl (aC (v := .d (.lit (.int .i64 ((w64 ((w64 ((w64 ((IntKind.u64.wrap (w64 (a_1 + b_3))).fdiv (2 ^ (min (1 : Int).toNat 64)))) + m_2)) - start_8_100)))))) (aA rfl) rfl rfl) ?_
              refine tr1 rfl (aC (v := .d (.lit (.int .i64 b_3))) (aA rfl) rfl rfl) ?_
              refine tr1 rfl (aC (v := .fn cmp_4_f cmp_4_v) (aA rfl) rfl rfl) ?_
              obtain ⟨r147, h148, h⟩ := bind_some h
              refine bR rfl (dP (passed := [.arr data_0_v 42 5 (data_0.map aD)]) (aA rfl) rfl (.func _ _ Try.call128) rfl rfl (ih data_0 (w64 ((IntKind.u64.wrap (w64 (a_1 + b_3))).fdiv (2 ^ (min (1 : Int).toNat 64)))) (w64 ((w64 ((w64 ((IntKind.u64.wrap (w64 (a_1 + b_3))).fdiv (2 ^ (min (1 : Int).toNat 64)))) + m_2)) - start_8_100)) b_3 h148)) ?_
              rintro _ ⟨_, _, ⟨rfl, rfl⟩, rfl⟩
              refine aF ?_
              have h := Option.some.inj h
              subst h
              exact ⟨_, [.arr data_0_v 42 5 (r147.map aD)], [], _, .none, .refl _, .same _, rfl, rfl⟩
             ·have h := aQ c146 h
              refine bH ?_
              have h := Option.some.inj h
              subst h
              exact ⟨_, [.arr data_0_v 42 5 (data_0.map aD)], [], _, .none, .refl _, .same _, rfl, rfl⟩
theorem lT (data_0 : List aB) (a_1 : Int) (m_2 : Int) (b_3 : Int) (cmp_4 : aB → aB → Option Int) {r : (List aB)} {data_0_v : Value} (cmp_4_f : Nat) (cmp_4_v : List AV) (cmp_4_e : ∀ args w, (callFunc cmp_4_f args).run Try.prog w = .ok (.enter cmp_4_f args) w) (cmp_4_h : ∀ (x0 : aB) (x1 : aB) r, cmp_4 x0 x1 = some r → Fn Try.prog cmp_4_f ([.agg (aD x0), .agg (aD x1)] ++ cmp_4_v) (.d (.lit (.int .i64 r)))) (h : gL data_0 a_1 m_2 b_3 cmp_4 = some r) : fT Try.prog 128 [.d (.lit data_0_v), .d (.lit (.int .i64 a_1)), .d (.lit (.int .i64 m_2)), .d (.lit (.int .i64 b_3)), .fn cmp_4_f cmp_4_v] [.arr data_0_v 42 5 (data_0.map aD)] (fun r' o' => r' = .tup [] ∧ o' = [.arr data_0_v 42 5 (r.map aD)]) := pL cmp_4 cmp_4_f cmp_4_v cmp_4_e cmp_4_h BIG _ _ _ _ h

theorem qN (data_0 : List aB) (n_1 : Int) (cmp_2 : aB → aB → Option Int) {r : (List aB)} {data_0_v : Value} (cmp_2_f : Nat) (cmp_2_v : List AV) (cmp_2_e : ∀ args w, (callFunc cmp_2_f args).run Try.prog w = .ok (.enter cmp_2_f args) w) (cmp_2_h : ∀ (x0 : aB) (x1 : aB) r, cmp_2 x0 x1 = some r → Fn Try.prog cmp_2_f ([.agg (aD x0), .agg (aD x1)] ++ cmp_2_v) (.d (.lit (.int .i64 r)))) (h : gS data_0 n_1 cmp_2 = some r) : fT Try.prog 106 [.d (.lit data_0_v), .d (.lit (.int .i64 n_1)), .fn cmp_2_f cmp_2_v] [.arr data_0_v 42 5 (data_0.map aD)] (fun r' o' => r' = .tup [] ∧ o' = [.arr data_0_v 42 5 (r.map aD)]) := by
 unfold gS at h
 refine jF Try.func106 rfl (rs := []) Try.results106 Try.ntmps106 (Nat.le_of_ble_eq_true rfl) ?_
 refine aG ?_
 refine aE ?_
 refine tr1 rfl (aJ (v := .d (.lit (.int .i64 20))) (aA rfl) rfl rfl) ?_
 refine aF ?_
 refine aG ?_
 refine aE ?_
 refine tr1 rfl (aC (v := .d (.lit (.int .i64 20))) (aA rfl) rfl rfl) ?_
 refine tr1 rfl (aJ (v := .d (.lit (.int .i64 0))) (aA rfl) rfl rfl) ?_
 refine tr1 rfl (aJ (v := .d (.lit (.int .i64 20))) (aA rfl) rfl rfl) ?_
 refine aF ?_
 refine aG ?_
 refine bT ?_
 refine cM [1, 2, 6] (fun (s1 : Int × Int × (List aB)) => [(0, .d (.lit data_0_v)), (7, .d (.lit (.int .i64 s1.1))), (8, .d (.lit (.int .i64 s1.2.1)))]) (fun (s1 : Int × Int × (List aB)) => [.arr data_0_v 42 5 (s1.2.2.map aD)]) (fun (k : Nat) (s1 : Int × Int × (List aB)) => dQ n_1 cmp_2 20 k s1.1 s1.2.1 s1.2.2) (fun _ => rfl) (0, 20, data_0) h (aY [0] rfl rfl (aO rfl (aO rfl (aO rfl (aZ ⟨rfl, rfl, rfl, trivial⟩))))) ?_
 rintro k2 ⟨a_0_1, b_0_1, data_0_1⟩ h
 simp only [dQ] at h
 refine aG ?_
 refine aG ?_
 refine aE ?_
 refine tr1 rfl (aC (v := .d (.lit (.int .i64 b_0_1))) (aA rfl) rfl rfl) ?_
 refine tr1 rfl (aC (v := .d (.lit (.int .i64 n_1))) (aA rfl) rfl rfl) ?_
 refine tr1 rfl (bC (aA rfl) rfl rfl rfl) ?_
 refine aF ?_
 refine bN rfl (fun c3 => ?_) (fun c3 => ?_)
 ·have h := aR c3 h
  refine bH ?_
  refine bT ?_
  refine aG ?_
  refine aE ?_
  refine tr1 rfl (aC (v := .d (.lit data_0_v)) (aA rfl) rfl rfl) ?_
  refine tr1 rfl (aC (v := .d (.lit (.int .i64 a_0_1))) (aA rfl) rfl rfl) ?_
  refine tr1 rfl (aC (v := .d (.lit (.int .i64 b_0_1))) (aA rfl) rfl rfl) ?_
  refine tr1 rfl (aC (v := .fn cmp_2_f cmp_2_v) (aA rfl) rfl rfl) ?_
  obtain ⟨r4, h5, h⟩ := bind_some h
  refine bR rfl (dP (passed := [.arr data_0_v 42 5 (data_0_1.map aD)]) (aA rfl) rfl (.func _ _ Try.call127) rfl rfl (jW data_0_1 a_0_1 b_0_1 cmp_2 cmp_2_f cmp_2_v cmp_2_e cmp_2_h h5)) ?_
  rintro _ ⟨_, _, ⟨rfl, rfl⟩, rfl⟩
  refine aF ?_
  refine aG ?_
  refine aE ?_
  refine tr1 rfl (aC (v := .d (.lit (.int .i64 b_0_1))) (aA rfl) rfl rfl) ?_
  refine tr1 rfl (aJ (v := .d (.lit (.int .i64 b_0_1))) (aA rfl) rfl rfl) ?_
  refine aF ?_
  refine aE ?_
  refine tr1 rfl (aC (v := .d (.lit (.int .i64 b_0_1))) (aA rfl) rfl rfl) ?_
  refine tr1 rfl (aC (v := .d (.lit (.int .i64 20))) (aA rfl) rfl rfl) ?_
  refine tr1 rfl (bA (aA rfl) rfl rfl rfl) ?_
  refine tr1 rfl (aJ (v := .d (.lit (.int .i64 ((w64 (b_0_1 + 20)))))) (aA rfl) rfl rfl) ?_
  refine eH ?_
  exact ⟨(b_0_1, w64 (b_0_1 + 20), r4), h, aY [0] rfl rfl (aO rfl (aO rfl (aO rfl (aZ ⟨rfl, rfl, rfl, trivial⟩))))⟩
 ·have h := aQ c3 h
  refine cX ?_
  refine .inl ⟨rfl, ?_⟩
  simp only [iX] at h
  refine aG ?_
  refine aE ?_
  refine tr1 rfl (aC (v := .d (.lit data_0_v)) (aA rfl) rfl rfl) ?_
  refine tr1 rfl (aC (v := .d (.lit (.int .i64 a_0_1))) (aA rfl) rfl rfl) ?_
  refine tr1 rfl (aC (v := .d (.lit (.int .i64 n_1))) (aA rfl) rfl rfl) ?_
  refine tr1 rfl (aC (v := .fn cmp_2_f cmp_2_v) (aA rfl) rfl rfl) ?_
  obtain ⟨r6, h7, h⟩ := bind_some h
  refine bR rfl (dP (passed := [.arr data_0_v 42 5 (data_0_1.map aD)]) (aA rfl) rfl (.func _ _ Try.call127) rfl rfl (jW data_0_1 a_0_1 n_1 cmp_2 cmp_2_f cmp_2_v cmp_2_e cmp_2_h h7)) ?_
  rintro _ ⟨_, _, ⟨rfl, rfl⟩, rfl⟩
  refine aF ?_
  refine bT ?_
  refine cM [1, 2] (fun (s8 : Int × (List aB)) => [(0, .d (.lit data_0_v)), (6, .d (.lit (.int .i64 s8.1)))]) (fun (s8 : Int × (List aB)) => [.arr data_0_v 42 5 (s8.2.map aD)]) (fun (k : Nat) (s8 : Int × (List aB)) => dA n_1 cmp_2 k s8.1 s8.2) (fun _ => rfl) (20, r6) h (aY [0] rfl rfl (aO rfl (aO rfl (aZ ⟨rfl, rfl, trivial⟩)))) ?_
  rintro k9 ⟨blockSize_2_8, data_2_8⟩ h
  simp only [dA] at h
  refine aG ?_
  refine aG ?_
  refine aE ?_
  refine tr1 rfl (aC (v := .d (.lit (.int .i64 blockSize_2_8))) (aA rfl) rfl rfl) ?_
  refine tr1 rfl (aC (v := .d (.lit (.int .i64 n_1))) (aA rfl) rfl rfl) ?_
  refine tr1 rfl (bC (aA rfl) rfl rfl rfl) ?_
  refine aF ?_
  refine bN rfl (fun c10 => ?_) (fun c10 => ?_)
  ·have h := aR c10 h
   refine bH ?_
   refine bT ?_
   refine aG ?_
   refine aE ?_
   refine tr1 rfl (aC (v := .d (.lit (.int .i64 blockSize_2_8))) (aA rfl) rfl rfl) ?_
   refine tr1 rfl (bA (aA rfl) rfl rfl rfl) ?_
   refine tr1 rfl (aJ (v := .d (.lit (.int .i64 0))) (aA rfl) rfl rfl) ?_
   refine tr1 rfl (aJ (v := .d (.lit (.int .i64 ((w64 (2 * blockSize_2_8)))))) (aA rfl) rfl rfl) ?_
   refine aF ?_
   refine aG ?_
   refine bT ?_
   refine cM [1, 2, 6] (fun (s11 : Int × Int × (List aB)) => [(0, .d (.lit data_0_v)), (7, .d (.lit (.int .i64 s11.1))), (8, .d (.lit (.int .i64 s11.2.1)))]) (fun (s11 : Int × Int × (List aB)) => [.arr data_0_v 42 5 (s11.2.2.map aD)]) (fun (k : Nat) (s11 : Int × Int × (List aB)) => dR (dA n_1 cmp_2 k9) n_1 cmp_2 blockSize_2_8 k s11.1 s11.2.1 s11.2.2) (fun _ => rfl) (0, w64 (2 * blockSize_2_8), data_2_8) h (aY [0] rfl rfl (aO rfl (aO rfl (aO rfl (aZ ⟨rfl, rfl, rfl, trivial⟩))))) ?_
   rintro k12 ⟨a_4_11, b_4_11, data_4_11⟩ h
   simp only [dR] at h
   refine aG ?_
   refine aG ?_
   refine aE ?_
   refine tr1 rfl (aC (v := .d (.lit (.int .i64 b_4_11))) (aA rfl) rfl rfl) ?_
   refine tr1 rfl (aC (v := .d (.lit (.int .i64 n_1))) (aA rfl) rfl rfl) ?_
   refine tr1 rfl (bC (aA rfl) rfl rfl rfl) ?_
   refine aF ?_
   refine bN rfl (fun c13 => ?_) (fun c13 => ?_)
   ·have h := aR c13 h
    refine bH ?_
    refine bT ?_
    refine aG ?_
    refine aE ?_
    refine tr1 rfl (aC (v := .d (.lit data_0_v)) (aA rfl) rfl rfl) ?_
    refine tr1 rfl (aC (v := .d (.lit (.int .i64 a_4_11))) (aA rfl) rfl rfl) ?_
    refine tr1 rfl (aC (v := .d (.lit (.int .i64 a_4_11))) (aA rfl) rfl rfl) ?_
    refine tr1 rfl (aC (v := .d (.lit (.int .i64 blockSize_2_8))) (aA rfl) rfl rfl) ?_
    refine tr1 rfl (bA (aA rfl) rfl rfl rfl) ?_
    refine tr1 rfl (aC (v := .d (.lit (.int .i64 b_4_11))) (aA rfl) rfl rfl) ?_
    refine tr1 rfl (aC (v := .fn cmp_2_f cmp_2_v) (aA rfl) rfl rfl) ?_
    obtain ⟨r14, h15, h⟩ := bind_some h
    refine bR rfl (dP (passed := [.arr data_0_v 42 5 (data_4_11.map aD)]) (aA rfl) rfl (.func _ _ Try.call128) rfl rfl (lT data_4_11 a_4_11 (w64 (a_4_11 + blockSize_2_8)) b_4_11 cmp_2 cmp_2_f cmp_2_v cmp_2_e cmp_2_h h15)) ?_
    rintro _ ⟨_, _, ⟨rfl, rfl⟩, rfl⟩
    refine aF ?_
    refine aG ?_
    refine aE ?_
    refine tr1 rfl (aC (v := .d (.lit (.int .i64 b_4_11))) (aA rfl) rfl rfl) ?_
    refine tr1 rfl (aJ (v := .d (.lit (.int .i64 b_4_11))) (aA rfl) rfl rfl) ?_
    refine aF ?_
    refine aE ?_
    refine tr1 rfl (aC (v := .d (.lit (.int .i64 b_4_11))) (aA rfl) rfl rfl) ?_
    refine tr1 rfl (aC (v := .d (.lit (.int .i64 blockSize_2_8))) (aA rfl) rfl rfl) ?_
    refine tr1 rfl (bA (aA rfl) rfl rfl rfl) ?_
    refine tr1 rfl (bA (aA rfl) rfl rfl rfl) ?_
    refine tr1 rfl (aJ (v := .d (.lit (.int .i64 ((w64 (b_4_11 + (w64 (2 * blockSize_2_8)))))))) (aA rfl) rfl rfl) ?_
    refine eH ?_
    exact ⟨(b_4_11, w64 (b_4_11 + (w64 (2 * blockSize_2_8))), r14), h, aY [0] rfl rfl (aO rfl (aO rfl (aO rfl (aZ ⟨rfl, rfl, rfl, trivial⟩))))⟩
   ·have h := aQ c13 h
    refine cX ?_
    refine .inl ⟨rfl, ?_⟩
    simp only [iZ] at h
    refine aG ?_
    refine aG ?_
    refine aE ?_
    refine tr1 rfl (aC (v := .d (.lit (.int .i64 a_4_11))) (aA rfl) rfl rfl) ?_
    refine tr1 rfl (aC (v := .d (.lit (.int .i64 blockSize_2_8))) (aA rfl) rfl rfl) ?_
    refine tr1 rfl (bA (aA rfl) rfl rfl rfl) ?_
    refine tr1 rfl (aJ (v := .d (.lit (.int .i64 ((w64 (a_4_11 + blockSize_2_8)))))) (aA rfl) rfl rfl) ?_
    refine aF ?_
    refine aG ?_
    refine aE ?_
    refine tr1 rfl (aC (v := .d (.lit (.int .i64 ((w64 (a_4_11 + blockSize_2_8)))))) (aA rfl) rfl rfl) ?_
    refine tr1 rfl (aC (v := .d (.lit (.int .i64 n_1))) (aA rfl) rfl rfl) ?_
    refine tr1 rfl (bC (aA rfl) rfl rfl rfl) ?_
    refine aF ?_
    refine bN rfl (fun c16 => ?_) (fun c16 => ?_)
    ·have h := aR c16 h
     refine aE ?_
     refine tr1 rfl (aC (v := .d (.lit data_0_v)) (aA rfl) rfl rfl) ?_
     refine tr1 rfl (aC (v := .d (.lit (.int .i64 a_4_11))) (aA rfl) rfl rfl) ?_
     refine tr1 rfl (aC (v := .d (.lit (.int .i64 ((w64 (a_4_11 + blockSize_2_8)))))) (aA rfl) rfl rfl) ?_
     refine tr1 rfl (aC (v := .d (.lit (.int .i64 n_1))) (aA rfl) rfl rfl) ?_
     refine tr1 rfl (aC (v := .fn cmp_2_f cmp_2_v) (aA rfl) rfl rfl) ?_
     obtain ⟨r17, h18, h⟩ := bind_some h
     refine bR rfl (dP (passed := [.arr data_0_v 42 5 (data_4_11.map aD)]) (aA rfl) rfl (.func _ _ Try.call128) rfl rfl (lT data_4_11 a_4_11 (w64 (a_4_11 + blockSize_2_8)) n_1 cmp_2 cmp_2_f cmp_2_v cmp_2_e cmp_2_h h18)) ?_
     rintro _ ⟨_, _, ⟨rfl, rfl⟩, rfl⟩
     refine aF ?_
     refine aE ?_
     refine tr1 rfl (aC (v := .d (.lit (.int .i64 blockSize_2_8))) (aA rfl) rfl rfl) ?_
     refine tr1 rfl (bA (aA rfl) rfl rfl rfl) ?_
     refine tr1 rfl (aJ (v := .d (.lit (.int .i64 ((w64 (blockSize_2_8 * 2)))))) (aA rfl) rfl rfl) ?_
     refine eH ?_
     simp only [fC] at h
     exact ⟨(w64 (blockSize_2_8 * 2), r17), h, aY [0] rfl rfl (aO rfl (aO rfl (aZ ⟨rfl, rfl, trivial⟩)))⟩
    ·have h := aQ c16 h
     refine bH ?_
     refine aE ?_
     refine tr1 rfl (aC (v := .d (.lit (.int .i64 blockSize_2_8))) (aA rfl) rfl rfl) ?_
     refine tr1 rfl (bA (aA rfl) rfl rfl rfl) ?_
     refine tr1 rfl (aJ (v := .d (.lit (.int .i64 ((w64 (blockSize_2_8 * 2)))))) (aA rfl) rfl rfl) ?_
     refine eH ?_
     simp only [fC] at h
     exact ⟨(w64 (blockSize_2_8 * 2), data_4_11), h, aY [0] rfl rfl (aO rfl (aO rfl (aZ ⟨rfl, rfl, trivial⟩)))⟩
  ·have h := aQ c10 h
   refine cX ?_
   refine .inl ⟨rfl, ?_⟩
   simp only [iY] at h
   have h := Option.some.inj h
   subst h
   exact ⟨_, [.arr data_0_v 42 5 (data_2_8.map aD)], [], _, .none, .refl _, .same _, rfl, rfl⟩

theorem lY (x_0 : List aB) (cmp_1 : aB → aB → Option Int) {r : (List aB)} {x_0_v : Value} (cmp_1_f : Nat) (cmp_1_v : List AV) (cmp_1_e : ∀ args w, (callFunc cmp_1_f args).run Try.prog w = .ok (.enter cmp_1_f args) w) (cmp_1_h : ∀ (x0 : aB) (x1 : aB) r, cmp_1 x0 x1 = some r → Fn Try.prog cmp_1_f ([.agg (aD x0), .agg (aD x1)] ++ cmp_1_v) (.d (.lit (.int .i64 r)))) (h : eM x_0 cmp_1 = some r) : fT Try.prog 92 [.d (.lit x_0_v), .fn cmp_1_f cmp_1_v] [.arr x_0_v 42 5 (x_0.map aD)] (fun r' o' => r' = .tup [] ∧ o' = [.arr x_0_v 42 5 (r.map aD)]) := by
 unfold eM at h
 refine jF Try.func92 rfl (rs := []) Try.results92 Try.ntmps92 (Nat.le_of_ble_eq_true rfl) ?_
 refine aE ?_
 refine tr1 rfl (aC (v := .d (.lit x_0_v)) (aA rfl) rfl rfl) ?_
 refine tr1 rfl (aC (v := .d (.lit x_0_v)) (aA rfl) rfl rfl) ?_
 refine tr1 rfl (mA (m := 0) (aA rfl) rfl rfl cA.of) ?_
 refine tr1 rfl (aC (v := .fn cmp_1_f cmp_1_v) (aA rfl) rfl rfl) ?_
 obtain ⟨r1, h2, h⟩ := bind_some h
 refine bR rfl (dP (passed := [.arr x_0_v 42 5 (x_0.map aD)]) (aA rfl) rfl (.func _ _ Try.call106) rfl rfl (qN x_0 (x_0.length : Int) cmp_1 cmp_1_f cmp_1_v cmp_1_e cmp_1_h h2)) ?_
 rintro _ ⟨_, _, ⟨rfl, rfl⟩, rfl⟩
 refine aF ?_
 have h := Option.some.inj h
 subst h
 exact ⟨_, [.arr x_0_v 42 5 (r1.map aD)], [], _, .none, .refl _, .same _, rfl, rfl⟩

theorem aCo (a_0 : aB) (b_1 : aB) {r : Int} (h : oM a_0 b_1 = some r) : Fn Try.prog 93 [.agg (aD a_0), .agg (aD b_1)] (.d (.lit (.int .i64 r))) := by
 unfold oM at h
 refine Fn.of_tr Try.func93 rfl (rs := [.tmp 4]) Try.results93 Try.ntmps93 (Nat.le_of_ble_eq_true rfl) ?_
 refine aG ?_
 refine aE ?_
 refine bR rfl (fK (v := .agg (aD a_0)) (aA rfl) rfl rfl rfl) ?_
 rintro _ ⟨b1, rfl⟩
 refine bR rfl (fK (v := .agg (aD b_1)) (aA rfl) rfl rfl rfl) ?_
 rintro _ ⟨b2, rfl⟩
 refine tr1 rfl (aJ (v := .d (.lit (.int .i64 0))) (aA rfl) rfl rfl) ?_
 refine aF ?_
 refine aG ?_
 refine aE ?_
 refine tr1 rfl (aP (aA rfl) rfl kS) ?_
 refine tr1 rfl (aT (aA rfl) rfl (i := 0) rfl rfl bG) ?_
 refine tr1 rfl (aP (aA rfl) rfl kS) ?_
 refine tr1 rfl (aT (aA rfl) rfl (i := 1) rfl rfl bG) ?_
 refine tr1 rfl (bA (aA rfl) rfl rfl rfl) ?_
 refine tr1 rfl (aJ (v := .d (.lit (.int .i64 ((w64 (a_0.Id - b_1.Id)))))) (aA rfl) rfl rfl) ?_
 refine aF ?_
 have h := Option.some.inj h
 subst h
 refine cR (cG (cL (l := [4]) ⟨rfl, trivial⟩)) ?_
 exact bL ⟨rfl, _, .one _, rfl, rfl⟩

theorem tG (s_0 : List aB) {r : (List aB)} {s_0_v : Value} (h : hT s_0 = some r) : fT Try.prog 94 [.d (.lit s_0_v)] [.arr s_0_v 42 5 (s_0.map aD)] (fun r' o' => ∃ w0 : Value, r' = .d (.lit w0) ∧ o' = [.arr w0 42 5 (r.map aD)]) := by
 unfold hT at h
 refine lZ Try.func94 rfl (rs := [.tmp 2]) Try.results94 Try.ntmps94 (Nat.le_of_ble_eq_true rfl) ?_
 refine aG ?_
 refine aE ?_
 refine tr1 rfl (kJ 42 5 (.inl rfl) (aA rfl)) ?_
 refine aF ?_
 refine aG ?_
 refine aG ?_
 refine aE ?_
 refine tr1 rfl (aC (v := .d (.lit s_0_v)) (aA rfl) rfl rfl) ?_
 refine tr1 rfl (mA (m := 0) (aA rfl) rfl rfl cA.of) ?_
 refine tr1 rfl (bC (aA rfl) rfl rfl rfl) ?_
 refine aF ?_
 refine bN rfl (fun c2 => ?_) (fun c2 => ?_)
 ·have h := aR c2 h
  refine aG ?_
  refine aE ?_
  refine tr1 rfl (aC (v := .d (.lit s_0_v)) (aA rfl) rfl rfl) ?_
  refine tr1 rfl (aJ (v := .d (.lit s_0_v)) (aA rfl) rfl rfl) ?_
  refine aF ?_
  have h := Option.some.inj h
  subst h
  exact bL ⟨rfl, _, [.arr s_0_v 42 5 (s_0.map aD)], [.arr (.slice none 0 0) 42 5 (([] : List aB).map aD)], _, .one (.tmp 2 (v := .d (.lit s_0_v)) rfl), .refl _, .same _, s_0_v, rfl, rfl⟩
 ·have h := aQ c2 h
  refine bH ?_
  refine aG ?_
  refine aG ?_
  refine aE ?_
  refine tr1 rfl (aJ (v := .d (.lit (.int .i64 1))) (aA rfl) rfl rfl) ?_
  refine aF ?_
  refine bT ?_
  refine cM [] (fun (s3 : Int × (List aB) × Value) => [(0, .d (.lit s3.2.2)), (3, .d (.lit (.int .i64 s3.1)))]) (fun (s3 : Int × (List aB) × Value) => [.arr s3.2.2 42 5 (s3.2.1.map aD)]) (fun (k : Nat) (s3 : Int × (List aB) × Value) => dH k s3.1 s3.2.1) (fun _ => rfl) (1, s_0, s_0_v) h (aY [0] rfl rfl (aO rfl (aO rfl (aZ trivial)))) ?_
  rintro k5 ⟨k_0_3, s_0_3, w4⟩ h
  simp only [dH] at h
  refine aG ?_
  refine aG ?_
  refine aE ?_
  refine tr1 rfl (aC (v := .d (.lit (.int .i64 k_0_3))) (aA rfl) rfl rfl) ?_
  refine tr1 rfl (aC (v := .d (.lit w4)) (aA rfl) rfl rfl) ?_
  refine tr1 rfl (mA (m := 0) (aA rfl) rfl rfl cA.of) ?_
  refine tr1 rfl (bC (aA rfl) rfl rfl rfl) ?_
  refine aF ?_
  refine bN rfl (fun c6 => ?_) (fun c6 => ?_)
  ·have h := aR c6 h
   refine bH ?_
   refine aG ?_
   refine bT ?_
   refine aG ?_
   obtain ⟨x7, h8, h⟩ := bind_some h
   obtain ⟨x9, h10, h⟩ := bind_some h
   refine hH mix 9 [0, 3] [(19, .agg (aD x7)), (24, .agg (aD x9))] ?_ ?_
   ·refine ⟨[(16, 0, .d (.lit w4)), (17, 1, .d (.lit (.int .i64 k_0_3))), (18, 2, .ep w4 5 k_0_3.toNat 0), (19, 3, .agg (aD x7)), (20, 4, .d (.lit w4)), (21, 5, .d (.lit (.int .i64 k_0_3))), (22, 6, .d (.lit (.int .i64 ((w64 (k_0_3 - 1)))))), (23, 7, .ep w4 5 (w64 (k_0_3 - 1)).toNat 0), (24, 8, .agg (aD x9))], ?_, ?_⟩
    · exact ⟨by kernel_rfl, by kernel_rfl, by kernel_rfl, by kernel_rfl, by kernel_rfl, [([], []), ([], []), ([0, 1], []), ([2], []), ([], []), ([], []), ([5], []), ([4, 6], []), ([7], [])], by kernel_rfl, ⟨fun S hS => aK rfl (aS rfl (aC (v := .d (.lit w4)) (aA rfl) (aH hS rfl) rfl)),
      fun S hS => aK rfl (aS rfl (aC (v := .d (.lit (.int .i64 k_0_3))) (aA rfl) (aH hS rfl) rfl)),
      fun S hS => aK rfl (aS rfl (cC (m := 0) (aA rfl) (aH hS rfl) rfl (aH hS rfl) cA.of (bP aD h8))),
      fun S hS => aK rfl (aS rfl (dG (aA rfl) (aH hS rfl) (l := 0) rfl (dX aD h8) eI (es := (aD x7)) rfl rfl)),
      fun S hS => aK rfl (aS rfl (aC (v := .d (.lit w4)) (aA rfl) (aH hS rfl) rfl)),
      fun S hS => aK rfl (aS rfl (aC (v := .d (.lit (.int .i64 k_0_3))) (aA rfl) (aH hS rfl) rfl)),
      fun S hS => aK rfl (aS rfl (bA (aA rfl) (aH hS rfl) rfl rfl)),
      fun S hS => aK rfl (aS rfl (cC (m := 0) (aA rfl) (aH hS rfl) rfl (aH hS rfl) cA.of (bP aD h10))),
      fun S hS => aK rfl (aS rfl (dG (aA rfl) (aH hS rfl) (l := 0) rfl (dX aD h10) eI (es := (aD x9)) rfl rfl)), trivial⟩⟩
    · exact eJ (aO rfl (aO rfl (aZ ⟨rfl, rfl, trivial⟩)))
   ·refine tr1 rfl (aKm (a := x7) (b := x9) (aA rfl) rfl rfl rfl rfl Try.eqGuardType42 aDf) ?_
    refine aF ?_
    refine bN rfl (fun c11 => ?_) (fun c11 => ?_)
    ·have h := aR c11 h
     refine aG ?_
     refine aE ?_
     refine tr1 rfl (aC (v := .d (.lit w4)) (aA rfl) rfl rfl) ?_
     refine tr1 rfl (aC (v := .d (.lit (.int .i64 k_0_3))) (aA rfl) rfl rfl) ?_
     obtain ⟨u12, h13, h⟩ := bind_some h
     refine tr1 rfl (uX (m := 0) (aA rfl) rfl rfl rfl cA.of h13) ?_
     refine tr1 rfl (aJ (v := .d (.lit (lM w4 k_0_3.toNat 5))) (aA rfl) rfl rfl) ?_
     refine aF ?_
     refine aG ?_
     refine aG ?_
     refine aE ?_
     refine tr1 rfl (aJ (v := .d (.lit (.int .i64 1))) (aA rfl) rfl rfl) ?_
     refine aF ?_
     refine bT ?_
     refine cM [] (fun (s14 : Int × Int × (List aB)) => [(0, .d (.lit w4)), (3, .d (.lit (.int .i64 s14.1))), (4, .d (.lit (lM w4 k_0_3.toNat 5))), (5, .d (.lit (.int .i64 s14.2.1)))]) (fun (s14 : Int × Int × (List aB)) => [.arr w4 42 5 (s14.2.2.map aD)]) (fun (k : Nat) (s14 : Int × Int × (List aB)) => dY (dH k5) k_0_3 k s14.1 s14.2.1 s14.2.2) (fun _ => rfl) (k_0_3, 1, s_0_3) h (aY [0] rfl rfl (aO rfl (aO rfl (aO rfl (aO rfl (aZ trivial)))))) ?_
     rintro k15 ⟨k_2_14, k2_2_14, s_2_14⟩ h
     simp only [dY] at h
     refine aG ?_
     refine aG ?_
     refine aE ?_
     refine tr1 rfl (aC (v := .d (.lit (.int .i64 k2_2_14))) (aA rfl) rfl rfl) ?_
     refine tr1 rfl (aC (v := .d (.lit (lM w4 k_0_3.toNat 5))) (aA rfl) rfl rfl) ?_
     refine tr1 rfl (aGf (m := 0) (aA rfl) rfl rfl cA.of) ?_
     refine tr1 rfl (bC (aA rfl) rfl rfl rfl) ?_
     refine aF ?_
     refine bN rfl (fun c16 => ?_) (fun c16 => ?_)
     ·have h := aR c16 h
      refine bH ?_
      refine aG ?_
      refine bT ?_
      refine aG ?_
      obtain ⟨x17, h18, h⟩ := bind_some h
      obtain ⟨x19, h20, h⟩ := bind_some h
      refine hH mix 9 [0, 3, 4, 5] [(38, .agg (aD x17)), (43, .agg (aD x19))] ?_ ?_
      ·refine ⟨[(35, 0, .d (.lit (lM w4 k_0_3.toNat 5))), (36, 1, .d (.lit (.int .i64 k2_2_14))), (37, 2, .ep w4 5 (k_0_3.toNat + k2_2_14.toNat) 0), (38, 3, .agg (aD x17)), (39, 4, .d (.lit (lM w4 k_0_3.toNat 5))), (40, 5, .d (.lit (.int .i64 k2_2_14))), (41, 6, .d (.lit (.int .i64 ((w64 (k2_2_14 - 1)))))), (42, 7, .ep w4 5 (k_0_3.toNat + (w64 (k2_2_14 - 1)).toNat) 0), (43, 8, .agg (aD x19))], ?_, ?_⟩
       · exact ⟨by kernel_rfl, by kernel_rfl, by kernel_rfl, by kernel_rfl, by kernel_rfl, [([], []), ([], []), ([0, 1], []), ([2], []), ([], []), ([], []), ([5], []), ([4, 6], []), ([7], [])], by kernel_rfl, ⟨fun S hS => aK rfl (aS rfl (aC (v := .d (.lit (lM w4 k_0_3.toNat 5))) (aA rfl) (aH hS rfl) rfl)),
      fun S hS => aK rfl (aS rfl (aC (v := .d (.lit (.int .i64 k2_2_14))) (aA rfl) (aH hS rfl) rfl)),
      fun S hS => aK rfl (aS rfl (vZ (m := 0) (aA rfl) (aH hS rfl) rfl (aH hS rfl) cA.of (uZ (f := aD) h18))),
      fun S hS => aK rfl (aS rfl (dG (aA rfl) (aH hS rfl) (l := 0) rfl (aBu aD h18) eI (es := (aD x17)) rfl rfl)),
      fun S hS => aK rfl (aS rfl (aC (v := .d (.lit (lM w4 k_0_3.toNat 5))) (aA rfl) (aH hS rfl) rfl)),
      fun S hS => aK rfl (aS rfl (aC (v := .d (.lit (.int .i64 k2_2_14))) (aA rfl) (aH hS rfl) rfl)),
      fun S hS => aK rfl (aS rfl (bA (aA rfl) (aH hS rfl) rfl rfl)),
      fun S hS => aK rfl (aS rfl (vZ (m := 0) (aA rfl) (aH hS rfl) rfl (aH hS rfl) cA.of (uZ (f := aD) h20))),
      fun S hS => aK rfl (aS rfl (dG (aA rfl) (aH hS rfl) (l := 0) rfl (aBu aD h20) eI (es := (aD x19)) rfl rfl)), trivial⟩⟩
       · exact eJ (aO rfl (aO rfl (aZ ⟨rfl, rfl, rfl, rfl, trivial⟩)))
      ·refine tr1 rfl (aIi (a := x17) (b := x19) (aA rfl) rfl rfl rfl rfl Try.eqGuardType42 aDf) ?_
       refine aF ?_
       refine bN rfl (fun c21 => ?_) (fun c21 => ?_)
       ·have h := aR c21 h
        refine aG ?_
        refine aE ?_
        refine tr1 rfl (aC (v := .d (.lit w4)) (aA rfl) rfl rfl) ?_
        refine tr1 rfl (aC (v := .d (.lit (.int .i64 k_2_14))) (aA rfl) rfl rfl) ?_
        refine tr1 rfl (aC (v := .d (.lit (lM w4 k_0_3.toNat 5))) (aA rfl) rfl rfl) ?_
        refine tr1 rfl (aC (v := .d (.lit (.int .i64 k2_2_14))) (aA rfl) rfl rfl) ?_
        obtain ⟨x22, h23, h⟩ := bind_some h
        refine tr1 rfl (vZ (m := 0) (aA rfl) rfl rfl rfl cA.of (uZ (f := aD) h23)) ?_
        refine tr1 rfl (dG (aA rfl) rfl (l := 0) rfl (aBu aD h23) eI (es := (aD x22)) rfl rfl) ?_
        obtain ⟨x24, h25, h⟩ := bind_some h
        refine tr1 rfl (cC (m := 0) (aA rfl) rfl rfl rfl cA.of (bP aD h25)) ?_
        refine tr1 rfl (iT (l := 0) rfl rfl (dX aD h25) rfl rfl rfl Try.sizeOf42 rfl (aA rfl) (Nat.le_of_ble_eq_true rfl) (rows' := ((s_2_14.set k_2_14.toNat x22)).map aD) (mH _ _ _ _ rfl)) ?_
        refine aF ?_
        refine aE ?_
        refine tr1 rfl (aC (v := .d (.lit (.int .i64 k_2_14))) (aA rfl) rfl rfl) ?_
        refine tr1 rfl (bA (aA rfl) rfl rfl rfl) ?_
        refine tr1 rfl (aJ (v := .d (.lit (.int .i64 ((w64 (k_2_14 + 1)))))) (aA rfl) rfl rfl) ?_
        refine eH ?_
        refine aE ?_
        refine tr1 rfl (aC (v := .d (.lit (.int .i64 k2_2_14))) (aA rfl) rfl rfl) ?_
        refine tr1 rfl (bA (aA rfl) rfl rfl rfl) ?_
        refine tr1 rfl (aJ (v := .d (.lit (.int .i64 ((w64 (k2_2_14 + 1)))))) (aA rfl) rfl rfl) ?_
        refine aF ?_
        exact ⟨(w64 (k_2_14 + 1), w64 (k2_2_14 + 1), (s_2_14.set k_2_14.toNat x22)), h, aY [0] rfl rfl (aO rfl (aO rfl (aO rfl (aO rfl (aZ trivial)))))⟩
       ·have h := aQ c21 h
        refine eR ?_
        refine aE ?_
        refine tr1 rfl (aC (v := .d (.lit (.int .i64 k2_2_14))) (aA rfl) rfl rfl) ?_
        refine tr1 rfl (bA (aA rfl) rfl rfl rfl) ?_
        refine tr1 rfl (aJ (v := .d (.lit (.int .i64 ((w64 (k2_2_14 + 1)))))) (aA rfl) rfl rfl) ?_
        refine aF ?_
        exact ⟨(k_2_14, w64 (k2_2_14 + 1), s_2_14), h, aY [0] rfl rfl (aO rfl (aO rfl (aO rfl (aO rfl (aZ trivial)))))⟩
     ·have h := aQ c16 h
      refine cX ?_
      refine .inl ⟨rfl, ?_⟩
      simp only [kX] at h
      refine aG ?_
      refine aE ?_
      refine tr1 rfl (aC (v := .d (.lit w4)) (aA rfl) rfl rfl) ?_
      refine tr1 rfl (aC (v := .d (.lit (.int .i64 k_2_14))) (aA rfl) rfl rfl) ?_
      obtain ⟨u26, h27, h⟩ := bind_some h
      refine tr1 rfl (uX (m := 0) (aA rfl) rfl rfl rfl cA.of h27) ?_
      obtain ⟨u28, h29, h⟩ := bind_some h
      refine tr1 rfl (aDy (f := aD) (m := 0) cA rfl rfl h29 (by decide)) ?_
      refine aF ?_
      refine aG ?_
      refine aE ?_
      refine tr1 rfl (aC (v := .d (.lit w4)) (aA rfl) rfl rfl) ?_
      refine tr1 rfl (aC (v := .d (.lit (.int .i64 k_2_14))) (aA rfl) rfl rfl) ?_
      obtain ⟨u30, h31, h⟩ := bind_some h
      refine tr1 rfl (rT (m := 0) (q := k_2_14.toNat) (v := w4) (aA rfl) rfl rfl rfl rfl (aAm h31) cA.of) ?_
      refine tr1 rfl (aJ (v := .d (.lit (gD w4 k_2_14.toNat))) (aA rfl) rfl rfl) ?_
      refine aF ?_
      have h := Option.some.inj h
      subst h
      exact bL ⟨rfl, _, [.arr (gD w4 k_2_14.toNat) 42 5 ((s_2_14.take k_2_14.toNat).map aD)], [], _, .one (.tmp 2 (v := .d (.lit (gD w4 k_2_14.toNat))) rfl), .refl _, .same _, (gD w4 k_2_14.toNat), rfl, rfl⟩
    ·have h := aQ c11 h
     refine eR ?_
     simp only [kW] at h
     refine aE ?_
     refine tr1 rfl (aC (v := .d (.lit (.int .i64 k_0_3))) (aA rfl) rfl rfl) ?_
     refine tr1 rfl (bA (aA rfl) rfl rfl rfl) ?_
     refine tr1 rfl (aJ (v := .d (.lit (.int .i64 ((w64 (k_0_3 + 1)))))) (aA rfl) rfl rfl) ?_
     refine aF ?_
     exact ⟨(w64 (k_0_3 + 1), s_0_3, w4), h, aY [0] rfl rfl (aO rfl (aO rfl (aZ trivial)))⟩
  ·have h := aQ c6 h
   refine cX ?_
   refine .inl ⟨rfl, ?_⟩
   simp only [kV] at h
   refine aG ?_
   refine aE ?_
   refine tr1 rfl (aC (v := .d (.lit w4)) (aA rfl) rfl rfl) ?_
   refine tr1 rfl (aJ (v := .d (.lit w4)) (aA rfl) rfl rfl) ?_
   refine aF ?_
   have h := Option.some.inj h
   subst h
   exact bL ⟨rfl, _, [.arr w4 42 5 (s_0_3.map aD)], [], _, .one (.tmp 2 (v := .d (.lit w4)) rfl), .refl _, .same _, w4, rfl, rfl⟩

theorem zT (all_0 : List aB) {r : (List aB) × Bool} (h : nA all_0 = some r) : fT Try.prog 62 [.d (.sl 5 (all_0.map aD))] [] (fun r' o' => ∃ (w0 : Value), r' = .tup [.d (.lit w0), .d (.lit (.bool r.2))] ∧ o' = [.arr w0 42 5 (r.1.map aD)]) := by
 unfold nA at h
 refine lZ Try.func62 rfl (rs := [.tmp 2, .tmp 3]) Try.results62 Try.ntmps62 (Nat.le_of_ble_eq_true rfl) ?_
 refine aG ?_
 refine aE ?_
 refine tr1 rfl (kJ 42 5 (.inl rfl) (aA rfl)) ?_
 refine tr1 rfl (aJ (v := .d (.lit (.bool false))) (aA rfl) rfl rfl) ?_
 refine aF ?_
 refine aG ?_
 refine aE ?_
 refine tr1 rfl (aC (v := .d (.sl 5 (all_0.map aD))) (aA rfl) rfl rfl) ?_
 obtain ⟨r2, h3, h⟩ := bind_some h
 refine bR rfl (wZ (aA rfl) (.func _ _ Try.call91) rfl rfl (oJ _ h3)) ?_
 rintro _ ⟨v4, rfl⟩
 refine tr1 rfl (aJ (v := .d (.lit v4)) (aA rfl) rfl rfl) ?_
 refine aF ?_
 refine aG ?_
 refine aE ?_
 refine tr1 rfl (aC (v := .d (.lit v4)) (aA rfl) rfl rfl) ?_
 obtain ⟨r7, h8, h⟩ := bind_some h
 refine gI (aY [1, 0] rfl rfl (le_refl _)) ?_
 refine bR rfl (dP (passed := [.arr v4 42 5 (r2.map aD)]) (aA rfl) rfl (.func _ _ Try.call92) rfl rfl (lY r2 (fun y5 y6 => oM y5 y6) 93 [] Try.call93 (fun _ _ _ h => aCo _ _ h) h8)) ?_
 rintro _ ⟨_, _, ⟨rfl, rfl⟩, rfl⟩
 refine aF ?_
 refine aG ?_
 refine aE ?_
 refine tr1 rfl (aC (v := .d (.lit v4)) (aA rfl) rfl rfl) ?_
 obtain ⟨r9, h10, h⟩ := bind_some h
 refine bR rfl (dP (passed := [.arr v4 42 5 (r7.map aD)]) (aA rfl) rfl (.func _ _ Try.call94) rfl rfl (tG r7 h10)) ?_
 rintro _ ⟨_, _, ⟨v11, rfl, rfl⟩, rfl⟩
 refine tr1 rfl (aJ (v := .d (.lit v11)) (aA rfl) rfl rfl) ?_
 refine aF ?_
 refine aG ?_
 refine aG ?_
 refine aE ?_
 refine tr1 rfl (aJ (v := .d (.lit (.int .i64 1))) (aA rfl) rfl rfl) ?_
 refine aF ?_
 refine bT ?_
 refine cM [4] (fun (s12 : Int) => [(5, .d (.lit (.int .i64 s12)))]) (fun (s12 : Int) => [.arr v11 42 5 (r9.map aD)]) (fun (k : Nat) (s12 : Int) => gQ r9 k s12) (fun _ => rfl) (1) h (aY [0] rfl rfl (aO rfl (aZ ⟨rfl, trivial⟩))) ?_
 rintro k13 i_0_12 h
 simp only [gQ] at h
 refine aG ?_
 refine aG ?_
 refine aE ?_
 refine tr1 rfl (aC (v := .d (.lit (.int .i64 i_0_12))) (aA rfl) rfl rfl) ?_
 refine tr1 rfl (aC (v := .d (.lit v11)) (aA rfl) rfl rfl) ?_
 refine tr1 rfl (mA (m := 0) (aA rfl) rfl rfl cA.of) ?_
 refine tr1 rfl (bC (aA rfl) rfl rfl rfl) ?_
 refine aF ?_
 refine bN rfl (fun c14 => ?_) (fun c14 => ?_)
 ·have h := aR c14 h
  refine bH ?_
  refine aG ?_
  refine bT ?_
  refine aG ?_
  obtain ⟨x15, h16, h⟩ := bind_some h
  obtain ⟨x17, h18, h⟩ := bind_some h
  refine hH mix 11 [4, 5] [(22, .d (.lit (.int .i64 x15.Id))), (28, .d (.lit (.int .i64 x17.Id)))] ?_ ?_
  ·refine ⟨[(18, 0, .d (.lit v11)), (19, 1, .d (.lit (.int .i64 i_0_12))), (20, 2, .ep v11 5 i_0_12.toNat 0), (21, 3, .ep v11 5 i_0_12.toNat 0), (22, 4, .d (.lit (.int .i64 x15.Id))), (23, 5, .d (.lit v11)), (24, 6, .d (.lit (.int .i64 i_0_12))), (25, 7, .d (.lit (.int .i64 ((w64 (i_0_12 - 1)))))), (26, 8, .ep v11 5 (w64 (i_0_12 - 1)).toNat 0), (27, 9, .ep v11 5 (w64 (i_0_12 - 1)).toNat 0), (28, 10, .d (.lit (.int .i64 x17.Id)))], ?_, ?_⟩
   · exact ⟨by kernel_rfl, by kernel_rfl, by kernel_rfl, by kernel_rfl, by kernel_rfl, [([], []), ([], []), ([0, 1], []), ([2], []), ([3], []), ([], []), ([], []), ([6], []), ([5, 7], []), ([8], []), ([9], [])], by kernel_rfl, ⟨fun S hS => aK rfl (aS rfl (aC (v := .d (.lit v11)) (aA rfl) (aH hS rfl) rfl)),
      fun S hS => aK rfl (aS rfl (aC (v := .d (.lit (.int .i64 i_0_12))) (aA rfl) (aH hS rfl) rfl)),
      fun S hS => aK rfl (aS rfl (cC (m := 0) (aA rfl) (aH hS rfl) rfl (aH hS rfl) cA.of (bP aD h16))),
      fun S hS => aK rfl (aS rfl (aBd (aA rfl) (aH hS rfl) kS)),
      fun S hS => aK rfl (aS rfl (yR (aA rfl) (aH hS rfl) (m := 0) rfl (dX aD h16) rfl bG)),
      fun S hS => aK rfl (aS rfl (aC (v := .d (.lit v11)) (aA rfl) (aH hS rfl) rfl)),
      fun S hS => aK rfl (aS rfl (aC (v := .d (.lit (.int .i64 i_0_12))) (aA rfl) (aH hS rfl) rfl)),
      fun S hS => aK rfl (aS rfl (bA (aA rfl) (aH hS rfl) rfl rfl)),
      fun S hS => aK rfl (aS rfl (cC (m := 0) (aA rfl) (aH hS rfl) rfl (aH hS rfl) cA.of (bP aD h18))),
      fun S hS => aK rfl (aS rfl (aBd (aA rfl) (aH hS rfl) kS)),
      fun S hS => aK rfl (aS rfl (yR (aA rfl) (aH hS rfl) (m := 0) rfl (dX aD h18) rfl bG)), trivial⟩⟩
   · exact eJ (aO rfl (aO rfl (aZ ⟨rfl, rfl, trivial⟩)))
  ·refine tr1 rfl (bC (aA rfl) rfl rfl rfl) ?_
   refine aF ?_
   refine bN rfl (fun c19 => ?_) (fun c19 => ?_)
   ·have h := aR c19 h
    refine aG ?_
    refine aE ?_
    refine tr1 rfl (kJ 42 5 (.inl rfl) (aA rfl)) ?_
    refine tr1 rfl (aJ (v := .d (.lit (.bool false))) (aA rfl) rfl rfl) ?_
    refine aF ?_
    have h := Option.some.inj h
    subst h
    refine cR (aY [1, 0] rfl rfl (le_refl _)) ?_
    exact bL ⟨rfl, _, [.arr (.slice none 0 0) 42 5 (([] : List aB).map aD)], [.arr v11 42 5 (r9.map aD)], _, .two (.tmp 2 (v := .d (.lit (.slice none 0 0))) rfl) (.tmp 3 (v := .d (.lit (.bool false))) rfl), .refl _, .same _, (.slice none 0 0), rfl, rfl⟩
   ·have h := aQ c19 h
    refine eR ?_
    refine aE ?_
    refine tr1 rfl (aC (v := .d (.lit (.int .i64 i_0_12))) (aA rfl) rfl rfl) ?_
    refine tr1 rfl (bA (aA rfl) rfl rfl rfl) ?_
    refine tr1 rfl (aJ (v := .d (.lit (.int .i64 ((w64 (i_0_12 + 1)))))) (aA rfl) rfl rfl) ?_
    refine aF ?_
    exact ⟨(w64 (i_0_12 + 1)), h, aY [0] rfl rfl (aO rfl (aZ ⟨rfl, trivial⟩))⟩
 ·have h := aQ c14 h
  refine cX ?_
  refine .inl ⟨rfl, ?_⟩
  simp only [uT] at h
  refine aG ?_
  refine aE ?_
  refine tr1 rfl (aC (v := .d (.lit v11)) (aA rfl) rfl rfl) ?_
  refine tr1 rfl (aJ (v := .d (.lit v11)) (aA rfl) rfl rfl) ?_
  refine tr1 rfl (aJ (v := .d (.lit (.bool true))) (aA rfl) rfl rfl) ?_
  refine aF ?_
  have h := Option.some.inj h
  subst h
  exact bL ⟨rfl, _, [.arr v11 42 5 (r9.map aD)], [], _, .two (.tmp 2 (v := .d (.lit v11)) rfl) (.tmp 3 (v := .d (.lit (.bool true))) rfl), .refl _, .same _, v11, rfl, rfl⟩

theorem aDw (l_0 : aM) {r : Int} (h : rR l_0 = some r) : Fn Try.prog 60 [.agg (aU l_0)] (.d (.lit (.int .i64 r))) := by
 unfold rR at h
 refine Fn.of_tr Try.func60 rfl (rs := [.tmp 2]) Try.results60 Try.ntmps60 (Nat.le_of_ble_eq_true rfl) ?_
 refine aG ?_
 refine aE ?_
 refine bR rfl (fK (v := .agg (aU l_0)) (aA rfl) rfl rfl rfl) ?_
 rintro _ ⟨b1, rfl⟩
 refine tr1 rfl (aJ (v := .d (.lit (.int .i64 0))) (aA rfl) rfl rfl) ?_
 refine aF ?_
 refine aG ?_
 refine aG ?_
 refine aE ?_
 refine tr1 rfl (cT (aA rfl) rfl (i := 0) rfl eQ (es := (aU l_0)) rfl rfl) ?_
 obtain ⟨r2, h3, h⟩ := bind_some h
 refine tr1 rfl (bY (aA rfl) (.func _ _ Try.call89) rfl rfl (BVs.refl _ _) (aBa _ h3) rfl) ?_
 refine tr1 rfl (fD (aA rfl) rfl) ?_
 refine aF ?_
 refine bN rfl (fun c4 => ?_) (fun c4 => ?_)
 ·have h := aR c4 h
  refine aG ?_
  refine aE ?_
  refine tr1 rfl (aJ (v := .d (.lit (.int .i64 40))) (aA rfl) rfl rfl) ?_
  refine aF ?_
  have h := Option.some.inj h
  subst h
  refine cR (cG (cL (l := [2]) ⟨rfl, trivial⟩)) ?_
  exact bL ⟨rfl, _, .one _, rfl, rfl⟩
 ·have h := aQ c4 h
  refine bH ?_
  refine aG ?_
  refine aG ?_
  refine aE ?_
  refine tr1 rfl (aP (aA rfl) rfl dZ) ?_
  refine tr1 rfl (aT (aA rfl) rfl (i := 0) rfl rfl iG) ?_
  obtain ⟨r5, h6, h⟩ := bind_some h
  refine bR rfl (dP (passed := []) (aA rfl) rfl (.func _ _ Try.call62) rfl rfl (zT _ h6)) ?_
  rintro _ ⟨_, _, ⟨w7, rfl, rfl⟩, rfl⟩
  refine tr1 rfl (aC (v := .tup [.d (.lit w7), .d (.lit (.bool r5.2))]) (aA rfl) rfl rfl) ?_
  refine tr1 rfl (cU (aA rfl) rfl rfl) ?_
  refine tr1 rfl (cU (aA rfl) rfl rfl) ?_
  refine tr1 rfl (aJ (v := .d (.lit w7)) (aA rfl) rfl rfl) ?_
  refine tr1 rfl (aJ (v := .d (.lit (.bool r5.2))) (aA rfl) rfl rfl) ?_
  refine aF ?_
  refine aG ?_
  refine aE ?_
  refine tr1 rfl (aC (v := .d (.lit (.bool r5.2))) (aA rfl) rfl rfl) ?_
  refine tr1 rfl (fD (aA rfl) rfl) ?_
  refine aF ?_
  refine bN rfl (fun c8 => ?_) (fun c8 => ?_)
  ·have h := aR c8 h
   refine aG ?_
   refine aE ?_
   refine tr1 rfl (aJ (v := .d (.lit (.int .i64 41))) (aA rfl) rfl rfl) ?_
   refine aF ?_
   have h := Option.some.inj h
   subst h
   refine cR (cG (cL (l := [2]) ⟨rfl, trivial⟩)) ?_
   exact bL ⟨rfl, _, .one _, rfl, rfl⟩
  ·have h := aQ c8 h
   refine bH ?_
   refine aG ?_
   refine aE ?_
   refine tr1 rfl (aJ (v := .d (.lit (.int .i64 0))) (aA rfl) rfl rfl) ?_
   refine aF ?_
   have h := Option.some.inj h
   subst h
   refine cR (cG (cL (l := [2]) ⟨rfl, trivial⟩)) ?_
   exact bL ⟨rfl, _, .one _, rfl, rfl⟩

theorem aEo (l_0 : aM) {r : (Option bW) × Int} (h : tC l_0 = some r) : fT Try.prog 80 [.agg (aU l_0)] [] (fun r' o' => ∃ (b : Nat) (w0 : Value), r' = .tup [(match r.1 with | none => .d (.lit (.pointer none)) | some _ => .bp b 0 0), .d (.lit (.int .i64 r.2))] ∧ o' = (match r.1 with | none => [] | some x => [.box b 0 [.lit (.int .i64 x.Ledger.Players), .lit (.int .i64 x.Ledger.Counts), .lit w0, .sl 3 (x.Ledger.Bans.map aI), .sl 3 (x.Ledger.Frozen.map aI)], .arr w0 42 5 (x.Ledger.Reports.map aD)])) := by
 unfold tC at h
 refine lZ Try.func80 rfl (rs := [.tmp 2, .tmp 3]) Try.results80 Try.ntmps80 (Nat.le_of_ble_eq_true rfl) ?_
 refine aG ?_
 refine aE ?_
 refine bR rfl (fK (v := .agg (aU l_0)) (aA rfl) rfl rfl rfl) ?_
 rintro _ ⟨b1, rfl⟩
 refine tr1 rfl (aJ (v := qT cE (none : Option bW)) (aA rfl) rfl rfl) ?_
 refine tr1 rfl (aJ (v := .d (.lit (.int .i64 0))) (aA rfl) rfl rfl) ?_
 refine aF ?_
 refine aG ?_
 refine aG ?_
 refine aE ?_
 refine tr1 rfl (cT (aA rfl) rfl (i := 0) rfl eQ (es := (aU l_0)) rfl rfl) ?_
 obtain ⟨r2, h3, h⟩ := bind_some h
 refine tr1 rfl (bY (aA rfl) (.func _ _ Try.call60) rfl rfl (BVs.refl _ _) (aDw _ h3) rfl) ?_
 refine tr1 rfl (aJ (v := .d (.lit (.int .i64 r2))) (aA rfl) rfl rfl) ?_
 refine aF ?_
 refine aG ?_
 refine aE ?_
 refine tr1 rfl (aC (v := .d (.lit (.int .i64 r2))) (aA rfl) rfl rfl) ?_
 refine tr1 rfl (bC (aA rfl) rfl rfl rfl) ?_
 refine aF ?_
 refine bN rfl (fun c4 => ?_) (fun c4 => ?_)
 ·have h := aR c4 h
  refine aG ?_
  refine aE ?_
  refine tr1 rfl (aC (v := .d (.lit (.int .i64 r2))) (aA rfl) rfl rfl) ?_
  refine tr1 rfl (aJ (v := qT cE (none : Option bW)) (aA rfl) rfl rfl) ?_
  refine tr1 rfl (aJ (v := .d (.lit (.int .i64 r2))) (aA rfl) rfl rfl) ?_
  refine aF ?_
  have h := Option.some.inj h
  subst h
  exact bL ⟨rfl, _, [], [.box b1 0 (aU l_0)], _, .two (.tmp 2 (v := qT cE (none : Option bW)) rfl) (.tmp 3 (v := .d (.lit (.int .i64 r2))) rfl), .refl _, .same _, 0, undef, rfl, rfl⟩
 ·have h := aQ c4 h
  refine bH ?_
  refine aG ?_
  refine aE ?_
  refine tr1 rfl (aP (aA rfl) rfl dZ) ?_
  refine tr1 rfl (aT (aA rfl) rfl (i := 0) rfl rfl iG) ?_
  obtain ⟨r5, h6, h⟩ := bind_some h
  refine bR rfl (dP (passed := []) (aA rfl) rfl (.func _ _ Try.call62) rfl rfl (zT _ h6)) ?_
  rintro _ ⟨_, _, ⟨w7, rfl, rfl⟩, rfl⟩
  refine tr1 rfl (aC (v := .tup [.d (.lit w7), .d (.lit (.bool r5.2))]) (aA rfl) rfl rfl) ?_
  refine tr1 rfl (cU (aA rfl) rfl rfl) ?_
  refine tr1 rfl (cU (aA rfl) rfl rfl) ?_
  refine tr1 rfl (aP (aA rfl) rfl dZ) ?_
  refine tr1 rfl (bX (i := 1) rfl rfl rfl rfl rfl Try.sizeOf22 rfl (aA rfl) (Nat.le_of_ble_eq_true rfl) (ds' := [.lit (.int .i64 l_0.Players), .lit (.int .i64 l_0.Counts), .lit w7, .sl 3 (l_0.Bans.map aI), .sl 3 (l_0.Frozen.map aI)]) rfl) ?_
  refine aF ?_
  refine aG ?_
  refine aE ?_
  refine tr1 rfl (cT (aA rfl) rfl (i := 1) rfl eQ (es := [.lit (.int .i64 l_0.Players), .lit (.int .i64 l_0.Counts), .lit w7, .sl 3 (l_0.Bans.map aI), .sl 3 (l_0.Frozen.map aI)]) rfl rfl) ?_
  refine tr1 rfl (mG (aA rfl) aKg (zs := [.lit (.int .i64 0), .lit (.int .i64 0), .sl 5 ((([] : List aB)).map aD), .sl 3 ((([] : List aX)).map aI), .sl 3 ((([] : List aX)).map aI)]) rfl rfl rfl rfl (es := [.lit (.int .i64 l_0.Players), .lit (.int .i64 l_0.Counts), .lit w7, .sl 3 (l_0.Bans.map aI), .sl 3 (l_0.Frozen.map aI)]) rfl) ?_
  refine bR rfl (fK (v := .agg [.lit (.int .i64 l_0.Players), .lit (.int .i64 l_0.Counts), .lit w7, .sl 3 (l_0.Bans.map aI), .sl 3 (l_0.Frozen.map aI)]) (aA rfl) rfl rfl rfl) ?_
  rintro _ ⟨b8, rfl⟩
  refine tr1 rfl (aJ (v := .bp b8 0 0) (aA rfl) rfl rfl) ?_
  refine tr1 rfl (aJ (v := .d (.lit (.int .i64 0))) (aA rfl) rfl rfl) ?_
  refine aF ?_
  have h := Option.some.inj h
  subst h
  refine cR (aY [2, 0, 1] rfl rfl (le_refl _)) ?_
  exact bL ⟨rfl, _, [.box b8 0 [.lit (.int .i64 l_0.Players), .lit (.int .i64 l_0.Counts), .lit w7, .sl 3 (l_0.Bans.map aI), .sl 3 (l_0.Frozen.map aI)], .arr w7 42 5 (r5.1.map aD)], [.box b1 0 [.lit (.int .i64 l_0.Players), .lit (.int .i64 l_0.Counts), .lit w7, .sl 3 (l_0.Bans.map aI), .sl 3 (l_0.Frozen.map aI)]], _, .two (.tmp 2 (v := .bp b8 0 0) rfl) (.tmp 3 (v := .d (.lit (.int .i64 0))) rfl), .refl _, .same _, b8, w7, rfl, rfl⟩

end Go.Am
