/- The functions compute what the shallow ones say: printed by program. -/
import Derived.Test.YtaocljlhapoieaaRkSh
import Derived.Test.YtaocljlhapoieaaAmRange
import Derived.Test.YtaocljlhapoieaaRkShelf
import Derived.Test.YtaocljlhapoieaaAmSub
import Derived.Test.YtaocljlhapoieaaChecked
import Derived.KernelRfl
namespace Go.Am
open Go.Proofs
set_option maxRecDepth 100000
set_option maxHeartbeats 4000000

theorem mix : Try.prog.follows .mixedOrders = true := Checked.mixed Try.checked

theorem dZ : sI Try.prog 25 5 := ⟨Try.isAgg25, Try.sizeOf25⟩
theorem bM : qC Try.prog 3 := ⟨Try.isAgg3, Try.sizeOf3⟩
theorem fL : SliceTy Try.prog 28 3 1 8 (.int .i64 0) := ⟨Try.underlying28, ⟨Try.t3, by kernel_rfl, rfl, rfl, rfl⟩, rfl, by decide⟩
theorem jH : gP Try.prog 25 0 0 := fM Try.runUnderlying25 rfl rfl Try.sizeOf3
theorem dI : gP Try.prog 25 2 2 := fM Try.runUnderlying25 rfl rfl Try.sizeOf22
theorem fR : qC Try.prog 22 := ⟨Try.isAgg22, Try.sizeOf22⟩
theorem bP : SliceTy Try.prog 22 42 5 40 (.agg #[.int .i64 0, .int .i64 0, .int .i64 0, .int .i64 0, .bool false]) := ⟨Try.underlying22, ⟨Try.t42, by kernel_rfl, rfl, rfl, rfl⟩, rfl, by decide⟩
theorem jI : gP Try.prog 25 3 3 := fM Try.runUnderlying25 rfl rfl Try.sizeOf23
theorem fV : qC Try.prog 23 := ⟨Try.isAgg23, Try.sizeOf23⟩
theorem eI : SliceTy Try.prog 23 66 3 24 (.agg #[.int .i64 0, .int .i64 0, .int .i64 0]) := ⟨Try.underlying23, ⟨Try.t66, by kernel_rfl, rfl, rfl, rfl⟩, rfl, by decide⟩
theorem hH : gP Try.prog 25 4 4 := fM Try.runUnderlying25 rfl rfl Try.sizeOf23
theorem nE : gP Try.prog 42 2 2 := fM Try.runUnderlying42 rfl rfl Try.sizeOf3
theorem uE : gP Try.prog 25 1 1 := fM Try.runUnderlying25 rfl rfl Try.sizeOf3
theorem dR : sI Try.prog 42 5 := ⟨Try.isAgg42, Try.sizeOf42⟩
theorem qZ : sI Try.prog 66 3 := ⟨Try.isAgg66, Try.sizeOf66⟩
theorem lZ : gP Try.prog 66 0 0 := fM Try.runUnderlying66 rfl rfl Try.sizeOf3
theorem kK : gP Try.prog 66 1 1 := fM Try.runUnderlying66 rfl rfl Try.sizeOf3
theorem mA : gP Try.prog 66 2 2 := fM Try.runUnderlying66 rfl rfl Try.sizeOf3
theorem jR : gP Try.prog 42 0 0 := fM Try.runUnderlying42 rfl rfl Try.sizeOf3
theorem qL : gP Try.prog 42 1 1 := fM Try.runUnderlying42 rfl rfl Try.sizeOf3
theorem rZ : gP Try.prog 42 3 3 := fM Try.runUnderlying42 rfl rfl Try.sizeOf3
theorem vZ : aCg Try.prog 42 aB := by
  rintro ⟨a0, a1, a2, a3, a4⟩ ⟨b0, b1, b2, b3, b4⟩ w
  simp [aB, eT, go_sem, Op.eqFields, Program.fieldsOf] <;> (repeat' split) <;> simp_all
theorem uT : rY Try.prog 42 (.agg #[.int .i64 0, .int .i64 0, .int .i64 0, .int .i64 0, .bool false]) [(0, 1), (1, 1), (2, 1), (3, 1), (4, 1)] := ⟨Try.zeroValue42, _, Try.runUnderlying42, fun w => by simp [Try.sizeOf3, Try.sizeOf4]⟩
theorem aGh : rY Try.prog 66 (.agg #[.int .i64 0, .int .i64 0, .int .i64 0]) [(0, 1), (1, 1), (2, 1)] := ⟨Try.zeroValue66, _, Try.runUnderlying66, fun w => by simp [Try.sizeOf3]⟩
theorem rS : rY Try.prog 25 (.agg #[.int .i64 0, .int .i64 0, .slice none 0 0, .slice none 0 0, .slice none 0 0]) [(0, 1), (1, 1), (2, 1), (3, 1), (4, 1)] := ⟨Try.zeroValue25, _, Try.runUnderlying25, fun w => by simp [Try.sizeOf22, Try.sizeOf23, Try.sizeOf3]⟩
theorem aIz : rY Try.prog 76 (.agg #[.int .i64 0, .int .i64 0, .slice none 0 0, .slice none 0 0, .slice none 0 0]) [(0, 5)] := ⟨Try.zeroValue76, _, Try.runUnderlying76, fun w => by simp [Try.sizeOf25]⟩
theorem iS : gP Try.prog 76 0 0 := fM Try.runUnderlying76 rfl rfl Try.sizeOf25
theorem aIh : rY Try.prog 114 (.agg #[.int .i64 0, .int .i64 0, .int .i64 0, .int .i64 0]) [(0, 1), (1, 1), (2, 1), (3, 1)] := ⟨Try.zeroValue114, _, Try.runUnderlying114, fun w => by simp [Try.sizeOf3]⟩
theorem qM : gP Try.prog 42 4 4 := fM Try.runUnderlying42 rfl rfl Try.sizeOf4
theorem tQ : qC Try.prog 4 := ⟨Try.isAgg4, Try.sizeOf4⟩
theorem uX : gP Try.prog 114 2 2 := fM Try.runUnderlying114 rfl rfl Try.sizeOf3
theorem tT : sI Try.prog 114 4 := ⟨Try.isAgg114, Try.sizeOf114⟩
theorem pA : SliceTy Try.prog 112 114 4 32 (.agg #[.int .i64 0, .int .i64 0, .int .i64 0, .int .i64 0]) := ⟨Try.underlying112, ⟨Try.t114, by kernel_rfl, rfl, rfl, rfl⟩, rfl, by decide⟩
theorem xR : gP Try.prog 114 0 0 := fM Try.runUnderlying114 rfl rfl Try.sizeOf3
theorem aBo : gP Try.prog 114 1 1 := fM Try.runUnderlying114 rfl rfl Try.sizeOf3
theorem aBp : gP Try.prog 114 3 3 := fM Try.runUnderlying114 rfl rfl Try.sizeOf3
theorem wD : qC Try.prog 70 := ⟨Try.isAgg70, Try.sizeOf70⟩
theorem yG : SliceTy Try.prog 128 28 1 24 (.slice none 0 0) := ⟨Try.underlying128, ⟨Try.t28, by kernel_rfl, rfl, rfl, rfl⟩, rfl, by decide⟩
theorem aFz : qC Try.prog 28 := ⟨Try.isAgg28, Try.sizeOf28⟩
theorem wJ : SliceTy Try.prog 118 22 1 24 (.slice none 0 0) := ⟨Try.underlying118, ⟨Try.t22, by kernel_rfl, rfl, rfl, rfl⟩, rfl, by decide⟩
theorem aIo (b : Bool) (a : aC) (w : World) : (Instr.checkKey b 10000 42 (.agg ((aB a).map eT).toArray)).run Try.prog w = .ok () w := by
  obtain ⟨a1, a2, a3, a4, a5⟩ := a
  rw [show (10000 : Nat) = 9990 + 10 from rfl]
  generalize (9990 : Nat) = m
  simp [Instr.checkKey, aB, eT, go_sem, Std.Legacy.Range.forIn_eq_forIn_range', Std.Legacy.Range.size]
theorem aFt : zT Try.prog 42 (fun a : aC => Value.agg ((aB a).map eT).toArray) :=
  aCt Try.underlying42 vZ aIo (fun a w => aGo _ rfl _ _) (by
    rintro ⟨a1, a2, a3, a4, a5⟩ ⟨b1, b2, b3, b4, b5⟩ h
    simp [aB] at h ⊢
    simp_all) (fun _ => rfl)
theorem aFp : aCg Try.prog 66 aH := by
  rintro ⟨a0, a1, a2⟩ ⟨b0, b1, b2⟩ w
  simp [aH, eT, go_sem, Op.eqFields, Program.fieldsOf] <;> (repeat' split) <;> simp_all

theorem eX (n_0 : Int) (low_1 : Int) (high_2 : Int) {r : Bool} (h : eL n_0 low_1 high_2 = some r) : Fn Try.prog 58 [.d (.lit (.int .i64 n_0)), .d (.lit (.int .i64 low_1)), .d (.lit (.int .i64 high_2))] (.d (.lit (.bool r))) := by
 unfold eL at h
 refine Fn.of_tr Try.func58 rfl (rs := [.tmp 6]) Try.results58 Try.ntmps58 (Nat.le_of_ble_eq_true rfl) ?_
 refine aG ?_
 refine aE ?_
 refine tr1 rfl (aJ (v := .d (.lit (.bool false))) (aA rfl) rfl rfl) ?_
 refine aF ?_
 refine aG ?_
 refine aE ?_
 refine tr1 rfl (aD (v := .d (.lit (.int .i64 n_0))) (aA rfl) rfl rfl) ?_
 refine tr1 rfl (aD (v := .d (.lit (.int .i64 low_1))) (aA rfl) rfl rfl) ?_
 refine tr1 rfl (bC (aA rfl) rfl rfl rfl) ?_
 refine tr1 rfl (aD (v := .d (.lit (.bool ((decide (low_1 ≤ n_0)))))) (aA rfl) rfl rfl) ?_
 obtain ⟨b1, h2, h⟩ := bind_some h
 refine cA 4 [] 14 b1 ?_ ?_
 ·refine bJ (decide (low_1 ≤ n_0)) (fun c3 => ?_) (fun c3 => ?_)
  ·have h2 := aU c3 h2
   refine aP rfl rfl (aA rfl) rfl c3 (aD (v := .d (.lit (.int .i64 n_0))) (aA rfl) rfl rfl) ?_
   refine aP rfl rfl (aA rfl) rfl c3 (aD (v := .d (.lit (.int .i64 high_2))) (aA rfl) rfl rfl) ?_
   refine aP rfl rfl (aA rfl) rfl c3 (bC (aA rfl) rfl rfl rfl) ?_
   refine tr1 rfl (bW (v := .d (.lit (.bool ((decide (n_0 ≤ high_2)))))) (aA rfl) rfl c3 rfl rfl) ?_
   have h2 := Option.some.inj h2
   subst h2
   refine aF (bB rfl trivial rfl)
  ·have h2 := aT c3 h2
   refine aR rfl rfl (aA rfl) rfl (aA rfl) rfl c3 ?_
   refine aR rfl rfl (aA rfl) rfl (aA rfl) rfl c3 ?_
   refine aR rfl rfl (aA rfl) rfl (aA rfl) rfl c3 ?_
   refine tr1 rfl (bT (v := .d (.lit (.bool false))) (aA rfl) rfl c3 rfl rfl) ?_
   have h2 := Option.some.inj h2
   subst h2
   refine aF (bB rfl trivial rfl)
 ·refine tr1 rfl (aJ (v := .d (.lit (.bool b1))) (aA rfl) rfl rfl) ?_
  refine aF ?_
  have h := Option.some.inj h
  subst h
  exact bI ⟨rfl, _, .one _, rfl, rfl⟩

theorem pX (players_0 : Int) (l_1 : List aL) {r : Bool} (h : iQ players_0 l_1 = some r) : Fn Try.prog 78 [.d (.lit (.int .i64 players_0)), .d (.sl 3 (l_1.map aH))] (.d (.lit (.bool r))) := by
 unfold iQ at h
 refine Fn.of_tr Try.func78 rfl (rs := [.tmp 4]) Try.results78 Try.ntmps78 (Nat.le_of_ble_eq_true rfl) ?_
 refine aG ?_
 refine aE ?_
 refine tr1 rfl (aJ (v := .d (.lit (.bool false))) (aA rfl) rfl rfl) ?_
 refine aF ?_
 refine aG ?_
 refine aG ?_
 refine aE ?_
 refine tr1 rfl (aJ (v := .d (.lit (.int .i64 0))) (aA rfl) rfl rfl) ?_
 refine aF ?_
 refine bQ ?_
 refine cH [0, 1] (fun (s1 : Int) => [(5, .d (.lit (.int .i64 s1)))]) (fun (s1 : Int) => []) (fun (k : Nat) (s1 : Int) => fT players_0 l_1 k s1) (fun _ => rfl) (0) h (aX [] rfl rfl (aO rfl (aY ⟨rfl, rfl, trivial⟩))) ?_
 rintro k2 i_0_1 h
 simp only [fT] at h
 refine aG ?_
 refine aG ?_
 refine aE ?_
 refine tr1 rfl (aD (v := .d (.lit (.int .i64 i_0_1))) (aA rfl) rfl rfl) ?_
 refine tr1 rfl (aD (v := .d (.sl 3 (l_1.map aH))) (aA rfl) rfl rfl) ?_
 refine tr1 rfl (dB (aA rfl) rfl eI.of) ?_
 refine tr1 rfl (bC (aA rfl) rfl rfl rfl) ?_
 refine aF ?_
 refine bH rfl (fun c3 => ?_) (fun c3 => ?_)
 ·have h := aU c3 h
  refine bE ?_
  refine aG ?_
  refine bQ ?_
  refine aG ?_
  obtain ⟨x4, h5, h⟩ := bind_some h
  obtain ⟨r6, h7, h⟩ := bind_some h
  obtain ⟨b8, h9, h⟩ := bind_some h
  obtain ⟨b13, h14, h⟩ := bind_some h
  obtain ⟨b20, h21, h⟩ := bind_some h
  refine fU mix 38 [0, 1, 5] [(49, .d (.lit (.bool b20)))] ?_ ?_
  ·refine bJ (!r6) (fun c10 => ?_) (fun c10 => ?_)
   ·have h9 := aU c10 h9
    have h9 := Option.some.inj h9
    subst h9
    have c15 : true = true := rfl
    have h14 := aU c15 h14
    have h14 := Option.some.inj h14
    subst h14
    have c22 : true = true := rfl
    have h21 := aU c22 h21
    have h21 := Option.some.inj h21
    subst h21
    refine ⟨[(12, 0, .d (.sl 3 (l_1.map aH))), (13, 1, .d (.lit (.int .i64 i_0_1))), (14, 2, .cp [.lit (.int .i64 x4.Player), .lit (.int .i64 x4.From), .lit (.int .i64 x4.To)]), (15, 3, .cp [.lit (.int .i64 x4.Player)]), (16, 4, .d (.lit (.int .i64 x4.Player))), (17, 5, .d (.lit (.int .i64 players_0))), (18, 6, .d (.lit (.int .i64 ((w64 (players_0 - 1)))))), (19, 7, .d (.lit (.bool r6))), (20, 8, .d (.lit (.bool (!r6)))), (21, 9, .d (.lit (.bool (!r6)))), (22, 10, .tup []), (23, 11, .tup []), (24, 12, .tup []), (25, 13, .tup []), (26, 14, .tup []), (27, 15, .tup []), (28, 16, .d (.lit (.bool true))), (29, 17, .d (.lit (.bool (true)))), (30, 18, .tup []), (31, 19, .tup []), (32, 20, .tup []), (33, 21, .tup []), (34, 22, .tup []), (35, 23, .tup []), (36, 24, .tup []), (37, 25, .tup []), (38, 26, .tup []), (39, 27, .tup []), (40, 28, .tup []), (41, 29, .d (.lit (.bool true))), (42, 30, .d (.lit (.bool (true)))), (43, 31, .tup []), (44, 32, .tup []), (45, 33, .tup []), (46, 34, .tup []), (47, 35, .tup []), (48, 36, .tup []), (49, 37, .d (.lit (.bool true)))], ?_, ?_⟩
    · exact ⟨by kernel_rfl, by kernel_rfl, by kernel_rfl, by kernel_rfl, by kernel_rfl, [([], []), ([], []), ([0, 1], []), ([2], []), ([3], []), ([], []), ([5], []), ([4, 6], []), ([7], []), ([8], []), ([9], []), ([9], []), ([9, 10, 11], []), ([9, 12], []), ([9, 13], []), ([9, 14], []), ([9, 15], []), ([16], []), ([17], []), ([17], []), ([17, 18, 19], []), ([17, 20], []), ([17, 21], []), ([17], []), ([17], []), ([17, 23, 24], []), ([17, 25], []), ([17, 26], []), ([17, 22, 27], []), ([17, 28], []), ([29], []), ([30], []), ([30], []), ([30, 31, 32], []), ([30, 33], []), ([30, 34], []), ([30, 35], []), ([30, 36], [])], by kernel_rfl, ⟨fun S hS => aK rfl (aQ rfl (aD (v := .d (.sl 3 (l_1.map aH))) (aA rfl) (aI hS rfl) rfl)),
      fun S hS => aK rfl (aQ rfl (aD (v := .d (.lit (.int .i64 i_0_1))) (aA rfl) (aI hS rfl) rfl)),
      fun S hS => aK rfl (aQ rfl (bY (aA rfl) (aI hS rfl) (aI hS rfl) eI.of (bN aH h5))),
      fun S hS => aK rfl (aQ rfl (cV (aA rfl) (aI hS rfl) lZ (es := [.lit (.int .i64 x4.Player)]) rfl)),
      fun S hS => aK rfl (aQ rfl (cK (aA rfl) (aI hS rfl) bM)),
      fun S hS => aK rfl (aQ rfl (aD (v := .d (.lit (.int .i64 players_0))) (aA rfl) (aI hS rfl) rfl)),
      fun S hS => aK rfl (aQ rfl (aZ (aA rfl) (aI hS rfl) rfl rfl)),
      fun S hS => aK rfl (aQ rfl (cC (aA rfl) (.func _ _ Try.call58) (ev2 (aI hS rfl) (ev2 rfl (ev2 (aI hS rfl) evn))) rfl (BVs.refl _ _) (eX _ _ _ h7) rfl)),
      fun S hS => aK rfl (aQ rfl (fO (aA rfl) (aI hS rfl))),
      fun S hS => aK rfl (aQ rfl (aD (v := .d (.lit (.bool (!r6)))) (aA rfl) (aI hS rfl) rfl)),
      fun S hS => aK rfl (bF rfl rfl (aA rfl) rfl (aA rfl) (aW hS rfl) c10),
      fun S hS => aK rfl (bF rfl rfl (aA rfl) rfl (aA rfl) (aW hS rfl) c10),
      fun S hS => aK rfl (bF rfl rfl (aA rfl) rfl (aA rfl) (aW hS rfl) c10),
      fun S hS => aK rfl (bF rfl rfl (aA rfl) rfl (aA rfl) (aW hS rfl) c10),
      fun S hS => aK rfl (bF rfl rfl (aA rfl) rfl (aA rfl) (aW hS rfl) c10),
      fun S hS => aK rfl (bF rfl rfl (aA rfl) rfl (aA rfl) (aW hS rfl) c10),
      fun S hS => aK rfl (aQ rfl (bW (v := .d (.lit (.bool true))) (aA rfl) (aI hS rfl) c10 rfl rfl)),
      fun S hS => aK rfl (aQ rfl (aD (v := .d (.lit (.bool (true)))) (aA rfl) (aI hS rfl) rfl)),
      fun S hS => aK rfl (bF rfl rfl (aA rfl) rfl (aA rfl) (aW hS rfl) c15),
      fun S hS => aK rfl (bF rfl rfl (aA rfl) rfl (aA rfl) (aW hS rfl) c15),
      fun S hS => aK rfl (bF rfl rfl (aA rfl) rfl (aA rfl) (aW hS rfl) c15),
      fun S hS => aK rfl (bF rfl rfl (aA rfl) rfl (aA rfl) (aW hS rfl) c15),
      fun S hS => aK rfl (bF rfl rfl (aA rfl) rfl (aA rfl) (aW hS rfl) c15),
      fun S hS => aK rfl (bF rfl rfl (aA rfl) rfl (aA rfl) (aW hS rfl) c15),
      fun S hS => aK rfl (bF rfl rfl (aA rfl) rfl (aA rfl) (aW hS rfl) c15),
      fun S hS => aK rfl (bF rfl rfl (aA rfl) rfl (aA rfl) (aW hS rfl) c15),
      fun S hS => aK rfl (bF rfl rfl (aA rfl) rfl (aA rfl) (aW hS rfl) c15),
      fun S hS => aK rfl (bF rfl rfl (aA rfl) rfl (aA rfl) (aW hS rfl) c15),
      fun S hS => aK rfl (bF rfl rfl (aA rfl) rfl (aA rfl) (aW hS rfl) c15),
      fun S hS => aK rfl (aQ rfl (bW (v := .d (.lit (.bool true))) (aA rfl) (aI hS rfl) c15 rfl rfl)),
      fun S hS => aK rfl (aQ rfl (aD (v := .d (.lit (.bool (true)))) (aA rfl) (aI hS rfl) rfl)),
      fun S hS => aK rfl (bF rfl rfl (aA rfl) rfl (aA rfl) (aW hS rfl) c22),
      fun S hS => aK rfl (bF rfl rfl (aA rfl) rfl (aA rfl) (aW hS rfl) c22),
      fun S hS => aK rfl (bF rfl rfl (aA rfl) rfl (aA rfl) (aW hS rfl) c22),
      fun S hS => aK rfl (bF rfl rfl (aA rfl) rfl (aA rfl) (aW hS rfl) c22),
      fun S hS => aK rfl (bF rfl rfl (aA rfl) rfl (aA rfl) (aW hS rfl) c22),
      fun S hS => aK rfl (bF rfl rfl (aA rfl) rfl (aA rfl) (aW hS rfl) c22),
      fun S hS => aK rfl (aQ rfl (bW (v := .d (.lit (.bool true))) (aA rfl) (aI hS rfl) c22 rfl rfl)), trivial⟩⟩
    · exact dX (aO rfl (aY ⟨rfl, rfl, rfl, trivial⟩))
   ·have h9 := aT c10 h9
    obtain ⟨x11, h12, h9⟩ := bind_some h9
    have h9 := Option.some.inj h9
    subst h9
    refine bJ (decide (x11.From < 0)) (fun c15 => ?_) (fun c15 => ?_)
    ·have h14 := aU c15 h14
     have h14 := Option.some.inj h14
     subst h14
     have c22 : true = true := rfl
     have h21 := aU c22 h21
     have h21 := Option.some.inj h21
     subst h21
     refine ⟨[(12, 0, .d (.sl 3 (l_1.map aH))), (13, 1, .d (.lit (.int .i64 i_0_1))), (14, 2, .cp [.lit (.int .i64 x4.Player), .lit (.int .i64 x4.From), .lit (.int .i64 x4.To)]), (15, 3, .cp [.lit (.int .i64 x4.Player)]), (16, 4, .d (.lit (.int .i64 x4.Player))), (17, 5, .d (.lit (.int .i64 players_0))), (18, 6, .d (.lit (.int .i64 ((w64 (players_0 - 1)))))), (19, 7, .d (.lit (.bool r6))), (20, 8, .d (.lit (.bool (!r6)))), (21, 9, .d (.lit (.bool (!r6)))), (22, 10, .d (.sl 3 (l_1.map aH))), (23, 11, .d (.lit (.int .i64 i_0_1))), (24, 12, .cp [.lit (.int .i64 x11.Player), .lit (.int .i64 x11.From), .lit (.int .i64 x11.To)]), (25, 13, .cp [.lit (.int .i64 x11.From)]), (26, 14, .d (.lit (.int .i64 x11.From))), (27, 15, .d (.lit (.bool ((decide (x11.From < 0)))))), (28, 16, .d (.lit (.bool ((decide (x11.From < 0)))))), (29, 17, .d (.lit (.bool (decide (x11.From < 0))))), (30, 18, .tup []), (31, 19, .tup []), (32, 20, .tup []), (33, 21, .tup []), (34, 22, .tup []), (35, 23, .tup []), (36, 24, .tup []), (37, 25, .tup []), (38, 26, .tup []), (39, 27, .tup []), (40, 28, .tup []), (41, 29, .d (.lit (.bool true))), (42, 30, .d (.lit (.bool (true)))), (43, 31, .tup []), (44, 32, .tup []), (45, 33, .tup []), (46, 34, .tup []), (47, 35, .tup []), (48, 36, .tup []), (49, 37, .d (.lit (.bool true)))], ?_, ?_⟩
     · exact ⟨by kernel_rfl, by kernel_rfl, by kernel_rfl, by kernel_rfl, by kernel_rfl, [([], []), ([], []), ([0, 1], []), ([2], []), ([3], []), ([], []), ([5], []), ([4, 6], []), ([7], []), ([8], []), ([9], []), ([9], []), ([9, 10, 11], []), ([9, 12], []), ([9, 13], []), ([9, 14], []), ([9, 15], []), ([16], []), ([17], []), ([17], []), ([17, 18, 19], []), ([17, 20], []), ([17, 21], []), ([17], []), ([17], []), ([17, 23, 24], []), ([17, 25], []), ([17, 26], []), ([17, 22, 27], []), ([17, 28], []), ([29], []), ([30], []), ([30], []), ([30, 31, 32], []), ([30, 33], []), ([30, 34], []), ([30, 35], []), ([30, 36], [])], by kernel_rfl, ⟨fun S hS => aK rfl (aQ rfl (aD (v := .d (.sl 3 (l_1.map aH))) (aA rfl) (aI hS rfl) rfl)),
      fun S hS => aK rfl (aQ rfl (aD (v := .d (.lit (.int .i64 i_0_1))) (aA rfl) (aI hS rfl) rfl)),
      fun S hS => aK rfl (aQ rfl (bY (aA rfl) (aI hS rfl) (aI hS rfl) eI.of (bN aH h5))),
      fun S hS => aK rfl (aQ rfl (cV (aA rfl) (aI hS rfl) lZ (es := [.lit (.int .i64 x4.Player)]) rfl)),
      fun S hS => aK rfl (aQ rfl (cK (aA rfl) (aI hS rfl) bM)),
      fun S hS => aK rfl (aQ rfl (aD (v := .d (.lit (.int .i64 players_0))) (aA rfl) (aI hS rfl) rfl)),
      fun S hS => aK rfl (aQ rfl (aZ (aA rfl) (aI hS rfl) rfl rfl)),
      fun S hS => aK rfl (aQ rfl (cC (aA rfl) (.func _ _ Try.call58) (ev2 (aI hS rfl) (ev2 rfl (ev2 (aI hS rfl) evn))) rfl (BVs.refl _ _) (eX _ _ _ h7) rfl)),
      fun S hS => aK rfl (aQ rfl (fO (aA rfl) (aI hS rfl))),
      fun S hS => aK rfl (aQ rfl (aD (v := .d (.lit (.bool (!r6)))) (aA rfl) (aI hS rfl) rfl)),
      fun S hS => aK rfl (bK rfl rfl (aA rfl) (aW hS rfl) c10 (aD (v := .d (.sl 3 (l_1.map aH))) (aA rfl) (aI hS rfl) rfl)),
      fun S hS => aK rfl (bK rfl rfl (aA rfl) (aW hS rfl) c10 (aD (v := .d (.lit (.int .i64 i_0_1))) (aA rfl) (aI hS rfl) rfl)),
      fun S hS => aK rfl (bK rfl rfl (aA rfl) (aW hS rfl) c10 (bY (aA rfl) (aI hS rfl) (aI hS rfl) eI.of (bN aH h12))),
      fun S hS => aK rfl (bK rfl rfl (aA rfl) (aW hS rfl) c10 (cV (aA rfl) (aI hS rfl) kK (es := [.lit (.int .i64 x11.From)]) rfl)),
      fun S hS => aK rfl (bK rfl rfl (aA rfl) (aW hS rfl) c10 (cK (aA rfl) (aI hS rfl) bM)),
      fun S hS => aK rfl (bK rfl rfl (aA rfl) (aW hS rfl) c10 (bC (aA rfl) (aI hS rfl) rfl rfl)),
      fun S hS => aK rfl (aQ rfl (bT (v := .d (.lit (.bool ((decide (x11.From < 0)))))) (aA rfl) (aI hS rfl) c10 (aI hS rfl) rfl)),
      fun S hS => aK rfl (aQ rfl (aD (v := .d (.lit (.bool (decide (x11.From < 0))))) (aA rfl) (aI hS rfl) rfl)),
      fun S hS => aK rfl (bF rfl rfl (aA rfl) rfl (aA rfl) (aW hS rfl) c15),
      fun S hS => aK rfl (bF rfl rfl (aA rfl) rfl (aA rfl) (aW hS rfl) c15),
      fun S hS => aK rfl (bF rfl rfl (aA rfl) rfl (aA rfl) (aW hS rfl) c15),
      fun S hS => aK rfl (bF rfl rfl (aA rfl) rfl (aA rfl) (aW hS rfl) c15),
      fun S hS => aK rfl (bF rfl rfl (aA rfl) rfl (aA rfl) (aW hS rfl) c15),
      fun S hS => aK rfl (bF rfl rfl (aA rfl) rfl (aA rfl) (aW hS rfl) c15),
      fun S hS => aK rfl (bF rfl rfl (aA rfl) rfl (aA rfl) (aW hS rfl) c15),
      fun S hS => aK rfl (bF rfl rfl (aA rfl) rfl (aA rfl) (aW hS rfl) c15),
      fun S hS => aK rfl (bF rfl rfl (aA rfl) rfl (aA rfl) (aW hS rfl) c15),
      fun S hS => aK rfl (bF rfl rfl (aA rfl) rfl (aA rfl) (aW hS rfl) c15),
      fun S hS => aK rfl (bF rfl rfl (aA rfl) rfl (aA rfl) (aW hS rfl) c15),
      fun S hS => aK rfl (aQ rfl (bW (v := .d (.lit (.bool true))) (aA rfl) (aI hS rfl) c15 rfl rfl)),
      fun S hS => aK rfl (aQ rfl (aD (v := .d (.lit (.bool (true)))) (aA rfl) (aI hS rfl) rfl)),
      fun S hS => aK rfl (bF rfl rfl (aA rfl) rfl (aA rfl) (aW hS rfl) c22),
      fun S hS => aK rfl (bF rfl rfl (aA rfl) rfl (aA rfl) (aW hS rfl) c22),
      fun S hS => aK rfl (bF rfl rfl (aA rfl) rfl (aA rfl) (aW hS rfl) c22),
      fun S hS => aK rfl (bF rfl rfl (aA rfl) rfl (aA rfl) (aW hS rfl) c22),
      fun S hS => aK rfl (bF rfl rfl (aA rfl) rfl (aA rfl) (aW hS rfl) c22),
      fun S hS => aK rfl (bF rfl rfl (aA rfl) rfl (aA rfl) (aW hS rfl) c22),
      fun S hS => aK rfl (aQ rfl (bW (v := .d (.lit (.bool true))) (aA rfl) (aI hS rfl) c22 rfl rfl)), trivial⟩⟩
     · exact dX (aO rfl (aY ⟨rfl, rfl, rfl, trivial⟩))
    ·have h14 := aT c15 h14
     obtain ⟨x16, h17, h14⟩ := bind_some h14
     obtain ⟨x18, h19, h14⟩ := bind_some h14
     have h14 := Option.some.inj h14
     subst h14
     refine bJ (decide (x18.To < x16.From)) (fun c22 => ?_) (fun c22 => ?_)
     ·have h21 := aU c22 h21
      have h21 := Option.some.inj h21
      subst h21
      refine ⟨[(12, 0, .d (.sl 3 (l_1.map aH))), (13, 1, .d (.lit (.int .i64 i_0_1))), (14, 2, .cp [.lit (.int .i64 x4.Player), .lit (.int .i64 x4.From), .lit (.int .i64 x4.To)]), (15, 3, .cp [.lit (.int .i64 x4.Player)]), (16, 4, .d (.lit (.int .i64 x4.Player))), (17, 5, .d (.lit (.int .i64 players_0))), (18, 6, .d (.lit (.int .i64 ((w64 (players_0 - 1)))))), (19, 7, .d (.lit (.bool r6))), (20, 8, .d (.lit (.bool (!r6)))), (21, 9, .d (.lit (.bool (!r6)))), (22, 10, .d (.sl 3 (l_1.map aH))), (23, 11, .d (.lit (.int .i64 i_0_1))), (24, 12, .cp [.lit (.int .i64 x11.Player), .lit (.int .i64 x11.From), .lit (.int .i64 x11.To)]), (25, 13, .cp [.lit (.int .i64 x11.From)]), (26, 14, .d (.lit (.int .i64 x11.From))), (27, 15, .d (.lit (.bool ((decide (x11.From < 0)))))), (28, 16, .d (.lit (.bool ((decide (x11.From < 0)))))), (29, 17, .d (.lit (.bool (decide (x11.From < 0))))), (30, 18, .d (.sl 3 (l_1.map aH))), (31, 19, .d (.lit (.int .i64 i_0_1))), (32, 20, .cp [.lit (.int .i64 x16.Player), .lit (.int .i64 x16.From), .lit (.int .i64 x16.To)]), (33, 21, .cp [.lit (.int .i64 x16.From)]), (34, 22, .d (.lit (.int .i64 x16.From))), (35, 23, .d (.sl 3 (l_1.map aH))), (36, 24, .d (.lit (.int .i64 i_0_1))), (37, 25, .cp [.lit (.int .i64 x18.Player), .lit (.int .i64 x18.From), .lit (.int .i64 x18.To)]), (38, 26, .cp [.lit (.int .i64 x18.To)]), (39, 27, .d (.lit (.int .i64 x18.To))), (40, 28, .d (.lit (.bool ((decide (x18.To < x16.From)))))), (41, 29, .d (.lit (.bool ((decide (x18.To < x16.From)))))), (42, 30, .d (.lit (.bool (decide (x18.To < x16.From))))), (43, 31, .tup []), (44, 32, .tup []), (45, 33, .tup []), (46, 34, .tup []), (47, 35, .tup []), (48, 36, .tup []), (49, 37, .d (.lit (.bool true)))], ?_, ?_⟩
      · exact ⟨by kernel_rfl, by kernel_rfl, by kernel_rfl, by kernel_rfl, by kernel_rfl, [([], []), ([], []), ([0, 1], []), ([2], []), ([3], []), ([], []), ([5], []), ([4, 6], []), ([7], []), ([8], []), ([9], []), ([9], []), ([9, 10, 11], []), ([9, 12], []), ([9, 13], []), ([9, 14], []), ([9, 15], []), ([16], []), ([17], []), ([17], []), ([17, 18, 19], []), ([17, 20], []), ([17, 21], []), ([17], []), ([17], []), ([17, 23, 24], []), ([17, 25], []), ([17, 26], []), ([17, 22, 27], []), ([17, 28], []), ([29], []), ([30], []), ([30], []), ([30, 31, 32], []), ([30, 33], []), ([30, 34], []), ([30, 35], []), ([30, 36], [])], by kernel_rfl, ⟨fun S hS => aK rfl (aQ rfl (aD (v := .d (.sl 3 (l_1.map aH))) (aA rfl) (aI hS rfl) rfl)),
      fun S hS => aK rfl (aQ rfl (aD (v := .d (.lit (.int .i64 i_0_1))) (aA rfl) (aI hS rfl) rfl)),
      fun S hS => aK rfl (aQ rfl (bY (aA rfl) (aI hS rfl) (aI hS rfl) eI.of (bN aH h5))),
      fun S hS => aK rfl (aQ rfl (cV (aA rfl) (aI hS rfl) lZ (es := [.lit (.int .i64 x4.Player)]) rfl)),
      fun S hS => aK rfl (aQ rfl (cK (aA rfl) (aI hS rfl) bM)),
      fun S hS => aK rfl (aQ rfl (aD (v := .d (.lit (.int .i64 players_0))) (aA rfl) (aI hS rfl) rfl)),
      fun S hS => aK rfl (aQ rfl (aZ (aA rfl) (aI hS rfl) rfl rfl)),
      fun S hS => aK rfl (aQ rfl (cC (aA rfl) (.func _ _ Try.call58) (ev2 (aI hS rfl) (ev2 rfl (ev2 (aI hS rfl) evn))) rfl (BVs.refl _ _) (eX _ _ _ h7) rfl)),
      fun S hS => aK rfl (aQ rfl (fO (aA rfl) (aI hS rfl))),
      fun S hS => aK rfl (aQ rfl (aD (v := .d (.lit (.bool (!r6)))) (aA rfl) (aI hS rfl) rfl)),
      fun S hS => aK rfl (bK rfl rfl (aA rfl) (aW hS rfl) c10 (aD (v := .d (.sl 3 (l_1.map aH))) (aA rfl) (aI hS rfl) rfl)),
      fun S hS => aK rfl (bK rfl rfl (aA rfl) (aW hS rfl) c10 (aD (v := .d (.lit (.int .i64 i_0_1))) (aA rfl) (aI hS rfl) rfl)),
      fun S hS => aK rfl (bK rfl rfl (aA rfl) (aW hS rfl) c10 (bY (aA rfl) (aI hS rfl) (aI hS rfl) eI.of (bN aH h12))),
      fun S hS => aK rfl (bK rfl rfl (aA rfl) (aW hS rfl) c10 (cV (aA rfl) (aI hS rfl) kK (es := [.lit (.int .i64 x11.From)]) rfl)),
      fun S hS => aK rfl (bK rfl rfl (aA rfl) (aW hS rfl) c10 (cK (aA rfl) (aI hS rfl) bM)),
      fun S hS => aK rfl (bK rfl rfl (aA rfl) (aW hS rfl) c10 (bC (aA rfl) (aI hS rfl) rfl rfl)),
      fun S hS => aK rfl (aQ rfl (bT (v := .d (.lit (.bool ((decide (x11.From < 0)))))) (aA rfl) (aI hS rfl) c10 (aI hS rfl) rfl)),
      fun S hS => aK rfl (aQ rfl (aD (v := .d (.lit (.bool (decide (x11.From < 0))))) (aA rfl) (aI hS rfl) rfl)),
      fun S hS => aK rfl (bK rfl rfl (aA rfl) (aW hS rfl) c15 (aD (v := .d (.sl 3 (l_1.map aH))) (aA rfl) (aI hS rfl) rfl)),
      fun S hS => aK rfl (bK rfl rfl (aA rfl) (aW hS rfl) c15 (aD (v := .d (.lit (.int .i64 i_0_1))) (aA rfl) (aI hS rfl) rfl)),
      fun S hS => aK rfl (bK rfl rfl (aA rfl) (aW hS rfl) c15 (bY (aA rfl) (aI hS rfl) (aI hS rfl) eI.of (bN aH h17))),
      fun S hS => aK rfl (bK rfl rfl (aA rfl) (aW hS rfl) c15 (cV (aA rfl) (aI hS rfl) kK (es := [.lit (.int .i64 x16.From)]) rfl)),
      fun S hS => aK rfl (bK rfl rfl (aA rfl) (aW hS rfl) c15 (cK (aA rfl) (aI hS rfl) bM)),
      fun S hS => aK rfl (bK rfl rfl (aA rfl) (aW hS rfl) c15 (aD (v := .d (.sl 3 (l_1.map aH))) (aA rfl) (aI hS rfl) rfl)),
      fun S hS => aK rfl (bK rfl rfl (aA rfl) (aW hS rfl) c15 (aD (v := .d (.lit (.int .i64 i_0_1))) (aA rfl) (aI hS rfl) rfl)),
      fun S hS => aK rfl (bK rfl rfl (aA rfl) (aW hS rfl) c15 (bY (aA rfl) (aI hS rfl) (aI hS rfl) eI.of (bN aH h19))),
      fun S hS => aK rfl (bK rfl rfl (aA rfl) (aW hS rfl) c15 (cV (aA rfl) (aI hS rfl) mA (es := [.lit (.int .i64 x18.To)]) rfl)),
      fun S hS => aK rfl (bK rfl rfl (aA rfl) (aW hS rfl) c15 (cK (aA rfl) (aI hS rfl) bM)),
      fun S hS => aK rfl (bK rfl rfl (aA rfl) (aW hS rfl) c15 (bC (aA rfl) (aI hS rfl) (aI hS rfl) rfl)),
      fun S hS => aK rfl (aQ rfl (bT (v := .d (.lit (.bool ((decide (x18.To < x16.From)))))) (aA rfl) (aI hS rfl) c15 (aI hS rfl) rfl)),
      fun S hS => aK rfl (aQ rfl (aD (v := .d (.lit (.bool (decide (x18.To < x16.From))))) (aA rfl) (aI hS rfl) rfl)),
      fun S hS => aK rfl (bF rfl rfl (aA rfl) rfl (aA rfl) (aW hS rfl) c22),
      fun S hS => aK rfl (bF rfl rfl (aA rfl) rfl (aA rfl) (aW hS rfl) c22),
      fun S hS => aK rfl (bF rfl rfl (aA rfl) rfl (aA rfl) (aW hS rfl) c22),
      fun S hS => aK rfl (bF rfl rfl (aA rfl) rfl (aA rfl) (aW hS rfl) c22),
      fun S hS => aK rfl (bF rfl rfl (aA rfl) rfl (aA rfl) (aW hS rfl) c22),
      fun S hS => aK rfl (bF rfl rfl (aA rfl) rfl (aA rfl) (aW hS rfl) c22),
      fun S hS => aK rfl (aQ rfl (bW (v := .d (.lit (.bool true))) (aA rfl) (aI hS rfl) c22 rfl rfl)), trivial⟩⟩
      · exact dX (aO rfl (aY ⟨rfl, rfl, rfl, trivial⟩))
     ·have h21 := aT c22 h21
      obtain ⟨x23, h24, h21⟩ := bind_some h21
      have h21 := Option.some.inj h21
      subst h21
      refine ⟨[(12, 0, .d (.sl 3 (l_1.map aH))), (13, 1, .d (.lit (.int .i64 i_0_1))), (14, 2, .cp [.lit (.int .i64 x4.Player), .lit (.int .i64 x4.From), .lit (.int .i64 x4.To)]), (15, 3, .cp [.lit (.int .i64 x4.Player)]), (16, 4, .d (.lit (.int .i64 x4.Player))), (17, 5, .d (.lit (.int .i64 players_0))), (18, 6, .d (.lit (.int .i64 ((w64 (players_0 - 1)))))), (19, 7, .d (.lit (.bool r6))), (20, 8, .d (.lit (.bool (!r6)))), (21, 9, .d (.lit (.bool (!r6)))), (22, 10, .d (.sl 3 (l_1.map aH))), (23, 11, .d (.lit (.int .i64 i_0_1))), (24, 12, .cp [.lit (.int .i64 x11.Player), .lit (.int .i64 x11.From), .lit (.int .i64 x11.To)]), (25, 13, .cp [.lit (.int .i64 x11.From)]), (26, 14, .d (.lit (.int .i64 x11.From))), (27, 15, .d (.lit (.bool ((decide (x11.From < 0)))))), (28, 16, .d (.lit (.bool ((decide (x11.From < 0)))))), (29, 17, .d (.lit (.bool (decide (x11.From < 0))))), (30, 18, .d (.sl 3 (l_1.map aH))), (31, 19, .d (.lit (.int .i64 i_0_1))), (32, 20, .cp [.lit (.int .i64 x16.Player), .lit (.int .i64 x16.From), .lit (.int .i64 x16.To)]), (33, 21, .cp [.lit (.int .i64 x16.From)]), (34, 22, .d (.lit (.int .i64 x16.From))), (35, 23, .d (.sl 3 (l_1.map aH))), (36, 24, .d (.lit (.int .i64 i_0_1))), (37, 25, .cp [.lit (.int .i64 x18.Player), .lit (.int .i64 x18.From), .lit (.int .i64 x18.To)]), (38, 26, .cp [.lit (.int .i64 x18.To)]), (39, 27, .d (.lit (.int .i64 x18.To))), (40, 28, .d (.lit (.bool ((decide (x18.To < x16.From)))))), (41, 29, .d (.lit (.bool ((decide (x18.To < x16.From)))))), (42, 30, .d (.lit (.bool (decide (x18.To < x16.From))))), (43, 31, .d (.sl 3 (l_1.map aH))), (44, 32, .d (.lit (.int .i64 i_0_1))), (45, 33, .cp [.lit (.int .i64 x23.Player), .lit (.int .i64 x23.From), .lit (.int .i64 x23.To)]), (46, 34, .cp [.lit (.int .i64 x23.To)]), (47, 35, .d (.lit (.int .i64 x23.To))), (48, 36, .d (.lit (.bool ((decide (400 < x23.To)))))), (49, 37, .d (.lit (.bool ((decide (400 < x23.To))))))], ?_, ?_⟩
      · exact ⟨by kernel_rfl, by kernel_rfl, by kernel_rfl, by kernel_rfl, by kernel_rfl, [([], []), ([], []), ([0, 1], []), ([2], []), ([3], []), ([], []), ([5], []), ([4, 6], []), ([7], []), ([8], []), ([9], []), ([9], []), ([9, 10, 11], []), ([9, 12], []), ([9, 13], []), ([9, 14], []), ([9, 15], []), ([16], []), ([17], []), ([17], []), ([17, 18, 19], []), ([17, 20], []), ([17, 21], []), ([17], []), ([17], []), ([17, 23, 24], []), ([17, 25], []), ([17, 26], []), ([17, 22, 27], []), ([17, 28], []), ([29], []), ([30], []), ([30], []), ([30, 31, 32], []), ([30, 33], []), ([30, 34], []), ([30, 35], []), ([30, 36], [])], by kernel_rfl, ⟨fun S hS => aK rfl (aQ rfl (aD (v := .d (.sl 3 (l_1.map aH))) (aA rfl) (aI hS rfl) rfl)),
      fun S hS => aK rfl (aQ rfl (aD (v := .d (.lit (.int .i64 i_0_1))) (aA rfl) (aI hS rfl) rfl)),
      fun S hS => aK rfl (aQ rfl (bY (aA rfl) (aI hS rfl) (aI hS rfl) eI.of (bN aH h5))),
      fun S hS => aK rfl (aQ rfl (cV (aA rfl) (aI hS rfl) lZ (es := [.lit (.int .i64 x4.Player)]) rfl)),
      fun S hS => aK rfl (aQ rfl (cK (aA rfl) (aI hS rfl) bM)),
      fun S hS => aK rfl (aQ rfl (aD (v := .d (.lit (.int .i64 players_0))) (aA rfl) (aI hS rfl) rfl)),
      fun S hS => aK rfl (aQ rfl (aZ (aA rfl) (aI hS rfl) rfl rfl)),
      fun S hS => aK rfl (aQ rfl (cC (aA rfl) (.func _ _ Try.call58) (ev2 (aI hS rfl) (ev2 rfl (ev2 (aI hS rfl) evn))) rfl (BVs.refl _ _) (eX _ _ _ h7) rfl)),
      fun S hS => aK rfl (aQ rfl (fO (aA rfl) (aI hS rfl))),
      fun S hS => aK rfl (aQ rfl (aD (v := .d (.lit (.bool (!r6)))) (aA rfl) (aI hS rfl) rfl)),
      fun S hS => aK rfl (bK rfl rfl (aA rfl) (aW hS rfl) c10 (aD (v := .d (.sl 3 (l_1.map aH))) (aA rfl) (aI hS rfl) rfl)),
      fun S hS => aK rfl (bK rfl rfl (aA rfl) (aW hS rfl) c10 (aD (v := .d (.lit (.int .i64 i_0_1))) (aA rfl) (aI hS rfl) rfl)),
      fun S hS => aK rfl (bK rfl rfl (aA rfl) (aW hS rfl) c10 (bY (aA rfl) (aI hS rfl) (aI hS rfl) eI.of (bN aH h12))),
      fun S hS => aK rfl (bK rfl rfl (aA rfl) (aW hS rfl) c10 (cV (aA rfl) (aI hS rfl) kK (es := [.lit (.int .i64 x11.From)]) rfl)),
      fun S hS => aK rfl (bK rfl rfl (aA rfl) (aW hS rfl) c10 (cK (aA rfl) (aI hS rfl) bM)),
      fun S hS => aK rfl (bK rfl rfl (aA rfl) (aW hS rfl) c10 (bC (aA rfl) (aI hS rfl) rfl rfl)),
      fun S hS => aK rfl (aQ rfl (bT (v := .d (.lit (.bool ((decide (x11.From < 0)))))) (aA rfl) (aI hS rfl) c10 (aI hS rfl) rfl)),
      fun S hS => aK rfl (aQ rfl (aD (v := .d (.lit (.bool (decide (x11.From < 0))))) (aA rfl) (aI hS rfl) rfl)),
      fun S hS => aK rfl (bK rfl rfl (aA rfl) (aW hS rfl) c15 (aD (v := .d (.sl 3 (l_1.map aH))) (aA rfl) (aI hS rfl) rfl)),
      fun S hS => aK rfl (bK rfl rfl (aA rfl) (aW hS rfl) c15 (aD (v := .d (.lit (.int .i64 i_0_1))) (aA rfl) (aI hS rfl) rfl)),
      fun S hS => aK rfl (bK rfl rfl (aA rfl) (aW hS rfl) c15 (bY (aA rfl) (aI hS rfl) (aI hS rfl) eI.of (bN aH h17))),
      fun S hS => aK rfl (bK rfl rfl (aA rfl) (aW hS rfl) c15 (cV (aA rfl) (aI hS rfl) kK (es := [.lit (.int .i64 x16.From)]) rfl)),
      fun S hS => aK rfl (bK rfl rfl (aA rfl) (aW hS rfl) c15 (cK (aA rfl) (aI hS rfl) bM)),
      fun S hS => aK rfl (bK rfl rfl (aA rfl) (aW hS rfl) c15 (aD (v := .d (.sl 3 (l_1.map aH))) (aA rfl) (aI hS rfl) rfl)),
      fun S hS => aK rfl (bK rfl rfl (aA rfl) (aW hS rfl) c15 (aD (v := .d (.lit (.int .i64 i_0_1))) (aA rfl) (aI hS rfl) rfl)),
      fun S hS => aK rfl (bK rfl rfl (aA rfl) (aW hS rfl) c15 (bY (aA rfl) (aI hS rfl) (aI hS rfl) eI.of (bN aH h19))),
      fun S hS => aK rfl (bK rfl rfl (aA rfl) (aW hS rfl) c15 (cV (aA rfl) (aI hS rfl) mA (es := [.lit (.int .i64 x18.To)]) rfl)),
      fun S hS => aK rfl (bK rfl rfl (aA rfl) (aW hS rfl) c15 (cK (aA rfl) (aI hS rfl) bM)),
      fun S hS => aK rfl (bK rfl rfl (aA rfl) (aW hS rfl) c15 (bC (aA rfl) (aI hS rfl) (aI hS rfl) rfl)),
      fun S hS => aK rfl (aQ rfl (bT (v := .d (.lit (.bool ((decide (x18.To < x16.From)))))) (aA rfl) (aI hS rfl) c15 (aI hS rfl) rfl)),
      fun S hS => aK rfl (aQ rfl (aD (v := .d (.lit (.bool (decide (x18.To < x16.From))))) (aA rfl) (aI hS rfl) rfl)),
      fun S hS => aK rfl (bK rfl rfl (aA rfl) (aW hS rfl) c22 (aD (v := .d (.sl 3 (l_1.map aH))) (aA rfl) (aI hS rfl) rfl)),
      fun S hS => aK rfl (bK rfl rfl (aA rfl) (aW hS rfl) c22 (aD (v := .d (.lit (.int .i64 i_0_1))) (aA rfl) (aI hS rfl) rfl)),
      fun S hS => aK rfl (bK rfl rfl (aA rfl) (aW hS rfl) c22 (bY (aA rfl) (aI hS rfl) (aI hS rfl) eI.of (bN aH h24))),
      fun S hS => aK rfl (bK rfl rfl (aA rfl) (aW hS rfl) c22 (cV (aA rfl) (aI hS rfl) mA (es := [.lit (.int .i64 x23.To)]) rfl)),
      fun S hS => aK rfl (bK rfl rfl (aA rfl) (aW hS rfl) c22 (cK (aA rfl) (aI hS rfl) bM)),
      fun S hS => aK rfl (bK rfl rfl (aA rfl) (aW hS rfl) c22 (bC (aA rfl) (aI hS rfl) rfl rfl)),
      fun S hS => aK rfl (aQ rfl (bT (v := .d (.lit (.bool ((decide (400 < x23.To)))))) (aA rfl) (aI hS rfl) c22 (aI hS rfl) rfl)), trivial⟩⟩
      · exact dX (aO rfl (aY ⟨rfl, rfl, rfl, trivial⟩))
  ·refine aF ?_
   refine bH rfl (fun c25 => ?_) (fun c25 => ?_)
   ·have h := aU c25 h
    refine aG ?_
    refine aE ?_
    refine tr1 rfl (aJ (v := .d (.lit (.bool false))) (aA rfl) rfl rfl) ?_
    refine aF ?_
    have h := Option.some.inj h
    subst h
    exact bI ⟨rfl, _, .one _, rfl, rfl⟩
   ·have h := aT c25 h
    refine eF ?_
    refine aE ?_
    refine tr1 rfl (aD (v := .d (.lit (.int .i64 i_0_1))) (aA rfl) rfl rfl) ?_
    refine tr1 rfl (aZ (aA rfl) rfl rfl rfl) ?_
    refine tr1 rfl (aJ (v := .d (.lit (.int .i64 ((w64 (i_0_1 + 1)))))) (aA rfl) rfl rfl) ?_
    refine aF ?_
    exact ⟨(w64 (i_0_1 + 1)), h, aX [] rfl rfl (aO rfl (aY ⟨rfl, rfl, trivial⟩))⟩
 ·have h := aT c3 h
  refine cQ ?_
  refine .inl ⟨rfl, ?_⟩
  simp only [mI] at h
  refine aG ?_
  refine aE ?_
  refine tr1 rfl (aD (v := .d (.sl 3 (l_1.map aH))) (aA rfl) rfl rfl) ?_
  refine tr1 rfl (dB (aA rfl) rfl eI.of) ?_
  refine tr1 rfl (bC (aA rfl) rfl rfl rfl) ?_
  refine tr1 rfl (aJ (v := .d (.lit (.bool ((decide ((l_1.length : Int) ≤ 8)))))) (aA rfl) rfl rfl) ?_
  refine aF ?_
  have h := Option.some.inj h
  subst h
  exact bI ⟨rfl, _, .one _, rfl, rfl⟩

theorem vW (players_0 : Int) (r_1 : aC) {r : Bool} (h : kG players_0 r_1 = some r) : Fn Try.prog 79 [.d (.lit (.int .i64 players_0)), .agg (aB r_1)] (.d (.lit (.bool r))) := by
 unfold kG at h
 refine Fn.of_tr Try.func79 rfl (rs := [.tmp 4]) Try.results79 Try.ntmps79 (Nat.le_of_ble_eq_true rfl) ?_
 refine aG ?_
 refine aE ?_
 refine bR rfl (fX (v := .agg (aB r_1)) (aA rfl) rfl rfl rfl) ?_
 rintro _ ⟨b1, rfl⟩
 refine tr1 rfl (aJ (v := .d (.lit (.bool false))) (aA rfl) rfl rfl) ?_
 refine aF ?_
 refine aG ?_
 refine aE ?_
 refine tr1 rfl (aS (aA rfl) rfl jR) ?_
 refine tr1 rfl (aV (aA rfl) rfl (i := 0) rfl rfl bM) ?_
 obtain ⟨r2, h3, h⟩ := bind_some h
 refine tr1 rfl (cC (aA rfl) (.func _ _ Try.call58) rfl rfl (BVs.refl _ _) (eX _ _ _ h3) rfl) ?_
 refine tr1 rfl (aD (v := .d (.lit (.bool r2))) (aA rfl) rfl rfl) ?_
 obtain ⟨b4, h5, h⟩ := bind_some h
 refine cA 6 [3] 14 b4 ?_ ?_
 ·refine bJ (r2) (fun c16 => ?_) (fun c16 => ?_)
  ·have h5 := aU c16 h5
   refine aP rfl rfl (aA rfl) rfl c16 (aS (aA rfl) rfl qL) ?_
   refine aP rfl rfl (aA rfl) rfl c16 (aV (aA rfl) rfl (i := 0) rfl rfl bM) ?_
   refine aP rfl rfl (aA rfl) rfl c16 (aD (v := .d (.lit (.int .i64 players_0))) (aA rfl) rfl rfl) ?_
   refine aP rfl rfl (aA rfl) rfl c16 (aZ (aA rfl) rfl rfl rfl) ?_
   obtain ⟨r17, h18, h5⟩ := bind_some h5
   refine aP rfl rfl (aA rfl) rfl c16 (cC (aA rfl) (.func _ _ Try.call58) rfl rfl (BVs.refl _ _) (eX _ _ _ h18) rfl) ?_
   refine tr1 rfl (bW (v := .d (.lit (.bool r17))) (aA rfl) rfl c16 rfl rfl) ?_
   have h5 := Option.some.inj h5
   subst h5
   refine aF (bB rfl ⟨rfl, trivial⟩ rfl)
  ·have h5 := aT c16 h5
   refine aR rfl rfl (aA rfl) rfl (aA rfl) rfl c16 ?_
   refine aR rfl rfl (aA rfl) rfl (aA rfl) rfl c16 ?_
   refine aR rfl rfl (aA rfl) rfl (aA rfl) rfl c16 ?_
   refine aR rfl rfl (aA rfl) rfl (aA rfl) rfl c16 ?_
   refine aR rfl rfl (aA rfl) rfl (aA rfl) rfl c16 ?_
   refine tr1 rfl (bT (v := .d (.lit (.bool false))) (aA rfl) rfl c16 rfl rfl) ?_
   have h5 := Option.some.inj h5
   subst h5
   refine aF (bB rfl ⟨rfl, trivial⟩ rfl)
 ·refine tr1 rfl (aD (v := .d (.lit (.bool b4))) (aA rfl) rfl rfl) ?_
  obtain ⟨b6, h7, h⟩ := bind_some h
  refine cA 4 [3] 19 b6 ?_ ?_
  ·refine bJ (b4) (fun c13 => ?_) (fun c13 => ?_)
   ·have h7 := aU c13 h7
    refine aP rfl rfl (aA rfl) rfl c13 (aS (aA rfl) rfl nE) ?_
    refine aP rfl rfl (aA rfl) rfl c13 (aV (aA rfl) rfl (i := 0) rfl rfl bM) ?_
    obtain ⟨r14, h15, h7⟩ := bind_some h7
    refine aP rfl rfl (aA rfl) rfl c13 (cC (aA rfl) (.func _ _ Try.call58) rfl rfl (BVs.refl _ _) (eX _ _ _ h15) rfl) ?_
    refine tr1 rfl (bW (v := .d (.lit (.bool r14))) (aA rfl) rfl c13 rfl rfl) ?_
    have h7 := Option.some.inj h7
    subst h7
    refine aF (bB rfl ⟨rfl, trivial⟩ rfl)
   ·have h7 := aT c13 h7
    refine aR rfl rfl (aA rfl) rfl (aA rfl) rfl c13 ?_
    refine aR rfl rfl (aA rfl) rfl (aA rfl) rfl c13 ?_
    refine aR rfl rfl (aA rfl) rfl (aA rfl) rfl c13 ?_
    refine tr1 rfl (bT (v := .d (.lit (.bool false))) (aA rfl) rfl c13 rfl rfl) ?_
    have h7 := Option.some.inj h7
    subst h7
    refine aF (bB rfl ⟨rfl, trivial⟩ rfl)
  ·refine tr1 rfl (aD (v := .d (.lit (.bool b6))) (aA rfl) rfl rfl) ?_
   obtain ⟨b8, h9, h⟩ := bind_some h
   refine cA 4 [] 24 b8 ?_ ?_
   ·refine bJ (b6) (fun c10 => ?_) (fun c10 => ?_)
    ·have h9 := aU c10 h9
     refine aP rfl rfl (aA rfl) rfl c10 (aS (aA rfl) rfl rZ) ?_
     refine aP rfl rfl (aA rfl) rfl c10 (aV (aA rfl) rfl (i := 0) rfl rfl bM) ?_
     obtain ⟨r11, h12, h9⟩ := bind_some h9
     refine aP rfl rfl (aA rfl) rfl c10 (cC (aA rfl) (.func _ _ Try.call58) rfl rfl (BVs.refl _ _) (eX _ _ _ h12) rfl) ?_
     refine tr1 rfl (bW (v := .d (.lit (.bool r11))) (aA rfl) rfl c10 rfl rfl) ?_
     have h9 := Option.some.inj h9
     subst h9
     refine aF (bB rfl trivial rfl)
    ·have h9 := aT c10 h9
     refine aR rfl rfl (aA rfl) rfl (aA rfl) rfl c10 ?_
     refine aR rfl rfl (aA rfl) rfl (aA rfl) rfl c10 ?_
     refine aR rfl rfl (aA rfl) rfl (aA rfl) rfl c10 ?_
     refine tr1 rfl (bT (v := .d (.lit (.bool false))) (aA rfl) rfl c10 rfl rfl) ?_
     have h9 := Option.some.inj h9
     subst h9
     refine aF (bB rfl trivial rfl)
   ·refine tr1 rfl (aJ (v := .d (.lit (.bool b8))) (aA rfl) rfl rfl) ?_
    refine aF ?_
    have h := Option.some.inj h
    subst h
    refine cR (cJ (cP (l := [4]) ⟨rfl, trivial⟩)) ?_
    exact bI ⟨rfl, _, .one _, rfl, rfl⟩

theorem vV (l_0 : aM) {r : Bool} (h : kF l_0 = some r) : Fn Try.prog 41 [.agg (aN l_0)] (.d (.lit (.bool r))) := by
 unfold kF at h
 refine Fn.of_tr Try.func41 rfl (rs := [.tmp 2]) Try.results41 Try.ntmps41 (Nat.le_of_ble_eq_true rfl) ?_
 refine aG ?_
 refine aE ?_
 refine bR rfl (fX (v := .agg (aN l_0)) (aA rfl) rfl rfl rfl) ?_
 rintro _ ⟨b1, rfl⟩
 refine tr1 rfl (aJ (v := .d (.lit (.bool false))) (aA rfl) rfl rfl) ?_
 refine aF ?_
 refine aG ?_
 refine aG ?_
 refine aE ?_
 refine tr1 rfl (aS (aA rfl) rfl jH) ?_
 refine tr1 rfl (aV (aA rfl) rfl (i := 0) rfl rfl bM) ?_
 obtain ⟨r2, h3, h⟩ := bind_some h
 refine tr1 rfl (cC (aA rfl) (.func _ _ Try.call58) rfl rfl (BVs.refl _ _) (eX _ _ _ h3) rfl) ?_
 refine tr1 rfl (fO (aA rfl) rfl) ?_
 refine tr1 rfl (aD (v := .d (.lit (.bool (!r2)))) (aA rfl) rfl rfl) ?_
 obtain ⟨b4, h5, h⟩ := bind_some h
 refine cA 5 [1] 17 b4 ?_ ?_
 ·refine bJ (!r2) (fun c46 => ?_) (fun c46 => ?_)
  ·have h5 := aU c46 h5
   refine aR rfl rfl (aA rfl) rfl (aA rfl) rfl c46 ?_
   refine aR rfl rfl (aA rfl) rfl (aA rfl) rfl c46 ?_
   refine aR rfl rfl (aA rfl) rfl (aA rfl) rfl c46 ?_
   refine aR rfl rfl (aA rfl) rfl (aA rfl) rfl c46 ?_
   refine tr1 rfl (bW (v := .d (.lit (.bool true))) (aA rfl) rfl c46 rfl rfl) ?_
   have h5 := Option.some.inj h5
   subst h5
   refine aF (bB rfl ⟨rfl, trivial⟩ rfl)
  ·have h5 := aT c46 h5
   refine aP rfl rfl (aA rfl) rfl c46 (aS (aA rfl) rfl uE) ?_
   refine aP rfl rfl (aA rfl) rfl c46 (aV (aA rfl) rfl (i := 0) rfl rfl bM) ?_
   obtain ⟨r47, h48, h5⟩ := bind_some h5
   refine aP rfl rfl (aA rfl) rfl c46 (cC (aA rfl) (.func _ _ Try.call58) rfl rfl (BVs.refl _ _) (eX _ _ _ h48) rfl) ?_
   refine aP rfl rfl (aA rfl) rfl c46 (fO (aA rfl) rfl) ?_
   refine tr1 rfl (bT (v := .d (.lit (.bool (!r47)))) (aA rfl) rfl c46 rfl rfl) ?_
   have h5 := Option.some.inj h5
   subst h5
   refine aF (bB rfl ⟨rfl, trivial⟩ rfl)
 ·refine tr1 rfl (aD (v := .d (.lit (.bool b4))) (aA rfl) rfl rfl) ?_
  obtain ⟨b6, h7, h⟩ := bind_some h
  refine cA 5 [1] 23 b6 ?_ ?_
  ·refine bJ (b4) (fun c45 => ?_) (fun c45 => ?_)
   ·have h7 := aU c45 h7
    refine aR rfl rfl (aA rfl) rfl (aA rfl) rfl c45 ?_
    refine aR rfl rfl (aA rfl) rfl (aA rfl) rfl c45 ?_
    refine aR rfl rfl (aA rfl) rfl (aA rfl) rfl c45 ?_
    refine aR rfl rfl (aA rfl) rfl (aA rfl) rfl c45 ?_
    refine tr1 rfl (bW (v := .d (.lit (.bool true))) (aA rfl) rfl c45 rfl rfl) ?_
    have h7 := Option.some.inj h7
    subst h7
    refine aF (bB rfl ⟨rfl, trivial⟩ rfl)
   ·have h7 := aT c45 h7
    refine aP rfl rfl (aA rfl) rfl c45 (aS (aA rfl) rfl dI) ?_
    refine aP rfl rfl (aA rfl) rfl c45 (aV (aA rfl) rfl (i := 0) rfl rfl fR) ?_
    refine aP rfl rfl (aA rfl) rfl c45 (dB (aA rfl) rfl bP.of) ?_
    refine aP rfl rfl (aA rfl) rfl c45 (bC (aA rfl) rfl rfl rfl) ?_
    refine tr1 rfl (bT (v := .d (.lit (.bool ((decide (40 < (l_0.Reports.length : Int))))))) (aA rfl) rfl c45 rfl rfl) ?_
    have h7 := Option.some.inj h7
    subst h7
    refine aF (bB rfl ⟨rfl, trivial⟩ rfl)
  ·refine tr1 rfl (aD (v := .d (.lit (.bool b6))) (aA rfl) rfl rfl) ?_
   obtain ⟨b8, h9, h⟩ := bind_some h
   refine cA 7 [1] 31 b8 ?_ ?_
   ·refine bJ (b6) (fun c42 => ?_) (fun c42 => ?_)
    ·have h9 := aU c42 h9
     refine aR rfl rfl (aA rfl) rfl (aA rfl) rfl c42 ?_
     refine aR rfl rfl (aA rfl) rfl (aA rfl) rfl c42 ?_
     refine aR rfl rfl (aA rfl) rfl (aA rfl) rfl c42 ?_
     refine aR rfl rfl (aA rfl) rfl (aA rfl) rfl c42 ?_
     refine aR rfl rfl (aA rfl) rfl (aA rfl) rfl c42 ?_
     refine aR rfl rfl (aA rfl) rfl (aA rfl) rfl c42 ?_
     refine tr1 rfl (bW (v := .d (.lit (.bool true))) (aA rfl) rfl c42 rfl rfl) ?_
     have h9 := Option.some.inj h9
     subst h9
     refine aF (bB rfl ⟨rfl, trivial⟩ rfl)
    ·have h9 := aT c42 h9
     refine aP rfl rfl (aA rfl) rfl c42 (aS (aA rfl) rfl jH) ?_
     refine aP rfl rfl (aA rfl) rfl c42 (aV (aA rfl) rfl (i := 0) rfl rfl bM) ?_
     refine aP rfl rfl (aA rfl) rfl c42 (aS (aA rfl) rfl jI) ?_
     refine aP rfl rfl (aA rfl) rfl c42 (aV (aA rfl) rfl (i := 0) rfl rfl fV) ?_
     obtain ⟨r43, h44, h9⟩ := bind_some h9
     refine aP rfl rfl (aA rfl) rfl c42 (cC (aA rfl) (.func _ _ Try.call78) rfl rfl (BVs.refl _ _) (pX _ _ h44) rfl) ?_
     refine aP rfl rfl (aA rfl) rfl c42 (fO (aA rfl) rfl) ?_
     refine tr1 rfl (bT (v := .d (.lit (.bool (!r43)))) (aA rfl) rfl c42 rfl rfl) ?_
     have h9 := Option.some.inj h9
     subst h9
     refine aF (bB rfl ⟨rfl, trivial⟩ rfl)
   ·refine tr1 rfl (aD (v := .d (.lit (.bool b8))) (aA rfl) rfl rfl) ?_
    obtain ⟨b10, h11, h⟩ := bind_some h
    refine cA 7 [1] 39 b10 ?_ ?_
    ·refine bJ (b8) (fun c39 => ?_) (fun c39 => ?_)
     ·have h11 := aU c39 h11
      refine aR rfl rfl (aA rfl) rfl (aA rfl) rfl c39 ?_
      refine aR rfl rfl (aA rfl) rfl (aA rfl) rfl c39 ?_
      refine aR rfl rfl (aA rfl) rfl (aA rfl) rfl c39 ?_
      refine aR rfl rfl (aA rfl) rfl (aA rfl) rfl c39 ?_
      refine aR rfl rfl (aA rfl) rfl (aA rfl) rfl c39 ?_
      refine aR rfl rfl (aA rfl) rfl (aA rfl) rfl c39 ?_
      refine tr1 rfl (bW (v := .d (.lit (.bool true))) (aA rfl) rfl c39 rfl rfl) ?_
      have h11 := Option.some.inj h11
      subst h11
      refine aF (bB rfl ⟨rfl, trivial⟩ rfl)
     ·have h11 := aT c39 h11
      refine aP rfl rfl (aA rfl) rfl c39 (aS (aA rfl) rfl jH) ?_
      refine aP rfl rfl (aA rfl) rfl c39 (aV (aA rfl) rfl (i := 0) rfl rfl bM) ?_
      refine aP rfl rfl (aA rfl) rfl c39 (aS (aA rfl) rfl hH) ?_
      refine aP rfl rfl (aA rfl) rfl c39 (aV (aA rfl) rfl (i := 0) rfl rfl fV) ?_
      obtain ⟨r40, h41, h11⟩ := bind_some h11
      refine aP rfl rfl (aA rfl) rfl c39 (cC (aA rfl) (.func _ _ Try.call78) rfl rfl (BVs.refl _ _) (pX _ _ h41) rfl) ?_
      refine aP rfl rfl (aA rfl) rfl c39 (fO (aA rfl) rfl) ?_
      refine tr1 rfl (bT (v := .d (.lit (.bool (!r40)))) (aA rfl) rfl c39 rfl rfl) ?_
      have h11 := Option.some.inj h11
      subst h11
      refine aF (bB rfl ⟨rfl, trivial⟩ rfl)
    ·refine aF ?_
     refine bH rfl (fun c12 => ?_) (fun c12 => ?_)
     ·have h := aU c12 h
      refine aG ?_
      refine aE ?_
      refine tr1 rfl (aJ (v := .d (.lit (.bool false))) (aA rfl) rfl rfl) ?_
      refine aF ?_
      have h := Option.some.inj h
      subst h
      refine cR (cJ (cP (l := [2]) ⟨rfl, trivial⟩)) ?_
      exact bI ⟨rfl, _, .one _, rfl, rfl⟩
     ·have h := aT c12 h
      refine bE ?_
      refine aG ?_
      refine aG ?_
      refine aE ?_
      refine tr1 rfl (aJ (v := .d (.lit (.int .i64 0))) (aA rfl) rfl rfl) ?_
      refine aF ?_
      refine bQ ?_
      refine cH [1] (fun (s13 : Int) => [(3, .d (.lit (.int .i64 s13)))]) (fun (s13 : Int) => [.box b1 0 (aN l_0)]) (fun (k : Nat) (s13 : Int) => fK l_0 k s13) (fun _ => rfl) (0) h (aX [0] rfl rfl (aO rfl (aY ⟨rfl, trivial⟩))) ?_
      rintro k14 i_0_13 h
      simp only [fK] at h
      refine aG ?_
      refine aG ?_
      refine aE ?_
      refine tr1 rfl (aD (v := .d (.lit (.int .i64 i_0_13))) (aA rfl) rfl rfl) ?_
      refine tr1 rfl (aS (aA rfl) rfl dI) ?_
      refine tr1 rfl (aV (aA rfl) rfl (i := 0) rfl rfl fR) ?_
      refine tr1 rfl (dB (aA rfl) rfl bP.of) ?_
      refine tr1 rfl (bC (aA rfl) rfl rfl rfl) ?_
      refine aF ?_
      refine bH rfl (fun c15 => ?_) (fun c15 => ?_)
      ·have h := aU c15 h
       refine bE ?_
       refine aG ?_
       refine bQ ?_
       refine aG ?_
       obtain ⟨x16, h17, h⟩ := bind_some h
       refine fU mix 7 [1, 3] [(48, .d (.lit (.int .i64 l_0.Players))), (53, .agg (aB x16))] ?_ ?_
       ·refine ⟨[(47, 0, .bp b1 0 0), (48, 1, .d (.lit (.int .i64 l_0.Players))), (49, 2, .bp b1 0 2), (50, 3, .d (.sl 5 (l_0.Reports.map aB))), (51, 4, .d (.lit (.int .i64 i_0_13))), (52, 5, .cp [.lit (.int .i64 x16.Id), .lit (.int .i64 x16.Player), .lit (.int .i64 x16.Week), .lit (.int .i64 x16.Points), .lit (.bool x16.Must)]), (53, 6, .agg (aB x16))], ?_, ?_⟩
        · exact ⟨by kernel_rfl, by kernel_rfl, by kernel_rfl, by kernel_rfl, by kernel_rfl, [([], []), ([0], []), ([], []), ([2], []), ([], []), ([3, 4], []), ([5], [])], by kernel_rfl, ⟨fun S hS => aK rfl (aQ rfl (aS (aA rfl) (aI hS rfl) jH)),
      fun S hS => aK rfl (aQ rfl (aV (aA rfl) (aI hS rfl) (i := 0) rfl rfl bM)),
      fun S hS => aK rfl (aQ rfl (aS (aA rfl) (aI hS rfl) dI)),
      fun S hS => aK rfl (aQ rfl (aV (aA rfl) (aI hS rfl) (i := 0) rfl rfl fR)),
      fun S hS => aK rfl (aQ rfl (aD (v := .d (.lit (.int .i64 i_0_13))) (aA rfl) (aI hS rfl) rfl)),
      fun S hS => aK rfl (aQ rfl (bY (aA rfl) (aI hS rfl) (aI hS rfl) bP.of (bN aB h17))),
      fun S hS => aK rfl (aQ rfl (eH (aA rfl) (aI hS rfl) dR (es := (aB x16)) rfl rfl)), trivial⟩⟩
        · exact dX (aO rfl (aO rfl (aY ⟨rfl, rfl, trivial⟩)))
       ·obtain ⟨r18, h19, h⟩ := bind_some h
        refine tr1 rfl (cC (aA rfl) (.func _ _ Try.call79) rfl rfl (BVs.refl _ _) (vW _ _ h19) rfl) ?_
        refine tr1 rfl (fO (aA rfl) rfl) ?_
        refine aF ?_
        refine bH rfl (fun c20 => ?_) (fun c20 => ?_)
        ·have h := aU c20 h
         refine aG ?_
         refine aE ?_
         refine tr1 rfl (aJ (v := .d (.lit (.bool false))) (aA rfl) rfl rfl) ?_
         refine aF ?_
         have h := Option.some.inj h
         subst h
         refine cR (cJ (cP (l := [2]) ⟨rfl, trivial⟩)) ?_
         exact bI ⟨rfl, _, .one _, rfl, rfl⟩
        ·have h := aT c20 h
         refine eF ?_
         refine aE ?_
         refine tr1 rfl (aD (v := .d (.lit (.int .i64 i_0_13))) (aA rfl) rfl rfl) ?_
         refine tr1 rfl (aZ (aA rfl) rfl rfl rfl) ?_
         refine tr1 rfl (aJ (v := .d (.lit (.int .i64 ((w64 (i_0_13 + 1)))))) (aA rfl) rfl rfl) ?_
         refine aF ?_
         exact ⟨(w64 (i_0_13 + 1)), h, aX [0] rfl rfl (aO rfl (aY ⟨rfl, trivial⟩))⟩
      ·have h := aT c15 h
       refine cQ ?_
       refine .inl ⟨rfl, ?_⟩
       simp only [mX] at h
       refine aG ?_
       refine aG ?_
       refine aE ?_
       refine tr1 rfl (aJ (v := .d (.lit (.int .i64 0))) (aA rfl) rfl rfl) ?_
       refine aF ?_
       refine bQ ?_
       refine cH [1] (fun (s21 : Int) => [(4, .d (.lit (.int .i64 s21)))]) (fun (s21 : Int) => [.box b1 0 (aN l_0)]) (fun (k : Nat) (s21 : Int) => dY l_0 k s21) (fun _ => rfl) (0) h (aX [0] rfl rfl (aO rfl (aY ⟨rfl, trivial⟩))) ?_
       rintro k22 i_2_21 h
       simp only [dY] at h
       refine aG ?_
       refine aG ?_
       refine aE ?_
       refine tr1 rfl (aD (v := .d (.lit (.int .i64 i_2_21))) (aA rfl) rfl rfl) ?_
       refine tr1 rfl (aS (aA rfl) rfl hH) ?_
       refine tr1 rfl (aV (aA rfl) rfl (i := 0) rfl rfl fV) ?_
       refine tr1 rfl (dB (aA rfl) rfl eI.of) ?_
       refine tr1 rfl (bC (aA rfl) rfl rfl rfl) ?_
       refine aF ?_
       refine bH rfl (fun c23 => ?_) (fun c23 => ?_)
       ·have h := aU c23 h
        refine bE ?_
        refine aG ?_
        refine bQ ?_
        refine aG ?_
        refine aE ?_
        refine tr1 rfl (aJ (v := .d (.lit (.int .i64 0))) (aA rfl) rfl rfl) ?_
        refine aF ?_
        refine yQ ?_
        refine cH [1, 4] (fun (s24 : Int) => [(5, .d (.lit (.int .i64 s24)))]) (fun (s24 : Int) => [.box b1 0 (aN l_0)]) (fun (k : Nat) (s24 : Int) => gB (dY l_0 k22) i_2_21 l_0 k s24) (fun _ => rfl) (0) h (aX [0] rfl rfl (aO rfl (aY ⟨rfl, rfl, trivial⟩))) ?_
        rintro k25 k_4_24 h
        simp only [gB] at h
        refine aG ?_
        refine aG ?_
        refine aE ?_
        refine tr1 rfl (aD (v := .d (.lit (.int .i64 k_4_24))) (aA rfl) rfl rfl) ?_
        refine tr1 rfl (aD (v := .d (.lit (.int .i64 i_2_21))) (aA rfl) rfl rfl) ?_
        refine tr1 rfl (bC (aA rfl) rfl rfl rfl) ?_
        refine aF ?_
        refine bH rfl (fun c26 => ?_) (fun c26 => ?_)
        ·have h := aU c26 h
         refine bE ?_
         refine aG ?_
         refine bQ ?_
         refine aG ?_
         obtain ⟨x28, h29, h⟩ := bind_some h
         obtain ⟨x30, h31, h⟩ := bind_some h
         refine lC mix 13 [1, 4, 5] (fun X27 => [(6, .bp (X27 10).b 0 0), (7, .bp (X27 11).b 0 0), (77, .agg (aH x30))]) (fun X27 => [.box b1 0 (aN l_0), .box (X27 10).b 0 (aH x28), .box (X27 11).b 0 (aH (aL.mk 0 0 0))]) ?_ ?_
         ·refine ⟨2, fun X27 => [(68, 0, .bp b1 0 4), (69, 1, .d (.sl 3 (l_0.Frozen.map aH))), (70, 2, .d (.lit (.int .i64 i_2_21))), (71, 3, .cp [.lit (.int .i64 x28.Player), .lit (.int .i64 x28.From), .lit (.int .i64 x28.To)]), (72, 4, .agg (aH x28)), (73, 5, .bp b1 0 4), (74, 6, .d (.sl 3 (l_0.Frozen.map aH))), (75, 7, .d (.lit (.int .i64 k_4_24))), (76, 8, .cp [.lit (.int .i64 x30.Player), .lit (.int .i64 x30.From), .lit (.int .i64 x30.To)]), (77, 9, .agg (aH x30)), (6, 10, .bp (X27 10).b 0 0), (7, 11, .bp (X27 11).b 0 0)], fun X27 => [([], .box b1 0 (aN l_0)), ([(12, .box (X27 10).b 0 (aH x28)), (10, .box (X27 10).b 0 (aH (aL.mk 0 0 0)))], nob), ([(11, .box (X27 11).b 0 (aH (aL.mk 0 0 0)))], nob)], ?_, ?_⟩
          · exact ⟨by kernel_rfl, by kernel_rfl, by kernel_rfl, fun _ => by kernel_rfl, fun _ => by kernel_rfl, fun _ => by kernel_rfl, fun _ => rfl, [([], [12]), ([0], [12]), ([], [12]), ([1, 2], [12]), ([3], [12]), ([], []), ([5], []), ([], []), ([6, 7], []), ([8], []), ([], [12]), ([], [12]), ([4, 10, 11], [])], by kernel_rfl, ⟨fun X27 S hw hi hS => bG (X := X27) rfl (hw X27) rfl (aQ rfl (aS (aA rfl) (aI hS rfl) hH)),
      fun X27 S hw hi hS => bG (X := X27) rfl (hw X27) rfl (aQ rfl (aV (aA rfl) (aI hS rfl) (i := 0) (og hS rfl rfl) rfl fV)),
      fun X27 S hw hi hS => bG (X := X27) rfl (hw X27) rfl (aQ rfl (aD (v := .d (.lit (.int .i64 i_2_21))) (aA rfl) (aI hS rfl) rfl)),
      fun X27 S hw hi hS => bG (X := X27) rfl (hw X27) rfl (aQ rfl (bY (aA rfl) (aI hS rfl) (aI hS rfl) eI.of (bN aH h29))),
      fun X27 S hw hi hS => bG (X := X27) rfl (hw X27) rfl (aQ rfl (eH (aA rfl) (aI hS rfl) qZ (es := (aH x28)) rfl rfl)),
      fun X27 S hw hi hS => bG (X := X27) rfl (hw X27) rfl (aQ rfl (aS (aA rfl) (aI hS rfl) hH)),
      fun X27 S hw hi hS => bG (X := X27) rfl (hw X27) rfl (aQ rfl (aV (aA rfl) (aI hS rfl) (i := 0) (og hS rfl rfl) rfl fV)),
      fun X27 S hw hi hS => bG (X := X27) rfl (hw X27) rfl (aQ rfl (aD (v := .d (.lit (.int .i64 k_4_24))) (aA rfl) (aI hS rfl) rfl)),
      fun X27 S hw hi hS => bG (X := X27) rfl (hw X27) rfl (aQ rfl (bY (aA rfl) (aI hS rfl) (aI hS rfl) eI.of (bN aH h31))),
      fun X27 S hw hi hS => bG (X := X27) rfl (hw X27) rfl (aQ rfl (eH (aA rfl) (aI hS rfl) qZ (es := (aH x30)) rfl rfl)),
      fun X27 S hw hi hS => aAu (X := X27) (p := 1) (v := fun x => .bp x.b 0 0) (mo := fun x => .box x.b 0 (aH (aL.mk 0 0 0))) hS hi rfl rfl (fun _ => rfl) hw (fun _ => rfl) (fun _ => rfl) (fun _ => rfl) (fun _ => ⟨rfl, rfl, .inr rfl, ⟨rfl, rfl, .inr rfl, ⟨rfl, rfl, .inr rfl, ⟨rfl, rfl, .inr rfl, ⟨rfl, rfl, .inr rfl, ⟨rfl, rfl, .inr rfl, ⟨rfl, rfl, .inr rfl, ⟨rfl, rfl, .inr rfl, ⟨rfl, rfl, .inr rfl, ⟨rfl, rfl, .inr rfl, ⟨rfl, rfl, .inl rfl, ⟨rfl, rfl, .inr rfl, trivial⟩⟩⟩⟩⟩⟩⟩⟩⟩⟩⟩⟩) (fun _ => ⟨trivial, rfl, ⟨⟨rfl, .inl rfl, ⟨rfl, .inl rfl, trivial⟩⟩, rfl, ⟨⟨rfl, .inr rfl, trivial⟩, rfl, trivial⟩⟩⟩) (tC (fF (zs := [.lit (.int .i64 0), .lit (.int .i64 0), .lit (.int .i64 0)]) (aA rfl) Try.zeroValue66 rfl rfl) (by rintro _ ⟨w, rfl⟩; exact ⟨⟨w, undef⟩, aX [0, 3, 2] rfl rfl (le_refl _)⟩)),
      fun X27 S hw hi hS => aAu (X := X27) (p := 2) (v := fun x => .bp x.b 0 0) (mo := fun x => .box x.b 0 (aH (aL.mk 0 0 0))) hS hi rfl rfl (fun _ => rfl) hw (fun _ => rfl) (fun _ => rfl) (fun _ => rfl) (fun _ => ⟨rfl, rfl, .inr rfl, ⟨rfl, rfl, .inr rfl, ⟨rfl, rfl, .inr rfl, ⟨rfl, rfl, .inr rfl, ⟨rfl, rfl, .inr rfl, ⟨rfl, rfl, .inr rfl, ⟨rfl, rfl, .inr rfl, ⟨rfl, rfl, .inr rfl, ⟨rfl, rfl, .inr rfl, ⟨rfl, rfl, .inr rfl, ⟨rfl, rfl, .inr rfl, ⟨rfl, rfl, .inl rfl, trivial⟩⟩⟩⟩⟩⟩⟩⟩⟩⟩⟩⟩) (fun _ => ⟨trivial, rfl, ⟨⟨rfl, .inr rfl, ⟨rfl, .inr rfl, trivial⟩⟩, rfl, ⟨⟨rfl, .inl rfl, trivial⟩, rfl, trivial⟩⟩⟩) (tC (fF (zs := [.lit (.int .i64 0), .lit (.int .i64 0), .lit (.int .i64 0)]) (aA rfl) Try.zeroValue66 rfl rfl) (by rintro _ ⟨w, rfl⟩; exact ⟨⟨w, undef⟩, aX [0, 1, 3] rfl rfl (le_refl _)⟩)),
      fun X27 S hw hi hS => qY (X := X27) hS rfl rfl rfl (p := 1) rfl rfl (aQ rfl (bO (i := 1) (aI hS rfl) (og hS rfl rfl) (aI hS rfl) rfl rfl Try.sizeOf66 rfl (aA rfl) (Nat.le_of_ble_eq_true rfl) (ds' := (aH x28)) rfl)), trivial⟩⟩
          · exact fun X27 => dX (aO rfl (aO rfl (aO rfl (aY ⟨rfl, rfl, rfl, trivial⟩))))
         ·intro X27
          refine tr1 rfl (bO (i := 2) rfl rfl rfl rfl rfl Try.sizeOf66 rfl (aA rfl) (Nat.le_of_ble_eq_true rfl) (ds' := (aH x30)) rfl) ?_
          refine aF ?_
          refine aG ?_
          refine aE ?_
          refine tr1 rfl (aS (aA rfl) rfl lZ) ?_
          refine tr1 rfl (aV (aA rfl) rfl (i := 1) rfl rfl bM) ?_
          refine tr1 rfl (aS (aA rfl) rfl lZ) ?_
          refine tr1 rfl (aV (aA rfl) rfl (i := 2) rfl rfl bM) ?_
          refine tr1 rfl (bC (aA rfl) rfl rfl rfl) ?_
          refine tr1 rfl (aD (v := .d (.lit (.bool ((decide (x28.Player = x30.Player)))))) (aA rfl) rfl rfl) ?_
          obtain ⟨b32, h33, h⟩ := bind_some h
          refine cA 6 [1, 4, 5, 6, 7] 89 b32 ?_ ?_
          ·refine bJ (decide (x28.Player = x30.Player)) (fun c38 => ?_) (fun c38 => ?_)
           ·have h33 := aU c38 h33
            refine aP rfl rfl (aA rfl) rfl c38 (aS (aA rfl) rfl kK) ?_
            refine aP rfl rfl (aA rfl) rfl c38 (aV (aA rfl) rfl (i := 1) rfl rfl bM) ?_
            refine aP rfl rfl (aA rfl) rfl c38 (aS (aA rfl) rfl mA) ?_
            refine aP rfl rfl (aA rfl) rfl c38 (aV (aA rfl) rfl (i := 2) rfl rfl bM) ?_
            refine aP rfl rfl (aA rfl) rfl c38 (bC (aA rfl) rfl rfl rfl) ?_
            refine tr1 rfl (bW (v := .d (.lit (.bool ((decide (x28.From ≤ x30.To)))))) (aA rfl) rfl c38 rfl rfl) ?_
            have h33 := Option.some.inj h33
            subst h33
            refine aF (bB rfl ⟨rfl, rfl, rfl, rfl, rfl, trivial⟩ rfl)
           ·have h33 := aT c38 h33
            refine aR rfl rfl (aA rfl) rfl (aA rfl) rfl c38 ?_
            refine aR rfl rfl (aA rfl) rfl (aA rfl) rfl c38 ?_
            refine aR rfl rfl (aA rfl) rfl (aA rfl) rfl c38 ?_
            refine aR rfl rfl (aA rfl) rfl (aA rfl) rfl c38 ?_
            refine aR rfl rfl (aA rfl) rfl (aA rfl) rfl c38 ?_
            refine tr1 rfl (bT (v := .d (.lit (.bool false))) (aA rfl) rfl c38 rfl rfl) ?_
            have h33 := Option.some.inj h33
            subst h33
            refine aF (bB rfl ⟨rfl, rfl, rfl, rfl, rfl, trivial⟩ rfl)
          ·refine tr1 rfl (aD (v := .d (.lit (.bool b32))) (aA rfl) rfl rfl) ?_
           obtain ⟨b34, h35, h⟩ := bind_some h
           refine cA 6 [1, 4, 5] 96 b34 ?_ ?_
           ·refine bJ (b32) (fun c37 => ?_) (fun c37 => ?_)
            ·have h35 := aU c37 h35
             refine aP rfl rfl (aA rfl) rfl c37 (aS (aA rfl) rfl kK) ?_
             refine aP rfl rfl (aA rfl) rfl c37 (aV (aA rfl) rfl (i := 2) rfl rfl bM) ?_
             refine aP rfl rfl (aA rfl) rfl c37 (aS (aA rfl) rfl mA) ?_
             refine aP rfl rfl (aA rfl) rfl c37 (aV (aA rfl) rfl (i := 1) rfl rfl bM) ?_
             refine aP rfl rfl (aA rfl) rfl c37 (bC (aA rfl) rfl rfl rfl) ?_
             refine tr1 rfl (bW (v := .d (.lit (.bool ((decide (x30.From ≤ x28.To)))))) (aA rfl) rfl c37 rfl rfl) ?_
             have h35 := Option.some.inj h35
             subst h35
             refine aF (bB rfl ⟨rfl, rfl, rfl, trivial⟩ rfl)
            ·have h35 := aT c37 h35
             refine aR rfl rfl (aA rfl) rfl (aA rfl) rfl c37 ?_
             refine aR rfl rfl (aA rfl) rfl (aA rfl) rfl c37 ?_
             refine aR rfl rfl (aA rfl) rfl (aA rfl) rfl c37 ?_
             refine aR rfl rfl (aA rfl) rfl (aA rfl) rfl c37 ?_
             refine aR rfl rfl (aA rfl) rfl (aA rfl) rfl c37 ?_
             refine tr1 rfl (bT (v := .d (.lit (.bool false))) (aA rfl) rfl c37 rfl rfl) ?_
             have h35 := Option.some.inj h35
             subst h35
             refine aF (bB rfl ⟨rfl, rfl, rfl, trivial⟩ rfl)
           ·refine aF ?_
            refine bH rfl (fun c36 => ?_) (fun c36 => ?_)
            ·have h := aU c36 h
             refine aG ?_
             refine aE ?_
             refine tr1 rfl (aJ (v := .d (.lit (.bool false))) (aA rfl) rfl rfl) ?_
             refine aF ?_
             have h := Option.some.inj h
             subst h
             refine cR (cJ (cP (l := [2]) ⟨rfl, trivial⟩)) ?_
             exact bI ⟨rfl, _, .one _, rfl, rfl⟩
            ·have h := aT c36 h
             refine eF ?_
             refine aE ?_
             refine tr1 rfl (aD (v := .d (.lit (.int .i64 k_4_24))) (aA rfl) rfl rfl) ?_
             refine tr1 rfl (aZ (aA rfl) rfl rfl rfl) ?_
             refine tr1 rfl (aJ (v := .d (.lit (.int .i64 ((w64 (k_4_24 + 1)))))) (aA rfl) rfl rfl) ?_
             refine aF ?_
             exact ⟨(w64 (k_4_24 + 1)), h, aX [0] rfl rfl (aO rfl (aY ⟨rfl, rfl, trivial⟩))⟩
        ·have h := aT c26 h
         refine cQ ?_
         refine .inl ⟨rfl, ?_⟩
         simp only [nA] at h
         simp only [mZ] at h
         refine aE ?_
         refine tr1 rfl (aD (v := .d (.lit (.int .i64 i_2_21))) (aA rfl) rfl rfl) ?_
         refine tr1 rfl (aZ (aA rfl) rfl rfl rfl) ?_
         refine tr1 rfl (aJ (v := .d (.lit (.int .i64 ((w64 (i_2_21 + 1)))))) (aA rfl) rfl rfl) ?_
         refine aF ?_
         exact ⟨(w64 (i_2_21 + 1)), h, aX [0] rfl rfl (aO rfl (aY ⟨rfl, trivial⟩))⟩
       ·have h := aT c23 h
        refine cQ ?_
        refine .inl ⟨rfl, ?_⟩
        simp only [mY] at h
        refine aG ?_
        refine aE ?_
        refine tr1 rfl (aJ (v := .d (.lit (.bool true))) (aA rfl) rfl rfl) ?_
        refine aF ?_
        have h := Option.some.inj h
        subst h
        refine cR (cJ (cP (l := [2]) ⟨rfl, trivial⟩)) ?_
        exact bI ⟨rfl, _, .one _, rfl, rfl⟩

theorem sS (l_0 : List aC) {r : Bool} (h : kJ l_0 = some r) : Fn Try.prog 42 [.d (.sl 5 (l_0.map aB))] (.d (.lit (.bool r))) := by
 unfold kJ at h
 refine Fn.of_tr Try.func42 rfl (rs := [.tmp 2]) Try.results42 Try.ntmps42 (Nat.le_of_ble_eq_true rfl) ?_
 refine aG ?_
 refine aE ?_
 refine tr1 rfl (aJ (v := .d (.lit (.bool false))) (aA rfl) rfl rfl) ?_
 refine aF ?_
 refine aG ?_
 refine aG ?_
 refine aE ?_
 refine tr1 rfl (aJ (v := .d (.lit (.int .i64 0))) (aA rfl) rfl rfl) ?_
 refine aF ?_
 refine bQ ?_
 refine cH [0] (fun (s1 : Int) => [(3, .d (.lit (.int .i64 s1)))]) (fun (s1 : Int) => []) (fun (k : Nat) (s1 : Int) => eW l_0 k s1) (fun _ => rfl) (0) h (aX [] rfl rfl (aO rfl (aY ⟨rfl, trivial⟩))) ?_
 rintro k2 i_0_1 h
 simp only [eW] at h
 refine aG ?_
 refine aG ?_
 refine aE ?_
 refine tr1 rfl (aD (v := .d (.lit (.int .i64 i_0_1))) (aA rfl) rfl rfl) ?_
 refine tr1 rfl (aD (v := .d (.sl 5 (l_0.map aB))) (aA rfl) rfl rfl) ?_
 refine tr1 rfl (dB (aA rfl) rfl bP.of) ?_
 refine tr1 rfl (bC (aA rfl) rfl rfl rfl) ?_
 refine aF ?_
 refine bH rfl (fun c3 => ?_) (fun c3 => ?_)
 ·have h := aU c3 h
  refine bE ?_
  refine aG ?_
  refine bQ ?_
  refine aG ?_
  refine aE ?_
  refine tr1 rfl (aJ (v := .d (.lit (.int .i64 0))) (aA rfl) rfl rfl) ?_
  refine aF ?_
  refine yQ ?_
  refine cH [0, 3] (fun (s4 : Int) => [(4, .d (.lit (.int .i64 s4)))]) (fun (s4 : Int) => []) (fun (k : Nat) (s4 : Int) => gX (eW l_0 k2) l_0 i_0_1 k s4) (fun _ => rfl) (0) h (aX [] rfl rfl (aO rfl (aY ⟨rfl, rfl, trivial⟩))) ?_
  rintro k5 k_2_4 h
  simp only [gX] at h
  refine aG ?_
  refine aG ?_
  refine aE ?_
  refine tr1 rfl (aD (v := .d (.lit (.int .i64 k_2_4))) (aA rfl) rfl rfl) ?_
  refine tr1 rfl (aD (v := .d (.lit (.int .i64 i_0_1))) (aA rfl) rfl rfl) ?_
  refine tr1 rfl (bC (aA rfl) rfl rfl rfl) ?_
  refine aF ?_
  refine bH rfl (fun c6 => ?_) (fun c6 => ?_)
  ·have h := aU c6 h
   refine bE ?_
   refine aG ?_
   refine bQ ?_
   refine aG ?_
   obtain ⟨x7, h8, h⟩ := bind_some h
   obtain ⟨x9, h10, h⟩ := bind_some h
   obtain ⟨b11, h12, h⟩ := bind_some h
   refine fU mix 22 [0, 3, 4] [(37, .d (.lit (.bool b11)))] ?_ ?_
   ·refine bJ (decide (x7.Id = x9.Id)) (fun c13 => ?_) (fun c13 => ?_)
    ·have h12 := aU c13 h12
     obtain ⟨x14, h15, h12⟩ := bind_some h12
     obtain ⟨x16, h17, h12⟩ := bind_some h12
     have h12 := Option.some.inj h12
     subst h12
     refine ⟨[(16, 0, .d (.sl 5 (l_0.map aB))), (17, 1, .d (.lit (.int .i64 i_0_1))), (18, 2, .cp [.lit (.int .i64 x7.Id), .lit (.int .i64 x7.Player), .lit (.int .i64 x7.Week), .lit (.int .i64 x7.Points), .lit (.bool x7.Must)]), (19, 3, .cp [.lit (.int .i64 x7.Id)]), (20, 4, .d (.lit (.int .i64 x7.Id))), (21, 5, .d (.sl 5 (l_0.map aB))), (22, 6, .d (.lit (.int .i64 k_2_4))), (23, 7, .cp [.lit (.int .i64 x9.Id), .lit (.int .i64 x9.Player), .lit (.int .i64 x9.Week), .lit (.int .i64 x9.Points), .lit (.bool x9.Must)]), (24, 8, .cp [.lit (.int .i64 x9.Id)]), (25, 9, .d (.lit (.int .i64 x9.Id))), (26, 10, .d (.lit (.bool ((decide (x7.Id = x9.Id)))))), (27, 11, .d (.lit (.bool ((decide (x7.Id = x9.Id)))))), (28, 12, .d (.sl 5 (l_0.map aB))), (29, 13, .d (.lit (.int .i64 i_0_1))), (30, 14, .cp [.lit (.int .i64 x14.Id), .lit (.int .i64 x14.Player), .lit (.int .i64 x14.Week), .lit (.int .i64 x14.Points), .lit (.bool x14.Must)]), (31, 15, .agg (aB x14)), (32, 16, .d (.sl 5 (l_0.map aB))), (33, 17, .d (.lit (.int .i64 k_2_4))), (34, 18, .cp [.lit (.int .i64 x16.Id), .lit (.int .i64 x16.Player), .lit (.int .i64 x16.Week), .lit (.int .i64 x16.Points), .lit (.bool x16.Must)]), (35, 19, .agg (aB x16)), (36, 20, .d (.lit (.bool ((!decide (x14 = x16)))))), (37, 21, .d (.lit (.bool ((!decide (x14 = x16))))))], ?_, ?_⟩
     · exact ⟨by kernel_rfl, by kernel_rfl, by kernel_rfl, by kernel_rfl, by kernel_rfl, [([], []), ([], []), ([0, 1], []), ([2], []), ([3], []), ([], []), ([], []), ([5, 6], []), ([7], []), ([8], []), ([4, 9], []), ([10], []), ([11], []), ([11], []), ([11, 12, 13], []), ([11, 14], []), ([11], []), ([11], []), ([11, 16, 17], []), ([11, 18], []), ([11, 15, 19], []), ([11, 20], [])], by kernel_rfl, ⟨fun S hS => aK rfl (aQ rfl (aD (v := .d (.sl 5 (l_0.map aB))) (aA rfl) (aI hS rfl) rfl)),
      fun S hS => aK rfl (aQ rfl (aD (v := .d (.lit (.int .i64 i_0_1))) (aA rfl) (aI hS rfl) rfl)),
      fun S hS => aK rfl (aQ rfl (bY (aA rfl) (aI hS rfl) (aI hS rfl) bP.of (bN aB h8))),
      fun S hS => aK rfl (aQ rfl (cV (aA rfl) (aI hS rfl) jR (es := [.lit (.int .i64 x7.Id)]) rfl)),
      fun S hS => aK rfl (aQ rfl (cK (aA rfl) (aI hS rfl) bM)),
      fun S hS => aK rfl (aQ rfl (aD (v := .d (.sl 5 (l_0.map aB))) (aA rfl) (aI hS rfl) rfl)),
      fun S hS => aK rfl (aQ rfl (aD (v := .d (.lit (.int .i64 k_2_4))) (aA rfl) (aI hS rfl) rfl)),
      fun S hS => aK rfl (aQ rfl (bY (aA rfl) (aI hS rfl) (aI hS rfl) bP.of (bN aB h10))),
      fun S hS => aK rfl (aQ rfl (cV (aA rfl) (aI hS rfl) jR (es := [.lit (.int .i64 x9.Id)]) rfl)),
      fun S hS => aK rfl (aQ rfl (cK (aA rfl) (aI hS rfl) bM)),
      fun S hS => aK rfl (aQ rfl (bC (aA rfl) (aI hS rfl) (aI hS rfl) rfl)),
      fun S hS => aK rfl (aQ rfl (aD (v := .d (.lit (.bool ((decide (x7.Id = x9.Id)))))) (aA rfl) (aI hS rfl) rfl)),
      fun S hS => aK rfl (bK rfl rfl (aA rfl) (aW hS rfl) c13 (aD (v := .d (.sl 5 (l_0.map aB))) (aA rfl) (aI hS rfl) rfl)),
      fun S hS => aK rfl (bK rfl rfl (aA rfl) (aW hS rfl) c13 (aD (v := .d (.lit (.int .i64 i_0_1))) (aA rfl) (aI hS rfl) rfl)),
      fun S hS => aK rfl (bK rfl rfl (aA rfl) (aW hS rfl) c13 (bY (aA rfl) (aI hS rfl) (aI hS rfl) bP.of (bN aB h15))),
      fun S hS => aK rfl (bK rfl rfl (aA rfl) (aW hS rfl) c13 (eH (aA rfl) (aI hS rfl) dR (es := (aB x14)) rfl rfl)),
      fun S hS => aK rfl (bK rfl rfl (aA rfl) (aW hS rfl) c13 (aD (v := .d (.sl 5 (l_0.map aB))) (aA rfl) (aI hS rfl) rfl)),
      fun S hS => aK rfl (bK rfl rfl (aA rfl) (aW hS rfl) c13 (aD (v := .d (.lit (.int .i64 k_2_4))) (aA rfl) (aI hS rfl) rfl)),
      fun S hS => aK rfl (bK rfl rfl (aA rfl) (aW hS rfl) c13 (bY (aA rfl) (aI hS rfl) (aI hS rfl) bP.of (bN aB h17))),
      fun S hS => aK rfl (bK rfl rfl (aA rfl) (aW hS rfl) c13 (eH (aA rfl) (aI hS rfl) dR (es := (aB x16)) rfl rfl)),
      fun S hS => aK rfl (bK rfl rfl (aA rfl) (aW hS rfl) c13 (aAp (a := x14) (b := x16) (aA rfl) (aI hS rfl) (aI hS rfl) rfl rfl Try.eqGuardType42 vZ)),
      fun S hS => aK rfl (aQ rfl (bW (v := .d (.lit (.bool ((!decide (x14 = x16)))))) (aA rfl) (aI hS rfl) c13 (aI hS rfl) rfl)), trivial⟩⟩
     · exact dX (aO rfl (aY ⟨rfl, rfl, rfl, trivial⟩))
    ·have h12 := aT c13 h12
     have h12 := Option.some.inj h12
     subst h12
     refine ⟨[(16, 0, .d (.sl 5 (l_0.map aB))), (17, 1, .d (.lit (.int .i64 i_0_1))), (18, 2, .cp [.lit (.int .i64 x7.Id), .lit (.int .i64 x7.Player), .lit (.int .i64 x7.Week), .lit (.int .i64 x7.Points), .lit (.bool x7.Must)]), (19, 3, .cp [.lit (.int .i64 x7.Id)]), (20, 4, .d (.lit (.int .i64 x7.Id))), (21, 5, .d (.sl 5 (l_0.map aB))), (22, 6, .d (.lit (.int .i64 k_2_4))), (23, 7, .cp [.lit (.int .i64 x9.Id), .lit (.int .i64 x9.Player), .lit (.int .i64 x9.Week), .lit (.int .i64 x9.Points), .lit (.bool x9.Must)]), (24, 8, .cp [.lit (.int .i64 x9.Id)]), (25, 9, .d (.lit (.int .i64 x9.Id))), (26, 10, .d (.lit (.bool ((decide (x7.Id = x9.Id)))))), (27, 11, .d (.lit (.bool ((decide (x7.Id = x9.Id)))))), (28, 12, .tup []), (29, 13, .tup []), (30, 14, .tup []), (31, 15, .tup []), (32, 16, .tup []), (33, 17, .tup []), (34, 18, .tup []), (35, 19, .tup []), (36, 20, .tup []), (37, 21, .d (.lit (.bool false)))], ?_, ?_⟩
     · exact ⟨by kernel_rfl, by kernel_rfl, by kernel_rfl, by kernel_rfl, by kernel_rfl, [([], []), ([], []), ([0, 1], []), ([2], []), ([3], []), ([], []), ([], []), ([5, 6], []), ([7], []), ([8], []), ([4, 9], []), ([10], []), ([11], []), ([11], []), ([11, 12, 13], []), ([11, 14], []), ([11], []), ([11], []), ([11, 16, 17], []), ([11, 18], []), ([11, 15, 19], []), ([11, 20], [])], by kernel_rfl, ⟨fun S hS => aK rfl (aQ rfl (aD (v := .d (.sl 5 (l_0.map aB))) (aA rfl) (aI hS rfl) rfl)),
      fun S hS => aK rfl (aQ rfl (aD (v := .d (.lit (.int .i64 i_0_1))) (aA rfl) (aI hS rfl) rfl)),
      fun S hS => aK rfl (aQ rfl (bY (aA rfl) (aI hS rfl) (aI hS rfl) bP.of (bN aB h8))),
      fun S hS => aK rfl (aQ rfl (cV (aA rfl) (aI hS rfl) jR (es := [.lit (.int .i64 x7.Id)]) rfl)),
      fun S hS => aK rfl (aQ rfl (cK (aA rfl) (aI hS rfl) bM)),
      fun S hS => aK rfl (aQ rfl (aD (v := .d (.sl 5 (l_0.map aB))) (aA rfl) (aI hS rfl) rfl)),
      fun S hS => aK rfl (aQ rfl (aD (v := .d (.lit (.int .i64 k_2_4))) (aA rfl) (aI hS rfl) rfl)),
      fun S hS => aK rfl (aQ rfl (bY (aA rfl) (aI hS rfl) (aI hS rfl) bP.of (bN aB h10))),
      fun S hS => aK rfl (aQ rfl (cV (aA rfl) (aI hS rfl) jR (es := [.lit (.int .i64 x9.Id)]) rfl)),
      fun S hS => aK rfl (aQ rfl (cK (aA rfl) (aI hS rfl) bM)),
      fun S hS => aK rfl (aQ rfl (bC (aA rfl) (aI hS rfl) (aI hS rfl) rfl)),
      fun S hS => aK rfl (aQ rfl (aD (v := .d (.lit (.bool ((decide (x7.Id = x9.Id)))))) (aA rfl) (aI hS rfl) rfl)),
      fun S hS => aK rfl (bF rfl rfl (aA rfl) rfl (aA rfl) (aW hS rfl) c13),
      fun S hS => aK rfl (bF rfl rfl (aA rfl) rfl (aA rfl) (aW hS rfl) c13),
      fun S hS => aK rfl (bF rfl rfl (aA rfl) rfl (aA rfl) (aW hS rfl) c13),
      fun S hS => aK rfl (bF rfl rfl (aA rfl) rfl (aA rfl) (aW hS rfl) c13),
      fun S hS => aK rfl (bF rfl rfl (aA rfl) rfl (aA rfl) (aW hS rfl) c13),
      fun S hS => aK rfl (bF rfl rfl (aA rfl) rfl (aA rfl) (aW hS rfl) c13),
      fun S hS => aK rfl (bF rfl rfl (aA rfl) rfl (aA rfl) (aW hS rfl) c13),
      fun S hS => aK rfl (bF rfl rfl (aA rfl) rfl (aA rfl) (aW hS rfl) c13),
      fun S hS => aK rfl (bF rfl rfl (aA rfl) rfl (aA rfl) (aW hS rfl) c13),
      fun S hS => aK rfl (aQ rfl (bT (v := .d (.lit (.bool false))) (aA rfl) (aI hS rfl) c13 rfl rfl)), trivial⟩⟩
     · exact dX (aO rfl (aY ⟨rfl, rfl, rfl, trivial⟩))
   ·refine aF ?_
    refine bH rfl (fun c18 => ?_) (fun c18 => ?_)
    ·have h := aU c18 h
     refine aG ?_
     refine aE ?_
     refine tr1 rfl (aJ (v := .d (.lit (.bool true))) (aA rfl) rfl rfl) ?_
     refine aF ?_
     have h := Option.some.inj h
     subst h
     exact bI ⟨rfl, _, .one _, rfl, rfl⟩
    ·have h := aT c18 h
     refine eF ?_
     refine aE ?_
     refine tr1 rfl (aD (v := .d (.lit (.int .i64 k_2_4))) (aA rfl) rfl rfl) ?_
     refine tr1 rfl (aZ (aA rfl) rfl rfl rfl) ?_
     refine tr1 rfl (aJ (v := .d (.lit (.int .i64 ((w64 (k_2_4 + 1)))))) (aA rfl) rfl rfl) ?_
     refine aF ?_
     exact ⟨(w64 (k_2_4 + 1)), h, aX [] rfl rfl (aO rfl (aY ⟨rfl, rfl, trivial⟩))⟩
  ·have h := aT c6 h
   refine cQ ?_
   refine .inl ⟨rfl, ?_⟩
   simp only [oK] at h
   simp only [oJ] at h
   refine aE ?_
   refine tr1 rfl (aD (v := .d (.lit (.int .i64 i_0_1))) (aA rfl) rfl rfl) ?_
   refine tr1 rfl (aZ (aA rfl) rfl rfl rfl) ?_
   refine tr1 rfl (aJ (v := .d (.lit (.int .i64 ((w64 (i_0_1 + 1)))))) (aA rfl) rfl rfl) ?_
   refine aF ?_
   exact ⟨(w64 (i_0_1 + 1)), h, aX [] rfl rfl (aO rfl (aY ⟨rfl, trivial⟩))⟩
 ·have h := aT c3 h
  refine cQ ?_
  refine .inl ⟨rfl, ?_⟩
  simp only [oI] at h
  refine aG ?_
  refine aE ?_
  refine tr1 rfl (aJ (v := .d (.lit (.bool false))) (aA rfl) rfl rfl) ?_
  refine aF ?_
  have h := Option.some.inj h
  subst h
  exact bI ⟨rfl, _, .one _, rfl, rfl⟩

theorem oV (l_0 : aM) {r : Int} (h : iG l_0 = some r) : Fn Try.prog 15 [.agg (aN l_0)] (.d (.lit (.int .i64 r))) := by
 unfold iG at h
 refine Fn.of_tr Try.func15 rfl (rs := [.tmp 2]) Try.results15 Try.ntmps15 (Nat.le_of_ble_eq_true rfl) ?_
 refine aG ?_
 refine aE ?_
 refine bR rfl (fX (v := .agg (aN l_0)) (aA rfl) rfl rfl rfl) ?_
 rintro _ ⟨b1, rfl⟩
 refine tr1 rfl (aJ (v := .d (.lit (.int .i64 0))) (aA rfl) rfl rfl) ?_
 refine aF ?_
 refine aG ?_
 refine aG ?_
 refine aE ?_
 refine tr1 rfl (cS (aA rfl) rfl (i := 0) rfl dZ (es := (aN l_0)) rfl rfl) ?_
 obtain ⟨r2, h3, h⟩ := bind_some h
 refine tr1 rfl (cC (aA rfl) (.func _ _ Try.call41) rfl rfl (BVs.refl _ _) (vV _ h3) rfl) ?_
 refine tr1 rfl (fO (aA rfl) rfl) ?_
 refine aF ?_
 refine bH rfl (fun c4 => ?_) (fun c4 => ?_)
 ·have h := aU c4 h
  refine aG ?_
  refine aE ?_
  refine tr1 rfl (aJ (v := .d (.lit (.int .i64 40))) (aA rfl) rfl rfl) ?_
  refine aF ?_
  have h := Option.some.inj h
  subst h
  refine cR (cJ (cP (l := [2]) ⟨rfl, trivial⟩)) ?_
  exact bI ⟨rfl, _, .one _, rfl, rfl⟩
 ·have h := aT c4 h
  refine bE ?_
  refine aG ?_
  refine aG ?_
  refine aE ?_
  refine tr1 rfl (aS (aA rfl) rfl dI) ?_
  refine tr1 rfl (aV (aA rfl) rfl (i := 0) rfl rfl fR) ?_
  obtain ⟨r5, h6, h⟩ := bind_some h
  refine tr1 rfl (cC (aA rfl) (.func _ _ Try.call42) rfl rfl (BVs.refl _ _) (sS _ h6) rfl) ?_
  refine aF ?_
  refine bH rfl (fun c7 => ?_) (fun c7 => ?_)
  ·have h := aU c7 h
   refine aG ?_
   refine aE ?_
   refine tr1 rfl (aJ (v := .d (.lit (.int .i64 41))) (aA rfl) rfl rfl) ?_
   refine aF ?_
   have h := Option.some.inj h
   subst h
   refine cR (cJ (cP (l := [2]) ⟨rfl, trivial⟩)) ?_
   exact bI ⟨rfl, _, .one _, rfl, rfl⟩
  ·have h := aT c7 h
   refine bE ?_
   refine aG ?_
   refine aE ?_
   refine tr1 rfl (aJ (v := .d (.lit (.int .i64 0))) (aA rfl) rfl rfl) ?_
   refine aF ?_
   have h := Option.some.inj h
   subst h
   refine cR (cJ (cP (l := [2]) ⟨rfl, trivial⟩)) ?_
   exact bI ⟨rfl, _, .one _, rfl, rfl⟩

theorem zJ (l_0 : aM) {r : Bool} (h : gE l_0 = some r) : Fn Try.prog 13 [.agg (aN l_0)] (.d (.lit (.bool r))) := by
 unfold gE at h
 refine Fn.of_tr Try.func13 rfl (rs := [.tmp 2]) Try.results13 Try.ntmps13 (Nat.le_of_ble_eq_true rfl) ?_
 refine aG ?_
 refine aE ?_
 refine bR rfl (fX (v := .agg (aN l_0)) (aA rfl) rfl rfl rfl) ?_
 rintro _ ⟨b1, rfl⟩
 refine tr1 rfl (aJ (v := .d (.lit (.bool false))) (aA rfl) rfl rfl) ?_
 refine aF ?_
 refine aG ?_
 refine aG ?_
 refine aE ?_
 refine tr1 rfl (aS (aA rfl) rfl dI) ?_
 refine tr1 rfl (aV (aA rfl) rfl (i := 0) rfl rfl fR) ?_
 refine tr1 rfl (dB (aA rfl) rfl bP.of) ?_
 refine tr1 rfl (bC (aA rfl) rfl rfl rfl) ?_
 refine tr1 rfl (aD (v := .d (.lit (.bool ((decide (60 < (l_0.Reports.length : Int))))))) (aA rfl) rfl rfl) ?_
 obtain ⟨b2, h3, h⟩ := bind_some h
 refine cA 5 [1] 13 b2 ?_ ?_
 ·refine bJ (decide (60 < (l_0.Reports.length : Int))) (fun c20 => ?_) (fun c20 => ?_)
  ·have h3 := aU c20 h3
   refine aR rfl rfl (aA rfl) rfl (aA rfl) rfl c20 ?_
   refine aR rfl rfl (aA rfl) rfl (aA rfl) rfl c20 ?_
   refine aR rfl rfl (aA rfl) rfl (aA rfl) rfl c20 ?_
   refine aR rfl rfl (aA rfl) rfl (aA rfl) rfl c20 ?_
   refine tr1 rfl (bW (v := .d (.lit (.bool true))) (aA rfl) rfl c20 rfl rfl) ?_
   have h3 := Option.some.inj h3
   subst h3
   refine aF (bB rfl ⟨rfl, trivial⟩ rfl)
  ·have h3 := aT c20 h3
   refine aP rfl rfl (aA rfl) rfl c20 (aS (aA rfl) rfl jI) ?_
   refine aP rfl rfl (aA rfl) rfl c20 (aV (aA rfl) rfl (i := 0) rfl rfl fV) ?_
   refine aP rfl rfl (aA rfl) rfl c20 (dB (aA rfl) rfl eI.of) ?_
   refine aP rfl rfl (aA rfl) rfl c20 (bC (aA rfl) rfl rfl rfl) ?_
   refine tr1 rfl (bT (v := .d (.lit (.bool ((decide (20 < (l_0.Bans.length : Int))))))) (aA rfl) rfl c20 rfl rfl) ?_
   have h3 := Option.some.inj h3
   subst h3
   refine aF (bB rfl ⟨rfl, trivial⟩ rfl)
 ·refine tr1 rfl (aD (v := .d (.lit (.bool b2))) (aA rfl) rfl rfl) ?_
  obtain ⟨b4, h5, h⟩ := bind_some h
  refine cA 5 [1] 19 b4 ?_ ?_
  ·refine bJ (b2) (fun c19 => ?_) (fun c19 => ?_)
   ·have h5 := aU c19 h5
    refine aR rfl rfl (aA rfl) rfl (aA rfl) rfl c19 ?_
    refine aR rfl rfl (aA rfl) rfl (aA rfl) rfl c19 ?_
    refine aR rfl rfl (aA rfl) rfl (aA rfl) rfl c19 ?_
    refine aR rfl rfl (aA rfl) rfl (aA rfl) rfl c19 ?_
    refine tr1 rfl (bW (v := .d (.lit (.bool true))) (aA rfl) rfl c19 rfl rfl) ?_
    have h5 := Option.some.inj h5
    subst h5
    refine aF (bB rfl ⟨rfl, trivial⟩ rfl)
   ·have h5 := aT c19 h5
    refine aP rfl rfl (aA rfl) rfl c19 (aS (aA rfl) rfl hH) ?_
    refine aP rfl rfl (aA rfl) rfl c19 (aV (aA rfl) rfl (i := 0) rfl rfl fV) ?_
    refine aP rfl rfl (aA rfl) rfl c19 (dB (aA rfl) rfl eI.of) ?_
    refine aP rfl rfl (aA rfl) rfl c19 (bC (aA rfl) rfl rfl rfl) ?_
    refine tr1 rfl (bT (v := .d (.lit (.bool ((decide (20 < (l_0.Frozen.length : Int))))))) (aA rfl) rfl c19 rfl rfl) ?_
    have h5 := Option.some.inj h5
    subst h5
    refine aF (bB rfl ⟨rfl, trivial⟩ rfl)
  ·refine aF ?_
   refine bH rfl (fun c6 => ?_) (fun c6 => ?_)
   ·have h := aU c6 h
    refine aG ?_
    refine aE ?_
    refine tr1 rfl (aJ (v := .d (.lit (.bool true))) (aA rfl) rfl rfl) ?_
    refine aF ?_
    have h := Option.some.inj h
    subst h
    refine cR (cJ (cP (l := [2]) ⟨rfl, trivial⟩)) ?_
    exact bI ⟨rfl, _, .one _, rfl, rfl⟩
   ·have h := aT c6 h
    refine bE ?_
    refine aG ?_
    refine aG ?_
    refine aE ?_
    refine tr1 rfl (cS (aA rfl) rfl (i := 0) rfl dZ (es := (aN l_0)) rfl rfl) ?_
    obtain ⟨r7, h8, h⟩ := bind_some h
    refine tr1 rfl (cC (aA rfl) (.func _ _ Try.call15) rfl rfl (BVs.refl _ _) (oV _ h8) rfl) ?_
    refine tr1 rfl (bC (aA rfl) rfl rfl rfl) ?_
    refine aF ?_
    refine bH rfl (fun c9 => ?_) (fun c9 => ?_)
    ·have h := aU c9 h
     refine aG ?_
     refine aE ?_
     refine tr1 rfl (aJ (v := .d (.lit (.bool false))) (aA rfl) rfl rfl) ?_
     refine aF ?_
     have h := Option.some.inj h
     subst h
     refine cR (cJ (cP (l := [2]) ⟨rfl, trivial⟩)) ?_
     exact bI ⟨rfl, _, .one _, rfl, rfl⟩
    ·have h := aT c9 h
     refine bE ?_
     refine aG ?_
     refine aG ?_
     refine aE ?_
     refine tr1 rfl (aJ (v := .d (.lit (.int .i64 0))) (aA rfl) rfl rfl) ?_
     refine aF ?_
     refine bQ ?_
     refine cH [1] (fun (s10 : Int) => [(3, .d (.lit (.int .i64 s10)))]) (fun (s10 : Int) => [.box b1 0 (aN l_0)]) (fun (k : Nat) (s10 : Int) => fP l_0 k s10) (fun _ => rfl) (0) h (aX [0] rfl rfl (aO rfl (aY ⟨rfl, trivial⟩))) ?_
     rintro k11 i_0_10 h
     simp only [fP] at h
     refine aG ?_
     refine aG ?_
     refine aE ?_
     refine tr1 rfl (aD (v := .d (.lit (.int .i64 i_0_10))) (aA rfl) rfl rfl) ?_
     refine tr1 rfl (aS (aA rfl) rfl dI) ?_
     refine tr1 rfl (aV (aA rfl) rfl (i := 0) rfl rfl fR) ?_
     refine tr1 rfl (dB (aA rfl) rfl bP.of) ?_
     refine tr1 rfl (bC (aA rfl) rfl rfl rfl) ?_
     refine aF ?_
     refine bH rfl (fun c12 => ?_) (fun c12 => ?_)
     ·have h := aU c12 h
      refine bE ?_
      refine aG ?_
      refine bQ ?_
      refine aG ?_
      refine aE ?_
      refine tr1 rfl (aS (aA rfl) rfl dI) ?_
      refine tr1 rfl (aV (aA rfl) rfl (i := 0) rfl rfl fR) ?_
      refine tr1 rfl (aD (v := .d (.lit (.int .i64 i_0_10))) (aA rfl) rfl rfl) ?_
      obtain ⟨x13, h14, h⟩ := bind_some h
      refine tr1 rfl (bY (aA rfl) rfl rfl bP.of (bN aB h14)) ?_
      refine tr1 rfl (cV (aA rfl) rfl nE (es := [.lit (.int .i64 x13.Week)]) rfl) ?_
      refine tr1 rfl (cK (aA rfl) rfl bM) ?_
      refine tr1 rfl (bC (aA rfl) rfl rfl rfl) ?_
      refine aF ?_
      refine bH rfl (fun c15 => ?_) (fun c15 => ?_)
      ·have h := aU c15 h
       refine aG ?_
       refine aE ?_
       refine tr1 rfl (aJ (v := .d (.lit (.bool true))) (aA rfl) rfl rfl) ?_
       refine aF ?_
       have h := Option.some.inj h
       subst h
       refine cR (cJ (cP (l := [2]) ⟨rfl, trivial⟩)) ?_
       exact bI ⟨rfl, _, .one _, rfl, rfl⟩
      ·have h := aT c15 h
       refine eF ?_
       refine aE ?_
       refine tr1 rfl (aD (v := .d (.lit (.int .i64 i_0_10))) (aA rfl) rfl rfl) ?_
       refine tr1 rfl (aZ (aA rfl) rfl rfl rfl) ?_
       refine tr1 rfl (aJ (v := .d (.lit (.int .i64 ((w64 (i_0_10 + 1)))))) (aA rfl) rfl rfl) ?_
       refine aF ?_
       exact ⟨(w64 (i_0_10 + 1)), h, aX [0] rfl rfl (aO rfl (aY ⟨rfl, trivial⟩))⟩
     ·have h := aT c12 h
      refine cQ ?_
      refine .inl ⟨rfl, ?_⟩
      simp only [jU] at h
      refine aG ?_
      refine aE ?_
      refine tr1 rfl (aS (aA rfl) rfl jH) ?_
      refine tr1 rfl (aV (aA rfl) rfl (i := 0) rfl rfl bM) ?_
      refine tr1 rfl (bC (aA rfl) rfl rfl rfl) ?_
      refine tr1 rfl (aD (v := .d (.lit (.bool ((decide (5 < l_0.Players)))))) (aA rfl) rfl rfl) ?_
      obtain ⟨b16, h17, h⟩ := bind_some h
      refine cA 5 [] 45 b16 ?_ ?_
      ·refine bJ (decide (5 < l_0.Players)) (fun c18 => ?_) (fun c18 => ?_)
       ·have h17 := aU c18 h17
        refine aR rfl rfl (aA rfl) rfl (aA rfl) rfl c18 ?_
        refine aR rfl rfl (aA rfl) rfl (aA rfl) rfl c18 ?_
        refine aR rfl rfl (aA rfl) rfl (aA rfl) rfl c18 ?_
        refine aR rfl rfl (aA rfl) rfl (aA rfl) rfl c18 ?_
        refine tr1 rfl (bW (v := .d (.lit (.bool true))) (aA rfl) rfl c18 rfl rfl) ?_
        have h17 := Option.some.inj h17
        subst h17
        refine aF (bB rfl trivial rfl)
       ·have h17 := aT c18 h17
        refine aP rfl rfl (aA rfl) rfl c18 (aS (aA rfl) rfl dI) ?_
        refine aP rfl rfl (aA rfl) rfl c18 (aV (aA rfl) rfl (i := 0) rfl rfl fR) ?_
        refine aP rfl rfl (aA rfl) rfl c18 (dB (aA rfl) rfl bP.of) ?_
        refine aP rfl rfl (aA rfl) rfl c18 (bC (aA rfl) rfl rfl rfl) ?_
        refine tr1 rfl (bT (v := .d (.lit (.bool ((decide (10 < (l_0.Reports.length : Int))))))) (aA rfl) rfl c18 rfl rfl) ?_
        have h17 := Option.some.inj h17
        subst h17
        refine aF (bB rfl trivial rfl)
      ·refine tr1 rfl (aJ (v := .d (.lit (.bool b16))) (aA rfl) rfl rfl) ?_
       refine aF ?_
       have h := Option.some.inj h
       subst h
       refine cR (cJ (cP (l := [2]) ⟨rfl, trivial⟩)) ?_
       exact bI ⟨rfl, _, .one _, rfl, rfl⟩

theorem wR {r : aM} (h : oT = some r) : Fn Try.prog 43 [] (.agg (aN r)) := by
 unfold oT at h
 refine nX Try.func43 rfl (rs := [.cell 0 25]) Try.results43 Try.ntmps43 (Nat.le_of_ble_eq_true rfl) ?_
 refine aG ?_
 refine aE ?_
 refine bR rfl (fF (zs := [.lit (.int .i64 0), .lit (.int .i64 0), .sl 5 ((([] : List aC)).map aB), .sl 3 ((([] : List aL)).map aH), .sl 3 ((([] : List aL)).map aH)]) (aA rfl) Try.zeroValue25 rfl rfl) ?_
 rintro _ ⟨b1, rfl⟩
 refine aF ?_
 refine aG ?_
 refine aE ?_
 refine tr1 rfl (iB (aA rfl) uT (zs := [.lit (.int .i64 0), .lit (.int .i64 0), .lit (.int .i64 0), .lit (.int .i64 0), .lit (.bool false)]) rfl rfl rfl rfl (es := [.lit (.int .i64 1), .lit (.int .i64 0), .lit (.int .i64 10), .lit (.int .i64 500), .lit (.bool false)]) rfl) ?_
 refine tr1 rfl (iB (aA rfl) uT (zs := [.lit (.int .i64 0), .lit (.int .i64 0), .lit (.int .i64 0), .lit (.int .i64 0), .lit (.bool false)]) rfl rfl rfl rfl (es := [.lit (.int .i64 2), .lit (.int .i64 0), .lit (.int .i64 20), .lit (.int .i64 300), .lit (.bool false)]) rfl) ?_
 refine tr1 rfl (iB (aA rfl) uT (zs := [.lit (.int .i64 0), .lit (.int .i64 0), .lit (.int .i64 0), .lit (.int .i64 0), .lit (.bool false)]) rfl rfl rfl rfl (es := [.lit (.int .i64 3), .lit (.int .i64 0), .lit (.int .i64 30), .lit (.int .i64 100), .lit (.bool true)]) rfl) ?_
 refine tr1 rfl (iB (aA rfl) uT (zs := [.lit (.int .i64 0), .lit (.int .i64 0), .lit (.int .i64 0), .lit (.int .i64 0), .lit (.bool false)]) rfl rfl rfl rfl (es := [.lit (.int .i64 4), .lit (.int .i64 1), .lit (.int .i64 12), .lit (.int .i64 400), .lit (.bool false)]) rfl) ?_
 refine tr1 rfl (iB (aA rfl) uT (zs := [.lit (.int .i64 0), .lit (.int .i64 0), .lit (.int .i64 0), .lit (.int .i64 0), .lit (.bool false)]) rfl rfl rfl rfl (es := [.lit (.int .i64 5), .lit (.int .i64 1), .lit (.int .i64 40), .lit (.int .i64 200), .lit (.bool false)]) rfl) ?_
 refine tr1 rfl (iB (aA rfl) uT (zs := [.lit (.int .i64 0), .lit (.int .i64 0), .lit (.int .i64 0), .lit (.int .i64 0), .lit (.bool false)]) rfl rfl rfl rfl (es := [.lit (.int .i64 6), .lit (.int .i64 2), .lit (.int .i64 15), .lit (.int .i64 600), .lit (.bool false)]) rfl) ?_
 refine tr1 rfl (jJ (aA rfl) bP rfl rfl (rows := ([(aC.mk 1 0 10 500 false), (aC.mk 2 0 20 300 false), (aC.mk 3 0 30 100 true), (aC.mk 4 1 12 400 false), (aC.mk 5 1 40 200 false), (aC.mk 6 2 15 600 false)]).map aB) rfl (cY (f := aB) fun _ => rfl) rfl (by decide)) ?_
 refine tr1 rfl (iB (aA rfl) aGh (zs := [.lit (.int .i64 0), .lit (.int .i64 0), .lit (.int .i64 0)]) rfl rfl rfl rfl (es := [.lit (.int .i64 1), .lit (.int .i64 50), .lit (.int .i64 55)]) rfl) ?_
 refine tr1 rfl (jJ (aA rfl) eI rfl rfl (rows := ([(aL.mk 1 50 55)]).map aH) rfl (cY (f := aH) fun _ => rfl) rfl (by decide)) ?_
 refine tr1 rfl (iB (aA rfl) aGh (zs := [.lit (.int .i64 0), .lit (.int .i64 0), .lit (.int .i64 0)]) rfl rfl rfl rfl (es := [.lit (.int .i64 2), .lit (.int .i64 20), .lit (.int .i64 29)]) rfl) ?_
 refine tr1 rfl (jJ (aA rfl) eI rfl rfl (rows := ([(aL.mk 2 20 29)]).map aH) rfl (cY (f := aH) fun _ => rfl) rfl (by decide)) ?_
 refine tr1 rfl (iB (aA rfl) rS (zs := [.lit (.int .i64 0), .lit (.int .i64 0), .sl 5 ((([] : List aC)).map aB), .sl 3 ((([] : List aL)).map aH), .sl 3 ((([] : List aL)).map aH)]) rfl rfl rfl rfl (es := [.lit (.int .i64 3), .lit (.int .i64 2), .sl 5 ((([(aC.mk 1 0 10 500 false), (aC.mk 2 0 20 300 false), (aC.mk 3 0 30 100 true), (aC.mk 4 1 12 400 false), (aC.mk 5 1 40 200 false), (aC.mk 6 2 15 600 false)])).map aB), .sl 3 ((([(aL.mk 1 50 55)])).map aH), .sl 3 ((([(aL.mk 2 20 29)])).map aH)]) rfl) ?_
 refine tr1 rfl (bO (i := 0) rfl rfl rfl rfl rfl Try.sizeOf25 rfl (aA rfl) (Nat.le_of_ble_eq_true rfl) (ds' := (aN (aM.mk 3 2 ([(aC.mk 1 0 10 500 false), (aC.mk 2 0 20 300 false), (aC.mk 3 0 30 100 true), (aC.mk 4 1 12 400 false), (aC.mk 5 1 40 200 false), (aC.mk 6 2 15 600 false)]) ([(aL.mk 1 50 55)]) ([(aL.mk 2 20 29)])))) rfl) ?_
 refine aF ?_
 have h := Option.some.inj h
 subst h
 exact bI ⟨rfl, _, [.box b1 0 (aN (aM.mk 3 2 ([(aC.mk 1 0 10 500 false), (aC.mk 2 0 20 300 false), (aC.mk 3 0 30 100 true), (aC.mk 4 1 12 400 false), (aC.mk 5 1 40 200 false), (aC.mk 6 2 15 600 false)]) ([(aL.mk 1 50 55)]) ([(aL.mk 2 20 29)])))], .one (.cell 0 25 rfl (i := 0) rfl dZ (es := (aN (aM.mk 3 2 ([(aC.mk 1 0 10 500 false), (aC.mk 2 0 20 300 false), (aC.mk 3 0 30 100 true), (aC.mk 4 1 12 400 false), (aC.mk 5 1 40 200 false), (aC.mk 6 2 15 600 false)]) ([(aL.mk 1 50 55)]) ([(aL.mk 2 20 29)])))) rfl rfl), .refl _, .same _⟩

theorem eY (n_0 : Int) (low_1 : Int) (high_2 : Int) {r : Bool} (h : eO n_0 low_1 high_2 = some r) : Fn Try.prog 47 [.d (.lit (.int .i64 n_0)), .d (.lit (.int .i64 low_1)), .d (.lit (.int .i64 high_2))] (.d (.lit (.bool r))) := by
 unfold eO at h
 refine Fn.of_tr Try.func47 rfl (rs := [.tmp 6]) Try.results47 Try.ntmps47 (Nat.le_of_ble_eq_true rfl) ?_
 refine aG ?_
 refine aE ?_
 refine tr1 rfl (aJ (v := .d (.lit (.bool false))) (aA rfl) rfl rfl) ?_
 refine aF ?_
 refine aG ?_
 refine aE ?_
 refine tr1 rfl (aD (v := .d (.lit (.int .i64 low_1))) (aA rfl) rfl rfl) ?_
 refine tr1 rfl (aD (v := .d (.lit (.int .i64 n_0))) (aA rfl) rfl rfl) ?_
 refine tr1 rfl (bC (aA rfl) rfl rfl rfl) ?_
 refine tr1 rfl (aD (v := .d (.lit (.bool ((decide (low_1 ≤ n_0)))))) (aA rfl) rfl rfl) ?_
 obtain ⟨b1, h2, h⟩ := bind_some h
 refine cA 4 [] 14 b1 ?_ ?_
 ·refine bJ (decide (low_1 ≤ n_0)) (fun c3 => ?_) (fun c3 => ?_)
  ·have h2 := aU c3 h2
   refine aP rfl rfl (aA rfl) rfl c3 (aD (v := .d (.lit (.int .i64 n_0))) (aA rfl) rfl rfl) ?_
   refine aP rfl rfl (aA rfl) rfl c3 (aD (v := .d (.lit (.int .i64 high_2))) (aA rfl) rfl rfl) ?_
   refine aP rfl rfl (aA rfl) rfl c3 (bC (aA rfl) rfl rfl rfl) ?_
   refine tr1 rfl (bW (v := .d (.lit (.bool ((decide (n_0 ≤ high_2)))))) (aA rfl) rfl c3 rfl rfl) ?_
   have h2 := Option.some.inj h2
   subst h2
   refine aF (bB rfl trivial rfl)
  ·have h2 := aT c3 h2
   refine aR rfl rfl (aA rfl) rfl (aA rfl) rfl c3 ?_
   refine aR rfl rfl (aA rfl) rfl (aA rfl) rfl c3 ?_
   refine aR rfl rfl (aA rfl) rfl (aA rfl) rfl c3 ?_
   refine tr1 rfl (bT (v := .d (.lit (.bool false))) (aA rfl) rfl c3 rfl rfl) ?_
   have h2 := Option.some.inj h2
   subst h2
   refine aF (bB rfl trivial rfl)
 ·refine tr1 rfl (aJ (v := .d (.lit (.bool b1))) (aA rfl) rfl rfl) ?_
  refine aF ?_
  have h := Option.some.inj h
  subst h
  exact bI ⟨rfl, _, .one _, rfl, rfl⟩

theorem rR (s_0 : List aL) (f_1 : aL → Option Bool) {r : Int} (f_1_f : Nat) (f_1_v : List AV) (f_1_e : ∀ args w, (callFunc f_1_f args).run Try.prog w = .ok (.enter f_1_f args) w) (f_1_h : ∀ (x0 : aL) r, f_1 x0 = some r → Fn Try.prog f_1_f ([.agg (aH x0)] ++ f_1_v) (.d (.lit (.bool r)))) (h : gI s_0 f_1 = some r) : Fn Try.prog 97 [.d (.sl 3 (s_0.map aH)), .fn f_1_f f_1_v] (.d (.lit (.int .i64 r))) := by
 unfold gI at h
 refine Fn.of_tr Try.func97 rfl (rs := [.tmp 4]) Try.results97 Try.ntmps97 (Nat.le_of_ble_eq_true rfl) ?_
 refine aG ?_
 refine aE ?_
 refine tr1 rfl (aJ (v := .d (.lit (.int .i64 0))) (aA rfl) rfl rfl) ?_
 refine aF ?_
 refine aG ?_
 refine aG ?_
 refine aE ?_
 refine tr1 rfl (aD (v := .d (.sl 3 (s_0.map aH))) (aA rfl) rfl rfl) ?_
 refine tr1 rfl (dB (aA rfl) rfl eI.of) ?_
 refine tr1 rfl (aD (v := .d (.lit (.int .i64 0))) (aA rfl) rfl rfl) ?_
 refine aF ?_
 refine bQ ?_
 refine cH [0, 1, 7] (fun (s1 : Int) => [(8, .d (.lit (.int .i64 s1)))]) (fun (s1 : Int) => []) (fun (k : Nat) (s1 : Int) => eE s_0 f_1 (s_0.length : Int) k s1) (fun _ => rfl) (0) h (aX [] rfl rfl (aO rfl (aY ⟨rfl, rfl, rfl, trivial⟩))) ?_
 rintro k2 t8_0_1 h
 simp only [eE] at h
 refine aG ?_
 refine aE ?_
 refine tr1 rfl (bC (aA rfl) rfl rfl rfl) ?_
 refine aF ?_
 refine aG ?_
 refine bH rfl (fun c3 => ?_) (fun c3 => ?_)
 ·have h := aU c3 h
  refine bE ?_
  refine aG ?_
  refine bQ ?_
  refine aG ?_
  refine aE ?_
  refine tr1 rfl (aD (v := .d (.lit (.int .i64 t8_0_1))) (aA rfl) rfl rfl) ?_
  refine tr1 rfl (aJ (v := .d (.lit (.int .i64 t8_0_1))) (aA rfl) rfl rfl) ?_
  refine aF ?_
  refine aG ?_
  refine aE ?_
  refine tr1 rfl (aD (v := .fn f_1_f f_1_v) (aA rfl) rfl rfl) ?_
  refine tr1 rfl (aD (v := .d (.sl 3 (s_0.map aH))) (aA rfl) rfl rfl) ?_
  refine tr1 rfl (aD (v := .d (.lit (.int .i64 t8_0_1))) (aA rfl) rfl rfl) ?_
  obtain ⟨x4, h5, h⟩ := bind_some h
  refine tr1 rfl (bY (aA rfl) rfl rfl eI.of (bN aH h5)) ?_
  refine tr1 rfl (eH (aA rfl) rfl qZ (es := (aH x4)) rfl rfl) ?_
  obtain ⟨r6, h7, h⟩ := bind_some h
  refine tr1 rfl (cC (aA rfl) (.clo _ _ _ _ f_1_e rfl) (uB rfl) rfl (BVs.refl _ _) (f_1_h _ _  h7) rfl) ?_
  refine aF ?_
  refine bH rfl (fun c8 => ?_) (fun c8 => ?_)
  ·have h := aU c8 h
   refine aG ?_
   refine aE ?_
   refine tr1 rfl (aD (v := .d (.lit (.int .i64 t8_0_1))) (aA rfl) rfl rfl) ?_
   refine tr1 rfl (aJ (v := .d (.lit (.int .i64 t8_0_1))) (aA rfl) rfl rfl) ?_
   refine aF ?_
   have h := Option.some.inj h
   subst h
   exact bI ⟨rfl, _, .one _, rfl, rfl⟩
  ·have h := aT c8 h
   refine eF ?_
   refine aE ?_
   refine tr1 rfl (aZ (aA rfl) rfl rfl rfl) ?_
   refine tr1 rfl (aD (v := .d (.lit (.int .i64 ((w64 (t8_0_1 + 1)))))) (aA rfl) rfl rfl) ?_
   refine aF ?_
   exact ⟨(w64 (t8_0_1 + 1)), h, aX [] rfl rfl (aO rfl (aY ⟨rfl, rfl, rfl, trivial⟩))⟩
 ·have h := aT c3 h
  refine cQ ?_
  refine .inl ⟨rfl, ?_⟩
  simp only [jQ] at h
  refine aG ?_
  refine aE ?_
  refine tr1 rfl (aJ (v := .d (.lit (.int .i64 (-1)))) (aA rfl) rfl rfl) ?_
  refine aF ?_
  have h := Option.some.inj h
  subst h
  exact bI ⟨rfl, _, .one _, rfl, rfl⟩

theorem jE (s_0 : List aL) (f_1 : aL → Option Bool) {r : Bool} (f_1_f : Nat) (f_1_v : List AV) (f_1_e : ∀ args w, (callFunc f_1_f args).run Try.prog w = .ok (.enter f_1_f args) w) (f_1_h : ∀ (x0 : aL) r, f_1 x0 = some r → Fn Try.prog f_1_f ([.agg (aH x0)] ++ f_1_v) (.d (.lit (.bool r)))) (h : eD s_0 f_1 = some r) : Fn Try.prog 82 [.d (.sl 3 (s_0.map aH)), .fn f_1_f f_1_v] (.d (.lit (.bool r))) := by
 unfold eD at h
 refine Fn.of_tr Try.func82 rfl (rs := [.tmp 4]) Try.results82 Try.ntmps82 (Nat.le_of_ble_eq_true rfl) ?_
 refine aG ?_
 refine aE ?_
 refine tr1 rfl (aJ (v := .d (.lit (.bool false))) (aA rfl) rfl rfl) ?_
 refine aF ?_
 refine aG ?_
 refine aE ?_
 refine tr1 rfl (aD (v := .d (.sl 3 (s_0.map aH))) (aA rfl) rfl rfl) ?_
 refine tr1 rfl (aD (v := .fn f_1_f f_1_v) (aA rfl) rfl rfl) ?_
 obtain ⟨r1, h2, h⟩ := bind_some h
 refine tr1 rfl (cC (aA rfl) (.func _ _ Try.call97) rfl rfl (BVs.refl _ _) (rR _ _ f_1_f f_1_v f_1_e f_1_h h2) rfl) ?_
 refine tr1 rfl (bC (aA rfl) rfl rfl rfl) ?_
 refine tr1 rfl (aJ (v := .d (.lit (.bool ((decide (0 ≤ r1)))))) (aA rfl) rfl rfl) ?_
 refine aF ?_
 have h := Option.some.inj h
 subst h
 exact bI ⟨rfl, _, .one _, rfl, rfl⟩

theorem yA (a_0 : aL) (c_1 : aM) {r : Bool} (h : mD a_0 c_1 = some r) : Fn Try.prog 126 [.agg (aH a_0), .cp (aN c_1)] (.d (.lit (.bool r))) := by
 unfold mD at h
 refine Fn.of_tr Try.func126 rfl (rs := [.tmp 3]) Try.results126 Try.ntmps126 (Nat.le_of_ble_eq_true rfl) ?_
 refine aG ?_
 refine aE ?_
 refine bR rfl (fX (v := .agg (aH a_0)) (aA rfl) rfl rfl rfl) ?_
 rintro _ ⟨b1, rfl⟩
 refine tr1 rfl (aJ (v := .d (.lit (.bool false))) (aA rfl) rfl rfl) ?_
 refine aF ?_
 refine aG ?_
 refine aE ?_
 refine tr1 rfl (aS (aA rfl) rfl lZ) ?_
 refine tr1 rfl (aV (aA rfl) rfl (i := 0) rfl rfl bM) ?_
 refine tr1 rfl (cV (aA rfl) rfl jH (es := [.lit (.int .i64 c_1.Players)]) rfl) ?_
 refine tr1 rfl (cK (aA rfl) rfl bM) ?_
 refine tr1 rfl (aZ (aA rfl) rfl rfl rfl) ?_
 obtain ⟨r2, h3, h⟩ := bind_some h
 refine tr1 rfl (cC (aA rfl) (.func _ _ Try.call47) rfl rfl (BVs.refl _ _) (eY _ _ _ h3) rfl) ?_
 refine tr1 rfl (fO (aA rfl) rfl) ?_
 refine tr1 rfl (aD (v := .d (.lit (.bool (!r2)))) (aA rfl) rfl rfl) ?_
 obtain ⟨b4, h5, h⟩ := bind_some h
 refine cA 6 [2] 17 b4 ?_ ?_
 ·refine bJ (!r2) (fun c16 => ?_) (fun c16 => ?_)
  ·have h5 := aU c16 h5
   refine aR rfl rfl (aA rfl) rfl (aA rfl) rfl c16 ?_
   refine aR rfl rfl (aA rfl) rfl (aA rfl) rfl c16 ?_
   refine aR rfl rfl (aA rfl) rfl (aA rfl) rfl c16 ?_
   refine aR rfl rfl (aA rfl) rfl (aA rfl) rfl c16 ?_
   refine aR rfl rfl (aA rfl) rfl (aA rfl) rfl c16 ?_
   refine tr1 rfl (bW (v := .d (.lit (.bool true))) (aA rfl) rfl c16 rfl rfl) ?_
   have h5 := Option.some.inj h5
   subst h5
   refine aF (bB rfl ⟨rfl, trivial⟩ rfl)
  ·have h5 := aT c16 h5
   refine aP rfl rfl (aA rfl) rfl c16 (aS (aA rfl) rfl kK) ?_
   refine aP rfl rfl (aA rfl) rfl c16 (aV (aA rfl) rfl (i := 0) rfl rfl bM) ?_
   refine aP rfl rfl (aA rfl) rfl c16 (aS (aA rfl) rfl mA) ?_
   refine aP rfl rfl (aA rfl) rfl c16 (aV (aA rfl) rfl (i := 0) rfl rfl bM) ?_
   refine aP rfl rfl (aA rfl) rfl c16 (bC (aA rfl) rfl rfl rfl) ?_
   refine tr1 rfl (bT (v := .d (.lit (.bool ((decide (a_0.To < a_0.From)))))) (aA rfl) rfl c16 rfl rfl) ?_
   have h5 := Option.some.inj h5
   subst h5
   refine aF (bB rfl ⟨rfl, trivial⟩ rfl)
 ·refine tr1 rfl (aD (v := .d (.lit (.bool b4))) (aA rfl) rfl rfl) ?_
  obtain ⟨b6, h7, h⟩ := bind_some h
  refine cA 5 [2] 23 b6 ?_ ?_
  ·refine bJ (b4) (fun c13 => ?_) (fun c13 => ?_)
   ·have h7 := aU c13 h7
    refine aR rfl rfl (aA rfl) rfl (aA rfl) rfl c13 ?_
    refine aR rfl rfl (aA rfl) rfl (aA rfl) rfl c13 ?_
    refine aR rfl rfl (aA rfl) rfl (aA rfl) rfl c13 ?_
    refine aR rfl rfl (aA rfl) rfl (aA rfl) rfl c13 ?_
    refine tr1 rfl (bW (v := .d (.lit (.bool true))) (aA rfl) rfl c13 rfl rfl) ?_
    have h7 := Option.some.inj h7
    subst h7
    refine aF (bB rfl ⟨rfl, trivial⟩ rfl)
   ·have h7 := aT c13 h7
    refine aP rfl rfl (aA rfl) rfl c13 (aS (aA rfl) rfl kK) ?_
    refine aP rfl rfl (aA rfl) rfl c13 (aV (aA rfl) rfl (i := 0) rfl rfl bM) ?_
    obtain ⟨r14, h15, h7⟩ := bind_some h7
    refine aP rfl rfl (aA rfl) rfl c13 (cC (aA rfl) (.func _ _ Try.call47) rfl rfl (BVs.refl _ _) (eY _ _ _ h15) rfl) ?_
    refine aP rfl rfl (aA rfl) rfl c13 (fO (aA rfl) rfl) ?_
    refine tr1 rfl (bT (v := .d (.lit (.bool (!r14)))) (aA rfl) rfl c13 rfl rfl) ?_
    have h7 := Option.some.inj h7
    subst h7
    refine aF (bB rfl ⟨rfl, trivial⟩ rfl)
  ·refine tr1 rfl (aD (v := .d (.lit (.bool b6))) (aA rfl) rfl rfl) ?_
   obtain ⟨b8, h9, h⟩ := bind_some h
   refine cA 5 [] 29 b8 ?_ ?_
   ·refine bJ (b6) (fun c10 => ?_) (fun c10 => ?_)
    ·have h9 := aU c10 h9
     refine aR rfl rfl (aA rfl) rfl (aA rfl) rfl c10 ?_
     refine aR rfl rfl (aA rfl) rfl (aA rfl) rfl c10 ?_
     refine aR rfl rfl (aA rfl) rfl (aA rfl) rfl c10 ?_
     refine aR rfl rfl (aA rfl) rfl (aA rfl) rfl c10 ?_
     refine tr1 rfl (bW (v := .d (.lit (.bool true))) (aA rfl) rfl c10 rfl rfl) ?_
     have h9 := Option.some.inj h9
     subst h9
     refine aF (bB rfl trivial rfl)
    ·have h9 := aT c10 h9
     refine aP rfl rfl (aA rfl) rfl c10 (aS (aA rfl) rfl mA) ?_
     refine aP rfl rfl (aA rfl) rfl c10 (aV (aA rfl) rfl (i := 0) rfl rfl bM) ?_
     obtain ⟨r11, h12, h9⟩ := bind_some h9
     refine aP rfl rfl (aA rfl) rfl c10 (cC (aA rfl) (.func _ _ Try.call47) rfl rfl (BVs.refl _ _) (eY _ _ _ h12) rfl) ?_
     refine aP rfl rfl (aA rfl) rfl c10 (fO (aA rfl) rfl) ?_
     refine tr1 rfl (bT (v := .d (.lit (.bool (!r11)))) (aA rfl) rfl c10 rfl rfl) ?_
     have h9 := Option.some.inj h9
     subst h9
     refine aF (bB rfl trivial rfl)
   ·refine tr1 rfl (aJ (v := .d (.lit (.bool b8))) (aA rfl) rfl rfl) ?_
    refine aF ?_
    have h := Option.some.inj h
    subst h
    refine cR (cJ (cP (l := [3]) ⟨rfl, trivial⟩)) ?_
    exact bI ⟨rfl, _, .one _, rfl, rfl⟩

theorem uK (l_0 : aM) (all_1 : List aL) {r : Bool} (h : lX l_0 all_1 = some r) : Fn Try.prog 104 [.agg (aN l_0), .d (.sl 3 (all_1.map aH))] (.d (.lit (.bool r))) := by
 unfold lX at h
 refine Fn.of_tr Try.func104 rfl (rs := [.tmp 4]) Try.results104 Try.ntmps104 (Nat.le_of_ble_eq_true rfl) ?_
 refine aG ?_
 refine aE ?_
 refine bR rfl (fX (v := .agg (aN l_0)) (aA rfl) rfl rfl rfl) ?_
 rintro _ ⟨b1, rfl⟩
 refine tr1 rfl (aJ (v := .d (.lit (.bool false))) (aA rfl) rfl rfl) ?_
 refine aF ?_
 refine aG ?_
 refine aE ?_
 refine tr1 rfl (aD (v := .d (.sl 3 (all_1.map aH))) (aA rfl) rfl rfl) ?_
 refine tr1 rfl (dB (aA rfl) rfl eI.of) ?_
 refine tr1 rfl (bC (aA rfl) rfl rfl rfl) ?_
 refine tr1 rfl (aD (v := .d (.lit (.bool ((decide ((all_1.length : Int) ≤ 8)))))) (aA rfl) rfl rfl) ?_
 obtain ⟨b2, h3, h⟩ := bind_some h
 refine cA 5 [] 13 b2 ?_ ?_
 ·refine bJ (decide ((all_1.length : Int) ≤ 8)) (fun c4 => ?_) (fun c4 => ?_)
  ·have h3 := aU c4 h3
   refine aP rfl rfl (aA rfl) rfl c4 (aD (v := .d (.sl 3 (all_1.map aH))) (aA rfl) rfl rfl) ?_
   refine aP rfl rfl (aA rfl) rfl c4 (yC (aA rfl) rfl rfl) ?_
   obtain ⟨r6, h7, h3⟩ := bind_some h3
   refine aP rfl rfl (aA rfl) rfl c4 (cC (aA rfl) (.func _ _ Try.call82) rfl rfl (.cons (.same _) (.cons ((aCc (.cons ((qD 0 rfl rfl (dvc (.same _) (dvc (.same _) (dvc (.same _) (dvc (.same _) (dvc (.same _) dvn))))))) .nil))) .nil)) (jE _ _ 126 [.cp [.lit (.int .i64 l_0.Players), .lit (.int .i64 l_0.Counts), .sl 5 (l_0.Reports.map aB), .sl 3 (l_0.Bans.map aH), .sl 3 (l_0.Frozen.map aH)]] Try.call126 (fun _ _ h3 => yA _ _ h3) h7) rfl) ?_
   refine aP rfl rfl (aA rfl) rfl c4 (fO (aA rfl) rfl) ?_
   refine tr1 rfl (bW (v := .d (.lit (.bool (!r6)))) (aA rfl) rfl c4 rfl rfl) ?_
   have h3 := Option.some.inj h3
   subst h3
   refine aF (bB rfl trivial rfl)
  ·have h3 := aT c4 h3
   refine aR rfl rfl (aA rfl) rfl (aA rfl) rfl c4 ?_
   refine aR rfl rfl (aA rfl) rfl (aA rfl) rfl c4 ?_
   refine aR rfl rfl (aA rfl) rfl (aA rfl) rfl c4 ?_
   refine aR rfl rfl (aA rfl) rfl (aA rfl) rfl c4 ?_
   refine tr1 rfl (bT (v := .d (.lit (.bool false))) (aA rfl) rfl c4 rfl rfl) ?_
   have h3 := Option.some.inj h3
   subst h3
   refine aF (bB rfl trivial rfl)
 ·refine tr1 rfl (aJ (v := .d (.lit (.bool b2))) (aA rfl) rfl rfl) ?_
  refine aF ?_
  have h := Option.some.inj h
  subst h
  refine cR (cJ (cP (l := [4]) ⟨rfl, trivial⟩)) ?_
  exact bI ⟨rfl, _, .one _, rfl, rfl⟩

theorem yU (b_0 : aL) (c_1 : aL) {r : Bool} (h : mS b_0 c_1 = some r) : Fn Try.prog 105 [.agg (aH b_0), .cp (aH c_1)] (.d (.lit (.bool r))) := by
 unfold mS at h
 refine Fn.of_tr Try.func105 rfl (rs := [.tmp 3]) Try.results105 Try.ntmps105 (Nat.le_of_ble_eq_true rfl) ?_
 refine aG ?_
 refine aE ?_
 refine bR rfl (fX (v := .agg (aH b_0)) (aA rfl) rfl rfl rfl) ?_
 rintro _ ⟨b1, rfl⟩
 refine tr1 rfl (aJ (v := .d (.lit (.bool false))) (aA rfl) rfl rfl) ?_
 refine aF ?_
 refine aG ?_
 refine aE ?_
 refine tr1 rfl (cV (aA rfl) rfl lZ (es := [.lit (.int .i64 c_1.Player)]) rfl) ?_
 refine tr1 rfl (cK (aA rfl) rfl bM) ?_
 refine tr1 rfl (aS (aA rfl) rfl lZ) ?_
 refine tr1 rfl (aV (aA rfl) rfl (i := 0) rfl rfl bM) ?_
 refine tr1 rfl (bC (aA rfl) rfl rfl rfl) ?_
 refine tr1 rfl (aD (v := .d (.lit (.bool ((decide (c_1.Player = b_0.Player)))))) (aA rfl) rfl rfl) ?_
 obtain ⟨b2, h3, h⟩ := bind_some h
 refine cA 6 [1, 2] 15 b2 ?_ ?_
 ·refine bJ (decide (c_1.Player = b_0.Player)) (fun c7 => ?_) (fun c7 => ?_)
  ·have h3 := aU c7 h3
   refine aP rfl rfl (aA rfl) rfl c7 (cV (aA rfl) rfl kK (es := [.lit (.int .i64 c_1.From)]) rfl) ?_
   refine aP rfl rfl (aA rfl) rfl c7 (cK (aA rfl) rfl bM) ?_
   refine aP rfl rfl (aA rfl) rfl c7 (aS (aA rfl) rfl mA) ?_
   refine aP rfl rfl (aA rfl) rfl c7 (aV (aA rfl) rfl (i := 0) rfl rfl bM) ?_
   refine aP rfl rfl (aA rfl) rfl c7 (bC (aA rfl) rfl rfl rfl) ?_
   refine tr1 rfl (bW (v := .d (.lit (.bool ((decide (c_1.From ≤ b_0.To)))))) (aA rfl) rfl c7 rfl rfl) ?_
   have h3 := Option.some.inj h3
   subst h3
   refine aF (bB rfl ⟨rfl, rfl, trivial⟩ rfl)
  ·have h3 := aT c7 h3
   refine aR rfl rfl (aA rfl) rfl (aA rfl) rfl c7 ?_
   refine aR rfl rfl (aA rfl) rfl (aA rfl) rfl c7 ?_
   refine aR rfl rfl (aA rfl) rfl (aA rfl) rfl c7 ?_
   refine aR rfl rfl (aA rfl) rfl (aA rfl) rfl c7 ?_
   refine aR rfl rfl (aA rfl) rfl (aA rfl) rfl c7 ?_
   refine tr1 rfl (bT (v := .d (.lit (.bool false))) (aA rfl) rfl c7 rfl rfl) ?_
   have h3 := Option.some.inj h3
   subst h3
   refine aF (bB rfl ⟨rfl, rfl, trivial⟩ rfl)
 ·refine tr1 rfl (aD (v := .d (.lit (.bool b2))) (aA rfl) rfl rfl) ?_
  obtain ⟨b4, h5, h⟩ := bind_some h
  refine cA 6 [] 22 b4 ?_ ?_
  ·refine bJ (b2) (fun c6 => ?_) (fun c6 => ?_)
   ·have h5 := aU c6 h5
    refine aP rfl rfl (aA rfl) rfl c6 (aS (aA rfl) rfl kK) ?_
    refine aP rfl rfl (aA rfl) rfl c6 (aV (aA rfl) rfl (i := 0) rfl rfl bM) ?_
    refine aP rfl rfl (aA rfl) rfl c6 (cV (aA rfl) rfl mA (es := [.lit (.int .i64 c_1.To)]) rfl) ?_
    refine aP rfl rfl (aA rfl) rfl c6 (cK (aA rfl) rfl bM) ?_
    refine aP rfl rfl (aA rfl) rfl c6 (bC (aA rfl) rfl rfl rfl) ?_
    refine tr1 rfl (bW (v := .d (.lit (.bool ((decide (b_0.From ≤ c_1.To)))))) (aA rfl) rfl c6 rfl rfl) ?_
    have h5 := Option.some.inj h5
    subst h5
    refine aF (bB rfl trivial rfl)
   ·have h5 := aT c6 h5
    refine aR rfl rfl (aA rfl) rfl (aA rfl) rfl c6 ?_
    refine aR rfl rfl (aA rfl) rfl (aA rfl) rfl c6 ?_
    refine aR rfl rfl (aA rfl) rfl (aA rfl) rfl c6 ?_
    refine aR rfl rfl (aA rfl) rfl (aA rfl) rfl c6 ?_
    refine aR rfl rfl (aA rfl) rfl (aA rfl) rfl c6 ?_
    refine tr1 rfl (bT (v := .d (.lit (.bool false))) (aA rfl) rfl c6 rfl rfl) ?_
    have h5 := Option.some.inj h5
    subst h5
    refine aF (bB rfl trivial rfl)
  ·refine tr1 rfl (aJ (v := .d (.lit (.bool b4))) (aA rfl) rfl rfl) ?_
   refine aF ?_
   have h := Option.some.inj h
   subst h
   refine cR (cJ (cP (l := [3]) ⟨rfl, trivial⟩)) ?_
   exact bI ⟨rfl, _, .one _, rfl, rfl⟩

theorem aAk (l_0 : aM) {r : Bool} (h : oA l_0 = some r) : Fn Try.prog 89 [.agg (aN l_0)] (.d (.lit (.bool r))) := by
 unfold oA at h
 refine Fn.of_tr Try.func89 rfl (rs := [.tmp 2]) Try.results89 Try.ntmps89 (Nat.le_of_ble_eq_true rfl) ?_
 refine aG ?_
 refine aE ?_
 refine bR rfl (fX (v := .agg (aN l_0)) (aA rfl) rfl rfl rfl) ?_
 rintro _ ⟨b1, rfl⟩
 refine tr1 rfl (aJ (v := .d (.lit (.bool false))) (aA rfl) rfl rfl) ?_
 refine aF ?_
 refine aG ?_
 refine aG ?_
 refine aE ?_
 refine tr1 rfl (aS (aA rfl) rfl jH) ?_
 refine tr1 rfl (aV (aA rfl) rfl (i := 0) rfl rfl bM) ?_
 obtain ⟨r2, h3, h⟩ := bind_some h
 refine tr1 rfl (cC (aA rfl) (.func _ _ Try.call47) rfl rfl (BVs.refl _ _) (eY _ _ _ h3) rfl) ?_
 refine tr1 rfl (fO (aA rfl) rfl) ?_
 refine tr1 rfl (aD (v := .d (.lit (.bool (!r2)))) (aA rfl) rfl rfl) ?_
 obtain ⟨b4, h5, h⟩ := bind_some h
 refine cA 5 [1] 16 b4 ?_ ?_
 ·refine bJ (!r2) (fun c54 => ?_) (fun c54 => ?_)
  ·have h5 := aU c54 h5
   refine aR rfl rfl (aA rfl) rfl (aA rfl) rfl c54 ?_
   refine aR rfl rfl (aA rfl) rfl (aA rfl) rfl c54 ?_
   refine aR rfl rfl (aA rfl) rfl (aA rfl) rfl c54 ?_
   refine aR rfl rfl (aA rfl) rfl (aA rfl) rfl c54 ?_
   refine tr1 rfl (bW (v := .d (.lit (.bool true))) (aA rfl) rfl c54 rfl rfl) ?_
   have h5 := Option.some.inj h5
   subst h5
   refine aF (bB rfl ⟨rfl, trivial⟩ rfl)
  ·have h5 := aT c54 h5
   refine aP rfl rfl (aA rfl) rfl c54 (aS (aA rfl) rfl uE) ?_
   refine aP rfl rfl (aA rfl) rfl c54 (aV (aA rfl) rfl (i := 0) rfl rfl bM) ?_
   obtain ⟨r55, h56, h5⟩ := bind_some h5
   refine aP rfl rfl (aA rfl) rfl c54 (cC (aA rfl) (.func _ _ Try.call47) rfl rfl (BVs.refl _ _) (eY _ _ _ h56) rfl) ?_
   refine aP rfl rfl (aA rfl) rfl c54 (fO (aA rfl) rfl) ?_
   refine tr1 rfl (bT (v := .d (.lit (.bool (!r55)))) (aA rfl) rfl c54 rfl rfl) ?_
   have h5 := Option.some.inj h5
   subst h5
   refine aF (bB rfl ⟨rfl, trivial⟩ rfl)
 ·refine tr1 rfl (aD (v := .d (.lit (.bool b4))) (aA rfl) rfl rfl) ?_
  obtain ⟨b6, h7, h⟩ := bind_some h
  refine cA 5 [1] 22 b6 ?_ ?_
  ·refine bJ (b4) (fun c53 => ?_) (fun c53 => ?_)
   ·have h7 := aU c53 h7
    refine aR rfl rfl (aA rfl) rfl (aA rfl) rfl c53 ?_
    refine aR rfl rfl (aA rfl) rfl (aA rfl) rfl c53 ?_
    refine aR rfl rfl (aA rfl) rfl (aA rfl) rfl c53 ?_
    refine aR rfl rfl (aA rfl) rfl (aA rfl) rfl c53 ?_
    refine tr1 rfl (bW (v := .d (.lit (.bool true))) (aA rfl) rfl c53 rfl rfl) ?_
    have h7 := Option.some.inj h7
    subst h7
    refine aF (bB rfl ⟨rfl, trivial⟩ rfl)
   ·have h7 := aT c53 h7
    refine aP rfl rfl (aA rfl) rfl c53 (aS (aA rfl) rfl dI) ?_
    refine aP rfl rfl (aA rfl) rfl c53 (aV (aA rfl) rfl (i := 0) rfl rfl fR) ?_
    refine aP rfl rfl (aA rfl) rfl c53 (dB (aA rfl) rfl bP.of) ?_
    refine aP rfl rfl (aA rfl) rfl c53 (bC (aA rfl) rfl rfl rfl) ?_
    refine tr1 rfl (bT (v := .d (.lit (.bool ((decide (40 < (l_0.Reports.length : Int))))))) (aA rfl) rfl c53 rfl rfl) ?_
    have h7 := Option.some.inj h7
    subst h7
    refine aF (bB rfl ⟨rfl, trivial⟩ rfl)
  ·refine aF ?_
   refine bH rfl (fun c8 => ?_) (fun c8 => ?_)
   ·have h := aU c8 h
    refine aG ?_
    refine aE ?_
    refine tr1 rfl (aJ (v := .d (.lit (.bool false))) (aA rfl) rfl rfl) ?_
    refine aF ?_
    have h := Option.some.inj h
    subst h
    refine cR (cJ (cP (l := [2]) ⟨rfl, trivial⟩)) ?_
    exact bI ⟨rfl, _, .one _, rfl, rfl⟩
   ·have h := aT c8 h
    refine bE ?_
    refine aG ?_
    refine aG ?_
    refine aE ?_
    refine tr1 rfl (aS (aA rfl) rfl dI) ?_
    refine tr1 rfl (aV (aA rfl) rfl (i := 0) rfl rfl fR) ?_
    refine tr1 rfl (dB (aA rfl) rfl bP.of) ?_
    refine tr1 rfl (aD (v := .d (.lit (.int .i64 0))) (aA rfl) rfl rfl) ?_
    refine aF ?_
    refine bQ ?_
    refine cH [1, 24, 25] (fun (s9 : Int) => [(26, .d (.lit (.int .i64 s9)))]) (fun (s9 : Int) => [.box b1 0 (aN l_0)]) (fun (k : Nat) (s9 : Int) => iJ l_0.Reports (l_0.Reports.length : Int) l_0 k s9) (fun _ => rfl) (0) h (aX [0] rfl rfl (aO rfl (aY ⟨rfl, rfl, rfl, trivial⟩))) ?_
    rintro k10 t26_0_9 h
    simp only [iJ] at h
    refine aG ?_
    refine aE ?_
    refine tr1 rfl (bC (aA rfl) rfl rfl rfl) ?_
    refine aF ?_
    refine aG ?_
    refine bH rfl (fun c11 => ?_) (fun c11 => ?_)
    ·have h := aU c11 h
     refine bE ?_
     refine aG ?_
     refine bQ ?_
     refine aG ?_
     refine aE ?_
     obtain ⟨x12, h13, h⟩ := bind_some h
     refine tr1 rfl (bY (aA rfl) rfl rfl bP.of (bN aB h13)) ?_
     refine tr1 rfl (eH (aA rfl) rfl dR (es := (aB x12)) rfl rfl) ?_
     refine bR rfl (fF (zs := [.lit (.int .i64 0), .lit (.int .i64 0), .lit (.int .i64 0), .lit (.int .i64 0), .lit (.bool false)]) (aA rfl) Try.zeroValue42 rfl rfl) ?_
     rintro _ ⟨b14, rfl⟩
     refine tr1 rfl (bO (i := 1) rfl rfl rfl rfl rfl Try.sizeOf42 rfl (aA rfl) (Nat.le_of_ble_eq_true rfl) (ds' := (aB x12)) rfl) ?_
     refine aF ?_
     refine aG ?_
     refine aE ?_
     refine tr1 rfl (aS (aA rfl) rfl jR) ?_
     refine tr1 rfl (aV (aA rfl) rfl (i := 1) rfl rfl bM) ?_
     obtain ⟨r15, h16, h⟩ := bind_some h
     refine tr1 rfl (cC (aA rfl) (.func _ _ Try.call47) rfl rfl (BVs.refl _ _) (eY _ _ _ h16) rfl) ?_
     refine tr1 rfl (fO (aA rfl) rfl) ?_
     refine tr1 rfl (aD (v := .d (.lit (.bool (!r15)))) (aA rfl) rfl rfl) ?_
     obtain ⟨b17, h18, h⟩ := bind_some h
     refine cA 8 [1, 4, 24, 25, 26] 42 b17 ?_ ?_
     ·refine bJ (!r15) (fun c30 => ?_) (fun c30 => ?_)
      ·have h18 := aU c30 h18
       refine aR rfl rfl (aA rfl) rfl (aA rfl) rfl c30 ?_
       refine aR rfl rfl (aA rfl) rfl (aA rfl) rfl c30 ?_
       refine aR rfl rfl (aA rfl) rfl (aA rfl) rfl c30 ?_
       refine aR rfl rfl (aA rfl) rfl (aA rfl) rfl c30 ?_
       refine aR rfl rfl (aA rfl) rfl (aA rfl) rfl c30 ?_
       refine aR rfl rfl (aA rfl) rfl (aA rfl) rfl c30 ?_
       refine aR rfl rfl (aA rfl) rfl (aA rfl) rfl c30 ?_
       refine tr1 rfl (bW (v := .d (.lit (.bool true))) (aA rfl) rfl c30 rfl rfl) ?_
       have h18 := Option.some.inj h18
       subst h18
       refine aF (bB rfl ⟨rfl, rfl, rfl, rfl, rfl, trivial⟩ rfl)
      ·have h18 := aT c30 h18
       refine aP rfl rfl (aA rfl) rfl c30 (aS (aA rfl) rfl qL) ?_
       refine aP rfl rfl (aA rfl) rfl c30 (aV (aA rfl) rfl (i := 1) rfl rfl bM) ?_
       refine aP rfl rfl (aA rfl) rfl c30 (aS (aA rfl) rfl jH) ?_
       refine aP rfl rfl (aA rfl) rfl c30 (aV (aA rfl) rfl (i := 0) rfl rfl bM) ?_
       refine aP rfl rfl (aA rfl) rfl c30 (aZ (aA rfl) rfl rfl rfl) ?_
       obtain ⟨r31, h32, h18⟩ := bind_some h18
       refine aP rfl rfl (aA rfl) rfl c30 (cC (aA rfl) (.func _ _ Try.call47) rfl rfl (BVs.refl _ _) (eY _ _ _ h32) rfl) ?_
       refine aP rfl rfl (aA rfl) rfl c30 (fO (aA rfl) rfl) ?_
       refine tr1 rfl (bT (v := .d (.lit (.bool (!r31)))) (aA rfl) rfl c30 rfl rfl) ?_
       have h18 := Option.some.inj h18
       subst h18
       refine aF (bB rfl ⟨rfl, rfl, rfl, rfl, rfl, trivial⟩ rfl)
     ·refine tr1 rfl (aD (v := .d (.lit (.bool b17))) (aA rfl) rfl rfl) ?_
      obtain ⟨b19, h20, h⟩ := bind_some h
      refine cA 5 [1, 4, 24, 25, 26] 48 b19 ?_ ?_
      ·refine bJ (b17) (fun c27 => ?_) (fun c27 => ?_)
       ·have h20 := aU c27 h20
        refine aR rfl rfl (aA rfl) rfl (aA rfl) rfl c27 ?_
        refine aR rfl rfl (aA rfl) rfl (aA rfl) rfl c27 ?_
        refine aR rfl rfl (aA rfl) rfl (aA rfl) rfl c27 ?_
        refine aR rfl rfl (aA rfl) rfl (aA rfl) rfl c27 ?_
        refine tr1 rfl (bW (v := .d (.lit (.bool true))) (aA rfl) rfl c27 rfl rfl) ?_
        have h20 := Option.some.inj h20
        subst h20
        refine aF (bB rfl ⟨rfl, rfl, rfl, rfl, rfl, trivial⟩ rfl)
       ·have h20 := aT c27 h20
        refine aP rfl rfl (aA rfl) rfl c27 (aS (aA rfl) rfl nE) ?_
        refine aP rfl rfl (aA rfl) rfl c27 (aV (aA rfl) rfl (i := 1) rfl rfl bM) ?_
        obtain ⟨r28, h29, h20⟩ := bind_some h20
        refine aP rfl rfl (aA rfl) rfl c27 (cC (aA rfl) (.func _ _ Try.call47) rfl rfl (BVs.refl _ _) (eY _ _ _ h29) rfl) ?_
        refine aP rfl rfl (aA rfl) rfl c27 (fO (aA rfl) rfl) ?_
        refine tr1 rfl (bT (v := .d (.lit (.bool (!r28)))) (aA rfl) rfl c27 rfl rfl) ?_
        have h20 := Option.some.inj h20
        subst h20
        refine aF (bB rfl ⟨rfl, rfl, rfl, rfl, rfl, trivial⟩ rfl)
      ·refine tr1 rfl (aD (v := .d (.lit (.bool b19))) (aA rfl) rfl rfl) ?_
       obtain ⟨b21, h22, h⟩ := bind_some h
       refine cA 5 [1, 24, 25, 26] 54 b21 ?_ ?_
       ·refine bJ (b19) (fun c24 => ?_) (fun c24 => ?_)
        ·have h22 := aU c24 h22
         refine aR rfl rfl (aA rfl) rfl (aA rfl) rfl c24 ?_
         refine aR rfl rfl (aA rfl) rfl (aA rfl) rfl c24 ?_
         refine aR rfl rfl (aA rfl) rfl (aA rfl) rfl c24 ?_
         refine aR rfl rfl (aA rfl) rfl (aA rfl) rfl c24 ?_
         refine tr1 rfl (bW (v := .d (.lit (.bool true))) (aA rfl) rfl c24 rfl rfl) ?_
         have h22 := Option.some.inj h22
         subst h22
         refine aF (bB rfl ⟨rfl, rfl, rfl, rfl, trivial⟩ rfl)
        ·have h22 := aT c24 h22
         refine aP rfl rfl (aA rfl) rfl c24 (aS (aA rfl) rfl rZ) ?_
         refine aP rfl rfl (aA rfl) rfl c24 (aV (aA rfl) rfl (i := 1) rfl rfl bM) ?_
         obtain ⟨r25, h26, h22⟩ := bind_some h22
         refine aP rfl rfl (aA rfl) rfl c24 (cC (aA rfl) (.func _ _ Try.call47) rfl rfl (BVs.refl _ _) (eY _ _ _ h26) rfl) ?_
         refine aP rfl rfl (aA rfl) rfl c24 (fO (aA rfl) rfl) ?_
         refine tr1 rfl (bT (v := .d (.lit (.bool (!r25)))) (aA rfl) rfl c24 rfl rfl) ?_
         have h22 := Option.some.inj h22
         subst h22
         refine aF (bB rfl ⟨rfl, rfl, rfl, rfl, trivial⟩ rfl)
       ·refine aF ?_
        refine bH rfl (fun c23 => ?_) (fun c23 => ?_)
        ·have h := aU c23 h
         refine aG ?_
         refine aE ?_
         refine tr1 rfl (aJ (v := .d (.lit (.bool false))) (aA rfl) rfl rfl) ?_
         refine aF ?_
         have h := Option.some.inj h
         subst h
         refine cR (cJ (cP (l := [2]) ⟨rfl, trivial⟩)) ?_
         exact bI ⟨rfl, _, .one _, rfl, rfl⟩
        ·have h := aT c23 h
         refine eF ?_
         refine aE ?_
         refine tr1 rfl (aZ (aA rfl) rfl rfl rfl) ?_
         refine tr1 rfl (aD (v := .d (.lit (.int .i64 ((w64 (t26_0_9 + 1)))))) (aA rfl) rfl rfl) ?_
         refine aF ?_
         exact ⟨(w64 (t26_0_9 + 1)), h, aX [0] rfl rfl (aO rfl (aY ⟨rfl, rfl, rfl, trivial⟩))⟩
    ·have h := aT c11 h
     refine cQ ?_
     refine .inl ⟨rfl, ?_⟩
     simp only [qR] at h
     refine aG ?_
     refine aG ?_
     refine aE ?_
     refine tr1 rfl (cS (aA rfl) rfl (i := 0) rfl dZ (es := (aN l_0)) rfl rfl) ?_
     refine tr1 rfl (aS (aA rfl) rfl jI) ?_
     refine tr1 rfl (aV (aA rfl) rfl (i := 0) rfl rfl fV) ?_
     obtain ⟨r33, h34, h⟩ := bind_some h
     refine tr1 rfl (cC (aA rfl) (.func _ _ Try.call104) rfl rfl (BVs.refl _ _) (uK _ _ h34) rfl) ?_
     refine tr1 rfl (fO (aA rfl) rfl) ?_
     refine tr1 rfl (aD (v := .d (.lit (.bool (!r33)))) (aA rfl) rfl rfl) ?_
     obtain ⟨b35, h36, h⟩ := bind_some h
     refine cA 6 [1] 67 b35 ?_ ?_
     ·refine bJ (!r33) (fun c50 => ?_) (fun c50 => ?_)
      ·have h36 := aU c50 h36
       refine aR rfl rfl (aA rfl) rfl (aA rfl) rfl c50 ?_
       refine aR rfl rfl (aA rfl) rfl (aA rfl) rfl c50 ?_
       refine aR rfl rfl (aA rfl) rfl (aA rfl) rfl c50 ?_
       refine aR rfl rfl (aA rfl) rfl (aA rfl) rfl c50 ?_
       refine aR rfl rfl (aA rfl) rfl (aA rfl) rfl c50 ?_
       refine tr1 rfl (bW (v := .d (.lit (.bool true))) (aA rfl) rfl c50 rfl rfl) ?_
       have h36 := Option.some.inj h36
       subst h36
       refine aF (bB rfl ⟨rfl, trivial⟩ rfl)
      ·have h36 := aT c50 h36
       refine aP rfl rfl (aA rfl) rfl c50 (cS (aA rfl) rfl (i := 0) rfl dZ (es := (aN l_0)) rfl rfl) ?_
       refine aP rfl rfl (aA rfl) rfl c50 (aS (aA rfl) rfl hH) ?_
       refine aP rfl rfl (aA rfl) rfl c50 (aV (aA rfl) rfl (i := 0) rfl rfl fV) ?_
       obtain ⟨r51, h52, h36⟩ := bind_some h36
       refine aP rfl rfl (aA rfl) rfl c50 (cC (aA rfl) (.func _ _ Try.call104) rfl rfl (BVs.refl _ _) (uK _ _ h52) rfl) ?_
       refine aP rfl rfl (aA rfl) rfl c50 (fO (aA rfl) rfl) ?_
       refine tr1 rfl (bT (v := .d (.lit (.bool (!r51)))) (aA rfl) rfl c50 rfl rfl) ?_
       have h36 := Option.some.inj h36
       subst h36
       refine aF (bB rfl ⟨rfl, trivial⟩ rfl)
     ·refine aF ?_
      refine bH rfl (fun c37 => ?_) (fun c37 => ?_)
      ·have h := aU c37 h
       refine aG ?_
       refine aE ?_
       refine tr1 rfl (aJ (v := .d (.lit (.bool false))) (aA rfl) rfl rfl) ?_
       refine aF ?_
       have h := Option.some.inj h
       subst h
       refine cR (cJ (cP (l := [2]) ⟨rfl, trivial⟩)) ?_
       exact bI ⟨rfl, _, .one _, rfl, rfl⟩
      ·have h := aT c37 h
       refine bE ?_
       refine aG ?_
       refine aG ?_
       refine aE ?_
       refine tr1 rfl (aS (aA rfl) rfl hH) ?_
       refine tr1 rfl (aV (aA rfl) rfl (i := 0) rfl rfl fV) ?_
       refine tr1 rfl (dB (aA rfl) rfl eI.of) ?_
       refine tr1 rfl (aD (v := .d (.lit (.int .i64 0))) (aA rfl) rfl rfl) ?_
       refine aF ?_
       refine bQ ?_
       refine cH [1, 69, 70] (fun (s38 : Int) => [(71, .d (.lit (.int .i64 s38)))]) (fun (s38 : Int) => [.box b1 0 (aN l_0)]) (fun (k : Nat) (s38 : Int) => iK l_0.Frozen (l_0.Frozen.length : Int) l_0 k s38) (fun _ => rfl) (0) h (aX [0] rfl rfl (aO rfl (aY ⟨rfl, rfl, rfl, trivial⟩))) ?_
       rintro k39 t71_2_38 h
       simp only [iK] at h
       refine aG ?_
       refine aE ?_
       refine tr1 rfl (bC (aA rfl) rfl rfl rfl) ?_
       refine aF ?_
       refine aG ?_
       refine bH rfl (fun c40 => ?_) (fun c40 => ?_)
       ·have h := aU c40 h
        refine bE ?_
        refine aG ?_
        refine bQ ?_
        refine aG ?_
        refine aE ?_
        refine tr1 rfl (aD (v := .d (.lit (.int .i64 t71_2_38))) (aA rfl) rfl rfl) ?_
        obtain ⟨x41, h42, h⟩ := bind_some h
        refine tr1 rfl (bY (aA rfl) rfl rfl eI.of (bN aH h42)) ?_
        refine tr1 rfl (eH (aA rfl) rfl qZ (es := (aH x41)) rfl rfl) ?_
        refine bR rfl (fF (zs := [.lit (.int .i64 0), .lit (.int .i64 0), .lit (.int .i64 0)]) (aA rfl) Try.zeroValue66 rfl rfl) ?_
        rintro _ ⟨b43, rfl⟩
        refine tr1 rfl (aJ (v := .d (.lit (.int .i64 t71_2_38))) (aA rfl) rfl rfl) ?_
        refine tr1 rfl (bO (i := 1) rfl rfl rfl rfl rfl Try.sizeOf66 rfl (aA rfl) (Nat.le_of_ble_eq_true rfl) (ds' := (aH x41)) rfl) ?_
        refine aF ?_
        refine aG ?_
        refine aE ?_
        refine tr1 rfl (aS (aA rfl) rfl hH) ?_
        refine tr1 rfl (aV (aA rfl) rfl (i := 0) rfl rfl fV) ?_
        refine tr1 rfl (aD (v := .d (.lit (.int .i64 t71_2_38))) (aA rfl) rfl rfl) ?_
        obtain ⟨x44, h45, h⟩ := bind_some h
        refine tr1 rfl (mT (aA rfl) eI.of rfl rfl rfl (pM aH h45)) ?_
        refine tr1 rfl (yC (aA rfl) rfl rfl) ?_
        obtain ⟨r47, h48, h⟩ := bind_some h
        refine tr1 rfl (cC (aA rfl) (.func _ _ Try.call82) rfl rfl (.cons (.same _) (.cons ((aCc (.cons ((qD 1 rfl rfl (dvc (.same _) (dvc (.same _) (dvc (.same _) dvn))))) .nil))) .nil)) (jE _ _ 105 [.cp [.lit (.int .i64 x41.Player), .lit (.int .i64 x41.From), .lit (.int .i64 x41.To)]] Try.call105 (fun _ _ h => yU _ _ h) h48) rfl) ?_
        refine aF ?_
        refine bH rfl (fun c49 => ?_) (fun c49 => ?_)
        ·have h := aU c49 h
         refine aG ?_
         refine aE ?_
         refine tr1 rfl (aJ (v := .d (.lit (.bool false))) (aA rfl) rfl rfl) ?_
         refine aF ?_
         have h := Option.some.inj h
         subst h
         refine cR (cJ (cP (l := [2]) ⟨rfl, trivial⟩)) ?_
         exact bI ⟨rfl, _, .one _, rfl, rfl⟩
        ·have h := aT c49 h
         refine eF ?_
         refine aE ?_
         refine tr1 rfl (aZ (aA rfl) rfl rfl rfl) ?_
         refine tr1 rfl (aD (v := .d (.lit (.int .i64 ((w64 (t71_2_38 + 1)))))) (aA rfl) rfl rfl) ?_
         refine aF ?_
         exact ⟨(w64 (t71_2_38 + 1)), h, aX [0] rfl rfl (aO rfl (aY ⟨rfl, rfl, rfl, trivial⟩))⟩
       ·have h := aT c40 h
        refine cQ ?_
        refine .inl ⟨rfl, ?_⟩
        simp only [qS] at h
        refine aG ?_
        refine aE ?_
        refine tr1 rfl (aJ (v := .d (.lit (.bool true))) (aA rfl) rfl rfl) ?_
        refine aF ?_
        have h := Option.some.inj h
        subst h
        refine cR (cJ (cP (l := [2]) ⟨rfl, trivial⟩)) ?_
        exact bI ⟨rfl, _, .one _, rfl, rfl⟩

theorem oB (s_0 : List aC) {r : (List aC)} (h : eZ s_0 = some r) : fQ Try.prog 91 [.d (.sl 5 (s_0.map aB))] [] (fun r' o' => ∃ (w0 : Value), r' = .d (.lit w0) ∧ o' = [.arr w0 42 5 (r.map aB)]) := by
 unfold eZ at h
 refine kQ Try.func91 rfl (rs := [.tmp 2]) Try.results91 Try.ntmps91 (Nat.le_of_ble_eq_true rfl) ?_
 refine aG ?_
 refine aE ?_
 refine tr1 rfl (iL 42 5 (.inl rfl) (aA rfl)) ?_
 refine aF ?_
 refine aG ?_
 refine aG ?_
 refine aE ?_
 refine tr1 rfl (aD (v := .d (.sl 5 (s_0.map aB))) (aA rfl) rfl rfl) ?_
 refine bR rfl (aAo (aA rfl) rfl rfl Try.underlying22) ?_
 rintro _ ⟨b2, h3, rfl⟩
 refine aF ?_
 refine bH rfl (fun c4 => ?_) (fun c4 => ?_)
 ·obtain rfl := aAe (h3 c4)
  simp [app] at h
  subst h
  refine aG ?_
  refine aE ?_
  refine tr1 rfl (iL 42 5 (.inl rfl) (aA rfl)) ?_
  refine aF ?_
  refine cR (aX [1, 0] rfl rfl (le_refl _)) ?_
  exact bI ⟨rfl, _, [.arr (.slice none 0 0) 42 5 (([] : List aC).map aB)], [.arr (.slice none 0 0) 42 5 (([] : List aC).map aB)], _, .one (.tmp 2 (v := .d (.lit (.slice none 0 0))) rfl), .refl _, .same _, (.slice none 0 0), rfl, rfl⟩
 ·refine bE ?_
  refine aG ?_
  refine aE ?_
  refine bR rfl (vI (aA rfl) bP rfl rfl (rows := (([] : List aC)).map aB) rfl (cY (f := aB) fun _ => rfl) rfl (by decide)) ?_
  rintro _ ⟨v5, rfl⟩
  refine tr1 rfl (aD (v := .d (.sl 5 (s_0.map aB))) (aA rfl) rfl rfl) ?_
  obtain ⟨x6, h7, h⟩ := bind_some h
  refine bR rfl (kA (i := 1) (aA rfl) bP rfl rfl rfl (fun _ => rfl) h7 rfl) ?_
  rintro _ ⟨v8, rfl⟩
  refine tr1 rfl (aJ (v := .d (.lit v8)) (aA rfl) rfl rfl) ?_
  refine aF ?_
  have h := Option.some.inj h
  subst h
  refine cR (aX [1, 0] rfl rfl (le_refl _)) ?_
  exact bI ⟨rfl, _, [.arr v8 42 5 (x6.map aB)], [.arr (.slice none 0 0) 42 5 (([] : List aC).map aB)], _, .one (.tmp 2 (v := .d (.lit v8)) rfl), .refl _, .same _, v8, rfl, rfl⟩

theorem jT (data_0 : List aC) (a_1 : Int) (b_2 : Int) (cmp_3 : aC → aC → Option Int) {r : (List aC)} {data_0_v : Value} (cmp_3_f : Nat) (cmp_3_v : List AV) (cmp_3_e : ∀ args w, (callFunc cmp_3_f args).run Try.prog w = .ok (.enter cmp_3_f args) w) (cmp_3_h : ∀ (x0 : aC) (x1 : aC) r, cmp_3 x0 x1 = some r → Fn Try.prog cmp_3_f ([.agg (aB x0), .agg (aB x1)] ++ cmp_3_v) (.d (.lit (.int .i64 r)))) (h : dJ data_0 a_1 b_2 cmp_3 = some r) : fQ Try.prog 127 [.d (.lit data_0_v), .d (.lit (.int .i64 a_1)), .d (.lit (.int .i64 b_2)), .fn cmp_3_f cmp_3_v] [.arr data_0_v 42 5 (data_0.map aB)] (fun r' o' => r' = .tup [] ∧ o' = [.arr data_0_v 42 5 (r.map aB)]) := by
 unfold dJ at h
 refine jC Try.func127 rfl (rs := []) Try.results127 Try.ntmps127 (Nat.le_of_ble_eq_true rfl) ?_
 refine aG ?_
 refine aE ?_
 refine tr1 rfl (aD (v := .d (.lit (.int .i64 a_1))) (aA rfl) rfl rfl) ?_
 refine tr1 rfl (aZ (aA rfl) rfl rfl rfl) ?_
 refine tr1 rfl (aJ (v := .d (.lit (.int .i64 ((w64 (a_1 + 1)))))) (aA rfl) rfl rfl) ?_
 refine aF ?_
 refine bQ ?_
 refine cH [1, 2, 3] (fun (s1 : Int × (List aC)) => [(0, .d (.lit data_0_v)), (8, .d (.lit (.int .i64 s1.1)))]) (fun (s1 : Int × (List aC)) => [.arr data_0_v 42 5 (s1.2.map aB)]) (fun (k : Nat) (s1 : Int × (List aC)) => cF a_1 b_2 cmp_3 k s1.1 s1.2) (fun _ => rfl) (w64 (a_1 + 1), data_0) h (aX [0] rfl rfl (aO rfl (aO rfl (aY ⟨rfl, rfl, rfl, trivial⟩)))) ?_
 rintro k2 ⟨i_0_1, data_0_1⟩ h
 simp only [cF] at h
 refine aG ?_
 refine aG ?_
 refine aE ?_
 refine tr1 rfl (aD (v := .d (.lit (.int .i64 i_0_1))) (aA rfl) rfl rfl) ?_
 refine tr1 rfl (aD (v := .d (.lit (.int .i64 b_2))) (aA rfl) rfl rfl) ?_
 refine tr1 rfl (bC (aA rfl) rfl rfl rfl) ?_
 refine aF ?_
 refine bH rfl (fun c3 => ?_) (fun c3 => ?_)
 ·have h := aU c3 h
  refine bE ?_
  refine aG ?_
  refine bQ ?_
  refine aG ?_
  refine aE ?_
  refine tr1 rfl (aD (v := .d (.lit (.int .i64 i_0_1))) (aA rfl) rfl rfl) ?_
  refine tr1 rfl (aJ (v := .d (.lit (.int .i64 i_0_1))) (aA rfl) rfl rfl) ?_
  refine aF ?_
  refine yQ ?_
  refine cH [1, 2, 3, 8] (fun (s4 : Int × (List aC)) => [(0, .d (.lit data_0_v)), (9, .d (.lit (.int .i64 s4.1)))]) (fun (s4 : Int × (List aC)) => [.arr data_0_v 42 5 (s4.2.map aB)]) (fun (k : Nat) (s4 : Int × (List aC)) => cT (cF a_1 b_2 cmp_3 k2) a_1 b_2 cmp_3 i_0_1 k s4.1 s4.2) (fun _ => rfl) (i_0_1, data_0_1) h (aX [0] rfl rfl (aO rfl (aO rfl (aY ⟨rfl, rfl, rfl, rfl, trivial⟩)))) ?_
  rintro k5 ⟨j_2_4, data_2_4⟩ h
  simp only [cT] at h
  refine aG ?_
  refine aG ?_
  obtain ⟨b6, h7, h⟩ := bind_some h
  refine fU mix 17 [0, 1, 2, 3, 8, 9] [(34, .d (.lit (.bool b6)))] ?_ ?_
  ·refine bJ (decide (a_1 < j_2_4)) (fun c8 => ?_) (fun c8 => ?_)
   ·have h7 := aU c8 h7
    obtain ⟨x9, h10, h7⟩ := bind_some h7
    obtain ⟨x11, h12, h7⟩ := bind_some h7
    obtain ⟨r13, h14, h7⟩ := bind_some h7
    have h7 := Option.some.inj h7
    subst h7
    refine ⟨[(18, 0, .d (.lit (.int .i64 j_2_4))), (19, 1, .d (.lit (.int .i64 a_1))), (20, 2, .d (.lit (.bool ((decide (a_1 < j_2_4)))))), (21, 3, .d (.lit (.bool ((decide (a_1 < j_2_4)))))), (22, 4, .fn cmp_3_f cmp_3_v), (23, 5, .d (.lit data_0_v)), (24, 6, .d (.lit (.int .i64 j_2_4))), (25, 7, .ep data_0_v 5 j_2_4.toNat 0), (26, 8, .agg (aB x9)), (27, 9, .d (.lit data_0_v)), (28, 10, .d (.lit (.int .i64 j_2_4))), (29, 11, .d (.lit (.int .i64 ((w64 (j_2_4 - 1)))))), (30, 12, .ep data_0_v 5 (w64 (j_2_4 - 1)).toNat 0), (31, 13, .agg (aB x11)), (32, 14, .d (.lit (.int .i64 r13))), (33, 15, .d (.lit (.bool ((decide (r13 < 0)))))), (34, 16, .d (.lit (.bool ((decide (r13 < 0))))))], ?_, ?_⟩
    · exact ⟨by kernel_rfl, by kernel_rfl, by kernel_rfl, by kernel_rfl, by kernel_rfl, [([], []), ([], []), ([0, 1], []), ([2], []), ([3], []), ([3], []), ([3], []), ([3, 5, 6], []), ([3, 7], []), ([3], []), ([3], []), ([3, 10], []), ([3, 9, 11], []), ([3, 12], []), ([3, 4, 8, 13], []), ([3, 14], []), ([3, 15], [])], by kernel_rfl, ⟨fun S hS => aK rfl (aQ rfl (aD (v := .d (.lit (.int .i64 j_2_4))) (aA rfl) (aI hS rfl) rfl)),
      fun S hS => aK rfl (aQ rfl (aD (v := .d (.lit (.int .i64 a_1))) (aA rfl) (aI hS rfl) rfl)),
      fun S hS => aK rfl (aQ rfl (bC (aA rfl) (aI hS rfl) (aI hS rfl) rfl)),
      fun S hS => aK rfl (aQ rfl (aD (v := .d (.lit (.bool ((decide (a_1 < j_2_4)))))) (aA rfl) (aI hS rfl) rfl)),
      fun S hS => aK rfl (bK rfl rfl (aA rfl) (aW hS rfl) c8 (aD (v := .fn cmp_3_f cmp_3_v) (aA rfl) (aI hS rfl) rfl)),
      fun S hS => aK rfl (bK rfl rfl (aA rfl) (aW hS rfl) c8 (aD (v := .d (.lit data_0_v)) (aA rfl) (aI hS rfl) rfl)),
      fun S hS => aK rfl (bK rfl rfl (aA rfl) (aW hS rfl) c8 (aD (v := .d (.lit (.int .i64 j_2_4))) (aA rfl) (aI hS rfl) rfl)),
      fun S hS => aK rfl (bK rfl rfl (aA rfl) (aW hS rfl) c8 (cE (m := 0) (aA rfl) (aI hS rfl) rfl (aI hS rfl) bP.of (bN aB h10))),
      fun S hS => aK rfl (bK rfl rfl (aA rfl) (aW hS rfl) c8 (dG (aA rfl) (aI hS rfl) (l := 0) rfl (eA aB h10) dR (es := (aB x9)) rfl rfl)),
      fun S hS => aK rfl (bK rfl rfl (aA rfl) (aW hS rfl) c8 (aD (v := .d (.lit data_0_v)) (aA rfl) (aI hS rfl) rfl)),
      fun S hS => aK rfl (bK rfl rfl (aA rfl) (aW hS rfl) c8 (aD (v := .d (.lit (.int .i64 j_2_4))) (aA rfl) (aI hS rfl) rfl)),
      fun S hS => aK rfl (bK rfl rfl (aA rfl) (aW hS rfl) c8 (aZ (aA rfl) (aI hS rfl) rfl rfl)),
      fun S hS => aK rfl (bK rfl rfl (aA rfl) (aW hS rfl) c8 (cE (m := 0) (aA rfl) (aI hS rfl) rfl (aI hS rfl) bP.of (bN aB h12))),
      fun S hS => aK rfl (bK rfl rfl (aA rfl) (aW hS rfl) c8 (dG (aA rfl) (aI hS rfl) (l := 0) rfl (eA aB h12) dR (es := (aB x11)) rfl rfl)),
      fun S hS => aK rfl (bK rfl rfl (aA rfl) (aW hS rfl) c8 (cC (aA rfl) (.clo _ _ _ _ cmp_3_e (aW hS rfl)) (uB (ev2 (aI hS rfl) (ev2 (aI hS rfl) evn))) rfl (BVs.refl _ _) (cmp_3_h _ _ _  h14) rfl)),
      fun S hS => aK rfl (bK rfl rfl (aA rfl) (aW hS rfl) c8 (bC (aA rfl) (aI hS rfl) rfl rfl)),
      fun S hS => aK rfl (aQ rfl (bW (v := .d (.lit (.bool ((decide (r13 < 0)))))) (aA rfl) (aI hS rfl) c8 (aI hS rfl) rfl)), trivial⟩⟩
    · exact dX (aO rfl (aY ⟨rfl, rfl, rfl, rfl, rfl, rfl, trivial⟩))
   ·have h7 := aT c8 h7
    have h7 := Option.some.inj h7
    subst h7
    refine ⟨[(18, 0, .d (.lit (.int .i64 j_2_4))), (19, 1, .d (.lit (.int .i64 a_1))), (20, 2, .d (.lit (.bool ((decide (a_1 < j_2_4)))))), (21, 3, .d (.lit (.bool ((decide (a_1 < j_2_4)))))), (22, 4, .tup []), (23, 5, .tup []), (24, 6, .tup []), (25, 7, .tup []), (26, 8, .tup []), (27, 9, .tup []), (28, 10, .tup []), (29, 11, .tup []), (30, 12, .tup []), (31, 13, .tup []), (32, 14, .tup []), (33, 15, .tup []), (34, 16, .d (.lit (.bool false)))], ?_, ?_⟩
    · exact ⟨by kernel_rfl, by kernel_rfl, by kernel_rfl, by kernel_rfl, by kernel_rfl, [([], []), ([], []), ([0, 1], []), ([2], []), ([3], []), ([3], []), ([3], []), ([3, 5, 6], []), ([3, 7], []), ([3], []), ([3], []), ([3, 10], []), ([3, 9, 11], []), ([3, 12], []), ([3, 4, 8, 13], []), ([3, 14], []), ([3, 15], [])], by kernel_rfl, ⟨fun S hS => aK rfl (aQ rfl (aD (v := .d (.lit (.int .i64 j_2_4))) (aA rfl) (aI hS rfl) rfl)),
      fun S hS => aK rfl (aQ rfl (aD (v := .d (.lit (.int .i64 a_1))) (aA rfl) (aI hS rfl) rfl)),
      fun S hS => aK rfl (aQ rfl (bC (aA rfl) (aI hS rfl) (aI hS rfl) rfl)),
      fun S hS => aK rfl (aQ rfl (aD (v := .d (.lit (.bool ((decide (a_1 < j_2_4)))))) (aA rfl) (aI hS rfl) rfl)),
      fun S hS => aK rfl (bF rfl rfl (aA rfl) rfl (aA rfl) (aW hS rfl) c8),
      fun S hS => aK rfl (bF rfl rfl (aA rfl) rfl (aA rfl) (aW hS rfl) c8),
      fun S hS => aK rfl (bF rfl rfl (aA rfl) rfl (aA rfl) (aW hS rfl) c8),
      fun S hS => aK rfl (bF rfl rfl (aA rfl) rfl (aA rfl) (aW hS rfl) c8),
      fun S hS => aK rfl (bF rfl rfl (aA rfl) rfl (aA rfl) (aW hS rfl) c8),
      fun S hS => aK rfl (bF rfl rfl (aA rfl) rfl (aA rfl) (aW hS rfl) c8),
      fun S hS => aK rfl (bF rfl rfl (aA rfl) rfl (aA rfl) (aW hS rfl) c8),
      fun S hS => aK rfl (bF rfl rfl (aA rfl) rfl (aA rfl) (aW hS rfl) c8),
      fun S hS => aK rfl (bF rfl rfl (aA rfl) rfl (aA rfl) (aW hS rfl) c8),
      fun S hS => aK rfl (bF rfl rfl (aA rfl) rfl (aA rfl) (aW hS rfl) c8),
      fun S hS => aK rfl (bF rfl rfl (aA rfl) rfl (aA rfl) (aW hS rfl) c8),
      fun S hS => aK rfl (bF rfl rfl (aA rfl) rfl (aA rfl) (aW hS rfl) c8),
      fun S hS => aK rfl (aQ rfl (bT (v := .d (.lit (.bool false))) (aA rfl) (aI hS rfl) c8 rfl rfl)), trivial⟩⟩
    · exact dX (aO rfl (aY ⟨rfl, rfl, rfl, rfl, rfl, rfl, trivial⟩))
  ·refine aF ?_
   refine bH rfl (fun c15 => ?_) (fun c15 => ?_)
   ·have h := aU c15 h
    refine bE ?_
    refine aG ?_
    refine bQ ?_
    obtain ⟨x17, h18, h⟩ := bind_some h
    obtain ⟨x19, h20, h⟩ := bind_some h
    obtain ⟨x21, h22, h⟩ := bind_some h
    refine lC mix 16 [0, 1, 2, 3, 8, 9] (fun X16 => [(39, .d (.lit data_0_v)), (41, .d (.lit (.int .i64 ((w64 (j_2_4 - 1)))))), (50, .agg (aB x19))]) (fun X16 => [.arr data_0_v 42 5 ((data_2_4.set j_2_4.toNat x17).map aB)]) ?_ ?_
    ·refine ⟨0, fun X16 => [(37, 0, .d (.lit data_0_v)), (38, 1, .d (.lit (.int .i64 j_2_4))), (39, 2, .d (.lit data_0_v)), (40, 3, .d (.lit (.int .i64 j_2_4))), (41, 4, .d (.lit (.int .i64 ((w64 (j_2_4 - 1)))))), (42, 5, .d (.lit data_0_v)), (43, 6, .d (.lit (.int .i64 j_2_4))), (44, 7, .d (.lit (.int .i64 ((w64 (j_2_4 - 1)))))), (45, 8, .ep data_0_v 5 (w64 (j_2_4 - 1)).toNat 0), (46, 9, .agg (aB x17)), (47, 10, .d (.lit data_0_v)), (48, 11, .d (.lit (.int .i64 j_2_4))), (49, 12, .ep data_0_v 5 j_2_4.toNat 0), (50, 13, .agg (aB x19)), (51, 14, .ep data_0_v 5 j_2_4.toNat 0)], fun X16 => [([(15, .arr data_0_v 42 5 ((data_2_4.set j_2_4.toNat x17).map aB))], .arr data_0_v 42 5 (data_2_4.map aB))], ?_, ?_⟩
     · exact ⟨by kernel_rfl, by kernel_rfl, by kernel_rfl, fun _ => by kernel_rfl, fun _ => by kernel_rfl, fun _ => by kernel_rfl, fun _ => rfl, [([], [15]), ([], [15]), ([], []), ([], []), ([3], []), ([], [15]), ([], [15]), ([6], [15]), ([5, 7], [15]), ([8], [15]), ([], [15]), ([], [15]), ([10, 11], [15]), ([12], [15]), ([0, 1], [15]), ([9, 14], [])], by kernel_rfl, ⟨fun X16 S hw hi hS => bG (X := X16) rfl (hw X16) rfl (aQ rfl (aD (v := .d (.lit data_0_v)) (aA rfl) (aI hS rfl) rfl)),
      fun X16 S hw hi hS => bG (X := X16) rfl (hw X16) rfl (aQ rfl (aD (v := .d (.lit (.int .i64 j_2_4))) (aA rfl) (aI hS rfl) rfl)),
      fun X16 S hw hi hS => bG (X := X16) rfl (hw X16) rfl (aQ rfl (aD (v := .d (.lit data_0_v)) (aA rfl) (aI hS rfl) rfl)),
      fun X16 S hw hi hS => bG (X := X16) rfl (hw X16) rfl (aQ rfl (aD (v := .d (.lit (.int .i64 j_2_4))) (aA rfl) (aI hS rfl) rfl)),
      fun X16 S hw hi hS => bG (X := X16) rfl (hw X16) rfl (aQ rfl (aZ (aA rfl) (aI hS rfl) rfl rfl)),
      fun X16 S hw hi hS => bG (X := X16) rfl (hw X16) rfl (aQ rfl (aD (v := .d (.lit data_0_v)) (aA rfl) (aI hS rfl) rfl)),
      fun X16 S hw hi hS => bG (X := X16) rfl (hw X16) rfl (aQ rfl (aD (v := .d (.lit (.int .i64 j_2_4))) (aA rfl) (aI hS rfl) rfl)),
      fun X16 S hw hi hS => bG (X := X16) rfl (hw X16) rfl (aQ rfl (aZ (aA rfl) (aI hS rfl) rfl rfl)),
      fun X16 S hw hi hS => bG (X := X16) rfl (hw X16) rfl (aQ rfl (cE (m := 0) (aA rfl) (aI hS rfl) (og hS rfl rfl) (aI hS rfl) bP.of (bN aB h18))),
      fun X16 S hw hi hS => bG (X := X16) rfl (hw X16) rfl (aQ rfl (dG (aA rfl) (aI hS rfl) (l := 0) (og hS rfl rfl) (eA aB h18) dR (es := (aB x17)) rfl rfl)),
      fun X16 S hw hi hS => bG (X := X16) rfl (hw X16) rfl (aQ rfl (aD (v := .d (.lit data_0_v)) (aA rfl) (aI hS rfl) rfl)),
      fun X16 S hw hi hS => bG (X := X16) rfl (hw X16) rfl (aQ rfl (aD (v := .d (.lit (.int .i64 j_2_4))) (aA rfl) (aI hS rfl) rfl)),
      fun X16 S hw hi hS => bG (X := X16) rfl (hw X16) rfl (aQ rfl (cE (m := 0) (aA rfl) (aI hS rfl) (og hS rfl rfl) (aI hS rfl) bP.of (bN aB h20))),
      fun X16 S hw hi hS => bG (X := X16) rfl (hw X16) rfl (aQ rfl (dG (aA rfl) (aI hS rfl) (l := 0) (og hS rfl rfl) (eA aB h20) dR (es := (aB x19)) rfl rfl)),
      fun X16 S hw hi hS => bG (X := X16) rfl (hw X16) rfl (aQ rfl (cE (m := 0) (aA rfl) (aI hS rfl) (og hS rfl rfl) (aI hS rfl) bP.of (bN aB h22))),
      fun X16 S hw hi hS => qY (X := X16) hS rfl rfl rfl (p := 0) rfl rfl (aQ rfl (jG (l := 0) (aI hS rfl) (og hS rfl rfl) (eA aB h22) (aI hS rfl) rfl rfl Try.sizeOf42 rfl (aA rfl) (Nat.le_of_ble_eq_true rfl) (rows' := ((data_2_4.set j_2_4.toNat x17)).map aB) (mL _ _ _ _ rfl))), trivial⟩⟩
     · exact fun X16 => dX (aO rfl (aO rfl (aO rfl (aY ⟨rfl, rfl, rfl, rfl, rfl, rfl, trivial⟩))))
    ·intro X16
     obtain ⟨x23, h24, h⟩ := bind_some h
     refine tr1 rfl (cE (m := 0) (aA rfl) rfl rfl rfl bP.of (bN aB h24)) ?_
     refine tr1 rfl (jG (l := 0) rfl rfl (eA aB h24) rfl rfl rfl Try.sizeOf42 rfl (aA rfl) (Nat.le_of_ble_eq_true rfl) (rows' := (((data_2_4.set j_2_4.toNat x17).set (w64 (j_2_4 - 1)).toNat x19)).map aB) (mL _ _ _ _ rfl)) ?_
     refine eC ?_
     refine aE ?_
     refine tr1 rfl (aD (v := .d (.lit (.int .i64 j_2_4))) (aA rfl) rfl rfl) ?_
     refine tr1 rfl (aZ (aA rfl) rfl rfl rfl) ?_
     refine tr1 rfl (aJ (v := .d (.lit (.int .i64 ((w64 (j_2_4 - 1)))))) (aA rfl) rfl rfl) ?_
     refine aF ?_
     exact ⟨(w64 (j_2_4 - 1), ((data_2_4.set j_2_4.toNat x17).set (w64 (j_2_4 - 1)).toNat x19)), h, aX [0] rfl rfl (aO rfl (aO rfl (aY ⟨rfl, rfl, rfl, rfl, trivial⟩)))⟩
   ·have h := aT c15 h
    refine cQ ?_
    refine .inl ⟨rfl, ?_⟩
    simp only [fC] at h
    simp only [fB] at h
    refine aE ?_
    refine tr1 rfl (aD (v := .d (.lit (.int .i64 i_0_1))) (aA rfl) rfl rfl) ?_
    refine tr1 rfl (aZ (aA rfl) rfl rfl rfl) ?_
    refine tr1 rfl (aJ (v := .d (.lit (.int .i64 ((w64 (i_0_1 + 1)))))) (aA rfl) rfl rfl) ?_
    refine aF ?_
    exact ⟨(w64 (i_0_1 + 1), data_2_4), h, aX [0] rfl rfl (aO rfl (aO rfl (aY ⟨rfl, rfl, rfl, trivial⟩)))⟩
 ·have h := aT c3 h
  refine cQ ?_
  refine .inl ⟨rfl, ?_⟩
  simp only [fA] at h
  have h := Option.some.inj h
  subst h
  exact ⟨_, [.arr data_0_v 42 5 (data_0_1.map aB)], [], _, .none, .refl _, .same _, rfl, rfl⟩

theorem iM (data_0 : List aC) (a_1 : Int) (b_2 : Int) (n_3 : Int) (cmp_4 : aC → aC → Option Int) {r : (List aC)} {data_0_v : Value} (cmp_4_f : Nat) (cmp_4_v : List AV) (cmp_4_e : ∀ args w, (callFunc cmp_4_f args).run Try.prog w = .ok (.enter cmp_4_f args) w) (cmp_4_h : ∀ (x0 : aC) (x1 : aC) r, cmp_4 x0 x1 = some r → Fn Try.prog cmp_4_f ([.agg (aB x0), .agg (aB x1)] ++ cmp_4_v) (.d (.lit (.int .i64 r)))) (h : dW data_0 a_1 b_2 n_3 cmp_4 = some r) : fQ Try.prog 141 [.d (.lit data_0_v), .d (.lit (.int .i64 a_1)), .d (.lit (.int .i64 b_2)), .d (.lit (.int .i64 n_3)), .fn cmp_4_f cmp_4_v] [.arr data_0_v 42 5 (data_0.map aB)] (fun r' o' => r' = .tup [] ∧ o' = [.arr data_0_v 42 5 (r.map aB)]) := by
 unfold dW at h
 refine jC Try.func141 rfl (rs := []) Try.results141 Try.ntmps141 (Nat.le_of_ble_eq_true rfl) ?_
 refine aG ?_
 refine aE ?_
 refine tr1 rfl (aJ (v := .d (.lit (.int .i64 0))) (aA rfl) rfl rfl) ?_
 refine aF ?_
 refine bQ ?_
 refine cH [1, 2, 3] (fun (s1 : Int × (List aC)) => [(0, .d (.lit data_0_v)), (10, .d (.lit (.int .i64 s1.1)))]) (fun (s1 : Int × (List aC)) => [.arr data_0_v 42 5 (s1.2.map aB)]) (fun (k : Nat) (s1 : Int × (List aC)) => dM a_1 b_2 n_3 k s1.1 s1.2) (fun _ => rfl) (0, data_0) h (aX [0] rfl rfl (aO rfl (aO rfl (aY ⟨rfl, rfl, rfl, trivial⟩)))) ?_
 rintro k2 ⟨i_0_1, data_0_1⟩ h
 simp only [dM] at h
 refine aG ?_
 refine aG ?_
 refine aE ?_
 refine tr1 rfl (aD (v := .d (.lit (.int .i64 i_0_1))) (aA rfl) rfl rfl) ?_
 refine tr1 rfl (aD (v := .d (.lit (.int .i64 n_3))) (aA rfl) rfl rfl) ?_
 refine tr1 rfl (bC (aA rfl) rfl rfl rfl) ?_
 refine aF ?_
 refine bH rfl (fun c3 => ?_) (fun c3 => ?_)
 ·have h := aU c3 h
  refine bE ?_
  refine aG ?_
  refine bQ ?_
  obtain ⟨x5, h6, h⟩ := bind_some h
  obtain ⟨x7, h8, h⟩ := bind_some h
  obtain ⟨x9, h10, h⟩ := bind_some h
  refine lC mix 22 [0, 1, 2, 3, 10] (fun X4 => [(20, .d (.lit data_0_v)), (23, .d (.lit (.int .i64 ((w64 (b_2 + i_0_1)))))), (35, .agg (aB x7))]) (fun X4 => [.arr data_0_v 42 5 ((data_0_1.set (w64 (a_1 + i_0_1)).toNat x5).map aB)]) ?_ ?_
  ·refine ⟨0, fun X4 => [(16, 0, .d (.lit data_0_v)), (17, 1, .d (.lit (.int .i64 a_1))), (18, 2, .d (.lit (.int .i64 i_0_1))), (19, 3, .d (.lit (.int .i64 ((w64 (a_1 + i_0_1)))))), (20, 4, .d (.lit data_0_v)), (21, 5, .d (.lit (.int .i64 b_2))), (22, 6, .d (.lit (.int .i64 i_0_1))), (23, 7, .d (.lit (.int .i64 ((w64 (b_2 + i_0_1)))))), (24, 8, .d (.lit data_0_v)), (25, 9, .d (.lit (.int .i64 b_2))), (26, 10, .d (.lit (.int .i64 i_0_1))), (27, 11, .d (.lit (.int .i64 ((w64 (b_2 + i_0_1)))))), (28, 12, .ep data_0_v 5 (w64 (b_2 + i_0_1)).toNat 0), (29, 13, .agg (aB x5)), (30, 14, .d (.lit data_0_v)), (31, 15, .d (.lit (.int .i64 a_1))), (32, 16, .d (.lit (.int .i64 i_0_1))), (33, 17, .d (.lit (.int .i64 ((w64 (a_1 + i_0_1)))))), (34, 18, .ep data_0_v 5 (w64 (a_1 + i_0_1)).toNat 0), (35, 19, .agg (aB x7)), (36, 20, .ep data_0_v 5 (w64 (a_1 + i_0_1)).toNat 0)], fun X4 => [([(21, .arr data_0_v 42 5 ((data_0_1.set (w64 (a_1 + i_0_1)).toNat x5).map aB))], .arr data_0_v 42 5 (data_0_1.map aB))], ?_, ?_⟩
   · exact ⟨by kernel_rfl, by kernel_rfl, by kernel_rfl, fun _ => by kernel_rfl, fun _ => by kernel_rfl, fun _ => by kernel_rfl, fun _ => rfl, [([], [21]), ([], [21]), ([], [21]), ([1, 2], [21]), ([], []), ([], []), ([], []), ([5, 6], []), ([], [21]), ([], [21]), ([], [21]), ([9, 10], [21]), ([8, 11], [21]), ([12], [21]), ([], [21]), ([], [21]), ([], [21]), ([15, 16], [21]), ([14, 17], [21]), ([18], [21]), ([0, 3], [21]), ([13, 20], [])], by kernel_rfl, ⟨fun X4 S hw hi hS => bG (X := X4) rfl (hw X4) rfl (aQ rfl (aD (v := .d (.lit data_0_v)) (aA rfl) (aI hS rfl) rfl)),
      fun X4 S hw hi hS => bG (X := X4) rfl (hw X4) rfl (aQ rfl (aD (v := .d (.lit (.int .i64 a_1))) (aA rfl) (aI hS rfl) rfl)),
      fun X4 S hw hi hS => bG (X := X4) rfl (hw X4) rfl (aQ rfl (aD (v := .d (.lit (.int .i64 i_0_1))) (aA rfl) (aI hS rfl) rfl)),
      fun X4 S hw hi hS => bG (X := X4) rfl (hw X4) rfl (aQ rfl (aZ (aA rfl) (aI hS rfl) (aI hS rfl) rfl)),
      fun X4 S hw hi hS => bG (X := X4) rfl (hw X4) rfl (aQ rfl (aD (v := .d (.lit data_0_v)) (aA rfl) (aI hS rfl) rfl)),
      fun X4 S hw hi hS => bG (X := X4) rfl (hw X4) rfl (aQ rfl (aD (v := .d (.lit (.int .i64 b_2))) (aA rfl) (aI hS rfl) rfl)),
      fun X4 S hw hi hS => bG (X := X4) rfl (hw X4) rfl (aQ rfl (aD (v := .d (.lit (.int .i64 i_0_1))) (aA rfl) (aI hS rfl) rfl)),
      fun X4 S hw hi hS => bG (X := X4) rfl (hw X4) rfl (aQ rfl (aZ (aA rfl) (aI hS rfl) (aI hS rfl) rfl)),
      fun X4 S hw hi hS => bG (X := X4) rfl (hw X4) rfl (aQ rfl (aD (v := .d (.lit data_0_v)) (aA rfl) (aI hS rfl) rfl)),
      fun X4 S hw hi hS => bG (X := X4) rfl (hw X4) rfl (aQ rfl (aD (v := .d (.lit (.int .i64 b_2))) (aA rfl) (aI hS rfl) rfl)),
      fun X4 S hw hi hS => bG (X := X4) rfl (hw X4) rfl (aQ rfl (aD (v := .d (.lit (.int .i64 i_0_1))) (aA rfl) (aI hS rfl) rfl)),
      fun X4 S hw hi hS => bG (X := X4) rfl (hw X4) rfl (aQ rfl (aZ (aA rfl) (aI hS rfl) (aI hS rfl) rfl)),
      fun X4 S hw hi hS => bG (X := X4) rfl (hw X4) rfl (aQ rfl (cE (m := 0) (aA rfl) (aI hS rfl) (og hS rfl rfl) (aI hS rfl) bP.of (bN aB h6))),
      fun X4 S hw hi hS => bG (X := X4) rfl (hw X4) rfl (aQ rfl (dG (aA rfl) (aI hS rfl) (l := 0) (og hS rfl rfl) (eA aB h6) dR (es := (aB x5)) rfl rfl)),
      fun X4 S hw hi hS => bG (X := X4) rfl (hw X4) rfl (aQ rfl (aD (v := .d (.lit data_0_v)) (aA rfl) (aI hS rfl) rfl)),
      fun X4 S hw hi hS => bG (X := X4) rfl (hw X4) rfl (aQ rfl (aD (v := .d (.lit (.int .i64 a_1))) (aA rfl) (aI hS rfl) rfl)),
      fun X4 S hw hi hS => bG (X := X4) rfl (hw X4) rfl (aQ rfl (aD (v := .d (.lit (.int .i64 i_0_1))) (aA rfl) (aI hS rfl) rfl)),
      fun X4 S hw hi hS => bG (X := X4) rfl (hw X4) rfl (aQ rfl (aZ (aA rfl) (aI hS rfl) (aI hS rfl) rfl)),
      fun X4 S hw hi hS => bG (X := X4) rfl (hw X4) rfl (aQ rfl (cE (m := 0) (aA rfl) (aI hS rfl) (og hS rfl rfl) (aI hS rfl) bP.of (bN aB h8))),
      fun X4 S hw hi hS => bG (X := X4) rfl (hw X4) rfl (aQ rfl (dG (aA rfl) (aI hS rfl) (l := 0) (og hS rfl rfl) (eA aB h8) dR (es := (aB x7)) rfl rfl)),
      fun X4 S hw hi hS => bG (X := X4) rfl (hw X4) rfl (aQ rfl (cE (m := 0) (aA rfl) (aI hS rfl) (og hS rfl rfl) (aI hS rfl) bP.of (bN aB h10))),
      fun X4 S hw hi hS => qY (X := X4) hS rfl rfl rfl (p := 0) rfl rfl (aQ rfl (jG (l := 0) (aI hS rfl) (og hS rfl rfl) (eA aB h10) (aI hS rfl) rfl rfl Try.sizeOf42 rfl (aA rfl) (Nat.le_of_ble_eq_true rfl) (rows' := ((data_0_1.set (w64 (a_1 + i_0_1)).toNat x5)).map aB) (mL _ _ _ _ rfl))), trivial⟩⟩
   · exact fun X4 => dX (aO rfl (aO rfl (aO rfl (aY ⟨rfl, rfl, rfl, rfl, rfl, trivial⟩))))
  ·intro X4
   obtain ⟨x11, h12, h⟩ := bind_some h
   refine tr1 rfl (cE (m := 0) (aA rfl) rfl rfl rfl bP.of (bN aB h12)) ?_
   refine tr1 rfl (jG (l := 0) rfl rfl (eA aB h12) rfl rfl rfl Try.sizeOf42 rfl (aA rfl) (Nat.le_of_ble_eq_true rfl) (rows' := (((data_0_1.set (w64 (a_1 + i_0_1)).toNat x5).set (w64 (b_2 + i_0_1)).toNat x7)).map aB) (mL _ _ _ _ rfl)) ?_
   refine eC ?_
   refine aE ?_
   refine tr1 rfl (aD (v := .d (.lit (.int .i64 i_0_1))) (aA rfl) rfl rfl) ?_
   refine tr1 rfl (aZ (aA rfl) rfl rfl rfl) ?_
   refine tr1 rfl (aJ (v := .d (.lit (.int .i64 ((w64 (i_0_1 + 1)))))) (aA rfl) rfl rfl) ?_
   refine aF ?_
   exact ⟨(w64 (i_0_1 + 1), ((data_0_1.set (w64 (a_1 + i_0_1)).toNat x5).set (w64 (b_2 + i_0_1)).toNat x7)), h, aX [0] rfl rfl (aO rfl (aO rfl (aY ⟨rfl, rfl, rfl, trivial⟩)))⟩
 ·have h := aT c3 h
  refine cQ ?_
  refine .inl ⟨rfl, ?_⟩
  simp only [iA] at h
  have h := Option.some.inj h
  subst h
  exact ⟨_, [.arr data_0_v 42 5 (data_0_1.map aB)], [], _, .none, .refl _, .same _, rfl, rfl⟩

theorem lV (data_0 : List aC) (a_1 : Int) (m_2 : Int) (b_3 : Int) (cmp_4 : aC → aC → Option Int) {r : (List aC)} {data_0_v : Value} (cmp_4_f : Nat) (cmp_4_v : List AV) (cmp_4_e : ∀ args w, (callFunc cmp_4_f args).run Try.prog w = .ok (.enter cmp_4_f args) w) (cmp_4_h : ∀ (x0 : aC) (x1 : aC) r, cmp_4 x0 x1 = some r → Fn Try.prog cmp_4_f ([.agg (aB x0), .agg (aB x1)] ++ cmp_4_v) (.d (.lit (.int .i64 r)))) (h : eP data_0 a_1 m_2 b_3 cmp_4 = some r) : fQ Try.prog 138 [.d (.lit data_0_v), .d (.lit (.int .i64 a_1)), .d (.lit (.int .i64 m_2)), .d (.lit (.int .i64 b_3)), .fn cmp_4_f cmp_4_v] [.arr data_0_v 42 5 (data_0.map aB)] (fun r' o' => r' = .tup [] ∧ o' = [.arr data_0_v 42 5 (r.map aB)]) := by
 unfold eP at h
 refine jC Try.func138 rfl (rs := []) Try.results138 Try.ntmps138 (Nat.le_of_ble_eq_true rfl) ?_
 refine aG ?_
 refine aE ?_
 refine tr1 rfl (aD (v := .d (.lit (.int .i64 m_2))) (aA rfl) rfl rfl) ?_
 refine tr1 rfl (aD (v := .d (.lit (.int .i64 a_1))) (aA rfl) rfl rfl) ?_
 refine tr1 rfl (aZ (aA rfl) rfl rfl rfl) ?_
 refine tr1 rfl (aJ (v := .d (.lit (.int .i64 ((w64 (m_2 - a_1)))))) (aA rfl) rfl rfl) ?_
 refine aF ?_
 refine aG ?_
 refine aE ?_
 refine tr1 rfl (aD (v := .d (.lit (.int .i64 b_3))) (aA rfl) rfl rfl) ?_
 refine tr1 rfl (aD (v := .d (.lit (.int .i64 m_2))) (aA rfl) rfl rfl) ?_
 refine tr1 rfl (aZ (aA rfl) rfl rfl rfl) ?_
 refine tr1 rfl (aJ (v := .d (.lit (.int .i64 ((w64 (b_3 - m_2)))))) (aA rfl) rfl rfl) ?_
 refine aF ?_
 refine aG ?_
 refine bQ ?_
 refine cH [2, 4] (fun (s1 : Int × Int × (List aC)) => [(0, .d (.lit data_0_v)), (10, .d (.lit (.int .i64 s1.1))), (11, .d (.lit (.int .i64 s1.2.1)))]) (fun (s1 : Int × Int × (List aC)) => [.arr data_0_v 42 5 (s1.2.2.map aB)]) (fun (k : Nat) (s1 : Int × Int × (List aC)) => cZ m_2 cmp_4 k s1.1 s1.2.1 s1.2.2) (fun _ => rfl) (w64 (m_2 - a_1), w64 (b_3 - m_2), data_0) h (aX [0] rfl rfl (aO rfl (aO rfl (aO rfl (aY ⟨rfl, rfl, trivial⟩))))) ?_
 rintro k2 ⟨i_0_1, j_0_1, data_0_1⟩ h
 simp only [cZ] at h
 refine aG ?_
 refine aG ?_
 refine aE ?_
 refine tr1 rfl (aD (v := .d (.lit (.int .i64 i_0_1))) (aA rfl) rfl rfl) ?_
 refine tr1 rfl (aD (v := .d (.lit (.int .i64 j_0_1))) (aA rfl) rfl rfl) ?_
 refine tr1 rfl (bC (aA rfl) rfl rfl rfl) ?_
 refine aF ?_
 refine bH rfl (fun c3 => ?_) (fun c3 => ?_)
 ·have h := aU c3 h
  refine bE ?_
  refine bQ ?_
  refine aG ?_
  refine aE ?_
  refine tr1 rfl (aD (v := .d (.lit (.int .i64 i_0_1))) (aA rfl) rfl rfl) ?_
  refine tr1 rfl (aD (v := .d (.lit (.int .i64 j_0_1))) (aA rfl) rfl rfl) ?_
  refine tr1 rfl (bC (aA rfl) rfl rfl rfl) ?_
  refine aF ?_
  refine bH rfl (fun c4 => ?_) (fun c4 => ?_)
  ·have h := aU c4 h
   refine aG ?_
   refine aE ?_
   refine tr1 rfl (aD (v := .d (.lit data_0_v)) (aA rfl) rfl rfl) ?_
   refine tr1 rfl (aD (v := .d (.lit (.int .i64 m_2))) (aA rfl) rfl rfl) ?_
   refine tr1 rfl (aD (v := .d (.lit (.int .i64 i_0_1))) (aA rfl) rfl rfl) ?_
   refine tr1 rfl (aZ (aA rfl) rfl rfl rfl) ?_
   refine tr1 rfl (aD (v := .d (.lit (.int .i64 m_2))) (aA rfl) rfl rfl) ?_
   refine tr1 rfl (aD (v := .d (.lit (.int .i64 j_0_1))) (aA rfl) rfl rfl) ?_
   refine tr1 rfl (aD (v := .fn cmp_4_f cmp_4_v) (aA rfl) rfl rfl) ?_
   obtain ⟨r5, h6, h⟩ := bind_some h
   refine bR rfl (dQ (passed := [.arr data_0_v 42 5 (data_0_1.map aB)]) (aA rfl) rfl (.func _ _ Try.call141) rfl rfl (iM data_0_1 (w64 (m_2 - i_0_1)) m_2 j_0_1 cmp_4 cmp_4_f cmp_4_v cmp_4_e cmp_4_h h6)) ?_
   rintro _ ⟨_, _, ⟨rfl, rfl⟩, rfl⟩
   refine aF ?_
   refine aE ?_
   refine tr1 rfl (aD (v := .d (.lit (.int .i64 i_0_1))) (aA rfl) rfl rfl) ?_
   refine tr1 rfl (aD (v := .d (.lit (.int .i64 j_0_1))) (aA rfl) rfl rfl) ?_
   refine tr1 rfl (aZ (aA rfl) rfl rfl rfl) ?_
   refine tr1 rfl (aJ (v := .d (.lit (.int .i64 ((w64 (i_0_1 - j_0_1)))))) (aA rfl) rfl rfl) ?_
   refine eC ?_
   exact ⟨(w64 (i_0_1 - j_0_1), j_0_1, r5), h, aX [0] rfl rfl (aO rfl (aO rfl (aO rfl (aY ⟨rfl, rfl, trivial⟩))))⟩
  ·have h := aT c4 h
   refine aG ?_
   refine aE ?_
   refine tr1 rfl (aD (v := .d (.lit data_0_v)) (aA rfl) rfl rfl) ?_
   refine tr1 rfl (aD (v := .d (.lit (.int .i64 m_2))) (aA rfl) rfl rfl) ?_
   refine tr1 rfl (aD (v := .d (.lit (.int .i64 i_0_1))) (aA rfl) rfl rfl) ?_
   refine tr1 rfl (aZ (aA rfl) rfl rfl rfl) ?_
   refine tr1 rfl (aD (v := .d (.lit (.int .i64 m_2))) (aA rfl) rfl rfl) ?_
   refine tr1 rfl (aD (v := .d (.lit (.int .i64 j_0_1))) (aA rfl) rfl rfl) ?_
   refine tr1 rfl (aZ (aA rfl) rfl rfl rfl) ?_
   refine tr1 rfl (aD (v := .d (.lit (.int .i64 i_0_1))) (aA rfl) rfl rfl) ?_
   refine tr1 rfl (aZ (aA rfl) rfl rfl rfl) ?_
   refine tr1 rfl (aD (v := .d (.lit (.int .i64 i_0_1))) (aA rfl) rfl rfl) ?_
   refine tr1 rfl (aD (v := .fn cmp_4_f cmp_4_v) (aA rfl) rfl rfl) ?_
   obtain ⟨r7, h8, h⟩ := bind_some h
   refine bR rfl (dQ (passed := [.arr data_0_v 42 5 (data_0_1.map aB)]) (aA rfl) rfl (.func _ _ Try.call141) rfl rfl (iM data_0_1 (w64 (m_2 - i_0_1)) (w64 ((w64 (m_2 + j_0_1)) - i_0_1)) i_0_1 cmp_4 cmp_4_f cmp_4_v cmp_4_e cmp_4_h h8)) ?_
   rintro _ ⟨_, _, ⟨rfl, rfl⟩, rfl⟩
   refine aF ?_
   refine aE ?_
   refine tr1 rfl (aD (v := .d (.lit (.int .i64 j_0_1))) (aA rfl) rfl rfl) ?_
   refine tr1 rfl (aD (v := .d (.lit (.int .i64 i_0_1))) (aA rfl) rfl rfl) ?_
   refine tr1 rfl (aZ (aA rfl) rfl rfl rfl) ?_
   refine tr1 rfl (aJ (v := .d (.lit (.int .i64 ((w64 (j_0_1 - i_0_1)))))) (aA rfl) rfl rfl) ?_
   refine eC ?_
   exact ⟨(i_0_1, w64 (j_0_1 - i_0_1), r7), h, aX [0] rfl rfl (aO rfl (aO rfl (aO rfl (aY ⟨rfl, rfl, trivial⟩))))⟩
 ·have h := aT c3 h
  refine cQ ?_
  refine .inl ⟨rfl, ?_⟩
  simp only [iU] at h
  refine aE ?_
  refine tr1 rfl (aD (v := .d (.lit data_0_v)) (aA rfl) rfl rfl) ?_
  refine tr1 rfl (aD (v := .d (.lit (.int .i64 m_2))) (aA rfl) rfl rfl) ?_
  refine tr1 rfl (aD (v := .d (.lit (.int .i64 i_0_1))) (aA rfl) rfl rfl) ?_
  refine tr1 rfl (aZ (aA rfl) rfl rfl rfl) ?_
  refine tr1 rfl (aD (v := .d (.lit (.int .i64 m_2))) (aA rfl) rfl rfl) ?_
  refine tr1 rfl (aD (v := .d (.lit (.int .i64 i_0_1))) (aA rfl) rfl rfl) ?_
  refine tr1 rfl (aD (v := .fn cmp_4_f cmp_4_v) (aA rfl) rfl rfl) ?_
  obtain ⟨r9, h10, h⟩ := bind_some h
  refine bR rfl (dQ (passed := [.arr data_0_v 42 5 (data_0_1.map aB)]) (aA rfl) rfl (.func _ _ Try.call141) rfl rfl (iM data_0_1 (w64 (m_2 - i_0_1)) m_2 i_0_1 cmp_4 cmp_4_f cmp_4_v cmp_4_e cmp_4_h h10)) ?_
  rintro _ ⟨_, _, ⟨rfl, rfl⟩, rfl⟩
  refine aF ?_
  have h := Option.some.inj h
  subst h
  exact ⟨_, [.arr data_0_v 42 5 (r9.map aB)], [], _, .none, .refl _, .same _, rfl, rfl⟩

theorem pB (cmp_4 : aC → aC → Option Int) (cmp_4_f : Nat) (cmp_4_v : List AV) (cmp_4_e : ∀ args w, (callFunc cmp_4_f args).run Try.prog w = .ok (.enter cmp_4_f args) w) (cmp_4_h : ∀ (x0 : aC) (x1 : aC) r, cmp_4 x0 x1 = some r → Fn Try.prog cmp_4_f ([.agg (aB x0), .agg (aB x1)] ++ cmp_4_v) (.d (.lit (.int .i64 r)))) (kr : Nat) : ∀ (data_0 : List aC) (a_1 : Int) (m_2 : Int) (b_3 : Int) {r : (List aC)} {data_0_v : Value} (_h : bD cmp_4 kr data_0 a_1 m_2 b_3 = some r), fQ Try.prog 128 [.d (.lit data_0_v), .d (.lit (.int .i64 a_1)), .d (.lit (.int .i64 m_2)), .d (.lit (.int .i64 b_3)), .fn cmp_4_f cmp_4_v] [.arr data_0_v 42 5 (data_0.map aB)] (fun r' o' => r' = .tup [] ∧ o' = [.arr data_0_v 42 5 (r.map aB)]) := by
  induction kr with
  | zero => intros; rename_i h; cases h
  | succ kr ih =>
    intro data_0 a_1 m_2 b_3 r data_0_v h
    simp only [bD] at h
    refine jC Try.func128 rfl (rs := []) Try.results128 Try.ntmps128 (Nat.le_of_ble_eq_true rfl) ?_
    refine aG ?_
    refine aG ?_
    refine aE ?_
    refine tr1 rfl (aD (v := .d (.lit (.int .i64 m_2))) (aA rfl) rfl rfl) ?_
    refine tr1 rfl (aD (v := .d (.lit (.int .i64 a_1))) (aA rfl) rfl rfl) ?_
    refine tr1 rfl (aZ (aA rfl) rfl rfl rfl) ?_
    refine tr1 rfl (bC (aA rfl) rfl rfl rfl) ?_
    refine aF ?_
    refine bH rfl (fun c1 => ?_) (fun c1 => ?_)
    ·have h := aU c1 h
     refine aG ?_
     refine aE ?_
     refine tr1 rfl (aD (v := .d (.lit (.int .i64 m_2))) (aA rfl) rfl rfl) ?_
     refine tr1 rfl (aJ (v := .d (.lit (.int .i64 m_2))) (aA rfl) rfl rfl) ?_
     refine aF ?_
     refine aG ?_
     refine aE ?_
     refine tr1 rfl (aD (v := .d (.lit (.int .i64 b_3))) (aA rfl) rfl rfl) ?_
     refine tr1 rfl (aJ (v := .d (.lit (.int .i64 b_3))) (aA rfl) rfl rfl) ?_
     refine aF ?_
     refine aG ?_
     refine bQ ?_
     refine cH [0, 1, 4] (fun (s2 : Int × Int) => [(10, .d (.lit (.int .i64 s2.1))), (11, .d (.lit (.int .i64 s2.2)))]) (fun (s2 : Int × Int) => [.arr data_0_v 42 5 (data_0.map aB)]) (fun (k : Nat) (s2 : Int × Int) => cN (bD cmp_4 kr) a_1 cmp_4 data_0 k s2.1 s2.2) (fun _ => rfl) (m_2, b_3) h (aX [0] rfl rfl (aO rfl (aO rfl (aY ⟨rfl, rfl, rfl, trivial⟩)))) ?_
     rintro k3 ⟨i_0_2, j_0_2⟩ h
     simp only [cN] at h
     refine aG ?_
     refine aG ?_
     refine aE ?_
     refine tr1 rfl (aD (v := .d (.lit (.int .i64 i_0_2))) (aA rfl) rfl rfl) ?_
     refine tr1 rfl (aD (v := .d (.lit (.int .i64 j_0_2))) (aA rfl) rfl rfl) ?_
     refine tr1 rfl (bC (aA rfl) rfl rfl rfl) ?_
     refine aF ?_
     refine bH rfl (fun c4 => ?_) (fun c4 => ?_)
     ·have h := aU c4 h
      refine bE ?_
      refine bQ ?_
      refine aG ?_
      refine aE ?_
      refine tr1 rfl (aD (v := .d (.lit (.int .i64 i_0_2))) (aA rfl) rfl rfl) ?_
      refine tr1 rfl (aD (v := .d (.lit (.int .i64 j_0_2))) (aA rfl) rfl rfl) ?_
      refine tr1 rfl (aZ (aA rfl) rfl rfl rfl) ?_
      refine tr1 rfl (oZ (aA rfl) rfl Try.runUnderlying3 Try.runUnderlying127) ?_
      refine tr1 rfl (aAq (aA rfl) rfl rfl (by decide)) ?_
      refine tr1 rfl (oZ (aA rfl) rfl Try.runUnderlying127 Try.runUnderlying3) ?_
      refine tr1 rfl (aJ (v := .d (.lit (.int .i64 ((w64 ((IntKind.u64.wrap (w64 (i_0_2 + j_0_2))).fdiv (2 ^ (min (1 : Int).toNat 64)))))))) (aA rfl) rfl rfl) ?_
      refine aF ?_
      refine aG ?_
      obtain ⟨x5, h6, h⟩ := bind_some h
      obtain ⟨x7, h8, h⟩ := bind_some h
      refine fU mix 9 [0, 1, 4, 10, 11, 12] [(40, .fn cmp_4_f cmp_4_v), (44, .agg (aB x5)), (48, .agg (aB x7))] ?_ ?_
      ·refine ⟨[(40, 0, .fn cmp_4_f cmp_4_v), (41, 1, .d (.lit data_0_v)), (42, 2, .d (.lit (.int .i64 ((w64 ((IntKind.u64.wrap (w64 (i_0_2 + j_0_2))).fdiv (2 ^ (min (1 : Int).toNat 64)))))))), (43, 3, .ep data_0_v 5 (w64 ((IntKind.u64.wrap (w64 (i_0_2 + j_0_2))).fdiv (2 ^ (min (1 : Int).toNat 64)))).toNat 0), (44, 4, .agg (aB x5)), (45, 5, .d (.lit data_0_v)), (46, 6, .d (.lit (.int .i64 a_1))), (47, 7, .ep data_0_v 5 a_1.toNat 0), (48, 8, .agg (aB x7))], ?_, ?_⟩
       · exact ⟨by kernel_rfl, by kernel_rfl, by kernel_rfl, by kernel_rfl, by kernel_rfl, [([], []), ([], []), ([], []), ([1, 2], []), ([3], []), ([], []), ([], []), ([5, 6], []), ([7], [])], by kernel_rfl, ⟨fun S hS => aK rfl (aQ rfl (aD (v := .fn cmp_4_f cmp_4_v) (aA rfl) (aI hS rfl) rfl)),
      fun S hS => aK rfl (aQ rfl (aD (v := .d (.lit data_0_v)) (aA rfl) (aI hS rfl) rfl)),
      fun S hS => aK rfl (aQ rfl (aD (v := .d (.lit (.int .i64 ((w64 ((IntKind.u64.wrap (w64 (i_0_2 + j_0_2))).fdiv (2 ^ (min (1 : Int).toNat 64)))))))) (aA rfl) (aI hS rfl) rfl)),
      fun S hS => aK rfl (aQ rfl (cE (m := 0) (aA rfl) (aI hS rfl) rfl (aI hS rfl) bP.of (bN aB h6))),
      fun S hS => aK rfl (aQ rfl (dG (aA rfl) (aI hS rfl) (l := 0) rfl (eA aB h6) dR (es := (aB x5)) rfl rfl)),
      fun S hS => aK rfl (aQ rfl (aD (v := .d (.lit data_0_v)) (aA rfl) (aI hS rfl) rfl)),
      fun S hS => aK rfl (aQ rfl (aD (v := .d (.lit (.int .i64 a_1))) (aA rfl) (aI hS rfl) rfl)),
      fun S hS => aK rfl (aQ rfl (cE (m := 0) (aA rfl) (aI hS rfl) rfl (aI hS rfl) bP.of (bN aB h8))),
      fun S hS => aK rfl (aQ rfl (dG (aA rfl) (aI hS rfl) (l := 0) rfl (eA aB h8) dR (es := (aB x7)) rfl rfl)), trivial⟩⟩
       · exact dX (aO rfl (aO rfl (aO rfl (aY ⟨rfl, rfl, rfl, rfl, rfl, rfl, trivial⟩))))
      ·obtain ⟨r9, h10, h⟩ := bind_some h
       refine tr1 rfl (cC (aA rfl) (.clo _ _ _ _ cmp_4_e rfl) (uB rfl) rfl (BVs.refl _ _) (cmp_4_h _ _ _  h10) rfl) ?_
       refine tr1 rfl (bC (aA rfl) rfl rfl rfl) ?_
       refine aF ?_
       refine bH rfl (fun c11 => ?_) (fun c11 => ?_)
       ·have h := aU c11 h
        refine aE ?_
        refine tr1 rfl (aD (v := .d (.lit (.int .i64 ((w64 ((IntKind.u64.wrap (w64 (i_0_2 + j_0_2))).fdiv (2 ^ (min (1 : Int).toNat 64)))))))) (aA rfl) rfl rfl) ?_
        refine tr1 rfl (aZ (aA rfl) rfl rfl rfl) ?_
        refine tr1 rfl (aJ (v := .d (.lit (.int .i64 ((w64 ((w64 ((IntKind.u64.wrap (w64 (i_0_2 + j_0_2))).fdiv (2 ^ (min (1 : Int).toNat 64)))) + 1)))))) (aA rfl) rfl rfl) ?_
        refine eC ?_
        exact ⟨(w64 ((w64 ((IntKind.u64.wrap (w64 (i_0_2 + j_0_2))).fdiv (2 ^ (min (1 : Int).toNat 64)))) + 1), j_0_2), h, aX [0] rfl rfl (aO rfl (aO rfl (aY ⟨rfl, rfl, rfl, trivial⟩)))⟩
       ·have h := aT c11 h
        refine aE ?_
        refine tr1 rfl (aD (v := .d (.lit (.int .i64 ((w64 ((IntKind.u64.wrap (w64 (i_0_2 + j_0_2))).fdiv (2 ^ (min (1 : Int).toNat 64)))))))) (aA rfl) rfl rfl) ?_
        refine tr1 rfl (aJ (v := .d (.lit (.int .i64 ((w64 ((IntKind.u64.wrap (w64 (i_0_2 + j_0_2))).fdiv (2 ^ (min (1 : Int).toNat 64)))))))) (aA rfl) rfl rfl) ?_
        refine eC ?_
        exact ⟨(i_0_2, w64 ((IntKind.u64.wrap (w64 (i_0_2 + j_0_2))).fdiv (2 ^ (min (1 : Int).toNat 64)))), h, aX [0] rfl rfl (aO rfl (aO rfl (aY ⟨rfl, rfl, rfl, trivial⟩)))⟩
     ·have h := aT c4 h
      refine cQ ?_
      refine .inl ⟨rfl, ?_⟩
      simp only [fY] at h
      refine aG ?_
      refine aG ?_
      refine aE ?_
      refine tr1 rfl (aD (v := .d (.lit (.int .i64 a_1))) (aA rfl) rfl rfl) ?_
      refine tr1 rfl (aJ (v := .d (.lit (.int .i64 a_1))) (aA rfl) rfl rfl) ?_
      refine aF ?_
      refine bQ ?_
      refine cH [10] (fun (s12 : Int × (List aC)) => [(0, .d (.lit data_0_v)), (13, .d (.lit (.int .i64 s12.1)))]) (fun (s12 : Int × (List aC)) => [.arr data_0_v 42 5 (s12.2.map aB)]) (fun (k : Nat) (s12 : Int × (List aC)) => dN (bD cmp_4 kr) i_0_2 k s12.1 s12.2) (fun _ => rfl) (a_1, data_0) h (aX [0] rfl rfl (aO rfl (aO rfl (aY ⟨rfl, trivial⟩)))) ?_
      rintro k13 ⟨k_2_12, data_2_12⟩ h
      simp only [dN] at h
      refine aG ?_
      refine aG ?_
      refine aE ?_
      refine tr1 rfl (aD (v := .d (.lit (.int .i64 k_2_12))) (aA rfl) rfl rfl) ?_
      refine tr1 rfl (aD (v := .d (.lit (.int .i64 i_0_2))) (aA rfl) rfl rfl) ?_
      refine tr1 rfl (aZ (aA rfl) rfl rfl rfl) ?_
      refine tr1 rfl (bC (aA rfl) rfl rfl rfl) ?_
      refine aF ?_
      refine bH rfl (fun c14 => ?_) (fun c14 => ?_)
      ·have h := aU c14 h
       refine bE ?_
       refine aG ?_
       refine bQ ?_
       obtain ⟨x16, h17, h⟩ := bind_some h
       obtain ⟨x18, h19, h⟩ := bind_some h
       obtain ⟨x20, h21, h⟩ := bind_some h
       refine lC mix 16 [0, 10, 13] (fun X15 => [(63, .d (.lit data_0_v)), (65, .d (.lit (.int .i64 ((w64 (k_2_12 + 1)))))), (74, .agg (aB x18))]) (fun X15 => [.arr data_0_v 42 5 ((data_2_12.set k_2_12.toNat x16).map aB)]) ?_ ?_
       ·refine ⟨0, fun X15 => [(61, 0, .d (.lit data_0_v)), (62, 1, .d (.lit (.int .i64 k_2_12))), (63, 2, .d (.lit data_0_v)), (64, 3, .d (.lit (.int .i64 k_2_12))), (65, 4, .d (.lit (.int .i64 ((w64 (k_2_12 + 1)))))), (66, 5, .d (.lit data_0_v)), (67, 6, .d (.lit (.int .i64 k_2_12))), (68, 7, .d (.lit (.int .i64 ((w64 (k_2_12 + 1)))))), (69, 8, .ep data_0_v 5 (w64 (k_2_12 + 1)).toNat 0), (70, 9, .agg (aB x16)), (71, 10, .d (.lit data_0_v)), (72, 11, .d (.lit (.int .i64 k_2_12))), (73, 12, .ep data_0_v 5 k_2_12.toNat 0), (74, 13, .agg (aB x18)), (75, 14, .ep data_0_v 5 k_2_12.toNat 0)], fun X15 => [([(15, .arr data_0_v 42 5 ((data_2_12.set k_2_12.toNat x16).map aB))], .arr data_0_v 42 5 (data_2_12.map aB))], ?_, ?_⟩
        · exact ⟨by kernel_rfl, by kernel_rfl, by kernel_rfl, fun _ => by kernel_rfl, fun _ => by kernel_rfl, fun _ => by kernel_rfl, fun _ => rfl, [([], [15]), ([], [15]), ([], []), ([], []), ([3], []), ([], [15]), ([], [15]), ([6], [15]), ([5, 7], [15]), ([8], [15]), ([], [15]), ([], [15]), ([10, 11], [15]), ([12], [15]), ([0, 1], [15]), ([9, 14], [])], by kernel_rfl, ⟨fun X15 S hw hi hS => bG (X := X15) rfl (hw X15) rfl (aQ rfl (aD (v := .d (.lit data_0_v)) (aA rfl) (aI hS rfl) rfl)),
      fun X15 S hw hi hS => bG (X := X15) rfl (hw X15) rfl (aQ rfl (aD (v := .d (.lit (.int .i64 k_2_12))) (aA rfl) (aI hS rfl) rfl)),
      fun X15 S hw hi hS => bG (X := X15) rfl (hw X15) rfl (aQ rfl (aD (v := .d (.lit data_0_v)) (aA rfl) (aI hS rfl) rfl)),
      fun X15 S hw hi hS => bG (X := X15) rfl (hw X15) rfl (aQ rfl (aD (v := .d (.lit (.int .i64 k_2_12))) (aA rfl) (aI hS rfl) rfl)),
      fun X15 S hw hi hS => bG (X := X15) rfl (hw X15) rfl (aQ rfl (aZ (aA rfl) (aI hS rfl) rfl rfl)),
      fun X15 S hw hi hS => bG (X := X15) rfl (hw X15) rfl (aQ rfl (aD (v := .d (.lit data_0_v)) (aA rfl) (aI hS rfl) rfl)),
      fun X15 S hw hi hS => bG (X := X15) rfl (hw X15) rfl (aQ rfl (aD (v := .d (.lit (.int .i64 k_2_12))) (aA rfl) (aI hS rfl) rfl)),
      fun X15 S hw hi hS => bG (X := X15) rfl (hw X15) rfl (aQ rfl (aZ (aA rfl) (aI hS rfl) rfl rfl)),
      fun X15 S hw hi hS => bG (X := X15) rfl (hw X15) rfl (aQ rfl (cE (m := 0) (aA rfl) (aI hS rfl) (og hS rfl rfl) (aI hS rfl) bP.of (bN aB h17))),
      fun X15 S hw hi hS => bG (X := X15) rfl (hw X15) rfl (aQ rfl (dG (aA rfl) (aI hS rfl) (l := 0) (og hS rfl rfl) (eA aB h17) dR (es := (aB x16)) rfl rfl)),
      fun X15 S hw hi hS => bG (X := X15) rfl (hw X15) rfl (aQ rfl (aD (v := .d (.lit data_0_v)) (aA rfl) (aI hS rfl) rfl)),
      fun X15 S hw hi hS => bG (X := X15) rfl (hw X15) rfl (aQ rfl (aD (v := .d (.lit (.int .i64 k_2_12))) (aA rfl) (aI hS rfl) rfl)),
      fun X15 S hw hi hS => bG (X := X15) rfl (hw X15) rfl (aQ rfl (cE (m := 0) (aA rfl) (aI hS rfl) (og hS rfl rfl) (aI hS rfl) bP.of (bN aB h19))),
      fun X15 S hw hi hS => bG (X := X15) rfl (hw X15) rfl (aQ rfl (dG (aA rfl) (aI hS rfl) (l := 0) (og hS rfl rfl) (eA aB h19) dR (es := (aB x18)) rfl rfl)),
      fun X15 S hw hi hS => bG (X := X15) rfl (hw X15) rfl (aQ rfl (cE (m := 0) (aA rfl) (aI hS rfl) (og hS rfl rfl) (aI hS rfl) bP.of (bN aB h21))),
      fun X15 S hw hi hS => qY (X := X15) hS rfl rfl rfl (p := 0) rfl rfl (aQ rfl (jG (l := 0) (aI hS rfl) (og hS rfl rfl) (eA aB h21) (aI hS rfl) rfl rfl Try.sizeOf42 rfl (aA rfl) (Nat.le_of_ble_eq_true rfl) (rows' := ((data_2_12.set k_2_12.toNat x16)).map aB) (mL _ _ _ _ rfl))), trivial⟩⟩
        · exact fun X15 => dX (aO rfl (aO rfl (aO rfl (aY ⟨rfl, rfl, rfl, trivial⟩))))
       ·intro X15
        obtain ⟨x22, h23, h⟩ := bind_some h
        refine tr1 rfl (cE (m := 0) (aA rfl) rfl rfl rfl bP.of (bN aB h23)) ?_
        refine tr1 rfl (jG (l := 0) rfl rfl (eA aB h23) rfl rfl rfl Try.sizeOf42 rfl (aA rfl) (Nat.le_of_ble_eq_true rfl) (rows' := (((data_2_12.set k_2_12.toNat x16).set (w64 (k_2_12 + 1)).toNat x18)).map aB) (mL _ _ _ _ rfl)) ?_
        refine eC ?_
        refine aE ?_
        refine tr1 rfl (aD (v := .d (.lit (.int .i64 k_2_12))) (aA rfl) rfl rfl) ?_
        refine tr1 rfl (aZ (aA rfl) rfl rfl rfl) ?_
        refine tr1 rfl (aJ (v := .d (.lit (.int .i64 ((w64 (k_2_12 + 1)))))) (aA rfl) rfl rfl) ?_
        refine aF ?_
        exact ⟨(w64 (k_2_12 + 1), ((data_2_12.set k_2_12.toNat x16).set (w64 (k_2_12 + 1)).toNat x18)), h, aX [0] rfl rfl (aO rfl (aO rfl (aY ⟨rfl, trivial⟩)))⟩
      ·have h := aT c14 h
       refine cQ ?_
       refine .inl ⟨rfl, ?_⟩
       simp only [iN] at h
       have h := Option.some.inj h
       subst h
       exact bI ⟨rfl, _, [.arr data_0_v 42 5 (data_2_12.map aB)], [], _, .none, .refl _, .same _, rfl, rfl⟩
    ·have h := aT c1 h
     refine bE ?_
     refine aG ?_
     refine aG ?_
     refine aE ?_
     refine tr1 rfl (aD (v := .d (.lit (.int .i64 b_3))) (aA rfl) rfl rfl) ?_
     refine tr1 rfl (aD (v := .d (.lit (.int .i64 m_2))) (aA rfl) rfl rfl) ?_
     refine tr1 rfl (aZ (aA rfl) rfl rfl rfl) ?_
     refine tr1 rfl (bC (aA rfl) rfl rfl rfl) ?_
     refine aF ?_
     refine bH rfl (fun c24 => ?_) (fun c24 => ?_)
     ·have h := aU c24 h
      refine aG ?_
      refine aE ?_
      refine tr1 rfl (aD (v := .d (.lit (.int .i64 a_1))) (aA rfl) rfl rfl) ?_
      refine tr1 rfl (aJ (v := .d (.lit (.int .i64 a_1))) (aA rfl) rfl rfl) ?_
      refine aF ?_
      refine aG ?_
      refine aE ?_
      refine tr1 rfl (aD (v := .d (.lit (.int .i64 m_2))) (aA rfl) rfl rfl) ?_
      refine tr1 rfl (aJ (v := .d (.lit (.int .i64 m_2))) (aA rfl) rfl rfl) ?_
      refine aF ?_
      refine aG ?_
      refine bQ ?_
      refine cH [0, 2, 4] (fun (s25 : Int × Int) => [(14, .d (.lit (.int .i64 s25.1))), (15, .d (.lit (.int .i64 s25.2)))]) (fun (s25 : Int × Int) => [.arr data_0_v 42 5 (data_0.map aB)]) (fun (k : Nat) (s25 : Int × Int) => cO (bD cmp_4 kr) m_2 cmp_4 data_0 k s25.1 s25.2) (fun _ => rfl) (a_1, m_2) h (aX [0] rfl rfl (aO rfl (aO rfl (aY ⟨rfl, rfl, rfl, trivial⟩)))) ?_
      rintro k26 ⟨i_4_25, j_4_25⟩ h
      simp only [cO] at h
      refine aG ?_
      refine aG ?_
      refine aE ?_
      refine tr1 rfl (aD (v := .d (.lit (.int .i64 i_4_25))) (aA rfl) rfl rfl) ?_
      refine tr1 rfl (aD (v := .d (.lit (.int .i64 j_4_25))) (aA rfl) rfl rfl) ?_
      refine tr1 rfl (bC (aA rfl) rfl rfl rfl) ?_
      refine aF ?_
      refine bH rfl (fun c27 => ?_) (fun c27 => ?_)
      ·have h := aU c27 h
       refine bE ?_
       refine bQ ?_
       refine aG ?_
       refine aE ?_
       refine tr1 rfl (aD (v := .d (.lit (.int .i64 i_4_25))) (aA rfl) rfl rfl) ?_
       refine tr1 rfl (aD (v := .d (.lit (.int .i64 j_4_25))) (aA rfl) rfl rfl) ?_
       refine tr1 rfl (aZ (aA rfl) rfl rfl rfl) ?_
       refine tr1 rfl (oZ (aA rfl) rfl Try.runUnderlying3 Try.runUnderlying127) ?_
       refine tr1 rfl (aAq (aA rfl) rfl rfl (by decide)) ?_
       refine tr1 rfl (oZ (aA rfl) rfl Try.runUnderlying127 Try.runUnderlying3) ?_
       refine tr1 rfl (aJ (v := .d (.lit (.int .i64 ((w64 ((IntKind.u64.wrap (w64 (i_4_25 + j_4_25))).fdiv (2 ^ (min (1 : Int).toNat 64)))))))) (aA rfl) rfl rfl) ?_
       refine aF ?_
       refine aG ?_
       obtain ⟨x28, h29, h⟩ := bind_some h
       obtain ⟨x30, h31, h⟩ := bind_some h
       refine fU mix 9 [0, 2, 4, 14, 15, 16] [(92, .fn cmp_4_f cmp_4_v), (96, .agg (aB x28)), (100, .agg (aB x30))] ?_ ?_
       ·refine ⟨[(92, 0, .fn cmp_4_f cmp_4_v), (93, 1, .d (.lit data_0_v)), (94, 2, .d (.lit (.int .i64 m_2))), (95, 3, .ep data_0_v 5 m_2.toNat 0), (96, 4, .agg (aB x28)), (97, 5, .d (.lit data_0_v)), (98, 6, .d (.lit (.int .i64 ((w64 ((IntKind.u64.wrap (w64 (i_4_25 + j_4_25))).fdiv (2 ^ (min (1 : Int).toNat 64)))))))), (99, 7, .ep data_0_v 5 (w64 ((IntKind.u64.wrap (w64 (i_4_25 + j_4_25))).fdiv (2 ^ (min (1 : Int).toNat 64)))).toNat 0), (100, 8, .agg (aB x30))], ?_, ?_⟩
        · exact ⟨by kernel_rfl, by kernel_rfl, by kernel_rfl, by kernel_rfl, by kernel_rfl, [([], []), ([], []), ([], []), ([1, 2], []), ([3], []), ([], []), ([], []), ([5, 6], []), ([7], [])], by kernel_rfl, ⟨fun S hS => aK rfl (aQ rfl (aD (v := .fn cmp_4_f cmp_4_v) (aA rfl) (aI hS rfl) rfl)),
      fun S hS => aK rfl (aQ rfl (aD (v := .d (.lit data_0_v)) (aA rfl) (aI hS rfl) rfl)),
      fun S hS => aK rfl (aQ rfl (aD (v := .d (.lit (.int .i64 m_2))) (aA rfl) (aI hS rfl) rfl)),
      fun S hS => aK rfl (aQ rfl (cE (m := 0) (aA rfl) (aI hS rfl) rfl (aI hS rfl) bP.of (bN aB h29))),
      fun S hS => aK rfl (aQ rfl (dG (aA rfl) (aI hS rfl) (l := 0) rfl (eA aB h29) dR (es := (aB x28)) rfl rfl)),
      fun S hS => aK rfl (aQ rfl (aD (v := .d (.lit data_0_v)) (aA rfl) (aI hS rfl) rfl)),
      fun S hS => aK rfl (aQ rfl (aD (v := .d (.lit (.int .i64 ((w64 ((IntKind.u64.wrap (w64 (i_4_25 + j_4_25))).fdiv (2 ^ (min (1 : Int).toNat 64)))))))) (aA rfl) (aI hS rfl) rfl)),
      fun S hS => aK rfl (aQ rfl (cE (m := 0) (aA rfl) (aI hS rfl) rfl (aI hS rfl) bP.of (bN aB h31))),
      fun S hS => aK rfl (aQ rfl (dG (aA rfl) (aI hS rfl) (l := 0) rfl (eA aB h31) dR (es := (aB x30)) rfl rfl)), trivial⟩⟩
        · exact dX (aO rfl (aO rfl (aO rfl (aY ⟨rfl, rfl, rfl, rfl, rfl, rfl, trivial⟩))))
       ·obtain ⟨r32, h33, h⟩ := bind_some h
        refine tr1 rfl (cC (aA rfl) (.clo _ _ _ _ cmp_4_e rfl) (uB rfl) rfl (BVs.refl _ _) (cmp_4_h _ _ _  h33) rfl) ?_
        refine tr1 rfl (bC (aA rfl) rfl rfl rfl) ?_
        refine tr1 rfl (fO (aA rfl) rfl) ?_
        refine aF ?_
        refine bH rfl (fun c34 => ?_) (fun c34 => ?_)
        ·have h := aU c34 h
         refine aE ?_
         refine tr1 rfl (aD (v := .d (.lit (.int .i64 ((w64 ((IntKind.u64.wrap (w64 (i_4_25 + j_4_25))).fdiv (2 ^ (min (1 : Int).toNat 64)))))))) (aA rfl) rfl rfl) ?_
         refine tr1 rfl (aZ (aA rfl) rfl rfl rfl) ?_
         refine tr1 rfl (aJ (v := .d (.lit (.int .i64 ((w64 ((w64 ((IntKind.u64.wrap (w64 (i_4_25 + j_4_25))).fdiv (2 ^ (min (1 : Int).toNat 64)))) + 1)))))) (aA rfl) rfl rfl) ?_
         refine eC ?_
         exact ⟨(w64 ((w64 ((IntKind.u64.wrap (w64 (i_4_25 + j_4_25))).fdiv (2 ^ (min (1 : Int).toNat 64)))) + 1), j_4_25), h, aX [0] rfl rfl (aO rfl (aO rfl (aY ⟨rfl, rfl, rfl, trivial⟩)))⟩
        ·have h := aT c34 h
         refine aE ?_
         refine tr1 rfl (aD (v := .d (.lit (.int .i64 ((w64 ((IntKind.u64.wrap (w64 (i_4_25 + j_4_25))).fdiv (2 ^ (min (1 : Int).toNat 64)))))))) (aA rfl) rfl rfl) ?_
         refine tr1 rfl (aJ (v := .d (.lit (.int .i64 ((w64 ((IntKind.u64.wrap (w64 (i_4_25 + j_4_25))).fdiv (2 ^ (min (1 : Int).toNat 64)))))))) (aA rfl) rfl rfl) ?_
         refine eC ?_
         exact ⟨(i_4_25, w64 ((IntKind.u64.wrap (w64 (i_4_25 + j_4_25))).fdiv (2 ^ (min (1 : Int).toNat 64)))), h, aX [0] rfl rfl (aO rfl (aO rfl (aY ⟨rfl, rfl, rfl, trivial⟩)))⟩
      ·have h := aT c27 h
       refine cQ ?_
       refine .inl ⟨rfl, ?_⟩
       simp only [fZ] at h
       refine aG ?_
       refine aG ?_
       refine aE ?_
       refine tr1 rfl (aD (v := .d (.lit (.int .i64 m_2))) (aA rfl) rfl rfl) ?_
       refine tr1 rfl (aJ (v := .d (.lit (.int .i64 m_2))) (aA rfl) rfl rfl) ?_
       refine aF ?_
       refine bQ ?_
       refine cH [14] (fun (s35 : Int × (List aC)) => [(0, .d (.lit data_0_v)), (17, .d (.lit (.int .i64 s35.1)))]) (fun (s35 : Int × (List aC)) => [.arr data_0_v 42 5 (s35.2.map aB)]) (fun (k : Nat) (s35 : Int × (List aC)) => dO (bD cmp_4 kr) i_4_25 k s35.1 s35.2) (fun _ => rfl) (m_2, data_0) h (aX [0] rfl rfl (aO rfl (aO rfl (aY ⟨rfl, trivial⟩)))) ?_
       rintro k36 ⟨k_6_35, data_6_35⟩ h
       simp only [dO] at h
       refine aG ?_
       refine aG ?_
       refine aE ?_
       refine tr1 rfl (aD (v := .d (.lit (.int .i64 k_6_35))) (aA rfl) rfl rfl) ?_
       refine tr1 rfl (aD (v := .d (.lit (.int .i64 i_4_25))) (aA rfl) rfl rfl) ?_
       refine tr1 rfl (bC (aA rfl) rfl rfl rfl) ?_
       refine aF ?_
       refine bH rfl (fun c37 => ?_) (fun c37 => ?_)
       ·have h := aU c37 h
        refine bE ?_
        refine aG ?_
        refine bQ ?_
        obtain ⟨x39, h40, h⟩ := bind_some h
        obtain ⟨x41, h42, h⟩ := bind_some h
        obtain ⟨x43, h44, h⟩ := bind_some h
        refine lC mix 16 [0, 14, 17] (fun X38 => [(115, .d (.lit data_0_v)), (117, .d (.lit (.int .i64 ((w64 (k_6_35 - 1)))))), (126, .agg (aB x41))]) (fun X38 => [.arr data_0_v 42 5 ((data_6_35.set k_6_35.toNat x39).map aB)]) ?_ ?_
        ·refine ⟨0, fun X38 => [(113, 0, .d (.lit data_0_v)), (114, 1, .d (.lit (.int .i64 k_6_35))), (115, 2, .d (.lit data_0_v)), (116, 3, .d (.lit (.int .i64 k_6_35))), (117, 4, .d (.lit (.int .i64 ((w64 (k_6_35 - 1)))))), (118, 5, .d (.lit data_0_v)), (119, 6, .d (.lit (.int .i64 k_6_35))), (120, 7, .d (.lit (.int .i64 ((w64 (k_6_35 - 1)))))), (121, 8, .ep data_0_v 5 (w64 (k_6_35 - 1)).toNat 0), (122, 9, .agg (aB x39)), (123, 10, .d (.lit data_0_v)), (124, 11, .d (.lit (.int .i64 k_6_35))), (125, 12, .ep data_0_v 5 k_6_35.toNat 0), (126, 13, .agg (aB x41)), (127, 14, .ep data_0_v 5 k_6_35.toNat 0)], fun X38 => [([(15, .arr data_0_v 42 5 ((data_6_35.set k_6_35.toNat x39).map aB))], .arr data_0_v 42 5 (data_6_35.map aB))], ?_, ?_⟩
         · exact ⟨by kernel_rfl, by kernel_rfl, by kernel_rfl, fun _ => by kernel_rfl, fun _ => by kernel_rfl, fun _ => by kernel_rfl, fun _ => rfl, [([], [15]), ([], [15]), ([], []), ([], []), ([3], []), ([], [15]), ([], [15]), ([6], [15]), ([5, 7], [15]), ([8], [15]), ([], [15]), ([], [15]), ([10, 11], [15]), ([12], [15]), ([0, 1], [15]), ([9, 14], [])], by kernel_rfl, ⟨fun X38 S hw hi hS => bG (X := X38) rfl (hw X38) rfl (aQ rfl (aD (v := .d (.lit data_0_v)) (aA rfl) (aI hS rfl) rfl)),
      fun X38 S hw hi hS => bG (X := X38) rfl (hw X38) rfl (aQ rfl (aD (v := .d (.lit (.int .i64 k_6_35))) (aA rfl) (aI hS rfl) rfl)),
      fun X38 S hw hi hS => bG (X := X38) rfl (hw X38) rfl (aQ rfl (aD (v := .d (.lit data_0_v)) (aA rfl) (aI hS rfl) rfl)),
      fun X38 S hw hi hS => bG (X := X38) rfl (hw X38) rfl (aQ rfl (aD (v := .d (.lit (.int .i64 k_6_35))) (aA rfl) (aI hS rfl) rfl)),
      fun X38 S hw hi hS => bG (X := X38) rfl (hw X38) rfl (aQ rfl (aZ (aA rfl) (aI hS rfl) rfl rfl)),
      fun X38 S hw hi hS => bG (X := X38) rfl (hw X38) rfl (aQ rfl (aD (v := .d (.lit data_0_v)) (aA rfl) (aI hS rfl) rfl)),
      fun X38 S hw hi hS => bG (X := X38) rfl (hw X38) rfl (aQ rfl (aD (v := .d (.lit (.int .i64 k_6_35))) (aA rfl) (aI hS rfl) rfl)),
      fun X38 S hw hi hS => bG (X := X38) rfl (hw X38) rfl (aQ rfl (aZ (aA rfl) (aI hS rfl) rfl rfl)),
      fun X38 S hw hi hS => bG (X := X38) rfl (hw X38) rfl (aQ rfl (cE (m := 0) (aA rfl) (aI hS rfl) (og hS rfl rfl) (aI hS rfl) bP.of (bN aB h40))),
      fun X38 S hw hi hS => bG (X := X38) rfl (hw X38) rfl (aQ rfl (dG (aA rfl) (aI hS rfl) (l := 0) (og hS rfl rfl) (eA aB h40) dR (es := (aB x39)) rfl rfl)),
      fun X38 S hw hi hS => bG (X := X38) rfl (hw X38) rfl (aQ rfl (aD (v := .d (.lit data_0_v)) (aA rfl) (aI hS rfl) rfl)),
      fun X38 S hw hi hS => bG (X := X38) rfl (hw X38) rfl (aQ rfl (aD (v := .d (.lit (.int .i64 k_6_35))) (aA rfl) (aI hS rfl) rfl)),
      fun X38 S hw hi hS => bG (X := X38) rfl (hw X38) rfl (aQ rfl (cE (m := 0) (aA rfl) (aI hS rfl) (og hS rfl rfl) (aI hS rfl) bP.of (bN aB h42))),
      fun X38 S hw hi hS => bG (X := X38) rfl (hw X38) rfl (aQ rfl (dG (aA rfl) (aI hS rfl) (l := 0) (og hS rfl rfl) (eA aB h42) dR (es := (aB x41)) rfl rfl)),
      fun X38 S hw hi hS => bG (X := X38) rfl (hw X38) rfl (aQ rfl (cE (m := 0) (aA rfl) (aI hS rfl) (og hS rfl rfl) (aI hS rfl) bP.of (bN aB h44))),
      fun X38 S hw hi hS => qY (X := X38) hS rfl rfl rfl (p := 0) rfl rfl (aQ rfl (jG (l := 0) (aI hS rfl) (og hS rfl rfl) (eA aB h44) (aI hS rfl) rfl rfl Try.sizeOf42 rfl (aA rfl) (Nat.le_of_ble_eq_true rfl) (rows' := ((data_6_35.set k_6_35.toNat x39)).map aB) (mL _ _ _ _ rfl))), trivial⟩⟩
         · exact fun X38 => dX (aO rfl (aO rfl (aO rfl (aY ⟨rfl, rfl, rfl, trivial⟩))))
        ·intro X38
         obtain ⟨x45, h46, h⟩ := bind_some h
         refine tr1 rfl (cE (m := 0) (aA rfl) rfl rfl rfl bP.of (bN aB h46)) ?_
         refine tr1 rfl (jG (l := 0) rfl rfl (eA aB h46) rfl rfl rfl Try.sizeOf42 rfl (aA rfl) (Nat.le_of_ble_eq_true rfl) (rows' := (((data_6_35.set k_6_35.toNat x39).set (w64 (k_6_35 - 1)).toNat x41)).map aB) (mL _ _ _ _ rfl)) ?_
         refine eC ?_
         refine aE ?_
         refine tr1 rfl (aD (v := .d (.lit (.int .i64 k_6_35))) (aA rfl) rfl rfl) ?_
         refine tr1 rfl (aZ (aA rfl) rfl rfl rfl) ?_
         refine tr1 rfl (aJ (v := .d (.lit (.int .i64 ((w64 (k_6_35 - 1)))))) (aA rfl) rfl rfl) ?_
         refine aF ?_
         exact ⟨(w64 (k_6_35 - 1), ((data_6_35.set k_6_35.toNat x39).set (w64 (k_6_35 - 1)).toNat x41)), h, aX [0] rfl rfl (aO rfl (aO rfl (aY ⟨rfl, trivial⟩)))⟩
       ·have h := aT c37 h
        refine cQ ?_
        refine .inl ⟨rfl, ?_⟩
        simp only [iO] at h
        have h := Option.some.inj h
        subst h
        exact bI ⟨rfl, _, [.arr data_0_v 42 5 (data_6_35.map aB)], [], _, .none, .refl _, .same _, rfl, rfl⟩
     ·have h := aT c24 h
      refine bE ?_
      refine aG ?_
      refine aE ?_
      refine tr1 rfl (aD (v := .d (.lit (.int .i64 a_1))) (aA rfl) rfl rfl) ?_
      refine tr1 rfl (aD (v := .d (.lit (.int .i64 b_3))) (aA rfl) rfl rfl) ?_
      refine tr1 rfl (aZ (aA rfl) rfl rfl rfl) ?_
      refine tr1 rfl (oZ (aA rfl) rfl Try.runUnderlying3 Try.runUnderlying127) ?_
      refine tr1 rfl (aAq (aA rfl) rfl rfl (by decide)) ?_
      refine tr1 rfl (oZ (aA rfl) rfl Try.runUnderlying127 Try.runUnderlying3) ?_
      refine tr1 rfl (aJ (v := .d (.lit (.int .i64 ((w64 ((IntKind.u64.wrap (w64 (a_1 + b_3))).fdiv (2 ^ (min (1 : Int).toNat 64)))))))) (aA rfl) rfl rfl) ?_
      refine aF ?_
      refine aG ?_
      refine aE ?_
      refine tr1 rfl (aD (v := .d (.lit (.int .i64 ((w64 ((IntKind.u64.wrap (w64 (a_1 + b_3))).fdiv (2 ^ (min (1 : Int).toNat 64)))))))) (aA rfl) rfl rfl) ?_
      refine tr1 rfl (aD (v := .d (.lit (.int .i64 m_2))) (aA rfl) rfl rfl) ?_
      refine tr1 rfl (aZ (aA rfl) rfl rfl rfl) ?_
      refine tr1 rfl (aJ (v := .d (.lit (.int .i64 ((w64 ((w64 ((IntKind.u64.wrap (w64 (a_1 + b_3))).fdiv (2 ^ (min (1 : Int).toNat 64)))) + m_2)))))) (aA rfl) rfl rfl) ?_
      refine aF ?_
      refine aG ?_
      refine aE ?_
      refine tr1 rfl (aJ (v := .d (.lit (.int .i64 0))) (aA rfl) rfl rfl) ?_
      refine tr1 rfl (aJ (v := .d (.lit (.int .i64 0))) (aA rfl) rfl rfl) ?_
      refine aF ?_
      refine aG ?_
      refine aG ?_
      refine aE ?_
      refine tr1 rfl (aD (v := .d (.lit (.int .i64 m_2))) (aA rfl) rfl rfl) ?_
      refine tr1 rfl (aD (v := .d (.lit (.int .i64 ((w64 ((IntKind.u64.wrap (w64 (a_1 + b_3))).fdiv (2 ^ (min (1 : Int).toNat 64)))))))) (aA rfl) rfl rfl) ?_
      refine tr1 rfl (bC (aA rfl) rfl rfl rfl) ?_
      refine aF ?_
      refine bH rfl (fun c47 => ?_) (fun c47 => ?_)
      ·have h := aU c47 h
       refine aG ?_
       refine aE ?_
       refine tr1 rfl (aD (v := .d (.lit (.int .i64 ((w64 ((w64 ((IntKind.u64.wrap (w64 (a_1 + b_3))).fdiv (2 ^ (min (1 : Int).toNat 64)))) + m_2)))))) (aA rfl) rfl rfl) ?_
       refine tr1 rfl (aD (v := .d (.lit (.int .i64 b_3))) (aA rfl) rfl rfl) ?_
       refine tr1 rfl (aZ (aA rfl) rfl rfl rfl) ?_
       refine tr1 rfl (aJ (v := .d (.lit (.int .i64 ((w64 ((w64 ((w64 ((IntKind.u64.wrap (w64 (a_1 + b_3))).fdiv (2 ^ (min (1 : Int).toNat 64)))) + m_2)) - b_3)))))) (aA rfl) rfl rfl) ?_
       refine aF ?_
       refine aE ?_
       refine tr1 rfl (aD (v := .d (.lit (.int .i64 ((w64 ((IntKind.u64.wrap (w64 (a_1 + b_3))).fdiv (2 ^ (min (1 : Int).toNat 64)))))))) (aA rfl) rfl rfl) ?_
       refine tr1 rfl (aJ (v := .d (.lit (.int .i64 ((w64 ((IntKind.u64.wrap (w64 (a_1 + b_3))).fdiv (2 ^ (min (1 : Int).toNat 64)))))))) (aA rfl) rfl rfl) ?_
       refine aF ?_
       refine aG ?_
       refine aE ?_
       refine tr1 rfl (aD (v := .d (.lit (.int .i64 ((w64 ((w64 ((IntKind.u64.wrap (w64 (a_1 + b_3))).fdiv (2 ^ (min (1 : Int).toNat 64)))) + m_2)))))) (aA rfl) rfl rfl) ?_
       refine tr1 rfl (aZ (aA rfl) rfl rfl rfl) ?_
       refine tr1 rfl (aJ (v := .d (.lit (.int .i64 ((w64 ((w64 ((w64 ((IntKind.u64.wrap (w64 (a_1 + b_3))).fdiv (2 ^ (min (1 : Int).toNat 64)))) + m_2)) - 1)))))) (aA rfl) rfl rfl) ?_
       refine aF ?_
       refine aG ?_
       refine bQ ?_
       refine cH [0, 1, 2, 3, 4, 18, 19, 22] (fun (s48 : Int × Int) => [(20, .d (.lit (.int .i64 s48.1))), (21, .d (.lit (.int .i64 s48.2)))]) (fun (s48 : Int × Int) => [.arr data_0_v 42 5 (data_0.map aB)]) (fun (k : Nat) (s48 : Int × Int) => bZ (bD cmp_4 kr) a_1 m_2 b_3 cmp_4 (w64 ((IntKind.u64.wrap (w64 (a_1 + b_3))).fdiv (2 ^ (min (1 : Int).toNat 64)))) (w64 ((w64 ((IntKind.u64.wrap (w64 (a_1 + b_3))).fdiv (2 ^ (min (1 : Int).toNat 64)))) + m_2)) (w64 ((w64 ((w64 ((IntKind.u64.wrap (w64 (a_1 + b_3))).fdiv (2 ^ (min (1 : Int).toNat 64)))) + m_2)) - 1)) data_0 k s48.1 s48.2) (fun _ => rfl) (w64 ((w64 ((w64 ((IntKind.u64.wrap (w64 (a_1 + b_3))).fdiv (2 ^ (min (1 : Int).toNat 64)))) + m_2)) - b_3), w64 ((IntKind.u64.wrap (w64 (a_1 + b_3))).fdiv (2 ^ (min (1 : Int).toNat 64)))) h (aX [0] rfl rfl (aO rfl (aO rfl (aY ⟨rfl, rfl, rfl, rfl, rfl, rfl, rfl, rfl, trivial⟩)))) ?_
       rintro k49 ⟨start_8_48, r_8_48⟩ h
       simp only [bZ] at h
       refine aG ?_
       refine aG ?_
       refine aE ?_
       refine tr1 rfl (aD (v := .d (.lit (.int .i64 start_8_48))) (aA rfl) rfl rfl) ?_
       refine tr1 rfl (aD (v := .d (.lit (.int .i64 r_8_48))) (aA rfl) rfl rfl) ?_
       refine tr1 rfl (bC (aA rfl) rfl rfl rfl) ?_
       refine aF ?_
       refine bH rfl (fun c50 => ?_) (fun c50 => ?_)
       ·have h := aU c50 h
        refine bE ?_
        refine bQ ?_
        refine aG ?_
        refine aE ?_
        refine tr1 rfl (aD (v := .d (.lit (.int .i64 start_8_48))) (aA rfl) rfl rfl) ?_
        refine tr1 rfl (aD (v := .d (.lit (.int .i64 r_8_48))) (aA rfl) rfl rfl) ?_
        refine tr1 rfl (aZ (aA rfl) rfl rfl rfl) ?_
        refine tr1 rfl (oZ (aA rfl) rfl Try.runUnderlying3 Try.runUnderlying127) ?_
        refine tr1 rfl (aAq (aA rfl) rfl rfl (by decide)) ?_
        refine tr1 rfl (oZ (aA rfl) rfl Try.runUnderlying127 Try.runUnderlying3) ?_
        refine tr1 rfl (aJ (v := .d (.lit (.int .i64 ((w64 ((IntKind.u64.wrap (w64 (start_8_48 + r_8_48))).fdiv (2 ^ (min (1 : Int).toNat 64)))))))) (aA rfl) rfl rfl) ?_
        refine aF ?_
        refine aG ?_
        obtain ⟨x51, h52, h⟩ := bind_some h
        obtain ⟨x53, h54, h⟩ := bind_some h
        refine fU mix 11 [0, 1, 2, 3, 4, 18, 19, 20, 21, 22, 23] [(158, .fn cmp_4_f cmp_4_v), (164, .agg (aB x51)), (168, .agg (aB x53))] ?_ ?_
        ·refine ⟨[(158, 0, .fn cmp_4_f cmp_4_v), (159, 1, .d (.lit data_0_v)), (160, 2, .d (.lit (.int .i64 ((w64 ((w64 ((w64 ((IntKind.u64.wrap (w64 (a_1 + b_3))).fdiv (2 ^ (min (1 : Int).toNat 64)))) + m_2)) - 1)))))), (161, 3, .d (.lit (.int .i64 ((w64 ((IntKind.u64.wrap (w64 (start_8_48 + r_8_48))).fdiv (2 ^ (min (1 : Int).toNat 64)))))))), (162, 4, .d (.lit (.int .i64 ((w64 ((w64 ((w64 ((w64 ((IntKind.u64.wrap (w64 (a_1 + b_3))).fdiv (2 ^ (min (1 : Int).toNat 64)))) + m_2)) - 1)) - (w64 ((IntKind.u64.wrap (w64 (start_8_48 + r_8_48))).fdiv (2 ^ (min (1 : Int).toNat 64)))))))))), (163, 5, .ep data_0_v 5 (w64 ((w64 ((w64 ((w64 ((IntKind.u64.wrap (w64 (a_1 + b_3))).fdiv (2 ^ (min (1 : Int).toNat 64)))) + m_2)) - 1)) - (w64 ((IntKind.u64.wrap (w64 (start_8_48 + r_8_48))).fdiv (2 ^ (min (1 : Int).toNat 64)))))).toNat 0), (164, 6, .agg (aB x51)), (165, 7, .d (.lit data_0_v)), (166, 8, .d (.lit (.int .i64 ((w64 ((IntKind.u64.wrap (w64 (start_8_48 + r_8_48))).fdiv (2 ^ (min (1 : Int).toNat 64)))))))), (167, 9, .ep data_0_v 5 (w64 ((IntKind.u64.wrap (w64 (start_8_48 + r_8_48))).fdiv (2 ^ (min (1 : Int).toNat 64)))).toNat 0), (168, 10, .agg (aB x53))], ?_, ?_⟩
         · exact ⟨by kernel_rfl, by kernel_rfl, by kernel_rfl, by kernel_rfl, by kernel_rfl, [([], []), ([], []), ([], []), ([], []), ([2, 3], []), ([1, 4], []), ([5], []), ([], []), ([], []), ([7, 8], []), ([9], [])], by kernel_rfl, ⟨fun S hS => aK rfl (aQ rfl (aD (v := .fn cmp_4_f cmp_4_v) (aA rfl) (aI hS rfl) rfl)),
      fun S hS => aK rfl (aQ rfl (aD (v := .d (.lit data_0_v)) (aA rfl) (aI hS rfl) rfl)),
      fun S hS => aK rfl (aQ rfl (aD (v := .d (.lit (.int .i64 ((w64 ((w64 ((w64 ((IntKind.u64.wrap (w64 (a_1 + b_3))).fdiv (2 ^ (min (1 : Int).toNat 64)))) + m_2)) - 1)))))) (aA rfl) (aI hS rfl) rfl)),
      fun S hS => aK rfl (aQ rfl (aD (v := .d (.lit (.int .i64 ((w64 ((IntKind.u64.wrap (w64 (start_8_48 + r_8_48))).fdiv (2 ^ (min (1 : Int).toNat 64)))))))) (aA rfl) (aI hS rfl) rfl)),
      fun S hS => aK rfl (aQ rfl (aZ (aA rfl) (aI hS rfl) (aI hS rfl) rfl)),
      fun S hS => aK rfl (aQ rfl (cE (m := 0) (aA rfl) (aI hS rfl) rfl (aI hS rfl) bP.of (bN aB h52))),
      fun S hS => aK rfl (aQ rfl (dG (aA rfl) (aI hS rfl) (l := 0) rfl (eA aB h52) dR (es := (aB x51)) rfl rfl)),
      fun S hS => aK rfl (aQ rfl (aD (v := .d (.lit data_0_v)) (aA rfl) (aI hS rfl) rfl)),
      fun S hS => aK rfl (aQ rfl (aD (v := .d (.lit (.int .i64 ((w64 ((IntKind.u64.wrap (w64 (start_8_48 + r_8_48))).fdiv (2 ^ (min (1 : Int).toNat 64)))))))) (aA rfl) (aI hS rfl) rfl)),
      fun S hS => aK rfl (aQ rfl (cE (m := 0) (aA rfl) (aI hS rfl) rfl (aI hS rfl) bP.of (bN aB h54))),
      fun S hS => aK rfl (aQ rfl (dG (aA rfl) (aI hS rfl) (l := 0) rfl (eA aB h54) dR (es := (aB x53)) rfl rfl)), trivial⟩⟩
         · exact dX (aO rfl (aO rfl (aO rfl (aY ⟨rfl, rfl, rfl, rfl, rfl, rfl, rfl, rfl, rfl, rfl, rfl, trivial⟩))))
        ·obtain ⟨r55, h56, h⟩ := bind_some h
         refine tr1 rfl (cC (aA rfl) (.clo _ _ _ _ cmp_4_e rfl) (uB rfl) rfl (BVs.refl _ _) (cmp_4_h _ _ _  h56) rfl) ?_
         refine tr1 rfl (bC (aA rfl) rfl rfl rfl) ?_
         refine tr1 rfl (fO (aA rfl) rfl) ?_
         refine aF ?_
         refine bH rfl (fun c57 => ?_) (fun c57 => ?_)
         ·have h := aU c57 h
          refine aE ?_
          refine tr1 rfl (aD (v := .d (.lit (.int .i64 ((w64 ((IntKind.u64.wrap (w64 (start_8_48 + r_8_48))).fdiv (2 ^ (min (1 : Int).toNat 64)))))))) (aA rfl) rfl rfl) ?_
          refine tr1 rfl (aZ (aA rfl) rfl rfl rfl) ?_
          refine tr1 rfl (aJ (v := .d (.lit (.int .i64 ((w64 ((w64 ((IntKind.u64.wrap (w64 (start_8_48 + r_8_48))).fdiv (2 ^ (min (1 : Int).toNat 64)))) + 1)))))) (aA rfl) rfl rfl) ?_
          refine eC ?_
          exact ⟨(w64 ((w64 ((IntKind.u64.wrap (w64 (start_8_48 + r_8_48))).fdiv (2 ^ (min (1 : Int).toNat 64)))) + 1), r_8_48), h, aX [0] rfl rfl (aO rfl (aO rfl (aY ⟨rfl, rfl, rfl, rfl, rfl, rfl, rfl, rfl, trivial⟩)))⟩
         ·have h := aT c57 h
          refine aE ?_
          refine tr1 rfl (aD (v := .d (.lit (.int .i64 ((w64 ((IntKind.u64.wrap (w64 (start_8_48 + r_8_48))).fdiv (2 ^ (min (1 : Int).toNat 64)))))))) (aA rfl) rfl rfl) ?_
          refine tr1 rfl (aJ (v := .d (.lit (.int .i64 ((w64 ((IntKind.u64.wrap (w64 (start_8_48 + r_8_48))).fdiv (2 ^ (min (1 : Int).toNat 64)))))))) (aA rfl) rfl rfl) ?_
          refine eC ?_
          exact ⟨(start_8_48, w64 ((IntKind.u64.wrap (w64 (start_8_48 + r_8_48))).fdiv (2 ^ (min (1 : Int).toNat 64)))), h, aX [0] rfl rfl (aO rfl (aO rfl (aY ⟨rfl, rfl, rfl, rfl, rfl, rfl, rfl, rfl, trivial⟩)))⟩
       ·have h := aT c50 h
        refine cQ ?_
        refine .inl ⟨rfl, ?_⟩
        simp only [dC] at h
        refine aG ?_
        refine aE ?_
        refine tr1 rfl (aD (v := .d (.lit (.int .i64 ((w64 ((w64 ((IntKind.u64.wrap (w64 (a_1 + b_3))).fdiv (2 ^ (min (1 : Int).toNat 64)))) + m_2)))))) (aA rfl) rfl rfl) ?_
        refine tr1 rfl (aD (v := .d (.lit (.int .i64 start_8_48))) (aA rfl) rfl rfl) ?_
        refine tr1 rfl (aZ (aA rfl) rfl rfl rfl) ?_
        refine tr1 rfl (aJ (v := .d (.lit (.int .i64 ((w64 ((w64 ((w64 ((IntKind.u64.wrap (w64 (a_1 + b_3))).fdiv (2 ^ (min (1 : Int).toNat 64)))) + m_2)) - start_8_48)))))) (aA rfl) rfl rfl) ?_
        refine aF ?_
        refine aG ?_
        refine aG ?_
        refine aE ?_
        refine tr1 rfl (aD (v := .d (.lit (.int .i64 start_8_48))) (aA rfl) rfl rfl) ?_
        refine tr1 rfl (aD (v := .d (.lit (.int .i64 m_2))) (aA rfl) rfl rfl) ?_
        refine tr1 rfl (bC (aA rfl) rfl rfl rfl) ?_
        refine tr1 rfl (aD (v := .d (.lit (.bool ((decide (start_8_48 < m_2)))))) (aA rfl) rfl rfl) ?_
        obtain ⟨b58, h59, h⟩ := bind_some h
        refine cA 4 [0, 1, 2, 3, 4, 18, 20, 24] 185 b58 ?_ ?_
        ·refine bJ (decide (start_8_48 < m_2)) (fun c99 => ?_) (fun c99 => ?_)
         ·have h59 := aU c99 h59
          refine aP rfl rfl (aA rfl) rfl c99 (aD (v := .d (.lit (.int .i64 m_2))) (aA rfl) rfl rfl) ?_
          refine aP rfl rfl (aA rfl) rfl c99 (aD (v := .d (.lit (.int .i64 ((w64 ((w64 ((w64 ((IntKind.u64.wrap (w64 (a_1 + b_3))).fdiv (2 ^ (min (1 : Int).toNat 64)))) + m_2)) - start_8_48)))))) (aA rfl) rfl rfl) ?_
          refine aP rfl rfl (aA rfl) rfl c99 (bC (aA rfl) rfl rfl rfl) ?_
          refine tr1 rfl (bW (v := .d (.lit (.bool ((decide (m_2 < (w64 ((w64 ((w64 ((IntKind.u64.wrap (w64 (a_1 + b_3))).fdiv (2 ^ (min (1 : Int).toNat 64)))) + m_2)) - start_8_48)))))))) (aA rfl) rfl c99 rfl rfl) ?_
          have h59 := Option.some.inj h59
          subst h59
          refine aF (bB rfl ⟨rfl, rfl, rfl, rfl, rfl, rfl, rfl, rfl, trivial⟩ rfl)
         ·have h59 := aT c99 h59
          refine aR rfl rfl (aA rfl) rfl (aA rfl) rfl c99 ?_
          refine aR rfl rfl (aA rfl) rfl (aA rfl) rfl c99 ?_
          refine aR rfl rfl (aA rfl) rfl (aA rfl) rfl c99 ?_
          refine tr1 rfl (bT (v := .d (.lit (.bool false))) (aA rfl) rfl c99 rfl rfl) ?_
          have h59 := Option.some.inj h59
          subst h59
          refine aF (bB rfl ⟨rfl, rfl, rfl, rfl, rfl, rfl, rfl, rfl, trivial⟩ rfl)
        ·refine aF ?_
         refine bH rfl (fun c60 => ?_) (fun c60 => ?_)
         ·have h := aU c60 h
          refine aE ?_
          refine tr1 rfl (aD (v := .d (.lit data_0_v)) (aA rfl) rfl rfl) ?_
          refine tr1 rfl (aD (v := .d (.lit (.int .i64 start_8_48))) (aA rfl) rfl rfl) ?_
          refine tr1 rfl (aD (v := .d (.lit (.int .i64 m_2))) (aA rfl) rfl rfl) ?_
          refine tr1 rfl (aD (v := .d (.lit (.int .i64 ((w64 ((w64 ((w64 ((IntKind.u64.wrap (w64 (a_1 + b_3))).fdiv (2 ^ (min (1 : Int).toNat 64)))) + m_2)) - start_8_48)))))) (aA rfl) rfl rfl) ?_
          refine tr1 rfl (aD (v := .fn cmp_4_f cmp_4_v) (aA rfl) rfl rfl) ?_
          obtain ⟨r61, h62, h⟩ := bind_some h
          refine bR rfl (dQ (passed := [.arr data_0_v 42 5 (data_0.map aB)]) (aA rfl) rfl (.func _ _ Try.call138) rfl rfl (lV data_0 start_8_48 m_2 (w64 ((w64 ((w64 ((IntKind.u64.wrap (w64 (a_1 + b_3))).fdiv (2 ^ (min (1 : Int).toNat 64)))) + m_2)) - start_8_48)) cmp_4 cmp_4_f cmp_4_v cmp_4_e cmp_4_h h62)) ?_
          rintro _ ⟨_, _, ⟨rfl, rfl⟩, rfl⟩
          refine aF ?_
          refine aG ?_
          refine aG ?_
          refine aE ?_
          refine tr1 rfl (aD (v := .d (.lit (.int .i64 a_1))) (aA rfl) rfl rfl) ?_
          refine tr1 rfl (aD (v := .d (.lit (.int .i64 start_8_48))) (aA rfl) rfl rfl) ?_
          refine tr1 rfl (bC (aA rfl) rfl rfl rfl) ?_
          refine tr1 rfl (aD (v := .d (.lit (.bool ((decide (a_1 < start_8_48)))))) (aA rfl) rfl rfl) ?_
          obtain ⟨b63, h64, h⟩ := bind_some h
          refine cA 4 [0, 1, 3, 4, 18, 20, 24] 199 b63 ?_ ?_
          ·refine bJ (decide (a_1 < start_8_48)) (fun c80 => ?_) (fun c80 => ?_)
           ·have h64 := aU c80 h64
            refine aP rfl rfl (aA rfl) rfl c80 (aD (v := .d (.lit (.int .i64 start_8_48))) (aA rfl) rfl rfl) ?_
            refine aP rfl rfl (aA rfl) rfl c80 (aD (v := .d (.lit (.int .i64 ((w64 ((IntKind.u64.wrap (w64 (a_1 + b_3))).fdiv (2 ^ (min (1 : Int).toNat 64)))))))) (aA rfl) rfl rfl) ?_
            refine aP rfl rfl (aA rfl) rfl c80 (bC (aA rfl) rfl rfl rfl) ?_
            refine tr1 rfl (bW (v := .d (.lit (.bool ((decide (start_8_48 < (w64 ((IntKind.u64.wrap (w64 (a_1 + b_3))).fdiv (2 ^ (min (1 : Int).toNat 64)))))))))) (aA rfl) rfl c80 rfl rfl) ?_
            have h64 := Option.some.inj h64
            subst h64
            refine aF (bB rfl ⟨rfl, rfl, rfl, rfl, rfl, rfl, rfl, trivial⟩ rfl)
           ·have h64 := aT c80 h64
            refine aR rfl rfl (aA rfl) rfl (aA rfl) rfl c80 ?_
            refine aR rfl rfl (aA rfl) rfl (aA rfl) rfl c80 ?_
            refine aR rfl rfl (aA rfl) rfl (aA rfl) rfl c80 ?_
            refine tr1 rfl (bT (v := .d (.lit (.bool false))) (aA rfl) rfl c80 rfl rfl) ?_
            have h64 := Option.some.inj h64
            subst h64
            refine aF (bB rfl ⟨rfl, rfl, rfl, rfl, rfl, rfl, rfl, trivial⟩ rfl)
          ·refine aF ?_
           refine bH rfl (fun c65 => ?_) (fun c65 => ?_)
           ·have h := aU c65 h
            refine aE ?_
            refine tr1 rfl (aD (v := .d (.lit data_0_v)) (aA rfl) rfl rfl) ?_
            refine tr1 rfl (aD (v := .d (.lit (.int .i64 a_1))) (aA rfl) rfl rfl) ?_
            refine tr1 rfl (aD (v := .d (.lit (.int .i64 start_8_48))) (aA rfl) rfl rfl) ?_
            refine tr1 rfl (aD (v := .d (.lit (.int .i64 ((w64 ((IntKind.u64.wrap (w64 (a_1 + b_3))).fdiv (2 ^ (min (1 : Int).toNat 64)))))))) (aA rfl) rfl rfl) ?_
            refine tr1 rfl (aD (v := .fn cmp_4_f cmp_4_v) (aA rfl) rfl rfl) ?_
            obtain ⟨r66, h67, h⟩ := bind_some h
            refine bR rfl (dQ (passed := [.arr data_0_v 42 5 (r61.map aB)]) (aA rfl) rfl (.func _ _ Try.call128) rfl rfl (ih r61 a_1 start_8_48 (w64 ((IntKind.u64.wrap (w64 (a_1 + b_3))).fdiv (2 ^ (min (1 : Int).toNat 64)))) h67)) ?_
            rintro _ ⟨_, _, ⟨rfl, rfl⟩, rfl⟩
            refine aF ?_
            refine aG ?_
            refine aE ?_
            refine tr1 rfl (aD (v := .d (.lit (.int .i64 ((w64 ((IntKind.u64.wrap (w64 (a_1 + b_3))).fdiv (2 ^ (min (1 : Int).toNat 64)))))))) (aA rfl) rfl rfl) ?_
            refine tr1 rfl (aD (v := .d (.lit (.int .i64 ((w64 ((w64 ((w64 ((IntKind.u64.wrap (w64 (a_1 + b_3))).fdiv (2 ^ (min (1 : Int).toNat 64)))) + m_2)) - start_8_48)))))) (aA rfl) rfl rfl) ?_
            refine tr1 rfl (bC (aA rfl) rfl rfl rfl) ?_
            refine tr1 rfl (aD (v := .d (.lit (.bool ((decide ((w64 ((IntKind.u64.wrap (w64 (a_1 + b_3))).fdiv (2 ^ (min (1 : Int).toNat 64)))) < (w64 ((w64 ((w64 ((IntKind.u64.wrap (w64 (a_1 + b_3))).fdiv (2 ^ (min (1 : Int).toNat 64)))) + m_2)) - start_8_48)))))))) (aA rfl) rfl rfl) ?_
            obtain ⟨b68, h69, h⟩ := bind_some h
            refine cA 4 [0, 3, 4, 18, 24] 213 b68 ?_ ?_
            ·refine bJ (decide ((w64 ((IntKind.u64.wrap (w64 (a_1 + b_3))).fdiv (2 ^ (min (1 : Int).toNat 64)))) < (w64 ((w64 ((w64 ((IntKind.u64.wrap (w64 (a_1 + b_3))).fdiv (2 ^ (min (1 : Int).toNat 64)))) + m_2)) - start_8_48)))) (fun c73 => ?_) (fun c73 => ?_)
             ·have h69 := aU c73 h69
              refine aP rfl rfl (aA rfl) rfl c73 (aD (v := .d (.lit (.int .i64 ((w64 ((w64 ((w64 ((IntKind.u64.wrap (w64 (a_1 + b_3))).fdiv (2 ^ (min (1 : Int).toNat 64)))) + m_2)) - start_8_48)))))) (aA rfl) rfl rfl) ?_
              refine aP rfl rfl (aA rfl) rfl c73 (aD (v := .d (.lit (.int .i64 b_3))) (aA rfl) rfl rfl) ?_
              refine aP rfl rfl (aA rfl) rfl c73 (bC (aA rfl) rfl rfl rfl) ?_
              refine tr1 rfl (bW (v := .d (.lit (.bool ((decide ((w64 ((w64 ((w64 ((IntKind.u64.wrap (w64 (a_1 + b_3))).fdiv (2 ^ (min (1 : Int).toNat 64)))) + m_2)) - start_8_48)) < b_3)))))) (aA rfl) rfl c73 rfl rfl) ?_
              have h69 := Option.some.inj h69
              subst h69
              refine aF (bB rfl ⟨rfl, rfl, rfl, rfl, rfl, trivial⟩ rfl)
             ·have h69 := aT c73 h69
              refine aR rfl rfl (aA rfl) rfl (aA rfl) rfl c73 ?_
              refine aR rfl rfl (aA rfl) rfl (aA rfl) rfl c73 ?_
              refine aR rfl rfl (aA rfl) rfl (aA rfl) rfl c73 ?_
              refine tr1 rfl (bT (v := .d (.lit (.bool false))) (aA rfl) rfl c73 rfl rfl) ?_
              have h69 := Option.some.inj h69
              subst h69
              refine aF (bB rfl ⟨rfl, rfl, rfl, rfl, rfl, trivial⟩ rfl)
            ·refine aF ?_
             refine bH rfl (fun c70 => ?_) (fun c70 => ?_)
             ·have h := aU c70 h
              refine aE ?_
              refine tr1 rfl (aD (v := .d (.lit data_0_v)) (aA rfl) rfl rfl) ?_
              refine tr1 rfl (aD (v := .d (.lit (.int .i64 ((w64 ((IntKind.u64.wrap (w64 (a_1 + b_3))).fdiv (2 ^ (min (1 : Int).toNat 64)))))))) (aA rfl) rfl rfl) ?_
              refine tr1 rfl (aD (v := .d (.lit (.int .i64 ((w64 ((w64 ((w64 ((IntKind.u64.wrap (w64 (a_1 + b_3))).fdiv (2 ^ (min (1 : Int).toNat 64)))) + m_2)) - start_8_48)))))) (aA rfl) rfl rfl) ?_
              refine tr1 rfl (aD (v := .d (.lit (.int .i64 b_3))) (aA rfl) rfl rfl) ?_
              refine tr1 rfl (aD (v := .fn cmp_4_f cmp_4_v) (aA rfl) rfl rfl) ?_
              obtain ⟨r71, h72, h⟩ := bind_some h
              refine bR rfl (dQ (passed := [.arr data_0_v 42 5 (r66.map aB)]) (aA rfl) rfl (.func _ _ Try.call128) rfl rfl (ih r66 (w64 ((IntKind.u64.wrap (w64 (a_1 + b_3))).fdiv (2 ^ (min (1 : Int).toNat 64)))) (w64 ((w64 ((w64 ((IntKind.u64.wrap (w64 (a_1 + b_3))).fdiv (2 ^ (min (1 : Int).toNat 64)))) + m_2)) - start_8_48)) b_3 h72)) ?_
              rintro _ ⟨_, _, ⟨rfl, rfl⟩, rfl⟩
              refine aF ?_
              have h := Option.some.inj h
              subst h
              exact ⟨_, [.arr data_0_v 42 5 (r71.map aB)], [], _, .none, .refl _, .same _, rfl, rfl⟩
             ·have h := aT c70 h
              refine bE ?_
              have h := Option.some.inj h
              subst h
              exact ⟨_, [.arr data_0_v 42 5 (r66.map aB)], [], _, .none, .refl _, .same _, rfl, rfl⟩
           ·have h := aT c65 h
            refine bE ?_
            refine aG ?_
            refine aE ?_
            refine tr1 rfl (aD (v := .d (.lit (.int .i64 ((w64 ((IntKind.u64.wrap (w64 (a_1 + b_3))).fdiv (2 ^ (min (1 : Int).toNat 64)))))))) (aA rfl) rfl rfl) ?_
            refine tr1 rfl (aD (v := .d (.lit (.int .i64 ((w64 ((w64 ((w64 ((IntKind.u64.wrap (w64 (a_1 + b_3))).fdiv (2 ^ (min (1 : Int).toNat 64)))) + m_2)) - start_8_48)))))) (aA rfl) rfl rfl) ?_
            refine tr1 rfl (bC (aA rfl) rfl rfl rfl) ?_
            refine tr1 rfl (aD (v := .d (.lit (.bool ((decide ((w64 ((IntKind.u64.wrap (w64 (a_1 + b_3))).fdiv (2 ^ (min (1 : Int).toNat 64)))) < (w64 ((w64 ((w64 ((IntKind.u64.wrap (w64 (a_1 + b_3))).fdiv (2 ^ (min (1 : Int).toNat 64)))) + m_2)) - start_8_48)))))))) (aA rfl) rfl rfl) ?_
            obtain ⟨b74, h75, h⟩ := bind_some h
            refine cA 4 [0, 3, 4, 18, 24] 213 b74 ?_ ?_
            ·refine bJ (decide ((w64 ((IntKind.u64.wrap (w64 (a_1 + b_3))).fdiv (2 ^ (min (1 : Int).toNat 64)))) < (w64 ((w64 ((w64 ((IntKind.u64.wrap (w64 (a_1 + b_3))).fdiv (2 ^ (min (1 : Int).toNat 64)))) + m_2)) - start_8_48)))) (fun c79 => ?_) (fun c79 => ?_)
             ·have h75 := aU c79 h75
              refine aP rfl rfl (aA rfl) rfl c79 (aD (v := .d (.lit (.int .i64 ((w64 ((w64 ((w64 ((IntKind.u64.wrap (w64 (a_1 + b_3))).fdiv (2 ^ (min (1 : Int).toNat 64)))) + m_2)) - start_8_48)))))) (aA rfl) rfl rfl) ?_
              refine aP rfl rfl (aA rfl) rfl c79 (aD (v := .d (.lit (.int .i64 b_3))) (aA rfl) rfl rfl) ?_
              refine aP rfl rfl (aA rfl) rfl c79 (bC (aA rfl) rfl rfl rfl) ?_
              refine tr1 rfl (bW (v := .d (.lit (.bool ((decide ((w64 ((w64 ((w64 ((IntKind.u64.wrap (w64 (a_1 + b_3))).fdiv (2 ^ (min (1 : Int).toNat 64)))) + m_2)) - start_8_48)) < b_3)))))) (aA rfl) rfl c79 rfl rfl) ?_
              have h75 := Option.some.inj h75
              subst h75
              refine aF (bB rfl ⟨rfl, rfl, rfl, rfl, rfl, trivial⟩ rfl)
             ·have h75 := aT c79 h75
              refine aR rfl rfl (aA rfl) rfl (aA rfl) rfl c79 ?_
              refine aR rfl rfl (aA rfl) rfl (aA rfl) rfl c79 ?_
              refine aR rfl rfl (aA rfl) rfl (aA rfl) rfl c79 ?_
              refine tr1 rfl (bT (v := .d (.lit (.bool false))) (aA rfl) rfl c79 rfl rfl) ?_
              have h75 := Option.some.inj h75
              subst h75
              refine aF (bB rfl ⟨rfl, rfl, rfl, rfl, rfl, trivial⟩ rfl)
            ·refine aF ?_
             refine bH rfl (fun c76 => ?_) (fun c76 => ?_)
             ·have h := aU c76 h
              refine aE ?_
              refine tr1 rfl (aD (v := .d (.lit data_0_v)) (aA rfl) rfl rfl) ?_
              refine tr1 rfl (aD (v := .d (.lit (.int .i64 ((w64 ((IntKind.u64.wrap (w64 (a_1 + b_3))).fdiv (2 ^ (min (1 : Int).toNat 64)))))))) (aA rfl) rfl rfl) ?_
              refine tr1 rfl (aD (v := .d (.lit (.int .i64 ((w64 ((w64 ((w64 ((IntKind.u64.wrap (w64 (a_1 + b_3))).fdiv (2 ^ (min (1 : Int).toNat 64)))) + m_2)) - start_8_48)))))) (aA rfl) rfl rfl) ?_
              refine tr1 rfl (aD (v := .d (.lit (.int .i64 b_3))) (aA rfl) rfl rfl) ?_
              refine tr1 rfl (aD (v := .fn cmp_4_f cmp_4_v) (aA rfl) rfl rfl) ?_
              obtain ⟨r77, h78, h⟩ := bind_some h
              refine bR rfl (dQ (passed := [.arr data_0_v 42 5 (r61.map aB)]) (aA rfl) rfl (.func _ _ Try.call128) rfl rfl (ih r61 (w64 ((IntKind.u64.wrap (w64 (a_1 + b_3))).fdiv (2 ^ (min (1 : Int).toNat 64)))) (w64 ((w64 ((w64 ((IntKind.u64.wrap (w64 (a_1 + b_3))).fdiv (2 ^ (min (1 : Int).toNat 64)))) + m_2)) - start_8_48)) b_3 h78)) ?_
              rintro _ ⟨_, _, ⟨rfl, rfl⟩, rfl⟩
              refine aF ?_
              have h := Option.some.inj h
              subst h
              exact ⟨_, [.arr data_0_v 42 5 (r77.map aB)], [], _, .none, .refl _, .same _, rfl, rfl⟩
             ·have h := aT c76 h
              refine bE ?_
              have h := Option.some.inj h
              subst h
              exact ⟨_, [.arr data_0_v 42 5 (r61.map aB)], [], _, .none, .refl _, .same _, rfl, rfl⟩
         ·have h := aT c60 h
          refine bE ?_
          refine aG ?_
          refine aG ?_
          refine aE ?_
          refine tr1 rfl (aD (v := .d (.lit (.int .i64 a_1))) (aA rfl) rfl rfl) ?_
          refine tr1 rfl (aD (v := .d (.lit (.int .i64 start_8_48))) (aA rfl) rfl rfl) ?_
          refine tr1 rfl (bC (aA rfl) rfl rfl rfl) ?_
          refine tr1 rfl (aD (v := .d (.lit (.bool ((decide (a_1 < start_8_48)))))) (aA rfl) rfl rfl) ?_
          obtain ⟨b81, h82, h⟩ := bind_some h
          refine cA 4 [0, 1, 3, 4, 18, 20, 24] 199 b81 ?_ ?_
          ·refine bJ (decide (a_1 < start_8_48)) (fun c98 => ?_) (fun c98 => ?_)
           ·have h82 := aU c98 h82
            refine aP rfl rfl (aA rfl) rfl c98 (aD (v := .d (.lit (.int .i64 start_8_48))) (aA rfl) rfl rfl) ?_
            refine aP rfl rfl (aA rfl) rfl c98 (aD (v := .d (.lit (.int .i64 ((w64 ((IntKind.u64.wrap (w64 (a_1 + b_3))).fdiv (2 ^ (min (1 : Int).toNat 64)))))))) (aA rfl) rfl rfl) ?_
            refine aP rfl rfl (aA rfl) rfl c98 (bC (aA rfl) rfl rfl rfl) ?_
            refine tr1 rfl (bW (v := .d (.lit (.bool ((decide (start_8_48 < (w64 ((IntKind.u64.wrap (w64 (a_1 + b_3))).fdiv (2 ^ (min (1 : Int).toNat 64)))))))))) (aA rfl) rfl c98 rfl rfl) ?_
            have h82 := Option.some.inj h82
            subst h82
            refine aF (bB rfl ⟨rfl, rfl, rfl, rfl, rfl, rfl, rfl, trivial⟩ rfl)
           ·have h82 := aT c98 h82
            refine aR rfl rfl (aA rfl) rfl (aA rfl) rfl c98 ?_
            refine aR rfl rfl (aA rfl) rfl (aA rfl) rfl c98 ?_
            refine aR rfl rfl (aA rfl) rfl (aA rfl) rfl c98 ?_
            refine tr1 rfl (bT (v := .d (.lit (.bool false))) (aA rfl) rfl c98 rfl rfl) ?_
            have h82 := Option.some.inj h82
            subst h82
            refine aF (bB rfl ⟨rfl, rfl, rfl, rfl, rfl, rfl, rfl, trivial⟩ rfl)
          ·refine aF ?_
           refine bH rfl (fun c83 => ?_) (fun c83 => ?_)
           ·have h := aU c83 h
            refine aE ?_
            refine tr1 rfl (aD (v := .d (.lit data_0_v)) (aA rfl) rfl rfl) ?_
            refine tr1 rfl (aD (v := .d (.lit (.int .i64 a_1))) (aA rfl) rfl rfl) ?_
            refine tr1 rfl (aD (v := .d (.lit (.int .i64 start_8_48))) (aA rfl) rfl rfl) ?_
            refine tr1 rfl (aD (v := .d (.lit (.int .i64 ((w64 ((IntKind.u64.wrap (w64 (a_1 + b_3))).fdiv (2 ^ (min (1 : Int).toNat 64)))))))) (aA rfl) rfl rfl) ?_
            refine tr1 rfl (aD (v := .fn cmp_4_f cmp_4_v) (aA rfl) rfl rfl) ?_
            obtain ⟨r84, h85, h⟩ := bind_some h
            refine bR rfl (dQ (passed := [.arr data_0_v 42 5 (data_0.map aB)]) (aA rfl) rfl (.func _ _ Try.call128) rfl rfl (ih data_0 a_1 start_8_48 (w64 ((IntKind.u64.wrap (w64 (a_1 + b_3))).fdiv (2 ^ (min (1 : Int).toNat 64)))) h85)) ?_
            rintro _ ⟨_, _, ⟨rfl, rfl⟩, rfl⟩
            refine aF ?_
            refine aG ?_
            refine aE ?_
            refine tr1 rfl (aD (v := .d (.lit (.int .i64 ((w64 ((IntKind.u64.wrap (w64 (a_1 + b_3))).fdiv (2 ^ (min (1 : Int).toNat 64)))))))) (aA rfl) rfl rfl) ?_
            refine tr1 rfl (aD (v := .d (.lit (.int .i64 ((w64 ((w64 ((w64 ((IntKind.u64.wrap (w64 (a_1 + b_3))).fdiv (2 ^ (min (1 : Int).toNat 64)))) + m_2)) - start_8_48)))))) (aA rfl) rfl rfl) ?_
            refine tr1 rfl (bC (aA rfl) rfl rfl rfl) ?_
            refine tr1 rfl (aD (v := .d (.lit (.bool ((decide ((w64 ((IntKind.u64.wrap (w64 (a_1 + b_3))).fdiv (2 ^ (min (1 : Int).toNat 64)))) < (w64 ((w64 ((w64 ((IntKind.u64.wrap (w64 (a_1 + b_3))).fdiv (2 ^ (min (1 : Int).toNat 64)))) + m_2)) - start_8_48)))))))) (aA rfl) rfl rfl) ?_
            obtain ⟨b86, h87, h⟩ := bind_some h
            refine cA 4 [0, 3, 4, 18, 24] 213 b86 ?_ ?_
            ·refine bJ (decide ((w64 ((IntKind.u64.wrap (w64 (a_1 + b_3))).fdiv (2 ^ (min (1 : Int).toNat 64)))) < (w64 ((w64 ((w64 ((IntKind.u64.wrap (w64 (a_1 + b_3))).fdiv (2 ^ (min (1 : Int).toNat 64)))) + m_2)) - start_8_48)))) (fun c91 => ?_) (fun c91 => ?_)
             ·have h87 := aU c91 h87
              refine aP rfl rfl (aA rfl) rfl c91 (aD (v := .d (.lit (.int .i64 ((w64 ((w64 ((w64 ((IntKind.u64.wrap (w64 (a_1 + b_3))).fdiv (2 ^ (min (1 : Int).toNat 64)))) + m_2)) - start_8_48)))))) (aA rfl) rfl rfl) ?_
              refine aP rfl rfl (aA rfl) rfl c91 (aD (v := .d (.lit (.int .i64 b_3))) (aA rfl) rfl rfl) ?_
              refine aP rfl rfl (aA rfl) rfl c91 (bC (aA rfl) rfl rfl rfl) ?_
              refine tr1 rfl (bW (v := .d (.lit (.bool ((decide ((w64 ((w64 ((w64 ((IntKind.u64.wrap (w64 (a_1 + b_3))).fdiv (2 ^ (min (1 : Int).toNat 64)))) + m_2)) - start_8_48)) < b_3)))))) (aA rfl) rfl c91 rfl rfl) ?_
              have h87 := Option.some.inj h87
              subst h87
              refine aF (bB rfl ⟨rfl, rfl, rfl, rfl, rfl, trivial⟩ rfl)
             ·have h87 := aT c91 h87
              refine aR rfl rfl (aA rfl) rfl (aA rfl) rfl c91 ?_
              refine aR rfl rfl (aA rfl) rfl (aA rfl) rfl c91 ?_
              refine aR rfl rfl (aA rfl) rfl (aA rfl) rfl c91 ?_
              refine tr1 rfl (bT (v := .d (.lit (.bool false))) (aA rfl) rfl c91 rfl rfl) ?_
              have h87 := Option.some.inj h87
              subst h87
              refine aF (bB rfl ⟨rfl, rfl, rfl, rfl, rfl, trivial⟩ rfl)
            ·refine aF ?_
             refine bH rfl (fun c88 => ?_) (fun c88 => ?_)
             ·have h := aU c88 h
              refine aE ?_
              refine tr1 rfl (aD (v := .d (.lit data_0_v)) (aA rfl) rfl rfl) ?_
              refine tr1 rfl (aD (v := .d (.lit (.int .i64 ((w64 ((IntKind.u64.wrap (w64 (a_1 + b_3))).fdiv (2 ^ (min (1 : Int).toNat 64)))))))) (aA rfl) rfl rfl) ?_
              refine tr1 rfl (aD (v := .d (.lit (.int .i64 ((w64 ((w64 ((w64 ((IntKind.u64.wrap (w64 (a_1 + b_3))).fdiv (2 ^ (min (1 : Int).toNat 64)))) + m_2)) - start_8_48)))))) (aA rfl) rfl rfl) ?_
              refine tr1 rfl (aD (v := .d (.lit (.int .i64 b_3))) (aA rfl) rfl rfl) ?_
              refine tr1 rfl (aD (v := .fn cmp_4_f cmp_4_v) (aA rfl) rfl rfl) ?_
              obtain ⟨r89, h90, h⟩ := bind_some h
              refine bR rfl (dQ (passed := [.arr data_0_v 42 5 (r84.map aB)]) (aA rfl) rfl (.func _ _ Try.call128) rfl rfl (ih r84 (w64 ((IntKind.u64.wrap (w64 (a_1 + b_3))).fdiv (2 ^ (min (1 : Int).toNat 64)))) (w64 ((w64 ((w64 ((IntKind.u64.wrap (w64 (a_1 + b_3))).fdiv (2 ^ (min (1 : Int).toNat 64)))) + m_2)) - start_8_48)) b_3 h90)) ?_
              rintro _ ⟨_, _, ⟨rfl, rfl⟩, rfl⟩
              refine aF ?_
              have h := Option.some.inj h
              subst h
              exact ⟨_, [.arr data_0_v 42 5 (r89.map aB)], [], _, .none, .refl _, .same _, rfl, rfl⟩
             ·have h := aT c88 h
              refine bE ?_
              have h := Option.some.inj h
              subst h
              exact ⟨_, [.arr data_0_v 42 5 (r84.map aB)], [], _, .none, .refl _, .same _, rfl, rfl⟩
           ·have h := aT c83 h
            refine bE ?_
            refine aG ?_
            refine aE ?_
            refine tr1 rfl (aD (v := .d (.lit (.int .i64 ((w64 ((IntKind.u64.wrap (w64 (a_1 + b_3))).fdiv (2 ^ (min (1 : Int).toNat 64)))))))) (aA rfl) rfl rfl) ?_
            refine tr1 rfl (aD (v := .d (.lit (.int .i64 ((w64 ((w64 ((w64 ((IntKind.u64.wrap (w64 (a_1 + b_3))).fdiv (2 ^ (min (1 : Int).toNat 64)))) + m_2)) - start_8_48)))))) (aA rfl) rfl rfl) ?_
            refine tr1 rfl (bC (aA rfl) rfl rfl rfl) ?_
            refine tr1 rfl (aD (v := .d (.lit (.bool ((decide ((w64 ((IntKind.u64.wrap (w64 (a_1 + b_3))).fdiv (2 ^ (min (1 : Int).toNat 64)))) < (w64 ((w64 ((w64 ((IntKind.u64.wrap (w64 (a_1 + b_3))).fdiv (2 ^ (min (1 : Int).toNat 64)))) + m_2)) - start_8_48)))))))) (aA rfl) rfl rfl) ?_
            obtain ⟨b92, h93, h⟩ := bind_some h
            refine cA 4 [0, 3, 4, 18, 24] 213 b92 ?_ ?_
            ·refine bJ (decide ((w64 ((IntKind.u64.wrap (w64 (a_1 + b_3))).fdiv (2 ^ (min (1 : Int).toNat 64)))) < (w64 ((w64 ((w64 ((IntKind.u64.wrap (w64 (a_1 + b_3))).fdiv (2 ^ (min (1 : Int).toNat 64)))) + m_2)) - start_8_48)))) (fun c97 => ?_) (fun c97 => ?_)
             ·have h93 := aU c97 h93
              refine aP rfl rfl (aA rfl) rfl c97 (aD (v := .d (.lit (.int .i64 ((w64 ((w64 ((w64 ((IntKind.u64.wrap (w64 (a_1 + b_3))).fdiv (2 ^ (min (1 : Int).toNat 64)))) + m_2)) - start_8_48)))))) (aA rfl) rfl rfl) ?_
              refine aP rfl rfl (aA rfl) rfl c97 (aD (v := .d (.lit (.int .i64 b_3))) (aA rfl) rfl rfl) ?_
              refine aP rfl rfl (aA rfl) rfl c97 (bC (aA rfl) rfl rfl rfl) ?_
              refine tr1 rfl (bW (v := .d (.lit (.bool ((decide ((w64 ((w64 ((w64 ((IntKind.u64.wrap (w64 (a_1 + b_3))).fdiv (2 ^ (min (1 : Int).toNat 64)))) + m_2)) - start_8_48)) < b_3)))))) (aA rfl) rfl c97 rfl rfl) ?_
              have h93 := Option.some.inj h93
              subst h93
              refine aF (bB rfl ⟨rfl, rfl, rfl, rfl, rfl, trivial⟩ rfl)
             ·have h93 := aT c97 h93
              refine aR rfl rfl (aA rfl) rfl (aA rfl) rfl c97 ?_
              refine aR rfl rfl (aA rfl) rfl (aA rfl) rfl c97 ?_
              refine aR rfl rfl (aA rfl) rfl (aA rfl) rfl c97 ?_
              refine tr1 rfl (bT (v := .d (.lit (.bool false))) (aA rfl) rfl c97 rfl rfl) ?_
              have h93 := Option.some.inj h93
              subst h93
              refine aF (bB rfl ⟨rfl, rfl, rfl, rfl, rfl, trivial⟩ rfl)
            ·refine aF ?_
             refine bH rfl (fun c94 => ?_) (fun c94 => ?_)
             ·have h := aU c94 h
              refine aE ?_
              refine tr1 rfl (aD (v := .d (.lit data_0_v)) (aA rfl) rfl rfl) ?_
              refine tr1 rfl (aD (v := .d (.lit (.int .i64 ((w64 ((IntKind.u64.wrap (w64 (a_1 + b_3))).fdiv (2 ^ (min (1 : Int).toNat 64)))))))) (aA rfl) rfl rfl) ?_
              refine tr1 rfl (aD (v := .d (.lit (.int .i64 ((w64 ((w64 ((w64 ((IntKind.u64.wrap (w64 (a_1 + b_3))).fdiv (2 ^ (min (1 : Int).toNat 64)))) + m_2)) - start_8_48)))))) (aA rfl) rfl rfl) ?_
              refine tr1 rfl (aD (v := .d (.lit (.int .i64 b_3))) (aA rfl) rfl rfl) ?_
              refine tr1 rfl (aD (v := .fn cmp_4_f cmp_4_v) (aA rfl) rfl rfl) ?_
              obtain ⟨r95, h96, h⟩ := bind_some h
              refine bR rfl (dQ (passed := [.arr data_0_v 42 5 (data_0.map aB)]) (aA rfl) rfl (.func _ _ Try.call128) rfl rfl (ih data_0 (w64 ((IntKind.u64.wrap (w64 (a_1 + b_3))).fdiv (2 ^ (min (1 : Int).toNat 64)))) (w64 ((w64 ((w64 ((IntKind.u64.wrap (w64 (a_1 + b_3))).fdiv (2 ^ (min (1 : Int).toNat 64)))) + m_2)) - start_8_48)) b_3 h96)) ?_
              rintro _ ⟨_, _, ⟨rfl, rfl⟩, rfl⟩
              refine aF ?_
              have h := Option.some.inj h
              subst h
              exact ⟨_, [.arr data_0_v 42 5 (r95.map aB)], [], _, .none, .refl _, .same _, rfl, rfl⟩
             ·have h := aT c94 h
              refine bE ?_
              have h := Option.some.inj h
              subst h
              exact ⟨_, [.arr data_0_v 42 5 (data_0.map aB)], [], _, .none, .refl _, .same _, rfl, rfl⟩
      ·have h := aT c47 h
       refine aG ?_
       refine aE ?_
       refine tr1 rfl (aD (v := .d (.lit (.int .i64 a_1))) (aA rfl) rfl rfl) ?_
       refine tr1 rfl (aJ (v := .d (.lit (.int .i64 a_1))) (aA rfl) rfl rfl) ?_
       refine aF ?_
       refine aE ?_
       refine tr1 rfl (aD (v := .d (.lit (.int .i64 m_2))) (aA rfl) rfl rfl) ?_
       refine tr1 rfl (aJ (v := .d (.lit (.int .i64 m_2))) (aA rfl) rfl rfl) ?_
       refine aF ?_
       refine aG ?_
       refine aE ?_
       refine tr1 rfl (aD (v := .d (.lit (.int .i64 ((w64 ((w64 ((IntKind.u64.wrap (w64 (a_1 + b_3))).fdiv (2 ^ (min (1 : Int).toNat 64)))) + m_2)))))) (aA rfl) rfl rfl) ?_
       refine tr1 rfl (aZ (aA rfl) rfl rfl rfl) ?_
       refine tr1 rfl (aJ (v := .d (.lit (.int .i64 ((w64 ((w64 ((w64 ((IntKind.u64.wrap (w64 (a_1 + b_3))).fdiv (2 ^ (min (1 : Int).toNat 64)))) + m_2)) - 1)))))) (aA rfl) rfl rfl) ?_
       refine aF ?_
       refine aG ?_
       refine bQ ?_
       refine cH [0, 1, 2, 3, 4, 18, 19, 22] (fun (s100 : Int × Int) => [(20, .d (.lit (.int .i64 s100.1))), (21, .d (.lit (.int .i64 s100.2)))]) (fun (s100 : Int × Int) => [.arr data_0_v 42 5 (data_0.map aB)]) (fun (k : Nat) (s100 : Int × Int) => bZ (bD cmp_4 kr) a_1 m_2 b_3 cmp_4 (w64 ((IntKind.u64.wrap (w64 (a_1 + b_3))).fdiv (2 ^ (min (1 : Int).toNat 64)))) (w64 ((w64 ((IntKind.u64.wrap (w64 (a_1 + b_3))).fdiv (2 ^ (min (1 : Int).toNat 64)))) + m_2)) (w64 ((w64 ((w64 ((IntKind.u64.wrap (w64 (a_1 + b_3))).fdiv (2 ^ (min (1 : Int).toNat 64)))) + m_2)) - 1)) data_0 k s100.1 s100.2) (fun _ => rfl) (a_1, m_2) h (aX [0] rfl rfl (aO rfl (aO rfl (aY ⟨rfl, rfl, rfl, rfl, rfl, rfl, rfl, rfl, trivial⟩)))) ?_
       rintro k101 ⟨start_8_100, r_8_100⟩ h
       simp only [bZ] at h
       refine aG ?_
       refine aG ?_
       refine aE ?_
       refine tr1 rfl (aD (v := .d (.lit (.int .i64 start_8_100))) (aA rfl) rfl rfl) ?_
       refine tr1 rfl (aD (v := .d (.lit (.int .i64 r_8_100))) (aA rfl) rfl rfl) ?_
       refine tr1 rfl (bC (aA rfl) rfl rfl rfl) ?_
       refine aF ?_
       refine bH rfl (fun c102 => ?_) (fun c102 => ?_)
       ·have h := aU c102 h
        refine bE ?_
        refine bQ ?_
        refine aG ?_
        refine aE ?_
        refine tr1 rfl (aD (v := .d (.lit (.int .i64 start_8_100))) (aA rfl) rfl rfl) ?_
        refine tr1 rfl (aD (v := .d (.lit (.int .i64 r_8_100))) (aA rfl) rfl rfl) ?_
        refine tr1 rfl (aZ (aA rfl) rfl rfl rfl) ?_
        refine tr1 rfl (oZ (aA rfl) rfl Try.runUnderlying3 Try.runUnderlying127) ?_
        refine tr1 rfl (aAq (aA rfl) rfl rfl (by decide)) ?_
        refine tr1 rfl (oZ (aA rfl) rfl Try.runUnderlying127 Try.runUnderlying3) ?_
        refine tr1 rfl (aJ (v := .d (.lit (.int .i64 ((w64 ((IntKind.u64.wrap (w64 (start_8_100 + r_8_100))).fdiv (2 ^ (min (1 : Int).toNat 64)))))))) (aA rfl) rfl rfl) ?_
        refine aF ?_
        refine aG ?_
        obtain ⟨x103, h104, h⟩ := bind_some h
        obtain ⟨x105, h106, h⟩ := bind_some h
        refine fU mix 11 [0, 1, 2, 3, 4, 18, 19, 20, 21, 22, 23] [(158, .fn cmp_4_f cmp_4_v), (164, .agg (aB x103)), (168, .agg (aB x105))] ?_ ?_
        ·refine ⟨[(158, 0, .fn cmp_4_f cmp_4_v), (159, 1, .d (.lit data_0_v)), (160, 2, .d (.lit (.int .i64 ((w64 ((w64 ((w64 ((IntKind.u64.wrap (w64 (a_1 + b_3))).fdiv (2 ^ (min (1 : Int).toNat 64)))) + m_2)) - 1)))))), (161, 3, .d (.lit (.int .i64 ((w64 ((IntKind.u64.wrap (w64 (start_8_100 + r_8_100))).fdiv (2 ^ (min (1 : Int).toNat 64)))))))), (162, 4, .d (.lit (.int .i64 ((w64 ((w64 ((w64 ((w64 ((IntKind.u64.wrap (w64 (a_1 + b_3))).fdiv (2 ^ (min (1 : Int).toNat 64)))) + m_2)) - 1)) - (w64 ((IntKind.u64.wrap (w64 (start_8_100 + r_8_100))).fdiv (2 ^ (min (1 : Int).toNat 64)))))))))), (163, 5, .ep data_0_v 5 (w64 ((w64 ((w64 ((w64 ((IntKind.u64.wrap (w64 (a_1 + b_3))).fdiv (2 ^ (min (1 : Int).toNat 64)))) + m_2)) - 1)) - (w64 ((IntKind.u64.wrap (w64 (start_8_100 + r_8_100))).fdiv (2 ^ (min (1 : Int).toNat 64)))))).toNat 0), (164, 6, .agg (aB x103)), (165, 7, .d (.lit data_0_v)), (166, 8, .d (.lit (.int .i64 ((w64 ((IntKind.u64.wrap (w64 (start_8_100 + r_8_100))).fdiv (2 ^ (min (1 : Int).toNat 64)))))))), (167, 9, .ep data_0_v 5 (w64 ((IntKind.u64.wrap (w64 (start_8_100 + r_8_100))).fdiv (2 ^ (min (1 : Int).toNat 64)))).toNat 0), (168, 10, .agg (aB x105))], ?_, ?_⟩
         · exact ⟨by kernel_rfl, by kernel_rfl, by kernel_rfl, by kernel_rfl, by kernel_rfl, [([], []), ([], []), ([], []), ([], []), ([2, 3], []), ([1, 4], []), ([5], []), ([], []), ([], []), ([7, 8], []), ([9], [])], by kernel_rfl, ⟨fun S hS => aK rfl (aQ rfl (aD (v := .fn cmp_4_f cmp_4_v) (aA rfl) (aI hS rfl) rfl)),
      fun S hS => aK rfl (aQ rfl (aD (v := .d (.lit data_0_v)) (aA rfl) (aI hS rfl) rfl)),
      fun S hS => aK rfl (aQ rfl (aD (v := .d (.lit (.int .i64 ((w64 ((w64 ((w64 ((IntKind.u64.wrap (w64 (a_1 + b_3))).fdiv (2 ^ (min (1 : Int).toNat 64)))) + m_2)) - 1)))))) (aA rfl) (aI hS rfl) rfl)),
      fun S hS => aK rfl (aQ rfl (aD (v := .d (.lit (.int .i64 ((w64 ((IntKind.u64.wrap (w64 (start_8_100 + r_8_100))).fdiv (2 ^ (min (1 : Int).toNat 64)))))))) (aA rfl) (aI hS rfl) rfl)),
      fun S hS => aK rfl (aQ rfl (aZ (aA rfl) (aI hS rfl) (aI hS rfl) rfl)),
      fun S hS => aK rfl (aQ rfl (cE (m := 0) (aA rfl) (aI hS rfl) rfl (aI hS rfl) bP.of (bN aB h104))),
      fun S hS => aK rfl (aQ rfl (dG (aA rfl) (aI hS rfl) (l := 0) rfl (eA aB h104) dR (es := (aB x103)) rfl rfl)),
      fun S hS => aK rfl (aQ rfl (aD (v := .d (.lit data_0_v)) (aA rfl) (aI hS rfl) rfl)),
      fun S hS => aK rfl (aQ rfl (aD (v := .d (.lit (.int .i64 ((w64 ((IntKind.u64.wrap (w64 (start_8_100 + r_8_100))).fdiv (2 ^ (min (1 : Int).toNat 64)))))))) (aA rfl) (aI hS rfl) rfl)),
      fun S hS => aK rfl (aQ rfl (cE (m := 0) (aA rfl) (aI hS rfl) rfl (aI hS rfl) bP.of (bN aB h106))),
      fun S hS => aK rfl (aQ rfl (dG (aA rfl) (aI hS rfl) (l := 0) rfl (eA aB h106) dR (es := (aB x105)) rfl rfl)), trivial⟩⟩
         · exact dX (aO rfl (aO rfl (aO rfl (aY ⟨rfl, rfl, rfl, rfl, rfl, rfl, rfl, rfl, rfl, rfl, rfl, trivial⟩))))
        ·obtain ⟨r107, h108, h⟩ := bind_some h
         refine tr1 rfl (cC (aA rfl) (.clo _ _ _ _ cmp_4_e rfl) (uB rfl) rfl (BVs.refl _ _) (cmp_4_h _ _ _  h108) rfl) ?_
         refine tr1 rfl (bC (aA rfl) rfl rfl rfl) ?_
         refine tr1 rfl (fO (aA rfl) rfl) ?_
         refine aF ?_
         refine bH rfl (fun c109 => ?_) (fun c109 => ?_)
         ·have h := aU c109 h
          refine aE ?_
          refine tr1 rfl (aD (v := .d (.lit (.int .i64 ((w64 ((IntKind.u64.wrap (w64 (start_8_100 + r_8_100))).fdiv (2 ^ (min (1 : Int).toNat 64)))))))) (aA rfl) rfl rfl) ?_
          refine tr1 rfl (aZ (aA rfl) rfl rfl rfl) ?_
          refine tr1 rfl (aJ (v := .d (.lit (.int .i64 ((w64 ((w64 ((IntKind.u64.wrap (w64 (start_8_100 + r_8_100))).fdiv (2 ^ (min (1 : Int).toNat 64)))) + 1)))))) (aA rfl) rfl rfl) ?_
          refine eC ?_
          exact ⟨(w64 ((w64 ((IntKind.u64.wrap (w64 (start_8_100 + r_8_100))).fdiv (2 ^ (min (1 : Int).toNat 64)))) + 1), r_8_100), h, aX [0] rfl rfl (aO rfl (aO rfl (aY ⟨rfl, rfl, rfl, rfl, rfl, rfl, rfl, rfl, trivial⟩)))⟩
         ·have h := aT c109 h
          refine aE ?_
          refine tr1 rfl (aD (v := .d (.lit (.int .i64 ((w64 ((IntKind.u64.wrap (w64 (start_8_100 + r_8_100))).fdiv (2 ^ (min (1 : Int).toNat 64)))))))) (aA rfl) rfl rfl) ?_
          refine tr1 rfl (aJ (v := .d (.lit (.int .i64 ((w64 ((IntKind.u64.wrap (w64 (start_8_100 + r_8_100))).fdiv (2 ^ (min (1 : Int).toNat 64)))))))) (aA rfl) rfl rfl) ?_
          refine eC ?_
          exact ⟨(start_8_100, w64 ((IntKind.u64.wrap (w64 (start_8_100 + r_8_100))).fdiv (2 ^ (min (1 : Int).toNat 64)))), h, aX [0] rfl rfl (aO rfl (aO rfl (aY ⟨rfl, rfl, rfl, rfl, rfl, rfl, rfl, rfl, trivial⟩)))⟩
       ·have h := aT c102 h
        refine cQ ?_
        refine .inl ⟨rfl, ?_⟩
        simp only [dC] at h
        refine aG ?_
        refine aE ?_
        refine tr1 rfl (aD (v := .d (.lit (.int .i64 ((w64 ((w64 ((IntKind.u64.wrap (w64 (a_1 + b_3))).fdiv (2 ^ (min (1 : Int).toNat 64)))) + m_2)))))) (aA rfl) rfl rfl) ?_
        refine tr1 rfl (aD (v := .d (.lit (.int .i64 start_8_100))) (aA rfl) rfl rfl) ?_
        refine tr1 rfl (aZ (aA rfl) rfl rfl rfl) ?_
        refine tr1 rfl (aJ (v := .d (.lit (.int .i64 ((w64 ((w64 ((w64 ((IntKind.u64.wrap (w64 (a_1 + b_3))).fdiv (2 ^ (min (1 : Int).toNat 64)))) + m_2)) - start_8_100)))))) (aA rfl) rfl rfl) ?_
        refine aF ?_
        refine aG ?_
        refine aG ?_
        refine aE ?_
        refine tr1 rfl (aD (v := .d (.lit (.int .i64 start_8_100))) (aA rfl) rfl rfl) ?_
        refine tr1 rfl (aD (v := .d (.lit (.int .i64 m_2))) (aA rfl) rfl rfl) ?_
        refine tr1 rfl (bC (aA rfl) rfl rfl rfl) ?_
        refine tr1 rfl (aD (v := .d (.lit (.bool ((decide (start_8_100 < m_2)))))) (aA rfl) rfl rfl) ?_
        obtain ⟨b110, h111, h⟩ := bind_some h
        refine cA 4 [0, 1, 2, 3, 4, 18, 20, 24] 185 b110 ?_ ?_
        ·refine bJ (decide (start_8_100 < m_2)) (fun c151 => ?_) (fun c151 => ?_)
         ·have h111 := aU c151 h111
          refine aP rfl rfl (aA rfl) rfl c151 (aD (v := .d (.lit (.int .i64 m_2))) (aA rfl) rfl rfl) ?_
          refine aP rfl rfl (aA rfl) rfl c151 (aD (v := .d (.lit (.int .i64 ((w64 ((w64 ((w64 ((IntKind.u64.wrap (w64 (a_1 + b_3))).fdiv (2 ^ (min (1 : Int).toNat 64)))) + m_2)) - start_8_100)))))) (aA rfl) rfl rfl) ?_
          refine aP rfl rfl (aA rfl) rfl c151 (bC (aA rfl) rfl rfl rfl) ?_
          refine tr1 rfl (bW (v := .d (.lit (.bool ((decide (m_2 < (w64 ((w64 ((w64 ((IntKind.u64.wrap (w64 (a_1 + b_3))).fdiv (2 ^ (min (1 : Int).toNat 64)))) + m_2)) - start_8_100)))))))) (aA rfl) rfl c151 rfl rfl) ?_
          have h111 := Option.some.inj h111
          subst h111
          refine aF (bB rfl ⟨rfl, rfl, rfl, rfl, rfl, rfl, rfl, rfl, trivial⟩ rfl)
         ·have h111 := aT c151 h111
          refine aR rfl rfl (aA rfl) rfl (aA rfl) rfl c151 ?_
          refine aR rfl rfl (aA rfl) rfl (aA rfl) rfl c151 ?_
          refine aR rfl rfl (aA rfl) rfl (aA rfl) rfl c151 ?_
          refine tr1 rfl (bT (v := .d (.lit (.bool false))) (aA rfl) rfl c151 rfl rfl) ?_
          have h111 := Option.some.inj h111
          subst h111
          refine aF (bB rfl ⟨rfl, rfl, rfl, rfl, rfl, rfl, rfl, rfl, trivial⟩ rfl)
        ·refine aF ?_
         refine bH rfl (fun c112 => ?_) (fun c112 => ?_)
         ·have h := aU c112 h
          refine aE ?_
          refine tr1 rfl (aD (v := .d (.lit data_0_v)) (aA rfl) rfl rfl) ?_
          refine tr1 rfl (aD (v := .d (.lit (.int .i64 start_8_100))) (aA rfl) rfl rfl) ?_
          refine tr1 rfl (aD (v := .d (.lit (.int .i64 m_2))) (aA rfl) rfl rfl) ?_
          refine tr1 rfl (aD (v := .d (.lit (.int .i64 ((w64 ((w64 ((w64 ((IntKind.u64.wrap (w64 (a_1 + b_3))).fdiv (2 ^ (min (1 : Int).toNat 64)))) + m_2)) - start_8_100)))))) (aA rfl) rfl rfl) ?_
          refine tr1 rfl (aD (v := .fn cmp_4_f cmp_4_v) (aA rfl) rfl rfl) ?_
          obtain ⟨r113, h114, h⟩ := bind_some h
          refine bR rfl (dQ (passed := [.arr data_0_v 42 5 (data_0.map aB)]) (aA rfl) rfl (.func _ _ Try.call138) rfl rfl (lV data_0 start_8_100 m_2 (w64 ((w64 ((w64 ((IntKind.u64.wrap (w64 (a_1 + b_3))).fdiv (2 ^ (min (1 : Int).toNat 64)))) + m_2)) - start_8_100)) cmp_4 cmp_4_f cmp_4_v cmp_4_e cmp_4_h h114)) ?_
          rintro _ ⟨_, _, ⟨rfl, rfl⟩, rfl⟩
          refine aF ?_
          refine aG ?_
          refine aG ?_
          refine aE ?_
          refine tr1 rfl (aD (v := .d (.lit (.int .i64 a_1))) (aA rfl) rfl rfl) ?_
          refine tr1 rfl (aD (v := .d (.lit (.int .i64 start_8_100))) (aA rfl) rfl rfl) ?_
          refine tr1 rfl (bC (aA rfl) rfl rfl rfl) ?_
          refine tr1 rfl (aD (v := .d (.lit (.bool ((decide (a_1 < start_8_100)))))) (aA rfl) rfl rfl) ?_
          obtain ⟨b115, h116, h⟩ := bind_some h
          refine cA 4 [0, 1, 3, 4, 18, 20, 24] 199 b115 ?_ ?_
          ·refine bJ (decide (a_1 < start_8_100)) (fun c132 => ?_) (fun c132 => ?_)
           ·have h116 := aU c132 h116
            refine aP rfl rfl (aA rfl) rfl c132 (aD (v := .d (.lit (.int .i64 start_8_100))) (aA rfl) rfl rfl) ?_
            refine aP rfl rfl (aA rfl) rfl c132 (aD (v := .d (.lit (.int .i64 ((w64 ((IntKind.u64.wrap (w64 (a_1 + b_3))).fdiv (2 ^ (min (1 : Int).toNat 64)))))))) (aA rfl) rfl rfl) ?_
            refine aP rfl rfl (aA rfl) rfl c132 (bC (aA rfl) rfl rfl rfl) ?_
            refine tr1 rfl (bW (v := .d (.lit (.bool ((decide (start_8_100 < (w64 ((IntKind.u64.wrap (w64 (a_1 + b_3))).fdiv (2 ^ (min (1 : Int).toNat 64)))))))))) (aA rfl) rfl c132 rfl rfl) ?_
            have h116 := Option.some.inj h116
            subst h116
            refine aF (bB rfl ⟨rfl, rfl, rfl, rfl, rfl, rfl, rfl, trivial⟩ rfl)
           ·have h116 := aT c132 h116
            refine aR rfl rfl (aA rfl) rfl (aA rfl) rfl c132 ?_
            refine aR rfl rfl (aA rfl) rfl (aA rfl) rfl c132 ?_
            refine aR rfl rfl (aA rfl) rfl (aA rfl) rfl c132 ?_
            refine tr1 rfl (bT (v := .d (.lit (.bool false))) (aA rfl) rfl c132 rfl rfl) ?_
            have h116 := Option.some.inj h116
            subst h116
            refine aF (bB rfl ⟨rfl, rfl, rfl, rfl, rfl, rfl, rfl, trivial⟩ rfl)
          ·refine aF ?_
           refine bH rfl (fun c117 => ?_) (fun c117 => ?_)
           ·have h := aU c117 h
            refine aE ?_
            refine tr1 rfl (aD (v := .d (.lit data_0_v)) (aA rfl) rfl rfl) ?_
            refine tr1 rfl (aD (v := .d (.lit (.int .i64 a_1))) (aA rfl) rfl rfl) ?_
            refine tr1 rfl (aD (v := .d (.lit (.int .i64 start_8_100))) (aA rfl) rfl rfl) ?_
            refine tr1 rfl (aD (v := .d (.lit (.int .i64 ((w64 ((IntKind.u64.wrap (w64 (a_1 + b_3))).fdiv (2 ^ (min (1 : Int).toNat 64)))))))) (aA rfl) rfl rfl) ?_
            refine tr1 rfl (aD (v := .fn cmp_4_f cmp_4_v) (aA rfl) rfl rfl) ?_
            obtain ⟨r118, h119, h⟩ := bind_some h
            refine bR rfl (dQ (passed := [.arr data_0_v 42 5 (r113.map aB)]) (aA rfl) rfl (.func _ _ Try.call128) rfl rfl (ih r113 a_1 start_8_100 (w64 ((IntKind.u64.wrap (w64 (a_1 + b_3))).fdiv (2 ^ (min (1 : Int).toNat 64)))) h119)) ?_
            rintro _ ⟨_, _, ⟨rfl, rfl⟩, rfl⟩
            refine aF ?_
            refine aG ?_
            refine aE ?_
            refine tr1 rfl (aD (v := .d (.lit (.int .i64 ((w64 ((IntKind.u64.wrap (w64 (a_1 + b_3))).fdiv (2 ^ (min (1 : Int).toNat 64)))))))) (aA rfl) rfl rfl) ?_
            refine tr1 rfl (aD (v := .d (.lit (.int .i64 ((w64 ((w64 ((w64 ((IntKind.u64.wrap (w64 (a_1 + b_3))).fdiv (2 ^ (min (1 : Int).toNat 64)))) + m_2)) - start_8_100)))))) (aA rfl) rfl rfl) ?_
            refine tr1 rfl (bC (aA rfl) rfl rfl rfl) ?_
            refine tr1 rfl (aD (v := .d (.lit (.bool ((decide ((w64 ((IntKind.u64.wrap (w64 (a_1 + b_3))).fdiv (2 ^ (min (1 : Int).toNat 64)))) < (w64 ((w64 ((w64 ((IntKind.u64.wrap (w64 (a_1 + b_3))).fdiv (2 ^ (min (1 : Int).toNat 64)))) + m_2)) - start_8_100)))))))) (aA rfl) rfl rfl) ?_
            obtain ⟨b120, h121, h⟩ := bind_some h
            refine cA 4 [0, 3, 4, 18, 24] 213 b120 ?_ ?_
            ·refine bJ (decide ((w64 ((IntKind.u64.wrap (w64 (a_1 + b_3))).fdiv (2 ^ (min (1 : Int).toNat 64)))) < (w64 ((w64 ((w64 ((IntKind.u64.wrap (w64 (a_1 + b_3))).fdiv (2 ^ (min (1 : Int).toNat 64)))) + m_2)) - start_8_100)))) (fun c125 => ?_) (fun c125 => ?_)
             ·have h121 := aU c125 h121
              refine aP rfl rfl (aA rfl) rfl c125 (aD (v := .d (.lit (.int .i64 ((w64 ((w64 ((w64 ((IntKind.u64.wrap (w64 (a_1 + b_3))).fdiv (2 ^ (min (1 : Int).toNat 64)))) + m_2)) - start_8_100)))))) (aA rfl) rfl rfl) ?_
              refine aP rfl rfl (aA rfl) rfl c125 (aD (v := .d (.lit (.int .i64 b_3))) (aA rfl) rfl rfl) ?_
              refine aP rfl rfl (aA rfl) rfl c125 (bC (aA rfl) rfl rfl rfl) ?_
              refine tr1 rfl (bW (v := .d (.lit (.bool ((decide ((w64 ((w64 ((w64 ((IntKind.u64.wrap (w64 (a_1 + b_3))).fdiv (2 ^ (min (1 : Int).toNat 64)))) + m_2)) - start_8_100)) < b_3)))))) (aA rfl) rfl c125 rfl rfl) ?_
              have h121 := Option.some.inj h121
              subst h121
              refine aF (bB rfl ⟨rfl, rfl, rfl, rfl, rfl, trivial⟩ rfl)
             ·have h121 := aT c125 h121
              refine aR rfl rfl (aA rfl) rfl (aA rfl) rfl c125 ?_
              refine aR rfl rfl (aA rfl) rfl (aA rfl) rfl c125 ?_
              refine aR rfl rfl (aA rfl) rfl (aA rfl) rfl c125 ?_
              refine tr1 rfl (bT (v := .d (.lit (.bool false))) (aA rfl) rfl c125 rfl rfl) ?_
              have h121 := Option.some.inj h121
              subst h121
              refine aF (bB rfl ⟨rfl, rfl, rfl, rfl, rfl, trivial⟩ rfl)
            ·refine aF ?_
             refine bH rfl (fun c122 => ?_) (fun c122 => ?_)
             ·have h := aU c122 h
              refine aE ?_
              refine tr1 rfl (aD (v := .d (.lit data_0_v)) (aA rfl) rfl rfl) ?_
              refine tr1 rfl (aD (v := .d (.lit (.int .i64 ((w64 ((IntKind.u64.wrap (w64 (a_1 + b_3))).fdiv (2 ^ (min (1 : Int).toNat 64)))))))) (aA rfl) rfl rfl) ?_
              refine tr1 rfl (aD (v := .d (.lit (.int .i64 ((w64 ((w64 ((w64 ((IntKind.u64.wrap (w64 (a_1 + b_3))).fdiv (2 ^ (min (1 : Int).toNat 64)))) + m_2)) - start_8_100)))))) (aA rfl) rfl rfl) ?_
              refine tr1 rfl (aD (v := .d (.lit (.int .i64 b_3))) (aA rfl) rfl rfl) ?_
              refine tr1 rfl (aD (v := .fn cmp_4_f cmp_4_v) (aA rfl) rfl rfl) ?_
              obtain ⟨r123, h124, h⟩ := bind_some h
              refine bR rfl (dQ (passed := [.arr data_0_v 42 5 (r118.map aB)]) (aA rfl) rfl (.func _ _ Try.call128) rfl rfl (ih r118 (w64 ((IntKind.u64.wrap (w64 (a_1 + b_3))).fdiv (2 ^ (min (1 : Int).toNat 64)))) (w64 ((w64 ((w64 ((IntKind.u64.wrap (w64 (a_1 + b_3))).fdiv (2 ^ (min (1 : Int).toNat 64)))) + m_2)) - start_8_100)) b_3 h124)) ?_
              rintro _ ⟨_, _, ⟨rfl, rfl⟩, rfl⟩
              refine aF ?_
              have h := Option.some.inj h
              subst h
              exact ⟨_, [.arr data_0_v 42 5 (r123.map aB)], [], _, .none, .refl _, .same _, rfl, rfl⟩
             ·have h := aT c122 h
              refine bE ?_
              have h := Option.some.inj h
              subst h
              exact ⟨_, [.arr data_0_v 42 5 (r118.map aB)], [], _, .none, .refl _, .same _, rfl, rfl⟩
           ·have h := aT c117 h
            refine bE ?_
            refine aG ?_
            refine aE ?_
            refine tr1 rfl (aD (v := .d (.lit (.int .i64 ((w64 ((IntKind.u64.wrap (w64 (a_1 + b_3))).fdiv (2 ^ (min (1 : Int).toNat 64)))))))) (aA rfl) rfl rfl) ?_
            refine tr1 rfl (aD (v := .d (.lit (.int .i64 ((w64 ((w64 ((w64 ((IntKind.u64.wrap (w64 (a_1 + b_3))).fdiv (2 ^ (min (1 : Int).toNat 64)))) + m_2)) - start_8_100)))))) (aA rfl) rfl rfl) ?_
            refine tr1 rfl (bC (aA rfl) rfl rfl rfl) ?_
            refine tr1 rfl (aD (v := .d (.lit (.bool ((decide ((w64 ((IntKind.u64.wrap (w64 (a_1 + b_3))).fdiv (2 ^ (min (1 : Int).toNat 64)))) < (w64 ((w64 ((w64 ((IntKind.u64.wrap (w64 (a_1 + b_3))).fdiv (2 ^ (min (1 : Int).toNat 64)))) + m_2)) - start_8_100)))))))) (aA rfl) rfl rfl) ?_
            obtain ⟨b126, h127, h⟩ := bind_some h
            refine cA 4 [0, 3, 4, 18, 24] 213 b126 ?_ ?_
            ·refine bJ (decide ((w64 ((IntKind.u64.wrap (w64 (a_1 + b_3))).fdiv (2 ^ (min (1 : Int).toNat 64)))) < (w64 ((w64 ((w64 ((IntKind.u64.wrap (w64 (a_1 + b_3))).fdiv (2 ^ (min (1 : Int).toNat 64)))) + m_2)) - start_8_100)))) (fun c131 => ?_) (fun c131 => ?_)
             ·have h127 := aU c131 h127
              refine aP rfl rfl (aA rfl) rfl c131 (aD (v := .d (.lit (.int .i64 ((w64 ((w64 ((w64 ((IntKind.u64.wrap (w64 (a_1 + b_3))).fdiv (2 ^ (min (1 : Int).toNat 64)))) + m_2)) - start_8_100)))))) (aA rfl) rfl rfl) ?_
              refine aP rfl rfl (aA rfl) rfl c131 (aD (v := .d (.lit (.int .i64 b_3))) (aA rfl) rfl rfl) ?_
              refine aP rfl rfl (aA rfl) rfl c131 (bC (aA rfl) rfl rfl rfl) ?_
              refine tr1 rfl (bW (v := .d (.lit (.bool ((decide ((w64 ((w64 ((w64 ((IntKind.u64.wrap (w64 (a_1 + b_3))).fdiv (2 ^ (min (1 : Int).toNat 64)))) + m_2)) - start_8_100)) < b_3)))))) (aA rfl) rfl c131 rfl rfl) ?_
              have h127 := Option.some.inj h127
              subst h127
              refine aF (bB rfl ⟨rfl, rfl, rfl, rfl, rfl, trivial⟩ rfl)
             ·have h127 := aT c131 h127
              refine aR rfl rfl (aA rfl) rfl (aA rfl) rfl c131 ?_
              refine aR rfl rfl (aA rfl) rfl (aA rfl) rfl c131 ?_
              refine aR rfl rfl (aA rfl) rfl (aA rfl) rfl c131 ?_
              refine tr1 rfl (bT (v := .d (.lit (.bool false))) (aA rfl) rfl c131 rfl rfl) ?_
              have h127 := Option.some.inj h127
              subst h127
              refine aF (bB rfl ⟨rfl, rfl, rfl, rfl, rfl, trivial⟩ rfl)
            ·refine aF ?_
             refine bH rfl (fun c128 => ?_) (fun c128 => ?_)
             ·have h := aU c128 h
              refine aE ?_
              refine tr1 rfl (aD (v := .d (.lit data_0_v)) (aA rfl) rfl rfl) ?_
              refine tr1 rfl (aD (v := .d (.lit (.int .i64 ((w64 ((IntKind.u64.wrap (w64 (a_1 + b_3))).fdiv (2 ^ (min (1 : Int).toNat 64)))))))) (aA rfl) rfl rfl) ?_
              refine tr1 rfl (aD (v := .d (.lit (.int .i64 ((w64 ((w64 ((w64 ((IntKind.u64.wrap (w64 (a_1 + b_3))).fdiv (2 ^ (min (1 : Int).toNat 64)))) + m_2)) - start_8_100)))))) (aA rfl) rfl rfl) ?_
              refine tr1 rfl (aD (v := .d (.lit (.int .i64 b_3))) (aA rfl) rfl rfl) ?_
              refine tr1 rfl (aD (v := .fn cmp_4_f cmp_4_v) (aA rfl) rfl rfl) ?_
              obtain ⟨r129, h130, h⟩ := bind_some h
              refine bR rfl (dQ (passed := [.arr data_0_v 42 5 (r113.map aB)]) (aA rfl) rfl (.func _ _ Try.call128) rfl rfl (ih r113 (w64 ((IntKind.u64.wrap (w64 (a_1 + b_3))).fdiv (2 ^ (min (1 : Int).toNat 64)))) (w64 ((w64 ((w64 ((IntKind.u64.wrap (w64 (a_1 + b_3))).fdiv (2 ^ (min (1 : Int).toNat 64)))) + m_2)) - start_8_100)) b_3 h130)) ?_
              rintro _ ⟨_, _, ⟨rfl, rfl⟩, rfl⟩
              refine aF ?_
              have h := Option.some.inj h
              subst h
              exact ⟨_, [.arr data_0_v 42 5 (r129.map aB)], [], _, .none, .refl _, .same _, rfl, rfl⟩
             ·have h := aT c128 h
              refine bE ?_
              have h := Option.some.inj h
              subst h
              exact ⟨_, [.arr data_0_v 42 5 (r113.map aB)], [], _, .none, .refl _, .same _, rfl, rfl⟩
         ·have h := aT c112 h
          refine bE ?_
          refine aG ?_
          refine aG ?_
          refine aE ?_
          refine tr1 rfl (aD (v := .d (.lit (.int .i64 a_1))) (aA rfl) rfl rfl) ?_
          refine tr1 rfl (aD (v := .d (.lit (.int .i64 start_8_100))) (aA rfl) rfl rfl) ?_
          refine tr1 rfl (bC (aA rfl) rfl rfl rfl) ?_
          refine tr1 rfl (aD (v := .d (.lit (.bool ((decide (a_1 < start_8_100)))))) (aA rfl) rfl rfl) ?_
          obtain ⟨b133, h134, h⟩ := bind_some h
          refine cA 4 [0, 1, 3, 4, 18, 20, 24] 199 b133 ?_ ?_
          ·refine bJ (decide (a_1 < start_8_100)) (fun c150 => ?_) (fun c150 => ?_)
           ·have h134 := aU c150 h134
            refine aP rfl rfl (aA rfl) rfl c150 (aD (v := .d (.lit (.int .i64 start_8_100))) (aA rfl) rfl rfl) ?_
            refine aP rfl rfl (aA rfl) rfl c150 (aD (v := .d (.lit (.int .i64 ((w64 ((IntKind.u64.wrap (w64 (a_1 + b_3))).fdiv (2 ^ (min (1 : Int).toNat 64)))))))) (aA rfl) rfl rfl) ?_
            refine aP rfl rfl (aA rfl) rfl c150 (bC (aA rfl) rfl rfl rfl) ?_
            refine tr1 rfl (bW (v := .d (.lit (.bool ((decide (start_8_100 < (w64 ((IntKind.u64.wrap (w64 (a_1 + b_3))).fdiv (2 ^ (min (1 : Int).toNat 64)))))))))) (aA rfl) rfl c150 rfl rfl) ?_
            have h134 := Option.some.inj h134
            subst h134
            refine aF (bB rfl ⟨rfl, rfl, rfl, rfl, rfl, rfl, rfl, trivial⟩ rfl)
           ·have h134 := aT c150 h134
            refine aR rfl rfl (aA rfl) rfl (aA rfl) rfl c150 ?_
            refine aR rfl rfl (aA rfl) rfl (aA rfl) rfl c150 ?_
            refine aR rfl rfl (aA rfl) rfl (aA rfl) rfl c150 ?_
            refine tr1 rfl (bT (v := .d (.lit (.bool false))) (aA rfl) rfl c150 rfl rfl) ?_
            have h134 := Option.some.inj h134
            subst h134
            refine aF (bB rfl ⟨rfl, rfl, rfl, rfl, rfl, rfl, rfl, trivial⟩ rfl)
          ·refine aF ?_
           refine bH rfl (fun c135 => ?_) (fun c135 => ?_)
           ·have h := aU c135 h
            refine aE ?_
            refine tr1 rfl (aD (v := .d (.lit data_0_v)) (aA rfl) rfl rfl) ?_
            refine tr1 rfl (aD (v := .d (.lit (.int .i64 a_1))) (aA rfl) rfl rfl) ?_
            refine tr1 rfl (aD (v := .d (.lit (.int .i64 start_8_100))) (aA rfl) rfl rfl) ?_
            refine tr1 rfl (aD (v := .d (.lit (.int .i64 ((w64 ((IntKind.u64.wrap (w64 (a_1 + b_3))).fdiv (2 ^ (min (1 : Int).toNat 64)))))))) (aA rfl) rfl rfl) ?_
            refine tr1 rfl (aD (v := .fn cmp_4_f cmp_4_v) (aA rfl) rfl rfl) ?_
            obtain ⟨r136, h137, h⟩ := bind_some h
            refine bR rfl (dQ (passed := [.arr data_0_v 42 5 (data_0.map aB)]) (aA rfl) rfl (.func _ _ Try.call128) rfl rfl (ih data_0 a_1 start_8_100 (w64 ((IntKind.u64.wrap (w64 (a_1 + b_3))).fdiv (2 ^ (min (1 : Int).toNat 64)))) h137)) ?_
            rintro _ ⟨_, _, ⟨rfl, rfl⟩, rfl⟩
            refine aF ?_
            refine aG ?_
            refine aE ?_
            refine tr1 rfl (aD (v := .d (.lit (.int .i64 ((w64 ((IntKind.u64.wrap (w64 (a_1 + b_3))).fdiv (2 ^ (min (1 : Int).toNat 64)))))))) (aA rfl) rfl rfl) ?_
            refine tr1 rfl (aD (v := .d (.lit (.int .i64 ((w64 ((w64 ((w64 ((IntKind.u64.wrap (w64 (a_1 + b_3))).fdiv (2 ^ (min (1 : Int).toNat 64)))) + m_2)) - start_8_100)))))) (aA rfl) rfl rfl) ?_
            refine tr1 rfl (bC (aA rfl) rfl rfl rfl) ?_
            refine tr1 rfl (aD (v := .d (.lit (.bool ((decide ((w64 ((IntKind.u64.wrap (w64 (a_1 + b_3))).fdiv (2 ^ (min (1 : Int).toNat 64)))) < (w64 ((w64 ((w64 ((IntKind.u64.wrap (w64 (a_1 + b_3))).fdiv (2 ^ (min (1 : Int).toNat 64)))) + m_2)) - start_8_100)))))))) (aA rfl) rfl rfl) ?_
            obtain ⟨b138, h139, h⟩ := bind_some h
            refine cA 4 [0, 3, 4, 18, 24] 213 b138 ?_ ?_
            ·refine bJ (decide ((w64 ((IntKind.u64.wrap (w64 (a_1 + b_3))).fdiv (2 ^ (min (1 : Int).toNat 64)))) < (w64 ((w64 ((w64 ((IntKind.u64.wrap (w64 (a_1 + b_3))).fdiv (2 ^ (min (1 : Int).toNat 64)))) + m_2)) - start_8_100)))) (fun c143 => ?_) (fun c143 => ?_)
             ·have h139 := aU c143 h139
              refine aP rfl rfl (aA rfl) rfl c143 (aD (v := .d (.lit (.int .i64 ((w64 ((w64 ((w64 ((IntKind.u64.wrap (w64 (a_1 + b_3))).fdiv (2 ^ (min (1 : Int).toNat 64)))) + m_2)) - start_8_100)))))) (aA rfl) rfl rfl) ?_
              refine aP rfl rfl (aA rfl) rfl c143 (aD (v := .d (.lit (.int .i64 b_3))) (aA rfl) rfl rfl) ?_
              refine aP rfl rfl (aA rfl) rfl c143 (bC (aA rfl) rfl rfl rfl) ?_
              refine tr1 rfl (bW (v := .d (.lit (.bool ((decide ((w64 ((w64 ((w64 ((IntKind.u64.wrap (w64 (a_1 + b_3))).fdiv (2 ^ (min (1 : Int).toNat 64)))) + m_2)) - start_8_100)) < b_3)))))) (aA rfl) rfl c143 rfl rfl) ?_
              have h139 := Option.some.inj h139
              subst h139
              refine aF (bB rfl ⟨rfl, rfl, rfl, rfl, rfl, trivial⟩ rfl)
             ·have h139 := aT c143 h139
              refine aR rfl rfl (aA rfl) rfl (aA rfl) rfl c143 ?_
              refine aR rfl rfl (aA rfl) rfl (aA rfl) rfl c143 ?_
              refine aR rfl rfl (aA rfl) rfl (aA rfl) rfl c143 ?_
              refine tr1 rfl (bT (v := .d (.lit (.bool false))) (aA rfl) rfl c143 rfl rfl) ?_
              have h139 := Option.some.inj h139
              subst h139
              refine aF (bB rfl ⟨rfl, rfl, rfl, rfl, rfl, trivial⟩ rfl)
            ·refine aF ?_
             refine bH rfl (fun c140 => ?_) (fun c140 => ?_)
             ·have h := aU c140 h
              refine aE ?_
              refine tr1 rfl (aD (v := .d (.lit data_0_v)) (aA rfl) rfl rfl) ?_
              refine tr1 rfl (aD (v := .d (.lit (.int .i64 ((w64 ((IntKind.u64.wrap (w64 (a_1 + b_3))).fdiv (2 ^ (min (1 : Int).toNat 64)))))))) (aA rfl) rfl rfl) ?_
              refine tr1 rfl (aD (v := .d (.lit (.int .i64 ((w64 ((w64 ((w64 ((IntKind.u64.wrap (w64 (a_1 + b_3))).fdiv (2 ^ (min (1 : Int).toNat 64)))) + m_2)) - start_8_100)))))) (aA rfl) rfl rfl) ?_
              refine tr1 rfl (aD (v := .d (.lit (.int .i64 b_3))) (aA rfl) rfl rfl) ?_
              refine tr1 rfl (aD (v := .fn cmp_4_f cmp_4_v) (aA rfl) rfl rfl) ?_
              obtain ⟨r141, h142, h⟩ := bind_some h
              refine bR rfl (dQ (passed := [.arr data_0_v 42 5 (r136.map aB)]) (aA rfl) rfl (.func _ _ Try.call128) rfl rfl (ih r136 (w64 ((IntKind.u64.wrap (w64 (a_1 + b_3))).fdiv (2 ^ (min (1 : Int).toNat 64)))) (w64 ((w64 ((w64 ((IntKind.u64.wrap (w64 (a_1 + b_3))).fdiv (2 ^ (min (1 : Int).toNat 64)))) + m_2)) - start_8_100)) b_3 h142)) ?_
              rintro _ ⟨_, _, ⟨rfl, rfl⟩, rfl⟩
              refine aF ?_
              have h := Option.some.inj h
              subst h
              exact ⟨_, [.arr data_0_v 42 5 (r141.map aB)], [], _, .none, .refl _, .same _, rfl, rfl⟩
             ·have h := aT c140 h
              refine bE ?_
              have h := Option.some.inj h
              subst h
              exact ⟨_, [.arr data_0_v 42 5 (r136.map aB)], [], _, .none, .refl _, .same _, rfl, rfl⟩
           ·have h := aT c135 h
            refine bE ?_
            refine aG ?_
            refine aE ?_
            refine tr1 rfl (aD (v := .d (.lit (.int .i64 ((w64 ((IntKind.u64.wrap (w64 (a_1 + b_3))).fdiv (2 ^ (min (1 : Int).toNat 64)))))))) (aA rfl) rfl rfl) ?_
            refine tr1 rfl (aD (v := .d (.lit (.int .i64 ((w64 ((w64 ((w64 ((IntKind.u64.wrap (w64 (a_1 + b_3))).fdiv (2 ^ (min (1 : Int).toNat 64)))) + m_2)) - start_8_100)))))) (aA rfl) rfl rfl) ?_
            refine tr1 rfl (bC (aA rfl) rfl rfl rfl) ?_
            refine tr1 rfl (aD (v := .d (.lit (.bool ((decide ((w64 ((IntKind.u64.wrap (w64 (a_1 + b_3))).fdiv (2 ^ (min (1 : Int).toNat 64)))) < (w64 ((w64 ((w64 ((IntKind.u64.wrap (w64 (a_1 + b_3))).fdiv (2 ^ (min (1 : Int).toNat 64)))) + m_2)) - start_8_100)))))))) (aA rfl) rfl rfl) ?_
            obtain ⟨b144, h145, h⟩ := bind_some h
            refine cA 4 [0, 3, 4, 18, 24] 213 b144 ?_ ?_
            ·refine bJ (decide ((w64 ((IntKind.u64.wrap (w64 (a_1 + b_3))).fdiv (2 ^ (min (1 : Int).toNat 64)))) < (w64 ((w64 ((w64 ((IntKind.u64.wrap (w64 (a_1 + b_3))).fdiv (2 ^ (min (1 : Int).toNat 64)))) + m_2)) - start_8_100)))) (fun c149 => ?_) (fun c149 => ?_)
             ·have h145 := aU c149 h145
              refine aP rfl rfl (aA rfl) rfl c149 (aD (v := .d (.lit (.int .i64 ((w64 ((w64 ((w64 ((IntKind.u64.wrap (w64 (a_1 + b_3))).fdiv (2 ^ (min (1 : Int).toNat 64)))) + m_2)) - start_8_100)))))) (aA rfl) rfl rfl) ?_
              refine aP rfl rfl (aA rfl) rfl c149 (aD (v := .d (.lit (.int .i64 b_3))) (aA rfl) rfl rfl) ?_
              refine aP rfl rfl (aA rfl) rfl c149 (bC (aA rfl) rfl rfl rfl) ?_
              refine tr1 rfl (bW (v := .d (.lit (.bool ((decide ((w64 ((w64 ((w64 ((IntKind.u64.wrap (w64 (a_1 + b_3))).fdiv (2 ^ (min (1 : Int).toNat 64)))) + m_2)) - start_8_100)) < b_3)))))) (aA rfl) rfl c149 rfl rfl) ?_
              have h145 := Option.some.inj h145
              subst h145
              refine aF (bB rfl ⟨rfl, rfl, rfl, rfl, rfl, trivial⟩ rfl)
             ·have h145 := aT c149 h145
              refine aR rfl rfl (aA rfl) rfl (aA rfl) rfl c149 ?_
              refine aR rfl rfl (aA rfl) rfl (aA rfl) rfl c149 ?_
              refine aR rfl rfl (aA rfl) rfl (aA rfl) rfl c149 ?_
              refine tr1 rfl (bT (v := .d (.lit (.bool false))) (aA rfl) rfl c149 rfl rfl) ?_
              have h145 := Option.some.inj h145
              subst h145
              refine aF (bB rfl ⟨rfl, rfl, rfl, rfl, rfl, trivial⟩ rfl)
            ·refine aF ?_
             refine bH rfl (fun c146 => ?_) (fun c146 => ?_)
             ·have h := aU c146 h
              refine aE ?_
              refine tr1 rfl (aD (v := .d (.lit data_0_v)) (aA rfl) rfl rfl) ?_
              refine tr1 rfl (aD (v := .d (.lit (.int .i64 ((w64 ((IntKind.u64.wrap (w64 (a_1 + b_3))).fdiv (2 ^ (min (1 : Int).toNat 64)))))))) (aA rfl) rfl rfl) ?_
              refine tr1 rfl (aD (v := .d (.lit (.int .i64 ((w64 ((w64 ((w64 ((IntKind.u64.wrap (w64 (a_1 + b_3))).fdiv (2 ^ (min (1 : Int).toNat 64)))) + m_2)) - start_8_100)))))) (aA rfl) rfl rfl) ?_
              refine tr1 rfl (aD (v := .d (.lit (.int .i64 b_3))) (aA rfl) rfl rfl) ?_
              refine tr1 rfl (aD (v := .fn cmp_4_f cmp_4_v) (aA rfl) rfl rfl) ?_
              obtain ⟨r147, h148, h⟩ := bind_some h
              refine bR rfl (dQ (passed := [.arr data_0_v 42 5 (data_0.map aB)]) (aA rfl) rfl (.func _ _ Try.call128) rfl rfl (ih data_0 (w64 ((IntKind.u64.wrap (w64 (a_1 + b_3))).fdiv (2 ^ (min (1 : Int).toNat 64)))) (w64 ((w64 ((w64 ((IntKind.u64.wrap (w64 (a_1 + b_3))).fdiv (2 ^ (min (1 : Int).toNat 64)))) + m_2)) - start_8_100)) b_3 h148)) ?_
              rintro _ ⟨_, _, ⟨rfl, rfl⟩, rfl⟩
              refine aF ?_
              have h := Option.some.inj h
              subst h
              exact ⟨_, [.arr data_0_v 42 5 (r147.map aB)], [], _, .none, .refl _, .same _, rfl, rfl⟩
             ·have h := aT c146 h
              refine bE ?_
              have h := Option.some.inj h
              subst h
              exact ⟨_, [.arr data_0_v 42 5 (data_0.map aB)], [], _, .none, .refl _, .same _, rfl, rfl⟩
theorem lI (data_0 : List aC) (a_1 : Int) (m_2 : Int) (b_3 : Int) (cmp_4 : aC → aC → Option Int) {r : (List aC)} {data_0_v : Value} (cmp_4_f : Nat) (cmp_4_v : List AV) (cmp_4_e : ∀ args w, (callFunc cmp_4_f args).run Try.prog w = .ok (.enter cmp_4_f args) w) (cmp_4_h : ∀ (x0 : aC) (x1 : aC) r, cmp_4 x0 x1 = some r → Fn Try.prog cmp_4_f ([.agg (aB x0), .agg (aB x1)] ++ cmp_4_v) (.d (.lit (.int .i64 r)))) (h : gM data_0 a_1 m_2 b_3 cmp_4 = some r) : fQ Try.prog 128 [.d (.lit data_0_v), .d (.lit (.int .i64 a_1)), .d (.lit (.int .i64 m_2)), .d (.lit (.int .i64 b_3)), .fn cmp_4_f cmp_4_v] [.arr data_0_v 42 5 (data_0.map aB)] (fun r' o' => r' = .tup [] ∧ o' = [.arr data_0_v 42 5 (r.map aB)]) := pB cmp_4 cmp_4_f cmp_4_v cmp_4_e cmp_4_h BIG _ _ _ _ h

theorem qB (data_0 : List aC) (n_1 : Int) (cmp_2 : aC → aC → Option Int) {r : (List aC)} {data_0_v : Value} (cmp_2_f : Nat) (cmp_2_v : List AV) (cmp_2_e : ∀ args w, (callFunc cmp_2_f args).run Try.prog w = .ok (.enter cmp_2_f args) w) (cmp_2_h : ∀ (x0 : aC) (x1 : aC) r, cmp_2 x0 x1 = some r → Fn Try.prog cmp_2_f ([.agg (aB x0), .agg (aB x1)] ++ cmp_2_v) (.d (.lit (.int .i64 r)))) (h : gT data_0 n_1 cmp_2 = some r) : fQ Try.prog 106 [.d (.lit data_0_v), .d (.lit (.int .i64 n_1)), .fn cmp_2_f cmp_2_v] [.arr data_0_v 42 5 (data_0.map aB)] (fun r' o' => r' = .tup [] ∧ o' = [.arr data_0_v 42 5 (r.map aB)]) := by
 unfold gT at h
 refine jC Try.func106 rfl (rs := []) Try.results106 Try.ntmps106 (Nat.le_of_ble_eq_true rfl) ?_
 refine aG ?_
 refine aE ?_
 refine tr1 rfl (aJ (v := .d (.lit (.int .i64 20))) (aA rfl) rfl rfl) ?_
 refine aF ?_
 refine aG ?_
 refine aE ?_
 refine tr1 rfl (aD (v := .d (.lit (.int .i64 20))) (aA rfl) rfl rfl) ?_
 refine tr1 rfl (aJ (v := .d (.lit (.int .i64 0))) (aA rfl) rfl rfl) ?_
 refine tr1 rfl (aJ (v := .d (.lit (.int .i64 20))) (aA rfl) rfl rfl) ?_
 refine aF ?_
 refine aG ?_
 refine bQ ?_
 refine cH [1, 2, 6] (fun (s1 : Int × Int × (List aC)) => [(0, .d (.lit data_0_v)), (7, .d (.lit (.int .i64 s1.1))), (8, .d (.lit (.int .i64 s1.2.1)))]) (fun (s1 : Int × Int × (List aC)) => [.arr data_0_v 42 5 (s1.2.2.map aB)]) (fun (k : Nat) (s1 : Int × Int × (List aC)) => dS n_1 cmp_2 20 k s1.1 s1.2.1 s1.2.2) (fun _ => rfl) (0, 20, data_0) h (aX [0] rfl rfl (aO rfl (aO rfl (aO rfl (aY ⟨rfl, rfl, rfl, trivial⟩))))) ?_
 rintro k2 ⟨a_0_1, b_0_1, data_0_1⟩ h
 simp only [dS] at h
 refine aG ?_
 refine aG ?_
 refine aE ?_
 refine tr1 rfl (aD (v := .d (.lit (.int .i64 b_0_1))) (aA rfl) rfl rfl) ?_
 refine tr1 rfl (aD (v := .d (.lit (.int .i64 n_1))) (aA rfl) rfl rfl) ?_
 refine tr1 rfl (bC (aA rfl) rfl rfl rfl) ?_
 refine aF ?_
 refine bH rfl (fun c3 => ?_) (fun c3 => ?_)
 ·have h := aU c3 h
  refine bE ?_
  refine bQ ?_
  refine aG ?_
  refine aE ?_
  refine tr1 rfl (aD (v := .d (.lit data_0_v)) (aA rfl) rfl rfl) ?_
  refine tr1 rfl (aD (v := .d (.lit (.int .i64 a_0_1))) (aA rfl) rfl rfl) ?_
  refine tr1 rfl (aD (v := .d (.lit (.int .i64 b_0_1))) (aA rfl) rfl rfl) ?_
  refine tr1 rfl (aD (v := .fn cmp_2_f cmp_2_v) (aA rfl) rfl rfl) ?_
  obtain ⟨r4, h5, h⟩ := bind_some h
  refine bR rfl (dQ (passed := [.arr data_0_v 42 5 (data_0_1.map aB)]) (aA rfl) rfl (.func _ _ Try.call127) rfl rfl (jT data_0_1 a_0_1 b_0_1 cmp_2 cmp_2_f cmp_2_v cmp_2_e cmp_2_h h5)) ?_
  rintro _ ⟨_, _, ⟨rfl, rfl⟩, rfl⟩
  refine aF ?_
  refine aG ?_
  refine aE ?_
  refine tr1 rfl (aD (v := .d (.lit (.int .i64 b_0_1))) (aA rfl) rfl rfl) ?_
  refine tr1 rfl (aJ (v := .d (.lit (.int .i64 b_0_1))) (aA rfl) rfl rfl) ?_
  refine aF ?_
  refine aE ?_
  refine tr1 rfl (aD (v := .d (.lit (.int .i64 b_0_1))) (aA rfl) rfl rfl) ?_
  refine tr1 rfl (aD (v := .d (.lit (.int .i64 20))) (aA rfl) rfl rfl) ?_
  refine tr1 rfl (aZ (aA rfl) rfl rfl rfl) ?_
  refine tr1 rfl (aJ (v := .d (.lit (.int .i64 ((w64 (b_0_1 + 20)))))) (aA rfl) rfl rfl) ?_
  refine eC ?_
  exact ⟨(b_0_1, w64 (b_0_1 + 20), r4), h, aX [0] rfl rfl (aO rfl (aO rfl (aO rfl (aY ⟨rfl, rfl, rfl, trivial⟩))))⟩
 ·have h := aT c3 h
  refine cQ ?_
  refine .inl ⟨rfl, ?_⟩
  simp only [iV] at h
  refine aG ?_
  refine aE ?_
  refine tr1 rfl (aD (v := .d (.lit data_0_v)) (aA rfl) rfl rfl) ?_
  refine tr1 rfl (aD (v := .d (.lit (.int .i64 a_0_1))) (aA rfl) rfl rfl) ?_
  refine tr1 rfl (aD (v := .d (.lit (.int .i64 n_1))) (aA rfl) rfl rfl) ?_
  refine tr1 rfl (aD (v := .fn cmp_2_f cmp_2_v) (aA rfl) rfl rfl) ?_
  obtain ⟨r6, h7, h⟩ := bind_some h
  refine bR rfl (dQ (passed := [.arr data_0_v 42 5 (data_0_1.map aB)]) (aA rfl) rfl (.func _ _ Try.call127) rfl rfl (jT data_0_1 a_0_1 n_1 cmp_2 cmp_2_f cmp_2_v cmp_2_e cmp_2_h h7)) ?_
  rintro _ ⟨_, _, ⟨rfl, rfl⟩, rfl⟩
  refine aF ?_
  refine bQ ?_
  refine cH [1, 2] (fun (s8 : Int × (List aC)) => [(0, .d (.lit data_0_v)), (6, .d (.lit (.int .i64 s8.1)))]) (fun (s8 : Int × (List aC)) => [.arr data_0_v 42 5 (s8.2.map aB)]) (fun (k : Nat) (s8 : Int × (List aC)) => dA n_1 cmp_2 k s8.1 s8.2) (fun _ => rfl) (20, r6) h (aX [0] rfl rfl (aO rfl (aO rfl (aY ⟨rfl, rfl, trivial⟩)))) ?_
  rintro k9 ⟨blockSize_2_8, data_2_8⟩ h
  simp only [dA] at h
  refine aG ?_
  refine aG ?_
  refine aE ?_
  refine tr1 rfl (aD (v := .d (.lit (.int .i64 blockSize_2_8))) (aA rfl) rfl rfl) ?_
  refine tr1 rfl (aD (v := .d (.lit (.int .i64 n_1))) (aA rfl) rfl rfl) ?_
  refine tr1 rfl (bC (aA rfl) rfl rfl rfl) ?_
  refine aF ?_
  refine bH rfl (fun c10 => ?_) (fun c10 => ?_)
  ·have h := aU c10 h
   refine bE ?_
   refine bQ ?_
   refine aG ?_
   refine aE ?_
   refine tr1 rfl (aD (v := .d (.lit (.int .i64 blockSize_2_8))) (aA rfl) rfl rfl) ?_
   refine tr1 rfl (aZ (aA rfl) rfl rfl rfl) ?_
   refine tr1 rfl (aJ (v := .d (.lit (.int .i64 0))) (aA rfl) rfl rfl) ?_
   refine tr1 rfl (aJ (v := .d (.lit (.int .i64 ((w64 (2 * blockSize_2_8)))))) (aA rfl) rfl rfl) ?_
   refine aF ?_
   refine aG ?_
   refine bQ ?_
   refine cH [1, 2, 6] (fun (s11 : Int × Int × (List aC)) => [(0, .d (.lit data_0_v)), (7, .d (.lit (.int .i64 s11.1))), (8, .d (.lit (.int .i64 s11.2.1)))]) (fun (s11 : Int × Int × (List aC)) => [.arr data_0_v 42 5 (s11.2.2.map aB)]) (fun (k : Nat) (s11 : Int × Int × (List aC)) => dT (dA n_1 cmp_2 k9) n_1 cmp_2 blockSize_2_8 k s11.1 s11.2.1 s11.2.2) (fun _ => rfl) (0, w64 (2 * blockSize_2_8), data_2_8) h (aX [0] rfl rfl (aO rfl (aO rfl (aO rfl (aY ⟨rfl, rfl, rfl, trivial⟩))))) ?_
   rintro k12 ⟨a_4_11, b_4_11, data_4_11⟩ h
   simp only [dT] at h
   refine aG ?_
   refine aG ?_
   refine aE ?_
   refine tr1 rfl (aD (v := .d (.lit (.int .i64 b_4_11))) (aA rfl) rfl rfl) ?_
   refine tr1 rfl (aD (v := .d (.lit (.int .i64 n_1))) (aA rfl) rfl rfl) ?_
   refine tr1 rfl (bC (aA rfl) rfl rfl rfl) ?_
   refine aF ?_
   refine bH rfl (fun c13 => ?_) (fun c13 => ?_)
   ·have h := aU c13 h
    refine bE ?_
    refine bQ ?_
    refine aG ?_
    refine aE ?_
    refine tr1 rfl (aD (v := .d (.lit data_0_v)) (aA rfl) rfl rfl) ?_
    refine tr1 rfl (aD (v := .d (.lit (.int .i64 a_4_11))) (aA rfl) rfl rfl) ?_
    refine tr1 rfl (aD (v := .d (.lit (.int .i64 a_4_11))) (aA rfl) rfl rfl) ?_
    refine tr1 rfl (aD (v := .d (.lit (.int .i64 blockSize_2_8))) (aA rfl) rfl rfl) ?_
    refine tr1 rfl (aZ (aA rfl) rfl rfl rfl) ?_
    refine tr1 rfl (aD (v := .d (.lit (.int .i64 b_4_11))) (aA rfl) rfl rfl) ?_
    refine tr1 rfl (aD (v := .fn cmp_2_f cmp_2_v) (aA rfl) rfl rfl) ?_
    obtain ⟨r14, h15, h⟩ := bind_some h
    refine bR rfl (dQ (passed := [.arr data_0_v 42 5 (data_4_11.map aB)]) (aA rfl) rfl (.func _ _ Try.call128) rfl rfl (lI data_4_11 a_4_11 (w64 (a_4_11 + blockSize_2_8)) b_4_11 cmp_2 cmp_2_f cmp_2_v cmp_2_e cmp_2_h h15)) ?_
    rintro _ ⟨_, _, ⟨rfl, rfl⟩, rfl⟩
    refine aF ?_
    refine aG ?_
    refine aE ?_
    refine tr1 rfl (aD (v := .d (.lit (.int .i64 b_4_11))) (aA rfl) rfl rfl) ?_
    refine tr1 rfl (aJ (v := .d (.lit (.int .i64 b_4_11))) (aA rfl) rfl rfl) ?_
    refine aF ?_
    refine aE ?_
    refine tr1 rfl (aD (v := .d (.lit (.int .i64 b_4_11))) (aA rfl) rfl rfl) ?_
    refine tr1 rfl (aD (v := .d (.lit (.int .i64 blockSize_2_8))) (aA rfl) rfl rfl) ?_
    refine tr1 rfl (aZ (aA rfl) rfl rfl rfl) ?_
    refine tr1 rfl (aZ (aA rfl) rfl rfl rfl) ?_
    refine tr1 rfl (aJ (v := .d (.lit (.int .i64 ((w64 (b_4_11 + (w64 (2 * blockSize_2_8)))))))) (aA rfl) rfl rfl) ?_
    refine eC ?_
    exact ⟨(b_4_11, w64 (b_4_11 + (w64 (2 * blockSize_2_8))), r14), h, aX [0] rfl rfl (aO rfl (aO rfl (aO rfl (aY ⟨rfl, rfl, rfl, trivial⟩))))⟩
   ·have h := aT c13 h
    refine cQ ?_
    refine .inl ⟨rfl, ?_⟩
    simp only [iX] at h
    refine aG ?_
    refine aG ?_
    refine aE ?_
    refine tr1 rfl (aD (v := .d (.lit (.int .i64 a_4_11))) (aA rfl) rfl rfl) ?_
    refine tr1 rfl (aD (v := .d (.lit (.int .i64 blockSize_2_8))) (aA rfl) rfl rfl) ?_
    refine tr1 rfl (aZ (aA rfl) rfl rfl rfl) ?_
    refine tr1 rfl (aJ (v := .d (.lit (.int .i64 ((w64 (a_4_11 + blockSize_2_8)))))) (aA rfl) rfl rfl) ?_
    refine aF ?_
    refine aG ?_
    refine aE ?_
    refine tr1 rfl (aD (v := .d (.lit (.int .i64 ((w64 (a_4_11 + blockSize_2_8)))))) (aA rfl) rfl rfl) ?_
    refine tr1 rfl (aD (v := .d (.lit (.int .i64 n_1))) (aA rfl) rfl rfl) ?_
    refine tr1 rfl (bC (aA rfl) rfl rfl rfl) ?_
    refine aF ?_
    refine bH rfl (fun c16 => ?_) (fun c16 => ?_)
    ·have h := aU c16 h
     refine aE ?_
     refine tr1 rfl (aD (v := .d (.lit data_0_v)) (aA rfl) rfl rfl) ?_
     refine tr1 rfl (aD (v := .d (.lit (.int .i64 a_4_11))) (aA rfl) rfl rfl) ?_
     refine tr1 rfl (aD (v := .d (.lit (.int .i64 ((w64 (a_4_11 + blockSize_2_8)))))) (aA rfl) rfl rfl) ?_
     refine tr1 rfl (aD (v := .d (.lit (.int .i64 n_1))) (aA rfl) rfl rfl) ?_
     refine tr1 rfl (aD (v := .fn cmp_2_f cmp_2_v) (aA rfl) rfl rfl) ?_
     obtain ⟨r17, h18, h⟩ := bind_some h
     refine bR rfl (dQ (passed := [.arr data_0_v 42 5 (data_4_11.map aB)]) (aA rfl) rfl (.func _ _ Try.call128) rfl rfl (lI data_4_11 a_4_11 (w64 (a_4_11 + blockSize_2_8)) n_1 cmp_2 cmp_2_f cmp_2_v cmp_2_e cmp_2_h h18)) ?_
     rintro _ ⟨_, _, ⟨rfl, rfl⟩, rfl⟩
     refine aF ?_
     refine aE ?_
     refine tr1 rfl (aD (v := .d (.lit (.int .i64 blockSize_2_8))) (aA rfl) rfl rfl) ?_
     refine tr1 rfl (aZ (aA rfl) rfl rfl rfl) ?_
     refine tr1 rfl (aJ (v := .d (.lit (.int .i64 ((w64 (blockSize_2_8 * 2)))))) (aA rfl) rfl rfl) ?_
     refine eC ?_
     simp only [fE] at h
     exact ⟨(w64 (blockSize_2_8 * 2), r17), h, aX [0] rfl rfl (aO rfl (aO rfl (aY ⟨rfl, rfl, trivial⟩)))⟩
    ·have h := aT c16 h
     refine bE ?_
     refine aE ?_
     refine tr1 rfl (aD (v := .d (.lit (.int .i64 blockSize_2_8))) (aA rfl) rfl rfl) ?_
     refine tr1 rfl (aZ (aA rfl) rfl rfl rfl) ?_
     refine tr1 rfl (aJ (v := .d (.lit (.int .i64 ((w64 (blockSize_2_8 * 2)))))) (aA rfl) rfl rfl) ?_
     refine eC ?_
     simp only [fE] at h
     exact ⟨(w64 (blockSize_2_8 * 2), data_4_11), h, aX [0] rfl rfl (aO rfl (aO rfl (aY ⟨rfl, rfl, trivial⟩)))⟩
  ·have h := aT c10 h
   refine cQ ?_
   refine .inl ⟨rfl, ?_⟩
   simp only [iW] at h
   have h := Option.some.inj h
   subst h
   exact ⟨_, [.arr data_0_v 42 5 (data_2_8.map aB)], [], _, .none, .refl _, .same _, rfl, rfl⟩

theorem lN (x_0 : List aC) (cmp_1 : aC → aC → Option Int) {r : (List aC)} {x_0_v : Value} (cmp_1_f : Nat) (cmp_1_v : List AV) (cmp_1_e : ∀ args w, (callFunc cmp_1_f args).run Try.prog w = .ok (.enter cmp_1_f args) w) (cmp_1_h : ∀ (x0 : aC) (x1 : aC) r, cmp_1 x0 x1 = some r → Fn Try.prog cmp_1_f ([.agg (aB x0), .agg (aB x1)] ++ cmp_1_v) (.d (.lit (.int .i64 r)))) (h : eJ x_0 cmp_1 = some r) : fQ Try.prog 92 [.d (.lit x_0_v), .fn cmp_1_f cmp_1_v] [.arr x_0_v 42 5 (x_0.map aB)] (fun r' o' => r' = .tup [] ∧ o' = [.arr x_0_v 42 5 (r.map aB)]) := by
 unfold eJ at h
 refine jC Try.func92 rfl (rs := []) Try.results92 Try.ntmps92 (Nat.le_of_ble_eq_true rfl) ?_
 refine aE ?_
 refine tr1 rfl (aD (v := .d (.lit x_0_v)) (aA rfl) rfl rfl) ?_
 refine tr1 rfl (aD (v := .d (.lit x_0_v)) (aA rfl) rfl rfl) ?_
 refine tr1 rfl (lR (m := 0) (aA rfl) rfl rfl bP.of) ?_
 refine tr1 rfl (aD (v := .fn cmp_1_f cmp_1_v) (aA rfl) rfl rfl) ?_
 obtain ⟨r1, h2, h⟩ := bind_some h
 refine bR rfl (dQ (passed := [.arr x_0_v 42 5 (x_0.map aB)]) (aA rfl) rfl (.func _ _ Try.call106) rfl rfl (qB x_0 (x_0.length : Int) cmp_1 cmp_1_f cmp_1_v cmp_1_e cmp_1_h h2)) ?_
 rintro _ ⟨_, _, ⟨rfl, rfl⟩, rfl⟩
 refine aF ?_
 have h := Option.some.inj h
 subst h
 exact ⟨_, [.arr x_0_v 42 5 (r1.map aB)], [], _, .none, .refl _, .same _, rfl, rfl⟩

theorem aBx (a_0 : aC) (b_1 : aC) {r : Int} (h : oG a_0 b_1 = some r) : Fn Try.prog 93 [.agg (aB a_0), .agg (aB b_1)] (.d (.lit (.int .i64 r))) := by
 unfold oG at h
 refine Fn.of_tr Try.func93 rfl (rs := [.tmp 4]) Try.results93 Try.ntmps93 (Nat.le_of_ble_eq_true rfl) ?_
 refine aG ?_
 refine aE ?_
 refine bR rfl (fX (v := .agg (aB a_0)) (aA rfl) rfl rfl rfl) ?_
 rintro _ ⟨b1, rfl⟩
 refine bR rfl (fX (v := .agg (aB b_1)) (aA rfl) rfl rfl rfl) ?_
 rintro _ ⟨b2, rfl⟩
 refine tr1 rfl (aJ (v := .d (.lit (.int .i64 0))) (aA rfl) rfl rfl) ?_
 refine aF ?_
 refine aG ?_
 refine aE ?_
 refine tr1 rfl (aS (aA rfl) rfl jR) ?_
 refine tr1 rfl (aV (aA rfl) rfl (i := 0) rfl rfl bM) ?_
 refine tr1 rfl (aS (aA rfl) rfl jR) ?_
 refine tr1 rfl (aV (aA rfl) rfl (i := 1) rfl rfl bM) ?_
 refine tr1 rfl (aZ (aA rfl) rfl rfl rfl) ?_
 refine tr1 rfl (aJ (v := .d (.lit (.int .i64 ((w64 (a_0.Id - b_1.Id)))))) (aA rfl) rfl rfl) ?_
 refine aF ?_
 have h := Option.some.inj h
 subst h
 refine cR (cJ (cP (l := [4]) ⟨rfl, trivial⟩)) ?_
 exact bI ⟨rfl, _, .one _, rfl, rfl⟩

theorem tA (s_0 : List aC) {r : (List aC)} {s_0_v : Value} (h : hT s_0 = some r) : fQ Try.prog 94 [.d (.lit s_0_v)] [.arr s_0_v 42 5 (s_0.map aB)] (fun r' o' => ∃ w0 : Value, r' = .d (.lit w0) ∧ o' = [.arr w0 42 5 (r.map aB)]) := by
 unfold hT at h
 refine kQ Try.func94 rfl (rs := [.tmp 2]) Try.results94 Try.ntmps94 (Nat.le_of_ble_eq_true rfl) ?_
 refine aG ?_
 refine aE ?_
 refine tr1 rfl (iL 42 5 (.inl rfl) (aA rfl)) ?_
 refine aF ?_
 refine aG ?_
 refine aG ?_
 refine aE ?_
 refine tr1 rfl (aD (v := .d (.lit s_0_v)) (aA rfl) rfl rfl) ?_
 refine tr1 rfl (lR (m := 0) (aA rfl) rfl rfl bP.of) ?_
 refine tr1 rfl (bC (aA rfl) rfl rfl rfl) ?_
 refine aF ?_
 refine bH rfl (fun c2 => ?_) (fun c2 => ?_)
 ·have h := aU c2 h
  refine aG ?_
  refine aE ?_
  refine tr1 rfl (aD (v := .d (.lit s_0_v)) (aA rfl) rfl rfl) ?_
  refine tr1 rfl (aJ (v := .d (.lit s_0_v)) (aA rfl) rfl rfl) ?_
  refine aF ?_
  have h := Option.some.inj h
  subst h
  exact bI ⟨rfl, _, [.arr s_0_v 42 5 (s_0.map aB)], [.arr (.slice none 0 0) 42 5 (([] : List aC).map aB)], _, .one (.tmp 2 (v := .d (.lit s_0_v)) rfl), .refl _, .same _, s_0_v, rfl, rfl⟩
 ·have h := aT c2 h
  refine bE ?_
  refine aG ?_
  refine aG ?_
  refine aE ?_
  refine tr1 rfl (aJ (v := .d (.lit (.int .i64 1))) (aA rfl) rfl rfl) ?_
  refine aF ?_
  refine bQ ?_
  refine cH [] (fun (s3 : Int × (List aC) × Value) => [(0, .d (.lit s3.2.2)), (3, .d (.lit (.int .i64 s3.1)))]) (fun (s3 : Int × (List aC) × Value) => [.arr s3.2.2 42 5 (s3.2.1.map aB)]) (fun (k : Nat) (s3 : Int × (List aC) × Value) => dH k s3.1 s3.2.1) (fun _ => rfl) (1, s_0, s_0_v) h (aX [0] rfl rfl (aO rfl (aO rfl (aY trivial)))) ?_
  rintro k5 ⟨k_0_3, s_0_3, w4⟩ h
  simp only [dH] at h
  refine aG ?_
  refine aG ?_
  refine aE ?_
  refine tr1 rfl (aD (v := .d (.lit (.int .i64 k_0_3))) (aA rfl) rfl rfl) ?_
  refine tr1 rfl (aD (v := .d (.lit w4)) (aA rfl) rfl rfl) ?_
  refine tr1 rfl (lR (m := 0) (aA rfl) rfl rfl bP.of) ?_
  refine tr1 rfl (bC (aA rfl) rfl rfl rfl) ?_
  refine aF ?_
  refine bH rfl (fun c6 => ?_) (fun c6 => ?_)
  ·have h := aU c6 h
   refine bE ?_
   refine aG ?_
   refine bQ ?_
   refine aG ?_
   obtain ⟨x7, h8, h⟩ := bind_some h
   obtain ⟨x9, h10, h⟩ := bind_some h
   refine fU mix 9 [0, 3] [(19, .agg (aB x7)), (24, .agg (aB x9))] ?_ ?_
   ·refine ⟨[(16, 0, .d (.lit w4)), (17, 1, .d (.lit (.int .i64 k_0_3))), (18, 2, .ep w4 5 k_0_3.toNat 0), (19, 3, .agg (aB x7)), (20, 4, .d (.lit w4)), (21, 5, .d (.lit (.int .i64 k_0_3))), (22, 6, .d (.lit (.int .i64 ((w64 (k_0_3 - 1)))))), (23, 7, .ep w4 5 (w64 (k_0_3 - 1)).toNat 0), (24, 8, .agg (aB x9))], ?_, ?_⟩
    · exact ⟨by kernel_rfl, by kernel_rfl, by kernel_rfl, by kernel_rfl, by kernel_rfl, [([], []), ([], []), ([0, 1], []), ([2], []), ([], []), ([], []), ([5], []), ([4, 6], []), ([7], [])], by kernel_rfl, ⟨fun S hS => aK rfl (aQ rfl (aD (v := .d (.lit w4)) (aA rfl) (aI hS rfl) rfl)),
      fun S hS => aK rfl (aQ rfl (aD (v := .d (.lit (.int .i64 k_0_3))) (aA rfl) (aI hS rfl) rfl)),
      fun S hS => aK rfl (aQ rfl (cE (m := 0) (aA rfl) (aI hS rfl) rfl (aI hS rfl) bP.of (bN aB h8))),
      fun S hS => aK rfl (aQ rfl (dG (aA rfl) (aI hS rfl) (l := 0) rfl (eA aB h8) dR (es := (aB x7)) rfl rfl)),
      fun S hS => aK rfl (aQ rfl (aD (v := .d (.lit w4)) (aA rfl) (aI hS rfl) rfl)),
      fun S hS => aK rfl (aQ rfl (aD (v := .d (.lit (.int .i64 k_0_3))) (aA rfl) (aI hS rfl) rfl)),
      fun S hS => aK rfl (aQ rfl (aZ (aA rfl) (aI hS rfl) rfl rfl)),
      fun S hS => aK rfl (aQ rfl (cE (m := 0) (aA rfl) (aI hS rfl) rfl (aI hS rfl) bP.of (bN aB h10))),
      fun S hS => aK rfl (aQ rfl (dG (aA rfl) (aI hS rfl) (l := 0) rfl (eA aB h10) dR (es := (aB x9)) rfl rfl)), trivial⟩⟩
    · exact dX (aO rfl (aO rfl (aY ⟨rfl, rfl, trivial⟩)))
   ·refine tr1 rfl (aHf (a := x7) (b := x9) (aA rfl) rfl rfl rfl rfl Try.eqGuardType42 vZ) ?_
    refine aF ?_
    refine bH rfl (fun c11 => ?_) (fun c11 => ?_)
    ·have h := aU c11 h
     refine aG ?_
     refine aE ?_
     refine tr1 rfl (aD (v := .d (.lit w4)) (aA rfl) rfl rfl) ?_
     refine tr1 rfl (aD (v := .d (.lit (.int .i64 k_0_3))) (aA rfl) rfl rfl) ?_
     obtain ⟨u12, h13, h⟩ := bind_some h
     refine tr1 rfl (uS (m := 0) (aA rfl) rfl rfl rfl bP.of h13) ?_
     refine tr1 rfl (aJ (v := .d (.lit (lB w4 k_0_3.toNat 5))) (aA rfl) rfl rfl) ?_
     refine aF ?_
     refine aG ?_
     refine aG ?_
     refine aE ?_
     refine tr1 rfl (aJ (v := .d (.lit (.int .i64 1))) (aA rfl) rfl rfl) ?_
     refine aF ?_
     refine bQ ?_
     refine cH [] (fun (s14 : Int × Int × (List aC)) => [(0, .d (.lit w4)), (3, .d (.lit (.int .i64 s14.1))), (4, .d (.lit (lB w4 k_0_3.toNat 5))), (5, .d (.lit (.int .i64 s14.2.1)))]) (fun (s14 : Int × Int × (List aC)) => [.arr w4 42 5 (s14.2.2.map aB)]) (fun (k : Nat) (s14 : Int × Int × (List aC)) => eB (dH k5) k_0_3 k s14.1 s14.2.1 s14.2.2) (fun _ => rfl) (k_0_3, 1, s_0_3) h (aX [0] rfl rfl (aO rfl (aO rfl (aO rfl (aO rfl (aY trivial)))))) ?_
     rintro k15 ⟨k_2_14, k2_2_14, s_2_14⟩ h
     simp only [eB] at h
     refine aG ?_
     refine aG ?_
     refine aE ?_
     refine tr1 rfl (aD (v := .d (.lit (.int .i64 k2_2_14))) (aA rfl) rfl rfl) ?_
     refine tr1 rfl (aD (v := .d (.lit (lB w4 k_0_3.toNat 5))) (aA rfl) rfl rfl) ?_
     refine tr1 rfl (aFd (m := 0) (aA rfl) rfl rfl bP.of) ?_
     refine tr1 rfl (bC (aA rfl) rfl rfl rfl) ?_
     refine aF ?_
     refine bH rfl (fun c16 => ?_) (fun c16 => ?_)
     ·have h := aU c16 h
      refine bE ?_
      refine aG ?_
      refine bQ ?_
      refine aG ?_
      obtain ⟨x17, h18, h⟩ := bind_some h
      obtain ⟨x19, h20, h⟩ := bind_some h
      refine fU mix 9 [0, 3, 4, 5] [(38, .agg (aB x17)), (43, .agg (aB x19))] ?_ ?_
      ·refine ⟨[(35, 0, .d (.lit (lB w4 k_0_3.toNat 5))), (36, 1, .d (.lit (.int .i64 k2_2_14))), (37, 2, .ep w4 5 (k_0_3.toNat + k2_2_14.toNat) 0), (38, 3, .agg (aB x17)), (39, 4, .d (.lit (lB w4 k_0_3.toNat 5))), (40, 5, .d (.lit (.int .i64 k2_2_14))), (41, 6, .d (.lit (.int .i64 ((w64 (k2_2_14 - 1)))))), (42, 7, .ep w4 5 (k_0_3.toNat + (w64 (k2_2_14 - 1)).toNat) 0), (43, 8, .agg (aB x19))], ?_, ?_⟩
       · exact ⟨by kernel_rfl, by kernel_rfl, by kernel_rfl, by kernel_rfl, by kernel_rfl, [([], []), ([], []), ([0, 1], []), ([2], []), ([], []), ([], []), ([5], []), ([4, 6], []), ([7], [])], by kernel_rfl, ⟨fun S hS => aK rfl (aQ rfl (aD (v := .d (.lit (lB w4 k_0_3.toNat 5))) (aA rfl) (aI hS rfl) rfl)),
      fun S hS => aK rfl (aQ rfl (aD (v := .d (.lit (.int .i64 k2_2_14))) (aA rfl) (aI hS rfl) rfl)),
      fun S hS => aK rfl (aQ rfl (vQ (m := 0) (aA rfl) (aI hS rfl) rfl (aI hS rfl) bP.of (uU (f := aB) h18))),
      fun S hS => aK rfl (aQ rfl (dG (aA rfl) (aI hS rfl) (l := 0) rfl (aBe aB h18) dR (es := (aB x17)) rfl rfl)),
      fun S hS => aK rfl (aQ rfl (aD (v := .d (.lit (lB w4 k_0_3.toNat 5))) (aA rfl) (aI hS rfl) rfl)),
      fun S hS => aK rfl (aQ rfl (aD (v := .d (.lit (.int .i64 k2_2_14))) (aA rfl) (aI hS rfl) rfl)),
      fun S hS => aK rfl (aQ rfl (aZ (aA rfl) (aI hS rfl) rfl rfl)),
      fun S hS => aK rfl (aQ rfl (vQ (m := 0) (aA rfl) (aI hS rfl) rfl (aI hS rfl) bP.of (uU (f := aB) h20))),
      fun S hS => aK rfl (aQ rfl (dG (aA rfl) (aI hS rfl) (l := 0) rfl (aBe aB h20) dR (es := (aB x19)) rfl rfl)), trivial⟩⟩
       · exact dX (aO rfl (aO rfl (aY ⟨rfl, rfl, rfl, rfl, trivial⟩)))
      ·refine tr1 rfl (aAp (a := x17) (b := x19) (aA rfl) rfl rfl rfl rfl Try.eqGuardType42 vZ) ?_
       refine aF ?_
       refine bH rfl (fun c21 => ?_) (fun c21 => ?_)
       ·have h := aU c21 h
        refine aG ?_
        refine aE ?_
        refine tr1 rfl (aD (v := .d (.lit w4)) (aA rfl) rfl rfl) ?_
        refine tr1 rfl (aD (v := .d (.lit (.int .i64 k_2_14))) (aA rfl) rfl rfl) ?_
        refine tr1 rfl (aD (v := .d (.lit (lB w4 k_0_3.toNat 5))) (aA rfl) rfl rfl) ?_
        refine tr1 rfl (aD (v := .d (.lit (.int .i64 k2_2_14))) (aA rfl) rfl rfl) ?_
        obtain ⟨x22, h23, h⟩ := bind_some h
        refine tr1 rfl (vQ (m := 0) (aA rfl) rfl rfl rfl bP.of (uU (f := aB) h23)) ?_
        refine tr1 rfl (dG (aA rfl) rfl (l := 0) rfl (aBe aB h23) dR (es := (aB x22)) rfl rfl) ?_
        obtain ⟨x24, h25, h⟩ := bind_some h
        refine tr1 rfl (cE (m := 0) (aA rfl) rfl rfl rfl bP.of (bN aB h25)) ?_
        refine tr1 rfl (jG (l := 0) rfl rfl (eA aB h25) rfl rfl rfl Try.sizeOf42 rfl (aA rfl) (Nat.le_of_ble_eq_true rfl) (rows' := ((s_2_14.set k_2_14.toNat x22)).map aB) (mL _ _ _ _ rfl)) ?_
        refine aF ?_
        refine aE ?_
        refine tr1 rfl (aD (v := .d (.lit (.int .i64 k_2_14))) (aA rfl) rfl rfl) ?_
        refine tr1 rfl (aZ (aA rfl) rfl rfl rfl) ?_
        refine tr1 rfl (aJ (v := .d (.lit (.int .i64 ((w64 (k_2_14 + 1)))))) (aA rfl) rfl rfl) ?_
        refine eC ?_
        refine aE ?_
        refine tr1 rfl (aD (v := .d (.lit (.int .i64 k2_2_14))) (aA rfl) rfl rfl) ?_
        refine tr1 rfl (aZ (aA rfl) rfl rfl rfl) ?_
        refine tr1 rfl (aJ (v := .d (.lit (.int .i64 ((w64 (k2_2_14 + 1)))))) (aA rfl) rfl rfl) ?_
        refine aF ?_
        exact ⟨(w64 (k_2_14 + 1), w64 (k2_2_14 + 1), (s_2_14.set k_2_14.toNat x22)), h, aX [0] rfl rfl (aO rfl (aO rfl (aO rfl (aO rfl (aY trivial)))))⟩
       ·have h := aT c21 h
        refine eF ?_
        refine aE ?_
        refine tr1 rfl (aD (v := .d (.lit (.int .i64 k2_2_14))) (aA rfl) rfl rfl) ?_
        refine tr1 rfl (aZ (aA rfl) rfl rfl rfl) ?_
        refine tr1 rfl (aJ (v := .d (.lit (.int .i64 ((w64 (k2_2_14 + 1)))))) (aA rfl) rfl rfl) ?_
        refine aF ?_
        exact ⟨(k_2_14, w64 (k2_2_14 + 1), s_2_14), h, aX [0] rfl rfl (aO rfl (aO rfl (aO rfl (aO rfl (aY trivial)))))⟩
     ·have h := aT c16 h
      refine cQ ?_
      refine .inl ⟨rfl, ?_⟩
      simp only [kO] at h
      refine aG ?_
      refine aE ?_
      refine tr1 rfl (aD (v := .d (.lit w4)) (aA rfl) rfl rfl) ?_
      refine tr1 rfl (aD (v := .d (.lit (.int .i64 k_2_14))) (aA rfl) rfl rfl) ?_
      obtain ⟨u26, h27, h⟩ := bind_some h
      refine tr1 rfl (uS (m := 0) (aA rfl) rfl rfl rfl bP.of h27) ?_
      obtain ⟨u28, h29, h⟩ := bind_some h
      refine tr1 rfl (aDd (f := aB) (m := 0) bP rfl rfl h29 (by decide)) ?_
      refine aF ?_
      refine aG ?_
      refine aE ?_
      refine tr1 rfl (aD (v := .d (.lit w4)) (aA rfl) rfl rfl) ?_
      refine tr1 rfl (aD (v := .d (.lit (.int .i64 k_2_14))) (aA rfl) rfl rfl) ?_
      obtain ⟨u30, h31, h⟩ := bind_some h
      refine tr1 rfl (nP (m := 0) (q := k_2_14.toNat) (v := w4) (aA rfl) rfl rfl rfl rfl (vS h31) bP.of) ?_
      refine tr1 rfl (aJ (v := .d (.lit (fG w4 k_2_14.toNat))) (aA rfl) rfl rfl) ?_
      refine aF ?_
      have h := Option.some.inj h
      subst h
      exact bI ⟨rfl, _, [.arr (fG w4 k_2_14.toNat) 42 5 ((s_2_14.take k_2_14.toNat).map aB)], [], _, .one (.tmp 2 (v := .d (.lit (fG w4 k_2_14.toNat))) rfl), .refl _, .same _, (fG w4 k_2_14.toNat), rfl, rfl⟩
    ·have h := aT c11 h
     refine eF ?_
     simp only [kN] at h
     refine aE ?_
     refine tr1 rfl (aD (v := .d (.lit (.int .i64 k_0_3))) (aA rfl) rfl rfl) ?_
     refine tr1 rfl (aZ (aA rfl) rfl rfl rfl) ?_
     refine tr1 rfl (aJ (v := .d (.lit (.int .i64 ((w64 (k_0_3 + 1)))))) (aA rfl) rfl rfl) ?_
     refine aF ?_
     exact ⟨(w64 (k_0_3 + 1), s_0_3, w4), h, aX [0] rfl rfl (aO rfl (aO rfl (aY trivial)))⟩
  ·have h := aT c6 h
   refine cQ ?_
   refine .inl ⟨rfl, ?_⟩
   simp only [kM] at h
   refine aG ?_
   refine aE ?_
   refine tr1 rfl (aD (v := .d (.lit w4)) (aA rfl) rfl rfl) ?_
   refine tr1 rfl (aJ (v := .d (.lit w4)) (aA rfl) rfl rfl) ?_
   refine aF ?_
   have h := Option.some.inj h
   subst h
   exact bI ⟨rfl, _, [.arr w4 42 5 (s_0_3.map aB)], [], _, .one (.tmp 2 (v := .d (.lit w4)) rfl), .refl _, .same _, w4, rfl, rfl⟩

theorem vN (all_0 : List aC) {r : (List aC) × Bool} (h : lU all_0 = some r) : fQ Try.prog 62 [.d (.sl 5 (all_0.map aB))] [] (fun r' o' => ∃ (w0 : Value), r' = .tup [.d (.lit w0), .d (.lit (.bool r.2))] ∧ o' = [.arr w0 42 5 (r.1.map aB)]) := by
 unfold lU at h
 refine kQ Try.func62 rfl (rs := [.tmp 2, .tmp 3]) Try.results62 Try.ntmps62 (Nat.le_of_ble_eq_true rfl) ?_
 refine aG ?_
 refine aE ?_
 refine tr1 rfl (iL 42 5 (.inl rfl) (aA rfl)) ?_
 refine tr1 rfl (aJ (v := .d (.lit (.bool false))) (aA rfl) rfl rfl) ?_
 refine aF ?_
 refine aG ?_
 refine aE ?_
 refine tr1 rfl (aD (v := .d (.sl 5 (all_0.map aB))) (aA rfl) rfl rfl) ?_
 obtain ⟨r2, h3, h⟩ := bind_some h
 refine bR rfl (pK (aA rfl) (.func _ _ Try.call91) rfl rfl (oB _ h3)) ?_
 rintro _ ⟨v4, rfl⟩
 refine tr1 rfl (aJ (v := .d (.lit v4)) (aA rfl) rfl rfl) ?_
 refine aF ?_
 refine aG ?_
 refine aE ?_
 refine tr1 rfl (aD (v := .d (.lit v4)) (aA rfl) rfl rfl) ?_
 obtain ⟨r7, h8, h⟩ := bind_some h
 refine gJ (aX [1, 0] rfl rfl (le_refl _)) ?_
 refine bR rfl (dQ (passed := [.arr v4 42 5 (r2.map aB)]) (aA rfl) rfl (.func _ _ Try.call92) rfl rfl (lN r2 (fun y5 y6 => oG y5 y6) 93 [] Try.call93 (fun _ _ _ h => aBx _ _ h) h8)) ?_
 rintro _ ⟨_, _, ⟨rfl, rfl⟩, rfl⟩
 refine aF ?_
 refine aG ?_
 refine aE ?_
 refine tr1 rfl (aD (v := .d (.lit v4)) (aA rfl) rfl rfl) ?_
 obtain ⟨r9, h10, h⟩ := bind_some h
 refine bR rfl (dQ (passed := [.arr v4 42 5 (r7.map aB)]) (aA rfl) rfl (.func _ _ Try.call94) rfl rfl (tA r7 h10)) ?_
 rintro _ ⟨_, _, ⟨v11, rfl, rfl⟩, rfl⟩
 refine tr1 rfl (aJ (v := .d (.lit v11)) (aA rfl) rfl rfl) ?_
 refine aF ?_
 refine aG ?_
 refine aG ?_
 refine aE ?_
 refine tr1 rfl (aJ (v := .d (.lit (.int .i64 1))) (aA rfl) rfl rfl) ?_
 refine aF ?_
 refine bQ ?_
 refine cH [4] (fun (s12 : Int) => [(5, .d (.lit (.int .i64 s12)))]) (fun (s12 : Int) => [.arr v11 42 5 (r9.map aB)]) (fun (k : Nat) (s12 : Int) => gR r9 k s12) (fun _ => rfl) (1) h (aX [0] rfl rfl (aO rfl (aY ⟨rfl, trivial⟩))) ?_
 rintro k13 i_0_12 h
 simp only [gR] at h
 refine aG ?_
 refine aG ?_
 refine aE ?_
 refine tr1 rfl (aD (v := .d (.lit (.int .i64 i_0_12))) (aA rfl) rfl rfl) ?_
 refine tr1 rfl (aD (v := .d (.lit v11)) (aA rfl) rfl rfl) ?_
 refine tr1 rfl (lR (m := 0) (aA rfl) rfl rfl bP.of) ?_
 refine tr1 rfl (bC (aA rfl) rfl rfl rfl) ?_
 refine aF ?_
 refine bH rfl (fun c14 => ?_) (fun c14 => ?_)
 ·have h := aU c14 h
  refine bE ?_
  refine aG ?_
  refine bQ ?_
  refine aG ?_
  obtain ⟨x15, h16, h⟩ := bind_some h
  obtain ⟨x17, h18, h⟩ := bind_some h
  refine fU mix 11 [4, 5] [(22, .d (.lit (.int .i64 x15.Id))), (28, .d (.lit (.int .i64 x17.Id)))] ?_ ?_
  ·refine ⟨[(18, 0, .d (.lit v11)), (19, 1, .d (.lit (.int .i64 i_0_12))), (20, 2, .ep v11 5 i_0_12.toNat 0), (21, 3, .ep v11 5 i_0_12.toNat 0), (22, 4, .d (.lit (.int .i64 x15.Id))), (23, 5, .d (.lit v11)), (24, 6, .d (.lit (.int .i64 i_0_12))), (25, 7, .d (.lit (.int .i64 ((w64 (i_0_12 - 1)))))), (26, 8, .ep v11 5 (w64 (i_0_12 - 1)).toNat 0), (27, 9, .ep v11 5 (w64 (i_0_12 - 1)).toNat 0), (28, 10, .d (.lit (.int .i64 x17.Id)))], ?_, ?_⟩
   · exact ⟨by kernel_rfl, by kernel_rfl, by kernel_rfl, by kernel_rfl, by kernel_rfl, [([], []), ([], []), ([0, 1], []), ([2], []), ([3], []), ([], []), ([], []), ([6], []), ([5, 7], []), ([8], []), ([9], [])], by kernel_rfl, ⟨fun S hS => aK rfl (aQ rfl (aD (v := .d (.lit v11)) (aA rfl) (aI hS rfl) rfl)),
      fun S hS => aK rfl (aQ rfl (aD (v := .d (.lit (.int .i64 i_0_12))) (aA rfl) (aI hS rfl) rfl)),
      fun S hS => aK rfl (aQ rfl (cE (m := 0) (aA rfl) (aI hS rfl) rfl (aI hS rfl) bP.of (bN aB h16))),
      fun S hS => aK rfl (aQ rfl (aAn (aA rfl) (aI hS rfl) jR)),
      fun S hS => aK rfl (aQ rfl (aBv (aA rfl) (aI hS rfl) (m := 0) rfl (eA aB h16) rfl bM)),
      fun S hS => aK rfl (aQ rfl (aD (v := .d (.lit v11)) (aA rfl) (aI hS rfl) rfl)),
      fun S hS => aK rfl (aQ rfl (aD (v := .d (.lit (.int .i64 i_0_12))) (aA rfl) (aI hS rfl) rfl)),
      fun S hS => aK rfl (aQ rfl (aZ (aA rfl) (aI hS rfl) rfl rfl)),
      fun S hS => aK rfl (aQ rfl (cE (m := 0) (aA rfl) (aI hS rfl) rfl (aI hS rfl) bP.of (bN aB h18))),
      fun S hS => aK rfl (aQ rfl (aAn (aA rfl) (aI hS rfl) jR)),
      fun S hS => aK rfl (aQ rfl (aBv (aA rfl) (aI hS rfl) (m := 0) rfl (eA aB h18) rfl bM)), trivial⟩⟩
   · exact dX (aO rfl (aO rfl (aY ⟨rfl, rfl, trivial⟩)))
  ·refine tr1 rfl (bC (aA rfl) rfl rfl rfl) ?_
   refine aF ?_
   refine bH rfl (fun c19 => ?_) (fun c19 => ?_)
   ·have h := aU c19 h
    refine aG ?_
    refine aE ?_
    refine tr1 rfl (iL 42 5 (.inl rfl) (aA rfl)) ?_
    refine tr1 rfl (aJ (v := .d (.lit (.bool false))) (aA rfl) rfl rfl) ?_
    refine aF ?_
    have h := Option.some.inj h
    subst h
    refine cR (aX [1, 0] rfl rfl (le_refl _)) ?_
    exact bI ⟨rfl, _, [.arr (.slice none 0 0) 42 5 (([] : List aC).map aB)], [.arr v11 42 5 (r9.map aB)], _, .two (.tmp 2 (v := .d (.lit (.slice none 0 0))) rfl) (.tmp 3 (v := .d (.lit (.bool false))) rfl), .refl _, .same _, (.slice none 0 0), rfl, rfl⟩
   ·have h := aT c19 h
    refine eF ?_
    refine aE ?_
    refine tr1 rfl (aD (v := .d (.lit (.int .i64 i_0_12))) (aA rfl) rfl rfl) ?_
    refine tr1 rfl (aZ (aA rfl) rfl rfl rfl) ?_
    refine tr1 rfl (aJ (v := .d (.lit (.int .i64 ((w64 (i_0_12 + 1)))))) (aA rfl) rfl rfl) ?_
    refine aF ?_
    exact ⟨(w64 (i_0_12 + 1)), h, aX [0] rfl rfl (aO rfl (aY ⟨rfl, trivial⟩))⟩
 ·have h := aT c14 h
  refine cQ ?_
  refine .inl ⟨rfl, ?_⟩
  simp only [uN] at h
  refine aG ?_
  refine aE ?_
  refine tr1 rfl (aD (v := .d (.lit v11)) (aA rfl) rfl rfl) ?_
  refine tr1 rfl (aJ (v := .d (.lit v11)) (aA rfl) rfl rfl) ?_
  refine tr1 rfl (aJ (v := .d (.lit (.bool true))) (aA rfl) rfl rfl) ?_
  refine aF ?_
  have h := Option.some.inj h
  subst h
  exact bI ⟨rfl, _, [.arr v11 42 5 (r9.map aB)], [], _, .two (.tmp 2 (v := .d (.lit v11)) rfl) (.tmp 3 (v := .d (.lit (.bool true))) rfl), .refl _, .same _, v11, rfl, rfl⟩

theorem uH (l_0 : aM) {r : Int} (h : mQ l_0 = some r) : Fn Try.prog 60 [.agg (aN l_0)] (.d (.lit (.int .i64 r))) := by
 unfold mQ at h
 refine Fn.of_tr Try.func60 rfl (rs := [.tmp 2]) Try.results60 Try.ntmps60 (Nat.le_of_ble_eq_true rfl) ?_
 refine aG ?_
 refine aE ?_
 refine bR rfl (fX (v := .agg (aN l_0)) (aA rfl) rfl rfl rfl) ?_
 rintro _ ⟨b1, rfl⟩
 refine tr1 rfl (aJ (v := .d (.lit (.int .i64 0))) (aA rfl) rfl rfl) ?_
 refine aF ?_
 refine aG ?_
 refine aG ?_
 refine aE ?_
 refine tr1 rfl (cS (aA rfl) rfl (i := 0) rfl dZ (es := (aN l_0)) rfl rfl) ?_
 obtain ⟨r2, h3, h⟩ := bind_some h
 refine tr1 rfl (cC (aA rfl) (.func _ _ Try.call89) rfl rfl (BVs.refl _ _) (aAk _ h3) rfl) ?_
 refine tr1 rfl (fO (aA rfl) rfl) ?_
 refine aF ?_
 refine bH rfl (fun c4 => ?_) (fun c4 => ?_)
 ·have h := aU c4 h
  refine aG ?_
  refine aE ?_
  refine tr1 rfl (aJ (v := .d (.lit (.int .i64 40))) (aA rfl) rfl rfl) ?_
  refine aF ?_
  have h := Option.some.inj h
  subst h
  refine cR (cJ (cP (l := [2]) ⟨rfl, trivial⟩)) ?_
  exact bI ⟨rfl, _, .one _, rfl, rfl⟩
 ·have h := aT c4 h
  refine bE ?_
  refine aG ?_
  refine aG ?_
  refine aE ?_
  refine tr1 rfl (aS (aA rfl) rfl dI) ?_
  refine tr1 rfl (aV (aA rfl) rfl (i := 0) rfl rfl fR) ?_
  obtain ⟨r5, h6, h⟩ := bind_some h
  refine bR rfl (dQ (passed := []) (aA rfl) rfl (.func _ _ Try.call62) rfl rfl (vN _ h6)) ?_
  rintro _ ⟨_, _, ⟨w7, rfl, rfl⟩, rfl⟩
  refine tr1 rfl (aD (v := .tup [.d (.lit w7), .d (.lit (.bool r5.2))]) (aA rfl) rfl rfl) ?_
  refine tr1 rfl (dD (aA rfl) rfl rfl) ?_
  refine tr1 rfl (dD (aA rfl) rfl rfl) ?_
  refine tr1 rfl (aJ (v := .d (.lit w7)) (aA rfl) rfl rfl) ?_
  refine tr1 rfl (aJ (v := .d (.lit (.bool r5.2))) (aA rfl) rfl rfl) ?_
  refine aF ?_
  refine aG ?_
  refine aE ?_
  refine tr1 rfl (aD (v := .d (.lit (.bool r5.2))) (aA rfl) rfl rfl) ?_
  refine tr1 rfl (fO (aA rfl) rfl) ?_
  refine aF ?_
  refine bH rfl (fun c8 => ?_) (fun c8 => ?_)
  ·have h := aU c8 h
   refine aG ?_
   refine aE ?_
   refine tr1 rfl (aJ (v := .d (.lit (.int .i64 41))) (aA rfl) rfl rfl) ?_
   refine aF ?_
   have h := Option.some.inj h
   subst h
   refine cR (cJ (cP (l := [2]) ⟨rfl, trivial⟩)) ?_
   exact bI ⟨rfl, _, .one _, rfl, rfl⟩
  ·have h := aT c8 h
   refine bE ?_
   refine aG ?_
   refine aE ?_
   refine tr1 rfl (aJ (v := .d (.lit (.int .i64 0))) (aA rfl) rfl rfl) ?_
   refine aF ?_
   have h := Option.some.inj h
   subst h
   refine cR (cJ (cP (l := [2]) ⟨rfl, trivial⟩)) ?_
   exact bI ⟨rfl, _, .one _, rfl, rfl⟩

theorem aDs (l_0 : aM) {r : (Option bX) × Int} (h : yB l_0 = some r) : fQ Try.prog 80 [.agg (aN l_0)] [] (fun r' o' => ∃ (b : Nat) (w0 : Value), r' = .tup [(match r.1 with | none => .d (.lit (.pointer none)) | some _ => .bp b 0 0), .d (.lit (.int .i64 r.2))] ∧ o' = (match r.1 with | none => [] | some x => [.box b 0 [.lit (.int .i64 x.Ledger.Players), .lit (.int .i64 x.Ledger.Counts), .lit w0, .sl 3 (x.Ledger.Bans.map aH), .sl 3 (x.Ledger.Frozen.map aH)], .arr w0 42 5 (x.Ledger.Reports.map aB)])) := by
 unfold yB at h
 refine kQ Try.func80 rfl (rs := [.tmp 2, .tmp 3]) Try.results80 Try.ntmps80 (Nat.le_of_ble_eq_true rfl) ?_
 refine aG ?_
 refine aE ?_
 refine bR rfl (fX (v := .agg (aN l_0)) (aA rfl) rfl rfl rfl) ?_
 rintro _ ⟨b1, rfl⟩
 refine tr1 rfl (aJ (v := qH cD (none : Option bX)) (aA rfl) rfl rfl) ?_
 refine tr1 rfl (aJ (v := .d (.lit (.int .i64 0))) (aA rfl) rfl rfl) ?_
 refine aF ?_
 refine aG ?_
 refine aG ?_
 refine aE ?_
 refine tr1 rfl (cS (aA rfl) rfl (i := 0) rfl dZ (es := (aN l_0)) rfl rfl) ?_
 obtain ⟨r2, h3, h⟩ := bind_some h
 refine tr1 rfl (cC (aA rfl) (.func _ _ Try.call60) rfl rfl (BVs.refl _ _) (uH _ h3) rfl) ?_
 refine tr1 rfl (aJ (v := .d (.lit (.int .i64 r2))) (aA rfl) rfl rfl) ?_
 refine aF ?_
 refine aG ?_
 refine aE ?_
 refine tr1 rfl (aD (v := .d (.lit (.int .i64 r2))) (aA rfl) rfl rfl) ?_
 refine tr1 rfl (bC (aA rfl) rfl rfl rfl) ?_
 refine aF ?_
 refine bH rfl (fun c4 => ?_) (fun c4 => ?_)
 ·have h := aU c4 h
  refine aG ?_
  refine aE ?_
  refine tr1 rfl (aD (v := .d (.lit (.int .i64 r2))) (aA rfl) rfl rfl) ?_
  refine tr1 rfl (aJ (v := qH cD (none : Option bX)) (aA rfl) rfl rfl) ?_
  refine tr1 rfl (aJ (v := .d (.lit (.int .i64 r2))) (aA rfl) rfl rfl) ?_
  refine aF ?_
  have h := Option.some.inj h
  subst h
  exact bI ⟨rfl, _, [], [.box b1 0 (aN l_0)], _, .two (.tmp 2 (v := qH cD (none : Option bX)) rfl) (.tmp 3 (v := .d (.lit (.int .i64 r2))) rfl), .refl _, .same _, 0, undef, rfl, rfl⟩
 ·have h := aT c4 h
  refine bE ?_
  refine aG ?_
  refine aE ?_
  refine tr1 rfl (aS (aA rfl) rfl dI) ?_
  refine tr1 rfl (aV (aA rfl) rfl (i := 0) rfl rfl fR) ?_
  obtain ⟨r5, h6, h⟩ := bind_some h
  refine bR rfl (dQ (passed := []) (aA rfl) rfl (.func _ _ Try.call62) rfl rfl (vN _ h6)) ?_
  rintro _ ⟨_, _, ⟨w7, rfl, rfl⟩, rfl⟩
  refine tr1 rfl (aD (v := .tup [.d (.lit w7), .d (.lit (.bool r5.2))]) (aA rfl) rfl rfl) ?_
  refine tr1 rfl (dD (aA rfl) rfl rfl) ?_
  refine tr1 rfl (dD (aA rfl) rfl rfl) ?_
  refine tr1 rfl (aS (aA rfl) rfl dI) ?_
  refine tr1 rfl (bO (i := 1) rfl rfl rfl rfl rfl Try.sizeOf22 rfl (aA rfl) (Nat.le_of_ble_eq_true rfl) (ds' := [.lit (.int .i64 l_0.Players), .lit (.int .i64 l_0.Counts), .lit w7, .sl 3 (l_0.Bans.map aH), .sl 3 (l_0.Frozen.map aH)]) rfl) ?_
  refine aF ?_
  refine aG ?_
  refine aE ?_
  refine tr1 rfl (cS (aA rfl) rfl (i := 1) rfl dZ (es := [.lit (.int .i64 l_0.Players), .lit (.int .i64 l_0.Counts), .lit w7, .sl 3 (l_0.Bans.map aH), .sl 3 (l_0.Frozen.map aH)]) rfl rfl) ?_
  refine tr1 rfl (iB (aA rfl) aIz (zs := [.lit (.int .i64 0), .lit (.int .i64 0), .sl 5 ((([] : List aC)).map aB), .sl 3 ((([] : List aL)).map aH), .sl 3 ((([] : List aL)).map aH)]) rfl rfl rfl rfl (es := [.lit (.int .i64 l_0.Players), .lit (.int .i64 l_0.Counts), .lit w7, .sl 3 (l_0.Bans.map aH), .sl 3 (l_0.Frozen.map aH)]) rfl) ?_
  refine bR rfl (fX (v := .agg [.lit (.int .i64 l_0.Players), .lit (.int .i64 l_0.Counts), .lit w7, .sl 3 (l_0.Bans.map aH), .sl 3 (l_0.Frozen.map aH)]) (aA rfl) rfl rfl rfl) ?_
  rintro _ ⟨b8, rfl⟩
  refine tr1 rfl (aJ (v := .bp b8 0 0) (aA rfl) rfl rfl) ?_
  refine tr1 rfl (aJ (v := .d (.lit (.int .i64 0))) (aA rfl) rfl rfl) ?_
  refine aF ?_
  have h := Option.some.inj h
  subst h
  refine cR (aX [2, 0, 1] rfl rfl (le_refl _)) ?_
  exact bI ⟨rfl, _, [.box b8 0 [.lit (.int .i64 l_0.Players), .lit (.int .i64 l_0.Counts), .lit w7, .sl 3 (l_0.Bans.map aH), .sl 3 (l_0.Frozen.map aH)], .arr w7 42 5 (r5.1.map aB)], [.box b1 0 [.lit (.int .i64 l_0.Players), .lit (.int .i64 l_0.Counts), .lit w7, .sl 3 (l_0.Bans.map aH), .sl 3 (l_0.Frozen.map aH)]], _, .two (.tmp 2 (v := .bp b8 0 0) rfl) (.tmp 3 (v := .d (.lit (.int .i64 0))) rfl), .refl _, .same _, b8, w7, rfl, rfl⟩

end Go.Am
