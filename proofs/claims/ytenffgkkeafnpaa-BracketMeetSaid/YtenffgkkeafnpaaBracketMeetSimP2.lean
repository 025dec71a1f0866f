/- The functions compute what the shallow ones say: printed by program. -/
import Derived.Test.YtenffgkkeafnpaaBracketMeetSimP1
namespace Go.Am
open Go.Proofs
set_option maxRecDepth 100000
set_option maxHeartbeats 4000000

theorem rF (d_0 : bB) (m_1 : aB) (side_2 : Int) {r : Int} (h : jN d_0 m_1 side_2 = some r) : Fn Try.prog 74 [.cp (aX d_0), .agg (aK m_1), .d (.lit (.int .i64 side_2))] (.d (.lit (.int .i64 r))) := by
 unfold jN at h
 refine Fn.of_tr Try.func74 rfl (rs := [.tmp 6]) Try.results74 Try.ntmps74 (Nat.le_of_ble_eq_true rfl) ?_
 refine aG ?_
 refine aD ?_
 refine cD rfl (gF (v := .agg (aK m_1)) (aA rfl) rfl rfl rfl) ?_
 rintro _ ⟨b1, rfl⟩
 refine tr1 rfl (aJ (v := .d (.lit (.int .i64 0))) (aA rfl) rfl rfl) ?_
 refine aF ?_
 refine aG ?_
 refine aD ?_
 refine tr1 rfl (aV (aA rfl) rfl aEg) ?_
 refine tr1 rfl (aW (aA rfl) rfl (i := 0) rfl rfl bF) ?_
 refine tr1 rfl (bO (aA rfl) rfl rfl rfl) ?_
 refine tr1 rfl (aC (v := .d (.lit (.int .i64 side_2))) (aA rfl) rfl rfl) ?_
 refine tr1 rfl (bO (aA rfl) rfl rfl rfl) ?_
 refine tr1 rfl (aJ (v := .d (.lit (.int .i64 ((w64 ((w64 (2 * m_1.place)) + side_2)))))) (aA rfl) rfl rfl) ?_
 refine aF ?_
 refine aG ?_
 refine aG ?_
 refine aD ?_
 refine tr1 rfl (aV (aA rfl) rfl nW) ?_
 refine tr1 rfl (aW (aA rfl) rfl (i := 0) rfl rfl bF) ?_
 refine tr1 rfl (bG (aA rfl) rfl rfl rfl) ?_
 refine aF ?_
 refine bU rfl (fun c2 => ?_) (fun c2 => ?_)
 ·have h := aZ c2 h
  refine aG ?_
  refine aD ?_
  refine tr1 rfl (aC (v := .cp [.lit (.int .i64 d_0.Tree.Rounds), .sl 1 (d_0.Tree.Slots.map aP), .sl 1 (d_0.players.map aP), .mp false (d_0.won.map fun p : aB × Int => ((fun a : aB => Value.agg ((aK a).map bK).toArray) p.1, aP p.2))]) (aA rfl) rfl rfl) ?_
  refine tr1 rfl (iE (aA rfl) rfl) ?_
  refine tr1 rfl (cI (aA rfl) rfl lF (es := [.sl 1 (d_0.players.map aP)]) rfl) ?_
  refine tr1 rfl (bM (aA rfl) rfl dJ) ?_
  refine tr1 rfl (aC (v := .d (.lit (.int .i64 ((w64 ((w64 (2 * m_1.place)) + side_2)))))) (aA rfl) rfl rfl) ?_
  obtain ⟨x3, h4, h⟩ := bind_some h
  refine tr1 rfl (bL (aA rfl) rfl rfl bX.of (bS aP h4)) ?_
  refine tr1 rfl (bM (aA rfl) rfl bF) ?_
  refine tr1 rfl (aJ (v := .d (.lit (.int .i64 x3))) (aA rfl) rfl rfl) ?_
  refine aF ?_
  have h := Option.some.inj h
  subst h
  refine cV (cU (cW (l := [6]) ⟨rfl, trivial⟩)) ?_
  exact bQ ⟨rfl, _, .one _, rfl, rfl⟩
 ·have h := aY c2 h
  refine bR ?_
  refine aG ?_
  refine aG ?_
  refine dW mix 14 [] [(8, .d (.lit (.int .i64 ((cP (aB.mk (w64 (m_1.round - 1)) (w64 ((w64 (2 * m_1.place)) + side_2))) 0 d_0.won))))), (37, .d (.lit (.bool ((cY (aB.mk (w64 (m_1.round - 1)) (w64 ((w64 (2 * m_1.place)) + side_2))) d_0.won)))))] ?_ ?_
  ·refine ⟨[(26, 0, .cp [.lit (.int .i64 d_0.Tree.Rounds), .sl 1 (d_0.Tree.Slots.map aP), .sl 1 (d_0.players.map aP), .mp false (d_0.won.map fun p : aB × Int => ((fun a : aB => Value.agg ((aK a).map bK).toArray) p.1, aP p.2))]), (27, 1, .cp [.lit (.int .i64 d_0.Tree.Rounds), .sl 1 (d_0.Tree.Slots.map aP), .sl 1 (d_0.players.map aP), .mp false (d_0.won.map fun p : aB × Int => ((fun a : aB => Value.agg ((aK a).map bK).toArray) p.1, aP p.2))]), (28, 2, .cp [.mp false (d_0.won.map fun p : aB × Int => ((fun a : aB => Value.agg ((aK a).map bK).toArray) p.1, aP p.2))]), (29, 3, .d (.mp false (d_0.won.map fun p : aB × Int => ((fun a : aB => Value.agg ((aK a).map bK).toArray) p.1, aP p.2)))), (30, 4, .bp b1 0 0), (31, 5, .d (.lit (.int .i64 m_1.round))), (32, 6, .d (.lit (.int .i64 ((w64 (m_1.round - 1)))))), (33, 7, .d (.lit (.int .i64 ((w64 ((w64 (2 * m_1.place)) + side_2)))))), (34, 8, .agg (aK (aB.mk (w64 (m_1.round - 1)) (w64 ((w64 (2 * m_1.place)) + side_2))))), (35, 9, .tup [.d (.lit (.int .i64 ((cP (aB.mk (w64 (m_1.round - 1)) (w64 ((w64 (2 * m_1.place)) + side_2))) 0 d_0.won)))), .d (.lit (.bool ((cY (aB.mk (w64 (m_1.round - 1)) (w64 ((w64 (2 * m_1.place)) + side_2))) d_0.won))))]), (25, 10, .tup [.d (.lit (.int .i64 ((cP (aB.mk (w64 (m_1.round - 1)) (w64 ((w64 (2 * m_1.place)) + side_2))) 0 d_0.won)))), .d (.lit (.bool ((cY (aB.mk (w64 (m_1.round - 1)) (w64 ((w64 (2 * m_1.place)) + side_2))) d_0.won))))]), (36, 11, .d (.lit (.int .i64 ((cP (aB.mk (w64 (m_1.round - 1)) (w64 ((w64 (2 * m_1.place)) + side_2))) 0 d_0.won))))), (37, 12, .d (.lit (.bool ((cY (aB.mk (w64 (m_1.round - 1)) (w64 ((w64 (2 * m_1.place)) + side_2))) d_0.won))))), (8, 13, .d (.lit (.int .i64 ((cP (aB.mk (w64 (m_1.round - 1)) (w64 ((w64 (2 * m_1.place)) + side_2))) 0 d_0.won)))))], ?_, ?_⟩
   · exact ⟨by kernel_rfl, by kernel_rfl, by kernel_rfl, by kernel_rfl, by kernel_rfl, [([], []), ([0], []), ([1], []), ([2], []), ([], []), ([4], []), ([5], []), ([], []), ([6, 7], []), ([3, 8], []), ([9], []), ([10], []), ([10], []), ([11], [])], by kernel_rfl, ⟨fun S hS => aH rfl (aS rfl (aC (v := .cp [.lit (.int .i64 d_0.Tree.Rounds), .sl 1 (d_0.Tree.Slots.map aP), .sl 1 (d_0.players.map aP), .mp false (d_0.won.map fun p : aB × Int => ((fun a : aB => Value.agg ((aK a).map bK).toArray) p.1, aP p.2))]) (aA rfl) (aI hS rfl) rfl)),
      fun S hS => aH rfl (aS rfl (iE (aA rfl) (aI hS rfl))),
      fun S hS => aH rfl (aS rfl (cI (aA rfl) (aI hS rfl) rP (es := [.mp false (d_0.won.map fun p : aB × Int => ((fun a : aB => Value.agg ((aK a).map bK).toArray) p.1, aP p.2))]) rfl)),
      fun S hS => aH rfl (aS rfl (bM (aA rfl) (aI hS rfl) vH)),
      fun S hS => aH rfl (aS rfl (aV (aA rfl) (aI hS rfl) nW)),
      fun S hS => aH rfl (aS rfl (aW (aA rfl) (aI hS rfl) (i := 0) rfl rfl bF)),
      fun S hS => aH rfl (aS rfl (bO (aA rfl) (aI hS rfl) rfl rfl)),
      fun S hS => aH rfl (aS rfl (aC (v := .d (.lit (.int .i64 ((w64 ((w64 (2 * m_1.place)) + side_2)))))) (aA rfl) (aI hS rfl) rfl)),
      fun S hS => aH rfl (aS rfl (eZ (aA rfl) vN (zs := [.lit (.int .i64 0), .lit (.int .i64 0)]) rfl rfl rfl (pa2 (aI hS rfl) (pa2 (aI hS rfl) pan)) (es := [.lit (.int .i64 ((w64 (m_1.round - 1)))), .lit (.int .i64 ((w64 ((w64 (2 * m_1.place)) + side_2))))]) rfl)),
      fun S hS => aH rfl (aS rfl (sS (enc := aP) (agg := false) (l := d_0.won) (z := 0) (a := (aB.mk (w64 (m_1.round - 1)) (w64 ((w64 (2 * m_1.place)) + side_2)))) (aA rfl) tR Try.underlying73 Try.zeroValue3 (fun _ _ => .d (.lit _ rfl)) (aI hS rfl) rfl rfl (aI hS rfl) (lN (enc := aK) (aB.mk (w64 (m_1.round - 1)) (w64 ((w64 (2 * m_1.place)) + side_2))) rfl))),
      fun S hS => aH rfl (aS rfl (aC (v := .tup [.d (.lit (.int .i64 ((cP (aB.mk (w64 (m_1.round - 1)) (w64 ((w64 (2 * m_1.place)) + side_2))) 0 d_0.won)))), .d (.lit (.bool ((cY (aB.mk (w64 (m_1.round - 1)) (w64 ((w64 (2 * m_1.place)) + side_2))) d_0.won))))]) (aA rfl) (aI hS rfl) rfl)),
      fun S hS => aH rfl (aS rfl (bW (aA rfl) (aI hS rfl) rfl)),
      fun S hS => aH rfl (aS rfl (bW (aA rfl) (aI hS rfl) rfl)),
      fun S hS => aH rfl (aS rfl (aJ (v := .d (.lit (.int .i64 ((cP (aB.mk (w64 (m_1.round - 1)) (w64 ((w64 (2 * m_1.place)) + side_2))) 0 d_0.won))))) (aA rfl) (aI hS rfl) rfl)), trivial⟩⟩
   · exact dE (aU rfl (aU rfl (bC trivial)))
  ·refine tr1 rfl (aJ (v := .d (.lit (.bool ((cY (aB.mk (w64 (m_1.round - 1)) (w64 ((w64 (2 * m_1.place)) + side_2))) d_0.won))))) (aA rfl) rfl rfl) ?_
   refine aF ?_
   refine aG ?_
   refine aD ?_
   refine tr1 rfl (aC (v := .d (.lit (.bool ((cY (aB.mk (w64 (m_1.round - 1)) (w64 ((w64 (2 * m_1.place)) + side_2))) d_0.won))))) (aA rfl) rfl rfl) ?_
   refine aF ?_
   refine bU rfl (fun c5 => ?_) (fun c5 => ?_)
   ·have h := aZ c5 h
    refine aG ?_
    refine aD ?_
    refine tr1 rfl (aC (v := .d (.lit (.int .i64 ((cP (aB.mk (w64 (m_1.round - 1)) (w64 ((w64 (2 * m_1.place)) + side_2))) 0 d_0.won))))) (aA rfl) rfl rfl) ?_
    refine tr1 rfl (aJ (v := .d (.lit (.int .i64 ((cP (aB.mk (w64 (m_1.round - 1)) (w64 ((w64 (2 * m_1.place)) + side_2))) 0 d_0.won))))) (aA rfl) rfl rfl) ?_
    refine aF ?_
    have h := Option.some.inj h
    subst h
    refine cV (cU (cW (l := [6]) ⟨rfl, trivial⟩)) ?_
    exact bQ ⟨rfl, _, .one _, rfl, rfl⟩
   ·have h := aY c5 h
    refine bR ?_
    refine aG ?_
    refine aD ?_
    refine tr1 rfl (aJ (v := .d (.lit (.int .i64 (-2)))) (aA rfl) rfl rfl) ?_
    refine aF ?_
    have h := Option.some.inj h
    subst h
    refine cV (cU (cW (l := [6]) ⟨rfl, trivial⟩)) ?_
    exact bQ ⟨rfl, _, .one _, rfl, rfl⟩

theorem uT {S : Type} (J : S → MO → Prop) (ly : Nat) (yield_1 : S → aB → cF → Option S) (hy : ∀ (s : S) (m : MO) (x0 : aB) (x1 : cF) (s' : S), J s m → yield_1 s x0 x1 = some s' → xC Try.prog ly [.agg (aK x0), .agg (bJ x1)] m (J s')) (d_0 : bB) (sy : S) (m0 : MO) (hj : J sy m0) {r : S} (h : jF d_0 yield_1 sy = some r) : eR Try.prog 56 [.cp (aX d_0), .d (.lit (yv ly))] [m0] (fun _ o' => ∃ m', J r m' ∧ o' = [m']) := by
 unfold jF at h
 refine aFl Try.func56 rfl (rs := []) Try.results56 Try.ntmps56 (Nat.le_of_ble_eq_true rfl) ?_
 refine aG ?_
 refine aD ?_
 refine tr1 rfl (aC (v := .cp [.lit (.int .i64 d_0.Tree.Rounds), .sl 1 (d_0.Tree.Slots.map aP), .sl 1 (d_0.players.map aP), .mp false (d_0.won.map fun p : aB × Int => ((fun a : aB => Value.agg ((aK a).map bK).toArray) p.1, aP p.2))]) (aA rfl) rfl rfl) ?_
 refine tr1 rfl (iE (aA rfl) rfl) ?_
 refine tr1 rfl (cI (aA rfl) rfl nX (es := [.lit (.int .i64 d_0.Tree.Rounds), .sl 1 (d_0.Tree.Slots.map aP)]) rfl) ?_
 refine tr1 rfl (cI (aA rfl) rfl iH (es := [.lit (.int .i64 d_0.Tree.Rounds)]) rfl) ?_
 refine tr1 rfl (bM (aA rfl) rfl bF) ?_
 refine tr1 rfl (aC (v := .d (.lit (.int .i64 0))) (aA rfl) rfl rfl) ?_
 refine aF ?_
 refine cG ?_
 refine dO [0, 1, 11] (fun (s1 : Int × ({x : S × MO // J x.1 x.2})) => [(12, .d (.lit (.int .i64 s1.1)))]) (fun (s1 : Int × ({x : S × MO // J x.1 x.2})) => [s1.2.1.2]) (fun (k : Nat) (s1 : Int × ({x : S × MO // J x.1 x.2})) => dC yield_1 d_0 d_0.Tree.Rounds k s1.1 s1.2.1.1) (fun _ => rfl) (0, ⟨(sy, m0), hj⟩) h (bE [0] rfl rfl (aU rfl (bC ⟨rfl, rfl, rfl, trivial⟩))) ?_
 rintro k3 ⟨t12_0_1, y2⟩ h
 simp only [dC] at h
 refine aG ?_
 refine aD ?_
 refine tr1 rfl (bG (aA rfl) rfl rfl rfl) ?_
 refine aF ?_
 refine aG ?_
 refine bU rfl (fun c4 => ?_) (fun c4 => ?_)
 ·have h := aZ c4 h
  refine bR ?_
  refine aG ?_
  refine cG ?_
  refine aG ?_
  refine aD ?_
  refine tr1 rfl (aC (v := .d (.lit (.int .i64 t12_0_1))) (aA rfl) rfl rfl) ?_
  refine tr1 rfl (aJ (v := .d (.lit (.int .i64 t12_0_1))) (aA rfl) rfl rfl) ?_
  refine aF ?_
  refine aG ?_
  refine aD ?_
  refine tr1 rfl (aC (v := .cp [.lit (.int .i64 d_0.Tree.Rounds), .sl 1 (d_0.Tree.Slots.map aP), .sl 1 (d_0.players.map aP), .mp false (d_0.won.map fun p : aB × Int => ((fun a : aB => Value.agg ((aK a).map bK).toArray) p.1, aP p.2))]) (aA rfl) rfl rfl) ?_
  refine tr1 rfl (iE (aA rfl) rfl) ?_
  refine tr1 rfl (cI (aA rfl) rfl nX (es := [.lit (.int .i64 d_0.Tree.Rounds), .sl 1 (d_0.Tree.Slots.map aP)]) rfl) ?_
  refine tr1 rfl (cI (aA rfl) rfl dV (es := [.sl 1 (d_0.Tree.Slots.map aP)]) rfl) ?_
  refine tr1 rfl (bM (aA rfl) rfl dJ) ?_
  refine tr1 rfl (eI (aA rfl) rfl bX.of) ?_
  refine tr1 rfl (aC (v := .d (.lit (.int .i64 t12_0_1))) (aA rfl) rfl rfl) ?_
  refine tr1 rfl (bO (aA rfl) rfl rfl rfl) ?_
  obtain ⟨u5, h6, h⟩ := bind_some h
  refine tr1 rfl (tA (aA rfl) rfl rfl (pW h6)) ?_
  refine tr1 rfl (aC (v := .d (.lit (.int .i64 0))) (aA rfl) rfl rfl) ?_
  refine aF ?_
  refine yV ?_
  refine dO [0, 1, 4, 11, 12, 23] (fun (s7 : Int × ({x : S × MO // J x.1 x.2})) => [(24, .d (.lit (.int .i64 s7.1)))]) (fun (s7 : Int × ({x : S × MO // J x.1 x.2})) => [s7.2.1.2]) (fun (k : Nat) (s7 : Int × ({x : S × MO // J x.1 x.2})) => eM yield_1 (dC yield_1 d_0 d_0.Tree.Rounds k3) d_0 t12_0_1 d_0.Tree.Rounds t12_0_1 ((d_0.Tree.Slots.length : Int).fdiv (2 ^ (min (w64 (t12_0_1 + 1)).toNat 64))) k s7.1 s7.2.1.1) (fun _ => rfl) (0, ⟨(y2.1.1, y2.1.2), y2.2⟩) h (bE [0] rfl rfl (aU rfl (bC ⟨rfl, rfl, rfl, rfl, rfl, rfl, trivial⟩))) ?_
  rintro k9 ⟨t24_2_7, y8⟩ h
  simp only [eM] at h
  refine aG ?_
  refine aD ?_
  refine tr1 rfl (bG (aA rfl) rfl rfl rfl) ?_
  refine aF ?_
  refine aG ?_
  refine bU rfl (fun c10 => ?_) (fun c10 => ?_)
  ·have h := aZ c10 h
   refine bR ?_
   refine aG ?_
   refine cG ?_
   refine aG ?_
   refine aD ?_
   refine tr1 rfl (aC (v := .d (.lit (.int .i64 t24_2_7))) (aA rfl) rfl rfl) ?_
   refine tr1 rfl (aJ (v := .d (.lit (.int .i64 t24_2_7))) (aA rfl) rfl rfl) ?_
   refine aF ?_
   refine aG ?_
   refine aD ?_
   refine tr1 rfl (aC (v := .d (.lit (.int .i64 t12_0_1))) (aA rfl) rfl rfl) ?_
   refine tr1 rfl (aC (v := .d (.lit (.int .i64 t24_2_7))) (aA rfl) rfl rfl) ?_
   refine tr1 rfl (eZ (aA rfl) vN (zs := [.lit (.int .i64 0), .lit (.int .i64 0)]) rfl rfl rfl rfl (es := [.lit (.int .i64 t12_0_1), .lit (.int .i64 t24_2_7)]) rfl) ?_
   refine cD rfl (eN (zs := [.lit (.int .i64 0), .lit (.int .i64 0)]) (aA rfl) Try.zeroValue70 rfl rfl) ?_
   rintro _ ⟨b11, rfl⟩
   refine tr1 rfl (cO (i := 1) rfl rfl rfl rfl rfl Try.sizeOf70 rfl (aA rfl) (Nat.le_of_ble_eq_true rfl) (ds' := (aK (aB.mk t12_0_1 t24_2_7))) rfl) ?_
   refine aF ?_
   refine aG ?_
   obtain ⟨r12, h13, h⟩ := bind_some h
   obtain ⟨r14, h15, h⟩ := bind_some h
   refine dW mix 11 [0, 1, 4, 11, 12, 23, 24] [(30, .d (.lit (yv ly))), (31, .agg (aK (aB.mk t12_0_1 t24_2_7))), (40, .agg (bJ (cF.mk t12_0_1 t24_2_7 r12 r14)))] ?_ ?_
   ·refine ⟨[(30, 0, .d (.lit (yv ly))), (31, 1, .agg (aK (aB.mk t12_0_1 t24_2_7))), (32, 2, .d (.lit (.int .i64 t12_0_1))), (33, 3, .d (.lit (.int .i64 t24_2_7))), (34, 4, .cp [.lit (.int .i64 d_0.Tree.Rounds), .sl 1 (d_0.Tree.Slots.map aP), .sl 1 (d_0.players.map aP), .mp false (d_0.won.map fun p : aB × Int => ((fun a : aB => Value.agg ((aK a).map bK).toArray) p.1, aP p.2))]), (35, 5, .agg (aK (aB.mk t12_0_1 t24_2_7))), (36, 6, .d (.lit (.int .i64 r12))), (37, 7, .cp [.lit (.int .i64 d_0.Tree.Rounds), .sl 1 (d_0.Tree.Slots.map aP), .sl 1 (d_0.players.map aP), .mp false (d_0.won.map fun p : aB × Int => ((fun a : aB => Value.agg ((aK a).map bK).toArray) p.1, aP p.2))]), (38, 8, .agg (aK (aB.mk t12_0_1 t24_2_7))), (39, 9, .d (.lit (.int .i64 r14))), (40, 10, .agg (bJ (cF.mk t12_0_1 t24_2_7 r12 r14)))], ?_, ?_⟩
    · exact ⟨by kernel_rfl, by kernel_rfl, by kernel_rfl, by kernel_rfl, by kernel_rfl, [([], []), ([], []), ([], []), ([], []), ([], []), ([], []), ([4, 5], []), ([], []), ([], []), ([7, 8], []), ([2, 3, 6, 9], [])], by kernel_rfl, ⟨fun S hS => aH rfl (aS rfl (aC (v := .d (.lit (yv ly))) (aA rfl) (aI hS rfl) rfl)),
      fun S hS => aH rfl (aS rfl (bT (aA rfl) (aI hS rfl) (i := 1) rfl jZ (es := (aK (aB.mk t12_0_1 t24_2_7))) rfl rfl)),
      fun S hS => aH rfl (aS rfl (aC (v := .d (.lit (.int .i64 t12_0_1))) (aA rfl) (aI hS rfl) rfl)),
      fun S hS => aH rfl (aS rfl (aC (v := .d (.lit (.int .i64 t24_2_7))) (aA rfl) (aI hS rfl) rfl)),
      fun S hS => aH rfl (aS rfl (aC (v := .cp [.lit (.int .i64 d_0.Tree.Rounds), .sl 1 (d_0.Tree.Slots.map aP), .sl 1 (d_0.players.map aP), .mp false (d_0.won.map fun p : aB × Int => ((fun a : aB => Value.agg ((aK a).map bK).toArray) p.1, aP p.2))]) (aA rfl) (aI hS rfl) rfl)),
      fun S hS => aH rfl (aS rfl (bT (aA rfl) (aI hS rfl) (i := 1) rfl jZ (es := (aK (aB.mk t12_0_1 t24_2_7))) rfl rfl)),
      fun S hS => aH rfl (aS rfl (cR (aA rfl) (.func _ _ Try.call74) (ev2 (aI hS rfl) (ev2 (aI hS rfl) (ev2 rfl evn))) rfl (BVs.refl _ _) (rF _ _ _ h13) rfl)),
      fun S hS => aH rfl (aS rfl (aC (v := .cp [.lit (.int .i64 d_0.Tree.Rounds), .sl 1 (d_0.Tree.Slots.map aP), .sl 1 (d_0.players.map aP), .mp false (d_0.won.map fun p : aB × Int => ((fun a : aB => Value.agg ((aK a).map bK).toArray) p.1, aP p.2))]) (aA rfl) (aI hS rfl) rfl)),
      fun S hS => aH rfl (aS rfl (bT (aA rfl) (aI hS rfl) (i := 1) rfl jZ (es := (aK (aB.mk t12_0_1 t24_2_7))) rfl rfl)),
      fun S hS => aH rfl (aS rfl (cR (aA rfl) (.func _ _ Try.call74) (ev2 (aI hS rfl) (ev2 (aI hS rfl) (ev2 rfl evn))) rfl (BVs.refl _ _) (rF _ _ _ h15) rfl)),
      fun S hS => aH rfl (aS rfl (eZ (aA rfl) aFa (zs := [.lit (.int .i64 0), .lit (.int .i64 0), .lit (.int .i64 0), .lit (.int .i64 0)]) rfl rfl rfl (pa2 (aI hS rfl) (pa2 (aI hS rfl) (pa2 (aI hS rfl) (pa2 (aI hS rfl) pan)))) (es := [.lit (.int .i64 t12_0_1), .lit (.int .i64 t24_2_7), .lit (.int .i64 r12), .lit (.int .i64 r14)]) rfl)), trivial⟩⟩
    · exact dE (aU rfl (aU rfl (aU rfl (bC ⟨rfl, rfl, rfl, rfl, rfl, rfl, rfl, trivial⟩))))
   ·obtain ⟨y16, h17, h⟩ := bind_some h
    refine aJs rfl (aMi (aA rfl) rfl rfl rfl rfl (hy _ _ _ _ _ y8.2 h17)) ?_
    rintro _ ⟨m18, hj19, rfl⟩
    refine tr1 rfl (gT (aA rfl) rfl) ?_
    refine aF ?_
    refine bU rfl (fun c20 => ?_) (fun c20 => ?_)
    ·exact absurd c20 (by decide)
    ·refine eG ?_
     refine aD ?_
     refine tr1 rfl (bO (aA rfl) rfl rfl rfl) ?_
     refine tr1 rfl (aC (v := .d (.lit (.int .i64 ((w64 (t24_2_7 + 1)))))) (aA rfl) rfl rfl) ?_
     refine aF ?_
     exact ⟨(w64 (t24_2_7 + 1), ⟨(y16, m18), hj19⟩), h, bE [0] rfl rfl (aU rfl (bC ⟨rfl, rfl, rfl, rfl, rfl, rfl, trivial⟩))⟩
  ·have h := aY c10 h
   refine dA ?_
   refine .inl ⟨rfl, ?_⟩
   simp only [iF] at h
   simp only [mH] at h
   refine aD ?_
   refine tr1 rfl (bO (aA rfl) rfl rfl rfl) ?_
   refine tr1 rfl (aC (v := .d (.lit (.int .i64 ((w64 (t12_0_1 + 1)))))) (aA rfl) rfl rfl) ?_
   refine aF ?_
   exact ⟨(w64 (t12_0_1 + 1), ⟨(y8.1.1, y8.1.2), y8.2⟩), h, bE [0] rfl rfl (aU rfl (bC ⟨rfl, rfl, rfl, trivial⟩))⟩
 ·have h := aY c4 h
  refine dA ?_
  refine .inl ⟨rfl, ?_⟩
  simp only [mG] at h
  have h := Option.some.inj h
  subst h
  exact ⟨_, [y2.1.2], [], _, .none, .refl _, .same _, y2.1.2, y2.2, rfl⟩

theorem aAv (t_0 : aO) (l_1 : List aE) {Q : ((List cF) × Int) → Prop} (h : oB t_0 l_1 Q) : eR Try.prog 30 [.agg (aT t_0), .d (.sl 5 (l_1.map aM))] [] (fun r' o' => ∃ (r : (List cF) × Int), Q r ∧ r' = .tup [.d (.sl 4 (r.1.map bJ)), .d (.lit (.int .i64 r.2))] ∧ o' = []) := by
 unfold oB at h
 refine fO Try.func30 rfl (rs := [.tmp 4, .tmp 5]) Try.results30 Try.ntmps30 (Nat.le_of_ble_eq_true rfl) ?_
 refine aG ?_
 refine aD ?_
 refine cD rfl (gF (v := .agg (aT t_0)) (aA rfl) rfl rfl rfl) ?_
 rintro _ ⟨b1, rfl⟩
 refine tr1 rfl (uQ 4 (aA rfl)) ?_
 refine tr1 rfl (aJ (v := .d (.lit (.int .i64 0))) (aA rfl) rfl rfl) ?_
 refine aF ?_
 refine aG ?_
 refine aD ?_
 refine tr1 rfl (bT (aA rfl) rfl (i := 0) rfl eB (es := (aT t_0)) rfl rfl) ?_
 refine tr1 rfl (aC (v := .d (.sl 5 (l_1.map aM))) (aA rfl) rfl rfl) ?_
 refine cD rfl (nG (aA rfl) (.func _ _ Try.call48) rfl rfl (nA _ _ h)) ?_
 rintro _ ⟨_, _, ⟨r2, h, rfl, rfl⟩, rfl⟩
 refine tr1 rfl (aC (v := .tup [cQ aX r2.1, .d (.lit (.int .i64 r2.2))]) (aA rfl) rfl rfl) ?_
 refine tr1 rfl (bW (aA rfl) rfl rfl) ?_
 refine tr1 rfl (bW (aA rfl) rfl rfl) ?_
 refine tr1 rfl (aJ (v := cQ aX r2.1) (aA rfl) rfl rfl) ?_
 refine tr1 rfl (aJ (v := .d (.lit (.int .i64 r2.2))) (aA rfl) rfl rfl) ?_
 refine aF ?_
 refine aG ?_
 refine aG ?_
 refine aD ?_
 refine tr1 rfl (aC (v := .d (.lit (.int .i64 r2.2))) (aA rfl) rfl rfl) ?_
 refine tr1 rfl (bG (aA rfl) rfl rfl rfl) ?_
 refine aF ?_
 refine bU rfl (fun c3 => ?_) (fun c3 => ?_)
 ·have h := eA c3 h
  refine aG ?_
  refine aD ?_
  refine tr1 rfl (aC (v := .d (.lit (.int .i64 r2.2))) (aA rfl) rfl rfl) ?_
  refine tr1 rfl (uQ 4 (aA rfl)) ?_
  refine tr1 rfl (aJ (v := .d (.lit (.int .i64 r2.2))) (aA rfl) rfl rfl) ?_
  refine aF ?_
  exact bQ ⟨rfl, _, [], [.box b1 0 (aT t_0)], _, .two (.tmp 4 (v := .d (.sl 4 ((([] : List cF)).map bJ))) rfl) (.tmp 5 (v := .d (.lit (.int .i64 r2.2))) rfl), .refl _, .same _, (([] : List cF), r2.2), h, rfl, rfl⟩
 ·have h := dZ c3 h
  refine bR ?_
  refine aG ?_
  refine aD ?_
  refine cD rfl (eN (zs := [.lit (.slice none 0 0)]) (aA rfl) Try.zeroValue48 rfl rfl) ?_
  rintro _ ⟨b4, rfl⟩
  refine kI (aBc 57 4) ?_
  refine aF ?_
  refine aG ?_
  refine aG ?_
  refine aD ?_
  refine tr1 rfl (aC (v := cQ aX r2.1) (aA rfl) rfl rfl) ?_
  obtain ⟨x5, h6, h⟩ := cT h
  refine kI (yQ (enc := aX) (k := 20) rfl h6) ?_
  refine tr1 rfl (aNg (aA rfl) rfl rfl) ?_
  refine aF ?_
  refine cG ?_
  obtain ⟨s7, h8, h⟩ := cT h
  refine vO ?_ aNd
  refine aLk (S := (List cF) × Value) (S0 := (List cF)) (f := 56) (ps := [22, 23]) (fun z11 => z11.1) (fun z11 => [.box b1 0 (aT t_0), .box b4 0 [.lit z11.2], .arr z11.2 57 4 (z11.1.map bJ)]) (aNr (fun x12 : aB => .agg (aK x12)) (fun x13 : cF => .agg (bJ x13)) _) (([] : List cF), (.slice none 0 0)) ([] : List cF) s7 (bE [0, 1, 2] rfl rfl (le_refl _)) rfl Try.call56 rfl (by decide) rfl rfl (fun l J hy m0 h0 => uT (S := (List cF)) J l _ (fun _ _ _ _ _ hJ hq => hy _ _ _ _ hJ ⟨_, _, rfl, hq⟩) x5 _ m0 h0 h8) ?_ ?_
  ·rintro ⟨e9, w10⟩ _ _ ⟨x12, x13, rfl, h⟩
   refine ⟨rfl, ?_⟩
   refine aD ?_
   refine cD rfl (eN (zs := [.lit (.int .i64 0), .lit (.int .i64 0), .lit (.int .i64 0), .lit (.int .i64 0)]) (aA rfl) Try.zeroValue57 rfl rfl) ?_
   rintro _ ⟨b14, rfl⟩
   refine tr1 rfl (cO (i := 3) rfl rfl rfl rfl rfl Try.sizeOf57 rfl (aA rfl) (Nat.le_of_ble_eq_true rfl) (ds' := (bJ x13)) rfl) ?_
   refine aF ?_
   refine cG ?_
   refine aD ?_
   refine tr1 rfl (aW (aA rfl) rfl (i := 1) rfl rfl aJg) ?_
   refine tr1 rfl (bT (aA rfl) rfl (i := 3) rfl aDs (es := (bJ x13)) rfl rfl) ?_
   refine tr1 rfl (gG (aA rfl) jX rfl rfl (rows := ([x13]).map bJ) rfl (dM (f := bJ) fun _ => rfl) rfl (by decide)) ?_
   obtain ⟨x15, h16, h⟩ := bind_some h
   refine cD rfl (fZ (i := 2) (aA rfl) jX rfl rfl rfl (fun _ => rfl) h16 rfl) ?_
   rintro _ ⟨v17, rfl⟩
   refine tr1 rfl (cO (i := 1) rfl rfl rfl rfl rfl Try.sizeOf48 rfl (aA rfl) (Nat.le_of_ble_eq_true rfl) (ds' := [.lit v17]) rfl) ?_
   refine fA ?_
   have h := Option.some.inj h
   subst h
   exact ⟨(x15, v17), rfl, bE [0, 1, 2] rfl rfl aNc⟩
  ·rintro ⟨e9, w10⟩ h18
   subst h18
   refine aG ?_
   refine aD ?_
   refine tr1 rfl (aW (aA rfl) rfl (i := 1) rfl rfl aJg) ?_
   refine tr1 rfl (aJ (v := .d (.lit w10)) (aA rfl) rfl rfl) ?_
   refine tr1 rfl (aJ (v := .d (.lit (.int .i64 0))) (aA rfl) rfl rfl) ?_
   refine aF ?_
   exact bQ ⟨rfl, _, [], [.box b1 0 (aT t_0), .box b4 0 [.lit w10], .arr w10 57 4 (e9.map bJ)], _, .two (.tmp 4 (v := .d (.lit w10)) rfl) (.tmp 5 (v := .d (.lit (.int .i64 0))) rfl), .refl _, tJ (.cons (.d (lX 2 rfl (dM (f := bJ) fun _ => rfl))) (.cons (.same _) .nil)), (e9, 0), h, rfl, rfl⟩

theorem aDx (t_0 : aO) (l_1 : List aE) (round_2 : Int) (place_3 : Int) {Q : ((Option bB) × aB × Int) → Prop} (h : nP t_0 l_1 round_2 place_3 Q) : eR Try.prog 44 [.agg (aT t_0), .d (.sl 5 (l_1.map aM)), .d (.lit (.int .i64 round_2)), .d (.lit (.int .i64 place_3))] [] (fun r' o' => ∃ (r : (Option bB) × aB × Int), Q r ∧ r' = .tup [cQ aX r.1, .agg (aK r.2.1), .d (.lit (.int .i64 r.2.2))] ∧ o' = []) := by
 unfold nP at h
 refine fO Try.func44 rfl (rs := [.tmp 8, .cell 9 70, .tmp 10]) Try.results44 Try.ntmps44 (Nat.le_of_ble_eq_true rfl) ?_
 refine aG ?_
 refine aD ?_
 refine cD rfl (gF (v := .agg (aT t_0)) (aA rfl) rfl rfl rfl) ?_
 rintro _ ⟨b1, rfl⟩
 refine tr1 rfl (aJ (v := cQ aX (none : Option bB)) (aA rfl) rfl rfl) ?_
 refine cD rfl (eN (zs := [.lit (.int .i64 0), .lit (.int .i64 0)]) (aA rfl) Try.zeroValue70 rfl rfl) ?_
 rintro _ ⟨b2, rfl⟩
 refine tr1 rfl (aJ (v := .d (.lit (.int .i64 0))) (aA rfl) rfl rfl) ?_
 refine aF ?_
 refine aG ?_
 refine aD ?_
 refine tr1 rfl (bT (aA rfl) rfl (i := 0) rfl eB (es := (aT t_0)) rfl rfl) ?_
 refine tr1 rfl (aC (v := .d (.sl 5 (l_1.map aM))) (aA rfl) rfl rfl) ?_
 refine cD rfl (nG (aA rfl) (.func _ _ Try.call48) rfl rfl (nA _ _ h)) ?_
 rintro _ ⟨_, _, ⟨r3, h, rfl, rfl⟩, rfl⟩
 refine tr1 rfl (aC (v := .tup [cQ aX r3.1, .d (.lit (.int .i64 r3.2))]) (aA rfl) rfl rfl) ?_
 refine tr1 rfl (bW (aA rfl) rfl rfl) ?_
 refine tr1 rfl (bW (aA rfl) rfl rfl) ?_
 refine tr1 rfl (aJ (v := cQ aX r3.1) (aA rfl) rfl rfl) ?_
 refine tr1 rfl (aJ (v := .d (.lit (.int .i64 r3.2))) (aA rfl) rfl rfl) ?_
 refine aF ?_
 refine aG ?_
 refine aD ?_
 refine tr1 rfl (aC (v := .d (.lit (.int .i64 round_2))) (aA rfl) rfl rfl) ?_
 refine tr1 rfl (aC (v := .d (.lit (.int .i64 place_3))) (aA rfl) rfl rfl) ?_
 refine tr1 rfl (eZ (aA rfl) vN (zs := [.lit (.int .i64 0), .lit (.int .i64 0)]) rfl rfl rfl rfl (es := [.lit (.int .i64 round_2), .lit (.int .i64 place_3)]) rfl) ?_
 refine cD rfl (eN (zs := [.lit (.int .i64 0), .lit (.int .i64 0)]) (aA rfl) Try.zeroValue70 rfl rfl) ?_
 rintro _ ⟨b4, rfl⟩
 refine tr1 rfl (cO (i := 2) rfl rfl rfl rfl rfl Try.sizeOf70 rfl (aA rfl) (Nat.le_of_ble_eq_true rfl) (ds' := (aK (aB.mk round_2 place_3))) rfl) ?_
 refine aF ?_
 refine aG ?_
 refine aG ?_
 refine aD ?_
 refine tr1 rfl (aC (v := .d (.lit (.int .i64 r3.2))) (aA rfl) rfl rfl) ?_
 refine tr1 rfl (bG (aA rfl) rfl rfl rfl) ?_
 refine tr1 rfl (aC (v := .d (.lit (.bool ((decide (r3.2 = 0)))))) (aA rfl) rfl rfl) ?_
 obtain ⟨b5, h6, h⟩ := cT h
 refine cC 5 [9, 11, 12, 13] 30 b5 ?_ ?_
 ·refine bH (decide (r3.2 = 0)) (fun c10 => ?_) (fun c10 => ?_)
  ·have h6 := aZ c10 h6
   refine aL rfl rfl (aA rfl) rfl c10 (bT (aA rfl) rfl (i := 2) rfl jZ (es := (aK (aB.mk round_2 place_3))) rfl rfl) ?_
   refine aL rfl rfl (aA rfl) rfl c10 (bT (aA rfl) rfl (i := 0) rfl eB (es := (aT t_0)) rfl rfl) ?_
   obtain ⟨r11, h12, h6⟩ := bind_some h6
   refine aL rfl rfl (aA rfl) rfl c10 (cR (aA rfl) (.func _ _ Try.call64) rfl rfl (BVs.refl _ _) (sB _ _ h12) rfl) ?_
   refine aL rfl rfl (aA rfl) rfl c10 (gT (aA rfl) rfl) ?_
   refine tr1 rfl (bP (v := .d (.lit (.bool (!r11)))) (aA rfl) rfl c10 rfl rfl) ?_
   have h6 := Option.some.inj h6
   subst h6
   refine aF (bA rfl ⟨rfl, rfl, rfl, rfl, trivial⟩ rfl)
  ·have h6 := aY c10 h6
   refine aN rfl rfl (aA rfl) rfl (aA rfl) rfl c10 ?_
   refine aN rfl rfl (aA rfl) rfl (aA rfl) rfl c10 ?_
   refine aN rfl rfl (aA rfl) rfl (aA rfl) rfl c10 ?_
   refine aN rfl rfl (aA rfl) rfl (aA rfl) rfl c10 ?_
   refine tr1 rfl (bN (v := .d (.lit (.bool false))) (aA rfl) rfl c10 rfl rfl) ?_
   have h6 := Option.some.inj h6
   subst h6
   refine aF (bA rfl ⟨rfl, rfl, rfl, rfl, trivial⟩ rfl)
 ·refine aF ?_
  refine bU rfl (fun c7 => ?_) (fun c7 => ?_)
  ·have h := eA c7 h
   refine aD ?_
   refine tr1 rfl (aJ (v := .d (.lit (.int .i64 1))) (aA rfl) rfl rfl) ?_
   refine aF ?_
   refine aG ?_
   refine uR mix 5 [9] (fun X8 => [(8, cQ aX r3.1), (33, .d (.lit (.int .i64 1)))]) (fun X8 => [.box b1 0 (aT t_0), .box b2 0 (aK (aB.mk round_2 place_3)), .box b4 0 (aK (aB.mk round_2 place_3))]) ?_ ?_
   ·refine ⟨0, fun X8 => [(31, 0, cQ aX r3.1), (32, 1, .agg (aK (aB.mk round_2 place_3))), (33, 2, .d (.lit (.int .i64 1))), (8, 3, cQ aX r3.1)], fun X8 => [([], .box b1 0 (aT t_0)), ([(4, .box b2 0 (aK (aB.mk round_2 place_3)))], .box b2 0 (aK (aB.mk 0 0))), ([], .box b4 0 (aK (aB.mk round_2 place_3)))], ?_, ?_⟩
    · exact ⟨by kernel_rfl, by kernel_rfl, by kernel_rfl, fun _ => by kernel_rfl, fun _ => by kernel_rfl, fun _ => by kernel_rfl, fun _ => rfl, [([], [4]), ([], [4]), ([], []), ([0], [4]), ([1], [])], by kernel_rfl, ⟨fun X8 S hw hi hS => lI (X := X8) rfl (hw X8) rfl (aS rfl (aC (v := cQ aX r3.1) (aA rfl) (aI hS rfl) rfl)),
      fun X8 S hw hi hS => lI (X := X8) rfl (hw X8) rfl (aS rfl (bT (aA rfl) (aI hS rfl) (i := 2) (og hS rfl rfl) jZ (es := (aK (aB.mk round_2 place_3))) rfl rfl)),
      fun X8 S hw hi hS => lI (X := X8) rfl (hw X8) rfl (aS rfl (aC (v := .d (.lit (.int .i64 1))) (aA rfl) (aI hS rfl) rfl)),
      fun X8 S hw hi hS => lI (X := X8) rfl (hw X8) rfl (aS rfl (aJ (v := cQ aX r3.1) (aA rfl) (aI hS rfl) rfl)),
      fun X8 S hw hi hS => aGv (X := X8) hS rfl rfl rfl (p := 1) rfl rfl (aS rfl (cO (i := 1) (aI hS rfl) (og hS rfl rfl) (aI hS rfl) rfl rfl Try.sizeOf70 rfl (aA rfl) (Nat.le_of_ble_eq_true rfl) (ds' := (aK (aB.mk round_2 place_3))) rfl)), trivial⟩⟩
    · exact fun X8 => dE (aU rfl (aU rfl (bC ⟨rfl, trivial⟩)))
   ·intro X8
    refine tr1 rfl (aJ (v := .d (.lit (.int .i64 1))) (aA rfl) rfl rfl) ?_
    refine aF ?_
    exact bQ ⟨rfl, _, [], [.box b1 0 (aT t_0), .box b2 0 (aK (aB.mk round_2 place_3)), .box b4 0 (aK (aB.mk round_2 place_3))], _, .three (.tmp 8 (v := cQ aX r3.1) rfl) (.cell 9 70 rfl (i := 1) rfl jZ (es := (aK (aB.mk round_2 place_3))) rfl rfl) (.tmp 10 (v := .d (.lit (.int .i64 1))) rfl), .refl _, .same _, (r3.1, (aB.mk round_2 place_3), 1), h, rfl, rfl⟩
  ·have h := dZ c7 h
   refine bR ?_
   refine aG ?_
   refine uR mix 5 [9] (fun X9 => [(8, cQ aX r3.1), (33, .d (.lit (.int .i64 r3.2)))]) (fun X9 => [.box b1 0 (aT t_0), .box b2 0 (aK (aB.mk round_2 place_3)), .box b4 0 (aK (aB.mk round_2 place_3))]) ?_ ?_
   ·refine ⟨0, fun X9 => [(31, 0, cQ aX r3.1), (32, 1, .agg (aK (aB.mk round_2 place_3))), (33, 2, .d (.lit (.int .i64 r3.2))), (8, 3, cQ aX r3.1)], fun X9 => [([], .box b1 0 (aT t_0)), ([(4, .box b2 0 (aK (aB.mk round_2 place_3)))], .box b2 0 (aK (aB.mk 0 0))), ([], .box b4 0 (aK (aB.mk round_2 place_3)))], ?_, ?_⟩
    · exact ⟨by kernel_rfl, by kernel_rfl, by kernel_rfl, fun _ => by kernel_rfl, fun _ => by kernel_rfl, fun _ => by kernel_rfl, fun _ => rfl, [([], [4]), ([], [4]), ([], []), ([0], [4]), ([1], [])], by kernel_rfl, ⟨fun X9 S hw hi hS => lI (X := X9) rfl (hw X9) rfl (aS rfl (aC (v := cQ aX r3.1) (aA rfl) (aI hS rfl) rfl)),
      fun X9 S hw hi hS => lI (X := X9) rfl (hw X9) rfl (aS rfl (bT (aA rfl) (aI hS rfl) (i := 2) (og hS rfl rfl) jZ (es := (aK (aB.mk round_2 place_3))) rfl rfl)),
      fun X9 S hw hi hS => lI (X := X9) rfl (hw X9) rfl (aS rfl (aC (v := .d (.lit (.int .i64 r3.2))) (aA rfl) (aI hS rfl) rfl)),
      fun X9 S hw hi hS => lI (X := X9) rfl (hw X9) rfl (aS rfl (aJ (v := cQ aX r3.1) (aA rfl) (aI hS rfl) rfl)),
      fun X9 S hw hi hS => aGv (X := X9) hS rfl rfl rfl (p := 1) rfl rfl (aS rfl (cO (i := 1) (aI hS rfl) (og hS rfl rfl) (aI hS rfl) rfl rfl Try.sizeOf70 rfl (aA rfl) (Nat.le_of_ble_eq_true rfl) (ds' := (aK (aB.mk round_2 place_3))) rfl)), trivial⟩⟩
    · exact fun X9 => dE (aU rfl (aU rfl (bC ⟨rfl, trivial⟩)))
   ·intro X9
    refine tr1 rfl (aJ (v := .d (.lit (.int .i64 r3.2))) (aA rfl) rfl rfl) ?_
    refine aF ?_
    exact bQ ⟨rfl, _, [], [.box b1 0 (aT t_0), .box b2 0 (aK (aB.mk round_2 place_3)), .box b4 0 (aK (aB.mk round_2 place_3))], _, .three (.tmp 8 (v := cQ aX r3.1) rfl) (.cell 9 70 rfl (i := 1) rfl jZ (es := (aK (aB.mk round_2 place_3))) rfl rfl) (.tmp 10 (v := .d (.lit (.int .i64 r3.2))) rfl), .refl _, .same _, (r3.1, (aB.mk round_2 place_3), r3.2), h, rfl, rfl⟩

theorem mL (d_0 : bB) (slot_1 : Int) {r : Int} (h : gX d_0 slot_1 = some r) : Fn Try.prog 46 [.cp (aX d_0), .d (.lit (.int .i64 slot_1))] (.d (.lit (.int .i64 r))) := by
 unfold gX at h
 refine Fn.of_tr Try.func46 rfl (rs := [.tmp 4]) Try.results46 Try.ntmps46 (Nat.le_of_ble_eq_true rfl) ?_
 refine aG ?_
 refine aD ?_
 refine tr1 rfl (aJ (v := .d (.lit (.int .i64 0))) (aA rfl) rfl rfl) ?_
 refine aF ?_
 refine aG ?_
 refine aG ?_
 refine aD ?_
 refine tr1 rfl (aC (v := .cp [.lit (.int .i64 d_0.Tree.Rounds), .sl 1 (d_0.Tree.Slots.map aP), .sl 1 (d_0.players.map aP), .mp false (d_0.won.map fun p : aB × Int => ((fun a : aB => Value.agg ((aK a).map bK).toArray) p.1, aP p.2))]) (aA rfl) rfl rfl) ?_
 refine tr1 rfl (iE (aA rfl) rfl) ?_
 refine tr1 rfl (cI (aA rfl) rfl nX (es := [.lit (.int .i64 d_0.Tree.Rounds), .sl 1 (d_0.Tree.Slots.map aP)]) rfl) ?_
 refine tr1 rfl (cI (aA rfl) rfl iH (es := [.lit (.int .i64 d_0.Tree.Rounds)]) rfl) ?_
 refine tr1 rfl (bM (aA rfl) rfl bF) ?_
 refine tr1 rfl (aC (v := .d (.lit (.int .i64 0))) (aA rfl) rfl rfl) ?_
 refine aF ?_
 refine cG ?_
 refine dO [0, 1, 12] (fun (s1 : Int) => [(13, .d (.lit (.int .i64 s1)))]) (fun (s1 : Int) => []) (fun (k : Nat) (s1 : Int) => gM d_0 slot_1 d_0.Tree.Rounds k s1) (fun _ => rfl) (0) h (bE [] rfl rfl (aU rfl (bC ⟨rfl, rfl, rfl, trivial⟩))) ?_
 rintro k2 t13_0_1 h
 simp only [gM] at h
 refine aG ?_
 refine aD ?_
 refine tr1 rfl (bG (aA rfl) rfl rfl rfl) ?_
 refine aF ?_
 refine aG ?_
 refine bU rfl (fun c3 => ?_) (fun c3 => ?_)
 ·have h := aZ c3 h
  refine bR ?_
  refine aG ?_
  refine cG ?_
  refine aG ?_
  refine aD ?_
  refine tr1 rfl (aC (v := .d (.lit (.int .i64 t13_0_1))) (aA rfl) rfl rfl) ?_
  refine tr1 rfl (aJ (v := .d (.lit (.int .i64 t13_0_1))) (aA rfl) rfl rfl) ?_
  refine aF ?_
  refine aG ?_
  obtain ⟨r4, h5, h⟩ := bind_some h
  refine dW mix 12 [0, 1, 5, 12, 13] [(6, .d (.lit (.int .i64 ((cP r4 0 d_0.won))))), (26, .d (.lit (.bool ((cY r4 d_0.won)))))] ?_ ?_
  ·refine ⟨[(17, 0, .cp [.lit (.int .i64 d_0.Tree.Rounds), .sl 1 (d_0.Tree.Slots.map aP), .sl 1 (d_0.players.map aP), .mp false (d_0.won.map fun p : aB × Int => ((fun a : aB => Value.agg ((aK a).map bK).toArray) p.1, aP p.2))]), (18, 1, .cp [.lit (.int .i64 d_0.Tree.Rounds), .sl 1 (d_0.Tree.Slots.map aP), .sl 1 (d_0.players.map aP), .mp false (d_0.won.map fun p : aB × Int => ((fun a : aB => Value.agg ((aK a).map bK).toArray) p.1, aP p.2))]), (19, 2, .cp [.mp false (d_0.won.map fun p : aB × Int => ((fun a : aB => Value.agg ((aK a).map bK).toArray) p.1, aP p.2))]), (20, 3, .d (.mp false (d_0.won.map fun p : aB × Int => ((fun a : aB => Value.agg ((aK a).map bK).toArray) p.1, aP p.2)))), (21, 4, .d (.lit (.int .i64 t13_0_1))), (22, 5, .d (.lit (.int .i64 slot_1))), (23, 6, .agg (aK r4)), (24, 7, .tup [.d (.lit (.int .i64 ((cP r4 0 d_0.won)))), .d (.lit (.bool ((cY r4 d_0.won))))]), (16, 8, .tup [.d (.lit (.int .i64 ((cP r4 0 d_0.won)))), .d (.lit (.bool ((cY r4 d_0.won))))]), (25, 9, .d (.lit (.int .i64 ((cP r4 0 d_0.won))))), (26, 10, .d (.lit (.bool ((cY r4 d_0.won))))), (6, 11, .d (.lit (.int .i64 ((cP r4 0 d_0.won)))))], ?_, ?_⟩
   · exact ⟨by kernel_rfl, by kernel_rfl, by kernel_rfl, by kernel_rfl, by kernel_rfl, [([], []), ([0], []), ([1], []), ([2], []), ([], []), ([], []), ([4, 5], []), ([3, 6], []), ([7], []), ([8], []), ([8], []), ([9], [])], by kernel_rfl, ⟨fun S hS => aH rfl (aS rfl (aC (v := .cp [.lit (.int .i64 d_0.Tree.Rounds), .sl 1 (d_0.Tree.Slots.map aP), .sl 1 (d_0.players.map aP), .mp false (d_0.won.map fun p : aB × Int => ((fun a : aB => Value.agg ((aK a).map bK).toArray) p.1, aP p.2))]) (aA rfl) (aI hS rfl) rfl)),
      fun S hS => aH rfl (aS rfl (iE (aA rfl) (aI hS rfl))),
      fun S hS => aH rfl (aS rfl (cI (aA rfl) (aI hS rfl) rP (es := [.mp false (d_0.won.map fun p : aB × Int => ((fun a : aB => Value.agg ((aK a).map bK).toArray) p.1, aP p.2))]) rfl)),
      fun S hS => aH rfl (aS rfl (bM (aA rfl) (aI hS rfl) vH)),
      fun S hS => aH rfl (aS rfl (aC (v := .d (.lit (.int .i64 t13_0_1))) (aA rfl) (aI hS rfl) rfl)),
      fun S hS => aH rfl (aS rfl (aC (v := .d (.lit (.int .i64 slot_1))) (aA rfl) (aI hS rfl) rfl)),
      fun S hS => aH rfl (aS rfl (iD (aA rfl) (.func _ _ Try.call45) (ev2 (aI hS rfl) (ev2 (aI hS rfl) evn)) rfl (jH _ _ h5))),
      fun S hS => aH rfl (aS rfl (sS (enc := aP) (agg := false) (l := d_0.won) (z := 0) (a := r4) (aA rfl) tR Try.underlying73 Try.zeroValue3 (fun _ _ => .d (.lit _ rfl)) (aI hS rfl) rfl rfl (aI hS rfl) (lN (enc := aK) r4 rfl))),
      fun S hS => aH rfl (aS rfl (aC (v := .tup [.d (.lit (.int .i64 ((cP r4 0 d_0.won)))), .d (.lit (.bool ((cY r4 d_0.won))))]) (aA rfl) (aI hS rfl) rfl)),
      fun S hS => aH rfl (aS rfl (bW (aA rfl) (aI hS rfl) rfl)),
      fun S hS => aH rfl (aS rfl (bW (aA rfl) (aI hS rfl) rfl)),
      fun S hS => aH rfl (aS rfl (aJ (v := .d (.lit (.int .i64 ((cP r4 0 d_0.won))))) (aA rfl) (aI hS rfl) rfl)), trivial⟩⟩
   · exact dE (aU rfl (aU rfl (bC ⟨rfl, rfl, rfl, rfl, rfl, trivial⟩)))
  ·refine tr1 rfl (aJ (v := .d (.lit (.bool ((cY r4 d_0.won))))) (aA rfl) rfl rfl) ?_
   refine aF ?_
   refine aG ?_
   refine aD ?_
   refine tr1 rfl (aC (v := .d (.lit (.bool ((cY r4 d_0.won))))) (aA rfl) rfl rfl) ?_
   refine tr1 rfl (aC (v := .d (.lit (.bool ((cY r4 d_0.won))))) (aA rfl) rfl rfl) ?_
   obtain ⟨b6, h7, h⟩ := bind_some h
   refine cC 10 [0, 1, 5, 12, 13] 38 b6 ?_ ?_
   ·refine bH (cY r4 d_0.won) (fun c9 => ?_) (fun c9 => ?_)
    ·have h7 := aZ c9 h7
     refine aL rfl rfl (aA rfl) rfl c9 (aC (v := .d (.lit (.int .i64 ((cP r4 0 d_0.won))))) (aA rfl) rfl rfl) ?_
     refine aL rfl rfl (aA rfl) rfl c9 (aC (v := .cp [.lit (.int .i64 d_0.Tree.Rounds), .sl 1 (d_0.Tree.Slots.map aP), .sl 1 (d_0.players.map aP), .mp false (d_0.won.map fun p : aB × Int => ((fun a : aB => Value.agg ((aK a).map bK).toArray) p.1, aP p.2))]) (aA rfl) rfl rfl) ?_
     refine aL rfl rfl (aA rfl) rfl c9 (iE (aA rfl) rfl) ?_
     refine aL rfl rfl (aA rfl) rfl c9 (cI (aA rfl) rfl lF (es := [.sl 1 (d_0.players.map aP)]) rfl) ?_
     refine aL rfl rfl (aA rfl) rfl c9 (bM (aA rfl) rfl dJ) ?_
     refine aL rfl rfl (aA rfl) rfl c9 (aC (v := .d (.lit (.int .i64 slot_1))) (aA rfl) rfl rfl) ?_
     obtain ⟨x10, h11, h7⟩ := bind_some h7
     refine aL rfl rfl (aA rfl) rfl c9 (bL (aA rfl) rfl rfl bX.of (bS aP h11)) ?_
     refine aL rfl rfl (aA rfl) rfl c9 (bM (aA rfl) rfl bF) ?_
     refine aL rfl rfl (aA rfl) rfl c9 (bG (aA rfl) rfl rfl rfl) ?_
     refine tr1 rfl (bP (v := .d (.lit (.bool ((!decide ((cP r4 0 d_0.won) = x10)))))) (aA rfl) rfl c9 rfl rfl) ?_
     have h7 := Option.some.inj h7
     subst h7
     refine aF (bA rfl ⟨rfl, rfl, rfl, rfl, rfl, trivial⟩ rfl)
    ·have h7 := aY c9 h7
     refine aN rfl rfl (aA rfl) rfl (aA rfl) rfl c9 ?_
     refine aN rfl rfl (aA rfl) rfl (aA rfl) rfl c9 ?_
     refine aN rfl rfl (aA rfl) rfl (aA rfl) rfl c9 ?_
     refine aN rfl rfl (aA rfl) rfl (aA rfl) rfl c9 ?_
     refine aN rfl rfl (aA rfl) rfl (aA rfl) rfl c9 ?_
     refine aN rfl rfl (aA rfl) rfl (aA rfl) rfl c9 ?_
     refine aN rfl rfl (aA rfl) rfl (aA rfl) rfl c9 ?_
     refine aN rfl rfl (aA rfl) rfl (aA rfl) rfl c9 ?_
     refine aN rfl rfl (aA rfl) rfl (aA rfl) rfl c9 ?_
     refine tr1 rfl (bN (v := .d (.lit (.bool false))) (aA rfl) rfl c9 rfl rfl) ?_
     have h7 := Option.some.inj h7
     subst h7
     refine aF (bA rfl ⟨rfl, rfl, rfl, rfl, rfl, trivial⟩ rfl)
   ·refine aF ?_
    refine bU rfl (fun c8 => ?_) (fun c8 => ?_)
    ·have h := aZ c8 h
     refine aG ?_
     refine aD ?_
     refine tr1 rfl (aC (v := .d (.lit (.int .i64 t13_0_1))) (aA rfl) rfl rfl) ?_
     refine tr1 rfl (aJ (v := .d (.lit (.int .i64 t13_0_1))) (aA rfl) rfl rfl) ?_
     refine aF ?_
     have h := Option.some.inj h
     subst h
     exact bQ ⟨rfl, _, .one _, rfl, rfl⟩
    ·have h := aY c8 h
     refine eG ?_
     refine aD ?_
     refine tr1 rfl (bO (aA rfl) rfl rfl rfl) ?_
     refine tr1 rfl (aC (v := .d (.lit (.int .i64 ((w64 (t13_0_1 + 1)))))) (aA rfl) rfl rfl) ?_
     refine aF ?_
     exact ⟨(w64 (t13_0_1 + 1)), h, bE [] rfl rfl (aU rfl (bC ⟨rfl, rfl, rfl, trivial⟩))⟩
 ·have h := aY c3 h
  refine dA ?_
  refine .inl ⟨rfl, ?_⟩
  simp only [oJ] at h
  refine aG ?_
  refine aD ?_
  refine tr1 rfl (aC (v := .cp [.lit (.int .i64 d_0.Tree.Rounds), .sl 1 (d_0.Tree.Slots.map aP), .sl 1 (d_0.players.map aP), .mp false (d_0.won.map fun p : aB × Int => ((fun a : aB => Value.agg ((aK a).map bK).toArray) p.1, aP p.2))]) (aA rfl) rfl rfl) ?_
  refine tr1 rfl (iE (aA rfl) rfl) ?_
  refine tr1 rfl (cI (aA rfl) rfl nX (es := [.lit (.int .i64 d_0.Tree.Rounds), .sl 1 (d_0.Tree.Slots.map aP)]) rfl) ?_
  refine tr1 rfl (cI (aA rfl) rfl iH (es := [.lit (.int .i64 d_0.Tree.Rounds)]) rfl) ?_
  refine tr1 rfl (bM (aA rfl) rfl bF) ?_
  refine tr1 rfl (aJ (v := .d (.lit (.int .i64 d_0.Tree.Rounds))) (aA rfl) rfl rfl) ?_
  refine aF ?_
  have h := Option.some.inj h
  subst h
  exact bQ ⟨rfl, _, .one _, rfl, rfl⟩

theorem zC (x : List Int) {r : List Int} {x_v : Value} {e : TypeId} (h : slices_Sort_int x = some r) : eR Try.prog 47 [.d (.lit x_v)] [.arr x_v e 1 (x.map aP)] (fun r' o' => r' = .tup [] ∧ o' = [.arr x_v e 1 (r.map aP)]) := by
 unfold slices_Sort_int at h
 split at h
 ·cases h
  exact aIa (fun blk off cap zs w => Try.slices_Sort_int blk off cap zs w) (fun q cap w => Try.slices_Sort_int_none q cap w) (by assumption)
 ·cases h

theorem aDh (t_0 : aO) (l_1 : List aE) (round_2 : Int) (place_3 : Int) {Q : ((List Int) × Int) → Prop} (h : pQ t_0 l_1 round_2 place_3 Q) : eR Try.prog 15 [.agg (aT t_0), .d (.sl 5 (l_1.map aM)), .d (.lit (.int .i64 round_2)), .d (.lit (.int .i64 place_3))] [] (fun r' o' => ∃ (r : (List Int) × Int), Q r ∧ r' = .tup [.d (.sl 1 (r.1.map aP)), .d (.lit (.int .i64 r.2))] ∧ o' = []) := by
 unfold pQ at h
 refine fO Try.func15 rfl (rs := [.tmp 8, .tmp 9]) Try.results15 Try.ntmps15 (Nat.le_of_ble_eq_true rfl) ?_
 refine aG ?_
 refine aD ?_
 refine cD rfl (gF (v := .agg (aT t_0)) (aA rfl) rfl rfl rfl) ?_
 rintro _ ⟨b1, rfl⟩
 refine tr1 rfl (uQ 1 (aA rfl)) ?_
 refine tr1 rfl (aJ (v := .d (.lit (.int .i64 0))) (aA rfl) rfl rfl) ?_
 refine aF ?_
 refine aG ?_
 refine aD ?_
 refine tr1 rfl (bT (aA rfl) rfl (i := 0) rfl eB (es := (aT t_0)) rfl rfl) ?_
 refine tr1 rfl (aC (v := .d (.sl 5 (l_1.map aM))) (aA rfl) rfl rfl) ?_
 refine tr1 rfl (aC (v := .d (.lit (.int .i64 round_2))) (aA rfl) rfl rfl) ?_
 refine tr1 rfl (aC (v := .d (.lit (.int .i64 place_3))) (aA rfl) rfl rfl) ?_
 refine cD rfl (nG (aA rfl) (.func _ _ Try.call44) rfl rfl (aDx _ _ _ _ h)) ?_
 rintro _ ⟨_, _, ⟨r2, h, rfl, rfl⟩, rfl⟩
 refine tr1 rfl (aC (v := .tup [cQ aX r2.1, .agg (aK r2.2.1), .d (.lit (.int .i64 r2.2.2))]) (aA rfl) rfl rfl) ?_
 refine tr1 rfl (bW (aA rfl) rfl rfl) ?_
 refine tr1 rfl (bW (aA rfl) rfl rfl) ?_
 refine tr1 rfl (bW (aA rfl) rfl rfl) ?_
 refine cD rfl (eN (zs := [.lit (.int .i64 0), .lit (.int .i64 0)]) (aA rfl) Try.zeroValue70 rfl rfl) ?_
 rintro _ ⟨b3, rfl⟩
 refine tr1 rfl (aJ (v := cQ aX r2.1) (aA rfl) rfl rfl) ?_
 refine tr1 rfl (cO (i := 1) rfl rfl rfl rfl rfl Try.sizeOf70 rfl (aA rfl) (Nat.le_of_ble_eq_true rfl) (ds' := (aK r2.2.1)) rfl) ?_
 refine tr1 rfl (aJ (v := .d (.lit (.int .i64 r2.2.2))) (aA rfl) rfl rfl) ?_
 refine aF ?_
 refine aG ?_
 refine aG ?_
 refine aD ?_
 refine tr1 rfl (aC (v := .d (.lit (.int .i64 r2.2.2))) (aA rfl) rfl rfl) ?_
 refine tr1 rfl (bG (aA rfl) rfl rfl rfl) ?_
 refine aF ?_
 refine bU rfl (fun c4 => ?_) (fun c4 => ?_)
 ·have h := eA c4 h
  refine aG ?_
  refine aD ?_
  refine tr1 rfl (aC (v := .d (.lit (.int .i64 r2.2.2))) (aA rfl) rfl rfl) ?_
  refine tr1 rfl (uQ 1 (aA rfl)) ?_
  refine tr1 rfl (aJ (v := .d (.lit (.int .i64 r2.2.2))) (aA rfl) rfl rfl) ?_
  refine aF ?_
  exact bQ ⟨rfl, _, [], [.box b1 0 (aT t_0), .box b3 0 (aK r2.2.1)], _, .two (.tmp 8 (v := .d (.sl 1 ((([] : List Int)).map aP))) rfl) (.tmp 9 (v := .d (.lit (.int .i64 r2.2.2))) rfl), .refl _, .same _, (([] : List Int), r2.2.2), h, rfl, rfl⟩
 ·have h := dZ c4 h
  refine bR ?_
  refine aG ?_
  refine aD ?_
  refine tr1 rfl (kT 3 1 (.inl rfl) (aA rfl)) ?_
  refine aF ?_
  refine aG ?_
  refine aG ?_
  refine aD ?_
  refine tr1 rfl (aC (v := cQ aX r2.1) (aA rfl) rfl rfl) ?_
  obtain ⟨x6, h7, h⟩ := cT h
  refine tr1 rfl (pT (enc := aX) (aA rfl) rfl h7) ?_
  refine tr1 rfl (cI (aA rfl) rfl lF (es := [.sl 1 (x6.players.map aP)]) rfl) ?_
  refine tr1 rfl (bM (aA rfl) rfl dJ) ?_
  refine tr1 rfl (eI (aA rfl) rfl bX.of) ?_
  refine tr1 rfl (aC (v := .d (.lit (.int .i64 0))) (aA rfl) rfl rfl) ?_
  refine aF ?_
  refine cG ?_
  refine oA [2, 10, 11, 31, 32] (fun (s8 : Int × (List Int) × Value) => [(13, .d (.lit s8.2.2)), (33, .d (.lit (.int .i64 s8.1)))]) (fun (s8 : Int × (List Int) × Value) => [.box b3 0 (aK r2.2.1), .arr s8.2.2 3 1 (s8.2.1.map aP)]) (fun (k : Nat) (s8 : Int × (List Int) × Value) => iC Q round_2 r2.1 x6.players (x6.players.length : Int) r2.2.1 k s8.1 s8.2.1) (fun _ h => h) (0, ([] : List Int), (.slice none 0 0)) h (bE [1, 2] rfl rfl (aU rfl (aU rfl (bC ⟨rfl, rfl, rfl, rfl, rfl, trivial⟩)))) ?_
  rintro k10 ⟨t33_0_8, out_0_8, w9⟩ h
  simp only [iC] at h
  refine aG ?_
  refine aD ?_
  refine tr1 rfl (bG (aA rfl) rfl rfl rfl) ?_
  refine aF ?_
  refine aG ?_
  refine bU rfl (fun c11 => ?_) (fun c11 => ?_)
  ·have h := eA c11 h
   refine bR ?_
   refine aG ?_
   refine cG ?_
   refine aG ?_
   refine aD ?_
   refine tr1 rfl (aC (v := .d (.lit (.int .i64 t33_0_8))) (aA rfl) rfl rfl) ?_
   obtain ⟨x12, h13, h⟩ := cT h
   refine tr1 rfl (bL (aA rfl) rfl rfl bX.of (bS aP h13)) ?_
   refine tr1 rfl (bM (aA rfl) rfl bF) ?_
   refine tr1 rfl (aJ (v := .d (.lit (.int .i64 t33_0_8))) (aA rfl) rfl rfl) ?_
   refine tr1 rfl (aJ (v := .d (.lit (.int .i64 x12))) (aA rfl) rfl rfl) ?_
   refine aF ?_
   refine aG ?_
   obtain ⟨x14, h15, h⟩ := cT h
   refine cV (yQ (enc := aX) (k := 10) rfl h15) ?_
   obtain ⟨b16, h17, h⟩ := cT h
   obtain ⟨b21, h22, h⟩ := cT h
   refine dW mix 16 [2, 10, 11, 13, 15, 31, 32, 33] [(53, .d (.lit (.bool b21)))] ?_ ?_
   ·refine bH (!decide (x12 = (-1))) (fun c18 => ?_) (fun c18 => ?_)
    ·have h17 := aZ c18 h17
     obtain ⟨r19, h20, h17⟩ := bind_some h17
     have h17 := Option.some.inj h17
     subst h17
     refine bH (decide (r19 = r2.2.1)) (fun c23 => ?_) (fun c23 => ?_)
     ·have h22 := aZ c23 h22
      obtain ⟨r24, h25, h22⟩ := bind_some h22
      have h22 := Option.some.inj h22
      subst h22
      refine ⟨[(38, 0, .d (.lit (.int .i64 x12))), (39, 1, .d (.lit (.bool ((!decide (x12 = (-1))))))), (40, 2, .d (.lit (.bool ((!decide (x12 = (-1))))))), (41, 3, .d (.lit (.int .i64 round_2))), (42, 4, .d (.lit (.int .i64 t33_0_8))), (43, 5, .agg (aK r19)), (44, 6, .agg (aK r2.2.1)), (45, 7, .d (.lit (.bool ((decide (r19 = r2.2.1)))))), (46, 8, .d (.lit (.bool ((decide (r19 = r2.2.1)))))), (47, 9, .d (.lit (.bool (decide (r19 = r2.2.1))))), (48, 10, .cp [.lit (.int .i64 x14.Tree.Rounds), .sl 1 (x14.Tree.Slots.map aP), .sl 1 (x14.players.map aP), .mp false (x14.won.map fun p : aB × Int => ((fun a : aB => Value.agg ((aK a).map bK).toArray) p.1, aP p.2))]), (49, 11, .d (.lit (.int .i64 t33_0_8))), (50, 12, .d (.lit (.int .i64 r24))), (51, 13, .d (.lit (.int .i64 round_2))), (52, 14, .d (.lit (.bool ((decide (round_2 < r24)))))), (53, 15, .d (.lit (.bool ((decide (round_2 < r24))))))], ?_, ?_⟩
      · exact ⟨by kernel_rfl, by kernel_rfl, by kernel_rfl, by kernel_rfl, by kernel_rfl, [([], []), ([0], []), ([1], []), ([2], []), ([2], []), ([2, 3, 4], []), ([2], []), ([2, 5, 6], []), ([2, 7], []), ([8], []), ([9], []), ([9], []), ([9, 10, 11], []), ([9], []), ([9, 12, 13], []), ([9, 14], [])], by kernel_rfl, ⟨fun S hS => aH rfl (aS rfl (aC (v := .d (.lit (.int .i64 x12))) (aA rfl) (aI hS rfl) rfl)),
      fun S hS => aH rfl (aS rfl (bG (aA rfl) (aI hS rfl) rfl rfl)),
      fun S hS => aH rfl (aS rfl (aC (v := .d (.lit (.bool ((!decide (x12 = (-1))))))) (aA rfl) (aI hS rfl) rfl)),
      fun S hS => aH rfl (bD rfl rfl (aA rfl) (aR hS rfl) c18 (aC (v := .d (.lit (.int .i64 round_2))) (aA rfl) (aI hS rfl) rfl)),
      fun S hS => aH rfl (bD rfl rfl (aA rfl) (aR hS rfl) c18 (aC (v := .d (.lit (.int .i64 t33_0_8))) (aA rfl) (aI hS rfl) rfl)),
      fun S hS => aH rfl (bD rfl rfl (aA rfl) (aR hS rfl) c18 (iD (aA rfl) (.func _ _ Try.call45) (ev2 (aI hS rfl) (ev2 (aI hS rfl) evn)) rfl (jH _ _ h20))),
      fun S hS => aH rfl (bD rfl rfl (aA rfl) (aR hS rfl) c18 (bT (aA rfl) (aI hS rfl) (i := 0) rfl jZ (es := (aK r2.2.1)) rfl rfl)),
      fun S hS => aH rfl (bD rfl rfl (aA rfl) (aR hS rfl) c18 (wP (a := r19) (b := r2.2.1) (aA rfl) (aI hS rfl) (aI hS rfl) rfl rfl Try.eqGuardType70 vD)),
      fun S hS => aH rfl (aS rfl (bP (v := .d (.lit (.bool ((decide (r19 = r2.2.1)))))) (aA rfl) (aI hS rfl) c18 (aI hS rfl) rfl)),
      fun S hS => aH rfl (aS rfl (aC (v := .d (.lit (.bool (decide (r19 = r2.2.1))))) (aA rfl) (aI hS rfl) rfl)),
      fun S hS => aH rfl (bD rfl rfl (aA rfl) (aR hS rfl) c23 (aC (v := .cp [.lit (.int .i64 x14.Tree.Rounds), .sl 1 (x14.Tree.Slots.map aP), .sl 1 (x14.players.map aP), .mp false (x14.won.map fun p : aB × Int => ((fun a : aB => Value.agg ((aK a).map bK).toArray) p.1, aP p.2))]) (aA rfl) (aI hS rfl) rfl)),
      fun S hS => aH rfl (bD rfl rfl (aA rfl) (aR hS rfl) c23 (aC (v := .d (.lit (.int .i64 t33_0_8))) (aA rfl) (aI hS rfl) rfl)),
      fun S hS => aH rfl (bD rfl rfl (aA rfl) (aR hS rfl) c23 (cR (aA rfl) (.func _ _ Try.call46) (ev2 (aI hS rfl) (ev2 (aI hS rfl) evn)) rfl (BVs.refl _ _) (mL _ _ h25) rfl)),
      fun S hS => aH rfl (bD rfl rfl (aA rfl) (aR hS rfl) c23 (aC (v := .d (.lit (.int .i64 round_2))) (aA rfl) (aI hS rfl) rfl)),
      fun S hS => aH rfl (bD rfl rfl (aA rfl) (aR hS rfl) c23 (bG (aA rfl) (aI hS rfl) (aI hS rfl) rfl)),
      fun S hS => aH rfl (aS rfl (bP (v := .d (.lit (.bool ((decide (round_2 < r24)))))) (aA rfl) (aI hS rfl) c23 (aI hS rfl) rfl)), trivial⟩⟩
      · exact dE (aU rfl (bC ⟨rfl, rfl, rfl, rfl, rfl, rfl, rfl, rfl, trivial⟩))
     ·have h22 := aY c23 h22
      have h22 := Option.some.inj h22
      subst h22
      refine ⟨[(38, 0, .d (.lit (.int .i64 x12))), (39, 1, .d (.lit (.bool ((!decide (x12 = (-1))))))), (40, 2, .d (.lit (.bool ((!decide (x12 = (-1))))))), (41, 3, .d (.lit (.int .i64 round_2))), (42, 4, .d (.lit (.int .i64 t33_0_8))), (43, 5, .agg (aK r19)), (44, 6, .agg (aK r2.2.1)), (45, 7, .d (.lit (.bool ((decide (r19 = r2.2.1)))))), (46, 8, .d (.lit (.bool ((decide (r19 = r2.2.1)))))), (47, 9, .d (.lit (.bool (decide (r19 = r2.2.1))))), (48, 10, .tup []), (49, 11, .tup []), (50, 12, .tup []), (51, 13, .tup []), (52, 14, .tup []), (53, 15, .d (.lit (.bool false)))], ?_, ?_⟩
      · exact ⟨by kernel_rfl, by kernel_rfl, by kernel_rfl, by kernel_rfl, by kernel_rfl, [([], []), ([0], []), ([1], []), ([2], []), ([2], []), ([2, 3, 4], []), ([2], []), ([2, 5, 6], []), ([2, 7], []), ([8], []), ([9], []), ([9], []), ([9, 10, 11], []), ([9], []), ([9, 12, 13], []), ([9, 14], [])], by kernel_rfl, ⟨fun S hS => aH rfl (aS rfl (aC (v := .d (.lit (.int .i64 x12))) (aA rfl) (aI hS rfl) rfl)),
      fun S hS => aH rfl (aS rfl (bG (aA rfl) (aI hS rfl) rfl rfl)),
      fun S hS => aH rfl (aS rfl (aC (v := .d (.lit (.bool ((!decide (x12 = (-1))))))) (aA rfl) (aI hS rfl) rfl)),
      fun S hS => aH rfl (bD rfl rfl (aA rfl) (aR hS rfl) c18 (aC (v := .d (.lit (.int .i64 round_2))) (aA rfl) (aI hS rfl) rfl)),
      fun S hS => aH rfl (bD rfl rfl (aA rfl) (aR hS rfl) c18 (aC (v := .d (.lit (.int .i64 t33_0_8))) (aA rfl) (aI hS rfl) rfl)),
      fun S hS => aH rfl (bD rfl rfl (aA rfl) (aR hS rfl) c18 (iD (aA rfl) (.func _ _ Try.call45) (ev2 (aI hS rfl) (ev2 (aI hS rfl) evn)) rfl (jH _ _ h20))),
      fun S hS => aH rfl (bD rfl rfl (aA rfl) (aR hS rfl) c18 (bT (aA rfl) (aI hS rfl) (i := 0) rfl jZ (es := (aK r2.2.1)) rfl rfl)),
      fun S hS => aH rfl (bD rfl rfl (aA rfl) (aR hS rfl) c18 (wP (a := r19) (b := r2.2.1) (aA rfl) (aI hS rfl) (aI hS rfl) rfl rfl Try.eqGuardType70 vD)),
      fun S hS => aH rfl (aS rfl (bP (v := .d (.lit (.bool ((decide (r19 = r2.2.1)))))) (aA rfl) (aI hS rfl) c18 (aI hS rfl) rfl)),
      fun S hS => aH rfl (aS rfl (aC (v := .d (.lit (.bool (decide (r19 = r2.2.1))))) (aA rfl) (aI hS rfl) rfl)),
      fun S hS => aH rfl (bI rfl rfl (aA rfl) rfl (aA rfl) (aR hS rfl) c23),
      fun S hS => aH rfl (bI rfl rfl (aA rfl) rfl (aA rfl) (aR hS rfl) c23),
      fun S hS => aH rfl (bI rfl rfl (aA rfl) rfl (aA rfl) (aR hS rfl) c23),
      fun S hS => aH rfl (bI rfl rfl (aA rfl) rfl (aA rfl) (aR hS rfl) c23),
      fun S hS => aH rfl (bI rfl rfl (aA rfl) rfl (aA rfl) (aR hS rfl) c23),
      fun S hS => aH rfl (aS rfl (bN (v := .d (.lit (.bool false))) (aA rfl) (aI hS rfl) c23 rfl rfl)), trivial⟩⟩
      · exact dE (aU rfl (bC ⟨rfl, rfl, rfl, rfl, rfl, rfl, rfl, rfl, trivial⟩))
    ·have h17 := aY c18 h17
     have h17 := Option.some.inj h17
     subst h17
     have c23 : false = false := rfl
     have h22 := aY c23 h22
     have h22 := Option.some.inj h22
     subst h22
     refine ⟨[(38, 0, .d (.lit (.int .i64 x12))), (39, 1, .d (.lit (.bool ((!decide (x12 = (-1))))))), (40, 2, .d (.lit (.bool ((!decide (x12 = (-1))))))), (41, 3, .tup []), (42, 4, .tup []), (43, 5, .tup []), (44, 6, .tup []), (45, 7, .tup []), (46, 8, .d (.lit (.bool false))), (47, 9, .d (.lit (.bool (false)))), (48, 10, .tup []), (49, 11, .tup []), (50, 12, .tup []), (51, 13, .tup []), (52, 14, .tup []), (53, 15, .d (.lit (.bool false)))], ?_, ?_⟩
     · exact ⟨by kernel_rfl, by kernel_rfl, by kernel_rfl, by kernel_rfl, by kernel_rfl, [([], []), ([0], []), ([1], []), ([2], []), ([2], []), ([2, 3, 4], []), ([2], []), ([2, 5, 6], []), ([2, 7], []), ([8], []), ([9], []), ([9], []), ([9, 10, 11], []), ([9], []), ([9, 12, 13], []), ([9, 14], [])], by kernel_rfl, ⟨fun S hS => aH rfl (aS rfl (aC (v := .d (.lit (.int .i64 x12))) (aA rfl) (aI hS rfl) rfl)),
      fun S hS => aH rfl (aS rfl (bG (aA rfl) (aI hS rfl) rfl rfl)),
      fun S hS => aH rfl (aS rfl (aC (v := .d (.lit (.bool ((!decide (x12 = (-1))))))) (aA rfl) (aI hS rfl) rfl)),
      fun S hS => aH rfl (bI rfl rfl (aA rfl) rfl (aA rfl) (aR hS rfl) c18),
      fun S hS => aH rfl (bI rfl rfl (aA rfl) rfl (aA rfl) (aR hS rfl) c18),
      fun S hS => aH rfl (bI rfl rfl (aA rfl) rfl (aA rfl) (aR hS rfl) c18),
      fun S hS => aH rfl (bI rfl rfl (aA rfl) rfl (aA rfl) (aR hS rfl) c18),
      fun S hS => aH rfl (bI rfl rfl (aA rfl) rfl (aA rfl) (aR hS rfl) c18),
      fun S hS => aH rfl (aS rfl (bN (v := .d (.lit (.bool false))) (aA rfl) (aI hS rfl) c18 rfl rfl)),
      fun S hS => aH rfl (aS rfl (aC (v := .d (.lit (.bool (false)))) (aA rfl) (aI hS rfl) rfl)),
      fun S hS => aH rfl (bI rfl rfl (aA rfl) rfl (aA rfl) (aR hS rfl) c23),
      fun S hS => aH rfl (bI rfl rfl (aA rfl) rfl (aA rfl) (aR hS rfl) c23),
      fun S hS => aH rfl (bI rfl rfl (aA rfl) rfl (aA rfl) (aR hS rfl) c23),
      fun S hS => aH rfl (bI rfl rfl (aA rfl) rfl (aA rfl) (aR hS rfl) c23),
      fun S hS => aH rfl (bI rfl rfl (aA rfl) rfl (aA rfl) (aR hS rfl) c23),
      fun S hS => aH rfl (aS rfl (bN (v := .d (.lit (.bool false))) (aA rfl) (aI hS rfl) c23 rfl rfl)), trivial⟩⟩
     · exact dE (aU rfl (bC ⟨rfl, rfl, rfl, rfl, rfl, rfl, rfl, rfl, trivial⟩))
   ·refine aF ?_
    refine cV (aIs (enc := aX) (k := 10) rfl h15) ?_
    refine bU rfl (fun c26 => ?_) (fun c26 => ?_)
    ·have h := eA c26 h
     refine aD ?_
     refine tr1 rfl (aC (v := .d (.lit w9)) (aA rfl) rfl rfl) ?_
     refine tr1 rfl (aC (v := .d (.lit (.int .i64 x12))) (aA rfl) rfl rfl) ?_
     refine tr1 rfl (gG (aA rfl) bX rfl rfl (rows := ([x12]).map aP) rfl (dM (f := aP) fun _ => rfl) rfl (by decide)) ?_
     obtain ⟨x27, h28, h⟩ := cT h
     refine cD rfl (fZ (i := 1) (aA rfl) bX rfl rfl rfl (fun _ => rfl) h28 rfl) ?_
     rintro _ ⟨v29, rfl⟩
     refine tr1 rfl (aJ (v := .d (.lit v29)) (aA rfl) rfl rfl) ?_
     refine fA ?_
     refine aD ?_
     refine tr1 rfl (bO (aA rfl) rfl rfl rfl) ?_
     refine tr1 rfl (aC (v := .d (.lit (.int .i64 ((w64 (t33_0_8 + 1)))))) (aA rfl) rfl rfl) ?_
     refine aF ?_
     exact ⟨(w64 (t33_0_8 + 1), x27, v29), h, bE [0, 1] rfl rfl (aU rfl (aU rfl (bC ⟨rfl, rfl, rfl, rfl, rfl, trivial⟩)))⟩
    ·have h := dZ c26 h
     refine eG ?_
     refine aD ?_
     refine tr1 rfl (bO (aA rfl) rfl rfl rfl) ?_
     refine tr1 rfl (aC (v := .d (.lit (.int .i64 ((w64 (t33_0_8 + 1)))))) (aA rfl) rfl rfl) ?_
     refine aF ?_
     exact ⟨(w64 (t33_0_8 + 1), out_0_8, w9), h, bE [0, 1] rfl rfl (aU rfl (aU rfl (bC ⟨rfl, rfl, rfl, rfl, rfl, trivial⟩)))⟩
  ·have h := dZ c11 h
   refine dA ?_
   refine .inl ⟨rfl, ?_⟩
   simp only [rL] at h
   refine aG ?_
   refine aD ?_
   refine tr1 rfl (aC (v := .d (.lit w9)) (aA rfl) rfl rfl) ?_
   obtain ⟨r30, h31, h⟩ := cT h
   refine kI (bE [1, 0] rfl rfl (le_refl _)) ?_
   refine cD rfl (qN (passed := [.arr w9 3 1 (out_0_8.map aP)]) (aA rfl) rfl (.func _ _ Try.call47) rfl rfl (zC out_0_8 h31)) ?_
   rintro _ ⟨_, _, ⟨rfl, rfl⟩, rfl⟩
   refine aF ?_
   refine aG ?_
   refine aD ?_
   refine tr1 rfl (aC (v := .d (.lit w9)) (aA rfl) rfl rfl) ?_
   refine tr1 rfl (aJ (v := .d (.lit w9)) (aA rfl) rfl rfl) ?_
   refine tr1 rfl (aJ (v := .d (.lit (.int .i64 0))) (aA rfl) rfl rfl) ?_
   refine aF ?_
   exact bQ ⟨rfl, _, [], [.arr w9 3 1 (r30.map aP), .box b3 0 (aK r2.2.1)], _, .two (.tmp 8 (v := .d (.lit w9)) rfl) (.tmp 9 (v := .d (.lit (.int .i64 0))) rfl), .refl _, tJ (.cons (.d (lX 0 rfl (dM (f := aP) fun _ => rfl))) (.cons (.same _) .nil)), (r30, 0), h, rfl, rfl⟩

theorem aCb (t_0 : aO) (l_1 : List aE) {Q : (Int × Int) → Prop} (h : oW t_0 l_1 Q) : eR Try.prog 34 [.agg (aT t_0), .d (.sl 5 (l_1.map aM))] [] (fun r' o' => ∃ (r : Int × Int), Q r ∧ r' = .tup [.d (.lit (.int .i64 r.1)), .d (.lit (.int .i64 r.2))] ∧ o' = []) := by
 unfold oW at h
 refine fO Try.func34 rfl (rs := [.tmp 4, .tmp 5]) Try.results34 Try.ntmps34 (Nat.le_of_ble_eq_true rfl) ?_
 refine aG ?_
 refine aD ?_
 refine cD rfl (gF (v := .agg (aT t_0)) (aA rfl) rfl rfl rfl) ?_
 rintro _ ⟨b1, rfl⟩
 refine tr1 rfl (aJ (v := .d (.lit (.int .i64 0))) (aA rfl) rfl rfl) ?_
 refine tr1 rfl (aJ (v := .d (.lit (.int .i64 0))) (aA rfl) rfl rfl) ?_
 refine aF ?_
 refine aG ?_
 refine aD ?_
 refine tr1 rfl (bT (aA rfl) rfl (i := 0) rfl eB (es := (aT t_0)) rfl rfl) ?_
 refine tr1 rfl (aC (v := .d (.sl 5 (l_1.map aM))) (aA rfl) rfl rfl) ?_
 refine cD rfl (nG (aA rfl) (.func _ _ Try.call48) rfl rfl (nA _ _ h)) ?_
 rintro _ ⟨_, _, ⟨r2, h, rfl, rfl⟩, rfl⟩
 refine tr1 rfl (aC (v := .tup [cQ aX r2.1, .d (.lit (.int .i64 r2.2))]) (aA rfl) rfl rfl) ?_
 refine tr1 rfl (bW (aA rfl) rfl rfl) ?_
 refine tr1 rfl (bW (aA rfl) rfl rfl) ?_
 refine tr1 rfl (aJ (v := cQ aX r2.1) (aA rfl) rfl rfl) ?_
 refine tr1 rfl (aJ (v := .d (.lit (.int .i64 r2.2))) (aA rfl) rfl rfl) ?_
 refine aF ?_
 refine aG ?_
 refine aG ?_
 refine aD ?_
 refine tr1 rfl (aC (v := .d (.lit (.int .i64 r2.2))) (aA rfl) rfl rfl) ?_
 refine tr1 rfl (bG (aA rfl) rfl rfl rfl) ?_
 refine aF ?_
 refine bU rfl (fun c3 => ?_) (fun c3 => ?_)
 ·have h := eA c3 h
  refine aG ?_
  refine aD ?_
  refine tr1 rfl (aC (v := .d (.lit (.int .i64 r2.2))) (aA rfl) rfl rfl) ?_
  refine tr1 rfl (aJ (v := .d (.lit (.int .i64 0))) (aA rfl) rfl rfl) ?_
  refine tr1 rfl (aJ (v := .d (.lit (.int .i64 r2.2))) (aA rfl) rfl rfl) ?_
  refine aF ?_
  exact bQ ⟨rfl, _, [], [.box b1 0 (aT t_0)], _, .two (.tmp 4 (v := .d (.lit (.int .i64 0))) rfl) (.tmp 5 (v := .d (.lit (.int .i64 r2.2))) rfl), .refl _, .same _, (0, r2.2), h, rfl, rfl⟩
 ·have h := dZ c3 h
  refine bR ?_
  refine aG ?_
  obtain ⟨x4, h5, h⟩ := cT h
  obtain ⟨x6, h7, h⟩ := cT h
  refine dW mix 12 [] [(23, .d (.lit (.int .i64 ((w64 ((x4.Tree.Slots.length : Int) - 1)))))), (28, .d (.lit (.int .i64 ((((x6.won.map fun p : aB × Int => ((fun a : aB => Value.agg ((aK a).map bK).toArray) p.1, aP p.2))).length : Int)))))] ?_ ?_
  ·refine ⟨[(17, 0, cQ aX r2.1), (18, 1, .cp [.lit (.int .i64 x4.Tree.Rounds), .sl 1 (x4.Tree.Slots.map aP), .sl 1 (x4.players.map aP), .mp false (x4.won.map fun p : aB × Int => ((fun a : aB => Value.agg ((aK a).map bK).toArray) p.1, aP p.2))]), (19, 2, .cp [.lit (.int .i64 x4.Tree.Rounds), .sl 1 (x4.Tree.Slots.map aP)]), (20, 3, .cp [.sl 1 (x4.Tree.Slots.map aP)]), (21, 4, .d (.sl 1 (x4.Tree.Slots.map aP))), (22, 5, .d (.lit (.int .i64 ((x4.Tree.Slots.length : Int))))), (23, 6, .d (.lit (.int .i64 ((w64 ((x4.Tree.Slots.length : Int) - 1)))))), (24, 7, cQ aX r2.1), (25, 8, .cp [.lit (.int .i64 x6.Tree.Rounds), .sl 1 (x6.Tree.Slots.map aP), .sl 1 (x6.players.map aP), .mp false (x6.won.map fun p : aB × Int => ((fun a : aB => Value.agg ((aK a).map bK).toArray) p.1, aP p.2))]), (26, 9, .cp [.mp false (x6.won.map fun p : aB × Int => ((fun a : aB => Value.agg ((aK a).map bK).toArray) p.1, aP p.2))]), (27, 10, .d (.mp false (x6.won.map fun p : aB × Int => ((fun a : aB => Value.agg ((aK a).map bK).toArray) p.1, aP p.2)))), (28, 11, .d (.lit (.int .i64 ((((x6.won.map fun p : aB × Int => ((fun a : aB => Value.agg ((aK a).map bK).toArray) p.1, aP p.2))).length : Int)))))], ?_, ?_⟩
   · exact ⟨by kernel_rfl, by kernel_rfl, by kernel_rfl, by kernel_rfl, by kernel_rfl, [([], []), ([0], []), ([1], []), ([2], []), ([3], []), ([4], []), ([5], []), ([], []), ([7], []), ([8], []), ([9], []), ([10], [])], by kernel_rfl, ⟨fun S hS => aH rfl (aS rfl (aC (v := cQ aX r2.1) (aA rfl) (aI hS rfl) rfl)),
      fun S hS => aH rfl (aS rfl (pT (enc := aX) (aA rfl) (aI hS rfl) h5)),
      fun S hS => aH rfl (aS rfl (cI (aA rfl) (aI hS rfl) nX (es := [.lit (.int .i64 x4.Tree.Rounds), .sl 1 (x4.Tree.Slots.map aP)]) rfl)),
      fun S hS => aH rfl (aS rfl (cI (aA rfl) (aI hS rfl) dV (es := [.sl 1 (x4.Tree.Slots.map aP)]) rfl)),
      fun S hS => aH rfl (aS rfl (bM (aA rfl) (aI hS rfl) dJ)),
      fun S hS => aH rfl (aS rfl (eI (aA rfl) (aI hS rfl) bX.of)),
      fun S hS => aH rfl (aS rfl (bO (aA rfl) (aI hS rfl) rfl rfl)),
      fun S hS => aH rfl (aS rfl (aC (v := cQ aX r2.1) (aA rfl) (aI hS rfl) rfl)),
      fun S hS => aH rfl (aS rfl (pT (enc := aX) (aA rfl) (aI hS rfl) h7)),
      fun S hS => aH rfl (aS rfl (cI (aA rfl) (aI hS rfl) rP (es := [.mp false (x6.won.map fun p : aB × Int => ((fun a : aB => Value.agg ((aK a).map bK).toArray) p.1, aP p.2))]) rfl)),
      fun S hS => aH rfl (aS rfl (bM (aA rfl) (aI hS rfl) vH)),
      fun S hS => aH rfl (aS rfl (aGb (aA rfl) Try.underlying73 (aI hS rfl) rfl)), trivial⟩⟩
   · exact dE (aU rfl (aU rfl (bC trivial)))
  ·refine tr1 rfl (bO (aA rfl) rfl rfl rfl) ?_
   refine tr1 rfl (aJ (v := .d (.lit (.int .i64 ((w64 ((w64 ((x4.Tree.Slots.length : Int) - 1)) - (((x6.won.map fun p : aB × Int => ((fun a : aB => Value.agg ((aK a).map bK).toArray) p.1, aP p.2))).length : Int))))))) (aA rfl) rfl rfl) ?_
   refine tr1 rfl (aJ (v := .d (.lit (.int .i64 0))) (aA rfl) rfl rfl) ?_
   refine aF ?_
   exact bQ ⟨rfl, _, [], [.box b1 0 (aT t_0)], _, .two (.tmp 4 (v := .d (.lit (.int .i64 ((w64 ((w64 ((x4.Tree.Slots.length : Int) - 1)) - (((x6.won.map fun p : aB × Int => ((fun a : aB => Value.agg ((aK a).map bK).toArray) p.1, aP p.2))).length : Int))))))) rfl) (.tmp 5 (v := .d (.lit (.int .i64 0))) rfl), .refl _, .same _, (w64 ((w64 ((x4.Tree.Slots.length : Int) - 1)) - (((x6.won.map fun p : aB × Int => ((fun a : aB => Value.agg ((aK a).map bK).toArray) p.1, aP p.2))).length : Int)), 0), h, rfl, rfl⟩

theorem wV (t_0 : aO) (l_1 : List aE) (players_2 : List Int) {Q : ((Option bB) × (List Int) × Int) → Prop} (h : lM t_0 l_1 players_2 Q) : eR Try.prog 49 [.agg (aT t_0), .d (.sl 5 (l_1.map aM)), .d (.sl 1 (players_2.map aP))] [] (fun r' o' => ∃ (r : (Option bB) × (List Int) × Int), Q r ∧ r' = .tup [cQ aX r.1, .d (.sl 1 (r.2.1.map aP)), .d (.lit (.int .i64 r.2.2))] ∧ o' = []) := by
 unfold lM at h
 refine fO Try.func49 rfl (rs := [.tmp 6, .tmp 7, .tmp 8]) Try.results49 Try.ntmps49 (Nat.le_of_ble_eq_true rfl) ?_
 refine aG ?_
 refine aD ?_
 refine cD rfl (gF (v := .agg (aT t_0)) (aA rfl) rfl rfl rfl) ?_
 rintro _ ⟨b1, rfl⟩
 refine tr1 rfl (aJ (v := cQ aX (none : Option bB)) (aA rfl) rfl rfl) ?_
 refine tr1 rfl (kT 3 1 (.inl rfl) (aA rfl)) ?_
 refine tr1 rfl (aJ (v := .d (.lit (.int .i64 0))) (aA rfl) rfl rfl) ?_
 refine aF ?_
 refine aG ?_
 refine aD ?_
 refine tr1 rfl (bT (aA rfl) rfl (i := 0) rfl eB (es := (aT t_0)) rfl rfl) ?_
 refine tr1 rfl (aC (v := .d (.sl 5 (l_1.map aM))) (aA rfl) rfl rfl) ?_
 refine cD rfl (nG (aA rfl) (.func _ _ Try.call48) rfl rfl (nA _ _ h)) ?_
 rintro _ ⟨_, _, ⟨r3, h, rfl, rfl⟩, rfl⟩
 refine tr1 rfl (aC (v := .tup [cQ aX r3.1, .d (.lit (.int .i64 r3.2))]) (aA rfl) rfl rfl) ?_
 refine tr1 rfl (bW (aA rfl) rfl rfl) ?_
 refine tr1 rfl (bW (aA rfl) rfl rfl) ?_
 refine tr1 rfl (aJ (v := cQ aX r3.1) (aA rfl) rfl rfl) ?_
 refine tr1 rfl (aJ (v := .d (.lit (.int .i64 r3.2))) (aA rfl) rfl rfl) ?_
 refine aF ?_
 refine aG ?_
 refine aG ?_
 refine aD ?_
 refine tr1 rfl (aC (v := .d (.lit (.int .i64 r3.2))) (aA rfl) rfl rfl) ?_
 refine tr1 rfl (bG (aA rfl) rfl rfl rfl) ?_
 refine aF ?_
 refine bU rfl (fun c4 => ?_) (fun c4 => ?_)
 ·have h := eA c4 h
  refine aG ?_
  refine aD ?_
  refine tr1 rfl (aC (v := .d (.lit (.int .i64 r3.2))) (aA rfl) rfl rfl) ?_
  refine tr1 rfl (aJ (v := cQ aX (none : Option bB)) (aA rfl) rfl rfl) ?_
  refine tr1 rfl (kT 3 1 (.inl rfl) (aA rfl)) ?_
  refine tr1 rfl (aJ (v := .d (.lit (.int .i64 r3.2))) (aA rfl) rfl rfl) ?_
  refine aF ?_
  exact bQ ⟨rfl, _, [], [.box b1 0 (aT t_0), .arr (.slice none 0 0) 3 1 (([] : List Int).map aP), .arr (.slice none 0 0) 3 1 (([] : List Int).map aP)], _, .three (.tmp 6 (v := cQ aX (none : Option bB)) rfl) (.tmp 7 (v := .d (.lit (.slice none 0 0))) rfl) (.tmp 8 (v := .d (.lit (.int .i64 r3.2))) rfl), .refl _, tJ (.cons (.same _) (.cons (.d (lX 2 rfl (dM (f := aP) fun _ => rfl))) (.cons (.same _) .nil))), ((none : Option bB), ([] : List Int), r3.2), h, rfl, rfl⟩
 ·have h := dZ c4 h
  refine bR ?_
  refine aG ?_
  refine aG ?_
  refine aD ?_
  refine tr1 rfl (aC (v := .d (.sl 1 (players_2.map aP))) (aA rfl) rfl rfl) ?_
  refine tr1 rfl (eI (aA rfl) rfl bX.of) ?_
  refine tr1 rfl (aC (v := .d (.lit (.int .i64 0))) (aA rfl) rfl rfl) ?_
  refine aF ?_
  refine cG ?_
  refine oA [20, 21] (fun (s6 : (Option bB) × Int × (List Int) × Value) => [(6, cQ aX s6.1), (7, .d (.lit s6.2.2.2)), (22, .d (.lit (.int .i64 s6.2.1)))]) (fun (s6 : (Option bB) × Int × (List Int) × Value) => [.arr s6.2.2.2 3 1 (s6.2.2.1.map aP)]) (fun (k : Nat) (s6 : (Option bB) × Int × (List Int) × Value) => kD Q players_2 (players_2.length : Int) k s6.1 s6.2.1 s6.2.2.1) (fun _ h => h) (r3.1, 0, ([] : List Int), (.slice none 0 0)) h (bE [1] rfl rfl (aU rfl (aU rfl (aU rfl (bC ⟨rfl, rfl, trivial⟩))))) ?_
  rintro k8 ⟨d_0_6, t22_0_6, slots_0_6, w7⟩ h
  simp only [kD] at h
  refine aG ?_
  refine aD ?_
  refine tr1 rfl (bG (aA rfl) rfl rfl rfl) ?_
  refine aF ?_
  refine aG ?_
  refine bU rfl (fun c9 => ?_) (fun c9 => ?_)
  ·have h := eA c9 h
   refine bR ?_
   refine aG ?_
   refine cG ?_
   refine aG ?_
   refine aD ?_
   obtain ⟨x10, h11, h⟩ := cT h
   refine tr1 rfl (bL (aA rfl) rfl rfl bX.of (bS aP h11)) ?_
   refine tr1 rfl (bM (aA rfl) rfl bF) ?_
   refine tr1 rfl (aJ (v := .d (.lit (.int .i64 x10))) (aA rfl) rfl rfl) ?_
   refine aF ?_
   refine aG ?_
   refine aG ?_
   refine aD ?_
   refine tr1 rfl (aC (v := .d (.lit (.int .i64 x10))) (aA rfl) rfl rfl) ?_
   obtain ⟨r12, h13, h⟩ := cT h
   refine tr1 rfl (cR (aA rfl) (.func _ _ Try.call72) rfl rfl (BVs.refl _ _) (eS _ _ _ h13) rfl) ?_
   refine tr1 rfl (gT (aA rfl) rfl) ?_
   refine aF ?_
   refine bU rfl (fun c14 => ?_) (fun c14 => ?_)
   ·have h := eA c14 h
    refine aG ?_
    refine aD ?_
    refine tr1 rfl (aJ (v := cQ aX (none : Option bB)) (aA rfl) rfl rfl) ?_
    refine tr1 rfl (kT 3 1 (.inl rfl) (aA rfl)) ?_
    refine tr1 rfl (aJ (v := .d (.lit (.int .i64 1))) (aA rfl) rfl rfl) ?_
    refine aF ?_
    exact bQ ⟨rfl, _, [], [.arr w7 3 1 (slots_0_6.map aP), .arr (.slice none 0 0) 3 1 (([] : List Int).map aP)], _, .three (.tmp 6 (v := cQ aX (none : Option bB)) rfl) (.tmp 7 (v := .d (.lit (.slice none 0 0))) rfl) (.tmp 8 (v := .d (.lit (.int .i64 1))) rfl), .refl _, tJ (.cons (.same _) (.cons (.d (lX 1 rfl (dM (f := aP) fun _ => rfl))) (.cons (.same _) .nil))), ((none : Option bB), ([] : List Int), 1), h, rfl, rfl⟩
   ·have h := dZ c14 h
    refine bR ?_
    refine aD ?_
    refine tr1 rfl (aC (v := .d (.lit w7)) (aA rfl) rfl rfl) ?_
    refine tr1 rfl (aC (v := cQ aX d_0_6) (aA rfl) rfl rfl) ?_
    obtain ⟨x16, h17, h⟩ := cT h
    refine tr1 rfl (pT (enc := aX) (aA rfl) rfl h17) ?_
    refine tr1 rfl (cI (aA rfl) rfl lF (es := [.sl 1 (x16.players.map aP)]) rfl) ?_
    refine tr1 rfl (bM (aA rfl) rfl dJ) ?_
    refine tr1 rfl (aC (v := .d (.lit (.int .i64 x10))) (aA rfl) rfl rfl) ?_
    obtain ⟨r18, h19, h⟩ := cT h
    refine tr1 rfl (cR (aA rfl) (.func _ _ Try.call73) rfl rfl (BVs.refl _ _) (pH _ _ h19) rfl) ?_
    refine tr1 rfl (gG (aA rfl) bX rfl rfl (rows := ([r18]).map aP) rfl (dM (f := aP) fun _ => rfl) rfl (by decide)) ?_
    obtain ⟨x20, h21, h⟩ := cT h
    refine cD rfl (fZ (i := 0) (aA rfl) bX rfl rfl rfl (fun _ => rfl) h21 rfl) ?_
    rintro _ ⟨v22, rfl⟩
    refine tr1 rfl (aJ (v := .d (.lit v22)) (aA rfl) rfl rfl) ?_
    refine fA ?_
    refine aD ?_
    refine tr1 rfl (bO (aA rfl) rfl rfl rfl) ?_
    refine tr1 rfl (aC (v := .d (.lit (.int .i64 ((w64 (t22_0_6 + 1)))))) (aA rfl) rfl rfl) ?_
    refine aF ?_
    exact ⟨(d_0_6, w64 (t22_0_6 + 1), x20, v22), h, bE [0] rfl rfl (aU rfl (aU rfl (aU rfl (bC ⟨rfl, rfl, trivial⟩))))⟩
  ·have h := dZ c9 h
   refine dA ?_
   refine .inl ⟨rfl, ?_⟩
   simp only [rM] at h
   refine aG ?_
   refine aD ?_
   refine tr1 rfl (aC (v := cQ aX d_0_6) (aA rfl) rfl rfl) ?_
   refine tr1 rfl (aC (v := .d (.lit w7)) (aA rfl) rfl rfl) ?_
   refine tr1 rfl (aJ (v := cQ aX d_0_6) (aA rfl) rfl rfl) ?_
   refine tr1 rfl (aJ (v := .d (.lit w7)) (aA rfl) rfl rfl) ?_
   refine tr1 rfl (aJ (v := .d (.lit (.int .i64 0))) (aA rfl) rfl rfl) ?_
   refine aF ?_
   exact bQ ⟨rfl, _, [], [.arr w7 3 1 (slots_0_6.map aP)], _, .three (.tmp 6 (v := cQ aX d_0_6) rfl) (.tmp 7 (v := .d (.lit w7)) rfl) (.tmp 8 (v := .d (.lit (.int .i64 0))) rfl), .refl _, tJ (.cons (.same _) (.cons (.d (lX 0 rfl (dM (f := aP) fun _ => rfl))) (.cons (.same _) .nil))), (d_0_6, slots_0_6, 0), h, rfl, rfl⟩

theorem xF (d_0 : bB) (slot_1 : Int) {r : Int} (h : lW d_0 slot_1 = some r) : Fn Try.prog 50 [.cp (aX d_0), .d (.lit (.int .i64 slot_1))] (.d (.lit (.int .i64 r))) := by
 unfold lW at h
 refine Fn.of_tr Try.func50 rfl (rs := [.tmp 4]) Try.results50 Try.ntmps50 (Nat.le_of_ble_eq_true rfl) ?_
 refine aG ?_
 refine aD ?_
 refine tr1 rfl (aJ (v := .d (.lit (.int .i64 0))) (aA rfl) rfl rfl) ?_
 refine aF ?_
 refine aG ?_
 refine aG ?_
 refine aD ?_
 refine tr1 rfl (aC (v := .cp [.lit (.int .i64 d_0.Tree.Rounds), .sl 1 (d_0.Tree.Slots.map aP), .sl 1 (d_0.players.map aP), .mp false (d_0.won.map fun p : aB × Int => ((fun a : aB => Value.agg ((aK a).map bK).toArray) p.1, aP p.2))]) (aA rfl) rfl rfl) ?_
 refine tr1 rfl (iE (aA rfl) rfl) ?_
 refine tr1 rfl (cI (aA rfl) rfl nX (es := [.lit (.int .i64 d_0.Tree.Rounds), .sl 1 (d_0.Tree.Slots.map aP)]) rfl) ?_
 refine tr1 rfl (cI (aA rfl) rfl iH (es := [.lit (.int .i64 d_0.Tree.Rounds)]) rfl) ?_
 refine tr1 rfl (bM (aA rfl) rfl bF) ?_
 refine tr1 rfl (aC (v := .d (.lit (.int .i64 0))) (aA rfl) rfl rfl) ?_
 refine aF ?_
 refine cG ?_
 refine dO [0, 1, 12] (fun (s1 : Int) => [(13, .d (.lit (.int .i64 s1)))]) (fun (s1 : Int) => []) (fun (k : Nat) (s1 : Int) => gN d_0 slot_1 d_0.Tree.Rounds k s1) (fun _ => rfl) (0) h (bE [] rfl rfl (aU rfl (bC ⟨rfl, rfl, rfl, trivial⟩))) ?_
 rintro k2 t13_0_1 h
 simp only [gN] at h
 refine aG ?_
 refine aD ?_
 refine tr1 rfl (bG (aA rfl) rfl rfl rfl) ?_
 refine aF ?_
 refine aG ?_
 refine bU rfl (fun c3 => ?_) (fun c3 => ?_)
 ·have h := aZ c3 h
  refine bR ?_
  refine aG ?_
  refine cG ?_
  refine aG ?_
  refine aD ?_
  refine tr1 rfl (aC (v := .d (.lit (.int .i64 t13_0_1))) (aA rfl) rfl rfl) ?_
  refine tr1 rfl (aJ (v := .d (.lit (.int .i64 t13_0_1))) (aA rfl) rfl rfl) ?_
  refine aF ?_
  refine aG ?_
  obtain ⟨r4, h5, h⟩ := bind_some h
  refine dW mix 12 [0, 1, 5, 12, 13] [(6, .d (.lit (.int .i64 ((cP r4 0 d_0.won))))), (26, .d (.lit (.bool ((cY r4 d_0.won)))))] ?_ ?_
  ·refine ⟨[(17, 0, .cp [.lit (.int .i64 d_0.Tree.Rounds), .sl 1 (d_0.Tree.Slots.map aP), .sl 1 (d_0.players.map aP), .mp false (d_0.won.map fun p : aB × Int => ((fun a : aB => Value.agg ((aK a).map bK).toArray) p.1, aP p.2))]), (18, 1, .cp [.lit (.int .i64 d_0.Tree.Rounds), .sl 1 (d_0.Tree.Slots.map aP), .sl 1 (d_0.players.map aP), .mp false (d_0.won.map fun p : aB × Int => ((fun a : aB => Value.agg ((aK a).map bK).toArray) p.1, aP p.2))]), (19, 2, .cp [.mp false (d_0.won.map fun p : aB × Int => ((fun a : aB => Value.agg ((aK a).map bK).toArray) p.1, aP p.2))]), (20, 3, .d (.mp false (d_0.won.map fun p : aB × Int => ((fun a : aB => Value.agg ((aK a).map bK).toArray) p.1, aP p.2)))), (21, 4, .d (.lit (.int .i64 t13_0_1))), (22, 5, .d (.lit (.int .i64 slot_1))), (23, 6, .agg (aK r4)), (24, 7, .tup [.d (.lit (.int .i64 ((cP r4 0 d_0.won)))), .d (.lit (.bool ((cY r4 d_0.won))))]), (16, 8, .tup [.d (.lit (.int .i64 ((cP r4 0 d_0.won)))), .d (.lit (.bool ((cY r4 d_0.won))))]), (25, 9, .d (.lit (.int .i64 ((cP r4 0 d_0.won))))), (26, 10, .d (.lit (.bool ((cY r4 d_0.won))))), (6, 11, .d (.lit (.int .i64 ((cP r4 0 d_0.won)))))], ?_, ?_⟩
   · exact ⟨by kernel_rfl, by kernel_rfl, by kernel_rfl, by kernel_rfl, by kernel_rfl, [([], []), ([0], []), ([1], []), ([2], []), ([], []), ([], []), ([4, 5], []), ([3, 6], []), ([7], []), ([8], []), ([8], []), ([9], [])], by kernel_rfl, ⟨fun S hS => aH rfl (aS rfl (aC (v := .cp [.lit (.int .i64 d_0.Tree.Rounds), .sl 1 (d_0.Tree.Slots.map aP), .sl 1 (d_0.players.map aP), .mp false (d_0.won.map fun p : aB × Int => ((fun a : aB => Value.agg ((aK a).map bK).toArray) p.1, aP p.2))]) (aA rfl) (aI hS rfl) rfl)),
      fun S hS => aH rfl (aS rfl (iE (aA rfl) (aI hS rfl))),
      fun S hS => aH rfl (aS rfl (cI (aA rfl) (aI hS rfl) rP (es := [.mp false (d_0.won.map fun p : aB × Int => ((fun a : aB => Value.agg ((aK a).map bK).toArray) p.1, aP p.2))]) rfl)),
      fun S hS => aH rfl (aS rfl (bM (aA rfl) (aI hS rfl) vH)),
      fun S hS => aH rfl (aS rfl (aC (v := .d (.lit (.int .i64 t13_0_1))) (aA rfl) (aI hS rfl) rfl)),
      fun S hS => aH rfl (aS rfl (aC (v := .d (.lit (.int .i64 slot_1))) (aA rfl) (aI hS rfl) rfl)),
      fun S hS => aH rfl (aS rfl (iD (aA rfl) (.func _ _ Try.call45) (ev2 (aI hS rfl) (ev2 (aI hS rfl) evn)) rfl (jH _ _ h5))),
      fun S hS => aH rfl (aS rfl (sS (enc := aP) (agg := false) (l := d_0.won) (z := 0) (a := r4) (aA rfl) tR Try.underlying73 Try.zeroValue3 (fun _ _ => .d (.lit _ rfl)) (aI hS rfl) rfl rfl (aI hS rfl) (lN (enc := aK) r4 rfl))),
      fun S hS => aH rfl (aS rfl (aC (v := .tup [.d (.lit (.int .i64 ((cP r4 0 d_0.won)))), .d (.lit (.bool ((cY r4 d_0.won))))]) (aA rfl) (aI hS rfl) rfl)),
      fun S hS => aH rfl (aS rfl (bW (aA rfl) (aI hS rfl) rfl)),
      fun S hS => aH rfl (aS rfl (bW (aA rfl) (aI hS rfl) rfl)),
      fun S hS => aH rfl (aS rfl (aJ (v := .d (.lit (.int .i64 ((cP r4 0 d_0.won))))) (aA rfl) (aI hS rfl) rfl)), trivial⟩⟩
   · exact dE (aU rfl (aU rfl (bC ⟨rfl, rfl, rfl, rfl, rfl, trivial⟩)))
  ·refine tr1 rfl (aJ (v := .d (.lit (.bool ((cY r4 d_0.won))))) (aA rfl) rfl rfl) ?_
   refine aF ?_
   refine aG ?_
   refine aD ?_
   refine tr1 rfl (aC (v := .d (.lit (.bool ((cY r4 d_0.won))))) (aA rfl) rfl rfl) ?_
   refine tr1 rfl (gT (aA rfl) rfl) ?_
   refine tr1 rfl (aC (v := .d (.lit (.bool ((!(cY r4 d_0.won)))))) (aA rfl) rfl rfl) ?_
   obtain ⟨b6, h7, h⟩ := bind_some h
   refine cC 10 [0, 1, 5, 12, 13] 39 b6 ?_ ?_
   ·refine bH (!(cY r4 d_0.won)) (fun c9 => ?_) (fun c9 => ?_)
    ·have h7 := aZ c9 h7
     refine aN rfl rfl (aA rfl) rfl (aA rfl) rfl c9 ?_
     refine aN rfl rfl (aA rfl) rfl (aA rfl) rfl c9 ?_
     refine aN rfl rfl (aA rfl) rfl (aA rfl) rfl c9 ?_
     refine aN rfl rfl (aA rfl) rfl (aA rfl) rfl c9 ?_
     refine aN rfl rfl (aA rfl) rfl (aA rfl) rfl c9 ?_
     refine aN rfl rfl (aA rfl) rfl (aA rfl) rfl c9 ?_
     refine aN rfl rfl (aA rfl) rfl (aA rfl) rfl c9 ?_
     refine aN rfl rfl (aA rfl) rfl (aA rfl) rfl c9 ?_
     refine aN rfl rfl (aA rfl) rfl (aA rfl) rfl c9 ?_
     refine tr1 rfl (bP (v := .d (.lit (.bool true))) (aA rfl) rfl c9 rfl rfl) ?_
     have h7 := Option.some.inj h7
     subst h7
     refine aF (bA rfl ⟨rfl, rfl, rfl, rfl, rfl, trivial⟩ rfl)
    ·have h7 := aY c9 h7
     refine aL rfl rfl (aA rfl) rfl c9 (aC (v := .d (.lit (.int .i64 ((cP r4 0 d_0.won))))) (aA rfl) rfl rfl) ?_
     refine aL rfl rfl (aA rfl) rfl c9 (aC (v := .cp [.lit (.int .i64 d_0.Tree.Rounds), .sl 1 (d_0.Tree.Slots.map aP), .sl 1 (d_0.players.map aP), .mp false (d_0.won.map fun p : aB × Int => ((fun a : aB => Value.agg ((aK a).map bK).toArray) p.1, aP p.2))]) (aA rfl) rfl rfl) ?_
     refine aL rfl rfl (aA rfl) rfl c9 (iE (aA rfl) rfl) ?_
     refine aL rfl rfl (aA rfl) rfl c9 (cI (aA rfl) rfl lF (es := [.sl 1 (d_0.players.map aP)]) rfl) ?_
     refine aL rfl rfl (aA rfl) rfl c9 (bM (aA rfl) rfl dJ) ?_
     refine aL rfl rfl (aA rfl) rfl c9 (aC (v := .d (.lit (.int .i64 slot_1))) (aA rfl) rfl rfl) ?_
     obtain ⟨x10, h11, h7⟩ := bind_some h7
     refine aL rfl rfl (aA rfl) rfl c9 (bL (aA rfl) rfl rfl bX.of (bS aP h11)) ?_
     refine aL rfl rfl (aA rfl) rfl c9 (bM (aA rfl) rfl bF) ?_
     refine aL rfl rfl (aA rfl) rfl c9 (bG (aA rfl) rfl rfl rfl) ?_
     refine tr1 rfl (bN (v := .d (.lit (.bool ((!decide ((cP r4 0 d_0.won) = x10)))))) (aA rfl) rfl c9 rfl rfl) ?_
     have h7 := Option.some.inj h7
     subst h7
     refine aF (bA rfl ⟨rfl, rfl, rfl, rfl, rfl, trivial⟩ rfl)
   ·refine aF ?_
    refine bU rfl (fun c8 => ?_) (fun c8 => ?_)
    ·have h := aZ c8 h
     refine aG ?_
     refine aD ?_
     refine tr1 rfl (aC (v := .d (.lit (.int .i64 t13_0_1))) (aA rfl) rfl rfl) ?_
     refine tr1 rfl (aJ (v := .d (.lit (.int .i64 t13_0_1))) (aA rfl) rfl rfl) ?_
     refine aF ?_
     have h := Option.some.inj h
     subst h
     exact bQ ⟨rfl, _, .one _, rfl, rfl⟩
    ·have h := aY c8 h
     refine eG ?_
     refine aD ?_
     refine tr1 rfl (bO (aA rfl) rfl rfl rfl) ?_
     refine tr1 rfl (aC (v := .d (.lit (.int .i64 ((w64 (t13_0_1 + 1)))))) (aA rfl) rfl rfl) ?_
     refine aF ?_
     exact ⟨(w64 (t13_0_1 + 1)), h, bE [] rfl rfl (aU rfl (bC ⟨rfl, rfl, rfl, trivial⟩))⟩
 ·have h := aY c3 h
  refine dA ?_
  refine .inl ⟨rfl, ?_⟩
  simp only [oK] at h
  refine aG ?_
  refine aD ?_
  refine tr1 rfl (aC (v := .cp [.lit (.int .i64 d_0.Tree.Rounds), .sl 1 (d_0.Tree.Slots.map aP), .sl 1 (d_0.players.map aP), .mp false (d_0.won.map fun p : aB × Int => ((fun a : aB => Value.agg ((aK a).map bK).toArray) p.1, aP p.2))]) (aA rfl) rfl rfl) ?_
  refine tr1 rfl (iE (aA rfl) rfl) ?_
  refine tr1 rfl (cI (aA rfl) rfl nX (es := [.lit (.int .i64 d_0.Tree.Rounds), .sl 1 (d_0.Tree.Slots.map aP)]) rfl) ?_
  refine tr1 rfl (cI (aA rfl) rfl iH (es := [.lit (.int .i64 d_0.Tree.Rounds)]) rfl) ?_
  refine tr1 rfl (bM (aA rfl) rfl bF) ?_
  refine tr1 rfl (aJ (v := .d (.lit (.int .i64 d_0.Tree.Rounds))) (aA rfl) rfl rfl) ?_
  refine aF ?_
  have h := Option.some.inj h
  subst h
  exact bQ ⟨rfl, _, .one _, rfl, rfl⟩

theorem yZ (t_0 : aO) (l_1 : List aE) (player_2 : Int) {Q : (dR × Int) → Prop} (h : mK t_0 l_1 player_2 Q) : eR Try.prog 17 [.agg (aT t_0), .d (.sl 5 (l_1.map aM)), .d (.lit (.int .i64 player_2))] [] (fun r' o' => ∃ (r : dR × Int), Q r ∧ r' = .tup [.agg (fF r.1), .d (.lit (.int .i64 r.2))] ∧ o' = []) := by
 unfold mK at h
 refine fO Try.func17 rfl (rs := [.cell 6 39, .tmp 7]) Try.results17 Try.ntmps17 (Nat.le_of_ble_eq_true rfl) ?_
 refine aG ?_
 refine aD ?_
 refine cD rfl (gF (v := .agg (aT t_0)) (aA rfl) rfl rfl rfl) ?_
 rintro _ ⟨b1, rfl⟩
 refine cD rfl (eN (zs := [.lit (.int .i64 0), .lit (.int .i64 0)]) (aA rfl) Try.zeroValue39 rfl rfl) ?_
 rintro _ ⟨b2, rfl⟩
 refine tr1 rfl (aJ (v := .d (.lit (.int .i64 0))) (aA rfl) rfl rfl) ?_
 refine aF ?_
 refine aG ?_
 refine aD ?_
 refine tr1 rfl (bT (aA rfl) rfl (i := 0) rfl eB (es := (aT t_0)) rfl rfl) ?_
 refine tr1 rfl (aC (v := .d (.sl 5 (l_1.map aM))) (aA rfl) rfl rfl) ?_
 refine tr1 rfl (aC (v := .d (.lit (.int .i64 player_2))) (aA rfl) rfl rfl) ?_
 refine tr1 rfl (gG (aA rfl) bX rfl rfl (rows := ([player_2]).map aP) rfl (dM (f := aP) fun _ => rfl) rfl (by decide)) ?_
 refine cD rfl (nG (aA rfl) (.func _ _ Try.call49) rfl rfl (wV _ _ _ h)) ?_
 rintro _ ⟨_, _, ⟨r3, h, rfl, rfl⟩, rfl⟩
 refine tr1 rfl (aC (v := .tup [cQ aX r3.1, .d (.sl 1 (r3.2.1.map aP)), .d (.lit (.int .i64 r3.2.2))]) (aA rfl) rfl rfl) ?_
 refine tr1 rfl (bW (aA rfl) rfl rfl) ?_
 refine tr1 rfl (bW (aA rfl) rfl rfl) ?_
 refine tr1 rfl (bW (aA rfl) rfl rfl) ?_
 refine tr1 rfl (aJ (v := cQ aX r3.1) (aA rfl) rfl rfl) ?_
 refine tr1 rfl (aJ (v := .d (.sl 1 (r3.2.1.map aP))) (aA rfl) rfl rfl) ?_
 refine tr1 rfl (aJ (v := .d (.lit (.int .i64 r3.2.2))) (aA rfl) rfl rfl) ?_
 refine aF ?_
 refine aG ?_
 refine cG ?_
 refine aG ?_
 refine aD ?_
 refine tr1 rfl (aC (v := .d (.lit (.int .i64 r3.2.2))) (aA rfl) rfl rfl) ?_
 refine tr1 rfl (bG (aA rfl) rfl rfl rfl) ?_
 refine tr1 rfl (aJ (v := .d (.lit (.bool ((!decide (r3.2.2 = 0)))))) (aA rfl) rfl rfl) ?_
 refine aF ?_
 refine bU rfl (fun c4 => ?_) (fun c4 => ?_)
 ·have h := eA c4 h
  refine aG ?_
  refine aD ?_
  refine tr1 rfl (eZ (aA rfl) aBz (zs := [.lit (.int .i64 0), .lit (.int .i64 0)]) rfl rfl rfl rfl (es := [.lit (.int .i64 0), .lit (.int .i64 0)]) rfl) ?_
  refine tr1 rfl (aC (v := .d (.lit (.int .i64 r3.2.2))) (aA rfl) rfl rfl) ?_
  refine tr1 rfl (cO (i := 1) rfl rfl rfl rfl rfl Try.sizeOf39 rfl (aA rfl) (Nat.le_of_ble_eq_true rfl) (ds' := (fF (dR.mk 0 0))) rfl) ?_
  refine tr1 rfl (aJ (v := .d (.lit (.int .i64 r3.2.2))) (aA rfl) rfl rfl) ?_
  refine aF ?_
  exact bQ ⟨rfl, _, [], [.box b1 0 (aT t_0), .box b2 0 (fF (dR.mk 0 0))], _, .two (.cell 6 39 rfl (i := 1) rfl aAr (es := (fF (dR.mk 0 0))) rfl rfl) (.tmp 7 (v := .d (.lit (.int .i64 r3.2.2))) rfl), .refl _, .same _, ((dR.mk 0 0), r3.2.2), h, rfl, rfl⟩
 ·have h := dZ c4 h
  refine aG ?_
  refine aD ?_
  refine tr1 rfl (aC (v := .d (.sl 1 (r3.2.1.map aP))) (aA rfl) rfl rfl) ?_
  obtain ⟨x5, h6, h⟩ := cT h
  refine tr1 rfl (bL (aA rfl) rfl rfl bX.of (bS aP h6)) ?_
  refine tr1 rfl (bM (aA rfl) rfl bF) ?_
  refine tr1 rfl (bG (aA rfl) rfl rfl rfl) ?_
  refine tr1 rfl (aJ (v := .d (.lit (.bool ((decide (x5 < 0)))))) (aA rfl) rfl rfl) ?_
  refine aF ?_
  refine bU rfl (fun c7 => ?_) (fun c7 => ?_)
  ·have h := eA c7 h
   refine aG ?_
   refine aD ?_
   refine tr1 rfl (eZ (aA rfl) aBz (zs := [.lit (.int .i64 0), .lit (.int .i64 0)]) rfl rfl rfl rfl (es := [.lit (.int .i64 0), .lit (.int .i64 0)]) rfl) ?_
   refine tr1 rfl (cO (i := 1) rfl rfl rfl rfl rfl Try.sizeOf39 rfl (aA rfl) (Nat.le_of_ble_eq_true rfl) (ds' := (fF (dR.mk 0 0))) rfl) ?_
   refine tr1 rfl (aJ (v := .d (.lit (.int .i64 3))) (aA rfl) rfl rfl) ?_
   refine aF ?_
   exact bQ ⟨rfl, _, [], [.box b1 0 (aT t_0), .box b2 0 (fF (dR.mk 0 0))], _, .two (.cell 6 39 rfl (i := 1) rfl aAr (es := (fF (dR.mk 0 0))) rfl rfl) (.tmp 7 (v := .d (.lit (.int .i64 3))) rfl), .refl _, .same _, ((dR.mk 0 0), 3), h, rfl, rfl⟩
  ·have h := dZ c7 h
   refine eG ?_
   refine aG ?_
   obtain ⟨x8, h9, h⟩ := cT h
   refine cV (yQ (enc := aX) (k := 8) rfl h9) ?_
   obtain ⟨x10, h11, h⟩ := cT h
   obtain ⟨r12, h13, h⟩ := cT h
   obtain ⟨x14, h15, h⟩ := cT h
   refine dW mix 9 [6] [(35, .d (.lit (.int .i64 r12))), (36, .cp [.lit (.int .i64 x8.Tree.Rounds), .sl 1 (x8.Tree.Slots.map aP), .sl 1 (x8.players.map aP), .mp false (x8.won.map fun p : aB × Int => ((fun a : aB => Value.agg ((aK a).map bK).toArray) p.1, aP p.2))]), (39, .d (.lit (.int .i64 x14)))] ?_ ?_
   ·refine ⟨[(31, 0, .cp [.lit (.int .i64 x8.Tree.Rounds), .sl 1 (x8.Tree.Slots.map aP), .sl 1 (x8.players.map aP), .mp false (x8.won.map fun p : aB × Int => ((fun a : aB => Value.agg ((aK a).map bK).toArray) p.1, aP p.2))]), (32, 1, .d (.sl 1 (r3.2.1.map aP))), (33, 2, .cp [.lit (.int .i64 x10)]), (34, 3, .d (.lit (.int .i64 x10))), (35, 4, .d (.lit (.int .i64 r12))), (36, 5, .cp [.lit (.int .i64 x8.Tree.Rounds), .sl 1 (x8.Tree.Slots.map aP), .sl 1 (x8.players.map aP), .mp false (x8.won.map fun p : aB × Int => ((fun a : aB => Value.agg ((aK a).map bK).toArray) p.1, aP p.2))]), (37, 6, .d (.sl 1 (r3.2.1.map aP))), (38, 7, .cp [.lit (.int .i64 x14)]), (39, 8, .d (.lit (.int .i64 x14)))], ?_, ?_⟩
    · exact ⟨by kernel_rfl, by kernel_rfl, by kernel_rfl, by kernel_rfl, by kernel_rfl, [([], []), ([], []), ([1], []), ([2], []), ([0, 3], []), ([], []), ([], []), ([6], []), ([7], [])], by kernel_rfl, ⟨fun S hS => aH rfl (aS rfl (aC (v := .cp [.lit (.int .i64 x8.Tree.Rounds), .sl 1 (x8.Tree.Slots.map aP), .sl 1 (x8.players.map aP), .mp false (x8.won.map fun p : aB × Int => ((fun a : aB => Value.agg ((aK a).map bK).toArray) p.1, aP p.2))]) (aA rfl) (aI hS rfl) rfl)),
      fun S hS => aH rfl (aS rfl (aC (v := .d (.sl 1 (r3.2.1.map aP))) (aA rfl) (aI hS rfl) rfl)),
      fun S hS => aH rfl (aS rfl (bL (aA rfl) (aI hS rfl) rfl bX.of (bS aP h11))),
      fun S hS => aH rfl (aS rfl (bM (aA rfl) (aI hS rfl) bF)),
      fun S hS => aH rfl (aS rfl (cR (aA rfl) (.func _ _ Try.call50) (ev2 (aI hS rfl) (ev2 (aI hS rfl) evn)) rfl (BVs.refl _ _) (xF _ _ h13) rfl)),
      fun S hS => aH rfl (aS rfl (aC (v := .cp [.lit (.int .i64 x8.Tree.Rounds), .sl 1 (x8.Tree.Slots.map aP), .sl 1 (x8.players.map aP), .mp false (x8.won.map fun p : aB × Int => ((fun a : aB => Value.agg ((aK a).map bK).toArray) p.1, aP p.2))]) (aA rfl) (aI hS rfl) rfl)),
      fun S hS => aH rfl (aS rfl (aC (v := .d (.sl 1 (r3.2.1.map aP))) (aA rfl) (aI hS rfl) rfl)),
      fun S hS => aH rfl (aS rfl (bL (aA rfl) (aI hS rfl) rfl bX.of (bS aP h15))),
      fun S hS => aH rfl (aS rfl (bM (aA rfl) (aI hS rfl) bF)), trivial⟩⟩
    · exact dE (aU rfl (aU rfl (aU rfl (bC ⟨rfl, trivial⟩))))
   ·obtain ⟨r16, h17, h⟩ := cT h
    refine tr1 rfl (cR (aA rfl) (.func _ _ Try.call46) rfl rfl (BVs.refl _ _) (mL _ _ h17) rfl) ?_
    refine tr1 rfl (eZ (aA rfl) aBz (zs := [.lit (.int .i64 0), .lit (.int .i64 0)]) rfl rfl rfl rfl (es := [.lit (.int .i64 r12), .lit (.int .i64 r16)]) rfl) ?_
    refine tr1 rfl (cO (i := 1) rfl rfl rfl rfl rfl Try.sizeOf39 rfl (aA rfl) (Nat.le_of_ble_eq_true rfl) (ds' := (fF (dR.mk r12 r16))) rfl) ?_
    refine tr1 rfl (aJ (v := .d (.lit (.int .i64 0))) (aA rfl) rfl rfl) ?_
    refine aF ?_
    exact bQ ⟨rfl, _, [], [.box b1 0 (aT t_0), .box b2 0 (fF (dR.mk r12 r16))], _, .two (.cell 6 39 rfl (i := 1) rfl aAr (es := (fF (dR.mk r12 r16))) rfl rfl) (.tmp 7 (v := .d (.lit (.int .i64 0))) rfl), .refl _, .same _, ((dR.mk r12 r16), 0), h, rfl, rfl⟩

theorem vC (a_0 : List Int) (b_1 : List Int) {r : Bool} (h : oL a_0 b_1 = some r) : Fn Try.prog 23 [.d (.sl 1 (a_0.map aP)), .d (.sl 1 (b_1.map aP))] (.d (.lit (.bool r))) := by
 unfold oL at h
 refine Fn.of_tr Try.func23 rfl (rs := [.tmp 4]) Try.results23 Try.ntmps23 (Nat.le_of_ble_eq_true rfl) ?_
 refine aG ?_
 refine aD ?_
 refine tr1 rfl (aJ (v := .d (.lit (.bool false))) (aA rfl) rfl rfl) ?_
 refine aF ?_
 refine aG ?_
 refine aG ?_
 refine aD ?_
 refine tr1 rfl (aC (v := .d (.sl 1 (a_0.map aP))) (aA rfl) rfl rfl) ?_
 refine tr1 rfl (eI (aA rfl) rfl bX.of) ?_
 refine tr1 rfl (aC (v := .d (.sl 1 (b_1.map aP))) (aA rfl) rfl rfl) ?_
 refine tr1 rfl (eI (aA rfl) rfl bX.of) ?_
 refine tr1 rfl (bG (aA rfl) rfl rfl rfl) ?_
 refine aF ?_
 refine bU rfl (fun c1 => ?_) (fun c1 => ?_)
 ·have h := aZ c1 h
  refine aG ?_
  refine aD ?_
  refine tr1 rfl (aJ (v := .d (.lit (.bool false))) (aA rfl) rfl rfl) ?_
  refine aF ?_
  have h := Option.some.inj h
  subst h
  exact bQ ⟨rfl, _, .one _, rfl, rfl⟩
 ·have h := aY c1 h
  refine bR ?_
  refine aG ?_
  refine aG ?_
  refine aD ?_
  refine tr1 rfl (aJ (v := .d (.lit (.int .i64 0))) (aA rfl) rfl rfl) ?_
  refine aF ?_
  refine cG ?_
  refine dO [0, 1] (fun (s2 : Int) => [(5, .d (.lit (.int .i64 s2)))]) (fun (s2 : Int) => []) (fun (k : Nat) (s2 : Int) => kK a_0 b_1 k s2) (fun _ => rfl) (0) h (bE [] rfl rfl (aU rfl (bC ⟨rfl, rfl, trivial⟩))) ?_
  rintro k3 i_0_2 h
  simp only [kK] at h
  refine aG ?_
  refine aG ?_
  refine aD ?_
  refine tr1 rfl (aC (v := .d (.lit (.int .i64 i_0_2))) (aA rfl) rfl rfl) ?_
  refine tr1 rfl (aC (v := .d (.sl 1 (a_0.map aP))) (aA rfl) rfl rfl) ?_
  refine tr1 rfl (eI (aA rfl) rfl bX.of) ?_
  refine tr1 rfl (bG (aA rfl) rfl rfl rfl) ?_
  refine aF ?_
  refine bU rfl (fun c4 => ?_) (fun c4 => ?_)
  ·have h := aZ c4 h
   refine bR ?_
   refine aG ?_
   refine cG ?_
   refine aG ?_
   obtain ⟨x5, h6, h⟩ := bind_some h
   obtain ⟨x7, h8, h⟩ := bind_some h
   refine dW mix 8 [0, 1, 5] [(20, .d (.lit (.int .i64 x5))), (24, .d (.lit (.int .i64 x7)))] ?_ ?_
   ·refine ⟨[(17, 0, .d (.sl 1 (a_0.map aP))), (18, 1, .d (.lit (.int .i64 i_0_2))), (19, 2, .cp [.lit (.int .i64 x5)]), (20, 3, .d (.lit (.int .i64 x5))), (21, 4, .d (.sl 1 (b_1.map aP))), (22, 5, .d (.lit (.int .i64 i_0_2))), (23, 6, .cp [.lit (.int .i64 x7)]), (24, 7, .d (.lit (.int .i64 x7)))], ?_, ?_⟩
    · exact ⟨by kernel_rfl, by kernel_rfl, by kernel_rfl, by kernel_rfl, by kernel_rfl, [([], []), ([], []), ([0, 1], []), ([2], []), ([], []), ([], []), ([4, 5], []), ([6], [])], by kernel_rfl, ⟨fun S hS => aH rfl (aS rfl (aC (v := .d (.sl 1 (a_0.map aP))) (aA rfl) (aI hS rfl) rfl)),
      fun S hS => aH rfl (aS rfl (aC (v := .d (.lit (.int .i64 i_0_2))) (aA rfl) (aI hS rfl) rfl)),
      fun S hS => aH rfl (aS rfl (bL (aA rfl) (aI hS rfl) (aI hS rfl) bX.of (bS aP h6))),
      fun S hS => aH rfl (aS rfl (bM (aA rfl) (aI hS rfl) bF)),
      fun S hS => aH rfl (aS rfl (aC (v := .d (.sl 1 (b_1.map aP))) (aA rfl) (aI hS rfl) rfl)),
      fun S hS => aH rfl (aS rfl (aC (v := .d (.lit (.int .i64 i_0_2))) (aA rfl) (aI hS rfl) rfl)),
      fun S hS => aH rfl (aS rfl (bL (aA rfl) (aI hS rfl) (aI hS rfl) bX.of (bS aP h8))),
      fun S hS => aH rfl (aS rfl (bM (aA rfl) (aI hS rfl) bF)), trivial⟩⟩
    · exact dE (aU rfl (aU rfl (bC ⟨rfl, rfl, rfl, trivial⟩)))
   ·refine tr1 rfl (bG (aA rfl) rfl rfl rfl) ?_
    refine aF ?_
    refine bU rfl (fun c9 => ?_) (fun c9 => ?_)
    ·have h := aZ c9 h
     refine aG ?_
     refine aD ?_
     refine tr1 rfl (aJ (v := .d (.lit (.bool false))) (aA rfl) rfl rfl) ?_
     refine aF ?_
     have h := Option.some.inj h
     subst h
     exact bQ ⟨rfl, _, .one _, rfl, rfl⟩
    ·have h := aY c9 h
     refine eG ?_
     refine aD ?_
     refine tr1 rfl (aC (v := .d (.lit (.int .i64 i_0_2))) (aA rfl) rfl rfl) ?_
     refine tr1 rfl (bO (aA rfl) rfl rfl rfl) ?_
     refine tr1 rfl (aJ (v := .d (.lit (.int .i64 ((w64 (i_0_2 + 1)))))) (aA rfl) rfl rfl) ?_
     refine aF ?_
     exact ⟨(w64 (i_0_2 + 1)), h, bE [] rfl rfl (aU rfl (bC ⟨rfl, rfl, trivial⟩))⟩
  ·have h := aY c4 h
   refine dA ?_
   refine .inl ⟨rfl, ?_⟩
   simp only [pR] at h
   refine aG ?_
   refine aD ?_
   refine tr1 rfl (aJ (v := .d (.lit (.bool true))) (aA rfl) rfl rfl) ?_
   refine aF ?_
   have h := Option.some.inj h
   subst h
   exact bQ ⟨rfl, _, .one _, rfl, rfl⟩

theorem uE (a0 : aO) (a1 : List aE) {r : (List cF) × Int} (h : mM a0 a1 = some r) : Fn Try.prog 30 [.agg (aT a0), .d (.sl 5 (a1.map aM))] ((fun x : (List cF) × Int => .tup [.d (.sl 4 (x.1.map bJ)), .d (.lit (.int .i64 x.2))]) r) := rR (enc := fun x : (List cF) × Int => .tup [.d (.sl 4 (x.1.map bJ)), .d (.lit (.int .i64 x.2))]) (aAv a0 a1 (yX a0 a1 h (fun x => x = r) rfl))

theorem aDi (a0 : aO) (a1 : List aE) (a2 : Int) (a3 : Int) {r : (List Int) × Int} (h : sP a0 a1 a2 a3 = some r) : Fn Try.prog 15 [.agg (aT a0), .d (.sl 5 (a1.map aM)), .d (.lit (.int .i64 a2)), .d (.lit (.int .i64 a3))] ((fun x : (List Int) × Int => .tup [.d (.sl 1 (x.1.map aP)), .d (.lit (.int .i64 x.2))]) r) := rR (enc := fun x : (List Int) × Int => .tup [.d (.sl 1 (x.1.map aP)), .d (.lit (.int .i64 x.2))]) (aDh a0 a1 a2 a3 (aAy a0 a1 a2 a3 h (fun x => x = r) rfl))

theorem aCc (a0 : aO) (a1 : List aE) {r : Int × Int} (h : rN a0 a1 = some r) : Fn Try.prog 34 [.agg (aT a0), .d (.sl 5 (a1.map aM))] ((fun x : Int × Int => .tup [.d (.lit (.int .i64 x.1)), .d (.lit (.int .i64 x.2))]) r) := rR (enc := fun x : Int × Int => .tup [.d (.lit (.int .i64 x.1)), .d (.lit (.int .i64 x.2))]) (aCb a0 a1 (zN a0 a1 h (fun x => x = r) rfl))

theorem zA (a0 : aO) (a1 : List aE) (a2 : Int) {r : dR × Int} (h : pM a0 a1 a2 = some r) : Fn Try.prog 17 [.agg (aT a0), .d (.sl 5 (a1.map aM)), .d (.lit (.int .i64 a2))] ((fun x : dR × Int => .tup [.agg (fF x.1), .d (.lit (.int .i64 x.2))]) r) := rR (enc := fun x : dR × Int => .tup [.agg (fF x.1), .d (.lit (.int .i64 x.2))]) (yZ a0 a1 a2 (wX a0 a1 a2 h (fun x => x = r) rfl))

theorem kN {r : Bool} (h : gZ = some r) : Fn Try.prog 14 [] (.d (.lit (.bool r))) := by
 unfold gZ at h
 refine Fn.of_tr Try.func14 rfl (rs := [.tmp 0]) Try.results14 Try.ntmps14 (Nat.le_of_ble_eq_true rfl) ?_
 refine aG ?_
 refine aD ?_
 refine tr1 rfl (aJ (v := .d (.lit (.bool false))) (aA rfl) rfl rfl) ?_
 refine aF ?_
 refine aG ?_
 refine aD ?_
 obtain ⟨r1, h2, h⟩ := bind_some h
 refine tr1 rfl (iD (aA rfl) (.func _ _ Try.call43) rfl rfl (vU h2)) ?_
 refine tr1 rfl (aC (v := .tup [.agg (aT r1.1), .d (.sl 5 (r1.2.map aM))]) (aA rfl) rfl rfl) ?_
 refine tr1 rfl (bW (aA rfl) rfl rfl) ?_
 refine tr1 rfl (bW (aA rfl) rfl rfl) ?_
 refine cD rfl (eN (zs := [.lit (.int .i64 0), .sl 1 ((([] : List Int)).map aP)]) (aA rfl) Try.zeroValue24 rfl rfl) ?_
 rintro _ ⟨b3, rfl⟩
 refine tr1 rfl (cO (i := 0) rfl rfl rfl rfl rfl Try.sizeOf24 rfl (aA rfl) (Nat.le_of_ble_eq_true rfl) (ds' := (aT r1.1)) rfl) ?_
 refine tr1 rfl (aJ (v := .d (.sl 5 (r1.2.map aM))) (aA rfl) rfl rfl) ?_
 refine aF ?_
 refine aG ?_
 refine aD ?_
 refine tr1 rfl (bT (aA rfl) rfl (i := 0) rfl eB (es := (aT r1.1)) rfl rfl) ?_
 refine tr1 rfl (aC (v := .d (.sl 5 (r1.2.map aM))) (aA rfl) rfl rfl) ?_
 obtain ⟨r4, h5, h⟩ := bind_some h
 refine tr1 rfl (iD (aA rfl) (.func _ _ Try.call30) rfl rfl (uE _ _ h5)) ?_
 refine tr1 rfl (aC (v := .tup [.d (.sl 4 (r4.1.map bJ)), .d (.lit (.int .i64 r4.2))]) (aA rfl) rfl rfl) ?_
 refine tr1 rfl (bW (aA rfl) rfl rfl) ?_
 refine tr1 rfl (bW (aA rfl) rfl rfl) ?_
 refine tr1 rfl (aJ (v := .d (.sl 4 (r4.1.map bJ))) (aA rfl) rfl rfl) ?_
 refine tr1 rfl (aJ (v := .d (.lit (.int .i64 r4.2))) (aA rfl) rfl rfl) ?_
 refine aF ?_
 refine aG ?_
 refine aD ?_
 refine tr1 rfl (bT (aA rfl) rfl (i := 0) rfl eB (es := (aT r1.1)) rfl rfl) ?_
 refine tr1 rfl (aC (v := .d (.sl 5 (r1.2.map aM))) (aA rfl) rfl rfl) ?_
 obtain ⟨r6, h7, h⟩ := bind_some h
 refine tr1 rfl (iD (aA rfl) (.func _ _ Try.call15) rfl rfl (aDi _ _ _ _ h7)) ?_
 refine tr1 rfl (aC (v := .tup [.d (.sl 1 (r6.1.map aP)), .d (.lit (.int .i64 r6.2))]) (aA rfl) rfl rfl) ?_
 refine tr1 rfl (bW (aA rfl) rfl rfl) ?_
 refine tr1 rfl (bW (aA rfl) rfl rfl) ?_
 refine tr1 rfl (aJ (v := .d (.sl 1 (r6.1.map aP))) (aA rfl) rfl rfl) ?_
 refine tr1 rfl (aJ (v := .d (.lit (.int .i64 r6.2))) (aA rfl) rfl rfl) ?_
 refine aF ?_
 refine aG ?_
 refine aD ?_
 refine tr1 rfl (bT (aA rfl) rfl (i := 0) rfl eB (es := (aT r1.1)) rfl rfl) ?_
 refine tr1 rfl (aC (v := .d (.sl 5 (r1.2.map aM))) (aA rfl) rfl rfl) ?_
 obtain ⟨r8, h9, h⟩ := bind_some h
 refine tr1 rfl (cR (aA rfl) (.func _ _ Try.call34) rfl rfl (BVs.refl _ _) (aCc _ _ h9) rfl) ?_
 refine tr1 rfl (aC (v := .tup [.d (.lit (.int .i64 r8.1)), .d (.lit (.int .i64 r8.2))]) (aA rfl) rfl rfl) ?_
 refine tr1 rfl (bW (aA rfl) rfl rfl) ?_
 refine tr1 rfl (bW (aA rfl) rfl rfl) ?_
 refine tr1 rfl (aJ (v := .d (.lit (.int .i64 r8.1))) (aA rfl) rfl rfl) ?_
 refine tr1 rfl (aJ (v := .d (.lit (.int .i64 r8.2))) (aA rfl) rfl rfl) ?_
 refine aF ?_
 refine aG ?_
 refine aD ?_
 refine tr1 rfl (bT (aA rfl) rfl (i := 0) rfl eB (es := (aT r1.1)) rfl rfl) ?_
 refine tr1 rfl (aC (v := .d (.sl 5 (r1.2.map aM))) (aA rfl) rfl rfl) ?_
 obtain ⟨r10, h11, h⟩ := bind_some h
 refine tr1 rfl (iD (aA rfl) (.func _ _ Try.call17) rfl rfl (zA _ _ _ h11)) ?_
 refine tr1 rfl (aC (v := .tup [.agg (fF r10.1), .d (.lit (.int .i64 r10.2))]) (aA rfl) rfl rfl) ?_
 refine tr1 rfl (bW (aA rfl) rfl rfl) ?_
 refine tr1 rfl (bW (aA rfl) rfl rfl) ?_
 refine cD rfl (eN (zs := [.lit (.int .i64 0), .lit (.int .i64 0)]) (aA rfl) Try.zeroValue39 rfl rfl) ?_
 rintro _ ⟨b12, rfl⟩
 refine tr1 rfl (cO (i := 1) rfl rfl rfl rfl rfl Try.sizeOf39 rfl (aA rfl) (Nat.le_of_ble_eq_true rfl) (ds' := (fF r10.1)) rfl) ?_
 refine tr1 rfl (aJ (v := .d (.lit (.int .i64 r10.2))) (aA rfl) rfl rfl) ?_
 refine aF ?_
 refine aG ?_
 refine aD ?_
 refine tr1 rfl (aC (v := .d (.lit (.int .i64 r4.2))) (aA rfl) rfl rfl) ?_
 refine tr1 rfl (bG (aA rfl) rfl rfl rfl) ?_
 refine tr1 rfl (aC (v := .d (.lit (.bool ((decide (r4.2 = 0)))))) (aA rfl) rfl rfl) ?_
 obtain ⟨b13, h14, h⟩ := bind_some h
 refine cC 3 [3, 5, 7, 8, 9, 10] 44 b13 ?_ ?_
 ·refine bH (decide (r4.2 = 0)) (fun c45 => ?_) (fun c45 => ?_)
  ·have h14 := aZ c45 h14
   refine aL rfl rfl (aA rfl) rfl c45 (aC (v := .d (.lit (.int .i64 r6.2))) (aA rfl) rfl rfl) ?_
   refine aL rfl rfl (aA rfl) rfl c45 (bG (aA rfl) rfl rfl rfl) ?_
   refine tr1 rfl (bP (v := .d (.lit (.bool ((decide (r6.2 = 0)))))) (aA rfl) rfl c45 rfl rfl) ?_
   have h14 := Option.some.inj h14
   subst h14
   refine aF (bA rfl ⟨rfl, rfl, rfl, rfl, rfl, rfl, trivial⟩ rfl)
  ·have h14 := aY c45 h14
   refine aN rfl rfl (aA rfl) rfl (aA rfl) rfl c45 ?_
   refine aN rfl rfl (aA rfl) rfl (aA rfl) rfl c45 ?_
   refine tr1 rfl (bN (v := .d (.lit (.bool false))) (aA rfl) rfl c45 rfl rfl) ?_
   have h14 := Option.some.inj h14
   subst h14
   refine aF (bA rfl ⟨rfl, rfl, rfl, rfl, rfl, rfl, trivial⟩ rfl)
 ·refine tr1 rfl (aC (v := .d (.lit (.bool b13))) (aA rfl) rfl rfl) ?_
  obtain ⟨b15, h16, h⟩ := bind_some h
  refine cC 3 [3, 5, 7, 9, 10] 48 b15 ?_ ?_
  ·refine bH (b13) (fun c44 => ?_) (fun c44 => ?_)
   ·have h16 := aZ c44 h16
    refine aL rfl rfl (aA rfl) rfl c44 (aC (v := .d (.lit (.int .i64 r8.2))) (aA rfl) rfl rfl) ?_
    refine aL rfl rfl (aA rfl) rfl c44 (bG (aA rfl) rfl rfl rfl) ?_
    refine tr1 rfl (bP (v := .d (.lit (.bool ((decide (r8.2 = 0)))))) (aA rfl) rfl c44 rfl rfl) ?_
    have h16 := Option.some.inj h16
    subst h16
    refine aF (bA rfl ⟨rfl, rfl, rfl, rfl, rfl, trivial⟩ rfl)
   ·have h16 := aY c44 h16
    refine aN rfl rfl (aA rfl) rfl (aA rfl) rfl c44 ?_
    refine aN rfl rfl (aA rfl) rfl (aA rfl) rfl c44 ?_
    refine tr1 rfl (bN (v := .d (.lit (.bool false))) (aA rfl) rfl c44 rfl rfl) ?_
    have h16 := Option.some.inj h16
    subst h16
    refine aF (bA rfl ⟨rfl, rfl, rfl, rfl, rfl, trivial⟩ rfl)
  ·refine tr1 rfl (aC (v := .d (.lit (.bool b15))) (aA rfl) rfl rfl) ?_
   obtain ⟨b17, h18, h⟩ := bind_some h
   refine cC 3 [3, 5, 7, 9] 52 b17 ?_ ?_
   ·refine bH (b15) (fun c43 => ?_) (fun c43 => ?_)
    ·have h18 := aZ c43 h18
     refine aL rfl rfl (aA rfl) rfl c43 (aC (v := .d (.lit (.int .i64 r10.2))) (aA rfl) rfl rfl) ?_
     refine aL rfl rfl (aA rfl) rfl c43 (bG (aA rfl) rfl rfl rfl) ?_
     refine tr1 rfl (bP (v := .d (.lit (.bool ((decide (r10.2 = 0)))))) (aA rfl) rfl c43 rfl rfl) ?_
     have h18 := Option.some.inj h18
     subst h18
     refine aF (bA rfl ⟨rfl, rfl, rfl, rfl, trivial⟩ rfl)
    ·have h18 := aY c43 h18
     refine aN rfl rfl (aA rfl) rfl (aA rfl) rfl c43 ?_
     refine aN rfl rfl (aA rfl) rfl (aA rfl) rfl c43 ?_
     refine tr1 rfl (bN (v := .d (.lit (.bool false))) (aA rfl) rfl c43 rfl rfl) ?_
     have h18 := Option.some.inj h18
     subst h18
     refine aF (bA rfl ⟨rfl, rfl, rfl, rfl, trivial⟩ rfl)
   ·refine tr1 rfl (aC (v := .d (.lit (.bool b17))) (aA rfl) rfl rfl) ?_
    obtain ⟨b19, h20, h⟩ := bind_some h
    refine cC 4 [3, 5, 7, 9] 57 b19 ?_ ?_
    ·refine bH (b17) (fun c42 => ?_) (fun c42 => ?_)
     ·have h20 := aZ c42 h20
      refine aL rfl rfl (aA rfl) rfl c42 (aC (v := .d (.sl 4 (r4.1.map bJ))) (aA rfl) rfl rfl) ?_
      refine aL rfl rfl (aA rfl) rfl c42 (eI (aA rfl) rfl jX.of) ?_
      refine aL rfl rfl (aA rfl) rfl c42 (bG (aA rfl) rfl rfl rfl) ?_
      refine tr1 rfl (bP (v := .d (.lit (.bool ((decide ((r4.1.length : Int) = 7)))))) (aA rfl) rfl c42 rfl rfl) ?_
      have h20 := Option.some.inj h20
      subst h20
      refine aF (bA rfl ⟨rfl, rfl, rfl, rfl, trivial⟩ rfl)
     ·have h20 := aY c42 h20
      refine aN rfl rfl (aA rfl) rfl (aA rfl) rfl c42 ?_
      refine aN rfl rfl (aA rfl) rfl (aA rfl) rfl c42 ?_
      refine aN rfl rfl (aA rfl) rfl (aA rfl) rfl c42 ?_
      refine tr1 rfl (bN (v := .d (.lit (.bool false))) (aA rfl) rfl c42 rfl rfl) ?_
      have h20 := Option.some.inj h20
      subst h20
      refine aF (bA rfl ⟨rfl, rfl, rfl, rfl, trivial⟩ rfl)
    ·refine tr1 rfl (aC (v := .d (.lit (.bool b19))) (aA rfl) rfl rfl) ?_
     obtain ⟨b21, h22, h⟩ := bind_some h
     refine cC 6 [3, 5, 7, 9] 64 b21 ?_ ?_
     ·refine bH (b19) (fun c39 => ?_) (fun c39 => ?_)
      ·have h22 := aZ c39 h22
       refine aL rfl rfl (aA rfl) rfl c39 (aC (v := .d (.sl 4 (r4.1.map bJ))) (aA rfl) rfl rfl) ?_
       obtain ⟨x40, h41, h22⟩ := bind_some h22
       refine aL rfl rfl (aA rfl) rfl c39 (bL (aA rfl) rfl rfl jX.of (bS bJ h41)) ?_
       refine aL rfl rfl (aA rfl) rfl c39 (kL (aA rfl) rfl aDs (es := (bJ x40)) rfl rfl) ?_
       refine aL rfl rfl (aA rfl) rfl c39 (eZ (aA rfl) aFa (zs := [.lit (.int .i64 0), .lit (.int .i64 0), .lit (.int .i64 0), .lit (.int .i64 0)]) rfl rfl rfl rfl (es := [.lit (.int .i64 1), .lit (.int .i64 0), .lit (.int .i64 1), .lit (.int .i64 2)]) rfl) ?_
       refine aL rfl rfl (aA rfl) rfl c39 (wP (a := x40) (b := (cF.mk 1 0 1 2)) (aA rfl) rfl rfl rfl rfl Try.eqGuardType57 aIt) ?_
       refine tr1 rfl (bP (v := .d (.lit (.bool ((decide (x40 = (cF.mk 1 0 1 2))))))) (aA rfl) rfl c39 rfl rfl) ?_
       have h22 := Option.some.inj h22
       subst h22
       refine aF (bA rfl ⟨rfl, rfl, rfl, rfl, trivial⟩ rfl)
      ·have h22 := aY c39 h22
       refine aN rfl rfl (aA rfl) rfl (aA rfl) rfl c39 ?_
       refine aN rfl rfl (aA rfl) rfl (aA rfl) rfl c39 ?_
       refine aN rfl rfl (aA rfl) rfl (aA rfl) rfl c39 ?_
       refine aN rfl rfl (aA rfl) rfl (aA rfl) rfl c39 ?_
       refine aN rfl rfl (aA rfl) rfl (aA rfl) rfl c39 ?_
       refine tr1 rfl (bN (v := .d (.lit (.bool false))) (aA rfl) rfl c39 rfl rfl) ?_
       have h22 := Option.some.inj h22
       subst h22
       refine aF (bA rfl ⟨rfl, rfl, rfl, rfl, trivial⟩ rfl)
     ·refine tr1 rfl (aC (v := .d (.lit (.bool b21))) (aA rfl) rfl rfl) ?_
      obtain ⟨b23, h24, h⟩ := bind_some h
      refine cC 6 [5, 7, 9] 71 b23 ?_ ?_
      ·refine bH (b21) (fun c36 => ?_) (fun c36 => ?_)
       ·have h24 := aZ c36 h24
        refine aL rfl rfl (aA rfl) rfl c36 (aC (v := .d (.sl 4 (r4.1.map bJ))) (aA rfl) rfl rfl) ?_
        obtain ⟨x37, h38, h24⟩ := bind_some h24
        refine aL rfl rfl (aA rfl) rfl c36 (bL (aA rfl) rfl rfl jX.of (bS bJ h38)) ?_
        refine aL rfl rfl (aA rfl) rfl c36 (kL (aA rfl) rfl aDs (es := (bJ x37)) rfl rfl) ?_
        refine aL rfl rfl (aA rfl) rfl c36 (eZ (aA rfl) aFa (zs := [.lit (.int .i64 0), .lit (.int .i64 0), .lit (.int .i64 0), .lit (.int .i64 0)]) rfl rfl rfl rfl (es := [.lit (.int .i64 2), .lit (.int .i64 0), .lit (.int .i64 2), .lit (.int .i64 (-2))]) rfl) ?_
        refine aL rfl rfl (aA rfl) rfl c36 (wP (a := x37) (b := (cF.mk 2 0 2 (-2))) (aA rfl) rfl rfl rfl rfl Try.eqGuardType57 aIt) ?_
        refine tr1 rfl (bP (v := .d (.lit (.bool ((decide (x37 = (cF.mk 2 0 2 (-2)))))))) (aA rfl) rfl c36 rfl rfl) ?_
        have h24 := Option.some.inj h24
        subst h24
        refine aF (bA rfl ⟨rfl, rfl, rfl, trivial⟩ rfl)
       ·have h24 := aY c36 h24
        refine aN rfl rfl (aA rfl) rfl (aA rfl) rfl c36 ?_
        refine aN rfl rfl (aA rfl) rfl (aA rfl) rfl c36 ?_
        refine aN rfl rfl (aA rfl) rfl (aA rfl) rfl c36 ?_
        refine aN rfl rfl (aA rfl) rfl (aA rfl) rfl c36 ?_
        refine aN rfl rfl (aA rfl) rfl (aA rfl) rfl c36 ?_
        refine tr1 rfl (bN (v := .d (.lit (.bool false))) (aA rfl) rfl c36 rfl rfl) ?_
        have h24 := Option.some.inj h24
        subst h24
        refine aF (bA rfl ⟨rfl, rfl, rfl, trivial⟩ rfl)
      ·refine tr1 rfl (aC (v := .d (.lit (.bool b23))) (aA rfl) rfl rfl) ?_
       obtain ⟨b25, h26, h⟩ := bind_some h
       refine cC 4 [7, 9] 76 b25 ?_ ?_
       ·refine bH (b23) (fun c33 => ?_) (fun c33 => ?_)
        ·have h26 := aZ c33 h26
         refine aL rfl rfl (aA rfl) rfl c33 (aC (v := .d (.sl 1 (r6.1.map aP))) (aA rfl) rfl rfl) ?_
         refine aL rfl rfl (aA rfl) rfl c33 (gG (aA rfl) bX rfl rfl (rows := ([2, 5, 7, 8]).map aP) rfl (dM (f := aP) fun _ => rfl) rfl (by decide)) ?_
         obtain ⟨r34, h35, h26⟩ := bind_some h26
         refine aL rfl rfl (aA rfl) rfl c33 (cR (aA rfl) (.func _ _ Try.call23) rfl rfl (BVs.refl _ _) (vC _ _ h35) rfl) ?_
         refine tr1 rfl (bP (v := .d (.lit (.bool r34))) (aA rfl) rfl c33 rfl rfl) ?_
         have h26 := Option.some.inj h26
         subst h26
         refine aF (bA rfl ⟨rfl, rfl, trivial⟩ rfl)
        ·have h26 := aY c33 h26
         refine aN rfl rfl (aA rfl) rfl (aA rfl) rfl c33 ?_
         refine aN rfl rfl (aA rfl) rfl (aA rfl) rfl c33 ?_
         refine aN rfl rfl (aA rfl) rfl (aA rfl) rfl c33 ?_
         refine tr1 rfl (bN (v := .d (.lit (.bool false))) (aA rfl) rfl c33 rfl rfl) ?_
         have h26 := Option.some.inj h26
         subst h26
         refine aF (bA rfl ⟨rfl, rfl, trivial⟩ rfl)
       ·refine tr1 rfl (aC (v := .d (.lit (.bool b25))) (aA rfl) rfl rfl) ?_
        obtain ⟨b27, h28, h⟩ := bind_some h
        refine cC 3 [9] 80 b27 ?_ ?_
        ·refine bH (b25) (fun c32 => ?_) (fun c32 => ?_)
         ·have h28 := aZ c32 h28
          refine aL rfl rfl (aA rfl) rfl c32 (aC (v := .d (.lit (.int .i64 r8.1))) (aA rfl) rfl rfl) ?_
          refine aL rfl rfl (aA rfl) rfl c32 (bG (aA rfl) rfl rfl rfl) ?_
          refine tr1 rfl (bP (v := .d (.lit (.bool ((decide (r8.1 = 3)))))) (aA rfl) rfl c32 rfl rfl) ?_
          have h28 := Option.some.inj h28
          subst h28
          refine aF (bA rfl ⟨rfl, trivial⟩ rfl)
         ·have h28 := aY c32 h28
          refine aN rfl rfl (aA rfl) rfl (aA rfl) rfl c32 ?_
          refine aN rfl rfl (aA rfl) rfl (aA rfl) rfl c32 ?_
          refine tr1 rfl (bN (v := .d (.lit (.bool false))) (aA rfl) rfl c32 rfl rfl) ?_
          have h28 := Option.some.inj h28
          subst h28
          refine aF (bA rfl ⟨rfl, trivial⟩ rfl)
        ·refine tr1 rfl (aC (v := .d (.lit (.bool b27))) (aA rfl) rfl rfl) ?_
         obtain ⟨b29, h30, h⟩ := bind_some h
         refine cC 4 [] 85 b29 ?_ ?_
         ·refine bH (b27) (fun c31 => ?_) (fun c31 => ?_)
          ·have h30 := aZ c31 h30
           refine aL rfl rfl (aA rfl) rfl c31 (bT (aA rfl) rfl (i := 1) rfl aAr (es := (fF r10.1)) rfl rfl) ?_
           refine aL rfl rfl (aA rfl) rfl c31 (eZ (aA rfl) aBz (zs := [.lit (.int .i64 0), .lit (.int .i64 0)]) rfl rfl rfl rfl (es := [.lit (.int .i64 2), .lit (.int .i64 3)]) rfl) ?_
           refine aL rfl rfl (aA rfl) rfl c31 (wP (a := r10.1) (b := (dR.mk 2 3)) (aA rfl) rfl rfl rfl rfl Try.eqGuardType39 aMx) ?_
           refine tr1 rfl (bP (v := .d (.lit (.bool ((decide (r10.1 = (dR.mk 2 3))))))) (aA rfl) rfl c31 rfl rfl) ?_
           have h30 := Option.some.inj h30
           subst h30
           refine aF (bA rfl trivial rfl)
          ·have h30 := aY c31 h30
           refine aN rfl rfl (aA rfl) rfl (aA rfl) rfl c31 ?_
           refine aN rfl rfl (aA rfl) rfl (aA rfl) rfl c31 ?_
           refine aN rfl rfl (aA rfl) rfl (aA rfl) rfl c31 ?_
           refine tr1 rfl (bN (v := .d (.lit (.bool false))) (aA rfl) rfl c31 rfl rfl) ?_
           have h30 := Option.some.inj h30
           subst h30
           refine aF (bA rfl trivial rfl)
         ·refine tr1 rfl (aJ (v := .d (.lit (.bool b29))) (aA rfl) rfl rfl) ?_
          refine aF ?_
          have h := Option.some.inj h
          subst h
          refine cV (cU (cW (l := [0]) ⟨rfl, trivial⟩)) ?_
          exact bQ ⟨rfl, _, .one _, rfl, rfl⟩

theorem tL (t_0 : aO) (l_1 : List aE) (slot_2 : Int) (round_3 : Int) (player_4 : Int) {r : (List aE)} {l_1_v : Value} (h : lT t_0 l_1 slot_2 round_3 player_4 = some r) : eR Try.prog 19 [.agg (aT t_0), .d (.lit l_1_v), .d (.lit (.int .i64 slot_2)), .d (.lit (.int .i64 round_3)), .d (.lit (.int .i64 player_4))] [.arr l_1_v 32 5 (l_1.map aM)] (fun r' o' => ∃ w0 : Value, r' = .d (.lit w0) ∧ o' = [.arr w0 32 5 (r.map aM)]) := by
 unfold lT at h
 refine fO Try.func19 rfl (rs := [.tmp 10]) Try.results19 Try.ntmps19 (Nat.le_of_ble_eq_true rfl) ?_
 refine aG ?_
 refine aD ?_
 refine cD rfl (gF (v := .agg (aT t_0)) (aA rfl) rfl rfl rfl) ?_
 rintro _ ⟨b1, rfl⟩
 refine tr1 rfl (kT 32 5 (.inl rfl) (aA rfl)) ?_
 refine aF ?_
 refine aG ?_
 refine aD ?_
 refine tr1 rfl (aC (v := .d (.lit (.int .i64 slot_2))) (aA rfl) rfl rfl) ?_
 refine tr1 rfl (aC (v := .d (.lit (.int .i64 round_3))) (aA rfl) rfl rfl) ?_
 refine tr1 rfl (bO (aA rfl) rfl rfl rfl) ?_
 refine tr1 rfl (sK (aA rfl) rfl Try.runUnderlying3 Try.runUnderlying45) ?_
 obtain ⟨u3, h4, h⟩ := bind_some h
 refine tr1 rfl (tA (aA rfl) rfl rfl (pW h4)) ?_
 refine tr1 rfl (aJ (v := .d (.lit (.int .i64 ((slot_2.fdiv (2 ^ (min (IntKind.u64.wrap (w64 (round_3 + 1))).toNat 64))))))) (aA rfl) rfl rfl) ?_
 refine aF ?_
 refine aG ?_
 refine aG ?_
 refine aD ?_
 refine tr1 rfl (aC (v := .d (.lit (.int .i64 round_3))) (aA rfl) rfl rfl) ?_
 refine tr1 rfl (bG (aA rfl) rfl rfl rfl) ?_
 refine tr1 rfl (aC (v := .d (.lit (.bool ((decide (round_3 = 0)))))) (aA rfl) rfl rfl) ?_
 obtain ⟨b5, h6, h⟩ := bind_some h
 refine cC 18 [1, 3, 4, 11] 38 b5 ?_ ?_
 ·refine bH (decide (round_3 = 0)) (fun c32 => ?_) (fun c32 => ?_)
  ·have h6 := aZ c32 h6
   refine aL rfl rfl (aA rfl) rfl c32 (aV (aA rfl) rfl dV) ?_
   refine aL rfl rfl (aA rfl) rfl c32 (aW (aA rfl) rfl (i := 1) rfl rfl dJ) ?_
   refine aL rfl rfl (aA rfl) rfl c32 (aC (v := .d (.lit (.int .i64 ((slot_2.fdiv (2 ^ (min (IntKind.u64.wrap (w64 (round_3 + 1))).toNat 64))))))) (aA rfl) rfl rfl) ?_
   refine aL rfl rfl (aA rfl) rfl c32 (bO (aA rfl) rfl rfl rfl) ?_
   obtain ⟨x33, h34, h6⟩ := bind_some h6
   refine aL rfl rfl (aA rfl) rfl c32 (bL (aA rfl) rfl rfl bX.of (bS aP h34)) ?_
   refine aL rfl rfl (aA rfl) rfl c32 (bM (aA rfl) rfl bF) ?_
   refine aL rfl rfl (aA rfl) rfl c32 (bG (aA rfl) rfl rfl rfl) ?_
   refine aL rfl rfl (aA rfl) rfl c32 (aC (v := .d (.lit (.bool ((decide (x33 = (-1))))))) (aA rfl) rfl rfl) ?_
   obtain ⟨b35, h36, h6⟩ := bind_some h6
   refine cC 9 [1, 3, 4, 11, 20] 37 b35 ?_ ?_
   ·refine bH (decide (x33 = (-1))) (fun c37 => ?_) (fun c37 => ?_)
    ·have h36 := aZ c37 h36
     refine aN rfl rfl (aA rfl) rfl (aA rfl) rfl c37 ?_
     refine aN rfl rfl (aA rfl) rfl (aA rfl) rfl c37 ?_
     refine aN rfl rfl (aA rfl) rfl (aA rfl) rfl c37 ?_
     refine aN rfl rfl (aA rfl) rfl (aA rfl) rfl c37 ?_
     refine aN rfl rfl (aA rfl) rfl (aA rfl) rfl c37 ?_
     refine aN rfl rfl (aA rfl) rfl (aA rfl) rfl c37 ?_
     refine aN rfl rfl (aA rfl) rfl (aA rfl) rfl c37 ?_
     refine aN rfl rfl (aA rfl) rfl (aA rfl) rfl c37 ?_
     refine aL rfl rfl (aA rfl) rfl c32 (bP (v := .d (.lit (.bool true))) (aA rfl) rfl c37 rfl rfl) ?_
     have h36 := Option.some.inj h36
     subst h36
     refine aF (bA rfl ⟨rfl, rfl, rfl, rfl, rfl, trivial⟩ rfl)
    ·have h36 := aY c37 h36
     refine aL rfl rfl (aA rfl) rfl c37 (aV (aA rfl) rfl dV) ?_
     refine aL rfl rfl (aA rfl) rfl c37 (aW (aA rfl) rfl (i := 1) rfl rfl dJ) ?_
     refine aL rfl rfl (aA rfl) rfl c37 (aC (v := .d (.lit (.int .i64 ((slot_2.fdiv (2 ^ (min (IntKind.u64.wrap (w64 (round_3 + 1))).toNat 64))))))) (aA rfl) rfl rfl) ?_
     refine aL rfl rfl (aA rfl) rfl c37 (bO (aA rfl) rfl rfl rfl) ?_
     refine aL rfl rfl (aA rfl) rfl c37 (bO (aA rfl) rfl rfl rfl) ?_
     obtain ⟨x38, h39, h36⟩ := bind_some h36
     refine aL rfl rfl (aA rfl) rfl c37 (bL (aA rfl) rfl rfl bX.of (bS aP h39)) ?_
     refine aL rfl rfl (aA rfl) rfl c37 (bM (aA rfl) rfl bF) ?_
     refine aL rfl rfl (aA rfl) rfl c37 (bG (aA rfl) rfl rfl rfl) ?_
     refine aL rfl rfl (aA rfl) rfl c32 (bN (v := .d (.lit (.bool ((decide (x38 = (-1))))))) (aA rfl) rfl c37 rfl rfl) ?_
     have h36 := Option.some.inj h36
     subst h36
     refine aF (bA rfl ⟨rfl, rfl, rfl, rfl, rfl, trivial⟩ rfl)
   ·refine tr1 rfl (bP (v := .d (.lit (.bool b35))) (aA rfl) rfl c32 rfl rfl) ?_
    have h6 := Option.some.inj h6
    subst h6
    refine aF (bA rfl ⟨rfl, rfl, rfl, rfl, trivial⟩ rfl)
  ·have h6 := aY c32 h6
   refine aN rfl rfl (aA rfl) rfl (aA rfl) rfl c32 ?_
   refine aN rfl rfl (aA rfl) rfl (aA rfl) rfl c32 ?_
   refine aN rfl rfl (aA rfl) rfl (aA rfl) rfl c32 ?_
   refine aN rfl rfl (aA rfl) rfl (aA rfl) rfl c32 ?_
   refine aN rfl rfl (aA rfl) rfl (aA rfl) rfl c32 ?_
   refine aN rfl rfl (aA rfl) rfl (aA rfl) rfl c32 ?_
   refine aN rfl rfl (aA rfl) rfl (aA rfl) rfl c32 ?_
   refine aN rfl rfl (aA rfl) rfl (aA rfl) rfl c32 ?_
   refine dB rfl rfl (aA rfl) rfl (aA rfl) rfl ?_
   refine dB rfl rfl (aA rfl) rfl (aA rfl) rfl ?_
   refine dB rfl rfl (aA rfl) rfl (aA rfl) rfl ?_
   refine dB rfl rfl (aA rfl) rfl (aA rfl) rfl ?_
   refine dB rfl rfl (aA rfl) rfl (aA rfl) rfl ?_
   refine dB rfl rfl (aA rfl) rfl (aA rfl) rfl ?_
   refine dB rfl rfl (aA rfl) rfl (aA rfl) rfl ?_
   refine dB rfl rfl (aA rfl) rfl (aA rfl) rfl ?_
   refine aN rfl rfl (aA rfl) rfl (aA rfl) rfl c32 ?_
   refine tr1 rfl (bN (v := .d (.lit (.bool false))) (aA rfl) rfl c32 rfl rfl) ?_
   have h6 := Option.some.inj h6
   subst h6
   refine aF (bA rfl ⟨rfl, rfl, rfl, rfl, trivial⟩ rfl)
 ·refine aF ?_
  refine bU rfl (fun c7 => ?_) (fun c7 => ?_)
  ·have h := aZ c7 h
   refine aG ?_
   refine aD ?_
   refine tr1 rfl (aC (v := .d (.lit l_1_v)) (aA rfl) rfl rfl) ?_
   refine tr1 rfl (aJ (v := .d (.lit l_1_v)) (aA rfl) rfl rfl) ?_
   refine aF ?_
   have h := Option.some.inj h
   subst h
   exact bQ ⟨rfl, _, [.arr l_1_v 32 5 (l_1.map aM)], [.box b1 0 (aT t_0), .arr (.slice none 0 0) 32 5 (([] : List aE).map aM)], _, .one (.tmp 10 (v := .d (.lit l_1_v)) rfl), .refl _, .same _, l_1_v, rfl, rfl⟩
  ·have h := aY c7 h
   refine bR ?_
   refine aG ?_
   refine aG ?_
   refine aD ?_
   refine tr1 rfl (aJ (v := .d (.lit (.int .i64 0))) (aA rfl) rfl rfl) ?_
   refine aF ?_
   refine cG ?_
   refine dO [1, 3, 4, 11] (fun (s8 : Int) => [(12, .d (.lit (.int .i64 s8)))]) (fun (s8 : Int) => [.arr l_1_v 32 5 (l_1.map aM)]) (fun (k : Nat) (s8 : Int) => gJ round_3 player_4 (slot_2.fdiv (2 ^ (min (IntKind.u64.wrap (w64 (round_3 + 1))).toNat 64))) l_1 k s8) (fun _ => rfl) (0) h (bE [0] rfl rfl (aU rfl (bC ⟨rfl, rfl, rfl, rfl, trivial⟩))) ?_
   rintro k9 i_0_8 h
   simp only [gJ] at h
   refine aG ?_
   refine aG ?_
   refine aD ?_
   refine tr1 rfl (aC (v := .d (.lit (.int .i64 i_0_8))) (aA rfl) rfl rfl) ?_
   refine tr1 rfl (aC (v := .d (.lit l_1_v)) (aA rfl) rfl rfl) ?_
   refine tr1 rfl (nY (m := 0) (aA rfl) rfl rfl eV.of) ?_
   refine tr1 rfl (bG (aA rfl) rfl rfl rfl) ?_
   refine aF ?_
   refine bU rfl (fun c10 => ?_) (fun c10 => ?_)
   ·have h := aZ c10 h
    refine bR ?_
    refine aG ?_
    refine cG ?_
    refine aG ?_
    refine aD ?_
    refine tr1 rfl (aC (v := .d (.lit l_1_v)) (aA rfl) rfl rfl) ?_
    refine tr1 rfl (aC (v := .d (.lit (.int .i64 i_0_8))) (aA rfl) rfl rfl) ?_
    obtain ⟨x11, h12, h⟩ := bind_some h
    refine tr1 rfl (fT (m := 0) (aA rfl) rfl rfl rfl eV.of (bS aM h12)) ?_
    refine tr1 rfl (sZ (aA rfl) rfl mU) ?_
    refine tr1 rfl (jR (aA rfl) rfl (m := 0) rfl (oG aM h12) rfl bF) ?_
    refine tr1 rfl (bG (aA rfl) rfl rfl rfl) ?_
    refine tr1 rfl (aC (v := .d (.lit (.bool ((!decide (x11.Kind = 5)))))) (aA rfl) rfl rfl) ?_
    obtain ⟨b13, h14, h⟩ := bind_some h
    refine cC 8 [1, 3, 4, 11, 12] 60 b13 ?_ ?_
    ·refine bH (!decide (x11.Kind = 5)) (fun c26 => ?_) (fun c26 => ?_)
     ·have h14 := aZ c26 h14
      refine aL rfl rfl (aA rfl) rfl c26 (aC (v := .d (.lit l_1_v)) (aA rfl) rfl rfl) ?_
      refine aL rfl rfl (aA rfl) rfl c26 (aC (v := .d (.lit (.int .i64 i_0_8))) (aA rfl) rfl rfl) ?_
      obtain ⟨x27, h28, h14⟩ := bind_some h14
      refine aL rfl rfl (aA rfl) rfl c26 (fT (m := 0) (aA rfl) rfl rfl rfl eV.of (bS aM h28)) ?_
      refine aL rfl rfl (aA rfl) rfl c26 (sZ (aA rfl) rfl lE) ?_
      refine aL rfl rfl (aA rfl) rfl c26 (jR (aA rfl) rfl (m := 0) rfl (oG aM h28) rfl bF) ?_
      refine aL rfl rfl (aA rfl) rfl c26 (aC (v := .d (.lit (.int .i64 round_3))) (aA rfl) rfl rfl) ?_
      refine aL rfl rfl (aA rfl) rfl c26 (bG (aA rfl) rfl rfl rfl) ?_
      refine tr1 rfl (bP (v := .d (.lit (.bool ((decide (x27.Round = round_3)))))) (aA rfl) rfl c26 rfl rfl) ?_
      have h14 := Option.some.inj h14
      subst h14
      refine aF (bA rfl ⟨rfl, rfl, rfl, rfl, rfl, trivial⟩ rfl)
     ·have h14 := aY c26 h14
      refine aN rfl rfl (aA rfl) rfl (aA rfl) rfl c26 ?_
      refine aN rfl rfl (aA rfl) rfl (aA rfl) rfl c26 ?_
      refine aN rfl rfl (aA rfl) rfl (aA rfl) rfl c26 ?_
      refine aN rfl rfl (aA rfl) rfl (aA rfl) rfl c26 ?_
      refine aN rfl rfl (aA rfl) rfl (aA rfl) rfl c26 ?_
      refine aN rfl rfl (aA rfl) rfl (aA rfl) rfl c26 ?_
      refine aN rfl rfl (aA rfl) rfl (aA rfl) rfl c26 ?_
      refine tr1 rfl (bN (v := .d (.lit (.bool false))) (aA rfl) rfl c26 rfl rfl) ?_
      have h14 := Option.some.inj h14
      subst h14
      refine aF (bA rfl ⟨rfl, rfl, rfl, rfl, rfl, trivial⟩ rfl)
    ·refine tr1 rfl (aC (v := .d (.lit (.bool b13))) (aA rfl) rfl rfl) ?_
     obtain ⟨b15, h16, h⟩ := bind_some h
     refine cC 8 [1, 3, 4, 11, 12] 69 b15 ?_ ?_
     ·refine bH (b13) (fun c23 => ?_) (fun c23 => ?_)
      ·have h16 := aZ c23 h16
       refine aL rfl rfl (aA rfl) rfl c23 (aC (v := .d (.lit l_1_v)) (aA rfl) rfl rfl) ?_
       refine aL rfl rfl (aA rfl) rfl c23 (aC (v := .d (.lit (.int .i64 i_0_8))) (aA rfl) rfl rfl) ?_
       obtain ⟨x24, h25, h16⟩ := bind_some h16
       refine aL rfl rfl (aA rfl) rfl c23 (fT (m := 0) (aA rfl) rfl rfl rfl eV.of (bS aM h25)) ?_
       refine aL rfl rfl (aA rfl) rfl c23 (sZ (aA rfl) rfl iI) ?_
       refine aL rfl rfl (aA rfl) rfl c23 (jR (aA rfl) rfl (m := 0) rfl (oG aM h25) rfl bF) ?_
       refine aL rfl rfl (aA rfl) rfl c23 (aC (v := .d (.lit (.int .i64 ((slot_2.fdiv (2 ^ (min (IntKind.u64.wrap (w64 (round_3 + 1))).toNat 64))))))) (aA rfl) rfl rfl) ?_
       refine aL rfl rfl (aA rfl) rfl c23 (bG (aA rfl) rfl rfl rfl) ?_
       refine tr1 rfl (bP (v := .d (.lit (.bool ((decide (x24.Place = (slot_2.fdiv (2 ^ (min (IntKind.u64.wrap (w64 (round_3 + 1))).toNat 64))))))))) (aA rfl) rfl c23 rfl rfl) ?_
       have h16 := Option.some.inj h16
       subst h16
       refine aF (bA rfl ⟨rfl, rfl, rfl, rfl, rfl, trivial⟩ rfl)
      ·have h16 := aY c23 h16
       refine aN rfl rfl (aA rfl) rfl (aA rfl) rfl c23 ?_
       refine aN rfl rfl (aA rfl) rfl (aA rfl) rfl c23 ?_
       refine aN rfl rfl (aA rfl) rfl (aA rfl) rfl c23 ?_
       refine aN rfl rfl (aA rfl) rfl (aA rfl) rfl c23 ?_
       refine aN rfl rfl (aA rfl) rfl (aA rfl) rfl c23 ?_
       refine aN rfl rfl (aA rfl) rfl (aA rfl) rfl c23 ?_
       refine aN rfl rfl (aA rfl) rfl (aA rfl) rfl c23 ?_
       refine tr1 rfl (bN (v := .d (.lit (.bool false))) (aA rfl) rfl c23 rfl rfl) ?_
       have h16 := Option.some.inj h16
       subst h16
       refine aF (bA rfl ⟨rfl, rfl, rfl, rfl, rfl, trivial⟩ rfl)
     ·refine tr1 rfl (aC (v := .d (.lit (.bool b15))) (aA rfl) rfl rfl) ?_
      obtain ⟨b17, h18, h⟩ := bind_some h
      refine cC 8 [1, 3, 4, 11, 12] 78 b17 ?_ ?_
      ·refine bH (b15) (fun c20 => ?_) (fun c20 => ?_)
       ·have h18 := aZ c20 h18
        refine aL rfl rfl (aA rfl) rfl c20 (aC (v := .d (.lit l_1_v)) (aA rfl) rfl rfl) ?_
        refine aL rfl rfl (aA rfl) rfl c20 (aC (v := .d (.lit (.int .i64 i_0_8))) (aA rfl) rfl rfl) ?_
        obtain ⟨x21, h22, h18⟩ := bind_some h18
        refine aL rfl rfl (aA rfl) rfl c20 (fT (m := 0) (aA rfl) rfl rfl rfl eV.of (bS aM h22)) ?_
        refine aL rfl rfl (aA rfl) rfl c20 (sZ (aA rfl) rfl lY) ?_
        refine aL rfl rfl (aA rfl) rfl c20 (jR (aA rfl) rfl (m := 0) rfl (oG aM h22) rfl bF) ?_
        refine aL rfl rfl (aA rfl) rfl c20 (aC (v := .d (.lit (.int .i64 player_4))) (aA rfl) rfl rfl) ?_
        refine aL rfl rfl (aA rfl) rfl c20 (bG (aA rfl) rfl rfl rfl) ?_
        refine tr1 rfl (bP (v := .d (.lit (.bool ((decide (x21.Player = player_4)))))) (aA rfl) rfl c20 rfl rfl) ?_
        have h18 := Option.some.inj h18
        subst h18
        refine aF (bA rfl ⟨rfl, rfl, rfl, rfl, rfl, trivial⟩ rfl)
       ·have h18 := aY c20 h18
        refine aN rfl rfl (aA rfl) rfl (aA rfl) rfl c20 ?_
        refine aN rfl rfl (aA rfl) rfl (aA rfl) rfl c20 ?_
        refine aN rfl rfl (aA rfl) rfl (aA rfl) rfl c20 ?_
        refine aN rfl rfl (aA rfl) rfl (aA rfl) rfl c20 ?_
        refine aN rfl rfl (aA rfl) rfl (aA rfl) rfl c20 ?_
        refine aN rfl rfl (aA rfl) rfl (aA rfl) rfl c20 ?_
        refine aN rfl rfl (aA rfl) rfl (aA rfl) rfl c20 ?_
        refine tr1 rfl (bN (v := .d (.lit (.bool false))) (aA rfl) rfl c20 rfl rfl) ?_
        have h18 := Option.some.inj h18
        subst h18
        refine aF (bA rfl ⟨rfl, rfl, rfl, rfl, rfl, trivial⟩ rfl)
      ·refine aF ?_
       refine bU rfl (fun c19 => ?_) (fun c19 => ?_)
       ·have h := aZ c19 h
        refine aG ?_
        refine aD ?_
        refine tr1 rfl (aC (v := .d (.lit l_1_v)) (aA rfl) rfl rfl) ?_
        refine tr1 rfl (aJ (v := .d (.lit l_1_v)) (aA rfl) rfl rfl) ?_
        refine aF ?_
        have h := Option.some.inj h
        subst h
        exact bQ ⟨rfl, _, [.arr l_1_v 32 5 (l_1.map aM)], [], _, .one (.tmp 10 (v := .d (.lit l_1_v)) rfl), .refl _, .same _, l_1_v, rfl, rfl⟩
       ·have h := aY c19 h
        refine eG ?_
        refine aD ?_
        refine tr1 rfl (aC (v := .d (.lit (.int .i64 i_0_8))) (aA rfl) rfl rfl) ?_
        refine tr1 rfl (bO (aA rfl) rfl rfl rfl) ?_
        refine tr1 rfl (aJ (v := .d (.lit (.int .i64 ((w64 (i_0_8 + 1)))))) (aA rfl) rfl rfl) ?_
        refine aF ?_
        exact ⟨(w64 (i_0_8 + 1)), h, bE [0] rfl rfl (aU rfl (bC ⟨rfl, rfl, rfl, rfl, trivial⟩))⟩
   ·have h := aY c10 h
    refine dA ?_
    refine .inl ⟨rfl, ?_⟩
    simp only [pN] at h
    refine aG ?_
    refine aD ?_
    refine tr1 rfl (aC (v := .d (.lit l_1_v)) (aA rfl) rfl rfl) ?_
    refine tr1 rfl (aC (v := .d (.lit (.int .i64 round_3))) (aA rfl) rfl rfl) ?_
    refine tr1 rfl (aC (v := .d (.lit (.int .i64 ((slot_2.fdiv (2 ^ (min (IntKind.u64.wrap (w64 (round_3 + 1))).toNat 64))))))) (aA rfl) rfl rfl) ?_
    refine tr1 rfl (aC (v := .d (.lit (.int .i64 player_4))) (aA rfl) rfl rfl) ?_
    refine tr1 rfl (eZ (aA rfl) yK (zs := [.lit (.int .i64 0), .lit (.int .i64 0), .lit (.int .i64 0), .lit (.int .i64 0), .lit (.int .i64 0)]) rfl rfl rfl rfl (es := [.lit (.int .i64 1), .lit (.int .i64 round_3), .lit (.int .i64 ((slot_2.fdiv (2 ^ (min (IntKind.u64.wrap (w64 (round_3 + 1))).toNat 64))))), .lit (.int .i64 player_4), .lit (.int .i64 0)]) rfl) ?_
    refine tr1 rfl (gG (aA rfl) eV rfl rfl (rows := ([(aE.mk 1 round_3 (slot_2.fdiv (2 ^ (min (IntKind.u64.wrap (w64 (round_3 + 1))).toNat 64))) player_4 0)]).map aM) rfl (dM (f := aM) fun _ => rfl) rfl (by decide)) ?_
    obtain ⟨x29, h30, h⟩ := bind_some h
    refine cD rfl (fZ (i := 0) (aA rfl) eV rfl rfl rfl (fun _ => rfl) h30 rfl) ?_
    rintro _ ⟨v31, rfl⟩
    refine tr1 rfl (aJ (v := .d (.lit v31)) (aA rfl) rfl rfl) ?_
    refine aF ?_
    have h := Option.some.inj h
    subst h
    exact bQ ⟨rfl, _, [.arr v31 32 5 (x29.map aM)], [], _, .one (.tmp 10 (v := .d (.lit v31)) rfl), .refl _, .same _, v31, rfl, rfl⟩

theorem aAw (t_0 : aO) (l_1 : List aE) {Q : Int → Prop} (h : oC t_0 l_1 Q) : eR Try.prog 16 [.agg (aT t_0), .d (.sl 5 (l_1.map aM))] [] (fun r' o' => ∃ (r : Int), Q r ∧ r' = .d (.lit (.int .i64 r)) ∧ o' = []) := by
 unfold oC at h
 refine fO Try.func16 rfl (rs := [.tmp 4]) Try.results16 Try.ntmps16 (Nat.le_of_ble_eq_true rfl) ?_
 refine aG ?_
 refine aD ?_
 refine cD rfl (gF (v := .agg (aT t_0)) (aA rfl) rfl rfl rfl) ?_
 rintro _ ⟨b1, rfl⟩
 refine tr1 rfl (aJ (v := .d (.lit (.int .i64 0))) (aA rfl) rfl rfl) ?_
 refine aF ?_
 refine aG ?_
 refine aD ?_
 refine tr1 rfl (bT (aA rfl) rfl (i := 0) rfl eB (es := (aT t_0)) rfl rfl) ?_
 refine tr1 rfl (aC (v := .d (.sl 5 (l_1.map aM))) (aA rfl) rfl rfl) ?_
 refine cD rfl (nG (aA rfl) (.func _ _ Try.call48) rfl rfl (nA _ _ h)) ?_
 rintro _ ⟨_, _, ⟨r2, h, rfl, rfl⟩, rfl⟩
 refine tr1 rfl (aC (v := .tup [cQ aX r2.1, .d (.lit (.int .i64 r2.2))]) (aA rfl) rfl rfl) ?_
 refine tr1 rfl (bW (aA rfl) rfl rfl) ?_
 refine tr1 rfl (bW (aA rfl) rfl rfl) ?_
 refine tr1 rfl (aJ (v := cQ aX r2.1) (aA rfl) rfl rfl) ?_
 refine tr1 rfl (aJ (v := .d (.lit (.int .i64 r2.2))) (aA rfl) rfl rfl) ?_
 refine aF ?_
 refine aG ?_
 refine aD ?_
 refine tr1 rfl (aC (v := .d (.lit (.int .i64 r2.2))) (aA rfl) rfl rfl) ?_
 refine tr1 rfl (aJ (v := .d (.lit (.int .i64 r2.2))) (aA rfl) rfl rfl) ?_
 refine aF ?_
 exact bQ ⟨rfl, _, [], [.box b1 0 (aT t_0)], _, .one (.tmp 4 (v := .d (.lit (.int .i64 r2.2))) rfl), .refl _, .same _, r2.2, h, rfl, rfl⟩

theorem aAx (a0 : aO) (a1 : List aE) {r : Int} (h : oQ a0 a1 = some r) : Fn Try.prog 16 [.agg (aT a0), .d (.sl 5 (a1.map aM))] ((fun x : Int => .d (.lit (.int .i64 x))) r) := rR (enc := fun x : Int => .d (.lit (.int .i64 x))) (aAw a0 a1 (yY a0 a1 h (fun x => x = r) rfl))

theorem aAi (x_0 : List Int) {r : Int} (h : nH x_0 = some r) : Fn Try.prog 58 [.d (.sl 1 (x_0.map aP))] (.d (.lit (.int .i64 r))) := by
 unfold nH at h
 refine Fn.of_tr Try.func58 rfl (rs := [.tmp 2]) Try.results58 Try.ntmps58 (Nat.le_of_ble_eq_true rfl) ?_
 refine aG ?_
 refine aD ?_
 refine tr1 rfl (aJ (v := .d (.lit (.int .i64 0))) (aA rfl) rfl rfl) ?_
 refine aF ?_
 refine aG ?_
 refine aG ?_
 refine aD ?_
 refine tr1 rfl (aC (v := .d (.sl 1 (x_0.map aP))) (aA rfl) rfl rfl) ?_
 refine tr1 rfl (eI (aA rfl) rfl bX.of) ?_
 refine tr1 rfl (bG (aA rfl) rfl rfl rfl) ?_
 refine aF ?_
 refine bU rfl (fun c1 => ?_) (fun c1 => ?_)
 ·have h := aZ c1 h
  cases h
 ·have h := aY c1 h
  refine bR ?_
  refine aG ?_
  refine aD ?_
  refine tr1 rfl (aC (v := .d (.sl 1 (x_0.map aP))) (aA rfl) rfl rfl) ?_
  obtain ⟨x2, h3, h⟩ := bind_some h
  refine tr1 rfl (bL (aA rfl) rfl rfl bX.of (bS aP h3)) ?_
  refine tr1 rfl (bM (aA rfl) rfl bF) ?_
  refine tr1 rfl (aJ (v := .d (.lit (.int .i64 x2))) (aA rfl) rfl rfl) ?_
  refine aF ?_
  refine aG ?_
  refine aG ?_
  refine aD ?_
  refine tr1 rfl (aJ (v := .d (.lit (.int .i64 1))) (aA rfl) rfl rfl) ?_
  refine aF ?_
  refine cG ?_
  refine dO [0] (fun (s4 : Int × Int) => [(3, .d (.lit (.int .i64 s4.1))), (4, .d (.lit (.int .i64 s4.2)))]) (fun (s4 : Int × Int) => []) (fun (k : Nat) (s4 : Int × Int) => iJ x_0 k s4.1 s4.2) (fun _ => rfl) (x2, 1) h (bE [] rfl rfl (aU rfl (aU rfl (bC ⟨rfl, trivial⟩)))) ?_
  rintro k5 ⟨m_0_4, i_0_4⟩ h
  simp only [iJ] at h
  refine aG ?_
  refine aG ?_
  refine aD ?_
  refine tr1 rfl (aC (v := .d (.lit (.int .i64 i_0_4))) (aA rfl) rfl rfl) ?_
  refine tr1 rfl (aC (v := .d (.sl 1 (x_0.map aP))) (aA rfl) rfl rfl) ?_
  refine tr1 rfl (eI (aA rfl) rfl bX.of) ?_
  refine tr1 rfl (bG (aA rfl) rfl rfl rfl) ?_
  refine aF ?_
  refine bU rfl (fun c6 => ?_) (fun c6 => ?_)
  ·have h := aZ c6 h
   refine bR ?_
   refine aG ?_
   refine cG ?_
   refine aD ?_
   refine tr1 rfl (aC (v := .d (.lit (.int .i64 m_0_4))) (aA rfl) rfl rfl) ?_
   refine tr1 rfl (aC (v := .d (.sl 1 (x_0.map aP))) (aA rfl) rfl rfl) ?_
   refine tr1 rfl (aC (v := .d (.lit (.int .i64 i_0_4))) (aA rfl) rfl rfl) ?_
   obtain ⟨x7, h8, h⟩ := bind_some h
   refine tr1 rfl (bL (aA rfl) rfl rfl bX.of (bS aP h8)) ?_
   refine tr1 rfl (bM (aA rfl) rfl bF) ?_
   refine tr1 rfl (aLs (aA rfl) rfl rfl) ?_
   refine tr1 rfl (aJ (v := .d (.lit (.int .i64 ((min m_0_4 x7))))) (aA rfl) rfl rfl) ?_
   refine fA ?_
   refine aD ?_
   refine tr1 rfl (aC (v := .d (.lit (.int .i64 i_0_4))) (aA rfl) rfl rfl) ?_
   refine tr1 rfl (bO (aA rfl) rfl rfl rfl) ?_
   refine tr1 rfl (aJ (v := .d (.lit (.int .i64 ((w64 (i_0_4 + 1)))))) (aA rfl) rfl rfl) ?_
   refine aF ?_
   exact ⟨(min m_0_4 x7, w64 (i_0_4 + 1)), h, bE [] rfl rfl (aU rfl (aU rfl (bC ⟨rfl, trivial⟩)))⟩
  ·have h := aY c6 h
   refine dA ?_
   refine .inl ⟨rfl, ?_⟩
   simp only [pP] at h
   refine aG ?_
   refine aD ?_
   refine tr1 rfl (aC (v := .d (.lit (.int .i64 m_0_4))) (aA rfl) rfl rfl) ?_
   refine tr1 rfl (aJ (v := .d (.lit (.int .i64 m_0_4))) (aA rfl) rfl rfl) ?_
   refine aF ?_
   have h := Option.some.inj h
   subst h
   exact bQ ⟨rfl, _, .one _, rfl, rfl⟩

theorem aCd (t_0 : aO) (l_1 : List aE) (a_2 : Int) (b_3 : Int) {Q : (Int × Int) → Prop} (h : oX t_0 l_1 a_2 b_3 Q) : eR Try.prog 36 [.agg (aT t_0), .d (.sl 5 (l_1.map aM)), .d (.lit (.int .i64 a_2)), .d (.lit (.int .i64 b_3))] [] (fun r' o' => ∃ (r : Int × Int), Q r ∧ r' = .tup [.d (.lit (.int .i64 r.1)), .d (.lit (.int .i64 r.2))] ∧ o' = []) := by
 unfold oX at h
 refine fO Try.func36 rfl (rs := [.tmp 8, .tmp 9]) Try.results36 Try.ntmps36 (Nat.le_of_ble_eq_true rfl) ?_
 refine aG ?_
 refine aD ?_
 refine cD rfl (gF (v := .agg (aT t_0)) (aA rfl) rfl rfl rfl) ?_
 rintro _ ⟨b1, rfl⟩
 refine tr1 rfl (aJ (v := .d (.lit (.int .i64 0))) (aA rfl) rfl rfl) ?_
 refine tr1 rfl (aJ (v := .d (.lit (.int .i64 0))) (aA rfl) rfl rfl) ?_
 refine aF ?_
 refine aG ?_
 refine aD ?_
 refine tr1 rfl (bT (aA rfl) rfl (i := 0) rfl eB (es := (aT t_0)) rfl rfl) ?_
 refine tr1 rfl (aC (v := .d (.sl 5 (l_1.map aM))) (aA rfl) rfl rfl) ?_
 refine tr1 rfl (aC (v := .d (.lit (.int .i64 a_2))) (aA rfl) rfl rfl) ?_
 refine tr1 rfl (aC (v := .d (.lit (.int .i64 b_3))) (aA rfl) rfl rfl) ?_
 refine tr1 rfl (gG (aA rfl) bX rfl rfl (rows := ([a_2, b_3]).map aP) rfl (dM (f := aP) fun _ => rfl) rfl (by decide)) ?_
 refine cD rfl (nG (aA rfl) (.func _ _ Try.call49) rfl rfl (wV _ _ _ h)) ?_
 rintro _ ⟨_, _, ⟨r2, h, rfl, rfl⟩, rfl⟩
 refine tr1 rfl (aC (v := .tup [cQ aX r2.1, .d (.sl 1 (r2.2.1.map aP)), .d (.lit (.int .i64 r2.2.2))]) (aA rfl) rfl rfl) ?_
 refine tr1 rfl (bW (aA rfl) rfl rfl) ?_
 refine tr1 rfl (bW (aA rfl) rfl rfl) ?_
 refine tr1 rfl (bW (aA rfl) rfl rfl) ?_
 refine tr1 rfl (aJ (v := cQ aX r2.1) (aA rfl) rfl rfl) ?_
 refine tr1 rfl (aJ (v := .d (.sl 1 (r2.2.1.map aP))) (aA rfl) rfl rfl) ?_
 refine tr1 rfl (aJ (v := .d (.lit (.int .i64 r2.2.2))) (aA rfl) rfl rfl) ?_
 refine aF ?_
 refine aG ?_
 refine cG ?_
 refine aG ?_
 refine aD ?_
 refine tr1 rfl (aC (v := .d (.lit (.int .i64 r2.2.2))) (aA rfl) rfl rfl) ?_
 refine tr1 rfl (bG (aA rfl) rfl rfl rfl) ?_
 refine tr1 rfl (aJ (v := .d (.lit (.bool ((!decide (r2.2.2 = 0)))))) (aA rfl) rfl rfl) ?_
 refine aF ?_
 refine bU rfl (fun c3 => ?_) (fun c3 => ?_)
 ·have h := eA c3 h
  refine aG ?_
  refine aD ?_
  refine tr1 rfl (aC (v := .d (.lit (.int .i64 r2.2.2))) (aA rfl) rfl rfl) ?_
  refine tr1 rfl (aJ (v := .d (.lit (.int .i64 0))) (aA rfl) rfl rfl) ?_
  refine tr1 rfl (aJ (v := .d (.lit (.int .i64 r2.2.2))) (aA rfl) rfl rfl) ?_
  refine aF ?_
  exact bQ ⟨rfl, _, [], [.box b1 0 (aT t_0)], _, .two (.tmp 8 (v := .d (.lit (.int .i64 0))) rfl) (.tmp 9 (v := .d (.lit (.int .i64 r2.2.2))) rfl), .refl _, .same _, (0, r2.2.2), h, rfl, rfl⟩
 ·have h := dZ c3 h
  refine aG ?_
  refine aD ?_
  refine tr1 rfl (aC (v := .d (.lit (.int .i64 a_2))) (aA rfl) rfl rfl) ?_
  refine tr1 rfl (aC (v := .d (.lit (.int .i64 b_3))) (aA rfl) rfl rfl) ?_
  refine tr1 rfl (bG (aA rfl) rfl rfl rfl) ?_
  refine tr1 rfl (aJ (v := .d (.lit (.bool ((decide (a_2 = b_3)))))) (aA rfl) rfl rfl) ?_
  refine aF ?_
  refine bU rfl (fun c4 => ?_) (fun c4 => ?_)
  ·have h := eA c4 h
   refine aG ?_
   refine aD ?_
   refine tr1 rfl (aJ (v := .d (.lit (.int .i64 0))) (aA rfl) rfl rfl) ?_
   refine tr1 rfl (aJ (v := .d (.lit (.int .i64 1))) (aA rfl) rfl rfl) ?_
   refine aF ?_
   exact bQ ⟨rfl, _, [], [.box b1 0 (aT t_0)], _, .two (.tmp 8 (v := .d (.lit (.int .i64 0))) rfl) (.tmp 9 (v := .d (.lit (.int .i64 1))) rfl), .refl _, .same _, (0, 1), h, rfl, rfl⟩
  ·have h := dZ c4 h
   refine aG ?_
   refine aD ?_
   refine tr1 rfl (aC (v := .d (.sl 1 (r2.2.1.map aP))) (aA rfl) rfl rfl) ?_
   obtain ⟨r5, h6, h⟩ := cT h
   refine tr1 rfl (cR (aA rfl) (.func _ _ Try.call58) rfl rfl (BVs.refl _ _) (aAi _ h6) rfl) ?_
   refine tr1 rfl (bG (aA rfl) rfl rfl rfl) ?_
   refine tr1 rfl (aJ (v := .d (.lit (.bool ((decide (r5 < 0)))))) (aA rfl) rfl rfl) ?_
   refine aF ?_
   refine bU rfl (fun c7 => ?_) (fun c7 => ?_)
   ·have h := eA c7 h
    refine aG ?_
    refine aD ?_
    refine tr1 rfl (aJ (v := .d (.lit (.int .i64 0))) (aA rfl) rfl rfl) ?_
    refine tr1 rfl (aJ (v := .d (.lit (.int .i64 3))) (aA rfl) rfl rfl) ?_
    refine aF ?_
    exact bQ ⟨rfl, _, [], [.box b1 0 (aT t_0)], _, .two (.tmp 8 (v := .d (.lit (.int .i64 0))) rfl) (.tmp 9 (v := .d (.lit (.int .i64 3))) rfl), .refl _, .same _, (0, 3), h, rfl, rfl⟩
   ·have h := dZ c7 h
    refine eG ?_
    refine aG ?_
    refine aG ?_
    refine aD ?_
    refine tr1 rfl (aC (v := cQ aX r2.1) (aA rfl) rfl rfl) ?_
    obtain ⟨x8, h9, h⟩ := cT h
    refine tr1 rfl (pT (enc := aX) (aA rfl) rfl h9) ?_
    refine tr1 rfl (cI (aA rfl) rfl nX (es := [.lit (.int .i64 x8.Tree.Rounds), .sl 1 (x8.Tree.Slots.map aP)]) rfl) ?_
    refine tr1 rfl (cI (aA rfl) rfl iH (es := [.lit (.int .i64 x8.Tree.Rounds)]) rfl) ?_
    refine tr1 rfl (bM (aA rfl) rfl bF) ?_
    refine tr1 rfl (aC (v := .d (.lit (.int .i64 0))) (aA rfl) rfl rfl) ?_
    refine aF ?_
    refine cG ?_
    refine oA [10, 11, 40] (fun (s10 : Int) => [(41, .d (.lit (.int .i64 s10)))]) (fun (s10 : Int) => []) (fun (k : Nat) (s10 : Int) => jE Q r2.1 r2.2.1 x8.Tree.Rounds k s10) (fun _ h => h) (0) h (bE [] rfl rfl (aU rfl (bC ⟨rfl, rfl, rfl, trivial⟩))) ?_
    rintro k11 t41_1_10 h
    simp only [jE] at h
    refine aG ?_
    refine aD ?_
    refine tr1 rfl (bG (aA rfl) rfl rfl rfl) ?_
    refine aF ?_
    refine aG ?_
    refine bU rfl (fun c12 => ?_) (fun c12 => ?_)
    ·have h := eA c12 h
     refine bR ?_
     refine aG ?_
     refine cG ?_
     refine aG ?_
     refine aD ?_
     refine tr1 rfl (aC (v := .d (.lit (.int .i64 t41_1_10))) (aA rfl) rfl rfl) ?_
     refine tr1 rfl (aJ (v := .d (.lit (.int .i64 t41_1_10))) (aA rfl) rfl rfl) ?_
     refine aF ?_
     refine aG ?_
     obtain ⟨x13, h14, h⟩ := cT h
     obtain ⟨r15, h16, h⟩ := cT h
     obtain ⟨x17, h18, h⟩ := cT h
     refine dW mix 9 [10, 11, 13, 40, 41] [(48, .agg (aK r15)), (49, .d (.lit (.int .i64 t41_1_10))), (52, .d (.lit (.int .i64 x17)))] ?_ ?_
     ·refine ⟨[(44, 0, .d (.lit (.int .i64 t41_1_10))), (45, 1, .d (.sl 1 (r2.2.1.map aP))), (46, 2, .cp [.lit (.int .i64 x13)]), (47, 3, .d (.lit (.int .i64 x13))), (48, 4, .agg (aK r15)), (49, 5, .d (.lit (.int .i64 t41_1_10))), (50, 6, .d (.sl 1 (r2.2.1.map aP))), (51, 7, .cp [.lit (.int .i64 x17)]), (52, 8, .d (.lit (.int .i64 x17)))], ?_, ?_⟩
      · exact ⟨by kernel_rfl, by kernel_rfl, by kernel_rfl, by kernel_rfl, by kernel_rfl, [([], []), ([], []), ([1], []), ([2], []), ([0, 3], []), ([], []), ([], []), ([6], []), ([7], [])], by kernel_rfl, ⟨fun S hS => aH rfl (aS rfl (aC (v := .d (.lit (.int .i64 t41_1_10))) (aA rfl) (aI hS rfl) rfl)),
      fun S hS => aH rfl (aS rfl (aC (v := .d (.sl 1 (r2.2.1.map aP))) (aA rfl) (aI hS rfl) rfl)),
      fun S hS => aH rfl (aS rfl (bL (aA rfl) (aI hS rfl) rfl bX.of (bS aP h14))),
      fun S hS => aH rfl (aS rfl (bM (aA rfl) (aI hS rfl) bF)),
      fun S hS => aH rfl (aS rfl (iD (aA rfl) (.func _ _ Try.call45) (ev2 (aI hS rfl) (ev2 (aI hS rfl) evn)) rfl (jH _ _ h16))),
      fun S hS => aH rfl (aS rfl (aC (v := .d (.lit (.int .i64 t41_1_10))) (aA rfl) (aI hS rfl) rfl)),
      fun S hS => aH rfl (aS rfl (aC (v := .d (.sl 1 (r2.2.1.map aP))) (aA rfl) (aI hS rfl) rfl)),
      fun S hS => aH rfl (aS rfl (bL (aA rfl) (aI hS rfl) rfl bX.of (bS aP h18))),
      fun S hS => aH rfl (aS rfl (bM (aA rfl) (aI hS rfl) bF)), trivial⟩⟩
      · exact dE (aU rfl (aU rfl (aU rfl (bC ⟨rfl, rfl, rfl, rfl, rfl, trivial⟩))))
     ·obtain ⟨r19, h20, h⟩ := cT h
      refine tr1 rfl (iD (aA rfl) (.func _ _ Try.call45) rfl rfl (jH _ _ h20)) ?_
      refine tr1 rfl (wP (a := r15) (b := r19) (aA rfl) rfl rfl rfl rfl Try.eqGuardType70 vD) ?_
      refine aF ?_
      refine bU rfl (fun c21 => ?_) (fun c21 => ?_)
      ·have h := eA c21 h
       refine aG ?_
       refine aG ?_
       obtain ⟨x22, h23, h⟩ := cT h
       refine cV (yQ (enc := aX) (k := 10) rfl h23) ?_
       obtain ⟨x24, h25, h⟩ := cT h
       obtain ⟨r26, h27, h⟩ := cT h
       obtain ⟨x28, h29, h⟩ := cT h
       obtain ⟨r30, h31, h⟩ := cT h
       refine dW mix 12 [13] [(65, .d (.lit (.int .i64 ((min r26 r30))))), (66, .d (.lit (.int .i64 t41_1_10)))] ?_ ?_
       ·refine ⟨[(55, 0, .cp [.lit (.int .i64 x22.Tree.Rounds), .sl 1 (x22.Tree.Slots.map aP), .sl 1 (x22.players.map aP), .mp false (x22.won.map fun p : aB × Int => ((fun a : aB => Value.agg ((aK a).map bK).toArray) p.1, aP p.2))]), (56, 1, .d (.sl 1 (r2.2.1.map aP))), (57, 2, .cp [.lit (.int .i64 x24)]), (58, 3, .d (.lit (.int .i64 x24))), (59, 4, .d (.lit (.int .i64 r26))), (60, 5, .cp [.lit (.int .i64 x22.Tree.Rounds), .sl 1 (x22.Tree.Slots.map aP), .sl 1 (x22.players.map aP), .mp false (x22.won.map fun p : aB × Int => ((fun a : aB => Value.agg ((aK a).map bK).toArray) p.1, aP p.2))]), (61, 6, .d (.sl 1 (r2.2.1.map aP))), (62, 7, .cp [.lit (.int .i64 x28)]), (63, 8, .d (.lit (.int .i64 x28))), (64, 9, .d (.lit (.int .i64 r30))), (65, 10, .d (.lit (.int .i64 ((min r26 r30))))), (66, 11, .d (.lit (.int .i64 t41_1_10)))], ?_, ?_⟩
        · exact ⟨by kernel_rfl, by kernel_rfl, by kernel_rfl, by kernel_rfl, by kernel_rfl, [([], []), ([], []), ([1], []), ([2], []), ([0, 3], []), ([], []), ([], []), ([6], []), ([7], []), ([5, 8], []), ([4, 9], []), ([], [])], by kernel_rfl, ⟨fun S hS => aH rfl (aS rfl (aC (v := .cp [.lit (.int .i64 x22.Tree.Rounds), .sl 1 (x22.Tree.Slots.map aP), .sl 1 (x22.players.map aP), .mp false (x22.won.map fun p : aB × Int => ((fun a : aB => Value.agg ((aK a).map bK).toArray) p.1, aP p.2))]) (aA rfl) (aI hS rfl) rfl)),
      fun S hS => aH rfl (aS rfl (aC (v := .d (.sl 1 (r2.2.1.map aP))) (aA rfl) (aI hS rfl) rfl)),
      fun S hS => aH rfl (aS rfl (bL (aA rfl) (aI hS rfl) rfl bX.of (bS aP h25))),
      fun S hS => aH rfl (aS rfl (bM (aA rfl) (aI hS rfl) bF)),
      fun S hS => aH rfl (aS rfl (cR (aA rfl) (.func _ _ Try.call46) (ev2 (aI hS rfl) (ev2 (aI hS rfl) evn)) rfl (BVs.refl _ _) (mL _ _ h27) rfl)),
      fun S hS => aH rfl (aS rfl (aC (v := .cp [.lit (.int .i64 x22.Tree.Rounds), .sl 1 (x22.Tree.Slots.map aP), .sl 1 (x22.players.map aP), .mp false (x22.won.map fun p : aB × Int => ((fun a : aB => Value.agg ((aK a).map bK).toArray) p.1, aP p.2))]) (aA rfl) (aI hS rfl) rfl)),
      fun S hS => aH rfl (aS rfl (aC (v := .d (.sl 1 (r2.2.1.map aP))) (aA rfl) (aI hS rfl) rfl)),
      fun S hS => aH rfl (aS rfl (bL (aA rfl) (aI hS rfl) rfl bX.of (bS aP h29))),
      fun S hS => aH rfl (aS rfl (bM (aA rfl) (aI hS rfl) bF)),
      fun S hS => aH rfl (aS rfl (cR (aA rfl) (.func _ _ Try.call46) (ev2 (aI hS rfl) (ev2 (aI hS rfl) evn)) rfl (BVs.refl _ _) (mL _ _ h31) rfl)),
      fun S hS => aH rfl (aS rfl (aLs (aA rfl) (aI hS rfl) (aI hS rfl))),
      fun S hS => aH rfl (aS rfl (aC (v := .d (.lit (.int .i64 t41_1_10))) (aA rfl) (aI hS rfl) rfl)), trivial⟩⟩
        · exact dE (aU rfl (aU rfl (bC ⟨rfl, trivial⟩)))
       ·refine tr1 rfl (bG (aA rfl) rfl rfl rfl) ?_
        refine aF ?_
        refine bU rfl (fun c32 => ?_) (fun c32 => ?_)
        ·have h := eA c32 h
         refine aG ?_
         refine aD ?_
         refine tr1 rfl (aJ (v := .d (.lit (.int .i64 0))) (aA rfl) rfl rfl) ?_
         refine tr1 rfl (aJ (v := .d (.lit (.int .i64 3))) (aA rfl) rfl rfl) ?_
         refine aF ?_
         exact bQ ⟨rfl, _, [], [], _, .two (.tmp 8 (v := .d (.lit (.int .i64 0))) rfl) (.tmp 9 (v := .d (.lit (.int .i64 3))) rfl), .refl _, .same _, (0, 3), h, rfl, rfl⟩
        ·have h := dZ c32 h
         refine bR ?_
         refine aG ?_
         refine aD ?_
         refine tr1 rfl (aC (v := .d (.lit (.int .i64 t41_1_10))) (aA rfl) rfl rfl) ?_
         refine tr1 rfl (aJ (v := .d (.lit (.int .i64 t41_1_10))) (aA rfl) rfl rfl) ?_
         refine tr1 rfl (aJ (v := .d (.lit (.int .i64 0))) (aA rfl) rfl rfl) ?_
         refine aF ?_
         exact bQ ⟨rfl, _, [], [], _, .two (.tmp 8 (v := .d (.lit (.int .i64 t41_1_10))) rfl) (.tmp 9 (v := .d (.lit (.int .i64 0))) rfl), .refl _, .same _, (t41_1_10, 0), h, rfl, rfl⟩
      ·have h := dZ c21 h
       refine eG ?_
       refine aD ?_
       refine tr1 rfl (bO (aA rfl) rfl rfl rfl) ?_
       refine tr1 rfl (aC (v := .d (.lit (.int .i64 ((w64 (t41_1_10 + 1)))))) (aA rfl) rfl rfl) ?_
       refine aF ?_
       exact ⟨(w64 (t41_1_10 + 1)), h, bE [] rfl rfl (aU rfl (bC ⟨rfl, rfl, rfl, trivial⟩))⟩
    ·have h := dZ c12 h
     refine dA ?_
     refine .inl ⟨rfl, ?_⟩
     simp only [uF] at h
     refine aG ?_
     refine aD ?_
     refine tr1 rfl (aJ (v := .d (.lit (.int .i64 0))) (aA rfl) rfl rfl) ?_
     refine tr1 rfl (aJ (v := .d (.lit (.int .i64 3))) (aA rfl) rfl rfl) ?_
     refine aF ?_
     exact bQ ⟨rfl, _, [], [], _, .two (.tmp 8 (v := .d (.lit (.int .i64 0))) rfl) (.tmp 9 (v := .d (.lit (.int .i64 3))) rfl), .refl _, .same _, (0, 3), h, rfl, rfl⟩

theorem vB (a0 : aO) (a1 : List aE) (a2 : Int) (a3 : Int) {r : Int × Int} (h : pK a0 a1 a2 a3 = some r) : Fn Try.prog 36 [.agg (aT a0), .d (.sl 5 (a1.map aM)), .d (.lit (.int .i64 a2)), .d (.lit (.int .i64 a3))] ((fun x : Int × Int => .tup [.d (.lit (.int .i64 x.1)), .d (.lit (.int .i64 x.2))]) r) := rR (enc := fun x : Int × Int => .tup [.d (.lit (.int .i64 x.1)), .d (.lit (.int .i64 x.2))]) (aCd a0 a1 a2 a3 (zO a0 a1 a2 a3 h (fun x => x = r) rfl))

theorem tK (t_0 : aO) (l_1 : List aE) (x_2 : dP) {r : Bool} (h : kJ t_0 l_1 x_2 = some r) : Fn Try.prog 10 [.agg (aT t_0), .d (.sl 5 (l_1.map aM)), .agg (fY x_2)] (.d (.lit (.bool r))) := by
 unfold kJ at h
 refine Fn.of_tr Try.func10 rfl (rs := [.tmp 6]) Try.results10 Try.ntmps10 (Nat.le_of_ble_eq_true rfl) ?_
 refine aG ?_
 refine aD ?_
 refine cD rfl (gF (v := .agg (aT t_0)) (aA rfl) rfl rfl rfl) ?_
 rintro _ ⟨b1, rfl⟩
 refine cD rfl (gF (v := .agg (fY x_2)) (aA rfl) rfl rfl rfl) ?_
 rintro _ ⟨b2, rfl⟩
 refine tr1 rfl (aJ (v := .d (.lit (.bool false))) (aA rfl) rfl rfl) ?_
 refine aF ?_
 refine aG ?_
 refine aG ?_
 refine aD ?_
 refine tr1 rfl (bT (aA rfl) rfl (i := 0) rfl eB (es := (aT t_0)) rfl rfl) ?_
 refine tr1 rfl (aC (v := .d (.sl 5 (l_1.map aM))) (aA rfl) rfl rfl) ?_
 obtain ⟨r3, h4, h⟩ := bind_some h
 refine tr1 rfl (cR (aA rfl) (.func _ _ Try.call12) rfl rfl (BVs.refl _ _) (xI _ _ h4) rfl) ?_
 refine tr1 rfl (gT (aA rfl) rfl) ?_
 refine tr1 rfl (aC (v := .d (.lit (.bool (!r3)))) (aA rfl) rfl rfl) ?_
 obtain ⟨b5, h6, h⟩ := bind_some h
 refine cC 4 [1, 3, 5] 31 b5 ?_ ?_
 ·refine bH (!r3) (fun c138 => ?_) (fun c138 => ?_)
  ·have h6 := aZ c138 h6
   refine aN rfl rfl (aA rfl) rfl (aA rfl) rfl c138 ?_
   refine aN rfl rfl (aA rfl) rfl (aA rfl) rfl c138 ?_
   refine aN rfl rfl (aA rfl) rfl (aA rfl) rfl c138 ?_
   refine tr1 rfl (bP (v := .d (.lit (.bool true))) (aA rfl) rfl c138 rfl rfl) ?_
   have h6 := Option.some.inj h6
   subst h6
   refine aF (bA rfl ⟨rfl, rfl, rfl, trivial⟩ rfl)
  ·have h6 := aY c138 h6
   refine aL rfl rfl (aA rfl) rfl c138 (aC (v := .d (.sl 5 (l_1.map aM))) (aA rfl) rfl rfl) ?_
   refine aL rfl rfl (aA rfl) rfl c138 (eI (aA rfl) rfl eV.of) ?_
   refine aL rfl rfl (aA rfl) rfl c138 (bG (aA rfl) rfl rfl rfl) ?_
   refine tr1 rfl (bN (v := .d (.lit (.bool ((decide (50 < (l_1.length : Int))))))) (aA rfl) rfl c138 rfl rfl) ?_
   have h6 := Option.some.inj h6
   subst h6
   refine aF (bA rfl ⟨rfl, rfl, rfl, trivial⟩ rfl)
 ·refine tr1 rfl (aC (v := .d (.lit (.bool b5))) (aA rfl) rfl rfl) ?_
  obtain ⟨b7, h8, h⟩ := bind_some h
  refine cC 4 [1, 3, 5] 36 b7 ?_ ?_
  ·refine bH (b5) (fun c137 => ?_) (fun c137 => ?_)
   ·have h8 := aZ c137 h8
    refine aN rfl rfl (aA rfl) rfl (aA rfl) rfl c137 ?_
    refine aN rfl rfl (aA rfl) rfl (aA rfl) rfl c137 ?_
    refine aN rfl rfl (aA rfl) rfl (aA rfl) rfl c137 ?_
    refine tr1 rfl (bP (v := .d (.lit (.bool true))) (aA rfl) rfl c137 rfl rfl) ?_
    have h8 := Option.some.inj h8
    subst h8
    refine aF (bA rfl ⟨rfl, rfl, rfl, trivial⟩ rfl)
   ·have h8 := aY c137 h8
    refine aL rfl rfl (aA rfl) rfl c137 (aV (aA rfl) rfl jL) ?_
    refine aL rfl rfl (aA rfl) rfl c137 (aW (aA rfl) rfl (i := 1) rfl rfl bF) ?_
    refine aL rfl rfl (aA rfl) rfl c137 (bG (aA rfl) rfl rfl rfl) ?_
    refine tr1 rfl (bN (v := .d (.lit (.bool ((decide (x_2.A < 0)))))) (aA rfl) rfl c137 rfl rfl) ?_
    have h8 := Option.some.inj h8
    subst h8
    refine aF (bA rfl ⟨rfl, rfl, rfl, trivial⟩ rfl)
  ·refine tr1 rfl (aC (v := .d (.lit (.bool b7))) (aA rfl) rfl rfl) ?_
   obtain ⟨b9, h10, h⟩ := bind_some h
   refine cC 4 [1, 3, 5] 41 b9 ?_ ?_
   ·refine bH (b7) (fun c136 => ?_) (fun c136 => ?_)
    ·have h10 := aZ c136 h10
     refine aN rfl rfl (aA rfl) rfl (aA rfl) rfl c136 ?_
     refine aN rfl rfl (aA rfl) rfl (aA rfl) rfl c136 ?_
     refine aN rfl rfl (aA rfl) rfl (aA rfl) rfl c136 ?_
     refine tr1 rfl (bP (v := .d (.lit (.bool true))) (aA rfl) rfl c136 rfl rfl) ?_
     have h10 := Option.some.inj h10
     subst h10
     refine aF (bA rfl ⟨rfl, rfl, rfl, trivial⟩ rfl)
    ·have h10 := aY c136 h10
     refine aL rfl rfl (aA rfl) rfl c136 (aV (aA rfl) rfl iS) ?_
     refine aL rfl rfl (aA rfl) rfl c136 (aW (aA rfl) rfl (i := 1) rfl rfl bF) ?_
     refine aL rfl rfl (aA rfl) rfl c136 (bG (aA rfl) rfl rfl rfl) ?_
     refine tr1 rfl (bN (v := .d (.lit (.bool ((decide (x_2.B < 0)))))) (aA rfl) rfl c136 rfl rfl) ?_
     have h10 := Option.some.inj h10
     subst h10
     refine aF (bA rfl ⟨rfl, rfl, rfl, trivial⟩ rfl)
   ·refine tr1 rfl (aC (v := .d (.lit (.bool b9))) (aA rfl) rfl rfl) ?_
    obtain ⟨b11, h12, h⟩ := bind_some h
    refine cC 4 [1, 3, 5] 46 b11 ?_ ?_
    ·refine bH (b9) (fun c135 => ?_) (fun c135 => ?_)
     ·have h12 := aZ c135 h12
      refine aN rfl rfl (aA rfl) rfl (aA rfl) rfl c135 ?_
      refine aN rfl rfl (aA rfl) rfl (aA rfl) rfl c135 ?_
      refine aN rfl rfl (aA rfl) rfl (aA rfl) rfl c135 ?_
      refine tr1 rfl (bP (v := .d (.lit (.bool true))) (aA rfl) rfl c135 rfl rfl) ?_
      have h12 := Option.some.inj h12
      subst h12
      refine aF (bA rfl ⟨rfl, rfl, rfl, trivial⟩ rfl)
     ·have h12 := aY c135 h12
      refine aL rfl rfl (aA rfl) rfl c135 (aV (aA rfl) rfl jL) ?_
      refine aL rfl rfl (aA rfl) rfl c135 (aW (aA rfl) rfl (i := 1) rfl rfl bF) ?_
      refine aL rfl rfl (aA rfl) rfl c135 (bG (aA rfl) rfl rfl rfl) ?_
      refine tr1 rfl (bN (v := .d (.lit (.bool ((decide (999 < x_2.A)))))) (aA rfl) rfl c135 rfl rfl) ?_
      have h12 := Option.some.inj h12
      subst h12
      refine aF (bA rfl ⟨rfl, rfl, rfl, trivial⟩ rfl)
    ·refine tr1 rfl (aC (v := .d (.lit (.bool b11))) (aA rfl) rfl rfl) ?_
     obtain ⟨b13, h14, h⟩ := bind_some h
     refine cC 4 [1, 3, 5] 51 b13 ?_ ?_
     ·refine bH (b11) (fun c134 => ?_) (fun c134 => ?_)
      ·have h14 := aZ c134 h14
       refine aN rfl rfl (aA rfl) rfl (aA rfl) rfl c134 ?_
       refine aN rfl rfl (aA rfl) rfl (aA rfl) rfl c134 ?_
       refine aN rfl rfl (aA rfl) rfl (aA rfl) rfl c134 ?_
       refine tr1 rfl (bP (v := .d (.lit (.bool true))) (aA rfl) rfl c134 rfl rfl) ?_
       have h14 := Option.some.inj h14
       subst h14
       refine aF (bA rfl ⟨rfl, rfl, rfl, trivial⟩ rfl)
      ·have h14 := aY c134 h14
       refine aL rfl rfl (aA rfl) rfl c134 (aV (aA rfl) rfl iS) ?_
       refine aL rfl rfl (aA rfl) rfl c134 (aW (aA rfl) rfl (i := 1) rfl rfl bF) ?_
       refine aL rfl rfl (aA rfl) rfl c134 (bG (aA rfl) rfl rfl rfl) ?_
       refine tr1 rfl (bN (v := .d (.lit (.bool ((decide (999 < x_2.B)))))) (aA rfl) rfl c134 rfl rfl) ?_
       have h14 := Option.some.inj h14
       subst h14
       refine aF (bA rfl ⟨rfl, rfl, rfl, trivial⟩ rfl)
     ·refine tr1 rfl (aC (v := .d (.lit (.bool b13))) (aA rfl) rfl rfl) ?_
      obtain ⟨b15, h16, h⟩ := bind_some h
      refine cC 6 [1, 3, 5] 58 b15 ?_ ?_
      ·refine bH (b13) (fun c133 => ?_) (fun c133 => ?_)
       ·have h16 := aZ c133 h16
        refine aN rfl rfl (aA rfl) rfl (aA rfl) rfl c133 ?_
        refine aN rfl rfl (aA rfl) rfl (aA rfl) rfl c133 ?_
        refine aN rfl rfl (aA rfl) rfl (aA rfl) rfl c133 ?_
        refine aN rfl rfl (aA rfl) rfl (aA rfl) rfl c133 ?_
        refine aN rfl rfl (aA rfl) rfl (aA rfl) rfl c133 ?_
        refine tr1 rfl (bP (v := .d (.lit (.bool true))) (aA rfl) rfl c133 rfl rfl) ?_
        have h16 := Option.some.inj h16
        subst h16
        refine aF (bA rfl ⟨rfl, rfl, rfl, trivial⟩ rfl)
       ·have h16 := aY c133 h16
        refine aL rfl rfl (aA rfl) rfl c133 (aV (aA rfl) rfl jL) ?_
        refine aL rfl rfl (aA rfl) rfl c133 (aW (aA rfl) rfl (i := 1) rfl rfl bF) ?_
        refine aL rfl rfl (aA rfl) rfl c133 (aV (aA rfl) rfl iS) ?_
        refine aL rfl rfl (aA rfl) rfl c133 (aW (aA rfl) rfl (i := 1) rfl rfl bF) ?_
        refine aL rfl rfl (aA rfl) rfl c133 (bG (aA rfl) rfl rfl rfl) ?_
        refine tr1 rfl (bN (v := .d (.lit (.bool ((decide (x_2.A = x_2.B)))))) (aA rfl) rfl c133 rfl rfl) ?_
        have h16 := Option.some.inj h16
        subst h16
        refine aF (bA rfl ⟨rfl, rfl, rfl, trivial⟩ rfl)
      ·refine aF ?_
       refine bU rfl (fun c17 => ?_) (fun c17 => ?_)
       ·have h := aZ c17 h
        refine aG ?_
        refine aD ?_
        obtain ⟨r18, h19, h⟩ := bind_some h
        refine tr1 rfl (cR (aA rfl) (.func _ _ Try.call14) rfl rfl (BVs.refl _ _) (kN h19) rfl) ?_
        refine tr1 rfl (aJ (v := .d (.lit (.bool r18))) (aA rfl) rfl rfl) ?_
        refine aF ?_
        have h := Option.some.inj h
        subst h
        refine cV (cU (cW (l := [6]) ⟨rfl, trivial⟩)) ?_
        exact bQ ⟨rfl, _, .one _, rfl, rfl⟩
       ·have h := aY c17 h
        refine bR ?_
        refine aG ?_
        refine aD ?_
        refine tr1 rfl (bT (aA rfl) rfl (i := 0) rfl eB (es := (aT t_0)) rfl rfl) ?_
        refine tr1 rfl (aC (v := .d (.sl 5 (l_1.map aM))) (aA rfl) rfl rfl) ?_
        refine tr1 rfl (aV (aA rfl) rfl jL) ?_
        refine tr1 rfl (aW (aA rfl) rfl (i := 1) rfl rfl bF) ?_
        refine tr1 rfl (aV (aA rfl) rfl iS) ?_
        refine tr1 rfl (aW (aA rfl) rfl (i := 1) rfl rfl bF) ?_
        obtain ⟨r20, h21, h⟩ := bind_some h
        refine tr1 rfl (cR (aA rfl) (.func _ _ Try.call36) rfl rfl (BVs.refl _ _) (vB _ _ _ _ h21) rfl) ?_
        refine tr1 rfl (aC (v := .tup [.d (.lit (.int .i64 r20.1)), .d (.lit (.int .i64 r20.2))]) (aA rfl) rfl rfl) ?_
        refine tr1 rfl (bW (aA rfl) rfl rfl) ?_
        refine tr1 rfl (bW (aA rfl) rfl rfl) ?_
        refine tr1 rfl (aJ (v := .d (.lit (.int .i64 r20.1))) (aA rfl) rfl rfl) ?_
        refine tr1 rfl (aJ (v := .d (.lit (.int .i64 r20.2))) (aA rfl) rfl rfl) ?_
        refine aF ?_
        refine aG ?_
        refine aD ?_
        refine tr1 rfl (bT (aA rfl) rfl (i := 0) rfl eB (es := (aT t_0)) rfl rfl) ?_
        refine tr1 rfl (aC (v := .d (.sl 5 (l_1.map aM))) (aA rfl) rfl rfl) ?_
        refine tr1 rfl (aV (aA rfl) rfl iS) ?_
        refine tr1 rfl (aW (aA rfl) rfl (i := 1) rfl rfl bF) ?_
        refine tr1 rfl (aV (aA rfl) rfl jL) ?_
        refine tr1 rfl (aW (aA rfl) rfl (i := 1) rfl rfl bF) ?_
        obtain ⟨r22, h23, h⟩ := bind_some h
        refine tr1 rfl (cR (aA rfl) (.func _ _ Try.call36) rfl rfl (BVs.refl _ _) (vB _ _ _ _ h23) rfl) ?_
        refine tr1 rfl (aC (v := .tup [.d (.lit (.int .i64 r22.1)), .d (.lit (.int .i64 r22.2))]) (aA rfl) rfl rfl) ?_
        refine tr1 rfl (bW (aA rfl) rfl rfl) ?_
        refine tr1 rfl (bW (aA rfl) rfl rfl) ?_
        refine tr1 rfl (aJ (v := .d (.lit (.int .i64 r22.1))) (aA rfl) rfl rfl) ?_
        refine tr1 rfl (aJ (v := .d (.lit (.int .i64 r22.2))) (aA rfl) rfl rfl) ?_
        refine aF ?_
        refine aG ?_
        refine aG ?_
        refine aD ?_
        refine tr1 rfl (aC (v := .d (.lit (.int .i64 r20.2))) (aA rfl) rfl rfl) ?_
        refine tr1 rfl (aC (v := .d (.lit (.int .i64 r22.2))) (aA rfl) rfl rfl) ?_
        refine tr1 rfl (bG (aA rfl) rfl rfl rfl) ?_
        refine tr1 rfl (aC (v := .d (.lit (.bool ((!decide (r20.2 = r22.2)))))) (aA rfl) rfl rfl) ?_
        obtain ⟨b24, h25, h⟩ := bind_some h
        refine cC 4 [1, 3, 5, 7, 8] 87 b24 ?_ ?_
        ·refine bH (!decide (r20.2 = r22.2)) (fun c132 => ?_) (fun c132 => ?_)
         ·have h25 := aZ c132 h25
          refine aN rfl rfl (aA rfl) rfl (aA rfl) rfl c132 ?_
          refine aN rfl rfl (aA rfl) rfl (aA rfl) rfl c132 ?_
          refine aN rfl rfl (aA rfl) rfl (aA rfl) rfl c132 ?_
          refine tr1 rfl (bP (v := .d (.lit (.bool true))) (aA rfl) rfl c132 rfl rfl) ?_
          have h25 := Option.some.inj h25
          subst h25
          refine aF (bA rfl ⟨rfl, rfl, rfl, rfl, rfl, trivial⟩ rfl)
         ·have h25 := aY c132 h25
          refine aL rfl rfl (aA rfl) rfl c132 (aC (v := .d (.lit (.int .i64 r20.1))) (aA rfl) rfl rfl) ?_
          refine aL rfl rfl (aA rfl) rfl c132 (aC (v := .d (.lit (.int .i64 r22.1))) (aA rfl) rfl rfl) ?_
          refine aL rfl rfl (aA rfl) rfl c132 (bG (aA rfl) rfl rfl rfl) ?_
          refine tr1 rfl (bN (v := .d (.lit (.bool ((!decide (r20.1 = r22.1)))))) (aA rfl) rfl c132 rfl rfl) ?_
          have h25 := Option.some.inj h25
          subst h25
          refine aF (bA rfl ⟨rfl, rfl, rfl, rfl, rfl, trivial⟩ rfl)
        ·refine tr1 rfl (aC (v := .d (.lit (.bool b24))) (aA rfl) rfl rfl) ?_
         obtain ⟨b26, h27, h⟩ := bind_some h
         refine cC 7 [1, 3, 5, 7, 8] 95 b26 ?_ ?_
         ·refine bH (b24) (fun c128 => ?_) (fun c128 => ?_)
          ·have h27 := aZ c128 h27
           refine aN rfl rfl (aA rfl) rfl (aA rfl) rfl c128 ?_
           refine aN rfl rfl (aA rfl) rfl (aA rfl) rfl c128 ?_
           refine aN rfl rfl (aA rfl) rfl (aA rfl) rfl c128 ?_
           refine dB rfl rfl (aA rfl) rfl (aA rfl) rfl ?_
           refine dB rfl rfl (aA rfl) rfl (aA rfl) rfl ?_
           refine aN rfl rfl (aA rfl) rfl (aA rfl) rfl c128 ?_
           refine tr1 rfl (bP (v := .d (.lit (.bool true))) (aA rfl) rfl c128 rfl rfl) ?_
           have h27 := Option.some.inj h27
           subst h27
           refine aF (bA rfl ⟨rfl, rfl, rfl, rfl, rfl, trivial⟩ rfl)
          ·have h27 := aY c128 h27
           refine aL rfl rfl (aA rfl) rfl c128 (aC (v := .d (.lit (.int .i64 r20.2))) (aA rfl) rfl rfl) ?_
           refine aL rfl rfl (aA rfl) rfl c128 (bG (aA rfl) rfl rfl rfl) ?_
           refine aL rfl rfl (aA rfl) rfl c128 (aC (v := .d (.lit (.bool ((!decide (r20.2 = 0)))))) (aA rfl) rfl rfl) ?_
           obtain ⟨b129, h130, h27⟩ := bind_some h27
           refine cC 3 [1, 3, 5, 7, 8, 88] 94 b129 ?_ ?_
           ·refine bH (!decide (r20.2 = 0)) (fun c131 => ?_) (fun c131 => ?_)
            ·have h130 := aZ c131 h130
             refine aL rfl rfl (aA rfl) rfl c131 (aC (v := .d (.lit (.int .i64 r20.2))) (aA rfl) rfl rfl) ?_
             refine aL rfl rfl (aA rfl) rfl c131 (bG (aA rfl) rfl rfl rfl) ?_
             refine aL rfl rfl (aA rfl) rfl c128 (bP (v := .d (.lit (.bool ((!decide (r20.2 = 3)))))) (aA rfl) rfl c131 rfl rfl) ?_
             have h130 := Option.some.inj h130
             subst h130
             refine aF (bA rfl ⟨rfl, rfl, rfl, rfl, rfl, rfl, trivial⟩ rfl)
            ·have h130 := aY c131 h130
             refine aN rfl rfl (aA rfl) rfl (aA rfl) rfl c131 ?_
             refine aN rfl rfl (aA rfl) rfl (aA rfl) rfl c131 ?_
             refine aL rfl rfl (aA rfl) rfl c128 (bN (v := .d (.lit (.bool false))) (aA rfl) rfl c131 rfl rfl) ?_
             have h130 := Option.some.inj h130
             subst h130
             refine aF (bA rfl ⟨rfl, rfl, rfl, rfl, rfl, rfl, trivial⟩ rfl)
           ·refine tr1 rfl (bN (v := .d (.lit (.bool b129))) (aA rfl) rfl c128 rfl rfl) ?_
            have h27 := Option.some.inj h27
            subst h27
            refine aF (bA rfl ⟨rfl, rfl, rfl, rfl, rfl, trivial⟩ rfl)
         ·refine aF ?_
          refine bU rfl (fun c28 => ?_) (fun c28 => ?_)
          ·have h := aZ c28 h
           refine aG ?_
           refine aD ?_
           refine tr1 rfl (aJ (v := .d (.lit (.bool false))) (aA rfl) rfl rfl) ?_
           refine aF ?_
           have h := Option.some.inj h
           subst h
           refine cV (cU (cW (l := [6]) ⟨rfl, trivial⟩)) ?_
           exact bQ ⟨rfl, _, .one _, rfl, rfl⟩
          ·have h := aY c28 h
           refine bR ?_
           refine aG ?_
           refine aD ?_
           refine tr1 rfl (bT (aA rfl) rfl (i := 0) rfl eB (es := (aT t_0)) rfl rfl) ?_
           refine tr1 rfl (aC (v := .d (.sl 5 (l_1.map aM))) (aA rfl) rfl rfl) ?_
           obtain ⟨r29, h30, h⟩ := bind_some h
           refine tr1 rfl (iD (aA rfl) (.func _ _ Try.call18) rfl rfl (qU _ _ h30)) ?_
           refine tr1 rfl (aC (v := .tup [.d (.sl 1 (r29.1.map aP)), .d (.lit (.bool r29.2))]) (aA rfl) rfl rfl) ?_
           refine tr1 rfl (bW (aA rfl) rfl rfl) ?_
           refine tr1 rfl (bW (aA rfl) rfl rfl) ?_
           refine tr1 rfl (aJ (v := .d (.sl 1 (r29.1.map aP))) (aA rfl) rfl rfl) ?_
           refine tr1 rfl (aJ (v := .d (.lit (.bool r29.2))) (aA rfl) rfl rfl) ?_
           refine aF ?_
           refine aG ?_
           refine aG ?_
           refine aD ?_
           refine tr1 rfl (aC (v := .d (.lit (.bool r29.2))) (aA rfl) rfl rfl) ?_
           refine tr1 rfl (gT (aA rfl) rfl) ?_
           refine aF ?_
           refine bU rfl (fun c31 => ?_) (fun c31 => ?_)
           ·have h := aZ c31 h
            refine aG ?_
            refine aD ?_
            obtain ⟨r32, h33, h⟩ := bind_some h
            refine tr1 rfl (cR (aA rfl) (.func _ _ Try.call14) rfl rfl (BVs.refl _ _) (kN h33) rfl) ?_
            refine tr1 rfl (aJ (v := .d (.lit (.bool r32))) (aA rfl) rfl rfl) ?_
            refine aF ?_
            have h := Option.some.inj h
            subst h
            refine cV (cU (cW (l := [6]) ⟨rfl, trivial⟩)) ?_
            exact bQ ⟨rfl, _, .one _, rfl, rfl⟩
           ·have h := aY c31 h
            refine bR ?_
            refine aG ?_
            refine aD ?_
            refine tr1 rfl (aJ (v := .d (.lit (.int .i64 (-1)))) (aA rfl) rfl rfl) ?_
            refine tr1 rfl (aJ (v := .d (.lit (.int .i64 (-1)))) (aA rfl) rfl rfl) ?_
            refine aF ?_
            refine aG ?_
            refine aG ?_
            refine aD ?_
            refine tr1 rfl (aJ (v := .d (.lit (.int .i64 0))) (aA rfl) rfl rfl) ?_
            refine aF ?_
            refine cG ?_
            refine dO [1, 3, 5, 7, 8, 11] (fun (s34 : Int × Int × Int) => [(13, .d (.lit (.int .i64 s34.1))), (14, .d (.lit (.int .i64 s34.2.1))), (15, .d (.lit (.int .i64 s34.2.2)))]) (fun (s34 : Int × Int × Int) => [.box b1 0 (aT t_0), .box b2 0 (fY x_2)]) (fun (k : Nat) (s34 : Int × Int × Int) => cS l_1 r20.1 r20.2 r29.1 t_0 x_2 k s34.1 s34.2.1 s34.2.2) (fun _ => rfl) ((-1), (-1), 0) h (bE [0, 1] rfl rfl (aU rfl (aU rfl (aU rfl (bC ⟨rfl, rfl, rfl, rfl, rfl, rfl, trivial⟩))))) ?_
            rintro k35 ⟨a_0_34, b_0_34, i_0_34⟩ h
            simp only [cS] at h
            refine aG ?_
            refine aG ?_
            refine aD ?_
            refine tr1 rfl (aC (v := .d (.lit (.int .i64 i_0_34))) (aA rfl) rfl rfl) ?_
            refine tr1 rfl (aC (v := .d (.sl 1 (r29.1.map aP))) (aA rfl) rfl rfl) ?_
            refine tr1 rfl (eI (aA rfl) rfl bX.of) ?_
            refine tr1 rfl (bG (aA rfl) rfl rfl rfl) ?_
            refine aF ?_
            refine bU rfl (fun c36 => ?_) (fun c36 => ?_)
            ·have h := aZ c36 h
             refine bR ?_
             refine aG ?_
             refine cG ?_
             refine aG ?_
             refine aG ?_
             obtain ⟨x37, h38, h⟩ := bind_some h
             refine dW mix 6 [1, 3, 5, 7, 8, 11, 13, 14, 15] [(114, .d (.lit (.int .i64 x37))), (116, .d (.lit (.int .i64 x_2.A)))] ?_ ?_
             ·refine ⟨[(111, 0, .d (.sl 1 (r29.1.map aP))), (112, 1, .d (.lit (.int .i64 i_0_34))), (113, 2, .cp [.lit (.int .i64 x37)]), (114, 3, .d (.lit (.int .i64 x37))), (115, 4, .bp b2 0 2), (116, 5, .d (.lit (.int .i64 x_2.A)))], ?_, ?_⟩
              · exact ⟨by kernel_rfl, by kernel_rfl, by kernel_rfl, by kernel_rfl, by kernel_rfl, [([], []), ([], []), ([0, 1], []), ([2], []), ([], []), ([4], [])], by kernel_rfl, ⟨fun S hS => aH rfl (aS rfl (aC (v := .d (.sl 1 (r29.1.map aP))) (aA rfl) (aI hS rfl) rfl)),
      fun S hS => aH rfl (aS rfl (aC (v := .d (.lit (.int .i64 i_0_34))) (aA rfl) (aI hS rfl) rfl)),
      fun S hS => aH rfl (aS rfl (bL (aA rfl) (aI hS rfl) (aI hS rfl) bX.of (bS aP h38))),
      fun S hS => aH rfl (aS rfl (bM (aA rfl) (aI hS rfl) bF)),
      fun S hS => aH rfl (aS rfl (aV (aA rfl) (aI hS rfl) jL)),
      fun S hS => aH rfl (aS rfl (aW (aA rfl) (aI hS rfl) (i := 1) rfl rfl bF)), trivial⟩⟩
              · exact dE (aU rfl (aU rfl (bC ⟨rfl, rfl, rfl, rfl, rfl, rfl, rfl, rfl, rfl, trivial⟩)))
             ·refine tr1 rfl (bG (aA rfl) rfl rfl rfl) ?_
              refine aF ?_
              refine bU rfl (fun c39 => ?_) (fun c39 => ?_)
              ·have h := aZ c39 h
               refine aD ?_
               refine tr1 rfl (aC (v := .d (.lit (.int .i64 i_0_34))) (aA rfl) rfl rfl) ?_
               refine tr1 rfl (aJ (v := .d (.lit (.int .i64 i_0_34))) (aA rfl) rfl rfl) ?_
               refine aF ?_
               refine aG ?_
               obtain ⟨x40, h41, h⟩ := bind_some h
               refine dW mix 6 [1, 3, 5, 7, 8, 11, 13, 14, 15] [(122, .d (.lit (.int .i64 x40))), (124, .d (.lit (.int .i64 x_2.B)))] ?_ ?_
               ·refine ⟨[(119, 0, .d (.sl 1 (r29.1.map aP))), (120, 1, .d (.lit (.int .i64 i_0_34))), (121, 2, .cp [.lit (.int .i64 x40)]), (122, 3, .d (.lit (.int .i64 x40))), (123, 4, .bp b2 0 3), (124, 5, .d (.lit (.int .i64 x_2.B)))], ?_, ?_⟩
                · exact ⟨by kernel_rfl, by kernel_rfl, by kernel_rfl, by kernel_rfl, by kernel_rfl, [([], []), ([], []), ([0, 1], []), ([2], []), ([], []), ([4], [])], by kernel_rfl, ⟨fun S hS => aH rfl (aS rfl (aC (v := .d (.sl 1 (r29.1.map aP))) (aA rfl) (aI hS rfl) rfl)),
      fun S hS => aH rfl (aS rfl (aC (v := .d (.lit (.int .i64 i_0_34))) (aA rfl) (aI hS rfl) rfl)),
      fun S hS => aH rfl (aS rfl (bL (aA rfl) (aI hS rfl) (aI hS rfl) bX.of (bS aP h41))),
      fun S hS => aH rfl (aS rfl (bM (aA rfl) (aI hS rfl) bF)),
      fun S hS => aH rfl (aS rfl (aV (aA rfl) (aI hS rfl) iS)),
      fun S hS => aH rfl (aS rfl (aW (aA rfl) (aI hS rfl) (i := 1) rfl rfl bF)), trivial⟩⟩
                · exact dE (aU rfl (aU rfl (bC ⟨rfl, rfl, rfl, rfl, rfl, rfl, rfl, rfl, rfl, trivial⟩)))
               ·refine tr1 rfl (bG (aA rfl) rfl rfl rfl) ?_
                refine aF ?_
                refine bU rfl (fun c42 => ?_) (fun c42 => ?_)
                ·have h := aZ c42 h
                 refine aD ?_
                 refine tr1 rfl (aC (v := .d (.lit (.int .i64 i_0_34))) (aA rfl) rfl rfl) ?_
                 refine tr1 rfl (aJ (v := .d (.lit (.int .i64 i_0_34))) (aA rfl) rfl rfl) ?_
                 refine fA ?_
                 refine aD ?_
                 refine tr1 rfl (aC (v := .d (.lit (.int .i64 i_0_34))) (aA rfl) rfl rfl) ?_
                 refine tr1 rfl (bO (aA rfl) rfl rfl rfl) ?_
                 refine tr1 rfl (aJ (v := .d (.lit (.int .i64 ((w64 (i_0_34 + 1)))))) (aA rfl) rfl rfl) ?_
                 refine aF ?_
                 exact ⟨(i_0_34, i_0_34, w64 (i_0_34 + 1)), h, bE [0, 1] rfl rfl (aU rfl (aU rfl (aU rfl (bC ⟨rfl, rfl, rfl, rfl, rfl, rfl, trivial⟩))))⟩
                ·have h := aY c42 h
                 refine eG ?_
                 refine aD ?_
                 refine tr1 rfl (aC (v := .d (.lit (.int .i64 i_0_34))) (aA rfl) rfl rfl) ?_
                 refine tr1 rfl (bO (aA rfl) rfl rfl rfl) ?_
                 refine tr1 rfl (aJ (v := .d (.lit (.int .i64 ((w64 (i_0_34 + 1)))))) (aA rfl) rfl rfl) ?_
                 refine aF ?_
                 exact ⟨(i_0_34, b_0_34, w64 (i_0_34 + 1)), h, bE [0, 1] rfl rfl (aU rfl (aU rfl (aU rfl (bC ⟨rfl, rfl, rfl, rfl, rfl, rfl, trivial⟩))))⟩
              ·have h := aY c39 h
               refine bR ?_
               refine aG ?_
               obtain ⟨x43, h44, h⟩ := bind_some h
               refine dW mix 6 [1, 3, 5, 7, 8, 11, 13, 14, 15] [(122, .d (.lit (.int .i64 x43))), (124, .d (.lit (.int .i64 x_2.B)))] ?_ ?_
               ·refine ⟨[(119, 0, .d (.sl 1 (r29.1.map aP))), (120, 1, .d (.lit (.int .i64 i_0_34))), (121, 2, .cp [.lit (.int .i64 x43)]), (122, 3, .d (.lit (.int .i64 x43))), (123, 4, .bp b2 0 3), (124, 5, .d (.lit (.int .i64 x_2.B)))], ?_, ?_⟩
                · exact ⟨by kernel_rfl, by kernel_rfl, by kernel_rfl, by kernel_rfl, by kernel_rfl, [([], []), ([], []), ([0, 1], []), ([2], []), ([], []), ([4], [])], by kernel_rfl, ⟨fun S hS => aH rfl (aS rfl (aC (v := .d (.sl 1 (r29.1.map aP))) (aA rfl) (aI hS rfl) rfl)),
      fun S hS => aH rfl (aS rfl (aC (v := .d (.lit (.int .i64 i_0_34))) (aA rfl) (aI hS rfl) rfl)),
      fun S hS => aH rfl (aS rfl (bL (aA rfl) (aI hS rfl) (aI hS rfl) bX.of (bS aP h44))),
      fun S hS => aH rfl (aS rfl (bM (aA rfl) (aI hS rfl) bF)),
      fun S hS => aH rfl (aS rfl (aV (aA rfl) (aI hS rfl) iS)),
      fun S hS => aH rfl (aS rfl (aW (aA rfl) (aI hS rfl) (i := 1) rfl rfl bF)), trivial⟩⟩
                · exact dE (aU rfl (aU rfl (bC ⟨rfl, rfl, rfl, rfl, rfl, rfl, rfl, rfl, rfl, trivial⟩)))
               ·refine tr1 rfl (bG (aA rfl) rfl rfl rfl) ?_
                refine aF ?_
                refine bU rfl (fun c45 => ?_) (fun c45 => ?_)
                ·have h := aZ c45 h
                 refine aD ?_
                 refine tr1 rfl (aC (v := .d (.lit (.int .i64 i_0_34))) (aA rfl) rfl rfl) ?_
                 refine tr1 rfl (aJ (v := .d (.lit (.int .i64 i_0_34))) (aA rfl) rfl rfl) ?_
                 refine fA ?_
                 refine aD ?_
                 refine tr1 rfl (aC (v := .d (.lit (.int .i64 i_0_34))) (aA rfl) rfl rfl) ?_
                 refine tr1 rfl (bO (aA rfl) rfl rfl rfl) ?_
                 refine tr1 rfl (aJ (v := .d (.lit (.int .i64 ((w64 (i_0_34 + 1)))))) (aA rfl) rfl rfl) ?_
                 refine aF ?_
                 exact ⟨(a_0_34, i_0_34, w64 (i_0_34 + 1)), h, bE [0, 1] rfl rfl (aU rfl (aU rfl (aU rfl (bC ⟨rfl, rfl, rfl, rfl, rfl, rfl, trivial⟩))))⟩
                ·have h := aY c45 h
                 refine eG ?_
                 refine aD ?_
                 refine tr1 rfl (aC (v := .d (.lit (.int .i64 i_0_34))) (aA rfl) rfl rfl) ?_
                 refine tr1 rfl (bO (aA rfl) rfl rfl rfl) ?_
                 refine tr1 rfl (aJ (v := .d (.lit (.int .i64 ((w64 (i_0_34 + 1)))))) (aA rfl) rfl rfl) ?_
                 refine aF ?_
                 exact ⟨(a_0_34, b_0_34, w64 (i_0_34 + 1)), h, bE [0, 1] rfl rfl (aU rfl (aU rfl (aU rfl (bC ⟨rfl, rfl, rfl, rfl, rfl, rfl, trivial⟩))))⟩
            ·have h := aY c36 h
             refine dA ?_
             refine .inl ⟨rfl, ?_⟩
             simp only [fI] at h
             refine aG ?_
             refine aG ?_
             refine aD ?_
             refine tr1 rfl (aC (v := .d (.lit (.int .i64 a_0_34))) (aA rfl) rfl rfl) ?_
             refine tr1 rfl (bG (aA rfl) rfl rfl rfl) ?_
             refine tr1 rfl (aC (v := .d (.lit (.bool ((decide (a_0_34 < 0)))))) (aA rfl) rfl rfl) ?_
             obtain ⟨b46, h47, h⟩ := bind_some h
             refine cC 3 [1, 3, 5, 7, 8, 13, 14] 132 b46 ?_ ?_
             ·refine bH (decide (a_0_34 < 0)) (fun c127 => ?_) (fun c127 => ?_)
              ·have h47 := aZ c127 h47
               refine aN rfl rfl (aA rfl) rfl (aA rfl) rfl c127 ?_
               refine aN rfl rfl (aA rfl) rfl (aA rfl) rfl c127 ?_
               refine tr1 rfl (bP (v := .d (.lit (.bool true))) (aA rfl) rfl c127 rfl rfl) ?_
               have h47 := Option.some.inj h47
               subst h47
               refine aF (bA rfl ⟨rfl, rfl, rfl, rfl, rfl, rfl, rfl, trivial⟩ rfl)
              ·have h47 := aY c127 h47
               refine aL rfl rfl (aA rfl) rfl c127 (aC (v := .d (.lit (.int .i64 b_0_34))) (aA rfl) rfl rfl) ?_
               refine aL rfl rfl (aA rfl) rfl c127 (bG (aA rfl) rfl rfl rfl) ?_
               refine tr1 rfl (bN (v := .d (.lit (.bool ((decide (b_0_34 < 0)))))) (aA rfl) rfl c127 rfl rfl) ?_
               have h47 := Option.some.inj h47
               subst h47
               refine aF (bA rfl ⟨rfl, rfl, rfl, rfl, rfl, rfl, rfl, trivial⟩ rfl)
             ·refine aF ?_
              refine bU rfl (fun c48 => ?_) (fun c48 => ?_)
              ·have h := aZ c48 h
               refine aG ?_
               refine aD ?_
               refine tr1 rfl (aC (v := .d (.lit (.int .i64 r20.2))) (aA rfl) rfl rfl) ?_
               refine tr1 rfl (bG (aA rfl) rfl rfl rfl) ?_
               refine tr1 rfl (aC (v := .d (.lit (.bool ((decide (r20.2 = 3)))))) (aA rfl) rfl rfl) ?_
               obtain ⟨b49, h50, h⟩ := bind_some h
               refine cC 2 [] 137 b49 ?_ ?_
               ·refine bH (decide (r20.2 = 3)) (fun c51 => ?_) (fun c51 => ?_)
                ·have h50 := aZ c51 h50
                 obtain ⟨r52, h53, h50⟩ := bind_some h50
                 refine aL rfl rfl (aA rfl) rfl c51 (cR (aA rfl) (.func _ _ Try.call14) rfl rfl (BVs.refl _ _) (kN h53) rfl) ?_
                 refine tr1 rfl (bP (v := .d (.lit (.bool r52))) (aA rfl) rfl c51 rfl rfl) ?_
                 have h50 := Option.some.inj h50
                 subst h50
                 refine aF (bA rfl trivial rfl)
                ·have h50 := aY c51 h50
                 refine aN rfl rfl (aA rfl) rfl (aA rfl) rfl c51 ?_
                 refine tr1 rfl (bN (v := .d (.lit (.bool false))) (aA rfl) rfl c51 rfl rfl) ?_
                 have h50 := Option.some.inj h50
                 subst h50
                 refine aF (bA rfl trivial rfl)
               ·refine tr1 rfl (aJ (v := .d (.lit (.bool b49))) (aA rfl) rfl rfl) ?_
                refine aF ?_
                have h := Option.some.inj h
                subst h
                refine cV (cU (cW (l := [6]) ⟨rfl, trivial⟩)) ?_
                exact bQ ⟨rfl, _, .one _, rfl, rfl⟩
              ·have h := aY c48 h
               refine bR ?_
               refine aG ?_
               refine aD ?_
               refine tr1 rfl (aJ (v := .d (.lit (.int .i64 0))) (aA rfl) rfl rfl) ?_
               refine aF ?_
               refine aG ?_
               refine cG ?_
               refine dO [1, 3, 5, 7, 8, 13, 14] (fun (s54 : Int) => [(16, .d (.lit (.int .i64 s54)))]) (fun (s54 : Int) => [.box b1 0 (aT t_0), .box b2 0 (fY x_2)]) (fun (k : Nat) (s54 : Int) => eC l_1 r20.1 r20.2 a_0_34 b_0_34 t_0 x_2 k s54) (fun _ => rfl) (0) h (bE [0, 1] rfl rfl (aU rfl (bC ⟨rfl, rfl, rfl, rfl, rfl, rfl, rfl, trivial⟩))) ?_
               rintro k55 round_2_54 h
               simp only [eC] at h
               refine aG ?_
               refine aG ?_
               refine aD ?_
               refine tr1 rfl (aC (v := .d (.lit (.int .i64 a_0_34))) (aA rfl) rfl rfl) ?_
               refine tr1 rfl (aC (v := .d (.lit (.int .i64 round_2_54))) (aA rfl) rfl rfl) ?_
               refine tr1 rfl (bO (aA rfl) rfl rfl rfl) ?_
               refine tr1 rfl (sK (aA rfl) rfl Try.runUnderlying3 Try.runUnderlying45) ?_
               obtain ⟨u56, h57, h⟩ := bind_some h
               refine tr1 rfl (tA (aA rfl) rfl rfl (pW h57)) ?_
               refine tr1 rfl (aC (v := .d (.lit (.int .i64 b_0_34))) (aA rfl) rfl rfl) ?_
               refine tr1 rfl (aC (v := .d (.lit (.int .i64 round_2_54))) (aA rfl) rfl rfl) ?_
               refine tr1 rfl (bO (aA rfl) rfl rfl rfl) ?_
               refine tr1 rfl (sK (aA rfl) rfl Try.runUnderlying3 Try.runUnderlying45) ?_
               obtain ⟨u58, h59, h⟩ := bind_some h
               refine tr1 rfl (tA (aA rfl) rfl rfl (pW h59)) ?_
               refine tr1 rfl (bG (aA rfl) rfl rfl rfl) ?_
               refine aF ?_
               refine bU rfl (fun c60 => ?_) (fun c60 => ?_)
               ·have h := aZ c60 h
                refine bR ?_
                refine cG ?_
                refine aD ?_
                refine tr1 rfl (aC (v := .d (.lit (.int .i64 round_2_54))) (aA rfl) rfl rfl) ?_
                refine tr1 rfl (bO (aA rfl) rfl rfl rfl) ?_
                refine tr1 rfl (aJ (v := .d (.lit (.int .i64 ((w64 (round_2_54 + 1)))))) (aA rfl) rfl rfl) ?_
                refine fA ?_
                exact ⟨(w64 (round_2_54 + 1)), h, bE [0, 1] rfl rfl (aU rfl (bC ⟨rfl, rfl, rfl, rfl, rfl, rfl, rfl, trivial⟩))⟩
               ·have h := aY c60 h
                refine dA ?_
                refine .inl ⟨rfl, ?_⟩
                simp only [gQ] at h
                refine aG ?_
                refine aD ?_
                refine cD rfl (yD (aA rfl) eV rfl rfl (rows := (([] : List aE)).map aM) rfl (dM (f := aM) fun _ => rfl) rfl (by decide)) ?_
                rintro _ ⟨v61, rfl⟩
                refine tr1 rfl (aC (v := .d (.sl 5 (l_1.map aM))) (aA rfl) rfl rfl) ?_
                obtain ⟨x62, h63, h⟩ := bind_some h
                refine cD rfl (fZ (i := 2) (aA rfl) eV rfl rfl rfl (fun _ => rfl) h63 rfl) ?_
                rintro _ ⟨v64, rfl⟩
                refine tr1 rfl (aJ (v := .d (.lit v64)) (aA rfl) rfl rfl) ?_
                refine aF ?_
                refine aG ?_
                refine aG ?_
                refine aD ?_
                refine tr1 rfl (aJ (v := .d (.lit (.int .i64 0))) (aA rfl) rfl rfl) ?_
                refine aF ?_
                refine cG ?_
                refine dO [3, 5, 7, 8, 13, 14, 16] (fun (s65 : Int × (List aE) × Value) => [(17, .d (.lit s65.2.2)), (18, .d (.lit (.int .i64 s65.1)))]) (fun (s65 : Int × (List aE) × Value) => [.box b1 0 (aT t_0), .box b2 0 (fY x_2), .arr s65.2.2 32 5 (s65.2.1.map aM)]) (fun (k : Nat) (s65 : Int × (List aE) × Value) => eD r20.1 r20.2 a_0_34 b_0_34 round_2_54 t_0 x_2 k s65.1 s65.2.1) (fun _ => rfl) (0, x62, v64) h (bE [0, 1, 2] rfl rfl (aU rfl (aU rfl (bC ⟨rfl, rfl, rfl, rfl, rfl, rfl, rfl, trivial⟩)))) ?_
                rintro k67 ⟨k_4_65, o151_4_65, w66⟩ h
                simp only [eD] at h
                refine aG ?_
                refine aG ?_
                refine aD ?_
                refine tr1 rfl (aC (v := .d (.lit (.int .i64 k_4_65))) (aA rfl) rfl rfl) ?_
                refine tr1 rfl (aC (v := .d (.lit (.int .i64 round_2_54))) (aA rfl) rfl rfl) ?_
                refine tr1 rfl (bG (aA rfl) rfl rfl rfl) ?_
                refine aF ?_
                refine bU rfl (fun c68 => ?_) (fun c68 => ?_)
                ·have h := aZ c68 h
                 refine bR ?_
                 refine aG ?_
                 refine cG ?_
                 refine aG ?_
                 refine aD ?_
                 refine tr1 rfl (bT (aA rfl) rfl (i := 0) rfl eB (es := (aT t_0)) rfl rfl) ?_
                 refine tr1 rfl (aC (v := .d (.lit w66)) (aA rfl) rfl rfl) ?_
                 refine tr1 rfl (aC (v := .d (.lit (.int .i64 a_0_34))) (aA rfl) rfl rfl) ?_
                 refine tr1 rfl (aC (v := .d (.lit (.int .i64 k_4_65))) (aA rfl) rfl rfl) ?_
                 refine tr1 rfl (aV (aA rfl) rfl jL) ?_
                 refine tr1 rfl (aW (aA rfl) rfl (i := 1) rfl rfl bF) ?_
                 obtain ⟨r69, h70, h⟩ := bind_some h
                 refine kI (bE [2, 0, 1] rfl rfl (le_refl _)) ?_
                 refine cD rfl (qN (passed := [.arr w66 32 5 (o151_4_65.map aM)]) (aA rfl) rfl (.func _ _ Try.call19) rfl rfl (tL t_0 o151_4_65 a_0_34 k_4_65 x_2.A h70)) ?_
                 rintro _ ⟨_, _, ⟨v71, rfl, rfl⟩, rfl⟩
                 refine tr1 rfl (aJ (v := .d (.lit v71)) (aA rfl) rfl rfl) ?_
                 refine aF ?_
                 refine aD ?_
                 refine tr1 rfl (bT (aA rfl) rfl (i := 1) rfl eB (es := (aT t_0)) rfl rfl) ?_
                 refine tr1 rfl (aC (v := .d (.lit v71)) (aA rfl) rfl rfl) ?_
                 refine tr1 rfl (aC (v := .d (.lit (.int .i64 b_0_34))) (aA rfl) rfl rfl) ?_
                 refine tr1 rfl (aC (v := .d (.lit (.int .i64 k_4_65))) (aA rfl) rfl rfl) ?_
                 refine tr1 rfl (aV (aA rfl) rfl iS) ?_
                 refine tr1 rfl (aW (aA rfl) rfl (i := 2) rfl rfl bF) ?_
                 obtain ⟨r72, h73, h⟩ := bind_some h
                 refine cD rfl (qN (passed := [.arr v71 32 5 (r69.map aM)]) (aA rfl) rfl (.func _ _ Try.call19) rfl rfl (tL t_0 r69 b_0_34 k_4_65 x_2.B h73)) ?_
                 rintro _ ⟨_, _, ⟨v74, rfl, rfl⟩, rfl⟩
                 refine tr1 rfl (aJ (v := .d (.lit v74)) (aA rfl) rfl rfl) ?_
                 refine fA ?_
                 refine aD ?_
                 refine tr1 rfl (aC (v := .d (.lit (.int .i64 k_4_65))) (aA rfl) rfl rfl) ?_
                 refine tr1 rfl (bO (aA rfl) rfl rfl rfl) ?_
                 refine tr1 rfl (aJ (v := .d (.lit (.int .i64 ((w64 (k_4_65 + 1)))))) (aA rfl) rfl rfl) ?_
                 refine aF ?_
                 exact ⟨(w64 (k_4_65 + 1), r72, v74), h, bE [1, 2, 0] rfl rfl (aU rfl (aU rfl (bC ⟨rfl, rfl, rfl, rfl, rfl, rfl, rfl, trivial⟩)))⟩
                ·have h := aY c68 h
                 refine dA ?_
                 refine .inl ⟨rfl, ?_⟩
                 simp only [gR] at h
                 refine aG ?_
                 refine aD ?_
                 refine tr1 rfl (bT (aA rfl) rfl (i := 0) rfl eB (es := (aT t_0)) rfl rfl) ?_
                 refine tr1 rfl (aC (v := .d (.lit w66)) (aA rfl) rfl rfl) ?_
                 obtain ⟨r75, h76, h⟩ := bind_some h
                 refine tr1 rfl (cR (aA rfl) (.func _ _ Try.call16) rfl rfl (.cons (.same _) (.cons (.d (lX 2 rfl (dM (f := aM) fun _ => rfl))) .nil)) (aAx _ _ h76) rfl) ?_
                 refine tr1 rfl (aJ (v := .d (.lit (.int .i64 r75))) (aA rfl) rfl rfl) ?_
                 refine aF ?_
                 refine aG ?_
                 refine aG ?_
                 refine aD ?_
                 refine tr1 rfl (aC (v := .d (.lit (.int .i64 r20.2))) (aA rfl) rfl rfl) ?_
                 refine tr1 rfl (bG (aA rfl) rfl rfl rfl) ?_
                 refine aF ?_
                 refine bU rfl (fun c77 => ?_) (fun c77 => ?_)
                 ·have h := aZ c77 h
                  refine aG ?_
                  refine aD ?_
                  refine tr1 rfl (aC (v := .d (.lit (.int .i64 r75))) (aA rfl) rfl rfl) ?_
                  refine tr1 rfl (bG (aA rfl) rfl rfl rfl) ?_
                  refine tr1 rfl (aC (v := .d (.lit (.bool ((decide (r75 = 72)))))) (aA rfl) rfl rfl) ?_
                  obtain ⟨b78, h79, h⟩ := bind_some h
                  refine cC 2 [] 182 b78 ?_ ?_
                  ·refine bH (decide (r75 = 72)) (fun c80 => ?_) (fun c80 => ?_)
                   ·have h79 := aZ c80 h79
                    obtain ⟨r81, h82, h79⟩ := bind_some h79
                    refine aL rfl rfl (aA rfl) rfl c80 (cR (aA rfl) (.func _ _ Try.call14) rfl rfl (BVs.refl _ _) (kN h82) rfl) ?_
                    refine tr1 rfl (bP (v := .d (.lit (.bool r81))) (aA rfl) rfl c80 rfl rfl) ?_
                    have h79 := Option.some.inj h79
                    subst h79
                    refine aF (bA rfl trivial rfl)
                   ·have h79 := aY c80 h79
                    refine aN rfl rfl (aA rfl) rfl (aA rfl) rfl c80 ?_
                    refine tr1 rfl (bN (v := .d (.lit (.bool false))) (aA rfl) rfl c80 rfl rfl) ?_
                    have h79 := Option.some.inj h79
                    subst h79
                    refine aF (bA rfl trivial rfl)
                  ·refine tr1 rfl (aJ (v := .d (.lit (.bool b78))) (aA rfl) rfl rfl) ?_
                   refine aF ?_
                   have h := Option.some.inj h
                   subst h
                   refine cV (cU (cW (l := [6]) ⟨rfl, trivial⟩)) ?_
                   exact bQ ⟨rfl, _, .one _, rfl, rfl⟩
                 ·have h := aY c77 h
                  refine bR ?_
                  refine aG ?_
                  refine aD ?_
                  refine tr1 rfl (bT (aA rfl) rfl (i := 0) rfl eB (es := (aT t_0)) rfl rfl) ?_
                  refine tr1 rfl (aC (v := .d (.lit w66)) (aA rfl) rfl rfl) ?_
                  refine kI (aLz [.box b1 0 (aT t_0), .box b2 0 (fY x_2)] [.arr w66 32 5 (o151_4_65.map aM)] rfl (tE (k := 185) (v := .d (.sl 5 (o151_4_65.map aM))) (.d (lX 0 rfl (dM (f := aM) fun _ => rfl))) (tE (k := 174) (v := .d (.sl 5 (o151_4_65.map aM))) (.d (lX 0 rfl (dM (f := aM) fun _ => rfl))) (tE (k := 17) (v := .d (.sl 5 (o151_4_65.map aM))) (.d (lX 0 rfl (dM (f := aM) fun _ => rfl))) (aKe _ _))))) ?_
                  obtain ⟨r83, h84, h⟩ := bind_some h
                  refine tr1 rfl (iD (aA rfl) (.func _ _ Try.call30) rfl rfl (uE _ _ h84)) ?_
                  refine tr1 rfl (aC (v := .tup [.d (.sl 4 (r83.1.map bJ)), .d (.lit (.int .i64 r83.2))]) (aA rfl) rfl rfl) ?_
                  refine tr1 rfl (bW (aA rfl) rfl rfl) ?_
                  refine tr1 rfl (bW (aA rfl) rfl rfl) ?_
                  refine tr1 rfl (aJ (v := .d (.sl 4 (r83.1.map bJ))) (aA rfl) rfl rfl) ?_
                  refine tr1 rfl (aJ (v := .d (.lit (.int .i64 r83.2))) (aA rfl) rfl rfl) ?_
                  refine aF ?_
                  refine aG ?_
                  refine aG ?_
                  refine aD ?_
                  refine tr1 rfl (aC (v := .d (.lit (.int .i64 r20.1))) (aA rfl) rfl rfl) ?_
                  refine tr1 rfl (aC (v := .d (.lit (.int .i64 round_2_54))) (aA rfl) rfl rfl) ?_
                  refine tr1 rfl (bG (aA rfl) rfl rfl rfl) ?_
                  refine tr1 rfl (aC (v := .d (.lit (.bool ((!decide (r20.1 = round_2_54)))))) (aA rfl) rfl rfl) ?_
                  obtain ⟨b85, h86, h⟩ := bind_some h
                  refine cC 3 [5, 13, 16, 20, 21] 195 b85 ?_ ?_
                  ·refine bH (!decide (r20.1 = round_2_54)) (fun c126 => ?_) (fun c126 => ?_)
                   ·have h86 := aZ c126 h86
                    refine aN rfl rfl (aA rfl) rfl (aA rfl) rfl c126 ?_
                    refine aN rfl rfl (aA rfl) rfl (aA rfl) rfl c126 ?_
                    refine tr1 rfl (bP (v := .d (.lit (.bool true))) (aA rfl) rfl c126 rfl rfl) ?_
                    have h86 := Option.some.inj h86
                    subst h86
                    refine aF (bA rfl ⟨rfl, rfl, rfl, rfl, rfl, trivial⟩ rfl)
                   ·have h86 := aY c126 h86
                    refine aL rfl rfl (aA rfl) rfl c126 (aC (v := .d (.lit (.int .i64 r75))) (aA rfl) rfl rfl) ?_
                    refine aL rfl rfl (aA rfl) rfl c126 (bG (aA rfl) rfl rfl rfl) ?_
                    refine tr1 rfl (bN (v := .d (.lit (.bool ((!decide (r75 = 0)))))) (aA rfl) rfl c126 rfl rfl) ?_
                    have h86 := Option.some.inj h86
                    subst h86
                    refine aF (bA rfl ⟨rfl, rfl, rfl, rfl, rfl, trivial⟩ rfl)
                  ·refine tr1 rfl (aC (v := .d (.lit (.bool b85))) (aA rfl) rfl rfl) ?_
                   obtain ⟨b87, h88, h⟩ := bind_some h
                   refine cC 3 [5, 13, 16, 20] 199 b87 ?_ ?_
                   ·refine bH (b85) (fun c125 => ?_) (fun c125 => ?_)
                    ·have h88 := aZ c125 h88
                     refine aN rfl rfl (aA rfl) rfl (aA rfl) rfl c125 ?_
                     refine aN rfl rfl (aA rfl) rfl (aA rfl) rfl c125 ?_
                     refine tr1 rfl (bP (v := .d (.lit (.bool true))) (aA rfl) rfl c125 rfl rfl) ?_
                     have h88 := Option.some.inj h88
                     subst h88
                     refine aF (bA rfl ⟨rfl, rfl, rfl, rfl, trivial⟩ rfl)
                    ·have h88 := aY c125 h88
                     refine aL rfl rfl (aA rfl) rfl c125 (aC (v := .d (.lit (.int .i64 r83.2))) (aA rfl) rfl rfl) ?_
                     refine aL rfl rfl (aA rfl) rfl c125 (bG (aA rfl) rfl rfl rfl) ?_
                     refine tr1 rfl (bN (v := .d (.lit (.bool ((!decide (r83.2 = 0)))))) (aA rfl) rfl c125 rfl rfl) ?_
                     have h88 := Option.some.inj h88
                     subst h88
                     refine aF (bA rfl ⟨rfl, rfl, rfl, rfl, trivial⟩ rfl)
                   ·refine aF ?_
                    refine bU rfl (fun c89 => ?_) (fun c89 => ?_)
                    ·have h := aZ c89 h
                     refine aG ?_
                     refine aD ?_
                     refine tr1 rfl (aJ (v := .d (.lit (.bool false))) (aA rfl) rfl rfl) ?_
                     refine aF ?_
                     have h := Option.some.inj h
                     subst h
                     refine cV (cU (cW (l := [6]) ⟨rfl, trivial⟩)) ?_
                     exact bQ ⟨rfl, _, .one _, rfl, rfl⟩
                    ·have h := aY c89 h
                     refine bR ?_
                     refine aG ?_
                     refine aG ?_
                     refine aD ?_
                     refine tr1 rfl (aJ (v := .d (.lit (.int .i64 0))) (aA rfl) rfl rfl) ?_
                     refine aF ?_
                     refine cG ?_
                     refine dO [5, 13, 16, 20] (fun (s90 : Int) => [(22, .d (.lit (.int .i64 s90)))]) (fun (s90 : Int) => [.box b2 0 (fY x_2)]) (fun (k : Nat) (s90 : Int) => eE a_0_34 round_2_54 r83.1 x_2 k s90) (fun _ => rfl) (0) h (bE [1] rfl rfl (aU rfl (bC ⟨rfl, rfl, rfl, rfl, trivial⟩))) ?_
                     rintro k91 i_6_90 h
                     simp only [eE] at h
                     refine aG ?_
                     refine aG ?_
                     refine aD ?_
                     refine tr1 rfl (aC (v := .d (.lit (.int .i64 i_6_90))) (aA rfl) rfl rfl) ?_
                     refine tr1 rfl (aC (v := .d (.sl 4 (r83.1.map bJ))) (aA rfl) rfl rfl) ?_
                     refine tr1 rfl (eI (aA rfl) rfl jX.of) ?_
                     refine tr1 rfl (bG (aA rfl) rfl rfl rfl) ?_
                     refine aF ?_
                     refine bU rfl (fun c92 => ?_) (fun c92 => ?_)
                     ·have h := aZ c92 h
                      refine bR ?_
                      refine aG ?_
                      refine cG ?_
                      refine aG ?_
                      refine aD ?_
                      refine tr1 rfl (aC (v := .d (.sl 4 (r83.1.map bJ))) (aA rfl) rfl rfl) ?_
                      refine tr1 rfl (aC (v := .d (.lit (.int .i64 i_6_90))) (aA rfl) rfl rfl) ?_
                      obtain ⟨x93, h94, h⟩ := bind_some h
                      refine tr1 rfl (bL (aA rfl) rfl rfl jX.of (bS bJ h94)) ?_
                      refine tr1 rfl (cI (aA rfl) rfl aKl (es := [.lit (.int .i64 x93.Round)]) rfl) ?_
                      refine tr1 rfl (bM (aA rfl) rfl bF) ?_
                      refine tr1 rfl (aC (v := .d (.lit (.int .i64 round_2_54))) (aA rfl) rfl rfl) ?_
                      refine tr1 rfl (bG (aA rfl) rfl rfl rfl) ?_
                      refine tr1 rfl (aC (v := .d (.lit (.bool ((decide (x93.Round = round_2_54)))))) (aA rfl) rfl rfl) ?_
                      obtain ⟨b95, h96, h⟩ := bind_some h
                      refine cC 12 [5, 13, 16, 20, 22] 225 b95 ?_ ?_
                      ·refine bH (decide (x93.Round = round_2_54)) (fun c120 => ?_) (fun c120 => ?_)
                       ·have h96 := aZ c120 h96
                        refine aL rfl rfl (aA rfl) rfl c120 (aC (v := .d (.sl 4 (r83.1.map bJ))) (aA rfl) rfl rfl) ?_
                        refine aL rfl rfl (aA rfl) rfl c120 (aC (v := .d (.lit (.int .i64 i_6_90))) (aA rfl) rfl rfl) ?_
                        obtain ⟨x121, h122, h96⟩ := bind_some h96
                        refine aL rfl rfl (aA rfl) rfl c120 (bL (aA rfl) rfl rfl jX.of (bS bJ h122)) ?_
                        refine aL rfl rfl (aA rfl) rfl c120 (cI (aA rfl) rfl aKm (es := [.lit (.int .i64 x121.Place)]) rfl) ?_
                        refine aL rfl rfl (aA rfl) rfl c120 (bM (aA rfl) rfl bF) ?_
                        refine aL rfl rfl (aA rfl) rfl c120 (aC (v := .d (.lit (.int .i64 a_0_34))) (aA rfl) rfl rfl) ?_
                        refine aL rfl rfl (aA rfl) rfl c120 (aC (v := .d (.lit (.int .i64 round_2_54))) (aA rfl) rfl rfl) ?_
                        refine aL rfl rfl (aA rfl) rfl c120 (bO (aA rfl) rfl rfl rfl) ?_
                        refine aL rfl rfl (aA rfl) rfl c120 (sK (aA rfl) rfl Try.runUnderlying3 Try.runUnderlying45) ?_
                        obtain ⟨u123, h124, h96⟩ := bind_some h96
                        refine aL rfl rfl (aA rfl) rfl c120 (tA (aA rfl) rfl rfl (pW h124)) ?_
                        refine aL rfl rfl (aA rfl) rfl c120 (bG (aA rfl) rfl rfl rfl) ?_
                        refine tr1 rfl (bP (v := .d (.lit (.bool ((decide (x121.Place = (a_0_34.fdiv (2 ^ (min (IntKind.u64.wrap (w64 (round_2_54 + 1))).toNat 64))))))))) (aA rfl) rfl c120 rfl rfl) ?_
                        have h96 := Option.some.inj h96
                        subst h96
                        refine aF (bA rfl ⟨rfl, rfl, rfl, rfl, rfl, trivial⟩ rfl)
                       ·have h96 := aY c120 h96
                        refine aN rfl rfl (aA rfl) rfl (aA rfl) rfl c120 ?_
                        refine aN rfl rfl (aA rfl) rfl (aA rfl) rfl c120 ?_
                        refine aN rfl rfl (aA rfl) rfl (aA rfl) rfl c120 ?_
                        refine aN rfl rfl (aA rfl) rfl (aA rfl) rfl c120 ?_
                        refine aN rfl rfl (aA rfl) rfl (aA rfl) rfl c120 ?_
                        refine aN rfl rfl (aA rfl) rfl (aA rfl) rfl c120 ?_
                        refine aN rfl rfl (aA rfl) rfl (aA rfl) rfl c120 ?_
                        refine aN rfl rfl (aA rfl) rfl (aA rfl) rfl c120 ?_
                        refine aN rfl rfl (aA rfl) rfl (aA rfl) rfl c120 ?_
                        refine aN rfl rfl (aA rfl) rfl (aA rfl) rfl c120 ?_
                        refine aN rfl rfl (aA rfl) rfl (aA rfl) rfl c120 ?_
                        refine tr1 rfl (bN (v := .d (.lit (.bool false))) (aA rfl) rfl c120 rfl rfl) ?_
                        have h96 := Option.some.inj h96
                        subst h96
                        refine aF (bA rfl ⟨rfl, rfl, rfl, rfl, rfl, trivial⟩ rfl)
                      ·refine aF ?_
                       refine bU rfl (fun c97 => ?_) (fun c97 => ?_)
                       ·have h := aZ c97 h
                        refine aG ?_
                        obtain ⟨x98, h99, h⟩ := bind_some h
                        obtain ⟨b100, h101, h⟩ := bind_some h
                        obtain ⟨b105, h106, h⟩ := bind_some h
                        refine dW mix 38 [] [(263, .d (.lit (.bool b105)))] ?_ ?_
                        ·refine bH (decide (x98.One = x_2.A)) (fun c102 => ?_) (fun c102 => ?_)
                         ·have h101 := aZ c102 h101
                          obtain ⟨x103, h104, h101⟩ := bind_some h101
                          have h101 := Option.some.inj h101
                          subst h101
                          refine bH (decide (x103.Two = x_2.B)) (fun c107 => ?_) (fun c107 => ?_)
                          ·have h106 := aZ c107 h106
                           have h106 := Option.some.inj h106
                           subst h106
                           refine ⟨[(226, 0, .d (.sl 4 (r83.1.map bJ))), (227, 1, .d (.lit (.int .i64 i_6_90))), (228, 2, .cp [.lit (.int .i64 x98.Round), .lit (.int .i64 x98.Place), .lit (.int .i64 x98.One), .lit (.int .i64 x98.Two)]), (229, 3, .cp [.lit (.int .i64 x98.One)]), (230, 4, .d (.lit (.int .i64 x98.One))), (231, 5, .bp b2 0 2), (232, 6, .d (.lit (.int .i64 x_2.A))), (233, 7, .d (.lit (.bool ((decide (x98.One = x_2.A)))))), (234, 8, .d (.lit (.bool ((decide (x98.One = x_2.A)))))), (235, 9, .d (.sl 4 (r83.1.map bJ))), (236, 10, .d (.lit (.int .i64 i_6_90))), (237, 11, .cp [.lit (.int .i64 x103.Round), .lit (.int .i64 x103.Place), .lit (.int .i64 x103.One), .lit (.int .i64 x103.Two)]), (238, 12, .cp [.lit (.int .i64 x103.Two)]), (239, 13, .d (.lit (.int .i64 x103.Two))), (240, 14, .bp b2 0 3), (241, 15, .d (.lit (.int .i64 x_2.B))), (242, 16, .d (.lit (.bool ((decide (x103.Two = x_2.B)))))), (243, 17, .d (.lit (.bool ((decide (x103.Two = x_2.B)))))), (244, 18, .d (.lit (.bool (decide (x103.Two = x_2.B))))), (245, 19, .tup []), (246, 20, .tup []), (247, 21, .tup []), (248, 22, .tup []), (249, 23, .tup []), (250, 24, .tup []), (251, 25, .tup []), (252, 26, .tup []), (253, 27, .tup []), (254, 28, .tup []), (255, 29, .tup []), (256, 30, .tup []), (257, 31, .tup []), (258, 32, .tup []), (259, 33, .tup []), (260, 34, .tup []), (261, 35, .tup []), (262, 36, .tup []), (263, 37, .d (.lit (.bool true)))], ?_, ?_⟩
                           · exact ⟨by kernel_rfl, by kernel_rfl, by kernel_rfl, by kernel_rfl, by kernel_rfl, [([], []), ([], []), ([0, 1], []), ([2], []), ([3], []), ([], []), ([5], []), ([4, 6], []), ([7], []), ([8], []), ([8], []), ([8, 9, 10], []), ([8, 11], []), ([8, 12], []), ([8], []), ([8, 14], []), ([8, 13, 15], []), ([8, 16], []), ([17], []), ([18], []), ([18], []), ([18, 19, 20], []), ([18, 21], []), ([18, 22], []), ([18], []), ([18, 24], []), ([18, 23, 25], []), ([18, 26], []), ([27], []), ([27], []), ([27, 28, 29], []), ([27, 30], []), ([27, 31], []), ([27], []), ([27, 33], []), ([27, 32, 34], []), ([18, 27, 35], []), ([18, 36], [])], by kernel_rfl, ⟨fun S hS => aH rfl (aS rfl (aC (v := .d (.sl 4 (r83.1.map bJ))) (aA rfl) (aI hS rfl) rfl)),
      fun S hS => aH rfl (aS rfl (aC (v := .d (.lit (.int .i64 i_6_90))) (aA rfl) (aI hS rfl) rfl)),
      fun S hS => aH rfl (aS rfl (bL (aA rfl) (aI hS rfl) (aI hS rfl) jX.of (bS bJ h99))),
      fun S hS => aH rfl (aS rfl (cI (aA rfl) (aI hS rfl) nV (es := [.lit (.int .i64 x98.One)]) rfl)),
      fun S hS => aH rfl (aS rfl (bM (aA rfl) (aI hS rfl) bF)),
      fun S hS => aH rfl (aS rfl (aV (aA rfl) (aI hS rfl) jL)),
      fun S hS => aH rfl (aS rfl (aW (aA rfl) (aI hS rfl) (i := 0) rfl rfl bF)),
      fun S hS => aH rfl (aS rfl (bG (aA rfl) (aI hS rfl) (aI hS rfl) rfl)),
      fun S hS => aH rfl (aS rfl (aC (v := .d (.lit (.bool ((decide (x98.One = x_2.A)))))) (aA rfl) (aI hS rfl) rfl)),
      fun S hS => aH rfl (bD rfl rfl (aA rfl) (aR hS rfl) c102 (aC (v := .d (.sl 4 (r83.1.map bJ))) (aA rfl) (aI hS rfl) rfl)),
      fun S hS => aH rfl (bD rfl rfl (aA rfl) (aR hS rfl) c102 (aC (v := .d (.lit (.int .i64 i_6_90))) (aA rfl) (aI hS rfl) rfl)),
      fun S hS => aH rfl (bD rfl rfl (aA rfl) (aR hS rfl) c102 (bL (aA rfl) (aI hS rfl) (aI hS rfl) jX.of (bS bJ h104))),
      fun S hS => aH rfl (bD rfl rfl (aA rfl) (aR hS rfl) c102 (cI (aA rfl) (aI hS rfl) tO (es := [.lit (.int .i64 x103.Two)]) rfl)),
      fun S hS => aH rfl (bD rfl rfl (aA rfl) (aR hS rfl) c102 (bM (aA rfl) (aI hS rfl) bF)),
      fun S hS => aH rfl (bD rfl rfl (aA rfl) (aR hS rfl) c102 (aV (aA rfl) (aI hS rfl) iS)),
      fun S hS => aH rfl (bD rfl rfl (aA rfl) (aR hS rfl) c102 (aW (aA rfl) (aI hS rfl) (i := 0) rfl rfl bF)),
      fun S hS => aH rfl (bD rfl rfl (aA rfl) (aR hS rfl) c102 (bG (aA rfl) (aI hS rfl) (aI hS rfl) rfl)),
      fun S hS => aH rfl (aS rfl (bP (v := .d (.lit (.bool ((decide (x103.Two = x_2.B)))))) (aA rfl) (aI hS rfl) c102 (aI hS rfl) rfl)),
      fun S hS => aH rfl (aS rfl (aC (v := .d (.lit (.bool (decide (x103.Two = x_2.B))))) (aA rfl) (aI hS rfl) rfl)),
      fun S hS => aH rfl (bI rfl rfl (aA rfl) rfl (aA rfl) (aR hS rfl) c107),
      fun S hS => aH rfl (bI rfl rfl (aA rfl) rfl (aA rfl) (aR hS rfl) c107),
      fun S hS => aH rfl (bI rfl rfl (aA rfl) rfl (aA rfl) (aR hS rfl) c107),
      fun S hS => aH rfl (bI rfl rfl (aA rfl) rfl (aA rfl) (aR hS rfl) c107),
      fun S hS => aH rfl (bI rfl rfl (aA rfl) rfl (aA rfl) (aR hS rfl) c107),
      fun S hS => aH rfl (bI rfl rfl (aA rfl) rfl (aA rfl) (aR hS rfl) c107),
      fun S hS => aH rfl (bI rfl rfl (aA rfl) rfl (aA rfl) (aR hS rfl) c107),
      fun S hS => aH rfl (bI rfl rfl (aA rfl) rfl (aA rfl) (aR hS rfl) c107),
      fun S hS => aH rfl (bI rfl rfl (aA rfl) rfl (aA rfl) (aR hS rfl) c107),
      fun S hS => aH rfl (qL rfl rfl (aA rfl) rfl (aA rfl) (aR hS rfl)),
      fun S hS => aH rfl (qL rfl rfl (aA rfl) rfl (aA rfl) (aR hS rfl)),
      fun S hS => aH rfl (qL rfl rfl (aA rfl) rfl (aA rfl) (aR hS rfl)),
      fun S hS => aH rfl (qL rfl rfl (aA rfl) rfl (aA rfl) (aR hS rfl)),
      fun S hS => aH rfl (qL rfl rfl (aA rfl) rfl (aA rfl) (aR hS rfl)),
      fun S hS => aH rfl (qL rfl rfl (aA rfl) rfl (aA rfl) (aR hS rfl)),
      fun S hS => aH rfl (qL rfl rfl (aA rfl) rfl (aA rfl) (aR hS rfl)),
      fun S hS => aH rfl (qL rfl rfl (aA rfl) rfl (aA rfl) (aR hS rfl)),
      fun S hS => aH rfl (bI rfl rfl (aA rfl) rfl (aA rfl) (aR hS rfl) c107),
      fun S hS => aH rfl (aS rfl (bP (v := .d (.lit (.bool true))) (aA rfl) (aI hS rfl) c107 rfl rfl)), trivial⟩⟩
                           · exact dE (aU rfl (bC trivial))
                          ·have h106 := aY c107 h106
                           obtain ⟨x108, h109, h106⟩ := bind_some h106
                           obtain ⟨b110, h111, h106⟩ := bind_some h106
                           refine bH (decide (x108.One = x_2.B)) (fun c112 => ?_) (fun c112 => ?_)
                           ·have h111 := aZ c112 h111
                            obtain ⟨x113, h114, h111⟩ := bind_some h111
                            have h111 := Option.some.inj h111
                            subst h111
                            have h106 := Option.some.inj h106
                            subst h106
                            refine ⟨[(226, 0, .d (.sl 4 (r83.1.map bJ))), (227, 1, .d (.lit (.int .i64 i_6_90))), (228, 2, .cp [.lit (.int .i64 x98.Round), .lit (.int .i64 x98.Place), .lit (.int .i64 x98.One), .lit (.int .i64 x98.Two)]), (229, 3, .cp [.lit (.int .i64 x98.One)]), (230, 4, .d (.lit (.int .i64 x98.One))), (231, 5, .bp b2 0 2), (232, 6, .d (.lit (.int .i64 x_2.A))), (233, 7, .d (.lit (.bool ((decide (x98.One = x_2.A)))))), (234, 8, .d (.lit (.bool ((decide (x98.One = x_2.A)))))), (235, 9, .d (.sl 4 (r83.1.map bJ))), (236, 10, .d (.lit (.int .i64 i_6_90))), (237, 11, .cp [.lit (.int .i64 x103.Round), .lit (.int .i64 x103.Place), .lit (.int .i64 x103.One), .lit (.int .i64 x103.Two)]), (238, 12, .cp [.lit (.int .i64 x103.Two)]), (239, 13, .d (.lit (.int .i64 x103.Two))), (240, 14, .bp b2 0 3), (241, 15, .d (.lit (.int .i64 x_2.B))), (242, 16, .d (.lit (.bool ((decide (x103.Two = x_2.B)))))), (243, 17, .d (.lit (.bool ((decide (x103.Two = x_2.B)))))), (244, 18, .d (.lit (.bool (decide (x103.Two = x_2.B))))), (245, 19, .d (.sl 4 (r83.1.map bJ))), (246, 20, .d (.lit (.int .i64 i_6_90))), (247, 21, .cp [.lit (.int .i64 x108.Round), .lit (.int .i64 x108.Place), .lit (.int .i64 x108.One), .lit (.int .i64 x108.Two)]), (248, 22, .cp [.lit (.int .i64 x108.One)]), (249, 23, .d (.lit (.int .i64 x108.One))), (250, 24, .bp b2 0 3), (251, 25, .d (.lit (.int .i64 x_2.B))), (252, 26, .d (.lit (.bool ((decide (x108.One = x_2.B)))))), (253, 27, .d (.lit (.bool ((decide (x108.One = x_2.B)))))), (254, 28, .d (.sl 4 (r83.1.map bJ))), (255, 29, .d (.lit (.int .i64 i_6_90))), (256, 30, .cp [.lit (.int .i64 x113.Round), .lit (.int .i64 x113.Place), .lit (.int .i64 x113.One), .lit (.int .i64 x113.Two)]), (257, 31, .cp [.lit (.int .i64 x113.Two)]), (258, 32, .d (.lit (.int .i64 x113.Two))), (259, 33, .bp b2 0 2), (260, 34, .d (.lit (.int .i64 x_2.A))), (261, 35, .d (.lit (.bool ((decide (x113.Two = x_2.A)))))), (262, 36, .d (.lit (.bool ((decide (x113.Two = x_2.A)))))), (263, 37, .d (.lit (.bool (decide (x113.Two = x_2.A)))))], ?_, ?_⟩
                            · exact ⟨by kernel_rfl, by kernel_rfl, by kernel_rfl, by kernel_rfl, by kernel_rfl, [([], []), ([], []), ([0, 1], []), ([2], []), ([3], []), ([], []), ([5], []), ([4, 6], []), ([7], []), ([8], []), ([8], []), ([8, 9, 10], []), ([8, 11], []), ([8, 12], []), ([8], []), ([8, 14], []), ([8, 13, 15], []), ([8, 16], []), ([17], []), ([18], []), ([18], []), ([18, 19, 20], []), ([18, 21], []), ([18, 22], []), ([18], []), ([18, 24], []), ([18, 23, 25], []), ([18, 26], []), ([27], []), ([27], []), ([27, 28, 29], []), ([27, 30], []), ([27, 31], []), ([27], []), ([27, 33], []), ([27, 32, 34], []), ([18, 27, 35], []), ([18, 36], [])], by kernel_rfl, ⟨fun S hS => aH rfl (aS rfl (aC (v := .d (.sl 4 (r83.1.map bJ))) (aA rfl) (aI hS rfl) rfl)),
      fun S hS => aH rfl (aS rfl (aC (v := .d (.lit (.int .i64 i_6_90))) (aA rfl) (aI hS rfl) rfl)),
      fun S hS => aH rfl (aS rfl (bL (aA rfl) (aI hS rfl) (aI hS rfl) jX.of (bS bJ h99))),
      fun S hS => aH rfl (aS rfl (cI (aA rfl) (aI hS rfl) nV (es := [.lit (.int .i64 x98.One)]) rfl)),
      fun S hS => aH rfl (aS rfl (bM (aA rfl) (aI hS rfl) bF)),
      fun S hS => aH rfl (aS rfl (aV (aA rfl) (aI hS rfl) jL)),
      fun S hS => aH rfl (aS rfl (aW (aA rfl) (aI hS rfl) (i := 0) rfl rfl bF)),
      fun S hS => aH rfl (aS rfl (bG (aA rfl) (aI hS rfl) (aI hS rfl) rfl)),
      fun S hS => aH rfl (aS rfl (aC (v := .d (.lit (.bool ((decide (x98.One = x_2.A)))))) (aA rfl) (aI hS rfl) rfl)),
      fun S hS => aH rfl (bD rfl rfl (aA rfl) (aR hS rfl) c102 (aC (v := .d (.sl 4 (r83.1.map bJ))) (aA rfl) (aI hS rfl) rfl)),
      fun S hS => aH rfl (bD rfl rfl (aA rfl) (aR hS rfl) c102 (aC (v := .d (.lit (.int .i64 i_6_90))) (aA rfl) (aI hS rfl) rfl)),
      fun S hS => aH rfl (bD rfl rfl (aA rfl) (aR hS rfl) c102 (bL (aA rfl) (aI hS rfl) (aI hS rfl) jX.of (bS bJ h104))),
      fun S hS => aH rfl (bD rfl rfl (aA rfl) (aR hS rfl) c102 (cI (aA rfl) (aI hS rfl) tO (es := [.lit (.int .i64 x103.Two)]) rfl)),
      fun S hS => aH rfl (bD rfl rfl (aA rfl) (aR hS rfl) c102 (bM (aA rfl) (aI hS rfl) bF)),
      fun S hS => aH rfl (bD rfl rfl (aA rfl) (aR hS rfl) c102 (aV (aA rfl) (aI hS rfl) iS)),
      fun S hS => aH rfl (bD rfl rfl (aA rfl) (aR hS rfl) c102 (aW (aA rfl) (aI hS rfl) (i := 0) rfl rfl bF)),
      fun S hS => aH rfl (bD rfl rfl (aA rfl) (aR hS rfl) c102 (bG (aA rfl) (aI hS rfl) (aI hS rfl) rfl)),
      fun S hS => aH rfl (aS rfl (bP (v := .d (.lit (.bool ((decide (x103.Two = x_2.B)))))) (aA rfl) (aI hS rfl) c102 (aI hS rfl) rfl)),
      fun S hS => aH rfl (aS rfl (aC (v := .d (.lit (.bool (decide (x103.Two = x_2.B))))) (aA rfl) (aI hS rfl) rfl)),
      fun S hS => aH rfl (bD rfl rfl (aA rfl) (aR hS rfl) c107 (aC (v := .d (.sl 4 (r83.1.map bJ))) (aA rfl) (aI hS rfl) rfl)),
      fun S hS => aH rfl (bD rfl rfl (aA rfl) (aR hS rfl) c107 (aC (v := .d (.lit (.int .i64 i_6_90))) (aA rfl) (aI hS rfl) rfl)),
      fun S hS => aH rfl (bD rfl rfl (aA rfl) (aR hS rfl) c107 (bL (aA rfl) (aI hS rfl) (aI hS rfl) jX.of (bS bJ h109))),
      fun S hS => aH rfl (bD rfl rfl (aA rfl) (aR hS rfl) c107 (cI (aA rfl) (aI hS rfl) nV (es := [.lit (.int .i64 x108.One)]) rfl)),
      fun S hS => aH rfl (bD rfl rfl (aA rfl) (aR hS rfl) c107 (bM (aA rfl) (aI hS rfl) bF)),
      fun S hS => aH rfl (bD rfl rfl (aA rfl) (aR hS rfl) c107 (aV (aA rfl) (aI hS rfl) iS)),
      fun S hS => aH rfl (bD rfl rfl (aA rfl) (aR hS rfl) c107 (aW (aA rfl) (aI hS rfl) (i := 0) rfl rfl bF)),
      fun S hS => aH rfl (bD rfl rfl (aA rfl) (aR hS rfl) c107 (bG (aA rfl) (aI hS rfl) (aI hS rfl) rfl)),
      fun S hS => aH rfl (bD rfl rfl (aA rfl) (aR hS rfl) c107 (aC (v := .d (.lit (.bool ((decide (x108.One = x_2.B)))))) (aA rfl) (aI hS rfl) rfl)),
      fun S hS => aH rfl (bD rfl rfl (aA rfl) (aR hS rfl) c112 (aC (v := .d (.sl 4 (r83.1.map bJ))) (aA rfl) (aI hS rfl) rfl)),
      fun S hS => aH rfl (bD rfl rfl (aA rfl) (aR hS rfl) c112 (aC (v := .d (.lit (.int .i64 i_6_90))) (aA rfl) (aI hS rfl) rfl)),
      fun S hS => aH rfl (bD rfl rfl (aA rfl) (aR hS rfl) c112 (bL (aA rfl) (aI hS rfl) (aI hS rfl) jX.of (bS bJ h114))),
      fun S hS => aH rfl (bD rfl rfl (aA rfl) (aR hS rfl) c112 (cI (aA rfl) (aI hS rfl) tO (es := [.lit (.int .i64 x113.Two)]) rfl)),
      fun S hS => aH rfl (bD rfl rfl (aA rfl) (aR hS rfl) c112 (bM (aA rfl) (aI hS rfl) bF)),
      fun S hS => aH rfl (bD rfl rfl (aA rfl) (aR hS rfl) c112 (aV (aA rfl) (aI hS rfl) jL)),
      fun S hS => aH rfl (bD rfl rfl (aA rfl) (aR hS rfl) c112 (aW (aA rfl) (aI hS rfl) (i := 0) rfl rfl bF)),
      fun S hS => aH rfl (bD rfl rfl (aA rfl) (aR hS rfl) c112 (bG (aA rfl) (aI hS rfl) (aI hS rfl) rfl)),
      fun S hS => aH rfl (bD rfl rfl (aA rfl) (aR hS rfl) c107 (bP (v := .d (.lit (.bool ((decide (x113.Two = x_2.A)))))) (aA rfl) (aI hS rfl) c112 (aI hS rfl) rfl)),
      fun S hS => aH rfl (aS rfl (bN (v := .d (.lit (.bool (decide (x113.Two = x_2.A))))) (aA rfl) (aI hS rfl) c107 (aI hS rfl) rfl)), trivial⟩⟩
                            · exact dE (aU rfl (bC trivial))
                           ·have h111 := aY c112 h111
                            have h111 := Option.some.inj h111
                            subst h111
                            have h106 := Option.some.inj h106
                            subst h106
                            refine ⟨[(226, 0, .d (.sl 4 (r83.1.map bJ))), (227, 1, .d (.lit (.int .i64 i_6_90))), (228, 2, .cp [.lit (.int .i64 x98.Round), .lit (.int .i64 x98.Place), .lit (.int .i64 x98.One), .lit (.int .i64 x98.Two)]), (229, 3, .cp [.lit (.int .i64 x98.One)]), (230, 4, .d (.lit (.int .i64 x98.One))), (231, 5, .bp b2 0 2), (232, 6, .d (.lit (.int .i64 x_2.A))), (233, 7, .d (.lit (.bool ((decide (x98.One = x_2.A)))))), (234, 8, .d (.lit (.bool ((decide (x98.One = x_2.A)))))), (235, 9, .d (.sl 4 (r83.1.map bJ))), (236, 10, .d (.lit (.int .i64 i_6_90))), (237, 11, .cp [.lit (.int .i64 x103.Round), .lit (.int .i64 x103.Place), .lit (.int .i64 x103.One), .lit (.int .i64 x103.Two)]), (238, 12, .cp [.lit (.int .i64 x103.Two)]), (239, 13, .d (.lit (.int .i64 x103.Two))), (240, 14, .bp b2 0 3), (241, 15, .d (.lit (.int .i64 x_2.B))), (242, 16, .d (.lit (.bool ((decide (x103.Two = x_2.B)))))), (243, 17, .d (.lit (.bool ((decide (x103.Two = x_2.B)))))), (244, 18, .d (.lit (.bool (decide (x103.Two = x_2.B))))), (245, 19, .d (.sl 4 (r83.1.map bJ))), (246, 20, .d (.lit (.int .i64 i_6_90))), (247, 21, .cp [.lit (.int .i64 x108.Round), .lit (.int .i64 x108.Place), .lit (.int .i64 x108.One), .lit (.int .i64 x108.Two)]), (248, 22, .cp [.lit (.int .i64 x108.One)]), (249, 23, .d (.lit (.int .i64 x108.One))), (250, 24, .bp b2 0 3), (251, 25, .d (.lit (.int .i64 x_2.B))), (252, 26, .d (.lit (.bool ((decide (x108.One = x_2.B)))))), (253, 27, .d (.lit (.bool ((decide (x108.One = x_2.B)))))), (254, 28, .tup []), (255, 29, .tup []), (256, 30, .tup []), (257, 31, .tup []), (258, 32, .tup []), (259, 33, .tup []), (260, 34, .tup []), (261, 35, .tup []), (262, 36, .d (.lit (.bool false))), (263, 37, .d (.lit (.bool (false))))], ?_, ?_⟩
                            · exact ⟨by kernel_rfl, by kernel_rfl, by kernel_rfl, by kernel_rfl, by kernel_rfl, [([], []), ([], []), ([0, 1], []), ([2], []), ([3], []), ([], []), ([5], []), ([4, 6], []), ([7], []), ([8], []), ([8], []), ([8, 9, 10], []), ([8, 11], []), ([8, 12], []), ([8], []), ([8, 14], []), ([8, 13, 15], []), ([8, 16], []), ([17], []), ([18], []), ([18], []), ([18, 19, 20], []), ([18, 21], []), ([18, 22], []), ([18], []), ([18, 24], []), ([18, 23, 25], []), ([18, 26], []), ([27], []), ([27], []), ([27, 28, 29], []), ([27, 30], []), ([27, 31], []), ([27], []), ([27, 33], []), ([27, 32, 34], []), ([18, 27, 35], []), ([18, 36], [])], by kernel_rfl, ⟨fun S hS => aH rfl (aS rfl (aC (v := .d (.sl 4 (r83.1.map bJ))) (aA rfl) (aI hS rfl) rfl)),
      fun S hS => aH rfl (aS rfl (aC (v := .d (.lit (.int .i64 i_6_90))) (aA rfl) (aI hS rfl) rfl)),
      fun S hS => aH rfl (aS rfl (bL (aA rfl) (aI hS rfl) (aI hS rfl) jX.of (bS bJ h99))),
      fun S hS => aH rfl (aS rfl (cI (aA rfl) (aI hS rfl) nV (es := [.lit (.int .i64 x98.One)]) rfl)),
      fun S hS => aH rfl (aS rfl (bM (aA rfl) (aI hS rfl) bF)),
      fun S hS => aH rfl (aS rfl (aV (aA rfl) (aI hS rfl) jL)),
      fun S hS => aH rfl (aS rfl (aW (aA rfl) (aI hS rfl) (i := 0) rfl rfl bF)),
      fun S hS => aH rfl (aS rfl (bG (aA rfl) (aI hS rfl) (aI hS rfl) rfl)),
      fun S hS => aH rfl (aS rfl (aC (v := .d (.lit (.bool ((decide (x98.One = x_2.A)))))) (aA rfl) (aI hS rfl) rfl)),
      fun S hS => aH rfl (bD rfl rfl (aA rfl) (aR hS rfl) c102 (aC (v := .d (.sl 4 (r83.1.map bJ))) (aA rfl) (aI hS rfl) rfl)),
      fun S hS => aH rfl (bD rfl rfl (aA rfl) (aR hS rfl) c102 (aC (v := .d (.lit (.int .i64 i_6_90))) (aA rfl) (aI hS rfl) rfl)),
      fun S hS => aH rfl (bD rfl rfl (aA rfl) (aR hS rfl) c102 (bL (aA rfl) (aI hS rfl) (aI hS rfl) jX.of (bS bJ h104))),
      fun S hS => aH rfl (bD rfl rfl (aA rfl) (aR hS rfl) c102 (cI (aA rfl) (aI hS rfl) tO (es := [.lit (.int .i64 x103.Two)]) rfl)),
      fun S hS => aH rfl (bD rfl rfl (aA rfl) (aR hS rfl) c102 (bM (aA rfl) (aI hS rfl) bF)),
      fun S hS => aH rfl (bD rfl rfl (aA rfl) (aR hS rfl) c102 (aV (aA rfl) (aI hS rfl) iS)),
      fun S hS => aH rfl (bD rfl rfl (aA rfl) (aR hS rfl) c102 (aW (aA rfl) (aI hS rfl) (i := 0) rfl rfl bF)),
      fun S hS => aH rfl (bD rfl rfl (aA rfl) (aR hS rfl) c102 (bG (aA rfl) (aI hS rfl) (aI hS rfl) rfl)),
      fun S hS => aH rfl (aS rfl (bP (v := .d (.lit (.bool ((decide (x103.Two = x_2.B)))))) (aA rfl) (aI hS rfl) c102 (aI hS rfl) rfl)),
      fun S hS => aH rfl (aS rfl (aC (v := .d (.lit (.bool (decide (x103.Two = x_2.B))))) (aA rfl) (aI hS rfl) rfl)),
      fun S hS => aH rfl (bD rfl rfl (aA rfl) (aR hS rfl) c107 (aC (v := .d (.sl 4 (r83.1.map bJ))) (aA rfl) (aI hS rfl) rfl)),
      fun S hS => aH rfl (bD rfl rfl (aA rfl) (aR hS rfl) c107 (aC (v := .d (.lit (.int .i64 i_6_90))) (aA rfl) (aI hS rfl) rfl)),
      fun S hS => aH rfl (bD rfl rfl (aA rfl) (aR hS rfl) c107 (bL (aA rfl) (aI hS rfl) (aI hS rfl) jX.of (bS bJ h109))),
      fun S hS => aH rfl (bD rfl rfl (aA rfl) (aR hS rfl) c107 (cI (aA rfl) (aI hS rfl) nV (es := [.lit (.int .i64 x108.One)]) rfl)),
      fun S hS => aH rfl (bD rfl rfl (aA rfl) (aR hS rfl) c107 (bM (aA rfl) (aI hS rfl) bF)),
      fun S hS => aH rfl (bD rfl rfl (aA rfl) (aR hS rfl) c107 (aV (aA rfl) (aI hS rfl) iS)),
      fun S hS => aH rfl (bD rfl rfl (aA rfl) (aR hS rfl) c107 (aW (aA rfl) (aI hS rfl) (i := 0) rfl rfl bF)),
      fun S hS => aH rfl (bD rfl rfl (aA rfl) (aR hS rfl) c107 (bG (aA rfl) (aI hS rfl) (aI hS rfl) rfl)),
      fun S hS => aH rfl (bD rfl rfl (aA rfl) (aR hS rfl) c107 (aC (v := .d (.lit (.bool ((decide (x108.One = x_2.B)))))) (aA rfl) (aI hS rfl) rfl)),
      fun S hS => aH rfl (bI rfl rfl (aA rfl) rfl (aA rfl) (aR hS rfl) c112),
      fun S hS => aH rfl (bI rfl rfl (aA rfl) rfl (aA rfl) (aR hS rfl) c112),
      fun S hS => aH rfl (bI rfl rfl (aA rfl) rfl (aA rfl) (aR hS rfl) c112),
      fun S hS => aH rfl (bI rfl rfl (aA rfl) rfl (aA rfl) (aR hS rfl) c112),
      fun S hS => aH rfl (bI rfl rfl (aA rfl) rfl (aA rfl) (aR hS rfl) c112),
      fun S hS => aH rfl (bI rfl rfl (aA rfl) rfl (aA rfl) (aR hS rfl) c112),
      fun S hS => aH rfl (bI rfl rfl (aA rfl) rfl (aA rfl) (aR hS rfl) c112),
      fun S hS => aH rfl (bI rfl rfl (aA rfl) rfl (aA rfl) (aR hS rfl) c112),
      fun S hS => aH rfl (bD rfl rfl (aA rfl) (aR hS rfl) c107 (bN (v := .d (.lit (.bool false))) (aA rfl) (aI hS rfl) c112 rfl rfl)),
      fun S hS => aH rfl (aS rfl (bN (v := .d (.lit (.bool (false)))) (aA rfl) (aI hS rfl) c107 (aI hS rfl) rfl)), trivial⟩⟩
                            · exact dE (aU rfl (bC trivial))
                         ·have h101 := aY c102 h101
                          have h101 := Option.some.inj h101
                          subst h101
                          have c107 : false = false := rfl
                          have h106 := aY c107 h106
                          obtain ⟨x108, h109, h106⟩ := bind_some h106
                          obtain ⟨b110, h111, h106⟩ := bind_some h106
                          refine bH (decide (x108.One = x_2.B)) (fun c112 => ?_) (fun c112 => ?_)
                          ·have h111 := aZ c112 h111
                           obtain ⟨x113, h114, h111⟩ := bind_some h111
                           have h111 := Option.some.inj h111
                           subst h111
                           have h106 := Option.some.inj h106
                           subst h106
                           refine ⟨[(226, 0, .d (.sl 4 (r83.1.map bJ))), (227, 1, .d (.lit (.int .i64 i_6_90))), (228, 2, .cp [.lit (.int .i64 x98.Round), .lit (.int .i64 x98.Place), .lit (.int .i64 x98.One), .lit (.int .i64 x98.Two)]), (229, 3, .cp [.lit (.int .i64 x98.One)]), (230, 4, .d (.lit (.int .i64 x98.One))), (231, 5, .bp b2 0 2), (232, 6, .d (.lit (.int .i64 x_2.A))), (233, 7, .d (.lit (.bool ((decide (x98.One = x_2.A)))))), (234, 8, .d (.lit (.bool ((decide (x98.One = x_2.A)))))), (235, 9, .tup []), (236, 10, .tup []), (237, 11, .tup []), (238, 12, .tup []), (239, 13, .tup []), (240, 14, .tup []), (241, 15, .tup []), (242, 16, .tup []), (243, 17, .d (.lit (.bool false))), (244, 18, .d (.lit (.bool (false)))), (245, 19, .d (.sl 4 (r83.1.map bJ))), (246, 20, .d (.lit (.int .i64 i_6_90))), (247, 21, .cp [.lit (.int .i64 x108.Round), .lit (.int .i64 x108.Place), .lit (.int .i64 x108.One), .lit (.int .i64 x108.Two)]), (248, 22, .cp [.lit (.int .i64 x108.One)]), (249, 23, .d (.lit (.int .i64 x108.One))), (250, 24, .bp b2 0 3), (251, 25, .d (.lit (.int .i64 x_2.B))), (252, 26, .d (.lit (.bool ((decide (x108.One = x_2.B)))))), (253, 27, .d (.lit (.bool ((decide (x108.One = x_2.B)))))), (254, 28, .d (.sl 4 (r83.1.map bJ))), (255, 29, .d (.lit (.int .i64 i_6_90))), (256, 30, .cp [.lit (.int .i64 x113.Round), .lit (.int .i64 x113.Place), .lit (.int .i64 x113.One), .lit (.int .i64 x113.Two)]), (257, 31, .cp [.lit (.int .i64 x113.Two)]), (258, 32, .d (.lit (.int .i64 x113.Two))), (259, 33, .bp b2 0 2), (260, 34, .d (.lit (.int .i64 x_2.A))), (261, 35, .d (.lit (.bool ((decide (x113.Two = x_2.A)))))), (262, 36, .d (.lit (.bool ((decide (x113.Two = x_2.A)))))), (263, 37, .d (.lit (.bool (decide (x113.Two = x_2.A)))))], ?_, ?_⟩
                           · exact ⟨by kernel_rfl, by kernel_rfl, by kernel_rfl, by kernel_rfl, by kernel_rfl, [([], []), ([], []), ([0, 1], []), ([2], []), ([3], []), ([], []), ([5], []), ([4, 6], []), ([7], []), ([8], []), ([8], []), ([8, 9, 10], []), ([8, 11], []), ([8, 12], []), ([8], []), ([8, 14], []), ([8, 13, 15], []), ([8, 16], []), ([17], []), ([18], []), ([18], []), ([18, 19, 20], []), ([18, 21], []), ([18, 22], []), ([18], []), ([18, 24], []), ([18, 23, 25], []), ([18, 26], []), ([27], []), ([27], []), ([27, 28, 29], []), ([27, 30], []), ([27, 31], []), ([27], []), ([27, 33], []), ([27, 32, 34], []), ([18, 27, 35], []), ([18, 36], [])], by kernel_rfl, ⟨fun S hS => aH rfl (aS rfl (aC (v := .d (.sl 4 (r83.1.map bJ))) (aA rfl) (aI hS rfl) rfl)),
      fun S hS => aH rfl (aS rfl (aC (v := .d (.lit (.int .i64 i_6_90))) (aA rfl) (aI hS rfl) rfl)),
      fun S hS => aH rfl (aS rfl (bL (aA rfl) (aI hS rfl) (aI hS rfl) jX.of (bS bJ h99))),
      fun S hS => aH rfl (aS rfl (cI (aA rfl) (aI hS rfl) nV (es := [.lit (.int .i64 x98.One)]) rfl)),
      fun S hS => aH rfl (aS rfl (bM (aA rfl) (aI hS rfl) bF)),
      fun S hS => aH rfl (aS rfl (aV (aA rfl) (aI hS rfl) jL)),
      fun S hS => aH rfl (aS rfl (aW (aA rfl) (aI hS rfl) (i := 0) rfl rfl bF)),
      fun S hS => aH rfl (aS rfl (bG (aA rfl) (aI hS rfl) (aI hS rfl) rfl)),
      fun S hS => aH rfl (aS rfl (aC (v := .d (.lit (.bool ((decide (x98.One = x_2.A)))))) (aA rfl) (aI hS rfl) rfl)),
      fun S hS => aH rfl (bI rfl rfl (aA rfl) rfl (aA rfl) (aR hS rfl) c102),
      fun S hS => aH rfl (bI rfl rfl (aA rfl) rfl (aA rfl) (aR hS rfl) c102),
      fun S hS => aH rfl (bI rfl rfl (aA rfl) rfl (aA rfl) (aR hS rfl) c102),
      fun S hS => aH rfl (bI rfl rfl (aA rfl) rfl (aA rfl) (aR hS rfl) c102),
      fun S hS => aH rfl (bI rfl rfl (aA rfl) rfl (aA rfl) (aR hS rfl) c102),
      fun S hS => aH rfl (bI rfl rfl (aA rfl) rfl (aA rfl) (aR hS rfl) c102),
      fun S hS => aH rfl (bI rfl rfl (aA rfl) rfl (aA rfl) (aR hS rfl) c102),
      fun S hS => aH rfl (bI rfl rfl (aA rfl) rfl (aA rfl) (aR hS rfl) c102),
      fun S hS => aH rfl (aS rfl (bN (v := .d (.lit (.bool false))) (aA rfl) (aI hS rfl) c102 rfl rfl)),
      fun S hS => aH rfl (aS rfl (aC (v := .d (.lit (.bool (false)))) (aA rfl) (aI hS rfl) rfl)),
      fun S hS => aH rfl (bD rfl rfl (aA rfl) (aR hS rfl) c107 (aC (v := .d (.sl 4 (r83.1.map bJ))) (aA rfl) (aI hS rfl) rfl)),
      fun S hS => aH rfl (bD rfl rfl (aA rfl) (aR hS rfl) c107 (aC (v := .d (.lit (.int .i64 i_6_90))) (aA rfl) (aI hS rfl) rfl)),
      fun S hS => aH rfl (bD rfl rfl (aA rfl) (aR hS rfl) c107 (bL (aA rfl) (aI hS rfl) (aI hS rfl) jX.of (bS bJ h109))),
      fun S hS => aH rfl (bD rfl rfl (aA rfl) (aR hS rfl) c107 (cI (aA rfl) (aI hS rfl) nV (es := [.lit (.int .i64 x108.One)]) rfl)),
      fun S hS => aH rfl (bD rfl rfl (aA rfl) (aR hS rfl) c107 (bM (aA rfl) (aI hS rfl) bF)),
      fun S hS => aH rfl (bD rfl rfl (aA rfl) (aR hS rfl) c107 (aV (aA rfl) (aI hS rfl) iS)),
      fun S hS => aH rfl (bD rfl rfl (aA rfl) (aR hS rfl) c107 (aW (aA rfl) (aI hS rfl) (i := 0) rfl rfl bF)),
      fun S hS => aH rfl (bD rfl rfl (aA rfl) (aR hS rfl) c107 (bG (aA rfl) (aI hS rfl) (aI hS rfl) rfl)),
      fun S hS => aH rfl (bD rfl rfl (aA rfl) (aR hS rfl) c107 (aC (v := .d (.lit (.bool ((decide (x108.One = x_2.B)))))) (aA rfl) (aI hS rfl) rfl)),
      fun S hS => aH rfl (bD rfl rfl (aA rfl) (aR hS rfl) c112 (aC (v := .d (.sl 4 (r83.1.map bJ))) (aA rfl) (aI hS rfl) rfl)),
      fun S hS => aH rfl (bD rfl rfl (aA rfl) (aR hS rfl) c112 (aC (v := .d (.lit (.int .i64 i_6_90))) (aA rfl) (aI hS rfl) rfl)),
      fun S hS => aH rfl (bD rfl rfl (aA rfl) (aR hS rfl) c112 (bL (aA rfl) (aI hS rfl) (aI hS rfl) jX.of (bS bJ h114))),
      fun S hS => aH rfl (bD rfl rfl (aA rfl) (aR hS rfl) c112 (cI (aA rfl) (aI hS rfl) tO (es := [.lit (.int .i64 x113.Two)]) rfl)),
      fun S hS => aH rfl (bD rfl rfl (aA rfl) (aR hS rfl) c112 (bM (aA rfl) (aI hS rfl) bF)),
      fun S hS => aH rfl (bD rfl rfl (aA rfl) (aR hS rfl) c112 (aV (aA rfl) (aI hS rfl) jL)),
      fun S hS => aH rfl (bD rfl rfl (aA rfl) (aR hS rfl) c112 (aW (aA rfl) (aI hS rfl) (i := 0) rfl rfl bF)),
      fun S hS => aH rfl (bD rfl rfl (aA rfl) (aR hS rfl) c112 (bG (aA rfl) (aI hS rfl) (aI hS rfl) rfl)),
      fun S hS => aH rfl (bD rfl rfl (aA rfl) (aR hS rfl) c107 (bP (v := .d (.lit (.bool ((decide (x113.Two = x_2.A)))))) (aA rfl) (aI hS rfl) c112 (aI hS rfl) rfl)),
      fun S hS => aH rfl (aS rfl (bN (v := .d (.lit (.bool (decide (x113.Two = x_2.A))))) (aA rfl) (aI hS rfl) c107 (aI hS rfl) rfl)), trivial⟩⟩
                           · exact dE (aU rfl (bC trivial))
                          ·have h111 := aY c112 h111
                           have h111 := Option.some.inj h111
                           subst h111
                           have h106 := Option.some.inj h106
                           subst h106
                           refine ⟨[(226, 0, .d (.sl 4 (r83.1.map bJ))), (227, 1, .d (.lit (.int .i64 i_6_90))), (228, 2, .cp [.lit (.int .i64 x98.Round), .lit (.int .i64 x98.Place), .lit (.int .i64 x98.One), .lit (.int .i64 x98.Two)]), (229, 3, .cp [.lit (.int .i64 x98.One)]), (230, 4, .d (.lit (.int .i64 x98.One))), (231, 5, .bp b2 0 2), (232, 6, .d (.lit (.int .i64 x_2.A))), (233, 7, .d (.lit (.bool ((decide (x98.One = x_2.A)))))), (234, 8, .d (.lit (.bool ((decide (x98.One = x_2.A)))))), (235, 9, .tup []), (236, 10, .tup []), (237, 11, .tup []), (238, 12, .tup []), (239, 13, .tup []), (240, 14, .tup []), (241, 15, .tup []), (242, 16, .tup []), (243, 17, .d (.lit (.bool false))), (244, 18, .d (.lit (.bool (false)))), (245, 19, .d (.sl 4 (r83.1.map bJ))), (246, 20, .d (.lit (.int .i64 i_6_90))), (247, 21, .cp [.lit (.int .i64 x108.Round), .lit (.int .i64 x108.Place), .lit (.int .i64 x108.One), .lit (.int .i64 x108.Two)]), (248, 22, .cp [.lit (.int .i64 x108.One)]), (249, 23, .d (.lit (.int .i64 x108.One))), (250, 24, .bp b2 0 3), (251, 25, .d (.lit (.int .i64 x_2.B))), (252, 26, .d (.lit (.bool ((decide (x108.One = x_2.B)))))), (253, 27, .d (.lit (.bool ((decide (x108.One = x_2.B)))))), (254, 28, .tup []), (255, 29, .tup []), (256, 30, .tup []), (257, 31, .tup []), (258, 32, .tup []), (259, 33, .tup []), (260, 34, .tup []), (261, 35, .tup []), (262, 36, .d (.lit (.bool false))), (263, 37, .d (.lit (.bool (false))))], ?_, ?_⟩
                           · exact ⟨by kernel_rfl, by kernel_rfl, by kernel_rfl, by kernel_rfl, by kernel_rfl, [([], []), ([], []), ([0, 1], []), ([2], []), ([3], []), ([], []), ([5], []), ([4, 6], []), ([7], []), ([8], []), ([8], []), ([8, 9, 10], []), ([8, 11], []), ([8, 12], []), ([8], []), ([8, 14], []), ([8, 13, 15], []), ([8, 16], []), ([17], []), ([18], []), ([18], []), ([18, 19, 20], []), ([18, 21], []), ([18, 22], []), ([18], []), ([18, 24], []), ([18, 23, 25], []), ([18, 26], []), ([27], []), ([27], []), ([27, 28, 29], []), ([27, 30], []), ([27, 31], []), ([27], []), ([27, 33], []), ([27, 32, 34], []), ([18, 27, 35], []), ([18, 36], [])], by kernel_rfl, ⟨fun S hS => aH rfl (aS rfl (aC (v := .d (.sl 4 (r83.1.map bJ))) (aA rfl) (aI hS rfl) rfl)),
      fun S hS => aH rfl (aS rfl (aC (v := .d (.lit (.int .i64 i_6_90))) (aA rfl) (aI hS rfl) rfl)),
      fun S hS => aH rfl (aS rfl (bL (aA rfl) (aI hS rfl) (aI hS rfl) jX.of (bS bJ h99))),
      fun S hS => aH rfl (aS rfl (cI (aA rfl) (aI hS rfl) nV (es := [.lit (.int .i64 x98.One)]) rfl)),
      fun S hS => aH rfl (aS rfl (bM (aA rfl) (aI hS rfl) bF)),
      fun S hS => aH rfl (aS rfl (aV (aA rfl) (aI hS rfl) jL)),
      fun S hS => aH rfl (aS rfl (aW (aA rfl) (aI hS rfl) (i := 0) rfl rfl bF)),
      fun S hS => aH rfl (aS rfl (bG (aA rfl) (aI hS rfl) (aI hS rfl) rfl)),
      fun S hS => aH rfl (aS rfl (aC (v := .d (.lit (.bool ((decide (x98.One = x_2.A)))))) (aA rfl) (aI hS rfl) rfl)),
      fun S hS => aH rfl (bI rfl rfl (aA rfl) rfl (aA rfl) (aR hS rfl) c102),
      fun S hS => aH rfl (bI rfl rfl (aA rfl) rfl (aA rfl) (aR hS rfl) c102),
      fun S hS => aH rfl (bI rfl rfl (aA rfl) rfl (aA rfl) (aR hS rfl) c102),
      fun S hS => aH rfl (bI rfl rfl (aA rfl) rfl (aA rfl) (aR hS rfl) c102),
      fun S hS => aH rfl (bI rfl rfl (aA rfl) rfl (aA rfl) (aR hS rfl) c102),
      fun S hS => aH rfl (bI rfl rfl (aA rfl) rfl (aA rfl) (aR hS rfl) c102),
      fun S hS => aH rfl (bI rfl rfl (aA rfl) rfl (aA rfl) (aR hS rfl) c102),
      fun S hS => aH rfl (bI rfl rfl (aA rfl) rfl (aA rfl) (aR hS rfl) c102),
      fun S hS => aH rfl (aS rfl (bN (v := .d (.lit (.bool false))) (aA rfl) (aI hS rfl) c102 rfl rfl)),
      fun S hS => aH rfl (aS rfl (aC (v := .d (.lit (.bool (false)))) (aA rfl) (aI hS rfl) rfl)),
      fun S hS => aH rfl (bD rfl rfl (aA rfl) (aR hS rfl) c107 (aC (v := .d (.sl 4 (r83.1.map bJ))) (aA rfl) (aI hS rfl) rfl)),
      fun S hS => aH rfl (bD rfl rfl (aA rfl) (aR hS rfl) c107 (aC (v := .d (.lit (.int .i64 i_6_90))) (aA rfl) (aI hS rfl) rfl)),
      fun S hS => aH rfl (bD rfl rfl (aA rfl) (aR hS rfl) c107 (bL (aA rfl) (aI hS rfl) (aI hS rfl) jX.of (bS bJ h109))),
      fun S hS => aH rfl (bD rfl rfl (aA rfl) (aR hS rfl) c107 (cI (aA rfl) (aI hS rfl) nV (es := [.lit (.int .i64 x108.One)]) rfl)),
      fun S hS => aH rfl (bD rfl rfl (aA rfl) (aR hS rfl) c107 (bM (aA rfl) (aI hS rfl) bF)),
      fun S hS => aH rfl (bD rfl rfl (aA rfl) (aR hS rfl) c107 (aV (aA rfl) (aI hS rfl) iS)),
      fun S hS => aH rfl (bD rfl rfl (aA rfl) (aR hS rfl) c107 (aW (aA rfl) (aI hS rfl) (i := 0) rfl rfl bF)),
      fun S hS => aH rfl (bD rfl rfl (aA rfl) (aR hS rfl) c107 (bG (aA rfl) (aI hS rfl) (aI hS rfl) rfl)),
      fun S hS => aH rfl (bD rfl rfl (aA rfl) (aR hS rfl) c107 (aC (v := .d (.lit (.bool ((decide (x108.One = x_2.B)))))) (aA rfl) (aI hS rfl) rfl)),
      fun S hS => aH rfl (bI rfl rfl (aA rfl) rfl (aA rfl) (aR hS rfl) c112),
      fun S hS => aH rfl (bI rfl rfl (aA rfl) rfl (aA rfl) (aR hS rfl) c112),
      fun S hS => aH rfl (bI rfl rfl (aA rfl) rfl (aA rfl) (aR hS rfl) c112),
      fun S hS => aH rfl (bI rfl rfl (aA rfl) rfl (aA rfl) (aR hS rfl) c112),
      fun S hS => aH rfl (bI rfl rfl (aA rfl) rfl (aA rfl) (aR hS rfl) c112),
      fun S hS => aH rfl (bI rfl rfl (aA rfl) rfl (aA rfl) (aR hS rfl) c112),
      fun S hS => aH rfl (bI rfl rfl (aA rfl) rfl (aA rfl) (aR hS rfl) c112),
      fun S hS => aH rfl (bI rfl rfl (aA rfl) rfl (aA rfl) (aR hS rfl) c112),
      fun S hS => aH rfl (bD rfl rfl (aA rfl) (aR hS rfl) c107 (bN (v := .d (.lit (.bool false))) (aA rfl) (aI hS rfl) c112 rfl rfl)),
      fun S hS => aH rfl (aS rfl (bN (v := .d (.lit (.bool (false)))) (aA rfl) (aI hS rfl) c107 (aI hS rfl) rfl)), trivial⟩⟩
                           · exact dE (aU rfl (bC trivial))
                        ·refine tr1 rfl (aC (v := .d (.lit (.bool b105))) (aA rfl) rfl rfl) ?_
                         obtain ⟨b115, h116, h⟩ := bind_some h
                         refine cC 2 [] 266 b115 ?_ ?_
                         ·refine bH (b105) (fun c117 => ?_) (fun c117 => ?_)
                          ·have h116 := aZ c117 h116
                           obtain ⟨r118, h119, h116⟩ := bind_some h116
                           refine aL rfl rfl (aA rfl) rfl c117 (cR (aA rfl) (.func _ _ Try.call14) rfl rfl (BVs.refl _ _) (kN h119) rfl) ?_
                           refine tr1 rfl (bP (v := .d (.lit (.bool r118))) (aA rfl) rfl c117 rfl rfl) ?_
                           have h116 := Option.some.inj h116
                           subst h116
                           refine aF (bA rfl trivial rfl)
                          ·have h116 := aY c117 h116
                           refine aN rfl rfl (aA rfl) rfl (aA rfl) rfl c117 ?_
                           refine tr1 rfl (bN (v := .d (.lit (.bool false))) (aA rfl) rfl c117 rfl rfl) ?_
                           have h116 := Option.some.inj h116
                           subst h116
                           refine aF (bA rfl trivial rfl)
                         ·refine tr1 rfl (aJ (v := .d (.lit (.bool b115))) (aA rfl) rfl rfl) ?_
                          refine aF ?_
                          have h := Option.some.inj h
                          subst h
                          refine cV (cU (cW (l := [6]) ⟨rfl, trivial⟩)) ?_
                          exact bQ ⟨rfl, _, .one _, rfl, rfl⟩
                       ·have h := aY c97 h
                        refine eG ?_
                        refine aD ?_
                        refine tr1 rfl (aC (v := .d (.lit (.int .i64 i_6_90))) (aA rfl) rfl rfl) ?_
                        refine tr1 rfl (bO (aA rfl) rfl rfl rfl) ?_
                        refine tr1 rfl (aJ (v := .d (.lit (.int .i64 ((w64 (i_6_90 + 1)))))) (aA rfl) rfl rfl) ?_
                        refine aF ?_
                        exact ⟨(w64 (i_6_90 + 1)), h, bE [0] rfl rfl (aU rfl (bC ⟨rfl, rfl, rfl, rfl, trivial⟩))⟩
                     ·have h := aY c92 h
                      refine dA ?_
                      refine .inl ⟨rfl, ?_⟩
                      simp only [oR] at h
                      refine aG ?_
                      refine aD ?_
                      refine tr1 rfl (aJ (v := .d (.lit (.bool false))) (aA rfl) rfl rfl) ?_
                      refine aF ?_
                      have h := Option.some.inj h
                      subst h
                      refine cV (cU (cW (l := [6]) ⟨rfl, trivial⟩)) ?_
                      exact bQ ⟨rfl, _, .one _, rfl, rfl⟩

end Go.Am
