/- The functions compute what the shallow ones say: printed by program. -/
import Derived.Test.YtenffgkkeafnpaaBracketFarSimP1
namespace Go.Am
open Go.Proofs
set_option maxRecDepth 100000
set_option maxHeartbeats 4000000

theorem qI (d_0 : aZ) (m_1 : aB) (side_2 : Int) {r : Int} (h : iY d_0 m_1 side_2 = some r) : Fn Try.prog 74 [.cp (aW d_0), .agg (aH m_1), .d (.lit (.int .i64 side_2))] (.d (.lit (.int .i64 r))) := by
 unfold iY at h
 refine Fn.of_tr Try.func74 rfl (rs := [.tmp 6]) Try.results74 Try.ntmps74 (Nat.le_of_ble_eq_true rfl) ?_
 refine aG ?_
 refine aC ?_
 refine bW rfl (fU (v := .agg (aH m_1)) (aA rfl) rfl rfl rfl) ?_
 rintro _ ⟨b1, rfl⟩
 refine tr1 rfl (aJ (v := .d (.lit (.int .i64 0))) (aA rfl) rfl rfl) ?_
 refine aF ?_
 refine aG ?_
 refine aC ?_
 refine tr1 rfl (aS (aA rfl) rfl aDa) ?_
 refine tr1 rfl (aV (aA rfl) rfl (i := 0) rfl rfl bG) ?_
 refine tr1 rfl (bI (aA rfl) rfl rfl rfl) ?_
 refine tr1 rfl (aE (v := .d (.lit (.int .i64 side_2))) (aA rfl) rfl rfl) ?_
 refine tr1 rfl (bI (aA rfl) rfl rfl rfl) ?_
 refine tr1 rfl (aJ (v := .d (.lit (.int .i64 ((w64 ((w64 (2 * m_1.place)) + side_2)))))) (aA rfl) rfl rfl) ?_
 refine aF ?_
 refine aG ?_
 refine aG ?_
 refine aC ?_
 refine tr1 rfl (aS (aA rfl) rfl mW) ?_
 refine tr1 rfl (aV (aA rfl) rfl (i := 0) rfl rfl bG) ?_
 refine tr1 rfl (bF (aA rfl) rfl rfl rfl) ?_
 refine aF ?_
 refine bR rfl (fun c2 => ?_) (fun c2 => ?_)
 ·have h := aY c2 h
  refine aG ?_
  refine aC ?_
  refine tr1 rfl (aE (v := .cp [.lit (.int .i64 d_0.Tree.Rounds), .sl 1 (d_0.Tree.Slots.map aP), .sl 1 (d_0.players.map aP), .mp false (d_0.won.map fun p : aB × Int => ((fun a : aB => Value.agg ((aH a).map bH).toArray) p.1, aP p.2))]) (aA rfl) rfl rfl) ?_
  refine tr1 rfl (gW (aA rfl) rfl) ?_
  refine tr1 rfl (cW (aA rfl) rfl kM (es := [.sl 1 (d_0.players.map aP)]) rfl) ?_
  refine tr1 rfl (bU (aA rfl) rfl dD) ?_
  refine tr1 rfl (aE (v := .d (.lit (.int .i64 ((w64 ((w64 (2 * m_1.place)) + side_2)))))) (aA rfl) rfl rfl) ?_
  obtain ⟨x3, h4, h⟩ := bind_some h
  refine tr1 rfl (bX (aA rfl) rfl rfl bY.of (cC aP h4)) ?_
  refine tr1 rfl (bU (aA rfl) rfl bG) ?_
  refine tr1 rfl (aJ (v := .d (.lit (.int .i64 x3))) (aA rfl) rfl rfl) ?_
  refine aF ?_
  have h := Option.some.inj h
  subst h
  refine cN (cM (cO (l := [6]) ⟨rfl, trivial⟩)) ?_
  exact bK ⟨rfl, _, .one _, rfl, rfl⟩
 ·have h := aX c2 h
  refine bL ?_
  refine aG ?_
  refine aG ?_
  refine eE mix 14 [] [(8, .d (.lit (.int .i64 ((cK (aB.mk (w64 (m_1.round - 1)) (w64 ((w64 (2 * m_1.place)) + side_2))) 0 d_0.won))))), (37, .d (.lit (.bool ((cR (aB.mk (w64 (m_1.round - 1)) (w64 ((w64 (2 * m_1.place)) + side_2))) d_0.won)))))] ?_ ?_
  ·refine ⟨[(26, 0, .cp [.lit (.int .i64 d_0.Tree.Rounds), .sl 1 (d_0.Tree.Slots.map aP), .sl 1 (d_0.players.map aP), .mp false (d_0.won.map fun p : aB × Int => ((fun a : aB => Value.agg ((aH a).map bH).toArray) p.1, aP p.2))]), (27, 1, .cp [.lit (.int .i64 d_0.Tree.Rounds), .sl 1 (d_0.Tree.Slots.map aP), .sl 1 (d_0.players.map aP), .mp false (d_0.won.map fun p : aB × Int => ((fun a : aB => Value.agg ((aH a).map bH).toArray) p.1, aP p.2))]), (28, 2, .cp [.mp false (d_0.won.map fun p : aB × Int => ((fun a : aB => Value.agg ((aH a).map bH).toArray) p.1, aP p.2))]), (29, 3, .d (.mp false (d_0.won.map fun p : aB × Int => ((fun a : aB => Value.agg ((aH a).map bH).toArray) p.1, aP p.2)))), (30, 4, .bp b1 0 0), (31, 5, .d (.lit (.int .i64 m_1.round))), (32, 6, .d (.lit (.int .i64 ((w64 (m_1.round - 1)))))), (33, 7, .d (.lit (.int .i64 ((w64 ((w64 (2 * m_1.place)) + side_2)))))), (34, 8, .agg (aH (aB.mk (w64 (m_1.round - 1)) (w64 ((w64 (2 * m_1.place)) + side_2))))), (35, 9, .tup [.d (.lit (.int .i64 ((cK (aB.mk (w64 (m_1.round - 1)) (w64 ((w64 (2 * m_1.place)) + side_2))) 0 d_0.won)))), .d (.lit (.bool ((cR (aB.mk (w64 (m_1.round - 1)) (w64 ((w64 (2 * m_1.place)) + side_2))) d_0.won))))]), (25, 10, .tup [.d (.lit (.int .i64 ((cK (aB.mk (w64 (m_1.round - 1)) (w64 ((w64 (2 * m_1.place)) + side_2))) 0 d_0.won)))), .d (.lit (.bool ((cR (aB.mk (w64 (m_1.round - 1)) (w64 ((w64 (2 * m_1.place)) + side_2))) d_0.won))))]), (36, 11, .d (.lit (.int .i64 ((cK (aB.mk (w64 (m_1.round - 1)) (w64 ((w64 (2 * m_1.place)) + side_2))) 0 d_0.won))))), (37, 12, .d (.lit (.bool ((cR (aB.mk (w64 (m_1.round - 1)) (w64 ((w64 (2 * m_1.place)) + side_2))) d_0.won))))), (8, 13, .d (.lit (.int .i64 ((cK (aB.mk (w64 (m_1.round - 1)) (w64 ((w64 (2 * m_1.place)) + side_2))) 0 d_0.won)))))], ?_, ?_⟩
   · exact ⟨by kernel_rfl, by kernel_rfl, by kernel_rfl, by kernel_rfl, by kernel_rfl, [([], []), ([0], []), ([1], []), ([2], []), ([], []), ([4], []), ([5], []), ([], []), ([6, 7], []), ([3, 8], []), ([9], []), ([10], []), ([10], []), ([11], [])], by kernel_rfl, ⟨fun S hS => aL rfl (aU rfl (aE (v := .cp [.lit (.int .i64 d_0.Tree.Rounds), .sl 1 (d_0.Tree.Slots.map aP), .sl 1 (d_0.players.map aP), .mp false (d_0.won.map fun p : aB × Int => ((fun a : aB => Value.agg ((aH a).map bH).toArray) p.1, aP p.2))]) (aA rfl) (aM hS rfl) rfl)),
      fun S hS => aL rfl (aU rfl (gW (aA rfl) (aM hS rfl))),
      fun S hS => aL rfl (aU rfl (cW (aA rfl) (aM hS rfl) qU (es := [.mp false (d_0.won.map fun p : aB × Int => ((fun a : aB => Value.agg ((aH a).map bH).toArray) p.1, aP p.2))]) rfl)),
      fun S hS => aL rfl (aU rfl (bU (aA rfl) (aM hS rfl) uN)),
      fun S hS => aL rfl (aU rfl (aS (aA rfl) (aM hS rfl) mW)),
      fun S hS => aL rfl (aU rfl (aV (aA rfl) (aM hS rfl) (i := 0) rfl rfl bG)),
      fun S hS => aL rfl (aU rfl (bI (aA rfl) (aM hS rfl) rfl rfl)),
      fun S hS => aL rfl (aU rfl (aE (v := .d (.lit (.int .i64 ((w64 ((w64 (2 * m_1.place)) + side_2)))))) (aA rfl) (aM hS rfl) rfl)),
      fun S hS => aL rfl (aU rfl (eT (aA rfl) uT (zs := [.lit (.int .i64 0), .lit (.int .i64 0)]) rfl rfl rfl (pa2 (aM hS rfl) (pa2 (aM hS rfl) pan)) (es := [.lit (.int .i64 ((w64 (m_1.round - 1)))), .lit (.int .i64 ((w64 ((w64 (2 * m_1.place)) + side_2))))]) rfl)),
      fun S hS => aL rfl (aU rfl (sB (enc := aP) (agg := false) (l := d_0.won) (z := 0) (a := (aB.mk (w64 (m_1.round - 1)) (w64 ((w64 (2 * m_1.place)) + side_2)))) (aA rfl) tA Try.underlying73 Try.zeroValue3 (fun _ _ => .d (.lit _ rfl)) (aM hS rfl) rfl rfl (aM hS rfl) (kS (enc := aH) (aB.mk (w64 (m_1.round - 1)) (w64 ((w64 (2 * m_1.place)) + side_2))) rfl))),
      fun S hS => aL rfl (aU rfl (aE (v := .tup [.d (.lit (.int .i64 ((cK (aB.mk (w64 (m_1.round - 1)) (w64 ((w64 (2 * m_1.place)) + side_2))) 0 d_0.won)))), .d (.lit (.bool ((cR (aB.mk (w64 (m_1.round - 1)) (w64 ((w64 (2 * m_1.place)) + side_2))) d_0.won))))]) (aA rfl) (aM hS rfl) rfl)),
      fun S hS => aL rfl (aU rfl (bS (aA rfl) (aM hS rfl) rfl)),
      fun S hS => aL rfl (aU rfl (bS (aA rfl) (aM hS rfl) rfl)),
      fun S hS => aL rfl (aU rfl (aJ (v := .d (.lit (.int .i64 ((cK (aB.mk (w64 (m_1.round - 1)) (w64 ((w64 (2 * m_1.place)) + side_2))) 0 d_0.won))))) (aA rfl) (aM hS rfl) rfl)), trivial⟩⟩
   · exact dM (aT rfl (aT rfl (bC trivial)))
  ·refine tr1 rfl (aJ (v := .d (.lit (.bool ((cR (aB.mk (w64 (m_1.round - 1)) (w64 ((w64 (2 * m_1.place)) + side_2))) d_0.won))))) (aA rfl) rfl rfl) ?_
   refine aF ?_
   refine aG ?_
   refine aC ?_
   refine tr1 rfl (aE (v := .d (.lit (.bool ((cR (aB.mk (w64 (m_1.round - 1)) (w64 ((w64 (2 * m_1.place)) + side_2))) d_0.won))))) (aA rfl) rfl rfl) ?_
   refine aF ?_
   refine bR rfl (fun c5 => ?_) (fun c5 => ?_)
   ·have h := aY c5 h
    refine aG ?_
    refine aC ?_
    refine tr1 rfl (aE (v := .d (.lit (.int .i64 ((cK (aB.mk (w64 (m_1.round - 1)) (w64 ((w64 (2 * m_1.place)) + side_2))) 0 d_0.won))))) (aA rfl) rfl rfl) ?_
    refine tr1 rfl (aJ (v := .d (.lit (.int .i64 ((cK (aB.mk (w64 (m_1.round - 1)) (w64 ((w64 (2 * m_1.place)) + side_2))) 0 d_0.won))))) (aA rfl) rfl rfl) ?_
    refine aF ?_
    have h := Option.some.inj h
    subst h
    refine cN (cM (cO (l := [6]) ⟨rfl, trivial⟩)) ?_
    exact bK ⟨rfl, _, .one _, rfl, rfl⟩
   ·have h := aX c5 h
    refine bL ?_
    refine aG ?_
    refine aC ?_
    refine tr1 rfl (aJ (v := .d (.lit (.int .i64 (-2)))) (aA rfl) rfl rfl) ?_
    refine aF ?_
    have h := Option.some.inj h
    subst h
    refine cN (cM (cO (l := [6]) ⟨rfl, trivial⟩)) ?_
    exact bK ⟨rfl, _, .one _, rfl, rfl⟩

theorem tZ {S : Type} (J : S → MO → Prop) (ly : Nat) (yield_1 : S → aB → bZ → Option S) (hy : ∀ (s : S) (m : MO) (x0 : aB) (x1 : bZ) (s' : S), J s m → yield_1 s x0 x1 = some s' → wF Try.prog ly [.agg (aH x0), .agg (dG x1)] m (J s')) (d_0 : aZ) (sy : S) (m0 : MO) (hj : J sy m0) {r : S} (h : iS d_0 yield_1 sy = some r) : eS Try.prog 56 [.cp (aW d_0), .d (.lit (yv ly))] [m0] (fun _ o' => ∃ m', J r m' ∧ o' = [m']) := by
 unfold iS at h
 refine aEg Try.func56 rfl (rs := []) Try.results56 Try.ntmps56 (Nat.le_of_ble_eq_true rfl) ?_
 refine aG ?_
 refine aC ?_
 refine tr1 rfl (aE (v := .cp [.lit (.int .i64 d_0.Tree.Rounds), .sl 1 (d_0.Tree.Slots.map aP), .sl 1 (d_0.players.map aP), .mp false (d_0.won.map fun p : aB × Int => ((fun a : aB => Value.agg ((aH a).map bH).toArray) p.1, aP p.2))]) (aA rfl) rfl rfl) ?_
 refine tr1 rfl (gW (aA rfl) rfl) ?_
 refine tr1 rfl (cW (aA rfl) rfl oE (es := [.lit (.int .i64 d_0.Tree.Rounds), .sl 1 (d_0.Tree.Slots.map aP)]) rfl) ?_
 refine tr1 rfl (cW (aA rfl) rfl gS (es := [.lit (.int .i64 d_0.Tree.Rounds)]) rfl) ?_
 refine tr1 rfl (bU (aA rfl) rfl bG) ?_
 refine tr1 rfl (aE (v := .d (.lit (.int .i64 0))) (aA rfl) rfl rfl) ?_
 refine aF ?_
 refine cE ?_
 refine dN [0, 1, 11] (fun (s1 : Int × ({x : S × MO // J x.1 x.2})) => [(12, .d (.lit (.int .i64 s1.1)))]) (fun (s1 : Int × ({x : S × MO // J x.1 x.2})) => [s1.2.1.2]) (fun (k : Nat) (s1 : Int × ({x : S × MO // J x.1 x.2})) => cS yield_1 d_0 d_0.Tree.Rounds k s1.1 s1.2.1.1) (fun _ => rfl) (0, ⟨(sy, m0), hj⟩) h (bD [0] rfl rfl (aT rfl (bC ⟨rfl, rfl, rfl, trivial⟩))) ?_
 rintro k3 ⟨t12_0_1, y2⟩ h
 simp only [cS] at h
 refine aG ?_
 refine aC ?_
 refine tr1 rfl (bF (aA rfl) rfl rfl rfl) ?_
 refine aF ?_
 refine aG ?_
 refine bR rfl (fun c4 => ?_) (fun c4 => ?_)
 ·have h := aY c4 h
  refine bL ?_
  refine aG ?_
  refine cE ?_
  refine aG ?_
  refine aC ?_
  refine tr1 rfl (aE (v := .d (.lit (.int .i64 t12_0_1))) (aA rfl) rfl rfl) ?_
  refine tr1 rfl (aJ (v := .d (.lit (.int .i64 t12_0_1))) (aA rfl) rfl rfl) ?_
  refine aF ?_
  refine aG ?_
  refine aC ?_
  refine tr1 rfl (aE (v := .cp [.lit (.int .i64 d_0.Tree.Rounds), .sl 1 (d_0.Tree.Slots.map aP), .sl 1 (d_0.players.map aP), .mp false (d_0.won.map fun p : aB × Int => ((fun a : aB => Value.agg ((aH a).map bH).toArray) p.1, aP p.2))]) (aA rfl) rfl rfl) ?_
  refine tr1 rfl (gW (aA rfl) rfl) ?_
  refine tr1 rfl (cW (aA rfl) rfl oE (es := [.lit (.int .i64 d_0.Tree.Rounds), .sl 1 (d_0.Tree.Slots.map aP)]) rfl) ?_
  refine tr1 rfl (cW (aA rfl) rfl dO (es := [.sl 1 (d_0.Tree.Slots.map aP)]) rfl) ?_
  refine tr1 rfl (bU (aA rfl) rfl dD) ?_
  refine tr1 rfl (eG (aA rfl) rfl bY.of) ?_
  refine tr1 rfl (aE (v := .d (.lit (.int .i64 t12_0_1))) (aA rfl) rfl rfl) ?_
  refine tr1 rfl (bI (aA rfl) rfl rfl rfl) ?_
  obtain ⟨u5, h6, h⟩ := bind_some h
  refine tr1 rfl (vU (aA rfl) rfl rfl (rA h6)) ?_
  refine tr1 rfl (aE (v := .d (.lit (.int .i64 0))) (aA rfl) rfl rfl) ?_
  refine aF ?_
  refine xX ?_
  refine dN [0, 1, 4, 11, 12, 23] (fun (s7 : Int × ({x : S × MO // J x.1 x.2})) => [(24, .d (.lit (.int .i64 s7.1)))]) (fun (s7 : Int × ({x : S × MO // J x.1 x.2})) => [s7.2.1.2]) (fun (k : Nat) (s7 : Int × ({x : S × MO // J x.1 x.2})) => eF yield_1 (cS yield_1 d_0 d_0.Tree.Rounds k3) d_0 t12_0_1 d_0.Tree.Rounds t12_0_1 ((d_0.Tree.Slots.length : Int).fdiv (2 ^ (min (w64 (t12_0_1 + 1)).toNat 64))) k s7.1 s7.2.1.1) (fun _ => rfl) (0, ⟨(y2.1.1, y2.1.2), y2.2⟩) h (bD [0] rfl rfl (aT rfl (bC ⟨rfl, rfl, rfl, rfl, rfl, rfl, trivial⟩))) ?_
  rintro k9 ⟨t24_2_7, y8⟩ h
  simp only [eF] at h
  refine aG ?_
  refine aC ?_
  refine tr1 rfl (bF (aA rfl) rfl rfl rfl) ?_
  refine aF ?_
  refine aG ?_
  refine bR rfl (fun c10 => ?_) (fun c10 => ?_)
  ·have h := aY c10 h
   refine bL ?_
   refine aG ?_
   refine cE ?_
   refine aG ?_
   refine aC ?_
   refine tr1 rfl (aE (v := .d (.lit (.int .i64 t24_2_7))) (aA rfl) rfl rfl) ?_
   refine tr1 rfl (aJ (v := .d (.lit (.int .i64 t24_2_7))) (aA rfl) rfl rfl) ?_
   refine aF ?_
   refine aG ?_
   refine aC ?_
   refine tr1 rfl (aE (v := .d (.lit (.int .i64 t12_0_1))) (aA rfl) rfl rfl) ?_
   refine tr1 rfl (aE (v := .d (.lit (.int .i64 t24_2_7))) (aA rfl) rfl rfl) ?_
   refine tr1 rfl (eT (aA rfl) uT (zs := [.lit (.int .i64 0), .lit (.int .i64 0)]) rfl rfl rfl rfl (es := [.lit (.int .i64 t12_0_1), .lit (.int .i64 t24_2_7)]) rfl) ?_
   refine bW rfl (eC (zs := [.lit (.int .i64 0), .lit (.int .i64 0)]) (aA rfl) Try.zeroValue70 rfl rfl) ?_
   rintro _ ⟨b11, rfl⟩
   refine tr1 rfl (cH (i := 1) rfl rfl rfl rfl rfl Try.sizeOf70 rfl (aA rfl) (Nat.le_of_ble_eq_true rfl) (ds' := (aH (aB.mk t12_0_1 t24_2_7))) rfl) ?_
   refine aF ?_
   refine aG ?_
   obtain ⟨r12, h13, h⟩ := bind_some h
   obtain ⟨r14, h15, h⟩ := bind_some h
   refine eE mix 11 [0, 1, 4, 11, 12, 23, 24] [(30, .d (.lit (yv ly))), (31, .agg (aH (aB.mk t12_0_1 t24_2_7))), (40, .agg (dG (bZ.mk t12_0_1 t24_2_7 r12 r14)))] ?_ ?_
   ·refine ⟨[(30, 0, .d (.lit (yv ly))), (31, 1, .agg (aH (aB.mk t12_0_1 t24_2_7))), (32, 2, .d (.lit (.int .i64 t12_0_1))), (33, 3, .d (.lit (.int .i64 t24_2_7))), (34, 4, .cp [.lit (.int .i64 d_0.Tree.Rounds), .sl 1 (d_0.Tree.Slots.map aP), .sl 1 (d_0.players.map aP), .mp false (d_0.won.map fun p : aB × Int => ((fun a : aB => Value.agg ((aH a).map bH).toArray) p.1, aP p.2))]), (35, 5, .agg (aH (aB.mk t12_0_1 t24_2_7))), (36, 6, .d (.lit (.int .i64 r12))), (37, 7, .cp [.lit (.int .i64 d_0.Tree.Rounds), .sl 1 (d_0.Tree.Slots.map aP), .sl 1 (d_0.players.map aP), .mp false (d_0.won.map fun p : aB × Int => ((fun a : aB => Value.agg ((aH a).map bH).toArray) p.1, aP p.2))]), (38, 8, .agg (aH (aB.mk t12_0_1 t24_2_7))), (39, 9, .d (.lit (.int .i64 r14))), (40, 10, .agg (dG (bZ.mk t12_0_1 t24_2_7 r12 r14)))], ?_, ?_⟩
    · exact ⟨by kernel_rfl, by kernel_rfl, by kernel_rfl, by kernel_rfl, by kernel_rfl, [([], []), ([], []), ([], []), ([], []), ([], []), ([], []), ([4, 5], []), ([], []), ([], []), ([7, 8], []), ([2, 3, 6, 9], [])], by kernel_rfl, ⟨fun S hS => aL rfl (aU rfl (aE (v := .d (.lit (yv ly))) (aA rfl) (aM hS rfl) rfl)),
      fun S hS => aL rfl (aU rfl (bO (aA rfl) (aM hS rfl) (i := 1) rfl jI (es := (aH (aB.mk t12_0_1 t24_2_7))) rfl rfl)),
      fun S hS => aL rfl (aU rfl (aE (v := .d (.lit (.int .i64 t12_0_1))) (aA rfl) (aM hS rfl) rfl)),
      fun S hS => aL rfl (aU rfl (aE (v := .d (.lit (.int .i64 t24_2_7))) (aA rfl) (aM hS rfl) rfl)),
      fun S hS => aL rfl (aU rfl (aE (v := .cp [.lit (.int .i64 d_0.Tree.Rounds), .sl 1 (d_0.Tree.Slots.map aP), .sl 1 (d_0.players.map aP), .mp false (d_0.won.map fun p : aB × Int => ((fun a : aB => Value.agg ((aH a).map bH).toArray) p.1, aP p.2))]) (aA rfl) (aM hS rfl) rfl)),
      fun S hS => aL rfl (aU rfl (bO (aA rfl) (aM hS rfl) (i := 1) rfl jI (es := (aH (aB.mk t12_0_1 t24_2_7))) rfl rfl)),
      fun S hS => aL rfl (aU rfl (cP (aA rfl) (.func _ _ Try.call74) (ev2 (aM hS rfl) (ev2 (aM hS rfl) (ev2 rfl evn))) rfl (BVs.refl _ _) (qI _ _ _ h13) rfl)),
      fun S hS => aL rfl (aU rfl (aE (v := .cp [.lit (.int .i64 d_0.Tree.Rounds), .sl 1 (d_0.Tree.Slots.map aP), .sl 1 (d_0.players.map aP), .mp false (d_0.won.map fun p : aB × Int => ((fun a : aB => Value.agg ((aH a).map bH).toArray) p.1, aP p.2))]) (aA rfl) (aM hS rfl) rfl)),
      fun S hS => aL rfl (aU rfl (bO (aA rfl) (aM hS rfl) (i := 1) rfl jI (es := (aH (aB.mk t12_0_1 t24_2_7))) rfl rfl)),
      fun S hS => aL rfl (aU rfl (cP (aA rfl) (.func _ _ Try.call74) (ev2 (aM hS rfl) (ev2 (aM hS rfl) (ev2 rfl evn))) rfl (BVs.refl _ _) (qI _ _ _ h15) rfl)),
      fun S hS => aL rfl (aU rfl (eT (aA rfl) aDw (zs := [.lit (.int .i64 0), .lit (.int .i64 0), .lit (.int .i64 0), .lit (.int .i64 0)]) rfl rfl rfl (pa2 (aM hS rfl) (pa2 (aM hS rfl) (pa2 (aM hS rfl) (pa2 (aM hS rfl) pan)))) (es := [.lit (.int .i64 t12_0_1), .lit (.int .i64 t24_2_7), .lit (.int .i64 r12), .lit (.int .i64 r14)]) rfl)), trivial⟩⟩
    · exact dM (aT rfl (aT rfl (aT rfl (bC ⟨rfl, rfl, rfl, rfl, rfl, rfl, rfl, trivial⟩))))
   ·obtain ⟨y16, h17, h⟩ := bind_some h
    refine aIk rfl (aLc (aA rfl) rfl rfl rfl rfl (hy _ _ _ _ _ y8.2 h17)) ?_
    rintro _ ⟨m18, hj19, rfl⟩
    refine tr1 rfl (gL (aA rfl) rfl) ?_
    refine aF ?_
    refine bR rfl (fun c20 => ?_) (fun c20 => ?_)
    ·exact absurd c20 (by decide)
    ·refine eL ?_
     refine aC ?_
     refine tr1 rfl (bI (aA rfl) rfl rfl rfl) ?_
     refine tr1 rfl (aE (v := .d (.lit (.int .i64 ((w64 (t24_2_7 + 1)))))) (aA rfl) rfl rfl) ?_
     refine aF ?_
     exact ⟨(w64 (t24_2_7 + 1), ⟨(y16, m18), hj19⟩), h, bD [0] rfl rfl (aT rfl (bC ⟨rfl, rfl, rfl, rfl, rfl, rfl, trivial⟩))⟩
  ·have h := aX c10 h
   refine dA ?_
   refine .inl ⟨rfl, ?_⟩
   simp only [gX] at h
   simp only [lM] at h
   refine aC ?_
   refine tr1 rfl (bI (aA rfl) rfl rfl rfl) ?_
   refine tr1 rfl (aE (v := .d (.lit (.int .i64 ((w64 (t12_0_1 + 1)))))) (aA rfl) rfl rfl) ?_
   refine aF ?_
   exact ⟨(w64 (t12_0_1 + 1), ⟨(y8.1.1, y8.1.2), y8.2⟩), h, bD [0] rfl rfl (aT rfl (bC ⟨rfl, rfl, rfl, trivial⟩))⟩
 ·have h := aX c4 h
  refine dA ?_
  refine .inl ⟨rfl, ?_⟩
  simp only [lL] at h
  have h := Option.some.inj h
  subst h
  exact ⟨_, [y2.1.2], [], _, .none, .refl _, .same _, y2.1.2, y2.2, rfl⟩

theorem zM (t_0 : aO) (l_1 : List aD) {Q : ((List bZ) × Int) → Prop} (h : mY t_0 l_1 Q) : eS Try.prog 30 [.agg (aR t_0), .d (.sl 5 (l_1.map aK))] [] (fun r' o' => ∃ (r : (List bZ) × Int), Q r ∧ r' = .tup [.d (.sl 4 (r.1.map dG)), .d (.lit (.int .i64 r.2))] ∧ o' = []) := by
 unfold mY at h
 refine fO Try.func30 rfl (rs := [.tmp 4, .tmp 5]) Try.results30 Try.ntmps30 (Nat.le_of_ble_eq_true rfl) ?_
 refine aG ?_
 refine aC ?_
 refine bW rfl (fU (v := .agg (aR t_0)) (aA rfl) rfl rfl rfl) ?_
 rintro _ ⟨b1, rfl⟩
 refine tr1 rfl (tW 4 (aA rfl)) ?_
 refine tr1 rfl (aJ (v := .d (.lit (.int .i64 0))) (aA rfl) rfl rfl) ?_
 refine aF ?_
 refine aG ?_
 refine aC ?_
 refine tr1 rfl (bO (aA rfl) rfl (i := 0) rfl dY (es := (aR t_0)) rfl rfl) ?_
 refine tr1 rfl (aE (v := .d (.sl 5 (l_1.map aK))) (aA rfl) rfl rfl) ?_
 refine bW rfl (nH (aA rfl) (.func _ _ Try.call48) rfl rfl (mC _ _ h)) ?_
 rintro _ ⟨_, _, ⟨r2, h, rfl, rfl⟩, rfl⟩
 refine tr1 rfl (aE (v := .tup [cL aW r2.1, .d (.lit (.int .i64 r2.2))]) (aA rfl) rfl rfl) ?_
 refine tr1 rfl (bS (aA rfl) rfl rfl) ?_
 refine tr1 rfl (bS (aA rfl) rfl rfl) ?_
 refine tr1 rfl (aJ (v := cL aW r2.1) (aA rfl) rfl rfl) ?_
 refine tr1 rfl (aJ (v := .d (.lit (.int .i64 r2.2))) (aA rfl) rfl rfl) ?_
 refine aF ?_
 refine aG ?_
 refine aG ?_
 refine aC ?_
 refine tr1 rfl (aE (v := .d (.lit (.int .i64 r2.2))) (aA rfl) rfl rfl) ?_
 refine tr1 rfl (bF (aA rfl) rfl rfl rfl) ?_
 refine aF ?_
 refine bR rfl (fun c3 => ?_) (fun c3 => ?_)
 ·have h := eP c3 h
  refine aG ?_
  refine aC ?_
  refine tr1 rfl (aE (v := .d (.lit (.int .i64 r2.2))) (aA rfl) rfl rfl) ?_
  refine tr1 rfl (tW 4 (aA rfl)) ?_
  refine tr1 rfl (aJ (v := .d (.lit (.int .i64 r2.2))) (aA rfl) rfl rfl) ?_
  refine aF ?_
  exact bK ⟨rfl, _, [], [.box b1 0 (aR t_0)], _, .two (.tmp 4 (v := .d (.sl 4 ((([] : List bZ)).map dG))) rfl) (.tmp 5 (v := .d (.lit (.int .i64 r2.2))) rfl), .refl _, .same _, (([] : List bZ), r2.2), h, rfl, rfl⟩
 ·have h := eO c3 h
  refine bL ?_
  refine aG ?_
  refine aC ?_
  refine bW rfl (eC (zs := [.lit (.slice none 0 0)]) (aA rfl) Try.zeroValue48 rfl rfl) ?_
  rintro _ ⟨b4, rfl⟩
  refine jS (zU 57 4) ?_
  refine aF ?_
  refine aG ?_
  refine aG ?_
  refine aC ?_
  refine tr1 rfl (aE (v := cL aW r2.1) (aA rfl) rfl rfl) ?_
  obtain ⟨x5, h6, h⟩ := dE h
  refine jS (aBa (enc := aW) (k := 20) rfl h6) ?_
  refine tr1 rfl (aMb (aA rfl) rfl rfl) ?_
  refine aF ?_
  refine cE ?_
  obtain ⟨s7, h8, h⟩ := dE h
  refine uU ?_ aLy
  refine aJz (S := (List bZ) × Value) (S0 := (List bZ)) (f := 56) (ps := [22, 23]) (fun z11 => z11.1) (fun z11 => [.box b1 0 (aR t_0), .box b4 0 [.lit z11.2], .arr z11.2 57 4 (z11.1.map dG)]) (aMm (fun x12 : aB => .agg (aH x12)) (fun x13 : bZ => .agg (dG x13)) _) (([] : List bZ), (.slice none 0 0)) ([] : List bZ) s7 (bD [0, 1, 2] rfl rfl (le_refl _)) rfl Try.call56 rfl (by decide) rfl rfl (fun l J hy m0 h0 => tZ (S := (List bZ)) J l _ (fun _ _ _ _ _ hJ hq => hy _ _ _ _ hJ ⟨_, _, rfl, hq⟩) x5 _ m0 h0 h8) ?_ ?_
  ·rintro ⟨e9, w10⟩ _ _ ⟨x12, x13, rfl, h⟩
   refine ⟨rfl, ?_⟩
   refine aC ?_
   refine bW rfl (eC (zs := [.lit (.int .i64 0), .lit (.int .i64 0), .lit (.int .i64 0), .lit (.int .i64 0)]) (aA rfl) Try.zeroValue57 rfl rfl) ?_
   rintro _ ⟨b14, rfl⟩
   refine tr1 rfl (cH (i := 3) rfl rfl rfl rfl rfl Try.sizeOf57 rfl (aA rfl) (Nat.le_of_ble_eq_true rfl) (ds' := (dG x13)) rfl) ?_
   refine aF ?_
   refine cE ?_
   refine aC ?_
   refine tr1 rfl (aV (aA rfl) rfl (i := 1) rfl rfl aHx) ?_
   refine tr1 rfl (bO (aA rfl) rfl (i := 3) rfl aCl (es := (dG x13)) rfl rfl) ?_
   refine tr1 rfl (gD (aA rfl) aAr rfl rfl (rows := ([x13]).map dG) rfl (dI (f := dG) fun _ => rfl) rfl (by decide)) ?_
   obtain ⟨x15, h16, h⟩ := bind_some h
   refine bW rfl (fN (i := 2) (aA rfl) aAr rfl rfl rfl (fun _ => rfl) h16 rfl) ?_
   rintro _ ⟨v17, rfl⟩
   refine tr1 rfl (cH (i := 1) rfl rfl rfl rfl rfl Try.sizeOf48 rfl (aA rfl) (Nat.le_of_ble_eq_true rfl) (ds' := [.lit v17]) rfl) ?_
   refine fH ?_
   have h := Option.some.inj h
   subst h
   exact ⟨(x15, v17), rfl, bD [0, 1, 2] rfl rfl aLx⟩
  ·rintro ⟨e9, w10⟩ h18
   subst h18
   refine aG ?_
   refine aC ?_
   refine tr1 rfl (aV (aA rfl) rfl (i := 1) rfl rfl aHx) ?_
   refine tr1 rfl (aJ (v := .d (.lit w10)) (aA rfl) rfl rfl) ?_
   refine tr1 rfl (aJ (v := .d (.lit (.int .i64 0))) (aA rfl) rfl rfl) ?_
   refine aF ?_
   exact bK ⟨rfl, _, [], [.box b1 0 (aR t_0), .box b4 0 [.lit w10], .arr w10 57 4 (e9.map dG)], _, .two (.tmp 4 (v := .d (.lit w10)) rfl) (.tmp 5 (v := .d (.lit (.int .i64 0))) rfl), .refl _, sT (.cons (.d (lC 2 rfl (dI (f := dG) fun _ => rfl))) (.cons (.same _) .nil)), (e9, 0), h, rfl, rfl⟩

theorem aCp (t_0 : aO) (l_1 : List aD) (round_2 : Int) (place_3 : Int) {Q : ((Option aZ) × aB × Int) → Prop} (h : mP t_0 l_1 round_2 place_3 Q) : eS Try.prog 44 [.agg (aR t_0), .d (.sl 5 (l_1.map aK)), .d (.lit (.int .i64 round_2)), .d (.lit (.int .i64 place_3))] [] (fun r' o' => ∃ (r : (Option aZ) × aB × Int), Q r ∧ r' = .tup [cL aW r.1, .agg (aH r.2.1), .d (.lit (.int .i64 r.2.2))] ∧ o' = []) := by
 unfold mP at h
 refine fO Try.func44 rfl (rs := [.tmp 8, .cell 9 70, .tmp 10]) Try.results44 Try.ntmps44 (Nat.le_of_ble_eq_true rfl) ?_
 refine aG ?_
 refine aC ?_
 refine bW rfl (fU (v := .agg (aR t_0)) (aA rfl) rfl rfl rfl) ?_
 rintro _ ⟨b1, rfl⟩
 refine tr1 rfl (aJ (v := cL aW (none : Option aZ)) (aA rfl) rfl rfl) ?_
 refine bW rfl (eC (zs := [.lit (.int .i64 0), .lit (.int .i64 0)]) (aA rfl) Try.zeroValue70 rfl rfl) ?_
 rintro _ ⟨b2, rfl⟩
 refine tr1 rfl (aJ (v := .d (.lit (.int .i64 0))) (aA rfl) rfl rfl) ?_
 refine aF ?_
 refine aG ?_
 refine aC ?_
 refine tr1 rfl (bO (aA rfl) rfl (i := 0) rfl dY (es := (aR t_0)) rfl rfl) ?_
 refine tr1 rfl (aE (v := .d (.sl 5 (l_1.map aK))) (aA rfl) rfl rfl) ?_
 refine bW rfl (nH (aA rfl) (.func _ _ Try.call48) rfl rfl (mC _ _ h)) ?_
 rintro _ ⟨_, _, ⟨r3, h, rfl, rfl⟩, rfl⟩
 refine tr1 rfl (aE (v := .tup [cL aW r3.1, .d (.lit (.int .i64 r3.2))]) (aA rfl) rfl rfl) ?_
 refine tr1 rfl (bS (aA rfl) rfl rfl) ?_
 refine tr1 rfl (bS (aA rfl) rfl rfl) ?_
 refine tr1 rfl (aJ (v := cL aW r3.1) (aA rfl) rfl rfl) ?_
 refine tr1 rfl (aJ (v := .d (.lit (.int .i64 r3.2))) (aA rfl) rfl rfl) ?_
 refine aF ?_
 refine aG ?_
 refine aC ?_
 refine tr1 rfl (aE (v := .d (.lit (.int .i64 round_2))) (aA rfl) rfl rfl) ?_
 refine tr1 rfl (aE (v := .d (.lit (.int .i64 place_3))) (aA rfl) rfl rfl) ?_
 refine tr1 rfl (eT (aA rfl) uT (zs := [.lit (.int .i64 0), .lit (.int .i64 0)]) rfl rfl rfl rfl (es := [.lit (.int .i64 round_2), .lit (.int .i64 place_3)]) rfl) ?_
 refine bW rfl (eC (zs := [.lit (.int .i64 0), .lit (.int .i64 0)]) (aA rfl) Try.zeroValue70 rfl rfl) ?_
 rintro _ ⟨b4, rfl⟩
 refine tr1 rfl (cH (i := 2) rfl rfl rfl rfl rfl Try.sizeOf70 rfl (aA rfl) (Nat.le_of_ble_eq_true rfl) (ds' := (aH (aB.mk round_2 place_3))) rfl) ?_
 refine aF ?_
 refine aG ?_
 refine aG ?_
 refine aC ?_
 refine tr1 rfl (aE (v := .d (.lit (.int .i64 r3.2))) (aA rfl) rfl rfl) ?_
 refine tr1 rfl (bF (aA rfl) rfl rfl rfl) ?_
 refine tr1 rfl (aE (v := .d (.lit (.bool ((decide (r3.2 = 0)))))) (aA rfl) rfl rfl) ?_
 obtain ⟨b5, h6, h⟩ := dE h
 refine cA 5 [9, 11, 12, 13] 30 b5 ?_ ?_
 ·refine bE (decide (r3.2 = 0)) (fun c10 => ?_) (fun c10 => ?_)
  ·have h6 := aY c10 h6
   refine aI rfl rfl (aA rfl) rfl c10 (bO (aA rfl) rfl (i := 2) rfl jI (es := (aH (aB.mk round_2 place_3))) rfl rfl) ?_
   refine aI rfl rfl (aA rfl) rfl c10 (bO (aA rfl) rfl (i := 0) rfl dY (es := (aR t_0)) rfl rfl) ?_
   obtain ⟨r11, h12, h6⟩ := bind_some h6
   refine aI rfl rfl (aA rfl) rfl c10 (cP (aA rfl) (.func _ _ Try.call64) rfl rfl (BVs.refl _ _) (rK _ _ h12) rfl) ?_
   refine aI rfl rfl (aA rfl) rfl c10 (gL (aA rfl) rfl) ?_
   refine tr1 rfl (bN (v := .d (.lit (.bool (!r11)))) (aA rfl) rfl c10 rfl rfl) ?_
   have h6 := Option.some.inj h6
   subst h6
   refine aF (bA rfl ⟨rfl, rfl, rfl, rfl, trivial⟩ rfl)
  ·have h6 := aX c10 h6
   refine aN rfl rfl (aA rfl) rfl (aA rfl) rfl c10 ?_
   refine aN rfl rfl (aA rfl) rfl (aA rfl) rfl c10 ?_
   refine aN rfl rfl (aA rfl) rfl (aA rfl) rfl c10 ?_
   refine aN rfl rfl (aA rfl) rfl (aA rfl) rfl c10 ?_
   refine tr1 rfl (bM (v := .d (.lit (.bool false))) (aA rfl) rfl c10 rfl rfl) ?_
   have h6 := Option.some.inj h6
   subst h6
   refine aF (bA rfl ⟨rfl, rfl, rfl, rfl, trivial⟩ rfl)
 ·refine aF ?_
  refine bR rfl (fun c7 => ?_) (fun c7 => ?_)
  ·have h := eP c7 h
   refine aC ?_
   refine tr1 rfl (aJ (v := .d (.lit (.int .i64 1))) (aA rfl) rfl rfl) ?_
   refine aF ?_
   refine aG ?_
   refine tX mix 5 [9] (fun X8 => [(8, cL aW r3.1), (33, .d (.lit (.int .i64 1)))]) (fun X8 => [.box b1 0 (aR t_0), .box b2 0 (aH (aB.mk round_2 place_3)), .box b4 0 (aH (aB.mk round_2 place_3))]) ?_ ?_
   ·refine ⟨0, fun X8 => [(31, 0, cL aW r3.1), (32, 1, .agg (aH (aB.mk round_2 place_3))), (33, 2, .d (.lit (.int .i64 1))), (8, 3, cL aW r3.1)], fun X8 => [([], .box b1 0 (aR t_0)), ([(4, .box b2 0 (aH (aB.mk round_2 place_3)))], .box b2 0 (aH (aB.mk 0 0))), ([], .box b4 0 (aH (aB.mk round_2 place_3)))], ?_, ?_⟩
    · exact ⟨by kernel_rfl, by kernel_rfl, by kernel_rfl, fun _ => by kernel_rfl, fun _ => by kernel_rfl, fun _ => by kernel_rfl, fun _ => rfl, [([], [4]), ([], [4]), ([], []), ([0], [4]), ([1], [])], by kernel_rfl, ⟨fun X8 S hw hi hS => kP (X := X8) rfl (hw X8) rfl (aU rfl (aE (v := cL aW r3.1) (aA rfl) (aM hS rfl) rfl)),
      fun X8 S hw hi hS => kP (X := X8) rfl (hw X8) rfl (aU rfl (bO (aA rfl) (aM hS rfl) (i := 2) (og hS rfl rfl) jI (es := (aH (aB.mk round_2 place_3))) rfl rfl)),
      fun X8 S hw hi hS => kP (X := X8) rfl (hw X8) rfl (aU rfl (aE (v := .d (.lit (.int .i64 1))) (aA rfl) (aM hS rfl) rfl)),
      fun X8 S hw hi hS => kP (X := X8) rfl (hw X8) rfl (aU rfl (aJ (v := cL aW r3.1) (aA rfl) (aM hS rfl) rfl)),
      fun X8 S hw hi hS => aFl (X := X8) hS rfl rfl rfl (p := 1) rfl rfl (aU rfl (cH (i := 1) (aM hS rfl) (og hS rfl rfl) (aM hS rfl) rfl rfl Try.sizeOf70 rfl (aA rfl) (Nat.le_of_ble_eq_true rfl) (ds' := (aH (aB.mk round_2 place_3))) rfl)), trivial⟩⟩
    · exact fun X8 => dM (aT rfl (aT rfl (bC ⟨rfl, trivial⟩)))
   ·intro X8
    refine tr1 rfl (aJ (v := .d (.lit (.int .i64 1))) (aA rfl) rfl rfl) ?_
    refine aF ?_
    exact bK ⟨rfl, _, [], [.box b1 0 (aR t_0), .box b2 0 (aH (aB.mk round_2 place_3)), .box b4 0 (aH (aB.mk round_2 place_3))], _, .three (.tmp 8 (v := cL aW r3.1) rfl) (.cell 9 70 rfl (i := 1) rfl jI (es := (aH (aB.mk round_2 place_3))) rfl rfl) (.tmp 10 (v := .d (.lit (.int .i64 1))) rfl), .refl _, .same _, (r3.1, (aB.mk round_2 place_3), 1), h, rfl, rfl⟩
  ·have h := eO c7 h
   refine bL ?_
   refine aG ?_
   refine tX mix 5 [9] (fun X9 => [(8, cL aW r3.1), (33, .d (.lit (.int .i64 r3.2)))]) (fun X9 => [.box b1 0 (aR t_0), .box b2 0 (aH (aB.mk round_2 place_3)), .box b4 0 (aH (aB.mk round_2 place_3))]) ?_ ?_
   ·refine ⟨0, fun X9 => [(31, 0, cL aW r3.1), (32, 1, .agg (aH (aB.mk round_2 place_3))), (33, 2, .d (.lit (.int .i64 r3.2))), (8, 3, cL aW r3.1)], fun X9 => [([], .box b1 0 (aR t_0)), ([(4, .box b2 0 (aH (aB.mk round_2 place_3)))], .box b2 0 (aH (aB.mk 0 0))), ([], .box b4 0 (aH (aB.mk round_2 place_3)))], ?_, ?_⟩
    · exact ⟨by kernel_rfl, by kernel_rfl, by kernel_rfl, fun _ => by kernel_rfl, fun _ => by kernel_rfl, fun _ => by kernel_rfl, fun _ => rfl, [([], [4]), ([], [4]), ([], []), ([0], [4]), ([1], [])], by kernel_rfl, ⟨fun X9 S hw hi hS => kP (X := X9) rfl (hw X9) rfl (aU rfl (aE (v := cL aW r3.1) (aA rfl) (aM hS rfl) rfl)),
      fun X9 S hw hi hS => kP (X := X9) rfl (hw X9) rfl (aU rfl (bO (aA rfl) (aM hS rfl) (i := 2) (og hS rfl rfl) jI (es := (aH (aB.mk round_2 place_3))) rfl rfl)),
      fun X9 S hw hi hS => kP (X := X9) rfl (hw X9) rfl (aU rfl (aE (v := .d (.lit (.int .i64 r3.2))) (aA rfl) (aM hS rfl) rfl)),
      fun X9 S hw hi hS => kP (X := X9) rfl (hw X9) rfl (aU rfl (aJ (v := cL aW r3.1) (aA rfl) (aM hS rfl) rfl)),
      fun X9 S hw hi hS => aFl (X := X9) hS rfl rfl rfl (p := 1) rfl rfl (aU rfl (cH (i := 1) (aM hS rfl) (og hS rfl rfl) (aM hS rfl) rfl rfl Try.sizeOf70 rfl (aA rfl) (Nat.le_of_ble_eq_true rfl) (ds' := (aH (aB.mk round_2 place_3))) rfl)), trivial⟩⟩
    · exact fun X9 => dM (aT rfl (aT rfl (bC ⟨rfl, trivial⟩)))
   ·intro X9
    refine tr1 rfl (aJ (v := .d (.lit (.int .i64 r3.2))) (aA rfl) rfl rfl) ?_
    refine aF ?_
    exact bK ⟨rfl, _, [], [.box b1 0 (aR t_0), .box b2 0 (aH (aB.mk round_2 place_3)), .box b4 0 (aH (aB.mk round_2 place_3))], _, .three (.tmp 8 (v := cL aW r3.1) rfl) (.cell 9 70 rfl (i := 1) rfl jI (es := (aH (aB.mk round_2 place_3))) rfl rfl) (.tmp 10 (v := .d (.lit (.int .i64 r3.2))) rfl), .refl _, .same _, (r3.1, (aB.mk round_2 place_3), r3.2), h, rfl, rfl⟩

theorem rJ (d_0 : aZ) (slot_1 : Int) {r : Int} (h : jL d_0 slot_1 = some r) : Fn Try.prog 46 [.cp (aW d_0), .d (.lit (.int .i64 slot_1))] (.d (.lit (.int .i64 r))) := by
 unfold jL at h
 refine Fn.of_tr Try.func46 rfl (rs := [.tmp 4]) Try.results46 Try.ntmps46 (Nat.le_of_ble_eq_true rfl) ?_
 refine aG ?_
 refine aC ?_
 refine tr1 rfl (aJ (v := .d (.lit (.int .i64 0))) (aA rfl) rfl rfl) ?_
 refine aF ?_
 refine aG ?_
 refine aG ?_
 refine aC ?_
 refine tr1 rfl (aE (v := .cp [.lit (.int .i64 d_0.Tree.Rounds), .sl 1 (d_0.Tree.Slots.map aP), .sl 1 (d_0.players.map aP), .mp false (d_0.won.map fun p : aB × Int => ((fun a : aB => Value.agg ((aH a).map bH).toArray) p.1, aP p.2))]) (aA rfl) rfl rfl) ?_
 refine tr1 rfl (gW (aA rfl) rfl) ?_
 refine tr1 rfl (cW (aA rfl) rfl oE (es := [.lit (.int .i64 d_0.Tree.Rounds), .sl 1 (d_0.Tree.Slots.map aP)]) rfl) ?_
 refine tr1 rfl (cW (aA rfl) rfl gS (es := [.lit (.int .i64 d_0.Tree.Rounds)]) rfl) ?_
 refine tr1 rfl (bU (aA rfl) rfl bG) ?_
 refine tr1 rfl (aE (v := .d (.lit (.int .i64 0))) (aA rfl) rfl rfl) ?_
 refine aF ?_
 refine cE ?_
 refine dN [0, 1, 12] (fun (s1 : Int) => [(13, .d (.lit (.int .i64 s1)))]) (fun (s1 : Int) => []) (fun (k : Nat) (s1 : Int) => gB d_0 slot_1 d_0.Tree.Rounds k s1) (fun _ => rfl) (0) h (bD [] rfl rfl (aT rfl (bC ⟨rfl, rfl, rfl, trivial⟩))) ?_
 rintro k2 t13_0_1 h
 simp only [gB] at h
 refine aG ?_
 refine aC ?_
 refine tr1 rfl (bF (aA rfl) rfl rfl rfl) ?_
 refine aF ?_
 refine aG ?_
 refine bR rfl (fun c3 => ?_) (fun c3 => ?_)
 ·have h := aY c3 h
  refine bL ?_
  refine aG ?_
  refine cE ?_
  refine aG ?_
  refine aC ?_
  refine tr1 rfl (aE (v := .d (.lit (.int .i64 t13_0_1))) (aA rfl) rfl rfl) ?_
  refine tr1 rfl (aJ (v := .d (.lit (.int .i64 t13_0_1))) (aA rfl) rfl rfl) ?_
  refine aF ?_
  refine aG ?_
  obtain ⟨r4, h5, h⟩ := bind_some h
  refine eE mix 12 [0, 1, 5, 12, 13] [(6, .d (.lit (.int .i64 ((cK r4 0 d_0.won))))), (26, .d (.lit (.bool ((cR r4 d_0.won)))))] ?_ ?_
  ·refine ⟨[(17, 0, .cp [.lit (.int .i64 d_0.Tree.Rounds), .sl 1 (d_0.Tree.Slots.map aP), .sl 1 (d_0.players.map aP), .mp false (d_0.won.map fun p : aB × Int => ((fun a : aB => Value.agg ((aH a).map bH).toArray) p.1, aP p.2))]), (18, 1, .cp [.lit (.int .i64 d_0.Tree.Rounds), .sl 1 (d_0.Tree.Slots.map aP), .sl 1 (d_0.players.map aP), .mp false (d_0.won.map fun p : aB × Int => ((fun a : aB => Value.agg ((aH a).map bH).toArray) p.1, aP p.2))]), (19, 2, .cp [.mp false (d_0.won.map fun p : aB × Int => ((fun a : aB => Value.agg ((aH a).map bH).toArray) p.1, aP p.2))]), (20, 3, .d (.mp false (d_0.won.map fun p : aB × Int => ((fun a : aB => Value.agg ((aH a).map bH).toArray) p.1, aP p.2)))), (21, 4, .d (.lit (.int .i64 t13_0_1))), (22, 5, .d (.lit (.int .i64 slot_1))), (23, 6, .agg (aH r4)), (24, 7, .tup [.d (.lit (.int .i64 ((cK r4 0 d_0.won)))), .d (.lit (.bool ((cR r4 d_0.won))))]), (16, 8, .tup [.d (.lit (.int .i64 ((cK r4 0 d_0.won)))), .d (.lit (.bool ((cR r4 d_0.won))))]), (25, 9, .d (.lit (.int .i64 ((cK r4 0 d_0.won))))), (26, 10, .d (.lit (.bool ((cR r4 d_0.won))))), (6, 11, .d (.lit (.int .i64 ((cK r4 0 d_0.won)))))], ?_, ?_⟩
   · exact ⟨by kernel_rfl, by kernel_rfl, by kernel_rfl, by kernel_rfl, by kernel_rfl, [([], []), ([0], []), ([1], []), ([2], []), ([], []), ([], []), ([4, 5], []), ([3, 6], []), ([7], []), ([8], []), ([8], []), ([9], [])], by kernel_rfl, ⟨fun S hS => aL rfl (aU rfl (aE (v := .cp [.lit (.int .i64 d_0.Tree.Rounds), .sl 1 (d_0.Tree.Slots.map aP), .sl 1 (d_0.players.map aP), .mp false (d_0.won.map fun p : aB × Int => ((fun a : aB => Value.agg ((aH a).map bH).toArray) p.1, aP p.2))]) (aA rfl) (aM hS rfl) rfl)),
      fun S hS => aL rfl (aU rfl (gW (aA rfl) (aM hS rfl))),
      fun S hS => aL rfl (aU rfl (cW (aA rfl) (aM hS rfl) qU (es := [.mp false (d_0.won.map fun p : aB × Int => ((fun a : aB => Value.agg ((aH a).map bH).toArray) p.1, aP p.2))]) rfl)),
      fun S hS => aL rfl (aU rfl (bU (aA rfl) (aM hS rfl) uN)),
      fun S hS => aL rfl (aU rfl (aE (v := .d (.lit (.int .i64 t13_0_1))) (aA rfl) (aM hS rfl) rfl)),
      fun S hS => aL rfl (aU rfl (aE (v := .d (.lit (.int .i64 slot_1))) (aA rfl) (aM hS rfl) rfl)),
      fun S hS => aL rfl (aU rfl (iB (aA rfl) (.func _ _ Try.call45) (ev2 (aM hS rfl) (ev2 (aM hS rfl) evn)) rfl (lA _ _ h5))),
      fun S hS => aL rfl (aU rfl (sB (enc := aP) (agg := false) (l := d_0.won) (z := 0) (a := r4) (aA rfl) tA Try.underlying73 Try.zeroValue3 (fun _ _ => .d (.lit _ rfl)) (aM hS rfl) rfl rfl (aM hS rfl) (kS (enc := aH) r4 rfl))),
      fun S hS => aL rfl (aU rfl (aE (v := .tup [.d (.lit (.int .i64 ((cK r4 0 d_0.won)))), .d (.lit (.bool ((cR r4 d_0.won))))]) (aA rfl) (aM hS rfl) rfl)),
      fun S hS => aL rfl (aU rfl (bS (aA rfl) (aM hS rfl) rfl)),
      fun S hS => aL rfl (aU rfl (bS (aA rfl) (aM hS rfl) rfl)),
      fun S hS => aL rfl (aU rfl (aJ (v := .d (.lit (.int .i64 ((cK r4 0 d_0.won))))) (aA rfl) (aM hS rfl) rfl)), trivial⟩⟩
   · exact dM (aT rfl (aT rfl (bC ⟨rfl, rfl, rfl, rfl, rfl, trivial⟩)))
  ·refine tr1 rfl (aJ (v := .d (.lit (.bool ((cR r4 d_0.won))))) (aA rfl) rfl rfl) ?_
   refine aF ?_
   refine aG ?_
   refine aC ?_
   refine tr1 rfl (aE (v := .d (.lit (.bool ((cR r4 d_0.won))))) (aA rfl) rfl rfl) ?_
   refine tr1 rfl (aE (v := .d (.lit (.bool ((cR r4 d_0.won))))) (aA rfl) rfl rfl) ?_
   obtain ⟨b6, h7, h⟩ := bind_some h
   refine cA 10 [0, 1, 5, 12, 13] 38 b6 ?_ ?_
   ·refine bE (cR r4 d_0.won) (fun c9 => ?_) (fun c9 => ?_)
    ·have h7 := aY c9 h7
     refine aI rfl rfl (aA rfl) rfl c9 (aE (v := .d (.lit (.int .i64 ((cK r4 0 d_0.won))))) (aA rfl) rfl rfl) ?_
     refine aI rfl rfl (aA rfl) rfl c9 (aE (v := .cp [.lit (.int .i64 d_0.Tree.Rounds), .sl 1 (d_0.Tree.Slots.map aP), .sl 1 (d_0.players.map aP), .mp false (d_0.won.map fun p : aB × Int => ((fun a : aB => Value.agg ((aH a).map bH).toArray) p.1, aP p.2))]) (aA rfl) rfl rfl) ?_
     refine aI rfl rfl (aA rfl) rfl c9 (gW (aA rfl) rfl) ?_
     refine aI rfl rfl (aA rfl) rfl c9 (cW (aA rfl) rfl kM (es := [.sl 1 (d_0.players.map aP)]) rfl) ?_
     refine aI rfl rfl (aA rfl) rfl c9 (bU (aA rfl) rfl dD) ?_
     refine aI rfl rfl (aA rfl) rfl c9 (aE (v := .d (.lit (.int .i64 slot_1))) (aA rfl) rfl rfl) ?_
     obtain ⟨x10, h11, h7⟩ := bind_some h7
     refine aI rfl rfl (aA rfl) rfl c9 (bX (aA rfl) rfl rfl bY.of (cC aP h11)) ?_
     refine aI rfl rfl (aA rfl) rfl c9 (bU (aA rfl) rfl bG) ?_
     refine aI rfl rfl (aA rfl) rfl c9 (bF (aA rfl) rfl rfl rfl) ?_
     refine tr1 rfl (bN (v := .d (.lit (.bool ((!decide ((cK r4 0 d_0.won) = x10)))))) (aA rfl) rfl c9 rfl rfl) ?_
     have h7 := Option.some.inj h7
     subst h7
     refine aF (bA rfl ⟨rfl, rfl, rfl, rfl, rfl, trivial⟩ rfl)
    ·have h7 := aX c9 h7
     refine aN rfl rfl (aA rfl) rfl (aA rfl) rfl c9 ?_
     refine aN rfl rfl (aA rfl) rfl (aA rfl) rfl c9 ?_
     refine aN rfl rfl (aA rfl) rfl (aA rfl) rfl c9 ?_
     refine aN rfl rfl (aA rfl) rfl (aA rfl) rfl c9 ?_
     refine aN rfl rfl (aA rfl) rfl (aA rfl) rfl c9 ?_
     refine aN rfl rfl (aA rfl) rfl (aA rfl) rfl c9 ?_
     refine aN rfl rfl (aA rfl) rfl (aA rfl) rfl c9 ?_
     refine aN rfl rfl (aA rfl) rfl (aA rfl) rfl c9 ?_
     refine aN rfl rfl (aA rfl) rfl (aA rfl) rfl c9 ?_
     refine tr1 rfl (bM (v := .d (.lit (.bool false))) (aA rfl) rfl c9 rfl rfl) ?_
     have h7 := Option.some.inj h7
     subst h7
     refine aF (bA rfl ⟨rfl, rfl, rfl, rfl, rfl, trivial⟩ rfl)
   ·refine aF ?_
    refine bR rfl (fun c8 => ?_) (fun c8 => ?_)
    ·have h := aY c8 h
     refine aG ?_
     refine aC ?_
     refine tr1 rfl (aE (v := .d (.lit (.int .i64 t13_0_1))) (aA rfl) rfl rfl) ?_
     refine tr1 rfl (aJ (v := .d (.lit (.int .i64 t13_0_1))) (aA rfl) rfl rfl) ?_
     refine aF ?_
     have h := Option.some.inj h
     subst h
     exact bK ⟨rfl, _, .one _, rfl, rfl⟩
    ·have h := aX c8 h
     refine eL ?_
     refine aC ?_
     refine tr1 rfl (bI (aA rfl) rfl rfl rfl) ?_
     refine tr1 rfl (aE (v := .d (.lit (.int .i64 ((w64 (t13_0_1 + 1)))))) (aA rfl) rfl rfl) ?_
     refine aF ?_
     exact ⟨(w64 (t13_0_1 + 1)), h, bD [] rfl rfl (aT rfl (bC ⟨rfl, rfl, rfl, trivial⟩))⟩
 ·have h := aX c3 h
  refine dA ?_
  refine .inl ⟨rfl, ?_⟩
  simp only [nI] at h
  refine aG ?_
  refine aC ?_
  refine tr1 rfl (aE (v := .cp [.lit (.int .i64 d_0.Tree.Rounds), .sl 1 (d_0.Tree.Slots.map aP), .sl 1 (d_0.players.map aP), .mp false (d_0.won.map fun p : aB × Int => ((fun a : aB => Value.agg ((aH a).map bH).toArray) p.1, aP p.2))]) (aA rfl) rfl rfl) ?_
  refine tr1 rfl (gW (aA rfl) rfl) ?_
  refine tr1 rfl (cW (aA rfl) rfl oE (es := [.lit (.int .i64 d_0.Tree.Rounds), .sl 1 (d_0.Tree.Slots.map aP)]) rfl) ?_
  refine tr1 rfl (cW (aA rfl) rfl gS (es := [.lit (.int .i64 d_0.Tree.Rounds)]) rfl) ?_
  refine tr1 rfl (bU (aA rfl) rfl bG) ?_
  refine tr1 rfl (aJ (v := .d (.lit (.int .i64 d_0.Tree.Rounds))) (aA rfl) rfl rfl) ?_
  refine aF ?_
  have h := Option.some.inj h
  subst h
  exact bK ⟨rfl, _, .one _, rfl, rfl⟩

theorem yD (x : List Int) {r : List Int} {x_v : Value} {e : TypeId} (h : slices_Sort_int x = some r) : eS Try.prog 47 [.d (.lit x_v)] [.arr x_v e 1 (x.map aP)] (fun r' o' => r' = .tup [] ∧ o' = [.arr x_v e 1 (r.map aP)]) := by
 unfold slices_Sort_int at h
 split at h
 ·cases h
  exact aGt (fun blk off cap zs w => Try.slices_Sort_int blk off cap zs w) (fun q cap w => Try.slices_Sort_int_none q cap w) (by assumption)
 ·cases h

theorem aCa (t_0 : aO) (l_1 : List aD) (round_2 : Int) (place_3 : Int) {Q : ((List Int) × Int) → Prop} (h : oS t_0 l_1 round_2 place_3 Q) : eS Try.prog 15 [.agg (aR t_0), .d (.sl 5 (l_1.map aK)), .d (.lit (.int .i64 round_2)), .d (.lit (.int .i64 place_3))] [] (fun r' o' => ∃ (r : (List Int) × Int), Q r ∧ r' = .tup [.d (.sl 1 (r.1.map aP)), .d (.lit (.int .i64 r.2))] ∧ o' = []) := by
 unfold oS at h
 refine fO Try.func15 rfl (rs := [.tmp 8, .tmp 9]) Try.results15 Try.ntmps15 (Nat.le_of_ble_eq_true rfl) ?_
 refine aG ?_
 refine aC ?_
 refine bW rfl (fU (v := .agg (aR t_0)) (aA rfl) rfl rfl rfl) ?_
 rintro _ ⟨b1, rfl⟩
 refine tr1 rfl (tW 1 (aA rfl)) ?_
 refine tr1 rfl (aJ (v := .d (.lit (.int .i64 0))) (aA rfl) rfl rfl) ?_
 refine aF ?_
 refine aG ?_
 refine aC ?_
 refine tr1 rfl (bO (aA rfl) rfl (i := 0) rfl dY (es := (aR t_0)) rfl rfl) ?_
 refine tr1 rfl (aE (v := .d (.sl 5 (l_1.map aK))) (aA rfl) rfl rfl) ?_
 refine tr1 rfl (aE (v := .d (.lit (.int .i64 round_2))) (aA rfl) rfl rfl) ?_
 refine tr1 rfl (aE (v := .d (.lit (.int .i64 place_3))) (aA rfl) rfl rfl) ?_
 refine bW rfl (nH (aA rfl) (.func _ _ Try.call44) rfl rfl (aCp _ _ _ _ h)) ?_
 rintro _ ⟨_, _, ⟨r2, h, rfl, rfl⟩, rfl⟩
 refine tr1 rfl (aE (v := .tup [cL aW r2.1, .agg (aH r2.2.1), .d (.lit (.int .i64 r2.2.2))]) (aA rfl) rfl rfl) ?_
 refine tr1 rfl (bS (aA rfl) rfl rfl) ?_
 refine tr1 rfl (bS (aA rfl) rfl rfl) ?_
 refine tr1 rfl (bS (aA rfl) rfl rfl) ?_
 refine bW rfl (eC (zs := [.lit (.int .i64 0), .lit (.int .i64 0)]) (aA rfl) Try.zeroValue70 rfl rfl) ?_
 rintro _ ⟨b3, rfl⟩
 refine tr1 rfl (aJ (v := cL aW r2.1) (aA rfl) rfl rfl) ?_
 refine tr1 rfl (cH (i := 1) rfl rfl rfl rfl rfl Try.sizeOf70 rfl (aA rfl) (Nat.le_of_ble_eq_true rfl) (ds' := (aH r2.2.1)) rfl) ?_
 refine tr1 rfl (aJ (v := .d (.lit (.int .i64 r2.2.2))) (aA rfl) rfl rfl) ?_
 refine aF ?_
 refine aG ?_
 refine aG ?_
 refine aC ?_
 refine tr1 rfl (aE (v := .d (.lit (.int .i64 r2.2.2))) (aA rfl) rfl rfl) ?_
 refine tr1 rfl (bF (aA rfl) rfl rfl rfl) ?_
 refine aF ?_
 refine bR rfl (fun c4 => ?_) (fun c4 => ?_)
 ·have h := eP c4 h
  refine aG ?_
  refine aC ?_
  refine tr1 rfl (aE (v := .d (.lit (.int .i64 r2.2.2))) (aA rfl) rfl rfl) ?_
  refine tr1 rfl (tW 1 (aA rfl)) ?_
  refine tr1 rfl (aJ (v := .d (.lit (.int .i64 r2.2.2))) (aA rfl) rfl rfl) ?_
  refine aF ?_
  exact bK ⟨rfl, _, [], [.box b1 0 (aR t_0), .box b3 0 (aH r2.2.1)], _, .two (.tmp 8 (v := .d (.sl 1 ((([] : List Int)).map aP))) rfl) (.tmp 9 (v := .d (.lit (.int .i64 r2.2.2))) rfl), .refl _, .same _, (([] : List Int), r2.2.2), h, rfl, rfl⟩
 ·have h := eO c4 h
  refine bL ?_
  refine aG ?_
  refine aC ?_
  refine tr1 rfl (kD 3 1 (.inl rfl) (aA rfl)) ?_
  refine aF ?_
  refine aG ?_
  refine aG ?_
  refine aC ?_
  refine tr1 rfl (aE (v := cL aW r2.1) (aA rfl) rfl rfl) ?_
  obtain ⟨x6, h7, h⟩ := dE h
  refine tr1 rfl (rG (enc := aW) (aA rfl) rfl h7) ?_
  refine tr1 rfl (cW (aA rfl) rfl kM (es := [.sl 1 (x6.players.map aP)]) rfl) ?_
  refine tr1 rfl (bU (aA rfl) rfl dD) ?_
  refine tr1 rfl (eG (aA rfl) rfl bY.of) ?_
  refine tr1 rfl (aE (v := .d (.lit (.int .i64 0))) (aA rfl) rfl rfl) ?_
  refine aF ?_
  refine cE ?_
  refine oK [2, 10, 11, 31, 32] (fun (s8 : Int × (List Int) × Value) => [(13, .d (.lit s8.2.2)), (33, .d (.lit (.int .i64 s8.1)))]) (fun (s8 : Int × (List Int) × Value) => [.box b3 0 (aH r2.2.1), .arr s8.2.2 3 1 (s8.2.1.map aP)]) (fun (k : Nat) (s8 : Int × (List Int) × Value) => gV Q round_2 r2.1 x6.players (x6.players.length : Int) r2.2.1 k s8.1 s8.2.1) (fun _ h => h) (0, ([] : List Int), (.slice none 0 0)) h (bD [1, 2] rfl rfl (aT rfl (aT rfl (bC ⟨rfl, rfl, rfl, rfl, rfl, trivial⟩)))) ?_
  rintro k10 ⟨t33_0_8, out_0_8, w9⟩ h
  simp only [gV] at h
  refine aG ?_
  refine aC ?_
  refine tr1 rfl (bF (aA rfl) rfl rfl rfl) ?_
  refine aF ?_
  refine aG ?_
  refine bR rfl (fun c11 => ?_) (fun c11 => ?_)
  ·have h := eP c11 h
   refine bL ?_
   refine aG ?_
   refine cE ?_
   refine aG ?_
   refine aC ?_
   refine tr1 rfl (aE (v := .d (.lit (.int .i64 t33_0_8))) (aA rfl) rfl rfl) ?_
   obtain ⟨x12, h13, h⟩ := dE h
   refine tr1 rfl (bX (aA rfl) rfl rfl bY.of (cC aP h13)) ?_
   refine tr1 rfl (bU (aA rfl) rfl bG) ?_
   refine tr1 rfl (aJ (v := .d (.lit (.int .i64 t33_0_8))) (aA rfl) rfl rfl) ?_
   refine tr1 rfl (aJ (v := .d (.lit (.int .i64 x12))) (aA rfl) rfl rfl) ?_
   refine aF ?_
   refine aG ?_
   obtain ⟨x14, h15, h⟩ := dE h
   refine cN (aBa (enc := aW) (k := 10) rfl h15) ?_
   obtain ⟨b16, h17, h⟩ := dE h
   obtain ⟨b21, h22, h⟩ := dE h
   refine eE mix 16 [2, 10, 11, 13, 15, 31, 32, 33] [(53, .d (.lit (.bool b21)))] ?_ ?_
   ·refine bE (!decide (x12 = (-1))) (fun c18 => ?_) (fun c18 => ?_)
    ·have h17 := aY c18 h17
     obtain ⟨r19, h20, h17⟩ := bind_some h17
     have h17 := Option.some.inj h17
     subst h17
     refine bE (decide (r19 = r2.2.1)) (fun c23 => ?_) (fun c23 => ?_)
     ·have h22 := aY c23 h22
      obtain ⟨r24, h25, h22⟩ := bind_some h22
      have h22 := Option.some.inj h22
      subst h22
      refine ⟨[(38, 0, .d (.lit (.int .i64 x12))), (39, 1, .d (.lit (.bool ((!decide (x12 = (-1))))))), (40, 2, .d (.lit (.bool ((!decide (x12 = (-1))))))), (41, 3, .d (.lit (.int .i64 round_2))), (42, 4, .d (.lit (.int .i64 t33_0_8))), (43, 5, .agg (aH r19)), (44, 6, .agg (aH r2.2.1)), (45, 7, .d (.lit (.bool ((decide (r19 = r2.2.1)))))), (46, 8, .d (.lit (.bool ((decide (r19 = r2.2.1)))))), (47, 9, .d (.lit (.bool (decide (r19 = r2.2.1))))), (48, 10, .cp [.lit (.int .i64 x14.Tree.Rounds), .sl 1 (x14.Tree.Slots.map aP), .sl 1 (x14.players.map aP), .mp false (x14.won.map fun p : aB × Int => ((fun a : aB => Value.agg ((aH a).map bH).toArray) p.1, aP p.2))]), (49, 11, .d (.lit (.int .i64 t33_0_8))), (50, 12, .d (.lit (.int .i64 r24))), (51, 13, .d (.lit (.int .i64 round_2))), (52, 14, .d (.lit (.bool ((decide (round_2 < r24)))))), (53, 15, .d (.lit (.bool ((decide (round_2 < r24))))))], ?_, ?_⟩
      · exact ⟨by kernel_rfl, by kernel_rfl, by kernel_rfl, by kernel_rfl, by kernel_rfl, [([], []), ([0], []), ([1], []), ([2], []), ([2], []), ([2, 3, 4], []), ([2], []), ([2, 5, 6], []), ([2, 7], []), ([8], []), ([9], []), ([9], []), ([9, 10, 11], []), ([9], []), ([9, 12, 13], []), ([9, 14], [])], by kernel_rfl, ⟨fun S hS => aL rfl (aU rfl (aE (v := .d (.lit (.int .i64 x12))) (aA rfl) (aM hS rfl) rfl)),
      fun S hS => aL rfl (aU rfl (bF (aA rfl) (aM hS rfl) rfl rfl)),
      fun S hS => aL rfl (aU rfl (aE (v := .d (.lit (.bool ((!decide (x12 = (-1))))))) (aA rfl) (aM hS rfl) rfl)),
      fun S hS => aL rfl (bQ rfl rfl (aA rfl) (bB hS rfl) c18 (aE (v := .d (.lit (.int .i64 round_2))) (aA rfl) (aM hS rfl) rfl)),
      fun S hS => aL rfl (bQ rfl rfl (aA rfl) (bB hS rfl) c18 (aE (v := .d (.lit (.int .i64 t33_0_8))) (aA rfl) (aM hS rfl) rfl)),
      fun S hS => aL rfl (bQ rfl rfl (aA rfl) (bB hS rfl) c18 (iB (aA rfl) (.func _ _ Try.call45) (ev2 (aM hS rfl) (ev2 (aM hS rfl) evn)) rfl (lA _ _ h20))),
      fun S hS => aL rfl (bQ rfl rfl (aA rfl) (bB hS rfl) c18 (bO (aA rfl) (aM hS rfl) (i := 0) rfl jI (es := (aH r2.2.1)) rfl rfl)),
      fun S hS => aL rfl (bQ rfl rfl (aA rfl) (bB hS rfl) c18 (xU (a := r19) (b := r2.2.1) (aA rfl) (aM hS rfl) (aM hS rfl) rfl rfl Try.eqGuardType70 wO)),
      fun S hS => aL rfl (aU rfl (bN (v := .d (.lit (.bool ((decide (r19 = r2.2.1)))))) (aA rfl) (aM hS rfl) c18 (aM hS rfl) rfl)),
      fun S hS => aL rfl (aU rfl (aE (v := .d (.lit (.bool (decide (r19 = r2.2.1))))) (aA rfl) (aM hS rfl) rfl)),
      fun S hS => aL rfl (bQ rfl rfl (aA rfl) (bB hS rfl) c23 (aE (v := .cp [.lit (.int .i64 x14.Tree.Rounds), .sl 1 (x14.Tree.Slots.map aP), .sl 1 (x14.players.map aP), .mp false (x14.won.map fun p : aB × Int => ((fun a : aB => Value.agg ((aH a).map bH).toArray) p.1, aP p.2))]) (aA rfl) (aM hS rfl) rfl)),
      fun S hS => aL rfl (bQ rfl rfl (aA rfl) (bB hS rfl) c23 (aE (v := .d (.lit (.int .i64 t33_0_8))) (aA rfl) (aM hS rfl) rfl)),
      fun S hS => aL rfl (bQ rfl rfl (aA rfl) (bB hS rfl) c23 (cP (aA rfl) (.func _ _ Try.call46) (ev2 (aM hS rfl) (ev2 (aM hS rfl) evn)) rfl (BVs.refl _ _) (rJ _ _ h25) rfl)),
      fun S hS => aL rfl (bQ rfl rfl (aA rfl) (bB hS rfl) c23 (aE (v := .d (.lit (.int .i64 round_2))) (aA rfl) (aM hS rfl) rfl)),
      fun S hS => aL rfl (bQ rfl rfl (aA rfl) (bB hS rfl) c23 (bF (aA rfl) (aM hS rfl) (aM hS rfl) rfl)),
      fun S hS => aL rfl (aU rfl (bN (v := .d (.lit (.bool ((decide (round_2 < r24)))))) (aA rfl) (aM hS rfl) c23 (aM hS rfl) rfl)), trivial⟩⟩
      · exact dM (aT rfl (bC ⟨rfl, rfl, rfl, rfl, rfl, rfl, rfl, rfl, trivial⟩))
     ·have h22 := aX c23 h22
      have h22 := Option.some.inj h22
      subst h22
      refine ⟨[(38, 0, .d (.lit (.int .i64 x12))), (39, 1, .d (.lit (.bool ((!decide (x12 = (-1))))))), (40, 2, .d (.lit (.bool ((!decide (x12 = (-1))))))), (41, 3, .d (.lit (.int .i64 round_2))), (42, 4, .d (.lit (.int .i64 t33_0_8))), (43, 5, .agg (aH r19)), (44, 6, .agg (aH r2.2.1)), (45, 7, .d (.lit (.bool ((decide (r19 = r2.2.1)))))), (46, 8, .d (.lit (.bool ((decide (r19 = r2.2.1)))))), (47, 9, .d (.lit (.bool (decide (r19 = r2.2.1))))), (48, 10, .tup []), (49, 11, .tup []), (50, 12, .tup []), (51, 13, .tup []), (52, 14, .tup []), (53, 15, .d (.lit (.bool false)))], ?_, ?_⟩
      · exact ⟨by kernel_rfl, by kernel_rfl, by kernel_rfl, by kernel_rfl, by kernel_rfl, [([], []), ([0], []), ([1], []), ([2], []), ([2], []), ([2, 3, 4], []), ([2], []), ([2, 5, 6], []), ([2, 7], []), ([8], []), ([9], []), ([9], []), ([9, 10, 11], []), ([9], []), ([9, 12, 13], []), ([9, 14], [])], by kernel_rfl, ⟨fun S hS => aL rfl (aU rfl (aE (v := .d (.lit (.int .i64 x12))) (aA rfl) (aM hS rfl) rfl)),
      fun S hS => aL rfl (aU rfl (bF (aA rfl) (aM hS rfl) rfl rfl)),
      fun S hS => aL rfl (aU rfl (aE (v := .d (.lit (.bool ((!decide (x12 = (-1))))))) (aA rfl) (aM hS rfl) rfl)),
      fun S hS => aL rfl (bQ rfl rfl (aA rfl) (bB hS rfl) c18 (aE (v := .d (.lit (.int .i64 round_2))) (aA rfl) (aM hS rfl) rfl)),
      fun S hS => aL rfl (bQ rfl rfl (aA rfl) (bB hS rfl) c18 (aE (v := .d (.lit (.int .i64 t33_0_8))) (aA rfl) (aM hS rfl) rfl)),
      fun S hS => aL rfl (bQ rfl rfl (aA rfl) (bB hS rfl) c18 (iB (aA rfl) (.func _ _ Try.call45) (ev2 (aM hS rfl) (ev2 (aM hS rfl) evn)) rfl (lA _ _ h20))),
      fun S hS => aL rfl (bQ rfl rfl (aA rfl) (bB hS rfl) c18 (bO (aA rfl) (aM hS rfl) (i := 0) rfl jI (es := (aH r2.2.1)) rfl rfl)),
      fun S hS => aL rfl (bQ rfl rfl (aA rfl) (bB hS rfl) c18 (xU (a := r19) (b := r2.2.1) (aA rfl) (aM hS rfl) (aM hS rfl) rfl rfl Try.eqGuardType70 wO)),
      fun S hS => aL rfl (aU rfl (bN (v := .d (.lit (.bool ((decide (r19 = r2.2.1)))))) (aA rfl) (aM hS rfl) c18 (aM hS rfl) rfl)),
      fun S hS => aL rfl (aU rfl (aE (v := .d (.lit (.bool (decide (r19 = r2.2.1))))) (aA rfl) (aM hS rfl) rfl)),
      fun S hS => aL rfl (bP rfl rfl (aA rfl) rfl (aA rfl) (bB hS rfl) c23),
      fun S hS => aL rfl (bP rfl rfl (aA rfl) rfl (aA rfl) (bB hS rfl) c23),
      fun S hS => aL rfl (bP rfl rfl (aA rfl) rfl (aA rfl) (bB hS rfl) c23),
      fun S hS => aL rfl (bP rfl rfl (aA rfl) rfl (aA rfl) (bB hS rfl) c23),
      fun S hS => aL rfl (bP rfl rfl (aA rfl) rfl (aA rfl) (bB hS rfl) c23),
      fun S hS => aL rfl (aU rfl (bM (v := .d (.lit (.bool false))) (aA rfl) (aM hS rfl) c23 rfl rfl)), trivial⟩⟩
      · exact dM (aT rfl (bC ⟨rfl, rfl, rfl, rfl, rfl, rfl, rfl, rfl, trivial⟩))
    ·have h17 := aX c18 h17
     have h17 := Option.some.inj h17
     subst h17
     have c23 : false = false := rfl
     have h22 := aX c23 h22
     have h22 := Option.some.inj h22
     subst h22
     refine ⟨[(38, 0, .d (.lit (.int .i64 x12))), (39, 1, .d (.lit (.bool ((!decide (x12 = (-1))))))), (40, 2, .d (.lit (.bool ((!decide (x12 = (-1))))))), (41, 3, .tup []), (42, 4, .tup []), (43, 5, .tup []), (44, 6, .tup []), (45, 7, .tup []), (46, 8, .d (.lit (.bool false))), (47, 9, .d (.lit (.bool (false)))), (48, 10, .tup []), (49, 11, .tup []), (50, 12, .tup []), (51, 13, .tup []), (52, 14, .tup []), (53, 15, .d (.lit (.bool false)))], ?_, ?_⟩
     · exact ⟨by kernel_rfl, by kernel_rfl, by kernel_rfl, by kernel_rfl, by kernel_rfl, [([], []), ([0], []), ([1], []), ([2], []), ([2], []), ([2, 3, 4], []), ([2], []), ([2, 5, 6], []), ([2, 7], []), ([8], []), ([9], []), ([9], []), ([9, 10, 11], []), ([9], []), ([9, 12, 13], []), ([9, 14], [])], by kernel_rfl, ⟨fun S hS => aL rfl (aU rfl (aE (v := .d (.lit (.int .i64 x12))) (aA rfl) (aM hS rfl) rfl)),
      fun S hS => aL rfl (aU rfl (bF (aA rfl) (aM hS rfl) rfl rfl)),
      fun S hS => aL rfl (aU rfl (aE (v := .d (.lit (.bool ((!decide (x12 = (-1))))))) (aA rfl) (aM hS rfl) rfl)),
      fun S hS => aL rfl (bP rfl rfl (aA rfl) rfl (aA rfl) (bB hS rfl) c18),
      fun S hS => aL rfl (bP rfl rfl (aA rfl) rfl (aA rfl) (bB hS rfl) c18),
      fun S hS => aL rfl (bP rfl rfl (aA rfl) rfl (aA rfl) (bB hS rfl) c18),
      fun S hS => aL rfl (bP rfl rfl (aA rfl) rfl (aA rfl) (bB hS rfl) c18),
      fun S hS => aL rfl (bP rfl rfl (aA rfl) rfl (aA rfl) (bB hS rfl) c18),
      fun S hS => aL rfl (aU rfl (bM (v := .d (.lit (.bool false))) (aA rfl) (aM hS rfl) c18 rfl rfl)),
      fun S hS => aL rfl (aU rfl (aE (v := .d (.lit (.bool (false)))) (aA rfl) (aM hS rfl) rfl)),
      fun S hS => aL rfl (bP rfl rfl (aA rfl) rfl (aA rfl) (bB hS rfl) c23),
      fun S hS => aL rfl (bP rfl rfl (aA rfl) rfl (aA rfl) (bB hS rfl) c23),
      fun S hS => aL rfl (bP rfl rfl (aA rfl) rfl (aA rfl) (bB hS rfl) c23),
      fun S hS => aL rfl (bP rfl rfl (aA rfl) rfl (aA rfl) (bB hS rfl) c23),
      fun S hS => aL rfl (bP rfl rfl (aA rfl) rfl (aA rfl) (bB hS rfl) c23),
      fun S hS => aL rfl (aU rfl (bM (v := .d (.lit (.bool false))) (aA rfl) (aM hS rfl) c23 rfl rfl)), trivial⟩⟩
     · exact dM (aT rfl (bC ⟨rfl, rfl, rfl, rfl, rfl, rfl, rfl, rfl, trivial⟩))
   ·refine aF ?_
    refine cN (aHl (enc := aW) (k := 10) rfl h15) ?_
    refine bR rfl (fun c26 => ?_) (fun c26 => ?_)
    ·have h := eP c26 h
     refine aC ?_
     refine tr1 rfl (aE (v := .d (.lit w9)) (aA rfl) rfl rfl) ?_
     refine tr1 rfl (aE (v := .d (.lit (.int .i64 x12))) (aA rfl) rfl rfl) ?_
     refine tr1 rfl (gD (aA rfl) bY rfl rfl (rows := ([x12]).map aP) rfl (dI (f := aP) fun _ => rfl) rfl (by decide)) ?_
     obtain ⟨x27, h28, h⟩ := dE h
     refine bW rfl (fN (i := 1) (aA rfl) bY rfl rfl rfl (fun _ => rfl) h28 rfl) ?_
     rintro _ ⟨v29, rfl⟩
     refine tr1 rfl (aJ (v := .d (.lit v29)) (aA rfl) rfl rfl) ?_
     refine fH ?_
     refine aC ?_
     refine tr1 rfl (bI (aA rfl) rfl rfl rfl) ?_
     refine tr1 rfl (aE (v := .d (.lit (.int .i64 ((w64 (t33_0_8 + 1)))))) (aA rfl) rfl rfl) ?_
     refine aF ?_
     exact ⟨(w64 (t33_0_8 + 1), x27, v29), h, bD [0, 1] rfl rfl (aT rfl (aT rfl (bC ⟨rfl, rfl, rfl, rfl, rfl, trivial⟩)))⟩
    ·have h := eO c26 h
     refine eL ?_
     refine aC ?_
     refine tr1 rfl (bI (aA rfl) rfl rfl rfl) ?_
     refine tr1 rfl (aE (v := .d (.lit (.int .i64 ((w64 (t33_0_8 + 1)))))) (aA rfl) rfl rfl) ?_
     refine aF ?_
     exact ⟨(w64 (t33_0_8 + 1), out_0_8, w9), h, bD [0, 1] rfl rfl (aT rfl (aT rfl (bC ⟨rfl, rfl, rfl, rfl, rfl, trivial⟩)))⟩
  ·have h := eO c11 h
   refine dA ?_
   refine .inl ⟨rfl, ?_⟩
   simp only [qO] at h
   refine aG ?_
   refine aC ?_
   refine tr1 rfl (aE (v := .d (.lit w9)) (aA rfl) rfl rfl) ?_
   obtain ⟨r30, h31, h⟩ := dE h
   refine jS (bD [1, 0] rfl rfl (le_refl _)) ?_
   refine bW rfl (qZ (passed := [.arr w9 3 1 (out_0_8.map aP)]) (aA rfl) rfl (.func _ _ Try.call47) rfl rfl (yD out_0_8 h31)) ?_
   rintro _ ⟨_, _, ⟨rfl, rfl⟩, rfl⟩
   refine aF ?_
   refine aG ?_
   refine aC ?_
   refine tr1 rfl (aE (v := .d (.lit w9)) (aA rfl) rfl rfl) ?_
   refine tr1 rfl (aJ (v := .d (.lit w9)) (aA rfl) rfl rfl) ?_
   refine tr1 rfl (aJ (v := .d (.lit (.int .i64 0))) (aA rfl) rfl rfl) ?_
   refine aF ?_
   exact bK ⟨rfl, _, [], [.arr w9 3 1 (r30.map aP), .box b3 0 (aH r2.2.1)], _, .two (.tmp 8 (v := .d (.lit w9)) rfl) (.tmp 9 (v := .d (.lit (.int .i64 0))) rfl), .refl _, sT (.cons (.d (lC 0 rfl (dI (f := aP) fun _ => rfl))) (.cons (.same _) .nil)), (r30, 0), h, rfl, rfl⟩

theorem aAv (t_0 : aO) (l_1 : List aD) {Q : (Int × Int) → Prop} (h : nV t_0 l_1 Q) : eS Try.prog 34 [.agg (aR t_0), .d (.sl 5 (l_1.map aK))] [] (fun r' o' => ∃ (r : Int × Int), Q r ∧ r' = .tup [.d (.lit (.int .i64 r.1)), .d (.lit (.int .i64 r.2))] ∧ o' = []) := by
 unfold nV at h
 refine fO Try.func34 rfl (rs := [.tmp 4, .tmp 5]) Try.results34 Try.ntmps34 (Nat.le_of_ble_eq_true rfl) ?_
 refine aG ?_
 refine aC ?_
 refine bW rfl (fU (v := .agg (aR t_0)) (aA rfl) rfl rfl rfl) ?_
 rintro _ ⟨b1, rfl⟩
 refine tr1 rfl (aJ (v := .d (.lit (.int .i64 0))) (aA rfl) rfl rfl) ?_
 refine tr1 rfl (aJ (v := .d (.lit (.int .i64 0))) (aA rfl) rfl rfl) ?_
 refine aF ?_
 refine aG ?_
 refine aC ?_
 refine tr1 rfl (bO (aA rfl) rfl (i := 0) rfl dY (es := (aR t_0)) rfl rfl) ?_
 refine tr1 rfl (aE (v := .d (.sl 5 (l_1.map aK))) (aA rfl) rfl rfl) ?_
 refine bW rfl (nH (aA rfl) (.func _ _ Try.call48) rfl rfl (mC _ _ h)) ?_
 rintro _ ⟨_, _, ⟨r2, h, rfl, rfl⟩, rfl⟩
 refine tr1 rfl (aE (v := .tup [cL aW r2.1, .d (.lit (.int .i64 r2.2))]) (aA rfl) rfl rfl) ?_
 refine tr1 rfl (bS (aA rfl) rfl rfl) ?_
 refine tr1 rfl (bS (aA rfl) rfl rfl) ?_
 refine tr1 rfl (aJ (v := cL aW r2.1) (aA rfl) rfl rfl) ?_
 refine tr1 rfl (aJ (v := .d (.lit (.int .i64 r2.2))) (aA rfl) rfl rfl) ?_
 refine aF ?_
 refine aG ?_
 refine aG ?_
 refine aC ?_
 refine tr1 rfl (aE (v := .d (.lit (.int .i64 r2.2))) (aA rfl) rfl rfl) ?_
 refine tr1 rfl (bF (aA rfl) rfl rfl rfl) ?_
 refine aF ?_
 refine bR rfl (fun c3 => ?_) (fun c3 => ?_)
 ·have h := eP c3 h
  refine aG ?_
  refine aC ?_
  refine tr1 rfl (aE (v := .d (.lit (.int .i64 r2.2))) (aA rfl) rfl rfl) ?_
  refine tr1 rfl (aJ (v := .d (.lit (.int .i64 0))) (aA rfl) rfl rfl) ?_
  refine tr1 rfl (aJ (v := .d (.lit (.int .i64 r2.2))) (aA rfl) rfl rfl) ?_
  refine aF ?_
  exact bK ⟨rfl, _, [], [.box b1 0 (aR t_0)], _, .two (.tmp 4 (v := .d (.lit (.int .i64 0))) rfl) (.tmp 5 (v := .d (.lit (.int .i64 r2.2))) rfl), .refl _, .same _, (0, r2.2), h, rfl, rfl⟩
 ·have h := eO c3 h
  refine bL ?_
  refine aG ?_
  obtain ⟨x4, h5, h⟩ := dE h
  obtain ⟨x6, h7, h⟩ := dE h
  refine eE mix 12 [] [(23, .d (.lit (.int .i64 ((w64 ((x4.Tree.Slots.length : Int) - 1)))))), (28, .d (.lit (.int .i64 ((((x6.won.map fun p : aB × Int => ((fun a : aB => Value.agg ((aH a).map bH).toArray) p.1, aP p.2))).length : Int)))))] ?_ ?_
  ·refine ⟨[(17, 0, cL aW r2.1), (18, 1, .cp [.lit (.int .i64 x4.Tree.Rounds), .sl 1 (x4.Tree.Slots.map aP), .sl 1 (x4.players.map aP), .mp false (x4.won.map fun p : aB × Int => ((fun a : aB => Value.agg ((aH a).map bH).toArray) p.1, aP p.2))]), (19, 2, .cp [.lit (.int .i64 x4.Tree.Rounds), .sl 1 (x4.Tree.Slots.map aP)]), (20, 3, .cp [.sl 1 (x4.Tree.Slots.map aP)]), (21, 4, .d (.sl 1 (x4.Tree.Slots.map aP))), (22, 5, .d (.lit (.int .i64 ((x4.Tree.Slots.length : Int))))), (23, 6, .d (.lit (.int .i64 ((w64 ((x4.Tree.Slots.length : Int) - 1)))))), (24, 7, cL aW r2.1), (25, 8, .cp [.lit (.int .i64 x6.Tree.Rounds), .sl 1 (x6.Tree.Slots.map aP), .sl 1 (x6.players.map aP), .mp false (x6.won.map fun p : aB × Int => ((fun a : aB => Value.agg ((aH a).map bH).toArray) p.1, aP p.2))]), (26, 9, .cp [.mp false (x6.won.map fun p : aB × Int => ((fun a : aB => Value.agg ((aH a).map bH).toArray) p.1, aP p.2))]), (27, 10, .d (.mp false (x6.won.map fun p : aB × Int => ((fun a : aB => Value.agg ((aH a).map bH).toArray) p.1, aP p.2)))), (28, 11, .d (.lit (.int .i64 ((((x6.won.map fun p : aB × Int => ((fun a : aB => Value.agg ((aH a).map bH).toArray) p.1, aP p.2))).length : Int)))))], ?_, ?_⟩
   · exact ⟨by kernel_rfl, by kernel_rfl, by kernel_rfl, by kernel_rfl, by kernel_rfl, [([], []), ([0], []), ([1], []), ([2], []), ([3], []), ([4], []), ([5], []), ([], []), ([7], []), ([8], []), ([9], []), ([10], [])], by kernel_rfl, ⟨fun S hS => aL rfl (aU rfl (aE (v := cL aW r2.1) (aA rfl) (aM hS rfl) rfl)),
      fun S hS => aL rfl (aU rfl (rG (enc := aW) (aA rfl) (aM hS rfl) h5)),
      fun S hS => aL rfl (aU rfl (cW (aA rfl) (aM hS rfl) oE (es := [.lit (.int .i64 x4.Tree.Rounds), .sl 1 (x4.Tree.Slots.map aP)]) rfl)),
      fun S hS => aL rfl (aU rfl (cW (aA rfl) (aM hS rfl) dO (es := [.sl 1 (x4.Tree.Slots.map aP)]) rfl)),
      fun S hS => aL rfl (aU rfl (bU (aA rfl) (aM hS rfl) dD)),
      fun S hS => aL rfl (aU rfl (eG (aA rfl) (aM hS rfl) bY.of)),
      fun S hS => aL rfl (aU rfl (bI (aA rfl) (aM hS rfl) rfl rfl)),
      fun S hS => aL rfl (aU rfl (aE (v := cL aW r2.1) (aA rfl) (aM hS rfl) rfl)),
      fun S hS => aL rfl (aU rfl (rG (enc := aW) (aA rfl) (aM hS rfl) h7)),
      fun S hS => aL rfl (aU rfl (cW (aA rfl) (aM hS rfl) qU (es := [.mp false (x6.won.map fun p : aB × Int => ((fun a : aB => Value.agg ((aH a).map bH).toArray) p.1, aP p.2))]) rfl)),
      fun S hS => aL rfl (aU rfl (bU (aA rfl) (aM hS rfl) uN)),
      fun S hS => aL rfl (aU rfl (aEt (aA rfl) Try.underlying73 (aM hS rfl) rfl)), trivial⟩⟩
   · exact dM (aT rfl (aT rfl (bC trivial)))
  ·refine tr1 rfl (bI (aA rfl) rfl rfl rfl) ?_
   refine tr1 rfl (aJ (v := .d (.lit (.int .i64 ((w64 ((w64 ((x4.Tree.Slots.length : Int) - 1)) - (((x6.won.map fun p : aB × Int => ((fun a : aB => Value.agg ((aH a).map bH).toArray) p.1, aP p.2))).length : Int))))))) (aA rfl) rfl rfl) ?_
   refine tr1 rfl (aJ (v := .d (.lit (.int .i64 0))) (aA rfl) rfl rfl) ?_
   refine aF ?_
   exact bK ⟨rfl, _, [], [.box b1 0 (aR t_0)], _, .two (.tmp 4 (v := .d (.lit (.int .i64 ((w64 ((w64 ((x4.Tree.Slots.length : Int) - 1)) - (((x6.won.map fun p : aB × Int => ((fun a : aB => Value.agg ((aH a).map bH).toArray) p.1, aP p.2))).length : Int))))))) rfl) (.tmp 5 (v := .d (.lit (.int .i64 0))) rfl), .refl _, .same _, (w64 ((w64 ((x4.Tree.Slots.length : Int) - 1)) - (((x6.won.map fun p : aB × Int => ((fun a : aB => Value.agg ((aH a).map bH).toArray) p.1, aP p.2))).length : Int)), 0), h, rfl, rfl⟩

theorem aCb (t_0 : aO) (l_1 : List aD) (players_2 : List Int) {Q : ((Option aZ) × (List Int) × Int) → Prop} (h : lS t_0 l_1 players_2 Q) : eS Try.prog 49 [.agg (aR t_0), .d (.sl 5 (l_1.map aK)), .d (.sl 1 (players_2.map aP))] [] (fun r' o' => ∃ (r : (Option aZ) × (List Int) × Int), Q r ∧ r' = .tup [cL aW r.1, .d (.sl 1 (r.2.1.map aP)), .d (.lit (.int .i64 r.2.2))] ∧ o' = []) := by
 unfold lS at h
 refine fO Try.func49 rfl (rs := [.tmp 6, .tmp 7, .tmp 8]) Try.results49 Try.ntmps49 (Nat.le_of_ble_eq_true rfl) ?_
 refine aG ?_
 refine aC ?_
 refine bW rfl (fU (v := .agg (aR t_0)) (aA rfl) rfl rfl rfl) ?_
 rintro _ ⟨b1, rfl⟩
 refine tr1 rfl (aJ (v := cL aW (none : Option aZ)) (aA rfl) rfl rfl) ?_
 refine tr1 rfl (kD 3 1 (.inl rfl) (aA rfl)) ?_
 refine tr1 rfl (aJ (v := .d (.lit (.int .i64 0))) (aA rfl) rfl rfl) ?_
 refine aF ?_
 refine aG ?_
 refine aC ?_
 refine tr1 rfl (bO (aA rfl) rfl (i := 0) rfl dY (es := (aR t_0)) rfl rfl) ?_
 refine tr1 rfl (aE (v := .d (.sl 5 (l_1.map aK))) (aA rfl) rfl rfl) ?_
 refine bW rfl (nH (aA rfl) (.func _ _ Try.call48) rfl rfl (mC _ _ h)) ?_
 rintro _ ⟨_, _, ⟨r3, h, rfl, rfl⟩, rfl⟩
 refine tr1 rfl (aE (v := .tup [cL aW r3.1, .d (.lit (.int .i64 r3.2))]) (aA rfl) rfl rfl) ?_
 refine tr1 rfl (bS (aA rfl) rfl rfl) ?_
 refine tr1 rfl (bS (aA rfl) rfl rfl) ?_
 refine tr1 rfl (aJ (v := cL aW r3.1) (aA rfl) rfl rfl) ?_
 refine tr1 rfl (aJ (v := .d (.lit (.int .i64 r3.2))) (aA rfl) rfl rfl) ?_
 refine aF ?_
 refine aG ?_
 refine aG ?_
 refine aC ?_
 refine tr1 rfl (aE (v := .d (.lit (.int .i64 r3.2))) (aA rfl) rfl rfl) ?_
 refine tr1 rfl (bF (aA rfl) rfl rfl rfl) ?_
 refine aF ?_
 refine bR rfl (fun c4 => ?_) (fun c4 => ?_)
 ·have h := eP c4 h
  refine aG ?_
  refine aC ?_
  refine tr1 rfl (aE (v := .d (.lit (.int .i64 r3.2))) (aA rfl) rfl rfl) ?_
  refine tr1 rfl (aJ (v := cL aW (none : Option aZ)) (aA rfl) rfl rfl) ?_
  refine tr1 rfl (kD 3 1 (.inl rfl) (aA rfl)) ?_
  refine tr1 rfl (aJ (v := .d (.lit (.int .i64 r3.2))) (aA rfl) rfl rfl) ?_
  refine aF ?_
  exact bK ⟨rfl, _, [], [.box b1 0 (aR t_0), .arr (.slice none 0 0) 3 1 (([] : List Int).map aP), .arr (.slice none 0 0) 3 1 (([] : List Int).map aP)], _, .three (.tmp 6 (v := cL aW (none : Option aZ)) rfl) (.tmp 7 (v := .d (.lit (.slice none 0 0))) rfl) (.tmp 8 (v := .d (.lit (.int .i64 r3.2))) rfl), .refl _, sT (.cons (.same _) (.cons (.d (lC 2 rfl (dI (f := aP) fun _ => rfl))) (.cons (.same _) .nil))), ((none : Option aZ), ([] : List Int), r3.2), h, rfl, rfl⟩
 ·have h := eO c4 h
  refine bL ?_
  refine aG ?_
  refine aG ?_
  refine aC ?_
  refine tr1 rfl (aE (v := .d (.sl 1 (players_2.map aP))) (aA rfl) rfl rfl) ?_
  refine tr1 rfl (eG (aA rfl) rfl bY.of) ?_
  refine tr1 rfl (aE (v := .d (.lit (.int .i64 0))) (aA rfl) rfl rfl) ?_
  refine aF ?_
  refine cE ?_
  refine oK [20, 21] (fun (s6 : (Option aZ) × Int × (List Int) × Value) => [(6, cL aW s6.1), (7, .d (.lit s6.2.2.2)), (22, .d (.lit (.int .i64 s6.2.1)))]) (fun (s6 : (Option aZ) × Int × (List Int) × Value) => [.arr s6.2.2.2 3 1 (s6.2.2.1.map aP)]) (fun (k : Nat) (s6 : (Option aZ) × Int × (List Int) × Value) => jN Q players_2 (players_2.length : Int) k s6.1 s6.2.1 s6.2.2.1) (fun _ h => h) (r3.1, 0, ([] : List Int), (.slice none 0 0)) h (bD [1] rfl rfl (aT rfl (aT rfl (aT rfl (bC ⟨rfl, rfl, trivial⟩))))) ?_
  rintro k8 ⟨d_0_6, t22_0_6, slots_0_6, w7⟩ h
  simp only [jN] at h
  refine aG ?_
  refine aC ?_
  refine tr1 rfl (bF (aA rfl) rfl rfl rfl) ?_
  refine aF ?_
  refine aG ?_
  refine bR rfl (fun c9 => ?_) (fun c9 => ?_)
  ·have h := eP c9 h
   refine bL ?_
   refine aG ?_
   refine cE ?_
   refine aG ?_
   refine aC ?_
   obtain ⟨x10, h11, h⟩ := dE h
   refine tr1 rfl (bX (aA rfl) rfl rfl bY.of (cC aP h11)) ?_
   refine tr1 rfl (bU (aA rfl) rfl bG) ?_
   refine tr1 rfl (aJ (v := .d (.lit (.int .i64 x10))) (aA rfl) rfl rfl) ?_
   refine aF ?_
   refine aG ?_
   refine aG ?_
   refine aC ?_
   refine tr1 rfl (aE (v := .d (.lit (.int .i64 x10))) (aA rfl) rfl rfl) ?_
   obtain ⟨r12, h13, h⟩ := dE h
   refine tr1 rfl (cP (aA rfl) (.func _ _ Try.call72) rfl rfl (BVs.refl _ _) (eJ _ _ _ h13) rfl) ?_
   refine tr1 rfl (gL (aA rfl) rfl) ?_
   refine aF ?_
   refine bR rfl (fun c14 => ?_) (fun c14 => ?_)
   ·have h := eP c14 h
    refine aG ?_
    refine aC ?_
    refine tr1 rfl (aJ (v := cL aW (none : Option aZ)) (aA rfl) rfl rfl) ?_
    refine tr1 rfl (kD 3 1 (.inl rfl) (aA rfl)) ?_
    refine tr1 rfl (aJ (v := .d (.lit (.int .i64 1))) (aA rfl) rfl rfl) ?_
    refine aF ?_
    exact bK ⟨rfl, _, [], [.arr w7 3 1 (slots_0_6.map aP), .arr (.slice none 0 0) 3 1 (([] : List Int).map aP)], _, .three (.tmp 6 (v := cL aW (none : Option aZ)) rfl) (.tmp 7 (v := .d (.lit (.slice none 0 0))) rfl) (.tmp 8 (v := .d (.lit (.int .i64 1))) rfl), .refl _, sT (.cons (.same _) (.cons (.d (lC 1 rfl (dI (f := aP) fun _ => rfl))) (.cons (.same _) .nil))), ((none : Option aZ), ([] : List Int), 1), h, rfl, rfl⟩
   ·have h := eO c14 h
    refine bL ?_
    refine aC ?_
    refine tr1 rfl (aE (v := .d (.lit w7)) (aA rfl) rfl rfl) ?_
    refine tr1 rfl (aE (v := cL aW d_0_6) (aA rfl) rfl rfl) ?_
    obtain ⟨x16, h17, h⟩ := dE h
    refine tr1 rfl (rG (enc := aW) (aA rfl) rfl h17) ?_
    refine tr1 rfl (cW (aA rfl) rfl kM (es := [.sl 1 (x16.players.map aP)]) rfl) ?_
    refine tr1 rfl (bU (aA rfl) rfl dD) ?_
    refine tr1 rfl (aE (v := .d (.lit (.int .i64 x10))) (aA rfl) rfl rfl) ?_
    obtain ⟨r18, h19, h⟩ := dE h
    refine tr1 rfl (cP (aA rfl) (.func _ _ Try.call73) rfl rfl (BVs.refl _ _) (oJ _ _ h19) rfl) ?_
    refine tr1 rfl (gD (aA rfl) bY rfl rfl (rows := ([r18]).map aP) rfl (dI (f := aP) fun _ => rfl) rfl (by decide)) ?_
    obtain ⟨x20, h21, h⟩ := dE h
    refine bW rfl (fN (i := 0) (aA rfl) bY rfl rfl rfl (fun _ => rfl) h21 rfl) ?_
    rintro _ ⟨v22, rfl⟩
    refine tr1 rfl (aJ (v := .d (.lit v22)) (aA rfl) rfl rfl) ?_
    refine fH ?_
    refine aC ?_
    refine tr1 rfl (bI (aA rfl) rfl rfl rfl) ?_
    refine tr1 rfl (aE (v := .d (.lit (.int .i64 ((w64 (t22_0_6 + 1)))))) (aA rfl) rfl rfl) ?_
    refine aF ?_
    exact ⟨(d_0_6, w64 (t22_0_6 + 1), x20, v22), h, bD [0] rfl rfl (aT rfl (aT rfl (aT rfl (bC ⟨rfl, rfl, trivial⟩))))⟩
  ·have h := eO c9 h
   refine dA ?_
   refine .inl ⟨rfl, ?_⟩
   simp only [qP] at h
   refine aG ?_
   refine aC ?_
   refine tr1 rfl (aE (v := cL aW d_0_6) (aA rfl) rfl rfl) ?_
   refine tr1 rfl (aE (v := .d (.lit w7)) (aA rfl) rfl rfl) ?_
   refine tr1 rfl (aJ (v := cL aW d_0_6) (aA rfl) rfl rfl) ?_
   refine tr1 rfl (aJ (v := .d (.lit w7)) (aA rfl) rfl rfl) ?_
   refine tr1 rfl (aJ (v := .d (.lit (.int .i64 0))) (aA rfl) rfl rfl) ?_
   refine aF ?_
   exact bK ⟨rfl, _, [], [.arr w7 3 1 (slots_0_6.map aP)], _, .three (.tmp 6 (v := cL aW d_0_6) rfl) (.tmp 7 (v := .d (.lit w7)) rfl) (.tmp 8 (v := .d (.lit (.int .i64 0))) rfl), .refl _, sT (.cons (.same _) (.cons (.d (lC 0 rfl (dI (f := aP) fun _ => rfl))) (.cons (.same _) .nil))), (d_0_6, slots_0_6, 0), h, rfl, rfl⟩

theorem wK (d_0 : aZ) (slot_1 : Int) {r : Int} (h : kZ d_0 slot_1 = some r) : Fn Try.prog 50 [.cp (aW d_0), .d (.lit (.int .i64 slot_1))] (.d (.lit (.int .i64 r))) := by
 unfold kZ at h
 refine Fn.of_tr Try.func50 rfl (rs := [.tmp 4]) Try.results50 Try.ntmps50 (Nat.le_of_ble_eq_true rfl) ?_
 refine aG ?_
 refine aC ?_
 refine tr1 rfl (aJ (v := .d (.lit (.int .i64 0))) (aA rfl) rfl rfl) ?_
 refine aF ?_
 refine aG ?_
 refine aG ?_
 refine aC ?_
 refine tr1 rfl (aE (v := .cp [.lit (.int .i64 d_0.Tree.Rounds), .sl 1 (d_0.Tree.Slots.map aP), .sl 1 (d_0.players.map aP), .mp false (d_0.won.map fun p : aB × Int => ((fun a : aB => Value.agg ((aH a).map bH).toArray) p.1, aP p.2))]) (aA rfl) rfl rfl) ?_
 refine tr1 rfl (gW (aA rfl) rfl) ?_
 refine tr1 rfl (cW (aA rfl) rfl oE (es := [.lit (.int .i64 d_0.Tree.Rounds), .sl 1 (d_0.Tree.Slots.map aP)]) rfl) ?_
 refine tr1 rfl (cW (aA rfl) rfl gS (es := [.lit (.int .i64 d_0.Tree.Rounds)]) rfl) ?_
 refine tr1 rfl (bU (aA rfl) rfl bG) ?_
 refine tr1 rfl (aE (v := .d (.lit (.int .i64 0))) (aA rfl) rfl rfl) ?_
 refine aF ?_
 refine cE ?_
 refine dN [0, 1, 12] (fun (s1 : Int) => [(13, .d (.lit (.int .i64 s1)))]) (fun (s1 : Int) => []) (fun (k : Nat) (s1 : Int) => gC d_0 slot_1 d_0.Tree.Rounds k s1) (fun _ => rfl) (0) h (bD [] rfl rfl (aT rfl (bC ⟨rfl, rfl, rfl, trivial⟩))) ?_
 rintro k2 t13_0_1 h
 simp only [gC] at h
 refine aG ?_
 refine aC ?_
 refine tr1 rfl (bF (aA rfl) rfl rfl rfl) ?_
 refine aF ?_
 refine aG ?_
 refine bR rfl (fun c3 => ?_) (fun c3 => ?_)
 ·have h := aY c3 h
  refine bL ?_
  refine aG ?_
  refine cE ?_
  refine aG ?_
  refine aC ?_
  refine tr1 rfl (aE (v := .d (.lit (.int .i64 t13_0_1))) (aA rfl) rfl rfl) ?_
  refine tr1 rfl (aJ (v := .d (.lit (.int .i64 t13_0_1))) (aA rfl) rfl rfl) ?_
  refine aF ?_
  refine aG ?_
  obtain ⟨r4, h5, h⟩ := bind_some h
  refine eE mix 12 [0, 1, 5, 12, 13] [(6, .d (.lit (.int .i64 ((cK r4 0 d_0.won))))), (26, .d (.lit (.bool ((cR r4 d_0.won)))))] ?_ ?_
  ·refine ⟨[(17, 0, .cp [.lit (.int .i64 d_0.Tree.Rounds), .sl 1 (d_0.Tree.Slots.map aP), .sl 1 (d_0.players.map aP), .mp false (d_0.won.map fun p : aB × Int => ((fun a : aB => Value.agg ((aH a).map bH).toArray) p.1, aP p.2))]), (18, 1, .cp [.lit (.int .i64 d_0.Tree.Rounds), .sl 1 (d_0.Tree.Slots.map aP), .sl 1 (d_0.players.map aP), .mp false (d_0.won.map fun p : aB × Int => ((fun a : aB => Value.agg ((aH a).map bH).toArray) p.1, aP p.2))]), (19, 2, .cp [.mp false (d_0.won.map fun p : aB × Int => ((fun a : aB => Value.agg ((aH a).map bH).toArray) p.1, aP p.2))]), (20, 3, .d (.mp false (d_0.won.map fun p : aB × Int => ((fun a : aB => Value.agg ((aH a).map bH).toArray) p.1, aP p.2)))), (21, 4, .d (.lit (.int .i64 t13_0_1))), (22, 5, .d (.lit (.int .i64 slot_1))), (23, 6, .agg (aH r4)), (24, 7, .tup [.d (.lit (.int .i64 ((cK r4 0 d_0.won)))), .d (.lit (.bool ((cR r4 d_0.won))))]), (16, 8, .tup [.d (.lit (.int .i64 ((cK r4 0 d_0.won)))), .d (.lit (.bool ((cR r4 d_0.won))))]), (25, 9, .d (.lit (.int .i64 ((cK r4 0 d_0.won))))), (26, 10, .d (.lit (.bool ((cR r4 d_0.won))))), (6, 11, .d (.lit (.int .i64 ((cK r4 0 d_0.won)))))], ?_, ?_⟩
   · exact ⟨by kernel_rfl, by kernel_rfl, by kernel_rfl, by kernel_rfl, by kernel_rfl, [([], []), ([0], []), ([1], []), ([2], []), ([], []), ([], []), ([4, 5], []), ([3, 6], []), ([7], []), ([8], []), ([8], []), ([9], [])], by kernel_rfl, ⟨fun S hS => aL rfl (aU rfl (aE (v := .cp [.lit (.int .i64 d_0.Tree.Rounds), .sl 1 (d_0.Tree.Slots.map aP), .sl 1 (d_0.players.map aP), .mp false (d_0.won.map fun p : aB × Int => ((fun a : aB => Value.agg ((aH a).map bH).toArray) p.1, aP p.2))]) (aA rfl) (aM hS rfl) rfl)),
      fun S hS => aL rfl (aU rfl (gW (aA rfl) (aM hS rfl))),
      fun S hS => aL rfl (aU rfl (cW (aA rfl) (aM hS rfl) qU (es := [.mp false (d_0.won.map fun p : aB × Int => ((fun a : aB => Value.agg ((aH a).map bH).toArray) p.1, aP p.2))]) rfl)),
      fun S hS => aL rfl (aU rfl (bU (aA rfl) (aM hS rfl) uN)),
      fun S hS => aL rfl (aU rfl (aE (v := .d (.lit (.int .i64 t13_0_1))) (aA rfl) (aM hS rfl) rfl)),
      fun S hS => aL rfl (aU rfl (aE (v := .d (.lit (.int .i64 slot_1))) (aA rfl) (aM hS rfl) rfl)),
      fun S hS => aL rfl (aU rfl (iB (aA rfl) (.func _ _ Try.call45) (ev2 (aM hS rfl) (ev2 (aM hS rfl) evn)) rfl (lA _ _ h5))),
      fun S hS => aL rfl (aU rfl (sB (enc := aP) (agg := false) (l := d_0.won) (z := 0) (a := r4) (aA rfl) tA Try.underlying73 Try.zeroValue3 (fun _ _ => .d (.lit _ rfl)) (aM hS rfl) rfl rfl (aM hS rfl) (kS (enc := aH) r4 rfl))),
      fun S hS => aL rfl (aU rfl (aE (v := .tup [.d (.lit (.int .i64 ((cK r4 0 d_0.won)))), .d (.lit (.bool ((cR r4 d_0.won))))]) (aA rfl) (aM hS rfl) rfl)),
      fun S hS => aL rfl (aU rfl (bS (aA rfl) (aM hS rfl) rfl)),
      fun S hS => aL rfl (aU rfl (bS (aA rfl) (aM hS rfl) rfl)),
      fun S hS => aL rfl (aU rfl (aJ (v := .d (.lit (.int .i64 ((cK r4 0 d_0.won))))) (aA rfl) (aM hS rfl) rfl)), trivial⟩⟩
   · exact dM (aT rfl (aT rfl (bC ⟨rfl, rfl, rfl, rfl, rfl, trivial⟩)))
  ·refine tr1 rfl (aJ (v := .d (.lit (.bool ((cR r4 d_0.won))))) (aA rfl) rfl rfl) ?_
   refine aF ?_
   refine aG ?_
   refine aC ?_
   refine tr1 rfl (aE (v := .d (.lit (.bool ((cR r4 d_0.won))))) (aA rfl) rfl rfl) ?_
   refine tr1 rfl (gL (aA rfl) rfl) ?_
   refine tr1 rfl (aE (v := .d (.lit (.bool ((!(cR r4 d_0.won)))))) (aA rfl) rfl rfl) ?_
   obtain ⟨b6, h7, h⟩ := bind_some h
   refine cA 10 [0, 1, 5, 12, 13] 39 b6 ?_ ?_
   ·refine bE (!(cR r4 d_0.won)) (fun c9 => ?_) (fun c9 => ?_)
    ·have h7 := aY c9 h7
     refine aN rfl rfl (aA rfl) rfl (aA rfl) rfl c9 ?_
     refine aN rfl rfl (aA rfl) rfl (aA rfl) rfl c9 ?_
     refine aN rfl rfl (aA rfl) rfl (aA rfl) rfl c9 ?_
     refine aN rfl rfl (aA rfl) rfl (aA rfl) rfl c9 ?_
     refine aN rfl rfl (aA rfl) rfl (aA rfl) rfl c9 ?_
     refine aN rfl rfl (aA rfl) rfl (aA rfl) rfl c9 ?_
     refine aN rfl rfl (aA rfl) rfl (aA rfl) rfl c9 ?_
     refine aN rfl rfl (aA rfl) rfl (aA rfl) rfl c9 ?_
     refine aN rfl rfl (aA rfl) rfl (aA rfl) rfl c9 ?_
     refine tr1 rfl (bN (v := .d (.lit (.bool true))) (aA rfl) rfl c9 rfl rfl) ?_
     have h7 := Option.some.inj h7
     subst h7
     refine aF (bA rfl ⟨rfl, rfl, rfl, rfl, rfl, trivial⟩ rfl)
    ·have h7 := aX c9 h7
     refine aI rfl rfl (aA rfl) rfl c9 (aE (v := .d (.lit (.int .i64 ((cK r4 0 d_0.won))))) (aA rfl) rfl rfl) ?_
     refine aI rfl rfl (aA rfl) rfl c9 (aE (v := .cp [.lit (.int .i64 d_0.Tree.Rounds), .sl 1 (d_0.Tree.Slots.map aP), .sl 1 (d_0.players.map aP), .mp false (d_0.won.map fun p : aB × Int => ((fun a : aB => Value.agg ((aH a).map bH).toArray) p.1, aP p.2))]) (aA rfl) rfl rfl) ?_
     refine aI rfl rfl (aA rfl) rfl c9 (gW (aA rfl) rfl) ?_
     refine aI rfl rfl (aA rfl) rfl c9 (cW (aA rfl) rfl kM (es := [.sl 1 (d_0.players.map aP)]) rfl) ?_
     refine aI rfl rfl (aA rfl) rfl c9 (bU (aA rfl) rfl dD) ?_
     refine aI rfl rfl (aA rfl) rfl c9 (aE (v := .d (.lit (.int .i64 slot_1))) (aA rfl) rfl rfl) ?_
     obtain ⟨x10, h11, h7⟩ := bind_some h7
     refine aI rfl rfl (aA rfl) rfl c9 (bX (aA rfl) rfl rfl bY.of (cC aP h11)) ?_
     refine aI rfl rfl (aA rfl) rfl c9 (bU (aA rfl) rfl bG) ?_
     refine aI rfl rfl (aA rfl) rfl c9 (bF (aA rfl) rfl rfl rfl) ?_
     refine tr1 rfl (bM (v := .d (.lit (.bool ((!decide ((cK r4 0 d_0.won) = x10)))))) (aA rfl) rfl c9 rfl rfl) ?_
     have h7 := Option.some.inj h7
     subst h7
     refine aF (bA rfl ⟨rfl, rfl, rfl, rfl, rfl, trivial⟩ rfl)
   ·refine aF ?_
    refine bR rfl (fun c8 => ?_) (fun c8 => ?_)
    ·have h := aY c8 h
     refine aG ?_
     refine aC ?_
     refine tr1 rfl (aE (v := .d (.lit (.int .i64 t13_0_1))) (aA rfl) rfl rfl) ?_
     refine tr1 rfl (aJ (v := .d (.lit (.int .i64 t13_0_1))) (aA rfl) rfl rfl) ?_
     refine aF ?_
     have h := Option.some.inj h
     subst h
     exact bK ⟨rfl, _, .one _, rfl, rfl⟩
    ·have h := aX c8 h
     refine eL ?_
     refine aC ?_
     refine tr1 rfl (bI (aA rfl) rfl rfl rfl) ?_
     refine tr1 rfl (aE (v := .d (.lit (.int .i64 ((w64 (t13_0_1 + 1)))))) (aA rfl) rfl rfl) ?_
     refine aF ?_
     exact ⟨(w64 (t13_0_1 + 1)), h, bD [] rfl rfl (aT rfl (bC ⟨rfl, rfl, rfl, trivial⟩))⟩
 ·have h := aX c3 h
  refine dA ?_
  refine .inl ⟨rfl, ?_⟩
  simp only [nJ] at h
  refine aG ?_
  refine aC ?_
  refine tr1 rfl (aE (v := .cp [.lit (.int .i64 d_0.Tree.Rounds), .sl 1 (d_0.Tree.Slots.map aP), .sl 1 (d_0.players.map aP), .mp false (d_0.won.map fun p : aB × Int => ((fun a : aB => Value.agg ((aH a).map bH).toArray) p.1, aP p.2))]) (aA rfl) rfl rfl) ?_
  refine tr1 rfl (gW (aA rfl) rfl) ?_
  refine tr1 rfl (cW (aA rfl) rfl oE (es := [.lit (.int .i64 d_0.Tree.Rounds), .sl 1 (d_0.Tree.Slots.map aP)]) rfl) ?_
  refine tr1 rfl (cW (aA rfl) rfl gS (es := [.lit (.int .i64 d_0.Tree.Rounds)]) rfl) ?_
  refine tr1 rfl (bU (aA rfl) rfl bG) ?_
  refine tr1 rfl (aJ (v := .d (.lit (.int .i64 d_0.Tree.Rounds))) (aA rfl) rfl rfl) ?_
  refine aF ?_
  have h := Option.some.inj h
  subst h
  exact bK ⟨rfl, _, .one _, rfl, rfl⟩

theorem yB (t_0 : aO) (l_1 : List aD) (player_2 : Int) {Q : (cZ × Int) → Prop} (h : lN t_0 l_1 player_2 Q) : eS Try.prog 17 [.agg (aR t_0), .d (.sl 5 (l_1.map aK)), .d (.lit (.int .i64 player_2))] [] (fun r' o' => ∃ (r : cZ × Int), Q r ∧ r' = .tup [.agg (eB r.1), .d (.lit (.int .i64 r.2))] ∧ o' = []) := by
 unfold lN at h
 refine fO Try.func17 rfl (rs := [.cell 6 39, .tmp 7]) Try.results17 Try.ntmps17 (Nat.le_of_ble_eq_true rfl) ?_
 refine aG ?_
 refine aC ?_
 refine bW rfl (fU (v := .agg (aR t_0)) (aA rfl) rfl rfl rfl) ?_
 rintro _ ⟨b1, rfl⟩
 refine bW rfl (eC (zs := [.lit (.int .i64 0), .lit (.int .i64 0)]) (aA rfl) Try.zeroValue39 rfl rfl) ?_
 rintro _ ⟨b2, rfl⟩
 refine tr1 rfl (aJ (v := .d (.lit (.int .i64 0))) (aA rfl) rfl rfl) ?_
 refine aF ?_
 refine aG ?_
 refine aC ?_
 refine tr1 rfl (bO (aA rfl) rfl (i := 0) rfl dY (es := (aR t_0)) rfl rfl) ?_
 refine tr1 rfl (aE (v := .d (.sl 5 (l_1.map aK))) (aA rfl) rfl rfl) ?_
 refine tr1 rfl (aE (v := .d (.lit (.int .i64 player_2))) (aA rfl) rfl rfl) ?_
 refine tr1 rfl (gD (aA rfl) bY rfl rfl (rows := ([player_2]).map aP) rfl (dI (f := aP) fun _ => rfl) rfl (by decide)) ?_
 refine bW rfl (nH (aA rfl) (.func _ _ Try.call49) rfl rfl (aCb _ _ _ h)) ?_
 rintro _ ⟨_, _, ⟨r3, h, rfl, rfl⟩, rfl⟩
 refine tr1 rfl (aE (v := .tup [cL aW r3.1, .d (.sl 1 (r3.2.1.map aP)), .d (.lit (.int .i64 r3.2.2))]) (aA rfl) rfl rfl) ?_
 refine tr1 rfl (bS (aA rfl) rfl rfl) ?_
 refine tr1 rfl (bS (aA rfl) rfl rfl) ?_
 refine tr1 rfl (bS (aA rfl) rfl rfl) ?_
 refine tr1 rfl (aJ (v := cL aW r3.1) (aA rfl) rfl rfl) ?_
 refine tr1 rfl (aJ (v := .d (.sl 1 (r3.2.1.map aP))) (aA rfl) rfl rfl) ?_
 refine tr1 rfl (aJ (v := .d (.lit (.int .i64 r3.2.2))) (aA rfl) rfl rfl) ?_
 refine aF ?_
 refine aG ?_
 refine cE ?_
 refine aG ?_
 refine aC ?_
 refine tr1 rfl (aE (v := .d (.lit (.int .i64 r3.2.2))) (aA rfl) rfl rfl) ?_
 refine tr1 rfl (bF (aA rfl) rfl rfl rfl) ?_
 refine tr1 rfl (aJ (v := .d (.lit (.bool ((!decide (r3.2.2 = 0)))))) (aA rfl) rfl rfl) ?_
 refine aF ?_
 refine bR rfl (fun c4 => ?_) (fun c4 => ?_)
 ·have h := eP c4 h
  refine aG ?_
  refine aC ?_
  refine tr1 rfl (eT (aA rfl) aAt (zs := [.lit (.int .i64 0), .lit (.int .i64 0)]) rfl rfl rfl rfl (es := [.lit (.int .i64 0), .lit (.int .i64 0)]) rfl) ?_
  refine tr1 rfl (aE (v := .d (.lit (.int .i64 r3.2.2))) (aA rfl) rfl rfl) ?_
  refine tr1 rfl (cH (i := 1) rfl rfl rfl rfl rfl Try.sizeOf39 rfl (aA rfl) (Nat.le_of_ble_eq_true rfl) (ds' := (eB (cZ.mk 0 0))) rfl) ?_
  refine tr1 rfl (aJ (v := .d (.lit (.int .i64 r3.2.2))) (aA rfl) rfl rfl) ?_
  refine aF ?_
  exact bK ⟨rfl, _, [], [.box b1 0 (aR t_0), .box b2 0 (eB (cZ.mk 0 0))], _, .two (.cell 6 39 rfl (i := 1) rfl zK (es := (eB (cZ.mk 0 0))) rfl rfl) (.tmp 7 (v := .d (.lit (.int .i64 r3.2.2))) rfl), .refl _, .same _, ((cZ.mk 0 0), r3.2.2), h, rfl, rfl⟩
 ·have h := eO c4 h
  refine aG ?_
  refine aC ?_
  refine tr1 rfl (aE (v := .d (.sl 1 (r3.2.1.map aP))) (aA rfl) rfl rfl) ?_
  obtain ⟨x5, h6, h⟩ := dE h
  refine tr1 rfl (bX (aA rfl) rfl rfl bY.of (cC aP h6)) ?_
  refine tr1 rfl (bU (aA rfl) rfl bG) ?_
  refine tr1 rfl (bF (aA rfl) rfl rfl rfl) ?_
  refine tr1 rfl (aJ (v := .d (.lit (.bool ((decide (x5 < 0)))))) (aA rfl) rfl rfl) ?_
  refine aF ?_
  refine bR rfl (fun c7 => ?_) (fun c7 => ?_)
  ·have h := eP c7 h
   refine aG ?_
   refine aC ?_
   refine tr1 rfl (eT (aA rfl) aAt (zs := [.lit (.int .i64 0), .lit (.int .i64 0)]) rfl rfl rfl rfl (es := [.lit (.int .i64 0), .lit (.int .i64 0)]) rfl) ?_
   refine tr1 rfl (cH (i := 1) rfl rfl rfl rfl rfl Try.sizeOf39 rfl (aA rfl) (Nat.le_of_ble_eq_true rfl) (ds' := (eB (cZ.mk 0 0))) rfl) ?_
   refine tr1 rfl (aJ (v := .d (.lit (.int .i64 3))) (aA rfl) rfl rfl) ?_
   refine aF ?_
   exact bK ⟨rfl, _, [], [.box b1 0 (aR t_0), .box b2 0 (eB (cZ.mk 0 0))], _, .two (.cell 6 39 rfl (i := 1) rfl zK (es := (eB (cZ.mk 0 0))) rfl rfl) (.tmp 7 (v := .d (.lit (.int .i64 3))) rfl), .refl _, .same _, ((cZ.mk 0 0), 3), h, rfl, rfl⟩
  ·have h := eO c7 h
   refine eL ?_
   refine aG ?_
   obtain ⟨x8, h9, h⟩ := dE h
   refine cN (aBa (enc := aW) (k := 8) rfl h9) ?_
   obtain ⟨x10, h11, h⟩ := dE h
   obtain ⟨r12, h13, h⟩ := dE h
   obtain ⟨x14, h15, h⟩ := dE h
   refine eE mix 9 [6] [(35, .d (.lit (.int .i64 r12))), (36, .cp [.lit (.int .i64 x8.Tree.Rounds), .sl 1 (x8.Tree.Slots.map aP), .sl 1 (x8.players.map aP), .mp false (x8.won.map fun p : aB × Int => ((fun a : aB => Value.agg ((aH a).map bH).toArray) p.1, aP p.2))]), (39, .d (.lit (.int .i64 x14)))] ?_ ?_
   ·refine ⟨[(31, 0, .cp [.lit (.int .i64 x8.Tree.Rounds), .sl 1 (x8.Tree.Slots.map aP), .sl 1 (x8.players.map aP), .mp false (x8.won.map fun p : aB × Int => ((fun a : aB => Value.agg ((aH a).map bH).toArray) p.1, aP p.2))]), (32, 1, .d (.sl 1 (r3.2.1.map aP))), (33, 2, .cp [.lit (.int .i64 x10)]), (34, 3, .d (.lit (.int .i64 x10))), (35, 4, .d (.lit (.int .i64 r12))), (36, 5, .cp [.lit (.int .i64 x8.Tree.Rounds), .sl 1 (x8.Tree.Slots.map aP), .sl 1 (x8.players.map aP), .mp false (x8.won.map fun p : aB × Int => ((fun a : aB => Value.agg ((aH a).map bH).toArray) p.1, aP p.2))]), (37, 6, .d (.sl 1 (r3.2.1.map aP))), (38, 7, .cp [.lit (.int .i64 x14)]), (39, 8, .d (.lit (.int .i64 x14)))], ?_, ?_⟩
    · exact ⟨by kernel_rfl, by kernel_rfl, by kernel_rfl, by kernel_rfl, by kernel_rfl, [([], []), ([], []), ([1], []), ([2], []), ([0, 3], []), ([], []), ([], []), ([6], []), ([7], [])], by kernel_rfl, ⟨fun S hS => aL rfl (aU rfl (aE (v := .cp [.lit (.int .i64 x8.Tree.Rounds), .sl 1 (x8.Tree.Slots.map aP), .sl 1 (x8.players.map aP), .mp false (x8.won.map fun p : aB × Int => ((fun a : aB => Value.agg ((aH a).map bH).toArray) p.1, aP p.2))]) (aA rfl) (aM hS rfl) rfl)),
      fun S hS => aL rfl (aU rfl (aE (v := .d (.sl 1 (r3.2.1.map aP))) (aA rfl) (aM hS rfl) rfl)),
      fun S hS => aL rfl (aU rfl (bX (aA rfl) (aM hS rfl) rfl bY.of (cC aP h11))),
      fun S hS => aL rfl (aU rfl (bU (aA rfl) (aM hS rfl) bG)),
      fun S hS => aL rfl (aU rfl (cP (aA rfl) (.func _ _ Try.call50) (ev2 (aM hS rfl) (ev2 (aM hS rfl) evn)) rfl (BVs.refl _ _) (wK _ _ h13) rfl)),
      fun S hS => aL rfl (aU rfl (aE (v := .cp [.lit (.int .i64 x8.Tree.Rounds), .sl 1 (x8.Tree.Slots.map aP), .sl 1 (x8.players.map aP), .mp false (x8.won.map fun p : aB × Int => ((fun a : aB => Value.agg ((aH a).map bH).toArray) p.1, aP p.2))]) (aA rfl) (aM hS rfl) rfl)),
      fun S hS => aL rfl (aU rfl (aE (v := .d (.sl 1 (r3.2.1.map aP))) (aA rfl) (aM hS rfl) rfl)),
      fun S hS => aL rfl (aU rfl (bX (aA rfl) (aM hS rfl) rfl bY.of (cC aP h15))),
      fun S hS => aL rfl (aU rfl (bU (aA rfl) (aM hS rfl) bG)), trivial⟩⟩
    · exact dM (aT rfl (aT rfl (aT rfl (bC ⟨rfl, trivial⟩))))
   ·obtain ⟨r16, h17, h⟩ := dE h
    refine tr1 rfl (cP (aA rfl) (.func _ _ Try.call46) rfl rfl (BVs.refl _ _) (rJ _ _ h17) rfl) ?_
    refine tr1 rfl (eT (aA rfl) aAt (zs := [.lit (.int .i64 0), .lit (.int .i64 0)]) rfl rfl rfl rfl (es := [.lit (.int .i64 r12), .lit (.int .i64 r16)]) rfl) ?_
    refine tr1 rfl (cH (i := 1) rfl rfl rfl rfl rfl Try.sizeOf39 rfl (aA rfl) (Nat.le_of_ble_eq_true rfl) (ds' := (eB (cZ.mk r12 r16))) rfl) ?_
    refine tr1 rfl (aJ (v := .d (.lit (.int .i64 0))) (aA rfl) rfl rfl) ?_
    refine aF ?_
    exact bK ⟨rfl, _, [], [.box b1 0 (aR t_0), .box b2 0 (eB (cZ.mk r12 r16))], _, .two (.cell 6 39 rfl (i := 1) rfl zK (es := (eB (cZ.mk r12 r16))) rfl rfl) (.tmp 7 (v := .d (.lit (.int .i64 0))) rfl), .refl _, .same _, ((cZ.mk r12 r16), 0), h, rfl, rfl⟩

theorem uJ (a_0 : List Int) (b_1 : List Int) {r : Bool} (h : nK a_0 b_1 = some r) : Fn Try.prog 23 [.d (.sl 1 (a_0.map aP)), .d (.sl 1 (b_1.map aP))] (.d (.lit (.bool r))) := by
 unfold nK at h
 refine Fn.of_tr Try.func23 rfl (rs := [.tmp 4]) Try.results23 Try.ntmps23 (Nat.le_of_ble_eq_true rfl) ?_
 refine aG ?_
 refine aC ?_
 refine tr1 rfl (aJ (v := .d (.lit (.bool false))) (aA rfl) rfl rfl) ?_
 refine aF ?_
 refine aG ?_
 refine aG ?_
 refine aC ?_
 refine tr1 rfl (aE (v := .d (.sl 1 (a_0.map aP))) (aA rfl) rfl rfl) ?_
 refine tr1 rfl (eG (aA rfl) rfl bY.of) ?_
 refine tr1 rfl (aE (v := .d (.sl 1 (b_1.map aP))) (aA rfl) rfl rfl) ?_
 refine tr1 rfl (eG (aA rfl) rfl bY.of) ?_
 refine tr1 rfl (bF (aA rfl) rfl rfl rfl) ?_
 refine aF ?_
 refine bR rfl (fun c1 => ?_) (fun c1 => ?_)
 ·have h := aY c1 h
  refine aG ?_
  refine aC ?_
  refine tr1 rfl (aJ (v := .d (.lit (.bool false))) (aA rfl) rfl rfl) ?_
  refine aF ?_
  have h := Option.some.inj h
  subst h
  exact bK ⟨rfl, _, .one _, rfl, rfl⟩
 ·have h := aX c1 h
  refine bL ?_
  refine aG ?_
  refine aG ?_
  refine aC ?_
  refine tr1 rfl (aJ (v := .d (.lit (.int .i64 0))) (aA rfl) rfl rfl) ?_
  refine aF ?_
  refine cE ?_
  refine dN [0, 1] (fun (s2 : Int) => [(5, .d (.lit (.int .i64 s2)))]) (fun (s2 : Int) => []) (fun (k : Nat) (s2 : Int) => jU a_0 b_1 k s2) (fun _ => rfl) (0) h (bD [] rfl rfl (aT rfl (bC ⟨rfl, rfl, trivial⟩))) ?_
  rintro k3 i_0_2 h
  simp only [jU] at h
  refine aG ?_
  refine aG ?_
  refine aC ?_
  refine tr1 rfl (aE (v := .d (.lit (.int .i64 i_0_2))) (aA rfl) rfl rfl) ?_
  refine tr1 rfl (aE (v := .d (.sl 1 (a_0.map aP))) (aA rfl) rfl rfl) ?_
  refine tr1 rfl (eG (aA rfl) rfl bY.of) ?_
  refine tr1 rfl (bF (aA rfl) rfl rfl rfl) ?_
  refine aF ?_
  refine bR rfl (fun c4 => ?_) (fun c4 => ?_)
  ·have h := aY c4 h
   refine bL ?_
   refine aG ?_
   refine cE ?_
   refine aG ?_
   obtain ⟨x5, h6, h⟩ := bind_some h
   obtain ⟨x7, h8, h⟩ := bind_some h
   refine eE mix 8 [0, 1, 5] [(20, .d (.lit (.int .i64 x5))), (24, .d (.lit (.int .i64 x7)))] ?_ ?_
   ·refine ⟨[(17, 0, .d (.sl 1 (a_0.map aP))), (18, 1, .d (.lit (.int .i64 i_0_2))), (19, 2, .cp [.lit (.int .i64 x5)]), (20, 3, .d (.lit (.int .i64 x5))), (21, 4, .d (.sl 1 (b_1.map aP))), (22, 5, .d (.lit (.int .i64 i_0_2))), (23, 6, .cp [.lit (.int .i64 x7)]), (24, 7, .d (.lit (.int .i64 x7)))], ?_, ?_⟩
    · exact ⟨by kernel_rfl, by kernel_rfl, by kernel_rfl, by kernel_rfl, by kernel_rfl, [([], []), ([], []), ([0, 1], []), ([2], []), ([], []), ([], []), ([4, 5], []), ([6], [])], by kernel_rfl, ⟨fun S hS => aL rfl (aU rfl (aE (v := .d (.sl 1 (a_0.map aP))) (aA rfl) (aM hS rfl) rfl)),
      fun S hS => aL rfl (aU rfl (aE (v := .d (.lit (.int .i64 i_0_2))) (aA rfl) (aM hS rfl) rfl)),
      fun S hS => aL rfl (aU rfl (bX (aA rfl) (aM hS rfl) (aM hS rfl) bY.of (cC aP h6))),
      fun S hS => aL rfl (aU rfl (bU (aA rfl) (aM hS rfl) bG)),
      fun S hS => aL rfl (aU rfl (aE (v := .d (.sl 1 (b_1.map aP))) (aA rfl) (aM hS rfl) rfl)),
      fun S hS => aL rfl (aU rfl (aE (v := .d (.lit (.int .i64 i_0_2))) (aA rfl) (aM hS rfl) rfl)),
      fun S hS => aL rfl (aU rfl (bX (aA rfl) (aM hS rfl) (aM hS rfl) bY.of (cC aP h8))),
      fun S hS => aL rfl (aU rfl (bU (aA rfl) (aM hS rfl) bG)), trivial⟩⟩
    · exact dM (aT rfl (aT rfl (bC ⟨rfl, rfl, rfl, trivial⟩)))
   ·refine tr1 rfl (bF (aA rfl) rfl rfl rfl) ?_
    refine aF ?_
    refine bR rfl (fun c9 => ?_) (fun c9 => ?_)
    ·have h := aY c9 h
     refine aG ?_
     refine aC ?_
     refine tr1 rfl (aJ (v := .d (.lit (.bool false))) (aA rfl) rfl rfl) ?_
     refine aF ?_
     have h := Option.some.inj h
     subst h
     exact bK ⟨rfl, _, .one _, rfl, rfl⟩
    ·have h := aX c9 h
     refine eL ?_
     refine aC ?_
     refine tr1 rfl (aE (v := .d (.lit (.int .i64 i_0_2))) (aA rfl) rfl rfl) ?_
     refine tr1 rfl (bI (aA rfl) rfl rfl rfl) ?_
     refine tr1 rfl (aJ (v := .d (.lit (.int .i64 ((w64 (i_0_2 + 1)))))) (aA rfl) rfl rfl) ?_
     refine aF ?_
     exact ⟨(w64 (i_0_2 + 1)), h, bD [] rfl rfl (aT rfl (bC ⟨rfl, rfl, trivial⟩))⟩
  ·have h := aX c4 h
   refine dA ?_
   refine .inl ⟨rfl, ?_⟩
   simp only [oT] at h
   refine aG ?_
   refine aC ?_
   refine tr1 rfl (aJ (v := .d (.lit (.bool true))) (aA rfl) rfl rfl) ?_
   refine aF ?_
   have h := Option.some.inj h
   subst h
   exact bK ⟨rfl, _, .one _, rfl, rfl⟩

theorem zN (a0 : aO) (a1 : List aD) {r : (List bZ) × Int} (h : pU a0 a1 = some r) : Fn Try.prog 30 [.agg (aR a0), .d (.sl 5 (a1.map aK))] ((fun x : (List bZ) × Int => .tup [.d (.sl 4 (x.1.map dG)), .d (.lit (.int .i64 x.2))]) r) := sX (enc := fun x : (List bZ) × Int => .tup [.d (.sl 4 (x.1.map dG)), .d (.lit (.int .i64 x.2))]) (zM a0 a1 (xZ a0 a1 h (fun x => x = r) rfl))

theorem vY (a0 : aO) (a1 : List aD) (a2 : Int) (a3 : Int) {r : (List Int) × Int} (h : nB a0 a1 a2 a3 = some r) : Fn Try.prog 15 [.agg (aR a0), .d (.sl 5 (a1.map aK)), .d (.lit (.int .i64 a2)), .d (.lit (.int .i64 a3))] ((fun x : (List Int) × Int => .tup [.d (.sl 1 (x.1.map aP)), .d (.lit (.int .i64 x.2))]) r) := sX (enc := fun x : (List Int) × Int => .tup [.d (.sl 1 (x.1.map aP)), .d (.lit (.int .i64 x.2))]) (aCa a0 a1 a2 a3 (zQ a0 a1 a2 a3 h (fun x => x = r) rfl))

theorem aAw (a0 : aO) (a1 : List aD) {r : Int × Int} (h : qQ a0 a1 = some r) : Fn Try.prog 34 [.agg (aR a0), .d (.sl 5 (a1.map aK))] ((fun x : Int × Int => .tup [.d (.lit (.int .i64 x.1)), .d (.lit (.int .i64 x.2))]) r) := sX (enc := fun x : Int × Int => .tup [.d (.lit (.int .i64 x.1)), .d (.lit (.int .i64 x.2))]) (aAv a0 a1 (yN a0 a1 h (fun x => x = r) rfl))

theorem sD (a0 : aO) (a1 : List aD) (a2 : Int) {r : cZ × Int} (h : mA a0 a1 a2 = some r) : Fn Try.prog 17 [.agg (aR a0), .d (.sl 5 (a1.map aK)), .d (.lit (.int .i64 a2))] ((fun x : cZ × Int => .tup [.agg (eB x.1), .d (.lit (.int .i64 x.2))]) r) := sX (enc := fun x : cZ × Int => .tup [.agg (eB x.1), .d (.lit (.int .i64 x.2))]) (yB a0 a1 a2 (wA a0 a1 a2 h (fun x => x = r) rfl))

theorem jX {r : Bool} (h : gO = some r) : Fn Try.prog 14 [] (.d (.lit (.bool r))) := by
 unfold gO at h
 refine Fn.of_tr Try.func14 rfl (rs := [.tmp 0]) Try.results14 Try.ntmps14 (Nat.le_of_ble_eq_true rfl) ?_
 refine aG ?_
 refine aC ?_
 refine tr1 rfl (aJ (v := .d (.lit (.bool false))) (aA rfl) rfl rfl) ?_
 refine aF ?_
 refine aG ?_
 refine aC ?_
 obtain ⟨r1, h2, h⟩ := bind_some h
 refine tr1 rfl (iB (aA rfl) (.func _ _ Try.call43) rfl rfl (vB h2)) ?_
 refine tr1 rfl (aE (v := .tup [.agg (aR r1.1), .d (.sl 5 (r1.2.map aK))]) (aA rfl) rfl rfl) ?_
 refine tr1 rfl (bS (aA rfl) rfl rfl) ?_
 refine tr1 rfl (bS (aA rfl) rfl rfl) ?_
 refine bW rfl (eC (zs := [.lit (.int .i64 0), .sl 1 ((([] : List Int)).map aP)]) (aA rfl) Try.zeroValue24 rfl rfl) ?_
 rintro _ ⟨b3, rfl⟩
 refine tr1 rfl (cH (i := 0) rfl rfl rfl rfl rfl Try.sizeOf24 rfl (aA rfl) (Nat.le_of_ble_eq_true rfl) (ds' := (aR r1.1)) rfl) ?_
 refine tr1 rfl (aJ (v := .d (.sl 5 (r1.2.map aK))) (aA rfl) rfl rfl) ?_
 refine aF ?_
 refine aG ?_
 refine aC ?_
 refine tr1 rfl (bO (aA rfl) rfl (i := 0) rfl dY (es := (aR r1.1)) rfl rfl) ?_
 refine tr1 rfl (aE (v := .d (.sl 5 (r1.2.map aK))) (aA rfl) rfl rfl) ?_
 obtain ⟨r4, h5, h⟩ := bind_some h
 refine tr1 rfl (iB (aA rfl) (.func _ _ Try.call30) rfl rfl (zN _ _ h5)) ?_
 refine tr1 rfl (aE (v := .tup [.d (.sl 4 (r4.1.map dG)), .d (.lit (.int .i64 r4.2))]) (aA rfl) rfl rfl) ?_
 refine tr1 rfl (bS (aA rfl) rfl rfl) ?_
 refine tr1 rfl (bS (aA rfl) rfl rfl) ?_
 refine tr1 rfl (aJ (v := .d (.sl 4 (r4.1.map dG))) (aA rfl) rfl rfl) ?_
 refine tr1 rfl (aJ (v := .d (.lit (.int .i64 r4.2))) (aA rfl) rfl rfl) ?_
 refine aF ?_
 refine aG ?_
 refine aC ?_
 refine tr1 rfl (bO (aA rfl) rfl (i := 0) rfl dY (es := (aR r1.1)) rfl rfl) ?_
 refine tr1 rfl (aE (v := .d (.sl 5 (r1.2.map aK))) (aA rfl) rfl rfl) ?_
 obtain ⟨r6, h7, h⟩ := bind_some h
 refine tr1 rfl (iB (aA rfl) (.func _ _ Try.call15) rfl rfl (vY _ _ _ _ h7)) ?_
 refine tr1 rfl (aE (v := .tup [.d (.sl 1 (r6.1.map aP)), .d (.lit (.int .i64 r6.2))]) (aA rfl) rfl rfl) ?_
 refine tr1 rfl (bS (aA rfl) rfl rfl) ?_
 refine tr1 rfl (bS (aA rfl) rfl rfl) ?_
 refine tr1 rfl (aJ (v := .d (.sl 1 (r6.1.map aP))) (aA rfl) rfl rfl) ?_
 refine tr1 rfl (aJ (v := .d (.lit (.int .i64 r6.2))) (aA rfl) rfl rfl) ?_
 refine aF ?_
 refine aG ?_
 refine aC ?_
 refine tr1 rfl (bO (aA rfl) rfl (i := 0) rfl dY (es := (aR r1.1)) rfl rfl) ?_
 refine tr1 rfl (aE (v := .d (.sl 5 (r1.2.map aK))) (aA rfl) rfl rfl) ?_
 obtain ⟨r8, h9, h⟩ := bind_some h
 refine tr1 rfl (cP (aA rfl) (.func _ _ Try.call34) rfl rfl (BVs.refl _ _) (aAw _ _ h9) rfl) ?_
 refine tr1 rfl (aE (v := .tup [.d (.lit (.int .i64 r8.1)), .d (.lit (.int .i64 r8.2))]) (aA rfl) rfl rfl) ?_
 refine tr1 rfl (bS (aA rfl) rfl rfl) ?_
 refine tr1 rfl (bS (aA rfl) rfl rfl) ?_
 refine tr1 rfl (aJ (v := .d (.lit (.int .i64 r8.1))) (aA rfl) rfl rfl) ?_
 refine tr1 rfl (aJ (v := .d (.lit (.int .i64 r8.2))) (aA rfl) rfl rfl) ?_
 refine aF ?_
 refine aG ?_
 refine aC ?_
 refine tr1 rfl (bO (aA rfl) rfl (i := 0) rfl dY (es := (aR r1.1)) rfl rfl) ?_
 refine tr1 rfl (aE (v := .d (.sl 5 (r1.2.map aK))) (aA rfl) rfl rfl) ?_
 obtain ⟨r10, h11, h⟩ := bind_some h
 refine tr1 rfl (iB (aA rfl) (.func _ _ Try.call17) rfl rfl (sD _ _ _ h11)) ?_
 refine tr1 rfl (aE (v := .tup [.agg (eB r10.1), .d (.lit (.int .i64 r10.2))]) (aA rfl) rfl rfl) ?_
 refine tr1 rfl (bS (aA rfl) rfl rfl) ?_
 refine tr1 rfl (bS (aA rfl) rfl rfl) ?_
 refine bW rfl (eC (zs := [.lit (.int .i64 0), .lit (.int .i64 0)]) (aA rfl) Try.zeroValue39 rfl rfl) ?_
 rintro _ ⟨b12, rfl⟩
 refine tr1 rfl (cH (i := 1) rfl rfl rfl rfl rfl Try.sizeOf39 rfl (aA rfl) (Nat.le_of_ble_eq_true rfl) (ds' := (eB r10.1)) rfl) ?_
 refine tr1 rfl (aJ (v := .d (.lit (.int .i64 r10.2))) (aA rfl) rfl rfl) ?_
 refine aF ?_
 refine aG ?_
 refine aC ?_
 refine tr1 rfl (aE (v := .d (.lit (.int .i64 r4.2))) (aA rfl) rfl rfl) ?_
 refine tr1 rfl (bF (aA rfl) rfl rfl rfl) ?_
 refine tr1 rfl (aE (v := .d (.lit (.bool ((decide (r4.2 = 0)))))) (aA rfl) rfl rfl) ?_
 obtain ⟨b13, h14, h⟩ := bind_some h
 refine cA 3 [3, 5, 7, 8, 9, 10] 44 b13 ?_ ?_
 ·refine bE (decide (r4.2 = 0)) (fun c45 => ?_) (fun c45 => ?_)
  ·have h14 := aY c45 h14
   refine aI rfl rfl (aA rfl) rfl c45 (aE (v := .d (.lit (.int .i64 r6.2))) (aA rfl) rfl rfl) ?_
   refine aI rfl rfl (aA rfl) rfl c45 (bF (aA rfl) rfl rfl rfl) ?_
   refine tr1 rfl (bN (v := .d (.lit (.bool ((decide (r6.2 = 0)))))) (aA rfl) rfl c45 rfl rfl) ?_
   have h14 := Option.some.inj h14
   subst h14
   refine aF (bA rfl ⟨rfl, rfl, rfl, rfl, rfl, rfl, trivial⟩ rfl)
  ·have h14 := aX c45 h14
   refine aN rfl rfl (aA rfl) rfl (aA rfl) rfl c45 ?_
   refine aN rfl rfl (aA rfl) rfl (aA rfl) rfl c45 ?_
   refine tr1 rfl (bM (v := .d (.lit (.bool false))) (aA rfl) rfl c45 rfl rfl) ?_
   have h14 := Option.some.inj h14
   subst h14
   refine aF (bA rfl ⟨rfl, rfl, rfl, rfl, rfl, rfl, trivial⟩ rfl)
 ·refine tr1 rfl (aE (v := .d (.lit (.bool b13))) (aA rfl) rfl rfl) ?_
  obtain ⟨b15, h16, h⟩ := bind_some h
  refine cA 3 [3, 5, 7, 9, 10] 48 b15 ?_ ?_
  ·refine bE (b13) (fun c44 => ?_) (fun c44 => ?_)
   ·have h16 := aY c44 h16
    refine aI rfl rfl (aA rfl) rfl c44 (aE (v := .d (.lit (.int .i64 r8.2))) (aA rfl) rfl rfl) ?_
    refine aI rfl rfl (aA rfl) rfl c44 (bF (aA rfl) rfl rfl rfl) ?_
    refine tr1 rfl (bN (v := .d (.lit (.bool ((decide (r8.2 = 0)))))) (aA rfl) rfl c44 rfl rfl) ?_
    have h16 := Option.some.inj h16
    subst h16
    refine aF (bA rfl ⟨rfl, rfl, rfl, rfl, rfl, trivial⟩ rfl)
   ·have h16 := aX c44 h16
    refine aN rfl rfl (aA rfl) rfl (aA rfl) rfl c44 ?_
    refine aN rfl rfl (aA rfl) rfl (aA rfl) rfl c44 ?_
    refine tr1 rfl (bM (v := .d (.lit (.bool false))) (aA rfl) rfl c44 rfl rfl) ?_
    have h16 := Option.some.inj h16
    subst h16
    refine aF (bA rfl ⟨rfl, rfl, rfl, rfl, rfl, trivial⟩ rfl)
  ·refine tr1 rfl (aE (v := .d (.lit (.bool b15))) (aA rfl) rfl rfl) ?_
   obtain ⟨b17, h18, h⟩ := bind_some h
   refine cA 3 [3, 5, 7, 9] 52 b17 ?_ ?_
   ·refine bE (b15) (fun c43 => ?_) (fun c43 => ?_)
    ·have h18 := aY c43 h18
     refine aI rfl rfl (aA rfl) rfl c43 (aE (v := .d (.lit (.int .i64 r10.2))) (aA rfl) rfl rfl) ?_
     refine aI rfl rfl (aA rfl) rfl c43 (bF (aA rfl) rfl rfl rfl) ?_
     refine tr1 rfl (bN (v := .d (.lit (.bool ((decide (r10.2 = 0)))))) (aA rfl) rfl c43 rfl rfl) ?_
     have h18 := Option.some.inj h18
     subst h18
     refine aF (bA rfl ⟨rfl, rfl, rfl, rfl, trivial⟩ rfl)
    ·have h18 := aX c43 h18
     refine aN rfl rfl (aA rfl) rfl (aA rfl) rfl c43 ?_
     refine aN rfl rfl (aA rfl) rfl (aA rfl) rfl c43 ?_
     refine tr1 rfl (bM (v := .d (.lit (.bool false))) (aA rfl) rfl c43 rfl rfl) ?_
     have h18 := Option.some.inj h18
     subst h18
     refine aF (bA rfl ⟨rfl, rfl, rfl, rfl, trivial⟩ rfl)
   ·refine tr1 rfl (aE (v := .d (.lit (.bool b17))) (aA rfl) rfl rfl) ?_
    obtain ⟨b19, h20, h⟩ := bind_some h
    refine cA 4 [3, 5, 7, 9] 57 b19 ?_ ?_
    ·refine bE (b17) (fun c42 => ?_) (fun c42 => ?_)
     ·have h20 := aY c42 h20
      refine aI rfl rfl (aA rfl) rfl c42 (aE (v := .d (.sl 4 (r4.1.map dG))) (aA rfl) rfl rfl) ?_
      refine aI rfl rfl (aA rfl) rfl c42 (eG (aA rfl) rfl aAr.of) ?_
      refine aI rfl rfl (aA rfl) rfl c42 (bF (aA rfl) rfl rfl rfl) ?_
      refine tr1 rfl (bN (v := .d (.lit (.bool ((decide ((r4.1.length : Int) = 7)))))) (aA rfl) rfl c42 rfl rfl) ?_
      have h20 := Option.some.inj h20
      subst h20
      refine aF (bA rfl ⟨rfl, rfl, rfl, rfl, trivial⟩ rfl)
     ·have h20 := aX c42 h20
      refine aN rfl rfl (aA rfl) rfl (aA rfl) rfl c42 ?_
      refine aN rfl rfl (aA rfl) rfl (aA rfl) rfl c42 ?_
      refine aN rfl rfl (aA rfl) rfl (aA rfl) rfl c42 ?_
      refine tr1 rfl (bM (v := .d (.lit (.bool false))) (aA rfl) rfl c42 rfl rfl) ?_
      have h20 := Option.some.inj h20
      subst h20
      refine aF (bA rfl ⟨rfl, rfl, rfl, rfl, trivial⟩ rfl)
    ·refine tr1 rfl (aE (v := .d (.lit (.bool b19))) (aA rfl) rfl rfl) ?_
     obtain ⟨b21, h22, h⟩ := bind_some h
     refine cA 6 [3, 5, 7, 9] 64 b21 ?_ ?_
     ·refine bE (b19) (fun c39 => ?_) (fun c39 => ?_)
      ·have h22 := aY c39 h22
       refine aI rfl rfl (aA rfl) rfl c39 (aE (v := .d (.sl 4 (r4.1.map dG))) (aA rfl) rfl rfl) ?_
       obtain ⟨x40, h41, h22⟩ := bind_some h22
       refine aI rfl rfl (aA rfl) rfl c39 (bX (aA rfl) rfl rfl aAr.of (cC dG h41)) ?_
       refine aI rfl rfl (aA rfl) rfl c39 (jV (aA rfl) rfl aCl (es := (dG x40)) rfl rfl) ?_
       refine aI rfl rfl (aA rfl) rfl c39 (eT (aA rfl) aDw (zs := [.lit (.int .i64 0), .lit (.int .i64 0), .lit (.int .i64 0), .lit (.int .i64 0)]) rfl rfl rfl rfl (es := [.lit (.int .i64 1), .lit (.int .i64 0), .lit (.int .i64 1), .lit (.int .i64 2)]) rfl) ?_
       refine aI rfl rfl (aA rfl) rfl c39 (xU (a := x40) (b := (bZ.mk 1 0 1 2)) (aA rfl) rfl rfl rfl rfl Try.eqGuardType57 aHm) ?_
       refine tr1 rfl (bN (v := .d (.lit (.bool ((decide (x40 = (bZ.mk 1 0 1 2))))))) (aA rfl) rfl c39 rfl rfl) ?_
       have h22 := Option.some.inj h22
       subst h22
       refine aF (bA rfl ⟨rfl, rfl, rfl, rfl, trivial⟩ rfl)
      ·have h22 := aX c39 h22
       refine aN rfl rfl (aA rfl) rfl (aA rfl) rfl c39 ?_
       refine aN rfl rfl (aA rfl) rfl (aA rfl) rfl c39 ?_
       refine aN rfl rfl (aA rfl) rfl (aA rfl) rfl c39 ?_
       refine aN rfl rfl (aA rfl) rfl (aA rfl) rfl c39 ?_
       refine aN rfl rfl (aA rfl) rfl (aA rfl) rfl c39 ?_
       refine tr1 rfl (bM (v := .d (.lit (.bool false))) (aA rfl) rfl c39 rfl rfl) ?_
       have h22 := Option.some.inj h22
       subst h22
       refine aF (bA rfl ⟨rfl, rfl, rfl, rfl, trivial⟩ rfl)
     ·refine tr1 rfl (aE (v := .d (.lit (.bool b21))) (aA rfl) rfl rfl) ?_
      obtain ⟨b23, h24, h⟩ := bind_some h
      refine cA 6 [5, 7, 9] 71 b23 ?_ ?_
      ·refine bE (b21) (fun c36 => ?_) (fun c36 => ?_)
       ·have h24 := aY c36 h24
        refine aI rfl rfl (aA rfl) rfl c36 (aE (v := .d (.sl 4 (r4.1.map dG))) (aA rfl) rfl rfl) ?_
        obtain ⟨x37, h38, h24⟩ := bind_some h24
        refine aI rfl rfl (aA rfl) rfl c36 (bX (aA rfl) rfl rfl aAr.of (cC dG h38)) ?_
        refine aI rfl rfl (aA rfl) rfl c36 (jV (aA rfl) rfl aCl (es := (dG x37)) rfl rfl) ?_
        refine aI rfl rfl (aA rfl) rfl c36 (eT (aA rfl) aDw (zs := [.lit (.int .i64 0), .lit (.int .i64 0), .lit (.int .i64 0), .lit (.int .i64 0)]) rfl rfl rfl rfl (es := [.lit (.int .i64 2), .lit (.int .i64 0), .lit (.int .i64 2), .lit (.int .i64 (-2))]) rfl) ?_
        refine aI rfl rfl (aA rfl) rfl c36 (xU (a := x37) (b := (bZ.mk 2 0 2 (-2))) (aA rfl) rfl rfl rfl rfl Try.eqGuardType57 aHm) ?_
        refine tr1 rfl (bN (v := .d (.lit (.bool ((decide (x37 = (bZ.mk 2 0 2 (-2)))))))) (aA rfl) rfl c36 rfl rfl) ?_
        have h24 := Option.some.inj h24
        subst h24
        refine aF (bA rfl ⟨rfl, rfl, rfl, trivial⟩ rfl)
       ·have h24 := aX c36 h24
        refine aN rfl rfl (aA rfl) rfl (aA rfl) rfl c36 ?_
        refine aN rfl rfl (aA rfl) rfl (aA rfl) rfl c36 ?_
        refine aN rfl rfl (aA rfl) rfl (aA rfl) rfl c36 ?_
        refine aN rfl rfl (aA rfl) rfl (aA rfl) rfl c36 ?_
        refine aN rfl rfl (aA rfl) rfl (aA rfl) rfl c36 ?_
        refine tr1 rfl (bM (v := .d (.lit (.bool false))) (aA rfl) rfl c36 rfl rfl) ?_
        have h24 := Option.some.inj h24
        subst h24
        refine aF (bA rfl ⟨rfl, rfl, rfl, trivial⟩ rfl)
      ·refine tr1 rfl (aE (v := .d (.lit (.bool b23))) (aA rfl) rfl rfl) ?_
       obtain ⟨b25, h26, h⟩ := bind_some h
       refine cA 4 [7, 9] 76 b25 ?_ ?_
       ·refine bE (b23) (fun c33 => ?_) (fun c33 => ?_)
        ·have h26 := aY c33 h26
         refine aI rfl rfl (aA rfl) rfl c33 (aE (v := .d (.sl 1 (r6.1.map aP))) (aA rfl) rfl rfl) ?_
         refine aI rfl rfl (aA rfl) rfl c33 (gD (aA rfl) bY rfl rfl (rows := ([2, 5, 7, 8]).map aP) rfl (dI (f := aP) fun _ => rfl) rfl (by decide)) ?_
         obtain ⟨r34, h35, h26⟩ := bind_some h26
         refine aI rfl rfl (aA rfl) rfl c33 (cP (aA rfl) (.func _ _ Try.call23) rfl rfl (BVs.refl _ _) (uJ _ _ h35) rfl) ?_
         refine tr1 rfl (bN (v := .d (.lit (.bool r34))) (aA rfl) rfl c33 rfl rfl) ?_
         have h26 := Option.some.inj h26
         subst h26
         refine aF (bA rfl ⟨rfl, rfl, trivial⟩ rfl)
        ·have h26 := aX c33 h26
         refine aN rfl rfl (aA rfl) rfl (aA rfl) rfl c33 ?_
         refine aN rfl rfl (aA rfl) rfl (aA rfl) rfl c33 ?_
         refine aN rfl rfl (aA rfl) rfl (aA rfl) rfl c33 ?_
         refine tr1 rfl (bM (v := .d (.lit (.bool false))) (aA rfl) rfl c33 rfl rfl) ?_
         have h26 := Option.some.inj h26
         subst h26
         refine aF (bA rfl ⟨rfl, rfl, trivial⟩ rfl)
       ·refine tr1 rfl (aE (v := .d (.lit (.bool b25))) (aA rfl) rfl rfl) ?_
        obtain ⟨b27, h28, h⟩ := bind_some h
        refine cA 3 [9] 80 b27 ?_ ?_
        ·refine bE (b25) (fun c32 => ?_) (fun c32 => ?_)
         ·have h28 := aY c32 h28
          refine aI rfl rfl (aA rfl) rfl c32 (aE (v := .d (.lit (.int .i64 r8.1))) (aA rfl) rfl rfl) ?_
          refine aI rfl rfl (aA rfl) rfl c32 (bF (aA rfl) rfl rfl rfl) ?_
          refine tr1 rfl (bN (v := .d (.lit (.bool ((decide (r8.1 = 3)))))) (aA rfl) rfl c32 rfl rfl) ?_
          have h28 := Option.some.inj h28
          subst h28
          refine aF (bA rfl ⟨rfl, trivial⟩ rfl)
         ·have h28 := aX c32 h28
          refine aN rfl rfl (aA rfl) rfl (aA rfl) rfl c32 ?_
          refine aN rfl rfl (aA rfl) rfl (aA rfl) rfl c32 ?_
          refine tr1 rfl (bM (v := .d (.lit (.bool false))) (aA rfl) rfl c32 rfl rfl) ?_
          have h28 := Option.some.inj h28
          subst h28
          refine aF (bA rfl ⟨rfl, trivial⟩ rfl)
        ·refine tr1 rfl (aE (v := .d (.lit (.bool b27))) (aA rfl) rfl rfl) ?_
         obtain ⟨b29, h30, h⟩ := bind_some h
         refine cA 4 [] 85 b29 ?_ ?_
         ·refine bE (b27) (fun c31 => ?_) (fun c31 => ?_)
          ·have h30 := aY c31 h30
           refine aI rfl rfl (aA rfl) rfl c31 (bO (aA rfl) rfl (i := 1) rfl zK (es := (eB r10.1)) rfl rfl) ?_
           refine aI rfl rfl (aA rfl) rfl c31 (eT (aA rfl) aAt (zs := [.lit (.int .i64 0), .lit (.int .i64 0)]) rfl rfl rfl rfl (es := [.lit (.int .i64 2), .lit (.int .i64 3)]) rfl) ?_
           refine aI rfl rfl (aA rfl) rfl c31 (xU (a := r10.1) (b := (cZ.mk 2 3)) (aA rfl) rfl rfl rfl rfl Try.eqGuardType39 aLs) ?_
           refine tr1 rfl (bN (v := .d (.lit (.bool ((decide (r10.1 = (cZ.mk 2 3))))))) (aA rfl) rfl c31 rfl rfl) ?_
           have h30 := Option.some.inj h30
           subst h30
           refine aF (bA rfl trivial rfl)
          ·have h30 := aX c31 h30
           refine aN rfl rfl (aA rfl) rfl (aA rfl) rfl c31 ?_
           refine aN rfl rfl (aA rfl) rfl (aA rfl) rfl c31 ?_
           refine aN rfl rfl (aA rfl) rfl (aA rfl) rfl c31 ?_
           refine tr1 rfl (bM (v := .d (.lit (.bool false))) (aA rfl) rfl c31 rfl rfl) ?_
           have h30 := Option.some.inj h30
           subst h30
           refine aF (bA rfl trivial rfl)
         ·refine tr1 rfl (aJ (v := .d (.lit (.bool b29))) (aA rfl) rfl rfl) ?_
          refine aF ?_
          have h := Option.some.inj h
          subst h
          refine cN (cM (cO (l := [0]) ⟨rfl, trivial⟩)) ?_
          exact bK ⟨rfl, _, .one _, rfl, rfl⟩

theorem yS (t_0 : aO) (l_1 : List aD) (slot_2 : Int) (round_3 : Int) (player_4 : Int) {r : (List aD)} {l_1_v : Value} (h : mE t_0 l_1 slot_2 round_3 player_4 = some r) : eS Try.prog 19 [.agg (aR t_0), .d (.lit l_1_v), .d (.lit (.int .i64 slot_2)), .d (.lit (.int .i64 round_3)), .d (.lit (.int .i64 player_4))] [.arr l_1_v 32 5 (l_1.map aK)] (fun r' o' => ∃ w0 : Value, r' = .d (.lit w0) ∧ o' = [.arr w0 32 5 (r.map aK)]) := by
 unfold mE at h
 refine fO Try.func19 rfl (rs := [.tmp 10]) Try.results19 Try.ntmps19 (Nat.le_of_ble_eq_true rfl) ?_
 refine aG ?_
 refine aC ?_
 refine bW rfl (fU (v := .agg (aR t_0)) (aA rfl) rfl rfl rfl) ?_
 rintro _ ⟨b1, rfl⟩
 refine tr1 rfl (kD 32 5 (.inl rfl) (aA rfl)) ?_
 refine aF ?_
 refine aG ?_
 refine aC ?_
 refine tr1 rfl (aE (v := .d (.lit (.int .i64 slot_2))) (aA rfl) rfl rfl) ?_
 refine tr1 rfl (aE (v := .d (.lit (.int .i64 round_3))) (aA rfl) rfl rfl) ?_
 refine tr1 rfl (bI (aA rfl) rfl rfl rfl) ?_
 refine tr1 rfl (uS (aA rfl) rfl Try.runUnderlying3 Try.runUnderlying45) ?_
 obtain ⟨u3, h4, h⟩ := bind_some h
 refine tr1 rfl (vU (aA rfl) rfl rfl (rA h4)) ?_
 refine tr1 rfl (aJ (v := .d (.lit (.int .i64 ((slot_2.fdiv (2 ^ (min (IntKind.u64.wrap (w64 (round_3 + 1))).toNat 64))))))) (aA rfl) rfl rfl) ?_
 refine aF ?_
 refine aG ?_
 refine aG ?_
 refine aC ?_
 refine tr1 rfl (aE (v := .d (.lit (.int .i64 round_3))) (aA rfl) rfl rfl) ?_
 refine tr1 rfl (bF (aA rfl) rfl rfl rfl) ?_
 refine tr1 rfl (aE (v := .d (.lit (.bool ((decide (round_3 = 0)))))) (aA rfl) rfl rfl) ?_
 obtain ⟨b5, h6, h⟩ := bind_some h
 refine cA 18 [1, 3, 4, 11] 38 b5 ?_ ?_
 ·refine bE (decide (round_3 = 0)) (fun c32 => ?_) (fun c32 => ?_)
  ·have h6 := aY c32 h6
   refine aI rfl rfl (aA rfl) rfl c32 (aS (aA rfl) rfl dO) ?_
   refine aI rfl rfl (aA rfl) rfl c32 (aV (aA rfl) rfl (i := 1) rfl rfl dD) ?_
   refine aI rfl rfl (aA rfl) rfl c32 (aE (v := .d (.lit (.int .i64 ((slot_2.fdiv (2 ^ (min (IntKind.u64.wrap (w64 (round_3 + 1))).toNat 64))))))) (aA rfl) rfl rfl) ?_
   refine aI rfl rfl (aA rfl) rfl c32 (bI (aA rfl) rfl rfl rfl) ?_
   obtain ⟨x33, h34, h6⟩ := bind_some h6
   refine aI rfl rfl (aA rfl) rfl c32 (bX (aA rfl) rfl rfl bY.of (cC aP h34)) ?_
   refine aI rfl rfl (aA rfl) rfl c32 (bU (aA rfl) rfl bG) ?_
   refine aI rfl rfl (aA rfl) rfl c32 (bF (aA rfl) rfl rfl rfl) ?_
   refine aI rfl rfl (aA rfl) rfl c32 (aE (v := .d (.lit (.bool ((decide (x33 = (-1))))))) (aA rfl) rfl rfl) ?_
   obtain ⟨b35, h36, h6⟩ := bind_some h6
   refine cA 9 [1, 3, 4, 11, 20] 37 b35 ?_ ?_
   ·refine bE (decide (x33 = (-1))) (fun c37 => ?_) (fun c37 => ?_)
    ·have h36 := aY c37 h36
     refine aN rfl rfl (aA rfl) rfl (aA rfl) rfl c37 ?_
     refine aN rfl rfl (aA rfl) rfl (aA rfl) rfl c37 ?_
     refine aN rfl rfl (aA rfl) rfl (aA rfl) rfl c37 ?_
     refine aN rfl rfl (aA rfl) rfl (aA rfl) rfl c37 ?_
     refine aN rfl rfl (aA rfl) rfl (aA rfl) rfl c37 ?_
     refine aN rfl rfl (aA rfl) rfl (aA rfl) rfl c37 ?_
     refine aN rfl rfl (aA rfl) rfl (aA rfl) rfl c37 ?_
     refine aN rfl rfl (aA rfl) rfl (aA rfl) rfl c37 ?_
     refine aI rfl rfl (aA rfl) rfl c32 (bN (v := .d (.lit (.bool true))) (aA rfl) rfl c37 rfl rfl) ?_
     have h36 := Option.some.inj h36
     subst h36
     refine aF (bA rfl ⟨rfl, rfl, rfl, rfl, rfl, trivial⟩ rfl)
    ·have h36 := aX c37 h36
     refine aI rfl rfl (aA rfl) rfl c37 (aS (aA rfl) rfl dO) ?_
     refine aI rfl rfl (aA rfl) rfl c37 (aV (aA rfl) rfl (i := 1) rfl rfl dD) ?_
     refine aI rfl rfl (aA rfl) rfl c37 (aE (v := .d (.lit (.int .i64 ((slot_2.fdiv (2 ^ (min (IntKind.u64.wrap (w64 (round_3 + 1))).toNat 64))))))) (aA rfl) rfl rfl) ?_
     refine aI rfl rfl (aA rfl) rfl c37 (bI (aA rfl) rfl rfl rfl) ?_
     refine aI rfl rfl (aA rfl) rfl c37 (bI (aA rfl) rfl rfl rfl) ?_
     obtain ⟨x38, h39, h36⟩ := bind_some h36
     refine aI rfl rfl (aA rfl) rfl c37 (bX (aA rfl) rfl rfl bY.of (cC aP h39)) ?_
     refine aI rfl rfl (aA rfl) rfl c37 (bU (aA rfl) rfl bG) ?_
     refine aI rfl rfl (aA rfl) rfl c37 (bF (aA rfl) rfl rfl rfl) ?_
     refine aI rfl rfl (aA rfl) rfl c32 (bM (v := .d (.lit (.bool ((decide (x38 = (-1))))))) (aA rfl) rfl c37 rfl rfl) ?_
     have h36 := Option.some.inj h36
     subst h36
     refine aF (bA rfl ⟨rfl, rfl, rfl, rfl, rfl, trivial⟩ rfl)
   ·refine tr1 rfl (bN (v := .d (.lit (.bool b35))) (aA rfl) rfl c32 rfl rfl) ?_
    have h6 := Option.some.inj h6
    subst h6
    refine aF (bA rfl ⟨rfl, rfl, rfl, rfl, trivial⟩ rfl)
  ·have h6 := aX c32 h6
   refine aN rfl rfl (aA rfl) rfl (aA rfl) rfl c32 ?_
   refine aN rfl rfl (aA rfl) rfl (aA rfl) rfl c32 ?_
   refine aN rfl rfl (aA rfl) rfl (aA rfl) rfl c32 ?_
   refine aN rfl rfl (aA rfl) rfl (aA rfl) rfl c32 ?_
   refine aN rfl rfl (aA rfl) rfl (aA rfl) rfl c32 ?_
   refine aN rfl rfl (aA rfl) rfl (aA rfl) rfl c32 ?_
   refine aN rfl rfl (aA rfl) rfl (aA rfl) rfl c32 ?_
   refine aN rfl rfl (aA rfl) rfl (aA rfl) rfl c32 ?_
   refine cY rfl rfl (aA rfl) rfl (aA rfl) rfl ?_
   refine cY rfl rfl (aA rfl) rfl (aA rfl) rfl ?_
   refine cY rfl rfl (aA rfl) rfl (aA rfl) rfl ?_
   refine cY rfl rfl (aA rfl) rfl (aA rfl) rfl ?_
   refine cY rfl rfl (aA rfl) rfl (aA rfl) rfl ?_
   refine cY rfl rfl (aA rfl) rfl (aA rfl) rfl ?_
   refine cY rfl rfl (aA rfl) rfl (aA rfl) rfl ?_
   refine cY rfl rfl (aA rfl) rfl (aA rfl) rfl ?_
   refine aN rfl rfl (aA rfl) rfl (aA rfl) rfl c32 ?_
   refine tr1 rfl (bM (v := .d (.lit (.bool false))) (aA rfl) rfl c32 rfl rfl) ?_
   have h6 := Option.some.inj h6
   subst h6
   refine aF (bA rfl ⟨rfl, rfl, rfl, rfl, trivial⟩ rfl)
 ·refine aF ?_
  refine bR rfl (fun c7 => ?_) (fun c7 => ?_)
  ·have h := aY c7 h
   refine aG ?_
   refine aC ?_
   refine tr1 rfl (aE (v := .d (.lit l_1_v)) (aA rfl) rfl rfl) ?_
   refine tr1 rfl (aJ (v := .d (.lit l_1_v)) (aA rfl) rfl rfl) ?_
   refine aF ?_
   have h := Option.some.inj h
   subst h
   exact bK ⟨rfl, _, [.arr l_1_v 32 5 (l_1.map aK)], [.box b1 0 (aR t_0), .arr (.slice none 0 0) 32 5 (([] : List aD).map aK)], _, .one (.tmp 10 (v := .d (.lit l_1_v)) rfl), .refl _, .same _, l_1_v, rfl, rfl⟩
  ·have h := aX c7 h
   refine bL ?_
   refine aG ?_
   refine aG ?_
   refine aC ?_
   refine tr1 rfl (aJ (v := .d (.lit (.int .i64 0))) (aA rfl) rfl rfl) ?_
   refine aF ?_
   refine cE ?_
   refine dN [1, 3, 4, 11] (fun (s8 : Int) => [(12, .d (.lit (.int .i64 s8)))]) (fun (s8 : Int) => [.arr l_1_v 32 5 (l_1.map aK)]) (fun (k : Nat) (s8 : Int) => fY round_3 player_4 (slot_2.fdiv (2 ^ (min (IntKind.u64.wrap (w64 (round_3 + 1))).toNat 64))) l_1 k s8) (fun _ => rfl) (0) h (bD [0] rfl rfl (aT rfl (bC ⟨rfl, rfl, rfl, rfl, trivial⟩))) ?_
   rintro k9 i_0_8 h
   simp only [fY] at h
   refine aG ?_
   refine aG ?_
   refine aC ?_
   refine tr1 rfl (aE (v := .d (.lit (.int .i64 i_0_8))) (aA rfl) rfl rfl) ?_
   refine tr1 rfl (aE (v := .d (.lit l_1_v)) (aA rfl) rfl rfl) ?_
   refine tr1 rfl (mX (m := 0) (aA rfl) rfl rfl eN.of) ?_
   refine tr1 rfl (bF (aA rfl) rfl rfl rfl) ?_
   refine aF ?_
   refine bR rfl (fun c10 => ?_) (fun c10 => ?_)
   ·have h := aY c10 h
    refine bL ?_
    refine aG ?_
    refine cE ?_
    refine aG ?_
    refine aC ?_
    refine tr1 rfl (aE (v := .d (.lit l_1_v)) (aA rfl) rfl rfl) ?_
    refine tr1 rfl (aE (v := .d (.lit (.int .i64 i_0_8))) (aA rfl) rfl rfl) ?_
    obtain ⟨x11, h12, h⟩ := bind_some h
    refine tr1 rfl (fJ (m := 0) (aA rfl) rfl rfl rfl eN.of (cC aK h12)) ?_
    refine tr1 rfl (sK (aA rfl) rfl lU) ?_
    refine tr1 rfl (jC (aA rfl) rfl (m := 0) rfl (nE aK h12) rfl bG) ?_
    refine tr1 rfl (bF (aA rfl) rfl rfl rfl) ?_
    refine tr1 rfl (aE (v := .d (.lit (.bool ((!decide (x11.Kind = 5)))))) (aA rfl) rfl rfl) ?_
    obtain ⟨b13, h14, h⟩ := bind_some h
    refine cA 8 [1, 3, 4, 11, 12] 60 b13 ?_ ?_
    ·refine bE (!decide (x11.Kind = 5)) (fun c26 => ?_) (fun c26 => ?_)
     ·have h14 := aY c26 h14
      refine aI rfl rfl (aA rfl) rfl c26 (aE (v := .d (.lit l_1_v)) (aA rfl) rfl rfl) ?_
      refine aI rfl rfl (aA rfl) rfl c26 (aE (v := .d (.lit (.int .i64 i_0_8))) (aA rfl) rfl rfl) ?_
      obtain ⟨x27, h28, h14⟩ := bind_some h14
      refine aI rfl rfl (aA rfl) rfl c26 (fJ (m := 0) (aA rfl) rfl rfl rfl eN.of (cC aK h28)) ?_
      refine aI rfl rfl (aA rfl) rfl c26 (sK (aA rfl) rfl kL) ?_
      refine aI rfl rfl (aA rfl) rfl c26 (jC (aA rfl) rfl (m := 0) rfl (nE aK h28) rfl bG) ?_
      refine aI rfl rfl (aA rfl) rfl c26 (aE (v := .d (.lit (.int .i64 round_3))) (aA rfl) rfl rfl) ?_
      refine aI rfl rfl (aA rfl) rfl c26 (bF (aA rfl) rfl rfl rfl) ?_
      refine tr1 rfl (bN (v := .d (.lit (.bool ((decide (x27.Round = round_3)))))) (aA rfl) rfl c26 rfl rfl) ?_
      have h14 := Option.some.inj h14
      subst h14
      refine aF (bA rfl ⟨rfl, rfl, rfl, rfl, rfl, trivial⟩ rfl)
     ·have h14 := aX c26 h14
      refine aN rfl rfl (aA rfl) rfl (aA rfl) rfl c26 ?_
      refine aN rfl rfl (aA rfl) rfl (aA rfl) rfl c26 ?_
      refine aN rfl rfl (aA rfl) rfl (aA rfl) rfl c26 ?_
      refine aN rfl rfl (aA rfl) rfl (aA rfl) rfl c26 ?_
      refine aN rfl rfl (aA rfl) rfl (aA rfl) rfl c26 ?_
      refine aN rfl rfl (aA rfl) rfl (aA rfl) rfl c26 ?_
      refine aN rfl rfl (aA rfl) rfl (aA rfl) rfl c26 ?_
      refine tr1 rfl (bM (v := .d (.lit (.bool false))) (aA rfl) rfl c26 rfl rfl) ?_
      have h14 := Option.some.inj h14
      subst h14
      refine aF (bA rfl ⟨rfl, rfl, rfl, rfl, rfl, trivial⟩ rfl)
    ·refine tr1 rfl (aE (v := .d (.lit (.bool b13))) (aA rfl) rfl rfl) ?_
     obtain ⟨b15, h16, h⟩ := bind_some h
     refine cA 8 [1, 3, 4, 11, 12] 69 b15 ?_ ?_
     ·refine bE (b13) (fun c23 => ?_) (fun c23 => ?_)
      ·have h16 := aY c23 h16
       refine aI rfl rfl (aA rfl) rfl c23 (aE (v := .d (.lit l_1_v)) (aA rfl) rfl rfl) ?_
       refine aI rfl rfl (aA rfl) rfl c23 (aE (v := .d (.lit (.int .i64 i_0_8))) (aA rfl) rfl rfl) ?_
       obtain ⟨x24, h25, h16⟩ := bind_some h16
       refine aI rfl rfl (aA rfl) rfl c23 (fJ (m := 0) (aA rfl) rfl rfl rfl eN.of (cC aK h25)) ?_
       refine aI rfl rfl (aA rfl) rfl c23 (sK (aA rfl) rfl gY) ?_
       refine aI rfl rfl (aA rfl) rfl c23 (jC (aA rfl) rfl (m := 0) rfl (nE aK h25) rfl bG) ?_
       refine aI rfl rfl (aA rfl) rfl c23 (aE (v := .d (.lit (.int .i64 ((slot_2.fdiv (2 ^ (min (IntKind.u64.wrap (w64 (round_3 + 1))).toNat 64))))))) (aA rfl) rfl rfl) ?_
       refine aI rfl rfl (aA rfl) rfl c23 (bF (aA rfl) rfl rfl rfl) ?_
       refine tr1 rfl (bN (v := .d (.lit (.bool ((decide (x24.Place = (slot_2.fdiv (2 ^ (min (IntKind.u64.wrap (w64 (round_3 + 1))).toNat 64))))))))) (aA rfl) rfl c23 rfl rfl) ?_
       have h16 := Option.some.inj h16
       subst h16
       refine aF (bA rfl ⟨rfl, rfl, rfl, rfl, rfl, trivial⟩ rfl)
      ·have h16 := aX c23 h16
       refine aN rfl rfl (aA rfl) rfl (aA rfl) rfl c23 ?_
       refine aN rfl rfl (aA rfl) rfl (aA rfl) rfl c23 ?_
       refine aN rfl rfl (aA rfl) rfl (aA rfl) rfl c23 ?_
       refine aN rfl rfl (aA rfl) rfl (aA rfl) rfl c23 ?_
       refine aN rfl rfl (aA rfl) rfl (aA rfl) rfl c23 ?_
       refine aN rfl rfl (aA rfl) rfl (aA rfl) rfl c23 ?_
       refine aN rfl rfl (aA rfl) rfl (aA rfl) rfl c23 ?_
       refine tr1 rfl (bM (v := .d (.lit (.bool false))) (aA rfl) rfl c23 rfl rfl) ?_
       have h16 := Option.some.inj h16
       subst h16
       refine aF (bA rfl ⟨rfl, rfl, rfl, rfl, rfl, trivial⟩ rfl)
     ·refine tr1 rfl (aE (v := .d (.lit (.bool b15))) (aA rfl) rfl rfl) ?_
      obtain ⟨b17, h18, h⟩ := bind_some h
      refine cA 8 [1, 3, 4, 11, 12] 78 b17 ?_ ?_
      ·refine bE (b15) (fun c20 => ?_) (fun c20 => ?_)
       ·have h18 := aY c20 h18
        refine aI rfl rfl (aA rfl) rfl c20 (aE (v := .d (.lit l_1_v)) (aA rfl) rfl rfl) ?_
        refine aI rfl rfl (aA rfl) rfl c20 (aE (v := .d (.lit (.int .i64 i_0_8))) (aA rfl) rfl rfl) ?_
        obtain ⟨x21, h22, h18⟩ := bind_some h18
        refine aI rfl rfl (aA rfl) rfl c20 (fJ (m := 0) (aA rfl) rfl rfl rfl eN.of (cC aK h22)) ?_
        refine aI rfl rfl (aA rfl) rfl c20 (sK (aA rfl) rfl lD) ?_
        refine aI rfl rfl (aA rfl) rfl c20 (jC (aA rfl) rfl (m := 0) rfl (nE aK h22) rfl bG) ?_
        refine aI rfl rfl (aA rfl) rfl c20 (aE (v := .d (.lit (.int .i64 player_4))) (aA rfl) rfl rfl) ?_
        refine aI rfl rfl (aA rfl) rfl c20 (bF (aA rfl) rfl rfl rfl) ?_
        refine tr1 rfl (bN (v := .d (.lit (.bool ((decide (x21.Player = player_4)))))) (aA rfl) rfl c20 rfl rfl) ?_
        have h18 := Option.some.inj h18
        subst h18
        refine aF (bA rfl ⟨rfl, rfl, rfl, rfl, rfl, trivial⟩ rfl)
       ·have h18 := aX c20 h18
        refine aN rfl rfl (aA rfl) rfl (aA rfl) rfl c20 ?_
        refine aN rfl rfl (aA rfl) rfl (aA rfl) rfl c20 ?_
        refine aN rfl rfl (aA rfl) rfl (aA rfl) rfl c20 ?_
        refine aN rfl rfl (aA rfl) rfl (aA rfl) rfl c20 ?_
        refine aN rfl rfl (aA rfl) rfl (aA rfl) rfl c20 ?_
        refine aN rfl rfl (aA rfl) rfl (aA rfl) rfl c20 ?_
        refine aN rfl rfl (aA rfl) rfl (aA rfl) rfl c20 ?_
        refine tr1 rfl (bM (v := .d (.lit (.bool false))) (aA rfl) rfl c20 rfl rfl) ?_
        have h18 := Option.some.inj h18
        subst h18
        refine aF (bA rfl ⟨rfl, rfl, rfl, rfl, rfl, trivial⟩ rfl)
      ·refine aF ?_
       refine bR rfl (fun c19 => ?_) (fun c19 => ?_)
       ·have h := aY c19 h
        refine aG ?_
        refine aC ?_
        refine tr1 rfl (aE (v := .d (.lit l_1_v)) (aA rfl) rfl rfl) ?_
        refine tr1 rfl (aJ (v := .d (.lit l_1_v)) (aA rfl) rfl rfl) ?_
        refine aF ?_
        have h := Option.some.inj h
        subst h
        exact bK ⟨rfl, _, [.arr l_1_v 32 5 (l_1.map aK)], [], _, .one (.tmp 10 (v := .d (.lit l_1_v)) rfl), .refl _, .same _, l_1_v, rfl, rfl⟩
       ·have h := aX c19 h
        refine eL ?_
        refine aC ?_
        refine tr1 rfl (aE (v := .d (.lit (.int .i64 i_0_8))) (aA rfl) rfl rfl) ?_
        refine tr1 rfl (bI (aA rfl) rfl rfl rfl) ?_
        refine tr1 rfl (aJ (v := .d (.lit (.int .i64 ((w64 (i_0_8 + 1)))))) (aA rfl) rfl rfl) ?_
        refine aF ?_
        exact ⟨(w64 (i_0_8 + 1)), h, bD [0] rfl rfl (aT rfl (bC ⟨rfl, rfl, rfl, rfl, trivial⟩))⟩
   ·have h := aX c10 h
    refine dA ?_
    refine .inl ⟨rfl, ?_⟩
    simp only [oQ] at h
    refine aG ?_
    refine aC ?_
    refine tr1 rfl (aE (v := .d (.lit l_1_v)) (aA rfl) rfl rfl) ?_
    refine tr1 rfl (aE (v := .d (.lit (.int .i64 round_3))) (aA rfl) rfl rfl) ?_
    refine tr1 rfl (aE (v := .d (.lit (.int .i64 ((slot_2.fdiv (2 ^ (min (IntKind.u64.wrap (w64 (round_3 + 1))).toNat 64))))))) (aA rfl) rfl rfl) ?_
    refine tr1 rfl (aE (v := .d (.lit (.int .i64 player_4))) (aA rfl) rfl rfl) ?_
    refine tr1 rfl (eT (aA rfl) xM (zs := [.lit (.int .i64 0), .lit (.int .i64 0), .lit (.int .i64 0), .lit (.int .i64 0), .lit (.int .i64 0)]) rfl rfl rfl rfl (es := [.lit (.int .i64 1), .lit (.int .i64 round_3), .lit (.int .i64 ((slot_2.fdiv (2 ^ (min (IntKind.u64.wrap (w64 (round_3 + 1))).toNat 64))))), .lit (.int .i64 player_4), .lit (.int .i64 0)]) rfl) ?_
    refine tr1 rfl (gD (aA rfl) eN rfl rfl (rows := ([(aD.mk 1 round_3 (slot_2.fdiv (2 ^ (min (IntKind.u64.wrap (w64 (round_3 + 1))).toNat 64))) player_4 0)]).map aK) rfl (dI (f := aK) fun _ => rfl) rfl (by decide)) ?_
    obtain ⟨x29, h30, h⟩ := bind_some h
    refine bW rfl (fN (i := 0) (aA rfl) eN rfl rfl rfl (fun _ => rfl) h30 rfl) ?_
    rintro _ ⟨v31, rfl⟩
    refine tr1 rfl (aJ (v := .d (.lit v31)) (aA rfl) rfl rfl) ?_
    refine aF ?_
    have h := Option.some.inj h
    subst h
    exact bK ⟨rfl, _, [.arr v31 32 5 (x29.map aK)], [], _, .one (.tmp 10 (v := .d (.lit v31)) rfl), .refl _, .same _, v31, rfl, rfl⟩

theorem zO (t_0 : aO) (l_1 : List aD) {Q : Int → Prop} (h : mZ t_0 l_1 Q) : eS Try.prog 16 [.agg (aR t_0), .d (.sl 5 (l_1.map aK))] [] (fun r' o' => ∃ (r : Int), Q r ∧ r' = .d (.lit (.int .i64 r)) ∧ o' = []) := by
 unfold mZ at h
 refine fO Try.func16 rfl (rs := [.tmp 4]) Try.results16 Try.ntmps16 (Nat.le_of_ble_eq_true rfl) ?_
 refine aG ?_
 refine aC ?_
 refine bW rfl (fU (v := .agg (aR t_0)) (aA rfl) rfl rfl rfl) ?_
 rintro _ ⟨b1, rfl⟩
 refine tr1 rfl (aJ (v := .d (.lit (.int .i64 0))) (aA rfl) rfl rfl) ?_
 refine aF ?_
 refine aG ?_
 refine aC ?_
 refine tr1 rfl (bO (aA rfl) rfl (i := 0) rfl dY (es := (aR t_0)) rfl rfl) ?_
 refine tr1 rfl (aE (v := .d (.sl 5 (l_1.map aK))) (aA rfl) rfl rfl) ?_
 refine bW rfl (nH (aA rfl) (.func _ _ Try.call48) rfl rfl (mC _ _ h)) ?_
 rintro _ ⟨_, _, ⟨r2, h, rfl, rfl⟩, rfl⟩
 refine tr1 rfl (aE (v := .tup [cL aW r2.1, .d (.lit (.int .i64 r2.2))]) (aA rfl) rfl rfl) ?_
 refine tr1 rfl (bS (aA rfl) rfl rfl) ?_
 refine tr1 rfl (bS (aA rfl) rfl rfl) ?_
 refine tr1 rfl (aJ (v := cL aW r2.1) (aA rfl) rfl rfl) ?_
 refine tr1 rfl (aJ (v := .d (.lit (.int .i64 r2.2))) (aA rfl) rfl rfl) ?_
 refine aF ?_
 refine aG ?_
 refine aC ?_
 refine tr1 rfl (aE (v := .d (.lit (.int .i64 r2.2))) (aA rfl) rfl rfl) ?_
 refine tr1 rfl (aJ (v := .d (.lit (.int .i64 r2.2))) (aA rfl) rfl rfl) ?_
 refine aF ?_
 exact bK ⟨rfl, _, [], [.box b1 0 (aR t_0)], _, .one (.tmp 4 (v := .d (.lit (.int .i64 r2.2))) rfl), .refl _, .same _, r2.2, h, rfl, rfl⟩

theorem zP (a0 : aO) (a1 : List aD) {r : Int} (h : nP a0 a1 = some r) : Fn Try.prog 16 [.agg (aR a0), .d (.sl 5 (a1.map aK))] ((fun x : Int => .d (.lit (.int .i64 x))) r) := sX (enc := fun x : Int => .d (.lit (.int .i64 x))) (zO a0 a1 (yA a0 a1 h (fun x => x = r) rfl))

theorem tL (t_0 : aO) (l_1 : List aD) (x_2 : dX) {r : Bool} (h : kG t_0 l_1 x_2 = some r) : Fn Try.prog 4 [.agg (aR t_0), .d (.sl 5 (l_1.map aK)), .agg (gQ x_2)] (.d (.lit (.bool r))) := by
 unfold kG at h
 refine Fn.of_tr Try.func4 rfl (rs := [.tmp 6]) Try.results4 Try.ntmps4 (Nat.le_of_ble_eq_true rfl) ?_
 refine aG ?_
 refine aC ?_
 refine bW rfl (fU (v := .agg (aR t_0)) (aA rfl) rfl rfl rfl) ?_
 rintro _ ⟨b1, rfl⟩
 refine bW rfl (fU (v := .agg (gQ x_2)) (aA rfl) rfl rfl rfl) ?_
 rintro _ ⟨b2, rfl⟩
 refine tr1 rfl (aJ (v := .d (.lit (.bool false))) (aA rfl) rfl rfl) ?_
 refine aF ?_
 refine aG ?_
 refine aG ?_
 refine aC ?_
 refine tr1 rfl (bO (aA rfl) rfl (i := 0) rfl dY (es := (aR t_0)) rfl rfl) ?_
 refine tr1 rfl (aE (v := .d (.sl 5 (l_1.map aK))) (aA rfl) rfl rfl) ?_
 obtain ⟨r3, h4, h⟩ := bind_some h
 refine tr1 rfl (cP (aA rfl) (.func _ _ Try.call12) rfl rfl (BVs.refl _ _) (wM _ _ h4) rfl) ?_
 refine tr1 rfl (gL (aA rfl) rfl) ?_
 refine tr1 rfl (aE (v := .d (.lit (.bool (!r3)))) (aA rfl) rfl rfl) ?_
 obtain ⟨b5, h6, h⟩ := bind_some h
 refine cA 4 [1, 3, 5] 27 b5 ?_ ?_
 ·refine bE (!r3) (fun c87 => ?_) (fun c87 => ?_)
  ·have h6 := aY c87 h6
   refine aN rfl rfl (aA rfl) rfl (aA rfl) rfl c87 ?_
   refine aN rfl rfl (aA rfl) rfl (aA rfl) rfl c87 ?_
   refine aN rfl rfl (aA rfl) rfl (aA rfl) rfl c87 ?_
   refine tr1 rfl (bN (v := .d (.lit (.bool true))) (aA rfl) rfl c87 rfl rfl) ?_
   have h6 := Option.some.inj h6
   subst h6
   refine aF (bA rfl ⟨rfl, rfl, rfl, trivial⟩ rfl)
  ·have h6 := aX c87 h6
   refine aI rfl rfl (aA rfl) rfl c87 (aE (v := .d (.sl 5 (l_1.map aK))) (aA rfl) rfl rfl) ?_
   refine aI rfl rfl (aA rfl) rfl c87 (eG (aA rfl) rfl eN.of) ?_
   refine aI rfl rfl (aA rfl) rfl c87 (bF (aA rfl) rfl rfl rfl) ?_
   refine tr1 rfl (bM (v := .d (.lit (.bool ((decide (50 < (l_1.length : Int))))))) (aA rfl) rfl c87 rfl rfl) ?_
   have h6 := Option.some.inj h6
   subst h6
   refine aF (bA rfl ⟨rfl, rfl, rfl, trivial⟩ rfl)
 ·refine tr1 rfl (aE (v := .d (.lit (.bool b5))) (aA rfl) rfl rfl) ?_
  obtain ⟨b7, h8, h⟩ := bind_some h
  refine cA 4 [1, 3, 5] 32 b7 ?_ ?_
  ·refine bE (b5) (fun c86 => ?_) (fun c86 => ?_)
   ·have h8 := aY c86 h8
    refine aN rfl rfl (aA rfl) rfl (aA rfl) rfl c86 ?_
    refine aN rfl rfl (aA rfl) rfl (aA rfl) rfl c86 ?_
    refine aN rfl rfl (aA rfl) rfl (aA rfl) rfl c86 ?_
    refine tr1 rfl (bN (v := .d (.lit (.bool true))) (aA rfl) rfl c86 rfl rfl) ?_
    have h8 := Option.some.inj h8
    subst h8
    refine aF (bA rfl ⟨rfl, rfl, rfl, trivial⟩ rfl)
   ·have h8 := aX c86 h8
    refine aI rfl rfl (aA rfl) rfl c86 (aS (aA rfl) rfl qR) ?_
    refine aI rfl rfl (aA rfl) rfl c86 (aV (aA rfl) rfl (i := 1) rfl rfl bG) ?_
    refine aI rfl rfl (aA rfl) rfl c86 (bF (aA rfl) rfl rfl rfl) ?_
    refine tr1 rfl (bM (v := .d (.lit (.bool ((decide (x_2.A < 0)))))) (aA rfl) rfl c86 rfl rfl) ?_
    have h8 := Option.some.inj h8
    subst h8
    refine aF (bA rfl ⟨rfl, rfl, rfl, trivial⟩ rfl)
  ·refine tr1 rfl (aE (v := .d (.lit (.bool b7))) (aA rfl) rfl rfl) ?_
   obtain ⟨b9, h10, h⟩ := bind_some h
   refine cA 4 [1, 3, 5] 37 b9 ?_ ?_
   ·refine bE (b7) (fun c85 => ?_) (fun c85 => ?_)
    ·have h10 := aY c85 h10
     refine aN rfl rfl (aA rfl) rfl (aA rfl) rfl c85 ?_
     refine aN rfl rfl (aA rfl) rfl (aA rfl) rfl c85 ?_
     refine aN rfl rfl (aA rfl) rfl (aA rfl) rfl c85 ?_
     refine tr1 rfl (bN (v := .d (.lit (.bool true))) (aA rfl) rfl c85 rfl rfl) ?_
     have h10 := Option.some.inj h10
     subst h10
     refine aF (bA rfl ⟨rfl, rfl, rfl, trivial⟩ rfl)
    ·have h10 := aX c85 h10
     refine aI rfl rfl (aA rfl) rfl c85 (aS (aA rfl) rfl qR) ?_
     refine aI rfl rfl (aA rfl) rfl c85 (aV (aA rfl) rfl (i := 1) rfl rfl bG) ?_
     refine aI rfl rfl (aA rfl) rfl c85 (bF (aA rfl) rfl rfl rfl) ?_
     refine tr1 rfl (bM (v := .d (.lit (.bool ((decide (999 < x_2.A)))))) (aA rfl) rfl c85 rfl rfl) ?_
     have h10 := Option.some.inj h10
     subst h10
     refine aF (bA rfl ⟨rfl, rfl, rfl, trivial⟩ rfl)
   ·refine aF ?_
    refine bR rfl (fun c11 => ?_) (fun c11 => ?_)
    ·have h := aY c11 h
     refine aG ?_
     refine aC ?_
     obtain ⟨r12, h13, h⟩ := bind_some h
     refine tr1 rfl (cP (aA rfl) (.func _ _ Try.call14) rfl rfl (BVs.refl _ _) (jX h13) rfl) ?_
     refine tr1 rfl (aJ (v := .d (.lit (.bool r12))) (aA rfl) rfl rfl) ?_
     refine aF ?_
     have h := Option.some.inj h
     subst h
     refine cN (cM (cO (l := [6]) ⟨rfl, trivial⟩)) ?_
     exact bK ⟨rfl, _, .one _, rfl, rfl⟩
    ·have h := aX c11 h
     refine bL ?_
     refine aG ?_
     refine aC ?_
     refine tr1 rfl (bO (aA rfl) rfl (i := 0) rfl dY (es := (aR t_0)) rfl rfl) ?_
     refine tr1 rfl (aE (v := .d (.sl 5 (l_1.map aK))) (aA rfl) rfl rfl) ?_
     refine tr1 rfl (aS (aA rfl) rfl qR) ?_
     refine tr1 rfl (aV (aA rfl) rfl (i := 1) rfl rfl bG) ?_
     obtain ⟨r14, h15, h⟩ := bind_some h
     refine tr1 rfl (iB (aA rfl) (.func _ _ Try.call17) rfl rfl (sD _ _ _ h15)) ?_
     refine tr1 rfl (aE (v := .tup [.agg (eB r14.1), .d (.lit (.int .i64 r14.2))]) (aA rfl) rfl rfl) ?_
     refine tr1 rfl (bS (aA rfl) rfl rfl) ?_
     refine tr1 rfl (bS (aA rfl) rfl rfl) ?_
     refine bW rfl (eC (zs := [.lit (.int .i64 0), .lit (.int .i64 0)]) (aA rfl) Try.zeroValue39 rfl rfl) ?_
     rintro _ ⟨b16, rfl⟩
     refine tr1 rfl (cH (i := 2) rfl rfl rfl rfl rfl Try.sizeOf39 rfl (aA rfl) (Nat.le_of_ble_eq_true rfl) (ds' := (eB r14.1)) rfl) ?_
     refine tr1 rfl (aJ (v := .d (.lit (.int .i64 r14.2))) (aA rfl) rfl rfl) ?_
     refine aF ?_
     refine aG ?_
     refine aC ?_
     refine tr1 rfl (bO (aA rfl) rfl (i := 0) rfl dY (es := (aR t_0)) rfl rfl) ?_
     refine tr1 rfl (aE (v := .d (.sl 5 (l_1.map aK))) (aA rfl) rfl rfl) ?_
     obtain ⟨r17, h18, h⟩ := bind_some h
     refine tr1 rfl (iB (aA rfl) (.func _ _ Try.call18) rfl rfl (pV _ _ h18)) ?_
     refine tr1 rfl (aE (v := .tup [.d (.sl 1 (r17.1.map aP)), .d (.lit (.bool r17.2))]) (aA rfl) rfl rfl) ?_
     refine tr1 rfl (bS (aA rfl) rfl rfl) ?_
     refine tr1 rfl (bS (aA rfl) rfl rfl) ?_
     refine tr1 rfl (aJ (v := .d (.sl 1 (r17.1.map aP))) (aA rfl) rfl rfl) ?_
     refine tr1 rfl (aJ (v := .d (.lit (.bool r17.2))) (aA rfl) rfl rfl) ?_
     refine aF ?_
     refine aG ?_
     refine aC ?_
     refine tr1 rfl (aJ (v := .d (.lit (.int .i64 (-1)))) (aA rfl) rfl rfl) ?_
     refine aF ?_
     refine aG ?_
     refine aG ?_
     refine aC ?_
     refine tr1 rfl (aJ (v := .d (.lit (.int .i64 0))) (aA rfl) rfl rfl) ?_
     refine aF ?_
     refine cE ?_
     refine dN [1, 3, 5, 7, 8, 9, 10] (fun (s19 : Int × Int) => [(11, .d (.lit (.int .i64 s19.1))), (12, .d (.lit (.int .i64 s19.2)))]) (fun (s19 : Int × Int) => [.box b1 0 (aR t_0), .box b2 0 (gQ x_2), .box b16 0 (eB r14.1)]) (fun (k : Nat) (s19 : Int × Int) => dH l_1 r14.2 r17.1 r17.2 t_0 x_2 r14.1 k s19.1 s19.2) (fun _ => rfl) ((-1), 0) h (bD [0, 1, 2] rfl rfl (aT rfl (aT rfl (bC ⟨rfl, rfl, rfl, rfl, rfl, rfl, rfl, trivial⟩)))) ?_
     rintro k20 ⟨slot_0_19, i_0_19⟩ h
     simp only [dH] at h
     refine aG ?_
     refine aG ?_
     refine aC ?_
     refine tr1 rfl (aE (v := .d (.lit (.int .i64 i_0_19))) (aA rfl) rfl rfl) ?_
     refine tr1 rfl (aE (v := .d (.sl 1 (r17.1.map aP))) (aA rfl) rfl rfl) ?_
     refine tr1 rfl (eG (aA rfl) rfl bY.of) ?_
     refine tr1 rfl (bF (aA rfl) rfl rfl rfl) ?_
     refine tr1 rfl (aE (v := .d (.lit (.bool ((decide (i_0_19 < (r17.1.length : Int))))))) (aA rfl) rfl rfl) ?_
     obtain ⟨b21, h22, h⟩ := bind_some h
     refine cA 2 [1, 3, 5, 7, 8, 9, 10, 11, 12] 59 b21 ?_ ?_
     ·refine bE (decide (i_0_19 < (r17.1.length : Int))) (fun c84 => ?_) (fun c84 => ?_)
      ·have h22 := aY c84 h22
       refine aI rfl rfl (aA rfl) rfl c84 (aE (v := .d (.lit (.bool r17.2))) (aA rfl) rfl rfl) ?_
       refine tr1 rfl (bN (v := .d (.lit (.bool r17.2))) (aA rfl) rfl c84 rfl rfl) ?_
       have h22 := Option.some.inj h22
       subst h22
       refine aF (bA rfl ⟨rfl, rfl, rfl, rfl, rfl, rfl, rfl, rfl, rfl, trivial⟩ rfl)
      ·have h22 := aX c84 h22
       refine aN rfl rfl (aA rfl) rfl (aA rfl) rfl c84 ?_
       refine tr1 rfl (bM (v := .d (.lit (.bool false))) (aA rfl) rfl c84 rfl rfl) ?_
       have h22 := Option.some.inj h22
       subst h22
       refine aF (bA rfl ⟨rfl, rfl, rfl, rfl, rfl, rfl, rfl, rfl, rfl, trivial⟩ rfl)
     ·refine aF ?_
      refine bR rfl (fun c23 => ?_) (fun c23 => ?_)
      ·have h := aY c23 h
       refine bL ?_
       refine aG ?_
       refine cE ?_
       refine aG ?_
       obtain ⟨x24, h25, h⟩ := bind_some h
       refine eE mix 6 [1, 3, 5, 7, 8, 9, 10, 11, 12] [(65, .d (.lit (.int .i64 x24))), (67, .d (.lit (.int .i64 x_2.A)))] ?_ ?_
       ·refine ⟨[(62, 0, .d (.sl 1 (r17.1.map aP))), (63, 1, .d (.lit (.int .i64 i_0_19))), (64, 2, .cp [.lit (.int .i64 x24)]), (65, 3, .d (.lit (.int .i64 x24))), (66, 4, .bp b2 0 2), (67, 5, .d (.lit (.int .i64 x_2.A)))], ?_, ?_⟩
        · exact ⟨by kernel_rfl, by kernel_rfl, by kernel_rfl, by kernel_rfl, by kernel_rfl, [([], []), ([], []), ([0, 1], []), ([2], []), ([], []), ([4], [])], by kernel_rfl, ⟨fun S hS => aL rfl (aU rfl (aE (v := .d (.sl 1 (r17.1.map aP))) (aA rfl) (aM hS rfl) rfl)),
      fun S hS => aL rfl (aU rfl (aE (v := .d (.lit (.int .i64 i_0_19))) (aA rfl) (aM hS rfl) rfl)),
      fun S hS => aL rfl (aU rfl (bX (aA rfl) (aM hS rfl) (aM hS rfl) bY.of (cC aP h25))),
      fun S hS => aL rfl (aU rfl (bU (aA rfl) (aM hS rfl) bG)),
      fun S hS => aL rfl (aU rfl (aS (aA rfl) (aM hS rfl) qR)),
      fun S hS => aL rfl (aU rfl (aV (aA rfl) (aM hS rfl) (i := 1) rfl rfl bG)), trivial⟩⟩
        · exact dM (aT rfl (aT rfl (bC ⟨rfl, rfl, rfl, rfl, rfl, rfl, rfl, rfl, rfl, trivial⟩)))
       ·refine tr1 rfl (bF (aA rfl) rfl rfl rfl) ?_
        refine aF ?_
        refine bR rfl (fun c26 => ?_) (fun c26 => ?_)
        ·have h := aY c26 h
         refine aC ?_
         refine tr1 rfl (aE (v := .d (.lit (.int .i64 i_0_19))) (aA rfl) rfl rfl) ?_
         refine tr1 rfl (aJ (v := .d (.lit (.int .i64 i_0_19))) (aA rfl) rfl rfl) ?_
         refine fH ?_
         refine aC ?_
         refine tr1 rfl (aE (v := .d (.lit (.int .i64 i_0_19))) (aA rfl) rfl rfl) ?_
         refine tr1 rfl (bI (aA rfl) rfl rfl rfl) ?_
         refine tr1 rfl (aJ (v := .d (.lit (.int .i64 ((w64 (i_0_19 + 1)))))) (aA rfl) rfl rfl) ?_
         refine aF ?_
         exact ⟨(i_0_19, w64 (i_0_19 + 1)), h, bD [0, 1, 2] rfl rfl (aT rfl (aT rfl (bC ⟨rfl, rfl, rfl, rfl, rfl, rfl, rfl, trivial⟩)))⟩
        ·have h := aX c26 h
         refine eL ?_
         refine aC ?_
         refine tr1 rfl (aE (v := .d (.lit (.int .i64 i_0_19))) (aA rfl) rfl rfl) ?_
         refine tr1 rfl (bI (aA rfl) rfl rfl rfl) ?_
         refine tr1 rfl (aJ (v := .d (.lit (.int .i64 ((w64 (i_0_19 + 1)))))) (aA rfl) rfl rfl) ?_
         refine aF ?_
         exact ⟨(slot_0_19, w64 (i_0_19 + 1)), h, bD [0, 1, 2] rfl rfl (aT rfl (aT rfl (bC ⟨rfl, rfl, rfl, rfl, rfl, rfl, rfl, trivial⟩)))⟩
      ·have h := aX c23 h
       refine dA ?_
       refine .inl ⟨rfl, ?_⟩
       simp only [gN] at h
       refine aG ?_
       refine aG ?_
       refine aC ?_
       refine tr1 rfl (aE (v := .d (.lit (.int .i64 slot_0_19))) (aA rfl) rfl rfl) ?_
       refine tr1 rfl (bF (aA rfl) rfl rfl rfl) ?_
       refine aF ?_
       refine bR rfl (fun c27 => ?_) (fun c27 => ?_)
       ·have h := aY c27 h
        refine aG ?_
        refine aC ?_
        refine tr1 rfl (aE (v := .d (.lit (.int .i64 r14.2))) (aA rfl) rfl rfl) ?_
        refine tr1 rfl (bF (aA rfl) rfl rfl rfl) ?_
        refine tr1 rfl (aE (v := .d (.lit (.bool ((decide (r14.2 = 3)))))) (aA rfl) rfl rfl) ?_
        obtain ⟨b28, h29, h⟩ := bind_some h
        refine cA 2 [] 76 b28 ?_ ?_
        ·refine bE (decide (r14.2 = 3)) (fun c30 => ?_) (fun c30 => ?_)
         ·have h29 := aY c30 h29
          obtain ⟨r31, h32, h29⟩ := bind_some h29
          refine aI rfl rfl (aA rfl) rfl c30 (cP (aA rfl) (.func _ _ Try.call14) rfl rfl (BVs.refl _ _) (jX h32) rfl) ?_
          refine tr1 rfl (bN (v := .d (.lit (.bool r31))) (aA rfl) rfl c30 rfl rfl) ?_
          have h29 := Option.some.inj h29
          subst h29
          refine aF (bA rfl trivial rfl)
         ·have h29 := aX c30 h29
          refine aN rfl rfl (aA rfl) rfl (aA rfl) rfl c30 ?_
          refine tr1 rfl (bM (v := .d (.lit (.bool false))) (aA rfl) rfl c30 rfl rfl) ?_
          have h29 := Option.some.inj h29
          subst h29
          refine aF (bA rfl trivial rfl)
        ·refine tr1 rfl (aJ (v := .d (.lit (.bool b28))) (aA rfl) rfl rfl) ?_
         refine aF ?_
         have h := Option.some.inj h
         subst h
         refine cN (cM (cO (l := [6]) ⟨rfl, trivial⟩)) ?_
         exact bK ⟨rfl, _, .one _, rfl, rfl⟩
       ·have h := aX c27 h
        refine bL ?_
        refine aG ?_
        refine aG ?_
        refine aC ?_
        refine tr1 rfl (aE (v := .d (.lit (.int .i64 r14.2))) (aA rfl) rfl rfl) ?_
        refine tr1 rfl (bF (aA rfl) rfl rfl rfl) ?_
        refine tr1 rfl (aE (v := .d (.lit (.bool ((!decide (r14.2 = 0)))))) (aA rfl) rfl rfl) ?_
        obtain ⟨b33, h34, h⟩ := bind_some h
        refine cA 4 [1, 3, 5, 7, 11] 83 b33 ?_ ?_
        ·refine bE (!decide (r14.2 = 0)) (fun c83 => ?_) (fun c83 => ?_)
         ·have h34 := aY c83 h34
          refine aN rfl rfl (aA rfl) rfl (aA rfl) rfl c83 ?_
          refine aN rfl rfl (aA rfl) rfl (aA rfl) rfl c83 ?_
          refine aN rfl rfl (aA rfl) rfl (aA rfl) rfl c83 ?_
          refine tr1 rfl (bN (v := .d (.lit (.bool true))) (aA rfl) rfl c83 rfl rfl) ?_
          have h34 := Option.some.inj h34
          subst h34
          refine aF (bA rfl ⟨rfl, rfl, rfl, rfl, rfl, trivial⟩ rfl)
         ·have h34 := aX c83 h34
          refine aI rfl rfl (aA rfl) rfl c83 (aS (aA rfl) rfl yU) ?_
          refine aI rfl rfl (aA rfl) rfl c83 (aV (aA rfl) rfl (i := 2) rfl rfl bG) ?_
          refine aI rfl rfl (aA rfl) rfl c83 (bF (aA rfl) rfl rfl rfl) ?_
          refine tr1 rfl (bM (v := .d (.lit (.bool ((decide (r14.1.Low < 0)))))) (aA rfl) rfl c83 rfl rfl) ?_
          have h34 := Option.some.inj h34
          subst h34
          refine aF (bA rfl ⟨rfl, rfl, rfl, rfl, rfl, trivial⟩ rfl)
        ·refine tr1 rfl (aE (v := .d (.lit (.bool b33))) (aA rfl) rfl rfl) ?_
         obtain ⟨b35, h36, h⟩ := bind_some h
         refine cA 6 [1, 3, 5, 7, 11] 90 b35 ?_ ?_
         ·refine bE (b33) (fun c82 => ?_) (fun c82 => ?_)
          ·have h36 := aY c82 h36
           refine aN rfl rfl (aA rfl) rfl (aA rfl) rfl c82 ?_
           refine aN rfl rfl (aA rfl) rfl (aA rfl) rfl c82 ?_
           refine aN rfl rfl (aA rfl) rfl (aA rfl) rfl c82 ?_
           refine aN rfl rfl (aA rfl) rfl (aA rfl) rfl c82 ?_
           refine aN rfl rfl (aA rfl) rfl (aA rfl) rfl c82 ?_
           refine tr1 rfl (bN (v := .d (.lit (.bool true))) (aA rfl) rfl c82 rfl rfl) ?_
           have h36 := Option.some.inj h36
           subst h36
           refine aF (bA rfl ⟨rfl, rfl, rfl, rfl, rfl, trivial⟩ rfl)
          ·have h36 := aX c82 h36
           refine aI rfl rfl (aA rfl) rfl c82 (aS (aA rfl) rfl yV) ?_
           refine aI rfl rfl (aA rfl) rfl c82 (aV (aA rfl) rfl (i := 2) rfl rfl bG) ?_
           refine aI rfl rfl (aA rfl) rfl c82 (aS (aA rfl) rfl yU) ?_
           refine aI rfl rfl (aA rfl) rfl c82 (aV (aA rfl) rfl (i := 2) rfl rfl bG) ?_
           refine aI rfl rfl (aA rfl) rfl c82 (bF (aA rfl) rfl rfl rfl) ?_
           refine tr1 rfl (bM (v := .d (.lit (.bool ((decide (r14.1.High < r14.1.Low)))))) (aA rfl) rfl c82 rfl rfl) ?_
           have h36 := Option.some.inj h36
           subst h36
           refine aF (bA rfl ⟨rfl, rfl, rfl, rfl, rfl, trivial⟩ rfl)
         ·refine tr1 rfl (aE (v := .d (.lit (.bool b35))) (aA rfl) rfl rfl) ?_
          obtain ⟨b37, h38, h⟩ := bind_some h
          refine cA 6 [1, 3, 5, 7, 11] 97 b37 ?_ ?_
          ·refine bE (b35) (fun c81 => ?_) (fun c81 => ?_)
           ·have h38 := aY c81 h38
            refine aN rfl rfl (aA rfl) rfl (aA rfl) rfl c81 ?_
            refine aN rfl rfl (aA rfl) rfl (aA rfl) rfl c81 ?_
            refine aN rfl rfl (aA rfl) rfl (aA rfl) rfl c81 ?_
            refine aN rfl rfl (aA rfl) rfl (aA rfl) rfl c81 ?_
            refine aN rfl rfl (aA rfl) rfl (aA rfl) rfl c81 ?_
            refine tr1 rfl (bN (v := .d (.lit (.bool true))) (aA rfl) rfl c81 rfl rfl) ?_
            have h38 := Option.some.inj h38
            subst h38
            refine aF (bA rfl ⟨rfl, rfl, rfl, rfl, rfl, trivial⟩ rfl)
           ·have h38 := aX c81 h38
            refine aI rfl rfl (aA rfl) rfl c81 (aS (aA rfl) rfl yV) ?_
            refine aI rfl rfl (aA rfl) rfl c81 (aV (aA rfl) rfl (i := 2) rfl rfl bG) ?_
            refine aI rfl rfl (aA rfl) rfl c81 (aS (aA rfl) rfl gS) ?_
            refine aI rfl rfl (aA rfl) rfl c81 (aV (aA rfl) rfl (i := 0) rfl rfl bG) ?_
            refine aI rfl rfl (aA rfl) rfl c81 (bF (aA rfl) rfl rfl rfl) ?_
            refine tr1 rfl (bM (v := .d (.lit (.bool ((decide (t_0.Rounds < r14.1.High)))))) (aA rfl) rfl c81 rfl rfl) ?_
            have h38 := Option.some.inj h38
            subst h38
            refine aF (bA rfl ⟨rfl, rfl, rfl, rfl, rfl, trivial⟩ rfl)
          ·refine aF ?_
           refine bR rfl (fun c39 => ?_) (fun c39 => ?_)
           ·have h := aY c39 h
            refine aG ?_
            refine aC ?_
            refine tr1 rfl (aJ (v := .d (.lit (.bool false))) (aA rfl) rfl rfl) ?_
            refine aF ?_
            have h := Option.some.inj h
            subst h
            refine cN (cM (cO (l := [6]) ⟨rfl, trivial⟩)) ?_
            exact bK ⟨rfl, _, .one _, rfl, rfl⟩
           ·have h := aX c39 h
            refine bL ?_
            refine aG ?_
            refine aG ?_
            refine aC ?_
            refine tr1 rfl (aS (aA rfl) rfl qS) ?_
            refine tr1 rfl (aV (aA rfl) rfl (i := 1) rfl rfl bG) ?_
            refine tr1 rfl (aS (aA rfl) rfl yU) ?_
            refine tr1 rfl (aV (aA rfl) rfl (i := 2) rfl rfl bG) ?_
            refine tr1 rfl (bF (aA rfl) rfl rfl rfl) ?_
            refine tr1 rfl (aE (v := .d (.lit (.bool ((decide (x_2.B < r14.1.Low)))))) (aA rfl) rfl rfl) ?_
            obtain ⟨b40, h41, h⟩ := bind_some h
            refine cA 6 [1, 3, 5, 11] 109 b40 ?_ ?_
            ·refine bE (decide (x_2.B < r14.1.Low)) (fun c80 => ?_) (fun c80 => ?_)
             ·have h41 := aY c80 h41
              refine aN rfl rfl (aA rfl) rfl (aA rfl) rfl c80 ?_
              refine aN rfl rfl (aA rfl) rfl (aA rfl) rfl c80 ?_
              refine aN rfl rfl (aA rfl) rfl (aA rfl) rfl c80 ?_
              refine aN rfl rfl (aA rfl) rfl (aA rfl) rfl c80 ?_
              refine aN rfl rfl (aA rfl) rfl (aA rfl) rfl c80 ?_
              refine tr1 rfl (bN (v := .d (.lit (.bool true))) (aA rfl) rfl c80 rfl rfl) ?_
              have h41 := Option.some.inj h41
              subst h41
              refine aF (bA rfl ⟨rfl, rfl, rfl, rfl, trivial⟩ rfl)
             ·have h41 := aX c80 h41
              refine aI rfl rfl (aA rfl) rfl c80 (aS (aA rfl) rfl qS) ?_
              refine aI rfl rfl (aA rfl) rfl c80 (aV (aA rfl) rfl (i := 1) rfl rfl bG) ?_
              refine aI rfl rfl (aA rfl) rfl c80 (aS (aA rfl) rfl yV) ?_
              refine aI rfl rfl (aA rfl) rfl c80 (aV (aA rfl) rfl (i := 2) rfl rfl bG) ?_
              refine aI rfl rfl (aA rfl) rfl c80 (bF (aA rfl) rfl rfl rfl) ?_
              refine tr1 rfl (bM (v := .d (.lit (.bool ((decide (r14.1.High < x_2.B)))))) (aA rfl) rfl c80 rfl rfl) ?_
              have h41 := Option.some.inj h41
              subst h41
              refine aF (bA rfl ⟨rfl, rfl, rfl, rfl, trivial⟩ rfl)
            ·refine aF ?_
             refine bR rfl (fun c42 => ?_) (fun c42 => ?_)
             ·have h := aY c42 h
              refine aG ?_
              refine aC ?_
              obtain ⟨r43, h44, h⟩ := bind_some h
              refine tr1 rfl (cP (aA rfl) (.func _ _ Try.call14) rfl rfl (BVs.refl _ _) (jX h44) rfl) ?_
              refine tr1 rfl (aJ (v := .d (.lit (.bool r43))) (aA rfl) rfl rfl) ?_
              refine aF ?_
              have h := Option.some.inj h
              subst h
              refine cN (cM (cO (l := [6]) ⟨rfl, trivial⟩)) ?_
              exact bK ⟨rfl, _, .one _, rfl, rfl⟩
             ·have h := aX c42 h
              refine bL ?_
              refine aG ?_
              refine aC ?_
              refine bW rfl (xG (aA rfl) eN rfl rfl (rows := (([] : List aD)).map aK) rfl (dI (f := aK) fun _ => rfl) rfl (by decide)) ?_
              rintro _ ⟨v45, rfl⟩
              refine tr1 rfl (aE (v := .d (.sl 5 (l_1.map aK))) (aA rfl) rfl rfl) ?_
              obtain ⟨x46, h47, h⟩ := bind_some h
              refine bW rfl (fN (i := 3) (aA rfl) eN rfl rfl rfl (fun _ => rfl) h47 rfl) ?_
              rintro _ ⟨v48, rfl⟩
              refine tr1 rfl (aJ (v := .d (.lit v48)) (aA rfl) rfl rfl) ?_
              refine aF ?_
              refine aG ?_
              refine aG ?_
              refine aC ?_
              refine tr1 rfl (aJ (v := .d (.lit (.int .i64 0))) (aA rfl) rfl rfl) ?_
              refine aF ?_
              refine cE ?_
              refine dN [3, 5, 11] (fun (s49 : Int × (List aD) × Value) => [(13, .d (.lit s49.2.2)), (14, .d (.lit (.int .i64 s49.1)))]) (fun (s49 : Int × (List aD) × Value) => [.box b1 0 (aR t_0), .box b2 0 (gQ x_2), .arr s49.2.2 32 5 (s49.2.1.map aK)]) (fun (k : Nat) (s49 : Int × (List aD) × Value) => dV slot_0_19 t_0 x_2 k s49.1 s49.2.1) (fun _ => rfl) (0, x46, v48) h (bD [0, 1, 3] rfl rfl (aT rfl (aT rfl (bC ⟨rfl, rfl, rfl, trivial⟩)))) ?_
              rintro k51 ⟨k_2_49, o111_2_49, w50⟩ h
              simp only [dV] at h
              refine aG ?_
              refine aG ?_
              refine aC ?_
              refine tr1 rfl (aE (v := .d (.lit (.int .i64 k_2_49))) (aA rfl) rfl rfl) ?_
              refine tr1 rfl (aS (aA rfl) rfl qS) ?_
              refine tr1 rfl (aV (aA rfl) rfl (i := 1) rfl rfl bG) ?_
              refine tr1 rfl (bF (aA rfl) rfl rfl rfl) ?_
              refine aF ?_
              refine bR rfl (fun c52 => ?_) (fun c52 => ?_)
              ·have h := aY c52 h
               refine bL ?_
               refine aG ?_
               refine cE ?_
               refine aC ?_
               refine tr1 rfl (bO (aA rfl) rfl (i := 0) rfl dY (es := (aR t_0)) rfl rfl) ?_
               refine tr1 rfl (aE (v := .d (.lit w50)) (aA rfl) rfl rfl) ?_
               refine tr1 rfl (aE (v := .d (.lit (.int .i64 slot_0_19))) (aA rfl) rfl rfl) ?_
               refine tr1 rfl (aE (v := .d (.lit (.int .i64 k_2_49))) (aA rfl) rfl rfl) ?_
               refine tr1 rfl (aS (aA rfl) rfl qR) ?_
               refine tr1 rfl (aV (aA rfl) rfl (i := 1) rfl rfl bG) ?_
               obtain ⟨r53, h54, h⟩ := bind_some h
               refine jS (bD [2, 0, 1] rfl rfl (le_refl _)) ?_
               refine bW rfl (qZ (passed := [.arr w50 32 5 (o111_2_49.map aK)]) (aA rfl) rfl (.func _ _ Try.call19) rfl rfl (yS t_0 o111_2_49 slot_0_19 k_2_49 x_2.A h54)) ?_
               rintro _ ⟨_, _, ⟨v55, rfl, rfl⟩, rfl⟩
               refine tr1 rfl (aJ (v := .d (.lit v55)) (aA rfl) rfl rfl) ?_
               refine fH ?_
               refine aC ?_
               refine tr1 rfl (aE (v := .d (.lit (.int .i64 k_2_49))) (aA rfl) rfl rfl) ?_
               refine tr1 rfl (bI (aA rfl) rfl rfl rfl) ?_
               refine tr1 rfl (aJ (v := .d (.lit (.int .i64 ((w64 (k_2_49 + 1)))))) (aA rfl) rfl rfl) ?_
               refine aF ?_
               exact ⟨(w64 (k_2_49 + 1), r53, v55), h, bD [1, 2, 0] rfl rfl (aT rfl (aT rfl (bC ⟨rfl, rfl, rfl, trivial⟩)))⟩
              ·have h := aX c52 h
               refine dA ?_
               refine .inl ⟨rfl, ?_⟩
               simp only [iU] at h
               refine aG ?_
               refine aG ?_
               refine aC ?_
               refine tr1 rfl (bO (aA rfl) rfl (i := 0) rfl dY (es := (aR t_0)) rfl rfl) ?_
               refine tr1 rfl (aE (v := .d (.lit w50)) (aA rfl) rfl rfl) ?_
               obtain ⟨r56, h57, h⟩ := bind_some h
               refine tr1 rfl (cP (aA rfl) (.func _ _ Try.call16) rfl rfl (.cons (.same _) (.cons (.d (lC 2 rfl (dI (f := aK) fun _ => rfl))) .nil)) (zP _ _ h57) rfl) ?_
               refine tr1 rfl (bF (aA rfl) rfl rfl rfl) ?_
               refine aF ?_
               refine bR rfl (fun c58 => ?_) (fun c58 => ?_)
               ·have h := aY c58 h
                refine aG ?_
                refine aC ?_
                refine tr1 rfl (aJ (v := .d (.lit (.bool false))) (aA rfl) rfl rfl) ?_
                refine aF ?_
                have h := Option.some.inj h
                subst h
                refine cN (cM (cO (l := [6]) ⟨rfl, trivial⟩)) ?_
                exact bK ⟨rfl, _, .one _, rfl, rfl⟩
               ·have h := aX c58 h
                refine bL ?_
                refine aG ?_
                refine aG ?_
                refine aC ?_
                refine tr1 rfl (aS (aA rfl) rfl qS) ?_
                refine tr1 rfl (aV (aA rfl) rfl (i := 1) rfl rfl bG) ?_
                refine tr1 rfl (aS (aA rfl) rfl gS) ?_
                refine tr1 rfl (aV (aA rfl) rfl (i := 0) rfl rfl bG) ?_
                refine tr1 rfl (bF (aA rfl) rfl rfl rfl) ?_
                refine aF ?_
                refine bR rfl (fun c59 => ?_) (fun c59 => ?_)
                ·have h := aY c59 h
                 refine aG ?_
                 refine aC ?_
                 obtain ⟨r60, h61, h⟩ := bind_some h
                 refine tr1 rfl (cP (aA rfl) (.func _ _ Try.call14) rfl rfl (BVs.refl _ _) (jX h61) rfl) ?_
                 refine tr1 rfl (aJ (v := .d (.lit (.bool r60))) (aA rfl) rfl rfl) ?_
                 refine aF ?_
                 have h := Option.some.inj h
                 subst h
                 refine cN (cM (cO (l := [6]) ⟨rfl, trivial⟩)) ?_
                 exact bK ⟨rfl, _, .one _, rfl, rfl⟩
                ·have h := aX c59 h
                 refine bL ?_
                 refine aG ?_
                 refine aC ?_
                 refine tr1 rfl (bO (aA rfl) rfl (i := 0) rfl dY (es := (aR t_0)) rfl rfl) ?_
                 refine tr1 rfl (aE (v := .d (.lit w50)) (aA rfl) rfl rfl) ?_
                 refine tr1 rfl (aS (aA rfl) rfl qS) ?_
                 refine tr1 rfl (aV (aA rfl) rfl (i := 1) rfl rfl bG) ?_
                 refine tr1 rfl (aE (v := .d (.lit (.int .i64 slot_0_19))) (aA rfl) rfl rfl) ?_
                 refine tr1 rfl (aS (aA rfl) rfl qS) ?_
                 refine tr1 rfl (aV (aA rfl) rfl (i := 1) rfl rfl bG) ?_
                 refine tr1 rfl (bI (aA rfl) rfl rfl rfl) ?_
                 refine tr1 rfl (uS (aA rfl) rfl Try.runUnderlying3 Try.runUnderlying45) ?_
                 obtain ⟨u62, h63, h⟩ := bind_some h
                 refine tr1 rfl (vU (aA rfl) rfl rfl (rA h63)) ?_
                 refine jS (aKq [.box b1 0 (aR t_0), .box b2 0 (gQ x_2)] [.arr w50 32 5 (o111_2_49.map aK)] rfl (sN (k := 139) (v := .d (.sl 5 (o111_2_49.map aK))) (.d (lC 0 rfl (dI (f := aK) fun _ => rfl))) (sN (k := 128) (v := .d (.sl 5 (o111_2_49.map aK))) (.d (lC 0 rfl (dI (f := aK) fun _ => rfl))) (sN (k := 13) (v := .d (.sl 5 (o111_2_49.map aK))) (.d (lC 0 rfl (dI (f := aK) fun _ => rfl))) (aIt _ _))))) ?_
                 obtain ⟨r64, h65, h⟩ := bind_some h
                 refine tr1 rfl (iB (aA rfl) (.func _ _ Try.call15) rfl rfl (vY _ _ _ _ h65)) ?_
                 refine tr1 rfl (aE (v := .tup [.d (.sl 1 (r64.1.map aP)), .d (.lit (.int .i64 r64.2))]) (aA rfl) rfl rfl) ?_
                 refine tr1 rfl (bS (aA rfl) rfl rfl) ?_
                 refine tr1 rfl (bS (aA rfl) rfl rfl) ?_
                 refine tr1 rfl (aJ (v := .d (.sl 1 (r64.1.map aP))) (aA rfl) rfl rfl) ?_
                 refine tr1 rfl (aJ (v := .d (.lit (.int .i64 r64.2))) (aA rfl) rfl rfl) ?_
                 refine aF ?_
                 refine aG ?_
                 refine aG ?_
                 refine aC ?_
                 refine tr1 rfl (aE (v := .d (.lit (.int .i64 r64.2))) (aA rfl) rfl rfl) ?_
                 refine tr1 rfl (bF (aA rfl) rfl rfl rfl) ?_
                 refine aF ?_
                 refine bR rfl (fun c66 => ?_) (fun c66 => ?_)
                 ·have h := aY c66 h
                  refine aG ?_
                  refine aC ?_
                  refine tr1 rfl (aJ (v := .d (.lit (.bool false))) (aA rfl) rfl rfl) ?_
                  refine aF ?_
                  have h := Option.some.inj h
                  subst h
                  refine cN (cM (cO (l := [6]) ⟨rfl, trivial⟩)) ?_
                  exact bK ⟨rfl, _, .one _, rfl, rfl⟩
                 ·have h := aX c66 h
                  refine bL ?_
                  refine aG ?_
                  refine aC ?_
                  refine tr1 rfl (aJ (v := .d (.lit (.bool false))) (aA rfl) rfl rfl) ?_
                  refine aF ?_
                  refine aG ?_
                  refine aG ?_
                  refine aC ?_
                  refine tr1 rfl (aJ (v := .d (.lit (.int .i64 0))) (aA rfl) rfl rfl) ?_
                  refine aF ?_
                  refine cE ?_
                  refine dN [5, 15] (fun (s67 : Bool × Int) => [(17, .d (.lit (.bool s67.1))), (18, .d (.lit (.int .i64 s67.2)))]) (fun (s67 : Bool × Int) => [.box b2 0 (gQ x_2)]) (fun (k : Nat) (s67 : Bool × Int) => dW r64.1 x_2 k s67.1 s67.2) (fun _ => rfl) (false, 0) h (bD [1] rfl rfl (aT rfl (aT rfl (bC ⟨rfl, rfl, trivial⟩)))) ?_
                  rintro k68 ⟨other_4_67, i_4_67⟩ h
                  simp only [dW] at h
                  refine aG ?_
                  refine aG ?_
                  refine aC ?_
                  refine tr1 rfl (aE (v := .d (.lit (.int .i64 i_4_67))) (aA rfl) rfl rfl) ?_
                  refine tr1 rfl (aE (v := .d (.sl 1 (r64.1.map aP))) (aA rfl) rfl rfl) ?_
                  refine tr1 rfl (eG (aA rfl) rfl bY.of) ?_
                  refine tr1 rfl (bF (aA rfl) rfl rfl rfl) ?_
                  refine aF ?_
                  refine bR rfl (fun c69 => ?_) (fun c69 => ?_)
                  ·have h := aY c69 h
                   refine bL ?_
                   refine aG ?_
                   refine cE ?_
                   obtain ⟨b70, h71, h⟩ := bind_some h
                   refine eE mix 10 [5, 15, 18] [(168, .d (.lit (.bool b70)))] ?_ ?_
                   ·refine bE (other_4_67) (fun c72 => ?_) (fun c72 => ?_)
                    ·have h71 := aY c72 h71
                     have h71 := Option.some.inj h71
                     subst h71
                     refine ⟨[(159, 0, .d (.lit (.bool other_4_67))), (160, 1, .d (.lit (.bool other_4_67))), (161, 2, .tup []), (162, 3, .tup []), (163, 4, .tup []), (164, 5, .tup []), (165, 6, .tup []), (166, 7, .tup []), (167, 8, .tup []), (168, 9, .d (.lit (.bool true)))], ?_, ?_⟩
                     · exact ⟨by kernel_rfl, by kernel_rfl, by kernel_rfl, by kernel_rfl, by kernel_rfl, [([], []), ([0], []), ([1], []), ([1], []), ([1, 2, 3], []), ([1, 4], []), ([1], []), ([1, 6], []), ([1, 5, 7], []), ([1, 8], [])], by kernel_rfl, ⟨fun S hS => aL rfl (aU rfl (aE (v := .d (.lit (.bool other_4_67))) (aA rfl) (aM hS rfl) rfl)),
      fun S hS => aL rfl (aU rfl (aE (v := .d (.lit (.bool other_4_67))) (aA rfl) (aM hS rfl) rfl)),
      fun S hS => aL rfl (bP rfl rfl (aA rfl) rfl (aA rfl) (bB hS rfl) c72),
      fun S hS => aL rfl (bP rfl rfl (aA rfl) rfl (aA rfl) (bB hS rfl) c72),
      fun S hS => aL rfl (bP rfl rfl (aA rfl) rfl (aA rfl) (bB hS rfl) c72),
      fun S hS => aL rfl (bP rfl rfl (aA rfl) rfl (aA rfl) (bB hS rfl) c72),
      fun S hS => aL rfl (bP rfl rfl (aA rfl) rfl (aA rfl) (bB hS rfl) c72),
      fun S hS => aL rfl (bP rfl rfl (aA rfl) rfl (aA rfl) (bB hS rfl) c72),
      fun S hS => aL rfl (bP rfl rfl (aA rfl) rfl (aA rfl) (bB hS rfl) c72),
      fun S hS => aL rfl (aU rfl (bN (v := .d (.lit (.bool true))) (aA rfl) (aM hS rfl) c72 rfl rfl)), trivial⟩⟩
                     · exact dM (aT rfl (bC ⟨rfl, rfl, rfl, trivial⟩))
                    ·have h71 := aX c72 h71
                     obtain ⟨x73, h74, h71⟩ := bind_some h71
                     have h71 := Option.some.inj h71
                     subst h71
                     refine ⟨[(159, 0, .d (.lit (.bool other_4_67))), (160, 1, .d (.lit (.bool other_4_67))), (161, 2, .d (.sl 1 (r64.1.map aP))), (162, 3, .d (.lit (.int .i64 i_4_67))), (163, 4, .cp [.lit (.int .i64 x73)]), (164, 5, .d (.lit (.int .i64 x73))), (165, 6, .bp b2 0 2), (166, 7, .d (.lit (.int .i64 x_2.A))), (167, 8, .d (.lit (.bool ((!decide (x73 = x_2.A)))))), (168, 9, .d (.lit (.bool ((!decide (x73 = x_2.A))))))], ?_, ?_⟩
                     · exact ⟨by kernel_rfl, by kernel_rfl, by kernel_rfl, by kernel_rfl, by kernel_rfl, [([], []), ([0], []), ([1], []), ([1], []), ([1, 2, 3], []), ([1, 4], []), ([1], []), ([1, 6], []), ([1, 5, 7], []), ([1, 8], [])], by kernel_rfl, ⟨fun S hS => aL rfl (aU rfl (aE (v := .d (.lit (.bool other_4_67))) (aA rfl) (aM hS rfl) rfl)),
      fun S hS => aL rfl (aU rfl (aE (v := .d (.lit (.bool other_4_67))) (aA rfl) (aM hS rfl) rfl)),
      fun S hS => aL rfl (bQ rfl rfl (aA rfl) (bB hS rfl) c72 (aE (v := .d (.sl 1 (r64.1.map aP))) (aA rfl) (aM hS rfl) rfl)),
      fun S hS => aL rfl (bQ rfl rfl (aA rfl) (bB hS rfl) c72 (aE (v := .d (.lit (.int .i64 i_4_67))) (aA rfl) (aM hS rfl) rfl)),
      fun S hS => aL rfl (bQ rfl rfl (aA rfl) (bB hS rfl) c72 (bX (aA rfl) (aM hS rfl) (aM hS rfl) bY.of (cC aP h74))),
      fun S hS => aL rfl (bQ rfl rfl (aA rfl) (bB hS rfl) c72 (bU (aA rfl) (aM hS rfl) bG)),
      fun S hS => aL rfl (bQ rfl rfl (aA rfl) (bB hS rfl) c72 (aS (aA rfl) (aM hS rfl) qR)),
      fun S hS => aL rfl (bQ rfl rfl (aA rfl) (bB hS rfl) c72 (aV (aA rfl) (aM hS rfl) (i := 0) rfl rfl bG)),
      fun S hS => aL rfl (bQ rfl rfl (aA rfl) (bB hS rfl) c72 (bF (aA rfl) (aM hS rfl) (aM hS rfl) rfl)),
      fun S hS => aL rfl (aU rfl (bM (v := .d (.lit (.bool ((!decide (x73 = x_2.A)))))) (aA rfl) (aM hS rfl) c72 (aM hS rfl) rfl)), trivial⟩⟩
                     · exact dM (aT rfl (bC ⟨rfl, rfl, rfl, trivial⟩))
                   ·refine tr1 rfl (aJ (v := .d (.lit (.bool b70))) (aA rfl) rfl rfl) ?_
                    refine fH ?_
                    refine aC ?_
                    refine tr1 rfl (aE (v := .d (.lit (.int .i64 i_4_67))) (aA rfl) rfl rfl) ?_
                    refine tr1 rfl (bI (aA rfl) rfl rfl rfl) ?_
                    refine tr1 rfl (aJ (v := .d (.lit (.int .i64 ((w64 (i_4_67 + 1)))))) (aA rfl) rfl rfl) ?_
                    refine aF ?_
                    exact ⟨(b70, w64 (i_4_67 + 1)), h, bD [0] rfl rfl (aT rfl (aT rfl (bC ⟨rfl, rfl, trivial⟩)))⟩
                  ·have h := aX c69 h
                   refine dA ?_
                   refine .inl ⟨rfl, ?_⟩
                   simp only [lB] at h
                   refine aG ?_
                   refine aC ?_
                   refine tr1 rfl (aE (v := .d (.lit (.bool other_4_67))) (aA rfl) rfl rfl) ?_
                   refine tr1 rfl (aE (v := .d (.lit (.bool other_4_67))) (aA rfl) rfl rfl) ?_
                   obtain ⟨b75, h76, h⟩ := bind_some h
                   refine cA 2 [] 172 b75 ?_ ?_
                   ·refine bE (other_4_67) (fun c77 => ?_) (fun c77 => ?_)
                    ·have h76 := aY c77 h76
                     obtain ⟨r78, h79, h76⟩ := bind_some h76
                     refine aI rfl rfl (aA rfl) rfl c77 (cP (aA rfl) (.func _ _ Try.call14) rfl rfl (BVs.refl _ _) (jX h79) rfl) ?_
                     refine tr1 rfl (bN (v := .d (.lit (.bool r78))) (aA rfl) rfl c77 rfl rfl) ?_
                     have h76 := Option.some.inj h76
                     subst h76
                     refine aF (bA rfl trivial rfl)
                    ·have h76 := aX c77 h76
                     refine aN rfl rfl (aA rfl) rfl (aA rfl) rfl c77 ?_
                     refine tr1 rfl (bM (v := .d (.lit (.bool false))) (aA rfl) rfl c77 rfl rfl) ?_
                     have h76 := Option.some.inj h76
                     subst h76
                     refine aF (bA rfl trivial rfl)
                   ·refine tr1 rfl (aJ (v := .d (.lit (.bool b75))) (aA rfl) rfl rfl) ?_
                    refine aF ?_
                    have h := Option.some.inj h
                    subst h
                    refine cN (cM (cO (l := [6]) ⟨rfl, trivial⟩)) ?_
                    exact bK ⟨rfl, _, .one _, rfl, rfl⟩

end Go.Am
