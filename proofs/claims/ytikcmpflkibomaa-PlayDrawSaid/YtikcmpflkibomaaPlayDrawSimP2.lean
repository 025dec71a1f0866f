/- The functions compute what the shallow ones say: printed by program. -/
import Derived.Test.YtikcmpflkibomaaPlayDrawSimP1
namespace Go.Am
open Go.Proofs
set_option maxRecDepth 100000
set_option maxHeartbeats 4000000

theorem oL {r : Bool} (h : iP = some r) : Fn Try.prog 16 [] (.d (.lit (.bool r))) := by
 unfold iP at h
 refine Fn.of_tr Try.func16 rfl (rs := [.tmp 0]) Try.results16 Try.ntmps16 (Nat.le_of_ble_eq_true rfl) ?_
 refine aH ?_
 refine aE ?_
 refine tr1 rfl (aK (v := .d (.lit (.bool false))) (aA rfl) rfl rfl) ?_
 refine aI ?_
 refine aH ?_
 refine aE ?_
 obtain ⟨r1, h2, h⟩ := bind_some h
 refine tr1 rfl (iX (aA rfl) (.func _ _ Try.call49) rfl rfl (wW h2)) ?_
 refine tr1 rfl (aD (v := .tup [.agg (bK r1.1), .d (.sl 3 (r1.2.map aR))]) (aA rfl) rfl rfl) ?_
 refine tr1 rfl (bZ (aA rfl) rfl rfl) ?_
 refine tr1 rfl (bZ (aA rfl) rfl rfl) ?_
 refine cI rfl (dM (zs := [.sl 1 ((([] : List (List bJ))).map bH), .lit (.int .i64 0), .sl 6 ((([] : List cS)).map aT)]) (aA rfl) Try.zeroValue25 rfl rfl) ?_
 rintro _ ⟨b3, rfl⟩
 refine tr1 rfl (cL (i := 0) rfl rfl rfl rfl rfl Try.sizeOf25 rfl (aA rfl) (Nat.le_of_ble_eq_true rfl) (ds' := (bK r1.1)) rfl) ?_
 refine tr1 rfl (aK (v := .d (.sl 3 (r1.2.map aR))) (aA rfl) rfl rfl) ?_
 refine aI ?_
 refine aH ?_
 refine aE ?_
 refine tr1 rfl (bO (aA rfl) rfl (i := 0) rfl gL (es := (bK r1.1)) rfl rfl) ?_
 refine tr1 rfl (aD (v := .d (.sl 3 (r1.2.map aR))) (aA rfl) rfl rfl) ?_
 obtain ⟨r4, h5, h⟩ := bind_some h
 refine tr1 rfl (cQ (aA rfl) (.func _ _ Try.call18) rfl rfl (BVs.refl _ _) (aGr _ _ h5) rfl) ?_
 refine tr1 rfl (aD (v := .tup [.d (.lit (.bool r4.1)), .d (.lit (.int .i64 r4.2.1)), .d (.lit (.int .i64 r4.2.2))]) (aA rfl) rfl rfl) ?_
 refine tr1 rfl (bZ (aA rfl) rfl rfl) ?_
 refine tr1 rfl (bZ (aA rfl) rfl rfl) ?_
 refine tr1 rfl (bZ (aA rfl) rfl rfl) ?_
 refine tr1 rfl (aK (v := .d (.lit (.bool r4.1))) (aA rfl) rfl rfl) ?_
 refine tr1 rfl (aK (v := .d (.lit (.int .i64 r4.2.1))) (aA rfl) rfl rfl) ?_
 refine tr1 rfl (aK (v := .d (.lit (.int .i64 r4.2.2))) (aA rfl) rfl rfl) ?_
 refine aI ?_
 refine aH ?_
 refine aE ?_
 refine tr1 rfl (bO (aA rfl) rfl (i := 0) rfl gL (es := (bK r1.1)) rfl rfl) ?_
 obtain ⟨r6, h7, h⟩ := bind_some h
 refine tr1 rfl (cQ (aA rfl) (.func _ _ Try.call23) rfl rfl (BVs.refl _ _) (aGq _ h7) rfl) ?_
 refine tr1 rfl (aD (v := .tup [.d (.lit (.int .i64 r6.1)), .d (.lit (.int .i64 r6.2))]) (aA rfl) rfl rfl) ?_
 refine tr1 rfl (bZ (aA rfl) rfl rfl) ?_
 refine tr1 rfl (bZ (aA rfl) rfl rfl) ?_
 refine tr1 rfl (aK (v := .d (.lit (.int .i64 r6.1))) (aA rfl) rfl rfl) ?_
 refine tr1 rfl (aK (v := .d (.lit (.int .i64 r6.2))) (aA rfl) rfl rfl) ?_
 refine aI ?_
 refine aH ?_
 refine aE ?_
 refine tr1 rfl (bO (aA rfl) rfl (i := 0) rfl gL (es := (bK r1.1)) rfl rfl) ?_
 refine tr1 rfl (aD (v := .d (.sl 3 (r1.2.map aR))) (aA rfl) rfl rfl) ?_
 obtain ⟨r8, h9, h⟩ := bind_some h
 refine tr1 rfl (iX (aA rfl) (.func _ _ Try.call17) rfl rfl (aFx _ _ h9)) ?_
 refine tr1 rfl (aD (v := .tup [.d (.sl 2 (r8.1.map bA)), .d (.sl 2 (r8.2.1.map bA)), .d (.lit (.int .i64 r8.2.2))]) (aA rfl) rfl rfl) ?_
 refine tr1 rfl (bZ (aA rfl) rfl rfl) ?_
 refine tr1 rfl (bZ (aA rfl) rfl rfl) ?_
 refine tr1 rfl (bZ (aA rfl) rfl rfl) ?_
 refine tr1 rfl (aK (v := .d (.sl 2 (r8.1.map bA))) (aA rfl) rfl rfl) ?_
 refine tr1 rfl (aK (v := .d (.sl 2 (r8.2.1.map bA))) (aA rfl) rfl rfl) ?_
 refine tr1 rfl (aK (v := .d (.lit (.int .i64 r8.2.2))) (aA rfl) rfl rfl) ?_
 refine aI ?_
 refine aH ?_
 refine aE ?_
 refine tr1 rfl (aD (v := .d (.lit (.int .i64 r4.2.2))) (aA rfl) rfl rfl) ?_
 refine tr1 rfl (bP (aA rfl) rfl rfl rfl) ?_
 refine tr1 rfl (aD (v := .d (.lit (.bool ((decide (r4.2.2 = 0)))))) (aA rfl) rfl rfl) ?_
 obtain ⟨b10, h11, h⟩ := bind_some h
 refine dD 3 [3, 4, 6, 8, 10] 39 b10 ?_ ?_
 ·refine cA (decide (r4.2.2 = 0)) (fun c32 => ?_) (fun c32 => ?_)
  ·have h11 := bB c32 h11
   refine aU rfl rfl (aA rfl) rfl c32 (aD (v := .d (.lit (.int .i64 r6.2))) (aA rfl) rfl rfl) ?_
   refine aU rfl rfl (aA rfl) rfl c32 (bP (aA rfl) rfl rfl rfl) ?_
   refine tr1 rfl (bR (v := .d (.lit (.bool ((decide (r6.2 = 0)))))) (aA rfl) rfl c32 rfl rfl) ?_
   have h11 := Option.some.inj h11
   subst h11
   refine aI (bT rfl ⟨rfl, rfl, rfl, rfl, rfl, trivial⟩ rfl)
  ·have h11 := bD c32 h11
   refine aX rfl rfl (aA rfl) rfl (aA rfl) rfl c32 ?_
   refine aX rfl rfl (aA rfl) rfl (aA rfl) rfl c32 ?_
   refine tr1 rfl (bQ (v := .d (.lit (.bool false))) (aA rfl) rfl c32 rfl rfl) ?_
   have h11 := Option.some.inj h11
   subst h11
   refine aI (bT rfl ⟨rfl, rfl, rfl, rfl, rfl, trivial⟩ rfl)
 ·refine tr1 rfl (aD (v := .d (.lit (.bool b10))) (aA rfl) rfl rfl) ?_
  obtain ⟨b12, h13, h⟩ := bind_some h
  refine dD 3 [3, 4, 6, 8] 43 b12 ?_ ?_
  ·refine cA (b10) (fun c31 => ?_) (fun c31 => ?_)
   ·have h13 := bB c31 h13
    refine aU rfl rfl (aA rfl) rfl c31 (aD (v := .d (.lit (.int .i64 r8.2.2))) (aA rfl) rfl rfl) ?_
    refine aU rfl rfl (aA rfl) rfl c31 (bP (aA rfl) rfl rfl rfl) ?_
    refine tr1 rfl (bR (v := .d (.lit (.bool ((decide (r8.2.2 = 0)))))) (aA rfl) rfl c31 rfl rfl) ?_
    have h13 := Option.some.inj h13
    subst h13
    refine aI (bT rfl ⟨rfl, rfl, rfl, rfl, trivial⟩ rfl)
   ·have h13 := bD c31 h13
    refine aX rfl rfl (aA rfl) rfl (aA rfl) rfl c31 ?_
    refine aX rfl rfl (aA rfl) rfl (aA rfl) rfl c31 ?_
    refine tr1 rfl (bQ (v := .d (.lit (.bool false))) (aA rfl) rfl c31 rfl rfl) ?_
    have h13 := Option.some.inj h13
    subst h13
    refine aI (bT rfl ⟨rfl, rfl, rfl, rfl, trivial⟩ rfl)
  ·refine tr1 rfl (aD (v := .d (.lit (.bool b12))) (aA rfl) rfl rfl) ?_
   obtain ⟨b14, h15, h⟩ := bind_some h
   refine dD 2 [4, 6, 8] 46 b14 ?_ ?_
   ·refine cA (b12) (fun c30 => ?_) (fun c30 => ?_)
    ·have h15 := bB c30 h15
     refine aU rfl rfl (aA rfl) rfl c30 (aD (v := .d (.lit (.bool r4.1))) (aA rfl) rfl rfl) ?_
     refine tr1 rfl (bR (v := .d (.lit (.bool r4.1))) (aA rfl) rfl c30 rfl rfl) ?_
     have h15 := Option.some.inj h15
     subst h15
     refine aI (bT rfl ⟨rfl, rfl, rfl, trivial⟩ rfl)
    ·have h15 := bD c30 h15
     refine aX rfl rfl (aA rfl) rfl (aA rfl) rfl c30 ?_
     refine tr1 rfl (bQ (v := .d (.lit (.bool false))) (aA rfl) rfl c30 rfl rfl) ?_
     have h15 := Option.some.inj h15
     subst h15
     refine aI (bT rfl ⟨rfl, rfl, rfl, trivial⟩ rfl)
   ·refine tr1 rfl (aD (v := .d (.lit (.bool b14))) (aA rfl) rfl rfl) ?_
    obtain ⟨b16, h17, h⟩ := bind_some h
    refine dD 3 [6, 8] 50 b16 ?_ ?_
    ·refine cA (b14) (fun c29 => ?_) (fun c29 => ?_)
     ·have h17 := bB c29 h17
      refine aU rfl rfl (aA rfl) rfl c29 (aD (v := .d (.lit (.int .i64 r4.2.1))) (aA rfl) rfl rfl) ?_
      refine aU rfl rfl (aA rfl) rfl c29 (bP (aA rfl) rfl rfl rfl) ?_
      refine tr1 rfl (bR (v := .d (.lit (.bool ((decide (r4.2.1 = (-1))))))) (aA rfl) rfl c29 rfl rfl) ?_
      have h17 := Option.some.inj h17
      subst h17
      refine aI (bT rfl ⟨rfl, rfl, trivial⟩ rfl)
     ·have h17 := bD c29 h17
      refine aX rfl rfl (aA rfl) rfl (aA rfl) rfl c29 ?_
      refine aX rfl rfl (aA rfl) rfl (aA rfl) rfl c29 ?_
      refine tr1 rfl (bQ (v := .d (.lit (.bool false))) (aA rfl) rfl c29 rfl rfl) ?_
      have h17 := Option.some.inj h17
      subst h17
      refine aI (bT rfl ⟨rfl, rfl, trivial⟩ rfl)
    ·refine tr1 rfl (aD (v := .d (.lit (.bool b16))) (aA rfl) rfl rfl) ?_
     obtain ⟨b18, h19, h⟩ := bind_some h
     refine dD 3 [8] 54 b18 ?_ ?_
     ·refine cA (b16) (fun c28 => ?_) (fun c28 => ?_)
      ·have h19 := bB c28 h19
       refine aU rfl rfl (aA rfl) rfl c28 (aD (v := .d (.lit (.int .i64 r6.1))) (aA rfl) rfl rfl) ?_
       refine aU rfl rfl (aA rfl) rfl c28 (bP (aA rfl) rfl rfl rfl) ?_
       refine tr1 rfl (bR (v := .d (.lit (.bool ((decide (r6.1 = 1)))))) (aA rfl) rfl c28 rfl rfl) ?_
       have h19 := Option.some.inj h19
       subst h19
       refine aI (bT rfl ⟨rfl, trivial⟩ rfl)
      ·have h19 := bD c28 h19
       refine aX rfl rfl (aA rfl) rfl (aA rfl) rfl c28 ?_
       refine aX rfl rfl (aA rfl) rfl (aA rfl) rfl c28 ?_
       refine tr1 rfl (bQ (v := .d (.lit (.bool false))) (aA rfl) rfl c28 rfl rfl) ?_
       have h19 := Option.some.inj h19
       subst h19
       refine aI (bT rfl ⟨rfl, trivial⟩ rfl)
     ·refine tr1 rfl (aD (v := .d (.lit (.bool b18))) (aA rfl) rfl rfl) ?_
      obtain ⟨b20, h21, h⟩ := bind_some h
      refine dD 4 [8] 59 b20 ?_ ?_
      ·refine cA (b18) (fun c27 => ?_) (fun c27 => ?_)
       ·have h21 := bB c27 h21
        refine aU rfl rfl (aA rfl) rfl c27 (aD (v := .d (.sl 2 (r8.1.map bA))) (aA rfl) rfl rfl) ?_
        refine aU rfl rfl (aA rfl) rfl c27 (dC (aA rfl) rfl kC.of) ?_
        refine aU rfl rfl (aA rfl) rfl c27 (bP (aA rfl) rfl rfl rfl) ?_
        refine tr1 rfl (bR (v := .d (.lit (.bool ((decide ((r8.1.length : Int) = 3)))))) (aA rfl) rfl c27 rfl rfl) ?_
        have h21 := Option.some.inj h21
        subst h21
        refine aI (bT rfl ⟨rfl, trivial⟩ rfl)
       ·have h21 := bD c27 h21
        refine aX rfl rfl (aA rfl) rfl (aA rfl) rfl c27 ?_
        refine aX rfl rfl (aA rfl) rfl (aA rfl) rfl c27 ?_
        refine aX rfl rfl (aA rfl) rfl (aA rfl) rfl c27 ?_
        refine tr1 rfl (bQ (v := .d (.lit (.bool false))) (aA rfl) rfl c27 rfl rfl) ?_
        have h21 := Option.some.inj h21
        subst h21
        refine aI (bT rfl ⟨rfl, trivial⟩ rfl)
      ·refine tr1 rfl (aD (v := .d (.lit (.bool b20))) (aA rfl) rfl rfl) ?_
       obtain ⟨b22, h23, h⟩ := bind_some h
       refine dD 6 [] 66 b22 ?_ ?_
       ·refine cA (b20) (fun c24 => ?_) (fun c24 => ?_)
        ·have h23 := bB c24 h23
         refine aU rfl rfl (aA rfl) rfl c24 (aD (v := .d (.sl 2 (r8.1.map bA))) (aA rfl) rfl rfl) ?_
         obtain ⟨x25, h26, h23⟩ := bind_some h23
         refine aU rfl rfl (aA rfl) rfl c24 (bU (aA rfl) rfl rfl kC.of (cE bA h26)) ?_
         refine aU rfl rfl (aA rfl) rfl c24 (dE (aA rfl) rfl gM (es := (bA x25)) rfl rfl) ?_
         refine aU rfl rfl (aA rfl) rfl c24 (eD (aA rfl) pG (zs := [.lit (.int .i64 0), .lit (.int .i64 0)]) rfl rfl rfl rfl (es := [.lit (.int .i64 690), .lit (.int .i64 750)]) rfl) ?_
         refine aU rfl rfl (aA rfl) rfl c24 (aLz (a := x25) (b := (bJ.mk 690 750)) (aA rfl) rfl rfl rfl rfl Try.eqGuardType34 wC) ?_
         refine tr1 rfl (bR (v := .d (.lit (.bool ((decide (x25 = (bJ.mk 690 750))))))) (aA rfl) rfl c24 rfl rfl) ?_
         have h23 := Option.some.inj h23
         subst h23
         refine aI (bT rfl trivial rfl)
        ·have h23 := bD c24 h23
         refine aX rfl rfl (aA rfl) rfl (aA rfl) rfl c24 ?_
         refine aX rfl rfl (aA rfl) rfl (aA rfl) rfl c24 ?_
         refine aX rfl rfl (aA rfl) rfl (aA rfl) rfl c24 ?_
         refine aX rfl rfl (aA rfl) rfl (aA rfl) rfl c24 ?_
         refine aX rfl rfl (aA rfl) rfl (aA rfl) rfl c24 ?_
         refine tr1 rfl (bQ (v := .d (.lit (.bool false))) (aA rfl) rfl c24 rfl rfl) ?_
         have h23 := Option.some.inj h23
         subst h23
         refine aI (bT rfl trivial rfl)
       ·refine tr1 rfl (aK (v := .d (.lit (.bool b22))) (aA rfl) rfl rfl) ?_
        refine aI ?_
        have h := Option.some.inj h
        subst h
        refine cT (cR (cU (l := [0]) ⟨rfl, trivial⟩)) ?_
        exact cB ⟨rfl, _, .one _, rfl, rfl⟩

theorem fK (n_0 : Int) (low_1 : Int) (high_2 : Int) {r : Bool} (h : fH n_0 low_1 high_2 = some r) : Fn Try.prog 120 [.d (.lit (.int .i64 n_0)), .d (.lit (.int .i64 low_1)), .d (.lit (.int .i64 high_2))] (.d (.lit (.bool r))) := by
 unfold fH at h
 refine Fn.of_tr Try.func120 rfl (rs := [.tmp 6]) Try.results120 Try.ntmps120 (Nat.le_of_ble_eq_true rfl) ?_
 refine aH ?_
 refine aE ?_
 refine tr1 rfl (aK (v := .d (.lit (.bool false))) (aA rfl) rfl rfl) ?_
 refine aI ?_
 refine aH ?_
 refine aE ?_
 refine tr1 rfl (aD (v := .d (.lit (.int .i64 low_1))) (aA rfl) rfl rfl) ?_
 refine tr1 rfl (aD (v := .d (.lit (.int .i64 n_0))) (aA rfl) rfl rfl) ?_
 refine tr1 rfl (bP (aA rfl) rfl rfl rfl) ?_
 refine tr1 rfl (aD (v := .d (.lit (.bool ((decide (low_1 ≤ n_0)))))) (aA rfl) rfl rfl) ?_
 obtain ⟨b1, h2, h⟩ := bind_some h
 refine dD 4 [] 14 b1 ?_ ?_
 ·refine cA (decide (low_1 ≤ n_0)) (fun c3 => ?_) (fun c3 => ?_)
  ·have h2 := bB c3 h2
   refine aU rfl rfl (aA rfl) rfl c3 (aD (v := .d (.lit (.int .i64 n_0))) (aA rfl) rfl rfl) ?_
   refine aU rfl rfl (aA rfl) rfl c3 (aD (v := .d (.lit (.int .i64 high_2))) (aA rfl) rfl rfl) ?_
   refine aU rfl rfl (aA rfl) rfl c3 (bP (aA rfl) rfl rfl rfl) ?_
   refine tr1 rfl (bR (v := .d (.lit (.bool ((decide (n_0 ≤ high_2)))))) (aA rfl) rfl c3 rfl rfl) ?_
   have h2 := Option.some.inj h2
   subst h2
   refine aI (bT rfl trivial rfl)
  ·have h2 := bD c3 h2
   refine aX rfl rfl (aA rfl) rfl (aA rfl) rfl c3 ?_
   refine aX rfl rfl (aA rfl) rfl (aA rfl) rfl c3 ?_
   refine aX rfl rfl (aA rfl) rfl (aA rfl) rfl c3 ?_
   refine tr1 rfl (bQ (v := .d (.lit (.bool false))) (aA rfl) rfl c3 rfl rfl) ?_
   have h2 := Option.some.inj h2
   subst h2
   refine aI (bT rfl trivial rfl)
 ·refine tr1 rfl (aK (v := .d (.lit (.bool b1))) (aA rfl) rfl rfl) ?_
  refine aI ?_
  have h := Option.some.inj h
  subst h
  exact cB ⟨rfl, _, .one _, rfl, rfl⟩

theorem aBc (t_0 : aV) {r : Bool} (h : kY t_0 = some r) : Fn Try.prog 102 [.agg (bS t_0)] (.d (.lit (.bool r))) := by
 unfold kY at h
 refine Fn.of_tr Try.func102 rfl (rs := [.tmp 2]) Try.results102 Try.ntmps102 (Nat.le_of_ble_eq_true rfl) ?_
 refine aH ?_
 refine aE ?_
 refine cI rfl (eU (v := .agg (bS t_0)) (aA rfl) rfl rfl rfl) ?_
 rintro _ ⟨b1, rfl⟩
 refine tr1 rfl (aK (v := .d (.lit (.bool false))) (aA rfl) rfl rfl) ?_
 refine aI ?_
 refine aH ?_
 refine aH ?_
 obtain ⟨r2, h3, h⟩ := bind_some h
 obtain ⟨b4, h5, h⟩ := bind_some h
 refine eS mix 13 [1] [(18, .d (.lit (.bool b4)))] ?_ ?_
 ·refine cA (!r2) (fun c6 => ?_) (fun c6 => ?_)
  ·have h5 := bB c6 h5
   have h5 := Option.some.inj h5
   subst h5
   refine ⟨[(6, 0, .bp b1 0 0), (7, 1, .d (.lit (.int .i64 t_0.Rounds))), (8, 2, .d (.lit (.bool r2))), (9, 3, .d (.lit (.bool (!r2)))), (10, 4, .d (.lit (.bool (!r2)))), (11, 5, .tup []), (12, 6, .tup []), (13, 7, .tup []), (14, 8, .tup []), (15, 9, .tup []), (16, 10, .tup []), (17, 11, .tup []), (18, 12, .d (.lit (.bool true)))], ?_, ?_⟩
   · exact ⟨by kernel_rfl, by kernel_rfl, by kernel_rfl, by kernel_rfl, by kernel_rfl, [([], []), ([0], []), ([1], []), ([2], []), ([3], []), ([4], []), ([4, 5], []), ([4, 6], []), ([4], []), ([4, 8], []), ([4, 9], []), ([4, 7, 10], []), ([4, 11], [])], by kernel_rfl, ⟨fun S hS => aB rfl (aL rfl (aN (aA rfl) (aC hS rfl) jG)),
      fun S hS => aB rfl (aL rfl (aQ (aA rfl) (aC hS rfl) (i := 0) rfl rfl bL)),
      fun S hS => aB rfl (aL rfl (cQ (aA rfl) (.func _ _ Try.call120) (ev2 (aC hS rfl) (ev2 rfl (ev2 rfl evn))) rfl (BVs.refl _ _) (fK _ _ _ h3) rfl)),
      fun S hS => aB rfl (aL rfl (fE (aA rfl) (aC hS rfl))),
      fun S hS => aB rfl (aL rfl (aD (v := .d (.lit (.bool (!r2)))) (aA rfl) (aC hS rfl) rfl)),
      fun S hS => aB rfl (aM rfl rfl (aA rfl) rfl (aA rfl) (aF hS rfl) c6),
      fun S hS => aB rfl (aM rfl rfl (aA rfl) rfl (aA rfl) (aF hS rfl) c6),
      fun S hS => aB rfl (aM rfl rfl (aA rfl) rfl (aA rfl) (aF hS rfl) c6),
      fun S hS => aB rfl (aM rfl rfl (aA rfl) rfl (aA rfl) (aF hS rfl) c6),
      fun S hS => aB rfl (aM rfl rfl (aA rfl) rfl (aA rfl) (aF hS rfl) c6),
      fun S hS => aB rfl (aM rfl rfl (aA rfl) rfl (aA rfl) (aF hS rfl) c6),
      fun S hS => aB rfl (aM rfl rfl (aA rfl) rfl (aA rfl) (aF hS rfl) c6),
      fun S hS => aB rfl (aL rfl (bR (v := .d (.lit (.bool true))) (aA rfl) (aC hS rfl) c6 rfl rfl)), trivial⟩⟩
   · exact dB (aZ rfl (bC ⟨rfl, trivial⟩))
  ·have h5 := bD c6 h5
   obtain ⟨u7, h8, h5⟩ := bind_some h5
   have h5 := Option.some.inj h5
   subst h5
   refine ⟨[(6, 0, .bp b1 0 0), (7, 1, .d (.lit (.int .i64 t_0.Rounds))), (8, 2, .d (.lit (.bool r2))), (9, 3, .d (.lit (.bool (!r2)))), (10, 4, .d (.lit (.bool (!r2)))), (11, 5, .bp b1 0 1), (12, 6, .d (.sl 1 (t_0.Slots.map aW))), (13, 7, .d (.lit (.int .i64 ((t_0.Slots.length : Int))))), (14, 8, .bp b1 0 0), (15, 9, .d (.lit (.int .i64 t_0.Rounds))), (16, 10, .d (.lit (.int .i64 ((w64 (1 * 2 ^ (min t_0.Rounds.toNat 64))))))), (17, 11, .d (.lit (.bool ((!decide ((t_0.Slots.length : Int) = (w64 (1 * 2 ^ (min t_0.Rounds.toNat 64))))))))), (18, 12, .d (.lit (.bool ((!decide ((t_0.Slots.length : Int) = (w64 (1 * 2 ^ (min t_0.Rounds.toNat 64)))))))))], ?_, ?_⟩
   · exact ⟨by kernel_rfl, by kernel_rfl, by kernel_rfl, by kernel_rfl, by kernel_rfl, [([], []), ([0], []), ([1], []), ([2], []), ([3], []), ([4], []), ([4, 5], []), ([4, 6], []), ([4], []), ([4, 8], []), ([4, 9], []), ([4, 7, 10], []), ([4, 11], [])], by kernel_rfl, ⟨fun S hS => aB rfl (aL rfl (aN (aA rfl) (aC hS rfl) jG)),
      fun S hS => aB rfl (aL rfl (aQ (aA rfl) (aC hS rfl) (i := 0) rfl rfl bL)),
      fun S hS => aB rfl (aL rfl (cQ (aA rfl) (.func _ _ Try.call120) (ev2 (aC hS rfl) (ev2 rfl (ev2 rfl evn))) rfl (BVs.refl _ _) (fK _ _ _ h3) rfl)),
      fun S hS => aB rfl (aL rfl (fE (aA rfl) (aC hS rfl))),
      fun S hS => aB rfl (aL rfl (aD (v := .d (.lit (.bool (!r2)))) (aA rfl) (aC hS rfl) rfl)),
      fun S hS => aB rfl (aO rfl rfl (aA rfl) (aF hS rfl) c6 (aN (aA rfl) (aC hS rfl) mQ)),
      fun S hS => aB rfl (aO rfl rfl (aA rfl) (aF hS rfl) c6 (aQ (aA rfl) (aC hS rfl) (i := 0) rfl rfl eI)),
      fun S hS => aB rfl (aO rfl rfl (aA rfl) (aF hS rfl) c6 (dC (aA rfl) (aC hS rfl) dV.of)),
      fun S hS => aB rfl (aO rfl rfl (aA rfl) (aF hS rfl) c6 (aN (aA rfl) (aC hS rfl) jG)),
      fun S hS => aB rfl (aO rfl rfl (aA rfl) (aF hS rfl) c6 (aQ (aA rfl) (aC hS rfl) (i := 0) rfl rfl bL)),
      fun S hS => aB rfl (aO rfl rfl (aA rfl) (aF hS rfl) c6 (aEw (aA rfl) rfl (aC hS rfl) (vC h8))),
      fun S hS => aB rfl (aO rfl rfl (aA rfl) (aF hS rfl) c6 (bP (aA rfl) (aC hS rfl) (aC hS rfl) rfl)),
      fun S hS => aB rfl (aL rfl (bQ (v := .d (.lit (.bool ((!decide ((t_0.Slots.length : Int) = (w64 (1 * 2 ^ (min t_0.Rounds.toNat 64))))))))) (aA rfl) (aC hS rfl) c6 (aC hS rfl) rfl)), trivial⟩⟩
   · exact dB (aZ rfl (bC ⟨rfl, trivial⟩))
 ·refine aI ?_
  refine cK rfl (fun c9 => ?_) (fun c9 => ?_)
  ·have h := bB c9 h
   refine aH ?_
   refine aE ?_
   refine tr1 rfl (aK (v := .d (.lit (.bool false))) (aA rfl) rfl rfl) ?_
   refine aI ?_
   have h := Option.some.inj h
   subst h
   refine cT (cR (cU (l := [2]) ⟨rfl, trivial⟩)) ?_
   exact cB ⟨rfl, _, .one _, rfl, rfl⟩
  ·have h := bD c9 h
   refine cF ?_
   refine aH ?_
   refine aE ?_
   refine cI rfl (sS (aA rfl)) ?_
   rintro _ ⟨r10, rfl⟩
   refine tr1 rfl (aK (v := .d (.lit (.map (some r10)))) (aA rfl) rfl rfl) ?_
   refine aI ?_
   refine aH ?_
   refine aH ?_
   refine aE ?_
   refine tr1 rfl (aN (aA rfl) rfl mQ) ?_
   refine tr1 rfl (aQ (aA rfl) rfl (i := 0) rfl rfl eI) ?_
   refine tr1 rfl (dC (aA rfl) rfl dV.of) ?_
   refine tr1 rfl (aD (v := .d (.lit (.int .i64 0))) (aA rfl) rfl rfl) ?_
   refine aI ?_
   refine cW ?_
   refine dY [1, 3, 21, 22] (fun (s11 : Int × (List (Int × Int)) × (List Nat) × Nat) => [(23, .d (.lit (.int .i64 s11.1)))]) (fun (s11 : Int × (List (Int × Int)) × (List Nat) × Nat) => [.box b1 0 (bS t_0), .map r10 (s11.2.1.map fun p : Int × Int => ((fun n : Int => Value.int .i64 n) p.1, (fun v : Int => AV.d (.lit (.int .i64 v))) p.2)) s11.2.2.1 s11.2.2.2]) (fun (k : Nat) (s11 : Int × (List (Int × Int)) × (List Nat) × Nat) => gH t_0.Slots (t_0.Slots.length : Int) t_0 k s11.1 s11.2.1) (fun _ => rfl) (0, ([] : List (Int × Int)), [], 0) h (bI [0, 1] rfl rfl (aZ rfl (bC ⟨rfl, rfl, rfl, rfl, trivial⟩))) ?_
   rintro k14 ⟨t23_0_11, o19_0_11, bs12, ck13⟩ h
   simp only [gH] at h
   refine aH ?_
   refine aE ?_
   refine tr1 rfl (bP (aA rfl) rfl rfl rfl) ?_
   refine aI ?_
   refine aH ?_
   refine cK rfl (fun c15 => ?_) (fun c15 => ?_)
   ·have h := bB c15 h
    refine cF ?_
    refine aH ?_
    refine cW ?_
    refine aH ?_
    refine aE ?_
    refine tr1 rfl (aD (v := .d (.lit (.int .i64 t23_0_11))) (aA rfl) rfl rfl) ?_
    obtain ⟨x16, h17, h⟩ := bind_some h
    refine tr1 rfl (bU (aA rfl) rfl rfl dV.of (cE aW h17)) ?_
    refine tr1 rfl (cJ (aA rfl) rfl bL) ?_
    refine tr1 rfl (aK (v := .d (.lit (.int .i64 t23_0_11))) (aA rfl) rfl rfl) ?_
    refine tr1 rfl (aK (v := .d (.lit (.int .i64 x16))) (aA rfl) rfl rfl) ?_
    refine aI ?_
    refine aH ?_
    refine aH ?_
    refine aE ?_
    refine tr1 rfl (aD (v := .d (.lit (.int .i64 x16))) (aA rfl) rfl rfl) ?_
    refine tr1 rfl (bP (aA rfl) rfl rfl rfl) ?_
    refine aI ?_
    refine cK rfl (fun c18 => ?_) (fun c18 => ?_)
    ·have h := bB c18 h
     refine aH ?_
     refine aH ?_
     refine aE ?_
     refine tr1 rfl (aN (aA rfl) rfl mQ) ?_
     refine tr1 rfl (aQ (aA rfl) rfl (i := 0) rfl rfl eI) ?_
     refine tr1 rfl (aD (v := .d (.lit (.int .i64 t23_0_11))) (aA rfl) rfl rfl) ?_
     refine tr1 rfl (zY (aA rfl) rfl rfl (.inr (.inr ⟨rfl, rfl⟩))) ?_
     obtain ⟨x19, h20, h⟩ := bind_some h
     refine tr1 rfl (bU (aA rfl) rfl rfl dV.of (cE aW h20)) ?_
     refine tr1 rfl (cJ (aA rfl) rfl bL) ?_
     refine tr1 rfl (bP (aA rfl) rfl rfl rfl) ?_
     refine aI ?_
     refine cK rfl (fun c21 => ?_) (fun c21 => ?_)
     ·have h := bB c21 h
      refine aH ?_
      refine aE ?_
      refine tr1 rfl (aK (v := .d (.lit (.bool false))) (aA rfl) rfl rfl) ?_
      refine aI ?_
      have h := Option.some.inj h
      subst h
      refine cT (cR (cU (l := [2]) ⟨rfl, trivial⟩)) ?_
      exact cB ⟨rfl, _, .one _, rfl, rfl⟩
     ·have h := bD c21 h
      refine cF ?_
      refine dO ?_
      refine .inl ⟨rfl, ?_⟩
      refine aE ?_
      refine tr1 rfl (cG (aA rfl) rfl rfl rfl) ?_
      refine tr1 rfl (aD (v := .d (.lit (.int .i64 ((w64 (t23_0_11 + 1)))))) (aA rfl) rfl rfl) ?_
      refine aI ?_
      exact ⟨(w64 (t23_0_11 + 1), o19_0_11, bs12, ck13), h, bI [0, 1] rfl rfl (aZ rfl (bC ⟨rfl, rfl, rfl, rfl, trivial⟩))⟩
    ·have h := bD c18 h
     refine cF ?_
     refine aH ?_
     refine aE ?_
     refine tr1 rfl (aD (v := .d (.lit (.map (some r10)))) (aA rfl) rfl rfl) ?_
     refine tr1 rfl (aD (v := .d (.lit (.int .i64 x16))) (aA rfl) rfl rfl) ?_
     refine tr1 rfl (uT (av := (fun v : Int => AV.d (.lit (.int .i64 v)))) (l := o19_0_11) (z := 0) (a := x16) (m := 1) (aA rfl) aIm Try.underlying173 Try.zeroValue3 (fun _ _ => .d (.lit _ rfl)) rfl rfl rfl rfl (zD (kv := (fun n : Int => Value.int .i64 n)) x16)) ?_
     refine tr1 rfl (cG (aA rfl) rfl rfl rfl) ?_
     refine tr1 rfl (vV (av := (fun v : Int => AV.d (.lit (.int .i64 v)))) (l := o19_0_11) (v := w64 ((cZ x16 0 o19_0_11) + 1)) (a := x16) (m := 1) aIm Try.underlying173 rfl rfl rfl rfl (zD (kv := (fun n : Int => Value.int .i64 n)) x16) rfl rfl) ?_
     refine aI ?_
     refine aH ?_
     refine aE ?_
     refine tr1 rfl (aD (v := .d (.lit (.map (some r10)))) (aA rfl) rfl rfl) ?_
     refine tr1 rfl (aD (v := .d (.lit (.int .i64 x16))) (aA rfl) rfl rfl) ?_
     refine tr1 rfl (uT (av := (fun v : Int => AV.d (.lit (.int .i64 v)))) (l := (eP x16 (w64 ((cZ x16 0 o19_0_11) + 1)) o19_0_11)) (z := 0) (a := x16) (m := 1) (aA rfl) aIm Try.underlying173 Try.zeroValue3 (fun _ _ => .d (.lit _ rfl)) rfl rfl rfl rfl (zD (kv := (fun n : Int => Value.int .i64 n)) x16)) ?_
     refine tr1 rfl (bP (aA rfl) rfl rfl rfl) ?_
     refine tr1 rfl (aD (v := .d (.lit (.bool ((decide (1 < (cZ x16 0 (eP x16 (w64 ((cZ x16 0 o19_0_11) + 1)) o19_0_11)))))))) (aA rfl) rfl rfl) ?_
     obtain ⟨b22, h23, h⟩ := bind_some h
     refine dD 4 [1, 3, 21, 22, 23] 49 b22 ?_ ?_
     ·refine cA (decide (1 < (cZ x16 0 (eP x16 (w64 ((cZ x16 0 o19_0_11) + 1)) o19_0_11)))) (fun c25 => ?_) (fun c25 => ?_)
      ·have h23 := bB c25 h23
       refine aX rfl rfl (aA rfl) rfl (aA rfl) rfl c25 ?_
       refine aX rfl rfl (aA rfl) rfl (aA rfl) rfl c25 ?_
       refine aX rfl rfl (aA rfl) rfl (aA rfl) rfl c25 ?_
       refine tr1 rfl (bR (v := .d (.lit (.bool true))) (aA rfl) rfl c25 rfl rfl) ?_
       have h23 := Option.some.inj h23
       subst h23
       refine aI (bT rfl ⟨rfl, rfl, rfl, rfl, rfl, trivial⟩ rfl)
      ·have h23 := bD c25 h23
       refine aU rfl rfl (aA rfl) rfl c25 (aD (v := .d (.lit (.int .i64 x16))) (aA rfl) rfl rfl) ?_
       obtain ⟨r26, h27, h23⟩ := bind_some h23
       refine aU rfl rfl (aA rfl) rfl c25 (cQ (aA rfl) (.func _ _ Try.call120) rfl rfl (BVs.refl _ _) (fK _ _ _ h27) rfl) ?_
       refine aU rfl rfl (aA rfl) rfl c25 (fE (aA rfl) rfl) ?_
       refine tr1 rfl (bQ (v := .d (.lit (.bool (!r26)))) (aA rfl) rfl c25 rfl rfl) ?_
       have h23 := Option.some.inj h23
       subst h23
       refine aI (bT rfl ⟨rfl, rfl, rfl, rfl, rfl, trivial⟩ rfl)
     ·refine aI ?_
      refine cK rfl (fun c24 => ?_) (fun c24 => ?_)
      ·have h := bB c24 h
       refine aH ?_
       refine aE ?_
       refine tr1 rfl (aK (v := .d (.lit (.bool false))) (aA rfl) rfl rfl) ?_
       refine aI ?_
       have h := Option.some.inj h
       subst h
       refine cT (cR (cU (l := [2]) ⟨rfl, trivial⟩)) ?_
       exact cB ⟨rfl, _, .one _, rfl, rfl⟩
      ·have h := bD c24 h
       refine fB ?_
       refine aE ?_
       refine tr1 rfl (cG (aA rfl) rfl rfl rfl) ?_
       refine tr1 rfl (aD (v := .d (.lit (.int .i64 ((w64 (t23_0_11 + 1)))))) (aA rfl) rfl rfl) ?_
       refine aI ?_
       exact ⟨(w64 (t23_0_11 + 1), (eP x16 (w64 ((cZ x16 0 o19_0_11) + 1)) o19_0_11), (mbs x16 o19_0_11 bs12 ck13), (mck x16 o19_0_11 ck13)), h, bI [0, 1] rfl rfl (aZ rfl (bC ⟨rfl, rfl, rfl, rfl, trivial⟩))⟩
   ·have h := bD c15 h
    refine dO ?_
    refine .inl ⟨rfl, ?_⟩
    simp only [oZ] at h
    refine aH ?_
    refine aE ?_
    refine tr1 rfl (aK (v := .d (.lit (.bool true))) (aA rfl) rfl rfl) ?_
    refine aI ?_
    have h := Option.some.inj h
    subst h
    refine cT (cR (cU (l := [2]) ⟨rfl, trivial⟩)) ?_
    exact cB ⟨rfl, _, .one _, rfl, rfl⟩

theorem sT (s_0 : List aJ) (f_1 : aJ → Option Bool) {r : Int} (f_1_f : Nat) (f_1_v : List AV) (f_1_e : ∀ args w, (callFunc f_1_f args).run Try.prog w = .ok (.enter f_1_f args) w) (f_1_h : ∀ (x0 : aJ) r, f_1 x0 = some r → Fn Try.prog f_1_f ([.agg (aY x0)] ++ f_1_v) (.d (.lit (.bool r)))) (h : gP s_0 f_1 = some r) : Fn Try.prog 121 [.d (.sl 5 (s_0.map aY)), .fn f_1_f f_1_v] (.d (.lit (.int .i64 r))) := by
 unfold gP at h
 refine Fn.of_tr Try.func121 rfl (rs := [.tmp 4]) Try.results121 Try.ntmps121 (Nat.le_of_ble_eq_true rfl) ?_
 refine aH ?_
 refine aE ?_
 refine tr1 rfl (aK (v := .d (.lit (.int .i64 0))) (aA rfl) rfl rfl) ?_
 refine aI ?_
 refine aH ?_
 refine aH ?_
 refine aE ?_
 refine tr1 rfl (aD (v := .d (.sl 5 (s_0.map aY))) (aA rfl) rfl rfl) ?_
 refine tr1 rfl (dC (aA rfl) rfl vN.of) ?_
 refine tr1 rfl (aD (v := .d (.lit (.int .i64 0))) (aA rfl) rfl rfl) ?_
 refine aI ?_
 refine cW ?_
 refine dY [0, 1, 7] (fun (s1 : Int) => [(8, .d (.lit (.int .i64 s1)))]) (fun (s1 : Int) => []) (fun (k : Nat) (s1 : Int) => eL s_0 f_1 (s_0.length : Int) k s1) (fun _ => rfl) (0) h (bI [] rfl rfl (aZ rfl (bC ⟨rfl, rfl, rfl, trivial⟩))) ?_
 rintro k2 t8_0_1 h
 simp only [eL] at h
 refine aH ?_
 refine aE ?_
 refine tr1 rfl (bP (aA rfl) rfl rfl rfl) ?_
 refine aI ?_
 refine aH ?_
 refine cK rfl (fun c3 => ?_) (fun c3 => ?_)
 ·have h := bB c3 h
  refine cF ?_
  refine aH ?_
  refine cW ?_
  refine aH ?_
  refine aE ?_
  refine tr1 rfl (aD (v := .d (.lit (.int .i64 t8_0_1))) (aA rfl) rfl rfl) ?_
  refine tr1 rfl (aK (v := .d (.lit (.int .i64 t8_0_1))) (aA rfl) rfl rfl) ?_
  refine aI ?_
  refine aH ?_
  refine aE ?_
  refine tr1 rfl (aD (v := .fn f_1_f f_1_v) (aA rfl) rfl rfl) ?_
  refine tr1 rfl (aD (v := .d (.sl 5 (s_0.map aY))) (aA rfl) rfl rfl) ?_
  refine tr1 rfl (aD (v := .d (.lit (.int .i64 t8_0_1))) (aA rfl) rfl rfl) ?_
  obtain ⟨x4, h5, h⟩ := bind_some h
  refine tr1 rfl (bU (aA rfl) rfl rfl vN.of (cE aY h5)) ?_
  refine tr1 rfl (dE (aA rfl) rfl lY (es := (aY x4)) rfl rfl) ?_
  obtain ⟨r6, h7, h⟩ := bind_some h
  refine tr1 rfl (cQ (aA rfl) (.clo _ _ _ _ f_1_e rfl) (yS rfl) rfl (BVs.refl _ _) (f_1_h _ _  h7) rfl) ?_
  refine aI ?_
  refine cK rfl (fun c8 => ?_) (fun c8 => ?_)
  ·have h := bB c8 h
   refine aH ?_
   refine aE ?_
   refine tr1 rfl (aD (v := .d (.lit (.int .i64 t8_0_1))) (aA rfl) rfl rfl) ?_
   refine tr1 rfl (aK (v := .d (.lit (.int .i64 t8_0_1))) (aA rfl) rfl rfl) ?_
   refine aI ?_
   have h := Option.some.inj h
   subst h
   exact cB ⟨rfl, _, .one _, rfl, rfl⟩
  ·have h := bD c8 h
   refine fB ?_
   refine aE ?_
   refine tr1 rfl (cG (aA rfl) rfl rfl rfl) ?_
   refine tr1 rfl (aD (v := .d (.lit (.int .i64 ((w64 (t8_0_1 + 1)))))) (aA rfl) rfl rfl) ?_
   refine aI ?_
   exact ⟨(w64 (t8_0_1 + 1)), h, bI [] rfl rfl (aZ rfl (bC ⟨rfl, rfl, rfl, trivial⟩))⟩
 ·have h := bD c3 h
  refine dO ?_
  refine .inl ⟨rfl, ?_⟩
  simp only [kB] at h
  refine aH ?_
  refine aE ?_
  refine tr1 rfl (aK (v := .d (.lit (.int .i64 (-1)))) (aA rfl) rfl rfl) ?_
  refine aI ?_
  have h := Option.some.inj h
  subst h
  exact cB ⟨rfl, _, .one _, rfl, rfl⟩

theorem qY (s_0 : List aJ) (f_1 : aJ → Option Bool) {r : Bool} (f_1_f : Nat) (f_1_v : List AV) (f_1_e : ∀ args w, (callFunc f_1_f args).run Try.prog w = .ok (.enter f_1_f args) w) (f_1_h : ∀ (x0 : aJ) r, f_1 x0 = some r → Fn Try.prog f_1_f ([.agg (aY x0)] ++ f_1_v) (.d (.lit (.bool r)))) (h : fV s_0 f_1 = some r) : Fn Try.prog 103 [.d (.sl 5 (s_0.map aY)), .fn f_1_f f_1_v] (.d (.lit (.bool r))) := by
 unfold fV at h
 refine Fn.of_tr Try.func103 rfl (rs := [.tmp 4]) Try.results103 Try.ntmps103 (Nat.le_of_ble_eq_true rfl) ?_
 refine aH ?_
 refine aE ?_
 refine tr1 rfl (aK (v := .d (.lit (.bool false))) (aA rfl) rfl rfl) ?_
 refine aI ?_
 refine aH ?_
 refine aE ?_
 refine tr1 rfl (aD (v := .d (.sl 5 (s_0.map aY))) (aA rfl) rfl rfl) ?_
 refine tr1 rfl (aD (v := .fn f_1_f f_1_v) (aA rfl) rfl rfl) ?_
 obtain ⟨r1, h2, h⟩ := bind_some h
 refine tr1 rfl (cQ (aA rfl) (.func _ _ Try.call121) rfl rfl (BVs.refl _ _) (sT _ _ f_1_f f_1_v f_1_e f_1_h h2) rfl) ?_
 refine tr1 rfl (bP (aA rfl) rfl rfl rfl) ?_
 refine tr1 rfl (aK (v := .d (.lit (.bool ((decide (0 ≤ r1)))))) (aA rfl) rfl rfl) ?_
 refine aI ?_
 have h := Option.some.inj h
 subst h
 exact cB ⟨rfl, _, .one _, rfl, rfl⟩

theorem sF (m_0 : aG) (t_1 : aV) {r : Bool} (h : jW m_0 t_1 = some r) : Fn Try.prog 107 [.agg (aP m_0), .agg (bS t_1)] (.d (.lit (.bool r))) := by
 unfold jW at h
 refine Fn.of_tr Try.func107 rfl (rs := [.tmp 4]) Try.results107 Try.ntmps107 (Nat.le_of_ble_eq_true rfl) ?_
 refine aH ?_
 refine aE ?_
 refine cI rfl (eU (v := .agg (aP m_0)) (aA rfl) rfl rfl rfl) ?_
 rintro _ ⟨b1, rfl⟩
 refine cI rfl (eU (v := .agg (bS t_1)) (aA rfl) rfl rfl rfl) ?_
 rintro _ ⟨b2, rfl⟩
 refine tr1 rfl (aK (v := .d (.lit (.bool false))) (aA rfl) rfl rfl) ?_
 refine aI ?_
 refine aH ?_
 obtain ⟨r3, h4, h⟩ := bind_some h
 obtain ⟨b5, h6, h⟩ := bind_some h
 refine eS mix 19 [] [(23, .d (.lit (.bool b5)))] ?_ ?_
 ·refine cA (r3) (fun c7 => ?_) (fun c7 => ?_)
  ·have h6 := bB c7 h6
   obtain ⟨u8, h9, h6⟩ := bind_some h6
   obtain ⟨r10, h11, h6⟩ := bind_some h6
   have h6 := Option.some.inj h6
   subst h6
   refine ⟨[(5, 0, .bp b1 0 0), (6, 1, .d (.lit (.int .i64 m_0.round))), (7, 2, .bp b2 0 0), (8, 3, .d (.lit (.int .i64 t_1.Rounds))), (9, 4, .d (.lit (.int .i64 ((w64 (t_1.Rounds - 1)))))), (10, 5, .d (.lit (.bool r3))), (11, 6, .d (.lit (.bool r3))), (12, 7, .bp b1 0 1), (13, 8, .d (.lit (.int .i64 m_0.place))), (14, 9, .bp b2 0 1), (15, 10, .d (.sl 1 (t_1.Slots.map aW))), (16, 11, .d (.lit (.int .i64 ((t_1.Slots.length : Int))))), (17, 12, .bp b1 0 0), (18, 13, .d (.lit (.int .i64 m_0.round))), (19, 14, .d (.lit (.int .i64 ((w64 (m_0.round + 1)))))), (20, 15, .d (.lit (.int .i64 (((t_1.Slots.length : Int).fdiv (2 ^ (min (w64 (m_0.round + 1)).toNat 64))))))), (21, 16, .d (.lit (.int .i64 ((w64 (((t_1.Slots.length : Int).fdiv (2 ^ (min (w64 (m_0.round + 1)).toNat 64))) - 1)))))), (22, 17, .d (.lit (.bool r10))), (23, 18, .d (.lit (.bool r10)))], ?_, ?_⟩
   · exact ⟨by kernel_rfl, by kernel_rfl, by kernel_rfl, by kernel_rfl, by kernel_rfl, [([], []), ([0], []), ([], []), ([2], []), ([3], []), ([1, 4], []), ([5], []), ([6], []), ([6, 7], []), ([6], []), ([6, 9], []), ([6, 10], []), ([6], []), ([6, 12], []), ([6, 13], []), ([6, 11, 14], []), ([6, 15], []), ([6, 8, 16], []), ([6, 17], [])], by kernel_rfl, ⟨fun S hS => aB rfl (aL rfl (aN (aA rfl) (aC hS rfl) mG)),
      fun S hS => aB rfl (aL rfl (aQ (aA rfl) (aC hS rfl) (i := 0) rfl rfl bL)),
      fun S hS => aB rfl (aL rfl (aN (aA rfl) (aC hS rfl) jG)),
      fun S hS => aB rfl (aL rfl (aQ (aA rfl) (aC hS rfl) (i := 1) rfl rfl bL)),
      fun S hS => aB rfl (aL rfl (cG (aA rfl) (aC hS rfl) rfl rfl)),
      fun S hS => aB rfl (aL rfl (cQ (aA rfl) (.func _ _ Try.call120) (ev2 (aC hS rfl) (ev2 rfl (ev2 (aC hS rfl) evn))) rfl (BVs.refl _ _) (fK _ _ _ h4) rfl)),
      fun S hS => aB rfl (aL rfl (aD (v := .d (.lit (.bool r3))) (aA rfl) (aC hS rfl) rfl)),
      fun S hS => aB rfl (aO rfl rfl (aA rfl) (aF hS rfl) c7 (aN (aA rfl) (aC hS rfl) aEc)),
      fun S hS => aB rfl (aO rfl rfl (aA rfl) (aF hS rfl) c7 (aQ (aA rfl) (aC hS rfl) (i := 0) rfl rfl bL)),
      fun S hS => aB rfl (aO rfl rfl (aA rfl) (aF hS rfl) c7 (aN (aA rfl) (aC hS rfl) mQ)),
      fun S hS => aB rfl (aO rfl rfl (aA rfl) (aF hS rfl) c7 (aQ (aA rfl) (aC hS rfl) (i := 1) rfl rfl eI)),
      fun S hS => aB rfl (aO rfl rfl (aA rfl) (aF hS rfl) c7 (dC (aA rfl) (aC hS rfl) dV.of)),
      fun S hS => aB rfl (aO rfl rfl (aA rfl) (aF hS rfl) c7 (aN (aA rfl) (aC hS rfl) mG)),
      fun S hS => aB rfl (aO rfl rfl (aA rfl) (aF hS rfl) c7 (aQ (aA rfl) (aC hS rfl) (i := 0) rfl rfl bL)),
      fun S hS => aB rfl (aO rfl rfl (aA rfl) (aF hS rfl) c7 (cG (aA rfl) (aC hS rfl) rfl rfl)),
      fun S hS => aB rfl (aO rfl rfl (aA rfl) (aF hS rfl) c7 (aEx (aA rfl) (aC hS rfl) (aC hS rfl) (vC h9))),
      fun S hS => aB rfl (aO rfl rfl (aA rfl) (aF hS rfl) c7 (cG (aA rfl) (aC hS rfl) rfl rfl)),
      fun S hS => aB rfl (aO rfl rfl (aA rfl) (aF hS rfl) c7 (cQ (aA rfl) (.func _ _ Try.call120) (ev2 (aC hS rfl) (ev2 rfl (ev2 (aC hS rfl) evn))) rfl (BVs.refl _ _) (fK _ _ _ h11) rfl)),
      fun S hS => aB rfl (aL rfl (bR (v := .d (.lit (.bool r10))) (aA rfl) (aC hS rfl) c7 (aC hS rfl) rfl)), trivial⟩⟩
   · exact dB (aZ rfl (bC trivial))
  ·have h6 := bD c7 h6
   have h6 := Option.some.inj h6
   subst h6
   refine ⟨[(5, 0, .bp b1 0 0), (6, 1, .d (.lit (.int .i64 m_0.round))), (7, 2, .bp b2 0 0), (8, 3, .d (.lit (.int .i64 t_1.Rounds))), (9, 4, .d (.lit (.int .i64 ((w64 (t_1.Rounds - 1)))))), (10, 5, .d (.lit (.bool r3))), (11, 6, .d (.lit (.bool r3))), (12, 7, .tup []), (13, 8, .tup []), (14, 9, .tup []), (15, 10, .tup []), (16, 11, .tup []), (17, 12, .tup []), (18, 13, .tup []), (19, 14, .tup []), (20, 15, .tup []), (21, 16, .tup []), (22, 17, .tup []), (23, 18, .d (.lit (.bool false)))], ?_, ?_⟩
   · exact ⟨by kernel_rfl, by kernel_rfl, by kernel_rfl, by kernel_rfl, by kernel_rfl, [([], []), ([0], []), ([], []), ([2], []), ([3], []), ([1, 4], []), ([5], []), ([6], []), ([6, 7], []), ([6], []), ([6, 9], []), ([6, 10], []), ([6], []), ([6, 12], []), ([6, 13], []), ([6, 11, 14], []), ([6, 15], []), ([6, 8, 16], []), ([6, 17], [])], by kernel_rfl, ⟨fun S hS => aB rfl (aL rfl (aN (aA rfl) (aC hS rfl) mG)),
      fun S hS => aB rfl (aL rfl (aQ (aA rfl) (aC hS rfl) (i := 0) rfl rfl bL)),
      fun S hS => aB rfl (aL rfl (aN (aA rfl) (aC hS rfl) jG)),
      fun S hS => aB rfl (aL rfl (aQ (aA rfl) (aC hS rfl) (i := 1) rfl rfl bL)),
      fun S hS => aB rfl (aL rfl (cG (aA rfl) (aC hS rfl) rfl rfl)),
      fun S hS => aB rfl (aL rfl (cQ (aA rfl) (.func _ _ Try.call120) (ev2 (aC hS rfl) (ev2 rfl (ev2 (aC hS rfl) evn))) rfl (BVs.refl _ _) (fK _ _ _ h4) rfl)),
      fun S hS => aB rfl (aL rfl (aD (v := .d (.lit (.bool r3))) (aA rfl) (aC hS rfl) rfl)),
      fun S hS => aB rfl (aM rfl rfl (aA rfl) rfl (aA rfl) (aF hS rfl) c7),
      fun S hS => aB rfl (aM rfl rfl (aA rfl) rfl (aA rfl) (aF hS rfl) c7),
      fun S hS => aB rfl (aM rfl rfl (aA rfl) rfl (aA rfl) (aF hS rfl) c7),
      fun S hS => aB rfl (aM rfl rfl (aA rfl) rfl (aA rfl) (aF hS rfl) c7),
      fun S hS => aB rfl (aM rfl rfl (aA rfl) rfl (aA rfl) (aF hS rfl) c7),
      fun S hS => aB rfl (aM rfl rfl (aA rfl) rfl (aA rfl) (aF hS rfl) c7),
      fun S hS => aB rfl (aM rfl rfl (aA rfl) rfl (aA rfl) (aF hS rfl) c7),
      fun S hS => aB rfl (aM rfl rfl (aA rfl) rfl (aA rfl) (aF hS rfl) c7),
      fun S hS => aB rfl (aM rfl rfl (aA rfl) rfl (aA rfl) (aF hS rfl) c7),
      fun S hS => aB rfl (aM rfl rfl (aA rfl) rfl (aA rfl) (aF hS rfl) c7),
      fun S hS => aB rfl (aM rfl rfl (aA rfl) rfl (aA rfl) (aF hS rfl) c7),
      fun S hS => aB rfl (aL rfl (bQ (v := .d (.lit (.bool false))) (aA rfl) (aC hS rfl) c7 rfl rfl)), trivial⟩⟩
   · exact dB (aZ rfl (bC trivial))
 ·refine tr1 rfl (aK (v := .d (.lit (.bool b5))) (aA rfl) rfl rfl) ?_
  refine aI ?_
  have h := Option.some.inj h
  subst h
  refine cT (cR (cU (l := [4]) ⟨rfl, trivial⟩)) ?_
  exact cB ⟨rfl, _, .one _, rfl, rfl⟩

theorem aBb (t_0 : aV) (s_1 : aJ) {r : Bool} (h : mY t_0 s_1 = some r) : Fn Try.prog 105 [.agg (bS t_0), .agg (aY s_1)] (.d (.lit (.bool r))) := by
 unfold mY at h
 refine Fn.of_tr Try.func105 rfl (rs := [.tmp 4]) Try.results105 Try.ntmps105 (Nat.le_of_ble_eq_true rfl) ?_
 refine aH ?_
 refine aE ?_
 refine cI rfl (eU (v := .agg (bS t_0)) (aA rfl) rfl rfl rfl) ?_
 rintro _ ⟨b1, rfl⟩
 refine cI rfl (eU (v := .agg (aY s_1)) (aA rfl) rfl rfl rfl) ?_
 rintro _ ⟨b2, rfl⟩
 refine tr1 rfl (aK (v := .d (.lit (.bool false))) (aA rfl) rfl rfl) ?_
 refine aI ?_
 refine aH ?_
 refine aH ?_
 refine aE ?_
 refine tr1 rfl (aN (aA rfl) rfl sL) ?_
 refine tr1 rfl (aQ (aA rfl) rfl (i := 1) rfl rfl bL) ?_
 obtain ⟨r3, h4, h⟩ := bind_some h
 refine tr1 rfl (cQ (aA rfl) (.func _ _ Try.call120) rfl rfl (BVs.refl _ _) (fK _ _ _ h4) rfl) ?_
 refine tr1 rfl (fE (aA rfl) rfl) ?_
 refine aI ?_
 refine cK rfl (fun c5 => ?_) (fun c5 => ?_)
 ·have h := bB c5 h
  refine aH ?_
  refine aE ?_
  refine tr1 rfl (aK (v := .d (.lit (.bool false))) (aA rfl) rfl rfl) ?_
  refine aI ?_
  have h := Option.some.inj h
  subst h
  refine cT (cR (cU (l := [4]) ⟨rfl, trivial⟩)) ?_
  exact cB ⟨rfl, _, .one _, rfl, rfl⟩
 ·have h := bD c5 h
  refine cF ?_
  refine aH ?_
  refine aH ?_
  refine aE ?_
  refine tr1 rfl (aN (aA rfl) rfl yW) ?_
  refine tr1 rfl (aQ (aA rfl) rfl (i := 1) rfl rfl bL) ?_
  refine tr1 rfl (bP (aA rfl) rfl rfl rfl) ?_
  refine aI ?_
  refine cK rfl (fun c6 => ?_) (fun c6 => ?_)
  ·have h := bB c6 h
   refine aH ?_
   refine aE ?_
   refine tr1 rfl (aN (aA rfl) rfl uZ) ?_
   refine tr1 rfl (aQ (aA rfl) rfl (i := 1) rfl rfl bL) ?_
   refine tr1 rfl (bP (aA rfl) rfl rfl rfl) ?_
   refine tr1 rfl (aD (v := .d (.lit (.bool ((decide (s_1.Round = 0)))))) (aA rfl) rfl rfl) ?_
   obtain ⟨b7, h8, h⟩ := bind_some h
   refine dD 8 [3] 24 b7 ?_ ?_
   ·refine cA (decide (s_1.Round = 0)) (fun c14 => ?_) (fun c14 => ?_)
    ·have h8 := bB c14 h8
     refine aU rfl rfl (aA rfl) rfl c14 (aN (aA rfl) rfl oO) ?_
     refine aU rfl rfl (aA rfl) rfl c14 (aQ (aA rfl) rfl (i := 1) rfl rfl bL) ?_
     refine aU rfl rfl (aA rfl) rfl c14 (aN (aA rfl) rfl mQ) ?_
     refine aU rfl rfl (aA rfl) rfl c14 (aQ (aA rfl) rfl (i := 0) rfl rfl eI) ?_
     refine aU rfl rfl (aA rfl) rfl c14 (dC (aA rfl) rfl dV.of) ?_
     refine aU rfl rfl (aA rfl) rfl c14 (cG (aA rfl) rfl rfl rfl) ?_
     obtain ⟨r15, h16, h8⟩ := bind_some h8
     refine aU rfl rfl (aA rfl) rfl c14 (cQ (aA rfl) (.func _ _ Try.call120) rfl rfl (BVs.refl _ _) (fK _ _ _ h16) rfl) ?_
     refine tr1 rfl (bR (v := .d (.lit (.bool r15))) (aA rfl) rfl c14 rfl rfl) ?_
     have h8 := Option.some.inj h8
     subst h8
     refine aI (bT rfl ⟨rfl, trivial⟩ rfl)
    ·have h8 := bD c14 h8
     refine aX rfl rfl (aA rfl) rfl (aA rfl) rfl c14 ?_
     refine aX rfl rfl (aA rfl) rfl (aA rfl) rfl c14 ?_
     refine aX rfl rfl (aA rfl) rfl (aA rfl) rfl c14 ?_
     refine aX rfl rfl (aA rfl) rfl (aA rfl) rfl c14 ?_
     refine aX rfl rfl (aA rfl) rfl (aA rfl) rfl c14 ?_
     refine aX rfl rfl (aA rfl) rfl (aA rfl) rfl c14 ?_
     refine aX rfl rfl (aA rfl) rfl (aA rfl) rfl c14 ?_
     refine tr1 rfl (bQ (v := .d (.lit (.bool false))) (aA rfl) rfl c14 rfl rfl) ?_
     have h8 := Option.some.inj h8
     subst h8
     refine aI (bT rfl ⟨rfl, trivial⟩ rfl)
   ·refine tr1 rfl (aD (v := .d (.lit (.bool b7))) (aA rfl) rfl rfl) ?_
    obtain ⟨b9, h10, h⟩ := bind_some h
    refine dD 4 [] 29 b9 ?_ ?_
    ·refine cA (b7) (fun c11 => ?_) (fun c11 => ?_)
     ·have h10 := bB c11 h10
      refine aU rfl rfl (aA rfl) rfl c11 (aN (aA rfl) rfl yX) ?_
      refine aU rfl rfl (aA rfl) rfl c11 (aQ (aA rfl) rfl (i := 1) rfl rfl bL) ?_
      obtain ⟨r12, h13, h10⟩ := bind_some h10
      refine aU rfl rfl (aA rfl) rfl c11 (cQ (aA rfl) (.func _ _ Try.call120) rfl rfl (BVs.refl _ _) (fK _ _ _ h13) rfl) ?_
      refine tr1 rfl (bR (v := .d (.lit (.bool r12))) (aA rfl) rfl c11 rfl rfl) ?_
      have h10 := Option.some.inj h10
      subst h10
      refine aI (bT rfl trivial rfl)
     ·have h10 := bD c11 h10
      refine aX rfl rfl (aA rfl) rfl (aA rfl) rfl c11 ?_
      refine aX rfl rfl (aA rfl) rfl (aA rfl) rfl c11 ?_
      refine aX rfl rfl (aA rfl) rfl (aA rfl) rfl c11 ?_
      refine tr1 rfl (bQ (v := .d (.lit (.bool false))) (aA rfl) rfl c11 rfl rfl) ?_
      have h10 := Option.some.inj h10
      subst h10
      refine aI (bT rfl trivial rfl)
    ·refine tr1 rfl (aK (v := .d (.lit (.bool b9))) (aA rfl) rfl rfl) ?_
     refine aI ?_
     have h := Option.some.inj h
     subst h
     refine cT (cR (cU (l := [4]) ⟨rfl, trivial⟩)) ?_
     exact cB ⟨rfl, _, .one _, rfl, rfl⟩
  ·have h := bD c6 h
   refine cF ?_
   refine aH ?_
   refine aE ?_
   refine tr1 rfl (aN (aA rfl) rfl uZ) ?_
   refine tr1 rfl (aQ (aA rfl) rfl (i := 1) rfl rfl bL) ?_
   refine tr1 rfl (aN (aA rfl) rfl oO) ?_
   refine tr1 rfl (aQ (aA rfl) rfl (i := 1) rfl rfl bL) ?_
   refine tr1 rfl (eD (aA rfl) tP (zs := [.lit (.int .i64 0), .lit (.int .i64 0)]) rfl rfl rfl rfl (es := [.lit (.int .i64 s_1.Round), .lit (.int .i64 s_1.Place)]) rfl) ?_
   refine cI rfl (dM (zs := [.lit (.int .i64 0), .lit (.int .i64 0)]) (aA rfl) Try.zeroValue112 rfl rfl) ?_
   rintro _ ⟨b17, rfl⟩
   refine tr1 rfl (cL (i := 2) rfl rfl rfl rfl rfl Try.sizeOf112 rfl (aA rfl) (Nat.le_of_ble_eq_true rfl) (ds' := (aP (aG.mk s_1.Round s_1.Place))) rfl) ?_
   refine aI ?_
   refine aH ?_
   refine aH ?_
   refine aE ?_
   refine tr1 rfl (aN (aA rfl) rfl yW) ?_
   refine tr1 rfl (aQ (aA rfl) rfl (i := 1) rfl rfl bL) ?_
   obtain ⟨r18, h19, h⟩ := bind_some h
   refine tr1 rfl (cQ (aA rfl) (.func _ _ Try.call120) rfl rfl (BVs.refl _ _) (fK _ _ _ h19) rfl) ?_
   refine tr1 rfl (fE (aA rfl) rfl) ?_
   refine tr1 rfl (aD (v := .d (.lit (.bool (!r18)))) (aA rfl) rfl rfl) ?_
   obtain ⟨b20, h21, h⟩ := bind_some h
   refine dD 4 [2, 3, 5] 43 b20 ?_ ?_
   ·refine cA (!r18) (fun c35 => ?_) (fun c35 => ?_)
    ·have h21 := bB c35 h21
     refine aX rfl rfl (aA rfl) rfl (aA rfl) rfl c35 ?_
     refine aX rfl rfl (aA rfl) rfl (aA rfl) rfl c35 ?_
     refine aX rfl rfl (aA rfl) rfl (aA rfl) rfl c35 ?_
     refine tr1 rfl (bR (v := .d (.lit (.bool true))) (aA rfl) rfl c35 rfl rfl) ?_
     have h21 := Option.some.inj h21
     subst h21
     refine aI (bT rfl ⟨rfl, rfl, rfl, trivial⟩ rfl)
    ·have h21 := bD c35 h21
     refine aU rfl rfl (aA rfl) rfl c35 (aN (aA rfl) rfl yX) ?_
     refine aU rfl rfl (aA rfl) rfl c35 (aQ (aA rfl) rfl (i := 1) rfl rfl bL) ?_
     refine aU rfl rfl (aA rfl) rfl c35 (bP (aA rfl) rfl rfl rfl) ?_
     refine tr1 rfl (bQ (v := .d (.lit (.bool ((!decide (s_1.Old = 0)))))) (aA rfl) rfl c35 rfl rfl) ?_
     have h21 := Option.some.inj h21
     subst h21
     refine aI (bT rfl ⟨rfl, rfl, rfl, trivial⟩ rfl)
   ·refine tr1 rfl (aD (v := .d (.lit (.bool b20))) (aA rfl) rfl rfl) ?_
    obtain ⟨b22, h23, h⟩ := bind_some h
    refine dD 5 [2, 3] 49 b22 ?_ ?_
    ·refine cA (b20) (fun c32 => ?_) (fun c32 => ?_)
     ·have h23 := bB c32 h23
      refine aX rfl rfl (aA rfl) rfl (aA rfl) rfl c32 ?_
      refine aX rfl rfl (aA rfl) rfl (aA rfl) rfl c32 ?_
      refine aX rfl rfl (aA rfl) rfl (aA rfl) rfl c32 ?_
      refine aX rfl rfl (aA rfl) rfl (aA rfl) rfl c32 ?_
      refine tr1 rfl (bR (v := .d (.lit (.bool true))) (aA rfl) rfl c32 rfl rfl) ?_
      have h23 := Option.some.inj h23
      subst h23
      refine aI (bT rfl ⟨rfl, rfl, trivial⟩ rfl)
     ·have h23 := bD c32 h23
      refine aU rfl rfl (aA rfl) rfl c32 (bO (aA rfl) rfl (i := 2) rfl iR (es := (aP (aG.mk s_1.Round s_1.Place))) rfl rfl) ?_
      refine aU rfl rfl (aA rfl) rfl c32 (bO (aA rfl) rfl (i := 0) rfl kQ (es := (bS t_0)) rfl rfl) ?_
      obtain ⟨r33, h34, h23⟩ := bind_some h23
      refine aU rfl rfl (aA rfl) rfl c32 (cQ (aA rfl) (.func _ _ Try.call107) rfl rfl (BVs.refl _ _) (sF _ _ h34) rfl) ?_
      refine aU rfl rfl (aA rfl) rfl c32 (fE (aA rfl) rfl) ?_
      refine tr1 rfl (bQ (v := .d (.lit (.bool (!r33)))) (aA rfl) rfl c32 rfl rfl) ?_
      have h23 := Option.some.inj h23
      subst h23
      refine aI (bT rfl ⟨rfl, rfl, trivial⟩ rfl)
    ·refine aI ?_
     refine cK rfl (fun c24 => ?_) (fun c24 => ?_)
     ·have h := bB c24 h
      refine aH ?_
      refine aE ?_
      refine tr1 rfl (aK (v := .d (.lit (.bool false))) (aA rfl) rfl rfl) ?_
      refine aI ?_
      have h := Option.some.inj h
      subst h
      refine cT (cR (cU (l := [4]) ⟨rfl, trivial⟩)) ?_
      exact cB ⟨rfl, _, .one _, rfl, rfl⟩
     ·have h := bD c24 h
      refine cF ?_
      refine aH ?_
      refine aE ?_
      refine tr1 rfl (aN (aA rfl) rfl uZ) ?_
      refine tr1 rfl (aQ (aA rfl) rfl (i := 1) rfl rfl bL) ?_
      refine tr1 rfl (bP (aA rfl) rfl rfl rfl) ?_
      refine tr1 rfl (aD (v := .d (.lit (.bool ((decide (0 < s_1.Round)))))) (aA rfl) rfl rfl) ?_
      obtain ⟨b25, h26, h⟩ := bind_some h
      refine dD 13 [] 66 b25 ?_ ?_
      ·refine cA (decide (0 < s_1.Round)) (fun c27 => ?_) (fun c27 => ?_)
       ·have h26 := bB c27 h26
        refine aX rfl rfl (aA rfl) rfl (aA rfl) rfl c27 ?_
        refine aX rfl rfl (aA rfl) rfl (aA rfl) rfl c27 ?_
        refine aX rfl rfl (aA rfl) rfl (aA rfl) rfl c27 ?_
        refine aX rfl rfl (aA rfl) rfl (aA rfl) rfl c27 ?_
        refine aX rfl rfl (aA rfl) rfl (aA rfl) rfl c27 ?_
        refine aX rfl rfl (aA rfl) rfl (aA rfl) rfl c27 ?_
        refine aX rfl rfl (aA rfl) rfl (aA rfl) rfl c27 ?_
        refine aX rfl rfl (aA rfl) rfl (aA rfl) rfl c27 ?_
        refine aX rfl rfl (aA rfl) rfl (aA rfl) rfl c27 ?_
        refine aX rfl rfl (aA rfl) rfl (aA rfl) rfl c27 ?_
        refine aX rfl rfl (aA rfl) rfl (aA rfl) rfl c27 ?_
        refine aX rfl rfl (aA rfl) rfl (aA rfl) rfl c27 ?_
        refine tr1 rfl (bR (v := .d (.lit (.bool true))) (aA rfl) rfl c27 rfl rfl) ?_
        have h26 := Option.some.inj h26
        subst h26
        refine aI (bT rfl trivial rfl)
       ·have h26 := bD c27 h26
        refine aU rfl rfl (aA rfl) rfl c27 (aN (aA rfl) rfl mQ) ?_
        refine aU rfl rfl (aA rfl) rfl c27 (aQ (aA rfl) rfl (i := 0) rfl rfl eI) ?_
        refine aU rfl rfl (aA rfl) rfl c27 (aN (aA rfl) rfl oO) ?_
        refine aU rfl rfl (aA rfl) rfl c27 (aQ (aA rfl) rfl (i := 1) rfl rfl bL) ?_
        refine aU rfl rfl (aA rfl) rfl c27 (cG (aA rfl) rfl rfl rfl) ?_
        refine aU rfl rfl (aA rfl) rfl c27 (aN (aA rfl) rfl oO) ?_
        refine aU rfl rfl (aA rfl) rfl c27 (aQ (aA rfl) rfl (i := 1) rfl rfl bL) ?_
        refine aU rfl rfl (aA rfl) rfl c27 (cG (aA rfl) rfl rfl rfl) ?_
        refine aU rfl rfl (aA rfl) rfl c27 (cG (aA rfl) rfl rfl rfl) ?_
        obtain ⟨x28, h29, h26⟩ := bind_some h26
        refine aU rfl rfl (aA rfl) rfl c27 (aDb (aA rfl) dV.of rfl rfl rfl (aHr aW h29)) ?_
        obtain ⟨r30, h31, h26⟩ := bind_some h26
        refine aU rfl rfl (aA rfl) rfl c27 (cQ (aA rfl) (.func _ _ Try.call63) rfl rfl (BVs.refl _ _) (eO _ _ h31) rfl) ?_
        refine aU rfl rfl (aA rfl) rfl c27 (fE (aA rfl) rfl) ?_
        refine tr1 rfl (bQ (v := .d (.lit (.bool (!r30)))) (aA rfl) rfl c27 rfl rfl) ?_
        have h26 := Option.some.inj h26
        subst h26
        refine aI (bT rfl trivial rfl)
      ·refine tr1 rfl (aK (v := .d (.lit (.bool b25))) (aA rfl) rfl rfl) ?_
       refine aI ?_
       have h := Option.some.inj h
       subst h
       refine cT (cR (cU (l := [4]) ⟨rfl, trivial⟩)) ?_
       exact cB ⟨rfl, _, .one _, rfl, rfl⟩

theorem aBd (s_0 : aJ) (c_1 : aV) {r : Bool} (h : kZ s_0 c_1 = some r) : Fn Try.prog 104 [.agg (aY s_0), .cp (bS c_1)] (.d (.lit (.bool r))) := by
 unfold kZ at h
 refine Fn.of_tr Try.func104 rfl (rs := [.tmp 3]) Try.results104 Try.ntmps104 (Nat.le_of_ble_eq_true rfl) ?_
 refine aH ?_
 refine aE ?_
 refine cI rfl (eU (v := .agg (aY s_0)) (aA rfl) rfl rfl rfl) ?_
 rintro _ ⟨b1, rfl⟩
 refine tr1 rfl (aK (v := .d (.lit (.bool false))) (aA rfl) rfl rfl) ?_
 refine aI ?_
 refine aH ?_
 refine aE ?_
 refine tr1 rfl (dE (aA rfl) rfl kQ (es := (bS c_1)) rfl rfl) ?_
 refine tr1 rfl (bO (aA rfl) rfl (i := 0) rfl lY (es := (aY s_0)) rfl rfl) ?_
 obtain ⟨r2, h3, h⟩ := bind_some h
 refine tr1 rfl (cQ (aA rfl) (.func _ _ Try.call105) rfl rfl (BVs.refl _ _) (aBb _ _ h3) rfl) ?_
 refine tr1 rfl (fE (aA rfl) rfl) ?_
 refine tr1 rfl (aK (v := .d (.lit (.bool (!r2)))) (aA rfl) rfl rfl) ?_
 refine aI ?_
 have h := Option.some.inj h
 subst h
 refine cT (cR (cU (l := [3]) ⟨rfl, trivial⟩)) ?_
 exact cB ⟨rfl, _, .one _, rfl, rfl⟩

theorem rM (s_0 : List Int) {r : (List Int)} (h : jZ s_0 = some r) : fI Try.prog 122 [.d (.sl 1 (s_0.map aW))] [] (fun r' o' => ∃ (w0 : Value), r' = .d (.lit w0) ∧ o' = [.arr w0 3 1 (r.map aW)]) := by
 unfold jZ at h
 refine jA Try.func122 rfl (rs := [.tmp 2]) Try.results122 Try.ntmps122 (Nat.le_of_ble_eq_true rfl) ?_
 refine aH ?_
 refine aE ?_
 refine tr1 rfl (jO 3 1 (.inl rfl) (aA rfl)) ?_
 refine aI ?_
 refine aH ?_
 refine aH ?_
 refine aE ?_
 refine tr1 rfl (aD (v := .d (.sl 1 (s_0.map aW))) (aA rfl) rfl rfl) ?_
 refine cI rfl (aIu (aA rfl) rfl rfl Try.underlying27) ?_
 rintro _ ⟨b2, h3, rfl⟩
 refine aI ?_
 refine cK rfl (fun c4 => ?_) (fun c4 => ?_)
 ·obtain rfl := aIp (h3 c4)
  simp [app] at h
  subst h
  refine aH ?_
  refine aE ?_
  refine tr1 rfl (jO 3 1 (.inl rfl) (aA rfl)) ?_
  refine aI ?_
  refine cT (bI [1, 0] rfl rfl (le_refl _)) ?_
  exact cB ⟨rfl, _, [.arr (.slice none 0 0) 3 1 (([] : List Int).map aW)], [.arr (.slice none 0 0) 3 1 (([] : List Int).map aW)], _, .one (.tmp 2 (v := .d (.lit (.slice none 0 0))) rfl), .refl _, .same _, (.slice none 0 0), rfl, rfl⟩
 ·refine cF ?_
  refine aH ?_
  refine aE ?_
  refine cI rfl (aKe (aA rfl) dV rfl rfl (rows := (([] : List Int)).map aW) rfl (dT (f := aW) fun _ => rfl) rfl (by decide)) ?_
  rintro _ ⟨v5, rfl⟩
  refine tr1 rfl (aD (v := .d (.sl 1 (s_0.map aW))) (aA rfl) rfl rfl) ?_
  obtain ⟨x6, h7, h⟩ := bind_some h
  refine cI rfl (mJ (i := 1) (aA rfl) dV rfl rfl rfl (fun _ => rfl) h7 rfl) ?_
  rintro _ ⟨v8, rfl⟩
  refine tr1 rfl (aK (v := .d (.lit v8)) (aA rfl) rfl rfl) ?_
  refine aI ?_
  have h := Option.some.inj h
  subst h
  refine cT (bI [1, 0] rfl rfl (le_refl _)) ?_
  exact cB ⟨rfl, _, [.arr v8 3 1 (x6.map aW)], [.arr (.slice none 0 0) 3 1 (([] : List Int).map aW)], _, .one (.tmp 2 (v := .d (.lit v8)) rfl), .refl _, .same _, v8, rfl, rfl⟩

theorem rD (d_0_Tree : aV) (d_0_players : List Int) (lucky_1 : List (aJ × Int)) (slot_2 : Int) {Q : (aJ × Bool) → Prop} {d_0_b d_0_o : Nat} {d_0_players_v : Value} {d_0_won_r : Nat} {lucky_1_r : Nat} {lucky_1_bs : List Nat} {lucky_1_ck : Nat} (h : gG d_0_Tree d_0_players lucky_1 slot_2 Q) : fI Try.prog 131 [.bp d_0_b d_0_o 0, .d (.lit (.map (some lucky_1_r))), .d (.lit (.int .i64 slot_2))] [.box d_0_b d_0_o [.lit (.int .i64 d_0_Tree.Rounds), .sl 1 (d_0_Tree.Slots.map aW), .lit d_0_players_v, .lit (.map (some d_0_won_r))], .arr d_0_players_v 3 1 (d_0_players.map aW), .map lucky_1_r (lucky_1.map fun p : aJ × Int => ((fun a : aJ => Value.agg ((aY a).map bW).toArray) p.1, (fun v : Int => AV.d (.lit (.int .i64 v))) p.2)) lucky_1_bs lucky_1_ck] (fun r' o' => ∃ (r : aJ × Bool), Q r ∧ r' = .tup [.agg (aY r.1), .d (.lit (.bool r.2))] ∧ o' = [.box d_0_b d_0_o [.lit (.int .i64 d_0_Tree.Rounds), .sl 1 (d_0_Tree.Slots.map aW), .lit d_0_players_v, .lit (.map (some d_0_won_r))], .arr d_0_players_v 3 1 (d_0_players.map aW), .map lucky_1_r (lucky_1.map fun p : aJ × Int => ((fun a : aJ => Value.agg ((aY a).map bW).toArray) p.1, (fun v : Int => AV.d (.lit (.int .i64 v))) p.2)) lucky_1_bs lucky_1_ck]) := by
 unfold gG at h
 refine jA Try.func131 rfl (rs := [.cell 6 141, .tmp 7]) Try.results131 Try.ntmps131 (Nat.le_of_ble_eq_true rfl) ?_
 refine aH ?_
 refine aE ?_
 refine cI rfl (dM (zs := [.lit (.int .i64 0), .lit (.int .i64 0), .lit (.int .i64 0), .lit (.int .i64 0), .lit (.int .i64 0)]) (aA rfl) Try.zeroValue141 rfl rfl) ?_
 rintro _ ⟨b1, rfl⟩
 refine tr1 rfl (aK (v := .d (.lit (.bool false))) (aA rfl) rfl rfl) ?_
 refine aI ?_
 refine aH ?_
 refine aH ?_
 refine aE ?_
 refine tr1 rfl (aD (v := .d (.lit (.map (some lucky_1_r)))) (aA rfl) rfl rfl) ?_
 refine cI rfl (aHo (m := 2) (aA rfl) Try.underlying175 rfl rfl) ?_
 rintro _ ⟨q2, h4, rfl⟩
 have h := zJ h h4
 refine aI ?_
 refine cW ?_
 refine rX [0, 2, 6, 10] (fun (s5 : aJ × (List Nat)) => []) (fun (s5 : aJ × (List Nat)) => [.arr d_0_players_v 3 1 (d_0_players.map aW), .box d_0_b d_0_o [.lit (.int .i64 d_0_Tree.Rounds), .sl 1 (d_0_Tree.Slots.map aW), .lit d_0_players_v, .lit (.map (some d_0_won_r))], .map lucky_1_r (lucky_1.map fun p : aJ × Int => ((fun a : aJ => Value.agg ((aY a).map bW).toArray) p.1, (fun v : Int => AV.d (.lit (.int .i64 v))) p.2)) lucky_1_bs lucky_1_ck, .box b1 0 (aY s5.1), .iter q2 lucky_1_r lucky_1_ck s5.2 lucky_1_ck]) (fun (k : Nat) (s5 : aJ × (List Nat)) => fY Q slot_2 d_0_players d_0_Tree lucky_1 k s5.1 (kM lucky_1 lucky_1_bs s5.2)) (fun _ h => h) ((aJ.mk 0 0 0 0 0), []) h (bI [1, 0, 2, 3, 4] rfl rfl (bC ⟨rfl, rfl, rfl, rfl, trivial⟩)) ?_
 rintro k7 ⟨o6_0_5, seen6⟩ h
 simp only [fY] at h
 refine aH ?_
 refine aE ?_
 refine cI rfl (aKg (kv := (fun a : aJ => Value.agg ((aY a).map bW).toArray)) (av := (fun v : Int => AV.d (.lit (.int .i64 v)))) (l := lucky_1) (mi := 4) (mm := 2) (aA rfl) rfl rfl rfl) ?_
 rintro _ (⟨h12, rfl⟩ | ⟨j9, b10, p8, h11, rfl⟩)
 ·have h := h.1 h12
  refine tr1 rfl (bZ (aA rfl) rfl rfl) ?_
  refine aI ?_
  refine aH ?_
  refine cK rfl (fun c13 => ?_) (fun c13 => ?_)
  ·exact absurd c13 (by decide)
  ·refine dO ?_
   refine .inl ⟨rfl, ?_⟩
   simp only [kS] at h
   refine aH ?_
   refine aE ?_
   refine tr1 rfl (eD (aA rfl) aNa (zs := [.lit (.int .i64 0), .lit (.int .i64 0), .lit (.int .i64 0), .lit (.int .i64 0), .lit (.int .i64 0)]) rfl rfl rfl rfl (es := [.lit (.int .i64 0), .lit (.int .i64 0), .lit (.int .i64 0), .lit (.int .i64 0), .lit (.int .i64 0)]) rfl) ?_
   refine tr1 rfl (cL (i := 3) rfl rfl rfl rfl rfl Try.sizeOf141 rfl (aA rfl) (Nat.le_of_ble_eq_true rfl) (ds' := (aY (aJ.mk 0 0 0 0 0))) rfl) ?_
   refine tr1 rfl (aK (v := .d (.lit (.bool false))) (aA rfl) rfl rfl) ?_
   refine aI ?_
   refine cT (bI [1, 0, 2, 3, 4] rfl rfl (le_refl _)) ?_
   exact cB ⟨rfl, _, [.box d_0_b d_0_o [.lit (.int .i64 d_0_Tree.Rounds), .sl 1 (d_0_Tree.Slots.map aW), .lit d_0_players_v, .lit (.map (some d_0_won_r))], .arr d_0_players_v 3 1 (d_0_players.map aW), .map lucky_1_r (lucky_1.map fun p : aJ × Int => ((fun a : aJ => Value.agg ((aY a).map bW).toArray) p.1, (fun v : Int => AV.d (.lit (.int .i64 v))) p.2)) lucky_1_bs lucky_1_ck], [.box b1 0 (aY (aJ.mk 0 0 0 0 0)), .iter q2 lucky_1_r lucky_1_ck seen6 lucky_1_ck], _, .two (.cell 6 141 rfl (i := 3) rfl lY (es := (aY (aJ.mk 0 0 0 0 0))) rfl rfl) (.tmp 7 (v := .d (.lit (.bool false))) rfl), .refl _, .same _, ((aJ.mk 0 0 0 0 0), false), h, rfl, rfl⟩
 ·have h := aAs h h11
  refine tr1 rfl (bZ (aA rfl) rfl rfl) ?_
  refine aI ?_
  refine aH ?_
  refine cK rfl (fun c21 => ?_) (fun c21 => ?_)
  ·refine cF ?_
   refine cW ?_
   refine aH ?_
   refine aE ?_
   refine tr1 rfl (aHm (kv := (fun a : aJ => Value.agg ((aY a).map bW).toArray)) (av := (fun v : Int => AV.d (.lit (.int .i64 v)))) (l := lucky_1) (mi := 4) (mm := 2) (ka := .agg (aY p8.1)) (aA rfl) rfl rfl rfl h11 (fun _ _ => .agg (zE rfl))) ?_
   refine tr1 rfl (bZ (aA rfl) rfl rfl) ?_
   refine cI rfl (dM (zs := [.lit (.int .i64 0), .lit (.int .i64 0), .lit (.int .i64 0), .lit (.int .i64 0), .lit (.int .i64 0)]) (aA rfl) Try.zeroValue141 rfl rfl) ?_
   rintro _ ⟨b14, rfl⟩
   refine tr1 rfl (cL (i := 5) rfl rfl rfl rfl rfl Try.sizeOf141 rfl (aA rfl) (Nat.le_of_ble_eq_true rfl) (ds' := (aY p8.1)) rfl) ?_
   refine aI ?_
   refine aH ?_
   obtain ⟨b15, h16, h⟩ := iA h
   refine eS mix 16 [0, 2, 6, 8, 10] [(30, .d (.lit (.bool b15)))] ?_ ?_
   ·refine cA (decide (p8.1.Place = slot_2)) (fun c17 => ?_) (fun c17 => ?_)
    ·have h16 := bB c17 h16
     obtain ⟨x18, h19, h16⟩ := bind_some h16
     have h16 := Option.some.inj h16
     subst h16
     refine ⟨[(15, 0, .bp b14 0 2), (16, 1, .d (.lit (.int .i64 p8.1.Place))), (17, 2, .d (.lit (.int .i64 slot_2))), (18, 3, .d (.lit (.bool ((decide (p8.1.Place = slot_2)))))), (19, 4, .d (.lit (.bool ((decide (p8.1.Place = slot_2)))))), (20, 5, .bp b14 0 4), (21, 6, .d (.lit (.int .i64 p8.1.Old))), (22, 7, .bp d_0_b d_0_o 0), (23, 8, .bp d_0_b d_0_o 0), (24, 9, .bp d_0_b d_0_o 2), (25, 10, .d (.lit d_0_players_v)), (26, 11, .d (.lit (.int .i64 slot_2))), (27, 12, .ep d_0_players_v 1 slot_2.toNat 0), (28, 13, .d (.lit (.int .i64 x18))), (29, 14, .d (.lit (.bool ((decide (p8.1.Old = x18)))))), (30, 15, .d (.lit (.bool ((decide (p8.1.Old = x18))))))], ?_, ?_⟩
     · exact ⟨by kernel_rfl, by kernel_rfl, by kernel_rfl, by kernel_rfl, by kernel_rfl, [([], []), ([0], []), ([], []), ([1, 2], []), ([3], []), ([4], []), ([4, 5], []), ([4], []), ([4, 7], []), ([4, 8], []), ([4, 9], []), ([4], []), ([4, 10, 11], []), ([4, 12], []), ([4, 6, 13], []), ([4, 14], [])], by kernel_rfl, ⟨fun S hS => aB rfl (aL rfl (aN (aA rfl) (aC hS rfl) oO)),
      fun S hS => aB rfl (aL rfl (aQ (aA rfl) (aC hS rfl) (i := 5) rfl rfl bL)),
      fun S hS => aB rfl (aL rfl (aD (v := .d (.lit (.int .i64 slot_2))) (aA rfl) (aC hS rfl) rfl)),
      fun S hS => aB rfl (aL rfl (bP (aA rfl) (aC hS rfl) (aC hS rfl) rfl)),
      fun S hS => aB rfl (aL rfl (aD (v := .d (.lit (.bool ((decide (p8.1.Place = slot_2)))))) (aA rfl) (aC hS rfl) rfl)),
      fun S hS => aB rfl (aO rfl rfl (aA rfl) (aF hS rfl) c17 (aN (aA rfl) (aC hS rfl) yX)),
      fun S hS => aB rfl (aO rfl rfl (aA rfl) (aF hS rfl) c17 (aQ (aA rfl) (aC hS rfl) (i := 5) rfl rfl bL)),
      fun S hS => aB rfl (aO rfl rfl (aA rfl) (aF hS rfl) c17 (aD (v := .bp d_0_b d_0_o 0) (aA rfl) (aC hS rfl) rfl)),
      fun S hS => aB rfl (aO rfl rfl (aA rfl) (aF hS rfl) c17 (gO (aA rfl) (aC hS rfl))),
      fun S hS => aB rfl (aO rfl rfl (aA rfl) (aF hS rfl) c17 (aN (aA rfl) (aC hS rfl) nF)),
      fun S hS => aB rfl (aO rfl rfl (aA rfl) (aF hS rfl) c17 (aQ (aA rfl) (aC hS rfl) (i := 1) rfl rfl eI)),
      fun S hS => aB rfl (aO rfl rfl (aA rfl) (aF hS rfl) c17 (aD (v := .d (.lit (.int .i64 slot_2))) (aA rfl) (aC hS rfl) rfl)),
      fun S hS => aB rfl (aO rfl rfl (aA rfl) (aF hS rfl) c17 (iZ (m := 0) (aA rfl) (aC hS rfl) rfl (aC hS rfl) dV.of (cE aW h19))),
      fun S hS => aB rfl (aO rfl rfl (aA rfl) (aF hS rfl) c17 (vL (aA rfl) (aC hS rfl) (m := 0) rfl (pF aW h19) rfl bL)),
      fun S hS => aB rfl (aO rfl rfl (aA rfl) (aF hS rfl) c17 (bP (aA rfl) (aC hS rfl) (aC hS rfl) rfl)),
      fun S hS => aB rfl (aL rfl (bR (v := .d (.lit (.bool ((decide (p8.1.Old = x18)))))) (aA rfl) (aC hS rfl) c17 (aC hS rfl) rfl)), trivial⟩⟩
     · exact dB (aZ rfl (bC ⟨rfl, rfl, rfl, rfl, rfl, trivial⟩))
    ·have h16 := bD c17 h16
     have h16 := Option.some.inj h16
     subst h16
     refine ⟨[(15, 0, .bp b14 0 2), (16, 1, .d (.lit (.int .i64 p8.1.Place))), (17, 2, .d (.lit (.int .i64 slot_2))), (18, 3, .d (.lit (.bool ((decide (p8.1.Place = slot_2)))))), (19, 4, .d (.lit (.bool ((decide (p8.1.Place = slot_2)))))), (20, 5, .tup []), (21, 6, .tup []), (22, 7, .tup []), (23, 8, .tup []), (24, 9, .tup []), (25, 10, .tup []), (26, 11, .tup []), (27, 12, .tup []), (28, 13, .tup []), (29, 14, .tup []), (30, 15, .d (.lit (.bool false)))], ?_, ?_⟩
     · exact ⟨by kernel_rfl, by kernel_rfl, by kernel_rfl, by kernel_rfl, by kernel_rfl, [([], []), ([0], []), ([], []), ([1, 2], []), ([3], []), ([4], []), ([4, 5], []), ([4], []), ([4, 7], []), ([4, 8], []), ([4, 9], []), ([4], []), ([4, 10, 11], []), ([4, 12], []), ([4, 6, 13], []), ([4, 14], [])], by kernel_rfl, ⟨fun S hS => aB rfl (aL rfl (aN (aA rfl) (aC hS rfl) oO)),
      fun S hS => aB rfl (aL rfl (aQ (aA rfl) (aC hS rfl) (i := 5) rfl rfl bL)),
      fun S hS => aB rfl (aL rfl (aD (v := .d (.lit (.int .i64 slot_2))) (aA rfl) (aC hS rfl) rfl)),
      fun S hS => aB rfl (aL rfl (bP (aA rfl) (aC hS rfl) (aC hS rfl) rfl)),
      fun S hS => aB rfl (aL rfl (aD (v := .d (.lit (.bool ((decide (p8.1.Place = slot_2)))))) (aA rfl) (aC hS rfl) rfl)),
      fun S hS => aB rfl (aM rfl rfl (aA rfl) rfl (aA rfl) (aF hS rfl) c17),
      fun S hS => aB rfl (aM rfl rfl (aA rfl) rfl (aA rfl) (aF hS rfl) c17),
      fun S hS => aB rfl (aM rfl rfl (aA rfl) rfl (aA rfl) (aF hS rfl) c17),
      fun S hS => aB rfl (aM rfl rfl (aA rfl) rfl (aA rfl) (aF hS rfl) c17),
      fun S hS => aB rfl (aM rfl rfl (aA rfl) rfl (aA rfl) (aF hS rfl) c17),
      fun S hS => aB rfl (aM rfl rfl (aA rfl) rfl (aA rfl) (aF hS rfl) c17),
      fun S hS => aB rfl (aM rfl rfl (aA rfl) rfl (aA rfl) (aF hS rfl) c17),
      fun S hS => aB rfl (aM rfl rfl (aA rfl) rfl (aA rfl) (aF hS rfl) c17),
      fun S hS => aB rfl (aM rfl rfl (aA rfl) rfl (aA rfl) (aF hS rfl) c17),
      fun S hS => aB rfl (aM rfl rfl (aA rfl) rfl (aA rfl) (aF hS rfl) c17),
      fun S hS => aB rfl (aL rfl (bQ (v := .d (.lit (.bool false))) (aA rfl) (aC hS rfl) c17 rfl rfl)), trivial⟩⟩
     · exact dB (aZ rfl (bC ⟨rfl, rfl, rfl, rfl, rfl, trivial⟩))
   ·refine aI ?_
    refine cK rfl (fun c20 => ?_) (fun c20 => ?_)
    ·have h := gY c20 h
     refine aH ?_
     refine aE ?_
     refine tr1 rfl (bO (aA rfl) rfl (i := 5) rfl lY (es := (aY p8.1)) rfl rfl) ?_
     refine tr1 rfl (cL (i := 3) rfl rfl rfl rfl rfl Try.sizeOf141 rfl (aA rfl) (Nat.le_of_ble_eq_true rfl) (ds' := (aY p8.1)) rfl) ?_
     refine tr1 rfl (aK (v := .d (.lit (.bool true))) (aA rfl) rfl rfl) ?_
     refine aI ?_
     refine cT (bI [1, 0, 2, 3, 4, 5] rfl rfl (le_refl _)) ?_
     exact cB ⟨rfl, _, [.box d_0_b d_0_o [.lit (.int .i64 d_0_Tree.Rounds), .sl 1 (d_0_Tree.Slots.map aW), .lit d_0_players_v, .lit (.map (some d_0_won_r))], .arr d_0_players_v 3 1 (d_0_players.map aW), .map lucky_1_r (lucky_1.map fun p : aJ × Int => ((fun a : aJ => Value.agg ((aY a).map bW).toArray) p.1, (fun v : Int => AV.d (.lit (.int .i64 v))) p.2)) lucky_1_bs lucky_1_ck], [.box b1 0 (aY p8.1), .iter q2 lucky_1_r lucky_1_ck (seen6 ++ [b10]) lucky_1_ck, .box b14 0 (aY p8.1)], _, .two (.cell 6 141 rfl (i := 3) rfl lY (es := (aY p8.1)) rfl rfl) (.tmp 7 (v := .d (.lit (.bool true))) rfl), .refl _, .same _, (p8.1, true), h, rfl, rfl⟩
    ·have h := gX c20 h
     refine fB ?_
     exact ⟨(o6_0_5, (seen6 ++ [b10])), h, bI [0, 1, 2, 3, 4] rfl rfl (bC ⟨rfl, rfl, rfl, rfl, trivial⟩)⟩
  ·exact absurd c21 (by decide)

theorem vR (d_0_Tree : aV) (d_0_players : List Int) (lucky_1 : List (aJ × Int)) {Q : (Bool × (List Int) × (List (aJ × Int))) → Prop} {d_0_b d_0_o : Nat} {d_0_players_v : Value} {d_0_won_r : Nat} {lucky_1_r : Nat} {lucky_1_bs : List Nat} {lucky_1_ck : Nat} (h : jC d_0_Tree d_0_players lucky_1 Q) : fI Try.prog 123 [.bp d_0_b d_0_o 0, .d (.lit (.map (some lucky_1_r)))] [.box d_0_b d_0_o [.lit (.int .i64 d_0_Tree.Rounds), .sl 1 (d_0_Tree.Slots.map aW), .lit d_0_players_v, .lit (.map (some d_0_won_r))], .arr d_0_players_v 3 1 (d_0_players.map aW), .map lucky_1_r (lucky_1.map fun p : aJ × Int => ((fun a : aJ => Value.agg ((aY a).map bW).toArray) p.1, (fun v : Int => AV.d (.lit (.int .i64 v))) p.2)) lucky_1_bs lucky_1_ck] (fun r' o' => ∃ (r : Bool × (List Int) × (List (aJ × Int))) (bs3 : List Nat) (ck3 : Nat), Q r ∧ r' = .d (.lit (.bool r.1)) ∧ o' = [.box d_0_b d_0_o [.lit (.int .i64 d_0_Tree.Rounds), .sl 1 (d_0_Tree.Slots.map aW), .lit d_0_players_v, .lit (.map (some d_0_won_r))], .arr d_0_players_v 3 1 (r.2.1.map aW), .map lucky_1_r (r.2.2.map fun p : aJ × Int => ((fun a : aJ => Value.agg ((aY a).map bW).toArray) p.1, (fun v : Int => AV.d (.lit (.int .i64 v))) p.2)) bs3 ck3]) := by
 unfold jC at h
 refine jA Try.func123 rfl (rs := [.tmp 4]) Try.results123 Try.ntmps123 (Nat.le_of_ble_eq_true rfl) ?_
 refine aH ?_
 refine aE ?_
 refine tr1 rfl (aK (v := .d (.lit (.bool false))) (aA rfl) rfl rfl) ?_
 refine aI ?_
 refine aH ?_
 refine aE ?_
 refine tr1 rfl (aD (v := .bp d_0_b d_0_o 0) (aA rfl) rfl rfl) ?_
 refine tr1 rfl (gO (aA rfl) rfl) ?_
 refine tr1 rfl (aN (aA rfl) rfl yT) ?_
 refine tr1 rfl (aN (aA rfl) rfl mQ) ?_
 refine tr1 rfl (aQ (aA rfl) rfl (i := 0) rfl rfl eI) ?_
 obtain ⟨r1, h2, h⟩ := iA h
 refine cI rfl (aCy (aA rfl) (.func _ _ Try.call122) rfl rfl (rM _ h2)) ?_
 rintro _ ⟨v3, rfl⟩
 refine tr1 rfl (aK (v := .d (.lit v3)) (aA rfl) rfl rfl) ?_
 refine aI ?_
 refine aH ?_
 refine aH ?_
 refine aE ?_
 refine tr1 rfl (aD (v := .bp d_0_b d_0_o 0) (aA rfl) rfl rfl) ?_
 refine tr1 rfl (gO (aA rfl) rfl) ?_
 refine tr1 rfl (aN (aA rfl) rfl nF) ?_
 refine tr1 rfl (aQ (aA rfl) rfl (i := 0) rfl rfl eI) ?_
 refine tr1 rfl (qW (m := 1) (aA rfl) rfl rfl dV.of) ?_
 refine tr1 rfl (aD (v := .d (.lit (.int .i64 0))) (aA rfl) rfl rfl) ?_
 refine aI ?_
 refine cW ?_
 refine rX [0, 1, 19] (fun (s4 : Int × (List Int) × (List (aJ × Int)) × (List Int) × (List Nat) × Nat × Value) => [(5, .d (.lit s4.2.2.2.2.2.2)), (20, .d (.lit (.int .i64 s4.1)))]) (fun (s4 : Int × (List Int) × (List (aJ × Int)) × (List Int) × (List Nat) × Nat × Value) => [.arr d_0_players_v 3 1 (s4.2.1.map aW), .box d_0_b d_0_o [.lit (.int .i64 d_0_Tree.Rounds), .sl 1 (d_0_Tree.Slots.map aW), .lit d_0_players_v, .lit (.map (some d_0_won_r))], .map lucky_1_r (s4.2.2.1.map fun p : aJ × Int => ((fun a : aJ => Value.agg ((aY a).map bW).toArray) p.1, (fun v : Int => AV.d (.lit (.int .i64 v))) p.2)) s4.2.2.2.2.1 s4.2.2.2.2.2.1, .arr s4.2.2.2.2.2.2 3 1 (s4.2.2.2.1.map aW)]) (fun (k : Nat) (s4 : Int × (List Int) × (List (aJ × Int)) × (List Int) × (List Nat) × Nat × Value) => dK Q (d_0_players.length : Int) d_0_Tree k s4.1 s4.2.1 s4.2.2.1 s4.2.2.2.1) (fun _ h => h) (0, d_0_players, lucky_1, r1, lucky_1_bs, lucky_1_ck, v3) h (bI [1, 0, 2, 3] rfl rfl (aZ rfl (aZ rfl (bC ⟨rfl, rfl, rfl, trivial⟩)))) ?_
 rintro k8 ⟨t20_0_4, d_0_4, lucky_0_4, o14_0_4, bs5, ck6, w7⟩ h
 simp only [dK] at h
 refine aH ?_
 refine aE ?_
 refine tr1 rfl (bP (aA rfl) rfl rfl rfl) ?_
 refine aI ?_
 refine aH ?_
 refine cK rfl (fun c9 => ?_) (fun c9 => ?_)
 ·have h := gY c9 h
  refine cF ?_
  refine aH ?_
  refine cW ?_
  refine aH ?_
  refine aE ?_
  refine tr1 rfl (aD (v := .d (.lit (.int .i64 t20_0_4))) (aA rfl) rfl rfl) ?_
  refine tr1 rfl (aK (v := .d (.lit (.int .i64 t20_0_4))) (aA rfl) rfl rfl) ?_
  refine aI ?_
  refine aH ?_
  refine aE ?_
  refine tr1 rfl (aD (v := .bp d_0_b d_0_o 0) (aA rfl) rfl rfl) ?_
  refine tr1 rfl (aD (v := .d (.lit (.map (some lucky_1_r)))) (aA rfl) rfl rfl) ?_
  refine tr1 rfl (aD (v := .d (.lit (.int .i64 t20_0_4))) (aA rfl) rfl rfl) ?_
  refine lB (bI [1, 0, 2, 3] rfl rfl (le_refl _)) ?_
  refine cI rfl (mA (passed := [.box d_0_b d_0_o [.lit (.int .i64 d_0_Tree.Rounds), .sl 1 (d_0_Tree.Slots.map aW), .lit d_0_players_v, .lit (.map (some d_0_won_r))], .arr d_0_players_v 3 1 (d_0_4.map aW), .map lucky_1_r (lucky_0_4.map fun p : aJ × Int => ((fun a : aJ => Value.agg ((aY a).map bW).toArray) p.1, (fun v : Int => AV.d (.lit (.int .i64 v))) p.2)) bs5 ck6]) (aA rfl) rfl (.func _ _ Try.call131) rfl rfl (rD d_0_Tree d_0_4 lucky_0_4 t20_0_4 h)) ?_
  rintro _ ⟨_, _, ⟨r10, h, rfl, rfl⟩, rfl⟩
  refine tr1 rfl (aD (v := .tup [.agg (aY r10.1), .d (.lit (.bool r10.2))]) (aA rfl) rfl rfl) ?_
  refine tr1 rfl (bZ (aA rfl) rfl rfl) ?_
  refine tr1 rfl (bZ (aA rfl) rfl rfl) ?_
  refine cI rfl (dM (zs := [.lit (.int .i64 0), .lit (.int .i64 0), .lit (.int .i64 0), .lit (.int .i64 0), .lit (.int .i64 0)]) (aA rfl) Try.zeroValue141 rfl rfl) ?_
  rintro _ ⟨b11, rfl⟩
  refine tr1 rfl (cL (i := 4) rfl rfl rfl rfl rfl Try.sizeOf141 rfl (aA rfl) (Nat.le_of_ble_eq_true rfl) (ds' := (aY r10.1)) rfl) ?_
  refine tr1 rfl (aK (v := .d (.lit (.bool r10.2))) (aA rfl) rfl rfl) ?_
  refine aI ?_
  refine tQ ?_
  refine rX [0, 1, 6, 19, 20] (fun (s12 : Bool × (List Int) × (List (aJ × Int)) × aJ × (List Int) × (List Nat) × Nat × Nat × Value) => [(5, .d (.lit s12.2.2.2.2.2.2.2.2)), (7, .bp s12.2.2.2.2.2.2.2.1 0 0), (8, .d (.lit (.bool s12.1)))]) (fun (s12 : Bool × (List Int) × (List (aJ × Int)) × aJ × (List Int) × (List Nat) × Nat × Nat × Value) => [.arr d_0_players_v 3 1 (s12.2.1.map aW), .box d_0_b d_0_o [.lit (.int .i64 d_0_Tree.Rounds), .sl 1 (d_0_Tree.Slots.map aW), .lit d_0_players_v, .lit (.map (some d_0_won_r))], .map lucky_1_r (s12.2.2.1.map fun p : aJ × Int => ((fun a : aJ => Value.agg ((aY a).map bW).toArray) p.1, (fun v : Int => AV.d (.lit (.int .i64 v))) p.2)) s12.2.2.2.2.2.1 s12.2.2.2.2.2.2.1, .box s12.2.2.2.2.2.2.2.1 0 (aY s12.2.2.2.1), .arr s12.2.2.2.2.2.2.2.2 3 1 (s12.2.2.2.2.1.map aW)]) (fun (k : Nat) (s12 : Bool × (List Int) × (List (aJ × Int)) × aJ × (List Int) × (List Nat) × Nat × Nat × Value) => eA Q (dK Q (d_0_players.length : Int) d_0_Tree k8) t20_0_4 (d_0_players.length : Int) t20_0_4 d_0_Tree k s12.1 s12.2.1 s12.2.2.1 s12.2.2.2.1 s12.2.2.2.2.1) (fun _ h => h) (r10.2, d_0_4, lucky_0_4, r10.1, o14_0_4, bs5, ck6, b11, w7) h (bI [1, 0, 2, 4, 3] rfl rfl (aZ rfl (aZ rfl (aZ rfl (bC ⟨rfl, rfl, rfl, rfl, rfl, trivial⟩))))) ?_
  rintro k17 ⟨isv_2_12, d_2_12, lucky_2_12, s_2_12, o14_2_12, bs13, ck14, b15, w16⟩ h
  simp only [eA] at h
  refine aH ?_
  refine aH ?_
  refine aE ?_
  refine tr1 rfl (aD (v := .d (.lit (.bool isv_2_12))) (aA rfl) rfl rfl) ?_
  refine aI ?_
  refine cK rfl (fun c18 => ?_) (fun c18 => ?_)
  ·have h := gY c18 h
   refine cF ?_
   refine aH ?_
   refine cW ?_
   refine aH ?_
   refine aH ?_
   refine aE ?_
   refine tr1 rfl (aD (v := .d (.lit w16)) (aA rfl) rfl rfl) ?_
   refine tr1 rfl (aN (aA rfl) rfl sL) ?_
   refine tr1 rfl (aQ (aA rfl) rfl (i := 3) rfl rfl bL) ?_
   obtain ⟨r19, h20, h⟩ := iA h
   refine tr1 rfl (cQ (aA rfl) (.func _ _ Try.call63) rfl rfl (.cons (.d (jF 4 rfl (dT (f := aW) fun _ => rfl))) (.cons (.same _) .nil)) (eO _ _ h20) rfl) ?_
   refine aI ?_
   refine cK rfl (fun c21 => ?_) (fun c21 => ?_)
   ·have h := gY c21 h
    refine aH ?_
    refine aE ?_
    refine tr1 rfl (aK (v := .d (.lit (.bool false))) (aA rfl) rfl rfl) ?_
    refine aI ?_
    refine cT (bI [1, 0, 2, 3, 4] rfl rfl (le_refl _)) ?_
    exact cB ⟨rfl, _, [.box d_0_b d_0_o [.lit (.int .i64 d_0_Tree.Rounds), .sl 1 (d_0_Tree.Slots.map aW), .lit d_0_players_v, .lit (.map (some d_0_won_r))], .arr d_0_players_v 3 1 (d_2_12.map aW), .map lucky_1_r (lucky_2_12.map fun p : aJ × Int => ((fun a : aJ => Value.agg ((aY a).map bW).toArray) p.1, (fun v : Int => AV.d (.lit (.int .i64 v))) p.2)) bs13 ck14], [.box b15 0 (aY s_2_12), .arr w16 3 1 (o14_2_12.map aW)], _, .one (.tmp 4 (v := .d (.lit (.bool false))) rfl), .refl _, .same _, (false, d_2_12, lucky_2_12), bs13, ck14, h, rfl, rfl⟩
   ·have h := gX c21 h
    refine cF ?_
    refine aH ?_
    refine eS mix 7 [0, 1, 5, 6, 7, 19, 20] [(45, .d (.lit d_0_players_v)), (46, .d (.lit (.int .i64 t20_0_4))), (48, .d (.lit (.int .i64 s_2_12.Player)))] ?_ ?_
    ·refine ⟨[(42, 0, .bp d_0_b d_0_o 0), (43, 1, .bp d_0_b d_0_o 0), (44, 2, .bp d_0_b d_0_o 2), (45, 3, .d (.lit d_0_players_v)), (46, 4, .d (.lit (.int .i64 t20_0_4))), (47, 5, .bp b15 0 3), (48, 6, .d (.lit (.int .i64 s_2_12.Player)))], ?_, ?_⟩
     · exact ⟨by kernel_rfl, by kernel_rfl, by kernel_rfl, by kernel_rfl, by kernel_rfl, [([], []), ([0], []), ([1], []), ([2], []), ([], []), ([], []), ([5], [])], by kernel_rfl, ⟨fun S hS => aB rfl (aL rfl (aD (v := .bp d_0_b d_0_o 0) (aA rfl) (aC hS rfl) rfl)),
      fun S hS => aB rfl (aL rfl (gO (aA rfl) (aC hS rfl))),
      fun S hS => aB rfl (aL rfl (aN (aA rfl) (aC hS rfl) nF)),
      fun S hS => aB rfl (aL rfl (aQ (aA rfl) (aC hS rfl) (i := 1) rfl rfl eI)),
      fun S hS => aB rfl (aL rfl (aD (v := .d (.lit (.int .i64 t20_0_4))) (aA rfl) (aC hS rfl) rfl)),
      fun S hS => aB rfl (aL rfl (aN (aA rfl) (aC hS rfl) sL)),
      fun S hS => aB rfl (aL rfl (aQ (aA rfl) (aC hS rfl) (i := 3) rfl rfl bL)), trivial⟩⟩
     · exact dB (aZ rfl (aZ rfl (aZ rfl (bC ⟨rfl, rfl, rfl, rfl, rfl, rfl, rfl, trivial⟩))))
    ·obtain ⟨x22, h23, h⟩ := iA h
     refine tr1 rfl (iZ (m := 0) (aA rfl) rfl rfl rfl dV.of (cE aW h23)) ?_
     refine tr1 rfl (qX (l := 0) rfl rfl (pF aW h23) rfl rfl rfl Try.sizeOf3 rfl (aA rfl) (Nat.le_of_ble_eq_true rfl) (rows' := ((d_2_12.set t20_0_4.toNat s_2_12.Player)).map aW) (wP _ _ _ _ rfl)) ?_
     refine aI ?_
     refine aH ?_
     refine aE ?_
     refine tr1 rfl (aD (v := .d (.lit w16)) (aA rfl) rfl rfl) ?_
     refine tr1 rfl (aN (aA rfl) rfl sL) ?_
     refine tr1 rfl (aQ (aA rfl) rfl (i := 3) rfl rfl bL) ?_
     refine tr1 rfl (jJ (aA rfl) dV rfl rfl (rows := ([s_2_12.Player]).map aW) rfl (dT (f := aW) fun _ => rfl) rfl (by decide)) ?_
     obtain ⟨x24, h25, h⟩ := iA h
     refine cI rfl (mJ (i := 4) (aA rfl) dV rfl rfl rfl (fun _ => rfl) h25 rfl) ?_
     rintro _ ⟨v26, rfl⟩
     refine tr1 rfl (aK (v := .d (.lit v26)) (aA rfl) rfl rfl) ?_
     refine aI ?_
     refine aE ?_
     refine tr1 rfl (aD (v := .d (.lit (.map (some lucky_1_r)))) (aA rfl) rfl rfl) ?_
     refine tr1 rfl (bO (aA rfl) rfl (i := 3) rfl lY (es := (aY s_2_12)) rfl rfl) ?_
     refine tr1 rfl (aLk (av := (fun v : Int => AV.d (.lit (.int .i64 v)))) (l := lucky_2_12) (a := s_2_12) (m := 2) aDm Try.underlying175 rfl rfl rfl rfl (jN (enc := aY) s_2_12 rfl)) ?_
     refine lA ?_
     refine aH ?_
     refine aH ?_
     refine aE ?_
     refine tr1 rfl (bO (aA rfl) rfl (i := 3) rfl lY (es := (aY s_2_12)) rfl rfl) ?_
     refine aI ?_
     refine aE ?_
     refine cI rfl (dM (zs := [.lit (.int .i64 0), .lit (.int .i64 0), .lit (.int .i64 0), .lit (.int .i64 0), .lit (.int .i64 0)]) (aA rfl) Try.zeroValue141 rfl rfl) ?_
     rintro _ ⟨b27, rfl⟩
     refine tr1 rfl (cL (i := 5) rfl rfl rfl rfl rfl Try.sizeOf141 rfl (aA rfl) (Nat.le_of_ble_eq_true rfl) (ds' := (aY s_2_12)) rfl) ?_
     refine aI ?_
     refine aE ?_
     refine tr1 rfl (aD (v := .bp d_0_b d_0_o 0) (aA rfl) rfl rfl) ?_
     refine tr1 rfl (aD (v := .d (.lit (.map (some lucky_1_r)))) (aA rfl) rfl rfl) ?_
     refine tr1 rfl (aD (v := .d (.lit (.int .i64 t20_0_4))) (aA rfl) rfl rfl) ?_
     refine lB (bI [1, 0, 2, 3, 4, 5] rfl rfl (le_refl _)) ?_
     refine cI rfl (mA (passed := [.box d_0_b d_0_o [.lit (.int .i64 d_0_Tree.Rounds), .sl 1 (d_0_Tree.Slots.map aW), .lit d_0_players_v, .lit (.map (some d_0_won_r))], .arr d_0_players_v 3 1 ((d_2_12.set t20_0_4.toNat s_2_12.Player).map aW), .map lucky_1_r ((mS s_2_12 lucky_2_12).map fun p : aJ × Int => ((fun a : aJ => Value.agg ((aY a).map bW).toArray) p.1, (fun v : Int => AV.d (.lit (.int .i64 v))) p.2)) (vT s_2_12 lucky_2_12 bs13) ck14]) (aA rfl) rfl (.func _ _ Try.call131) rfl rfl (rD d_0_Tree (d_2_12.set t20_0_4.toNat s_2_12.Player) (mS s_2_12 lucky_2_12) t20_0_4 h)) ?_
     rintro _ ⟨_, _, ⟨r28, h, rfl, rfl⟩, rfl⟩
     refine tr1 rfl (aD (v := .tup [.agg (aY r28.1), .d (.lit (.bool r28.2))]) (aA rfl) rfl rfl) ?_
     refine tr1 rfl (bZ (aA rfl) rfl rfl) ?_
     refine tr1 rfl (bZ (aA rfl) rfl rfl) ?_
     refine tr1 rfl (cL (i := 5) rfl rfl rfl rfl rfl Try.sizeOf141 rfl (aA rfl) (Nat.le_of_ble_eq_true rfl) (ds' := (aY r28.1)) rfl) ?_
     refine tr1 rfl (aK (v := .d (.lit (.bool r28.2))) (aA rfl) rfl rfl) ?_
     refine aI ?_
     exact ⟨(r28.2, (d_2_12.set t20_0_4.toNat s_2_12.Player), (mS s_2_12 lucky_2_12), r28.1, x24, (vT s_2_12 lucky_2_12 bs13), ck14, b27, v26), h, bI [1, 0, 2, 5, 4] rfl rfl (aZ rfl (aZ rfl (aZ rfl (bC ⟨rfl, rfl, rfl, rfl, rfl, trivial⟩))))⟩
  ·have h := gX c18 h
   refine dO ?_
   refine .inl ⟨rfl, ?_⟩
   simp only [jS] at h
   simp only [jR] at h
   refine aE ?_
   refine tr1 rfl (cG (aA rfl) rfl rfl rfl) ?_
   refine tr1 rfl (aD (v := .d (.lit (.int .i64 ((w64 (t20_0_4 + 1)))))) (aA rfl) rfl rfl) ?_
   refine aI ?_
   exact ⟨(w64 (t20_0_4 + 1), d_2_12, lucky_2_12, o14_2_12, bs13, ck14, w16), h, bI [0, 1, 2, 4] rfl rfl (aZ rfl (aZ rfl (bC ⟨rfl, rfl, rfl, trivial⟩)))⟩
 ·have h := gX c9 h
  refine dO ?_
  refine .inl ⟨rfl, ?_⟩
  simp only [jQ] at h
  refine aH ?_
  refine aE ?_
  refine tr1 rfl (aD (v := .d (.lit (.map (some lucky_1_r)))) (aA rfl) rfl rfl) ?_
  refine tr1 rfl (aLm (m := 2) (aA rfl) Try.underlying175 rfl rfl) ?_
  refine tr1 rfl (bP (aA rfl) rfl rfl rfl) ?_
  refine tr1 rfl (aK (v := .d (.lit (.bool ((decide ((lucky_0_4.length : Int) = 0)))))) (aA rfl) rfl rfl) ?_
  refine aI ?_
  refine cT (bI [1, 0, 2, 3] rfl rfl (le_refl _)) ?_
  exact cB ⟨rfl, _, [.box d_0_b d_0_o [.lit (.int .i64 d_0_Tree.Rounds), .sl 1 (d_0_Tree.Slots.map aW), .lit d_0_players_v, .lit (.map (some d_0_won_r))], .arr d_0_players_v 3 1 (d_0_4.map aW), .map lucky_1_r (lucky_0_4.map fun p : aJ × Int => ((fun a : aJ => Value.agg ((aY a).map bW).toArray) p.1, (fun v : Int => AV.d (.lit (.int .i64 v))) p.2)) bs5 ck6], [.arr w7 3 1 (o14_0_4.map aW)], _, .one (.tmp 4 (v := .d (.lit (.bool ((decide ((lucky_0_4.length : Int) = 0)))))) rfl), .refl _, .same _, (decide ((lucky_0_4.length : Int) = 0), d_0_4, lucky_0_4), bs5, ck6, h, rfl, rfl⟩

theorem tW (round_0 : Int) (slot_1 : Int) {r : aG} (h : nM round_0 slot_1 = some r) : Fn Try.prog 125 [.d (.lit (.int .i64 round_0)), .d (.lit (.int .i64 slot_1))] (.agg (aP r)) := by
 unfold nM at h
 refine sY Try.func125 rfl (rs := [.cell 4 112]) Try.results125 Try.ntmps125 (Nat.le_of_ble_eq_true rfl) ?_
 refine aH ?_
 refine aE ?_
 refine cI rfl (dM (zs := [.lit (.int .i64 0), .lit (.int .i64 0)]) (aA rfl) Try.zeroValue112 rfl rfl) ?_
 rintro _ ⟨b1, rfl⟩
 refine aI ?_
 refine aH ?_
 refine aE ?_
 refine tr1 rfl (aD (v := .d (.lit (.int .i64 round_0))) (aA rfl) rfl rfl) ?_
 refine tr1 rfl (aD (v := .d (.lit (.int .i64 slot_1))) (aA rfl) rfl rfl) ?_
 refine tr1 rfl (aD (v := .d (.lit (.int .i64 round_0))) (aA rfl) rfl rfl) ?_
 refine tr1 rfl (cG (aA rfl) rfl rfl rfl) ?_
 obtain ⟨u2, h3, h⟩ := bind_some h
 refine tr1 rfl (aEx (aA rfl) rfl rfl (vC h3)) ?_
 refine tr1 rfl (eD (aA rfl) tP (zs := [.lit (.int .i64 0), .lit (.int .i64 0)]) rfl rfl rfl rfl (es := [.lit (.int .i64 round_0), .lit (.int .i64 ((slot_1.fdiv (2 ^ (min (w64 (round_0 + 1)).toNat 64)))))]) rfl) ?_
 refine tr1 rfl (cL (i := 0) rfl rfl rfl rfl rfl Try.sizeOf112 rfl (aA rfl) (Nat.le_of_ble_eq_true rfl) (ds' := (aP (aG.mk round_0 (slot_1.fdiv (2 ^ (min (w64 (round_0 + 1)).toNat 64)))))) rfl) ?_
 refine aI ?_
 have h := Option.some.inj h
 subst h
 exact cB ⟨rfl, _, [.box b1 0 (aP (aG.mk round_0 (slot_1.fdiv (2 ^ (min (w64 (round_0 + 1)).toNat 64)))))], .one (.cell 4 112 rfl (i := 0) rfl iR (es := (aP (aG.mk round_0 (slot_1.fdiv (2 ^ (min (w64 (round_0 + 1)).toNat 64)))))) rfl rfl), .refl _, .same _⟩

theorem rF (d_0_Tree : aV) (d_0_players : List Int) (d_0_won : List (aG × Int)) (slot_1 : Int) (round_2 : Int) {r : Bool × (List (aG × Int))} {d_0_b d_0_o : Nat} {d_0_players_v : Value} {d_0_won_r : Nat} {d_0_won_bs : List Nat} {d_0_won_ck : Nat} (h : jM d_0_Tree d_0_players d_0_won slot_1 round_2 = some r) : fI Try.prog 124 [.bp d_0_b d_0_o 0, .d (.lit (.int .i64 slot_1)), .d (.lit (.int .i64 round_2))] [.box d_0_b d_0_o [.lit (.int .i64 d_0_Tree.Rounds), .sl 1 (d_0_Tree.Slots.map aW), .lit d_0_players_v, .lit (.map (some d_0_won_r))], .arr d_0_players_v 3 1 (d_0_players.map aW), .map d_0_won_r (d_0_won.map fun p : aG × Int => ((fun a : aG => Value.agg ((aP a).map bW).toArray) p.1, (fun v : Int => AV.d (.lit (.int .i64 v))) p.2)) d_0_won_bs d_0_won_ck] (fun r' o' => ∃ (bs2 : List Nat) (ck2 : Nat), r' = .d (.lit (.bool r.1)) ∧ o' = [.box d_0_b d_0_o [.lit (.int .i64 d_0_Tree.Rounds), .sl 1 (d_0_Tree.Slots.map aW), .lit d_0_players_v, .lit (.map (some d_0_won_r))], .arr d_0_players_v 3 1 (d_0_players.map aW), .map d_0_won_r (r.2.map fun p : aG × Int => ((fun a : aG => Value.agg ((aP a).map bW).toArray) p.1, (fun v : Int => AV.d (.lit (.int .i64 v))) p.2)) bs2 ck2]) := by
 unfold jM at h
 refine jA Try.func124 rfl (rs := [.tmp 6]) Try.results124 Try.ntmps124 (Nat.le_of_ble_eq_true rfl) ?_
 refine aH ?_
 refine aE ?_
 refine tr1 rfl (aK (v := .d (.lit (.bool false))) (aA rfl) rfl rfl) ?_
 refine aI ?_
 refine aH ?_
 refine aH ?_
 refine aE ?_
 refine tr1 rfl (aD (v := .d (.lit (.int .i64 round_2))) (aA rfl) rfl rfl) ?_
 refine tr1 rfl (cG (aA rfl) rfl rfl rfl) ?_
 refine tr1 rfl (aD (v := .d (.lit (.int .i64 0))) (aA rfl) rfl rfl) ?_
 refine aI ?_
 refine cW ?_
 refine dY [0, 1, 12] (fun (s1 : Int × (List (aG × Int)) × (List Nat) × Nat) => [(13, .d (.lit (.int .i64 s1.1)))]) (fun (s1 : Int × (List (aG × Int)) × (List Nat) × Nat) => [.arr d_0_players_v 3 1 (d_0_players.map aW), .map d_0_won_r (s1.2.1.map fun p : aG × Int => ((fun a : aG => Value.agg ((aP a).map bW).toArray) p.1, (fun v : Int => AV.d (.lit (.int .i64 v))) p.2)) s1.2.2.1 s1.2.2.2, .box d_0_b d_0_o [.lit (.int .i64 d_0_Tree.Rounds), .sl 1 (d_0_Tree.Slots.map aW), .lit d_0_players_v, .lit (.map (some d_0_won_r))]]) (fun (k : Nat) (s1 : Int × (List (aG × Int)) × (List Nat) × Nat) => fZ slot_1 (w64 (round_2 + 1)) d_0_players d_0_Tree k s1.1 s1.2.1) (fun _ => rfl) (0, d_0_won, d_0_won_bs, d_0_won_ck) h (bI [1, 2, 0] rfl rfl (aZ rfl (bC ⟨rfl, rfl, rfl, trivial⟩))) ?_
 rintro k4 ⟨t13_0_1, d_0_1_2, bs2, ck3⟩ h
 simp only [fZ] at h
 refine aH ?_
 refine aE ?_
 refine tr1 rfl (bP (aA rfl) rfl rfl rfl) ?_
 refine aI ?_
 refine aH ?_
 refine cK rfl (fun c5 => ?_) (fun c5 => ?_)
 ·have h := bB c5 h
  refine cF ?_
  refine aH ?_
  refine cW ?_
  refine aH ?_
  refine aE ?_
  refine tr1 rfl (aD (v := .d (.lit (.int .i64 t13_0_1))) (aA rfl) rfl rfl) ?_
  refine tr1 rfl (aK (v := .d (.lit (.int .i64 t13_0_1))) (aA rfl) rfl rfl) ?_
  refine aI ?_
  refine aH ?_
  refine aE ?_
  refine tr1 rfl (aD (v := .d (.lit (.int .i64 t13_0_1))) (aA rfl) rfl rfl) ?_
  refine tr1 rfl (aD (v := .d (.lit (.int .i64 slot_1))) (aA rfl) rfl rfl) ?_
  obtain ⟨r6, h7, h⟩ := bind_some h
  refine tr1 rfl (iX (aA rfl) (.func _ _ Try.call125) rfl rfl (tW _ _ h7)) ?_
  refine cI rfl (dM (zs := [.lit (.int .i64 0), .lit (.int .i64 0)]) (aA rfl) Try.zeroValue112 rfl rfl) ?_
  rintro _ ⟨b8, rfl⟩
  refine tr1 rfl (cL (i := 3) rfl rfl rfl rfl rfl Try.sizeOf112 rfl (aA rfl) (Nat.le_of_ble_eq_true rfl) (ds' := (aP r6)) rfl) ?_
  refine aI ?_
  refine aH ?_
  refine aH ?_
  refine eS mix 10 [0, 1, 8, 12, 13] [(9, .d (.lit (.int .i64 ((cZ r6 0 d_0_1_2))))), (27, .d (.lit (.bool ((dU r6 d_0_1_2)))))] ?_ ?_
  ·refine ⟨[(20, 0, .bp d_0_b d_0_o 0), (21, 1, .bp d_0_b d_0_o 0), (22, 2, .bp d_0_b d_0_o 3), (23, 3, .d (.lit (.map (some d_0_won_r)))), (24, 4, .agg (aP r6)), (25, 5, .tup [.d (.lit (.int .i64 ((cZ r6 0 d_0_1_2)))), .d (.lit (.bool ((dU r6 d_0_1_2))))]), (19, 6, .tup [.d (.lit (.int .i64 ((cZ r6 0 d_0_1_2)))), .d (.lit (.bool ((dU r6 d_0_1_2))))]), (26, 7, .d (.lit (.int .i64 ((cZ r6 0 d_0_1_2))))), (27, 8, .d (.lit (.bool ((dU r6 d_0_1_2))))), (9, 9, .d (.lit (.int .i64 ((cZ r6 0 d_0_1_2)))))], ?_, ?_⟩
   · exact ⟨by kernel_rfl, by kernel_rfl, by kernel_rfl, by kernel_rfl, by kernel_rfl, [([], []), ([0], []), ([1], []), ([2], []), ([], []), ([3, 4], []), ([5], []), ([6], []), ([6], []), ([7], [])], by kernel_rfl, ⟨fun S hS => aB rfl (aL rfl (aD (v := .bp d_0_b d_0_o 0) (aA rfl) (aC hS rfl) rfl)),
      fun S hS => aB rfl (aL rfl (gO (aA rfl) (aC hS rfl))),
      fun S hS => aB rfl (aL rfl (aN (aA rfl) (aC hS rfl) uY)),
      fun S hS => aB rfl (aL rfl (aQ (aA rfl) (aC hS rfl) (i := 2) rfl rfl aAg)),
      fun S hS => aB rfl (aL rfl (bO (aA rfl) (aC hS rfl) (i := 3) rfl iR (es := (aP r6)) rfl rfl)),
      fun S hS => aB rfl (aL rfl (aCz (av := (fun v : Int => AV.d (.lit (.int .i64 v)))) (l := d_0_1_2) (z := 0) (a := r6) (m := 1) (aA rfl) tO Try.underlying116 Try.zeroValue3 (fun _ _ => .d (.lit _ rfl)) (aC hS rfl) rfl rfl (aC hS rfl) (jN (enc := aP) r6 rfl))),
      fun S hS => aB rfl (aL rfl (aD (v := .tup [.d (.lit (.int .i64 ((cZ r6 0 d_0_1_2)))), .d (.lit (.bool ((dU r6 d_0_1_2))))]) (aA rfl) (aC hS rfl) rfl)),
      fun S hS => aB rfl (aL rfl (bZ (aA rfl) (aC hS rfl) rfl)),
      fun S hS => aB rfl (aL rfl (bZ (aA rfl) (aC hS rfl) rfl)),
      fun S hS => aB rfl (aL rfl (aK (v := .d (.lit (.int .i64 ((cZ r6 0 d_0_1_2))))) (aA rfl) (aC hS rfl) rfl)), trivial⟩⟩
   · exact dB (aZ rfl (aZ rfl (bC ⟨rfl, rfl, rfl, rfl, rfl, trivial⟩)))
  ·refine tr1 rfl (aK (v := .d (.lit (.bool ((dU r6 d_0_1_2))))) (aA rfl) rfl rfl) ?_
   refine aI ?_
   refine aH ?_
   refine aE ?_
   refine tr1 rfl (aD (v := .d (.lit (.bool ((dU r6 d_0_1_2))))) (aA rfl) rfl rfl) ?_
   refine tr1 rfl (aD (v := .d (.lit (.bool ((dU r6 d_0_1_2))))) (aA rfl) rfl rfl) ?_
   obtain ⟨b9, h10, h⟩ := bind_some h
   refine dD 10 [0, 1, 8, 12, 13] 39 b9 ?_ ?_
   ·refine cA (dU r6 d_0_1_2) (fun c14 => ?_) (fun c14 => ?_)
    ·have h10 := bB c14 h10
     refine aU rfl rfl (aA rfl) rfl c14 (aD (v := .d (.lit (.int .i64 ((cZ r6 0 d_0_1_2))))) (aA rfl) rfl rfl) ?_
     refine aU rfl rfl (aA rfl) rfl c14 (aD (v := .bp d_0_b d_0_o 0) (aA rfl) rfl rfl) ?_
     refine aU rfl rfl (aA rfl) rfl c14 (gO (aA rfl) rfl) ?_
     refine aU rfl rfl (aA rfl) rfl c14 (aN (aA rfl) rfl nF) ?_
     refine aU rfl rfl (aA rfl) rfl c14 (aQ (aA rfl) rfl (i := 2) rfl rfl eI) ?_
     refine aU rfl rfl (aA rfl) rfl c14 (aD (v := .d (.lit (.int .i64 slot_1))) (aA rfl) rfl rfl) ?_
     obtain ⟨x15, h16, h10⟩ := bind_some h10
     refine aU rfl rfl (aA rfl) rfl c14 (iZ (m := 0) (aA rfl) rfl rfl rfl dV.of (cE aW h16)) ?_
     refine aU rfl rfl (aA rfl) rfl c14 (vL (aA rfl) rfl (m := 0) rfl (pF aW h16) rfl bL) ?_
     refine aU rfl rfl (aA rfl) rfl c14 (bP (aA rfl) rfl rfl rfl) ?_
     refine tr1 rfl (bR (v := .d (.lit (.bool ((!decide ((cZ r6 0 d_0_1_2) = x15)))))) (aA rfl) rfl c14 rfl rfl) ?_
     have h10 := Option.some.inj h10
     subst h10
     refine aI (bT rfl ⟨rfl, rfl, rfl, rfl, rfl, trivial⟩ rfl)
    ·have h10 := bD c14 h10
     refine aX rfl rfl (aA rfl) rfl (aA rfl) rfl c14 ?_
     refine aX rfl rfl (aA rfl) rfl (aA rfl) rfl c14 ?_
     refine aX rfl rfl (aA rfl) rfl (aA rfl) rfl c14 ?_
     refine aX rfl rfl (aA rfl) rfl (aA rfl) rfl c14 ?_
     refine aX rfl rfl (aA rfl) rfl (aA rfl) rfl c14 ?_
     refine aX rfl rfl (aA rfl) rfl (aA rfl) rfl c14 ?_
     refine aX rfl rfl (aA rfl) rfl (aA rfl) rfl c14 ?_
     refine aX rfl rfl (aA rfl) rfl (aA rfl) rfl c14 ?_
     refine aX rfl rfl (aA rfl) rfl (aA rfl) rfl c14 ?_
     refine tr1 rfl (bQ (v := .d (.lit (.bool false))) (aA rfl) rfl c14 rfl rfl) ?_
     have h10 := Option.some.inj h10
     subst h10
     refine aI (bT rfl ⟨rfl, rfl, rfl, rfl, rfl, trivial⟩ rfl)
   ·refine aI ?_
    refine cK rfl (fun c11 => ?_) (fun c11 => ?_)
    ·have h := bB c11 h
     refine aH ?_
     refine aE ?_
     refine tr1 rfl (aK (v := .d (.lit (.bool false))) (aA rfl) rfl rfl) ?_
     refine aI ?_
     have h := Option.some.inj h
     subst h
     refine cT (bI [2, 0, 1, 3] rfl rfl (le_refl _)) ?_
     exact cB ⟨rfl, _, [.box d_0_b d_0_o [.lit (.int .i64 d_0_Tree.Rounds), .sl 1 (d_0_Tree.Slots.map aW), .lit d_0_players_v, .lit (.map (some d_0_won_r))], .arr d_0_players_v 3 1 (d_0_players.map aW), .map d_0_won_r (d_0_1_2.map fun p : aG × Int => ((fun a : aG => Value.agg ((aP a).map bW).toArray) p.1, (fun v : Int => AV.d (.lit (.int .i64 v))) p.2)) bs2 ck3], [.box b8 0 (aP r6)], _, .one (.tmp 6 (v := .d (.lit (.bool false))) rfl), .refl _, .same _, bs2, ck3, rfl, rfl⟩
    ·have h := bD c11 h
     refine cF ?_
     obtain ⟨x12, h13, h⟩ := bind_some h
     refine eS mix 12 [0, 1, 12, 13] [(43, .d (.lit (.map (some d_0_won_r)))), (44, .agg (aP r6)), (51, .d (.lit (.int .i64 x12)))] ?_ ?_
     ·refine ⟨[(40, 0, .bp d_0_b d_0_o 0), (41, 1, .bp d_0_b d_0_o 0), (42, 2, .bp d_0_b d_0_o 3), (43, 3, .d (.lit (.map (some d_0_won_r)))), (44, 4, .agg (aP r6)), (45, 5, .bp d_0_b d_0_o 0), (46, 6, .bp d_0_b d_0_o 0), (47, 7, .bp d_0_b d_0_o 2), (48, 8, .d (.lit d_0_players_v)), (49, 9, .d (.lit (.int .i64 slot_1))), (50, 10, .ep d_0_players_v 1 slot_1.toNat 0), (51, 11, .d (.lit (.int .i64 x12)))], ?_, ?_⟩
      · exact ⟨by kernel_rfl, by kernel_rfl, by kernel_rfl, by kernel_rfl, by kernel_rfl, [([], []), ([0], []), ([1], []), ([2], []), ([], []), ([], []), ([5], []), ([6], []), ([7], []), ([], []), ([8, 9], []), ([10], [])], by kernel_rfl, ⟨fun S hS => aB rfl (aL rfl (aD (v := .bp d_0_b d_0_o 0) (aA rfl) (aC hS rfl) rfl)),
      fun S hS => aB rfl (aL rfl (gO (aA rfl) (aC hS rfl))),
      fun S hS => aB rfl (aL rfl (aN (aA rfl) (aC hS rfl) uY)),
      fun S hS => aB rfl (aL rfl (aQ (aA rfl) (aC hS rfl) (i := 2) rfl rfl aAg)),
      fun S hS => aB rfl (aL rfl (bO (aA rfl) (aC hS rfl) (i := 3) rfl iR (es := (aP r6)) rfl rfl)),
      fun S hS => aB rfl (aL rfl (aD (v := .bp d_0_b d_0_o 0) (aA rfl) (aC hS rfl) rfl)),
      fun S hS => aB rfl (aL rfl (gO (aA rfl) (aC hS rfl))),
      fun S hS => aB rfl (aL rfl (aN (aA rfl) (aC hS rfl) nF)),
      fun S hS => aB rfl (aL rfl (aQ (aA rfl) (aC hS rfl) (i := 2) rfl rfl eI)),
      fun S hS => aB rfl (aL rfl (aD (v := .d (.lit (.int .i64 slot_1))) (aA rfl) (aC hS rfl) rfl)),
      fun S hS => aB rfl (aL rfl (iZ (m := 0) (aA rfl) (aC hS rfl) rfl (aC hS rfl) dV.of (cE aW h13))),
      fun S hS => aB rfl (aL rfl (vL (aA rfl) (aC hS rfl) (m := 0) rfl (pF aW h13) rfl bL)), trivial⟩⟩
      · exact dB (aZ rfl (aZ rfl (aZ rfl (bC ⟨rfl, rfl, rfl, rfl, trivial⟩))))
     ·refine tr1 rfl (vV (av := (fun v : Int => AV.d (.lit (.int .i64 v)))) (l := d_0_1_2) (v := x12) (a := r6) (m := 1) tO Try.underlying116 rfl rfl rfl rfl (jN (enc := aP) r6 rfl) rfl rfl) ?_
      refine lA ?_
      refine aE ?_
      refine tr1 rfl (cG (aA rfl) rfl rfl rfl) ?_
      refine tr1 rfl (aD (v := .d (.lit (.int .i64 ((w64 (t13_0_1 + 1)))))) (aA rfl) rfl rfl) ?_
      refine aI ?_
      exact ⟨(w64 (t13_0_1 + 1), (eP r6 x12 d_0_1_2), (mbs r6 d_0_1_2 bs2 ck3), (mck r6 d_0_1_2 ck3)), h, bI [0, 1, 2] rfl rfl (aZ rfl (bC ⟨rfl, rfl, rfl, trivial⟩))⟩
 ·have h := bD c5 h
  refine dO ?_
  refine .inl ⟨rfl, ?_⟩
  simp only [nL] at h
  refine aH ?_
  refine aE ?_
  refine tr1 rfl (aK (v := .d (.lit (.bool true))) (aA rfl) rfl rfl) ?_
  refine aI ?_
  have h := Option.some.inj h
  subst h
  refine cT (bI [2, 0, 1] rfl rfl (le_refl _)) ?_
  exact cB ⟨rfl, _, [.box d_0_b d_0_o [.lit (.int .i64 d_0_Tree.Rounds), .sl 1 (d_0_Tree.Slots.map aW), .lit d_0_players_v, .lit (.map (some d_0_won_r))], .arr d_0_players_v 3 1 (d_0_players.map aW), .map d_0_won_r (d_0_1_2.map fun p : aG × Int => ((fun a : aG => Value.agg ((aP a).map bW).toArray) p.1, (fun v : Int => AV.d (.lit (.int .i64 v))) p.2)) bs2 ck3], [], _, .one (.tmp 6 (v := .d (.lit (.bool true))) rfl), .refl _, .same _, bs2, ck3, rfl, rfl⟩

theorem aCd (t_0 : aV) (l_1 : List aJ) {Q : ((Option bX) × Bool) → Prop} (h : nR t_0 l_1 Q) : fI Try.prog 106 [.agg (bS t_0), .d (.sl 5 (l_1.map aY))] [] (fun r' o' => ∃ (r : (Option bX) × Bool), Q r ∧ r' = .tup [dZ bV r.1, .d (.lit (.bool r.2))] ∧ o' = []) := by
 unfold nR at h
 refine jA Try.func106 rfl (rs := [.tmp 4, .tmp 5]) Try.results106 Try.ntmps106 (Nat.le_of_ble_eq_true rfl) ?_
 refine aH ?_
 refine aE ?_
 refine cI rfl (eU (v := .agg (bS t_0)) (aA rfl) rfl rfl rfl) ?_
 rintro _ ⟨b1, rfl⟩
 refine tr1 rfl (aK (v := dZ bV (none : Option bX)) (aA rfl) rfl rfl) ?_
 refine tr1 rfl (aK (v := .d (.lit (.bool false))) (aA rfl) rfl rfl) ?_
 refine aI ?_
 refine aH ?_
 obtain ⟨r3, h4, h⟩ := iA h
 refine gI mix 5 [1] (fun X2 => [(19, .agg (bS t_0)), (22, .d (.lit (X2 3).v)), (23, .d (.lit (.map (some (X2 4).b))))]) (fun X2 => [.box b1 0 (bS t_0), .arr (X2 3).v 3 1 (r3.map aW), .map (X2 4).b (([] : List (aG × Int)).map fun p : aG × Int => ((fun a : aG => Value.agg ((aP a).map bW).toArray) p.1, (fun v : Int => AV.d (.lit (.int .i64 v))) p.2)) ([]) 0]) ?_ ?_
 ·refine ⟨2, fun X2 => [(19, 0, .agg (bS t_0)), (20, 1, .bp b1 0 1), (21, 2, .d (.sl 1 (t_0.Slots.map aW))), (22, 3, .d (.lit (X2 3).v)), (23, 4, .d (.lit (.map (some (X2 4).b))))], fun X2 => [([], .box b1 0 (bS t_0)), ([(3, .arr (X2 3).v 3 1 (r3.map aW))], nob), ([(4, .map (X2 4).b (([] : List (aG × Int)).map fun p : aG × Int => ((fun a : aG => Value.agg ((aP a).map bW).toArray) p.1, (fun v : Int => AV.d (.lit (.int .i64 v))) p.2)) ([]) 0)], nob)], ?_, ?_⟩
  · exact ⟨by kernel_rfl, by kernel_rfl, by kernel_rfl, fun _ => by kernel_rfl, fun _ => by kernel_rfl, fun _ => by kernel_rfl, fun _ => rfl, [([], []), ([], [3]), ([1], [3]), ([2], []), ([], [])], by kernel_rfl, ⟨fun X2 S hw hi hS => bE (X := X2) rfl (hw X2) rfl (aL rfl (bO (aA rfl) (aC hS rfl) (i := 0) (og hS rfl rfl) kQ (es := (bS t_0)) rfl rfl)),
      fun X2 S hw hi hS => bE (X := X2) rfl (hw X2) rfl (aL rfl (aN (aA rfl) (aC hS rfl) mQ)),
      fun X2 S hw hi hS => bE (X := X2) rfl (hw X2) rfl (aL rfl (aQ (aA rfl) (aC hS rfl) (i := 0) (og hS rfl rfl) rfl eI)),
      fun X2 S hw hi hS => rC (X := X2) (p := 1) (v := fun x => .d (.lit x.v)) (mo := fun x => .arr x.v 3 1 (r3.map aW)) hS hi rfl rfl (fun _ => rfl) hw (fun _ => rfl) (fun _ => rfl) (fun _ => rfl) (fun _ => ⟨rfl, rfl, .inr rfl, ⟨rfl, rfl, .inr rfl, ⟨rfl, rfl, .inr rfl, ⟨rfl, rfl, .inl rfl, ⟨rfl, rfl, .inr rfl, trivial⟩⟩⟩⟩⟩) (fun _ => ⟨trivial, rfl, ⟨⟨rfl, .inl rfl, trivial⟩, rfl, ⟨⟨rfl, .inr rfl, trivial⟩, rfl, trivial⟩⟩⟩) (gW (aCy (aA rfl) (.func _ _ Try.call122) (ev2 (aC hS rfl) evn) rfl (rM _ h4)) (by rintro _ ⟨w, rfl⟩; exact ⟨⟨0, w⟩, bI [0, 3, 2] rfl rfl (le_refl _)⟩)),
      fun X2 S hw hi hS => rC (X := X2) (p := 2) (v := fun x => .d (.lit (.map (some x.b)))) (mo := fun x => .map x.b (([] : List (aG × Int)).map fun p : aG × Int => ((fun a : aG => Value.agg ((aP a).map bW).toArray) p.1, (fun v : Int => AV.d (.lit (.int .i64 v))) p.2)) ([]) 0) hS hi rfl rfl (fun _ => rfl) hw (fun _ => rfl) (fun _ => rfl) (fun _ => rfl) (fun _ => ⟨rfl, rfl, .inr rfl, ⟨rfl, rfl, .inr rfl, ⟨rfl, rfl, .inr rfl, ⟨rfl, rfl, .inr rfl, ⟨rfl, rfl, .inl rfl, trivial⟩⟩⟩⟩⟩) (fun _ => ⟨trivial, rfl, ⟨⟨rfl, .inr rfl, trivial⟩, rfl, ⟨⟨rfl, .inl rfl, trivial⟩, rfl, trivial⟩⟩⟩) (gW (sS (aA rfl)) (by rintro _ ⟨w, rfl⟩; exact ⟨⟨w, undef⟩, bI [0, 1, 3] rfl rfl (le_refl _)⟩)), trivial⟩⟩
  · exact fun X2 => dB (aZ rfl (aZ rfl (aZ rfl (bC ⟨rfl, trivial⟩))))
 ·intro X2
  refine tr1 rfl (eD (aA rfl) aMy (zs := [.lit (.int .i64 0), .sl 1 ((([] : List Int)).map aW), .sl 1 ((([] : List Int)).map aW), .lit (.map none)]) rfl rfl rfl rfl (es := [.lit (.int .i64 t_0.Rounds), .sl 1 (t_0.Slots.map aW), .lit (X2 3).v, .lit (.map (some (X2 4).b))]) rfl) ?_
  refine cI rfl (eU (v := .agg [.lit (.int .i64 t_0.Rounds), .sl 1 (t_0.Slots.map aW), .lit (X2 3).v, .lit (.map (some (X2 4).b))]) (aA rfl) rfl rfl rfl) ?_
  rintro _ ⟨b5, rfl⟩
  refine tr1 rfl (aK (v := .bp b5 0 0) (aA rfl) rfl rfl) ?_
  refine aI ?_
  refine aH ?_
  refine aE ?_
  refine cI rfl (sS (aA rfl)) ?_
  rintro _ ⟨r6, rfl⟩
  refine cI rfl (sS (aA rfl)) ?_
  rintro _ ⟨r7, rfl⟩
  refine tr1 rfl (aK (v := .d (.lit (.map (some r6)))) (aA rfl) rfl rfl) ?_
  refine tr1 rfl (aK (v := .d (.lit (.map (some r7)))) (aA rfl) rfl rfl) ?_
  refine aI ?_
  refine aH ?_
  refine aH ?_
  refine aE ?_
  refine tr1 rfl (aD (v := .d (.sl 5 (l_1.map aY))) (aA rfl) rfl rfl) ?_
  refine tr1 rfl (dC (aA rfl) rfl vN.of) ?_
  refine tr1 rfl (aD (v := .d (.lit (.int .i64 0))) (aA rfl) rfl rfl) ?_
  refine aI ?_
  refine cW ?_
  refine rX [6, 7, 8, 28, 29] (fun (s8 : Int × (List (aJ × Int)) × (List (aG × aJ)) × (List Nat) × Nat × (List Nat) × Nat) => [(30, .d (.lit (.int .i64 s8.1)))]) (fun (s8 : Int × (List (aJ × Int)) × (List (aG × aJ)) × (List Nat) × Nat × (List Nat) × Nat) => [.arr (X2 3).v 3 1 (r3.map aW), .map (X2 4).b (([] : List (aG × Int)).map fun p : aG × Int => ((fun a : aG => Value.agg ((aP a).map bW).toArray) p.1, (fun v : Int => AV.d (.lit (.int .i64 v))) p.2)) ([]) 0, .box b5 0 [.lit (.int .i64 t_0.Rounds), .sl 1 (t_0.Slots.map aW), .lit (X2 3).v, .lit (.map (some (X2 4).b))], .map r6 (s8.2.1.map fun p : aJ × Int => ((fun a : aJ => Value.agg ((aY a).map bW).toArray) p.1, (fun v : Int => AV.d (.lit (.int .i64 v))) p.2)) s8.2.2.2.1 s8.2.2.2.2.1, .map r7 (s8.2.2.1.map fun p : aG × aJ => ((fun a : aG => Value.agg ((aP a).map bW).toArray) p.1, (fun v : aJ => AV.agg (aY v)) p.2)) s8.2.2.2.2.2.1 s8.2.2.2.2.2.2]) (fun (k : Nat) (s8 : Int × (List (aJ × Int)) × (List (aG × aJ)) × (List Nat) × Nat × (List Nat) × Nat) => fW Q l_1 (l_1.length : Int) r3 ([] : List (aG × Int)) t_0 k s8.1 s8.2.1 s8.2.2.1) (fun _ h => h) (0, ([] : List (aJ × Int)), ([] : List (aG × aJ)), [], 0, [], 0) h (bI [1, 2, 3, 4, 5] rfl rfl (aZ rfl (bC ⟨rfl, rfl, rfl, rfl, rfl, trivial⟩))) ?_
  rintro k13 ⟨t30_0_8, o26_0_8, o27_0_8, bs9, ck10, bs11, ck12⟩ h
  simp only [fW] at h
  refine aH ?_
  refine aE ?_
  refine tr1 rfl (bP (aA rfl) rfl rfl rfl) ?_
  refine aI ?_
  refine aH ?_
  refine cK rfl (fun c14 => ?_) (fun c14 => ?_)
  ·have h := gY c14 h
   refine cF ?_
   refine aH ?_
   refine cW ?_
   refine aH ?_
   refine aE ?_
   obtain ⟨x15, h16, h⟩ := iA h
   refine tr1 rfl (bU (aA rfl) rfl rfl vN.of (cE aY h16)) ?_
   refine tr1 rfl (dE (aA rfl) rfl lY (es := (aY x15)) rfl rfl) ?_
   refine cI rfl (dM (zs := [.lit (.int .i64 0), .lit (.int .i64 0), .lit (.int .i64 0), .lit (.int .i64 0), .lit (.int .i64 0)]) (aA rfl) Try.zeroValue141 rfl rfl) ?_
   rintro _ ⟨b17, rfl⟩
   refine tr1 rfl (cL (i := 5) rfl rfl rfl rfl rfl Try.sizeOf141 rfl (aA rfl) (Nat.le_of_ble_eq_true rfl) (ds' := (aY x15)) rfl) ?_
   refine aI ?_
   refine aH ?_
   refine aH ?_
   refine aE ?_
   refine tr1 rfl (aN (aA rfl) rfl yW) ?_
   refine tr1 rfl (aQ (aA rfl) rfl (i := 5) rfl rfl bL) ?_
   refine tr1 rfl (bP (aA rfl) rfl rfl rfl) ?_
   refine aI ?_
   refine cK rfl (fun c18 => ?_) (fun c18 => ?_)
   ·have h := gY c18 h
    refine aH ?_
    refine gI mix 6 [6, 7, 8, 28, 29, 30] (fun X19 => [(37, .d (.lit (.map (some r6)))), (40, .d (.lit (.int .i64 ((w64 ((cZ x15 0 o26_0_8) + 1)))))), (42, .d (.lit (.int .i64 (lJ x15 o26_0_8 bs9 ck10))))]) (fun X19 => [.arr (X2 3).v 3 1 (r3.map aW), .map (X2 4).b (([] : List (aG × Int)).map fun p : aG × Int => ((fun a : aG => Value.agg ((aP a).map bW).toArray) p.1, (fun v : Int => AV.d (.lit (.int .i64 v))) p.2)) ([]) 0, .box b5 0 [.lit (.int .i64 t_0.Rounds), .sl 1 (t_0.Slots.map aW), .lit (X2 3).v, .lit (.map (some (X2 4).b))], .map r6 ((lI x15 0 o26_0_8).map fun p : aJ × Int => ((fun a : aJ => Value.agg ((aY a).map bW).toArray) p.1, (fun v : Int => AV.d (.lit (.int .i64 v))) p.2)) (mbs x15 o26_0_8 bs9 ck10) (mck x15 o26_0_8 ck10), .map r7 (o27_0_8.map fun p : aG × aJ => ((fun a : aG => Value.agg ((aP a).map bW).toArray) p.1, (fun v : aJ => AV.agg (aY v)) p.2)) bs11 ck12, .box b17 0 (aY x15)]) ?_ ?_
    ·refine ⟨0, fun X19 => [(37, 0, .d (.lit (.map (some r6)))), (38, 1, .agg (aY x15)), (39, 2, .d (.lit (.int .i64 ((cZ x15 0 o26_0_8))))), (40, 3, .d (.lit (.int .i64 ((w64 ((cZ x15 0 o26_0_8) + 1)))))), (41, 4, .tup [.d (.lit (.int .i64 ((cZ x15 0 o26_0_8)))), .d (.lit (.int .i64 (lJ x15 o26_0_8 bs9 ck10)))]), (42, 5, .d (.lit (.int .i64 (lJ x15 o26_0_8 bs9 ck10))))], fun X19 => [([], .arr (X2 3).v 3 1 (r3.map aW)), ([], .map (X2 4).b (([] : List (aG × Int)).map fun p : aG × Int => ((fun a : aG => Value.agg ((aP a).map bW).toArray) p.1, (fun v : Int => AV.d (.lit (.int .i64 v))) p.2)) ([]) 0), ([], .box b5 0 [.lit (.int .i64 t_0.Rounds), .sl 1 (t_0.Slots.map aW), .lit (X2 3).v, .lit (.map (some (X2 4).b))]), ([(4, .map r6 ((lI x15 0 o26_0_8).map fun p : aJ × Int => ((fun a : aJ => Value.agg ((aY a).map bW).toArray) p.1, (fun v : Int => AV.d (.lit (.int .i64 v))) p.2)) (mbs x15 o26_0_8 bs9 ck10) (mck x15 o26_0_8 ck10))], .map r6 (o26_0_8.map fun p : aJ × Int => ((fun a : aJ => Value.agg ((aY a).map bW).toArray) p.1, (fun v : Int => AV.d (.lit (.int .i64 v))) p.2)) bs9 ck10), ([], .map r7 (o27_0_8.map fun p : aG × aJ => ((fun a : aG => Value.agg ((aP a).map bW).toArray) p.1, (fun v : aJ => AV.agg (aY v)) p.2)) bs11 ck12), ([], .box b17 0 (aY x15))], ?_, ?_⟩
     · exact ⟨by kernel_rfl, by kernel_rfl, by kernel_rfl, fun _ => by kernel_rfl, fun _ => by kernel_rfl, fun _ => by kernel_rfl, fun _ => rfl, [([], [4]), ([], [4]), ([0, 1], []), ([2], []), ([0, 1], []), ([4], [])], by kernel_rfl, ⟨fun X19 S hw hi hS => bE (X := X19) rfl (hw X19) rfl (aL rfl (aD (v := .d (.lit (.map (some r6)))) (aA rfl) (aC hS rfl) rfl)),
      fun X19 S hw hi hS => bE (X := X19) rfl (hw X19) rfl (aL rfl (bO (aA rfl) (aC hS rfl) (i := 5) (og hS rfl rfl) lY (es := (aY x15)) rfl rfl)),
      fun X19 S hw hi hS => bE (X := X19) rfl (hw X19) rfl (aL rfl (aEn (av := (fun v : Int => AV.d (.lit (.int .i64 v)))) (l := o26_0_8) (z := 0) (a := x15) (m := 3) (aA rfl) aDm Try.underlying175 Try.zeroValue3 (fun _ _ => .d (.lit _ rfl)) (aC hS rfl) (og2 rfl) rfl (aC hS rfl) (jN (enc := aY) x15 rfl))),
      fun X19 S hw hi hS => bE (X := X19) rfl (hw X19) rfl (aL rfl (cG (aA rfl) (aC hS rfl) rfl rfl)),
      fun X19 S hw hi hS => wQ (X := X19) (p := 3) hS rfl rfl rfl (hw X19) rfl rfl rfl (gW (aDa (av := (fun v : Int => AV.d (.lit (.int .i64 v)))) (l := o26_0_8) (z := 0) (a := x15) (m := 3) (aA rfl) aDm Try.underlying175 Try.zeroValue3 (fun _ _ => .d (.lit _ rfl)) (aC hS rfl) (og hS rfl rfl) rfl (aC hS rfl) (jN (enc := aY) x15 rfl)) (by rintro _ rfl; exact Ent.refl _)),
      fun X19 S hw hi hS => bE (X := X19) rfl (hw X19) rfl (aL rfl (bZ (aA rfl) (aC hS rfl) rfl)), trivial⟩⟩
     · exact fun X19 => dB (aZ rfl (aZ rfl (aZ rfl (bC ⟨rfl, rfl, rfl, rfl, rfl, rfl, trivial⟩))))
    ·intro X19
     refine tr1 rfl (yD (kv := (fun a : aJ => Value.agg ((aY a).map bW).toArray)) (av := (fun v : Int => AV.d (.lit (.int .i64 v)))) (l := o26_0_8) (z := 0) (v := w64 ((cZ x15 0 o26_0_8) + 1)) (a := x15) (m := 3) rfl rfl rfl rfl rfl) ?_
     refine aI ?_
     refine dO ?_
     refine .inl ⟨rfl, ?_⟩
     refine aE ?_
     refine tr1 rfl (cG (aA rfl) rfl rfl rfl) ?_
     refine tr1 rfl (aD (v := .d (.lit (.int .i64 ((w64 (t30_0_8 + 1)))))) (aA rfl) rfl rfl) ?_
     refine aI ?_
     exact ⟨(w64 (t30_0_8 + 1), (eP x15 (w64 ((cZ x15 0 o26_0_8) + 1)) o26_0_8), o27_0_8, (mbs x15 o26_0_8 bs9 ck10), (mck x15 o26_0_8 ck10), bs11, ck12), h, bI [0, 1, 2, 3, 4] rfl rfl (aZ rfl (bC ⟨rfl, rfl, rfl, rfl, rfl, trivial⟩))⟩
   ·have h := gX c18 h
    refine cF ?_
    refine aH ?_
    refine aE ?_
    refine tr1 rfl (aN (aA rfl) rfl uZ) ?_
    refine tr1 rfl (aQ (aA rfl) rfl (i := 5) rfl rfl bL) ?_
    refine tr1 rfl (aN (aA rfl) rfl oO) ?_
    refine tr1 rfl (aQ (aA rfl) rfl (i := 5) rfl rfl bL) ?_
    refine tr1 rfl (eD (aA rfl) tP (zs := [.lit (.int .i64 0), .lit (.int .i64 0)]) rfl rfl rfl rfl (es := [.lit (.int .i64 x15.Round), .lit (.int .i64 x15.Place)]) rfl) ?_
    refine cI rfl (dM (zs := [.lit (.int .i64 0), .lit (.int .i64 0)]) (aA rfl) Try.zeroValue112 rfl rfl) ?_
    rintro _ ⟨b20, rfl⟩
    refine tr1 rfl (cL (i := 6) rfl rfl rfl rfl rfl Try.sizeOf112 rfl (aA rfl) (Nat.le_of_ble_eq_true rfl) (ds' := (aP (aG.mk x15.Round x15.Place))) rfl) ?_
    refine aI ?_
    refine aH ?_
    refine aH ?_
    refine aE ?_
    refine tr1 rfl (aD (v := .d (.lit (.map (some r7)))) (aA rfl) rfl rfl) ?_
    refine tr1 rfl (bO (aA rfl) rfl (i := 6) rfl iR (es := (aP (aG.mk x15.Round x15.Place))) rfl rfl) ?_
    refine tr1 rfl (aCz (av := (fun v : aJ => AV.agg (aY v))) (l := o27_0_8) (z := (aJ.mk 0 0 0 0 0)) (a := (aG.mk x15.Round x15.Place)) (m := 4) (aA rfl) tO Try.underlying176 Try.zeroValue141 (fun _ _ => .agg (zE rfl)) rfl rfl rfl rfl (jN (enc := aP) (aG.mk x15.Round x15.Place) rfl)) ?_
    refine tr1 rfl (aD (v := .tup [.agg (aY (cZ (aG.mk x15.Round x15.Place) (aJ.mk 0 0 0 0 0) o27_0_8)), .d (.lit (.bool ((dU (aG.mk x15.Round x15.Place) o27_0_8))))]) (aA rfl) rfl rfl) ?_
    refine tr1 rfl (bZ (aA rfl) rfl rfl) ?_
    refine tr1 rfl (bZ (aA rfl) rfl rfl) ?_
    refine cI rfl (dM (zs := [.lit (.int .i64 0), .lit (.int .i64 0), .lit (.int .i64 0), .lit (.int .i64 0), .lit (.int .i64 0)]) (aA rfl) Try.zeroValue141 rfl rfl) ?_
    rintro _ ⟨b21, rfl⟩
    refine tr1 rfl (cL (i := 7) rfl rfl rfl rfl rfl Try.sizeOf141 rfl (aA rfl) (Nat.le_of_ble_eq_true rfl) (ds' := (aY (cZ (aG.mk x15.Round x15.Place) (aJ.mk 0 0 0 0 0) o27_0_8))) rfl) ?_
    refine tr1 rfl (aK (v := .d (.lit (.bool ((dU (aG.mk x15.Round x15.Place) o27_0_8))))) (aA rfl) rfl rfl) ?_
    refine aI ?_
    refine aH ?_
    refine aE ?_
    refine tr1 rfl (aD (v := .d (.lit (.bool ((dU (aG.mk x15.Round x15.Place) o27_0_8))))) (aA rfl) rfl rfl) ?_
    refine tr1 rfl (aD (v := .d (.lit (.bool ((dU (aG.mk x15.Round x15.Place) o27_0_8))))) (aA rfl) rfl rfl) ?_
    obtain ⟨b22, h23, h⟩ := iA h
    refine dD 4 [6, 7, 8, 10, 11, 28, 29, 30] 59 b22 ?_ ?_
    ·refine cA (dU (aG.mk x15.Round x15.Place) o27_0_8) (fun c25 => ?_) (fun c25 => ?_)
     ·have h23 := bB c25 h23
      refine aU rfl rfl (aA rfl) rfl c25 (bO (aA rfl) rfl (i := 7) rfl lY (es := (aY (cZ (aG.mk x15.Round x15.Place) (aJ.mk 0 0 0 0 0) o27_0_8))) rfl rfl) ?_
      refine aU rfl rfl (aA rfl) rfl c25 (bO (aA rfl) rfl (i := 5) rfl lY (es := (aY x15)) rfl rfl) ?_
      refine aU rfl rfl (aA rfl) rfl c25 (vM (a := (cZ (aG.mk x15.Round x15.Place) (aJ.mk 0 0 0 0 0) o27_0_8)) (b := x15) (aA rfl) rfl rfl rfl rfl Try.eqGuardType141 aHe) ?_
      refine tr1 rfl (bR (v := .d (.lit (.bool ((!decide ((cZ (aG.mk x15.Round x15.Place) (aJ.mk 0 0 0 0 0) o27_0_8) = x15)))))) (aA rfl) rfl c25 rfl rfl) ?_
      have h23 := Option.some.inj h23
      subst h23
      refine aI (bT rfl ⟨rfl, rfl, rfl, rfl, rfl, rfl, rfl, rfl, trivial⟩ rfl)
     ·have h23 := bD c25 h23
      refine aX rfl rfl (aA rfl) rfl (aA rfl) rfl c25 ?_
      refine aX rfl rfl (aA rfl) rfl (aA rfl) rfl c25 ?_
      refine aX rfl rfl (aA rfl) rfl (aA rfl) rfl c25 ?_
      refine tr1 rfl (bQ (v := .d (.lit (.bool false))) (aA rfl) rfl c25 rfl rfl) ?_
      have h23 := Option.some.inj h23
      subst h23
      refine aI (bT rfl ⟨rfl, rfl, rfl, rfl, rfl, rfl, rfl, rfl, trivial⟩ rfl)
    ·refine aI ?_
     refine cK rfl (fun c24 => ?_) (fun c24 => ?_)
     ·have h := gY c24 h
      refine aH ?_
      refine aE ?_
      refine tr1 rfl (aK (v := dZ bV (none : Option bX)) (aA rfl) rfl rfl) ?_
      refine tr1 rfl (aK (v := .d (.lit (.bool false))) (aA rfl) rfl rfl) ?_
      refine aI ?_
      exact cB ⟨rfl, _, [], [.arr (X2 3).v 3 1 (r3.map aW), .map (X2 4).b (([] : List (aG × Int)).map fun p : aG × Int => ((fun a : aG => Value.agg ((aP a).map bW).toArray) p.1, (fun v : Int => AV.d (.lit (.int .i64 v))) p.2)) ([]) 0, .box b5 0 [.lit (.int .i64 t_0.Rounds), .sl 1 (t_0.Slots.map aW), .lit (X2 3).v, .lit (.map (some (X2 4).b))], .map r6 (o26_0_8.map fun p : aJ × Int => ((fun a : aJ => Value.agg ((aY a).map bW).toArray) p.1, (fun v : Int => AV.d (.lit (.int .i64 v))) p.2)) bs9 ck10, .map r7 (o27_0_8.map fun p : aG × aJ => ((fun a : aG => Value.agg ((aP a).map bW).toArray) p.1, (fun v : aJ => AV.agg (aY v)) p.2)) bs11 ck12, .box b17 0 (aY x15), .box b20 0 (aP (aG.mk x15.Round x15.Place)), .box b21 0 (aY (cZ (aG.mk x15.Round x15.Place) (aJ.mk 0 0 0 0 0) o27_0_8))], _, .two (.tmp 4 (v := dZ bV (none : Option bX)) rfl) (.tmp 5 (v := .d (.lit (.bool false))) rfl), .refl _, .same _, ((none : Option bX), false), h, rfl, rfl⟩
     ·have h := gX c24 h
      refine cF ?_
      refine aE ?_
      refine tr1 rfl (aD (v := .d (.lit (.map (some r7)))) (aA rfl) rfl rfl) ?_
      refine tr1 rfl (bO (aA rfl) rfl (i := 6) rfl iR (es := (aP (aG.mk x15.Round x15.Place))) rfl rfl) ?_
      refine tr1 rfl (bO (aA rfl) rfl (i := 5) rfl lY (es := (aY x15)) rfl rfl) ?_
      refine tr1 rfl (vV (av := (fun v : aJ => AV.agg (aY v))) (l := o27_0_8) (v := x15) (a := (aG.mk x15.Round x15.Place)) (m := 4) tO Try.underlying176 rfl rfl rfl rfl (jN (enc := aP) (aG.mk x15.Round x15.Place) rfl) rfl rfl) ?_
      refine lA ?_
      refine aE ?_
      refine tr1 rfl (cG (aA rfl) rfl rfl rfl) ?_
      refine tr1 rfl (aD (v := .d (.lit (.int .i64 ((w64 (t30_0_8 + 1)))))) (aA rfl) rfl rfl) ?_
      refine aI ?_
      exact ⟨(w64 (t30_0_8 + 1), o26_0_8, (eP (aG.mk x15.Round x15.Place) x15 o27_0_8), bs9, ck10, (mbs (aG.mk x15.Round x15.Place) o27_0_8 bs11 ck12), (mck (aG.mk x15.Round x15.Place) o27_0_8 ck12)), h, bI [0, 1, 2, 3, 4] rfl rfl (aZ rfl (bC ⟨rfl, rfl, rfl, rfl, rfl, trivial⟩))⟩
  ·have h := gX c14 h
   refine dO ?_
   refine .inl ⟨rfl, ?_⟩
   simp only [nI] at h
   refine aH ?_
   refine aH ?_
   refine aE ?_
   refine tr1 rfl (aD (v := .bp b5 0 0) (aA rfl) rfl rfl) ?_
   refine tr1 rfl (aD (v := .d (.lit (.map (some r6)))) (aA rfl) rfl rfl) ?_
   refine lB (bI [2, 0, 3, 1, 4] rfl rfl (le_refl _)) ?_
   refine cI rfl (mA (passed := [.box b5 0 [.lit (.int .i64 t_0.Rounds), .sl 1 (t_0.Slots.map aW), .lit (X2 3).v, .lit (.map (some (X2 4).b))], .arr (X2 3).v 3 1 (r3.map aW), .map r6 (o26_0_8.map fun p : aJ × Int => ((fun a : aJ => Value.agg ((aY a).map bW).toArray) p.1, (fun v : Int => AV.d (.lit (.int .i64 v))) p.2)) bs9 ck10]) (aA rfl) rfl (.func _ _ Try.call123) rfl rfl (vR t_0 r3 o26_0_8 h)) ?_
   rintro _ ⟨_, _, ⟨r26, bs27, ck28, h, rfl, rfl⟩, rfl⟩
   refine tr1 rfl (fE (aA rfl) rfl) ?_
   refine aI ?_
   refine cK rfl (fun c29 => ?_) (fun c29 => ?_)
   ·have h := gY c29 h
    refine aH ?_
    refine aE ?_
    refine tr1 rfl (aK (v := dZ bV (none : Option bX)) (aA rfl) rfl rfl) ?_
    refine tr1 rfl (aK (v := .d (.lit (.bool false))) (aA rfl) rfl rfl) ?_
    refine aI ?_
    exact cB ⟨rfl, _, [], [.box b5 0 [.lit (.int .i64 t_0.Rounds), .sl 1 (t_0.Slots.map aW), .lit (X2 3).v, .lit (.map (some (X2 4).b))], .arr (X2 3).v 3 1 (r26.2.1.map aW), .map r6 (r26.2.2.map fun p : aJ × Int => ((fun a : aJ => Value.agg ((aY a).map bW).toArray) p.1, (fun v : Int => AV.d (.lit (.int .i64 v))) p.2)) bs27 ck28, .map (X2 4).b (([] : List (aG × Int)).map fun p : aG × Int => ((fun a : aG => Value.agg ((aP a).map bW).toArray) p.1, (fun v : Int => AV.d (.lit (.int .i64 v))) p.2)) ([]) 0, .map r7 (o27_0_8.map fun p : aG × aJ => ((fun a : aG => Value.agg ((aP a).map bW).toArray) p.1, (fun v : aJ => AV.agg (aY v)) p.2)) bs11 ck12], _, .two (.tmp 4 (v := dZ bV (none : Option bX)) rfl) (.tmp 5 (v := .d (.lit (.bool false))) rfl), .refl _, .same _, ((none : Option bX), false), h, rfl, rfl⟩
   ·have h := gX c29 h
    refine cF ?_
    refine aH ?_
    refine aH ?_
    refine aE ?_
    refine tr1 rfl (aD (v := .bp b5 0 0) (aA rfl) rfl rfl) ?_
    refine tr1 rfl (gO (aA rfl) rfl) ?_
    refine tr1 rfl (aN (aA rfl) rfl nF) ?_
    refine tr1 rfl (aQ (aA rfl) rfl (i := 0) rfl rfl eI) ?_
    refine tr1 rfl (qW (m := 1) (aA rfl) rfl rfl dV.of) ?_
    refine tr1 rfl (aD (v := .d (.lit (.int .i64 0))) (aA rfl) rfl rfl) ?_
    refine aI ?_
    refine cW ?_
    refine rX [6, 8, 71, 72] (fun (s30 : Int × (List (aG × Int)) × (List Nat) × Nat) => [(73, .d (.lit (.int .i64 s30.1)))]) (fun (s30 : Int × (List (aG × Int)) × (List Nat) × Nat) => [.arr (X2 3).v 3 1 (r26.2.1.map aW), .map (X2 4).b (s30.2.1.map fun p : aG × Int => ((fun a : aG => Value.agg ((aP a).map bW).toArray) p.1, (fun v : Int => AV.d (.lit (.int .i64 v))) p.2)) s30.2.2.1 s30.2.2.2, .box b5 0 [.lit (.int .i64 t_0.Rounds), .sl 1 (t_0.Slots.map aW), .lit (X2 3).v, .lit (.map (some (X2 4).b))], .map r7 (o27_0_8.map fun p : aG × aJ => ((fun a : aG => Value.agg ((aP a).map bW).toArray) p.1, (fun v : aJ => AV.agg (aY v)) p.2)) bs11 ck12]) (fun (k : Nat) (s30 : Int × (List (aG × Int)) × (List Nat) × Nat) => fX Q (r26.2.1.length : Int) r26.2.1 t_0 o27_0_8 k s30.1 s30.2.1) (fun _ h => h) (0, ([] : List (aG × Int)), [], 0) h (bI [1, 3, 0, 4] rfl rfl (aZ rfl (bC ⟨rfl, rfl, rfl, rfl, trivial⟩))) ?_
    rintro k33 ⟨t73_2_30, o23_2_30, bs31, ck32⟩ h
    simp only [fX] at h
    refine aH ?_
    refine aE ?_
    refine tr1 rfl (bP (aA rfl) rfl rfl rfl) ?_
    refine aI ?_
    refine aH ?_
    refine cK rfl (fun c34 => ?_) (fun c34 => ?_)
    ·have h := gY c34 h
     refine cF ?_
     refine aH ?_
     refine cW ?_
     refine aH ?_
     refine aE ?_
     refine tr1 rfl (aD (v := .d (.lit (.int .i64 t73_2_30))) (aA rfl) rfl rfl) ?_
     obtain ⟨x35, h36, h⟩ := iA h
     refine tr1 rfl (iZ (m := 0) (aA rfl) rfl rfl rfl dV.of (cE aW h36)) ?_
     refine tr1 rfl (vL (aA rfl) rfl (m := 0) rfl (pF aW h36) rfl bL) ?_
     refine tr1 rfl (aK (v := .d (.lit (.int .i64 t73_2_30))) (aA rfl) rfl rfl) ?_
     refine tr1 rfl (aK (v := .d (.lit (.int .i64 x35))) (aA rfl) rfl rfl) ?_
     refine aI ?_
     refine aH ?_
     refine aE ?_
     refine tr1 rfl (aD (v := .d (.lit (.int .i64 x35))) (aA rfl) rfl rfl) ?_
     refine tr1 rfl (bP (aA rfl) rfl rfl rfl) ?_
     refine aI ?_
     refine cK rfl (fun c37 => ?_) (fun c37 => ?_)
     ·have h := gY c37 h
      refine aE ?_
      refine tr1 rfl (aD (v := .bp b5 0 0) (aA rfl) rfl rfl) ?_
      refine tr1 rfl (aD (v := .d (.lit (.int .i64 t73_2_30))) (aA rfl) rfl rfl) ?_
      refine tr1 rfl (zY (aA rfl) rfl rfl (.inr (.inr ⟨rfl, rfl⟩))) ?_
      obtain ⟨r38, h39, h⟩ := iA h
      refine lB (bI [2, 0, 1, 3] rfl rfl (le_refl _)) ?_
      refine cI rfl (mA (passed := [.box b5 0 [.lit (.int .i64 t_0.Rounds), .sl 1 (t_0.Slots.map aW), .lit (X2 3).v, .lit (.map (some (X2 4).b))], .arr (X2 3).v 3 1 (r26.2.1.map aW), .map (X2 4).b (o23_2_30.map fun p : aG × Int => ((fun a : aG => Value.agg ((aP a).map bW).toArray) p.1, (fun v : Int => AV.d (.lit (.int .i64 v))) p.2)) bs31 ck32]) (aA rfl) rfl (.func _ _ Try.call124) rfl rfl (rF t_0 r26.2.1 o23_2_30 (aFf t73_2_30 1) 0 h39)) ?_
      rintro _ ⟨_, _, ⟨bs40, ck41, rfl, rfl⟩, rfl⟩
      refine lA ?_
      refine aE ?_
      refine tr1 rfl (cG (aA rfl) rfl rfl rfl) ?_
      refine tr1 rfl (aD (v := .d (.lit (.int .i64 ((w64 (t73_2_30 + 1)))))) (aA rfl) rfl rfl) ?_
      refine aI ?_
      exact ⟨(w64 (t73_2_30 + 1), r38.2, bs40, ck41), h, bI [1, 2, 0, 3] rfl rfl (aZ rfl (bC ⟨rfl, rfl, rfl, rfl, trivial⟩))⟩
     ·have h := gX c37 h
      refine fB ?_
      refine aE ?_
      refine tr1 rfl (cG (aA rfl) rfl rfl rfl) ?_
      refine tr1 rfl (aD (v := .d (.lit (.int .i64 ((w64 (t73_2_30 + 1)))))) (aA rfl) rfl rfl) ?_
      refine aI ?_
      exact ⟨(w64 (t73_2_30 + 1), o23_2_30, bs31, ck32), h, bI [0, 1, 2, 3] rfl rfl (aZ rfl (bC ⟨rfl, rfl, rfl, rfl, trivial⟩))⟩
    ·have h := gX c34 h
     refine dO ?_
     refine .inl ⟨rfl, ?_⟩
     simp only [nJ] at h
     refine aH ?_
     refine aH ?_
     refine aE ?_
     refine tr1 rfl (aD (v := .d (.lit (.map (some r7)))) (aA rfl) rfl rfl) ?_
     refine cI rfl (aHo (m := 3) (aA rfl) Try.underlying176 rfl rfl) ?_
     rintro _ ⟨q42, h44, rfl⟩
     have h := zJ h h44
     refine aI ?_
     refine cW ?_
     refine rX [6, 86] (fun (s45 : (List (aG × Int)) × (List Nat) × Nat × (List Nat)) => []) (fun (s45 : (List (aG × Int)) × (List Nat) × Nat × (List Nat)) => [.arr (X2 3).v 3 1 (r26.2.1.map aW), .map (X2 4).b (s45.1.map fun p : aG × Int => ((fun a : aG => Value.agg ((aP a).map bW).toArray) p.1, (fun v : Int => AV.d (.lit (.int .i64 v))) p.2)) s45.2.1 s45.2.2.1, .box b5 0 [.lit (.int .i64 t_0.Rounds), .sl 1 (t_0.Slots.map aW), .lit (X2 3).v, .lit (.map (some (X2 4).b))], .map r7 (o27_0_8.map fun p : aG × aJ => ((fun a : aG => Value.agg ((aP a).map bW).toArray) p.1, (fun v : aJ => AV.agg (aY v)) p.2)) bs11 ck12, .iter q42 r7 ck12 s45.2.2.2 ck12]) (fun (k : Nat) (s45 : (List (aG × Int)) × (List Nat) × Nat × (List Nat)) => iO Q r26.2.1 t_0 o27_0_8 k s45.1 (kM o27_0_8 bs11 s45.2.2.2)) (fun _ h => h) (o23_2_30, bs31, ck32, []) h (bI [0, 1, 2, 3, 4] rfl rfl (bC ⟨rfl, rfl, trivial⟩)) ?_
     rintro k49 ⟨o23_4_45, bs46, ck47, seen48⟩ h
     simp only [iO] at h
     refine aH ?_
     refine aE ?_
     refine cI rfl (aKg (kv := (fun a : aG => Value.agg ((aP a).map bW).toArray)) (av := (fun v : aJ => AV.agg (aY v))) (l := o27_0_8) (mi := 4) (mm := 3) (aA rfl) rfl rfl rfl) ?_
     rintro _ (⟨h54, rfl⟩ | ⟨j51, b52, p50, h53, rfl⟩)
     ·have h := h.1 h54
      refine tr1 rfl (bZ (aA rfl) rfl rfl) ?_
      refine aI ?_
      refine aH ?_
      refine cK rfl (fun c55 => ?_) (fun c55 => ?_)
      ·exact absurd c55 (by decide)
      ·refine dO ?_
       refine .inl ⟨rfl, ?_⟩
       simp only [pM] at h
       refine aH ?_
       refine aE ?_
       refine tr1 rfl (aD (v := .bp b5 0 0) (aA rfl) rfl rfl) ?_
       refine tr1 rfl (aK (v := .bp b5 0 0) (aA rfl) rfl rfl) ?_
       refine tr1 rfl (aK (v := .d (.lit (.bool true))) (aA rfl) rfl rfl) ?_
       refine aI ?_
       exact cB ⟨rfl, _, [], [.arr (X2 3).v 3 1 (r26.2.1.map aW), .map (X2 4).b (o23_4_45.map fun p : aG × Int => ((fun a : aG => Value.agg ((aP a).map bW).toArray) p.1, (fun v : Int => AV.d (.lit (.int .i64 v))) p.2)) bs46 ck47, .box b5 0 [.lit (.int .i64 t_0.Rounds), .sl 1 (t_0.Slots.map aW), .lit (X2 3).v, .lit (.map (some (X2 4).b))], .map r7 (o27_0_8.map fun p : aG × aJ => ((fun a : aG => Value.agg ((aP a).map bW).toArray) p.1, (fun v : aJ => AV.agg (aY v)) p.2)) bs11 ck12, .iter q42 r7 ck12 seen48 ck12], _, .two (.tmp 4 (v := .bp b5 0 0) rfl) (.tmp 5 (v := .d (.lit (.bool true))) rfl), .refl _, aJe (.cons ((tH 2 rfl rfl (dvc (.same _) (dvc (.same _) (dvc (jF 0 rfl (dT (f := aW) fun _ => rfl)) (dvc (aNx (kv := (fun a : aG => Value.agg ((aP a).map bW).toArray)) (av := (fun v : Int => AV.d (.lit (.int .i64 v)))) (l := o23_4_45) (enc := aW) (agg := false) 1 rfl (fun _ _ => rfl) (fun _ => rfl)) dvn)))))) (.cons (.same _) .nil)), ((some (bX.mk t_0 r26.2.1 o23_4_45)), true), h, rfl, rfl⟩
     ·have h := aAs h h53
      refine tr1 rfl (bZ (aA rfl) rfl rfl) ?_
      refine aI ?_
      refine aH ?_
      refine cK rfl (fun c72 => ?_) (fun c72 => ?_)
      ·refine cF ?_
       refine cW ?_
       refine aH ?_
       refine aE ?_
       refine tr1 rfl (aHm (kv := (fun a : aG => Value.agg ((aP a).map bW).toArray)) (av := (fun v : aJ => AV.agg (aY v))) (l := o27_0_8) (mi := 4) (mm := 3) (ka := .agg (aP p50.1)) (aA rfl) rfl rfl rfl h53 (fun _ _ => .agg (zE rfl))) ?_
       refine tr1 rfl (bZ (aA rfl) rfl rfl) ?_
       refine tr1 rfl (bZ (aA rfl) rfl rfl) ?_
       refine cI rfl (dM (zs := [.lit (.int .i64 0), .lit (.int .i64 0)]) (aA rfl) Try.zeroValue112 rfl rfl) ?_
       rintro _ ⟨b56, rfl⟩
       refine cI rfl (dM (zs := [.lit (.int .i64 0), .lit (.int .i64 0), .lit (.int .i64 0), .lit (.int .i64 0), .lit (.int .i64 0)]) (aA rfl) Try.zeroValue141 rfl rfl) ?_
       rintro _ ⟨b57, rfl⟩
       refine tr1 rfl (cL (i := 5) rfl rfl rfl rfl rfl Try.sizeOf112 rfl (aA rfl) (Nat.le_of_ble_eq_true rfl) (ds' := (aP p50.1)) rfl) ?_
       refine tr1 rfl (cL (i := 6) rfl rfl rfl rfl rfl Try.sizeOf141 rfl (aA rfl) (Nat.le_of_ble_eq_true rfl) (ds' := (aY p50.2)) rfl) ?_
       refine aI ?_
       refine aH ?_
       refine eS mix 6 [6, 16, 86] [(95, .d (.lit (X2 3).v)), (97, .d (.lit (.int .i64 p50.2.Player)))] ?_ ?_
       ·refine ⟨[(92, 0, .bp b5 0 0), (93, 1, .bp b5 0 0), (94, 2, .bp b5 0 2), (95, 3, .d (.lit (X2 3).v)), (96, 4, .bp b57 0 3), (97, 5, .d (.lit (.int .i64 p50.2.Player)))], ?_, ?_⟩
        · exact ⟨by kernel_rfl, by kernel_rfl, by kernel_rfl, by kernel_rfl, by kernel_rfl, [([], []), ([0], []), ([1], []), ([2], []), ([], []), ([4], [])], by kernel_rfl, ⟨fun S hS => aB rfl (aL rfl (aD (v := .bp b5 0 0) (aA rfl) (aC hS rfl) rfl)),
      fun S hS => aB rfl (aL rfl (gO (aA rfl) (aC hS rfl))),
      fun S hS => aB rfl (aL rfl (aN (aA rfl) (aC hS rfl) nF)),
      fun S hS => aB rfl (aL rfl (aQ (aA rfl) (aC hS rfl) (i := 2) rfl rfl eI)),
      fun S hS => aB rfl (aL rfl (aN (aA rfl) (aC hS rfl) sL)),
      fun S hS => aB rfl (aL rfl (aQ (aA rfl) (aC hS rfl) (i := 6) rfl rfl bL)), trivial⟩⟩
        · exact dB (aZ rfl (aZ rfl (bC ⟨rfl, rfl, rfl, trivial⟩)))
       ·obtain ⟨r58, h59, h⟩ := iA h
        refine tr1 rfl (cQ (aA rfl) (.func _ _ Try.call90) rfl rfl (.cons (.d (jF 0 rfl (dT (f := aW) fun _ => rfl))) (.cons (.same _) .nil)) (sV _ _ h59) rfl) ?_
        refine tr1 rfl (aK (v := .d (.lit (.int .i64 r58))) (aA rfl) rfl rfl) ?_
        refine aI ?_
        refine aH ?_
        obtain ⟨b60, h61, h⟩ := iA h
        refine cA (b60) (fun c65 => ?_) (fun c65 => ?_)
        ·have h := gY c65 h
         refine eS mix 15 [6, 86] [(109, .d (.lit (.bool b60)))] ?_ ?_
         ·refine cA (decide (r58 < 0)) (fun c62 => ?_) (fun c62 => ?_)
          ·have h61 := bB c62 h61
           have h61 := Option.some.inj h61
           subst h61
           refine ⟨[(99, 0, .d (.lit (.int .i64 r58))), (100, 1, .d (.lit (.bool ((decide (r58 < 0)))))), (101, 2, .d (.lit (.bool ((decide (r58 < 0)))))), (102, 3, .tup []), (103, 4, .tup []), (104, 5, .tup []), (105, 6, .tup []), (106, 7, .tup []), (107, 8, .tup []), (108, 9, .d (.lit (.bool true))), (109, 10, .d (.lit (.bool (true)))), (110, 11, .tup []), (111, 12, .tup []), (112, 13, .tup []), (113, 14, .tup [])], ?_, ?_⟩
           · exact ⟨by kernel_rfl, by kernel_rfl, by kernel_rfl, by kernel_rfl, by kernel_rfl, [([], []), ([0], []), ([1], []), ([2], []), ([2, 3], []), ([2], []), ([2, 4, 5], []), ([2], []), ([2, 6, 7], []), ([2, 8], []), ([9], []), ([10], []), ([10], []), ([10], []), ([10, 13], [])], by kernel_rfl, ⟨fun S hS => aB rfl (aL rfl (aD (v := .d (.lit (.int .i64 r58))) (aA rfl) (aC hS rfl) rfl)),
      fun S hS => aB rfl (aL rfl (bP (aA rfl) (aC hS rfl) rfl rfl)),
      fun S hS => aB rfl (aL rfl (aD (v := .d (.lit (.bool ((decide (r58 < 0)))))) (aA rfl) (aC hS rfl) rfl)),
      fun S hS => aB rfl (aM rfl rfl (aA rfl) rfl (aA rfl) (aF hS rfl) c62),
      fun S hS => aB rfl (aM rfl rfl (aA rfl) rfl (aA rfl) (aF hS rfl) c62),
      fun S hS => aB rfl (aM rfl rfl (aA rfl) rfl (aA rfl) (aF hS rfl) c62),
      fun S hS => aB rfl (aM rfl rfl (aA rfl) rfl (aA rfl) (aF hS rfl) c62),
      fun S hS => aB rfl (aM rfl rfl (aA rfl) rfl (aA rfl) (aF hS rfl) c62),
      fun S hS => aB rfl (aM rfl rfl (aA rfl) rfl (aA rfl) (aF hS rfl) c62),
      fun S hS => aB rfl (aL rfl (bR (v := .d (.lit (.bool true))) (aA rfl) (aC hS rfl) c62 rfl rfl)),
      fun S hS => aB rfl (aL rfl (aD (v := .d (.lit (.bool (true)))) (aA rfl) (aC hS rfl) rfl)),
      fun S hS => aB rfl (aM rfl rfl (aA rfl) rfl (aA rfl) (aF hS rfl) c65),
      fun S hS => aB rfl (aM rfl rfl (aA rfl) rfl (aA rfl) (aF hS rfl) c65),
      fun S hS => aB rfl (aM rfl rfl (aA rfl) rfl (aA rfl) (aF hS rfl) c65),
      fun S hS => aB rfl (aM rfl rfl (aA rfl) rfl (aA rfl) (aF hS rfl) c65), trivial⟩⟩
           · exact dB (aZ rfl (bC ⟨rfl, rfl, trivial⟩))
          ·have h61 := bD c62 h61
           obtain ⟨r63, h64, h61⟩ := bind_some h61
           have h61 := Option.some.inj h61
           subst h61
           refine ⟨[(99, 0, .d (.lit (.int .i64 r58))), (100, 1, .d (.lit (.bool ((decide (r58 < 0)))))), (101, 2, .d (.lit (.bool ((decide (r58 < 0)))))), (102, 3, .bp b56 0 0), (103, 4, .d (.lit (.int .i64 p50.1.round))), (104, 5, .d (.lit (.int .i64 r58))), (105, 6, .agg (aP r63)), (106, 7, .agg (aP p50.1)), (107, 8, .d (.lit (.bool ((!decide (r63 = p50.1)))))), (108, 9, .d (.lit (.bool ((!decide (r63 = p50.1)))))), (109, 10, .d (.lit (.bool (!decide (r63 = p50.1))))), (110, 11, .tup []), (111, 12, .tup []), (112, 13, .tup []), (113, 14, .tup [])], ?_, ?_⟩
           · exact ⟨by kernel_rfl, by kernel_rfl, by kernel_rfl, by kernel_rfl, by kernel_rfl, [([], []), ([0], []), ([1], []), ([2], []), ([2, 3], []), ([2], []), ([2, 4, 5], []), ([2], []), ([2, 6, 7], []), ([2, 8], []), ([9], []), ([10], []), ([10], []), ([10], []), ([10, 13], [])], by kernel_rfl, ⟨fun S hS => aB rfl (aL rfl (aD (v := .d (.lit (.int .i64 r58))) (aA rfl) (aC hS rfl) rfl)),
      fun S hS => aB rfl (aL rfl (bP (aA rfl) (aC hS rfl) rfl rfl)),
      fun S hS => aB rfl (aL rfl (aD (v := .d (.lit (.bool ((decide (r58 < 0)))))) (aA rfl) (aC hS rfl) rfl)),
      fun S hS => aB rfl (aO rfl rfl (aA rfl) (aF hS rfl) c62 (aN (aA rfl) (aC hS rfl) mG)),
      fun S hS => aB rfl (aO rfl rfl (aA rfl) (aF hS rfl) c62 (aQ (aA rfl) (aC hS rfl) (i := 5) rfl rfl bL)),
      fun S hS => aB rfl (aO rfl rfl (aA rfl) (aF hS rfl) c62 (aD (v := .d (.lit (.int .i64 r58))) (aA rfl) (aC hS rfl) rfl)),
      fun S hS => aB rfl (aO rfl rfl (aA rfl) (aF hS rfl) c62 (iX (aA rfl) (.func _ _ Try.call125) (ev2 (aC hS rfl) (ev2 (aC hS rfl) evn)) rfl (tW _ _ h64))),
      fun S hS => aB rfl (aO rfl rfl (aA rfl) (aF hS rfl) c62 (bO (aA rfl) (aC hS rfl) (i := 5) rfl iR (es := (aP p50.1)) rfl rfl)),
      fun S hS => aB rfl (aO rfl rfl (aA rfl) (aF hS rfl) c62 (vM (a := r63) (b := p50.1) (aA rfl) (aC hS rfl) (aC hS rfl) rfl rfl Try.eqGuardType112 aDk)),
      fun S hS => aB rfl (aL rfl (bQ (v := .d (.lit (.bool ((!decide (r63 = p50.1)))))) (aA rfl) (aC hS rfl) c62 (aC hS rfl) rfl)),
      fun S hS => aB rfl (aL rfl (aD (v := .d (.lit (.bool (!decide (r63 = p50.1))))) (aA rfl) (aC hS rfl) rfl)),
      fun S hS => aB rfl (aM rfl rfl (aA rfl) rfl (aA rfl) (aF hS rfl) c65),
      fun S hS => aB rfl (aM rfl rfl (aA rfl) rfl (aA rfl) (aF hS rfl) c65),
      fun S hS => aB rfl (aM rfl rfl (aA rfl) rfl (aA rfl) (aF hS rfl) c65),
      fun S hS => aB rfl (aM rfl rfl (aA rfl) rfl (aA rfl) (aF hS rfl) c65), trivial⟩⟩
           · exact dB (aZ rfl (bC ⟨rfl, rfl, trivial⟩))
         ·refine aX rfl rfl (aA rfl) rfl (aA rfl) rfl c65 ?_
          refine aX rfl rfl (aA rfl) rfl (aA rfl) rfl c65 ?_
          refine tr1 rfl (bR (v := .d (.lit (.bool true))) (aA rfl) rfl c65 rfl rfl) ?_
          refine aI ?_
          refine cK rfl (fun c71 => ?_) (fun c71 => ?_)
          ·refine aH ?_
           refine aE ?_
           refine tr1 rfl (aK (v := dZ bV (none : Option bX)) (aA rfl) rfl rfl) ?_
           refine tr1 rfl (aK (v := .d (.lit (.bool false))) (aA rfl) rfl rfl) ?_
           refine aI ?_
           exact cB ⟨rfl, _, [], [.arr (X2 3).v 3 1 (r26.2.1.map aW), .map (X2 4).b (o23_4_45.map fun p : aG × Int => ((fun a : aG => Value.agg ((aP a).map bW).toArray) p.1, (fun v : Int => AV.d (.lit (.int .i64 v))) p.2)) bs46 ck47, .box b5 0 [.lit (.int .i64 t_0.Rounds), .sl 1 (t_0.Slots.map aW), .lit (X2 3).v, .lit (.map (some (X2 4).b))], .map r7 (o27_0_8.map fun p : aG × aJ => ((fun a : aG => Value.agg ((aP a).map bW).toArray) p.1, (fun v : aJ => AV.agg (aY v)) p.2)) bs11 ck12, .iter q42 r7 ck12 (seen48 ++ [b52]) ck12, .box b56 0 (aP p50.1), .box b57 0 (aY p50.2)], _, .two (.tmp 4 (v := dZ bV (none : Option bX)) rfl) (.tmp 5 (v := .d (.lit (.bool false))) rfl), .refl _, .same _, ((none : Option bX), false), h, rfl, rfl⟩
          ·exact absurd c71 (by decide)
        ·have h := gX c65 h
         refine eS mix 15 [6, 86] [(109, .d (.lit (.bool b60))), (110, .bp b5 0 0), (111, .d (.lit (.int .i64 r58))), (112, .bp b56 0 0), (113, .d (.lit (.int .i64 p50.1.round)))] ?_ ?_
         ·refine cA (decide (r58 < 0)) (fun c62 => ?_) (fun c62 => ?_)
          ·have h61 := bB c62 h61
           have h61 := Option.some.inj h61
           subst h61
           refine ⟨[(99, 0, .d (.lit (.int .i64 r58))), (100, 1, .d (.lit (.bool ((decide (r58 < 0)))))), (101, 2, .d (.lit (.bool ((decide (r58 < 0)))))), (102, 3, .tup []), (103, 4, .tup []), (104, 5, .tup []), (105, 6, .tup []), (106, 7, .tup []), (107, 8, .tup []), (108, 9, .d (.lit (.bool true))), (109, 10, .d (.lit (.bool (true)))), (110, 11, .bp b5 0 0), (111, 12, .d (.lit (.int .i64 r58))), (112, 13, .bp b56 0 0), (113, 14, .d (.lit (.int .i64 p50.1.round)))], ?_, ?_⟩
           · exact ⟨by kernel_rfl, by kernel_rfl, by kernel_rfl, by kernel_rfl, by kernel_rfl, [([], []), ([0], []), ([1], []), ([2], []), ([2, 3], []), ([2], []), ([2, 4, 5], []), ([2], []), ([2, 6, 7], []), ([2, 8], []), ([9], []), ([10], []), ([10], []), ([10], []), ([10, 13], [])], by kernel_rfl, ⟨fun S hS => aB rfl (aL rfl (aD (v := .d (.lit (.int .i64 r58))) (aA rfl) (aC hS rfl) rfl)),
      fun S hS => aB rfl (aL rfl (bP (aA rfl) (aC hS rfl) rfl rfl)),
      fun S hS => aB rfl (aL rfl (aD (v := .d (.lit (.bool ((decide (r58 < 0)))))) (aA rfl) (aC hS rfl) rfl)),
      fun S hS => aB rfl (aM rfl rfl (aA rfl) rfl (aA rfl) (aF hS rfl) c62),
      fun S hS => aB rfl (aM rfl rfl (aA rfl) rfl (aA rfl) (aF hS rfl) c62),
      fun S hS => aB rfl (aM rfl rfl (aA rfl) rfl (aA rfl) (aF hS rfl) c62),
      fun S hS => aB rfl (aM rfl rfl (aA rfl) rfl (aA rfl) (aF hS rfl) c62),
      fun S hS => aB rfl (aM rfl rfl (aA rfl) rfl (aA rfl) (aF hS rfl) c62),
      fun S hS => aB rfl (aM rfl rfl (aA rfl) rfl (aA rfl) (aF hS rfl) c62),
      fun S hS => aB rfl (aL rfl (bR (v := .d (.lit (.bool true))) (aA rfl) (aC hS rfl) c62 rfl rfl)),
      fun S hS => aB rfl (aL rfl (aD (v := .d (.lit (.bool (true)))) (aA rfl) (aC hS rfl) rfl)),
      fun S hS => aB rfl (aO rfl rfl (aA rfl) (aF hS rfl) c65 (aD (v := .bp b5 0 0) (aA rfl) (aC hS rfl) rfl)),
      fun S hS => aB rfl (aO rfl rfl (aA rfl) (aF hS rfl) c65 (aD (v := .d (.lit (.int .i64 r58))) (aA rfl) (aC hS rfl) rfl)),
      fun S hS => aB rfl (aO rfl rfl (aA rfl) (aF hS rfl) c65 (aN (aA rfl) (aC hS rfl) mG)),
      fun S hS => aB rfl (aO rfl rfl (aA rfl) (aF hS rfl) c65 (aQ (aA rfl) (aC hS rfl) (i := 5) rfl rfl bL)), trivial⟩⟩
           · exact dB (aZ rfl (aZ rfl (aZ rfl (aZ rfl (aZ rfl (bC ⟨rfl, rfl, trivial⟩))))))
          ·have h61 := bD c62 h61
           obtain ⟨r63, h64, h61⟩ := bind_some h61
           have h61 := Option.some.inj h61
           subst h61
           refine ⟨[(99, 0, .d (.lit (.int .i64 r58))), (100, 1, .d (.lit (.bool ((decide (r58 < 0)))))), (101, 2, .d (.lit (.bool ((decide (r58 < 0)))))), (102, 3, .bp b56 0 0), (103, 4, .d (.lit (.int .i64 p50.1.round))), (104, 5, .d (.lit (.int .i64 r58))), (105, 6, .agg (aP r63)), (106, 7, .agg (aP p50.1)), (107, 8, .d (.lit (.bool ((!decide (r63 = p50.1)))))), (108, 9, .d (.lit (.bool ((!decide (r63 = p50.1)))))), (109, 10, .d (.lit (.bool (!decide (r63 = p50.1))))), (110, 11, .bp b5 0 0), (111, 12, .d (.lit (.int .i64 r58))), (112, 13, .bp b56 0 0), (113, 14, .d (.lit (.int .i64 p50.1.round)))], ?_, ?_⟩
           · exact ⟨by kernel_rfl, by kernel_rfl, by kernel_rfl, by kernel_rfl, by kernel_rfl, [([], []), ([0], []), ([1], []), ([2], []), ([2, 3], []), ([2], []), ([2, 4, 5], []), ([2], []), ([2, 6, 7], []), ([2, 8], []), ([9], []), ([10], []), ([10], []), ([10], []), ([10, 13], [])], by kernel_rfl, ⟨fun S hS => aB rfl (aL rfl (aD (v := .d (.lit (.int .i64 r58))) (aA rfl) (aC hS rfl) rfl)),
      fun S hS => aB rfl (aL rfl (bP (aA rfl) (aC hS rfl) rfl rfl)),
      fun S hS => aB rfl (aL rfl (aD (v := .d (.lit (.bool ((decide (r58 < 0)))))) (aA rfl) (aC hS rfl) rfl)),
      fun S hS => aB rfl (aO rfl rfl (aA rfl) (aF hS rfl) c62 (aN (aA rfl) (aC hS rfl) mG)),
      fun S hS => aB rfl (aO rfl rfl (aA rfl) (aF hS rfl) c62 (aQ (aA rfl) (aC hS rfl) (i := 5) rfl rfl bL)),
      fun S hS => aB rfl (aO rfl rfl (aA rfl) (aF hS rfl) c62 (aD (v := .d (.lit (.int .i64 r58))) (aA rfl) (aC hS rfl) rfl)),
      fun S hS => aB rfl (aO rfl rfl (aA rfl) (aF hS rfl) c62 (iX (aA rfl) (.func _ _ Try.call125) (ev2 (aC hS rfl) (ev2 (aC hS rfl) evn)) rfl (tW _ _ h64))),
      fun S hS => aB rfl (aO rfl rfl (aA rfl) (aF hS rfl) c62 (bO (aA rfl) (aC hS rfl) (i := 5) rfl iR (es := (aP p50.1)) rfl rfl)),
      fun S hS => aB rfl (aO rfl rfl (aA rfl) (aF hS rfl) c62 (vM (a := r63) (b := p50.1) (aA rfl) (aC hS rfl) (aC hS rfl) rfl rfl Try.eqGuardType112 aDk)),
      fun S hS => aB rfl (aL rfl (bQ (v := .d (.lit (.bool ((!decide (r63 = p50.1)))))) (aA rfl) (aC hS rfl) c62 (aC hS rfl) rfl)),
      fun S hS => aB rfl (aL rfl (aD (v := .d (.lit (.bool (!decide (r63 = p50.1))))) (aA rfl) (aC hS rfl) rfl)),
      fun S hS => aB rfl (aO rfl rfl (aA rfl) (aF hS rfl) c65 (aD (v := .bp b5 0 0) (aA rfl) (aC hS rfl) rfl)),
      fun S hS => aB rfl (aO rfl rfl (aA rfl) (aF hS rfl) c65 (aD (v := .d (.lit (.int .i64 r58))) (aA rfl) (aC hS rfl) rfl)),
      fun S hS => aB rfl (aO rfl rfl (aA rfl) (aF hS rfl) c65 (aN (aA rfl) (aC hS rfl) mG)),
      fun S hS => aB rfl (aO rfl rfl (aA rfl) (aF hS rfl) c65 (aQ (aA rfl) (aC hS rfl) (i := 5) rfl rfl bL)), trivial⟩⟩
           · exact dB (aZ rfl (aZ rfl (aZ rfl (aZ rfl (aZ rfl (bC ⟨rfl, rfl, trivial⟩))))))
         ·obtain ⟨r66, h67, h⟩ := iA h
          refine lB (bI [2, 0, 1, 3, 4, 5, 6] rfl rfl (le_refl _)) ?_
          refine aHs rfl rfl (aA rfl) rfl c65 (mA (passed := [.box b5 0 [.lit (.int .i64 t_0.Rounds), .sl 1 (t_0.Slots.map aW), .lit (X2 3).v, .lit (.map (some (X2 4).b))], .arr (X2 3).v 3 1 (r26.2.1.map aW), .map (X2 4).b (o23_4_45.map fun p : aG × Int => ((fun a : aG => Value.agg ((aP a).map bW).toArray) p.1, (fun v : Int => AV.d (.lit (.int .i64 v))) p.2)) bs46 ck47]) (aA rfl) rfl (.func _ _ Try.call124) rfl rfl (rF t_0 r26.2.1 o23_4_45 r58 p50.1.round h67)) ?_
          rintro _ ⟨_, _, ⟨bs68, ck69, rfl, rfl⟩, rfl⟩
          refine aU rfl rfl (aA rfl) rfl c65 (fE (aA rfl) rfl) ?_
          refine tr1 rfl (bQ (v := .d (.lit (.bool (!r66.1)))) (aA rfl) rfl c65 rfl rfl) ?_
          refine aI ?_
          refine cK rfl (fun c70 => ?_) (fun c70 => ?_)
          ·have h := gY c70 h
           refine aH ?_
           refine aE ?_
           refine tr1 rfl (aK (v := dZ bV (none : Option bX)) (aA rfl) rfl rfl) ?_
           refine tr1 rfl (aK (v := .d (.lit (.bool false))) (aA rfl) rfl rfl) ?_
           refine aI ?_
           exact cB ⟨rfl, _, [], [.box b5 0 [.lit (.int .i64 t_0.Rounds), .sl 1 (t_0.Slots.map aW), .lit (X2 3).v, .lit (.map (some (X2 4).b))], .arr (X2 3).v 3 1 (r26.2.1.map aW), .map (X2 4).b (r66.2.map fun p : aG × Int => ((fun a : aG => Value.agg ((aP a).map bW).toArray) p.1, (fun v : Int => AV.d (.lit (.int .i64 v))) p.2)) bs68 ck69, .map r7 (o27_0_8.map fun p : aG × aJ => ((fun a : aG => Value.agg ((aP a).map bW).toArray) p.1, (fun v : aJ => AV.agg (aY v)) p.2)) bs11 ck12, .iter q42 r7 ck12 (seen48 ++ [b52]) ck12, .box b56 0 (aP p50.1), .box b57 0 (aY p50.2)], _, .two (.tmp 4 (v := dZ bV (none : Option bX)) rfl) (.tmp 5 (v := .d (.lit (.bool false))) rfl), .refl _, .same _, ((none : Option bX), false), h, rfl, rfl⟩
          ·have h := gX c70 h
           refine fB ?_
           exact ⟨(r66.2, bs68, ck69, (seen48 ++ [b52])), h, bI [1, 2, 0, 3, 4] rfl rfl (bC ⟨rfl, rfl, trivial⟩)⟩
      ·exact absurd c72 (by decide)

theorem rN (t_0 : aV) (l_1 : List aJ) {Q : ((Option bX) × Int) → Prop} (h : jD t_0 l_1 Q) : fI Try.prog 82 [.agg (bS t_0), .d (.sl 5 (l_1.map aY))] [] (fun r' o' => ∃ (r : (Option bX) × Int), Q r ∧ r' = .tup [dZ bV r.1, .d (.lit (.int .i64 r.2))] ∧ o' = []) := by
 unfold jD at h
 refine jA Try.func82 rfl (rs := [.tmp 4, .tmp 5]) Try.results82 Try.ntmps82 (Nat.le_of_ble_eq_true rfl) ?_
 refine aH ?_
 refine aE ?_
 refine cI rfl (eU (v := .agg (bS t_0)) (aA rfl) rfl rfl rfl) ?_
 rintro _ ⟨b1, rfl⟩
 refine tr1 rfl (aK (v := dZ bV (none : Option bX)) (aA rfl) rfl rfl) ?_
 refine tr1 rfl (aK (v := .d (.lit (.int .i64 0))) (aA rfl) rfl rfl) ?_
 refine aI ?_
 refine aH ?_
 refine aH ?_
 refine aE ?_
 refine tr1 rfl (bO (aA rfl) rfl (i := 0) rfl kQ (es := (bS t_0)) rfl rfl) ?_
 obtain ⟨r2, h3, h⟩ := iA h
 refine tr1 rfl (cQ (aA rfl) (.func _ _ Try.call102) rfl rfl (BVs.refl _ _) (aBc _ h3) rfl) ?_
 refine tr1 rfl (fE (aA rfl) rfl) ?_
 refine aI ?_
 refine cK rfl (fun c4 => ?_) (fun c4 => ?_)
 ·have h := gY c4 h
  refine aH ?_
  refine aE ?_
  refine tr1 rfl (aK (v := dZ bV (none : Option bX)) (aA rfl) rfl rfl) ?_
  refine tr1 rfl (aK (v := .d (.lit (.int .i64 70))) (aA rfl) rfl rfl) ?_
  refine aI ?_
  exact cB ⟨rfl, _, [], [.box b1 0 (bS t_0)], _, .two (.tmp 4 (v := dZ bV (none : Option bX)) rfl) (.tmp 5 (v := .d (.lit (.int .i64 70))) rfl), .refl _, .same _, ((none : Option bX), 70), h, rfl, rfl⟩
 ·have h := gX c4 h
  refine cF ?_
  refine aH ?_
  refine aH ?_
  refine aE ?_
  refine tr1 rfl (aD (v := .d (.sl 5 (l_1.map aY))) (aA rfl) rfl rfl) ?_
  refine tr1 rfl (dC (aA rfl) rfl vN.of) ?_
  refine tr1 rfl (bP (aA rfl) rfl rfl rfl) ?_
  refine tr1 rfl (aD (v := .d (.lit (.bool ((decide (60 < (l_1.length : Int))))))) (aA rfl) rfl rfl) ?_
  obtain ⟨b5, h6, h⟩ := iA h
  refine dD 4 [1, 2] 18 b5 ?_ ?_
  ·refine cA (decide (60 < (l_1.length : Int))) (fun c10 => ?_) (fun c10 => ?_)
   ·have h6 := bB c10 h6
    refine aX rfl rfl (aA rfl) rfl (aA rfl) rfl c10 ?_
    refine aX rfl rfl (aA rfl) rfl (aA rfl) rfl c10 ?_
    refine aX rfl rfl (aA rfl) rfl (aA rfl) rfl c10 ?_
    refine tr1 rfl (bR (v := .d (.lit (.bool true))) (aA rfl) rfl c10 rfl rfl) ?_
    have h6 := Option.some.inj h6
    subst h6
    refine aI (bT rfl ⟨rfl, rfl, trivial⟩ rfl)
   ·have h6 := bD c10 h6
    refine aU rfl rfl (aA rfl) rfl c10 (aD (v := .d (.sl 5 (l_1.map aY))) (aA rfl) rfl rfl) ?_
    refine aU rfl rfl (aA rfl) rfl c10 (aGd (aA rfl) rfl rfl) ?_
    obtain ⟨r12, h13, h6⟩ := bind_some h6
    refine aU rfl rfl (aA rfl) rfl c10 (cQ (aA rfl) (.func _ _ Try.call103) rfl rfl (.cons (.same _) (.cons ((aLv (.cons ((tH 0 rfl rfl (dvc (.same _) (dvc (.same _) dvn)))) .nil))) .nil)) (qY _ _ 104 [.cp [.lit (.int .i64 t_0.Rounds), .sl 1 (t_0.Slots.map aW)]] Try.call104 (fun _ _ h6 => aBd _ _ h6) h13) rfl) ?_
    refine tr1 rfl (bQ (v := .d (.lit (.bool r12))) (aA rfl) rfl c10 rfl rfl) ?_
    have h6 := Option.some.inj h6
    subst h6
    refine aI (bT rfl ⟨rfl, rfl, trivial⟩ rfl)
  ·refine aI ?_
   refine cK rfl (fun c7 => ?_) (fun c7 => ?_)
   ·have h := gY c7 h
    refine aH ?_
    refine aE ?_
    refine tr1 rfl (aK (v := dZ bV (none : Option bX)) (aA rfl) rfl rfl) ?_
    refine tr1 rfl (aK (v := .d (.lit (.int .i64 71))) (aA rfl) rfl rfl) ?_
    refine aI ?_
    exact cB ⟨rfl, _, [], [.box b1 0 (bS t_0)], _, .two (.tmp 4 (v := dZ bV (none : Option bX)) rfl) (.tmp 5 (v := .d (.lit (.int .i64 71))) rfl), .refl _, .same _, ((none : Option bX), 71), h, rfl, rfl⟩
   ·have h := gX c7 h
    refine cF ?_
    refine aH ?_
    refine aE ?_
    refine tr1 rfl (bO (aA rfl) rfl (i := 0) rfl kQ (es := (bS t_0)) rfl rfl) ?_
    refine tr1 rfl (aD (v := .d (.sl 5 (l_1.map aY))) (aA rfl) rfl rfl) ?_
    refine cI rfl (rV (aA rfl) (.func _ _ Try.call106) rfl rfl (aCd _ _ h)) ?_
    rintro _ ⟨_, _, ⟨r8, h, rfl, rfl⟩, rfl⟩
    refine tr1 rfl (aD (v := .tup [dZ bV r8.1, .d (.lit (.bool r8.2))]) (aA rfl) rfl rfl) ?_
    refine tr1 rfl (bZ (aA rfl) rfl rfl) ?_
    refine tr1 rfl (bZ (aA rfl) rfl rfl) ?_
    refine tr1 rfl (aK (v := dZ bV r8.1) (aA rfl) rfl rfl) ?_
    refine tr1 rfl (aK (v := .d (.lit (.bool r8.2))) (aA rfl) rfl rfl) ?_
    refine aI ?_
    refine aH ?_
    refine aH ?_
    refine aE ?_
    refine tr1 rfl (aD (v := .d (.lit (.bool r8.2))) (aA rfl) rfl rfl) ?_
    refine tr1 rfl (fE (aA rfl) rfl) ?_
    refine aI ?_
    refine cK rfl (fun c9 => ?_) (fun c9 => ?_)
    ·have h := gY c9 h
     refine aH ?_
     refine aE ?_
     refine tr1 rfl (aK (v := dZ bV (none : Option bX)) (aA rfl) rfl rfl) ?_
     refine tr1 rfl (aK (v := .d (.lit (.int .i64 72))) (aA rfl) rfl rfl) ?_
     refine aI ?_
     exact cB ⟨rfl, _, [], [.box b1 0 (bS t_0)], _, .two (.tmp 4 (v := dZ bV (none : Option bX)) rfl) (.tmp 5 (v := .d (.lit (.int .i64 72))) rfl), .refl _, .same _, ((none : Option bX), 72), h, rfl, rfl⟩
    ·have h := gX c9 h
     refine cF ?_
     refine aH ?_
     refine aE ?_
     refine tr1 rfl (aD (v := dZ bV r8.1) (aA rfl) rfl rfl) ?_
     refine tr1 rfl (aK (v := dZ bV r8.1) (aA rfl) rfl rfl) ?_
     refine tr1 rfl (aK (v := .d (.lit (.int .i64 0))) (aA rfl) rfl rfl) ?_
     refine aI ?_
     exact cB ⟨rfl, _, [], [.box b1 0 (bS t_0)], _, .two (.tmp 4 (v := dZ bV r8.1) rfl) (.tmp 5 (v := .d (.lit (.int .i64 0))) rfl), .refl _, .same _, (r8.1, 0), h, rfl, rfl⟩

theorem rE (d_0 : bX) (m_1 : aG) (side_2 : Int) {r : Int} (h : jL d_0 m_1 side_2 = some r) : Fn Try.prog 113 [.cp (bV d_0), .agg (aP m_1), .d (.lit (.int .i64 side_2))] (.d (.lit (.int .i64 r))) := by
 unfold jL at h
 refine Fn.of_tr Try.func113 rfl (rs := [.tmp 6]) Try.results113 Try.ntmps113 (Nat.le_of_ble_eq_true rfl) ?_
 refine aH ?_
 refine aE ?_
 refine cI rfl (eU (v := .agg (aP m_1)) (aA rfl) rfl rfl rfl) ?_
 rintro _ ⟨b1, rfl⟩
 refine tr1 rfl (aK (v := .d (.lit (.int .i64 0))) (aA rfl) rfl rfl) ?_
 refine aI ?_
 refine aH ?_
 refine aE ?_
 refine tr1 rfl (aN (aA rfl) rfl aEc) ?_
 refine tr1 rfl (aQ (aA rfl) rfl (i := 0) rfl rfl bL) ?_
 refine tr1 rfl (cG (aA rfl) rfl rfl rfl) ?_
 refine tr1 rfl (aD (v := .d (.lit (.int .i64 side_2))) (aA rfl) rfl rfl) ?_
 refine tr1 rfl (cG (aA rfl) rfl rfl rfl) ?_
 refine tr1 rfl (aK (v := .d (.lit (.int .i64 ((w64 ((w64 (2 * m_1.place)) + side_2)))))) (aA rfl) rfl rfl) ?_
 refine aI ?_
 refine aH ?_
 refine aH ?_
 refine aE ?_
 refine tr1 rfl (aN (aA rfl) rfl mG) ?_
 refine tr1 rfl (aQ (aA rfl) rfl (i := 0) rfl rfl bL) ?_
 refine tr1 rfl (bP (aA rfl) rfl rfl rfl) ?_
 refine aI ?_
 refine cK rfl (fun c2 => ?_) (fun c2 => ?_)
 ·have h := bB c2 h
  refine aH ?_
  refine aE ?_
  refine tr1 rfl (aD (v := .cp [.lit (.int .i64 d_0.Tree.Rounds), .sl 1 (d_0.Tree.Slots.map aW), .sl 1 (d_0.players.map aW), .mp false (d_0.won.map fun p : aG × Int => ((fun a : aG => Value.agg ((aP a).map bW).toArray) p.1, aW p.2))]) (aA rfl) rfl rfl) ?_
  refine tr1 rfl (fD (aA rfl) rfl) ?_
  refine tr1 rfl (cC (aA rfl) rfl nF (es := [.sl 1 (d_0.players.map aW)]) rfl) ?_
  refine tr1 rfl (cJ (aA rfl) rfl eI) ?_
  refine tr1 rfl (aD (v := .d (.lit (.int .i64 ((w64 ((w64 (2 * m_1.place)) + side_2)))))) (aA rfl) rfl rfl) ?_
  obtain ⟨x3, h4, h⟩ := bind_some h
  refine tr1 rfl (bU (aA rfl) rfl rfl dV.of (cE aW h4)) ?_
  refine tr1 rfl (cJ (aA rfl) rfl bL) ?_
  refine tr1 rfl (aK (v := .d (.lit (.int .i64 x3))) (aA rfl) rfl rfl) ?_
  refine aI ?_
  have h := Option.some.inj h
  subst h
  refine cT (cR (cU (l := [6]) ⟨rfl, trivial⟩)) ?_
  exact cB ⟨rfl, _, .one _, rfl, rfl⟩
 ·have h := bD c2 h
  refine cF ?_
  refine aH ?_
  refine aH ?_
  refine eS mix 14 [] [(8, .d (.lit (.int .i64 ((cZ (aG.mk (w64 (m_1.round - 1)) (w64 ((w64 (2 * m_1.place)) + side_2))) 0 d_0.won))))), (37, .d (.lit (.bool ((dU (aG.mk (w64 (m_1.round - 1)) (w64 ((w64 (2 * m_1.place)) + side_2))) d_0.won)))))] ?_ ?_
  ·refine ⟨[(26, 0, .cp [.lit (.int .i64 d_0.Tree.Rounds), .sl 1 (d_0.Tree.Slots.map aW), .sl 1 (d_0.players.map aW), .mp false (d_0.won.map fun p : aG × Int => ((fun a : aG => Value.agg ((aP a).map bW).toArray) p.1, aW p.2))]), (27, 1, .cp [.lit (.int .i64 d_0.Tree.Rounds), .sl 1 (d_0.Tree.Slots.map aW), .sl 1 (d_0.players.map aW), .mp false (d_0.won.map fun p : aG × Int => ((fun a : aG => Value.agg ((aP a).map bW).toArray) p.1, aW p.2))]), (28, 2, .cp [.mp false (d_0.won.map fun p : aG × Int => ((fun a : aG => Value.agg ((aP a).map bW).toArray) p.1, aW p.2))]), (29, 3, .d (.mp false (d_0.won.map fun p : aG × Int => ((fun a : aG => Value.agg ((aP a).map bW).toArray) p.1, aW p.2)))), (30, 4, .bp b1 0 0), (31, 5, .d (.lit (.int .i64 m_1.round))), (32, 6, .d (.lit (.int .i64 ((w64 (m_1.round - 1)))))), (33, 7, .d (.lit (.int .i64 ((w64 ((w64 (2 * m_1.place)) + side_2)))))), (34, 8, .agg (aP (aG.mk (w64 (m_1.round - 1)) (w64 ((w64 (2 * m_1.place)) + side_2))))), (35, 9, .tup [.d (.lit (.int .i64 ((cZ (aG.mk (w64 (m_1.round - 1)) (w64 ((w64 (2 * m_1.place)) + side_2))) 0 d_0.won)))), .d (.lit (.bool ((dU (aG.mk (w64 (m_1.round - 1)) (w64 ((w64 (2 * m_1.place)) + side_2))) d_0.won))))]), (25, 10, .tup [.d (.lit (.int .i64 ((cZ (aG.mk (w64 (m_1.round - 1)) (w64 ((w64 (2 * m_1.place)) + side_2))) 0 d_0.won)))), .d (.lit (.bool ((dU (aG.mk (w64 (m_1.round - 1)) (w64 ((w64 (2 * m_1.place)) + side_2))) d_0.won))))]), (36, 11, .d (.lit (.int .i64 ((cZ (aG.mk (w64 (m_1.round - 1)) (w64 ((w64 (2 * m_1.place)) + side_2))) 0 d_0.won))))), (37, 12, .d (.lit (.bool ((dU (aG.mk (w64 (m_1.round - 1)) (w64 ((w64 (2 * m_1.place)) + side_2))) d_0.won))))), (8, 13, .d (.lit (.int .i64 ((cZ (aG.mk (w64 (m_1.round - 1)) (w64 ((w64 (2 * m_1.place)) + side_2))) 0 d_0.won)))))], ?_, ?_⟩
   · exact ⟨by kernel_rfl, by kernel_rfl, by kernel_rfl, by kernel_rfl, by kernel_rfl, [([], []), ([0], []), ([1], []), ([2], []), ([], []), ([4], []), ([5], []), ([], []), ([6, 7], []), ([3, 8], []), ([9], []), ([10], []), ([10], []), ([11], [])], by kernel_rfl, ⟨fun S hS => aB rfl (aL rfl (aD (v := .cp [.lit (.int .i64 d_0.Tree.Rounds), .sl 1 (d_0.Tree.Slots.map aW), .sl 1 (d_0.players.map aW), .mp false (d_0.won.map fun p : aG × Int => ((fun a : aG => Value.agg ((aP a).map bW).toArray) p.1, aW p.2))]) (aA rfl) (aC hS rfl) rfl)),
      fun S hS => aB rfl (aL rfl (fD (aA rfl) (aC hS rfl))),
      fun S hS => aB rfl (aL rfl (cC (aA rfl) (aC hS rfl) uY (es := [.mp false (d_0.won.map fun p : aG × Int => ((fun a : aG => Value.agg ((aP a).map bW).toArray) p.1, aW p.2))]) rfl)),
      fun S hS => aB rfl (aL rfl (cJ (aA rfl) (aC hS rfl) aAg)),
      fun S hS => aB rfl (aL rfl (aN (aA rfl) (aC hS rfl) mG)),
      fun S hS => aB rfl (aL rfl (aQ (aA rfl) (aC hS rfl) (i := 0) rfl rfl bL)),
      fun S hS => aB rfl (aL rfl (cG (aA rfl) (aC hS rfl) rfl rfl)),
      fun S hS => aB rfl (aL rfl (aD (v := .d (.lit (.int .i64 ((w64 ((w64 (2 * m_1.place)) + side_2)))))) (aA rfl) (aC hS rfl) rfl)),
      fun S hS => aB rfl (aL rfl (eD (aA rfl) tP (zs := [.lit (.int .i64 0), .lit (.int .i64 0)]) rfl rfl rfl (pa2 (aC hS rfl) (pa2 (aC hS rfl) pan)) (es := [.lit (.int .i64 ((w64 (m_1.round - 1)))), .lit (.int .i64 ((w64 ((w64 (2 * m_1.place)) + side_2))))]) rfl)),
      fun S hS => aB rfl (aL rfl (yE (enc := aW) (agg := false) (l := d_0.won) (z := 0) (a := (aG.mk (w64 (m_1.round - 1)) (w64 ((w64 (2 * m_1.place)) + side_2)))) (aA rfl) tO Try.underlying116 Try.zeroValue3 (fun _ _ => .d (.lit _ rfl)) (aC hS rfl) rfl rfl (aC hS rfl) (jN (enc := aP) (aG.mk (w64 (m_1.round - 1)) (w64 ((w64 (2 * m_1.place)) + side_2))) rfl))),
      fun S hS => aB rfl (aL rfl (aD (v := .tup [.d (.lit (.int .i64 ((cZ (aG.mk (w64 (m_1.round - 1)) (w64 ((w64 (2 * m_1.place)) + side_2))) 0 d_0.won)))), .d (.lit (.bool ((dU (aG.mk (w64 (m_1.round - 1)) (w64 ((w64 (2 * m_1.place)) + side_2))) d_0.won))))]) (aA rfl) (aC hS rfl) rfl)),
      fun S hS => aB rfl (aL rfl (bZ (aA rfl) (aC hS rfl) rfl)),
      fun S hS => aB rfl (aL rfl (bZ (aA rfl) (aC hS rfl) rfl)),
      fun S hS => aB rfl (aL rfl (aK (v := .d (.lit (.int .i64 ((cZ (aG.mk (w64 (m_1.round - 1)) (w64 ((w64 (2 * m_1.place)) + side_2))) 0 d_0.won))))) (aA rfl) (aC hS rfl) rfl)), trivial⟩⟩
   · exact dB (aZ rfl (aZ rfl (bC trivial)))
  ·refine tr1 rfl (aK (v := .d (.lit (.bool ((dU (aG.mk (w64 (m_1.round - 1)) (w64 ((w64 (2 * m_1.place)) + side_2))) d_0.won))))) (aA rfl) rfl rfl) ?_
   refine aI ?_
   refine aH ?_
   refine aE ?_
   refine tr1 rfl (aD (v := .d (.lit (.bool ((dU (aG.mk (w64 (m_1.round - 1)) (w64 ((w64 (2 * m_1.place)) + side_2))) d_0.won))))) (aA rfl) rfl rfl) ?_
   refine aI ?_
   refine cK rfl (fun c5 => ?_) (fun c5 => ?_)
   ·have h := bB c5 h
    refine aH ?_
    refine aE ?_
    refine tr1 rfl (aD (v := .d (.lit (.int .i64 ((cZ (aG.mk (w64 (m_1.round - 1)) (w64 ((w64 (2 * m_1.place)) + side_2))) 0 d_0.won))))) (aA rfl) rfl rfl) ?_
    refine tr1 rfl (aK (v := .d (.lit (.int .i64 ((cZ (aG.mk (w64 (m_1.round - 1)) (w64 ((w64 (2 * m_1.place)) + side_2))) 0 d_0.won))))) (aA rfl) rfl rfl) ?_
    refine aI ?_
    have h := Option.some.inj h
    subst h
    refine cT (cR (cU (l := [6]) ⟨rfl, trivial⟩)) ?_
    exact cB ⟨rfl, _, .one _, rfl, rfl⟩
   ·have h := bD c5 h
    refine cF ?_
    refine aH ?_
    refine aE ?_
    refine tr1 rfl (aK (v := .d (.lit (.int .i64 (-2)))) (aA rfl) rfl rfl) ?_
    refine aI ?_
    have h := Option.some.inj h
    subst h
    refine cT (cR (cU (l := [6]) ⟨rfl, trivial⟩)) ?_
    exact cB ⟨rfl, _, .one _, rfl, rfl⟩

theorem vQ {S : Type} (J : S → MO → Prop) (ly : Nat) (yield_1 : S → aG → bN → Option S) (hy : ∀ (s : S) (m : MO) (x0 : aG) (x1 : bN) (s' : S), J s m → yield_1 s x0 x1 = some s' → yL Try.prog ly [.agg (aP x0), .agg (bY x1)] m (J s')) (d_0 : bX) (sy : S) (m0 : MO) (hj : J sy m0) {r : S} (h : jB d_0 yield_1 sy = some r) : fI Try.prog 95 [.cp (bV d_0), .d (.lit (yv ly))] [m0] (fun _ o' => ∃ m', J r m' ∧ o' = [m']) := by
 unfold jB at h
 refine aGl Try.func95 rfl (rs := []) Try.results95 Try.ntmps95 (Nat.le_of_ble_eq_true rfl) ?_
 refine aH ?_
 refine aE ?_
 refine tr1 rfl (aD (v := .cp [.lit (.int .i64 d_0.Tree.Rounds), .sl 1 (d_0.Tree.Slots.map aW), .sl 1 (d_0.players.map aW), .mp false (d_0.won.map fun p : aG × Int => ((fun a : aG => Value.agg ((aP a).map bW).toArray) p.1, aW p.2))]) (aA rfl) rfl rfl) ?_
 refine tr1 rfl (fD (aA rfl) rfl) ?_
 refine tr1 rfl (cC (aA rfl) rfl yT (es := [.lit (.int .i64 d_0.Tree.Rounds), .sl 1 (d_0.Tree.Slots.map aW)]) rfl) ?_
 refine tr1 rfl (cC (aA rfl) rfl jG (es := [.lit (.int .i64 d_0.Tree.Rounds)]) rfl) ?_
 refine tr1 rfl (cJ (aA rfl) rfl bL) ?_
 refine tr1 rfl (aD (v := .d (.lit (.int .i64 0))) (aA rfl) rfl rfl) ?_
 refine aI ?_
 refine cW ?_
 refine dY [0, 1, 11] (fun (s1 : Int × ({x : S × MO // J x.1 x.2})) => [(12, .d (.lit (.int .i64 s1.1)))]) (fun (s1 : Int × ({x : S × MO // J x.1 x.2})) => [s1.2.1.2]) (fun (k : Nat) (s1 : Int × ({x : S × MO // J x.1 x.2})) => dQ yield_1 d_0 d_0.Tree.Rounds k s1.1 s1.2.1.1) (fun _ => rfl) (0, ⟨(sy, m0), hj⟩) h (bI [0] rfl rfl (aZ rfl (bC ⟨rfl, rfl, rfl, trivial⟩))) ?_
 rintro k3 ⟨t12_0_1, y2⟩ h
 simp only [dQ] at h
 refine aH ?_
 refine aE ?_
 refine tr1 rfl (bP (aA rfl) rfl rfl rfl) ?_
 refine aI ?_
 refine aH ?_
 refine cK rfl (fun c4 => ?_) (fun c4 => ?_)
 ·have h := bB c4 h
  refine cF ?_
  refine aH ?_
  refine cW ?_
  refine aH ?_
  refine aE ?_
  refine tr1 rfl (aD (v := .d (.lit (.int .i64 t12_0_1))) (aA rfl) rfl rfl) ?_
  refine tr1 rfl (aK (v := .d (.lit (.int .i64 t12_0_1))) (aA rfl) rfl rfl) ?_
  refine aI ?_
  refine aH ?_
  refine aE ?_
  refine tr1 rfl (aD (v := .cp [.lit (.int .i64 d_0.Tree.Rounds), .sl 1 (d_0.Tree.Slots.map aW), .sl 1 (d_0.players.map aW), .mp false (d_0.won.map fun p : aG × Int => ((fun a : aG => Value.agg ((aP a).map bW).toArray) p.1, aW p.2))]) (aA rfl) rfl rfl) ?_
  refine tr1 rfl (fD (aA rfl) rfl) ?_
  refine tr1 rfl (cC (aA rfl) rfl yT (es := [.lit (.int .i64 d_0.Tree.Rounds), .sl 1 (d_0.Tree.Slots.map aW)]) rfl) ?_
  refine tr1 rfl (cC (aA rfl) rfl mQ (es := [.sl 1 (d_0.Tree.Slots.map aW)]) rfl) ?_
  refine tr1 rfl (cJ (aA rfl) rfl eI) ?_
  refine tr1 rfl (dC (aA rfl) rfl dV.of) ?_
  refine tr1 rfl (aD (v := .d (.lit (.int .i64 t12_0_1))) (aA rfl) rfl rfl) ?_
  refine tr1 rfl (cG (aA rfl) rfl rfl rfl) ?_
  obtain ⟨u5, h6, h⟩ := bind_some h
  refine tr1 rfl (aEx (aA rfl) rfl rfl (vC h6)) ?_
  refine tr1 rfl (aD (v := .d (.lit (.int .i64 0))) (aA rfl) rfl rfl) ?_
  refine aI ?_
  refine tQ ?_
  refine dY [0, 1, 4, 11, 12, 23] (fun (s7 : Int × ({x : S × MO // J x.1 x.2})) => [(24, .d (.lit (.int .i64 s7.1)))]) (fun (s7 : Int × ({x : S × MO // J x.1 x.2})) => [s7.2.1.2]) (fun (k : Nat) (s7 : Int × ({x : S × MO // J x.1 x.2})) => eT yield_1 (dQ yield_1 d_0 d_0.Tree.Rounds k3) d_0 t12_0_1 d_0.Tree.Rounds t12_0_1 ((d_0.Tree.Slots.length : Int).fdiv (2 ^ (min (w64 (t12_0_1 + 1)).toNat 64))) k s7.1 s7.2.1.1) (fun _ => rfl) (0, ⟨(y2.1.1, y2.1.2), y2.2⟩) h (bI [0] rfl rfl (aZ rfl (bC ⟨rfl, rfl, rfl, rfl, rfl, rfl, trivial⟩))) ?_
  rintro k9 ⟨t24_2_7, y8⟩ h
  simp only [eT] at h
  refine aH ?_
  refine aE ?_
  refine tr1 rfl (bP (aA rfl) rfl rfl rfl) ?_
  refine aI ?_
  refine aH ?_
  refine cK rfl (fun c10 => ?_) (fun c10 => ?_)
  ·have h := bB c10 h
   refine cF ?_
   refine aH ?_
   refine cW ?_
   refine aH ?_
   refine aE ?_
   refine tr1 rfl (aD (v := .d (.lit (.int .i64 t24_2_7))) (aA rfl) rfl rfl) ?_
   refine tr1 rfl (aK (v := .d (.lit (.int .i64 t24_2_7))) (aA rfl) rfl rfl) ?_
   refine aI ?_
   refine aH ?_
   refine aE ?_
   refine tr1 rfl (aD (v := .d (.lit (.int .i64 t12_0_1))) (aA rfl) rfl rfl) ?_
   refine tr1 rfl (aD (v := .d (.lit (.int .i64 t24_2_7))) (aA rfl) rfl rfl) ?_
   refine tr1 rfl (eD (aA rfl) tP (zs := [.lit (.int .i64 0), .lit (.int .i64 0)]) rfl rfl rfl rfl (es := [.lit (.int .i64 t12_0_1), .lit (.int .i64 t24_2_7)]) rfl) ?_
   refine cI rfl (dM (zs := [.lit (.int .i64 0), .lit (.int .i64 0)]) (aA rfl) Try.zeroValue112 rfl rfl) ?_
   rintro _ ⟨b11, rfl⟩
   refine tr1 rfl (cL (i := 1) rfl rfl rfl rfl rfl Try.sizeOf112 rfl (aA rfl) (Nat.le_of_ble_eq_true rfl) (ds' := (aP (aG.mk t12_0_1 t24_2_7))) rfl) ?_
   refine aI ?_
   refine aH ?_
   obtain ⟨r12, h13, h⟩ := bind_some h
   obtain ⟨r14, h15, h⟩ := bind_some h
   refine eS mix 11 [0, 1, 4, 11, 12, 23, 24] [(30, .d (.lit (yv ly))), (31, .agg (aP (aG.mk t12_0_1 t24_2_7))), (40, .agg (bY (bN.mk t12_0_1 t24_2_7 r12 r14)))] ?_ ?_
   ·refine ⟨[(30, 0, .d (.lit (yv ly))), (31, 1, .agg (aP (aG.mk t12_0_1 t24_2_7))), (32, 2, .d (.lit (.int .i64 t12_0_1))), (33, 3, .d (.lit (.int .i64 t24_2_7))), (34, 4, .cp [.lit (.int .i64 d_0.Tree.Rounds), .sl 1 (d_0.Tree.Slots.map aW), .sl 1 (d_0.players.map aW), .mp false (d_0.won.map fun p : aG × Int => ((fun a : aG => Value.agg ((aP a).map bW).toArray) p.1, aW p.2))]), (35, 5, .agg (aP (aG.mk t12_0_1 t24_2_7))), (36, 6, .d (.lit (.int .i64 r12))), (37, 7, .cp [.lit (.int .i64 d_0.Tree.Rounds), .sl 1 (d_0.Tree.Slots.map aW), .sl 1 (d_0.players.map aW), .mp false (d_0.won.map fun p : aG × Int => ((fun a : aG => Value.agg ((aP a).map bW).toArray) p.1, aW p.2))]), (38, 8, .agg (aP (aG.mk t12_0_1 t24_2_7))), (39, 9, .d (.lit (.int .i64 r14))), (40, 10, .agg (bY (bN.mk t12_0_1 t24_2_7 r12 r14)))], ?_, ?_⟩
    · exact ⟨by kernel_rfl, by kernel_rfl, by kernel_rfl, by kernel_rfl, by kernel_rfl, [([], []), ([], []), ([], []), ([], []), ([], []), ([], []), ([4, 5], []), ([], []), ([], []), ([7, 8], []), ([2, 3, 6, 9], [])], by kernel_rfl, ⟨fun S hS => aB rfl (aL rfl (aD (v := .d (.lit (yv ly))) (aA rfl) (aC hS rfl) rfl)),
      fun S hS => aB rfl (aL rfl (bO (aA rfl) (aC hS rfl) (i := 1) rfl iR (es := (aP (aG.mk t12_0_1 t24_2_7))) rfl rfl)),
      fun S hS => aB rfl (aL rfl (aD (v := .d (.lit (.int .i64 t12_0_1))) (aA rfl) (aC hS rfl) rfl)),
      fun S hS => aB rfl (aL rfl (aD (v := .d (.lit (.int .i64 t24_2_7))) (aA rfl) (aC hS rfl) rfl)),
      fun S hS => aB rfl (aL rfl (aD (v := .cp [.lit (.int .i64 d_0.Tree.Rounds), .sl 1 (d_0.Tree.Slots.map aW), .sl 1 (d_0.players.map aW), .mp false (d_0.won.map fun p : aG × Int => ((fun a : aG => Value.agg ((aP a).map bW).toArray) p.1, aW p.2))]) (aA rfl) (aC hS rfl) rfl)),
      fun S hS => aB rfl (aL rfl (bO (aA rfl) (aC hS rfl) (i := 1) rfl iR (es := (aP (aG.mk t12_0_1 t24_2_7))) rfl rfl)),
      fun S hS => aB rfl (aL rfl (cQ (aA rfl) (.func _ _ Try.call113) (ev2 (aC hS rfl) (ev2 (aC hS rfl) (ev2 rfl evn))) rfl (BVs.refl _ _) (rE _ _ _ h13) rfl)),
      fun S hS => aB rfl (aL rfl (aD (v := .cp [.lit (.int .i64 d_0.Tree.Rounds), .sl 1 (d_0.Tree.Slots.map aW), .sl 1 (d_0.players.map aW), .mp false (d_0.won.map fun p : aG × Int => ((fun a : aG => Value.agg ((aP a).map bW).toArray) p.1, aW p.2))]) (aA rfl) (aC hS rfl) rfl)),
      fun S hS => aB rfl (aL rfl (bO (aA rfl) (aC hS rfl) (i := 1) rfl iR (es := (aP (aG.mk t12_0_1 t24_2_7))) rfl rfl)),
      fun S hS => aB rfl (aL rfl (cQ (aA rfl) (.func _ _ Try.call113) (ev2 (aC hS rfl) (ev2 (aC hS rfl) (ev2 rfl evn))) rfl (BVs.refl _ _) (rE _ _ _ h15) rfl)),
      fun S hS => aB rfl (aL rfl (eD (aA rfl) aNt (zs := [.lit (.int .i64 0), .lit (.int .i64 0), .lit (.int .i64 0), .lit (.int .i64 0)]) rfl rfl rfl (pa2 (aC hS rfl) (pa2 (aC hS rfl) (pa2 (aC hS rfl) (pa2 (aC hS rfl) pan)))) (es := [.lit (.int .i64 t12_0_1), .lit (.int .i64 t24_2_7), .lit (.int .i64 r12), .lit (.int .i64 r14)]) rfl)), trivial⟩⟩
    · exact dB (aZ rfl (aZ rfl (aZ rfl (bC ⟨rfl, rfl, rfl, rfl, rfl, rfl, rfl, trivial⟩))))
   ·obtain ⟨y16, h17, h⟩ := bind_some h
    refine aKl rfl (aMw (aA rfl) rfl rfl rfl rfl (hy _ _ _ _ _ y8.2 h17)) ?_
    rintro _ ⟨m18, hj19, rfl⟩
    refine tr1 rfl (fE (aA rfl) rfl) ?_
    refine aI ?_
    refine cK rfl (fun c20 => ?_) (fun c20 => ?_)
    ·exact absurd c20 (by decide)
    ·refine fB ?_
     refine aE ?_
     refine tr1 rfl (cG (aA rfl) rfl rfl rfl) ?_
     refine tr1 rfl (aD (v := .d (.lit (.int .i64 ((w64 (t24_2_7 + 1)))))) (aA rfl) rfl rfl) ?_
     refine aI ?_
     exact ⟨(w64 (t24_2_7 + 1), ⟨(y16, m18), hj19⟩), h, bI [0] rfl rfl (aZ rfl (bC ⟨rfl, rfl, rfl, rfl, rfl, rfl, trivial⟩))⟩
  ·have h := bD c10 h
   refine dO ?_
   refine .inl ⟨rfl, ?_⟩
   simp only [iC] at h
   simp only [lW] at h
   refine aE ?_
   refine tr1 rfl (cG (aA rfl) rfl rfl rfl) ?_
   refine tr1 rfl (aD (v := .d (.lit (.int .i64 ((w64 (t12_0_1 + 1)))))) (aA rfl) rfl rfl) ?_
   refine aI ?_
   exact ⟨(w64 (t12_0_1 + 1), ⟨(y8.1.1, y8.1.2), y8.2⟩), h, bI [0] rfl rfl (aZ rfl (bC ⟨rfl, rfl, rfl, trivial⟩))⟩
 ·have h := bD c4 h
  refine dO ?_
  refine .inl ⟨rfl, ?_⟩
  simp only [lV] at h
  have h := Option.some.inj h
  subst h
  exact ⟨_, [y2.1.2], [], _, .none, .refl _, .same _, y2.1.2, y2.2, rfl⟩

theorem aBz (t_0 : aV) (l_1 : List aJ) {Q : ((List bN) × Int) → Prop} (h : nP t_0 l_1 Q) : fI Try.prog 75 [.agg (bS t_0), .d (.sl 5 (l_1.map aY))] [] (fun r' o' => ∃ (r : (List bN) × Int), Q r ∧ r' = .tup [.d (.sl 4 (r.1.map bY)), .d (.lit (.int .i64 r.2))] ∧ o' = []) := by
 unfold nP at h
 refine jA Try.func75 rfl (rs := [.tmp 4, .tmp 5]) Try.results75 Try.ntmps75 (Nat.le_of_ble_eq_true rfl) ?_
 refine aH ?_
 refine aE ?_
 refine cI rfl (eU (v := .agg (bS t_0)) (aA rfl) rfl rfl rfl) ?_
 rintro _ ⟨b1, rfl⟩
 refine tr1 rfl (kT 4 (aA rfl)) ?_
 refine tr1 rfl (aK (v := .d (.lit (.int .i64 0))) (aA rfl) rfl rfl) ?_
 refine aI ?_
 refine aH ?_
 refine aE ?_
 refine tr1 rfl (bO (aA rfl) rfl (i := 0) rfl kQ (es := (bS t_0)) rfl rfl) ?_
 refine tr1 rfl (aD (v := .d (.sl 5 (l_1.map aY))) (aA rfl) rfl rfl) ?_
 refine cI rfl (rV (aA rfl) (.func _ _ Try.call82) rfl rfl (rN _ _ h)) ?_
 rintro _ ⟨_, _, ⟨r2, h, rfl, rfl⟩, rfl⟩
 refine tr1 rfl (aD (v := .tup [dZ bV r2.1, .d (.lit (.int .i64 r2.2))]) (aA rfl) rfl rfl) ?_
 refine tr1 rfl (bZ (aA rfl) rfl rfl) ?_
 refine tr1 rfl (bZ (aA rfl) rfl rfl) ?_
 refine tr1 rfl (aK (v := dZ bV r2.1) (aA rfl) rfl rfl) ?_
 refine tr1 rfl (aK (v := .d (.lit (.int .i64 r2.2))) (aA rfl) rfl rfl) ?_
 refine aI ?_
 refine aH ?_
 refine aH ?_
 refine aE ?_
 refine tr1 rfl (aD (v := .d (.lit (.int .i64 r2.2))) (aA rfl) rfl rfl) ?_
 refine tr1 rfl (bP (aA rfl) rfl rfl rfl) ?_
 refine aI ?_
 refine cK rfl (fun c3 => ?_) (fun c3 => ?_)
 ·have h := gY c3 h
  refine aH ?_
  refine aE ?_
  refine tr1 rfl (aD (v := .d (.lit (.int .i64 r2.2))) (aA rfl) rfl rfl) ?_
  refine tr1 rfl (kT 4 (aA rfl)) ?_
  refine tr1 rfl (aK (v := .d (.lit (.int .i64 r2.2))) (aA rfl) rfl rfl) ?_
  refine aI ?_
  exact cB ⟨rfl, _, [], [.box b1 0 (bS t_0)], _, .two (.tmp 4 (v := .d (.sl 4 ((([] : List bN)).map bY))) rfl) (.tmp 5 (v := .d (.lit (.int .i64 r2.2))) rfl), .refl _, .same _, (([] : List bN), r2.2), h, rfl, rfl⟩
 ·have h := gX c3 h
  refine cF ?_
  refine aH ?_
  refine aE ?_
  refine cI rfl (dM (zs := [.lit (.slice none 0 0)]) (aA rfl) Try.zeroValue69 rfl rfl) ?_
  rintro _ ⟨b4, rfl⟩
  refine lB (wX 73 4) ?_
  refine aI ?_
  refine aH ?_
  refine aH ?_
  refine aE ?_
  refine tr1 rfl (aD (v := dZ bV r2.1) (aA rfl) rfl rfl) ?_
  obtain ⟨x5, h6, h⟩ := iA h
  refine lB (aMm (enc := bV) (k := 20) rfl h6) ?_
  refine tr1 rfl (aNr (aA rfl) rfl rfl) ?_
  refine aI ?_
  refine cW ?_
  obtain ⟨s7, h8, h⟩ := iA h
  refine rY ?_ aNq
  refine aLr (S := (List bN) × Value) (S0 := (List bN)) (f := 95) (ps := [22, 23]) (fun z11 => z11.1) (fun z11 => [.box b1 0 (bS t_0), .box b4 0 [.lit z11.2], .arr z11.2 73 4 (z11.1.map bY)]) (aNz (fun x12 : aG => .agg (aP x12)) (fun x13 : bN => .agg (bY x13)) _) (([] : List bN), (.slice none 0 0)) ([] : List bN) s7 (bI [0, 1, 2] rfl rfl (le_refl _)) rfl Try.call95 rfl (by decide) rfl rfl (fun l J hy m0 h0 => vQ (S := (List bN)) J l _ (fun _ _ _ _ _ hJ hq => hy _ _ _ _ hJ ⟨_, _, rfl, hq⟩) x5 _ m0 h0 h8) ?_ ?_
  ·rintro ⟨e9, w10⟩ _ _ ⟨x12, x13, rfl, h⟩
   refine ⟨rfl, ?_⟩
   refine aE ?_
   refine cI rfl (dM (zs := [.lit (.int .i64 0), .lit (.int .i64 0), .lit (.int .i64 0), .lit (.int .i64 0)]) (aA rfl) Try.zeroValue73 rfl rfl) ?_
   rintro _ ⟨b14, rfl⟩
   refine tr1 rfl (cL (i := 3) rfl rfl rfl rfl rfl Try.sizeOf73 rfl (aA rfl) (Nat.le_of_ble_eq_true rfl) (ds' := (bY x13)) rfl) ?_
   refine aI ?_
   refine cW ?_
   refine aE ?_
   refine tr1 rfl (aQ (aA rfl) rfl (i := 1) rfl rfl aKa) ?_
   refine tr1 rfl (bO (aA rfl) rfl (i := 3) rfl yN (es := (bY x13)) rfl rfl) ?_
   refine tr1 rfl (jJ (aA rfl) oI rfl rfl (rows := ([x13]).map bY) rfl (dT (f := bY) fun _ => rfl) rfl (by decide)) ?_
   obtain ⟨x15, h16, h⟩ := bind_some h
   refine cI rfl (mJ (i := 2) (aA rfl) oI rfl rfl rfl (fun _ => rfl) h16 rfl) ?_
   rintro _ ⟨v17, rfl⟩
   refine tr1 rfl (cL (i := 1) rfl rfl rfl rfl rfl Try.sizeOf69 rfl (aA rfl) (Nat.le_of_ble_eq_true rfl) (ds' := [.lit v17]) rfl) ?_
   refine lA ?_
   have h := Option.some.inj h
   subst h
   exact ⟨(x15, v17), rfl, bI [0, 1, 2] rfl rfl aNo⟩
  ·rintro ⟨e9, w10⟩ h18
   subst h18
   refine aH ?_
   refine aE ?_
   refine tr1 rfl (aQ (aA rfl) rfl (i := 1) rfl rfl aKa) ?_
   refine tr1 rfl (aK (v := .d (.lit w10)) (aA rfl) rfl rfl) ?_
   refine tr1 rfl (aK (v := .d (.lit (.int .i64 0))) (aA rfl) rfl rfl) ?_
   refine aI ?_
   exact cB ⟨rfl, _, [], [.box b1 0 (bS t_0), .box b4 0 [.lit w10], .arr w10 73 4 (e9.map bY)], _, .two (.tmp 4 (v := .d (.lit w10)) rfl) (.tmp 5 (v := .d (.lit (.int .i64 0))) rfl), .refl _, aJe (.cons (.d (jF 2 rfl (dT (f := bY) fun _ => rfl))) (.cons (.same _) .nil)), (e9, 0), h, rfl, rfl⟩

theorem rW (s_0 : List cX) (f_1 : cX → Option Bool) {r : Int} (f_1_f : Nat) (f_1_v : List AV) (f_1_e : ∀ args w, (callFunc f_1_f args).run Try.prog w = .ok (.enter f_1_f args) w) (f_1_h : ∀ (x0 : cX) r, f_1 x0 = some r → Fn Try.prog f_1_f ([.agg (cD x0)] ++ f_1_v) (.d (.lit (.bool r)))) (h : gD s_0 f_1 = some r) : Fn Try.prog 96 [.d (.sl 3 (s_0.map cD)), .fn f_1_f f_1_v] (.d (.lit (.int .i64 r))) := by
 unfold gD at h
 refine Fn.of_tr Try.func96 rfl (rs := [.tmp 4]) Try.results96 Try.ntmps96 (Nat.le_of_ble_eq_true rfl) ?_
 refine aH ?_
 refine aE ?_
 refine tr1 rfl (aK (v := .d (.lit (.int .i64 0))) (aA rfl) rfl rfl) ?_
 refine aI ?_
 refine aH ?_
 refine aH ?_
 refine aE ?_
 refine tr1 rfl (aD (v := .d (.sl 3 (s_0.map cD))) (aA rfl) rfl rfl) ?_
 refine tr1 rfl (dC (aA rfl) rfl mW.of) ?_
 refine tr1 rfl (aD (v := .d (.lit (.int .i64 0))) (aA rfl) rfl rfl) ?_
 refine aI ?_
 refine cW ?_
 refine dY [0, 1, 7] (fun (s1 : Int) => [(8, .d (.lit (.int .i64 s1)))]) (fun (s1 : Int) => []) (fun (k : Nat) (s1 : Int) => eH s_0 f_1 (s_0.length : Int) k s1) (fun _ => rfl) (0) h (bI [] rfl rfl (aZ rfl (bC ⟨rfl, rfl, rfl, trivial⟩))) ?_
 rintro k2 t8_0_1 h
 simp only [eH] at h
 refine aH ?_
 refine aE ?_
 refine tr1 rfl (bP (aA rfl) rfl rfl rfl) ?_
 refine aI ?_
 refine aH ?_
 refine cK rfl (fun c3 => ?_) (fun c3 => ?_)
 ·have h := bB c3 h
  refine cF ?_
  refine aH ?_
  refine cW ?_
  refine aH ?_
  refine aE ?_
  refine tr1 rfl (aD (v := .d (.lit (.int .i64 t8_0_1))) (aA rfl) rfl rfl) ?_
  refine tr1 rfl (aK (v := .d (.lit (.int .i64 t8_0_1))) (aA rfl) rfl rfl) ?_
  refine aI ?_
  refine aH ?_
  refine aE ?_
  refine tr1 rfl (aD (v := .fn f_1_f f_1_v) (aA rfl) rfl rfl) ?_
  refine tr1 rfl (aD (v := .d (.sl 3 (s_0.map cD))) (aA rfl) rfl rfl) ?_
  refine tr1 rfl (aD (v := .d (.lit (.int .i64 t8_0_1))) (aA rfl) rfl rfl) ?_
  obtain ⟨x4, h5, h⟩ := bind_some h
  refine tr1 rfl (bU (aA rfl) rfl rfl mW.of (cE cD h5)) ?_
  refine tr1 rfl (dE (aA rfl) rfl aNh (es := (cD x4)) rfl rfl) ?_
  obtain ⟨r6, h7, h⟩ := bind_some h
  refine tr1 rfl (cQ (aA rfl) (.clo _ _ _ _ f_1_e rfl) (yS rfl) rfl (BVs.refl _ _) (f_1_h _ _  h7) rfl) ?_
  refine aI ?_
  refine cK rfl (fun c8 => ?_) (fun c8 => ?_)
  ·have h := bB c8 h
   refine aH ?_
   refine aE ?_
   refine tr1 rfl (aD (v := .d (.lit (.int .i64 t8_0_1))) (aA rfl) rfl rfl) ?_
   refine tr1 rfl (aK (v := .d (.lit (.int .i64 t8_0_1))) (aA rfl) rfl rfl) ?_
   refine aI ?_
   have h := Option.some.inj h
   subst h
   exact cB ⟨rfl, _, .one _, rfl, rfl⟩
  ·have h := bD c8 h
   refine fB ?_
   refine aE ?_
   refine tr1 rfl (cG (aA rfl) rfl rfl rfl) ?_
   refine tr1 rfl (aD (v := .d (.lit (.int .i64 ((w64 (t8_0_1 + 1)))))) (aA rfl) rfl rfl) ?_
   refine aI ?_
   exact ⟨(w64 (t8_0_1 + 1)), h, bI [] rfl rfl (aZ rfl (bC ⟨rfl, rfl, rfl, trivial⟩))⟩
 ·have h := bD c3 h
  refine dO ?_
  refine .inl ⟨rfl, ?_⟩
  simp only [jP] at h
  refine aH ?_
  refine aE ?_
  refine tr1 rfl (aK (v := .d (.lit (.int .i64 (-1)))) (aA rfl) rfl rfl) ?_
  refine aI ?_
  have h := Option.some.inj h
  subst h
  exact cB ⟨rfl, _, .one _, rfl, rfl⟩

theorem qB (s_0 : List cX) (f_1 : cX → Option Bool) {r : Bool} (f_1_f : Nat) (f_1_v : List AV) (f_1_e : ∀ args w, (callFunc f_1_f args).run Try.prog w = .ok (.enter f_1_f args) w) (f_1_h : ∀ (x0 : cX) r, f_1 x0 = some r → Fn Try.prog f_1_f ([.agg (cD x0)] ++ f_1_v) (.d (.lit (.bool r)))) (h : fN s_0 f_1 = some r) : Fn Try.prog 76 [.d (.sl 3 (s_0.map cD)), .fn f_1_f f_1_v] (.d (.lit (.bool r))) := by
 unfold fN at h
 refine Fn.of_tr Try.func76 rfl (rs := [.tmp 4]) Try.results76 Try.ntmps76 (Nat.le_of_ble_eq_true rfl) ?_
 refine aH ?_
 refine aE ?_
 refine tr1 rfl (aK (v := .d (.lit (.bool false))) (aA rfl) rfl rfl) ?_
 refine aI ?_
 refine aH ?_
 refine aE ?_
 refine tr1 rfl (aD (v := .d (.sl 3 (s_0.map cD))) (aA rfl) rfl rfl) ?_
 refine tr1 rfl (aD (v := .fn f_1_f f_1_v) (aA rfl) rfl rfl) ?_
 obtain ⟨r1, h2, h⟩ := bind_some h
 refine tr1 rfl (cQ (aA rfl) (.func _ _ Try.call96) rfl rfl (BVs.refl _ _) (rW _ _ f_1_f f_1_v f_1_e f_1_h h2) rfl) ?_
 refine tr1 rfl (bP (aA rfl) rfl rfl rfl) ?_
 refine tr1 rfl (aK (v := .d (.lit (.bool ((decide (0 ≤ r1)))))) (aA rfl) rfl rfl) ?_
 refine aI ?_
 have h := Option.some.inj h
 subst h
 exact cB ⟨rfl, _, .one _, rfl, rfl⟩

theorem aEt (s_0 : cX) {r : Bool} (h : pC s_0 = some r) : Fn Try.prog 77 [.agg (cD s_0)] (.d (.lit (.bool r))) := by
 unfold pC at h
 refine Fn.of_tr Try.func77 rfl (rs := [.tmp 2]) Try.results77 Try.ntmps77 (Nat.le_of_ble_eq_true rfl) ?_
 refine aH ?_
 refine aE ?_
 refine cI rfl (eU (v := .agg (cD s_0)) (aA rfl) rfl rfl rfl) ?_
 rintro _ ⟨b1, rfl⟩
 refine tr1 rfl (aK (v := .d (.lit (.bool false))) (aA rfl) rfl rfl) ?_
 refine aI ?_
 refine aH ?_
 refine aE ?_
 refine tr1 rfl (aN (aA rfl) rfl pO) ?_
 refine tr1 rfl (bO (aA rfl) rfl (i := 0) rfl gM (es := (bA s_0.Length)) rfl rfl) ?_
 refine tr1 rfl (aN (aA rfl) rfl rP) ?_
 refine tr1 rfl (aQ (aA rfl) rfl (i := 0) rfl rfl bL) ?_
 obtain ⟨r2, h3, h⟩ := bind_some h
 refine tr1 rfl (cQ (aA rfl) (.func _ _ Try.call61) rfl rfl (BVs.refl _ _) (wL _ _ h3) rfl) ?_
 refine tr1 rfl (fE (aA rfl) rfl) ?_
 refine tr1 rfl (aK (v := .d (.lit (.bool (!r2)))) (aA rfl) rfl rfl) ?_
 refine aI ?_
 have h := Option.some.inj h
 subst h
 refine cT (cR (cU (l := [2]) ⟨rfl, trivial⟩)) ?_
 exact cB ⟨rfl, _, .one _, rfl, rfl⟩

theorem aFh (t_0 : aV) (l_1 : List aJ) (round_2 : Int) (place_3 : Int) {Q : ((Option bX) × aG × Int) → Prop} (h : nK t_0 l_1 round_2 place_3 Q) : fI Try.prog 83 [.agg (bS t_0), .d (.sl 5 (l_1.map aY)), .d (.lit (.int .i64 round_2)), .d (.lit (.int .i64 place_3))] [] (fun r' o' => ∃ (r : (Option bX) × aG × Int), Q r ∧ r' = .tup [dZ bV r.1, .agg (aP r.2.1), .d (.lit (.int .i64 r.2.2))] ∧ o' = []) := by
 unfold nK at h
 refine jA Try.func83 rfl (rs := [.tmp 8, .cell 9 112, .tmp 10]) Try.results83 Try.ntmps83 (Nat.le_of_ble_eq_true rfl) ?_
 refine aH ?_
 refine aE ?_
 refine cI rfl (eU (v := .agg (bS t_0)) (aA rfl) rfl rfl rfl) ?_
 rintro _ ⟨b1, rfl⟩
 refine tr1 rfl (aK (v := dZ bV (none : Option bX)) (aA rfl) rfl rfl) ?_
 refine cI rfl (dM (zs := [.lit (.int .i64 0), .lit (.int .i64 0)]) (aA rfl) Try.zeroValue112 rfl rfl) ?_
 rintro _ ⟨b2, rfl⟩
 refine tr1 rfl (aK (v := .d (.lit (.int .i64 0))) (aA rfl) rfl rfl) ?_
 refine aI ?_
 refine aH ?_
 refine aE ?_
 refine tr1 rfl (bO (aA rfl) rfl (i := 0) rfl kQ (es := (bS t_0)) rfl rfl) ?_
 refine tr1 rfl (aD (v := .d (.sl 5 (l_1.map aY))) (aA rfl) rfl rfl) ?_
 refine cI rfl (rV (aA rfl) (.func _ _ Try.call82) rfl rfl (rN _ _ h)) ?_
 rintro _ ⟨_, _, ⟨r3, h, rfl, rfl⟩, rfl⟩
 refine tr1 rfl (aD (v := .tup [dZ bV r3.1, .d (.lit (.int .i64 r3.2))]) (aA rfl) rfl rfl) ?_
 refine tr1 rfl (bZ (aA rfl) rfl rfl) ?_
 refine tr1 rfl (bZ (aA rfl) rfl rfl) ?_
 refine tr1 rfl (aK (v := dZ bV r3.1) (aA rfl) rfl rfl) ?_
 refine tr1 rfl (aK (v := .d (.lit (.int .i64 r3.2))) (aA rfl) rfl rfl) ?_
 refine aI ?_
 refine aH ?_
 refine aE ?_
 refine tr1 rfl (aD (v := .d (.lit (.int .i64 round_2))) (aA rfl) rfl rfl) ?_
 refine tr1 rfl (aD (v := .d (.lit (.int .i64 place_3))) (aA rfl) rfl rfl) ?_
 refine tr1 rfl (eD (aA rfl) tP (zs := [.lit (.int .i64 0), .lit (.int .i64 0)]) rfl rfl rfl rfl (es := [.lit (.int .i64 round_2), .lit (.int .i64 place_3)]) rfl) ?_
 refine cI rfl (dM (zs := [.lit (.int .i64 0), .lit (.int .i64 0)]) (aA rfl) Try.zeroValue112 rfl rfl) ?_
 rintro _ ⟨b4, rfl⟩
 refine tr1 rfl (cL (i := 2) rfl rfl rfl rfl rfl Try.sizeOf112 rfl (aA rfl) (Nat.le_of_ble_eq_true rfl) (ds' := (aP (aG.mk round_2 place_3))) rfl) ?_
 refine aI ?_
 refine aH ?_
 refine aH ?_
 refine aE ?_
 refine tr1 rfl (aD (v := .d (.lit (.int .i64 r3.2))) (aA rfl) rfl rfl) ?_
 refine tr1 rfl (bP (aA rfl) rfl rfl rfl) ?_
 refine tr1 rfl (aD (v := .d (.lit (.bool ((decide (r3.2 = 0)))))) (aA rfl) rfl rfl) ?_
 obtain ⟨b5, h6, h⟩ := iA h
 refine dD 5 [9, 11, 12, 13] 30 b5 ?_ ?_
 ·refine cA (decide (r3.2 = 0)) (fun c10 => ?_) (fun c10 => ?_)
  ·have h6 := bB c10 h6
   refine aU rfl rfl (aA rfl) rfl c10 (bO (aA rfl) rfl (i := 2) rfl iR (es := (aP (aG.mk round_2 place_3))) rfl rfl) ?_
   refine aU rfl rfl (aA rfl) rfl c10 (bO (aA rfl) rfl (i := 0) rfl kQ (es := (bS t_0)) rfl rfl) ?_
   obtain ⟨r11, h12, h6⟩ := bind_some h6
   refine aU rfl rfl (aA rfl) rfl c10 (cQ (aA rfl) (.func _ _ Try.call107) rfl rfl (BVs.refl _ _) (sF _ _ h12) rfl) ?_
   refine aU rfl rfl (aA rfl) rfl c10 (fE (aA rfl) rfl) ?_
   refine tr1 rfl (bR (v := .d (.lit (.bool (!r11)))) (aA rfl) rfl c10 rfl rfl) ?_
   have h6 := Option.some.inj h6
   subst h6
   refine aI (bT rfl ⟨rfl, rfl, rfl, rfl, trivial⟩ rfl)
  ·have h6 := bD c10 h6
   refine aX rfl rfl (aA rfl) rfl (aA rfl) rfl c10 ?_
   refine aX rfl rfl (aA rfl) rfl (aA rfl) rfl c10 ?_
   refine aX rfl rfl (aA rfl) rfl (aA rfl) rfl c10 ?_
   refine aX rfl rfl (aA rfl) rfl (aA rfl) rfl c10 ?_
   refine tr1 rfl (bQ (v := .d (.lit (.bool false))) (aA rfl) rfl c10 rfl rfl) ?_
   have h6 := Option.some.inj h6
   subst h6
   refine aI (bT rfl ⟨rfl, rfl, rfl, rfl, trivial⟩ rfl)
 ·refine aI ?_
  refine cK rfl (fun c7 => ?_) (fun c7 => ?_)
  ·have h := gY c7 h
   refine aE ?_
   refine tr1 rfl (aK (v := .d (.lit (.int .i64 1))) (aA rfl) rfl rfl) ?_
   refine aI ?_
   refine aH ?_
   refine gI mix 5 [9] (fun X8 => [(8, dZ bV r3.1), (33, .d (.lit (.int .i64 1)))]) (fun X8 => [.box b1 0 (bS t_0), .box b2 0 (aP (aG.mk round_2 place_3)), .box b4 0 (aP (aG.mk round_2 place_3))]) ?_ ?_
   ·refine ⟨0, fun X8 => [(31, 0, dZ bV r3.1), (32, 1, .agg (aP (aG.mk round_2 place_3))), (33, 2, .d (.lit (.int .i64 1))), (8, 3, dZ bV r3.1)], fun X8 => [([], .box b1 0 (bS t_0)), ([(4, .box b2 0 (aP (aG.mk round_2 place_3)))], .box b2 0 (aP (aG.mk 0 0))), ([], .box b4 0 (aP (aG.mk round_2 place_3)))], ?_, ?_⟩
    · exact ⟨by kernel_rfl, by kernel_rfl, by kernel_rfl, fun _ => by kernel_rfl, fun _ => by kernel_rfl, fun _ => by kernel_rfl, fun _ => rfl, [([], [4]), ([], [4]), ([], []), ([0], [4]), ([1], [])], by kernel_rfl, ⟨fun X8 S hw hi hS => bE (X := X8) rfl (hw X8) rfl (aL rfl (aD (v := dZ bV r3.1) (aA rfl) (aC hS rfl) rfl)),
      fun X8 S hw hi hS => bE (X := X8) rfl (hw X8) rfl (aL rfl (bO (aA rfl) (aC hS rfl) (i := 2) (og hS rfl rfl) iR (es := (aP (aG.mk round_2 place_3))) rfl rfl)),
      fun X8 S hw hi hS => bE (X := X8) rfl (hw X8) rfl (aL rfl (aD (v := .d (.lit (.int .i64 1))) (aA rfl) (aC hS rfl) rfl)),
      fun X8 S hw hi hS => bE (X := X8) rfl (hw X8) rfl (aL rfl (aK (v := dZ bV r3.1) (aA rfl) (aC hS rfl) rfl)),
      fun X8 S hw hi hS => wR (X := X8) hS rfl rfl rfl (p := 1) rfl rfl (aL rfl (cL (i := 1) (aC hS rfl) (og hS rfl rfl) (aC hS rfl) rfl rfl Try.sizeOf112 rfl (aA rfl) (Nat.le_of_ble_eq_true rfl) (ds' := (aP (aG.mk round_2 place_3))) rfl)), trivial⟩⟩
    · exact fun X8 => dB (aZ rfl (aZ rfl (bC ⟨rfl, trivial⟩)))
   ·intro X8
    refine tr1 rfl (aK (v := .d (.lit (.int .i64 1))) (aA rfl) rfl rfl) ?_
    refine aI ?_
    exact cB ⟨rfl, _, [], [.box b1 0 (bS t_0), .box b2 0 (aP (aG.mk round_2 place_3)), .box b4 0 (aP (aG.mk round_2 place_3))], _, .three (.tmp 8 (v := dZ bV r3.1) rfl) (.cell 9 112 rfl (i := 1) rfl iR (es := (aP (aG.mk round_2 place_3))) rfl rfl) (.tmp 10 (v := .d (.lit (.int .i64 1))) rfl), .refl _, .same _, (r3.1, (aG.mk round_2 place_3), 1), h, rfl, rfl⟩
  ·have h := gX c7 h
   refine cF ?_
   refine aH ?_
   refine gI mix 5 [9] (fun X9 => [(8, dZ bV r3.1), (33, .d (.lit (.int .i64 r3.2)))]) (fun X9 => [.box b1 0 (bS t_0), .box b2 0 (aP (aG.mk round_2 place_3)), .box b4 0 (aP (aG.mk round_2 place_3))]) ?_ ?_
   ·refine ⟨0, fun X9 => [(31, 0, dZ bV r3.1), (32, 1, .agg (aP (aG.mk round_2 place_3))), (33, 2, .d (.lit (.int .i64 r3.2))), (8, 3, dZ bV r3.1)], fun X9 => [([], .box b1 0 (bS t_0)), ([(4, .box b2 0 (aP (aG.mk round_2 place_3)))], .box b2 0 (aP (aG.mk 0 0))), ([], .box b4 0 (aP (aG.mk round_2 place_3)))], ?_, ?_⟩
    · exact ⟨by kernel_rfl, by kernel_rfl, by kernel_rfl, fun _ => by kernel_rfl, fun _ => by kernel_rfl, fun _ => by kernel_rfl, fun _ => rfl, [([], [4]), ([], [4]), ([], []), ([0], [4]), ([1], [])], by kernel_rfl, ⟨fun X9 S hw hi hS => bE (X := X9) rfl (hw X9) rfl (aL rfl (aD (v := dZ bV r3.1) (aA rfl) (aC hS rfl) rfl)),
      fun X9 S hw hi hS => bE (X := X9) rfl (hw X9) rfl (aL rfl (bO (aA rfl) (aC hS rfl) (i := 2) (og hS rfl rfl) iR (es := (aP (aG.mk round_2 place_3))) rfl rfl)),
      fun X9 S hw hi hS => bE (X := X9) rfl (hw X9) rfl (aL rfl (aD (v := .d (.lit (.int .i64 r3.2))) (aA rfl) (aC hS rfl) rfl)),
      fun X9 S hw hi hS => bE (X := X9) rfl (hw X9) rfl (aL rfl (aK (v := dZ bV r3.1) (aA rfl) (aC hS rfl) rfl)),
      fun X9 S hw hi hS => wR (X := X9) hS rfl rfl rfl (p := 1) rfl rfl (aL rfl (cL (i := 1) (aC hS rfl) (og hS rfl rfl) (aC hS rfl) rfl rfl Try.sizeOf112 rfl (aA rfl) (Nat.le_of_ble_eq_true rfl) (ds' := (aP (aG.mk round_2 place_3))) rfl)), trivial⟩⟩
    · exact fun X9 => dB (aZ rfl (aZ rfl (bC ⟨rfl, trivial⟩)))
   ·intro X9
    refine tr1 rfl (aK (v := .d (.lit (.int .i64 r3.2))) (aA rfl) rfl rfl) ?_
    refine aI ?_
    exact cB ⟨rfl, _, [], [.box b1 0 (bS t_0), .box b2 0 (aP (aG.mk round_2 place_3)), .box b4 0 (aP (aG.mk round_2 place_3))], _, .three (.tmp 8 (v := dZ bV r3.1) rfl) (.cell 9 112 rfl (i := 1) rfl iR (es := (aP (aG.mk round_2 place_3))) rfl rfl) (.tmp 10 (v := .d (.lit (.int .i64 r3.2))) rfl), .refl _, .same _, (r3.1, (aG.mk round_2 place_3), r3.2), h, rfl, rfl⟩

theorem aBa (t_0 : aV) (l_1 : List aJ) (round_2 : Int) (place_3 : Int) {Q : (Int × Int) → Prop} (h : mX t_0 l_1 round_2 place_3 Q) : fI Try.prog 45 [.agg (bS t_0), .d (.sl 5 (l_1.map aY)), .d (.lit (.int .i64 round_2)), .d (.lit (.int .i64 place_3))] [] (fun r' o' => ∃ (r : Int × Int), Q r ∧ r' = .tup [.d (.lit (.int .i64 r.1)), .d (.lit (.int .i64 r.2))] ∧ o' = []) := by
 unfold mX at h
 refine jA Try.func45 rfl (rs := [.tmp 8, .tmp 9]) Try.results45 Try.ntmps45 (Nat.le_of_ble_eq_true rfl) ?_
 refine aH ?_
 refine aE ?_
 refine cI rfl (eU (v := .agg (bS t_0)) (aA rfl) rfl rfl rfl) ?_
 rintro _ ⟨b1, rfl⟩
 refine tr1 rfl (aK (v := .d (.lit (.int .i64 0))) (aA rfl) rfl rfl) ?_
 refine tr1 rfl (aK (v := .d (.lit (.int .i64 0))) (aA rfl) rfl rfl) ?_
 refine aI ?_
 refine aH ?_
 refine aE ?_
 refine tr1 rfl (bO (aA rfl) rfl (i := 0) rfl kQ (es := (bS t_0)) rfl rfl) ?_
 refine tr1 rfl (aD (v := .d (.sl 5 (l_1.map aY))) (aA rfl) rfl rfl) ?_
 refine tr1 rfl (aD (v := .d (.lit (.int .i64 round_2))) (aA rfl) rfl rfl) ?_
 refine tr1 rfl (aD (v := .d (.lit (.int .i64 place_3))) (aA rfl) rfl rfl) ?_
 refine cI rfl (rV (aA rfl) (.func _ _ Try.call83) rfl rfl (aFh _ _ _ _ h)) ?_
 rintro _ ⟨_, _, ⟨r2, h, rfl, rfl⟩, rfl⟩
 refine tr1 rfl (aD (v := .tup [dZ bV r2.1, .agg (aP r2.2.1), .d (.lit (.int .i64 r2.2.2))]) (aA rfl) rfl rfl) ?_
 refine tr1 rfl (bZ (aA rfl) rfl rfl) ?_
 refine tr1 rfl (bZ (aA rfl) rfl rfl) ?_
 refine tr1 rfl (bZ (aA rfl) rfl rfl) ?_
 refine cI rfl (dM (zs := [.lit (.int .i64 0), .lit (.int .i64 0)]) (aA rfl) Try.zeroValue112 rfl rfl) ?_
 rintro _ ⟨b3, rfl⟩
 refine tr1 rfl (aK (v := dZ bV r2.1) (aA rfl) rfl rfl) ?_
 refine tr1 rfl (cL (i := 1) rfl rfl rfl rfl rfl Try.sizeOf112 rfl (aA rfl) (Nat.le_of_ble_eq_true rfl) (ds' := (aP r2.2.1)) rfl) ?_
 refine tr1 rfl (aK (v := .d (.lit (.int .i64 r2.2.2))) (aA rfl) rfl rfl) ?_
 refine aI ?_
 refine aH ?_
 refine aH ?_
 refine aE ?_
 refine tr1 rfl (aD (v := .d (.lit (.int .i64 r2.2.2))) (aA rfl) rfl rfl) ?_
 refine tr1 rfl (bP (aA rfl) rfl rfl rfl) ?_
 refine aI ?_
 refine cK rfl (fun c4 => ?_) (fun c4 => ?_)
 ·have h := gY c4 h
  refine aH ?_
  refine aE ?_
  refine tr1 rfl (aD (v := .d (.lit (.int .i64 r2.2.2))) (aA rfl) rfl rfl) ?_
  refine tr1 rfl (aK (v := .d (.lit (.int .i64 0))) (aA rfl) rfl rfl) ?_
  refine tr1 rfl (aK (v := .d (.lit (.int .i64 r2.2.2))) (aA rfl) rfl rfl) ?_
  refine aI ?_
  exact cB ⟨rfl, _, [], [.box b1 0 (bS t_0), .box b3 0 (aP r2.2.1)], _, .two (.tmp 8 (v := .d (.lit (.int .i64 0))) rfl) (.tmp 9 (v := .d (.lit (.int .i64 r2.2.2))) rfl), .refl _, .same _, (0, r2.2.2), h, rfl, rfl⟩
 ·have h := gX c4 h
  refine cF ?_
  refine aH ?_
  obtain ⟨x5, h6, h⟩ := iA h
  refine eS mix 10 [] [(13, .d (.lit (.int .i64 ((cZ r2.2.1 0 x5.won))))), (35, .d (.lit (.bool ((dU r2.2.1 x5.won)))))] ?_ ?_
  ·refine ⟨[(28, 0, dZ bV r2.1), (29, 1, .cp [.lit (.int .i64 x5.Tree.Rounds), .sl 1 (x5.Tree.Slots.map aW), .sl 1 (x5.players.map aW), .mp false (x5.won.map fun p : aG × Int => ((fun a : aG => Value.agg ((aP a).map bW).toArray) p.1, aW p.2))]), (30, 2, .cp [.mp false (x5.won.map fun p : aG × Int => ((fun a : aG => Value.agg ((aP a).map bW).toArray) p.1, aW p.2))]), (31, 3, .d (.mp false (x5.won.map fun p : aG × Int => ((fun a : aG => Value.agg ((aP a).map bW).toArray) p.1, aW p.2)))), (32, 4, .agg (aP r2.2.1)), (33, 5, .tup [.d (.lit (.int .i64 ((cZ r2.2.1 0 x5.won)))), .d (.lit (.bool ((dU r2.2.1 x5.won))))]), (27, 6, .tup [.d (.lit (.int .i64 ((cZ r2.2.1 0 x5.won)))), .d (.lit (.bool ((dU r2.2.1 x5.won))))]), (34, 7, .d (.lit (.int .i64 ((cZ r2.2.1 0 x5.won))))), (35, 8, .d (.lit (.bool ((dU r2.2.1 x5.won))))), (13, 9, .d (.lit (.int .i64 ((cZ r2.2.1 0 x5.won)))))], ?_, ?_⟩
   · exact ⟨by kernel_rfl, by kernel_rfl, by kernel_rfl, by kernel_rfl, by kernel_rfl, [([], []), ([0], []), ([1], []), ([2], []), ([], []), ([3, 4], []), ([5], []), ([6], []), ([6], []), ([7], [])], by kernel_rfl, ⟨fun S hS => aB rfl (aL rfl (aD (v := dZ bV r2.1) (aA rfl) (aC hS rfl) rfl)),
      fun S hS => aB rfl (aL rfl (aGx (enc := bV) (aA rfl) (aC hS rfl) h6)),
      fun S hS => aB rfl (aL rfl (cC (aA rfl) (aC hS rfl) uY (es := [.mp false (x5.won.map fun p : aG × Int => ((fun a : aG => Value.agg ((aP a).map bW).toArray) p.1, aW p.2))]) rfl)),
      fun S hS => aB rfl (aL rfl (cJ (aA rfl) (aC hS rfl) aAg)),
      fun S hS => aB rfl (aL rfl (bO (aA rfl) (aC hS rfl) (i := 1) rfl iR (es := (aP r2.2.1)) rfl rfl)),
      fun S hS => aB rfl (aL rfl (yE (enc := aW) (agg := false) (l := x5.won) (z := 0) (a := r2.2.1) (aA rfl) tO Try.underlying116 Try.zeroValue3 (fun _ _ => .d (.lit _ rfl)) (aC hS rfl) rfl rfl (aC hS rfl) (jN (enc := aP) r2.2.1 rfl))),
      fun S hS => aB rfl (aL rfl (aD (v := .tup [.d (.lit (.int .i64 ((cZ r2.2.1 0 x5.won)))), .d (.lit (.bool ((dU r2.2.1 x5.won))))]) (aA rfl) (aC hS rfl) rfl)),
      fun S hS => aB rfl (aL rfl (bZ (aA rfl) (aC hS rfl) rfl)),
      fun S hS => aB rfl (aL rfl (bZ (aA rfl) (aC hS rfl) rfl)),
      fun S hS => aB rfl (aL rfl (aK (v := .d (.lit (.int .i64 ((cZ r2.2.1 0 x5.won))))) (aA rfl) (aC hS rfl) rfl)), trivial⟩⟩
   · exact dB (aZ rfl (aZ rfl (bC trivial)))
  ·refine tr1 rfl (aK (v := .d (.lit (.bool ((dU r2.2.1 x5.won))))) (aA rfl) rfl rfl) ?_
   refine aI ?_
   refine aH ?_
   refine aH ?_
   refine aE ?_
   refine tr1 rfl (aD (v := .d (.lit (.bool ((dU r2.2.1 x5.won))))) (aA rfl) rfl rfl) ?_
   refine tr1 rfl (fE (aA rfl) rfl) ?_
   refine aI ?_
   refine cK rfl (fun c7 => ?_) (fun c7 => ?_)
   ·have h := gY c7 h
    refine aH ?_
    refine aE ?_
    refine tr1 rfl (aK (v := .d (.lit (.int .i64 0))) (aA rfl) rfl rfl) ?_
    refine tr1 rfl (aK (v := .d (.lit (.int .i64 3))) (aA rfl) rfl rfl) ?_
    refine aI ?_
    exact cB ⟨rfl, _, [], [.box b1 0 (bS t_0), .box b3 0 (aP r2.2.1)], _, .two (.tmp 8 (v := .d (.lit (.int .i64 0))) rfl) (.tmp 9 (v := .d (.lit (.int .i64 3))) rfl), .refl _, .same _, (0, 3), h, rfl, rfl⟩
   ·have h := gX c7 h
    refine cF ?_
    refine aH ?_
    refine aE ?_
    refine tr1 rfl (aD (v := .d (.lit (.int .i64 ((cZ r2.2.1 0 x5.won))))) (aA rfl) rfl rfl) ?_
    refine tr1 rfl (aK (v := .d (.lit (.int .i64 ((cZ r2.2.1 0 x5.won))))) (aA rfl) rfl rfl) ?_
    refine tr1 rfl (aK (v := .d (.lit (.int .i64 0))) (aA rfl) rfl rfl) ?_
    refine aI ?_
    exact cB ⟨rfl, _, [], [.box b1 0 (bS t_0), .box b3 0 (aP r2.2.1)], _, .two (.tmp 8 (v := .d (.lit (.int .i64 ((cZ r2.2.1 0 x5.won))))) rfl) (.tmp 9 (v := .d (.lit (.int .i64 0))) rfl), .refl _, .same _, (cZ r2.2.1 0 x5.won, 0), h, rfl, rfl⟩

theorem aCa (a0 : aV) (a1 : List aJ) {r : (List bN) × Int} (h : mB a0 a1 = some r) : Fn Try.prog 75 [.agg (bS a0), .d (.sl 5 (a1.map aY))] ((fun x : (List bN) × Int => .tup [.d (.sl 4 (x.1.map bY)), .d (.lit (.int .i64 x.2))]) r) := aBh (enc := fun x : (List bN) × Int => .tup [.d (.sl 4 (x.1.map bY)), .d (.lit (.int .i64 x.2))]) (aBz a0 a1 (aAm a0 a1 h (fun x => x = r) rfl))

theorem tV (a0 : aV) (a1 : List aJ) (a2 : Int) (a3 : Int) {r : Int × Int} (h : jX a0 a1 a2 a3 = some r) : Fn Try.prog 45 [.agg (bS a0), .d (.sl 5 (a1.map aY)), .d (.lit (.int .i64 a2)), .d (.lit (.int .i64 a3))] ((fun x : Int × Int => .tup [.d (.lit (.int .i64 x.1)), .d (.lit (.int .i64 x.2))]) r) := aBh (enc := fun x : Int × Int => .tup [.d (.lit (.int .i64 x.1)), .d (.lit (.int .i64 x.2))]) (aBa a0 a1 a2 a3 (yQ a0 a1 a2 a3 h (fun x => x = r) rfl))

theorem aAy (t_0 : aV) (l_1 : List aJ) (stages_2 : List cX) {r : (List cS) × (List bN) × Int} (h : kX t_0 l_1 stages_2 = some r) : Fn Try.prog 42 [.agg (bS t_0), .d (.sl 5 (l_1.map aY)), .d (.sl 3 (stages_2.map cD))] (.tup [.d (.sl 6 (r.1.map aT)), .d (.sl 4 (r.2.1.map bY)), .d (.lit (.int .i64 r.2.2))]) := by
 unfold kX at h
 refine Fn.of_tr Try.func42 rfl (rs := [.tmp 6, .tmp 7, .tmp 8]) Try.results42 Try.ntmps42 (Nat.le_of_ble_eq_true rfl) ?_
 refine aH ?_
 refine aE ?_
 refine cI rfl (eU (v := .agg (bS t_0)) (aA rfl) rfl rfl rfl) ?_
 rintro _ ⟨b1, rfl⟩
 refine tr1 rfl (kT 6 (aA rfl)) ?_
 refine tr1 rfl (kT 4 (aA rfl)) ?_
 refine tr1 rfl (aK (v := .d (.lit (.int .i64 0))) (aA rfl) rfl rfl) ?_
 refine aI ?_
 refine aH ?_
 refine aE ?_
 refine tr1 rfl (bO (aA rfl) rfl (i := 0) rfl kQ (es := (bS t_0)) rfl rfl) ?_
 refine tr1 rfl (aD (v := .d (.sl 5 (l_1.map aY))) (aA rfl) rfl rfl) ?_
 obtain ⟨r2, h3, h⟩ := bind_some h
 refine tr1 rfl (iX (aA rfl) (.func _ _ Try.call75) rfl rfl (aCa _ _ h3)) ?_
 refine tr1 rfl (aD (v := .tup [.d (.sl 4 (r2.1.map bY)), .d (.lit (.int .i64 r2.2))]) (aA rfl) rfl rfl) ?_
 refine tr1 rfl (bZ (aA rfl) rfl rfl) ?_
 refine tr1 rfl (bZ (aA rfl) rfl rfl) ?_
 refine tr1 rfl (aK (v := .d (.sl 4 (r2.1.map bY))) (aA rfl) rfl rfl) ?_
 refine tr1 rfl (aK (v := .d (.lit (.int .i64 r2.2))) (aA rfl) rfl rfl) ?_
 refine aI ?_
 refine aH ?_
 refine aH ?_
 refine aE ?_
 refine tr1 rfl (aD (v := .d (.lit (.int .i64 r2.2))) (aA rfl) rfl rfl) ?_
 refine tr1 rfl (bP (aA rfl) rfl rfl rfl) ?_
 refine aI ?_
 refine cK rfl (fun c4 => ?_) (fun c4 => ?_)
 ·have h := bB c4 h
  refine aH ?_
  refine aE ?_
  refine tr1 rfl (aD (v := .d (.lit (.int .i64 r2.2))) (aA rfl) rfl rfl) ?_
  refine tr1 rfl (kT 6 (aA rfl)) ?_
  refine tr1 rfl (kT 4 (aA rfl)) ?_
  refine tr1 rfl (aK (v := .d (.lit (.int .i64 r2.2))) (aA rfl) rfl rfl) ?_
  refine aI ?_
  have h := Option.some.inj h
  subst h
  refine cT (cR (cU (l := [6, 7, 8]) ⟨rfl, rfl, rfl, trivial⟩)) ?_
  exact cB ⟨rfl, _, .three _ _ _, rfl, rfl⟩
 ·have h := bD c4 h
  refine cF ?_
  refine aH ?_
  refine aH ?_
  refine aE ?_
  refine tr1 rfl (aD (v := .d (.sl 3 (stages_2.map cD))) (aA rfl) rfl rfl) ?_
  refine tr1 rfl (dC (aA rfl) rfl mW.of) ?_
  refine tr1 rfl (aN (aA rfl) rfl jG) ?_
  refine tr1 rfl (aQ (aA rfl) rfl (i := 0) rfl rfl bL) ?_
  refine tr1 rfl (bP (aA rfl) rfl rfl rfl) ?_
  refine tr1 rfl (aD (v := .d (.lit (.bool ((!decide ((stages_2.length : Int) = t_0.Rounds)))))) (aA rfl) rfl rfl) ?_
  obtain ⟨b5, h6, h⟩ := bind_some h
  refine dD 3 [1, 2, 3, 9] 37 b5 ?_ ?_
  ·refine cA (!decide ((stages_2.length : Int) = t_0.Rounds)) (fun c47 => ?_) (fun c47 => ?_)
   ·have h6 := bB c47 h6
    refine aX rfl rfl (aA rfl) rfl (aA rfl) rfl c47 ?_
    refine aX rfl rfl (aA rfl) rfl (aA rfl) rfl c47 ?_
    refine tr1 rfl (bR (v := .d (.lit (.bool true))) (aA rfl) rfl c47 rfl rfl) ?_
    have h6 := Option.some.inj h6
    subst h6
    refine aI (bT rfl ⟨rfl, rfl, rfl, rfl, trivial⟩ rfl)
   ·have h6 := bD c47 h6
    refine aU rfl rfl (aA rfl) rfl c47 (aD (v := .d (.sl 3 (stages_2.map cD))) (aA rfl) rfl rfl) ?_
    obtain ⟨r49, h50, h6⟩ := bind_some h6
    refine aU rfl rfl (aA rfl) rfl c47 (cQ (aA rfl) (.func _ _ Try.call76) rfl rfl (BVs.refl _ _) (qB _ _ 77 [] Try.call77 (fun _ _ h6 => aEt _ h6) h50) rfl) ?_
    refine tr1 rfl (bQ (v := .d (.lit (.bool r49))) (aA rfl) rfl c47 rfl rfl) ?_
    have h6 := Option.some.inj h6
    subst h6
    refine aI (bT rfl ⟨rfl, rfl, rfl, rfl, trivial⟩ rfl)
  ·refine aI ?_
   refine cK rfl (fun c7 => ?_) (fun c7 => ?_)
   ·have h := bB c7 h
    refine aH ?_
    refine aE ?_
    refine tr1 rfl (kT 6 (aA rfl)) ?_
    refine tr1 rfl (kT 4 (aA rfl)) ?_
    refine tr1 rfl (aK (v := .d (.lit (.int .i64 82))) (aA rfl) rfl rfl) ?_
    refine aI ?_
    have h := Option.some.inj h
    subst h
    refine cT (cR (cU (l := [6, 7, 8]) ⟨rfl, rfl, rfl, trivial⟩)) ?_
    exact cB ⟨rfl, _, .three _ _ _, rfl, rfl⟩
   ·have h := bD c7 h
    refine cF ?_
    refine aH ?_
    refine aE ?_
    refine tr1 rfl (jO 36 6 (.inl rfl) (aA rfl)) ?_
    refine aI ?_
    refine aH ?_
    refine aE ?_
    refine tr1 rfl (jO 73 4 (.inl rfl) (aA rfl)) ?_
    refine aI ?_
    refine aH ?_
    refine aH ?_
    refine aE ?_
    refine tr1 rfl (aD (v := .d (.sl 4 (r2.1.map bY))) (aA rfl) rfl rfl) ?_
    refine tr1 rfl (dC (aA rfl) rfl oI.of) ?_
    refine tr1 rfl (aD (v := .d (.lit (.int .i64 0))) (aA rfl) rfl rfl) ?_
    refine aI ?_
    refine cW ?_
    refine dY [1, 2, 3, 38, 39] (fun (s10 : Int × (List cS) × (List bN) × Value × Value) => [(11, .d (.lit s10.2.2.2.1)), (12, .d (.lit s10.2.2.2.2)), (40, .d (.lit (.int .i64 s10.1)))]) (fun (s10 : Int × (List cS) × (List bN) × Value × Value) => [.box b1 0 (bS t_0), .arr s10.2.2.2.1 36 6 (s10.2.1.map aT), .arr s10.2.2.2.2 73 4 (s10.2.2.1.map bY)]) (fun (k : Nat) (s10 : Int × (List cS) × (List bN) × Value × Value) => gC l_1 stages_2 r2.1 (r2.1.length : Int) t_0 k s10.1 s10.2.1 s10.2.2.1) (fun _ => rfl) (0, ([] : List cS), ([] : List bN), (.slice none 0 0), (.slice none 0 0)) h (bI [0, 1, 2] rfl rfl (aZ rfl (aZ rfl (aZ rfl (bC ⟨rfl, rfl, rfl, rfl, rfl, trivial⟩))))) ?_
    rintro k13 ⟨t40_0_10, jobs_0_10, bouts_0_10, w11, w12⟩ h
    simp only [gC] at h
    refine aH ?_
    refine aE ?_
    refine tr1 rfl (bP (aA rfl) rfl rfl rfl) ?_
    refine aI ?_
    refine aH ?_
    refine cK rfl (fun c14 => ?_) (fun c14 => ?_)
    ·have h := bB c14 h
     refine cF ?_
     refine aH ?_
     refine cW ?_
     refine aH ?_
     refine aE ?_
     obtain ⟨x15, h16, h⟩ := bind_some h
     refine tr1 rfl (bU (aA rfl) rfl rfl oI.of (cE bY h16)) ?_
     refine tr1 rfl (dE (aA rfl) rfl yN (es := (bY x15)) rfl rfl) ?_
     refine cI rfl (dM (zs := [.lit (.int .i64 0), .lit (.int .i64 0), .lit (.int .i64 0), .lit (.int .i64 0)]) (aA rfl) Try.zeroValue73 rfl rfl) ?_
     rintro _ ⟨b17, rfl⟩
     refine tr1 rfl (cL (i := 3) rfl rfl rfl rfl rfl Try.sizeOf73 rfl (aA rfl) (Nat.le_of_ble_eq_true rfl) (ds' := (bY x15)) rfl) ?_
     refine aI ?_
     refine aH ?_
     refine aH ?_
     refine aE ?_
     refine tr1 rfl (bO (aA rfl) rfl (i := 0) rfl kQ (es := (bS t_0)) rfl rfl) ?_
     refine tr1 rfl (aD (v := .d (.sl 5 (l_1.map aY))) (aA rfl) rfl rfl) ?_
     refine tr1 rfl (aN (aA rfl) rfl dW) ?_
     refine tr1 rfl (aQ (aA rfl) rfl (i := 3) rfl rfl bL) ?_
     refine tr1 rfl (aN (aA rfl) rfl rO) ?_
     refine tr1 rfl (aQ (aA rfl) rfl (i := 3) rfl rfl bL) ?_
     obtain ⟨r18, h19, h⟩ := bind_some h
     refine tr1 rfl (cQ (aA rfl) (.func _ _ Try.call45) rfl rfl (BVs.refl _ _) (tV _ _ _ _ h19) rfl) ?_
     refine tr1 rfl (aD (v := .tup [.d (.lit (.int .i64 r18.1)), .d (.lit (.int .i64 r18.2))]) (aA rfl) rfl rfl) ?_
     refine tr1 rfl (bZ (aA rfl) rfl rfl) ?_
     refine tr1 rfl (bZ (aA rfl) rfl rfl) ?_
     refine tr1 rfl (aK (v := .d (.lit (.int .i64 r18.1))) (aA rfl) rfl rfl) ?_
     refine tr1 rfl (aK (v := .d (.lit (.int .i64 r18.2))) (aA rfl) rfl rfl) ?_
     refine aI ?_
     refine aH ?_
     refine aE ?_
     refine tr1 rfl (aD (v := .d (.lit (.int .i64 r18.2))) (aA rfl) rfl rfl) ?_
     refine tr1 rfl (bP (aA rfl) rfl rfl rfl) ?_
     refine aI ?_
     refine cK rfl (fun c20 => ?_) (fun c20 => ?_)
     ·have h := bB c20 h
      refine dO ?_
      refine .inl ⟨rfl, ?_⟩
      simp only [nA] at h
      refine aE ?_
      refine tr1 rfl (cG (aA rfl) rfl rfl rfl) ?_
      refine tr1 rfl (aD (v := .d (.lit (.int .i64 ((w64 (t40_0_10 + 1)))))) (aA rfl) rfl rfl) ?_
      refine aI ?_
      exact ⟨(w64 (t40_0_10 + 1), jobs_0_10, bouts_0_10, w11, w12), h, bI [0, 1, 2] rfl rfl (aZ rfl (aZ rfl (aZ rfl (bC ⟨rfl, rfl, rfl, rfl, rfl, trivial⟩))))⟩
     ·have h := bD c20 h
      refine cF ?_
      refine aH ?_
      obtain ⟨x22, h23, h⟩ := bind_some h
      obtain ⟨x24, h25, h⟩ := bind_some h
      refine gI mix 14 [1, 2, 3, 11, 12, 14, 38, 39, 40] (fun X21 => [(17, .bp (X21 13).b 0 0), (68, .agg [.lit (.int .i64 x22.Length.Low), .lit (.int .i64 x22.Length.High), .lit (.slice none 0 0), .sl 1 ((([] : List Int)).map aW), .lit (.int .i64 x24.Due), .lit (.int .i64 0)])]) (fun X21 => [.box b1 0 (bS t_0), .arr w11 36 6 (jobs_0_10.map aT), .arr w12 73 4 (bouts_0_10.map bY), .box b17 0 (bY x15), .box (X21 13).b 0 [.lit (.int .i64 0), .lit (.int .i64 0), .lit (.slice none 0 0), .sl 1 ((([] : List Int)).map aW), .lit (.int .i64 0), .lit (.int .i64 0)]]) ?_ ?_
      ·refine ⟨1, fun X21 => [(56, 0, .d (.sl 3 (stages_2.map cD))), (57, 1, .bp b17 0 0), (58, 2, .d (.lit (.int .i64 x15.Round))), (59, 3, .cp [.lit (.int .i64 x22.Length.Low), .lit (.int .i64 x22.Length.High), .lit (.int .i64 x22.Due)]), (60, 4, .cp [.lit (.int .i64 x22.Length.Low), .lit (.int .i64 x22.Length.High)]), (61, 5, .agg (bA x22.Length)), (62, 6, .d (.sl 3 (stages_2.map cD))), (63, 7, .bp b17 0 0), (64, 8, .d (.lit (.int .i64 x15.Round))), (65, 9, .cp [.lit (.int .i64 x24.Length.Low), .lit (.int .i64 x24.Length.High), .lit (.int .i64 x24.Due)]), (66, 10, .cp [.lit (.int .i64 x24.Due)]), (67, 11, .d (.lit (.int .i64 x24.Due))), (68, 12, .agg [.lit (.int .i64 x22.Length.Low), .lit (.int .i64 x22.Length.High), .lit (.slice none 0 0), .sl 1 ((([] : List Int)).map aW), .lit (.int .i64 x24.Due), .lit (.int .i64 0)]), (17, 13, .bp (X21 13).b 0 0)], fun X21 => [([], .box b1 0 (bS t_0)), ([], .arr w11 36 6 (jobs_0_10.map aT)), ([], .arr w12 73 4 (bouts_0_10.map bY)), ([], .box b17 0 (bY x15)), ([(13, .box (X21 13).b 0 [.lit (.int .i64 0), .lit (.int .i64 0), .lit (.slice none 0 0), .sl 1 ((([] : List Int)).map aW), .lit (.int .i64 0), .lit (.int .i64 0)])], nob)], ?_, ?_⟩
       · exact ⟨by kernel_rfl, by kernel_rfl, by kernel_rfl, fun _ => by kernel_rfl, fun _ => by kernel_rfl, fun _ => by kernel_rfl, fun _ => rfl, [([], []), ([], []), ([1], []), ([0, 2], []), ([3], []), ([4], []), ([], []), ([], []), ([7], []), ([6, 8], []), ([9], []), ([10], []), ([5, 11], []), ([], [])], by kernel_rfl, ⟨fun X21 S hw hi hS => bE (X := X21) rfl (hw X21) rfl (aL rfl (aD (v := .d (.sl 3 (stages_2.map cD))) (aA rfl) (aC hS rfl) rfl)),
      fun X21 S hw hi hS => bE (X := X21) rfl (hw X21) rfl (aL rfl (aN (aA rfl) (aC hS rfl) dW)),
      fun X21 S hw hi hS => bE (X := X21) rfl (hw X21) rfl (aL rfl (aQ (aA rfl) (aC hS rfl) (i := 3) (og hS rfl rfl) rfl bL)),
      fun X21 S hw hi hS => bE (X := X21) rfl (hw X21) rfl (aL rfl (bU (aA rfl) (aC hS rfl) (aC hS rfl) mW.of (cE cD h23))),
      fun X21 S hw hi hS => bE (X := X21) rfl (hw X21) rfl (aL rfl (cC (aA rfl) (aC hS rfl) pO (es := [.lit (.int .i64 x22.Length.Low), .lit (.int .i64 x22.Length.High)]) rfl)),
      fun X21 S hw hi hS => bE (X := X21) rfl (hw X21) rfl (aL rfl (dE (aA rfl) (aC hS rfl) gM (es := (bA x22.Length)) rfl rfl)),
      fun X21 S hw hi hS => bE (X := X21) rfl (hw X21) rfl (aL rfl (aD (v := .d (.sl 3 (stages_2.map cD))) (aA rfl) (aC hS rfl) rfl)),
      fun X21 S hw hi hS => bE (X := X21) rfl (hw X21) rfl (aL rfl (aN (aA rfl) (aC hS rfl) dW)),
      fun X21 S hw hi hS => bE (X := X21) rfl (hw X21) rfl (aL rfl (aQ (aA rfl) (aC hS rfl) (i := 3) (og hS rfl rfl) rfl bL)),
      fun X21 S hw hi hS => bE (X := X21) rfl (hw X21) rfl (aL rfl (bU (aA rfl) (aC hS rfl) (aC hS rfl) mW.of (cE cD h25))),
      fun X21 S hw hi hS => bE (X := X21) rfl (hw X21) rfl (aL rfl (cC (aA rfl) (aC hS rfl) rP (es := [.lit (.int .i64 x24.Due)]) rfl)),
      fun X21 S hw hi hS => bE (X := X21) rfl (hw X21) rfl (aL rfl (cJ (aA rfl) (aC hS rfl) bL)),
      fun X21 S hw hi hS => bE (X := X21) rfl (hw X21) rfl (aL rfl (eD (aA rfl) aDf (zs := [.lit (.int .i64 0), .lit (.int .i64 0), .lit (.slice none 0 0), .sl 1 ((([] : List Int)).map aW), .lit (.int .i64 0), .lit (.int .i64 0)]) rfl rfl rfl (pa2 (aC hS rfl) (pa2 (aC hS rfl) pan)) (es := [.lit (.int .i64 x22.Length.Low), .lit (.int .i64 x22.Length.High), .lit (.slice none 0 0), .sl 1 ((([] : List Int)).map aW), .lit (.int .i64 x24.Due), .lit (.int .i64 0)]) rfl)),
      fun X21 S hw hi hS => rC (X := X21) (p := 4) (v := fun x => .bp x.b 0 0) (mo := fun x => .box x.b 0 [.lit (.int .i64 0), .lit (.int .i64 0), .lit (.slice none 0 0), .sl 1 ((([] : List Int)).map aW), .lit (.int .i64 0), .lit (.int .i64 0)]) hS hi rfl rfl (fun _ => rfl) hw (fun _ => rfl) (fun _ => rfl) (fun _ => rfl) (fun _ => ⟨rfl, rfl, .inr rfl, ⟨rfl, rfl, .inr rfl, ⟨rfl, rfl, .inr rfl, ⟨rfl, rfl, .inr rfl, ⟨rfl, rfl, .inr rfl, ⟨rfl, rfl, .inr rfl, ⟨rfl, rfl, .inr rfl, ⟨rfl, rfl, .inr rfl, ⟨rfl, rfl, .inr rfl, ⟨rfl, rfl, .inr rfl, ⟨rfl, rfl, .inr rfl, ⟨rfl, rfl, .inr rfl, ⟨rfl, rfl, .inr rfl, ⟨rfl, rfl, .inl rfl, trivial⟩⟩⟩⟩⟩⟩⟩⟩⟩⟩⟩⟩⟩⟩) (fun _ => ⟨trivial, rfl, ⟨trivial, rfl, ⟨trivial, rfl, ⟨trivial, rfl, ⟨⟨rfl, .inl rfl, trivial⟩, rfl, trivial⟩⟩⟩⟩⟩) (gW (dM (zs := [.lit (.int .i64 0), .lit (.int .i64 0), .lit (.slice none 0 0), .sl 1 ((([] : List Int)).map aW), .lit (.int .i64 0), .lit (.int .i64 0)]) (aA rfl) Try.zeroValue36 rfl rfl) (by rintro _ ⟨w, rfl⟩; exact ⟨⟨w, undef⟩, bI [0, 1, 2, 3, 5] rfl rfl (le_refl _)⟩)), trivial⟩⟩
       · exact fun X21 => dB (aZ rfl (aZ rfl (bC ⟨rfl, rfl, rfl, rfl, rfl, rfl, rfl, rfl, rfl, trivial⟩)))
      ·intro X21
       refine lB (wX 3 1) ?_
       refine tr1 rfl (cL (i := 4) rfl rfl rfl rfl rfl Try.sizeOf36 rfl (aA rfl) (Nat.le_of_ble_eq_true rfl) (ds' := [.lit (.int .i64 x22.Length.Low), .lit (.int .i64 x22.Length.High), .lit (.slice none 0 0), .sl 1 ((([] : List Int)).map aW), .lit (.int .i64 x24.Due), .lit (.int .i64 0)]) rfl) ?_
       refine aI ?_
       refine aH ?_
       refine aH ?_
       refine aE ?_
       refine tr1 rfl (aD (v := .d (.lit w12)) (aA rfl) rfl rfl) ?_
       refine tr1 rfl (qW (m := 2) (aA rfl) rfl rfl oI.of) ?_
       refine tr1 rfl (aD (v := .d (.lit (.int .i64 0))) (aA rfl) rfl rfl) ?_
       refine aI ?_
       refine cW ?_
       refine dY [1, 2, 3, 11, 12, 14, 17, 38, 39, 40, 69, 70] (fun (s26 : Int × (List Int) × bJ × (List Int) × Int × Int × Value) => [(71, .d (.lit (.int .i64 s26.1)))]) (fun (s26 : Int × (List Int) × bJ × (List Int) × Int × Int × Value) => [.box b1 0 (bS t_0), .arr w11 36 6 (jobs_0_10.map aT), .arr w12 73 4 (bouts_0_10.map bY), .box b17 0 (bY x15), .arr s26.2.2.2.2.2.2 3 1 (s26.2.1.map aW), .box (X21 13).b 0 [.lit (.int .i64 s26.2.2.1.Low), .lit (.int .i64 s26.2.2.1.High), .lit s26.2.2.2.2.2.2, .sl 1 (s26.2.2.2.1.map aW), .lit (.int .i64 s26.2.2.2.2.1), .lit (.int .i64 s26.2.2.2.2.2.1)]]) (fun (k : Nat) (s26 : Int × (List Int) × bJ × (List Int) × Int × Int × Value) => kJ (gC l_1 stages_2 r2.1 (r2.1.length : Int) t_0 k13) l_1 stages_2 r2.1 (r2.1.length : Int) t40_0_10 (bouts_0_10.length : Int) t_0 jobs_0_10 bouts_0_10 x15 k s26.1 s26.2.1 s26.2.2.1 s26.2.2.2.1 s26.2.2.2.2.1 s26.2.2.2.2.2.1) (fun _ => rfl) (0, ([] : List Int), x22.Length, ([] : List Int), x24.Due, 0, (.slice none 0 0)) h (bI [0, 1, 2, 3, 5, 4] rfl rfl (aZ rfl (bC ⟨rfl, rfl, rfl, rfl, rfl, rfl, rfl, rfl, rfl, rfl, rfl, rfl, trivial⟩))) ?_
       rintro k28 ⟨t71_2_26, j_2_26, j_2_26_2, j_2_26_3, j_2_26_4, j_2_26_5, w27⟩ h
       simp only [kJ] at h
       refine aH ?_
       refine aE ?_
       refine tr1 rfl (bP (aA rfl) rfl rfl rfl) ?_
       refine aI ?_
       refine aH ?_
       refine cK rfl (fun c29 => ?_) (fun c29 => ?_)
       ·have h := bB c29 h
        refine cF ?_
        refine aH ?_
        refine cW ?_
        refine aH ?_
        refine aE ?_
        refine tr1 rfl (aD (v := .d (.lit (.int .i64 t71_2_26))) (aA rfl) rfl rfl) ?_
        obtain ⟨x30, h31, h⟩ := bind_some h
        refine tr1 rfl (iZ (m := 2) (aA rfl) rfl rfl rfl oI.of (cE bY h31)) ?_
        refine tr1 rfl (aIv (aA rfl) rfl (l := 2) rfl (pF bY h31) yN (es := (bY x30)) rfl rfl) ?_
        refine cI rfl (dM (zs := [.lit (.int .i64 0), .lit (.int .i64 0), .lit (.int .i64 0), .lit (.int .i64 0)]) (aA rfl) Try.zeroValue73 rfl rfl) ?_
        rintro _ ⟨b32, rfl⟩
        refine tr1 rfl (aK (v := .d (.lit (.int .i64 t71_2_26))) (aA rfl) rfl rfl) ?_
        refine tr1 rfl (cL (i := 6) rfl rfl rfl rfl rfl Try.sizeOf73 rfl (aA rfl) (Nat.le_of_ble_eq_true rfl) (ds' := (bY x30)) rfl) ?_
        refine aI ?_
        refine aH ?_
        refine aE ?_
        refine tr1 rfl (aN (aA rfl) rfl dW) ?_
        refine tr1 rfl (aQ (aA rfl) rfl (i := 6) rfl rfl bL) ?_
        refine tr1 rfl (aN (aA rfl) rfl dW) ?_
        refine tr1 rfl (aQ (aA rfl) rfl (i := 3) rfl rfl bL) ?_
        refine tr1 rfl (cG (aA rfl) rfl rfl rfl) ?_
        refine tr1 rfl (bP (aA rfl) rfl rfl rfl) ?_
        refine tr1 rfl (aD (v := .d (.lit (.bool ((decide (x30.Round = (w64 (x15.Round - 1)))))))) (aA rfl) rfl rfl) ?_
        obtain ⟨b33, h34, h⟩ := bind_some h
        refine dD 7 [1, 2, 3, 11, 12, 14, 17, 18, 38, 39, 40, 69, 70, 71] 89 b33 ?_ ?_
        ·refine cA (decide (x30.Round = (w64 (x15.Round - 1)))) (fun c39 => ?_) (fun c39 => ?_)
         ·have h34 := bB c39 h34
          refine aU rfl rfl (aA rfl) rfl c39 (aN (aA rfl) rfl rO) ?_
          refine aU rfl rfl (aA rfl) rfl c39 (aQ (aA rfl) rfl (i := 6) rfl rfl bL) ?_
          refine aU rfl rfl (aA rfl) rfl c39 (aMb (aA rfl) rfl rfl (by decide)) ?_
          refine aU rfl rfl (aA rfl) rfl c39 (aN (aA rfl) rfl rO) ?_
          refine aU rfl rfl (aA rfl) rfl c39 (aQ (aA rfl) rfl (i := 3) rfl rfl bL) ?_
          refine aU rfl rfl (aA rfl) rfl c39 (bP (aA rfl) rfl rfl rfl) ?_
          refine tr1 rfl (bR (v := .d (.lit (.bool ((decide ((w64 (x30.Place.tdiv 2)) = x15.Place)))))) (aA rfl) rfl c39 rfl rfl) ?_
          have h34 := Option.some.inj h34
          subst h34
          refine aI (bT rfl ⟨rfl, rfl, rfl, rfl, rfl, rfl, rfl, rfl, rfl, rfl, rfl, rfl, rfl, rfl, trivial⟩ rfl)
         ·have h34 := bD c39 h34
          refine aX rfl rfl (aA rfl) rfl (aA rfl) rfl c39 ?_
          refine aX rfl rfl (aA rfl) rfl (aA rfl) rfl c39 ?_
          refine aX rfl rfl (aA rfl) rfl (aA rfl) rfl c39 ?_
          refine aX rfl rfl (aA rfl) rfl (aA rfl) rfl c39 ?_
          refine aX rfl rfl (aA rfl) rfl (aA rfl) rfl c39 ?_
          refine aX rfl rfl (aA rfl) rfl (aA rfl) rfl c39 ?_
          refine tr1 rfl (bQ (v := .d (.lit (.bool false))) (aA rfl) rfl c39 rfl rfl) ?_
          have h34 := Option.some.inj h34
          subst h34
          refine aI (bT rfl ⟨rfl, rfl, rfl, rfl, rfl, rfl, rfl, rfl, rfl, rfl, rfl, rfl, rfl, rfl, trivial⟩ rfl)
        ·refine aI ?_
         refine cK rfl (fun c35 => ?_) (fun c35 => ?_)
         ·have h := bB c35 h
          refine aE ?_
          refine tr1 rfl (aN (aA rfl) rfl nN) ?_
          refine tr1 rfl (aQ (aA rfl) rfl (i := 5) rfl rfl eI) ?_
          refine tr1 rfl (aD (v := .d (.lit (.int .i64 t71_2_26))) (aA rfl) rfl rfl) ?_
          refine tr1 rfl (jJ (aA rfl) dV rfl rfl (rows := ([t71_2_26]).map aW) rfl (dT (f := aW) fun _ => rfl) rfl (by decide)) ?_
          obtain ⟨x36, h37, h⟩ := bind_some h
          refine cI rfl (mJ (i := 4) (aA rfl) dV rfl rfl rfl (fun _ => rfl) h37 rfl) ?_
          rintro _ ⟨v38, rfl⟩
          refine tr1 rfl (aN (aA rfl) rfl nN) ?_
          refine tr1 rfl (cL (i := 5) rfl rfl rfl rfl rfl Try.sizeOf27 rfl (aA rfl) (Nat.le_of_ble_eq_true rfl) (ds' := [.lit (.int .i64 j_2_26_2.Low), .lit (.int .i64 j_2_26_2.High), .lit v38, .sl 1 (j_2_26_3.map aW), .lit (.int .i64 j_2_26_4), .lit (.int .i64 j_2_26_5)]) rfl) ?_
          refine lA ?_
          refine aE ?_
          refine tr1 rfl (cG (aA rfl) rfl rfl rfl) ?_
          refine tr1 rfl (aD (v := .d (.lit (.int .i64 ((w64 (t71_2_26 + 1)))))) (aA rfl) rfl rfl) ?_
          refine aI ?_
          exact ⟨(w64 (t71_2_26 + 1), x36, j_2_26_2, j_2_26_3, j_2_26_4, j_2_26_5, v38), h, bI [0, 1, 2, 3, 4, 5] rfl rfl (aZ rfl (bC ⟨rfl, rfl, rfl, rfl, rfl, rfl, rfl, rfl, rfl, rfl, rfl, rfl, trivial⟩))⟩
         ·have h := bD c35 h
          refine fB ?_
          refine aE ?_
          refine tr1 rfl (cG (aA rfl) rfl rfl rfl) ?_
          refine tr1 rfl (aD (v := .d (.lit (.int .i64 ((w64 (t71_2_26 + 1)))))) (aA rfl) rfl rfl) ?_
          refine aI ?_
          exact ⟨(w64 (t71_2_26 + 1), j_2_26, j_2_26_2, j_2_26_3, j_2_26_4, j_2_26_5, w27), h, bI [0, 1, 2, 3, 4, 5] rfl rfl (aZ rfl (bC ⟨rfl, rfl, rfl, rfl, rfl, rfl, rfl, rfl, rfl, rfl, rfl, rfl, trivial⟩))⟩
       ·have h := bD c29 h
        refine dO ?_
        refine .inl ⟨rfl, ?_⟩
        simp only [qM] at h
        apply aNu [.box b1 0 (bS t_0), .arr w11 36 6 (jobs_0_10.map aT), .arr w12 73 4 (bouts_0_10.map bY), .box b17 0 (bY x15)] [.arr w27 3 1 (j_2_26.map aW), .box (X21 13).b 0 [.lit (.int .i64 j_2_26_2.Low), .lit (.int .i64 j_2_26_2.High), .lit w27, .sl 1 (j_2_26_3.map aW), .lit (.int .i64 j_2_26_4), .lit (.int .i64 j_2_26_5)]] rfl
        exact iG (k := 17) (v := .cp [.lit (.int .i64 j_2_26_2.Low), .lit (.int .i64 j_2_26_2.High), .sl 1 (j_2_26.map aW), .sl 1 (j_2_26_3.map aW), .lit (.int .i64 j_2_26_4), .lit (.int .i64 j_2_26_5)]) ((tH 1 rfl rfl (dvc (.same _) (dvc (.same _) (dvc (jF 0 rfl (dT (f := aW) fun _ => rfl)) (dvc (.same _) (dvc (.same _) (dvc (.same _) dvn)))))))) (aFg _ _)
        obtain ⟨x41, h42, h⟩ := bind_some h
        refine gI mix 7 [1, 2, 3, 38, 39, 40] (fun X40 => [(100, .d (.lit (X40 3).v)), (101, .d (.lit w12)), (103, .d (.sl 4 (([x15]).map bY)))]) (fun X40 => [.box b1 0 (bS t_0), .arr (X40 3).v 36 6 (x41.map aT), .arr w12 73 4 (bouts_0_10.map bY), .box b17 0 (bY x15)]) ?_ ?_
        ·refine ⟨0, fun X40 => [(97, 0, .d (.lit w11)), (98, 1, .agg (aT (cS.mk j_2_26_2 j_2_26 j_2_26_3 j_2_26_4 j_2_26_5))), (99, 2, .d (.sl 6 ((([(cS.mk j_2_26_2 j_2_26 j_2_26_3 j_2_26_4 j_2_26_5)])).map aT))), (100, 3, .d (.lit (X40 3).v)), (101, 4, .d (.lit w12)), (102, 5, .agg (bY x15)), (103, 6, .d (.sl 4 (([x15]).map bY)))], fun X40 => [([], .box b1 0 (bS t_0)), ([(3, .arr (X40 3).v 36 6 (x41.map aT))], .arr w11 36 6 (jobs_0_10.map aT)), ([], .arr w12 73 4 (bouts_0_10.map bY)), ([], .box b17 0 (bY x15))], ?_, ?_⟩
         · exact ⟨by kernel_rfl, by kernel_rfl, by kernel_rfl, fun _ => by kernel_rfl, fun _ => by kernel_rfl, fun _ => by kernel_rfl, fun _ => rfl, [([], [3]), ([], [3]), ([1], [3]), ([0, 2], []), ([], []), ([], []), ([5], [])], by kernel_rfl, ⟨fun X40 S hw hi hS => bE (X := X40) rfl (hw X40) rfl (aL rfl (aD (v := .d (.lit w11)) (aA rfl) (aC hS rfl) rfl)),
      fun X40 S hw hi hS => bE (X := X40) rfl (hw X40) rfl (aL rfl (dE (aA rfl) (aC hS rfl) yM (es := (aT (cS.mk j_2_26_2 j_2_26 j_2_26_3 j_2_26_4 j_2_26_5))) rfl rfl)),
      fun X40 S hw hi hS => bE (X := X40) rfl (hw X40) rfl (aL rfl (jJ (aA rfl) eE rfl (pa2 (aC hS rfl) pan) (rows := ([(cS.mk j_2_26_2 j_2_26 j_2_26_3 j_2_26_4 j_2_26_5)]).map aT) rfl (dT (f := aT) fun _ => rfl) rfl (by decide))),
      fun X40 S hw hi hS => rC (X := X40) (p := 1) (v := fun x => .d (.lit x.v)) (mo := fun x => .arr x.v 36 6 (x41.map aT)) hS hi rfl rfl (fun _ => rfl) hw (fun _ => rfl) (fun _ => rfl) (fun _ => rfl) (fun _ => ⟨rfl, rfl, .inr rfl, ⟨rfl, rfl, .inr rfl, ⟨rfl, rfl, .inr rfl, ⟨rfl, rfl, .inl rfl, ⟨rfl, rfl, .inr rfl, ⟨rfl, rfl, .inr rfl, ⟨rfl, rfl, .inr rfl, trivial⟩⟩⟩⟩⟩⟩⟩) (fun _ => ⟨trivial, rfl, ⟨⟨rfl, .inl rfl, trivial⟩, rfl, ⟨trivial, rfl, ⟨trivial, rfl, trivial⟩⟩⟩⟩) (gW (mJ (i := 1) (aA rfl) eE (aC hS rfl) (og hS rfl rfl) (aC hS rfl) (fun _ => rfl) h42 rfl) (by rintro _ ⟨w, rfl⟩; exact ⟨⟨0, w⟩, Ent.refl _⟩)),
      fun X40 S hw hi hS => bE (X := X40) rfl (hw X40) rfl (aL rfl (aD (v := .d (.lit w12)) (aA rfl) (aC hS rfl) rfl)),
      fun X40 S hw hi hS => bE (X := X40) rfl (hw X40) rfl (aL rfl (bO (aA rfl) (aC hS rfl) (i := 3) (og hS rfl rfl) yN (es := (bY x15)) rfl rfl)),
      fun X40 S hw hi hS => bE (X := X40) rfl (hw X40) rfl (aL rfl (jJ (aA rfl) oI rfl (pa2 (aC hS rfl) pan) (rows := ([x15]).map bY) rfl (dT (f := bY) fun _ => rfl) rfl (by decide))), trivial⟩⟩
         · exact fun X40 => dB (aZ rfl (aZ rfl (aZ rfl (bC ⟨rfl, rfl, rfl, rfl, rfl, rfl, trivial⟩))))
        ·intro X40
         obtain ⟨x43, h44, h⟩ := bind_some h
         refine cI rfl (mJ (i := 2) (aA rfl) oI rfl rfl rfl (fun _ => rfl) h44 rfl) ?_
         rintro _ ⟨v45, rfl⟩
         refine tr1 rfl (aK (v := .d (.lit (X40 3).v)) (aA rfl) rfl rfl) ?_
         refine tr1 rfl (aK (v := .d (.lit v45)) (aA rfl) rfl rfl) ?_
         refine lA ?_
         simp only [nA] at h
         refine aE ?_
         refine tr1 rfl (cG (aA rfl) rfl rfl rfl) ?_
         refine tr1 rfl (aD (v := .d (.lit (.int .i64 ((w64 (t40_0_10 + 1)))))) (aA rfl) rfl rfl) ?_
         refine aI ?_
         exact ⟨(w64 (t40_0_10 + 1), x41, x43, (X40 3).v, v45), h, bI [0, 1, 2] rfl rfl (aZ rfl (aZ rfl (aZ rfl (bC ⟨rfl, rfl, rfl, rfl, rfl, trivial⟩))))⟩
    ·have h := bD c14 h
     refine dO ?_
     refine .inl ⟨rfl, ?_⟩
     simp only [oT] at h
     refine aH ?_
     refine aH ?_
     refine aE ?_
     refine tr1 rfl (aD (v := .d (.lit w11)) (aA rfl) rfl rfl) ?_
     refine tr1 rfl (qW (m := 1) (aA rfl) rfl rfl eE.of) ?_
     refine tr1 rfl (bP (aA rfl) rfl rfl rfl) ?_
     refine aI ?_
     refine cK rfl (fun c46 => ?_) (fun c46 => ?_)
     ·have h := bB c46 h
      refine aH ?_
      refine aE ?_
      refine tr1 rfl (kT 6 (aA rfl)) ?_
      refine tr1 rfl (kT 4 (aA rfl)) ?_
      refine tr1 rfl (aK (v := .d (.lit (.int .i64 2))) (aA rfl) rfl rfl) ?_
      refine aI ?_
      have h := Option.some.inj h
      subst h
      refine cT (cR (cU (l := [6, 7, 8]) ⟨rfl, rfl, rfl, trivial⟩)) ?_
      exact cB ⟨rfl, _, .three _ _ _, rfl, rfl⟩
     ·have h := bD c46 h
      refine cF ?_
      refine aH ?_
      refine aE ?_
      refine tr1 rfl (aD (v := .d (.lit w11)) (aA rfl) rfl rfl) ?_
      refine tr1 rfl (aD (v := .d (.lit w12)) (aA rfl) rfl rfl) ?_
      refine tr1 rfl (aK (v := .d (.lit w11)) (aA rfl) rfl rfl) ?_
      refine tr1 rfl (aK (v := .d (.lit w12)) (aA rfl) rfl rfl) ?_
      refine tr1 rfl (aK (v := .d (.lit (.int .i64 0))) (aA rfl) rfl rfl) ?_
      refine aI ?_
      have h := Option.some.inj h
      subst h
      refine cT (cR (iG (k := 8) (v := .d (.lit (.int .i64 0))) (.same _) (iG (k := 7) (v := .d (.sl 4 (bouts_0_10.map bY))) (.d (jF 2 rfl (dT (f := bY) fun _ => rfl))) (iG (k := 6) (v := .d (.sl 6 (jobs_0_10.map aT))) (.d (jF 1 rfl (dT (f := aT) fun _ => rfl))) (wA))))) ?_
      exact cB ⟨rfl, _, .three _ _ _, rfl, rfl⟩

theorem aCb (t_0 : aV) (l_1 : List aJ) {Q : Int → Prop} (h : nQ t_0 l_1 Q) : fI Try.prog 44 [.agg (bS t_0), .d (.sl 5 (l_1.map aY))] [] (fun r' o' => ∃ (r : Int), Q r ∧ r' = .d (.lit (.int .i64 r)) ∧ o' = []) := by
 unfold nQ at h
 refine jA Try.func44 rfl (rs := [.tmp 4]) Try.results44 Try.ntmps44 (Nat.le_of_ble_eq_true rfl) ?_
 refine aH ?_
 refine aE ?_
 refine cI rfl (eU (v := .agg (bS t_0)) (aA rfl) rfl rfl rfl) ?_
 rintro _ ⟨b1, rfl⟩
 refine tr1 rfl (aK (v := .d (.lit (.int .i64 0))) (aA rfl) rfl rfl) ?_
 refine aI ?_
 refine aH ?_
 refine aE ?_
 refine tr1 rfl (bO (aA rfl) rfl (i := 0) rfl kQ (es := (bS t_0)) rfl rfl) ?_
 refine tr1 rfl (aD (v := .d (.sl 5 (l_1.map aY))) (aA rfl) rfl rfl) ?_
 refine cI rfl (rV (aA rfl) (.func _ _ Try.call82) rfl rfl (rN _ _ h)) ?_
 rintro _ ⟨_, _, ⟨r2, h, rfl, rfl⟩, rfl⟩
 refine tr1 rfl (aD (v := .tup [dZ bV r2.1, .d (.lit (.int .i64 r2.2))]) (aA rfl) rfl rfl) ?_
 refine tr1 rfl (bZ (aA rfl) rfl rfl) ?_
 refine tr1 rfl (bZ (aA rfl) rfl rfl) ?_
 refine tr1 rfl (aK (v := dZ bV r2.1) (aA rfl) rfl rfl) ?_
 refine tr1 rfl (aK (v := .d (.lit (.int .i64 r2.2))) (aA rfl) rfl rfl) ?_
 refine aI ?_
 refine aH ?_
 refine aE ?_
 refine tr1 rfl (aD (v := .d (.lit (.int .i64 r2.2))) (aA rfl) rfl rfl) ?_
 refine tr1 rfl (aK (v := .d (.lit (.int .i64 r2.2))) (aA rfl) rfl rfl) ?_
 refine aI ?_
 exact cB ⟨rfl, _, [], [.box b1 0 (bS t_0)], _, .one (.tmp 4 (v := .d (.lit (.int .i64 r2.2))) rfl), .refl _, .same _, r2.2, h, rfl, rfl⟩

theorem aCc (a0 : aV) (a1 : List aJ) {r : Int} (h : oC a0 a1 = some r) : Fn Try.prog 44 [.agg (bS a0), .d (.sl 5 (a1.map aY))] ((fun x : Int => .d (.lit (.int .i64 x))) r) := aBh (enc := fun x : Int => .d (.lit (.int .i64 x))) (aCb a0 a1 (aAn a0 a1 h (fun x => x = r) rfl))

end Go.Am
