/- The functions compute what the shallow ones say: printed by program. -/
import Derived.Test.YtaocljlhapoieaaRankListSimP2
namespace Go.Am
open Go.Proofs
set_option maxRecDepth 100000
set_option maxHeartbeats 4000000

theorem vG (l_0 : aP) (x_1 : kC) (points_2 : Int) {r : Bool} (h : mI l_0 x_1 points_2 = some r) : Fn Try.prog 6 [.agg (aV l_0), .agg (nR x_1), .d (.lit (.int .i64 points_2))] (.d (.lit (.bool r))) := by
 unfold mI at h
 refine Fn.of_tr Try.func6 rfl (rs := [.tmp 6]) Try.results6 Try.ntmps6 (Nat.le_of_ble_eq_true rfl) ?_
 refine aG ?_
 refine aE ?_
 refine bQ rfl (eX (v := .agg (aV l_0)) (aA rfl) rfl rfl rfl) ?_
 rintro _ ⟨b1, rfl⟩
 refine bQ rfl (eX (v := .agg (nR x_1)) (aA rfl) rfl rfl rfl) ?_
 rintro _ ⟨b2, rfl⟩
 refine tr1 rfl (aJ (v := .d (.lit (.bool false))) (aA rfl) rfl rfl) ?_
 refine aF ?_
 refine aG ?_
 refine aG ?_
 refine aE ?_
 refine tr1 rfl (cL (aA rfl) rfl (i := 0) rfl eH (es := (aV l_0)) rfl rfl) ?_
 refine tr1 rfl (aT (aA rfl) rfl rS) ?_
 refine tr1 rfl (aU (aA rfl) rfl (i := 1) rfl rfl bG) ?_
 refine tr1 rfl (aT (aA rfl) rfl nJ) ?_
 refine tr1 rfl (aU (aA rfl) rfl (i := 1) rfl rfl bG) ?_
 obtain ⟨r3, h4, h⟩ := bind_some h
 refine tr1 rfl (bZ (aA rfl) (.func _ _ Try.call20) rfl rfl (BVs.refl _ _) (xD _ _ _ h4) rfl) ?_
 refine tr1 rfl (eQ (aA rfl) rfl) ?_
 refine tr1 rfl (aD (v := .d (.lit (.bool (!r3)))) (aA rfl) rfl rfl) ?_
 obtain ⟨b5, h6, h⟩ := bind_some h
 refine bT 5 [2, 3, 4] 36 b5 ?_ ?_
 ·refine bF (!r3) (fun c96 => ?_) (fun c96 => ?_)
  ·have h6 := aQ c96 h6
   refine aM rfl rfl (aA rfl) rfl (aA rfl) rfl c96 ?_
   refine aM rfl rfl (aA rfl) rfl (aA rfl) rfl c96 ?_
   refine aM rfl rfl (aA rfl) rfl (aA rfl) rfl c96 ?_
   refine aM rfl rfl (aA rfl) rfl (aA rfl) rfl c96 ?_
   refine tr1 rfl (bK (v := .d (.lit (.bool true))) (aA rfl) rfl c96 rfl rfl) ?_
   have h6 := Option.some.inj h6
   subst h6
   refine aF (aW rfl ⟨rfl, rfl, rfl, trivial⟩ rfl)
  ·have h6 := aR c96 h6
   refine aL rfl rfl (aA rfl) rfl c96 (aT (aA rfl) rfl eF) ?_
   refine aL rfl rfl (aA rfl) rfl c96 (aU (aA rfl) rfl (i := 0) rfl rfl iC) ?_
   refine aL rfl rfl (aA rfl) rfl c96 (dM (aA rfl) rfl bX.of) ?_
   refine aL rfl rfl (aA rfl) rfl c96 (bB (aA rfl) rfl rfl rfl) ?_
   refine tr1 rfl (bJ (v := .d (.lit (.bool ((decide (9 < (l_0.Reports.length : Int))))))) (aA rfl) rfl c96 rfl rfl) ?_
   have h6 := Option.some.inj h6
   subst h6
   refine aF (aW rfl ⟨rfl, rfl, rfl, trivial⟩ rfl)
 ·refine tr1 rfl (aD (v := .d (.lit (.bool b5))) (aA rfl) rfl rfl) ?_
  obtain ⟨b7, h8, h⟩ := bind_some h
  refine bT 3 [2, 3, 4] 40 b7 ?_ ?_
  ·refine bF (b5) (fun c95 => ?_) (fun c95 => ?_)
   ·have h8 := aQ c95 h8
    refine aM rfl rfl (aA rfl) rfl (aA rfl) rfl c95 ?_
    refine aM rfl rfl (aA rfl) rfl (aA rfl) rfl c95 ?_
    refine tr1 rfl (bK (v := .d (.lit (.bool true))) (aA rfl) rfl c95 rfl rfl) ?_
    have h8 := Option.some.inj h8
    subst h8
    refine aF (aW rfl ⟨rfl, rfl, rfl, trivial⟩ rfl)
   ·have h8 := aR c95 h8
    refine aL rfl rfl (aA rfl) rfl c95 (aD (v := .d (.lit (.int .i64 points_2))) (aA rfl) rfl rfl) ?_
    refine aL rfl rfl (aA rfl) rfl c95 (bB (aA rfl) rfl rfl rfl) ?_
    refine tr1 rfl (bJ (v := .d (.lit (.bool ((decide (points_2 < 0)))))) (aA rfl) rfl c95 rfl rfl) ?_
    have h8 := Option.some.inj h8
    subst h8
    refine aF (aW rfl ⟨rfl, rfl, rfl, trivial⟩ rfl)
  ·refine tr1 rfl (aD (v := .d (.lit (.bool b7))) (aA rfl) rfl rfl) ?_
   obtain ⟨b9, h10, h⟩ := bind_some h
   refine bT 3 [2, 3, 4] 44 b9 ?_ ?_
   ·refine bF (b7) (fun c94 => ?_) (fun c94 => ?_)
    ·have h10 := aQ c94 h10
     refine aM rfl rfl (aA rfl) rfl (aA rfl) rfl c94 ?_
     refine aM rfl rfl (aA rfl) rfl (aA rfl) rfl c94 ?_
     refine tr1 rfl (bK (v := .d (.lit (.bool true))) (aA rfl) rfl c94 rfl rfl) ?_
     have h10 := Option.some.inj h10
     subst h10
     refine aF (aW rfl ⟨rfl, rfl, rfl, trivial⟩ rfl)
    ·have h10 := aR c94 h10
     refine aL rfl rfl (aA rfl) rfl c94 (aD (v := .d (.lit (.int .i64 points_2))) (aA rfl) rfl rfl) ?_
     refine aL rfl rfl (aA rfl) rfl c94 (bB (aA rfl) rfl rfl rfl) ?_
     refine tr1 rfl (bJ (v := .d (.lit (.bool ((decide (2000 < points_2)))))) (aA rfl) rfl c94 rfl rfl) ?_
     have h10 := Option.some.inj h10
     subst h10
     refine aF (aW rfl ⟨rfl, rfl, rfl, trivial⟩ rfl)
   ·refine aF ?_
    refine bL rfl (fun c11 => ?_) (fun c11 => ?_)
    ·have h := aQ c11 h
     refine aG ?_
     refine aE ?_
     obtain ⟨r12, h13, h⟩ := bind_some h
     refine tr1 rfl (bZ (aA rfl) (.func _ _ Try.call16) rfl rfl (BVs.refl _ _) (oX h13) rfl) ?_
     refine tr1 rfl (aJ (v := .d (.lit (.bool r12))) (aA rfl) rfl rfl) ?_
     refine aF ?_
     have h := Option.some.inj h
     subst h
     refine cN (cA (cG (l := [6]) ⟨rfl, trivial⟩)) ?_
     exact bM ⟨rfl, _, .one _, rfl, rfl⟩
    ·have h := aR c11 h
     refine bI ?_
     refine aG ?_
     refine aE ?_
     refine tr1 rfl (cL (aA rfl) rfl (i := 0) rfl eH (es := (aV l_0)) rfl rfl) ?_
     refine tr1 rfl (aT (aA rfl) rfl nJ) ?_
     refine tr1 rfl (aU (aA rfl) rfl (i := 1) rfl rfl bG) ?_
     obtain ⟨r14, h15, h⟩ := bind_some h
     refine tr1 rfl (mA (aA rfl) (.func _ _ Try.call27) rfl rfl (yP _ _ h15)) ?_
     refine tr1 rfl (aD (v := .tup [.d (.sl 1 (r14.1.map cB)), .d (.lit (.int .i64 r14.2))]) (aA rfl) rfl rfl) ?_
     refine tr1 rfl (cK (aA rfl) rfl rfl) ?_
     refine tr1 rfl (cK (aA rfl) rfl rfl) ?_
     refine tr1 rfl (aJ (v := .d (.sl 1 (r14.1.map cB))) (aA rfl) rfl rfl) ?_
     refine tr1 rfl (aJ (v := .d (.lit (.int .i64 r14.2))) (aA rfl) rfl rfl) ?_
     refine aF ?_
     refine aG ?_
     refine aG ?_
     refine aE ?_
     refine tr1 rfl (aD (v := .d (.lit (.int .i64 r14.2))) (aA rfl) rfl rfl) ?_
     refine tr1 rfl (bB (aA rfl) rfl rfl rfl) ?_
     refine tr1 rfl (aD (v := .d (.lit (.bool ((!decide (r14.2 = 0)))))) (aA rfl) rfl rfl) ?_
     obtain ⟨b16, h17, h⟩ := bind_some h
     refine bT 6 [2, 3, 4, 7] 61 b16 ?_ ?_
     ·refine bF (!decide (r14.2 = 0)) (fun c93 => ?_) (fun c93 => ?_)
      ·have h17 := aQ c93 h17
       refine aM rfl rfl (aA rfl) rfl (aA rfl) rfl c93 ?_
       refine aM rfl rfl (aA rfl) rfl (aA rfl) rfl c93 ?_
       refine aM rfl rfl (aA rfl) rfl (aA rfl) rfl c93 ?_
       refine aM rfl rfl (aA rfl) rfl (aA rfl) rfl c93 ?_
       refine aM rfl rfl (aA rfl) rfl (aA rfl) rfl c93 ?_
       refine tr1 rfl (bK (v := .d (.lit (.bool true))) (aA rfl) rfl c93 rfl rfl) ?_
       have h17 := Option.some.inj h17
       subst h17
       refine aF (aW rfl ⟨rfl, rfl, rfl, rfl, trivial⟩ rfl)
      ·have h17 := aR c93 h17
       refine aL rfl rfl (aA rfl) rfl c93 (aD (v := .d (.sl 1 (r14.1.map cB))) (aA rfl) rfl rfl) ?_
       refine aL rfl rfl (aA rfl) rfl c93 (dM (aA rfl) rfl eE.of) ?_
       refine aL rfl rfl (aA rfl) rfl c93 (aT (aA rfl) rfl iB) ?_
       refine aL rfl rfl (aA rfl) rfl c93 (aU (aA rfl) rfl (i := 0) rfl rfl bG) ?_
       refine aL rfl rfl (aA rfl) rfl c93 (bB (aA rfl) rfl rfl rfl) ?_
       refine tr1 rfl (bJ (v := .d (.lit (.bool ((decide (l_0.Players < (r14.1.length : Int))))))) (aA rfl) rfl c93 rfl rfl) ?_
       have h17 := Option.some.inj h17
       subst h17
       refine aF (aW rfl ⟨rfl, rfl, rfl, rfl, trivial⟩ rfl)
     ·refine aF ?_
      refine bL rfl (fun c18 => ?_) (fun c18 => ?_)
      ·have h := aQ c18 h
       refine aG ?_
       refine aE ?_
       refine tr1 rfl (aJ (v := .d (.lit (.bool false))) (aA rfl) rfl rfl) ?_
       refine aF ?_
       have h := Option.some.inj h
       subst h
       refine cN (cA (cG (l := [6]) ⟨rfl, trivial⟩)) ?_
       exact bM ⟨rfl, _, .one _, rfl, rfl⟩
      ·have h := aR c18 h
       refine bI ?_
       refine aG ?_
       refine aE ?_
       refine tr1 rfl (aJ (v := .d (.lit (.int .i64 (-1)))) (aA rfl) rfl rfl) ?_
       refine aF ?_
       refine aG ?_
       refine aG ?_
       refine aE ?_
       refine tr1 rfl (aJ (v := .d (.lit (.int .i64 0))) (aA rfl) rfl rfl) ?_
       refine aF ?_
       refine bR ?_
       refine cO [2, 3, 4, 7] (fun (s19 : Int × Int) => [(9, .d (.lit (.int .i64 s19.1))), (10, .d (.lit (.int .i64 s19.2)))]) (fun (s19 : Int × Int) => [.box b1 0 (aV l_0), .box b2 0 (nR x_1)]) (fun (k : Nat) (s19 : Int × Int) => fV points_2 r14.1 l_0 x_1 k s19.1 s19.2) (fun _ => rfl) ((-1), 0) h (aY [0, 1] rfl rfl (aO rfl (aO rfl (aX ⟨rfl, rfl, rfl, rfl, trivial⟩)))) ?_
       rintro k20 ⟨last_0_19, i_0_19⟩ h
       simp only [fV] at h
       refine aG ?_
       refine aG ?_
       refine aE ?_
       refine tr1 rfl (aD (v := .d (.lit (.int .i64 i_0_19))) (aA rfl) rfl rfl) ?_
       refine tr1 rfl (aD (v := .d (.sl 1 (r14.1.map cB))) (aA rfl) rfl rfl) ?_
       refine tr1 rfl (dM (aA rfl) rfl eE.of) ?_
       refine tr1 rfl (bB (aA rfl) rfl rfl rfl) ?_
       refine aF ?_
       refine bL rfl (fun c21 => ?_) (fun c21 => ?_)
       ·have h := aQ c21 h
        refine bI ?_
        refine aG ?_
        refine bR ?_
        refine aG ?_
        refine aG ?_
        obtain ⟨x22, h23, h⟩ := bind_some h
        obtain ⟨b24, h25, h⟩ := bind_some h
        obtain ⟨b29, h30, h⟩ := bind_some h
        refine fI mix 25 [2, 3, 4, 7, 9, 10] [(92, .d (.lit (.bool b29)))] ?_ ?_
        ·refine bF (decide (x22 < 0)) (fun c26 => ?_) (fun c26 => ?_)
         ·have h25 := aQ c26 h25
          have h25 := Option.some.inj h25
          subst h25
          have c31 : true = true := rfl
          have h30 := aQ c31 h30
          have h30 := Option.some.inj h30
          subst h30
          refine ⟨[(68, 0, .d (.sl 1 (r14.1.map cB))), (69, 1, .d (.lit (.int .i64 i_0_19))), (70, 2, .cp [.lit (.int .i64 x22)]), (71, 3, .d (.lit (.int .i64 x22))), (72, 4, .d (.lit (.bool ((decide (x22 < 0)))))), (73, 5, .d (.lit (.bool ((decide (x22 < 0)))))), (74, 6, .tup []), (75, 7, .tup []), (76, 8, .tup []), (77, 9, .tup []), (78, 10, .tup []), (79, 11, .tup []), (80, 12, .tup []), (81, 13, .d (.lit (.bool true))), (82, 14, .d (.lit (.bool (true)))), (83, 15, .tup []), (84, 16, .tup []), (85, 17, .tup []), (86, 18, .tup []), (87, 19, .tup []), (88, 20, .tup []), (89, 21, .tup []), (90, 22, .tup []), (91, 23, .tup []), (92, 24, .d (.lit (.bool true)))], ?_, ?_⟩
          · exact ⟨by kernel_rfl, by kernel_rfl, by kernel_rfl, by kernel_rfl, by kernel_rfl, [([], []), ([], []), ([0, 1], []), ([2], []), ([3], []), ([4], []), ([5], []), ([5], []), ([5, 6, 7], []), ([5, 8], []), ([5], []), ([5, 10], []), ([5, 9, 11], []), ([5, 12], []), ([13], []), ([14], []), ([14], []), ([14], []), ([14, 16, 17], []), ([14, 18], []), ([14], []), ([14, 20], []), ([14, 15, 19, 21], []), ([14, 22], []), ([14, 23], [])], by kernel_rfl, ⟨fun S hS => aI rfl (aN rfl (aD (v := .d (.sl 1 (r14.1.map cB))) (aA rfl) (aH hS rfl) rfl)),
      fun S hS => aI rfl (aN rfl (aD (v := .d (.lit (.int .i64 i_0_19))) (aA rfl) (aH hS rfl) rfl)),
      fun S hS => aI rfl (aN rfl (bW (aA rfl) (aH hS rfl) (aH hS rfl) eE.of (bO cB h23))),
      fun S hS => aI rfl (aN rfl (cC (aA rfl) (aH hS rfl) bG)),
      fun S hS => aI rfl (aN rfl (bB (aA rfl) (aH hS rfl) rfl rfl)),
      fun S hS => aI rfl (aN rfl (aD (v := .d (.lit (.bool ((decide (x22 < 0)))))) (aA rfl) (aH hS rfl) rfl)),
      fun S hS => aI rfl (bC rfl rfl (aA rfl) rfl (aA rfl) (aS hS rfl) c26),
      fun S hS => aI rfl (bC rfl rfl (aA rfl) rfl (aA rfl) (aS hS rfl) c26),
      fun S hS => aI rfl (bC rfl rfl (aA rfl) rfl (aA rfl) (aS hS rfl) c26),
      fun S hS => aI rfl (bC rfl rfl (aA rfl) rfl (aA rfl) (aS hS rfl) c26),
      fun S hS => aI rfl (bC rfl rfl (aA rfl) rfl (aA rfl) (aS hS rfl) c26),
      fun S hS => aI rfl (bC rfl rfl (aA rfl) rfl (aA rfl) (aS hS rfl) c26),
      fun S hS => aI rfl (bC rfl rfl (aA rfl) rfl (aA rfl) (aS hS rfl) c26),
      fun S hS => aI rfl (aN rfl (bK (v := .d (.lit (.bool true))) (aA rfl) (aH hS rfl) c26 rfl rfl)),
      fun S hS => aI rfl (aN rfl (aD (v := .d (.lit (.bool (true)))) (aA rfl) (aH hS rfl) rfl)),
      fun S hS => aI rfl (bC rfl rfl (aA rfl) rfl (aA rfl) (aS hS rfl) c31),
      fun S hS => aI rfl (bC rfl rfl (aA rfl) rfl (aA rfl) (aS hS rfl) c31),
      fun S hS => aI rfl (bC rfl rfl (aA rfl) rfl (aA rfl) (aS hS rfl) c31),
      fun S hS => aI rfl (bC rfl rfl (aA rfl) rfl (aA rfl) (aS hS rfl) c31),
      fun S hS => aI rfl (bC rfl rfl (aA rfl) rfl (aA rfl) (aS hS rfl) c31),
      fun S hS => aI rfl (bC rfl rfl (aA rfl) rfl (aA rfl) (aS hS rfl) c31),
      fun S hS => aI rfl (bC rfl rfl (aA rfl) rfl (aA rfl) (aS hS rfl) c31),
      fun S hS => aI rfl (bC rfl rfl (aA rfl) rfl (aA rfl) (aS hS rfl) c31),
      fun S hS => aI rfl (bC rfl rfl (aA rfl) rfl (aA rfl) (aS hS rfl) c31),
      fun S hS => aI rfl (aN rfl (bK (v := .d (.lit (.bool true))) (aA rfl) (aH hS rfl) c31 rfl rfl)), trivial⟩⟩
          · exact dP (aO rfl (aX ⟨rfl, rfl, rfl, rfl, rfl, rfl, trivial⟩))
         ·have h25 := aR c26 h25
          obtain ⟨x27, h28, h25⟩ := bind_some h25
          have h25 := Option.some.inj h25
          subst h25
          refine bF (decide (l_0.Players ≤ x27)) (fun c31 => ?_) (fun c31 => ?_)
          ·have h30 := aQ c31 h30
           have h30 := Option.some.inj h30
           subst h30
           refine ⟨[(68, 0, .d (.sl 1 (r14.1.map cB))), (69, 1, .d (.lit (.int .i64 i_0_19))), (70, 2, .cp [.lit (.int .i64 x22)]), (71, 3, .d (.lit (.int .i64 x22))), (72, 4, .d (.lit (.bool ((decide (x22 < 0)))))), (73, 5, .d (.lit (.bool ((decide (x22 < 0)))))), (74, 6, .d (.sl 1 (r14.1.map cB))), (75, 7, .d (.lit (.int .i64 i_0_19))), (76, 8, .cp [.lit (.int .i64 x27)]), (77, 9, .d (.lit (.int .i64 x27))), (78, 10, .bp b1 0 0), (79, 11, .d (.lit (.int .i64 l_0.Players))), (80, 12, .d (.lit (.bool ((decide (l_0.Players ≤ x27)))))), (81, 13, .d (.lit (.bool ((decide (l_0.Players ≤ x27)))))), (82, 14, .d (.lit (.bool (decide (l_0.Players ≤ x27))))), (83, 15, .tup []), (84, 16, .tup []), (85, 17, .tup []), (86, 18, .tup []), (87, 19, .tup []), (88, 20, .tup []), (89, 21, .tup []), (90, 22, .tup []), (91, 23, .tup []), (92, 24, .d (.lit (.bool true)))], ?_, ?_⟩
           · exact ⟨by kernel_rfl, by kernel_rfl, by kernel_rfl, by kernel_rfl, by kernel_rfl, [([], []), ([], []), ([0, 1], []), ([2], []), ([3], []), ([4], []), ([5], []), ([5], []), ([5, 6, 7], []), ([5, 8], []), ([5], []), ([5, 10], []), ([5, 9, 11], []), ([5, 12], []), ([13], []), ([14], []), ([14], []), ([14], []), ([14, 16, 17], []), ([14, 18], []), ([14], []), ([14, 20], []), ([14, 15, 19, 21], []), ([14, 22], []), ([14, 23], [])], by kernel_rfl, ⟨fun S hS => aI rfl (aN rfl (aD (v := .d (.sl 1 (r14.1.map cB))) (aA rfl) (aH hS rfl) rfl)),
      fun S hS => aI rfl (aN rfl (aD (v := .d (.lit (.int .i64 i_0_19))) (aA rfl) (aH hS rfl) rfl)),
      fun S hS => aI rfl (aN rfl (bW (aA rfl) (aH hS rfl) (aH hS rfl) eE.of (bO cB h23))),
      fun S hS => aI rfl (aN rfl (cC (aA rfl) (aH hS rfl) bG)),
      fun S hS => aI rfl (aN rfl (bB (aA rfl) (aH hS rfl) rfl rfl)),
      fun S hS => aI rfl (aN rfl (aD (v := .d (.lit (.bool ((decide (x22 < 0)))))) (aA rfl) (aH hS rfl) rfl)),
      fun S hS => aI rfl (bE rfl rfl (aA rfl) (aS hS rfl) c26 (aD (v := .d (.sl 1 (r14.1.map cB))) (aA rfl) (aH hS rfl) rfl)),
      fun S hS => aI rfl (bE rfl rfl (aA rfl) (aS hS rfl) c26 (aD (v := .d (.lit (.int .i64 i_0_19))) (aA rfl) (aH hS rfl) rfl)),
      fun S hS => aI rfl (bE rfl rfl (aA rfl) (aS hS rfl) c26 (bW (aA rfl) (aH hS rfl) (aH hS rfl) eE.of (bO cB h28))),
      fun S hS => aI rfl (bE rfl rfl (aA rfl) (aS hS rfl) c26 (cC (aA rfl) (aH hS rfl) bG)),
      fun S hS => aI rfl (bE rfl rfl (aA rfl) (aS hS rfl) c26 (aT (aA rfl) (aH hS rfl) iB)),
      fun S hS => aI rfl (bE rfl rfl (aA rfl) (aS hS rfl) c26 (aU (aA rfl) (aH hS rfl) (i := 0) rfl rfl bG)),
      fun S hS => aI rfl (bE rfl rfl (aA rfl) (aS hS rfl) c26 (bB (aA rfl) (aH hS rfl) (aH hS rfl) rfl)),
      fun S hS => aI rfl (aN rfl (bJ (v := .d (.lit (.bool ((decide (l_0.Players ≤ x27)))))) (aA rfl) (aH hS rfl) c26 (aH hS rfl) rfl)),
      fun S hS => aI rfl (aN rfl (aD (v := .d (.lit (.bool (decide (l_0.Players ≤ x27))))) (aA rfl) (aH hS rfl) rfl)),
      fun S hS => aI rfl (bC rfl rfl (aA rfl) rfl (aA rfl) (aS hS rfl) c31),
      fun S hS => aI rfl (bC rfl rfl (aA rfl) rfl (aA rfl) (aS hS rfl) c31),
      fun S hS => aI rfl (bC rfl rfl (aA rfl) rfl (aA rfl) (aS hS rfl) c31),
      fun S hS => aI rfl (bC rfl rfl (aA rfl) rfl (aA rfl) (aS hS rfl) c31),
      fun S hS => aI rfl (bC rfl rfl (aA rfl) rfl (aA rfl) (aS hS rfl) c31),
      fun S hS => aI rfl (bC rfl rfl (aA rfl) rfl (aA rfl) (aS hS rfl) c31),
      fun S hS => aI rfl (bC rfl rfl (aA rfl) rfl (aA rfl) (aS hS rfl) c31),
      fun S hS => aI rfl (bC rfl rfl (aA rfl) rfl (aA rfl) (aS hS rfl) c31),
      fun S hS => aI rfl (bC rfl rfl (aA rfl) rfl (aA rfl) (aS hS rfl) c31),
      fun S hS => aI rfl (aN rfl (bK (v := .d (.lit (.bool true))) (aA rfl) (aH hS rfl) c31 rfl rfl)), trivial⟩⟩
           · exact dP (aO rfl (aX ⟨rfl, rfl, rfl, rfl, rfl, rfl, trivial⟩))
          ·have h30 := aR c31 h30
           obtain ⟨x32, h33, h30⟩ := bind_some h30
           obtain ⟨r34, h35, h30⟩ := bind_some h30
           have h30 := Option.some.inj h30
           subst h30
           refine ⟨[(68, 0, .d (.sl 1 (r14.1.map cB))), (69, 1, .d (.lit (.int .i64 i_0_19))), (70, 2, .cp [.lit (.int .i64 x22)]), (71, 3, .d (.lit (.int .i64 x22))), (72, 4, .d (.lit (.bool ((decide (x22 < 0)))))), (73, 5, .d (.lit (.bool ((decide (x22 < 0)))))), (74, 6, .d (.sl 1 (r14.1.map cB))), (75, 7, .d (.lit (.int .i64 i_0_19))), (76, 8, .cp [.lit (.int .i64 x27)]), (77, 9, .d (.lit (.int .i64 x27))), (78, 10, .bp b1 0 0), (79, 11, .d (.lit (.int .i64 l_0.Players))), (80, 12, .d (.lit (.bool ((decide (l_0.Players ≤ x27)))))), (81, 13, .d (.lit (.bool ((decide (l_0.Players ≤ x27)))))), (82, 14, .d (.lit (.bool (decide (l_0.Players ≤ x27))))), (83, 15, .agg (aV l_0)), (84, 16, .d (.sl 1 (r14.1.map cB))), (85, 17, .d (.lit (.int .i64 i_0_19))), (86, 18, .cp [.lit (.int .i64 x32)]), (87, 19, .d (.lit (.int .i64 x32))), (88, 20, .bp b2 0 1), (89, 21, .d (.lit (.int .i64 x_1.Week))), (90, 22, .d (.lit (.bool r34))), (91, 23, .d (.lit (.bool (!r34)))), (92, 24, .d (.lit (.bool (!r34))))], ?_, ?_⟩
           · exact ⟨by kernel_rfl, by kernel_rfl, by kernel_rfl, by kernel_rfl, by kernel_rfl, [([], []), ([], []), ([0, 1], []), ([2], []), ([3], []), ([4], []), ([5], []), ([5], []), ([5, 6, 7], []), ([5, 8], []), ([5], []), ([5, 10], []), ([5, 9, 11], []), ([5, 12], []), ([13], []), ([14], []), ([14], []), ([14], []), ([14, 16, 17], []), ([14, 18], []), ([14], []), ([14, 20], []), ([14, 15, 19, 21], []), ([14, 22], []), ([14, 23], [])], by kernel_rfl, ⟨fun S hS => aI rfl (aN rfl (aD (v := .d (.sl 1 (r14.1.map cB))) (aA rfl) (aH hS rfl) rfl)),
      fun S hS => aI rfl (aN rfl (aD (v := .d (.lit (.int .i64 i_0_19))) (aA rfl) (aH hS rfl) rfl)),
      fun S hS => aI rfl (aN rfl (bW (aA rfl) (aH hS rfl) (aH hS rfl) eE.of (bO cB h23))),
      fun S hS => aI rfl (aN rfl (cC (aA rfl) (aH hS rfl) bG)),
      fun S hS => aI rfl (aN rfl (bB (aA rfl) (aH hS rfl) rfl rfl)),
      fun S hS => aI rfl (aN rfl (aD (v := .d (.lit (.bool ((decide (x22 < 0)))))) (aA rfl) (aH hS rfl) rfl)),
      fun S hS => aI rfl (bE rfl rfl (aA rfl) (aS hS rfl) c26 (aD (v := .d (.sl 1 (r14.1.map cB))) (aA rfl) (aH hS rfl) rfl)),
      fun S hS => aI rfl (bE rfl rfl (aA rfl) (aS hS rfl) c26 (aD (v := .d (.lit (.int .i64 i_0_19))) (aA rfl) (aH hS rfl) rfl)),
      fun S hS => aI rfl (bE rfl rfl (aA rfl) (aS hS rfl) c26 (bW (aA rfl) (aH hS rfl) (aH hS rfl) eE.of (bO cB h28))),
      fun S hS => aI rfl (bE rfl rfl (aA rfl) (aS hS rfl) c26 (cC (aA rfl) (aH hS rfl) bG)),
      fun S hS => aI rfl (bE rfl rfl (aA rfl) (aS hS rfl) c26 (aT (aA rfl) (aH hS rfl) iB)),
      fun S hS => aI rfl (bE rfl rfl (aA rfl) (aS hS rfl) c26 (aU (aA rfl) (aH hS rfl) (i := 0) rfl rfl bG)),
      fun S hS => aI rfl (bE rfl rfl (aA rfl) (aS hS rfl) c26 (bB (aA rfl) (aH hS rfl) (aH hS rfl) rfl)),
      fun S hS => aI rfl (aN rfl (bJ (v := .d (.lit (.bool ((decide (l_0.Players ≤ x27)))))) (aA rfl) (aH hS rfl) c26 (aH hS rfl) rfl)),
      fun S hS => aI rfl (aN rfl (aD (v := .d (.lit (.bool (decide (l_0.Players ≤ x27))))) (aA rfl) (aH hS rfl) rfl)),
      fun S hS => aI rfl (bE rfl rfl (aA rfl) (aS hS rfl) c31 (cL (aA rfl) (aH hS rfl) (i := 0) rfl eH (es := (aV l_0)) rfl rfl)),
      fun S hS => aI rfl (bE rfl rfl (aA rfl) (aS hS rfl) c31 (aD (v := .d (.sl 1 (r14.1.map cB))) (aA rfl) (aH hS rfl) rfl)),
      fun S hS => aI rfl (bE rfl rfl (aA rfl) (aS hS rfl) c31 (aD (v := .d (.lit (.int .i64 i_0_19))) (aA rfl) (aH hS rfl) rfl)),
      fun S hS => aI rfl (bE rfl rfl (aA rfl) (aS hS rfl) c31 (bW (aA rfl) (aH hS rfl) (aH hS rfl) eE.of (bO cB h33))),
      fun S hS => aI rfl (bE rfl rfl (aA rfl) (aS hS rfl) c31 (cC (aA rfl) (aH hS rfl) bG)),
      fun S hS => aI rfl (bE rfl rfl (aA rfl) (aS hS rfl) c31 (aT (aA rfl) (aH hS rfl) nJ)),
      fun S hS => aI rfl (bE rfl rfl (aA rfl) (aS hS rfl) c31 (aU (aA rfl) (aH hS rfl) (i := 1) rfl rfl bG)),
      fun S hS => aI rfl (bE rfl rfl (aA rfl) (aS hS rfl) c31 (bZ (aA rfl) (.func _ _ Try.call28) (ev2 (aH hS rfl) (ev2 (aH hS rfl) (ev2 (aH hS rfl) evn))) rfl (BVs.refl _ _) (wS _ _ _ h35) rfl)),
      fun S hS => aI rfl (bE rfl rfl (aA rfl) (aS hS rfl) c31 (eQ (aA rfl) (aH hS rfl))),
      fun S hS => aI rfl (aN rfl (bJ (v := .d (.lit (.bool (!r34)))) (aA rfl) (aH hS rfl) c31 (aH hS rfl) rfl)), trivial⟩⟩
           · exact dP (aO rfl (aX ⟨rfl, rfl, rfl, rfl, rfl, rfl, trivial⟩))
        ·refine aF ?_
         refine bL rfl (fun c36 => ?_) (fun c36 => ?_)
         ·have h := aQ c36 h
          refine aG ?_
          refine aE ?_
          refine tr1 rfl (aJ (v := .d (.lit (.bool false))) (aA rfl) rfl rfl) ?_
          refine aF ?_
          have h := Option.some.inj h
          subst h
          refine cN (cA (cG (l := [6]) ⟨rfl, trivial⟩)) ?_
          exact bM ⟨rfl, _, .one _, rfl, rfl⟩
         ·have h := aR c36 h
          refine bI ?_
          refine aG ?_
          obtain ⟨x37, h38, h⟩ := bind_some h
          obtain ⟨r39, h40, h⟩ := bind_some h
          refine fI mix 12 [2, 3, 4, 7, 9, 10] [(11, .d (.lit (.int .i64 r39.1))), (103, .d (.lit (.int .i64 r39.2)))] ?_ ?_
          ·refine ⟨[(94, 0, .agg (aV l_0)), (95, 1, .d (.sl 1 (r14.1.map cB))), (96, 2, .d (.lit (.int .i64 i_0_19))), (97, 3, .cp [.lit (.int .i64 x37)]), (98, 4, .d (.lit (.int .i64 x37))), (99, 5, .bp b2 0 1), (100, 6, .d (.lit (.int .i64 x_1.Week))), (101, 7, .tup [.d (.lit (.int .i64 r39.1)), .d (.lit (.int .i64 r39.2))]), (93, 8, .tup [.d (.lit (.int .i64 r39.1)), .d (.lit (.int .i64 r39.2))]), (102, 9, .d (.lit (.int .i64 r39.1))), (103, 10, .d (.lit (.int .i64 r39.2))), (11, 11, .d (.lit (.int .i64 r39.1)))], ?_, ?_⟩
           · exact ⟨by kernel_rfl, by kernel_rfl, by kernel_rfl, by kernel_rfl, by kernel_rfl, [([], []), ([], []), ([], []), ([1, 2], []), ([3], []), ([], []), ([5], []), ([0, 4, 6], []), ([7], []), ([8], []), ([8], []), ([9], [])], by kernel_rfl, ⟨fun S hS => aI rfl (aN rfl (cL (aA rfl) (aH hS rfl) (i := 0) rfl eH (es := (aV l_0)) rfl rfl)),
      fun S hS => aI rfl (aN rfl (aD (v := .d (.sl 1 (r14.1.map cB))) (aA rfl) (aH hS rfl) rfl)),
      fun S hS => aI rfl (aN rfl (aD (v := .d (.lit (.int .i64 i_0_19))) (aA rfl) (aH hS rfl) rfl)),
      fun S hS => aI rfl (aN rfl (bW (aA rfl) (aH hS rfl) (aH hS rfl) eE.of (bO cB h38))),
      fun S hS => aI rfl (aN rfl (cC (aA rfl) (aH hS rfl) bG)),
      fun S hS => aI rfl (aN rfl (aT (aA rfl) (aH hS rfl) nJ)),
      fun S hS => aI rfl (aN rfl (aU (aA rfl) (aH hS rfl) (i := 1) rfl rfl bG)),
      fun S hS => aI rfl (aN rfl (bZ (aA rfl) (.func _ _ Try.call22) (ev2 (aH hS rfl) (ev2 (aH hS rfl) (ev2 (aH hS rfl) evn))) rfl (BVs.refl _ _) (sY _ _ _ h40) rfl)),
      fun S hS => aI rfl (aN rfl (aD (v := .tup [.d (.lit (.int .i64 r39.1)), .d (.lit (.int .i64 r39.2))]) (aA rfl) (aH hS rfl) rfl)),
      fun S hS => aI rfl (aN rfl (cK (aA rfl) (aH hS rfl) rfl)),
      fun S hS => aI rfl (aN rfl (cK (aA rfl) (aH hS rfl) rfl)),
      fun S hS => aI rfl (aN rfl (aJ (v := .d (.lit (.int .i64 r39.1))) (aA rfl) (aH hS rfl) rfl)), trivial⟩⟩
           · exact dP (aO rfl (aO rfl (aX ⟨rfl, rfl, rfl, rfl, rfl, rfl, trivial⟩)))
          ·refine tr1 rfl (aJ (v := .d (.lit (.int .i64 r39.2))) (aA rfl) rfl rfl) ?_
           refine aF ?_
           refine aG ?_
           obtain ⟨x41, h42, h⟩ := bind_some h
           obtain ⟨r43, h44, h⟩ := bind_some h
           refine fI mix 12 [2, 3, 4, 7, 9, 10, 11, 12] [(13, .d (.lit (.int .i64 r43.1))), (114, .d (.lit (.int .i64 r43.2)))] ?_ ?_
           ·refine ⟨[(105, 0, .agg (aV l_0)), (106, 1, .d (.sl 1 (r14.1.map cB))), (107, 2, .d (.lit (.int .i64 i_0_19))), (108, 3, .cp [.lit (.int .i64 x41)]), (109, 4, .d (.lit (.int .i64 x41))), (110, 5, .bp b2 0 1), (111, 6, .d (.lit (.int .i64 x_1.Week))), (112, 7, .tup [.d (.lit (.int .i64 r43.1)), .d (.lit (.int .i64 r43.2))]), (104, 8, .tup [.d (.lit (.int .i64 r43.1)), .d (.lit (.int .i64 r43.2))]), (113, 9, .d (.lit (.int .i64 r43.1))), (114, 10, .d (.lit (.int .i64 r43.2))), (13, 11, .d (.lit (.int .i64 r43.1)))], ?_, ?_⟩
            · exact ⟨by kernel_rfl, by kernel_rfl, by kernel_rfl, by kernel_rfl, by kernel_rfl, [([], []), ([], []), ([], []), ([1, 2], []), ([3], []), ([], []), ([5], []), ([0, 4, 6], []), ([7], []), ([8], []), ([8], []), ([9], [])], by kernel_rfl, ⟨fun S hS => aI rfl (aN rfl (cL (aA rfl) (aH hS rfl) (i := 0) rfl eH (es := (aV l_0)) rfl rfl)),
      fun S hS => aI rfl (aN rfl (aD (v := .d (.sl 1 (r14.1.map cB))) (aA rfl) (aH hS rfl) rfl)),
      fun S hS => aI rfl (aN rfl (aD (v := .d (.lit (.int .i64 i_0_19))) (aA rfl) (aH hS rfl) rfl)),
      fun S hS => aI rfl (aN rfl (bW (aA rfl) (aH hS rfl) (aH hS rfl) eE.of (bO cB h42))),
      fun S hS => aI rfl (aN rfl (cC (aA rfl) (aH hS rfl) bG)),
      fun S hS => aI rfl (aN rfl (aT (aA rfl) (aH hS rfl) nJ)),
      fun S hS => aI rfl (aN rfl (aU (aA rfl) (aH hS rfl) (i := 1) rfl rfl bG)),
      fun S hS => aI rfl (aN rfl (bZ (aA rfl) (.func _ _ Try.call24) (ev2 (aH hS rfl) (ev2 (aH hS rfl) (ev2 (aH hS rfl) evn))) rfl (BVs.refl _ _) (uB _ _ _ h44) rfl)),
      fun S hS => aI rfl (aN rfl (aD (v := .tup [.d (.lit (.int .i64 r43.1)), .d (.lit (.int .i64 r43.2))]) (aA rfl) (aH hS rfl) rfl)),
      fun S hS => aI rfl (aN rfl (cK (aA rfl) (aH hS rfl) rfl)),
      fun S hS => aI rfl (aN rfl (cK (aA rfl) (aH hS rfl) rfl)),
      fun S hS => aI rfl (aN rfl (aJ (v := .d (.lit (.int .i64 r43.1))) (aA rfl) (aH hS rfl) rfl)), trivial⟩⟩
            · exact dP (aO rfl (aO rfl (aX ⟨rfl, rfl, rfl, rfl, rfl, rfl, rfl, rfl, trivial⟩)))
           ·refine tr1 rfl (aJ (v := .d (.lit (.int .i64 r43.2))) (aA rfl) rfl rfl) ?_
            refine aF ?_
            refine aG ?_
            refine aG ?_
            refine aE ?_
            refine tr1 rfl (aD (v := .d (.lit (.int .i64 r39.2))) (aA rfl) rfl rfl) ?_
            refine tr1 rfl (bB (aA rfl) rfl rfl rfl) ?_
            refine tr1 rfl (aD (v := .d (.lit (.bool ((!decide (r39.2 = 0)))))) (aA rfl) rfl rfl) ?_
            obtain ⟨b45, h46, h⟩ := bind_some h
            refine bT 3 [2, 3, 4, 7, 9, 10, 11, 13] 120 b45 ?_ ?_
            ·refine bF (!decide (r39.2 = 0)) (fun c57 => ?_) (fun c57 => ?_)
             ·have h46 := aQ c57 h46
              refine aM rfl rfl (aA rfl) rfl (aA rfl) rfl c57 ?_
              refine aM rfl rfl (aA rfl) rfl (aA rfl) rfl c57 ?_
              refine tr1 rfl (bK (v := .d (.lit (.bool true))) (aA rfl) rfl c57 rfl rfl) ?_
              have h46 := Option.some.inj h46
              subst h46
              refine aF (aW rfl ⟨rfl, rfl, rfl, rfl, rfl, rfl, rfl, rfl, trivial⟩ rfl)
             ·have h46 := aR c57 h46
              refine aL rfl rfl (aA rfl) rfl c57 (aD (v := .d (.lit (.int .i64 r43.2))) (aA rfl) rfl rfl) ?_
              refine aL rfl rfl (aA rfl) rfl c57 (bB (aA rfl) rfl rfl rfl) ?_
              refine tr1 rfl (bJ (v := .d (.lit (.bool ((!decide (r43.2 = 0)))))) (aA rfl) rfl c57 rfl rfl) ?_
              have h46 := Option.some.inj h46
              subst h46
              refine aF (aW rfl ⟨rfl, rfl, rfl, rfl, rfl, rfl, rfl, rfl, trivial⟩ rfl)
            ·refine tr1 rfl (aD (v := .d (.lit (.bool b45))) (aA rfl) rfl rfl) ?_
             obtain ⟨b47, h48, h⟩ := bind_some h
             refine bT 5 [2, 3, 4, 7, 9, 10, 11] 126 b47 ?_ ?_
             ·refine bF (b45) (fun c56 => ?_) (fun c56 => ?_)
              ·have h48 := aQ c56 h48
               refine aM rfl rfl (aA rfl) rfl (aA rfl) rfl c56 ?_
               refine aM rfl rfl (aA rfl) rfl (aA rfl) rfl c56 ?_
               refine aM rfl rfl (aA rfl) rfl (aA rfl) rfl c56 ?_
               refine aM rfl rfl (aA rfl) rfl (aA rfl) rfl c56 ?_
               refine tr1 rfl (bK (v := .d (.lit (.bool true))) (aA rfl) rfl c56 rfl rfl) ?_
               have h48 := Option.some.inj h48
               subst h48
               refine aF (aW rfl ⟨rfl, rfl, rfl, rfl, rfl, rfl, rfl, trivial⟩ rfl)
              ·have h48 := aR c56 h48
               refine aL rfl rfl (aA rfl) rfl c56 (aD (v := .d (.lit (.int .i64 r43.1))) (aA rfl) rfl rfl) ?_
               refine aL rfl rfl (aA rfl) rfl c56 (aD (v := .d (.lit (.int .i64 i_0_19))) (aA rfl) rfl rfl) ?_
               refine aL rfl rfl (aA rfl) rfl c56 (bA (aA rfl) rfl rfl rfl) ?_
               refine aL rfl rfl (aA rfl) rfl c56 (bB (aA rfl) rfl rfl rfl) ?_
               refine tr1 rfl (bJ (v := .d (.lit (.bool ((!decide (r43.1 = (w64 (i_0_19 + 1)))))))) (aA rfl) rfl c56 rfl rfl) ?_
               have h48 := Option.some.inj h48
               subst h48
               refine aF (aW rfl ⟨rfl, rfl, rfl, rfl, rfl, rfl, rfl, trivial⟩ rfl)
             ·refine tr1 rfl (aD (v := .d (.lit (.bool b47))) (aA rfl) rfl rfl) ?_
              obtain ⟨b49, h50, h⟩ := bind_some h
              refine bT 8 [2, 3, 4, 7, 10, 11] 135 b49 ?_ ?_
              ·refine bF (b47) (fun c52 => ?_) (fun c52 => ?_)
               ·have h50 := aQ c52 h50
                refine aM rfl rfl (aA rfl) rfl (aA rfl) rfl c52 ?_
                refine aM rfl rfl (aA rfl) rfl (aA rfl) rfl c52 ?_
                refine aM rfl rfl (aA rfl) rfl (aA rfl) rfl c52 ?_
                refine jX rfl rfl (aA rfl) rfl (aA rfl) rfl ?_
                refine jX rfl rfl (aA rfl) rfl (aA rfl) rfl ?_
                refine jX rfl rfl (aA rfl) rfl (aA rfl) rfl ?_
                refine aM rfl rfl (aA rfl) rfl (aA rfl) rfl c52 ?_
                refine tr1 rfl (bK (v := .d (.lit (.bool true))) (aA rfl) rfl c52 rfl rfl) ?_
                have h50 := Option.some.inj h50
                subst h50
                refine aF (aW rfl ⟨rfl, rfl, rfl, rfl, rfl, rfl, trivial⟩ rfl)
               ·have h50 := aR c52 h50
                refine aL rfl rfl (aA rfl) rfl c52 (aD (v := .d (.lit (.int .i64 last_0_19))) (aA rfl) rfl rfl) ?_
                refine aL rfl rfl (aA rfl) rfl c52 (bB (aA rfl) rfl rfl rfl) ?_
                refine aL rfl rfl (aA rfl) rfl c52 (aD (v := .d (.lit (.bool ((decide (0 ≤ last_0_19)))))) (aA rfl) rfl rfl) ?_
                obtain ⟨b53, h54, h50⟩ := bind_some h50
                refine bT 4 [2, 3, 4, 7, 10, 11, 127, 128, 129, 130] 134 b53 ?_ ?_
                ·refine bF (decide (0 ≤ last_0_19)) (fun c55 => ?_) (fun c55 => ?_)
                 ·have h54 := aQ c55 h54
                  refine aL rfl rfl (aA rfl) rfl c55 (aD (v := .d (.lit (.int .i64 r39.1))) (aA rfl) rfl rfl) ?_
                  refine aL rfl rfl (aA rfl) rfl c55 (aD (v := .d (.lit (.int .i64 last_0_19))) (aA rfl) rfl rfl) ?_
                  refine aL rfl rfl (aA rfl) rfl c55 (bB (aA rfl) rfl rfl rfl) ?_
                  refine aL rfl rfl (aA rfl) rfl c52 (bK (v := .d (.lit (.bool ((decide (last_0_19 < r39.1)))))) (aA rfl) rfl c55 rfl rfl) ?_
                  have h54 := Option.some.inj h54
                  subst h54
                  refine aF (aW rfl ⟨rfl, rfl, rfl, rfl, rfl, rfl, rfl, rfl, rfl, rfl, trivial⟩ rfl)
                 ·have h54 := aR c55 h54
                  refine aM rfl rfl (aA rfl) rfl (aA rfl) rfl c55 ?_
                  refine aM rfl rfl (aA rfl) rfl (aA rfl) rfl c55 ?_
                  refine aM rfl rfl (aA rfl) rfl (aA rfl) rfl c55 ?_
                  refine aL rfl rfl (aA rfl) rfl c52 (bJ (v := .d (.lit (.bool false))) (aA rfl) rfl c55 rfl rfl) ?_
                  have h54 := Option.some.inj h54
                  subst h54
                  refine aF (aW rfl ⟨rfl, rfl, rfl, rfl, rfl, rfl, rfl, rfl, rfl, rfl, trivial⟩ rfl)
                ·refine tr1 rfl (bJ (v := .d (.lit (.bool b53))) (aA rfl) rfl c52 rfl rfl) ?_
                 have h50 := Option.some.inj h50
                 subst h50
                 refine aF (aW rfl ⟨rfl, rfl, rfl, rfl, rfl, rfl, trivial⟩ rfl)
              ·refine aF ?_
               refine bL rfl (fun c51 => ?_) (fun c51 => ?_)
               ·have h := aQ c51 h
                refine aG ?_
                refine aE ?_
                refine tr1 rfl (aJ (v := .d (.lit (.bool false))) (aA rfl) rfl rfl) ?_
                refine aF ?_
                have h := Option.some.inj h
                subst h
                refine cN (cA (cG (l := [6]) ⟨rfl, trivial⟩)) ?_
                exact bM ⟨rfl, _, .one _, rfl, rfl⟩
               ·have h := aR c51 h
                refine bI ?_
                refine aE ?_
                refine tr1 rfl (aD (v := .d (.lit (.int .i64 r39.1))) (aA rfl) rfl rfl) ?_
                refine tr1 rfl (aJ (v := .d (.lit (.int .i64 r39.1))) (aA rfl) rfl rfl) ?_
                refine dX ?_
                refine aE ?_
                refine tr1 rfl (aD (v := .d (.lit (.int .i64 i_0_19))) (aA rfl) rfl rfl) ?_
                refine tr1 rfl (bA (aA rfl) rfl rfl rfl) ?_
                refine tr1 rfl (aJ (v := .d (.lit (.int .i64 ((w64 (i_0_19 + 1)))))) (aA rfl) rfl rfl) ?_
                refine aF ?_
                exact ⟨(r39.1, w64 (i_0_19 + 1)), h, aY [0, 1] rfl rfl (aO rfl (aO rfl (aX ⟨rfl, rfl, rfl, rfl, trivial⟩)))⟩
       ·have h := aR c21 h
        refine cU ?_
        refine .inl ⟨rfl, ?_⟩
        simp only [jC] at h
        refine aG ?_
        refine aE ?_
        refine tr1 rfl (cL (aA rfl) rfl (i := 0) rfl eH (es := (aV l_0)) rfl rfl) ?_
        refine tr1 rfl (aT (aA rfl) rfl rS) ?_
        refine tr1 rfl (aU (aA rfl) rfl (i := 1) rfl rfl bG) ?_
        refine tr1 rfl (aT (aA rfl) rfl nJ) ?_
        refine tr1 rfl (aU (aA rfl) rfl (i := 1) rfl rfl bG) ?_
        refine tr1 rfl (aD (v := .d (.lit (.int .i64 points_2))) (aA rfl) rfl rfl) ?_
        obtain ⟨r58, h59, h⟩ := bind_some h
        refine tr1 rfl (mA (aA rfl) (.func _ _ Try.call26) rfl rfl (yH _ _ _ _ h59)) ?_
        refine bQ rfl (fP (zs := [.lit (.int .i64 0), .lit (.int .i64 0), .sl 5 ((([] : List aC)).map aB), .sl 3 ((([] : List aZ)).map aK), .sl 3 ((([] : List aZ)).map aK)]) (aA rfl) Try.zeroValue25 rfl rfl) ?_
        rintro _ ⟨b60, rfl⟩
        refine tr1 rfl (cE (i := 2) rfl rfl rfl rfl rfl Try.sizeOf25 rfl (aA rfl) (Nat.le_of_ble_eq_true rfl) (ds' := (aV r58)) rfl) ?_
        refine aF ?_
        refine aG ?_
        refine aG ?_
        refine aE ?_
        refine tr1 rfl (cL (aA rfl) rfl (i := 2) rfl eH (es := (aV r58)) rfl rfl) ?_
        obtain ⟨r61, h62, h⟩ := bind_some h
        refine tr1 rfl (bZ (aA rfl) (.func _ _ Try.call15) rfl rfl (BVs.refl _ _) (oZ _ h62) rfl) ?_
        refine tr1 rfl (bB (aA rfl) rfl rfl rfl) ?_
        refine aF ?_
        refine bL rfl (fun c63 => ?_) (fun c63 => ?_)
        ·have h := aQ c63 h
         refine aG ?_
         refine aE ?_
         obtain ⟨r64, h65, h⟩ := bind_some h
         refine tr1 rfl (bZ (aA rfl) (.func _ _ Try.call16) rfl rfl (BVs.refl _ _) (oX h65) rfl) ?_
         refine tr1 rfl (aJ (v := .d (.lit (.bool r64))) (aA rfl) rfl rfl) ?_
         refine aF ?_
         have h := Option.some.inj h
         subst h
         refine cN (cA (cG (l := [6]) ⟨rfl, trivial⟩)) ?_
         exact bM ⟨rfl, _, .one _, rfl, rfl⟩
        ·have h := aR c63 h
         refine bI ?_
         refine aG ?_
         refine aE ?_
         refine tr1 rfl (cL (aA rfl) rfl (i := 0) rfl eH (es := (aV l_0)) rfl rfl) ?_
         refine tr1 rfl (aT (aA rfl) rfl rS) ?_
         refine tr1 rfl (aU (aA rfl) rfl (i := 1) rfl rfl bG) ?_
         refine tr1 rfl (aT (aA rfl) rfl nJ) ?_
         refine tr1 rfl (aU (aA rfl) rfl (i := 1) rfl rfl bG) ?_
         obtain ⟨r66, h67, h⟩ := bind_some h
         refine tr1 rfl (bZ (aA rfl) (.func _ _ Try.call22) rfl rfl (BVs.refl _ _) (sY _ _ _ h67) rfl) ?_
         refine tr1 rfl (aD (v := .tup [.d (.lit (.int .i64 r66.1)), .d (.lit (.int .i64 r66.2))]) (aA rfl) rfl rfl) ?_
         refine tr1 rfl (cK (aA rfl) rfl rfl) ?_
         refine tr1 rfl (cK (aA rfl) rfl rfl) ?_
         refine tr1 rfl (aJ (v := .d (.lit (.int .i64 r66.1))) (aA rfl) rfl rfl) ?_
         refine tr1 rfl (aJ (v := .d (.lit (.int .i64 r66.2))) (aA rfl) rfl rfl) ?_
         refine aF ?_
         refine aG ?_
         refine aE ?_
         refine tr1 rfl (cL (aA rfl) rfl (i := 2) rfl eH (es := (aV r58)) rfl rfl) ?_
         refine tr1 rfl (aT (aA rfl) rfl rS) ?_
         refine tr1 rfl (aU (aA rfl) rfl (i := 1) rfl rfl bG) ?_
         refine tr1 rfl (aT (aA rfl) rfl nJ) ?_
         refine tr1 rfl (aU (aA rfl) rfl (i := 1) rfl rfl bG) ?_
         obtain ⟨r68, h69, h⟩ := bind_some h
         refine tr1 rfl (bZ (aA rfl) (.func _ _ Try.call22) rfl rfl (BVs.refl _ _) (sY _ _ _ h69) rfl) ?_
         refine tr1 rfl (aD (v := .tup [.d (.lit (.int .i64 r68.1)), .d (.lit (.int .i64 r68.2))]) (aA rfl) rfl rfl) ?_
         refine tr1 rfl (cK (aA rfl) rfl rfl) ?_
         refine tr1 rfl (cK (aA rfl) rfl rfl) ?_
         refine tr1 rfl (aJ (v := .d (.lit (.int .i64 r68.1))) (aA rfl) rfl rfl) ?_
         refine tr1 rfl (aJ (v := .d (.lit (.int .i64 r68.2))) (aA rfl) rfl rfl) ?_
         refine aF ?_
         refine aG ?_
         refine aG ?_
         refine aE ?_
         refine tr1 rfl (aD (v := .d (.lit (.int .i64 r66.2))) (aA rfl) rfl rfl) ?_
         refine tr1 rfl (bB (aA rfl) rfl rfl rfl) ?_
         refine tr1 rfl (aD (v := .d (.lit (.bool ((!decide (r66.2 = 0)))))) (aA rfl) rfl rfl) ?_
         obtain ⟨b70, h71, h⟩ := bind_some h
         refine bT 3 [3, 4, 15, 16, 18] 171 b70 ?_ ?_
         ·refine bF (!decide (r66.2 = 0)) (fun c92 => ?_) (fun c92 => ?_)
          ·have h71 := aQ c92 h71
           refine aM rfl rfl (aA rfl) rfl (aA rfl) rfl c92 ?_
           refine aM rfl rfl (aA rfl) rfl (aA rfl) rfl c92 ?_
           refine tr1 rfl (bK (v := .d (.lit (.bool true))) (aA rfl) rfl c92 rfl rfl) ?_
           have h71 := Option.some.inj h71
           subst h71
           refine aF (aW rfl ⟨rfl, rfl, rfl, rfl, rfl, trivial⟩ rfl)
          ·have h71 := aR c92 h71
           refine aL rfl rfl (aA rfl) rfl c92 (aD (v := .d (.lit (.int .i64 r68.2))) (aA rfl) rfl rfl) ?_
           refine aL rfl rfl (aA rfl) rfl c92 (bB (aA rfl) rfl rfl rfl) ?_
           refine tr1 rfl (bJ (v := .d (.lit (.bool ((!decide (r68.2 = 0)))))) (aA rfl) rfl c92 rfl rfl) ?_
           have h71 := Option.some.inj h71
           subst h71
           refine aF (aW rfl ⟨rfl, rfl, rfl, rfl, rfl, trivial⟩ rfl)
         ·refine tr1 rfl (aD (v := .d (.lit (.bool b70))) (aA rfl) rfl rfl) ?_
          obtain ⟨b72, h73, h⟩ := bind_some h
          refine bT 4 [3, 4, 15, 16, 18] 176 b72 ?_ ?_
          ·refine bF (b70) (fun c91 => ?_) (fun c91 => ?_)
           ·have h73 := aQ c91 h73
            refine aM rfl rfl (aA rfl) rfl (aA rfl) rfl c91 ?_
            refine aM rfl rfl (aA rfl) rfl (aA rfl) rfl c91 ?_
            refine aM rfl rfl (aA rfl) rfl (aA rfl) rfl c91 ?_
            refine tr1 rfl (bK (v := .d (.lit (.bool true))) (aA rfl) rfl c91 rfl rfl) ?_
            have h73 := Option.some.inj h73
            subst h73
            refine aF (aW rfl ⟨rfl, rfl, rfl, rfl, rfl, trivial⟩ rfl)
           ·have h73 := aR c91 h73
            refine aL rfl rfl (aA rfl) rfl c91 (aD (v := .d (.lit (.int .i64 r68.1))) (aA rfl) rfl rfl) ?_
            refine aL rfl rfl (aA rfl) rfl c91 (aD (v := .d (.lit (.int .i64 r66.1))) (aA rfl) rfl rfl) ?_
            refine aL rfl rfl (aA rfl) rfl c91 (bB (aA rfl) rfl rfl rfl) ?_
            refine tr1 rfl (bJ (v := .d (.lit (.bool ((decide (r68.1 < r66.1)))))) (aA rfl) rfl c91 rfl rfl) ?_
            have h73 := Option.some.inj h73
            subst h73
            refine aF (aW rfl ⟨rfl, rfl, rfl, rfl, rfl, trivial⟩ rfl)
          ·refine aF ?_
           refine bL rfl (fun c74 => ?_) (fun c74 => ?_)
           ·have h := aQ c74 h
            refine aG ?_
            refine aE ?_
            refine tr1 rfl (aJ (v := .d (.lit (.bool false))) (aA rfl) rfl rfl) ?_
            refine aF ?_
            have h := Option.some.inj h
            subst h
            refine cN (cA (cG (l := [6]) ⟨rfl, trivial⟩)) ?_
            exact bM ⟨rfl, _, .one _, rfl, rfl⟩
           ·have h := aR c74 h
            refine bI ?_
            refine aG ?_
            refine aE ?_
            refine tr1 rfl (cL (aA rfl) rfl (i := 0) rfl eH (es := (aV l_0)) rfl rfl) ?_
            refine tr1 rfl (aT (aA rfl) rfl rS) ?_
            refine tr1 rfl (aU (aA rfl) rfl (i := 1) rfl rfl bG) ?_
            refine tr1 rfl (aT (aA rfl) rfl nJ) ?_
            refine tr1 rfl (aU (aA rfl) rfl (i := 1) rfl rfl bG) ?_
            obtain ⟨r75, h76, h⟩ := bind_some h
            refine tr1 rfl (bZ (aA rfl) (.func _ _ Try.call24) rfl rfl (BVs.refl _ _) (uB _ _ _ h76) rfl) ?_
            refine tr1 rfl (aD (v := .tup [.d (.lit (.int .i64 r75.1)), .d (.lit (.int .i64 r75.2))]) (aA rfl) rfl rfl) ?_
            refine tr1 rfl (cK (aA rfl) rfl rfl) ?_
            refine tr1 rfl (cK (aA rfl) rfl rfl) ?_
            refine tr1 rfl (aJ (v := .d (.lit (.int .i64 r75.1))) (aA rfl) rfl rfl) ?_
            refine tr1 rfl (aJ (v := .d (.lit (.int .i64 r75.2))) (aA rfl) rfl rfl) ?_
            refine aF ?_
            refine aG ?_
            refine aE ?_
            refine tr1 rfl (cL (aA rfl) rfl (i := 2) rfl eH (es := (aV r58)) rfl rfl) ?_
            refine tr1 rfl (aT (aA rfl) rfl rS) ?_
            refine tr1 rfl (aU (aA rfl) rfl (i := 1) rfl rfl bG) ?_
            refine tr1 rfl (aT (aA rfl) rfl nJ) ?_
            refine tr1 rfl (aU (aA rfl) rfl (i := 1) rfl rfl bG) ?_
            obtain ⟨r77, h78, h⟩ := bind_some h
            refine tr1 rfl (bZ (aA rfl) (.func _ _ Try.call24) rfl rfl (BVs.refl _ _) (uB _ _ _ h78) rfl) ?_
            refine tr1 rfl (aD (v := .tup [.d (.lit (.int .i64 r77.1)), .d (.lit (.int .i64 r77.2))]) (aA rfl) rfl rfl) ?_
            refine tr1 rfl (cK (aA rfl) rfl rfl) ?_
            refine tr1 rfl (cK (aA rfl) rfl rfl) ?_
            refine tr1 rfl (aJ (v := .d (.lit (.int .i64 r77.1))) (aA rfl) rfl rfl) ?_
            refine tr1 rfl (aJ (v := .d (.lit (.int .i64 r77.2))) (aA rfl) rfl rfl) ?_
            refine aF ?_
            refine aG ?_
            refine aG ?_
            refine aE ?_
            refine tr1 rfl (aD (v := .d (.lit (.int .i64 r75.2))) (aA rfl) rfl rfl) ?_
            refine tr1 rfl (bB (aA rfl) rfl rfl rfl) ?_
            refine tr1 rfl (aD (v := .d (.lit (.bool ((decide (r75.2 = 0)))))) (aA rfl) rfl rfl) ?_
            obtain ⟨b79, h80, h⟩ := bind_some h
            refine bT 13 [] 210 b79 ?_ ?_
            ·refine bF (decide (r75.2 = 0)) (fun c84 => ?_) (fun c84 => ?_)
             ·have h80 := aQ c84 h80
              refine aL rfl rfl (aA rfl) rfl c84 (aD (v := .d (.lit (.int .i64 r77.2))) (aA rfl) rfl rfl) ?_
              refine aL rfl rfl (aA rfl) rfl c84 (bB (aA rfl) rfl rfl rfl) ?_
              refine aL rfl rfl (aA rfl) rfl c84 (aD (v := .d (.lit (.bool ((!decide (r77.2 = 0)))))) (aA rfl) rfl rfl) ?_
              obtain ⟨b85, h86, h80⟩ := bind_some h80
              refine bT 9 [197] 209 b85 ?_ ?_
              ·refine bF (!decide (r77.2 = 0)) (fun c87 => ?_) (fun c87 => ?_)
               ·have h86 := aQ c87 h86
                refine aM rfl rfl (aA rfl) rfl (aA rfl) rfl c87 ?_
                refine aM rfl rfl (aA rfl) rfl (aA rfl) rfl c87 ?_
                refine aM rfl rfl (aA rfl) rfl (aA rfl) rfl c87 ?_
                refine aM rfl rfl (aA rfl) rfl (aA rfl) rfl c87 ?_
                refine jX rfl rfl (aA rfl) rfl (aA rfl) rfl ?_
                refine jX rfl rfl (aA rfl) rfl (aA rfl) rfl ?_
                refine jX rfl rfl (aA rfl) rfl (aA rfl) rfl ?_
                refine aM rfl rfl (aA rfl) rfl (aA rfl) rfl c87 ?_
                refine aL rfl rfl (aA rfl) rfl c84 (bK (v := .d (.lit (.bool true))) (aA rfl) rfl c87 rfl rfl) ?_
                have h86 := Option.some.inj h86
                subst h86
                refine aF (aW rfl ⟨rfl, trivial⟩ rfl)
               ·have h86 := aR c87 h86
                refine aL rfl rfl (aA rfl) rfl c87 (aD (v := .d (.lit (.int .i64 r68.1))) (aA rfl) rfl rfl) ?_
                refine aL rfl rfl (aA rfl) rfl c87 (aD (v := .d (.lit (.int .i64 r66.1))) (aA rfl) rfl rfl) ?_
                refine aL rfl rfl (aA rfl) rfl c87 (bB (aA rfl) rfl rfl rfl) ?_
                refine aL rfl rfl (aA rfl) rfl c87 (aD (v := .d (.lit (.bool ((decide (r66.1 < r68.1)))))) (aA rfl) rfl rfl) ?_
                obtain ⟨b88, h89, h86⟩ := bind_some h86
                refine bT 4 [197, 200] 208 b88 ?_ ?_
                ·refine bF (decide (r66.1 < r68.1)) (fun c90 => ?_) (fun c90 => ?_)
                 ·have h89 := aQ c90 h89
                  refine aL rfl rfl (aA rfl) rfl c90 (aD (v := .d (.lit (.int .i64 r77.1))) (aA rfl) rfl rfl) ?_
                  refine aL rfl rfl (aA rfl) rfl c90 (aD (v := .d (.lit (.int .i64 r75.1))) (aA rfl) rfl rfl) ?_
                  refine aL rfl rfl (aA rfl) rfl c90 (bB (aA rfl) rfl rfl rfl) ?_
                  refine aL rfl rfl (aA rfl) rfl c87 (bK (v := .d (.lit (.bool ((decide (r75.1 < r77.1)))))) (aA rfl) rfl c90 rfl rfl) ?_
                  have h89 := Option.some.inj h89
                  subst h89
                  refine aF (aW rfl ⟨rfl, rfl, trivial⟩ rfl)
                 ·have h89 := aR c90 h89
                  refine aM rfl rfl (aA rfl) rfl (aA rfl) rfl c90 ?_
                  refine aM rfl rfl (aA rfl) rfl (aA rfl) rfl c90 ?_
                  refine aM rfl rfl (aA rfl) rfl (aA rfl) rfl c90 ?_
                  refine aL rfl rfl (aA rfl) rfl c87 (bJ (v := .d (.lit (.bool false))) (aA rfl) rfl c90 rfl rfl) ?_
                  have h89 := Option.some.inj h89
                  subst h89
                  refine aF (aW rfl ⟨rfl, rfl, trivial⟩ rfl)
                ·refine aL rfl rfl (aA rfl) rfl c84 (bJ (v := .d (.lit (.bool b88))) (aA rfl) rfl c87 rfl rfl) ?_
                 have h86 := Option.some.inj h86
                 subst h86
                 refine aF (aW rfl ⟨rfl, trivial⟩ rfl)
              ·refine tr1 rfl (bK (v := .d (.lit (.bool b85))) (aA rfl) rfl c84 rfl rfl) ?_
               have h80 := Option.some.inj h80
               subst h80
               refine aF (aW rfl trivial rfl)
             ·have h80 := aR c84 h80
              refine aM rfl rfl (aA rfl) rfl (aA rfl) rfl c84 ?_
              refine aM rfl rfl (aA rfl) rfl (aA rfl) rfl c84 ?_
              refine aM rfl rfl (aA rfl) rfl (aA rfl) rfl c84 ?_
              refine jX rfl rfl (aA rfl) rfl (aA rfl) rfl ?_
              refine jX rfl rfl (aA rfl) rfl (aA rfl) rfl ?_
              refine jX rfl rfl (aA rfl) rfl (aA rfl) rfl ?_
              refine jX rfl rfl (aA rfl) rfl (aA rfl) rfl ?_
              refine jX rfl rfl (aA rfl) rfl (aA rfl) rfl ?_
              refine jX rfl rfl (aA rfl) rfl (aA rfl) rfl ?_
              refine jX rfl rfl (aA rfl) rfl (aA rfl) rfl ?_
              refine jX rfl rfl (aA rfl) rfl (aA rfl) rfl ?_
              refine aM rfl rfl (aA rfl) rfl (aA rfl) rfl c84 ?_
              refine tr1 rfl (bJ (v := .d (.lit (.bool false))) (aA rfl) rfl c84 rfl rfl) ?_
              have h80 := Option.some.inj h80
              subst h80
              refine aF (aW rfl trivial rfl)
            ·refine aF ?_
             refine bL rfl (fun c81 => ?_) (fun c81 => ?_)
             ·have h := aQ c81 h
              refine aG ?_
              refine aE ?_
              refine tr1 rfl (aJ (v := .d (.lit (.bool false))) (aA rfl) rfl rfl) ?_
              refine aF ?_
              have h := Option.some.inj h
              subst h
              refine cN (cA (cG (l := [6]) ⟨rfl, trivial⟩)) ?_
              exact bM ⟨rfl, _, .one _, rfl, rfl⟩
             ·have h := aR c81 h
              refine bI ?_
              refine aG ?_
              refine aE ?_
              obtain ⟨r82, h83, h⟩ := bind_some h
              refine tr1 rfl (bZ (aA rfl) (.func _ _ Try.call16) rfl rfl (BVs.refl _ _) (oX h83) rfl) ?_
              refine tr1 rfl (aJ (v := .d (.lit (.bool r82))) (aA rfl) rfl rfl) ?_
              refine aF ?_
              have h := Option.some.inj h
              subst h
              refine cN (cA (cG (l := [6]) ⟨rfl, trivial⟩)) ?_
              exact bM ⟨rfl, _, .one _, rfl, rfl⟩

end Go.Am
