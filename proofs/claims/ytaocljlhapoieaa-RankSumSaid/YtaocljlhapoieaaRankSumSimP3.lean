/- The functions compute what the shallow ones say: printed by program. -/
import Derived.Test.YtaocljlhapoieaaRankSumSimP2
namespace Go.Am
open Go.Proofs
set_option maxRecDepth 100000
set_option maxHeartbeats 4000000

theorem vN (l_0 : aR) (x_1 : nP) {r : Bool} (h : mI l_0 x_1 = some r) : Fn Try.prog 10 [.agg (aZ l_0), .agg (qG x_1)] (.d (.lit (.bool r))) := by
 unfold mI at h
 refine Fn.of_tr Try.func10 rfl (rs := [.tmp 4]) Try.results10 Try.ntmps10 (Nat.le_of_ble_eq_true rfl) ?_
 refine aG ?_
 refine aE ?_
 refine cA rfl (fM (v := .agg (aZ l_0)) (aA rfl) rfl rfl rfl) ?_
 rintro _ ⟨b1, rfl⟩
 refine cA rfl (fM (v := .agg (qG x_1)) (aA rfl) rfl rfl rfl) ?_
 rintro _ ⟨b2, rfl⟩
 refine tr1 rfl (aI (v := .d (.lit (.bool false))) (aA rfl) rfl rfl) ?_
 refine aF ?_
 refine aG ?_
 refine aG ?_
 refine aE ?_
 refine tr1 rfl (dF (aA rfl) rfl (i := 0) rfl hB (es := (aZ l_0)) rfl rfl) ?_
 refine tr1 rfl (aU (aA rfl) rfl vQ) ?_
 refine tr1 rfl (aW (aA rfl) rfl (i := 1) rfl rfl bI) ?_
 refine tr1 rfl (aU (aA rfl) rfl vR) ?_
 refine tr1 rfl (aW (aA rfl) rfl (i := 1) rfl rfl bI) ?_
 obtain ⟨r3, h4, h⟩ := bind_some h
 refine tr1 rfl (cF (aA rfl) (.func _ _ Try.call20) rfl rfl (BVs.refl _ _) (wT _ _ _ h4) rfl) ?_
 refine tr1 rfl (dB (aA rfl) rfl) ?_
 refine aF ?_
 refine bN rfl (fun c5 => ?_) (fun c5 => ?_)
 ·have h := aP c5 h
  refine aG ?_
  refine aE ?_
  obtain ⟨r6, h7, h⟩ := bind_some h
  refine tr1 rfl (cF (aA rfl) (.func _ _ Try.call16) rfl rfl (BVs.refl _ _) (sF h7) rfl) ?_
  refine tr1 rfl (aI (v := .d (.lit (.bool r6))) (aA rfl) rfl rfl) ?_
  refine aF ?_
  have h := Option.some.inj h
  subst h
  refine cP (cD (cJ (l := [4]) ⟨rfl, trivial⟩)) ?_
  exact bT ⟨rfl, _, .one _, rfl, rfl⟩
 ·have h := aO c5 h
  refine bK ?_
  refine aG ?_
  refine aE ?_
  refine tr1 rfl (dF (aA rfl) rfl (i := 0) rfl hB (es := (aZ l_0)) rfl rfl) ?_
  refine tr1 rfl (aU (aA rfl) rfl vQ) ?_
  refine tr1 rfl (aW (aA rfl) rfl (i := 1) rfl rfl bI) ?_
  refine tr1 rfl (aU (aA rfl) rfl vR) ?_
  refine tr1 rfl (aW (aA rfl) rfl (i := 1) rfl rfl bI) ?_
  obtain ⟨r8, h9, h⟩ := bind_some h
  refine tr1 rfl (cF (aA rfl) (.func _ _ Try.call22) rfl rfl (BVs.refl _ _) (aBd _ _ _ h9) rfl) ?_
  refine tr1 rfl (aC (v := .tup [.d (.lit (.int .i64 r8.1)), .d (.lit (.int .i64 r8.2))]) (aA rfl) rfl rfl) ?_
  refine tr1 rfl (cW (aA rfl) rfl rfl) ?_
  refine tr1 rfl (cW (aA rfl) rfl rfl) ?_
  refine tr1 rfl (aI (v := .d (.lit (.int .i64 r8.1))) (aA rfl) rfl rfl) ?_
  refine tr1 rfl (aI (v := .d (.lit (.int .i64 r8.2))) (aA rfl) rfl rfl) ?_
  refine aF ?_
  refine aG ?_
  refine aE ?_
  refine tr1 rfl (dF (aA rfl) rfl (i := 0) rfl hB (es := (aZ l_0)) rfl rfl) ?_
  refine tr1 rfl (aU (aA rfl) rfl vQ) ?_
  refine tr1 rfl (aW (aA rfl) rfl (i := 1) rfl rfl bI) ?_
  refine tr1 rfl (aU (aA rfl) rfl vR) ?_
  refine tr1 rfl (aW (aA rfl) rfl (i := 1) rfl rfl bI) ?_
  obtain ⟨r10, h11, h⟩ := bind_some h
  refine tr1 rfl (lD (aA rfl) (.func _ _ Try.call38) rfl rfl (aCj _ _ _ h11)) ?_
  refine tr1 rfl (aC (v := .tup [.d (.sl 1 (r10.1.map cE)), .d (.lit (.int .i64 r10.2))]) (aA rfl) rfl rfl) ?_
  refine tr1 rfl (cW (aA rfl) rfl rfl) ?_
  refine tr1 rfl (cW (aA rfl) rfl rfl) ?_
  refine tr1 rfl (aI (v := .d (.sl 1 (r10.1.map cE))) (aA rfl) rfl rfl) ?_
  refine tr1 rfl (aI (v := .d (.lit (.int .i64 r10.2))) (aA rfl) rfl rfl) ?_
  refine aF ?_
  refine aG ?_
  refine aG ?_
  refine aE ?_
  refine tr1 rfl (aC (v := .d (.lit (.int .i64 r8.2))) (aA rfl) rfl rfl) ?_
  refine tr1 rfl (bB (aA rfl) rfl rfl rfl) ?_
  refine tr1 rfl (aC (v := .d (.lit (.bool ((!decide (r8.2 = 0)))))) (aA rfl) rfl rfl) ?_
  obtain ⟨b12, h13, h⟩ := bind_some h
  refine bR 3 [2, 3, 5, 7] 49 b12 ?_ ?_
  ·refine bA (!decide (r8.2 = 0)) (fun c206 => ?_) (fun c206 => ?_)
   ·have h13 := aP c206 h13
    refine aN rfl rfl (aA rfl) rfl (aA rfl) rfl c206 ?_
    refine aN rfl rfl (aA rfl) rfl (aA rfl) rfl c206 ?_
    refine tr1 rfl (bH (v := .d (.lit (.bool true))) (aA rfl) rfl c206 rfl rfl) ?_
    have h13 := Option.some.inj h13
    subst h13
    refine aF (aT rfl ⟨rfl, rfl, rfl, rfl, trivial⟩ rfl)
   ·have h13 := aO c206 h13
    refine aL rfl rfl (aA rfl) rfl c206 (aC (v := .d (.lit (.int .i64 r10.2))) (aA rfl) rfl rfl) ?_
    refine aL rfl rfl (aA rfl) rfl c206 (bB (aA rfl) rfl rfl rfl) ?_
    refine tr1 rfl (bG (v := .d (.lit (.bool ((!decide (r10.2 = 0)))))) (aA rfl) rfl c206 rfl rfl) ?_
    have h13 := Option.some.inj h13
    subst h13
    refine aF (aT rfl ⟨rfl, rfl, rfl, rfl, trivial⟩ rfl)
  ·refine aF ?_
   refine bN rfl (fun c14 => ?_) (fun c14 => ?_)
   ·have h := aP c14 h
    refine aG ?_
    refine aE ?_
    refine tr1 rfl (aI (v := .d (.lit (.bool false))) (aA rfl) rfl rfl) ?_
    refine aF ?_
    have h := Option.some.inj h
    subst h
    refine cP (cD (cJ (l := [4]) ⟨rfl, trivial⟩)) ?_
    exact bT ⟨rfl, _, .one _, rfl, rfl⟩
   ·have h := aO c14 h
    refine bK ?_
    refine aG ?_
    refine aE ?_
    refine tr1 rfl (dF (aA rfl) rfl (i := 0) rfl hB (es := (aZ l_0)) rfl rfl) ?_
    refine tr1 rfl (aU (aA rfl) rfl vQ) ?_
    refine tr1 rfl (aW (aA rfl) rfl (i := 1) rfl rfl bI) ?_
    refine tr1 rfl (aU (aA rfl) rfl vR) ?_
    refine tr1 rfl (aW (aA rfl) rfl (i := 1) rfl rfl bI) ?_
    obtain ⟨r15, h16, h⟩ := bind_some h
    refine tr1 rfl (lD (aA rfl) (.func _ _ Try.call39) rfl rfl (uW _ _ _ h16)) ?_
    refine tr1 rfl (aI (v := .d (.sl 5 (r15.map aB))) (aA rfl) rfl rfl) ?_
    refine aF ?_
    refine aG ?_
    refine aE ?_
    refine tr1 rfl (aI (v := .d (.lit (.int .i64 0))) (aA rfl) rfl rfl) ?_
    refine tr1 rfl (aI (v := .d (.lit (.int .i64 0))) (aA rfl) rfl rfl) ?_
    refine tr1 rfl (aI (v := .d (.lit (.int .i64 (-1)))) (aA rfl) rfl rfl) ?_
    refine tr1 rfl (aI (v := .d (.lit (.int .i64 (-1)))) (aA rfl) rfl rfl) ?_
    refine tr1 rfl (aI (v := .d (.lit (.int .i64 0))) (aA rfl) rfl rfl) ?_
    refine aF ?_
    refine aG ?_
    refine aG ?_
    refine aE ?_
    refine tr1 rfl (aI (v := .d (.lit (.int .i64 0))) (aA rfl) rfl rfl) ?_
    refine aF ?_
    refine bZ ?_
    refine cM [2, 5, 7, 9] (fun (s17 : Int × Int × Int × Int × Int × Int) => [(10, .d (.lit (.int .i64 s17.1))), (11, .d (.lit (.int .i64 s17.2.1))), (12, .d (.lit (.int .i64 s17.2.2.1))), (13, .d (.lit (.int .i64 s17.2.2.2.1))), (14, .d (.lit (.int .i64 s17.2.2.2.2.1))), (15, .d (.lit (.int .i64 s17.2.2.2.2.2)))]) (fun (s17 : Int × Int × Int × Int × Int × Int) => [.box b1 0 (aZ l_0)]) (fun (k : Nat) (s17 : Int × Int × Int × Int × Int × Int) => eR r8.1 r10.1 r15 l_0 k s17.1 s17.2.1 s17.2.2.1 s17.2.2.2.1 s17.2.2.2.2.1 s17.2.2.2.2.2) (fun _ => rfl) (0, 0, (-1), (-1), 0, 0) h (aV [0] rfl rfl (aM rfl (aM rfl (aM rfl (aM rfl (aM rfl (aM rfl (aX ⟨rfl, rfl, rfl, rfl, trivial⟩)))))))) ?_
    rintro k18 ⟨sum_0_17, must_0_17, least_0_17, most_0_17, found_0_17, i_0_17⟩ h
    simp only [eR] at h
    refine aG ?_
    refine aG ?_
    refine aE ?_
    refine tr1 rfl (aC (v := .d (.lit (.int .i64 i_0_17))) (aA rfl) rfl rfl) ?_
    refine tr1 rfl (aC (v := .d (.sl 5 (r15.map aB))) (aA rfl) rfl rfl) ?_
    refine tr1 rfl (dR (aA rfl) rfl bQ.of) ?_
    refine tr1 rfl (bB (aA rfl) rfl rfl rfl) ?_
    refine aF ?_
    refine bN rfl (fun c19 => ?_) (fun c19 => ?_)
    ·have h := aP c19 h
     refine bK ?_
     refine aG ?_
     refine bZ ?_
     refine aG ?_
     refine aE ?_
     refine tr1 rfl (aI (v := .d (.lit (.bool false))) (aA rfl) rfl rfl) ?_
     refine aF ?_
     refine aG ?_
     refine aG ?_
     refine aE ?_
     refine tr1 rfl (aI (v := .d (.lit (.int .i64 0))) (aA rfl) rfl rfl) ?_
     refine aF ?_
     refine bZ ?_
     refine cM [2, 5, 7, 9, 10, 11, 12, 13, 14, 15] (fun (s20 : Bool × Int) => [(16, .d (.lit (.bool s20.1))), (17, .d (.lit (.int .i64 s20.2)))]) (fun (s20 : Bool × Int) => [.box b1 0 (aZ l_0)]) (fun (k : Nat) (s20 : Bool × Int) => fO (eR r8.1 r10.1 r15 l_0 k18) r8.1 r10.1 r15 sum_0_17 must_0_17 least_0_17 most_0_17 found_0_17 i_0_17 l_0 k s20.1 s20.2) (fun _ => rfl) (false, 0) h (aV [0] rfl rfl (aM rfl (aM rfl (aX ⟨rfl, rfl, rfl, rfl, rfl, rfl, rfl, rfl, rfl, rfl, trivial⟩)))) ?_
     rintro k21 ⟨isv_2_20, k_2_20⟩ h
     simp only [fO] at h
     refine aG ?_
     refine aG ?_
     refine aE ?_
     refine tr1 rfl (aC (v := .d (.lit (.int .i64 k_2_20))) (aA rfl) rfl rfl) ?_
     refine tr1 rfl (aC (v := .d (.sl 1 (r10.1.map cE))) (aA rfl) rfl rfl) ?_
     refine tr1 rfl (dR (aA rfl) rfl eP.of) ?_
     refine tr1 rfl (bB (aA rfl) rfl rfl rfl) ?_
     refine aF ?_
     refine bN rfl (fun c22 => ?_) (fun c22 => ?_)
     ·have h := aP c22 h
      refine bK ?_
      refine aG ?_
      refine bZ ?_
      obtain ⟨b23, h24, h⟩ := bind_some h
      refine gA mix 13 [2, 5, 7, 9, 10, 11, 12, 13, 14, 15, 17] [(80, .d (.lit (.bool b23)))] ?_ ?_
      ·refine bA (isv_2_20) (fun c25 => ?_) (fun c25 => ?_)
       ·have h24 := aP c25 h24
        have h24 := Option.some.inj h24
        subst h24
        refine ⟨[(68, 0, .d (.lit (.bool isv_2_20))), (69, 1, .d (.lit (.bool isv_2_20))), (70, 2, .tup []), (71, 3, .tup []), (72, 4, .tup []), (73, 5, .tup []), (74, 6, .tup []), (75, 7, .tup []), (76, 8, .tup []), (77, 9, .tup []), (78, 10, .tup []), (79, 11, .tup []), (80, 12, .d (.lit (.bool true)))], ?_, ?_⟩
        · exact ⟨by kernel_rfl, by kernel_rfl, by kernel_rfl, by kernel_rfl, by kernel_rfl, [([], []), ([0], []), ([1], []), ([1], []), ([1, 2, 3], []), ([1, 4], []), ([1], []), ([1], []), ([1, 6, 7], []), ([1, 8], []), ([1, 9], []), ([1, 5, 10], []), ([1, 11], [])], by kernel_rfl, ⟨fun S hS => aJ rfl (aQ rfl (aC (v := .d (.lit (.bool isv_2_20))) (aA rfl) (aH hS rfl) rfl)),
      fun S hS => aJ rfl (aQ rfl (aC (v := .d (.lit (.bool isv_2_20))) (aA rfl) (aH hS rfl) rfl)),
      fun S hS => aJ rfl (bE rfl rfl (aA rfl) rfl (aA rfl) (aS hS rfl) c25),
      fun S hS => aJ rfl (bE rfl rfl (aA rfl) rfl (aA rfl) (aS hS rfl) c25),
      fun S hS => aJ rfl (bE rfl rfl (aA rfl) rfl (aA rfl) (aS hS rfl) c25),
      fun S hS => aJ rfl (bE rfl rfl (aA rfl) rfl (aA rfl) (aS hS rfl) c25),
      fun S hS => aJ rfl (bE rfl rfl (aA rfl) rfl (aA rfl) (aS hS rfl) c25),
      fun S hS => aJ rfl (bE rfl rfl (aA rfl) rfl (aA rfl) (aS hS rfl) c25),
      fun S hS => aJ rfl (bE rfl rfl (aA rfl) rfl (aA rfl) (aS hS rfl) c25),
      fun S hS => aJ rfl (bE rfl rfl (aA rfl) rfl (aA rfl) (aS hS rfl) c25),
      fun S hS => aJ rfl (bE rfl rfl (aA rfl) rfl (aA rfl) (aS hS rfl) c25),
      fun S hS => aJ rfl (bE rfl rfl (aA rfl) rfl (aA rfl) (aS hS rfl) c25),
      fun S hS => aJ rfl (aQ rfl (bH (v := .d (.lit (.bool true))) (aA rfl) (aH hS rfl) c25 rfl rfl)), trivial⟩⟩
        · exact eC (aM rfl (aX ⟨rfl, rfl, rfl, rfl, rfl, rfl, rfl, rfl, rfl, rfl, rfl, trivial⟩))
       ·have h24 := aO c25 h24
        obtain ⟨x26, h27, h24⟩ := bind_some h24
        obtain ⟨x28, h29, h24⟩ := bind_some h24
        have h24 := Option.some.inj h24
        subst h24
        refine ⟨[(68, 0, .d (.lit (.bool isv_2_20))), (69, 1, .d (.lit (.bool isv_2_20))), (70, 2, .d (.sl 1 (r10.1.map cE))), (71, 3, .d (.lit (.int .i64 k_2_20))), (72, 4, .cp [.lit (.int .i64 x26)]), (73, 5, .d (.lit (.int .i64 x26))), (74, 6, .d (.sl 5 (r15.map aB))), (75, 7, .d (.lit (.int .i64 i_0_17))), (76, 8, .cp [.lit (.int .i64 x28.Id), .lit (.int .i64 x28.Player), .lit (.int .i64 x28.Week), .lit (.int .i64 x28.Points), .lit (.bool x28.Must)]), (77, 9, .cp [.lit (.int .i64 x28.Id)]), (78, 10, .d (.lit (.int .i64 x28.Id))), (79, 11, .d (.lit (.bool ((decide (x26 = x28.Id)))))), (80, 12, .d (.lit (.bool ((decide (x26 = x28.Id))))))], ?_, ?_⟩
        · exact ⟨by kernel_rfl, by kernel_rfl, by kernel_rfl, by kernel_rfl, by kernel_rfl, [([], []), ([0], []), ([1], []), ([1], []), ([1, 2, 3], []), ([1, 4], []), ([1], []), ([1], []), ([1, 6, 7], []), ([1, 8], []), ([1, 9], []), ([1, 5, 10], []), ([1, 11], [])], by kernel_rfl, ⟨fun S hS => aJ rfl (aQ rfl (aC (v := .d (.lit (.bool isv_2_20))) (aA rfl) (aH hS rfl) rfl)),
      fun S hS => aJ rfl (aQ rfl (aC (v := .d (.lit (.bool isv_2_20))) (aA rfl) (aH hS rfl) rfl)),
      fun S hS => aJ rfl (bL rfl rfl (aA rfl) (aS hS rfl) c25 (aC (v := .d (.sl 1 (r10.1.map cE))) (aA rfl) (aH hS rfl) rfl)),
      fun S hS => aJ rfl (bL rfl rfl (aA rfl) (aS hS rfl) c25 (aC (v := .d (.lit (.int .i64 k_2_20))) (aA rfl) (aH hS rfl) rfl)),
      fun S hS => aJ rfl (bL rfl rfl (aA rfl) (aS hS rfl) c25 (bJ (aA rfl) (aH hS rfl) (aH hS rfl) eP.of (bF cE h27))),
      fun S hS => aJ rfl (bL rfl rfl (aA rfl) (aS hS rfl) c25 (bP (aA rfl) (aH hS rfl) bI)),
      fun S hS => aJ rfl (bL rfl rfl (aA rfl) (aS hS rfl) c25 (aC (v := .d (.sl 5 (r15.map aB))) (aA rfl) (aH hS rfl) rfl)),
      fun S hS => aJ rfl (bL rfl rfl (aA rfl) (aS hS rfl) c25 (aC (v := .d (.lit (.int .i64 i_0_17))) (aA rfl) (aH hS rfl) rfl)),
      fun S hS => aJ rfl (bL rfl rfl (aA rfl) (aS hS rfl) c25 (bJ (aA rfl) (aH hS rfl) (aH hS rfl) bQ.of (bF aB h29))),
      fun S hS => aJ rfl (bL rfl rfl (aA rfl) (aS hS rfl) c25 (bO (aA rfl) (aH hS rfl) iU (es := [.lit (.int .i64 x28.Id)]) rfl)),
      fun S hS => aJ rfl (bL rfl rfl (aA rfl) (aS hS rfl) c25 (bP (aA rfl) (aH hS rfl) bI)),
      fun S hS => aJ rfl (bL rfl rfl (aA rfl) (aS hS rfl) c25 (bB (aA rfl) (aH hS rfl) (aH hS rfl) rfl)),
      fun S hS => aJ rfl (aQ rfl (bG (v := .d (.lit (.bool ((decide (x26 = x28.Id)))))) (aA rfl) (aH hS rfl) c25 (aH hS rfl) rfl)), trivial⟩⟩
        · exact eC (aM rfl (aX ⟨rfl, rfl, rfl, rfl, rfl, rfl, rfl, rfl, rfl, rfl, rfl, trivial⟩))
      ·refine tr1 rfl (aI (v := .d (.lit (.bool b23))) (aA rfl) rfl rfl) ?_
       refine dE ?_
       refine aE ?_
       refine tr1 rfl (aC (v := .d (.lit (.int .i64 k_2_20))) (aA rfl) rfl rfl) ?_
       refine tr1 rfl (aY (aA rfl) rfl rfl rfl) ?_
       refine tr1 rfl (aI (v := .d (.lit (.int .i64 ((w64 (k_2_20 + 1)))))) (aA rfl) rfl rfl) ?_
       refine aF ?_
       exact ⟨(b23, w64 (k_2_20 + 1)), h, aV [0] rfl rfl (aM rfl (aM rfl (aX ⟨rfl, rfl, rfl, rfl, rfl, rfl, rfl, rfl, rfl, rfl, trivial⟩)))⟩
     ·have h := aO c22 h
      refine cT ?_
      refine .inl ⟨rfl, ?_⟩
      simp only [iA] at h
      refine aG ?_
      refine aG ?_
      refine aE ?_
      refine tr1 rfl (aC (v := .d (.lit (.bool isv_2_20))) (aA rfl) rfl rfl) ?_
      refine aF ?_
      refine bN rfl (fun c30 => ?_) (fun c30 => ?_)
      ·have h := aP c30 h
       refine aG ?_
       refine aE ?_
       refine tr1 rfl (aC (v := .d (.lit (.int .i64 sum_0_17))) (aA rfl) rfl rfl) ?_
       refine tr1 rfl (aC (v := .d (.sl 5 (r15.map aB))) (aA rfl) rfl rfl) ?_
       refine tr1 rfl (aC (v := .d (.lit (.int .i64 i_0_17))) (aA rfl) rfl rfl) ?_
       obtain ⟨x31, h32, h⟩ := bind_some h
       refine tr1 rfl (bJ (aA rfl) rfl rfl bQ.of (bF aB h32)) ?_
       refine tr1 rfl (bO (aA rfl) rfl fK (es := [.lit (.int .i64 x31.Points)]) rfl) ?_
       refine tr1 rfl (bP (aA rfl) rfl bI) ?_
       refine tr1 rfl (aY (aA rfl) rfl rfl rfl) ?_
       refine tr1 rfl (aI (v := .d (.lit (.int .i64 ((w64 (sum_0_17 + x31.Points)))))) (aA rfl) rfl rfl) ?_
       refine aF ?_
       refine aE ?_
       refine tr1 rfl (aC (v := .d (.lit (.int .i64 found_0_17))) (aA rfl) rfl rfl) ?_
       refine tr1 rfl (aY (aA rfl) rfl rfl rfl) ?_
       refine tr1 rfl (aI (v := .d (.lit (.int .i64 ((w64 (found_0_17 + 1)))))) (aA rfl) rfl rfl) ?_
       refine aF ?_
       refine aG ?_
       refine aG ?_
       refine aE ?_
       refine tr1 rfl (aC (v := .d (.sl 5 (r15.map aB))) (aA rfl) rfl rfl) ?_
       refine tr1 rfl (aC (v := .d (.lit (.int .i64 i_0_17))) (aA rfl) rfl rfl) ?_
       obtain ⟨x33, h34, h⟩ := bind_some h
       refine tr1 rfl (bJ (aA rfl) rfl rfl bQ.of (bF aB h34)) ?_
       refine tr1 rfl (bO (aA rfl) rfl eX (es := [.lit (.bool x33.Must)]) rfl) ?_
       refine tr1 rfl (bP (aA rfl) rfl iR) ?_
       refine aF ?_
       refine bN rfl (fun c35 => ?_) (fun c35 => ?_)
       ·have h := aP c35 h
        refine aE ?_
        refine tr1 rfl (aC (v := .d (.lit (.int .i64 must_0_17))) (aA rfl) rfl rfl) ?_
        refine tr1 rfl (aY (aA rfl) rfl rfl rfl) ?_
        refine tr1 rfl (aI (v := .d (.lit (.int .i64 ((w64 (must_0_17 + 1)))))) (aA rfl) rfl rfl) ?_
        refine aF ?_
        refine aG ?_
        refine aG ?_
        refine aE ?_
        refine tr1 rfl (aC (v := .d (.sl 5 (r15.map aB))) (aA rfl) rfl rfl) ?_
        refine tr1 rfl (aC (v := .d (.lit (.int .i64 i_0_17))) (aA rfl) rfl rfl) ?_
        obtain ⟨x36, h37, h⟩ := bind_some h
        refine tr1 rfl (bJ (aA rfl) rfl rfl bQ.of (bF aB h37)) ?_
        refine tr1 rfl (bO (aA rfl) rfl eX (es := [.lit (.bool x36.Must)]) rfl) ?_
        refine tr1 rfl (bP (aA rfl) rfl iR) ?_
        refine tr1 rfl (aC (v := .d (.lit (.bool x36.Must))) (aA rfl) rfl rfl) ?_
        obtain ⟨b38, h39, h⟩ := bind_some h
        refine bR 3 [2, 5, 7, 9, 10, 11, 12, 13, 14, 15, 16] 106 b38 ?_ ?_
        ·refine bA (x36.Must) (fun c73 => ?_) (fun c73 => ?_)
         ·have h39 := aP c73 h39
          refine aL rfl rfl (aA rfl) rfl c73 (aC (v := .d (.lit (.bool isv_2_20))) (aA rfl) rfl rfl) ?_
          refine aL rfl rfl (aA rfl) rfl c73 (dB (aA rfl) rfl) ?_
          refine tr1 rfl (bH (v := .d (.lit (.bool (!isv_2_20)))) (aA rfl) rfl c73 rfl rfl) ?_
          have h39 := Option.some.inj h39
          subst h39
          refine aF (aT rfl ⟨rfl, rfl, rfl, rfl, rfl, rfl, rfl, rfl, rfl, rfl, rfl, trivial⟩ rfl)
         ·have h39 := aO c73 h39
          refine aN rfl rfl (aA rfl) rfl (aA rfl) rfl c73 ?_
          refine aN rfl rfl (aA rfl) rfl (aA rfl) rfl c73 ?_
          refine tr1 rfl (bG (v := .d (.lit (.bool false))) (aA rfl) rfl c73 rfl rfl) ?_
          have h39 := Option.some.inj h39
          subst h39
          refine aF (aT rfl ⟨rfl, rfl, rfl, rfl, rfl, rfl, rfl, rfl, rfl, rfl, rfl, trivial⟩ rfl)
        ·refine aF ?_
         refine bN rfl (fun c40 => ?_) (fun c40 => ?_)
         ·have h := aP c40 h
          refine aG ?_
          refine aE ?_
          refine tr1 rfl (aI (v := .d (.lit (.bool false))) (aA rfl) rfl rfl) ?_
          refine aF ?_
          have h := Option.some.inj h
          subst h
          refine cP (cD (cJ (l := [4]) ⟨rfl, trivial⟩)) ?_
          exact bT ⟨rfl, _, .one _, rfl, rfl⟩
         ·have h := aO c40 h
          refine bK ?_
          refine aG ?_
          refine aG ?_
          refine aE ?_
          refine tr1 rfl (aC (v := .d (.sl 5 (r15.map aB))) (aA rfl) rfl rfl) ?_
          refine tr1 rfl (aC (v := .d (.lit (.int .i64 i_0_17))) (aA rfl) rfl rfl) ?_
          obtain ⟨x41, h42, h⟩ := bind_some h
          refine tr1 rfl (bJ (aA rfl) rfl rfl bQ.of (bF aB h42)) ?_
          refine tr1 rfl (bO (aA rfl) rfl eX (es := [.lit (.bool x41.Must)]) rfl) ?_
          refine tr1 rfl (bP (aA rfl) rfl iR) ?_
          refine tr1 rfl (dB (aA rfl) rfl) ?_
          refine tr1 rfl (aC (v := .d (.lit (.bool (!x41.Must)))) (aA rfl) rfl rfl) ?_
          obtain ⟨b43, h44, h⟩ := bind_some h
          refine bR 2 [2, 5, 7, 9, 10, 11, 12, 13, 14, 15, 16] 115 b43 ?_ ?_
          ·refine bA (!x41.Must) (fun c72 => ?_) (fun c72 => ?_)
           ·have h44 := aP c72 h44
            refine aL rfl rfl (aA rfl) rfl c72 (aC (v := .d (.lit (.bool isv_2_20))) (aA rfl) rfl rfl) ?_
            refine tr1 rfl (bH (v := .d (.lit (.bool isv_2_20))) (aA rfl) rfl c72 rfl rfl) ?_
            have h44 := Option.some.inj h44
            subst h44
            refine aF (aT rfl ⟨rfl, rfl, rfl, rfl, rfl, rfl, rfl, rfl, rfl, rfl, rfl, trivial⟩ rfl)
           ·have h44 := aO c72 h44
            refine aN rfl rfl (aA rfl) rfl (aA rfl) rfl c72 ?_
            refine tr1 rfl (bG (v := .d (.lit (.bool false))) (aA rfl) rfl c72 rfl rfl) ?_
            have h44 := Option.some.inj h44
            subst h44
            refine aF (aT rfl ⟨rfl, rfl, rfl, rfl, rfl, rfl, rfl, rfl, rfl, rfl, rfl, trivial⟩ rfl)
          ·refine tr1 rfl (aC (v := .d (.lit (.bool b43))) (aA rfl) rfl rfl) ?_
           obtain ⟨b45, h46, h⟩ := bind_some h
           refine bR 12 [2, 5, 7, 9, 10, 11, 12, 13, 14, 15, 16] 128 b45 ?_ ?_
           ·refine bA (b43) (fun c66 => ?_) (fun c66 => ?_)
            ·have h46 := aP c66 h46
             refine aL rfl rfl (aA rfl) rfl c66 (aC (v := .d (.lit (.int .i64 least_0_17))) (aA rfl) rfl rfl) ?_
             refine aL rfl rfl (aA rfl) rfl c66 (bB (aA rfl) rfl rfl rfl) ?_
             refine aL rfl rfl (aA rfl) rfl c66 (aC (v := .d (.lit (.bool ((decide (least_0_17 < 0)))))) (aA rfl) rfl rfl) ?_
             obtain ⟨b67, h68, h46⟩ := bind_some h46
             refine bR 8 [2, 5, 7, 9, 10, 11, 12, 13, 14, 15, 16, 116, 117, 118, 119] 127 b67 ?_ ?_
             ·refine bA (decide (least_0_17 < 0)) (fun c69 => ?_) (fun c69 => ?_)
              ·have h68 := aP c69 h68
               refine aN rfl rfl (aA rfl) rfl (aA rfl) rfl c69 ?_
               refine aN rfl rfl (aA rfl) rfl (aA rfl) rfl c69 ?_
               refine aN rfl rfl (aA rfl) rfl (aA rfl) rfl c69 ?_
               refine aN rfl rfl (aA rfl) rfl (aA rfl) rfl c69 ?_
               refine aN rfl rfl (aA rfl) rfl (aA rfl) rfl c69 ?_
               refine aN rfl rfl (aA rfl) rfl (aA rfl) rfl c69 ?_
               refine aN rfl rfl (aA rfl) rfl (aA rfl) rfl c69 ?_
               refine aL rfl rfl (aA rfl) rfl c66 (bH (v := .d (.lit (.bool true))) (aA rfl) rfl c69 rfl rfl) ?_
               have h68 := Option.some.inj h68
               subst h68
               refine aF (aT rfl ⟨rfl, rfl, rfl, rfl, rfl, rfl, rfl, rfl, rfl, rfl, rfl, rfl, rfl, rfl, rfl, trivial⟩ rfl)
              ·have h68 := aO c69 h68
               refine aL rfl rfl (aA rfl) rfl c69 (aC (v := .d (.sl 5 (r15.map aB))) (aA rfl) rfl rfl) ?_
               refine aL rfl rfl (aA rfl) rfl c69 (aC (v := .d (.lit (.int .i64 i_0_17))) (aA rfl) rfl rfl) ?_
               obtain ⟨x70, h71, h68⟩ := bind_some h68
               refine aL rfl rfl (aA rfl) rfl c69 (bJ (aA rfl) rfl rfl bQ.of (bF aB h71)) ?_
               refine aL rfl rfl (aA rfl) rfl c69 (bO (aA rfl) rfl fK (es := [.lit (.int .i64 x70.Points)]) rfl) ?_
               refine aL rfl rfl (aA rfl) rfl c69 (bP (aA rfl) rfl bI) ?_
               refine aL rfl rfl (aA rfl) rfl c69 (aC (v := .d (.lit (.int .i64 least_0_17))) (aA rfl) rfl rfl) ?_
               refine aL rfl rfl (aA rfl) rfl c69 (bB (aA rfl) rfl rfl rfl) ?_
               refine aL rfl rfl (aA rfl) rfl c66 (bG (v := .d (.lit (.bool ((decide (x70.Points < least_0_17)))))) (aA rfl) rfl c69 rfl rfl) ?_
               have h68 := Option.some.inj h68
               subst h68
               refine aF (aT rfl ⟨rfl, rfl, rfl, rfl, rfl, rfl, rfl, rfl, rfl, rfl, rfl, rfl, rfl, rfl, rfl, trivial⟩ rfl)
             ·refine tr1 rfl (bH (v := .d (.lit (.bool b67))) (aA rfl) rfl c66 rfl rfl) ?_
              have h46 := Option.some.inj h46
              subst h46
              refine aF (aT rfl ⟨rfl, rfl, rfl, rfl, rfl, rfl, rfl, rfl, rfl, rfl, rfl, trivial⟩ rfl)
            ·have h46 := aO c66 h46
             refine aN rfl rfl (aA rfl) rfl (aA rfl) rfl c66 ?_
             refine aN rfl rfl (aA rfl) rfl (aA rfl) rfl c66 ?_
             refine aN rfl rfl (aA rfl) rfl (aA rfl) rfl c66 ?_
             refine eH rfl rfl (aA rfl) rfl (aA rfl) rfl ?_
             refine eH rfl rfl (aA rfl) rfl (aA rfl) rfl ?_
             refine eH rfl rfl (aA rfl) rfl (aA rfl) rfl ?_
             refine eH rfl rfl (aA rfl) rfl (aA rfl) rfl ?_
             refine eH rfl rfl (aA rfl) rfl (aA rfl) rfl ?_
             refine eH rfl rfl (aA rfl) rfl (aA rfl) rfl ?_
             refine eH rfl rfl (aA rfl) rfl (aA rfl) rfl ?_
             refine aN rfl rfl (aA rfl) rfl (aA rfl) rfl c66 ?_
             refine tr1 rfl (bG (v := .d (.lit (.bool false))) (aA rfl) rfl c66 rfl rfl) ?_
             have h46 := Option.some.inj h46
             subst h46
             refine aF (aT rfl ⟨rfl, rfl, rfl, rfl, rfl, rfl, rfl, rfl, rfl, rfl, rfl, trivial⟩ rfl)
           ·refine aF ?_
            refine bN rfl (fun c47 => ?_) (fun c47 => ?_)
            ·have h := aP c47 h
             refine aE ?_
             refine tr1 rfl (aC (v := .d (.sl 5 (r15.map aB))) (aA rfl) rfl rfl) ?_
             refine tr1 rfl (aC (v := .d (.lit (.int .i64 i_0_17))) (aA rfl) rfl rfl) ?_
             obtain ⟨x48, h49, h⟩ := bind_some h
             refine tr1 rfl (bJ (aA rfl) rfl rfl bQ.of (bF aB h49)) ?_
             refine tr1 rfl (bO (aA rfl) rfl fK (es := [.lit (.int .i64 x48.Points)]) rfl) ?_
             refine tr1 rfl (bP (aA rfl) rfl bI) ?_
             refine tr1 rfl (aI (v := .d (.lit (.int .i64 x48.Points))) (aA rfl) rfl rfl) ?_
             refine aF ?_
             refine aG ?_
             refine aE ?_
             refine tr1 rfl (aC (v := .d (.sl 5 (r15.map aB))) (aA rfl) rfl rfl) ?_
             refine tr1 rfl (aC (v := .d (.lit (.int .i64 i_0_17))) (aA rfl) rfl rfl) ?_
             obtain ⟨x50, h51, h⟩ := bind_some h
             refine tr1 rfl (bJ (aA rfl) rfl rfl bQ.of (bF aB h51)) ?_
             refine tr1 rfl (bO (aA rfl) rfl eX (es := [.lit (.bool x50.Must)]) rfl) ?_
             refine tr1 rfl (bP (aA rfl) rfl iR) ?_
             refine tr1 rfl (dB (aA rfl) rfl) ?_
             refine tr1 rfl (aC (v := .d (.lit (.bool (!x50.Must)))) (aA rfl) rfl rfl) ?_
             obtain ⟨b52, h53, h⟩ := bind_some h
             refine bR 3 [2, 5, 7, 9, 10, 11, 12, 13, 14, 15] 143 b52 ?_ ?_
             ·refine bA (!x50.Must) (fun c57 => ?_) (fun c57 => ?_)
              ·have h53 := aP c57 h53
               refine aL rfl rfl (aA rfl) rfl c57 (aC (v := .d (.lit (.bool isv_2_20))) (aA rfl) rfl rfl) ?_
               refine aL rfl rfl (aA rfl) rfl c57 (dB (aA rfl) rfl) ?_
               refine tr1 rfl (bH (v := .d (.lit (.bool (!isv_2_20)))) (aA rfl) rfl c57 rfl rfl) ?_
               have h53 := Option.some.inj h53
               subst h53
               refine aF (aT rfl ⟨rfl, rfl, rfl, rfl, rfl, rfl, rfl, rfl, rfl, rfl, trivial⟩ rfl)
              ·have h53 := aO c57 h53
               refine aN rfl rfl (aA rfl) rfl (aA rfl) rfl c57 ?_
               refine aN rfl rfl (aA rfl) rfl (aA rfl) rfl c57 ?_
               refine tr1 rfl (bG (v := .d (.lit (.bool false))) (aA rfl) rfl c57 rfl rfl) ?_
               have h53 := Option.some.inj h53
               subst h53
               refine aF (aT rfl ⟨rfl, rfl, rfl, rfl, rfl, rfl, rfl, rfl, rfl, rfl, trivial⟩ rfl)
             ·refine aF ?_
              refine bN rfl (fun c54 => ?_) (fun c54 => ?_)
              ·have h := aP c54 h
               refine aE ?_
               refine tr1 rfl (aC (v := .d (.lit (.int .i64 most_0_17))) (aA rfl) rfl rfl) ?_
               refine tr1 rfl (aC (v := .d (.sl 5 (r15.map aB))) (aA rfl) rfl rfl) ?_
               refine tr1 rfl (aC (v := .d (.lit (.int .i64 i_0_17))) (aA rfl) rfl rfl) ?_
               obtain ⟨x55, h56, h⟩ := bind_some h
               refine tr1 rfl (bJ (aA rfl) rfl rfl bQ.of (bF aB h56)) ?_
               refine tr1 rfl (bO (aA rfl) rfl fK (es := [.lit (.int .i64 x55.Points)]) rfl) ?_
               refine tr1 rfl (bP (aA rfl) rfl bI) ?_
               refine tr1 rfl (oZ (aA rfl) rfl rfl) ?_
               refine tr1 rfl (aI (v := .d (.lit (.int .i64 ((max most_0_17 x55.Points))))) (aA rfl) rfl rfl) ?_
               refine dE ?_
               simp only [bX] at h
               refine aE ?_
               refine tr1 rfl (aC (v := .d (.lit (.int .i64 i_0_17))) (aA rfl) rfl rfl) ?_
               refine tr1 rfl (aY (aA rfl) rfl rfl rfl) ?_
               refine tr1 rfl (aI (v := .d (.lit (.int .i64 ((w64 (i_0_17 + 1)))))) (aA rfl) rfl rfl) ?_
               refine aF ?_
               exact ⟨(w64 (sum_0_17 + x31.Points), w64 (must_0_17 + 1), x48.Points, max most_0_17 x55.Points, w64 (found_0_17 + 1), w64 (i_0_17 + 1)), h, aV [0] rfl rfl (aM rfl (aM rfl (aM rfl (aM rfl (aM rfl (aM rfl (aX ⟨rfl, rfl, rfl, rfl, trivial⟩)))))))⟩
              ·have h := aO c54 h
               refine dK ?_
               simp only [bX] at h
               refine aE ?_
               refine tr1 rfl (aC (v := .d (.lit (.int .i64 i_0_17))) (aA rfl) rfl rfl) ?_
               refine tr1 rfl (aY (aA rfl) rfl rfl rfl) ?_
               refine tr1 rfl (aI (v := .d (.lit (.int .i64 ((w64 (i_0_17 + 1)))))) (aA rfl) rfl rfl) ?_
               refine aF ?_
               exact ⟨(w64 (sum_0_17 + x31.Points), w64 (must_0_17 + 1), x48.Points, most_0_17, w64 (found_0_17 + 1), w64 (i_0_17 + 1)), h, aV [0] rfl rfl (aM rfl (aM rfl (aM rfl (aM rfl (aM rfl (aM rfl (aX ⟨rfl, rfl, rfl, rfl, trivial⟩)))))))⟩
            ·have h := aO c47 h
             refine bK ?_
             refine aG ?_
             refine aE ?_
             refine tr1 rfl (aC (v := .d (.sl 5 (r15.map aB))) (aA rfl) rfl rfl) ?_
             refine tr1 rfl (aC (v := .d (.lit (.int .i64 i_0_17))) (aA rfl) rfl rfl) ?_
             obtain ⟨x58, h59, h⟩ := bind_some h
             refine tr1 rfl (bJ (aA rfl) rfl rfl bQ.of (bF aB h59)) ?_
             refine tr1 rfl (bO (aA rfl) rfl eX (es := [.lit (.bool x58.Must)]) rfl) ?_
             refine tr1 rfl (bP (aA rfl) rfl iR) ?_
             refine tr1 rfl (dB (aA rfl) rfl) ?_
             refine tr1 rfl (aC (v := .d (.lit (.bool (!x58.Must)))) (aA rfl) rfl rfl) ?_
             obtain ⟨b60, h61, h⟩ := bind_some h
             refine bR 3 [2, 5, 7, 9, 10, 11, 12, 13, 14, 15] 143 b60 ?_ ?_
             ·refine bA (!x58.Must) (fun c65 => ?_) (fun c65 => ?_)
              ·have h61 := aP c65 h61
               refine aL rfl rfl (aA rfl) rfl c65 (aC (v := .d (.lit (.bool isv_2_20))) (aA rfl) rfl rfl) ?_
               refine aL rfl rfl (aA rfl) rfl c65 (dB (aA rfl) rfl) ?_
               refine tr1 rfl (bH (v := .d (.lit (.bool (!isv_2_20)))) (aA rfl) rfl c65 rfl rfl) ?_
               have h61 := Option.some.inj h61
               subst h61
               refine aF (aT rfl ⟨rfl, rfl, rfl, rfl, rfl, rfl, rfl, rfl, rfl, rfl, trivial⟩ rfl)
              ·have h61 := aO c65 h61
               refine aN rfl rfl (aA rfl) rfl (aA rfl) rfl c65 ?_
               refine aN rfl rfl (aA rfl) rfl (aA rfl) rfl c65 ?_
               refine tr1 rfl (bG (v := .d (.lit (.bool false))) (aA rfl) rfl c65 rfl rfl) ?_
               have h61 := Option.some.inj h61
               subst h61
               refine aF (aT rfl ⟨rfl, rfl, rfl, rfl, rfl, rfl, rfl, rfl, rfl, rfl, trivial⟩ rfl)
             ·refine aF ?_
              refine bN rfl (fun c62 => ?_) (fun c62 => ?_)
              ·have h := aP c62 h
               refine aE ?_
               refine tr1 rfl (aC (v := .d (.lit (.int .i64 most_0_17))) (aA rfl) rfl rfl) ?_
               refine tr1 rfl (aC (v := .d (.sl 5 (r15.map aB))) (aA rfl) rfl rfl) ?_
               refine tr1 rfl (aC (v := .d (.lit (.int .i64 i_0_17))) (aA rfl) rfl rfl) ?_
               obtain ⟨x63, h64, h⟩ := bind_some h
               refine tr1 rfl (bJ (aA rfl) rfl rfl bQ.of (bF aB h64)) ?_
               refine tr1 rfl (bO (aA rfl) rfl fK (es := [.lit (.int .i64 x63.Points)]) rfl) ?_
               refine tr1 rfl (bP (aA rfl) rfl bI) ?_
               refine tr1 rfl (oZ (aA rfl) rfl rfl) ?_
               refine tr1 rfl (aI (v := .d (.lit (.int .i64 ((max most_0_17 x63.Points))))) (aA rfl) rfl rfl) ?_
               refine dE ?_
               simp only [bX] at h
               refine aE ?_
               refine tr1 rfl (aC (v := .d (.lit (.int .i64 i_0_17))) (aA rfl) rfl rfl) ?_
               refine tr1 rfl (aY (aA rfl) rfl rfl rfl) ?_
               refine tr1 rfl (aI (v := .d (.lit (.int .i64 ((w64 (i_0_17 + 1)))))) (aA rfl) rfl rfl) ?_
               refine aF ?_
               exact ⟨(w64 (sum_0_17 + x31.Points), w64 (must_0_17 + 1), least_0_17, max most_0_17 x63.Points, w64 (found_0_17 + 1), w64 (i_0_17 + 1)), h, aV [0] rfl rfl (aM rfl (aM rfl (aM rfl (aM rfl (aM rfl (aM rfl (aX ⟨rfl, rfl, rfl, rfl, trivial⟩)))))))⟩
              ·have h := aO c62 h
               refine dK ?_
               simp only [bX] at h
               refine aE ?_
               refine tr1 rfl (aC (v := .d (.lit (.int .i64 i_0_17))) (aA rfl) rfl rfl) ?_
               refine tr1 rfl (aY (aA rfl) rfl rfl rfl) ?_
               refine tr1 rfl (aI (v := .d (.lit (.int .i64 ((w64 (i_0_17 + 1)))))) (aA rfl) rfl rfl) ?_
               refine aF ?_
               exact ⟨(w64 (sum_0_17 + x31.Points), w64 (must_0_17 + 1), least_0_17, most_0_17, w64 (found_0_17 + 1), w64 (i_0_17 + 1)), h, aV [0] rfl rfl (aM rfl (aM rfl (aM rfl (aM rfl (aM rfl (aM rfl (aX ⟨rfl, rfl, rfl, rfl, trivial⟩)))))))⟩
       ·have h := aO c35 h
        refine bK ?_
        refine aG ?_
        refine aG ?_
        refine aE ?_
        refine tr1 rfl (aC (v := .d (.sl 5 (r15.map aB))) (aA rfl) rfl rfl) ?_
        refine tr1 rfl (aC (v := .d (.lit (.int .i64 i_0_17))) (aA rfl) rfl rfl) ?_
        obtain ⟨x74, h75, h⟩ := bind_some h
        refine tr1 rfl (bJ (aA rfl) rfl rfl bQ.of (bF aB h75)) ?_
        refine tr1 rfl (bO (aA rfl) rfl eX (es := [.lit (.bool x74.Must)]) rfl) ?_
        refine tr1 rfl (bP (aA rfl) rfl iR) ?_
        refine tr1 rfl (aC (v := .d (.lit (.bool x74.Must))) (aA rfl) rfl rfl) ?_
        obtain ⟨b76, h77, h⟩ := bind_some h
        refine bR 3 [2, 5, 7, 9, 10, 11, 12, 13, 14, 15, 16] 106 b76 ?_ ?_
        ·refine bA (x74.Must) (fun c111 => ?_) (fun c111 => ?_)
         ·have h77 := aP c111 h77
          refine aL rfl rfl (aA rfl) rfl c111 (aC (v := .d (.lit (.bool isv_2_20))) (aA rfl) rfl rfl) ?_
          refine aL rfl rfl (aA rfl) rfl c111 (dB (aA rfl) rfl) ?_
          refine tr1 rfl (bH (v := .d (.lit (.bool (!isv_2_20)))) (aA rfl) rfl c111 rfl rfl) ?_
          have h77 := Option.some.inj h77
          subst h77
          refine aF (aT rfl ⟨rfl, rfl, rfl, rfl, rfl, rfl, rfl, rfl, rfl, rfl, rfl, trivial⟩ rfl)
         ·have h77 := aO c111 h77
          refine aN rfl rfl (aA rfl) rfl (aA rfl) rfl c111 ?_
          refine aN rfl rfl (aA rfl) rfl (aA rfl) rfl c111 ?_
          refine tr1 rfl (bG (v := .d (.lit (.bool false))) (aA rfl) rfl c111 rfl rfl) ?_
          have h77 := Option.some.inj h77
          subst h77
          refine aF (aT rfl ⟨rfl, rfl, rfl, rfl, rfl, rfl, rfl, rfl, rfl, rfl, rfl, trivial⟩ rfl)
        ·refine aF ?_
         refine bN rfl (fun c78 => ?_) (fun c78 => ?_)
         ·have h := aP c78 h
          refine aG ?_
          refine aE ?_
          refine tr1 rfl (aI (v := .d (.lit (.bool false))) (aA rfl) rfl rfl) ?_
          refine aF ?_
          have h := Option.some.inj h
          subst h
          refine cP (cD (cJ (l := [4]) ⟨rfl, trivial⟩)) ?_
          exact bT ⟨rfl, _, .one _, rfl, rfl⟩
         ·have h := aO c78 h
          refine bK ?_
          refine aG ?_
          refine aG ?_
          refine aE ?_
          refine tr1 rfl (aC (v := .d (.sl 5 (r15.map aB))) (aA rfl) rfl rfl) ?_
          refine tr1 rfl (aC (v := .d (.lit (.int .i64 i_0_17))) (aA rfl) rfl rfl) ?_
          obtain ⟨x79, h80, h⟩ := bind_some h
          refine tr1 rfl (bJ (aA rfl) rfl rfl bQ.of (bF aB h80)) ?_
          refine tr1 rfl (bO (aA rfl) rfl eX (es := [.lit (.bool x79.Must)]) rfl) ?_
          refine tr1 rfl (bP (aA rfl) rfl iR) ?_
          refine tr1 rfl (dB (aA rfl) rfl) ?_
          refine tr1 rfl (aC (v := .d (.lit (.bool (!x79.Must)))) (aA rfl) rfl rfl) ?_
          obtain ⟨b81, h82, h⟩ := bind_some h
          refine bR 2 [2, 5, 7, 9, 10, 11, 12, 13, 14, 15, 16] 115 b81 ?_ ?_
          ·refine bA (!x79.Must) (fun c110 => ?_) (fun c110 => ?_)
           ·have h82 := aP c110 h82
            refine aL rfl rfl (aA rfl) rfl c110 (aC (v := .d (.lit (.bool isv_2_20))) (aA rfl) rfl rfl) ?_
            refine tr1 rfl (bH (v := .d (.lit (.bool isv_2_20))) (aA rfl) rfl c110 rfl rfl) ?_
            have h82 := Option.some.inj h82
            subst h82
            refine aF (aT rfl ⟨rfl, rfl, rfl, rfl, rfl, rfl, rfl, rfl, rfl, rfl, rfl, trivial⟩ rfl)
           ·have h82 := aO c110 h82
            refine aN rfl rfl (aA rfl) rfl (aA rfl) rfl c110 ?_
            refine tr1 rfl (bG (v := .d (.lit (.bool false))) (aA rfl) rfl c110 rfl rfl) ?_
            have h82 := Option.some.inj h82
            subst h82
            refine aF (aT rfl ⟨rfl, rfl, rfl, rfl, rfl, rfl, rfl, rfl, rfl, rfl, rfl, trivial⟩ rfl)
          ·refine tr1 rfl (aC (v := .d (.lit (.bool b81))) (aA rfl) rfl rfl) ?_
           obtain ⟨b83, h84, h⟩ := bind_some h
           refine bR 12 [2, 5, 7, 9, 10, 11, 12, 13, 14, 15, 16] 128 b83 ?_ ?_
           ·refine bA (b81) (fun c104 => ?_) (fun c104 => ?_)
            ·have h84 := aP c104 h84
             refine aL rfl rfl (aA rfl) rfl c104 (aC (v := .d (.lit (.int .i64 least_0_17))) (aA rfl) rfl rfl) ?_
             refine aL rfl rfl (aA rfl) rfl c104 (bB (aA rfl) rfl rfl rfl) ?_
             refine aL rfl rfl (aA rfl) rfl c104 (aC (v := .d (.lit (.bool ((decide (least_0_17 < 0)))))) (aA rfl) rfl rfl) ?_
             obtain ⟨b105, h106, h84⟩ := bind_some h84
             refine bR 8 [2, 5, 7, 9, 10, 11, 12, 13, 14, 15, 16, 116, 117, 118, 119] 127 b105 ?_ ?_
             ·refine bA (decide (least_0_17 < 0)) (fun c107 => ?_) (fun c107 => ?_)
              ·have h106 := aP c107 h106
               refine aN rfl rfl (aA rfl) rfl (aA rfl) rfl c107 ?_
               refine aN rfl rfl (aA rfl) rfl (aA rfl) rfl c107 ?_
               refine aN rfl rfl (aA rfl) rfl (aA rfl) rfl c107 ?_
               refine aN rfl rfl (aA rfl) rfl (aA rfl) rfl c107 ?_
               refine aN rfl rfl (aA rfl) rfl (aA rfl) rfl c107 ?_
               refine aN rfl rfl (aA rfl) rfl (aA rfl) rfl c107 ?_
               refine aN rfl rfl (aA rfl) rfl (aA rfl) rfl c107 ?_
               refine aL rfl rfl (aA rfl) rfl c104 (bH (v := .d (.lit (.bool true))) (aA rfl) rfl c107 rfl rfl) ?_
               have h106 := Option.some.inj h106
               subst h106
               refine aF (aT rfl ⟨rfl, rfl, rfl, rfl, rfl, rfl, rfl, rfl, rfl, rfl, rfl, rfl, rfl, rfl, rfl, trivial⟩ rfl)
              ·have h106 := aO c107 h106
               refine aL rfl rfl (aA rfl) rfl c107 (aC (v := .d (.sl 5 (r15.map aB))) (aA rfl) rfl rfl) ?_
               refine aL rfl rfl (aA rfl) rfl c107 (aC (v := .d (.lit (.int .i64 i_0_17))) (aA rfl) rfl rfl) ?_
               obtain ⟨x108, h109, h106⟩ := bind_some h106
               refine aL rfl rfl (aA rfl) rfl c107 (bJ (aA rfl) rfl rfl bQ.of (bF aB h109)) ?_
               refine aL rfl rfl (aA rfl) rfl c107 (bO (aA rfl) rfl fK (es := [.lit (.int .i64 x108.Points)]) rfl) ?_
               refine aL rfl rfl (aA rfl) rfl c107 (bP (aA rfl) rfl bI) ?_
               refine aL rfl rfl (aA rfl) rfl c107 (aC (v := .d (.lit (.int .i64 least_0_17))) (aA rfl) rfl rfl) ?_
               refine aL rfl rfl (aA rfl) rfl c107 (bB (aA rfl) rfl rfl rfl) ?_
               refine aL rfl rfl (aA rfl) rfl c104 (bG (v := .d (.lit (.bool ((decide (x108.Points < least_0_17)))))) (aA rfl) rfl c107 rfl rfl) ?_
               have h106 := Option.some.inj h106
               subst h106
               refine aF (aT rfl ⟨rfl, rfl, rfl, rfl, rfl, rfl, rfl, rfl, rfl, rfl, rfl, rfl, rfl, rfl, rfl, trivial⟩ rfl)
             ·refine tr1 rfl (bH (v := .d (.lit (.bool b105))) (aA rfl) rfl c104 rfl rfl) ?_
              have h84 := Option.some.inj h84
              subst h84
              refine aF (aT rfl ⟨rfl, rfl, rfl, rfl, rfl, rfl, rfl, rfl, rfl, rfl, rfl, trivial⟩ rfl)
            ·have h84 := aO c104 h84
             refine aN rfl rfl (aA rfl) rfl (aA rfl) rfl c104 ?_
             refine aN rfl rfl (aA rfl) rfl (aA rfl) rfl c104 ?_
             refine aN rfl rfl (aA rfl) rfl (aA rfl) rfl c104 ?_
             refine eH rfl rfl (aA rfl) rfl (aA rfl) rfl ?_
             refine eH rfl rfl (aA rfl) rfl (aA rfl) rfl ?_
             refine eH rfl rfl (aA rfl) rfl (aA rfl) rfl ?_
             refine eH rfl rfl (aA rfl) rfl (aA rfl) rfl ?_
             refine eH rfl rfl (aA rfl) rfl (aA rfl) rfl ?_
             refine eH rfl rfl (aA rfl) rfl (aA rfl) rfl ?_
             refine eH rfl rfl (aA rfl) rfl (aA rfl) rfl ?_
             refine aN rfl rfl (aA rfl) rfl (aA rfl) rfl c104 ?_
             refine tr1 rfl (bG (v := .d (.lit (.bool false))) (aA rfl) rfl c104 rfl rfl) ?_
             have h84 := Option.some.inj h84
             subst h84
             refine aF (aT rfl ⟨rfl, rfl, rfl, rfl, rfl, rfl, rfl, rfl, rfl, rfl, rfl, trivial⟩ rfl)
           ·refine aF ?_
            refine bN rfl (fun c85 => ?_) (fun c85 => ?_)
            ·have h := aP c85 h
             refine aE ?_
             refine tr1 rfl (aC (v := .d (.sl 5 (r15.map aB))) (aA rfl) rfl rfl) ?_
             refine tr1 rfl (aC (v := .d (.lit (.int .i64 i_0_17))) (aA rfl) rfl rfl) ?_
             obtain ⟨x86, h87, h⟩ := bind_some h
             refine tr1 rfl (bJ (aA rfl) rfl rfl bQ.of (bF aB h87)) ?_
             refine tr1 rfl (bO (aA rfl) rfl fK (es := [.lit (.int .i64 x86.Points)]) rfl) ?_
             refine tr1 rfl (bP (aA rfl) rfl bI) ?_
             refine tr1 rfl (aI (v := .d (.lit (.int .i64 x86.Points))) (aA rfl) rfl rfl) ?_
             refine aF ?_
             refine aG ?_
             refine aE ?_
             refine tr1 rfl (aC (v := .d (.sl 5 (r15.map aB))) (aA rfl) rfl rfl) ?_
             refine tr1 rfl (aC (v := .d (.lit (.int .i64 i_0_17))) (aA rfl) rfl rfl) ?_
             obtain ⟨x88, h89, h⟩ := bind_some h
             refine tr1 rfl (bJ (aA rfl) rfl rfl bQ.of (bF aB h89)) ?_
             refine tr1 rfl (bO (aA rfl) rfl eX (es := [.lit (.bool x88.Must)]) rfl) ?_
             refine tr1 rfl (bP (aA rfl) rfl iR) ?_
             refine tr1 rfl (dB (aA rfl) rfl) ?_
             refine tr1 rfl (aC (v := .d (.lit (.bool (!x88.Must)))) (aA rfl) rfl rfl) ?_
             obtain ⟨b90, h91, h⟩ := bind_some h
             refine bR 3 [2, 5, 7, 9, 10, 11, 12, 13, 14, 15] 143 b90 ?_ ?_
             ·refine bA (!x88.Must) (fun c95 => ?_) (fun c95 => ?_)
              ·have h91 := aP c95 h91
               refine aL rfl rfl (aA rfl) rfl c95 (aC (v := .d (.lit (.bool isv_2_20))) (aA rfl) rfl rfl) ?_
               refine aL rfl rfl (aA rfl) rfl c95 (dB (aA rfl) rfl) ?_
               refine tr1 rfl (bH (v := .d (.lit (.bool (!isv_2_20)))) (aA rfl) rfl c95 rfl rfl) ?_
               have h91 := Option.some.inj h91
               subst h91
               refine aF (aT rfl ⟨rfl, rfl, rfl, rfl, rfl, rfl, rfl, rfl, rfl, rfl, trivial⟩ rfl)
              ·have h91 := aO c95 h91
               refine aN rfl rfl (aA rfl) rfl (aA rfl) rfl c95 ?_
               refine aN rfl rfl (aA rfl) rfl (aA rfl) rfl c95 ?_
               refine tr1 rfl (bG (v := .d (.lit (.bool false))) (aA rfl) rfl c95 rfl rfl) ?_
               have h91 := Option.some.inj h91
               subst h91
               refine aF (aT rfl ⟨rfl, rfl, rfl, rfl, rfl, rfl, rfl, rfl, rfl, rfl, trivial⟩ rfl)
             ·refine aF ?_
              refine bN rfl (fun c92 => ?_) (fun c92 => ?_)
              ·have h := aP c92 h
               refine aE ?_
               refine tr1 rfl (aC (v := .d (.lit (.int .i64 most_0_17))) (aA rfl) rfl rfl) ?_
               refine tr1 rfl (aC (v := .d (.sl 5 (r15.map aB))) (aA rfl) rfl rfl) ?_
               refine tr1 rfl (aC (v := .d (.lit (.int .i64 i_0_17))) (aA rfl) rfl rfl) ?_
               obtain ⟨x93, h94, h⟩ := bind_some h
               refine tr1 rfl (bJ (aA rfl) rfl rfl bQ.of (bF aB h94)) ?_
               refine tr1 rfl (bO (aA rfl) rfl fK (es := [.lit (.int .i64 x93.Points)]) rfl) ?_
               refine tr1 rfl (bP (aA rfl) rfl bI) ?_
               refine tr1 rfl (oZ (aA rfl) rfl rfl) ?_
               refine tr1 rfl (aI (v := .d (.lit (.int .i64 ((max most_0_17 x93.Points))))) (aA rfl) rfl rfl) ?_
               refine dE ?_
               simp only [bX] at h
               refine aE ?_
               refine tr1 rfl (aC (v := .d (.lit (.int .i64 i_0_17))) (aA rfl) rfl rfl) ?_
               refine tr1 rfl (aY (aA rfl) rfl rfl rfl) ?_
               refine tr1 rfl (aI (v := .d (.lit (.int .i64 ((w64 (i_0_17 + 1)))))) (aA rfl) rfl rfl) ?_
               refine aF ?_
               exact ⟨(w64 (sum_0_17 + x31.Points), must_0_17, x86.Points, max most_0_17 x93.Points, w64 (found_0_17 + 1), w64 (i_0_17 + 1)), h, aV [0] rfl rfl (aM rfl (aM rfl (aM rfl (aM rfl (aM rfl (aM rfl (aX ⟨rfl, rfl, rfl, rfl, trivial⟩)))))))⟩
              ·have h := aO c92 h
               refine dK ?_
               simp only [bX] at h
               refine aE ?_
               refine tr1 rfl (aC (v := .d (.lit (.int .i64 i_0_17))) (aA rfl) rfl rfl) ?_
               refine tr1 rfl (aY (aA rfl) rfl rfl rfl) ?_
               refine tr1 rfl (aI (v := .d (.lit (.int .i64 ((w64 (i_0_17 + 1)))))) (aA rfl) rfl rfl) ?_
               refine aF ?_
               exact ⟨(w64 (sum_0_17 + x31.Points), must_0_17, x86.Points, most_0_17, w64 (found_0_17 + 1), w64 (i_0_17 + 1)), h, aV [0] rfl rfl (aM rfl (aM rfl (aM rfl (aM rfl (aM rfl (aM rfl (aX ⟨rfl, rfl, rfl, rfl, trivial⟩)))))))⟩
            ·have h := aO c85 h
             refine bK ?_
             refine aG ?_
             refine aE ?_
             refine tr1 rfl (aC (v := .d (.sl 5 (r15.map aB))) (aA rfl) rfl rfl) ?_
             refine tr1 rfl (aC (v := .d (.lit (.int .i64 i_0_17))) (aA rfl) rfl rfl) ?_
             obtain ⟨x96, h97, h⟩ := bind_some h
             refine tr1 rfl (bJ (aA rfl) rfl rfl bQ.of (bF aB h97)) ?_
             refine tr1 rfl (bO (aA rfl) rfl eX (es := [.lit (.bool x96.Must)]) rfl) ?_
             refine tr1 rfl (bP (aA rfl) rfl iR) ?_
             refine tr1 rfl (dB (aA rfl) rfl) ?_
             refine tr1 rfl (aC (v := .d (.lit (.bool (!x96.Must)))) (aA rfl) rfl rfl) ?_
             obtain ⟨b98, h99, h⟩ := bind_some h
             refine bR 3 [2, 5, 7, 9, 10, 11, 12, 13, 14, 15] 143 b98 ?_ ?_
             ·refine bA (!x96.Must) (fun c103 => ?_) (fun c103 => ?_)
              ·have h99 := aP c103 h99
               refine aL rfl rfl (aA rfl) rfl c103 (aC (v := .d (.lit (.bool isv_2_20))) (aA rfl) rfl rfl) ?_
               refine aL rfl rfl (aA rfl) rfl c103 (dB (aA rfl) rfl) ?_
               refine tr1 rfl (bH (v := .d (.lit (.bool (!isv_2_20)))) (aA rfl) rfl c103 rfl rfl) ?_
               have h99 := Option.some.inj h99
               subst h99
               refine aF (aT rfl ⟨rfl, rfl, rfl, rfl, rfl, rfl, rfl, rfl, rfl, rfl, trivial⟩ rfl)
              ·have h99 := aO c103 h99
               refine aN rfl rfl (aA rfl) rfl (aA rfl) rfl c103 ?_
               refine aN rfl rfl (aA rfl) rfl (aA rfl) rfl c103 ?_
               refine tr1 rfl (bG (v := .d (.lit (.bool false))) (aA rfl) rfl c103 rfl rfl) ?_
               have h99 := Option.some.inj h99
               subst h99
               refine aF (aT rfl ⟨rfl, rfl, rfl, rfl, rfl, rfl, rfl, rfl, rfl, rfl, trivial⟩ rfl)
             ·refine aF ?_
              refine bN rfl (fun c100 => ?_) (fun c100 => ?_)
              ·have h := aP c100 h
               refine aE ?_
               refine tr1 rfl (aC (v := .d (.lit (.int .i64 most_0_17))) (aA rfl) rfl rfl) ?_
               refine tr1 rfl (aC (v := .d (.sl 5 (r15.map aB))) (aA rfl) rfl rfl) ?_
               refine tr1 rfl (aC (v := .d (.lit (.int .i64 i_0_17))) (aA rfl) rfl rfl) ?_
               obtain ⟨x101, h102, h⟩ := bind_some h
               refine tr1 rfl (bJ (aA rfl) rfl rfl bQ.of (bF aB h102)) ?_
               refine tr1 rfl (bO (aA rfl) rfl fK (es := [.lit (.int .i64 x101.Points)]) rfl) ?_
               refine tr1 rfl (bP (aA rfl) rfl bI) ?_
               refine tr1 rfl (oZ (aA rfl) rfl rfl) ?_
               refine tr1 rfl (aI (v := .d (.lit (.int .i64 ((max most_0_17 x101.Points))))) (aA rfl) rfl rfl) ?_
               refine dE ?_
               simp only [bX] at h
               refine aE ?_
               refine tr1 rfl (aC (v := .d (.lit (.int .i64 i_0_17))) (aA rfl) rfl rfl) ?_
               refine tr1 rfl (aY (aA rfl) rfl rfl rfl) ?_
               refine tr1 rfl (aI (v := .d (.lit (.int .i64 ((w64 (i_0_17 + 1)))))) (aA rfl) rfl rfl) ?_
               refine aF ?_
               exact ⟨(w64 (sum_0_17 + x31.Points), must_0_17, least_0_17, max most_0_17 x101.Points, w64 (found_0_17 + 1), w64 (i_0_17 + 1)), h, aV [0] rfl rfl (aM rfl (aM rfl (aM rfl (aM rfl (aM rfl (aM rfl (aX ⟨rfl, rfl, rfl, rfl, trivial⟩)))))))⟩
              ·have h := aO c100 h
               refine dK ?_
               simp only [bX] at h
               refine aE ?_
               refine tr1 rfl (aC (v := .d (.lit (.int .i64 i_0_17))) (aA rfl) rfl rfl) ?_
               refine tr1 rfl (aY (aA rfl) rfl rfl rfl) ?_
               refine tr1 rfl (aI (v := .d (.lit (.int .i64 ((w64 (i_0_17 + 1)))))) (aA rfl) rfl rfl) ?_
               refine aF ?_
               exact ⟨(w64 (sum_0_17 + x31.Points), must_0_17, least_0_17, most_0_17, w64 (found_0_17 + 1), w64 (i_0_17 + 1)), h, aV [0] rfl rfl (aM rfl (aM rfl (aM rfl (aM rfl (aM rfl (aM rfl (aX ⟨rfl, rfl, rfl, rfl, trivial⟩)))))))⟩
      ·have h := aO c30 h
       refine bK ?_
       refine aG ?_
       refine aG ?_
       refine aE ?_
       refine tr1 rfl (aC (v := .d (.sl 5 (r15.map aB))) (aA rfl) rfl rfl) ?_
       refine tr1 rfl (aC (v := .d (.lit (.int .i64 i_0_17))) (aA rfl) rfl rfl) ?_
       obtain ⟨x112, h113, h⟩ := bind_some h
       refine tr1 rfl (bJ (aA rfl) rfl rfl bQ.of (bF aB h113)) ?_
       refine tr1 rfl (bO (aA rfl) rfl eX (es := [.lit (.bool x112.Must)]) rfl) ?_
       refine tr1 rfl (bP (aA rfl) rfl iR) ?_
       refine aF ?_
       refine bN rfl (fun c114 => ?_) (fun c114 => ?_)
       ·have h := aP c114 h
        refine aE ?_
        refine tr1 rfl (aC (v := .d (.lit (.int .i64 must_0_17))) (aA rfl) rfl rfl) ?_
        refine tr1 rfl (aY (aA rfl) rfl rfl rfl) ?_
        refine tr1 rfl (aI (v := .d (.lit (.int .i64 ((w64 (must_0_17 + 1)))))) (aA rfl) rfl rfl) ?_
        refine aF ?_
        refine aG ?_
        refine aG ?_
        refine aE ?_
        refine tr1 rfl (aC (v := .d (.sl 5 (r15.map aB))) (aA rfl) rfl rfl) ?_
        refine tr1 rfl (aC (v := .d (.lit (.int .i64 i_0_17))) (aA rfl) rfl rfl) ?_
        obtain ⟨x115, h116, h⟩ := bind_some h
        refine tr1 rfl (bJ (aA rfl) rfl rfl bQ.of (bF aB h116)) ?_
        refine tr1 rfl (bO (aA rfl) rfl eX (es := [.lit (.bool x115.Must)]) rfl) ?_
        refine tr1 rfl (bP (aA rfl) rfl iR) ?_
        refine tr1 rfl (aC (v := .d (.lit (.bool x115.Must))) (aA rfl) rfl rfl) ?_
        obtain ⟨b117, h118, h⟩ := bind_some h
        refine bR 3 [2, 5, 7, 9, 10, 11, 12, 13, 14, 15, 16] 106 b117 ?_ ?_
        ·refine bA (x115.Must) (fun c152 => ?_) (fun c152 => ?_)
         ·have h118 := aP c152 h118
          refine aL rfl rfl (aA rfl) rfl c152 (aC (v := .d (.lit (.bool isv_2_20))) (aA rfl) rfl rfl) ?_
          refine aL rfl rfl (aA rfl) rfl c152 (dB (aA rfl) rfl) ?_
          refine tr1 rfl (bH (v := .d (.lit (.bool (!isv_2_20)))) (aA rfl) rfl c152 rfl rfl) ?_
          have h118 := Option.some.inj h118
          subst h118
          refine aF (aT rfl ⟨rfl, rfl, rfl, rfl, rfl, rfl, rfl, rfl, rfl, rfl, rfl, trivial⟩ rfl)
         ·have h118 := aO c152 h118
          refine aN rfl rfl (aA rfl) rfl (aA rfl) rfl c152 ?_
          refine aN rfl rfl (aA rfl) rfl (aA rfl) rfl c152 ?_
          refine tr1 rfl (bG (v := .d (.lit (.bool false))) (aA rfl) rfl c152 rfl rfl) ?_
          have h118 := Option.some.inj h118
          subst h118
          refine aF (aT rfl ⟨rfl, rfl, rfl, rfl, rfl, rfl, rfl, rfl, rfl, rfl, rfl, trivial⟩ rfl)
        ·refine aF ?_
         refine bN rfl (fun c119 => ?_) (fun c119 => ?_)
         ·have h := aP c119 h
          refine aG ?_
          refine aE ?_
          refine tr1 rfl (aI (v := .d (.lit (.bool false))) (aA rfl) rfl rfl) ?_
          refine aF ?_
          have h := Option.some.inj h
          subst h
          refine cP (cD (cJ (l := [4]) ⟨rfl, trivial⟩)) ?_
          exact bT ⟨rfl, _, .one _, rfl, rfl⟩
         ·have h := aO c119 h
          refine bK ?_
          refine aG ?_
          refine aG ?_
          refine aE ?_
          refine tr1 rfl (aC (v := .d (.sl 5 (r15.map aB))) (aA rfl) rfl rfl) ?_
          refine tr1 rfl (aC (v := .d (.lit (.int .i64 i_0_17))) (aA rfl) rfl rfl) ?_
          obtain ⟨x120, h121, h⟩ := bind_some h
          refine tr1 rfl (bJ (aA rfl) rfl rfl bQ.of (bF aB h121)) ?_
          refine tr1 rfl (bO (aA rfl) rfl eX (es := [.lit (.bool x120.Must)]) rfl) ?_
          refine tr1 rfl (bP (aA rfl) rfl iR) ?_
          refine tr1 rfl (dB (aA rfl) rfl) ?_
          refine tr1 rfl (aC (v := .d (.lit (.bool (!x120.Must)))) (aA rfl) rfl rfl) ?_
          obtain ⟨b122, h123, h⟩ := bind_some h
          refine bR 2 [2, 5, 7, 9, 10, 11, 12, 13, 14, 15, 16] 115 b122 ?_ ?_
          ·refine bA (!x120.Must) (fun c151 => ?_) (fun c151 => ?_)
           ·have h123 := aP c151 h123
            refine aL rfl rfl (aA rfl) rfl c151 (aC (v := .d (.lit (.bool isv_2_20))) (aA rfl) rfl rfl) ?_
            refine tr1 rfl (bH (v := .d (.lit (.bool isv_2_20))) (aA rfl) rfl c151 rfl rfl) ?_
            have h123 := Option.some.inj h123
            subst h123
            refine aF (aT rfl ⟨rfl, rfl, rfl, rfl, rfl, rfl, rfl, rfl, rfl, rfl, rfl, trivial⟩ rfl)
           ·have h123 := aO c151 h123
            refine aN rfl rfl (aA rfl) rfl (aA rfl) rfl c151 ?_
            refine tr1 rfl (bG (v := .d (.lit (.bool false))) (aA rfl) rfl c151 rfl rfl) ?_
            have h123 := Option.some.inj h123
            subst h123
            refine aF (aT rfl ⟨rfl, rfl, rfl, rfl, rfl, rfl, rfl, rfl, rfl, rfl, rfl, trivial⟩ rfl)
          ·refine tr1 rfl (aC (v := .d (.lit (.bool b122))) (aA rfl) rfl rfl) ?_
           obtain ⟨b124, h125, h⟩ := bind_some h
           refine bR 12 [2, 5, 7, 9, 10, 11, 12, 13, 14, 15, 16] 128 b124 ?_ ?_
           ·refine bA (b122) (fun c145 => ?_) (fun c145 => ?_)
            ·have h125 := aP c145 h125
             refine aL rfl rfl (aA rfl) rfl c145 (aC (v := .d (.lit (.int .i64 least_0_17))) (aA rfl) rfl rfl) ?_
             refine aL rfl rfl (aA rfl) rfl c145 (bB (aA rfl) rfl rfl rfl) ?_
             refine aL rfl rfl (aA rfl) rfl c145 (aC (v := .d (.lit (.bool ((decide (least_0_17 < 0)))))) (aA rfl) rfl rfl) ?_
             obtain ⟨b146, h147, h125⟩ := bind_some h125
             refine bR 8 [2, 5, 7, 9, 10, 11, 12, 13, 14, 15, 16, 116, 117, 118, 119] 127 b146 ?_ ?_
             ·refine bA (decide (least_0_17 < 0)) (fun c148 => ?_) (fun c148 => ?_)
              ·have h147 := aP c148 h147
               refine aN rfl rfl (aA rfl) rfl (aA rfl) rfl c148 ?_
               refine aN rfl rfl (aA rfl) rfl (aA rfl) rfl c148 ?_
               refine aN rfl rfl (aA rfl) rfl (aA rfl) rfl c148 ?_
               refine aN rfl rfl (aA rfl) rfl (aA rfl) rfl c148 ?_
               refine aN rfl rfl (aA rfl) rfl (aA rfl) rfl c148 ?_
               refine aN rfl rfl (aA rfl) rfl (aA rfl) rfl c148 ?_
               refine aN rfl rfl (aA rfl) rfl (aA rfl) rfl c148 ?_
               refine aL rfl rfl (aA rfl) rfl c145 (bH (v := .d (.lit (.bool true))) (aA rfl) rfl c148 rfl rfl) ?_
               have h147 := Option.some.inj h147
               subst h147
               refine aF (aT rfl ⟨rfl, rfl, rfl, rfl, rfl, rfl, rfl, rfl, rfl, rfl, rfl, rfl, rfl, rfl, rfl, trivial⟩ rfl)
              ·have h147 := aO c148 h147
               refine aL rfl rfl (aA rfl) rfl c148 (aC (v := .d (.sl 5 (r15.map aB))) (aA rfl) rfl rfl) ?_
               refine aL rfl rfl (aA rfl) rfl c148 (aC (v := .d (.lit (.int .i64 i_0_17))) (aA rfl) rfl rfl) ?_
               obtain ⟨x149, h150, h147⟩ := bind_some h147
               refine aL rfl rfl (aA rfl) rfl c148 (bJ (aA rfl) rfl rfl bQ.of (bF aB h150)) ?_
               refine aL rfl rfl (aA rfl) rfl c148 (bO (aA rfl) rfl fK (es := [.lit (.int .i64 x149.Points)]) rfl) ?_
               refine aL rfl rfl (aA rfl) rfl c148 (bP (aA rfl) rfl bI) ?_
               refine aL rfl rfl (aA rfl) rfl c148 (aC (v := .d (.lit (.int .i64 least_0_17))) (aA rfl) rfl rfl) ?_
               refine aL rfl rfl (aA rfl) rfl c148 (bB (aA rfl) rfl rfl rfl) ?_
               refine aL rfl rfl (aA rfl) rfl c145 (bG (v := .d (.lit (.bool ((decide (x149.Points < least_0_17)))))) (aA rfl) rfl c148 rfl rfl) ?_
               have h147 := Option.some.inj h147
               subst h147
               refine aF (aT rfl ⟨rfl, rfl, rfl, rfl, rfl, rfl, rfl, rfl, rfl, rfl, rfl, rfl, rfl, rfl, rfl, trivial⟩ rfl)
             ·refine tr1 rfl (bH (v := .d (.lit (.bool b146))) (aA rfl) rfl c145 rfl rfl) ?_
              have h125 := Option.some.inj h125
              subst h125
              refine aF (aT rfl ⟨rfl, rfl, rfl, rfl, rfl, rfl, rfl, rfl, rfl, rfl, rfl, trivial⟩ rfl)
            ·have h125 := aO c145 h125
             refine aN rfl rfl (aA rfl) rfl (aA rfl) rfl c145 ?_
             refine aN rfl rfl (aA rfl) rfl (aA rfl) rfl c145 ?_
             refine aN rfl rfl (aA rfl) rfl (aA rfl) rfl c145 ?_
             refine eH rfl rfl (aA rfl) rfl (aA rfl) rfl ?_
             refine eH rfl rfl (aA rfl) rfl (aA rfl) rfl ?_
             refine eH rfl rfl (aA rfl) rfl (aA rfl) rfl ?_
             refine eH rfl rfl (aA rfl) rfl (aA rfl) rfl ?_
             refine eH rfl rfl (aA rfl) rfl (aA rfl) rfl ?_
             refine eH rfl rfl (aA rfl) rfl (aA rfl) rfl ?_
             refine eH rfl rfl (aA rfl) rfl (aA rfl) rfl ?_
             refine aN rfl rfl (aA rfl) rfl (aA rfl) rfl c145 ?_
             refine tr1 rfl (bG (v := .d (.lit (.bool false))) (aA rfl) rfl c145 rfl rfl) ?_
             have h125 := Option.some.inj h125
             subst h125
             refine aF (aT rfl ⟨rfl, rfl, rfl, rfl, rfl, rfl, rfl, rfl, rfl, rfl, rfl, trivial⟩ rfl)
           ·refine aF ?_
            refine bN rfl (fun c126 => ?_) (fun c126 => ?_)
            ·have h := aP c126 h
             refine aE ?_
             refine tr1 rfl (aC (v := .d (.sl 5 (r15.map aB))) (aA rfl) rfl rfl) ?_
             refine tr1 rfl (aC (v := .d (.lit (.int .i64 i_0_17))) (aA rfl) rfl rfl) ?_
             obtain ⟨x127, h128, h⟩ := bind_some h
             refine tr1 rfl (bJ (aA rfl) rfl rfl bQ.of (bF aB h128)) ?_
             refine tr1 rfl (bO (aA rfl) rfl fK (es := [.lit (.int .i64 x127.Points)]) rfl) ?_
             refine tr1 rfl (bP (aA rfl) rfl bI) ?_
             refine tr1 rfl (aI (v := .d (.lit (.int .i64 x127.Points))) (aA rfl) rfl rfl) ?_
             refine aF ?_
             refine aG ?_
             refine aE ?_
             refine tr1 rfl (aC (v := .d (.sl 5 (r15.map aB))) (aA rfl) rfl rfl) ?_
             refine tr1 rfl (aC (v := .d (.lit (.int .i64 i_0_17))) (aA rfl) rfl rfl) ?_
             obtain ⟨x129, h130, h⟩ := bind_some h
             refine tr1 rfl (bJ (aA rfl) rfl rfl bQ.of (bF aB h130)) ?_
             refine tr1 rfl (bO (aA rfl) rfl eX (es := [.lit (.bool x129.Must)]) rfl) ?_
             refine tr1 rfl (bP (aA rfl) rfl iR) ?_
             refine tr1 rfl (dB (aA rfl) rfl) ?_
             refine tr1 rfl (aC (v := .d (.lit (.bool (!x129.Must)))) (aA rfl) rfl rfl) ?_
             obtain ⟨b131, h132, h⟩ := bind_some h
             refine bR 3 [2, 5, 7, 9, 10, 11, 12, 13, 14, 15] 143 b131 ?_ ?_
             ·refine bA (!x129.Must) (fun c136 => ?_) (fun c136 => ?_)
              ·have h132 := aP c136 h132
               refine aL rfl rfl (aA rfl) rfl c136 (aC (v := .d (.lit (.bool isv_2_20))) (aA rfl) rfl rfl) ?_
               refine aL rfl rfl (aA rfl) rfl c136 (dB (aA rfl) rfl) ?_
               refine tr1 rfl (bH (v := .d (.lit (.bool (!isv_2_20)))) (aA rfl) rfl c136 rfl rfl) ?_
               have h132 := Option.some.inj h132
               subst h132
               refine aF (aT rfl ⟨rfl, rfl, rfl, rfl, rfl, rfl, rfl, rfl, rfl, rfl, trivial⟩ rfl)
              ·have h132 := aO c136 h132
               refine aN rfl rfl (aA rfl) rfl (aA rfl) rfl c136 ?_
               refine aN rfl rfl (aA rfl) rfl (aA rfl) rfl c136 ?_
               refine tr1 rfl (bG (v := .d (.lit (.bool false))) (aA rfl) rfl c136 rfl rfl) ?_
               have h132 := Option.some.inj h132
               subst h132
               refine aF (aT rfl ⟨rfl, rfl, rfl, rfl, rfl, rfl, rfl, rfl, rfl, rfl, trivial⟩ rfl)
             ·refine aF ?_
              refine bN rfl (fun c133 => ?_) (fun c133 => ?_)
              ·have h := aP c133 h
               refine aE ?_
               refine tr1 rfl (aC (v := .d (.lit (.int .i64 most_0_17))) (aA rfl) rfl rfl) ?_
               refine tr1 rfl (aC (v := .d (.sl 5 (r15.map aB))) (aA rfl) rfl rfl) ?_
               refine tr1 rfl (aC (v := .d (.lit (.int .i64 i_0_17))) (aA rfl) rfl rfl) ?_
               obtain ⟨x134, h135, h⟩ := bind_some h
               refine tr1 rfl (bJ (aA rfl) rfl rfl bQ.of (bF aB h135)) ?_
               refine tr1 rfl (bO (aA rfl) rfl fK (es := [.lit (.int .i64 x134.Points)]) rfl) ?_
               refine tr1 rfl (bP (aA rfl) rfl bI) ?_
               refine tr1 rfl (oZ (aA rfl) rfl rfl) ?_
               refine tr1 rfl (aI (v := .d (.lit (.int .i64 ((max most_0_17 x134.Points))))) (aA rfl) rfl rfl) ?_
               refine dE ?_
               simp only [bX] at h
               refine aE ?_
               refine tr1 rfl (aC (v := .d (.lit (.int .i64 i_0_17))) (aA rfl) rfl rfl) ?_
               refine tr1 rfl (aY (aA rfl) rfl rfl rfl) ?_
               refine tr1 rfl (aI (v := .d (.lit (.int .i64 ((w64 (i_0_17 + 1)))))) (aA rfl) rfl rfl) ?_
               refine aF ?_
               exact ⟨(sum_0_17, w64 (must_0_17 + 1), x127.Points, max most_0_17 x134.Points, found_0_17, w64 (i_0_17 + 1)), h, aV [0] rfl rfl (aM rfl (aM rfl (aM rfl (aM rfl (aM rfl (aM rfl (aX ⟨rfl, rfl, rfl, rfl, trivial⟩)))))))⟩
              ·have h := aO c133 h
               refine dK ?_
               simp only [bX] at h
               refine aE ?_
               refine tr1 rfl (aC (v := .d (.lit (.int .i64 i_0_17))) (aA rfl) rfl rfl) ?_
               refine tr1 rfl (aY (aA rfl) rfl rfl rfl) ?_
               refine tr1 rfl (aI (v := .d (.lit (.int .i64 ((w64 (i_0_17 + 1)))))) (aA rfl) rfl rfl) ?_
               refine aF ?_
               exact ⟨(sum_0_17, w64 (must_0_17 + 1), x127.Points, most_0_17, found_0_17, w64 (i_0_17 + 1)), h, aV [0] rfl rfl (aM rfl (aM rfl (aM rfl (aM rfl (aM rfl (aM rfl (aX ⟨rfl, rfl, rfl, rfl, trivial⟩)))))))⟩
            ·have h := aO c126 h
             refine bK ?_
             refine aG ?_
             refine aE ?_
             refine tr1 rfl (aC (v := .d (.sl 5 (r15.map aB))) (aA rfl) rfl rfl) ?_
             refine tr1 rfl (aC (v := .d (.lit (.int .i64 i_0_17))) (aA rfl) rfl rfl) ?_
             obtain ⟨x137, h138, h⟩ := bind_some h
             refine tr1 rfl (bJ (aA rfl) rfl rfl bQ.of (bF aB h138)) ?_
             refine tr1 rfl (bO (aA rfl) rfl eX (es := [.lit (.bool x137.Must)]) rfl) ?_
             refine tr1 rfl (bP (aA rfl) rfl iR) ?_
             refine tr1 rfl (dB (aA rfl) rfl) ?_
             refine tr1 rfl (aC (v := .d (.lit (.bool (!x137.Must)))) (aA rfl) rfl rfl) ?_
             obtain ⟨b139, h140, h⟩ := bind_some h
             refine bR 3 [2, 5, 7, 9, 10, 11, 12, 13, 14, 15] 143 b139 ?_ ?_
             ·refine bA (!x137.Must) (fun c144 => ?_) (fun c144 => ?_)
              ·have h140 := aP c144 h140
               refine aL rfl rfl (aA rfl) rfl c144 (aC (v := .d (.lit (.bool isv_2_20))) (aA rfl) rfl rfl) ?_
               refine aL rfl rfl (aA rfl) rfl c144 (dB (aA rfl) rfl) ?_
               refine tr1 rfl (bH (v := .d (.lit (.bool (!isv_2_20)))) (aA rfl) rfl c144 rfl rfl) ?_
               have h140 := Option.some.inj h140
               subst h140
               refine aF (aT rfl ⟨rfl, rfl, rfl, rfl, rfl, rfl, rfl, rfl, rfl, rfl, trivial⟩ rfl)
              ·have h140 := aO c144 h140
               refine aN rfl rfl (aA rfl) rfl (aA rfl) rfl c144 ?_
               refine aN rfl rfl (aA rfl) rfl (aA rfl) rfl c144 ?_
               refine tr1 rfl (bG (v := .d (.lit (.bool false))) (aA rfl) rfl c144 rfl rfl) ?_
               have h140 := Option.some.inj h140
               subst h140
               refine aF (aT rfl ⟨rfl, rfl, rfl, rfl, rfl, rfl, rfl, rfl, rfl, rfl, trivial⟩ rfl)
             ·refine aF ?_
              refine bN rfl (fun c141 => ?_) (fun c141 => ?_)
              ·have h := aP c141 h
               refine aE ?_
               refine tr1 rfl (aC (v := .d (.lit (.int .i64 most_0_17))) (aA rfl) rfl rfl) ?_
               refine tr1 rfl (aC (v := .d (.sl 5 (r15.map aB))) (aA rfl) rfl rfl) ?_
               refine tr1 rfl (aC (v := .d (.lit (.int .i64 i_0_17))) (aA rfl) rfl rfl) ?_
               obtain ⟨x142, h143, h⟩ := bind_some h
               refine tr1 rfl (bJ (aA rfl) rfl rfl bQ.of (bF aB h143)) ?_
               refine tr1 rfl (bO (aA rfl) rfl fK (es := [.lit (.int .i64 x142.Points)]) rfl) ?_
               refine tr1 rfl (bP (aA rfl) rfl bI) ?_
               refine tr1 rfl (oZ (aA rfl) rfl rfl) ?_
               refine tr1 rfl (aI (v := .d (.lit (.int .i64 ((max most_0_17 x142.Points))))) (aA rfl) rfl rfl) ?_
               refine dE ?_
               simp only [bX] at h
               refine aE ?_
               refine tr1 rfl (aC (v := .d (.lit (.int .i64 i_0_17))) (aA rfl) rfl rfl) ?_
               refine tr1 rfl (aY (aA rfl) rfl rfl rfl) ?_
               refine tr1 rfl (aI (v := .d (.lit (.int .i64 ((w64 (i_0_17 + 1)))))) (aA rfl) rfl rfl) ?_
               refine aF ?_
               exact ⟨(sum_0_17, w64 (must_0_17 + 1), least_0_17, max most_0_17 x142.Points, found_0_17, w64 (i_0_17 + 1)), h, aV [0] rfl rfl (aM rfl (aM rfl (aM rfl (aM rfl (aM rfl (aM rfl (aX ⟨rfl, rfl, rfl, rfl, trivial⟩)))))))⟩
              ·have h := aO c141 h
               refine dK ?_
               simp only [bX] at h
               refine aE ?_
               refine tr1 rfl (aC (v := .d (.lit (.int .i64 i_0_17))) (aA rfl) rfl rfl) ?_
               refine tr1 rfl (aY (aA rfl) rfl rfl rfl) ?_
               refine tr1 rfl (aI (v := .d (.lit (.int .i64 ((w64 (i_0_17 + 1)))))) (aA rfl) rfl rfl) ?_
               refine aF ?_
               exact ⟨(sum_0_17, w64 (must_0_17 + 1), least_0_17, most_0_17, found_0_17, w64 (i_0_17 + 1)), h, aV [0] rfl rfl (aM rfl (aM rfl (aM rfl (aM rfl (aM rfl (aM rfl (aX ⟨rfl, rfl, rfl, rfl, trivial⟩)))))))⟩
       ·have h := aO c114 h
        refine bK ?_
        refine aG ?_
        refine aG ?_
        refine aE ?_
        refine tr1 rfl (aC (v := .d (.sl 5 (r15.map aB))) (aA rfl) rfl rfl) ?_
        refine tr1 rfl (aC (v := .d (.lit (.int .i64 i_0_17))) (aA rfl) rfl rfl) ?_
        obtain ⟨x153, h154, h⟩ := bind_some h
        refine tr1 rfl (bJ (aA rfl) rfl rfl bQ.of (bF aB h154)) ?_
        refine tr1 rfl (bO (aA rfl) rfl eX (es := [.lit (.bool x153.Must)]) rfl) ?_
        refine tr1 rfl (bP (aA rfl) rfl iR) ?_
        refine tr1 rfl (aC (v := .d (.lit (.bool x153.Must))) (aA rfl) rfl rfl) ?_
        obtain ⟨b155, h156, h⟩ := bind_some h
        refine bR 3 [2, 5, 7, 9, 10, 11, 12, 13, 14, 15, 16] 106 b155 ?_ ?_
        ·refine bA (x153.Must) (fun c190 => ?_) (fun c190 => ?_)
         ·have h156 := aP c190 h156
          refine aL rfl rfl (aA rfl) rfl c190 (aC (v := .d (.lit (.bool isv_2_20))) (aA rfl) rfl rfl) ?_
          refine aL rfl rfl (aA rfl) rfl c190 (dB (aA rfl) rfl) ?_
          refine tr1 rfl (bH (v := .d (.lit (.bool (!isv_2_20)))) (aA rfl) rfl c190 rfl rfl) ?_
          have h156 := Option.some.inj h156
          subst h156
          refine aF (aT rfl ⟨rfl, rfl, rfl, rfl, rfl, rfl, rfl, rfl, rfl, rfl, rfl, trivial⟩ rfl)
         ·have h156 := aO c190 h156
          refine aN rfl rfl (aA rfl) rfl (aA rfl) rfl c190 ?_
          refine aN rfl rfl (aA rfl) rfl (aA rfl) rfl c190 ?_
          refine tr1 rfl (bG (v := .d (.lit (.bool false))) (aA rfl) rfl c190 rfl rfl) ?_
          have h156 := Option.some.inj h156
          subst h156
          refine aF (aT rfl ⟨rfl, rfl, rfl, rfl, rfl, rfl, rfl, rfl, rfl, rfl, rfl, trivial⟩ rfl)
        ·refine aF ?_
         refine bN rfl (fun c157 => ?_) (fun c157 => ?_)
         ·have h := aP c157 h
          refine aG ?_
          refine aE ?_
          refine tr1 rfl (aI (v := .d (.lit (.bool false))) (aA rfl) rfl rfl) ?_
          refine aF ?_
          have h := Option.some.inj h
          subst h
          refine cP (cD (cJ (l := [4]) ⟨rfl, trivial⟩)) ?_
          exact bT ⟨rfl, _, .one _, rfl, rfl⟩
         ·have h := aO c157 h
          refine bK ?_
          refine aG ?_
          refine aG ?_
          refine aE ?_
          refine tr1 rfl (aC (v := .d (.sl 5 (r15.map aB))) (aA rfl) rfl rfl) ?_
          refine tr1 rfl (aC (v := .d (.lit (.int .i64 i_0_17))) (aA rfl) rfl rfl) ?_
          obtain ⟨x158, h159, h⟩ := bind_some h
          refine tr1 rfl (bJ (aA rfl) rfl rfl bQ.of (bF aB h159)) ?_
          refine tr1 rfl (bO (aA rfl) rfl eX (es := [.lit (.bool x158.Must)]) rfl) ?_
          refine tr1 rfl (bP (aA rfl) rfl iR) ?_
          refine tr1 rfl (dB (aA rfl) rfl) ?_
          refine tr1 rfl (aC (v := .d (.lit (.bool (!x158.Must)))) (aA rfl) rfl rfl) ?_
          obtain ⟨b160, h161, h⟩ := bind_some h
          refine bR 2 [2, 5, 7, 9, 10, 11, 12, 13, 14, 15, 16] 115 b160 ?_ ?_
          ·refine bA (!x158.Must) (fun c189 => ?_) (fun c189 => ?_)
           ·have h161 := aP c189 h161
            refine aL rfl rfl (aA rfl) rfl c189 (aC (v := .d (.lit (.bool isv_2_20))) (aA rfl) rfl rfl) ?_
            refine tr1 rfl (bH (v := .d (.lit (.bool isv_2_20))) (aA rfl) rfl c189 rfl rfl) ?_
            have h161 := Option.some.inj h161
            subst h161
            refine aF (aT rfl ⟨rfl, rfl, rfl, rfl, rfl, rfl, rfl, rfl, rfl, rfl, rfl, trivial⟩ rfl)
           ·have h161 := aO c189 h161
            refine aN rfl rfl (aA rfl) rfl (aA rfl) rfl c189 ?_
            refine tr1 rfl (bG (v := .d (.lit (.bool false))) (aA rfl) rfl c189 rfl rfl) ?_
            have h161 := Option.some.inj h161
            subst h161
            refine aF (aT rfl ⟨rfl, rfl, rfl, rfl, rfl, rfl, rfl, rfl, rfl, rfl, rfl, trivial⟩ rfl)
          ·refine tr1 rfl (aC (v := .d (.lit (.bool b160))) (aA rfl) rfl rfl) ?_
           obtain ⟨b162, h163, h⟩ := bind_some h
           refine bR 12 [2, 5, 7, 9, 10, 11, 12, 13, 14, 15, 16] 128 b162 ?_ ?_
           ·refine bA (b160) (fun c183 => ?_) (fun c183 => ?_)
            ·have h163 := aP c183 h163
             refine aL rfl rfl (aA rfl) rfl c183 (aC (v := .d (.lit (.int .i64 least_0_17))) (aA rfl) rfl rfl) ?_
             refine aL rfl rfl (aA rfl) rfl c183 (bB (aA rfl) rfl rfl rfl) ?_
             refine aL rfl rfl (aA rfl) rfl c183 (aC (v := .d (.lit (.bool ((decide (least_0_17 < 0)))))) (aA rfl) rfl rfl) ?_
             obtain ⟨b184, h185, h163⟩ := bind_some h163
             refine bR 8 [2, 5, 7, 9, 10, 11, 12, 13, 14, 15, 16, 116, 117, 118, 119] 127 b184 ?_ ?_
             ·refine bA (decide (least_0_17 < 0)) (fun c186 => ?_) (fun c186 => ?_)
              ·have h185 := aP c186 h185
               refine aN rfl rfl (aA rfl) rfl (aA rfl) rfl c186 ?_
               refine aN rfl rfl (aA rfl) rfl (aA rfl) rfl c186 ?_
               refine aN rfl rfl (aA rfl) rfl (aA rfl) rfl c186 ?_
               refine aN rfl rfl (aA rfl) rfl (aA rfl) rfl c186 ?_
               refine aN rfl rfl (aA rfl) rfl (aA rfl) rfl c186 ?_
               refine aN rfl rfl (aA rfl) rfl (aA rfl) rfl c186 ?_
               refine aN rfl rfl (aA rfl) rfl (aA rfl) rfl c186 ?_
               refine aL rfl rfl (aA rfl) rfl c183 (bH (v := .d (.lit (.bool true))) (aA rfl) rfl c186 rfl rfl) ?_
               have h185 := Option.some.inj h185
               subst h185
               refine aF (aT rfl ⟨rfl, rfl, rfl, rfl, rfl, rfl, rfl, rfl, rfl, rfl, rfl, rfl, rfl, rfl, rfl, trivial⟩ rfl)
              ·have h185 := aO c186 h185
               refine aL rfl rfl (aA rfl) rfl c186 (aC (v := .d (.sl 5 (r15.map aB))) (aA rfl) rfl rfl) ?_
               refine aL rfl rfl (aA rfl) rfl c186 (aC (v := .d (.lit (.int .i64 i_0_17))) (aA rfl) rfl rfl) ?_
               obtain ⟨x187, h188, h185⟩ := bind_some h185
               refine aL rfl rfl (aA rfl) rfl c186 (bJ (aA rfl) rfl rfl bQ.of (bF aB h188)) ?_
               refine aL rfl rfl (aA rfl) rfl c186 (bO (aA rfl) rfl fK (es := [.lit (.int .i64 x187.Points)]) rfl) ?_
               refine aL rfl rfl (aA rfl) rfl c186 (bP (aA rfl) rfl bI) ?_
               refine aL rfl rfl (aA rfl) rfl c186 (aC (v := .d (.lit (.int .i64 least_0_17))) (aA rfl) rfl rfl) ?_
               refine aL rfl rfl (aA rfl) rfl c186 (bB (aA rfl) rfl rfl rfl) ?_
               refine aL rfl rfl (aA rfl) rfl c183 (bG (v := .d (.lit (.bool ((decide (x187.Points < least_0_17)))))) (aA rfl) rfl c186 rfl rfl) ?_
               have h185 := Option.some.inj h185
               subst h185
               refine aF (aT rfl ⟨rfl, rfl, rfl, rfl, rfl, rfl, rfl, rfl, rfl, rfl, rfl, rfl, rfl, rfl, rfl, trivial⟩ rfl)
             ·refine tr1 rfl (bH (v := .d (.lit (.bool b184))) (aA rfl) rfl c183 rfl rfl) ?_
              have h163 := Option.some.inj h163
              subst h163
              refine aF (aT rfl ⟨rfl, rfl, rfl, rfl, rfl, rfl, rfl, rfl, rfl, rfl, rfl, trivial⟩ rfl)
            ·have h163 := aO c183 h163
             refine aN rfl rfl (aA rfl) rfl (aA rfl) rfl c183 ?_
             refine aN rfl rfl (aA rfl) rfl (aA rfl) rfl c183 ?_
             refine aN rfl rfl (aA rfl) rfl (aA rfl) rfl c183 ?_
             refine eH rfl rfl (aA rfl) rfl (aA rfl) rfl ?_
             refine eH rfl rfl (aA rfl) rfl (aA rfl) rfl ?_
             refine eH rfl rfl (aA rfl) rfl (aA rfl) rfl ?_
             refine eH rfl rfl (aA rfl) rfl (aA rfl) rfl ?_
             refine eH rfl rfl (aA rfl) rfl (aA rfl) rfl ?_
             refine eH rfl rfl (aA rfl) rfl (aA rfl) rfl ?_
             refine eH rfl rfl (aA rfl) rfl (aA rfl) rfl ?_
             refine aN rfl rfl (aA rfl) rfl (aA rfl) rfl c183 ?_
             refine tr1 rfl (bG (v := .d (.lit (.bool false))) (aA rfl) rfl c183 rfl rfl) ?_
             have h163 := Option.some.inj h163
             subst h163
             refine aF (aT rfl ⟨rfl, rfl, rfl, rfl, rfl, rfl, rfl, rfl, rfl, rfl, rfl, trivial⟩ rfl)
           ·refine aF ?_
            refine bN rfl (fun c164 => ?_) (fun c164 => ?_)
            ·have h := aP c164 h
             refine aE ?_
             refine tr1 rfl (aC (v := .d (.sl 5 (r15.map aB))) (aA rfl) rfl rfl) ?_
             refine tr1 rfl (aC (v := .d (.lit (.int .i64 i_0_17))) (aA rfl) rfl rfl) ?_
             obtain ⟨x165, h166, h⟩ := bind_some h
             refine tr1 rfl (bJ (aA rfl) rfl rfl bQ.of (bF aB h166)) ?_
             refine tr1 rfl (bO (aA rfl) rfl fK (es := [.lit (.int .i64 x165.Points)]) rfl) ?_
             refine tr1 rfl (bP (aA rfl) rfl bI) ?_
             refine tr1 rfl (aI (v := .d (.lit (.int .i64 x165.Points))) (aA rfl) rfl rfl) ?_
             refine aF ?_
             refine aG ?_
             refine aE ?_
             refine tr1 rfl (aC (v := .d (.sl 5 (r15.map aB))) (aA rfl) rfl rfl) ?_
             refine tr1 rfl (aC (v := .d (.lit (.int .i64 i_0_17))) (aA rfl) rfl rfl) ?_
             obtain ⟨x167, h168, h⟩ := bind_some h
             refine tr1 rfl (bJ (aA rfl) rfl rfl bQ.of (bF aB h168)) ?_
             refine tr1 rfl (bO (aA rfl) rfl eX (es := [.lit (.bool x167.Must)]) rfl) ?_
             refine tr1 rfl (bP (aA rfl) rfl iR) ?_
             refine tr1 rfl (dB (aA rfl) rfl) ?_
             refine tr1 rfl (aC (v := .d (.lit (.bool (!x167.Must)))) (aA rfl) rfl rfl) ?_
             obtain ⟨b169, h170, h⟩ := bind_some h
             refine bR 3 [2, 5, 7, 9, 10, 11, 12, 13, 14, 15] 143 b169 ?_ ?_
             ·refine bA (!x167.Must) (fun c174 => ?_) (fun c174 => ?_)
              ·have h170 := aP c174 h170
               refine aL rfl rfl (aA rfl) rfl c174 (aC (v := .d (.lit (.bool isv_2_20))) (aA rfl) rfl rfl) ?_
               refine aL rfl rfl (aA rfl) rfl c174 (dB (aA rfl) rfl) ?_
               refine tr1 rfl (bH (v := .d (.lit (.bool (!isv_2_20)))) (aA rfl) rfl c174 rfl rfl) ?_
               have h170 := Option.some.inj h170
               subst h170
               refine aF (aT rfl ⟨rfl, rfl, rfl, rfl, rfl, rfl, rfl, rfl, rfl, rfl, trivial⟩ rfl)
              ·have h170 := aO c174 h170
               refine aN rfl rfl (aA rfl) rfl (aA rfl) rfl c174 ?_
               refine aN rfl rfl (aA rfl) rfl (aA rfl) rfl c174 ?_
               refine tr1 rfl (bG (v := .d (.lit (.bool false))) (aA rfl) rfl c174 rfl rfl) ?_
               have h170 := Option.some.inj h170
               subst h170
               refine aF (aT rfl ⟨rfl, rfl, rfl, rfl, rfl, rfl, rfl, rfl, rfl, rfl, trivial⟩ rfl)
             ·refine aF ?_
              refine bN rfl (fun c171 => ?_) (fun c171 => ?_)
              ·have h := aP c171 h
               refine aE ?_
               refine tr1 rfl (aC (v := .d (.lit (.int .i64 most_0_17))) (aA rfl) rfl rfl) ?_
               refine tr1 rfl (aC (v := .d (.sl 5 (r15.map aB))) (aA rfl) rfl rfl) ?_
               refine tr1 rfl (aC (v := .d (.lit (.int .i64 i_0_17))) (aA rfl) rfl rfl) ?_
               obtain ⟨x172, h173, h⟩ := bind_some h
               refine tr1 rfl (bJ (aA rfl) rfl rfl bQ.of (bF aB h173)) ?_
               refine tr1 rfl (bO (aA rfl) rfl fK (es := [.lit (.int .i64 x172.Points)]) rfl) ?_
               refine tr1 rfl (bP (aA rfl) rfl bI) ?_
               refine tr1 rfl (oZ (aA rfl) rfl rfl) ?_
               refine tr1 rfl (aI (v := .d (.lit (.int .i64 ((max most_0_17 x172.Points))))) (aA rfl) rfl rfl) ?_
               refine dE ?_
               simp only [bX] at h
               refine aE ?_
               refine tr1 rfl (aC (v := .d (.lit (.int .i64 i_0_17))) (aA rfl) rfl rfl) ?_
               refine tr1 rfl (aY (aA rfl) rfl rfl rfl) ?_
               refine tr1 rfl (aI (v := .d (.lit (.int .i64 ((w64 (i_0_17 + 1)))))) (aA rfl) rfl rfl) ?_
               refine aF ?_
               exact ⟨(sum_0_17, must_0_17, x165.Points, max most_0_17 x172.Points, found_0_17, w64 (i_0_17 + 1)), h, aV [0] rfl rfl (aM rfl (aM rfl (aM rfl (aM rfl (aM rfl (aM rfl (aX ⟨rfl, rfl, rfl, rfl, trivial⟩)))))))⟩
              ·have h := aO c171 h
               refine dK ?_
               simp only [bX] at h
               refine aE ?_
               refine tr1 rfl (aC (v := .d (.lit (.int .i64 i_0_17))) (aA rfl) rfl rfl) ?_
               refine tr1 rfl (aY (aA rfl) rfl rfl rfl) ?_
               refine tr1 rfl (aI (v := .d (.lit (.int .i64 ((w64 (i_0_17 + 1)))))) (aA rfl) rfl rfl) ?_
               refine aF ?_
               exact ⟨(sum_0_17, must_0_17, x165.Points, most_0_17, found_0_17, w64 (i_0_17 + 1)), h, aV [0] rfl rfl (aM rfl (aM rfl (aM rfl (aM rfl (aM rfl (aM rfl (aX ⟨rfl, rfl, rfl, rfl, trivial⟩)))))))⟩
            ·have h := aO c164 h
             refine bK ?_
             refine aG ?_
             refine aE ?_
             refine tr1 rfl (aC (v := .d (.sl 5 (r15.map aB))) (aA rfl) rfl rfl) ?_
             refine tr1 rfl (aC (v := .d (.lit (.int .i64 i_0_17))) (aA rfl) rfl rfl) ?_
             obtain ⟨x175, h176, h⟩ := bind_some h
             refine tr1 rfl (bJ (aA rfl) rfl rfl bQ.of (bF aB h176)) ?_
             refine tr1 rfl (bO (aA rfl) rfl eX (es := [.lit (.bool x175.Must)]) rfl) ?_
             refine tr1 rfl (bP (aA rfl) rfl iR) ?_
             refine tr1 rfl (dB (aA rfl) rfl) ?_
             refine tr1 rfl (aC (v := .d (.lit (.bool (!x175.Must)))) (aA rfl) rfl rfl) ?_
             obtain ⟨b177, h178, h⟩ := bind_some h
             refine bR 3 [2, 5, 7, 9, 10, 11, 12, 13, 14, 15] 143 b177 ?_ ?_
             ·refine bA (!x175.Must) (fun c182 => ?_) (fun c182 => ?_)
              ·have h178 := aP c182 h178
               refine aL rfl rfl (aA rfl) rfl c182 (aC (v := .d (.lit (.bool isv_2_20))) (aA rfl) rfl rfl) ?_
               refine aL rfl rfl (aA rfl) rfl c182 (dB (aA rfl) rfl) ?_
               refine tr1 rfl (bH (v := .d (.lit (.bool (!isv_2_20)))) (aA rfl) rfl c182 rfl rfl) ?_
               have h178 := Option.some.inj h178
               subst h178
               refine aF (aT rfl ⟨rfl, rfl, rfl, rfl, rfl, rfl, rfl, rfl, rfl, rfl, trivial⟩ rfl)
              ·have h178 := aO c182 h178
               refine aN rfl rfl (aA rfl) rfl (aA rfl) rfl c182 ?_
               refine aN rfl rfl (aA rfl) rfl (aA rfl) rfl c182 ?_
               refine tr1 rfl (bG (v := .d (.lit (.bool false))) (aA rfl) rfl c182 rfl rfl) ?_
               have h178 := Option.some.inj h178
               subst h178
               refine aF (aT rfl ⟨rfl, rfl, rfl, rfl, rfl, rfl, rfl, rfl, rfl, rfl, trivial⟩ rfl)
             ·refine aF ?_
              refine bN rfl (fun c179 => ?_) (fun c179 => ?_)
              ·have h := aP c179 h
               refine aE ?_
               refine tr1 rfl (aC (v := .d (.lit (.int .i64 most_0_17))) (aA rfl) rfl rfl) ?_
               refine tr1 rfl (aC (v := .d (.sl 5 (r15.map aB))) (aA rfl) rfl rfl) ?_
               refine tr1 rfl (aC (v := .d (.lit (.int .i64 i_0_17))) (aA rfl) rfl rfl) ?_
               obtain ⟨x180, h181, h⟩ := bind_some h
               refine tr1 rfl (bJ (aA rfl) rfl rfl bQ.of (bF aB h181)) ?_
               refine tr1 rfl (bO (aA rfl) rfl fK (es := [.lit (.int .i64 x180.Points)]) rfl) ?_
               refine tr1 rfl (bP (aA rfl) rfl bI) ?_
               refine tr1 rfl (oZ (aA rfl) rfl rfl) ?_
               refine tr1 rfl (aI (v := .d (.lit (.int .i64 ((max most_0_17 x180.Points))))) (aA rfl) rfl rfl) ?_
               refine dE ?_
               simp only [bX] at h
               refine aE ?_
               refine tr1 rfl (aC (v := .d (.lit (.int .i64 i_0_17))) (aA rfl) rfl rfl) ?_
               refine tr1 rfl (aY (aA rfl) rfl rfl rfl) ?_
               refine tr1 rfl (aI (v := .d (.lit (.int .i64 ((w64 (i_0_17 + 1)))))) (aA rfl) rfl rfl) ?_
               refine aF ?_
               exact ⟨(sum_0_17, must_0_17, least_0_17, max most_0_17 x180.Points, found_0_17, w64 (i_0_17 + 1)), h, aV [0] rfl rfl (aM rfl (aM rfl (aM rfl (aM rfl (aM rfl (aM rfl (aX ⟨rfl, rfl, rfl, rfl, trivial⟩)))))))⟩
              ·have h := aO c179 h
               refine dK ?_
               simp only [bX] at h
               refine aE ?_
               refine tr1 rfl (aC (v := .d (.lit (.int .i64 i_0_17))) (aA rfl) rfl rfl) ?_
               refine tr1 rfl (aY (aA rfl) rfl rfl rfl) ?_
               refine tr1 rfl (aI (v := .d (.lit (.int .i64 ((w64 (i_0_17 + 1)))))) (aA rfl) rfl rfl) ?_
               refine aF ?_
               exact ⟨(sum_0_17, must_0_17, least_0_17, most_0_17, found_0_17, w64 (i_0_17 + 1)), h, aV [0] rfl rfl (aM rfl (aM rfl (aM rfl (aM rfl (aM rfl (aM rfl (aX ⟨rfl, rfl, rfl, rfl, trivial⟩)))))))⟩
    ·have h := aO c19 h
     refine cT ?_
     refine .inl ⟨rfl, ?_⟩
     simp only [lC] at h
     refine aG ?_
     refine aG ?_
     refine aE ?_
     refine tr1 rfl (aC (v := .d (.lit (.int .i64 r8.1))) (aA rfl) rfl rfl) ?_
     refine tr1 rfl (aC (v := .d (.lit (.int .i64 sum_0_17))) (aA rfl) rfl rfl) ?_
     refine tr1 rfl (bB (aA rfl) rfl rfl rfl) ?_
     refine tr1 rfl (aC (v := .d (.lit (.bool ((!decide (r8.1 = sum_0_17)))))) (aA rfl) rfl rfl) ?_
     obtain ⟨b191, h192, h⟩ := bind_some h
     refine bR 5 [2, 9, 11, 12, 13, 14] 159 b191 ?_ ?_
     ·refine bA (!decide (r8.1 = sum_0_17)) (fun c205 => ?_) (fun c205 => ?_)
      ·have h192 := aP c205 h192
       refine aN rfl rfl (aA rfl) rfl (aA rfl) rfl c205 ?_
       refine aN rfl rfl (aA rfl) rfl (aA rfl) rfl c205 ?_
       refine aN rfl rfl (aA rfl) rfl (aA rfl) rfl c205 ?_
       refine aN rfl rfl (aA rfl) rfl (aA rfl) rfl c205 ?_
       refine tr1 rfl (bH (v := .d (.lit (.bool true))) (aA rfl) rfl c205 rfl rfl) ?_
       have h192 := Option.some.inj h192
       subst h192
       refine aF (aT rfl ⟨rfl, rfl, rfl, rfl, rfl, rfl, trivial⟩ rfl)
      ·have h192 := aO c205 h192
       refine aL rfl rfl (aA rfl) rfl c205 (aC (v := .d (.lit (.int .i64 found_0_17))) (aA rfl) rfl rfl) ?_
       refine aL rfl rfl (aA rfl) rfl c205 (aC (v := .d (.sl 1 (r10.1.map cE))) (aA rfl) rfl rfl) ?_
       refine aL rfl rfl (aA rfl) rfl c205 (dR (aA rfl) rfl eP.of) ?_
       refine aL rfl rfl (aA rfl) rfl c205 (bB (aA rfl) rfl rfl rfl) ?_
       refine tr1 rfl (bG (v := .d (.lit (.bool ((!decide (found_0_17 = (r10.1.length : Int))))))) (aA rfl) rfl c205 rfl rfl) ?_
       have h192 := Option.some.inj h192
       subst h192
       refine aF (aT rfl ⟨rfl, rfl, rfl, rfl, rfl, rfl, trivial⟩ rfl)
     ·refine tr1 rfl (aC (v := .d (.lit (.bool b191))) (aA rfl) rfl rfl) ?_
      obtain ⟨b193, h194, h⟩ := bind_some h
      refine bR 10 [12, 13] 170 b193 ?_ ?_
      ·refine bA (b191) (fun c204 => ?_) (fun c204 => ?_)
       ·have h194 := aP c204 h194
        refine aN rfl rfl (aA rfl) rfl (aA rfl) rfl c204 ?_
        refine aN rfl rfl (aA rfl) rfl (aA rfl) rfl c204 ?_
        refine aN rfl rfl (aA rfl) rfl (aA rfl) rfl c204 ?_
        refine aN rfl rfl (aA rfl) rfl (aA rfl) rfl c204 ?_
        refine aN rfl rfl (aA rfl) rfl (aA rfl) rfl c204 ?_
        refine aN rfl rfl (aA rfl) rfl (aA rfl) rfl c204 ?_
        refine aN rfl rfl (aA rfl) rfl (aA rfl) rfl c204 ?_
        refine aN rfl rfl (aA rfl) rfl (aA rfl) rfl c204 ?_
        refine aN rfl rfl (aA rfl) rfl (aA rfl) rfl c204 ?_
        refine tr1 rfl (bH (v := .d (.lit (.bool true))) (aA rfl) rfl c204 rfl rfl) ?_
        have h194 := Option.some.inj h194
        subst h194
        refine aF (aT rfl ⟨rfl, rfl, trivial⟩ rfl)
       ·have h194 := aO c204 h194
        refine aL rfl rfl (aA rfl) rfl c204 (aC (v := .d (.lit (.int .i64 found_0_17))) (aA rfl) rfl rfl) ?_
        refine aL rfl rfl (aA rfl) rfl c204 (aC (v := .d (.lit (.int .i64 must_0_17))) (aA rfl) rfl rfl) ?_
        refine aL rfl rfl (aA rfl) rfl c204 (aC (v := .d (.sl 5 (r15.map aB))) (aA rfl) rfl rfl) ?_
        refine aL rfl rfl (aA rfl) rfl c204 (dR (aA rfl) rfl bQ.of) ?_
        refine aL rfl rfl (aA rfl) rfl c204 (aU (aA rfl) rfl vP) ?_
        refine aL rfl rfl (aA rfl) rfl c204 (aW (aA rfl) rfl (i := 0) rfl rfl bI) ?_
        refine aL rfl rfl (aA rfl) rfl c204 (aBk (aA rfl) rfl rfl) ?_
        refine aL rfl rfl (aA rfl) rfl c204 (oZ (aA rfl) rfl rfl) ?_
        refine aL rfl rfl (aA rfl) rfl c204 (bB (aA rfl) rfl rfl rfl) ?_
        refine tr1 rfl (bG (v := .d (.lit (.bool ((!decide (found_0_17 = (max must_0_17 (min (r15.length : Int) l_0.Counts)))))))) (aA rfl) rfl c204 rfl rfl) ?_
        have h194 := Option.some.inj h194
        subst h194
        refine aF (aT rfl ⟨rfl, rfl, trivial⟩ rfl)
      ·refine aF ?_
       refine bN rfl (fun c195 => ?_) (fun c195 => ?_)
       ·have h := aP c195 h
        refine aG ?_
        refine aE ?_
        refine tr1 rfl (aI (v := .d (.lit (.bool false))) (aA rfl) rfl rfl) ?_
        refine aF ?_
        have h := Option.some.inj h
        subst h
        refine cP (cD (cJ (l := [4]) ⟨rfl, trivial⟩)) ?_
        exact bT ⟨rfl, _, .one _, rfl, rfl⟩
       ·have h := aO c195 h
        refine bK ?_
        refine aG ?_
        refine aE ?_
        refine tr1 rfl (aC (v := .d (.lit (.int .i64 least_0_17))) (aA rfl) rfl rfl) ?_
        refine tr1 rfl (bB (aA rfl) rfl rfl rfl) ?_
        refine tr1 rfl (aC (v := .d (.lit (.bool ((decide (least_0_17 < 0)))))) (aA rfl) rfl rfl) ?_
        obtain ⟨b196, h197, h⟩ := bind_some h
        refine bR 4 [] 177 b196 ?_ ?_
        ·refine bA (decide (least_0_17 < 0)) (fun c203 => ?_) (fun c203 => ?_)
         ·have h197 := aP c203 h197
          refine aN rfl rfl (aA rfl) rfl (aA rfl) rfl c203 ?_
          refine aN rfl rfl (aA rfl) rfl (aA rfl) rfl c203 ?_
          refine aN rfl rfl (aA rfl) rfl (aA rfl) rfl c203 ?_
          refine tr1 rfl (bH (v := .d (.lit (.bool true))) (aA rfl) rfl c203 rfl rfl) ?_
          have h197 := Option.some.inj h197
          subst h197
          refine aF (aT rfl trivial rfl)
         ·have h197 := aO c203 h197
          refine aL rfl rfl (aA rfl) rfl c203 (aC (v := .d (.lit (.int .i64 most_0_17))) (aA rfl) rfl rfl) ?_
          refine aL rfl rfl (aA rfl) rfl c203 (aC (v := .d (.lit (.int .i64 least_0_17))) (aA rfl) rfl rfl) ?_
          refine aL rfl rfl (aA rfl) rfl c203 (bB (aA rfl) rfl rfl rfl) ?_
          refine tr1 rfl (bG (v := .d (.lit (.bool ((decide (most_0_17 ≤ least_0_17)))))) (aA rfl) rfl c203 rfl rfl) ?_
          have h197 := Option.some.inj h197
          subst h197
          refine aF (aT rfl trivial rfl)
        ·refine tr1 rfl (aC (v := .d (.lit (.bool b196))) (aA rfl) rfl rfl) ?_
         obtain ⟨b198, h199, h⟩ := bind_some h
         refine bR 2 [] 180 b198 ?_ ?_
         ·refine bA (b196) (fun c200 => ?_) (fun c200 => ?_)
          ·have h199 := aP c200 h199
           obtain ⟨r201, h202, h199⟩ := bind_some h199
           refine aL rfl rfl (aA rfl) rfl c200 (cF (aA rfl) (.func _ _ Try.call16) rfl rfl (BVs.refl _ _) (sF h202) rfl) ?_
           refine tr1 rfl (bH (v := .d (.lit (.bool r201))) (aA rfl) rfl c200 rfl rfl) ?_
           have h199 := Option.some.inj h199
           subst h199
           refine aF (aT rfl trivial rfl)
          ·have h199 := aO c200 h199
           refine aN rfl rfl (aA rfl) rfl (aA rfl) rfl c200 ?_
           refine tr1 rfl (bG (v := .d (.lit (.bool false))) (aA rfl) rfl c200 rfl rfl) ?_
           have h199 := Option.some.inj h199
           subst h199
           refine aF (aT rfl trivial rfl)
         ·refine tr1 rfl (aI (v := .d (.lit (.bool b198))) (aA rfl) rfl rfl) ?_
          refine aF ?_
          have h := Option.some.inj h
          subst h
          refine cP (cD (cJ (l := [4]) ⟨rfl, trivial⟩)) ?_
          exact bT ⟨rfl, _, .one _, rfl, rfl⟩

end Go.Am
