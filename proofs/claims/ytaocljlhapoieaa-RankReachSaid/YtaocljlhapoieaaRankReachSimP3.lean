/- The functions compute what the shallow ones say: printed by program. -/
import Derived.Test.YtaocljlhapoieaaRankReachSimP2
namespace Go.Am
open Go.Proofs
set_option maxRecDepth 100000
set_option maxHeartbeats 4000000

theorem yJ (l_0 : aL) (player_1 : Int) (week_2 : Int) {r : (List aD)} (h : nB l_0 player_1 week_2 = some r) : Fn Try.prog 96 [.agg (aN l_0), .d (.lit (.int .i64 player_1)), .d (.lit (.int .i64 week_2))] (.d (.sl 5 (r.map aB))) := by
 unfold nB at h
 refine Fn.of_tr Try.func96 rfl (rs := [.tmp 6]) Try.results96 Try.ntmps96 (Nat.le_of_ble_eq_true rfl) ?_
 refine aG ?_
 refine aE ?_
 refine bW rfl (eN (v := .agg (aN l_0)) (aA rfl) rfl rfl rfl) ?_
 rintro _ ⟨b1, rfl⟩
 refine tr1 rfl (qB 5 (aA rfl)) ?_
 refine aF ?_
 refine aG ?_
 refine aE ?_
 refine tr1 rfl (cH (aA rfl) rfl (i := 0) rfl dW (es := (aN l_0)) rfl rfl) ?_
 refine tr1 rfl (aC (v := .d (.lit (.int .i64 player_1))) (aA rfl) rfl rfl) ?_
 refine tr1 rfl (aC (v := .d (.lit (.int .i64 week_2))) (aA rfl) rfl rfl) ?_
 obtain ⟨r2, h3, h⟩ := bind_some h
 refine tr1 rfl (iT (aA rfl) (.func _ _ Try.call39) rfl rfl (mA _ _ _ h3)) ?_
 refine tr1 rfl (aJ (v := .d (.sl 5 (r2.map aB))) (aA rfl) rfl rfl) ?_
 refine aF ?_
 refine aG ?_
 refine aE ?_
 refine tr1 rfl (aJ (v := .d (.lit (.int .i64 0))) (aA rfl) rfl rfl) ?_
 refine aF ?_
 refine aG ?_
 refine aG ?_
 refine aE ?_
 refine tr1 rfl (aJ (v := .d (.lit (.int .i64 0))) (aA rfl) rfl rfl) ?_
 refine aF ?_
 refine bQ ?_
 refine cG [3, 7] (fun (s4 : Int × Int) => [(8, .d (.lit (.int .i64 s4.1))), (9, .d (.lit (.int .i64 s4.2)))]) (fun (s4 : Int × Int) => [.box b1 0 (aN l_0)]) (fun (k : Nat) (s4 : Int × Int) => fS r2 l_0 k s4.1 s4.2) (fun _ => rfl) (0, 0) h (aX [0] rfl rfl (aM rfl (aM rfl (aV ⟨rfl, rfl, trivial⟩)))) ?_
 rintro k5 ⟨must_0_4, i_0_4⟩ h
 simp only [fS] at h
 refine aG ?_
 refine aG ?_
 refine aE ?_
 refine tr1 rfl (aC (v := .d (.lit (.int .i64 i_0_4))) (aA rfl) rfl rfl) ?_
 refine tr1 rfl (aC (v := .d (.sl 5 (r2.map aB))) (aA rfl) rfl rfl) ?_
 refine tr1 rfl (cX (aA rfl) rfl bR.of) ?_
 refine tr1 rfl (bC (aA rfl) rfl rfl rfl) ?_
 refine aF ?_
 refine bJ rfl (fun c6 => ?_) (fun c6 => ?_)
 ·have h := aT c6 h
  refine bG ?_
  refine aG ?_
  refine bQ ?_
  refine aG ?_
  refine aE ?_
  refine tr1 rfl (aC (v := .d (.sl 5 (r2.map aB))) (aA rfl) rfl rfl) ?_
  refine tr1 rfl (aC (v := .d (.lit (.int .i64 i_0_4))) (aA rfl) rfl rfl) ?_
  obtain ⟨x7, h8, h⟩ := bind_some h
  refine tr1 rfl (bO (aA rfl) rfl rfl bR.of (bI aB h8)) ?_
  refine tr1 rfl (bZ (aA rfl) rfl kH (es := [.lit (.bool x7.Must)]) rfl) ?_
  refine tr1 rfl (bX (aA rfl) rfl nW) ?_
  refine aF ?_
  refine bJ rfl (fun c9 => ?_) (fun c9 => ?_)
  ·have h := aT c9 h
   refine aE ?_
   refine tr1 rfl (aC (v := .d (.lit (.int .i64 must_0_4))) (aA rfl) rfl rfl) ?_
   refine tr1 rfl (aZ (aA rfl) rfl rfl rfl) ?_
   refine tr1 rfl (aJ (v := .d (.lit (.int .i64 ((w64 (must_0_4 + 1)))))) (aA rfl) rfl rfl) ?_
   refine dG ?_
   refine aE ?_
   refine tr1 rfl (aC (v := .d (.lit (.int .i64 i_0_4))) (aA rfl) rfl rfl) ?_
   refine tr1 rfl (aZ (aA rfl) rfl rfl rfl) ?_
   refine tr1 rfl (aJ (v := .d (.lit (.int .i64 ((w64 (i_0_4 + 1)))))) (aA rfl) rfl rfl) ?_
   refine aF ?_
   exact ⟨(w64 (must_0_4 + 1), w64 (i_0_4 + 1)), h, aX [0] rfl rfl (aM rfl (aM rfl (aV ⟨rfl, rfl, trivial⟩)))⟩
  ·have h := aS c9 h
   refine dS ?_
   refine aE ?_
   refine tr1 rfl (aC (v := .d (.lit (.int .i64 i_0_4))) (aA rfl) rfl rfl) ?_
   refine tr1 rfl (aZ (aA rfl) rfl rfl rfl) ?_
   refine tr1 rfl (aJ (v := .d (.lit (.int .i64 ((w64 (i_0_4 + 1)))))) (aA rfl) rfl rfl) ?_
   refine aF ?_
   exact ⟨(must_0_4, w64 (i_0_4 + 1)), h, aX [0] rfl rfl (aM rfl (aM rfl (aV ⟨rfl, rfl, trivial⟩)))⟩
 ·have h := aS c6 h
  refine cN ?_
  refine .inl ⟨rfl, ?_⟩
  simp only [nJ] at h
  refine aG ?_
  refine aE ?_
  refine tr1 rfl (jE 42 5 (.inl rfl) (aA rfl)) ?_
  refine aF ?_
  refine aG ?_
  refine aG ?_
  refine aE ?_
  refine tr1 rfl (aJ (v := .d (.lit (.int .i64 0))) (aA rfl) rfl rfl) ?_
  refine aF ?_
  refine bQ ?_
  refine cG [3, 7, 8] (fun (s11 : Int × (List aD) × Value) => [(10, .d (.lit s11.2.2)), (11, .d (.lit (.int .i64 s11.1)))]) (fun (s11 : Int × (List aD) × Value) => [.box b1 0 (aN l_0), .arr s11.2.2 42 5 (s11.2.1.map aB)]) (fun (k : Nat) (s11 : Int × (List aD) × Value) => fB r2 must_0_4 l_0 k s11.1 s11.2.1) (fun _ => rfl) (0, ([] : List aD), (.slice none 0 0)) h (aX [0, 1] rfl rfl (aM rfl (aM rfl (aV ⟨rfl, rfl, rfl, trivial⟩)))) ?_
  rintro k13 ⟨i_2_11, out_2_11, w12⟩ h
  simp only [fB] at h
  refine aG ?_
  refine aG ?_
  refine aE ?_
  refine tr1 rfl (aC (v := .d (.lit (.int .i64 i_2_11))) (aA rfl) rfl rfl) ?_
  refine tr1 rfl (aC (v := .d (.sl 5 (r2.map aB))) (aA rfl) rfl rfl) ?_
  refine tr1 rfl (cX (aA rfl) rfl bR.of) ?_
  refine tr1 rfl (bC (aA rfl) rfl rfl rfl) ?_
  refine aF ?_
  refine bJ rfl (fun c14 => ?_) (fun c14 => ?_)
  ·have h := aT c14 h
   refine bG ?_
   refine aG ?_
   refine bQ ?_
   refine aG ?_
   refine aE ?_
   refine tr1 rfl (aJ (v := .d (.lit (.int .i64 0))) (aA rfl) rfl rfl) ?_
   refine aF ?_
   refine aG ?_
   refine aG ?_
   refine aE ?_
   refine tr1 rfl (aJ (v := .d (.lit (.int .i64 0))) (aA rfl) rfl rfl) ?_
   refine aF ?_
   refine bQ ?_
   refine cG [3, 7, 8, 10, 11] (fun (s15 : Int × Int) => [(12, .d (.lit (.int .i64 s15.1))), (13, .d (.lit (.int .i64 s15.2)))]) (fun (s15 : Int × Int) => [.box b1 0 (aN l_0), .arr w12 42 5 (out_2_11.map aB)]) (fun (k : Nat) (s15 : Int × Int) => gP (fB r2 must_0_4 l_0 k13) r2 must_0_4 i_2_11 l_0 out_2_11 k s15.1 s15.2) (fun _ => rfl) (0, 0) h (aX [0, 1] rfl rfl (aM rfl (aM rfl (aV ⟨rfl, rfl, rfl, rfl, rfl, trivial⟩)))) ?_
   rintro k16 ⟨better_4_15, k_4_15⟩ h
   simp only [gP] at h
   refine aG ?_
   refine aG ?_
   refine aE ?_
   refine tr1 rfl (aC (v := .d (.lit (.int .i64 k_4_15))) (aA rfl) rfl rfl) ?_
   refine tr1 rfl (aC (v := .d (.sl 5 (r2.map aB))) (aA rfl) rfl rfl) ?_
   refine tr1 rfl (cX (aA rfl) rfl bR.of) ?_
   refine tr1 rfl (bC (aA rfl) rfl rfl rfl) ?_
   refine aF ?_
   refine bJ rfl (fun c17 => ?_) (fun c17 => ?_)
   ·have h := aT c17 h
    refine bG ?_
    refine aG ?_
    refine bQ ?_
    refine aG ?_
    obtain ⟨x18, h19, h⟩ := bind_some h
    obtain ⟨b20, h21, h⟩ := bind_some h
    refine fN mix 37 [3, 7, 8, 10, 11, 12, 13] [(79, .d (.lit (.bool b20)))] ?_ ?_
    ·refine bF (!x18.Must) (fun c22 => ?_) (fun c22 => ?_)
     ·have h21 := aT c22 h21
      obtain ⟨x23, h24, h21⟩ := bind_some h21
      obtain ⟨x25, h26, h21⟩ := bind_some h21
      obtain ⟨b27, h28, h21⟩ := bind_some h21
      refine bF (decide (x25.Points < x23.Points)) (fun c29 => ?_) (fun c29 => ?_)
      ·have h28 := aT c29 h28
       have h28 := Option.some.inj h28
       subst h28
       have h21 := Option.some.inj h21
       subst h21
       refine ⟨[(43, 0, .d (.sl 5 (r2.map aB))), (44, 1, .d (.lit (.int .i64 k_4_15))), (45, 2, .cp [.lit (.int .i64 x18.Id), .lit (.int .i64 x18.Player), .lit (.int .i64 x18.Week), .lit (.int .i64 x18.Points), .lit (.bool x18.Must)]), (46, 3, .cp [.lit (.bool x18.Must)]), (47, 4, .d (.lit (.bool x18.Must))), (48, 5, .d (.lit (.bool (!x18.Must)))), (49, 6, .d (.lit (.bool (!x18.Must)))), (50, 7, .d (.sl 5 (r2.map aB))), (51, 8, .d (.lit (.int .i64 k_4_15))), (52, 9, .cp [.lit (.int .i64 x23.Id), .lit (.int .i64 x23.Player), .lit (.int .i64 x23.Week), .lit (.int .i64 x23.Points), .lit (.bool x23.Must)]), (53, 10, .cp [.lit (.int .i64 x23.Points)]), (54, 11, .d (.lit (.int .i64 x23.Points))), (55, 12, .d (.sl 5 (r2.map aB))), (56, 13, .d (.lit (.int .i64 i_2_11))), (57, 14, .cp [.lit (.int .i64 x25.Id), .lit (.int .i64 x25.Player), .lit (.int .i64 x25.Week), .lit (.int .i64 x25.Points), .lit (.bool x25.Must)]), (58, 15, .cp [.lit (.int .i64 x25.Points)]), (59, 16, .d (.lit (.int .i64 x25.Points))), (60, 17, .d (.lit (.bool ((decide (x25.Points < x23.Points)))))), (61, 18, .d (.lit (.bool ((decide (x25.Points < x23.Points)))))), (62, 19, .tup []), (63, 20, .tup []), (64, 21, .tup []), (65, 22, .tup []), (66, 23, .tup []), (67, 24, .tup []), (68, 25, .tup []), (69, 26, .tup []), (70, 27, .tup []), (71, 28, .tup []), (72, 29, .tup []), (73, 30, .tup []), (74, 31, .tup []), (75, 32, .tup []), (76, 33, .tup []), (77, 34, .tup []), (78, 35, .d (.lit (.bool true))), (79, 36, .d (.lit (.bool (true))))], ?_, ?_⟩
       · exact ⟨by kernel_rfl, by kernel_rfl, by kernel_rfl, by kernel_rfl, by kernel_rfl, [([], []), ([], []), ([0, 1], []), ([2], []), ([3], []), ([4], []), ([5], []), ([6], []), ([6], []), ([6, 7, 8], []), ([6, 9], []), ([6, 10], []), ([6], []), ([6], []), ([6, 12, 13], []), ([6, 14], []), ([6, 15], []), ([6, 11, 16], []), ([6, 17], []), ([18], []), ([18], []), ([18, 19, 20], []), ([18, 21], []), ([18, 22], []), ([18], []), ([18], []), ([18, 24, 25], []), ([18, 26], []), ([18, 27], []), ([18, 23, 28], []), ([18, 29], []), ([30], []), ([30], []), ([30, 31, 32], []), ([18, 30, 33], []), ([6, 18, 34], []), ([6, 35], [])], by kernel_rfl, ⟨fun S hS => aI rfl (aQ rfl (aC (v := .d (.sl 5 (r2.map aB))) (aA rfl) (aH hS rfl) rfl)),
      fun S hS => aI rfl (aQ rfl (aC (v := .d (.lit (.int .i64 k_4_15))) (aA rfl) (aH hS rfl) rfl)),
      fun S hS => aI rfl (aQ rfl (bO (aA rfl) (aH hS rfl) (aH hS rfl) bR.of (bI aB h19))),
      fun S hS => aI rfl (aQ rfl (bZ (aA rfl) (aH hS rfl) kH (es := [.lit (.bool x18.Must)]) rfl)),
      fun S hS => aI rfl (aQ rfl (bX (aA rfl) (aH hS rfl) nW)),
      fun S hS => aI rfl (aQ rfl (eM (aA rfl) (aH hS rfl))),
      fun S hS => aI rfl (aQ rfl (aC (v := .d (.lit (.bool (!x18.Must)))) (aA rfl) (aH hS rfl) rfl)),
      fun S hS => aI rfl (aY rfl rfl (aA rfl) (aP hS rfl) c22 (aC (v := .d (.sl 5 (r2.map aB))) (aA rfl) (aH hS rfl) rfl)),
      fun S hS => aI rfl (aY rfl rfl (aA rfl) (aP hS rfl) c22 (aC (v := .d (.lit (.int .i64 k_4_15))) (aA rfl) (aH hS rfl) rfl)),
      fun S hS => aI rfl (aY rfl rfl (aA rfl) (aP hS rfl) c22 (bO (aA rfl) (aH hS rfl) (aH hS rfl) bR.of (bI aB h24))),
      fun S hS => aI rfl (aY rfl rfl (aA rfl) (aP hS rfl) c22 (bZ (aA rfl) (aH hS rfl) iK (es := [.lit (.int .i64 x23.Points)]) rfl)),
      fun S hS => aI rfl (aY rfl rfl (aA rfl) (aP hS rfl) c22 (bX (aA rfl) (aH hS rfl) bH)),
      fun S hS => aI rfl (aY rfl rfl (aA rfl) (aP hS rfl) c22 (aC (v := .d (.sl 5 (r2.map aB))) (aA rfl) (aH hS rfl) rfl)),
      fun S hS => aI rfl (aY rfl rfl (aA rfl) (aP hS rfl) c22 (aC (v := .d (.lit (.int .i64 i_2_11))) (aA rfl) (aH hS rfl) rfl)),
      fun S hS => aI rfl (aY rfl rfl (aA rfl) (aP hS rfl) c22 (bO (aA rfl) (aH hS rfl) (aH hS rfl) bR.of (bI aB h26))),
      fun S hS => aI rfl (aY rfl rfl (aA rfl) (aP hS rfl) c22 (bZ (aA rfl) (aH hS rfl) iK (es := [.lit (.int .i64 x25.Points)]) rfl)),
      fun S hS => aI rfl (aY rfl rfl (aA rfl) (aP hS rfl) c22 (bX (aA rfl) (aH hS rfl) bH)),
      fun S hS => aI rfl (aY rfl rfl (aA rfl) (aP hS rfl) c22 (bC (aA rfl) (aH hS rfl) (aH hS rfl) rfl)),
      fun S hS => aI rfl (aY rfl rfl (aA rfl) (aP hS rfl) c22 (aC (v := .d (.lit (.bool ((decide (x25.Points < x23.Points)))))) (aA rfl) (aH hS rfl) rfl)),
      fun S hS => aI rfl (bD rfl rfl (aA rfl) rfl (aA rfl) (aP hS rfl) c29),
      fun S hS => aI rfl (bD rfl rfl (aA rfl) rfl (aA rfl) (aP hS rfl) c29),
      fun S hS => aI rfl (bD rfl rfl (aA rfl) rfl (aA rfl) (aP hS rfl) c29),
      fun S hS => aI rfl (bD rfl rfl (aA rfl) rfl (aA rfl) (aP hS rfl) c29),
      fun S hS => aI rfl (bD rfl rfl (aA rfl) rfl (aA rfl) (aP hS rfl) c29),
      fun S hS => aI rfl (bD rfl rfl (aA rfl) rfl (aA rfl) (aP hS rfl) c29),
      fun S hS => aI rfl (bD rfl rfl (aA rfl) rfl (aA rfl) (aP hS rfl) c29),
      fun S hS => aI rfl (bD rfl rfl (aA rfl) rfl (aA rfl) (aP hS rfl) c29),
      fun S hS => aI rfl (bD rfl rfl (aA rfl) rfl (aA rfl) (aP hS rfl) c29),
      fun S hS => aI rfl (bD rfl rfl (aA rfl) rfl (aA rfl) (aP hS rfl) c29),
      fun S hS => aI rfl (bD rfl rfl (aA rfl) rfl (aA rfl) (aP hS rfl) c29),
      fun S hS => aI rfl (bD rfl rfl (aA rfl) rfl (aA rfl) (aP hS rfl) c29),
      fun S hS => aI rfl (jK rfl rfl (aA rfl) rfl (aA rfl) (aP hS rfl)),
      fun S hS => aI rfl (jK rfl rfl (aA rfl) rfl (aA rfl) (aP hS rfl)),
      fun S hS => aI rfl (jK rfl rfl (aA rfl) rfl (aA rfl) (aP hS rfl)),
      fun S hS => aI rfl (bD rfl rfl (aA rfl) rfl (aA rfl) (aP hS rfl) c29),
      fun S hS => aI rfl (aY rfl rfl (aA rfl) (aP hS rfl) c22 (bN (v := .d (.lit (.bool true))) (aA rfl) (aH hS rfl) c29 rfl rfl)),
      fun S hS => aI rfl (aQ rfl (bN (v := .d (.lit (.bool (true)))) (aA rfl) (aH hS rfl) c22 (aH hS rfl) rfl)), trivial⟩⟩
       · exact dI (aM rfl (aV ⟨rfl, rfl, rfl, rfl, rfl, rfl, rfl, trivial⟩))
      ·have h28 := aS c29 h28
       obtain ⟨x30, h31, h28⟩ := bind_some h28
       obtain ⟨x32, h33, h28⟩ := bind_some h28
       obtain ⟨b34, h35, h28⟩ := bind_some h28
       refine bF (decide (x30.Points = x32.Points)) (fun c36 => ?_) (fun c36 => ?_)
       ·have h35 := aT c36 h35
        have h35 := Option.some.inj h35
        subst h35
        have h28 := Option.some.inj h28
        subst h28
        have h21 := Option.some.inj h21
        subst h21
        refine ⟨[(43, 0, .d (.sl 5 (r2.map aB))), (44, 1, .d (.lit (.int .i64 k_4_15))), (45, 2, .cp [.lit (.int .i64 x18.Id), .lit (.int .i64 x18.Player), .lit (.int .i64 x18.Week), .lit (.int .i64 x18.Points), .lit (.bool x18.Must)]), (46, 3, .cp [.lit (.bool x18.Must)]), (47, 4, .d (.lit (.bool x18.Must))), (48, 5, .d (.lit (.bool (!x18.Must)))), (49, 6, .d (.lit (.bool (!x18.Must)))), (50, 7, .d (.sl 5 (r2.map aB))), (51, 8, .d (.lit (.int .i64 k_4_15))), (52, 9, .cp [.lit (.int .i64 x23.Id), .lit (.int .i64 x23.Player), .lit (.int .i64 x23.Week), .lit (.int .i64 x23.Points), .lit (.bool x23.Must)]), (53, 10, .cp [.lit (.int .i64 x23.Points)]), (54, 11, .d (.lit (.int .i64 x23.Points))), (55, 12, .d (.sl 5 (r2.map aB))), (56, 13, .d (.lit (.int .i64 i_2_11))), (57, 14, .cp [.lit (.int .i64 x25.Id), .lit (.int .i64 x25.Player), .lit (.int .i64 x25.Week), .lit (.int .i64 x25.Points), .lit (.bool x25.Must)]), (58, 15, .cp [.lit (.int .i64 x25.Points)]), (59, 16, .d (.lit (.int .i64 x25.Points))), (60, 17, .d (.lit (.bool ((decide (x25.Points < x23.Points)))))), (61, 18, .d (.lit (.bool ((decide (x25.Points < x23.Points)))))), (62, 19, .d (.sl 5 (r2.map aB))), (63, 20, .d (.lit (.int .i64 k_4_15))), (64, 21, .cp [.lit (.int .i64 x30.Id), .lit (.int .i64 x30.Player), .lit (.int .i64 x30.Week), .lit (.int .i64 x30.Points), .lit (.bool x30.Must)]), (65, 22, .cp [.lit (.int .i64 x30.Points)]), (66, 23, .d (.lit (.int .i64 x30.Points))), (67, 24, .d (.sl 5 (r2.map aB))), (68, 25, .d (.lit (.int .i64 i_2_11))), (69, 26, .cp [.lit (.int .i64 x32.Id), .lit (.int .i64 x32.Player), .lit (.int .i64 x32.Week), .lit (.int .i64 x32.Points), .lit (.bool x32.Must)]), (70, 27, .cp [.lit (.int .i64 x32.Points)]), (71, 28, .d (.lit (.int .i64 x32.Points))), (72, 29, .d (.lit (.bool ((decide (x30.Points = x32.Points)))))), (73, 30, .d (.lit (.bool ((decide (x30.Points = x32.Points)))))), (74, 31, .d (.lit (.int .i64 k_4_15))), (75, 32, .d (.lit (.int .i64 i_2_11))), (76, 33, .d (.lit (.bool ((decide (k_4_15 < i_2_11)))))), (77, 34, .d (.lit (.bool ((decide (k_4_15 < i_2_11)))))), (78, 35, .d (.lit (.bool (decide (k_4_15 < i_2_11))))), (79, 36, .d (.lit (.bool (decide (k_4_15 < i_2_11)))))], ?_, ?_⟩
        · exact ⟨by kernel_rfl, by kernel_rfl, by kernel_rfl, by kernel_rfl, by kernel_rfl, [([], []), ([], []), ([0, 1], []), ([2], []), ([3], []), ([4], []), ([5], []), ([6], []), ([6], []), ([6, 7, 8], []), ([6, 9], []), ([6, 10], []), ([6], []), ([6], []), ([6, 12, 13], []), ([6, 14], []), ([6, 15], []), ([6, 11, 16], []), ([6, 17], []), ([18], []), ([18], []), ([18, 19, 20], []), ([18, 21], []), ([18, 22], []), ([18], []), ([18], []), ([18, 24, 25], []), ([18, 26], []), ([18, 27], []), ([18, 23, 28], []), ([18, 29], []), ([30], []), ([30], []), ([30, 31, 32], []), ([18, 30, 33], []), ([6, 18, 34], []), ([6, 35], [])], by kernel_rfl, ⟨fun S hS => aI rfl (aQ rfl (aC (v := .d (.sl 5 (r2.map aB))) (aA rfl) (aH hS rfl) rfl)),
      fun S hS => aI rfl (aQ rfl (aC (v := .d (.lit (.int .i64 k_4_15))) (aA rfl) (aH hS rfl) rfl)),
      fun S hS => aI rfl (aQ rfl (bO (aA rfl) (aH hS rfl) (aH hS rfl) bR.of (bI aB h19))),
      fun S hS => aI rfl (aQ rfl (bZ (aA rfl) (aH hS rfl) kH (es := [.lit (.bool x18.Must)]) rfl)),
      fun S hS => aI rfl (aQ rfl (bX (aA rfl) (aH hS rfl) nW)),
      fun S hS => aI rfl (aQ rfl (eM (aA rfl) (aH hS rfl))),
      fun S hS => aI rfl (aQ rfl (aC (v := .d (.lit (.bool (!x18.Must)))) (aA rfl) (aH hS rfl) rfl)),
      fun S hS => aI rfl (aY rfl rfl (aA rfl) (aP hS rfl) c22 (aC (v := .d (.sl 5 (r2.map aB))) (aA rfl) (aH hS rfl) rfl)),
      fun S hS => aI rfl (aY rfl rfl (aA rfl) (aP hS rfl) c22 (aC (v := .d (.lit (.int .i64 k_4_15))) (aA rfl) (aH hS rfl) rfl)),
      fun S hS => aI rfl (aY rfl rfl (aA rfl) (aP hS rfl) c22 (bO (aA rfl) (aH hS rfl) (aH hS rfl) bR.of (bI aB h24))),
      fun S hS => aI rfl (aY rfl rfl (aA rfl) (aP hS rfl) c22 (bZ (aA rfl) (aH hS rfl) iK (es := [.lit (.int .i64 x23.Points)]) rfl)),
      fun S hS => aI rfl (aY rfl rfl (aA rfl) (aP hS rfl) c22 (bX (aA rfl) (aH hS rfl) bH)),
      fun S hS => aI rfl (aY rfl rfl (aA rfl) (aP hS rfl) c22 (aC (v := .d (.sl 5 (r2.map aB))) (aA rfl) (aH hS rfl) rfl)),
      fun S hS => aI rfl (aY rfl rfl (aA rfl) (aP hS rfl) c22 (aC (v := .d (.lit (.int .i64 i_2_11))) (aA rfl) (aH hS rfl) rfl)),
      fun S hS => aI rfl (aY rfl rfl (aA rfl) (aP hS rfl) c22 (bO (aA rfl) (aH hS rfl) (aH hS rfl) bR.of (bI aB h26))),
      fun S hS => aI rfl (aY rfl rfl (aA rfl) (aP hS rfl) c22 (bZ (aA rfl) (aH hS rfl) iK (es := [.lit (.int .i64 x25.Points)]) rfl)),
      fun S hS => aI rfl (aY rfl rfl (aA rfl) (aP hS rfl) c22 (bX (aA rfl) (aH hS rfl) bH)),
      fun S hS => aI rfl (aY rfl rfl (aA rfl) (aP hS rfl) c22 (bC (aA rfl) (aH hS rfl) (aH hS rfl) rfl)),
      fun S hS => aI rfl (aY rfl rfl (aA rfl) (aP hS rfl) c22 (aC (v := .d (.lit (.bool ((decide (x25.Points < x23.Points)))))) (aA rfl) (aH hS rfl) rfl)),
      fun S hS => aI rfl (aY rfl rfl (aA rfl) (aP hS rfl) c29 (aC (v := .d (.sl 5 (r2.map aB))) (aA rfl) (aH hS rfl) rfl)),
      fun S hS => aI rfl (aY rfl rfl (aA rfl) (aP hS rfl) c29 (aC (v := .d (.lit (.int .i64 k_4_15))) (aA rfl) (aH hS rfl) rfl)),
      fun S hS => aI rfl (aY rfl rfl (aA rfl) (aP hS rfl) c29 (bO (aA rfl) (aH hS rfl) (aH hS rfl) bR.of (bI aB h31))),
      fun S hS => aI rfl (aY rfl rfl (aA rfl) (aP hS rfl) c29 (bZ (aA rfl) (aH hS rfl) iK (es := [.lit (.int .i64 x30.Points)]) rfl)),
      fun S hS => aI rfl (aY rfl rfl (aA rfl) (aP hS rfl) c29 (bX (aA rfl) (aH hS rfl) bH)),
      fun S hS => aI rfl (aY rfl rfl (aA rfl) (aP hS rfl) c29 (aC (v := .d (.sl 5 (r2.map aB))) (aA rfl) (aH hS rfl) rfl)),
      fun S hS => aI rfl (aY rfl rfl (aA rfl) (aP hS rfl) c29 (aC (v := .d (.lit (.int .i64 i_2_11))) (aA rfl) (aH hS rfl) rfl)),
      fun S hS => aI rfl (aY rfl rfl (aA rfl) (aP hS rfl) c29 (bO (aA rfl) (aH hS rfl) (aH hS rfl) bR.of (bI aB h33))),
      fun S hS => aI rfl (aY rfl rfl (aA rfl) (aP hS rfl) c29 (bZ (aA rfl) (aH hS rfl) iK (es := [.lit (.int .i64 x32.Points)]) rfl)),
      fun S hS => aI rfl (aY rfl rfl (aA rfl) (aP hS rfl) c29 (bX (aA rfl) (aH hS rfl) bH)),
      fun S hS => aI rfl (aY rfl rfl (aA rfl) (aP hS rfl) c29 (bC (aA rfl) (aH hS rfl) (aH hS rfl) rfl)),
      fun S hS => aI rfl (aY rfl rfl (aA rfl) (aP hS rfl) c29 (aC (v := .d (.lit (.bool ((decide (x30.Points = x32.Points)))))) (aA rfl) (aH hS rfl) rfl)),
      fun S hS => aI rfl (aY rfl rfl (aA rfl) (aP hS rfl) c36 (aC (v := .d (.lit (.int .i64 k_4_15))) (aA rfl) (aH hS rfl) rfl)),
      fun S hS => aI rfl (aY rfl rfl (aA rfl) (aP hS rfl) c36 (aC (v := .d (.lit (.int .i64 i_2_11))) (aA rfl) (aH hS rfl) rfl)),
      fun S hS => aI rfl (aY rfl rfl (aA rfl) (aP hS rfl) c36 (bC (aA rfl) (aH hS rfl) (aH hS rfl) rfl)),
      fun S hS => aI rfl (aY rfl rfl (aA rfl) (aP hS rfl) c29 (bN (v := .d (.lit (.bool ((decide (k_4_15 < i_2_11)))))) (aA rfl) (aH hS rfl) c36 (aH hS rfl) rfl)),
      fun S hS => aI rfl (aY rfl rfl (aA rfl) (aP hS rfl) c22 (bP (v := .d (.lit (.bool (decide (k_4_15 < i_2_11))))) (aA rfl) (aH hS rfl) c29 (aH hS rfl) rfl)),
      fun S hS => aI rfl (aQ rfl (bN (v := .d (.lit (.bool (decide (k_4_15 < i_2_11))))) (aA rfl) (aH hS rfl) c22 (aH hS rfl) rfl)), trivial⟩⟩
        · exact dI (aM rfl (aV ⟨rfl, rfl, rfl, rfl, rfl, rfl, rfl, trivial⟩))
       ·have h35 := aS c36 h35
        have h35 := Option.some.inj h35
        subst h35
        have h28 := Option.some.inj h28
        subst h28
        have h21 := Option.some.inj h21
        subst h21
        refine ⟨[(43, 0, .d (.sl 5 (r2.map aB))), (44, 1, .d (.lit (.int .i64 k_4_15))), (45, 2, .cp [.lit (.int .i64 x18.Id), .lit (.int .i64 x18.Player), .lit (.int .i64 x18.Week), .lit (.int .i64 x18.Points), .lit (.bool x18.Must)]), (46, 3, .cp [.lit (.bool x18.Must)]), (47, 4, .d (.lit (.bool x18.Must))), (48, 5, .d (.lit (.bool (!x18.Must)))), (49, 6, .d (.lit (.bool (!x18.Must)))), (50, 7, .d (.sl 5 (r2.map aB))), (51, 8, .d (.lit (.int .i64 k_4_15))), (52, 9, .cp [.lit (.int .i64 x23.Id), .lit (.int .i64 x23.Player), .lit (.int .i64 x23.Week), .lit (.int .i64 x23.Points), .lit (.bool x23.Must)]), (53, 10, .cp [.lit (.int .i64 x23.Points)]), (54, 11, .d (.lit (.int .i64 x23.Points))), (55, 12, .d (.sl 5 (r2.map aB))), (56, 13, .d (.lit (.int .i64 i_2_11))), (57, 14, .cp [.lit (.int .i64 x25.Id), .lit (.int .i64 x25.Player), .lit (.int .i64 x25.Week), .lit (.int .i64 x25.Points), .lit (.bool x25.Must)]), (58, 15, .cp [.lit (.int .i64 x25.Points)]), (59, 16, .d (.lit (.int .i64 x25.Points))), (60, 17, .d (.lit (.bool ((decide (x25.Points < x23.Points)))))), (61, 18, .d (.lit (.bool ((decide (x25.Points < x23.Points)))))), (62, 19, .d (.sl 5 (r2.map aB))), (63, 20, .d (.lit (.int .i64 k_4_15))), (64, 21, .cp [.lit (.int .i64 x30.Id), .lit (.int .i64 x30.Player), .lit (.int .i64 x30.Week), .lit (.int .i64 x30.Points), .lit (.bool x30.Must)]), (65, 22, .cp [.lit (.int .i64 x30.Points)]), (66, 23, .d (.lit (.int .i64 x30.Points))), (67, 24, .d (.sl 5 (r2.map aB))), (68, 25, .d (.lit (.int .i64 i_2_11))), (69, 26, .cp [.lit (.int .i64 x32.Id), .lit (.int .i64 x32.Player), .lit (.int .i64 x32.Week), .lit (.int .i64 x32.Points), .lit (.bool x32.Must)]), (70, 27, .cp [.lit (.int .i64 x32.Points)]), (71, 28, .d (.lit (.int .i64 x32.Points))), (72, 29, .d (.lit (.bool ((decide (x30.Points = x32.Points)))))), (73, 30, .d (.lit (.bool ((decide (x30.Points = x32.Points)))))), (74, 31, .tup []), (75, 32, .tup []), (76, 33, .tup []), (77, 34, .d (.lit (.bool false))), (78, 35, .d (.lit (.bool (false)))), (79, 36, .d (.lit (.bool (false))))], ?_, ?_⟩
        · exact ⟨by kernel_rfl, by kernel_rfl, by kernel_rfl, by kernel_rfl, by kernel_rfl, [([], []), ([], []), ([0, 1], []), ([2], []), ([3], []), ([4], []), ([5], []), ([6], []), ([6], []), ([6, 7, 8], []), ([6, 9], []), ([6, 10], []), ([6], []), ([6], []), ([6, 12, 13], []), ([6, 14], []), ([6, 15], []), ([6, 11, 16], []), ([6, 17], []), ([18], []), ([18], []), ([18, 19, 20], []), ([18, 21], []), ([18, 22], []), ([18], []), ([18], []), ([18, 24, 25], []), ([18, 26], []), ([18, 27], []), ([18, 23, 28], []), ([18, 29], []), ([30], []), ([30], []), ([30, 31, 32], []), ([18, 30, 33], []), ([6, 18, 34], []), ([6, 35], [])], by kernel_rfl, ⟨fun S hS => aI rfl (aQ rfl (aC (v := .d (.sl 5 (r2.map aB))) (aA rfl) (aH hS rfl) rfl)),
      fun S hS => aI rfl (aQ rfl (aC (v := .d (.lit (.int .i64 k_4_15))) (aA rfl) (aH hS rfl) rfl)),
      fun S hS => aI rfl (aQ rfl (bO (aA rfl) (aH hS rfl) (aH hS rfl) bR.of (bI aB h19))),
      fun S hS => aI rfl (aQ rfl (bZ (aA rfl) (aH hS rfl) kH (es := [.lit (.bool x18.Must)]) rfl)),
      fun S hS => aI rfl (aQ rfl (bX (aA rfl) (aH hS rfl) nW)),
      fun S hS => aI rfl (aQ rfl (eM (aA rfl) (aH hS rfl))),
      fun S hS => aI rfl (aQ rfl (aC (v := .d (.lit (.bool (!x18.Must)))) (aA rfl) (aH hS rfl) rfl)),
      fun S hS => aI rfl (aY rfl rfl (aA rfl) (aP hS rfl) c22 (aC (v := .d (.sl 5 (r2.map aB))) (aA rfl) (aH hS rfl) rfl)),
      fun S hS => aI rfl (aY rfl rfl (aA rfl) (aP hS rfl) c22 (aC (v := .d (.lit (.int .i64 k_4_15))) (aA rfl) (aH hS rfl) rfl)),
      fun S hS => aI rfl (aY rfl rfl (aA rfl) (aP hS rfl) c22 (bO (aA rfl) (aH hS rfl) (aH hS rfl) bR.of (bI aB h24))),
      fun S hS => aI rfl (aY rfl rfl (aA rfl) (aP hS rfl) c22 (bZ (aA rfl) (aH hS rfl) iK (es := [.lit (.int .i64 x23.Points)]) rfl)),
      fun S hS => aI rfl (aY rfl rfl (aA rfl) (aP hS rfl) c22 (bX (aA rfl) (aH hS rfl) bH)),
      fun S hS => aI rfl (aY rfl rfl (aA rfl) (aP hS rfl) c22 (aC (v := .d (.sl 5 (r2.map aB))) (aA rfl) (aH hS rfl) rfl)),
      fun S hS => aI rfl (aY rfl rfl (aA rfl) (aP hS rfl) c22 (aC (v := .d (.lit (.int .i64 i_2_11))) (aA rfl) (aH hS rfl) rfl)),
      fun S hS => aI rfl (aY rfl rfl (aA rfl) (aP hS rfl) c22 (bO (aA rfl) (aH hS rfl) (aH hS rfl) bR.of (bI aB h26))),
      fun S hS => aI rfl (aY rfl rfl (aA rfl) (aP hS rfl) c22 (bZ (aA rfl) (aH hS rfl) iK (es := [.lit (.int .i64 x25.Points)]) rfl)),
      fun S hS => aI rfl (aY rfl rfl (aA rfl) (aP hS rfl) c22 (bX (aA rfl) (aH hS rfl) bH)),
      fun S hS => aI rfl (aY rfl rfl (aA rfl) (aP hS rfl) c22 (bC (aA rfl) (aH hS rfl) (aH hS rfl) rfl)),
      fun S hS => aI rfl (aY rfl rfl (aA rfl) (aP hS rfl) c22 (aC (v := .d (.lit (.bool ((decide (x25.Points < x23.Points)))))) (aA rfl) (aH hS rfl) rfl)),
      fun S hS => aI rfl (aY rfl rfl (aA rfl) (aP hS rfl) c29 (aC (v := .d (.sl 5 (r2.map aB))) (aA rfl) (aH hS rfl) rfl)),
      fun S hS => aI rfl (aY rfl rfl (aA rfl) (aP hS rfl) c29 (aC (v := .d (.lit (.int .i64 k_4_15))) (aA rfl) (aH hS rfl) rfl)),
      fun S hS => aI rfl (aY rfl rfl (aA rfl) (aP hS rfl) c29 (bO (aA rfl) (aH hS rfl) (aH hS rfl) bR.of (bI aB h31))),
      fun S hS => aI rfl (aY rfl rfl (aA rfl) (aP hS rfl) c29 (bZ (aA rfl) (aH hS rfl) iK (es := [.lit (.int .i64 x30.Points)]) rfl)),
      fun S hS => aI rfl (aY rfl rfl (aA rfl) (aP hS rfl) c29 (bX (aA rfl) (aH hS rfl) bH)),
      fun S hS => aI rfl (aY rfl rfl (aA rfl) (aP hS rfl) c29 (aC (v := .d (.sl 5 (r2.map aB))) (aA rfl) (aH hS rfl) rfl)),
      fun S hS => aI rfl (aY rfl rfl (aA rfl) (aP hS rfl) c29 (aC (v := .d (.lit (.int .i64 i_2_11))) (aA rfl) (aH hS rfl) rfl)),
      fun S hS => aI rfl (aY rfl rfl (aA rfl) (aP hS rfl) c29 (bO (aA rfl) (aH hS rfl) (aH hS rfl) bR.of (bI aB h33))),
      fun S hS => aI rfl (aY rfl rfl (aA rfl) (aP hS rfl) c29 (bZ (aA rfl) (aH hS rfl) iK (es := [.lit (.int .i64 x32.Points)]) rfl)),
      fun S hS => aI rfl (aY rfl rfl (aA rfl) (aP hS rfl) c29 (bX (aA rfl) (aH hS rfl) bH)),
      fun S hS => aI rfl (aY rfl rfl (aA rfl) (aP hS rfl) c29 (bC (aA rfl) (aH hS rfl) (aH hS rfl) rfl)),
      fun S hS => aI rfl (aY rfl rfl (aA rfl) (aP hS rfl) c29 (aC (v := .d (.lit (.bool ((decide (x30.Points = x32.Points)))))) (aA rfl) (aH hS rfl) rfl)),
      fun S hS => aI rfl (bD rfl rfl (aA rfl) rfl (aA rfl) (aP hS rfl) c36),
      fun S hS => aI rfl (bD rfl rfl (aA rfl) rfl (aA rfl) (aP hS rfl) c36),
      fun S hS => aI rfl (bD rfl rfl (aA rfl) rfl (aA rfl) (aP hS rfl) c36),
      fun S hS => aI rfl (aY rfl rfl (aA rfl) (aP hS rfl) c29 (bP (v := .d (.lit (.bool false))) (aA rfl) (aH hS rfl) c36 rfl rfl)),
      fun S hS => aI rfl (aY rfl rfl (aA rfl) (aP hS rfl) c22 (bP (v := .d (.lit (.bool (false)))) (aA rfl) (aH hS rfl) c29 (aH hS rfl) rfl)),
      fun S hS => aI rfl (aQ rfl (bN (v := .d (.lit (.bool (false)))) (aA rfl) (aH hS rfl) c22 (aH hS rfl) rfl)), trivial⟩⟩
        · exact dI (aM rfl (aV ⟨rfl, rfl, rfl, rfl, rfl, rfl, rfl, trivial⟩))
     ·have h21 := aS c22 h21
      have h21 := Option.some.inj h21
      subst h21
      refine ⟨[(43, 0, .d (.sl 5 (r2.map aB))), (44, 1, .d (.lit (.int .i64 k_4_15))), (45, 2, .cp [.lit (.int .i64 x18.Id), .lit (.int .i64 x18.Player), .lit (.int .i64 x18.Week), .lit (.int .i64 x18.Points), .lit (.bool x18.Must)]), (46, 3, .cp [.lit (.bool x18.Must)]), (47, 4, .d (.lit (.bool x18.Must))), (48, 5, .d (.lit (.bool (!x18.Must)))), (49, 6, .d (.lit (.bool (!x18.Must)))), (50, 7, .tup []), (51, 8, .tup []), (52, 9, .tup []), (53, 10, .tup []), (54, 11, .tup []), (55, 12, .tup []), (56, 13, .tup []), (57, 14, .tup []), (58, 15, .tup []), (59, 16, .tup []), (60, 17, .tup []), (61, 18, .tup []), (62, 19, .tup []), (63, 20, .tup []), (64, 21, .tup []), (65, 22, .tup []), (66, 23, .tup []), (67, 24, .tup []), (68, 25, .tup []), (69, 26, .tup []), (70, 27, .tup []), (71, 28, .tup []), (72, 29, .tup []), (73, 30, .tup []), (74, 31, .tup []), (75, 32, .tup []), (76, 33, .tup []), (77, 34, .tup []), (78, 35, .tup []), (79, 36, .d (.lit (.bool false)))], ?_, ?_⟩
      · exact ⟨by kernel_rfl, by kernel_rfl, by kernel_rfl, by kernel_rfl, by kernel_rfl, [([], []), ([], []), ([0, 1], []), ([2], []), ([3], []), ([4], []), ([5], []), ([6], []), ([6], []), ([6, 7, 8], []), ([6, 9], []), ([6, 10], []), ([6], []), ([6], []), ([6, 12, 13], []), ([6, 14], []), ([6, 15], []), ([6, 11, 16], []), ([6, 17], []), ([18], []), ([18], []), ([18, 19, 20], []), ([18, 21], []), ([18, 22], []), ([18], []), ([18], []), ([18, 24, 25], []), ([18, 26], []), ([18, 27], []), ([18, 23, 28], []), ([18, 29], []), ([30], []), ([30], []), ([30, 31, 32], []), ([18, 30, 33], []), ([6, 18, 34], []), ([6, 35], [])], by kernel_rfl, ⟨fun S hS => aI rfl (aQ rfl (aC (v := .d (.sl 5 (r2.map aB))) (aA rfl) (aH hS rfl) rfl)),
      fun S hS => aI rfl (aQ rfl (aC (v := .d (.lit (.int .i64 k_4_15))) (aA rfl) (aH hS rfl) rfl)),
      fun S hS => aI rfl (aQ rfl (bO (aA rfl) (aH hS rfl) (aH hS rfl) bR.of (bI aB h19))),
      fun S hS => aI rfl (aQ rfl (bZ (aA rfl) (aH hS rfl) kH (es := [.lit (.bool x18.Must)]) rfl)),
      fun S hS => aI rfl (aQ rfl (bX (aA rfl) (aH hS rfl) nW)),
      fun S hS => aI rfl (aQ rfl (eM (aA rfl) (aH hS rfl))),
      fun S hS => aI rfl (aQ rfl (aC (v := .d (.lit (.bool (!x18.Must)))) (aA rfl) (aH hS rfl) rfl)),
      fun S hS => aI rfl (bD rfl rfl (aA rfl) rfl (aA rfl) (aP hS rfl) c22),
      fun S hS => aI rfl (bD rfl rfl (aA rfl) rfl (aA rfl) (aP hS rfl) c22),
      fun S hS => aI rfl (bD rfl rfl (aA rfl) rfl (aA rfl) (aP hS rfl) c22),
      fun S hS => aI rfl (bD rfl rfl (aA rfl) rfl (aA rfl) (aP hS rfl) c22),
      fun S hS => aI rfl (bD rfl rfl (aA rfl) rfl (aA rfl) (aP hS rfl) c22),
      fun S hS => aI rfl (bD rfl rfl (aA rfl) rfl (aA rfl) (aP hS rfl) c22),
      fun S hS => aI rfl (bD rfl rfl (aA rfl) rfl (aA rfl) (aP hS rfl) c22),
      fun S hS => aI rfl (bD rfl rfl (aA rfl) rfl (aA rfl) (aP hS rfl) c22),
      fun S hS => aI rfl (bD rfl rfl (aA rfl) rfl (aA rfl) (aP hS rfl) c22),
      fun S hS => aI rfl (bD rfl rfl (aA rfl) rfl (aA rfl) (aP hS rfl) c22),
      fun S hS => aI rfl (bD rfl rfl (aA rfl) rfl (aA rfl) (aP hS rfl) c22),
      fun S hS => aI rfl (bD rfl rfl (aA rfl) rfl (aA rfl) (aP hS rfl) c22),
      fun S hS => aI rfl (jK rfl rfl (aA rfl) rfl (aA rfl) (aP hS rfl)),
      fun S hS => aI rfl (jK rfl rfl (aA rfl) rfl (aA rfl) (aP hS rfl)),
      fun S hS => aI rfl (jK rfl rfl (aA rfl) rfl (aA rfl) (aP hS rfl)),
      fun S hS => aI rfl (jK rfl rfl (aA rfl) rfl (aA rfl) (aP hS rfl)),
      fun S hS => aI rfl (jK rfl rfl (aA rfl) rfl (aA rfl) (aP hS rfl)),
      fun S hS => aI rfl (jK rfl rfl (aA rfl) rfl (aA rfl) (aP hS rfl)),
      fun S hS => aI rfl (jK rfl rfl (aA rfl) rfl (aA rfl) (aP hS rfl)),
      fun S hS => aI rfl (jK rfl rfl (aA rfl) rfl (aA rfl) (aP hS rfl)),
      fun S hS => aI rfl (jK rfl rfl (aA rfl) rfl (aA rfl) (aP hS rfl)),
      fun S hS => aI rfl (jK rfl rfl (aA rfl) rfl (aA rfl) (aP hS rfl)),
      fun S hS => aI rfl (jK rfl rfl (aA rfl) rfl (aA rfl) (aP hS rfl)),
      fun S hS => aI rfl (jK rfl rfl (aA rfl) rfl (aA rfl) (aP hS rfl)),
      fun S hS => aI rfl (jK rfl rfl (aA rfl) rfl (aA rfl) (aP hS rfl)),
      fun S hS => aI rfl (jK rfl rfl (aA rfl) rfl (aA rfl) (aP hS rfl)),
      fun S hS => aI rfl (jK rfl rfl (aA rfl) rfl (aA rfl) (aP hS rfl)),
      fun S hS => aI rfl (jK rfl rfl (aA rfl) rfl (aA rfl) (aP hS rfl)),
      fun S hS => aI rfl (bD rfl rfl (aA rfl) rfl (aA rfl) (aP hS rfl) c22),
      fun S hS => aI rfl (aQ rfl (bP (v := .d (.lit (.bool false))) (aA rfl) (aH hS rfl) c22 rfl rfl)), trivial⟩⟩
      · exact dI (aM rfl (aV ⟨rfl, rfl, rfl, rfl, rfl, rfl, rfl, trivial⟩))
    ·refine aF ?_
     refine bJ rfl (fun c37 => ?_) (fun c37 => ?_)
     ·have h := aT c37 h
      refine aE ?_
      refine tr1 rfl (aC (v := .d (.lit (.int .i64 better_4_15))) (aA rfl) rfl rfl) ?_
      refine tr1 rfl (aZ (aA rfl) rfl rfl rfl) ?_
      refine tr1 rfl (aJ (v := .d (.lit (.int .i64 ((w64 (better_4_15 + 1)))))) (aA rfl) rfl rfl) ?_
      refine dG ?_
      refine aE ?_
      refine tr1 rfl (aC (v := .d (.lit (.int .i64 k_4_15))) (aA rfl) rfl rfl) ?_
      refine tr1 rfl (aZ (aA rfl) rfl rfl rfl) ?_
      refine tr1 rfl (aJ (v := .d (.lit (.int .i64 ((w64 (k_4_15 + 1)))))) (aA rfl) rfl rfl) ?_
      refine aF ?_
      exact ⟨(w64 (better_4_15 + 1), w64 (k_4_15 + 1)), h, aX [0, 1] rfl rfl (aM rfl (aM rfl (aV ⟨rfl, rfl, rfl, rfl, rfl, trivial⟩)))⟩
     ·have h := aS c37 h
      refine dS ?_
      refine aE ?_
      refine tr1 rfl (aC (v := .d (.lit (.int .i64 k_4_15))) (aA rfl) rfl rfl) ?_
      refine tr1 rfl (aZ (aA rfl) rfl rfl rfl) ?_
      refine tr1 rfl (aJ (v := .d (.lit (.int .i64 ((w64 (k_4_15 + 1)))))) (aA rfl) rfl rfl) ?_
      refine aF ?_
      exact ⟨(better_4_15, w64 (k_4_15 + 1)), h, aX [0, 1] rfl rfl (aM rfl (aM rfl (aV ⟨rfl, rfl, rfl, rfl, rfl, trivial⟩)))⟩
   ·have h := aS c17 h
    refine cN ?_
    refine .inl ⟨rfl, ?_⟩
    simp only [nK] at h
    refine aG ?_
    refine aE ?_
    refine tr1 rfl (aC (v := .d (.sl 5 (r2.map aB))) (aA rfl) rfl rfl) ?_
    refine tr1 rfl (aC (v := .d (.lit (.int .i64 i_2_11))) (aA rfl) rfl rfl) ?_
    obtain ⟨x38, h39, h⟩ := bind_some h
    refine tr1 rfl (bO (aA rfl) rfl rfl bR.of (bI aB h39)) ?_
    refine tr1 rfl (bZ (aA rfl) rfl kH (es := [.lit (.bool x38.Must)]) rfl) ?_
    refine tr1 rfl (bX (aA rfl) rfl nW) ?_
    refine tr1 rfl (aC (v := .d (.lit (.bool x38.Must))) (aA rfl) rfl rfl) ?_
    obtain ⟨b40, h41, h⟩ := bind_some h
    refine cA 7 [3, 7, 8, 10, 11] 94 b40 ?_ ?_
    ·refine bF (x38.Must) (fun c48 => ?_) (fun c48 => ?_)
     ·have h41 := aT c48 h41
      refine aR rfl rfl (aA rfl) rfl (aA rfl) rfl c48 ?_
      refine aR rfl rfl (aA rfl) rfl (aA rfl) rfl c48 ?_
      refine aR rfl rfl (aA rfl) rfl (aA rfl) rfl c48 ?_
      refine aR rfl rfl (aA rfl) rfl (aA rfl) rfl c48 ?_
      refine aR rfl rfl (aA rfl) rfl (aA rfl) rfl c48 ?_
      refine aR rfl rfl (aA rfl) rfl (aA rfl) rfl c48 ?_
      refine tr1 rfl (bN (v := .d (.lit (.bool true))) (aA rfl) rfl c48 rfl rfl) ?_
      have h41 := Option.some.inj h41
      subst h41
      refine aF (bB rfl ⟨rfl, rfl, rfl, rfl, rfl, trivial⟩ rfl)
     ·have h41 := aS c48 h41
      refine aO rfl rfl (aA rfl) rfl c48 (aC (v := .d (.lit (.int .i64 better_4_15))) (aA rfl) rfl rfl) ?_
      refine aO rfl rfl (aA rfl) rfl c48 (aU (aA rfl) rfl wZ) ?_
      refine aO rfl rfl (aA rfl) rfl c48 (aW (aA rfl) rfl (i := 0) rfl rfl bH) ?_
      refine aO rfl rfl (aA rfl) rfl c48 (aC (v := .d (.lit (.int .i64 must_0_4))) (aA rfl) rfl rfl) ?_
      refine aO rfl rfl (aA rfl) rfl c48 (aZ (aA rfl) rfl rfl rfl) ?_
      refine aO rfl rfl (aA rfl) rfl c48 (bC (aA rfl) rfl rfl rfl) ?_
      refine tr1 rfl (bP (v := .d (.lit (.bool ((decide (better_4_15 < (w64 (l_0.Counts - must_0_4)))))))) (aA rfl) rfl c48 rfl rfl) ?_
      have h41 := Option.some.inj h41
      subst h41
      refine aF (bB rfl ⟨rfl, rfl, rfl, rfl, rfl, trivial⟩ rfl)
    ·refine aF ?_
     refine bJ rfl (fun c42 => ?_) (fun c42 => ?_)
     ·have h := aT c42 h
      refine aE ?_
      refine tr1 rfl (aC (v := .d (.lit w12)) (aA rfl) rfl rfl) ?_
      refine tr1 rfl (aC (v := .d (.sl 5 (r2.map aB))) (aA rfl) rfl rfl) ?_
      refine tr1 rfl (aC (v := .d (.lit (.int .i64 i_2_11))) (aA rfl) rfl rfl) ?_
      obtain ⟨x43, h44, h⟩ := bind_some h
      refine tr1 rfl (bO (aA rfl) rfl rfl bR.of (bI aB h44)) ?_
      refine tr1 rfl (fJ (aA rfl) rfl dY (es := (aB x43)) rfl rfl) ?_
      refine tr1 rfl (iL (aA rfl) bR rfl rfl (rows := ([x43]).map aB) rfl (cP (f := aB) fun _ => rfl) rfl (by decide)) ?_
      obtain ⟨x45, h46, h⟩ := bind_some h
      refine bW rfl (gQ (i := 1) (aA rfl) bR rfl rfl rfl (fun _ => rfl) h46 rfl) ?_
      rintro _ ⟨v47, rfl⟩
      refine tr1 rfl (aJ (v := .d (.lit v47)) (aA rfl) rfl rfl) ?_
      refine dG ?_
      simp only [lD] at h
      refine aE ?_
      refine tr1 rfl (aC (v := .d (.lit (.int .i64 i_2_11))) (aA rfl) rfl rfl) ?_
      refine tr1 rfl (aZ (aA rfl) rfl rfl rfl) ?_
      refine tr1 rfl (aJ (v := .d (.lit (.int .i64 ((w64 (i_2_11 + 1)))))) (aA rfl) rfl rfl) ?_
      refine aF ?_
      exact ⟨(w64 (i_2_11 + 1), x45, v47), h, aX [0, 1] rfl rfl (aM rfl (aM rfl (aV ⟨rfl, rfl, rfl, trivial⟩)))⟩
     ·have h := aS c42 h
      refine dS ?_
      simp only [lD] at h
      refine aE ?_
      refine tr1 rfl (aC (v := .d (.lit (.int .i64 i_2_11))) (aA rfl) rfl rfl) ?_
      refine tr1 rfl (aZ (aA rfl) rfl rfl rfl) ?_
      refine tr1 rfl (aJ (v := .d (.lit (.int .i64 ((w64 (i_2_11 + 1)))))) (aA rfl) rfl rfl) ?_
      refine aF ?_
      exact ⟨(w64 (i_2_11 + 1), out_2_11, w12), h, aX [0, 1] rfl rfl (aM rfl (aM rfl (aV ⟨rfl, rfl, rfl, trivial⟩)))⟩
  ·have h := aS c14 h
   refine cN ?_
   refine .inl ⟨rfl, ?_⟩
   simp only [pW] at h
   refine aG ?_
   refine aE ?_
   refine tr1 rfl (aC (v := .d (.lit w12)) (aA rfl) rfl rfl) ?_
   refine tr1 rfl (aJ (v := .d (.lit w12)) (aA rfl) rfl rfl) ?_
   refine aF ?_
   have h := Option.some.inj h
   subst h
   refine cR (cE (gM (k := 6) (v := .d (.sl 5 (out_2_11.map aB))) (.d (hO 1 rfl (cP (f := aB) fun _ => rfl))) (uL))) ?_
   exact bM ⟨rfl, _, .one _, rfl, rfl⟩

theorem sU (l_0 : aL) (player_1 : Int) (week_2 : Int) {r : Int × Int} (h : kQ l_0 player_1 week_2 = some r) : Fn Try.prog 66 [.agg (aN l_0), .d (.lit (.int .i64 player_1)), .d (.lit (.int .i64 week_2))] (.tup [.d (.lit (.int .i64 r.1)), .d (.lit (.int .i64 r.2))]) := by
 unfold kQ at h
 refine Fn.of_tr Try.func66 rfl (rs := [.tmp 6, .tmp 7]) Try.results66 Try.ntmps66 (Nat.le_of_ble_eq_true rfl) ?_
 refine aG ?_
 refine aE ?_
 refine bW rfl (eN (v := .agg (aN l_0)) (aA rfl) rfl rfl rfl) ?_
 rintro _ ⟨b1, rfl⟩
 refine tr1 rfl (aJ (v := .d (.lit (.int .i64 0))) (aA rfl) rfl rfl) ?_
 refine tr1 rfl (aJ (v := .d (.lit (.int .i64 0))) (aA rfl) rfl rfl) ?_
 refine aF ?_
 refine aG ?_
 refine aE ?_
 refine tr1 rfl (cH (aA rfl) rfl (i := 0) rfl dW (es := (aN l_0)) rfl rfl) ?_
 refine tr1 rfl (aC (v := .d (.lit (.int .i64 player_1))) (aA rfl) rfl rfl) ?_
 refine tr1 rfl (aC (v := .d (.lit (.int .i64 week_2))) (aA rfl) rfl rfl) ?_
 obtain ⟨r2, h3, h⟩ := bind_some h
 refine tr1 rfl (iT (aA rfl) (.func _ _ Try.call96) rfl rfl (yJ _ _ _ h3)) ?_
 refine tr1 rfl (aJ (v := .d (.sl 5 (r2.map aB))) (aA rfl) rfl rfl) ?_
 refine aF ?_
 refine aG ?_
 refine aG ?_
 refine aE ?_
 refine tr1 rfl (aJ (v := .d (.lit (.int .i64 0))) (aA rfl) rfl rfl) ?_
 refine aF ?_
 refine bQ ?_
 refine cG [8] (fun (s4 : Int × Int × Int) => [(6, .d (.lit (.int .i64 s4.1))), (7, .d (.lit (.int .i64 s4.2.1))), (9, .d (.lit (.int .i64 s4.2.2)))]) (fun (s4 : Int × Int × Int) => []) (fun (k : Nat) (s4 : Int × Int × Int) => gD r2 k s4.1 s4.2.1 s4.2.2) (fun _ => rfl) (0, 0, 0) h (aX [] rfl rfl (aM rfl (aM rfl (aM rfl (aV ⟨rfl, trivial⟩))))) ?_
 rintro k5 ⟨sum_0_4, must_0_4, i_0_4⟩ h
 simp only [gD] at h
 refine aG ?_
 refine aG ?_
 refine aE ?_
 refine tr1 rfl (aC (v := .d (.lit (.int .i64 i_0_4))) (aA rfl) rfl rfl) ?_
 refine tr1 rfl (aC (v := .d (.sl 5 (r2.map aB))) (aA rfl) rfl rfl) ?_
 refine tr1 rfl (cX (aA rfl) rfl bR.of) ?_
 refine tr1 rfl (bC (aA rfl) rfl rfl rfl) ?_
 refine aF ?_
 refine bJ rfl (fun c6 => ?_) (fun c6 => ?_)
 ·have h := aT c6 h
  refine bG ?_
  refine aG ?_
  refine bQ ?_
  refine aG ?_
  refine aE ?_
  refine tr1 rfl (aC (v := .d (.lit (.int .i64 sum_0_4))) (aA rfl) rfl rfl) ?_
  refine tr1 rfl (aC (v := .d (.sl 5 (r2.map aB))) (aA rfl) rfl rfl) ?_
  refine tr1 rfl (aC (v := .d (.lit (.int .i64 i_0_4))) (aA rfl) rfl rfl) ?_
  obtain ⟨x7, h8, h⟩ := bind_some h
  refine tr1 rfl (bO (aA rfl) rfl rfl bR.of (bI aB h8)) ?_
  refine tr1 rfl (bZ (aA rfl) rfl iK (es := [.lit (.int .i64 x7.Points)]) rfl) ?_
  refine tr1 rfl (bX (aA rfl) rfl bH) ?_
  refine tr1 rfl (aZ (aA rfl) rfl rfl rfl) ?_
  refine tr1 rfl (aJ (v := .d (.lit (.int .i64 ((w64 (sum_0_4 + x7.Points)))))) (aA rfl) rfl rfl) ?_
  refine aF ?_
  refine aG ?_
  refine aE ?_
  refine tr1 rfl (aC (v := .d (.sl 5 (r2.map aB))) (aA rfl) rfl rfl) ?_
  refine tr1 rfl (aC (v := .d (.lit (.int .i64 i_0_4))) (aA rfl) rfl rfl) ?_
  obtain ⟨x9, h10, h⟩ := bind_some h
  refine tr1 rfl (bO (aA rfl) rfl rfl bR.of (bI aB h10)) ?_
  refine tr1 rfl (bZ (aA rfl) rfl kH (es := [.lit (.bool x9.Must)]) rfl) ?_
  refine tr1 rfl (bX (aA rfl) rfl nW) ?_
  refine aF ?_
  refine bJ rfl (fun c11 => ?_) (fun c11 => ?_)
  ·have h := aT c11 h
   refine aE ?_
   refine tr1 rfl (aC (v := .d (.lit (.int .i64 must_0_4))) (aA rfl) rfl rfl) ?_
   refine tr1 rfl (aC (v := .d (.sl 5 (r2.map aB))) (aA rfl) rfl rfl) ?_
   refine tr1 rfl (aC (v := .d (.lit (.int .i64 i_0_4))) (aA rfl) rfl rfl) ?_
   obtain ⟨x12, h13, h⟩ := bind_some h
   refine tr1 rfl (bO (aA rfl) rfl rfl bR.of (bI aB h13)) ?_
   refine tr1 rfl (bZ (aA rfl) rfl iK (es := [.lit (.int .i64 x12.Points)]) rfl) ?_
   refine tr1 rfl (bX (aA rfl) rfl bH) ?_
   refine tr1 rfl (aZ (aA rfl) rfl rfl rfl) ?_
   refine tr1 rfl (aJ (v := .d (.lit (.int .i64 ((w64 (must_0_4 + x12.Points)))))) (aA rfl) rfl rfl) ?_
   refine dG ?_
   refine aE ?_
   refine tr1 rfl (aC (v := .d (.lit (.int .i64 i_0_4))) (aA rfl) rfl rfl) ?_
   refine tr1 rfl (aZ (aA rfl) rfl rfl rfl) ?_
   refine tr1 rfl (aJ (v := .d (.lit (.int .i64 ((w64 (i_0_4 + 1)))))) (aA rfl) rfl rfl) ?_
   refine aF ?_
   exact ⟨(w64 (sum_0_4 + x7.Points), w64 (must_0_4 + x12.Points), w64 (i_0_4 + 1)), h, aX [] rfl rfl (aM rfl (aM rfl (aM rfl (aV ⟨rfl, trivial⟩))))⟩
  ·have h := aS c11 h
   refine dS ?_
   refine aE ?_
   refine tr1 rfl (aC (v := .d (.lit (.int .i64 i_0_4))) (aA rfl) rfl rfl) ?_
   refine tr1 rfl (aZ (aA rfl) rfl rfl rfl) ?_
   refine tr1 rfl (aJ (v := .d (.lit (.int .i64 ((w64 (i_0_4 + 1)))))) (aA rfl) rfl rfl) ?_
   refine aF ?_
   exact ⟨(w64 (sum_0_4 + x7.Points), must_0_4, w64 (i_0_4 + 1)), h, aX [] rfl rfl (aM rfl (aM rfl (aM rfl (aV ⟨rfl, trivial⟩))))⟩
 ·have h := aS c6 h
  refine cN ?_
  refine .inl ⟨rfl, ?_⟩
  simp only [oY] at h
  refine aG ?_
  refine aE ?_
  refine tr1 rfl (aC (v := .d (.lit (.int .i64 sum_0_4))) (aA rfl) rfl rfl) ?_
  refine tr1 rfl (aC (v := .d (.lit (.int .i64 must_0_4))) (aA rfl) rfl rfl) ?_
  refine tr1 rfl (aJ (v := .d (.lit (.int .i64 sum_0_4))) (aA rfl) rfl rfl) ?_
  refine tr1 rfl (aJ (v := .d (.lit (.int .i64 must_0_4))) (aA rfl) rfl rfl) ?_
  refine aF ?_
  have h := Option.some.inj h
  subst h
  exact bM ⟨rfl, _, .two _ _, rfl, rfl⟩

theorem xU (l_0 : aL) (a_1 : Int) (b_2 : Int) (week_3 : Int) {r : Bool} (h : mL l_0 a_1 b_2 week_3 = some r) : Fn Try.prog 95 [.agg (aN l_0), .d (.lit (.int .i64 a_1)), .d (.lit (.int .i64 b_2)), .d (.lit (.int .i64 week_3))] (.d (.lit (.bool r))) := by
 unfold mL at h
 refine Fn.of_tr Try.func95 rfl (rs := [.tmp 8]) Try.results95 Try.ntmps95 (Nat.le_of_ble_eq_true rfl) ?_
 refine aG ?_
 refine aE ?_
 refine bW rfl (eN (v := .agg (aN l_0)) (aA rfl) rfl rfl rfl) ?_
 rintro _ ⟨b1, rfl⟩
 refine tr1 rfl (aJ (v := .d (.lit (.bool false))) (aA rfl) rfl rfl) ?_
 refine aF ?_
 refine aG ?_
 refine aE ?_
 refine tr1 rfl (cH (aA rfl) rfl (i := 0) rfl dW (es := (aN l_0)) rfl rfl) ?_
 refine tr1 rfl (aC (v := .d (.lit (.int .i64 a_1))) (aA rfl) rfl rfl) ?_
 refine tr1 rfl (aC (v := .d (.lit (.int .i64 week_3))) (aA rfl) rfl rfl) ?_
 obtain ⟨r2, h3, h⟩ := bind_some h
 refine tr1 rfl (cC (aA rfl) (.func _ _ Try.call66) rfl rfl (BVs.refl _ _) (sU _ _ _ h3) rfl) ?_
 refine tr1 rfl (aC (v := .tup [.d (.lit (.int .i64 r2.1)), .d (.lit (.int .i64 r2.2))]) (aA rfl) rfl rfl) ?_
 refine tr1 rfl (dA (aA rfl) rfl rfl) ?_
 refine tr1 rfl (dA (aA rfl) rfl rfl) ?_
 refine tr1 rfl (aJ (v := .d (.lit (.int .i64 r2.1))) (aA rfl) rfl rfl) ?_
 refine tr1 rfl (aJ (v := .d (.lit (.int .i64 r2.2))) (aA rfl) rfl rfl) ?_
 refine aF ?_
 refine aG ?_
 refine aE ?_
 refine tr1 rfl (cH (aA rfl) rfl (i := 0) rfl dW (es := (aN l_0)) rfl rfl) ?_
 refine tr1 rfl (aC (v := .d (.lit (.int .i64 b_2))) (aA rfl) rfl rfl) ?_
 refine tr1 rfl (aC (v := .d (.lit (.int .i64 week_3))) (aA rfl) rfl rfl) ?_
 obtain ⟨r4, h5, h⟩ := bind_some h
 refine tr1 rfl (cC (aA rfl) (.func _ _ Try.call66) rfl rfl (BVs.refl _ _) (sU _ _ _ h5) rfl) ?_
 refine tr1 rfl (aC (v := .tup [.d (.lit (.int .i64 r4.1)), .d (.lit (.int .i64 r4.2))]) (aA rfl) rfl rfl) ?_
 refine tr1 rfl (dA (aA rfl) rfl rfl) ?_
 refine tr1 rfl (dA (aA rfl) rfl rfl) ?_
 refine tr1 rfl (aJ (v := .d (.lit (.int .i64 r4.1))) (aA rfl) rfl rfl) ?_
 refine tr1 rfl (aJ (v := .d (.lit (.int .i64 r4.2))) (aA rfl) rfl rfl) ?_
 refine aF ?_
 refine aG ?_
 refine aG ?_
 refine aE ?_
 refine tr1 rfl (aC (v := .d (.lit (.int .i64 r2.1))) (aA rfl) rfl rfl) ?_
 refine tr1 rfl (aC (v := .d (.lit (.int .i64 r4.1))) (aA rfl) rfl rfl) ?_
 refine tr1 rfl (bC (aA rfl) rfl rfl rfl) ?_
 refine aF ?_
 refine bJ rfl (fun c6 => ?_) (fun c6 => ?_)
 ·have h := aT c6 h
  refine aG ?_
  refine aE ?_
  refine tr1 rfl (aC (v := .d (.lit (.int .i64 r2.1))) (aA rfl) rfl rfl) ?_
  refine tr1 rfl (aC (v := .d (.lit (.int .i64 r4.1))) (aA rfl) rfl rfl) ?_
  refine tr1 rfl (bC (aA rfl) rfl rfl rfl) ?_
  refine tr1 rfl (aJ (v := .d (.lit (.bool ((decide (r4.1 < r2.1)))))) (aA rfl) rfl rfl) ?_
  refine aF ?_
  have h := Option.some.inj h
  subst h
  refine cR (cE (cM (l := [8]) ⟨rfl, trivial⟩)) ?_
  exact bM ⟨rfl, _, .one _, rfl, rfl⟩
 ·have h := aS c6 h
  refine bG ?_
  refine aG ?_
  refine aG ?_
  refine aE ?_
  refine tr1 rfl (aC (v := .d (.lit (.int .i64 r2.2))) (aA rfl) rfl rfl) ?_
  refine tr1 rfl (aC (v := .d (.lit (.int .i64 r4.2))) (aA rfl) rfl rfl) ?_
  refine tr1 rfl (bC (aA rfl) rfl rfl rfl) ?_
  refine aF ?_
  refine bJ rfl (fun c7 => ?_) (fun c7 => ?_)
  ·have h := aT c7 h
   refine aG ?_
   refine aE ?_
   refine tr1 rfl (aC (v := .d (.lit (.int .i64 r2.2))) (aA rfl) rfl rfl) ?_
   refine tr1 rfl (aC (v := .d (.lit (.int .i64 r4.2))) (aA rfl) rfl rfl) ?_
   refine tr1 rfl (bC (aA rfl) rfl rfl rfl) ?_
   refine tr1 rfl (aJ (v := .d (.lit (.bool ((decide (r4.2 < r2.2)))))) (aA rfl) rfl rfl) ?_
   refine aF ?_
   have h := Option.some.inj h
   subst h
   refine cR (cE (cM (l := [8]) ⟨rfl, trivial⟩)) ?_
   exact bM ⟨rfl, _, .one _, rfl, rfl⟩
  ·have h := aS c7 h
   refine bG ?_
   refine aG ?_
   refine aG ?_
   obtain ⟨r8, h9, h⟩ := bind_some h
   obtain ⟨r10, h11, h⟩ := bind_some h
   refine fN mix 11 [1, 2] [(13, .d (.lit (.int .i64 ((r8.length : Int))))), (50, .d (.lit (.int .i64 ((r10.length : Int)))))] ?_ ?_
   ·refine ⟨[(41, 0, .agg (aN l_0)), (42, 1, .d (.lit (.int .i64 a_1))), (43, 2, .d (.lit (.int .i64 week_3))), (44, 3, .d (.sl 5 (r8.map aB))), (45, 4, .d (.lit (.int .i64 ((r8.length : Int))))), (46, 5, .agg (aN l_0)), (47, 6, .d (.lit (.int .i64 b_2))), (48, 7, .d (.lit (.int .i64 week_3))), (49, 8, .d (.sl 5 (r10.map aB))), (50, 9, .d (.lit (.int .i64 ((r10.length : Int))))), (13, 10, .d (.lit (.int .i64 ((r8.length : Int)))))], ?_, ?_⟩
    · exact ⟨by kernel_rfl, by kernel_rfl, by kernel_rfl, by kernel_rfl, by kernel_rfl, [([], []), ([], []), ([], []), ([0, 1, 2], []), ([3], []), ([], []), ([], []), ([], []), ([5, 6, 7], []), ([8], []), ([4], [])], by kernel_rfl, ⟨fun S hS => aI rfl (aQ rfl (cH (aA rfl) (aH hS rfl) (i := 0) rfl dW (es := (aN l_0)) rfl rfl)),
      fun S hS => aI rfl (aQ rfl (aC (v := .d (.lit (.int .i64 a_1))) (aA rfl) (aH hS rfl) rfl)),
      fun S hS => aI rfl (aQ rfl (aC (v := .d (.lit (.int .i64 week_3))) (aA rfl) (aH hS rfl) rfl)),
      fun S hS => aI rfl (aQ rfl (iT (aA rfl) (.func _ _ Try.call39) (ev2 (aH hS rfl) (ev2 (aH hS rfl) (ev2 (aH hS rfl) evn))) rfl (mA _ _ _ h9))),
      fun S hS => aI rfl (aQ rfl (cX (aA rfl) (aH hS rfl) bR.of)),
      fun S hS => aI rfl (aQ rfl (cH (aA rfl) (aH hS rfl) (i := 0) rfl dW (es := (aN l_0)) rfl rfl)),
      fun S hS => aI rfl (aQ rfl (aC (v := .d (.lit (.int .i64 b_2))) (aA rfl) (aH hS rfl) rfl)),
      fun S hS => aI rfl (aQ rfl (aC (v := .d (.lit (.int .i64 week_3))) (aA rfl) (aH hS rfl) rfl)),
      fun S hS => aI rfl (aQ rfl (iT (aA rfl) (.func _ _ Try.call39) (ev2 (aH hS rfl) (ev2 (aH hS rfl) (ev2 (aH hS rfl) evn))) rfl (mA _ _ _ h11))),
      fun S hS => aI rfl (aQ rfl (cX (aA rfl) (aH hS rfl) bR.of)),
      fun S hS => aI rfl (aQ rfl (aJ (v := .d (.lit (.int .i64 ((r8.length : Int))))) (aA rfl) (aH hS rfl) rfl)), trivial⟩⟩
    · exact dI (aM rfl (aM rfl (aV ⟨rfl, rfl, trivial⟩)))
   ·refine tr1 rfl (aJ (v := .d (.lit (.int .i64 ((r10.length : Int))))) (aA rfl) rfl rfl) ?_
    refine aF ?_
    refine aG ?_
    refine aE ?_
    refine tr1 rfl (aC (v := .d (.lit (.int .i64 ((r8.length : Int))))) (aA rfl) rfl rfl) ?_
    refine tr1 rfl (aC (v := .d (.lit (.int .i64 ((r10.length : Int))))) (aA rfl) rfl rfl) ?_
    refine tr1 rfl (bC (aA rfl) rfl rfl rfl) ?_
    refine aF ?_
    refine bJ rfl (fun c12 => ?_) (fun c12 => ?_)
    ·have h := aT c12 h
     refine aG ?_
     refine aE ?_
     refine tr1 rfl (aC (v := .d (.lit (.int .i64 ((r8.length : Int))))) (aA rfl) rfl rfl) ?_
     refine tr1 rfl (aC (v := .d (.lit (.int .i64 ((r10.length : Int))))) (aA rfl) rfl rfl) ?_
     refine tr1 rfl (bC (aA rfl) rfl rfl rfl) ?_
     refine tr1 rfl (aJ (v := .d (.lit (.bool ((decide ((r8.length : Int) < (r10.length : Int))))))) (aA rfl) rfl rfl) ?_
     refine aF ?_
     have h := Option.some.inj h
     subst h
     refine cR (cE (cM (l := [8]) ⟨rfl, trivial⟩)) ?_
     exact bM ⟨rfl, _, .one _, rfl, rfl⟩
    ·have h := aS c12 h
     refine bG ?_
     refine aG ?_
     refine aE ?_
     refine tr1 rfl (aC (v := .d (.lit (.int .i64 a_1))) (aA rfl) rfl rfl) ?_
     refine tr1 rfl (aC (v := .d (.lit (.int .i64 b_2))) (aA rfl) rfl rfl) ?_
     refine tr1 rfl (bC (aA rfl) rfl rfl rfl) ?_
     refine tr1 rfl (aJ (v := .d (.lit (.bool ((decide (a_1 < b_2)))))) (aA rfl) rfl rfl) ?_
     refine aF ?_
     have h := Option.some.inj h
     subst h
     refine cR (cE (cM (l := [8]) ⟨rfl, trivial⟩)) ?_
     exact bM ⟨rfl, _, .one _, rfl, rfl⟩

theorem zU (l_0 : aL) (week_1 : Int) {r : (List Int)} (h : mD l_0 week_1 = some r) : Fn Try.prog 65 [.agg (aN l_0), .d (.lit (.int .i64 week_1))] (.d (.sl 1 (r.map bY))) := by
 unfold mD at h
 refine Fn.of_tr Try.func65 rfl (rs := [.tmp 4]) Try.results65 Try.ntmps65 (Nat.le_of_ble_eq_true rfl) ?_
 refine aG ?_
 refine aE ?_
 refine bW rfl (eN (v := .agg (aN l_0)) (aA rfl) rfl rfl rfl) ?_
 rintro _ ⟨b1, rfl⟩
 refine tr1 rfl (qB 1 (aA rfl)) ?_
 refine aF ?_
 refine aG ?_
 refine aE ?_
 refine tr1 rfl (qB 1 (aA rfl)) ?_
 refine aF ?_
 refine aG ?_
 refine aG ?_
 refine aE ?_
 refine tr1 rfl (aJ (v := .d (.lit (.int .i64 0))) (aA rfl) rfl rfl) ?_
 refine aF ?_
 refine bQ ?_
 refine cG [1, 2] (fun (s2 : (List Int) × Int) => [(5, .d (.sl 1 (s2.1.map bY))), (6, .d (.lit (.int .i64 s2.2)))]) (fun (s2 : (List Int) × Int) => [.box b1 0 (aN l_0)]) (fun (k : Nat) (s2 : (List Int) × Int) => fP week_1 l_0 k s2.1 s2.2) (fun _ => rfl) (([] : List Int), 0) h (aX [0] rfl rfl (aM rfl (aM rfl (aV ⟨rfl, rfl, trivial⟩)))) ?_
 rintro k3 ⟨out_0_2, p_0_2⟩ h
 simp only [fP] at h
 refine aG ?_
 refine aG ?_
 refine aE ?_
 refine tr1 rfl (aC (v := .d (.lit (.int .i64 p_0_2))) (aA rfl) rfl rfl) ?_
 refine tr1 rfl (aU (aA rfl) rfl iJ) ?_
 refine tr1 rfl (aW (aA rfl) rfl (i := 0) rfl rfl bH) ?_
 refine tr1 rfl (bC (aA rfl) rfl rfl rfl) ?_
 refine aF ?_
 refine bJ rfl (fun c4 => ?_) (fun c4 => ?_)
 ·have h := aT c4 h
  refine bG ?_
  refine aG ?_
  refine bQ ?_
  refine aG ?_
  refine aG ?_
  refine aE ?_
  refine tr1 rfl (cH (aA rfl) rfl (i := 0) rfl dW (es := (aN l_0)) rfl rfl) ?_
  refine tr1 rfl (aC (v := .d (.lit (.int .i64 p_0_2))) (aA rfl) rfl rfl) ?_
  refine tr1 rfl (aC (v := .d (.lit (.int .i64 week_1))) (aA rfl) rfl rfl) ?_
  obtain ⟨r5, h6, h⟩ := bind_some h
  refine tr1 rfl (cC (aA rfl) (.func _ _ Try.call28) rfl rfl (BVs.refl _ _) (xT _ _ _ h6) rfl) ?_
  refine tr1 rfl (eM (aA rfl) rfl) ?_
  refine aF ?_
  refine bJ rfl (fun c7 => ?_) (fun c7 => ?_)
  ·have h := aT c7 h
   refine cN ?_
   refine .inl ⟨rfl, ?_⟩
   simp only [iY] at h
   refine aE ?_
   refine tr1 rfl (aC (v := .d (.lit (.int .i64 p_0_2))) (aA rfl) rfl rfl) ?_
   refine tr1 rfl (aZ (aA rfl) rfl rfl rfl) ?_
   refine tr1 rfl (aJ (v := .d (.lit (.int .i64 ((w64 (p_0_2 + 1)))))) (aA rfl) rfl rfl) ?_
   refine aF ?_
   exact ⟨(out_0_2, w64 (p_0_2 + 1)), h, aX [0] rfl rfl (aM rfl (aM rfl (aV ⟨rfl, rfl, trivial⟩)))⟩
  ·have h := aS c7 h
   refine bG ?_
   refine aG ?_
   refine aE ?_
   refine tr1 rfl (aJ (v := .d (.lit (.int .i64 0))) (aA rfl) rfl rfl) ?_
   refine aF ?_
   refine aG ?_
   refine bQ ?_
   refine cG [1, 2, 5, 6] (fun (s8 : Int) => [(7, .d (.lit (.int .i64 s8)))]) (fun (s8 : Int) => [.box b1 0 (aN l_0)]) (fun (k : Nat) (s8 : Int) => hJ (fP week_1 l_0 k3) week_1 out_0_2 p_0_2 l_0 k s8) (fun _ => rfl) (0) h (aX [0] rfl rfl (aM rfl (aV ⟨rfl, rfl, rfl, rfl, trivial⟩))) ?_
   rintro k9 atv_2_8 h
   simp only [hJ] at h
   refine aG ?_
   refine aG ?_
   obtain ⟨b10, h11, h⟩ := bind_some h
   refine fN mix 14 [1, 2, 5, 6, 7] [(33, .d (.lit (.bool b10)))] ?_ ?_
   ·refine bF (decide (atv_2_8 < (out_0_2.length : Int))) (fun c12 => ?_) (fun c12 => ?_)
    ·have h11 := aT c12 h11
     obtain ⟨x13, h14, h11⟩ := bind_some h11
     obtain ⟨r15, h16, h11⟩ := bind_some h11
     have h11 := Option.some.inj h11
     subst h11
     refine ⟨[(20, 0, .d (.lit (.int .i64 atv_2_8))), (21, 1, .d (.sl 1 (out_0_2.map bY))), (22, 2, .d (.lit (.int .i64 ((out_0_2.length : Int))))), (23, 3, .d (.lit (.bool ((decide (atv_2_8 < (out_0_2.length : Int))))))), (24, 4, .d (.lit (.bool ((decide (atv_2_8 < (out_0_2.length : Int))))))), (25, 5, .agg (aN l_0)), (26, 6, .d (.sl 1 (out_0_2.map bY))), (27, 7, .d (.lit (.int .i64 atv_2_8))), (28, 8, .cp [.lit (.int .i64 x13)]), (29, 9, .d (.lit (.int .i64 x13))), (30, 10, .d (.lit (.int .i64 p_0_2))), (31, 11, .d (.lit (.int .i64 week_1))), (32, 12, .d (.lit (.bool r15))), (33, 13, .d (.lit (.bool r15)))], ?_, ?_⟩
     · exact ⟨by kernel_rfl, by kernel_rfl, by kernel_rfl, by kernel_rfl, by kernel_rfl, [([], []), ([], []), ([1], []), ([0, 2], []), ([3], []), ([4], []), ([4], []), ([4], []), ([4, 6, 7], []), ([4, 8], []), ([4], []), ([4], []), ([4, 5, 9, 10, 11], []), ([4, 12], [])], by kernel_rfl, ⟨fun S hS => aI rfl (aQ rfl (aC (v := .d (.lit (.int .i64 atv_2_8))) (aA rfl) (aH hS rfl) rfl)),
      fun S hS => aI rfl (aQ rfl (aC (v := .d (.sl 1 (out_0_2.map bY))) (aA rfl) (aH hS rfl) rfl)),
      fun S hS => aI rfl (aQ rfl (cX (aA rfl) (aH hS rfl) dK.of)),
      fun S hS => aI rfl (aQ rfl (bC (aA rfl) (aH hS rfl) (aH hS rfl) rfl)),
      fun S hS => aI rfl (aQ rfl (aC (v := .d (.lit (.bool ((decide (atv_2_8 < (out_0_2.length : Int))))))) (aA rfl) (aH hS rfl) rfl)),
      fun S hS => aI rfl (aY rfl rfl (aA rfl) (aP hS rfl) c12 (cH (aA rfl) (aH hS rfl) (i := 0) rfl dW (es := (aN l_0)) rfl rfl)),
      fun S hS => aI rfl (aY rfl rfl (aA rfl) (aP hS rfl) c12 (aC (v := .d (.sl 1 (out_0_2.map bY))) (aA rfl) (aH hS rfl) rfl)),
      fun S hS => aI rfl (aY rfl rfl (aA rfl) (aP hS rfl) c12 (aC (v := .d (.lit (.int .i64 atv_2_8))) (aA rfl) (aH hS rfl) rfl)),
      fun S hS => aI rfl (aY rfl rfl (aA rfl) (aP hS rfl) c12 (bO (aA rfl) (aH hS rfl) (aH hS rfl) dK.of (bI bY h14))),
      fun S hS => aI rfl (aY rfl rfl (aA rfl) (aP hS rfl) c12 (bX (aA rfl) (aH hS rfl) bH)),
      fun S hS => aI rfl (aY rfl rfl (aA rfl) (aP hS rfl) c12 (aC (v := .d (.lit (.int .i64 p_0_2))) (aA rfl) (aH hS rfl) rfl)),
      fun S hS => aI rfl (aY rfl rfl (aA rfl) (aP hS rfl) c12 (aC (v := .d (.lit (.int .i64 week_1))) (aA rfl) (aH hS rfl) rfl)),
      fun S hS => aI rfl (aY rfl rfl (aA rfl) (aP hS rfl) c12 (cC (aA rfl) (.func _ _ Try.call95) (ev2 (aH hS rfl) (ev2 (aH hS rfl) (ev2 (aH hS rfl) (ev2 (aH hS rfl) evn)))) rfl (BVs.refl _ _) (xU _ _ _ _ h16) rfl)),
      fun S hS => aI rfl (aQ rfl (bN (v := .d (.lit (.bool r15))) (aA rfl) (aH hS rfl) c12 (aH hS rfl) rfl)), trivial⟩⟩
     · exact dI (aM rfl (aV ⟨rfl, rfl, rfl, rfl, rfl, trivial⟩))
    ·have h11 := aS c12 h11
     have h11 := Option.some.inj h11
     subst h11
     refine ⟨[(20, 0, .d (.lit (.int .i64 atv_2_8))), (21, 1, .d (.sl 1 (out_0_2.map bY))), (22, 2, .d (.lit (.int .i64 ((out_0_2.length : Int))))), (23, 3, .d (.lit (.bool ((decide (atv_2_8 < (out_0_2.length : Int))))))), (24, 4, .d (.lit (.bool ((decide (atv_2_8 < (out_0_2.length : Int))))))), (25, 5, .tup []), (26, 6, .tup []), (27, 7, .tup []), (28, 8, .tup []), (29, 9, .tup []), (30, 10, .tup []), (31, 11, .tup []), (32, 12, .tup []), (33, 13, .d (.lit (.bool false)))], ?_, ?_⟩
     · exact ⟨by kernel_rfl, by kernel_rfl, by kernel_rfl, by kernel_rfl, by kernel_rfl, [([], []), ([], []), ([1], []), ([0, 2], []), ([3], []), ([4], []), ([4], []), ([4], []), ([4, 6, 7], []), ([4, 8], []), ([4], []), ([4], []), ([4, 5, 9, 10, 11], []), ([4, 12], [])], by kernel_rfl, ⟨fun S hS => aI rfl (aQ rfl (aC (v := .d (.lit (.int .i64 atv_2_8))) (aA rfl) (aH hS rfl) rfl)),
      fun S hS => aI rfl (aQ rfl (aC (v := .d (.sl 1 (out_0_2.map bY))) (aA rfl) (aH hS rfl) rfl)),
      fun S hS => aI rfl (aQ rfl (cX (aA rfl) (aH hS rfl) dK.of)),
      fun S hS => aI rfl (aQ rfl (bC (aA rfl) (aH hS rfl) (aH hS rfl) rfl)),
      fun S hS => aI rfl (aQ rfl (aC (v := .d (.lit (.bool ((decide (atv_2_8 < (out_0_2.length : Int))))))) (aA rfl) (aH hS rfl) rfl)),
      fun S hS => aI rfl (bD rfl rfl (aA rfl) rfl (aA rfl) (aP hS rfl) c12),
      fun S hS => aI rfl (bD rfl rfl (aA rfl) rfl (aA rfl) (aP hS rfl) c12),
      fun S hS => aI rfl (bD rfl rfl (aA rfl) rfl (aA rfl) (aP hS rfl) c12),
      fun S hS => aI rfl (bD rfl rfl (aA rfl) rfl (aA rfl) (aP hS rfl) c12),
      fun S hS => aI rfl (bD rfl rfl (aA rfl) rfl (aA rfl) (aP hS rfl) c12),
      fun S hS => aI rfl (bD rfl rfl (aA rfl) rfl (aA rfl) (aP hS rfl) c12),
      fun S hS => aI rfl (bD rfl rfl (aA rfl) rfl (aA rfl) (aP hS rfl) c12),
      fun S hS => aI rfl (bD rfl rfl (aA rfl) rfl (aA rfl) (aP hS rfl) c12),
      fun S hS => aI rfl (aQ rfl (bP (v := .d (.lit (.bool false))) (aA rfl) (aH hS rfl) c12 rfl rfl)), trivial⟩⟩
     · exact dI (aM rfl (aV ⟨rfl, rfl, rfl, rfl, rfl, trivial⟩))
   ·refine aF ?_
    refine bJ rfl (fun c17 => ?_) (fun c17 => ?_)
    ·have h := aT c17 h
     refine bG ?_
     refine bQ ?_
     refine aE ?_
     refine tr1 rfl (aC (v := .d (.lit (.int .i64 atv_2_8))) (aA rfl) rfl rfl) ?_
     refine tr1 rfl (aZ (aA rfl) rfl rfl rfl) ?_
     refine tr1 rfl (aJ (v := .d (.lit (.int .i64 ((w64 (atv_2_8 + 1)))))) (aA rfl) rfl rfl) ?_
     refine dG ?_
     exact ⟨(w64 (atv_2_8 + 1)), h, aX [0] rfl rfl (aM rfl (aV ⟨rfl, rfl, rfl, rfl, trivial⟩))⟩
    ·have h := aS c17 h
     refine cN ?_
     refine .inl ⟨rfl, ?_⟩
     simp only [nU] at h
     refine aG ?_
     refine aE ?_
     refine tr1 rfl (aC (v := .d (.lit (.int .i64 p_0_2))) (aA rfl) rfl rfl) ?_
     refine tr1 rfl (tF (aA rfl) dK rfl rfl (rows := ([p_0_2]).map bY) rfl (cP (f := bY) fun _ => rfl) rfl (by decide)) ?_
     refine tr1 rfl (aC (v := .d (.sl 1 (out_0_2.map bY))) (aA rfl) rfl rfl) ?_
     refine tr1 rfl (aC (v := .d (.lit (.int .i64 atv_2_8))) (aA rfl) rfl rfl) ?_
     obtain ⟨x18, h19, h⟩ := bind_some h
     refine tr1 rfl (kK (aA rfl) dK.of rfl rfl aDs (nR bY h19)) ?_
     obtain ⟨x20, h21, h⟩ := bind_some h
     refine tr1 rfl (wR (.d (.weak _ _)) (qM (nn := true) (f := bY) (xs := [p_0_2]) (ys := x18) (aA rfl) dK rfl rfl (fun _ => rfl) h21 rfl)) ?_
     refine tr1 rfl (aJ (v := .d (.sl 1 (x20.map bY))) (aA rfl) rfl rfl) ?_
     refine aF ?_
     refine aE ?_
     refine bW rfl (qO (aA rfl) dK rfl rfl (rows := (([] : List Int)).map bY) rfl (cP (f := bY) fun _ => rfl) rfl (by decide)) ?_
     rintro _ ⟨v22, rfl⟩
     refine tr1 rfl (aC (v := .d (.sl 1 (out_0_2.map bY))) (aA rfl) rfl rfl) ?_
     refine tr1 rfl (aC (v := .d (.lit (.int .i64 atv_2_8))) (aA rfl) rfl rfl) ?_
     obtain ⟨x23, h24, h⟩ := bind_some h
     refine tr1 rfl (kK (aA rfl) dK.of rfl rfl rfl (nR bY h24)) ?_
     obtain ⟨x25, h26, h⟩ := bind_some h
     refine bW rfl (gQ (i := 1) (aA rfl) dK rfl rfl rfl (fun _ => rfl) h26 rfl) ?_
     rintro _ ⟨v27, rfl⟩
     refine tr1 rfl (aC (v := .d (.sl 1 (x20.map bY))) (aA rfl) rfl rfl) ?_
     obtain ⟨x28, h29, h⟩ := bind_some h
     refine bW rfl (gQ (i := 1) (aA rfl) dK rfl rfl rfl (fun _ => rfl) h29 rfl) ?_
     rintro _ ⟨v30, rfl⟩
     refine gN (sY [.box b1 0 (aN l_0)] [.arr v30 3 1 (x28.map bY)] rfl (aHi (v' := .d (.sl 1 (x28.map bY))) (.d (aFv (cP (f := bY) fun _ => rfl))) (oX _ _))) ?_
     refine tr1 rfl (aJ (v := .d (.sl 1 (x28.map bY))) (aA rfl) rfl rfl) ?_
     refine dG ?_
     simp only [iY] at h
     refine aE ?_
     refine tr1 rfl (aC (v := .d (.lit (.int .i64 p_0_2))) (aA rfl) rfl rfl) ?_
     refine tr1 rfl (aZ (aA rfl) rfl rfl rfl) ?_
     refine tr1 rfl (aJ (v := .d (.lit (.int .i64 ((w64 (p_0_2 + 1)))))) (aA rfl) rfl rfl) ?_
     refine aF ?_
     exact ⟨(x28, w64 (p_0_2 + 1)), h, aX [0] rfl rfl (aM rfl (aM rfl (aV ⟨rfl, rfl, trivial⟩)))⟩
 ·have h := aS c4 h
  refine cN ?_
  refine .inl ⟨rfl, ?_⟩
  simp only [qG] at h
  refine aG ?_
  refine aE ?_
  refine tr1 rfl (aC (v := .d (.sl 1 (out_0_2.map bY))) (aA rfl) rfl rfl) ?_
  refine tr1 rfl (aJ (v := .d (.sl 1 (out_0_2.map bY))) (aA rfl) rfl rfl) ?_
  refine aF ?_
  have h := Option.some.inj h
  subst h
  refine cR (cE (cM (l := [4]) ⟨rfl, trivial⟩)) ?_
  exact bM ⟨rfl, _, .one _, rfl, rfl⟩

theorem yI (l_0 : aL) (player_1 : Int) (week_2 : Int) {r : Int} (h : gK l_0 player_1 week_2 = some r) : Fn Try.prog 54 [.agg (aN l_0), .d (.lit (.int .i64 player_1)), .d (.lit (.int .i64 week_2))] (.d (.lit (.int .i64 r))) := by
 unfold gK at h
 refine Fn.of_tr Try.func54 rfl (rs := [.tmp 6]) Try.results54 Try.ntmps54 (Nat.le_of_ble_eq_true rfl) ?_
 refine aG ?_
 refine aE ?_
 refine bW rfl (eN (v := .agg (aN l_0)) (aA rfl) rfl rfl rfl) ?_
 rintro _ ⟨b1, rfl⟩
 refine tr1 rfl (aJ (v := .d (.lit (.int .i64 0))) (aA rfl) rfl rfl) ?_
 refine aF ?_
 refine aG ?_
 refine aE ?_
 refine tr1 rfl (cH (aA rfl) rfl (i := 0) rfl dW (es := (aN l_0)) rfl rfl) ?_
 refine tr1 rfl (aC (v := .d (.lit (.int .i64 week_2))) (aA rfl) rfl rfl) ?_
 obtain ⟨r2, h3, h⟩ := bind_some h
 refine tr1 rfl (iT (aA rfl) (.func _ _ Try.call65) rfl rfl (zU _ _ h3)) ?_
 refine tr1 rfl (aJ (v := .d (.sl 1 (r2.map bY))) (aA rfl) rfl rfl) ?_
 refine aF ?_
 refine aG ?_
 refine aG ?_
 refine aE ?_
 refine tr1 rfl (aJ (v := .d (.lit (.int .i64 0))) (aA rfl) rfl rfl) ?_
 refine aF ?_
 refine bQ ?_
 refine cG [1, 7] (fun (s4 : Int) => [(8, .d (.lit (.int .i64 s4)))]) (fun (s4 : Int) => []) (fun (k : Nat) (s4 : Int) => fR player_1 r2 k s4) (fun _ => rfl) (0) h (aX [] rfl rfl (aM rfl (aV ⟨rfl, rfl, trivial⟩))) ?_
 rintro k5 i_0_4 h
 simp only [fR] at h
 refine aG ?_
 refine aG ?_
 refine aE ?_
 refine tr1 rfl (aC (v := .d (.lit (.int .i64 i_0_4))) (aA rfl) rfl rfl) ?_
 refine tr1 rfl (aC (v := .d (.sl 1 (r2.map bY))) (aA rfl) rfl rfl) ?_
 refine tr1 rfl (cX (aA rfl) rfl dK.of) ?_
 refine tr1 rfl (bC (aA rfl) rfl rfl rfl) ?_
 refine aF ?_
 refine bJ rfl (fun c6 => ?_) (fun c6 => ?_)
 ·have h := aT c6 h
  refine bG ?_
  refine aG ?_
  refine bQ ?_
  refine aG ?_
  refine aE ?_
  refine tr1 rfl (aC (v := .d (.sl 1 (r2.map bY))) (aA rfl) rfl rfl) ?_
  refine tr1 rfl (aC (v := .d (.lit (.int .i64 i_0_4))) (aA rfl) rfl rfl) ?_
  obtain ⟨x7, h8, h⟩ := bind_some h
  refine tr1 rfl (bO (aA rfl) rfl rfl dK.of (bI bY h8)) ?_
  refine tr1 rfl (bX (aA rfl) rfl bH) ?_
  refine tr1 rfl (aC (v := .d (.lit (.int .i64 player_1))) (aA rfl) rfl rfl) ?_
  refine tr1 rfl (bC (aA rfl) rfl rfl rfl) ?_
  refine aF ?_
  refine bJ rfl (fun c9 => ?_) (fun c9 => ?_)
  ·have h := aT c9 h
   refine aG ?_
   refine aE ?_
   refine tr1 rfl (aC (v := .d (.lit (.int .i64 i_0_4))) (aA rfl) rfl rfl) ?_
   refine tr1 rfl (aZ (aA rfl) rfl rfl rfl) ?_
   refine tr1 rfl (aJ (v := .d (.lit (.int .i64 ((w64 (i_0_4 + 1)))))) (aA rfl) rfl rfl) ?_
   refine aF ?_
   have h := Option.some.inj h
   subst h
   exact bM ⟨rfl, _, .one _, rfl, rfl⟩
  ·have h := aS c9 h
   refine dS ?_
   refine aE ?_
   refine tr1 rfl (aC (v := .d (.lit (.int .i64 i_0_4))) (aA rfl) rfl rfl) ?_
   refine tr1 rfl (aZ (aA rfl) rfl rfl rfl) ?_
   refine tr1 rfl (aJ (v := .d (.lit (.int .i64 ((w64 (i_0_4 + 1)))))) (aA rfl) rfl rfl) ?_
   refine aF ?_
   exact ⟨(w64 (i_0_4 + 1)), h, aX [] rfl rfl (aM rfl (aV ⟨rfl, rfl, trivial⟩))⟩
 ·have h := aS c6 h
  refine cN ?_
  refine .inl ⟨rfl, ?_⟩
  simp only [pT] at h
  refine aG ?_
  refine aE ?_
  refine tr1 rfl (aJ (v := .d (.lit (.int .i64 0))) (aA rfl) rfl rfl) ?_
  refine aF ?_
  have h := Option.some.inj h
  subst h
  exact bM ⟨rfl, _, .one _, rfl, rfl⟩

theorem yG (l_0 : aL) (player_1 : Int) (week_2 : Int) (prizes_3 : List Int) {r : Int × Int × Int} (h : iW l_0 player_1 week_2 prizes_3 = some r) : Fn Try.prog 19 [.agg (aN l_0), .d (.lit (.int .i64 player_1)), .d (.lit (.int .i64 week_2)), .d (.sl 1 (prizes_3.map bY))] (.tup [.d (.lit (.int .i64 r.1)), .d (.lit (.int .i64 r.2.1)), .d (.lit (.int .i64 r.2.2))]) := by
 unfold iW at h
 refine Fn.of_tr Try.func19 rfl (rs := [.tmp 8, .tmp 9, .tmp 10]) Try.results19 Try.ntmps19 (Nat.le_of_ble_eq_true rfl) ?_
 refine aG ?_
 refine aE ?_
 refine bW rfl (eN (v := .agg (aN l_0)) (aA rfl) rfl rfl rfl) ?_
 rintro _ ⟨b1, rfl⟩
 refine tr1 rfl (aJ (v := .d (.lit (.int .i64 0))) (aA rfl) rfl rfl) ?_
 refine tr1 rfl (aJ (v := .d (.lit (.int .i64 0))) (aA rfl) rfl rfl) ?_
 refine tr1 rfl (aJ (v := .d (.lit (.int .i64 0))) (aA rfl) rfl rfl) ?_
 refine aF ?_
 refine aG ?_
 refine aG ?_
 refine aE ?_
 refine tr1 rfl (cH (aA rfl) rfl (i := 0) rfl dW (es := (aN l_0)) rfl rfl) ?_
 refine tr1 rfl (aC (v := .d (.lit (.int .i64 player_1))) (aA rfl) rfl rfl) ?_
 refine tr1 rfl (aC (v := .d (.lit (.int .i64 week_2))) (aA rfl) rfl rfl) ?_
 obtain ⟨r2, h3, h⟩ := bind_some h
 refine tr1 rfl (cC (aA rfl) (.func _ _ Try.call52) rfl rfl (BVs.refl _ _) (wI _ _ _ h3) rfl) ?_
 refine tr1 rfl (aJ (v := .d (.lit (.int .i64 r2))) (aA rfl) rfl rfl) ?_
 refine aF ?_
 refine aG ?_
 refine aE ?_
 refine tr1 rfl (aC (v := .d (.lit (.int .i64 r2))) (aA rfl) rfl rfl) ?_
 refine tr1 rfl (bC (aA rfl) rfl rfl rfl) ?_
 refine aF ?_
 refine bJ rfl (fun c4 => ?_) (fun c4 => ?_)
 ·have h := aT c4 h
  refine aG ?_
  refine aE ?_
  refine tr1 rfl (aC (v := .d (.lit (.int .i64 r2))) (aA rfl) rfl rfl) ?_
  refine tr1 rfl (aJ (v := .d (.lit (.int .i64 0))) (aA rfl) rfl rfl) ?_
  refine tr1 rfl (aJ (v := .d (.lit (.int .i64 0))) (aA rfl) rfl rfl) ?_
  refine tr1 rfl (aJ (v := .d (.lit (.int .i64 r2))) (aA rfl) rfl rfl) ?_
  refine aF ?_
  have h := Option.some.inj h
  subst h
  refine cR (cE (cM (l := [8, 9, 10]) ⟨rfl, rfl, rfl, trivial⟩)) ?_
  exact bM ⟨rfl, _, .three _ _ _, rfl, rfl⟩
 ·have h := aS c4 h
  refine bG ?_
  refine aG ?_
  refine aG ?_
  refine aE ?_
  refine tr1 rfl (aC (v := .d (.sl 1 (prizes_3.map bY))) (aA rfl) rfl rfl) ?_
  obtain ⟨r5, h6, h⟩ := bind_some h
  refine tr1 rfl (cC (aA rfl) (.func _ _ Try.call23) rfl rfl (BVs.refl _ _) (vY _ h6) rfl) ?_
  refine tr1 rfl (eM (aA rfl) rfl) ?_
  refine aF ?_
  refine bJ rfl (fun c7 => ?_) (fun c7 => ?_)
  ·have h := aT c7 h
   refine aG ?_
   refine aE ?_
   refine tr1 rfl (aJ (v := .d (.lit (.int .i64 0))) (aA rfl) rfl rfl) ?_
   refine tr1 rfl (aJ (v := .d (.lit (.int .i64 0))) (aA rfl) rfl rfl) ?_
   refine tr1 rfl (aJ (v := .d (.lit (.int .i64 42))) (aA rfl) rfl rfl) ?_
   refine aF ?_
   have h := Option.some.inj h
   subst h
   refine cR (cE (cM (l := [8, 9, 10]) ⟨rfl, rfl, rfl, trivial⟩)) ?_
   exact bM ⟨rfl, _, .three _ _ _, rfl, rfl⟩
  ·have h := aS c7 h
   refine bG ?_
   refine aG ?_
   obtain ⟨x9, h10, h⟩ := bind_some h
   refine lZ mix 6 [1, 2, 8, 9] (fun X8 => [(25, .agg (aN l_0)), (26, .d (.lit (.int .i64 week_2))), (27, .d (.sl 1 (prizes_3.map bY))), (30, .d (.lit (X8 5).v))]) (fun X8 => [.box b1 0 (aN l_0), .arr (X8 5).v 4 1 (x9.map lG)]) ?_ ?_
   ·refine ⟨1, fun X8 => [(25, 0, .agg (aN l_0)), (26, 1, .d (.lit (.int .i64 week_2))), (27, 2, .d (.sl 1 (prizes_3.map bY))), (28, 3, .bp b1 0 0), (29, 4, .d (.lit (.int .i64 l_0.Players))), (30, 5, .d (.lit (X8 5).v))], fun X8 => [([], .box b1 0 (aN l_0)), ([(5, .arr (X8 5).v 4 1 (x9.map lG))], nob)], ?_, ?_⟩
    · exact ⟨by kernel_rfl, by kernel_rfl, by kernel_rfl, fun _ => by kernel_rfl, fun _ => by kernel_rfl, fun _ => by kernel_rfl, fun _ => rfl, [([], []), ([], []), ([], []), ([], [5]), ([3], [5]), ([4], [])], by kernel_rfl, ⟨fun X8 S hw hi hS => bL (X := X8) rfl (hw X8) rfl (aQ rfl (cH (aA rfl) (aH hS rfl) (i := 0) (og hS rfl rfl) dW (es := (aN l_0)) rfl rfl)),
      fun X8 S hw hi hS => bL (X := X8) rfl (hw X8) rfl (aQ rfl (aC (v := .d (.lit (.int .i64 week_2))) (aA rfl) (aH hS rfl) rfl)),
      fun X8 S hw hi hS => bL (X := X8) rfl (hw X8) rfl (aQ rfl (aC (v := .d (.sl 1 (prizes_3.map bY))) (aA rfl) (aH hS rfl) rfl)),
      fun X8 S hw hi hS => bL (X := X8) rfl (hw X8) rfl (aQ rfl (aU (aA rfl) (aH hS rfl) iJ)),
      fun X8 S hw hi hS => bL (X := X8) rfl (hw X8) rfl (aQ rfl (aW (aA rfl) (aH hS rfl) (i := 0) (og hS rfl rfl) rfl bH)),
      fun X8 S hw hi hS => aEx (X := X8) (p := 1) (v := fun x => .d (.lit x.v)) (mo := fun x => .arr x.v 4 1 (x9.map lG)) hS hi rfl rfl (fun _ => rfl) hw (fun _ => rfl) (fun _ => rfl) (fun _ => rfl) (fun _ => ⟨rfl, rfl, .inr rfl, ⟨rfl, rfl, .inr rfl, ⟨rfl, rfl, .inr rfl, ⟨rfl, rfl, .inr rfl, ⟨rfl, rfl, .inr rfl, ⟨rfl, rfl, .inl rfl, trivial⟩⟩⟩⟩⟩⟩) (fun _ => ⟨trivial, rfl, ⟨⟨rfl, .inl rfl, trivial⟩, rfl, trivial⟩⟩) (zG (aLc (zs := [.lit (.bool false)]) (aA rfl) aBz (aH hS rfl) (aH hS rfl) rfl rfl (aKu lG h10) (aA rfl)) (by rintro _ ⟨w, rfl⟩; exact ⟨⟨0, w⟩, aX [0, 2] rfl rfl (le_refl _)⟩)), trivial⟩⟩
    · exact fun X8 => dI (aM rfl (aM rfl (aM rfl (aM rfl (aV ⟨rfl, rfl, rfl, rfl, trivial⟩)))))
   ·intro X8
    refine gN (sY [.box b1 0 (aN l_0)] [.arr (X8 5).v 4 1 (x9.map lG)] rfl (gM (k := 30) (v := .d (.sl 1 (x9.map lG))) (.d (hO 0 rfl (cP (f := lG) fun _ => rfl))) (oX _ _))) ?_
    obtain ⟨r11, h12, h⟩ := bind_some h
    refine tr1 rfl (iT (aA rfl) (.func _ _ Try.call53) rfl rfl (wX _ _ _ _ h12)) ?_
    refine tr1 rfl (aJ (v := .d (.sl 5 (r11.map aN))) (aA rfl) rfl rfl) ?_
    refine aF ?_
    refine aG ?_
    refine aG ?_
    refine aE ?_
    refine tr1 rfl (aJ (v := .d (.lit (.int .i64 0))) (aA rfl) rfl rfl) ?_
    refine aF ?_
    refine bQ ?_
    refine cG [1, 2, 12] (fun (s13 : Int × Int × Int) => [(8, .d (.lit (.int .i64 s13.1))), (9, .d (.lit (.int .i64 s13.2.1))), (13, .d (.lit (.int .i64 s13.2.2)))]) (fun (s13 : Int × Int × Int) => []) (fun (k : Nat) (s13 : Int × Int × Int) => fQ player_1 week_2 r11 k s13.1 s13.2.1 s13.2.2) (fun _ => rfl) (0, 0, 0) h (aX [] rfl rfl (aM rfl (aM rfl (aM rfl (aV ⟨rfl, rfl, rfl, trivial⟩))))) ?_
    rintro k14 ⟨best_0_13, worst_0_13, i_0_13⟩ h
    simp only [fQ] at h
    refine aG ?_
    refine aG ?_
    refine aE ?_
    refine tr1 rfl (aC (v := .d (.lit (.int .i64 i_0_13))) (aA rfl) rfl rfl) ?_
    refine tr1 rfl (aC (v := .d (.sl 5 (r11.map aN))) (aA rfl) rfl rfl) ?_
    refine tr1 rfl (cX (aA rfl) rfl zO.of) ?_
    refine tr1 rfl (bC (aA rfl) rfl rfl rfl) ?_
    refine aF ?_
    refine bJ rfl (fun c15 => ?_) (fun c15 => ?_)
    ·have h := aT c15 h
     refine bG ?_
     refine aG ?_
     refine bQ ?_
     refine aG ?_
     refine aE ?_
     refine tr1 rfl (aC (v := .d (.sl 5 (r11.map aN))) (aA rfl) rfl rfl) ?_
     refine tr1 rfl (aC (v := .d (.lit (.int .i64 i_0_13))) (aA rfl) rfl rfl) ?_
     obtain ⟨x16, h17, h⟩ := bind_some h
     refine tr1 rfl (bO (aA rfl) rfl rfl zO.of (bI aN h17)) ?_
     refine tr1 rfl (fJ (aA rfl) rfl dW (es := (aN x16)) rfl rfl) ?_
     refine tr1 rfl (aC (v := .d (.lit (.int .i64 player_1))) (aA rfl) rfl rfl) ?_
     refine tr1 rfl (aC (v := .d (.lit (.int .i64 week_2))) (aA rfl) rfl rfl) ?_
     obtain ⟨r18, h19, h⟩ := bind_some h
     refine tr1 rfl (cC (aA rfl) (.func _ _ Try.call54) rfl rfl (BVs.refl _ _) (yI _ _ _ h19) rfl) ?_
     refine tr1 rfl (aJ (v := .d (.lit (.int .i64 r18))) (aA rfl) rfl rfl) ?_
     refine aF ?_
     refine aG ?_
     refine aG ?_
     refine aE ?_
     refine tr1 rfl (aC (v := .d (.lit (.int .i64 r18))) (aA rfl) rfl rfl) ?_
     refine tr1 rfl (bC (aA rfl) rfl rfl rfl) ?_
     refine aF ?_
     refine bJ rfl (fun c20 => ?_) (fun c20 => ?_)
     ·have h := aT c20 h
      refine aG ?_
      refine aE ?_
      refine tr1 rfl (aJ (v := .d (.lit (.int .i64 0))) (aA rfl) rfl rfl) ?_
      refine tr1 rfl (aJ (v := .d (.lit (.int .i64 0))) (aA rfl) rfl rfl) ?_
      refine tr1 rfl (aJ (v := .d (.lit (.int .i64 3))) (aA rfl) rfl rfl) ?_
      refine aF ?_
      have h := Option.some.inj h
      subst h
      exact bM ⟨rfl, _, .three _ _ _, rfl, rfl⟩
     ·have h := aS c20 h
      refine bG ?_
      refine aG ?_
      refine aG ?_
      refine aE ?_
      refine tr1 rfl (aC (v := .d (.lit (.int .i64 best_0_13))) (aA rfl) rfl rfl) ?_
      refine tr1 rfl (bC (aA rfl) rfl rfl rfl) ?_
      refine tr1 rfl (aC (v := .d (.lit (.bool ((decide (best_0_13 = 0)))))) (aA rfl) rfl rfl) ?_
      obtain ⟨b21, h22, h⟩ := bind_some h
      refine cA 4 [1, 2, 8, 9, 12, 13, 14] 53 b21 ?_ ?_
      ·refine bF (decide (best_0_13 = 0)) (fun c24 => ?_) (fun c24 => ?_)
       ·have h22 := aT c24 h22
        refine aR rfl rfl (aA rfl) rfl (aA rfl) rfl c24 ?_
        refine aR rfl rfl (aA rfl) rfl (aA rfl) rfl c24 ?_
        refine aR rfl rfl (aA rfl) rfl (aA rfl) rfl c24 ?_
        refine tr1 rfl (bN (v := .d (.lit (.bool true))) (aA rfl) rfl c24 rfl rfl) ?_
        have h22 := Option.some.inj h22
        subst h22
        refine aF (bB rfl ⟨rfl, rfl, rfl, rfl, rfl, rfl, rfl, trivial⟩ rfl)
       ·have h22 := aS c24 h22
        refine aO rfl rfl (aA rfl) rfl c24 (aC (v := .d (.lit (.int .i64 r18))) (aA rfl) rfl rfl) ?_
        refine aO rfl rfl (aA rfl) rfl c24 (aC (v := .d (.lit (.int .i64 best_0_13))) (aA rfl) rfl rfl) ?_
        refine aO rfl rfl (aA rfl) rfl c24 (bC (aA rfl) rfl rfl rfl) ?_
        refine tr1 rfl (bP (v := .d (.lit (.bool ((decide (r18 < best_0_13)))))) (aA rfl) rfl c24 rfl rfl) ?_
        have h22 := Option.some.inj h22
        subst h22
        refine aF (bB rfl ⟨rfl, rfl, rfl, rfl, rfl, rfl, rfl, trivial⟩ rfl)
      ·refine aF ?_
       refine bJ rfl (fun c23 => ?_) (fun c23 => ?_)
       ·have h := aT c23 h
        refine aE ?_
        refine tr1 rfl (aC (v := .d (.lit (.int .i64 r18))) (aA rfl) rfl rfl) ?_
        refine tr1 rfl (aJ (v := .d (.lit (.int .i64 r18))) (aA rfl) rfl rfl) ?_
        refine aF ?_
        refine aE ?_
        refine tr1 rfl (aC (v := .d (.lit (.int .i64 worst_0_13))) (aA rfl) rfl rfl) ?_
        refine tr1 rfl (aC (v := .d (.lit (.int .i64 r18))) (aA rfl) rfl rfl) ?_
        refine tr1 rfl (xJ (aA rfl) rfl rfl) ?_
        refine tr1 rfl (aJ (v := .d (.lit (.int .i64 ((max worst_0_13 r18))))) (aA rfl) rfl rfl) ?_
        refine dG ?_
        refine aE ?_
        refine tr1 rfl (aC (v := .d (.lit (.int .i64 i_0_13))) (aA rfl) rfl rfl) ?_
        refine tr1 rfl (aZ (aA rfl) rfl rfl rfl) ?_
        refine tr1 rfl (aJ (v := .d (.lit (.int .i64 ((w64 (i_0_13 + 1)))))) (aA rfl) rfl rfl) ?_
        refine aF ?_
        exact ⟨(r18, max worst_0_13 r18, w64 (i_0_13 + 1)), h, aX [] rfl rfl (aM rfl (aM rfl (aM rfl (aV ⟨rfl, rfl, rfl, trivial⟩))))⟩
       ·have h := aS c23 h
        refine bG ?_
        refine aE ?_
        refine tr1 rfl (aC (v := .d (.lit (.int .i64 worst_0_13))) (aA rfl) rfl rfl) ?_
        refine tr1 rfl (aC (v := .d (.lit (.int .i64 r18))) (aA rfl) rfl rfl) ?_
        refine tr1 rfl (xJ (aA rfl) rfl rfl) ?_
        refine tr1 rfl (aJ (v := .d (.lit (.int .i64 ((max worst_0_13 r18))))) (aA rfl) rfl rfl) ?_
        refine dG ?_
        refine aE ?_
        refine tr1 rfl (aC (v := .d (.lit (.int .i64 i_0_13))) (aA rfl) rfl rfl) ?_
        refine tr1 rfl (aZ (aA rfl) rfl rfl rfl) ?_
        refine tr1 rfl (aJ (v := .d (.lit (.int .i64 ((w64 (i_0_13 + 1)))))) (aA rfl) rfl rfl) ?_
        refine aF ?_
        exact ⟨(best_0_13, max worst_0_13 r18, w64 (i_0_13 + 1)), h, aX [] rfl rfl (aM rfl (aM rfl (aM rfl (aV ⟨rfl, rfl, rfl, trivial⟩))))⟩
    ·have h := aS c15 h
     refine cN ?_
     refine .inl ⟨rfl, ?_⟩
     simp only [sT] at h
     refine aG ?_
     refine aE ?_
     refine tr1 rfl (aC (v := .d (.lit (.int .i64 best_0_13))) (aA rfl) rfl rfl) ?_
     refine tr1 rfl (aC (v := .d (.lit (.int .i64 worst_0_13))) (aA rfl) rfl rfl) ?_
     refine tr1 rfl (aJ (v := .d (.lit (.int .i64 best_0_13))) (aA rfl) rfl rfl) ?_
     refine tr1 rfl (aJ (v := .d (.lit (.int .i64 worst_0_13))) (aA rfl) rfl rfl) ?_
     refine tr1 rfl (aJ (v := .d (.lit (.int .i64 0))) (aA rfl) rfl rfl) ?_
     refine aF ?_
     have h := Option.some.inj h
     subst h
     exact bM ⟨rfl, _, .three _ _ _, rfl, rfl⟩

theorem vX (l_0 : aL) (x_1 : pI) (prizes_2 : List Int) {r : Bool} (h : mQ l_0 x_1 prizes_2 = some r) : Fn Try.prog 3 [.agg (aN l_0), .agg (nC x_1), .d (.sl 1 (prizes_2.map bY))] (.d (.lit (.bool r))) := by
 unfold mQ at h
 refine Fn.of_tr Try.func3 rfl (rs := [.tmp 6]) Try.results3 Try.ntmps3 (Nat.le_of_ble_eq_true rfl) ?_
 refine aG ?_
 refine aE ?_
 refine bW rfl (eN (v := .agg (aN l_0)) (aA rfl) rfl rfl rfl) ?_
 rintro _ ⟨b1, rfl⟩
 refine bW rfl (eN (v := .agg (nC x_1)) (aA rfl) rfl rfl rfl) ?_
 rintro _ ⟨b2, rfl⟩
 refine tr1 rfl (aJ (v := .d (.lit (.bool false))) (aA rfl) rfl rfl) ?_
 refine aF ?_
 refine aG ?_
 refine aG ?_
 refine aE ?_
 refine tr1 rfl (cH (aA rfl) rfl (i := 0) rfl dW (es := (aN l_0)) rfl rfl) ?_
 obtain ⟨r3, h4, h⟩ := bind_some h
 refine tr1 rfl (cC (aA rfl) (.func _ _ Try.call13) rfl rfl (BVs.refl _ _) (aAp _ h4) rfl) ?_
 refine tr1 rfl (aC (v := .d (.lit (.bool r3))) (aA rfl) rfl rfl) ?_
 obtain ⟨b5, h6, h⟩ := bind_some h
 refine cA 4 [2, 3, 4] 19 b5 ?_ ?_
 ·refine bF (r3) (fun c47 => ?_) (fun c47 => ?_)
  ·have h6 := aT c47 h6
   refine aR rfl rfl (aA rfl) rfl (aA rfl) rfl c47 ?_
   refine aR rfl rfl (aA rfl) rfl (aA rfl) rfl c47 ?_
   refine aR rfl rfl (aA rfl) rfl (aA rfl) rfl c47 ?_
   refine tr1 rfl (bN (v := .d (.lit (.bool true))) (aA rfl) rfl c47 rfl rfl) ?_
   have h6 := Option.some.inj h6
   subst h6
   refine aF (bB rfl ⟨rfl, rfl, rfl, trivial⟩ rfl)
  ·have h6 := aS c47 h6
   refine aO rfl rfl (aA rfl) rfl c47 (aU (aA rfl) rfl aAs) ?_
   refine aO rfl rfl (aA rfl) rfl c47 (aW (aA rfl) rfl (i := 1) rfl rfl bH) ?_
   obtain ⟨r48, h49, h6⟩ := bind_some h6
   refine aO rfl rfl (aA rfl) rfl c47 (cC (aA rfl) (.func _ _ Try.call14) rfl rfl (BVs.refl _ _) (zR _ h49) rfl) ?_
   refine tr1 rfl (bP (v := .d (.lit (.bool r48))) (aA rfl) rfl c47 rfl rfl) ?_
   have h6 := Option.some.inj h6
   subst h6
   refine aF (bB rfl ⟨rfl, rfl, rfl, trivial⟩ rfl)
 ·refine tr1 rfl (aC (v := .d (.lit (.bool b5))) (aA rfl) rfl rfl) ?_
  obtain ⟨b7, h8, h⟩ := bind_some h
  refine cA 4 [2, 3, 4] 24 b7 ?_ ?_
  ·refine bF (b5) (fun c46 => ?_) (fun c46 => ?_)
   ·have h8 := aT c46 h8
    refine aR rfl rfl (aA rfl) rfl (aA rfl) rfl c46 ?_
    refine aR rfl rfl (aA rfl) rfl (aA rfl) rfl c46 ?_
    refine aR rfl rfl (aA rfl) rfl (aA rfl) rfl c46 ?_
    refine tr1 rfl (bN (v := .d (.lit (.bool true))) (aA rfl) rfl c46 rfl rfl) ?_
    have h8 := Option.some.inj h8
    subst h8
    refine aF (bB rfl ⟨rfl, rfl, rfl, trivial⟩ rfl)
   ·have h8 := aS c46 h8
    refine aO rfl rfl (aA rfl) rfl c46 (aC (v := .d (.sl 1 (prizes_2.map bY))) (aA rfl) rfl rfl) ?_
    refine aO rfl rfl (aA rfl) rfl c46 (cX (aA rfl) rfl dK.of) ?_
    refine aO rfl rfl (aA rfl) rfl c46 (bC (aA rfl) rfl rfl rfl) ?_
    refine tr1 rfl (bP (v := .d (.lit (.bool ((decide (20 < (prizes_2.length : Int))))))) (aA rfl) rfl c46 rfl rfl) ?_
    have h8 := Option.some.inj h8
    subst h8
    refine aF (bB rfl ⟨rfl, rfl, rfl, trivial⟩ rfl)
  ·refine tr1 rfl (aC (v := .d (.lit (.bool b7))) (aA rfl) rfl rfl) ?_
   obtain ⟨b9, h10, h⟩ := bind_some h
   refine cA 9 [2, 3, 4] 34 b9 ?_ ?_
   ·refine bF (b7) (fun c42 => ?_) (fun c42 => ?_)
    ·have h10 := aT c42 h10
     refine aR rfl rfl (aA rfl) rfl (aA rfl) rfl c42 ?_
     refine aR rfl rfl (aA rfl) rfl (aA rfl) rfl c42 ?_
     refine aR rfl rfl (aA rfl) rfl (aA rfl) rfl c42 ?_
     refine aR rfl rfl (aA rfl) rfl (aA rfl) rfl c42 ?_
     refine tJ rfl rfl (aA rfl) rfl (aA rfl) rfl ?_
     refine tJ rfl rfl (aA rfl) rfl (aA rfl) rfl ?_
     refine tJ rfl rfl (aA rfl) rfl (aA rfl) rfl ?_
     refine aR rfl rfl (aA rfl) rfl (aA rfl) rfl c42 ?_
     refine tr1 rfl (bN (v := .d (.lit (.bool true))) (aA rfl) rfl c42 rfl rfl) ?_
     have h10 := Option.some.inj h10
     subst h10
     refine aF (bB rfl ⟨rfl, rfl, rfl, trivial⟩ rfl)
    ·have h10 := aS c42 h10
     refine aO rfl rfl (aA rfl) rfl c42 (aC (v := .d (.sl 1 (prizes_2.map bY))) (aA rfl) rfl rfl) ?_
     refine aO rfl rfl (aA rfl) rfl c42 (cX (aA rfl) rfl dK.of) ?_
     refine aO rfl rfl (aA rfl) rfl c42 (bC (aA rfl) rfl rfl rfl) ?_
     refine aO rfl rfl (aA rfl) rfl c42 (aC (v := .d (.lit (.bool ((decide (2 < (prizes_2.length : Int))))))) (aA rfl) rfl rfl) ?_
     obtain ⟨b43, h44, h10⟩ := bind_some h10
     refine cA 4 [2, 3, 4, 25] 33 b43 ?_ ?_
     ·refine bF (decide (2 < (prizes_2.length : Int))) (fun c45 => ?_) (fun c45 => ?_)
      ·have h44 := aT c45 h44
       refine aO rfl rfl (aA rfl) rfl c45 (aC (v := .d (.sl 1 (prizes_2.map bY))) (aA rfl) rfl rfl) ?_
       refine aO rfl rfl (aA rfl) rfl c45 (cX (aA rfl) rfl dK.of) ?_
       refine aO rfl rfl (aA rfl) rfl c45 (bC (aA rfl) rfl rfl rfl) ?_
       refine aO rfl rfl (aA rfl) rfl c42 (bN (v := .d (.lit (.bool ((decide ((prizes_2.length : Int) ≤ 4)))))) (aA rfl) rfl c45 rfl rfl) ?_
       have h44 := Option.some.inj h44
       subst h44
       refine aF (bB rfl ⟨rfl, rfl, rfl, rfl, trivial⟩ rfl)
      ·have h44 := aS c45 h44
       refine aR rfl rfl (aA rfl) rfl (aA rfl) rfl c45 ?_
       refine aR rfl rfl (aA rfl) rfl (aA rfl) rfl c45 ?_
       refine aR rfl rfl (aA rfl) rfl (aA rfl) rfl c45 ?_
       refine aO rfl rfl (aA rfl) rfl c42 (bP (v := .d (.lit (.bool false))) (aA rfl) rfl c45 rfl rfl) ?_
       have h44 := Option.some.inj h44
       subst h44
       refine aF (bB rfl ⟨rfl, rfl, rfl, rfl, trivial⟩ rfl)
     ·refine tr1 rfl (bP (v := .d (.lit (.bool b43))) (aA rfl) rfl c42 rfl rfl) ?_
      have h10 := Option.some.inj h10
      subst h10
      refine aF (bB rfl ⟨rfl, rfl, rfl, trivial⟩ rfl)
   ·refine tr1 rfl (aC (v := .d (.lit (.bool b9))) (aA rfl) rfl rfl) ?_
    obtain ⟨b11, h12, h⟩ := bind_some h
    refine cA 9 [2, 3, 4] 44 b11 ?_ ?_
    ·refine bF (b9) (fun c36 => ?_) (fun c36 => ?_)
     ·have h12 := aT c36 h12
      refine aR rfl rfl (aA rfl) rfl (aA rfl) rfl c36 ?_
      refine aR rfl rfl (aA rfl) rfl (aA rfl) rfl c36 ?_
      refine aR rfl rfl (aA rfl) rfl (aA rfl) rfl c36 ?_
      refine aR rfl rfl (aA rfl) rfl (aA rfl) rfl c36 ?_
      refine tJ rfl rfl (aA rfl) rfl (aA rfl) rfl ?_
      refine tJ rfl rfl (aA rfl) rfl (aA rfl) rfl ?_
      refine tJ rfl rfl (aA rfl) rfl (aA rfl) rfl ?_
      refine aR rfl rfl (aA rfl) rfl (aA rfl) rfl c36 ?_
      refine tr1 rfl (bN (v := .d (.lit (.bool true))) (aA rfl) rfl c36 rfl rfl) ?_
      have h12 := Option.some.inj h12
      subst h12
      refine aF (bB rfl ⟨rfl, rfl, rfl, trivial⟩ rfl)
     ·have h12 := aS c36 h12
      refine aO rfl rfl (aA rfl) rfl c36 (aU (aA rfl) rfl iJ) ?_
      refine aO rfl rfl (aA rfl) rfl c36 (aW (aA rfl) rfl (i := 0) rfl rfl bH) ?_
      refine aO rfl rfl (aA rfl) rfl c36 (bC (aA rfl) rfl rfl rfl) ?_
      refine aO rfl rfl (aA rfl) rfl c36 (aC (v := .d (.lit (.bool ((decide (4 < l_0.Players)))))) (aA rfl) rfl rfl) ?_
      obtain ⟨b37, h38, h12⟩ := bind_some h12
      refine cA 4 [2, 3, 4, 35] 43 b37 ?_ ?_
      ·refine bF (decide (4 < l_0.Players)) (fun c39 => ?_) (fun c39 => ?_)
       ·have h38 := aT c39 h38
        refine aO rfl rfl (aA rfl) rfl c39 (cH (aA rfl) rfl (i := 0) rfl dW (es := (aN l_0)) rfl rfl) ?_
        obtain ⟨r40, h41, h38⟩ := bind_some h38
        refine aO rfl rfl (aA rfl) rfl c39 (cC (aA rfl) (.func _ _ Try.call15) rfl rfl (BVs.refl _ _) (qF _ h41) rfl) ?_
        refine aO rfl rfl (aA rfl) rfl c39 (bC (aA rfl) rfl rfl rfl) ?_
        refine aO rfl rfl (aA rfl) rfl c36 (bN (v := .d (.lit (.bool ((decide (r40 = 0)))))) (aA rfl) rfl c39 rfl rfl) ?_
        have h38 := Option.some.inj h38
        subst h38
        refine aF (bB rfl ⟨rfl, rfl, rfl, rfl, trivial⟩ rfl)
       ·have h38 := aS c39 h38
        refine aR rfl rfl (aA rfl) rfl (aA rfl) rfl c39 ?_
        refine aR rfl rfl (aA rfl) rfl (aA rfl) rfl c39 ?_
        refine aR rfl rfl (aA rfl) rfl (aA rfl) rfl c39 ?_
        refine aO rfl rfl (aA rfl) rfl c36 (bP (v := .d (.lit (.bool false))) (aA rfl) rfl c39 rfl rfl) ?_
        have h38 := Option.some.inj h38
        subst h38
        refine aF (bB rfl ⟨rfl, rfl, rfl, rfl, trivial⟩ rfl)
      ·refine tr1 rfl (bP (v := .d (.lit (.bool b37))) (aA rfl) rfl c36 rfl rfl) ?_
       have h12 := Option.some.inj h12
       subst h12
       refine aF (bB rfl ⟨rfl, rfl, rfl, trivial⟩ rfl)
    ·refine aF ?_
     refine bJ rfl (fun c13 => ?_) (fun c13 => ?_)
     ·have h := aT c13 h
      refine aG ?_
      refine aE ?_
      obtain ⟨r14, h15, h⟩ := bind_some h
      refine tr1 rfl (cC (aA rfl) (.func _ _ Try.call16) rfl rfl (BVs.refl _ _) (tO h15) rfl) ?_
      refine tr1 rfl (aJ (v := .d (.lit (.bool r14))) (aA rfl) rfl rfl) ?_
      refine aF ?_
      have h := Option.some.inj h
      subst h
      refine cR (cE (cM (l := [6]) ⟨rfl, trivial⟩)) ?_
      exact bM ⟨rfl, _, .one _, rfl, rfl⟩
     ·have h := aS c13 h
      refine bG ?_
      refine aG ?_
      obtain ⟨r17, h18, h⟩ := bind_some h
      obtain ⟨x19, h20, h⟩ := bind_some h
      obtain ⟨r21, h22, h⟩ := bind_some h
      refine lZ mix 16 [2, 3, 4] (fun X16 => [(7, .d (.lit (.int .i64 r21.1))), (8, .d (.lit (.int .i64 r21.2.1))), (59, .d (.lit (.int .i64 r21.2.2)))]) (fun X16 => [.box b1 0 (aN l_0), .box b2 0 (nC x_1)]) ?_ ?_
      ·refine ⟨0, fun X16 => [(47, 0, .agg (aN l_0)), (48, 1, .agg (aN r17)), (49, 2, .bp b2 0 0), (50, 3, .d (.lit (.int .i64 x_1.Player))), (51, 4, .bp b2 0 1), (52, 5, .d (.lit (.int .i64 x_1.Week))), (53, 6, .fl true 1 (([] : List Int).map bY)), (54, 7, .d (.sl 1 (prizes_2.map bY))), (55, 8, .d (.sl 1 (x19.map bY))), (56, 9, .tup [.d (.lit (.int .i64 r21.1)), .d (.lit (.int .i64 r21.2.1)), .d (.lit (.int .i64 r21.2.2))]), (46, 10, .tup [.d (.lit (.int .i64 r21.1)), .d (.lit (.int .i64 r21.2.1)), .d (.lit (.int .i64 r21.2.2))]), (57, 11, .d (.lit (.int .i64 r21.1))), (58, 12, .d (.lit (.int .i64 r21.2.1))), (59, 13, .d (.lit (.int .i64 r21.2.2))), (7, 14, .d (.lit (.int .i64 r21.1))), (8, 15, .d (.lit (.int .i64 r21.2.1)))], fun X16 => [([], .box b1 0 (aN l_0)), ([], .box b2 0 (nC x_1))], ?_, ?_⟩
       · exact ⟨by kernel_rfl, by kernel_rfl, by kernel_rfl, fun _ => by kernel_rfl, fun _ => by kernel_rfl, fun _ => by kernel_rfl, fun _ => rfl, [([], [8]), ([0], [8]), ([], []), ([2], []), ([], []), ([4], []), ([], [8]), ([], [8]), ([6, 7], []), ([1, 3, 5, 8], []), ([8, 9], []), ([8, 10], []), ([8, 10], []), ([8, 10], []), ([8, 11], []), ([8, 12], [])], by kernel_rfl, ⟨fun X16 S hw hi hS => bL (X := X16) rfl (hw X16) rfl (aQ rfl (cH (aA rfl) (aH hS rfl) (i := 0) (og hS rfl rfl) dW (es := (aN l_0)) rfl rfl)),
      fun X16 S hw hi hS => bL (X := X16) rfl (hw X16) rfl (aQ rfl (iT (aA rfl) (.func _ _ Try.call18) (ev2 (aH hS rfl) evn) rfl (zS _ h18))),
      fun X16 S hw hi hS => bL (X := X16) rfl (hw X16) rfl (aQ rfl (aU (aA rfl) (aH hS rfl) aEe)),
      fun X16 S hw hi hS => bL (X := X16) rfl (hw X16) rfl (aQ rfl (aW (aA rfl) (aH hS rfl) (i := 1) (og hS rfl rfl) rfl bH)),
      fun X16 S hw hi hS => bL (X := X16) rfl (hw X16) rfl (aQ rfl (aU (aA rfl) (aH hS rfl) aAs)),
      fun X16 S hw hi hS => bL (X := X16) rfl (hw X16) rfl (aQ rfl (aW (aA rfl) (aH hS rfl) (i := 1) (og hS rfl rfl) rfl bH)),
      fun X16 S hw hi hS => bL (X := X16) rfl (hw X16) rfl (aQ rfl (tF (aA rfl) dK rfl pan (rows := (([] : List Int)).map bY) rfl (cP (f := bY) fun _ => rfl) rfl (by decide))),
      fun X16 S hw hi hS => bL (X := X16) rfl (hw X16) rfl (aQ rfl (aC (v := .d (.sl 1 (prizes_2.map bY))) (aA rfl) (aH hS rfl) rfl)),
      fun X16 S hw hi hS => bL (X := X16) rfl (hw X16) rfl (aQ rfl (wR (.d (.weak _ _)) (qM (nn := true) (f := bY) (xs := ([] : List Int)) (ys := prizes_2) (aA rfl) dK (aH hS rfl) (aH hS rfl) (fun _ => rfl) h20 rfl))),
      fun X16 S hw hi hS => bL (X := X16) rfl (hw X16) rfl (aQ rfl (cC (aA rfl) (.func _ _ Try.call17) (ev2 (aH hS rfl) (ev2 (aH hS rfl) (ev2 (aH hS rfl) (ev2 (aH hS rfl) evn)))) rfl (BVs.refl _ _) (yX _ _ _ _ h22) rfl)),
      fun X16 S hw hi hS => bL (X := X16) rfl (hw X16) rfl (aQ rfl (aC (v := .tup [.d (.lit (.int .i64 r21.1)), .d (.lit (.int .i64 r21.2.1)), .d (.lit (.int .i64 r21.2.2))]) (aA rfl) (aH hS rfl) rfl)),
      fun X16 S hw hi hS => bL (X := X16) rfl (hw X16) rfl (aQ rfl (dA (aA rfl) (aH hS rfl) rfl)),
      fun X16 S hw hi hS => bL (X := X16) rfl (hw X16) rfl (aQ rfl (dA (aA rfl) (aH hS rfl) rfl)),
      fun X16 S hw hi hS => bL (X := X16) rfl (hw X16) rfl (aQ rfl (dA (aA rfl) (aH hS rfl) rfl)),
      fun X16 S hw hi hS => bL (X := X16) rfl (hw X16) rfl (aQ rfl (aJ (v := .d (.lit (.int .i64 r21.1))) (aA rfl) (aH hS rfl) rfl)),
      fun X16 S hw hi hS => bL (X := X16) rfl (hw X16) rfl (aQ rfl (aJ (v := .d (.lit (.int .i64 r21.2.1))) (aA rfl) (aH hS rfl) rfl)), trivial⟩⟩
       · exact fun X16 => dI (aM rfl (aM rfl (aM rfl (aV ⟨rfl, rfl, rfl, trivial⟩))))
      ·intro X16
       refine tr1 rfl (aJ (v := .d (.lit (.int .i64 r21.2.2))) (aA rfl) rfl rfl) ?_
       refine aF ?_
       refine aG ?_
       refine aE ?_
       refine tr1 rfl (cH (aA rfl) rfl (i := 0) rfl dW (es := (aN l_0)) rfl rfl) ?_
       refine tr1 rfl (aU (aA rfl) rfl aEe) ?_
       refine tr1 rfl (aW (aA rfl) rfl (i := 1) rfl rfl bH) ?_
       refine tr1 rfl (aU (aA rfl) rfl aAs) ?_
       refine tr1 rfl (aW (aA rfl) rfl (i := 1) rfl rfl bH) ?_
       refine tr1 rfl (aC (v := .d (.sl 1 (prizes_2.map bY))) (aA rfl) rfl rfl) ?_
       obtain ⟨r23, h24, h⟩ := bind_some h
       refine tr1 rfl (cC (aA rfl) (.func _ _ Try.call19) rfl rfl (BVs.refl _ _) (yG _ _ _ _ h24) rfl) ?_
       refine tr1 rfl (aC (v := .tup [.d (.lit (.int .i64 r23.1)), .d (.lit (.int .i64 r23.2.1)), .d (.lit (.int .i64 r23.2.2))]) (aA rfl) rfl rfl) ?_
       refine tr1 rfl (dA (aA rfl) rfl rfl) ?_
       refine tr1 rfl (dA (aA rfl) rfl rfl) ?_
       refine tr1 rfl (dA (aA rfl) rfl rfl) ?_
       refine tr1 rfl (aJ (v := .d (.lit (.int .i64 r23.1))) (aA rfl) rfl rfl) ?_
       refine tr1 rfl (aJ (v := .d (.lit (.int .i64 r23.2.1))) (aA rfl) rfl rfl) ?_
       refine tr1 rfl (aJ (v := .d (.lit (.int .i64 r23.2.2))) (aA rfl) rfl rfl) ?_
       refine aF ?_
       refine aG ?_
       refine aE ?_
       refine tr1 rfl (aC (v := .d (.lit (.int .i64 r21.1))) (aA rfl) rfl rfl) ?_
       refine tr1 rfl (aC (v := .d (.lit (.int .i64 r23.1))) (aA rfl) rfl rfl) ?_
       refine tr1 rfl (bC (aA rfl) rfl rfl rfl) ?_
       refine tr1 rfl (aC (v := .d (.lit (.bool ((decide (r21.1 = r23.1)))))) (aA rfl) rfl rfl) ?_
       obtain ⟨b25, h26, h⟩ := bind_some h
       refine cA 4 [9, 12] 78 b25 ?_ ?_
       ·refine bF (decide (r21.1 = r23.1)) (fun c35 => ?_) (fun c35 => ?_)
        ·have h26 := aT c35 h26
         refine aO rfl rfl (aA rfl) rfl c35 (aC (v := .d (.lit (.int .i64 r21.2.1))) (aA rfl) rfl rfl) ?_
         refine aO rfl rfl (aA rfl) rfl c35 (aC (v := .d (.lit (.int .i64 r23.2.1))) (aA rfl) rfl rfl) ?_
         refine aO rfl rfl (aA rfl) rfl c35 (bC (aA rfl) rfl rfl rfl) ?_
         refine tr1 rfl (bN (v := .d (.lit (.bool ((decide (r21.2.1 = r23.2.1)))))) (aA rfl) rfl c35 rfl rfl) ?_
         have h26 := Option.some.inj h26
         subst h26
         refine aF (bB rfl ⟨rfl, rfl, trivial⟩ rfl)
        ·have h26 := aS c35 h26
         refine aR rfl rfl (aA rfl) rfl (aA rfl) rfl c35 ?_
         refine aR rfl rfl (aA rfl) rfl (aA rfl) rfl c35 ?_
         refine aR rfl rfl (aA rfl) rfl (aA rfl) rfl c35 ?_
         refine tr1 rfl (bP (v := .d (.lit (.bool false))) (aA rfl) rfl c35 rfl rfl) ?_
         have h26 := Option.some.inj h26
         subst h26
         refine aF (bB rfl ⟨rfl, rfl, trivial⟩ rfl)
       ·refine tr1 rfl (aC (v := .d (.lit (.bool b25))) (aA rfl) rfl rfl) ?_
        obtain ⟨b27, h28, h⟩ := bind_some h
        refine cA 4 [] 83 b27 ?_ ?_
        ·refine bF (b25) (fun c34 => ?_) (fun c34 => ?_)
         ·have h28 := aT c34 h28
          refine aO rfl rfl (aA rfl) rfl c34 (aC (v := .d (.lit (.int .i64 r21.2.2))) (aA rfl) rfl rfl) ?_
          refine aO rfl rfl (aA rfl) rfl c34 (aC (v := .d (.lit (.int .i64 r23.2.2))) (aA rfl) rfl rfl) ?_
          refine aO rfl rfl (aA rfl) rfl c34 (bC (aA rfl) rfl rfl rfl) ?_
          refine tr1 rfl (bN (v := .d (.lit (.bool ((decide (r21.2.2 = r23.2.2)))))) (aA rfl) rfl c34 rfl rfl) ?_
          have h28 := Option.some.inj h28
          subst h28
          refine aF (bB rfl trivial rfl)
         ·have h28 := aS c34 h28
          refine aR rfl rfl (aA rfl) rfl (aA rfl) rfl c34 ?_
          refine aR rfl rfl (aA rfl) rfl (aA rfl) rfl c34 ?_
          refine aR rfl rfl (aA rfl) rfl (aA rfl) rfl c34 ?_
          refine tr1 rfl (bP (v := .d (.lit (.bool false))) (aA rfl) rfl c34 rfl rfl) ?_
          have h28 := Option.some.inj h28
          subst h28
          refine aF (bB rfl trivial rfl)
        ·refine tr1 rfl (aC (v := .d (.lit (.bool b27))) (aA rfl) rfl rfl) ?_
         obtain ⟨b29, h30, h⟩ := bind_some h
         refine cA 2 [] 86 b29 ?_ ?_
         ·refine bF (b27) (fun c31 => ?_) (fun c31 => ?_)
          ·have h30 := aT c31 h30
           obtain ⟨r32, h33, h30⟩ := bind_some h30
           refine aO rfl rfl (aA rfl) rfl c31 (cC (aA rfl) (.func _ _ Try.call16) rfl rfl (BVs.refl _ _) (tO h33) rfl) ?_
           refine tr1 rfl (bN (v := .d (.lit (.bool r32))) (aA rfl) rfl c31 rfl rfl) ?_
           have h30 := Option.some.inj h30
           subst h30
           refine aF (bB rfl trivial rfl)
          ·have h30 := aS c31 h30
           refine aR rfl rfl (aA rfl) rfl (aA rfl) rfl c31 ?_
           refine tr1 rfl (bP (v := .d (.lit (.bool false))) (aA rfl) rfl c31 rfl rfl) ?_
           have h30 := Option.some.inj h30
           subst h30
           refine aF (bB rfl trivial rfl)
         ·refine tr1 rfl (aJ (v := .d (.lit (.bool b29))) (aA rfl) rfl rfl) ?_
          refine aF ?_
          have h := Option.some.inj h
          subst h
          refine cR (cE (cM (l := [6]) ⟨rfl, trivial⟩)) ?_
          exact bM ⟨rfl, _, .one _, rfl, rfl⟩

end Go.Am
