/- The functions compute what the shallow ones say: printed by program. -/
import Derived.Test.YtaocljlhapoieaaGreatRankPointsSimP2
namespace Go.Am
open Go.Proofs
set_option maxRecDepth 100000
set_option maxHeartbeats 4000000

theorem sJ (l_0 : aS) (player_1 : Int) (week_2 : Int) {r : (List aD)} (h : jI l_0 player_1 week_2 = some r) : Fn Tryz.prog 36 [.agg (aU l_0), .d (.lit (.int .i64 player_1)), .d (.lit (.int .i64 week_2))] (.d (.sl 5 (r.map aB))) := by
 unfold jI at h
 refine Fn.of_tr Tryz.func36 rfl (rs := [.tmp 6]) Tryz.results36 Tryz.ntmps36 (Nat.le_of_ble_eq_true rfl) ?_
 refine aG ?_
 refine aE ?_
 refine bW rfl (eG (v := .agg (aU l_0)) (aA rfl) rfl rfl rfl) ?_
 rintro _ ⟨b1, rfl⟩
 refine tr1 rfl (nJ 5 (aA rfl)) ?_
 refine aF ?_
 refine aG ?_
 refine aE ?_
 refine tr1 rfl (cF (aA rfl) rfl (i := 0) rfl eA (es := (aU l_0)) rfl rfl) ?_
 refine tr1 rfl (aC (v := .d (.lit (.int .i64 player_1))) (aA rfl) rfl rfl) ?_
 refine tr1 rfl (aC (v := .d (.lit (.int .i64 week_2))) (aA rfl) rfl rfl) ?_
 obtain ⟨r2, h3, h⟩ := bind_some h
 refine tr1 rfl (jA (aA rfl) (.func _ _ Tryz.call64) rfl rfl (vA _ _ _ h3)) ?_
 refine tr1 rfl (aJ (v := .d (.sl 5 (r2.map aB))) (aA rfl) rfl rfl) ?_
 refine aF ?_
 refine aG ?_
 refine aE ?_
 refine tr1 rfl (aJ (v := .d (.lit (.int .i64 0))) (aA rfl) rfl rfl) ?_
 refine aF ?_
 refine aG ?_
 refine aG ?_
 refine aE ?_
 refine tr1 rfl (aJ (v := .d (.lit (.int .i64 0))) (aA rfl) rfl rfl) ?_
 refine aF ?_
 refine bQ ?_
 refine cI [3, 7] (fun (s4 : Int × Int) => [(8, .d (.lit (.int .i64 s4.1))), (9, .d (.lit (.int .i64 s4.2)))]) (fun (s4 : Int × Int) => [.box b1 0 (aU l_0)]) (fun (k : Nat) (s4 : Int × Int) => fK r2 l_0 k s4.1 s4.2) (fun _ => rfl) (0, 0) h (aW [0] rfl rfl (aM rfl (aM rfl (aX ⟨rfl, rfl, trivial⟩)))) ?_
 rintro k5 ⟨must_0_4, i_0_4⟩ h
 simp only [fK] at h
 refine aG ?_
 refine aG ?_
 refine aE ?_
 refine tr1 rfl (aC (v := .d (.lit (.int .i64 i_0_4))) (aA rfl) rfl rfl) ?_
 refine tr1 rfl (aC (v := .d (.sl 5 (r2.map aB))) (aA rfl) rfl rfl) ?_
 refine tr1 rfl (cW (aA rfl) rfl bP.of) ?_
 refine tr1 rfl (bB (aA rfl) rfl rfl rfl) ?_
 refine aF ?_
 refine bI rfl (fun c6 => ?_) (fun c6 => ?_)
 ·have h := aR c6 h
  refine bG ?_
  refine aG ?_
  refine bQ ?_
  refine aG ?_
  refine aE ?_
  refine tr1 rfl (aC (v := .d (.sl 5 (r2.map aB))) (aA rfl) rfl rfl) ?_
  refine tr1 rfl (aC (v := .d (.lit (.int .i64 i_0_4))) (aA rfl) rfl rfl) ?_
  obtain ⟨x7, h8, h⟩ := bind_some h
  refine tr1 rfl (bM (aA rfl) rfl rfl bP.of (bH aB h8)) ?_
  refine tr1 rfl (cA (aA rfl) rfl jP (es := [.lit (.bool x7.Must)]) rfl) ?_
  refine tr1 rfl (bY (aA rfl) rfl nF) ?_
  refine aF ?_
  refine bI rfl (fun c9 => ?_) (fun c9 => ?_)
  ·have h := aR c9 h
   refine aE ?_
   refine tr1 rfl (aC (v := .d (.lit (.int .i64 must_0_4))) (aA rfl) rfl rfl) ?_
   refine tr1 rfl (bA (aA rfl) rfl rfl rfl) ?_
   refine tr1 rfl (aJ (v := .d (.lit (.int .i64 ((w64 (must_0_4 + 1)))))) (aA rfl) rfl rfl) ?_
   refine dN ?_
   refine aE ?_
   refine tr1 rfl (aC (v := .d (.lit (.int .i64 i_0_4))) (aA rfl) rfl rfl) ?_
   refine tr1 rfl (bA (aA rfl) rfl rfl rfl) ?_
   refine tr1 rfl (aJ (v := .d (.lit (.int .i64 ((w64 (i_0_4 + 1)))))) (aA rfl) rfl rfl) ?_
   refine aF ?_
   exact ⟨(w64 (must_0_4 + 1), w64 (i_0_4 + 1)), h, aW [0] rfl rfl (aM rfl (aM rfl (aX ⟨rfl, rfl, trivial⟩)))⟩
  ·have h := aQ c9 h
   refine dH ?_
   refine aE ?_
   refine tr1 rfl (aC (v := .d (.lit (.int .i64 i_0_4))) (aA rfl) rfl rfl) ?_
   refine tr1 rfl (bA (aA rfl) rfl rfl rfl) ?_
   refine tr1 rfl (aJ (v := .d (.lit (.int .i64 ((w64 (i_0_4 + 1)))))) (aA rfl) rfl rfl) ?_
   refine aF ?_
   exact ⟨(must_0_4, w64 (i_0_4 + 1)), h, aW [0] rfl rfl (aM rfl (aM rfl (aX ⟨rfl, rfl, trivial⟩)))⟩
 ·have h := aQ c6 h
  refine cP ?_
  refine .inl ⟨rfl, ?_⟩
  simp only [lU] at h
  refine aG ?_
  refine aE ?_
  refine tr1 rfl (gK 43 5 (.inl rfl) (aA rfl)) ?_
  refine aF ?_
  refine aG ?_
  refine aG ?_
  refine aE ?_
  refine tr1 rfl (aJ (v := .d (.lit (.int .i64 0))) (aA rfl) rfl rfl) ?_
  refine aF ?_
  refine bQ ?_
  refine cI [3, 7, 8] (fun (s11 : Int × (List aD) × Value) => [(10, .d (.lit s11.2.2)), (11, .d (.lit (.int .i64 s11.1)))]) (fun (s11 : Int × (List aD) × Value) => [.box b1 0 (aU l_0), .arr s11.2.2 43 5 (s11.2.1.map aB)]) (fun (k : Nat) (s11 : Int × (List aD) × Value) => eY r2 must_0_4 l_0 k s11.1 s11.2.1) (fun _ => rfl) (0, ([] : List aD), (.slice none 0 0)) h (aW [0, 1] rfl rfl (aM rfl (aM rfl (aX ⟨rfl, rfl, rfl, trivial⟩)))) ?_
  rintro k13 ⟨i_2_11, out_2_11, w12⟩ h
  simp only [eY] at h
  refine aG ?_
  refine aG ?_
  refine aE ?_
  refine tr1 rfl (aC (v := .d (.lit (.int .i64 i_2_11))) (aA rfl) rfl rfl) ?_
  refine tr1 rfl (aC (v := .d (.sl 5 (r2.map aB))) (aA rfl) rfl rfl) ?_
  refine tr1 rfl (cW (aA rfl) rfl bP.of) ?_
  refine tr1 rfl (bB (aA rfl) rfl rfl rfl) ?_
  refine aF ?_
  refine bI rfl (fun c14 => ?_) (fun c14 => ?_)
  ·have h := aR c14 h
   refine bG ?_
   refine aG ?_
   refine bQ ?_
   refine aG ?_
   refine aE ?_
   refine tr1 rfl (aJ (v := .d (.lit (.int .i64 0))) (aA rfl) rfl rfl) ?_
   refine aF ?_
   refine aG ?_
   refine aG ?_
   refine aE ?_
   refine tr1 rfl (aJ (v := .d (.lit (.int .i64 0))) (aA rfl) rfl rfl) ?_
   refine aF ?_
   refine bQ ?_
   refine cI [3, 7, 8, 10, 11] (fun (s15 : Int × Int) => [(12, .d (.lit (.int .i64 s15.1))), (13, .d (.lit (.int .i64 s15.2)))]) (fun (s15 : Int × Int) => [.box b1 0 (aU l_0), .arr w12 43 5 (out_2_11.map aB)]) (fun (k : Nat) (s15 : Int × Int) => gB (eY r2 must_0_4 l_0 k13) r2 must_0_4 i_2_11 l_0 out_2_11 k s15.1 s15.2) (fun _ => rfl) (0, 0) h (aW [0, 1] rfl rfl (aM rfl (aM rfl (aX ⟨rfl, rfl, rfl, rfl, rfl, trivial⟩)))) ?_
   rintro k16 ⟨better_4_15, k_4_15⟩ h
   simp only [gB] at h
   refine aG ?_
   refine aG ?_
   refine aE ?_
   refine tr1 rfl (aC (v := .d (.lit (.int .i64 k_4_15))) (aA rfl) rfl rfl) ?_
   refine tr1 rfl (aC (v := .d (.sl 5 (r2.map aB))) (aA rfl) rfl rfl) ?_
   refine tr1 rfl (cW (aA rfl) rfl bP.of) ?_
   refine tr1 rfl (bB (aA rfl) rfl rfl rfl) ?_
   refine aF ?_
   refine bI rfl (fun c17 => ?_) (fun c17 => ?_)
   ·have h := aR c17 h
    refine bG ?_
    refine aG ?_
    refine bQ ?_
    refine aG ?_
    obtain ⟨x18, h19, h⟩ := bind_some h
    obtain ⟨b20, h21, h⟩ := bind_some h
    refine fA mix 37 [3, 7, 8, 10, 11, 12, 13] [(79, .d (.lit (.bool b20)))] ?_ ?_
    ·refine bF (!x18.Must) (fun c22 => ?_) (fun c22 => ?_)
     ·have h21 := aR c22 h21
      obtain ⟨x23, h24, h21⟩ := bind_some h21
      obtain ⟨x25, h26, h21⟩ := bind_some h21
      obtain ⟨b27, h28, h21⟩ := bind_some h21
      refine bF (decide (x25.Points < x23.Points)) (fun c29 => ?_) (fun c29 => ?_)
      ·have h28 := aR c29 h28
       have h28 := Option.some.inj h28
       subst h28
       have h21 := Option.some.inj h21
       subst h21
       refine ⟨[(43, 0, .d (.sl 5 (r2.map aB))), (44, 1, .d (.lit (.int .i64 k_4_15))), (45, 2, .cp [.lit (.int .i64 x18.Id), .lit (.int .i64 x18.Player), .lit (.int .i64 x18.Week), .lit (.int .i64 x18.Points), .lit (.bool x18.Must)]), (46, 3, .cp [.lit (.bool x18.Must)]), (47, 4, .d (.lit (.bool x18.Must))), (48, 5, .d (.lit (.bool (!x18.Must)))), (49, 6, .d (.lit (.bool (!x18.Must)))), (50, 7, .d (.sl 5 (r2.map aB))), (51, 8, .d (.lit (.int .i64 k_4_15))), (52, 9, .cp [.lit (.int .i64 x23.Id), .lit (.int .i64 x23.Player), .lit (.int .i64 x23.Week), .lit (.int .i64 x23.Points), .lit (.bool x23.Must)]), (53, 10, .cp [.lit (.int .i64 x23.Points)]), (54, 11, .d (.lit (.int .i64 x23.Points))), (55, 12, .d (.sl 5 (r2.map aB))), (56, 13, .d (.lit (.int .i64 i_2_11))), (57, 14, .cp [.lit (.int .i64 x25.Id), .lit (.int .i64 x25.Player), .lit (.int .i64 x25.Week), .lit (.int .i64 x25.Points), .lit (.bool x25.Must)]), (58, 15, .cp [.lit (.int .i64 x25.Points)]), (59, 16, .d (.lit (.int .i64 x25.Points))), (60, 17, .d (.lit (.bool ((decide (x25.Points < x23.Points)))))), (61, 18, .d (.lit (.bool ((decide (x25.Points < x23.Points)))))), (62, 19, .tup []), (63, 20, .tup []), (64, 21, .tup []), (65, 22, .tup []), (66, 23, .tup []), (67, 24, .tup []), (68, 25, .tup []), (69, 26, .tup []), (70, 27, .tup []), (71, 28, .tup []), (72, 29, .tup []), (73, 30, .tup []), (74, 31, .tup []), (75, 32, .tup []), (76, 33, .tup []), (77, 34, .tup []), (78, 35, .d (.lit (.bool true))), (79, 36, .d (.lit (.bool (true))))], ?_, ?_⟩
       · exact ⟨by kernel_rfl, by kernel_rfl, by kernel_rfl, by kernel_rfl, by kernel_rfl, [([], []), ([], []), ([0, 1], []), ([2], []), ([3], []), ([4], []), ([5], []), ([6], []), ([6], []), ([6, 7, 8], []), ([6, 9], []), ([6, 10], []), ([6], []), ([6], []), ([6, 12, 13], []), ([6, 14], []), ([6, 15], []), ([6, 11, 16], []), ([6, 17], []), ([18], []), ([18], []), ([18, 19, 20], []), ([18, 21], []), ([18, 22], []), ([18], []), ([18], []), ([18, 24, 25], []), ([18, 26], []), ([18, 27], []), ([18, 23, 28], []), ([18, 29], []), ([30], []), ([30], []), ([30, 31, 32], []), ([18, 30, 33], []), ([6, 18, 34], []), ([6, 35], [])], by kernel_rfl, ⟨fun S hS => aI rfl (aP rfl (aC (v := .d (.sl 5 (r2.map aB))) (aA rfl) (aH hS rfl) rfl)),
      fun S hS => aI rfl (aP rfl (aC (v := .d (.lit (.int .i64 k_4_15))) (aA rfl) (aH hS rfl) rfl)),
      fun S hS => aI rfl (aP rfl (bM (aA rfl) (aH hS rfl) (aH hS rfl) bP.of (bH aB h19))),
      fun S hS => aI rfl (aP rfl (cA (aA rfl) (aH hS rfl) jP (es := [.lit (.bool x18.Must)]) rfl)),
      fun S hS => aI rfl (aP rfl (bY (aA rfl) (aH hS rfl) nF)),
      fun S hS => aI rfl (aP rfl (eK (aA rfl) (aH hS rfl))),
      fun S hS => aI rfl (aP rfl (aC (v := .d (.lit (.bool (!x18.Must)))) (aA rfl) (aH hS rfl) rfl)),
      fun S hS => aI rfl (aZ rfl rfl (aA rfl) (aO hS rfl) c22 (aC (v := .d (.sl 5 (r2.map aB))) (aA rfl) (aH hS rfl) rfl)),
      fun S hS => aI rfl (aZ rfl rfl (aA rfl) (aO hS rfl) c22 (aC (v := .d (.lit (.int .i64 k_4_15))) (aA rfl) (aH hS rfl) rfl)),
      fun S hS => aI rfl (aZ rfl rfl (aA rfl) (aO hS rfl) c22 (bM (aA rfl) (aH hS rfl) (aH hS rfl) bP.of (bH aB h24))),
      fun S hS => aI rfl (aZ rfl rfl (aA rfl) (aO hS rfl) c22 (cA (aA rfl) (aH hS rfl) gW (es := [.lit (.int .i64 x23.Points)]) rfl)),
      fun S hS => aI rfl (aZ rfl rfl (aA rfl) (aO hS rfl) c22 (bY (aA rfl) (aH hS rfl) bE)),
      fun S hS => aI rfl (aZ rfl rfl (aA rfl) (aO hS rfl) c22 (aC (v := .d (.sl 5 (r2.map aB))) (aA rfl) (aH hS rfl) rfl)),
      fun S hS => aI rfl (aZ rfl rfl (aA rfl) (aO hS rfl) c22 (aC (v := .d (.lit (.int .i64 i_2_11))) (aA rfl) (aH hS rfl) rfl)),
      fun S hS => aI rfl (aZ rfl rfl (aA rfl) (aO hS rfl) c22 (bM (aA rfl) (aH hS rfl) (aH hS rfl) bP.of (bH aB h26))),
      fun S hS => aI rfl (aZ rfl rfl (aA rfl) (aO hS rfl) c22 (cA (aA rfl) (aH hS rfl) gW (es := [.lit (.int .i64 x25.Points)]) rfl)),
      fun S hS => aI rfl (aZ rfl rfl (aA rfl) (aO hS rfl) c22 (bY (aA rfl) (aH hS rfl) bE)),
      fun S hS => aI rfl (aZ rfl rfl (aA rfl) (aO hS rfl) c22 (bB (aA rfl) (aH hS rfl) (aH hS rfl) rfl)),
      fun S hS => aI rfl (aZ rfl rfl (aA rfl) (aO hS rfl) c22 (aC (v := .d (.lit (.bool ((decide (x25.Points < x23.Points)))))) (aA rfl) (aH hS rfl) rfl)),
      fun S hS => aI rfl (bD rfl rfl (aA rfl) rfl (aA rfl) (aO hS rfl) c29),
      fun S hS => aI rfl (bD rfl rfl (aA rfl) rfl (aA rfl) (aO hS rfl) c29),
      fun S hS => aI rfl (bD rfl rfl (aA rfl) rfl (aA rfl) (aO hS rfl) c29),
      fun S hS => aI rfl (bD rfl rfl (aA rfl) rfl (aA rfl) (aO hS rfl) c29),
      fun S hS => aI rfl (bD rfl rfl (aA rfl) rfl (aA rfl) (aO hS rfl) c29),
      fun S hS => aI rfl (bD rfl rfl (aA rfl) rfl (aA rfl) (aO hS rfl) c29),
      fun S hS => aI rfl (bD rfl rfl (aA rfl) rfl (aA rfl) (aO hS rfl) c29),
      fun S hS => aI rfl (bD rfl rfl (aA rfl) rfl (aA rfl) (aO hS rfl) c29),
      fun S hS => aI rfl (bD rfl rfl (aA rfl) rfl (aA rfl) (aO hS rfl) c29),
      fun S hS => aI rfl (bD rfl rfl (aA rfl) rfl (aA rfl) (aO hS rfl) c29),
      fun S hS => aI rfl (bD rfl rfl (aA rfl) rfl (aA rfl) (aO hS rfl) c29),
      fun S hS => aI rfl (bD rfl rfl (aA rfl) rfl (aA rfl) (aO hS rfl) c29),
      fun S hS => aI rfl (iN rfl rfl (aA rfl) rfl (aA rfl) (aO hS rfl)),
      fun S hS => aI rfl (iN rfl rfl (aA rfl) rfl (aA rfl) (aO hS rfl)),
      fun S hS => aI rfl (iN rfl rfl (aA rfl) rfl (aA rfl) (aO hS rfl)),
      fun S hS => aI rfl (bD rfl rfl (aA rfl) rfl (aA rfl) (aO hS rfl) c29),
      fun S hS => aI rfl (aZ rfl rfl (aA rfl) (aO hS rfl) c22 (bN (v := .d (.lit (.bool true))) (aA rfl) (aH hS rfl) c29 rfl rfl)),
      fun S hS => aI rfl (aP rfl (bN (v := .d (.lit (.bool (true)))) (aA rfl) (aH hS rfl) c22 (aH hS rfl) rfl)), trivial⟩⟩
       · exact dJ (aM rfl (aX ⟨rfl, rfl, rfl, rfl, rfl, rfl, rfl, trivial⟩))
      ·have h28 := aQ c29 h28
       obtain ⟨x30, h31, h28⟩ := bind_some h28
       obtain ⟨x32, h33, h28⟩ := bind_some h28
       obtain ⟨b34, h35, h28⟩ := bind_some h28
       refine bF (decide (x30.Points = x32.Points)) (fun c36 => ?_) (fun c36 => ?_)
       ·have h35 := aR c36 h35
        have h35 := Option.some.inj h35
        subst h35
        have h28 := Option.some.inj h28
        subst h28
        have h21 := Option.some.inj h21
        subst h21
        refine ⟨[(43, 0, .d (.sl 5 (r2.map aB))), (44, 1, .d (.lit (.int .i64 k_4_15))), (45, 2, .cp [.lit (.int .i64 x18.Id), .lit (.int .i64 x18.Player), .lit (.int .i64 x18.Week), .lit (.int .i64 x18.Points), .lit (.bool x18.Must)]), (46, 3, .cp [.lit (.bool x18.Must)]), (47, 4, .d (.lit (.bool x18.Must))), (48, 5, .d (.lit (.bool (!x18.Must)))), (49, 6, .d (.lit (.bool (!x18.Must)))), (50, 7, .d (.sl 5 (r2.map aB))), (51, 8, .d (.lit (.int .i64 k_4_15))), (52, 9, .cp [.lit (.int .i64 x23.Id), .lit (.int .i64 x23.Player), .lit (.int .i64 x23.Week), .lit (.int .i64 x23.Points), .lit (.bool x23.Must)]), (53, 10, .cp [.lit (.int .i64 x23.Points)]), (54, 11, .d (.lit (.int .i64 x23.Points))), (55, 12, .d (.sl 5 (r2.map aB))), (56, 13, .d (.lit (.int .i64 i_2_11))), (57, 14, .cp [.lit (.int .i64 x25.Id), .lit (.int .i64 x25.Player), .lit (.int .i64 x25.Week), .lit (.int .i64 x25.Points), .lit (.bool x25.Must)]), (58, 15, .cp [.lit (.int .i64 x25.Points)]), (59, 16, .d (.lit (.int .i64 x25.Points))), (60, 17, .d (.lit (.bool ((decide (x25.Points < x23.Points)))))), (61, 18, .d (.lit (.bool ((decide (x25.Points < x23.Points)))))), (62, 19, .d (.sl 5 (r2.map aB))), (63, 20, .d (.lit (.int .i64 k_4_15))), (64, 21, .cp [.lit (.int .i64 x30.Id), .lit (.int .i64 x30.Player), .lit (.int .i64 x30.Week), .lit (.int .i64 x30.Points), .lit (.bool x30.Must)]), (65, 22, .cp [.lit (.int .i64 x30.Points)]), (66, 23, .d (.lit (.int .i64 x30.Points))), (67, 24, .d (.sl 5 (r2.map aB))), (68, 25, .d (.lit (.int .i64 i_2_11))), (69, 26, .cp [.lit (.int .i64 x32.Id), .lit (.int .i64 x32.Player), .lit (.int .i64 x32.Week), .lit (.int .i64 x32.Points), .lit (.bool x32.Must)]), (70, 27, .cp [.lit (.int .i64 x32.Points)]), (71, 28, .d (.lit (.int .i64 x32.Points))), (72, 29, .d (.lit (.bool ((decide (x30.Points = x32.Points)))))), (73, 30, .d (.lit (.bool ((decide (x30.Points = x32.Points)))))), (74, 31, .d (.lit (.int .i64 k_4_15))), (75, 32, .d (.lit (.int .i64 i_2_11))), (76, 33, .d (.lit (.bool ((decide (k_4_15 < i_2_11)))))), (77, 34, .d (.lit (.bool ((decide (k_4_15 < i_2_11)))))), (78, 35, .d (.lit (.bool (decide (k_4_15 < i_2_11))))), (79, 36, .d (.lit (.bool (decide (k_4_15 < i_2_11)))))], ?_, ?_⟩
        · exact ⟨by kernel_rfl, by kernel_rfl, by kernel_rfl, by kernel_rfl, by kernel_rfl, [([], []), ([], []), ([0, 1], []), ([2], []), ([3], []), ([4], []), ([5], []), ([6], []), ([6], []), ([6, 7, 8], []), ([6, 9], []), ([6, 10], []), ([6], []), ([6], []), ([6, 12, 13], []), ([6, 14], []), ([6, 15], []), ([6, 11, 16], []), ([6, 17], []), ([18], []), ([18], []), ([18, 19, 20], []), ([18, 21], []), ([18, 22], []), ([18], []), ([18], []), ([18, 24, 25], []), ([18, 26], []), ([18, 27], []), ([18, 23, 28], []), ([18, 29], []), ([30], []), ([30], []), ([30, 31, 32], []), ([18, 30, 33], []), ([6, 18, 34], []), ([6, 35], [])], by kernel_rfl, ⟨fun S hS => aI rfl (aP rfl (aC (v := .d (.sl 5 (r2.map aB))) (aA rfl) (aH hS rfl) rfl)),
      fun S hS => aI rfl (aP rfl (aC (v := .d (.lit (.int .i64 k_4_15))) (aA rfl) (aH hS rfl) rfl)),
      fun S hS => aI rfl (aP rfl (bM (aA rfl) (aH hS rfl) (aH hS rfl) bP.of (bH aB h19))),
      fun S hS => aI rfl (aP rfl (cA (aA rfl) (aH hS rfl) jP (es := [.lit (.bool x18.Must)]) rfl)),
      fun S hS => aI rfl (aP rfl (bY (aA rfl) (aH hS rfl) nF)),
      fun S hS => aI rfl (aP rfl (eK (aA rfl) (aH hS rfl))),
      fun S hS => aI rfl (aP rfl (aC (v := .d (.lit (.bool (!x18.Must)))) (aA rfl) (aH hS rfl) rfl)),
      fun S hS => aI rfl (aZ rfl rfl (aA rfl) (aO hS rfl) c22 (aC (v := .d (.sl 5 (r2.map aB))) (aA rfl) (aH hS rfl) rfl)),
      fun S hS => aI rfl (aZ rfl rfl (aA rfl) (aO hS rfl) c22 (aC (v := .d (.lit (.int .i64 k_4_15))) (aA rfl) (aH hS rfl) rfl)),
      fun S hS => aI rfl (aZ rfl rfl (aA rfl) (aO hS rfl) c22 (bM (aA rfl) (aH hS rfl) (aH hS rfl) bP.of (bH aB h24))),
      fun S hS => aI rfl (aZ rfl rfl (aA rfl) (aO hS rfl) c22 (cA (aA rfl) (aH hS rfl) gW (es := [.lit (.int .i64 x23.Points)]) rfl)),
      fun S hS => aI rfl (aZ rfl rfl (aA rfl) (aO hS rfl) c22 (bY (aA rfl) (aH hS rfl) bE)),
      fun S hS => aI rfl (aZ rfl rfl (aA rfl) (aO hS rfl) c22 (aC (v := .d (.sl 5 (r2.map aB))) (aA rfl) (aH hS rfl) rfl)),
      fun S hS => aI rfl (aZ rfl rfl (aA rfl) (aO hS rfl) c22 (aC (v := .d (.lit (.int .i64 i_2_11))) (aA rfl) (aH hS rfl) rfl)),
      fun S hS => aI rfl (aZ rfl rfl (aA rfl) (aO hS rfl) c22 (bM (aA rfl) (aH hS rfl) (aH hS rfl) bP.of (bH aB h26))),
      fun S hS => aI rfl (aZ rfl rfl (aA rfl) (aO hS rfl) c22 (cA (aA rfl) (aH hS rfl) gW (es := [.lit (.int .i64 x25.Points)]) rfl)),
      fun S hS => aI rfl (aZ rfl rfl (aA rfl) (aO hS rfl) c22 (bY (aA rfl) (aH hS rfl) bE)),
      fun S hS => aI rfl (aZ rfl rfl (aA rfl) (aO hS rfl) c22 (bB (aA rfl) (aH hS rfl) (aH hS rfl) rfl)),
      fun S hS => aI rfl (aZ rfl rfl (aA rfl) (aO hS rfl) c22 (aC (v := .d (.lit (.bool ((decide (x25.Points < x23.Points)))))) (aA rfl) (aH hS rfl) rfl)),
      fun S hS => aI rfl (aZ rfl rfl (aA rfl) (aO hS rfl) c29 (aC (v := .d (.sl 5 (r2.map aB))) (aA rfl) (aH hS rfl) rfl)),
      fun S hS => aI rfl (aZ rfl rfl (aA rfl) (aO hS rfl) c29 (aC (v := .d (.lit (.int .i64 k_4_15))) (aA rfl) (aH hS rfl) rfl)),
      fun S hS => aI rfl (aZ rfl rfl (aA rfl) (aO hS rfl) c29 (bM (aA rfl) (aH hS rfl) (aH hS rfl) bP.of (bH aB h31))),
      fun S hS => aI rfl (aZ rfl rfl (aA rfl) (aO hS rfl) c29 (cA (aA rfl) (aH hS rfl) gW (es := [.lit (.int .i64 x30.Points)]) rfl)),
      fun S hS => aI rfl (aZ rfl rfl (aA rfl) (aO hS rfl) c29 (bY (aA rfl) (aH hS rfl) bE)),
      fun S hS => aI rfl (aZ rfl rfl (aA rfl) (aO hS rfl) c29 (aC (v := .d (.sl 5 (r2.map aB))) (aA rfl) (aH hS rfl) rfl)),
      fun S hS => aI rfl (aZ rfl rfl (aA rfl) (aO hS rfl) c29 (aC (v := .d (.lit (.int .i64 i_2_11))) (aA rfl) (aH hS rfl) rfl)),
      fun S hS => aI rfl (aZ rfl rfl (aA rfl) (aO hS rfl) c29 (bM (aA rfl) (aH hS rfl) (aH hS rfl) bP.of (bH aB h33))),
      fun S hS => aI rfl (aZ rfl rfl (aA rfl) (aO hS rfl) c29 (cA (aA rfl) (aH hS rfl) gW (es := [.lit (.int .i64 x32.Points)]) rfl)),
      fun S hS => aI rfl (aZ rfl rfl (aA rfl) (aO hS rfl) c29 (bY (aA rfl) (aH hS rfl) bE)),
      fun S hS => aI rfl (aZ rfl rfl (aA rfl) (aO hS rfl) c29 (bB (aA rfl) (aH hS rfl) (aH hS rfl) rfl)),
      fun S hS => aI rfl (aZ rfl rfl (aA rfl) (aO hS rfl) c29 (aC (v := .d (.lit (.bool ((decide (x30.Points = x32.Points)))))) (aA rfl) (aH hS rfl) rfl)),
      fun S hS => aI rfl (aZ rfl rfl (aA rfl) (aO hS rfl) c36 (aC (v := .d (.lit (.int .i64 k_4_15))) (aA rfl) (aH hS rfl) rfl)),
      fun S hS => aI rfl (aZ rfl rfl (aA rfl) (aO hS rfl) c36 (aC (v := .d (.lit (.int .i64 i_2_11))) (aA rfl) (aH hS rfl) rfl)),
      fun S hS => aI rfl (aZ rfl rfl (aA rfl) (aO hS rfl) c36 (bB (aA rfl) (aH hS rfl) (aH hS rfl) rfl)),
      fun S hS => aI rfl (aZ rfl rfl (aA rfl) (aO hS rfl) c29 (bN (v := .d (.lit (.bool ((decide (k_4_15 < i_2_11)))))) (aA rfl) (aH hS rfl) c36 (aH hS rfl) rfl)),
      fun S hS => aI rfl (aZ rfl rfl (aA rfl) (aO hS rfl) c22 (bO (v := .d (.lit (.bool (decide (k_4_15 < i_2_11))))) (aA rfl) (aH hS rfl) c29 (aH hS rfl) rfl)),
      fun S hS => aI rfl (aP rfl (bN (v := .d (.lit (.bool (decide (k_4_15 < i_2_11))))) (aA rfl) (aH hS rfl) c22 (aH hS rfl) rfl)), trivial⟩⟩
        · exact dJ (aM rfl (aX ⟨rfl, rfl, rfl, rfl, rfl, rfl, rfl, trivial⟩))
       ·have h35 := aQ c36 h35
        have h35 := Option.some.inj h35
        subst h35
        have h28 := Option.some.inj h28
        subst h28
        have h21 := Option.some.inj h21
        subst h21
        refine ⟨[(43, 0, .d (.sl 5 (r2.map aB))), (44, 1, .d (.lit (.int .i64 k_4_15))), (45, 2, .cp [.lit (.int .i64 x18.Id), .lit (.int .i64 x18.Player), .lit (.int .i64 x18.Week), .lit (.int .i64 x18.Points), .lit (.bool x18.Must)]), (46, 3, .cp [.lit (.bool x18.Must)]), (47, 4, .d (.lit (.bool x18.Must))), (48, 5, .d (.lit (.bool (!x18.Must)))), (49, 6, .d (.lit (.bool (!x18.Must)))), (50, 7, .d (.sl 5 (r2.map aB))), (51, 8, .d (.lit (.int .i64 k_4_15))), (52, 9, .cp [.lit (.int .i64 x23.Id), .lit (.int .i64 x23.Player), .lit (.int .i64 x23.Week), .lit (.int .i64 x23.Points), .lit (.bool x23.Must)]), (53, 10, .cp [.lit (.int .i64 x23.Points)]), (54, 11, .d (.lit (.int .i64 x23.Points))), (55, 12, .d (.sl 5 (r2.map aB))), (56, 13, .d (.lit (.int .i64 i_2_11))), (57, 14, .cp [.lit (.int .i64 x25.Id), .lit (.int .i64 x25.Player), .lit (.int .i64 x25.Week), .lit (.int .i64 x25.Points), .lit (.bool x25.Must)]), (58, 15, .cp [.lit (.int .i64 x25.Points)]), (59, 16, .d (.lit (.int .i64 x25.Points))), (60, 17, .d (.lit (.bool ((decide (x25.Points < x23.Points)))))), (61, 18, .d (.lit (.bool ((decide (x25.Points < x23.Points)))))), (62, 19, .d (.sl 5 (r2.map aB))), (63, 20, .d (.lit (.int .i64 k_4_15))), (64, 21, .cp [.lit (.int .i64 x30.Id), .lit (.int .i64 x30.Player), .lit (.int .i64 x30.Week), .lit (.int .i64 x30.Points), .lit (.bool x30.Must)]), (65, 22, .cp [.lit (.int .i64 x30.Points)]), (66, 23, .d (.lit (.int .i64 x30.Points))), (67, 24, .d (.sl 5 (r2.map aB))), (68, 25, .d (.lit (.int .i64 i_2_11))), (69, 26, .cp [.lit (.int .i64 x32.Id), .lit (.int .i64 x32.Player), .lit (.int .i64 x32.Week), .lit (.int .i64 x32.Points), .lit (.bool x32.Must)]), (70, 27, .cp [.lit (.int .i64 x32.Points)]), (71, 28, .d (.lit (.int .i64 x32.Points))), (72, 29, .d (.lit (.bool ((decide (x30.Points = x32.Points)))))), (73, 30, .d (.lit (.bool ((decide (x30.Points = x32.Points)))))), (74, 31, .tup []), (75, 32, .tup []), (76, 33, .tup []), (77, 34, .d (.lit (.bool false))), (78, 35, .d (.lit (.bool (false)))), (79, 36, .d (.lit (.bool (false))))], ?_, ?_⟩
        · exact ⟨by kernel_rfl, by kernel_rfl, by kernel_rfl, by kernel_rfl, by kernel_rfl, [([], []), ([], []), ([0, 1], []), ([2], []), ([3], []), ([4], []), ([5], []), ([6], []), ([6], []), ([6, 7, 8], []), ([6, 9], []), ([6, 10], []), ([6], []), ([6], []), ([6, 12, 13], []), ([6, 14], []), ([6, 15], []), ([6, 11, 16], []), ([6, 17], []), ([18], []), ([18], []), ([18, 19, 20], []), ([18, 21], []), ([18, 22], []), ([18], []), ([18], []), ([18, 24, 25], []), ([18, 26], []), ([18, 27], []), ([18, 23, 28], []), ([18, 29], []), ([30], []), ([30], []), ([30, 31, 32], []), ([18, 30, 33], []), ([6, 18, 34], []), ([6, 35], [])], by kernel_rfl, ⟨fun S hS => aI rfl (aP rfl (aC (v := .d (.sl 5 (r2.map aB))) (aA rfl) (aH hS rfl) rfl)),
      fun S hS => aI rfl (aP rfl (aC (v := .d (.lit (.int .i64 k_4_15))) (aA rfl) (aH hS rfl) rfl)),
      fun S hS => aI rfl (aP rfl (bM (aA rfl) (aH hS rfl) (aH hS rfl) bP.of (bH aB h19))),
      fun S hS => aI rfl (aP rfl (cA (aA rfl) (aH hS rfl) jP (es := [.lit (.bool x18.Must)]) rfl)),
      fun S hS => aI rfl (aP rfl (bY (aA rfl) (aH hS rfl) nF)),
      fun S hS => aI rfl (aP rfl (eK (aA rfl) (aH hS rfl))),
      fun S hS => aI rfl (aP rfl (aC (v := .d (.lit (.bool (!x18.Must)))) (aA rfl) (aH hS rfl) rfl)),
      fun S hS => aI rfl (aZ rfl rfl (aA rfl) (aO hS rfl) c22 (aC (v := .d (.sl 5 (r2.map aB))) (aA rfl) (aH hS rfl) rfl)),
      fun S hS => aI rfl (aZ rfl rfl (aA rfl) (aO hS rfl) c22 (aC (v := .d (.lit (.int .i64 k_4_15))) (aA rfl) (aH hS rfl) rfl)),
      fun S hS => aI rfl (aZ rfl rfl (aA rfl) (aO hS rfl) c22 (bM (aA rfl) (aH hS rfl) (aH hS rfl) bP.of (bH aB h24))),
      fun S hS => aI rfl (aZ rfl rfl (aA rfl) (aO hS rfl) c22 (cA (aA rfl) (aH hS rfl) gW (es := [.lit (.int .i64 x23.Points)]) rfl)),
      fun S hS => aI rfl (aZ rfl rfl (aA rfl) (aO hS rfl) c22 (bY (aA rfl) (aH hS rfl) bE)),
      fun S hS => aI rfl (aZ rfl rfl (aA rfl) (aO hS rfl) c22 (aC (v := .d (.sl 5 (r2.map aB))) (aA rfl) (aH hS rfl) rfl)),
      fun S hS => aI rfl (aZ rfl rfl (aA rfl) (aO hS rfl) c22 (aC (v := .d (.lit (.int .i64 i_2_11))) (aA rfl) (aH hS rfl) rfl)),
      fun S hS => aI rfl (aZ rfl rfl (aA rfl) (aO hS rfl) c22 (bM (aA rfl) (aH hS rfl) (aH hS rfl) bP.of (bH aB h26))),
      fun S hS => aI rfl (aZ rfl rfl (aA rfl) (aO hS rfl) c22 (cA (aA rfl) (aH hS rfl) gW (es := [.lit (.int .i64 x25.Points)]) rfl)),
      fun S hS => aI rfl (aZ rfl rfl (aA rfl) (aO hS rfl) c22 (bY (aA rfl) (aH hS rfl) bE)),
      fun S hS => aI rfl (aZ rfl rfl (aA rfl) (aO hS rfl) c22 (bB (aA rfl) (aH hS rfl) (aH hS rfl) rfl)),
      fun S hS => aI rfl (aZ rfl rfl (aA rfl) (aO hS rfl) c22 (aC (v := .d (.lit (.bool ((decide (x25.Points < x23.Points)))))) (aA rfl) (aH hS rfl) rfl)),
      fun S hS => aI rfl (aZ rfl rfl (aA rfl) (aO hS rfl) c29 (aC (v := .d (.sl 5 (r2.map aB))) (aA rfl) (aH hS rfl) rfl)),
      fun S hS => aI rfl (aZ rfl rfl (aA rfl) (aO hS rfl) c29 (aC (v := .d (.lit (.int .i64 k_4_15))) (aA rfl) (aH hS rfl) rfl)),
      fun S hS => aI rfl (aZ rfl rfl (aA rfl) (aO hS rfl) c29 (bM (aA rfl) (aH hS rfl) (aH hS rfl) bP.of (bH aB h31))),
      fun S hS => aI rfl (aZ rfl rfl (aA rfl) (aO hS rfl) c29 (cA (aA rfl) (aH hS rfl) gW (es := [.lit (.int .i64 x30.Points)]) rfl)),
      fun S hS => aI rfl (aZ rfl rfl (aA rfl) (aO hS rfl) c29 (bY (aA rfl) (aH hS rfl) bE)),
      fun S hS => aI rfl (aZ rfl rfl (aA rfl) (aO hS rfl) c29 (aC (v := .d (.sl 5 (r2.map aB))) (aA rfl) (aH hS rfl) rfl)),
      fun S hS => aI rfl (aZ rfl rfl (aA rfl) (aO hS rfl) c29 (aC (v := .d (.lit (.int .i64 i_2_11))) (aA rfl) (aH hS rfl) rfl)),
      fun S hS => aI rfl (aZ rfl rfl (aA rfl) (aO hS rfl) c29 (bM (aA rfl) (aH hS rfl) (aH hS rfl) bP.of (bH aB h33))),
      fun S hS => aI rfl (aZ rfl rfl (aA rfl) (aO hS rfl) c29 (cA (aA rfl) (aH hS rfl) gW (es := [.lit (.int .i64 x32.Points)]) rfl)),
      fun S hS => aI rfl (aZ rfl rfl (aA rfl) (aO hS rfl) c29 (bY (aA rfl) (aH hS rfl) bE)),
      fun S hS => aI rfl (aZ rfl rfl (aA rfl) (aO hS rfl) c29 (bB (aA rfl) (aH hS rfl) (aH hS rfl) rfl)),
      fun S hS => aI rfl (aZ rfl rfl (aA rfl) (aO hS rfl) c29 (aC (v := .d (.lit (.bool ((decide (x30.Points = x32.Points)))))) (aA rfl) (aH hS rfl) rfl)),
      fun S hS => aI rfl (bD rfl rfl (aA rfl) rfl (aA rfl) (aO hS rfl) c36),
      fun S hS => aI rfl (bD rfl rfl (aA rfl) rfl (aA rfl) (aO hS rfl) c36),
      fun S hS => aI rfl (bD rfl rfl (aA rfl) rfl (aA rfl) (aO hS rfl) c36),
      fun S hS => aI rfl (aZ rfl rfl (aA rfl) (aO hS rfl) c29 (bO (v := .d (.lit (.bool false))) (aA rfl) (aH hS rfl) c36 rfl rfl)),
      fun S hS => aI rfl (aZ rfl rfl (aA rfl) (aO hS rfl) c22 (bO (v := .d (.lit (.bool (false)))) (aA rfl) (aH hS rfl) c29 (aH hS rfl) rfl)),
      fun S hS => aI rfl (aP rfl (bN (v := .d (.lit (.bool (false)))) (aA rfl) (aH hS rfl) c22 (aH hS rfl) rfl)), trivial⟩⟩
        · exact dJ (aM rfl (aX ⟨rfl, rfl, rfl, rfl, rfl, rfl, rfl, trivial⟩))
     ·have h21 := aQ c22 h21
      have h21 := Option.some.inj h21
      subst h21
      refine ⟨[(43, 0, .d (.sl 5 (r2.map aB))), (44, 1, .d (.lit (.int .i64 k_4_15))), (45, 2, .cp [.lit (.int .i64 x18.Id), .lit (.int .i64 x18.Player), .lit (.int .i64 x18.Week), .lit (.int .i64 x18.Points), .lit (.bool x18.Must)]), (46, 3, .cp [.lit (.bool x18.Must)]), (47, 4, .d (.lit (.bool x18.Must))), (48, 5, .d (.lit (.bool (!x18.Must)))), (49, 6, .d (.lit (.bool (!x18.Must)))), (50, 7, .tup []), (51, 8, .tup []), (52, 9, .tup []), (53, 10, .tup []), (54, 11, .tup []), (55, 12, .tup []), (56, 13, .tup []), (57, 14, .tup []), (58, 15, .tup []), (59, 16, .tup []), (60, 17, .tup []), (61, 18, .tup []), (62, 19, .tup []), (63, 20, .tup []), (64, 21, .tup []), (65, 22, .tup []), (66, 23, .tup []), (67, 24, .tup []), (68, 25, .tup []), (69, 26, .tup []), (70, 27, .tup []), (71, 28, .tup []), (72, 29, .tup []), (73, 30, .tup []), (74, 31, .tup []), (75, 32, .tup []), (76, 33, .tup []), (77, 34, .tup []), (78, 35, .tup []), (79, 36, .d (.lit (.bool false)))], ?_, ?_⟩
      · exact ⟨by kernel_rfl, by kernel_rfl, by kernel_rfl, by kernel_rfl, by kernel_rfl, [([], []), ([], []), ([0, 1], []), ([2], []), ([3], []), ([4], []), ([5], []), ([6], []), ([6], []), ([6, 7, 8], []), ([6, 9], []), ([6, 10], []), ([6], []), ([6], []), ([6, 12, 13], []), ([6, 14], []), ([6, 15], []), ([6, 11, 16], []), ([6, 17], []), ([18], []), ([18], []), ([18, 19, 20], []), ([18, 21], []), ([18, 22], []), ([18], []), ([18], []), ([18, 24, 25], []), ([18, 26], []), ([18, 27], []), ([18, 23, 28], []), ([18, 29], []), ([30], []), ([30], []), ([30, 31, 32], []), ([18, 30, 33], []), ([6, 18, 34], []), ([6, 35], [])], by kernel_rfl, ⟨fun S hS => aI rfl (aP rfl (aC (v := .d (.sl 5 (r2.map aB))) (aA rfl) (aH hS rfl) rfl)),
      fun S hS => aI rfl (aP rfl (aC (v := .d (.lit (.int .i64 k_4_15))) (aA rfl) (aH hS rfl) rfl)),
      fun S hS => aI rfl (aP rfl (bM (aA rfl) (aH hS rfl) (aH hS rfl) bP.of (bH aB h19))),
      fun S hS => aI rfl (aP rfl (cA (aA rfl) (aH hS rfl) jP (es := [.lit (.bool x18.Must)]) rfl)),
      fun S hS => aI rfl (aP rfl (bY (aA rfl) (aH hS rfl) nF)),
      fun S hS => aI rfl (aP rfl (eK (aA rfl) (aH hS rfl))),
      fun S hS => aI rfl (aP rfl (aC (v := .d (.lit (.bool (!x18.Must)))) (aA rfl) (aH hS rfl) rfl)),
      fun S hS => aI rfl (bD rfl rfl (aA rfl) rfl (aA rfl) (aO hS rfl) c22),
      fun S hS => aI rfl (bD rfl rfl (aA rfl) rfl (aA rfl) (aO hS rfl) c22),
      fun S hS => aI rfl (bD rfl rfl (aA rfl) rfl (aA rfl) (aO hS rfl) c22),
      fun S hS => aI rfl (bD rfl rfl (aA rfl) rfl (aA rfl) (aO hS rfl) c22),
      fun S hS => aI rfl (bD rfl rfl (aA rfl) rfl (aA rfl) (aO hS rfl) c22),
      fun S hS => aI rfl (bD rfl rfl (aA rfl) rfl (aA rfl) (aO hS rfl) c22),
      fun S hS => aI rfl (bD rfl rfl (aA rfl) rfl (aA rfl) (aO hS rfl) c22),
      fun S hS => aI rfl (bD rfl rfl (aA rfl) rfl (aA rfl) (aO hS rfl) c22),
      fun S hS => aI rfl (bD rfl rfl (aA rfl) rfl (aA rfl) (aO hS rfl) c22),
      fun S hS => aI rfl (bD rfl rfl (aA rfl) rfl (aA rfl) (aO hS rfl) c22),
      fun S hS => aI rfl (bD rfl rfl (aA rfl) rfl (aA rfl) (aO hS rfl) c22),
      fun S hS => aI rfl (bD rfl rfl (aA rfl) rfl (aA rfl) (aO hS rfl) c22),
      fun S hS => aI rfl (iN rfl rfl (aA rfl) rfl (aA rfl) (aO hS rfl)),
      fun S hS => aI rfl (iN rfl rfl (aA rfl) rfl (aA rfl) (aO hS rfl)),
      fun S hS => aI rfl (iN rfl rfl (aA rfl) rfl (aA rfl) (aO hS rfl)),
      fun S hS => aI rfl (iN rfl rfl (aA rfl) rfl (aA rfl) (aO hS rfl)),
      fun S hS => aI rfl (iN rfl rfl (aA rfl) rfl (aA rfl) (aO hS rfl)),
      fun S hS => aI rfl (iN rfl rfl (aA rfl) rfl (aA rfl) (aO hS rfl)),
      fun S hS => aI rfl (iN rfl rfl (aA rfl) rfl (aA rfl) (aO hS rfl)),
      fun S hS => aI rfl (iN rfl rfl (aA rfl) rfl (aA rfl) (aO hS rfl)),
      fun S hS => aI rfl (iN rfl rfl (aA rfl) rfl (aA rfl) (aO hS rfl)),
      fun S hS => aI rfl (iN rfl rfl (aA rfl) rfl (aA rfl) (aO hS rfl)),
      fun S hS => aI rfl (iN rfl rfl (aA rfl) rfl (aA rfl) (aO hS rfl)),
      fun S hS => aI rfl (iN rfl rfl (aA rfl) rfl (aA rfl) (aO hS rfl)),
      fun S hS => aI rfl (iN rfl rfl (aA rfl) rfl (aA rfl) (aO hS rfl)),
      fun S hS => aI rfl (iN rfl rfl (aA rfl) rfl (aA rfl) (aO hS rfl)),
      fun S hS => aI rfl (iN rfl rfl (aA rfl) rfl (aA rfl) (aO hS rfl)),
      fun S hS => aI rfl (iN rfl rfl (aA rfl) rfl (aA rfl) (aO hS rfl)),
      fun S hS => aI rfl (bD rfl rfl (aA rfl) rfl (aA rfl) (aO hS rfl) c22),
      fun S hS => aI rfl (aP rfl (bO (v := .d (.lit (.bool false))) (aA rfl) (aH hS rfl) c22 rfl rfl)), trivial⟩⟩
      · exact dJ (aM rfl (aX ⟨rfl, rfl, rfl, rfl, rfl, rfl, rfl, trivial⟩))
    ·refine aF ?_
     refine bI rfl (fun c37 => ?_) (fun c37 => ?_)
     ·have h := aR c37 h
      refine aE ?_
      refine tr1 rfl (aC (v := .d (.lit (.int .i64 better_4_15))) (aA rfl) rfl rfl) ?_
      refine tr1 rfl (bA (aA rfl) rfl rfl rfl) ?_
      refine tr1 rfl (aJ (v := .d (.lit (.int .i64 ((w64 (better_4_15 + 1)))))) (aA rfl) rfl rfl) ?_
      refine dN ?_
      refine aE ?_
      refine tr1 rfl (aC (v := .d (.lit (.int .i64 k_4_15))) (aA rfl) rfl rfl) ?_
      refine tr1 rfl (bA (aA rfl) rfl rfl rfl) ?_
      refine tr1 rfl (aJ (v := .d (.lit (.int .i64 ((w64 (k_4_15 + 1)))))) (aA rfl) rfl rfl) ?_
      refine aF ?_
      exact ⟨(w64 (better_4_15 + 1), w64 (k_4_15 + 1)), h, aW [0, 1] rfl rfl (aM rfl (aM rfl (aX ⟨rfl, rfl, rfl, rfl, rfl, trivial⟩)))⟩
     ·have h := aQ c37 h
      refine dH ?_
      refine aE ?_
      refine tr1 rfl (aC (v := .d (.lit (.int .i64 k_4_15))) (aA rfl) rfl rfl) ?_
      refine tr1 rfl (bA (aA rfl) rfl rfl rfl) ?_
      refine tr1 rfl (aJ (v := .d (.lit (.int .i64 ((w64 (k_4_15 + 1)))))) (aA rfl) rfl rfl) ?_
      refine aF ?_
      exact ⟨(better_4_15, w64 (k_4_15 + 1)), h, aW [0, 1] rfl rfl (aM rfl (aM rfl (aX ⟨rfl, rfl, rfl, rfl, rfl, trivial⟩)))⟩
   ·have h := aQ c17 h
    refine cP ?_
    refine .inl ⟨rfl, ?_⟩
    simp only [lV] at h
    refine aG ?_
    refine aE ?_
    refine tr1 rfl (aC (v := .d (.sl 5 (r2.map aB))) (aA rfl) rfl rfl) ?_
    refine tr1 rfl (aC (v := .d (.lit (.int .i64 i_2_11))) (aA rfl) rfl rfl) ?_
    obtain ⟨x38, h39, h⟩ := bind_some h
    refine tr1 rfl (bM (aA rfl) rfl rfl bP.of (bH aB h39)) ?_
    refine tr1 rfl (cA (aA rfl) rfl jP (es := [.lit (.bool x38.Must)]) rfl) ?_
    refine tr1 rfl (bY (aA rfl) rfl nF) ?_
    refine tr1 rfl (aC (v := .d (.lit (.bool x38.Must))) (aA rfl) rfl rfl) ?_
    obtain ⟨b40, h41, h⟩ := bind_some h
    refine bZ 7 [3, 7, 8, 10, 11] 94 b40 ?_ ?_
    ·refine bF (x38.Must) (fun c48 => ?_) (fun c48 => ?_)
     ·have h41 := aR c48 h41
      refine aN rfl rfl (aA rfl) rfl (aA rfl) rfl c48 ?_
      refine aN rfl rfl (aA rfl) rfl (aA rfl) rfl c48 ?_
      refine aN rfl rfl (aA rfl) rfl (aA rfl) rfl c48 ?_
      refine aN rfl rfl (aA rfl) rfl (aA rfl) rfl c48 ?_
      refine aN rfl rfl (aA rfl) rfl (aA rfl) rfl c48 ?_
      refine aN rfl rfl (aA rfl) rfl (aA rfl) rfl c48 ?_
      refine tr1 rfl (bN (v := .d (.lit (.bool true))) (aA rfl) rfl c48 rfl rfl) ?_
      have h41 := Option.some.inj h41
      subst h41
      refine aF (aY rfl ⟨rfl, rfl, rfl, rfl, rfl, trivial⟩ rfl)
     ·have h41 := aQ c48 h41
      refine aL rfl rfl (aA rfl) rfl c48 (aC (v := .d (.lit (.int .i64 better_4_15))) (aA rfl) rfl rfl) ?_
      refine aL rfl rfl (aA rfl) rfl c48 (aT (aA rfl) rfl rV) ?_
      refine aL rfl rfl (aA rfl) rfl c48 (aV (aA rfl) rfl (i := 0) rfl rfl bE) ?_
      refine aL rfl rfl (aA rfl) rfl c48 (aC (v := .d (.lit (.int .i64 must_0_4))) (aA rfl) rfl rfl) ?_
      refine aL rfl rfl (aA rfl) rfl c48 (bA (aA rfl) rfl rfl rfl) ?_
      refine aL rfl rfl (aA rfl) rfl c48 (bB (aA rfl) rfl rfl rfl) ?_
      refine tr1 rfl (bO (v := .d (.lit (.bool ((decide (better_4_15 < (w64 (l_0.Counts - must_0_4)))))))) (aA rfl) rfl c48 rfl rfl) ?_
      have h41 := Option.some.inj h41
      subst h41
      refine aF (aY rfl ⟨rfl, rfl, rfl, rfl, rfl, trivial⟩ rfl)
    ·refine aF ?_
     refine bI rfl (fun c42 => ?_) (fun c42 => ?_)
     ·have h := aR c42 h
      refine aE ?_
      refine tr1 rfl (aC (v := .d (.lit w12)) (aA rfl) rfl rfl) ?_
      refine tr1 rfl (aC (v := .d (.sl 5 (r2.map aB))) (aA rfl) rfl rfl) ?_
      refine tr1 rfl (aC (v := .d (.lit (.int .i64 i_2_11))) (aA rfl) rfl rfl) ?_
      obtain ⟨x43, h44, h⟩ := bind_some h
      refine tr1 rfl (bM (aA rfl) rfl rfl bP.of (bH aB h44)) ?_
      refine tr1 rfl (dZ (aA rfl) rfl dE (es := (aB x43)) rfl rfl) ?_
      refine tr1 rfl (iH (aA rfl) bP rfl rfl (rows := ([x43]).map aB) rfl (cT (f := aB) fun _ => rfl) rfl (by decide)) ?_
      obtain ⟨x45, h46, h⟩ := bind_some h
      refine bW rfl (kB (i := 1) (aA rfl) bP rfl rfl rfl (fun _ => rfl) h46 rfl) ?_
      rintro _ ⟨v47, rfl⟩
      refine tr1 rfl (aJ (v := .d (.lit v47)) (aA rfl) rfl rfl) ?_
      refine dN ?_
      simp only [kI] at h
      refine aE ?_
      refine tr1 rfl (aC (v := .d (.lit (.int .i64 i_2_11))) (aA rfl) rfl rfl) ?_
      refine tr1 rfl (bA (aA rfl) rfl rfl rfl) ?_
      refine tr1 rfl (aJ (v := .d (.lit (.int .i64 ((w64 (i_2_11 + 1)))))) (aA rfl) rfl rfl) ?_
      refine aF ?_
      exact ⟨(w64 (i_2_11 + 1), x45, v47), h, aW [0, 1] rfl rfl (aM rfl (aM rfl (aX ⟨rfl, rfl, rfl, trivial⟩)))⟩
     ·have h := aQ c42 h
      refine dH ?_
      simp only [kI] at h
      refine aE ?_
      refine tr1 rfl (aC (v := .d (.lit (.int .i64 i_2_11))) (aA rfl) rfl rfl) ?_
      refine tr1 rfl (bA (aA rfl) rfl rfl rfl) ?_
      refine tr1 rfl (aJ (v := .d (.lit (.int .i64 ((w64 (i_2_11 + 1)))))) (aA rfl) rfl rfl) ?_
      refine aF ?_
      exact ⟨(w64 (i_2_11 + 1), out_2_11, w12), h, aW [0, 1] rfl rfl (aM rfl (aM rfl (aX ⟨rfl, rfl, rfl, trivial⟩)))⟩
  ·have h := aQ c14 h
   refine cP ?_
   refine .inl ⟨rfl, ?_⟩
   simp only [oM] at h
   refine aG ?_
   refine aE ?_
   refine tr1 rfl (aC (v := .d (.lit w12)) (aA rfl) rfl rfl) ?_
   refine tr1 rfl (aJ (v := .d (.lit w12)) (aA rfl) rfl rfl) ?_
   refine aF ?_
   have h := Option.some.inj h
   subst h
   refine cG (bX (fH (k := 6) (v := .d (.sl 5 (out_2_11.map aB))) (.d (gE 1 rfl (cT (f := aB) fun _ => rfl))) (rT))) ?_
   exact bL ⟨rfl, _, .one _, rfl, rfl⟩

theorem wT (l_0 : aS) (player_1 : Int) (week_2 : Int) {r : (List Int) × Int} (h : iC l_0 player_1 week_2 = some r) : Fn Tryz.prog 13 [.agg (aU l_0), .d (.lit (.int .i64 player_1)), .d (.lit (.int .i64 week_2))] (.tup [.d (.sl 1 (r.1.map cE)), .d (.lit (.int .i64 r.2))]) := by
 unfold iC at h
 refine Fn.of_tr Tryz.func13 rfl (rs := [.tmp 6, .tmp 7]) Tryz.results13 Tryz.ntmps13 (Nat.le_of_ble_eq_true rfl) ?_
 refine aG ?_
 refine aE ?_
 refine bW rfl (eG (v := .agg (aU l_0)) (aA rfl) rfl rfl rfl) ?_
 rintro _ ⟨b1, rfl⟩
 refine tr1 rfl (nJ 1 (aA rfl)) ?_
 refine tr1 rfl (aJ (v := .d (.lit (.int .i64 0))) (aA rfl) rfl rfl) ?_
 refine aF ?_
 refine aG ?_
 refine aG ?_
 refine aE ?_
 refine tr1 rfl (cF (aA rfl) rfl (i := 0) rfl eA (es := (aU l_0)) rfl rfl) ?_
 refine tr1 rfl (aC (v := .d (.lit (.int .i64 player_1))) (aA rfl) rfl rfl) ?_
 refine tr1 rfl (aC (v := .d (.lit (.int .i64 week_2))) (aA rfl) rfl rfl) ?_
 obtain ⟨r2, h3, h⟩ := bind_some h
 refine tr1 rfl (cB (aA rfl) (.func _ _ Tryz.call35) rfl rfl (BVs.refl _ _) (qT _ _ _ h3) rfl) ?_
 refine tr1 rfl (aJ (v := .d (.lit (.int .i64 r2))) (aA rfl) rfl rfl) ?_
 refine aF ?_
 refine aG ?_
 refine aE ?_
 refine tr1 rfl (aC (v := .d (.lit (.int .i64 r2))) (aA rfl) rfl rfl) ?_
 refine tr1 rfl (bB (aA rfl) rfl rfl rfl) ?_
 refine aF ?_
 refine bI rfl (fun c4 => ?_) (fun c4 => ?_)
 ·have h := aR c4 h
  refine aG ?_
  refine aE ?_
  refine tr1 rfl (aC (v := .d (.lit (.int .i64 r2))) (aA rfl) rfl rfl) ?_
  refine tr1 rfl (nJ 1 (aA rfl)) ?_
  refine tr1 rfl (aJ (v := .d (.lit (.int .i64 r2))) (aA rfl) rfl rfl) ?_
  refine aF ?_
  have h := Option.some.inj h
  subst h
  refine cG (bX (cD (l := [6, 7]) ⟨rfl, rfl, trivial⟩)) ?_
  exact bL ⟨rfl, _, .two _ _, rfl, rfl⟩
 ·have h := aQ c4 h
  refine bG ?_
  refine aG ?_
  refine aE ?_
  refine tr1 rfl (gK 3 1 (.inl rfl) (aA rfl)) ?_
  refine aF ?_
  refine aG ?_
  refine aE ?_
  refine tr1 rfl (cF (aA rfl) rfl (i := 0) rfl eA (es := (aU l_0)) rfl rfl) ?_
  refine tr1 rfl (aC (v := .d (.lit (.int .i64 player_1))) (aA rfl) rfl rfl) ?_
  refine tr1 rfl (aC (v := .d (.lit (.int .i64 week_2))) (aA rfl) rfl rfl) ?_
  obtain ⟨r6, h7, h⟩ := bind_some h
  refine tr1 rfl (jA (aA rfl) (.func _ _ Tryz.call36) rfl rfl (sJ _ _ _ h7)) ?_
  refine tr1 rfl (aJ (v := .d (.sl 5 (r6.map aB))) (aA rfl) rfl rfl) ?_
  refine aF ?_
  refine aG ?_
  refine aG ?_
  refine aE ?_
  refine tr1 rfl (aJ (v := .d (.lit (.int .i64 0))) (aA rfl) rfl rfl) ?_
  refine aF ?_
  refine bQ ?_
  refine cI [10] (fun (s8 : Int × (List Int) × Value) => [(9, .d (.lit s8.2.2)), (11, .d (.lit (.int .i64 s8.1)))]) (fun (s8 : Int × (List Int) × Value) => [.arr s8.2.2 3 1 (s8.2.1.map cE)]) (fun (k : Nat) (s8 : Int × (List Int) × Value) => gT r6 k s8.1 s8.2.1) (fun _ => rfl) (0, ([] : List Int), (.slice none 0 0)) h (aW [1] rfl rfl (aM rfl (aM rfl (aX ⟨rfl, trivial⟩)))) ?_
  rintro k10 ⟨i_0_8, out_0_8, w9⟩ h
  simp only [gT] at h
  refine aG ?_
  refine aG ?_
  refine aE ?_
  refine tr1 rfl (aC (v := .d (.lit (.int .i64 i_0_8))) (aA rfl) rfl rfl) ?_
  refine tr1 rfl (aC (v := .d (.sl 5 (r6.map aB))) (aA rfl) rfl rfl) ?_
  refine tr1 rfl (cW (aA rfl) rfl bP.of) ?_
  refine tr1 rfl (bB (aA rfl) rfl rfl rfl) ?_
  refine aF ?_
  refine bI rfl (fun c11 => ?_) (fun c11 => ?_)
  ·have h := aR c11 h
   refine bG ?_
   refine aG ?_
   refine bQ ?_
   refine aE ?_
   refine tr1 rfl (aC (v := .d (.lit w9)) (aA rfl) rfl rfl) ?_
   refine tr1 rfl (aC (v := .d (.sl 5 (r6.map aB))) (aA rfl) rfl rfl) ?_
   refine tr1 rfl (aC (v := .d (.lit (.int .i64 i_0_8))) (aA rfl) rfl rfl) ?_
   obtain ⟨x12, h13, h⟩ := bind_some h
   refine tr1 rfl (bM (aA rfl) rfl rfl bP.of (bH aB h13)) ?_
   refine tr1 rfl (cA (aA rfl) rfl gV (es := [.lit (.int .i64 x12.Id)]) rfl) ?_
   refine tr1 rfl (bY (aA rfl) rfl bE) ?_
   refine tr1 rfl (iH (aA rfl) eT rfl rfl (rows := ([x12.Id]).map cE) rfl (cT (f := cE) fun _ => rfl) rfl (by decide)) ?_
   obtain ⟨x14, h15, h⟩ := bind_some h
   refine bW rfl (kB (i := 0) (aA rfl) eT rfl rfl rfl (fun _ => rfl) h15 rfl) ?_
   rintro _ ⟨v16, rfl⟩
   refine tr1 rfl (aJ (v := .d (.lit v16)) (aA rfl) rfl rfl) ?_
   refine dN ?_
   refine aE ?_
   refine tr1 rfl (aC (v := .d (.lit (.int .i64 i_0_8))) (aA rfl) rfl rfl) ?_
   refine tr1 rfl (bA (aA rfl) rfl rfl rfl) ?_
   refine tr1 rfl (aJ (v := .d (.lit (.int .i64 ((w64 (i_0_8 + 1)))))) (aA rfl) rfl rfl) ?_
   refine aF ?_
   exact ⟨(w64 (i_0_8 + 1), x14, v16), h, aW [0] rfl rfl (aM rfl (aM rfl (aX ⟨rfl, trivial⟩)))⟩
  ·have h := aQ c11 h
   refine cP ?_
   refine .inl ⟨rfl, ?_⟩
   simp only [rQ] at h
   refine aG ?_
   refine aE ?_
   refine tr1 rfl (aC (v := .d (.lit w9)) (aA rfl) rfl rfl) ?_
   refine tr1 rfl (aJ (v := .d (.lit w9)) (aA rfl) rfl rfl) ?_
   refine tr1 rfl (aJ (v := .d (.lit (.int .i64 0))) (aA rfl) rfl rfl) ?_
   refine aF ?_
   have h := Option.some.inj h
   subst h
   refine cG (bX (fH (k := 7) (v := .d (.lit (.int .i64 0))) (.same _) (fH (k := 6) (v := .d (.sl 1 (out_0_8.map cE))) (.d (gE 0 rfl (cT (f := cE) fun _ => rfl))) (rT)))) ?_
   exact bL ⟨rfl, _, .two _ _, rfl, rfl⟩

theorem aBa (l_0 : aS) (player_1 : Int) (week_2 : Int) {r : Int × Int} (h : lN l_0 player_1 week_2 = some r) : Fn Tryz.prog 14 [.agg (aU l_0), .d (.lit (.int .i64 player_1)), .d (.lit (.int .i64 week_2))] (.tup [.d (.lit (.int .i64 r.1)), .d (.lit (.int .i64 r.2))]) := by
 unfold lN at h
 refine Fn.of_tr Tryz.func14 rfl (rs := [.tmp 6, .tmp 7]) Tryz.results14 Tryz.ntmps14 (Nat.le_of_ble_eq_true rfl) ?_
 refine aG ?_
 refine aE ?_
 refine bW rfl (eG (v := .agg (aU l_0)) (aA rfl) rfl rfl rfl) ?_
 rintro _ ⟨b1, rfl⟩
 refine tr1 rfl (aJ (v := .d (.lit (.int .i64 0))) (aA rfl) rfl rfl) ?_
 refine tr1 rfl (aJ (v := .d (.lit (.int .i64 0))) (aA rfl) rfl rfl) ?_
 refine aF ?_
 refine aG ?_
 refine aE ?_
 refine tr1 rfl (cF (aA rfl) rfl (i := 0) rfl eA (es := (aU l_0)) rfl rfl) ?_
 refine tr1 rfl (aC (v := .d (.lit (.int .i64 player_1))) (aA rfl) rfl rfl) ?_
 refine tr1 rfl (aC (v := .d (.lit (.int .i64 week_2))) (aA rfl) rfl rfl) ?_
 obtain ⟨r2, h3, h⟩ := bind_some h
 refine bW rfl (dI (passed := []) (aA rfl) rfl (.func _ _ Tryz.call26) rfl rfl (pI _ _ _ h3)) ?_
 rintro _ ⟨_, _, ⟨b5, w6, rfl, rfl⟩, rfl⟩
 obtain ⟨_ | y4, e7⟩ := r2
 ·have h := tV h
  refine eW (aW [0] rfl rfl (le_refl _)) ?_
  refine tr1 rfl (aC (v := .tup [.d (.lit (.pointer none)), .d (.lit (.int .i64 e7))]) (aA rfl) rfl rfl) ?_
  refine tr1 rfl (cL (aA rfl) rfl rfl) ?_
  refine tr1 rfl (cL (aA rfl) rfl rfl) ?_
  refine tr1 rfl (aJ (v := .d (.lit (.pointer none))) (aA rfl) rfl rfl) ?_
  refine tr1 rfl (aJ (v := .d (.lit (.int .i64 e7))) (aA rfl) rfl rfl) ?_
  refine aF ?_
  refine aG ?_
  refine aG ?_
  refine aE ?_
  refine tr1 rfl (aC (v := .d (.lit (.int .i64 e7))) (aA rfl) rfl rfl) ?_
  refine tr1 rfl (bB (aA rfl) rfl rfl rfl) ?_
  refine aF ?_
  refine bI rfl (fun c8 => ?_) (fun c8 => ?_)
  ·have h := aR c8 h
   refine aG ?_
   refine aE ?_
   refine tr1 rfl (aC (v := .d (.lit (.int .i64 e7))) (aA rfl) rfl rfl) ?_
   refine tr1 rfl (aJ (v := .d (.lit (.int .i64 0))) (aA rfl) rfl rfl) ?_
   refine tr1 rfl (aJ (v := .d (.lit (.int .i64 e7))) (aA rfl) rfl rfl) ?_
   refine aF ?_
   have h := Option.some.inj h
   subst h
   refine cG (bX (cD (l := [6, 7]) ⟨rfl, rfl, trivial⟩)) ?_
   exact bL ⟨rfl, _, .two _ _, rfl, rfl⟩
  ·have h := aQ c8 h
   refine bG ?_
   refine aG ?_
   refine aE ?_
   refine tr1 rfl (aC (v := .d (.lit (.pointer none))) (aA rfl) rfl rfl) ?_
   refine tr1 rfl (aC (v := .d (.lit (.int .i64 player_1))) (aA rfl) rfl rfl) ?_
   refine tr1 rfl (aC (v := .d (.lit (.int .i64 week_2))) (aA rfl) rfl rfl) ?_
   cases h
 ·have h := tW h
  refine eW (aW [0, 1, 2] rfl rfl (le_refl _)) ?_
  refine tr1 rfl (aC (v := .tup [.bp b5 0 0, .d (.lit (.int .i64 e7))]) (aA rfl) rfl rfl) ?_
  refine tr1 rfl (cL (aA rfl) rfl rfl) ?_
  refine tr1 rfl (cL (aA rfl) rfl rfl) ?_
  refine tr1 rfl (aJ (v := .bp b5 0 0) (aA rfl) rfl rfl) ?_
  refine tr1 rfl (aJ (v := .d (.lit (.int .i64 e7))) (aA rfl) rfl rfl) ?_
  refine aF ?_
  refine aG ?_
  refine aG ?_
  refine aE ?_
  refine tr1 rfl (aC (v := .d (.lit (.int .i64 e7))) (aA rfl) rfl rfl) ?_
  refine tr1 rfl (bB (aA rfl) rfl rfl rfl) ?_
  refine aF ?_
  refine bI rfl (fun c9 => ?_) (fun c9 => ?_)
  ·have h := aR c9 h
   refine aG ?_
   refine aE ?_
   refine tr1 rfl (aC (v := .d (.lit (.int .i64 e7))) (aA rfl) rfl rfl) ?_
   refine tr1 rfl (aJ (v := .d (.lit (.int .i64 0))) (aA rfl) rfl rfl) ?_
   refine tr1 rfl (aJ (v := .d (.lit (.int .i64 e7))) (aA rfl) rfl rfl) ?_
   refine aF ?_
   have h := Option.some.inj h
   subst h
   refine cG (bX (cD (l := [6, 7]) ⟨rfl, rfl, trivial⟩)) ?_
   exact bL ⟨rfl, _, .two _ _, rfl, rfl⟩
  ·have h := aQ c9 h
   refine bG ?_
   refine aG ?_
   refine aE ?_
   refine tr1 rfl (aC (v := .bp b5 0 0) (aA rfl) rfl rfl) ?_
   refine tr1 rfl (aC (v := .d (.lit (.int .i64 player_1))) (aA rfl) rfl rfl) ?_
   refine tr1 rfl (aC (v := .d (.lit (.int .i64 week_2))) (aA rfl) rfl rfl) ?_
   obtain ⟨r10, h11, h⟩ := bind_some h
   refine tr1 rfl (cB (aA rfl) (.func _ _ Tryz.call37) rfl rfl (.cons ((lH 0 rfl rfl (dvc (.same _) (dvc (.same _) (dvc (gE 1 rfl (cT (f := aB) fun _ => rfl)) (dvc (.same _) (dvc (.same _) dvn))))))) (.cons (.same _) (.cons (.same _) .nil))) (oY _ _ _ h11) rfl) ?_
   refine tr1 rfl (aJ (v := .d (.lit (.int .i64 r10))) (aA rfl) rfl rfl) ?_
   refine tr1 rfl (aJ (v := .d (.lit (.int .i64 0))) (aA rfl) rfl rfl) ?_
   refine aF ?_
   have h := Option.some.inj h
   subst h
   refine cG (bX (cD (l := [6, 7]) ⟨rfl, rfl, trivial⟩)) ?_
   exact bL ⟨rfl, _, .two _ _, rfl, rfl⟩

theorem wJ (l_0 : aS) (player_1 : Int) (week_2 : Int) {r : Int × Int} (h : lD l_0 player_1 week_2 = some r) : Fn Tryz.prog 38 [.agg (aU l_0), .d (.lit (.int .i64 player_1)), .d (.lit (.int .i64 week_2))] (.tup [.d (.lit (.int .i64 r.1)), .d (.lit (.int .i64 r.2))]) := by
 unfold lD at h
 refine Fn.of_tr Tryz.func38 rfl (rs := [.tmp 6, .tmp 7]) Tryz.results38 Tryz.ntmps38 (Nat.le_of_ble_eq_true rfl) ?_
 refine aG ?_
 refine aE ?_
 refine bW rfl (eG (v := .agg (aU l_0)) (aA rfl) rfl rfl rfl) ?_
 rintro _ ⟨b1, rfl⟩
 refine tr1 rfl (aJ (v := .d (.lit (.int .i64 0))) (aA rfl) rfl rfl) ?_
 refine tr1 rfl (aJ (v := .d (.lit (.int .i64 0))) (aA rfl) rfl rfl) ?_
 refine aF ?_
 refine aG ?_
 refine aE ?_
 refine tr1 rfl (cF (aA rfl) rfl (i := 0) rfl eA (es := (aU l_0)) rfl rfl) ?_
 refine tr1 rfl (aC (v := .d (.lit (.int .i64 player_1))) (aA rfl) rfl rfl) ?_
 refine tr1 rfl (aC (v := .d (.lit (.int .i64 week_2))) (aA rfl) rfl rfl) ?_
 obtain ⟨r2, h3, h⟩ := bind_some h
 refine tr1 rfl (jA (aA rfl) (.func _ _ Tryz.call36) rfl rfl (sJ _ _ _ h3)) ?_
 refine tr1 rfl (aJ (v := .d (.sl 5 (r2.map aB))) (aA rfl) rfl rfl) ?_
 refine aF ?_
 refine aG ?_
 refine aG ?_
 refine aE ?_
 refine tr1 rfl (aJ (v := .d (.lit (.int .i64 0))) (aA rfl) rfl rfl) ?_
 refine aF ?_
 refine bQ ?_
 refine cI [8] (fun (s4 : Int × Int × Int) => [(6, .d (.lit (.int .i64 s4.1))), (7, .d (.lit (.int .i64 s4.2.1))), (9, .d (.lit (.int .i64 s4.2.2)))]) (fun (s4 : Int × Int × Int) => []) (fun (k : Nat) (s4 : Int × Int × Int) => fS r2 k s4.1 s4.2.1 s4.2.2) (fun _ => rfl) (0, 0, 0) h (aW [] rfl rfl (aM rfl (aM rfl (aM rfl (aX ⟨rfl, trivial⟩))))) ?_
 rintro k5 ⟨sum_0_4, must_0_4, i_0_4⟩ h
 simp only [fS] at h
 refine aG ?_
 refine aG ?_
 refine aE ?_
 refine tr1 rfl (aC (v := .d (.lit (.int .i64 i_0_4))) (aA rfl) rfl rfl) ?_
 refine tr1 rfl (aC (v := .d (.sl 5 (r2.map aB))) (aA rfl) rfl rfl) ?_
 refine tr1 rfl (cW (aA rfl) rfl bP.of) ?_
 refine tr1 rfl (bB (aA rfl) rfl rfl rfl) ?_
 refine aF ?_
 refine bI rfl (fun c6 => ?_) (fun c6 => ?_)
 ·have h := aR c6 h
  refine bG ?_
  refine aG ?_
  refine bQ ?_
  refine aG ?_
  refine aE ?_
  refine tr1 rfl (aC (v := .d (.lit (.int .i64 sum_0_4))) (aA rfl) rfl rfl) ?_
  refine tr1 rfl (aC (v := .d (.sl 5 (r2.map aB))) (aA rfl) rfl rfl) ?_
  refine tr1 rfl (aC (v := .d (.lit (.int .i64 i_0_4))) (aA rfl) rfl rfl) ?_
  obtain ⟨x7, h8, h⟩ := bind_some h
  refine tr1 rfl (bM (aA rfl) rfl rfl bP.of (bH aB h8)) ?_
  refine tr1 rfl (cA (aA rfl) rfl gW (es := [.lit (.int .i64 x7.Points)]) rfl) ?_
  refine tr1 rfl (bY (aA rfl) rfl bE) ?_
  refine tr1 rfl (bA (aA rfl) rfl rfl rfl) ?_
  refine tr1 rfl (aJ (v := .d (.lit (.int .i64 ((w64 (sum_0_4 + x7.Points)))))) (aA rfl) rfl rfl) ?_
  refine aF ?_
  refine aG ?_
  refine aE ?_
  refine tr1 rfl (aC (v := .d (.sl 5 (r2.map aB))) (aA rfl) rfl rfl) ?_
  refine tr1 rfl (aC (v := .d (.lit (.int .i64 i_0_4))) (aA rfl) rfl rfl) ?_
  obtain ⟨x9, h10, h⟩ := bind_some h
  refine tr1 rfl (bM (aA rfl) rfl rfl bP.of (bH aB h10)) ?_
  refine tr1 rfl (cA (aA rfl) rfl jP (es := [.lit (.bool x9.Must)]) rfl) ?_
  refine tr1 rfl (bY (aA rfl) rfl nF) ?_
  refine aF ?_
  refine bI rfl (fun c11 => ?_) (fun c11 => ?_)
  ·have h := aR c11 h
   refine aE ?_
   refine tr1 rfl (aC (v := .d (.lit (.int .i64 must_0_4))) (aA rfl) rfl rfl) ?_
   refine tr1 rfl (aC (v := .d (.sl 5 (r2.map aB))) (aA rfl) rfl rfl) ?_
   refine tr1 rfl (aC (v := .d (.lit (.int .i64 i_0_4))) (aA rfl) rfl rfl) ?_
   obtain ⟨x12, h13, h⟩ := bind_some h
   refine tr1 rfl (bM (aA rfl) rfl rfl bP.of (bH aB h13)) ?_
   refine tr1 rfl (cA (aA rfl) rfl gW (es := [.lit (.int .i64 x12.Points)]) rfl) ?_
   refine tr1 rfl (bY (aA rfl) rfl bE) ?_
   refine tr1 rfl (bA (aA rfl) rfl rfl rfl) ?_
   refine tr1 rfl (aJ (v := .d (.lit (.int .i64 ((w64 (must_0_4 + x12.Points)))))) (aA rfl) rfl rfl) ?_
   refine dN ?_
   refine aE ?_
   refine tr1 rfl (aC (v := .d (.lit (.int .i64 i_0_4))) (aA rfl) rfl rfl) ?_
   refine tr1 rfl (bA (aA rfl) rfl rfl rfl) ?_
   refine tr1 rfl (aJ (v := .d (.lit (.int .i64 ((w64 (i_0_4 + 1)))))) (aA rfl) rfl rfl) ?_
   refine aF ?_
   exact ⟨(w64 (sum_0_4 + x7.Points), w64 (must_0_4 + x12.Points), w64 (i_0_4 + 1)), h, aW [] rfl rfl (aM rfl (aM rfl (aM rfl (aX ⟨rfl, trivial⟩))))⟩
  ·have h := aQ c11 h
   refine dH ?_
   refine aE ?_
   refine tr1 rfl (aC (v := .d (.lit (.int .i64 i_0_4))) (aA rfl) rfl rfl) ?_
   refine tr1 rfl (bA (aA rfl) rfl rfl rfl) ?_
   refine tr1 rfl (aJ (v := .d (.lit (.int .i64 ((w64 (i_0_4 + 1)))))) (aA rfl) rfl rfl) ?_
   refine aF ?_
   exact ⟨(w64 (sum_0_4 + x7.Points), must_0_4, w64 (i_0_4 + 1)), h, aW [] rfl rfl (aM rfl (aM rfl (aM rfl (aX ⟨rfl, trivial⟩))))⟩
 ·have h := aQ c6 h
  refine cP ?_
  refine .inl ⟨rfl, ?_⟩
  simp only [nS] at h
  refine aG ?_
  refine aE ?_
  refine tr1 rfl (aC (v := .d (.lit (.int .i64 sum_0_4))) (aA rfl) rfl rfl) ?_
  refine tr1 rfl (aC (v := .d (.lit (.int .i64 must_0_4))) (aA rfl) rfl rfl) ?_
  refine tr1 rfl (aJ (v := .d (.lit (.int .i64 sum_0_4))) (aA rfl) rfl rfl) ?_
  refine tr1 rfl (aJ (v := .d (.lit (.int .i64 must_0_4))) (aA rfl) rfl rfl) ?_
  refine aF ?_
  have h := Option.some.inj h
  subst h
  exact bL ⟨rfl, _, .two _ _, rfl, rfl⟩

theorem wI (l_0 : aS) (player_1 : Int) (week_2 : Int) {r : Int × Int} (h : gQ l_0 player_1 week_2 = some r) : Fn Tryz.prog 15 [.agg (aU l_0), .d (.lit (.int .i64 player_1)), .d (.lit (.int .i64 week_2))] (.tup [.d (.lit (.int .i64 r.1)), .d (.lit (.int .i64 r.2))]) := by
 unfold gQ at h
 refine Fn.of_tr Tryz.func15 rfl (rs := [.tmp 6, .tmp 7]) Tryz.results15 Tryz.ntmps15 (Nat.le_of_ble_eq_true rfl) ?_
 refine aG ?_
 refine aE ?_
 refine bW rfl (eG (v := .agg (aU l_0)) (aA rfl) rfl rfl rfl) ?_
 rintro _ ⟨b1, rfl⟩
 refine tr1 rfl (aJ (v := .d (.lit (.int .i64 0))) (aA rfl) rfl rfl) ?_
 refine tr1 rfl (aJ (v := .d (.lit (.int .i64 0))) (aA rfl) rfl rfl) ?_
 refine aF ?_
 refine aG ?_
 refine aG ?_
 refine aE ?_
 refine tr1 rfl (cF (aA rfl) rfl (i := 0) rfl eA (es := (aU l_0)) rfl rfl) ?_
 refine tr1 rfl (aC (v := .d (.lit (.int .i64 player_1))) (aA rfl) rfl rfl) ?_
 refine tr1 rfl (aC (v := .d (.lit (.int .i64 week_2))) (aA rfl) rfl rfl) ?_
 obtain ⟨r2, h3, h⟩ := bind_some h
 refine tr1 rfl (cB (aA rfl) (.func _ _ Tryz.call35) rfl rfl (BVs.refl _ _) (qT _ _ _ h3) rfl) ?_
 refine tr1 rfl (aJ (v := .d (.lit (.int .i64 r2))) (aA rfl) rfl rfl) ?_
 refine aF ?_
 refine aG ?_
 refine aE ?_
 refine tr1 rfl (aC (v := .d (.lit (.int .i64 r2))) (aA rfl) rfl rfl) ?_
 refine tr1 rfl (bB (aA rfl) rfl rfl rfl) ?_
 refine aF ?_
 refine bI rfl (fun c4 => ?_) (fun c4 => ?_)
 ·have h := aR c4 h
  refine aG ?_
  refine aE ?_
  refine tr1 rfl (aC (v := .d (.lit (.int .i64 r2))) (aA rfl) rfl rfl) ?_
  refine tr1 rfl (aJ (v := .d (.lit (.int .i64 0))) (aA rfl) rfl rfl) ?_
  refine tr1 rfl (aJ (v := .d (.lit (.int .i64 r2))) (aA rfl) rfl rfl) ?_
  refine aF ?_
  have h := Option.some.inj h
  subst h
  refine cG (bX (cD (l := [6, 7]) ⟨rfl, rfl, trivial⟩)) ?_
  exact bL ⟨rfl, _, .two _ _, rfl, rfl⟩
 ·have h := aQ c4 h
  refine bG ?_
  refine aG ?_
  refine aE ?_
  refine tr1 rfl (cF (aA rfl) rfl (i := 0) rfl eA (es := (aU l_0)) rfl rfl) ?_
  refine tr1 rfl (aC (v := .d (.lit (.int .i64 player_1))) (aA rfl) rfl rfl) ?_
  refine tr1 rfl (aC (v := .d (.lit (.int .i64 week_2))) (aA rfl) rfl rfl) ?_
  obtain ⟨r5, h6, h⟩ := bind_some h
  refine tr1 rfl (cB (aA rfl) (.func _ _ Tryz.call38) rfl rfl (BVs.refl _ _) (wJ _ _ _ h6) rfl) ?_
  refine tr1 rfl (aC (v := .tup [.d (.lit (.int .i64 r5.1)), .d (.lit (.int .i64 r5.2))]) (aA rfl) rfl rfl) ?_
  refine tr1 rfl (cL (aA rfl) rfl rfl) ?_
  refine tr1 rfl (cL (aA rfl) rfl rfl) ?_
  refine tr1 rfl (aJ (v := .d (.lit (.int .i64 r5.1))) (aA rfl) rfl rfl) ?_
  refine tr1 rfl (aJ (v := .d (.lit (.int .i64 r5.2))) (aA rfl) rfl rfl) ?_
  refine aF ?_
  refine aG ?_
  refine aE ?_
  refine tr1 rfl (aC (v := .d (.lit (.int .i64 r5.1))) (aA rfl) rfl rfl) ?_
  refine tr1 rfl (aJ (v := .d (.lit (.int .i64 r5.1))) (aA rfl) rfl rfl) ?_
  refine tr1 rfl (aJ (v := .d (.lit (.int .i64 0))) (aA rfl) rfl rfl) ?_
  refine aF ?_
  have h := Option.some.inj h
  subst h
  refine cG (bX (cD (l := [6, 7]) ⟨rfl, rfl, trivial⟩)) ?_
  exact bL ⟨rfl, _, .two _ _, rfl, rfl⟩

theorem xX (a_0 : aS) (b_1 : aS) {r : Bool} (h : mE a_0 b_1 = some r) : Fn Tryz.prog 17 [.agg (aU a_0), .agg (aU b_1)] (.d (.lit (.bool r))) := by
 unfold mE at h
 refine Fn.of_tr Tryz.func17 rfl (rs := [.tmp 4]) Tryz.results17 Tryz.ntmps17 (Nat.le_of_ble_eq_true rfl) ?_
 refine aG ?_
 refine aE ?_
 refine bW rfl (eG (v := .agg (aU a_0)) (aA rfl) rfl rfl rfl) ?_
 rintro _ ⟨b1, rfl⟩
 refine bW rfl (eG (v := .agg (aU b_1)) (aA rfl) rfl rfl rfl) ?_
 rintro _ ⟨b2, rfl⟩
 refine tr1 rfl (aJ (v := .d (.lit (.bool false))) (aA rfl) rfl rfl) ?_
 refine aF ?_
 refine aG ?_
 refine aG ?_
 refine aE ?_
 refine tr1 rfl (aT (aA rfl) rfl iQ) ?_
 refine tr1 rfl (aV (aA rfl) rfl (i := 0) rfl rfl bE) ?_
 refine tr1 rfl (aT (aA rfl) rfl iQ) ?_
 refine tr1 rfl (aV (aA rfl) rfl (i := 1) rfl rfl bE) ?_
 refine tr1 rfl (bB (aA rfl) rfl rfl rfl) ?_
 refine tr1 rfl (aC (v := .d (.lit (.bool ((!decide (a_0.Players = b_1.Players)))))) (aA rfl) rfl rfl) ?_
 obtain ⟨b3, h4, h⟩ := bind_some h
 refine bZ 6 [2, 3] 19 b3 ?_ ?_
 ·refine bF (!decide (a_0.Players = b_1.Players)) (fun c39 => ?_) (fun c39 => ?_)
  ·have h4 := aR c39 h4
   refine aN rfl rfl (aA rfl) rfl (aA rfl) rfl c39 ?_
   refine aN rfl rfl (aA rfl) rfl (aA rfl) rfl c39 ?_
   refine aN rfl rfl (aA rfl) rfl (aA rfl) rfl c39 ?_
   refine aN rfl rfl (aA rfl) rfl (aA rfl) rfl c39 ?_
   refine aN rfl rfl (aA rfl) rfl (aA rfl) rfl c39 ?_
   refine tr1 rfl (bN (v := .d (.lit (.bool true))) (aA rfl) rfl c39 rfl rfl) ?_
   have h4 := Option.some.inj h4
   subst h4
   refine aF (aY rfl ⟨rfl, rfl, trivial⟩ rfl)
  ·have h4 := aQ c39 h4
   refine aL rfl rfl (aA rfl) rfl c39 (aT (aA rfl) rfl rV) ?_
   refine aL rfl rfl (aA rfl) rfl c39 (aV (aA rfl) rfl (i := 0) rfl rfl bE) ?_
   refine aL rfl rfl (aA rfl) rfl c39 (aT (aA rfl) rfl rV) ?_
   refine aL rfl rfl (aA rfl) rfl c39 (aV (aA rfl) rfl (i := 1) rfl rfl bE) ?_
   refine aL rfl rfl (aA rfl) rfl c39 (bB (aA rfl) rfl rfl rfl) ?_
   refine tr1 rfl (bO (v := .d (.lit (.bool ((!decide (a_0.Counts = b_1.Counts)))))) (aA rfl) rfl c39 rfl rfl) ?_
   have h4 := Option.some.inj h4
   subst h4
   refine aF (aY rfl ⟨rfl, rfl, trivial⟩ rfl)
 ·refine tr1 rfl (aC (v := .d (.lit (.bool b3))) (aA rfl) rfl rfl) ?_
  obtain ⟨b5, h6, h⟩ := bind_some h
  refine bZ 8 [2, 3] 28 b5 ?_ ?_
  ·refine bF (b3) (fun c38 => ?_) (fun c38 => ?_)
   ·have h6 := aR c38 h6
    refine aN rfl rfl (aA rfl) rfl (aA rfl) rfl c38 ?_
    refine aN rfl rfl (aA rfl) rfl (aA rfl) rfl c38 ?_
    refine aN rfl rfl (aA rfl) rfl (aA rfl) rfl c38 ?_
    refine aN rfl rfl (aA rfl) rfl (aA rfl) rfl c38 ?_
    refine aN rfl rfl (aA rfl) rfl (aA rfl) rfl c38 ?_
    refine aN rfl rfl (aA rfl) rfl (aA rfl) rfl c38 ?_
    refine aN rfl rfl (aA rfl) rfl (aA rfl) rfl c38 ?_
    refine tr1 rfl (bN (v := .d (.lit (.bool true))) (aA rfl) rfl c38 rfl rfl) ?_
    have h6 := Option.some.inj h6
    subst h6
    refine aF (aY rfl ⟨rfl, rfl, trivial⟩ rfl)
   ·have h6 := aQ c38 h6
    refine aL rfl rfl (aA rfl) rfl c38 (aT (aA rfl) rfl dS) ?_
    refine aL rfl rfl (aA rfl) rfl c38 (aV (aA rfl) rfl (i := 0) rfl rfl fT) ?_
    refine aL rfl rfl (aA rfl) rfl c38 (cW (aA rfl) rfl bP.of) ?_
    refine aL rfl rfl (aA rfl) rfl c38 (aT (aA rfl) rfl dS) ?_
    refine aL rfl rfl (aA rfl) rfl c38 (aV (aA rfl) rfl (i := 1) rfl rfl fT) ?_
    refine aL rfl rfl (aA rfl) rfl c38 (cW (aA rfl) rfl bP.of) ?_
    refine aL rfl rfl (aA rfl) rfl c38 (bB (aA rfl) rfl rfl rfl) ?_
    refine tr1 rfl (bO (v := .d (.lit (.bool ((!decide ((a_0.Reports.length : Int) = (b_1.Reports.length : Int))))))) (aA rfl) rfl c38 rfl rfl) ?_
    have h6 := Option.some.inj h6
    subst h6
    refine aF (aY rfl ⟨rfl, rfl, trivial⟩ rfl)
  ·refine tr1 rfl (aC (v := .d (.lit (.bool b5))) (aA rfl) rfl rfl) ?_
   obtain ⟨b7, h8, h⟩ := bind_some h
   refine bZ 8 [2, 3] 37 b7 ?_ ?_
   ·refine bF (b5) (fun c37 => ?_) (fun c37 => ?_)
    ·have h8 := aR c37 h8
     refine aN rfl rfl (aA rfl) rfl (aA rfl) rfl c37 ?_
     refine aN rfl rfl (aA rfl) rfl (aA rfl) rfl c37 ?_
     refine aN rfl rfl (aA rfl) rfl (aA rfl) rfl c37 ?_
     refine aN rfl rfl (aA rfl) rfl (aA rfl) rfl c37 ?_
     refine aN rfl rfl (aA rfl) rfl (aA rfl) rfl c37 ?_
     refine aN rfl rfl (aA rfl) rfl (aA rfl) rfl c37 ?_
     refine aN rfl rfl (aA rfl) rfl (aA rfl) rfl c37 ?_
     refine tr1 rfl (bN (v := .d (.lit (.bool true))) (aA rfl) rfl c37 rfl rfl) ?_
     have h8 := Option.some.inj h8
     subst h8
     refine aF (aY rfl ⟨rfl, rfl, trivial⟩ rfl)
    ·have h8 := aQ c37 h8
     refine aL rfl rfl (aA rfl) rfl c37 (aT (aA rfl) rfl jO) ?_
     refine aL rfl rfl (aA rfl) rfl c37 (aV (aA rfl) rfl (i := 0) rfl rfl fU) ?_
     refine aL rfl rfl (aA rfl) rfl c37 (cW (aA rfl) rfl eH.of) ?_
     refine aL rfl rfl (aA rfl) rfl c37 (aT (aA rfl) rfl jO) ?_
     refine aL rfl rfl (aA rfl) rfl c37 (aV (aA rfl) rfl (i := 1) rfl rfl fU) ?_
     refine aL rfl rfl (aA rfl) rfl c37 (cW (aA rfl) rfl eH.of) ?_
     refine aL rfl rfl (aA rfl) rfl c37 (bB (aA rfl) rfl rfl rfl) ?_
     refine tr1 rfl (bO (v := .d (.lit (.bool ((!decide ((a_0.Bans.length : Int) = (b_1.Bans.length : Int))))))) (aA rfl) rfl c37 rfl rfl) ?_
     have h8 := Option.some.inj h8
     subst h8
     refine aF (aY rfl ⟨rfl, rfl, trivial⟩ rfl)
   ·refine tr1 rfl (aC (v := .d (.lit (.bool b7))) (aA rfl) rfl rfl) ?_
    obtain ⟨b9, h10, h⟩ := bind_some h
    refine bZ 8 [2, 3] 46 b9 ?_ ?_
    ·refine bF (b7) (fun c36 => ?_) (fun c36 => ?_)
     ·have h10 := aR c36 h10
      refine aN rfl rfl (aA rfl) rfl (aA rfl) rfl c36 ?_
      refine aN rfl rfl (aA rfl) rfl (aA rfl) rfl c36 ?_
      refine aN rfl rfl (aA rfl) rfl (aA rfl) rfl c36 ?_
      refine aN rfl rfl (aA rfl) rfl (aA rfl) rfl c36 ?_
      refine aN rfl rfl (aA rfl) rfl (aA rfl) rfl c36 ?_
      refine aN rfl rfl (aA rfl) rfl (aA rfl) rfl c36 ?_
      refine aN rfl rfl (aA rfl) rfl (aA rfl) rfl c36 ?_
      refine tr1 rfl (bN (v := .d (.lit (.bool true))) (aA rfl) rfl c36 rfl rfl) ?_
      have h10 := Option.some.inj h10
      subst h10
      refine aF (aY rfl ⟨rfl, rfl, trivial⟩ rfl)
     ·have h10 := aQ c36 h10
      refine aL rfl rfl (aA rfl) rfl c36 (aT (aA rfl) rfl iD) ?_
      refine aL rfl rfl (aA rfl) rfl c36 (aV (aA rfl) rfl (i := 0) rfl rfl fU) ?_
      refine aL rfl rfl (aA rfl) rfl c36 (cW (aA rfl) rfl eH.of) ?_
      refine aL rfl rfl (aA rfl) rfl c36 (aT (aA rfl) rfl iD) ?_
      refine aL rfl rfl (aA rfl) rfl c36 (aV (aA rfl) rfl (i := 1) rfl rfl fU) ?_
      refine aL rfl rfl (aA rfl) rfl c36 (cW (aA rfl) rfl eH.of) ?_
      refine aL rfl rfl (aA rfl) rfl c36 (bB (aA rfl) rfl rfl rfl) ?_
      refine tr1 rfl (bO (v := .d (.lit (.bool ((!decide ((a_0.Frozen.length : Int) = (b_1.Frozen.length : Int))))))) (aA rfl) rfl c36 rfl rfl) ?_
      have h10 := Option.some.inj h10
      subst h10
      refine aF (aY rfl ⟨rfl, rfl, trivial⟩ rfl)
    ·refine aF ?_
     refine bI rfl (fun c11 => ?_) (fun c11 => ?_)
     ·have h := aR c11 h
      refine aG ?_
      refine aE ?_
      refine tr1 rfl (aJ (v := .d (.lit (.bool false))) (aA rfl) rfl rfl) ?_
      refine aF ?_
      have h := Option.some.inj h
      subst h
      refine cG (bX (cD (l := [4]) ⟨rfl, trivial⟩)) ?_
      exact bL ⟨rfl, _, .one _, rfl, rfl⟩
     ·have h := aQ c11 h
      refine bG ?_
      refine aG ?_
      refine aG ?_
      refine aE ?_
      refine tr1 rfl (aJ (v := .d (.lit (.int .i64 0))) (aA rfl) rfl rfl) ?_
      refine aF ?_
      refine bQ ?_
      refine cI [2, 3] (fun (s12 : Int) => [(5, .d (.lit (.int .i64 s12)))]) (fun (s12 : Int) => [.box b1 0 (aU a_0), .box b2 0 (aU b_1)]) (fun (k : Nat) (s12 : Int) => hT a_0 b_1 k s12) (fun _ => rfl) (0) h (aW [0, 1] rfl rfl (aM rfl (aX ⟨rfl, rfl, trivial⟩))) ?_
      rintro k13 i_0_12 h
      simp only [hT] at h
      refine aG ?_
      refine aG ?_
      refine aE ?_
      refine tr1 rfl (aC (v := .d (.lit (.int .i64 i_0_12))) (aA rfl) rfl rfl) ?_
      refine tr1 rfl (aT (aA rfl) rfl dS) ?_
      refine tr1 rfl (aV (aA rfl) rfl (i := 0) rfl rfl fT) ?_
      refine tr1 rfl (cW (aA rfl) rfl bP.of) ?_
      refine tr1 rfl (bB (aA rfl) rfl rfl rfl) ?_
      refine aF ?_
      refine bI rfl (fun c14 => ?_) (fun c14 => ?_)
      ·have h := aR c14 h
       refine bG ?_
       refine aG ?_
       refine bQ ?_
       refine aG ?_
       obtain ⟨x15, h16, h⟩ := bind_some h
       obtain ⟨x17, h18, h⟩ := bind_some h
       refine fA mix 10 [2, 3, 5] [(58, .agg (aB x15)), (63, .agg (aB x17))] ?_ ?_
       ·refine ⟨[(54, 0, .bp b1 0 2), (55, 1, .d (.sl 5 (a_0.Reports.map aB))), (56, 2, .d (.lit (.int .i64 i_0_12))), (57, 3, .cp [.lit (.int .i64 x15.Id), .lit (.int .i64 x15.Player), .lit (.int .i64 x15.Week), .lit (.int .i64 x15.Points), .lit (.bool x15.Must)]), (58, 4, .agg (aB x15)), (59, 5, .bp b2 0 2), (60, 6, .d (.sl 5 (b_1.Reports.map aB))), (61, 7, .d (.lit (.int .i64 i_0_12))), (62, 8, .cp [.lit (.int .i64 x17.Id), .lit (.int .i64 x17.Player), .lit (.int .i64 x17.Week), .lit (.int .i64 x17.Points), .lit (.bool x17.Must)]), (63, 9, .agg (aB x17))], ?_, ?_⟩
        · exact ⟨by kernel_rfl, by kernel_rfl, by kernel_rfl, by kernel_rfl, by kernel_rfl, [([], []), ([0], []), ([], []), ([1, 2], []), ([3], []), ([], []), ([5], []), ([], []), ([6, 7], []), ([8], [])], by kernel_rfl, ⟨fun S hS => aI rfl (aP rfl (aT (aA rfl) (aH hS rfl) dS)),
      fun S hS => aI rfl (aP rfl (aV (aA rfl) (aH hS rfl) (i := 0) rfl rfl fT)),
      fun S hS => aI rfl (aP rfl (aC (v := .d (.lit (.int .i64 i_0_12))) (aA rfl) (aH hS rfl) rfl)),
      fun S hS => aI rfl (aP rfl (bM (aA rfl) (aH hS rfl) (aH hS rfl) bP.of (bH aB h16))),
      fun S hS => aI rfl (aP rfl (dZ (aA rfl) (aH hS rfl) dE (es := (aB x15)) rfl rfl)),
      fun S hS => aI rfl (aP rfl (aT (aA rfl) (aH hS rfl) dS)),
      fun S hS => aI rfl (aP rfl (aV (aA rfl) (aH hS rfl) (i := 1) rfl rfl fT)),
      fun S hS => aI rfl (aP rfl (aC (v := .d (.lit (.int .i64 i_0_12))) (aA rfl) (aH hS rfl) rfl)),
      fun S hS => aI rfl (aP rfl (bM (aA rfl) (aH hS rfl) (aH hS rfl) bP.of (bH aB h18))),
      fun S hS => aI rfl (aP rfl (dZ (aA rfl) (aH hS rfl) dE (es := (aB x17)) rfl rfl)), trivial⟩⟩
        · exact dJ (aM rfl (aM rfl (aX ⟨rfl, rfl, rfl, trivial⟩)))
       ·refine tr1 rfl (zR (a := x15) (b := x17) (aA rfl) rfl rfl rfl rfl Tryz.eqGuardType43 wV) ?_
        refine aF ?_
        refine bI rfl (fun c19 => ?_) (fun c19 => ?_)
        ·have h := aR c19 h
         refine aG ?_
         refine aE ?_
         refine tr1 rfl (aJ (v := .d (.lit (.bool false))) (aA rfl) rfl rfl) ?_
         refine aF ?_
         have h := Option.some.inj h
         subst h
         refine cG (bX (cD (l := [4]) ⟨rfl, trivial⟩)) ?_
         exact bL ⟨rfl, _, .one _, rfl, rfl⟩
        ·have h := aQ c19 h
         refine dH ?_
         refine aE ?_
         refine tr1 rfl (aC (v := .d (.lit (.int .i64 i_0_12))) (aA rfl) rfl rfl) ?_
         refine tr1 rfl (bA (aA rfl) rfl rfl rfl) ?_
         refine tr1 rfl (aJ (v := .d (.lit (.int .i64 ((w64 (i_0_12 + 1)))))) (aA rfl) rfl rfl) ?_
         refine aF ?_
         exact ⟨(w64 (i_0_12 + 1)), h, aW [0, 1] rfl rfl (aM rfl (aX ⟨rfl, rfl, trivial⟩))⟩
      ·have h := aQ c14 h
       refine cP ?_
       refine .inl ⟨rfl, ?_⟩
       simp only [mF] at h
       refine aG ?_
       refine aG ?_
       refine aE ?_
       refine tr1 rfl (aJ (v := .d (.lit (.int .i64 0))) (aA rfl) rfl rfl) ?_
       refine aF ?_
       refine bQ ?_
       refine cI [2, 3] (fun (s20 : Int) => [(6, .d (.lit (.int .i64 s20)))]) (fun (s20 : Int) => [.box b1 0 (aU a_0), .box b2 0 (aU b_1)]) (fun (k : Nat) (s20 : Int) => hY a_0 b_1 k s20) (fun _ => rfl) (0) h (aW [0, 1] rfl rfl (aM rfl (aX ⟨rfl, rfl, trivial⟩))) ?_
       rintro k21 i_2_20 h
       simp only [hY] at h
       refine aG ?_
       refine aG ?_
       refine aE ?_
       refine tr1 rfl (aC (v := .d (.lit (.int .i64 i_2_20))) (aA rfl) rfl rfl) ?_
       refine tr1 rfl (aT (aA rfl) rfl jO) ?_
       refine tr1 rfl (aV (aA rfl) rfl (i := 0) rfl rfl fU) ?_
       refine tr1 rfl (cW (aA rfl) rfl eH.of) ?_
       refine tr1 rfl (bB (aA rfl) rfl rfl rfl) ?_
       refine aF ?_
       refine bI rfl (fun c22 => ?_) (fun c22 => ?_)
       ·have h := aR c22 h
        refine bG ?_
        refine aG ?_
        refine bQ ?_
        refine aG ?_
        obtain ⟨x23, h24, h⟩ := bind_some h
        obtain ⟨x25, h26, h⟩ := bind_some h
        refine fA mix 10 [2, 3, 6] [(76, .agg (aK x23)), (81, .agg (aK x25))] ?_ ?_
        ·refine ⟨[(72, 0, .bp b1 0 3), (73, 1, .d (.sl 3 (a_0.Bans.map aK))), (74, 2, .d (.lit (.int .i64 i_2_20))), (75, 3, .cp [.lit (.int .i64 x23.Player), .lit (.int .i64 x23.From), .lit (.int .i64 x23.To)]), (76, 4, .agg (aK x23)), (77, 5, .bp b2 0 3), (78, 6, .d (.sl 3 (b_1.Bans.map aK))), (79, 7, .d (.lit (.int .i64 i_2_20))), (80, 8, .cp [.lit (.int .i64 x25.Player), .lit (.int .i64 x25.From), .lit (.int .i64 x25.To)]), (81, 9, .agg (aK x25))], ?_, ?_⟩
         · exact ⟨by kernel_rfl, by kernel_rfl, by kernel_rfl, by kernel_rfl, by kernel_rfl, [([], []), ([0], []), ([], []), ([1, 2], []), ([3], []), ([], []), ([5], []), ([], []), ([6, 7], []), ([8], [])], by kernel_rfl, ⟨fun S hS => aI rfl (aP rfl (aT (aA rfl) (aH hS rfl) jO)),
      fun S hS => aI rfl (aP rfl (aV (aA rfl) (aH hS rfl) (i := 0) rfl rfl fU)),
      fun S hS => aI rfl (aP rfl (aC (v := .d (.lit (.int .i64 i_2_20))) (aA rfl) (aH hS rfl) rfl)),
      fun S hS => aI rfl (aP rfl (bM (aA rfl) (aH hS rfl) (aH hS rfl) eH.of (bH aK h24))),
      fun S hS => aI rfl (aP rfl (dZ (aA rfl) (aH hS rfl) qX (es := (aK x23)) rfl rfl)),
      fun S hS => aI rfl (aP rfl (aT (aA rfl) (aH hS rfl) jO)),
      fun S hS => aI rfl (aP rfl (aV (aA rfl) (aH hS rfl) (i := 1) rfl rfl fU)),
      fun S hS => aI rfl (aP rfl (aC (v := .d (.lit (.int .i64 i_2_20))) (aA rfl) (aH hS rfl) rfl)),
      fun S hS => aI rfl (aP rfl (bM (aA rfl) (aH hS rfl) (aH hS rfl) eH.of (bH aK h26))),
      fun S hS => aI rfl (aP rfl (dZ (aA rfl) (aH hS rfl) qX (es := (aK x25)) rfl rfl)), trivial⟩⟩
         · exact dJ (aM rfl (aM rfl (aX ⟨rfl, rfl, rfl, trivial⟩)))
        ·refine tr1 rfl (zR (a := x23) (b := x25) (aA rfl) rfl rfl rfl rfl Tryz.eqGuardType70 aFa) ?_
         refine aF ?_
         refine bI rfl (fun c27 => ?_) (fun c27 => ?_)
         ·have h := aR c27 h
          refine aG ?_
          refine aE ?_
          refine tr1 rfl (aJ (v := .d (.lit (.bool false))) (aA rfl) rfl rfl) ?_
          refine aF ?_
          have h := Option.some.inj h
          subst h
          refine cG (bX (cD (l := [4]) ⟨rfl, trivial⟩)) ?_
          exact bL ⟨rfl, _, .one _, rfl, rfl⟩
         ·have h := aQ c27 h
          refine dH ?_
          refine aE ?_
          refine tr1 rfl (aC (v := .d (.lit (.int .i64 i_2_20))) (aA rfl) rfl rfl) ?_
          refine tr1 rfl (bA (aA rfl) rfl rfl rfl) ?_
          refine tr1 rfl (aJ (v := .d (.lit (.int .i64 ((w64 (i_2_20 + 1)))))) (aA rfl) rfl rfl) ?_
          refine aF ?_
          exact ⟨(w64 (i_2_20 + 1)), h, aW [0, 1] rfl rfl (aM rfl (aX ⟨rfl, rfl, trivial⟩))⟩
       ·have h := aQ c22 h
        refine cP ?_
        refine .inl ⟨rfl, ?_⟩
        simp only [mG] at h
        refine aG ?_
        refine aG ?_
        refine aE ?_
        refine tr1 rfl (aJ (v := .d (.lit (.int .i64 0))) (aA rfl) rfl rfl) ?_
        refine aF ?_
        refine bQ ?_
        refine cI [2, 3] (fun (s28 : Int) => [(7, .d (.lit (.int .i64 s28)))]) (fun (s28 : Int) => [.box b1 0 (aU a_0), .box b2 0 (aU b_1)]) (fun (k : Nat) (s28 : Int) => hZ a_0 b_1 k s28) (fun _ => rfl) (0) h (aW [0, 1] rfl rfl (aM rfl (aX ⟨rfl, rfl, trivial⟩))) ?_
        rintro k29 i_4_28 h
        simp only [hZ] at h
        refine aG ?_
        refine aG ?_
        refine aE ?_
        refine tr1 rfl (aC (v := .d (.lit (.int .i64 i_4_28))) (aA rfl) rfl rfl) ?_
        refine tr1 rfl (aT (aA rfl) rfl iD) ?_
        refine tr1 rfl (aV (aA rfl) rfl (i := 0) rfl rfl fU) ?_
        refine tr1 rfl (cW (aA rfl) rfl eH.of) ?_
        refine tr1 rfl (bB (aA rfl) rfl rfl rfl) ?_
        refine aF ?_
        refine bI rfl (fun c30 => ?_) (fun c30 => ?_)
        ·have h := aR c30 h
         refine bG ?_
         refine aG ?_
         refine bQ ?_
         refine aG ?_
         obtain ⟨x31, h32, h⟩ := bind_some h
         obtain ⟨x33, h34, h⟩ := bind_some h
         refine fA mix 10 [2, 3, 7] [(94, .agg (aK x31)), (99, .agg (aK x33))] ?_ ?_
         ·refine ⟨[(90, 0, .bp b1 0 4), (91, 1, .d (.sl 3 (a_0.Frozen.map aK))), (92, 2, .d (.lit (.int .i64 i_4_28))), (93, 3, .cp [.lit (.int .i64 x31.Player), .lit (.int .i64 x31.From), .lit (.int .i64 x31.To)]), (94, 4, .agg (aK x31)), (95, 5, .bp b2 0 4), (96, 6, .d (.sl 3 (b_1.Frozen.map aK))), (97, 7, .d (.lit (.int .i64 i_4_28))), (98, 8, .cp [.lit (.int .i64 x33.Player), .lit (.int .i64 x33.From), .lit (.int .i64 x33.To)]), (99, 9, .agg (aK x33))], ?_, ?_⟩
          · exact ⟨by kernel_rfl, by kernel_rfl, by kernel_rfl, by kernel_rfl, by kernel_rfl, [([], []), ([0], []), ([], []), ([1, 2], []), ([3], []), ([], []), ([5], []), ([], []), ([6, 7], []), ([8], [])], by kernel_rfl, ⟨fun S hS => aI rfl (aP rfl (aT (aA rfl) (aH hS rfl) iD)),
      fun S hS => aI rfl (aP rfl (aV (aA rfl) (aH hS rfl) (i := 0) rfl rfl fU)),
      fun S hS => aI rfl (aP rfl (aC (v := .d (.lit (.int .i64 i_4_28))) (aA rfl) (aH hS rfl) rfl)),
      fun S hS => aI rfl (aP rfl (bM (aA rfl) (aH hS rfl) (aH hS rfl) eH.of (bH aK h32))),
      fun S hS => aI rfl (aP rfl (dZ (aA rfl) (aH hS rfl) qX (es := (aK x31)) rfl rfl)),
      fun S hS => aI rfl (aP rfl (aT (aA rfl) (aH hS rfl) iD)),
      fun S hS => aI rfl (aP rfl (aV (aA rfl) (aH hS rfl) (i := 1) rfl rfl fU)),
      fun S hS => aI rfl (aP rfl (aC (v := .d (.lit (.int .i64 i_4_28))) (aA rfl) (aH hS rfl) rfl)),
      fun S hS => aI rfl (aP rfl (bM (aA rfl) (aH hS rfl) (aH hS rfl) eH.of (bH aK h34))),
      fun S hS => aI rfl (aP rfl (dZ (aA rfl) (aH hS rfl) qX (es := (aK x33)) rfl rfl)), trivial⟩⟩
          · exact dJ (aM rfl (aM rfl (aX ⟨rfl, rfl, rfl, trivial⟩)))
         ·refine tr1 rfl (zR (a := x31) (b := x33) (aA rfl) rfl rfl rfl rfl Tryz.eqGuardType70 aFa) ?_
          refine aF ?_
          refine bI rfl (fun c35 => ?_) (fun c35 => ?_)
          ·have h := aR c35 h
           refine aG ?_
           refine aE ?_
           refine tr1 rfl (aJ (v := .d (.lit (.bool false))) (aA rfl) rfl rfl) ?_
           refine aF ?_
           have h := Option.some.inj h
           subst h
           refine cG (bX (cD (l := [4]) ⟨rfl, trivial⟩)) ?_
           exact bL ⟨rfl, _, .one _, rfl, rfl⟩
          ·have h := aQ c35 h
           refine dH ?_
           refine aE ?_
           refine tr1 rfl (aC (v := .d (.lit (.int .i64 i_4_28))) (aA rfl) rfl rfl) ?_
           refine tr1 rfl (bA (aA rfl) rfl rfl rfl) ?_
           refine tr1 rfl (aJ (v := .d (.lit (.int .i64 ((w64 (i_4_28 + 1)))))) (aA rfl) rfl rfl) ?_
           refine aF ?_
           exact ⟨(w64 (i_4_28 + 1)), h, aW [0, 1] rfl rfl (aM rfl (aX ⟨rfl, rfl, trivial⟩))⟩
        ·have h := aQ c30 h
         refine cP ?_
         refine .inl ⟨rfl, ?_⟩
         simp only [oV] at h
         refine aG ?_
         refine aE ?_
         refine tr1 rfl (aJ (v := .d (.lit (.bool true))) (aA rfl) rfl rfl) ?_
         refine aF ?_
         have h := Option.some.inj h
         subst h
         refine cG (bX (cD (l := [4]) ⟨rfl, trivial⟩)) ?_
         exact bL ⟨rfl, _, .one _, rfl, rfl⟩

theorem uJ (l_0 : aS) (x_1 : nZ) {r : Bool} (h : kX l_0 x_1 = some r) : Fn Tryz.prog 3 [.agg (aU l_0), .agg (qJ x_1)] (.d (.lit (.bool r))) := by
 unfold kX at h
 refine Fn.of_tr Tryz.func3 rfl (rs := [.tmp 4]) Tryz.results3 Tryz.ntmps3 (Nat.le_of_ble_eq_true rfl) ?_
 refine aG ?_
 refine aE ?_
 refine bW rfl (eG (v := .agg (aU l_0)) (aA rfl) rfl rfl rfl) ?_
 rintro _ ⟨b1, rfl⟩
 refine bW rfl (eG (v := .agg (qJ x_1)) (aA rfl) rfl rfl rfl) ?_
 rintro _ ⟨b2, rfl⟩
 refine tr1 rfl (aJ (v := .d (.lit (.bool false))) (aA rfl) rfl rfl) ?_
 refine aF ?_
 refine aG ?_
 refine aG ?_
 refine aE ?_
 refine tr1 rfl (cF (aA rfl) rfl (i := 0) rfl eA (es := (aU l_0)) rfl rfl) ?_
 obtain ⟨r3, h4, h⟩ := bind_some h
 refine tr1 rfl (cB (aA rfl) (.func _ _ Tryz.call4) rfl rfl (BVs.refl _ _) (yQ _ h4) rfl) ?_
 refine tr1 rfl (aC (v := .d (.lit (.bool r3))) (aA rfl) rfl rfl) ?_
 obtain ⟨b5, h6, h⟩ := bind_some h
 refine bZ 4 [2, 3] 24 b5 ?_ ?_
 ·refine bF (r3) (fun c57 => ?_) (fun c57 => ?_)
  ·have h6 := aR c57 h6
   refine aN rfl rfl (aA rfl) rfl (aA rfl) rfl c57 ?_
   refine aN rfl rfl (aA rfl) rfl (aA rfl) rfl c57 ?_
   refine aN rfl rfl (aA rfl) rfl (aA rfl) rfl c57 ?_
   refine tr1 rfl (bN (v := .d (.lit (.bool true))) (aA rfl) rfl c57 rfl rfl) ?_
   have h6 := Option.some.inj h6
   subst h6
   refine aF (aY rfl ⟨rfl, rfl, trivial⟩ rfl)
  ·have h6 := aQ c57 h6
   refine aL rfl rfl (aA rfl) rfl c57 (aT (aA rfl) rfl qK) ?_
   refine aL rfl rfl (aA rfl) rfl c57 (aV (aA rfl) rfl (i := 1) rfl rfl bE) ?_
   obtain ⟨r58, h59, h6⟩ := bind_some h6
   refine aL rfl rfl (aA rfl) rfl c57 (cB (aA rfl) (.func _ _ Tryz.call5) rfl rfl (BVs.refl _ _) (xW _ h59) rfl) ?_
   refine tr1 rfl (bO (v := .d (.lit (.bool r58))) (aA rfl) rfl c57 rfl rfl) ?_
   have h6 := Option.some.inj h6
   subst h6
   refine aF (aY rfl ⟨rfl, rfl, trivial⟩ rfl)
 ·refine aF ?_
  refine bI rfl (fun c7 => ?_) (fun c7 => ?_)
  ·have h := aR c7 h
   refine aG ?_
   refine aE ?_
   obtain ⟨r8, h9, h⟩ := bind_some h
   refine tr1 rfl (cB (aA rfl) (.func _ _ Tryz.call6) rfl rfl (BVs.refl _ _) (sI h9) rfl) ?_
   refine tr1 rfl (aJ (v := .d (.lit (.bool r8))) (aA rfl) rfl rfl) ?_
   refine aF ?_
   have h := Option.some.inj h
   subst h
   refine cG (bX (cD (l := [4]) ⟨rfl, trivial⟩)) ?_
   exact bL ⟨rfl, _, .one _, rfl, rfl⟩
  ·have h := aQ c7 h
   refine bG ?_
   refine aG ?_
   refine aE ?_
   refine tr1 rfl (cF (aA rfl) rfl (i := 0) rfl eA (es := (aU l_0)) rfl rfl) ?_
   obtain ⟨r10, h11, h⟩ := bind_some h
   refine tr1 rfl (jA (aA rfl) (.func _ _ Tryz.call7) rfl rfl (xY _ h11)) ?_
   refine bW rfl (fR (zs := [.lit (.int .i64 0), .lit (.int .i64 0), .sl 5 ((([] : List aD)).map aB), .sl 3 ((([] : List bC)).map aK), .sl 3 ((([] : List bC)).map aK)]) (aA rfl) Tryz.zeroValue25 rfl rfl) ?_
   rintro _ ⟨b12, rfl⟩
   refine tr1 rfl (cJ (i := 2) rfl rfl rfl rfl rfl Tryz.sizeOf25 rfl (aA rfl) (Nat.le_of_ble_eq_true rfl) (ds' := (aU r10)) rfl) ?_
   refine aF ?_
   refine aG ?_
   refine aG ?_
   obtain ⟨r13, h14, h⟩ := bind_some h
   refine fA mix 3 [2, 3, 5] [(29, .d (.lit (.int .i64 r13))), (30, .agg (aU l_0))] ?_ ?_
   ·refine ⟨[(28, 0, .agg (aU r10)), (29, 1, .d (.lit (.int .i64 r13))), (30, 2, .agg (aU l_0))], ?_, ?_⟩
    · exact ⟨by kernel_rfl, by kernel_rfl, by kernel_rfl, by kernel_rfl, by kernel_rfl, [([], []), ([0], []), ([], [])], by kernel_rfl, ⟨fun S hS => aI rfl (aP rfl (cF (aA rfl) (aH hS rfl) (i := 2) rfl eA (es := (aU r10)) rfl rfl)),
      fun S hS => aI rfl (aP rfl (cB (aA rfl) (.func _ _ Tryz.call8) (ev2 (aH hS rfl) evn) rfl (BVs.refl _ _) (xF _ h14) rfl)),
      fun S hS => aI rfl (aP rfl (cF (aA rfl) (aH hS rfl) (i := 0) rfl eA (es := (aU l_0)) rfl rfl)), trivial⟩⟩
    · exact dJ (aM rfl (aM rfl (aX ⟨rfl, rfl, rfl, trivial⟩)))
   ·obtain ⟨r15, h16, h⟩ := bind_some h
    refine tr1 rfl (cB (aA rfl) (.func _ _ Tryz.call9) rfl rfl (BVs.refl _ _) (mH _ h16) rfl) ?_
    refine tr1 rfl (bB (aA rfl) rfl rfl rfl) ?_
    refine aF ?_
    refine bI rfl (fun c17 => ?_) (fun c17 => ?_)
    ·have h := aR c17 h
     refine aG ?_
     refine aE ?_
     refine tr1 rfl (aJ (v := .d (.lit (.bool false))) (aA rfl) rfl rfl) ?_
     refine aF ?_
     have h := Option.some.inj h
     subst h
     refine cG (bX (cD (l := [4]) ⟨rfl, trivial⟩)) ?_
     exact bL ⟨rfl, _, .one _, rfl, rfl⟩
    ·have h := aQ c17 h
     refine bG ?_
     refine aG ?_
     refine aE ?_
     refine tr1 rfl (cF (aA rfl) rfl (i := 2) rfl eA (es := (aU r10)) rfl rfl) ?_
     refine tr1 rfl (aT (aA rfl) rfl aBu) ?_
     refine tr1 rfl (aV (aA rfl) rfl (i := 1) rfl rfl bE) ?_
     refine tr1 rfl (aT (aA rfl) rfl qK) ?_
     refine tr1 rfl (aV (aA rfl) rfl (i := 1) rfl rfl bE) ?_
     obtain ⟨r18, h19, h⟩ := bind_some h
     refine tr1 rfl (cB (aA rfl) (.func _ _ Tryz.call10) rfl rfl (BVs.refl _ _) (aEl _ _ _ h19) rfl) ?_
     refine tr1 rfl (aC (v := .tup [.d (.lit (.int .i64 r18.1)), .d (.lit (.int .i64 r18.2))]) (aA rfl) rfl rfl) ?_
     refine tr1 rfl (cL (aA rfl) rfl rfl) ?_
     refine tr1 rfl (cL (aA rfl) rfl rfl) ?_
     refine tr1 rfl (aJ (v := .d (.lit (.int .i64 r18.1))) (aA rfl) rfl rfl) ?_
     refine tr1 rfl (aJ (v := .d (.lit (.int .i64 r18.2))) (aA rfl) rfl rfl) ?_
     refine aF ?_
     refine aG ?_
     refine aE ?_
     refine tr1 rfl (cF (aA rfl) rfl (i := 0) rfl eA (es := (aU l_0)) rfl rfl) ?_
     refine tr1 rfl (aT (aA rfl) rfl aBu) ?_
     refine tr1 rfl (aV (aA rfl) rfl (i := 1) rfl rfl bE) ?_
     refine tr1 rfl (aT (aA rfl) rfl qK) ?_
     refine tr1 rfl (aV (aA rfl) rfl (i := 1) rfl rfl bE) ?_
     obtain ⟨r20, h21, h⟩ := bind_some h
     refine tr1 rfl (cB (aA rfl) (.func _ _ Tryz.call11) rfl rfl (BVs.refl _ _) (yR _ _ _ h21) rfl) ?_
     refine tr1 rfl (aC (v := .tup [.d (.lit (.int .i64 r20.1)), .d (.lit (.int .i64 r20.2))]) (aA rfl) rfl rfl) ?_
     refine tr1 rfl (cL (aA rfl) rfl rfl) ?_
     refine tr1 rfl (cL (aA rfl) rfl rfl) ?_
     refine tr1 rfl (aJ (v := .d (.lit (.int .i64 r20.1))) (aA rfl) rfl rfl) ?_
     refine tr1 rfl (aJ (v := .d (.lit (.int .i64 r20.2))) (aA rfl) rfl rfl) ?_
     refine aF ?_
     refine aG ?_
     refine aE ?_
     refine tr1 rfl (cF (aA rfl) rfl (i := 2) rfl eA (es := (aU r10)) rfl rfl) ?_
     refine tr1 rfl (aT (aA rfl) rfl vQ) ?_
     refine tr1 rfl (aV (aA rfl) rfl (i := 1) rfl rfl bE) ?_
     refine tr1 rfl (aT (aA rfl) rfl qK) ?_
     refine tr1 rfl (aV (aA rfl) rfl (i := 1) rfl rfl bE) ?_
     obtain ⟨r22, h23, h⟩ := bind_some h
     refine tr1 rfl (jA (aA rfl) (.func _ _ Tryz.call12) rfl rfl (aCg _ _ _ h23)) ?_
     refine tr1 rfl (aC (v := .tup [.d (.sl 1 (r22.1.map cE)), .d (.lit (.int .i64 r22.2))]) (aA rfl) rfl rfl) ?_
     refine tr1 rfl (cL (aA rfl) rfl rfl) ?_
     refine tr1 rfl (cL (aA rfl) rfl rfl) ?_
     refine tr1 rfl (aJ (v := .d (.sl 1 (r22.1.map cE))) (aA rfl) rfl rfl) ?_
     refine tr1 rfl (aJ (v := .d (.lit (.int .i64 r22.2))) (aA rfl) rfl rfl) ?_
     refine aF ?_
     refine aG ?_
     refine aE ?_
     refine tr1 rfl (cF (aA rfl) rfl (i := 0) rfl eA (es := (aU l_0)) rfl rfl) ?_
     refine tr1 rfl (aT (aA rfl) rfl vQ) ?_
     refine tr1 rfl (aV (aA rfl) rfl (i := 1) rfl rfl bE) ?_
     refine tr1 rfl (aT (aA rfl) rfl qK) ?_
     refine tr1 rfl (aV (aA rfl) rfl (i := 1) rfl rfl bE) ?_
     obtain ⟨r24, h25, h⟩ := bind_some h
     refine tr1 rfl (jA (aA rfl) (.func _ _ Tryz.call13) rfl rfl (wT _ _ _ h25)) ?_
     refine tr1 rfl (aC (v := .tup [.d (.sl 1 (r24.1.map cE)), .d (.lit (.int .i64 r24.2))]) (aA rfl) rfl rfl) ?_
     refine tr1 rfl (cL (aA rfl) rfl rfl) ?_
     refine tr1 rfl (cL (aA rfl) rfl rfl) ?_
     refine tr1 rfl (aJ (v := .d (.sl 1 (r24.1.map cE))) (aA rfl) rfl rfl) ?_
     refine tr1 rfl (aJ (v := .d (.lit (.int .i64 r24.2))) (aA rfl) rfl rfl) ?_
     refine aF ?_
     refine aG ?_
     refine aE ?_
     refine tr1 rfl (cF (aA rfl) rfl (i := 2) rfl eA (es := (aU r10)) rfl rfl) ?_
     refine tr1 rfl (aT (aA rfl) rfl vQ) ?_
     refine tr1 rfl (aV (aA rfl) rfl (i := 1) rfl rfl bE) ?_
     refine tr1 rfl (aT (aA rfl) rfl qK) ?_
     refine tr1 rfl (aV (aA rfl) rfl (i := 1) rfl rfl bE) ?_
     obtain ⟨r26, h27, h⟩ := bind_some h
     refine tr1 rfl (cB (aA rfl) (.func _ _ Tryz.call14) rfl rfl (BVs.refl _ _) (aBa _ _ _ h27) rfl) ?_
     refine tr1 rfl (aC (v := .tup [.d (.lit (.int .i64 r26.1)), .d (.lit (.int .i64 r26.2))]) (aA rfl) rfl rfl) ?_
     refine tr1 rfl (cL (aA rfl) rfl rfl) ?_
     refine tr1 rfl (cL (aA rfl) rfl rfl) ?_
     refine tr1 rfl (aJ (v := .d (.lit (.int .i64 r26.1))) (aA rfl) rfl rfl) ?_
     refine tr1 rfl (aJ (v := .d (.lit (.int .i64 r26.2))) (aA rfl) rfl rfl) ?_
     refine aF ?_
     refine aG ?_
     refine aE ?_
     refine tr1 rfl (cF (aA rfl) rfl (i := 0) rfl eA (es := (aU l_0)) rfl rfl) ?_
     refine tr1 rfl (aT (aA rfl) rfl vQ) ?_
     refine tr1 rfl (aV (aA rfl) rfl (i := 1) rfl rfl bE) ?_
     refine tr1 rfl (aT (aA rfl) rfl qK) ?_
     refine tr1 rfl (aV (aA rfl) rfl (i := 1) rfl rfl bE) ?_
     obtain ⟨r28, h29, h⟩ := bind_some h
     refine tr1 rfl (cB (aA rfl) (.func _ _ Tryz.call15) rfl rfl (BVs.refl _ _) (wI _ _ _ h29) rfl) ?_
     refine tr1 rfl (aC (v := .tup [.d (.lit (.int .i64 r28.1)), .d (.lit (.int .i64 r28.2))]) (aA rfl) rfl rfl) ?_
     refine tr1 rfl (cL (aA rfl) rfl rfl) ?_
     refine tr1 rfl (cL (aA rfl) rfl rfl) ?_
     refine tr1 rfl (aJ (v := .d (.lit (.int .i64 r28.1))) (aA rfl) rfl rfl) ?_
     refine tr1 rfl (aJ (v := .d (.lit (.int .i64 r28.2))) (aA rfl) rfl rfl) ?_
     refine aF ?_
     refine aG ?_
     refine aE ?_
     refine tr1 rfl (aC (v := .d (.lit (.int .i64 r18.1))) (aA rfl) rfl rfl) ?_
     refine tr1 rfl (aC (v := .d (.lit (.int .i64 r20.1))) (aA rfl) rfl rfl) ?_
     refine tr1 rfl (bB (aA rfl) rfl rfl rfl) ?_
     refine tr1 rfl (aC (v := .d (.lit (.bool ((decide (r18.1 = r20.1)))))) (aA rfl) rfl rfl) ?_
     obtain ⟨b30, h31, h⟩ := bind_some h
     refine bZ 4 [2, 5, 10, 11, 12, 13, 14, 15, 16, 17] 94 b30 ?_ ?_
     ·refine bF (decide (r18.1 = r20.1)) (fun c56 => ?_) (fun c56 => ?_)
      ·have h31 := aR c56 h31
       refine aL rfl rfl (aA rfl) rfl c56 (aC (v := .d (.lit (.int .i64 r18.2))) (aA rfl) rfl rfl) ?_
       refine aL rfl rfl (aA rfl) rfl c56 (aC (v := .d (.lit (.int .i64 r20.2))) (aA rfl) rfl rfl) ?_
       refine aL rfl rfl (aA rfl) rfl c56 (bB (aA rfl) rfl rfl rfl) ?_
       refine tr1 rfl (bN (v := .d (.lit (.bool ((decide (r18.2 = r20.2)))))) (aA rfl) rfl c56 rfl rfl) ?_
       have h31 := Option.some.inj h31
       subst h31
       refine aF (aY rfl ⟨rfl, rfl, rfl, rfl, rfl, rfl, rfl, rfl, rfl, rfl, trivial⟩ rfl)
      ·have h31 := aQ c56 h31
       refine aN rfl rfl (aA rfl) rfl (aA rfl) rfl c56 ?_
       refine aN rfl rfl (aA rfl) rfl (aA rfl) rfl c56 ?_
       refine aN rfl rfl (aA rfl) rfl (aA rfl) rfl c56 ?_
       refine tr1 rfl (bO (v := .d (.lit (.bool false))) (aA rfl) rfl c56 rfl rfl) ?_
       have h31 := Option.some.inj h31
       subst h31
       refine aF (aY rfl ⟨rfl, rfl, rfl, rfl, rfl, rfl, rfl, rfl, rfl, rfl, trivial⟩ rfl)
     ·refine tr1 rfl (aC (v := .d (.lit (.bool b30))) (aA rfl) rfl rfl) ?_
      obtain ⟨b32, h33, h⟩ := bind_some h
      refine bZ 4 [2, 5, 11, 13, 14, 15, 16, 17] 99 b32 ?_ ?_
      ·refine bF (b30) (fun c53 => ?_) (fun c53 => ?_)
       ·have h33 := aR c53 h33
        refine aL rfl rfl (aA rfl) rfl c53 (aC (v := .d (.sl 1 (r22.1.map cE))) (aA rfl) rfl rfl) ?_
        refine aL rfl rfl (aA rfl) rfl c53 (aC (v := .d (.sl 1 (r24.1.map cE))) (aA rfl) rfl rfl) ?_
        obtain ⟨r54, h55, h33⟩ := bind_some h33
        refine aL rfl rfl (aA rfl) rfl c53 (cB (aA rfl) (.func _ _ Tryz.call16) rfl rfl (BVs.refl _ _) (qS _ _ h55) rfl) ?_
        refine tr1 rfl (bN (v := .d (.lit (.bool r54))) (aA rfl) rfl c53 rfl rfl) ?_
        have h33 := Option.some.inj h33
        subst h33
        refine aF (aY rfl ⟨rfl, rfl, rfl, rfl, rfl, rfl, rfl, rfl, trivial⟩ rfl)
       ·have h33 := aQ c53 h33
        refine aN rfl rfl (aA rfl) rfl (aA rfl) rfl c53 ?_
        refine aN rfl rfl (aA rfl) rfl (aA rfl) rfl c53 ?_
        refine aN rfl rfl (aA rfl) rfl (aA rfl) rfl c53 ?_
        refine tr1 rfl (bO (v := .d (.lit (.bool false))) (aA rfl) rfl c53 rfl rfl) ?_
        have h33 := Option.some.inj h33
        subst h33
        refine aF (aY rfl ⟨rfl, rfl, rfl, rfl, rfl, rfl, rfl, rfl, trivial⟩ rfl)
      ·refine tr1 rfl (aC (v := .d (.lit (.bool b32))) (aA rfl) rfl rfl) ?_
       obtain ⟨b34, h35, h⟩ := bind_some h
       refine bZ 4 [2, 5, 14, 15, 16, 17] 104 b34 ?_ ?_
       ·refine bF (b32) (fun c52 => ?_) (fun c52 => ?_)
        ·have h35 := aR c52 h35
         refine aL rfl rfl (aA rfl) rfl c52 (aC (v := .d (.lit (.int .i64 r22.2))) (aA rfl) rfl rfl) ?_
         refine aL rfl rfl (aA rfl) rfl c52 (aC (v := .d (.lit (.int .i64 r24.2))) (aA rfl) rfl rfl) ?_
         refine aL rfl rfl (aA rfl) rfl c52 (bB (aA rfl) rfl rfl rfl) ?_
         refine tr1 rfl (bN (v := .d (.lit (.bool ((decide (r22.2 = r24.2)))))) (aA rfl) rfl c52 rfl rfl) ?_
         have h35 := Option.some.inj h35
         subst h35
         refine aF (aY rfl ⟨rfl, rfl, rfl, rfl, rfl, rfl, trivial⟩ rfl)
        ·have h35 := aQ c52 h35
         refine aN rfl rfl (aA rfl) rfl (aA rfl) rfl c52 ?_
         refine aN rfl rfl (aA rfl) rfl (aA rfl) rfl c52 ?_
         refine aN rfl rfl (aA rfl) rfl (aA rfl) rfl c52 ?_
         refine tr1 rfl (bO (v := .d (.lit (.bool false))) (aA rfl) rfl c52 rfl rfl) ?_
         have h35 := Option.some.inj h35
         subst h35
         refine aF (aY rfl ⟨rfl, rfl, rfl, rfl, rfl, rfl, trivial⟩ rfl)
       ·refine tr1 rfl (aC (v := .d (.lit (.bool b34))) (aA rfl) rfl rfl) ?_
        obtain ⟨b36, h37, h⟩ := bind_some h
        refine bZ 4 [2, 5, 15, 17] 109 b36 ?_ ?_
        ·refine bF (b34) (fun c51 => ?_) (fun c51 => ?_)
         ·have h37 := aR c51 h37
          refine aL rfl rfl (aA rfl) rfl c51 (aC (v := .d (.lit (.int .i64 r26.1))) (aA rfl) rfl rfl) ?_
          refine aL rfl rfl (aA rfl) rfl c51 (aC (v := .d (.lit (.int .i64 r28.1))) (aA rfl) rfl rfl) ?_
          refine aL rfl rfl (aA rfl) rfl c51 (bB (aA rfl) rfl rfl rfl) ?_
          refine tr1 rfl (bN (v := .d (.lit (.bool ((decide (r26.1 = r28.1)))))) (aA rfl) rfl c51 rfl rfl) ?_
          have h37 := Option.some.inj h37
          subst h37
          refine aF (aY rfl ⟨rfl, rfl, rfl, rfl, trivial⟩ rfl)
         ·have h37 := aQ c51 h37
          refine aN rfl rfl (aA rfl) rfl (aA rfl) rfl c51 ?_
          refine aN rfl rfl (aA rfl) rfl (aA rfl) rfl c51 ?_
          refine aN rfl rfl (aA rfl) rfl (aA rfl) rfl c51 ?_
          refine tr1 rfl (bO (v := .d (.lit (.bool false))) (aA rfl) rfl c51 rfl rfl) ?_
          have h37 := Option.some.inj h37
          subst h37
          refine aF (aY rfl ⟨rfl, rfl, rfl, rfl, trivial⟩ rfl)
        ·refine tr1 rfl (aC (v := .d (.lit (.bool b36))) (aA rfl) rfl rfl) ?_
         obtain ⟨b38, h39, h⟩ := bind_some h
         refine bZ 4 [2, 5] 114 b38 ?_ ?_
         ·refine bF (b36) (fun c50 => ?_) (fun c50 => ?_)
          ·have h39 := aR c50 h39
           refine aL rfl rfl (aA rfl) rfl c50 (aC (v := .d (.lit (.int .i64 r26.2))) (aA rfl) rfl rfl) ?_
           refine aL rfl rfl (aA rfl) rfl c50 (aC (v := .d (.lit (.int .i64 r28.2))) (aA rfl) rfl rfl) ?_
           refine aL rfl rfl (aA rfl) rfl c50 (bB (aA rfl) rfl rfl rfl) ?_
           refine tr1 rfl (bN (v := .d (.lit (.bool ((decide (r26.2 = r28.2)))))) (aA rfl) rfl c50 rfl rfl) ?_
           have h39 := Option.some.inj h39
           subst h39
           refine aF (aY rfl ⟨rfl, rfl, trivial⟩ rfl)
          ·have h39 := aQ c50 h39
           refine aN rfl rfl (aA rfl) rfl (aA rfl) rfl c50 ?_
           refine aN rfl rfl (aA rfl) rfl (aA rfl) rfl c50 ?_
           refine aN rfl rfl (aA rfl) rfl (aA rfl) rfl c50 ?_
           refine tr1 rfl (bO (v := .d (.lit (.bool false))) (aA rfl) rfl c50 rfl rfl) ?_
           have h39 := Option.some.inj h39
           subst h39
           refine aF (aY rfl ⟨rfl, rfl, trivial⟩ rfl)
         ·refine tr1 rfl (aC (v := .d (.lit (.bool b38))) (aA rfl) rfl rfl) ?_
          obtain ⟨b40, h41, h⟩ := bind_some h
          refine bZ 4 [] 119 b40 ?_ ?_
          ·refine bF (b38) (fun c47 => ?_) (fun c47 => ?_)
           ·have h41 := aR c47 h41
            refine aL rfl rfl (aA rfl) rfl c47 (cF (aA rfl) rfl (i := 2) rfl eA (es := (aU r10)) rfl rfl) ?_
            refine aL rfl rfl (aA rfl) rfl c47 (cF (aA rfl) rfl (i := 0) rfl eA (es := (aU l_0)) rfl rfl) ?_
            obtain ⟨r48, h49, h41⟩ := bind_some h41
            refine aL rfl rfl (aA rfl) rfl c47 (cB (aA rfl) (.func _ _ Tryz.call17) rfl rfl (BVs.refl _ _) (xX _ _ h49) rfl) ?_
            refine tr1 rfl (bN (v := .d (.lit (.bool r48))) (aA rfl) rfl c47 rfl rfl) ?_
            have h41 := Option.some.inj h41
            subst h41
            refine aF (aY rfl trivial rfl)
           ·have h41 := aQ c47 h41
            refine aN rfl rfl (aA rfl) rfl (aA rfl) rfl c47 ?_
            refine aN rfl rfl (aA rfl) rfl (aA rfl) rfl c47 ?_
            refine aN rfl rfl (aA rfl) rfl (aA rfl) rfl c47 ?_
            refine tr1 rfl (bO (v := .d (.lit (.bool false))) (aA rfl) rfl c47 rfl rfl) ?_
            have h41 := Option.some.inj h41
            subst h41
            refine aF (aY rfl trivial rfl)
          ·refine tr1 rfl (aC (v := .d (.lit (.bool b40))) (aA rfl) rfl rfl) ?_
           obtain ⟨b42, h43, h⟩ := bind_some h
           refine bZ 2 [] 122 b42 ?_ ?_
           ·refine bF (b40) (fun c44 => ?_) (fun c44 => ?_)
            ·have h43 := aR c44 h43
             obtain ⟨r45, h46, h43⟩ := bind_some h43
             refine aL rfl rfl (aA rfl) rfl c44 (cB (aA rfl) (.func _ _ Tryz.call6) rfl rfl (BVs.refl _ _) (sI h46) rfl) ?_
             refine tr1 rfl (bN (v := .d (.lit (.bool r45))) (aA rfl) rfl c44 rfl rfl) ?_
             have h43 := Option.some.inj h43
             subst h43
             refine aF (aY rfl trivial rfl)
            ·have h43 := aQ c44 h43
             refine aN rfl rfl (aA rfl) rfl (aA rfl) rfl c44 ?_
             refine tr1 rfl (bO (v := .d (.lit (.bool false))) (aA rfl) rfl c44 rfl rfl) ?_
             have h43 := Option.some.inj h43
             subst h43
             refine aF (aY rfl trivial rfl)
           ·refine tr1 rfl (aJ (v := .d (.lit (.bool b42))) (aA rfl) rfl rfl) ?_
            refine aF ?_
            have h := Option.some.inj h
            subst h
            refine cG (bX (cD (l := [4]) ⟨rfl, trivial⟩)) ?_
            exact bL ⟨rfl, _, .one _, rfl, rfl⟩

end Go.Am
