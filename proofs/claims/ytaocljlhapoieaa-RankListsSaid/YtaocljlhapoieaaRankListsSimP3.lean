/- The functions compute what the shallow ones say: printed by program. -/
import Derived.Test.YtaocljlhapoieaaRankListsSimP2
namespace Go.Am
open Go.Proofs
set_option maxRecDepth 100000
set_option maxHeartbeats 4000000

theorem yL (l_0 : aN) (player_1 : Int) (week_2 : Int) {r : (List aE)} (h : nF l_0 player_1 week_2 = some r) : Fn Try.prog 96 [.agg (aT l_0), .d (.lit (.int .i64 player_1)), .d (.lit (.int .i64 week_2))] (.d (.sl 5 (r.map aC))) := by
 unfold nF at h
 refine Fn.of_tr Try.func96 rfl (rs := [.tmp 6]) Try.results96 Try.ntmps96 (Nat.le_of_ble_eq_true rfl) ?_
 refine aG ?_
 refine aD ?_
 refine bQ rfl (eD (v := .agg (aT l_0)) (aA rfl) rfl rfl rfl) ?_
 rintro _ ⟨b1, rfl⟩
 refine tr1 rfl (pM 5 (aA rfl)) ?_
 refine aF ?_
 refine aG ?_
 refine aD ?_
 refine tr1 rfl (cA (aA rfl) rfl (i := 0) rfl dI (es := (aT l_0)) rfl rfl) ?_
 refine tr1 rfl (aB (v := .d (.lit (.int .i64 player_1))) (aA rfl) rfl rfl) ?_
 refine tr1 rfl (aB (v := .d (.lit (.int .i64 week_2))) (aA rfl) rfl rfl) ?_
 obtain ⟨r2, h3, h⟩ := bind_some h
 refine tr1 rfl (iB (aA rfl) (.func _ _ Try.call39) rfl rfl (mG _ _ _ h3)) ?_
 refine tr1 rfl (aJ (v := .d (.sl 5 (r2.map aC))) (aA rfl) rfl rfl) ?_
 refine aF ?_
 refine aG ?_
 refine aD ?_
 refine tr1 rfl (aJ (v := .d (.lit (.int .i64 0))) (aA rfl) rfl rfl) ?_
 refine aF ?_
 refine aG ?_
 refine aG ?_
 refine aD ?_
 refine tr1 rfl (aJ (v := .d (.lit (.int .i64 0))) (aA rfl) rfl rfl) ?_
 refine aF ?_
 refine bP ?_
 refine cJ [3, 7] (fun (s4 : Int × Int) => [(8, .d (.lit (.int .i64 s4.1))), (9, .d (.lit (.int .i64 s4.2)))]) (fun (s4 : Int × Int) => [.box b1 0 (aT l_0)]) (fun (k : Nat) (s4 : Int × Int) => fY r2 l_0 k s4.1 s4.2) (fun _ => rfl) (0, 0) h (aX [0] rfl rfl (aL rfl (aL rfl (aY ⟨rfl, rfl, trivial⟩)))) ?_
 rintro k5 ⟨must_0_4, i_0_4⟩ h
 simp only [fY] at h
 refine aG ?_
 refine aG ?_
 refine aD ?_
 refine tr1 rfl (aB (v := .d (.lit (.int .i64 i_0_4))) (aA rfl) rfl rfl) ?_
 refine tr1 rfl (aB (v := .d (.sl 5 (r2.map aC))) (aA rfl) rfl rfl) ?_
 refine tr1 rfl (dB (aA rfl) rfl bR.of) ?_
 refine tr1 rfl (bB (aA rfl) rfl rfl rfl) ?_
 refine aF ?_
 refine bH rfl (fun c6 => ?_) (fun c6 => ?_)
 ·have h := aS c6 h
  refine bF ?_
  refine aG ?_
  refine bP ?_
  refine aG ?_
  refine aD ?_
  refine tr1 rfl (aB (v := .d (.sl 5 (r2.map aC))) (aA rfl) rfl rfl) ?_
  refine tr1 rfl (aB (v := .d (.lit (.int .i64 i_0_4))) (aA rfl) rfl rfl) ?_
  obtain ⟨x7, h8, h⟩ := bind_some h
  refine tr1 rfl (bM (aA rfl) rfl rfl bR.of (bK aC h8)) ?_
  refine tr1 rfl (cC (aA rfl) rfl kZ (es := [.lit (.bool x7.Must)]) rfl) ?_
  refine tr1 rfl (bZ (aA rfl) rfl oX) ?_
  refine aF ?_
  refine bH rfl (fun c9 => ?_) (fun c9 => ?_)
  ·have h := aS c9 h
   refine aD ?_
   refine tr1 rfl (aB (v := .d (.lit (.int .i64 must_0_4))) (aA rfl) rfl rfl) ?_
   refine tr1 rfl (aZ (aA rfl) rfl rfl rfl) ?_
   refine tr1 rfl (aJ (v := .d (.lit (.int .i64 ((w64 (must_0_4 + 1)))))) (aA rfl) rfl rfl) ?_
   refine dA ?_
   refine aD ?_
   refine tr1 rfl (aB (v := .d (.lit (.int .i64 i_0_4))) (aA rfl) rfl rfl) ?_
   refine tr1 rfl (aZ (aA rfl) rfl rfl rfl) ?_
   refine tr1 rfl (aJ (v := .d (.lit (.int .i64 ((w64 (i_0_4 + 1)))))) (aA rfl) rfl rfl) ?_
   refine aF ?_
   exact ⟨(w64 (must_0_4 + 1), w64 (i_0_4 + 1)), h, aX [0] rfl rfl (aL rfl (aL rfl (aY ⟨rfl, rfl, trivial⟩)))⟩
  ·have h := aR c9 h
   refine dK ?_
   refine aD ?_
   refine tr1 rfl (aB (v := .d (.lit (.int .i64 i_0_4))) (aA rfl) rfl rfl) ?_
   refine tr1 rfl (aZ (aA rfl) rfl rfl rfl) ?_
   refine tr1 rfl (aJ (v := .d (.lit (.int .i64 ((w64 (i_0_4 + 1)))))) (aA rfl) rfl rfl) ?_
   refine aF ?_
   exact ⟨(must_0_4, w64 (i_0_4 + 1)), h, aX [0] rfl rfl (aL rfl (aL rfl (aY ⟨rfl, rfl, trivial⟩)))⟩
 ·have h := aR c6 h
  refine cQ ?_
  refine .inl ⟨rfl, ?_⟩
  simp only [nP] at h
  refine aG ?_
  refine aD ?_
  refine tr1 rfl (hZ 42 5 (.inl rfl) (aA rfl)) ?_
  refine aF ?_
  refine aG ?_
  refine aG ?_
  refine aD ?_
  refine tr1 rfl (aJ (v := .d (.lit (.int .i64 0))) (aA rfl) rfl rfl) ?_
  refine aF ?_
  refine bP ?_
  refine cJ [3, 7, 8] (fun (s11 : Int × (List aE) × Value) => [(10, .d (.lit s11.2.2)), (11, .d (.lit (.int .i64 s11.1)))]) (fun (s11 : Int × (List aE) × Value) => [.box b1 0 (aT l_0), .arr s11.2.2 42 5 (s11.2.1.map aC)]) (fun (k : Nat) (s11 : Int × (List aE) × Value) => fH r2 must_0_4 l_0 k s11.1 s11.2.1) (fun _ => rfl) (0, ([] : List aE), (.slice none 0 0)) h (aX [0, 1] rfl rfl (aL rfl (aL rfl (aY ⟨rfl, rfl, rfl, trivial⟩)))) ?_
  rintro k13 ⟨i_2_11, out_2_11, w12⟩ h
  simp only [fH] at h
  refine aG ?_
  refine aG ?_
  refine aD ?_
  refine tr1 rfl (aB (v := .d (.lit (.int .i64 i_2_11))) (aA rfl) rfl rfl) ?_
  refine tr1 rfl (aB (v := .d (.sl 5 (r2.map aC))) (aA rfl) rfl rfl) ?_
  refine tr1 rfl (dB (aA rfl) rfl bR.of) ?_
  refine tr1 rfl (bB (aA rfl) rfl rfl rfl) ?_
  refine aF ?_
  refine bH rfl (fun c14 => ?_) (fun c14 => ?_)
  ·have h := aS c14 h
   refine bF ?_
   refine aG ?_
   refine bP ?_
   refine aG ?_
   refine aD ?_
   refine tr1 rfl (aJ (v := .d (.lit (.int .i64 0))) (aA rfl) rfl rfl) ?_
   refine aF ?_
   refine aG ?_
   refine aG ?_
   refine aD ?_
   refine tr1 rfl (aJ (v := .d (.lit (.int .i64 0))) (aA rfl) rfl rfl) ?_
   refine aF ?_
   refine bP ?_
   refine cJ [3, 7, 8, 10, 11] (fun (s15 : Int × Int) => [(12, .d (.lit (.int .i64 s15.1))), (13, .d (.lit (.int .i64 s15.2)))]) (fun (s15 : Int × Int) => [.box b1 0 (aT l_0), .arr w12 42 5 (out_2_11.map aC)]) (fun (k : Nat) (s15 : Int × Int) => gT (fH r2 must_0_4 l_0 k13) r2 must_0_4 i_2_11 l_0 out_2_11 k s15.1 s15.2) (fun _ => rfl) (0, 0) h (aX [0, 1] rfl rfl (aL rfl (aL rfl (aY ⟨rfl, rfl, rfl, rfl, rfl, trivial⟩)))) ?_
   rintro k16 ⟨better_4_15, k_4_15⟩ h
   simp only [gT] at h
   refine aG ?_
   refine aG ?_
   refine aD ?_
   refine tr1 rfl (aB (v := .d (.lit (.int .i64 k_4_15))) (aA rfl) rfl rfl) ?_
   refine tr1 rfl (aB (v := .d (.sl 5 (r2.map aC))) (aA rfl) rfl rfl) ?_
   refine tr1 rfl (dB (aA rfl) rfl bR.of) ?_
   refine tr1 rfl (bB (aA rfl) rfl rfl rfl) ?_
   refine aF ?_
   refine bH rfl (fun c17 => ?_) (fun c17 => ?_)
   ·have h := aS c17 h
    refine bF ?_
    refine aG ?_
    refine bP ?_
    refine aG ?_
    obtain ⟨x18, h19, h⟩ := bind_some h
    obtain ⟨b20, h21, h⟩ := bind_some h
    refine fD mix 37 [3, 7, 8, 10, 11, 12, 13] [(79, .d (.lit (.bool b20)))] ?_ ?_
    ·refine bJ (!x18.Must) (fun c22 => ?_) (fun c22 => ?_)
     ·have h21 := aS c22 h21
      obtain ⟨x23, h24, h21⟩ := bind_some h21
      obtain ⟨x25, h26, h21⟩ := bind_some h21
      obtain ⟨b27, h28, h21⟩ := bind_some h21
      refine bJ (decide (x25.Points < x23.Points)) (fun c29 => ?_) (fun c29 => ?_)
      ·have h28 := aS c29 h28
       have h28 := Option.some.inj h28
       subst h28
       have h21 := Option.some.inj h21
       subst h21
       refine ⟨[(43, 0, .d (.sl 5 (r2.map aC))), (44, 1, .d (.lit (.int .i64 k_4_15))), (45, 2, .cp [.lit (.int .i64 x18.Id), .lit (.int .i64 x18.Player), .lit (.int .i64 x18.Week), .lit (.int .i64 x18.Points), .lit (.bool x18.Must)]), (46, 3, .cp [.lit (.bool x18.Must)]), (47, 4, .d (.lit (.bool x18.Must))), (48, 5, .d (.lit (.bool (!x18.Must)))), (49, 6, .d (.lit (.bool (!x18.Must)))), (50, 7, .d (.sl 5 (r2.map aC))), (51, 8, .d (.lit (.int .i64 k_4_15))), (52, 9, .cp [.lit (.int .i64 x23.Id), .lit (.int .i64 x23.Player), .lit (.int .i64 x23.Week), .lit (.int .i64 x23.Points), .lit (.bool x23.Must)]), (53, 10, .cp [.lit (.int .i64 x23.Points)]), (54, 11, .d (.lit (.int .i64 x23.Points))), (55, 12, .d (.sl 5 (r2.map aC))), (56, 13, .d (.lit (.int .i64 i_2_11))), (57, 14, .cp [.lit (.int .i64 x25.Id), .lit (.int .i64 x25.Player), .lit (.int .i64 x25.Week), .lit (.int .i64 x25.Points), .lit (.bool x25.Must)]), (58, 15, .cp [.lit (.int .i64 x25.Points)]), (59, 16, .d (.lit (.int .i64 x25.Points))), (60, 17, .d (.lit (.bool ((decide (x25.Points < x23.Points)))))), (61, 18, .d (.lit (.bool ((decide (x25.Points < x23.Points)))))), (62, 19, .tup []), (63, 20, .tup []), (64, 21, .tup []), (65, 22, .tup []), (66, 23, .tup []), (67, 24, .tup []), (68, 25, .tup []), (69, 26, .tup []), (70, 27, .tup []), (71, 28, .tup []), (72, 29, .tup []), (73, 30, .tup []), (74, 31, .tup []), (75, 32, .tup []), (76, 33, .tup []), (77, 34, .tup []), (78, 35, .d (.lit (.bool true))), (79, 36, .d (.lit (.bool (true))))], ?_, ?_⟩
       · exact ⟨by kernel_rfl, by kernel_rfl, by kernel_rfl, by kernel_rfl, by kernel_rfl, [([], []), ([], []), ([0, 1], []), ([2], []), ([3], []), ([4], []), ([5], []), ([6], []), ([6], []), ([6, 7, 8], []), ([6, 9], []), ([6, 10], []), ([6], []), ([6], []), ([6, 12, 13], []), ([6, 14], []), ([6, 15], []), ([6, 11, 16], []), ([6, 17], []), ([18], []), ([18], []), ([18, 19, 20], []), ([18, 21], []), ([18, 22], []), ([18], []), ([18], []), ([18, 24, 25], []), ([18, 26], []), ([18, 27], []), ([18, 23, 28], []), ([18, 29], []), ([30], []), ([30], []), ([30, 31, 32], []), ([18, 30, 33], []), ([6, 18, 34], []), ([6, 35], [])], by kernel_rfl, ⟨fun S hS => aK rfl (aQ rfl (aB (v := .d (.sl 5 (r2.map aC))) (aA rfl) (aH hS rfl) rfl)),
      fun S hS => aK rfl (aQ rfl (aB (v := .d (.lit (.int .i64 k_4_15))) (aA rfl) (aH hS rfl) rfl)),
      fun S hS => aK rfl (aQ rfl (bM (aA rfl) (aH hS rfl) (aH hS rfl) bR.of (bK aC h19))),
      fun S hS => aK rfl (aQ rfl (cC (aA rfl) (aH hS rfl) kZ (es := [.lit (.bool x18.Must)]) rfl)),
      fun S hS => aK rfl (aQ rfl (bZ (aA rfl) (aH hS rfl) oX)),
      fun S hS => aK rfl (aQ rfl (eN (aA rfl) (aH hS rfl))),
      fun S hS => aK rfl (aQ rfl (aB (v := .d (.lit (.bool (!x18.Must)))) (aA rfl) (aH hS rfl) rfl)),
      fun S hS => aK rfl (bA rfl rfl (aA rfl) (aO hS rfl) c22 (aB (v := .d (.sl 5 (r2.map aC))) (aA rfl) (aH hS rfl) rfl)),
      fun S hS => aK rfl (bA rfl rfl (aA rfl) (aO hS rfl) c22 (aB (v := .d (.lit (.int .i64 k_4_15))) (aA rfl) (aH hS rfl) rfl)),
      fun S hS => aK rfl (bA rfl rfl (aA rfl) (aO hS rfl) c22 (bM (aA rfl) (aH hS rfl) (aH hS rfl) bR.of (bK aC h24))),
      fun S hS => aK rfl (bA rfl rfl (aA rfl) (aO hS rfl) c22 (cC (aA rfl) (aH hS rfl) iN (es := [.lit (.int .i64 x23.Points)]) rfl)),
      fun S hS => aK rfl (bA rfl rfl (aA rfl) (aO hS rfl) c22 (bZ (aA rfl) (aH hS rfl) bG)),
      fun S hS => aK rfl (bA rfl rfl (aA rfl) (aO hS rfl) c22 (aB (v := .d (.sl 5 (r2.map aC))) (aA rfl) (aH hS rfl) rfl)),
      fun S hS => aK rfl (bA rfl rfl (aA rfl) (aO hS rfl) c22 (aB (v := .d (.lit (.int .i64 i_2_11))) (aA rfl) (aH hS rfl) rfl)),
      fun S hS => aK rfl (bA rfl rfl (aA rfl) (aO hS rfl) c22 (bM (aA rfl) (aH hS rfl) (aH hS rfl) bR.of (bK aC h26))),
      fun S hS => aK rfl (bA rfl rfl (aA rfl) (aO hS rfl) c22 (cC (aA rfl) (aH hS rfl) iN (es := [.lit (.int .i64 x25.Points)]) rfl)),
      fun S hS => aK rfl (bA rfl rfl (aA rfl) (aO hS rfl) c22 (bZ (aA rfl) (aH hS rfl) bG)),
      fun S hS => aK rfl (bA rfl rfl (aA rfl) (aO hS rfl) c22 (bB (aA rfl) (aH hS rfl) (aH hS rfl) rfl)),
      fun S hS => aK rfl (bA rfl rfl (aA rfl) (aO hS rfl) c22 (aB (v := .d (.lit (.bool ((decide (x25.Points < x23.Points)))))) (aA rfl) (aH hS rfl) rfl)),
      fun S hS => aK rfl (bD rfl rfl (aA rfl) rfl (aA rfl) (aO hS rfl) c29),
      fun S hS => aK rfl (bD rfl rfl (aA rfl) rfl (aA rfl) (aO hS rfl) c29),
      fun S hS => aK rfl (bD rfl rfl (aA rfl) rfl (aA rfl) (aO hS rfl) c29),
      fun S hS => aK rfl (bD rfl rfl (aA rfl) rfl (aA rfl) (aO hS rfl) c29),
      fun S hS => aK rfl (bD rfl rfl (aA rfl) rfl (aA rfl) (aO hS rfl) c29),
      fun S hS => aK rfl (bD rfl rfl (aA rfl) rfl (aA rfl) (aO hS rfl) c29),
      fun S hS => aK rfl (bD rfl rfl (aA rfl) rfl (aA rfl) (aO hS rfl) c29),
      fun S hS => aK rfl (bD rfl rfl (aA rfl) rfl (aA rfl) (aO hS rfl) c29),
      fun S hS => aK rfl (bD rfl rfl (aA rfl) rfl (aA rfl) (aO hS rfl) c29),
      fun S hS => aK rfl (bD rfl rfl (aA rfl) rfl (aA rfl) (aO hS rfl) c29),
      fun S hS => aK rfl (bD rfl rfl (aA rfl) rfl (aA rfl) (aO hS rfl) c29),
      fun S hS => aK rfl (bD rfl rfl (aA rfl) rfl (aA rfl) (aO hS rfl) c29),
      fun S hS => aK rfl (jN rfl rfl (aA rfl) rfl (aA rfl) (aO hS rfl)),
      fun S hS => aK rfl (jN rfl rfl (aA rfl) rfl (aA rfl) (aO hS rfl)),
      fun S hS => aK rfl (jN rfl rfl (aA rfl) rfl (aA rfl) (aO hS rfl)),
      fun S hS => aK rfl (bD rfl rfl (aA rfl) rfl (aA rfl) (aO hS rfl) c29),
      fun S hS => aK rfl (bA rfl rfl (aA rfl) (aO hS rfl) c22 (bN (v := .d (.lit (.bool true))) (aA rfl) (aH hS rfl) c29 rfl rfl)),
      fun S hS => aK rfl (aQ rfl (bN (v := .d (.lit (.bool (true)))) (aA rfl) (aH hS rfl) c22 (aH hS rfl) rfl)), trivial⟩⟩
       · exact dJ (aL rfl (aY ⟨rfl, rfl, rfl, rfl, rfl, rfl, rfl, trivial⟩))
      ·have h28 := aR c29 h28
       obtain ⟨x30, h31, h28⟩ := bind_some h28
       obtain ⟨x32, h33, h28⟩ := bind_some h28
       obtain ⟨b34, h35, h28⟩ := bind_some h28
       refine bJ (decide (x30.Points = x32.Points)) (fun c36 => ?_) (fun c36 => ?_)
       ·have h35 := aS c36 h35
        have h35 := Option.some.inj h35
        subst h35
        have h28 := Option.some.inj h28
        subst h28
        have h21 := Option.some.inj h21
        subst h21
        refine ⟨[(43, 0, .d (.sl 5 (r2.map aC))), (44, 1, .d (.lit (.int .i64 k_4_15))), (45, 2, .cp [.lit (.int .i64 x18.Id), .lit (.int .i64 x18.Player), .lit (.int .i64 x18.Week), .lit (.int .i64 x18.Points), .lit (.bool x18.Must)]), (46, 3, .cp [.lit (.bool x18.Must)]), (47, 4, .d (.lit (.bool x18.Must))), (48, 5, .d (.lit (.bool (!x18.Must)))), (49, 6, .d (.lit (.bool (!x18.Must)))), (50, 7, .d (.sl 5 (r2.map aC))), (51, 8, .d (.lit (.int .i64 k_4_15))), (52, 9, .cp [.lit (.int .i64 x23.Id), .lit (.int .i64 x23.Player), .lit (.int .i64 x23.Week), .lit (.int .i64 x23.Points), .lit (.bool x23.Must)]), (53, 10, .cp [.lit (.int .i64 x23.Points)]), (54, 11, .d (.lit (.int .i64 x23.Points))), (55, 12, .d (.sl 5 (r2.map aC))), (56, 13, .d (.lit (.int .i64 i_2_11))), (57, 14, .cp [.lit (.int .i64 x25.Id), .lit (.int .i64 x25.Player), .lit (.int .i64 x25.Week), .lit (.int .i64 x25.Points), .lit (.bool x25.Must)]), (58, 15, .cp [.lit (.int .i64 x25.Points)]), (59, 16, .d (.lit (.int .i64 x25.Points))), (60, 17, .d (.lit (.bool ((decide (x25.Points < x23.Points)))))), (61, 18, .d (.lit (.bool ((decide (x25.Points < x23.Points)))))), (62, 19, .d (.sl 5 (r2.map aC))), (63, 20, .d (.lit (.int .i64 k_4_15))), (64, 21, .cp [.lit (.int .i64 x30.Id), .lit (.int .i64 x30.Player), .lit (.int .i64 x30.Week), .lit (.int .i64 x30.Points), .lit (.bool x30.Must)]), (65, 22, .cp [.lit (.int .i64 x30.Points)]), (66, 23, .d (.lit (.int .i64 x30.Points))), (67, 24, .d (.sl 5 (r2.map aC))), (68, 25, .d (.lit (.int .i64 i_2_11))), (69, 26, .cp [.lit (.int .i64 x32.Id), .lit (.int .i64 x32.Player), .lit (.int .i64 x32.Week), .lit (.int .i64 x32.Points), .lit (.bool x32.Must)]), (70, 27, .cp [.lit (.int .i64 x32.Points)]), (71, 28, .d (.lit (.int .i64 x32.Points))), (72, 29, .d (.lit (.bool ((decide (x30.Points = x32.Points)))))), (73, 30, .d (.lit (.bool ((decide (x30.Points = x32.Points)))))), (74, 31, .d (.lit (.int .i64 k_4_15))), (75, 32, .d (.lit (.int .i64 i_2_11))), (76, 33, .d (.lit (.bool ((decide (k_4_15 < i_2_11)))))), (77, 34, .d (.lit (.bool ((decide (k_4_15 < i_2_11)))))), (78, 35, .d (.lit (.bool (decide (k_4_15 < i_2_11))))), (79, 36, .d (.lit (.bool (decide (k_4_15 < i_2_11)))))], ?_, ?_⟩
        · exact ⟨by kernel_rfl, by kernel_rfl, by kernel_rfl, by kernel_rfl, by kernel_rfl, [([], []), ([], []), ([0, 1], []), ([2], []), ([3], []), ([4], []), ([5], []), ([6], []), ([6], []), ([6, 7, 8], []), ([6, 9], []), ([6, 10], []), ([6], []), ([6], []), ([6, 12, 13], []), ([6, 14], []), ([6, 15], []), ([6, 11, 16], []), ([6, 17], []), ([18], []), ([18], []), ([18, 19, 20], []), ([18, 21], []), ([18, 22], []), ([18], []), ([18], []), ([18, 24, 25], []), ([18, 26], []), ([18, 27], []), ([18, 23, 28], []), ([18, 29], []), ([30], []), ([30], []), ([30, 31, 32], []), ([18, 30, 33], []), ([6, 18, 34], []), ([6, 35], [])], by kernel_rfl, ⟨fun S hS => aK rfl (aQ rfl (aB (v := .d (.sl 5 (r2.map aC))) (aA rfl) (aH hS rfl) rfl)),
      fun S hS => aK rfl (aQ rfl (aB (v := .d (.lit (.int .i64 k_4_15))) (aA rfl) (aH hS rfl) rfl)),
      fun S hS => aK rfl (aQ rfl (bM (aA rfl) (aH hS rfl) (aH hS rfl) bR.of (bK aC h19))),
      fun S hS => aK rfl (aQ rfl (cC (aA rfl) (aH hS rfl) kZ (es := [.lit (.bool x18.Must)]) rfl)),
      fun S hS => aK rfl (aQ rfl (bZ (aA rfl) (aH hS rfl) oX)),
      fun S hS => aK rfl (aQ rfl (eN (aA rfl) (aH hS rfl))),
      fun S hS => aK rfl (aQ rfl (aB (v := .d (.lit (.bool (!x18.Must)))) (aA rfl) (aH hS rfl) rfl)),
      fun S hS => aK rfl (bA rfl rfl (aA rfl) (aO hS rfl) c22 (aB (v := .d (.sl 5 (r2.map aC))) (aA rfl) (aH hS rfl) rfl)),
      fun S hS => aK rfl (bA rfl rfl (aA rfl) (aO hS rfl) c22 (aB (v := .d (.lit (.int .i64 k_4_15))) (aA rfl) (aH hS rfl) rfl)),
      fun S hS => aK rfl (bA rfl rfl (aA rfl) (aO hS rfl) c22 (bM (aA rfl) (aH hS rfl) (aH hS rfl) bR.of (bK aC h24))),
      fun S hS => aK rfl (bA rfl rfl (aA rfl) (aO hS rfl) c22 (cC (aA rfl) (aH hS rfl) iN (es := [.lit (.int .i64 x23.Points)]) rfl)),
      fun S hS => aK rfl (bA rfl rfl (aA rfl) (aO hS rfl) c22 (bZ (aA rfl) (aH hS rfl) bG)),
      fun S hS => aK rfl (bA rfl rfl (aA rfl) (aO hS rfl) c22 (aB (v := .d (.sl 5 (r2.map aC))) (aA rfl) (aH hS rfl) rfl)),
      fun S hS => aK rfl (bA rfl rfl (aA rfl) (aO hS rfl) c22 (aB (v := .d (.lit (.int .i64 i_2_11))) (aA rfl) (aH hS rfl) rfl)),
      fun S hS => aK rfl (bA rfl rfl (aA rfl) (aO hS rfl) c22 (bM (aA rfl) (aH hS rfl) (aH hS rfl) bR.of (bK aC h26))),
      fun S hS => aK rfl (bA rfl rfl (aA rfl) (aO hS rfl) c22 (cC (aA rfl) (aH hS rfl) iN (es := [.lit (.int .i64 x25.Points)]) rfl)),
      fun S hS => aK rfl (bA rfl rfl (aA rfl) (aO hS rfl) c22 (bZ (aA rfl) (aH hS rfl) bG)),
      fun S hS => aK rfl (bA rfl rfl (aA rfl) (aO hS rfl) c22 (bB (aA rfl) (aH hS rfl) (aH hS rfl) rfl)),
      fun S hS => aK rfl (bA rfl rfl (aA rfl) (aO hS rfl) c22 (aB (v := .d (.lit (.bool ((decide (x25.Points < x23.Points)))))) (aA rfl) (aH hS rfl) rfl)),
      fun S hS => aK rfl (bA rfl rfl (aA rfl) (aO hS rfl) c29 (aB (v := .d (.sl 5 (r2.map aC))) (aA rfl) (aH hS rfl) rfl)),
      fun S hS => aK rfl (bA rfl rfl (aA rfl) (aO hS rfl) c29 (aB (v := .d (.lit (.int .i64 k_4_15))) (aA rfl) (aH hS rfl) rfl)),
      fun S hS => aK rfl (bA rfl rfl (aA rfl) (aO hS rfl) c29 (bM (aA rfl) (aH hS rfl) (aH hS rfl) bR.of (bK aC h31))),
      fun S hS => aK rfl (bA rfl rfl (aA rfl) (aO hS rfl) c29 (cC (aA rfl) (aH hS rfl) iN (es := [.lit (.int .i64 x30.Points)]) rfl)),
      fun S hS => aK rfl (bA rfl rfl (aA rfl) (aO hS rfl) c29 (bZ (aA rfl) (aH hS rfl) bG)),
      fun S hS => aK rfl (bA rfl rfl (aA rfl) (aO hS rfl) c29 (aB (v := .d (.sl 5 (r2.map aC))) (aA rfl) (aH hS rfl) rfl)),
      fun S hS => aK rfl (bA rfl rfl (aA rfl) (aO hS rfl) c29 (aB (v := .d (.lit (.int .i64 i_2_11))) (aA rfl) (aH hS rfl) rfl)),
      fun S hS => aK rfl (bA rfl rfl (aA rfl) (aO hS rfl) c29 (bM (aA rfl) (aH hS rfl) (aH hS rfl) bR.of (bK aC h33))),
      fun S hS => aK rfl (bA rfl rfl (aA rfl) (aO hS rfl) c29 (cC (aA rfl) (aH hS rfl) iN (es := [.lit (.int .i64 x32.Points)]) rfl)),
      fun S hS => aK rfl (bA rfl rfl (aA rfl) (aO hS rfl) c29 (bZ (aA rfl) (aH hS rfl) bG)),
      fun S hS => aK rfl (bA rfl rfl (aA rfl) (aO hS rfl) c29 (bB (aA rfl) (aH hS rfl) (aH hS rfl) rfl)),
      fun S hS => aK rfl (bA rfl rfl (aA rfl) (aO hS rfl) c29 (aB (v := .d (.lit (.bool ((decide (x30.Points = x32.Points)))))) (aA rfl) (aH hS rfl) rfl)),
      fun S hS => aK rfl (bA rfl rfl (aA rfl) (aO hS rfl) c36 (aB (v := .d (.lit (.int .i64 k_4_15))) (aA rfl) (aH hS rfl) rfl)),
      fun S hS => aK rfl (bA rfl rfl (aA rfl) (aO hS rfl) c36 (aB (v := .d (.lit (.int .i64 i_2_11))) (aA rfl) (aH hS rfl) rfl)),
      fun S hS => aK rfl (bA rfl rfl (aA rfl) (aO hS rfl) c36 (bB (aA rfl) (aH hS rfl) (aH hS rfl) rfl)),
      fun S hS => aK rfl (bA rfl rfl (aA rfl) (aO hS rfl) c29 (bN (v := .d (.lit (.bool ((decide (k_4_15 < i_2_11)))))) (aA rfl) (aH hS rfl) c36 (aH hS rfl) rfl)),
      fun S hS => aK rfl (bA rfl rfl (aA rfl) (aO hS rfl) c22 (bO (v := .d (.lit (.bool (decide (k_4_15 < i_2_11))))) (aA rfl) (aH hS rfl) c29 (aH hS rfl) rfl)),
      fun S hS => aK rfl (aQ rfl (bN (v := .d (.lit (.bool (decide (k_4_15 < i_2_11))))) (aA rfl) (aH hS rfl) c22 (aH hS rfl) rfl)), trivial⟩⟩
        · exact dJ (aL rfl (aY ⟨rfl, rfl, rfl, rfl, rfl, rfl, rfl, trivial⟩))
       ·have h35 := aR c36 h35
        have h35 := Option.some.inj h35
        subst h35
        have h28 := Option.some.inj h28
        subst h28
        have h21 := Option.some.inj h21
        subst h21
        refine ⟨[(43, 0, .d (.sl 5 (r2.map aC))), (44, 1, .d (.lit (.int .i64 k_4_15))), (45, 2, .cp [.lit (.int .i64 x18.Id), .lit (.int .i64 x18.Player), .lit (.int .i64 x18.Week), .lit (.int .i64 x18.Points), .lit (.bool x18.Must)]), (46, 3, .cp [.lit (.bool x18.Must)]), (47, 4, .d (.lit (.bool x18.Must))), (48, 5, .d (.lit (.bool (!x18.Must)))), (49, 6, .d (.lit (.bool (!x18.Must)))), (50, 7, .d (.sl 5 (r2.map aC))), (51, 8, .d (.lit (.int .i64 k_4_15))), (52, 9, .cp [.lit (.int .i64 x23.Id), .lit (.int .i64 x23.Player), .lit (.int .i64 x23.Week), .lit (.int .i64 x23.Points), .lit (.bool x23.Must)]), (53, 10, .cp [.lit (.int .i64 x23.Points)]), (54, 11, .d (.lit (.int .i64 x23.Points))), (55, 12, .d (.sl 5 (r2.map aC))), (56, 13, .d (.lit (.int .i64 i_2_11))), (57, 14, .cp [.lit (.int .i64 x25.Id), .lit (.int .i64 x25.Player), .lit (.int .i64 x25.Week), .lit (.int .i64 x25.Points), .lit (.bool x25.Must)]), (58, 15, .cp [.lit (.int .i64 x25.Points)]), (59, 16, .d (.lit (.int .i64 x25.Points))), (60, 17, .d (.lit (.bool ((decide (x25.Points < x23.Points)))))), (61, 18, .d (.lit (.bool ((decide (x25.Points < x23.Points)))))), (62, 19, .d (.sl 5 (r2.map aC))), (63, 20, .d (.lit (.int .i64 k_4_15))), (64, 21, .cp [.lit (.int .i64 x30.Id), .lit (.int .i64 x30.Player), .lit (.int .i64 x30.Week), .lit (.int .i64 x30.Points), .lit (.bool x30.Must)]), (65, 22, .cp [.lit (.int .i64 x30.Points)]), (66, 23, .d (.lit (.int .i64 x30.Points))), (67, 24, .d (.sl 5 (r2.map aC))), (68, 25, .d (.lit (.int .i64 i_2_11))), (69, 26, .cp [.lit (.int .i64 x32.Id), .lit (.int .i64 x32.Player), .lit (.int .i64 x32.Week), .lit (.int .i64 x32.Points), .lit (.bool x32.Must)]), (70, 27, .cp [.lit (.int .i64 x32.Points)]), (71, 28, .d (.lit (.int .i64 x32.Points))), (72, 29, .d (.lit (.bool ((decide (x30.Points = x32.Points)))))), (73, 30, .d (.lit (.bool ((decide (x30.Points = x32.Points)))))), (74, 31, .tup []), (75, 32, .tup []), (76, 33, .tup []), (77, 34, .d (.lit (.bool false))), (78, 35, .d (.lit (.bool (false)))), (79, 36, .d (.lit (.bool (false))))], ?_, ?_⟩
        · exact ⟨by kernel_rfl, by kernel_rfl, by kernel_rfl, by kernel_rfl, by kernel_rfl, [([], []), ([], []), ([0, 1], []), ([2], []), ([3], []), ([4], []), ([5], []), ([6], []), ([6], []), ([6, 7, 8], []), ([6, 9], []), ([6, 10], []), ([6], []), ([6], []), ([6, 12, 13], []), ([6, 14], []), ([6, 15], []), ([6, 11, 16], []), ([6, 17], []), ([18], []), ([18], []), ([18, 19, 20], []), ([18, 21], []), ([18, 22], []), ([18], []), ([18], []), ([18, 24, 25], []), ([18, 26], []), ([18, 27], []), ([18, 23, 28], []), ([18, 29], []), ([30], []), ([30], []), ([30, 31, 32], []), ([18, 30, 33], []), ([6, 18, 34], []), ([6, 35], [])], by kernel_rfl, ⟨fun S hS => aK rfl (aQ rfl (aB (v := .d (.sl 5 (r2.map aC))) (aA rfl) (aH hS rfl) rfl)),
      fun S hS => aK rfl (aQ rfl (aB (v := .d (.lit (.int .i64 k_4_15))) (aA rfl) (aH hS rfl) rfl)),
      fun S hS => aK rfl (aQ rfl (bM (aA rfl) (aH hS rfl) (aH hS rfl) bR.of (bK aC h19))),
      fun S hS => aK rfl (aQ rfl (cC (aA rfl) (aH hS rfl) kZ (es := [.lit (.bool x18.Must)]) rfl)),
      fun S hS => aK rfl (aQ rfl (bZ (aA rfl) (aH hS rfl) oX)),
      fun S hS => aK rfl (aQ rfl (eN (aA rfl) (aH hS rfl))),
      fun S hS => aK rfl (aQ rfl (aB (v := .d (.lit (.bool (!x18.Must)))) (aA rfl) (aH hS rfl) rfl)),
      fun S hS => aK rfl (bA rfl rfl (aA rfl) (aO hS rfl) c22 (aB (v := .d (.sl 5 (r2.map aC))) (aA rfl) (aH hS rfl) rfl)),
      fun S hS => aK rfl (bA rfl rfl (aA rfl) (aO hS rfl) c22 (aB (v := .d (.lit (.int .i64 k_4_15))) (aA rfl) (aH hS rfl) rfl)),
      fun S hS => aK rfl (bA rfl rfl (aA rfl) (aO hS rfl) c22 (bM (aA rfl) (aH hS rfl) (aH hS rfl) bR.of (bK aC h24))),
      fun S hS => aK rfl (bA rfl rfl (aA rfl) (aO hS rfl) c22 (cC (aA rfl) (aH hS rfl) iN (es := [.lit (.int .i64 x23.Points)]) rfl)),
      fun S hS => aK rfl (bA rfl rfl (aA rfl) (aO hS rfl) c22 (bZ (aA rfl) (aH hS rfl) bG)),
      fun S hS => aK rfl (bA rfl rfl (aA rfl) (aO hS rfl) c22 (aB (v := .d (.sl 5 (r2.map aC))) (aA rfl) (aH hS rfl) rfl)),
      fun S hS => aK rfl (bA rfl rfl (aA rfl) (aO hS rfl) c22 (aB (v := .d (.lit (.int .i64 i_2_11))) (aA rfl) (aH hS rfl) rfl)),
      fun S hS => aK rfl (bA rfl rfl (aA rfl) (aO hS rfl) c22 (bM (aA rfl) (aH hS rfl) (aH hS rfl) bR.of (bK aC h26))),
      fun S hS => aK rfl (bA rfl rfl (aA rfl) (aO hS rfl) c22 (cC (aA rfl) (aH hS rfl) iN (es := [.lit (.int .i64 x25.Points)]) rfl)),
      fun S hS => aK rfl (bA rfl rfl (aA rfl) (aO hS rfl) c22 (bZ (aA rfl) (aH hS rfl) bG)),
      fun S hS => aK rfl (bA rfl rfl (aA rfl) (aO hS rfl) c22 (bB (aA rfl) (aH hS rfl) (aH hS rfl) rfl)),
      fun S hS => aK rfl (bA rfl rfl (aA rfl) (aO hS rfl) c22 (aB (v := .d (.lit (.bool ((decide (x25.Points < x23.Points)))))) (aA rfl) (aH hS rfl) rfl)),
      fun S hS => aK rfl (bA rfl rfl (aA rfl) (aO hS rfl) c29 (aB (v := .d (.sl 5 (r2.map aC))) (aA rfl) (aH hS rfl) rfl)),
      fun S hS => aK rfl (bA rfl rfl (aA rfl) (aO hS rfl) c29 (aB (v := .d (.lit (.int .i64 k_4_15))) (aA rfl) (aH hS rfl) rfl)),
      fun S hS => aK rfl (bA rfl rfl (aA rfl) (aO hS rfl) c29 (bM (aA rfl) (aH hS rfl) (aH hS rfl) bR.of (bK aC h31))),
      fun S hS => aK rfl (bA rfl rfl (aA rfl) (aO hS rfl) c29 (cC (aA rfl) (aH hS rfl) iN (es := [.lit (.int .i64 x30.Points)]) rfl)),
      fun S hS => aK rfl (bA rfl rfl (aA rfl) (aO hS rfl) c29 (bZ (aA rfl) (aH hS rfl) bG)),
      fun S hS => aK rfl (bA rfl rfl (aA rfl) (aO hS rfl) c29 (aB (v := .d (.sl 5 (r2.map aC))) (aA rfl) (aH hS rfl) rfl)),
      fun S hS => aK rfl (bA rfl rfl (aA rfl) (aO hS rfl) c29 (aB (v := .d (.lit (.int .i64 i_2_11))) (aA rfl) (aH hS rfl) rfl)),
      fun S hS => aK rfl (bA rfl rfl (aA rfl) (aO hS rfl) c29 (bM (aA rfl) (aH hS rfl) (aH hS rfl) bR.of (bK aC h33))),
      fun S hS => aK rfl (bA rfl rfl (aA rfl) (aO hS rfl) c29 (cC (aA rfl) (aH hS rfl) iN (es := [.lit (.int .i64 x32.Points)]) rfl)),
      fun S hS => aK rfl (bA rfl rfl (aA rfl) (aO hS rfl) c29 (bZ (aA rfl) (aH hS rfl) bG)),
      fun S hS => aK rfl (bA rfl rfl (aA rfl) (aO hS rfl) c29 (bB (aA rfl) (aH hS rfl) (aH hS rfl) rfl)),
      fun S hS => aK rfl (bA rfl rfl (aA rfl) (aO hS rfl) c29 (aB (v := .d (.lit (.bool ((decide (x30.Points = x32.Points)))))) (aA rfl) (aH hS rfl) rfl)),
      fun S hS => aK rfl (bD rfl rfl (aA rfl) rfl (aA rfl) (aO hS rfl) c36),
      fun S hS => aK rfl (bD rfl rfl (aA rfl) rfl (aA rfl) (aO hS rfl) c36),
      fun S hS => aK rfl (bD rfl rfl (aA rfl) rfl (aA rfl) (aO hS rfl) c36),
      fun S hS => aK rfl (bA rfl rfl (aA rfl) (aO hS rfl) c29 (bO (v := .d (.lit (.bool false))) (aA rfl) (aH hS rfl) c36 rfl rfl)),
      fun S hS => aK rfl (bA rfl rfl (aA rfl) (aO hS rfl) c22 (bO (v := .d (.lit (.bool (false)))) (aA rfl) (aH hS rfl) c29 (aH hS rfl) rfl)),
      fun S hS => aK rfl (aQ rfl (bN (v := .d (.lit (.bool (false)))) (aA rfl) (aH hS rfl) c22 (aH hS rfl) rfl)), trivial⟩⟩
        · exact dJ (aL rfl (aY ⟨rfl, rfl, rfl, rfl, rfl, rfl, rfl, trivial⟩))
     ·have h21 := aR c22 h21
      have h21 := Option.some.inj h21
      subst h21
      refine ⟨[(43, 0, .d (.sl 5 (r2.map aC))), (44, 1, .d (.lit (.int .i64 k_4_15))), (45, 2, .cp [.lit (.int .i64 x18.Id), .lit (.int .i64 x18.Player), .lit (.int .i64 x18.Week), .lit (.int .i64 x18.Points), .lit (.bool x18.Must)]), (46, 3, .cp [.lit (.bool x18.Must)]), (47, 4, .d (.lit (.bool x18.Must))), (48, 5, .d (.lit (.bool (!x18.Must)))), (49, 6, .d (.lit (.bool (!x18.Must)))), (50, 7, .tup []), (51, 8, .tup []), (52, 9, .tup []), (53, 10, .tup []), (54, 11, .tup []), (55, 12, .tup []), (56, 13, .tup []), (57, 14, .tup []), (58, 15, .tup []), (59, 16, .tup []), (60, 17, .tup []), (61, 18, .tup []), (62, 19, .tup []), (63, 20, .tup []), (64, 21, .tup []), (65, 22, .tup []), (66, 23, .tup []), (67, 24, .tup []), (68, 25, .tup []), (69, 26, .tup []), (70, 27, .tup []), (71, 28, .tup []), (72, 29, .tup []), (73, 30, .tup []), (74, 31, .tup []), (75, 32, .tup []), (76, 33, .tup []), (77, 34, .tup []), (78, 35, .tup []), (79, 36, .d (.lit (.bool false)))], ?_, ?_⟩
      · exact ⟨by kernel_rfl, by kernel_rfl, by kernel_rfl, by kernel_rfl, by kernel_rfl, [([], []), ([], []), ([0, 1], []), ([2], []), ([3], []), ([4], []), ([5], []), ([6], []), ([6], []), ([6, 7, 8], []), ([6, 9], []), ([6, 10], []), ([6], []), ([6], []), ([6, 12, 13], []), ([6, 14], []), ([6, 15], []), ([6, 11, 16], []), ([6, 17], []), ([18], []), ([18], []), ([18, 19, 20], []), ([18, 21], []), ([18, 22], []), ([18], []), ([18], []), ([18, 24, 25], []), ([18, 26], []), ([18, 27], []), ([18, 23, 28], []), ([18, 29], []), ([30], []), ([30], []), ([30, 31, 32], []), ([18, 30, 33], []), ([6, 18, 34], []), ([6, 35], [])], by kernel_rfl, ⟨fun S hS => aK rfl (aQ rfl (aB (v := .d (.sl 5 (r2.map aC))) (aA rfl) (aH hS rfl) rfl)),
      fun S hS => aK rfl (aQ rfl (aB (v := .d (.lit (.int .i64 k_4_15))) (aA rfl) (aH hS rfl) rfl)),
      fun S hS => aK rfl (aQ rfl (bM (aA rfl) (aH hS rfl) (aH hS rfl) bR.of (bK aC h19))),
      fun S hS => aK rfl (aQ rfl (cC (aA rfl) (aH hS rfl) kZ (es := [.lit (.bool x18.Must)]) rfl)),
      fun S hS => aK rfl (aQ rfl (bZ (aA rfl) (aH hS rfl) oX)),
      fun S hS => aK rfl (aQ rfl (eN (aA rfl) (aH hS rfl))),
      fun S hS => aK rfl (aQ rfl (aB (v := .d (.lit (.bool (!x18.Must)))) (aA rfl) (aH hS rfl) rfl)),
      fun S hS => aK rfl (bD rfl rfl (aA rfl) rfl (aA rfl) (aO hS rfl) c22),
      fun S hS => aK rfl (bD rfl rfl (aA rfl) rfl (aA rfl) (aO hS rfl) c22),
      fun S hS => aK rfl (bD rfl rfl (aA rfl) rfl (aA rfl) (aO hS rfl) c22),
      fun S hS => aK rfl (bD rfl rfl (aA rfl) rfl (aA rfl) (aO hS rfl) c22),
      fun S hS => aK rfl (bD rfl rfl (aA rfl) rfl (aA rfl) (aO hS rfl) c22),
      fun S hS => aK rfl (bD rfl rfl (aA rfl) rfl (aA rfl) (aO hS rfl) c22),
      fun S hS => aK rfl (bD rfl rfl (aA rfl) rfl (aA rfl) (aO hS rfl) c22),
      fun S hS => aK rfl (bD rfl rfl (aA rfl) rfl (aA rfl) (aO hS rfl) c22),
      fun S hS => aK rfl (bD rfl rfl (aA rfl) rfl (aA rfl) (aO hS rfl) c22),
      fun S hS => aK rfl (bD rfl rfl (aA rfl) rfl (aA rfl) (aO hS rfl) c22),
      fun S hS => aK rfl (bD rfl rfl (aA rfl) rfl (aA rfl) (aO hS rfl) c22),
      fun S hS => aK rfl (bD rfl rfl (aA rfl) rfl (aA rfl) (aO hS rfl) c22),
      fun S hS => aK rfl (jN rfl rfl (aA rfl) rfl (aA rfl) (aO hS rfl)),
      fun S hS => aK rfl (jN rfl rfl (aA rfl) rfl (aA rfl) (aO hS rfl)),
      fun S hS => aK rfl (jN rfl rfl (aA rfl) rfl (aA rfl) (aO hS rfl)),
      fun S hS => aK rfl (jN rfl rfl (aA rfl) rfl (aA rfl) (aO hS rfl)),
      fun S hS => aK rfl (jN rfl rfl (aA rfl) rfl (aA rfl) (aO hS rfl)),
      fun S hS => aK rfl (jN rfl rfl (aA rfl) rfl (aA rfl) (aO hS rfl)),
      fun S hS => aK rfl (jN rfl rfl (aA rfl) rfl (aA rfl) (aO hS rfl)),
      fun S hS => aK rfl (jN rfl rfl (aA rfl) rfl (aA rfl) (aO hS rfl)),
      fun S hS => aK rfl (jN rfl rfl (aA rfl) rfl (aA rfl) (aO hS rfl)),
      fun S hS => aK rfl (jN rfl rfl (aA rfl) rfl (aA rfl) (aO hS rfl)),
      fun S hS => aK rfl (jN rfl rfl (aA rfl) rfl (aA rfl) (aO hS rfl)),
      fun S hS => aK rfl (jN rfl rfl (aA rfl) rfl (aA rfl) (aO hS rfl)),
      fun S hS => aK rfl (jN rfl rfl (aA rfl) rfl (aA rfl) (aO hS rfl)),
      fun S hS => aK rfl (jN rfl rfl (aA rfl) rfl (aA rfl) (aO hS rfl)),
      fun S hS => aK rfl (jN rfl rfl (aA rfl) rfl (aA rfl) (aO hS rfl)),
      fun S hS => aK rfl (jN rfl rfl (aA rfl) rfl (aA rfl) (aO hS rfl)),
      fun S hS => aK rfl (bD rfl rfl (aA rfl) rfl (aA rfl) (aO hS rfl) c22),
      fun S hS => aK rfl (aQ rfl (bO (v := .d (.lit (.bool false))) (aA rfl) (aH hS rfl) c22 rfl rfl)), trivial⟩⟩
      · exact dJ (aL rfl (aY ⟨rfl, rfl, rfl, rfl, rfl, rfl, rfl, trivial⟩))
    ·refine aF ?_
     refine bH rfl (fun c37 => ?_) (fun c37 => ?_)
     ·have h := aS c37 h
      refine aD ?_
      refine tr1 rfl (aB (v := .d (.lit (.int .i64 better_4_15))) (aA rfl) rfl rfl) ?_
      refine tr1 rfl (aZ (aA rfl) rfl rfl rfl) ?_
      refine tr1 rfl (aJ (v := .d (.lit (.int .i64 ((w64 (better_4_15 + 1)))))) (aA rfl) rfl rfl) ?_
      refine dA ?_
      refine aD ?_
      refine tr1 rfl (aB (v := .d (.lit (.int .i64 k_4_15))) (aA rfl) rfl rfl) ?_
      refine tr1 rfl (aZ (aA rfl) rfl rfl rfl) ?_
      refine tr1 rfl (aJ (v := .d (.lit (.int .i64 ((w64 (k_4_15 + 1)))))) (aA rfl) rfl rfl) ?_
      refine aF ?_
      exact ⟨(w64 (better_4_15 + 1), w64 (k_4_15 + 1)), h, aX [0, 1] rfl rfl (aL rfl (aL rfl (aY ⟨rfl, rfl, rfl, rfl, rfl, trivial⟩)))⟩
     ·have h := aR c37 h
      refine dK ?_
      refine aD ?_
      refine tr1 rfl (aB (v := .d (.lit (.int .i64 k_4_15))) (aA rfl) rfl rfl) ?_
      refine tr1 rfl (aZ (aA rfl) rfl rfl rfl) ?_
      refine tr1 rfl (aJ (v := .d (.lit (.int .i64 ((w64 (k_4_15 + 1)))))) (aA rfl) rfl rfl) ?_
      refine aF ?_
      exact ⟨(better_4_15, w64 (k_4_15 + 1)), h, aX [0, 1] rfl rfl (aL rfl (aL rfl (aY ⟨rfl, rfl, rfl, rfl, rfl, trivial⟩)))⟩
   ·have h := aR c17 h
    refine cQ ?_
    refine .inl ⟨rfl, ?_⟩
    simp only [nQ] at h
    refine aG ?_
    refine aD ?_
    refine tr1 rfl (aB (v := .d (.sl 5 (r2.map aC))) (aA rfl) rfl rfl) ?_
    refine tr1 rfl (aB (v := .d (.lit (.int .i64 i_2_11))) (aA rfl) rfl rfl) ?_
    obtain ⟨x38, h39, h⟩ := bind_some h
    refine tr1 rfl (bM (aA rfl) rfl rfl bR.of (bK aC h39)) ?_
    refine tr1 rfl (cC (aA rfl) rfl kZ (es := [.lit (.bool x38.Must)]) rfl) ?_
    refine tr1 rfl (bZ (aA rfl) rfl oX) ?_
    refine tr1 rfl (aB (v := .d (.lit (.bool x38.Must))) (aA rfl) rfl rfl) ?_
    obtain ⟨b40, h41, h⟩ := bind_some h
    refine cD 7 [3, 7, 8, 10, 11] 94 b40 ?_ ?_
    ·refine bJ (x38.Must) (fun c48 => ?_) (fun c48 => ?_)
     ·have h41 := aS c48 h41
      refine aU rfl rfl (aA rfl) rfl (aA rfl) rfl c48 ?_
      refine aU rfl rfl (aA rfl) rfl (aA rfl) rfl c48 ?_
      refine aU rfl rfl (aA rfl) rfl (aA rfl) rfl c48 ?_
      refine aU rfl rfl (aA rfl) rfl (aA rfl) rfl c48 ?_
      refine aU rfl rfl (aA rfl) rfl (aA rfl) rfl c48 ?_
      refine aU rfl rfl (aA rfl) rfl (aA rfl) rfl c48 ?_
      refine tr1 rfl (bN (v := .d (.lit (.bool true))) (aA rfl) rfl c48 rfl rfl) ?_
      have h41 := Option.some.inj h41
      subst h41
      refine aF (bC rfl ⟨rfl, rfl, rfl, rfl, rfl, trivial⟩ rfl)
     ·have h41 := aR c48 h41
      refine aM rfl rfl (aA rfl) rfl c48 (aB (v := .d (.lit (.int .i64 better_4_15))) (aA rfl) rfl rfl) ?_
      refine aM rfl rfl (aA rfl) rfl c48 (aV (aA rfl) rfl xG) ?_
      refine aM rfl rfl (aA rfl) rfl c48 (aW (aA rfl) rfl (i := 0) rfl rfl bG) ?_
      refine aM rfl rfl (aA rfl) rfl c48 (aB (v := .d (.lit (.int .i64 must_0_4))) (aA rfl) rfl rfl) ?_
      refine aM rfl rfl (aA rfl) rfl c48 (aZ (aA rfl) rfl rfl rfl) ?_
      refine aM rfl rfl (aA rfl) rfl c48 (bB (aA rfl) rfl rfl rfl) ?_
      refine tr1 rfl (bO (v := .d (.lit (.bool ((decide (better_4_15 < (w64 (l_0.Counts - must_0_4)))))))) (aA rfl) rfl c48 rfl rfl) ?_
      have h41 := Option.some.inj h41
      subst h41
      refine aF (bC rfl ⟨rfl, rfl, rfl, rfl, rfl, trivial⟩ rfl)
    ·refine aF ?_
     refine bH rfl (fun c42 => ?_) (fun c42 => ?_)
     ·have h := aS c42 h
      refine aD ?_
      refine tr1 rfl (aB (v := .d (.lit w12)) (aA rfl) rfl rfl) ?_
      refine tr1 rfl (aB (v := .d (.sl 5 (r2.map aC))) (aA rfl) rfl rfl) ?_
      refine tr1 rfl (aB (v := .d (.lit (.int .i64 i_2_11))) (aA rfl) rfl rfl) ?_
      obtain ⟨x43, h44, h⟩ := bind_some h
      refine tr1 rfl (bM (aA rfl) rfl rfl bR.of (bK aC h44)) ?_
      refine tr1 rfl (eP (aA rfl) rfl dW (es := (aC x43)) rfl rfl) ?_
      refine tr1 rfl (jT (aA rfl) bR rfl rfl (rows := ([x43]).map aC) rfl (cT (f := aC) fun _ => rfl) rfl (by decide)) ?_
      obtain ⟨x45, h46, h⟩ := bind_some h
      refine bQ rfl (kC (i := 1) (aA rfl) bR rfl rfl rfl (fun _ => rfl) h46 rfl) ?_
      rintro _ ⟨v47, rfl⟩
      refine tr1 rfl (aJ (v := .d (.lit v47)) (aA rfl) rfl rfl) ?_
      refine dA ?_
      simp only [lR] at h
      refine aD ?_
      refine tr1 rfl (aB (v := .d (.lit (.int .i64 i_2_11))) (aA rfl) rfl rfl) ?_
      refine tr1 rfl (aZ (aA rfl) rfl rfl rfl) ?_
      refine tr1 rfl (aJ (v := .d (.lit (.int .i64 ((w64 (i_2_11 + 1)))))) (aA rfl) rfl rfl) ?_
      refine aF ?_
      exact ⟨(w64 (i_2_11 + 1), x45, v47), h, aX [0, 1] rfl rfl (aL rfl (aL rfl (aY ⟨rfl, rfl, rfl, trivial⟩)))⟩
     ·have h := aR c42 h
      refine dK ?_
      simp only [lR] at h
      refine aD ?_
      refine tr1 rfl (aB (v := .d (.lit (.int .i64 i_2_11))) (aA rfl) rfl rfl) ?_
      refine tr1 rfl (aZ (aA rfl) rfl rfl rfl) ?_
      refine tr1 rfl (aJ (v := .d (.lit (.int .i64 ((w64 (i_2_11 + 1)))))) (aA rfl) rfl rfl) ?_
      refine aF ?_
      exact ⟨(w64 (i_2_11 + 1), out_2_11, w12), h, aX [0, 1] rfl rfl (aL rfl (aL rfl (aY ⟨rfl, rfl, rfl, trivial⟩)))⟩
  ·have h := aR c14 h
   refine cQ ?_
   refine .inl ⟨rfl, ?_⟩
   simp only [qE] at h
   refine aG ?_
   refine aD ?_
   refine tr1 rfl (aB (v := .d (.lit w12)) (aA rfl) rfl rfl) ?_
   refine tr1 rfl (aJ (v := .d (.lit w12)) (aA rfl) rfl rfl) ?_
   refine aF ?_
   have h := Option.some.inj h
   subst h
   refine cI (bX (gG (k := 6) (v := .d (.sl 5 (out_2_11.map aC))) (.d (gY 1 rfl (cT (f := aC) fun _ => rfl))) (wM))) ?_
   exact bI ⟨rfl, _, .one _, rfl, rfl⟩

theorem nO (l_0 : aN) (player_1 : Int) (week_2 : Int) {r : Int × Int} (h : iI l_0 player_1 week_2 = some r) : Fn Try.prog 66 [.agg (aT l_0), .d (.lit (.int .i64 player_1)), .d (.lit (.int .i64 week_2))] (.tup [.d (.lit (.int .i64 r.1)), .d (.lit (.int .i64 r.2))]) := by
 unfold iI at h
 refine Fn.of_tr Try.func66 rfl (rs := [.tmp 6, .tmp 7]) Try.results66 Try.ntmps66 (Nat.le_of_ble_eq_true rfl) ?_
 refine aG ?_
 refine aD ?_
 refine bQ rfl (eD (v := .agg (aT l_0)) (aA rfl) rfl rfl rfl) ?_
 rintro _ ⟨b1, rfl⟩
 refine tr1 rfl (aJ (v := .d (.lit (.int .i64 0))) (aA rfl) rfl rfl) ?_
 refine tr1 rfl (aJ (v := .d (.lit (.int .i64 0))) (aA rfl) rfl rfl) ?_
 refine aF ?_
 refine aG ?_
 refine aD ?_
 refine tr1 rfl (cA (aA rfl) rfl (i := 0) rfl dI (es := (aT l_0)) rfl rfl) ?_
 refine tr1 rfl (aB (v := .d (.lit (.int .i64 player_1))) (aA rfl) rfl rfl) ?_
 refine tr1 rfl (aB (v := .d (.lit (.int .i64 week_2))) (aA rfl) rfl rfl) ?_
 obtain ⟨r2, h3, h⟩ := bind_some h
 refine tr1 rfl (iB (aA rfl) (.func _ _ Try.call96) rfl rfl (yL _ _ _ h3)) ?_
 refine tr1 rfl (aJ (v := .d (.sl 5 (r2.map aC))) (aA rfl) rfl rfl) ?_
 refine aF ?_
 refine aG ?_
 refine aG ?_
 refine aD ?_
 refine tr1 rfl (aJ (v := .d (.lit (.int .i64 0))) (aA rfl) rfl rfl) ?_
 refine aF ?_
 refine bP ?_
 refine cJ [8] (fun (s4 : Int × Int × Int) => [(6, .d (.lit (.int .i64 s4.1))), (7, .d (.lit (.int .i64 s4.2.1))), (9, .d (.lit (.int .i64 s4.2.2)))]) (fun (s4 : Int × Int × Int) => []) (fun (k : Nat) (s4 : Int × Int × Int) => gI r2 k s4.1 s4.2.1 s4.2.2) (fun _ => rfl) (0, 0, 0) h (aX [] rfl rfl (aL rfl (aL rfl (aL rfl (aY ⟨rfl, trivial⟩))))) ?_
 rintro k5 ⟨sum_0_4, must_0_4, i_0_4⟩ h
 simp only [gI] at h
 refine aG ?_
 refine aG ?_
 refine aD ?_
 refine tr1 rfl (aB (v := .d (.lit (.int .i64 i_0_4))) (aA rfl) rfl rfl) ?_
 refine tr1 rfl (aB (v := .d (.sl 5 (r2.map aC))) (aA rfl) rfl rfl) ?_
 refine tr1 rfl (dB (aA rfl) rfl bR.of) ?_
 refine tr1 rfl (bB (aA rfl) rfl rfl rfl) ?_
 refine aF ?_
 refine bH rfl (fun c6 => ?_) (fun c6 => ?_)
 ·have h := aS c6 h
  refine bF ?_
  refine aG ?_
  refine bP ?_
  refine aG ?_
  refine aD ?_
  refine tr1 rfl (aB (v := .d (.lit (.int .i64 sum_0_4))) (aA rfl) rfl rfl) ?_
  refine tr1 rfl (aB (v := .d (.sl 5 (r2.map aC))) (aA rfl) rfl rfl) ?_
  refine tr1 rfl (aB (v := .d (.lit (.int .i64 i_0_4))) (aA rfl) rfl rfl) ?_
  obtain ⟨x7, h8, h⟩ := bind_some h
  refine tr1 rfl (bM (aA rfl) rfl rfl bR.of (bK aC h8)) ?_
  refine tr1 rfl (cC (aA rfl) rfl iN (es := [.lit (.int .i64 x7.Points)]) rfl) ?_
  refine tr1 rfl (bZ (aA rfl) rfl bG) ?_
  refine tr1 rfl (aZ (aA rfl) rfl rfl rfl) ?_
  refine tr1 rfl (aJ (v := .d (.lit (.int .i64 ((w64 (sum_0_4 + x7.Points)))))) (aA rfl) rfl rfl) ?_
  refine aF ?_
  refine aG ?_
  refine aD ?_
  refine tr1 rfl (aB (v := .d (.sl 5 (r2.map aC))) (aA rfl) rfl rfl) ?_
  refine tr1 rfl (aB (v := .d (.lit (.int .i64 i_0_4))) (aA rfl) rfl rfl) ?_
  obtain ⟨x9, h10, h⟩ := bind_some h
  refine tr1 rfl (bM (aA rfl) rfl rfl bR.of (bK aC h10)) ?_
  refine tr1 rfl (cC (aA rfl) rfl kZ (es := [.lit (.bool x9.Must)]) rfl) ?_
  refine tr1 rfl (bZ (aA rfl) rfl oX) ?_
  refine aF ?_
  refine bH rfl (fun c11 => ?_) (fun c11 => ?_)
  ·have h := aS c11 h
   refine aD ?_
   refine tr1 rfl (aB (v := .d (.lit (.int .i64 must_0_4))) (aA rfl) rfl rfl) ?_
   refine tr1 rfl (aB (v := .d (.sl 5 (r2.map aC))) (aA rfl) rfl rfl) ?_
   refine tr1 rfl (aB (v := .d (.lit (.int .i64 i_0_4))) (aA rfl) rfl rfl) ?_
   obtain ⟨x12, h13, h⟩ := bind_some h
   refine tr1 rfl (bM (aA rfl) rfl rfl bR.of (bK aC h13)) ?_
   refine tr1 rfl (cC (aA rfl) rfl iN (es := [.lit (.int .i64 x12.Points)]) rfl) ?_
   refine tr1 rfl (bZ (aA rfl) rfl bG) ?_
   refine tr1 rfl (aZ (aA rfl) rfl rfl rfl) ?_
   refine tr1 rfl (aJ (v := .d (.lit (.int .i64 ((w64 (must_0_4 + x12.Points)))))) (aA rfl) rfl rfl) ?_
   refine dA ?_
   refine aD ?_
   refine tr1 rfl (aB (v := .d (.lit (.int .i64 i_0_4))) (aA rfl) rfl rfl) ?_
   refine tr1 rfl (aZ (aA rfl) rfl rfl rfl) ?_
   refine tr1 rfl (aJ (v := .d (.lit (.int .i64 ((w64 (i_0_4 + 1)))))) (aA rfl) rfl rfl) ?_
   refine aF ?_
   exact ⟨(w64 (sum_0_4 + x7.Points), w64 (must_0_4 + x12.Points), w64 (i_0_4 + 1)), h, aX [] rfl rfl (aL rfl (aL rfl (aL rfl (aY ⟨rfl, trivial⟩))))⟩
  ·have h := aR c11 h
   refine dK ?_
   refine aD ?_
   refine tr1 rfl (aB (v := .d (.lit (.int .i64 i_0_4))) (aA rfl) rfl rfl) ?_
   refine tr1 rfl (aZ (aA rfl) rfl rfl rfl) ?_
   refine tr1 rfl (aJ (v := .d (.lit (.int .i64 ((w64 (i_0_4 + 1)))))) (aA rfl) rfl rfl) ?_
   refine aF ?_
   exact ⟨(w64 (sum_0_4 + x7.Points), must_0_4, w64 (i_0_4 + 1)), h, aX [] rfl rfl (aL rfl (aL rfl (aL rfl (aY ⟨rfl, trivial⟩))))⟩
 ·have h := aR c6 h
  refine cQ ?_
  refine .inl ⟨rfl, ?_⟩
  simp only [pG] at h
  refine aG ?_
  refine aD ?_
  refine tr1 rfl (aB (v := .d (.lit (.int .i64 sum_0_4))) (aA rfl) rfl rfl) ?_
  refine tr1 rfl (aB (v := .d (.lit (.int .i64 must_0_4))) (aA rfl) rfl rfl) ?_
  refine tr1 rfl (aJ (v := .d (.lit (.int .i64 sum_0_4))) (aA rfl) rfl rfl) ?_
  refine tr1 rfl (aJ (v := .d (.lit (.int .i64 must_0_4))) (aA rfl) rfl rfl) ?_
  refine aF ?_
  have h := Option.some.inj h
  subst h
  exact bI ⟨rfl, _, .two _ _, rfl, rfl⟩

theorem xY (l_0 : aN) (a_1 : Int) (b_2 : Int) (week_3 : Int) {r : Bool} (h : mP l_0 a_1 b_2 week_3 = some r) : Fn Try.prog 95 [.agg (aT l_0), .d (.lit (.int .i64 a_1)), .d (.lit (.int .i64 b_2)), .d (.lit (.int .i64 week_3))] (.d (.lit (.bool r))) := by
 unfold mP at h
 refine Fn.of_tr Try.func95 rfl (rs := [.tmp 8]) Try.results95 Try.ntmps95 (Nat.le_of_ble_eq_true rfl) ?_
 refine aG ?_
 refine aD ?_
 refine bQ rfl (eD (v := .agg (aT l_0)) (aA rfl) rfl rfl rfl) ?_
 rintro _ ⟨b1, rfl⟩
 refine tr1 rfl (aJ (v := .d (.lit (.bool false))) (aA rfl) rfl rfl) ?_
 refine aF ?_
 refine aG ?_
 refine aD ?_
 refine tr1 rfl (cA (aA rfl) rfl (i := 0) rfl dI (es := (aT l_0)) rfl rfl) ?_
 refine tr1 rfl (aB (v := .d (.lit (.int .i64 a_1))) (aA rfl) rfl rfl) ?_
 refine tr1 rfl (aB (v := .d (.lit (.int .i64 week_3))) (aA rfl) rfl rfl) ?_
 obtain ⟨r2, h3, h⟩ := bind_some h
 refine tr1 rfl (bY (aA rfl) (.func _ _ Try.call66) rfl rfl (BVs.refl _ _) (nO _ _ _ h3) rfl) ?_
 refine tr1 rfl (aB (v := .tup [.d (.lit (.int .i64 r2.1)), .d (.lit (.int .i64 r2.2))]) (aA rfl) rfl rfl) ?_
 refine tr1 rfl (cH (aA rfl) rfl rfl) ?_
 refine tr1 rfl (cH (aA rfl) rfl rfl) ?_
 refine tr1 rfl (aJ (v := .d (.lit (.int .i64 r2.1))) (aA rfl) rfl rfl) ?_
 refine tr1 rfl (aJ (v := .d (.lit (.int .i64 r2.2))) (aA rfl) rfl rfl) ?_
 refine aF ?_
 refine aG ?_
 refine aD ?_
 refine tr1 rfl (cA (aA rfl) rfl (i := 0) rfl dI (es := (aT l_0)) rfl rfl) ?_
 refine tr1 rfl (aB (v := .d (.lit (.int .i64 b_2))) (aA rfl) rfl rfl) ?_
 refine tr1 rfl (aB (v := .d (.lit (.int .i64 week_3))) (aA rfl) rfl rfl) ?_
 obtain ⟨r4, h5, h⟩ := bind_some h
 refine tr1 rfl (bY (aA rfl) (.func _ _ Try.call66) rfl rfl (BVs.refl _ _) (nO _ _ _ h5) rfl) ?_
 refine tr1 rfl (aB (v := .tup [.d (.lit (.int .i64 r4.1)), .d (.lit (.int .i64 r4.2))]) (aA rfl) rfl rfl) ?_
 refine tr1 rfl (cH (aA rfl) rfl rfl) ?_
 refine tr1 rfl (cH (aA rfl) rfl rfl) ?_
 refine tr1 rfl (aJ (v := .d (.lit (.int .i64 r4.1))) (aA rfl) rfl rfl) ?_
 refine tr1 rfl (aJ (v := .d (.lit (.int .i64 r4.2))) (aA rfl) rfl rfl) ?_
 refine aF ?_
 refine aG ?_
 refine aG ?_
 refine aD ?_
 refine tr1 rfl (aB (v := .d (.lit (.int .i64 r2.1))) (aA rfl) rfl rfl) ?_
 refine tr1 rfl (aB (v := .d (.lit (.int .i64 r4.1))) (aA rfl) rfl rfl) ?_
 refine tr1 rfl (bB (aA rfl) rfl rfl rfl) ?_
 refine aF ?_
 refine bH rfl (fun c6 => ?_) (fun c6 => ?_)
 ·have h := aS c6 h
  refine aG ?_
  refine aD ?_
  refine tr1 rfl (aB (v := .d (.lit (.int .i64 r2.1))) (aA rfl) rfl rfl) ?_
  refine tr1 rfl (aB (v := .d (.lit (.int .i64 r4.1))) (aA rfl) rfl rfl) ?_
  refine tr1 rfl (bB (aA rfl) rfl rfl rfl) ?_
  refine tr1 rfl (aJ (v := .d (.lit (.bool ((decide (r4.1 < r2.1)))))) (aA rfl) rfl rfl) ?_
  refine aF ?_
  have h := Option.some.inj h
  subst h
  refine cI (bX (cB (l := [8]) ⟨rfl, trivial⟩)) ?_
  exact bI ⟨rfl, _, .one _, rfl, rfl⟩
 ·have h := aR c6 h
  refine bF ?_
  refine aG ?_
  refine aG ?_
  refine aD ?_
  refine tr1 rfl (aB (v := .d (.lit (.int .i64 r2.2))) (aA rfl) rfl rfl) ?_
  refine tr1 rfl (aB (v := .d (.lit (.int .i64 r4.2))) (aA rfl) rfl rfl) ?_
  refine tr1 rfl (bB (aA rfl) rfl rfl rfl) ?_
  refine aF ?_
  refine bH rfl (fun c7 => ?_) (fun c7 => ?_)
  ·have h := aS c7 h
   refine aG ?_
   refine aD ?_
   refine tr1 rfl (aB (v := .d (.lit (.int .i64 r2.2))) (aA rfl) rfl rfl) ?_
   refine tr1 rfl (aB (v := .d (.lit (.int .i64 r4.2))) (aA rfl) rfl rfl) ?_
   refine tr1 rfl (bB (aA rfl) rfl rfl rfl) ?_
   refine tr1 rfl (aJ (v := .d (.lit (.bool ((decide (r4.2 < r2.2)))))) (aA rfl) rfl rfl) ?_
   refine aF ?_
   have h := Option.some.inj h
   subst h
   refine cI (bX (cB (l := [8]) ⟨rfl, trivial⟩)) ?_
   exact bI ⟨rfl, _, .one _, rfl, rfl⟩
  ·have h := aR c7 h
   refine bF ?_
   refine aG ?_
   refine aG ?_
   obtain ⟨r8, h9, h⟩ := bind_some h
   obtain ⟨r10, h11, h⟩ := bind_some h
   refine fD mix 11 [1, 2] [(13, .d (.lit (.int .i64 ((r8.length : Int))))), (50, .d (.lit (.int .i64 ((r10.length : Int)))))] ?_ ?_
   ·refine ⟨[(41, 0, .agg (aT l_0)), (42, 1, .d (.lit (.int .i64 a_1))), (43, 2, .d (.lit (.int .i64 week_3))), (44, 3, .d (.sl 5 (r8.map aC))), (45, 4, .d (.lit (.int .i64 ((r8.length : Int))))), (46, 5, .agg (aT l_0)), (47, 6, .d (.lit (.int .i64 b_2))), (48, 7, .d (.lit (.int .i64 week_3))), (49, 8, .d (.sl 5 (r10.map aC))), (50, 9, .d (.lit (.int .i64 ((r10.length : Int))))), (13, 10, .d (.lit (.int .i64 ((r8.length : Int)))))], ?_, ?_⟩
    · exact ⟨by kernel_rfl, by kernel_rfl, by kernel_rfl, by kernel_rfl, by kernel_rfl, [([], []), ([], []), ([], []), ([0, 1, 2], []), ([3], []), ([], []), ([], []), ([], []), ([5, 6, 7], []), ([8], []), ([4], [])], by kernel_rfl, ⟨fun S hS => aK rfl (aQ rfl (cA (aA rfl) (aH hS rfl) (i := 0) rfl dI (es := (aT l_0)) rfl rfl)),
      fun S hS => aK rfl (aQ rfl (aB (v := .d (.lit (.int .i64 a_1))) (aA rfl) (aH hS rfl) rfl)),
      fun S hS => aK rfl (aQ rfl (aB (v := .d (.lit (.int .i64 week_3))) (aA rfl) (aH hS rfl) rfl)),
      fun S hS => aK rfl (aQ rfl (iB (aA rfl) (.func _ _ Try.call39) (ev2 (aH hS rfl) (ev2 (aH hS rfl) (ev2 (aH hS rfl) evn))) rfl (mG _ _ _ h9))),
      fun S hS => aK rfl (aQ rfl (dB (aA rfl) (aH hS rfl) bR.of)),
      fun S hS => aK rfl (aQ rfl (cA (aA rfl) (aH hS rfl) (i := 0) rfl dI (es := (aT l_0)) rfl rfl)),
      fun S hS => aK rfl (aQ rfl (aB (v := .d (.lit (.int .i64 b_2))) (aA rfl) (aH hS rfl) rfl)),
      fun S hS => aK rfl (aQ rfl (aB (v := .d (.lit (.int .i64 week_3))) (aA rfl) (aH hS rfl) rfl)),
      fun S hS => aK rfl (aQ rfl (iB (aA rfl) (.func _ _ Try.call39) (ev2 (aH hS rfl) (ev2 (aH hS rfl) (ev2 (aH hS rfl) evn))) rfl (mG _ _ _ h11))),
      fun S hS => aK rfl (aQ rfl (dB (aA rfl) (aH hS rfl) bR.of)),
      fun S hS => aK rfl (aQ rfl (aJ (v := .d (.lit (.int .i64 ((r8.length : Int))))) (aA rfl) (aH hS rfl) rfl)), trivial⟩⟩
    · exact dJ (aL rfl (aL rfl (aY ⟨rfl, rfl, trivial⟩)))
   ·refine tr1 rfl (aJ (v := .d (.lit (.int .i64 ((r10.length : Int))))) (aA rfl) rfl rfl) ?_
    refine aF ?_
    refine aG ?_
    refine aD ?_
    refine tr1 rfl (aB (v := .d (.lit (.int .i64 ((r8.length : Int))))) (aA rfl) rfl rfl) ?_
    refine tr1 rfl (aB (v := .d (.lit (.int .i64 ((r10.length : Int))))) (aA rfl) rfl rfl) ?_
    refine tr1 rfl (bB (aA rfl) rfl rfl rfl) ?_
    refine aF ?_
    refine bH rfl (fun c12 => ?_) (fun c12 => ?_)
    ·have h := aS c12 h
     refine aG ?_
     refine aD ?_
     refine tr1 rfl (aB (v := .d (.lit (.int .i64 ((r8.length : Int))))) (aA rfl) rfl rfl) ?_
     refine tr1 rfl (aB (v := .d (.lit (.int .i64 ((r10.length : Int))))) (aA rfl) rfl rfl) ?_
     refine tr1 rfl (bB (aA rfl) rfl rfl rfl) ?_
     refine tr1 rfl (aJ (v := .d (.lit (.bool ((decide ((r8.length : Int) < (r10.length : Int))))))) (aA rfl) rfl rfl) ?_
     refine aF ?_
     have h := Option.some.inj h
     subst h
     refine cI (bX (cB (l := [8]) ⟨rfl, trivial⟩)) ?_
     exact bI ⟨rfl, _, .one _, rfl, rfl⟩
    ·have h := aR c12 h
     refine bF ?_
     refine aG ?_
     refine aD ?_
     refine tr1 rfl (aB (v := .d (.lit (.int .i64 a_1))) (aA rfl) rfl rfl) ?_
     refine tr1 rfl (aB (v := .d (.lit (.int .i64 b_2))) (aA rfl) rfl rfl) ?_
     refine tr1 rfl (bB (aA rfl) rfl rfl rfl) ?_
     refine tr1 rfl (aJ (v := .d (.lit (.bool ((decide (a_1 < b_2)))))) (aA rfl) rfl rfl) ?_
     refine aF ?_
     have h := Option.some.inj h
     subst h
     refine cI (bX (cB (l := [8]) ⟨rfl, trivial⟩)) ?_
     exact bI ⟨rfl, _, .one _, rfl, rfl⟩

theorem uJ (l_0 : aN) (week_1 : Int) {r : (List Int)} (h : kW l_0 week_1 = some r) : Fn Try.prog 65 [.agg (aT l_0), .d (.lit (.int .i64 week_1))] (.d (.sl 1 (r.map cG))) := by
 unfold kW at h
 refine Fn.of_tr Try.func65 rfl (rs := [.tmp 4]) Try.results65 Try.ntmps65 (Nat.le_of_ble_eq_true rfl) ?_
 refine aG ?_
 refine aD ?_
 refine bQ rfl (eD (v := .agg (aT l_0)) (aA rfl) rfl rfl rfl) ?_
 rintro _ ⟨b1, rfl⟩
 refine tr1 rfl (pM 1 (aA rfl)) ?_
 refine aF ?_
 refine aG ?_
 refine aD ?_
 refine tr1 rfl (pM 1 (aA rfl)) ?_
 refine aF ?_
 refine aG ?_
 refine aG ?_
 refine aD ?_
 refine tr1 rfl (aJ (v := .d (.lit (.int .i64 0))) (aA rfl) rfl rfl) ?_
 refine aF ?_
 refine bP ?_
 refine cJ [1, 2] (fun (s2 : (List Int) × Int) => [(5, .d (.sl 1 (s2.1.map cG))), (6, .d (.lit (.int .i64 s2.2)))]) (fun (s2 : (List Int) × Int) => [.box b1 0 (aT l_0)]) (fun (k : Nat) (s2 : (List Int) × Int) => fV week_1 l_0 k s2.1 s2.2) (fun _ => rfl) (([] : List Int), 0) h (aX [0] rfl rfl (aL rfl (aL rfl (aY ⟨rfl, rfl, trivial⟩)))) ?_
 rintro k3 ⟨out_0_2, p_0_2⟩ h
 simp only [fV] at h
 refine aG ?_
 refine aG ?_
 refine aD ?_
 refine tr1 rfl (aB (v := .d (.lit (.int .i64 p_0_2))) (aA rfl) rfl rfl) ?_
 refine tr1 rfl (aV (aA rfl) rfl jA) ?_
 refine tr1 rfl (aW (aA rfl) rfl (i := 0) rfl rfl bG) ?_
 refine tr1 rfl (bB (aA rfl) rfl rfl rfl) ?_
 refine aF ?_
 refine bH rfl (fun c4 => ?_) (fun c4 => ?_)
 ·have h := aS c4 h
  refine bF ?_
  refine aG ?_
  refine bP ?_
  refine aG ?_
  refine aG ?_
  refine aD ?_
  refine tr1 rfl (cA (aA rfl) rfl (i := 0) rfl dI (es := (aT l_0)) rfl rfl) ?_
  refine tr1 rfl (aB (v := .d (.lit (.int .i64 p_0_2))) (aA rfl) rfl rfl) ?_
  refine tr1 rfl (aB (v := .d (.lit (.int .i64 week_1))) (aA rfl) rfl rfl) ?_
  obtain ⟨r5, h6, h⟩ := bind_some h
  refine tr1 rfl (bY (aA rfl) (.func _ _ Try.call28) rfl rfl (BVs.refl _ _) (xX _ _ _ h6) rfl) ?_
  refine tr1 rfl (eN (aA rfl) rfl) ?_
  refine aF ?_
  refine bH rfl (fun c7 => ?_) (fun c7 => ?_)
  ·have h := aS c7 h
   refine cQ ?_
   refine .inl ⟨rfl, ?_⟩
   simp only [iZ] at h
   refine aD ?_
   refine tr1 rfl (aB (v := .d (.lit (.int .i64 p_0_2))) (aA rfl) rfl rfl) ?_
   refine tr1 rfl (aZ (aA rfl) rfl rfl rfl) ?_
   refine tr1 rfl (aJ (v := .d (.lit (.int .i64 ((w64 (p_0_2 + 1)))))) (aA rfl) rfl rfl) ?_
   refine aF ?_
   exact ⟨(out_0_2, w64 (p_0_2 + 1)), h, aX [0] rfl rfl (aL rfl (aL rfl (aY ⟨rfl, rfl, trivial⟩)))⟩
  ·have h := aR c7 h
   refine bF ?_
   refine aG ?_
   refine aD ?_
   refine tr1 rfl (aJ (v := .d (.lit (.int .i64 0))) (aA rfl) rfl rfl) ?_
   refine aF ?_
   refine aG ?_
   refine bP ?_
   refine cJ [1, 2, 5, 6] (fun (s8 : Int) => [(7, .d (.lit (.int .i64 s8)))]) (fun (s8 : Int) => [.box b1 0 (aT l_0)]) (fun (k : Nat) (s8 : Int) => hT (fV week_1 l_0 k3) week_1 out_0_2 p_0_2 l_0 k s8) (fun _ => rfl) (0) h (aX [0] rfl rfl (aL rfl (aY ⟨rfl, rfl, rfl, rfl, trivial⟩))) ?_
   rintro k9 atv_2_8 h
   simp only [hT] at h
   refine aG ?_
   refine aG ?_
   obtain ⟨b10, h11, h⟩ := bind_some h
   refine fD mix 14 [1, 2, 5, 6, 7] [(33, .d (.lit (.bool b10)))] ?_ ?_
   ·refine bJ (decide (atv_2_8 < (out_0_2.length : Int))) (fun c12 => ?_) (fun c12 => ?_)
    ·have h11 := aS c12 h11
     obtain ⟨x13, h14, h11⟩ := bind_some h11
     obtain ⟨r15, h16, h11⟩ := bind_some h11
     have h11 := Option.some.inj h11
     subst h11
     refine ⟨[(20, 0, .d (.lit (.int .i64 atv_2_8))), (21, 1, .d (.sl 1 (out_0_2.map cG))), (22, 2, .d (.lit (.int .i64 ((out_0_2.length : Int))))), (23, 3, .d (.lit (.bool ((decide (atv_2_8 < (out_0_2.length : Int))))))), (24, 4, .d (.lit (.bool ((decide (atv_2_8 < (out_0_2.length : Int))))))), (25, 5, .agg (aT l_0)), (26, 6, .d (.sl 1 (out_0_2.map cG))), (27, 7, .d (.lit (.int .i64 atv_2_8))), (28, 8, .cp [.lit (.int .i64 x13)]), (29, 9, .d (.lit (.int .i64 x13))), (30, 10, .d (.lit (.int .i64 p_0_2))), (31, 11, .d (.lit (.int .i64 week_1))), (32, 12, .d (.lit (.bool r15))), (33, 13, .d (.lit (.bool r15)))], ?_, ?_⟩
     · exact ⟨by kernel_rfl, by kernel_rfl, by kernel_rfl, by kernel_rfl, by kernel_rfl, [([], []), ([], []), ([1], []), ([0, 2], []), ([3], []), ([4], []), ([4], []), ([4], []), ([4, 6, 7], []), ([4, 8], []), ([4], []), ([4], []), ([4, 5, 9, 10, 11], []), ([4, 12], [])], by kernel_rfl, ⟨fun S hS => aK rfl (aQ rfl (aB (v := .d (.lit (.int .i64 atv_2_8))) (aA rfl) (aH hS rfl) rfl)),
      fun S hS => aK rfl (aQ rfl (aB (v := .d (.sl 1 (out_0_2.map cG))) (aA rfl) (aH hS rfl) rfl)),
      fun S hS => aK rfl (aQ rfl (dB (aA rfl) (aH hS rfl) eI.of)),
      fun S hS => aK rfl (aQ rfl (bB (aA rfl) (aH hS rfl) (aH hS rfl) rfl)),
      fun S hS => aK rfl (aQ rfl (aB (v := .d (.lit (.bool ((decide (atv_2_8 < (out_0_2.length : Int))))))) (aA rfl) (aH hS rfl) rfl)),
      fun S hS => aK rfl (bA rfl rfl (aA rfl) (aO hS rfl) c12 (cA (aA rfl) (aH hS rfl) (i := 0) rfl dI (es := (aT l_0)) rfl rfl)),
      fun S hS => aK rfl (bA rfl rfl (aA rfl) (aO hS rfl) c12 (aB (v := .d (.sl 1 (out_0_2.map cG))) (aA rfl) (aH hS rfl) rfl)),
      fun S hS => aK rfl (bA rfl rfl (aA rfl) (aO hS rfl) c12 (aB (v := .d (.lit (.int .i64 atv_2_8))) (aA rfl) (aH hS rfl) rfl)),
      fun S hS => aK rfl (bA rfl rfl (aA rfl) (aO hS rfl) c12 (bM (aA rfl) (aH hS rfl) (aH hS rfl) eI.of (bK cG h14))),
      fun S hS => aK rfl (bA rfl rfl (aA rfl) (aO hS rfl) c12 (bZ (aA rfl) (aH hS rfl) bG)),
      fun S hS => aK rfl (bA rfl rfl (aA rfl) (aO hS rfl) c12 (aB (v := .d (.lit (.int .i64 p_0_2))) (aA rfl) (aH hS rfl) rfl)),
      fun S hS => aK rfl (bA rfl rfl (aA rfl) (aO hS rfl) c12 (aB (v := .d (.lit (.int .i64 week_1))) (aA rfl) (aH hS rfl) rfl)),
      fun S hS => aK rfl (bA rfl rfl (aA rfl) (aO hS rfl) c12 (bY (aA rfl) (.func _ _ Try.call95) (ev2 (aH hS rfl) (ev2 (aH hS rfl) (ev2 (aH hS rfl) (ev2 (aH hS rfl) evn)))) rfl (BVs.refl _ _) (xY _ _ _ _ h16) rfl)),
      fun S hS => aK rfl (aQ rfl (bN (v := .d (.lit (.bool r15))) (aA rfl) (aH hS rfl) c12 (aH hS rfl) rfl)), trivial⟩⟩
     · exact dJ (aL rfl (aY ⟨rfl, rfl, rfl, rfl, rfl, trivial⟩))
    ·have h11 := aR c12 h11
     have h11 := Option.some.inj h11
     subst h11
     refine ⟨[(20, 0, .d (.lit (.int .i64 atv_2_8))), (21, 1, .d (.sl 1 (out_0_2.map cG))), (22, 2, .d (.lit (.int .i64 ((out_0_2.length : Int))))), (23, 3, .d (.lit (.bool ((decide (atv_2_8 < (out_0_2.length : Int))))))), (24, 4, .d (.lit (.bool ((decide (atv_2_8 < (out_0_2.length : Int))))))), (25, 5, .tup []), (26, 6, .tup []), (27, 7, .tup []), (28, 8, .tup []), (29, 9, .tup []), (30, 10, .tup []), (31, 11, .tup []), (32, 12, .tup []), (33, 13, .d (.lit (.bool false)))], ?_, ?_⟩
     · exact ⟨by kernel_rfl, by kernel_rfl, by kernel_rfl, by kernel_rfl, by kernel_rfl, [([], []), ([], []), ([1], []), ([0, 2], []), ([3], []), ([4], []), ([4], []), ([4], []), ([4, 6, 7], []), ([4, 8], []), ([4], []), ([4], []), ([4, 5, 9, 10, 11], []), ([4, 12], [])], by kernel_rfl, ⟨fun S hS => aK rfl (aQ rfl (aB (v := .d (.lit (.int .i64 atv_2_8))) (aA rfl) (aH hS rfl) rfl)),
      fun S hS => aK rfl (aQ rfl (aB (v := .d (.sl 1 (out_0_2.map cG))) (aA rfl) (aH hS rfl) rfl)),
      fun S hS => aK rfl (aQ rfl (dB (aA rfl) (aH hS rfl) eI.of)),
      fun S hS => aK rfl (aQ rfl (bB (aA rfl) (aH hS rfl) (aH hS rfl) rfl)),
      fun S hS => aK rfl (aQ rfl (aB (v := .d (.lit (.bool ((decide (atv_2_8 < (out_0_2.length : Int))))))) (aA rfl) (aH hS rfl) rfl)),
      fun S hS => aK rfl (bD rfl rfl (aA rfl) rfl (aA rfl) (aO hS rfl) c12),
      fun S hS => aK rfl (bD rfl rfl (aA rfl) rfl (aA rfl) (aO hS rfl) c12),
      fun S hS => aK rfl (bD rfl rfl (aA rfl) rfl (aA rfl) (aO hS rfl) c12),
      fun S hS => aK rfl (bD rfl rfl (aA rfl) rfl (aA rfl) (aO hS rfl) c12),
      fun S hS => aK rfl (bD rfl rfl (aA rfl) rfl (aA rfl) (aO hS rfl) c12),
      fun S hS => aK rfl (bD rfl rfl (aA rfl) rfl (aA rfl) (aO hS rfl) c12),
      fun S hS => aK rfl (bD rfl rfl (aA rfl) rfl (aA rfl) (aO hS rfl) c12),
      fun S hS => aK rfl (bD rfl rfl (aA rfl) rfl (aA rfl) (aO hS rfl) c12),
      fun S hS => aK rfl (aQ rfl (bO (v := .d (.lit (.bool false))) (aA rfl) (aH hS rfl) c12 rfl rfl)), trivial⟩⟩
     · exact dJ (aL rfl (aY ⟨rfl, rfl, rfl, rfl, rfl, trivial⟩))
   ·refine aF ?_
    refine bH rfl (fun c17 => ?_) (fun c17 => ?_)
    ·have h := aS c17 h
     refine bF ?_
     refine bP ?_
     refine aD ?_
     refine tr1 rfl (aB (v := .d (.lit (.int .i64 atv_2_8))) (aA rfl) rfl rfl) ?_
     refine tr1 rfl (aZ (aA rfl) rfl rfl rfl) ?_
     refine tr1 rfl (aJ (v := .d (.lit (.int .i64 ((w64 (atv_2_8 + 1)))))) (aA rfl) rfl rfl) ?_
     refine dA ?_
     exact ⟨(w64 (atv_2_8 + 1)), h, aX [0] rfl rfl (aL rfl (aY ⟨rfl, rfl, rfl, rfl, trivial⟩))⟩
    ·have h := aR c17 h
     refine cQ ?_
     refine .inl ⟨rfl, ?_⟩
     simp only [nW] at h
     refine aG ?_
     refine aD ?_
     refine tr1 rfl (aB (v := .d (.lit (.int .i64 p_0_2))) (aA rfl) rfl rfl) ?_
     refine tr1 rfl (vP (aA rfl) eI rfl rfl (rows := ([p_0_2]).map cG) rfl (cT (f := cG) fun _ => rfl) rfl (by decide)) ?_
     refine tr1 rfl (aB (v := .d (.sl 1 (out_0_2.map cG))) (aA rfl) rfl rfl) ?_
     refine tr1 rfl (aB (v := .d (.lit (.int .i64 atv_2_8))) (aA rfl) rfl rfl) ?_
     obtain ⟨x18, h19, h⟩ := bind_some h
     refine tr1 rfl (mA (aA rfl) eI.of rfl rfl aGg (pC cG h19)) ?_
     obtain ⟨x20, h21, h⟩ := bind_some h
     refine tr1 rfl (zA (.d (.weak _ _)) (sG (nn := true) (f := cG) (xs := [p_0_2]) (ys := x18) (aA rfl) eI rfl rfl (fun _ => rfl) h21 rfl)) ?_
     refine tr1 rfl (aJ (v := .d (.sl 1 (x20.map cG))) (aA rfl) rfl rfl) ?_
     refine aF ?_
     refine aD ?_
     refine bQ rfl (wB (aA rfl) eI rfl rfl (rows := (([] : List Int)).map cG) rfl (cT (f := cG) fun _ => rfl) rfl (by decide)) ?_
     rintro _ ⟨v22, rfl⟩
     refine tr1 rfl (aB (v := .d (.sl 1 (out_0_2.map cG))) (aA rfl) rfl rfl) ?_
     refine tr1 rfl (aB (v := .d (.lit (.int .i64 atv_2_8))) (aA rfl) rfl rfl) ?_
     obtain ⟨x23, h24, h⟩ := bind_some h
     refine tr1 rfl (mA (aA rfl) eI.of rfl rfl rfl (pC cG h24)) ?_
     obtain ⟨x25, h26, h⟩ := bind_some h
     refine bQ rfl (kC (i := 1) (aA rfl) eI rfl rfl rfl (fun _ => rfl) h26 rfl) ?_
     rintro _ ⟨v27, rfl⟩
     refine tr1 rfl (aB (v := .d (.sl 1 (x20.map cG))) (aA rfl) rfl rfl) ?_
     obtain ⟨x28, h29, h⟩ := bind_some h
     refine bQ rfl (kC (i := 1) (aA rfl) eI rfl rfl rfl (fun _ => rfl) h29 rfl) ?_
     rintro _ ⟨v30, rfl⟩
     refine eR (uV [.box b1 0 (aT l_0)] [.arr v30 3 1 (x28.map cG)] rfl (aGz (v' := .d (.sl 1 (x28.map cG))) (.d (aFr (cT (f := cG) fun _ => rfl))) (pF _ _))) ?_
     refine tr1 rfl (aJ (v := .d (.sl 1 (x28.map cG))) (aA rfl) rfl rfl) ?_
     refine dA ?_
     simp only [iZ] at h
     refine aD ?_
     refine tr1 rfl (aB (v := .d (.lit (.int .i64 p_0_2))) (aA rfl) rfl rfl) ?_
     refine tr1 rfl (aZ (aA rfl) rfl rfl rfl) ?_
     refine tr1 rfl (aJ (v := .d (.lit (.int .i64 ((w64 (p_0_2 + 1)))))) (aA rfl) rfl rfl) ?_
     refine aF ?_
     exact ⟨(x28, w64 (p_0_2 + 1)), h, aX [0] rfl rfl (aL rfl (aL rfl (aY ⟨rfl, rfl, trivial⟩)))⟩
 ·have h := aR c4 h
  refine cQ ?_
  refine .inl ⟨rfl, ?_⟩
  simp only [qO] at h
  refine aG ?_
  refine aD ?_
  refine tr1 rfl (aB (v := .d (.sl 1 (out_0_2.map cG))) (aA rfl) rfl rfl) ?_
  refine tr1 rfl (aJ (v := .d (.sl 1 (out_0_2.map cG))) (aA rfl) rfl rfl) ?_
  refine aF ?_
  have h := Option.some.inj h
  subst h
  refine cI (bX (cB (l := [4]) ⟨rfl, trivial⟩)) ?_
  exact bI ⟨rfl, _, .one _, rfl, rfl⟩

theorem tV (l_0 : aN) (player_1 : Int) (week_2 : Int) {r : Int} (h : kO l_0 player_1 week_2 = some r) : Fn Try.prog 54 [.agg (aT l_0), .d (.lit (.int .i64 player_1)), .d (.lit (.int .i64 week_2))] (.d (.lit (.int .i64 r))) := by
 unfold kO at h
 refine Fn.of_tr Try.func54 rfl (rs := [.tmp 6]) Try.results54 Try.ntmps54 (Nat.le_of_ble_eq_true rfl) ?_
 refine aG ?_
 refine aD ?_
 refine bQ rfl (eD (v := .agg (aT l_0)) (aA rfl) rfl rfl rfl) ?_
 rintro _ ⟨b1, rfl⟩
 refine tr1 rfl (aJ (v := .d (.lit (.int .i64 0))) (aA rfl) rfl rfl) ?_
 refine aF ?_
 refine aG ?_
 refine aD ?_
 refine tr1 rfl (cA (aA rfl) rfl (i := 0) rfl dI (es := (aT l_0)) rfl rfl) ?_
 refine tr1 rfl (aB (v := .d (.lit (.int .i64 week_2))) (aA rfl) rfl rfl) ?_
 obtain ⟨r2, h3, h⟩ := bind_some h
 refine tr1 rfl (iB (aA rfl) (.func _ _ Try.call65) rfl rfl (uJ _ _ h3)) ?_
 refine tr1 rfl (aJ (v := .d (.sl 1 (r2.map cG))) (aA rfl) rfl rfl) ?_
 refine aF ?_
 refine aG ?_
 refine aG ?_
 refine aD ?_
 refine tr1 rfl (aJ (v := .d (.lit (.int .i64 0))) (aA rfl) rfl rfl) ?_
 refine aF ?_
 refine bP ?_
 refine cJ [1, 7] (fun (s4 : Int) => [(8, .d (.lit (.int .i64 s4)))]) (fun (s4 : Int) => []) (fun (k : Nat) (s4 : Int) => fX player_1 r2 k s4) (fun _ => rfl) (0) h (aX [] rfl rfl (aL rfl (aY ⟨rfl, rfl, trivial⟩))) ?_
 rintro k5 i_0_4 h
 simp only [fX] at h
 refine aG ?_
 refine aG ?_
 refine aD ?_
 refine tr1 rfl (aB (v := .d (.lit (.int .i64 i_0_4))) (aA rfl) rfl rfl) ?_
 refine tr1 rfl (aB (v := .d (.sl 1 (r2.map cG))) (aA rfl) rfl rfl) ?_
 refine tr1 rfl (dB (aA rfl) rfl eI.of) ?_
 refine tr1 rfl (bB (aA rfl) rfl rfl rfl) ?_
 refine aF ?_
 refine bH rfl (fun c6 => ?_) (fun c6 => ?_)
 ·have h := aS c6 h
  refine bF ?_
  refine aG ?_
  refine bP ?_
  refine aG ?_
  refine aD ?_
  refine tr1 rfl (aB (v := .d (.sl 1 (r2.map cG))) (aA rfl) rfl rfl) ?_
  refine tr1 rfl (aB (v := .d (.lit (.int .i64 i_0_4))) (aA rfl) rfl rfl) ?_
  obtain ⟨x7, h8, h⟩ := bind_some h
  refine tr1 rfl (bM (aA rfl) rfl rfl eI.of (bK cG h8)) ?_
  refine tr1 rfl (bZ (aA rfl) rfl bG) ?_
  refine tr1 rfl (aB (v := .d (.lit (.int .i64 player_1))) (aA rfl) rfl rfl) ?_
  refine tr1 rfl (bB (aA rfl) rfl rfl rfl) ?_
  refine aF ?_
  refine bH rfl (fun c9 => ?_) (fun c9 => ?_)
  ·have h := aS c9 h
   refine aG ?_
   refine aD ?_
   refine tr1 rfl (aB (v := .d (.lit (.int .i64 i_0_4))) (aA rfl) rfl rfl) ?_
   refine tr1 rfl (aZ (aA rfl) rfl rfl rfl) ?_
   refine tr1 rfl (aJ (v := .d (.lit (.int .i64 ((w64 (i_0_4 + 1)))))) (aA rfl) rfl rfl) ?_
   refine aF ?_
   have h := Option.some.inj h
   subst h
   exact bI ⟨rfl, _, .one _, rfl, rfl⟩
  ·have h := aR c9 h
   refine dK ?_
   refine aD ?_
   refine tr1 rfl (aB (v := .d (.lit (.int .i64 i_0_4))) (aA rfl) rfl rfl) ?_
   refine tr1 rfl (aZ (aA rfl) rfl rfl rfl) ?_
   refine tr1 rfl (aJ (v := .d (.lit (.int .i64 ((w64 (i_0_4 + 1)))))) (aA rfl) rfl rfl) ?_
   refine aF ?_
   exact ⟨(w64 (i_0_4 + 1)), h, aX [] rfl rfl (aL rfl (aY ⟨rfl, rfl, trivial⟩))⟩
 ·have h := aR c6 h
  refine cQ ?_
  refine .inl ⟨rfl, ?_⟩
  simp only [qD] at h
  refine aG ?_
  refine aD ?_
  refine tr1 rfl (aJ (v := .d (.lit (.int .i64 0))) (aA rfl) rfl rfl) ?_
  refine aF ?_
  have h := Option.some.inj h
  subst h
  exact bI ⟨rfl, _, .one _, rfl, rfl⟩

theorem aEh (l_0 : aN) (player_1 : Int) (week_2 : Int) {r : Int × Int} (h : oA l_0 player_1 week_2 = some r) : Fn Try.prog 24 [.agg (aT l_0), .d (.lit (.int .i64 player_1)), .d (.lit (.int .i64 week_2))] (.tup [.d (.lit (.int .i64 r.1)), .d (.lit (.int .i64 r.2))]) := by
 unfold oA at h
 refine Fn.of_tr Try.func24 rfl (rs := [.tmp 6, .tmp 7]) Try.results24 Try.ntmps24 (Nat.le_of_ble_eq_true rfl) ?_
 refine aG ?_
 refine aD ?_
 refine bQ rfl (eD (v := .agg (aT l_0)) (aA rfl) rfl rfl rfl) ?_
 rintro _ ⟨b1, rfl⟩
 refine tr1 rfl (aJ (v := .d (.lit (.int .i64 0))) (aA rfl) rfl rfl) ?_
 refine tr1 rfl (aJ (v := .d (.lit (.int .i64 0))) (aA rfl) rfl rfl) ?_
 refine aF ?_
 refine aG ?_
 refine aD ?_
 refine tr1 rfl (cA (aA rfl) rfl (i := 0) rfl dI (es := (aT l_0)) rfl rfl) ?_
 refine tr1 rfl (aB (v := .d (.lit (.int .i64 player_1))) (aA rfl) rfl rfl) ?_
 refine tr1 rfl (aB (v := .d (.lit (.int .i64 week_2))) (aA rfl) rfl rfl) ?_
 obtain ⟨r2, h3, h⟩ := bind_some h
 refine bQ rfl (dQ (passed := []) (aA rfl) rfl (.func _ _ Try.call44) rfl rfl (sQ _ _ _ h3)) ?_
 rintro _ ⟨_, _, ⟨b5, w6, rfl, rfl⟩, rfl⟩
 obtain ⟨_ | y4, e7⟩ := r2
 ·have h := wT h
  refine eR (aX [0] rfl rfl (le_refl _)) ?_
  refine tr1 rfl (aB (v := .tup [.d (.lit (.pointer none)), .d (.lit (.int .i64 e7))]) (aA rfl) rfl rfl) ?_
  refine tr1 rfl (cH (aA rfl) rfl rfl) ?_
  refine tr1 rfl (cH (aA rfl) rfl rfl) ?_
  refine tr1 rfl (aJ (v := .d (.lit (.pointer none))) (aA rfl) rfl rfl) ?_
  refine tr1 rfl (aJ (v := .d (.lit (.int .i64 e7))) (aA rfl) rfl rfl) ?_
  refine aF ?_
  refine aG ?_
  refine aG ?_
  refine aD ?_
  refine tr1 rfl (aB (v := .d (.lit (.int .i64 e7))) (aA rfl) rfl rfl) ?_
  refine tr1 rfl (bB (aA rfl) rfl rfl rfl) ?_
  refine aF ?_
  refine bH rfl (fun c8 => ?_) (fun c8 => ?_)
  ·have h := aS c8 h
   refine aG ?_
   refine aD ?_
   refine tr1 rfl (aB (v := .d (.lit (.int .i64 e7))) (aA rfl) rfl rfl) ?_
   refine tr1 rfl (aJ (v := .d (.lit (.int .i64 0))) (aA rfl) rfl rfl) ?_
   refine tr1 rfl (aJ (v := .d (.lit (.int .i64 e7))) (aA rfl) rfl rfl) ?_
   refine aF ?_
   have h := Option.some.inj h
   subst h
   refine cI (bX (cB (l := [6, 7]) ⟨rfl, rfl, trivial⟩)) ?_
   exact bI ⟨rfl, _, .two _ _, rfl, rfl⟩
  ·have h := aR c8 h
   refine bF ?_
   refine aG ?_
   refine aD ?_
   refine tr1 rfl (aB (v := .d (.lit (.pointer none))) (aA rfl) rfl rfl) ?_
   refine tr1 rfl (aB (v := .d (.lit (.int .i64 player_1))) (aA rfl) rfl rfl) ?_
   refine tr1 rfl (aB (v := .d (.lit (.int .i64 week_2))) (aA rfl) rfl rfl) ?_
   cases h
 ·have h := wU h
  refine eR (aX [0, 1, 2] rfl rfl (le_refl _)) ?_
  refine tr1 rfl (aB (v := .tup [.bp b5 0 0, .d (.lit (.int .i64 e7))]) (aA rfl) rfl rfl) ?_
  refine tr1 rfl (cH (aA rfl) rfl rfl) ?_
  refine tr1 rfl (cH (aA rfl) rfl rfl) ?_
  refine tr1 rfl (aJ (v := .bp b5 0 0) (aA rfl) rfl rfl) ?_
  refine tr1 rfl (aJ (v := .d (.lit (.int .i64 e7))) (aA rfl) rfl rfl) ?_
  refine aF ?_
  refine aG ?_
  refine aG ?_
  refine aD ?_
  refine tr1 rfl (aB (v := .d (.lit (.int .i64 e7))) (aA rfl) rfl rfl) ?_
  refine tr1 rfl (bB (aA rfl) rfl rfl rfl) ?_
  refine aF ?_
  refine bH rfl (fun c9 => ?_) (fun c9 => ?_)
  ·have h := aS c9 h
   refine aG ?_
   refine aD ?_
   refine tr1 rfl (aB (v := .d (.lit (.int .i64 e7))) (aA rfl) rfl rfl) ?_
   refine tr1 rfl (aJ (v := .d (.lit (.int .i64 0))) (aA rfl) rfl rfl) ?_
   refine tr1 rfl (aJ (v := .d (.lit (.int .i64 e7))) (aA rfl) rfl rfl) ?_
   refine aF ?_
   have h := Option.some.inj h
   subst h
   refine cI (bX (cB (l := [6, 7]) ⟨rfl, rfl, trivial⟩)) ?_
   exact bI ⟨rfl, _, .two _ _, rfl, rfl⟩
  ·have h := aR c9 h
   refine bF ?_
   refine aG ?_
   refine aD ?_
   refine tr1 rfl (aB (v := .bp b5 0 0) (aA rfl) rfl rfl) ?_
   refine tr1 rfl (aB (v := .d (.lit (.int .i64 player_1))) (aA rfl) rfl rfl) ?_
   refine tr1 rfl (aB (v := .d (.lit (.int .i64 week_2))) (aA rfl) rfl rfl) ?_
   obtain ⟨r10, h11, h⟩ := bind_some h
   refine tr1 rfl (bY (aA rfl) (.func _ _ Try.call51) rfl rfl (.cons ((oW 0 rfl rfl (dvc (.same _) (dvc (.same _) (dvc (gY 1 rfl (cT (f := aC) fun _ => rfl)) (dvc (.same _) (dvc (.same _) dvn))))))) (.cons (.same _) (.cons (.same _) .nil))) (rI _ _ _ h11) rfl) ?_
   refine tr1 rfl (aJ (v := .d (.lit (.int .i64 r10))) (aA rfl) rfl rfl) ?_
   refine aF ?_
   refine aG ?_
   refine aG ?_
   refine aD ?_
   refine tr1 rfl (aB (v := .d (.lit (.int .i64 r10))) (aA rfl) rfl rfl) ?_
   refine tr1 rfl (bB (aA rfl) rfl rfl rfl) ?_
   refine aF ?_
   refine bH rfl (fun c12 => ?_) (fun c12 => ?_)
   ·have h := aS c12 h
    refine aG ?_
    refine aD ?_
    refine tr1 rfl (aJ (v := .d (.lit (.int .i64 0))) (aA rfl) rfl rfl) ?_
    refine tr1 rfl (aJ (v := .d (.lit (.int .i64 3))) (aA rfl) rfl rfl) ?_
    refine aF ?_
    have h := Option.some.inj h
    subst h
    refine cI (bX (cB (l := [6, 7]) ⟨rfl, rfl, trivial⟩)) ?_
    exact bI ⟨rfl, _, .two _ _, rfl, rfl⟩
   ·have h := aR c12 h
    refine bF ?_
    refine aG ?_
    refine aD ?_
    refine tr1 rfl (aB (v := .d (.lit (.int .i64 r10))) (aA rfl) rfl rfl) ?_
    refine tr1 rfl (aJ (v := .d (.lit (.int .i64 r10))) (aA rfl) rfl rfl) ?_
    refine tr1 rfl (aJ (v := .d (.lit (.int .i64 0))) (aA rfl) rfl rfl) ?_
    refine aF ?_
    have h := Option.some.inj h
    subst h
    refine cI (bX (cB (l := [6, 7]) ⟨rfl, rfl, trivial⟩)) ?_
    exact bI ⟨rfl, _, .two _ _, rfl, rfl⟩

theorem uB (s_0 : List aP) {r : (List aP)} (h : hG s_0 = some r) : gE Try.prog 63 [.d (.sl 3 (s_0.map aI))] [] (fun r' o' => ∃ (w0 : Value), r' = .d (.lit w0) ∧ o' = [.arr w0 66 3 (r.map aI)]) := by
 unfold hG at h
 refine lZ Try.func63 rfl (rs := [.tmp 2]) Try.results63 Try.ntmps63 (Nat.le_of_ble_eq_true rfl) ?_
 refine aG ?_
 refine aD ?_
 refine tr1 rfl (hZ 66 3 (.inl rfl) (aA rfl)) ?_
 refine aF ?_
 refine aG ?_
 refine aG ?_
 refine aD ?_
 refine tr1 rfl (aB (v := .d (.sl 3 (s_0.map aI))) (aA rfl) rfl rfl) ?_
 refine bQ rfl (aBo (aA rfl) rfl rfl Try.underlying23) ?_
 rintro _ ⟨b2, h3, rfl⟩
 refine aF ?_
 refine bH rfl (fun c4 => ?_) (fun c4 => ?_)
 ·obtain rfl := aBf (h3 c4)
  simp [app] at h
  subst h
  refine aG ?_
  refine aD ?_
  refine tr1 rfl (hZ 66 3 (.inl rfl) (aA rfl)) ?_
  refine aF ?_
  refine cI (aX [1, 0] rfl rfl (le_refl _)) ?_
  exact bI ⟨rfl, _, [.arr (.slice none 0 0) 66 3 (([] : List aP).map aI)], [.arr (.slice none 0 0) 66 3 (([] : List aP).map aI)], _, .one (.tmp 2 (v := .d (.lit (.slice none 0 0))) rfl), .refl _, .same _, (.slice none 0 0), rfl, rfl⟩
 ·refine bF ?_
  refine aG ?_
  refine aD ?_
  refine bQ rfl (wB (aA rfl) dY rfl rfl (rows := (([] : List aP)).map aI) rfl (cT (f := aI) fun _ => rfl) rfl (by decide)) ?_
  rintro _ ⟨v5, rfl⟩
  refine tr1 rfl (aB (v := .d (.sl 3 (s_0.map aI))) (aA rfl) rfl rfl) ?_
  obtain ⟨x6, h7, h⟩ := bind_some h
  refine bQ rfl (kC (i := 1) (aA rfl) dY rfl rfl rfl (fun _ => rfl) h7 rfl) ?_
  rintro _ ⟨v8, rfl⟩
  refine tr1 rfl (aJ (v := .d (.lit v8)) (aA rfl) rfl rfl) ?_
  refine aF ?_
  have h := Option.some.inj h
  subst h
  refine cI (aX [1, 0] rfl rfl (le_refl _)) ?_
  exact bI ⟨rfl, _, [.arr v8 66 3 (x6.map aI)], [.arr (.slice none 0 0) 66 3 (([] : List aP).map aI)], _, .one (.tmp 2 (v := .d (.lit v8)) rfl), .refl _, .same _, v8, rfl, rfl⟩

theorem zP (l_0 : aN) (week_1 : Int) {r : (List Int) × Int} (h : jZ l_0 week_1 = some r) : Fn Try.prog 33 [.agg (aT l_0), .d (.lit (.int .i64 week_1))] (.tup [.d (.sl 1 (r.1.map cG)), .d (.lit (.int .i64 r.2))]) := by
 unfold jZ at h
 refine Fn.of_tr Try.func33 rfl (rs := [.tmp 4, .tmp 5]) Try.results33 Try.ntmps33 (Nat.le_of_ble_eq_true rfl) ?_
 refine aG ?_
 refine aD ?_
 refine bQ rfl (eD (v := .agg (aT l_0)) (aA rfl) rfl rfl rfl) ?_
 rintro _ ⟨b1, rfl⟩
 refine tr1 rfl (pM 1 (aA rfl)) ?_
 refine tr1 rfl (aJ (v := .d (.lit (.int .i64 0))) (aA rfl) rfl rfl) ?_
 refine aF ?_
 refine aG ?_
 refine aG ?_
 refine aD ?_
 refine tr1 rfl (cA (aA rfl) rfl (i := 0) rfl dI (es := (aT l_0)) rfl rfl) ?_
 refine tr1 rfl (aB (v := .d (.lit (.int .i64 week_1))) (aA rfl) rfl rfl) ?_
 obtain ⟨r2, h3, h⟩ := bind_some h
 refine tr1 rfl (bY (aA rfl) (.func _ _ Try.call52) rfl rfl (BVs.refl _ _) (mI _ _ _ h3) rfl) ?_
 refine tr1 rfl (aJ (v := .d (.lit (.int .i64 r2))) (aA rfl) rfl rfl) ?_
 refine aF ?_
 refine aG ?_
 refine aD ?_
 refine tr1 rfl (aB (v := .d (.lit (.int .i64 r2))) (aA rfl) rfl rfl) ?_
 refine tr1 rfl (bB (aA rfl) rfl rfl rfl) ?_
 refine aF ?_
 refine bH rfl (fun c4 => ?_) (fun c4 => ?_)
 ·have h := aS c4 h
  refine aG ?_
  refine aD ?_
  refine tr1 rfl (aB (v := .d (.lit (.int .i64 r2))) (aA rfl) rfl rfl) ?_
  refine tr1 rfl (pM 1 (aA rfl)) ?_
  refine tr1 rfl (aJ (v := .d (.lit (.int .i64 r2))) (aA rfl) rfl rfl) ?_
  refine aF ?_
  have h := Option.some.inj h
  subst h
  refine cI (bX (cB (l := [4, 5]) ⟨rfl, rfl, trivial⟩)) ?_
  exact bI ⟨rfl, _, .two _ _, rfl, rfl⟩
 ·have h := aR c4 h
  refine bF ?_
  refine aG ?_
  refine aD ?_
  refine tr1 rfl (cA (aA rfl) rfl (i := 0) rfl dI (es := (aT l_0)) rfl rfl) ?_
  refine tr1 rfl (aB (v := .d (.lit (.int .i64 week_1))) (aA rfl) rfl rfl) ?_
  obtain ⟨r5, h6, h⟩ := bind_some h
  refine tr1 rfl (iB (aA rfl) (.func _ _ Try.call65) rfl rfl (uJ _ _ h6)) ?_
  refine tr1 rfl (aJ (v := .d (.sl 1 (r5.map cG))) (aA rfl) rfl rfl) ?_
  refine tr1 rfl (aJ (v := .d (.lit (.int .i64 0))) (aA rfl) rfl rfl) ?_
  refine aF ?_
  have h := Option.some.inj h
  subst h
  refine cI (bX (cB (l := [4, 5]) ⟨rfl, rfl, trivial⟩)) ?_
  exact bI ⟨rfl, _, .two _ _, rfl, rfl⟩

theorem yJ (l_0 : aN) (player_1 : Int) (week_2 : Int) {r : Int × Int} (h : iY l_0 player_1 week_2 = some r) : Fn Try.prog 34 [.agg (aT l_0), .d (.lit (.int .i64 player_1)), .d (.lit (.int .i64 week_2))] (.tup [.d (.lit (.int .i64 r.1)), .d (.lit (.int .i64 r.2))]) := by
 unfold iY at h
 refine Fn.of_tr Try.func34 rfl (rs := [.tmp 6, .tmp 7]) Try.results34 Try.ntmps34 (Nat.le_of_ble_eq_true rfl) ?_
 refine aG ?_
 refine aD ?_
 refine bQ rfl (eD (v := .agg (aT l_0)) (aA rfl) rfl rfl rfl) ?_
 rintro _ ⟨b1, rfl⟩
 refine tr1 rfl (aJ (v := .d (.lit (.int .i64 0))) (aA rfl) rfl rfl) ?_
 refine tr1 rfl (aJ (v := .d (.lit (.int .i64 0))) (aA rfl) rfl rfl) ?_
 refine aF ?_
 refine aG ?_
 refine aG ?_
 refine aD ?_
 refine tr1 rfl (cA (aA rfl) rfl (i := 0) rfl dI (es := (aT l_0)) rfl rfl) ?_
 refine tr1 rfl (aB (v := .d (.lit (.int .i64 player_1))) (aA rfl) rfl rfl) ?_
 refine tr1 rfl (aB (v := .d (.lit (.int .i64 week_2))) (aA rfl) rfl rfl) ?_
 obtain ⟨r2, h3, h⟩ := bind_some h
 refine tr1 rfl (bY (aA rfl) (.func _ _ Try.call52) rfl rfl (BVs.refl _ _) (mI _ _ _ h3) rfl) ?_
 refine tr1 rfl (aJ (v := .d (.lit (.int .i64 r2))) (aA rfl) rfl rfl) ?_
 refine aF ?_
 refine aG ?_
 refine aD ?_
 refine tr1 rfl (aB (v := .d (.lit (.int .i64 r2))) (aA rfl) rfl rfl) ?_
 refine tr1 rfl (bB (aA rfl) rfl rfl rfl) ?_
 refine aF ?_
 refine bH rfl (fun c4 => ?_) (fun c4 => ?_)
 ·have h := aS c4 h
  refine aG ?_
  refine aD ?_
  refine tr1 rfl (aB (v := .d (.lit (.int .i64 r2))) (aA rfl) rfl rfl) ?_
  refine tr1 rfl (aJ (v := .d (.lit (.int .i64 0))) (aA rfl) rfl rfl) ?_
  refine tr1 rfl (aJ (v := .d (.lit (.int .i64 r2))) (aA rfl) rfl rfl) ?_
  refine aF ?_
  have h := Option.some.inj h
  subst h
  refine cI (bX (cB (l := [6, 7]) ⟨rfl, rfl, trivial⟩)) ?_
  exact bI ⟨rfl, _, .two _ _, rfl, rfl⟩
 ·have h := aR c4 h
  refine bF ?_
  refine aG ?_
  refine aD ?_
  refine tr1 rfl (cA (aA rfl) rfl (i := 0) rfl dI (es := (aT l_0)) rfl rfl) ?_
  refine tr1 rfl (aB (v := .d (.lit (.int .i64 player_1))) (aA rfl) rfl rfl) ?_
  refine tr1 rfl (aB (v := .d (.lit (.int .i64 week_2))) (aA rfl) rfl rfl) ?_
  obtain ⟨r5, h6, h⟩ := bind_some h
  refine tr1 rfl (bY (aA rfl) (.func _ _ Try.call54) rfl rfl (BVs.refl _ _) (tV _ _ _ h6) rfl) ?_
  refine tr1 rfl (aJ (v := .d (.lit (.int .i64 r5))) (aA rfl) rfl rfl) ?_
  refine aF ?_
  refine aG ?_
  refine aG ?_
  refine aD ?_
  refine tr1 rfl (aB (v := .d (.lit (.int .i64 r5))) (aA rfl) rfl rfl) ?_
  refine tr1 rfl (bB (aA rfl) rfl rfl rfl) ?_
  refine aF ?_
  refine bH rfl (fun c7 => ?_) (fun c7 => ?_)
  ·have h := aS c7 h
   refine aG ?_
   refine aD ?_
   refine tr1 rfl (aJ (v := .d (.lit (.int .i64 0))) (aA rfl) rfl rfl) ?_
   refine tr1 rfl (aJ (v := .d (.lit (.int .i64 3))) (aA rfl) rfl rfl) ?_
   refine aF ?_
   have h := Option.some.inj h
   subst h
   refine cI (bX (cB (l := [6, 7]) ⟨rfl, rfl, trivial⟩)) ?_
   exact bI ⟨rfl, _, .two _ _, rfl, rfl⟩
  ·have h := aR c7 h
   refine bF ?_
   refine aG ?_
   refine aD ?_
   refine tr1 rfl (aB (v := .d (.lit (.int .i64 r5))) (aA rfl) rfl rfl) ?_
   refine tr1 rfl (aJ (v := .d (.lit (.int .i64 r5))) (aA rfl) rfl rfl) ?_
   refine tr1 rfl (aJ (v := .d (.lit (.int .i64 0))) (aA rfl) rfl rfl) ?_
   refine aF ?_
   have h := Option.some.inj h
   subst h
   refine cI (bX (cB (l := [6, 7]) ⟨rfl, rfl, trivial⟩)) ?_
   exact bI ⟨rfl, _, .two _ _, rfl, rfl⟩

theorem xD (l_0 : aN) (player_1 : Int) (week_2 : Int) {r : Int × Int} (h : hO l_0 player_1 week_2 = some r) : Fn Try.prog 35 [.agg (aT l_0), .d (.lit (.int .i64 player_1)), .d (.lit (.int .i64 week_2))] (.tup [.d (.lit (.int .i64 r.1)), .d (.lit (.int .i64 r.2))]) := by
 unfold hO at h
 refine Fn.of_tr Try.func35 rfl (rs := [.tmp 6, .tmp 7]) Try.results35 Try.ntmps35 (Nat.le_of_ble_eq_true rfl) ?_
 refine aG ?_
 refine aD ?_
 refine bQ rfl (eD (v := .agg (aT l_0)) (aA rfl) rfl rfl rfl) ?_
 rintro _ ⟨b1, rfl⟩
 refine tr1 rfl (aJ (v := .d (.lit (.int .i64 0))) (aA rfl) rfl rfl) ?_
 refine tr1 rfl (aJ (v := .d (.lit (.int .i64 0))) (aA rfl) rfl rfl) ?_
 refine aF ?_
 refine aG ?_
 refine aG ?_
 refine aD ?_
 refine tr1 rfl (cA (aA rfl) rfl (i := 0) rfl dI (es := (aT l_0)) rfl rfl) ?_
 refine tr1 rfl (aB (v := .d (.lit (.int .i64 player_1))) (aA rfl) rfl rfl) ?_
 refine tr1 rfl (aB (v := .d (.lit (.int .i64 week_2))) (aA rfl) rfl rfl) ?_
 obtain ⟨r2, h3, h⟩ := bind_some h
 refine tr1 rfl (bY (aA rfl) (.func _ _ Try.call52) rfl rfl (BVs.refl _ _) (mI _ _ _ h3) rfl) ?_
 refine tr1 rfl (aJ (v := .d (.lit (.int .i64 r2))) (aA rfl) rfl rfl) ?_
 refine aF ?_
 refine aG ?_
 refine aD ?_
 refine tr1 rfl (aB (v := .d (.lit (.int .i64 r2))) (aA rfl) rfl rfl) ?_
 refine tr1 rfl (bB (aA rfl) rfl rfl rfl) ?_
 refine aF ?_
 refine bH rfl (fun c4 => ?_) (fun c4 => ?_)
 ·have h := aS c4 h
  refine aG ?_
  refine aD ?_
  refine tr1 rfl (aB (v := .d (.lit (.int .i64 r2))) (aA rfl) rfl rfl) ?_
  refine tr1 rfl (aJ (v := .d (.lit (.int .i64 0))) (aA rfl) rfl rfl) ?_
  refine tr1 rfl (aJ (v := .d (.lit (.int .i64 r2))) (aA rfl) rfl rfl) ?_
  refine aF ?_
  have h := Option.some.inj h
  subst h
  refine cI (bX (cB (l := [6, 7]) ⟨rfl, rfl, trivial⟩)) ?_
  exact bI ⟨rfl, _, .two _ _, rfl, rfl⟩
 ·have h := aR c4 h
  refine bF ?_
  refine aG ?_
  refine aG ?_
  refine aD ?_
  refine tr1 rfl (aB (v := .d (.lit (.int .i64 week_2))) (aA rfl) rfl rfl) ?_
  refine tr1 rfl (bB (aA rfl) rfl rfl rfl) ?_
  refine aF ?_
  refine bH rfl (fun c5 => ?_) (fun c5 => ?_)
  ·have h := aS c5 h
   refine aG ?_
   refine aD ?_
   refine tr1 rfl (aJ (v := .d (.lit (.int .i64 0))) (aA rfl) rfl rfl) ?_
   refine tr1 rfl (aJ (v := .d (.lit (.int .i64 1))) (aA rfl) rfl rfl) ?_
   refine aF ?_
   have h := Option.some.inj h
   subst h
   refine cI (bX (cB (l := [6, 7]) ⟨rfl, rfl, trivial⟩)) ?_
   exact bI ⟨rfl, _, .two _ _, rfl, rfl⟩
  ·have h := aR c5 h
   refine bF ?_
   refine aG ?_
   refine aD ?_
   refine tr1 rfl (cA (aA rfl) rfl (i := 0) rfl dI (es := (aT l_0)) rfl rfl) ?_
   obtain ⟨r6, h7, h⟩ := bind_some h
   refine tr1 rfl (iB (aA rfl) (.func _ _ Try.call18) rfl rfl (uI _ h7)) ?_
   refine bQ rfl (fF (zs := [.lit (.int .i64 0), .lit (.int .i64 0), .lit (.slice none 0 0), .sl 3 ((([] : List aP)).map aI), .sl 3 ((([] : List aP)).map aI)]) (aA rfl) Try.zeroValue25 rfl rfl) ?_
   rintro _ ⟨b8, rfl⟩
   refine eR (xE 42 5) ?_
   refine tr1 rfl (cF (i := 1) rfl rfl rfl rfl rfl Try.sizeOf25 rfl (aA rfl) (Nat.le_of_ble_eq_true rfl) (ds' := (aT r6)) rfl) ?_
   refine aF ?_
   refine aG ?_
   refine aD ?_
   refine tr1 rfl (aV (aA rfl) rfl eK) ?_
   refine eR (xE 42 5) ?_
   refine tr1 rfl (cF (i := 1) rfl rfl rfl rfl rfl Try.sizeOf22 rfl (aA rfl) (Nat.le_of_ble_eq_true rfl) (ds' := [.lit (.int .i64 r6.Players), .lit (.int .i64 r6.Counts), .lit (.slice none 0 0), .sl 3 (r6.Bans.map aI), .sl 3 (r6.Frozen.map aI)]) rfl) ?_
   refine aF ?_
   refine aG ?_
   refine aG ?_
   refine aD ?_
   refine tr1 rfl (aJ (v := .d (.lit (.int .i64 0))) (aA rfl) rfl rfl) ?_
   refine aF ?_
   refine bP ?_
   refine cJ [1, 2, 3, 9] (fun (s10 : Int × (List aE) × Int × Int × (List aP) × (List aP) × Value) => [(10, .d (.lit (.int .i64 s10.1)))]) (fun (s10 : Int × (List aE) × Int × Int × (List aP) × (List aP) × Value) => [.box b1 0 (aT l_0), .arr s10.2.2.2.2.2.2 42 5 (s10.2.1.map aC), .box b8 0 [.lit (.int .i64 s10.2.2.1), .lit (.int .i64 s10.2.2.2.1), .lit s10.2.2.2.2.2.2, .sl 3 (s10.2.2.2.2.1.map aI), .sl 3 (s10.2.2.2.2.2.1.map aI)]]) (fun (k : Nat) (s10 : Int × (List aE) × Int × Int × (List aP) × (List aP) × Value) => gB player_1 week_2 l_0 k s10.1 s10.2.1 s10.2.2.1 s10.2.2.2.1 s10.2.2.2.2.1 s10.2.2.2.2.2.1) (fun _ => rfl) (0, ([] : List aE), r6.Players, r6.Counts, r6.Bans, r6.Frozen, (.slice none 0 0)) h (aX [0, 3, 1] rfl rfl (aL rfl (aY ⟨rfl, rfl, rfl, rfl, trivial⟩))) ?_
   rintro k12 ⟨i_0_10, o_0_10, o_0_10_2, o_0_10_3, o_0_10_4, o_0_10_5, w11⟩ h
   simp only [gB] at h
   refine aG ?_
   refine aG ?_
   refine aD ?_
   refine tr1 rfl (aB (v := .d (.lit (.int .i64 i_0_10))) (aA rfl) rfl rfl) ?_
   refine tr1 rfl (aV (aA rfl) rfl eK) ?_
   refine tr1 rfl (aW (aA rfl) rfl (i := 0) rfl rfl jB) ?_
   refine tr1 rfl (dB (aA rfl) rfl bR.of) ?_
   refine tr1 rfl (bB (aA rfl) rfl rfl rfl) ?_
   refine aF ?_
   refine bH rfl (fun c13 => ?_) (fun c13 => ?_)
   ·have h := aS c13 h
    refine bF ?_
    refine aG ?_
    refine bP ?_
    refine aG ?_
    refine aD ?_
    refine tr1 rfl (aV (aA rfl) rfl eK) ?_
    refine tr1 rfl (aW (aA rfl) rfl (i := 0) rfl rfl jB) ?_
    refine tr1 rfl (aB (v := .d (.lit (.int .i64 i_0_10))) (aA rfl) rfl rfl) ?_
    obtain ⟨x14, h15, h⟩ := bind_some h
    refine tr1 rfl (bM (aA rfl) rfl rfl bR.of (bK aC h15)) ?_
    refine tr1 rfl (cC (aA rfl) rfl kY (es := [.lit (.int .i64 x14.Week)]) rfl) ?_
    refine tr1 rfl (bZ (aA rfl) rfl bG) ?_
    refine tr1 rfl (aB (v := .d (.lit (.int .i64 week_2))) (aA rfl) rfl rfl) ?_
    refine tr1 rfl (bB (aA rfl) rfl rfl rfl) ?_
    refine aF ?_
    refine bH rfl (fun c16 => ?_) (fun c16 => ?_)
    ·have h := aS c16 h
     obtain ⟨x17, h18, h⟩ := bind_some h
     refine fD mix 8 [1, 2, 3, 9, 10] [(43, .d (.lit w11)), (49, .d (.sl 5 (([x17]).map aC)))] ?_ ?_
     ·refine ⟨[(42, 0, .bp b8 0 2), (43, 1, .d (.lit w11)), (44, 2, .bp b1 0 2), (45, 3, .d (.sl 5 (l_0.Reports.map aC))), (46, 4, .d (.lit (.int .i64 i_0_10))), (47, 5, .cp [.lit (.int .i64 x17.Id), .lit (.int .i64 x17.Player), .lit (.int .i64 x17.Week), .lit (.int .i64 x17.Points), .lit (.bool x17.Must)]), (48, 6, .agg (aC x17)), (49, 7, .d (.sl 5 (([x17]).map aC)))], ?_, ?_⟩
      · exact ⟨by kernel_rfl, by kernel_rfl, by kernel_rfl, by kernel_rfl, by kernel_rfl, [([], []), ([0], []), ([], []), ([2], []), ([], []), ([3, 4], []), ([5], []), ([6], [])], by kernel_rfl, ⟨fun S hS => aK rfl (aQ rfl (aV (aA rfl) (aH hS rfl) eK)),
      fun S hS => aK rfl (aQ rfl (aW (aA rfl) (aH hS rfl) (i := 2) rfl rfl jB)),
      fun S hS => aK rfl (aQ rfl (aV (aA rfl) (aH hS rfl) eK)),
      fun S hS => aK rfl (aQ rfl (aW (aA rfl) (aH hS rfl) (i := 0) rfl rfl jB)),
      fun S hS => aK rfl (aQ rfl (aB (v := .d (.lit (.int .i64 i_0_10))) (aA rfl) (aH hS rfl) rfl)),
      fun S hS => aK rfl (aQ rfl (bM (aA rfl) (aH hS rfl) (aH hS rfl) bR.of (bK aC h18))),
      fun S hS => aK rfl (aQ rfl (eP (aA rfl) (aH hS rfl) dW (es := (aC x17)) rfl rfl)),
      fun S hS => aK rfl (aQ rfl (jT (aA rfl) bR rfl (pa2 (aH hS rfl) pan) (rows := ([x17]).map aC) rfl (cT (f := aC) fun _ => rfl) rfl (by decide))), trivial⟩⟩
      · exact dJ (aL rfl (aL rfl (aY ⟨rfl, rfl, rfl, rfl, rfl, trivial⟩)))
     ·obtain ⟨x19, h20, h⟩ := bind_some h
      refine bQ rfl (kC (i := 1) (aA rfl) bR rfl rfl rfl (fun _ => rfl) h20 rfl) ?_
      rintro _ ⟨v21, rfl⟩
      refine tr1 rfl (aV (aA rfl) rfl eK) ?_
      refine tr1 rfl (cF (i := 2) rfl rfl rfl rfl rfl Try.sizeOf22 rfl (aA rfl) (Nat.le_of_ble_eq_true rfl) (ds' := [.lit (.int .i64 o_0_10_2), .lit (.int .i64 o_0_10_3), .lit v21, .sl 3 (o_0_10_4.map aI), .sl 3 (o_0_10_5.map aI)]) rfl) ?_
      refine dA ?_
      refine aD ?_
      refine tr1 rfl (aB (v := .d (.lit (.int .i64 i_0_10))) (aA rfl) rfl rfl) ?_
      refine tr1 rfl (aZ (aA rfl) rfl rfl rfl) ?_
      refine tr1 rfl (aJ (v := .d (.lit (.int .i64 ((w64 (i_0_10 + 1)))))) (aA rfl) rfl rfl) ?_
      refine aF ?_
      exact ⟨(w64 (i_0_10 + 1), x19, o_0_10_2, o_0_10_3, o_0_10_4, o_0_10_5, v21), h, aX [0, 1, 2] rfl rfl (aL rfl (aY ⟨rfl, rfl, rfl, rfl, trivial⟩))⟩
    ·have h := aR c16 h
     refine dK ?_
     refine aD ?_
     refine tr1 rfl (aB (v := .d (.lit (.int .i64 i_0_10))) (aA rfl) rfl rfl) ?_
     refine tr1 rfl (aZ (aA rfl) rfl rfl rfl) ?_
     refine tr1 rfl (aJ (v := .d (.lit (.int .i64 ((w64 (i_0_10 + 1)))))) (aA rfl) rfl rfl) ?_
     refine aF ?_
     exact ⟨(w64 (i_0_10 + 1), o_0_10, o_0_10_2, o_0_10_3, o_0_10_4, o_0_10_5, w11), h, aX [0, 1, 2] rfl rfl (aL rfl (aY ⟨rfl, rfl, rfl, rfl, trivial⟩))⟩
   ·have h := aR c13 h
    refine cQ ?_
    refine .inl ⟨rfl, ?_⟩
    simp only [mH] at h
    refine aG ?_
    refine aD ?_
    refine tr1 rfl (cA (aA rfl) rfl (i := 2) rfl dI (es := [.lit (.int .i64 o_0_10_2), .lit (.int .i64 o_0_10_3), .lit w11, .sl 3 (o_0_10_4.map aI), .sl 3 (o_0_10_5.map aI)]) rfl rfl) ?_
    refine tr1 rfl (aB (v := .d (.lit (.int .i64 player_1))) (aA rfl) rfl rfl) ?_
    refine tr1 rfl (aB (v := .d (.lit (.int .i64 week_2))) (aA rfl) rfl rfl) ?_
    obtain ⟨r22, h23, h⟩ := bind_some h
    refine tr1 rfl (bY (aA rfl) (.func _ _ Try.call66) rfl rfl (.cons (.agg (dvc (.same _) (dvc (.same _) (dvc (gY 1 rfl (cT (f := aC) fun _ => rfl)) (dvc (.same _) (dvc (.same _) dvn)))))) (.cons (.same _) (.cons (.same _) .nil))) (nO _ _ _ h23) rfl) ?_
    refine tr1 rfl (aB (v := .tup [.d (.lit (.int .i64 r22.1)), .d (.lit (.int .i64 r22.2))]) (aA rfl) rfl rfl) ?_
    refine tr1 rfl (cH (aA rfl) rfl rfl) ?_
    refine tr1 rfl (cH (aA rfl) rfl rfl) ?_
    refine tr1 rfl (aJ (v := .d (.lit (.int .i64 r22.1))) (aA rfl) rfl rfl) ?_
    refine tr1 rfl (aJ (v := .d (.lit (.int .i64 r22.2))) (aA rfl) rfl rfl) ?_
    refine aF ?_
    refine aG ?_
    refine aD ?_
    refine tr1 rfl (cA (aA rfl) rfl (i := 2) rfl dI (es := [.lit (.int .i64 o_0_10_2), .lit (.int .i64 o_0_10_3), .lit w11, .sl 3 (o_0_10_4.map aI), .sl 3 (o_0_10_5.map aI)]) rfl rfl) ?_
    refine tr1 rfl (aB (v := .d (.lit (.int .i64 player_1))) (aA rfl) rfl rfl) ?_
    refine tr1 rfl (aB (v := .d (.lit (.int .i64 week_2))) (aA rfl) rfl rfl) ?_
    refine tr1 rfl (aZ (aA rfl) rfl rfl rfl) ?_
    obtain ⟨r24, h25, h⟩ := bind_some h
    refine tr1 rfl (bY (aA rfl) (.func _ _ Try.call66) rfl rfl (.cons (.agg (dvc (.same _) (dvc (.same _) (dvc (gY 1 rfl (cT (f := aC) fun _ => rfl)) (dvc (.same _) (dvc (.same _) dvn)))))) (.cons (.same _) (.cons (.same _) .nil))) (nO _ _ _ h25) rfl) ?_
    refine tr1 rfl (aB (v := .tup [.d (.lit (.int .i64 r24.1)), .d (.lit (.int .i64 r24.2))]) (aA rfl) rfl rfl) ?_
    refine tr1 rfl (cH (aA rfl) rfl rfl) ?_
    refine tr1 rfl (cH (aA rfl) rfl rfl) ?_
    refine tr1 rfl (aJ (v := .d (.lit (.int .i64 r24.1))) (aA rfl) rfl rfl) ?_
    refine tr1 rfl (aJ (v := .d (.lit (.int .i64 r24.2))) (aA rfl) rfl rfl) ?_
    refine aF ?_
    refine aG ?_
    refine aD ?_
    refine tr1 rfl (aB (v := .d (.lit (.int .i64 r22.1))) (aA rfl) rfl rfl) ?_
    refine tr1 rfl (aB (v := .d (.lit (.int .i64 r24.1))) (aA rfl) rfl rfl) ?_
    refine tr1 rfl (aZ (aA rfl) rfl rfl rfl) ?_
    refine tr1 rfl (aJ (v := .d (.lit (.int .i64 ((w64 (r22.1 - r24.1)))))) (aA rfl) rfl rfl) ?_
    refine tr1 rfl (aJ (v := .d (.lit (.int .i64 0))) (aA rfl) rfl rfl) ?_
    refine aF ?_
    have h := Option.some.inj h
    subst h
    refine cI (bX (cB (l := [6, 7]) ⟨rfl, rfl, trivial⟩)) ?_
    exact bI ⟨rfl, _, .two _ _, rfl, rfl⟩

theorem sI (s_0 : List aP) (del_1 : aP → Option Bool) {r : (List aP)} {s_0_v : Value} (del_1_f : Nat) (del_1_v : List AV) (del_1_e : ∀ args w, (callFunc del_1_f args).run Try.prog w = .ok (.enter del_1_f args) w) (del_1_h : ∀ (x0 : aP) r, del_1 x0 = some r → Fn Try.prog del_1_f ([.agg (aI x0)] ++ del_1_v) (.d (.lit (.bool r)))) (h : gQ s_0 del_1 = some r) : gE Try.prog 67 [.d (.lit s_0_v), .fn del_1_f del_1_v] [.arr s_0_v 66 3 (s_0.map aI)] (fun r' o' => ∃ w0 : Value, r' = .d (.lit w0) ∧ o' = [.arr w0 66 3 (r.map aI)]) := by
 unfold gQ at h
 refine lZ Try.func67 rfl (rs := [.tmp 4]) Try.results67 Try.ntmps67 (Nat.le_of_ble_eq_true rfl) ?_
 refine aG ?_
 refine aD ?_
 refine tr1 rfl (hZ 66 3 (.inl rfl) (aA rfl)) ?_
 refine aF ?_
 refine aG ?_
 refine aD ?_
 refine tr1 rfl (aB (v := .d (.lit s_0_v)) (aA rfl) rfl rfl) ?_
 refine tr1 rfl (aB (v := .fn del_1_f del_1_v) (aA rfl) rfl rfl) ?_
 obtain ⟨r2, h3, h⟩ := bind_some h
 refine tr1 rfl (bY (aA rfl) (.func _ _ Try.call97) rfl rfl (.cons (.d (gY 0 rfl (cT (f := aI) fun _ => rfl))) (.cons (.same _) .nil)) (oE _ _ del_1_f del_1_v del_1_e del_1_h h3) rfl) ?_
 refine tr1 rfl (aJ (v := .d (.lit (.int .i64 r2))) (aA rfl) rfl rfl) ?_
 refine aF ?_
 refine aG ?_
 refine aG ?_
 refine aD ?_
 refine tr1 rfl (aB (v := .d (.lit (.int .i64 r2))) (aA rfl) rfl rfl) ?_
 refine tr1 rfl (bB (aA rfl) rfl rfl rfl) ?_
 refine aF ?_
 refine bH rfl (fun c4 => ?_) (fun c4 => ?_)
 ·have h := aS c4 h
  refine aG ?_
  refine aD ?_
  refine tr1 rfl (aB (v := .d (.lit s_0_v)) (aA rfl) rfl rfl) ?_
  refine tr1 rfl (aJ (v := .d (.lit s_0_v)) (aA rfl) rfl rfl) ?_
  refine aF ?_
  have h := Option.some.inj h
  subst h
  exact bI ⟨rfl, _, [.arr s_0_v 66 3 (s_0.map aI)], [.arr (.slice none 0 0) 66 3 (([] : List aP).map aI)], _, .one (.tmp 4 (v := .d (.lit s_0_v)) rfl), .refl _, .same _, s_0_v, rfl, rfl⟩
 ·have h := aR c4 h
  refine bF ?_
  refine aG ?_
  refine aG ?_
  refine aD ?_
  refine tr1 rfl (aB (v := .d (.lit (.int .i64 r2))) (aA rfl) rfl rfl) ?_
  refine tr1 rfl (aZ (aA rfl) rfl rfl rfl) ?_
  refine tr1 rfl (aJ (v := .d (.lit (.int .i64 ((w64 (r2 + 1)))))) (aA rfl) rfl rfl) ?_
  refine aF ?_
  refine bP ?_
  refine cJ [1] (fun (s5 : Int × Int × (List aP)) => [(0, .d (.lit s_0_v)), (5, .d (.lit (.int .i64 s5.1))), (6, .d (.lit (.int .i64 s5.2.1)))]) (fun (s5 : Int × Int × (List aP)) => [.arr s_0_v 66 3 (s5.2.2.map aI)]) (fun (k : Nat) (s5 : Int × Int × (List aP)) => dR del_1 k s5.1 s5.2.1 s5.2.2) (fun _ => rfl) (r2, w64 (r2 + 1), s_0) h (aX [0] rfl rfl (aL rfl (aL rfl (aL rfl (aY ⟨rfl, trivial⟩))))) ?_
  rintro k6 ⟨i_0_5, j_0_5, s_0_5⟩ h
  simp only [dR] at h
  refine aG ?_
  refine aG ?_
  refine aD ?_
  refine tr1 rfl (aB (v := .d (.lit (.int .i64 j_0_5))) (aA rfl) rfl rfl) ?_
  refine tr1 rfl (aB (v := .d (.lit s_0_v)) (aA rfl) rfl rfl) ?_
  refine tr1 rfl (lD (m := 0) (aA rfl) rfl rfl dY.of) ?_
  refine tr1 rfl (bB (aA rfl) rfl rfl rfl) ?_
  refine aF ?_
  refine bH rfl (fun c7 => ?_) (fun c7 => ?_)
  ·have h := aS c7 h
   refine bF ?_
   refine aG ?_
   refine bP ?_
   refine aG ?_
   refine aD ?_
   refine tr1 rfl (aB (v := .d (.lit s_0_v)) (aA rfl) rfl rfl) ?_
   refine tr1 rfl (aB (v := .d (.lit (.int .i64 j_0_5))) (aA rfl) rfl rfl) ?_
   obtain ⟨x8, h9, h⟩ := bind_some h
   refine tr1 rfl (cM (m := 0) (aA rfl) rfl rfl rfl dY.of (bK aI h9)) ?_
   refine tr1 rfl (dH (aA rfl) rfl (l := 0) rfl (eF aI h9) nD (es := (aI x8)) rfl rfl) ?_
   refine bQ rfl (fF (zs := [.lit (.int .i64 0), .lit (.int .i64 0), .lit (.int .i64 0)]) (aA rfl) Try.zeroValue66 rfl rfl) ?_
   rintro _ ⟨b10, rfl⟩
   refine tr1 rfl (cF (i := 1) rfl rfl rfl rfl rfl Try.sizeOf66 rfl (aA rfl) (Nat.le_of_ble_eq_true rfl) (ds' := (aI x8)) rfl) ?_
   refine aF ?_
   refine aG ?_
   refine aD ?_
   refine tr1 rfl (aB (v := .fn del_1_f del_1_v) (aA rfl) rfl rfl) ?_
   refine tr1 rfl (cA (aA rfl) rfl (i := 1) rfl nD (es := (aI x8)) rfl rfl) ?_
   obtain ⟨r11, h12, h⟩ := bind_some h
   refine tr1 rfl (bY (aA rfl) (.clo _ _ _ _ del_1_e rfl) (tD rfl) rfl (BVs.refl _ _) (del_1_h _ _  h12) rfl) ?_
   refine tr1 rfl (eN (aA rfl) rfl) ?_
   refine aF ?_
   refine bH rfl (fun c13 => ?_) (fun c13 => ?_)
   ·have h := aS c13 h
    refine aG ?_
    refine aD ?_
    refine tr1 rfl (aB (v := .d (.lit s_0_v)) (aA rfl) rfl rfl) ?_
    refine tr1 rfl (aB (v := .d (.lit (.int .i64 i_0_5))) (aA rfl) rfl rfl) ?_
    refine tr1 rfl (cA (aA rfl) rfl (i := 1) rfl nD (es := (aI x8)) rfl rfl) ?_
    obtain ⟨x14, h15, h⟩ := bind_some h
    refine tr1 rfl (cM (m := 0) (aA rfl) rfl rfl rfl dY.of (bK aI h15)) ?_
    refine tr1 rfl (jQ (l := 0) rfl rfl (eF aI h15) rfl rfl rfl Try.sizeOf66 rfl (aA rfl) (Nat.le_of_ble_eq_true rfl) (rows' := ((s_0_5.set i_0_5.toNat x8)).map aI) (nC _ _ _ _ rfl)) ?_
    refine aF ?_
    refine aD ?_
    refine tr1 rfl (aB (v := .d (.lit (.int .i64 i_0_5))) (aA rfl) rfl rfl) ?_
    refine tr1 rfl (aZ (aA rfl) rfl rfl rfl) ?_
    refine tr1 rfl (aJ (v := .d (.lit (.int .i64 ((w64 (i_0_5 + 1)))))) (aA rfl) rfl rfl) ?_
    refine dA ?_
    refine aD ?_
    refine tr1 rfl (aB (v := .d (.lit (.int .i64 j_0_5))) (aA rfl) rfl rfl) ?_
    refine tr1 rfl (aZ (aA rfl) rfl rfl rfl) ?_
    refine tr1 rfl (aJ (v := .d (.lit (.int .i64 ((w64 (j_0_5 + 1)))))) (aA rfl) rfl rfl) ?_
    refine aF ?_
    exact ⟨(w64 (i_0_5 + 1), w64 (j_0_5 + 1), (s_0_5.set i_0_5.toNat x8)), h, aX [0] rfl rfl (aL rfl (aL rfl (aL rfl (aY ⟨rfl, trivial⟩))))⟩
   ·have h := aR c13 h
    refine dK ?_
    refine aD ?_
    refine tr1 rfl (aB (v := .d (.lit (.int .i64 j_0_5))) (aA rfl) rfl rfl) ?_
    refine tr1 rfl (aZ (aA rfl) rfl rfl rfl) ?_
    refine tr1 rfl (aJ (v := .d (.lit (.int .i64 ((w64 (j_0_5 + 1)))))) (aA rfl) rfl rfl) ?_
    refine aF ?_
    exact ⟨(i_0_5, w64 (j_0_5 + 1), s_0_5), h, aX [0] rfl rfl (aL rfl (aL rfl (aL rfl (aY ⟨rfl, trivial⟩))))⟩
  ·have h := aR c7 h
   refine cQ ?_
   refine .inl ⟨rfl, ?_⟩
   simp only [kS] at h
   refine aG ?_
   refine aD ?_
   refine tr1 rfl (aB (v := .d (.lit s_0_v)) (aA rfl) rfl rfl) ?_
   refine tr1 rfl (aB (v := .d (.lit (.int .i64 i_0_5))) (aA rfl) rfl rfl) ?_
   obtain ⟨u16, h17, h⟩ := bind_some h
   refine tr1 rfl (sU (m := 0) (aA rfl) rfl rfl rfl dY.of h17) ?_
   obtain ⟨u18, h19, h⟩ := bind_some h
   refine tr1 rfl (aAr (f := aI) (m := 0) dY rfl rfl h19 (by decide)) ?_
   refine aF ?_
   refine aG ?_
   refine aD ?_
   refine tr1 rfl (aB (v := .d (.lit s_0_v)) (aA rfl) rfl rfl) ?_
   refine tr1 rfl (aB (v := .d (.lit (.int .i64 i_0_5))) (aA rfl) rfl rfl) ?_
   obtain ⟨u20, h21, h⟩ := bind_some h
   refine tr1 rfl (qU (m := 0) (q := i_0_5.toNat) (v := s_0_v) (aA rfl) rfl rfl rfl rfl (yG h21) dY.of) ?_
   refine tr1 rfl (aJ (v := .d (.lit (fZ s_0_v i_0_5.toNat))) (aA rfl) rfl rfl) ?_
   refine aF ?_
   have h := Option.some.inj h
   subst h
   exact bI ⟨rfl, _, [.arr (fZ s_0_v i_0_5.toNat) 66 3 ((s_0_5.take i_0_5.toNat).map aI)], [], _, .one (.tmp 4 (v := .d (.lit (fZ s_0_v i_0_5.toNat))) rfl), .refl _, .same _, (fZ s_0_v i_0_5.toNat), rfl, rfl⟩

theorem yX (a_0 : aP) (c_1 : Int) {r : Bool} (h : nH a_0 c_1 = some r) : Fn Try.prog 68 [.agg (aI a_0), .cp [.lit (.int .i64 c_1)]] (.d (.lit (.bool r))) := by
 unfold nH at h
 refine Fn.of_tr Try.func68 rfl (rs := [.tmp 3]) Try.results68 Try.ntmps68 (Nat.le_of_ble_eq_true rfl) ?_
 refine aG ?_
 refine aD ?_
 refine bQ rfl (eD (v := .agg (aI a_0)) (aA rfl) rfl rfl rfl) ?_
 rintro _ ⟨b1, rfl⟩
 refine tr1 rfl (aJ (v := .d (.lit (.bool false))) (aA rfl) rfl rfl) ?_
 refine aF ?_
 refine aG ?_
 refine aD ?_
 refine tr1 rfl (aV (aA rfl) rfl kQ) ?_
 refine tr1 rfl (aW (aA rfl) rfl (i := 0) rfl rfl bG) ?_
 refine tr1 rfl (bZ (aA rfl) rfl bG) ?_
 refine tr1 rfl (bB (aA rfl) rfl rfl rfl) ?_
 refine tr1 rfl (aJ (v := .d (.lit (.bool ((!decide (a_0.Player = c_1)))))) (aA rfl) rfl rfl) ?_
 refine aF ?_
 have h := Option.some.inj h
 subst h
 refine cI (bX (cB (l := [3]) ⟨rfl, trivial⟩)) ?_
 exact bI ⟨rfl, _, .one _, rfl, rfl⟩

theorem tM (x_0 : List aP) (cmp_1 : aP → aP → Option Int) {r : aP} (cmp_1_f : Nat) (cmp_1_v : List AV) (cmp_1_e : ∀ args w, (callFunc cmp_1_f args).run Try.prog w = .ok (.enter cmp_1_f args) w) (cmp_1_h : ∀ (x0 : aP) (x1 : aP) r, cmp_1 x0 x1 = some r → Fn Try.prog cmp_1_f ([.agg (aI x0), .agg (aI x1)] ++ cmp_1_v) (.d (.lit (.int .i64 r)))) (h : iD x_0 cmp_1 = some r) : Fn Try.prog 69 [.d (.sl 3 (x_0.map aI)), .fn cmp_1_f cmp_1_v] (.agg (aI r)) := by
 unfold iD at h
 refine rR Try.func69 rfl (rs := [.cell 4 66]) Try.results69 Try.ntmps69 (Nat.le_of_ble_eq_true rfl) ?_
 refine aG ?_
 refine aD ?_
 refine bQ rfl (fF (zs := [.lit (.int .i64 0), .lit (.int .i64 0), .lit (.int .i64 0)]) (aA rfl) Try.zeroValue66 rfl rfl) ?_
 rintro _ ⟨b1, rfl⟩
 refine aF ?_
 refine aG ?_
 refine aG ?_
 refine aD ?_
 refine tr1 rfl (aB (v := .d (.sl 3 (x_0.map aI))) (aA rfl) rfl rfl) ?_
 refine tr1 rfl (dB (aA rfl) rfl dY.of) ?_
 refine tr1 rfl (bB (aA rfl) rfl rfl rfl) ?_
 refine aF ?_
 refine bH rfl (fun c2 => ?_) (fun c2 => ?_)
 ·have h := aS c2 h
  cases h
 ·have h := aR c2 h
  refine bF ?_
  refine aG ?_
  refine aD ?_
  refine tr1 rfl (aB (v := .d (.sl 3 (x_0.map aI))) (aA rfl) rfl rfl) ?_
  obtain ⟨x3, h4, h⟩ := bind_some h
  refine tr1 rfl (bM (aA rfl) rfl rfl dY.of (bK aI h4)) ?_
  refine tr1 rfl (eP (aA rfl) rfl nD (es := (aI x3)) rfl rfl) ?_
  refine bQ rfl (fF (zs := [.lit (.int .i64 0), .lit (.int .i64 0), .lit (.int .i64 0)]) (aA rfl) Try.zeroValue66 rfl rfl) ?_
  rintro _ ⟨b5, rfl⟩
  refine tr1 rfl (cF (i := 1) rfl rfl rfl rfl rfl Try.sizeOf66 rfl (aA rfl) (Nat.le_of_ble_eq_true rfl) (ds' := (aI x3)) rfl) ?_
  refine aF ?_
  refine aG ?_
  refine aG ?_
  refine aD ?_
  refine tr1 rfl (aJ (v := .d (.lit (.int .i64 1))) (aA rfl) rfl rfl) ?_
  refine aF ?_
  refine bP ?_
  refine cJ [0, 1, 4, 5] (fun (s6 : Int × aP) => [(6, .d (.lit (.int .i64 s6.1)))]) (fun (s6 : Int × aP) => [.box b1 0 (aI (aP.mk 0 0 0)), .box b5 0 (aI s6.2)]) (fun (k : Nat) (s6 : Int × aP) => eG x_0 cmp_1 (aP.mk 0 0 0) k s6.1 s6.2) (fun _ => rfl) (1, x3) h (aX [0, 1] rfl rfl (aL rfl (aY ⟨rfl, rfl, rfl, rfl, trivial⟩))) ?_
  rintro k7 ⟨i_0_6, m_0_6⟩ h
  simp only [eG] at h
  refine aG ?_
  refine aG ?_
  refine aD ?_
  refine tr1 rfl (aB (v := .d (.lit (.int .i64 i_0_6))) (aA rfl) rfl rfl) ?_
  refine tr1 rfl (aB (v := .d (.sl 3 (x_0.map aI))) (aA rfl) rfl rfl) ?_
  refine tr1 rfl (dB (aA rfl) rfl dY.of) ?_
  refine tr1 rfl (bB (aA rfl) rfl rfl rfl) ?_
  refine aF ?_
  refine bH rfl (fun c8 => ?_) (fun c8 => ?_)
  ·have h := aS c8 h
   refine bF ?_
   refine aG ?_
   refine bP ?_
   refine aG ?_
   obtain ⟨x9, h10, h⟩ := bind_some h
   refine fD mix 6 [0, 1, 4, 5, 6] [(20, .fn cmp_1_f cmp_1_v), (24, .agg (aI x9)), (25, .agg (aI m_0_6))] ?_ ?_
   ·refine ⟨[(20, 0, .fn cmp_1_f cmp_1_v), (21, 1, .d (.sl 3 (x_0.map aI))), (22, 2, .d (.lit (.int .i64 i_0_6))), (23, 3, .cp [.lit (.int .i64 x9.Player), .lit (.int .i64 x9.From), .lit (.int .i64 x9.To)]), (24, 4, .agg (aI x9)), (25, 5, .agg (aI m_0_6))], ?_, ?_⟩
    · exact ⟨by kernel_rfl, by kernel_rfl, by kernel_rfl, by kernel_rfl, by kernel_rfl, [([], []), ([], []), ([], []), ([1, 2], []), ([3], []), ([], [])], by kernel_rfl, ⟨fun S hS => aK rfl (aQ rfl (aB (v := .fn cmp_1_f cmp_1_v) (aA rfl) (aH hS rfl) rfl)),
      fun S hS => aK rfl (aQ rfl (aB (v := .d (.sl 3 (x_0.map aI))) (aA rfl) (aH hS rfl) rfl)),
      fun S hS => aK rfl (aQ rfl (aB (v := .d (.lit (.int .i64 i_0_6))) (aA rfl) (aH hS rfl) rfl)),
      fun S hS => aK rfl (aQ rfl (bM (aA rfl) (aH hS rfl) (aH hS rfl) dY.of (bK aI h10))),
      fun S hS => aK rfl (aQ rfl (eP (aA rfl) (aH hS rfl) nD (es := (aI x9)) rfl rfl)),
      fun S hS => aK rfl (aQ rfl (cA (aA rfl) (aH hS rfl) (i := 1) rfl nD (es := (aI m_0_6)) rfl rfl)), trivial⟩⟩
    · exact dJ (aL rfl (aL rfl (aL rfl (aY ⟨rfl, rfl, rfl, rfl, rfl, trivial⟩))))
   ·obtain ⟨r11, h12, h⟩ := bind_some h
    refine tr1 rfl (bY (aA rfl) (.clo _ _ _ _ cmp_1_e rfl) (tD rfl) rfl (BVs.refl _ _) (cmp_1_h _ _ _  h12) rfl) ?_
    refine tr1 rfl (bB (aA rfl) rfl rfl rfl) ?_
    refine aF ?_
    refine bH rfl (fun c13 => ?_) (fun c13 => ?_)
    ·have h := aS c13 h
     refine aD ?_
     refine tr1 rfl (aB (v := .d (.sl 3 (x_0.map aI))) (aA rfl) rfl rfl) ?_
     refine tr1 rfl (aB (v := .d (.lit (.int .i64 i_0_6))) (aA rfl) rfl rfl) ?_
     obtain ⟨x14, h15, h⟩ := bind_some h
     refine tr1 rfl (bM (aA rfl) rfl rfl dY.of (bK aI h15)) ?_
     refine tr1 rfl (eP (aA rfl) rfl nD (es := (aI x14)) rfl rfl) ?_
     refine tr1 rfl (cF (i := 1) rfl rfl rfl rfl rfl Try.sizeOf66 rfl (aA rfl) (Nat.le_of_ble_eq_true rfl) (ds' := (aI x14)) rfl) ?_
     refine dA ?_
     refine aD ?_
     refine tr1 rfl (aB (v := .d (.lit (.int .i64 i_0_6))) (aA rfl) rfl rfl) ?_
     refine tr1 rfl (aZ (aA rfl) rfl rfl rfl) ?_
     refine tr1 rfl (aJ (v := .d (.lit (.int .i64 ((w64 (i_0_6 + 1)))))) (aA rfl) rfl rfl) ?_
     refine aF ?_
     exact ⟨(w64 (i_0_6 + 1), x14), h, aX [0, 1] rfl rfl (aL rfl (aY ⟨rfl, rfl, rfl, rfl, trivial⟩))⟩
    ·have h := aR c13 h
     refine dK ?_
     refine aD ?_
     refine tr1 rfl (aB (v := .d (.lit (.int .i64 i_0_6))) (aA rfl) rfl rfl) ?_
     refine tr1 rfl (aZ (aA rfl) rfl rfl rfl) ?_
     refine tr1 rfl (aJ (v := .d (.lit (.int .i64 ((w64 (i_0_6 + 1)))))) (aA rfl) rfl rfl) ?_
     refine aF ?_
     exact ⟨(w64 (i_0_6 + 1), m_0_6), h, aX [0, 1] rfl rfl (aL rfl (aY ⟨rfl, rfl, rfl, rfl, trivial⟩))⟩
  ·have h := aR c8 h
   refine cQ ?_
   refine .inl ⟨rfl, ?_⟩
   simp only [oV] at h
   refine aG ?_
   refine aD ?_
   refine tr1 rfl (cA (aA rfl) rfl (i := 1) rfl nD (es := (aI m_0_6)) rfl rfl) ?_
   refine tr1 rfl (cF (i := 0) rfl rfl rfl rfl rfl Try.sizeOf66 rfl (aA rfl) (Nat.le_of_ble_eq_true rfl) (ds' := (aI m_0_6)) rfl) ?_
   refine aF ?_
   have h := Option.some.inj h
   subst h
   exact bI ⟨rfl, _, [.box b1 0 (aI m_0_6), .box b5 0 (aI m_0_6)], .one (.cell 4 66 rfl (i := 0) rfl nD (es := (aI m_0_6)) rfl rfl), .refl _, .same _⟩

theorem yY (x_0 : aP) (y_1 : aP) {r : Int} (h : kR x_0 y_1 = some r) : Fn Try.prog 70 [.agg (aI x_0), .agg (aI y_1)] (.d (.lit (.int .i64 r))) := by
 unfold kR at h
 refine Fn.of_tr Try.func70 rfl (rs := [.tmp 4]) Try.results70 Try.ntmps70 (Nat.le_of_ble_eq_true rfl) ?_
 refine aG ?_
 refine aD ?_
 refine bQ rfl (eD (v := .agg (aI x_0)) (aA rfl) rfl rfl rfl) ?_
 rintro _ ⟨b1, rfl⟩
 refine bQ rfl (eD (v := .agg (aI y_1)) (aA rfl) rfl rfl rfl) ?_
 rintro _ ⟨b2, rfl⟩
 refine tr1 rfl (aJ (v := .d (.lit (.int .i64 0))) (aA rfl) rfl rfl) ?_
 refine aF ?_
 refine aG ?_
 refine aD ?_
 refine tr1 rfl (aV (aA rfl) rfl gO) ?_
 refine tr1 rfl (aW (aA rfl) rfl (i := 0) rfl rfl bG) ?_
 refine tr1 rfl (aV (aA rfl) rfl gO) ?_
 refine tr1 rfl (aW (aA rfl) rfl (i := 1) rfl rfl bG) ?_
 refine tr1 rfl (aZ (aA rfl) rfl rfl rfl) ?_
 refine tr1 rfl (aJ (v := .d (.lit (.int .i64 ((w64 (x_0.From - y_1.From)))))) (aA rfl) rfl rfl) ?_
 refine aF ?_
 have h := Option.some.inj h
 subst h
 refine cI (bX (cB (l := [4]) ⟨rfl, trivial⟩)) ?_
 exact bI ⟨rfl, _, .one _, rfl, rfl⟩

theorem aAq (l_0 : aN) (player_1 : Int) {r : Int × Int} (h : kT l_0 player_1 = some r) : Fn Try.prog 36 [.agg (aT l_0), .d (.lit (.int .i64 player_1))] (.tup [.d (.lit (.int .i64 r.1)), .d (.lit (.int .i64 r.2))]) := by
 unfold kT at h
 refine Fn.of_tr Try.func36 rfl (rs := [.tmp 4, .tmp 5]) Try.results36 Try.ntmps36 (Nat.le_of_ble_eq_true rfl) ?_
 refine aG ?_
 refine aD ?_
 refine bQ rfl (eD (v := .agg (aT l_0)) (aA rfl) rfl rfl rfl) ?_
 rintro _ ⟨b1, rfl⟩
 refine bQ rfl (eD (v := .d (.lit (.int .i64 player_1))) (aA rfl) rfl rfl rfl) ?_
 rintro _ ⟨b2, rfl⟩
 refine tr1 rfl (aJ (v := .d (.lit (.int .i64 0))) (aA rfl) rfl rfl) ?_
 refine tr1 rfl (aJ (v := .d (.lit (.int .i64 0))) (aA rfl) rfl rfl) ?_
 refine aF ?_
 refine aG ?_
 refine aD ?_
 refine tr1 rfl (cA (aA rfl) rfl (i := 0) rfl dI (es := (aT l_0)) rfl rfl) ?_
 refine tr1 rfl (aW (aA rfl) rfl (i := 1) rfl rfl bG) ?_
 obtain ⟨r3, h4, h⟩ := bind_some h
 refine bQ rfl (dQ (passed := []) (aA rfl) rfl (.func _ _ Try.call44) rfl rfl (sQ _ _ _ h4)) ?_
 rintro _ ⟨_, _, ⟨b6, w7, rfl, rfl⟩, rfl⟩
 obtain ⟨_ | y5, e8⟩ := r3
 ·have h := wT h
  refine eR (aX [0, 1] rfl rfl (le_refl _)) ?_
  refine tr1 rfl (aB (v := .tup [.d (.lit (.pointer none)), .d (.lit (.int .i64 e8))]) (aA rfl) rfl rfl) ?_
  refine tr1 rfl (cH (aA rfl) rfl rfl) ?_
  refine tr1 rfl (cH (aA rfl) rfl rfl) ?_
  refine tr1 rfl (aJ (v := .d (.lit (.pointer none))) (aA rfl) rfl rfl) ?_
  refine tr1 rfl (aJ (v := .d (.lit (.int .i64 e8))) (aA rfl) rfl rfl) ?_
  refine aF ?_
  refine aG ?_
  refine aG ?_
  refine aD ?_
  refine tr1 rfl (aB (v := .d (.lit (.int .i64 e8))) (aA rfl) rfl rfl) ?_
  refine tr1 rfl (bB (aA rfl) rfl rfl rfl) ?_
  refine aF ?_
  refine bH rfl (fun c9 => ?_) (fun c9 => ?_)
  ·have h := aS c9 h
   refine aG ?_
   refine aD ?_
   refine tr1 rfl (aB (v := .d (.lit (.int .i64 e8))) (aA rfl) rfl rfl) ?_
   refine tr1 rfl (aJ (v := .d (.lit (.int .i64 0))) (aA rfl) rfl rfl) ?_
   refine tr1 rfl (aJ (v := .d (.lit (.int .i64 e8))) (aA rfl) rfl rfl) ?_
   refine aF ?_
   have h := Option.some.inj h
   subst h
   refine cI (bX (cB (l := [4, 5]) ⟨rfl, rfl, trivial⟩)) ?_
   exact bI ⟨rfl, _, .two _ _, rfl, rfl⟩
  ·have h := aR c9 h
   refine bF ?_
   refine aG ?_
   refine aD ?_
   refine tr1 rfl (aB (v := .d (.lit (.pointer none))) (aA rfl) rfl rfl) ?_
   cases h
 ·have h := wU h
  refine eR (aX [0, 1, 2, 3] rfl rfl (le_refl _)) ?_
  refine tr1 rfl (aB (v := .tup [.bp b6 0 0, .d (.lit (.int .i64 e8))]) (aA rfl) rfl rfl) ?_
  refine tr1 rfl (cH (aA rfl) rfl rfl) ?_
  refine tr1 rfl (cH (aA rfl) rfl rfl) ?_
  refine tr1 rfl (aJ (v := .bp b6 0 0) (aA rfl) rfl rfl) ?_
  refine tr1 rfl (aJ (v := .d (.lit (.int .i64 e8))) (aA rfl) rfl rfl) ?_
  refine aF ?_
  refine aG ?_
  refine aG ?_
  refine aD ?_
  refine tr1 rfl (aB (v := .d (.lit (.int .i64 e8))) (aA rfl) rfl rfl) ?_
  refine tr1 rfl (bB (aA rfl) rfl rfl rfl) ?_
  refine aF ?_
  refine bH rfl (fun c10 => ?_) (fun c10 => ?_)
  ·have h := aS c10 h
   refine aG ?_
   refine aD ?_
   refine tr1 rfl (aB (v := .d (.lit (.int .i64 e8))) (aA rfl) rfl rfl) ?_
   refine tr1 rfl (aJ (v := .d (.lit (.int .i64 0))) (aA rfl) rfl rfl) ?_
   refine tr1 rfl (aJ (v := .d (.lit (.int .i64 e8))) (aA rfl) rfl rfl) ?_
   refine aF ?_
   have h := Option.some.inj h
   subst h
   refine cI (bX (cB (l := [4, 5]) ⟨rfl, rfl, trivial⟩)) ?_
   exact bI ⟨rfl, _, .two _ _, rfl, rfl⟩
  ·have h := aR c10 h
   refine bF ?_
   refine aG ?_
   refine aD ?_
   refine tr1 rfl (aB (v := .bp b6 0 0) (aA rfl) rfl rfl) ?_
   refine tr1 rfl (kN (aA rfl) rfl) ?_
   refine tr1 rfl (aV (aA rfl) rfl iO) ?_
   refine tr1 rfl (aV (aA rfl) rfl kP) ?_
   refine tr1 rfl (aW (aA rfl) rfl (i := 0) rfl rfl jC) ?_
   obtain ⟨r11, h12, h⟩ := bind_some h
   refine bQ rfl (uR (aA rfl) (.func _ _ Try.call63) rfl rfl (uB _ h12)) ?_
   rintro _ ⟨v13, rfl⟩
   refine tr1 rfl (wX (aA rfl) rfl rfl) ?_
   refine eR (aX [0, 1, 2, 4, 3] rfl rfl (le_refl _)) ?_
   apply aCc [.box b6 0 [.lit (.int .i64 y5.Ledger.Players), .lit (.int .i64 y5.Ledger.Counts), .lit w7, .sl 3 (y5.Ledger.Bans.map aI), .sl 3 (y5.Ledger.Frozen.map aI)], .arr w7 42 5 (y5.Ledger.Reports.map aC), .box b1 0 (aT l_0), .arr v13 66 3 (r11.map aI)] [.box b2 0 [.lit (.int .i64 player_1)]] rfl
   exact gG (k := 29) (v := .fn 68 [.cp [.lit (.int .i64 player_1)]]) ((aAw (.cons ((oW 0 rfl rfl (dvc (.same _) dvn))) .nil))) (gG (k := 3) (v := .cp [.lit (.int .i64 player_1)]) ((oW 0 rfl rfl (dvc (.same _) dvn))) (pF _ _))
   obtain ⟨r15, h16, h⟩ := bind_some h
   refine eR (aX [3, 0, 1, 2] rfl rfl (le_refl _)) ?_
   refine bQ rfl (dQ (passed := [.arr v13 66 3 (r11.map aI)]) (aA rfl) rfl (.func _ _ Try.call67) rfl rfl (sI r11 (fun y14 => nH y14 player_1) 68 [.cp [.lit (.int .i64 player_1)]] Try.call68 (fun _ _ h => yX _ _ h) h16)) ?_
   rintro _ ⟨_, _, ⟨v17, rfl, rfl⟩, rfl⟩
   refine tr1 rfl (aJ (v := .d (.lit v17)) (aA rfl) rfl rfl) ?_
   refine aF ?_
   refine aG ?_
   refine aG ?_
   refine aD ?_
   refine tr1 rfl (aB (v := .d (.lit v17)) (aA rfl) rfl rfl) ?_
   refine tr1 rfl (lD (m := 0) (aA rfl) rfl rfl dY.of) ?_
   refine tr1 rfl (bB (aA rfl) rfl rfl rfl) ?_
   refine aF ?_
   refine bH rfl (fun c18 => ?_) (fun c18 => ?_)
   ·have h := aS c18 h
    refine aG ?_
    refine aD ?_
    refine tr1 rfl (aJ (v := .d (.lit (.int .i64 0))) (aA rfl) rfl rfl) ?_
    refine tr1 rfl (aJ (v := .d (.lit (.int .i64 3))) (aA rfl) rfl rfl) ?_
    refine aF ?_
    have h := Option.some.inj h
    subst h
    refine cI (bX (cB (l := [4, 5]) ⟨rfl, rfl, trivial⟩)) ?_
    exact bI ⟨rfl, _, .two _ _, rfl, rfl⟩
   ·have h := aR c18 h
    refine bF ?_
    refine aG ?_
    refine aD ?_
    refine tr1 rfl (aB (v := .d (.lit v17)) (aA rfl) rfl rfl) ?_
    refine eR (aX [1, 2, 3, 0] rfl rfl (le_refl _)) ?_
    refine eR (uV [.box b6 0 [.lit (.int .i64 y5.Ledger.Players), .lit (.int .i64 y5.Ledger.Counts), .lit w7, .sl 3 (y5.Ledger.Bans.map aI), .sl 3 (y5.Ledger.Frozen.map aI)], .arr w7 42 5 (y5.Ledger.Reports.map aC), .box b1 0 (aT l_0)] [.arr v17 66 3 (r15.map aI)] rfl (gG (k := 34) (v := .d (.sl 3 (r15.map aI))) (.d (gY 0 rfl (cT (f := aI) fun _ => rfl))) (gG (k := 31) (v := .d (.sl 3 (r15.map aI))) (.d (gY 0 rfl (cT (f := aI) fun _ => rfl))) (gG (k := 30) (v := .d (.sl 3 (r15.map aI))) (.d (gY 0 rfl (cT (f := aI) fun _ => rfl))) (gG (k := 28) (v := .any) (.any _) (gG (k := 8) (v := .d (.sl 3 (r15.map aI))) (.d (gY 0 rfl (cT (f := aI) fun _ => rfl))) (pF _ _))))))) ?_
    obtain ⟨r21, h22, h⟩ := bind_some h
    refine tr1 rfl (iB (aA rfl) (.func _ _ Try.call69) rfl rfl (tM _ _ 70 [] Try.call70 (fun _ _ _ h => yY _ _ h) h22)) ?_
    refine bQ rfl (fF (zs := [.lit (.int .i64 0), .lit (.int .i64 0), .lit (.int .i64 0)]) (aA rfl) Try.zeroValue66 rfl rfl) ?_
    rintro _ ⟨b23, rfl⟩
    refine tr1 rfl (cF (i := 3) rfl rfl rfl rfl rfl Try.sizeOf66 rfl (aA rfl) (Nat.le_of_ble_eq_true rfl) (ds' := (aI r21)) rfl) ?_
    refine aF ?_
    refine aG ?_
    refine aD ?_
    refine tr1 rfl (aV (aA rfl) rfl lA) ?_
    refine tr1 rfl (aW (aA rfl) rfl (i := 3) rfl rfl bG) ?_
    refine tr1 rfl (aV (aA rfl) rfl gO) ?_
    refine tr1 rfl (aW (aA rfl) rfl (i := 3) rfl rfl bG) ?_
    refine tr1 rfl (aZ (aA rfl) rfl rfl rfl) ?_
    refine tr1 rfl (aZ (aA rfl) rfl rfl rfl) ?_
    refine tr1 rfl (aDg (aA rfl) rfl rfl) ?_
    refine tr1 rfl (aJ (v := .d (.lit (.int .i64 ((min 12 (w64 ((w64 (r21.To - r21.From)) + 1))))))) (aA rfl) rfl rfl) ?_
    refine aF ?_
    refine aG ?_
    refine aD ?_
    refine tr1 rfl (aJ (v := .d (.lit (.int .i64 0))) (aA rfl) rfl rfl) ?_
    refine aF ?_
    refine aG ?_
    refine aG ?_
    refine aD ?_
    refine tr1 rfl (aV (aA rfl) rfl gO) ?_
    refine tr1 rfl (aW (aA rfl) rfl (i := 3) rfl rfl bG) ?_
    refine tr1 rfl (aJ (v := .d (.lit (.int .i64 r21.From))) (aA rfl) rfl rfl) ?_
    refine aF ?_
    refine bP ?_
    refine cJ [3, 6, 9, 10] (fun (s24 : Int × Int) => [(11, .d (.lit (.int .i64 s24.1))), (12, .d (.lit (.int .i64 s24.2)))]) (fun (s24 : Int × Int) => [.box b23 0 (aI r21), .arr w7 42 5 (y5.Ledger.Reports.map aC), .box b6 0 [.lit (.int .i64 y5.Ledger.Players), .lit (.int .i64 y5.Ledger.Counts), .lit w7, .sl 3 (y5.Ledger.Bans.map aI), .sl 3 (y5.Ledger.Frozen.map aI)]]) (fun (k : Nat) (s24 : Int × Int) => gU player_1 (min 12 (w64 ((w64 (r21.To - r21.From)) + 1))) r21 y5.Ledger.Reports y5.Ledger.Players y5.Ledger.Counts y5.Ledger.Bans y5.Ledger.Frozen k s24.1 s24.2) (fun _ => rfl) (0, r21.From) h (aX [3, 1, 0] rfl rfl (aL rfl (aL rfl (aY ⟨rfl, rfl, rfl, rfl, trivial⟩)))) ?_
    rintro k25 ⟨n_0_24, week_0_24⟩ h
    simp only [gU] at h
    refine aG ?_
    refine aG ?_
    refine aD ?_
    refine tr1 rfl (aB (v := .d (.lit (.int .i64 week_0_24))) (aA rfl) rfl rfl) ?_
    refine tr1 rfl (aV (aA rfl) rfl gO) ?_
    refine tr1 rfl (aW (aA rfl) rfl (i := 0) rfl rfl bG) ?_
    refine tr1 rfl (aB (v := .d (.lit (.int .i64 ((min 12 (w64 ((w64 (r21.To - r21.From)) + 1))))))) (aA rfl) rfl rfl) ?_
    refine tr1 rfl (aZ (aA rfl) rfl rfl rfl) ?_
    refine tr1 rfl (bB (aA rfl) rfl rfl rfl) ?_
    refine aF ?_
    refine bH rfl (fun c26 => ?_) (fun c26 => ?_)
    ·have h := aS c26 h
     refine bF ?_
     refine aG ?_
     refine bP ?_
     refine aG ?_
     refine aD ?_
     refine tr1 rfl (aB (v := .bp b6 0 0) (aA rfl) rfl rfl) ?_
     refine tr1 rfl (bZ (aA rfl) rfl bG) ?_
     refine tr1 rfl (aB (v := .d (.lit (.int .i64 week_0_24))) (aA rfl) rfl rfl) ?_
     obtain ⟨r27, h28, h⟩ := bind_some h
     refine tr1 rfl (bY (aA rfl) (.func _ _ Try.call51) rfl rfl (.cons ((oW 2 rfl rfl (dvc (.same _) (dvc (.same _) (dvc (gY 1 rfl (cT (f := aC) fun _ => rfl)) (dvc (.same _) (dvc (.same _) dvn))))))) (.cons (.same _) (.cons (.same _) .nil))) (rI _ _ _ h28) rfl) ?_
     refine tr1 rfl (aJ (v := .d (.lit (.int .i64 r27))) (aA rfl) rfl rfl) ?_
     refine aF ?_
     refine aG ?_
     refine aD ?_
     refine tr1 rfl (aB (v := .d (.lit (.int .i64 r27))) (aA rfl) rfl rfl) ?_
     refine tr1 rfl (bB (aA rfl) rfl rfl rfl) ?_
     refine aF ?_
     refine bH rfl (fun c29 => ?_) (fun c29 => ?_)
     ·have h := aS c29 h
      refine aD ?_
      refine tr1 rfl (aB (v := .d (.lit (.int .i64 n_0_24))) (aA rfl) rfl rfl) ?_
      refine tr1 rfl (aB (v := .d (.lit (.int .i64 r27))) (aA rfl) rfl rfl) ?_
      refine tr1 rfl (aZ (aA rfl) rfl rfl rfl) ?_
      refine tr1 rfl (aJ (v := .d (.lit (.int .i64 ((w64 (n_0_24 + r27)))))) (aA rfl) rfl rfl) ?_
      refine dA ?_
      refine aD ?_
      refine tr1 rfl (aB (v := .d (.lit (.int .i64 week_0_24))) (aA rfl) rfl rfl) ?_
      refine tr1 rfl (aZ (aA rfl) rfl rfl rfl) ?_
      refine tr1 rfl (aJ (v := .d (.lit (.int .i64 ((w64 (week_0_24 + 1)))))) (aA rfl) rfl rfl) ?_
      refine aF ?_
      exact ⟨(w64 (n_0_24 + r27), w64 (week_0_24 + 1)), h, aX [0, 1, 2] rfl rfl (aL rfl (aL rfl (aY ⟨rfl, rfl, rfl, rfl, trivial⟩)))⟩
     ·have h := aR c29 h
      refine aD ?_
      refine tr1 rfl (aB (v := .d (.lit (.int .i64 n_0_24))) (aA rfl) rfl rfl) ?_
      refine tr1 rfl (aB (v := .bp b6 0 0) (aA rfl) rfl rfl) ?_
      refine tr1 rfl (kN (aA rfl) rfl) ?_
      refine tr1 rfl (aV (aA rfl) rfl iO) ?_
      refine tr1 rfl (aV (aA rfl) rfl jA) ?_
      refine tr1 rfl (aW (aA rfl) rfl (i := 2) rfl rfl bG) ?_
      refine tr1 rfl (aZ (aA rfl) rfl rfl rfl) ?_
      refine tr1 rfl (aJ (v := .d (.lit (.int .i64 ((w64 (n_0_24 + y5.Ledger.Players)))))) (aA rfl) rfl rfl) ?_
      refine dA ?_
      refine aD ?_
      refine tr1 rfl (aB (v := .d (.lit (.int .i64 week_0_24))) (aA rfl) rfl rfl) ?_
      refine tr1 rfl (aZ (aA rfl) rfl rfl rfl) ?_
      refine tr1 rfl (aJ (v := .d (.lit (.int .i64 ((w64 (week_0_24 + 1)))))) (aA rfl) rfl rfl) ?_
      refine aF ?_
      exact ⟨(w64 (n_0_24 + y5.Ledger.Players), w64 (week_0_24 + 1)), h, aX [0, 1, 2] rfl rfl (aL rfl (aL rfl (aY ⟨rfl, rfl, rfl, rfl, trivial⟩)))⟩
    ·have h := aR c26 h
     refine cQ ?_
     refine .inl ⟨rfl, ?_⟩
     simp only [oY] at h
     refine aG ?_
     refine aD ?_
     refine tr1 rfl (aB (v := .d (.lit (.int .i64 n_0_24))) (aA rfl) rfl rfl) ?_
     refine tr1 rfl (aB (v := .d (.lit (.int .i64 ((min 12 (w64 ((w64 (r21.To - r21.From)) + 1))))))) (aA rfl) rfl rfl) ?_
     obtain ⟨u30, h31, h⟩ := bind_some h
     refine tr1 rfl (aJa (aA rfl) rfl rfl (aIu h31)) ?_
     refine tr1 rfl (aJ (v := .d (.lit (.int .i64 ((w64 (n_0_24.tdiv (min 12 (w64 ((w64 (r21.To - r21.From)) + 1))))))))) (aA rfl) rfl rfl) ?_
     refine tr1 rfl (aJ (v := .d (.lit (.int .i64 0))) (aA rfl) rfl rfl) ?_
     refine aF ?_
     have h := Option.some.inj h
     subst h
     refine cI (bX (cB (l := [4, 5]) ⟨rfl, rfl, trivial⟩)) ?_
     exact bI ⟨rfl, _, .two _ _, rfl, rfl⟩

theorem wF (l_0 : aN) (player_1 : Int) {r : Int × Int} (h : gH l_0 player_1 = some r) : Fn Try.prog 37 [.agg (aT l_0), .d (.lit (.int .i64 player_1))] (.tup [.d (.lit (.int .i64 r.1)), .d (.lit (.int .i64 r.2))]) := by
 unfold gH at h
 refine Fn.of_tr Try.func37 rfl (rs := [.tmp 4, .tmp 5]) Try.results37 Try.ntmps37 (Nat.le_of_ble_eq_true rfl) ?_
 refine aG ?_
 refine aD ?_
 refine bQ rfl (eD (v := .agg (aT l_0)) (aA rfl) rfl rfl rfl) ?_
 rintro _ ⟨b1, rfl⟩
 refine tr1 rfl (aJ (v := .d (.lit (.int .i64 0))) (aA rfl) rfl rfl) ?_
 refine tr1 rfl (aJ (v := .d (.lit (.int .i64 0))) (aA rfl) rfl rfl) ?_
 refine aF ?_
 refine aG ?_
 refine aG ?_
 refine aD ?_
 refine tr1 rfl (cA (aA rfl) rfl (i := 0) rfl dI (es := (aT l_0)) rfl rfl) ?_
 refine tr1 rfl (aB (v := .d (.lit (.int .i64 player_1))) (aA rfl) rfl rfl) ?_
 obtain ⟨r2, h3, h⟩ := bind_some h
 refine tr1 rfl (bY (aA rfl) (.func _ _ Try.call52) rfl rfl (BVs.refl _ _) (mI _ _ _ h3) rfl) ?_
 refine tr1 rfl (aJ (v := .d (.lit (.int .i64 r2))) (aA rfl) rfl rfl) ?_
 refine aF ?_
 refine aG ?_
 refine aD ?_
 refine tr1 rfl (aB (v := .d (.lit (.int .i64 r2))) (aA rfl) rfl rfl) ?_
 refine tr1 rfl (bB (aA rfl) rfl rfl rfl) ?_
 refine aF ?_
 refine bH rfl (fun c4 => ?_) (fun c4 => ?_)
 ·have h := aS c4 h
  refine aG ?_
  refine aD ?_
  refine tr1 rfl (aB (v := .d (.lit (.int .i64 r2))) (aA rfl) rfl rfl) ?_
  refine tr1 rfl (aJ (v := .d (.lit (.int .i64 0))) (aA rfl) rfl rfl) ?_
  refine tr1 rfl (aJ (v := .d (.lit (.int .i64 r2))) (aA rfl) rfl rfl) ?_
  refine aF ?_
  have h := Option.some.inj h
  subst h
  refine cI (bX (cB (l := [4, 5]) ⟨rfl, rfl, trivial⟩)) ?_
  exact bI ⟨rfl, _, .two _ _, rfl, rfl⟩
 ·have h := aR c4 h
  refine bF ?_
  refine aG ?_
  refine aD ?_
  refine tr1 rfl (aJ (v := .d (.lit (.int .i64 (-1)))) (aA rfl) rfl rfl) ?_
  refine tr1 rfl (aJ (v := .d (.lit (.int .i64 (-1)))) (aA rfl) rfl rfl) ?_
  refine aF ?_
  refine aG ?_
  refine aG ?_
  refine aD ?_
  refine tr1 rfl (aJ (v := .d (.lit (.int .i64 0))) (aA rfl) rfl rfl) ?_
  refine aF ?_
  refine bP ?_
  refine cJ [1, 2] (fun (s5 : Int × Int × Int) => [(7, .d (.lit (.int .i64 s5.1))), (8, .d (.lit (.int .i64 s5.2.1))), (9, .d (.lit (.int .i64 s5.2.2)))]) (fun (s5 : Int × Int × Int) => [.box b1 0 (aT l_0)]) (fun (k : Nat) (s5 : Int × Int × Int) => fJ player_1 l_0 k s5.1 s5.2.1 s5.2.2) (fun _ => rfl) ((-1), (-1), 0) h (aX [0] rfl rfl (aL rfl (aL rfl (aL rfl (aY ⟨rfl, rfl, trivial⟩))))) ?_
  rintro k6 ⟨fromv_0_5, to_0_5, i_0_5⟩ h
  simp only [fJ] at h
  refine aG ?_
  refine aG ?_
  refine aD ?_
  refine tr1 rfl (aB (v := .d (.lit (.int .i64 i_0_5))) (aA rfl) rfl rfl) ?_
  refine tr1 rfl (aV (aA rfl) rfl kP) ?_
  refine tr1 rfl (aW (aA rfl) rfl (i := 0) rfl rfl jC) ?_
  refine tr1 rfl (dB (aA rfl) rfl dY.of) ?_
  refine tr1 rfl (bB (aA rfl) rfl rfl rfl) ?_
  refine aF ?_
  refine bH rfl (fun c7 => ?_) (fun c7 => ?_)
  ·have h := aS c7 h
   refine bF ?_
   refine aG ?_
   refine bP ?_
   refine aG ?_
   refine aD ?_
   refine tr1 rfl (aV (aA rfl) rfl kP) ?_
   refine tr1 rfl (aW (aA rfl) rfl (i := 0) rfl rfl jC) ?_
   refine tr1 rfl (aB (v := .d (.lit (.int .i64 i_0_5))) (aA rfl) rfl rfl) ?_
   obtain ⟨x8, h9, h⟩ := bind_some h
   refine tr1 rfl (bM (aA rfl) rfl rfl dY.of (bK aI h9)) ?_
   refine tr1 rfl (eP (aA rfl) rfl nD (es := (aI x8)) rfl rfl) ?_
   refine bQ rfl (fF (zs := [.lit (.int .i64 0), .lit (.int .i64 0), .lit (.int .i64 0)]) (aA rfl) Try.zeroValue66 rfl rfl) ?_
   rintro _ ⟨b10, rfl⟩
   refine tr1 rfl (cF (i := 1) rfl rfl rfl rfl rfl Try.sizeOf66 rfl (aA rfl) (Nat.le_of_ble_eq_true rfl) (ds' := (aI x8)) rfl) ?_
   refine aF ?_
   refine aG ?_
   refine aD ?_
   refine tr1 rfl (aV (aA rfl) rfl kQ) ?_
   refine tr1 rfl (aW (aA rfl) rfl (i := 1) rfl rfl bG) ?_
   refine tr1 rfl (aB (v := .d (.lit (.int .i64 player_1))) (aA rfl) rfl rfl) ?_
   refine tr1 rfl (bB (aA rfl) rfl rfl rfl) ?_
   refine tr1 rfl (aB (v := .d (.lit (.bool ((decide (x8.Player = player_1)))))) (aA rfl) rfl rfl) ?_
   obtain ⟨b11, h12, h⟩ := bind_some h
   refine cD 9 [1, 2, 7, 8, 9, 10] 46 b11 ?_ ?_
   ·refine bJ (decide (x8.Player = player_1)) (fun c14 => ?_) (fun c14 => ?_)
    ·have h12 := aS c14 h12
     refine aM rfl rfl (aA rfl) rfl c14 (aB (v := .d (.lit (.int .i64 fromv_0_5))) (aA rfl) rfl rfl) ?_
     refine aM rfl rfl (aA rfl) rfl c14 (bB (aA rfl) rfl rfl rfl) ?_
     refine aM rfl rfl (aA rfl) rfl c14 (aB (v := .d (.lit (.bool ((decide (fromv_0_5 < 0)))))) (aA rfl) rfl rfl) ?_
     obtain ⟨b15, h16, h12⟩ := bind_some h12
     refine cD 5 [1, 2, 7, 8, 9, 10, 37, 38, 39, 40] 45 b15 ?_ ?_
     ·refine bJ (decide (fromv_0_5 < 0)) (fun c17 => ?_) (fun c17 => ?_)
      ·have h16 := aS c17 h16
       refine aU rfl rfl (aA rfl) rfl (aA rfl) rfl c17 ?_
       refine aU rfl rfl (aA rfl) rfl (aA rfl) rfl c17 ?_
       refine aU rfl rfl (aA rfl) rfl (aA rfl) rfl c17 ?_
       refine aU rfl rfl (aA rfl) rfl (aA rfl) rfl c17 ?_
       refine aM rfl rfl (aA rfl) rfl c14 (bN (v := .d (.lit (.bool true))) (aA rfl) rfl c17 rfl rfl) ?_
       have h16 := Option.some.inj h16
       subst h16
       refine aF (bC rfl ⟨rfl, rfl, rfl, rfl, rfl, rfl, rfl, rfl, rfl, rfl, trivial⟩ rfl)
      ·have h16 := aR c17 h16
       refine aM rfl rfl (aA rfl) rfl c17 (aV (aA rfl) rfl gO) ?_
       refine aM rfl rfl (aA rfl) rfl c17 (aW (aA rfl) rfl (i := 1) rfl rfl bG) ?_
       refine aM rfl rfl (aA rfl) rfl c17 (aB (v := .d (.lit (.int .i64 fromv_0_5))) (aA rfl) rfl rfl) ?_
       refine aM rfl rfl (aA rfl) rfl c17 (bB (aA rfl) rfl rfl rfl) ?_
       refine aM rfl rfl (aA rfl) rfl c14 (bO (v := .d (.lit (.bool ((decide (x8.From < fromv_0_5)))))) (aA rfl) rfl c17 rfl rfl) ?_
       have h16 := Option.some.inj h16
       subst h16
       refine aF (bC rfl ⟨rfl, rfl, rfl, rfl, rfl, rfl, rfl, rfl, rfl, rfl, trivial⟩ rfl)
     ·refine tr1 rfl (bN (v := .d (.lit (.bool b15))) (aA rfl) rfl c14 rfl rfl) ?_
      have h12 := Option.some.inj h12
      subst h12
      refine aF (bC rfl ⟨rfl, rfl, rfl, rfl, rfl, rfl, trivial⟩ rfl)
    ·have h12 := aR c14 h12
     refine aU rfl rfl (aA rfl) rfl (aA rfl) rfl c14 ?_
     refine aU rfl rfl (aA rfl) rfl (aA rfl) rfl c14 ?_
     refine aU rfl rfl (aA rfl) rfl (aA rfl) rfl c14 ?_
     refine xO rfl rfl (aA rfl) rfl (aA rfl) rfl ?_
     refine xO rfl rfl (aA rfl) rfl (aA rfl) rfl ?_
     refine xO rfl rfl (aA rfl) rfl (aA rfl) rfl ?_
     refine xO rfl rfl (aA rfl) rfl (aA rfl) rfl ?_
     refine aU rfl rfl (aA rfl) rfl (aA rfl) rfl c14 ?_
     refine tr1 rfl (bO (v := .d (.lit (.bool false))) (aA rfl) rfl c14 rfl rfl) ?_
     have h12 := Option.some.inj h12
     subst h12
     refine aF (bC rfl ⟨rfl, rfl, rfl, rfl, rfl, rfl, trivial⟩ rfl)
   ·refine aF ?_
    refine bH rfl (fun c13 => ?_) (fun c13 => ?_)
    ·have h := aS c13 h
     refine fD mix 5 [1, 2, 9] [(7, .d (.lit (.int .i64 x8.From))), (50, .d (.lit (.int .i64 x8.To)))] ?_ ?_
     ·refine ⟨[(47, 0, .bp b10 0 1), (48, 1, .d (.lit (.int .i64 x8.From))), (49, 2, .bp b10 0 2), (50, 3, .d (.lit (.int .i64 x8.To))), (7, 4, .d (.lit (.int .i64 x8.From)))], ?_, ?_⟩
      · exact ⟨by kernel_rfl, by kernel_rfl, by kernel_rfl, by kernel_rfl, by kernel_rfl, [([], []), ([0], []), ([], []), ([2], []), ([1], [])], by kernel_rfl, ⟨fun S hS => aK rfl (aQ rfl (aV (aA rfl) (aH hS rfl) gO)),
      fun S hS => aK rfl (aQ rfl (aW (aA rfl) (aH hS rfl) (i := 1) rfl rfl bG)),
      fun S hS => aK rfl (aQ rfl (aV (aA rfl) (aH hS rfl) lA)),
      fun S hS => aK rfl (aQ rfl (aW (aA rfl) (aH hS rfl) (i := 1) rfl rfl bG)),
      fun S hS => aK rfl (aQ rfl (aJ (v := .d (.lit (.int .i64 x8.From))) (aA rfl) (aH hS rfl) rfl)), trivial⟩⟩
      · exact dJ (aL rfl (aL rfl (aY ⟨rfl, rfl, rfl, trivial⟩)))
     ·refine tr1 rfl (aJ (v := .d (.lit (.int .i64 x8.To))) (aA rfl) rfl rfl) ?_
      refine dA ?_
      refine aD ?_
      refine tr1 rfl (aB (v := .d (.lit (.int .i64 i_0_5))) (aA rfl) rfl rfl) ?_
      refine tr1 rfl (aZ (aA rfl) rfl rfl rfl) ?_
      refine tr1 rfl (aJ (v := .d (.lit (.int .i64 ((w64 (i_0_5 + 1)))))) (aA rfl) rfl rfl) ?_
      refine aF ?_
      exact ⟨(x8.From, x8.To, w64 (i_0_5 + 1)), h, aX [0] rfl rfl (aL rfl (aL rfl (aL rfl (aY ⟨rfl, rfl, trivial⟩))))⟩
    ·have h := aR c13 h
     refine dK ?_
     refine aD ?_
     refine tr1 rfl (aB (v := .d (.lit (.int .i64 i_0_5))) (aA rfl) rfl rfl) ?_
     refine tr1 rfl (aZ (aA rfl) rfl rfl rfl) ?_
     refine tr1 rfl (aJ (v := .d (.lit (.int .i64 ((w64 (i_0_5 + 1)))))) (aA rfl) rfl rfl) ?_
     refine aF ?_
     exact ⟨(fromv_0_5, to_0_5, w64 (i_0_5 + 1)), h, aX [0] rfl rfl (aL rfl (aL rfl (aL rfl (aY ⟨rfl, rfl, trivial⟩))))⟩
  ·have h := aR c7 h
   refine cQ ?_
   refine .inl ⟨rfl, ?_⟩
   simp only [jR] at h
   refine aG ?_
   refine aG ?_
   refine aD ?_
   refine tr1 rfl (aB (v := .d (.lit (.int .i64 fromv_0_5))) (aA rfl) rfl rfl) ?_
   refine tr1 rfl (bB (aA rfl) rfl rfl rfl) ?_
   refine aF ?_
   refine bH rfl (fun c18 => ?_) (fun c18 => ?_)
   ·have h := aS c18 h
    refine aG ?_
    refine aD ?_
    refine tr1 rfl (aJ (v := .d (.lit (.int .i64 0))) (aA rfl) rfl rfl) ?_
    refine tr1 rfl (aJ (v := .d (.lit (.int .i64 3))) (aA rfl) rfl rfl) ?_
    refine aF ?_
    have h := Option.some.inj h
    subst h
    refine cI (bX (cB (l := [4, 5]) ⟨rfl, rfl, trivial⟩)) ?_
    exact bI ⟨rfl, _, .two _ _, rfl, rfl⟩
   ·have h := aR c18 h
    refine bF ?_
    refine aG ?_
    refine aD ?_
    refine tr1 rfl (aJ (v := .d (.lit (.int .i64 0))) (aA rfl) rfl rfl) ?_
    refine tr1 rfl (aJ (v := .d (.lit (.int .i64 0))) (aA rfl) rfl rfl) ?_
    refine aF ?_
    refine aG ?_
    refine aG ?_
    refine aD ?_
    refine tr1 rfl (aB (v := .d (.lit (.int .i64 fromv_0_5))) (aA rfl) rfl rfl) ?_
    refine tr1 rfl (aJ (v := .d (.lit (.int .i64 fromv_0_5))) (aA rfl) rfl rfl) ?_
    refine aF ?_
    refine bP ?_
    refine cJ [1, 2, 8] (fun (s19 : Int × Int × Int) => [(11, .d (.lit (.int .i64 s19.1))), (12, .d (.lit (.int .i64 s19.2.1))), (13, .d (.lit (.int .i64 s19.2.2)))]) (fun (s19 : Int × Int × Int) => [.box b1 0 (aT l_0)]) (fun (k : Nat) (s19 : Int × Int × Int) => fK player_1 to_0_5 l_0 k s19.1 s19.2.1 s19.2.2) (fun _ => rfl) (0, 0, fromv_0_5) h (aX [0] rfl rfl (aL rfl (aL rfl (aL rfl (aY ⟨rfl, rfl, rfl, trivial⟩))))) ?_
    rintro k20 ⟨sum_2_19, many_2_19, w_2_19⟩ h
    simp only [fK] at h
    refine aG ?_
    refine aG ?_
    refine aD ?_
    refine tr1 rfl (aB (v := .d (.lit (.int .i64 w_2_19))) (aA rfl) rfl rfl) ?_
    refine tr1 rfl (aB (v := .d (.lit (.int .i64 to_0_5))) (aA rfl) rfl rfl) ?_
    refine tr1 rfl (bB (aA rfl) rfl rfl rfl) ?_
    refine tr1 rfl (aB (v := .d (.lit (.bool ((decide (w_2_19 ≤ to_0_5)))))) (aA rfl) rfl rfl) ?_
    obtain ⟨b21, h22, h⟩ := bind_some h
    refine cD 3 [1, 2, 8, 11, 12, 13] 60 b21 ?_ ?_
    ·refine bJ (decide (w_2_19 ≤ to_0_5)) (fun c29 => ?_) (fun c29 => ?_)
     ·have h22 := aS c29 h22
      refine aM rfl rfl (aA rfl) rfl c29 (aB (v := .d (.lit (.int .i64 many_2_19))) (aA rfl) rfl rfl) ?_
      refine aM rfl rfl (aA rfl) rfl c29 (bB (aA rfl) rfl rfl rfl) ?_
      refine tr1 rfl (bN (v := .d (.lit (.bool ((decide (many_2_19 < 12)))))) (aA rfl) rfl c29 rfl rfl) ?_
      have h22 := Option.some.inj h22
      subst h22
      refine aF (bC rfl ⟨rfl, rfl, rfl, rfl, rfl, rfl, trivial⟩ rfl)
     ·have h22 := aR c29 h22
      refine aU rfl rfl (aA rfl) rfl (aA rfl) rfl c29 ?_
      refine aU rfl rfl (aA rfl) rfl (aA rfl) rfl c29 ?_
      refine tr1 rfl (bO (v := .d (.lit (.bool false))) (aA rfl) rfl c29 rfl rfl) ?_
      have h22 := Option.some.inj h22
      subst h22
      refine aF (bC rfl ⟨rfl, rfl, rfl, rfl, rfl, rfl, trivial⟩ rfl)
    ·refine aF ?_
     refine bH rfl (fun c23 => ?_) (fun c23 => ?_)
     ·have h := aS c23 h
      refine bF ?_
      refine aG ?_
      refine bP ?_
      refine aG ?_
      refine aD ?_
      refine tr1 rfl (cA (aA rfl) rfl (i := 0) rfl dI (es := (aT l_0)) rfl rfl) ?_
      refine tr1 rfl (aB (v := .d (.lit (.int .i64 player_1))) (aA rfl) rfl rfl) ?_
      refine tr1 rfl (aB (v := .d (.lit (.int .i64 w_2_19))) (aA rfl) rfl rfl) ?_
      obtain ⟨r24, h25, h⟩ := bind_some h
      refine tr1 rfl (bY (aA rfl) (.func _ _ Try.call54) rfl rfl (BVs.refl _ _) (tV _ _ _ h25) rfl) ?_
      refine tr1 rfl (aJ (v := .d (.lit (.int .i64 r24))) (aA rfl) rfl rfl) ?_
      refine aF ?_
      refine aG ?_
      refine aG ?_
      refine aD ?_
      refine tr1 rfl (aB (v := .d (.lit (.int .i64 r24))) (aA rfl) rfl rfl) ?_
      refine tr1 rfl (bB (aA rfl) rfl rfl rfl) ?_
      refine aF ?_
      refine bH rfl (fun c26 => ?_) (fun c26 => ?_)
      ·have h := aS c26 h
       refine aD ?_
       refine tr1 rfl (aV (aA rfl) rfl jA) ?_
       refine tr1 rfl (aW (aA rfl) rfl (i := 0) rfl rfl bG) ?_
       refine tr1 rfl (aJ (v := .d (.lit (.int .i64 l_0.Players))) (aA rfl) rfl rfl) ?_
       refine aF ?_
       refine aG ?_
       refine aD ?_
       refine tr1 rfl (aB (v := .d (.lit (.int .i64 sum_2_19))) (aA rfl) rfl rfl) ?_
       refine tr1 rfl (aB (v := .d (.lit (.int .i64 l_0.Players))) (aA rfl) rfl rfl) ?_
       refine tr1 rfl (aZ (aA rfl) rfl rfl rfl) ?_
       refine tr1 rfl (aJ (v := .d (.lit (.int .i64 ((w64 (sum_2_19 + l_0.Players)))))) (aA rfl) rfl rfl) ?_
       refine aF ?_
       refine aD ?_
       refine tr1 rfl (aB (v := .d (.lit (.int .i64 many_2_19))) (aA rfl) rfl rfl) ?_
       refine tr1 rfl (aZ (aA rfl) rfl rfl rfl) ?_
       refine tr1 rfl (aJ (v := .d (.lit (.int .i64 ((w64 (many_2_19 + 1)))))) (aA rfl) rfl rfl) ?_
       refine dA ?_
       refine aD ?_
       refine tr1 rfl (aB (v := .d (.lit (.int .i64 w_2_19))) (aA rfl) rfl rfl) ?_
       refine tr1 rfl (aZ (aA rfl) rfl rfl rfl) ?_
       refine tr1 rfl (aJ (v := .d (.lit (.int .i64 ((w64 (w_2_19 + 1)))))) (aA rfl) rfl rfl) ?_
       refine aF ?_
       exact ⟨(w64 (sum_2_19 + l_0.Players), w64 (many_2_19 + 1), w64 (w_2_19 + 1)), h, aX [0] rfl rfl (aL rfl (aL rfl (aL rfl (aY ⟨rfl, rfl, rfl, trivial⟩))))⟩
      ·have h := aR c26 h
       refine bF ?_
       refine aG ?_
       refine aD ?_
       refine tr1 rfl (aB (v := .d (.lit (.int .i64 sum_2_19))) (aA rfl) rfl rfl) ?_
       refine tr1 rfl (aB (v := .d (.lit (.int .i64 r24))) (aA rfl) rfl rfl) ?_
       refine tr1 rfl (aZ (aA rfl) rfl rfl rfl) ?_
       refine tr1 rfl (aJ (v := .d (.lit (.int .i64 ((w64 (sum_2_19 + r24)))))) (aA rfl) rfl rfl) ?_
       refine aF ?_
       refine aD ?_
       refine tr1 rfl (aB (v := .d (.lit (.int .i64 many_2_19))) (aA rfl) rfl rfl) ?_
       refine tr1 rfl (aZ (aA rfl) rfl rfl rfl) ?_
       refine tr1 rfl (aJ (v := .d (.lit (.int .i64 ((w64 (many_2_19 + 1)))))) (aA rfl) rfl rfl) ?_
       refine dA ?_
       refine aD ?_
       refine tr1 rfl (aB (v := .d (.lit (.int .i64 w_2_19))) (aA rfl) rfl rfl) ?_
       refine tr1 rfl (aZ (aA rfl) rfl rfl rfl) ?_
       refine tr1 rfl (aJ (v := .d (.lit (.int .i64 ((w64 (w_2_19 + 1)))))) (aA rfl) rfl rfl) ?_
       refine aF ?_
       exact ⟨(w64 (sum_2_19 + r24), w64 (many_2_19 + 1), w64 (w_2_19 + 1)), h, aX [0] rfl rfl (aL rfl (aL rfl (aL rfl (aY ⟨rfl, rfl, rfl, trivial⟩))))⟩
     ·have h := aR c23 h
      refine cQ ?_
      refine .inl ⟨rfl, ?_⟩
      simp only [lM] at h
      refine aG ?_
      refine aD ?_
      refine tr1 rfl (aB (v := .d (.lit (.int .i64 sum_2_19))) (aA rfl) rfl rfl) ?_
      refine tr1 rfl (aB (v := .d (.lit (.int .i64 many_2_19))) (aA rfl) rfl rfl) ?_
      obtain ⟨u27, h28, h⟩ := bind_some h
      refine tr1 rfl (aJa (aA rfl) rfl rfl (aIu h28)) ?_
      refine tr1 rfl (aJ (v := .d (.lit (.int .i64 ((w64 (sum_2_19.tdiv many_2_19)))))) (aA rfl) rfl rfl) ?_
      refine tr1 rfl (aJ (v := .d (.lit (.int .i64 0))) (aA rfl) rfl rfl) ?_
      refine aF ?_
      have h := Option.some.inj h
      subst h
      refine cI (bX (cB (l := [4, 5]) ⟨rfl, rfl, trivial⟩)) ?_
      exact bI ⟨rfl, _, .two _ _, rfl, rfl⟩

theorem wE (l_0 : aN) (x_1 : pP) {r : Bool} (h : mT l_0 x_1 = some r) : Fn Try.prog 9 [.agg (aT l_0), .agg (rW x_1)] (.d (.lit (.bool r))) := by
 unfold mT at h
 refine Fn.of_tr Try.func9 rfl (rs := [.tmp 4]) Try.results9 Try.ntmps9 (Nat.le_of_ble_eq_true rfl) ?_
 refine aG ?_
 refine aD ?_
 refine bQ rfl (eD (v := .agg (aT l_0)) (aA rfl) rfl rfl rfl) ?_
 rintro _ ⟨b1, rfl⟩
 refine bQ rfl (eD (v := .agg (rW x_1)) (aA rfl) rfl rfl rfl) ?_
 rintro _ ⟨b2, rfl⟩
 refine tr1 rfl (aJ (v := .d (.lit (.bool false))) (aA rfl) rfl rfl) ?_
 refine aF ?_
 refine aG ?_
 refine aG ?_
 refine aD ?_
 refine tr1 rfl (cA (aA rfl) rfl (i := 0) rfl dI (es := (aT l_0)) rfl rfl) ?_
 obtain ⟨r3, h4, h⟩ := bind_some h
 refine tr1 rfl (bY (aA rfl) (.func _ _ Try.call13) rfl rfl (BVs.refl _ _) (aAh _ h4) rfl) ?_
 refine tr1 rfl (aB (v := .d (.lit (.bool r3))) (aA rfl) rfl rfl) ?_
 obtain ⟨b5, h6, h⟩ := bind_some h
 refine cD 4 [2, 3] 28 b5 ?_ ?_
 ·refine bJ (r3) (fun c55 => ?_) (fun c55 => ?_)
  ·have h6 := aS c55 h6
   refine aU rfl rfl (aA rfl) rfl (aA rfl) rfl c55 ?_
   refine aU rfl rfl (aA rfl) rfl (aA rfl) rfl c55 ?_
   refine aU rfl rfl (aA rfl) rfl (aA rfl) rfl c55 ?_
   refine tr1 rfl (bN (v := .d (.lit (.bool true))) (aA rfl) rfl c55 rfl rfl) ?_
   have h6 := Option.some.inj h6
   subst h6
   refine aF (bC rfl ⟨rfl, rfl, trivial⟩ rfl)
  ·have h6 := aR c55 h6
   refine aM rfl rfl (aA rfl) rfl c55 (aV (aA rfl) rfl rX) ?_
   refine aM rfl rfl (aA rfl) rfl c55 (aW (aA rfl) rfl (i := 1) rfl rfl bG) ?_
   obtain ⟨r56, h57, h6⟩ := bind_some h6
   refine aM rfl rfl (aA rfl) rfl c55 (bY (aA rfl) (.func _ _ Try.call14) rfl rfl (BVs.refl _ _) (zO _ h57) rfl) ?_
   refine tr1 rfl (bO (v := .d (.lit (.bool r56))) (aA rfl) rfl c55 rfl rfl) ?_
   have h6 := Option.some.inj h6
   subst h6
   refine aF (bC rfl ⟨rfl, rfl, trivial⟩ rfl)
 ·refine aF ?_
  refine bH rfl (fun c7 => ?_) (fun c7 => ?_)
  ·have h := aS c7 h
   refine aG ?_
   refine aD ?_
   obtain ⟨r8, h9, h⟩ := bind_some h
   refine tr1 rfl (bY (aA rfl) (.func _ _ Try.call16) rfl rfl (BVs.refl _ _) (tT h9) rfl) ?_
   refine tr1 rfl (aJ (v := .d (.lit (.bool r8))) (aA rfl) rfl rfl) ?_
   refine aF ?_
   have h := Option.some.inj h
   subst h
   refine cI (bX (cB (l := [4]) ⟨rfl, trivial⟩)) ?_
   exact bI ⟨rfl, _, .one _, rfl, rfl⟩
  ·have h := aR c7 h
   refine bF ?_
   refine aG ?_
   refine aD ?_
   refine tr1 rfl (cA (aA rfl) rfl (i := 0) rfl dI (es := (aT l_0)) rfl rfl) ?_
   obtain ⟨r10, h11, h⟩ := bind_some h
   refine tr1 rfl (iB (aA rfl) (.func _ _ Try.call18) rfl rfl (uI _ h11)) ?_
   refine bQ rfl (fF (zs := [.lit (.int .i64 0), .lit (.int .i64 0), .sl 5 ((([] : List aE)).map aC), .sl 3 ((([] : List aP)).map aI), .sl 3 ((([] : List aP)).map aI)]) (aA rfl) Try.zeroValue25 rfl rfl) ?_
   rintro _ ⟨b12, rfl⟩
   refine tr1 rfl (cF (i := 2) rfl rfl rfl rfl rfl Try.sizeOf25 rfl (aA rfl) (Nat.le_of_ble_eq_true rfl) (ds' := (aT r10)) rfl) ?_
   refine aF ?_
   refine aG ?_
   refine aD ?_
   refine tr1 rfl (cA (aA rfl) rfl (i := 2) rfl dI (es := (aT r10)) rfl rfl) ?_
   refine tr1 rfl (aV (aA rfl) rfl rX) ?_
   refine tr1 rfl (aW (aA rfl) rfl (i := 1) rfl rfl bG) ?_
   obtain ⟨r13, h14, h⟩ := bind_some h
   refine tr1 rfl (iB (aA rfl) (.func _ _ Try.call27) rfl rfl (zY _ _ h14)) ?_
   refine tr1 rfl (aB (v := .tup [.d (.sl 1 (r13.1.map cG)), .d (.lit (.int .i64 r13.2))]) (aA rfl) rfl rfl) ?_
   refine tr1 rfl (cH (aA rfl) rfl rfl) ?_
   refine tr1 rfl (cH (aA rfl) rfl rfl) ?_
   refine tr1 rfl (aJ (v := .d (.sl 1 (r13.1.map cG))) (aA rfl) rfl rfl) ?_
   refine tr1 rfl (aJ (v := .d (.lit (.int .i64 r13.2))) (aA rfl) rfl rfl) ?_
   refine aF ?_
   refine aG ?_
   refine aD ?_
   refine tr1 rfl (cA (aA rfl) rfl (i := 0) rfl dI (es := (aT l_0)) rfl rfl) ?_
   refine tr1 rfl (aV (aA rfl) rfl rX) ?_
   refine tr1 rfl (aW (aA rfl) rfl (i := 1) rfl rfl bG) ?_
   obtain ⟨r15, h16, h⟩ := bind_some h
   refine tr1 rfl (iB (aA rfl) (.func _ _ Try.call33) rfl rfl (zP _ _ h16)) ?_
   refine tr1 rfl (aB (v := .tup [.d (.sl 1 (r15.1.map cG)), .d (.lit (.int .i64 r15.2))]) (aA rfl) rfl rfl) ?_
   refine tr1 rfl (cH (aA rfl) rfl rfl) ?_
   refine tr1 rfl (cH (aA rfl) rfl rfl) ?_
   refine tr1 rfl (aJ (v := .d (.sl 1 (r15.1.map cG))) (aA rfl) rfl rfl) ?_
   refine tr1 rfl (aJ (v := .d (.lit (.int .i64 r15.2))) (aA rfl) rfl rfl) ?_
   refine aF ?_
   refine aG ?_
   refine aD ?_
   refine tr1 rfl (cA (aA rfl) rfl (i := 2) rfl dI (es := (aT r10)) rfl rfl) ?_
   refine tr1 rfl (aV (aA rfl) rfl tE) ?_
   refine tr1 rfl (aW (aA rfl) rfl (i := 1) rfl rfl bG) ?_
   refine tr1 rfl (aV (aA rfl) rfl rX) ?_
   refine tr1 rfl (aW (aA rfl) rfl (i := 1) rfl rfl bG) ?_
   obtain ⟨r17, h18, h⟩ := bind_some h
   refine tr1 rfl (bY (aA rfl) (.func _ _ Try.call24) rfl rfl (BVs.refl _ _) (aEh _ _ _ h18) rfl) ?_
   refine tr1 rfl (aB (v := .tup [.d (.lit (.int .i64 r17.1)), .d (.lit (.int .i64 r17.2))]) (aA rfl) rfl rfl) ?_
   refine tr1 rfl (cH (aA rfl) rfl rfl) ?_
   refine tr1 rfl (cH (aA rfl) rfl rfl) ?_
   refine tr1 rfl (aJ (v := .d (.lit (.int .i64 r17.1))) (aA rfl) rfl rfl) ?_
   refine tr1 rfl (aJ (v := .d (.lit (.int .i64 r17.2))) (aA rfl) rfl rfl) ?_
   refine aF ?_
   refine aG ?_
   refine aD ?_
   refine tr1 rfl (cA (aA rfl) rfl (i := 0) rfl dI (es := (aT l_0)) rfl rfl) ?_
   refine tr1 rfl (aV (aA rfl) rfl tE) ?_
   refine tr1 rfl (aW (aA rfl) rfl (i := 1) rfl rfl bG) ?_
   refine tr1 rfl (aV (aA rfl) rfl rX) ?_
   refine tr1 rfl (aW (aA rfl) rfl (i := 1) rfl rfl bG) ?_
   obtain ⟨r19, h20, h⟩ := bind_some h
   refine tr1 rfl (bY (aA rfl) (.func _ _ Try.call34) rfl rfl (BVs.refl _ _) (yJ _ _ _ h20) rfl) ?_
   refine tr1 rfl (aB (v := .tup [.d (.lit (.int .i64 r19.1)), .d (.lit (.int .i64 r19.2))]) (aA rfl) rfl rfl) ?_
   refine tr1 rfl (cH (aA rfl) rfl rfl) ?_
   refine tr1 rfl (cH (aA rfl) rfl rfl) ?_
   refine tr1 rfl (aJ (v := .d (.lit (.int .i64 r19.1))) (aA rfl) rfl rfl) ?_
   refine tr1 rfl (aJ (v := .d (.lit (.int .i64 r19.2))) (aA rfl) rfl rfl) ?_
   refine aF ?_
   refine aG ?_
   refine aG ?_
   refine aD ?_
   refine tr1 rfl (aB (v := .d (.sl 1 (r13.1.map cG))) (aA rfl) rfl rfl) ?_
   refine tr1 rfl (aB (v := .d (.sl 1 (r15.1.map cG))) (aA rfl) rfl rfl) ?_
   obtain ⟨r21, h22, h⟩ := bind_some h
   refine tr1 rfl (bY (aA rfl) (.func _ _ Try.call32) rfl rfl (BVs.refl _ _) (sE _ _ h22) rfl) ?_
   refine tr1 rfl (eN (aA rfl) rfl) ?_
   refine tr1 rfl (aB (v := .d (.lit (.bool (!r21)))) (aA rfl) rfl rfl) ?_
   obtain ⟨b23, h24, h⟩ := bind_some h
   refine cD 4 [2, 3, 5, 10, 11, 12, 13] 72 b23 ?_ ?_
   ·refine bJ (!r21) (fun c54 => ?_) (fun c54 => ?_)
    ·have h24 := aS c54 h24
     refine aU rfl rfl (aA rfl) rfl (aA rfl) rfl c54 ?_
     refine aU rfl rfl (aA rfl) rfl (aA rfl) rfl c54 ?_
     refine aU rfl rfl (aA rfl) rfl (aA rfl) rfl c54 ?_
     refine tr1 rfl (bN (v := .d (.lit (.bool true))) (aA rfl) rfl c54 rfl rfl) ?_
     have h24 := Option.some.inj h24
     subst h24
     refine aF (bC rfl ⟨rfl, rfl, rfl, rfl, rfl, rfl, rfl, trivial⟩ rfl)
    ·have h24 := aR c54 h24
     refine aM rfl rfl (aA rfl) rfl c54 (aB (v := .d (.lit (.int .i64 r13.2))) (aA rfl) rfl rfl) ?_
     refine aM rfl rfl (aA rfl) rfl c54 (aB (v := .d (.lit (.int .i64 r15.2))) (aA rfl) rfl rfl) ?_
     refine aM rfl rfl (aA rfl) rfl c54 (bB (aA rfl) rfl rfl rfl) ?_
     refine tr1 rfl (bO (v := .d (.lit (.bool ((!decide (r13.2 = r15.2)))))) (aA rfl) rfl c54 rfl rfl) ?_
     have h24 := Option.some.inj h24
     subst h24
     refine aF (bC rfl ⟨rfl, rfl, rfl, rfl, rfl, rfl, rfl, trivial⟩ rfl)
   ·refine tr1 rfl (aB (v := .d (.lit (.bool b23))) (aA rfl) rfl rfl) ?_
    obtain ⟨b25, h26, h⟩ := bind_some h
    refine cD 4 [2, 3, 5, 11, 13] 77 b25 ?_ ?_
    ·refine bJ (b23) (fun c53 => ?_) (fun c53 => ?_)
     ·have h26 := aS c53 h26
      refine aU rfl rfl (aA rfl) rfl (aA rfl) rfl c53 ?_
      refine aU rfl rfl (aA rfl) rfl (aA rfl) rfl c53 ?_
      refine aU rfl rfl (aA rfl) rfl (aA rfl) rfl c53 ?_
      refine tr1 rfl (bN (v := .d (.lit (.bool true))) (aA rfl) rfl c53 rfl rfl) ?_
      have h26 := Option.some.inj h26
      subst h26
      refine aF (bC rfl ⟨rfl, rfl, rfl, rfl, rfl, trivial⟩ rfl)
     ·have h26 := aR c53 h26
      refine aM rfl rfl (aA rfl) rfl c53 (aB (v := .d (.lit (.int .i64 r17.1))) (aA rfl) rfl rfl) ?_
      refine aM rfl rfl (aA rfl) rfl c53 (aB (v := .d (.lit (.int .i64 r19.1))) (aA rfl) rfl rfl) ?_
      refine aM rfl rfl (aA rfl) rfl c53 (bB (aA rfl) rfl rfl rfl) ?_
      refine tr1 rfl (bO (v := .d (.lit (.bool ((!decide (r17.1 = r19.1)))))) (aA rfl) rfl c53 rfl rfl) ?_
      have h26 := Option.some.inj h26
      subst h26
      refine aF (bC rfl ⟨rfl, rfl, rfl, rfl, rfl, trivial⟩ rfl)
    ·refine tr1 rfl (aB (v := .d (.lit (.bool b25))) (aA rfl) rfl rfl) ?_
     obtain ⟨b27, h28, h⟩ := bind_some h
     refine cD 4 [2, 3, 5] 82 b27 ?_ ?_
     ·refine bJ (b25) (fun c52 => ?_) (fun c52 => ?_)
      ·have h28 := aS c52 h28
       refine aU rfl rfl (aA rfl) rfl (aA rfl) rfl c52 ?_
       refine aU rfl rfl (aA rfl) rfl (aA rfl) rfl c52 ?_
       refine aU rfl rfl (aA rfl) rfl (aA rfl) rfl c52 ?_
       refine tr1 rfl (bN (v := .d (.lit (.bool true))) (aA rfl) rfl c52 rfl rfl) ?_
       have h28 := Option.some.inj h28
       subst h28
       refine aF (bC rfl ⟨rfl, rfl, rfl, trivial⟩ rfl)
      ·have h28 := aR c52 h28
       refine aM rfl rfl (aA rfl) rfl c52 (aB (v := .d (.lit (.int .i64 r17.2))) (aA rfl) rfl rfl) ?_
       refine aM rfl rfl (aA rfl) rfl c52 (aB (v := .d (.lit (.int .i64 r19.2))) (aA rfl) rfl rfl) ?_
       refine aM rfl rfl (aA rfl) rfl c52 (bB (aA rfl) rfl rfl rfl) ?_
       refine tr1 rfl (bO (v := .d (.lit (.bool ((!decide (r17.2 = r19.2)))))) (aA rfl) rfl c52 rfl rfl) ?_
       have h28 := Option.some.inj h28
       subst h28
       refine aF (bC rfl ⟨rfl, rfl, rfl, trivial⟩ rfl)
     ·refine aF ?_
      refine bH rfl (fun c29 => ?_) (fun c29 => ?_)
      ·have h := aS c29 h
       refine aG ?_
       refine aD ?_
       refine tr1 rfl (aJ (v := .d (.lit (.bool false))) (aA rfl) rfl rfl) ?_
       refine aF ?_
       have h := Option.some.inj h
       subst h
       refine cI (bX (cB (l := [4]) ⟨rfl, trivial⟩)) ?_
       exact bI ⟨rfl, _, .one _, rfl, rfl⟩
      ·have h := aR c29 h
       refine bF ?_
       refine aG ?_
       refine aD ?_
       refine tr1 rfl (cA (aA rfl) rfl (i := 2) rfl dI (es := (aT r10)) rfl rfl) ?_
       refine tr1 rfl (aV (aA rfl) rfl tE) ?_
       refine tr1 rfl (aW (aA rfl) rfl (i := 1) rfl rfl bG) ?_
       refine tr1 rfl (aV (aA rfl) rfl rX) ?_
       refine tr1 rfl (aW (aA rfl) rfl (i := 1) rfl rfl bG) ?_
       obtain ⟨r30, h31, h⟩ := bind_some h
       refine tr1 rfl (bY (aA rfl) (.func _ _ Try.call21) rfl rfl (BVs.refl _ _) (wV _ _ _ h31) rfl) ?_
       refine tr1 rfl (aB (v := .tup [.d (.lit (.int .i64 r30.1)), .d (.lit (.int .i64 r30.2))]) (aA rfl) rfl rfl) ?_
       refine tr1 rfl (cH (aA rfl) rfl rfl) ?_
       refine tr1 rfl (cH (aA rfl) rfl rfl) ?_
       refine tr1 rfl (aJ (v := .d (.lit (.int .i64 r30.1))) (aA rfl) rfl rfl) ?_
       refine tr1 rfl (aJ (v := .d (.lit (.int .i64 r30.2))) (aA rfl) rfl rfl) ?_
       refine aF ?_
       refine aG ?_
       refine aD ?_
       refine tr1 rfl (cA (aA rfl) rfl (i := 0) rfl dI (es := (aT l_0)) rfl rfl) ?_
       refine tr1 rfl (aV (aA rfl) rfl tE) ?_
       refine tr1 rfl (aW (aA rfl) rfl (i := 1) rfl rfl bG) ?_
       refine tr1 rfl (aV (aA rfl) rfl rX) ?_
       refine tr1 rfl (aW (aA rfl) rfl (i := 1) rfl rfl bG) ?_
       obtain ⟨r32, h33, h⟩ := bind_some h
       refine tr1 rfl (bY (aA rfl) (.func _ _ Try.call35) rfl rfl (BVs.refl _ _) (xD _ _ _ h33) rfl) ?_
       refine tr1 rfl (aB (v := .tup [.d (.lit (.int .i64 r32.1)), .d (.lit (.int .i64 r32.2))]) (aA rfl) rfl rfl) ?_
       refine tr1 rfl (cH (aA rfl) rfl rfl) ?_
       refine tr1 rfl (cH (aA rfl) rfl rfl) ?_
       refine tr1 rfl (aJ (v := .d (.lit (.int .i64 r32.1))) (aA rfl) rfl rfl) ?_
       refine tr1 rfl (aJ (v := .d (.lit (.int .i64 r32.2))) (aA rfl) rfl rfl) ?_
       refine aF ?_
       refine aG ?_
       refine aD ?_
       refine tr1 rfl (cA (aA rfl) rfl (i := 2) rfl dI (es := (aT r10)) rfl rfl) ?_
       refine tr1 rfl (aV (aA rfl) rfl tE) ?_
       refine tr1 rfl (aW (aA rfl) rfl (i := 1) rfl rfl bG) ?_
       obtain ⟨r34, h35, h⟩ := bind_some h
       refine tr1 rfl (bY (aA rfl) (.func _ _ Try.call36) rfl rfl (BVs.refl _ _) (aAq _ _ h35) rfl) ?_
       refine tr1 rfl (aB (v := .tup [.d (.lit (.int .i64 r34.1)), .d (.lit (.int .i64 r34.2))]) (aA rfl) rfl rfl) ?_
       refine tr1 rfl (cH (aA rfl) rfl rfl) ?_
       refine tr1 rfl (cH (aA rfl) rfl rfl) ?_
       refine tr1 rfl (aJ (v := .d (.lit (.int .i64 r34.1))) (aA rfl) rfl rfl) ?_
       refine tr1 rfl (aJ (v := .d (.lit (.int .i64 r34.2))) (aA rfl) rfl rfl) ?_
       refine aF ?_
       refine aG ?_
       refine aD ?_
       refine tr1 rfl (cA (aA rfl) rfl (i := 0) rfl dI (es := (aT l_0)) rfl rfl) ?_
       refine tr1 rfl (aV (aA rfl) rfl tE) ?_
       refine tr1 rfl (aW (aA rfl) rfl (i := 1) rfl rfl bG) ?_
       obtain ⟨r36, h37, h⟩ := bind_some h
       refine tr1 rfl (bY (aA rfl) (.func _ _ Try.call37) rfl rfl (BVs.refl _ _) (wF _ _ h37) rfl) ?_
       refine tr1 rfl (aB (v := .tup [.d (.lit (.int .i64 r36.1)), .d (.lit (.int .i64 r36.2))]) (aA rfl) rfl rfl) ?_
       refine tr1 rfl (cH (aA rfl) rfl rfl) ?_
       refine tr1 rfl (cH (aA rfl) rfl rfl) ?_
       refine tr1 rfl (aJ (v := .d (.lit (.int .i64 r36.1))) (aA rfl) rfl rfl) ?_
       refine tr1 rfl (aJ (v := .d (.lit (.int .i64 r36.2))) (aA rfl) rfl rfl) ?_
       refine aF ?_
       refine aG ?_
       refine aD ?_
       refine tr1 rfl (aB (v := .d (.lit (.int .i64 r30.1))) (aA rfl) rfl rfl) ?_
       refine tr1 rfl (aB (v := .d (.lit (.int .i64 r32.1))) (aA rfl) rfl rfl) ?_
       refine tr1 rfl (bB (aA rfl) rfl rfl rfl) ?_
       refine tr1 rfl (aB (v := .d (.lit (.bool ((decide (r30.1 = r32.1)))))) (aA rfl) rfl rfl) ?_
       obtain ⟨b38, h39, h⟩ := bind_some h
       refine cD 4 [18, 19, 20, 21] 122 b38 ?_ ?_
       ·refine bJ (decide (r30.1 = r32.1)) (fun c51 => ?_) (fun c51 => ?_)
        ·have h39 := aS c51 h39
         refine aM rfl rfl (aA rfl) rfl c51 (aB (v := .d (.lit (.int .i64 r30.2))) (aA rfl) rfl rfl) ?_
         refine aM rfl rfl (aA rfl) rfl c51 (aB (v := .d (.lit (.int .i64 r32.2))) (aA rfl) rfl rfl) ?_
         refine aM rfl rfl (aA rfl) rfl c51 (bB (aA rfl) rfl rfl rfl) ?_
         refine tr1 rfl (bN (v := .d (.lit (.bool ((decide (r30.2 = r32.2)))))) (aA rfl) rfl c51 rfl rfl) ?_
         have h39 := Option.some.inj h39
         subst h39
         refine aF (bC rfl ⟨rfl, rfl, rfl, rfl, trivial⟩ rfl)
        ·have h39 := aR c51 h39
         refine aU rfl rfl (aA rfl) rfl (aA rfl) rfl c51 ?_
         refine aU rfl rfl (aA rfl) rfl (aA rfl) rfl c51 ?_
         refine aU rfl rfl (aA rfl) rfl (aA rfl) rfl c51 ?_
         refine tr1 rfl (bO (v := .d (.lit (.bool false))) (aA rfl) rfl c51 rfl rfl) ?_
         have h39 := Option.some.inj h39
         subst h39
         refine aF (bC rfl ⟨rfl, rfl, rfl, rfl, trivial⟩ rfl)
       ·refine tr1 rfl (aB (v := .d (.lit (.bool b38))) (aA rfl) rfl rfl) ?_
        obtain ⟨b40, h41, h⟩ := bind_some h
        refine cD 4 [19, 21] 127 b40 ?_ ?_
        ·refine bJ (b38) (fun c50 => ?_) (fun c50 => ?_)
         ·have h41 := aS c50 h41
          refine aM rfl rfl (aA rfl) rfl c50 (aB (v := .d (.lit (.int .i64 r34.1))) (aA rfl) rfl rfl) ?_
          refine aM rfl rfl (aA rfl) rfl c50 (aB (v := .d (.lit (.int .i64 r36.1))) (aA rfl) rfl rfl) ?_
          refine aM rfl rfl (aA rfl) rfl c50 (bB (aA rfl) rfl rfl rfl) ?_
          refine tr1 rfl (bN (v := .d (.lit (.bool ((decide (r34.1 = r36.1)))))) (aA rfl) rfl c50 rfl rfl) ?_
          have h41 := Option.some.inj h41
          subst h41
          refine aF (bC rfl ⟨rfl, rfl, trivial⟩ rfl)
         ·have h41 := aR c50 h41
          refine aU rfl rfl (aA rfl) rfl (aA rfl) rfl c50 ?_
          refine aU rfl rfl (aA rfl) rfl (aA rfl) rfl c50 ?_
          refine aU rfl rfl (aA rfl) rfl (aA rfl) rfl c50 ?_
          refine tr1 rfl (bO (v := .d (.lit (.bool false))) (aA rfl) rfl c50 rfl rfl) ?_
          have h41 := Option.some.inj h41
          subst h41
          refine aF (bC rfl ⟨rfl, rfl, trivial⟩ rfl)
        ·refine tr1 rfl (aB (v := .d (.lit (.bool b40))) (aA rfl) rfl rfl) ?_
         obtain ⟨b42, h43, h⟩ := bind_some h
         refine cD 4 [] 132 b42 ?_ ?_
         ·refine bJ (b40) (fun c49 => ?_) (fun c49 => ?_)
          ·have h43 := aS c49 h43
           refine aM rfl rfl (aA rfl) rfl c49 (aB (v := .d (.lit (.int .i64 r34.2))) (aA rfl) rfl rfl) ?_
           refine aM rfl rfl (aA rfl) rfl c49 (aB (v := .d (.lit (.int .i64 r36.2))) (aA rfl) rfl rfl) ?_
           refine aM rfl rfl (aA rfl) rfl c49 (bB (aA rfl) rfl rfl rfl) ?_
           refine tr1 rfl (bN (v := .d (.lit (.bool ((decide (r34.2 = r36.2)))))) (aA rfl) rfl c49 rfl rfl) ?_
           have h43 := Option.some.inj h43
           subst h43
           refine aF (bC rfl trivial rfl)
          ·have h43 := aR c49 h43
           refine aU rfl rfl (aA rfl) rfl (aA rfl) rfl c49 ?_
           refine aU rfl rfl (aA rfl) rfl (aA rfl) rfl c49 ?_
           refine aU rfl rfl (aA rfl) rfl (aA rfl) rfl c49 ?_
           refine tr1 rfl (bO (v := .d (.lit (.bool false))) (aA rfl) rfl c49 rfl rfl) ?_
           have h43 := Option.some.inj h43
           subst h43
           refine aF (bC rfl trivial rfl)
         ·refine tr1 rfl (aB (v := .d (.lit (.bool b42))) (aA rfl) rfl rfl) ?_
          obtain ⟨b44, h45, h⟩ := bind_some h
          refine cD 2 [] 135 b44 ?_ ?_
          ·refine bJ (b42) (fun c46 => ?_) (fun c46 => ?_)
           ·have h45 := aS c46 h45
            obtain ⟨r47, h48, h45⟩ := bind_some h45
            refine aM rfl rfl (aA rfl) rfl c46 (bY (aA rfl) (.func _ _ Try.call16) rfl rfl (BVs.refl _ _) (tT h48) rfl) ?_
            refine tr1 rfl (bN (v := .d (.lit (.bool r47))) (aA rfl) rfl c46 rfl rfl) ?_
            have h45 := Option.some.inj h45
            subst h45
            refine aF (bC rfl trivial rfl)
           ·have h45 := aR c46 h45
            refine aU rfl rfl (aA rfl) rfl (aA rfl) rfl c46 ?_
            refine tr1 rfl (bO (v := .d (.lit (.bool false))) (aA rfl) rfl c46 rfl rfl) ?_
            have h45 := Option.some.inj h45
            subst h45
            refine aF (bC rfl trivial rfl)
          ·refine tr1 rfl (aJ (v := .d (.lit (.bool b44))) (aA rfl) rfl rfl) ?_
           refine aF ?_
           have h := Option.some.inj h
           subst h
           refine cI (bX (cB (l := [4]) ⟨rfl, trivial⟩)) ?_
           exact bI ⟨rfl, _, .one _, rfl, rfl⟩

end Go.Am
