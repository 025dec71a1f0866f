/- The functions compute what the shallow ones say: printed by program. -/
import Derived.Test.YtikcmpflkibomaaPlayEasierSimP2
namespace Go.Am
open Go.Proofs
set_option maxRecDepth 100000
set_option maxHeartbeats 4000000

theorem deucelaw08_PlayEasier_c (p_0 : ApiProgram) (order_1 : List ApiSeat) (x_2 : Deucelaw08Ease) {r : Bool} (h : deucelaw08_PlayEasier p_0 order_1 x_2 = some r) : Fn Try.prog 4 [.agg (encApiProgram p_0), .d (.sl 3 (order_1.map encApiSeat)), .agg (encDeucelaw08Ease x_2)] (.d (.lit (.bool r))) := by
 unfold deucelaw08_PlayEasier at h
 refine Fn.of_tr Try.func4 rfl (rs := [.tmp 6]) Try.results4 Try.ntmps4 (Nat.le_of_ble_eq_true rfl) ?_
 refine tr_seq ?_
 refine tr_region ?_
 refine tr_op rfl (s_box (v := .agg (encApiProgram p_0)) (lt_of rfl) rfl rfl rfl) ?_
 rintro _ ⟨b1, rfl⟩
 refine tr_op rfl (s_box (v := .agg (encDeucelaw08Ease x_2)) (lt_of rfl) rfl rfl rfl) ?_
 rintro _ ⟨b2, rfl⟩
 refine tr1 rfl (s_assign (v := .d (.lit (.bool false))) (lt_of rfl) rfl rfl) ?_
 refine tr_nil ?_
 refine tr_seq ?_
 refine tr_seq ?_
 refine tr_region ?_
 refine tr1 rfl (s_loada_bp (lt_of rfl) rfl (i := 0) rfl agg_25 (es := (encApiProgram p_0)) rfl rfl) ?_
 obtain ⟨r3, h4, h⟩ := bind_some h
 refine tr1 rfl (s_call (lt_of rfl) (.func _ _ Try.call21) rfl rfl (BVs.refl _ _) (deucelaw08_ready_c _ h4) rfl) ?_
 refine tr1 rfl (s_not (lt_of rfl) rfl) ?_
 refine tr1 rfl (s_move (v := .d (.lit (.bool (!r3)))) (lt_of rfl) rfl rfl) ?_
 obtain ⟨b5, h6, h⟩ := bind_some h
 refine tr_guard 4 [1, 3, 5] 37 b5 ?_ ?_
 ·refine bool_cases (!r3) (fun c117 => ?_) (fun c117 => ?_)
  ·have h6 := cond_tt c117 h6
   refine tr_pass rfl rfl (lt_of rfl) rfl (lt_of rfl) rfl c117 ?_
   refine tr_pass rfl rfl (lt_of rfl) rfl (lt_of rfl) rfl c117 ?_
   refine tr_pass rfl rfl (lt_of rfl) rfl (lt_of rfl) rfl c117 ?_
   refine tr1 rfl (s_pick_t (v := .d (.lit (.bool true))) (lt_of rfl) rfl c117 rfl rfl) ?_
   have h6 := Option.some.inj h6
   subst h6
   refine tr_nil (ent_keep rfl ⟨rfl, rfl, rfl, trivial⟩ rfl)
  ·have h6 := cond_ff c117 h6
   refine tr_take1 rfl rfl (lt_of rfl) rfl c117 (s_move (v := .d (.sl 3 (order_1.map encApiSeat))) (lt_of rfl) rfl rfl) ?_
   refine tr_take1 rfl rfl (lt_of rfl) rfl c117 (s_lenm (lt_of rfl) rfl sl_26.of) ?_
   refine tr_take1 rfl rfl (lt_of rfl) rfl c117 (s_cmp (lt_of rfl) rfl rfl rfl) ?_
   refine tr1 rfl (s_pick_f (v := .d (.lit (.bool ((decide (20 < (order_1.length : Int))))))) (lt_of rfl) rfl c117 rfl rfl) ?_
   have h6 := Option.some.inj h6
   subst h6
   refine tr_nil (ent_keep rfl ⟨rfl, rfl, rfl, trivial⟩ rfl)
 ·refine tr1 rfl (s_move (v := .d (.lit (.bool b5))) (lt_of rfl) rfl rfl) ?_
  obtain ⟨b7, h8, h⟩ := bind_some h
  refine tr_guard 13 [1, 3, 5] 51 b7 ?_ ?_
  ·refine bool_cases (b5) (fun c116 => ?_) (fun c116 => ?_)
   ·have h8 := cond_tt c116 h8
    refine tr_pass rfl rfl (lt_of rfl) rfl (lt_of rfl) rfl c116 ?_
    refine tr_pass rfl rfl (lt_of rfl) rfl (lt_of rfl) rfl c116 ?_
    refine tr_pass rfl rfl (lt_of rfl) rfl (lt_of rfl) rfl c116 ?_
    refine tr_pass rfl rfl (lt_of rfl) rfl (lt_of rfl) rfl c116 ?_
    refine tr_pass rfl rfl (lt_of rfl) rfl (lt_of rfl) rfl c116 ?_
    refine tr_pass rfl rfl (lt_of rfl) rfl (lt_of rfl) rfl c116 ?_
    refine tr_pass rfl rfl (lt_of rfl) rfl (lt_of rfl) rfl c116 ?_
    refine tr_pass rfl rfl (lt_of rfl) rfl (lt_of rfl) rfl c116 ?_
    refine tr_pass rfl rfl (lt_of rfl) rfl (lt_of rfl) rfl c116 ?_
    refine tr_pass rfl rfl (lt_of rfl) rfl (lt_of rfl) rfl c116 ?_
    refine tr_pass rfl rfl (lt_of rfl) rfl (lt_of rfl) rfl c116 ?_
    refine tr_pass rfl rfl (lt_of rfl) rfl (lt_of rfl) rfl c116 ?_
    refine tr1 rfl (s_pick_t (v := .d (.lit (.bool true))) (lt_of rfl) rfl c116 rfl rfl) ?_
    have h8 := Option.some.inj h8
    subst h8
    refine tr_nil (ent_keep rfl ⟨rfl, rfl, rfl, trivial⟩ rfl)
   ·have h8 := cond_ff c116 h8
    refine tr_take1 rfl rfl (lt_of rfl) rfl c116 (s_field_bp (lt_of rfl) rfl fld_49_0) ?_
    refine tr_take1 rfl rfl (lt_of rfl) rfl c116 (s_load_bp (lt_of rfl) rfl (i := 1) rfl rfl one_3) ?_
    refine tr_take1 rfl rfl (lt_of rfl) rfl c116 (s_field_bp (lt_of rfl) rfl fld_49_1) ?_
    refine tr_take1 rfl rfl (lt_of rfl) rfl c116 (s_load_bp (lt_of rfl) rfl (i := 1) rfl rfl one_3) ?_
    refine tr_take1 rfl rfl (lt_of rfl) rfl c116 (s_field_bp (lt_of rfl) rfl fld_49_2) ?_
    refine tr_take1 rfl rfl (lt_of rfl) rfl c116 (s_load_bp (lt_of rfl) rfl (i := 1) rfl rfl one_3) ?_
    refine tr_take1 rfl rfl (lt_of rfl) rfl c116 (s_field_bp (lt_of rfl) rfl fld_49_3) ?_
    refine tr_take1 rfl rfl (lt_of rfl) rfl c116 (s_load_bp (lt_of rfl) rfl (i := 1) rfl rfl one_3) ?_
    refine tr_take1 rfl rfl (lt_of rfl) rfl c116 (s_field_bp (lt_of rfl) rfl fld_49_4) ?_
    refine tr_take1 rfl rfl (lt_of rfl) rfl c116 (s_load_bp (lt_of rfl) rfl (i := 1) rfl rfl one_3) ?_
    refine tr_take1 rfl rfl (lt_of rfl) rfl c116 (s_mins [x_2.Close, x_2.Rest, x_2.Length, x_2.Earliest] (lt_of rfl) rfl rfl) ?_
    refine tr_take1 rfl rfl (lt_of rfl) rfl c116 (s_cmp (lt_of rfl) rfl rfl rfl) ?_
    refine tr1 rfl (s_pick_f (v := .d (.lit (.bool ((decide ((min (min (min (min x_2.Open x_2.Close) x_2.Rest) x_2.Length) x_2.Earliest) < 0)))))) (lt_of rfl) rfl c116 rfl rfl) ?_
    have h8 := Option.some.inj h8
    subst h8
    refine tr_nil (ent_keep rfl ⟨rfl, rfl, rfl, trivial⟩ rfl)
  ·refine tr1 rfl (s_move (v := .d (.lit (.bool b7))) (lt_of rfl) rfl rfl) ?_
   obtain ⟨b9, h10, h⟩ := bind_some h
   refine tr_guard 13 [1, 3, 5] 65 b9 ?_ ?_
   ·refine bool_cases (b7) (fun c115 => ?_) (fun c115 => ?_)
    ·have h10 := cond_tt c115 h10
     refine tr_pass rfl rfl (lt_of rfl) rfl (lt_of rfl) rfl c115 ?_
     refine tr_pass rfl rfl (lt_of rfl) rfl (lt_of rfl) rfl c115 ?_
     refine tr_pass rfl rfl (lt_of rfl) rfl (lt_of rfl) rfl c115 ?_
     refine tr_pass rfl rfl (lt_of rfl) rfl (lt_of rfl) rfl c115 ?_
     refine tr_pass rfl rfl (lt_of rfl) rfl (lt_of rfl) rfl c115 ?_
     refine tr_pass rfl rfl (lt_of rfl) rfl (lt_of rfl) rfl c115 ?_
     refine tr_pass rfl rfl (lt_of rfl) rfl (lt_of rfl) rfl c115 ?_
     refine tr_pass rfl rfl (lt_of rfl) rfl (lt_of rfl) rfl c115 ?_
     refine tr_pass rfl rfl (lt_of rfl) rfl (lt_of rfl) rfl c115 ?_
     refine tr_pass rfl rfl (lt_of rfl) rfl (lt_of rfl) rfl c115 ?_
     refine tr_pass rfl rfl (lt_of rfl) rfl (lt_of rfl) rfl c115 ?_
     refine tr_pass rfl rfl (lt_of rfl) rfl (lt_of rfl) rfl c115 ?_
     refine tr1 rfl (s_pick_t (v := .d (.lit (.bool true))) (lt_of rfl) rfl c115 rfl rfl) ?_
     have h10 := Option.some.inj h10
     subst h10
     refine tr_nil (ent_keep rfl ⟨rfl, rfl, rfl, trivial⟩ rfl)
    ·have h10 := cond_ff c115 h10
     refine tr_take1 rfl rfl (lt_of rfl) rfl c115 (s_field_bp (lt_of rfl) rfl fld_49_0) ?_
     refine tr_take1 rfl rfl (lt_of rfl) rfl c115 (s_load_bp (lt_of rfl) rfl (i := 1) rfl rfl one_3) ?_
     refine tr_take1 rfl rfl (lt_of rfl) rfl c115 (s_field_bp (lt_of rfl) rfl fld_49_1) ?_
     refine tr_take1 rfl rfl (lt_of rfl) rfl c115 (s_load_bp (lt_of rfl) rfl (i := 1) rfl rfl one_3) ?_
     refine tr_take1 rfl rfl (lt_of rfl) rfl c115 (s_field_bp (lt_of rfl) rfl fld_49_2) ?_
     refine tr_take1 rfl rfl (lt_of rfl) rfl c115 (s_load_bp (lt_of rfl) rfl (i := 1) rfl rfl one_3) ?_
     refine tr_take1 rfl rfl (lt_of rfl) rfl c115 (s_field_bp (lt_of rfl) rfl fld_49_3) ?_
     refine tr_take1 rfl rfl (lt_of rfl) rfl c115 (s_load_bp (lt_of rfl) rfl (i := 1) rfl rfl one_3) ?_
     refine tr_take1 rfl rfl (lt_of rfl) rfl c115 (s_field_bp (lt_of rfl) rfl fld_49_4) ?_
     refine tr_take1 rfl rfl (lt_of rfl) rfl c115 (s_load_bp (lt_of rfl) rfl (i := 1) rfl rfl one_3) ?_
     refine tr_take1 rfl rfl (lt_of rfl) rfl c115 (s_maxs [x_2.Close, x_2.Rest, x_2.Length, x_2.Earliest] (lt_of rfl) rfl rfl) ?_
     refine tr_take1 rfl rfl (lt_of rfl) rfl c115 (s_cmp (lt_of rfl) rfl rfl rfl) ?_
     refine tr1 rfl (s_pick_f (v := .d (.lit (.bool ((decide (1440 < (max (max (max (max x_2.Open x_2.Close) x_2.Rest) x_2.Length) x_2.Earliest))))))) (lt_of rfl) rfl c115 rfl rfl) ?_
     have h10 := Option.some.inj h10
     subst h10
     refine tr_nil (ent_keep rfl ⟨rfl, rfl, rfl, trivial⟩ rfl)
   ·refine tr_nil ?_
    refine tr_if rfl (fun c11 => ?_) (fun c11 => ?_)
    ·have h := cond_tt c11 h
     refine tr_seq ?_
     refine tr_region ?_
     obtain ⟨r12, h13, h⟩ := bind_some h
     refine tr1 rfl (s_call (lt_of rfl) (.func _ _ Try.call16) rfl rfl (BVs.refl _ _) (deucelaw08_works_c h13) rfl) ?_
     refine tr1 rfl (s_assign (v := .d (.lit (.bool r12))) (lt_of rfl) rfl rfl) ?_
     refine tr_nil ?_
     have h := Option.some.inj h
     subst h
     refine tr_ent (ent_free (ble_keep (l := [6]) ⟨rfl, trivial⟩)) ?_
     exact tr_ret ⟨rfl, _, .one _, rfl, rfl⟩
    ·have h := cond_ff c11 h
     refine tr_skip ?_
     refine tr_seq ?_
     refine tr_region ?_
     refine tr1 rfl (s_loada_bp (lt_of rfl) rfl (i := 0) rfl agg_25 (es := (encApiProgram p_0)) rfl rfl) ?_
     obtain ⟨r14, h15, h⟩ := bind_some h
     refine tr_op rfl (s_callm (passed := []) (lt_of rfl) rfl (.func _ _ Try.call22) rfl rfl (deuceref08_Copy_co _ h15)) ?_
     rintro _ ⟨_, _, ⟨w16, vs17, w18, rfl, rfl⟩, rfl⟩
     refine tr_op rfl (s_alloc (zs := [.lit (.slice none 0 0), .lit (.int .i64 0), .lit (.slice none 0 0)]) (lt_of rfl) Try.zeroValue25 rfl rfl) ?_
     rintro _ ⟨b19, rfl⟩
     refine tr1 rfl (s_store_bp (i := 5) rfl rfl rfl rfl rfl Try.sizeOf25 rfl (lt_of rfl) (Nat.le_of_ble_eq_true rfl) (ds' := [.lit w16, .lit (.int .i64 r14.Rest), .lit w18]) rfl) ?_
     refine tr_nil ?_
     refine tr_seq ?_
     refine tr_region ?_
     refine tr1 rfl (s_field_bp (lt_of rfl) rfl fld_25_1) ?_
     refine tr1 rfl (s_load_bp (lt_of rfl) rfl (i := 3) rfl rfl one_3) ?_
     refine tr1 rfl (s_field_bp (lt_of rfl) rfl fld_49_2) ?_
     refine tr1 rfl (s_load_bp (lt_of rfl) rfl (i := 4) rfl rfl one_3) ?_
     refine tr1 rfl (s_arith (lt_of rfl) rfl rfl rfl) ?_
     refine tr1 rfl (s_max (lt_of rfl) rfl rfl) ?_
     refine tr1 rfl (s_field_bp (lt_of rfl) rfl fld_25_1) ?_
     refine tr1 rfl (s_store_bp (i := 5) rfl rfl rfl rfl rfl Try.sizeOf3 rfl (lt_of rfl) (Nat.le_of_ble_eq_true rfl) (ds' := [.lit w16, .lit (.int .i64 ((max 0 (w64 (p_0.Rest - x_2.Rest))))), .lit w18]) rfl) ?_
     refine tr_nil ?_
     refine tr_seq ?_
     refine tr_seq ?_
     refine tr_region ?_
     refine tr1 rfl (s_assign (v := .d (.lit (.int .i64 0))) (lt_of rfl) rfl rfl) ?_
     refine tr_nil ?_
     refine tr_blk ?_
     refine tr_loopk [1, 3, 5, 7] (fun (s20 : Int × (List (List ApiSpan)) × (List Value)) => [(8, .d (.lit (.int .i64 s20.1)))]) (fun (s20 : Int × (List (List ApiSpan)) × (List Value)) => [.box b1 0 (encApiProgram p_0), .box b2 0 (encDeucelaw08Ease x_2), .box b19 0 [.lit w16, .lit (.int .i64 ((max 0 (w64 (p_0.Rest - x_2.Rest))))), .lit w18], .fam 34 2 s20.2.2 (s20.2.1.map fun r => r.map encApiSpan), .arr w18 36 6 (r14.Jobs.map encApiJob), .arr w16 37 1 (s20.2.2.map fun v => [.lit v])]) (fun (k : Nat) (s20 : Int × (List (List ApiSpan)) × (List Value)) => deucelaw08_PlayEasier_L0 order_1 p_0 x_2 (max 0 (w64 (p_0.Rest - x_2.Rest))) r14.Jobs k s20.1 s20.2.1) (fun _ => rfl) (0, r14.Days, vs17) h (ent_pick [3, 4, 5, 1, 2, 0] rfl rfl (le_upd rfl (le_keep ⟨rfl, rfl, rfl, rfl, trivial⟩))) ?_
     rintro k22 ⟨d_0_20, o68_0_20, vs21⟩ h
     simp only [deucelaw08_PlayEasier_L0] at h
     refine tr_seq ?_
     refine tr_seq ?_
     refine tr_region ?_
     refine tr1 rfl (s_move (v := .d (.lit (.int .i64 d_0_20))) (lt_of rfl) rfl rfl) ?_
     refine tr1 rfl (s_field_bp (lt_of rfl) rfl fld_25_0) ?_
     refine tr1 rfl (s_load_bp (lt_of rfl) rfl (i := 2) rfl rfl one_22) ?_
     refine tr1 rfl (s_len_fam (m := 5) (f := 3) (lt_of rfl) rfl rfl rfl sl_22.of) ?_
     refine tr1 rfl (s_cmp (lt_of rfl) rfl rfl rfl) ?_
     refine tr_nil ?_
     refine tr_if rfl (fun c23 => ?_) (fun c23 => ?_)
     ·have h := cond_tt c23 h
      refine tr_skip ?_
      refine tr_seq ?_
      refine tr_blk ?_
      refine tr_seq ?_
      refine tr_region ?_
      refine tr1 rfl (s_assign (v := .d (.lit (.int .i64 0))) (lt_of rfl) rfl rfl) ?_
      refine tr_nil ?_
      refine tr_blkb ?_
      refine tr_loopk [1, 3, 5, 7, 8] (fun (s24 : Int × (List (List ApiSpan)) × (List Value)) => [(9, .d (.lit (.int .i64 s24.1)))]) (fun (s24 : Int × (List (List ApiSpan)) × (List Value)) => [.box b1 0 (encApiProgram p_0), .box b2 0 (encDeucelaw08Ease x_2), .box b19 0 [.lit w16, .lit (.int .i64 ((max 0 (w64 (p_0.Rest - x_2.Rest))))), .lit w18], .fam 34 2 s24.2.2 (s24.2.1.map fun r => r.map encApiSpan), .arr w18 36 6 (r14.Jobs.map encApiJob), .arr w16 37 1 (s24.2.2.map fun v => [.lit v])]) (fun (k : Nat) (s24 : Int × (List (List ApiSpan)) × (List Value)) => deucelaw08_PlayEasier_L2 (deucelaw08_PlayEasier_L0 order_1 p_0 x_2 (max 0 (w64 (p_0.Rest - x_2.Rest))) r14.Jobs k22) order_1 d_0_20 p_0 x_2 (max 0 (w64 (p_0.Rest - x_2.Rest))) r14.Jobs k s24.1 s24.2.1) (fun _ => rfl) (0, o68_0_20, vs21) h (ent_pick [0, 1, 2, 3, 4, 5] rfl rfl (le_upd rfl (le_keep ⟨rfl, rfl, rfl, rfl, rfl, trivial⟩))) ?_
      rintro k26 ⟨c_2_24, o68_2_24, vs25⟩ h
      simp only [deucelaw08_PlayEasier_L2] at h
      refine tr_seq ?_
      refine tr_seq ?_
      refine tr_region ?_
      refine tr1 rfl (s_move (v := .d (.lit (.int .i64 c_2_24))) (lt_of rfl) rfl rfl) ?_
      refine tr1 rfl (s_field_bp (lt_of rfl) rfl fld_25_0) ?_
      refine tr1 rfl (s_load_bp (lt_of rfl) rfl (i := 2) rfl rfl one_22) ?_
      refine tr1 rfl (s_move (v := .d (.lit (.int .i64 d_0_20))) (lt_of rfl) rfl rfl) ?_
      obtain ⟨x27, h28, h⟩ := bind_some h
      refine tr1 rfl (s_index_famd (m := 5) (f := 3) (lt_of rfl) rfl rfl rfl rfl sl_22.of h28) ?_
      refine tr1 rfl (s_load_famd (m := 5) (f := 3) (lt_of rfl) rfl rfl rfl h28 one_37) ?_
      refine tr1 rfl (s_len_ind (f := 3) (lt_of rfl) rfl rfl h28 sl_37.of) ?_
      refine tr1 rfl (s_cmp (lt_of rfl) rfl rfl rfl) ?_
      refine tr_nil ?_
      refine tr_if rfl (fun c29 => ?_) (fun c29 => ?_)
      ·have h := cond_tt c29 h
       refine tr_skip ?_
       refine tr_seq ?_
       refine tr_blk ?_
       refine tr_seq ?_
       refine tr_region ?_
       refine tr1 rfl (s_field_bp (lt_of rfl) rfl fld_25_0) ?_
       refine tr1 rfl (s_load_bp (lt_of rfl) rfl (i := 2) rfl rfl one_22) ?_
       refine tr1 rfl (s_move (v := .d (.lit (.int .i64 d_0_20))) (lt_of rfl) rfl rfl) ?_
       obtain ⟨x30, h31, h⟩ := bind_some h
       refine tr1 rfl (s_index_famd (m := 5) (f := 3) (lt_of rfl) rfl rfl rfl rfl sl_22.of h31) ?_
       refine tr1 rfl (s_load_famd (m := 5) (f := 3) (lt_of rfl) rfl rfl rfl h31 one_37) ?_
       refine tr1 rfl (s_move (v := .d (.lit (.int .i64 c_2_24))) (lt_of rfl) rfl rfl) ?_
       obtain ⟨x32, h33, h⟩ := bind_some h
       refine tr1 rfl (s_index_ind (f := 3) (g := encApiSpan) (lt_of rfl) rfl rfl h31 rfl sl_37.of h33) ?_
       refine tr1 rfl (s_loada_ind (f := 3) (g := encApiSpan) (lt_of rfl) rfl rfl h31 h33 agg_34 (es := (encApiSpan x32)) rfl rfl) ?_
       refine tr_op rfl (s_alloc (zs := [.lit (.int .i64 0), .lit (.int .i64 0)]) (lt_of rfl) Try.zeroValue34 rfl rfl) ?_
       rintro _ ⟨b34, rfl⟩
       refine tr1 rfl (s_store_bp (i := 6) rfl rfl rfl rfl rfl Try.sizeOf34 rfl (lt_of rfl) (Nat.le_of_ble_eq_true rfl) (ds' := (encApiSpan x32)) rfl) ?_
       refine tr_nil ?_
       obtain ⟨x35, h36, h⟩ := bind_some h
       refine tr_drawk mix 19 [1, 3, 5, 7, 8, 9] [(105, .d (.lit (famv vs25 d_0_20))), (106, .d (.lit (.int .i64 c_2_24))), (119, .agg (encApiSpan (ApiSpan.mk (max 0 (w64 (x32.Low - x_2.Open))) (min 1440 (w64 (x32.High + x_2.Close))))))] ?_ ?_
       ·refine ⟨[(101, 0, .bp b19 0 0), (102, 1, .d (.lit w16)), (103, 2, .d (.lit (.int .i64 d_0_20))), (104, 3, .ep w16 1 d_0_20.toNat 0), (105, 4, .d (.lit (famv vs25 d_0_20))), (106, 5, .d (.lit (.int .i64 c_2_24))), (107, 6, .bp b34 0 0), (108, 7, .d (.lit (.int .i64 x32.Low))), (109, 8, .bp b2 0 0), (110, 9, .d (.lit (.int .i64 x_2.Open))), (111, 10, .d (.lit (.int .i64 ((w64 (x32.Low - x_2.Open)))))), (112, 11, .d (.lit (.int .i64 ((max 0 (w64 (x32.Low - x_2.Open))))))), (113, 12, .bp b34 0 1), (114, 13, .d (.lit (.int .i64 x32.High))), (115, 14, .bp b2 0 1), (116, 15, .d (.lit (.int .i64 x_2.Close))), (117, 16, .d (.lit (.int .i64 ((w64 (x32.High + x_2.Close)))))), (118, 17, .d (.lit (.int .i64 ((min 1440 (w64 (x32.High + x_2.Close))))))), (119, 18, .agg (encApiSpan (ApiSpan.mk (max 0 (w64 (x32.Low - x_2.Open))) (min 1440 (w64 (x32.High + x_2.Close))))))], ?_, ?_⟩
        · exact ⟨by kernel_rfl, by kernel_rfl, by kernel_rfl, by kernel_rfl, by kernel_rfl, [([], []), ([0], []), ([], []), ([1, 2], []), ([3], []), ([], []), ([], []), ([6], []), ([], []), ([8], []), ([7, 9], []), ([10], []), ([], []), ([12], []), ([], []), ([14], []), ([13, 15], []), ([16], []), ([11, 17], [])], by kernel_rfl, ⟨fun S hS => g_fin rfl (g_op rfl (s_field_bp (lt_of rfl) (ov_ev hS rfl) fld_25_0)),
      fun S hS => g_fin rfl (g_op rfl (s_load_bp (lt_of rfl) (ov_ev hS rfl) (i := 2) rfl rfl one_22)),
      fun S hS => g_fin rfl (g_op rfl (s_move (v := .d (.lit (.int .i64 d_0_20))) (lt_of rfl) (ov_ev hS rfl) rfl)),
      fun S hS => g_fin rfl (g_op rfl (s_index_famd (m := 5) (f := 3) (lt_of rfl) (ov_ev hS rfl) rfl rfl (ov_ev hS rfl) sl_22.of h36)),
      fun S hS => g_fin rfl (g_op rfl (s_load_famd (m := 5) (f := 3) (lt_of rfl) (ov_ev hS rfl) rfl rfl h36 one_37)),
      fun S hS => g_fin rfl (g_op rfl (s_move (v := .d (.lit (.int .i64 c_2_24))) (lt_of rfl) (ov_ev hS rfl) rfl)),
      fun S hS => g_fin rfl (g_op rfl (s_field_bp (lt_of rfl) (ov_ev hS rfl) fld_34_0)),
      fun S hS => g_fin rfl (g_op rfl (s_load_bp (lt_of rfl) (ov_ev hS rfl) (i := 6) rfl rfl one_3)),
      fun S hS => g_fin rfl (g_op rfl (s_field_bp (lt_of rfl) (ov_ev hS rfl) fld_49_0)),
      fun S hS => g_fin rfl (g_op rfl (s_load_bp (lt_of rfl) (ov_ev hS rfl) (i := 1) rfl rfl one_3)),
      fun S hS => g_fin rfl (g_op rfl (s_arith (lt_of rfl) (ov_ev hS rfl) (ov_ev hS rfl) rfl)),
      fun S hS => g_fin rfl (g_op rfl (s_max (lt_of rfl) rfl (ov_ev hS rfl))),
      fun S hS => g_fin rfl (g_op rfl (s_field_bp (lt_of rfl) (ov_ev hS rfl) fld_34_1)),
      fun S hS => g_fin rfl (g_op rfl (s_load_bp (lt_of rfl) (ov_ev hS rfl) (i := 6) rfl rfl one_3)),
      fun S hS => g_fin rfl (g_op rfl (s_field_bp (lt_of rfl) (ov_ev hS rfl) fld_49_1)),
      fun S hS => g_fin rfl (g_op rfl (s_load_bp (lt_of rfl) (ov_ev hS rfl) (i := 1) rfl rfl one_3)),
      fun S hS => g_fin rfl (g_op rfl (s_arith (lt_of rfl) (ov_ev hS rfl) (ov_ev hS rfl) rfl)),
      fun S hS => g_fin rfl (g_op rfl (s_min (lt_of rfl) rfl (ov_ev hS rfl))),
      fun S hS => g_fin rfl (g_op rfl (s_build (lt_of rfl) stu_34 (zs := [.lit (.int .i64 0), .lit (.int .i64 0)]) rfl rfl rfl (pa2 (ov_ev hS rfl) (pa2 (ov_ev hS rfl) pan)) (es := [.lit (.int .i64 ((max 0 (w64 (x32.Low - x_2.Open))))), .lit (.int .i64 ((min 1440 (w64 (x32.High + x_2.Close)))))]) rfl)), trivial⟩⟩
        · exact ent_le (le_upd rfl (le_upd rfl (le_upd rfl (le_keep ⟨rfl, rfl, rfl, rfl, rfl, rfl, trivial⟩))))
       ·obtain ⟨x37, h38, h⟩ := bind_some h
        refine tr1 rfl (s_index_ind (f := 3) (g := encApiSpan) (lt_of rfl) rfl rfl h36 rfl sl_37.of h38) ?_
        refine tr1 rfl (s_store_ind (f := 3) (g := encApiSpan) rfl rfl h36 h38 rfl rfl rfl Try.sizeOf34 rfl (lt_of rfl) (Nat.le_of_ble_eq_true rfl) (a' := (ApiSpan.mk (max 0 (w64 (x32.Low - x_2.Open))) (min 1440 (w64 (x32.High + x_2.Close))))) rfl (c' := (o68_2_24.set d_0_20.toNat (x35.set c_2_24.toNat (ApiSpan.mk (max 0 (w64 (x32.Low - x_2.Open))) (min 1440 (w64 (x32.High + x_2.Close))))))) rfl) ?_
        refine tr_nilb ?_
        refine tr_region ?_
        refine tr1 rfl (s_move (v := .d (.lit (.int .i64 c_2_24))) (lt_of rfl) rfl rfl) ?_
        refine tr1 rfl (s_arith (lt_of rfl) rfl rfl rfl) ?_
        refine tr1 rfl (s_assign (v := .d (.lit (.int .i64 ((w64 (c_2_24 + 1)))))) (lt_of rfl) rfl rfl) ?_
        refine tr_nil ?_
        exact ⟨(w64 (c_2_24 + 1), (o68_2_24.set d_0_20.toNat (x35.set c_2_24.toNat (ApiSpan.mk (max 0 (w64 (x32.Low - x_2.Open))) (min 1440 (w64 (x32.High + x_2.Close)))))), vs25), h, ent_pick [0, 1, 2, 3, 4, 5] rfl rfl (le_upd rfl (le_keep ⟨rfl, rfl, rfl, rfl, rfl, trivial⟩))⟩
      ·have h := cond_ff c29 h
       refine tr_exit ?_
       refine .inl ⟨rfl, ?_⟩
       simp only [deucelaw08_PlayEasier_K2] at h
       simp only [deucelaw08_PlayEasier_K1] at h
       refine tr_region ?_
       refine tr1 rfl (s_move (v := .d (.lit (.int .i64 d_0_20))) (lt_of rfl) rfl rfl) ?_
       refine tr1 rfl (s_arith (lt_of rfl) rfl rfl rfl) ?_
       refine tr1 rfl (s_assign (v := .d (.lit (.int .i64 ((w64 (d_0_20 + 1)))))) (lt_of rfl) rfl rfl) ?_
       refine tr_nil ?_
       exact ⟨(w64 (d_0_20 + 1), o68_2_24, vs25), h, ent_pick [0, 1, 2, 3, 4, 5] rfl rfl (le_upd rfl (le_keep ⟨rfl, rfl, rfl, rfl, trivial⟩))⟩
     ·have h := cond_ff c23 h
      refine tr_exit ?_
      refine .inl ⟨rfl, ?_⟩
      simp only [deucelaw08_PlayEasier_K0] at h
      refine tr_seq ?_
      refine tr_seq ?_
      refine tr_region ?_
      refine tr1 rfl (s_assign (v := .d (.lit (.int .i64 0))) (lt_of rfl) rfl rfl) ?_
      refine tr_nil ?_
      refine tr_blk ?_
      refine tr_loopk [1, 3, 5, 7] (fun (s39 : Int × (List ApiJob) × Value) => [(11, .d (.lit (.int .i64 s39.1)))]) (fun (s39 : Int × (List ApiJob) × Value) => [.box b1 0 (encApiProgram p_0), .box b2 0 (encDeucelaw08Ease x_2), .box b19 0 [.lit w16, .lit (.int .i64 ((max 0 (w64 (p_0.Rest - x_2.Rest))))), .lit s39.2.2], .fam 34 2 vs21 (o68_0_20.map fun r => r.map encApiSpan), .arr s39.2.2 36 6 (s39.2.1.map encApiJob), .arr w16 37 1 (vs21.map fun v => [.lit v])]) (fun (k : Nat) (s39 : Int × (List ApiJob) × Value) => deucelaw08_PlayEasier_L4 order_1 p_0 x_2 (max 0 (w64 (p_0.Rest - x_2.Rest))) o68_0_20 k s39.1 s39.2.1) (fun _ => rfl) (0, r14.Jobs, w18) h (ent_pick [0, 1, 2, 3, 4, 5] rfl rfl (le_upd rfl (le_keep ⟨rfl, rfl, rfl, rfl, trivial⟩))) ?_
      rintro k41 ⟨i_4_39, o68_4_39_2, w40⟩ h
      simp only [deucelaw08_PlayEasier_L4] at h
      refine tr_seq ?_
      refine tr_seq ?_
      refine tr_region ?_
      refine tr1 rfl (s_move (v := .d (.lit (.int .i64 i_4_39))) (lt_of rfl) rfl rfl) ?_
      refine tr1 rfl (s_field_bp (lt_of rfl) rfl fld_25_2) ?_
      refine tr1 rfl (s_load_bp (lt_of rfl) rfl (i := 2) rfl rfl one_23) ?_
      refine tr1 rfl (s_lenm_arr (m := 4) (lt_of rfl) rfl rfl sl_23.of) ?_
      refine tr1 rfl (s_cmp (lt_of rfl) rfl rfl rfl) ?_
      refine tr_nil ?_
      refine tr_if rfl (fun c42 => ?_) (fun c42 => ?_)
      ·have h := cond_tt c42 h
       refine tr_skip ?_
       refine tr_seq ?_
       refine tr_blk ?_
       refine tr_seq ?_
       refine tr_region ?_
       refine tr1 rfl (s_field_bp (lt_of rfl) rfl fld_25_2) ?_
       refine tr1 rfl (s_load_bp (lt_of rfl) rfl (i := 2) rfl rfl one_23) ?_
       refine tr1 rfl (s_move (v := .d (.lit (.int .i64 i_4_39))) (lt_of rfl) rfl rfl) ?_
       obtain ⟨x43, h44, h⟩ := bind_some h
       refine tr1 rfl (s_index_arr (m := 4) (lt_of rfl) rfl rfl rfl sl_23.of (idx_map encApiJob h44)) ?_
       refine tr1 rfl (s_field_ep (lt_of rfl) rfl fld_36_0) ?_
       refine tr1 rfl (s_loada_ep (lt_of rfl) rfl (l := 4) rfl (row_of encApiJob h44) agg_34 (es := (encApiSpan x43.Length)) rfl rfl) ?_
       refine tr_op rfl (s_alloc (zs := [.lit (.int .i64 0), .lit (.int .i64 0)]) (lt_of rfl) Try.zeroValue34 rfl rfl) ?_
       rintro _ ⟨b45, rfl⟩
       refine tr1 rfl (s_store_bp (i := 6) rfl rfl rfl rfl rfl Try.sizeOf34 rfl (lt_of rfl) (Nat.le_of_ble_eq_true rfl) (ds' := (encApiSpan x43.Length)) rfl) ?_
       refine tr_nil ?_
       refine tr_seq ?_
       refine tr_region ?_
       refine tr1 rfl (s_field_bp (lt_of rfl) rfl fld_25_2) ?_
       refine tr1 rfl (s_load_bp (lt_of rfl) rfl (i := 2) rfl rfl one_23) ?_
       refine tr1 rfl (s_move (v := .d (.lit (.int .i64 i_4_39))) (lt_of rfl) rfl rfl) ?_
       refine tr1 rfl (s_field_bp (lt_of rfl) rfl fld_34_0) ?_
       refine tr1 rfl (s_load_bp (lt_of rfl) rfl (i := 6) rfl rfl one_3) ?_
       refine tr1 rfl (s_field_bp (lt_of rfl) rfl fld_34_1) ?_
       refine tr1 rfl (s_load_bp (lt_of rfl) rfl (i := 6) rfl rfl one_3) ?_
       refine tr1 rfl (s_field_bp (lt_of rfl) rfl fld_49_3) ?_
       refine tr1 rfl (s_load_bp (lt_of rfl) rfl (i := 1) rfl rfl one_3) ?_
       refine tr1 rfl (s_arith (lt_of rfl) rfl rfl rfl) ?_
       refine tr1 rfl (s_max (lt_of rfl) rfl rfl) ?_
       obtain ⟨x46, h47, h⟩ := bind_some h
       refine tr1 rfl (s_index_arr (m := 4) (lt_of rfl) rfl rfl rfl sl_23.of (idx_map encApiJob h47)) ?_
       refine tr1 rfl (s_field_ep (lt_of rfl) rfl fld_36_0) ?_
       refine tr1 rfl (s_field_ep (lt_of rfl) rfl fld_34_1) ?_
       refine tr1 rfl (s_store_ep (l := 4) rfl rfl (row_of encApiJob h47) rfl rfl rfl Try.sizeOf3 rfl (lt_of rfl) (Nat.le_of_ble_eq_true rfl) (rows' := ((o68_4_39_2.set i_4_39.toNat (ApiJob.mk (ApiSpan.mk x46.Length.Low (max x43.Length.Low (w64 (x43.Length.High - x_2.Length)))) x46.After x46.With x46.Due x46.Earliest))).map encApiJob) (set_map _ _ _ _ rfl)) ?_
       refine tr_nil ?_
       obtain ⟨x48, h49, h⟩ := bind_some h
       refine tr_drawk mix 13 [1, 3, 5, 7, 11] [(149, .d (.lit w40)), (150, .d (.lit (.int .i64 i_4_39))), (160, .d (.lit (.int .i64 ((max 0 (w64 (x48.Earliest - x_2.Earliest)))))))] ?_ ?_
       ·refine ⟨[(148, 0, .bp b19 0 2), (149, 1, .d (.lit w40)), (150, 2, .d (.lit (.int .i64 i_4_39))), (151, 3, .bp b19 0 2), (152, 4, .d (.lit w40)), (153, 5, .d (.lit (.int .i64 i_4_39))), (154, 6, .ep w40 6 i_4_39.toNat 0), (155, 7, .ep w40 6 i_4_39.toNat 5), (156, 8, .d (.lit (.int .i64 x48.Earliest))), (157, 9, .bp b2 0 4), (158, 10, .d (.lit (.int .i64 x_2.Earliest))), (159, 11, .d (.lit (.int .i64 ((w64 (x48.Earliest - x_2.Earliest)))))), (160, 12, .d (.lit (.int .i64 ((max 0 (w64 (x48.Earliest - x_2.Earliest)))))))], ?_, ?_⟩
        · exact ⟨by kernel_rfl, by kernel_rfl, by kernel_rfl, by kernel_rfl, by kernel_rfl, [([], []), ([0], []), ([], []), ([], []), ([3], []), ([], []), ([4, 5], []), ([6], []), ([7], []), ([], []), ([9], []), ([8, 10], []), ([11], [])], by kernel_rfl, ⟨fun S hS => g_fin rfl (g_op rfl (s_field_bp (lt_of rfl) (ov_ev hS rfl) fld_25_2)),
      fun S hS => g_fin rfl (g_op rfl (s_load_bp (lt_of rfl) (ov_ev hS rfl) (i := 2) rfl rfl one_23)),
      fun S hS => g_fin rfl (g_op rfl (s_move (v := .d (.lit (.int .i64 i_4_39))) (lt_of rfl) (ov_ev hS rfl) rfl)),
      fun S hS => g_fin rfl (g_op rfl (s_field_bp (lt_of rfl) (ov_ev hS rfl) fld_25_2)),
      fun S hS => g_fin rfl (g_op rfl (s_load_bp (lt_of rfl) (ov_ev hS rfl) (i := 2) rfl rfl one_23)),
      fun S hS => g_fin rfl (g_op rfl (s_move (v := .d (.lit (.int .i64 i_4_39))) (lt_of rfl) (ov_ev hS rfl) rfl)),
      fun S hS => g_fin rfl (g_op rfl (s_index_arr (m := 4) (lt_of rfl) (ov_ev hS rfl) rfl (ov_ev hS rfl) sl_23.of (idx_map encApiJob h49))),
      fun S hS => g_fin rfl (g_op rfl (s_field_ep (lt_of rfl) (ov_ev hS rfl) fld_36_4)),
      fun S hS => g_fin rfl (g_op rfl (s_load_ep (lt_of rfl) (ov_ev hS rfl) (m := 4) rfl (row_of encApiJob h49) rfl one_3)),
      fun S hS => g_fin rfl (g_op rfl (s_field_bp (lt_of rfl) (ov_ev hS rfl) fld_49_4)),
      fun S hS => g_fin rfl (g_op rfl (s_load_bp (lt_of rfl) (ov_ev hS rfl) (i := 1) rfl rfl one_3)),
      fun S hS => g_fin rfl (g_op rfl (s_arith (lt_of rfl) (ov_ev hS rfl) (ov_ev hS rfl) rfl)),
      fun S hS => g_fin rfl (g_op rfl (s_max (lt_of rfl) rfl (ov_ev hS rfl))), trivial⟩⟩
        · exact ent_le (le_upd rfl (le_upd rfl (le_upd rfl (le_keep ⟨rfl, rfl, rfl, rfl, rfl, trivial⟩))))
       ·obtain ⟨x50, h51, h⟩ := bind_some h
        refine tr1 rfl (s_index_arr (m := 4) (lt_of rfl) rfl rfl rfl sl_23.of (idx_map encApiJob h51)) ?_
        refine tr1 rfl (s_field_ep (lt_of rfl) rfl fld_36_4) ?_
        refine tr1 rfl (s_store_ep (l := 4) rfl rfl (row_of encApiJob h51) rfl rfl rfl Try.sizeOf3 rfl (lt_of rfl) (Nat.le_of_ble_eq_true rfl) (rows' := (((o68_4_39_2.set i_4_39.toNat (ApiJob.mk (ApiSpan.mk x46.Length.Low (max x43.Length.Low (w64 (x43.Length.High - x_2.Length)))) x46.After x46.With x46.Due x46.Earliest)).set i_4_39.toNat (ApiJob.mk x50.Length x50.After x50.With x50.Due (max 0 (w64 (x48.Earliest - x_2.Earliest)))))).map encApiJob) (set_map _ _ _ _ rfl)) ?_
        refine tr_nilb ?_
        refine tr_region ?_
        refine tr1 rfl (s_move (v := .d (.lit (.int .i64 i_4_39))) (lt_of rfl) rfl rfl) ?_
        refine tr1 rfl (s_arith (lt_of rfl) rfl rfl rfl) ?_
        refine tr1 rfl (s_assign (v := .d (.lit (.int .i64 ((w64 (i_4_39 + 1)))))) (lt_of rfl) rfl rfl) ?_
        refine tr_nil ?_
        exact ⟨(w64 (i_4_39 + 1), ((o68_4_39_2.set i_4_39.toNat (ApiJob.mk (ApiSpan.mk x46.Length.Low (max x43.Length.Low (w64 (x43.Length.High - x_2.Length)))) x46.After x46.With x46.Due x46.Earliest)).set i_4_39.toNat (ApiJob.mk x50.Length x50.After x50.With x50.Due (max 0 (w64 (x48.Earliest - x_2.Earliest))))), w40), h, ent_pick [0, 1, 2, 3, 4, 5] rfl rfl (le_upd rfl (le_keep ⟨rfl, rfl, rfl, rfl, trivial⟩))⟩
      ·have h := cond_ff c42 h
       refine tr_exit ?_
       refine .inl ⟨rfl, ?_⟩
       simp only [deucelaw08_PlayEasier_K4] at h
       refine tr_seq ?_
       refine tr_region ?_
       refine tr1 rfl (s_loada_bp (lt_of rfl) rfl (i := 0) rfl agg_25 (es := (encApiProgram p_0)) rfl rfl) ?_
       obtain ⟨r52, h53, h⟩ := bind_some h
       refine tr1 rfl (s_call (lt_of rfl) (.func _ _ Try.call23) rfl rfl (BVs.refl _ _) (play_Days_c _ h53) rfl) ?_
       refine tr1 rfl (s_move (v := .tup [.d (.lit (.int .i64 r52.1)), .d (.lit (.int .i64 r52.2))]) (lt_of rfl) rfl rfl) ?_
       refine tr1 rfl (s_extract (lt_of rfl) rfl rfl) ?_
       refine tr1 rfl (s_extract (lt_of rfl) rfl rfl) ?_
       refine tr1 rfl (s_assign (v := .d (.lit (.int .i64 r52.1))) (lt_of rfl) rfl rfl) ?_
       refine tr1 rfl (s_assign (v := .d (.lit (.int .i64 r52.2))) (lt_of rfl) rfl rfl) ?_
       refine tr_nil ?_
       refine tr_seq ?_
       refine tr_region ?_
       refine tr1 rfl (s_loada_bp (lt_of rfl) rfl (i := 2) rfl agg_25 (es := [.lit w16, .lit (.int .i64 ((max 0 (w64 (p_0.Rest - x_2.Rest))))), .lit w40]) rfl rfl) ?_
       obtain ⟨r54, h55, h⟩ := bind_some h
       refine tr1 rfl (s_call (lt_of rfl) (.func _ _ Try.call23) rfl rfl (.cons (.agg (dvc (dv_fam 5 3 rfl rfl (h := encSl_ApiSpan) (fun _ => rfl)) (dvc (.same _) (dvc (dv_arr 4 rfl (map_len (f := encApiJob) fun _ => rfl)) dvn)))) .nil) (play_Days_c _ h55) rfl) ?_
       refine tr1 rfl (s_move (v := .tup [.d (.lit (.int .i64 r54.1)), .d (.lit (.int .i64 r54.2))]) (lt_of rfl) rfl rfl) ?_
       refine tr1 rfl (s_extract (lt_of rfl) rfl rfl) ?_
       refine tr1 rfl (s_extract (lt_of rfl) rfl rfl) ?_
       refine tr1 rfl (s_assign (v := .d (.lit (.int .i64 r54.1))) (lt_of rfl) rfl rfl) ?_
       refine tr1 rfl (s_assign (v := .d (.lit (.int .i64 r54.2))) (lt_of rfl) rfl rfl) ?_
       refine tr_nil ?_
       refine tr_seq ?_
       refine tr_seq ?_
       refine tr_region ?_
       refine tr1 rfl (s_move (v := .d (.lit (.int .i64 r52.2))) (lt_of rfl) rfl rfl) ?_
       refine tr1 rfl (s_cmp (lt_of rfl) rfl rfl rfl) ?_
       refine tr1 rfl (s_move (v := .d (.lit (.bool ((decide (r52.2 = 0)))))) (lt_of rfl) rfl rfl) ?_
       obtain ⟨b56, h57, h⟩ := bind_some h
       refine tr_guard 8 [1, 3, 7] 183 b56 ?_ ?_
       ·refine bool_cases (decide (r52.2 = 0)) (fun c111 => ?_) (fun c111 => ?_)
        ·have h57 := cond_tt c111 h57
         refine tr_take1 rfl rfl (lt_of rfl) rfl c111 (s_move (v := .d (.lit (.int .i64 r54.2))) (lt_of rfl) rfl rfl) ?_
         refine tr_take1 rfl rfl (lt_of rfl) rfl c111 (s_cmp (lt_of rfl) rfl rfl rfl) ?_
         refine tr_take1 rfl rfl (lt_of rfl) rfl c111 (s_move (v := .d (.lit (.bool ((!decide (r54.2 = 0)))))) (lt_of rfl) rfl rfl) ?_
         obtain ⟨b112, h113, h57⟩ := bind_some h57
         refine tr_guard 4 [1, 3, 7, 175] 182 b112 ?_ ?_
         ·refine bool_cases (!decide (r54.2 = 0)) (fun c114 => ?_) (fun c114 => ?_)
          ·have h113 := cond_tt c114 h113
           refine tr_pass rfl rfl (lt_of rfl) rfl (lt_of rfl) rfl c114 ?_
           refine tr_pass rfl rfl (lt_of rfl) rfl (lt_of rfl) rfl c114 ?_
           refine tr_pass rfl rfl (lt_of rfl) rfl (lt_of rfl) rfl c114 ?_
           refine tr_take1 rfl rfl (lt_of rfl) rfl c111 (s_pick_t (v := .d (.lit (.bool true))) (lt_of rfl) rfl c114 rfl rfl) ?_
           have h113 := Option.some.inj h113
           subst h113
           refine tr_nil (ent_keep rfl ⟨rfl, rfl, rfl, rfl, trivial⟩ rfl)
          ·have h113 := cond_ff c114 h113
           refine tr_take1 rfl rfl (lt_of rfl) rfl c114 (s_move (v := .d (.lit (.int .i64 r54.1))) (lt_of rfl) rfl rfl) ?_
           refine tr_take1 rfl rfl (lt_of rfl) rfl c114 (s_move (v := .d (.lit (.int .i64 r52.1))) (lt_of rfl) rfl rfl) ?_
           refine tr_take1 rfl rfl (lt_of rfl) rfl c114 (s_cmp (lt_of rfl) rfl rfl rfl) ?_
           refine tr_take1 rfl rfl (lt_of rfl) rfl c111 (s_pick_f (v := .d (.lit (.bool ((decide (r52.1 < r54.1)))))) (lt_of rfl) rfl c114 rfl rfl) ?_
           have h113 := Option.some.inj h113
           subst h113
           refine tr_nil (ent_keep rfl ⟨rfl, rfl, rfl, rfl, trivial⟩ rfl)
         ·refine tr1 rfl (s_pick_t (v := .d (.lit (.bool b112))) (lt_of rfl) rfl c111 rfl rfl) ?_
          have h57 := Option.some.inj h57
          subst h57
          refine tr_nil (ent_keep rfl ⟨rfl, rfl, rfl, trivial⟩ rfl)
        ·have h57 := cond_ff c111 h57
         refine tr_pass rfl rfl (lt_of rfl) rfl (lt_of rfl) rfl c111 ?_
         refine tr_pass rfl rfl (lt_of rfl) rfl (lt_of rfl) rfl c111 ?_
         refine tr_pass rfl rfl (lt_of rfl) rfl (lt_of rfl) rfl c111 ?_
         refine tr_pass' rfl rfl (lt_of rfl) rfl (lt_of rfl) rfl ?_
         refine tr_pass' rfl rfl (lt_of rfl) rfl (lt_of rfl) rfl ?_
         refine tr_pass' rfl rfl (lt_of rfl) rfl (lt_of rfl) rfl ?_
         refine tr_pass rfl rfl (lt_of rfl) rfl (lt_of rfl) rfl c111 ?_
         refine tr1 rfl (s_pick_f (v := .d (.lit (.bool false))) (lt_of rfl) rfl c111 rfl rfl) ?_
         have h57 := Option.some.inj h57
         subst h57
         refine tr_nil (ent_keep rfl ⟨rfl, rfl, rfl, trivial⟩ rfl)
       ·refine tr_nil ?_
        refine tr_if rfl (fun c58 => ?_) (fun c58 => ?_)
        ·have h := cond_tt c58 h
         refine tr_seq ?_
         refine tr_region ?_
         refine tr1 rfl (s_assign (v := .d (.lit (.bool false))) (lt_of rfl) rfl rfl) ?_
         refine tr_nil ?_
         have h := Option.some.inj h
         subst h
         refine tr_ent (ent_free (ble_keep (l := [6]) ⟨rfl, trivial⟩)) ?_
         exact tr_ret ⟨rfl, _, .one _, rfl, rfl⟩
        ·have h := cond_ff c58 h
         refine tr_skip ?_
         refine tr_seq ?_
         refine tr_seq ?_
         refine tr_region ?_
         refine tr1 rfl (s_loada_bp (lt_of rfl) rfl (i := 0) rfl agg_25 (es := (encApiProgram p_0)) rfl rfl) ?_
         refine tr1 rfl (s_move (v := .d (.sl 3 (order_1.map encApiSeat))) (lt_of rfl) rfl rfl) ?_
         obtain ⟨r59, h60, h⟩ := bind_some h
         refine tr1 rfl (s_call (lt_of rfl) (.func _ _ Try.call15) rfl rfl (BVs.refl _ _) (deuceref08_IsOrder_c _ _ h60) rfl) ?_
         refine tr1 rfl (s_not (lt_of rfl) rfl) ?_
         refine tr_nil ?_
         refine tr_if rfl (fun c61 => ?_) (fun c61 => ?_)
         ·have h := cond_tt c61 h
          refine tr_seq ?_
          refine tr_region ?_
          obtain ⟨r62, h63, h⟩ := bind_some h
          refine tr1 rfl (s_call (lt_of rfl) (.func _ _ Try.call16) rfl rfl (BVs.refl _ _) (deucelaw08_works_c h63) rfl) ?_
          refine tr1 rfl (s_assign (v := .d (.lit (.bool r62))) (lt_of rfl) rfl rfl) ?_
          refine tr_nil ?_
          have h := Option.some.inj h
          subst h
          refine tr_ent (ent_free (ble_keep (l := [6]) ⟨rfl, trivial⟩)) ?_
          exact tr_ret ⟨rfl, _, .one _, rfl, rfl⟩
         ·have h := cond_ff c61 h
          refine tr_skip ?_
          refine tr_seq ?_
          refine tr_region ?_
          refine tr1 rfl (s_loada_bp (lt_of rfl) rfl (i := 0) rfl agg_25 (es := (encApiProgram p_0)) rfl rfl) ?_
          refine tr1 rfl (s_move (v := .d (.sl 3 (order_1.map encApiSeat))) (lt_of rfl) rfl rfl) ?_
          obtain ⟨r64, h65, h⟩ := bind_some h
          refine tr1 rfl (s_call (lt_of rfl) (.func _ _ Try.call18) rfl rfl (BVs.refl _ _) (play_Fits_c _ _ h65) rfl) ?_
          refine tr1 rfl (s_move (v := .tup [.d (.lit (.bool r64.1)), .d (.lit (.int .i64 r64.2.1)), .d (.lit (.int .i64 r64.2.2))]) (lt_of rfl) rfl rfl) ?_
          refine tr1 rfl (s_extract (lt_of rfl) rfl rfl) ?_
          refine tr1 rfl (s_extract (lt_of rfl) rfl rfl) ?_
          refine tr1 rfl (s_extract (lt_of rfl) rfl rfl) ?_
          refine tr1 rfl (s_assign (v := .d (.lit (.bool r64.1))) (lt_of rfl) rfl rfl) ?_
          refine tr1 rfl (s_assign (v := .d (.lit (.int .i64 r64.2.1))) (lt_of rfl) rfl rfl) ?_
          refine tr1 rfl (s_assign (v := .d (.lit (.int .i64 r64.2.2))) (lt_of rfl) rfl rfl) ?_
          refine tr_nil ?_
          refine tr_seq ?_
          refine tr_region ?_
          refine tr1 rfl (s_loada_bp (lt_of rfl) rfl (i := 2) rfl agg_25 (es := [.lit w16, .lit (.int .i64 ((max 0 (w64 (p_0.Rest - x_2.Rest))))), .lit w40]) rfl rfl) ?_
          refine tr1 rfl (s_move (v := .d (.sl 3 (order_1.map encApiSeat))) (lt_of rfl) rfl rfl) ?_
          obtain ⟨r66, h67, h⟩ := bind_some h
          refine tr1 rfl (s_call (lt_of rfl) (.func _ _ Try.call18) rfl rfl (.cons (.agg (dvc (dv_fam 5 3 rfl rfl (h := encSl_ApiSpan) (fun _ => rfl)) (dvc (.same _) (dvc (dv_arr 4 rfl (map_len (f := encApiJob) fun _ => rfl)) dvn)))) (.cons (.same _) .nil)) (play_Fits_c _ _ h67) rfl) ?_
          refine tr1 rfl (s_move (v := .tup [.d (.lit (.bool r66.1)), .d (.lit (.int .i64 r66.2.1)), .d (.lit (.int .i64 r66.2.2))]) (lt_of rfl) rfl rfl) ?_
          refine tr1 rfl (s_extract (lt_of rfl) rfl rfl) ?_
          refine tr1 rfl (s_extract (lt_of rfl) rfl rfl) ?_
          refine tr1 rfl (s_extract (lt_of rfl) rfl rfl) ?_
          refine tr1 rfl (s_assign (v := .d (.lit (.bool r66.1))) (lt_of rfl) rfl rfl) ?_
          refine tr1 rfl (s_assign (v := .d (.lit (.int .i64 r66.2.1))) (lt_of rfl) rfl rfl) ?_
          refine tr1 rfl (s_assign (v := .d (.lit (.int .i64 r66.2.2))) (lt_of rfl) rfl rfl) ?_
          refine tr_nil ?_
          refine tr_seq ?_
          refine tr_region ?_
          refine tr1 rfl (s_loada_bp (lt_of rfl) rfl (i := 0) rfl agg_25 (es := (encApiProgram p_0)) rfl rfl) ?_
          refine tr1 rfl (s_move (v := .d (.sl 3 (order_1.map encApiSeat))) (lt_of rfl) rfl rfl) ?_
          obtain ⟨r68, h69, h⟩ := bind_some h
          refine tr1 rfl (s_callf (lt_of rfl) (.func _ _ Try.call17) rfl rfl (play_Times_c _ _ h69)) ?_
          refine tr1 rfl (s_move (v := .tup [.d (.sl 2 (r68.1.map encApiSpan)), .d (.sl 2 (r68.2.1.map encApiSpan)), .d (.lit (.int .i64 r68.2.2))]) (lt_of rfl) rfl rfl) ?_
          refine tr1 rfl (s_extract (lt_of rfl) rfl rfl) ?_
          refine tr1 rfl (s_extract (lt_of rfl) rfl rfl) ?_
          refine tr1 rfl (s_extract (lt_of rfl) rfl rfl) ?_
          refine tr1 rfl (s_assign (v := .d (.sl 2 (r68.1.map encApiSpan))) (lt_of rfl) rfl rfl) ?_
          refine tr1 rfl (s_assign (v := .d (.sl 2 (r68.2.1.map encApiSpan))) (lt_of rfl) rfl rfl) ?_
          refine tr1 rfl (s_assign (v := .d (.lit (.int .i64 r68.2.2))) (lt_of rfl) rfl rfl) ?_
          refine tr_nil ?_
          refine tr_seq ?_
          refine tr_region ?_
          refine tr1 rfl (s_loada_bp (lt_of rfl) rfl (i := 2) rfl agg_25 (es := [.lit w16, .lit (.int .i64 ((max 0 (w64 (p_0.Rest - x_2.Rest))))), .lit w40]) rfl rfl) ?_
          refine tr1 rfl (s_move (v := .d (.sl 3 (order_1.map encApiSeat))) (lt_of rfl) rfl rfl) ?_
          refine trl_ent (ent_let [.box b1 0 (encApiProgram p_0), .box b2 0 (encDeucelaw08Ease x_2)] [.box b19 0 [.lit w16, .lit (.int .i64 ((max 0 (w64 (p_0.Rest - x_2.Rest))))), .lit w40], .fam 34 2 vs21 (o68_0_20.map fun r => r.map encApiSpan), .arr w40 36 6 (o68_4_39_2.map encApiJob), .arr w16 37 1 (vs21.map fun v => [.lit v])] rfl (ble_upd (k := 211) (v := .agg (encApiProgram (ApiProgram.mk o68_0_20 (max 0 (w64 (p_0.Rest - x_2.Rest))) o68_4_39_2))) (.agg (dvc (dv_fam 3 1 rfl rfl (h := encSl_ApiSpan) (fun _ => rfl)) (dvc (.same _) (dvc (dv_arr 2 rfl (map_len (f := encApiJob) fun _ => rfl)) dvn)))) (ble_upd (k := 197) (v := .agg (encApiProgram (ApiProgram.mk o68_0_20 (max 0 (w64 (p_0.Rest - x_2.Rest))) o68_4_39_2))) (.agg (dvc (dv_fam 3 1 rfl rfl (h := encSl_ApiSpan) (fun _ => rfl)) (dvc (.same _) (dvc (dv_arr 2 rfl (map_len (f := encApiJob) fun _ => rfl)) dvn)))) (ble_upd (k := 7) (v := .cp [.sl 1 (o68_0_20.map encSl_ApiSpan), .lit (.int .i64 ((max 0 (w64 (p_0.Rest - x_2.Rest))))), .sl 6 (o68_4_39_2.map encApiJob)]) ((bv_bp 0 rfl rfl (dvc (dv_fam 3 1 rfl rfl (h := encSl_ApiSpan) (fun _ => rfl)) (dvc (.same _) (dvc (dv_arr 2 rfl (map_len (f := encApiJob) fun _ => rfl)) dvn))))) (ble_refl _ _))))) ?_
          obtain ⟨r70, h71, h⟩ := bind_some h
          refine tr1 rfl (s_callf (lt_of rfl) (.func _ _ Try.call17) rfl rfl (play_Times_c _ _ h71)) ?_
          refine tr1 rfl (s_move (v := .tup [.d (.sl 2 (r70.1.map encApiSpan)), .d (.sl 2 (r70.2.1.map encApiSpan)), .d (.lit (.int .i64 r70.2.2))]) (lt_of rfl) rfl rfl) ?_
          refine tr1 rfl (s_extract (lt_of rfl) rfl rfl) ?_
          refine tr1 rfl (s_extract (lt_of rfl) rfl rfl) ?_
          refine tr1 rfl (s_extract (lt_of rfl) rfl rfl) ?_
          refine tr1 rfl (s_assign (v := .d (.sl 2 (r70.1.map encApiSpan))) (lt_of rfl) rfl rfl) ?_
          refine tr1 rfl (s_assign (v := .d (.sl 2 (r70.2.1.map encApiSpan))) (lt_of rfl) rfl rfl) ?_
          refine tr1 rfl (s_assign (v := .d (.lit (.int .i64 r70.2.2))) (lt_of rfl) rfl rfl) ?_
          refine tr_nil ?_
          refine tr_seq ?_
          refine tr_seq ?_
          refine tr_region ?_
          refine tr1 rfl (s_move (v := .d (.lit (.int .i64 r64.2.2))) (lt_of rfl) rfl rfl) ?_
          refine tr1 rfl (s_cmp (lt_of rfl) rfl rfl rfl) ?_
          refine tr1 rfl (s_move (v := .d (.lit (.bool ((!decide (r64.2.2 = 0)))))) (lt_of rfl) rfl rfl) ?_
          obtain ⟨b72, h73, h⟩ := bind_some h
          refine tr_guard 3 [3, 17, 20, 23, 25, 26, 28] 222 b72 ?_ ?_
          ·refine bool_cases (!decide (r64.2.2 = 0)) (fun c110 => ?_) (fun c110 => ?_)
           ·have h73 := cond_tt c110 h73
            refine tr_pass rfl rfl (lt_of rfl) rfl (lt_of rfl) rfl c110 ?_
            refine tr_pass rfl rfl (lt_of rfl) rfl (lt_of rfl) rfl c110 ?_
            refine tr1 rfl (s_pick_t (v := .d (.lit (.bool true))) (lt_of rfl) rfl c110 rfl rfl) ?_
            have h73 := Option.some.inj h73
            subst h73
            refine tr_nil (ent_keep rfl ⟨rfl, rfl, rfl, rfl, rfl, rfl, rfl, trivial⟩ rfl)
           ·have h73 := cond_ff c110 h73
            refine tr_take1 rfl rfl (lt_of rfl) rfl c110 (s_move (v := .d (.lit (.int .i64 r66.2.2))) (lt_of rfl) rfl rfl) ?_
            refine tr_take1 rfl rfl (lt_of rfl) rfl c110 (s_cmp (lt_of rfl) rfl rfl rfl) ?_
            refine tr1 rfl (s_pick_f (v := .d (.lit (.bool ((!decide (r66.2.2 = 0)))))) (lt_of rfl) rfl c110 rfl rfl) ?_
            have h73 := Option.some.inj h73
            subst h73
            refine tr_nil (ent_keep rfl ⟨rfl, rfl, rfl, rfl, rfl, rfl, rfl, trivial⟩ rfl)
          ·refine tr1 rfl (s_move (v := .d (.lit (.bool b72))) (lt_of rfl) rfl rfl) ?_
           obtain ⟨b74, h75, h⟩ := bind_some h
           refine tr_guard 3 [3, 17, 20, 23, 26, 28] 226 b74 ?_ ?_
           ·refine bool_cases (b72) (fun c109 => ?_) (fun c109 => ?_)
            ·have h75 := cond_tt c109 h75
             refine tr_pass rfl rfl (lt_of rfl) rfl (lt_of rfl) rfl c109 ?_
             refine tr_pass rfl rfl (lt_of rfl) rfl (lt_of rfl) rfl c109 ?_
             refine tr1 rfl (s_pick_t (v := .d (.lit (.bool true))) (lt_of rfl) rfl c109 rfl rfl) ?_
             have h75 := Option.some.inj h75
             subst h75
             refine tr_nil (ent_keep rfl ⟨rfl, rfl, rfl, rfl, rfl, rfl, trivial⟩ rfl)
            ·have h75 := cond_ff c109 h75
             refine tr_take1 rfl rfl (lt_of rfl) rfl c109 (s_move (v := .d (.lit (.int .i64 r68.2.2))) (lt_of rfl) rfl rfl) ?_
             refine tr_take1 rfl rfl (lt_of rfl) rfl c109 (s_cmp (lt_of rfl) rfl rfl rfl) ?_
             refine tr1 rfl (s_pick_f (v := .d (.lit (.bool ((!decide (r68.2.2 = 0)))))) (lt_of rfl) rfl c109 rfl rfl) ?_
             have h75 := Option.some.inj h75
             subst h75
             refine tr_nil (ent_keep rfl ⟨rfl, rfl, rfl, rfl, rfl, rfl, trivial⟩ rfl)
           ·refine tr1 rfl (s_move (v := .d (.lit (.bool b74))) (lt_of rfl) rfl rfl) ?_
            obtain ⟨b76, h77, h⟩ := bind_some h
            refine tr_guard 3 [3, 17, 20, 23, 26] 230 b76 ?_ ?_
            ·refine bool_cases (b74) (fun c108 => ?_) (fun c108 => ?_)
             ·have h77 := cond_tt c108 h77
              refine tr_pass rfl rfl (lt_of rfl) rfl (lt_of rfl) rfl c108 ?_
              refine tr_pass rfl rfl (lt_of rfl) rfl (lt_of rfl) rfl c108 ?_
              refine tr1 rfl (s_pick_t (v := .d (.lit (.bool true))) (lt_of rfl) rfl c108 rfl rfl) ?_
              have h77 := Option.some.inj h77
              subst h77
              refine tr_nil (ent_keep rfl ⟨rfl, rfl, rfl, rfl, rfl, trivial⟩ rfl)
             ·have h77 := cond_ff c108 h77
              refine tr_take1 rfl rfl (lt_of rfl) rfl c108 (s_move (v := .d (.lit (.int .i64 r70.2.2))) (lt_of rfl) rfl rfl) ?_
              refine tr_take1 rfl rfl (lt_of rfl) rfl c108 (s_cmp (lt_of rfl) rfl rfl rfl) ?_
              refine tr1 rfl (s_pick_f (v := .d (.lit (.bool ((!decide (r70.2.2 = 0)))))) (lt_of rfl) rfl c108 rfl rfl) ?_
              have h77 := Option.some.inj h77
              subst h77
              refine tr_nil (ent_keep rfl ⟨rfl, rfl, rfl, rfl, rfl, trivial⟩ rfl)
            ·refine tr1 rfl (s_move (v := .d (.lit (.bool b76))) (lt_of rfl) rfl rfl) ?_
             obtain ⟨b78, h79, h⟩ := bind_some h
             refine tr_guard 6 [3, 23, 26] 237 b78 ?_ ?_
             ·refine bool_cases (b76) (fun c104 => ?_) (fun c104 => ?_)
              ·have h79 := cond_tt c104 h79
               refine tr_pass rfl rfl (lt_of rfl) rfl (lt_of rfl) rfl c104 ?_
               refine tr_pass rfl rfl (lt_of rfl) rfl (lt_of rfl) rfl c104 ?_
               refine tr_pass' rfl rfl (lt_of rfl) rfl (lt_of rfl) rfl ?_
               refine tr_pass' rfl rfl (lt_of rfl) rfl (lt_of rfl) rfl ?_
               refine tr_pass rfl rfl (lt_of rfl) rfl (lt_of rfl) rfl c104 ?_
               refine tr1 rfl (s_pick_t (v := .d (.lit (.bool true))) (lt_of rfl) rfl c104 rfl rfl) ?_
               have h79 := Option.some.inj h79
               subst h79
               refine tr_nil (ent_keep rfl ⟨rfl, rfl, rfl, trivial⟩ rfl)
              ·have h79 := cond_ff c104 h79
               refine tr_take1 rfl rfl (lt_of rfl) rfl c104 (s_move (v := .d (.lit (.bool r64.1))) (lt_of rfl) rfl rfl) ?_
               refine tr_take1 rfl rfl (lt_of rfl) rfl c104 (s_move (v := .d (.lit (.bool r64.1))) (lt_of rfl) rfl rfl) ?_
               obtain ⟨b105, h106, h79⟩ := bind_some h79
               refine tr_guard 3 [3, 23, 26, 231] 236 b105 ?_ ?_
               ·refine bool_cases (r64.1) (fun c107 => ?_) (fun c107 => ?_)
                ·have h106 := cond_tt c107 h106
                 refine tr_take1 rfl rfl (lt_of rfl) rfl c107 (s_move (v := .d (.lit (.bool r66.1))) (lt_of rfl) rfl rfl) ?_
                 refine tr_take1 rfl rfl (lt_of rfl) rfl c107 (s_not (lt_of rfl) rfl) ?_
                 refine tr_take1 rfl rfl (lt_of rfl) rfl c104 (s_pick_t (v := .d (.lit (.bool (!r66.1)))) (lt_of rfl) rfl c107 rfl rfl) ?_
                 have h106 := Option.some.inj h106
                 subst h106
                 refine tr_nil (ent_keep rfl ⟨rfl, rfl, rfl, rfl, trivial⟩ rfl)
                ·have h106 := cond_ff c107 h106
                 refine tr_pass rfl rfl (lt_of rfl) rfl (lt_of rfl) rfl c107 ?_
                 refine tr_pass rfl rfl (lt_of rfl) rfl (lt_of rfl) rfl c107 ?_
                 refine tr_take1 rfl rfl (lt_of rfl) rfl c104 (s_pick_f (v := .d (.lit (.bool false))) (lt_of rfl) rfl c107 rfl rfl) ?_
                 have h106 := Option.some.inj h106
                 subst h106
                 refine tr_nil (ent_keep rfl ⟨rfl, rfl, rfl, rfl, trivial⟩ rfl)
               ·refine tr1 rfl (s_pick_f (v := .d (.lit (.bool b105))) (lt_of rfl) rfl c104 rfl rfl) ?_
                have h79 := Option.some.inj h79
                subst h79
                refine tr_nil (ent_keep rfl ⟨rfl, rfl, rfl, trivial⟩ rfl)
             ·refine tr1 rfl (s_move (v := .d (.lit (.bool b78))) (lt_of rfl) rfl rfl) ?_
              obtain ⟨b80, h81, h⟩ := bind_some h
              refine tr_guard 6 [3, 23, 26] 244 b80 ?_ ?_
              ·refine bool_cases (b78) (fun c103 => ?_) (fun c103 => ?_)
               ·have h81 := cond_tt c103 h81
                refine tr_pass rfl rfl (lt_of rfl) rfl (lt_of rfl) rfl c103 ?_
                refine tr_pass rfl rfl (lt_of rfl) rfl (lt_of rfl) rfl c103 ?_
                refine tr_pass rfl rfl (lt_of rfl) rfl (lt_of rfl) rfl c103 ?_
                refine tr_pass rfl rfl (lt_of rfl) rfl (lt_of rfl) rfl c103 ?_
                refine tr_pass rfl rfl (lt_of rfl) rfl (lt_of rfl) rfl c103 ?_
                refine tr1 rfl (s_pick_t (v := .d (.lit (.bool true))) (lt_of rfl) rfl c103 rfl rfl) ?_
                have h81 := Option.some.inj h81
                subst h81
                refine tr_nil (ent_keep rfl ⟨rfl, rfl, rfl, trivial⟩ rfl)
               ·have h81 := cond_ff c103 h81
                refine tr_take1 rfl rfl (lt_of rfl) rfl c103 (s_move (v := .d (.sl 2 (r68.1.map encApiSpan))) (lt_of rfl) rfl rfl) ?_
                refine tr_take1 rfl rfl (lt_of rfl) rfl c103 (s_lenm (lt_of rfl) rfl sl_37.of) ?_
                refine tr_take1 rfl rfl (lt_of rfl) rfl c103 (s_move (v := .d (.sl 2 (r70.1.map encApiSpan))) (lt_of rfl) rfl rfl) ?_
                refine tr_take1 rfl rfl (lt_of rfl) rfl c103 (s_lenm (lt_of rfl) rfl sl_37.of) ?_
                refine tr_take1 rfl rfl (lt_of rfl) rfl c103 (s_cmp (lt_of rfl) rfl rfl rfl) ?_
                refine tr1 rfl (s_pick_f (v := .d (.lit (.bool ((!decide ((r68.1.length : Int) = (r70.1.length : Int))))))) (lt_of rfl) rfl c103 rfl rfl) ?_
                have h81 := Option.some.inj h81
                subst h81
                refine tr_nil (ent_keep rfl ⟨rfl, rfl, rfl, trivial⟩ rfl)
              ·refine tr1 rfl (s_move (v := .d (.lit (.bool b80))) (lt_of rfl) rfl rfl) ?_
               obtain ⟨b82, h83, h⟩ := bind_some h
               refine tr_guard 7 [23, 26] 252 b82 ?_ ?_
               ·refine bool_cases (b80) (fun c102 => ?_) (fun c102 => ?_)
                ·have h83 := cond_tt c102 h83
                 refine tr_pass rfl rfl (lt_of rfl) rfl (lt_of rfl) rfl c102 ?_
                 refine tr_pass rfl rfl (lt_of rfl) rfl (lt_of rfl) rfl c102 ?_
                 refine tr_pass rfl rfl (lt_of rfl) rfl (lt_of rfl) rfl c102 ?_
                 refine tr_pass rfl rfl (lt_of rfl) rfl (lt_of rfl) rfl c102 ?_
                 refine tr_pass rfl rfl (lt_of rfl) rfl (lt_of rfl) rfl c102 ?_
                 refine tr_pass rfl rfl (lt_of rfl) rfl (lt_of rfl) rfl c102 ?_
                 refine tr1 rfl (s_pick_t (v := .d (.lit (.bool true))) (lt_of rfl) rfl c102 rfl rfl) ?_
                 have h83 := Option.some.inj h83
                 subst h83
                 refine tr_nil (ent_keep rfl ⟨rfl, rfl, trivial⟩ rfl)
                ·have h83 := cond_ff c102 h83
                 refine tr_take1 rfl rfl (lt_of rfl) rfl c102 (s_move (v := .d (.sl 2 (r68.1.map encApiSpan))) (lt_of rfl) rfl rfl) ?_
                 refine tr_take1 rfl rfl (lt_of rfl) rfl c102 (s_lenm (lt_of rfl) rfl sl_37.of) ?_
                 refine tr_take1 rfl rfl (lt_of rfl) rfl c102 (s_field_bp (lt_of rfl) rfl fld_25_2) ?_
                 refine tr_take1 rfl rfl (lt_of rfl) rfl c102 (s_load_bp (lt_of rfl) rfl (i := 0) rfl rfl one_23) ?_
                 refine tr_take1 rfl rfl (lt_of rfl) rfl c102 (s_lenm (lt_of rfl) rfl sl_23.of) ?_
                 refine tr_take1 rfl rfl (lt_of rfl) rfl c102 (s_cmp (lt_of rfl) rfl rfl rfl) ?_
                 refine tr1 rfl (s_pick_f (v := .d (.lit (.bool ((!decide ((r68.1.length : Int) = (p_0.Jobs.length : Int))))))) (lt_of rfl) rfl c102 rfl rfl) ?_
                 have h83 := Option.some.inj h83
                 subst h83
                 refine tr_nil (ent_keep rfl ⟨rfl, rfl, trivial⟩ rfl)
               ·refine tr_nil ?_
                refine tr_if rfl (fun c84 => ?_) (fun c84 => ?_)
                ·have h := cond_tt c84 h
                 refine tr_seq ?_
                 refine tr_region ?_
                 refine tr1 rfl (s_assign (v := .d (.lit (.bool false))) (lt_of rfl) rfl rfl) ?_
                 refine tr_nil ?_
                 have h := Option.some.inj h
                 subst h
                 refine tr_ent (ent_free (ble_keep (l := [6]) ⟨rfl, trivial⟩)) ?_
                 exact tr_ret ⟨rfl, _, .one _, rfl, rfl⟩
                ·have h := cond_ff c84 h
                 refine tr_skip ?_
                 refine tr_seq ?_
                 refine tr_seq ?_
                 refine tr_region ?_
                 refine tr1 rfl (s_assign (v := .d (.lit (.int .i64 0))) (lt_of rfl) rfl rfl) ?_
                 refine tr_nil ?_
                 refine tr_blk ?_
                 refine tr_loopk [23, 26] (fun (s85 : Int) => [(29, .d (.lit (.int .i64 s85)))]) (fun (s85 : Int) => []) (fun (k : Nat) (s85 : Int) => deucelaw08_PlayEasier_L6 r68.1 r70.1 k s85) (fun _ => rfl) (0) h (ent_pick [] rfl rfl (le_upd rfl (le_keep ⟨rfl, rfl, trivial⟩))) ?_
                 rintro k86 t_6_85 h
                 simp only [deucelaw08_PlayEasier_L6] at h
                 refine tr_seq ?_
                 refine tr_seq ?_
                 refine tr_region ?_
                 refine tr1 rfl (s_move (v := .d (.lit (.int .i64 t_6_85))) (lt_of rfl) rfl rfl) ?_
                 refine tr1 rfl (s_move (v := .d (.sl 2 (r68.1.map encApiSpan))) (lt_of rfl) rfl rfl) ?_
                 refine tr1 rfl (s_lenm (lt_of rfl) rfl sl_37.of) ?_
                 refine tr1 rfl (s_cmp (lt_of rfl) rfl rfl rfl) ?_
                 refine tr_nil ?_
                 refine tr_if rfl (fun c87 => ?_) (fun c87 => ?_)
                 ·have h := cond_tt c87 h
                  refine tr_skip ?_
                  refine tr_seq ?_
                  refine tr_blk ?_
                  refine tr_seq ?_
                  obtain ⟨x88, h89, h⟩ := bind_some h
                  obtain ⟨x90, h91, h⟩ := bind_some h
                  obtain ⟨b92, h93, h⟩ := bind_some h
                  refine tr_drawk mix 24 [23, 26, 29] [(282, .d (.lit (.bool b92)))] ?_ ?_
                  ·refine bool_cases (decide (x90.High < x88.High)) (fun c94 => ?_) (fun c94 => ?_)
                   ·have h93 := cond_tt c94 h93
                    have h93 := Option.some.inj h93
                    subst h93
                    refine ⟨[(259, 0, .d (.sl 2 (r70.1.map encApiSpan))), (260, 1, .d (.lit (.int .i64 t_6_85))), (261, 2, .cp [.lit (.int .i64 x88.Low), .lit (.int .i64 x88.High)]), (262, 3, .cp [.lit (.int .i64 x88.High)]), (263, 4, .d (.lit (.int .i64 x88.High))), (264, 5, .d (.sl 2 (r68.1.map encApiSpan))), (265, 6, .d (.lit (.int .i64 t_6_85))), (266, 7, .cp [.lit (.int .i64 x90.Low), .lit (.int .i64 x90.High)]), (267, 8, .cp [.lit (.int .i64 x90.High)]), (268, 9, .d (.lit (.int .i64 x90.High))), (269, 10, .d (.lit (.bool ((decide (x90.High < x88.High)))))), (270, 11, .d (.lit (.bool ((decide (x90.High < x88.High)))))), (271, 12, .tup []), (272, 13, .tup []), (273, 14, .tup []), (274, 15, .tup []), (275, 16, .tup []), (276, 17, .tup []), (277, 18, .tup []), (278, 19, .tup []), (279, 20, .tup []), (280, 21, .tup []), (281, 22, .tup []), (282, 23, .d (.lit (.bool true)))], ?_, ?_⟩
                    · exact ⟨by kernel_rfl, by kernel_rfl, by kernel_rfl, by kernel_rfl, by kernel_rfl, [([], []), ([], []), ([0, 1], []), ([2], []), ([3], []), ([], []), ([], []), ([5, 6], []), ([7], []), ([8], []), ([4, 9], []), ([10], []), ([11], []), ([11], []), ([11, 12, 13], []), ([11, 14], []), ([11, 15], []), ([11], []), ([11], []), ([11, 17, 18], []), ([11, 19], []), ([11, 20], []), ([11, 16, 21], []), ([11, 22], [])], by kernel_rfl, ⟨fun S hS => g_fin rfl (g_op rfl (s_move (v := .d (.sl 2 (r70.1.map encApiSpan))) (lt_of rfl) (ov_ev hS rfl) rfl)),
      fun S hS => g_fin rfl (g_op rfl (s_move (v := .d (.lit (.int .i64 t_6_85))) (lt_of rfl) (ov_ev hS rfl) rfl)),
      fun S hS => g_fin rfl (g_op rfl (s_index_sl (lt_of rfl) (ov_ev hS rfl) (ov_ev hS rfl) sl_37.of (idx_map encApiSpan h89))),
      fun S hS => g_fin rfl (g_op rfl (s_field_cp (lt_of rfl) (ov_ev hS rfl) fld_34_1 (es := [.lit (.int .i64 x88.High)]) rfl)),
      fun S hS => g_fin rfl (g_op rfl (s_load_cp (lt_of rfl) (ov_ev hS rfl) one_3)),
      fun S hS => g_fin rfl (g_op rfl (s_move (v := .d (.sl 2 (r68.1.map encApiSpan))) (lt_of rfl) (ov_ev hS rfl) rfl)),
      fun S hS => g_fin rfl (g_op rfl (s_move (v := .d (.lit (.int .i64 t_6_85))) (lt_of rfl) (ov_ev hS rfl) rfl)),
      fun S hS => g_fin rfl (g_op rfl (s_index_sl (lt_of rfl) (ov_ev hS rfl) (ov_ev hS rfl) sl_37.of (idx_map encApiSpan h91))),
      fun S hS => g_fin rfl (g_op rfl (s_field_cp (lt_of rfl) (ov_ev hS rfl) fld_34_1 (es := [.lit (.int .i64 x90.High)]) rfl)),
      fun S hS => g_fin rfl (g_op rfl (s_load_cp (lt_of rfl) (ov_ev hS rfl) one_3)),
      fun S hS => g_fin rfl (g_op rfl (s_cmp (lt_of rfl) (ov_ev hS rfl) (ov_ev hS rfl) rfl)),
      fun S hS => g_fin rfl (g_op rfl (s_move (v := .d (.lit (.bool ((decide (x90.High < x88.High)))))) (lt_of rfl) (ov_ev hS rfl) rfl)),
      fun S hS => g_fin rfl (g_pass rfl rfl (lt_of rfl) rfl (lt_of rfl) (ov_en hS rfl) c94),
      fun S hS => g_fin rfl (g_pass rfl rfl (lt_of rfl) rfl (lt_of rfl) (ov_en hS rfl) c94),
      fun S hS => g_fin rfl (g_pass rfl rfl (lt_of rfl) rfl (lt_of rfl) (ov_en hS rfl) c94),
      fun S hS => g_fin rfl (g_pass rfl rfl (lt_of rfl) rfl (lt_of rfl) (ov_en hS rfl) c94),
      fun S hS => g_fin rfl (g_pass rfl rfl (lt_of rfl) rfl (lt_of rfl) (ov_en hS rfl) c94),
      fun S hS => g_fin rfl (g_pass rfl rfl (lt_of rfl) rfl (lt_of rfl) (ov_en hS rfl) c94),
      fun S hS => g_fin rfl (g_pass rfl rfl (lt_of rfl) rfl (lt_of rfl) (ov_en hS rfl) c94),
      fun S hS => g_fin rfl (g_pass rfl rfl (lt_of rfl) rfl (lt_of rfl) (ov_en hS rfl) c94),
      fun S hS => g_fin rfl (g_pass rfl rfl (lt_of rfl) rfl (lt_of rfl) (ov_en hS rfl) c94),
      fun S hS => g_fin rfl (g_pass rfl rfl (lt_of rfl) rfl (lt_of rfl) (ov_en hS rfl) c94),
      fun S hS => g_fin rfl (g_pass rfl rfl (lt_of rfl) rfl (lt_of rfl) (ov_en hS rfl) c94),
      fun S hS => g_fin rfl (g_op rfl (s_pick_t (v := .d (.lit (.bool true))) (lt_of rfl) (ov_ev hS rfl) c94 rfl rfl)), trivial⟩⟩
                    · exact ent_le (le_upd rfl (le_keep ⟨rfl, rfl, rfl, trivial⟩))
                   ·have h93 := cond_ff c94 h93
                    obtain ⟨x95, h96, h93⟩ := bind_some h93
                    obtain ⟨x97, h98, h93⟩ := bind_some h93
                    have h93 := Option.some.inj h93
                    subst h93
                    refine ⟨[(259, 0, .d (.sl 2 (r70.1.map encApiSpan))), (260, 1, .d (.lit (.int .i64 t_6_85))), (261, 2, .cp [.lit (.int .i64 x88.Low), .lit (.int .i64 x88.High)]), (262, 3, .cp [.lit (.int .i64 x88.High)]), (263, 4, .d (.lit (.int .i64 x88.High))), (264, 5, .d (.sl 2 (r68.1.map encApiSpan))), (265, 6, .d (.lit (.int .i64 t_6_85))), (266, 7, .cp [.lit (.int .i64 x90.Low), .lit (.int .i64 x90.High)]), (267, 8, .cp [.lit (.int .i64 x90.High)]), (268, 9, .d (.lit (.int .i64 x90.High))), (269, 10, .d (.lit (.bool ((decide (x90.High < x88.High)))))), (270, 11, .d (.lit (.bool ((decide (x90.High < x88.High)))))), (271, 12, .d (.sl 2 (r70.1.map encApiSpan))), (272, 13, .d (.lit (.int .i64 t_6_85))), (273, 14, .cp [.lit (.int .i64 x95.Low), .lit (.int .i64 x95.High)]), (274, 15, .cp [.lit (.int .i64 x95.Low)]), (275, 16, .d (.lit (.int .i64 x95.Low))), (276, 17, .d (.sl 2 (r68.1.map encApiSpan))), (277, 18, .d (.lit (.int .i64 t_6_85))), (278, 19, .cp [.lit (.int .i64 x97.Low), .lit (.int .i64 x97.High)]), (279, 20, .cp [.lit (.int .i64 x97.Low)]), (280, 21, .d (.lit (.int .i64 x97.Low))), (281, 22, .d (.lit (.bool ((decide (x97.Low < x95.Low)))))), (282, 23, .d (.lit (.bool ((decide (x97.Low < x95.Low))))))], ?_, ?_⟩
                    · exact ⟨by kernel_rfl, by kernel_rfl, by kernel_rfl, by kernel_rfl, by kernel_rfl, [([], []), ([], []), ([0, 1], []), ([2], []), ([3], []), ([], []), ([], []), ([5, 6], []), ([7], []), ([8], []), ([4, 9], []), ([10], []), ([11], []), ([11], []), ([11, 12, 13], []), ([11, 14], []), ([11, 15], []), ([11], []), ([11], []), ([11, 17, 18], []), ([11, 19], []), ([11, 20], []), ([11, 16, 21], []), ([11, 22], [])], by kernel_rfl, ⟨fun S hS => g_fin rfl (g_op rfl (s_move (v := .d (.sl 2 (r70.1.map encApiSpan))) (lt_of rfl) (ov_ev hS rfl) rfl)),
      fun S hS => g_fin rfl (g_op rfl (s_move (v := .d (.lit (.int .i64 t_6_85))) (lt_of rfl) (ov_ev hS rfl) rfl)),
      fun S hS => g_fin rfl (g_op rfl (s_index_sl (lt_of rfl) (ov_ev hS rfl) (ov_ev hS rfl) sl_37.of (idx_map encApiSpan h89))),
      fun S hS => g_fin rfl (g_op rfl (s_field_cp (lt_of rfl) (ov_ev hS rfl) fld_34_1 (es := [.lit (.int .i64 x88.High)]) rfl)),
      fun S hS => g_fin rfl (g_op rfl (s_load_cp (lt_of rfl) (ov_ev hS rfl) one_3)),
      fun S hS => g_fin rfl (g_op rfl (s_move (v := .d (.sl 2 (r68.1.map encApiSpan))) (lt_of rfl) (ov_ev hS rfl) rfl)),
      fun S hS => g_fin rfl (g_op rfl (s_move (v := .d (.lit (.int .i64 t_6_85))) (lt_of rfl) (ov_ev hS rfl) rfl)),
      fun S hS => g_fin rfl (g_op rfl (s_index_sl (lt_of rfl) (ov_ev hS rfl) (ov_ev hS rfl) sl_37.of (idx_map encApiSpan h91))),
      fun S hS => g_fin rfl (g_op rfl (s_field_cp (lt_of rfl) (ov_ev hS rfl) fld_34_1 (es := [.lit (.int .i64 x90.High)]) rfl)),
      fun S hS => g_fin rfl (g_op rfl (s_load_cp (lt_of rfl) (ov_ev hS rfl) one_3)),
      fun S hS => g_fin rfl (g_op rfl (s_cmp (lt_of rfl) (ov_ev hS rfl) (ov_ev hS rfl) rfl)),
      fun S hS => g_fin rfl (g_op rfl (s_move (v := .d (.lit (.bool ((decide (x90.High < x88.High)))))) (lt_of rfl) (ov_ev hS rfl) rfl)),
      fun S hS => g_fin rfl (g_take rfl rfl (lt_of rfl) (ov_en hS rfl) c94 (s_move (v := .d (.sl 2 (r70.1.map encApiSpan))) (lt_of rfl) (ov_ev hS rfl) rfl)),
      fun S hS => g_fin rfl (g_take rfl rfl (lt_of rfl) (ov_en hS rfl) c94 (s_move (v := .d (.lit (.int .i64 t_6_85))) (lt_of rfl) (ov_ev hS rfl) rfl)),
      fun S hS => g_fin rfl (g_take rfl rfl (lt_of rfl) (ov_en hS rfl) c94 (s_index_sl (lt_of rfl) (ov_ev hS rfl) (ov_ev hS rfl) sl_37.of (idx_map encApiSpan h96))),
      fun S hS => g_fin rfl (g_take rfl rfl (lt_of rfl) (ov_en hS rfl) c94 (s_field_cp (lt_of rfl) (ov_ev hS rfl) fld_34_0 (es := [.lit (.int .i64 x95.Low)]) rfl)),
      fun S hS => g_fin rfl (g_take rfl rfl (lt_of rfl) (ov_en hS rfl) c94 (s_load_cp (lt_of rfl) (ov_ev hS rfl) one_3)),
      fun S hS => g_fin rfl (g_take rfl rfl (lt_of rfl) (ov_en hS rfl) c94 (s_move (v := .d (.sl 2 (r68.1.map encApiSpan))) (lt_of rfl) (ov_ev hS rfl) rfl)),
      fun S hS => g_fin rfl (g_take rfl rfl (lt_of rfl) (ov_en hS rfl) c94 (s_move (v := .d (.lit (.int .i64 t_6_85))) (lt_of rfl) (ov_ev hS rfl) rfl)),
      fun S hS => g_fin rfl (g_take rfl rfl (lt_of rfl) (ov_en hS rfl) c94 (s_index_sl (lt_of rfl) (ov_ev hS rfl) (ov_ev hS rfl) sl_37.of (idx_map encApiSpan h98))),
      fun S hS => g_fin rfl (g_take rfl rfl (lt_of rfl) (ov_en hS rfl) c94 (s_field_cp (lt_of rfl) (ov_ev hS rfl) fld_34_0 (es := [.lit (.int .i64 x97.Low)]) rfl)),
      fun S hS => g_fin rfl (g_take rfl rfl (lt_of rfl) (ov_en hS rfl) c94 (s_load_cp (lt_of rfl) (ov_ev hS rfl) one_3)),
      fun S hS => g_fin rfl (g_take rfl rfl (lt_of rfl) (ov_en hS rfl) c94 (s_cmp (lt_of rfl) (ov_ev hS rfl) (ov_ev hS rfl) rfl)),
      fun S hS => g_fin rfl (g_op rfl (s_pick_f (v := .d (.lit (.bool ((decide (x97.Low < x95.Low)))))) (lt_of rfl) (ov_ev hS rfl) c94 (ov_ev hS rfl) rfl)), trivial⟩⟩
                    · exact ent_le (le_upd rfl (le_keep ⟨rfl, rfl, rfl, trivial⟩))
                  ·refine tr_nil ?_
                   refine tr_if rfl (fun c99 => ?_) (fun c99 => ?_)
                   ·have h := cond_tt c99 h
                    refine tr_seq ?_
                    refine tr_region ?_
                    refine tr1 rfl (s_assign (v := .d (.lit (.bool false))) (lt_of rfl) rfl rfl) ?_
                    refine tr_nil ?_
                    have h := Option.some.inj h
                    subst h
                    exact tr_ret ⟨rfl, _, .one _, rfl, rfl⟩
                   ·have h := cond_ff c99 h
                    refine tr_skipb ?_
                    refine tr_region ?_
                    refine tr1 rfl (s_move (v := .d (.lit (.int .i64 t_6_85))) (lt_of rfl) rfl rfl) ?_
                    refine tr1 rfl (s_arith (lt_of rfl) rfl rfl rfl) ?_
                    refine tr1 rfl (s_assign (v := .d (.lit (.int .i64 ((w64 (t_6_85 + 1)))))) (lt_of rfl) rfl rfl) ?_
                    refine tr_nil ?_
                    exact ⟨(w64 (t_6_85 + 1)), h, ent_pick [] rfl rfl (le_upd rfl (le_keep ⟨rfl, rfl, trivial⟩))⟩
                 ·have h := cond_ff c87 h
                  refine tr_exit ?_
                  refine .inl ⟨rfl, ?_⟩
                  simp only [deucelaw08_PlayEasier_K6] at h
                  refine tr_seq ?_
                  refine tr_region ?_
                  obtain ⟨r100, h101, h⟩ := bind_some h
                  refine tr1 rfl (s_call (lt_of rfl) (.func _ _ Try.call16) rfl rfl (BVs.refl _ _) (deucelaw08_works_c h101) rfl) ?_
                  refine tr1 rfl (s_assign (v := .d (.lit (.bool r100))) (lt_of rfl) rfl rfl) ?_
                  refine tr_nil ?_
                  have h := Option.some.inj h
                  subst h
                  exact tr_ret ⟨rfl, _, .one _, rfl, rfl⟩

end Go.Am
