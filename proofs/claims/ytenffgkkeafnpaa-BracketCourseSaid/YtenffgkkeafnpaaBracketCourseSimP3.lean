/- The functions compute what the shallow ones say: printed by program. -/
import Derived.Test.YtenffgkkeafnpaaBracketCourseSimP2
namespace Go.Am
open Go.Proofs
set_option maxRecDepth 100000
set_option maxHeartbeats 4000000

theorem sZ (t_0 : aT) (l_1 : List aI) (course_2 : List (List Int)) {r : Bool} (h : jM t_0 l_1 course_2 = some r) : Fn Try.prog 6 [.agg (aY t_0), .d (.sl 5 (l_1.map aP)), .d (.sl 1 (course_2.map cG))] (.d (.lit (.bool r))) := by
 unfold jM at h
 refine Fn.of_tr Try.func6 rfl (rs := [.tmp 6]) Try.results6 Try.ntmps6 (Nat.le_of_ble_eq_true rfl) ?_
 refine aK ?_
 refine aH ?_
 refine cE rfl (gL (v := .agg (aY t_0)) (aA rfl) rfl rfl rfl) ?_
 rintro _ ⟨b1, rfl⟩
 refine tr1 rfl (aL (v := .d (.lit (.bool false))) (aA rfl) rfl rfl) ?_
 refine aJ ?_
 refine aK ?_
 refine aK ?_
 refine aH ?_
 refine tr1 rfl (bW (aA rfl) rfl (i := 0) rfl dX (es := (aY t_0)) rfl rfl) ?_
 refine tr1 rfl (aE (v := .d (.sl 5 (l_1.map aP))) (aA rfl) rfl rfl) ?_
 obtain ⟨r2, h3, h⟩ := bind_some h
 refine tr1 rfl (cZ (aA rfl) (.func _ _ Try.call12) rfl rfl (BVs.refl _ _) (xR _ _ h3) rfl) ?_
 refine tr1 rfl (fJ (aA rfl) rfl) ?_
 refine tr1 rfl (aE (v := .d (.lit (.bool (!r2)))) (aA rfl) rfl rfl) ?_
 obtain ⟨b4, h5, h⟩ := bind_some h
 refine cK 4 [1, 2, 3] 31 b4 ?_ ?_
 ·refine bM (!r2) (fun c162 => ?_) (fun c162 => ?_)
  ·have h5 := bD c162 h5
   refine aV rfl rfl (aA rfl) rfl (aA rfl) rfl c162 ?_
   refine aV rfl rfl (aA rfl) rfl (aA rfl) rfl c162 ?_
   refine aV rfl rfl (aA rfl) rfl (aA rfl) rfl c162 ?_
   refine tr1 rfl (bO (v := .d (.lit (.bool true))) (aA rfl) rfl c162 rfl rfl) ?_
   have h5 := Option.some.inj h5
   subst h5
   refine aJ (bN rfl ⟨rfl, rfl, rfl, trivial⟩ rfl)
  ·have h5 := bB c162 h5
   refine aQ rfl rfl (aA rfl) rfl c162 (aE (v := .d (.sl 1 (course_2.map cG))) (aA rfl) rfl rfl) ?_
   refine aQ rfl rfl (aA rfl) rfl c162 (dR (aA rfl) rfl jG.of) ?_
   refine aQ rfl rfl (aA rfl) rfl c162 (bE (aA rfl) rfl rfl rfl) ?_
   refine tr1 rfl (bH (v := .d (.lit (.bool ((decide (20 < (course_2.length : Int))))))) (aA rfl) rfl c162 rfl rfl) ?_
   have h5 := Option.some.inj h5
   subst h5
   refine aJ (bN rfl ⟨rfl, rfl, rfl, trivial⟩ rfl)
 ·refine aJ ?_
  refine bY rfl (fun c6 => ?_) (fun c6 => ?_)
  ·have h := bD c6 h
   refine aK ?_
   refine aH ?_
   obtain ⟨r7, h8, h⟩ := bind_some h
   refine tr1 rfl (cZ (aA rfl) (.func _ _ Try.call14) rfl rfl (BVs.refl _ _) (oN h8) rfl) ?_
   refine tr1 rfl (aL (v := .d (.lit (.bool r7))) (aA rfl) rfl rfl) ?_
   refine aJ ?_
   have h := Option.some.inj h
   subst h
   refine cR (cQ (cX (l := [6]) ⟨rfl, trivial⟩)) ?_
   exact bV ⟨rfl, _, .one _, rfl, rfl⟩
  ·have h := bB c6 h
   refine bU ?_
   refine aK ?_
   refine aH ?_
   refine tr1 rfl (bW (aA rfl) rfl (i := 0) rfl dX (es := (aY t_0)) rfl rfl) ?_
   refine tr1 rfl (aE (v := .d (.sl 5 (l_1.map aP))) (aA rfl) rfl rfl) ?_
   obtain ⟨r9, h10, h⟩ := bind_some h
   refine tr1 rfl (gN (aA rfl) (.func _ _ Try.call18) rfl rfl (qU _ _ h10)) ?_
   refine tr1 rfl (aE (v := .tup [.d (.sl 1 (r9.1.map aO)), .d (.lit (.bool r9.2))]) (aA rfl) rfl rfl) ?_
   refine tr1 rfl (bX (aA rfl) rfl rfl) ?_
   refine tr1 rfl (bX (aA rfl) rfl rfl) ?_
   refine tr1 rfl (aL (v := .d (.sl 1 (r9.1.map aO))) (aA rfl) rfl rfl) ?_
   refine tr1 rfl (aL (v := .d (.lit (.bool r9.2))) (aA rfl) rfl rfl) ?_
   refine aJ ?_
   refine aK ?_
   refine aK ?_
   refine aH ?_
   refine tr1 rfl (aE (v := .d (.lit (.bool r9.2))) (aA rfl) rfl rfl) ?_
   refine tr1 rfl (fJ (aA rfl) rfl) ?_
   refine tr1 rfl (aE (v := .d (.lit (.bool (!r9.2)))) (aA rfl) rfl rfl) ?_
   obtain ⟨b11, h12, h⟩ := bind_some h
   refine cK 6 [1, 2, 3, 7] 47 b11 ?_ ?_
   ·refine bM (!r9.2) (fun c159 => ?_) (fun c159 => ?_)
    ·have h12 := bD c159 h12
     refine aV rfl rfl (aA rfl) rfl (aA rfl) rfl c159 ?_
     refine aV rfl rfl (aA rfl) rfl (aA rfl) rfl c159 ?_
     refine aV rfl rfl (aA rfl) rfl (aA rfl) rfl c159 ?_
     refine aV rfl rfl (aA rfl) rfl (aA rfl) rfl c159 ?_
     refine aV rfl rfl (aA rfl) rfl (aA rfl) rfl c159 ?_
     refine tr1 rfl (bO (v := .d (.lit (.bool true))) (aA rfl) rfl c159 rfl rfl) ?_
     have h12 := Option.some.inj h12
     subst h12
     refine aJ (bN rfl ⟨rfl, rfl, rfl, rfl, trivial⟩ rfl)
    ·have h12 := bB c159 h12
     refine aQ rfl rfl (aA rfl) rfl c159 (bW (aA rfl) rfl (i := 0) rfl dX (es := (aY t_0)) rfl rfl) ?_
     refine aQ rfl rfl (aA rfl) rfl c159 (aE (v := .d (.sl 1 (r9.1.map aO))) (aA rfl) rfl rfl) ?_
     refine aQ rfl rfl (aA rfl) rfl c159 (aE (v := .d (.sl 1 (course_2.map cG))) (aA rfl) rfl rfl) ?_
     obtain ⟨r160, h161, h12⟩ := bind_some h12
     refine aQ rfl rfl (aA rfl) rfl c159 (cZ (aA rfl) (.func _ _ Try.call24) rfl rfl (BVs.refl _ _) (vK _ _ _ h161) rfl) ?_
     refine aQ rfl rfl (aA rfl) rfl c159 (fJ (aA rfl) rfl) ?_
     refine tr1 rfl (bH (v := .d (.lit (.bool (!r160)))) (aA rfl) rfl c159 rfl rfl) ?_
     have h12 := Option.some.inj h12
     subst h12
     refine aJ (bN rfl ⟨rfl, rfl, rfl, rfl, trivial⟩ rfl)
   ·refine tr1 rfl (aE (v := .d (.lit (.bool b11))) (aA rfl) rfl rfl) ?_
    obtain ⟨b13, h14, h⟩ := bind_some h
    refine cK 6 [1, 2, 3, 7] 54 b13 ?_ ?_
    ·refine bM (b11) (fun c156 => ?_) (fun c156 => ?_)
     ·have h14 := bD c156 h14
      refine aV rfl rfl (aA rfl) rfl (aA rfl) rfl c156 ?_
      refine aV rfl rfl (aA rfl) rfl (aA rfl) rfl c156 ?_
      refine aV rfl rfl (aA rfl) rfl (aA rfl) rfl c156 ?_
      refine aV rfl rfl (aA rfl) rfl (aA rfl) rfl c156 ?_
      refine aV rfl rfl (aA rfl) rfl (aA rfl) rfl c156 ?_
      refine tr1 rfl (bO (v := .d (.lit (.bool true))) (aA rfl) rfl c156 rfl rfl) ?_
      have h14 := Option.some.inj h14
      subst h14
      refine aJ (bN rfl ⟨rfl, rfl, rfl, rfl, trivial⟩ rfl)
     ·have h14 := bB c156 h14
      refine aQ rfl rfl (aA rfl) rfl c156 (bW (aA rfl) rfl (i := 0) rfl dX (es := (aY t_0)) rfl rfl) ?_
      refine aQ rfl rfl (aA rfl) rfl c156 (aE (v := .d (.sl 5 (l_1.map aP))) (aA rfl) rfl rfl) ?_
      refine aQ rfl rfl (aA rfl) rfl c156 (aE (v := .d (.sl 1 (course_2.map cG))) (aA rfl) rfl rfl) ?_
      obtain ⟨r157, h158, h14⟩ := bind_some h14
      refine aQ rfl rfl (aA rfl) rfl c156 (cZ (aA rfl) (.func _ _ Try.call25) rfl rfl (BVs.refl _ _) (xE _ _ _ h158) rfl) ?_
      refine aQ rfl rfl (aA rfl) rfl c156 (fJ (aA rfl) rfl) ?_
      refine tr1 rfl (bH (v := .d (.lit (.bool (!r157)))) (aA rfl) rfl c156 rfl rfl) ?_
      have h14 := Option.some.inj h14
      subst h14
      refine aJ (bN rfl ⟨rfl, rfl, rfl, rfl, trivial⟩ rfl)
    ·refine aJ ?_
     refine bY rfl (fun c15 => ?_) (fun c15 => ?_)
     ·have h := bD c15 h
      refine aK ?_
      refine aH ?_
      obtain ⟨r16, h17, h⟩ := bind_some h
      refine tr1 rfl (cZ (aA rfl) (.func _ _ Try.call14) rfl rfl (BVs.refl _ _) (oN h17) rfl) ?_
      refine tr1 rfl (aL (v := .d (.lit (.bool r16))) (aA rfl) rfl rfl) ?_
      refine aJ ?_
      have h := Option.some.inj h
      subst h
      refine cR (cQ (cX (l := [6]) ⟨rfl, trivial⟩)) ?_
      exact bV ⟨rfl, _, .one _, rfl, rfl⟩
     ·have h := bB c15 h
      refine bU ?_
      refine aK ?_
      refine aH ?_
      refine tr1 rfl (bW (aA rfl) rfl (i := 0) rfl dX (es := (aY t_0)) rfl rfl) ?_
      refine tr1 rfl (aE (v := .d (.sl 5 (l_1.map aP))) (aA rfl) rfl rfl) ?_
      obtain ⟨r18, h19, h⟩ := bind_some h
      refine tr1 rfl (gN (aA rfl) (.func _ _ Try.call21) rfl rfl (zZ _ _ h19)) ?_
      refine tr1 rfl (aE (v := .tup [.d (.sl 4 (r18.1.map cC)), .d (.sl 1 (r18.2.1.map aO)), .d (.lit (.bool r18.2.2))]) (aA rfl) rfl rfl) ?_
      refine tr1 rfl (bX (aA rfl) rfl rfl) ?_
      refine tr1 rfl (bX (aA rfl) rfl rfl) ?_
      refine tr1 rfl (bX (aA rfl) rfl rfl) ?_
      refine tr1 rfl (aL (v := .d (.sl 4 (r18.1.map cC))) (aA rfl) rfl rfl) ?_
      refine tr1 rfl (aL (v := .d (.sl 1 (r18.2.1.map aO))) (aA rfl) rfl rfl) ?_
      refine tr1 rfl (aL (v := .d (.lit (.bool r18.2.2))) (aA rfl) rfl rfl) ?_
      refine aJ ?_
      refine aK ?_
      refine aK ?_
      refine aH ?_
      refine tr1 rfl (aE (v := .d (.lit (.bool r18.2.2))) (aA rfl) rfl rfl) ?_
      refine tr1 rfl (fJ (aA rfl) rfl) ?_
      refine aJ ?_
      refine bY rfl (fun c20 => ?_) (fun c20 => ?_)
      ·have h := bD c20 h
       refine aK ?_
       refine aH ?_
       refine tr1 rfl (aL (v := .d (.lit (.bool false))) (aA rfl) rfl rfl) ?_
       refine aJ ?_
       have h := Option.some.inj h
       subst h
       refine cR (cQ (cX (l := [6]) ⟨rfl, trivial⟩)) ?_
       exact bV ⟨rfl, _, .one _, rfl, rfl⟩
      ·have h := bB c20 h
       refine bU ?_
       refine aK ?_
       refine aK ?_
       refine aH ?_
       refine tr1 rfl (aL (v := .d (.lit (.int .i64 0))) (aA rfl) rfl rfl) ?_
       refine aJ ?_
       refine cF ?_
       refine dJ [1, 2, 3, 7, 9, 10] (fun (s21 : Int) => [(12, .d (.lit (.int .i64 s21)))]) (fun (s21 : Int) => [.box b1 0 (aY t_0)]) (fun (k : Nat) (s21 : Int) => cB l_1 course_2 r9.1 r18.1 r18.2.1 t_0 k s21) (fun _ => rfl) (0) h (bK [0] rfl rfl (aX rfl (bF ⟨rfl, rfl, rfl, rfl, rfl, rfl, trivial⟩))) ?_
       rintro k22 i_0_21 h
       simp only [cB] at h
       refine aK ?_
       refine aK ?_
       refine aH ?_
       refine tr1 rfl (aE (v := .d (.lit (.int .i64 i_0_21))) (aA rfl) rfl rfl) ?_
       refine tr1 rfl (aE (v := .d (.sl 4 (r18.1.map cC))) (aA rfl) rfl rfl) ?_
       refine tr1 rfl (dR (aA rfl) rfl rI.of) ?_
       refine tr1 rfl (bE (aA rfl) rfl rfl rfl) ?_
       refine aJ ?_
       refine bY rfl (fun c23 => ?_) (fun c23 => ?_)
       ·have h := bD c23 h
        refine bU ?_
        refine aK ?_
        refine cF ?_
        refine aK ?_
        refine aH ?_
        refine tr1 rfl (aE (v := .d (.sl 4 (r18.1.map cC))) (aA rfl) rfl rfl) ?_
        refine tr1 rfl (aE (v := .d (.lit (.int .i64 i_0_21))) (aA rfl) rfl rfl) ?_
        obtain ⟨x24, h25, h⟩ := bind_some h
        refine tr1 rfl (bA (aA rfl) rfl rfl rI.of (bJ cC h25)) ?_
        refine tr1 rfl (jP (aA rfl) rfl aAo (es := (cC x24)) rfl rfl) ?_
        refine cE rfl (eD (zs := [.lit (.int .i64 0), .lit (.int .i64 0), .lit (.int .i64 0), .lit (.int .i64 0)]) (aA rfl) Try.zeroValue57 rfl rfl) ?_
        rintro _ ⟨b26, rfl⟩
        refine tr1 rfl (cO (i := 1) rfl rfl rfl rfl rfl Try.sizeOf57 rfl (aA rfl) (Nat.le_of_ble_eq_true rfl) (ds' := (cC x24)) rfl) ?_
        refine aJ ?_
        refine aK ?_
        refine aH ?_
        refine tr1 rfl (aE (v := .d (.sl 1 (r9.1.map aO))) (aA rfl) rfl rfl) ?_
        refine tr1 rfl (aL (v := .d (.sl 1 (r9.1.map aO))) (aA rfl) rfl rfl) ?_
        refine aJ ?_
        refine aK ?_
        refine aK ?_
        refine aH ?_
        refine tr1 rfl (aS (aA rfl) rfl iT) ?_
        refine tr1 rfl (aU (aA rfl) rfl (i := 1) rfl rfl aZ) ?_
        refine tr1 rfl (bE (aA rfl) rfl rfl rfl) ?_
        refine aJ ?_
        refine bY rfl (fun c27 => ?_) (fun c27 => ?_)
        ·have h := bD c27 h
         refine aH ?_
         refine tr1 rfl (aE (v := .d (.sl 1 (course_2.map cG))) (aA rfl) rfl rfl) ?_
         refine tr1 rfl (aS (aA rfl) rfl iT) ?_
         refine tr1 rfl (aU (aA rfl) rfl (i := 1) rfl rfl aZ) ?_
         refine tr1 rfl (bL (aA rfl) rfl rfl rfl) ?_
         obtain ⟨x28, h29, h⟩ := bind_some h
         refine tr1 rfl (bA (aA rfl) rfl rfl jG.of (bJ cG h29)) ?_
         refine tr1 rfl (bC (aA rfl) rfl cU) ?_
         refine tr1 rfl (aL (v := .d (.sl 1 (x28.map aO))) (aA rfl) rfl rfl) ?_
         refine aJ ?_
         refine aK ?_
         refine aK ?_
         obtain ⟨b30, h31, h⟩ := bind_some h
         obtain ⟨b35, h36, h⟩ := bind_some h
         obtain ⟨b43, h44, h⟩ := bind_some h
         refine dN mix 54 [1, 2, 3, 7, 9, 10, 12, 13] [(138, .d (.lit (.bool b43)))] ?_ ?_
         ·refine bM (!decide (x24.One = (-2))) (fun c32 => ?_) (fun c32 => ?_)
          ·have h31 := bD c32 h31
           obtain ⟨x33, h34, h31⟩ := bind_some h31
           have h31 := Option.some.inj h31
           subst h31
           refine bM (!decide (x24.One = x33)) (fun c37 => ?_) (fun c37 => ?_)
           ·have h36 := bD c37 h36
            have h36 := Option.some.inj h36
            subst h36
            have c45 : true = true := rfl
            have h44 := bD c45 h44
            have h44 := Option.some.inj h44
            subst h44
            refine ⟨[(85, 0, .bp b26 0 2), (86, 1, .d (.lit (.int .i64 x24.One))), (87, 2, .d (.lit (.bool ((!decide (x24.One = (-2))))))), (88, 3, .d (.lit (.bool ((!decide (x24.One = (-2))))))), (89, 4, .bp b26 0 2), (90, 5, .d (.lit (.int .i64 x24.One))), (91, 6, .d (.sl 1 (x28.map aO))), (92, 7, .bp b26 0 1), (93, 8, .d (.lit (.int .i64 x24.Place))), (94, 9, .d (.lit (.int .i64 ((w64 (2 * x24.Place)))))), (95, 10, .cp [.lit (.int .i64 x33)]), (96, 11, .d (.lit (.int .i64 x33))), (97, 12, .d (.lit (.bool ((!decide (x24.One = x33)))))), (98, 13, .d (.lit (.bool ((!decide (x24.One = x33)))))), (99, 14, .d (.lit (.bool (!decide (x24.One = x33))))), (100, 15, .tup []), (101, 16, .tup []), (102, 17, .tup []), (103, 18, .tup []), (104, 19, .tup []), (105, 20, .tup []), (106, 21, .tup []), (107, 22, .tup []), (108, 23, .tup []), (109, 24, .tup []), (110, 25, .tup []), (111, 26, .tup []), (112, 27, .tup []), (113, 28, .tup []), (114, 29, .tup []), (115, 30, .d (.lit (.bool true))), (116, 31, .d (.lit (.bool (true)))), (117, 32, .tup []), (118, 33, .tup []), (119, 34, .tup []), (120, 35, .tup []), (121, 36, .tup []), (122, 37, .tup []), (123, 38, .tup []), (124, 39, .tup []), (125, 40, .tup []), (126, 41, .tup []), (127, 42, .tup []), (128, 43, .tup []), (129, 44, .tup []), (130, 45, .tup []), (131, 46, .tup []), (132, 47, .tup []), (133, 48, .tup []), (134, 49, .tup []), (135, 50, .tup []), (136, 51, .tup []), (137, 52, .tup []), (138, 53, .d (.lit (.bool true)))], ?_, ?_⟩
            · exact ⟨by kernel_rfl, by kernel_rfl, by kernel_rfl, by kernel_rfl, by kernel_rfl, [([], []), ([0], []), ([1], []), ([2], []), ([3], []), ([3, 4], []), ([3], []), ([3], []), ([3, 7], []), ([3, 8], []), ([3, 6, 9], []), ([3, 10], []), ([3, 5, 11], []), ([3, 12], []), ([13], []), ([14], []), ([14, 15], []), ([14, 16], []), ([14, 17], []), ([18], []), ([18, 19], []), ([18], []), ([18], []), ([18, 22], []), ([18, 23], []), ([18, 24], []), ([18, 21, 25], []), ([18, 26], []), ([18, 20, 27], []), ([14, 18, 28], []), ([14, 29], []), ([30], []), ([31], []), ([31], []), ([31, 32, 33], []), ([31, 34], []), ([31, 35], []), ([31, 36], []), ([37], []), ([37], []), ([37, 38, 39], []), ([37, 40], []), ([37], []), ([37], []), ([37, 43], []), ([37, 42, 44], []), ([37, 45], []), ([37], []), ([37, 47], []), ([37, 46, 48], []), ([37, 49], []), ([37, 41, 50], []), ([31, 37, 51], []), ([31, 52], [])], by kernel_rfl, ⟨fun S hS => aB rfl (aR rfl (aS (aA rfl) (aC hS rfl) dL)),
      fun S hS => aB rfl (aR rfl (aU (aA rfl) (aC hS rfl) (i := 1) rfl rfl aZ)),
      fun S hS => aB rfl (aR rfl (bE (aA rfl) (aC hS rfl) rfl rfl)),
      fun S hS => aB rfl (aR rfl (aE (v := .d (.lit (.bool ((!decide (x24.One = (-2))))))) (aA rfl) (aC hS rfl) rfl)),
      fun S hS => aB rfl (aG rfl rfl (aA rfl) (aD hS rfl) c32 (aS (aA rfl) (aC hS rfl) dL)),
      fun S hS => aB rfl (aG rfl rfl (aA rfl) (aD hS rfl) c32 (aU (aA rfl) (aC hS rfl) (i := 1) rfl rfl aZ)),
      fun S hS => aB rfl (aG rfl rfl (aA rfl) (aD hS rfl) c32 (aE (v := .d (.sl 1 (x28.map aO))) (aA rfl) (aC hS rfl) rfl)),
      fun S hS => aB rfl (aG rfl rfl (aA rfl) (aD hS rfl) c32 (aS (aA rfl) (aC hS rfl) dE)),
      fun S hS => aB rfl (aG rfl rfl (aA rfl) (aD hS rfl) c32 (aU (aA rfl) (aC hS rfl) (i := 1) rfl rfl aZ)),
      fun S hS => aB rfl (aG rfl rfl (aA rfl) (aD hS rfl) c32 (bL (aA rfl) rfl (aC hS rfl) rfl)),
      fun S hS => aB rfl (aG rfl rfl (aA rfl) (aD hS rfl) c32 (bA (aA rfl) (aC hS rfl) (aC hS rfl) bP.of (bJ aO h34))),
      fun S hS => aB rfl (aG rfl rfl (aA rfl) (aD hS rfl) c32 (bC (aA rfl) (aC hS rfl) aZ)),
      fun S hS => aB rfl (aG rfl rfl (aA rfl) (aD hS rfl) c32 (bE (aA rfl) (aC hS rfl) (aC hS rfl) rfl)),
      fun S hS => aB rfl (aR rfl (bO (v := .d (.lit (.bool ((!decide (x24.One = x33)))))) (aA rfl) (aC hS rfl) c32 (aC hS rfl) rfl)),
      fun S hS => aB rfl (aR rfl (aE (v := .d (.lit (.bool (!decide (x24.One = x33))))) (aA rfl) (aC hS rfl) rfl)),
      fun S hS => aB rfl (aM rfl rfl (aA rfl) rfl (aA rfl) (aD hS rfl) c37),
      fun S hS => aB rfl (aM rfl rfl (aA rfl) rfl (aA rfl) (aD hS rfl) c37),
      fun S hS => aB rfl (aM rfl rfl (aA rfl) rfl (aA rfl) (aD hS rfl) c37),
      fun S hS => aB rfl (aM rfl rfl (aA rfl) rfl (aA rfl) (aD hS rfl) c37),
      fun S hS => aB rfl (bR rfl rfl (aA rfl) rfl (aA rfl) (aD hS rfl)),
      fun S hS => aB rfl (bR rfl rfl (aA rfl) rfl (aA rfl) (aD hS rfl)),
      fun S hS => aB rfl (bR rfl rfl (aA rfl) rfl (aA rfl) (aD hS rfl)),
      fun S hS => aB rfl (bR rfl rfl (aA rfl) rfl (aA rfl) (aD hS rfl)),
      fun S hS => aB rfl (bR rfl rfl (aA rfl) rfl (aA rfl) (aD hS rfl)),
      fun S hS => aB rfl (bR rfl rfl (aA rfl) rfl (aA rfl) (aD hS rfl)),
      fun S hS => aB rfl (bR rfl rfl (aA rfl) rfl (aA rfl) (aD hS rfl)),
      fun S hS => aB rfl (bR rfl rfl (aA rfl) rfl (aA rfl) (aD hS rfl)),
      fun S hS => aB rfl (bR rfl rfl (aA rfl) rfl (aA rfl) (aD hS rfl)),
      fun S hS => aB rfl (bR rfl rfl (aA rfl) rfl (aA rfl) (aD hS rfl)),
      fun S hS => aB rfl (aM rfl rfl (aA rfl) rfl (aA rfl) (aD hS rfl) c37),
      fun S hS => aB rfl (aR rfl (bO (v := .d (.lit (.bool true))) (aA rfl) (aC hS rfl) c37 rfl rfl)),
      fun S hS => aB rfl (aR rfl (aE (v := .d (.lit (.bool (true)))) (aA rfl) (aC hS rfl) rfl)),
      fun S hS => aB rfl (aM rfl rfl (aA rfl) rfl (aA rfl) (aD hS rfl) c45),
      fun S hS => aB rfl (aM rfl rfl (aA rfl) rfl (aA rfl) (aD hS rfl) c45),
      fun S hS => aB rfl (aM rfl rfl (aA rfl) rfl (aA rfl) (aD hS rfl) c45),
      fun S hS => aB rfl (aM rfl rfl (aA rfl) rfl (aA rfl) (aD hS rfl) c45),
      fun S hS => aB rfl (aM rfl rfl (aA rfl) rfl (aA rfl) (aD hS rfl) c45),
      fun S hS => aB rfl (aM rfl rfl (aA rfl) rfl (aA rfl) (aD hS rfl) c45),
      fun S hS => aB rfl (bR rfl rfl (aA rfl) rfl (aA rfl) (aD hS rfl)),
      fun S hS => aB rfl (bR rfl rfl (aA rfl) rfl (aA rfl) (aD hS rfl)),
      fun S hS => aB rfl (bR rfl rfl (aA rfl) rfl (aA rfl) (aD hS rfl)),
      fun S hS => aB rfl (bR rfl rfl (aA rfl) rfl (aA rfl) (aD hS rfl)),
      fun S hS => aB rfl (bR rfl rfl (aA rfl) rfl (aA rfl) (aD hS rfl)),
      fun S hS => aB rfl (bR rfl rfl (aA rfl) rfl (aA rfl) (aD hS rfl)),
      fun S hS => aB rfl (bR rfl rfl (aA rfl) rfl (aA rfl) (aD hS rfl)),
      fun S hS => aB rfl (bR rfl rfl (aA rfl) rfl (aA rfl) (aD hS rfl)),
      fun S hS => aB rfl (bR rfl rfl (aA rfl) rfl (aA rfl) (aD hS rfl)),
      fun S hS => aB rfl (bR rfl rfl (aA rfl) rfl (aA rfl) (aD hS rfl)),
      fun S hS => aB rfl (bR rfl rfl (aA rfl) rfl (aA rfl) (aD hS rfl)),
      fun S hS => aB rfl (bR rfl rfl (aA rfl) rfl (aA rfl) (aD hS rfl)),
      fun S hS => aB rfl (bR rfl rfl (aA rfl) rfl (aA rfl) (aD hS rfl)),
      fun S hS => aB rfl (bR rfl rfl (aA rfl) rfl (aA rfl) (aD hS rfl)),
      fun S hS => aB rfl (aM rfl rfl (aA rfl) rfl (aA rfl) (aD hS rfl) c45),
      fun S hS => aB rfl (aR rfl (bO (v := .d (.lit (.bool true))) (aA rfl) (aC hS rfl) c45 rfl rfl)), trivial⟩⟩
            · exact cL (aX rfl (bF ⟨rfl, rfl, rfl, rfl, rfl, rfl, rfl, rfl, trivial⟩))
           ·have h36 := bB c37 h36
            obtain ⟨b38, h39, h36⟩ := bind_some h36
            refine bM (!decide (x24.Two = (-2))) (fun c40 => ?_) (fun c40 => ?_)
            ·have h39 := bD c40 h39
             obtain ⟨x41, h42, h39⟩ := bind_some h39
             have h39 := Option.some.inj h39
             subst h39
             have h36 := Option.some.inj h36
             subst h36
             refine bM (!decide (x24.Two = x41)) (fun c45 => ?_) (fun c45 => ?_)
             ·have h44 := bD c45 h44
              have h44 := Option.some.inj h44
              subst h44
              refine ⟨[(85, 0, .bp b26 0 2), (86, 1, .d (.lit (.int .i64 x24.One))), (87, 2, .d (.lit (.bool ((!decide (x24.One = (-2))))))), (88, 3, .d (.lit (.bool ((!decide (x24.One = (-2))))))), (89, 4, .bp b26 0 2), (90, 5, .d (.lit (.int .i64 x24.One))), (91, 6, .d (.sl 1 (x28.map aO))), (92, 7, .bp b26 0 1), (93, 8, .d (.lit (.int .i64 x24.Place))), (94, 9, .d (.lit (.int .i64 ((w64 (2 * x24.Place)))))), (95, 10, .cp [.lit (.int .i64 x33)]), (96, 11, .d (.lit (.int .i64 x33))), (97, 12, .d (.lit (.bool ((!decide (x24.One = x33)))))), (98, 13, .d (.lit (.bool ((!decide (x24.One = x33)))))), (99, 14, .d (.lit (.bool (!decide (x24.One = x33))))), (100, 15, .bp b26 0 3), (101, 16, .d (.lit (.int .i64 x24.Two))), (102, 17, .d (.lit (.bool ((!decide (x24.Two = (-2))))))), (103, 18, .d (.lit (.bool ((!decide (x24.Two = (-2))))))), (104, 19, .bp b26 0 3), (105, 20, .d (.lit (.int .i64 x24.Two))), (106, 21, .d (.sl 1 (x28.map aO))), (107, 22, .bp b26 0 1), (108, 23, .d (.lit (.int .i64 x24.Place))), (109, 24, .d (.lit (.int .i64 ((w64 (2 * x24.Place)))))), (110, 25, .d (.lit (.int .i64 ((w64 ((w64 (2 * x24.Place)) + 1)))))), (111, 26, .cp [.lit (.int .i64 x41)]), (112, 27, .d (.lit (.int .i64 x41))), (113, 28, .d (.lit (.bool ((!decide (x24.Two = x41)))))), (114, 29, .d (.lit (.bool ((!decide (x24.Two = x41)))))), (115, 30, .d (.lit (.bool (!decide (x24.Two = x41))))), (116, 31, .d (.lit (.bool (!decide (x24.Two = x41))))), (117, 32, .tup []), (118, 33, .tup []), (119, 34, .tup []), (120, 35, .tup []), (121, 36, .tup []), (122, 37, .tup []), (123, 38, .tup []), (124, 39, .tup []), (125, 40, .tup []), (126, 41, .tup []), (127, 42, .tup []), (128, 43, .tup []), (129, 44, .tup []), (130, 45, .tup []), (131, 46, .tup []), (132, 47, .tup []), (133, 48, .tup []), (134, 49, .tup []), (135, 50, .tup []), (136, 51, .tup []), (137, 52, .tup []), (138, 53, .d (.lit (.bool true)))], ?_, ?_⟩
              · exact ⟨by kernel_rfl, by kernel_rfl, by kernel_rfl, by kernel_rfl, by kernel_rfl, [([], []), ([0], []), ([1], []), ([2], []), ([3], []), ([3, 4], []), ([3], []), ([3], []), ([3, 7], []), ([3, 8], []), ([3, 6, 9], []), ([3, 10], []), ([3, 5, 11], []), ([3, 12], []), ([13], []), ([14], []), ([14, 15], []), ([14, 16], []), ([14, 17], []), ([18], []), ([18, 19], []), ([18], []), ([18], []), ([18, 22], []), ([18, 23], []), ([18, 24], []), ([18, 21, 25], []), ([18, 26], []), ([18, 20, 27], []), ([14, 18, 28], []), ([14, 29], []), ([30], []), ([31], []), ([31], []), ([31, 32, 33], []), ([31, 34], []), ([31, 35], []), ([31, 36], []), ([37], []), ([37], []), ([37, 38, 39], []), ([37, 40], []), ([37], []), ([37], []), ([37, 43], []), ([37, 42, 44], []), ([37, 45], []), ([37], []), ([37, 47], []), ([37, 46, 48], []), ([37, 49], []), ([37, 41, 50], []), ([31, 37, 51], []), ([31, 52], [])], by kernel_rfl, ⟨fun S hS => aB rfl (aR rfl (aS (aA rfl) (aC hS rfl) dL)),
      fun S hS => aB rfl (aR rfl (aU (aA rfl) (aC hS rfl) (i := 1) rfl rfl aZ)),
      fun S hS => aB rfl (aR rfl (bE (aA rfl) (aC hS rfl) rfl rfl)),
      fun S hS => aB rfl (aR rfl (aE (v := .d (.lit (.bool ((!decide (x24.One = (-2))))))) (aA rfl) (aC hS rfl) rfl)),
      fun S hS => aB rfl (aG rfl rfl (aA rfl) (aD hS rfl) c32 (aS (aA rfl) (aC hS rfl) dL)),
      fun S hS => aB rfl (aG rfl rfl (aA rfl) (aD hS rfl) c32 (aU (aA rfl) (aC hS rfl) (i := 1) rfl rfl aZ)),
      fun S hS => aB rfl (aG rfl rfl (aA rfl) (aD hS rfl) c32 (aE (v := .d (.sl 1 (x28.map aO))) (aA rfl) (aC hS rfl) rfl)),
      fun S hS => aB rfl (aG rfl rfl (aA rfl) (aD hS rfl) c32 (aS (aA rfl) (aC hS rfl) dE)),
      fun S hS => aB rfl (aG rfl rfl (aA rfl) (aD hS rfl) c32 (aU (aA rfl) (aC hS rfl) (i := 1) rfl rfl aZ)),
      fun S hS => aB rfl (aG rfl rfl (aA rfl) (aD hS rfl) c32 (bL (aA rfl) rfl (aC hS rfl) rfl)),
      fun S hS => aB rfl (aG rfl rfl (aA rfl) (aD hS rfl) c32 (bA (aA rfl) (aC hS rfl) (aC hS rfl) bP.of (bJ aO h34))),
      fun S hS => aB rfl (aG rfl rfl (aA rfl) (aD hS rfl) c32 (bC (aA rfl) (aC hS rfl) aZ)),
      fun S hS => aB rfl (aG rfl rfl (aA rfl) (aD hS rfl) c32 (bE (aA rfl) (aC hS rfl) (aC hS rfl) rfl)),
      fun S hS => aB rfl (aR rfl (bO (v := .d (.lit (.bool ((!decide (x24.One = x33)))))) (aA rfl) (aC hS rfl) c32 (aC hS rfl) rfl)),
      fun S hS => aB rfl (aR rfl (aE (v := .d (.lit (.bool (!decide (x24.One = x33))))) (aA rfl) (aC hS rfl) rfl)),
      fun S hS => aB rfl (aG rfl rfl (aA rfl) (aD hS rfl) c37 (aS (aA rfl) (aC hS rfl) dQ)),
      fun S hS => aB rfl (aG rfl rfl (aA rfl) (aD hS rfl) c37 (aU (aA rfl) (aC hS rfl) (i := 1) rfl rfl aZ)),
      fun S hS => aB rfl (aG rfl rfl (aA rfl) (aD hS rfl) c37 (bE (aA rfl) (aC hS rfl) rfl rfl)),
      fun S hS => aB rfl (aG rfl rfl (aA rfl) (aD hS rfl) c37 (aE (v := .d (.lit (.bool ((!decide (x24.Two = (-2))))))) (aA rfl) (aC hS rfl) rfl)),
      fun S hS => aB rfl (aG rfl rfl (aA rfl) (aD hS rfl) c40 (aS (aA rfl) (aC hS rfl) dQ)),
      fun S hS => aB rfl (aG rfl rfl (aA rfl) (aD hS rfl) c40 (aU (aA rfl) (aC hS rfl) (i := 1) rfl rfl aZ)),
      fun S hS => aB rfl (aG rfl rfl (aA rfl) (aD hS rfl) c40 (aE (v := .d (.sl 1 (x28.map aO))) (aA rfl) (aC hS rfl) rfl)),
      fun S hS => aB rfl (aG rfl rfl (aA rfl) (aD hS rfl) c40 (aS (aA rfl) (aC hS rfl) dE)),
      fun S hS => aB rfl (aG rfl rfl (aA rfl) (aD hS rfl) c40 (aU (aA rfl) (aC hS rfl) (i := 1) rfl rfl aZ)),
      fun S hS => aB rfl (aG rfl rfl (aA rfl) (aD hS rfl) c40 (bL (aA rfl) rfl (aC hS rfl) rfl)),
      fun S hS => aB rfl (aG rfl rfl (aA rfl) (aD hS rfl) c40 (bL (aA rfl) (aC hS rfl) rfl rfl)),
      fun S hS => aB rfl (aG rfl rfl (aA rfl) (aD hS rfl) c40 (bA (aA rfl) (aC hS rfl) (aC hS rfl) bP.of (bJ aO h42))),
      fun S hS => aB rfl (aG rfl rfl (aA rfl) (aD hS rfl) c40 (bC (aA rfl) (aC hS rfl) aZ)),
      fun S hS => aB rfl (aG rfl rfl (aA rfl) (aD hS rfl) c40 (bE (aA rfl) (aC hS rfl) (aC hS rfl) rfl)),
      fun S hS => aB rfl (aG rfl rfl (aA rfl) (aD hS rfl) c37 (bO (v := .d (.lit (.bool ((!decide (x24.Two = x41)))))) (aA rfl) (aC hS rfl) c40 (aC hS rfl) rfl)),
      fun S hS => aB rfl (aR rfl (bH (v := .d (.lit (.bool (!decide (x24.Two = x41))))) (aA rfl) (aC hS rfl) c37 (aC hS rfl) rfl)),
      fun S hS => aB rfl (aR rfl (aE (v := .d (.lit (.bool (!decide (x24.Two = x41))))) (aA rfl) (aC hS rfl) rfl)),
      fun S hS => aB rfl (aM rfl rfl (aA rfl) rfl (aA rfl) (aD hS rfl) c45),
      fun S hS => aB rfl (aM rfl rfl (aA rfl) rfl (aA rfl) (aD hS rfl) c45),
      fun S hS => aB rfl (aM rfl rfl (aA rfl) rfl (aA rfl) (aD hS rfl) c45),
      fun S hS => aB rfl (aM rfl rfl (aA rfl) rfl (aA rfl) (aD hS rfl) c45),
      fun S hS => aB rfl (aM rfl rfl (aA rfl) rfl (aA rfl) (aD hS rfl) c45),
      fun S hS => aB rfl (aM rfl rfl (aA rfl) rfl (aA rfl) (aD hS rfl) c45),
      fun S hS => aB rfl (bR rfl rfl (aA rfl) rfl (aA rfl) (aD hS rfl)),
      fun S hS => aB rfl (bR rfl rfl (aA rfl) rfl (aA rfl) (aD hS rfl)),
      fun S hS => aB rfl (bR rfl rfl (aA rfl) rfl (aA rfl) (aD hS rfl)),
      fun S hS => aB rfl (bR rfl rfl (aA rfl) rfl (aA rfl) (aD hS rfl)),
      fun S hS => aB rfl (bR rfl rfl (aA rfl) rfl (aA rfl) (aD hS rfl)),
      fun S hS => aB rfl (bR rfl rfl (aA rfl) rfl (aA rfl) (aD hS rfl)),
      fun S hS => aB rfl (bR rfl rfl (aA rfl) rfl (aA rfl) (aD hS rfl)),
      fun S hS => aB rfl (bR rfl rfl (aA rfl) rfl (aA rfl) (aD hS rfl)),
      fun S hS => aB rfl (bR rfl rfl (aA rfl) rfl (aA rfl) (aD hS rfl)),
      fun S hS => aB rfl (bR rfl rfl (aA rfl) rfl (aA rfl) (aD hS rfl)),
      fun S hS => aB rfl (bR rfl rfl (aA rfl) rfl (aA rfl) (aD hS rfl)),
      fun S hS => aB rfl (bR rfl rfl (aA rfl) rfl (aA rfl) (aD hS rfl)),
      fun S hS => aB rfl (bR rfl rfl (aA rfl) rfl (aA rfl) (aD hS rfl)),
      fun S hS => aB rfl (bR rfl rfl (aA rfl) rfl (aA rfl) (aD hS rfl)),
      fun S hS => aB rfl (aM rfl rfl (aA rfl) rfl (aA rfl) (aD hS rfl) c45),
      fun S hS => aB rfl (aR rfl (bO (v := .d (.lit (.bool true))) (aA rfl) (aC hS rfl) c45 rfl rfl)), trivial⟩⟩
              · exact cL (aX rfl (bF ⟨rfl, rfl, rfl, rfl, rfl, rfl, rfl, rfl, trivial⟩))
             ·have h44 := bB c45 h44
              obtain ⟨x46, h47, h44⟩ := bind_some h44
              obtain ⟨b48, h49, h44⟩ := bind_some h44
              refine bM (!decide (x46 = (-2))) (fun c50 => ?_) (fun c50 => ?_)
              ·have h49 := bD c50 h49
               obtain ⟨x51, h52, h49⟩ := bind_some h49
               obtain ⟨x53, h54, h49⟩ := bind_some h49
               obtain ⟨x55, h56, h49⟩ := bind_some h49
               have h49 := Option.some.inj h49
               subst h49
               have h44 := Option.some.inj h44
               subst h44
               refine ⟨[(85, 0, .bp b26 0 2), (86, 1, .d (.lit (.int .i64 x24.One))), (87, 2, .d (.lit (.bool ((!decide (x24.One = (-2))))))), (88, 3, .d (.lit (.bool ((!decide (x24.One = (-2))))))), (89, 4, .bp b26 0 2), (90, 5, .d (.lit (.int .i64 x24.One))), (91, 6, .d (.sl 1 (x28.map aO))), (92, 7, .bp b26 0 1), (93, 8, .d (.lit (.int .i64 x24.Place))), (94, 9, .d (.lit (.int .i64 ((w64 (2 * x24.Place)))))), (95, 10, .cp [.lit (.int .i64 x33)]), (96, 11, .d (.lit (.int .i64 x33))), (97, 12, .d (.lit (.bool ((!decide (x24.One = x33)))))), (98, 13, .d (.lit (.bool ((!decide (x24.One = x33)))))), (99, 14, .d (.lit (.bool (!decide (x24.One = x33))))), (100, 15, .bp b26 0 3), (101, 16, .d (.lit (.int .i64 x24.Two))), (102, 17, .d (.lit (.bool ((!decide (x24.Two = (-2))))))), (103, 18, .d (.lit (.bool ((!decide (x24.Two = (-2))))))), (104, 19, .bp b26 0 3), (105, 20, .d (.lit (.int .i64 x24.Two))), (106, 21, .d (.sl 1 (x28.map aO))), (107, 22, .bp b26 0 1), (108, 23, .d (.lit (.int .i64 x24.Place))), (109, 24, .d (.lit (.int .i64 ((w64 (2 * x24.Place)))))), (110, 25, .d (.lit (.int .i64 ((w64 ((w64 (2 * x24.Place)) + 1)))))), (111, 26, .cp [.lit (.int .i64 x41)]), (112, 27, .d (.lit (.int .i64 x41))), (113, 28, .d (.lit (.bool ((!decide (x24.Two = x41)))))), (114, 29, .d (.lit (.bool ((!decide (x24.Two = x41)))))), (115, 30, .d (.lit (.bool (!decide (x24.Two = x41))))), (116, 31, .d (.lit (.bool (!decide (x24.Two = x41))))), (117, 32, .d (.sl 1 (r18.2.1.map aO))), (118, 33, .d (.lit (.int .i64 i_0_21))), (119, 34, .cp [.lit (.int .i64 x46)]), (120, 35, .d (.lit (.int .i64 x46))), (121, 36, .d (.lit (.bool ((!decide (x46 = (-2))))))), (122, 37, .d (.lit (.bool ((!decide (x46 = (-2))))))), (123, 38, .d (.sl 1 (r18.2.1.map aO))), (124, 39, .d (.lit (.int .i64 i_0_21))), (125, 40, .cp [.lit (.int .i64 x51)]), (126, 41, .d (.lit (.int .i64 x51))), (127, 42, .d (.sl 1 (course_2.map cG))), (128, 43, .bp b26 0 0), (129, 44, .d (.lit (.int .i64 x24.Round))), (130, 45, .cp [.sl 1 (x53.map aO)]), (131, 46, .d (.sl 1 (x53.map aO))), (132, 47, .bp b26 0 1), (133, 48, .d (.lit (.int .i64 x24.Place))), (134, 49, .cp [.lit (.int .i64 x55)]), (135, 50, .d (.lit (.int .i64 x55))), (136, 51, .d (.lit (.bool ((!decide (x51 = x55)))))), (137, 52, .d (.lit (.bool ((!decide (x51 = x55)))))), (138, 53, .d (.lit (.bool (!decide (x51 = x55)))))], ?_, ?_⟩
               · exact ⟨by kernel_rfl, by kernel_rfl, by kernel_rfl, by kernel_rfl, by kernel_rfl, [([], []), ([0], []), ([1], []), ([2], []), ([3], []), ([3, 4], []), ([3], []), ([3], []), ([3, 7], []), ([3, 8], []), ([3, 6, 9], []), ([3, 10], []), ([3, 5, 11], []), ([3, 12], []), ([13], []), ([14], []), ([14, 15], []), ([14, 16], []), ([14, 17], []), ([18], []), ([18, 19], []), ([18], []), ([18], []), ([18, 22], []), ([18, 23], []), ([18, 24], []), ([18, 21, 25], []), ([18, 26], []), ([18, 20, 27], []), ([14, 18, 28], []), ([14, 29], []), ([30], []), ([31], []), ([31], []), ([31, 32, 33], []), ([31, 34], []), ([31, 35], []), ([31, 36], []), ([37], []), ([37], []), ([37, 38, 39], []), ([37, 40], []), ([37], []), ([37], []), ([37, 43], []), ([37, 42, 44], []), ([37, 45], []), ([37], []), ([37, 47], []), ([37, 46, 48], []), ([37, 49], []), ([37, 41, 50], []), ([31, 37, 51], []), ([31, 52], [])], by kernel_rfl, ⟨fun S hS => aB rfl (aR rfl (aS (aA rfl) (aC hS rfl) dL)),
      fun S hS => aB rfl (aR rfl (aU (aA rfl) (aC hS rfl) (i := 1) rfl rfl aZ)),
      fun S hS => aB rfl (aR rfl (bE (aA rfl) (aC hS rfl) rfl rfl)),
      fun S hS => aB rfl (aR rfl (aE (v := .d (.lit (.bool ((!decide (x24.One = (-2))))))) (aA rfl) (aC hS rfl) rfl)),
      fun S hS => aB rfl (aG rfl rfl (aA rfl) (aD hS rfl) c32 (aS (aA rfl) (aC hS rfl) dL)),
      fun S hS => aB rfl (aG rfl rfl (aA rfl) (aD hS rfl) c32 (aU (aA rfl) (aC hS rfl) (i := 1) rfl rfl aZ)),
      fun S hS => aB rfl (aG rfl rfl (aA rfl) (aD hS rfl) c32 (aE (v := .d (.sl 1 (x28.map aO))) (aA rfl) (aC hS rfl) rfl)),
      fun S hS => aB rfl (aG rfl rfl (aA rfl) (aD hS rfl) c32 (aS (aA rfl) (aC hS rfl) dE)),
      fun S hS => aB rfl (aG rfl rfl (aA rfl) (aD hS rfl) c32 (aU (aA rfl) (aC hS rfl) (i := 1) rfl rfl aZ)),
      fun S hS => aB rfl (aG rfl rfl (aA rfl) (aD hS rfl) c32 (bL (aA rfl) rfl (aC hS rfl) rfl)),
      fun S hS => aB rfl (aG rfl rfl (aA rfl) (aD hS rfl) c32 (bA (aA rfl) (aC hS rfl) (aC hS rfl) bP.of (bJ aO h34))),
      fun S hS => aB rfl (aG rfl rfl (aA rfl) (aD hS rfl) c32 (bC (aA rfl) (aC hS rfl) aZ)),
      fun S hS => aB rfl (aG rfl rfl (aA rfl) (aD hS rfl) c32 (bE (aA rfl) (aC hS rfl) (aC hS rfl) rfl)),
      fun S hS => aB rfl (aR rfl (bO (v := .d (.lit (.bool ((!decide (x24.One = x33)))))) (aA rfl) (aC hS rfl) c32 (aC hS rfl) rfl)),
      fun S hS => aB rfl (aR rfl (aE (v := .d (.lit (.bool (!decide (x24.One = x33))))) (aA rfl) (aC hS rfl) rfl)),
      fun S hS => aB rfl (aG rfl rfl (aA rfl) (aD hS rfl) c37 (aS (aA rfl) (aC hS rfl) dQ)),
      fun S hS => aB rfl (aG rfl rfl (aA rfl) (aD hS rfl) c37 (aU (aA rfl) (aC hS rfl) (i := 1) rfl rfl aZ)),
      fun S hS => aB rfl (aG rfl rfl (aA rfl) (aD hS rfl) c37 (bE (aA rfl) (aC hS rfl) rfl rfl)),
      fun S hS => aB rfl (aG rfl rfl (aA rfl) (aD hS rfl) c37 (aE (v := .d (.lit (.bool ((!decide (x24.Two = (-2))))))) (aA rfl) (aC hS rfl) rfl)),
      fun S hS => aB rfl (aG rfl rfl (aA rfl) (aD hS rfl) c40 (aS (aA rfl) (aC hS rfl) dQ)),
      fun S hS => aB rfl (aG rfl rfl (aA rfl) (aD hS rfl) c40 (aU (aA rfl) (aC hS rfl) (i := 1) rfl rfl aZ)),
      fun S hS => aB rfl (aG rfl rfl (aA rfl) (aD hS rfl) c40 (aE (v := .d (.sl 1 (x28.map aO))) (aA rfl) (aC hS rfl) rfl)),
      fun S hS => aB rfl (aG rfl rfl (aA rfl) (aD hS rfl) c40 (aS (aA rfl) (aC hS rfl) dE)),
      fun S hS => aB rfl (aG rfl rfl (aA rfl) (aD hS rfl) c40 (aU (aA rfl) (aC hS rfl) (i := 1) rfl rfl aZ)),
      fun S hS => aB rfl (aG rfl rfl (aA rfl) (aD hS rfl) c40 (bL (aA rfl) rfl (aC hS rfl) rfl)),
      fun S hS => aB rfl (aG rfl rfl (aA rfl) (aD hS rfl) c40 (bL (aA rfl) (aC hS rfl) rfl rfl)),
      fun S hS => aB rfl (aG rfl rfl (aA rfl) (aD hS rfl) c40 (bA (aA rfl) (aC hS rfl) (aC hS rfl) bP.of (bJ aO h42))),
      fun S hS => aB rfl (aG rfl rfl (aA rfl) (aD hS rfl) c40 (bC (aA rfl) (aC hS rfl) aZ)),
      fun S hS => aB rfl (aG rfl rfl (aA rfl) (aD hS rfl) c40 (bE (aA rfl) (aC hS rfl) (aC hS rfl) rfl)),
      fun S hS => aB rfl (aG rfl rfl (aA rfl) (aD hS rfl) c37 (bO (v := .d (.lit (.bool ((!decide (x24.Two = x41)))))) (aA rfl) (aC hS rfl) c40 (aC hS rfl) rfl)),
      fun S hS => aB rfl (aR rfl (bH (v := .d (.lit (.bool (!decide (x24.Two = x41))))) (aA rfl) (aC hS rfl) c37 (aC hS rfl) rfl)),
      fun S hS => aB rfl (aR rfl (aE (v := .d (.lit (.bool (!decide (x24.Two = x41))))) (aA rfl) (aC hS rfl) rfl)),
      fun S hS => aB rfl (aG rfl rfl (aA rfl) (aD hS rfl) c45 (aE (v := .d (.sl 1 (r18.2.1.map aO))) (aA rfl) (aC hS rfl) rfl)),
      fun S hS => aB rfl (aG rfl rfl (aA rfl) (aD hS rfl) c45 (aE (v := .d (.lit (.int .i64 i_0_21))) (aA rfl) (aC hS rfl) rfl)),
      fun S hS => aB rfl (aG rfl rfl (aA rfl) (aD hS rfl) c45 (bA (aA rfl) (aC hS rfl) (aC hS rfl) bP.of (bJ aO h47))),
      fun S hS => aB rfl (aG rfl rfl (aA rfl) (aD hS rfl) c45 (bC (aA rfl) (aC hS rfl) aZ)),
      fun S hS => aB rfl (aG rfl rfl (aA rfl) (aD hS rfl) c45 (bE (aA rfl) (aC hS rfl) rfl rfl)),
      fun S hS => aB rfl (aG rfl rfl (aA rfl) (aD hS rfl) c45 (aE (v := .d (.lit (.bool ((!decide (x46 = (-2))))))) (aA rfl) (aC hS rfl) rfl)),
      fun S hS => aB rfl (aG rfl rfl (aA rfl) (aD hS rfl) c50 (aE (v := .d (.sl 1 (r18.2.1.map aO))) (aA rfl) (aC hS rfl) rfl)),
      fun S hS => aB rfl (aG rfl rfl (aA rfl) (aD hS rfl) c50 (aE (v := .d (.lit (.int .i64 i_0_21))) (aA rfl) (aC hS rfl) rfl)),
      fun S hS => aB rfl (aG rfl rfl (aA rfl) (aD hS rfl) c50 (bA (aA rfl) (aC hS rfl) (aC hS rfl) bP.of (bJ aO h52))),
      fun S hS => aB rfl (aG rfl rfl (aA rfl) (aD hS rfl) c50 (bC (aA rfl) (aC hS rfl) aZ)),
      fun S hS => aB rfl (aG rfl rfl (aA rfl) (aD hS rfl) c50 (aE (v := .d (.sl 1 (course_2.map cG))) (aA rfl) (aC hS rfl) rfl)),
      fun S hS => aB rfl (aG rfl rfl (aA rfl) (aD hS rfl) c50 (aS (aA rfl) (aC hS rfl) iT)),
      fun S hS => aB rfl (aG rfl rfl (aA rfl) (aD hS rfl) c50 (aU (aA rfl) (aC hS rfl) (i := 1) rfl rfl aZ)),
      fun S hS => aB rfl (aG rfl rfl (aA rfl) (aD hS rfl) c50 (bA (aA rfl) (aC hS rfl) (aC hS rfl) jG.of (bJ cG h54))),
      fun S hS => aB rfl (aG rfl rfl (aA rfl) (aD hS rfl) c50 (bC (aA rfl) (aC hS rfl) cU)),
      fun S hS => aB rfl (aG rfl rfl (aA rfl) (aD hS rfl) c50 (aS (aA rfl) (aC hS rfl) dE)),
      fun S hS => aB rfl (aG rfl rfl (aA rfl) (aD hS rfl) c50 (aU (aA rfl) (aC hS rfl) (i := 1) rfl rfl aZ)),
      fun S hS => aB rfl (aG rfl rfl (aA rfl) (aD hS rfl) c50 (bA (aA rfl) (aC hS rfl) (aC hS rfl) bP.of (bJ aO h56))),
      fun S hS => aB rfl (aG rfl rfl (aA rfl) (aD hS rfl) c50 (bC (aA rfl) (aC hS rfl) aZ)),
      fun S hS => aB rfl (aG rfl rfl (aA rfl) (aD hS rfl) c50 (bE (aA rfl) (aC hS rfl) (aC hS rfl) rfl)),
      fun S hS => aB rfl (aG rfl rfl (aA rfl) (aD hS rfl) c45 (bO (v := .d (.lit (.bool ((!decide (x51 = x55)))))) (aA rfl) (aC hS rfl) c50 (aC hS rfl) rfl)),
      fun S hS => aB rfl (aR rfl (bH (v := .d (.lit (.bool (!decide (x51 = x55))))) (aA rfl) (aC hS rfl) c45 (aC hS rfl) rfl)), trivial⟩⟩
               · exact cL (aX rfl (bF ⟨rfl, rfl, rfl, rfl, rfl, rfl, rfl, rfl, trivial⟩))
              ·have h49 := bB c50 h49
               have h49 := Option.some.inj h49
               subst h49
               have h44 := Option.some.inj h44
               subst h44
               refine ⟨[(85, 0, .bp b26 0 2), (86, 1, .d (.lit (.int .i64 x24.One))), (87, 2, .d (.lit (.bool ((!decide (x24.One = (-2))))))), (88, 3, .d (.lit (.bool ((!decide (x24.One = (-2))))))), (89, 4, .bp b26 0 2), (90, 5, .d (.lit (.int .i64 x24.One))), (91, 6, .d (.sl 1 (x28.map aO))), (92, 7, .bp b26 0 1), (93, 8, .d (.lit (.int .i64 x24.Place))), (94, 9, .d (.lit (.int .i64 ((w64 (2 * x24.Place)))))), (95, 10, .cp [.lit (.int .i64 x33)]), (96, 11, .d (.lit (.int .i64 x33))), (97, 12, .d (.lit (.bool ((!decide (x24.One = x33)))))), (98, 13, .d (.lit (.bool ((!decide (x24.One = x33)))))), (99, 14, .d (.lit (.bool (!decide (x24.One = x33))))), (100, 15, .bp b26 0 3), (101, 16, .d (.lit (.int .i64 x24.Two))), (102, 17, .d (.lit (.bool ((!decide (x24.Two = (-2))))))), (103, 18, .d (.lit (.bool ((!decide (x24.Two = (-2))))))), (104, 19, .bp b26 0 3), (105, 20, .d (.lit (.int .i64 x24.Two))), (106, 21, .d (.sl 1 (x28.map aO))), (107, 22, .bp b26 0 1), (108, 23, .d (.lit (.int .i64 x24.Place))), (109, 24, .d (.lit (.int .i64 ((w64 (2 * x24.Place)))))), (110, 25, .d (.lit (.int .i64 ((w64 ((w64 (2 * x24.Place)) + 1)))))), (111, 26, .cp [.lit (.int .i64 x41)]), (112, 27, .d (.lit (.int .i64 x41))), (113, 28, .d (.lit (.bool ((!decide (x24.Two = x41)))))), (114, 29, .d (.lit (.bool ((!decide (x24.Two = x41)))))), (115, 30, .d (.lit (.bool (!decide (x24.Two = x41))))), (116, 31, .d (.lit (.bool (!decide (x24.Two = x41))))), (117, 32, .d (.sl 1 (r18.2.1.map aO))), (118, 33, .d (.lit (.int .i64 i_0_21))), (119, 34, .cp [.lit (.int .i64 x46)]), (120, 35, .d (.lit (.int .i64 x46))), (121, 36, .d (.lit (.bool ((!decide (x46 = (-2))))))), (122, 37, .d (.lit (.bool ((!decide (x46 = (-2))))))), (123, 38, .tup []), (124, 39, .tup []), (125, 40, .tup []), (126, 41, .tup []), (127, 42, .tup []), (128, 43, .tup []), (129, 44, .tup []), (130, 45, .tup []), (131, 46, .tup []), (132, 47, .tup []), (133, 48, .tup []), (134, 49, .tup []), (135, 50, .tup []), (136, 51, .tup []), (137, 52, .d (.lit (.bool false))), (138, 53, .d (.lit (.bool (false))))], ?_, ?_⟩
               · exact ⟨by kernel_rfl, by kernel_rfl, by kernel_rfl, by kernel_rfl, by kernel_rfl, [([], []), ([0], []), ([1], []), ([2], []), ([3], []), ([3, 4], []), ([3], []), ([3], []), ([3, 7], []), ([3, 8], []), ([3, 6, 9], []), ([3, 10], []), ([3, 5, 11], []), ([3, 12], []), ([13], []), ([14], []), ([14, 15], []), ([14, 16], []), ([14, 17], []), ([18], []), ([18, 19], []), ([18], []), ([18], []), ([18, 22], []), ([18, 23], []), ([18, 24], []), ([18, 21, 25], []), ([18, 26], []), ([18, 20, 27], []), ([14, 18, 28], []), ([14, 29], []), ([30], []), ([31], []), ([31], []), ([31, 32, 33], []), ([31, 34], []), ([31, 35], []), ([31, 36], []), ([37], []), ([37], []), ([37, 38, 39], []), ([37, 40], []), ([37], []), ([37], []), ([37, 43], []), ([37, 42, 44], []), ([37, 45], []), ([37], []), ([37, 47], []), ([37, 46, 48], []), ([37, 49], []), ([37, 41, 50], []), ([31, 37, 51], []), ([31, 52], [])], by kernel_rfl, ⟨fun S hS => aB rfl (aR rfl (aS (aA rfl) (aC hS rfl) dL)),
      fun S hS => aB rfl (aR rfl (aU (aA rfl) (aC hS rfl) (i := 1) rfl rfl aZ)),
      fun S hS => aB rfl (aR rfl (bE (aA rfl) (aC hS rfl) rfl rfl)),
      fun S hS => aB rfl (aR rfl (aE (v := .d (.lit (.bool ((!decide (x24.One = (-2))))))) (aA rfl) (aC hS rfl) rfl)),
      fun S hS => aB rfl (aG rfl rfl (aA rfl) (aD hS rfl) c32 (aS (aA rfl) (aC hS rfl) dL)),
      fun S hS => aB rfl (aG rfl rfl (aA rfl) (aD hS rfl) c32 (aU (aA rfl) (aC hS rfl) (i := 1) rfl rfl aZ)),
      fun S hS => aB rfl (aG rfl rfl (aA rfl) (aD hS rfl) c32 (aE (v := .d (.sl 1 (x28.map aO))) (aA rfl) (aC hS rfl) rfl)),
      fun S hS => aB rfl (aG rfl rfl (aA rfl) (aD hS rfl) c32 (aS (aA rfl) (aC hS rfl) dE)),
      fun S hS => aB rfl (aG rfl rfl (aA rfl) (aD hS rfl) c32 (aU (aA rfl) (aC hS rfl) (i := 1) rfl rfl aZ)),
      fun S hS => aB rfl (aG rfl rfl (aA rfl) (aD hS rfl) c32 (bL (aA rfl) rfl (aC hS rfl) rfl)),
      fun S hS => aB rfl (aG rfl rfl (aA rfl) (aD hS rfl) c32 (bA (aA rfl) (aC hS rfl) (aC hS rfl) bP.of (bJ aO h34))),
      fun S hS => aB rfl (aG rfl rfl (aA rfl) (aD hS rfl) c32 (bC (aA rfl) (aC hS rfl) aZ)),
      fun S hS => aB rfl (aG rfl rfl (aA rfl) (aD hS rfl) c32 (bE (aA rfl) (aC hS rfl) (aC hS rfl) rfl)),
      fun S hS => aB rfl (aR rfl (bO (v := .d (.lit (.bool ((!decide (x24.One = x33)))))) (aA rfl) (aC hS rfl) c32 (aC hS rfl) rfl)),
      fun S hS => aB rfl (aR rfl (aE (v := .d (.lit (.bool (!decide (x24.One = x33))))) (aA rfl) (aC hS rfl) rfl)),
      fun S hS => aB rfl (aG rfl rfl (aA rfl) (aD hS rfl) c37 (aS (aA rfl) (aC hS rfl) dQ)),
      fun S hS => aB rfl (aG rfl rfl (aA rfl) (aD hS rfl) c37 (aU (aA rfl) (aC hS rfl) (i := 1) rfl rfl aZ)),
      fun S hS => aB rfl (aG rfl rfl (aA rfl) (aD hS rfl) c37 (bE (aA rfl) (aC hS rfl) rfl rfl)),
      fun S hS => aB rfl (aG rfl rfl (aA rfl) (aD hS rfl) c37 (aE (v := .d (.lit (.bool ((!decide (x24.Two = (-2))))))) (aA rfl) (aC hS rfl) rfl)),
      fun S hS => aB rfl (aG rfl rfl (aA rfl) (aD hS rfl) c40 (aS (aA rfl) (aC hS rfl) dQ)),
      fun S hS => aB rfl (aG rfl rfl (aA rfl) (aD hS rfl) c40 (aU (aA rfl) (aC hS rfl) (i := 1) rfl rfl aZ)),
      fun S hS => aB rfl (aG rfl rfl (aA rfl) (aD hS rfl) c40 (aE (v := .d (.sl 1 (x28.map aO))) (aA rfl) (aC hS rfl) rfl)),
      fun S hS => aB rfl (aG rfl rfl (aA rfl) (aD hS rfl) c40 (aS (aA rfl) (aC hS rfl) dE)),
      fun S hS => aB rfl (aG rfl rfl (aA rfl) (aD hS rfl) c40 (aU (aA rfl) (aC hS rfl) (i := 1) rfl rfl aZ)),
      fun S hS => aB rfl (aG rfl rfl (aA rfl) (aD hS rfl) c40 (bL (aA rfl) rfl (aC hS rfl) rfl)),
      fun S hS => aB rfl (aG rfl rfl (aA rfl) (aD hS rfl) c40 (bL (aA rfl) (aC hS rfl) rfl rfl)),
      fun S hS => aB rfl (aG rfl rfl (aA rfl) (aD hS rfl) c40 (bA (aA rfl) (aC hS rfl) (aC hS rfl) bP.of (bJ aO h42))),
      fun S hS => aB rfl (aG rfl rfl (aA rfl) (aD hS rfl) c40 (bC (aA rfl) (aC hS rfl) aZ)),
      fun S hS => aB rfl (aG rfl rfl (aA rfl) (aD hS rfl) c40 (bE (aA rfl) (aC hS rfl) (aC hS rfl) rfl)),
      fun S hS => aB rfl (aG rfl rfl (aA rfl) (aD hS rfl) c37 (bO (v := .d (.lit (.bool ((!decide (x24.Two = x41)))))) (aA rfl) (aC hS rfl) c40 (aC hS rfl) rfl)),
      fun S hS => aB rfl (aR rfl (bH (v := .d (.lit (.bool (!decide (x24.Two = x41))))) (aA rfl) (aC hS rfl) c37 (aC hS rfl) rfl)),
      fun S hS => aB rfl (aR rfl (aE (v := .d (.lit (.bool (!decide (x24.Two = x41))))) (aA rfl) (aC hS rfl) rfl)),
      fun S hS => aB rfl (aG rfl rfl (aA rfl) (aD hS rfl) c45 (aE (v := .d (.sl 1 (r18.2.1.map aO))) (aA rfl) (aC hS rfl) rfl)),
      fun S hS => aB rfl (aG rfl rfl (aA rfl) (aD hS rfl) c45 (aE (v := .d (.lit (.int .i64 i_0_21))) (aA rfl) (aC hS rfl) rfl)),
      fun S hS => aB rfl (aG rfl rfl (aA rfl) (aD hS rfl) c45 (bA (aA rfl) (aC hS rfl) (aC hS rfl) bP.of (bJ aO h47))),
      fun S hS => aB rfl (aG rfl rfl (aA rfl) (aD hS rfl) c45 (bC (aA rfl) (aC hS rfl) aZ)),
      fun S hS => aB rfl (aG rfl rfl (aA rfl) (aD hS rfl) c45 (bE (aA rfl) (aC hS rfl) rfl rfl)),
      fun S hS => aB rfl (aG rfl rfl (aA rfl) (aD hS rfl) c45 (aE (v := .d (.lit (.bool ((!decide (x46 = (-2))))))) (aA rfl) (aC hS rfl) rfl)),
      fun S hS => aB rfl (aM rfl rfl (aA rfl) rfl (aA rfl) (aD hS rfl) c50),
      fun S hS => aB rfl (aM rfl rfl (aA rfl) rfl (aA rfl) (aD hS rfl) c50),
      fun S hS => aB rfl (aM rfl rfl (aA rfl) rfl (aA rfl) (aD hS rfl) c50),
      fun S hS => aB rfl (aM rfl rfl (aA rfl) rfl (aA rfl) (aD hS rfl) c50),
      fun S hS => aB rfl (aM rfl rfl (aA rfl) rfl (aA rfl) (aD hS rfl) c50),
      fun S hS => aB rfl (aM rfl rfl (aA rfl) rfl (aA rfl) (aD hS rfl) c50),
      fun S hS => aB rfl (aM rfl rfl (aA rfl) rfl (aA rfl) (aD hS rfl) c50),
      fun S hS => aB rfl (aM rfl rfl (aA rfl) rfl (aA rfl) (aD hS rfl) c50),
      fun S hS => aB rfl (aM rfl rfl (aA rfl) rfl (aA rfl) (aD hS rfl) c50),
      fun S hS => aB rfl (aM rfl rfl (aA rfl) rfl (aA rfl) (aD hS rfl) c50),
      fun S hS => aB rfl (aM rfl rfl (aA rfl) rfl (aA rfl) (aD hS rfl) c50),
      fun S hS => aB rfl (aM rfl rfl (aA rfl) rfl (aA rfl) (aD hS rfl) c50),
      fun S hS => aB rfl (aM rfl rfl (aA rfl) rfl (aA rfl) (aD hS rfl) c50),
      fun S hS => aB rfl (aM rfl rfl (aA rfl) rfl (aA rfl) (aD hS rfl) c50),
      fun S hS => aB rfl (aG rfl rfl (aA rfl) (aD hS rfl) c45 (bH (v := .d (.lit (.bool false))) (aA rfl) (aC hS rfl) c50 rfl rfl)),
      fun S hS => aB rfl (aR rfl (bH (v := .d (.lit (.bool (false)))) (aA rfl) (aC hS rfl) c45 (aC hS rfl) rfl)), trivial⟩⟩
               · exact cL (aX rfl (bF ⟨rfl, rfl, rfl, rfl, rfl, rfl, rfl, rfl, trivial⟩))
            ·have h39 := bB c40 h39
             have h39 := Option.some.inj h39
             subst h39
             have h36 := Option.some.inj h36
             subst h36
             have c45 : false = false := rfl
             have h44 := bB c45 h44
             obtain ⟨x46, h47, h44⟩ := bind_some h44
             obtain ⟨b48, h49, h44⟩ := bind_some h44
             refine bM (!decide (x46 = (-2))) (fun c50 => ?_) (fun c50 => ?_)
             ·have h49 := bD c50 h49
              obtain ⟨x51, h52, h49⟩ := bind_some h49
              obtain ⟨x53, h54, h49⟩ := bind_some h49
              obtain ⟨x55, h56, h49⟩ := bind_some h49
              have h49 := Option.some.inj h49
              subst h49
              have h44 := Option.some.inj h44
              subst h44
              refine ⟨[(85, 0, .bp b26 0 2), (86, 1, .d (.lit (.int .i64 x24.One))), (87, 2, .d (.lit (.bool ((!decide (x24.One = (-2))))))), (88, 3, .d (.lit (.bool ((!decide (x24.One = (-2))))))), (89, 4, .bp b26 0 2), (90, 5, .d (.lit (.int .i64 x24.One))), (91, 6, .d (.sl 1 (x28.map aO))), (92, 7, .bp b26 0 1), (93, 8, .d (.lit (.int .i64 x24.Place))), (94, 9, .d (.lit (.int .i64 ((w64 (2 * x24.Place)))))), (95, 10, .cp [.lit (.int .i64 x33)]), (96, 11, .d (.lit (.int .i64 x33))), (97, 12, .d (.lit (.bool ((!decide (x24.One = x33)))))), (98, 13, .d (.lit (.bool ((!decide (x24.One = x33)))))), (99, 14, .d (.lit (.bool (!decide (x24.One = x33))))), (100, 15, .bp b26 0 3), (101, 16, .d (.lit (.int .i64 x24.Two))), (102, 17, .d (.lit (.bool ((!decide (x24.Two = (-2))))))), (103, 18, .d (.lit (.bool ((!decide (x24.Two = (-2))))))), (104, 19, .tup []), (105, 20, .tup []), (106, 21, .tup []), (107, 22, .tup []), (108, 23, .tup []), (109, 24, .tup []), (110, 25, .tup []), (111, 26, .tup []), (112, 27, .tup []), (113, 28, .tup []), (114, 29, .d (.lit (.bool false))), (115, 30, .d (.lit (.bool (false)))), (116, 31, .d (.lit (.bool (false)))), (117, 32, .d (.sl 1 (r18.2.1.map aO))), (118, 33, .d (.lit (.int .i64 i_0_21))), (119, 34, .cp [.lit (.int .i64 x46)]), (120, 35, .d (.lit (.int .i64 x46))), (121, 36, .d (.lit (.bool ((!decide (x46 = (-2))))))), (122, 37, .d (.lit (.bool ((!decide (x46 = (-2))))))), (123, 38, .d (.sl 1 (r18.2.1.map aO))), (124, 39, .d (.lit (.int .i64 i_0_21))), (125, 40, .cp [.lit (.int .i64 x51)]), (126, 41, .d (.lit (.int .i64 x51))), (127, 42, .d (.sl 1 (course_2.map cG))), (128, 43, .bp b26 0 0), (129, 44, .d (.lit (.int .i64 x24.Round))), (130, 45, .cp [.sl 1 (x53.map aO)]), (131, 46, .d (.sl 1 (x53.map aO))), (132, 47, .bp b26 0 1), (133, 48, .d (.lit (.int .i64 x24.Place))), (134, 49, .cp [.lit (.int .i64 x55)]), (135, 50, .d (.lit (.int .i64 x55))), (136, 51, .d (.lit (.bool ((!decide (x51 = x55)))))), (137, 52, .d (.lit (.bool ((!decide (x51 = x55)))))), (138, 53, .d (.lit (.bool (!decide (x51 = x55)))))], ?_, ?_⟩
              · exact ⟨by kernel_rfl, by kernel_rfl, by kernel_rfl, by kernel_rfl, by kernel_rfl, [([], []), ([0], []), ([1], []), ([2], []), ([3], []), ([3, 4], []), ([3], []), ([3], []), ([3, 7], []), ([3, 8], []), ([3, 6, 9], []), ([3, 10], []), ([3, 5, 11], []), ([3, 12], []), ([13], []), ([14], []), ([14, 15], []), ([14, 16], []), ([14, 17], []), ([18], []), ([18, 19], []), ([18], []), ([18], []), ([18, 22], []), ([18, 23], []), ([18, 24], []), ([18, 21, 25], []), ([18, 26], []), ([18, 20, 27], []), ([14, 18, 28], []), ([14, 29], []), ([30], []), ([31], []), ([31], []), ([31, 32, 33], []), ([31, 34], []), ([31, 35], []), ([31, 36], []), ([37], []), ([37], []), ([37, 38, 39], []), ([37, 40], []), ([37], []), ([37], []), ([37, 43], []), ([37, 42, 44], []), ([37, 45], []), ([37], []), ([37, 47], []), ([37, 46, 48], []), ([37, 49], []), ([37, 41, 50], []), ([31, 37, 51], []), ([31, 52], [])], by kernel_rfl, ⟨fun S hS => aB rfl (aR rfl (aS (aA rfl) (aC hS rfl) dL)),
      fun S hS => aB rfl (aR rfl (aU (aA rfl) (aC hS rfl) (i := 1) rfl rfl aZ)),
      fun S hS => aB rfl (aR rfl (bE (aA rfl) (aC hS rfl) rfl rfl)),
      fun S hS => aB rfl (aR rfl (aE (v := .d (.lit (.bool ((!decide (x24.One = (-2))))))) (aA rfl) (aC hS rfl) rfl)),
      fun S hS => aB rfl (aG rfl rfl (aA rfl) (aD hS rfl) c32 (aS (aA rfl) (aC hS rfl) dL)),
      fun S hS => aB rfl (aG rfl rfl (aA rfl) (aD hS rfl) c32 (aU (aA rfl) (aC hS rfl) (i := 1) rfl rfl aZ)),
      fun S hS => aB rfl (aG rfl rfl (aA rfl) (aD hS rfl) c32 (aE (v := .d (.sl 1 (x28.map aO))) (aA rfl) (aC hS rfl) rfl)),
      fun S hS => aB rfl (aG rfl rfl (aA rfl) (aD hS rfl) c32 (aS (aA rfl) (aC hS rfl) dE)),
      fun S hS => aB rfl (aG rfl rfl (aA rfl) (aD hS rfl) c32 (aU (aA rfl) (aC hS rfl) (i := 1) rfl rfl aZ)),
      fun S hS => aB rfl (aG rfl rfl (aA rfl) (aD hS rfl) c32 (bL (aA rfl) rfl (aC hS rfl) rfl)),
      fun S hS => aB rfl (aG rfl rfl (aA rfl) (aD hS rfl) c32 (bA (aA rfl) (aC hS rfl) (aC hS rfl) bP.of (bJ aO h34))),
      fun S hS => aB rfl (aG rfl rfl (aA rfl) (aD hS rfl) c32 (bC (aA rfl) (aC hS rfl) aZ)),
      fun S hS => aB rfl (aG rfl rfl (aA rfl) (aD hS rfl) c32 (bE (aA rfl) (aC hS rfl) (aC hS rfl) rfl)),
      fun S hS => aB rfl (aR rfl (bO (v := .d (.lit (.bool ((!decide (x24.One = x33)))))) (aA rfl) (aC hS rfl) c32 (aC hS rfl) rfl)),
      fun S hS => aB rfl (aR rfl (aE (v := .d (.lit (.bool (!decide (x24.One = x33))))) (aA rfl) (aC hS rfl) rfl)),
      fun S hS => aB rfl (aG rfl rfl (aA rfl) (aD hS rfl) c37 (aS (aA rfl) (aC hS rfl) dQ)),
      fun S hS => aB rfl (aG rfl rfl (aA rfl) (aD hS rfl) c37 (aU (aA rfl) (aC hS rfl) (i := 1) rfl rfl aZ)),
      fun S hS => aB rfl (aG rfl rfl (aA rfl) (aD hS rfl) c37 (bE (aA rfl) (aC hS rfl) rfl rfl)),
      fun S hS => aB rfl (aG rfl rfl (aA rfl) (aD hS rfl) c37 (aE (v := .d (.lit (.bool ((!decide (x24.Two = (-2))))))) (aA rfl) (aC hS rfl) rfl)),
      fun S hS => aB rfl (aM rfl rfl (aA rfl) rfl (aA rfl) (aD hS rfl) c40),
      fun S hS => aB rfl (aM rfl rfl (aA rfl) rfl (aA rfl) (aD hS rfl) c40),
      fun S hS => aB rfl (aM rfl rfl (aA rfl) rfl (aA rfl) (aD hS rfl) c40),
      fun S hS => aB rfl (aM rfl rfl (aA rfl) rfl (aA rfl) (aD hS rfl) c40),
      fun S hS => aB rfl (aM rfl rfl (aA rfl) rfl (aA rfl) (aD hS rfl) c40),
      fun S hS => aB rfl (aM rfl rfl (aA rfl) rfl (aA rfl) (aD hS rfl) c40),
      fun S hS => aB rfl (aM rfl rfl (aA rfl) rfl (aA rfl) (aD hS rfl) c40),
      fun S hS => aB rfl (aM rfl rfl (aA rfl) rfl (aA rfl) (aD hS rfl) c40),
      fun S hS => aB rfl (aM rfl rfl (aA rfl) rfl (aA rfl) (aD hS rfl) c40),
      fun S hS => aB rfl (aM rfl rfl (aA rfl) rfl (aA rfl) (aD hS rfl) c40),
      fun S hS => aB rfl (aG rfl rfl (aA rfl) (aD hS rfl) c37 (bH (v := .d (.lit (.bool false))) (aA rfl) (aC hS rfl) c40 rfl rfl)),
      fun S hS => aB rfl (aR rfl (bH (v := .d (.lit (.bool (false)))) (aA rfl) (aC hS rfl) c37 (aC hS rfl) rfl)),
      fun S hS => aB rfl (aR rfl (aE (v := .d (.lit (.bool (false)))) (aA rfl) (aC hS rfl) rfl)),
      fun S hS => aB rfl (aG rfl rfl (aA rfl) (aD hS rfl) c45 (aE (v := .d (.sl 1 (r18.2.1.map aO))) (aA rfl) (aC hS rfl) rfl)),
      fun S hS => aB rfl (aG rfl rfl (aA rfl) (aD hS rfl) c45 (aE (v := .d (.lit (.int .i64 i_0_21))) (aA rfl) (aC hS rfl) rfl)),
      fun S hS => aB rfl (aG rfl rfl (aA rfl) (aD hS rfl) c45 (bA (aA rfl) (aC hS rfl) (aC hS rfl) bP.of (bJ aO h47))),
      fun S hS => aB rfl (aG rfl rfl (aA rfl) (aD hS rfl) c45 (bC (aA rfl) (aC hS rfl) aZ)),
      fun S hS => aB rfl (aG rfl rfl (aA rfl) (aD hS rfl) c45 (bE (aA rfl) (aC hS rfl) rfl rfl)),
      fun S hS => aB rfl (aG rfl rfl (aA rfl) (aD hS rfl) c45 (aE (v := .d (.lit (.bool ((!decide (x46 = (-2))))))) (aA rfl) (aC hS rfl) rfl)),
      fun S hS => aB rfl (aG rfl rfl (aA rfl) (aD hS rfl) c50 (aE (v := .d (.sl 1 (r18.2.1.map aO))) (aA rfl) (aC hS rfl) rfl)),
      fun S hS => aB rfl (aG rfl rfl (aA rfl) (aD hS rfl) c50 (aE (v := .d (.lit (.int .i64 i_0_21))) (aA rfl) (aC hS rfl) rfl)),
      fun S hS => aB rfl (aG rfl rfl (aA rfl) (aD hS rfl) c50 (bA (aA rfl) (aC hS rfl) (aC hS rfl) bP.of (bJ aO h52))),
      fun S hS => aB rfl (aG rfl rfl (aA rfl) (aD hS rfl) c50 (bC (aA rfl) (aC hS rfl) aZ)),
      fun S hS => aB rfl (aG rfl rfl (aA rfl) (aD hS rfl) c50 (aE (v := .d (.sl 1 (course_2.map cG))) (aA rfl) (aC hS rfl) rfl)),
      fun S hS => aB rfl (aG rfl rfl (aA rfl) (aD hS rfl) c50 (aS (aA rfl) (aC hS rfl) iT)),
      fun S hS => aB rfl (aG rfl rfl (aA rfl) (aD hS rfl) c50 (aU (aA rfl) (aC hS rfl) (i := 1) rfl rfl aZ)),
      fun S hS => aB rfl (aG rfl rfl (aA rfl) (aD hS rfl) c50 (bA (aA rfl) (aC hS rfl) (aC hS rfl) jG.of (bJ cG h54))),
      fun S hS => aB rfl (aG rfl rfl (aA rfl) (aD hS rfl) c50 (bC (aA rfl) (aC hS rfl) cU)),
      fun S hS => aB rfl (aG rfl rfl (aA rfl) (aD hS rfl) c50 (aS (aA rfl) (aC hS rfl) dE)),
      fun S hS => aB rfl (aG rfl rfl (aA rfl) (aD hS rfl) c50 (aU (aA rfl) (aC hS rfl) (i := 1) rfl rfl aZ)),
      fun S hS => aB rfl (aG rfl rfl (aA rfl) (aD hS rfl) c50 (bA (aA rfl) (aC hS rfl) (aC hS rfl) bP.of (bJ aO h56))),
      fun S hS => aB rfl (aG rfl rfl (aA rfl) (aD hS rfl) c50 (bC (aA rfl) (aC hS rfl) aZ)),
      fun S hS => aB rfl (aG rfl rfl (aA rfl) (aD hS rfl) c50 (bE (aA rfl) (aC hS rfl) (aC hS rfl) rfl)),
      fun S hS => aB rfl (aG rfl rfl (aA rfl) (aD hS rfl) c45 (bO (v := .d (.lit (.bool ((!decide (x51 = x55)))))) (aA rfl) (aC hS rfl) c50 (aC hS rfl) rfl)),
      fun S hS => aB rfl (aR rfl (bH (v := .d (.lit (.bool (!decide (x51 = x55))))) (aA rfl) (aC hS rfl) c45 (aC hS rfl) rfl)), trivial⟩⟩
              · exact cL (aX rfl (bF ⟨rfl, rfl, rfl, rfl, rfl, rfl, rfl, rfl, trivial⟩))
             ·have h49 := bB c50 h49
              have h49 := Option.some.inj h49
              subst h49
              have h44 := Option.some.inj h44
              subst h44
              refine ⟨[(85, 0, .bp b26 0 2), (86, 1, .d (.lit (.int .i64 x24.One))), (87, 2, .d (.lit (.bool ((!decide (x24.One = (-2))))))), (88, 3, .d (.lit (.bool ((!decide (x24.One = (-2))))))), (89, 4, .bp b26 0 2), (90, 5, .d (.lit (.int .i64 x24.One))), (91, 6, .d (.sl 1 (x28.map aO))), (92, 7, .bp b26 0 1), (93, 8, .d (.lit (.int .i64 x24.Place))), (94, 9, .d (.lit (.int .i64 ((w64 (2 * x24.Place)))))), (95, 10, .cp [.lit (.int .i64 x33)]), (96, 11, .d (.lit (.int .i64 x33))), (97, 12, .d (.lit (.bool ((!decide (x24.One = x33)))))), (98, 13, .d (.lit (.bool ((!decide (x24.One = x33)))))), (99, 14, .d (.lit (.bool (!decide (x24.One = x33))))), (100, 15, .bp b26 0 3), (101, 16, .d (.lit (.int .i64 x24.Two))), (102, 17, .d (.lit (.bool ((!decide (x24.Two = (-2))))))), (103, 18, .d (.lit (.bool ((!decide (x24.Two = (-2))))))), (104, 19, .tup []), (105, 20, .tup []), (106, 21, .tup []), (107, 22, .tup []), (108, 23, .tup []), (109, 24, .tup []), (110, 25, .tup []), (111, 26, .tup []), (112, 27, .tup []), (113, 28, .tup []), (114, 29, .d (.lit (.bool false))), (115, 30, .d (.lit (.bool (false)))), (116, 31, .d (.lit (.bool (false)))), (117, 32, .d (.sl 1 (r18.2.1.map aO))), (118, 33, .d (.lit (.int .i64 i_0_21))), (119, 34, .cp [.lit (.int .i64 x46)]), (120, 35, .d (.lit (.int .i64 x46))), (121, 36, .d (.lit (.bool ((!decide (x46 = (-2))))))), (122, 37, .d (.lit (.bool ((!decide (x46 = (-2))))))), (123, 38, .tup []), (124, 39, .tup []), (125, 40, .tup []), (126, 41, .tup []), (127, 42, .tup []), (128, 43, .tup []), (129, 44, .tup []), (130, 45, .tup []), (131, 46, .tup []), (132, 47, .tup []), (133, 48, .tup []), (134, 49, .tup []), (135, 50, .tup []), (136, 51, .tup []), (137, 52, .d (.lit (.bool false))), (138, 53, .d (.lit (.bool (false))))], ?_, ?_⟩
              · exact ⟨by kernel_rfl, by kernel_rfl, by kernel_rfl, by kernel_rfl, by kernel_rfl, [([], []), ([0], []), ([1], []), ([2], []), ([3], []), ([3, 4], []), ([3], []), ([3], []), ([3, 7], []), ([3, 8], []), ([3, 6, 9], []), ([3, 10], []), ([3, 5, 11], []), ([3, 12], []), ([13], []), ([14], []), ([14, 15], []), ([14, 16], []), ([14, 17], []), ([18], []), ([18, 19], []), ([18], []), ([18], []), ([18, 22], []), ([18, 23], []), ([18, 24], []), ([18, 21, 25], []), ([18, 26], []), ([18, 20, 27], []), ([14, 18, 28], []), ([14, 29], []), ([30], []), ([31], []), ([31], []), ([31, 32, 33], []), ([31, 34], []), ([31, 35], []), ([31, 36], []), ([37], []), ([37], []), ([37, 38, 39], []), ([37, 40], []), ([37], []), ([37], []), ([37, 43], []), ([37, 42, 44], []), ([37, 45], []), ([37], []), ([37, 47], []), ([37, 46, 48], []), ([37, 49], []), ([37, 41, 50], []), ([31, 37, 51], []), ([31, 52], [])], by kernel_rfl, ⟨fun S hS => aB rfl (aR rfl (aS (aA rfl) (aC hS rfl) dL)),
      fun S hS => aB rfl (aR rfl (aU (aA rfl) (aC hS rfl) (i := 1) rfl rfl aZ)),
      fun S hS => aB rfl (aR rfl (bE (aA rfl) (aC hS rfl) rfl rfl)),
      fun S hS => aB rfl (aR rfl (aE (v := .d (.lit (.bool ((!decide (x24.One = (-2))))))) (aA rfl) (aC hS rfl) rfl)),
      fun S hS => aB rfl (aG rfl rfl (aA rfl) (aD hS rfl) c32 (aS (aA rfl) (aC hS rfl) dL)),
      fun S hS => aB rfl (aG rfl rfl (aA rfl) (aD hS rfl) c32 (aU (aA rfl) (aC hS rfl) (i := 1) rfl rfl aZ)),
      fun S hS => aB rfl (aG rfl rfl (aA rfl) (aD hS rfl) c32 (aE (v := .d (.sl 1 (x28.map aO))) (aA rfl) (aC hS rfl) rfl)),
      fun S hS => aB rfl (aG rfl rfl (aA rfl) (aD hS rfl) c32 (aS (aA rfl) (aC hS rfl) dE)),
      fun S hS => aB rfl (aG rfl rfl (aA rfl) (aD hS rfl) c32 (aU (aA rfl) (aC hS rfl) (i := 1) rfl rfl aZ)),
      fun S hS => aB rfl (aG rfl rfl (aA rfl) (aD hS rfl) c32 (bL (aA rfl) rfl (aC hS rfl) rfl)),
      fun S hS => aB rfl (aG rfl rfl (aA rfl) (aD hS rfl) c32 (bA (aA rfl) (aC hS rfl) (aC hS rfl) bP.of (bJ aO h34))),
      fun S hS => aB rfl (aG rfl rfl (aA rfl) (aD hS rfl) c32 (bC (aA rfl) (aC hS rfl) aZ)),
      fun S hS => aB rfl (aG rfl rfl (aA rfl) (aD hS rfl) c32 (bE (aA rfl) (aC hS rfl) (aC hS rfl) rfl)),
      fun S hS => aB rfl (aR rfl (bO (v := .d (.lit (.bool ((!decide (x24.One = x33)))))) (aA rfl) (aC hS rfl) c32 (aC hS rfl) rfl)),
      fun S hS => aB rfl (aR rfl (aE (v := .d (.lit (.bool (!decide (x24.One = x33))))) (aA rfl) (aC hS rfl) rfl)),
      fun S hS => aB rfl (aG rfl rfl (aA rfl) (aD hS rfl) c37 (aS (aA rfl) (aC hS rfl) dQ)),
      fun S hS => aB rfl (aG rfl rfl (aA rfl) (aD hS rfl) c37 (aU (aA rfl) (aC hS rfl) (i := 1) rfl rfl aZ)),
      fun S hS => aB rfl (aG rfl rfl (aA rfl) (aD hS rfl) c37 (bE (aA rfl) (aC hS rfl) rfl rfl)),
      fun S hS => aB rfl (aG rfl rfl (aA rfl) (aD hS rfl) c37 (aE (v := .d (.lit (.bool ((!decide (x24.Two = (-2))))))) (aA rfl) (aC hS rfl) rfl)),
      fun S hS => aB rfl (aM rfl rfl (aA rfl) rfl (aA rfl) (aD hS rfl) c40),
      fun S hS => aB rfl (aM rfl rfl (aA rfl) rfl (aA rfl) (aD hS rfl) c40),
      fun S hS => aB rfl (aM rfl rfl (aA rfl) rfl (aA rfl) (aD hS rfl) c40),
      fun S hS => aB rfl (aM rfl rfl (aA rfl) rfl (aA rfl) (aD hS rfl) c40),
      fun S hS => aB rfl (aM rfl rfl (aA rfl) rfl (aA rfl) (aD hS rfl) c40),
      fun S hS => aB rfl (aM rfl rfl (aA rfl) rfl (aA rfl) (aD hS rfl) c40),
      fun S hS => aB rfl (aM rfl rfl (aA rfl) rfl (aA rfl) (aD hS rfl) c40),
      fun S hS => aB rfl (aM rfl rfl (aA rfl) rfl (aA rfl) (aD hS rfl) c40),
      fun S hS => aB rfl (aM rfl rfl (aA rfl) rfl (aA rfl) (aD hS rfl) c40),
      fun S hS => aB rfl (aM rfl rfl (aA rfl) rfl (aA rfl) (aD hS rfl) c40),
      fun S hS => aB rfl (aG rfl rfl (aA rfl) (aD hS rfl) c37 (bH (v := .d (.lit (.bool false))) (aA rfl) (aC hS rfl) c40 rfl rfl)),
      fun S hS => aB rfl (aR rfl (bH (v := .d (.lit (.bool (false)))) (aA rfl) (aC hS rfl) c37 (aC hS rfl) rfl)),
      fun S hS => aB rfl (aR rfl (aE (v := .d (.lit (.bool (false)))) (aA rfl) (aC hS rfl) rfl)),
      fun S hS => aB rfl (aG rfl rfl (aA rfl) (aD hS rfl) c45 (aE (v := .d (.sl 1 (r18.2.1.map aO))) (aA rfl) (aC hS rfl) rfl)),
      fun S hS => aB rfl (aG rfl rfl (aA rfl) (aD hS rfl) c45 (aE (v := .d (.lit (.int .i64 i_0_21))) (aA rfl) (aC hS rfl) rfl)),
      fun S hS => aB rfl (aG rfl rfl (aA rfl) (aD hS rfl) c45 (bA (aA rfl) (aC hS rfl) (aC hS rfl) bP.of (bJ aO h47))),
      fun S hS => aB rfl (aG rfl rfl (aA rfl) (aD hS rfl) c45 (bC (aA rfl) (aC hS rfl) aZ)),
      fun S hS => aB rfl (aG rfl rfl (aA rfl) (aD hS rfl) c45 (bE (aA rfl) (aC hS rfl) rfl rfl)),
      fun S hS => aB rfl (aG rfl rfl (aA rfl) (aD hS rfl) c45 (aE (v := .d (.lit (.bool ((!decide (x46 = (-2))))))) (aA rfl) (aC hS rfl) rfl)),
      fun S hS => aB rfl (aM rfl rfl (aA rfl) rfl (aA rfl) (aD hS rfl) c50),
      fun S hS => aB rfl (aM rfl rfl (aA rfl) rfl (aA rfl) (aD hS rfl) c50),
      fun S hS => aB rfl (aM rfl rfl (aA rfl) rfl (aA rfl) (aD hS rfl) c50),
      fun S hS => aB rfl (aM rfl rfl (aA rfl) rfl (aA rfl) (aD hS rfl) c50),
      fun S hS => aB rfl (aM rfl rfl (aA rfl) rfl (aA rfl) (aD hS rfl) c50),
      fun S hS => aB rfl (aM rfl rfl (aA rfl) rfl (aA rfl) (aD hS rfl) c50),
      fun S hS => aB rfl (aM rfl rfl (aA rfl) rfl (aA rfl) (aD hS rfl) c50),
      fun S hS => aB rfl (aM rfl rfl (aA rfl) rfl (aA rfl) (aD hS rfl) c50),
      fun S hS => aB rfl (aM rfl rfl (aA rfl) rfl (aA rfl) (aD hS rfl) c50),
      fun S hS => aB rfl (aM rfl rfl (aA rfl) rfl (aA rfl) (aD hS rfl) c50),
      fun S hS => aB rfl (aM rfl rfl (aA rfl) rfl (aA rfl) (aD hS rfl) c50),
      fun S hS => aB rfl (aM rfl rfl (aA rfl) rfl (aA rfl) (aD hS rfl) c50),
      fun S hS => aB rfl (aM rfl rfl (aA rfl) rfl (aA rfl) (aD hS rfl) c50),
      fun S hS => aB rfl (aM rfl rfl (aA rfl) rfl (aA rfl) (aD hS rfl) c50),
      fun S hS => aB rfl (aG rfl rfl (aA rfl) (aD hS rfl) c45 (bH (v := .d (.lit (.bool false))) (aA rfl) (aC hS rfl) c50 rfl rfl)),
      fun S hS => aB rfl (aR rfl (bH (v := .d (.lit (.bool (false)))) (aA rfl) (aC hS rfl) c45 (aC hS rfl) rfl)), trivial⟩⟩
              · exact cL (aX rfl (bF ⟨rfl, rfl, rfl, rfl, rfl, rfl, rfl, rfl, trivial⟩))
          ·have h31 := bB c32 h31
           have h31 := Option.some.inj h31
           subst h31
           have c37 : false = false := rfl
           have h36 := bB c37 h36
           obtain ⟨b38, h39, h36⟩ := bind_some h36
           refine bM (!decide (x24.Two = (-2))) (fun c40 => ?_) (fun c40 => ?_)
           ·have h39 := bD c40 h39
            obtain ⟨x41, h42, h39⟩ := bind_some h39
            have h39 := Option.some.inj h39
            subst h39
            have h36 := Option.some.inj h36
            subst h36
            refine bM (!decide (x24.Two = x41)) (fun c45 => ?_) (fun c45 => ?_)
            ·have h44 := bD c45 h44
             have h44 := Option.some.inj h44
             subst h44
             refine ⟨[(85, 0, .bp b26 0 2), (86, 1, .d (.lit (.int .i64 x24.One))), (87, 2, .d (.lit (.bool ((!decide (x24.One = (-2))))))), (88, 3, .d (.lit (.bool ((!decide (x24.One = (-2))))))), (89, 4, .tup []), (90, 5, .tup []), (91, 6, .tup []), (92, 7, .tup []), (93, 8, .tup []), (94, 9, .tup []), (95, 10, .tup []), (96, 11, .tup []), (97, 12, .tup []), (98, 13, .d (.lit (.bool false))), (99, 14, .d (.lit (.bool (false)))), (100, 15, .bp b26 0 3), (101, 16, .d (.lit (.int .i64 x24.Two))), (102, 17, .d (.lit (.bool ((!decide (x24.Two = (-2))))))), (103, 18, .d (.lit (.bool ((!decide (x24.Two = (-2))))))), (104, 19, .bp b26 0 3), (105, 20, .d (.lit (.int .i64 x24.Two))), (106, 21, .d (.sl 1 (x28.map aO))), (107, 22, .bp b26 0 1), (108, 23, .d (.lit (.int .i64 x24.Place))), (109, 24, .d (.lit (.int .i64 ((w64 (2 * x24.Place)))))), (110, 25, .d (.lit (.int .i64 ((w64 ((w64 (2 * x24.Place)) + 1)))))), (111, 26, .cp [.lit (.int .i64 x41)]), (112, 27, .d (.lit (.int .i64 x41))), (113, 28, .d (.lit (.bool ((!decide (x24.Two = x41)))))), (114, 29, .d (.lit (.bool ((!decide (x24.Two = x41)))))), (115, 30, .d (.lit (.bool (!decide (x24.Two = x41))))), (116, 31, .d (.lit (.bool (!decide (x24.Two = x41))))), (117, 32, .tup []), (118, 33, .tup []), (119, 34, .tup []), (120, 35, .tup []), (121, 36, .tup []), (122, 37, .tup []), (123, 38, .tup []), (124, 39, .tup []), (125, 40, .tup []), (126, 41, .tup []), (127, 42, .tup []), (128, 43, .tup []), (129, 44, .tup []), (130, 45, .tup []), (131, 46, .tup []), (132, 47, .tup []), (133, 48, .tup []), (134, 49, .tup []), (135, 50, .tup []), (136, 51, .tup []), (137, 52, .tup []), (138, 53, .d (.lit (.bool true)))], ?_, ?_⟩
             · exact ⟨by kernel_rfl, by kernel_rfl, by kernel_rfl, by kernel_rfl, by kernel_rfl, [([], []), ([0], []), ([1], []), ([2], []), ([3], []), ([3, 4], []), ([3], []), ([3], []), ([3, 7], []), ([3, 8], []), ([3, 6, 9], []), ([3, 10], []), ([3, 5, 11], []), ([3, 12], []), ([13], []), ([14], []), ([14, 15], []), ([14, 16], []), ([14, 17], []), ([18], []), ([18, 19], []), ([18], []), ([18], []), ([18, 22], []), ([18, 23], []), ([18, 24], []), ([18, 21, 25], []), ([18, 26], []), ([18, 20, 27], []), ([14, 18, 28], []), ([14, 29], []), ([30], []), ([31], []), ([31], []), ([31, 32, 33], []), ([31, 34], []), ([31, 35], []), ([31, 36], []), ([37], []), ([37], []), ([37, 38, 39], []), ([37, 40], []), ([37], []), ([37], []), ([37, 43], []), ([37, 42, 44], []), ([37, 45], []), ([37], []), ([37, 47], []), ([37, 46, 48], []), ([37, 49], []), ([37, 41, 50], []), ([31, 37, 51], []), ([31, 52], [])], by kernel_rfl, ⟨fun S hS => aB rfl (aR rfl (aS (aA rfl) (aC hS rfl) dL)),
      fun S hS => aB rfl (aR rfl (aU (aA rfl) (aC hS rfl) (i := 1) rfl rfl aZ)),
      fun S hS => aB rfl (aR rfl (bE (aA rfl) (aC hS rfl) rfl rfl)),
      fun S hS => aB rfl (aR rfl (aE (v := .d (.lit (.bool ((!decide (x24.One = (-2))))))) (aA rfl) (aC hS rfl) rfl)),
      fun S hS => aB rfl (aM rfl rfl (aA rfl) rfl (aA rfl) (aD hS rfl) c32),
      fun S hS => aB rfl (aM rfl rfl (aA rfl) rfl (aA rfl) (aD hS rfl) c32),
      fun S hS => aB rfl (aM rfl rfl (aA rfl) rfl (aA rfl) (aD hS rfl) c32),
      fun S hS => aB rfl (aM rfl rfl (aA rfl) rfl (aA rfl) (aD hS rfl) c32),
      fun S hS => aB rfl (aM rfl rfl (aA rfl) rfl (aA rfl) (aD hS rfl) c32),
      fun S hS => aB rfl (aM rfl rfl (aA rfl) rfl (aA rfl) (aD hS rfl) c32),
      fun S hS => aB rfl (aM rfl rfl (aA rfl) rfl (aA rfl) (aD hS rfl) c32),
      fun S hS => aB rfl (aM rfl rfl (aA rfl) rfl (aA rfl) (aD hS rfl) c32),
      fun S hS => aB rfl (aM rfl rfl (aA rfl) rfl (aA rfl) (aD hS rfl) c32),
      fun S hS => aB rfl (aR rfl (bH (v := .d (.lit (.bool false))) (aA rfl) (aC hS rfl) c32 rfl rfl)),
      fun S hS => aB rfl (aR rfl (aE (v := .d (.lit (.bool (false)))) (aA rfl) (aC hS rfl) rfl)),
      fun S hS => aB rfl (aG rfl rfl (aA rfl) (aD hS rfl) c37 (aS (aA rfl) (aC hS rfl) dQ)),
      fun S hS => aB rfl (aG rfl rfl (aA rfl) (aD hS rfl) c37 (aU (aA rfl) (aC hS rfl) (i := 1) rfl rfl aZ)),
      fun S hS => aB rfl (aG rfl rfl (aA rfl) (aD hS rfl) c37 (bE (aA rfl) (aC hS rfl) rfl rfl)),
      fun S hS => aB rfl (aG rfl rfl (aA rfl) (aD hS rfl) c37 (aE (v := .d (.lit (.bool ((!decide (x24.Two = (-2))))))) (aA rfl) (aC hS rfl) rfl)),
      fun S hS => aB rfl (aG rfl rfl (aA rfl) (aD hS rfl) c40 (aS (aA rfl) (aC hS rfl) dQ)),
      fun S hS => aB rfl (aG rfl rfl (aA rfl) (aD hS rfl) c40 (aU (aA rfl) (aC hS rfl) (i := 1) rfl rfl aZ)),
      fun S hS => aB rfl (aG rfl rfl (aA rfl) (aD hS rfl) c40 (aE (v := .d (.sl 1 (x28.map aO))) (aA rfl) (aC hS rfl) rfl)),
      fun S hS => aB rfl (aG rfl rfl (aA rfl) (aD hS rfl) c40 (aS (aA rfl) (aC hS rfl) dE)),
      fun S hS => aB rfl (aG rfl rfl (aA rfl) (aD hS rfl) c40 (aU (aA rfl) (aC hS rfl) (i := 1) rfl rfl aZ)),
      fun S hS => aB rfl (aG rfl rfl (aA rfl) (aD hS rfl) c40 (bL (aA rfl) rfl (aC hS rfl) rfl)),
      fun S hS => aB rfl (aG rfl rfl (aA rfl) (aD hS rfl) c40 (bL (aA rfl) (aC hS rfl) rfl rfl)),
      fun S hS => aB rfl (aG rfl rfl (aA rfl) (aD hS rfl) c40 (bA (aA rfl) (aC hS rfl) (aC hS rfl) bP.of (bJ aO h42))),
      fun S hS => aB rfl (aG rfl rfl (aA rfl) (aD hS rfl) c40 (bC (aA rfl) (aC hS rfl) aZ)),
      fun S hS => aB rfl (aG rfl rfl (aA rfl) (aD hS rfl) c40 (bE (aA rfl) (aC hS rfl) (aC hS rfl) rfl)),
      fun S hS => aB rfl (aG rfl rfl (aA rfl) (aD hS rfl) c37 (bO (v := .d (.lit (.bool ((!decide (x24.Two = x41)))))) (aA rfl) (aC hS rfl) c40 (aC hS rfl) rfl)),
      fun S hS => aB rfl (aR rfl (bH (v := .d (.lit (.bool (!decide (x24.Two = x41))))) (aA rfl) (aC hS rfl) c37 (aC hS rfl) rfl)),
      fun S hS => aB rfl (aR rfl (aE (v := .d (.lit (.bool (!decide (x24.Two = x41))))) (aA rfl) (aC hS rfl) rfl)),
      fun S hS => aB rfl (aM rfl rfl (aA rfl) rfl (aA rfl) (aD hS rfl) c45),
      fun S hS => aB rfl (aM rfl rfl (aA rfl) rfl (aA rfl) (aD hS rfl) c45),
      fun S hS => aB rfl (aM rfl rfl (aA rfl) rfl (aA rfl) (aD hS rfl) c45),
      fun S hS => aB rfl (aM rfl rfl (aA rfl) rfl (aA rfl) (aD hS rfl) c45),
      fun S hS => aB rfl (aM rfl rfl (aA rfl) rfl (aA rfl) (aD hS rfl) c45),
      fun S hS => aB rfl (aM rfl rfl (aA rfl) rfl (aA rfl) (aD hS rfl) c45),
      fun S hS => aB rfl (bR rfl rfl (aA rfl) rfl (aA rfl) (aD hS rfl)),
      fun S hS => aB rfl (bR rfl rfl (aA rfl) rfl (aA rfl) (aD hS rfl)),
      fun S hS => aB rfl (bR rfl rfl (aA rfl) rfl (aA rfl) (aD hS rfl)),
      fun S hS => aB rfl (bR rfl rfl (aA rfl) rfl (aA rfl) (aD hS rfl)),
      fun S hS => aB rfl (bR rfl rfl (aA rfl) rfl (aA rfl) (aD hS rfl)),
      fun S hS => aB rfl (bR rfl rfl (aA rfl) rfl (aA rfl) (aD hS rfl)),
      fun S hS => aB rfl (bR rfl rfl (aA rfl) rfl (aA rfl) (aD hS rfl)),
      fun S hS => aB rfl (bR rfl rfl (aA rfl) rfl (aA rfl) (aD hS rfl)),
      fun S hS => aB rfl (bR rfl rfl (aA rfl) rfl (aA rfl) (aD hS rfl)),
      fun S hS => aB rfl (bR rfl rfl (aA rfl) rfl (aA rfl) (aD hS rfl)),
      fun S hS => aB rfl (bR rfl rfl (aA rfl) rfl (aA rfl) (aD hS rfl)),
      fun S hS => aB rfl (bR rfl rfl (aA rfl) rfl (aA rfl) (aD hS rfl)),
      fun S hS => aB rfl (bR rfl rfl (aA rfl) rfl (aA rfl) (aD hS rfl)),
      fun S hS => aB rfl (bR rfl rfl (aA rfl) rfl (aA rfl) (aD hS rfl)),
      fun S hS => aB rfl (aM rfl rfl (aA rfl) rfl (aA rfl) (aD hS rfl) c45),
      fun S hS => aB rfl (aR rfl (bO (v := .d (.lit (.bool true))) (aA rfl) (aC hS rfl) c45 rfl rfl)), trivial⟩⟩
             · exact cL (aX rfl (bF ⟨rfl, rfl, rfl, rfl, rfl, rfl, rfl, rfl, trivial⟩))
            ·have h44 := bB c45 h44
             obtain ⟨x46, h47, h44⟩ := bind_some h44
             obtain ⟨b48, h49, h44⟩ := bind_some h44
             refine bM (!decide (x46 = (-2))) (fun c50 => ?_) (fun c50 => ?_)
             ·have h49 := bD c50 h49
              obtain ⟨x51, h52, h49⟩ := bind_some h49
              obtain ⟨x53, h54, h49⟩ := bind_some h49
              obtain ⟨x55, h56, h49⟩ := bind_some h49
              have h49 := Option.some.inj h49
              subst h49
              have h44 := Option.some.inj h44
              subst h44
              refine ⟨[(85, 0, .bp b26 0 2), (86, 1, .d (.lit (.int .i64 x24.One))), (87, 2, .d (.lit (.bool ((!decide (x24.One = (-2))))))), (88, 3, .d (.lit (.bool ((!decide (x24.One = (-2))))))), (89, 4, .tup []), (90, 5, .tup []), (91, 6, .tup []), (92, 7, .tup []), (93, 8, .tup []), (94, 9, .tup []), (95, 10, .tup []), (96, 11, .tup []), (97, 12, .tup []), (98, 13, .d (.lit (.bool false))), (99, 14, .d (.lit (.bool (false)))), (100, 15, .bp b26 0 3), (101, 16, .d (.lit (.int .i64 x24.Two))), (102, 17, .d (.lit (.bool ((!decide (x24.Two = (-2))))))), (103, 18, .d (.lit (.bool ((!decide (x24.Two = (-2))))))), (104, 19, .bp b26 0 3), (105, 20, .d (.lit (.int .i64 x24.Two))), (106, 21, .d (.sl 1 (x28.map aO))), (107, 22, .bp b26 0 1), (108, 23, .d (.lit (.int .i64 x24.Place))), (109, 24, .d (.lit (.int .i64 ((w64 (2 * x24.Place)))))), (110, 25, .d (.lit (.int .i64 ((w64 ((w64 (2 * x24.Place)) + 1)))))), (111, 26, .cp [.lit (.int .i64 x41)]), (112, 27, .d (.lit (.int .i64 x41))), (113, 28, .d (.lit (.bool ((!decide (x24.Two = x41)))))), (114, 29, .d (.lit (.bool ((!decide (x24.Two = x41)))))), (115, 30, .d (.lit (.bool (!decide (x24.Two = x41))))), (116, 31, .d (.lit (.bool (!decide (x24.Two = x41))))), (117, 32, .d (.sl 1 (r18.2.1.map aO))), (118, 33, .d (.lit (.int .i64 i_0_21))), (119, 34, .cp [.lit (.int .i64 x46)]), (120, 35, .d (.lit (.int .i64 x46))), (121, 36, .d (.lit (.bool ((!decide (x46 = (-2))))))), (122, 37, .d (.lit (.bool ((!decide (x46 = (-2))))))), (123, 38, .d (.sl 1 (r18.2.1.map aO))), (124, 39, .d (.lit (.int .i64 i_0_21))), (125, 40, .cp [.lit (.int .i64 x51)]), (126, 41, .d (.lit (.int .i64 x51))), (127, 42, .d (.sl 1 (course_2.map cG))), (128, 43, .bp b26 0 0), (129, 44, .d (.lit (.int .i64 x24.Round))), (130, 45, .cp [.sl 1 (x53.map aO)]), (131, 46, .d (.sl 1 (x53.map aO))), (132, 47, .bp b26 0 1), (133, 48, .d (.lit (.int .i64 x24.Place))), (134, 49, .cp [.lit (.int .i64 x55)]), (135, 50, .d (.lit (.int .i64 x55))), (136, 51, .d (.lit (.bool ((!decide (x51 = x55)))))), (137, 52, .d (.lit (.bool ((!decide (x51 = x55)))))), (138, 53, .d (.lit (.bool (!decide (x51 = x55)))))], ?_, ?_⟩
              · exact ⟨by kernel_rfl, by kernel_rfl, by kernel_rfl, by kernel_rfl, by kernel_rfl, [([], []), ([0], []), ([1], []), ([2], []), ([3], []), ([3, 4], []), ([3], []), ([3], []), ([3, 7], []), ([3, 8], []), ([3, 6, 9], []), ([3, 10], []), ([3, 5, 11], []), ([3, 12], []), ([13], []), ([14], []), ([14, 15], []), ([14, 16], []), ([14, 17], []), ([18], []), ([18, 19], []), ([18], []), ([18], []), ([18, 22], []), ([18, 23], []), ([18, 24], []), ([18, 21, 25], []), ([18, 26], []), ([18, 20, 27], []), ([14, 18, 28], []), ([14, 29], []), ([30], []), ([31], []), ([31], []), ([31, 32, 33], []), ([31, 34], []), ([31, 35], []), ([31, 36], []), ([37], []), ([37], []), ([37, 38, 39], []), ([37, 40], []), ([37], []), ([37], []), ([37, 43], []), ([37, 42, 44], []), ([37, 45], []), ([37], []), ([37, 47], []), ([37, 46, 48], []), ([37, 49], []), ([37, 41, 50], []), ([31, 37, 51], []), ([31, 52], [])], by kernel_rfl, ⟨fun S hS => aB rfl (aR rfl (aS (aA rfl) (aC hS rfl) dL)),
      fun S hS => aB rfl (aR rfl (aU (aA rfl) (aC hS rfl) (i := 1) rfl rfl aZ)),
      fun S hS => aB rfl (aR rfl (bE (aA rfl) (aC hS rfl) rfl rfl)),
      fun S hS => aB rfl (aR rfl (aE (v := .d (.lit (.bool ((!decide (x24.One = (-2))))))) (aA rfl) (aC hS rfl) rfl)),
      fun S hS => aB rfl (aM rfl rfl (aA rfl) rfl (aA rfl) (aD hS rfl) c32),
      fun S hS => aB rfl (aM rfl rfl (aA rfl) rfl (aA rfl) (aD hS rfl) c32),
      fun S hS => aB rfl (aM rfl rfl (aA rfl) rfl (aA rfl) (aD hS rfl) c32),
      fun S hS => aB rfl (aM rfl rfl (aA rfl) rfl (aA rfl) (aD hS rfl) c32),
      fun S hS => aB rfl (aM rfl rfl (aA rfl) rfl (aA rfl) (aD hS rfl) c32),
      fun S hS => aB rfl (aM rfl rfl (aA rfl) rfl (aA rfl) (aD hS rfl) c32),
      fun S hS => aB rfl (aM rfl rfl (aA rfl) rfl (aA rfl) (aD hS rfl) c32),
      fun S hS => aB rfl (aM rfl rfl (aA rfl) rfl (aA rfl) (aD hS rfl) c32),
      fun S hS => aB rfl (aM rfl rfl (aA rfl) rfl (aA rfl) (aD hS rfl) c32),
      fun S hS => aB rfl (aR rfl (bH (v := .d (.lit (.bool false))) (aA rfl) (aC hS rfl) c32 rfl rfl)),
      fun S hS => aB rfl (aR rfl (aE (v := .d (.lit (.bool (false)))) (aA rfl) (aC hS rfl) rfl)),
      fun S hS => aB rfl (aG rfl rfl (aA rfl) (aD hS rfl) c37 (aS (aA rfl) (aC hS rfl) dQ)),
      fun S hS => aB rfl (aG rfl rfl (aA rfl) (aD hS rfl) c37 (aU (aA rfl) (aC hS rfl) (i := 1) rfl rfl aZ)),
      fun S hS => aB rfl (aG rfl rfl (aA rfl) (aD hS rfl) c37 (bE (aA rfl) (aC hS rfl) rfl rfl)),
      fun S hS => aB rfl (aG rfl rfl (aA rfl) (aD hS rfl) c37 (aE (v := .d (.lit (.bool ((!decide (x24.Two = (-2))))))) (aA rfl) (aC hS rfl) rfl)),
      fun S hS => aB rfl (aG rfl rfl (aA rfl) (aD hS rfl) c40 (aS (aA rfl) (aC hS rfl) dQ)),
      fun S hS => aB rfl (aG rfl rfl (aA rfl) (aD hS rfl) c40 (aU (aA rfl) (aC hS rfl) (i := 1) rfl rfl aZ)),
      fun S hS => aB rfl (aG rfl rfl (aA rfl) (aD hS rfl) c40 (aE (v := .d (.sl 1 (x28.map aO))) (aA rfl) (aC hS rfl) rfl)),
      fun S hS => aB rfl (aG rfl rfl (aA rfl) (aD hS rfl) c40 (aS (aA rfl) (aC hS rfl) dE)),
      fun S hS => aB rfl (aG rfl rfl (aA rfl) (aD hS rfl) c40 (aU (aA rfl) (aC hS rfl) (i := 1) rfl rfl aZ)),
      fun S hS => aB rfl (aG rfl rfl (aA rfl) (aD hS rfl) c40 (bL (aA rfl) rfl (aC hS rfl) rfl)),
      fun S hS => aB rfl (aG rfl rfl (aA rfl) (aD hS rfl) c40 (bL (aA rfl) (aC hS rfl) rfl rfl)),
      fun S hS => aB rfl (aG rfl rfl (aA rfl) (aD hS rfl) c40 (bA (aA rfl) (aC hS rfl) (aC hS rfl) bP.of (bJ aO h42))),
      fun S hS => aB rfl (aG rfl rfl (aA rfl) (aD hS rfl) c40 (bC (aA rfl) (aC hS rfl) aZ)),
      fun S hS => aB rfl (aG rfl rfl (aA rfl) (aD hS rfl) c40 (bE (aA rfl) (aC hS rfl) (aC hS rfl) rfl)),
      fun S hS => aB rfl (aG rfl rfl (aA rfl) (aD hS rfl) c37 (bO (v := .d (.lit (.bool ((!decide (x24.Two = x41)))))) (aA rfl) (aC hS rfl) c40 (aC hS rfl) rfl)),
      fun S hS => aB rfl (aR rfl (bH (v := .d (.lit (.bool (!decide (x24.Two = x41))))) (aA rfl) (aC hS rfl) c37 (aC hS rfl) rfl)),
      fun S hS => aB rfl (aR rfl (aE (v := .d (.lit (.bool (!decide (x24.Two = x41))))) (aA rfl) (aC hS rfl) rfl)),
      fun S hS => aB rfl (aG rfl rfl (aA rfl) (aD hS rfl) c45 (aE (v := .d (.sl 1 (r18.2.1.map aO))) (aA rfl) (aC hS rfl) rfl)),
      fun S hS => aB rfl (aG rfl rfl (aA rfl) (aD hS rfl) c45 (aE (v := .d (.lit (.int .i64 i_0_21))) (aA rfl) (aC hS rfl) rfl)),
      fun S hS => aB rfl (aG rfl rfl (aA rfl) (aD hS rfl) c45 (bA (aA rfl) (aC hS rfl) (aC hS rfl) bP.of (bJ aO h47))),
      fun S hS => aB rfl (aG rfl rfl (aA rfl) (aD hS rfl) c45 (bC (aA rfl) (aC hS rfl) aZ)),
      fun S hS => aB rfl (aG rfl rfl (aA rfl) (aD hS rfl) c45 (bE (aA rfl) (aC hS rfl) rfl rfl)),
      fun S hS => aB rfl (aG rfl rfl (aA rfl) (aD hS rfl) c45 (aE (v := .d (.lit (.bool ((!decide (x46 = (-2))))))) (aA rfl) (aC hS rfl) rfl)),
      fun S hS => aB rfl (aG rfl rfl (aA rfl) (aD hS rfl) c50 (aE (v := .d (.sl 1 (r18.2.1.map aO))) (aA rfl) (aC hS rfl) rfl)),
      fun S hS => aB rfl (aG rfl rfl (aA rfl) (aD hS rfl) c50 (aE (v := .d (.lit (.int .i64 i_0_21))) (aA rfl) (aC hS rfl) rfl)),
      fun S hS => aB rfl (aG rfl rfl (aA rfl) (aD hS rfl) c50 (bA (aA rfl) (aC hS rfl) (aC hS rfl) bP.of (bJ aO h52))),
      fun S hS => aB rfl (aG rfl rfl (aA rfl) (aD hS rfl) c50 (bC (aA rfl) (aC hS rfl) aZ)),
      fun S hS => aB rfl (aG rfl rfl (aA rfl) (aD hS rfl) c50 (aE (v := .d (.sl 1 (course_2.map cG))) (aA rfl) (aC hS rfl) rfl)),
      fun S hS => aB rfl (aG rfl rfl (aA rfl) (aD hS rfl) c50 (aS (aA rfl) (aC hS rfl) iT)),
      fun S hS => aB rfl (aG rfl rfl (aA rfl) (aD hS rfl) c50 (aU (aA rfl) (aC hS rfl) (i := 1) rfl rfl aZ)),
      fun S hS => aB rfl (aG rfl rfl (aA rfl) (aD hS rfl) c50 (bA (aA rfl) (aC hS rfl) (aC hS rfl) jG.of (bJ cG h54))),
      fun S hS => aB rfl (aG rfl rfl (aA rfl) (aD hS rfl) c50 (bC (aA rfl) (aC hS rfl) cU)),
      fun S hS => aB rfl (aG rfl rfl (aA rfl) (aD hS rfl) c50 (aS (aA rfl) (aC hS rfl) dE)),
      fun S hS => aB rfl (aG rfl rfl (aA rfl) (aD hS rfl) c50 (aU (aA rfl) (aC hS rfl) (i := 1) rfl rfl aZ)),
      fun S hS => aB rfl (aG rfl rfl (aA rfl) (aD hS rfl) c50 (bA (aA rfl) (aC hS rfl) (aC hS rfl) bP.of (bJ aO h56))),
      fun S hS => aB rfl (aG rfl rfl (aA rfl) (aD hS rfl) c50 (bC (aA rfl) (aC hS rfl) aZ)),
      fun S hS => aB rfl (aG rfl rfl (aA rfl) (aD hS rfl) c50 (bE (aA rfl) (aC hS rfl) (aC hS rfl) rfl)),
      fun S hS => aB rfl (aG rfl rfl (aA rfl) (aD hS rfl) c45 (bO (v := .d (.lit (.bool ((!decide (x51 = x55)))))) (aA rfl) (aC hS rfl) c50 (aC hS rfl) rfl)),
      fun S hS => aB rfl (aR rfl (bH (v := .d (.lit (.bool (!decide (x51 = x55))))) (aA rfl) (aC hS rfl) c45 (aC hS rfl) rfl)), trivial⟩⟩
              · exact cL (aX rfl (bF ⟨rfl, rfl, rfl, rfl, rfl, rfl, rfl, rfl, trivial⟩))
             ·have h49 := bB c50 h49
              have h49 := Option.some.inj h49
              subst h49
              have h44 := Option.some.inj h44
              subst h44
              refine ⟨[(85, 0, .bp b26 0 2), (86, 1, .d (.lit (.int .i64 x24.One))), (87, 2, .d (.lit (.bool ((!decide (x24.One = (-2))))))), (88, 3, .d (.lit (.bool ((!decide (x24.One = (-2))))))), (89, 4, .tup []), (90, 5, .tup []), (91, 6, .tup []), (92, 7, .tup []), (93, 8, .tup []), (94, 9, .tup []), (95, 10, .tup []), (96, 11, .tup []), (97, 12, .tup []), (98, 13, .d (.lit (.bool false))), (99, 14, .d (.lit (.bool (false)))), (100, 15, .bp b26 0 3), (101, 16, .d (.lit (.int .i64 x24.Two))), (102, 17, .d (.lit (.bool ((!decide (x24.Two = (-2))))))), (103, 18, .d (.lit (.bool ((!decide (x24.Two = (-2))))))), (104, 19, .bp b26 0 3), (105, 20, .d (.lit (.int .i64 x24.Two))), (106, 21, .d (.sl 1 (x28.map aO))), (107, 22, .bp b26 0 1), (108, 23, .d (.lit (.int .i64 x24.Place))), (109, 24, .d (.lit (.int .i64 ((w64 (2 * x24.Place)))))), (110, 25, .d (.lit (.int .i64 ((w64 ((w64 (2 * x24.Place)) + 1)))))), (111, 26, .cp [.lit (.int .i64 x41)]), (112, 27, .d (.lit (.int .i64 x41))), (113, 28, .d (.lit (.bool ((!decide (x24.Two = x41)))))), (114, 29, .d (.lit (.bool ((!decide (x24.Two = x41)))))), (115, 30, .d (.lit (.bool (!decide (x24.Two = x41))))), (116, 31, .d (.lit (.bool (!decide (x24.Two = x41))))), (117, 32, .d (.sl 1 (r18.2.1.map aO))), (118, 33, .d (.lit (.int .i64 i_0_21))), (119, 34, .cp [.lit (.int .i64 x46)]), (120, 35, .d (.lit (.int .i64 x46))), (121, 36, .d (.lit (.bool ((!decide (x46 = (-2))))))), (122, 37, .d (.lit (.bool ((!decide (x46 = (-2))))))), (123, 38, .tup []), (124, 39, .tup []), (125, 40, .tup []), (126, 41, .tup []), (127, 42, .tup []), (128, 43, .tup []), (129, 44, .tup []), (130, 45, .tup []), (131, 46, .tup []), (132, 47, .tup []), (133, 48, .tup []), (134, 49, .tup []), (135, 50, .tup []), (136, 51, .tup []), (137, 52, .d (.lit (.bool false))), (138, 53, .d (.lit (.bool (false))))], ?_, ?_⟩
              · exact ⟨by kernel_rfl, by kernel_rfl, by kernel_rfl, by kernel_rfl, by kernel_rfl, [([], []), ([0], []), ([1], []), ([2], []), ([3], []), ([3, 4], []), ([3], []), ([3], []), ([3, 7], []), ([3, 8], []), ([3, 6, 9], []), ([3, 10], []), ([3, 5, 11], []), ([3, 12], []), ([13], []), ([14], []), ([14, 15], []), ([14, 16], []), ([14, 17], []), ([18], []), ([18, 19], []), ([18], []), ([18], []), ([18, 22], []), ([18, 23], []), ([18, 24], []), ([18, 21, 25], []), ([18, 26], []), ([18, 20, 27], []), ([14, 18, 28], []), ([14, 29], []), ([30], []), ([31], []), ([31], []), ([31, 32, 33], []), ([31, 34], []), ([31, 35], []), ([31, 36], []), ([37], []), ([37], []), ([37, 38, 39], []), ([37, 40], []), ([37], []), ([37], []), ([37, 43], []), ([37, 42, 44], []), ([37, 45], []), ([37], []), ([37, 47], []), ([37, 46, 48], []), ([37, 49], []), ([37, 41, 50], []), ([31, 37, 51], []), ([31, 52], [])], by kernel_rfl, ⟨fun S hS => aB rfl (aR rfl (aS (aA rfl) (aC hS rfl) dL)),
      fun S hS => aB rfl (aR rfl (aU (aA rfl) (aC hS rfl) (i := 1) rfl rfl aZ)),
      fun S hS => aB rfl (aR rfl (bE (aA rfl) (aC hS rfl) rfl rfl)),
      fun S hS => aB rfl (aR rfl (aE (v := .d (.lit (.bool ((!decide (x24.One = (-2))))))) (aA rfl) (aC hS rfl) rfl)),
      fun S hS => aB rfl (aM rfl rfl (aA rfl) rfl (aA rfl) (aD hS rfl) c32),
      fun S hS => aB rfl (aM rfl rfl (aA rfl) rfl (aA rfl) (aD hS rfl) c32),
      fun S hS => aB rfl (aM rfl rfl (aA rfl) rfl (aA rfl) (aD hS rfl) c32),
      fun S hS => aB rfl (aM rfl rfl (aA rfl) rfl (aA rfl) (aD hS rfl) c32),
      fun S hS => aB rfl (aM rfl rfl (aA rfl) rfl (aA rfl) (aD hS rfl) c32),
      fun S hS => aB rfl (aM rfl rfl (aA rfl) rfl (aA rfl) (aD hS rfl) c32),
      fun S hS => aB rfl (aM rfl rfl (aA rfl) rfl (aA rfl) (aD hS rfl) c32),
      fun S hS => aB rfl (aM rfl rfl (aA rfl) rfl (aA rfl) (aD hS rfl) c32),
      fun S hS => aB rfl (aM rfl rfl (aA rfl) rfl (aA rfl) (aD hS rfl) c32),
      fun S hS => aB rfl (aR rfl (bH (v := .d (.lit (.bool false))) (aA rfl) (aC hS rfl) c32 rfl rfl)),
      fun S hS => aB rfl (aR rfl (aE (v := .d (.lit (.bool (false)))) (aA rfl) (aC hS rfl) rfl)),
      fun S hS => aB rfl (aG rfl rfl (aA rfl) (aD hS rfl) c37 (aS (aA rfl) (aC hS rfl) dQ)),
      fun S hS => aB rfl (aG rfl rfl (aA rfl) (aD hS rfl) c37 (aU (aA rfl) (aC hS rfl) (i := 1) rfl rfl aZ)),
      fun S hS => aB rfl (aG rfl rfl (aA rfl) (aD hS rfl) c37 (bE (aA rfl) (aC hS rfl) rfl rfl)),
      fun S hS => aB rfl (aG rfl rfl (aA rfl) (aD hS rfl) c37 (aE (v := .d (.lit (.bool ((!decide (x24.Two = (-2))))))) (aA rfl) (aC hS rfl) rfl)),
      fun S hS => aB rfl (aG rfl rfl (aA rfl) (aD hS rfl) c40 (aS (aA rfl) (aC hS rfl) dQ)),
      fun S hS => aB rfl (aG rfl rfl (aA rfl) (aD hS rfl) c40 (aU (aA rfl) (aC hS rfl) (i := 1) rfl rfl aZ)),
      fun S hS => aB rfl (aG rfl rfl (aA rfl) (aD hS rfl) c40 (aE (v := .d (.sl 1 (x28.map aO))) (aA rfl) (aC hS rfl) rfl)),
      fun S hS => aB rfl (aG rfl rfl (aA rfl) (aD hS rfl) c40 (aS (aA rfl) (aC hS rfl) dE)),
      fun S hS => aB rfl (aG rfl rfl (aA rfl) (aD hS rfl) c40 (aU (aA rfl) (aC hS rfl) (i := 1) rfl rfl aZ)),
      fun S hS => aB rfl (aG rfl rfl (aA rfl) (aD hS rfl) c40 (bL (aA rfl) rfl (aC hS rfl) rfl)),
      fun S hS => aB rfl (aG rfl rfl (aA rfl) (aD hS rfl) c40 (bL (aA rfl) (aC hS rfl) rfl rfl)),
      fun S hS => aB rfl (aG rfl rfl (aA rfl) (aD hS rfl) c40 (bA (aA rfl) (aC hS rfl) (aC hS rfl) bP.of (bJ aO h42))),
      fun S hS => aB rfl (aG rfl rfl (aA rfl) (aD hS rfl) c40 (bC (aA rfl) (aC hS rfl) aZ)),
      fun S hS => aB rfl (aG rfl rfl (aA rfl) (aD hS rfl) c40 (bE (aA rfl) (aC hS rfl) (aC hS rfl) rfl)),
      fun S hS => aB rfl (aG rfl rfl (aA rfl) (aD hS rfl) c37 (bO (v := .d (.lit (.bool ((!decide (x24.Two = x41)))))) (aA rfl) (aC hS rfl) c40 (aC hS rfl) rfl)),
      fun S hS => aB rfl (aR rfl (bH (v := .d (.lit (.bool (!decide (x24.Two = x41))))) (aA rfl) (aC hS rfl) c37 (aC hS rfl) rfl)),
      fun S hS => aB rfl (aR rfl (aE (v := .d (.lit (.bool (!decide (x24.Two = x41))))) (aA rfl) (aC hS rfl) rfl)),
      fun S hS => aB rfl (aG rfl rfl (aA rfl) (aD hS rfl) c45 (aE (v := .d (.sl 1 (r18.2.1.map aO))) (aA rfl) (aC hS rfl) rfl)),
      fun S hS => aB rfl (aG rfl rfl (aA rfl) (aD hS rfl) c45 (aE (v := .d (.lit (.int .i64 i_0_21))) (aA rfl) (aC hS rfl) rfl)),
      fun S hS => aB rfl (aG rfl rfl (aA rfl) (aD hS rfl) c45 (bA (aA rfl) (aC hS rfl) (aC hS rfl) bP.of (bJ aO h47))),
      fun S hS => aB rfl (aG rfl rfl (aA rfl) (aD hS rfl) c45 (bC (aA rfl) (aC hS rfl) aZ)),
      fun S hS => aB rfl (aG rfl rfl (aA rfl) (aD hS rfl) c45 (bE (aA rfl) (aC hS rfl) rfl rfl)),
      fun S hS => aB rfl (aG rfl rfl (aA rfl) (aD hS rfl) c45 (aE (v := .d (.lit (.bool ((!decide (x46 = (-2))))))) (aA rfl) (aC hS rfl) rfl)),
      fun S hS => aB rfl (aM rfl rfl (aA rfl) rfl (aA rfl) (aD hS rfl) c50),
      fun S hS => aB rfl (aM rfl rfl (aA rfl) rfl (aA rfl) (aD hS rfl) c50),
      fun S hS => aB rfl (aM rfl rfl (aA rfl) rfl (aA rfl) (aD hS rfl) c50),
      fun S hS => aB rfl (aM rfl rfl (aA rfl) rfl (aA rfl) (aD hS rfl) c50),
      fun S hS => aB rfl (aM rfl rfl (aA rfl) rfl (aA rfl) (aD hS rfl) c50),
      fun S hS => aB rfl (aM rfl rfl (aA rfl) rfl (aA rfl) (aD hS rfl) c50),
      fun S hS => aB rfl (aM rfl rfl (aA rfl) rfl (aA rfl) (aD hS rfl) c50),
      fun S hS => aB rfl (aM rfl rfl (aA rfl) rfl (aA rfl) (aD hS rfl) c50),
      fun S hS => aB rfl (aM rfl rfl (aA rfl) rfl (aA rfl) (aD hS rfl) c50),
      fun S hS => aB rfl (aM rfl rfl (aA rfl) rfl (aA rfl) (aD hS rfl) c50),
      fun S hS => aB rfl (aM rfl rfl (aA rfl) rfl (aA rfl) (aD hS rfl) c50),
      fun S hS => aB rfl (aM rfl rfl (aA rfl) rfl (aA rfl) (aD hS rfl) c50),
      fun S hS => aB rfl (aM rfl rfl (aA rfl) rfl (aA rfl) (aD hS rfl) c50),
      fun S hS => aB rfl (aM rfl rfl (aA rfl) rfl (aA rfl) (aD hS rfl) c50),
      fun S hS => aB rfl (aG rfl rfl (aA rfl) (aD hS rfl) c45 (bH (v := .d (.lit (.bool false))) (aA rfl) (aC hS rfl) c50 rfl rfl)),
      fun S hS => aB rfl (aR rfl (bH (v := .d (.lit (.bool (false)))) (aA rfl) (aC hS rfl) c45 (aC hS rfl) rfl)), trivial⟩⟩
              · exact cL (aX rfl (bF ⟨rfl, rfl, rfl, rfl, rfl, rfl, rfl, rfl, trivial⟩))
           ·have h39 := bB c40 h39
            have h39 := Option.some.inj h39
            subst h39
            have h36 := Option.some.inj h36
            subst h36
            have c45 : false = false := rfl
            have h44 := bB c45 h44
            obtain ⟨x46, h47, h44⟩ := bind_some h44
            obtain ⟨b48, h49, h44⟩ := bind_some h44
            refine bM (!decide (x46 = (-2))) (fun c50 => ?_) (fun c50 => ?_)
            ·have h49 := bD c50 h49
             obtain ⟨x51, h52, h49⟩ := bind_some h49
             obtain ⟨x53, h54, h49⟩ := bind_some h49
             obtain ⟨x55, h56, h49⟩ := bind_some h49
             have h49 := Option.some.inj h49
             subst h49
             have h44 := Option.some.inj h44
             subst h44
             refine ⟨[(85, 0, .bp b26 0 2), (86, 1, .d (.lit (.int .i64 x24.One))), (87, 2, .d (.lit (.bool ((!decide (x24.One = (-2))))))), (88, 3, .d (.lit (.bool ((!decide (x24.One = (-2))))))), (89, 4, .tup []), (90, 5, .tup []), (91, 6, .tup []), (92, 7, .tup []), (93, 8, .tup []), (94, 9, .tup []), (95, 10, .tup []), (96, 11, .tup []), (97, 12, .tup []), (98, 13, .d (.lit (.bool false))), (99, 14, .d (.lit (.bool (false)))), (100, 15, .bp b26 0 3), (101, 16, .d (.lit (.int .i64 x24.Two))), (102, 17, .d (.lit (.bool ((!decide (x24.Two = (-2))))))), (103, 18, .d (.lit (.bool ((!decide (x24.Two = (-2))))))), (104, 19, .tup []), (105, 20, .tup []), (106, 21, .tup []), (107, 22, .tup []), (108, 23, .tup []), (109, 24, .tup []), (110, 25, .tup []), (111, 26, .tup []), (112, 27, .tup []), (113, 28, .tup []), (114, 29, .d (.lit (.bool false))), (115, 30, .d (.lit (.bool (false)))), (116, 31, .d (.lit (.bool (false)))), (117, 32, .d (.sl 1 (r18.2.1.map aO))), (118, 33, .d (.lit (.int .i64 i_0_21))), (119, 34, .cp [.lit (.int .i64 x46)]), (120, 35, .d (.lit (.int .i64 x46))), (121, 36, .d (.lit (.bool ((!decide (x46 = (-2))))))), (122, 37, .d (.lit (.bool ((!decide (x46 = (-2))))))), (123, 38, .d (.sl 1 (r18.2.1.map aO))), (124, 39, .d (.lit (.int .i64 i_0_21))), (125, 40, .cp [.lit (.int .i64 x51)]), (126, 41, .d (.lit (.int .i64 x51))), (127, 42, .d (.sl 1 (course_2.map cG))), (128, 43, .bp b26 0 0), (129, 44, .d (.lit (.int .i64 x24.Round))), (130, 45, .cp [.sl 1 (x53.map aO)]), (131, 46, .d (.sl 1 (x53.map aO))), (132, 47, .bp b26 0 1), (133, 48, .d (.lit (.int .i64 x24.Place))), (134, 49, .cp [.lit (.int .i64 x55)]), (135, 50, .d (.lit (.int .i64 x55))), (136, 51, .d (.lit (.bool ((!decide (x51 = x55)))))), (137, 52, .d (.lit (.bool ((!decide (x51 = x55)))))), (138, 53, .d (.lit (.bool (!decide (x51 = x55)))))], ?_, ?_⟩
             · exact ⟨by kernel_rfl, by kernel_rfl, by kernel_rfl, by kernel_rfl, by kernel_rfl, [([], []), ([0], []), ([1], []), ([2], []), ([3], []), ([3, 4], []), ([3], []), ([3], []), ([3, 7], []), ([3, 8], []), ([3, 6, 9], []), ([3, 10], []), ([3, 5, 11], []), ([3, 12], []), ([13], []), ([14], []), ([14, 15], []), ([14, 16], []), ([14, 17], []), ([18], []), ([18, 19], []), ([18], []), ([18], []), ([18, 22], []), ([18, 23], []), ([18, 24], []), ([18, 21, 25], []), ([18, 26], []), ([18, 20, 27], []), ([14, 18, 28], []), ([14, 29], []), ([30], []), ([31], []), ([31], []), ([31, 32, 33], []), ([31, 34], []), ([31, 35], []), ([31, 36], []), ([37], []), ([37], []), ([37, 38, 39], []), ([37, 40], []), ([37], []), ([37], []), ([37, 43], []), ([37, 42, 44], []), ([37, 45], []), ([37], []), ([37, 47], []), ([37, 46, 48], []), ([37, 49], []), ([37, 41, 50], []), ([31, 37, 51], []), ([31, 52], [])], by kernel_rfl, ⟨fun S hS => aB rfl (aR rfl (aS (aA rfl) (aC hS rfl) dL)),
      fun S hS => aB rfl (aR rfl (aU (aA rfl) (aC hS rfl) (i := 1) rfl rfl aZ)),
      fun S hS => aB rfl (aR rfl (bE (aA rfl) (aC hS rfl) rfl rfl)),
      fun S hS => aB rfl (aR rfl (aE (v := .d (.lit (.bool ((!decide (x24.One = (-2))))))) (aA rfl) (aC hS rfl) rfl)),
      fun S hS => aB rfl (aM rfl rfl (aA rfl) rfl (aA rfl) (aD hS rfl) c32),
      fun S hS => aB rfl (aM rfl rfl (aA rfl) rfl (aA rfl) (aD hS rfl) c32),
      fun S hS => aB rfl (aM rfl rfl (aA rfl) rfl (aA rfl) (aD hS rfl) c32),
      fun S hS => aB rfl (aM rfl rfl (aA rfl) rfl (aA rfl) (aD hS rfl) c32),
      fun S hS => aB rfl (aM rfl rfl (aA rfl) rfl (aA rfl) (aD hS rfl) c32),
      fun S hS => aB rfl (aM rfl rfl (aA rfl) rfl (aA rfl) (aD hS rfl) c32),
      fun S hS => aB rfl (aM rfl rfl (aA rfl) rfl (aA rfl) (aD hS rfl) c32),
      fun S hS => aB rfl (aM rfl rfl (aA rfl) rfl (aA rfl) (aD hS rfl) c32),
      fun S hS => aB rfl (aM rfl rfl (aA rfl) rfl (aA rfl) (aD hS rfl) c32),
      fun S hS => aB rfl (aR rfl (bH (v := .d (.lit (.bool false))) (aA rfl) (aC hS rfl) c32 rfl rfl)),
      fun S hS => aB rfl (aR rfl (aE (v := .d (.lit (.bool (false)))) (aA rfl) (aC hS rfl) rfl)),
      fun S hS => aB rfl (aG rfl rfl (aA rfl) (aD hS rfl) c37 (aS (aA rfl) (aC hS rfl) dQ)),
      fun S hS => aB rfl (aG rfl rfl (aA rfl) (aD hS rfl) c37 (aU (aA rfl) (aC hS rfl) (i := 1) rfl rfl aZ)),
      fun S hS => aB rfl (aG rfl rfl (aA rfl) (aD hS rfl) c37 (bE (aA rfl) (aC hS rfl) rfl rfl)),
      fun S hS => aB rfl (aG rfl rfl (aA rfl) (aD hS rfl) c37 (aE (v := .d (.lit (.bool ((!decide (x24.Two = (-2))))))) (aA rfl) (aC hS rfl) rfl)),
      fun S hS => aB rfl (aM rfl rfl (aA rfl) rfl (aA rfl) (aD hS rfl) c40),
      fun S hS => aB rfl (aM rfl rfl (aA rfl) rfl (aA rfl) (aD hS rfl) c40),
      fun S hS => aB rfl (aM rfl rfl (aA rfl) rfl (aA rfl) (aD hS rfl) c40),
      fun S hS => aB rfl (aM rfl rfl (aA rfl) rfl (aA rfl) (aD hS rfl) c40),
      fun S hS => aB rfl (aM rfl rfl (aA rfl) rfl (aA rfl) (aD hS rfl) c40),
      fun S hS => aB rfl (aM rfl rfl (aA rfl) rfl (aA rfl) (aD hS rfl) c40),
      fun S hS => aB rfl (aM rfl rfl (aA rfl) rfl (aA rfl) (aD hS rfl) c40),
      fun S hS => aB rfl (aM rfl rfl (aA rfl) rfl (aA rfl) (aD hS rfl) c40),
      fun S hS => aB rfl (aM rfl rfl (aA rfl) rfl (aA rfl) (aD hS rfl) c40),
      fun S hS => aB rfl (aM rfl rfl (aA rfl) rfl (aA rfl) (aD hS rfl) c40),
      fun S hS => aB rfl (aG rfl rfl (aA rfl) (aD hS rfl) c37 (bH (v := .d (.lit (.bool false))) (aA rfl) (aC hS rfl) c40 rfl rfl)),
      fun S hS => aB rfl (aR rfl (bH (v := .d (.lit (.bool (false)))) (aA rfl) (aC hS rfl) c37 (aC hS rfl) rfl)),
      fun S hS => aB rfl (aR rfl (aE (v := .d (.lit (.bool (false)))) (aA rfl) (aC hS rfl) rfl)),
      fun S hS => aB rfl (aG rfl rfl (aA rfl) (aD hS rfl) c45 (aE (v := .d (.sl 1 (r18.2.1.map aO))) (aA rfl) (aC hS rfl) rfl)),
      fun S hS => aB rfl (aG rfl rfl (aA rfl) (aD hS rfl) c45 (aE (v := .d (.lit (.int .i64 i_0_21))) (aA rfl) (aC hS rfl) rfl)),
      fun S hS => aB rfl (aG rfl rfl (aA rfl) (aD hS rfl) c45 (bA (aA rfl) (aC hS rfl) (aC hS rfl) bP.of (bJ aO h47))),
      fun S hS => aB rfl (aG rfl rfl (aA rfl) (aD hS rfl) c45 (bC (aA rfl) (aC hS rfl) aZ)),
      fun S hS => aB rfl (aG rfl rfl (aA rfl) (aD hS rfl) c45 (bE (aA rfl) (aC hS rfl) rfl rfl)),
      fun S hS => aB rfl (aG rfl rfl (aA rfl) (aD hS rfl) c45 (aE (v := .d (.lit (.bool ((!decide (x46 = (-2))))))) (aA rfl) (aC hS rfl) rfl)),
      fun S hS => aB rfl (aG rfl rfl (aA rfl) (aD hS rfl) c50 (aE (v := .d (.sl 1 (r18.2.1.map aO))) (aA rfl) (aC hS rfl) rfl)),
      fun S hS => aB rfl (aG rfl rfl (aA rfl) (aD hS rfl) c50 (aE (v := .d (.lit (.int .i64 i_0_21))) (aA rfl) (aC hS rfl) rfl)),
      fun S hS => aB rfl (aG rfl rfl (aA rfl) (aD hS rfl) c50 (bA (aA rfl) (aC hS rfl) (aC hS rfl) bP.of (bJ aO h52))),
      fun S hS => aB rfl (aG rfl rfl (aA rfl) (aD hS rfl) c50 (bC (aA rfl) (aC hS rfl) aZ)),
      fun S hS => aB rfl (aG rfl rfl (aA rfl) (aD hS rfl) c50 (aE (v := .d (.sl 1 (course_2.map cG))) (aA rfl) (aC hS rfl) rfl)),
      fun S hS => aB rfl (aG rfl rfl (aA rfl) (aD hS rfl) c50 (aS (aA rfl) (aC hS rfl) iT)),
      fun S hS => aB rfl (aG rfl rfl (aA rfl) (aD hS rfl) c50 (aU (aA rfl) (aC hS rfl) (i := 1) rfl rfl aZ)),
      fun S hS => aB rfl (aG rfl rfl (aA rfl) (aD hS rfl) c50 (bA (aA rfl) (aC hS rfl) (aC hS rfl) jG.of (bJ cG h54))),
      fun S hS => aB rfl (aG rfl rfl (aA rfl) (aD hS rfl) c50 (bC (aA rfl) (aC hS rfl) cU)),
      fun S hS => aB rfl (aG rfl rfl (aA rfl) (aD hS rfl) c50 (aS (aA rfl) (aC hS rfl) dE)),
      fun S hS => aB rfl (aG rfl rfl (aA rfl) (aD hS rfl) c50 (aU (aA rfl) (aC hS rfl) (i := 1) rfl rfl aZ)),
      fun S hS => aB rfl (aG rfl rfl (aA rfl) (aD hS rfl) c50 (bA (aA rfl) (aC hS rfl) (aC hS rfl) bP.of (bJ aO h56))),
      fun S hS => aB rfl (aG rfl rfl (aA rfl) (aD hS rfl) c50 (bC (aA rfl) (aC hS rfl) aZ)),
      fun S hS => aB rfl (aG rfl rfl (aA rfl) (aD hS rfl) c50 (bE (aA rfl) (aC hS rfl) (aC hS rfl) rfl)),
      fun S hS => aB rfl (aG rfl rfl (aA rfl) (aD hS rfl) c45 (bO (v := .d (.lit (.bool ((!decide (x51 = x55)))))) (aA rfl) (aC hS rfl) c50 (aC hS rfl) rfl)),
      fun S hS => aB rfl (aR rfl (bH (v := .d (.lit (.bool (!decide (x51 = x55))))) (aA rfl) (aC hS rfl) c45 (aC hS rfl) rfl)), trivial⟩⟩
             · exact cL (aX rfl (bF ⟨rfl, rfl, rfl, rfl, rfl, rfl, rfl, rfl, trivial⟩))
            ·have h49 := bB c50 h49
             have h49 := Option.some.inj h49
             subst h49
             have h44 := Option.some.inj h44
             subst h44
             refine ⟨[(85, 0, .bp b26 0 2), (86, 1, .d (.lit (.int .i64 x24.One))), (87, 2, .d (.lit (.bool ((!decide (x24.One = (-2))))))), (88, 3, .d (.lit (.bool ((!decide (x24.One = (-2))))))), (89, 4, .tup []), (90, 5, .tup []), (91, 6, .tup []), (92, 7, .tup []), (93, 8, .tup []), (94, 9, .tup []), (95, 10, .tup []), (96, 11, .tup []), (97, 12, .tup []), (98, 13, .d (.lit (.bool false))), (99, 14, .d (.lit (.bool (false)))), (100, 15, .bp b26 0 3), (101, 16, .d (.lit (.int .i64 x24.Two))), (102, 17, .d (.lit (.bool ((!decide (x24.Two = (-2))))))), (103, 18, .d (.lit (.bool ((!decide (x24.Two = (-2))))))), (104, 19, .tup []), (105, 20, .tup []), (106, 21, .tup []), (107, 22, .tup []), (108, 23, .tup []), (109, 24, .tup []), (110, 25, .tup []), (111, 26, .tup []), (112, 27, .tup []), (113, 28, .tup []), (114, 29, .d (.lit (.bool false))), (115, 30, .d (.lit (.bool (false)))), (116, 31, .d (.lit (.bool (false)))), (117, 32, .d (.sl 1 (r18.2.1.map aO))), (118, 33, .d (.lit (.int .i64 i_0_21))), (119, 34, .cp [.lit (.int .i64 x46)]), (120, 35, .d (.lit (.int .i64 x46))), (121, 36, .d (.lit (.bool ((!decide (x46 = (-2))))))), (122, 37, .d (.lit (.bool ((!decide (x46 = (-2))))))), (123, 38, .tup []), (124, 39, .tup []), (125, 40, .tup []), (126, 41, .tup []), (127, 42, .tup []), (128, 43, .tup []), (129, 44, .tup []), (130, 45, .tup []), (131, 46, .tup []), (132, 47, .tup []), (133, 48, .tup []), (134, 49, .tup []), (135, 50, .tup []), (136, 51, .tup []), (137, 52, .d (.lit (.bool false))), (138, 53, .d (.lit (.bool (false))))], ?_, ?_⟩
             · exact ⟨by kernel_rfl, by kernel_rfl, by kernel_rfl, by kernel_rfl, by kernel_rfl, [([], []), ([0], []), ([1], []), ([2], []), ([3], []), ([3, 4], []), ([3], []), ([3], []), ([3, 7], []), ([3, 8], []), ([3, 6, 9], []), ([3, 10], []), ([3, 5, 11], []), ([3, 12], []), ([13], []), ([14], []), ([14, 15], []), ([14, 16], []), ([14, 17], []), ([18], []), ([18, 19], []), ([18], []), ([18], []), ([18, 22], []), ([18, 23], []), ([18, 24], []), ([18, 21, 25], []), ([18, 26], []), ([18, 20, 27], []), ([14, 18, 28], []), ([14, 29], []), ([30], []), ([31], []), ([31], []), ([31, 32, 33], []), ([31, 34], []), ([31, 35], []), ([31, 36], []), ([37], []), ([37], []), ([37, 38, 39], []), ([37, 40], []), ([37], []), ([37], []), ([37, 43], []), ([37, 42, 44], []), ([37, 45], []), ([37], []), ([37, 47], []), ([37, 46, 48], []), ([37, 49], []), ([37, 41, 50], []), ([31, 37, 51], []), ([31, 52], [])], by kernel_rfl, ⟨fun S hS => aB rfl (aR rfl (aS (aA rfl) (aC hS rfl) dL)),
      fun S hS => aB rfl (aR rfl (aU (aA rfl) (aC hS rfl) (i := 1) rfl rfl aZ)),
      fun S hS => aB rfl (aR rfl (bE (aA rfl) (aC hS rfl) rfl rfl)),
      fun S hS => aB rfl (aR rfl (aE (v := .d (.lit (.bool ((!decide (x24.One = (-2))))))) (aA rfl) (aC hS rfl) rfl)),
      fun S hS => aB rfl (aM rfl rfl (aA rfl) rfl (aA rfl) (aD hS rfl) c32),
      fun S hS => aB rfl (aM rfl rfl (aA rfl) rfl (aA rfl) (aD hS rfl) c32),
      fun S hS => aB rfl (aM rfl rfl (aA rfl) rfl (aA rfl) (aD hS rfl) c32),
      fun S hS => aB rfl (aM rfl rfl (aA rfl) rfl (aA rfl) (aD hS rfl) c32),
      fun S hS => aB rfl (aM rfl rfl (aA rfl) rfl (aA rfl) (aD hS rfl) c32),
      fun S hS => aB rfl (aM rfl rfl (aA rfl) rfl (aA rfl) (aD hS rfl) c32),
      fun S hS => aB rfl (aM rfl rfl (aA rfl) rfl (aA rfl) (aD hS rfl) c32),
      fun S hS => aB rfl (aM rfl rfl (aA rfl) rfl (aA rfl) (aD hS rfl) c32),
      fun S hS => aB rfl (aM rfl rfl (aA rfl) rfl (aA rfl) (aD hS rfl) c32),
      fun S hS => aB rfl (aR rfl (bH (v := .d (.lit (.bool false))) (aA rfl) (aC hS rfl) c32 rfl rfl)),
      fun S hS => aB rfl (aR rfl (aE (v := .d (.lit (.bool (false)))) (aA rfl) (aC hS rfl) rfl)),
      fun S hS => aB rfl (aG rfl rfl (aA rfl) (aD hS rfl) c37 (aS (aA rfl) (aC hS rfl) dQ)),
      fun S hS => aB rfl (aG rfl rfl (aA rfl) (aD hS rfl) c37 (aU (aA rfl) (aC hS rfl) (i := 1) rfl rfl aZ)),
      fun S hS => aB rfl (aG rfl rfl (aA rfl) (aD hS rfl) c37 (bE (aA rfl) (aC hS rfl) rfl rfl)),
      fun S hS => aB rfl (aG rfl rfl (aA rfl) (aD hS rfl) c37 (aE (v := .d (.lit (.bool ((!decide (x24.Two = (-2))))))) (aA rfl) (aC hS rfl) rfl)),
      fun S hS => aB rfl (aM rfl rfl (aA rfl) rfl (aA rfl) (aD hS rfl) c40),
      fun S hS => aB rfl (aM rfl rfl (aA rfl) rfl (aA rfl) (aD hS rfl) c40),
      fun S hS => aB rfl (aM rfl rfl (aA rfl) rfl (aA rfl) (aD hS rfl) c40),
      fun S hS => aB rfl (aM rfl rfl (aA rfl) rfl (aA rfl) (aD hS rfl) c40),
      fun S hS => aB rfl (aM rfl rfl (aA rfl) rfl (aA rfl) (aD hS rfl) c40),
      fun S hS => aB rfl (aM rfl rfl (aA rfl) rfl (aA rfl) (aD hS rfl) c40),
      fun S hS => aB rfl (aM rfl rfl (aA rfl) rfl (aA rfl) (aD hS rfl) c40),
      fun S hS => aB rfl (aM rfl rfl (aA rfl) rfl (aA rfl) (aD hS rfl) c40),
      fun S hS => aB rfl (aM rfl rfl (aA rfl) rfl (aA rfl) (aD hS rfl) c40),
      fun S hS => aB rfl (aM rfl rfl (aA rfl) rfl (aA rfl) (aD hS rfl) c40),
      fun S hS => aB rfl (aG rfl rfl (aA rfl) (aD hS rfl) c37 (bH (v := .d (.lit (.bool false))) (aA rfl) (aC hS rfl) c40 rfl rfl)),
      fun S hS => aB rfl (aR rfl (bH (v := .d (.lit (.bool (false)))) (aA rfl) (aC hS rfl) c37 (aC hS rfl) rfl)),
      fun S hS => aB rfl (aR rfl (aE (v := .d (.lit (.bool (false)))) (aA rfl) (aC hS rfl) rfl)),
      fun S hS => aB rfl (aG rfl rfl (aA rfl) (aD hS rfl) c45 (aE (v := .d (.sl 1 (r18.2.1.map aO))) (aA rfl) (aC hS rfl) rfl)),
      fun S hS => aB rfl (aG rfl rfl (aA rfl) (aD hS rfl) c45 (aE (v := .d (.lit (.int .i64 i_0_21))) (aA rfl) (aC hS rfl) rfl)),
      fun S hS => aB rfl (aG rfl rfl (aA rfl) (aD hS rfl) c45 (bA (aA rfl) (aC hS rfl) (aC hS rfl) bP.of (bJ aO h47))),
      fun S hS => aB rfl (aG rfl rfl (aA rfl) (aD hS rfl) c45 (bC (aA rfl) (aC hS rfl) aZ)),
      fun S hS => aB rfl (aG rfl rfl (aA rfl) (aD hS rfl) c45 (bE (aA rfl) (aC hS rfl) rfl rfl)),
      fun S hS => aB rfl (aG rfl rfl (aA rfl) (aD hS rfl) c45 (aE (v := .d (.lit (.bool ((!decide (x46 = (-2))))))) (aA rfl) (aC hS rfl) rfl)),
      fun S hS => aB rfl (aM rfl rfl (aA rfl) rfl (aA rfl) (aD hS rfl) c50),
      fun S hS => aB rfl (aM rfl rfl (aA rfl) rfl (aA rfl) (aD hS rfl) c50),
      fun S hS => aB rfl (aM rfl rfl (aA rfl) rfl (aA rfl) (aD hS rfl) c50),
      fun S hS => aB rfl (aM rfl rfl (aA rfl) rfl (aA rfl) (aD hS rfl) c50),
      fun S hS => aB rfl (aM rfl rfl (aA rfl) rfl (aA rfl) (aD hS rfl) c50),
      fun S hS => aB rfl (aM rfl rfl (aA rfl) rfl (aA rfl) (aD hS rfl) c50),
      fun S hS => aB rfl (aM rfl rfl (aA rfl) rfl (aA rfl) (aD hS rfl) c50),
      fun S hS => aB rfl (aM rfl rfl (aA rfl) rfl (aA rfl) (aD hS rfl) c50),
      fun S hS => aB rfl (aM rfl rfl (aA rfl) rfl (aA rfl) (aD hS rfl) c50),
      fun S hS => aB rfl (aM rfl rfl (aA rfl) rfl (aA rfl) (aD hS rfl) c50),
      fun S hS => aB rfl (aM rfl rfl (aA rfl) rfl (aA rfl) (aD hS rfl) c50),
      fun S hS => aB rfl (aM rfl rfl (aA rfl) rfl (aA rfl) (aD hS rfl) c50),
      fun S hS => aB rfl (aM rfl rfl (aA rfl) rfl (aA rfl) (aD hS rfl) c50),
      fun S hS => aB rfl (aM rfl rfl (aA rfl) rfl (aA rfl) (aD hS rfl) c50),
      fun S hS => aB rfl (aG rfl rfl (aA rfl) (aD hS rfl) c45 (bH (v := .d (.lit (.bool false))) (aA rfl) (aC hS rfl) c50 rfl rfl)),
      fun S hS => aB rfl (aR rfl (bH (v := .d (.lit (.bool (false)))) (aA rfl) (aC hS rfl) c45 (aC hS rfl) rfl)), trivial⟩⟩
             · exact cL (aX rfl (bF ⟨rfl, rfl, rfl, rfl, rfl, rfl, rfl, rfl, trivial⟩))
         ·refine aJ ?_
          refine bY rfl (fun c57 => ?_) (fun c57 => ?_)
          ·have h := bD c57 h
           refine aK ?_
           refine aH ?_
           refine tr1 rfl (aL (v := .d (.lit (.bool false))) (aA rfl) rfl rfl) ?_
           refine aJ ?_
           have h := Option.some.inj h
           subst h
           refine cR (cQ (cX (l := [6]) ⟨rfl, trivial⟩)) ?_
           exact bV ⟨rfl, _, .one _, rfl, rfl⟩
          ·have h := bB c57 h
           refine bU ?_
           refine aK ?_
           refine aH ?_
           refine tr1 rfl (bW (aA rfl) rfl (i := 0) rfl dX (es := (aY t_0)) rfl rfl) ?_
           refine tr1 rfl (aE (v := .d (.sl 5 (l_1.map aP))) (aA rfl) rfl rfl) ?_
           refine tr1 rfl (aS (aA rfl) rfl iT) ?_
           refine tr1 rfl (aU (aA rfl) rfl (i := 1) rfl rfl aZ) ?_
           refine tr1 rfl (aS (aA rfl) rfl dE) ?_
           refine tr1 rfl (aU (aA rfl) rfl (i := 1) rfl rfl aZ) ?_
           obtain ⟨r58, h59, h⟩ := bind_some h
           refine tr1 rfl (gN (aA rfl) (.func _ _ Try.call15) rfl rfl (sX _ _ _ _ h59)) ?_
           refine tr1 rfl (aE (v := .tup [.d (.sl 1 (r58.1.map aO)), .d (.lit (.int .i64 r58.2))]) (aA rfl) rfl rfl) ?_
           refine tr1 rfl (bX (aA rfl) rfl rfl) ?_
           refine tr1 rfl (bX (aA rfl) rfl rfl) ?_
           refine tr1 rfl (aL (v := .d (.sl 1 (r58.1.map aO))) (aA rfl) rfl rfl) ?_
           refine tr1 rfl (aL (v := .d (.lit (.int .i64 r58.2))) (aA rfl) rfl rfl) ?_
           refine aJ ?_
           refine aK ?_
           refine aH ?_
           refine tr1 rfl (aL (v := .d (.lit (.bool false))) (aA rfl) rfl rfl) ?_
           refine aJ ?_
           refine aK ?_
           refine aK ?_
           refine aH ?_
           refine tr1 rfl (aL (v := .d (.lit (.int .i64 0))) (aA rfl) rfl rfl) ?_
           refine aJ ?_
           refine cF ?_
           refine dJ [1, 2, 3, 7, 9, 10, 12, 13, 15, 16] (fun (s60 : Bool × Int) => [(17, .d (.lit (.bool s60.1))), (18, .d (.lit (.int .i64 s60.2)))]) (fun (s60 : Bool × Int) => [.box b1 0 (aY t_0), .box b26 0 (cC x24)]) (fun (k : Nat) (s60 : Bool × Int) => cM (cB l_1 course_2 r9.1 r18.1 r18.2.1 t_0 k22) l_1 course_2 r9.1 r18.1 r18.2.1 i_0_21 r58.1 r58.2 t_0 x24 k s60.1 s60.2) (fun _ => rfl) (false, 0) h (bK [0, 1] rfl rfl (aX rfl (aX rfl (bF ⟨rfl, rfl, rfl, rfl, rfl, rfl, rfl, rfl, rfl, rfl, trivial⟩)))) ?_
           rintro k61 ⟨found_2_60, k_2_60⟩ h
           simp only [cM] at h
           refine aK ?_
           refine aK ?_
           refine aH ?_
           refine tr1 rfl (aE (v := .d (.lit (.int .i64 k_2_60))) (aA rfl) rfl rfl) ?_
           refine tr1 rfl (aE (v := .d (.sl 1 (r58.1.map aO))) (aA rfl) rfl rfl) ?_
           refine tr1 rfl (dR (aA rfl) rfl bP.of) ?_
           refine tr1 rfl (bE (aA rfl) rfl rfl rfl) ?_
           refine aJ ?_
           refine bY rfl (fun c62 => ?_) (fun c62 => ?_)
           ·have h := bD c62 h
            refine bU ?_
            refine aK ?_
            refine cF ?_
            obtain ⟨b63, h64, h⟩ := bind_some h
            refine dN mix 17 [1, 2, 3, 7, 9, 10, 12, 13, 15, 16, 18] [(171, .d (.lit (.bool b63)))] ?_ ?_
            ·refine bM (found_2_60) (fun c65 => ?_) (fun c65 => ?_)
             ·have h64 := bD c65 h64
              have h64 := Option.some.inj h64
              subst h64
              refine ⟨[(155, 0, .d (.lit (.bool found_2_60))), (156, 1, .d (.lit (.bool found_2_60))), (157, 2, .tup []), (158, 3, .tup []), (159, 4, .tup []), (160, 5, .tup []), (161, 6, .tup []), (162, 7, .tup []), (163, 8, .tup []), (164, 9, .tup []), (165, 10, .tup []), (166, 11, .tup []), (167, 12, .tup []), (168, 13, .tup []), (169, 14, .tup []), (170, 15, .tup []), (171, 16, .d (.lit (.bool true)))], ?_, ?_⟩
              · exact ⟨by kernel_rfl, by kernel_rfl, by kernel_rfl, by kernel_rfl, by kernel_rfl, [([], []), ([0], []), ([1], []), ([1], []), ([1, 2, 3], []), ([1, 4], []), ([1], []), ([1], []), ([1, 7], []), ([1, 6, 8], []), ([1, 9], []), ([1], []), ([1, 11], []), ([1, 10, 12], []), ([1, 13], []), ([1, 5, 14], []), ([1, 15], [])], by kernel_rfl, ⟨fun S hS => aB rfl (aR rfl (aE (v := .d (.lit (.bool found_2_60))) (aA rfl) (aC hS rfl) rfl)),
      fun S hS => aB rfl (aR rfl (aE (v := .d (.lit (.bool found_2_60))) (aA rfl) (aC hS rfl) rfl)),
      fun S hS => aB rfl (aM rfl rfl (aA rfl) rfl (aA rfl) (aD hS rfl) c65),
      fun S hS => aB rfl (aM rfl rfl (aA rfl) rfl (aA rfl) (aD hS rfl) c65),
      fun S hS => aB rfl (aM rfl rfl (aA rfl) rfl (aA rfl) (aD hS rfl) c65),
      fun S hS => aB rfl (aM rfl rfl (aA rfl) rfl (aA rfl) (aD hS rfl) c65),
      fun S hS => aB rfl (aM rfl rfl (aA rfl) rfl (aA rfl) (aD hS rfl) c65),
      fun S hS => aB rfl (aM rfl rfl (aA rfl) rfl (aA rfl) (aD hS rfl) c65),
      fun S hS => aB rfl (aM rfl rfl (aA rfl) rfl (aA rfl) (aD hS rfl) c65),
      fun S hS => aB rfl (aM rfl rfl (aA rfl) rfl (aA rfl) (aD hS rfl) c65),
      fun S hS => aB rfl (aM rfl rfl (aA rfl) rfl (aA rfl) (aD hS rfl) c65),
      fun S hS => aB rfl (aM rfl rfl (aA rfl) rfl (aA rfl) (aD hS rfl) c65),
      fun S hS => aB rfl (aM rfl rfl (aA rfl) rfl (aA rfl) (aD hS rfl) c65),
      fun S hS => aB rfl (aM rfl rfl (aA rfl) rfl (aA rfl) (aD hS rfl) c65),
      fun S hS => aB rfl (aM rfl rfl (aA rfl) rfl (aA rfl) (aD hS rfl) c65),
      fun S hS => aB rfl (aM rfl rfl (aA rfl) rfl (aA rfl) (aD hS rfl) c65),
      fun S hS => aB rfl (aR rfl (bO (v := .d (.lit (.bool true))) (aA rfl) (aC hS rfl) c65 rfl rfl)), trivial⟩⟩
              · exact cL (aX rfl (bF ⟨rfl, rfl, rfl, rfl, rfl, rfl, rfl, rfl, rfl, rfl, rfl, trivial⟩))
             ·have h64 := bB c65 h64
              obtain ⟨x66, h67, h64⟩ := bind_some h64
              obtain ⟨x68, h69, h64⟩ := bind_some h64
              obtain ⟨x70, h71, h64⟩ := bind_some h64
              have h64 := Option.some.inj h64
              subst h64
              refine ⟨[(155, 0, .d (.lit (.bool found_2_60))), (156, 1, .d (.lit (.bool found_2_60))), (157, 2, .d (.sl 1 (r58.1.map aO))), (158, 3, .d (.lit (.int .i64 k_2_60))), (159, 4, .cp [.lit (.int .i64 x66)]), (160, 5, .d (.lit (.int .i64 x66))), (161, 6, .d (.sl 1 (course_2.map cG))), (162, 7, .bp b26 0 0), (163, 8, .d (.lit (.int .i64 x24.Round))), (164, 9, .cp [.sl 1 (x68.map aO)]), (165, 10, .d (.sl 1 (x68.map aO))), (166, 11, .bp b26 0 1), (167, 12, .d (.lit (.int .i64 x24.Place))), (168, 13, .cp [.lit (.int .i64 x70)]), (169, 14, .d (.lit (.int .i64 x70))), (170, 15, .d (.lit (.bool ((decide (x66 = x70)))))), (171, 16, .d (.lit (.bool ((decide (x66 = x70))))))], ?_, ?_⟩
              · exact ⟨by kernel_rfl, by kernel_rfl, by kernel_rfl, by kernel_rfl, by kernel_rfl, [([], []), ([0], []), ([1], []), ([1], []), ([1, 2, 3], []), ([1, 4], []), ([1], []), ([1], []), ([1, 7], []), ([1, 6, 8], []), ([1, 9], []), ([1], []), ([1, 11], []), ([1, 10, 12], []), ([1, 13], []), ([1, 5, 14], []), ([1, 15], [])], by kernel_rfl, ⟨fun S hS => aB rfl (aR rfl (aE (v := .d (.lit (.bool found_2_60))) (aA rfl) (aC hS rfl) rfl)),
      fun S hS => aB rfl (aR rfl (aE (v := .d (.lit (.bool found_2_60))) (aA rfl) (aC hS rfl) rfl)),
      fun S hS => aB rfl (aG rfl rfl (aA rfl) (aD hS rfl) c65 (aE (v := .d (.sl 1 (r58.1.map aO))) (aA rfl) (aC hS rfl) rfl)),
      fun S hS => aB rfl (aG rfl rfl (aA rfl) (aD hS rfl) c65 (aE (v := .d (.lit (.int .i64 k_2_60))) (aA rfl) (aC hS rfl) rfl)),
      fun S hS => aB rfl (aG rfl rfl (aA rfl) (aD hS rfl) c65 (bA (aA rfl) (aC hS rfl) (aC hS rfl) bP.of (bJ aO h67))),
      fun S hS => aB rfl (aG rfl rfl (aA rfl) (aD hS rfl) c65 (bC (aA rfl) (aC hS rfl) aZ)),
      fun S hS => aB rfl (aG rfl rfl (aA rfl) (aD hS rfl) c65 (aE (v := .d (.sl 1 (course_2.map cG))) (aA rfl) (aC hS rfl) rfl)),
      fun S hS => aB rfl (aG rfl rfl (aA rfl) (aD hS rfl) c65 (aS (aA rfl) (aC hS rfl) iT)),
      fun S hS => aB rfl (aG rfl rfl (aA rfl) (aD hS rfl) c65 (aU (aA rfl) (aC hS rfl) (i := 1) rfl rfl aZ)),
      fun S hS => aB rfl (aG rfl rfl (aA rfl) (aD hS rfl) c65 (bA (aA rfl) (aC hS rfl) (aC hS rfl) jG.of (bJ cG h69))),
      fun S hS => aB rfl (aG rfl rfl (aA rfl) (aD hS rfl) c65 (bC (aA rfl) (aC hS rfl) cU)),
      fun S hS => aB rfl (aG rfl rfl (aA rfl) (aD hS rfl) c65 (aS (aA rfl) (aC hS rfl) dE)),
      fun S hS => aB rfl (aG rfl rfl (aA rfl) (aD hS rfl) c65 (aU (aA rfl) (aC hS rfl) (i := 1) rfl rfl aZ)),
      fun S hS => aB rfl (aG rfl rfl (aA rfl) (aD hS rfl) c65 (bA (aA rfl) (aC hS rfl) (aC hS rfl) bP.of (bJ aO h71))),
      fun S hS => aB rfl (aG rfl rfl (aA rfl) (aD hS rfl) c65 (bC (aA rfl) (aC hS rfl) aZ)),
      fun S hS => aB rfl (aG rfl rfl (aA rfl) (aD hS rfl) c65 (bE (aA rfl) (aC hS rfl) (aC hS rfl) rfl)),
      fun S hS => aB rfl (aR rfl (bH (v := .d (.lit (.bool ((decide (x66 = x70)))))) (aA rfl) (aC hS rfl) c65 (aC hS rfl) rfl)), trivial⟩⟩
              · exact cL (aX rfl (bF ⟨rfl, rfl, rfl, rfl, rfl, rfl, rfl, rfl, rfl, rfl, rfl, trivial⟩))
            ·refine tr1 rfl (aL (v := .d (.lit (.bool b63))) (aA rfl) rfl rfl) ?_
             refine eY ?_
             refine aH ?_
             refine tr1 rfl (aE (v := .d (.lit (.int .i64 k_2_60))) (aA rfl) rfl rfl) ?_
             refine tr1 rfl (bL (aA rfl) rfl rfl rfl) ?_
             refine tr1 rfl (aL (v := .d (.lit (.int .i64 ((w64 (k_2_60 + 1)))))) (aA rfl) rfl rfl) ?_
             refine aJ ?_
             exact ⟨(b63, w64 (k_2_60 + 1)), h, bK [0, 1] rfl rfl (aX rfl (aX rfl (bF ⟨rfl, rfl, rfl, rfl, rfl, rfl, rfl, rfl, rfl, rfl, trivial⟩)))⟩
           ·have h := bB c62 h
            refine dB ?_
            refine .inl ⟨rfl, ?_⟩
            simp only [iM] at h
            refine aK ?_
            refine aH ?_
            refine tr1 rfl (aE (v := .d (.lit (.int .i64 r58.2))) (aA rfl) rfl rfl) ?_
            refine tr1 rfl (bE (aA rfl) rfl rfl rfl) ?_
            refine tr1 rfl (aE (v := .d (.lit (.bool ((!decide (r58.2 = 0)))))) (aA rfl) rfl rfl) ?_
            obtain ⟨b72, h73, h⟩ := bind_some h
            refine cK 3 [1, 2, 3, 7, 9, 10, 12] 177 b72 ?_ ?_
            ·refine bM (!decide (r58.2 = 0)) (fun c75 => ?_) (fun c75 => ?_)
             ·have h73 := bD c75 h73
              refine aV rfl rfl (aA rfl) rfl (aA rfl) rfl c75 ?_
              refine aV rfl rfl (aA rfl) rfl (aA rfl) rfl c75 ?_
              refine tr1 rfl (bO (v := .d (.lit (.bool true))) (aA rfl) rfl c75 rfl rfl) ?_
              have h73 := Option.some.inj h73
              subst h73
              refine aJ (bN rfl ⟨rfl, rfl, rfl, rfl, rfl, rfl, rfl, trivial⟩ rfl)
             ·have h73 := bB c75 h73
              refine aQ rfl rfl (aA rfl) rfl c75 (aE (v := .d (.lit (.bool found_2_60))) (aA rfl) rfl rfl) ?_
              refine aQ rfl rfl (aA rfl) rfl c75 (fJ (aA rfl) rfl) ?_
              refine tr1 rfl (bH (v := .d (.lit (.bool (!found_2_60)))) (aA rfl) rfl c75 rfl rfl) ?_
              have h73 := Option.some.inj h73
              subst h73
              refine aJ (bN rfl ⟨rfl, rfl, rfl, rfl, rfl, rfl, rfl, trivial⟩ rfl)
            ·refine aJ ?_
             refine bY rfl (fun c74 => ?_) (fun c74 => ?_)
             ·have h := bD c74 h
              refine aK ?_
              refine aH ?_
              refine tr1 rfl (aL (v := .d (.lit (.bool false))) (aA rfl) rfl rfl) ?_
              refine aJ ?_
              have h := Option.some.inj h
              subst h
              refine cR (cQ (cX (l := [6]) ⟨rfl, trivial⟩)) ?_
              exact bV ⟨rfl, _, .one _, rfl, rfl⟩
             ·have h := bB c74 h
              refine eH ?_
              simp only [iL] at h
              refine aH ?_
              refine tr1 rfl (aE (v := .d (.lit (.int .i64 i_0_21))) (aA rfl) rfl rfl) ?_
              refine tr1 rfl (bL (aA rfl) rfl rfl rfl) ?_
              refine tr1 rfl (aL (v := .d (.lit (.int .i64 ((w64 (i_0_21 + 1)))))) (aA rfl) rfl rfl) ?_
              refine aJ ?_
              exact ⟨(w64 (i_0_21 + 1)), h, bK [0] rfl rfl (aX rfl (bF ⟨rfl, rfl, rfl, rfl, rfl, rfl, trivial⟩))⟩
        ·have h := bB c27 h
         refine bU ?_
         refine aK ?_
         refine aK ?_
         obtain ⟨b76, h77, h⟩ := bind_some h
         obtain ⟨b81, h82, h⟩ := bind_some h
         obtain ⟨b89, h90, h⟩ := bind_some h
         refine dN mix 54 [1, 2, 3, 7, 9, 10, 12, 13] [(138, .d (.lit (.bool b89)))] ?_ ?_
         ·refine bM (!decide (x24.One = (-2))) (fun c78 => ?_) (fun c78 => ?_)
          ·have h77 := bD c78 h77
           obtain ⟨x79, h80, h77⟩ := bind_some h77
           have h77 := Option.some.inj h77
           subst h77
           refine bM (!decide (x24.One = x79)) (fun c83 => ?_) (fun c83 => ?_)
           ·have h82 := bD c83 h82
            have h82 := Option.some.inj h82
            subst h82
            have c91 : true = true := rfl
            have h90 := bD c91 h90
            have h90 := Option.some.inj h90
            subst h90
            refine ⟨[(85, 0, .bp b26 0 2), (86, 1, .d (.lit (.int .i64 x24.One))), (87, 2, .d (.lit (.bool ((!decide (x24.One = (-2))))))), (88, 3, .d (.lit (.bool ((!decide (x24.One = (-2))))))), (89, 4, .bp b26 0 2), (90, 5, .d (.lit (.int .i64 x24.One))), (91, 6, .d (.sl 1 (r9.1.map aO))), (92, 7, .bp b26 0 1), (93, 8, .d (.lit (.int .i64 x24.Place))), (94, 9, .d (.lit (.int .i64 ((w64 (2 * x24.Place)))))), (95, 10, .cp [.lit (.int .i64 x79)]), (96, 11, .d (.lit (.int .i64 x79))), (97, 12, .d (.lit (.bool ((!decide (x24.One = x79)))))), (98, 13, .d (.lit (.bool ((!decide (x24.One = x79)))))), (99, 14, .d (.lit (.bool (!decide (x24.One = x79))))), (100, 15, .tup []), (101, 16, .tup []), (102, 17, .tup []), (103, 18, .tup []), (104, 19, .tup []), (105, 20, .tup []), (106, 21, .tup []), (107, 22, .tup []), (108, 23, .tup []), (109, 24, .tup []), (110, 25, .tup []), (111, 26, .tup []), (112, 27, .tup []), (113, 28, .tup []), (114, 29, .tup []), (115, 30, .d (.lit (.bool true))), (116, 31, .d (.lit (.bool (true)))), (117, 32, .tup []), (118, 33, .tup []), (119, 34, .tup []), (120, 35, .tup []), (121, 36, .tup []), (122, 37, .tup []), (123, 38, .tup []), (124, 39, .tup []), (125, 40, .tup []), (126, 41, .tup []), (127, 42, .tup []), (128, 43, .tup []), (129, 44, .tup []), (130, 45, .tup []), (131, 46, .tup []), (132, 47, .tup []), (133, 48, .tup []), (134, 49, .tup []), (135, 50, .tup []), (136, 51, .tup []), (137, 52, .tup []), (138, 53, .d (.lit (.bool true)))], ?_, ?_⟩
            · exact ⟨by kernel_rfl, by kernel_rfl, by kernel_rfl, by kernel_rfl, by kernel_rfl, [([], []), ([0], []), ([1], []), ([2], []), ([3], []), ([3, 4], []), ([3], []), ([3], []), ([3, 7], []), ([3, 8], []), ([3, 6, 9], []), ([3, 10], []), ([3, 5, 11], []), ([3, 12], []), ([13], []), ([14], []), ([14, 15], []), ([14, 16], []), ([14, 17], []), ([18], []), ([18, 19], []), ([18], []), ([18], []), ([18, 22], []), ([18, 23], []), ([18, 24], []), ([18, 21, 25], []), ([18, 26], []), ([18, 20, 27], []), ([14, 18, 28], []), ([14, 29], []), ([30], []), ([31], []), ([31], []), ([31, 32, 33], []), ([31, 34], []), ([31, 35], []), ([31, 36], []), ([37], []), ([37], []), ([37, 38, 39], []), ([37, 40], []), ([37], []), ([37], []), ([37, 43], []), ([37, 42, 44], []), ([37, 45], []), ([37], []), ([37, 47], []), ([37, 46, 48], []), ([37, 49], []), ([37, 41, 50], []), ([31, 37, 51], []), ([31, 52], [])], by kernel_rfl, ⟨fun S hS => aB rfl (aR rfl (aS (aA rfl) (aC hS rfl) dL)),
      fun S hS => aB rfl (aR rfl (aU (aA rfl) (aC hS rfl) (i := 1) rfl rfl aZ)),
      fun S hS => aB rfl (aR rfl (bE (aA rfl) (aC hS rfl) rfl rfl)),
      fun S hS => aB rfl (aR rfl (aE (v := .d (.lit (.bool ((!decide (x24.One = (-2))))))) (aA rfl) (aC hS rfl) rfl)),
      fun S hS => aB rfl (aG rfl rfl (aA rfl) (aD hS rfl) c78 (aS (aA rfl) (aC hS rfl) dL)),
      fun S hS => aB rfl (aG rfl rfl (aA rfl) (aD hS rfl) c78 (aU (aA rfl) (aC hS rfl) (i := 1) rfl rfl aZ)),
      fun S hS => aB rfl (aG rfl rfl (aA rfl) (aD hS rfl) c78 (aE (v := .d (.sl 1 (r9.1.map aO))) (aA rfl) (aC hS rfl) rfl)),
      fun S hS => aB rfl (aG rfl rfl (aA rfl) (aD hS rfl) c78 (aS (aA rfl) (aC hS rfl) dE)),
      fun S hS => aB rfl (aG rfl rfl (aA rfl) (aD hS rfl) c78 (aU (aA rfl) (aC hS rfl) (i := 1) rfl rfl aZ)),
      fun S hS => aB rfl (aG rfl rfl (aA rfl) (aD hS rfl) c78 (bL (aA rfl) rfl (aC hS rfl) rfl)),
      fun S hS => aB rfl (aG rfl rfl (aA rfl) (aD hS rfl) c78 (bA (aA rfl) (aC hS rfl) (aC hS rfl) bP.of (bJ aO h80))),
      fun S hS => aB rfl (aG rfl rfl (aA rfl) (aD hS rfl) c78 (bC (aA rfl) (aC hS rfl) aZ)),
      fun S hS => aB rfl (aG rfl rfl (aA rfl) (aD hS rfl) c78 (bE (aA rfl) (aC hS rfl) (aC hS rfl) rfl)),
      fun S hS => aB rfl (aR rfl (bO (v := .d (.lit (.bool ((!decide (x24.One = x79)))))) (aA rfl) (aC hS rfl) c78 (aC hS rfl) rfl)),
      fun S hS => aB rfl (aR rfl (aE (v := .d (.lit (.bool (!decide (x24.One = x79))))) (aA rfl) (aC hS rfl) rfl)),
      fun S hS => aB rfl (aM rfl rfl (aA rfl) rfl (aA rfl) (aD hS rfl) c83),
      fun S hS => aB rfl (aM rfl rfl (aA rfl) rfl (aA rfl) (aD hS rfl) c83),
      fun S hS => aB rfl (aM rfl rfl (aA rfl) rfl (aA rfl) (aD hS rfl) c83),
      fun S hS => aB rfl (aM rfl rfl (aA rfl) rfl (aA rfl) (aD hS rfl) c83),
      fun S hS => aB rfl (bR rfl rfl (aA rfl) rfl (aA rfl) (aD hS rfl)),
      fun S hS => aB rfl (bR rfl rfl (aA rfl) rfl (aA rfl) (aD hS rfl)),
      fun S hS => aB rfl (bR rfl rfl (aA rfl) rfl (aA rfl) (aD hS rfl)),
      fun S hS => aB rfl (bR rfl rfl (aA rfl) rfl (aA rfl) (aD hS rfl)),
      fun S hS => aB rfl (bR rfl rfl (aA rfl) rfl (aA rfl) (aD hS rfl)),
      fun S hS => aB rfl (bR rfl rfl (aA rfl) rfl (aA rfl) (aD hS rfl)),
      fun S hS => aB rfl (bR rfl rfl (aA rfl) rfl (aA rfl) (aD hS rfl)),
      fun S hS => aB rfl (bR rfl rfl (aA rfl) rfl (aA rfl) (aD hS rfl)),
      fun S hS => aB rfl (bR rfl rfl (aA rfl) rfl (aA rfl) (aD hS rfl)),
      fun S hS => aB rfl (bR rfl rfl (aA rfl) rfl (aA rfl) (aD hS rfl)),
      fun S hS => aB rfl (aM rfl rfl (aA rfl) rfl (aA rfl) (aD hS rfl) c83),
      fun S hS => aB rfl (aR rfl (bO (v := .d (.lit (.bool true))) (aA rfl) (aC hS rfl) c83 rfl rfl)),
      fun S hS => aB rfl (aR rfl (aE (v := .d (.lit (.bool (true)))) (aA rfl) (aC hS rfl) rfl)),
      fun S hS => aB rfl (aM rfl rfl (aA rfl) rfl (aA rfl) (aD hS rfl) c91),
      fun S hS => aB rfl (aM rfl rfl (aA rfl) rfl (aA rfl) (aD hS rfl) c91),
      fun S hS => aB rfl (aM rfl rfl (aA rfl) rfl (aA rfl) (aD hS rfl) c91),
      fun S hS => aB rfl (aM rfl rfl (aA rfl) rfl (aA rfl) (aD hS rfl) c91),
      fun S hS => aB rfl (aM rfl rfl (aA rfl) rfl (aA rfl) (aD hS rfl) c91),
      fun S hS => aB rfl (aM rfl rfl (aA rfl) rfl (aA rfl) (aD hS rfl) c91),
      fun S hS => aB rfl (bR rfl rfl (aA rfl) rfl (aA rfl) (aD hS rfl)),
      fun S hS => aB rfl (bR rfl rfl (aA rfl) rfl (aA rfl) (aD hS rfl)),
      fun S hS => aB rfl (bR rfl rfl (aA rfl) rfl (aA rfl) (aD hS rfl)),
      fun S hS => aB rfl (bR rfl rfl (aA rfl) rfl (aA rfl) (aD hS rfl)),
      fun S hS => aB rfl (bR rfl rfl (aA rfl) rfl (aA rfl) (aD hS rfl)),
      fun S hS => aB rfl (bR rfl rfl (aA rfl) rfl (aA rfl) (aD hS rfl)),
      fun S hS => aB rfl (bR rfl rfl (aA rfl) rfl (aA rfl) (aD hS rfl)),
      fun S hS => aB rfl (bR rfl rfl (aA rfl) rfl (aA rfl) (aD hS rfl)),
      fun S hS => aB rfl (bR rfl rfl (aA rfl) rfl (aA rfl) (aD hS rfl)),
      fun S hS => aB rfl (bR rfl rfl (aA rfl) rfl (aA rfl) (aD hS rfl)),
      fun S hS => aB rfl (bR rfl rfl (aA rfl) rfl (aA rfl) (aD hS rfl)),
      fun S hS => aB rfl (bR rfl rfl (aA rfl) rfl (aA rfl) (aD hS rfl)),
      fun S hS => aB rfl (bR rfl rfl (aA rfl) rfl (aA rfl) (aD hS rfl)),
      fun S hS => aB rfl (bR rfl rfl (aA rfl) rfl (aA rfl) (aD hS rfl)),
      fun S hS => aB rfl (aM rfl rfl (aA rfl) rfl (aA rfl) (aD hS rfl) c91),
      fun S hS => aB rfl (aR rfl (bO (v := .d (.lit (.bool true))) (aA rfl) (aC hS rfl) c91 rfl rfl)), trivial⟩⟩
            · exact cL (aX rfl (bF ⟨rfl, rfl, rfl, rfl, rfl, rfl, rfl, rfl, trivial⟩))
           ·have h82 := bB c83 h82
            obtain ⟨b84, h85, h82⟩ := bind_some h82
            refine bM (!decide (x24.Two = (-2))) (fun c86 => ?_) (fun c86 => ?_)
            ·have h85 := bD c86 h85
             obtain ⟨x87, h88, h85⟩ := bind_some h85
             have h85 := Option.some.inj h85
             subst h85
             have h82 := Option.some.inj h82
             subst h82
             refine bM (!decide (x24.Two = x87)) (fun c91 => ?_) (fun c91 => ?_)
             ·have h90 := bD c91 h90
              have h90 := Option.some.inj h90
              subst h90
              refine ⟨[(85, 0, .bp b26 0 2), (86, 1, .d (.lit (.int .i64 x24.One))), (87, 2, .d (.lit (.bool ((!decide (x24.One = (-2))))))), (88, 3, .d (.lit (.bool ((!decide (x24.One = (-2))))))), (89, 4, .bp b26 0 2), (90, 5, .d (.lit (.int .i64 x24.One))), (91, 6, .d (.sl 1 (r9.1.map aO))), (92, 7, .bp b26 0 1), (93, 8, .d (.lit (.int .i64 x24.Place))), (94, 9, .d (.lit (.int .i64 ((w64 (2 * x24.Place)))))), (95, 10, .cp [.lit (.int .i64 x79)]), (96, 11, .d (.lit (.int .i64 x79))), (97, 12, .d (.lit (.bool ((!decide (x24.One = x79)))))), (98, 13, .d (.lit (.bool ((!decide (x24.One = x79)))))), (99, 14, .d (.lit (.bool (!decide (x24.One = x79))))), (100, 15, .bp b26 0 3), (101, 16, .d (.lit (.int .i64 x24.Two))), (102, 17, .d (.lit (.bool ((!decide (x24.Two = (-2))))))), (103, 18, .d (.lit (.bool ((!decide (x24.Two = (-2))))))), (104, 19, .bp b26 0 3), (105, 20, .d (.lit (.int .i64 x24.Two))), (106, 21, .d (.sl 1 (r9.1.map aO))), (107, 22, .bp b26 0 1), (108, 23, .d (.lit (.int .i64 x24.Place))), (109, 24, .d (.lit (.int .i64 ((w64 (2 * x24.Place)))))), (110, 25, .d (.lit (.int .i64 ((w64 ((w64 (2 * x24.Place)) + 1)))))), (111, 26, .cp [.lit (.int .i64 x87)]), (112, 27, .d (.lit (.int .i64 x87))), (113, 28, .d (.lit (.bool ((!decide (x24.Two = x87)))))), (114, 29, .d (.lit (.bool ((!decide (x24.Two = x87)))))), (115, 30, .d (.lit (.bool (!decide (x24.Two = x87))))), (116, 31, .d (.lit (.bool (!decide (x24.Two = x87))))), (117, 32, .tup []), (118, 33, .tup []), (119, 34, .tup []), (120, 35, .tup []), (121, 36, .tup []), (122, 37, .tup []), (123, 38, .tup []), (124, 39, .tup []), (125, 40, .tup []), (126, 41, .tup []), (127, 42, .tup []), (128, 43, .tup []), (129, 44, .tup []), (130, 45, .tup []), (131, 46, .tup []), (132, 47, .tup []), (133, 48, .tup []), (134, 49, .tup []), (135, 50, .tup []), (136, 51, .tup []), (137, 52, .tup []), (138, 53, .d (.lit (.bool true)))], ?_, ?_⟩
              · exact ⟨by kernel_rfl, by kernel_rfl, by kernel_rfl, by kernel_rfl, by kernel_rfl, [([], []), ([0], []), ([1], []), ([2], []), ([3], []), ([3, 4], []), ([3], []), ([3], []), ([3, 7], []), ([3, 8], []), ([3, 6, 9], []), ([3, 10], []), ([3, 5, 11], []), ([3, 12], []), ([13], []), ([14], []), ([14, 15], []), ([14, 16], []), ([14, 17], []), ([18], []), ([18, 19], []), ([18], []), ([18], []), ([18, 22], []), ([18, 23], []), ([18, 24], []), ([18, 21, 25], []), ([18, 26], []), ([18, 20, 27], []), ([14, 18, 28], []), ([14, 29], []), ([30], []), ([31], []), ([31], []), ([31, 32, 33], []), ([31, 34], []), ([31, 35], []), ([31, 36], []), ([37], []), ([37], []), ([37, 38, 39], []), ([37, 40], []), ([37], []), ([37], []), ([37, 43], []), ([37, 42, 44], []), ([37, 45], []), ([37], []), ([37, 47], []), ([37, 46, 48], []), ([37, 49], []), ([37, 41, 50], []), ([31, 37, 51], []), ([31, 52], [])], by kernel_rfl, ⟨fun S hS => aB rfl (aR rfl (aS (aA rfl) (aC hS rfl) dL)),
      fun S hS => aB rfl (aR rfl (aU (aA rfl) (aC hS rfl) (i := 1) rfl rfl aZ)),
      fun S hS => aB rfl (aR rfl (bE (aA rfl) (aC hS rfl) rfl rfl)),
      fun S hS => aB rfl (aR rfl (aE (v := .d (.lit (.bool ((!decide (x24.One = (-2))))))) (aA rfl) (aC hS rfl) rfl)),
      fun S hS => aB rfl (aG rfl rfl (aA rfl) (aD hS rfl) c78 (aS (aA rfl) (aC hS rfl) dL)),
      fun S hS => aB rfl (aG rfl rfl (aA rfl) (aD hS rfl) c78 (aU (aA rfl) (aC hS rfl) (i := 1) rfl rfl aZ)),
      fun S hS => aB rfl (aG rfl rfl (aA rfl) (aD hS rfl) c78 (aE (v := .d (.sl 1 (r9.1.map aO))) (aA rfl) (aC hS rfl) rfl)),
      fun S hS => aB rfl (aG rfl rfl (aA rfl) (aD hS rfl) c78 (aS (aA rfl) (aC hS rfl) dE)),
      fun S hS => aB rfl (aG rfl rfl (aA rfl) (aD hS rfl) c78 (aU (aA rfl) (aC hS rfl) (i := 1) rfl rfl aZ)),
      fun S hS => aB rfl (aG rfl rfl (aA rfl) (aD hS rfl) c78 (bL (aA rfl) rfl (aC hS rfl) rfl)),
      fun S hS => aB rfl (aG rfl rfl (aA rfl) (aD hS rfl) c78 (bA (aA rfl) (aC hS rfl) (aC hS rfl) bP.of (bJ aO h80))),
      fun S hS => aB rfl (aG rfl rfl (aA rfl) (aD hS rfl) c78 (bC (aA rfl) (aC hS rfl) aZ)),
      fun S hS => aB rfl (aG rfl rfl (aA rfl) (aD hS rfl) c78 (bE (aA rfl) (aC hS rfl) (aC hS rfl) rfl)),
      fun S hS => aB rfl (aR rfl (bO (v := .d (.lit (.bool ((!decide (x24.One = x79)))))) (aA rfl) (aC hS rfl) c78 (aC hS rfl) rfl)),
      fun S hS => aB rfl (aR rfl (aE (v := .d (.lit (.bool (!decide (x24.One = x79))))) (aA rfl) (aC hS rfl) rfl)),
      fun S hS => aB rfl (aG rfl rfl (aA rfl) (aD hS rfl) c83 (aS (aA rfl) (aC hS rfl) dQ)),
      fun S hS => aB rfl (aG rfl rfl (aA rfl) (aD hS rfl) c83 (aU (aA rfl) (aC hS rfl) (i := 1) rfl rfl aZ)),
      fun S hS => aB rfl (aG rfl rfl (aA rfl) (aD hS rfl) c83 (bE (aA rfl) (aC hS rfl) rfl rfl)),
      fun S hS => aB rfl (aG rfl rfl (aA rfl) (aD hS rfl) c83 (aE (v := .d (.lit (.bool ((!decide (x24.Two = (-2))))))) (aA rfl) (aC hS rfl) rfl)),
      fun S hS => aB rfl (aG rfl rfl (aA rfl) (aD hS rfl) c86 (aS (aA rfl) (aC hS rfl) dQ)),
      fun S hS => aB rfl (aG rfl rfl (aA rfl) (aD hS rfl) c86 (aU (aA rfl) (aC hS rfl) (i := 1) rfl rfl aZ)),
      fun S hS => aB rfl (aG rfl rfl (aA rfl) (aD hS rfl) c86 (aE (v := .d (.sl 1 (r9.1.map aO))) (aA rfl) (aC hS rfl) rfl)),
      fun S hS => aB rfl (aG rfl rfl (aA rfl) (aD hS rfl) c86 (aS (aA rfl) (aC hS rfl) dE)),
      fun S hS => aB rfl (aG rfl rfl (aA rfl) (aD hS rfl) c86 (aU (aA rfl) (aC hS rfl) (i := 1) rfl rfl aZ)),
      fun S hS => aB rfl (aG rfl rfl (aA rfl) (aD hS rfl) c86 (bL (aA rfl) rfl (aC hS rfl) rfl)),
      fun S hS => aB rfl (aG rfl rfl (aA rfl) (aD hS rfl) c86 (bL (aA rfl) (aC hS rfl) rfl rfl)),
      fun S hS => aB rfl (aG rfl rfl (aA rfl) (aD hS rfl) c86 (bA (aA rfl) (aC hS rfl) (aC hS rfl) bP.of (bJ aO h88))),
      fun S hS => aB rfl (aG rfl rfl (aA rfl) (aD hS rfl) c86 (bC (aA rfl) (aC hS rfl) aZ)),
      fun S hS => aB rfl (aG rfl rfl (aA rfl) (aD hS rfl) c86 (bE (aA rfl) (aC hS rfl) (aC hS rfl) rfl)),
      fun S hS => aB rfl (aG rfl rfl (aA rfl) (aD hS rfl) c83 (bO (v := .d (.lit (.bool ((!decide (x24.Two = x87)))))) (aA rfl) (aC hS rfl) c86 (aC hS rfl) rfl)),
      fun S hS => aB rfl (aR rfl (bH (v := .d (.lit (.bool (!decide (x24.Two = x87))))) (aA rfl) (aC hS rfl) c83 (aC hS rfl) rfl)),
      fun S hS => aB rfl (aR rfl (aE (v := .d (.lit (.bool (!decide (x24.Two = x87))))) (aA rfl) (aC hS rfl) rfl)),
      fun S hS => aB rfl (aM rfl rfl (aA rfl) rfl (aA rfl) (aD hS rfl) c91),
      fun S hS => aB rfl (aM rfl rfl (aA rfl) rfl (aA rfl) (aD hS rfl) c91),
      fun S hS => aB rfl (aM rfl rfl (aA rfl) rfl (aA rfl) (aD hS rfl) c91),
      fun S hS => aB rfl (aM rfl rfl (aA rfl) rfl (aA rfl) (aD hS rfl) c91),
      fun S hS => aB rfl (aM rfl rfl (aA rfl) rfl (aA rfl) (aD hS rfl) c91),
      fun S hS => aB rfl (aM rfl rfl (aA rfl) rfl (aA rfl) (aD hS rfl) c91),
      fun S hS => aB rfl (bR rfl rfl (aA rfl) rfl (aA rfl) (aD hS rfl)),
      fun S hS => aB rfl (bR rfl rfl (aA rfl) rfl (aA rfl) (aD hS rfl)),
      fun S hS => aB rfl (bR rfl rfl (aA rfl) rfl (aA rfl) (aD hS rfl)),
      fun S hS => aB rfl (bR rfl rfl (aA rfl) rfl (aA rfl) (aD hS rfl)),
      fun S hS => aB rfl (bR rfl rfl (aA rfl) rfl (aA rfl) (aD hS rfl)),
      fun S hS => aB rfl (bR rfl rfl (aA rfl) rfl (aA rfl) (aD hS rfl)),
      fun S hS => aB rfl (bR rfl rfl (aA rfl) rfl (aA rfl) (aD hS rfl)),
      fun S hS => aB rfl (bR rfl rfl (aA rfl) rfl (aA rfl) (aD hS rfl)),
      fun S hS => aB rfl (bR rfl rfl (aA rfl) rfl (aA rfl) (aD hS rfl)),
      fun S hS => aB rfl (bR rfl rfl (aA rfl) rfl (aA rfl) (aD hS rfl)),
      fun S hS => aB rfl (bR rfl rfl (aA rfl) rfl (aA rfl) (aD hS rfl)),
      fun S hS => aB rfl (bR rfl rfl (aA rfl) rfl (aA rfl) (aD hS rfl)),
      fun S hS => aB rfl (bR rfl rfl (aA rfl) rfl (aA rfl) (aD hS rfl)),
      fun S hS => aB rfl (bR rfl rfl (aA rfl) rfl (aA rfl) (aD hS rfl)),
      fun S hS => aB rfl (aM rfl rfl (aA rfl) rfl (aA rfl) (aD hS rfl) c91),
      fun S hS => aB rfl (aR rfl (bO (v := .d (.lit (.bool true))) (aA rfl) (aC hS rfl) c91 rfl rfl)), trivial⟩⟩
              · exact cL (aX rfl (bF ⟨rfl, rfl, rfl, rfl, rfl, rfl, rfl, rfl, trivial⟩))
             ·have h90 := bB c91 h90
              obtain ⟨x92, h93, h90⟩ := bind_some h90
              obtain ⟨b94, h95, h90⟩ := bind_some h90
              refine bM (!decide (x92 = (-2))) (fun c96 => ?_) (fun c96 => ?_)
              ·have h95 := bD c96 h95
               obtain ⟨x97, h98, h95⟩ := bind_some h95
               obtain ⟨x99, h100, h95⟩ := bind_some h95
               obtain ⟨x101, h102, h95⟩ := bind_some h95
               have h95 := Option.some.inj h95
               subst h95
               have h90 := Option.some.inj h90
               subst h90
               refine ⟨[(85, 0, .bp b26 0 2), (86, 1, .d (.lit (.int .i64 x24.One))), (87, 2, .d (.lit (.bool ((!decide (x24.One = (-2))))))), (88, 3, .d (.lit (.bool ((!decide (x24.One = (-2))))))), (89, 4, .bp b26 0 2), (90, 5, .d (.lit (.int .i64 x24.One))), (91, 6, .d (.sl 1 (r9.1.map aO))), (92, 7, .bp b26 0 1), (93, 8, .d (.lit (.int .i64 x24.Place))), (94, 9, .d (.lit (.int .i64 ((w64 (2 * x24.Place)))))), (95, 10, .cp [.lit (.int .i64 x79)]), (96, 11, .d (.lit (.int .i64 x79))), (97, 12, .d (.lit (.bool ((!decide (x24.One = x79)))))), (98, 13, .d (.lit (.bool ((!decide (x24.One = x79)))))), (99, 14, .d (.lit (.bool (!decide (x24.One = x79))))), (100, 15, .bp b26 0 3), (101, 16, .d (.lit (.int .i64 x24.Two))), (102, 17, .d (.lit (.bool ((!decide (x24.Two = (-2))))))), (103, 18, .d (.lit (.bool ((!decide (x24.Two = (-2))))))), (104, 19, .bp b26 0 3), (105, 20, .d (.lit (.int .i64 x24.Two))), (106, 21, .d (.sl 1 (r9.1.map aO))), (107, 22, .bp b26 0 1), (108, 23, .d (.lit (.int .i64 x24.Place))), (109, 24, .d (.lit (.int .i64 ((w64 (2 * x24.Place)))))), (110, 25, .d (.lit (.int .i64 ((w64 ((w64 (2 * x24.Place)) + 1)))))), (111, 26, .cp [.lit (.int .i64 x87)]), (112, 27, .d (.lit (.int .i64 x87))), (113, 28, .d (.lit (.bool ((!decide (x24.Two = x87)))))), (114, 29, .d (.lit (.bool ((!decide (x24.Two = x87)))))), (115, 30, .d (.lit (.bool (!decide (x24.Two = x87))))), (116, 31, .d (.lit (.bool (!decide (x24.Two = x87))))), (117, 32, .d (.sl 1 (r18.2.1.map aO))), (118, 33, .d (.lit (.int .i64 i_0_21))), (119, 34, .cp [.lit (.int .i64 x92)]), (120, 35, .d (.lit (.int .i64 x92))), (121, 36, .d (.lit (.bool ((!decide (x92 = (-2))))))), (122, 37, .d (.lit (.bool ((!decide (x92 = (-2))))))), (123, 38, .d (.sl 1 (r18.2.1.map aO))), (124, 39, .d (.lit (.int .i64 i_0_21))), (125, 40, .cp [.lit (.int .i64 x97)]), (126, 41, .d (.lit (.int .i64 x97))), (127, 42, .d (.sl 1 (course_2.map cG))), (128, 43, .bp b26 0 0), (129, 44, .d (.lit (.int .i64 x24.Round))), (130, 45, .cp [.sl 1 (x99.map aO)]), (131, 46, .d (.sl 1 (x99.map aO))), (132, 47, .bp b26 0 1), (133, 48, .d (.lit (.int .i64 x24.Place))), (134, 49, .cp [.lit (.int .i64 x101)]), (135, 50, .d (.lit (.int .i64 x101))), (136, 51, .d (.lit (.bool ((!decide (x97 = x101)))))), (137, 52, .d (.lit (.bool ((!decide (x97 = x101)))))), (138, 53, .d (.lit (.bool (!decide (x97 = x101)))))], ?_, ?_⟩
               · exact ⟨by kernel_rfl, by kernel_rfl, by kernel_rfl, by kernel_rfl, by kernel_rfl, [([], []), ([0], []), ([1], []), ([2], []), ([3], []), ([3, 4], []), ([3], []), ([3], []), ([3, 7], []), ([3, 8], []), ([3, 6, 9], []), ([3, 10], []), ([3, 5, 11], []), ([3, 12], []), ([13], []), ([14], []), ([14, 15], []), ([14, 16], []), ([14, 17], []), ([18], []), ([18, 19], []), ([18], []), ([18], []), ([18, 22], []), ([18, 23], []), ([18, 24], []), ([18, 21, 25], []), ([18, 26], []), ([18, 20, 27], []), ([14, 18, 28], []), ([14, 29], []), ([30], []), ([31], []), ([31], []), ([31, 32, 33], []), ([31, 34], []), ([31, 35], []), ([31, 36], []), ([37], []), ([37], []), ([37, 38, 39], []), ([37, 40], []), ([37], []), ([37], []), ([37, 43], []), ([37, 42, 44], []), ([37, 45], []), ([37], []), ([37, 47], []), ([37, 46, 48], []), ([37, 49], []), ([37, 41, 50], []), ([31, 37, 51], []), ([31, 52], [])], by kernel_rfl, ⟨fun S hS => aB rfl (aR rfl (aS (aA rfl) (aC hS rfl) dL)),
      fun S hS => aB rfl (aR rfl (aU (aA rfl) (aC hS rfl) (i := 1) rfl rfl aZ)),
      fun S hS => aB rfl (aR rfl (bE (aA rfl) (aC hS rfl) rfl rfl)),
      fun S hS => aB rfl (aR rfl (aE (v := .d (.lit (.bool ((!decide (x24.One = (-2))))))) (aA rfl) (aC hS rfl) rfl)),
      fun S hS => aB rfl (aG rfl rfl (aA rfl) (aD hS rfl) c78 (aS (aA rfl) (aC hS rfl) dL)),
      fun S hS => aB rfl (aG rfl rfl (aA rfl) (aD hS rfl) c78 (aU (aA rfl) (aC hS rfl) (i := 1) rfl rfl aZ)),
      fun S hS => aB rfl (aG rfl rfl (aA rfl) (aD hS rfl) c78 (aE (v := .d (.sl 1 (r9.1.map aO))) (aA rfl) (aC hS rfl) rfl)),
      fun S hS => aB rfl (aG rfl rfl (aA rfl) (aD hS rfl) c78 (aS (aA rfl) (aC hS rfl) dE)),
      fun S hS => aB rfl (aG rfl rfl (aA rfl) (aD hS rfl) c78 (aU (aA rfl) (aC hS rfl) (i := 1) rfl rfl aZ)),
      fun S hS => aB rfl (aG rfl rfl (aA rfl) (aD hS rfl) c78 (bL (aA rfl) rfl (aC hS rfl) rfl)),
      fun S hS => aB rfl (aG rfl rfl (aA rfl) (aD hS rfl) c78 (bA (aA rfl) (aC hS rfl) (aC hS rfl) bP.of (bJ aO h80))),
      fun S hS => aB rfl (aG rfl rfl (aA rfl) (aD hS rfl) c78 (bC (aA rfl) (aC hS rfl) aZ)),
      fun S hS => aB rfl (aG rfl rfl (aA rfl) (aD hS rfl) c78 (bE (aA rfl) (aC hS rfl) (aC hS rfl) rfl)),
      fun S hS => aB rfl (aR rfl (bO (v := .d (.lit (.bool ((!decide (x24.One = x79)))))) (aA rfl) (aC hS rfl) c78 (aC hS rfl) rfl)),
      fun S hS => aB rfl (aR rfl (aE (v := .d (.lit (.bool (!decide (x24.One = x79))))) (aA rfl) (aC hS rfl) rfl)),
      fun S hS => aB rfl (aG rfl rfl (aA rfl) (aD hS rfl) c83 (aS (aA rfl) (aC hS rfl) dQ)),
      fun S hS => aB rfl (aG rfl rfl (aA rfl) (aD hS rfl) c83 (aU (aA rfl) (aC hS rfl) (i := 1) rfl rfl aZ)),
      fun S hS => aB rfl (aG rfl rfl (aA rfl) (aD hS rfl) c83 (bE (aA rfl) (aC hS rfl) rfl rfl)),
      fun S hS => aB rfl (aG rfl rfl (aA rfl) (aD hS rfl) c83 (aE (v := .d (.lit (.bool ((!decide (x24.Two = (-2))))))) (aA rfl) (aC hS rfl) rfl)),
      fun S hS => aB rfl (aG rfl rfl (aA rfl) (aD hS rfl) c86 (aS (aA rfl) (aC hS rfl) dQ)),
      fun S hS => aB rfl (aG rfl rfl (aA rfl) (aD hS rfl) c86 (aU (aA rfl) (aC hS rfl) (i := 1) rfl rfl aZ)),
      fun S hS => aB rfl (aG rfl rfl (aA rfl) (aD hS rfl) c86 (aE (v := .d (.sl 1 (r9.1.map aO))) (aA rfl) (aC hS rfl) rfl)),
      fun S hS => aB rfl (aG rfl rfl (aA rfl) (aD hS rfl) c86 (aS (aA rfl) (aC hS rfl) dE)),
      fun S hS => aB rfl (aG rfl rfl (aA rfl) (aD hS rfl) c86 (aU (aA rfl) (aC hS rfl) (i := 1) rfl rfl aZ)),
      fun S hS => aB rfl (aG rfl rfl (aA rfl) (aD hS rfl) c86 (bL (aA rfl) rfl (aC hS rfl) rfl)),
      fun S hS => aB rfl (aG rfl rfl (aA rfl) (aD hS rfl) c86 (bL (aA rfl) (aC hS rfl) rfl rfl)),
      fun S hS => aB rfl (aG rfl rfl (aA rfl) (aD hS rfl) c86 (bA (aA rfl) (aC hS rfl) (aC hS rfl) bP.of (bJ aO h88))),
      fun S hS => aB rfl (aG rfl rfl (aA rfl) (aD hS rfl) c86 (bC (aA rfl) (aC hS rfl) aZ)),
      fun S hS => aB rfl (aG rfl rfl (aA rfl) (aD hS rfl) c86 (bE (aA rfl) (aC hS rfl) (aC hS rfl) rfl)),
      fun S hS => aB rfl (aG rfl rfl (aA rfl) (aD hS rfl) c83 (bO (v := .d (.lit (.bool ((!decide (x24.Two = x87)))))) (aA rfl) (aC hS rfl) c86 (aC hS rfl) rfl)),
      fun S hS => aB rfl (aR rfl (bH (v := .d (.lit (.bool (!decide (x24.Two = x87))))) (aA rfl) (aC hS rfl) c83 (aC hS rfl) rfl)),
      fun S hS => aB rfl (aR rfl (aE (v := .d (.lit (.bool (!decide (x24.Two = x87))))) (aA rfl) (aC hS rfl) rfl)),
      fun S hS => aB rfl (aG rfl rfl (aA rfl) (aD hS rfl) c91 (aE (v := .d (.sl 1 (r18.2.1.map aO))) (aA rfl) (aC hS rfl) rfl)),
      fun S hS => aB rfl (aG rfl rfl (aA rfl) (aD hS rfl) c91 (aE (v := .d (.lit (.int .i64 i_0_21))) (aA rfl) (aC hS rfl) rfl)),
      fun S hS => aB rfl (aG rfl rfl (aA rfl) (aD hS rfl) c91 (bA (aA rfl) (aC hS rfl) (aC hS rfl) bP.of (bJ aO h93))),
      fun S hS => aB rfl (aG rfl rfl (aA rfl) (aD hS rfl) c91 (bC (aA rfl) (aC hS rfl) aZ)),
      fun S hS => aB rfl (aG rfl rfl (aA rfl) (aD hS rfl) c91 (bE (aA rfl) (aC hS rfl) rfl rfl)),
      fun S hS => aB rfl (aG rfl rfl (aA rfl) (aD hS rfl) c91 (aE (v := .d (.lit (.bool ((!decide (x92 = (-2))))))) (aA rfl) (aC hS rfl) rfl)),
      fun S hS => aB rfl (aG rfl rfl (aA rfl) (aD hS rfl) c96 (aE (v := .d (.sl 1 (r18.2.1.map aO))) (aA rfl) (aC hS rfl) rfl)),
      fun S hS => aB rfl (aG rfl rfl (aA rfl) (aD hS rfl) c96 (aE (v := .d (.lit (.int .i64 i_0_21))) (aA rfl) (aC hS rfl) rfl)),
      fun S hS => aB rfl (aG rfl rfl (aA rfl) (aD hS rfl) c96 (bA (aA rfl) (aC hS rfl) (aC hS rfl) bP.of (bJ aO h98))),
      fun S hS => aB rfl (aG rfl rfl (aA rfl) (aD hS rfl) c96 (bC (aA rfl) (aC hS rfl) aZ)),
      fun S hS => aB rfl (aG rfl rfl (aA rfl) (aD hS rfl) c96 (aE (v := .d (.sl 1 (course_2.map cG))) (aA rfl) (aC hS rfl) rfl)),
      fun S hS => aB rfl (aG rfl rfl (aA rfl) (aD hS rfl) c96 (aS (aA rfl) (aC hS rfl) iT)),
      fun S hS => aB rfl (aG rfl rfl (aA rfl) (aD hS rfl) c96 (aU (aA rfl) (aC hS rfl) (i := 1) rfl rfl aZ)),
      fun S hS => aB rfl (aG rfl rfl (aA rfl) (aD hS rfl) c96 (bA (aA rfl) (aC hS rfl) (aC hS rfl) jG.of (bJ cG h100))),
      fun S hS => aB rfl (aG rfl rfl (aA rfl) (aD hS rfl) c96 (bC (aA rfl) (aC hS rfl) cU)),
      fun S hS => aB rfl (aG rfl rfl (aA rfl) (aD hS rfl) c96 (aS (aA rfl) (aC hS rfl) dE)),
      fun S hS => aB rfl (aG rfl rfl (aA rfl) (aD hS rfl) c96 (aU (aA rfl) (aC hS rfl) (i := 1) rfl rfl aZ)),
      fun S hS => aB rfl (aG rfl rfl (aA rfl) (aD hS rfl) c96 (bA (aA rfl) (aC hS rfl) (aC hS rfl) bP.of (bJ aO h102))),
      fun S hS => aB rfl (aG rfl rfl (aA rfl) (aD hS rfl) c96 (bC (aA rfl) (aC hS rfl) aZ)),
      fun S hS => aB rfl (aG rfl rfl (aA rfl) (aD hS rfl) c96 (bE (aA rfl) (aC hS rfl) (aC hS rfl) rfl)),
      fun S hS => aB rfl (aG rfl rfl (aA rfl) (aD hS rfl) c91 (bO (v := .d (.lit (.bool ((!decide (x97 = x101)))))) (aA rfl) (aC hS rfl) c96 (aC hS rfl) rfl)),
      fun S hS => aB rfl (aR rfl (bH (v := .d (.lit (.bool (!decide (x97 = x101))))) (aA rfl) (aC hS rfl) c91 (aC hS rfl) rfl)), trivial⟩⟩
               · exact cL (aX rfl (bF ⟨rfl, rfl, rfl, rfl, rfl, rfl, rfl, rfl, trivial⟩))
              ·have h95 := bB c96 h95
               have h95 := Option.some.inj h95
               subst h95
               have h90 := Option.some.inj h90
               subst h90
               refine ⟨[(85, 0, .bp b26 0 2), (86, 1, .d (.lit (.int .i64 x24.One))), (87, 2, .d (.lit (.bool ((!decide (x24.One = (-2))))))), (88, 3, .d (.lit (.bool ((!decide (x24.One = (-2))))))), (89, 4, .bp b26 0 2), (90, 5, .d (.lit (.int .i64 x24.One))), (91, 6, .d (.sl 1 (r9.1.map aO))), (92, 7, .bp b26 0 1), (93, 8, .d (.lit (.int .i64 x24.Place))), (94, 9, .d (.lit (.int .i64 ((w64 (2 * x24.Place)))))), (95, 10, .cp [.lit (.int .i64 x79)]), (96, 11, .d (.lit (.int .i64 x79))), (97, 12, .d (.lit (.bool ((!decide (x24.One = x79)))))), (98, 13, .d (.lit (.bool ((!decide (x24.One = x79)))))), (99, 14, .d (.lit (.bool (!decide (x24.One = x79))))), (100, 15, .bp b26 0 3), (101, 16, .d (.lit (.int .i64 x24.Two))), (102, 17, .d (.lit (.bool ((!decide (x24.Two = (-2))))))), (103, 18, .d (.lit (.bool ((!decide (x24.Two = (-2))))))), (104, 19, .bp b26 0 3), (105, 20, .d (.lit (.int .i64 x24.Two))), (106, 21, .d (.sl 1 (r9.1.map aO))), (107, 22, .bp b26 0 1), (108, 23, .d (.lit (.int .i64 x24.Place))), (109, 24, .d (.lit (.int .i64 ((w64 (2 * x24.Place)))))), (110, 25, .d (.lit (.int .i64 ((w64 ((w64 (2 * x24.Place)) + 1)))))), (111, 26, .cp [.lit (.int .i64 x87)]), (112, 27, .d (.lit (.int .i64 x87))), (113, 28, .d (.lit (.bool ((!decide (x24.Two = x87)))))), (114, 29, .d (.lit (.bool ((!decide (x24.Two = x87)))))), (115, 30, .d (.lit (.bool (!decide (x24.Two = x87))))), (116, 31, .d (.lit (.bool (!decide (x24.Two = x87))))), (117, 32, .d (.sl 1 (r18.2.1.map aO))), (118, 33, .d (.lit (.int .i64 i_0_21))), (119, 34, .cp [.lit (.int .i64 x92)]), (120, 35, .d (.lit (.int .i64 x92))), (121, 36, .d (.lit (.bool ((!decide (x92 = (-2))))))), (122, 37, .d (.lit (.bool ((!decide (x92 = (-2))))))), (123, 38, .tup []), (124, 39, .tup []), (125, 40, .tup []), (126, 41, .tup []), (127, 42, .tup []), (128, 43, .tup []), (129, 44, .tup []), (130, 45, .tup []), (131, 46, .tup []), (132, 47, .tup []), (133, 48, .tup []), (134, 49, .tup []), (135, 50, .tup []), (136, 51, .tup []), (137, 52, .d (.lit (.bool false))), (138, 53, .d (.lit (.bool (false))))], ?_, ?_⟩
               · exact ⟨by kernel_rfl, by kernel_rfl, by kernel_rfl, by kernel_rfl, by kernel_rfl, [([], []), ([0], []), ([1], []), ([2], []), ([3], []), ([3, 4], []), ([3], []), ([3], []), ([3, 7], []), ([3, 8], []), ([3, 6, 9], []), ([3, 10], []), ([3, 5, 11], []), ([3, 12], []), ([13], []), ([14], []), ([14, 15], []), ([14, 16], []), ([14, 17], []), ([18], []), ([18, 19], []), ([18], []), ([18], []), ([18, 22], []), ([18, 23], []), ([18, 24], []), ([18, 21, 25], []), ([18, 26], []), ([18, 20, 27], []), ([14, 18, 28], []), ([14, 29], []), ([30], []), ([31], []), ([31], []), ([31, 32, 33], []), ([31, 34], []), ([31, 35], []), ([31, 36], []), ([37], []), ([37], []), ([37, 38, 39], []), ([37, 40], []), ([37], []), ([37], []), ([37, 43], []), ([37, 42, 44], []), ([37, 45], []), ([37], []), ([37, 47], []), ([37, 46, 48], []), ([37, 49], []), ([37, 41, 50], []), ([31, 37, 51], []), ([31, 52], [])], by kernel_rfl, ⟨fun S hS => aB rfl (aR rfl (aS (aA rfl) (aC hS rfl) dL)),
      fun S hS => aB rfl (aR rfl (aU (aA rfl) (aC hS rfl) (i := 1) rfl rfl aZ)),
      fun S hS => aB rfl (aR rfl (bE (aA rfl) (aC hS rfl) rfl rfl)),
      fun S hS => aB rfl (aR rfl (aE (v := .d (.lit (.bool ((!decide (x24.One = (-2))))))) (aA rfl) (aC hS rfl) rfl)),
      fun S hS => aB rfl (aG rfl rfl (aA rfl) (aD hS rfl) c78 (aS (aA rfl) (aC hS rfl) dL)),
      fun S hS => aB rfl (aG rfl rfl (aA rfl) (aD hS rfl) c78 (aU (aA rfl) (aC hS rfl) (i := 1) rfl rfl aZ)),
      fun S hS => aB rfl (aG rfl rfl (aA rfl) (aD hS rfl) c78 (aE (v := .d (.sl 1 (r9.1.map aO))) (aA rfl) (aC hS rfl) rfl)),
      fun S hS => aB rfl (aG rfl rfl (aA rfl) (aD hS rfl) c78 (aS (aA rfl) (aC hS rfl) dE)),
      fun S hS => aB rfl (aG rfl rfl (aA rfl) (aD hS rfl) c78 (aU (aA rfl) (aC hS rfl) (i := 1) rfl rfl aZ)),
      fun S hS => aB rfl (aG rfl rfl (aA rfl) (aD hS rfl) c78 (bL (aA rfl) rfl (aC hS rfl) rfl)),
      fun S hS => aB rfl (aG rfl rfl (aA rfl) (aD hS rfl) c78 (bA (aA rfl) (aC hS rfl) (aC hS rfl) bP.of (bJ aO h80))),
      fun S hS => aB rfl (aG rfl rfl (aA rfl) (aD hS rfl) c78 (bC (aA rfl) (aC hS rfl) aZ)),
      fun S hS => aB rfl (aG rfl rfl (aA rfl) (aD hS rfl) c78 (bE (aA rfl) (aC hS rfl) (aC hS rfl) rfl)),
      fun S hS => aB rfl (aR rfl (bO (v := .d (.lit (.bool ((!decide (x24.One = x79)))))) (aA rfl) (aC hS rfl) c78 (aC hS rfl) rfl)),
      fun S hS => aB rfl (aR rfl (aE (v := .d (.lit (.bool (!decide (x24.One = x79))))) (aA rfl) (aC hS rfl) rfl)),
      fun S hS => aB rfl (aG rfl rfl (aA rfl) (aD hS rfl) c83 (aS (aA rfl) (aC hS rfl) dQ)),
      fun S hS => aB rfl (aG rfl rfl (aA rfl) (aD hS rfl) c83 (aU (aA rfl) (aC hS rfl) (i := 1) rfl rfl aZ)),
      fun S hS => aB rfl (aG rfl rfl (aA rfl) (aD hS rfl) c83 (bE (aA rfl) (aC hS rfl) rfl rfl)),
      fun S hS => aB rfl (aG rfl rfl (aA rfl) (aD hS rfl) c83 (aE (v := .d (.lit (.bool ((!decide (x24.Two = (-2))))))) (aA rfl) (aC hS rfl) rfl)),
      fun S hS => aB rfl (aG rfl rfl (aA rfl) (aD hS rfl) c86 (aS (aA rfl) (aC hS rfl) dQ)),
      fun S hS => aB rfl (aG rfl rfl (aA rfl) (aD hS rfl) c86 (aU (aA rfl) (aC hS rfl) (i := 1) rfl rfl aZ)),
      fun S hS => aB rfl (aG rfl rfl (aA rfl) (aD hS rfl) c86 (aE (v := .d (.sl 1 (r9.1.map aO))) (aA rfl) (aC hS rfl) rfl)),
      fun S hS => aB rfl (aG rfl rfl (aA rfl) (aD hS rfl) c86 (aS (aA rfl) (aC hS rfl) dE)),
      fun S hS => aB rfl (aG rfl rfl (aA rfl) (aD hS rfl) c86 (aU (aA rfl) (aC hS rfl) (i := 1) rfl rfl aZ)),
      fun S hS => aB rfl (aG rfl rfl (aA rfl) (aD hS rfl) c86 (bL (aA rfl) rfl (aC hS rfl) rfl)),
      fun S hS => aB rfl (aG rfl rfl (aA rfl) (aD hS rfl) c86 (bL (aA rfl) (aC hS rfl) rfl rfl)),
      fun S hS => aB rfl (aG rfl rfl (aA rfl) (aD hS rfl) c86 (bA (aA rfl) (aC hS rfl) (aC hS rfl) bP.of (bJ aO h88))),
      fun S hS => aB rfl (aG rfl rfl (aA rfl) (aD hS rfl) c86 (bC (aA rfl) (aC hS rfl) aZ)),
      fun S hS => aB rfl (aG rfl rfl (aA rfl) (aD hS rfl) c86 (bE (aA rfl) (aC hS rfl) (aC hS rfl) rfl)),
      fun S hS => aB rfl (aG rfl rfl (aA rfl) (aD hS rfl) c83 (bO (v := .d (.lit (.bool ((!decide (x24.Two = x87)))))) (aA rfl) (aC hS rfl) c86 (aC hS rfl) rfl)),
      fun S hS => aB rfl (aR rfl (bH (v := .d (.lit (.bool (!decide (x24.Two = x87))))) (aA rfl) (aC hS rfl) c83 (aC hS rfl) rfl)),
      fun S hS => aB rfl (aR rfl (aE (v := .d (.lit (.bool (!decide (x24.Two = x87))))) (aA rfl) (aC hS rfl) rfl)),
      fun S hS => aB rfl (aG rfl rfl (aA rfl) (aD hS rfl) c91 (aE (v := .d (.sl 1 (r18.2.1.map aO))) (aA rfl) (aC hS rfl) rfl)),
      fun S hS => aB rfl (aG rfl rfl (aA rfl) (aD hS rfl) c91 (aE (v := .d (.lit (.int .i64 i_0_21))) (aA rfl) (aC hS rfl) rfl)),
      fun S hS => aB rfl (aG rfl rfl (aA rfl) (aD hS rfl) c91 (bA (aA rfl) (aC hS rfl) (aC hS rfl) bP.of (bJ aO h93))),
      fun S hS => aB rfl (aG rfl rfl (aA rfl) (aD hS rfl) c91 (bC (aA rfl) (aC hS rfl) aZ)),
      fun S hS => aB rfl (aG rfl rfl (aA rfl) (aD hS rfl) c91 (bE (aA rfl) (aC hS rfl) rfl rfl)),
      fun S hS => aB rfl (aG rfl rfl (aA rfl) (aD hS rfl) c91 (aE (v := .d (.lit (.bool ((!decide (x92 = (-2))))))) (aA rfl) (aC hS rfl) rfl)),
      fun S hS => aB rfl (aM rfl rfl (aA rfl) rfl (aA rfl) (aD hS rfl) c96),
      fun S hS => aB rfl (aM rfl rfl (aA rfl) rfl (aA rfl) (aD hS rfl) c96),
      fun S hS => aB rfl (aM rfl rfl (aA rfl) rfl (aA rfl) (aD hS rfl) c96),
      fun S hS => aB rfl (aM rfl rfl (aA rfl) rfl (aA rfl) (aD hS rfl) c96),
      fun S hS => aB rfl (aM rfl rfl (aA rfl) rfl (aA rfl) (aD hS rfl) c96),
      fun S hS => aB rfl (aM rfl rfl (aA rfl) rfl (aA rfl) (aD hS rfl) c96),
      fun S hS => aB rfl (aM rfl rfl (aA rfl) rfl (aA rfl) (aD hS rfl) c96),
      fun S hS => aB rfl (aM rfl rfl (aA rfl) rfl (aA rfl) (aD hS rfl) c96),
      fun S hS => aB rfl (aM rfl rfl (aA rfl) rfl (aA rfl) (aD hS rfl) c96),
      fun S hS => aB rfl (aM rfl rfl (aA rfl) rfl (aA rfl) (aD hS rfl) c96),
      fun S hS => aB rfl (aM rfl rfl (aA rfl) rfl (aA rfl) (aD hS rfl) c96),
      fun S hS => aB rfl (aM rfl rfl (aA rfl) rfl (aA rfl) (aD hS rfl) c96),
      fun S hS => aB rfl (aM rfl rfl (aA rfl) rfl (aA rfl) (aD hS rfl) c96),
      fun S hS => aB rfl (aM rfl rfl (aA rfl) rfl (aA rfl) (aD hS rfl) c96),
      fun S hS => aB rfl (aG rfl rfl (aA rfl) (aD hS rfl) c91 (bH (v := .d (.lit (.bool false))) (aA rfl) (aC hS rfl) c96 rfl rfl)),
      fun S hS => aB rfl (aR rfl (bH (v := .d (.lit (.bool (false)))) (aA rfl) (aC hS rfl) c91 (aC hS rfl) rfl)), trivial⟩⟩
               · exact cL (aX rfl (bF ⟨rfl, rfl, rfl, rfl, rfl, rfl, rfl, rfl, trivial⟩))
            ·have h85 := bB c86 h85
             have h85 := Option.some.inj h85
             subst h85
             have h82 := Option.some.inj h82
             subst h82
             have c91 : false = false := rfl
             have h90 := bB c91 h90
             obtain ⟨x92, h93, h90⟩ := bind_some h90
             obtain ⟨b94, h95, h90⟩ := bind_some h90
             refine bM (!decide (x92 = (-2))) (fun c96 => ?_) (fun c96 => ?_)
             ·have h95 := bD c96 h95
              obtain ⟨x97, h98, h95⟩ := bind_some h95
              obtain ⟨x99, h100, h95⟩ := bind_some h95
              obtain ⟨x101, h102, h95⟩ := bind_some h95
              have h95 := Option.some.inj h95
              subst h95
              have h90 := Option.some.inj h90
              subst h90
              refine ⟨[(85, 0, .bp b26 0 2), (86, 1, .d (.lit (.int .i64 x24.One))), (87, 2, .d (.lit (.bool ((!decide (x24.One = (-2))))))), (88, 3, .d (.lit (.bool ((!decide (x24.One = (-2))))))), (89, 4, .bp b26 0 2), (90, 5, .d (.lit (.int .i64 x24.One))), (91, 6, .d (.sl 1 (r9.1.map aO))), (92, 7, .bp b26 0 1), (93, 8, .d (.lit (.int .i64 x24.Place))), (94, 9, .d (.lit (.int .i64 ((w64 (2 * x24.Place)))))), (95, 10, .cp [.lit (.int .i64 x79)]), (96, 11, .d (.lit (.int .i64 x79))), (97, 12, .d (.lit (.bool ((!decide (x24.One = x79)))))), (98, 13, .d (.lit (.bool ((!decide (x24.One = x79)))))), (99, 14, .d (.lit (.bool (!decide (x24.One = x79))))), (100, 15, .bp b26 0 3), (101, 16, .d (.lit (.int .i64 x24.Two))), (102, 17, .d (.lit (.bool ((!decide (x24.Two = (-2))))))), (103, 18, .d (.lit (.bool ((!decide (x24.Two = (-2))))))), (104, 19, .tup []), (105, 20, .tup []), (106, 21, .tup []), (107, 22, .tup []), (108, 23, .tup []), (109, 24, .tup []), (110, 25, .tup []), (111, 26, .tup []), (112, 27, .tup []), (113, 28, .tup []), (114, 29, .d (.lit (.bool false))), (115, 30, .d (.lit (.bool (false)))), (116, 31, .d (.lit (.bool (false)))), (117, 32, .d (.sl 1 (r18.2.1.map aO))), (118, 33, .d (.lit (.int .i64 i_0_21))), (119, 34, .cp [.lit (.int .i64 x92)]), (120, 35, .d (.lit (.int .i64 x92))), (121, 36, .d (.lit (.bool ((!decide (x92 = (-2))))))), (122, 37, .d (.lit (.bool ((!decide (x92 = (-2))))))), (123, 38, .d (.sl 1 (r18.2.1.map aO))), (124, 39, .d (.lit (.int .i64 i_0_21))), (125, 40, .cp [.lit (.int .i64 x97)]), (126, 41, .d (.lit (.int .i64 x97))), (127, 42, .d (.sl 1 (course_2.map cG))), (128, 43, .bp b26 0 0), (129, 44, .d (.lit (.int .i64 x24.Round))), (130, 45, .cp [.sl 1 (x99.map aO)]), (131, 46, .d (.sl 1 (x99.map aO))), (132, 47, .bp b26 0 1), (133, 48, .d (.lit (.int .i64 x24.Place))), (134, 49, .cp [.lit (.int .i64 x101)]), (135, 50, .d (.lit (.int .i64 x101))), (136, 51, .d (.lit (.bool ((!decide (x97 = x101)))))), (137, 52, .d (.lit (.bool ((!decide (x97 = x101)))))), (138, 53, .d (.lit (.bool (!decide (x97 = x101)))))], ?_, ?_⟩
              · exact ⟨by kernel_rfl, by kernel_rfl, by kernel_rfl, by kernel_rfl, by kernel_rfl, [([], []), ([0], []), ([1], []), ([2], []), ([3], []), ([3, 4], []), ([3], []), ([3], []), ([3, 7], []), ([3, 8], []), ([3, 6, 9], []), ([3, 10], []), ([3, 5, 11], []), ([3, 12], []), ([13], []), ([14], []), ([14, 15], []), ([14, 16], []), ([14, 17], []), ([18], []), ([18, 19], []), ([18], []), ([18], []), ([18, 22], []), ([18, 23], []), ([18, 24], []), ([18, 21, 25], []), ([18, 26], []), ([18, 20, 27], []), ([14, 18, 28], []), ([14, 29], []), ([30], []), ([31], []), ([31], []), ([31, 32, 33], []), ([31, 34], []), ([31, 35], []), ([31, 36], []), ([37], []), ([37], []), ([37, 38, 39], []), ([37, 40], []), ([37], []), ([37], []), ([37, 43], []), ([37, 42, 44], []), ([37, 45], []), ([37], []), ([37, 47], []), ([37, 46, 48], []), ([37, 49], []), ([37, 41, 50], []), ([31, 37, 51], []), ([31, 52], [])], by kernel_rfl, ⟨fun S hS => aB rfl (aR rfl (aS (aA rfl) (aC hS rfl) dL)),
      fun S hS => aB rfl (aR rfl (aU (aA rfl) (aC hS rfl) (i := 1) rfl rfl aZ)),
      fun S hS => aB rfl (aR rfl (bE (aA rfl) (aC hS rfl) rfl rfl)),
      fun S hS => aB rfl (aR rfl (aE (v := .d (.lit (.bool ((!decide (x24.One = (-2))))))) (aA rfl) (aC hS rfl) rfl)),
      fun S hS => aB rfl (aG rfl rfl (aA rfl) (aD hS rfl) c78 (aS (aA rfl) (aC hS rfl) dL)),
      fun S hS => aB rfl (aG rfl rfl (aA rfl) (aD hS rfl) c78 (aU (aA rfl) (aC hS rfl) (i := 1) rfl rfl aZ)),
      fun S hS => aB rfl (aG rfl rfl (aA rfl) (aD hS rfl) c78 (aE (v := .d (.sl 1 (r9.1.map aO))) (aA rfl) (aC hS rfl) rfl)),
      fun S hS => aB rfl (aG rfl rfl (aA rfl) (aD hS rfl) c78 (aS (aA rfl) (aC hS rfl) dE)),
      fun S hS => aB rfl (aG rfl rfl (aA rfl) (aD hS rfl) c78 (aU (aA rfl) (aC hS rfl) (i := 1) rfl rfl aZ)),
      fun S hS => aB rfl (aG rfl rfl (aA rfl) (aD hS rfl) c78 (bL (aA rfl) rfl (aC hS rfl) rfl)),
      fun S hS => aB rfl (aG rfl rfl (aA rfl) (aD hS rfl) c78 (bA (aA rfl) (aC hS rfl) (aC hS rfl) bP.of (bJ aO h80))),
      fun S hS => aB rfl (aG rfl rfl (aA rfl) (aD hS rfl) c78 (bC (aA rfl) (aC hS rfl) aZ)),
      fun S hS => aB rfl (aG rfl rfl (aA rfl) (aD hS rfl) c78 (bE (aA rfl) (aC hS rfl) (aC hS rfl) rfl)),
      fun S hS => aB rfl (aR rfl (bO (v := .d (.lit (.bool ((!decide (x24.One = x79)))))) (aA rfl) (aC hS rfl) c78 (aC hS rfl) rfl)),
      fun S hS => aB rfl (aR rfl (aE (v := .d (.lit (.bool (!decide (x24.One = x79))))) (aA rfl) (aC hS rfl) rfl)),
      fun S hS => aB rfl (aG rfl rfl (aA rfl) (aD hS rfl) c83 (aS (aA rfl) (aC hS rfl) dQ)),
      fun S hS => aB rfl (aG rfl rfl (aA rfl) (aD hS rfl) c83 (aU (aA rfl) (aC hS rfl) (i := 1) rfl rfl aZ)),
      fun S hS => aB rfl (aG rfl rfl (aA rfl) (aD hS rfl) c83 (bE (aA rfl) (aC hS rfl) rfl rfl)),
      fun S hS => aB rfl (aG rfl rfl (aA rfl) (aD hS rfl) c83 (aE (v := .d (.lit (.bool ((!decide (x24.Two = (-2))))))) (aA rfl) (aC hS rfl) rfl)),
      fun S hS => aB rfl (aM rfl rfl (aA rfl) rfl (aA rfl) (aD hS rfl) c86),
      fun S hS => aB rfl (aM rfl rfl (aA rfl) rfl (aA rfl) (aD hS rfl) c86),
      fun S hS => aB rfl (aM rfl rfl (aA rfl) rfl (aA rfl) (aD hS rfl) c86),
      fun S hS => aB rfl (aM rfl rfl (aA rfl) rfl (aA rfl) (aD hS rfl) c86),
      fun S hS => aB rfl (aM rfl rfl (aA rfl) rfl (aA rfl) (aD hS rfl) c86),
      fun S hS => aB rfl (aM rfl rfl (aA rfl) rfl (aA rfl) (aD hS rfl) c86),
      fun S hS => aB rfl (aM rfl rfl (aA rfl) rfl (aA rfl) (aD hS rfl) c86),
      fun S hS => aB rfl (aM rfl rfl (aA rfl) rfl (aA rfl) (aD hS rfl) c86),
      fun S hS => aB rfl (aM rfl rfl (aA rfl) rfl (aA rfl) (aD hS rfl) c86),
      fun S hS => aB rfl (aM rfl rfl (aA rfl) rfl (aA rfl) (aD hS rfl) c86),
      fun S hS => aB rfl (aG rfl rfl (aA rfl) (aD hS rfl) c83 (bH (v := .d (.lit (.bool false))) (aA rfl) (aC hS rfl) c86 rfl rfl)),
      fun S hS => aB rfl (aR rfl (bH (v := .d (.lit (.bool (false)))) (aA rfl) (aC hS rfl) c83 (aC hS rfl) rfl)),
      fun S hS => aB rfl (aR rfl (aE (v := .d (.lit (.bool (false)))) (aA rfl) (aC hS rfl) rfl)),
      fun S hS => aB rfl (aG rfl rfl (aA rfl) (aD hS rfl) c91 (aE (v := .d (.sl 1 (r18.2.1.map aO))) (aA rfl) (aC hS rfl) rfl)),
      fun S hS => aB rfl (aG rfl rfl (aA rfl) (aD hS rfl) c91 (aE (v := .d (.lit (.int .i64 i_0_21))) (aA rfl) (aC hS rfl) rfl)),
      fun S hS => aB rfl (aG rfl rfl (aA rfl) (aD hS rfl) c91 (bA (aA rfl) (aC hS rfl) (aC hS rfl) bP.of (bJ aO h93))),
      fun S hS => aB rfl (aG rfl rfl (aA rfl) (aD hS rfl) c91 (bC (aA rfl) (aC hS rfl) aZ)),
      fun S hS => aB rfl (aG rfl rfl (aA rfl) (aD hS rfl) c91 (bE (aA rfl) (aC hS rfl) rfl rfl)),
      fun S hS => aB rfl (aG rfl rfl (aA rfl) (aD hS rfl) c91 (aE (v := .d (.lit (.bool ((!decide (x92 = (-2))))))) (aA rfl) (aC hS rfl) rfl)),
      fun S hS => aB rfl (aG rfl rfl (aA rfl) (aD hS rfl) c96 (aE (v := .d (.sl 1 (r18.2.1.map aO))) (aA rfl) (aC hS rfl) rfl)),
      fun S hS => aB rfl (aG rfl rfl (aA rfl) (aD hS rfl) c96 (aE (v := .d (.lit (.int .i64 i_0_21))) (aA rfl) (aC hS rfl) rfl)),
      fun S hS => aB rfl (aG rfl rfl (aA rfl) (aD hS rfl) c96 (bA (aA rfl) (aC hS rfl) (aC hS rfl) bP.of (bJ aO h98))),
      fun S hS => aB rfl (aG rfl rfl (aA rfl) (aD hS rfl) c96 (bC (aA rfl) (aC hS rfl) aZ)),
      fun S hS => aB rfl (aG rfl rfl (aA rfl) (aD hS rfl) c96 (aE (v := .d (.sl 1 (course_2.map cG))) (aA rfl) (aC hS rfl) rfl)),
      fun S hS => aB rfl (aG rfl rfl (aA rfl) (aD hS rfl) c96 (aS (aA rfl) (aC hS rfl) iT)),
      fun S hS => aB rfl (aG rfl rfl (aA rfl) (aD hS rfl) c96 (aU (aA rfl) (aC hS rfl) (i := 1) rfl rfl aZ)),
      fun S hS => aB rfl (aG rfl rfl (aA rfl) (aD hS rfl) c96 (bA (aA rfl) (aC hS rfl) (aC hS rfl) jG.of (bJ cG h100))),
      fun S hS => aB rfl (aG rfl rfl (aA rfl) (aD hS rfl) c96 (bC (aA rfl) (aC hS rfl) cU)),
      fun S hS => aB rfl (aG rfl rfl (aA rfl) (aD hS rfl) c96 (aS (aA rfl) (aC hS rfl) dE)),
      fun S hS => aB rfl (aG rfl rfl (aA rfl) (aD hS rfl) c96 (aU (aA rfl) (aC hS rfl) (i := 1) rfl rfl aZ)),
      fun S hS => aB rfl (aG rfl rfl (aA rfl) (aD hS rfl) c96 (bA (aA rfl) (aC hS rfl) (aC hS rfl) bP.of (bJ aO h102))),
      fun S hS => aB rfl (aG rfl rfl (aA rfl) (aD hS rfl) c96 (bC (aA rfl) (aC hS rfl) aZ)),
      fun S hS => aB rfl (aG rfl rfl (aA rfl) (aD hS rfl) c96 (bE (aA rfl) (aC hS rfl) (aC hS rfl) rfl)),
      fun S hS => aB rfl (aG rfl rfl (aA rfl) (aD hS rfl) c91 (bO (v := .d (.lit (.bool ((!decide (x97 = x101)))))) (aA rfl) (aC hS rfl) c96 (aC hS rfl) rfl)),
      fun S hS => aB rfl (aR rfl (bH (v := .d (.lit (.bool (!decide (x97 = x101))))) (aA rfl) (aC hS rfl) c91 (aC hS rfl) rfl)), trivial⟩⟩
              · exact cL (aX rfl (bF ⟨rfl, rfl, rfl, rfl, rfl, rfl, rfl, rfl, trivial⟩))
             ·have h95 := bB c96 h95
              have h95 := Option.some.inj h95
              subst h95
              have h90 := Option.some.inj h90
              subst h90
              refine ⟨[(85, 0, .bp b26 0 2), (86, 1, .d (.lit (.int .i64 x24.One))), (87, 2, .d (.lit (.bool ((!decide (x24.One = (-2))))))), (88, 3, .d (.lit (.bool ((!decide (x24.One = (-2))))))), (89, 4, .bp b26 0 2), (90, 5, .d (.lit (.int .i64 x24.One))), (91, 6, .d (.sl 1 (r9.1.map aO))), (92, 7, .bp b26 0 1), (93, 8, .d (.lit (.int .i64 x24.Place))), (94, 9, .d (.lit (.int .i64 ((w64 (2 * x24.Place)))))), (95, 10, .cp [.lit (.int .i64 x79)]), (96, 11, .d (.lit (.int .i64 x79))), (97, 12, .d (.lit (.bool ((!decide (x24.One = x79)))))), (98, 13, .d (.lit (.bool ((!decide (x24.One = x79)))))), (99, 14, .d (.lit (.bool (!decide (x24.One = x79))))), (100, 15, .bp b26 0 3), (101, 16, .d (.lit (.int .i64 x24.Two))), (102, 17, .d (.lit (.bool ((!decide (x24.Two = (-2))))))), (103, 18, .d (.lit (.bool ((!decide (x24.Two = (-2))))))), (104, 19, .tup []), (105, 20, .tup []), (106, 21, .tup []), (107, 22, .tup []), (108, 23, .tup []), (109, 24, .tup []), (110, 25, .tup []), (111, 26, .tup []), (112, 27, .tup []), (113, 28, .tup []), (114, 29, .d (.lit (.bool false))), (115, 30, .d (.lit (.bool (false)))), (116, 31, .d (.lit (.bool (false)))), (117, 32, .d (.sl 1 (r18.2.1.map aO))), (118, 33, .d (.lit (.int .i64 i_0_21))), (119, 34, .cp [.lit (.int .i64 x92)]), (120, 35, .d (.lit (.int .i64 x92))), (121, 36, .d (.lit (.bool ((!decide (x92 = (-2))))))), (122, 37, .d (.lit (.bool ((!decide (x92 = (-2))))))), (123, 38, .tup []), (124, 39, .tup []), (125, 40, .tup []), (126, 41, .tup []), (127, 42, .tup []), (128, 43, .tup []), (129, 44, .tup []), (130, 45, .tup []), (131, 46, .tup []), (132, 47, .tup []), (133, 48, .tup []), (134, 49, .tup []), (135, 50, .tup []), (136, 51, .tup []), (137, 52, .d (.lit (.bool false))), (138, 53, .d (.lit (.bool (false))))], ?_, ?_⟩
              · exact ⟨by kernel_rfl, by kernel_rfl, by kernel_rfl, by kernel_rfl, by kernel_rfl, [([], []), ([0], []), ([1], []), ([2], []), ([3], []), ([3, 4], []), ([3], []), ([3], []), ([3, 7], []), ([3, 8], []), ([3, 6, 9], []), ([3, 10], []), ([3, 5, 11], []), ([3, 12], []), ([13], []), ([14], []), ([14, 15], []), ([14, 16], []), ([14, 17], []), ([18], []), ([18, 19], []), ([18], []), ([18], []), ([18, 22], []), ([18, 23], []), ([18, 24], []), ([18, 21, 25], []), ([18, 26], []), ([18, 20, 27], []), ([14, 18, 28], []), ([14, 29], []), ([30], []), ([31], []), ([31], []), ([31, 32, 33], []), ([31, 34], []), ([31, 35], []), ([31, 36], []), ([37], []), ([37], []), ([37, 38, 39], []), ([37, 40], []), ([37], []), ([37], []), ([37, 43], []), ([37, 42, 44], []), ([37, 45], []), ([37], []), ([37, 47], []), ([37, 46, 48], []), ([37, 49], []), ([37, 41, 50], []), ([31, 37, 51], []), ([31, 52], [])], by kernel_rfl, ⟨fun S hS => aB rfl (aR rfl (aS (aA rfl) (aC hS rfl) dL)),
      fun S hS => aB rfl (aR rfl (aU (aA rfl) (aC hS rfl) (i := 1) rfl rfl aZ)),
      fun S hS => aB rfl (aR rfl (bE (aA rfl) (aC hS rfl) rfl rfl)),
      fun S hS => aB rfl (aR rfl (aE (v := .d (.lit (.bool ((!decide (x24.One = (-2))))))) (aA rfl) (aC hS rfl) rfl)),
      fun S hS => aB rfl (aG rfl rfl (aA rfl) (aD hS rfl) c78 (aS (aA rfl) (aC hS rfl) dL)),
      fun S hS => aB rfl (aG rfl rfl (aA rfl) (aD hS rfl) c78 (aU (aA rfl) (aC hS rfl) (i := 1) rfl rfl aZ)),
      fun S hS => aB rfl (aG rfl rfl (aA rfl) (aD hS rfl) c78 (aE (v := .d (.sl 1 (r9.1.map aO))) (aA rfl) (aC hS rfl) rfl)),
      fun S hS => aB rfl (aG rfl rfl (aA rfl) (aD hS rfl) c78 (aS (aA rfl) (aC hS rfl) dE)),
      fun S hS => aB rfl (aG rfl rfl (aA rfl) (aD hS rfl) c78 (aU (aA rfl) (aC hS rfl) (i := 1) rfl rfl aZ)),
      fun S hS => aB rfl (aG rfl rfl (aA rfl) (aD hS rfl) c78 (bL (aA rfl) rfl (aC hS rfl) rfl)),
      fun S hS => aB rfl (aG rfl rfl (aA rfl) (aD hS rfl) c78 (bA (aA rfl) (aC hS rfl) (aC hS rfl) bP.of (bJ aO h80))),
      fun S hS => aB rfl (aG rfl rfl (aA rfl) (aD hS rfl) c78 (bC (aA rfl) (aC hS rfl) aZ)),
      fun S hS => aB rfl (aG rfl rfl (aA rfl) (aD hS rfl) c78 (bE (aA rfl) (aC hS rfl) (aC hS rfl) rfl)),
      fun S hS => aB rfl (aR rfl (bO (v := .d (.lit (.bool ((!decide (x24.One = x79)))))) (aA rfl) (aC hS rfl) c78 (aC hS rfl) rfl)),
      fun S hS => aB rfl (aR rfl (aE (v := .d (.lit (.bool (!decide (x24.One = x79))))) (aA rfl) (aC hS rfl) rfl)),
      fun S hS => aB rfl (aG rfl rfl (aA rfl) (aD hS rfl) c83 (aS (aA rfl) (aC hS rfl) dQ)),
      fun S hS => aB rfl (aG rfl rfl (aA rfl) (aD hS rfl) c83 (aU (aA rfl) (aC hS rfl) (i := 1) rfl rfl aZ)),
      fun S hS => aB rfl (aG rfl rfl (aA rfl) (aD hS rfl) c83 (bE (aA rfl) (aC hS rfl) rfl rfl)),
      fun S hS => aB rfl (aG rfl rfl (aA rfl) (aD hS rfl) c83 (aE (v := .d (.lit (.bool ((!decide (x24.Two = (-2))))))) (aA rfl) (aC hS rfl) rfl)),
      fun S hS => aB rfl (aM rfl rfl (aA rfl) rfl (aA rfl) (aD hS rfl) c86),
      fun S hS => aB rfl (aM rfl rfl (aA rfl) rfl (aA rfl) (aD hS rfl) c86),
      fun S hS => aB rfl (aM rfl rfl (aA rfl) rfl (aA rfl) (aD hS rfl) c86),
      fun S hS => aB rfl (aM rfl rfl (aA rfl) rfl (aA rfl) (aD hS rfl) c86),
      fun S hS => aB rfl (aM rfl rfl (aA rfl) rfl (aA rfl) (aD hS rfl) c86),
      fun S hS => aB rfl (aM rfl rfl (aA rfl) rfl (aA rfl) (aD hS rfl) c86),
      fun S hS => aB rfl (aM rfl rfl (aA rfl) rfl (aA rfl) (aD hS rfl) c86),
      fun S hS => aB rfl (aM rfl rfl (aA rfl) rfl (aA rfl) (aD hS rfl) c86),
      fun S hS => aB rfl (aM rfl rfl (aA rfl) rfl (aA rfl) (aD hS rfl) c86),
      fun S hS => aB rfl (aM rfl rfl (aA rfl) rfl (aA rfl) (aD hS rfl) c86),
      fun S hS => aB rfl (aG rfl rfl (aA rfl) (aD hS rfl) c83 (bH (v := .d (.lit (.bool false))) (aA rfl) (aC hS rfl) c86 rfl rfl)),
      fun S hS => aB rfl (aR rfl (bH (v := .d (.lit (.bool (false)))) (aA rfl) (aC hS rfl) c83 (aC hS rfl) rfl)),
      fun S hS => aB rfl (aR rfl (aE (v := .d (.lit (.bool (false)))) (aA rfl) (aC hS rfl) rfl)),
      fun S hS => aB rfl (aG rfl rfl (aA rfl) (aD hS rfl) c91 (aE (v := .d (.sl 1 (r18.2.1.map aO))) (aA rfl) (aC hS rfl) rfl)),
      fun S hS => aB rfl (aG rfl rfl (aA rfl) (aD hS rfl) c91 (aE (v := .d (.lit (.int .i64 i_0_21))) (aA rfl) (aC hS rfl) rfl)),
      fun S hS => aB rfl (aG rfl rfl (aA rfl) (aD hS rfl) c91 (bA (aA rfl) (aC hS rfl) (aC hS rfl) bP.of (bJ aO h93))),
      fun S hS => aB rfl (aG rfl rfl (aA rfl) (aD hS rfl) c91 (bC (aA rfl) (aC hS rfl) aZ)),
      fun S hS => aB rfl (aG rfl rfl (aA rfl) (aD hS rfl) c91 (bE (aA rfl) (aC hS rfl) rfl rfl)),
      fun S hS => aB rfl (aG rfl rfl (aA rfl) (aD hS rfl) c91 (aE (v := .d (.lit (.bool ((!decide (x92 = (-2))))))) (aA rfl) (aC hS rfl) rfl)),
      fun S hS => aB rfl (aM rfl rfl (aA rfl) rfl (aA rfl) (aD hS rfl) c96),
      fun S hS => aB rfl (aM rfl rfl (aA rfl) rfl (aA rfl) (aD hS rfl) c96),
      fun S hS => aB rfl (aM rfl rfl (aA rfl) rfl (aA rfl) (aD hS rfl) c96),
      fun S hS => aB rfl (aM rfl rfl (aA rfl) rfl (aA rfl) (aD hS rfl) c96),
      fun S hS => aB rfl (aM rfl rfl (aA rfl) rfl (aA rfl) (aD hS rfl) c96),
      fun S hS => aB rfl (aM rfl rfl (aA rfl) rfl (aA rfl) (aD hS rfl) c96),
      fun S hS => aB rfl (aM rfl rfl (aA rfl) rfl (aA rfl) (aD hS rfl) c96),
      fun S hS => aB rfl (aM rfl rfl (aA rfl) rfl (aA rfl) (aD hS rfl) c96),
      fun S hS => aB rfl (aM rfl rfl (aA rfl) rfl (aA rfl) (aD hS rfl) c96),
      fun S hS => aB rfl (aM rfl rfl (aA rfl) rfl (aA rfl) (aD hS rfl) c96),
      fun S hS => aB rfl (aM rfl rfl (aA rfl) rfl (aA rfl) (aD hS rfl) c96),
      fun S hS => aB rfl (aM rfl rfl (aA rfl) rfl (aA rfl) (aD hS rfl) c96),
      fun S hS => aB rfl (aM rfl rfl (aA rfl) rfl (aA rfl) (aD hS rfl) c96),
      fun S hS => aB rfl (aM rfl rfl (aA rfl) rfl (aA rfl) (aD hS rfl) c96),
      fun S hS => aB rfl (aG rfl rfl (aA rfl) (aD hS rfl) c91 (bH (v := .d (.lit (.bool false))) (aA rfl) (aC hS rfl) c96 rfl rfl)),
      fun S hS => aB rfl (aR rfl (bH (v := .d (.lit (.bool (false)))) (aA rfl) (aC hS rfl) c91 (aC hS rfl) rfl)), trivial⟩⟩
              · exact cL (aX rfl (bF ⟨rfl, rfl, rfl, rfl, rfl, rfl, rfl, rfl, trivial⟩))
          ·have h77 := bB c78 h77
           have h77 := Option.some.inj h77
           subst h77
           have c83 : false = false := rfl
           have h82 := bB c83 h82
           obtain ⟨b84, h85, h82⟩ := bind_some h82
           refine bM (!decide (x24.Two = (-2))) (fun c86 => ?_) (fun c86 => ?_)
           ·have h85 := bD c86 h85
            obtain ⟨x87, h88, h85⟩ := bind_some h85
            have h85 := Option.some.inj h85
            subst h85
            have h82 := Option.some.inj h82
            subst h82
            refine bM (!decide (x24.Two = x87)) (fun c91 => ?_) (fun c91 => ?_)
            ·have h90 := bD c91 h90
             have h90 := Option.some.inj h90
             subst h90
             refine ⟨[(85, 0, .bp b26 0 2), (86, 1, .d (.lit (.int .i64 x24.One))), (87, 2, .d (.lit (.bool ((!decide (x24.One = (-2))))))), (88, 3, .d (.lit (.bool ((!decide (x24.One = (-2))))))), (89, 4, .tup []), (90, 5, .tup []), (91, 6, .tup []), (92, 7, .tup []), (93, 8, .tup []), (94, 9, .tup []), (95, 10, .tup []), (96, 11, .tup []), (97, 12, .tup []), (98, 13, .d (.lit (.bool false))), (99, 14, .d (.lit (.bool (false)))), (100, 15, .bp b26 0 3), (101, 16, .d (.lit (.int .i64 x24.Two))), (102, 17, .d (.lit (.bool ((!decide (x24.Two = (-2))))))), (103, 18, .d (.lit (.bool ((!decide (x24.Two = (-2))))))), (104, 19, .bp b26 0 3), (105, 20, .d (.lit (.int .i64 x24.Two))), (106, 21, .d (.sl 1 (r9.1.map aO))), (107, 22, .bp b26 0 1), (108, 23, .d (.lit (.int .i64 x24.Place))), (109, 24, .d (.lit (.int .i64 ((w64 (2 * x24.Place)))))), (110, 25, .d (.lit (.int .i64 ((w64 ((w64 (2 * x24.Place)) + 1)))))), (111, 26, .cp [.lit (.int .i64 x87)]), (112, 27, .d (.lit (.int .i64 x87))), (113, 28, .d (.lit (.bool ((!decide (x24.Two = x87)))))), (114, 29, .d (.lit (.bool ((!decide (x24.Two = x87)))))), (115, 30, .d (.lit (.bool (!decide (x24.Two = x87))))), (116, 31, .d (.lit (.bool (!decide (x24.Two = x87))))), (117, 32, .tup []), (118, 33, .tup []), (119, 34, .tup []), (120, 35, .tup []), (121, 36, .tup []), (122, 37, .tup []), (123, 38, .tup []), (124, 39, .tup []), (125, 40, .tup []), (126, 41, .tup []), (127, 42, .tup []), (128, 43, .tup []), (129, 44, .tup []), (130, 45, .tup []), (131, 46, .tup []), (132, 47, .tup []), (133, 48, .tup []), (134, 49, .tup []), (135, 50, .tup []), (136, 51, .tup []), (137, 52, .tup []), (138, 53, .d (.lit (.bool true)))], ?_, ?_⟩
             · exact ⟨by kernel_rfl, by kernel_rfl, by kernel_rfl, by kernel_rfl, by kernel_rfl, [([], []), ([0], []), ([1], []), ([2], []), ([3], []), ([3, 4], []), ([3], []), ([3], []), ([3, 7], []), ([3, 8], []), ([3, 6, 9], []), ([3, 10], []), ([3, 5, 11], []), ([3, 12], []), ([13], []), ([14], []), ([14, 15], []), ([14, 16], []), ([14, 17], []), ([18], []), ([18, 19], []), ([18], []), ([18], []), ([18, 22], []), ([18, 23], []), ([18, 24], []), ([18, 21, 25], []), ([18, 26], []), ([18, 20, 27], []), ([14, 18, 28], []), ([14, 29], []), ([30], []), ([31], []), ([31], []), ([31, 32, 33], []), ([31, 34], []), ([31, 35], []), ([31, 36], []), ([37], []), ([37], []), ([37, 38, 39], []), ([37, 40], []), ([37], []), ([37], []), ([37, 43], []), ([37, 42, 44], []), ([37, 45], []), ([37], []), ([37, 47], []), ([37, 46, 48], []), ([37, 49], []), ([37, 41, 50], []), ([31, 37, 51], []), ([31, 52], [])], by kernel_rfl, ⟨fun S hS => aB rfl (aR rfl (aS (aA rfl) (aC hS rfl) dL)),
      fun S hS => aB rfl (aR rfl (aU (aA rfl) (aC hS rfl) (i := 1) rfl rfl aZ)),
      fun S hS => aB rfl (aR rfl (bE (aA rfl) (aC hS rfl) rfl rfl)),
      fun S hS => aB rfl (aR rfl (aE (v := .d (.lit (.bool ((!decide (x24.One = (-2))))))) (aA rfl) (aC hS rfl) rfl)),
      fun S hS => aB rfl (aM rfl rfl (aA rfl) rfl (aA rfl) (aD hS rfl) c78),
      fun S hS => aB rfl (aM rfl rfl (aA rfl) rfl (aA rfl) (aD hS rfl) c78),
      fun S hS => aB rfl (aM rfl rfl (aA rfl) rfl (aA rfl) (aD hS rfl) c78),
      fun S hS => aB rfl (aM rfl rfl (aA rfl) rfl (aA rfl) (aD hS rfl) c78),
      fun S hS => aB rfl (aM rfl rfl (aA rfl) rfl (aA rfl) (aD hS rfl) c78),
      fun S hS => aB rfl (aM rfl rfl (aA rfl) rfl (aA rfl) (aD hS rfl) c78),
      fun S hS => aB rfl (aM rfl rfl (aA rfl) rfl (aA rfl) (aD hS rfl) c78),
      fun S hS => aB rfl (aM rfl rfl (aA rfl) rfl (aA rfl) (aD hS rfl) c78),
      fun S hS => aB rfl (aM rfl rfl (aA rfl) rfl (aA rfl) (aD hS rfl) c78),
      fun S hS => aB rfl (aR rfl (bH (v := .d (.lit (.bool false))) (aA rfl) (aC hS rfl) c78 rfl rfl)),
      fun S hS => aB rfl (aR rfl (aE (v := .d (.lit (.bool (false)))) (aA rfl) (aC hS rfl) rfl)),
      fun S hS => aB rfl (aG rfl rfl (aA rfl) (aD hS rfl) c83 (aS (aA rfl) (aC hS rfl) dQ)),
      fun S hS => aB rfl (aG rfl rfl (aA rfl) (aD hS rfl) c83 (aU (aA rfl) (aC hS rfl) (i := 1) rfl rfl aZ)),
      fun S hS => aB rfl (aG rfl rfl (aA rfl) (aD hS rfl) c83 (bE (aA rfl) (aC hS rfl) rfl rfl)),
      fun S hS => aB rfl (aG rfl rfl (aA rfl) (aD hS rfl) c83 (aE (v := .d (.lit (.bool ((!decide (x24.Two = (-2))))))) (aA rfl) (aC hS rfl) rfl)),
      fun S hS => aB rfl (aG rfl rfl (aA rfl) (aD hS rfl) c86 (aS (aA rfl) (aC hS rfl) dQ)),
      fun S hS => aB rfl (aG rfl rfl (aA rfl) (aD hS rfl) c86 (aU (aA rfl) (aC hS rfl) (i := 1) rfl rfl aZ)),
      fun S hS => aB rfl (aG rfl rfl (aA rfl) (aD hS rfl) c86 (aE (v := .d (.sl 1 (r9.1.map aO))) (aA rfl) (aC hS rfl) rfl)),
      fun S hS => aB rfl (aG rfl rfl (aA rfl) (aD hS rfl) c86 (aS (aA rfl) (aC hS rfl) dE)),
      fun S hS => aB rfl (aG rfl rfl (aA rfl) (aD hS rfl) c86 (aU (aA rfl) (aC hS rfl) (i := 1) rfl rfl aZ)),
      fun S hS => aB rfl (aG rfl rfl (aA rfl) (aD hS rfl) c86 (bL (aA rfl) rfl (aC hS rfl) rfl)),
      fun S hS => aB rfl (aG rfl rfl (aA rfl) (aD hS rfl) c86 (bL (aA rfl) (aC hS rfl) rfl rfl)),
      fun S hS => aB rfl (aG rfl rfl (aA rfl) (aD hS rfl) c86 (bA (aA rfl) (aC hS rfl) (aC hS rfl) bP.of (bJ aO h88))),
      fun S hS => aB rfl (aG rfl rfl (aA rfl) (aD hS rfl) c86 (bC (aA rfl) (aC hS rfl) aZ)),
      fun S hS => aB rfl (aG rfl rfl (aA rfl) (aD hS rfl) c86 (bE (aA rfl) (aC hS rfl) (aC hS rfl) rfl)),
      fun S hS => aB rfl (aG rfl rfl (aA rfl) (aD hS rfl) c83 (bO (v := .d (.lit (.bool ((!decide (x24.Two = x87)))))) (aA rfl) (aC hS rfl) c86 (aC hS rfl) rfl)),
      fun S hS => aB rfl (aR rfl (bH (v := .d (.lit (.bool (!decide (x24.Two = x87))))) (aA rfl) (aC hS rfl) c83 (aC hS rfl) rfl)),
      fun S hS => aB rfl (aR rfl (aE (v := .d (.lit (.bool (!decide (x24.Two = x87))))) (aA rfl) (aC hS rfl) rfl)),
      fun S hS => aB rfl (aM rfl rfl (aA rfl) rfl (aA rfl) (aD hS rfl) c91),
      fun S hS => aB rfl (aM rfl rfl (aA rfl) rfl (aA rfl) (aD hS rfl) c91),
      fun S hS => aB rfl (aM rfl rfl (aA rfl) rfl (aA rfl) (aD hS rfl) c91),
      fun S hS => aB rfl (aM rfl rfl (aA rfl) rfl (aA rfl) (aD hS rfl) c91),
      fun S hS => aB rfl (aM rfl rfl (aA rfl) rfl (aA rfl) (aD hS rfl) c91),
      fun S hS => aB rfl (aM rfl rfl (aA rfl) rfl (aA rfl) (aD hS rfl) c91),
      fun S hS => aB rfl (bR rfl rfl (aA rfl) rfl (aA rfl) (aD hS rfl)),
      fun S hS => aB rfl (bR rfl rfl (aA rfl) rfl (aA rfl) (aD hS rfl)),
      fun S hS => aB rfl (bR rfl rfl (aA rfl) rfl (aA rfl) (aD hS rfl)),
      fun S hS => aB rfl (bR rfl rfl (aA rfl) rfl (aA rfl) (aD hS rfl)),
      fun S hS => aB rfl (bR rfl rfl (aA rfl) rfl (aA rfl) (aD hS rfl)),
      fun S hS => aB rfl (bR rfl rfl (aA rfl) rfl (aA rfl) (aD hS rfl)),
      fun S hS => aB rfl (bR rfl rfl (aA rfl) rfl (aA rfl) (aD hS rfl)),
      fun S hS => aB rfl (bR rfl rfl (aA rfl) rfl (aA rfl) (aD hS rfl)),
      fun S hS => aB rfl (bR rfl rfl (aA rfl) rfl (aA rfl) (aD hS rfl)),
      fun S hS => aB rfl (bR rfl rfl (aA rfl) rfl (aA rfl) (aD hS rfl)),
      fun S hS => aB rfl (bR rfl rfl (aA rfl) rfl (aA rfl) (aD hS rfl)),
      fun S hS => aB rfl (bR rfl rfl (aA rfl) rfl (aA rfl) (aD hS rfl)),
      fun S hS => aB rfl (bR rfl rfl (aA rfl) rfl (aA rfl) (aD hS rfl)),
      fun S hS => aB rfl (bR rfl rfl (aA rfl) rfl (aA rfl) (aD hS rfl)),
      fun S hS => aB rfl (aM rfl rfl (aA rfl) rfl (aA rfl) (aD hS rfl) c91),
      fun S hS => aB rfl (aR rfl (bO (v := .d (.lit (.bool true))) (aA rfl) (aC hS rfl) c91 rfl rfl)), trivial⟩⟩
             · exact cL (aX rfl (bF ⟨rfl, rfl, rfl, rfl, rfl, rfl, rfl, rfl, trivial⟩))
            ·have h90 := bB c91 h90
             obtain ⟨x92, h93, h90⟩ := bind_some h90
             obtain ⟨b94, h95, h90⟩ := bind_some h90
             refine bM (!decide (x92 = (-2))) (fun c96 => ?_) (fun c96 => ?_)
             ·have h95 := bD c96 h95
              obtain ⟨x97, h98, h95⟩ := bind_some h95
              obtain ⟨x99, h100, h95⟩ := bind_some h95
              obtain ⟨x101, h102, h95⟩ := bind_some h95
              have h95 := Option.some.inj h95
              subst h95
              have h90 := Option.some.inj h90
              subst h90
              refine ⟨[(85, 0, .bp b26 0 2), (86, 1, .d (.lit (.int .i64 x24.One))), (87, 2, .d (.lit (.bool ((!decide (x24.One = (-2))))))), (88, 3, .d (.lit (.bool ((!decide (x24.One = (-2))))))), (89, 4, .tup []), (90, 5, .tup []), (91, 6, .tup []), (92, 7, .tup []), (93, 8, .tup []), (94, 9, .tup []), (95, 10, .tup []), (96, 11, .tup []), (97, 12, .tup []), (98, 13, .d (.lit (.bool false))), (99, 14, .d (.lit (.bool (false)))), (100, 15, .bp b26 0 3), (101, 16, .d (.lit (.int .i64 x24.Two))), (102, 17, .d (.lit (.bool ((!decide (x24.Two = (-2))))))), (103, 18, .d (.lit (.bool ((!decide (x24.Two = (-2))))))), (104, 19, .bp b26 0 3), (105, 20, .d (.lit (.int .i64 x24.Two))), (106, 21, .d (.sl 1 (r9.1.map aO))), (107, 22, .bp b26 0 1), (108, 23, .d (.lit (.int .i64 x24.Place))), (109, 24, .d (.lit (.int .i64 ((w64 (2 * x24.Place)))))), (110, 25, .d (.lit (.int .i64 ((w64 ((w64 (2 * x24.Place)) + 1)))))), (111, 26, .cp [.lit (.int .i64 x87)]), (112, 27, .d (.lit (.int .i64 x87))), (113, 28, .d (.lit (.bool ((!decide (x24.Two = x87)))))), (114, 29, .d (.lit (.bool ((!decide (x24.Two = x87)))))), (115, 30, .d (.lit (.bool (!decide (x24.Two = x87))))), (116, 31, .d (.lit (.bool (!decide (x24.Two = x87))))), (117, 32, .d (.sl 1 (r18.2.1.map aO))), (118, 33, .d (.lit (.int .i64 i_0_21))), (119, 34, .cp [.lit (.int .i64 x92)]), (120, 35, .d (.lit (.int .i64 x92))), (121, 36, .d (.lit (.bool ((!decide (x92 = (-2))))))), (122, 37, .d (.lit (.bool ((!decide (x92 = (-2))))))), (123, 38, .d (.sl 1 (r18.2.1.map aO))), (124, 39, .d (.lit (.int .i64 i_0_21))), (125, 40, .cp [.lit (.int .i64 x97)]), (126, 41, .d (.lit (.int .i64 x97))), (127, 42, .d (.sl 1 (course_2.map cG))), (128, 43, .bp b26 0 0), (129, 44, .d (.lit (.int .i64 x24.Round))), (130, 45, .cp [.sl 1 (x99.map aO)]), (131, 46, .d (.sl 1 (x99.map aO))), (132, 47, .bp b26 0 1), (133, 48, .d (.lit (.int .i64 x24.Place))), (134, 49, .cp [.lit (.int .i64 x101)]), (135, 50, .d (.lit (.int .i64 x101))), (136, 51, .d (.lit (.bool ((!decide (x97 = x101)))))), (137, 52, .d (.lit (.bool ((!decide (x97 = x101)))))), (138, 53, .d (.lit (.bool (!decide (x97 = x101)))))], ?_, ?_⟩
              · exact ⟨by kernel_rfl, by kernel_rfl, by kernel_rfl, by kernel_rfl, by kernel_rfl, [([], []), ([0], []), ([1], []), ([2], []), ([3], []), ([3, 4], []), ([3], []), ([3], []), ([3, 7], []), ([3, 8], []), ([3, 6, 9], []), ([3, 10], []), ([3, 5, 11], []), ([3, 12], []), ([13], []), ([14], []), ([14, 15], []), ([14, 16], []), ([14, 17], []), ([18], []), ([18, 19], []), ([18], []), ([18], []), ([18, 22], []), ([18, 23], []), ([18, 24], []), ([18, 21, 25], []), ([18, 26], []), ([18, 20, 27], []), ([14, 18, 28], []), ([14, 29], []), ([30], []), ([31], []), ([31], []), ([31, 32, 33], []), ([31, 34], []), ([31, 35], []), ([31, 36], []), ([37], []), ([37], []), ([37, 38, 39], []), ([37, 40], []), ([37], []), ([37], []), ([37, 43], []), ([37, 42, 44], []), ([37, 45], []), ([37], []), ([37, 47], []), ([37, 46, 48], []), ([37, 49], []), ([37, 41, 50], []), ([31, 37, 51], []), ([31, 52], [])], by kernel_rfl, ⟨fun S hS => aB rfl (aR rfl (aS (aA rfl) (aC hS rfl) dL)),
      fun S hS => aB rfl (aR rfl (aU (aA rfl) (aC hS rfl) (i := 1) rfl rfl aZ)),
      fun S hS => aB rfl (aR rfl (bE (aA rfl) (aC hS rfl) rfl rfl)),
      fun S hS => aB rfl (aR rfl (aE (v := .d (.lit (.bool ((!decide (x24.One = (-2))))))) (aA rfl) (aC hS rfl) rfl)),
      fun S hS => aB rfl (aM rfl rfl (aA rfl) rfl (aA rfl) (aD hS rfl) c78),
      fun S hS => aB rfl (aM rfl rfl (aA rfl) rfl (aA rfl) (aD hS rfl) c78),
      fun S hS => aB rfl (aM rfl rfl (aA rfl) rfl (aA rfl) (aD hS rfl) c78),
      fun S hS => aB rfl (aM rfl rfl (aA rfl) rfl (aA rfl) (aD hS rfl) c78),
      fun S hS => aB rfl (aM rfl rfl (aA rfl) rfl (aA rfl) (aD hS rfl) c78),
      fun S hS => aB rfl (aM rfl rfl (aA rfl) rfl (aA rfl) (aD hS rfl) c78),
      fun S hS => aB rfl (aM rfl rfl (aA rfl) rfl (aA rfl) (aD hS rfl) c78),
      fun S hS => aB rfl (aM rfl rfl (aA rfl) rfl (aA rfl) (aD hS rfl) c78),
      fun S hS => aB rfl (aM rfl rfl (aA rfl) rfl (aA rfl) (aD hS rfl) c78),
      fun S hS => aB rfl (aR rfl (bH (v := .d (.lit (.bool false))) (aA rfl) (aC hS rfl) c78 rfl rfl)),
      fun S hS => aB rfl (aR rfl (aE (v := .d (.lit (.bool (false)))) (aA rfl) (aC hS rfl) rfl)),
      fun S hS => aB rfl (aG rfl rfl (aA rfl) (aD hS rfl) c83 (aS (aA rfl) (aC hS rfl) dQ)),
      fun S hS => aB rfl (aG rfl rfl (aA rfl) (aD hS rfl) c83 (aU (aA rfl) (aC hS rfl) (i := 1) rfl rfl aZ)),
      fun S hS => aB rfl (aG rfl rfl (aA rfl) (aD hS rfl) c83 (bE (aA rfl) (aC hS rfl) rfl rfl)),
      fun S hS => aB rfl (aG rfl rfl (aA rfl) (aD hS rfl) c83 (aE (v := .d (.lit (.bool ((!decide (x24.Two = (-2))))))) (aA rfl) (aC hS rfl) rfl)),
      fun S hS => aB rfl (aG rfl rfl (aA rfl) (aD hS rfl) c86 (aS (aA rfl) (aC hS rfl) dQ)),
      fun S hS => aB rfl (aG rfl rfl (aA rfl) (aD hS rfl) c86 (aU (aA rfl) (aC hS rfl) (i := 1) rfl rfl aZ)),
      fun S hS => aB rfl (aG rfl rfl (aA rfl) (aD hS rfl) c86 (aE (v := .d (.sl 1 (r9.1.map aO))) (aA rfl) (aC hS rfl) rfl)),
      fun S hS => aB rfl (aG rfl rfl (aA rfl) (aD hS rfl) c86 (aS (aA rfl) (aC hS rfl) dE)),
      fun S hS => aB rfl (aG rfl rfl (aA rfl) (aD hS rfl) c86 (aU (aA rfl) (aC hS rfl) (i := 1) rfl rfl aZ)),
      fun S hS => aB rfl (aG rfl rfl (aA rfl) (aD hS rfl) c86 (bL (aA rfl) rfl (aC hS rfl) rfl)),
      fun S hS => aB rfl (aG rfl rfl (aA rfl) (aD hS rfl) c86 (bL (aA rfl) (aC hS rfl) rfl rfl)),
      fun S hS => aB rfl (aG rfl rfl (aA rfl) (aD hS rfl) c86 (bA (aA rfl) (aC hS rfl) (aC hS rfl) bP.of (bJ aO h88))),
      fun S hS => aB rfl (aG rfl rfl (aA rfl) (aD hS rfl) c86 (bC (aA rfl) (aC hS rfl) aZ)),
      fun S hS => aB rfl (aG rfl rfl (aA rfl) (aD hS rfl) c86 (bE (aA rfl) (aC hS rfl) (aC hS rfl) rfl)),
      fun S hS => aB rfl (aG rfl rfl (aA rfl) (aD hS rfl) c83 (bO (v := .d (.lit (.bool ((!decide (x24.Two = x87)))))) (aA rfl) (aC hS rfl) c86 (aC hS rfl) rfl)),
      fun S hS => aB rfl (aR rfl (bH (v := .d (.lit (.bool (!decide (x24.Two = x87))))) (aA rfl) (aC hS rfl) c83 (aC hS rfl) rfl)),
      fun S hS => aB rfl (aR rfl (aE (v := .d (.lit (.bool (!decide (x24.Two = x87))))) (aA rfl) (aC hS rfl) rfl)),
      fun S hS => aB rfl (aG rfl rfl (aA rfl) (aD hS rfl) c91 (aE (v := .d (.sl 1 (r18.2.1.map aO))) (aA rfl) (aC hS rfl) rfl)),
      fun S hS => aB rfl (aG rfl rfl (aA rfl) (aD hS rfl) c91 (aE (v := .d (.lit (.int .i64 i_0_21))) (aA rfl) (aC hS rfl) rfl)),
      fun S hS => aB rfl (aG rfl rfl (aA rfl) (aD hS rfl) c91 (bA (aA rfl) (aC hS rfl) (aC hS rfl) bP.of (bJ aO h93))),
      fun S hS => aB rfl (aG rfl rfl (aA rfl) (aD hS rfl) c91 (bC (aA rfl) (aC hS rfl) aZ)),
      fun S hS => aB rfl (aG rfl rfl (aA rfl) (aD hS rfl) c91 (bE (aA rfl) (aC hS rfl) rfl rfl)),
      fun S hS => aB rfl (aG rfl rfl (aA rfl) (aD hS rfl) c91 (aE (v := .d (.lit (.bool ((!decide (x92 = (-2))))))) (aA rfl) (aC hS rfl) rfl)),
      fun S hS => aB rfl (aG rfl rfl (aA rfl) (aD hS rfl) c96 (aE (v := .d (.sl 1 (r18.2.1.map aO))) (aA rfl) (aC hS rfl) rfl)),
      fun S hS => aB rfl (aG rfl rfl (aA rfl) (aD hS rfl) c96 (aE (v := .d (.lit (.int .i64 i_0_21))) (aA rfl) (aC hS rfl) rfl)),
      fun S hS => aB rfl (aG rfl rfl (aA rfl) (aD hS rfl) c96 (bA (aA rfl) (aC hS rfl) (aC hS rfl) bP.of (bJ aO h98))),
      fun S hS => aB rfl (aG rfl rfl (aA rfl) (aD hS rfl) c96 (bC (aA rfl) (aC hS rfl) aZ)),
      fun S hS => aB rfl (aG rfl rfl (aA rfl) (aD hS rfl) c96 (aE (v := .d (.sl 1 (course_2.map cG))) (aA rfl) (aC hS rfl) rfl)),
      fun S hS => aB rfl (aG rfl rfl (aA rfl) (aD hS rfl) c96 (aS (aA rfl) (aC hS rfl) iT)),
      fun S hS => aB rfl (aG rfl rfl (aA rfl) (aD hS rfl) c96 (aU (aA rfl) (aC hS rfl) (i := 1) rfl rfl aZ)),
      fun S hS => aB rfl (aG rfl rfl (aA rfl) (aD hS rfl) c96 (bA (aA rfl) (aC hS rfl) (aC hS rfl) jG.of (bJ cG h100))),
      fun S hS => aB rfl (aG rfl rfl (aA rfl) (aD hS rfl) c96 (bC (aA rfl) (aC hS rfl) cU)),
      fun S hS => aB rfl (aG rfl rfl (aA rfl) (aD hS rfl) c96 (aS (aA rfl) (aC hS rfl) dE)),
      fun S hS => aB rfl (aG rfl rfl (aA rfl) (aD hS rfl) c96 (aU (aA rfl) (aC hS rfl) (i := 1) rfl rfl aZ)),
      fun S hS => aB rfl (aG rfl rfl (aA rfl) (aD hS rfl) c96 (bA (aA rfl) (aC hS rfl) (aC hS rfl) bP.of (bJ aO h102))),
      fun S hS => aB rfl (aG rfl rfl (aA rfl) (aD hS rfl) c96 (bC (aA rfl) (aC hS rfl) aZ)),
      fun S hS => aB rfl (aG rfl rfl (aA rfl) (aD hS rfl) c96 (bE (aA rfl) (aC hS rfl) (aC hS rfl) rfl)),
      fun S hS => aB rfl (aG rfl rfl (aA rfl) (aD hS rfl) c91 (bO (v := .d (.lit (.bool ((!decide (x97 = x101)))))) (aA rfl) (aC hS rfl) c96 (aC hS rfl) rfl)),
      fun S hS => aB rfl (aR rfl (bH (v := .d (.lit (.bool (!decide (x97 = x101))))) (aA rfl) (aC hS rfl) c91 (aC hS rfl) rfl)), trivial⟩⟩
              · exact cL (aX rfl (bF ⟨rfl, rfl, rfl, rfl, rfl, rfl, rfl, rfl, trivial⟩))
             ·have h95 := bB c96 h95
              have h95 := Option.some.inj h95
              subst h95
              have h90 := Option.some.inj h90
              subst h90
              refine ⟨[(85, 0, .bp b26 0 2), (86, 1, .d (.lit (.int .i64 x24.One))), (87, 2, .d (.lit (.bool ((!decide (x24.One = (-2))))))), (88, 3, .d (.lit (.bool ((!decide (x24.One = (-2))))))), (89, 4, .tup []), (90, 5, .tup []), (91, 6, .tup []), (92, 7, .tup []), (93, 8, .tup []), (94, 9, .tup []), (95, 10, .tup []), (96, 11, .tup []), (97, 12, .tup []), (98, 13, .d (.lit (.bool false))), (99, 14, .d (.lit (.bool (false)))), (100, 15, .bp b26 0 3), (101, 16, .d (.lit (.int .i64 x24.Two))), (102, 17, .d (.lit (.bool ((!decide (x24.Two = (-2))))))), (103, 18, .d (.lit (.bool ((!decide (x24.Two = (-2))))))), (104, 19, .bp b26 0 3), (105, 20, .d (.lit (.int .i64 x24.Two))), (106, 21, .d (.sl 1 (r9.1.map aO))), (107, 22, .bp b26 0 1), (108, 23, .d (.lit (.int .i64 x24.Place))), (109, 24, .d (.lit (.int .i64 ((w64 (2 * x24.Place)))))), (110, 25, .d (.lit (.int .i64 ((w64 ((w64 (2 * x24.Place)) + 1)))))), (111, 26, .cp [.lit (.int .i64 x87)]), (112, 27, .d (.lit (.int .i64 x87))), (113, 28, .d (.lit (.bool ((!decide (x24.Two = x87)))))), (114, 29, .d (.lit (.bool ((!decide (x24.Two = x87)))))), (115, 30, .d (.lit (.bool (!decide (x24.Two = x87))))), (116, 31, .d (.lit (.bool (!decide (x24.Two = x87))))), (117, 32, .d (.sl 1 (r18.2.1.map aO))), (118, 33, .d (.lit (.int .i64 i_0_21))), (119, 34, .cp [.lit (.int .i64 x92)]), (120, 35, .d (.lit (.int .i64 x92))), (121, 36, .d (.lit (.bool ((!decide (x92 = (-2))))))), (122, 37, .d (.lit (.bool ((!decide (x92 = (-2))))))), (123, 38, .tup []), (124, 39, .tup []), (125, 40, .tup []), (126, 41, .tup []), (127, 42, .tup []), (128, 43, .tup []), (129, 44, .tup []), (130, 45, .tup []), (131, 46, .tup []), (132, 47, .tup []), (133, 48, .tup []), (134, 49, .tup []), (135, 50, .tup []), (136, 51, .tup []), (137, 52, .d (.lit (.bool false))), (138, 53, .d (.lit (.bool (false))))], ?_, ?_⟩
              · exact ⟨by kernel_rfl, by kernel_rfl, by kernel_rfl, by kernel_rfl, by kernel_rfl, [([], []), ([0], []), ([1], []), ([2], []), ([3], []), ([3, 4], []), ([3], []), ([3], []), ([3, 7], []), ([3, 8], []), ([3, 6, 9], []), ([3, 10], []), ([3, 5, 11], []), ([3, 12], []), ([13], []), ([14], []), ([14, 15], []), ([14, 16], []), ([14, 17], []), ([18], []), ([18, 19], []), ([18], []), ([18], []), ([18, 22], []), ([18, 23], []), ([18, 24], []), ([18, 21, 25], []), ([18, 26], []), ([18, 20, 27], []), ([14, 18, 28], []), ([14, 29], []), ([30], []), ([31], []), ([31], []), ([31, 32, 33], []), ([31, 34], []), ([31, 35], []), ([31, 36], []), ([37], []), ([37], []), ([37, 38, 39], []), ([37, 40], []), ([37], []), ([37], []), ([37, 43], []), ([37, 42, 44], []), ([37, 45], []), ([37], []), ([37, 47], []), ([37, 46, 48], []), ([37, 49], []), ([37, 41, 50], []), ([31, 37, 51], []), ([31, 52], [])], by kernel_rfl, ⟨fun S hS => aB rfl (aR rfl (aS (aA rfl) (aC hS rfl) dL)),
      fun S hS => aB rfl (aR rfl (aU (aA rfl) (aC hS rfl) (i := 1) rfl rfl aZ)),
      fun S hS => aB rfl (aR rfl (bE (aA rfl) (aC hS rfl) rfl rfl)),
      fun S hS => aB rfl (aR rfl (aE (v := .d (.lit (.bool ((!decide (x24.One = (-2))))))) (aA rfl) (aC hS rfl) rfl)),
      fun S hS => aB rfl (aM rfl rfl (aA rfl) rfl (aA rfl) (aD hS rfl) c78),
      fun S hS => aB rfl (aM rfl rfl (aA rfl) rfl (aA rfl) (aD hS rfl) c78),
      fun S hS => aB rfl (aM rfl rfl (aA rfl) rfl (aA rfl) (aD hS rfl) c78),
      fun S hS => aB rfl (aM rfl rfl (aA rfl) rfl (aA rfl) (aD hS rfl) c78),
      fun S hS => aB rfl (aM rfl rfl (aA rfl) rfl (aA rfl) (aD hS rfl) c78),
      fun S hS => aB rfl (aM rfl rfl (aA rfl) rfl (aA rfl) (aD hS rfl) c78),
      fun S hS => aB rfl (aM rfl rfl (aA rfl) rfl (aA rfl) (aD hS rfl) c78),
      fun S hS => aB rfl (aM rfl rfl (aA rfl) rfl (aA rfl) (aD hS rfl) c78),
      fun S hS => aB rfl (aM rfl rfl (aA rfl) rfl (aA rfl) (aD hS rfl) c78),
      fun S hS => aB rfl (aR rfl (bH (v := .d (.lit (.bool false))) (aA rfl) (aC hS rfl) c78 rfl rfl)),
      fun S hS => aB rfl (aR rfl (aE (v := .d (.lit (.bool (false)))) (aA rfl) (aC hS rfl) rfl)),
      fun S hS => aB rfl (aG rfl rfl (aA rfl) (aD hS rfl) c83 (aS (aA rfl) (aC hS rfl) dQ)),
      fun S hS => aB rfl (aG rfl rfl (aA rfl) (aD hS rfl) c83 (aU (aA rfl) (aC hS rfl) (i := 1) rfl rfl aZ)),
      fun S hS => aB rfl (aG rfl rfl (aA rfl) (aD hS rfl) c83 (bE (aA rfl) (aC hS rfl) rfl rfl)),
      fun S hS => aB rfl (aG rfl rfl (aA rfl) (aD hS rfl) c83 (aE (v := .d (.lit (.bool ((!decide (x24.Two = (-2))))))) (aA rfl) (aC hS rfl) rfl)),
      fun S hS => aB rfl (aG rfl rfl (aA rfl) (aD hS rfl) c86 (aS (aA rfl) (aC hS rfl) dQ)),
      fun S hS => aB rfl (aG rfl rfl (aA rfl) (aD hS rfl) c86 (aU (aA rfl) (aC hS rfl) (i := 1) rfl rfl aZ)),
      fun S hS => aB rfl (aG rfl rfl (aA rfl) (aD hS rfl) c86 (aE (v := .d (.sl 1 (r9.1.map aO))) (aA rfl) (aC hS rfl) rfl)),
      fun S hS => aB rfl (aG rfl rfl (aA rfl) (aD hS rfl) c86 (aS (aA rfl) (aC hS rfl) dE)),
      fun S hS => aB rfl (aG rfl rfl (aA rfl) (aD hS rfl) c86 (aU (aA rfl) (aC hS rfl) (i := 1) rfl rfl aZ)),
      fun S hS => aB rfl (aG rfl rfl (aA rfl) (aD hS rfl) c86 (bL (aA rfl) rfl (aC hS rfl) rfl)),
      fun S hS => aB rfl (aG rfl rfl (aA rfl) (aD hS rfl) c86 (bL (aA rfl) (aC hS rfl) rfl rfl)),
      fun S hS => aB rfl (aG rfl rfl (aA rfl) (aD hS rfl) c86 (bA (aA rfl) (aC hS rfl) (aC hS rfl) bP.of (bJ aO h88))),
      fun S hS => aB rfl (aG rfl rfl (aA rfl) (aD hS rfl) c86 (bC (aA rfl) (aC hS rfl) aZ)),
      fun S hS => aB rfl (aG rfl rfl (aA rfl) (aD hS rfl) c86 (bE (aA rfl) (aC hS rfl) (aC hS rfl) rfl)),
      fun S hS => aB rfl (aG rfl rfl (aA rfl) (aD hS rfl) c83 (bO (v := .d (.lit (.bool ((!decide (x24.Two = x87)))))) (aA rfl) (aC hS rfl) c86 (aC hS rfl) rfl)),
      fun S hS => aB rfl (aR rfl (bH (v := .d (.lit (.bool (!decide (x24.Two = x87))))) (aA rfl) (aC hS rfl) c83 (aC hS rfl) rfl)),
      fun S hS => aB rfl (aR rfl (aE (v := .d (.lit (.bool (!decide (x24.Two = x87))))) (aA rfl) (aC hS rfl) rfl)),
      fun S hS => aB rfl (aG rfl rfl (aA rfl) (aD hS rfl) c91 (aE (v := .d (.sl 1 (r18.2.1.map aO))) (aA rfl) (aC hS rfl) rfl)),
      fun S hS => aB rfl (aG rfl rfl (aA rfl) (aD hS rfl) c91 (aE (v := .d (.lit (.int .i64 i_0_21))) (aA rfl) (aC hS rfl) rfl)),
      fun S hS => aB rfl (aG rfl rfl (aA rfl) (aD hS rfl) c91 (bA (aA rfl) (aC hS rfl) (aC hS rfl) bP.of (bJ aO h93))),
      fun S hS => aB rfl (aG rfl rfl (aA rfl) (aD hS rfl) c91 (bC (aA rfl) (aC hS rfl) aZ)),
      fun S hS => aB rfl (aG rfl rfl (aA rfl) (aD hS rfl) c91 (bE (aA rfl) (aC hS rfl) rfl rfl)),
      fun S hS => aB rfl (aG rfl rfl (aA rfl) (aD hS rfl) c91 (aE (v := .d (.lit (.bool ((!decide (x92 = (-2))))))) (aA rfl) (aC hS rfl) rfl)),
      fun S hS => aB rfl (aM rfl rfl (aA rfl) rfl (aA rfl) (aD hS rfl) c96),
      fun S hS => aB rfl (aM rfl rfl (aA rfl) rfl (aA rfl) (aD hS rfl) c96),
      fun S hS => aB rfl (aM rfl rfl (aA rfl) rfl (aA rfl) (aD hS rfl) c96),
      fun S hS => aB rfl (aM rfl rfl (aA rfl) rfl (aA rfl) (aD hS rfl) c96),
      fun S hS => aB rfl (aM rfl rfl (aA rfl) rfl (aA rfl) (aD hS rfl) c96),
      fun S hS => aB rfl (aM rfl rfl (aA rfl) rfl (aA rfl) (aD hS rfl) c96),
      fun S hS => aB rfl (aM rfl rfl (aA rfl) rfl (aA rfl) (aD hS rfl) c96),
      fun S hS => aB rfl (aM rfl rfl (aA rfl) rfl (aA rfl) (aD hS rfl) c96),
      fun S hS => aB rfl (aM rfl rfl (aA rfl) rfl (aA rfl) (aD hS rfl) c96),
      fun S hS => aB rfl (aM rfl rfl (aA rfl) rfl (aA rfl) (aD hS rfl) c96),
      fun S hS => aB rfl (aM rfl rfl (aA rfl) rfl (aA rfl) (aD hS rfl) c96),
      fun S hS => aB rfl (aM rfl rfl (aA rfl) rfl (aA rfl) (aD hS rfl) c96),
      fun S hS => aB rfl (aM rfl rfl (aA rfl) rfl (aA rfl) (aD hS rfl) c96),
      fun S hS => aB rfl (aM rfl rfl (aA rfl) rfl (aA rfl) (aD hS rfl) c96),
      fun S hS => aB rfl (aG rfl rfl (aA rfl) (aD hS rfl) c91 (bH (v := .d (.lit (.bool false))) (aA rfl) (aC hS rfl) c96 rfl rfl)),
      fun S hS => aB rfl (aR rfl (bH (v := .d (.lit (.bool (false)))) (aA rfl) (aC hS rfl) c91 (aC hS rfl) rfl)), trivial⟩⟩
              · exact cL (aX rfl (bF ⟨rfl, rfl, rfl, rfl, rfl, rfl, rfl, rfl, trivial⟩))
           ·have h85 := bB c86 h85
            have h85 := Option.some.inj h85
            subst h85
            have h82 := Option.some.inj h82
            subst h82
            have c91 : false = false := rfl
            have h90 := bB c91 h90
            obtain ⟨x92, h93, h90⟩ := bind_some h90
            obtain ⟨b94, h95, h90⟩ := bind_some h90
            refine bM (!decide (x92 = (-2))) (fun c96 => ?_) (fun c96 => ?_)
            ·have h95 := bD c96 h95
             obtain ⟨x97, h98, h95⟩ := bind_some h95
             obtain ⟨x99, h100, h95⟩ := bind_some h95
             obtain ⟨x101, h102, h95⟩ := bind_some h95
             have h95 := Option.some.inj h95
             subst h95
             have h90 := Option.some.inj h90
             subst h90
             refine ⟨[(85, 0, .bp b26 0 2), (86, 1, .d (.lit (.int .i64 x24.One))), (87, 2, .d (.lit (.bool ((!decide (x24.One = (-2))))))), (88, 3, .d (.lit (.bool ((!decide (x24.One = (-2))))))), (89, 4, .tup []), (90, 5, .tup []), (91, 6, .tup []), (92, 7, .tup []), (93, 8, .tup []), (94, 9, .tup []), (95, 10, .tup []), (96, 11, .tup []), (97, 12, .tup []), (98, 13, .d (.lit (.bool false))), (99, 14, .d (.lit (.bool (false)))), (100, 15, .bp b26 0 3), (101, 16, .d (.lit (.int .i64 x24.Two))), (102, 17, .d (.lit (.bool ((!decide (x24.Two = (-2))))))), (103, 18, .d (.lit (.bool ((!decide (x24.Two = (-2))))))), (104, 19, .tup []), (105, 20, .tup []), (106, 21, .tup []), (107, 22, .tup []), (108, 23, .tup []), (109, 24, .tup []), (110, 25, .tup []), (111, 26, .tup []), (112, 27, .tup []), (113, 28, .tup []), (114, 29, .d (.lit (.bool false))), (115, 30, .d (.lit (.bool (false)))), (116, 31, .d (.lit (.bool (false)))), (117, 32, .d (.sl 1 (r18.2.1.map aO))), (118, 33, .d (.lit (.int .i64 i_0_21))), (119, 34, .cp [.lit (.int .i64 x92)]), (120, 35, .d (.lit (.int .i64 x92))), (121, 36, .d (.lit (.bool ((!decide (x92 = (-2))))))), (122, 37, .d (.lit (.bool ((!decide (x92 = (-2))))))), (123, 38, .d (.sl 1 (r18.2.1.map aO))), (124, 39, .d (.lit (.int .i64 i_0_21))), (125, 40, .cp [.lit (.int .i64 x97)]), (126, 41, .d (.lit (.int .i64 x97))), (127, 42, .d (.sl 1 (course_2.map cG))), (128, 43, .bp b26 0 0), (129, 44, .d (.lit (.int .i64 x24.Round))), (130, 45, .cp [.sl 1 (x99.map aO)]), (131, 46, .d (.sl 1 (x99.map aO))), (132, 47, .bp b26 0 1), (133, 48, .d (.lit (.int .i64 x24.Place))), (134, 49, .cp [.lit (.int .i64 x101)]), (135, 50, .d (.lit (.int .i64 x101))), (136, 51, .d (.lit (.bool ((!decide (x97 = x101)))))), (137, 52, .d (.lit (.bool ((!decide (x97 = x101)))))), (138, 53, .d (.lit (.bool (!decide (x97 = x101)))))], ?_, ?_⟩
             · exact ⟨by kernel_rfl, by kernel_rfl, by kernel_rfl, by kernel_rfl, by kernel_rfl, [([], []), ([0], []), ([1], []), ([2], []), ([3], []), ([3, 4], []), ([3], []), ([3], []), ([3, 7], []), ([3, 8], []), ([3, 6, 9], []), ([3, 10], []), ([3, 5, 11], []), ([3, 12], []), ([13], []), ([14], []), ([14, 15], []), ([14, 16], []), ([14, 17], []), ([18], []), ([18, 19], []), ([18], []), ([18], []), ([18, 22], []), ([18, 23], []), ([18, 24], []), ([18, 21, 25], []), ([18, 26], []), ([18, 20, 27], []), ([14, 18, 28], []), ([14, 29], []), ([30], []), ([31], []), ([31], []), ([31, 32, 33], []), ([31, 34], []), ([31, 35], []), ([31, 36], []), ([37], []), ([37], []), ([37, 38, 39], []), ([37, 40], []), ([37], []), ([37], []), ([37, 43], []), ([37, 42, 44], []), ([37, 45], []), ([37], []), ([37, 47], []), ([37, 46, 48], []), ([37, 49], []), ([37, 41, 50], []), ([31, 37, 51], []), ([31, 52], [])], by kernel_rfl, ⟨fun S hS => aB rfl (aR rfl (aS (aA rfl) (aC hS rfl) dL)),
      fun S hS => aB rfl (aR rfl (aU (aA rfl) (aC hS rfl) (i := 1) rfl rfl aZ)),
      fun S hS => aB rfl (aR rfl (bE (aA rfl) (aC hS rfl) rfl rfl)),
      fun S hS => aB rfl (aR rfl (aE (v := .d (.lit (.bool ((!decide (x24.One = (-2))))))) (aA rfl) (aC hS rfl) rfl)),
      fun S hS => aB rfl (aM rfl rfl (aA rfl) rfl (aA rfl) (aD hS rfl) c78),
      fun S hS => aB rfl (aM rfl rfl (aA rfl) rfl (aA rfl) (aD hS rfl) c78),
      fun S hS => aB rfl (aM rfl rfl (aA rfl) rfl (aA rfl) (aD hS rfl) c78),
      fun S hS => aB rfl (aM rfl rfl (aA rfl) rfl (aA rfl) (aD hS rfl) c78),
      fun S hS => aB rfl (aM rfl rfl (aA rfl) rfl (aA rfl) (aD hS rfl) c78),
      fun S hS => aB rfl (aM rfl rfl (aA rfl) rfl (aA rfl) (aD hS rfl) c78),
      fun S hS => aB rfl (aM rfl rfl (aA rfl) rfl (aA rfl) (aD hS rfl) c78),
      fun S hS => aB rfl (aM rfl rfl (aA rfl) rfl (aA rfl) (aD hS rfl) c78),
      fun S hS => aB rfl (aM rfl rfl (aA rfl) rfl (aA rfl) (aD hS rfl) c78),
      fun S hS => aB rfl (aR rfl (bH (v := .d (.lit (.bool false))) (aA rfl) (aC hS rfl) c78 rfl rfl)),
      fun S hS => aB rfl (aR rfl (aE (v := .d (.lit (.bool (false)))) (aA rfl) (aC hS rfl) rfl)),
      fun S hS => aB rfl (aG rfl rfl (aA rfl) (aD hS rfl) c83 (aS (aA rfl) (aC hS rfl) dQ)),
      fun S hS => aB rfl (aG rfl rfl (aA rfl) (aD hS rfl) c83 (aU (aA rfl) (aC hS rfl) (i := 1) rfl rfl aZ)),
      fun S hS => aB rfl (aG rfl rfl (aA rfl) (aD hS rfl) c83 (bE (aA rfl) (aC hS rfl) rfl rfl)),
      fun S hS => aB rfl (aG rfl rfl (aA rfl) (aD hS rfl) c83 (aE (v := .d (.lit (.bool ((!decide (x24.Two = (-2))))))) (aA rfl) (aC hS rfl) rfl)),
      fun S hS => aB rfl (aM rfl rfl (aA rfl) rfl (aA rfl) (aD hS rfl) c86),
      fun S hS => aB rfl (aM rfl rfl (aA rfl) rfl (aA rfl) (aD hS rfl) c86),
      fun S hS => aB rfl (aM rfl rfl (aA rfl) rfl (aA rfl) (aD hS rfl) c86),
      fun S hS => aB rfl (aM rfl rfl (aA rfl) rfl (aA rfl) (aD hS rfl) c86),
      fun S hS => aB rfl (aM rfl rfl (aA rfl) rfl (aA rfl) (aD hS rfl) c86),
      fun S hS => aB rfl (aM rfl rfl (aA rfl) rfl (aA rfl) (aD hS rfl) c86),
      fun S hS => aB rfl (aM rfl rfl (aA rfl) rfl (aA rfl) (aD hS rfl) c86),
      fun S hS => aB rfl (aM rfl rfl (aA rfl) rfl (aA rfl) (aD hS rfl) c86),
      fun S hS => aB rfl (aM rfl rfl (aA rfl) rfl (aA rfl) (aD hS rfl) c86),
      fun S hS => aB rfl (aM rfl rfl (aA rfl) rfl (aA rfl) (aD hS rfl) c86),
      fun S hS => aB rfl (aG rfl rfl (aA rfl) (aD hS rfl) c83 (bH (v := .d (.lit (.bool false))) (aA rfl) (aC hS rfl) c86 rfl rfl)),
      fun S hS => aB rfl (aR rfl (bH (v := .d (.lit (.bool (false)))) (aA rfl) (aC hS rfl) c83 (aC hS rfl) rfl)),
      fun S hS => aB rfl (aR rfl (aE (v := .d (.lit (.bool (false)))) (aA rfl) (aC hS rfl) rfl)),
      fun S hS => aB rfl (aG rfl rfl (aA rfl) (aD hS rfl) c91 (aE (v := .d (.sl 1 (r18.2.1.map aO))) (aA rfl) (aC hS rfl) rfl)),
      fun S hS => aB rfl (aG rfl rfl (aA rfl) (aD hS rfl) c91 (aE (v := .d (.lit (.int .i64 i_0_21))) (aA rfl) (aC hS rfl) rfl)),
      fun S hS => aB rfl (aG rfl rfl (aA rfl) (aD hS rfl) c91 (bA (aA rfl) (aC hS rfl) (aC hS rfl) bP.of (bJ aO h93))),
      fun S hS => aB rfl (aG rfl rfl (aA rfl) (aD hS rfl) c91 (bC (aA rfl) (aC hS rfl) aZ)),
      fun S hS => aB rfl (aG rfl rfl (aA rfl) (aD hS rfl) c91 (bE (aA rfl) (aC hS rfl) rfl rfl)),
      fun S hS => aB rfl (aG rfl rfl (aA rfl) (aD hS rfl) c91 (aE (v := .d (.lit (.bool ((!decide (x92 = (-2))))))) (aA rfl) (aC hS rfl) rfl)),
      fun S hS => aB rfl (aG rfl rfl (aA rfl) (aD hS rfl) c96 (aE (v := .d (.sl 1 (r18.2.1.map aO))) (aA rfl) (aC hS rfl) rfl)),
      fun S hS => aB rfl (aG rfl rfl (aA rfl) (aD hS rfl) c96 (aE (v := .d (.lit (.int .i64 i_0_21))) (aA rfl) (aC hS rfl) rfl)),
      fun S hS => aB rfl (aG rfl rfl (aA rfl) (aD hS rfl) c96 (bA (aA rfl) (aC hS rfl) (aC hS rfl) bP.of (bJ aO h98))),
      fun S hS => aB rfl (aG rfl rfl (aA rfl) (aD hS rfl) c96 (bC (aA rfl) (aC hS rfl) aZ)),
      fun S hS => aB rfl (aG rfl rfl (aA rfl) (aD hS rfl) c96 (aE (v := .d (.sl 1 (course_2.map cG))) (aA rfl) (aC hS rfl) rfl)),
      fun S hS => aB rfl (aG rfl rfl (aA rfl) (aD hS rfl) c96 (aS (aA rfl) (aC hS rfl) iT)),
      fun S hS => aB rfl (aG rfl rfl (aA rfl) (aD hS rfl) c96 (aU (aA rfl) (aC hS rfl) (i := 1) rfl rfl aZ)),
      fun S hS => aB rfl (aG rfl rfl (aA rfl) (aD hS rfl) c96 (bA (aA rfl) (aC hS rfl) (aC hS rfl) jG.of (bJ cG h100))),
      fun S hS => aB rfl (aG rfl rfl (aA rfl) (aD hS rfl) c96 (bC (aA rfl) (aC hS rfl) cU)),
      fun S hS => aB rfl (aG rfl rfl (aA rfl) (aD hS rfl) c96 (aS (aA rfl) (aC hS rfl) dE)),
      fun S hS => aB rfl (aG rfl rfl (aA rfl) (aD hS rfl) c96 (aU (aA rfl) (aC hS rfl) (i := 1) rfl rfl aZ)),
      fun S hS => aB rfl (aG rfl rfl (aA rfl) (aD hS rfl) c96 (bA (aA rfl) (aC hS rfl) (aC hS rfl) bP.of (bJ aO h102))),
      fun S hS => aB rfl (aG rfl rfl (aA rfl) (aD hS rfl) c96 (bC (aA rfl) (aC hS rfl) aZ)),
      fun S hS => aB rfl (aG rfl rfl (aA rfl) (aD hS rfl) c96 (bE (aA rfl) (aC hS rfl) (aC hS rfl) rfl)),
      fun S hS => aB rfl (aG rfl rfl (aA rfl) (aD hS rfl) c91 (bO (v := .d (.lit (.bool ((!decide (x97 = x101)))))) (aA rfl) (aC hS rfl) c96 (aC hS rfl) rfl)),
      fun S hS => aB rfl (aR rfl (bH (v := .d (.lit (.bool (!decide (x97 = x101))))) (aA rfl) (aC hS rfl) c91 (aC hS rfl) rfl)), trivial⟩⟩
             · exact cL (aX rfl (bF ⟨rfl, rfl, rfl, rfl, rfl, rfl, rfl, rfl, trivial⟩))
            ·have h95 := bB c96 h95
             have h95 := Option.some.inj h95
             subst h95
             have h90 := Option.some.inj h90
             subst h90
             refine ⟨[(85, 0, .bp b26 0 2), (86, 1, .d (.lit (.int .i64 x24.One))), (87, 2, .d (.lit (.bool ((!decide (x24.One = (-2))))))), (88, 3, .d (.lit (.bool ((!decide (x24.One = (-2))))))), (89, 4, .tup []), (90, 5, .tup []), (91, 6, .tup []), (92, 7, .tup []), (93, 8, .tup []), (94, 9, .tup []), (95, 10, .tup []), (96, 11, .tup []), (97, 12, .tup []), (98, 13, .d (.lit (.bool false))), (99, 14, .d (.lit (.bool (false)))), (100, 15, .bp b26 0 3), (101, 16, .d (.lit (.int .i64 x24.Two))), (102, 17, .d (.lit (.bool ((!decide (x24.Two = (-2))))))), (103, 18, .d (.lit (.bool ((!decide (x24.Two = (-2))))))), (104, 19, .tup []), (105, 20, .tup []), (106, 21, .tup []), (107, 22, .tup []), (108, 23, .tup []), (109, 24, .tup []), (110, 25, .tup []), (111, 26, .tup []), (112, 27, .tup []), (113, 28, .tup []), (114, 29, .d (.lit (.bool false))), (115, 30, .d (.lit (.bool (false)))), (116, 31, .d (.lit (.bool (false)))), (117, 32, .d (.sl 1 (r18.2.1.map aO))), (118, 33, .d (.lit (.int .i64 i_0_21))), (119, 34, .cp [.lit (.int .i64 x92)]), (120, 35, .d (.lit (.int .i64 x92))), (121, 36, .d (.lit (.bool ((!decide (x92 = (-2))))))), (122, 37, .d (.lit (.bool ((!decide (x92 = (-2))))))), (123, 38, .tup []), (124, 39, .tup []), (125, 40, .tup []), (126, 41, .tup []), (127, 42, .tup []), (128, 43, .tup []), (129, 44, .tup []), (130, 45, .tup []), (131, 46, .tup []), (132, 47, .tup []), (133, 48, .tup []), (134, 49, .tup []), (135, 50, .tup []), (136, 51, .tup []), (137, 52, .d (.lit (.bool false))), (138, 53, .d (.lit (.bool (false))))], ?_, ?_⟩
             · exact ⟨by kernel_rfl, by kernel_rfl, by kernel_rfl, by kernel_rfl, by kernel_rfl, [([], []), ([0], []), ([1], []), ([2], []), ([3], []), ([3, 4], []), ([3], []), ([3], []), ([3, 7], []), ([3, 8], []), ([3, 6, 9], []), ([3, 10], []), ([3, 5, 11], []), ([3, 12], []), ([13], []), ([14], []), ([14, 15], []), ([14, 16], []), ([14, 17], []), ([18], []), ([18, 19], []), ([18], []), ([18], []), ([18, 22], []), ([18, 23], []), ([18, 24], []), ([18, 21, 25], []), ([18, 26], []), ([18, 20, 27], []), ([14, 18, 28], []), ([14, 29], []), ([30], []), ([31], []), ([31], []), ([31, 32, 33], []), ([31, 34], []), ([31, 35], []), ([31, 36], []), ([37], []), ([37], []), ([37, 38, 39], []), ([37, 40], []), ([37], []), ([37], []), ([37, 43], []), ([37, 42, 44], []), ([37, 45], []), ([37], []), ([37, 47], []), ([37, 46, 48], []), ([37, 49], []), ([37, 41, 50], []), ([31, 37, 51], []), ([31, 52], [])], by kernel_rfl, ⟨fun S hS => aB rfl (aR rfl (aS (aA rfl) (aC hS rfl) dL)),
      fun S hS => aB rfl (aR rfl (aU (aA rfl) (aC hS rfl) (i := 1) rfl rfl aZ)),
      fun S hS => aB rfl (aR rfl (bE (aA rfl) (aC hS rfl) rfl rfl)),
      fun S hS => aB rfl (aR rfl (aE (v := .d (.lit (.bool ((!decide (x24.One = (-2))))))) (aA rfl) (aC hS rfl) rfl)),
      fun S hS => aB rfl (aM rfl rfl (aA rfl) rfl (aA rfl) (aD hS rfl) c78),
      fun S hS => aB rfl (aM rfl rfl (aA rfl) rfl (aA rfl) (aD hS rfl) c78),
      fun S hS => aB rfl (aM rfl rfl (aA rfl) rfl (aA rfl) (aD hS rfl) c78),
      fun S hS => aB rfl (aM rfl rfl (aA rfl) rfl (aA rfl) (aD hS rfl) c78),
      fun S hS => aB rfl (aM rfl rfl (aA rfl) rfl (aA rfl) (aD hS rfl) c78),
      fun S hS => aB rfl (aM rfl rfl (aA rfl) rfl (aA rfl) (aD hS rfl) c78),
      fun S hS => aB rfl (aM rfl rfl (aA rfl) rfl (aA rfl) (aD hS rfl) c78),
      fun S hS => aB rfl (aM rfl rfl (aA rfl) rfl (aA rfl) (aD hS rfl) c78),
      fun S hS => aB rfl (aM rfl rfl (aA rfl) rfl (aA rfl) (aD hS rfl) c78),
      fun S hS => aB rfl (aR rfl (bH (v := .d (.lit (.bool false))) (aA rfl) (aC hS rfl) c78 rfl rfl)),
      fun S hS => aB rfl (aR rfl (aE (v := .d (.lit (.bool (false)))) (aA rfl) (aC hS rfl) rfl)),
      fun S hS => aB rfl (aG rfl rfl (aA rfl) (aD hS rfl) c83 (aS (aA rfl) (aC hS rfl) dQ)),
      fun S hS => aB rfl (aG rfl rfl (aA rfl) (aD hS rfl) c83 (aU (aA rfl) (aC hS rfl) (i := 1) rfl rfl aZ)),
      fun S hS => aB rfl (aG rfl rfl (aA rfl) (aD hS rfl) c83 (bE (aA rfl) (aC hS rfl) rfl rfl)),
      fun S hS => aB rfl (aG rfl rfl (aA rfl) (aD hS rfl) c83 (aE (v := .d (.lit (.bool ((!decide (x24.Two = (-2))))))) (aA rfl) (aC hS rfl) rfl)),
      fun S hS => aB rfl (aM rfl rfl (aA rfl) rfl (aA rfl) (aD hS rfl) c86),
      fun S hS => aB rfl (aM rfl rfl (aA rfl) rfl (aA rfl) (aD hS rfl) c86),
      fun S hS => aB rfl (aM rfl rfl (aA rfl) rfl (aA rfl) (aD hS rfl) c86),
      fun S hS => aB rfl (aM rfl rfl (aA rfl) rfl (aA rfl) (aD hS rfl) c86),
      fun S hS => aB rfl (aM rfl rfl (aA rfl) rfl (aA rfl) (aD hS rfl) c86),
      fun S hS => aB rfl (aM rfl rfl (aA rfl) rfl (aA rfl) (aD hS rfl) c86),
      fun S hS => aB rfl (aM rfl rfl (aA rfl) rfl (aA rfl) (aD hS rfl) c86),
      fun S hS => aB rfl (aM rfl rfl (aA rfl) rfl (aA rfl) (aD hS rfl) c86),
      fun S hS => aB rfl (aM rfl rfl (aA rfl) rfl (aA rfl) (aD hS rfl) c86),
      fun S hS => aB rfl (aM rfl rfl (aA rfl) rfl (aA rfl) (aD hS rfl) c86),
      fun S hS => aB rfl (aG rfl rfl (aA rfl) (aD hS rfl) c83 (bH (v := .d (.lit (.bool false))) (aA rfl) (aC hS rfl) c86 rfl rfl)),
      fun S hS => aB rfl (aR rfl (bH (v := .d (.lit (.bool (false)))) (aA rfl) (aC hS rfl) c83 (aC hS rfl) rfl)),
      fun S hS => aB rfl (aR rfl (aE (v := .d (.lit (.bool (false)))) (aA rfl) (aC hS rfl) rfl)),
      fun S hS => aB rfl (aG rfl rfl (aA rfl) (aD hS rfl) c91 (aE (v := .d (.sl 1 (r18.2.1.map aO))) (aA rfl) (aC hS rfl) rfl)),
      fun S hS => aB rfl (aG rfl rfl (aA rfl) (aD hS rfl) c91 (aE (v := .d (.lit (.int .i64 i_0_21))) (aA rfl) (aC hS rfl) rfl)),
      fun S hS => aB rfl (aG rfl rfl (aA rfl) (aD hS rfl) c91 (bA (aA rfl) (aC hS rfl) (aC hS rfl) bP.of (bJ aO h93))),
      fun S hS => aB rfl (aG rfl rfl (aA rfl) (aD hS rfl) c91 (bC (aA rfl) (aC hS rfl) aZ)),
      fun S hS => aB rfl (aG rfl rfl (aA rfl) (aD hS rfl) c91 (bE (aA rfl) (aC hS rfl) rfl rfl)),
      fun S hS => aB rfl (aG rfl rfl (aA rfl) (aD hS rfl) c91 (aE (v := .d (.lit (.bool ((!decide (x92 = (-2))))))) (aA rfl) (aC hS rfl) rfl)),
      fun S hS => aB rfl (aM rfl rfl (aA rfl) rfl (aA rfl) (aD hS rfl) c96),
      fun S hS => aB rfl (aM rfl rfl (aA rfl) rfl (aA rfl) (aD hS rfl) c96),
      fun S hS => aB rfl (aM rfl rfl (aA rfl) rfl (aA rfl) (aD hS rfl) c96),
      fun S hS => aB rfl (aM rfl rfl (aA rfl) rfl (aA rfl) (aD hS rfl) c96),
      fun S hS => aB rfl (aM rfl rfl (aA rfl) rfl (aA rfl) (aD hS rfl) c96),
      fun S hS => aB rfl (aM rfl rfl (aA rfl) rfl (aA rfl) (aD hS rfl) c96),
      fun S hS => aB rfl (aM rfl rfl (aA rfl) rfl (aA rfl) (aD hS rfl) c96),
      fun S hS => aB rfl (aM rfl rfl (aA rfl) rfl (aA rfl) (aD hS rfl) c96),
      fun S hS => aB rfl (aM rfl rfl (aA rfl) rfl (aA rfl) (aD hS rfl) c96),
      fun S hS => aB rfl (aM rfl rfl (aA rfl) rfl (aA rfl) (aD hS rfl) c96),
      fun S hS => aB rfl (aM rfl rfl (aA rfl) rfl (aA rfl) (aD hS rfl) c96),
      fun S hS => aB rfl (aM rfl rfl (aA rfl) rfl (aA rfl) (aD hS rfl) c96),
      fun S hS => aB rfl (aM rfl rfl (aA rfl) rfl (aA rfl) (aD hS rfl) c96),
      fun S hS => aB rfl (aM rfl rfl (aA rfl) rfl (aA rfl) (aD hS rfl) c96),
      fun S hS => aB rfl (aG rfl rfl (aA rfl) (aD hS rfl) c91 (bH (v := .d (.lit (.bool false))) (aA rfl) (aC hS rfl) c96 rfl rfl)),
      fun S hS => aB rfl (aR rfl (bH (v := .d (.lit (.bool (false)))) (aA rfl) (aC hS rfl) c91 (aC hS rfl) rfl)), trivial⟩⟩
             · exact cL (aX rfl (bF ⟨rfl, rfl, rfl, rfl, rfl, rfl, rfl, rfl, trivial⟩))
         ·refine aJ ?_
          refine bY rfl (fun c103 => ?_) (fun c103 => ?_)
          ·have h := bD c103 h
           refine aK ?_
           refine aH ?_
           refine tr1 rfl (aL (v := .d (.lit (.bool false))) (aA rfl) rfl rfl) ?_
           refine aJ ?_
           have h := Option.some.inj h
           subst h
           refine cR (cQ (cX (l := [6]) ⟨rfl, trivial⟩)) ?_
           exact bV ⟨rfl, _, .one _, rfl, rfl⟩
          ·have h := bB c103 h
           refine bU ?_
           refine aK ?_
           refine aH ?_
           refine tr1 rfl (bW (aA rfl) rfl (i := 0) rfl dX (es := (aY t_0)) rfl rfl) ?_
           refine tr1 rfl (aE (v := .d (.sl 5 (l_1.map aP))) (aA rfl) rfl rfl) ?_
           refine tr1 rfl (aS (aA rfl) rfl iT) ?_
           refine tr1 rfl (aU (aA rfl) rfl (i := 1) rfl rfl aZ) ?_
           refine tr1 rfl (aS (aA rfl) rfl dE) ?_
           refine tr1 rfl (aU (aA rfl) rfl (i := 1) rfl rfl aZ) ?_
           obtain ⟨r104, h105, h⟩ := bind_some h
           refine tr1 rfl (gN (aA rfl) (.func _ _ Try.call15) rfl rfl (sX _ _ _ _ h105)) ?_
           refine tr1 rfl (aE (v := .tup [.d (.sl 1 (r104.1.map aO)), .d (.lit (.int .i64 r104.2))]) (aA rfl) rfl rfl) ?_
           refine tr1 rfl (bX (aA rfl) rfl rfl) ?_
           refine tr1 rfl (bX (aA rfl) rfl rfl) ?_
           refine tr1 rfl (aL (v := .d (.sl 1 (r104.1.map aO))) (aA rfl) rfl rfl) ?_
           refine tr1 rfl (aL (v := .d (.lit (.int .i64 r104.2))) (aA rfl) rfl rfl) ?_
           refine aJ ?_
           refine aK ?_
           refine aH ?_
           refine tr1 rfl (aL (v := .d (.lit (.bool false))) (aA rfl) rfl rfl) ?_
           refine aJ ?_
           refine aK ?_
           refine aK ?_
           refine aH ?_
           refine tr1 rfl (aL (v := .d (.lit (.int .i64 0))) (aA rfl) rfl rfl) ?_
           refine aJ ?_
           refine cF ?_
           refine dJ [1, 2, 3, 7, 9, 10, 12, 13, 15, 16] (fun (s106 : Bool × Int) => [(17, .d (.lit (.bool s106.1))), (18, .d (.lit (.int .i64 s106.2)))]) (fun (s106 : Bool × Int) => [.box b1 0 (aY t_0), .box b26 0 (cC x24)]) (fun (k : Nat) (s106 : Bool × Int) => cM (cB l_1 course_2 r9.1 r18.1 r18.2.1 t_0 k22) l_1 course_2 r9.1 r18.1 r18.2.1 i_0_21 r104.1 r104.2 t_0 x24 k s106.1 s106.2) (fun _ => rfl) (false, 0) h (bK [0, 1] rfl rfl (aX rfl (aX rfl (bF ⟨rfl, rfl, rfl, rfl, rfl, rfl, rfl, rfl, rfl, rfl, trivial⟩)))) ?_
           rintro k107 ⟨found_2_106, k_2_106⟩ h
           simp only [cM] at h
           refine aK ?_
           refine aK ?_
           refine aH ?_
           refine tr1 rfl (aE (v := .d (.lit (.int .i64 k_2_106))) (aA rfl) rfl rfl) ?_
           refine tr1 rfl (aE (v := .d (.sl 1 (r104.1.map aO))) (aA rfl) rfl rfl) ?_
           refine tr1 rfl (dR (aA rfl) rfl bP.of) ?_
           refine tr1 rfl (bE (aA rfl) rfl rfl rfl) ?_
           refine aJ ?_
           refine bY rfl (fun c108 => ?_) (fun c108 => ?_)
           ·have h := bD c108 h
            refine bU ?_
            refine aK ?_
            refine cF ?_
            obtain ⟨b109, h110, h⟩ := bind_some h
            refine dN mix 17 [1, 2, 3, 7, 9, 10, 12, 13, 15, 16, 18] [(171, .d (.lit (.bool b109)))] ?_ ?_
            ·refine bM (found_2_106) (fun c111 => ?_) (fun c111 => ?_)
             ·have h110 := bD c111 h110
              have h110 := Option.some.inj h110
              subst h110
              refine ⟨[(155, 0, .d (.lit (.bool found_2_106))), (156, 1, .d (.lit (.bool found_2_106))), (157, 2, .tup []), (158, 3, .tup []), (159, 4, .tup []), (160, 5, .tup []), (161, 6, .tup []), (162, 7, .tup []), (163, 8, .tup []), (164, 9, .tup []), (165, 10, .tup []), (166, 11, .tup []), (167, 12, .tup []), (168, 13, .tup []), (169, 14, .tup []), (170, 15, .tup []), (171, 16, .d (.lit (.bool true)))], ?_, ?_⟩
              · exact ⟨by kernel_rfl, by kernel_rfl, by kernel_rfl, by kernel_rfl, by kernel_rfl, [([], []), ([0], []), ([1], []), ([1], []), ([1, 2, 3], []), ([1, 4], []), ([1], []), ([1], []), ([1, 7], []), ([1, 6, 8], []), ([1, 9], []), ([1], []), ([1, 11], []), ([1, 10, 12], []), ([1, 13], []), ([1, 5, 14], []), ([1, 15], [])], by kernel_rfl, ⟨fun S hS => aB rfl (aR rfl (aE (v := .d (.lit (.bool found_2_106))) (aA rfl) (aC hS rfl) rfl)),
      fun S hS => aB rfl (aR rfl (aE (v := .d (.lit (.bool found_2_106))) (aA rfl) (aC hS rfl) rfl)),
      fun S hS => aB rfl (aM rfl rfl (aA rfl) rfl (aA rfl) (aD hS rfl) c111),
      fun S hS => aB rfl (aM rfl rfl (aA rfl) rfl (aA rfl) (aD hS rfl) c111),
      fun S hS => aB rfl (aM rfl rfl (aA rfl) rfl (aA rfl) (aD hS rfl) c111),
      fun S hS => aB rfl (aM rfl rfl (aA rfl) rfl (aA rfl) (aD hS rfl) c111),
      fun S hS => aB rfl (aM rfl rfl (aA rfl) rfl (aA rfl) (aD hS rfl) c111),
      fun S hS => aB rfl (aM rfl rfl (aA rfl) rfl (aA rfl) (aD hS rfl) c111),
      fun S hS => aB rfl (aM rfl rfl (aA rfl) rfl (aA rfl) (aD hS rfl) c111),
      fun S hS => aB rfl (aM rfl rfl (aA rfl) rfl (aA rfl) (aD hS rfl) c111),
      fun S hS => aB rfl (aM rfl rfl (aA rfl) rfl (aA rfl) (aD hS rfl) c111),
      fun S hS => aB rfl (aM rfl rfl (aA rfl) rfl (aA rfl) (aD hS rfl) c111),
      fun S hS => aB rfl (aM rfl rfl (aA rfl) rfl (aA rfl) (aD hS rfl) c111),
      fun S hS => aB rfl (aM rfl rfl (aA rfl) rfl (aA rfl) (aD hS rfl) c111),
      fun S hS => aB rfl (aM rfl rfl (aA rfl) rfl (aA rfl) (aD hS rfl) c111),
      fun S hS => aB rfl (aM rfl rfl (aA rfl) rfl (aA rfl) (aD hS rfl) c111),
      fun S hS => aB rfl (aR rfl (bO (v := .d (.lit (.bool true))) (aA rfl) (aC hS rfl) c111 rfl rfl)), trivial⟩⟩
              · exact cL (aX rfl (bF ⟨rfl, rfl, rfl, rfl, rfl, rfl, rfl, rfl, rfl, rfl, rfl, trivial⟩))
             ·have h110 := bB c111 h110
              obtain ⟨x112, h113, h110⟩ := bind_some h110
              obtain ⟨x114, h115, h110⟩ := bind_some h110
              obtain ⟨x116, h117, h110⟩ := bind_some h110
              have h110 := Option.some.inj h110
              subst h110
              refine ⟨[(155, 0, .d (.lit (.bool found_2_106))), (156, 1, .d (.lit (.bool found_2_106))), (157, 2, .d (.sl 1 (r104.1.map aO))), (158, 3, .d (.lit (.int .i64 k_2_106))), (159, 4, .cp [.lit (.int .i64 x112)]), (160, 5, .d (.lit (.int .i64 x112))), (161, 6, .d (.sl 1 (course_2.map cG))), (162, 7, .bp b26 0 0), (163, 8, .d (.lit (.int .i64 x24.Round))), (164, 9, .cp [.sl 1 (x114.map aO)]), (165, 10, .d (.sl 1 (x114.map aO))), (166, 11, .bp b26 0 1), (167, 12, .d (.lit (.int .i64 x24.Place))), (168, 13, .cp [.lit (.int .i64 x116)]), (169, 14, .d (.lit (.int .i64 x116))), (170, 15, .d (.lit (.bool ((decide (x112 = x116)))))), (171, 16, .d (.lit (.bool ((decide (x112 = x116))))))], ?_, ?_⟩
              · exact ⟨by kernel_rfl, by kernel_rfl, by kernel_rfl, by kernel_rfl, by kernel_rfl, [([], []), ([0], []), ([1], []), ([1], []), ([1, 2, 3], []), ([1, 4], []), ([1], []), ([1], []), ([1, 7], []), ([1, 6, 8], []), ([1, 9], []), ([1], []), ([1, 11], []), ([1, 10, 12], []), ([1, 13], []), ([1, 5, 14], []), ([1, 15], [])], by kernel_rfl, ⟨fun S hS => aB rfl (aR rfl (aE (v := .d (.lit (.bool found_2_106))) (aA rfl) (aC hS rfl) rfl)),
      fun S hS => aB rfl (aR rfl (aE (v := .d (.lit (.bool found_2_106))) (aA rfl) (aC hS rfl) rfl)),
      fun S hS => aB rfl (aG rfl rfl (aA rfl) (aD hS rfl) c111 (aE (v := .d (.sl 1 (r104.1.map aO))) (aA rfl) (aC hS rfl) rfl)),
      fun S hS => aB rfl (aG rfl rfl (aA rfl) (aD hS rfl) c111 (aE (v := .d (.lit (.int .i64 k_2_106))) (aA rfl) (aC hS rfl) rfl)),
      fun S hS => aB rfl (aG rfl rfl (aA rfl) (aD hS rfl) c111 (bA (aA rfl) (aC hS rfl) (aC hS rfl) bP.of (bJ aO h113))),
      fun S hS => aB rfl (aG rfl rfl (aA rfl) (aD hS rfl) c111 (bC (aA rfl) (aC hS rfl) aZ)),
      fun S hS => aB rfl (aG rfl rfl (aA rfl) (aD hS rfl) c111 (aE (v := .d (.sl 1 (course_2.map cG))) (aA rfl) (aC hS rfl) rfl)),
      fun S hS => aB rfl (aG rfl rfl (aA rfl) (aD hS rfl) c111 (aS (aA rfl) (aC hS rfl) iT)),
      fun S hS => aB rfl (aG rfl rfl (aA rfl) (aD hS rfl) c111 (aU (aA rfl) (aC hS rfl) (i := 1) rfl rfl aZ)),
      fun S hS => aB rfl (aG rfl rfl (aA rfl) (aD hS rfl) c111 (bA (aA rfl) (aC hS rfl) (aC hS rfl) jG.of (bJ cG h115))),
      fun S hS => aB rfl (aG rfl rfl (aA rfl) (aD hS rfl) c111 (bC (aA rfl) (aC hS rfl) cU)),
      fun S hS => aB rfl (aG rfl rfl (aA rfl) (aD hS rfl) c111 (aS (aA rfl) (aC hS rfl) dE)),
      fun S hS => aB rfl (aG rfl rfl (aA rfl) (aD hS rfl) c111 (aU (aA rfl) (aC hS rfl) (i := 1) rfl rfl aZ)),
      fun S hS => aB rfl (aG rfl rfl (aA rfl) (aD hS rfl) c111 (bA (aA rfl) (aC hS rfl) (aC hS rfl) bP.of (bJ aO h117))),
      fun S hS => aB rfl (aG rfl rfl (aA rfl) (aD hS rfl) c111 (bC (aA rfl) (aC hS rfl) aZ)),
      fun S hS => aB rfl (aG rfl rfl (aA rfl) (aD hS rfl) c111 (bE (aA rfl) (aC hS rfl) (aC hS rfl) rfl)),
      fun S hS => aB rfl (aR rfl (bH (v := .d (.lit (.bool ((decide (x112 = x116)))))) (aA rfl) (aC hS rfl) c111 (aC hS rfl) rfl)), trivial⟩⟩
              · exact cL (aX rfl (bF ⟨rfl, rfl, rfl, rfl, rfl, rfl, rfl, rfl, rfl, rfl, rfl, trivial⟩))
            ·refine tr1 rfl (aL (v := .d (.lit (.bool b109))) (aA rfl) rfl rfl) ?_
             refine eY ?_
             refine aH ?_
             refine tr1 rfl (aE (v := .d (.lit (.int .i64 k_2_106))) (aA rfl) rfl rfl) ?_
             refine tr1 rfl (bL (aA rfl) rfl rfl rfl) ?_
             refine tr1 rfl (aL (v := .d (.lit (.int .i64 ((w64 (k_2_106 + 1)))))) (aA rfl) rfl rfl) ?_
             refine aJ ?_
             exact ⟨(b109, w64 (k_2_106 + 1)), h, bK [0, 1] rfl rfl (aX rfl (aX rfl (bF ⟨rfl, rfl, rfl, rfl, rfl, rfl, rfl, rfl, rfl, rfl, trivial⟩)))⟩
           ·have h := bB c108 h
            refine dB ?_
            refine .inl ⟨rfl, ?_⟩
            simp only [iM] at h
            refine aK ?_
            refine aH ?_
            refine tr1 rfl (aE (v := .d (.lit (.int .i64 r104.2))) (aA rfl) rfl rfl) ?_
            refine tr1 rfl (bE (aA rfl) rfl rfl rfl) ?_
            refine tr1 rfl (aE (v := .d (.lit (.bool ((!decide (r104.2 = 0)))))) (aA rfl) rfl rfl) ?_
            obtain ⟨b118, h119, h⟩ := bind_some h
            refine cK 3 [1, 2, 3, 7, 9, 10, 12] 177 b118 ?_ ?_
            ·refine bM (!decide (r104.2 = 0)) (fun c121 => ?_) (fun c121 => ?_)
             ·have h119 := bD c121 h119
              refine aV rfl rfl (aA rfl) rfl (aA rfl) rfl c121 ?_
              refine aV rfl rfl (aA rfl) rfl (aA rfl) rfl c121 ?_
              refine tr1 rfl (bO (v := .d (.lit (.bool true))) (aA rfl) rfl c121 rfl rfl) ?_
              have h119 := Option.some.inj h119
              subst h119
              refine aJ (bN rfl ⟨rfl, rfl, rfl, rfl, rfl, rfl, rfl, trivial⟩ rfl)
             ·have h119 := bB c121 h119
              refine aQ rfl rfl (aA rfl) rfl c121 (aE (v := .d (.lit (.bool found_2_106))) (aA rfl) rfl rfl) ?_
              refine aQ rfl rfl (aA rfl) rfl c121 (fJ (aA rfl) rfl) ?_
              refine tr1 rfl (bH (v := .d (.lit (.bool (!found_2_106)))) (aA rfl) rfl c121 rfl rfl) ?_
              have h119 := Option.some.inj h119
              subst h119
              refine aJ (bN rfl ⟨rfl, rfl, rfl, rfl, rfl, rfl, rfl, trivial⟩ rfl)
            ·refine aJ ?_
             refine bY rfl (fun c120 => ?_) (fun c120 => ?_)
             ·have h := bD c120 h
              refine aK ?_
              refine aH ?_
              refine tr1 rfl (aL (v := .d (.lit (.bool false))) (aA rfl) rfl rfl) ?_
              refine aJ ?_
              have h := Option.some.inj h
              subst h
              refine cR (cQ (cX (l := [6]) ⟨rfl, trivial⟩)) ?_
              exact bV ⟨rfl, _, .one _, rfl, rfl⟩
             ·have h := bB c120 h
              refine eH ?_
              simp only [iL] at h
              refine aH ?_
              refine tr1 rfl (aE (v := .d (.lit (.int .i64 i_0_21))) (aA rfl) rfl rfl) ?_
              refine tr1 rfl (bL (aA rfl) rfl rfl rfl) ?_
              refine tr1 rfl (aL (v := .d (.lit (.int .i64 ((w64 (i_0_21 + 1)))))) (aA rfl) rfl rfl) ?_
              refine aJ ?_
              exact ⟨(w64 (i_0_21 + 1)), h, bK [0] rfl rfl (aX rfl (bF ⟨rfl, rfl, rfl, rfl, rfl, rfl, trivial⟩))⟩
       ·have h := bB c23 h
        refine dB ?_
        refine .inl ⟨rfl, ?_⟩
        simp only [iK] at h
        refine aK ?_
        refine aK ?_
        refine aH ?_
        refine tr1 rfl (aL (v := .d (.lit (.int .i64 0))) (aA rfl) rfl rfl) ?_
        refine aJ ?_
        refine cF ?_
        refine dJ [1, 2, 3, 7] (fun (s122 : Int) => [(19, .d (.lit (.int .i64 s122)))]) (fun (s122 : Int) => [.box b1 0 (aY t_0)]) (fun (k : Nat) (s122 : Int) => cT l_1 course_2 r9.1 t_0 k s122) (fun _ => rfl) (0) h (bK [0] rfl rfl (aX rfl (bF ⟨rfl, rfl, rfl, rfl, trivial⟩))) ?_
        rintro k123 s_4_122 h
        simp only [cT] at h
        refine aK ?_
        refine aK ?_
        refine aH ?_
        refine tr1 rfl (aE (v := .d (.lit (.int .i64 s_4_122))) (aA rfl) rfl rfl) ?_
        refine tr1 rfl (aE (v := .d (.sl 1 (r9.1.map aO))) (aA rfl) rfl rfl) ?_
        refine tr1 rfl (dR (aA rfl) rfl bP.of) ?_
        refine tr1 rfl (bE (aA rfl) rfl rfl rfl) ?_
        refine aJ ?_
        refine bY rfl (fun c124 => ?_) (fun c124 => ?_)
        ·have h := bD c124 h
         refine bU ?_
         refine aK ?_
         refine cF ?_
         refine aK ?_
         refine aK ?_
         refine aH ?_
         refine tr1 rfl (aE (v := .d (.sl 1 (r9.1.map aO))) (aA rfl) rfl rfl) ?_
         refine tr1 rfl (aE (v := .d (.lit (.int .i64 s_4_122))) (aA rfl) rfl rfl) ?_
         obtain ⟨x125, h126, h⟩ := bind_some h
         refine tr1 rfl (bA (aA rfl) rfl rfl bP.of (bJ aO h126)) ?_
         refine tr1 rfl (bC (aA rfl) rfl aZ) ?_
         refine tr1 rfl (bE (aA rfl) rfl rfl rfl) ?_
         refine aJ ?_
         refine bY rfl (fun c127 => ?_) (fun c127 => ?_)
         ·have h := bD c127 h
          refine dB ?_
          refine .inl ⟨rfl, ?_⟩
          simp only [eW] at h
          refine aH ?_
          refine tr1 rfl (aE (v := .d (.lit (.int .i64 s_4_122))) (aA rfl) rfl rfl) ?_
          refine tr1 rfl (bL (aA rfl) rfl rfl rfl) ?_
          refine tr1 rfl (aL (v := .d (.lit (.int .i64 ((w64 (s_4_122 + 1)))))) (aA rfl) rfl rfl) ?_
          refine aJ ?_
          exact ⟨(w64 (s_4_122 + 1)), h, bK [0] rfl rfl (aX rfl (bF ⟨rfl, rfl, rfl, rfl, trivial⟩))⟩
         ·have h := bB c127 h
          refine bU ?_
          refine aK ?_
          refine aH ?_
          refine tr1 rfl (aL (v := .d (.lit (.int .i64 0))) (aA rfl) rfl rfl) ?_
          refine aJ ?_
          refine aK ?_
          refine cF ?_
          refine dJ [1, 2, 3, 7, 19] (fun (s128 : Int) => [(20, .d (.lit (.int .i64 s128)))]) (fun (s128 : Int) => [.box b1 0 (aY t_0)]) (fun (k : Nat) (s128 : Int) => dY (cT l_1 course_2 r9.1 t_0 k123) l_1 course_2 r9.1 s_4_122 t_0 k s128) (fun _ => rfl) (0) h (bK [0] rfl rfl (aX rfl (bF ⟨rfl, rfl, rfl, rfl, rfl, trivial⟩))) ?_
          rintro k129 n_6_128 h
          simp only [dY] at h
          refine aK ?_
          refine aK ?_
          obtain ⟨b130, h131, h⟩ := bind_some h
          refine dN mix 22 [1, 2, 3, 7, 19, 20] [(210, .d (.lit (.bool b130)))] ?_ ?_
          ·refine bM (decide (n_6_128 < t_0.Rounds)) (fun c132 => ?_) (fun c132 => ?_)
           ·have h131 := bD c132 h131
            obtain ⟨x133, h134, h131⟩ := bind_some h131
            obtain ⟨u135, h136, h131⟩ := bind_some h131
            obtain ⟨x137, h138, h131⟩ := bind_some h131
            obtain ⟨x139, h140, h131⟩ := bind_some h131
            have h131 := Option.some.inj h131
            subst h131
            refine ⟨[(189, 0, .d (.lit (.int .i64 n_6_128))), (190, 1, .bp b1 0 0), (191, 2, .d (.lit (.int .i64 t_0.Rounds))), (192, 3, .d (.lit (.bool ((decide (n_6_128 < t_0.Rounds)))))), (193, 4, .d (.lit (.bool ((decide (n_6_128 < t_0.Rounds)))))), (194, 5, .d (.sl 1 (course_2.map cG))), (195, 6, .d (.lit (.int .i64 n_6_128))), (196, 7, .cp [.sl 1 (x133.map aO)]), (197, 8, .d (.sl 1 (x133.map aO))), (198, 9, .d (.lit (.int .i64 s_4_122))), (199, 10, .d (.lit (.int .i64 n_6_128))), (200, 11, .d (.lit (.int .i64 ((w64 (n_6_128 + 1)))))), (201, 12, .d (.lit (.int .u64 ((IntKind.u64.wrap (w64 (n_6_128 + 1))))))), (202, 13, .d (.lit (.int .i64 ((s_4_122.fdiv (2 ^ (min (IntKind.u64.wrap (w64 (n_6_128 + 1))).toNat 64))))))), (203, 14, .cp [.lit (.int .i64 x137)]), (204, 15, .d (.lit (.int .i64 x137))), (205, 16, .d (.sl 1 (r9.1.map aO))), (206, 17, .d (.lit (.int .i64 s_4_122))), (207, 18, .cp [.lit (.int .i64 x139)]), (208, 19, .d (.lit (.int .i64 x139))), (209, 20, .d (.lit (.bool ((decide (x137 = x139)))))), (210, 21, .d (.lit (.bool ((decide (x137 = x139))))))], ?_, ?_⟩
            · exact ⟨by kernel_rfl, by kernel_rfl, by kernel_rfl, by kernel_rfl, by kernel_rfl, [([], []), ([], []), ([1], []), ([0, 2], []), ([3], []), ([4], []), ([4], []), ([4, 5, 6], []), ([4, 7], []), ([4], []), ([4], []), ([4, 10], []), ([4, 11], []), ([4, 9, 12], []), ([4, 8, 13], []), ([4, 14], []), ([4], []), ([4], []), ([4, 16, 17], []), ([4, 18], []), ([4, 15, 19], []), ([4, 20], [])], by kernel_rfl, ⟨fun S hS => aB rfl (aR rfl (aE (v := .d (.lit (.int .i64 n_6_128))) (aA rfl) (aC hS rfl) rfl)),
      fun S hS => aB rfl (aR rfl (aS (aA rfl) (aC hS rfl) gK)),
      fun S hS => aB rfl (aR rfl (aU (aA rfl) (aC hS rfl) (i := 0) rfl rfl aZ)),
      fun S hS => aB rfl (aR rfl (bE (aA rfl) (aC hS rfl) (aC hS rfl) rfl)),
      fun S hS => aB rfl (aR rfl (aE (v := .d (.lit (.bool ((decide (n_6_128 < t_0.Rounds)))))) (aA rfl) (aC hS rfl) rfl)),
      fun S hS => aB rfl (aG rfl rfl (aA rfl) (aD hS rfl) c132 (aE (v := .d (.sl 1 (course_2.map cG))) (aA rfl) (aC hS rfl) rfl)),
      fun S hS => aB rfl (aG rfl rfl (aA rfl) (aD hS rfl) c132 (aE (v := .d (.lit (.int .i64 n_6_128))) (aA rfl) (aC hS rfl) rfl)),
      fun S hS => aB rfl (aG rfl rfl (aA rfl) (aD hS rfl) c132 (bA (aA rfl) (aC hS rfl) (aC hS rfl) jG.of (bJ cG h134))),
      fun S hS => aB rfl (aG rfl rfl (aA rfl) (aD hS rfl) c132 (bC (aA rfl) (aC hS rfl) cU)),
      fun S hS => aB rfl (aG rfl rfl (aA rfl) (aD hS rfl) c132 (aE (v := .d (.lit (.int .i64 s_4_122))) (aA rfl) (aC hS rfl) rfl)),
      fun S hS => aB rfl (aG rfl rfl (aA rfl) (aD hS rfl) c132 (aE (v := .d (.lit (.int .i64 n_6_128))) (aA rfl) (aC hS rfl) rfl)),
      fun S hS => aB rfl (aG rfl rfl (aA rfl) (aD hS rfl) c132 (bL (aA rfl) (aC hS rfl) rfl rfl)),
      fun S hS => aB rfl (aG rfl rfl (aA rfl) (aD hS rfl) c132 (yM (aA rfl) (aC hS rfl) Try.runUnderlying3 Try.runUnderlying45)),
      fun S hS => aB rfl (aG rfl rfl (aA rfl) (aD hS rfl) c132 (yY (aA rfl) (aC hS rfl) (aC hS rfl) (tJ h136))),
      fun S hS => aB rfl (aG rfl rfl (aA rfl) (aD hS rfl) c132 (bA (aA rfl) (aC hS rfl) (aC hS rfl) bP.of (bJ aO h138))),
      fun S hS => aB rfl (aG rfl rfl (aA rfl) (aD hS rfl) c132 (bC (aA rfl) (aC hS rfl) aZ)),
      fun S hS => aB rfl (aG rfl rfl (aA rfl) (aD hS rfl) c132 (aE (v := .d (.sl 1 (r9.1.map aO))) (aA rfl) (aC hS rfl) rfl)),
      fun S hS => aB rfl (aG rfl rfl (aA rfl) (aD hS rfl) c132 (aE (v := .d (.lit (.int .i64 s_4_122))) (aA rfl) (aC hS rfl) rfl)),
      fun S hS => aB rfl (aG rfl rfl (aA rfl) (aD hS rfl) c132 (bA (aA rfl) (aC hS rfl) (aC hS rfl) bP.of (bJ aO h140))),
      fun S hS => aB rfl (aG rfl rfl (aA rfl) (aD hS rfl) c132 (bC (aA rfl) (aC hS rfl) aZ)),
      fun S hS => aB rfl (aG rfl rfl (aA rfl) (aD hS rfl) c132 (bE (aA rfl) (aC hS rfl) (aC hS rfl) rfl)),
      fun S hS => aB rfl (aR rfl (bO (v := .d (.lit (.bool ((decide (x137 = x139)))))) (aA rfl) (aC hS rfl) c132 (aC hS rfl) rfl)), trivial⟩⟩
            · exact cL (aX rfl (bF ⟨rfl, rfl, rfl, rfl, rfl, rfl, trivial⟩))
           ·have h131 := bB c132 h131
            have h131 := Option.some.inj h131
            subst h131
            refine ⟨[(189, 0, .d (.lit (.int .i64 n_6_128))), (190, 1, .bp b1 0 0), (191, 2, .d (.lit (.int .i64 t_0.Rounds))), (192, 3, .d (.lit (.bool ((decide (n_6_128 < t_0.Rounds)))))), (193, 4, .d (.lit (.bool ((decide (n_6_128 < t_0.Rounds)))))), (194, 5, .tup []), (195, 6, .tup []), (196, 7, .tup []), (197, 8, .tup []), (198, 9, .tup []), (199, 10, .tup []), (200, 11, .tup []), (201, 12, .tup []), (202, 13, .tup []), (203, 14, .tup []), (204, 15, .tup []), (205, 16, .tup []), (206, 17, .tup []), (207, 18, .tup []), (208, 19, .tup []), (209, 20, .tup []), (210, 21, .d (.lit (.bool false)))], ?_, ?_⟩
            · exact ⟨by kernel_rfl, by kernel_rfl, by kernel_rfl, by kernel_rfl, by kernel_rfl, [([], []), ([], []), ([1], []), ([0, 2], []), ([3], []), ([4], []), ([4], []), ([4, 5, 6], []), ([4, 7], []), ([4], []), ([4], []), ([4, 10], []), ([4, 11], []), ([4, 9, 12], []), ([4, 8, 13], []), ([4, 14], []), ([4], []), ([4], []), ([4, 16, 17], []), ([4, 18], []), ([4, 15, 19], []), ([4, 20], [])], by kernel_rfl, ⟨fun S hS => aB rfl (aR rfl (aE (v := .d (.lit (.int .i64 n_6_128))) (aA rfl) (aC hS rfl) rfl)),
      fun S hS => aB rfl (aR rfl (aS (aA rfl) (aC hS rfl) gK)),
      fun S hS => aB rfl (aR rfl (aU (aA rfl) (aC hS rfl) (i := 0) rfl rfl aZ)),
      fun S hS => aB rfl (aR rfl (bE (aA rfl) (aC hS rfl) (aC hS rfl) rfl)),
      fun S hS => aB rfl (aR rfl (aE (v := .d (.lit (.bool ((decide (n_6_128 < t_0.Rounds)))))) (aA rfl) (aC hS rfl) rfl)),
      fun S hS => aB rfl (aM rfl rfl (aA rfl) rfl (aA rfl) (aD hS rfl) c132),
      fun S hS => aB rfl (aM rfl rfl (aA rfl) rfl (aA rfl) (aD hS rfl) c132),
      fun S hS => aB rfl (aM rfl rfl (aA rfl) rfl (aA rfl) (aD hS rfl) c132),
      fun S hS => aB rfl (aM rfl rfl (aA rfl) rfl (aA rfl) (aD hS rfl) c132),
      fun S hS => aB rfl (aM rfl rfl (aA rfl) rfl (aA rfl) (aD hS rfl) c132),
      fun S hS => aB rfl (aM rfl rfl (aA rfl) rfl (aA rfl) (aD hS rfl) c132),
      fun S hS => aB rfl (aM rfl rfl (aA rfl) rfl (aA rfl) (aD hS rfl) c132),
      fun S hS => aB rfl (aM rfl rfl (aA rfl) rfl (aA rfl) (aD hS rfl) c132),
      fun S hS => aB rfl (aM rfl rfl (aA rfl) rfl (aA rfl) (aD hS rfl) c132),
      fun S hS => aB rfl (aM rfl rfl (aA rfl) rfl (aA rfl) (aD hS rfl) c132),
      fun S hS => aB rfl (aM rfl rfl (aA rfl) rfl (aA rfl) (aD hS rfl) c132),
      fun S hS => aB rfl (aM rfl rfl (aA rfl) rfl (aA rfl) (aD hS rfl) c132),
      fun S hS => aB rfl (aM rfl rfl (aA rfl) rfl (aA rfl) (aD hS rfl) c132),
      fun S hS => aB rfl (aM rfl rfl (aA rfl) rfl (aA rfl) (aD hS rfl) c132),
      fun S hS => aB rfl (aM rfl rfl (aA rfl) rfl (aA rfl) (aD hS rfl) c132),
      fun S hS => aB rfl (aM rfl rfl (aA rfl) rfl (aA rfl) (aD hS rfl) c132),
      fun S hS => aB rfl (aR rfl (bH (v := .d (.lit (.bool false))) (aA rfl) (aC hS rfl) c132 rfl rfl)), trivial⟩⟩
            · exact cL (aX rfl (bF ⟨rfl, rfl, rfl, rfl, rfl, rfl, trivial⟩))
          ·refine aJ ?_
           refine bY rfl (fun c141 => ?_) (fun c141 => ?_)
           ·have h := bD c141 h
            refine bU ?_
            refine cF ?_
            refine aH ?_
            refine tr1 rfl (aE (v := .d (.lit (.int .i64 n_6_128))) (aA rfl) rfl rfl) ?_
            refine tr1 rfl (bL (aA rfl) rfl rfl rfl) ?_
            refine tr1 rfl (aL (v := .d (.lit (.int .i64 ((w64 (n_6_128 + 1)))))) (aA rfl) rfl rfl) ?_
            refine eY ?_
            exact ⟨(w64 (n_6_128 + 1)), h, bK [0] rfl rfl (aX rfl (bF ⟨rfl, rfl, rfl, rfl, rfl, trivial⟩))⟩
           ·have h := bB c141 h
            refine dB ?_
            refine .inl ⟨rfl, ?_⟩
            simp only [fX] at h
            refine aK ?_
            obtain ⟨x143, h144, h⟩ := bind_some h
            obtain ⟨r145, h146, h⟩ := bind_some h
            refine sU mix 12 [1, 2, 3, 7, 19, 20] (fun X142 => [(21, .bp (X142 10).b 0 0), (222, .d (.lit (.int .i64 r145.2)))]) (fun X142 => [.box b1 0 (aY t_0), .box (X142 10).b 0 (dO r145.1)]) ?_ ?_
            ·refine ⟨1, fun X142 => [(214, 0, .agg (aY t_0)), (215, 1, .d (.sl 5 (l_1.map aP))), (216, 2, .d (.sl 1 (r9.1.map aO))), (217, 3, .d (.lit (.int .i64 s_4_122))), (218, 4, .cp [.lit (.int .i64 x143)]), (219, 5, .d (.lit (.int .i64 x143))), (220, 6, .tup [.agg (dO r145.1), .d (.lit (.int .i64 r145.2))]), (213, 7, .tup [.agg (dO r145.1), .d (.lit (.int .i64 r145.2))]), (221, 8, .agg (dO r145.1)), (222, 9, .d (.lit (.int .i64 r145.2))), (21, 10, .bp (X142 10).b 0 0)], fun X142 => [([], .box b1 0 (aY t_0)), ([(11, .box (X142 10).b 0 (dO r145.1)), (10, .box (X142 10).b 0 (dO (dP.mk 0 0)))], nob)], ?_, ?_⟩
             · exact ⟨by kernel_rfl, by kernel_rfl, by kernel_rfl, fun _ => by kernel_rfl, fun _ => by kernel_rfl, fun _ => by kernel_rfl, fun _ => rfl, [([], [11]), ([], [11]), ([], [11]), ([], [11]), ([2, 3], [11]), ([4], [11]), ([0, 1, 5], [11]), ([6], [11]), ([7], [11]), ([7], []), ([], [11]), ([8, 10], [])], by kernel_rfl, ⟨fun X142 S hw hi hS => gD (X := X142) rfl (hw X142) rfl (aR rfl (bW (aA rfl) (aC hS rfl) (i := 0) (og hS rfl rfl) dX (es := (aY t_0)) rfl rfl)),
      fun X142 S hw hi hS => gD (X := X142) rfl (hw X142) rfl (aR rfl (aE (v := .d (.sl 5 (l_1.map aP))) (aA rfl) (aC hS rfl) rfl)),
      fun X142 S hw hi hS => gD (X := X142) rfl (hw X142) rfl (aR rfl (aE (v := .d (.sl 1 (r9.1.map aO))) (aA rfl) (aC hS rfl) rfl)),
      fun X142 S hw hi hS => gD (X := X142) rfl (hw X142) rfl (aR rfl (aE (v := .d (.lit (.int .i64 s_4_122))) (aA rfl) (aC hS rfl) rfl)),
      fun X142 S hw hi hS => gD (X := X142) rfl (hw X142) rfl (aR rfl (bA (aA rfl) (aC hS rfl) (aC hS rfl) bP.of (bJ aO h144))),
      fun X142 S hw hi hS => gD (X := X142) rfl (hw X142) rfl (aR rfl (bC (aA rfl) (aC hS rfl) aZ)),
      fun X142 S hw hi hS => gD (X := X142) rfl (hw X142) rfl (aR rfl (gN (aA rfl) (.func _ _ Try.call17) (ev2 (aC hS rfl) (ev2 (aC hS rfl) (ev2 (aC hS rfl) evn))) rfl (tD _ _ _ h146))),
      fun X142 S hw hi hS => gD (X := X142) rfl (hw X142) rfl (aR rfl (aE (v := .tup [.agg (dO r145.1), .d (.lit (.int .i64 r145.2))]) (aA rfl) (aC hS rfl) rfl)),
      fun X142 S hw hi hS => gD (X := X142) rfl (hw X142) rfl (aR rfl (bX (aA rfl) (aC hS rfl) rfl)),
      fun X142 S hw hi hS => gD (X := X142) rfl (hw X142) rfl (aR rfl (bX (aA rfl) (aC hS rfl) rfl)),
      fun X142 S hw hi hS => aFb (X := X142) (p := 1) (v := fun x => .bp x.b 0 0) (mo := fun x => .box x.b 0 (dO (dP.mk 0 0))) hS hi rfl rfl (fun _ => rfl) hw (fun _ => rfl) (fun _ => rfl) (fun _ => rfl) (fun _ => ⟨rfl, rfl, .inr rfl, ⟨rfl, rfl, .inr rfl, ⟨rfl, rfl, .inr rfl, ⟨rfl, rfl, .inr rfl, ⟨rfl, rfl, .inr rfl, ⟨rfl, rfl, .inr rfl, ⟨rfl, rfl, .inr rfl, ⟨rfl, rfl, .inr rfl, ⟨rfl, rfl, .inr rfl, ⟨rfl, rfl, .inr rfl, ⟨rfl, rfl, .inl rfl, trivial⟩⟩⟩⟩⟩⟩⟩⟩⟩⟩⟩) (fun _ => ⟨trivial, rfl, ⟨⟨rfl, .inl rfl, ⟨rfl, .inl rfl, trivial⟩⟩, rfl, trivial⟩⟩) (uU (eD (zs := [.lit (.int .i64 0), .lit (.int .i64 0)]) (aA rfl) Try.zeroValue39 rfl rfl) (by rintro _ ⟨w, rfl⟩; exact ⟨⟨w, undef⟩, bK [0, 2] rfl rfl (le_refl _)⟩)),
      fun X142 S hw hi hS => aCd (X := X142) hS rfl rfl rfl (p := 1) rfl rfl (aR rfl (cO (i := 1) (aC hS rfl) (og hS rfl rfl) (aC hS rfl) rfl rfl Try.sizeOf39 rfl (aA rfl) (Nat.le_of_ble_eq_true rfl) (ds' := (dO r145.1)) rfl)), trivial⟩⟩
             · exact fun X142 => cL (aX rfl (aX rfl (bF ⟨rfl, rfl, rfl, rfl, rfl, rfl, trivial⟩)))
            ·intro X142
             refine tr1 rfl (aL (v := .d (.lit (.int .i64 r145.2))) (aA rfl) rfl rfl) ?_
             refine aJ ?_
             refine aK ?_
             refine aH ?_
             refine tr1 rfl (aE (v := .d (.lit (.int .i64 r145.2))) (aA rfl) rfl rfl) ?_
             refine tr1 rfl (bE (aA rfl) rfl rfl rfl) ?_
             refine tr1 rfl (aE (v := .d (.lit (.bool ((!decide (r145.2 = 0)))))) (aA rfl) rfl rfl) ?_
             obtain ⟨b147, h148, h⟩ := bind_some h
             refine cK 5 [1, 2, 3, 7, 19, 20, 21] 230 b147 ?_ ?_
             ·refine bM (!decide (r145.2 = 0)) (fun c153 => ?_) (fun c153 => ?_)
              ·have h148 := bD c153 h148
               refine aV rfl rfl (aA rfl) rfl (aA rfl) rfl c153 ?_
               refine aV rfl rfl (aA rfl) rfl (aA rfl) rfl c153 ?_
               refine aV rfl rfl (aA rfl) rfl (aA rfl) rfl c153 ?_
               refine aV rfl rfl (aA rfl) rfl (aA rfl) rfl c153 ?_
               refine tr1 rfl (bO (v := .d (.lit (.bool true))) (aA rfl) rfl c153 rfl rfl) ?_
               have h148 := Option.some.inj h148
               subst h148
               refine aJ (bN rfl ⟨rfl, rfl, rfl, rfl, rfl, rfl, rfl, trivial⟩ rfl)
              ·have h148 := bB c153 h148
               refine aQ rfl rfl (aA rfl) rfl c153 (aE (v := .d (.lit (.int .i64 n_6_128))) (aA rfl) rfl rfl) ?_
               refine aQ rfl rfl (aA rfl) rfl c153 (aS (aA rfl) rfl aJx) ?_
               refine aQ rfl rfl (aA rfl) rfl c153 (aU (aA rfl) rfl (i := 1) rfl rfl aZ) ?_
               refine aQ rfl rfl (aA rfl) rfl c153 (bE (aA rfl) rfl rfl rfl) ?_
               refine tr1 rfl (bH (v := .d (.lit (.bool ((decide (n_6_128 < r145.1.Low)))))) (aA rfl) rfl c153 rfl rfl) ?_
               have h148 := Option.some.inj h148
               subst h148
               refine aJ (bN rfl ⟨rfl, rfl, rfl, rfl, rfl, rfl, rfl, trivial⟩ rfl)
             ·refine tr1 rfl (aE (v := .d (.lit (.bool b147))) (aA rfl) rfl rfl) ?_
              obtain ⟨b149, h150, h⟩ := bind_some h
              refine cK 5 [1, 2, 3, 7, 19] 236 b149 ?_ ?_
              ·refine bM (b147) (fun c152 => ?_) (fun c152 => ?_)
               ·have h150 := bD c152 h150
                refine aV rfl rfl (aA rfl) rfl (aA rfl) rfl c152 ?_
                refine aV rfl rfl (aA rfl) rfl (aA rfl) rfl c152 ?_
                refine aV rfl rfl (aA rfl) rfl (aA rfl) rfl c152 ?_
                refine aV rfl rfl (aA rfl) rfl (aA rfl) rfl c152 ?_
                refine tr1 rfl (bO (v := .d (.lit (.bool true))) (aA rfl) rfl c152 rfl rfl) ?_
                have h150 := Option.some.inj h150
                subst h150
                refine aJ (bN rfl ⟨rfl, rfl, rfl, rfl, rfl, trivial⟩ rfl)
               ·have h150 := bB c152 h150
                refine aQ rfl rfl (aA rfl) rfl c152 (aE (v := .d (.lit (.int .i64 n_6_128))) (aA rfl) rfl rfl) ?_
                refine aQ rfl rfl (aA rfl) rfl c152 (aS (aA rfl) rfl aJy) ?_
                refine aQ rfl rfl (aA rfl) rfl c152 (aU (aA rfl) rfl (i := 1) rfl rfl aZ) ?_
                refine aQ rfl rfl (aA rfl) rfl c152 (bE (aA rfl) rfl rfl rfl) ?_
                refine tr1 rfl (bH (v := .d (.lit (.bool ((decide (r145.1.High < n_6_128)))))) (aA rfl) rfl c152 rfl rfl) ?_
                have h150 := Option.some.inj h150
                subst h150
                refine aJ (bN rfl ⟨rfl, rfl, rfl, rfl, rfl, trivial⟩ rfl)
              ·refine aJ ?_
               refine bY rfl (fun c151 => ?_) (fun c151 => ?_)
               ·have h := bD c151 h
                refine aK ?_
                refine aH ?_
                refine tr1 rfl (aL (v := .d (.lit (.bool false))) (aA rfl) rfl rfl) ?_
                refine aJ ?_
                have h := Option.some.inj h
                subst h
                refine cR (cQ (cX (l := [6]) ⟨rfl, trivial⟩)) ?_
                exact bV ⟨rfl, _, .one _, rfl, rfl⟩
               ·have h := bB c151 h
                refine eH ?_
                simp only [eW] at h
                refine aH ?_
                refine tr1 rfl (aE (v := .d (.lit (.int .i64 s_4_122))) (aA rfl) rfl rfl) ?_
                refine tr1 rfl (bL (aA rfl) rfl rfl rfl) ?_
                refine tr1 rfl (aL (v := .d (.lit (.int .i64 ((w64 (s_4_122 + 1)))))) (aA rfl) rfl rfl) ?_
                refine aJ ?_
                exact ⟨(w64 (s_4_122 + 1)), h, bK [0] rfl rfl (aX rfl (bF ⟨rfl, rfl, rfl, rfl, trivial⟩))⟩
        ·have h := bB c124 h
         refine dB ?_
         refine .inl ⟨rfl, ?_⟩
         simp only [kQ] at h
         refine aK ?_
         refine aH ?_
         obtain ⟨r154, h155, h⟩ := bind_some h
         refine tr1 rfl (cZ (aA rfl) (.func _ _ Try.call14) rfl rfl (BVs.refl _ _) (oN h155) rfl) ?_
         refine tr1 rfl (aL (v := .d (.lit (.bool r154))) (aA rfl) rfl rfl) ?_
         refine aJ ?_
         have h := Option.some.inj h
         subst h
         refine cR (cQ (cX (l := [6]) ⟨rfl, trivial⟩)) ?_
         exact bV ⟨rfl, _, .one _, rfl, rfl⟩

end Go.Am
