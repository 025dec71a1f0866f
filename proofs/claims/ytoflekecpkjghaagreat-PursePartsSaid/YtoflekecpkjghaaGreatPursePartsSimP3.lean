/- The functions compute what the shallow ones say: printed by program. -/
import Derived.Test.YtoflekecpkjghaaGreatPursePartsSimP2
namespace Go.Am
open Go.Proofs
set_option maxRecDepth 100000
set_option maxHeartbeats 40000000

theorem aCs (s : aK) {r : Bool} (h : oM s = some r) : Fn Tryz.prog 6 [.agg (aN s)] (.b r) := by
 unfold oM at h;refine Fn.of_tr Tryz.func6 rfl (rs := [.tmp 2]) Tryz.results6 Tryz.ntmps6 (Nat.le_of_ble_eq_true rfl) ?_;refine aC (aA ?_);refine bD rfl (eK (v := .agg (aN s)) (aD rfl) rfl rfl rfl) ?_;rintro _ ⟨b1, rfl⟩;refine ta (.b false) (aB (aC (aC (aA (to (sla 0 (aN s) rfl rfl eC) ?_)))));obtain ⟨r2, h3, h⟩ := bns h;refine to (scr Tryz.call10 (aHi _ h3)) (to (sn rfl) (tm (.b (!r2)) ?_));obtain ⟨b4, h5, h⟩ := bns h;refine bC 5 [1] 29 b4 ?_ ?_
 ·refine bch h5 (fun G h5 => ?_) (fun G h5 => ?_)
  ·refine tp G (tp G (tp G (tp G (to (spt (.b true) G) ?_))));obtain rfl := sIn h5;refine aB (aO rfl ⟨rfl, trivial⟩ rfl)
  ·refine tkl 0 G rfl rfl kE rfl qQ (tk G (sle rfl eY.of) (tk G (scm rfl rfl rfl) (to (spf (.b (decide (6 < (s.Slips.length : Int)))) G) ?_)));obtain rfl := sIn h5;refine aB (aO rfl ⟨rfl, trivial⟩ rfl)
 ·refine aB ?_;refine tih h (fun c6 h => ?_) (fun c6 h => ?_)
  ·refine aC (aA ?_);obtain ⟨r7, h8, h⟩ := bns h;refine to (scr Tryz.call12 (oB h8)) (ta (.b r7) (aB ?_));obtain rfl := sIn h;refine bM (bI (bJ (l := [2]) ⟨rfl, trivial⟩)) ?_;exact aZ ⟨rfl, _, .one _, rfl, rfl⟩
  ·refine aW (aC (aA (to (eW 67 5 (.inl rfl) (aD rfl)) ?_)));refine to (eW 67 5 (.inl rfl) (aD rfl)) ?_;refine aB (aC (aC (aA (ta (.i 0) (aB (bB ?_))))));refine bQ (S := Int × (List aE) × (List aE) × Value × Value) [1] (fun M => [(3, .d (.lit M.2.2.2.1)), (4, .d (.lit M.2.2.2.2)), (5, .i M.1)]) (fun M => [.box b1 0 (aN s), .arr M.2.2.2.1 67 5 (M.2.1.map aJ), .arr M.2.2.2.2 67 5 (M.2.2.1.map aJ)]) (fun k M => fQ s k M.1 M.2.1 M.2.2.1) (fun _ => rfl) (0, ([] : List aE), ([] : List aE), (.slice none 0 0), (.slice none 0 0)) h (aP [0, 1, 2] rfl rfl (aH rfl (aH rfl (aH rfl (aM ⟨rfl, trivial⟩))))) ?_;rintro j6 ⟨y, o, g, b6, b7⟩ h;simp only [fQ] at h;refine aC (aC (aA (tm (.i y) (tfl 0 rfl rfl kE rfl qQ (to (sle rfl eY.of) (to (scm rfl rfl rfl) (aB ?_)))))));refine tih h (fun f7 h => ?_) (fun f7 h => ?_)
   ·refine aW (aC (bB (aC (aA (tfl 0 rfl rfl kE rfl qQ (tm (.i y) ?_))))));obtain ⟨f8, f9, h⟩ := bns h;refine to (six rfl rfl eY.of (aX aJ f9)) (to (sfc [.lit (.int .i64 f8.Kind)] rfl nN) (to (slc rfl aS) (to (scm rfl rfl rfl) (aB ?_))));refine tih h (fun g0 h => ?_) (fun g0 h => ?_)
    ·refine aA (tm (.d (.lit b6)) (tfl 0 rfl rfl kE rfl qQ (tm (.i y) ?_)));obtain ⟨d1, g1, h⟩ := bns h;refine to (six rfl rfl eY.of (aX aJ g1)) (to (nS (aJ d1) rfl kY) (to (fD (aD rfl) eY rfl rfl (rows := ([d1]).map aJ) rfl (cE (f := aJ) fun _ => rfl) rfl (by decide)) ?_));obtain ⟨g2, g3, h⟩ := bns h;refine bD rfl (eT (i := 1) (aD rfl) eY rfl rfl rfl (fun _ => rfl) g3 rfl) ?_;rintro _ ⟨d2, rfl⟩;refine ta (.d (.lit d2)) ?_;refine cQ ?_;refine aA (tm (.i y) (to (sar rfl rfl rfl) (ta (.i (w64 (y + 1))) (aB ?_))));exact ⟨(w64 (y + 1), g2, g, d2, b7), h, aP [0, 1, 2] rfl rfl (aH rfl (aH rfl (aH rfl (aM ⟨rfl, trivial⟩))))⟩
    ·refine aA (tm (.d (.lit b7)) (tfl 0 rfl rfl kE rfl qQ (tm (.i y) ?_)));obtain ⟨d3, g4, h⟩ := bns h;refine to (six rfl rfl eY.of (aX aJ g4)) (to (nS (aJ d3) rfl kY) (to (fD (aD rfl) eY rfl rfl (rows := ([d3]).map aJ) rfl (cE (f := aJ) fun _ => rfl) rfl (by decide)) ?_));obtain ⟨g5, g6, h⟩ := bns h;refine bD rfl (eT (i := 2) (aD rfl) eY rfl rfl rfl (fun _ => rfl) g6 rfl) ?_;rintro _ ⟨d4, rfl⟩;refine ta (.d (.lit d4)) ?_;refine cQ ?_;refine aA (tm (.i y) (to (sar rfl rfl rfl) (ta (.i (w64 (y + 1))) (aB ?_))));exact ⟨(w64 (y + 1), o, g5, b6, d4), h, aP [0, 1, 2] rfl rfl (aH rfl (aH rfl (aH rfl (aM ⟨rfl, trivial⟩))))⟩
   ·refine bT ?_;refine .inl ⟨rfl, ?_⟩;simp only [qG] at h;refine aC (aA (to (sla 0 (aN s) rfl rfl eC) ?_));obtain ⟨b8, g7, h⟩ := bns h;refine to (fZ (aD rfl) (.func _ _ Tryz.call22) rfl rfl (aJu _ g7)) ?_;refine bD rfl (cP (zs := [.lit (.int .i64 0), .sl 1 ((([] : List Int)).map aL), .sl 5 ((([] : List aE)).map aJ), .sl 1 ((([] : List Int)).map aL), .lit (.int .i64 0), .sl 3 ((([] : List bX)).map bP), .sl 2 ((([] : List fE)).map cS), .sl 3 ((([] : List dX)).map cY), .sl 4 ((([] : List aI)).map aF)]) (aD rfl) Tryz.zeroValue31 rfl rfl) ?_;rintro _ ⟨W, rfl⟩;refine to (sst 3 rfl rfl Tryz.sizeOf31 (aN b8)) (aB (aC (aA (to (eW 72 2 (.inl rfl) (aD rfl)) ?_))));refine aB (aC (aC (aA (ta (.i 0) (aB (bB ?_))))));refine bM (aP [0, 3, 4, 1, 2] rfl rfl (le_refl _)) ?_;refine bM (aNs [.box b1 0 (aN s), .box W 0 (aN b8), .arr (.slice none 0 0) 72 2 (([] : List aR).map bA)] [.arr b6 67 5 (o.map aJ), .arr b7 67 5 (g.map aJ)] rfl (pT (k := 4) (v := .d (.sl 5 (g.map aJ))) (.d (jU 1 rfl (cE (f := aJ) fun _ => rfl))) (pT (k := 3) (v := .d (.sl 5 (o.map aJ))) (.d (jU 0 rfl (cE (f := aJ) fun _ => rfl))) (aKn _ _)))) ?_;refine bQ (S := Int × aK × (List aR) × Value) [1, 3, 4, 6] (fun P => [(7, .d (.lit P.2.2.2)), (8, .i P.1)]) (fun P => [.box b1 0 (aN s), .box W 0 (aN P.2.1), .arr P.2.2.2 72 2 (P.2.2.1.map bA)]) (fun k P => dK o g s k P.1 P.2.1 P.2.2.1) (fun _ => rfl) (0, b8, ([] : List aR), (.slice none 0 0)) h (aP [0, 1, 2] rfl rfl (aH rfl (aH rfl (aM ⟨rfl, rfl, rfl, rfl, trivial⟩)))) ?_;rintro g8 ⟨E, a, e, F⟩ h;simp only [dK] at h;refine aC (aC (aA (tm (.i E) (tm (.d (.sl 5 (g.map aJ))) (to (sle rfl eY.of) (to (scm rfl rfl rfl) (aB ?_)))))));refine tih h (fun g9 h => ?_) (fun g9 h => ?_)
    ·refine aW (aC (bB (aC ?_)));obtain ⟨b9, h0, h⟩ := bns h;obtain ⟨d5, h1, h⟩ := bns h;refine tB mix 6 [1, 3, 4, 6, 7, 8] (fun q => [(71, .d (.lit (q 2).v)), (74, .d (.sl 5 (d5.map aJ)))]) (fun q => [.box b1 0 (aN s), .box W 0 (aN a), .arr F 72 2 (e.map bA), .arr (q 2).v 67 5 (b9.map aJ)]) ?_ ?_
     ·refine ⟨1, fun q => [(69, 0, .d (.lit (q 0).v)), (70, 1, .d (.sl 5 (o.map aJ))), (71, 2, .d (.lit (q 2).v)), (72, 3, .d (.sl 5 (g.map aJ))), (73, 4, .i E), (74, 5, .d (.sl 5 (d5.map aJ)))], fun q => [([], .box b1 0 (aN s)), ([], .box W 0 (aN a)), ([], .arr F 72 2 (e.map bA)), ([(2, .arr (q 2).v 67 5 (b9.map aJ)), (0, .arr (q 0).v 67 5 (([] : List aE).map aJ))], nob)], ?_, ?_⟩
      · exact ⟨by kernel_rfl, by kernel_rfl, by kernel_rfl, fun _ => by kernel_rfl, fun _ => by kernel_rfl, fun _ => by kernel_rfl, fun _ => rfl, [([], [2]), ([], [2]), ([0, 1], []), ([], []), ([], []), ([3, 4], [])], by kernel_rfl, ⟨fun q S hw hi hS => aNn (X := q) (p := 3) (v := fun x => .d (.lit x.v)) (mo := fun x => .arr x.v 67 5 (([] : List aE).map aJ)) hS hi rfl rfl (fun _ => rfl) hw (fun _ => rfl) (fun _ => rfl) (fun _ => rfl) (fun _ => ⟨rfl, rfl, .inl rfl, ⟨rfl, rfl, .inr rfl, ⟨rfl, rfl, .inr rfl, ⟨rfl, rfl, .inr rfl, ⟨rfl, rfl, .inr rfl, ⟨rfl, rfl, .inr rfl, trivial⟩⟩⟩⟩⟩⟩) (fun _ => ⟨trivial, rfl, ⟨trivial, rfl, ⟨trivial, rfl, ⟨⟨rfl, .inr rfl, ⟨rfl, .inl rfl, trivial⟩⟩, rfl, trivial⟩⟩⟩⟩) (aAk (aDm (aD rfl) eY rfl pan (rows := (([] : List aE)).map aJ) rfl (cE (f := aJ) fun _ => rfl) rfl (by decide)) (by rintro _ ⟨w, rfl⟩; exact ⟨⟨0, w⟩, aP [0, 1, 2, 4] rfl rfl (le_refl _)⟩)),
      fun q S hw hi hS => bZ (X := q) rfl (hw q) rfl (cR rfl (dW (v := .d (.sl 5 (o.map aJ))) (aD rfl) (aV hS rfl) rfl)),
      fun q S hw hi hS => aNn (X := q) (p := 3) (v := fun x => .d (.lit x.v)) (mo := fun x => .arr x.v 67 5 (b9.map aJ)) hS hi rfl rfl (fun _ => rfl) hw (fun _ => rfl) (fun _ => rfl) (fun _ => rfl) (fun _ => ⟨rfl, rfl, .inr rfl, ⟨rfl, rfl, .inr rfl, ⟨rfl, rfl, .inl rfl, ⟨rfl, rfl, .inr rfl, ⟨rfl, rfl, .inr rfl, ⟨rfl, rfl, .inr rfl, trivial⟩⟩⟩⟩⟩⟩) (fun _ => ⟨trivial, rfl, ⟨trivial, rfl, ⟨trivial, rfl, ⟨⟨rfl, .inl rfl, ⟨rfl, .inr rfl, trivial⟩⟩, rfl, trivial⟩⟩⟩⟩) (aAk (eT (i := 3) (aD rfl) eY (aV hS rfl) (og hS rfl rfl) (aV hS rfl) (fun _ => rfl) h0 rfl) (by rintro _ ⟨w, rfl⟩; exact ⟨⟨0, w⟩, Ent.refl _⟩)),
      fun q S hw hi hS => bZ (X := q) rfl (hw q) rfl (cR rfl (dW (v := .d (.sl 5 (g.map aJ))) (aD rfl) (aV hS rfl) rfl)),
      fun q S hw hi hS => bZ (X := q) rfl (hw q) rfl (cR rfl (dW (v := .i E) (aD rfl) (aV hS rfl) rfl)),
      fun q S hw hi hS => bZ (X := q) rfl (hw q) rfl (cR rfl (aNj (aD rfl) eY.of (aV hS rfl) rfl (bo (aV hS rfl)) (aTx aJ h1))), trivial⟩⟩
      · exact fun q => cI (aH rfl (aH rfl (aM ⟨rfl, rfl, rfl, rfl, rfl, rfl, trivial⟩)))
     ·intro q;obtain ⟨Q, h2, h⟩ := bns h;refine bD rfl (eT (i := 3) (aD rfl) eY rfl rfl rfl (fun _ => rfl) h2 rfl) ?_;rintro _ ⟨h4, rfl⟩;refine qB (aNs [.box b1 0 (aN s), .box W 0 (aN a), .arr F 72 2 (e.map bA)] [.arr h4 67 5 (Q.map aJ)] rfl (bBx (v' := .d (.sl 5 (Q.map aJ))) (.d (bAu (cE (f := aJ) fun _ => rfl))) (aKn _ _))) ?_;refine to (sf rfl kE) (to (sst 1 rfl rfl Tryz.sizeOf25 (aN (aK.mk a.Tree Q a.Prizes a.Daily a.Teams a.Levies a.Rates a.Items))) (aB (aC (aC (aA (to (sla 1 (aN (aK.mk a.Tree Q a.Prizes a.Daily a.Teams a.Levies a.Rates a.Items)) rfl rfl eC) ?_))))));obtain ⟨j7, h6, h⟩ := bns h;refine to (scr Tryz.call24 (aAa _ h6)) (to (scm rfl rfl rfl) (aB ?_));refine tih h (fun h7 h => ?_) (fun h7 h => ?_)
      ·refine aC (aA ?_);obtain ⟨h9, i0, h⟩ := bns h;refine to (scr Tryz.call12 (oB i0)) (ta (.b h9) (aB ?_));obtain rfl := sIn h;refine bM (bI (bJ (l := [2]) ⟨rfl, trivial⟩)) ?_;exact aZ ⟨rfl, _, .one _, rfl, rfl⟩
      ·refine aW (aC (aA (to (sla 1 (aN (aK.mk a.Tree Q a.Prizes a.Daily a.Teams a.Levies a.Rates a.Items)) rfl rfl eC) (tm (.d (.lit F)) ?_))));obtain ⟨H, i1, h⟩ := bns h;refine bD rfl (aRq (passed := []) (aD rfl) rfl (.func _ _ Tryz.call34) rfl rfl (.cons (.same _) (.cons (.d (jU 2 rfl (cE (f := bA) fun _ => rfl))) .nil)) (aKg _ _ i1) pmn (by rintro _ _ ⟨_, _, rfl, rfl⟩; exact ⟨rfl, (pmc (aBe (fun _ => rfl)) (pmc (aBe (fun _ => rfl)) pmn))⟩)) ?_;rintro _ ⟨_, _, ⟨j, c0, rfl, rfl⟩, rfl⟩;refine tm (.tup [.d (.lit j), .d (.lit c0), .i H.2.2]) (to (sex rfl rfl) (to (sex rfl rfl) (to (sex rfl rfl) (ta (.d (.lit j)) (ta (.d (.lit c0)) (ta (.i H.2.2) (aB (aC (aC (aA (tm (.i H.2.2) (to (scm rfl rfl rfl) (tm (.b (!decide (H.2.2 = 0))) ?_)))))))))))));obtain ⟨d6, a6, h⟩ := bns h;refine bC 4 [1, 3, 4, 6, 7, 8, 9] 94 d6 ?_ ?_
       ·refine bch a6 (fun I a6 => ?_) (fun I a6 => ?_)
        ·refine tp I (tp I (tp I (to (spt (.b true) I) ?_)));obtain rfl := sIn a6;refine aB (aO rfl ⟨rfl, rfl, rfl, rfl, rfl, rfl, rfl, trivial⟩ rfl)
        ·refine tk I (sm (.d (.lit c0))) (tk I (gA (m := 1) (aD rfl) rfl rfl kV.of) ?_);refine tk I (scm rfl rfl rfl) (to (spf (.b (decide (0 < (H.2.1.length : Int)))) I) ?_);obtain rfl := sIn a6;refine aB (aO rfl ⟨rfl, rfl, rfl, rfl, rfl, rfl, rfl, trivial⟩ rfl)
       ·refine tm (.b d6) ?_;obtain ⟨i2, a7, h⟩ := bns h;refine bC 4 [1, 3, 4, 6, 7, 8, 9] 99 i2 ?_ ?_
        ·refine bch a7 (fun J a7 => ?_) (fun J a7 => ?_)
         ·refine tp J (tp J (tp J (to (spt (.b true) J) ?_)));obtain rfl := sIn a7;refine aB (aO rfl ⟨rfl, rfl, rfl, rfl, rfl, rfl, rfl, trivial⟩ rfl)
         ·refine tk J (sm (.d (.lit j))) (tk J (gA (m := 0) (aD rfl) rfl rfl kV.of) ?_);refine tk J (scm rfl rfl rfl) (to (spf (.b (decide (20 < (H.1.length : Int)))) J) ?_);obtain rfl := sIn a7;refine aB (aO rfl ⟨rfl, rfl, rfl, rfl, rfl, rfl, rfl, trivial⟩ rfl)
        ·refine aB ?_;refine tih h (fun i3 h => ?_) (fun i3 h => ?_)
         ·refine aC (aA (tm (.d (.lit j)) (to (gA (m := 0) (aD rfl) rfl rfl kV.of) ?_)));refine to (scm rfl rfl rfl) (tm (.b (decide (20 < (H.1.length : Int)))) ?_);obtain ⟨d7, a8, h⟩ := bns h;refine bC 5 [] 108 d7 ?_ ?_
          ·refine bch a8 (fun T a8 => ?_) (fun T a8 => ?_)
           ·refine tkl 2 T rfl rfl iV rfl mL (tk T (sle rfl mF.of) (tk T (scm rfl rfl rfl) (to (spt (.b (decide (9 < (s.Teams.length : Int)))) T) ?_)));obtain rfl := sIn a8;refine aB (aO rfl trivial rfl)
           ·refine tp T (tp T (tp T (tp T (to (spf (.b false) T) ?_))));obtain rfl := sIn a8;refine aB (aO rfl trivial rfl)
          ·refine tm (.b d7) ?_;obtain ⟨d8, Y, h⟩ := bns h;refine bC 2 [] 111 d8 ?_ ?_
           ·refine bch Y (fun a9 Y => ?_) (fun a9 Y => ?_)
            ·obtain ⟨i4, i5, Y⟩ := bns Y;refine tk a9 (scr Tryz.call12 (oB i5)) (to (spt (.b i4) a9) ?_);obtain rfl := sIn Y;refine aB (aO rfl trivial rfl)
            ·refine tp a9 (to (spf (.b false) a9) ?_);obtain rfl := sIn Y;refine aB (aO rfl trivial rfl)
           ·refine ta (.b d8) (aB ?_);obtain rfl := sIn h;refine bM (bI (bJ (l := [2]) ⟨rfl, trivial⟩)) ?_;exact aZ ⟨rfl, _, .one _, rfl, rfl⟩
         ·refine aW (aC (aC (aA (ta (.i 0) (aB (bB ?_))))));refine bQ (S := Int) [1, 3, 4, 6, 7, 8, 9] (fun b2 => [(12, .i b2)]) (fun b2 => [.box b1 0 (aN s), .box W 0 (aN (aK.mk a.Tree Q a.Prizes a.Daily a.Teams a.Levies a.Rates a.Items)), .arr F 72 2 (e.map bA), .arr j 72 2 (H.1.map bA)]) (fun k b2 => fA (dK o g s g8) o g E s (aK.mk a.Tree Q a.Prizes a.Daily a.Teams a.Levies a.Rates a.Items) e H.1 k b2) (fun _ => rfl) (0) h (aP [2, 3, 4, 0] rfl rfl (aH rfl (aM ⟨rfl, rfl, rfl, rfl, rfl, rfl, rfl, trivial⟩))) ?_;rintro j8 c h;simp only [fA] at h;refine aC (aC (aA (tm (.i c) (tm (.d (.lit j)) (to (gA (m := 3) (aD rfl) rfl rfl kV.of) ?_)))));refine to (scm rfl rfl rfl) (aB ?_);refine tih h (fun i6 h => ?_) (fun i6 h => ?_)
          ·refine aW (aC (bB (aC ?_)));obtain ⟨c1, a3, h⟩ := bns h;obtain ⟨N, c2, h⟩ := bns h;obtain ⟨j9, Z, h⟩ := bns h;obtain ⟨i7, U, h⟩ := bns h;refine cW mix 24 [1, 3, 4, 6, 7, 8, 9, 12] [(141, .b i7)] ?_ ?_
           ·refine bch Z (fun u Z => ?_) (fun u Z => ?_)
            ·obtain rfl := sIn Z;have t : true = true := rfl;have U := aNr t U;obtain rfl := sIn U;refine ⟨[(118, 0, .agg (aN s)), (119, 1, .d (.lit j)), (120, 2, .i c), (121, 3, .ep j 2 c.toNat 0), (122, 4, .ep j 2 c.toNat 0), (123, 5, .i c1.Person), (124, 6, .b N), (125, 7, .b (!N)), (126, 8, .b (!N)), (127, 9, .tup []), (128, 10, .tup []), (129, 11, .tup []), (130, 12, .tup []), (131, 13, .tup []), (132, 14, .tup []), (133, 15, .b true), (134, 16, .b (true)), (135, 17, .tup []), (136, 18, .tup []), (137, 19, .tup []), (138, 20, .tup []), (139, 21, .tup []), (140, 22, .tup []), (141, 23, .b true)], ?_, ?_⟩
             · exact dok [([], []), ([], []), ([], []), ([1, 2], []), ([3], []), ([4], []), ([0, 5], []), ([6], []), ([7], []), ([8], []), ([8], []), ([8, 9, 10], []), ([8, 11], []), ([8, 12], []), ([8, 13], []), ([8, 14], []), ([15], []), ([16], []), ([16], []), ([16, 17, 18], []), ([16, 19], []), ([16, 20], []), ([16, 21], []), ([16, 22], [])] ⟨go (zla 0 (aN s) rfl rfl eC),
      go (zm (.d (.lit j))),
      go (zm (.i c)),
      go (zia 3 rfl rfl rfl kV.of (aX bA a3)),
      go fun S hS => kI (aD rfl) (aV hS rfl) zD,
      go fun S hS => eZ (aD rfl) (aV hS rfl) (m := 3) rfl (dA bA a3) rfl aS,
      go fun S hS => fS (aD rfl) (.func _ _ Tryz.call11) (ev2 (aV hS rfl) (ev2 (aV hS rfl) evn)) rfl (BVs.refl _ _) (iS _ _ c2) rfl,
      go (zn rfl),
      go (zm (.b (!N))),
      gp u,
      gp u,
      gp u,
      gp u,
      gp u,
      gp u,
      go (zpt (.b true) u),
      go (zm (.b (true))),
      gp t,
      gp t,
      gp t,
      gp t,
      gp t,
      gp t,
      go (zpt (.b true) t), trivial⟩
             · exact cI (aH rfl (aM ⟨rfl, rfl, rfl, rfl, rfl, rfl, rfl, rfl, trivial⟩))
            ·obtain ⟨O, b3, Z⟩ := bns Z;obtain rfl := sIn Z;refine bch U (fun t U => ?_) (fun t U => ?_)
             ·obtain rfl := sIn U;refine ⟨[(118, 0, .agg (aN s)), (119, 1, .d (.lit j)), (120, 2, .i c), (121, 3, .ep j 2 c.toNat 0), (122, 4, .ep j 2 c.toNat 0), (123, 5, .i c1.Person), (124, 6, .b N), (125, 7, .b (!N)), (126, 8, .b (!N)), (127, 9, .d (.lit j)), (128, 10, .i c), (129, 11, .ep j 2 c.toNat 0), (130, 12, .ep j 2 c.toNat 1), (131, 13, .i O.Units), (132, 14, .b (decide (O.Units < 1))), (133, 15, .b (decide (O.Units < 1))), (134, 16, .b (decide (O.Units < 1))), (135, 17, .tup []), (136, 18, .tup []), (137, 19, .tup []), (138, 20, .tup []), (139, 21, .tup []), (140, 22, .tup []), (141, 23, .b true)], ?_, ?_⟩
              · exact dok [([], []), ([], []), ([], []), ([1, 2], []), ([3], []), ([4], []), ([0, 5], []), ([6], []), ([7], []), ([8], []), ([8], []), ([8, 9, 10], []), ([8, 11], []), ([8, 12], []), ([8, 13], []), ([8, 14], []), ([15], []), ([16], []), ([16], []), ([16, 17, 18], []), ([16, 19], []), ([16, 20], []), ([16, 21], []), ([16, 22], [])] ⟨go (zla 0 (aN s) rfl rfl eC),
      go (zm (.d (.lit j))),
      go (zm (.i c)),
      go (zia 3 rfl rfl rfl kV.of (aX bA a3)),
      go fun S hS => kI (aD rfl) (aV hS rfl) zD,
      go fun S hS => eZ (aD rfl) (aV hS rfl) (m := 3) rfl (dA bA a3) rfl aS,
      go fun S hS => fS (aD rfl) (.func _ _ Tryz.call11) (ev2 (aV hS rfl) (ev2 (aV hS rfl) evn)) rfl (BVs.refl _ _) (iS _ _ c2) rfl,
      go (zn rfl),
      go (zm (.b (!N))),
      gt u (zm (.d (.lit j))),
      gt u (zm (.i c)),
      gt u (zia 3 rfl rfl rfl kV.of (aX bA b3)),
      gt u fun S hS => kI (aD rfl) (aV hS rfl) xF,
      gt u fun S hS => eZ (aD rfl) (aV hS rfl) (m := 3) rfl (dA bA b3) rfl aS,
      gt u (zcm rfl rfl rfl),
      go (zpf (.b (decide (O.Units < 1))) u),
      go (zm (.b (decide (O.Units < 1)))),
      gp t,
      gp t,
      gp t,
      gp t,
      gp t,
      gp t,
      go (zpt (.b true) t), trivial⟩
              · exact cI (aH rfl (aM ⟨rfl, rfl, rfl, rfl, rfl, rfl, rfl, rfl, trivial⟩))
             ·obtain ⟨b5, d9, U⟩ := bns U;obtain rfl := sIn U;refine ⟨[(118, 0, .agg (aN s)), (119, 1, .d (.lit j)), (120, 2, .i c), (121, 3, .ep j 2 c.toNat 0), (122, 4, .ep j 2 c.toNat 0), (123, 5, .i c1.Person), (124, 6, .b N), (125, 7, .b (!N)), (126, 8, .b (!N)), (127, 9, .d (.lit j)), (128, 10, .i c), (129, 11, .ep j 2 c.toNat 0), (130, 12, .ep j 2 c.toNat 1), (131, 13, .i O.Units), (132, 14, .b (decide (O.Units < 1))), (133, 15, .b (decide (O.Units < 1))), (134, 16, .b (decide (O.Units < 1))), (135, 17, .d (.lit j)), (136, 18, .i c), (137, 19, .ep j 2 c.toNat 0), (138, 20, .ep j 2 c.toNat 1), (139, 21, .i b5.Units), (140, 22, .b (decide (1000000000 < b5.Units))), (141, 23, .b (decide (1000000000 < b5.Units)))], ?_, ?_⟩
              · exact dok [([], []), ([], []), ([], []), ([1, 2], []), ([3], []), ([4], []), ([0, 5], []), ([6], []), ([7], []), ([8], []), ([8], []), ([8, 9, 10], []), ([8, 11], []), ([8, 12], []), ([8, 13], []), ([8, 14], []), ([15], []), ([16], []), ([16], []), ([16, 17, 18], []), ([16, 19], []), ([16, 20], []), ([16, 21], []), ([16, 22], [])] ⟨go (zla 0 (aN s) rfl rfl eC),
      go (zm (.d (.lit j))),
      go (zm (.i c)),
      go (zia 3 rfl rfl rfl kV.of (aX bA a3)),
      go fun S hS => kI (aD rfl) (aV hS rfl) zD,
      go fun S hS => eZ (aD rfl) (aV hS rfl) (m := 3) rfl (dA bA a3) rfl aS,
      go fun S hS => fS (aD rfl) (.func _ _ Tryz.call11) (ev2 (aV hS rfl) (ev2 (aV hS rfl) evn)) rfl (BVs.refl _ _) (iS _ _ c2) rfl,
      go (zn rfl),
      go (zm (.b (!N))),
      gt u (zm (.d (.lit j))),
      gt u (zm (.i c)),
      gt u (zia 3 rfl rfl rfl kV.of (aX bA b3)),
      gt u fun S hS => kI (aD rfl) (aV hS rfl) xF,
      gt u fun S hS => eZ (aD rfl) (aV hS rfl) (m := 3) rfl (dA bA b3) rfl aS,
      gt u (zcm rfl rfl rfl),
      go (zpf (.b (decide (O.Units < 1))) u),
      go (zm (.b (decide (O.Units < 1)))),
      gt t (zm (.d (.lit j))),
      gt t (zm (.i c)),
      gt t (zia 3 rfl rfl rfl kV.of (aX bA d9)),
      gt t fun S hS => kI (aD rfl) (aV hS rfl) xF,
      gt t fun S hS => eZ (aD rfl) (aV hS rfl) (m := 3) rfl (dA bA d9) rfl aS,
      gt t (zcm rfl rfl rfl),
      go (zpf (.b (decide (1000000000 < b5.Units))) t), trivial⟩
              · exact cI (aH rfl (aM ⟨rfl, rfl, rfl, rfl, rfl, rfl, rfl, rfl, trivial⟩))
           ·refine aB ?_;refine tih h (fun i8 h => ?_) (fun i8 h => ?_)
            ·refine aC (aA (tm (.d (.lit j)) (tm (.i c) ?_)));obtain ⟨i9, e0, h⟩ := bns h;refine to (dG (m := 3) (aD rfl) rfl rfl rfl kV.of (aX bA e0)) ?_;refine to (kI (aD rfl) rfl xF) ?_;refine to (eZ (aD rfl) rfl (m := 3) rfl (dA bA e0) rfl aS) ?_;refine to (scm rfl rfl rfl) (tm (.b (decide (1000000000 < i9.Units))) ?_);obtain ⟨e1, a0, h⟩ := bns h;refine bC 2 [] 150 e1 ?_ ?_
             ·refine bch a0 (fun b0 a0 => ?_) (fun b0 a0 => ?_)
              ·obtain ⟨j0, j1, a0⟩ := bns a0;refine tk b0 (scr Tryz.call12 (oB j1)) (to (spt (.b j0) b0) ?_);obtain rfl := sIn a0;refine aB (aO rfl trivial rfl)
              ·refine tp b0 (to (spf (.b false) b0) ?_);obtain rfl := sIn a0;refine aB (aO rfl trivial rfl)
             ·refine ta (.b e1) (aB ?_);obtain rfl := sIn h;refine bM (bI (bJ (l := [2]) ⟨rfl, trivial⟩)) ?_;exact aZ ⟨rfl, _, .one _, rfl, rfl⟩
            ·refine cL ?_;refine aA (tm (.i c) (to (sar rfl rfl rfl) (ta (.i (w64 (c + 1))) (aB ?_))));exact ⟨(w64 (c + 1)), h, aP [0, 1, 2, 3] rfl rfl (aH rfl (aM ⟨rfl, rfl, rfl, rfl, rfl, rfl, rfl, trivial⟩))⟩
          ·refine bT ?_;refine .inl ⟨rfl, ?_⟩;simp only [qI] at h;refine aC (aA (tm (.d (.lit F)) (tm (.d (.lit j)) ?_)));refine qB (aNs [.box b1 0 (aN s), .box W 0 (aN (aK.mk a.Tree Q a.Prizes a.Daily a.Teams a.Levies a.Rates a.Items)), .arr F 72 2 (e.map bA)] [.arr j 72 2 (H.1.map bA)] rfl (pT (k := 152) (v := .d (.sl 2 (H.1.map bA))) (.d (jU 0 rfl (cE (f := bA) fun _ => rfl))) (pT (k := 113) (v := .d (.sl 2 (H.1.map bA))) (.d (jU 0 rfl (cE (f := bA) fun _ => rfl))) (pT (k := 9) (v := .d (.sl 2 (H.1.map bA))) (.d (jU 0 rfl (cE (f := bA) fun _ => rfl))) (aKn _ _))))) ?_;obtain ⟨j2, j3, h⟩ := bns h;refine bD rfl (eT (i := 2) (aD rfl) kV rfl rfl rfl (fun _ => rfl) j3 rfl) ?_;rintro _ ⟨c3, rfl⟩;refine ta (.d (.lit c3)) (aB (aC (aA (to (sla 1 (aN (aK.mk a.Tree Q a.Prizes a.Daily a.Teams a.Levies a.Rates a.Items)) rfl rfl eC) (tm (.d (.lit c3)) ?_)))));obtain ⟨a4, j4, h⟩ := bns h;refine bD rfl (aRq (passed := []) (aD rfl) rfl (.func _ _ Tryz.call34) rfl rfl (.cons (.same _) (.cons (.d (jU 2 rfl (cE (f := bA) fun _ => rfl))) .nil)) (aKg _ _ j4) pmn (by rintro _ _ ⟨_, _, rfl, rfl⟩; exact ⟨rfl, (pmc (aBe (fun _ => rfl)) (pmc (aBe (fun _ => rfl)) pmn))⟩)) ?_;rintro _ ⟨_, _, ⟨c4, c5, rfl, rfl⟩, rfl⟩;refine tm (.tup [.d (.lit c4), .d (.lit c5), .i a4.2.2]) (to (sex rfl rfl) (to (sex rfl rfl) (to (sex rfl rfl) (ta (.d (.lit c4)) (ta (.d (.lit c5)) (ta (.i a4.2.2) (aB (aC (aA (tm (.i a4.2.2) (to (scm rfl rfl rfl) (tm (.b (!decide (a4.2.2 = 0))) ?_))))))))))));obtain ⟨e2, a1, h⟩ := bns h;refine bC 4 [1, 3, 4, 6, 7, 8, 14] 167 e2 ?_ ?_
           ·refine bch a1 (fun K a1 => ?_) (fun K a1 => ?_)
            ·refine tp K (tp K (tp K (to (spt (.b true) K) ?_)));obtain rfl := sIn a1;refine aB (aO rfl ⟨rfl, rfl, rfl, rfl, rfl, rfl, rfl, trivial⟩ rfl)
            ·refine tk K (sm (.d (.lit c4))) (tk K (gA (m := 0) (aD rfl) rfl rfl kV.of) ?_);refine tk K (scm rfl rfl rfl) (to (spf (.b (decide (0 < (a4.1.length : Int)))) K) ?_);obtain rfl := sIn a1;refine aB (aO rfl ⟨rfl, rfl, rfl, rfl, rfl, rfl, rfl, trivial⟩ rfl)
           ·refine tm (.b e2) ?_;obtain ⟨e3, a2, h⟩ := bns h;refine bC 4 [1, 3, 4, 6, 7, 8] 172 e3 ?_ ?_
            ·refine bch a2 (fun L a2 => ?_) (fun L a2 => ?_)
             ·refine tp L (tp L (tp L (to (spt (.b true) L) ?_)));obtain rfl := sIn a2;refine aB (aO rfl ⟨rfl, rfl, rfl, rfl, rfl, rfl, trivial⟩ rfl)
             ·refine tk L (sm (.d (.lit c5))) (tk L (gA (m := 1) (aD rfl) rfl rfl kV.of) ?_);refine tk L (scm rfl rfl rfl) (to (spf (.b (decide (0 < (a4.2.1.length : Int)))) L) ?_);obtain rfl := sIn a2;refine aB (aO rfl ⟨rfl, rfl, rfl, rfl, rfl, rfl, trivial⟩ rfl)
            ·refine aB ?_;refine tih h (fun e4 h => ?_) (fun e4 h => ?_)
             ·refine aC (aA (ta (.b false) (aB ?_)));obtain rfl := sIn h;refine bM (bI (bJ (l := [2]) ⟨rfl, trivial⟩)) ?_;exact aZ ⟨rfl, _, .one _, rfl, rfl⟩
             ·refine cL ?_;simp only [qH] at h;refine aA (tm (.i E) (to (sar rfl rfl rfl) (ta (.i (w64 (E + 1))) (aB ?_))));exact ⟨(w64 (E + 1), (aK.mk a.Tree Q a.Prizes a.Daily a.Teams a.Levies a.Rates a.Items), j2, c3), h, aP [2, 3, 4] rfl rfl (aH rfl (aH rfl (aM ⟨rfl, rfl, rfl, rfl, trivial⟩)))⟩
    ·refine bT ?_;refine .inl ⟨rfl, ?_⟩;simp only [mJ] at h;refine aC (aA (to (sla 0 (aN s) rfl rfl eC) ?_));obtain ⟨C, e5, h⟩ := bns h;refine to (fZ (aD rfl) (.func _ _ Tryz.call26) rfl rfl (aAq _ e5)) ?_;refine tm (.tup [.d (.sl 9 (C.1.map bF)), .i C.2]) (to (sex rfl rfl) (to (sex rfl rfl) (ta (.d (.sl 9 (C.1.map bF))) (ta (.i C.2) (aB (aC (aC (aA (tm (.i C.2) (to (scm rfl rfl rfl) (aB ?_)))))))))));refine tih h (fun e6 h => ?_) (fun e6 h => ?_)
     ·refine aC (aA (ta (.b false) (aB ?_)));obtain rfl := sIn h;refine bM (bI (bJ (l := [2]) ⟨rfl, trivial⟩)) ?_;exact aZ ⟨rfl, _, .one _, rfl, rfl⟩
     ·refine aW (aC (aC (aA (ta (.i 0) (aB (bB ?_))))));refine bQ (S := Int) [7, 16] (fun a5 => [(18, .i a5)]) (fun a5 => [.arr F 72 2 (e.map bA)]) (fun k a5 => fB C.1 e k a5) (fun _ => rfl) (0) h (aP [2] rfl rfl (aH rfl (aM ⟨rfl, rfl, trivial⟩))) ?_;rintro e7 z h;simp only [fB] at h;refine aC (aC (aA (tm (.i z) (tm (.d (.sl 9 (C.1.map bF))) (to (sle rfl aBl.of) (to (scm rfl rfl rfl) (aB ?_)))))));refine tih h (fun e8 h => ?_) (fun e8 h => ?_)
      ·refine aW (aC (bB (aC (aA (ta (.i 0) (aB (aC (aC (aA (ta (.i 0) (aB (bB ?_))))))))))));refine bQ (S := Int × Int) [7, 16, 18] (fun V => [(19, .i V.1), (20, .i V.2)]) (fun V => [.arr F 72 2 (e.map bA)]) (fun k V => fR (fB C.1 e e7) C.1 z e k V.1 V.2) (fun _ => rfl) (0, 0) h (aP [0] rfl rfl (aH rfl (aH rfl (aM ⟨rfl, rfl, rfl, trivial⟩)))) ?_;rintro j5 ⟨B, n⟩ h;simp only [fR] at h;refine aC (aC (aA (tm (.i n) (tm (.d (.lit F)) (to (gA (m := 0) (aD rfl) rfl rfl kV.of) ?_)))));refine to (scm rfl rfl rfl) (aB ?_);refine tih h (fun e9 h => ?_) (fun e9 h => ?_)
       ·refine aW (aC (bB (aC ?_)));obtain ⟨c7, c8, h⟩ := bns h;obtain ⟨A, f0, h⟩ := bns h;refine cW mix 10 [7, 16, 18, 19, 20] [(196, .i c7.Person), (201, .i A.Person)] ?_ ?_
        ·refine ⟨[(192, 0, .d (.lit F)), (193, 1, .i n), (194, 2, .ep F 2 n.toNat 0), (195, 3, .ep F 2 n.toNat 0), (196, 4, .i c7.Person), (197, 5, .d (.sl 9 (C.1.map bF))), (198, 6, .i z), (199, 7, .cp [.lit (.int .i64 A.Person), .lit (.int .i64 A.Gross), .lit (.int .i64 A.Tax), .lit (.int .i64 A.Daily), .lit (.int .i64 A.Fines), .lit (.int .i64 A.Debt), .lit (.int .i64 A.Units), .lit (.int .i64 A.Used), .lit (.int .i64 A.Rest)]), (200, 8, .cp [.lit (.int .i64 A.Person)]), (201, 9, .i A.Person)], ?_, ?_⟩
         · exact dok [([], []), ([], []), ([0, 1], []), ([2], []), ([3], []), ([], []), ([], []), ([5, 6], []), ([7], []), ([8], [])] ⟨go (zm (.d (.lit F))),
      go (zm (.i n)),
      go (zia 0 rfl rfl rfl kV.of (aX bA c8)),
      go fun S hS => kI (aD rfl) (aV hS rfl) zD,
      go fun S hS => eZ (aD rfl) (aV hS rfl) (m := 0) rfl (dA bA c8) rfl aS,
      go (zm (.d (.sl 9 (C.1.map bF)))),
      go (zm (.i z)),
      go (zix rfl rfl aBl.of (aX bF f0)),
      go (zfc [.lit (.int .i64 A.Person)] rfl aFg),
      go (zlc rfl aS), trivial⟩
         · exact cI (aH rfl (aH rfl (aM ⟨rfl, rfl, rfl, rfl, rfl, trivial⟩)))
        ·refine to (scm rfl rfl rfl) (aB ?_);refine tih h (fun f1 h => ?_) (fun f1 h => ?_)
         ·refine aA (tm (.i B) (tm (.d (.lit F)) (tm (.i n) ?_)));obtain ⟨c9, d0, h⟩ := bns h;refine to (dG (m := 0) (aD rfl) rfl rfl rfl kV.of (aX bA d0)) ?_;refine to (kI (aD rfl) rfl xF) ?_;refine to (eZ (aD rfl) rfl (m := 0) rfl (dA bA d0) rfl aS) ?_;refine to (sar rfl rfl rfl) (ta (.i (w64 (B + c9.Units))) ?_);refine cQ ?_;refine aA (tm (.i n) (to (sar rfl rfl rfl) (ta (.i (w64 (n + 1))) (aB ?_))));exact ⟨(w64 (B + c9.Units), w64 (n + 1)), h, aP [0] rfl rfl (aH rfl (aH rfl (aM ⟨rfl, rfl, rfl, trivial⟩)))⟩
         ·refine cL ?_;refine aA (tm (.i n) (to (sar rfl rfl rfl) (ta (.i (w64 (n + 1))) (aB ?_))));exact ⟨(B, w64 (n + 1)), h, aP [0] rfl rfl (aH rfl (aH rfl (aM ⟨rfl, rfl, rfl, trivial⟩)))⟩
       ·refine bT ?_;refine .inl ⟨rfl, ?_⟩;simp only [qL] at h;refine aC (aA (tm (.i B) (tm (.d (.sl 9 (C.1.map bF))) (tm (.i z) ?_))));obtain ⟨f2, f3, h⟩ := bns h;refine to (six rfl rfl aBl.of (aX bF f3)) (to (sfc [.lit (.int .i64 f2.Units)] rfl xD) (to (slc rfl aS) (to (scm rfl rfl rfl) (aB ?_))));refine tih h (fun f4 h => ?_) (fun f4 h => ?_)
        ·refine aC (aA (ta (.b false) (aB ?_)));obtain rfl := sIn h;refine bM (bI (bJ (l := [2]) ⟨rfl, trivial⟩)) ?_;exact aZ ⟨rfl, _, .one _, rfl, rfl⟩
        ·refine cL ?_;simp only [qK] at h;refine aA (tm (.i z) (to (sar rfl rfl rfl) (ta (.i (w64 (z + 1))) (aB ?_))));exact ⟨(w64 (z + 1)), h, aP [0] rfl rfl (aH rfl (aM ⟨rfl, rfl, trivial⟩))⟩
      ·refine bT ?_;refine .inl ⟨rfl, ?_⟩;simp only [qJ] at h;refine aC (aA ?_);obtain ⟨f5, f6, h⟩ := bns h;refine to (scr Tryz.call12 (oB f6)) (ta (.b f5) (aB ?_));obtain rfl := sIn h;refine bM (bI (bJ (l := [2]) ⟨rfl, trivial⟩)) ?_;exact aZ ⟨rfl, _, .one _, rfl, rfl⟩

end Go.Am
