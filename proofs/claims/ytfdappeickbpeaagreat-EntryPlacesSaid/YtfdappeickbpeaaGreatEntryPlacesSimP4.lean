/- The functions compute what the shallow ones say: printed by program. -/
import Derived.Test.YtfdappeickbpeaaGreatEntryPlacesSimP3
namespace Go.Am
open Go.Proofs
set_option maxRecDepth 100000
set_option maxHeartbeats 40000000

theorem tK (n : aV) (g : List aJ) (e : Int) {r : Bool} (h : jX n g e = some r) : Fn Tryz.prog 8 [.agg (aS n), .d (.sl 5 (g.map aE)), .i e] (.b r) := by
 unfold jX at h;refine Fn.of_tr Tryz.func8 rfl (rs := [.tmp 6]) Tryz.results8 Tryz.ntmps8 (Nat.le_of_ble_eq_true rfl) ?_;refine aF (aB ?_);refine bW rfl (iH (v := .agg (aS n)) (aK rfl) rfl rfl rfl) ?_;rintro _ ⟨b1, rfl⟩;refine ta (.b false) (aD (aF (aF (aB (to (sla 0 (aS n) rfl rfl fG) (tm (.d (.sl 5 (g.map aE))) ?_))))));obtain ⟨r2, h3, h⟩ := bns h;refine to (scr Tryz.call11 (xA _ _ h3)) (to (sn rfl) (tm (.b (!r2)) ?_));obtain ⟨b4, h5, h⟩ := bns h;refine aZ 4 [1, 2, 3] 34 b4 ?_ ?_
 ·refine bch h5 (fun f9 h5 => ?_) (fun f9 h5 => ?_)
  ·refine tp f9 (tp f9 (tp f9 (to (spt (.b true) f9) ?_)));obtain rfl := sIn h5;refine aD (aN rfl ⟨rfl, rfl, rfl, trivial⟩ rfl)
  ·refine tk f9 (sm (.i e)) ?_;obtain ⟨w4, w5, h5⟩ := bns h5;refine tk f9 (scr Tryz.call12 (wS _ w5)) (tk f9 (sn rfl) (to (spf (.b (!w4)) f9) ?_));obtain rfl := sIn h5;refine aD (aN rfl ⟨rfl, rfl, rfl, trivial⟩ rfl)
 ·refine aD ?_;refine tih h (fun c6 h => ?_) (fun c6 h => ?_)
  ·refine aF (aB ?_);obtain ⟨r7, h8, h⟩ := bns h;refine to (scr Tryz.call13 (oF h8)) (ta (.b r7) (aD ?_));obtain rfl := sIn h;refine bK (bC (bG (l := [6]) ⟨rfl, trivial⟩)) ?_;exact aW ⟨rfl, _, .one _, rfl, rfl⟩
  ·refine aY (aF (aB (to (sla 0 (aS n) rfl rfl fG) (tm (.d (.sl 5 (g.map aE))) (tm (.i e) ?_)))));obtain ⟨r9, G7, h⟩ := bns h;refine to (dN (aK rfl) (.func _ _ Tryz.call14) rfl rfl (tL _ _ _ G7)) ?_;refine tm (.tup [.agg (bU r9.1), .i r9.2]) (to (sex rfl rfl) (to (sex rfl rfl) ?_));refine bW rfl (eA (zs := [.sl 1 ((([] : List Int)).map aG), .sl 1 ((([] : List Int)).map aG), .sl 1 ((([] : List Int)).map aG), .lit (.int .i64 0)]) (aK rfl) Tryz.zeroValue34 rfl rfl) ?_;rintro _ ⟨Y, rfl⟩;refine to (sst 1 rfl rfl Tryz.sizeOf34 (bU r9.1)) (ta (.i r9.2) (aD (aF (aB (to (sla 0 (aS n) rfl rfl fG) (tm (.d (.sl 5 (g.map aE))) (tfl 0 rfl rfl gT rfl aQ ?_)))))));obtain ⟨e0, G8, h⟩ := bns h;refine to (dN (aK rfl) (.func _ _ Tryz.call14) rfl rfl (tL _ _ _ G8)) ?_;refine tm (.tup [.agg (bU e0.1), .i e0.2]) (to (sex rfl rfl) (to (sex rfl rfl) ?_));refine bW rfl (eA (zs := [.sl 1 ((([] : List Int)).map aG), .sl 1 ((([] : List Int)).map aG), .sl 1 ((([] : List Int)).map aG), .lit (.int .i64 0)]) (aK rfl) Tryz.zeroValue34 rfl rfl) ?_;rintro _ ⟨k0, rfl⟩;refine to (sst 2 rfl rfl Tryz.sizeOf34 (bU e0.1)) (ta (.i e0.2) (aD (aF (aF (aB (tm (.i r9.2) (to (scm rfl rfl rfl) (tm (.b (!decide (r9.2 = 0))) ?_))))))));obtain ⟨v6, p0, h⟩ := bns h;refine aZ 3 [1, 2, 3, 7, 9] 56 v6 ?_ ?_
   ·refine bch p0 (fun i0 p0 => ?_) (fun i0 p0 => ?_)
    ·refine tp i0 (tp i0 (to (spt (.b true) i0) ?_));obtain rfl := sIn p0;refine aD (aN rfl ⟨rfl, rfl, rfl, rfl, rfl, trivial⟩ rfl)
    ·refine tk i0 (sm (.i e0.2)) (tk i0 (scm rfl rfl rfl) (to (spf (.b (!decide (e0.2 = 0))) i0) ?_));obtain rfl := sIn p0;refine aD (aN rfl ⟨rfl, rfl, rfl, rfl, rfl, trivial⟩ rfl)
   ·refine tm (.b v6) ?_;obtain ⟨v7, p1, h⟩ := bns h;refine aZ 4 [1, 2, 3, 7, 9] 61 v7 ?_ ?_
    ·refine bch p1 (fun h6 p1 => ?_) (fun h6 p1 => ?_)
     ·refine tp h6 (tp h6 (tp h6 (to (spt (.b true) h6) ?_)));obtain rfl := sIn p1;refine aD (aN rfl ⟨rfl, rfl, rfl, rfl, rfl, trivial⟩ rfl)
     ·refine tkl 1 h6 rfl rfl zO rfl aQ (tk h6 (scm rfl rfl rfl) (to (spf (.b (decide (r9.1.Open < 0))) h6) ?_));obtain rfl := sIn p1;refine aD (aN rfl ⟨rfl, rfl, rfl, rfl, rfl, trivial⟩ rfl)
    ·refine tm (.b v7) ?_;obtain ⟨G9, p2, h⟩ := bns h;refine aZ 7 [1, 2, 3, 7, 9] 69 G9 ?_ ?_
     ·refine bch p2 (fun d8 p2 => ?_) (fun d8 p2 => ?_)
      ·refine tp d8 (tp d8 (tp d8 (tp d8 (tp d8 (tp d8 (to (spt (.b true) d8) ?_))))));obtain rfl := sIn p2;refine aD (aN rfl ⟨rfl, rfl, rfl, rfl, rfl, trivial⟩ rfl)
      ·refine tkl 1 d8 rfl rfl iS rfl cH (tk d8 (sle rfl bA.of) (tkl 0 d8 rfl rfl tQ rfl aQ (tk d8 (scm rfl rfl rfl) (to (spf (.b (decide (n.Wilds < (r9.1.Wilds.length : Int)))) d8) ?_))));obtain rfl := sIn p2;refine aD (aN rfl ⟨rfl, rfl, rfl, rfl, rfl, trivial⟩ rfl)
     ·refine aD ?_;refine tih h (fun H0 h => ?_) (fun H0 h => ?_)
      ·refine aF (aB (ta (.b false) (aD ?_)));obtain rfl := sIn h;refine bK (bC (bG (l := [6]) ⟨rfl, trivial⟩)) ?_;exact aW ⟨rfl, _, .one _, rfl, rfl⟩
      ·refine aY (aF (aB (ta (.i 0) (aD (aF (aF (aB (tm (.i e) (tfl 0 rfl rfl gT rfl aQ (to (scm rfl rfl rfl) (aD ?_)))))))))));refine tih h (fun H1 h => ?_) (fun H1 h => ?_)
       ·refine aF (aB (ta (.i 0) (aD (bL ?_))));refine cF (S := Int × Int) [1, 2, 3, 7, 9] (fun o1 => [(11, .i o1.1), (12, .i o1.2)]) (fun o1 => [.box b1 0 (aS n), .box Y 0 (bU r9.1), .box k0 0 (bU e0.1)]) (fun k o1 => dJ g e n r9.1 e0.1 k o1.1 o1.2) (fun _ => rfl) (0, 0) h (aP [0, 1, 2] rfl rfl (aL rfl (aL rfl (aM ⟨rfl, rfl, rfl, rfl, rfl, trivial⟩)))) ?_;rintro L7 ⟨s, d7⟩ h;simp only [dJ] at h;refine aF (aF (aB (tm (.i d7) (tfl 2 rfl rfl iS rfl cH (to (sle rfl bA.of) (to (scm rfl rfl rfl) (aD ?_)))))));refine tih h (fun H2 h => ?_) (fun H2 h => ?_)
        ·refine aY (aF (bL (aF ?_)));obtain ⟨s4, H3, h⟩ := bns h;refine bR mix 7 [1, 2, 3, 7, 9, 11, 12] [(82, .d (.sl 1 (r9.1.Wilds.map aG))), (87, .i s4)] ?_ ?_
         ·refine ⟨[(81, 0, .bp Y 0 1), (82, 1, .d (.sl 1 (r9.1.Wilds.map aG))), (83, 2, .bp k0 0 1), (84, 3, .d (.sl 1 (e0.1.Wilds.map aG))), (85, 4, .i d7), (86, 5, .cp [.lit (.int .i64 s4)]), (87, 6, .i s4)], ?_, ?_⟩
          · exact dok [([], []), ([0], []), ([], []), ([2], []), ([], []), ([3, 4], []), ([5], [])] ⟨go (zf rfl iS),
      go (zl 1 rfl rfl rfl cH),
      go (zf rfl iS),
      go (zl 2 rfl rfl rfl cH),
      go (zm (.i d7)),
      go (zix rfl rfl bA.of (aX aG H3)),
      go (zlc rfl aQ), trivial⟩
          · exact bH (aL rfl (aL rfl (aM ⟨rfl, rfl, rfl, rfl, rfl, rfl, rfl, trivial⟩)))
         ·obtain ⟨L8, H4, h⟩ := bns h;refine to (scr Tryz.call17 (zG _ _ H4)) (to (sn rfl) (aD ?_));refine tih h (fun H5 h => ?_) (fun H5 h => ?_)
          ·refine aB (tm (.i s) (to (sar rfl rfl rfl) (ta (.i (w64 (s + 1))) ?_)));refine cP ?_;refine aB (tm (.i d7) (to (sar rfl rfl rfl) (ta (.i (w64 (d7 + 1))) (aD ?_))));exact ⟨(w64 (s + 1), w64 (d7 + 1)), h, aP [0, 1, 2] rfl rfl (aL rfl (aL rfl (aM ⟨rfl, rfl, rfl, rfl, rfl, trivial⟩)))⟩
          ·refine bY ?_;refine aB (tm (.i d7) (to (sar rfl rfl rfl) (ta (.i (w64 (d7 + 1))) (aD ?_))));exact ⟨(s, w64 (d7 + 1)), h, aP [0, 1, 2] rfl rfl (aL rfl (aL rfl (aM ⟨rfl, rfl, rfl, rfl, rfl, trivial⟩)))⟩
        ·refine cD ?_;refine .inl ⟨rfl, ?_⟩;simp only [gN] at h;refine aF ?_;obtain ⟨v8, H6, h⟩ := bns h;obtain ⟨s5, H7, h⟩ := bns h;refine iY mix 9 [1, 2, 3, 7, 11] (fun N => [(98, .d (.lit (N 6).v)), (100, .d (.sl 1 (r9.1.Out.map aG)))]) (fun N => [.box b1 0 (aS n), .box Y 0 (bU r9.1), .box k0 0 (bU e0.1), .arr (N 6).v 3 1 (s5.map aG)]) ?_ ?_
         ·refine ⟨1, fun N => [(92, 0, .d (.lit (N 0).v)), (93, 1, .bp Y 0 0), (94, 2, .d (.sl 1 (r9.1.Main.map aG))), (95, 3, .d (.lit (N 3).v)), (96, 4, .bp Y 0 1), (97, 5, .d (.sl 1 (r9.1.Wilds.map aG))), (98, 6, .d (.lit (N 6).v)), (99, 7, .bp Y 0 2), (100, 8, .d (.sl 1 (r9.1.Out.map aG)))], fun N => [([], .box b1 0 (aS n)), ([], .box Y 0 (bU r9.1)), ([], .box k0 0 (bU e0.1)), ([(6, .arr (N 6).v 3 1 (s5.map aG)), (3, .arr (N 3).v 3 1 (v8.map aG)), (0, .arr (N 0).v 3 1 (([] : List Int).map aG))], nob)], ?_, ?_⟩
          · exact ⟨by kernel_rfl, by kernel_rfl, by kernel_rfl, fun _ => by kernel_rfl, fun _ => by kernel_rfl, fun _ => by kernel_rfl, fun _ => rfl, [([], [3, 6]), ([], [3, 6]), ([1], [3, 6]), ([0, 2], [6]), ([], [6]), ([4], [6]), ([0, 3, 5], []), ([], []), ([7], [])], by kernel_rfl, ⟨fun N S hw hi hS => lL (X := N) (p := 3) (v := fun x => .d (.lit x.v)) (mo := fun x => .arr x.v 3 1 (([] : List Int).map aG)) hS hi rfl rfl (fun _ => rfl) hw (fun _ => rfl) (fun _ => rfl) (fun _ => rfl) (fun _ => ⟨rfl, rfl, .inl rfl, ⟨rfl, rfl, .inr rfl, ⟨rfl, rfl, .inr rfl, ⟨rfl, rfl, .inr rfl, ⟨rfl, rfl, .inr rfl, ⟨rfl, rfl, .inr rfl, ⟨rfl, rfl, .inr rfl, ⟨rfl, rfl, .inr rfl, ⟨rfl, rfl, .inr rfl, trivial⟩⟩⟩⟩⟩⟩⟩⟩⟩) (fun _ => ⟨trivial, rfl, ⟨trivial, rfl, ⟨trivial, rfl, ⟨⟨rfl, .inr rfl, ⟨rfl, .inr rfl, ⟨rfl, .inl rfl, trivial⟩⟩⟩, rfl, trivial⟩⟩⟩⟩) (fS (aDe (aK rfl) bA rfl pan (rows := (([] : List Int)).map aG) rfl (bD (f := aG) fun _ => rfl) rfl (by decide)) (by rintro _ ⟨w, rfl⟩; exact ⟨⟨0, w⟩, aP [0, 1, 2, 4] rfl rfl (le_refl _)⟩)),
      fun N S hw hi hS => bE (X := N) rfl (hw N) rfl (bV rfl (cN (aK rfl) (aO hS rfl) gU)),
      fun N S hw hi hS => bE (X := N) rfl (hw N) rfl (bV rfl (dA (aK rfl) (aO hS rfl) (i := 1) (og hS rfl rfl) rfl cH)),
      fun N S hw hi hS => lL (X := N) (p := 3) (v := fun x => .d (.lit x.v)) (mo := fun x => .arr x.v 3 1 (v8.map aG)) hS hi rfl rfl (fun _ => rfl) hw (fun _ => rfl) (fun _ => rfl) (fun _ => rfl) (fun _ => ⟨rfl, rfl, .inr rfl, ⟨rfl, rfl, .inr rfl, ⟨rfl, rfl, .inr rfl, ⟨rfl, rfl, .inl rfl, ⟨rfl, rfl, .inr rfl, ⟨rfl, rfl, .inr rfl, ⟨rfl, rfl, .inr rfl, ⟨rfl, rfl, .inr rfl, ⟨rfl, rfl, .inr rfl, trivial⟩⟩⟩⟩⟩⟩⟩⟩⟩) (fun _ => ⟨trivial, rfl, ⟨trivial, rfl, ⟨trivial, rfl, ⟨⟨rfl, .inr rfl, ⟨rfl, .inl rfl, ⟨rfl, .inr rfl, trivial⟩⟩⟩, rfl, trivial⟩⟩⟩⟩) (fS (gJ (i := 3) (aK rfl) bA (aO hS rfl) (og hS rfl rfl) (aO hS rfl) (fun _ => rfl) H6 rfl) (by rintro _ ⟨w, rfl⟩; exact ⟨⟨0, w⟩, Ent.refl _⟩)),
      fun N S hw hi hS => bE (X := N) rfl (hw N) rfl (bV rfl (cN (aK rfl) (aO hS rfl) iS)),
      fun N S hw hi hS => bE (X := N) rfl (hw N) rfl (bV rfl (dA (aK rfl) (aO hS rfl) (i := 1) (og hS rfl rfl) rfl cH)),
      fun N S hw hi hS => lL (X := N) (p := 3) (v := fun x => .d (.lit x.v)) (mo := fun x => .arr x.v 3 1 (s5.map aG)) hS hi rfl rfl (fun _ => rfl) hw (fun _ => rfl) (fun _ => rfl) (fun _ => rfl) (fun _ => ⟨rfl, rfl, .inr rfl, ⟨rfl, rfl, .inr rfl, ⟨rfl, rfl, .inr rfl, ⟨rfl, rfl, .inr rfl, ⟨rfl, rfl, .inr rfl, ⟨rfl, rfl, .inr rfl, ⟨rfl, rfl, .inl rfl, ⟨rfl, rfl, .inr rfl, ⟨rfl, rfl, .inr rfl, trivial⟩⟩⟩⟩⟩⟩⟩⟩⟩) (fun _ => ⟨trivial, rfl, ⟨trivial, rfl, ⟨trivial, rfl, ⟨⟨rfl, .inl rfl, ⟨rfl, .inr rfl, ⟨rfl, .inr rfl, trivial⟩⟩⟩, rfl, trivial⟩⟩⟩⟩) (fS (gJ (i := 3) (aK rfl) bA (aO hS rfl) (og hS rfl rfl) (aO hS rfl) (fun _ => rfl) H7 rfl) (by rintro _ ⟨w, rfl⟩; exact ⟨⟨0, w⟩, Ent.refl _⟩)),
      fun N S hw hi hS => bE (X := N) rfl (hw N) rfl (bV rfl (cN (aK rfl) (aO hS rfl) zN)),
      fun N S hw hi hS => bE (X := N) rfl (hw N) rfl (bV rfl (dA (aK rfl) (aO hS rfl) (i := 1) (og hS rfl rfl) rfl cH)), trivial⟩⟩
          · exact fun N => bH (aL rfl (aL rfl (aM ⟨rfl, rfl, rfl, rfl, rfl, trivial⟩)))
         ·intro N;obtain ⟨t, H8, h⟩ := bns h;refine bW rfl (gJ (i := 3) (aK rfl) bA rfl rfl rfl (fun _ => rfl) H8 rfl) ?_;rintro _ ⟨H9, rfl⟩;refine dD (vH [.box b1 0 (aS n), .box Y 0 (bU r9.1), .box k0 0 (bU e0.1)] [.arr H9 3 1 (t.map aG)] rfl (aIq (v' := .d (.sl 1 (t.map aG))) (.d (aGu (bD (f := aG) fun _ => rfl))) (iA _ _))) ?_;refine ta (.d (.sl 1 (t.map aG))) (aD (aF (aB (ta (.i 0) (aD (aF (aF (aB (ta (.i 0) (aD (bL ?_)))))))))));refine cF (S := Int × Int) [1, 2, 3, 7, 11, 13] (fun o2 => [(14, .i o2.1), (15, .i o2.2)]) (fun o2 => [.box b1 0 (aS n), .box Y 0 (bU r9.1)]) (fun k o2 => bP g e s t n r9.1 k o2.1 o2.2) (fun _ => rfl) (0, 0) h (aP [0, 1] rfl rfl (aL rfl (aL rfl (aM ⟨rfl, rfl, rfl, rfl, rfl, rfl, trivial⟩)))) ?_;rintro p3 ⟨m, c⟩ h;simp only [bP] at h;refine aF (aF (aB (tm (.i c) (tm (.d (.sl 1 (t.map aG))) (to (sle rfl bA.of) (to (scm rfl rfl rfl) (aD ?_)))))));refine tih h (fun I0 h => ?_) (fun I0 h => ?_)
          ·refine aY (aF (bL (aF (aF (aB (ta (.i 0) (aD (bL ?_))))))));refine cF (S := Int) [1, 2, 3, 7, 11, 13, 14, 15] (fun s1 => [(16, .i s1)]) (fun s1 => [.box b1 0 (aS n), .box Y 0 (bU r9.1)]) (fun k s1 => dC (bP g e s t n r9.1 p3) g e s t m c n r9.1 k s1) (fun _ => rfl) (0) h (aP [0, 1] rfl rfl (aL rfl (aM ⟨rfl, rfl, rfl, rfl, rfl, rfl, rfl, rfl, trivial⟩))) ?_;rintro L9 f8 h;simp only [dC] at h;refine aF (aF (aB (tm (.i f8) (tm (.i c) (to (scm rfl rfl rfl) (aD ?_))))));refine tih h (fun I1 h => ?_) (fun I1 h => ?_)
           ·refine aY (aF (bL (aF ?_)));obtain ⟨s6, I2, h⟩ := bns h;obtain ⟨s7, I3, h⟩ := bns h;refine bR mix 8 [1, 2, 3, 7, 11, 13, 14, 15, 16] [(116, .i s6), (120, .i s7)] ?_ ?_
            ·refine ⟨[(113, 0, .d (.sl 1 (t.map aG))), (114, 1, .i f8), (115, 2, .cp [.lit (.int .i64 s6)]), (116, 3, .i s6), (117, 4, .d (.sl 1 (t.map aG))), (118, 5, .i c), (119, 6, .cp [.lit (.int .i64 s7)]), (120, 7, .i s7)], ?_, ?_⟩
             · exact dok [([], []), ([], []), ([0, 1], []), ([2], []), ([], []), ([], []), ([4, 5], []), ([6], [])] ⟨go (zm (.d (.sl 1 (t.map aG)))),
      go (zm (.i f8)),
      go (zix rfl rfl bA.of (aX aG I2)),
      go (zlc rfl aQ),
      go (zm (.d (.sl 1 (t.map aG)))),
      go (zm (.i c)),
      go (zix rfl rfl bA.of (aX aG I3)),
      go (zlc rfl aQ), trivial⟩
             · exact bH (aL rfl (aL rfl (aM ⟨rfl, rfl, rfl, rfl, rfl, rfl, rfl, rfl, rfl, trivial⟩)))
            ·refine to (scm rfl rfl rfl) (aD ?_);refine tih h (fun I4 h => ?_) (fun I4 h => ?_)
             ·refine aF (aB (ta (.b false) (aD ?_)));obtain rfl := sIn h;refine bK (bC (bG (l := [6]) ⟨rfl, trivial⟩)) ?_;exact aW ⟨rfl, _, .one _, rfl, rfl⟩
             ·refine bY ?_;refine aB (tm (.i f8) (to (sar rfl rfl rfl) (ta (.i (w64 (f8 + 1))) (aD ?_))));exact ⟨(w64 (f8 + 1)), h, aP [0, 1] rfl rfl (aL rfl (aM ⟨rfl, rfl, rfl, rfl, rfl, rfl, rfl, rfl, trivial⟩))⟩
           ·refine cD ?_;refine .inl ⟨rfl, ?_⟩;simp only [eF] at h;refine aF ?_;obtain ⟨v9, I5, h⟩ := bns h;obtain ⟨G, I6, h⟩ := bns h;refine bR mix 14 [1, 2, 3, 7, 11, 13, 14, 15] [(17, .i G.1), (18, .i G.2.1), (133, .i G.2.2)] ?_ ?_
            ·refine ⟨[(123, 0, .agg (aS n)), (124, 1, .d (.sl 5 (g.map aE))), (125, 2, .i e), (126, 3, .d (.sl 1 (t.map aG))), (127, 4, .i c), (128, 5, .cp [.lit (.int .i64 v9)]), (129, 6, .i v9), (130, 7, .tup [.i G.1, .i G.2.1, .i G.2.2]), (122, 8, .tup [.i G.1, .i G.2.1, .i G.2.2]), (131, 9, .i G.1), (132, 10, .i G.2.1), (133, 11, .i G.2.2), (17, 12, .i G.1), (18, 13, .i G.2.1)], ?_, ?_⟩
             · exact dok [([], []), ([], []), ([], []), ([], []), ([], []), ([3, 4], []), ([5], []), ([0, 1, 2, 6], []), ([7], []), ([8], []), ([8], []), ([8], []), ([9], []), ([10], [])] ⟨go (zla 0 (aS n) rfl rfl fG),
      go (zm (.d (.sl 5 (g.map aE)))),
      go (zm (.i e)),
      go (zm (.d (.sl 1 (t.map aG)))),
      go (zm (.i c)),
      go (zix rfl rfl bA.of (aX aG I5)),
      go (zlc rfl aQ),
      go fun S hS => fN (aK rfl) (.func _ _ Tryz.call24) (ev2 (aO hS rfl) (ev2 (aO hS rfl) (ev2 (aO hS rfl) (ev2 (aO hS rfl) evn)))) rfl (BVs.refl _ _) (wN _ _ _ _ I6) rfl,
      go (zm (.tup [.i G.1, .i G.2.1, .i G.2.2])),
      go (zex rfl rfl),
      go (zex rfl rfl),
      go (zex rfl rfl),
      go (za (.i G.1)),
      go (za (.i G.2.1)), trivial⟩
             · exact bH (aL rfl (aL rfl (aL rfl (aM ⟨rfl, rfl, rfl, rfl, rfl, rfl, rfl, rfl, trivial⟩))))
            ·refine ta (.i G.2.2) (aD (aF (aB (tm (.i c) (to (sar rfl rfl rfl) (ta (.i 1) (ta (.i (w64 (c + 1))) (aD (aF (aF (aB (tm (.i c) (to (sf rfl gU) ?_)))))))))))));refine to (sl 1 rfl rfl rfl cH) (to (sle rfl bA.of) (to (scm rfl rfl rfl) (aD ?_)));refine tih h (fun I7 h => ?_) (fun I7 h => ?_)
             ·refine bR mix 7 [1, 2, 3, 7, 11, 13, 14, 15, 17, 18, 19] [(20, .i 2), (146, .i (w64 ((w64 (c + 1)) - (r9.1.Main.length : Int))))] ?_ ?_
              ·refine ⟨[(141, 0, .i c), (142, 1, .i (w64 (c + 1))), (143, 2, .bp Y 0 0), (144, 3, .d (.sl 1 (r9.1.Main.map aG))), (145, 4, .i (r9.1.Main.length : Int)), (146, 5, .i (w64 ((w64 (c + 1)) - (r9.1.Main.length : Int)))), (20, 6, .i 2)], ?_, ?_⟩
               · exact dok [([], []), ([0], []), ([], []), ([2], []), ([3], []), ([1, 4], []), ([], [])] ⟨go (zm (.i c)),
      go (zar rfl rfl rfl),
      go (zf rfl gU),
      go (zl 1 rfl rfl rfl cH),
      go (zle rfl bA.of),
      go (zar rfl rfl rfl),
      go (za (.i 2)), trivial⟩
               · exact bH (aL rfl (aL rfl (aM ⟨rfl, rfl, rfl, rfl, rfl, rfl, rfl, rfl, rfl, rfl, rfl, trivial⟩)))
              ·refine ta (.i (w64 ((w64 (c + 1)) - (r9.1.Main.length : Int)))) (aD (aF (aF (aB (tm (.i c) (tfl 1 rfl rfl gU rfl cH (to (sle rfl bA.of) (tfl 1 rfl rfl iS rfl cH (to (sle rfl bA.of) (to (sar rfl rfl rfl) (to (scm rfl rfl rfl) ?_)))))))))));refine aD ?_;refine tih h (fun I8 h => ?_) (fun I8 h => ?_)
               ·refine bR mix 11 [1, 2, 3, 7, 11, 13, 14, 15, 17, 18, 19] [(20, .i 3), (165, .i (w64 ((w64 ((w64 (c + 1)) - (r9.1.Main.length : Int))) - (r9.1.Wilds.length : Int))))] ?_ ?_
                ·refine ⟨[(156, 0, .i c), (157, 1, .i (w64 (c + 1))), (158, 2, .bp Y 0 0), (159, 3, .d (.sl 1 (r9.1.Main.map aG))), (160, 4, .i (r9.1.Main.length : Int)), (161, 5, .i (w64 ((w64 (c + 1)) - (r9.1.Main.length : Int)))), (162, 6, .bp Y 0 1), (163, 7, .d (.sl 1 (r9.1.Wilds.map aG))), (164, 8, .i (r9.1.Wilds.length : Int)), (165, 9, .i (w64 ((w64 ((w64 (c + 1)) - (r9.1.Main.length : Int))) - (r9.1.Wilds.length : Int)))), (20, 10, .i 3)], ?_, ?_⟩
                 · exact dok [([], []), ([0], []), ([], []), ([2], []), ([3], []), ([1, 4], []), ([], []), ([6], []), ([7], []), ([5, 8], []), ([], [])] ⟨go (zm (.i c)),
      go (zar rfl rfl rfl),
      go (zf rfl gU),
      go (zl 1 rfl rfl rfl cH),
      go (zle rfl bA.of),
      go (zar rfl rfl rfl),
      go (zf rfl iS),
      go (zl 1 rfl rfl rfl cH),
      go (zle rfl bA.of),
      go (zar rfl rfl rfl),
      go (za (.i 3)), trivial⟩
                 · exact bH (aL rfl (aL rfl (aM ⟨rfl, rfl, rfl, rfl, rfl, rfl, rfl, rfl, rfl, rfl, rfl, trivial⟩)))
                ·refine ta (.i (w64 ((w64 ((w64 (c + 1)) - (r9.1.Main.length : Int))) - (r9.1.Wilds.length : Int)))) (aD (aF (aF (aB (tm (.i G.2.2) (to (scm rfl rfl rfl) (tm (.b (!decide (G.2.2 = 0))) ?_)))))));obtain ⟨w0, p4, h⟩ := bns h;refine aZ 4 [1, 2, 3, 7, 11, 13, 14, 15, 18, 20, 21] 172 w0 ?_ ?_
                 ·refine bch p4 (fun j7 p4 => ?_) (fun j7 p4 => ?_)
                  ·refine tp j7 (tp j7 (tp j7 (to (spt (.b true) j7) ?_)));obtain rfl := sIn p4;refine aD (aN rfl ⟨rfl, rfl, rfl, rfl, rfl, rfl, rfl, rfl, rfl, rfl, rfl, trivial⟩ rfl)
                  ·refine tk j7 (sm (.i G.1)) (tk j7 (sm (.i 3)) (tk j7 (scm rfl rfl rfl) (to (spf (.b (!decide (G.1 = 3))) j7) ?_)));obtain rfl := sIn p4;refine aD (aN rfl ⟨rfl, rfl, rfl, rfl, rfl, rfl, rfl, rfl, rfl, rfl, rfl, trivial⟩ rfl)
                 ·refine tm (.b w0) ?_;obtain ⟨I9, p5, h⟩ := bns h;refine aZ 4 [1, 2, 3, 7, 11, 13, 14, 15, 20] 177 I9 ?_ ?_
                  ·refine bch p5 (fun j8 p5 => ?_) (fun j8 p5 => ?_)
                   ·refine tp j8 (tp j8 (tp j8 (to (spt (.b true) j8) ?_)));obtain rfl := sIn p5;refine aD (aN rfl ⟨rfl, rfl, rfl, rfl, rfl, rfl, rfl, rfl, rfl, trivial⟩ rfl)
                   ·refine tk j8 (sm (.i G.2.1)) (tk j8 (sm (.i (w64 ((w64 ((w64 (c + 1)) - (r9.1.Main.length : Int))) - (r9.1.Wilds.length : Int))))) (tk j8 (scm rfl rfl rfl) (to (spf (.b (!decide (G.2.1 = (w64 ((w64 ((w64 (c + 1)) - (r9.1.Main.length : Int))) - (r9.1.Wilds.length : Int)))))) j8) ?_)));obtain rfl := sIn p5;refine aD (aN rfl ⟨rfl, rfl, rfl, rfl, rfl, rfl, rfl, rfl, rfl, trivial⟩ rfl)
                  ·refine aD ?_;refine tih h (fun J0 h => ?_) (fun J0 h => ?_)
                   ·refine aF (aB (ta (.b false) (aD ?_)));obtain rfl := sIn h;refine bK (bC (bG (l := [6]) ⟨rfl, trivial⟩)) ?_;exact aW ⟨rfl, _, .one _, rfl, rfl⟩
                   ·refine aY (aF (aF (aB (ta (.i 0) (aD (bL ?_))))));refine cF (S := Int) [1, 2, 3, 7, 11, 13, 14, 15, 20] (fun s2 => [(22, .i s2)]) (fun s2 => [.box b1 0 (aS n), .box Y 0 (bU r9.1)]) (fun k s2 => bI (bP g e s t n r9.1 p3) g e s t m c 3 n r9.1 k s2) (fun _ => rfl) (0) h (aP [0, 1] rfl rfl (aL rfl (aM ⟨rfl, rfl, rfl, rfl, rfl, rfl, rfl, rfl, rfl, trivial⟩))) ?_;rintro M0 a6 h;simp only [bI] at h;refine aF (aF (aB (tm (.i a6) (tm (.d (.sl 5 (g.map aE))) (to (sle rfl bZ.of) (to (scm rfl rfl rfl) (aD ?_)))))));refine tih h (fun J1 h => ?_) (fun J1 h => ?_)
                    ·refine aY (aF (bL (aF ?_)));obtain ⟨a7, s8, h⟩ := bns h;obtain ⟨e1, s9, h⟩ := bns h;obtain ⟨M1, k1, h⟩ := bns h;obtain ⟨J2, h9, h⟩ := bns h;refine bR mix 27 [1, 2, 3, 7, 11, 13, 14, 15, 20, 22] [(210, .b J2)] ?_ ?_
                     ·refine bch k1 (fun c9 k1 => ?_) (fun c9 k1 => ?_)
                      ·obtain ⟨c7, w1, k1⟩ := bns k1;obtain rfl := sIn k1;refine bch h9 (fun c5 h9 => ?_) (fun c5 h9 => ?_)
                       ·obtain ⟨h7, J3, h9⟩ := bns h9;obtain rfl := sIn h9;refine ⟨[(184, 0, .d (.sl 5 (g.map aE))), (185, 1, .i a6), (186, 2, .cp [.lit (.int .i64 a7.Id), .lit (.int .i64 a7.Hour), .lit (.int .i64 a7.Kind), .lit (.int .i64 a7.Player), .lit (.int .i64 a7.Rank)]), (187, 3, .cp [.lit (.int .i64 a7.Player)]), (188, 4, .i a7.Player), (189, 5, .d (.sl 1 (t.map aG))), (190, 6, .i c), (191, 7, .cp [.lit (.int .i64 e1)]), (192, 8, .i e1), (193, 9, .b (decide (a7.Player = e1))), (194, 10, .b (decide (a7.Player = e1))), (195, 11, .d (.sl 5 (g.map aE))), (196, 12, .i a6), (197, 13, .cp [.lit (.int .i64 c7.Id), .lit (.int .i64 c7.Hour), .lit (.int .i64 c7.Kind), .lit (.int .i64 c7.Player), .lit (.int .i64 c7.Rank)]), (198, 14, .cp [.lit (.int .i64 c7.Kind)]), (199, 15, .i c7.Kind), (200, 16, .b (decide (c7.Kind = 4))), (201, 17, .b (decide (c7.Kind = 4))), (202, 18, .b (decide (c7.Kind = 4))), (203, 19, .d (.sl 5 (g.map aE))), (204, 20, .i a6), (205, 21, .cp [.lit (.int .i64 h7.Id), .lit (.int .i64 h7.Hour), .lit (.int .i64 h7.Kind), .lit (.int .i64 h7.Player), .lit (.int .i64 h7.Rank)]), (206, 22, .cp [.lit (.int .i64 h7.Hour)]), (207, 23, .i h7.Hour), (208, 24, .i e), (209, 25, .b (decide (h7.Hour ≤ e))), (210, 26, .b (decide (h7.Hour ≤ e)))], ?_, ?_⟩
                        · exact dok [([], []), ([], []), ([0, 1], []), ([2], []), ([3], []), ([], []), ([], []), ([5, 6], []), ([7], []), ([4, 8], []), ([9], []), ([10], []), ([10], []), ([10, 11, 12], []), ([10, 13], []), ([10, 14], []), ([10, 15], []), ([10, 16], []), ([17], []), ([18], []), ([18], []), ([18, 19, 20], []), ([18, 21], []), ([18, 22], []), ([18], []), ([18, 23, 24], []), ([18, 25], [])] ⟨go (zm (.d (.sl 5 (g.map aE)))),
      go (zm (.i a6)),
      go (zix rfl rfl bZ.of (aX aE s8)),
      go (zfc [.lit (.int .i64 a7.Player)] rfl cC),
      go (zlc rfl aQ),
      go (zm (.d (.sl 1 (t.map aG)))),
      go (zm (.i c)),
      go (zix rfl rfl bA.of (aX aG s9)),
      go (zlc rfl aQ),
      go (zcm rfl rfl rfl),
      go (zm (.b (decide (a7.Player = e1)))),
      gt c9 (zm (.d (.sl 5 (g.map aE)))),
      gt c9 (zm (.i a6)),
      gt c9 (zix rfl rfl bZ.of (aX aE w1)),
      gt c9 (zfc [.lit (.int .i64 c7.Kind)] rfl eH),
      gt c9 (zlc rfl aQ),
      gt c9 (zcm rfl rfl rfl),
      go (zpt (.b (decide (c7.Kind = 4))) c9),
      go (zm (.b (decide (c7.Kind = 4)))),
      gt c5 (zm (.d (.sl 5 (g.map aE)))),
      gt c5 (zm (.i a6)),
      gt c5 (zix rfl rfl bZ.of (aX aE J3)),
      gt c5 (zfc [.lit (.int .i64 h7.Hour)] rfl cT),
      gt c5 (zlc rfl aQ),
      gt c5 (zm (.i e)),
      gt c5 (zcm rfl rfl rfl),
      go (zpt (.b (decide (h7.Hour ≤ e))) c5), trivial⟩
                        · exact bH (aL rfl (aM ⟨rfl, rfl, rfl, rfl, rfl, rfl, rfl, rfl, rfl, rfl, trivial⟩))
                       ·obtain rfl := sIn h9;refine ⟨[(184, 0, .d (.sl 5 (g.map aE))), (185, 1, .i a6), (186, 2, .cp [.lit (.int .i64 a7.Id), .lit (.int .i64 a7.Hour), .lit (.int .i64 a7.Kind), .lit (.int .i64 a7.Player), .lit (.int .i64 a7.Rank)]), (187, 3, .cp [.lit (.int .i64 a7.Player)]), (188, 4, .i a7.Player), (189, 5, .d (.sl 1 (t.map aG))), (190, 6, .i c), (191, 7, .cp [.lit (.int .i64 e1)]), (192, 8, .i e1), (193, 9, .b (decide (a7.Player = e1))), (194, 10, .b (decide (a7.Player = e1))), (195, 11, .d (.sl 5 (g.map aE))), (196, 12, .i a6), (197, 13, .cp [.lit (.int .i64 c7.Id), .lit (.int .i64 c7.Hour), .lit (.int .i64 c7.Kind), .lit (.int .i64 c7.Player), .lit (.int .i64 c7.Rank)]), (198, 14, .cp [.lit (.int .i64 c7.Kind)]), (199, 15, .i c7.Kind), (200, 16, .b (decide (c7.Kind = 4))), (201, 17, .b (decide (c7.Kind = 4))), (202, 18, .b (decide (c7.Kind = 4))), (203, 19, .tup []), (204, 20, .tup []), (205, 21, .tup []), (206, 22, .tup []), (207, 23, .tup []), (208, 24, .tup []), (209, 25, .tup []), (210, 26, .b false)], ?_, ?_⟩
                        · exact dok [([], []), ([], []), ([0, 1], []), ([2], []), ([3], []), ([], []), ([], []), ([5, 6], []), ([7], []), ([4, 8], []), ([9], []), ([10], []), ([10], []), ([10, 11, 12], []), ([10, 13], []), ([10, 14], []), ([10, 15], []), ([10, 16], []), ([17], []), ([18], []), ([18], []), ([18, 19, 20], []), ([18, 21], []), ([18, 22], []), ([18], []), ([18, 23, 24], []), ([18, 25], [])] ⟨go (zm (.d (.sl 5 (g.map aE)))),
      go (zm (.i a6)),
      go (zix rfl rfl bZ.of (aX aE s8)),
      go (zfc [.lit (.int .i64 a7.Player)] rfl cC),
      go (zlc rfl aQ),
      go (zm (.d (.sl 1 (t.map aG)))),
      go (zm (.i c)),
      go (zix rfl rfl bA.of (aX aG s9)),
      go (zlc rfl aQ),
      go (zcm rfl rfl rfl),
      go (zm (.b (decide (a7.Player = e1)))),
      gt c9 (zm (.d (.sl 5 (g.map aE)))),
      gt c9 (zm (.i a6)),
      gt c9 (zix rfl rfl bZ.of (aX aE w1)),
      gt c9 (zfc [.lit (.int .i64 c7.Kind)] rfl eH),
      gt c9 (zlc rfl aQ),
      gt c9 (zcm rfl rfl rfl),
      go (zpt (.b (decide (c7.Kind = 4))) c9),
      go (zm (.b (decide (c7.Kind = 4)))),
      gp c5,
      gp c5,
      gp c5,
      gp c5,
      gp c5,
      gp c5,
      gp c5,
      go (zpf (.b false) c5), trivial⟩
                        · exact bH (aL rfl (aM ⟨rfl, rfl, rfl, rfl, rfl, rfl, rfl, rfl, rfl, rfl, trivial⟩))
                      ·obtain rfl := sIn k1;have c5 : false = false := rfl;have h9 := iK c5 h9;obtain rfl := sIn h9;refine ⟨[(184, 0, .d (.sl 5 (g.map aE))), (185, 1, .i a6), (186, 2, .cp [.lit (.int .i64 a7.Id), .lit (.int .i64 a7.Hour), .lit (.int .i64 a7.Kind), .lit (.int .i64 a7.Player), .lit (.int .i64 a7.Rank)]), (187, 3, .cp [.lit (.int .i64 a7.Player)]), (188, 4, .i a7.Player), (189, 5, .d (.sl 1 (t.map aG))), (190, 6, .i c), (191, 7, .cp [.lit (.int .i64 e1)]), (192, 8, .i e1), (193, 9, .b (decide (a7.Player = e1))), (194, 10, .b (decide (a7.Player = e1))), (195, 11, .tup []), (196, 12, .tup []), (197, 13, .tup []), (198, 14, .tup []), (199, 15, .tup []), (200, 16, .tup []), (201, 17, .b false), (202, 18, .b (false)), (203, 19, .tup []), (204, 20, .tup []), (205, 21, .tup []), (206, 22, .tup []), (207, 23, .tup []), (208, 24, .tup []), (209, 25, .tup []), (210, 26, .b false)], ?_, ?_⟩
                       · exact dok [([], []), ([], []), ([0, 1], []), ([2], []), ([3], []), ([], []), ([], []), ([5, 6], []), ([7], []), ([4, 8], []), ([9], []), ([10], []), ([10], []), ([10, 11, 12], []), ([10, 13], []), ([10, 14], []), ([10, 15], []), ([10, 16], []), ([17], []), ([18], []), ([18], []), ([18, 19, 20], []), ([18, 21], []), ([18, 22], []), ([18], []), ([18, 23, 24], []), ([18, 25], [])] ⟨go (zm (.d (.sl 5 (g.map aE)))),
      go (zm (.i a6)),
      go (zix rfl rfl bZ.of (aX aE s8)),
      go (zfc [.lit (.int .i64 a7.Player)] rfl cC),
      go (zlc rfl aQ),
      go (zm (.d (.sl 1 (t.map aG)))),
      go (zm (.i c)),
      go (zix rfl rfl bA.of (aX aG s9)),
      go (zlc rfl aQ),
      go (zcm rfl rfl rfl),
      go (zm (.b (decide (a7.Player = e1)))),
      gp c9,
      gp c9,
      gp c9,
      gp c9,
      gp c9,
      gp c9,
      go (zpf (.b false) c9),
      go (zm (.b (false))),
      gp c5,
      gp c5,
      gp c5,
      gp c5,
      gp c5,
      gp c5,
      gp c5,
      go (zpf (.b false) c5), trivial⟩
                       · exact bH (aL rfl (aM ⟨rfl, rfl, rfl, rfl, rfl, rfl, rfl, rfl, rfl, rfl, trivial⟩))
                     ·refine aD ?_;refine tih h (fun J4 h => ?_) (fun J4 h => ?_)
                      ·refine aF (aB (ta (.b false) (aD ?_)));obtain rfl := sIn h;refine bK (bC (bG (l := [6]) ⟨rfl, trivial⟩)) ?_;exact aW ⟨rfl, _, .one _, rfl, rfl⟩
                      ·refine bY ?_;refine aB (tm (.i a6) (to (sar rfl rfl rfl) (ta (.i (w64 (a6 + 1))) (aD ?_))));exact ⟨(w64 (a6 + 1)), h, aP [0, 1] rfl rfl (aL rfl (aM ⟨rfl, rfl, rfl, rfl, rfl, rfl, rfl, rfl, rfl, trivial⟩))⟩
                    ·refine cD ?_;refine .inl ⟨rfl, ?_⟩;simp only [cO] at h;refine aF ?_;obtain ⟨w2, J5, h⟩ := bns h;obtain ⟨c8, J6, h⟩ := bns h;refine bR mix 14 [1, 2, 3, 7, 11, 13, 14, 15, 20] [(23, .b c8.1), (24, .b c8.2.1), (222, .i c8.2.2)] ?_ ?_
                     ·refine ⟨[(212, 0, .agg (aS n)), (213, 1, .d (.sl 5 (g.map aE))), (214, 2, .i e), (215, 3, .d (.sl 1 (t.map aG))), (216, 4, .i c), (217, 5, .cp [.lit (.int .i64 w2)]), (218, 6, .i w2), (219, 7, .tup [.b c8.1, .b c8.2.1, .i c8.2.2]), (211, 8, .tup [.b c8.1, .b c8.2.1, .i c8.2.2]), (220, 9, .b c8.1), (221, 10, .b c8.2.1), (222, 11, .i c8.2.2), (23, 12, .b c8.1), (24, 13, .b c8.2.1)], ?_, ?_⟩
                      · exact dok [([], []), ([], []), ([], []), ([], []), ([], []), ([3, 4], []), ([5], []), ([0, 1, 2, 6], []), ([7], []), ([8], []), ([8], []), ([8], []), ([9], []), ([10], [])] ⟨go (zla 0 (aS n) rfl rfl fG),
      go (zm (.d (.sl 5 (g.map aE)))),
      go (zm (.i e)),
      go (zm (.d (.sl 1 (t.map aG)))),
      go (zm (.i c)),
      go (zix rfl rfl bA.of (aX aG J5)),
      go (zlc rfl aQ),
      go fun S hS => fN (aK rfl) (.func _ _ Tryz.call16) (ev2 (aO hS rfl) (ev2 (aO hS rfl) (ev2 (aO hS rfl) (ev2 (aO hS rfl) evn)))) rfl (BVs.refl _ _) (eY _ _ _ _ J6) rfl,
      go (zm (.tup [.b c8.1, .b c8.2.1, .i c8.2.2])),
      go (zex rfl rfl),
      go (zex rfl rfl),
      go (zex rfl rfl),
      go (za (.b c8.1)),
      go (za (.b c8.2.1)), trivial⟩
                      · exact bH (aL rfl (aL rfl (aL rfl (aM ⟨rfl, rfl, rfl, rfl, rfl, rfl, rfl, rfl, rfl, trivial⟩))))
                     ·refine ta (.i c8.2.2) (aD (aF (aF (aB (tm (.i 3) (to (scm rfl rfl rfl) (tm (.b (!decide (3 = 2))) ?_)))))));obtain ⟨J7, p6, h⟩ := bns h;refine aZ 3 [1, 2, 3, 7, 11, 13, 14, 15, 20, 24] 228 J7 ?_ ?_
                      ·refine bch p6 (fun k2 p6 => ?_) (fun k2 p6 => ?_)
                       ·refine tk k2 (sm (.b c8.1)) (tk k2 (sn rfl) (to (spt (.b (!c8.1)) k2) ?_));obtain rfl := sIn p6;refine aD (aN rfl ⟨rfl, rfl, rfl, rfl, rfl, rfl, rfl, rfl, rfl, rfl, trivial⟩ rfl)
                       ·refine tp k2 (tp k2 (to (spf (.b false) k2) ?_));obtain rfl := sIn p6;refine aD (aN rfl ⟨rfl, rfl, rfl, rfl, rfl, rfl, rfl, rfl, rfl, rfl, trivial⟩ rfl)
                      ·refine aD ?_;refine tih h (fun J8 h => ?_) (fun J8 h => ?_)
                       ·refine aF (aB (ta (.b false) (aD ?_)));obtain rfl := sIn h;refine bK (bC (bG (l := [6]) ⟨rfl, trivial⟩)) ?_;exact aW ⟨rfl, _, .one _, rfl, rfl⟩
                       ·refine aY (aF (aB (tm (.i 3) (to (scm rfl rfl rfl) (tm (.b (decide (3 = 1))) ?_)))));obtain ⟨J9, p7, h⟩ := bns h;refine aZ 2 [1, 2, 3, 7, 11, 13, 14, 15] 233 J9 ?_ ?_
                        ·refine bch p7 (fun p8 p7 => ?_) (fun p8 p7 => ?_)
                         ·refine tk p8 (sm (.b c8.2.1)) (to (spt (.b c8.2.1) p8) ?_);obtain rfl := sIn p7;refine aD (aN rfl ⟨rfl, rfl, rfl, rfl, rfl, rfl, rfl, rfl, trivial⟩ rfl)
                         ·refine tp p8 (to (spf (.b false) p8) ?_);obtain rfl := sIn p7;refine aD (aN rfl ⟨rfl, rfl, rfl, rfl, rfl, rfl, rfl, rfl, trivial⟩ rfl)
                        ·refine aD ?_;refine tih h (fun K0 h => ?_) (fun K0 h => ?_)
                         ·refine aB (tm (.i m) (to (sar rfl rfl rfl) (ta (.i (w64 (m + 1))) ?_)));refine cP ?_;simp only [bX] at h;refine aB (tm (.i c) (to (sar rfl rfl rfl) (ta (.i (w64 (c + 1))) (aD ?_))));exact ⟨(w64 (m + 1), w64 (c + 1)), h, aP [0, 1] rfl rfl (aL rfl (aL rfl (aM ⟨rfl, rfl, rfl, rfl, rfl, rfl, trivial⟩)))⟩
                         ·refine bY ?_;simp only [bX] at h;refine aB (tm (.i c) (to (sar rfl rfl rfl) (ta (.i (w64 (c + 1))) (aD ?_))));exact ⟨(m, w64 (c + 1)), h, aP [0, 1] rfl rfl (aL rfl (aL rfl (aM ⟨rfl, rfl, rfl, rfl, rfl, rfl, trivial⟩)))⟩
               ·refine aY (aF (aF (aB (tm (.i G.2.2) (to (scm rfl rfl rfl) (tm (.b (!decide (G.2.2 = 0))) ?_))))));obtain ⟨w3, p9, h⟩ := bns h;refine aZ 4 [1, 2, 3, 7, 11, 13, 14, 15, 18, 20, 21] 172 w3 ?_ ?_
                ·refine bch p9 (fun g0 p9 => ?_) (fun g0 p9 => ?_)
                 ·refine tp g0 (tp g0 (tp g0 (to (spt (.b true) g0) ?_)));obtain rfl := sIn p9;refine aD (aN rfl ⟨rfl, rfl, rfl, rfl, rfl, rfl, rfl, rfl, rfl, rfl, rfl, trivial⟩ rfl)
                 ·refine tk g0 (sm (.i G.1)) (tk g0 (sm (.i 2)) (tk g0 (scm rfl rfl rfl) (to (spf (.b (!decide (G.1 = 2))) g0) ?_)));obtain rfl := sIn p9;refine aD (aN rfl ⟨rfl, rfl, rfl, rfl, rfl, rfl, rfl, rfl, rfl, rfl, rfl, trivial⟩ rfl)
                ·refine tm (.b w3) ?_;obtain ⟨K1, q0, h⟩ := bns h;refine aZ 4 [1, 2, 3, 7, 11, 13, 14, 15, 20] 177 K1 ?_ ?_
                 ·refine bch q0 (fun g1 q0 => ?_) (fun g1 q0 => ?_)
                  ·refine tp g1 (tp g1 (tp g1 (to (spt (.b true) g1) ?_)));obtain rfl := sIn q0;refine aD (aN rfl ⟨rfl, rfl, rfl, rfl, rfl, rfl, rfl, rfl, rfl, trivial⟩ rfl)
                  ·refine tk g1 (sm (.i G.2.1)) (tk g1 (sm (.i (w64 ((w64 (c + 1)) - (r9.1.Main.length : Int))))) (tk g1 (scm rfl rfl rfl) (to (spf (.b (!decide (G.2.1 = (w64 ((w64 (c + 1)) - (r9.1.Main.length : Int)))))) g1) ?_)));obtain rfl := sIn q0;refine aD (aN rfl ⟨rfl, rfl, rfl, rfl, rfl, rfl, rfl, rfl, rfl, trivial⟩ rfl)
                 ·refine aD ?_;refine tih h (fun K2 h => ?_) (fun K2 h => ?_)
                  ·refine aF (aB (ta (.b false) (aD ?_)));obtain rfl := sIn h;refine bK (bC (bG (l := [6]) ⟨rfl, trivial⟩)) ?_;exact aW ⟨rfl, _, .one _, rfl, rfl⟩
                  ·refine aY (aF (aF (aB (ta (.i 0) (aD (bL ?_))))));refine cF (S := Int) [1, 2, 3, 7, 11, 13, 14, 15, 20] (fun s3 => [(22, .i s3)]) (fun s3 => [.box b1 0 (aS n), .box Y 0 (bU r9.1)]) (fun k s3 => bI (bP g e s t n r9.1 p3) g e s t m c 2 n r9.1 k s3) (fun _ => rfl) (0) h (aP [0, 1] rfl rfl (aL rfl (aM ⟨rfl, rfl, rfl, rfl, rfl, rfl, rfl, rfl, rfl, trivial⟩))) ?_;rintro M2 a8 h;simp only [bI] at h;refine aF (aF (aB (tm (.i a8) (tm (.d (.sl 5 (g.map aE))) (to (sle rfl bZ.of) (to (scm rfl rfl rfl) (aD ?_)))))));refine tih h (fun w6 h => ?_) (fun w6 h => ?_)
                   ·refine aY (aF (bL (aF ?_)));obtain ⟨y, q1, h⟩ := bns h;obtain ⟨d0, q2, h⟩ := bns h;obtain ⟨K3, i1, h⟩ := bns h;obtain ⟨w7, e9, h⟩ := bns h;refine bR mix 27 [1, 2, 3, 7, 11, 13, 14, 15, 20, 22] [(210, .b w7)] ?_ ?_
                    ·refine bch i1 (fun b8 i1 => ?_) (fun b8 i1 => ?_)
                     ·obtain ⟨Z, t0, i1⟩ := bns i1;obtain rfl := sIn i1;refine bch e9 (fun O e9 => ?_) (fun O e9 => ?_)
                      ·obtain ⟨e2, w8, e9⟩ := bns e9;obtain rfl := sIn e9;refine ⟨[(184, 0, .d (.sl 5 (g.map aE))), (185, 1, .i a8), (186, 2, .cp [.lit (.int .i64 y.Id), .lit (.int .i64 y.Hour), .lit (.int .i64 y.Kind), .lit (.int .i64 y.Player), .lit (.int .i64 y.Rank)]), (187, 3, .cp [.lit (.int .i64 y.Player)]), (188, 4, .i y.Player), (189, 5, .d (.sl 1 (t.map aG))), (190, 6, .i c), (191, 7, .cp [.lit (.int .i64 d0)]), (192, 8, .i d0), (193, 9, .b (decide (y.Player = d0))), (194, 10, .b (decide (y.Player = d0))), (195, 11, .d (.sl 5 (g.map aE))), (196, 12, .i a8), (197, 13, .cp [.lit (.int .i64 Z.Id), .lit (.int .i64 Z.Hour), .lit (.int .i64 Z.Kind), .lit (.int .i64 Z.Player), .lit (.int .i64 Z.Rank)]), (198, 14, .cp [.lit (.int .i64 Z.Kind)]), (199, 15, .i Z.Kind), (200, 16, .b (decide (Z.Kind = 4))), (201, 17, .b (decide (Z.Kind = 4))), (202, 18, .b (decide (Z.Kind = 4))), (203, 19, .d (.sl 5 (g.map aE))), (204, 20, .i a8), (205, 21, .cp [.lit (.int .i64 e2.Id), .lit (.int .i64 e2.Hour), .lit (.int .i64 e2.Kind), .lit (.int .i64 e2.Player), .lit (.int .i64 e2.Rank)]), (206, 22, .cp [.lit (.int .i64 e2.Hour)]), (207, 23, .i e2.Hour), (208, 24, .i e), (209, 25, .b (decide (e2.Hour ≤ e))), (210, 26, .b (decide (e2.Hour ≤ e)))], ?_, ?_⟩
                       · exact dok [([], []), ([], []), ([0, 1], []), ([2], []), ([3], []), ([], []), ([], []), ([5, 6], []), ([7], []), ([4, 8], []), ([9], []), ([10], []), ([10], []), ([10, 11, 12], []), ([10, 13], []), ([10, 14], []), ([10, 15], []), ([10, 16], []), ([17], []), ([18], []), ([18], []), ([18, 19, 20], []), ([18, 21], []), ([18, 22], []), ([18], []), ([18, 23, 24], []), ([18, 25], [])] ⟨go (zm (.d (.sl 5 (g.map aE)))),
      go (zm (.i a8)),
      go (zix rfl rfl bZ.of (aX aE q1)),
      go (zfc [.lit (.int .i64 y.Player)] rfl cC),
      go (zlc rfl aQ),
      go (zm (.d (.sl 1 (t.map aG)))),
      go (zm (.i c)),
      go (zix rfl rfl bA.of (aX aG q2)),
      go (zlc rfl aQ),
      go (zcm rfl rfl rfl),
      go (zm (.b (decide (y.Player = d0)))),
      gt b8 (zm (.d (.sl 5 (g.map aE)))),
      gt b8 (zm (.i a8)),
      gt b8 (zix rfl rfl bZ.of (aX aE t0)),
      gt b8 (zfc [.lit (.int .i64 Z.Kind)] rfl eH),
      gt b8 (zlc rfl aQ),
      gt b8 (zcm rfl rfl rfl),
      go (zpt (.b (decide (Z.Kind = 4))) b8),
      go (zm (.b (decide (Z.Kind = 4)))),
      gt O (zm (.d (.sl 5 (g.map aE)))),
      gt O (zm (.i a8)),
      gt O (zix rfl rfl bZ.of (aX aE w8)),
      gt O (zfc [.lit (.int .i64 e2.Hour)] rfl cT),
      gt O (zlc rfl aQ),
      gt O (zm (.i e)),
      gt O (zcm rfl rfl rfl),
      go (zpt (.b (decide (e2.Hour ≤ e))) O), trivial⟩
                       · exact bH (aL rfl (aM ⟨rfl, rfl, rfl, rfl, rfl, rfl, rfl, rfl, rfl, rfl, trivial⟩))
                      ·obtain rfl := sIn e9;refine ⟨[(184, 0, .d (.sl 5 (g.map aE))), (185, 1, .i a8), (186, 2, .cp [.lit (.int .i64 y.Id), .lit (.int .i64 y.Hour), .lit (.int .i64 y.Kind), .lit (.int .i64 y.Player), .lit (.int .i64 y.Rank)]), (187, 3, .cp [.lit (.int .i64 y.Player)]), (188, 4, .i y.Player), (189, 5, .d (.sl 1 (t.map aG))), (190, 6, .i c), (191, 7, .cp [.lit (.int .i64 d0)]), (192, 8, .i d0), (193, 9, .b (decide (y.Player = d0))), (194, 10, .b (decide (y.Player = d0))), (195, 11, .d (.sl 5 (g.map aE))), (196, 12, .i a8), (197, 13, .cp [.lit (.int .i64 Z.Id), .lit (.int .i64 Z.Hour), .lit (.int .i64 Z.Kind), .lit (.int .i64 Z.Player), .lit (.int .i64 Z.Rank)]), (198, 14, .cp [.lit (.int .i64 Z.Kind)]), (199, 15, .i Z.Kind), (200, 16, .b (decide (Z.Kind = 4))), (201, 17, .b (decide (Z.Kind = 4))), (202, 18, .b (decide (Z.Kind = 4))), (203, 19, .tup []), (204, 20, .tup []), (205, 21, .tup []), (206, 22, .tup []), (207, 23, .tup []), (208, 24, .tup []), (209, 25, .tup []), (210, 26, .b false)], ?_, ?_⟩
                       · exact dok [([], []), ([], []), ([0, 1], []), ([2], []), ([3], []), ([], []), ([], []), ([5, 6], []), ([7], []), ([4, 8], []), ([9], []), ([10], []), ([10], []), ([10, 11, 12], []), ([10, 13], []), ([10, 14], []), ([10, 15], []), ([10, 16], []), ([17], []), ([18], []), ([18], []), ([18, 19, 20], []), ([18, 21], []), ([18, 22], []), ([18], []), ([18, 23, 24], []), ([18, 25], [])] ⟨go (zm (.d (.sl 5 (g.map aE)))),
      go (zm (.i a8)),
      go (zix rfl rfl bZ.of (aX aE q1)),
      go (zfc [.lit (.int .i64 y.Player)] rfl cC),
      go (zlc rfl aQ),
      go (zm (.d (.sl 1 (t.map aG)))),
      go (zm (.i c)),
      go (zix rfl rfl bA.of (aX aG q2)),
      go (zlc rfl aQ),
      go (zcm rfl rfl rfl),
      go (zm (.b (decide (y.Player = d0)))),
      gt b8 (zm (.d (.sl 5 (g.map aE)))),
      gt b8 (zm (.i a8)),
      gt b8 (zix rfl rfl bZ.of (aX aE t0)),
      gt b8 (zfc [.lit (.int .i64 Z.Kind)] rfl eH),
      gt b8 (zlc rfl aQ),
      gt b8 (zcm rfl rfl rfl),
      go (zpt (.b (decide (Z.Kind = 4))) b8),
      go (zm (.b (decide (Z.Kind = 4)))),
      gp O,
      gp O,
      gp O,
      gp O,
      gp O,
      gp O,
      gp O,
      go (zpf (.b false) O), trivial⟩
                       · exact bH (aL rfl (aM ⟨rfl, rfl, rfl, rfl, rfl, rfl, rfl, rfl, rfl, rfl, trivial⟩))
                     ·obtain rfl := sIn i1;have O : false = false := rfl;have e9 := iK O e9;obtain rfl := sIn e9;refine ⟨[(184, 0, .d (.sl 5 (g.map aE))), (185, 1, .i a8), (186, 2, .cp [.lit (.int .i64 y.Id), .lit (.int .i64 y.Hour), .lit (.int .i64 y.Kind), .lit (.int .i64 y.Player), .lit (.int .i64 y.Rank)]), (187, 3, .cp [.lit (.int .i64 y.Player)]), (188, 4, .i y.Player), (189, 5, .d (.sl 1 (t.map aG))), (190, 6, .i c), (191, 7, .cp [.lit (.int .i64 d0)]), (192, 8, .i d0), (193, 9, .b (decide (y.Player = d0))), (194, 10, .b (decide (y.Player = d0))), (195, 11, .tup []), (196, 12, .tup []), (197, 13, .tup []), (198, 14, .tup []), (199, 15, .tup []), (200, 16, .tup []), (201, 17, .b false), (202, 18, .b (false)), (203, 19, .tup []), (204, 20, .tup []), (205, 21, .tup []), (206, 22, .tup []), (207, 23, .tup []), (208, 24, .tup []), (209, 25, .tup []), (210, 26, .b false)], ?_, ?_⟩
                      · exact dok [([], []), ([], []), ([0, 1], []), ([2], []), ([3], []), ([], []), ([], []), ([5, 6], []), ([7], []), ([4, 8], []), ([9], []), ([10], []), ([10], []), ([10, 11, 12], []), ([10, 13], []), ([10, 14], []), ([10, 15], []), ([10, 16], []), ([17], []), ([18], []), ([18], []), ([18, 19, 20], []), ([18, 21], []), ([18, 22], []), ([18], []), ([18, 23, 24], []), ([18, 25], [])] ⟨go (zm (.d (.sl 5 (g.map aE)))),
      go (zm (.i a8)),
      go (zix rfl rfl bZ.of (aX aE q1)),
      go (zfc [.lit (.int .i64 y.Player)] rfl cC),
      go (zlc rfl aQ),
      go (zm (.d (.sl 1 (t.map aG)))),
      go (zm (.i c)),
      go (zix rfl rfl bA.of (aX aG q2)),
      go (zlc rfl aQ),
      go (zcm rfl rfl rfl),
      go (zm (.b (decide (y.Player = d0)))),
      gp b8,
      gp b8,
      gp b8,
      gp b8,
      gp b8,
      gp b8,
      go (zpf (.b false) b8),
      go (zm (.b (false))),
      gp O,
      gp O,
      gp O,
      gp O,
      gp O,
      gp O,
      gp O,
      go (zpf (.b false) O), trivial⟩
                      · exact bH (aL rfl (aM ⟨rfl, rfl, rfl, rfl, rfl, rfl, rfl, rfl, rfl, rfl, trivial⟩))
                    ·refine aD ?_;refine tih h (fun w9 h => ?_) (fun w9 h => ?_)
                     ·refine aF (aB (ta (.b false) (aD ?_)));obtain rfl := sIn h;refine bK (bC (bG (l := [6]) ⟨rfl, trivial⟩)) ?_;exact aW ⟨rfl, _, .one _, rfl, rfl⟩
                     ·refine bY ?_;refine aB (tm (.i a8) (to (sar rfl rfl rfl) (ta (.i (w64 (a8 + 1))) (aD ?_))));exact ⟨(w64 (a8 + 1)), h, aP [0, 1] rfl rfl (aL rfl (aM ⟨rfl, rfl, rfl, rfl, rfl, rfl, rfl, rfl, rfl, trivial⟩))⟩
                   ·refine cD ?_;refine .inl ⟨rfl, ?_⟩;simp only [cO] at h;refine aF ?_;obtain ⟨t1, x0, h⟩ := bns h;obtain ⟨a9, x1, h⟩ := bns h;refine bR mix 14 [1, 2, 3, 7, 11, 13, 14, 15, 20] [(23, .b a9.1), (24, .b a9.2.1), (222, .i a9.2.2)] ?_ ?_
                    ·refine ⟨[(212, 0, .agg (aS n)), (213, 1, .d (.sl 5 (g.map aE))), (214, 2, .i e), (215, 3, .d (.sl 1 (t.map aG))), (216, 4, .i c), (217, 5, .cp [.lit (.int .i64 t1)]), (218, 6, .i t1), (219, 7, .tup [.b a9.1, .b a9.2.1, .i a9.2.2]), (211, 8, .tup [.b a9.1, .b a9.2.1, .i a9.2.2]), (220, 9, .b a9.1), (221, 10, .b a9.2.1), (222, 11, .i a9.2.2), (23, 12, .b a9.1), (24, 13, .b a9.2.1)], ?_, ?_⟩
                     · exact dok [([], []), ([], []), ([], []), ([], []), ([], []), ([3, 4], []), ([5], []), ([0, 1, 2, 6], []), ([7], []), ([8], []), ([8], []), ([8], []), ([9], []), ([10], [])] ⟨go (zla 0 (aS n) rfl rfl fG),
      go (zm (.d (.sl 5 (g.map aE)))),
      go (zm (.i e)),
      go (zm (.d (.sl 1 (t.map aG)))),
      go (zm (.i c)),
      go (zix rfl rfl bA.of (aX aG x0)),
      go (zlc rfl aQ),
      go fun S hS => fN (aK rfl) (.func _ _ Tryz.call16) (ev2 (aO hS rfl) (ev2 (aO hS rfl) (ev2 (aO hS rfl) (ev2 (aO hS rfl) evn)))) rfl (BVs.refl _ _) (eY _ _ _ _ x1) rfl,
      go (zm (.tup [.b a9.1, .b a9.2.1, .i a9.2.2])),
      go (zex rfl rfl),
      go (zex rfl rfl),
      go (zex rfl rfl),
      go (za (.b a9.1)),
      go (za (.b a9.2.1)), trivial⟩
                     · exact bH (aL rfl (aL rfl (aL rfl (aM ⟨rfl, rfl, rfl, rfl, rfl, rfl, rfl, rfl, rfl, trivial⟩))))
                    ·refine ta (.i a9.2.2) (aD (aF (aF (aB (tm (.i 2) (to (scm rfl rfl rfl) (tm (.b (!decide (2 = 2))) ?_)))))));obtain ⟨x2, k3, h⟩ := bns h;refine aZ 3 [1, 2, 3, 7, 11, 13, 14, 15, 20, 24] 228 x2 ?_ ?_
                     ·refine bch k3 (fun i2 k3 => ?_) (fun i2 k3 => ?_)
                      ·refine tk i2 (sm (.b a9.1)) (tk i2 (sn rfl) (to (spt (.b (!a9.1)) i2) ?_));obtain rfl := sIn k3;refine aD (aN rfl ⟨rfl, rfl, rfl, rfl, rfl, rfl, rfl, rfl, rfl, rfl, trivial⟩ rfl)
                      ·refine tp i2 (tp i2 (to (spf (.b false) i2) ?_));obtain rfl := sIn k3;refine aD (aN rfl ⟨rfl, rfl, rfl, rfl, rfl, rfl, rfl, rfl, rfl, rfl, trivial⟩ rfl)
                     ·refine aD ?_;refine tih h (fun x3 h => ?_) (fun x3 h => ?_)
                      ·refine aF (aB (ta (.b false) (aD ?_)));obtain rfl := sIn h;refine bK (bC (bG (l := [6]) ⟨rfl, trivial⟩)) ?_;exact aW ⟨rfl, _, .one _, rfl, rfl⟩
                      ·refine aY (aF (aB (tm (.i 2) (to (scm rfl rfl rfl) (tm (.b (decide (2 = 1))) ?_)))));obtain ⟨x4, k4, h⟩ := bns h;refine aZ 2 [1, 2, 3, 7, 11, 13, 14, 15] 233 x4 ?_ ?_
                       ·refine bch k4 (fun k5 k4 => ?_) (fun k5 k4 => ?_)
                        ·refine tk k5 (sm (.b a9.2.1)) (to (spt (.b a9.2.1) k5) ?_);obtain rfl := sIn k4;refine aD (aN rfl ⟨rfl, rfl, rfl, rfl, rfl, rfl, rfl, rfl, trivial⟩ rfl)
                        ·refine tp k5 (to (spf (.b false) k5) ?_);obtain rfl := sIn k4;refine aD (aN rfl ⟨rfl, rfl, rfl, rfl, rfl, rfl, rfl, rfl, trivial⟩ rfl)
                       ·refine aD ?_;refine tih h (fun x5 h => ?_) (fun x5 h => ?_)
                        ·refine aB (tm (.i m) (to (sar rfl rfl rfl) (ta (.i (w64 (m + 1))) ?_)));refine cP ?_;simp only [bX] at h;refine aB (tm (.i c) (to (sar rfl rfl rfl) (ta (.i (w64 (c + 1))) (aD ?_))));exact ⟨(w64 (m + 1), w64 (c + 1)), h, aP [0, 1] rfl rfl (aL rfl (aL rfl (aM ⟨rfl, rfl, rfl, rfl, rfl, rfl, trivial⟩)))⟩
                        ·refine bY ?_;simp only [bX] at h;refine aB (tm (.i c) (to (sar rfl rfl rfl) (ta (.i (w64 (c + 1))) (aD ?_))));exact ⟨(m, w64 (c + 1)), h, aP [0, 1] rfl rfl (aL rfl (aL rfl (aM ⟨rfl, rfl, rfl, rfl, rfl, rfl, trivial⟩)))⟩
             ·refine aY (aF (aF (aB (tm (.i c) (tfl 1 rfl rfl gU rfl cH (to (sle rfl bA.of) (tfl 1 rfl rfl iS rfl cH (to (sle rfl bA.of) (to (sar rfl rfl rfl) (to (scm rfl rfl rfl) (aD ?_)))))))))));refine tih h (fun x6 h => ?_) (fun x6 h => ?_)
              ·refine bR mix 11 [1, 2, 3, 7, 11, 13, 14, 15, 17, 18, 19] [(20, .i 3), (165, .i (w64 ((w64 ((w64 (c + 1)) - (r9.1.Main.length : Int))) - (r9.1.Wilds.length : Int))))] ?_ ?_
               ·refine ⟨[(156, 0, .i c), (157, 1, .i (w64 (c + 1))), (158, 2, .bp Y 0 0), (159, 3, .d (.sl 1 (r9.1.Main.map aG))), (160, 4, .i (r9.1.Main.length : Int)), (161, 5, .i (w64 ((w64 (c + 1)) - (r9.1.Main.length : Int)))), (162, 6, .bp Y 0 1), (163, 7, .d (.sl 1 (r9.1.Wilds.map aG))), (164, 8, .i (r9.1.Wilds.length : Int)), (165, 9, .i (w64 ((w64 ((w64 (c + 1)) - (r9.1.Main.length : Int))) - (r9.1.Wilds.length : Int)))), (20, 10, .i 3)], ?_, ?_⟩
                · exact dok [([], []), ([0], []), ([], []), ([2], []), ([3], []), ([1, 4], []), ([], []), ([6], []), ([7], []), ([5, 8], []), ([], [])] ⟨go (zm (.i c)),
      go (zar rfl rfl rfl),
      go (zf rfl gU),
      go (zl 1 rfl rfl rfl cH),
      go (zle rfl bA.of),
      go (zar rfl rfl rfl),
      go (zf rfl iS),
      go (zl 1 rfl rfl rfl cH),
      go (zle rfl bA.of),
      go (zar rfl rfl rfl),
      go (za (.i 3)), trivial⟩
                · exact bH (aL rfl (aL rfl (aM ⟨rfl, rfl, rfl, rfl, rfl, rfl, rfl, rfl, rfl, rfl, rfl, trivial⟩)))
               ·refine ta (.i (w64 ((w64 ((w64 (c + 1)) - (r9.1.Main.length : Int))) - (r9.1.Wilds.length : Int)))) (aD (aF (aF (aB (tm (.i G.2.2) (to (scm rfl rfl rfl) (tm (.b (!decide (G.2.2 = 0))) ?_)))))));obtain ⟨t2, k6, h⟩ := bns h;refine aZ 4 [1, 2, 3, 7, 11, 13, 14, 15, 18, 20, 21] 172 t2 ?_ ?_
                ·refine bch k6 (fun g2 k6 => ?_) (fun g2 k6 => ?_)
                 ·refine tp g2 (tp g2 (tp g2 (to (spt (.b true) g2) ?_)));obtain rfl := sIn k6;refine aD (aN rfl ⟨rfl, rfl, rfl, rfl, rfl, rfl, rfl, rfl, rfl, rfl, rfl, trivial⟩ rfl)
                 ·refine tk g2 (sm (.i G.1)) (tk g2 (sm (.i 3)) (tk g2 (scm rfl rfl rfl) (to (spf (.b (!decide (G.1 = 3))) g2) ?_)));obtain rfl := sIn k6;refine aD (aN rfl ⟨rfl, rfl, rfl, rfl, rfl, rfl, rfl, rfl, rfl, rfl, rfl, trivial⟩ rfl)
                ·refine tm (.b t2) ?_;obtain ⟨x7, k7, h⟩ := bns h;refine aZ 4 [1, 2, 3, 7, 11, 13, 14, 15, 20] 177 x7 ?_ ?_
                 ·refine bch k7 (fun g3 k7 => ?_) (fun g3 k7 => ?_)
                  ·refine tp g3 (tp g3 (tp g3 (to (spt (.b true) g3) ?_)));obtain rfl := sIn k7;refine aD (aN rfl ⟨rfl, rfl, rfl, rfl, rfl, rfl, rfl, rfl, rfl, trivial⟩ rfl)
                  ·refine tk g3 (sm (.i G.2.1)) (tk g3 (sm (.i (w64 ((w64 ((w64 (c + 1)) - (r9.1.Main.length : Int))) - (r9.1.Wilds.length : Int))))) (tk g3 (scm rfl rfl rfl) (to (spf (.b (!decide (G.2.1 = (w64 ((w64 ((w64 (c + 1)) - (r9.1.Main.length : Int))) - (r9.1.Wilds.length : Int)))))) g3) ?_)));obtain rfl := sIn k7;refine aD (aN rfl ⟨rfl, rfl, rfl, rfl, rfl, rfl, rfl, rfl, rfl, trivial⟩ rfl)
                 ·refine aD ?_;refine tih h (fun x8 h => ?_) (fun x8 h => ?_)
                  ·refine aF (aB (ta (.b false) (aD ?_)));obtain rfl := sIn h;refine bK (bC (bG (l := [6]) ⟨rfl, trivial⟩)) ?_;exact aW ⟨rfl, _, .one _, rfl, rfl⟩
                  ·refine aY (aF (aF (aB (ta (.i 0) (aD (bL ?_))))));refine cF (S := Int) [1, 2, 3, 7, 11, 13, 14, 15, 20] (fun o3 => [(22, .i o3)]) (fun o3 => [.box b1 0 (aS n), .box Y 0 (bU r9.1)]) (fun k o3 => bI (bP g e s t n r9.1 p3) g e s t m c 3 n r9.1 k o3) (fun _ => rfl) (0) h (aP [0, 1] rfl rfl (aL rfl (aM ⟨rfl, rfl, rfl, rfl, rfl, rfl, rfl, rfl, rfl, trivial⟩))) ?_;rintro K4 H h;simp only [bI] at h;refine aF (aF (aB (tm (.i H) (tm (.d (.sl 5 (g.map aE))) (to (sle rfl bZ.of) (to (scm rfl rfl rfl) (aD ?_)))))));refine tih h (fun x9 h => ?_) (fun x9 h => ?_)
                   ·refine aY (aF (bL (aF ?_)));obtain ⟨z, q3, h⟩ := bns h;obtain ⟨d1, q4, h⟩ := bns h;obtain ⟨K5, i3, h⟩ := bns h;obtain ⟨y0, f0, h⟩ := bns h;refine bR mix 27 [1, 2, 3, 7, 11, 13, 14, 15, 20, 22] [(210, .b y0)] ?_ ?_
                    ·refine bch i3 (fun b9 i3 => ?_) (fun b9 i3 => ?_)
                     ·obtain ⟨a0, t3, i3⟩ := bns i3;obtain rfl := sIn i3;refine bch f0 (fun P f0 => ?_) (fun P f0 => ?_)
                      ·obtain ⟨e3, y1, f0⟩ := bns f0;obtain rfl := sIn f0;refine ⟨[(184, 0, .d (.sl 5 (g.map aE))), (185, 1, .i H), (186, 2, .cp [.lit (.int .i64 z.Id), .lit (.int .i64 z.Hour), .lit (.int .i64 z.Kind), .lit (.int .i64 z.Player), .lit (.int .i64 z.Rank)]), (187, 3, .cp [.lit (.int .i64 z.Player)]), (188, 4, .i z.Player), (189, 5, .d (.sl 1 (t.map aG))), (190, 6, .i c), (191, 7, .cp [.lit (.int .i64 d1)]), (192, 8, .i d1), (193, 9, .b (decide (z.Player = d1))), (194, 10, .b (decide (z.Player = d1))), (195, 11, .d (.sl 5 (g.map aE))), (196, 12, .i H), (197, 13, .cp [.lit (.int .i64 a0.Id), .lit (.int .i64 a0.Hour), .lit (.int .i64 a0.Kind), .lit (.int .i64 a0.Player), .lit (.int .i64 a0.Rank)]), (198, 14, .cp [.lit (.int .i64 a0.Kind)]), (199, 15, .i a0.Kind), (200, 16, .b (decide (a0.Kind = 4))), (201, 17, .b (decide (a0.Kind = 4))), (202, 18, .b (decide (a0.Kind = 4))), (203, 19, .d (.sl 5 (g.map aE))), (204, 20, .i H), (205, 21, .cp [.lit (.int .i64 e3.Id), .lit (.int .i64 e3.Hour), .lit (.int .i64 e3.Kind), .lit (.int .i64 e3.Player), .lit (.int .i64 e3.Rank)]), (206, 22, .cp [.lit (.int .i64 e3.Hour)]), (207, 23, .i e3.Hour), (208, 24, .i e), (209, 25, .b (decide (e3.Hour ≤ e))), (210, 26, .b (decide (e3.Hour ≤ e)))], ?_, ?_⟩
                       · exact dok [([], []), ([], []), ([0, 1], []), ([2], []), ([3], []), ([], []), ([], []), ([5, 6], []), ([7], []), ([4, 8], []), ([9], []), ([10], []), ([10], []), ([10, 11, 12], []), ([10, 13], []), ([10, 14], []), ([10, 15], []), ([10, 16], []), ([17], []), ([18], []), ([18], []), ([18, 19, 20], []), ([18, 21], []), ([18, 22], []), ([18], []), ([18, 23, 24], []), ([18, 25], [])] ⟨go (zm (.d (.sl 5 (g.map aE)))),
      go (zm (.i H)),
      go (zix rfl rfl bZ.of (aX aE q3)),
      go (zfc [.lit (.int .i64 z.Player)] rfl cC),
      go (zlc rfl aQ),
      go (zm (.d (.sl 1 (t.map aG)))),
      go (zm (.i c)),
      go (zix rfl rfl bA.of (aX aG q4)),
      go (zlc rfl aQ),
      go (zcm rfl rfl rfl),
      go (zm (.b (decide (z.Player = d1)))),
      gt b9 (zm (.d (.sl 5 (g.map aE)))),
      gt b9 (zm (.i H)),
      gt b9 (zix rfl rfl bZ.of (aX aE t3)),
      gt b9 (zfc [.lit (.int .i64 a0.Kind)] rfl eH),
      gt b9 (zlc rfl aQ),
      gt b9 (zcm rfl rfl rfl),
      go (zpt (.b (decide (a0.Kind = 4))) b9),
      go (zm (.b (decide (a0.Kind = 4)))),
      gt P (zm (.d (.sl 5 (g.map aE)))),
      gt P (zm (.i H)),
      gt P (zix rfl rfl bZ.of (aX aE y1)),
      gt P (zfc [.lit (.int .i64 e3.Hour)] rfl cT),
      gt P (zlc rfl aQ),
      gt P (zm (.i e)),
      gt P (zcm rfl rfl rfl),
      go (zpt (.b (decide (e3.Hour ≤ e))) P), trivial⟩
                       · exact bH (aL rfl (aM ⟨rfl, rfl, rfl, rfl, rfl, rfl, rfl, rfl, rfl, rfl, trivial⟩))
                      ·obtain rfl := sIn f0;refine ⟨[(184, 0, .d (.sl 5 (g.map aE))), (185, 1, .i H), (186, 2, .cp [.lit (.int .i64 z.Id), .lit (.int .i64 z.Hour), .lit (.int .i64 z.Kind), .lit (.int .i64 z.Player), .lit (.int .i64 z.Rank)]), (187, 3, .cp [.lit (.int .i64 z.Player)]), (188, 4, .i z.Player), (189, 5, .d (.sl 1 (t.map aG))), (190, 6, .i c), (191, 7, .cp [.lit (.int .i64 d1)]), (192, 8, .i d1), (193, 9, .b (decide (z.Player = d1))), (194, 10, .b (decide (z.Player = d1))), (195, 11, .d (.sl 5 (g.map aE))), (196, 12, .i H), (197, 13, .cp [.lit (.int .i64 a0.Id), .lit (.int .i64 a0.Hour), .lit (.int .i64 a0.Kind), .lit (.int .i64 a0.Player), .lit (.int .i64 a0.Rank)]), (198, 14, .cp [.lit (.int .i64 a0.Kind)]), (199, 15, .i a0.Kind), (200, 16, .b (decide (a0.Kind = 4))), (201, 17, .b (decide (a0.Kind = 4))), (202, 18, .b (decide (a0.Kind = 4))), (203, 19, .tup []), (204, 20, .tup []), (205, 21, .tup []), (206, 22, .tup []), (207, 23, .tup []), (208, 24, .tup []), (209, 25, .tup []), (210, 26, .b false)], ?_, ?_⟩
                       · exact dok [([], []), ([], []), ([0, 1], []), ([2], []), ([3], []), ([], []), ([], []), ([5, 6], []), ([7], []), ([4, 8], []), ([9], []), ([10], []), ([10], []), ([10, 11, 12], []), ([10, 13], []), ([10, 14], []), ([10, 15], []), ([10, 16], []), ([17], []), ([18], []), ([18], []), ([18, 19, 20], []), ([18, 21], []), ([18, 22], []), ([18], []), ([18, 23, 24], []), ([18, 25], [])] ⟨go (zm (.d (.sl 5 (g.map aE)))),
      go (zm (.i H)),
      go (zix rfl rfl bZ.of (aX aE q3)),
      go (zfc [.lit (.int .i64 z.Player)] rfl cC),
      go (zlc rfl aQ),
      go (zm (.d (.sl 1 (t.map aG)))),
      go (zm (.i c)),
      go (zix rfl rfl bA.of (aX aG q4)),
      go (zlc rfl aQ),
      go (zcm rfl rfl rfl),
      go (zm (.b (decide (z.Player = d1)))),
      gt b9 (zm (.d (.sl 5 (g.map aE)))),
      gt b9 (zm (.i H)),
      gt b9 (zix rfl rfl bZ.of (aX aE t3)),
      gt b9 (zfc [.lit (.int .i64 a0.Kind)] rfl eH),
      gt b9 (zlc rfl aQ),
      gt b9 (zcm rfl rfl rfl),
      go (zpt (.b (decide (a0.Kind = 4))) b9),
      go (zm (.b (decide (a0.Kind = 4)))),
      gp P,
      gp P,
      gp P,
      gp P,
      gp P,
      gp P,
      gp P,
      go (zpf (.b false) P), trivial⟩
                       · exact bH (aL rfl (aM ⟨rfl, rfl, rfl, rfl, rfl, rfl, rfl, rfl, rfl, rfl, trivial⟩))
                     ·obtain rfl := sIn i3;have P : false = false := rfl;have f0 := iK P f0;obtain rfl := sIn f0;refine ⟨[(184, 0, .d (.sl 5 (g.map aE))), (185, 1, .i H), (186, 2, .cp [.lit (.int .i64 z.Id), .lit (.int .i64 z.Hour), .lit (.int .i64 z.Kind), .lit (.int .i64 z.Player), .lit (.int .i64 z.Rank)]), (187, 3, .cp [.lit (.int .i64 z.Player)]), (188, 4, .i z.Player), (189, 5, .d (.sl 1 (t.map aG))), (190, 6, .i c), (191, 7, .cp [.lit (.int .i64 d1)]), (192, 8, .i d1), (193, 9, .b (decide (z.Player = d1))), (194, 10, .b (decide (z.Player = d1))), (195, 11, .tup []), (196, 12, .tup []), (197, 13, .tup []), (198, 14, .tup []), (199, 15, .tup []), (200, 16, .tup []), (201, 17, .b false), (202, 18, .b (false)), (203, 19, .tup []), (204, 20, .tup []), (205, 21, .tup []), (206, 22, .tup []), (207, 23, .tup []), (208, 24, .tup []), (209, 25, .tup []), (210, 26, .b false)], ?_, ?_⟩
                      · exact dok [([], []), ([], []), ([0, 1], []), ([2], []), ([3], []), ([], []), ([], []), ([5, 6], []), ([7], []), ([4, 8], []), ([9], []), ([10], []), ([10], []), ([10, 11, 12], []), ([10, 13], []), ([10, 14], []), ([10, 15], []), ([10, 16], []), ([17], []), ([18], []), ([18], []), ([18, 19, 20], []), ([18, 21], []), ([18, 22], []), ([18], []), ([18, 23, 24], []), ([18, 25], [])] ⟨go (zm (.d (.sl 5 (g.map aE)))),
      go (zm (.i H)),
      go (zix rfl rfl bZ.of (aX aE q3)),
      go (zfc [.lit (.int .i64 z.Player)] rfl cC),
      go (zlc rfl aQ),
      go (zm (.d (.sl 1 (t.map aG)))),
      go (zm (.i c)),
      go (zix rfl rfl bA.of (aX aG q4)),
      go (zlc rfl aQ),
      go (zcm rfl rfl rfl),
      go (zm (.b (decide (z.Player = d1)))),
      gp b9,
      gp b9,
      gp b9,
      gp b9,
      gp b9,
      gp b9,
      go (zpf (.b false) b9),
      go (zm (.b (false))),
      gp P,
      gp P,
      gp P,
      gp P,
      gp P,
      gp P,
      gp P,
      go (zpf (.b false) P), trivial⟩
                      · exact bH (aL rfl (aM ⟨rfl, rfl, rfl, rfl, rfl, rfl, rfl, rfl, rfl, rfl, trivial⟩))
                    ·refine aD ?_;refine tih h (fun y2 h => ?_) (fun y2 h => ?_)
                     ·refine aF (aB (ta (.b false) (aD ?_)));obtain rfl := sIn h;refine bK (bC (bG (l := [6]) ⟨rfl, trivial⟩)) ?_;exact aW ⟨rfl, _, .one _, rfl, rfl⟩
                     ·refine bY ?_;refine aB (tm (.i H) (to (sar rfl rfl rfl) (ta (.i (w64 (H + 1))) (aD ?_))));exact ⟨(w64 (H + 1)), h, aP [0, 1] rfl rfl (aL rfl (aM ⟨rfl, rfl, rfl, rfl, rfl, rfl, rfl, rfl, rfl, trivial⟩))⟩
                   ·refine cD ?_;refine .inl ⟨rfl, ?_⟩;simp only [cO] at h;refine aF ?_;obtain ⟨t4, y3, h⟩ := bns h;obtain ⟨b0, y4, h⟩ := bns h;refine bR mix 14 [1, 2, 3, 7, 11, 13, 14, 15, 20] [(23, .b b0.1), (24, .b b0.2.1), (222, .i b0.2.2)] ?_ ?_
                    ·refine ⟨[(212, 0, .agg (aS n)), (213, 1, .d (.sl 5 (g.map aE))), (214, 2, .i e), (215, 3, .d (.sl 1 (t.map aG))), (216, 4, .i c), (217, 5, .cp [.lit (.int .i64 t4)]), (218, 6, .i t4), (219, 7, .tup [.b b0.1, .b b0.2.1, .i b0.2.2]), (211, 8, .tup [.b b0.1, .b b0.2.1, .i b0.2.2]), (220, 9, .b b0.1), (221, 10, .b b0.2.1), (222, 11, .i b0.2.2), (23, 12, .b b0.1), (24, 13, .b b0.2.1)], ?_, ?_⟩
                     · exact dok [([], []), ([], []), ([], []), ([], []), ([], []), ([3, 4], []), ([5], []), ([0, 1, 2, 6], []), ([7], []), ([8], []), ([8], []), ([8], []), ([9], []), ([10], [])] ⟨go (zla 0 (aS n) rfl rfl fG),
      go (zm (.d (.sl 5 (g.map aE)))),
      go (zm (.i e)),
      go (zm (.d (.sl 1 (t.map aG)))),
      go (zm (.i c)),
      go (zix rfl rfl bA.of (aX aG y3)),
      go (zlc rfl aQ),
      go fun S hS => fN (aK rfl) (.func _ _ Tryz.call16) (ev2 (aO hS rfl) (ev2 (aO hS rfl) (ev2 (aO hS rfl) (ev2 (aO hS rfl) evn)))) rfl (BVs.refl _ _) (eY _ _ _ _ y4) rfl,
      go (zm (.tup [.b b0.1, .b b0.2.1, .i b0.2.2])),
      go (zex rfl rfl),
      go (zex rfl rfl),
      go (zex rfl rfl),
      go (za (.b b0.1)),
      go (za (.b b0.2.1)), trivial⟩
                     · exact bH (aL rfl (aL rfl (aL rfl (aM ⟨rfl, rfl, rfl, rfl, rfl, rfl, rfl, rfl, rfl, trivial⟩))))
                    ·refine ta (.i b0.2.2) (aD (aF (aF (aB (tm (.i 3) (to (scm rfl rfl rfl) (tm (.b (!decide (3 = 2))) ?_)))))));obtain ⟨y5, k8, h⟩ := bns h;refine aZ 3 [1, 2, 3, 7, 11, 13, 14, 15, 20, 24] 228 y5 ?_ ?_
                     ·refine bch k8 (fun i4 k8 => ?_) (fun i4 k8 => ?_)
                      ·refine tk i4 (sm (.b b0.1)) (tk i4 (sn rfl) (to (spt (.b (!b0.1)) i4) ?_));obtain rfl := sIn k8;refine aD (aN rfl ⟨rfl, rfl, rfl, rfl, rfl, rfl, rfl, rfl, rfl, rfl, trivial⟩ rfl)
                      ·refine tp i4 (tp i4 (to (spf (.b false) i4) ?_));obtain rfl := sIn k8;refine aD (aN rfl ⟨rfl, rfl, rfl, rfl, rfl, rfl, rfl, rfl, rfl, rfl, trivial⟩ rfl)
                     ·refine aD ?_;refine tih h (fun y6 h => ?_) (fun y6 h => ?_)
                      ·refine aF (aB (ta (.b false) (aD ?_)));obtain rfl := sIn h;refine bK (bC (bG (l := [6]) ⟨rfl, trivial⟩)) ?_;exact aW ⟨rfl, _, .one _, rfl, rfl⟩
                      ·refine aY (aF (aB (tm (.i 3) (to (scm rfl rfl rfl) (tm (.b (decide (3 = 1))) ?_)))));obtain ⟨y7, k9, h⟩ := bns h;refine aZ 2 [1, 2, 3, 7, 11, 13, 14, 15] 233 y7 ?_ ?_
                       ·refine bch k9 (fun l0 k9 => ?_) (fun l0 k9 => ?_)
                        ·refine tk l0 (sm (.b b0.2.1)) (to (spt (.b b0.2.1) l0) ?_);obtain rfl := sIn k9;refine aD (aN rfl ⟨rfl, rfl, rfl, rfl, rfl, rfl, rfl, rfl, trivial⟩ rfl)
                        ·refine tp l0 (to (spf (.b false) l0) ?_);obtain rfl := sIn k9;refine aD (aN rfl ⟨rfl, rfl, rfl, rfl, rfl, rfl, rfl, rfl, trivial⟩ rfl)
                       ·refine aD ?_;refine tih h (fun y8 h => ?_) (fun y8 h => ?_)
                        ·refine aB (tm (.i m) (to (sar rfl rfl rfl) (ta (.i (w64 (m + 1))) ?_)));refine cP ?_;simp only [bX] at h;refine aB (tm (.i c) (to (sar rfl rfl rfl) (ta (.i (w64 (c + 1))) (aD ?_))));exact ⟨(w64 (m + 1), w64 (c + 1)), h, aP [0, 1] rfl rfl (aL rfl (aL rfl (aM ⟨rfl, rfl, rfl, rfl, rfl, rfl, trivial⟩)))⟩
                        ·refine bY ?_;simp only [bX] at h;refine aB (tm (.i c) (to (sar rfl rfl rfl) (ta (.i (w64 (c + 1))) (aD ?_))));exact ⟨(m, w64 (c + 1)), h, aP [0, 1] rfl rfl (aL rfl (aL rfl (aM ⟨rfl, rfl, rfl, rfl, rfl, rfl, trivial⟩)))⟩
              ·refine aY (aF (aF (aB (tm (.i G.2.2) (to (scm rfl rfl rfl) (tm (.b (!decide (G.2.2 = 0))) ?_))))));obtain ⟨t5, l1, h⟩ := bns h;refine aZ 4 [1, 2, 3, 7, 11, 13, 14, 15, 18, 20, 21] 172 t5 ?_ ?_
               ·refine bch l1 (fun g4 l1 => ?_) (fun g4 l1 => ?_)
                ·refine tp g4 (tp g4 (tp g4 (to (spt (.b true) g4) ?_)));obtain rfl := sIn l1;refine aD (aN rfl ⟨rfl, rfl, rfl, rfl, rfl, rfl, rfl, rfl, rfl, rfl, rfl, trivial⟩ rfl)
                ·refine tk g4 (sm (.i G.1)) (tk g4 (sm (.i 1)) (tk g4 (scm rfl rfl rfl) (to (spf (.b (!decide (G.1 = 1))) g4) ?_)));obtain rfl := sIn l1;refine aD (aN rfl ⟨rfl, rfl, rfl, rfl, rfl, rfl, rfl, rfl, rfl, rfl, rfl, trivial⟩ rfl)
               ·refine tm (.b t5) ?_;obtain ⟨y9, l2, h⟩ := bns h;refine aZ 4 [1, 2, 3, 7, 11, 13, 14, 15, 20] 177 y9 ?_ ?_
                ·refine bch l2 (fun g5 l2 => ?_) (fun g5 l2 => ?_)
                 ·refine tp g5 (tp g5 (tp g5 (to (spt (.b true) g5) ?_)));obtain rfl := sIn l2;refine aD (aN rfl ⟨rfl, rfl, rfl, rfl, rfl, rfl, rfl, rfl, rfl, trivial⟩ rfl)
                 ·refine tk g5 (sm (.i G.2.1)) (tk g5 (sm (.i (w64 (c + 1)))) (tk g5 (scm rfl rfl rfl) (to (spf (.b (!decide (G.2.1 = (w64 (c + 1))))) g5) ?_)));obtain rfl := sIn l2;refine aD (aN rfl ⟨rfl, rfl, rfl, rfl, rfl, rfl, rfl, rfl, rfl, trivial⟩ rfl)
                ·refine aD ?_;refine tih h (fun z0 h => ?_) (fun z0 h => ?_)
                 ·refine aF (aB (ta (.b false) (aD ?_)));obtain rfl := sIn h;refine bK (bC (bG (l := [6]) ⟨rfl, trivial⟩)) ?_;exact aW ⟨rfl, _, .one _, rfl, rfl⟩
                 ·refine aY (aF (aF (aB (ta (.i 0) (aD (bL ?_))))));refine cF (S := Int) [1, 2, 3, 7, 11, 13, 14, 15, 20] (fun o4 => [(22, .i o4)]) (fun o4 => [.box b1 0 (aS n), .box Y 0 (bU r9.1)]) (fun k o4 => bI (bP g e s t n r9.1 p3) g e s t m c 1 n r9.1 k o4) (fun _ => rfl) (0) h (aP [0, 1] rfl rfl (aL rfl (aM ⟨rfl, rfl, rfl, rfl, rfl, rfl, rfl, rfl, rfl, trivial⟩))) ?_;rintro K6 I h;simp only [bI] at h;refine aF (aF (aB (tm (.i I) (tm (.d (.sl 5 (g.map aE))) (to (sle rfl bZ.of) (to (scm rfl rfl rfl) (aD ?_)))))));refine tih h (fun z1 h => ?_) (fun z1 h => ?_)
                  ·refine aY (aF (bL (aF ?_)));obtain ⟨A, q5, h⟩ := bns h;obtain ⟨d2, q6, h⟩ := bns h;obtain ⟨K7, i5, h⟩ := bns h;obtain ⟨z2, f1, h⟩ := bns h;refine bR mix 27 [1, 2, 3, 7, 11, 13, 14, 15, 20, 22] [(210, .b z2)] ?_ ?_
                   ·refine bch i5 (fun c0 i5 => ?_) (fun c0 i5 => ?_)
                    ·obtain ⟨a1, t6, i5⟩ := bns i5;obtain rfl := sIn i5;refine bch f1 (fun Q f1 => ?_) (fun Q f1 => ?_)
                     ·obtain ⟨e4, z3, f1⟩ := bns f1;obtain rfl := sIn f1;refine ⟨[(184, 0, .d (.sl 5 (g.map aE))), (185, 1, .i I), (186, 2, .cp [.lit (.int .i64 A.Id), .lit (.int .i64 A.Hour), .lit (.int .i64 A.Kind), .lit (.int .i64 A.Player), .lit (.int .i64 A.Rank)]), (187, 3, .cp [.lit (.int .i64 A.Player)]), (188, 4, .i A.Player), (189, 5, .d (.sl 1 (t.map aG))), (190, 6, .i c), (191, 7, .cp [.lit (.int .i64 d2)]), (192, 8, .i d2), (193, 9, .b (decide (A.Player = d2))), (194, 10, .b (decide (A.Player = d2))), (195, 11, .d (.sl 5 (g.map aE))), (196, 12, .i I), (197, 13, .cp [.lit (.int .i64 a1.Id), .lit (.int .i64 a1.Hour), .lit (.int .i64 a1.Kind), .lit (.int .i64 a1.Player), .lit (.int .i64 a1.Rank)]), (198, 14, .cp [.lit (.int .i64 a1.Kind)]), (199, 15, .i a1.Kind), (200, 16, .b (decide (a1.Kind = 4))), (201, 17, .b (decide (a1.Kind = 4))), (202, 18, .b (decide (a1.Kind = 4))), (203, 19, .d (.sl 5 (g.map aE))), (204, 20, .i I), (205, 21, .cp [.lit (.int .i64 e4.Id), .lit (.int .i64 e4.Hour), .lit (.int .i64 e4.Kind), .lit (.int .i64 e4.Player), .lit (.int .i64 e4.Rank)]), (206, 22, .cp [.lit (.int .i64 e4.Hour)]), (207, 23, .i e4.Hour), (208, 24, .i e), (209, 25, .b (decide (e4.Hour ≤ e))), (210, 26, .b (decide (e4.Hour ≤ e)))], ?_, ?_⟩
                      · exact dok [([], []), ([], []), ([0, 1], []), ([2], []), ([3], []), ([], []), ([], []), ([5, 6], []), ([7], []), ([4, 8], []), ([9], []), ([10], []), ([10], []), ([10, 11, 12], []), ([10, 13], []), ([10, 14], []), ([10, 15], []), ([10, 16], []), ([17], []), ([18], []), ([18], []), ([18, 19, 20], []), ([18, 21], []), ([18, 22], []), ([18], []), ([18, 23, 24], []), ([18, 25], [])] ⟨go (zm (.d (.sl 5 (g.map aE)))),
      go (zm (.i I)),
      go (zix rfl rfl bZ.of (aX aE q5)),
      go (zfc [.lit (.int .i64 A.Player)] rfl cC),
      go (zlc rfl aQ),
      go (zm (.d (.sl 1 (t.map aG)))),
      go (zm (.i c)),
      go (zix rfl rfl bA.of (aX aG q6)),
      go (zlc rfl aQ),
      go (zcm rfl rfl rfl),
      go (zm (.b (decide (A.Player = d2)))),
      gt c0 (zm (.d (.sl 5 (g.map aE)))),
      gt c0 (zm (.i I)),
      gt c0 (zix rfl rfl bZ.of (aX aE t6)),
      gt c0 (zfc [.lit (.int .i64 a1.Kind)] rfl eH),
      gt c0 (zlc rfl aQ),
      gt c0 (zcm rfl rfl rfl),
      go (zpt (.b (decide (a1.Kind = 4))) c0),
      go (zm (.b (decide (a1.Kind = 4)))),
      gt Q (zm (.d (.sl 5 (g.map aE)))),
      gt Q (zm (.i I)),
      gt Q (zix rfl rfl bZ.of (aX aE z3)),
      gt Q (zfc [.lit (.int .i64 e4.Hour)] rfl cT),
      gt Q (zlc rfl aQ),
      gt Q (zm (.i e)),
      gt Q (zcm rfl rfl rfl),
      go (zpt (.b (decide (e4.Hour ≤ e))) Q), trivial⟩
                      · exact bH (aL rfl (aM ⟨rfl, rfl, rfl, rfl, rfl, rfl, rfl, rfl, rfl, rfl, trivial⟩))
                     ·obtain rfl := sIn f1;refine ⟨[(184, 0, .d (.sl 5 (g.map aE))), (185, 1, .i I), (186, 2, .cp [.lit (.int .i64 A.Id), .lit (.int .i64 A.Hour), .lit (.int .i64 A.Kind), .lit (.int .i64 A.Player), .lit (.int .i64 A.Rank)]), (187, 3, .cp [.lit (.int .i64 A.Player)]), (188, 4, .i A.Player), (189, 5, .d (.sl 1 (t.map aG))), (190, 6, .i c), (191, 7, .cp [.lit (.int .i64 d2)]), (192, 8, .i d2), (193, 9, .b (decide (A.Player = d2))), (194, 10, .b (decide (A.Player = d2))), (195, 11, .d (.sl 5 (g.map aE))), (196, 12, .i I), (197, 13, .cp [.lit (.int .i64 a1.Id), .lit (.int .i64 a1.Hour), .lit (.int .i64 a1.Kind), .lit (.int .i64 a1.Player), .lit (.int .i64 a1.Rank)]), (198, 14, .cp [.lit (.int .i64 a1.Kind)]), (199, 15, .i a1.Kind), (200, 16, .b (decide (a1.Kind = 4))), (201, 17, .b (decide (a1.Kind = 4))), (202, 18, .b (decide (a1.Kind = 4))), (203, 19, .tup []), (204, 20, .tup []), (205, 21, .tup []), (206, 22, .tup []), (207, 23, .tup []), (208, 24, .tup []), (209, 25, .tup []), (210, 26, .b false)], ?_, ?_⟩
                      · exact dok [([], []), ([], []), ([0, 1], []), ([2], []), ([3], []), ([], []), ([], []), ([5, 6], []), ([7], []), ([4, 8], []), ([9], []), ([10], []), ([10], []), ([10, 11, 12], []), ([10, 13], []), ([10, 14], []), ([10, 15], []), ([10, 16], []), ([17], []), ([18], []), ([18], []), ([18, 19, 20], []), ([18, 21], []), ([18, 22], []), ([18], []), ([18, 23, 24], []), ([18, 25], [])] ⟨go (zm (.d (.sl 5 (g.map aE)))),
      go (zm (.i I)),
      go (zix rfl rfl bZ.of (aX aE q5)),
      go (zfc [.lit (.int .i64 A.Player)] rfl cC),
      go (zlc rfl aQ),
      go (zm (.d (.sl 1 (t.map aG)))),
      go (zm (.i c)),
      go (zix rfl rfl bA.of (aX aG q6)),
      go (zlc rfl aQ),
      go (zcm rfl rfl rfl),
      go (zm (.b (decide (A.Player = d2)))),
      gt c0 (zm (.d (.sl 5 (g.map aE)))),
      gt c0 (zm (.i I)),
      gt c0 (zix rfl rfl bZ.of (aX aE t6)),
      gt c0 (zfc [.lit (.int .i64 a1.Kind)] rfl eH),
      gt c0 (zlc rfl aQ),
      gt c0 (zcm rfl rfl rfl),
      go (zpt (.b (decide (a1.Kind = 4))) c0),
      go (zm (.b (decide (a1.Kind = 4)))),
      gp Q,
      gp Q,
      gp Q,
      gp Q,
      gp Q,
      gp Q,
      gp Q,
      go (zpf (.b false) Q), trivial⟩
                      · exact bH (aL rfl (aM ⟨rfl, rfl, rfl, rfl, rfl, rfl, rfl, rfl, rfl, rfl, trivial⟩))
                    ·obtain rfl := sIn i5;have Q : false = false := rfl;have f1 := iK Q f1;obtain rfl := sIn f1;refine ⟨[(184, 0, .d (.sl 5 (g.map aE))), (185, 1, .i I), (186, 2, .cp [.lit (.int .i64 A.Id), .lit (.int .i64 A.Hour), .lit (.int .i64 A.Kind), .lit (.int .i64 A.Player), .lit (.int .i64 A.Rank)]), (187, 3, .cp [.lit (.int .i64 A.Player)]), (188, 4, .i A.Player), (189, 5, .d (.sl 1 (t.map aG))), (190, 6, .i c), (191, 7, .cp [.lit (.int .i64 d2)]), (192, 8, .i d2), (193, 9, .b (decide (A.Player = d2))), (194, 10, .b (decide (A.Player = d2))), (195, 11, .tup []), (196, 12, .tup []), (197, 13, .tup []), (198, 14, .tup []), (199, 15, .tup []), (200, 16, .tup []), (201, 17, .b false), (202, 18, .b (false)), (203, 19, .tup []), (204, 20, .tup []), (205, 21, .tup []), (206, 22, .tup []), (207, 23, .tup []), (208, 24, .tup []), (209, 25, .tup []), (210, 26, .b false)], ?_, ?_⟩
                     · exact dok [([], []), ([], []), ([0, 1], []), ([2], []), ([3], []), ([], []), ([], []), ([5, 6], []), ([7], []), ([4, 8], []), ([9], []), ([10], []), ([10], []), ([10, 11, 12], []), ([10, 13], []), ([10, 14], []), ([10, 15], []), ([10, 16], []), ([17], []), ([18], []), ([18], []), ([18, 19, 20], []), ([18, 21], []), ([18, 22], []), ([18], []), ([18, 23, 24], []), ([18, 25], [])] ⟨go (zm (.d (.sl 5 (g.map aE)))),
      go (zm (.i I)),
      go (zix rfl rfl bZ.of (aX aE q5)),
      go (zfc [.lit (.int .i64 A.Player)] rfl cC),
      go (zlc rfl aQ),
      go (zm (.d (.sl 1 (t.map aG)))),
      go (zm (.i c)),
      go (zix rfl rfl bA.of (aX aG q6)),
      go (zlc rfl aQ),
      go (zcm rfl rfl rfl),
      go (zm (.b (decide (A.Player = d2)))),
      gp c0,
      gp c0,
      gp c0,
      gp c0,
      gp c0,
      gp c0,
      go (zpf (.b false) c0),
      go (zm (.b (false))),
      gp Q,
      gp Q,
      gp Q,
      gp Q,
      gp Q,
      gp Q,
      gp Q,
      go (zpf (.b false) Q), trivial⟩
                     · exact bH (aL rfl (aM ⟨rfl, rfl, rfl, rfl, rfl, rfl, rfl, rfl, rfl, rfl, trivial⟩))
                   ·refine aD ?_;refine tih h (fun z4 h => ?_) (fun z4 h => ?_)
                    ·refine aF (aB (ta (.b false) (aD ?_)));obtain rfl := sIn h;refine bK (bC (bG (l := [6]) ⟨rfl, trivial⟩)) ?_;exact aW ⟨rfl, _, .one _, rfl, rfl⟩
                    ·refine bY ?_;refine aB (tm (.i I) (to (sar rfl rfl rfl) (ta (.i (w64 (I + 1))) (aD ?_))));exact ⟨(w64 (I + 1)), h, aP [0, 1] rfl rfl (aL rfl (aM ⟨rfl, rfl, rfl, rfl, rfl, rfl, rfl, rfl, rfl, trivial⟩))⟩
                  ·refine cD ?_;refine .inl ⟨rfl, ?_⟩;simp only [cO] at h;refine aF ?_;obtain ⟨t7, z5, h⟩ := bns h;obtain ⟨b2, z6, h⟩ := bns h;refine bR mix 14 [1, 2, 3, 7, 11, 13, 14, 15, 20] [(23, .b b2.1), (24, .b b2.2.1), (222, .i b2.2.2)] ?_ ?_
                   ·refine ⟨[(212, 0, .agg (aS n)), (213, 1, .d (.sl 5 (g.map aE))), (214, 2, .i e), (215, 3, .d (.sl 1 (t.map aG))), (216, 4, .i c), (217, 5, .cp [.lit (.int .i64 t7)]), (218, 6, .i t7), (219, 7, .tup [.b b2.1, .b b2.2.1, .i b2.2.2]), (211, 8, .tup [.b b2.1, .b b2.2.1, .i b2.2.2]), (220, 9, .b b2.1), (221, 10, .b b2.2.1), (222, 11, .i b2.2.2), (23, 12, .b b2.1), (24, 13, .b b2.2.1)], ?_, ?_⟩
                    · exact dok [([], []), ([], []), ([], []), ([], []), ([], []), ([3, 4], []), ([5], []), ([0, 1, 2, 6], []), ([7], []), ([8], []), ([8], []), ([8], []), ([9], []), ([10], [])] ⟨go (zla 0 (aS n) rfl rfl fG),
      go (zm (.d (.sl 5 (g.map aE)))),
      go (zm (.i e)),
      go (zm (.d (.sl 1 (t.map aG)))),
      go (zm (.i c)),
      go (zix rfl rfl bA.of (aX aG z5)),
      go (zlc rfl aQ),
      go fun S hS => fN (aK rfl) (.func _ _ Tryz.call16) (ev2 (aO hS rfl) (ev2 (aO hS rfl) (ev2 (aO hS rfl) (ev2 (aO hS rfl) evn)))) rfl (BVs.refl _ _) (eY _ _ _ _ z6) rfl,
      go (zm (.tup [.b b2.1, .b b2.2.1, .i b2.2.2])),
      go (zex rfl rfl),
      go (zex rfl rfl),
      go (zex rfl rfl),
      go (za (.b b2.1)),
      go (za (.b b2.2.1)), trivial⟩
                    · exact bH (aL rfl (aL rfl (aL rfl (aM ⟨rfl, rfl, rfl, rfl, rfl, rfl, rfl, rfl, rfl, trivial⟩))))
                   ·refine ta (.i b2.2.2) (aD (aF (aF (aB (tm (.i 1) (to (scm rfl rfl rfl) (tm (.b (!decide (1 = 2))) ?_)))))));obtain ⟨z7, l3, h⟩ := bns h;refine aZ 3 [1, 2, 3, 7, 11, 13, 14, 15, 20, 24] 228 z7 ?_ ?_
                    ·refine bch l3 (fun i6 l3 => ?_) (fun i6 l3 => ?_)
                     ·refine tk i6 (sm (.b b2.1)) (tk i6 (sn rfl) (to (spt (.b (!b2.1)) i6) ?_));obtain rfl := sIn l3;refine aD (aN rfl ⟨rfl, rfl, rfl, rfl, rfl, rfl, rfl, rfl, rfl, rfl, trivial⟩ rfl)
                     ·refine tp i6 (tp i6 (to (spf (.b false) i6) ?_));obtain rfl := sIn l3;refine aD (aN rfl ⟨rfl, rfl, rfl, rfl, rfl, rfl, rfl, rfl, rfl, rfl, trivial⟩ rfl)
                    ·refine aD ?_;refine tih h (fun z8 h => ?_) (fun z8 h => ?_)
                     ·refine aF (aB (ta (.b false) (aD ?_)));obtain rfl := sIn h;refine bK (bC (bG (l := [6]) ⟨rfl, trivial⟩)) ?_;exact aW ⟨rfl, _, .one _, rfl, rfl⟩
                     ·refine aY (aF (aB (tm (.i 1) (to (scm rfl rfl rfl) (tm (.b (decide (1 = 1))) ?_)))));obtain ⟨z9, l4, h⟩ := bns h;refine aZ 2 [1, 2, 3, 7, 11, 13, 14, 15] 233 z9 ?_ ?_
                      ·refine bch l4 (fun l5 l4 => ?_) (fun l5 l4 => ?_)
                       ·refine tk l5 (sm (.b b2.2.1)) (to (spt (.b b2.2.1) l5) ?_);obtain rfl := sIn l4;refine aD (aN rfl ⟨rfl, rfl, rfl, rfl, rfl, rfl, rfl, rfl, trivial⟩ rfl)
                       ·refine tp l5 (to (spf (.b false) l5) ?_);obtain rfl := sIn l4;refine aD (aN rfl ⟨rfl, rfl, rfl, rfl, rfl, rfl, rfl, rfl, trivial⟩ rfl)
                      ·refine aD ?_;refine tih h (fun A0 h => ?_) (fun A0 h => ?_)
                       ·refine aB (tm (.i m) (to (sar rfl rfl rfl) (ta (.i (w64 (m + 1))) ?_)));refine cP ?_;simp only [bX] at h;refine aB (tm (.i c) (to (sar rfl rfl rfl) (ta (.i (w64 (c + 1))) (aD ?_))));exact ⟨(w64 (m + 1), w64 (c + 1)), h, aP [0, 1] rfl rfl (aL rfl (aL rfl (aM ⟨rfl, rfl, rfl, rfl, rfl, rfl, trivial⟩)))⟩
                       ·refine bY ?_;simp only [bX] at h;refine aB (tm (.i c) (to (sar rfl rfl rfl) (ta (.i (w64 (c + 1))) (aD ?_))));exact ⟨(m, w64 (c + 1)), h, aP [0, 1] rfl rfl (aL rfl (aL rfl (aM ⟨rfl, rfl, rfl, rfl, rfl, rfl, trivial⟩)))⟩
          ·refine cD ?_;refine .inl ⟨rfl, ?_⟩;simp only [gO] at h;refine aF (aB (tfl 1 rfl rfl gU rfl cH (to (sle rfl bA.of) (tfl 1 rfl rfl zO rfl aQ (to (sar rfl rfl rfl) (tfl 0 rfl rfl tP rfl aQ (tm (.i s) (to (sar rfl rfl rfl) (to (scm rfl rfl rfl) (tm (.b (decide ((w64 ((r9.1.Main.length : Int) + r9.1.Open)) = (w64 (n.Places + s))))) ?_))))))))));obtain ⟨t8, l6, h⟩ := bns h;refine aZ 5 [] 252 t8 ?_ ?_
           ·refine bch l6 (fun f2 l6 => ?_) (fun f2 l6 => ?_)
            ·refine tk f2 (sm (.i m)) (tkl 0 f2 rfl rfl lD rfl aQ (tk f2 (scm rfl rfl rfl) (to (spt (.b (decide (m ≤ n.Guards))) f2) ?_)));obtain rfl := sIn l6;refine aD (aN rfl trivial rfl)
            ·refine tp f2 (tp f2 (tp f2 (tp f2 (to (spf (.b false) f2) ?_))));obtain rfl := sIn l6;refine aD (aN rfl trivial rfl)
           ·refine tm (.b t8) ?_;obtain ⟨t9, i7, h⟩ := bns h;refine aZ 2 [] 255 t9 ?_ ?_
            ·refine bch i7 (fun l7 i7 => ?_) (fun l7 i7 => ?_)
             ·obtain ⟨A1, A2, i7⟩ := bns i7;refine tk l7 (scr Tryz.call13 (oF A2)) (to (spt (.b A1) l7) ?_);obtain rfl := sIn i7;refine aD (aN rfl trivial rfl)
             ·refine tp l7 (to (spf (.b false) l7) ?_);obtain rfl := sIn i7;refine aD (aN rfl trivial rfl)
            ·refine ta (.b t9) (aD ?_);obtain rfl := sIn h;refine bK (bC (bG (l := [6]) ⟨rfl, trivial⟩)) ?_;exact aW ⟨rfl, _, .one _, rfl, rfl⟩
       ·refine aY (aF ?_);obtain ⟨u0, A3, h⟩ := bns h;obtain ⟨q7, A4, h⟩ := bns h;refine iY mix 9 [1, 2, 3, 7, 11] (fun u => [(98, .d (.lit (u 6).v)), (100, .d (.sl 1 (r9.1.Out.map aG)))]) (fun u => [.box b1 0 (aS n), .box Y 0 (bU r9.1), .box k0 0 (bU e0.1), .arr (u 6).v 3 1 (q7.map aG)]) ?_ ?_
        ·refine ⟨1, fun u => [(92, 0, .d (.lit (u 0).v)), (93, 1, .bp Y 0 0), (94, 2, .d (.sl 1 (r9.1.Main.map aG))), (95, 3, .d (.lit (u 3).v)), (96, 4, .bp Y 0 1), (97, 5, .d (.sl 1 (r9.1.Wilds.map aG))), (98, 6, .d (.lit (u 6).v)), (99, 7, .bp Y 0 2), (100, 8, .d (.sl 1 (r9.1.Out.map aG)))], fun u => [([], .box b1 0 (aS n)), ([], .box Y 0 (bU r9.1)), ([], .box k0 0 (bU e0.1)), ([(6, .arr (u 6).v 3 1 (q7.map aG)), (3, .arr (u 3).v 3 1 (u0.map aG)), (0, .arr (u 0).v 3 1 (([] : List Int).map aG))], nob)], ?_, ?_⟩
         · exact ⟨by kernel_rfl, by kernel_rfl, by kernel_rfl, fun _ => by kernel_rfl, fun _ => by kernel_rfl, fun _ => by kernel_rfl, fun _ => rfl, [([], [3, 6]), ([], [3, 6]), ([1], [3, 6]), ([0, 2], [6]), ([], [6]), ([4], [6]), ([0, 3, 5], []), ([], []), ([7], [])], by kernel_rfl, ⟨fun u S hw hi hS => lL (X := u) (p := 3) (v := fun x => .d (.lit x.v)) (mo := fun x => .arr x.v 3 1 (([] : List Int).map aG)) hS hi rfl rfl (fun _ => rfl) hw (fun _ => rfl) (fun _ => rfl) (fun _ => rfl) (fun _ => ⟨rfl, rfl, .inl rfl, ⟨rfl, rfl, .inr rfl, ⟨rfl, rfl, .inr rfl, ⟨rfl, rfl, .inr rfl, ⟨rfl, rfl, .inr rfl, ⟨rfl, rfl, .inr rfl, ⟨rfl, rfl, .inr rfl, ⟨rfl, rfl, .inr rfl, ⟨rfl, rfl, .inr rfl, trivial⟩⟩⟩⟩⟩⟩⟩⟩⟩) (fun _ => ⟨trivial, rfl, ⟨trivial, rfl, ⟨trivial, rfl, ⟨⟨rfl, .inr rfl, ⟨rfl, .inr rfl, ⟨rfl, .inl rfl, trivial⟩⟩⟩, rfl, trivial⟩⟩⟩⟩) (fS (aDe (aK rfl) bA rfl pan (rows := (([] : List Int)).map aG) rfl (bD (f := aG) fun _ => rfl) rfl (by decide)) (by rintro _ ⟨w, rfl⟩; exact ⟨⟨0, w⟩, aP [0, 1, 2, 4] rfl rfl (le_refl _)⟩)),
      fun u S hw hi hS => bE (X := u) rfl (hw u) rfl (bV rfl (cN (aK rfl) (aO hS rfl) gU)),
      fun u S hw hi hS => bE (X := u) rfl (hw u) rfl (bV rfl (dA (aK rfl) (aO hS rfl) (i := 1) (og hS rfl rfl) rfl cH)),
      fun u S hw hi hS => lL (X := u) (p := 3) (v := fun x => .d (.lit x.v)) (mo := fun x => .arr x.v 3 1 (u0.map aG)) hS hi rfl rfl (fun _ => rfl) hw (fun _ => rfl) (fun _ => rfl) (fun _ => rfl) (fun _ => ⟨rfl, rfl, .inr rfl, ⟨rfl, rfl, .inr rfl, ⟨rfl, rfl, .inr rfl, ⟨rfl, rfl, .inl rfl, ⟨rfl, rfl, .inr rfl, ⟨rfl, rfl, .inr rfl, ⟨rfl, rfl, .inr rfl, ⟨rfl, rfl, .inr rfl, ⟨rfl, rfl, .inr rfl, trivial⟩⟩⟩⟩⟩⟩⟩⟩⟩) (fun _ => ⟨trivial, rfl, ⟨trivial, rfl, ⟨trivial, rfl, ⟨⟨rfl, .inr rfl, ⟨rfl, .inl rfl, ⟨rfl, .inr rfl, trivial⟩⟩⟩, rfl, trivial⟩⟩⟩⟩) (fS (gJ (i := 3) (aK rfl) bA (aO hS rfl) (og hS rfl rfl) (aO hS rfl) (fun _ => rfl) A3 rfl) (by rintro _ ⟨w, rfl⟩; exact ⟨⟨0, w⟩, Ent.refl _⟩)),
      fun u S hw hi hS => bE (X := u) rfl (hw u) rfl (bV rfl (cN (aK rfl) (aO hS rfl) iS)),
      fun u S hw hi hS => bE (X := u) rfl (hw u) rfl (bV rfl (dA (aK rfl) (aO hS rfl) (i := 1) (og hS rfl rfl) rfl cH)),
      fun u S hw hi hS => lL (X := u) (p := 3) (v := fun x => .d (.lit x.v)) (mo := fun x => .arr x.v 3 1 (q7.map aG)) hS hi rfl rfl (fun _ => rfl) hw (fun _ => rfl) (fun _ => rfl) (fun _ => rfl) (fun _ => ⟨rfl, rfl, .inr rfl, ⟨rfl, rfl, .inr rfl, ⟨rfl, rfl, .inr rfl, ⟨rfl, rfl, .inr rfl, ⟨rfl, rfl, .inr rfl, ⟨rfl, rfl, .inr rfl, ⟨rfl, rfl, .inl rfl, ⟨rfl, rfl, .inr rfl, ⟨rfl, rfl, .inr rfl, trivial⟩⟩⟩⟩⟩⟩⟩⟩⟩) (fun _ => ⟨trivial, rfl, ⟨trivial, rfl, ⟨trivial, rfl, ⟨⟨rfl, .inl rfl, ⟨rfl, .inr rfl, ⟨rfl, .inr rfl, trivial⟩⟩⟩, rfl, trivial⟩⟩⟩⟩) (fS (gJ (i := 3) (aK rfl) bA (aO hS rfl) (og hS rfl rfl) (aO hS rfl) (fun _ => rfl) A4 rfl) (by rintro _ ⟨w, rfl⟩; exact ⟨⟨0, w⟩, Ent.refl _⟩)),
      fun u S hw hi hS => bE (X := u) rfl (hw u) rfl (bV rfl (cN (aK rfl) (aO hS rfl) zN)),
      fun u S hw hi hS => bE (X := u) rfl (hw u) rfl (bV rfl (dA (aK rfl) (aO hS rfl) (i := 1) (og hS rfl rfl) rfl cH)), trivial⟩⟩
         · exact fun u => bH (aL rfl (aL rfl (aM ⟨rfl, rfl, rfl, rfl, rfl, trivial⟩)))
        ·intro u;obtain ⟨o, A5, h⟩ := bns h;refine bW rfl (gJ (i := 3) (aK rfl) bA rfl rfl rfl (fun _ => rfl) A5 rfl) ?_;rintro _ ⟨A6, rfl⟩;refine dD (vH [.box b1 0 (aS n), .box Y 0 (bU r9.1), .box k0 0 (bU e0.1)] [.arr A6 3 1 (o.map aG)] rfl (aIq (v' := .d (.sl 1 (o.map aG))) (.d (aGu (bD (f := aG) fun _ => rfl))) (iA _ _))) ?_;refine ta (.d (.sl 1 (o.map aG))) (aD (aF (aB (ta (.i 0) (aD (aF (aF (aB (ta (.i 0) (aD (bL ?_)))))))))));refine cF (S := Int × Int) [1, 2, 3, 7, 11, 13] (fun j9 => [(14, .i j9.1), (15, .i j9.2)]) (fun j9 => [.box b1 0 (aS n), .box Y 0 (bU r9.1)]) (fun k j9 => bP g e 0 o n r9.1 k j9.1 j9.2) (fun _ => rfl) (0, 0) h (aP [0, 1] rfl rfl (aL rfl (aL rfl (aM ⟨rfl, rfl, rfl, rfl, rfl, rfl, trivial⟩)))) ?_;rintro l8 ⟨j, a⟩ h;simp only [bP] at h;refine aF (aF (aB (tm (.i a) (tm (.d (.sl 1 (o.map aG))) (to (sle rfl bA.of) (to (scm rfl rfl rfl) (aD ?_)))))));refine tih h (fun A7 h => ?_) (fun A7 h => ?_)
         ·refine aY (aF (bL (aF (aF (aB (ta (.i 0) (aD (bL ?_))))))));refine cF (S := Int) [1, 2, 3, 7, 11, 13, 14, 15] (fun o5 => [(16, .i o5)]) (fun o5 => [.box b1 0 (aS n), .box Y 0 (bU r9.1)]) (fun k o5 => dC (bP g e 0 o n r9.1 l8) g e 0 o j a n r9.1 k o5) (fun _ => rfl) (0) h (aP [0, 1] rfl rfl (aL rfl (aM ⟨rfl, rfl, rfl, rfl, rfl, rfl, rfl, rfl, trivial⟩))) ?_;rintro K8 d9 h;simp only [dC] at h;refine aF (aF (aB (tm (.i d9) (tm (.i a) (to (scm rfl rfl rfl) (aD ?_))))));refine tih h (fun A8 h => ?_) (fun A8 h => ?_)
          ·refine aY (aF (bL (aF ?_)));obtain ⟨q8, A9, h⟩ := bns h;obtain ⟨q9, B0, h⟩ := bns h;refine bR mix 8 [1, 2, 3, 7, 11, 13, 14, 15, 16] [(116, .i q8), (120, .i q9)] ?_ ?_
           ·refine ⟨[(113, 0, .d (.sl 1 (o.map aG))), (114, 1, .i d9), (115, 2, .cp [.lit (.int .i64 q8)]), (116, 3, .i q8), (117, 4, .d (.sl 1 (o.map aG))), (118, 5, .i a), (119, 6, .cp [.lit (.int .i64 q9)]), (120, 7, .i q9)], ?_, ?_⟩
            · exact dok [([], []), ([], []), ([0, 1], []), ([2], []), ([], []), ([], []), ([4, 5], []), ([6], [])] ⟨go (zm (.d (.sl 1 (o.map aG)))),
      go (zm (.i d9)),
      go (zix rfl rfl bA.of (aX aG A9)),
      go (zlc rfl aQ),
      go (zm (.d (.sl 1 (o.map aG)))),
      go (zm (.i a)),
      go (zix rfl rfl bA.of (aX aG B0)),
      go (zlc rfl aQ), trivial⟩
            · exact bH (aL rfl (aL rfl (aM ⟨rfl, rfl, rfl, rfl, rfl, rfl, rfl, rfl, rfl, trivial⟩)))
           ·refine to (scm rfl rfl rfl) (aD ?_);refine tih h (fun B1 h => ?_) (fun B1 h => ?_)
            ·refine aF (aB (ta (.b false) (aD ?_)));obtain rfl := sIn h;refine bK (bC (bG (l := [6]) ⟨rfl, trivial⟩)) ?_;exact aW ⟨rfl, _, .one _, rfl, rfl⟩
            ·refine bY ?_;refine aB (tm (.i d9) (to (sar rfl rfl rfl) (ta (.i (w64 (d9 + 1))) (aD ?_))));exact ⟨(w64 (d9 + 1)), h, aP [0, 1] rfl rfl (aL rfl (aM ⟨rfl, rfl, rfl, rfl, rfl, rfl, rfl, rfl, trivial⟩))⟩
          ·refine cD ?_;refine .inl ⟨rfl, ?_⟩;simp only [eF] at h;refine aF ?_;obtain ⟨u1, B2, h⟩ := bns h;obtain ⟨q, B3, h⟩ := bns h;refine bR mix 14 [1, 2, 3, 7, 11, 13, 14, 15] [(17, .i q.1), (18, .i q.2.1), (133, .i q.2.2)] ?_ ?_
           ·refine ⟨[(123, 0, .agg (aS n)), (124, 1, .d (.sl 5 (g.map aE))), (125, 2, .i e), (126, 3, .d (.sl 1 (o.map aG))), (127, 4, .i a), (128, 5, .cp [.lit (.int .i64 u1)]), (129, 6, .i u1), (130, 7, .tup [.i q.1, .i q.2.1, .i q.2.2]), (122, 8, .tup [.i q.1, .i q.2.1, .i q.2.2]), (131, 9, .i q.1), (132, 10, .i q.2.1), (133, 11, .i q.2.2), (17, 12, .i q.1), (18, 13, .i q.2.1)], ?_, ?_⟩
            · exact dok [([], []), ([], []), ([], []), ([], []), ([], []), ([3, 4], []), ([5], []), ([0, 1, 2, 6], []), ([7], []), ([8], []), ([8], []), ([8], []), ([9], []), ([10], [])] ⟨go (zla 0 (aS n) rfl rfl fG),
      go (zm (.d (.sl 5 (g.map aE)))),
      go (zm (.i e)),
      go (zm (.d (.sl 1 (o.map aG)))),
      go (zm (.i a)),
      go (zix rfl rfl bA.of (aX aG B2)),
      go (zlc rfl aQ),
      go fun S hS => fN (aK rfl) (.func _ _ Tryz.call24) (ev2 (aO hS rfl) (ev2 (aO hS rfl) (ev2 (aO hS rfl) (ev2 (aO hS rfl) evn)))) rfl (BVs.refl _ _) (wN _ _ _ _ B3) rfl,
      go (zm (.tup [.i q.1, .i q.2.1, .i q.2.2])),
      go (zex rfl rfl),
      go (zex rfl rfl),
      go (zex rfl rfl),
      go (za (.i q.1)),
      go (za (.i q.2.1)), trivial⟩
            · exact bH (aL rfl (aL rfl (aL rfl (aM ⟨rfl, rfl, rfl, rfl, rfl, rfl, rfl, rfl, trivial⟩))))
           ·refine ta (.i q.2.2) (aD (aF (aB (tm (.i a) (to (sar rfl rfl rfl) (ta (.i 1) (ta (.i (w64 (a + 1))) (aD (aF (aF (aB (tm (.i a) (to (sf rfl gU) ?_)))))))))))));refine to (sl 1 rfl rfl rfl cH) (to (sle rfl bA.of) (to (scm rfl rfl rfl) (aD ?_)));refine tih h (fun B4 h => ?_) (fun B4 h => ?_)
            ·refine bR mix 7 [1, 2, 3, 7, 11, 13, 14, 15, 17, 18, 19] [(20, .i 2), (146, .i (w64 ((w64 (a + 1)) - (r9.1.Main.length : Int))))] ?_ ?_
             ·refine ⟨[(141, 0, .i a), (142, 1, .i (w64 (a + 1))), (143, 2, .bp Y 0 0), (144, 3, .d (.sl 1 (r9.1.Main.map aG))), (145, 4, .i (r9.1.Main.length : Int)), (146, 5, .i (w64 ((w64 (a + 1)) - (r9.1.Main.length : Int)))), (20, 6, .i 2)], ?_, ?_⟩
              · exact dok [([], []), ([0], []), ([], []), ([2], []), ([3], []), ([1, 4], []), ([], [])] ⟨go (zm (.i a)),
      go (zar rfl rfl rfl),
      go (zf rfl gU),
      go (zl 1 rfl rfl rfl cH),
      go (zle rfl bA.of),
      go (zar rfl rfl rfl),
      go (za (.i 2)), trivial⟩
              · exact bH (aL rfl (aL rfl (aM ⟨rfl, rfl, rfl, rfl, rfl, rfl, rfl, rfl, rfl, rfl, rfl, trivial⟩)))
             ·refine ta (.i (w64 ((w64 (a + 1)) - (r9.1.Main.length : Int)))) (aD (aF (aF (aB (tm (.i a) (tfl 1 rfl rfl gU rfl cH (to (sle rfl bA.of) (tfl 1 rfl rfl iS rfl cH (to (sle rfl bA.of) (to (sar rfl rfl rfl) (to (scm rfl rfl rfl) ?_)))))))))));refine aD ?_;refine tih h (fun B5 h => ?_) (fun B5 h => ?_)
              ·refine bR mix 11 [1, 2, 3, 7, 11, 13, 14, 15, 17, 18, 19] [(20, .i 3), (165, .i (w64 ((w64 ((w64 (a + 1)) - (r9.1.Main.length : Int))) - (r9.1.Wilds.length : Int))))] ?_ ?_
               ·refine ⟨[(156, 0, .i a), (157, 1, .i (w64 (a + 1))), (158, 2, .bp Y 0 0), (159, 3, .d (.sl 1 (r9.1.Main.map aG))), (160, 4, .i (r9.1.Main.length : Int)), (161, 5, .i (w64 ((w64 (a + 1)) - (r9.1.Main.length : Int)))), (162, 6, .bp Y 0 1), (163, 7, .d (.sl 1 (r9.1.Wilds.map aG))), (164, 8, .i (r9.1.Wilds.length : Int)), (165, 9, .i (w64 ((w64 ((w64 (a + 1)) - (r9.1.Main.length : Int))) - (r9.1.Wilds.length : Int)))), (20, 10, .i 3)], ?_, ?_⟩
                · exact dok [([], []), ([0], []), ([], []), ([2], []), ([3], []), ([1, 4], []), ([], []), ([6], []), ([7], []), ([5, 8], []), ([], [])] ⟨go (zm (.i a)),
      go (zar rfl rfl rfl),
      go (zf rfl gU),
      go (zl 1 rfl rfl rfl cH),
      go (zle rfl bA.of),
      go (zar rfl rfl rfl),
      go (zf rfl iS),
      go (zl 1 rfl rfl rfl cH),
      go (zle rfl bA.of),
      go (zar rfl rfl rfl),
      go (za (.i 3)), trivial⟩
                · exact bH (aL rfl (aL rfl (aM ⟨rfl, rfl, rfl, rfl, rfl, rfl, rfl, rfl, rfl, rfl, rfl, trivial⟩)))
               ·refine ta (.i (w64 ((w64 ((w64 (a + 1)) - (r9.1.Main.length : Int))) - (r9.1.Wilds.length : Int)))) (aD (aF (aF (aB (tm (.i q.2.2) (to (scm rfl rfl rfl) (tm (.b (!decide (q.2.2 = 0))) ?_)))))));obtain ⟨u2, l9, h⟩ := bns h;refine aZ 4 [1, 2, 3, 7, 11, 13, 14, 15, 18, 20, 21] 172 u2 ?_ ?_
                ·refine bch l9 (fun g6 l9 => ?_) (fun g6 l9 => ?_)
                 ·refine tp g6 (tp g6 (tp g6 (to (spt (.b true) g6) ?_)));obtain rfl := sIn l9;refine aD (aN rfl ⟨rfl, rfl, rfl, rfl, rfl, rfl, rfl, rfl, rfl, rfl, rfl, trivial⟩ rfl)
                 ·refine tk g6 (sm (.i q.1)) (tk g6 (sm (.i 3)) (tk g6 (scm rfl rfl rfl) (to (spf (.b (!decide (q.1 = 3))) g6) ?_)));obtain rfl := sIn l9;refine aD (aN rfl ⟨rfl, rfl, rfl, rfl, rfl, rfl, rfl, rfl, rfl, rfl, rfl, trivial⟩ rfl)
                ·refine tm (.b u2) ?_;obtain ⟨B6, m0, h⟩ := bns h;refine aZ 4 [1, 2, 3, 7, 11, 13, 14, 15, 20] 177 B6 ?_ ?_
                 ·refine bch m0 (fun g7 m0 => ?_) (fun g7 m0 => ?_)
                  ·refine tp g7 (tp g7 (tp g7 (to (spt (.b true) g7) ?_)));obtain rfl := sIn m0;refine aD (aN rfl ⟨rfl, rfl, rfl, rfl, rfl, rfl, rfl, rfl, rfl, trivial⟩ rfl)
                  ·refine tk g7 (sm (.i q.2.1)) (tk g7 (sm (.i (w64 ((w64 ((w64 (a + 1)) - (r9.1.Main.length : Int))) - (r9.1.Wilds.length : Int))))) (tk g7 (scm rfl rfl rfl) (to (spf (.b (!decide (q.2.1 = (w64 ((w64 ((w64 (a + 1)) - (r9.1.Main.length : Int))) - (r9.1.Wilds.length : Int)))))) g7) ?_)));obtain rfl := sIn m0;refine aD (aN rfl ⟨rfl, rfl, rfl, rfl, rfl, rfl, rfl, rfl, rfl, trivial⟩ rfl)
                 ·refine aD ?_;refine tih h (fun B7 h => ?_) (fun B7 h => ?_)
                  ·refine aF (aB (ta (.b false) (aD ?_)));obtain rfl := sIn h;refine bK (bC (bG (l := [6]) ⟨rfl, trivial⟩)) ?_;exact aW ⟨rfl, _, .one _, rfl, rfl⟩
                  ·refine aY (aF (aF (aB (ta (.i 0) (aD (bL ?_))))));refine cF (S := Int) [1, 2, 3, 7, 11, 13, 14, 15, 20] (fun o6 => [(22, .i o6)]) (fun o6 => [.box b1 0 (aS n), .box Y 0 (bU r9.1)]) (fun k o6 => bI (bP g e 0 o n r9.1 l8) g e 0 o j a 3 n r9.1 k o6) (fun _ => rfl) (0) h (aP [0, 1] rfl rfl (aL rfl (aM ⟨rfl, rfl, rfl, rfl, rfl, rfl, rfl, rfl, rfl, trivial⟩))) ?_;rintro K9 J h;simp only [bI] at h;refine aF (aF (aB (tm (.i J) (tm (.d (.sl 5 (g.map aE))) (to (sle rfl bZ.of) (to (scm rfl rfl rfl) (aD ?_)))))));refine tih h (fun B8 h => ?_) (fun B8 h => ?_)
                   ·refine aY (aF (bL (aF ?_)));obtain ⟨B, r0, h⟩ := bns h;obtain ⟨d3, r1, h⟩ := bns h;obtain ⟨L0, i8, h⟩ := bns h;obtain ⟨B9, f3, h⟩ := bns h;refine bR mix 27 [1, 2, 3, 7, 11, 13, 14, 15, 20, 22] [(210, .b B9)] ?_ ?_
                    ·refine bch i8 (fun c1 i8 => ?_) (fun c1 i8 => ?_)
                     ·obtain ⟨a2, u3, i8⟩ := bns i8;obtain rfl := sIn i8;refine bch f3 (fun T f3 => ?_) (fun T f3 => ?_)
                      ·obtain ⟨e5, C0, f3⟩ := bns f3;obtain rfl := sIn f3;refine ⟨[(184, 0, .d (.sl 5 (g.map aE))), (185, 1, .i J), (186, 2, .cp [.lit (.int .i64 B.Id), .lit (.int .i64 B.Hour), .lit (.int .i64 B.Kind), .lit (.int .i64 B.Player), .lit (.int .i64 B.Rank)]), (187, 3, .cp [.lit (.int .i64 B.Player)]), (188, 4, .i B.Player), (189, 5, .d (.sl 1 (o.map aG))), (190, 6, .i a), (191, 7, .cp [.lit (.int .i64 d3)]), (192, 8, .i d3), (193, 9, .b (decide (B.Player = d3))), (194, 10, .b (decide (B.Player = d3))), (195, 11, .d (.sl 5 (g.map aE))), (196, 12, .i J), (197, 13, .cp [.lit (.int .i64 a2.Id), .lit (.int .i64 a2.Hour), .lit (.int .i64 a2.Kind), .lit (.int .i64 a2.Player), .lit (.int .i64 a2.Rank)]), (198, 14, .cp [.lit (.int .i64 a2.Kind)]), (199, 15, .i a2.Kind), (200, 16, .b (decide (a2.Kind = 4))), (201, 17, .b (decide (a2.Kind = 4))), (202, 18, .b (decide (a2.Kind = 4))), (203, 19, .d (.sl 5 (g.map aE))), (204, 20, .i J), (205, 21, .cp [.lit (.int .i64 e5.Id), .lit (.int .i64 e5.Hour), .lit (.int .i64 e5.Kind), .lit (.int .i64 e5.Player), .lit (.int .i64 e5.Rank)]), (206, 22, .cp [.lit (.int .i64 e5.Hour)]), (207, 23, .i e5.Hour), (208, 24, .i e), (209, 25, .b (decide (e5.Hour ≤ e))), (210, 26, .b (decide (e5.Hour ≤ e)))], ?_, ?_⟩
                       · exact dok [([], []), ([], []), ([0, 1], []), ([2], []), ([3], []), ([], []), ([], []), ([5, 6], []), ([7], []), ([4, 8], []), ([9], []), ([10], []), ([10], []), ([10, 11, 12], []), ([10, 13], []), ([10, 14], []), ([10, 15], []), ([10, 16], []), ([17], []), ([18], []), ([18], []), ([18, 19, 20], []), ([18, 21], []), ([18, 22], []), ([18], []), ([18, 23, 24], []), ([18, 25], [])] ⟨go (zm (.d (.sl 5 (g.map aE)))),
      go (zm (.i J)),
      go (zix rfl rfl bZ.of (aX aE r0)),
      go (zfc [.lit (.int .i64 B.Player)] rfl cC),
      go (zlc rfl aQ),
      go (zm (.d (.sl 1 (o.map aG)))),
      go (zm (.i a)),
      go (zix rfl rfl bA.of (aX aG r1)),
      go (zlc rfl aQ),
      go (zcm rfl rfl rfl),
      go (zm (.b (decide (B.Player = d3)))),
      gt c1 (zm (.d (.sl 5 (g.map aE)))),
      gt c1 (zm (.i J)),
      gt c1 (zix rfl rfl bZ.of (aX aE u3)),
      gt c1 (zfc [.lit (.int .i64 a2.Kind)] rfl eH),
      gt c1 (zlc rfl aQ),
      gt c1 (zcm rfl rfl rfl),
      go (zpt (.b (decide (a2.Kind = 4))) c1),
      go (zm (.b (decide (a2.Kind = 4)))),
      gt T (zm (.d (.sl 5 (g.map aE)))),
      gt T (zm (.i J)),
      gt T (zix rfl rfl bZ.of (aX aE C0)),
      gt T (zfc [.lit (.int .i64 e5.Hour)] rfl cT),
      gt T (zlc rfl aQ),
      gt T (zm (.i e)),
      gt T (zcm rfl rfl rfl),
      go (zpt (.b (decide (e5.Hour ≤ e))) T), trivial⟩
                       · exact bH (aL rfl (aM ⟨rfl, rfl, rfl, rfl, rfl, rfl, rfl, rfl, rfl, rfl, trivial⟩))
                      ·obtain rfl := sIn f3;refine ⟨[(184, 0, .d (.sl 5 (g.map aE))), (185, 1, .i J), (186, 2, .cp [.lit (.int .i64 B.Id), .lit (.int .i64 B.Hour), .lit (.int .i64 B.Kind), .lit (.int .i64 B.Player), .lit (.int .i64 B.Rank)]), (187, 3, .cp [.lit (.int .i64 B.Player)]), (188, 4, .i B.Player), (189, 5, .d (.sl 1 (o.map aG))), (190, 6, .i a), (191, 7, .cp [.lit (.int .i64 d3)]), (192, 8, .i d3), (193, 9, .b (decide (B.Player = d3))), (194, 10, .b (decide (B.Player = d3))), (195, 11, .d (.sl 5 (g.map aE))), (196, 12, .i J), (197, 13, .cp [.lit (.int .i64 a2.Id), .lit (.int .i64 a2.Hour), .lit (.int .i64 a2.Kind), .lit (.int .i64 a2.Player), .lit (.int .i64 a2.Rank)]), (198, 14, .cp [.lit (.int .i64 a2.Kind)]), (199, 15, .i a2.Kind), (200, 16, .b (decide (a2.Kind = 4))), (201, 17, .b (decide (a2.Kind = 4))), (202, 18, .b (decide (a2.Kind = 4))), (203, 19, .tup []), (204, 20, .tup []), (205, 21, .tup []), (206, 22, .tup []), (207, 23, .tup []), (208, 24, .tup []), (209, 25, .tup []), (210, 26, .b false)], ?_, ?_⟩
                       · exact dok [([], []), ([], []), ([0, 1], []), ([2], []), ([3], []), ([], []), ([], []), ([5, 6], []), ([7], []), ([4, 8], []), ([9], []), ([10], []), ([10], []), ([10, 11, 12], []), ([10, 13], []), ([10, 14], []), ([10, 15], []), ([10, 16], []), ([17], []), ([18], []), ([18], []), ([18, 19, 20], []), ([18, 21], []), ([18, 22], []), ([18], []), ([18, 23, 24], []), ([18, 25], [])] ⟨go (zm (.d (.sl 5 (g.map aE)))),
      go (zm (.i J)),
      go (zix rfl rfl bZ.of (aX aE r0)),
      go (zfc [.lit (.int .i64 B.Player)] rfl cC),
      go (zlc rfl aQ),
      go (zm (.d (.sl 1 (o.map aG)))),
      go (zm (.i a)),
      go (zix rfl rfl bA.of (aX aG r1)),
      go (zlc rfl aQ),
      go (zcm rfl rfl rfl),
      go (zm (.b (decide (B.Player = d3)))),
      gt c1 (zm (.d (.sl 5 (g.map aE)))),
      gt c1 (zm (.i J)),
      gt c1 (zix rfl rfl bZ.of (aX aE u3)),
      gt c1 (zfc [.lit (.int .i64 a2.Kind)] rfl eH),
      gt c1 (zlc rfl aQ),
      gt c1 (zcm rfl rfl rfl),
      go (zpt (.b (decide (a2.Kind = 4))) c1),
      go (zm (.b (decide (a2.Kind = 4)))),
      gp T,
      gp T,
      gp T,
      gp T,
      gp T,
      gp T,
      gp T,
      go (zpf (.b false) T), trivial⟩
                       · exact bH (aL rfl (aM ⟨rfl, rfl, rfl, rfl, rfl, rfl, rfl, rfl, rfl, rfl, trivial⟩))
                     ·obtain rfl := sIn i8;have T : false = false := rfl;have f3 := iK T f3;obtain rfl := sIn f3;refine ⟨[(184, 0, .d (.sl 5 (g.map aE))), (185, 1, .i J), (186, 2, .cp [.lit (.int .i64 B.Id), .lit (.int .i64 B.Hour), .lit (.int .i64 B.Kind), .lit (.int .i64 B.Player), .lit (.int .i64 B.Rank)]), (187, 3, .cp [.lit (.int .i64 B.Player)]), (188, 4, .i B.Player), (189, 5, .d (.sl 1 (o.map aG))), (190, 6, .i a), (191, 7, .cp [.lit (.int .i64 d3)]), (192, 8, .i d3), (193, 9, .b (decide (B.Player = d3))), (194, 10, .b (decide (B.Player = d3))), (195, 11, .tup []), (196, 12, .tup []), (197, 13, .tup []), (198, 14, .tup []), (199, 15, .tup []), (200, 16, .tup []), (201, 17, .b false), (202, 18, .b (false)), (203, 19, .tup []), (204, 20, .tup []), (205, 21, .tup []), (206, 22, .tup []), (207, 23, .tup []), (208, 24, .tup []), (209, 25, .tup []), (210, 26, .b false)], ?_, ?_⟩
                      · exact dok [([], []), ([], []), ([0, 1], []), ([2], []), ([3], []), ([], []), ([], []), ([5, 6], []), ([7], []), ([4, 8], []), ([9], []), ([10], []), ([10], []), ([10, 11, 12], []), ([10, 13], []), ([10, 14], []), ([10, 15], []), ([10, 16], []), ([17], []), ([18], []), ([18], []), ([18, 19, 20], []), ([18, 21], []), ([18, 22], []), ([18], []), ([18, 23, 24], []), ([18, 25], [])] ⟨go (zm (.d (.sl 5 (g.map aE)))),
      go (zm (.i J)),
      go (zix rfl rfl bZ.of (aX aE r0)),
      go (zfc [.lit (.int .i64 B.Player)] rfl cC),
      go (zlc rfl aQ),
      go (zm (.d (.sl 1 (o.map aG)))),
      go (zm (.i a)),
      go (zix rfl rfl bA.of (aX aG r1)),
      go (zlc rfl aQ),
      go (zcm rfl rfl rfl),
      go (zm (.b (decide (B.Player = d3)))),
      gp c1,
      gp c1,
      gp c1,
      gp c1,
      gp c1,
      gp c1,
      go (zpf (.b false) c1),
      go (zm (.b (false))),
      gp T,
      gp T,
      gp T,
      gp T,
      gp T,
      gp T,
      gp T,
      go (zpf (.b false) T), trivial⟩
                      · exact bH (aL rfl (aM ⟨rfl, rfl, rfl, rfl, rfl, rfl, rfl, rfl, rfl, rfl, trivial⟩))
                    ·refine aD ?_;refine tih h (fun C1 h => ?_) (fun C1 h => ?_)
                     ·refine aF (aB (ta (.b false) (aD ?_)));obtain rfl := sIn h;refine bK (bC (bG (l := [6]) ⟨rfl, trivial⟩)) ?_;exact aW ⟨rfl, _, .one _, rfl, rfl⟩
                     ·refine bY ?_;refine aB (tm (.i J) (to (sar rfl rfl rfl) (ta (.i (w64 (J + 1))) (aD ?_))));exact ⟨(w64 (J + 1)), h, aP [0, 1] rfl rfl (aL rfl (aM ⟨rfl, rfl, rfl, rfl, rfl, rfl, rfl, rfl, rfl, trivial⟩))⟩
                   ·refine cD ?_;refine .inl ⟨rfl, ?_⟩;simp only [cO] at h;refine aF ?_;obtain ⟨u4, C2, h⟩ := bns h;obtain ⟨b3, C3, h⟩ := bns h;refine bR mix 14 [1, 2, 3, 7, 11, 13, 14, 15, 20] [(23, .b b3.1), (24, .b b3.2.1), (222, .i b3.2.2)] ?_ ?_
                    ·refine ⟨[(212, 0, .agg (aS n)), (213, 1, .d (.sl 5 (g.map aE))), (214, 2, .i e), (215, 3, .d (.sl 1 (o.map aG))), (216, 4, .i a), (217, 5, .cp [.lit (.int .i64 u4)]), (218, 6, .i u4), (219, 7, .tup [.b b3.1, .b b3.2.1, .i b3.2.2]), (211, 8, .tup [.b b3.1, .b b3.2.1, .i b3.2.2]), (220, 9, .b b3.1), (221, 10, .b b3.2.1), (222, 11, .i b3.2.2), (23, 12, .b b3.1), (24, 13, .b b3.2.1)], ?_, ?_⟩
                     · exact dok [([], []), ([], []), ([], []), ([], []), ([], []), ([3, 4], []), ([5], []), ([0, 1, 2, 6], []), ([7], []), ([8], []), ([8], []), ([8], []), ([9], []), ([10], [])] ⟨go (zla 0 (aS n) rfl rfl fG),
      go (zm (.d (.sl 5 (g.map aE)))),
      go (zm (.i e)),
      go (zm (.d (.sl 1 (o.map aG)))),
      go (zm (.i a)),
      go (zix rfl rfl bA.of (aX aG C2)),
      go (zlc rfl aQ),
      go fun S hS => fN (aK rfl) (.func _ _ Tryz.call16) (ev2 (aO hS rfl) (ev2 (aO hS rfl) (ev2 (aO hS rfl) (ev2 (aO hS rfl) evn)))) rfl (BVs.refl _ _) (eY _ _ _ _ C3) rfl,
      go (zm (.tup [.b b3.1, .b b3.2.1, .i b3.2.2])),
      go (zex rfl rfl),
      go (zex rfl rfl),
      go (zex rfl rfl),
      go (za (.b b3.1)),
      go (za (.b b3.2.1)), trivial⟩
                     · exact bH (aL rfl (aL rfl (aL rfl (aM ⟨rfl, rfl, rfl, rfl, rfl, rfl, rfl, rfl, rfl, trivial⟩))))
                    ·refine ta (.i b3.2.2) (aD (aF (aF (aB (tm (.i 3) (to (scm rfl rfl rfl) (tm (.b (!decide (3 = 2))) ?_)))))));obtain ⟨C4, m1, h⟩ := bns h;refine aZ 3 [1, 2, 3, 7, 11, 13, 14, 15, 20, 24] 228 C4 ?_ ?_
                     ·refine bch m1 (fun i9 m1 => ?_) (fun i9 m1 => ?_)
                      ·refine tk i9 (sm (.b b3.1)) (tk i9 (sn rfl) (to (spt (.b (!b3.1)) i9) ?_));obtain rfl := sIn m1;refine aD (aN rfl ⟨rfl, rfl, rfl, rfl, rfl, rfl, rfl, rfl, rfl, rfl, trivial⟩ rfl)
                      ·refine tp i9 (tp i9 (to (spf (.b false) i9) ?_));obtain rfl := sIn m1;refine aD (aN rfl ⟨rfl, rfl, rfl, rfl, rfl, rfl, rfl, rfl, rfl, rfl, trivial⟩ rfl)
                     ·refine aD ?_;refine tih h (fun C5 h => ?_) (fun C5 h => ?_)
                      ·refine aF (aB (ta (.b false) (aD ?_)));obtain rfl := sIn h;refine bK (bC (bG (l := [6]) ⟨rfl, trivial⟩)) ?_;exact aW ⟨rfl, _, .one _, rfl, rfl⟩
                      ·refine aY (aF (aB (tm (.i 3) (to (scm rfl rfl rfl) (tm (.b (decide (3 = 1))) ?_)))));obtain ⟨C6, m2, h⟩ := bns h;refine aZ 2 [1, 2, 3, 7, 11, 13, 14, 15] 233 C6 ?_ ?_
                       ·refine bch m2 (fun m3 m2 => ?_) (fun m3 m2 => ?_)
                        ·refine tk m3 (sm (.b b3.2.1)) (to (spt (.b b3.2.1) m3) ?_);obtain rfl := sIn m2;refine aD (aN rfl ⟨rfl, rfl, rfl, rfl, rfl, rfl, rfl, rfl, trivial⟩ rfl)
                        ·refine tp m3 (to (spf (.b false) m3) ?_);obtain rfl := sIn m2;refine aD (aN rfl ⟨rfl, rfl, rfl, rfl, rfl, rfl, rfl, rfl, trivial⟩ rfl)
                       ·refine aD ?_;refine tih h (fun C7 h => ?_) (fun C7 h => ?_)
                        ·refine aB (tm (.i j) (to (sar rfl rfl rfl) (ta (.i (w64 (j + 1))) ?_)));refine cP ?_;simp only [bX] at h;refine aB (tm (.i a) (to (sar rfl rfl rfl) (ta (.i (w64 (a + 1))) (aD ?_))));exact ⟨(w64 (j + 1), w64 (a + 1)), h, aP [0, 1] rfl rfl (aL rfl (aL rfl (aM ⟨rfl, rfl, rfl, rfl, rfl, rfl, trivial⟩)))⟩
                        ·refine bY ?_;simp only [bX] at h;refine aB (tm (.i a) (to (sar rfl rfl rfl) (ta (.i (w64 (a + 1))) (aD ?_))));exact ⟨(j, w64 (a + 1)), h, aP [0, 1] rfl rfl (aL rfl (aL rfl (aM ⟨rfl, rfl, rfl, rfl, rfl, rfl, trivial⟩)))⟩
              ·refine aY (aF (aF (aB (tm (.i q.2.2) (to (scm rfl rfl rfl) (tm (.b (!decide (q.2.2 = 0))) ?_))))));obtain ⟨u5, m4, h⟩ := bns h;refine aZ 4 [1, 2, 3, 7, 11, 13, 14, 15, 18, 20, 21] 172 u5 ?_ ?_
               ·refine bch m4 (fun g8 m4 => ?_) (fun g8 m4 => ?_)
                ·refine tp g8 (tp g8 (tp g8 (to (spt (.b true) g8) ?_)));obtain rfl := sIn m4;refine aD (aN rfl ⟨rfl, rfl, rfl, rfl, rfl, rfl, rfl, rfl, rfl, rfl, rfl, trivial⟩ rfl)
                ·refine tk g8 (sm (.i q.1)) (tk g8 (sm (.i 2)) (tk g8 (scm rfl rfl rfl) (to (spf (.b (!decide (q.1 = 2))) g8) ?_)));obtain rfl := sIn m4;refine aD (aN rfl ⟨rfl, rfl, rfl, rfl, rfl, rfl, rfl, rfl, rfl, rfl, rfl, trivial⟩ rfl)
               ·refine tm (.b u5) ?_;obtain ⟨C8, m5, h⟩ := bns h;refine aZ 4 [1, 2, 3, 7, 11, 13, 14, 15, 20] 177 C8 ?_ ?_
                ·refine bch m5 (fun g9 m5 => ?_) (fun g9 m5 => ?_)
                 ·refine tp g9 (tp g9 (tp g9 (to (spt (.b true) g9) ?_)));obtain rfl := sIn m5;refine aD (aN rfl ⟨rfl, rfl, rfl, rfl, rfl, rfl, rfl, rfl, rfl, trivial⟩ rfl)
                 ·refine tk g9 (sm (.i q.2.1)) (tk g9 (sm (.i (w64 ((w64 (a + 1)) - (r9.1.Main.length : Int))))) (tk g9 (scm rfl rfl rfl) (to (spf (.b (!decide (q.2.1 = (w64 ((w64 (a + 1)) - (r9.1.Main.length : Int)))))) g9) ?_)));obtain rfl := sIn m5;refine aD (aN rfl ⟨rfl, rfl, rfl, rfl, rfl, rfl, rfl, rfl, rfl, trivial⟩ rfl)
                ·refine aD ?_;refine tih h (fun C9 h => ?_) (fun C9 h => ?_)
                 ·refine aF (aB (ta (.b false) (aD ?_)));obtain rfl := sIn h;refine bK (bC (bG (l := [6]) ⟨rfl, trivial⟩)) ?_;exact aW ⟨rfl, _, .one _, rfl, rfl⟩
                 ·refine aY (aF (aF (aB (ta (.i 0) (aD (bL ?_))))));refine cF (S := Int) [1, 2, 3, 7, 11, 13, 14, 15, 20] (fun o7 => [(22, .i o7)]) (fun o7 => [.box b1 0 (aS n), .box Y 0 (bU r9.1)]) (fun k o7 => bI (bP g e 0 o n r9.1 l8) g e 0 o j a 2 n r9.1 k o7) (fun _ => rfl) (0) h (aP [0, 1] rfl rfl (aL rfl (aM ⟨rfl, rfl, rfl, rfl, rfl, rfl, rfl, rfl, rfl, trivial⟩))) ?_;rintro L1 K h;simp only [bI] at h;refine aF (aF (aB (tm (.i K) (tm (.d (.sl 5 (g.map aE))) (to (sle rfl bZ.of) (to (scm rfl rfl rfl) (aD ?_)))))));refine tih h (fun D0 h => ?_) (fun D0 h => ?_)
                  ·refine aY (aF (bL (aF ?_)));obtain ⟨C, r3, h⟩ := bns h;obtain ⟨d4, r4, h⟩ := bns h;obtain ⟨L2, j0, h⟩ := bns h;obtain ⟨D1, f4, h⟩ := bns h;refine bR mix 27 [1, 2, 3, 7, 11, 13, 14, 15, 20, 22] [(210, .b D1)] ?_ ?_
                   ·refine bch j0 (fun c2 j0 => ?_) (fun c2 j0 => ?_)
                    ·obtain ⟨a3, u6, j0⟩ := bns j0;obtain rfl := sIn j0;refine bch f4 (fun U f4 => ?_) (fun U f4 => ?_)
                     ·obtain ⟨e6, D2, f4⟩ := bns f4;obtain rfl := sIn f4;refine ⟨[(184, 0, .d (.sl 5 (g.map aE))), (185, 1, .i K), (186, 2, .cp [.lit (.int .i64 C.Id), .lit (.int .i64 C.Hour), .lit (.int .i64 C.Kind), .lit (.int .i64 C.Player), .lit (.int .i64 C.Rank)]), (187, 3, .cp [.lit (.int .i64 C.Player)]), (188, 4, .i C.Player), (189, 5, .d (.sl 1 (o.map aG))), (190, 6, .i a), (191, 7, .cp [.lit (.int .i64 d4)]), (192, 8, .i d4), (193, 9, .b (decide (C.Player = d4))), (194, 10, .b (decide (C.Player = d4))), (195, 11, .d (.sl 5 (g.map aE))), (196, 12, .i K), (197, 13, .cp [.lit (.int .i64 a3.Id), .lit (.int .i64 a3.Hour), .lit (.int .i64 a3.Kind), .lit (.int .i64 a3.Player), .lit (.int .i64 a3.Rank)]), (198, 14, .cp [.lit (.int .i64 a3.Kind)]), (199, 15, .i a3.Kind), (200, 16, .b (decide (a3.Kind = 4))), (201, 17, .b (decide (a3.Kind = 4))), (202, 18, .b (decide (a3.Kind = 4))), (203, 19, .d (.sl 5 (g.map aE))), (204, 20, .i K), (205, 21, .cp [.lit (.int .i64 e6.Id), .lit (.int .i64 e6.Hour), .lit (.int .i64 e6.Kind), .lit (.int .i64 e6.Player), .lit (.int .i64 e6.Rank)]), (206, 22, .cp [.lit (.int .i64 e6.Hour)]), (207, 23, .i e6.Hour), (208, 24, .i e), (209, 25, .b (decide (e6.Hour ≤ e))), (210, 26, .b (decide (e6.Hour ≤ e)))], ?_, ?_⟩
                      · exact dok [([], []), ([], []), ([0, 1], []), ([2], []), ([3], []), ([], []), ([], []), ([5, 6], []), ([7], []), ([4, 8], []), ([9], []), ([10], []), ([10], []), ([10, 11, 12], []), ([10, 13], []), ([10, 14], []), ([10, 15], []), ([10, 16], []), ([17], []), ([18], []), ([18], []), ([18, 19, 20], []), ([18, 21], []), ([18, 22], []), ([18], []), ([18, 23, 24], []), ([18, 25], [])] ⟨go (zm (.d (.sl 5 (g.map aE)))),
      go (zm (.i K)),
      go (zix rfl rfl bZ.of (aX aE r3)),
      go (zfc [.lit (.int .i64 C.Player)] rfl cC),
      go (zlc rfl aQ),
      go (zm (.d (.sl 1 (o.map aG)))),
      go (zm (.i a)),
      go (zix rfl rfl bA.of (aX aG r4)),
      go (zlc rfl aQ),
      go (zcm rfl rfl rfl),
      go (zm (.b (decide (C.Player = d4)))),
      gt c2 (zm (.d (.sl 5 (g.map aE)))),
      gt c2 (zm (.i K)),
      gt c2 (zix rfl rfl bZ.of (aX aE u6)),
      gt c2 (zfc [.lit (.int .i64 a3.Kind)] rfl eH),
      gt c2 (zlc rfl aQ),
      gt c2 (zcm rfl rfl rfl),
      go (zpt (.b (decide (a3.Kind = 4))) c2),
      go (zm (.b (decide (a3.Kind = 4)))),
      gt U (zm (.d (.sl 5 (g.map aE)))),
      gt U (zm (.i K)),
      gt U (zix rfl rfl bZ.of (aX aE D2)),
      gt U (zfc [.lit (.int .i64 e6.Hour)] rfl cT),
      gt U (zlc rfl aQ),
      gt U (zm (.i e)),
      gt U (zcm rfl rfl rfl),
      go (zpt (.b (decide (e6.Hour ≤ e))) U), trivial⟩
                      · exact bH (aL rfl (aM ⟨rfl, rfl, rfl, rfl, rfl, rfl, rfl, rfl, rfl, rfl, trivial⟩))
                     ·obtain rfl := sIn f4;refine ⟨[(184, 0, .d (.sl 5 (g.map aE))), (185, 1, .i K), (186, 2, .cp [.lit (.int .i64 C.Id), .lit (.int .i64 C.Hour), .lit (.int .i64 C.Kind), .lit (.int .i64 C.Player), .lit (.int .i64 C.Rank)]), (187, 3, .cp [.lit (.int .i64 C.Player)]), (188, 4, .i C.Player), (189, 5, .d (.sl 1 (o.map aG))), (190, 6, .i a), (191, 7, .cp [.lit (.int .i64 d4)]), (192, 8, .i d4), (193, 9, .b (decide (C.Player = d4))), (194, 10, .b (decide (C.Player = d4))), (195, 11, .d (.sl 5 (g.map aE))), (196, 12, .i K), (197, 13, .cp [.lit (.int .i64 a3.Id), .lit (.int .i64 a3.Hour), .lit (.int .i64 a3.Kind), .lit (.int .i64 a3.Player), .lit (.int .i64 a3.Rank)]), (198, 14, .cp [.lit (.int .i64 a3.Kind)]), (199, 15, .i a3.Kind), (200, 16, .b (decide (a3.Kind = 4))), (201, 17, .b (decide (a3.Kind = 4))), (202, 18, .b (decide (a3.Kind = 4))), (203, 19, .tup []), (204, 20, .tup []), (205, 21, .tup []), (206, 22, .tup []), (207, 23, .tup []), (208, 24, .tup []), (209, 25, .tup []), (210, 26, .b false)], ?_, ?_⟩
                      · exact dok [([], []), ([], []), ([0, 1], []), ([2], []), ([3], []), ([], []), ([], []), ([5, 6], []), ([7], []), ([4, 8], []), ([9], []), ([10], []), ([10], []), ([10, 11, 12], []), ([10, 13], []), ([10, 14], []), ([10, 15], []), ([10, 16], []), ([17], []), ([18], []), ([18], []), ([18, 19, 20], []), ([18, 21], []), ([18, 22], []), ([18], []), ([18, 23, 24], []), ([18, 25], [])] ⟨go (zm (.d (.sl 5 (g.map aE)))),
      go (zm (.i K)),
      go (zix rfl rfl bZ.of (aX aE r3)),
      go (zfc [.lit (.int .i64 C.Player)] rfl cC),
      go (zlc rfl aQ),
      go (zm (.d (.sl 1 (o.map aG)))),
      go (zm (.i a)),
      go (zix rfl rfl bA.of (aX aG r4)),
      go (zlc rfl aQ),
      go (zcm rfl rfl rfl),
      go (zm (.b (decide (C.Player = d4)))),
      gt c2 (zm (.d (.sl 5 (g.map aE)))),
      gt c2 (zm (.i K)),
      gt c2 (zix rfl rfl bZ.of (aX aE u6)),
      gt c2 (zfc [.lit (.int .i64 a3.Kind)] rfl eH),
      gt c2 (zlc rfl aQ),
      gt c2 (zcm rfl rfl rfl),
      go (zpt (.b (decide (a3.Kind = 4))) c2),
      go (zm (.b (decide (a3.Kind = 4)))),
      gp U,
      gp U,
      gp U,
      gp U,
      gp U,
      gp U,
      gp U,
      go (zpf (.b false) U), trivial⟩
                      · exact bH (aL rfl (aM ⟨rfl, rfl, rfl, rfl, rfl, rfl, rfl, rfl, rfl, rfl, trivial⟩))
                    ·obtain rfl := sIn j0;have U : false = false := rfl;have f4 := iK U f4;obtain rfl := sIn f4;refine ⟨[(184, 0, .d (.sl 5 (g.map aE))), (185, 1, .i K), (186, 2, .cp [.lit (.int .i64 C.Id), .lit (.int .i64 C.Hour), .lit (.int .i64 C.Kind), .lit (.int .i64 C.Player), .lit (.int .i64 C.Rank)]), (187, 3, .cp [.lit (.int .i64 C.Player)]), (188, 4, .i C.Player), (189, 5, .d (.sl 1 (o.map aG))), (190, 6, .i a), (191, 7, .cp [.lit (.int .i64 d4)]), (192, 8, .i d4), (193, 9, .b (decide (C.Player = d4))), (194, 10, .b (decide (C.Player = d4))), (195, 11, .tup []), (196, 12, .tup []), (197, 13, .tup []), (198, 14, .tup []), (199, 15, .tup []), (200, 16, .tup []), (201, 17, .b false), (202, 18, .b (false)), (203, 19, .tup []), (204, 20, .tup []), (205, 21, .tup []), (206, 22, .tup []), (207, 23, .tup []), (208, 24, .tup []), (209, 25, .tup []), (210, 26, .b false)], ?_, ?_⟩
                     · exact dok [([], []), ([], []), ([0, 1], []), ([2], []), ([3], []), ([], []), ([], []), ([5, 6], []), ([7], []), ([4, 8], []), ([9], []), ([10], []), ([10], []), ([10, 11, 12], []), ([10, 13], []), ([10, 14], []), ([10, 15], []), ([10, 16], []), ([17], []), ([18], []), ([18], []), ([18, 19, 20], []), ([18, 21], []), ([18, 22], []), ([18], []), ([18, 23, 24], []), ([18, 25], [])] ⟨go (zm (.d (.sl 5 (g.map aE)))),
      go (zm (.i K)),
      go (zix rfl rfl bZ.of (aX aE r3)),
      go (zfc [.lit (.int .i64 C.Player)] rfl cC),
      go (zlc rfl aQ),
      go (zm (.d (.sl 1 (o.map aG)))),
      go (zm (.i a)),
      go (zix rfl rfl bA.of (aX aG r4)),
      go (zlc rfl aQ),
      go (zcm rfl rfl rfl),
      go (zm (.b (decide (C.Player = d4)))),
      gp c2,
      gp c2,
      gp c2,
      gp c2,
      gp c2,
      gp c2,
      go (zpf (.b false) c2),
      go (zm (.b (false))),
      gp U,
      gp U,
      gp U,
      gp U,
      gp U,
      gp U,
      gp U,
      go (zpf (.b false) U), trivial⟩
                     · exact bH (aL rfl (aM ⟨rfl, rfl, rfl, rfl, rfl, rfl, rfl, rfl, rfl, rfl, trivial⟩))
                   ·refine aD ?_;refine tih h (fun D3 h => ?_) (fun D3 h => ?_)
                    ·refine aF (aB (ta (.b false) (aD ?_)));obtain rfl := sIn h;refine bK (bC (bG (l := [6]) ⟨rfl, trivial⟩)) ?_;exact aW ⟨rfl, _, .one _, rfl, rfl⟩
                    ·refine bY ?_;refine aB (tm (.i K) (to (sar rfl rfl rfl) (ta (.i (w64 (K + 1))) (aD ?_))));exact ⟨(w64 (K + 1)), h, aP [0, 1] rfl rfl (aL rfl (aM ⟨rfl, rfl, rfl, rfl, rfl, rfl, rfl, rfl, rfl, trivial⟩))⟩
                  ·refine cD ?_;refine .inl ⟨rfl, ?_⟩;simp only [cO] at h;refine aF ?_;obtain ⟨u7, D4, h⟩ := bns h;obtain ⟨b5, D5, h⟩ := bns h;refine bR mix 14 [1, 2, 3, 7, 11, 13, 14, 15, 20] [(23, .b b5.1), (24, .b b5.2.1), (222, .i b5.2.2)] ?_ ?_
                   ·refine ⟨[(212, 0, .agg (aS n)), (213, 1, .d (.sl 5 (g.map aE))), (214, 2, .i e), (215, 3, .d (.sl 1 (o.map aG))), (216, 4, .i a), (217, 5, .cp [.lit (.int .i64 u7)]), (218, 6, .i u7), (219, 7, .tup [.b b5.1, .b b5.2.1, .i b5.2.2]), (211, 8, .tup [.b b5.1, .b b5.2.1, .i b5.2.2]), (220, 9, .b b5.1), (221, 10, .b b5.2.1), (222, 11, .i b5.2.2), (23, 12, .b b5.1), (24, 13, .b b5.2.1)], ?_, ?_⟩
                    · exact dok [([], []), ([], []), ([], []), ([], []), ([], []), ([3, 4], []), ([5], []), ([0, 1, 2, 6], []), ([7], []), ([8], []), ([8], []), ([8], []), ([9], []), ([10], [])] ⟨go (zla 0 (aS n) rfl rfl fG),
      go (zm (.d (.sl 5 (g.map aE)))),
      go (zm (.i e)),
      go (zm (.d (.sl 1 (o.map aG)))),
      go (zm (.i a)),
      go (zix rfl rfl bA.of (aX aG D4)),
      go (zlc rfl aQ),
      go fun S hS => fN (aK rfl) (.func _ _ Tryz.call16) (ev2 (aO hS rfl) (ev2 (aO hS rfl) (ev2 (aO hS rfl) (ev2 (aO hS rfl) evn)))) rfl (BVs.refl _ _) (eY _ _ _ _ D5) rfl,
      go (zm (.tup [.b b5.1, .b b5.2.1, .i b5.2.2])),
      go (zex rfl rfl),
      go (zex rfl rfl),
      go (zex rfl rfl),
      go (za (.b b5.1)),
      go (za (.b b5.2.1)), trivial⟩
                    · exact bH (aL rfl (aL rfl (aL rfl (aM ⟨rfl, rfl, rfl, rfl, rfl, rfl, rfl, rfl, rfl, trivial⟩))))
                   ·refine ta (.i b5.2.2) (aD (aF (aF (aB (tm (.i 2) (to (scm rfl rfl rfl) (tm (.b (!decide (2 = 2))) ?_)))))));obtain ⟨D6, m6, h⟩ := bns h;refine aZ 3 [1, 2, 3, 7, 11, 13, 14, 15, 20, 24] 228 D6 ?_ ?_
                    ·refine bch m6 (fun j1 m6 => ?_) (fun j1 m6 => ?_)
                     ·refine tk j1 (sm (.b b5.1)) (tk j1 (sn rfl) (to (spt (.b (!b5.1)) j1) ?_));obtain rfl := sIn m6;refine aD (aN rfl ⟨rfl, rfl, rfl, rfl, rfl, rfl, rfl, rfl, rfl, rfl, trivial⟩ rfl)
                     ·refine tp j1 (tp j1 (to (spf (.b false) j1) ?_));obtain rfl := sIn m6;refine aD (aN rfl ⟨rfl, rfl, rfl, rfl, rfl, rfl, rfl, rfl, rfl, rfl, trivial⟩ rfl)
                    ·refine aD ?_;refine tih h (fun D7 h => ?_) (fun D7 h => ?_)
                     ·refine aF (aB (ta (.b false) (aD ?_)));obtain rfl := sIn h;refine bK (bC (bG (l := [6]) ⟨rfl, trivial⟩)) ?_;exact aW ⟨rfl, _, .one _, rfl, rfl⟩
                     ·refine aY (aF (aB (tm (.i 2) (to (scm rfl rfl rfl) (tm (.b (decide (2 = 1))) ?_)))));obtain ⟨D8, m7, h⟩ := bns h;refine aZ 2 [1, 2, 3, 7, 11, 13, 14, 15] 233 D8 ?_ ?_
                      ·refine bch m7 (fun m8 m7 => ?_) (fun m8 m7 => ?_)
                       ·refine tk m8 (sm (.b b5.2.1)) (to (spt (.b b5.2.1) m8) ?_);obtain rfl := sIn m7;refine aD (aN rfl ⟨rfl, rfl, rfl, rfl, rfl, rfl, rfl, rfl, trivial⟩ rfl)
                       ·refine tp m8 (to (spf (.b false) m8) ?_);obtain rfl := sIn m7;refine aD (aN rfl ⟨rfl, rfl, rfl, rfl, rfl, rfl, rfl, rfl, trivial⟩ rfl)
                      ·refine aD ?_;refine tih h (fun D9 h => ?_) (fun D9 h => ?_)
                       ·refine aB (tm (.i j) (to (sar rfl rfl rfl) (ta (.i (w64 (j + 1))) ?_)));refine cP ?_;simp only [bX] at h;refine aB (tm (.i a) (to (sar rfl rfl rfl) (ta (.i (w64 (a + 1))) (aD ?_))));exact ⟨(w64 (j + 1), w64 (a + 1)), h, aP [0, 1] rfl rfl (aL rfl (aL rfl (aM ⟨rfl, rfl, rfl, rfl, rfl, rfl, trivial⟩)))⟩
                       ·refine bY ?_;simp only [bX] at h;refine aB (tm (.i a) (to (sar rfl rfl rfl) (ta (.i (w64 (a + 1))) (aD ?_))));exact ⟨(j, w64 (a + 1)), h, aP [0, 1] rfl rfl (aL rfl (aL rfl (aM ⟨rfl, rfl, rfl, rfl, rfl, rfl, trivial⟩)))⟩
            ·refine aY (aF (aF (aB (tm (.i a) (tfl 1 rfl rfl gU rfl cH (to (sle rfl bA.of) (tfl 1 rfl rfl iS rfl cH (to (sle rfl bA.of) (to (sar rfl rfl rfl) (to (scm rfl rfl rfl) (aD ?_)))))))))));refine tih h (fun E0 h => ?_) (fun E0 h => ?_)
             ·refine bR mix 11 [1, 2, 3, 7, 11, 13, 14, 15, 17, 18, 19] [(20, .i 3), (165, .i (w64 ((w64 ((w64 (a + 1)) - (r9.1.Main.length : Int))) - (r9.1.Wilds.length : Int))))] ?_ ?_
              ·refine ⟨[(156, 0, .i a), (157, 1, .i (w64 (a + 1))), (158, 2, .bp Y 0 0), (159, 3, .d (.sl 1 (r9.1.Main.map aG))), (160, 4, .i (r9.1.Main.length : Int)), (161, 5, .i (w64 ((w64 (a + 1)) - (r9.1.Main.length : Int)))), (162, 6, .bp Y 0 1), (163, 7, .d (.sl 1 (r9.1.Wilds.map aG))), (164, 8, .i (r9.1.Wilds.length : Int)), (165, 9, .i (w64 ((w64 ((w64 (a + 1)) - (r9.1.Main.length : Int))) - (r9.1.Wilds.length : Int)))), (20, 10, .i 3)], ?_, ?_⟩
               · exact dok [([], []), ([0], []), ([], []), ([2], []), ([3], []), ([1, 4], []), ([], []), ([6], []), ([7], []), ([5, 8], []), ([], [])] ⟨go (zm (.i a)),
      go (zar rfl rfl rfl),
      go (zf rfl gU),
      go (zl 1 rfl rfl rfl cH),
      go (zle rfl bA.of),
      go (zar rfl rfl rfl),
      go (zf rfl iS),
      go (zl 1 rfl rfl rfl cH),
      go (zle rfl bA.of),
      go (zar rfl rfl rfl),
      go (za (.i 3)), trivial⟩
               · exact bH (aL rfl (aL rfl (aM ⟨rfl, rfl, rfl, rfl, rfl, rfl, rfl, rfl, rfl, rfl, rfl, trivial⟩)))
              ·refine ta (.i (w64 ((w64 ((w64 (a + 1)) - (r9.1.Main.length : Int))) - (r9.1.Wilds.length : Int)))) (aD (aF (aF (aB (tm (.i q.2.2) (to (scm rfl rfl rfl) (tm (.b (!decide (q.2.2 = 0))) ?_)))))));obtain ⟨u8, m9, h⟩ := bns h;refine aZ 4 [1, 2, 3, 7, 11, 13, 14, 15, 18, 20, 21] 172 u8 ?_ ?_
               ·refine bch m9 (fun h0 m9 => ?_) (fun h0 m9 => ?_)
                ·refine tp h0 (tp h0 (tp h0 (to (spt (.b true) h0) ?_)));obtain rfl := sIn m9;refine aD (aN rfl ⟨rfl, rfl, rfl, rfl, rfl, rfl, rfl, rfl, rfl, rfl, rfl, trivial⟩ rfl)
                ·refine tk h0 (sm (.i q.1)) (tk h0 (sm (.i 3)) (tk h0 (scm rfl rfl rfl) (to (spf (.b (!decide (q.1 = 3))) h0) ?_)));obtain rfl := sIn m9;refine aD (aN rfl ⟨rfl, rfl, rfl, rfl, rfl, rfl, rfl, rfl, rfl, rfl, rfl, trivial⟩ rfl)
               ·refine tm (.b u8) ?_;obtain ⟨E1, n0, h⟩ := bns h;refine aZ 4 [1, 2, 3, 7, 11, 13, 14, 15, 20] 177 E1 ?_ ?_
                ·refine bch n0 (fun h1 n0 => ?_) (fun h1 n0 => ?_)
                 ·refine tp h1 (tp h1 (tp h1 (to (spt (.b true) h1) ?_)));obtain rfl := sIn n0;refine aD (aN rfl ⟨rfl, rfl, rfl, rfl, rfl, rfl, rfl, rfl, rfl, trivial⟩ rfl)
                 ·refine tk h1 (sm (.i q.2.1)) (tk h1 (sm (.i (w64 ((w64 ((w64 (a + 1)) - (r9.1.Main.length : Int))) - (r9.1.Wilds.length : Int))))) (tk h1 (scm rfl rfl rfl) (to (spf (.b (!decide (q.2.1 = (w64 ((w64 ((w64 (a + 1)) - (r9.1.Main.length : Int))) - (r9.1.Wilds.length : Int)))))) h1) ?_)));obtain rfl := sIn n0;refine aD (aN rfl ⟨rfl, rfl, rfl, rfl, rfl, rfl, rfl, rfl, rfl, trivial⟩ rfl)
                ·refine aD ?_;refine tih h (fun E2 h => ?_) (fun E2 h => ?_)
                 ·refine aF (aB (ta (.b false) (aD ?_)));obtain rfl := sIn h;refine bK (bC (bG (l := [6]) ⟨rfl, trivial⟩)) ?_;exact aW ⟨rfl, _, .one _, rfl, rfl⟩
                 ·refine aY (aF (aF (aB (ta (.i 0) (aD (bL ?_))))));refine cF (S := Int) [1, 2, 3, 7, 11, 13, 14, 15, 20] (fun o8 => [(22, .i o8)]) (fun o8 => [.box b1 0 (aS n), .box Y 0 (bU r9.1)]) (fun k o8 => bI (bP g e 0 o n r9.1 l8) g e 0 o j a 3 n r9.1 k o8) (fun _ => rfl) (0) h (aP [0, 1] rfl rfl (aL rfl (aM ⟨rfl, rfl, rfl, rfl, rfl, rfl, rfl, rfl, rfl, trivial⟩))) ?_;rintro L3 L h;simp only [bI] at h;refine aF (aF (aB (tm (.i L) (tm (.d (.sl 5 (g.map aE))) (to (sle rfl bZ.of) (to (scm rfl rfl rfl) (aD ?_)))))));refine tih h (fun E3 h => ?_) (fun E3 h => ?_)
                  ·refine aY (aF (bL (aF ?_)));obtain ⟨E, r5, h⟩ := bns h;obtain ⟨d5, r6, h⟩ := bns h;obtain ⟨L4, j2, h⟩ := bns h;obtain ⟨E4, f5, h⟩ := bns h;refine bR mix 27 [1, 2, 3, 7, 11, 13, 14, 15, 20, 22] [(210, .b E4)] ?_ ?_
                   ·refine bch j2 (fun c3 j2 => ?_) (fun c3 j2 => ?_)
                    ·obtain ⟨a4, u9, j2⟩ := bns j2;obtain rfl := sIn j2;refine bch f5 (fun V f5 => ?_) (fun V f5 => ?_)
                     ·obtain ⟨e7, E5, f5⟩ := bns f5;obtain rfl := sIn f5;refine ⟨[(184, 0, .d (.sl 5 (g.map aE))), (185, 1, .i L), (186, 2, .cp [.lit (.int .i64 E.Id), .lit (.int .i64 E.Hour), .lit (.int .i64 E.Kind), .lit (.int .i64 E.Player), .lit (.int .i64 E.Rank)]), (187, 3, .cp [.lit (.int .i64 E.Player)]), (188, 4, .i E.Player), (189, 5, .d (.sl 1 (o.map aG))), (190, 6, .i a), (191, 7, .cp [.lit (.int .i64 d5)]), (192, 8, .i d5), (193, 9, .b (decide (E.Player = d5))), (194, 10, .b (decide (E.Player = d5))), (195, 11, .d (.sl 5 (g.map aE))), (196, 12, .i L), (197, 13, .cp [.lit (.int .i64 a4.Id), .lit (.int .i64 a4.Hour), .lit (.int .i64 a4.Kind), .lit (.int .i64 a4.Player), .lit (.int .i64 a4.Rank)]), (198, 14, .cp [.lit (.int .i64 a4.Kind)]), (199, 15, .i a4.Kind), (200, 16, .b (decide (a4.Kind = 4))), (201, 17, .b (decide (a4.Kind = 4))), (202, 18, .b (decide (a4.Kind = 4))), (203, 19, .d (.sl 5 (g.map aE))), (204, 20, .i L), (205, 21, .cp [.lit (.int .i64 e7.Id), .lit (.int .i64 e7.Hour), .lit (.int .i64 e7.Kind), .lit (.int .i64 e7.Player), .lit (.int .i64 e7.Rank)]), (206, 22, .cp [.lit (.int .i64 e7.Hour)]), (207, 23, .i e7.Hour), (208, 24, .i e), (209, 25, .b (decide (e7.Hour ≤ e))), (210, 26, .b (decide (e7.Hour ≤ e)))], ?_, ?_⟩
                      · exact dok [([], []), ([], []), ([0, 1], []), ([2], []), ([3], []), ([], []), ([], []), ([5, 6], []), ([7], []), ([4, 8], []), ([9], []), ([10], []), ([10], []), ([10, 11, 12], []), ([10, 13], []), ([10, 14], []), ([10, 15], []), ([10, 16], []), ([17], []), ([18], []), ([18], []), ([18, 19, 20], []), ([18, 21], []), ([18, 22], []), ([18], []), ([18, 23, 24], []), ([18, 25], [])] ⟨go (zm (.d (.sl 5 (g.map aE)))),
      go (zm (.i L)),
      go (zix rfl rfl bZ.of (aX aE r5)),
      go (zfc [.lit (.int .i64 E.Player)] rfl cC),
      go (zlc rfl aQ),
      go (zm (.d (.sl 1 (o.map aG)))),
      go (zm (.i a)),
      go (zix rfl rfl bA.of (aX aG r6)),
      go (zlc rfl aQ),
      go (zcm rfl rfl rfl),
      go (zm (.b (decide (E.Player = d5)))),
      gt c3 (zm (.d (.sl 5 (g.map aE)))),
      gt c3 (zm (.i L)),
      gt c3 (zix rfl rfl bZ.of (aX aE u9)),
      gt c3 (zfc [.lit (.int .i64 a4.Kind)] rfl eH),
      gt c3 (zlc rfl aQ),
      gt c3 (zcm rfl rfl rfl),
      go (zpt (.b (decide (a4.Kind = 4))) c3),
      go (zm (.b (decide (a4.Kind = 4)))),
      gt V (zm (.d (.sl 5 (g.map aE)))),
      gt V (zm (.i L)),
      gt V (zix rfl rfl bZ.of (aX aE E5)),
      gt V (zfc [.lit (.int .i64 e7.Hour)] rfl cT),
      gt V (zlc rfl aQ),
      gt V (zm (.i e)),
      gt V (zcm rfl rfl rfl),
      go (zpt (.b (decide (e7.Hour ≤ e))) V), trivial⟩
                      · exact bH (aL rfl (aM ⟨rfl, rfl, rfl, rfl, rfl, rfl, rfl, rfl, rfl, rfl, trivial⟩))
                     ·obtain rfl := sIn f5;refine ⟨[(184, 0, .d (.sl 5 (g.map aE))), (185, 1, .i L), (186, 2, .cp [.lit (.int .i64 E.Id), .lit (.int .i64 E.Hour), .lit (.int .i64 E.Kind), .lit (.int .i64 E.Player), .lit (.int .i64 E.Rank)]), (187, 3, .cp [.lit (.int .i64 E.Player)]), (188, 4, .i E.Player), (189, 5, .d (.sl 1 (o.map aG))), (190, 6, .i a), (191, 7, .cp [.lit (.int .i64 d5)]), (192, 8, .i d5), (193, 9, .b (decide (E.Player = d5))), (194, 10, .b (decide (E.Player = d5))), (195, 11, .d (.sl 5 (g.map aE))), (196, 12, .i L), (197, 13, .cp [.lit (.int .i64 a4.Id), .lit (.int .i64 a4.Hour), .lit (.int .i64 a4.Kind), .lit (.int .i64 a4.Player), .lit (.int .i64 a4.Rank)]), (198, 14, .cp [.lit (.int .i64 a4.Kind)]), (199, 15, .i a4.Kind), (200, 16, .b (decide (a4.Kind = 4))), (201, 17, .b (decide (a4.Kind = 4))), (202, 18, .b (decide (a4.Kind = 4))), (203, 19, .tup []), (204, 20, .tup []), (205, 21, .tup []), (206, 22, .tup []), (207, 23, .tup []), (208, 24, .tup []), (209, 25, .tup []), (210, 26, .b false)], ?_, ?_⟩
                      · exact dok [([], []), ([], []), ([0, 1], []), ([2], []), ([3], []), ([], []), ([], []), ([5, 6], []), ([7], []), ([4, 8], []), ([9], []), ([10], []), ([10], []), ([10, 11, 12], []), ([10, 13], []), ([10, 14], []), ([10, 15], []), ([10, 16], []), ([17], []), ([18], []), ([18], []), ([18, 19, 20], []), ([18, 21], []), ([18, 22], []), ([18], []), ([18, 23, 24], []), ([18, 25], [])] ⟨go (zm (.d (.sl 5 (g.map aE)))),
      go (zm (.i L)),
      go (zix rfl rfl bZ.of (aX aE r5)),
      go (zfc [.lit (.int .i64 E.Player)] rfl cC),
      go (zlc rfl aQ),
      go (zm (.d (.sl 1 (o.map aG)))),
      go (zm (.i a)),
      go (zix rfl rfl bA.of (aX aG r6)),
      go (zlc rfl aQ),
      go (zcm rfl rfl rfl),
      go (zm (.b (decide (E.Player = d5)))),
      gt c3 (zm (.d (.sl 5 (g.map aE)))),
      gt c3 (zm (.i L)),
      gt c3 (zix rfl rfl bZ.of (aX aE u9)),
      gt c3 (zfc [.lit (.int .i64 a4.Kind)] rfl eH),
      gt c3 (zlc rfl aQ),
      gt c3 (zcm rfl rfl rfl),
      go (zpt (.b (decide (a4.Kind = 4))) c3),
      go (zm (.b (decide (a4.Kind = 4)))),
      gp V,
      gp V,
      gp V,
      gp V,
      gp V,
      gp V,
      gp V,
      go (zpf (.b false) V), trivial⟩
                      · exact bH (aL rfl (aM ⟨rfl, rfl, rfl, rfl, rfl, rfl, rfl, rfl, rfl, rfl, trivial⟩))
                    ·obtain rfl := sIn j2;have V : false = false := rfl;have f5 := iK V f5;obtain rfl := sIn f5;refine ⟨[(184, 0, .d (.sl 5 (g.map aE))), (185, 1, .i L), (186, 2, .cp [.lit (.int .i64 E.Id), .lit (.int .i64 E.Hour), .lit (.int .i64 E.Kind), .lit (.int .i64 E.Player), .lit (.int .i64 E.Rank)]), (187, 3, .cp [.lit (.int .i64 E.Player)]), (188, 4, .i E.Player), (189, 5, .d (.sl 1 (o.map aG))), (190, 6, .i a), (191, 7, .cp [.lit (.int .i64 d5)]), (192, 8, .i d5), (193, 9, .b (decide (E.Player = d5))), (194, 10, .b (decide (E.Player = d5))), (195, 11, .tup []), (196, 12, .tup []), (197, 13, .tup []), (198, 14, .tup []), (199, 15, .tup []), (200, 16, .tup []), (201, 17, .b false), (202, 18, .b (false)), (203, 19, .tup []), (204, 20, .tup []), (205, 21, .tup []), (206, 22, .tup []), (207, 23, .tup []), (208, 24, .tup []), (209, 25, .tup []), (210, 26, .b false)], ?_, ?_⟩
                     · exact dok [([], []), ([], []), ([0, 1], []), ([2], []), ([3], []), ([], []), ([], []), ([5, 6], []), ([7], []), ([4, 8], []), ([9], []), ([10], []), ([10], []), ([10, 11, 12], []), ([10, 13], []), ([10, 14], []), ([10, 15], []), ([10, 16], []), ([17], []), ([18], []), ([18], []), ([18, 19, 20], []), ([18, 21], []), ([18, 22], []), ([18], []), ([18, 23, 24], []), ([18, 25], [])] ⟨go (zm (.d (.sl 5 (g.map aE)))),
      go (zm (.i L)),
      go (zix rfl rfl bZ.of (aX aE r5)),
      go (zfc [.lit (.int .i64 E.Player)] rfl cC),
      go (zlc rfl aQ),
      go (zm (.d (.sl 1 (o.map aG)))),
      go (zm (.i a)),
      go (zix rfl rfl bA.of (aX aG r6)),
      go (zlc rfl aQ),
      go (zcm rfl rfl rfl),
      go (zm (.b (decide (E.Player = d5)))),
      gp c3,
      gp c3,
      gp c3,
      gp c3,
      gp c3,
      gp c3,
      go (zpf (.b false) c3),
      go (zm (.b (false))),
      gp V,
      gp V,
      gp V,
      gp V,
      gp V,
      gp V,
      gp V,
      go (zpf (.b false) V), trivial⟩
                     · exact bH (aL rfl (aM ⟨rfl, rfl, rfl, rfl, rfl, rfl, rfl, rfl, rfl, rfl, trivial⟩))
                   ·refine aD ?_;refine tih h (fun E6 h => ?_) (fun E6 h => ?_)
                    ·refine aF (aB (ta (.b false) (aD ?_)));obtain rfl := sIn h;refine bK (bC (bG (l := [6]) ⟨rfl, trivial⟩)) ?_;exact aW ⟨rfl, _, .one _, rfl, rfl⟩
                    ·refine bY ?_;refine aB (tm (.i L) (to (sar rfl rfl rfl) (ta (.i (w64 (L + 1))) (aD ?_))));exact ⟨(w64 (L + 1)), h, aP [0, 1] rfl rfl (aL rfl (aM ⟨rfl, rfl, rfl, rfl, rfl, rfl, rfl, rfl, rfl, trivial⟩))⟩
                  ·refine cD ?_;refine .inl ⟨rfl, ?_⟩;simp only [cO] at h;refine aF ?_;obtain ⟨v0, E7, h⟩ := bns h;obtain ⟨b6, E8, h⟩ := bns h;refine bR mix 14 [1, 2, 3, 7, 11, 13, 14, 15, 20] [(23, .b b6.1), (24, .b b6.2.1), (222, .i b6.2.2)] ?_ ?_
                   ·refine ⟨[(212, 0, .agg (aS n)), (213, 1, .d (.sl 5 (g.map aE))), (214, 2, .i e), (215, 3, .d (.sl 1 (o.map aG))), (216, 4, .i a), (217, 5, .cp [.lit (.int .i64 v0)]), (218, 6, .i v0), (219, 7, .tup [.b b6.1, .b b6.2.1, .i b6.2.2]), (211, 8, .tup [.b b6.1, .b b6.2.1, .i b6.2.2]), (220, 9, .b b6.1), (221, 10, .b b6.2.1), (222, 11, .i b6.2.2), (23, 12, .b b6.1), (24, 13, .b b6.2.1)], ?_, ?_⟩
                    · exact dok [([], []), ([], []), ([], []), ([], []), ([], []), ([3, 4], []), ([5], []), ([0, 1, 2, 6], []), ([7], []), ([8], []), ([8], []), ([8], []), ([9], []), ([10], [])] ⟨go (zla 0 (aS n) rfl rfl fG),
      go (zm (.d (.sl 5 (g.map aE)))),
      go (zm (.i e)),
      go (zm (.d (.sl 1 (o.map aG)))),
      go (zm (.i a)),
      go (zix rfl rfl bA.of (aX aG E7)),
      go (zlc rfl aQ),
      go fun S hS => fN (aK rfl) (.func _ _ Tryz.call16) (ev2 (aO hS rfl) (ev2 (aO hS rfl) (ev2 (aO hS rfl) (ev2 (aO hS rfl) evn)))) rfl (BVs.refl _ _) (eY _ _ _ _ E8) rfl,
      go (zm (.tup [.b b6.1, .b b6.2.1, .i b6.2.2])),
      go (zex rfl rfl),
      go (zex rfl rfl),
      go (zex rfl rfl),
      go (za (.b b6.1)),
      go (za (.b b6.2.1)), trivial⟩
                    · exact bH (aL rfl (aL rfl (aL rfl (aM ⟨rfl, rfl, rfl, rfl, rfl, rfl, rfl, rfl, rfl, trivial⟩))))
                   ·refine ta (.i b6.2.2) (aD (aF (aF (aB (tm (.i 3) (to (scm rfl rfl rfl) (tm (.b (!decide (3 = 2))) ?_)))))));obtain ⟨E9, n1, h⟩ := bns h;refine aZ 3 [1, 2, 3, 7, 11, 13, 14, 15, 20, 24] 228 E9 ?_ ?_
                    ·refine bch n1 (fun j3 n1 => ?_) (fun j3 n1 => ?_)
                     ·refine tk j3 (sm (.b b6.1)) (tk j3 (sn rfl) (to (spt (.b (!b6.1)) j3) ?_));obtain rfl := sIn n1;refine aD (aN rfl ⟨rfl, rfl, rfl, rfl, rfl, rfl, rfl, rfl, rfl, rfl, trivial⟩ rfl)
                     ·refine tp j3 (tp j3 (to (spf (.b false) j3) ?_));obtain rfl := sIn n1;refine aD (aN rfl ⟨rfl, rfl, rfl, rfl, rfl, rfl, rfl, rfl, rfl, rfl, trivial⟩ rfl)
                    ·refine aD ?_;refine tih h (fun F0 h => ?_) (fun F0 h => ?_)
                     ·refine aF (aB (ta (.b false) (aD ?_)));obtain rfl := sIn h;refine bK (bC (bG (l := [6]) ⟨rfl, trivial⟩)) ?_;exact aW ⟨rfl, _, .one _, rfl, rfl⟩
                     ·refine aY (aF (aB (tm (.i 3) (to (scm rfl rfl rfl) (tm (.b (decide (3 = 1))) ?_)))));obtain ⟨F1, n2, h⟩ := bns h;refine aZ 2 [1, 2, 3, 7, 11, 13, 14, 15] 233 F1 ?_ ?_
                      ·refine bch n2 (fun n3 n2 => ?_) (fun n3 n2 => ?_)
                       ·refine tk n3 (sm (.b b6.2.1)) (to (spt (.b b6.2.1) n3) ?_);obtain rfl := sIn n2;refine aD (aN rfl ⟨rfl, rfl, rfl, rfl, rfl, rfl, rfl, rfl, trivial⟩ rfl)
                       ·refine tp n3 (to (spf (.b false) n3) ?_);obtain rfl := sIn n2;refine aD (aN rfl ⟨rfl, rfl, rfl, rfl, rfl, rfl, rfl, rfl, trivial⟩ rfl)
                      ·refine aD ?_;refine tih h (fun F2 h => ?_) (fun F2 h => ?_)
                       ·refine aB (tm (.i j) (to (sar rfl rfl rfl) (ta (.i (w64 (j + 1))) ?_)));refine cP ?_;simp only [bX] at h;refine aB (tm (.i a) (to (sar rfl rfl rfl) (ta (.i (w64 (a + 1))) (aD ?_))));exact ⟨(w64 (j + 1), w64 (a + 1)), h, aP [0, 1] rfl rfl (aL rfl (aL rfl (aM ⟨rfl, rfl, rfl, rfl, rfl, rfl, trivial⟩)))⟩
                       ·refine bY ?_;simp only [bX] at h;refine aB (tm (.i a) (to (sar rfl rfl rfl) (ta (.i (w64 (a + 1))) (aD ?_))));exact ⟨(j, w64 (a + 1)), h, aP [0, 1] rfl rfl (aL rfl (aL rfl (aM ⟨rfl, rfl, rfl, rfl, rfl, rfl, trivial⟩)))⟩
             ·refine aY (aF (aF (aB (tm (.i q.2.2) (to (scm rfl rfl rfl) (tm (.b (!decide (q.2.2 = 0))) ?_))))));obtain ⟨v1, n4, h⟩ := bns h;refine aZ 4 [1, 2, 3, 7, 11, 13, 14, 15, 18, 20, 21] 172 v1 ?_ ?_
              ·refine bch n4 (fun h2 n4 => ?_) (fun h2 n4 => ?_)
               ·refine tp h2 (tp h2 (tp h2 (to (spt (.b true) h2) ?_)));obtain rfl := sIn n4;refine aD (aN rfl ⟨rfl, rfl, rfl, rfl, rfl, rfl, rfl, rfl, rfl, rfl, rfl, trivial⟩ rfl)
               ·refine tk h2 (sm (.i q.1)) (tk h2 (sm (.i 1)) (tk h2 (scm rfl rfl rfl) (to (spf (.b (!decide (q.1 = 1))) h2) ?_)));obtain rfl := sIn n4;refine aD (aN rfl ⟨rfl, rfl, rfl, rfl, rfl, rfl, rfl, rfl, rfl, rfl, rfl, trivial⟩ rfl)
              ·refine tm (.b v1) ?_;obtain ⟨F3, n5, h⟩ := bns h;refine aZ 4 [1, 2, 3, 7, 11, 13, 14, 15, 20] 177 F3 ?_ ?_
               ·refine bch n5 (fun h4 n5 => ?_) (fun h4 n5 => ?_)
                ·refine tp h4 (tp h4 (tp h4 (to (spt (.b true) h4) ?_)));obtain rfl := sIn n5;refine aD (aN rfl ⟨rfl, rfl, rfl, rfl, rfl, rfl, rfl, rfl, rfl, trivial⟩ rfl)
                ·refine tk h4 (sm (.i q.2.1)) (tk h4 (sm (.i (w64 (a + 1)))) (tk h4 (scm rfl rfl rfl) (to (spf (.b (!decide (q.2.1 = (w64 (a + 1))))) h4) ?_)));obtain rfl := sIn n5;refine aD (aN rfl ⟨rfl, rfl, rfl, rfl, rfl, rfl, rfl, rfl, rfl, trivial⟩ rfl)
               ·refine aD ?_;refine tih h (fun F4 h => ?_) (fun F4 h => ?_)
                ·refine aF (aB (ta (.b false) (aD ?_)));obtain rfl := sIn h;refine bK (bC (bG (l := [6]) ⟨rfl, trivial⟩)) ?_;exact aW ⟨rfl, _, .one _, rfl, rfl⟩
                ·refine aY (aF (aF (aB (ta (.i 0) (aD (bL ?_))))));refine cF (S := Int) [1, 2, 3, 7, 11, 13, 14, 15, 20] (fun o9 => [(22, .i o9)]) (fun o9 => [.box b1 0 (aS n), .box Y 0 (bU r9.1)]) (fun k o9 => bI (bP g e 0 o n r9.1 l8) g e 0 o j a 1 n r9.1 k o9) (fun _ => rfl) (0) h (aP [0, 1] rfl rfl (aL rfl (aM ⟨rfl, rfl, rfl, rfl, rfl, rfl, rfl, rfl, rfl, trivial⟩))) ?_;rintro L5 M h;simp only [bI] at h;refine aF (aF (aB (tm (.i M) (tm (.d (.sl 5 (g.map aE))) (to (sle rfl bZ.of) (to (scm rfl rfl rfl) (aD ?_)))))));refine tih h (fun F5 h => ?_) (fun F5 h => ?_)
                 ·refine aY (aF (bL (aF ?_)));obtain ⟨F, r8, h⟩ := bns h;obtain ⟨d6, s0, h⟩ := bns h;obtain ⟨L6, j4, h⟩ := bns h;obtain ⟨F6, f6, h⟩ := bns h;refine bR mix 27 [1, 2, 3, 7, 11, 13, 14, 15, 20, 22] [(210, .b F6)] ?_ ?_
                  ·refine bch j4 (fun c4 j4 => ?_) (fun c4 j4 => ?_)
                   ·obtain ⟨a5, v2, j4⟩ := bns j4;obtain rfl := sIn j4;refine bch f6 (fun W f6 => ?_) (fun W f6 => ?_)
                    ·obtain ⟨e8, F7, f6⟩ := bns f6;obtain rfl := sIn f6;refine ⟨[(184, 0, .d (.sl 5 (g.map aE))), (185, 1, .i M), (186, 2, .cp [.lit (.int .i64 F.Id), .lit (.int .i64 F.Hour), .lit (.int .i64 F.Kind), .lit (.int .i64 F.Player), .lit (.int .i64 F.Rank)]), (187, 3, .cp [.lit (.int .i64 F.Player)]), (188, 4, .i F.Player), (189, 5, .d (.sl 1 (o.map aG))), (190, 6, .i a), (191, 7, .cp [.lit (.int .i64 d6)]), (192, 8, .i d6), (193, 9, .b (decide (F.Player = d6))), (194, 10, .b (decide (F.Player = d6))), (195, 11, .d (.sl 5 (g.map aE))), (196, 12, .i M), (197, 13, .cp [.lit (.int .i64 a5.Id), .lit (.int .i64 a5.Hour), .lit (.int .i64 a5.Kind), .lit (.int .i64 a5.Player), .lit (.int .i64 a5.Rank)]), (198, 14, .cp [.lit (.int .i64 a5.Kind)]), (199, 15, .i a5.Kind), (200, 16, .b (decide (a5.Kind = 4))), (201, 17, .b (decide (a5.Kind = 4))), (202, 18, .b (decide (a5.Kind = 4))), (203, 19, .d (.sl 5 (g.map aE))), (204, 20, .i M), (205, 21, .cp [.lit (.int .i64 e8.Id), .lit (.int .i64 e8.Hour), .lit (.int .i64 e8.Kind), .lit (.int .i64 e8.Player), .lit (.int .i64 e8.Rank)]), (206, 22, .cp [.lit (.int .i64 e8.Hour)]), (207, 23, .i e8.Hour), (208, 24, .i e), (209, 25, .b (decide (e8.Hour ≤ e))), (210, 26, .b (decide (e8.Hour ≤ e)))], ?_, ?_⟩
                     · exact dok [([], []), ([], []), ([0, 1], []), ([2], []), ([3], []), ([], []), ([], []), ([5, 6], []), ([7], []), ([4, 8], []), ([9], []), ([10], []), ([10], []), ([10, 11, 12], []), ([10, 13], []), ([10, 14], []), ([10, 15], []), ([10, 16], []), ([17], []), ([18], []), ([18], []), ([18, 19, 20], []), ([18, 21], []), ([18, 22], []), ([18], []), ([18, 23, 24], []), ([18, 25], [])] ⟨go (zm (.d (.sl 5 (g.map aE)))),
      go (zm (.i M)),
      go (zix rfl rfl bZ.of (aX aE r8)),
      go (zfc [.lit (.int .i64 F.Player)] rfl cC),
      go (zlc rfl aQ),
      go (zm (.d (.sl 1 (o.map aG)))),
      go (zm (.i a)),
      go (zix rfl rfl bA.of (aX aG s0)),
      go (zlc rfl aQ),
      go (zcm rfl rfl rfl),
      go (zm (.b (decide (F.Player = d6)))),
      gt c4 (zm (.d (.sl 5 (g.map aE)))),
      gt c4 (zm (.i M)),
      gt c4 (zix rfl rfl bZ.of (aX aE v2)),
      gt c4 (zfc [.lit (.int .i64 a5.Kind)] rfl eH),
      gt c4 (zlc rfl aQ),
      gt c4 (zcm rfl rfl rfl),
      go (zpt (.b (decide (a5.Kind = 4))) c4),
      go (zm (.b (decide (a5.Kind = 4)))),
      gt W (zm (.d (.sl 5 (g.map aE)))),
      gt W (zm (.i M)),
      gt W (zix rfl rfl bZ.of (aX aE F7)),
      gt W (zfc [.lit (.int .i64 e8.Hour)] rfl cT),
      gt W (zlc rfl aQ),
      gt W (zm (.i e)),
      gt W (zcm rfl rfl rfl),
      go (zpt (.b (decide (e8.Hour ≤ e))) W), trivial⟩
                     · exact bH (aL rfl (aM ⟨rfl, rfl, rfl, rfl, rfl, rfl, rfl, rfl, rfl, rfl, trivial⟩))
                    ·obtain rfl := sIn f6;refine ⟨[(184, 0, .d (.sl 5 (g.map aE))), (185, 1, .i M), (186, 2, .cp [.lit (.int .i64 F.Id), .lit (.int .i64 F.Hour), .lit (.int .i64 F.Kind), .lit (.int .i64 F.Player), .lit (.int .i64 F.Rank)]), (187, 3, .cp [.lit (.int .i64 F.Player)]), (188, 4, .i F.Player), (189, 5, .d (.sl 1 (o.map aG))), (190, 6, .i a), (191, 7, .cp [.lit (.int .i64 d6)]), (192, 8, .i d6), (193, 9, .b (decide (F.Player = d6))), (194, 10, .b (decide (F.Player = d6))), (195, 11, .d (.sl 5 (g.map aE))), (196, 12, .i M), (197, 13, .cp [.lit (.int .i64 a5.Id), .lit (.int .i64 a5.Hour), .lit (.int .i64 a5.Kind), .lit (.int .i64 a5.Player), .lit (.int .i64 a5.Rank)]), (198, 14, .cp [.lit (.int .i64 a5.Kind)]), (199, 15, .i a5.Kind), (200, 16, .b (decide (a5.Kind = 4))), (201, 17, .b (decide (a5.Kind = 4))), (202, 18, .b (decide (a5.Kind = 4))), (203, 19, .tup []), (204, 20, .tup []), (205, 21, .tup []), (206, 22, .tup []), (207, 23, .tup []), (208, 24, .tup []), (209, 25, .tup []), (210, 26, .b false)], ?_, ?_⟩
                     · exact dok [([], []), ([], []), ([0, 1], []), ([2], []), ([3], []), ([], []), ([], []), ([5, 6], []), ([7], []), ([4, 8], []), ([9], []), ([10], []), ([10], []), ([10, 11, 12], []), ([10, 13], []), ([10, 14], []), ([10, 15], []), ([10, 16], []), ([17], []), ([18], []), ([18], []), ([18, 19, 20], []), ([18, 21], []), ([18, 22], []), ([18], []), ([18, 23, 24], []), ([18, 25], [])] ⟨go (zm (.d (.sl 5 (g.map aE)))),
      go (zm (.i M)),
      go (zix rfl rfl bZ.of (aX aE r8)),
      go (zfc [.lit (.int .i64 F.Player)] rfl cC),
      go (zlc rfl aQ),
      go (zm (.d (.sl 1 (o.map aG)))),
      go (zm (.i a)),
      go (zix rfl rfl bA.of (aX aG s0)),
      go (zlc rfl aQ),
      go (zcm rfl rfl rfl),
      go (zm (.b (decide (F.Player = d6)))),
      gt c4 (zm (.d (.sl 5 (g.map aE)))),
      gt c4 (zm (.i M)),
      gt c4 (zix rfl rfl bZ.of (aX aE v2)),
      gt c4 (zfc [.lit (.int .i64 a5.Kind)] rfl eH),
      gt c4 (zlc rfl aQ),
      gt c4 (zcm rfl rfl rfl),
      go (zpt (.b (decide (a5.Kind = 4))) c4),
      go (zm (.b (decide (a5.Kind = 4)))),
      gp W,
      gp W,
      gp W,
      gp W,
      gp W,
      gp W,
      gp W,
      go (zpf (.b false) W), trivial⟩
                     · exact bH (aL rfl (aM ⟨rfl, rfl, rfl, rfl, rfl, rfl, rfl, rfl, rfl, rfl, trivial⟩))
                   ·obtain rfl := sIn j4;have W : false = false := rfl;have f6 := iK W f6;obtain rfl := sIn f6;refine ⟨[(184, 0, .d (.sl 5 (g.map aE))), (185, 1, .i M), (186, 2, .cp [.lit (.int .i64 F.Id), .lit (.int .i64 F.Hour), .lit (.int .i64 F.Kind), .lit (.int .i64 F.Player), .lit (.int .i64 F.Rank)]), (187, 3, .cp [.lit (.int .i64 F.Player)]), (188, 4, .i F.Player), (189, 5, .d (.sl 1 (o.map aG))), (190, 6, .i a), (191, 7, .cp [.lit (.int .i64 d6)]), (192, 8, .i d6), (193, 9, .b (decide (F.Player = d6))), (194, 10, .b (decide (F.Player = d6))), (195, 11, .tup []), (196, 12, .tup []), (197, 13, .tup []), (198, 14, .tup []), (199, 15, .tup []), (200, 16, .tup []), (201, 17, .b false), (202, 18, .b (false)), (203, 19, .tup []), (204, 20, .tup []), (205, 21, .tup []), (206, 22, .tup []), (207, 23, .tup []), (208, 24, .tup []), (209, 25, .tup []), (210, 26, .b false)], ?_, ?_⟩
                    · exact dok [([], []), ([], []), ([0, 1], []), ([2], []), ([3], []), ([], []), ([], []), ([5, 6], []), ([7], []), ([4, 8], []), ([9], []), ([10], []), ([10], []), ([10, 11, 12], []), ([10, 13], []), ([10, 14], []), ([10, 15], []), ([10, 16], []), ([17], []), ([18], []), ([18], []), ([18, 19, 20], []), ([18, 21], []), ([18, 22], []), ([18], []), ([18, 23, 24], []), ([18, 25], [])] ⟨go (zm (.d (.sl 5 (g.map aE)))),
      go (zm (.i M)),
      go (zix rfl rfl bZ.of (aX aE r8)),
      go (zfc [.lit (.int .i64 F.Player)] rfl cC),
      go (zlc rfl aQ),
      go (zm (.d (.sl 1 (o.map aG)))),
      go (zm (.i a)),
      go (zix rfl rfl bA.of (aX aG s0)),
      go (zlc rfl aQ),
      go (zcm rfl rfl rfl),
      go (zm (.b (decide (F.Player = d6)))),
      gp c4,
      gp c4,
      gp c4,
      gp c4,
      gp c4,
      gp c4,
      go (zpf (.b false) c4),
      go (zm (.b (false))),
      gp W,
      gp W,
      gp W,
      gp W,
      gp W,
      gp W,
      gp W,
      go (zpf (.b false) W), trivial⟩
                    · exact bH (aL rfl (aM ⟨rfl, rfl, rfl, rfl, rfl, rfl, rfl, rfl, rfl, rfl, trivial⟩))
                  ·refine aD ?_;refine tih h (fun F8 h => ?_) (fun F8 h => ?_)
                   ·refine aF (aB (ta (.b false) (aD ?_)));obtain rfl := sIn h;refine bK (bC (bG (l := [6]) ⟨rfl, trivial⟩)) ?_;exact aW ⟨rfl, _, .one _, rfl, rfl⟩
                   ·refine bY ?_;refine aB (tm (.i M) (to (sar rfl rfl rfl) (ta (.i (w64 (M + 1))) (aD ?_))));exact ⟨(w64 (M + 1)), h, aP [0, 1] rfl rfl (aL rfl (aM ⟨rfl, rfl, rfl, rfl, rfl, rfl, rfl, rfl, rfl, trivial⟩))⟩
                 ·refine cD ?_;refine .inl ⟨rfl, ?_⟩;simp only [cO] at h;refine aF ?_;obtain ⟨v3, F9, h⟩ := bns h;obtain ⟨b7, G0, h⟩ := bns h;refine bR mix 14 [1, 2, 3, 7, 11, 13, 14, 15, 20] [(23, .b b7.1), (24, .b b7.2.1), (222, .i b7.2.2)] ?_ ?_
                  ·refine ⟨[(212, 0, .agg (aS n)), (213, 1, .d (.sl 5 (g.map aE))), (214, 2, .i e), (215, 3, .d (.sl 1 (o.map aG))), (216, 4, .i a), (217, 5, .cp [.lit (.int .i64 v3)]), (218, 6, .i v3), (219, 7, .tup [.b b7.1, .b b7.2.1, .i b7.2.2]), (211, 8, .tup [.b b7.1, .b b7.2.1, .i b7.2.2]), (220, 9, .b b7.1), (221, 10, .b b7.2.1), (222, 11, .i b7.2.2), (23, 12, .b b7.1), (24, 13, .b b7.2.1)], ?_, ?_⟩
                   · exact dok [([], []), ([], []), ([], []), ([], []), ([], []), ([3, 4], []), ([5], []), ([0, 1, 2, 6], []), ([7], []), ([8], []), ([8], []), ([8], []), ([9], []), ([10], [])] ⟨go (zla 0 (aS n) rfl rfl fG),
      go (zm (.d (.sl 5 (g.map aE)))),
      go (zm (.i e)),
      go (zm (.d (.sl 1 (o.map aG)))),
      go (zm (.i a)),
      go (zix rfl rfl bA.of (aX aG F9)),
      go (zlc rfl aQ),
      go fun S hS => fN (aK rfl) (.func _ _ Tryz.call16) (ev2 (aO hS rfl) (ev2 (aO hS rfl) (ev2 (aO hS rfl) (ev2 (aO hS rfl) evn)))) rfl (BVs.refl _ _) (eY _ _ _ _ G0) rfl,
      go (zm (.tup [.b b7.1, .b b7.2.1, .i b7.2.2])),
      go (zex rfl rfl),
      go (zex rfl rfl),
      go (zex rfl rfl),
      go (za (.b b7.1)),
      go (za (.b b7.2.1)), trivial⟩
                   · exact bH (aL rfl (aL rfl (aL rfl (aM ⟨rfl, rfl, rfl, rfl, rfl, rfl, rfl, rfl, rfl, trivial⟩))))
                  ·refine ta (.i b7.2.2) (aD (aF (aF (aB (tm (.i 1) (to (scm rfl rfl rfl) (tm (.b (!decide (1 = 2))) ?_)))))));obtain ⟨G1, n6, h⟩ := bns h;refine aZ 3 [1, 2, 3, 7, 11, 13, 14, 15, 20, 24] 228 G1 ?_ ?_
                   ·refine bch n6 (fun j5 n6 => ?_) (fun j5 n6 => ?_)
                    ·refine tk j5 (sm (.b b7.1)) (tk j5 (sn rfl) (to (spt (.b (!b7.1)) j5) ?_));obtain rfl := sIn n6;refine aD (aN rfl ⟨rfl, rfl, rfl, rfl, rfl, rfl, rfl, rfl, rfl, rfl, trivial⟩ rfl)
                    ·refine tp j5 (tp j5 (to (spf (.b false) j5) ?_));obtain rfl := sIn n6;refine aD (aN rfl ⟨rfl, rfl, rfl, rfl, rfl, rfl, rfl, rfl, rfl, rfl, trivial⟩ rfl)
                   ·refine aD ?_;refine tih h (fun G2 h => ?_) (fun G2 h => ?_)
                    ·refine aF (aB (ta (.b false) (aD ?_)));obtain rfl := sIn h;refine bK (bC (bG (l := [6]) ⟨rfl, trivial⟩)) ?_;exact aW ⟨rfl, _, .one _, rfl, rfl⟩
                    ·refine aY (aF (aB (tm (.i 1) (to (scm rfl rfl rfl) (tm (.b (decide (1 = 1))) ?_)))));obtain ⟨G3, n7, h⟩ := bns h;refine aZ 2 [1, 2, 3, 7, 11, 13, 14, 15] 233 G3 ?_ ?_
                     ·refine bch n7 (fun n8 n7 => ?_) (fun n8 n7 => ?_)
                      ·refine tk n8 (sm (.b b7.2.1)) (to (spt (.b b7.2.1) n8) ?_);obtain rfl := sIn n7;refine aD (aN rfl ⟨rfl, rfl, rfl, rfl, rfl, rfl, rfl, rfl, trivial⟩ rfl)
                      ·refine tp n8 (to (spf (.b false) n8) ?_);obtain rfl := sIn n7;refine aD (aN rfl ⟨rfl, rfl, rfl, rfl, rfl, rfl, rfl, rfl, trivial⟩ rfl)
                     ·refine aD ?_;refine tih h (fun G4 h => ?_) (fun G4 h => ?_)
                      ·refine aB (tm (.i j) (to (sar rfl rfl rfl) (ta (.i (w64 (j + 1))) ?_)));refine cP ?_;simp only [bX] at h;refine aB (tm (.i a) (to (sar rfl rfl rfl) (ta (.i (w64 (a + 1))) (aD ?_))));exact ⟨(w64 (j + 1), w64 (a + 1)), h, aP [0, 1] rfl rfl (aL rfl (aL rfl (aM ⟨rfl, rfl, rfl, rfl, rfl, rfl, trivial⟩)))⟩
                      ·refine bY ?_;simp only [bX] at h;refine aB (tm (.i a) (to (sar rfl rfl rfl) (ta (.i (w64 (a + 1))) (aD ?_))));exact ⟨(j, w64 (a + 1)), h, aP [0, 1] rfl rfl (aL rfl (aL rfl (aM ⟨rfl, rfl, rfl, rfl, rfl, rfl, trivial⟩)))⟩
         ·refine cD ?_;refine .inl ⟨rfl, ?_⟩;simp only [gO] at h;refine aF (aB (tfl 1 rfl rfl gU rfl cH (to (sle rfl bA.of) (tfl 1 rfl rfl zO rfl aQ (to (sar rfl rfl rfl) (tfl 0 rfl rfl tP rfl aQ (tm (.i 0) (to (sar rfl rfl rfl) (to (scm rfl rfl rfl) (tm (.b (decide ((w64 ((r9.1.Main.length : Int) + r9.1.Open)) = (w64 (n.Places + 0))))) ?_))))))))));obtain ⟨v4, n9, h⟩ := bns h;refine aZ 5 [] 252 v4 ?_ ?_
          ·refine bch n9 (fun f7 n9 => ?_) (fun f7 n9 => ?_)
           ·refine tk f7 (sm (.i j)) (tkl 0 f7 rfl rfl lD rfl aQ (tk f7 (scm rfl rfl rfl) (to (spt (.b (decide (j ≤ n.Guards))) f7) ?_)));obtain rfl := sIn n9;refine aD (aN rfl trivial rfl)
           ·refine tp f7 (tp f7 (tp f7 (tp f7 (to (spf (.b false) f7) ?_))));obtain rfl := sIn n9;refine aD (aN rfl trivial rfl)
          ·refine tm (.b v4) ?_;obtain ⟨v5, j6, h⟩ := bns h;refine aZ 2 [] 255 v5 ?_ ?_
           ·refine bch j6 (fun o0 j6 => ?_) (fun o0 j6 => ?_)
            ·obtain ⟨G5, G6, j6⟩ := bns j6;refine tk o0 (scr Tryz.call13 (oF G6)) (to (spt (.b G5) o0) ?_);obtain rfl := sIn j6;refine aD (aN rfl trivial rfl)
            ·refine tp o0 (to (spf (.b false) o0) ?_);obtain rfl := sIn j6;refine aD (aN rfl trivial rfl)
           ·refine ta (.b v5) (aD ?_);obtain rfl := sIn h;refine bK (bC (bG (l := [6]) ⟨rfl, trivial⟩)) ?_;exact aW ⟨rfl, _, .one _, rfl, rfl⟩

end Go.Am
