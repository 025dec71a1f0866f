/- The functions compute what the shallow ones say: printed by program. -/
import Derived.Test.YtfdappeickbpeaaGreatEntryRightSimP2
namespace Go.Am
open Go.Proofs
set_option maxRecDepth 100000
set_option maxHeartbeats 40000000

theorem pO (E : aP) (d : aI) (w : List Int) (x : Int) {r : aP × Bool} (h : lI E d w x = some r) : Fn Tryz.prog 69 [.agg (aO E), .cp [.pt (aX d)], .cp [.sl 1 (w.map aH)], .cp [.lit (.int .i64 x)]] (.tup [.agg (aO r.1), .b r.2]) := by
 unfold lI at h;refine mZ Tryz.func69 rfl (rs := [.cell 5 110, .tmp 6]) Tryz.results69 Tryz.ntmps69 (Nat.le_of_ble_eq_true rfl) ?_;refine aE (aC ?_);refine bK rfl (iH (v := .agg (aO E)) (aK rfl) rfl rfl rfl) ?_;rintro _ ⟨b1, rfl⟩;refine bK rfl (eE (zs := [.lit (.int .i64 0), .lit (.int .i64 0), .lit (.int .i64 0), .lit (.int .i64 0)]) (aK rfl) Tryz.zeroValue110 rfl rfl) ?_;rintro _ ⟨b2, rfl⟩;refine ta (.b false) (aD (aE (bL ?_)));refine cH (S := aP × aP) [1, 2, 3, 4, 5] (fun s3 => []) (fun s3 => [.box b1 0 (aO s3.1), .box b2 0 (aO s3.2)]) (fun k s3 => iC d w x k s3.1 s3.2) (fun _ => rfl) (E, (aP.mk 0 0 0 0)) h (aR [0, 1] rfl rfl (aN ⟨rfl, rfl, rfl, rfl, rfl, trivial⟩)) ?_;rintro k4 ⟨g, y⟩ h;simp only [iC] at h;refine aE (aE ?_);obtain ⟨r5, h6, h⟩ := bns h;refine bV mix 7 [1, 2, 3, 4, 5] [(17, .i (w64 (g.free + g.guarded))), (19, .i r5)] ?_ ?_
 ·refine ⟨[(13, 0, .bp b1 0 0), (14, 1, .i g.free), (15, 2, .bp b1 0 1), (16, 3, .i g.guarded), (17, 4, .i (w64 (g.free + g.guarded))), (18, 5, .cp [.lit (.int .i64 d.Field.Places), .lit (.int .i64 d.Field.Wilds), .lit (.int .i64 d.Field.Guards), .lit (.int .i64 d.Field.Close), .lit (.int .i64 d.Field.Freeze), .mp true (d.players.map fun p : Int × aA => ((fun n : Int => Value.int .i64 n) p.1, aB p.2)), .sl 1 (d.wilds.map aH), .lit (.bool d.frozen), .sl 1 (d.first.map aH), .sl 1 (d.late.map aH), .lit (.int .i64 d.more), .lit (.int .i64 d.entered)]), (19, 6, .i r5)], ?_, ?_⟩
  · exact dok [([], []), ([0], []), ([], []), ([2], []), ([1, 3], []), ([], []), ([5], [])] ⟨go (zf rfl nX),
      go (zl 0 rfl rfl rfl aT),
      go (zf rfl mI),
      go (zl 0 rfl rfl rfl aT),
      go (zar rfl rfl rfl),
      go fun S hS => lF (.ptc _) (hU (aK rfl) (aM hS rfl) fN),
      go fun S hS => iL (aK rfl) (.func _ _ Tryz.call36) (ev2 (aM hS rfl) evn) rfl (BVs.refl _ _) (fE _ h6) rfl, trivial⟩
  · exact bP (aL rfl (aL rfl (aN ⟨rfl, rfl, rfl, rfl, rfl, trivial⟩)))
 ·refine to (scm rfl rfl rfl) (aD ?_);refine tih h (fun c7 h => ?_) (fun c7 h => ?_)
  ·refine bB (bL (aE (aC (ta (.i 0) (ta (.i 0) (ta (.b false) (aD (aE (aE (aC (to (slc rfl dD) (to (sle rfl bS.of) (tm (.i 0) ?_)))))))))))));refine aD (bL ?_);refine cH (S := Int × Int × Bool × Int × aP × aP) [1, 2, 3, 4, 5, 21, 22] (fun s8 => [(7, .i s8.1), (8, .i s8.2.1), (9, .b s8.2.2.1), (23, .i s8.2.2.2.1)]) (fun s8 => [.box b1 0 (aO s8.2.2.2.2.1), .box b2 0 (aO s8.2.2.2.2.2)]) (fun k s8 => fZ (iC d w x k4) d w x w (w.length : Int) k s8.1 s8.2.1 s8.2.2.1 s8.2.2.2.1 s8.2.2.2.2.1 s8.2.2.2.2.2) (fun _ => rfl) (0, 0, false, 0, g, y) h (aR [0, 1] rfl rfl (aL rfl (aL rfl (aL rfl (aL rfl (aN ⟨rfl, rfl, rfl, rfl, rfl, rfl, rfl, trivial⟩)))))) ?_;rintro k9 ⟨f, e, s, q, c, j⟩ h;simp only [fZ] at h;refine aE (aC (to (scm rfl rfl rfl) (aD (aE ?_))));refine tih h (fun K h => ?_) (fun K h => ?_)
   ·refine bB (aE (bL (aE (aC ?_))));obtain ⟨m, L, h⟩ := bns h;refine to (six rfl rfl bS.of (bW aH L)) (to (slc rfl aT) (ta (.i m) (aD (aE (aC (to (lF (.ptc _) (hU (aK rfl) rfl fN)) ?_))))));refine to (cF (aK rfl) rfl) ?_;refine to (sfc [.mp true (d.players.map fun p : Int × aA => ((fun n : Int => Value.int .i64 n) p.1, aB p.2))] rfl dA) (to (slc rfl eN) (tm (.i m) (to (gQ (enc := aB) (agg := true) (l := d.players) (z := (aA.mk false false 0 0 false false false false)) (a := m) (aK rfl) fR Tryz.underlying68 Tryz.zeroValue94 (fun _ _ => .agg (hM rfl)) rfl rfl rfl rfl (cO (kv := (fun n : Int => Value.int .i64 n)) m)) ?_)));refine to (kU (aK rfl) rfl Tryz.runUnderlying94 rfl eG rfl) ?_;refine ta (.b ((aF m (aA.mk false false 0 0 false false false false) d.players).guard)) (aD (aE (bL (aE (aC (tm (.b ((aF m (aA.mk false false 0 0 false false false false) d.players).guard)) (tm (.b ((aF m (aA.mk false false 0 0 false false false false) d.players).guard)) ?_)))))));obtain ⟨F, A, h⟩ := bns h;refine bD 5 [1, 2, 3, 4, 5, 7, 8, 9, 11, 12, 21, 22, 23] 41 F ?_ ?_
    ·refine bch A (fun t A => ?_) (fun t A => ?_)
     ·refine tk t (sm (.i e)) (tkl 0 t rfl rfl xB rfl aT (tk t (scm rfl rfl rfl) (to (spt (.b (decide (e < c.covered))) t) ?_)));obtain rfl := sIn A;refine aD (aQ rfl ⟨rfl, rfl, rfl, rfl, rfl, rfl, rfl, rfl, rfl, rfl, rfl, rfl, rfl, trivial⟩ rfl)
     ·refine tp t (tp t (tp t (tp t (to (spf (.b false) t) ?_))));obtain rfl := sIn A;refine aD (aQ rfl ⟨rfl, rfl, rfl, rfl, rfl, rfl, rfl, rfl, rfl, rfl, rfl, rfl, rfl, trivial⟩ rfl)
    ·refine ta (.b F) (aD ?_);refine tih h (fun M h => ?_) (fun M h => ?_)
     ·refine aE (aC (tm (.i e) (to (sar rfl rfl rfl) (ta (.i (w64 (e + 1))) (aD ?_)))));refine cB ?_;refine .inr ⟨by decide, ?_⟩;refine .inl ⟨rfl, ?_⟩;refine aC (to (sar rfl rfl rfl) (tm (.i (w64 (q + 1))) (aD ?_)));exact ⟨(f, w64 (e + 1), s, w64 (q + 1), c, j), h, aR [0, 1] rfl rfl (aL rfl (aL rfl (aL rfl (aL rfl (aN ⟨rfl, rfl, rfl, rfl, rfl, rfl, rfl, trivial⟩)))))⟩
     ·refine aE (aC (tm (.b ((aF m (aA.mk false false 0 0 false false false false) d.players).guard)) (to (sn rfl) (tm (.b (!((aF m (aA.mk false false 0 0 false false false false) d.players).guard))) ?_))));obtain ⟨G, B, h⟩ := bns h;refine bD 5 [1, 2, 3, 4, 5, 7, 8, 9, 11, 12, 21, 22, 23] 52 G ?_ ?_
      ·refine bch B (fun u B => ?_) (fun u B => ?_)
       ·refine tk u (sm (.i f)) (tkl 0 u rfl rfl xA rfl aT (tk u (scm rfl rfl rfl) (to (spt (.b (decide (f < c.moved))) u) ?_)));obtain rfl := sIn B;refine aD (aQ rfl ⟨rfl, rfl, rfl, rfl, rfl, rfl, rfl, rfl, rfl, rfl, rfl, rfl, rfl, trivial⟩ rfl)
       ·refine tp u (tp u (tp u (tp u (to (spf (.b false) u) ?_))));obtain rfl := sIn B;refine aD (aQ rfl ⟨rfl, rfl, rfl, rfl, rfl, rfl, rfl, rfl, rfl, rfl, rfl, rfl, rfl, trivial⟩ rfl)
      ·refine ta (.b G) (aD ?_);refine tih h (fun N h => ?_) (fun N h => ?_)
       ·refine aE (aC (tm (.i f) (to (sar rfl rfl rfl) (ta (.i (w64 (f + 1))) (aD ?_)))));refine cB ?_;refine .inr ⟨by decide, ?_⟩;refine .inl ⟨rfl, ?_⟩;refine aC (to (sar rfl rfl rfl) (tm (.i (w64 (q + 1))) (aD ?_)));exact ⟨(w64 (f + 1), e, s, w64 (q + 1), c, j), h, aR [0, 1] rfl rfl (aL rfl (aL rfl (aL rfl (aL rfl (aN ⟨rfl, rfl, rfl, rfl, rfl, rfl, rfl, trivial⟩)))))⟩
       ·refine aE ?_;obtain ⟨H, C, h⟩ := bns h;refine bV mix 11 [1, 2, 3, 4, 5, 7, 8, 9, 11, 12, 21, 22, 23] [(66, .b H)] ?_ ?_
        ·refine bch C (fun o C => ?_) (fun o C => ?_)
         ·obtain rfl := sIn C;refine ⟨[(56, 0, .b ((aF m (aA.mk false false 0 0 false false false false) d.players).guard)), (57, 1, .b ((aF m (aA.mk false false 0 0 false false false false) d.players).guard)), (58, 2, .bp b1 0 1), (59, 3, .i c.guarded), (60, 4, .cp [.lit (.int .i64 d.Field.Places), .lit (.int .i64 d.Field.Wilds), .lit (.int .i64 d.Field.Guards), .lit (.int .i64 d.Field.Close), .lit (.int .i64 d.Field.Freeze), .mp true (d.players.map fun p : Int × aA => ((fun n : Int => Value.int .i64 n) p.1, aB p.2)), .sl 1 (d.wilds.map aH), .lit (.bool d.frozen), .sl 1 (d.first.map aH), .sl 1 (d.late.map aH), .lit (.int .i64 d.more), .lit (.int .i64 d.entered)]), (61, 5, .cp [.lit (.int .i64 d.Field.Places), .lit (.int .i64 d.Field.Wilds), .lit (.int .i64 d.Field.Guards), .lit (.int .i64 d.Field.Close), .lit (.int .i64 d.Field.Freeze), .mp true (d.players.map fun p : Int × aA => ((fun n : Int => Value.int .i64 n) p.1, aB p.2)), .sl 1 (d.wilds.map aH), .lit (.bool d.frozen), .sl 1 (d.first.map aH), .sl 1 (d.late.map aH), .lit (.int .i64 d.more), .lit (.int .i64 d.entered)]), (62, 6, .cp [.lit (.int .i64 d.Field.Places), .lit (.int .i64 d.Field.Wilds), .lit (.int .i64 d.Field.Guards), .lit (.int .i64 d.Field.Close), .lit (.int .i64 d.Field.Freeze)]), (63, 7, .cp [.lit (.int .i64 d.Field.Guards)]), (64, 8, .i d.Field.Guards), (65, 9, .b (decide (d.Field.Guards ≤ c.guarded))), (66, 10, .b (decide (d.Field.Guards ≤ c.guarded)))], ?_, ?_⟩
          · exact dok [([], []), ([0], []), ([1], []), ([1, 2], []), ([1], []), ([1, 4], []), ([1, 5], []), ([1, 6], []), ([1, 7], []), ([1, 3, 8], []), ([1, 9], [])] ⟨go (zm (.b ((aF m (aA.mk false false 0 0 false false false false) d.players).guard))),
      go (zm (.b ((aF m (aA.mk false false 0 0 false false false false) d.players).guard))),
      gt o (zf rfl mI),
      gt o (zl 0 rfl rfl rfl aT),
      gt o fun S hS => lF (.ptc _) (hU (aK rfl) (aM hS rfl) fN),
      gt o fun S hS => cF (aK rfl) (aM hS rfl),
      gt o (zfc [.lit (.int .i64 d.Field.Places), .lit (.int .i64 d.Field.Wilds), .lit (.int .i64 d.Field.Guards), .lit (.int .i64 d.Field.Close), .lit (.int .i64 d.Field.Freeze)] rfl eQ),
      gt o (zfc [.lit (.int .i64 d.Field.Guards)] rfl lV),
      gt o (zlc rfl aT),
      gt o (zcm rfl rfl rfl),
      go (zpt (.b (decide (d.Field.Guards ≤ c.guarded))) o), trivial⟩
          · exact bP (aL rfl (aN ⟨rfl, rfl, rfl, rfl, rfl, rfl, rfl, rfl, rfl, rfl, rfl, rfl, rfl, trivial⟩))
         ·obtain rfl := sIn C;refine ⟨[(56, 0, .b ((aF m (aA.mk false false 0 0 false false false false) d.players).guard)), (57, 1, .b ((aF m (aA.mk false false 0 0 false false false false) d.players).guard)), (58, 2, .tup []), (59, 3, .tup []), (60, 4, .tup []), (61, 5, .tup []), (62, 6, .tup []), (63, 7, .tup []), (64, 8, .tup []), (65, 9, .tup []), (66, 10, .b false)], ?_, ?_⟩
          · exact dok [([], []), ([0], []), ([1], []), ([1, 2], []), ([1], []), ([1, 4], []), ([1, 5], []), ([1, 6], []), ([1, 7], []), ([1, 3, 8], []), ([1, 9], [])] ⟨go (zm (.b ((aF m (aA.mk false false 0 0 false false false false) d.players).guard))),
      go (zm (.b ((aF m (aA.mk false false 0 0 false false false false) d.players).guard))),
      gp o,
      gp o,
      gp o,
      gp o,
      gp o,
      gp o,
      gp o,
      gp o,
      go (zpf (.b false) o), trivial⟩
          · exact bP (aL rfl (aN ⟨rfl, rfl, rfl, rfl, rfl, rfl, rfl, rfl, rfl, rfl, rfl, rfl, rfl, trivial⟩))
        ·refine ta (.b H) (aD ?_);refine tih h (fun O h => ?_) (fun O h => ?_)
         ·refine cB ?_;refine .inr ⟨by decide, ?_⟩;refine .inl ⟨rfl, ?_⟩;refine aC (to (sar rfl rfl rfl) (tm (.i (w64 (q + 1))) (aD ?_)));exact ⟨(f, e, s, w64 (q + 1), c, j), h, aR [0, 1] rfl rfl (aL rfl (aL rfl (aL rfl (aL rfl (aN ⟨rfl, rfl, rfl, rfl, rfl, rfl, rfl, trivial⟩)))))⟩
         ·refine bY ?_;refine aE (aE (aC (tm (.i m) (to (slc rfl aT) (to (scm rfl rfl rfl) (aD ?_))))));refine tih h (fun P h => ?_) (fun P h => ?_)
          ·refine aE (aC (to (sla 0 (aO c) rfl rfl iV) (to (sst 1 rfl rfl Tryz.sizeOf110 (aO c)) (ta (.b true) (aD ?_)))));obtain rfl := sIn h;exact aV ⟨rfl, _, [.box b1 0 (aO c), .box b2 0 (aO c)], .two (.cell 5 110 rfl (i := 1) rfl iV (es := (aO c)) rfl rfl) (.tmp 6 (v := .b true) rfl), .refl _, .same _⟩
          ·refine bB (aE (aE (aC (tm (.b ((aF m (aA.mk false false 0 0 false false false false) d.players).guard)) (aD ?_)))));refine tih h (fun Q h => ?_) (fun Q h => ?_)
           ·refine aC (tfl 0 rfl rfl mI rfl aT (to (sar rfl rfl rfl) (tfl 0 rfl rfl xB rfl aT (to (sar rfl rfl rfl) (to (sf rfl mI) (to (sst 0 rfl rfl Tryz.sizeOf3 (aO (aP.mk c.free (w64 (c.guarded + 1)) c.moved c.covered))) (to (sf rfl xB) (to (sst 0 rfl rfl Tryz.sizeOf3 (aO (aP.mk c.free (w64 (c.guarded + 1)) c.moved (w64 (c.covered + 1))))) (aD (aE (aC ?_)))))))))));refine ta (.b true) (aD ?_);refine cB ?_;refine .inr ⟨by decide, ?_⟩;refine .inl ⟨rfl, ?_⟩;simp only [fY] at h;refine aE (aC (tm (.b true) (to (sn rfl) (aD ?_))));refine yH rfl (fun I => ?_) (fun I => ?_)
            ·exact absurd I (by decide)
            ·refine bY ?_;simp only [jL] at h;exact ⟨((aP.mk c.free (w64 (c.guarded + 1)) c.moved (w64 (c.covered + 1))), j), h, aR [0, 1] rfl rfl (aN ⟨rfl, rfl, rfl, rfl, rfl, trivial⟩)⟩
           ·refine aC (tfl 0 rfl rfl nX rfl aT (to (sar rfl rfl rfl) (tfl 0 rfl rfl xA rfl aT (to (sar rfl rfl rfl) (to (sf rfl nX) (to (sst 0 rfl rfl Tryz.sizeOf3 (aO (aP.mk (w64 (c.free + 1)) c.guarded c.moved c.covered))) (to (sf rfl xA) (to (sst 0 rfl rfl Tryz.sizeOf3 (aO (aP.mk (w64 (c.free + 1)) c.guarded (w64 (c.moved + 1)) c.covered))) (aD (aE (aC ?_)))))))))));refine ta (.b true) (aD ?_);refine cB ?_;refine .inr ⟨by decide, ?_⟩;refine .inl ⟨rfl, ?_⟩;simp only [fY] at h;refine aE (aC (tm (.b true) (to (sn rfl) (aD ?_))));refine yH rfl (fun J => ?_) (fun J => ?_)
            ·exact absurd J (by decide)
            ·refine bY ?_;simp only [jL] at h;exact ⟨((aP.mk (w64 (c.free + 1)) c.guarded (w64 (c.moved + 1)) c.covered), j), h, aR [0, 1] rfl rfl (aN ⟨rfl, rfl, rfl, rfl, rfl, trivial⟩)⟩
   ·refine cB ?_;refine .inl ⟨rfl, ?_⟩;simp only [fY] at h;refine aE (aC (tm (.b s) (to (sn rfl) (aD ?_))));refine tih h (fun T h => ?_) (fun T h => ?_)
    ·refine aE (aC (to (sla 0 (aO c) rfl rfl iV) (to (sst 1 rfl rfl Tryz.sizeOf110 (aO c)) (ta (.b false) (aD ?_)))));obtain rfl := sIn h;exact aV ⟨rfl, _, [.box b1 0 (aO c), .box b2 0 (aO c)], .two (.cell 5 110 rfl (i := 1) rfl iV (es := (aO c)) rfl rfl) (.tmp 6 (v := .b false) rfl), .refl _, .same _⟩
    ·refine bY ?_;simp only [jL] at h;exact ⟨(c, j), h, aR [0, 1] rfl rfl (aN ⟨rfl, rfl, rfl, rfl, rfl, trivial⟩)⟩
  ·refine cB ?_;refine .inl ⟨rfl, ?_⟩;simp only [oW] at h;refine aE (aC (to (sla 0 (aO g) rfl rfl iV) (to (sst 1 rfl rfl Tryz.sizeOf110 (aO g)) (ta (.b false) (aD ?_)))));obtain rfl := sIn h;exact aV ⟨rfl, _, [.box b1 0 (aO g), .box b2 0 (aO g)], .two (.cell 5 110 rfl (i := 1) rfl iV (es := (aO g)) rfl rfl) (.tmp 6 (v := .b false) rfl), .refl _, .same _⟩

theorem wO (B : aI) (e : Int) {r : Int} (h : oN B e = some r) : Fn Tryz.prog 38 [.cp (aX B), .i e] (.i r) := by
 unfold oN at h;refine Fn.of_tr Tryz.func38 rfl (rs := [.tmp 4]) Tryz.results38 Tryz.ntmps38 (Nat.le_of_ble_eq_true rfl) ?_;refine aE (aC ?_);refine cZ (aIo 0 rfl (.cpt _)) ?_;refine bK rfl (iH (v := .d (.pt (aX B))) (aK rfl) rfl rfl rfl) ?_;rintro _ ⟨b1, rfl⟩;refine bK rfl (iH (v := .i e) (aK rfl) rfl rfl rfl) ?_;rintro _ ⟨b2, rfl⟩;refine ta (.i 0) (aD (aE (aC (to (lF (.ptc _) (dF (aK rfl) rfl (i := 0) rfl rfl fN)) ?_))));obtain ⟨r3, h4, h⟩ := bns h;refine to (dP (aK rfl) (.func _ _ Tryz.call34) rfl rfl (kJ _ h4)) ?_;refine ta (.d (.sl 1 (r3.map aH))) (aD (aE (aC (to (lF (.ptc _) (dF (aK rfl) rfl (i := 0) rfl rfl fN)) ?_))));refine tm (.d (.sl 1 (r3.map aH))) ?_;obtain ⟨r5, h6, h⟩ := bns h;refine to (scr Tryz.call67 (nM _ _ h6)) (ta (.i r5) (aD (aE (aC (to (lF (.ptc _) (dF (aK rfl) rfl (i := 0) rfl rfl fN)) ?_)))));obtain ⟨r7, h8, h⟩ := bns h;refine bK rfl (iT (aK rfl) (.func _ _ Tryz.call35) rfl rfl (yL _ h8)) ?_;rintro _ ⟨v9, rfl⟩;refine to (nD (aK rfl) rfl rfl) ?_;refine cZ (aR [1, 2, 0] rfl rfl (le_refl _)) ?_;apply pS [.box b2 0 [.lit (.int .i64 e)], .arr v9 3 1 (r7.map aH)] [.box b1 0 [.pt (aX B)]] rfl;exact cL (k := 25) (v := .fn 68 [.cp [.pt (aX B)]]) (nR (.cons (dB 0 rfl rfl (dvc (.same _) dvn)) .nil)) (cL (k := 2) (v := .cp [.pt (aX B)]) (dB 0 rfl rfl (dvc (.same _) dvn)) (iN _ _));obtain ⟨E, a5, h⟩ := bns h;refine cZ (aR [1, 0] rfl rfl (le_refl _)) ?_;refine bK rfl (gT (passed := [.arr v9 3 1 (r7.map aH)]) (aK rfl) rfl (.func _ _ Tryz.call64) rfl rfl (dK r7 (fun a6 => lH a6 B) 68 [.cp [.pt (aX B)]] Tryz.call68 (fun _ _ h => vA _ B h) a5)) ?_;rintro _ ⟨_, _, ⟨Y, rfl, rfl⟩, rfl⟩;refine bK rfl (eE (zs := [.sl 1 ((([] : List Int)).map aH)]) (aK rfl) Tryz.zeroValue25 rfl rfl) ?_;rintro _ ⟨a0, rfl⟩;refine to (sst 2 rfl rfl Tryz.sizeOf25 [.lit Y]) (aD (aE (aC (to (nD (aK rfl) rfl rfl) ?_))));refine ta (.fn 69 [.cp [.pt (aX B)], .bp a0 0 0, .bp b2 0 0]) (aD (aE (aC (tm (.d (.sl 1 (r3.map aH))) (to (sle rfl bS.of) (tm (.i r5) (to (sar rfl rfl rfl) (tm (.i r5) (to (rE (aK rfl) aMt (zs := [.lit (.int .i64 0), .lit (.int .i64 0), .lit (.int .i64 0), .lit (.int .i64 0)]) rfl rfl rfl rfl (es := [.lit (.int .i64 (w64 ((r3.length : Int) - r5))), .lit (.int .i64 r5), .lit (.int .i64 0), .lit (.int .i64 0)]) rfl) ?_)))))))));refine to (fS (aK rfl) rX rfl rfl (rows := ([(aP.mk (w64 ((r3.length : Int) - r5)) r5 0 0)]).map aO) rfl (aW (f := aO) fun _ => rfl) rfl (by decide)) ?_;refine ta (.d (.sl 4 ((([(aP.mk (w64 ((r3.length : Int) - r5)) r5 0 0)])).map aO))) (aD (aE (aC ?_)));refine bK rfl (xS (aK rfl)) ?_;rintro _ ⟨C, rfl⟩;refine ta (.d (.lit (.map (some C)))) (aD (aE (aE (aC (ta (.i 1) (aD (bL ?_)))))));refine bM (aR [3, 0, 1, 2] rfl rfl (le_refl _)) ?_;apply xX [.map C (([] : List (aP × Int)).map fun p : aP × Int => ((fun a : aP => Value.agg ((aO a).map cA).toArray) p.1, (fun v : Int => AV.i v) p.2)) ([]) 0] [.arr Y 3 1 (E.map aH), .box b2 0 [.lit (.int .i64 e)], .box a0 0 [.lit Y]] rfl;exact cL (k := 27) (v := .fn 69 [.cp [.pt (aX B)], .cp [.sl 1 (E.map aH)], .cp [.lit (.int .i64 e)]]) (nR (.cons (.same _) (.cons (dB 2 rfl rfl (dvc (bO 0 rfl (aW (f := aH) fun _ => rfl)) dvn)) (.cons (dB 1 rfl rfl (dvc (.same _) dvn)) .nil)))) (cL (k := 26) (v := .d (.sl 1 (E.map aH))) (.d (bO 0 rfl (aW (f := aH) fun _ => rfl))) (cL (k := 24) (v := .any) (.any _) (cL (k := 8) (v := .fn 69 [.cp [.pt (aX B)], .cp [.sl 1 (E.map aH)], .cp [.lit (.int .i64 e)]]) (nR (.cons (.same _) (.cons (dB 2 rfl rfl (dvc (bO 0 rfl (aW (f := aH) fun _ => rfl)) dvn)) (.cons (dB 1 rfl rfl (dvc (.same _) dvn)) .nil)))) (cL (k := 7) (v := .cp [.sl 1 (E.map aH)]) (dB 2 rfl rfl (dvc (bO 0 rfl (aW (f := aH) fun _ => rfl)) dvn)) (cL (k := 3) (v := .cp [.lit (.int .i64 e)]) (dB 1 rfl rfl (dvc (.same _) dvn)) (iN _ _))))));refine cH (S := (List aP) × Int × (List (aP × Int)) × (List Nat) × Nat) [8, 10] (fun I => [(9, .d (.sl 4 (I.1.map aO))), (11, .i I.2.1)]) (fun I => [.map C (I.2.2.1.map fun p : aP × Int => ((fun a : aP => Value.agg ((aO a).map cA).toArray) p.1, (fun v : Int => AV.i v) p.2)) I.2.2.2.1 I.2.2.2.2]) (fun k I => fQ B E e k I.1 I.2.1 I.2.2.1) (fun _ => rfl) ([(aP.mk (w64 ((r3.length : Int) - r5)) r5 0 0)], 1, ([] : List (aP × Int)), [], 0) h (aR [0] rfl rfl (aL rfl (aL rfl (aN ⟨rfl, rfl, trivial⟩)))) ?_;rintro Z ⟨w, s, Q, a3, a4⟩ h;simp only [fQ] at h;refine aE (aE (aC (tm (.d (.sl 4 (w.map aO))) (to (sle rfl rX.of) (to (scm rfl rfl rfl) (aD ?_))))));refine tih h (fun a7 h => ?_) (fun a7 h => ?_)
 ·refine bB (aE (bL (aE (aC (to (gB 110 4 (.inl rfl) (aK rfl)) ?_)))));refine aD (aE (aE (aC (tm (.d (.sl 4 (w.map aO))) (to (sle rfl rX.of) (tm (.i 0) (aD (bL ?_))))))));refine cH (S := Int × (List aP) × (List (aP × Int)) × Value × (List Nat) × Nat) [8, 10, 11, 41, 42] (fun F => [(12, .d (.lit F.2.2.2.1)), (43, .i F.1)]) (fun F => [.arr F.2.2.2.1 110 4 (F.2.1.map aO), .map C (F.2.2.1.map fun p : aP × Int => ((fun a : aP => Value.agg ((aO a).map cA).toArray) p.1, (fun v : Int => AV.i v) p.2)) F.2.2.2.2.1 F.2.2.2.2.2]) (fun k F => iQ (fQ B E e Z) B E e s w (w.length : Int) k F.1 F.2.1 F.2.2.1) (fun _ => rfl) (0, ([] : List aP), Q, (.slice none 0 0), a3, a4) h (aR [1, 0] rfl rfl (aL rfl (aL rfl (aN ⟨rfl, rfl, rfl, rfl, rfl, trivial⟩)))) ?_;rintro a8 ⟨J, A, K, V, T, U⟩ h;simp only [iQ] at h;refine aE (aC (to (scm rfl rfl rfl) (aD (aE ?_))));refine tih h (fun a9 h => ?_) (fun a9 h => ?_)
  ·refine bB (aE (bL (aE (aC ?_))));obtain ⟨t, b0, h⟩ := bns h;refine to (six rfl rfl rX.of (bW aO b0)) (to (aBv (aO t) rfl iV) ?_);refine bK rfl (eE (zs := [.lit (.int .i64 0), .lit (.int .i64 0), .lit (.int .i64 0), .lit (.int .i64 0)]) (aK rfl) Tryz.zeroValue110 rfl rfl) ?_;rintro _ ⟨N, rfl⟩;refine to (sst 2 rfl rfl Tryz.sizeOf110 (aO t)) (aD (aE (aC (tm (.i 0) (aD ?_)))));refine vN ?_;refine cH (S := Int × (List aP) × (List (aP × Int)) × Value × (List Nat) × Nat) [8, 10, 11, 14, 41, 42, 43] (fun G => [(12, .d (.lit G.2.2.2.1)), (47, .i G.1)]) (fun G => [.arr G.2.2.2.1 110 4 (G.2.1.map aO), .box N 0 (aO t), .map C (G.2.2.1.map fun p : aP × Int => ((fun a : aP => Value.agg ((aO a).map cA).toArray) p.1, (fun v : Int => AV.i v) p.2)) G.2.2.2.2.1 G.2.2.2.2.2]) (fun k G => eF (fQ B E e Z) (iQ (fQ B E e Z) B E e s w (w.length : Int) a8) B E e s w (w.length : Int) J t k G.1 G.2.1 G.2.2.1) (fun _ => rfl) (0, A, K, V, T, U) h (aR [0, 2, 1] rfl rfl (aL rfl (aL rfl (aN ⟨rfl, rfl, rfl, rfl, rfl, rfl, rfl, trivial⟩)))) ?_;rintro c9 ⟨n, q, c, H, u, o⟩ h;simp only [eF] at h;refine aE (aC (to (scm rfl rfl rfl) (aD (aE ?_))));refine tih h (fun b3 h => ?_) (fun b3 h => ?_)
   ·refine bB (aE (bL (aE (aC (tm (.i n) (ta (.i n) (aD (aE (aC (to (sla 1 (aO t) rfl rfl iV) ?_))))))))));refine bK rfl (eE (zs := [.lit (.int .i64 0), .lit (.int .i64 0), .lit (.int .i64 0), .lit (.int .i64 0)]) (aK rfl) Tryz.zeroValue110 rfl rfl) ?_;rintro _ ⟨W, rfl⟩;refine to (sst 3 rfl rfl Tryz.sizeOf110 (aO t)) (aD (aE (aE (aC (tm (.i n) (to (scm rfl rfl rfl) (aD ?_)))))));refine tih h (fun b4 h => ?_) (fun b4 h => ?_)
    ·refine aC (tfl 3 rfl rfl mI rfl aT (to (sar rfl rfl rfl) (to (sf rfl mI) (to (sst 3 rfl rfl Tryz.sizeOf3 (aO (aP.mk t.free (w64 (t.guarded - 1)) t.moved t.covered))) (aD (aE (aE (aC (tfl 3 rfl rfl mI rfl aT (to (scm rfl rfl rfl) (tm (.b (decide ((w64 (t.guarded - 1)) < 0))) ?_)))))))))));obtain ⟨b5, O, h⟩ := bns h;refine bD 4 [8, 10, 11, 12, 14, 16, 41, 42, 43, 47] 68 b5 ?_ ?_
     ·refine bch O (fun L O => ?_) (fun L O => ?_)
      ·refine tp L (tp L (tp L (to (spt (.b true) L) ?_)));obtain rfl := sIn O;refine aD (aQ rfl ⟨rfl, rfl, rfl, rfl, rfl, rfl, rfl, rfl, rfl, rfl, trivial⟩ rfl)
      ·refine tkl 3 L rfl rfl nX rfl aT (tk L (scm rfl rfl rfl) (to (spf (.b (decide (t.free < 0))) L) ?_));obtain rfl := sIn O;refine aD (aQ rfl ⟨rfl, rfl, rfl, rfl, rfl, rfl, rfl, rfl, rfl, rfl, trivial⟩ rfl)
     ·refine aD ?_;refine tih h (fun b6 h => ?_) (fun b6 h => ?_)
      ·refine cB ?_;refine .inl ⟨rfl, ?_⟩;refine aC (to (sar rfl rfl rfl) (tm (.i (w64 (n + 1))) (aD ?_)));exact ⟨(w64 (n + 1), q, c, H, u, o), h, aR [0, 1, 2] rfl rfl (aL rfl (aL rfl (aN ⟨rfl, rfl, rfl, rfl, rfl, rfl, rfl, trivial⟩)))⟩
      ·refine bB (aE (aC (tm (.fn 69 [.cp [.pt (aX B)], .cp [.sl 1 (E.map aH)], .cp [.lit (.int .i64 e)]]) (to (sla 3 (aO (aP.mk t.free (w64 (t.guarded - 1)) t.moved t.covered)) rfl rfl iV) ?_))));obtain ⟨g, b7, h⟩ := bns h;refine to (dP (aK rfl) (.clo _ _ _ _ Tryz.call69 rfl) (aBf rfl) rfl (pO _ _ _ _ b7)) ?_;refine tm (.tup [.agg (aO g.1), .b g.2]) (to (sex rfl rfl) (to (sex rfl rfl) (to (sst 3 rfl rfl Tryz.sizeOf110 (aO g.1)) (ta (.b g.2) (aD (aE (aE (aC (tm (.b g.2) (aD ?_))))))))));refine tih h (fun b8 h => ?_) (fun b8 h => ?_)
       ·refine aE (aC (tm (.i s) (ta (.i s) (aD ?_))));obtain rfl := sIn h;refine bM (bI (bJ (l := [4]) ⟨rfl, trivial⟩)) ?_;exact aV ⟨rfl, _, .one _, rfl, rfl⟩
       ·refine bB (aE ?_);refine jV mix 6 [8, 10, 11, 12, 14, 16, 41, 42, 43, 47] (fun x => [(77, .d (.lit (.map (some C)))), (80, .i (w64 ((aF g.1 0 c) + 1))), (82, .i (lD g.1 c u o))]) (fun x => [.arr H 110 4 (q.map aO), .box N 0 (aO t), .map C ((lC g.1 0 c).map fun p : aP × Int => ((fun a : aP => Value.agg ((aO a).map cA).toArray) p.1, (fun v : Int => AV.i v) p.2)) (mbs g.1 c u o) (mck g.1 c o), .box W 0 (aO g.1)]) ?_ ?_
        ·refine ⟨0, fun x => [(77, 0, .d (.lit (.map (some C)))), (78, 1, .agg (aO g.1)), (79, 2, .i (aF g.1 0 c)), (80, 3, .i (w64 ((aF g.1 0 c) + 1))), (81, 4, .tup [.i (aF g.1 0 c), .i (lD g.1 c u o)]), (82, 5, .i (lD g.1 c u o))], fun x => [([], .arr H 110 4 (q.map aO)), ([], .box N 0 (aO t)), ([(4, .map C ((lC g.1 0 c).map fun p : aP × Int => ((fun a : aP => Value.agg ((aO a).map cA).toArray) p.1, (fun v : Int => AV.i v) p.2)) (mbs g.1 c u o) (mck g.1 c o))], .map C (c.map fun p : aP × Int => ((fun a : aP => Value.agg ((aO a).map cA).toArray) p.1, (fun v : Int => AV.i v) p.2)) u o), ([], .box W 0 (aO g.1))], ?_, ?_⟩
         · exact ⟨by kernel_rfl, by kernel_rfl, by kernel_rfl, fun _ => by kernel_rfl, fun _ => by kernel_rfl, fun _ => by kernel_rfl, fun _ => rfl, [([], [4]), ([], [4]), ([0, 1], []), ([2], []), ([0, 1], []), ([4], [])], by kernel_rfl, ⟨fun x S hw hi hS => aZ (X := x) rfl (hw x) rfl (bQ rfl (jS (v := .d (.lit (.map (some C)))) (aK rfl) (aM hS rfl) rfl)),
      fun x S hw hi hS => aZ (X := x) rfl (hw x) rfl (bQ rfl (qH (aK rfl) (aM hS rfl) (i := 3) (og hS rfl rfl) iV (es := (aO g.1)) rfl rfl)),
      fun x S hw hi hS => aZ (X := x) rfl (hw x) rfl (bQ rfl (aCw (av := (fun v : Int => AV.i v)) (l := c) (z := 0) (a := g.1) (m := 2) (aK rfl) sV Tryz.underlying113 Tryz.zeroValue3 (fun _ _ => .d (.lit _ rfl)) (aM hS rfl) (og2 rfl) rfl (aM hS rfl) (pP (enc := aO) g.1 rfl))),
      fun x S hw hi hS => aZ (X := x) rfl (hw x) rfl (bQ rfl (yG (aK rfl) (aM hS rfl) rfl rfl)),
      fun x S hw hi hS => aJu (X := x) (p := 2) hS rfl rfl rfl (hw x) rfl rfl rfl (jU (aAx (av := (fun v : Int => AV.i v)) (l := c) (z := 0) (a := g.1) (m := 2) (aK rfl) sV Tryz.underlying113 Tryz.zeroValue3 (fun _ _ => .d (.lit _ rfl)) (aM hS rfl) (og hS rfl rfl) rfl (aM hS rfl) (pP (enc := aO) g.1 rfl)) (by rintro _ rfl; exact Ent.refl _)),
      fun x S hw hi hS => aZ (X := x) rfl (hw x) rfl (bQ rfl (uJ (aK rfl) (aM hS rfl) rfl)), trivial⟩⟩
         · exact fun x => bP (aL rfl (aL rfl (aL rfl (aN ⟨rfl, rfl, rfl, rfl, rfl, rfl, rfl, rfl, rfl, rfl, trivial⟩))))
        ·intro x;refine to (wL (kv := (fun a : aP => Value.agg ((aO a).map cA).toArray)) (av := (fun v : Int => AV.i v)) (l := c) (z := 0) (v := w64 ((aF g.1 0 c) + 1)) (a := g.1) (m := 2) rfl rfl rfl rfl rfl) ?_;refine aD (aE (aC (tm (.d (.lit (.map (some C)))) (to (sla 3 (aO g.1) rfl rfl iV) (to (tX (av := (fun v : Int => AV.i v)) (l := (cD g.1 (w64 ((aF g.1 0 c) + 1)) c)) (z := 0) (a := g.1) (m := 2) (aK rfl) sV Tryz.underlying113 Tryz.zeroValue3 (fun _ _ => .d (.lit _ rfl)) rfl rfl rfl rfl (pP (enc := aO) g.1 rfl)) ?_)))));refine to (scm rfl rfl rfl) (aD ?_);refine tih h (fun b9 h => ?_) (fun b9 h => ?_)
         ·refine aC (tm (.d (.lit H)) (to (sla 3 (aO g.1) rfl rfl iV) (to (fS (aK rfl) rX rfl rfl (rows := ([g.1]).map aO) rfl (aW (f := aO) fun _ => rfl) rfl (by decide)) ?_)));obtain ⟨c0, c1, h⟩ := bns h;refine bK rfl (kT (i := 0) (aK rfl) rX rfl rfl rfl (fun _ => rfl) c1 rfl) ?_;rintro _ ⟨a1, rfl⟩;refine ta (.d (.lit a1)) ?_;refine cR ?_;refine aC (to (sar rfl rfl rfl) (tm (.i (w64 (n + 1))) (aD ?_)));exact ⟨(w64 (n + 1), c0, (cD g.1 (w64 ((aF g.1 0 c) + 1)) c), a1, (mbs g.1 c u o), (mck g.1 c o)), h, aR [0, 1, 2] rfl rfl (aL rfl (aL rfl (aN ⟨rfl, rfl, rfl, rfl, rfl, rfl, rfl, trivial⟩)))⟩
         ·refine bY ?_;refine aC (to (sar rfl rfl rfl) (tm (.i (w64 (n + 1))) (aD ?_)));exact ⟨(w64 (n + 1), q, (cD g.1 (w64 ((aF g.1 0 c) + 1)) c), H, (mbs g.1 c u o), (mck g.1 c o)), h, aR [0, 1, 2] rfl rfl (aL rfl (aL rfl (aN ⟨rfl, rfl, rfl, rfl, rfl, rfl, rfl, trivial⟩)))⟩
    ·refine aC (tfl 3 rfl rfl nX rfl aT (to (sar rfl rfl rfl) (to (sf rfl nX) (to (sst 3 rfl rfl Tryz.sizeOf3 (aO (aP.mk (w64 (t.free - 1)) t.guarded t.moved t.covered))) (aD (aE (aE (aC (tfl 3 rfl rfl mI rfl aT (to (scm rfl rfl rfl) (tm (.b (decide (t.guarded < 0))) ?_)))))))))));obtain ⟨c2, P, h⟩ := bns h;refine bD 4 [8, 10, 11, 12, 14, 16, 41, 42, 43, 47] 68 c2 ?_ ?_
     ·refine bch P (fun M P => ?_) (fun M P => ?_)
      ·refine tp M (tp M (tp M (to (spt (.b true) M) ?_)));obtain rfl := sIn P;refine aD (aQ rfl ⟨rfl, rfl, rfl, rfl, rfl, rfl, rfl, rfl, rfl, rfl, trivial⟩ rfl)
      ·refine tkl 3 M rfl rfl nX rfl aT (tk M (scm rfl rfl rfl) (to (spf (.b (decide ((w64 (t.free - 1)) < 0))) M) ?_));obtain rfl := sIn P;refine aD (aQ rfl ⟨rfl, rfl, rfl, rfl, rfl, rfl, rfl, rfl, rfl, rfl, trivial⟩ rfl)
     ·refine aD ?_;refine tih h (fun c3 h => ?_) (fun c3 h => ?_)
      ·refine cB ?_;refine .inl ⟨rfl, ?_⟩;refine aC (to (sar rfl rfl rfl) (tm (.i (w64 (n + 1))) (aD ?_)));exact ⟨(w64 (n + 1), q, c, H, u, o), h, aR [0, 1, 2] rfl rfl (aL rfl (aL rfl (aN ⟨rfl, rfl, rfl, rfl, rfl, rfl, rfl, trivial⟩)))⟩
      ·refine bB (aE (aC (tm (.fn 69 [.cp [.pt (aX B)], .cp [.sl 1 (E.map aH)], .cp [.lit (.int .i64 e)]]) (to (sla 3 (aO (aP.mk (w64 (t.free - 1)) t.guarded t.moved t.covered)) rfl rfl iV) ?_))));obtain ⟨j, c4, h⟩ := bns h;refine to (dP (aK rfl) (.clo _ _ _ _ Tryz.call69 rfl) (aBf rfl) rfl (pO _ _ _ _ c4)) ?_;refine tm (.tup [.agg (aO j.1), .b j.2]) (to (sex rfl rfl) (to (sex rfl rfl) (to (sst 3 rfl rfl Tryz.sizeOf110 (aO j.1)) (ta (.b j.2) (aD (aE (aE (aC (tm (.b j.2) (aD ?_))))))))));refine tih h (fun c5 h => ?_) (fun c5 h => ?_)
       ·refine aE (aC (tm (.i s) (ta (.i s) (aD ?_))));obtain rfl := sIn h;refine bM (bI (bJ (l := [4]) ⟨rfl, trivial⟩)) ?_;exact aV ⟨rfl, _, .one _, rfl, rfl⟩
       ·refine bB (aE ?_);refine jV mix 6 [8, 10, 11, 12, 14, 16, 41, 42, 43, 47] (fun y => [(77, .d (.lit (.map (some C)))), (80, .i (w64 ((aF j.1 0 c) + 1))), (82, .i (lD j.1 c u o))]) (fun y => [.arr H 110 4 (q.map aO), .box N 0 (aO t), .map C ((lC j.1 0 c).map fun p : aP × Int => ((fun a : aP => Value.agg ((aO a).map cA).toArray) p.1, (fun v : Int => AV.i v) p.2)) (mbs j.1 c u o) (mck j.1 c o), .box W 0 (aO j.1)]) ?_ ?_
        ·refine ⟨0, fun y => [(77, 0, .d (.lit (.map (some C)))), (78, 1, .agg (aO j.1)), (79, 2, .i (aF j.1 0 c)), (80, 3, .i (w64 ((aF j.1 0 c) + 1))), (81, 4, .tup [.i (aF j.1 0 c), .i (lD j.1 c u o)]), (82, 5, .i (lD j.1 c u o))], fun y => [([], .arr H 110 4 (q.map aO)), ([], .box N 0 (aO t)), ([(4, .map C ((lC j.1 0 c).map fun p : aP × Int => ((fun a : aP => Value.agg ((aO a).map cA).toArray) p.1, (fun v : Int => AV.i v) p.2)) (mbs j.1 c u o) (mck j.1 c o))], .map C (c.map fun p : aP × Int => ((fun a : aP => Value.agg ((aO a).map cA).toArray) p.1, (fun v : Int => AV.i v) p.2)) u o), ([], .box W 0 (aO j.1))], ?_, ?_⟩
         · exact ⟨by kernel_rfl, by kernel_rfl, by kernel_rfl, fun _ => by kernel_rfl, fun _ => by kernel_rfl, fun _ => by kernel_rfl, fun _ => rfl, [([], [4]), ([], [4]), ([0, 1], []), ([2], []), ([0, 1], []), ([4], [])], by kernel_rfl, ⟨fun y S hw hi hS => aZ (X := y) rfl (hw y) rfl (bQ rfl (jS (v := .d (.lit (.map (some C)))) (aK rfl) (aM hS rfl) rfl)),
      fun y S hw hi hS => aZ (X := y) rfl (hw y) rfl (bQ rfl (qH (aK rfl) (aM hS rfl) (i := 3) (og hS rfl rfl) iV (es := (aO j.1)) rfl rfl)),
      fun y S hw hi hS => aZ (X := y) rfl (hw y) rfl (bQ rfl (aCw (av := (fun v : Int => AV.i v)) (l := c) (z := 0) (a := j.1) (m := 2) (aK rfl) sV Tryz.underlying113 Tryz.zeroValue3 (fun _ _ => .d (.lit _ rfl)) (aM hS rfl) (og2 rfl) rfl (aM hS rfl) (pP (enc := aO) j.1 rfl))),
      fun y S hw hi hS => aZ (X := y) rfl (hw y) rfl (bQ rfl (yG (aK rfl) (aM hS rfl) rfl rfl)),
      fun y S hw hi hS => aJu (X := y) (p := 2) hS rfl rfl rfl (hw y) rfl rfl rfl (jU (aAx (av := (fun v : Int => AV.i v)) (l := c) (z := 0) (a := j.1) (m := 2) (aK rfl) sV Tryz.underlying113 Tryz.zeroValue3 (fun _ _ => .d (.lit _ rfl)) (aM hS rfl) (og hS rfl rfl) rfl (aM hS rfl) (pP (enc := aO) j.1 rfl)) (by rintro _ rfl; exact Ent.refl _)),
      fun y S hw hi hS => aZ (X := y) rfl (hw y) rfl (bQ rfl (uJ (aK rfl) (aM hS rfl) rfl)), trivial⟩⟩
         · exact fun y => bP (aL rfl (aL rfl (aL rfl (aN ⟨rfl, rfl, rfl, rfl, rfl, rfl, rfl, rfl, rfl, rfl, trivial⟩))))
        ·intro y;refine to (wL (kv := (fun a : aP => Value.agg ((aO a).map cA).toArray)) (av := (fun v : Int => AV.i v)) (l := c) (z := 0) (v := w64 ((aF j.1 0 c) + 1)) (a := j.1) (m := 2) rfl rfl rfl rfl rfl) ?_;refine aD (aE (aC (tm (.d (.lit (.map (some C)))) (to (sla 3 (aO j.1) rfl rfl iV) (to (tX (av := (fun v : Int => AV.i v)) (l := (cD j.1 (w64 ((aF j.1 0 c) + 1)) c)) (z := 0) (a := j.1) (m := 2) (aK rfl) sV Tryz.underlying113 Tryz.zeroValue3 (fun _ _ => .d (.lit _ rfl)) rfl rfl rfl rfl (pP (enc := aO) j.1 rfl)) ?_)))));refine to (scm rfl rfl rfl) (aD ?_);refine tih h (fun c6 h => ?_) (fun c6 h => ?_)
         ·refine aC (tm (.d (.lit H)) (to (sla 3 (aO j.1) rfl rfl iV) (to (fS (aK rfl) rX rfl rfl (rows := ([j.1]).map aO) rfl (aW (f := aO) fun _ => rfl) rfl (by decide)) ?_)));obtain ⟨c7, c8, h⟩ := bns h;refine bK rfl (kT (i := 0) (aK rfl) rX rfl rfl rfl (fun _ => rfl) c8 rfl) ?_;rintro _ ⟨a2, rfl⟩;refine ta (.d (.lit a2)) ?_;refine cR ?_;refine aC (to (sar rfl rfl rfl) (tm (.i (w64 (n + 1))) (aD ?_)));exact ⟨(w64 (n + 1), c7, (cD j.1 (w64 ((aF j.1 0 c) + 1)) c), a2, (mbs j.1 c u o), (mck j.1 c o)), h, aR [0, 1, 2] rfl rfl (aL rfl (aL rfl (aN ⟨rfl, rfl, rfl, rfl, rfl, rfl, rfl, trivial⟩)))⟩
         ·refine bY ?_;refine aC (to (sar rfl rfl rfl) (tm (.i (w64 (n + 1))) (aD ?_)));exact ⟨(w64 (n + 1), q, (cD j.1 (w64 ((aF j.1 0 c) + 1)) c), H, (mbs j.1 c u o), (mck j.1 c o)), h, aR [0, 1, 2] rfl rfl (aL rfl (aL rfl (aN ⟨rfl, rfl, rfl, rfl, rfl, rfl, rfl, trivial⟩)))⟩
   ·refine cB ?_;refine .inl ⟨rfl, ?_⟩;simp only [qB] at h;simp only [qA] at h;refine aC (to (sar rfl rfl rfl) (tm (.i (w64 (J + 1))) (aD ?_)));exact ⟨(w64 (J + 1), q, c, H, u, o), h, aR [0, 2] rfl rfl (aL rfl (aL rfl (aN ⟨rfl, rfl, rfl, rfl, rfl, trivial⟩)))⟩
  ·refine cB ?_;refine .inl ⟨rfl, ?_⟩;simp only [pZ] at h;refine aC (tm (.d (.lit V)) (ta (.d (.lit V)) ?_));refine cR ?_;simp only [pY] at h;refine aC (tm (.i s) (to (sar rfl rfl rfl) (ta (.i (w64 (s + 1))) (aD ?_))));exact ⟨(A, w64 (s + 1), K, T, U), h, (aR [1, 0] rfl rfl (le_refl _)).trans ((aBe [.map C (K.map fun p : aP × Int => ((fun a : aP => Value.agg ((aO a).map cA).toArray) p.1, (fun v : Int => AV.i v) p.2)) T U] [.arr V 110 4 (A.map aO)] rfl (cL (k := 93) (v := .d (.sl 4 (A.map aO))) (.d (bO 0 rfl (aW (f := aO) fun _ => rfl))) (cL (k := 12) (v := .d (.sl 4 (A.map aO))) (.d (bO 0 rfl (aW (f := aO) fun _ => rfl))) (cL (k := 9) (v := .d (.sl 4 (A.map aO))) (.d (bO 0 rfl (aW (f := aO) fun _ => rfl))) (iN _ _))))).trans (aR [0] rfl rfl (aL rfl (aL rfl (aN ⟨rfl, rfl, trivial⟩)))))⟩
 ·refine cB ?_;refine .inl ⟨rfl, ?_⟩;simp only [pX] at h;refine aE (aC (ta (.i 61) (aD ?_)));obtain rfl := sIn h;refine bM (bI (bJ (l := [4]) ⟨rfl, trivial⟩)) ?_;exact aV ⟨rfl, _, .one _, rfl, rfl⟩

theorem wN (c : aI) (f : Int) {r : Int} (h : kI c f = some r) : Fn Tryz.prog 39 [.cp (aX c), .i f] (.i r) := by
 unfold kI at h;refine Fn.of_tr Tryz.func39 rfl (rs := [.tmp 4]) Tryz.results39 Tryz.ntmps39 (Nat.le_of_ble_eq_true rfl) ?_;refine aE (aC (ta (.i 0) (aD (aE (aC (ta (.i 0) (ta (.i 0) (aD (aE (aE (aC (tm (.cp [.lit (.int .i64 c.Field.Places), .lit (.int .i64 c.Field.Wilds), .lit (.int .i64 c.Field.Guards), .lit (.int .i64 c.Field.Close), .lit (.int .i64 c.Field.Freeze), .mp true (c.players.map fun p : Int × aA => ((fun n : Int => Value.int .i64 n) p.1, aB p.2)), .sl 1 (c.wilds.map aH), .lit (.bool c.frozen), .sl 1 (c.first.map aH), .sl 1 (c.late.map aH), .lit (.int .i64 c.more), .lit (.int .i64 c.entered)]) ?_))))))))))));obtain ⟨r1, h2, h⟩ := bns h;refine to (dP (aK rfl) (.func _ _ Tryz.call52) rfl rfl (qC _ h2)) ?_;refine to (sle rfl bS.of) (tm (.i 0) (aD (bL ?_)));refine cH (S := Int × Int × Int) [0, 1, 14, 15] (fun s3 => [(5, .i s3.1), (6, .i s3.2.1), (16, .i s3.2.2)]) (fun s3 => []) (fun k s3 => iP c f r1 (r1.length : Int) k s3.1 s3.2.1 s3.2.2) (fun _ => rfl) (0, 0, 0) h (aR [] rfl rfl (aL rfl (aL rfl (aL rfl (aN ⟨rfl, rfl, rfl, rfl, trivial⟩))))) ?_;rintro k4 ⟨e, d, y⟩ h;simp only [iP] at h;refine aE (aC (to (scm rfl rfl rfl) (aD (aE ?_))));refine tih h (fun c5 h => ?_) (fun c5 h => ?_)
 ·refine bB (aE (bL (aE (aC ?_))));obtain ⟨x6, h7, h⟩ := bns h;refine to (six rfl rfl bS.of (bW aH h7)) (to (slc rfl aT) (ta (.i x6) (aD (aE (aE (aC (tm (.i x6) (tm (.i f) (to (scm rfl rfl rfl) (aD ?_))))))))));refine tih h (fun c8 h => ?_) (fun c8 h => ?_)
  ·refine cB ?_;refine .inr ⟨by decide, ?_⟩;refine .inl ⟨rfl, ?_⟩;simp only [kN] at h;refine aE (aC (ta (.i 61) (aD (aE (aE (aC (tm (.i e) (to (sar rfl rfl rfl) (tm (.i 0) (aD (bL ?_)))))))))));refine cH (S := Int × Int) [0, 1, 5, 6, 36] (fun s9 => [(9, .i s9.1), (37, .i s9.2)]) (fun s9 => []) (fun k s9 => eT c f e d (w64 (e + 1)) k s9.1 s9.2) (fun _ => rfl) (61, 0) h (aR [] rfl rfl (aL rfl (aL rfl (aN ⟨rfl, rfl, rfl, rfl, rfl, trivial⟩)))) ?_;rintro L ⟨A, o⟩ h;simp only [eT] at h;refine aE (aC (to (scm rfl rfl rfl) (aD (aE ?_))));refine tih h (fun M h => ?_) (fun M h => ?_)
   ·refine bB (aE (bL (aE (aC (tm (.i o) (ta (.i o) (aD (aE (aC (tm (.i d) (to (sar rfl rfl rfl) (tm (.i 0) (aD ?_)))))))))))));refine vN ?_;refine cH (S := Int × Int) [0, 1, 5, 6, 10, 36, 37, 41] (fun E => [(9, .i E.1), (42, .i E.2)]) (fun E => []) (fun k E => fP (eT c f e d (w64 (e + 1)) L) c f e d o (w64 (e + 1)) o (w64 (d + 1)) k E.1 E.2) (fun _ => rfl) (A, 0) h (aR [] rfl rfl (aL rfl (aL rfl (aN ⟨rfl, rfl, rfl, rfl, rfl, rfl, rfl, rfl, trivial⟩)))) ?_;rintro a2 ⟨t, g⟩ h;simp only [fP] at h;refine aE (aC (to (scm rfl rfl rfl) (aD (aE ?_))));refine tih h (fun N h => ?_) (fun N h => ?_)
    ·refine bB (aE (bL (aE (aC (tm (.i g) (ta (.i g) (aD (aE (aC (tm (.i d) (tm (.i g) (to (sar rfl rfl rfl) (tm (.cp [.lit (.int .i64 c.Field.Places), .lit (.int .i64 c.Field.Wilds), .lit (.int .i64 c.Field.Guards), .lit (.int .i64 c.Field.Close), .lit (.int .i64 c.Field.Freeze), .mp true (c.players.map fun p : Int × aA => ((fun n : Int => Value.int .i64 n) p.1, aB p.2)), .sl 1 (c.wilds.map aH), .lit (.bool c.frozen), .sl 1 (c.first.map aH), .sl 1 (c.late.map aH), .lit (.int .i64 c.more), .lit (.int .i64 c.entered)]) ?_)))))))))))));refine to (cF (aK rfl) rfl) ?_;refine to (sfc [.lit (.int .i64 c.Field.Places), .lit (.int .i64 c.Field.Wilds), .lit (.int .i64 c.Field.Guards), .lit (.int .i64 c.Field.Close), .lit (.int .i64 c.Field.Freeze)] rfl eQ) (to (sfc [.lit (.int .i64 c.Field.Guards)] rfl lV) (to (slc rfl aT) (to (aDh (aK rfl) rfl rfl) ?_)));refine ta (.i (min (w64 (d - g)) c.Field.Guards)) (aD (aE (aC (tm (.i e) (tm (.i o) (to (sar rfl rfl rfl) (tm (.i (min (w64 (d - g)) c.Field.Guards)) (to (sar rfl rfl rfl) (tm (.cp [.lit (.int .i64 c.Field.Places), .lit (.int .i64 c.Field.Wilds), .lit (.int .i64 c.Field.Guards), .lit (.int .i64 c.Field.Close), .lit (.int .i64 c.Field.Freeze), .mp true (c.players.map fun p : Int × aA => ((fun n : Int => Value.int .i64 n) p.1, aB p.2)), .sl 1 (c.wilds.map aH), .lit (.bool c.frozen), .sl 1 (c.first.map aH), .sl 1 (c.late.map aH), .lit (.int .i64 c.more), .lit (.int .i64 c.entered)]) ?_)))))))));obtain ⟨O, P, h⟩ := bns h;refine to (scr Tryz.call36 (fE _ P)) (to (scm rfl rfl rfl) (tm (.b (decide ((w64 ((w64 (e - o)) + (min (w64 (d - g)) c.Field.Guards))) < O))) ?_));obtain ⟨Q, B, h⟩ := bns h;refine bD 18 [0, 1, 5, 6, 9, 10, 11, 36, 37, 41, 42] 80 Q ?_ ?_
     ·refine bch B (fun q B => ?_) (fun q B => ?_)
      ·refine tk q (sm (.cp [.lit (.int .i64 c.Field.Places), .lit (.int .i64 c.Field.Wilds), .lit (.int .i64 c.Field.Guards), .lit (.int .i64 c.Field.Close), .lit (.int .i64 c.Field.Freeze), .mp true (c.players.map fun p : Int × aA => ((fun n : Int => Value.int .i64 n) p.1, aB p.2)), .sl 1 (c.wilds.map aH), .lit (.bool c.frozen), .sl 1 (c.first.map aH), .sl 1 (c.late.map aH), .lit (.int .i64 c.more), .lit (.int .i64 c.entered)])) (tk q (cF (aK rfl) rfl) ?_);refine tk q (sfc [.mp true (c.players.map fun p : Int × aA => ((fun n : Int => Value.int .i64 n) p.1, aB p.2))] rfl dA) (tk q (slc rfl eN) (tk q (sm (.i f)) (tk q (gQ (enc := aB) (agg := true) (l := c.players) (z := (aA.mk false false 0 0 false false false false)) (a := f) (aK rfl) fR Tryz.underlying68 Tryz.zeroValue94 (fun _ _ => .agg (hM rfl)) rfl rfl rfl rfl (cO (kv := (fun n : Int => Value.int .i64 n)) f)) ?_)));refine tk q (kU (aK rfl) rfl Tryz.runUnderlying94 rfl eG rfl) ?_;refine tk q (sn rfl) (tk q (sm (.b (!((aF f (aA.mk false false 0 0 false false false false) c.players).guard)))) ?_);obtain ⟨J, H, B⟩ := bns B;refine bD 8 [0, 1, 5, 6, 9, 10, 11, 36, 37, 41, 42, 62, 63, 64, 65, 66, 67, 68, 69, 70, 71] 79 J ?_ ?_
       ·refine bch H (fun u H => ?_) (fun u H => ?_)
        ·refine tp u (tp u (tp u (tp u (tp u (tp u (tp u (tk q (spt (.b true) u) ?_)))))));obtain rfl := sIn H;refine aD (aQ rfl ⟨rfl, rfl, rfl, rfl, rfl, rfl, rfl, rfl, rfl, rfl, rfl, rfl, rfl, rfl, rfl, rfl, rfl, rfl, rfl, rfl, rfl, trivial⟩ rfl)
        ·refine tk u (sm (.i (min (w64 (d - g)) c.Field.Guards))) (tk u (sm (.cp [.lit (.int .i64 c.Field.Places), .lit (.int .i64 c.Field.Wilds), .lit (.int .i64 c.Field.Guards), .lit (.int .i64 c.Field.Close), .lit (.int .i64 c.Field.Freeze), .mp true (c.players.map fun p : Int × aA => ((fun n : Int => Value.int .i64 n) p.1, aB p.2)), .sl 1 (c.wilds.map aH), .lit (.bool c.frozen), .sl 1 (c.first.map aH), .sl 1 (c.late.map aH), .lit (.int .i64 c.more), .lit (.int .i64 c.entered)])) (tk u (cF (aK rfl) rfl) ?_));refine tk u (sfc [.lit (.int .i64 c.Field.Places), .lit (.int .i64 c.Field.Wilds), .lit (.int .i64 c.Field.Guards), .lit (.int .i64 c.Field.Close), .lit (.int .i64 c.Field.Freeze)] rfl eQ) (tk u (sfc [.lit (.int .i64 c.Field.Guards)] rfl lV) (tk u (slc rfl aT) (tk u (scm rfl rfl rfl) (tk q (spf (.b (decide ((min (w64 (d - g)) c.Field.Guards) < c.Field.Guards))) u) ?_))));obtain rfl := sIn H;refine aD (aQ rfl ⟨rfl, rfl, rfl, rfl, rfl, rfl, rfl, rfl, rfl, rfl, rfl, rfl, rfl, rfl, rfl, rfl, rfl, rfl, rfl, rfl, rfl, trivial⟩ rfl)
       ·refine to (spt (.b J) q) ?_;obtain rfl := sIn B;refine aD (aQ rfl ⟨rfl, rfl, rfl, rfl, rfl, rfl, rfl, rfl, rfl, rfl, rfl, trivial⟩ rfl)
      ·refine tp q (tp q (tp q (tp q (tp q (tp q (tp q (tp q (tp q (tq (tq (tq (tq (tq ?_)))))))))))));refine tq (tq (tp q (to (spf (.b false) q) ?_)));obtain rfl := sIn B;refine aD (aQ rfl ⟨rfl, rfl, rfl, rfl, rfl, rfl, rfl, rfl, rfl, rfl, rfl, trivial⟩ rfl)
     ·refine aD ?_;refine tih h (fun T h => ?_) (fun T h => ?_)
      ·refine aC (tm (.i t) (tm (.i o) (tm (.i g) (to (sar rfl rfl rfl) (to (aDh (aK rfl) rfl rfl) ?_)))));refine ta (.i (min t (w64 (o + g)))) ?_;refine cR ?_;refine aC (to (sar rfl rfl rfl) (tm (.i (w64 (g + 1))) (aD ?_)));exact ⟨(min t (w64 (o + g)), w64 (g + 1)), h, aR [] rfl rfl (aL rfl (aL rfl (aN ⟨rfl, rfl, rfl, rfl, rfl, rfl, rfl, rfl, trivial⟩)))⟩
      ·refine bY ?_;refine aC (to (sar rfl rfl rfl) (tm (.i (w64 (g + 1))) (aD ?_)));exact ⟨(t, w64 (g + 1)), h, aR [] rfl rfl (aL rfl (aL rfl (aN ⟨rfl, rfl, rfl, rfl, rfl, rfl, rfl, rfl, trivial⟩)))⟩
    ·refine cB ?_;refine .inl ⟨rfl, ?_⟩;simp only [mR] at h;simp only [mQ] at h;refine aC (to (sar rfl rfl rfl) (tm (.i (w64 (o + 1))) (aD ?_)));exact ⟨(t, w64 (o + 1)), h, aR [] rfl rfl (aL rfl (aL rfl (aN ⟨rfl, rfl, rfl, rfl, rfl, trivial⟩)))⟩
   ·refine cB ?_;refine .inl ⟨rfl, ?_⟩;simp only [mP] at h;refine aE (aC (tm (.i A) (ta (.i A) (aD ?_))));obtain rfl := sIn h;exact aV ⟨rfl, _, .one _, rfl, rfl⟩
  ·refine bB (aE (aC (tm (.cp [.lit (.int .i64 c.Field.Places), .lit (.int .i64 c.Field.Wilds), .lit (.int .i64 c.Field.Guards), .lit (.int .i64 c.Field.Close), .lit (.int .i64 c.Field.Freeze), .mp true (c.players.map fun p : Int × aA => ((fun n : Int => Value.int .i64 n) p.1, aB p.2)), .sl 1 (c.wilds.map aH), .lit (.bool c.frozen), .sl 1 (c.first.map aH), .sl 1 (c.late.map aH), .lit (.int .i64 c.more), .lit (.int .i64 c.entered)]) (to (cF (aK rfl) rfl) ?_))));refine to (sfc [.mp true (c.players.map fun p : Int × aA => ((fun n : Int => Value.int .i64 n) p.1, aB p.2))] rfl dA) (to (slc rfl eN) (tm (.i x6) (to (gQ (enc := aB) (agg := true) (l := c.players) (z := (aA.mk false false 0 0 false false false false)) (a := x6) (aK rfl) fR Tryz.underlying68 Tryz.zeroValue94 (fun _ _ => .agg (hM rfl)) rfl rfl rfl rfl (cO (kv := (fun n : Int => Value.int .i64 n)) x6)) ?_)));refine to (kU (aK rfl) rfl Tryz.runUnderlying94 rfl eG rfl) ?_;refine aD ?_;refine tih h (fun U h => ?_) (fun U h => ?_)
   ·refine aC (tm (.i d) (to (sar rfl rfl rfl) (ta (.i (w64 (d + 1))) ?_)));refine cR ?_;refine aC (to (sar rfl rfl rfl) (tm (.i (w64 (y + 1))) (aD ?_)));exact ⟨(e, w64 (d + 1), w64 (y + 1)), h, aR [] rfl rfl (aL rfl (aL rfl (aL rfl (aN ⟨rfl, rfl, rfl, rfl, trivial⟩))))⟩
   ·refine aC (tm (.i e) (to (sar rfl rfl rfl) (ta (.i (w64 (e + 1))) ?_)));refine cR ?_;refine aC (to (sar rfl rfl rfl) (tm (.i (w64 (y + 1))) (aD ?_)));exact ⟨(w64 (e + 1), d, w64 (y + 1)), h, aR [] rfl rfl (aL rfl (aL rfl (aL rfl (aN ⟨rfl, rfl, rfl, rfl, trivial⟩))))⟩
 ·refine cB ?_;refine .inl ⟨rfl, ?_⟩;simp only [kN] at h;refine aE (aC (ta (.i 61) (aD (aE (aE (aC (tm (.i e) (to (sar rfl rfl rfl) (tm (.i 0) (aD (bL ?_)))))))))));refine cH (S := Int × Int) [0, 1, 5, 6, 36] (fun F => [(9, .i F.1), (37, .i F.2)]) (fun F => []) (fun k F => eT c f e d (w64 (e + 1)) k F.1 F.2) (fun _ => rfl) (61, 0) h (aR [] rfl rfl (aL rfl (aL rfl (aN ⟨rfl, rfl, rfl, rfl, rfl, trivial⟩)))) ?_;rintro V ⟨x, m⟩ h;simp only [eT] at h;refine aE (aC (to (scm rfl rfl rfl) (aD (aE ?_))));refine tih h (fun W h => ?_) (fun W h => ?_)
  ·refine bB (aE (bL (aE (aC (tm (.i m) (ta (.i m) (aD (aE (aC (tm (.i d) (to (sar rfl rfl rfl) (tm (.i 0) (aD ?_)))))))))))));refine vN ?_;refine cH (S := Int × Int) [0, 1, 5, 6, 10, 36, 37, 41] (fun G => [(9, .i G.1), (42, .i G.2)]) (fun G => []) (fun k G => fP (eT c f e d (w64 (e + 1)) V) c f e d m (w64 (e + 1)) m (w64 (d + 1)) k G.1 G.2) (fun _ => rfl) (x, 0) h (aR [] rfl rfl (aL rfl (aL rfl (aN ⟨rfl, rfl, rfl, rfl, rfl, rfl, rfl, rfl, trivial⟩)))) ?_;rintro a3 ⟨v, j⟩ h;simp only [fP] at h;refine aE (aC (to (scm rfl rfl rfl) (aD (aE ?_))));refine tih h (fun X h => ?_) (fun X h => ?_)
   ·refine bB (aE (bL (aE (aC (tm (.i j) (ta (.i j) (aD (aE (aC (tm (.i d) (tm (.i j) (to (sar rfl rfl rfl) (tm (.cp [.lit (.int .i64 c.Field.Places), .lit (.int .i64 c.Field.Wilds), .lit (.int .i64 c.Field.Guards), .lit (.int .i64 c.Field.Close), .lit (.int .i64 c.Field.Freeze), .mp true (c.players.map fun p : Int × aA => ((fun n : Int => Value.int .i64 n) p.1, aB p.2)), .sl 1 (c.wilds.map aH), .lit (.bool c.frozen), .sl 1 (c.first.map aH), .sl 1 (c.late.map aH), .lit (.int .i64 c.more), .lit (.int .i64 c.entered)]) ?_)))))))))))));refine to (cF (aK rfl) rfl) ?_;refine to (sfc [.lit (.int .i64 c.Field.Places), .lit (.int .i64 c.Field.Wilds), .lit (.int .i64 c.Field.Guards), .lit (.int .i64 c.Field.Close), .lit (.int .i64 c.Field.Freeze)] rfl eQ) (to (sfc [.lit (.int .i64 c.Field.Guards)] rfl lV) (to (slc rfl aT) (to (aDh (aK rfl) rfl rfl) ?_)));refine ta (.i (min (w64 (d - j)) c.Field.Guards)) (aD (aE (aC (tm (.i e) (tm (.i m) (to (sar rfl rfl rfl) (tm (.i (min (w64 (d - j)) c.Field.Guards)) (to (sar rfl rfl rfl) (tm (.cp [.lit (.int .i64 c.Field.Places), .lit (.int .i64 c.Field.Wilds), .lit (.int .i64 c.Field.Guards), .lit (.int .i64 c.Field.Close), .lit (.int .i64 c.Field.Freeze), .mp true (c.players.map fun p : Int × aA => ((fun n : Int => Value.int .i64 n) p.1, aB p.2)), .sl 1 (c.wilds.map aH), .lit (.bool c.frozen), .sl 1 (c.first.map aH), .sl 1 (c.late.map aH), .lit (.int .i64 c.more), .lit (.int .i64 c.entered)]) ?_)))))))));obtain ⟨Y, Z, h⟩ := bns h;refine to (scr Tryz.call36 (fE _ Z)) (to (scm rfl rfl rfl) (tm (.b (decide ((w64 ((w64 (e - m)) + (min (w64 (d - j)) c.Field.Guards))) < Y))) ?_));obtain ⟨a0, C, h⟩ := bns h;refine bD 18 [0, 1, 5, 6, 9, 10, 11, 36, 37, 41, 42] 80 a0 ?_ ?_
    ·refine bch C (fun s C => ?_) (fun s C => ?_)
     ·refine tk s (sm (.cp [.lit (.int .i64 c.Field.Places), .lit (.int .i64 c.Field.Wilds), .lit (.int .i64 c.Field.Guards), .lit (.int .i64 c.Field.Close), .lit (.int .i64 c.Field.Freeze), .mp true (c.players.map fun p : Int × aA => ((fun n : Int => Value.int .i64 n) p.1, aB p.2)), .sl 1 (c.wilds.map aH), .lit (.bool c.frozen), .sl 1 (c.first.map aH), .sl 1 (c.late.map aH), .lit (.int .i64 c.more), .lit (.int .i64 c.entered)])) (tk s (cF (aK rfl) rfl) ?_);refine tk s (sfc [.mp true (c.players.map fun p : Int × aA => ((fun n : Int => Value.int .i64 n) p.1, aB p.2))] rfl dA) (tk s (slc rfl eN) (tk s (sm (.i f)) (tk s (gQ (enc := aB) (agg := true) (l := c.players) (z := (aA.mk false false 0 0 false false false false)) (a := f) (aK rfl) fR Tryz.underlying68 Tryz.zeroValue94 (fun _ _ => .agg (hM rfl)) rfl rfl rfl rfl (cO (kv := (fun n : Int => Value.int .i64 n)) f)) ?_)));refine tk s (kU (aK rfl) rfl Tryz.runUnderlying94 rfl eG rfl) ?_;refine tk s (sn rfl) (tk s (sm (.b (!((aF f (aA.mk false false 0 0 false false false false) c.players).guard)))) ?_);obtain ⟨K, I, C⟩ := bns C;refine bD 8 [0, 1, 5, 6, 9, 10, 11, 36, 37, 41, 42, 62, 63, 64, 65, 66, 67, 68, 69, 70, 71] 79 K ?_ ?_
      ·refine bch I (fun w I => ?_) (fun w I => ?_)
       ·refine tp w (tp w (tp w (tp w (tp w (tp w (tp w (tk s (spt (.b true) w) ?_)))))));obtain rfl := sIn I;refine aD (aQ rfl ⟨rfl, rfl, rfl, rfl, rfl, rfl, rfl, rfl, rfl, rfl, rfl, rfl, rfl, rfl, rfl, rfl, rfl, rfl, rfl, rfl, rfl, trivial⟩ rfl)
       ·refine tk w (sm (.i (min (w64 (d - j)) c.Field.Guards))) (tk w (sm (.cp [.lit (.int .i64 c.Field.Places), .lit (.int .i64 c.Field.Wilds), .lit (.int .i64 c.Field.Guards), .lit (.int .i64 c.Field.Close), .lit (.int .i64 c.Field.Freeze), .mp true (c.players.map fun p : Int × aA => ((fun n : Int => Value.int .i64 n) p.1, aB p.2)), .sl 1 (c.wilds.map aH), .lit (.bool c.frozen), .sl 1 (c.first.map aH), .sl 1 (c.late.map aH), .lit (.int .i64 c.more), .lit (.int .i64 c.entered)])) (tk w (cF (aK rfl) rfl) ?_));refine tk w (sfc [.lit (.int .i64 c.Field.Places), .lit (.int .i64 c.Field.Wilds), .lit (.int .i64 c.Field.Guards), .lit (.int .i64 c.Field.Close), .lit (.int .i64 c.Field.Freeze)] rfl eQ) (tk w (sfc [.lit (.int .i64 c.Field.Guards)] rfl lV) (tk w (slc rfl aT) (tk w (scm rfl rfl rfl) (tk s (spf (.b (decide ((min (w64 (d - j)) c.Field.Guards) < c.Field.Guards))) w) ?_))));obtain rfl := sIn I;refine aD (aQ rfl ⟨rfl, rfl, rfl, rfl, rfl, rfl, rfl, rfl, rfl, rfl, rfl, rfl, rfl, rfl, rfl, rfl, rfl, rfl, rfl, rfl, rfl, trivial⟩ rfl)
      ·refine to (spt (.b K) s) ?_;obtain rfl := sIn C;refine aD (aQ rfl ⟨rfl, rfl, rfl, rfl, rfl, rfl, rfl, rfl, rfl, rfl, rfl, trivial⟩ rfl)
     ·refine tp s (tp s (tp s (tp s (tp s (tp s (tp s (tp s (tp s (tq (tq (tq (tq (tq ?_)))))))))))));refine tq (tq (tp s (to (spf (.b false) s) ?_)));obtain rfl := sIn C;refine aD (aQ rfl ⟨rfl, rfl, rfl, rfl, rfl, rfl, rfl, rfl, rfl, rfl, rfl, trivial⟩ rfl)
    ·refine aD ?_;refine tih h (fun a1 h => ?_) (fun a1 h => ?_)
     ·refine aC (tm (.i v) (tm (.i m) (tm (.i j) (to (sar rfl rfl rfl) (to (aDh (aK rfl) rfl rfl) ?_)))));refine ta (.i (min v (w64 (m + j)))) ?_;refine cR ?_;refine aC (to (sar rfl rfl rfl) (tm (.i (w64 (j + 1))) (aD ?_)));exact ⟨(min v (w64 (m + j)), w64 (j + 1)), h, aR [] rfl rfl (aL rfl (aL rfl (aN ⟨rfl, rfl, rfl, rfl, rfl, rfl, rfl, rfl, trivial⟩)))⟩
     ·refine bY ?_;refine aC (to (sar rfl rfl rfl) (tm (.i (w64 (j + 1))) (aD ?_)));exact ⟨(v, w64 (j + 1)), h, aR [] rfl rfl (aL rfl (aL rfl (aN ⟨rfl, rfl, rfl, rfl, rfl, rfl, rfl, rfl, trivial⟩)))⟩
   ·refine cB ?_;refine .inl ⟨rfl, ?_⟩;simp only [mR] at h;simp only [mQ] at h;refine aC (to (sar rfl rfl rfl) (tm (.i (w64 (m + 1))) (aD ?_)));exact ⟨(v, w64 (m + 1)), h, aR [] rfl rfl (aL rfl (aL rfl (aN ⟨rfl, rfl, rfl, rfl, rfl, trivial⟩)))⟩
  ·refine cB ?_;refine .inl ⟨rfl, ?_⟩;simp only [mP] at h;refine aE (aC (tm (.i x) (ta (.i x) (aD ?_))));obtain rfl := sIn h;exact aV ⟨rfl, _, .one _, rfl, rfl⟩

theorem aDb (j : aS) (c : List aJ) (f : Int) (a : Int) {r : Int × Int} (h : oV j c f a = some r) : Fn Tryz.prog 18 [.agg (aU j), .d (.sl 5 (c.map aG)), .i f, .i a] (.tup [.i r.1, .i r.2]) := by
 unfold oV at h;refine Fn.of_tr Tryz.func18 rfl (rs := [.tmp 8, .tmp 9]) Tryz.results18 Tryz.ntmps18 (Nat.le_of_ble_eq_true rfl) ?_;refine aE (aC ?_);refine bK rfl (iH (v := .agg (aU j)) (aK rfl) rfl rfl rfl) ?_;rintro _ ⟨b1, rfl⟩;refine ta (.i 0) (ta (.i 0) (aD (aE (aC (to (sla 0 (aU j) rfl rfl iM) (tm (.d (.sl 5 (c.map aG))) (tm (.i f) (tm (.i a) ?_))))))));obtain ⟨r2, h3, h⟩ := bns h;refine to (dP (aK rfl) (.func _ _ Tryz.call33) rfl rfl (tD _ _ _ _ h3)) ?_;refine tm (.tup [kB aX r2.1, .i r2.2]) (to (sex rfl rfl) (to (sex rfl rfl) (ta (kB aX r2.1) (ta (.i r2.2) (aD (aE (aE (aC (tm (.i r2.2) (to (scm rfl rfl rfl) (aD ?_)))))))))));refine tih h (fun c4 h => ?_) (fun c4 h => ?_)
 ·refine aE (aC (tm (.i r2.2) (ta (.i 0) (ta (.i r2.2) (aD ?_)))));obtain rfl := sIn h;refine bM (bI (bJ (l := [8, 9]) ⟨rfl, rfl, trivial⟩)) ?_;exact aV ⟨rfl, _, .two _ _, rfl, rfl⟩
 ·refine bB (aE (aC (tm (kB aX r2.1) (tm (.i a) ?_))));obtain ⟨x5, h6, h⟩ := bns h;refine cZ (sU (enc := aX) (k := 27) rfl h6) ?_;obtain ⟨r7, h8, h⟩ := bns h;refine to (scr Tryz.call37 (rU _ _ h8)) (tm (.tup [.i r7.1, .i r7.2]) (to (sex rfl rfl) (to (sex rfl rfl) (ta (.i r7.1) (ta (.i r7.2) (aD (aE (aC (ta (.i 61) (aD (aE (bL (aE ?_)))))))))))));refine aC (tm (.i r7.1) (to (scm rfl rfl rfl) (ta (.b (decide (r7.1 = 1))) (aD ?_))));refine tih h (fun c9 h => ?_) (fun c9 h => ?_)
  ·refine aC (ta (.i 0) ?_);refine cR ?_;refine aE (aE (aC (tm (.i 0) (to (scm rfl rfl rfl) (aD ?_)))));refine tih h (fun q h => ?_) (fun q h => ?_)
   ·refine aE (aC (ta (.i 0) (ta (.i 3) (aD ?_))));obtain rfl := sIn h;refine bM (bI (bJ (l := [8, 9]) ⟨rfl, rfl, trivial⟩)) ?_;exact aV ⟨rfl, _, .two _ _, rfl, rfl⟩
   ·refine bB (aE (aC (tm (.i 0) (ta (.i 0) (ta (.i 0) (aD ?_))))));obtain rfl := sIn h;refine bM (bI (bJ (l := [8, 9]) ⟨rfl, rfl, trivial⟩)) ?_;exact aV ⟨rfl, _, .two _ _, rfl, rfl⟩
  ·refine aE (aC (tm (.i r7.1) (to (scm rfl rfl rfl) (tm (.b (decide (r7.1 = 3))) ?_))));obtain ⟨o, g, h⟩ := bns h;refine bD 5 [3, 10, 12, 14] 43 o ?_ ?_
   ·refine bch g (fun e g => ?_) (fun e g => ?_)
    ·refine tk e (sm (kB aX r2.1)) ?_;obtain ⟨p, s, g⟩ := bns g;refine tk e (aFx (enc := aX) (aK rfl) rfl s) ?_;refine tk e (sfc [.lit (.bool p.frozen)] rfl pL) (tk e (slc rfl eG) (to (spt (.b p.frozen) e) ?_));obtain rfl := sIn g;refine aD (aQ rfl ⟨rfl, rfl, rfl, rfl, trivial⟩ rfl)
    ·refine tp e (tp e (tp e (tp e (to (spf (.b false) e) ?_))));obtain rfl := sIn g;refine aD (aQ rfl ⟨rfl, rfl, rfl, rfl, trivial⟩ rfl)
   ·refine ta (.b o) (aD ?_);refine tih h (fun t h => ?_) (fun t h => ?_)
    ·refine aC (tm (kB aX r2.1) (tm (.i a) ?_));obtain ⟨E, u, h⟩ := bns h;refine cZ (sU (enc := aX) (k := 44) rfl u) ?_;obtain ⟨m, w, h⟩ := bns h;refine to (scr Tryz.call38 (wO _ _ w)) (ta (.i m) ?_);refine cR ?_;refine aE (aE (aC (tm (.i m) (to (scm rfl rfl rfl) (aD ?_)))));refine tih h (fun x h => ?_) (fun x h => ?_)
     ·refine aE (aC (ta (.i 0) (ta (.i 3) (aD ?_))));obtain rfl := sIn h;refine bM (bI (bJ (l := [8, 9]) ⟨rfl, rfl, trivial⟩)) ?_;exact aV ⟨rfl, _, .two _ _, rfl, rfl⟩
     ·refine bB (aE (aC (tm (.i m) (ta (.i m) (ta (.i 0) (aD ?_))))));obtain rfl := sIn h;refine bM (bI (bJ (l := [8, 9]) ⟨rfl, rfl, trivial⟩)) ?_;exact aV ⟨rfl, _, .two _ _, rfl, rfl⟩
    ·refine aE (aC (tm (.i r7.1) (to (scm rfl rfl rfl) (ta (.b (decide (r7.1 = 3))) (aD ?_)))));refine tih h (fun y h => ?_) (fun y h => ?_)
     ·refine aC (tm (kB aX r2.1) (tm (.i a) ?_));obtain ⟨F, z, h⟩ := bns h;refine cZ (sU (enc := aX) (k := 50) rfl z) ?_;obtain ⟨n, A, h⟩ := bns h;refine to (scr Tryz.call39 (wN _ _ A)) (ta (.i n) ?_);refine cR ?_;refine aE (aE (aC (tm (.i n) (to (scm rfl rfl rfl) (aD ?_)))));refine tih h (fun B h => ?_) (fun B h => ?_)
      ·refine aE (aC (ta (.i 0) (ta (.i 3) (aD ?_))));obtain rfl := sIn h;refine bM (bI (bJ (l := [8, 9]) ⟨rfl, rfl, trivial⟩)) ?_;exact aV ⟨rfl, _, .two _ _, rfl, rfl⟩
      ·refine bB (aE (aC (tm (.i n) (ta (.i n) (ta (.i 0) (aD ?_))))));obtain rfl := sIn h;refine bM (bI (bJ (l := [8, 9]) ⟨rfl, rfl, trivial⟩)) ?_;exact aV ⟨rfl, _, .two _ _, rfl, rfl⟩
     ·refine bY ?_;refine aE (aE (aC (tm (.i 61) (to (scm rfl rfl rfl) (aD ?_)))));refine tih h (fun C h => ?_) (fun C h => ?_)
      ·refine aE (aC (ta (.i 0) (ta (.i 3) (aD ?_))));obtain rfl := sIn h;refine bM (bI (bJ (l := [8, 9]) ⟨rfl, rfl, trivial⟩)) ?_;exact aV ⟨rfl, _, .two _ _, rfl, rfl⟩
      ·refine bB (aE (aC (tm (.i 61) (ta (.i 61) (ta (.i 0) (aD ?_))))));obtain rfl := sIn h;refine bM (bI (bJ (l := [8, 9]) ⟨rfl, rfl, trivial⟩)) ?_;exact aV ⟨rfl, _, .two _ _, rfl, rfl⟩

theorem yM (x : List Int) {r : List Int} {x_v : Value} {e : TypeId} (h : slices_Sort_int x = some r) : cX Tryz.prog 48 [.d (.lit x_v)] [.arr x_v e 1 (x.map aH)] (fun r' o' => r' = .tup [] ∧ o' = [.arr x_v e 1 (r.map aH)]) := by
 unfold slices_Sort_int at h;split at h
 ·cases h;exact aHy (fun blk off cap zs w => Tryz.slices_Sort_int blk off cap zs w) (fun q cap w => Tryz.slices_Sort_int_none q cap w) (by assumption)
 ·cases h

theorem wF (o : List Int) {r : (List Int)} {e : Value} (h : jT o = some r) : cX Tryz.prog 49 [.d (.lit e)] [.arr e 3 1 (o.map aH)] (fun r' o' => ∃ w0 : Value, r' = .d (.lit w0) ∧ o' = [.arr w0 3 1 (r.map aH)]) := by
 unfold jT at h;refine gR Tryz.func49 rfl (rs := [.tmp 2]) Tryz.results49 Tryz.ntmps49 (Nat.le_of_ble_eq_true rfl) ?_;refine aE (aC (to (gB 3 1 (.inl rfl) (aK rfl)) ?_));refine aD (aE (aE (aC (tm (.d (.lit e)) (to (gU (m := 0) (aK rfl) rfl rfl bS.of) ?_)))));refine to (scm rfl rfl rfl) (aD ?_);refine tih h (fun c2 h => ?_) (fun c2 h => ?_)
 ·refine aE (aC (tm (.d (.lit e)) (ta (.d (.lit e)) (aD ?_))));obtain rfl := sIn h;exact aV ⟨rfl, _, [.arr e 3 1 (o.map aH)], [.arr (.slice none 0 0) 3 1 (([] : List Int).map aH)], _, .one (.tmp 2 (v := .d (.lit e)) rfl), .refl _, .same _, e, rfl, rfl⟩
 ·refine bB (aE (aE (aC (ta (.i 1) (aD (bL ?_))))));refine cH (S := Int × (List Int) × Value) [] (fun s3 => [(0, .d (.lit s3.2.2)), (3, .i s3.1)]) (fun s3 => [.arr s3.2.2 3 1 (s3.2.1.map aH)]) (fun k s3 => dJ k s3.1 s3.2.1) (fun _ => rfl) (1, o, e) h (aR [0] rfl rfl (aL rfl (aL rfl (aN trivial)))) ?_;rintro k5 ⟨a, n, w4⟩ h;simp only [dJ] at h;refine aE (aE (aC (tm (.i a) (tm (.d (.lit w4)) (to (gU (m := 0) (aK rfl) rfl rfl bS.of) ?_)))));refine to (scm rfl rfl rfl) (aD ?_);refine tih h (fun c6 h => ?_) (fun c6 h => ?_)
  ·refine bB (aE (bL (aE ?_)));obtain ⟨x7, h8, h⟩ := bns h;obtain ⟨x9, p, h⟩ := bns h;refine bV mix 9 [0, 3] [(19, .i x7), (24, .i x9)] ?_ ?_
   ·refine ⟨[(16, 0, .d (.lit w4)), (17, 1, .i a), (18, 2, .ep w4 1 a.toNat 0), (19, 3, .i x7), (20, 4, .d (.lit w4)), (21, 5, .i a), (22, 6, .i (w64 (a - 1))), (23, 7, .ep w4 1 (w64 (a - 1)).toNat 0), (24, 8, .i x9)], ?_, ?_⟩
    · exact dok [([], []), ([], []), ([0, 1], []), ([2], []), ([], []), ([], []), ([5], []), ([4, 6], []), ([7], [])] ⟨go (zm (.d (.lit w4))),
      go (zm (.i a)),
      go (zia 0 rfl rfl rfl bS.of (bW aH h8)),
      go fun S hS => mJ (aK rfl) (aM hS rfl) (m := 0) rfl (oB aH h8) rfl aT,
      go (zm (.d (.lit w4))),
      go (zm (.i a)),
      go (zar rfl rfl rfl),
      go (zia 0 rfl rfl rfl bS.of (bW aH p)),
      go fun S hS => mJ (aK rfl) (aM hS rfl) (m := 0) rfl (oB aH p) rfl aT, trivial⟩
    · exact bP (aL rfl (aL rfl (aN ⟨rfl, rfl, trivial⟩)))
   ·refine to (scm rfl rfl rfl) (aD ?_);refine tih h (fun A h => ?_) (fun A h => ?_)
    ·refine aE (aC (tm (.d (.lit w4)) (tm (.i a) ?_)));obtain ⟨I, B, h⟩ := bns h;refine to (oD (m := 0) (aK rfl) rfl rfl rfl bS.of B) ?_;refine ta (.d (.lit (gV w4 a.toNat 1))) (aD (aE (aE (aC (ta (.i 1) (aD (bL ?_)))))));refine cH (S := Int × Int × (List Int)) [] (fun j => [(0, .d (.lit w4)), (3, .i j.1), (4, .d (.lit (gV w4 a.toNat 1))), (5, .i j.2.1)]) (fun j => [.arr w4 3 1 (j.2.2.map aH)]) (fun k j => eL (dJ k5) a k j.1 j.2.1 j.2.2) (fun _ => rfl) (a, 1, n) h (aR [0] rfl rfl (aL rfl (aL rfl (aL rfl (aL rfl (aN trivial)))))) ?_;rintro J ⟨c, b, g⟩ h;simp only [eL] at h;refine aE (aE (aC (tm (.i b) (tm (.d (.lit (gV w4 a.toNat 1))) (to (aAv (m := 0) (aK rfl) rfl rfl bS.of) ?_)))));refine to (scm rfl rfl rfl) (aD ?_);refine tih h (fun C h => ?_) (fun C h => ?_)
     ·refine bB (aE (bL (aE ?_)));obtain ⟨s, t, h⟩ := bns h;obtain ⟨u, w, h⟩ := bns h;refine bV mix 9 [0, 3, 4, 5] [(38, .i s), (43, .i u)] ?_ ?_
      ·refine ⟨[(35, 0, .d (.lit (gV w4 a.toNat 1))), (36, 1, .i b), (37, 2, .ep w4 1 (a.toNat + b.toNat) 0), (38, 3, .i s), (39, 4, .d (.lit (gV w4 a.toNat 1))), (40, 5, .i b), (41, 6, .i (w64 (b - 1))), (42, 7, .ep w4 1 (a.toNat + (w64 (b - 1)).toNat) 0), (43, 8, .i u)], ?_, ?_⟩
       · exact dok [([], []), ([], []), ([0, 1], []), ([2], []), ([], []), ([], []), ([5], []), ([4, 6], []), ([7], [])] ⟨go (zm (.d (.lit (gV w4 a.toNat 1)))),
      go (zm (.i b)),
      go fun S hS => nH (m := 0) (aK rfl) (aM hS rfl) rfl (aM hS rfl) bS.of (mH (f := aH) t),
      go fun S hS => mJ (aK rfl) (aM hS rfl) (m := 0) rfl (sZ aH t) rfl aT,
      go (zm (.d (.lit (gV w4 a.toNat 1)))),
      go (zm (.i b)),
      go (zar rfl rfl rfl),
      go fun S hS => nH (m := 0) (aK rfl) (aM hS rfl) rfl (aM hS rfl) bS.of (mH (f := aH) w),
      go fun S hS => mJ (aK rfl) (aM hS rfl) (m := 0) rfl (sZ aH w) rfl aT, trivial⟩
       · exact bP (aL rfl (aL rfl (aN ⟨rfl, rfl, rfl, rfl, trivial⟩)))
      ·refine to (scm rfl rfl rfl) (aD ?_);refine tih h (fun E h => ?_) (fun E h => ?_)
       ·refine aE (aC (tm (.d (.lit w4)) (tm (.i c) (tm (.d (.lit (gV w4 a.toNat 1))) (tm (.i b) ?_)))));obtain ⟨x, y, h⟩ := bns h;refine to (nH (m := 0) (aK rfl) rfl rfl rfl bS.of (mH (f := aH) y)) ?_;refine to (mJ (aK rfl) rfl (m := 0) rfl (sZ aH y) rfl aT) ?_;obtain ⟨K, z, h⟩ := bns h;refine to (kV (m := 0) (aK rfl) rfl rfl rfl bS.of (bW aH z)) ?_;refine to (wE (l := 0) rfl rfl (oB aH z) rfl rfl rfl Tryz.sizeOf3 rfl (aK rfl) (Nat.le_of_ble_eq_true rfl) (rows' := ((g.set c.toNat x)).map aH) (aBu _ _ _ _ rfl)) ?_;refine aD (aC (tm (.i c) (to (sar rfl rfl rfl) (ta (.i (w64 (c + 1))) ?_))));refine cR ?_;refine aC (tm (.i b) (to (sar rfl rfl rfl) (ta (.i (w64 (b + 1))) (aD ?_))));exact ⟨(w64 (c + 1), w64 (b + 1), (g.set c.toNat x)), h, aR [0] rfl rfl (aL rfl (aL rfl (aL rfl (aL rfl (aN trivial)))))⟩
       ·refine bY ?_;refine aC (tm (.i b) (to (sar rfl rfl rfl) (ta (.i (w64 (b + 1))) (aD ?_))));exact ⟨(c, w64 (b + 1), g), h, aR [0] rfl rfl (aL rfl (aL rfl (aL rfl (aL rfl (aN trivial)))))⟩
     ·refine cB ?_;refine .inl ⟨rfl, ?_⟩;simp only [mG] at h;refine aE (aC (tm (.d (.lit w4)) (tm (.i c) ?_)));obtain ⟨L, F, h⟩ := bns h;refine to (oD (m := 0) (aK rfl) rfl rfl rfl bS.of F) ?_;obtain ⟨M, G, h⟩ := bns h;refine to (zO (f := aH) (m := 0) bS rfl rfl G (by decide)) ?_;refine aD (aE (aC (tm (.d (.lit w4)) (tm (.i c) ?_))));obtain ⟨N, H, h⟩ := bns h;refine to (oC (m := 0) (q := c.toNat) (v := w4) (aK rfl) rfl rfl rfl rfl (wT H) bS.of) ?_;refine ta (.d (.lit (eK w4 c.toNat))) (aD ?_);obtain rfl := sIn h;exact aV ⟨rfl, _, [.arr (eK w4 c.toNat) 3 1 ((g.take c.toNat).map aH)], [], _, .one (.tmp 2 (v := .d (.lit (eK w4 c.toNat))) rfl), .refl _, .same _, (eK w4 c.toNat), rfl, rfl⟩
    ·refine bY ?_;simp only [mF] at h;refine aC (tm (.i a) (to (sar rfl rfl rfl) (ta (.i (w64 (a + 1))) (aD ?_))));exact ⟨(w64 (a + 1), n, w4), h, aR [0] rfl rfl (aL rfl (aL rfl (aN trivial)))⟩
  ·refine cB ?_;refine .inl ⟨rfl, ?_⟩;simp only [mE] at h;refine aE (aC (tm (.d (.lit w4)) (ta (.d (.lit w4)) (aD ?_))));obtain rfl := sIn h;exact aV ⟨rfl, _, [.arr w4 3 1 (n.map aH)], [], _, .one (.tmp 2 (v := .d (.lit w4)) rfl), .refl _, .same _, w4, rfl, rfl⟩

theorem aDx (e : aS) (a : List aJ) (c : Int) {r : Int × Int} (h : oJ e a c = some r) : Fn Tryz.prog 26 [.agg (aU e), .d (.sl 5 (a.map aG)), .i c] (.tup [.i r.1, .i r.2]) := by
 unfold oJ at h;refine Fn.of_tr Tryz.func26 rfl (rs := [.tmp 6, .tmp 7]) Tryz.results26 Tryz.ntmps26 (Nat.le_of_ble_eq_true rfl) ?_;refine aE (aC ?_);refine bK rfl (iH (v := .agg (aU e)) (aK rfl) rfl rfl rfl) ?_;rintro _ ⟨b1, rfl⟩;refine ta (.i 0) (ta (.i 0) (aD (aE (aE (aC (to (sla 0 (aU e) rfl rfl iM) (tm (.d (.sl 5 (a.map aG))) (tm (.i c) ?_))))))));obtain ⟨r2, h3, h⟩ := bns h;refine to (dP (aK rfl) (.func _ _ Tryz.call33) rfl rfl (tD _ _ _ _ h3)) ?_;refine tm (.tup [kB aX r2.1, .i r2.2]) (to (sex rfl rfl) (to (sex rfl rfl) (ta (kB aX r2.1) (ta (.i r2.2) (aD (aE (aC (tm (.i r2.2) (to (scm rfl rfl rfl) (aD ?_))))))))));refine tih h (fun c4 h => ?_) (fun c4 h => ?_)
 ·refine aE (aC (tm (.i r2.2) (ta (.i 0) (ta (.i r2.2) (aD ?_)))));obtain rfl := sIn h;refine bM (bI (bJ (l := [6, 7]) ⟨rfl, rfl, trivial⟩)) ?_;exact aV ⟨rfl, _, .two _ _, rfl, rfl⟩
 ·refine bB (aE (aC (to (gB 3 1 (.inl rfl) (aK rfl)) ?_)));refine aD (aE (aE (aC (tm (.d (.sl 5 (a.map aG))) (to (sle rfl cW.of) (tm (.i 0) (aD (bL ?_))))))));refine cH (S := Int × (List Int) × Value) [1, 2, 3, 27, 28] (fun s6 => [(10, .d (.lit s6.2.2)), (29, .i s6.1)]) (fun s6 => [.box b1 0 (aU e), .arr s6.2.2 3 1 (s6.2.1.map aH)]) (fun k s6 => kD a c a (a.length : Int) e k s6.1 s6.2.1) (fun _ => rfl) (0, ([] : List Int), (.slice none 0 0)) h (aR [0, 1] rfl rfl (aL rfl (aL rfl (aN ⟨rfl, rfl, rfl, rfl, rfl, trivial⟩)))) ?_;rintro k8 ⟨p, g, w7⟩ h;simp only [kD] at h;refine aE (aC (to (scm rfl rfl rfl) (aD (aE ?_))));refine tih h (fun c9 h => ?_) (fun c9 h => ?_)
  ·refine bB (aE (bL (aE (aC ?_))));obtain ⟨u, A, h⟩ := bns h;refine to (six rfl rfl cW.of (bW aG A)) (to (aBv (aG u) rfl gI) ?_);refine bK rfl (eE (zs := [.lit (.int .i64 0), .lit (.int .i64 0), .lit (.int .i64 0), .lit (.int .i64 0), .lit (.int .i64 0)]) (aK rfl) Tryz.zeroValue32 rfl rfl) ?_;rintro _ ⟨N, rfl⟩;refine to (sst 2 rfl rfl Tryz.sizeOf32 (aG u)) (aD (aC (tm (.d (.lit w7)) (tfl 2 rfl rfl cP rfl aT (to (fS (aK rfl) bS rfl rfl (rows := ([u.Hour]).map aH) rfl (aW (f := aH) fun _ => rfl) rfl (by decide)) ?_)))));obtain ⟨B, C, h⟩ := bns h;refine bK rfl (kT (i := 1) (aK rfl) bS rfl rfl rfl (fun _ => rfl) C rfl) ?_;rintro _ ⟨x, rfl⟩;refine ta (.d (.lit x)) ?_;refine cR ?_;refine aC (to (sar rfl rfl rfl) (tm (.i (w64 (p + 1))) (aD ?_)));exact ⟨(w64 (p + 1), B, x), h, aR [0, 1] rfl rfl (aL rfl (aL rfl (aN ⟨rfl, rfl, rfl, rfl, rfl, trivial⟩)))⟩
  ·refine cB ?_;refine .inl ⟨rfl, ?_⟩;simp only [pA] at h;refine aE (aC (tm (.d (.lit w7)) ?_));obtain ⟨y, E, h⟩ := bns h;refine cZ (aR [1, 0] rfl rfl (le_refl _)) ?_;refine bK rfl (gT (passed := [.arr w7 3 1 (g.map aH)]) (aK rfl) rfl (.func _ _ Tryz.call48) rfl rfl (yM g E)) ?_;rintro _ ⟨_, _, ⟨rfl, rfl⟩, rfl⟩;refine aD (aE (aE (aC (tm (.d (.lit w7)) ?_))));obtain ⟨w, F, h⟩ := bns h;refine bK rfl (gT (passed := [.arr w7 3 1 (y.map aH)]) (aK rfl) rfl (.func _ _ Tryz.call49) rfl rfl (wF y F)) ?_;rintro _ ⟨_, _, ⟨G, rfl, rfl⟩, rfl⟩;refine to (gU (m := 0) (aK rfl) rfl rfl bS.of) ?_;refine tm (.i 0) (aD (bL ?_));refine cH (S := Int) [1, 2, 3, 42, 43] (fun s => [(44, .i s)]) (fun s => [.box b1 0 (aU e), .arr G 3 1 (w.map aH)]) (fun k s => kE a c (w.length : Int) e w k s) (fun _ => rfl) (0) h (aR [1, 0] rfl rfl (aL rfl (aN ⟨rfl, rfl, rfl, rfl, rfl, trivial⟩))) ?_;rintro O n h;simp only [kE] at h;refine aE (aC (to (scm rfl rfl rfl) (aD (aE ?_))));refine tih h (fun H h => ?_) (fun H h => ?_)
   ·refine bB (aE (bL (aE (aC ?_))));obtain ⟨t, z, h⟩ := bns h;refine to (kV (m := 1) (aK rfl) rfl rfl rfl bS.of (bW aH z)) ?_;refine to (mJ (aK rfl) rfl (m := 1) rfl (oB aH z) rfl aT) ?_;refine ta (.i t) (aD (aE (aC (to (sla 0 (aU e) rfl rfl iM) (tm (.d (.sl 5 (a.map aG))) (tm (.i t) ?_))))));obtain ⟨P, I, h⟩ := bns h;refine to (dP (aK rfl) (.func _ _ Tryz.call50) rfl rfl (wI _ _ _ I)) ?_;refine tm (.i c) ?_;obtain ⟨Q, J, h⟩ := bns h;refine cZ (sU (enc := aX) (k := 52) rfl J) ?_;obtain ⟨j, K, h⟩ := bns h;refine to (scr Tryz.call37 (rU _ _ K)) (tm (.tup [.i j.1, .i j.2]) (to (sex rfl rfl) (to (sex rfl rfl) (ta (.i j.1) (ta (.i j.2) (aD (aE (aC (tm (.i j.1) (to (scm rfl rfl rfl) (tm (.b (decide (j.1 = 1))) ?_)))))))))));obtain ⟨L, q, h⟩ := bns h;refine bD 3 [1, 2, 3, 14, 42, 43, 44] 62 L ?_ ?_
    ·refine bch q (fun o q => ?_) (fun o q => ?_)
     ·refine tp o (tp o (to (spt (.b true) o) ?_));obtain rfl := sIn q;refine aD (aQ rfl ⟨rfl, rfl, rfl, rfl, rfl, rfl, rfl, trivial⟩ rfl)
     ·refine tk o (sm (.i j.1)) (tk o (scm rfl rfl rfl) (to (spf (.b (decide (j.1 = 2))) o) ?_));obtain rfl := sIn q;refine aD (aQ rfl ⟨rfl, rfl, rfl, rfl, rfl, rfl, rfl, trivial⟩ rfl)
    ·refine aD ?_;refine tih h (fun M h => ?_) (fun M h => ?_)
     ·refine aE (aC (tm (.i t) (ta (.i t) (ta (.i 0) (aD ?_)))));obtain rfl := sIn h;refine bM (bI (bJ (l := [6, 7]) ⟨rfl, rfl, trivial⟩)) ?_;exact aV ⟨rfl, _, .two _ _, rfl, rfl⟩
     ·refine bY ?_;refine aC (to (sar rfl rfl rfl) (tm (.i (w64 (n + 1))) (aD ?_)));exact ⟨(w64 (n + 1)), h, aR [0, 1] rfl rfl (aL rfl (aN ⟨rfl, rfl, rfl, rfl, rfl, trivial⟩))⟩
   ·refine cB ?_;refine .inl ⟨rfl, ?_⟩;simp only [sD] at h;refine aE (aC (ta (.i 0) (ta (.i 3) (aD ?_))));obtain rfl := sIn h;refine bM (bI (bJ (l := [6, 7]) ⟨rfl, rfl, trivial⟩)) ?_;exact aV ⟨rfl, _, .two _ _, rfl, rfl⟩

theorem mC (c : List Int) (e : List Int) {r : Bool} (h : jB c e = some r) : Fn Tryz.prog 32 [.d (.sl 1 (c.map aH)), .d (.sl 1 (e.map aH))] (.b r) := by
 unfold jB at h;refine Fn.of_tr Tryz.func32 rfl (rs := [.tmp 4]) Tryz.results32 Tryz.ntmps32 (Nat.le_of_ble_eq_true rfl) ?_;refine aE (aC (ta (.b false) (aD (aE (aE (aC (tm (.d (.sl 1 (c.map aH))) (to (sle rfl bS.of) (tm (.d (.sl 1 (e.map aH))) (to (sle rfl bS.of) (to (scm rfl rfl rfl) (aD ?_))))))))))));refine tih h (fun c1 h => ?_) (fun c1 h => ?_)
 ·refine aE (aC (ta (.b false) (aD ?_)));obtain rfl := sIn h;exact aV ⟨rfl, _, .one _, rfl, rfl⟩
 ·refine bB (aE (aE (aC (ta (.i 0) (aD (bL ?_))))));refine cH (S := Int) [0, 1] (fun s2 => [(5, .i s2)]) (fun s2 => []) (fun k s2 => jK c e k s2) (fun _ => rfl) (0) h (aR [] rfl rfl (aL rfl (aN ⟨rfl, rfl, trivial⟩))) ?_;rintro k3 a h;simp only [jK] at h;refine aE (aE (aC (tm (.i a) (tm (.d (.sl 1 (c.map aH))) (to (sle rfl bS.of) (to (scm rfl rfl rfl) (aD ?_)))))));refine tih h (fun c4 h => ?_) (fun c4 h => ?_)
  ·refine bB (aE (bL (aE ?_)));obtain ⟨x5, h6, h⟩ := bns h;obtain ⟨x7, h8, h⟩ := bns h;refine bV mix 8 [0, 1, 5] [(20, .i x5), (24, .i x7)] ?_ ?_
   ·refine ⟨[(17, 0, .d (.sl 1 (c.map aH))), (18, 1, .i a), (19, 2, .cp [.lit (.int .i64 x5)]), (20, 3, .i x5), (21, 4, .d (.sl 1 (e.map aH))), (22, 5, .i a), (23, 6, .cp [.lit (.int .i64 x7)]), (24, 7, .i x7)], ?_, ?_⟩
    · exact dok [([], []), ([], []), ([0, 1], []), ([2], []), ([], []), ([], []), ([4, 5], []), ([6], [])] ⟨go (zm (.d (.sl 1 (c.map aH)))),
      go (zm (.i a)),
      go (zix rfl rfl bS.of (bW aH h6)),
      go (zlc rfl aT),
      go (zm (.d (.sl 1 (e.map aH)))),
      go (zm (.i a)),
      go (zix rfl rfl bS.of (bW aH h8)),
      go (zlc rfl aT), trivial⟩
    · exact bP (aL rfl (aL rfl (aN ⟨rfl, rfl, rfl, trivial⟩)))
   ·refine to (scm rfl rfl rfl) (aD ?_);refine tih h (fun c9 h => ?_) (fun c9 h => ?_)
    ·refine aE (aC (ta (.b false) (aD ?_)));obtain rfl := sIn h;exact aV ⟨rfl, _, .one _, rfl, rfl⟩
    ·refine bY ?_;refine aC (tm (.i a) (to (sar rfl rfl rfl) (ta (.i (w64 (a + 1))) (aD ?_))));exact ⟨(w64 (a + 1)), h, aR [] rfl rfl (aL rfl (aN ⟨rfl, rfl, trivial⟩))⟩
  ·refine cB ?_;refine .inl ⟨rfl, ?_⟩;simp only [oQ] at h;refine aE (aC (ta (.b true) (aD ?_)));obtain rfl := sIn h;exact aV ⟨rfl, _, .one _, rfl, rfl⟩

theorem rR {r : Bool} (h : jD = some r) : Fn Tryz.prog 13 [] (.b r) := by
 unfold jD at h;refine Fn.of_tr Tryz.func13 rfl (rs := [.tmp 0]) Tryz.results13 Tryz.ntmps13 (Nat.le_of_ble_eq_true rfl) ?_;refine aE (aC (ta (.b false) (aD (aE (aC ?_)))));obtain ⟨r1, h2, h⟩ := bns h;refine to (dP (aK rfl) (.func _ _ Tryz.call31) rfl rfl (vR h2)) ?_;refine tm (.tup [.agg (aU r1.1), .d (.sl 5 (r1.2.map aG))]) (to (sex rfl rfl) (to (sex rfl rfl) ?_));refine bK rfl (eE (zs := [.lit (.int .i64 0), .lit (.int .i64 0), .lit (.int .i64 0), .lit (.int .i64 0), .lit (.int .i64 0)]) (aK rfl) Tryz.zeroValue23 rfl rfl) ?_;rintro _ ⟨b3, rfl⟩;refine to (sst 0 rfl rfl Tryz.sizeOf23 (aU r1.1)) (ta (.d (.sl 5 (r1.2.map aG))) (aD (aE (aC (to (sla 0 (aU r1.1) rfl rfl iM) (tm (.d (.sl 5 (r1.2.map aG))) ?_))))));obtain ⟨r4, h5, h⟩ := bns h;refine to (dP (aK rfl) (.func _ _ Tryz.call14) rfl rfl (wY _ _ _ h5)) ?_;refine tm (.tup [.agg (dR r4.1), .i r4.2]) (to (sex rfl rfl) (to (sex rfl rfl) ?_));refine bK rfl (eE (zs := [.sl 1 ((([] : List Int)).map aH), .sl 1 ((([] : List Int)).map aH), .sl 1 ((([] : List Int)).map aH), .lit (.int .i64 0)]) (aK rfl) Tryz.zeroValue34 rfl rfl) ?_;rintro _ ⟨b6, rfl⟩;refine to (sst 1 rfl rfl Tryz.sizeOf34 (dR r4.1)) (ta (.i r4.2) (aD (aE (aC (to (sla 0 (aU r1.1) rfl rfl iM) (tm (.d (.sl 5 (r1.2.map aG))) ?_))))));obtain ⟨r7, h8, h⟩ := bns h;refine to (scr Tryz.call18 (aDb _ _ _ _ h8)) (tm (.tup [.i r7.1, .i r7.2]) (to (sex rfl rfl) (to (sex rfl rfl) (ta (.i r7.1) (ta (.i r7.2) (aD (aE (aC (to (sla 0 (aU r1.1) rfl rfl iM) (tm (.d (.sl 5 (r1.2.map aG))) ?_))))))))));obtain ⟨r9, C, h⟩ := bns h;refine to (scr Tryz.call26 (aDx _ _ _ C)) (tm (.tup [.i r9.1, .i r9.2]) (to (sex rfl rfl) (to (sex rfl rfl) (ta (.i r9.1) (ta (.i r9.2) (aD (aE (aC (tm (.i r4.2) (to (scm rfl rfl rfl) (tm (.b (decide (r4.2 = 0))) ?_)))))))))));obtain ⟨v, q, h⟩ := bns h;refine bD 3 [3, 5, 7, 8] 36 v ?_ ?_
 ·refine bch q (fun g q => ?_) (fun g q => ?_)
  ·refine tk g (sm (.i r7.2)) (tk g (scm rfl rfl rfl) (to (spt (.b (decide (r7.2 = 0))) g) ?_));obtain rfl := sIn q;refine aD (aQ rfl ⟨rfl, rfl, rfl, rfl, trivial⟩ rfl)
  ·refine tp g (tp g (to (spf (.b false) g) ?_));obtain rfl := sIn q;refine aD (aQ rfl ⟨rfl, rfl, rfl, rfl, trivial⟩ rfl)
 ·refine tm (.b v) ?_;obtain ⟨w, s, h⟩ := bns h;refine bD 3 [3, 5, 7] 40 w ?_ ?_
  ·refine bch s (fun j s => ?_) (fun j s => ?_)
   ·refine tk j (sm (.i r9.2)) (tk j (scm rfl rfl rfl) (to (spt (.b (decide (r9.2 = 0))) j) ?_));obtain rfl := sIn s;refine aD (aQ rfl ⟨rfl, rfl, rfl, trivial⟩ rfl)
   ·refine tp j (tp j (to (spf (.b false) j) ?_));obtain rfl := sIn s;refine aD (aQ rfl ⟨rfl, rfl, rfl, trivial⟩ rfl)
  ·refine tm (.b w) ?_;obtain ⟨x, t, h⟩ := bns h;refine bD 3 [3, 7] 44 x ?_ ?_
   ·refine bch t (fun k t => ?_) (fun k t => ?_)
    ·refine tk k (sm (.i r7.1)) (tk k (scm rfl rfl rfl) (to (spt (.b (decide (r7.1 = 2))) k) ?_));obtain rfl := sIn t;refine aD (aQ rfl ⟨rfl, rfl, trivial⟩ rfl)
    ·refine tp k (tp k (to (spf (.b false) k) ?_));obtain rfl := sIn t;refine aD (aQ rfl ⟨rfl, rfl, trivial⟩ rfl)
   ·refine tm (.b x) ?_;obtain ⟨y, u, h⟩ := bns h;refine bD 3 [3] 48 y ?_ ?_
    ·refine bch u (fun m u => ?_) (fun m u => ?_)
     ·refine tk m (sm (.i r9.1)) (tk m (scm rfl rfl rfl) (to (spt (.b (decide (r9.1 = 15))) m) ?_));obtain rfl := sIn u;refine aD (aQ rfl ⟨rfl, trivial⟩ rfl)
     ·refine tp m (tp m (to (spf (.b false) m) ?_));obtain rfl := sIn u;refine aD (aQ rfl ⟨rfl, trivial⟩ rfl)
    ·refine tm (.b y) ?_;obtain ⟨z, n, h⟩ := bns h;refine bD 5 [3] 54 z ?_ ?_
     ·refine bch n (fun a n => ?_) (fun a n => ?_)
      ·refine tkl 1 a rfl rfl tG rfl dD (tk a (fS (aK rfl) bS rfl rfl (rows := ([9, 8, 5]).map aH) rfl (aW (f := aH) fun _ => rfl) rfl (by decide)) ?_);obtain ⟨E, F, n⟩ := bns n;refine tk a (scr Tryz.call32 (mC _ _ F)) (to (spt (.b E) a) ?_);obtain rfl := sIn n;refine aD (aQ rfl ⟨rfl, trivial⟩ rfl)
      ·refine tp a (tp a (tp a (tp a (to (spf (.b false) a) ?_))));obtain rfl := sIn n;refine aD (aQ rfl ⟨rfl, trivial⟩ rfl)
     ·refine tm (.b z) ?_;obtain ⟨A, o, h⟩ := bns h;refine bD 5 [3] 60 A ?_ ?_
      ·refine bch o (fun c o => ?_) (fun c o => ?_)
       ·refine tkl 1 c rfl rfl aKf rfl dD (tk c (fS (aK rfl) bS rfl rfl (rows := ([7]).map aH) rfl (aW (f := aH) fun _ => rfl) rfl (by decide)) ?_);obtain ⟨G, H, o⟩ := bns o;refine tk c (scr Tryz.call32 (mC _ _ H)) (to (spt (.b G) c) ?_);obtain rfl := sIn o;refine aD (aQ rfl ⟨rfl, trivial⟩ rfl)
       ·refine tp c (tp c (tp c (tp c (to (spf (.b false) c) ?_))));obtain rfl := sIn o;refine aD (aQ rfl ⟨rfl, trivial⟩ rfl)
      ·refine tm (.b A) ?_;obtain ⟨B, p, h⟩ := bns h;refine bD 5 [] 66 B ?_ ?_
       ·refine bch p (fun e p => ?_) (fun e p => ?_)
        ·refine tkl 1 e rfl rfl tH rfl dD (tk e (fS (aK rfl) bS rfl rfl (rows := ([6, 4]).map aH) rfl (aW (f := aH) fun _ => rfl) rfl (by decide)) ?_);obtain ⟨I, J, p⟩ := bns p;refine tk e (scr Tryz.call32 (mC _ _ J)) (to (spt (.b I) e) ?_);obtain rfl := sIn p;refine aD (aQ rfl trivial rfl)
        ·refine tp e (tp e (tp e (tp e (to (spf (.b false) e) ?_))));obtain rfl := sIn p;refine aD (aQ rfl trivial rfl)
       ·refine ta (.b B) (aD ?_);obtain rfl := sIn h;refine bM (bI (bJ (l := [0]) ⟨rfl, trivial⟩)) ?_;exact aV ⟨rfl, _, .one _, rfl, rfl⟩

theorem mM (w : aS) (x : List aJ) (m : Int) (f : Int) {r : Bool × Bool × Int} (h : dX w x m f = some r) : Fn Tryz.prog 16 [.agg (aU w), .d (.sl 5 (x.map aG)), .i m, .i f] (.tup [.b r.1, .b r.2.1, .i r.2.2]) := by
 unfold dX at h;refine Fn.of_tr Tryz.func16 rfl (rs := [.tmp 8, .tmp 9, .tmp 10]) Tryz.results16 Tryz.ntmps16 (Nat.le_of_ble_eq_true rfl) ?_;refine aE (aC ?_);refine bK rfl (iH (v := .agg (aU w)) (aK rfl) rfl rfl rfl) ?_;rintro _ ⟨b1, rfl⟩;refine ta (.b false) (ta (.b false) (ta (.i 0) (aD (aE (aC (to (rE (aK rfl) aJo (zs := [.lit (.int .i64 0), .lit (.int .i64 0), .lit (.int .i64 0), .lit (.int .i64 0), .lit (.int .i64 0)]) rfl rfl rfl rfl (es := [.lit (.int .i64 0), .lit (.int .i64 10000), .lit (.int .i64 0), .lit (.int .i64 0), .lit (.int .i64 0)]) rfl) ?_))))));refine bK rfl (eE (zs := [.lit (.int .i64 0), .lit (.int .i64 0), .lit (.int .i64 0), .lit (.int .i64 0), .lit (.int .i64 0)]) (aK rfl) Tryz.zeroValue32 rfl rfl) ?_;rintro _ ⟨b2, rfl⟩;refine to (sst 1 rfl rfl Tryz.sizeOf32 (aG (aJ.mk 0 10000 0 0 0))) (aD (aE (aE (aC (ta (.i 0) (aD (bL ?_)))))));refine cH (S := Int × aJ) [1, 2, 3, 4, 11] (fun s3 => [(12, .i s3.1)]) (fun s3 => [.box b1 0 (aU w), .box b2 0 (aG s3.2)]) (fun k s3 => cM x m f w k s3.1 s3.2) (fun _ => rfl) (0, (aJ.mk 0 10000 0 0 0)) h (aR [0, 1] rfl rfl (aL rfl (aN ⟨rfl, rfl, rfl, rfl, rfl, trivial⟩))) ?_;rintro k4 ⟨g, a⟩ h;simp only [cM] at h;refine aE (aE (aC (tm (.i g) (tm (.d (.sl 5 (x.map aG))) (to (sle rfl cW.of) (to (scm rfl rfl rfl) (aD ?_)))))));refine tih h (fun c5 h => ?_) (fun c5 h => ?_)
 ·refine bB (aE (bL (aE (aC (tm (.d (.sl 5 (x.map aG))) (tm (.i g) ?_))))));obtain ⟨x6, h7, h⟩ := bns h;refine to (six rfl rfl cW.of (bW aG h7)) (to (aBv (aG x6) rfl gI) ?_);refine bK rfl (eE (zs := [.lit (.int .i64 0), .lit (.int .i64 0), .lit (.int .i64 0), .lit (.int .i64 0), .lit (.int .i64 0)]) (aK rfl) Tryz.zeroValue32 rfl rfl) ?_;rintro _ ⟨b8, rfl⟩;refine to (sst 2 rfl rfl Tryz.sizeOf32 (aG x6)) (aD (aE (aC (tfl 2 rfl rfl dC rfl aT (tm (.i f) (to (scm rfl rfl rfl) (tm (.b (decide (x6.Player = f))) ?_)))))));obtain ⟨b9, s, h⟩ := bns h;refine bD 9 [1, 2, 3, 4, 11, 12, 13] 38 b9 ?_ ?_
  ·refine bch s (fun j s => ?_) (fun j s => ?_)
   ·refine tkl 2 j rfl rfl lA rfl aT (tk j (scm rfl rfl rfl) (tk j (sm (.b (decide (x6.Kind = 1)))) ?_));obtain ⟨C, y, s⟩ := bns s;refine bD 4 [1, 2, 3, 4, 11, 12, 13, 29, 30, 31, 32, 33] 37 C ?_ ?_
    ·refine bch y (fun q y => ?_) (fun q y => ?_)
     ·refine tp q (tp q (tp q (tk j (spt (.b true) q) ?_)));obtain rfl := sIn y;refine aD (aQ rfl ⟨rfl, rfl, rfl, rfl, rfl, rfl, rfl, rfl, rfl, rfl, rfl, rfl, trivial⟩ rfl)
     ·refine tkl 2 q rfl rfl lA rfl aT (tk q (scm rfl rfl rfl) (tk j (spf (.b (decide (x6.Kind = 2))) q) ?_));obtain rfl := sIn y;refine aD (aQ rfl ⟨rfl, rfl, rfl, rfl, rfl, rfl, rfl, rfl, rfl, rfl, rfl, rfl, trivial⟩ rfl)
    ·refine to (spt (.b C) j) ?_;obtain rfl := sIn s;refine aD (aQ rfl ⟨rfl, rfl, rfl, rfl, rfl, rfl, rfl, trivial⟩ rfl)
   ·refine tp j (tp j (tp j (tp j (tq (tq (tq (tp j (to (spf (.b false) j) ?_))))))));obtain rfl := sIn s;refine aD (aQ rfl ⟨rfl, rfl, rfl, rfl, rfl, rfl, rfl, trivial⟩ rfl)
  ·refine tm (.b b9) ?_;obtain ⟨E, z, h⟩ := bns h;refine bD 5 [1, 2, 3, 4, 11, 12, 13] 44 E ?_ ?_
   ·refine bch z (fun p z => ?_) (fun p z => ?_)
    ·refine tkl 2 p rfl rfl cP rfl aT (tk p (sm (.i m)) (tk p (scm rfl rfl rfl) (to (spt (.b (decide (x6.Hour ≤ m))) p) ?_)));obtain rfl := sIn z;refine aD (aQ rfl ⟨rfl, rfl, rfl, rfl, rfl, rfl, rfl, trivial⟩ rfl)
    ·refine tp p (tp p (tp p (tp p (to (spf (.b false) p) ?_))));obtain rfl := sIn z;refine aD (aQ rfl ⟨rfl, rfl, rfl, rfl, rfl, rfl, rfl, trivial⟩ rfl)
   ·refine tm (.b E) ?_;obtain ⟨F, A, h⟩ := bns h;refine bD 6 [1, 2, 3, 4, 11, 12, 13] 51 F ?_ ?_
    ·refine bch A (fun n A => ?_) (fun n A => ?_)
     ·refine tkl 2 n rfl rfl cP rfl aT (tkl 0 n rfl rfl pK rfl aT (tk n (scm rfl rfl rfl) (to (spt (.b (decide (x6.Hour ≤ w.Close))) n) ?_)));obtain rfl := sIn A;refine aD (aQ rfl ⟨rfl, rfl, rfl, rfl, rfl, rfl, rfl, trivial⟩ rfl)
     ·refine tp n (tp n (tp n (tp n (tp n (to (spf (.b false) n) ?_)))));obtain rfl := sIn A;refine aD (aQ rfl ⟨rfl, rfl, rfl, rfl, rfl, rfl, rfl, trivial⟩ rfl)
    ·refine tm (.b F) ?_;obtain ⟨I, t, h⟩ := bns h;refine bD 20 [1, 2, 3, 4, 11, 12, 13] 72 I ?_ ?_
     ·refine bch t (fun c t => ?_) (fun c t => ?_)
      ·refine tkl 2 c rfl rfl cP rfl aT (tkl 1 c rfl rfl cP rfl aT (tk c (scm rfl rfl rfl) (tk c (sm (.b (decide (x6.Hour < a.Hour)))) ?_)));obtain ⟨G, u, t⟩ := bns t;refine bD 13 [1, 2, 3, 4, 11, 12, 13, 52, 53, 54, 55, 56, 57, 58] 71 G ?_ ?_
       ·refine bch u (fun e u => ?_) (fun e u => ?_)
        ·refine tp e (tp e (tp e (tp e (tp e (tp e (tq (tq (tq (tq (tq (tp e (tk c (spt (.b true) e) ?_))))))))))));obtain rfl := sIn u;refine aD (aQ rfl ⟨rfl, rfl, rfl, rfl, rfl, rfl, rfl, rfl, rfl, rfl, rfl, rfl, rfl, rfl, trivial⟩ rfl)
        ·refine tkl 2 e rfl rfl cP rfl aT (tkl 1 e rfl rfl cP rfl aT (tk e (scm rfl rfl rfl) (tk e (sm (.b (decide (x6.Hour = a.Hour)))) ?_)));obtain ⟨H, B, u⟩ := bns u;refine bD 6 [1, 2, 3, 4, 11, 12, 13, 52, 53, 54, 55, 56, 57, 58, 59, 60, 61, 62, 63, 64] 70 H ?_ ?_
         ·refine bch B (fun o B => ?_) (fun o B => ?_)
          ·refine tkl 2 o rfl rfl gY rfl aT (tkl 1 o rfl rfl gY rfl aT (tk o (scm rfl rfl rfl) (tk e (spt (.b (decide (x6.Id < a.Id))) o) ?_)));obtain rfl := sIn B;refine aD (aQ rfl ⟨rfl, rfl, rfl, rfl, rfl, rfl, rfl, rfl, rfl, rfl, rfl, rfl, rfl, rfl, rfl, rfl, rfl, rfl, rfl, rfl, trivial⟩ rfl)
          ·refine tp o (tp o (tp o (tp o (tp o (tk e (spf (.b false) o) ?_)))));obtain rfl := sIn B;refine aD (aQ rfl ⟨rfl, rfl, rfl, rfl, rfl, rfl, rfl, rfl, rfl, rfl, rfl, rfl, rfl, rfl, rfl, rfl, rfl, rfl, rfl, rfl, trivial⟩ rfl)
         ·refine tk c (spf (.b H) e) ?_;obtain rfl := sIn u;refine aD (aQ rfl ⟨rfl, rfl, rfl, rfl, rfl, rfl, rfl, rfl, rfl, rfl, rfl, rfl, rfl, rfl, trivial⟩ rfl)
       ·refine to (spt (.b G) c) ?_;obtain rfl := sIn t;refine aD (aQ rfl ⟨rfl, rfl, rfl, rfl, rfl, rfl, rfl, trivial⟩ rfl)
      ·refine tp c (tp c (tp c (tp c (tp c (tp c (tq (tq (tq (tq (tq (tq (tq (tq ?_)))))))))))));refine tq (tq (tq (tq (tp c (to (spf (.b false) c) ?_)))));obtain rfl := sIn t;refine aD (aQ rfl ⟨rfl, rfl, rfl, rfl, rfl, rfl, rfl, trivial⟩ rfl)
     ·refine aD ?_;refine tih h (fun J h => ?_) (fun J h => ?_)
      ·refine aC (to (sla 2 (aG x6) rfl rfl gI) (to (sst 1 rfl rfl Tryz.sizeOf32 (aG x6)) ?_));refine cR ?_;refine aC (tm (.i g) (to (sar rfl rfl rfl) (ta (.i (w64 (g + 1))) (aD ?_))));exact ⟨(w64 (g + 1), x6), h, aR [0, 1] rfl rfl (aL rfl (aN ⟨rfl, rfl, rfl, rfl, rfl, trivial⟩))⟩
      ·refine bY ?_;refine aC (tm (.i g) (to (sar rfl rfl rfl) (ta (.i (w64 (g + 1))) (aD ?_))));exact ⟨(w64 (g + 1), a), h, aR [0, 1] rfl rfl (aL rfl (aN ⟨rfl, rfl, rfl, rfl, rfl, trivial⟩))⟩
 ·refine cB ?_;refine .inl ⟨rfl, ?_⟩;simp only [mB] at h;refine aE ?_;refine bV mix 10 [] [(8, .b (decide (a.Hour ≤ 9999))), (9, .b (decide (a.Kind = 2))), (81, .i a.Rank)] ?_ ?_
  ·refine ⟨[(74, 0, .bp b2 0 1), (75, 1, .i a.Hour), (76, 2, .b (decide (a.Hour ≤ 9999))), (77, 3, .bp b2 0 2), (78, 4, .i a.Kind), (79, 5, .b (decide (a.Kind = 2))), (80, 6, .bp b2 0 4), (81, 7, .i a.Rank), (8, 8, .b (decide (a.Hour ≤ 9999))), (9, 9, .b (decide (a.Kind = 2)))], ?_, ?_⟩
   · exact dok [([], []), ([0], []), ([1], []), ([], []), ([3], []), ([4], []), ([], []), ([6], []), ([2], []), ([5], [])] ⟨go (zf rfl cP),
      go (zl 1 rfl rfl rfl aT),
      go (zcm rfl rfl rfl),
      go (zf rfl lA),
      go (zl 1 rfl rfl rfl aT),
      go (zcm rfl rfl rfl),
      go (zf rfl jG),
      go (zl 1 rfl rfl rfl aT),
      go (za (.b (decide (a.Hour ≤ 9999)))),
      go (za (.b (decide (a.Kind = 2)))), trivial⟩
   · exact bP (aL rfl (aL rfl (aL rfl (aN trivial))))
  ·refine ta (.i a.Rank) (aD ?_);obtain rfl := sIn h;refine bM (bI (bJ (l := [8, 9, 10]) ⟨rfl, rfl, rfl, trivial⟩)) ?_;exact aV ⟨rfl, _, .three _ _ _, rfl, rfl⟩

theorem tZ (q : aS) (j : List aJ) (c : Int) {r : Bool} (h : jX q j c = some r) : Fn Tryz.prog 4 [.agg (aU q), .d (.sl 5 (j.map aG)), .i c] (.b r) := by
 unfold jX at h;refine Fn.of_tr Tryz.func4 rfl (rs := [.tmp 6]) Tryz.results4 Tryz.ntmps4 (Nat.le_of_ble_eq_true rfl) ?_;refine aE (aC ?_);refine bK rfl (iH (v := .agg (aU q)) (aK rfl) rfl rfl rfl) ?_;rintro _ ⟨b1, rfl⟩;refine ta (.b false) (aD (aE (aE (aC (to (sla 0 (aU q) rfl rfl iM) (tm (.d (.sl 5 (j.map aG))) ?_))))));obtain ⟨r2, h3, h⟩ := bns h;refine to (scr Tryz.call11 (wV _ _ h3)) (to (sn rfl) (tm (.b (!r2)) ?_));obtain ⟨b4, h5, h⟩ := bns h;refine bD 4 [1, 2, 3] 35 b4 ?_ ?_
 ·refine bch h5 (fun P h5 => ?_) (fun P h5 => ?_)
  ·refine tp P (tp P (tp P (to (spt (.b true) P) ?_)));obtain rfl := sIn h5;refine aD (aQ rfl ⟨rfl, rfl, rfl, trivial⟩ rfl)
  ·refine tk P (sm (.i c)) ?_;obtain ⟨d1, d0, h5⟩ := bns h5;refine tk P (scr Tryz.call12 (wM _ d0)) (tk P (sn rfl) (to (spf (.b (!d1)) P) ?_));obtain rfl := sIn h5;refine aD (aQ rfl ⟨rfl, rfl, rfl, trivial⟩ rfl)
 ·refine aD ?_;refine tih h (fun c6 h => ?_) (fun c6 h => ?_)
  ·refine aE (aC ?_);obtain ⟨r7, h8, h⟩ := bns h;refine to (scr Tryz.call13 (rR h8)) (ta (.b r7) (aD ?_));obtain rfl := sIn h;refine bM (bI (bJ (l := [6]) ⟨rfl, trivial⟩)) ?_;exact aV ⟨rfl, _, .one _, rfl, rfl⟩
  ·refine bB (aE (aC (to (sla 0 (aU q) rfl rfl iM) (tm (.d (.sl 5 (j.map aG))) (tm (.i c) ?_)))));obtain ⟨r9, d2, h⟩ := bns h;refine to (dP (aK rfl) (.func _ _ Tryz.call14) rfl rfl (wY _ _ _ d2)) ?_;refine tm (.tup [.agg (dR r9.1), .i r9.2]) (to (sex rfl rfl) (to (sex rfl rfl) ?_));refine bK rfl (eE (zs := [.sl 1 ((([] : List Int)).map aH), .sl 1 ((([] : List Int)).map aH), .sl 1 ((([] : List Int)).map aH), .lit (.int .i64 0)]) (aK rfl) Tryz.zeroValue34 rfl rfl) ?_;rintro _ ⟨L, rfl⟩;refine to (sst 1 rfl rfl Tryz.sizeOf34 (dR r9.1)) (ta (.i r9.2) (aD (aE (aE (aC (tm (.i r9.2) (to (scm rfl rfl rfl) (aD ?_))))))));refine tih h (fun d3 h => ?_) (fun d3 h => ?_)
   ·refine aE (aC (ta (.b false) (aD ?_)));obtain rfl := sIn h;refine bM (bI (bJ (l := [6]) ⟨rfl, trivial⟩)) ?_;exact aV ⟨rfl, _, .one _, rfl, rfl⟩
   ·refine bB (aE (aC (ta (.i 0) (aD (aE (aE (aC (ta (.i 0) (aD (bL ?_))))))))));refine cH (S := Int × Int) [1, 2, 3, 7] (fun a0 => [(9, .i a0.1), (10, .i a0.2)]) (fun a0 => [.box b1 0 (aU q), .box L 0 (dR r9.1)]) (fun k a0 => cT j c q r9.1 k a0.1 a0.2) (fun _ => rfl) (0, 0) h (aR [0, 1] rfl rfl (aL rfl (aL rfl (aN ⟨rfl, rfl, rfl, rfl, trivial⟩)))) ?_;rintro f8 ⟨f, B⟩ h;simp only [cT] at h;refine aE (aE (aC (tm (.i B) (tfl 1 rfl rfl tG rfl dD (to (sle rfl bS.of) (to (scm rfl rfl rfl) (aD ?_)))))));refine tih h (fun d4 h => ?_) (fun d4 h => ?_)
    ·refine bB (aE (bL (aE ?_)));obtain ⟨b8, d5, h⟩ := bns h;obtain ⟨A, d6, h⟩ := bns h;refine bV mix 15 [1, 2, 3, 7, 9, 10] [(12, .b A.2.1), (65, .i A.2.2)] ?_ ?_
     ·refine ⟨[(54, 0, .agg (aU q)), (55, 1, .d (.sl 5 (j.map aG))), (56, 2, .i c), (57, 3, .bp L 0 0), (58, 4, .d (.sl 1 (r9.1.Main.map aH))), (59, 5, .i B), (60, 6, .cp [.lit (.int .i64 b8)]), (61, 7, .i b8), (62, 8, .tup [.b A.1, .b A.2.1, .i A.2.2]), (53, 9, .tup [.b A.1, .b A.2.1, .i A.2.2]), (63, 10, .b A.1), (64, 11, .b A.2.1), (65, 12, .i A.2.2), (11, 13, .b A.1), (12, 14, .b A.2.1)], ?_, ?_⟩
      · exact dok [([], []), ([], []), ([], []), ([], []), ([3], []), ([], []), ([4, 5], []), ([6], []), ([0, 1, 2, 7], []), ([8], []), ([9], []), ([9], []), ([9], []), ([10], []), ([11], [])] ⟨go (zla 0 (aU q) rfl rfl iM),
      go (zm (.d (.sl 5 (j.map aG)))),
      go (zm (.i c)),
      go (zf rfl tG),
      go (zl 1 rfl rfl rfl dD),
      go (zm (.i B)),
      go (zix rfl rfl bS.of (bW aH d5)),
      go (zlc rfl aT),
      go fun S hS => iL (aK rfl) (.func _ _ Tryz.call16) (ev2 (aM hS rfl) (ev2 (aM hS rfl) (ev2 (aM hS rfl) (ev2 (aM hS rfl) evn)))) rfl (BVs.refl _ _) (mM _ _ _ _ d6) rfl,
      go (zm (.tup [.b A.1, .b A.2.1, .i A.2.2])),
      go (zex rfl rfl),
      go (zex rfl rfl),
      go (zex rfl rfl),
      go (za (.b A.1)),
      go (za (.b A.2.1)), trivial⟩
      · exact bP (aL rfl (aL rfl (aN ⟨rfl, rfl, rfl, rfl, rfl, rfl, trivial⟩)))
     ·refine ta (.i A.2.2) (aD (aE (aC (tm (.b A.2.1) (aD ?_)))));refine tih h (fun d7 h => ?_) (fun d7 h => ?_)
      ·refine aC (tm (.i f) (to (sar rfl rfl rfl) (ta (.i (w64 (f + 1))) ?_)));refine cR ?_;refine aC (tm (.i B) (to (sar rfl rfl rfl) (ta (.i (w64 (B + 1))) (aD ?_))));exact ⟨(w64 (f + 1), w64 (B + 1)), h, aR [0, 1] rfl rfl (aL rfl (aL rfl (aN ⟨rfl, rfl, rfl, rfl, trivial⟩)))⟩
      ·refine bY ?_;refine aC (tm (.i B) (to (sar rfl rfl rfl) (ta (.i (w64 (B + 1))) (aD ?_))));exact ⟨(f, w64 (B + 1)), h, aR [0, 1] rfl rfl (aL rfl (aL rfl (aN ⟨rfl, rfl, rfl, rfl, trivial⟩)))⟩
    ·refine cB ?_;refine .inl ⟨rfl, ?_⟩;simp only [gJ] at h;refine aE (aC (ta (.b false) (aD (aE (aE (aC (ta (.i 0) (aD (bL ?_)))))))));refine cH (S := Bool × Int) [1, 2, 3, 7, 9] (fun a1 => [(14, .b a1.1), (15, .i a1.2)]) (fun a1 => [.box b1 0 (aU q), .box L 0 (dR r9.1)]) (fun k a1 => dU j c f q r9.1 k a1.1 a1.2) (fun _ => rfl) (false, 0) h (aR [0, 1] rfl rfl (aL rfl (aL rfl (aN ⟨rfl, rfl, rfl, rfl, rfl, trivial⟩)))) ?_;rintro f9 ⟨e, z⟩ h;simp only [dU] at h;refine aE (aE (aC (tm (.i z) (tm (.d (.sl 5 (j.map aG))) (to (sle rfl cW.of) (to (scm rfl rfl rfl) (aD ?_)))))));refine tih h (fun d8 h => ?_) (fun d8 h => ?_)
     ·refine bB (aE (bL ?_));obtain ⟨b5, M, h⟩ := bns h;refine bV mix 20 [1, 2, 3, 7, 9, 15] [(94, .b b5)] ?_ ?_
      ·refine bch M (fun n M => ?_) (fun n M => ?_)
       ·obtain rfl := sIn M;refine ⟨[(75, 0, .b e), (76, 1, .b e), (77, 2, .tup []), (78, 3, .tup []), (79, 4, .tup []), (80, 5, .tup []), (81, 6, .tup []), (82, 7, .tup []), (83, 8, .tup []), (84, 9, .tup []), (85, 10, .tup []), (86, 11, .tup []), (87, 12, .tup []), (88, 13, .tup []), (89, 14, .tup []), (90, 15, .tup []), (91, 16, .tup []), (92, 17, .tup []), (93, 18, .tup []), (94, 19, .b true)], ?_, ?_⟩
        · exact dok [([], []), ([0], []), ([1], []), ([1], []), ([1, 2, 3], []), ([1, 4], []), ([1, 5], []), ([1], []), ([1, 7], []), ([1, 6, 8], []), ([1, 9], []), ([10], []), ([10], []), ([10, 11, 12], []), ([10, 13], []), ([10, 14], []), ([10], []), ([10, 15, 16], []), ([1, 10, 17], []), ([1, 18], [])] ⟨go (zm (.b e)),
      go (zm (.b e)),
      gp n,
      gp n,
      gp n,
      gp n,
      gp n,
      gp n,
      gp n,
      gp n,
      gp n,
      gq,
      gq,
      gq,
      gq,
      gq,
      gq,
      gq,
      gp n,
      go (zpt (.b true) n), trivial⟩
        · exact bP (aL rfl (aN ⟨rfl, rfl, rfl, rfl, rfl, rfl, trivial⟩))
       ·obtain ⟨x, b9, M⟩ := bns M;obtain ⟨g0, V, M⟩ := bns M;refine bch V (fun C V => ?_) (fun C V => ?_)
        ·obtain ⟨G, d9, V⟩ := bns V;obtain rfl := sIn V;obtain rfl := sIn M;refine ⟨[(75, 0, .b e), (76, 1, .b e), (77, 2, .d (.sl 5 (j.map aG))), (78, 3, .i z), (79, 4, .cp [.lit (.int .i64 x.Id), .lit (.int .i64 x.Hour), .lit (.int .i64 x.Kind), .lit (.int .i64 x.Player), .lit (.int .i64 x.Rank)]), (80, 5, .cp [.lit (.int .i64 x.Hour)]), (81, 6, .i x.Hour), (82, 7, .bp b1 0 4), (83, 8, .i q.Freeze), (84, 9, .b (decide (q.Freeze < x.Hour))), (85, 10, .b (decide (q.Freeze < x.Hour))), (86, 11, .d (.sl 5 (j.map aG))), (87, 12, .i z), (88, 13, .cp [.lit (.int .i64 G.Id), .lit (.int .i64 G.Hour), .lit (.int .i64 G.Kind), .lit (.int .i64 G.Player), .lit (.int .i64 G.Rank)]), (89, 14, .cp [.lit (.int .i64 G.Hour)]), (90, 15, .i G.Hour), (91, 16, .i c), (92, 17, .b (decide (G.Hour ≤ c))), (93, 18, .b (decide (G.Hour ≤ c))), (94, 19, .b (decide (G.Hour ≤ c)))], ?_, ?_⟩
         · exact dok [([], []), ([0], []), ([1], []), ([1], []), ([1, 2, 3], []), ([1, 4], []), ([1, 5], []), ([1], []), ([1, 7], []), ([1, 6, 8], []), ([1, 9], []), ([10], []), ([10], []), ([10, 11, 12], []), ([10, 13], []), ([10, 14], []), ([10], []), ([10, 15, 16], []), ([1, 10, 17], []), ([1, 18], [])] ⟨go (zm (.b e)),
      go (zm (.b e)),
      gt n (zm (.d (.sl 5 (j.map aG)))),
      gt n (zm (.i z)),
      gt n (zix rfl rfl cW.of (bW aG b9)),
      gt n (zfc [.lit (.int .i64 x.Hour)] rfl cP),
      gt n (zlc rfl aT),
      gt n (zf rfl gC),
      gt n (zl 0 rfl rfl rfl aT),
      gt n (zcm rfl rfl rfl),
      gt n (zm (.b (decide (q.Freeze < x.Hour)))),
      gt C (zm (.d (.sl 5 (j.map aG)))),
      gt C (zm (.i z)),
      gt C (zix rfl rfl cW.of (bW aG d9)),
      gt C (zfc [.lit (.int .i64 G.Hour)] rfl cP),
      gt C (zlc rfl aT),
      gt C (zm (.i c)),
      gt C (zcm rfl rfl rfl),
      gt n (zpt (.b (decide (G.Hour ≤ c))) C),
      go (zpf (.b (decide (G.Hour ≤ c))) n), trivial⟩
         · exact bP (aL rfl (aN ⟨rfl, rfl, rfl, rfl, rfl, rfl, trivial⟩))
        ·obtain rfl := sIn V;obtain rfl := sIn M;refine ⟨[(75, 0, .b e), (76, 1, .b e), (77, 2, .d (.sl 5 (j.map aG))), (78, 3, .i z), (79, 4, .cp [.lit (.int .i64 x.Id), .lit (.int .i64 x.Hour), .lit (.int .i64 x.Kind), .lit (.int .i64 x.Player), .lit (.int .i64 x.Rank)]), (80, 5, .cp [.lit (.int .i64 x.Hour)]), (81, 6, .i x.Hour), (82, 7, .bp b1 0 4), (83, 8, .i q.Freeze), (84, 9, .b (decide (q.Freeze < x.Hour))), (85, 10, .b (decide (q.Freeze < x.Hour))), (86, 11, .tup []), (87, 12, .tup []), (88, 13, .tup []), (89, 14, .tup []), (90, 15, .tup []), (91, 16, .tup []), (92, 17, .tup []), (93, 18, .b false), (94, 19, .b (false))], ?_, ?_⟩
         · exact dok [([], []), ([0], []), ([1], []), ([1], []), ([1, 2, 3], []), ([1, 4], []), ([1, 5], []), ([1], []), ([1, 7], []), ([1, 6, 8], []), ([1, 9], []), ([10], []), ([10], []), ([10, 11, 12], []), ([10, 13], []), ([10, 14], []), ([10], []), ([10, 15, 16], []), ([1, 10, 17], []), ([1, 18], [])] ⟨go (zm (.b e)),
      go (zm (.b e)),
      gt n (zm (.d (.sl 5 (j.map aG)))),
      gt n (zm (.i z)),
      gt n (zix rfl rfl cW.of (bW aG b9)),
      gt n (zfc [.lit (.int .i64 x.Hour)] rfl cP),
      gt n (zlc rfl aT),
      gt n (zf rfl gC),
      gt n (zl 0 rfl rfl rfl aT),
      gt n (zcm rfl rfl rfl),
      gt n (zm (.b (decide (q.Freeze < x.Hour)))),
      gp C,
      gp C,
      gp C,
      gp C,
      gp C,
      gp C,
      gp C,
      gt n (zpf (.b false) C),
      go (zpf (.b (false)) n), trivial⟩
         · exact bP (aL rfl (aN ⟨rfl, rfl, rfl, rfl, rfl, rfl, trivial⟩))
      ·refine ta (.b b5) ?_;refine cR ?_;refine aC (tm (.i z) (to (sar rfl rfl rfl) (ta (.i (w64 (z + 1))) (aD ?_))));exact ⟨(b5, w64 (z + 1)), h, aR [0, 1] rfl rfl (aL rfl (aL rfl (aN ⟨rfl, rfl, rfl, rfl, rfl, trivial⟩)))⟩
     ·refine cB ?_;refine .inl ⟨rfl, ?_⟩;simp only [gK] at h;refine aE (aE (aC (ta (.i 0) (aD (bL ?_)))));refine cH (S := Int) [1, 2, 3, 7, 9, 14] (fun b2 => [(16, .i b2)]) (fun b2 => [.box b1 0 (aU q), .box L 0 (dR r9.1)]) (fun k b2 => cN j c f e q r9.1 k b2) (fun _ => rfl) (0) h (aR [0, 1] rfl rfl (aL rfl (aN ⟨rfl, rfl, rfl, rfl, rfl, rfl, trivial⟩))) ?_;rintro c0 s h;simp only [cN] at h;refine aE (aE (aC (tm (.i s) (tfl 1 rfl rfl tH rfl dD (to (sle rfl bS.of) (to (scm rfl rfl rfl) (aD ?_)))))));refine tih h (fun e0 h => ?_) (fun e0 h => ?_)
      ·refine bB (aE (bL (aE ?_)));obtain ⟨c1, e1, h⟩ := bns h;obtain ⟨t, e2, h⟩ := bns h;refine bV mix 15 [1, 2, 3, 7, 9, 14, 16] [(18, .b t.2.1), (114, .i t.2.2)] ?_ ?_
       ·refine ⟨[(103, 0, .agg (aU q)), (104, 1, .d (.sl 5 (j.map aG))), (105, 2, .i c), (106, 3, .bp L 0 2), (107, 4, .d (.sl 1 (r9.1.Out.map aH))), (108, 5, .i s), (109, 6, .cp [.lit (.int .i64 c1)]), (110, 7, .i c1), (111, 8, .tup [.b t.1, .b t.2.1, .i t.2.2]), (102, 9, .tup [.b t.1, .b t.2.1, .i t.2.2]), (112, 10, .b t.1), (113, 11, .b t.2.1), (114, 12, .i t.2.2), (17, 13, .b t.1), (18, 14, .b t.2.1)], ?_, ?_⟩
        · exact dok [([], []), ([], []), ([], []), ([], []), ([3], []), ([], []), ([4, 5], []), ([6], []), ([0, 1, 2, 7], []), ([8], []), ([9], []), ([9], []), ([9], []), ([10], []), ([11], [])] ⟨go (zla 0 (aU q) rfl rfl iM),
      go (zm (.d (.sl 5 (j.map aG)))),
      go (zm (.i c)),
      go (zf rfl tH),
      go (zl 1 rfl rfl rfl dD),
      go (zm (.i s)),
      go (zix rfl rfl bS.of (bW aH e1)),
      go (zlc rfl aT),
      go fun S hS => iL (aK rfl) (.func _ _ Tryz.call16) (ev2 (aM hS rfl) (ev2 (aM hS rfl) (ev2 (aM hS rfl) (ev2 (aM hS rfl) evn)))) rfl (BVs.refl _ _) (mM _ _ _ _ e2) rfl,
      go (zm (.tup [.b t.1, .b t.2.1, .i t.2.2])),
      go (zex rfl rfl),
      go (zex rfl rfl),
      go (zex rfl rfl),
      go (za (.b t.1)),
      go (za (.b t.2.1)), trivial⟩
        · exact bP (aL rfl (aL rfl (aN ⟨rfl, rfl, rfl, rfl, rfl, rfl, rfl, trivial⟩)))
       ·refine ta (.i t.2.2) (aD (aE (aC (tm (.b t.2.1) (tm (.b t.2.1) ?_)))));obtain ⟨N, a3, h⟩ := bns h;refine bD 5 [1, 2, 3, 7, 9, 14, 16, 19] 121 N ?_ ?_
        ·refine bch a3 (fun O a3 => ?_) (fun O a3 => ?_)
         ·refine tk O (sm (.i f)) (tkl 0 O rfl rfl lV rfl aT (tk O (scm rfl rfl rfl) (to (spt (.b (decide (q.Guards ≤ f))) O) ?_)));obtain rfl := sIn a3;refine aD (aQ rfl ⟨rfl, rfl, rfl, rfl, rfl, rfl, rfl, rfl, trivial⟩ rfl)
         ·refine tp O (tp O (tp O (tp O (to (spf (.b false) O) ?_))));obtain rfl := sIn a3;refine aD (aQ rfl ⟨rfl, rfl, rfl, rfl, rfl, rfl, rfl, rfl, trivial⟩ rfl)
        ·refine ta (.b N) (aD (aE (aC (ta (.b false) (aD (aE (aE (aC (ta (.i 0) (aD (bL ?_)))))))))));refine cH (S := Bool × Int) [1, 2, 3, 7, 9, 14, 16, 19, 20] (fun a2 => [(21, .b a2.1), (22, .i a2.2)]) (fun a2 => [.box b1 0 (aU q), .box L 0 (dR r9.1)]) (fun k a2 => dV (cN j c f e q r9.1 c0) j c f e s t.2.2 N q r9.1 k a2.1 a2.2) (fun _ => rfl) (false, 0) h (aR [0, 1] rfl rfl (aL rfl (aL rfl (aN ⟨rfl, rfl, rfl, rfl, rfl, rfl, rfl, rfl, rfl, trivial⟩)))) ?_;rintro g1 ⟨a, o⟩ h;simp only [dV] at h;refine aE (aE (aC (tm (.i o) (tm (.d (.sl 5 (j.map aG))) (to (sle rfl cW.of) (to (scm rfl rfl rfl) (aD ?_)))))));refine tih h (fun e3 h => ?_) (fun e3 h => ?_)
         ·refine bB (aE (bL ?_));obtain ⟨b6, E, h⟩ := bns h;refine bV mix 31 [1, 2, 3, 7, 9, 14, 16, 19, 20, 22] [(158, .b b6)] ?_ ?_
          ·refine bch E (fun g E => ?_) (fun g E => ?_)
           ·obtain rfl := sIn E;refine ⟨[(128, 0, .b a), (129, 1, .b a), (130, 2, .tup []), (131, 3, .tup []), (132, 4, .tup []), (133, 5, .tup []), (134, 6, .tup []), (135, 7, .tup []), (136, 8, .tup []), (137, 9, .tup []), (138, 10, .tup []), (139, 11, .tup []), (140, 12, .tup []), (141, 13, .tup []), (142, 14, .tup []), (143, 15, .tup []), (144, 16, .tup []), (145, 17, .tup []), (146, 18, .tup []), (147, 19, .tup []), (148, 20, .tup []), (149, 21, .tup []), (150, 22, .tup []), (151, 23, .tup []), (152, 24, .tup []), (153, 25, .tup []), (154, 26, .tup []), (155, 27, .tup []), (156, 28, .tup []), (157, 29, .tup []), (158, 30, .b true)], ?_, ?_⟩
            · exact dok [([], []), ([0], []), ([1], []), ([1], []), ([1, 2, 3], []), ([1, 4], []), ([1, 5], []), ([1, 6], []), ([1, 7], []), ([8], []), ([8], []), ([8, 9, 10], []), ([8, 11], []), ([8, 12], []), ([8], []), ([8, 14], []), ([8], []), ([8, 15, 16], []), ([8, 17], []), ([8, 13, 18], []), ([1, 8, 19], []), ([1, 20], []), ([21], []), ([21], []), ([21, 22, 23], []), ([21, 24], []), ([21, 25], []), ([21], []), ([21, 26, 27], []), ([1, 21, 28], []), ([1, 29], [])] ⟨go (zm (.b a)),
      go (zm (.b a)),
      gp g,
      gp g,
      gp g,
      gp g,
      gp g,
      gp g,
      gp g,
      gq,
      gq,
      gq,
      gq,
      gq,
      gq,
      gq,
      gq,
      gq,
      gq,
      gq,
      gp g,
      gp g,
      gq,
      gq,
      gq,
      gq,
      gq,
      gq,
      gq,
      gp g,
      go (zpt (.b true) g), trivial⟩
            · exact bP (aL rfl (aN ⟨rfl, rfl, rfl, rfl, rfl, rfl, rfl, rfl, rfl, rfl, trivial⟩))
           ·obtain ⟨p, b7, E⟩ := bns E;obtain ⟨g2, Q, E⟩ := bns E;refine bch Q (fun m Q => ?_) (fun m Q => ?_)
            ·obtain ⟨w, c2, Q⟩ := bns Q;obtain ⟨F, c3, Q⟩ := bns Q;obtain rfl := sIn Q;obtain ⟨e4, K, E⟩ := bns E;refine bch K (fun u K => ?_) (fun u K => ?_)
             ·obtain ⟨H, e5, K⟩ := bns K;obtain rfl := sIn K;obtain rfl := sIn E;refine ⟨[(128, 0, .b a), (129, 1, .b a), (130, 2, .d (.sl 5 (j.map aG))), (131, 3, .i o), (132, 4, .cp [.lit (.int .i64 p.Id), .lit (.int .i64 p.Hour), .lit (.int .i64 p.Kind), .lit (.int .i64 p.Player), .lit (.int .i64 p.Rank)]), (133, 5, .cp [.lit (.int .i64 p.Kind)]), (134, 6, .i p.Kind), (135, 7, .b (decide (p.Kind = 5))), (136, 8, .b (decide (p.Kind = 5))), (137, 9, .d (.sl 5 (j.map aG))), (138, 10, .i o), (139, 11, .cp [.lit (.int .i64 w.Id), .lit (.int .i64 w.Hour), .lit (.int .i64 w.Kind), .lit (.int .i64 w.Player), .lit (.int .i64 w.Rank)]), (140, 12, .cp [.lit (.int .i64 w.Player)]), (141, 13, .i w.Player), (142, 14, .bp L 0 2), (143, 15, .d (.sl 1 (r9.1.Out.map aH))), (144, 16, .i s), (145, 17, .cp [.lit (.int .i64 F)]), (146, 18, .i F), (147, 19, .b (decide (w.Player = F))), (148, 20, .b (decide (w.Player = F))), (149, 21, .b (decide (w.Player = F))), (150, 22, .d (.sl 5 (j.map aG))), (151, 23, .i o), (152, 24, .cp [.lit (.int .i64 H.Id), .lit (.int .i64 H.Hour), .lit (.int .i64 H.Kind), .lit (.int .i64 H.Player), .lit (.int .i64 H.Rank)]), (153, 25, .cp [.lit (.int .i64 H.Hour)]), (154, 26, .i H.Hour), (155, 27, .i c), (156, 28, .b (decide (H.Hour ≤ c))), (157, 29, .b (decide (H.Hour ≤ c))), (158, 30, .b (decide (H.Hour ≤ c)))], ?_, ?_⟩
              · exact dok [([], []), ([0], []), ([1], []), ([1], []), ([1, 2, 3], []), ([1, 4], []), ([1, 5], []), ([1, 6], []), ([1, 7], []), ([8], []), ([8], []), ([8, 9, 10], []), ([8, 11], []), ([8, 12], []), ([8], []), ([8, 14], []), ([8], []), ([8, 15, 16], []), ([8, 17], []), ([8, 13, 18], []), ([1, 8, 19], []), ([1, 20], []), ([21], []), ([21], []), ([21, 22, 23], []), ([21, 24], []), ([21, 25], []), ([21], []), ([21, 26, 27], []), ([1, 21, 28], []), ([1, 29], [])] ⟨go (zm (.b a)),
      go (zm (.b a)),
      gt g (zm (.d (.sl 5 (j.map aG)))),
      gt g (zm (.i o)),
      gt g (zix rfl rfl cW.of (bW aG b7)),
      gt g (zfc [.lit (.int .i64 p.Kind)] rfl lA),
      gt g (zlc rfl aT),
      gt g (zcm rfl rfl rfl),
      gt g (zm (.b (decide (p.Kind = 5)))),
      gt m (zm (.d (.sl 5 (j.map aG)))),
      gt m (zm (.i o)),
      gt m (zix rfl rfl cW.of (bW aG c2)),
      gt m (zfc [.lit (.int .i64 w.Player)] rfl dC),
      gt m (zlc rfl aT),
      gt m (zf rfl tH),
      gt m (zl 1 rfl rfl rfl dD),
      gt m (zm (.i s)),
      gt m (zix rfl rfl bS.of (bW aH c3)),
      gt m (zlc rfl aT),
      gt m (zcm rfl rfl rfl),
      gt g (zpt (.b (decide (w.Player = F))) m),
      gt g (zm (.b (decide (w.Player = F)))),
      gt u (zm (.d (.sl 5 (j.map aG)))),
      gt u (zm (.i o)),
      gt u (zix rfl rfl cW.of (bW aG e5)),
      gt u (zfc [.lit (.int .i64 H.Hour)] rfl cP),
      gt u (zlc rfl aT),
      gt u (zm (.i c)),
      gt u (zcm rfl rfl rfl),
      gt g (zpt (.b (decide (H.Hour ≤ c))) u),
      go (zpf (.b (decide (H.Hour ≤ c))) g), trivial⟩
              · exact bP (aL rfl (aN ⟨rfl, rfl, rfl, rfl, rfl, rfl, rfl, rfl, rfl, rfl, trivial⟩))
             ·obtain rfl := sIn K;obtain rfl := sIn E;refine ⟨[(128, 0, .b a), (129, 1, .b a), (130, 2, .d (.sl 5 (j.map aG))), (131, 3, .i o), (132, 4, .cp [.lit (.int .i64 p.Id), .lit (.int .i64 p.Hour), .lit (.int .i64 p.Kind), .lit (.int .i64 p.Player), .lit (.int .i64 p.Rank)]), (133, 5, .cp [.lit (.int .i64 p.Kind)]), (134, 6, .i p.Kind), (135, 7, .b (decide (p.Kind = 5))), (136, 8, .b (decide (p.Kind = 5))), (137, 9, .d (.sl 5 (j.map aG))), (138, 10, .i o), (139, 11, .cp [.lit (.int .i64 w.Id), .lit (.int .i64 w.Hour), .lit (.int .i64 w.Kind), .lit (.int .i64 w.Player), .lit (.int .i64 w.Rank)]), (140, 12, .cp [.lit (.int .i64 w.Player)]), (141, 13, .i w.Player), (142, 14, .bp L 0 2), (143, 15, .d (.sl 1 (r9.1.Out.map aH))), (144, 16, .i s), (145, 17, .cp [.lit (.int .i64 F)]), (146, 18, .i F), (147, 19, .b (decide (w.Player = F))), (148, 20, .b (decide (w.Player = F))), (149, 21, .b (decide (w.Player = F))), (150, 22, .tup []), (151, 23, .tup []), (152, 24, .tup []), (153, 25, .tup []), (154, 26, .tup []), (155, 27, .tup []), (156, 28, .tup []), (157, 29, .b false), (158, 30, .b (false))], ?_, ?_⟩
              · exact dok [([], []), ([0], []), ([1], []), ([1], []), ([1, 2, 3], []), ([1, 4], []), ([1, 5], []), ([1, 6], []), ([1, 7], []), ([8], []), ([8], []), ([8, 9, 10], []), ([8, 11], []), ([8, 12], []), ([8], []), ([8, 14], []), ([8], []), ([8, 15, 16], []), ([8, 17], []), ([8, 13, 18], []), ([1, 8, 19], []), ([1, 20], []), ([21], []), ([21], []), ([21, 22, 23], []), ([21, 24], []), ([21, 25], []), ([21], []), ([21, 26, 27], []), ([1, 21, 28], []), ([1, 29], [])] ⟨go (zm (.b a)),
      go (zm (.b a)),
      gt g (zm (.d (.sl 5 (j.map aG)))),
      gt g (zm (.i o)),
      gt g (zix rfl rfl cW.of (bW aG b7)),
      gt g (zfc [.lit (.int .i64 p.Kind)] rfl lA),
      gt g (zlc rfl aT),
      gt g (zcm rfl rfl rfl),
      gt g (zm (.b (decide (p.Kind = 5)))),
      gt m (zm (.d (.sl 5 (j.map aG)))),
      gt m (zm (.i o)),
      gt m (zix rfl rfl cW.of (bW aG c2)),
      gt m (zfc [.lit (.int .i64 w.Player)] rfl dC),
      gt m (zlc rfl aT),
      gt m (zf rfl tH),
      gt m (zl 1 rfl rfl rfl dD),
      gt m (zm (.i s)),
      gt m (zix rfl rfl bS.of (bW aH c3)),
      gt m (zlc rfl aT),
      gt m (zcm rfl rfl rfl),
      gt g (zpt (.b (decide (w.Player = F))) m),
      gt g (zm (.b (decide (w.Player = F)))),
      gp u,
      gp u,
      gp u,
      gp u,
      gp u,
      gp u,
      gp u,
      gt g (zpf (.b false) u),
      go (zpf (.b (false)) g), trivial⟩
              · exact bP (aL rfl (aN ⟨rfl, rfl, rfl, rfl, rfl, rfl, rfl, rfl, rfl, rfl, trivial⟩))
            ·obtain rfl := sIn Q;obtain ⟨e4, K, E⟩ := bns E;have u : false = false := rfl;have K := lZ u K;obtain rfl := sIn K;obtain rfl := sIn E;refine ⟨[(128, 0, .b a), (129, 1, .b a), (130, 2, .d (.sl 5 (j.map aG))), (131, 3, .i o), (132, 4, .cp [.lit (.int .i64 p.Id), .lit (.int .i64 p.Hour), .lit (.int .i64 p.Kind), .lit (.int .i64 p.Player), .lit (.int .i64 p.Rank)]), (133, 5, .cp [.lit (.int .i64 p.Kind)]), (134, 6, .i p.Kind), (135, 7, .b (decide (p.Kind = 5))), (136, 8, .b (decide (p.Kind = 5))), (137, 9, .tup []), (138, 10, .tup []), (139, 11, .tup []), (140, 12, .tup []), (141, 13, .tup []), (142, 14, .tup []), (143, 15, .tup []), (144, 16, .tup []), (145, 17, .tup []), (146, 18, .tup []), (147, 19, .tup []), (148, 20, .b false), (149, 21, .b (false)), (150, 22, .tup []), (151, 23, .tup []), (152, 24, .tup []), (153, 25, .tup []), (154, 26, .tup []), (155, 27, .tup []), (156, 28, .tup []), (157, 29, .b false), (158, 30, .b (false))], ?_, ?_⟩
             · exact dok [([], []), ([0], []), ([1], []), ([1], []), ([1, 2, 3], []), ([1, 4], []), ([1, 5], []), ([1, 6], []), ([1, 7], []), ([8], []), ([8], []), ([8, 9, 10], []), ([8, 11], []), ([8, 12], []), ([8], []), ([8, 14], []), ([8], []), ([8, 15, 16], []), ([8, 17], []), ([8, 13, 18], []), ([1, 8, 19], []), ([1, 20], []), ([21], []), ([21], []), ([21, 22, 23], []), ([21, 24], []), ([21, 25], []), ([21], []), ([21, 26, 27], []), ([1, 21, 28], []), ([1, 29], [])] ⟨go (zm (.b a)),
      go (zm (.b a)),
      gt g (zm (.d (.sl 5 (j.map aG)))),
      gt g (zm (.i o)),
      gt g (zix rfl rfl cW.of (bW aG b7)),
      gt g (zfc [.lit (.int .i64 p.Kind)] rfl lA),
      gt g (zlc rfl aT),
      gt g (zcm rfl rfl rfl),
      gt g (zm (.b (decide (p.Kind = 5)))),
      gp m,
      gp m,
      gp m,
      gp m,
      gp m,
      gp m,
      gp m,
      gp m,
      gp m,
      gp m,
      gp m,
      gt g (zpf (.b false) m),
      gt g (zm (.b (false))),
      gp u,
      gp u,
      gp u,
      gp u,
      gp u,
      gp u,
      gp u,
      gt g (zpf (.b false) u),
      go (zpf (.b (false)) g), trivial⟩
             · exact bP (aL rfl (aN ⟨rfl, rfl, rfl, rfl, rfl, rfl, rfl, rfl, rfl, rfl, trivial⟩))
          ·refine ta (.b b6) ?_;refine cR ?_;refine aC (tm (.i o) (to (sar rfl rfl rfl) (ta (.i (w64 (o + 1))) (aD ?_))));exact ⟨(b6, w64 (o + 1)), h, aR [0, 1] rfl rfl (aL rfl (aL rfl (aN ⟨rfl, rfl, rfl, rfl, rfl, rfl, rfl, rfl, rfl, trivial⟩)))⟩
         ·refine cB ?_;refine .inl ⟨rfl, ?_⟩;simp only [gL] at h;refine aE (aC (tm (.i c) (tfl 0 rfl rfl gC rfl aT (to (scm rfl rfl rfl) (aD ?_)))));refine tih h (fun e6 h => ?_) (fun e6 h => ?_)
          ·refine aE (aE (aC (tfl 1 rfl rfl aEd rfl aT (to (scm rfl rfl rfl) (tm (.b (decide (0 < r9.1.Open))) ?_)))));obtain ⟨e7, a4, h⟩ := bns h;refine bD 3 [1, 2, 3, 7, 9, 14, 16, 19, 20] 169 e7 ?_ ?_
           ·refine bch a4 (fun W a4 => ?_) (fun W a4 => ?_)
            ·refine tk W (sm (.b N)) (tk W (sn rfl) (to (spt (.b (!N)) W) ?_));obtain rfl := sIn a4;refine aD (aQ rfl ⟨rfl, rfl, rfl, rfl, rfl, rfl, rfl, rfl, rfl, trivial⟩ rfl)
            ·refine tp W (tp W (to (spf (.b false) W) ?_));obtain rfl := sIn a4;refine aD (aQ rfl ⟨rfl, rfl, rfl, rfl, rfl, rfl, rfl, rfl, rfl, trivial⟩ rfl)
           ·refine aD ?_;refine tih h (fun e8 h => ?_) (fun e8 h => ?_)
            ·refine aE (aC (ta (.b false) (aD ?_)));obtain rfl := sIn h;refine bM (bI (bJ (l := [6]) ⟨rfl, trivial⟩)) ?_;exact aV ⟨rfl, _, .one _, rfl, rfl⟩
            ·refine bB (aE (aC (ta (.i 0) (aD ?_))));refine vN ?_;refine cH (S := Int) [1, 2, 3, 7, 9, 14, 16, 19, 20] (fun b3 => [(23, .i b3)]) (fun b3 => [.box b1 0 (aU q), .box L 0 (dR r9.1)]) (fun k b3 => dW (cN j c f e q r9.1 c0) j c f e s t.2.2 N q r9.1 k b3) (fun _ => rfl) (0) h (aR [0, 1] rfl rfl (aL rfl (aN ⟨rfl, rfl, rfl, rfl, rfl, rfl, rfl, rfl, rfl, trivial⟩))) ?_;rintro g3 I h;simp only [dW] at h;refine aE (aE (aC (tm (.i I) (tfl 1 rfl rfl tG rfl dD (to (sle rfl bS.of) (to (scm rfl rfl rfl) (aD ?_)))))));refine tih h (fun e9 h => ?_) (fun e9 h => ?_)
             ·refine bB (aE (bL (aE ?_)));obtain ⟨c4, f0, h⟩ := bns h;obtain ⟨y, f1, h⟩ := bns h;refine bV mix 15 [1, 2, 3, 7, 9, 14, 16, 19, 20, 23] [(189, .i y.2.2)] ?_ ?_
              ·refine ⟨[(178, 0, .agg (aU q)), (179, 1, .d (.sl 5 (j.map aG))), (180, 2, .i c), (181, 3, .bp L 0 0), (182, 4, .d (.sl 1 (r9.1.Main.map aH))), (183, 5, .i I), (184, 6, .cp [.lit (.int .i64 c4)]), (185, 7, .i c4), (186, 8, .tup [.b y.1, .b y.2.1, .i y.2.2]), (177, 9, .tup [.b y.1, .b y.2.1, .i y.2.2]), (187, 10, .b y.1), (188, 11, .b y.2.1), (189, 12, .i y.2.2), (24, 13, .b y.1), (25, 14, .b y.2.1)], ?_, ?_⟩
               · exact dok [([], []), ([], []), ([], []), ([], []), ([3], []), ([], []), ([4, 5], []), ([6], []), ([0, 1, 2, 7], []), ([8], []), ([9], []), ([9], []), ([9], []), ([10], []), ([11], [])] ⟨go (zla 0 (aU q) rfl rfl iM),
      go (zm (.d (.sl 5 (j.map aG)))),
      go (zm (.i c)),
      go (zf rfl tG),
      go (zl 1 rfl rfl rfl dD),
      go (zm (.i I)),
      go (zix rfl rfl bS.of (bW aH f0)),
      go (zlc rfl aT),
      go fun S hS => iL (aK rfl) (.func _ _ Tryz.call16) (ev2 (aM hS rfl) (ev2 (aM hS rfl) (ev2 (aM hS rfl) (ev2 (aM hS rfl) evn)))) rfl (BVs.refl _ _) (mM _ _ _ _ f1) rfl,
      go (zm (.tup [.b y.1, .b y.2.1, .i y.2.2])),
      go (zex rfl rfl),
      go (zex rfl rfl),
      go (zex rfl rfl),
      go (za (.b y.1)),
      go (za (.b y.2.1)), trivial⟩
               · exact bP (aL rfl (aN ⟨rfl, rfl, rfl, rfl, rfl, rfl, rfl, rfl, rfl, rfl, trivial⟩))
              ·refine ta (.i y.2.2) (aD (aE (aC (tm (.b N) (to (sn rfl) (tm (.b (!N)) ?_))))));obtain ⟨c5, a5, h⟩ := bns h;refine bD 3 [1, 2, 3, 7, 9, 14, 16, 19, 20, 23, 26] 195 c5 ?_ ?_
               ·refine bch a5 (fun X a5 => ?_) (fun X a5 => ?_)
                ·refine tk X (sm (.i t.2.2)) (tk X (scm rfl rfl rfl) (to (spt (.b (decide (0 < t.2.2))) X) ?_));obtain rfl := sIn a5;refine aD (aQ rfl ⟨rfl, rfl, rfl, rfl, rfl, rfl, rfl, rfl, rfl, rfl, rfl, trivial⟩ rfl)
                ·refine tp X (tp X (to (spf (.b false) X) ?_));obtain rfl := sIn a5;refine aD (aQ rfl ⟨rfl, rfl, rfl, rfl, rfl, rfl, rfl, rfl, rfl, rfl, rfl, trivial⟩ rfl)
               ·refine tm (.b c5) ?_;obtain ⟨f2, Y, h⟩ := bns h;refine bD 8 [1, 2, 3, 7, 9, 14, 16, 19, 20, 23] 204 f2 ?_ ?_
                ·refine bch Y (fun J Y => ?_) (fun J Y => ?_)
                 ·refine tk J (sm (.i y.2.2)) (tk J (scm rfl rfl rfl) (tk J (sm (.b (decide (y.2.2 = 0)))) ?_));obtain ⟨c7, a6, Y⟩ := bns Y;refine bD 4 [1, 2, 3, 7, 9, 14, 16, 19, 20, 23, 196, 197, 198, 199] 203 c7 ?_ ?_
                  ·refine bch a6 (fun T a6 => ?_) (fun T a6 => ?_)
                   ·refine tp T (tp T (tp T (tk J (spt (.b true) T) ?_)));obtain rfl := sIn a6;refine aD (aQ rfl ⟨rfl, rfl, rfl, rfl, rfl, rfl, rfl, rfl, rfl, rfl, rfl, rfl, rfl, rfl, trivial⟩ rfl)
                   ·refine tk T (sm (.i t.2.2)) (tk T (sm (.i y.2.2)) (tk T (scm rfl rfl rfl) (tk J (spf (.b (decide (t.2.2 < y.2.2))) T) ?_)));obtain rfl := sIn a6;refine aD (aQ rfl ⟨rfl, rfl, rfl, rfl, rfl, rfl, rfl, rfl, rfl, rfl, rfl, rfl, rfl, rfl, trivial⟩ rfl)
                  ·refine to (spt (.b c7) J) ?_;obtain rfl := sIn Y;refine aD (aQ rfl ⟨rfl, rfl, rfl, rfl, rfl, rfl, rfl, rfl, rfl, rfl, trivial⟩ rfl)
                 ·refine tp J (tp J (tp J (tq (tq (tq (tp J (to (spf (.b false) J) ?_)))))));obtain rfl := sIn Y;refine aD (aQ rfl ⟨rfl, rfl, rfl, rfl, rfl, rfl, rfl, rfl, rfl, rfl, trivial⟩ rfl)
                ·refine aD ?_;refine tih h (fun f3 h => ?_) (fun f3 h => ?_)
                 ·refine aE (aC (ta (.b false) (aD ?_)));obtain rfl := sIn h;refine bM (bI (bJ (l := [6]) ⟨rfl, trivial⟩)) ?_;exact aV ⟨rfl, _, .one _, rfl, rfl⟩
                 ·refine bY ?_;refine aC (tm (.i I) (to (sar rfl rfl rfl) (ta (.i (w64 (I + 1))) (aD ?_))));exact ⟨(w64 (I + 1)), h, aR [0, 1] rfl rfl (aL rfl (aN ⟨rfl, rfl, rfl, rfl, rfl, rfl, rfl, rfl, rfl, trivial⟩))⟩
             ·refine cB ?_;refine .inl ⟨rfl, ?_⟩;simp only [gM] at h;simp only [fG] at h;refine aC (tm (.i s) (to (sar rfl rfl rfl) (ta (.i (w64 (s + 1))) (aD ?_))));exact ⟨(w64 (s + 1)), h, aR [0, 1] rfl rfl (aL rfl (aN ⟨rfl, rfl, rfl, rfl, rfl, rfl, trivial⟩))⟩
          ·refine aE (aC (tm (.b e) (tm (.b e) ?_)));obtain ⟨c8, a7, h⟩ := bns h;refine bD 4 [1, 2, 3, 7, 9, 14, 16, 20, 21] 210 c8 ?_ ?_
           ·refine bch a7 (fun U a7 => ?_) (fun U a7 => ?_)
            ·refine tkl 1 U rfl rfl aEd rfl aT (tk U (scm rfl rfl rfl) (to (spt (.b (decide (0 < r9.1.Open))) U) ?_));obtain rfl := sIn a7;refine aD (aQ rfl ⟨rfl, rfl, rfl, rfl, rfl, rfl, rfl, rfl, rfl, trivial⟩ rfl)
            ·refine tp U (tp U (tp U (to (spf (.b false) U) ?_)));obtain rfl := sIn a7;refine aD (aQ rfl ⟨rfl, rfl, rfl, rfl, rfl, rfl, rfl, rfl, rfl, trivial⟩ rfl)
           ·refine tm (.b c8) ?_;obtain ⟨c9, a8, h⟩ := bns h;refine bD 2 [1, 2, 3, 7, 9, 14, 16, 20] 213 c9 ?_ ?_
            ·refine bch a8 (fun a9 a8 => ?_) (fun a9 a8 => ?_)
             ·refine tk a9 (sm (.b a)) (to (spt (.b a) a9) ?_);obtain rfl := sIn a8;refine aD (aQ rfl ⟨rfl, rfl, rfl, rfl, rfl, rfl, rfl, rfl, trivial⟩ rfl)
             ·refine tp a9 (to (spf (.b false) a9) ?_);obtain rfl := sIn a8;refine aD (aQ rfl ⟨rfl, rfl, rfl, rfl, rfl, rfl, rfl, rfl, trivial⟩ rfl)
            ·refine tm (.b c9) ?_;obtain ⟨f4, b0, h⟩ := bns h;refine bD 3 [1, 2, 3, 7, 9, 14, 16] 217 f4 ?_ ?_
             ·refine bch b0 (fun Z b0 => ?_) (fun Z b0 => ?_)
              ·refine tk Z (sm (.b N)) (tk Z (sn rfl) (to (spt (.b (!N)) Z) ?_));obtain rfl := sIn b0;refine aD (aQ rfl ⟨rfl, rfl, rfl, rfl, rfl, rfl, rfl, trivial⟩ rfl)
              ·refine tp Z (tp Z (to (spf (.b false) Z) ?_));obtain rfl := sIn b0;refine aD (aQ rfl ⟨rfl, rfl, rfl, rfl, rfl, rfl, rfl, trivial⟩ rfl)
             ·refine aD ?_;refine tih h (fun f5 h => ?_) (fun f5 h => ?_)
              ·refine aE (aC (ta (.b false) (aD ?_)));obtain rfl := sIn h;refine bM (bI (bJ (l := [6]) ⟨rfl, trivial⟩)) ?_;exact aV ⟨rfl, _, .one _, rfl, rfl⟩
              ·refine bY ?_;simp only [fG] at h;refine aC (tm (.i s) (to (sar rfl rfl rfl) (ta (.i (w64 (s + 1))) (aD ?_))));exact ⟨(w64 (s + 1)), h, aR [0, 1] rfl rfl (aL rfl (aN ⟨rfl, rfl, rfl, rfl, rfl, rfl, trivial⟩))⟩
      ·refine cB ?_;refine .inl ⟨rfl, ?_⟩;simp only [kX] at h;refine aE (aC ?_);obtain ⟨f6, f7, h⟩ := bns h;refine to (scr Tryz.call13 (rR f7)) (ta (.b f6) (aD ?_));obtain rfl := sIn h;refine bM (bI (bJ (l := [6]) ⟨rfl, trivial⟩)) ?_;exact aV ⟨rfl, _, .one _, rfl, rfl⟩

end Go.Am
