/- The functions compute what the shallow ones say: printed by program. -/
import Derived.Test.YtfdappeickbpeaaGreatEntryStaysSimP2
namespace Go.Am
open Go.Proofs
set_option maxRecDepth 100000
set_option maxHeartbeats 40000000

theorem oV (E : aP) (d : aJ) (w : List Int) (x : Int) {r : aP × Bool} (h : kT E d w x = some r) : Fn Tryz.prog 69 [.agg (aM E), .cp [.pt (aW d)], .cp [.sl 1 (w.map aG)], .cp [.lit (.int .i64 x)]] (.tup [.agg (aM r.1), .b r.2]) := by
 unfold kT at h;refine mG Tryz.func69 rfl (rs := [.cell 5 110, .tmp 6]) Tryz.results69 Tryz.ntmps69 (Nat.le_of_ble_eq_true rfl) ?_;refine aF (aC ?_);refine bF rfl (gU (v := .agg (aM E)) (aI rfl) rfl rfl rfl) ?_;rintro _ ⟨b1, rfl⟩;refine bF rfl (dX (zs := [.lit (.int .i64 0), .lit (.int .i64 0), .lit (.int .i64 0), .lit (.int .i64 0)]) (aI rfl) Tryz.zeroValue110 rfl rfl) ?_;rintro _ ⟨b2, rfl⟩;refine ta (.b false) (aD (aF (bL ?_)));refine cH (S := aP × aP) [1, 2, 3, 4, 5] (fun s3 => []) (fun s3 => [.box b1 0 (aM s3.1), .box b2 0 (aM s3.2)]) (fun k s3 => gQ d w x k s3.1 s3.2) (fun _ => rfl) (E, (aP.mk 0 0 0 0)) h (aQ [0, 1] rfl rfl (aO ⟨rfl, rfl, rfl, rfl, rfl, trivial⟩)) ?_;rintro k4 ⟨g, y⟩ h;simp only [gQ] at h;refine aF (aF ?_);obtain ⟨r5, h6, h⟩ := bns h;refine bU mix 7 [1, 2, 3, 4, 5] [(17, .i (w64 (g.free + g.guarded))), (19, .i r5)] ?_ ?_
 ·refine ⟨[(13, 0, .bp b1 0 0), (14, 1, .i g.free), (15, 2, .bp b1 0 1), (16, 3, .i g.guarded), (17, 4, .i (w64 (g.free + g.guarded))), (18, 5, .cp [.lit (.int .i64 d.Field.Places), .lit (.int .i64 d.Field.Wilds), .lit (.int .i64 d.Field.Guards), .lit (.int .i64 d.Field.Close), .lit (.int .i64 d.Field.Freeze), .mp true (d.players.map fun p : Int × aA => ((fun n : Int => Value.int .i64 n) p.1, aB p.2)), .sl 1 (d.wilds.map aG), .lit (.bool d.frozen), .sl 1 (d.first.map aG), .sl 1 (d.late.map aG), .lit (.int .i64 d.more), .lit (.int .i64 d.entered)]), (19, 6, .i r5)], ?_, ?_⟩
  · exact dok [([], []), ([0], []), ([], []), ([2], []), ([1, 3], []), ([], []), ([5], [])] ⟨go (zf rfl nF),
      go (zl 0 rfl rfl rfl aS),
      go (zf rfl lQ),
      go (zl 0 rfl rfl rfl aS),
      go (zar rfl rfl rfl),
      go fun S hS => kQ (.ptc _) (gK (aI rfl) (aN hS rfl) eZ),
      go fun S hS => iS (aI rfl) (.func _ _ Tryz.call36) (ev2 (aN hS rfl) evn) rfl (BVs.refl _ _) (eS _ h6) rfl, trivial⟩
  · exact bM (aL rfl (aL rfl (aO ⟨rfl, rfl, rfl, rfl, rfl, trivial⟩)))
 ·refine to (scm rfl rfl rfl) (aD ?_);refine tih h (fun c7 h => ?_) (fun c7 h => ?_)
  ·refine bB (bL (aF (aC (ta (.i 0) (ta (.i 0) (ta (.b false) (aD (aF (aF (aC (to (slc rfl cV) (to (sle rfl bO.of) (tm (.i 0) ?_)))))))))))));refine aD (bL ?_);refine cH (S := Int × Int × Bool × Int × aP × aP) [1, 2, 3, 4, 5, 21, 22] (fun s8 => [(7, .i s8.1), (8, .i s8.2.1), (9, .b s8.2.2.1), (23, .i s8.2.2.2.1)]) (fun s8 => [.box b1 0 (aM s8.2.2.2.2.1), .box b2 0 (aM s8.2.2.2.2.2)]) (fun k s8 => fN (gQ d w x k4) d w x w (w.length : Int) k s8.1 s8.2.1 s8.2.2.1 s8.2.2.2.1 s8.2.2.2.2.1 s8.2.2.2.2.2) (fun _ => rfl) (0, 0, false, 0, g, y) h (aQ [0, 1] rfl rfl (aL rfl (aL rfl (aL rfl (aL rfl (aO ⟨rfl, rfl, rfl, rfl, rfl, rfl, rfl, trivial⟩)))))) ?_;rintro k9 ⟨f, e, s, q, c, j⟩ h;simp only [fN] at h;refine aF (aC (to (scm rfl rfl rfl) (aD (aF ?_))));refine tih h (fun K h => ?_) (fun K h => ?_)
   ·refine bB (aF (bL (aF (aC ?_))));obtain ⟨m, L, h⟩ := bns h;refine to (six rfl rfl bO.of (bR aG L)) (to (slc rfl aS) (ta (.i m) (aD (aF (aC (to (kQ (.ptc _) (gK (aI rfl) rfl eZ)) ?_))))));refine to (cA (aI rfl) rfl) ?_;refine to (sfc [.mp true (d.players.map fun p : Int × aA => ((fun n : Int => Value.int .i64 n) p.1, aB p.2))] rfl cU) (to (slc rfl eC) (tm (.i m) (to (fW (enc := aB) (agg := true) (l := d.players) (z := (aA.mk false false 0 0 false false false false)) (a := m) (aI rfl) fF Tryz.underlying68 Tryz.zeroValue94 (fun _ _ => .agg (gJ rfl)) rfl rfl rfl rfl (cI (kv := (fun n : Int => Value.int .i64 n)) m)) ?_)));refine to (kD (aI rfl) rfl Tryz.runUnderlying94 rfl dU rfl) ?_;refine ta (.b ((aE m (aA.mk false false 0 0 false false false false) d.players).guard)) (aD (aF (bL (aF (aC (tm (.b ((aE m (aA.mk false false 0 0 false false false false) d.players).guard)) (tm (.b ((aE m (aA.mk false false 0 0 false false false false) d.players).guard)) ?_)))))));obtain ⟨F, A, h⟩ := bns h;refine bG 5 [1, 2, 3, 4, 5, 7, 8, 9, 11, 12, 21, 22, 23] 41 F ?_ ?_
    ·refine bch A (fun t A => ?_) (fun t A => ?_)
     ·refine tk t (sm (.i e)) (tkl 0 t rfl rfl wA rfl aS (tk t (scm rfl rfl rfl) (to (spt (.b (decide (e < c.covered))) t) ?_)));obtain rfl := sIn A;refine aD (aR rfl ⟨rfl, rfl, rfl, rfl, rfl, rfl, rfl, rfl, rfl, rfl, rfl, rfl, rfl, trivial⟩ rfl)
     ·refine tp t (tp t (tp t (tp t (to (spf (.b false) t) ?_))));obtain rfl := sIn A;refine aD (aR rfl ⟨rfl, rfl, rfl, rfl, rfl, rfl, rfl, rfl, rfl, rfl, rfl, rfl, rfl, trivial⟩ rfl)
    ·refine ta (.b F) (aD ?_);refine tih h (fun M h => ?_) (fun M h => ?_)
     ·refine aF (aC (tm (.i e) (to (sar rfl rfl rfl) (ta (.i (w64 (e + 1))) (aD ?_)))));refine bZ ?_;refine .inr ⟨by decide, ?_⟩;refine .inl ⟨rfl, ?_⟩;refine aC (to (sar rfl rfl rfl) (tm (.i (w64 (q + 1))) (aD ?_)));exact ⟨(f, w64 (e + 1), s, w64 (q + 1), c, j), h, aQ [0, 1] rfl rfl (aL rfl (aL rfl (aL rfl (aL rfl (aO ⟨rfl, rfl, rfl, rfl, rfl, rfl, rfl, trivial⟩)))))⟩
     ·refine aF (aC (tm (.b ((aE m (aA.mk false false 0 0 false false false false) d.players).guard)) (to (sn rfl) (tm (.b (!((aE m (aA.mk false false 0 0 false false false false) d.players).guard))) ?_))));obtain ⟨G, B, h⟩ := bns h;refine bG 5 [1, 2, 3, 4, 5, 7, 8, 9, 11, 12, 21, 22, 23] 52 G ?_ ?_
      ·refine bch B (fun u B => ?_) (fun u B => ?_)
       ·refine tk u (sm (.i f)) (tkl 0 u rfl rfl vZ rfl aS (tk u (scm rfl rfl rfl) (to (spt (.b (decide (f < c.moved))) u) ?_)));obtain rfl := sIn B;refine aD (aR rfl ⟨rfl, rfl, rfl, rfl, rfl, rfl, rfl, rfl, rfl, rfl, rfl, rfl, rfl, trivial⟩ rfl)
       ·refine tp u (tp u (tp u (tp u (to (spf (.b false) u) ?_))));obtain rfl := sIn B;refine aD (aR rfl ⟨rfl, rfl, rfl, rfl, rfl, rfl, rfl, rfl, rfl, rfl, rfl, rfl, rfl, trivial⟩ rfl)
      ·refine ta (.b G) (aD ?_);refine tih h (fun N h => ?_) (fun N h => ?_)
       ·refine aF (aC (tm (.i f) (to (sar rfl rfl rfl) (ta (.i (w64 (f + 1))) (aD ?_)))));refine bZ ?_;refine .inr ⟨by decide, ?_⟩;refine .inl ⟨rfl, ?_⟩;refine aC (to (sar rfl rfl rfl) (tm (.i (w64 (q + 1))) (aD ?_)));exact ⟨(w64 (f + 1), e, s, w64 (q + 1), c, j), h, aQ [0, 1] rfl rfl (aL rfl (aL rfl (aL rfl (aL rfl (aO ⟨rfl, rfl, rfl, rfl, rfl, rfl, rfl, trivial⟩)))))⟩
       ·refine aF ?_;obtain ⟨H, C, h⟩ := bns h;refine bU mix 11 [1, 2, 3, 4, 5, 7, 8, 9, 11, 12, 21, 22, 23] [(66, .b H)] ?_ ?_
        ·refine bch C (fun o C => ?_) (fun o C => ?_)
         ·obtain rfl := sIn C;refine ⟨[(56, 0, .b ((aE m (aA.mk false false 0 0 false false false false) d.players).guard)), (57, 1, .b ((aE m (aA.mk false false 0 0 false false false false) d.players).guard)), (58, 2, .bp b1 0 1), (59, 3, .i c.guarded), (60, 4, .cp [.lit (.int .i64 d.Field.Places), .lit (.int .i64 d.Field.Wilds), .lit (.int .i64 d.Field.Guards), .lit (.int .i64 d.Field.Close), .lit (.int .i64 d.Field.Freeze), .mp true (d.players.map fun p : Int × aA => ((fun n : Int => Value.int .i64 n) p.1, aB p.2)), .sl 1 (d.wilds.map aG), .lit (.bool d.frozen), .sl 1 (d.first.map aG), .sl 1 (d.late.map aG), .lit (.int .i64 d.more), .lit (.int .i64 d.entered)]), (61, 5, .cp [.lit (.int .i64 d.Field.Places), .lit (.int .i64 d.Field.Wilds), .lit (.int .i64 d.Field.Guards), .lit (.int .i64 d.Field.Close), .lit (.int .i64 d.Field.Freeze), .mp true (d.players.map fun p : Int × aA => ((fun n : Int => Value.int .i64 n) p.1, aB p.2)), .sl 1 (d.wilds.map aG), .lit (.bool d.frozen), .sl 1 (d.first.map aG), .sl 1 (d.late.map aG), .lit (.int .i64 d.more), .lit (.int .i64 d.entered)]), (62, 6, .cp [.lit (.int .i64 d.Field.Places), .lit (.int .i64 d.Field.Wilds), .lit (.int .i64 d.Field.Guards), .lit (.int .i64 d.Field.Close), .lit (.int .i64 d.Field.Freeze)]), (63, 7, .cp [.lit (.int .i64 d.Field.Guards)]), (64, 8, .i d.Field.Guards), (65, 9, .b (decide (d.Field.Guards ≤ c.guarded))), (66, 10, .b (decide (d.Field.Guards ≤ c.guarded)))], ?_, ?_⟩
          · exact dok [([], []), ([0], []), ([1], []), ([1, 2], []), ([1], []), ([1, 4], []), ([1, 5], []), ([1, 6], []), ([1, 7], []), ([1, 3, 8], []), ([1, 9], [])] ⟨go (zm (.b ((aE m (aA.mk false false 0 0 false false false false) d.players).guard))),
      go (zm (.b ((aE m (aA.mk false false 0 0 false false false false) d.players).guard))),
      gt o (zf rfl lQ),
      gt o (zl 0 rfl rfl rfl aS),
      gt o fun S hS => kQ (.ptc _) (gK (aI rfl) (aN hS rfl) eZ),
      gt o fun S hS => cA (aI rfl) (aN hS rfl),
      gt o (zfc [.lit (.int .i64 d.Field.Places), .lit (.int .i64 d.Field.Wilds), .lit (.int .i64 d.Field.Guards), .lit (.int .i64 d.Field.Close), .lit (.int .i64 d.Field.Freeze)] rfl eE),
      gt o (zfc [.lit (.int .i64 d.Field.Guards)] rfl mA),
      gt o (zlc rfl aS),
      gt o (zcm rfl rfl rfl),
      go (zpt (.b (decide (d.Field.Guards ≤ c.guarded))) o), trivial⟩
          · exact bM (aL rfl (aO ⟨rfl, rfl, rfl, rfl, rfl, rfl, rfl, rfl, rfl, rfl, rfl, rfl, rfl, trivial⟩))
         ·obtain rfl := sIn C;refine ⟨[(56, 0, .b ((aE m (aA.mk false false 0 0 false false false false) d.players).guard)), (57, 1, .b ((aE m (aA.mk false false 0 0 false false false false) d.players).guard)), (58, 2, .tup []), (59, 3, .tup []), (60, 4, .tup []), (61, 5, .tup []), (62, 6, .tup []), (63, 7, .tup []), (64, 8, .tup []), (65, 9, .tup []), (66, 10, .b false)], ?_, ?_⟩
          · exact dok [([], []), ([0], []), ([1], []), ([1, 2], []), ([1], []), ([1, 4], []), ([1, 5], []), ([1, 6], []), ([1, 7], []), ([1, 3, 8], []), ([1, 9], [])] ⟨go (zm (.b ((aE m (aA.mk false false 0 0 false false false false) d.players).guard))),
      go (zm (.b ((aE m (aA.mk false false 0 0 false false false false) d.players).guard))),
      gp o,
      gp o,
      gp o,
      gp o,
      gp o,
      gp o,
      gp o,
      gp o,
      go (zpf (.b false) o), trivial⟩
          · exact bM (aL rfl (aO ⟨rfl, rfl, rfl, rfl, rfl, rfl, rfl, rfl, rfl, rfl, rfl, rfl, rfl, trivial⟩))
        ·refine ta (.b H) (aD ?_);refine tih h (fun O h => ?_) (fun O h => ?_)
         ·refine bZ ?_;refine .inr ⟨by decide, ?_⟩;refine .inl ⟨rfl, ?_⟩;refine aC (to (sar rfl rfl rfl) (tm (.i (w64 (q + 1))) (aD ?_)));exact ⟨(f, e, s, w64 (q + 1), c, j), h, aQ [0, 1] rfl rfl (aL rfl (aL rfl (aL rfl (aL rfl (aO ⟨rfl, rfl, rfl, rfl, rfl, rfl, rfl, trivial⟩)))))⟩
         ·refine bV ?_;refine aF (aF (aC (tm (.i m) (to (slc rfl aS) (to (scm rfl rfl rfl) (aD ?_))))));refine tih h (fun P h => ?_) (fun P h => ?_)
          ·refine aF (aC (to (sla 0 (aM c) rfl rfl iI) (to (sst 1 rfl rfl Tryz.sizeOf110 (aM c)) (ta (.b true) (aD ?_)))));obtain rfl := sIn h;exact aU ⟨rfl, _, [.box b1 0 (aM c), .box b2 0 (aM c)], .two (.cell 5 110 rfl (i := 1) rfl iI (es := (aM c)) rfl rfl) (.tmp 6 (v := .b true) rfl), .refl _, .same _⟩
          ·refine bB (aF (aF (aC (tm (.b ((aE m (aA.mk false false 0 0 false false false false) d.players).guard)) (aD ?_)))));refine tih h (fun Q h => ?_) (fun Q h => ?_)
           ·refine aC (tfl 0 rfl rfl lQ rfl aS (to (sar rfl rfl rfl) (tfl 0 rfl rfl wA rfl aS (to (sar rfl rfl rfl) (to (sf rfl lQ) (to (sst 0 rfl rfl Tryz.sizeOf3 (aM (aP.mk c.free (w64 (c.guarded + 1)) c.moved c.covered))) (to (sf rfl wA) (to (sst 0 rfl rfl Tryz.sizeOf3 (aM (aP.mk c.free (w64 (c.guarded + 1)) c.moved (w64 (c.covered + 1))))) (aD (aF (aC ?_)))))))))));refine ta (.b true) (aD ?_);refine bZ ?_;refine .inr ⟨by decide, ?_⟩;refine .inl ⟨rfl, ?_⟩;simp only [fM] at h;refine aF (aC (tm (.b true) (to (sn rfl) (aD ?_))));refine xC rfl (fun I => ?_) (fun I => ?_)
            ·exact absurd I (by decide)
            ·refine bV ?_;simp only [jA] at h;exact ⟨((aP.mk c.free (w64 (c.guarded + 1)) c.moved (w64 (c.covered + 1))), j), h, aQ [0, 1] rfl rfl (aO ⟨rfl, rfl, rfl, rfl, rfl, trivial⟩)⟩
           ·refine aC (tfl 0 rfl rfl nF rfl aS (to (sar rfl rfl rfl) (tfl 0 rfl rfl vZ rfl aS (to (sar rfl rfl rfl) (to (sf rfl nF) (to (sst 0 rfl rfl Tryz.sizeOf3 (aM (aP.mk (w64 (c.free + 1)) c.guarded c.moved c.covered))) (to (sf rfl vZ) (to (sst 0 rfl rfl Tryz.sizeOf3 (aM (aP.mk (w64 (c.free + 1)) c.guarded (w64 (c.moved + 1)) c.covered))) (aD (aF (aC ?_)))))))))));refine ta (.b true) (aD ?_);refine bZ ?_;refine .inr ⟨by decide, ?_⟩;refine .inl ⟨rfl, ?_⟩;simp only [fM] at h;refine aF (aC (tm (.b true) (to (sn rfl) (aD ?_))));refine xC rfl (fun J => ?_) (fun J => ?_)
            ·exact absurd J (by decide)
            ·refine bV ?_;simp only [jA] at h;exact ⟨((aP.mk (w64 (c.free + 1)) c.guarded (w64 (c.moved + 1)) c.covered), j), h, aQ [0, 1] rfl rfl (aO ⟨rfl, rfl, rfl, rfl, rfl, trivial⟩)⟩
   ·refine bZ ?_;refine .inl ⟨rfl, ?_⟩;simp only [fM] at h;refine aF (aC (tm (.b s) (to (sn rfl) (aD ?_))));refine tih h (fun T h => ?_) (fun T h => ?_)
    ·refine aF (aC (to (sla 0 (aM c) rfl rfl iI) (to (sst 1 rfl rfl Tryz.sizeOf110 (aM c)) (ta (.b false) (aD ?_)))));obtain rfl := sIn h;exact aU ⟨rfl, _, [.box b1 0 (aM c), .box b2 0 (aM c)], .two (.cell 5 110 rfl (i := 1) rfl iI (es := (aM c)) rfl rfl) (.tmp 6 (v := .b false) rfl), .refl _, .same _⟩
    ·refine bV ?_;simp only [jA] at h;exact ⟨(c, j), h, aQ [0, 1] rfl rfl (aO ⟨rfl, rfl, rfl, rfl, rfl, trivial⟩)⟩
  ·refine bZ ?_;refine .inl ⟨rfl, ?_⟩;simp only [oB] at h;refine aF (aC (to (sla 0 (aM g) rfl rfl iI) (to (sst 1 rfl rfl Tryz.sizeOf110 (aM g)) (ta (.b false) (aD ?_)))));obtain rfl := sIn h;exact aU ⟨rfl, _, [.box b1 0 (aM g), .box b2 0 (aM g)], .two (.cell 5 110 rfl (i := 1) rfl iI (es := (aM g)) rfl rfl) (.tmp 6 (v := .b false) rfl), .refl _, .same _⟩

theorem vP (B : aJ) (e : Int) {r : Int} (h : nU B e = some r) : Fn Tryz.prog 38 [.cp (aW B), .i e] (.i r) := by
 unfold nU at h;refine Fn.of_tr Tryz.func38 rfl (rs := [.tmp 4]) Tryz.results38 Tryz.ntmps38 (Nat.le_of_ble_eq_true rfl) ?_;refine aF (aC ?_);refine cR (aGt 0 rfl (.cpt _)) ?_;refine bF rfl (gU (v := .d (.pt (aW B))) (aI rfl) rfl rfl rfl) ?_;rintro _ ⟨b1, rfl⟩;refine bF rfl (gU (v := .i e) (aI rfl) rfl rfl rfl) ?_;rintro _ ⟨b2, rfl⟩;refine ta (.i 0) (aD (aF (aC (to (kQ (.ptc _) (dA (aI rfl) rfl (i := 0) rfl rfl eZ)) ?_))));obtain ⟨r3, h4, h⟩ := bns h;refine to (dC (aI rfl) (.func _ _ Tryz.call34) rfl rfl (jV _ h4)) ?_;refine ta (.d (.sl 1 (r3.map aG))) (aD (aF (aC (to (kQ (.ptc _) (dA (aI rfl) rfl (i := 0) rfl rfl eZ)) ?_))));refine tm (.d (.sl 1 (r3.map aG))) ?_;obtain ⟨r5, h6, h⟩ := bns h;refine to (scr Tryz.call67 (mT _ _ h6)) (ta (.i r5) (aD (aF (aC (to (kQ (.ptc _) (dA (aI rfl) rfl (i := 0) rfl rfl eZ)) ?_)))));obtain ⟨r7, h8, h⟩ := bns h;refine bF rfl (iG (aI rfl) (.func _ _ Tryz.call35) rfl rfl (xG _ h8)) ?_;rintro _ ⟨v9, rfl⟩;refine to (mK (aI rfl) rfl rfl) ?_;refine cR (aQ [1, 2, 0] rfl rfl (le_refl _)) ?_;apply pA [.box b2 0 [.lit (.int .i64 e)], .arr v9 3 1 (r7.map aG)] [.box b1 0 [.pt (aW B)]] rfl;exact cG (k := 25) (v := .fn 68 [.cp [.pt (aW B)]]) (mY (.cons (cX 0 rfl rfl (dvc (.same _) dvn)) .nil)) (cG (k := 2) (v := .cp [.pt (aW B)]) (cX 0 rfl rfl (dvc (.same _) dvn)) (hM _ _));obtain ⟨E, a5, h⟩ := bns h;refine cR (aQ [1, 0] rfl rfl (le_refl _)) ?_;refine bF rfl (gA (passed := [.arr v9 3 1 (r7.map aG)]) (aI rfl) rfl (.func _ _ Tryz.call64) rfl rfl (dF r7 (fun a6 => kS a6 B) 68 [.cp [.pt (aW B)]] Tryz.call68 (fun _ _ h => uE _ B h) a5)) ?_;rintro _ ⟨_, _, ⟨Y, rfl, rfl⟩, rfl⟩;refine bF rfl (dX (zs := [.sl 1 ((([] : List Int)).map aG)]) (aI rfl) Tryz.zeroValue25 rfl rfl) ?_;rintro _ ⟨a0, rfl⟩;refine to (sst 2 rfl rfl Tryz.sizeOf25 [.lit Y]) (aD (aF (aC (to (mK (aI rfl) rfl rfl) ?_))));refine ta (.fn 69 [.cp [.pt (aW B)], .bp a0 0 0, .bp b2 0 0]) (aD (aF (aC (tm (.d (.sl 1 (r3.map aG))) (to (sle rfl bO.of) (tm (.i r5) (to (sar rfl rfl rfl) (tm (.i r5) (to (sJ (aI rfl) aKk (zs := [.lit (.int .i64 0), .lit (.int .i64 0), .lit (.int .i64 0), .lit (.int .i64 0)]) rfl rfl rfl rfl (es := [.lit (.int .i64 (w64 ((r3.length : Int) - r5))), .lit (.int .i64 r5), .lit (.int .i64 0), .lit (.int .i64 0)]) rfl) ?_)))))))));refine to (fG (aI rfl) rI rfl rfl (rows := ([(aP.mk (w64 ((r3.length : Int) - r5)) r5 0 0)]).map aM) rfl (aV (f := aM) fun _ => rfl) rfl (by decide)) ?_;refine ta (.d (.sl 4 ((([(aP.mk (w64 ((r3.length : Int) - r5)) r5 0 0)])).map aM))) (aD (aF (aC ?_)));refine bF rfl (wO (aI rfl)) ?_;rintro _ ⟨C, rfl⟩;refine ta (.d (.lit (.map (some C)))) (aD (aF (aF (aC (ta (.i 1) (aD (bL ?_)))))));refine bK (aQ [3, 0, 1, 2] rfl rfl (le_refl _)) ?_;apply wS [.map C (([] : List (aP × Int)).map fun p : aP × Int => ((fun a : aP => Value.agg ((aM a).map bT).toArray) p.1, (fun v : Int => AV.i v) p.2)) ([]) 0] [.arr Y 3 1 (E.map aG), .box b2 0 [.lit (.int .i64 e)], .box a0 0 [.lit Y]] rfl;exact cG (k := 27) (v := .fn 69 [.cp [.pt (aW B)], .cp [.sl 1 (E.map aG)], .cp [.lit (.int .i64 e)]]) (mY (.cons (.same _) (.cons (cX 2 rfl rfl (dvc (bI 0 rfl (aV (f := aG) fun _ => rfl)) dvn)) (.cons (cX 1 rfl rfl (dvc (.same _) dvn)) .nil)))) (cG (k := 26) (v := .d (.sl 1 (E.map aG))) (.d (bI 0 rfl (aV (f := aG) fun _ => rfl))) (cG (k := 24) (v := .any) (.any _) (cG (k := 8) (v := .fn 69 [.cp [.pt (aW B)], .cp [.sl 1 (E.map aG)], .cp [.lit (.int .i64 e)]]) (mY (.cons (.same _) (.cons (cX 2 rfl rfl (dvc (bI 0 rfl (aV (f := aG) fun _ => rfl)) dvn)) (.cons (cX 1 rfl rfl (dvc (.same _) dvn)) .nil)))) (cG (k := 7) (v := .cp [.sl 1 (E.map aG)]) (cX 2 rfl rfl (dvc (bI 0 rfl (aV (f := aG) fun _ => rfl)) dvn)) (cG (k := 3) (v := .cp [.lit (.int .i64 e)]) (cX 1 rfl rfl (dvc (.same _) dvn)) (hM _ _))))));refine cH (S := (List aP) × Int × (List (aP × Int)) × (List Nat) × Nat) [8, 10] (fun I => [(9, .d (.sl 4 (I.1.map aM))), (11, .i I.2.1)]) (fun I => [.map C (I.2.2.1.map fun p : aP × Int => ((fun a : aP => Value.agg ((aM a).map bT).toArray) p.1, (fun v : Int => AV.i v) p.2)) I.2.2.2.1 I.2.2.2.2]) (fun k I => fE B E e k I.1 I.2.1 I.2.2.1) (fun _ => rfl) ([(aP.mk (w64 ((r3.length : Int) - r5)) r5 0 0)], 1, ([] : List (aP × Int)), [], 0) h (aQ [0] rfl rfl (aL rfl (aL rfl (aO ⟨rfl, rfl, trivial⟩)))) ?_;rintro Z ⟨w, s, Q, a3, a4⟩ h;simp only [fE] at h;refine aF (aF (aC (tm (.d (.sl 4 (w.map aM))) (to (sle rfl rI.of) (to (scm rfl rfl rfl) (aD ?_))))));refine tih h (fun a7 h => ?_) (fun a7 h => ?_)
 ·refine bB (aF (bL (aF (aC (to (fP 110 4 (.inl rfl) (aI rfl)) ?_)))));refine aD (aF (aF (aC (tm (.d (.sl 4 (w.map aM))) (to (sle rfl rI.of) (tm (.i 0) (aD (bL ?_))))))));refine cH (S := Int × (List aP) × (List (aP × Int)) × Value × (List Nat) × Nat) [8, 10, 11, 41, 42] (fun F => [(12, .d (.lit F.2.2.2.1)), (43, .i F.1)]) (fun F => [.arr F.2.2.2.1 110 4 (F.2.1.map aM), .map C (F.2.2.1.map fun p : aP × Int => ((fun a : aP => Value.agg ((aM a).map bT).toArray) p.1, (fun v : Int => AV.i v) p.2)) F.2.2.2.2.1 F.2.2.2.2.2]) (fun k F => iB (fE B E e Z) B E e s w (w.length : Int) k F.1 F.2.1 F.2.2.1) (fun _ => rfl) (0, ([] : List aP), Q, (.slice none 0 0), a3, a4) h (aQ [1, 0] rfl rfl (aL rfl (aL rfl (aO ⟨rfl, rfl, rfl, rfl, rfl, trivial⟩)))) ?_;rintro a8 ⟨J, A, K, V, T, U⟩ h;simp only [iB] at h;refine aF (aC (to (scm rfl rfl rfl) (aD (aF ?_))));refine tih h (fun a9 h => ?_) (fun a9 h => ?_)
  ·refine bB (aF (bL (aF (aC ?_))));obtain ⟨t, b0, h⟩ := bns h;refine to (six rfl rfl rI.of (bR aM b0)) (to (aDx (aM t) rfl iI) ?_);refine bF rfl (dX (zs := [.lit (.int .i64 0), .lit (.int .i64 0), .lit (.int .i64 0), .lit (.int .i64 0)]) (aI rfl) Tryz.zeroValue110 rfl rfl) ?_;rintro _ ⟨N, rfl⟩;refine to (sst 2 rfl rfl Tryz.sizeOf110 (aM t)) (aD (aF (aC (tm (.i 0) (aD ?_)))));refine xB ?_;refine cH (S := Int × (List aP) × (List (aP × Int)) × Value × (List Nat) × Nat) [8, 10, 11, 14, 41, 42, 43] (fun G => [(12, .d (.lit G.2.2.2.1)), (47, .i G.1)]) (fun G => [.arr G.2.2.2.1 110 4 (G.2.1.map aM), .box N 0 (aM t), .map C (G.2.2.1.map fun p : aP × Int => ((fun a : aP => Value.agg ((aM a).map bT).toArray) p.1, (fun v : Int => AV.i v) p.2)) G.2.2.2.2.1 G.2.2.2.2.2]) (fun k G => dT (fE B E e Z) (iB (fE B E e Z) B E e s w (w.length : Int) a8) B E e s w (w.length : Int) J t k G.1 G.2.1 G.2.2.1) (fun _ => rfl) (0, A, K, V, T, U) h (aQ [0, 2, 1] rfl rfl (aL rfl (aL rfl (aO ⟨rfl, rfl, rfl, rfl, rfl, rfl, rfl, trivial⟩)))) ?_;rintro c9 ⟨n, q, c, H, u, o⟩ h;simp only [dT] at h;refine aF (aC (to (scm rfl rfl rfl) (aD (aF ?_))));refine tih h (fun b3 h => ?_) (fun b3 h => ?_)
   ·refine bB (aF (bL (aF (aC (tm (.i n) (ta (.i n) (aD (aF (aC (to (sla 1 (aM t) rfl rfl iI) ?_))))))))));refine bF rfl (dX (zs := [.lit (.int .i64 0), .lit (.int .i64 0), .lit (.int .i64 0), .lit (.int .i64 0)]) (aI rfl) Tryz.zeroValue110 rfl rfl) ?_;rintro _ ⟨W, rfl⟩;refine to (sst 3 rfl rfl Tryz.sizeOf110 (aM t)) (aD (aF (aF (aC (tm (.i n) (to (scm rfl rfl rfl) (aD ?_)))))));refine tih h (fun b4 h => ?_) (fun b4 h => ?_)
    ·refine aC (tfl 3 rfl rfl lQ rfl aS (to (sar rfl rfl rfl) (to (sf rfl lQ) (to (sst 3 rfl rfl Tryz.sizeOf3 (aM (aP.mk t.free (w64 (t.guarded - 1)) t.moved t.covered))) (aD (aF (aF (aC (tfl 3 rfl rfl lQ rfl aS (to (scm rfl rfl rfl) (tm (.b (decide ((w64 (t.guarded - 1)) < 0))) ?_)))))))))));obtain ⟨b5, O, h⟩ := bns h;refine bG 4 [8, 10, 11, 12, 14, 16, 41, 42, 43, 47] 68 b5 ?_ ?_
     ·refine bch O (fun L O => ?_) (fun L O => ?_)
      ·refine tp L (tp L (tp L (to (spt (.b true) L) ?_)));obtain rfl := sIn O;refine aD (aR rfl ⟨rfl, rfl, rfl, rfl, rfl, rfl, rfl, rfl, rfl, rfl, trivial⟩ rfl)
      ·refine tkl 3 L rfl rfl nF rfl aS (tk L (scm rfl rfl rfl) (to (spf (.b (decide (t.free < 0))) L) ?_));obtain rfl := sIn O;refine aD (aR rfl ⟨rfl, rfl, rfl, rfl, rfl, rfl, rfl, rfl, rfl, rfl, trivial⟩ rfl)
     ·refine aD ?_;refine tih h (fun b6 h => ?_) (fun b6 h => ?_)
      ·refine bZ ?_;refine .inl ⟨rfl, ?_⟩;refine aC (to (sar rfl rfl rfl) (tm (.i (w64 (n + 1))) (aD ?_)));exact ⟨(w64 (n + 1), q, c, H, u, o), h, aQ [0, 1, 2] rfl rfl (aL rfl (aL rfl (aO ⟨rfl, rfl, rfl, rfl, rfl, rfl, rfl, trivial⟩)))⟩
      ·refine bB (aF (aC (tm (.fn 69 [.cp [.pt (aW B)], .cp [.sl 1 (E.map aG)], .cp [.lit (.int .i64 e)]]) (to (sla 3 (aM (aP.mk t.free (w64 (t.guarded - 1)) t.moved t.covered)) rfl rfl iI) ?_))));obtain ⟨g, b7, h⟩ := bns h;refine to (dC (aI rfl) (.clo _ _ _ _ Tryz.call69 rfl) (aAc rfl) rfl (oV _ _ _ _ b7)) ?_;refine tm (.tup [.agg (aM g.1), .b g.2]) (to (sex rfl rfl) (to (sex rfl rfl) (to (sst 3 rfl rfl Tryz.sizeOf110 (aM g.1)) (ta (.b g.2) (aD (aF (aF (aC (tm (.b g.2) (aD ?_))))))))));refine tih h (fun b8 h => ?_) (fun b8 h => ?_)
       ·refine aF (aC (tm (.i s) (ta (.i s) (aD ?_))));obtain rfl := sIn h;refine bK (bE (bH (l := [4]) ⟨rfl, trivial⟩)) ?_;exact aU ⟨rfl, _, .one _, rfl, rfl⟩
       ·refine bB (aF ?_);refine jJ mix 6 [8, 10, 11, 12, 14, 16, 41, 42, 43, 47] (fun x => [(77, .d (.lit (.map (some C)))), (80, .i (w64 ((aE g.1 0 c) + 1))), (82, .i (kO g.1 c u o))]) (fun x => [.arr H 110 4 (q.map aM), .box N 0 (aM t), .map C ((kN g.1 0 c).map fun p : aP × Int => ((fun a : aP => Value.agg ((aM a).map bT).toArray) p.1, (fun v : Int => AV.i v) p.2)) (mbs g.1 c u o) (mck g.1 c o), .box W 0 (aM g.1)]) ?_ ?_
        ·refine ⟨0, fun x => [(77, 0, .d (.lit (.map (some C)))), (78, 1, .agg (aM g.1)), (79, 2, .i (aE g.1 0 c)), (80, 3, .i (w64 ((aE g.1 0 c) + 1))), (81, 4, .tup [.i (aE g.1 0 c), .i (kO g.1 c u o)]), (82, 5, .i (kO g.1 c u o))], fun x => [([], .arr H 110 4 (q.map aM)), ([], .box N 0 (aM t)), ([(4, .map C ((kN g.1 0 c).map fun p : aP × Int => ((fun a : aP => Value.agg ((aM a).map bT).toArray) p.1, (fun v : Int => AV.i v) p.2)) (mbs g.1 c u o) (mck g.1 c o))], .map C (c.map fun p : aP × Int => ((fun a : aP => Value.agg ((aM a).map bT).toArray) p.1, (fun v : Int => AV.i v) p.2)) u o), ([], .box W 0 (aM g.1))], ?_, ?_⟩
         · exact ⟨by kernel_rfl, by kernel_rfl, by kernel_rfl, fun _ => by kernel_rfl, fun _ => by kernel_rfl, fun _ => by kernel_rfl, fun _ => rfl, [([], [4]), ([], [4]), ([0, 1], []), ([2], []), ([0, 1], []), ([4], [])], by kernel_rfl, ⟨fun x S hw hi hS => aZ (X := x) rfl (hw x) rfl (bJ rfl (jG (v := .d (.lit (.map (some C)))) (aI rfl) (aN hS rfl) rfl)),
      fun x S hw hi hS => aZ (X := x) rfl (hw x) rfl (bJ rfl (pQ (aI rfl) (aN hS rfl) (i := 3) (og hS rfl rfl) iI (es := (aM g.1)) rfl rfl)),
      fun x S hw hi hS => aZ (X := x) rfl (hw x) rfl (bJ rfl (aBq (av := (fun v : Int => AV.i v)) (l := c) (z := 0) (a := g.1) (m := 2) (aI rfl) sE Tryz.underlying113 Tryz.zeroValue3 (fun _ _ => .d (.lit _ rfl)) (aN hS rfl) (og2 rfl) rfl (aN hS rfl) (oX (enc := aM) g.1 rfl))),
      fun x S hw hi hS => aZ (X := x) rfl (hw x) rfl (bJ rfl (xA (aI rfl) (aN hS rfl) rfl rfl)),
      fun x S hw hi hS => aHu (X := x) (p := 2) hS rfl rfl rfl (hw x) rfl rfl rfl (jI (zQ (av := (fun v : Int => AV.i v)) (l := c) (z := 0) (a := g.1) (m := 2) (aI rfl) sE Tryz.underlying113 Tryz.zeroValue3 (fun _ _ => .d (.lit _ rfl)) (aN hS rfl) (og hS rfl rfl) rfl (aN hS rfl) (oX (enc := aM) g.1 rfl)) (by rintro _ rfl; exact Ent.refl _)),
      fun x S hw hi hS => aZ (X := x) rfl (hw x) rfl (bJ rfl (wN (aI rfl) (aN hS rfl) rfl)), trivial⟩⟩
         · exact fun x => bM (aL rfl (aL rfl (aL rfl (aO ⟨rfl, rfl, rfl, rfl, rfl, rfl, rfl, rfl, rfl, rfl, trivial⟩))))
        ·intro x;refine to (vM (kv := (fun a : aP => Value.agg ((aM a).map bT).toArray)) (av := (fun v : Int => AV.i v)) (l := c) (z := 0) (v := w64 ((aE g.1 0 c) + 1)) (a := g.1) (m := 2) rfl rfl rfl rfl rfl) ?_;refine aD (aF (aC (tm (.d (.lit (.map (some C)))) (to (sla 3 (aM g.1) rfl rfl iI) (to (tD (av := (fun v : Int => AV.i v)) (l := (bX g.1 (w64 ((aE g.1 0 c) + 1)) c)) (z := 0) (a := g.1) (m := 2) (aI rfl) sE Tryz.underlying113 Tryz.zeroValue3 (fun _ _ => .d (.lit _ rfl)) rfl rfl rfl rfl (oX (enc := aM) g.1 rfl)) ?_)))));refine to (scm rfl rfl rfl) (aD ?_);refine tih h (fun b9 h => ?_) (fun b9 h => ?_)
         ·refine aC (tm (.d (.lit H)) (to (sla 3 (aM g.1) rfl rfl iI) (to (fG (aI rfl) rI rfl rfl (rows := ([g.1]).map aM) rfl (aV (f := aM) fun _ => rfl) rfl (by decide)) ?_)));obtain ⟨c0, c1, h⟩ := bns h;refine bF rfl (kC (i := 0) (aI rfl) rI rfl rfl rfl (fun _ => rfl) c1 rfl) ?_;rintro _ ⟨a1, rfl⟩;refine ta (.d (.lit a1)) ?_;refine cN ?_;refine aC (to (sar rfl rfl rfl) (tm (.i (w64 (n + 1))) (aD ?_)));exact ⟨(w64 (n + 1), c0, (bX g.1 (w64 ((aE g.1 0 c) + 1)) c), a1, (mbs g.1 c u o), (mck g.1 c o)), h, aQ [0, 1, 2] rfl rfl (aL rfl (aL rfl (aO ⟨rfl, rfl, rfl, rfl, rfl, rfl, rfl, trivial⟩)))⟩
         ·refine bV ?_;refine aC (to (sar rfl rfl rfl) (tm (.i (w64 (n + 1))) (aD ?_)));exact ⟨(w64 (n + 1), q, (bX g.1 (w64 ((aE g.1 0 c) + 1)) c), H, (mbs g.1 c u o), (mck g.1 c o)), h, aQ [0, 1, 2] rfl rfl (aL rfl (aL rfl (aO ⟨rfl, rfl, rfl, rfl, rfl, rfl, rfl, trivial⟩)))⟩
    ·refine aC (tfl 3 rfl rfl nF rfl aS (to (sar rfl rfl rfl) (to (sf rfl nF) (to (sst 3 rfl rfl Tryz.sizeOf3 (aM (aP.mk (w64 (t.free - 1)) t.guarded t.moved t.covered))) (aD (aF (aF (aC (tfl 3 rfl rfl lQ rfl aS (to (scm rfl rfl rfl) (tm (.b (decide (t.guarded < 0))) ?_)))))))))));obtain ⟨c2, P, h⟩ := bns h;refine bG 4 [8, 10, 11, 12, 14, 16, 41, 42, 43, 47] 68 c2 ?_ ?_
     ·refine bch P (fun M P => ?_) (fun M P => ?_)
      ·refine tp M (tp M (tp M (to (spt (.b true) M) ?_)));obtain rfl := sIn P;refine aD (aR rfl ⟨rfl, rfl, rfl, rfl, rfl, rfl, rfl, rfl, rfl, rfl, trivial⟩ rfl)
      ·refine tkl 3 M rfl rfl nF rfl aS (tk M (scm rfl rfl rfl) (to (spf (.b (decide ((w64 (t.free - 1)) < 0))) M) ?_));obtain rfl := sIn P;refine aD (aR rfl ⟨rfl, rfl, rfl, rfl, rfl, rfl, rfl, rfl, rfl, rfl, trivial⟩ rfl)
     ·refine aD ?_;refine tih h (fun c3 h => ?_) (fun c3 h => ?_)
      ·refine bZ ?_;refine .inl ⟨rfl, ?_⟩;refine aC (to (sar rfl rfl rfl) (tm (.i (w64 (n + 1))) (aD ?_)));exact ⟨(w64 (n + 1), q, c, H, u, o), h, aQ [0, 1, 2] rfl rfl (aL rfl (aL rfl (aO ⟨rfl, rfl, rfl, rfl, rfl, rfl, rfl, trivial⟩)))⟩
      ·refine bB (aF (aC (tm (.fn 69 [.cp [.pt (aW B)], .cp [.sl 1 (E.map aG)], .cp [.lit (.int .i64 e)]]) (to (sla 3 (aM (aP.mk (w64 (t.free - 1)) t.guarded t.moved t.covered)) rfl rfl iI) ?_))));obtain ⟨j, c4, h⟩ := bns h;refine to (dC (aI rfl) (.clo _ _ _ _ Tryz.call69 rfl) (aAc rfl) rfl (oV _ _ _ _ c4)) ?_;refine tm (.tup [.agg (aM j.1), .b j.2]) (to (sex rfl rfl) (to (sex rfl rfl) (to (sst 3 rfl rfl Tryz.sizeOf110 (aM j.1)) (ta (.b j.2) (aD (aF (aF (aC (tm (.b j.2) (aD ?_))))))))));refine tih h (fun c5 h => ?_) (fun c5 h => ?_)
       ·refine aF (aC (tm (.i s) (ta (.i s) (aD ?_))));obtain rfl := sIn h;refine bK (bE (bH (l := [4]) ⟨rfl, trivial⟩)) ?_;exact aU ⟨rfl, _, .one _, rfl, rfl⟩
       ·refine bB (aF ?_);refine jJ mix 6 [8, 10, 11, 12, 14, 16, 41, 42, 43, 47] (fun y => [(77, .d (.lit (.map (some C)))), (80, .i (w64 ((aE j.1 0 c) + 1))), (82, .i (kO j.1 c u o))]) (fun y => [.arr H 110 4 (q.map aM), .box N 0 (aM t), .map C ((kN j.1 0 c).map fun p : aP × Int => ((fun a : aP => Value.agg ((aM a).map bT).toArray) p.1, (fun v : Int => AV.i v) p.2)) (mbs j.1 c u o) (mck j.1 c o), .box W 0 (aM j.1)]) ?_ ?_
        ·refine ⟨0, fun y => [(77, 0, .d (.lit (.map (some C)))), (78, 1, .agg (aM j.1)), (79, 2, .i (aE j.1 0 c)), (80, 3, .i (w64 ((aE j.1 0 c) + 1))), (81, 4, .tup [.i (aE j.1 0 c), .i (kO j.1 c u o)]), (82, 5, .i (kO j.1 c u o))], fun y => [([], .arr H 110 4 (q.map aM)), ([], .box N 0 (aM t)), ([(4, .map C ((kN j.1 0 c).map fun p : aP × Int => ((fun a : aP => Value.agg ((aM a).map bT).toArray) p.1, (fun v : Int => AV.i v) p.2)) (mbs j.1 c u o) (mck j.1 c o))], .map C (c.map fun p : aP × Int => ((fun a : aP => Value.agg ((aM a).map bT).toArray) p.1, (fun v : Int => AV.i v) p.2)) u o), ([], .box W 0 (aM j.1))], ?_, ?_⟩
         · exact ⟨by kernel_rfl, by kernel_rfl, by kernel_rfl, fun _ => by kernel_rfl, fun _ => by kernel_rfl, fun _ => by kernel_rfl, fun _ => rfl, [([], [4]), ([], [4]), ([0, 1], []), ([2], []), ([0, 1], []), ([4], [])], by kernel_rfl, ⟨fun y S hw hi hS => aZ (X := y) rfl (hw y) rfl (bJ rfl (jG (v := .d (.lit (.map (some C)))) (aI rfl) (aN hS rfl) rfl)),
      fun y S hw hi hS => aZ (X := y) rfl (hw y) rfl (bJ rfl (pQ (aI rfl) (aN hS rfl) (i := 3) (og hS rfl rfl) iI (es := (aM j.1)) rfl rfl)),
      fun y S hw hi hS => aZ (X := y) rfl (hw y) rfl (bJ rfl (aBq (av := (fun v : Int => AV.i v)) (l := c) (z := 0) (a := j.1) (m := 2) (aI rfl) sE Tryz.underlying113 Tryz.zeroValue3 (fun _ _ => .d (.lit _ rfl)) (aN hS rfl) (og2 rfl) rfl (aN hS rfl) (oX (enc := aM) j.1 rfl))),
      fun y S hw hi hS => aZ (X := y) rfl (hw y) rfl (bJ rfl (xA (aI rfl) (aN hS rfl) rfl rfl)),
      fun y S hw hi hS => aHu (X := y) (p := 2) hS rfl rfl rfl (hw y) rfl rfl rfl (jI (zQ (av := (fun v : Int => AV.i v)) (l := c) (z := 0) (a := j.1) (m := 2) (aI rfl) sE Tryz.underlying113 Tryz.zeroValue3 (fun _ _ => .d (.lit _ rfl)) (aN hS rfl) (og hS rfl rfl) rfl (aN hS rfl) (oX (enc := aM) j.1 rfl)) (by rintro _ rfl; exact Ent.refl _)),
      fun y S hw hi hS => aZ (X := y) rfl (hw y) rfl (bJ rfl (wN (aI rfl) (aN hS rfl) rfl)), trivial⟩⟩
         · exact fun y => bM (aL rfl (aL rfl (aL rfl (aO ⟨rfl, rfl, rfl, rfl, rfl, rfl, rfl, rfl, rfl, rfl, trivial⟩))))
        ·intro y;refine to (vM (kv := (fun a : aP => Value.agg ((aM a).map bT).toArray)) (av := (fun v : Int => AV.i v)) (l := c) (z := 0) (v := w64 ((aE j.1 0 c) + 1)) (a := j.1) (m := 2) rfl rfl rfl rfl rfl) ?_;refine aD (aF (aC (tm (.d (.lit (.map (some C)))) (to (sla 3 (aM j.1) rfl rfl iI) (to (tD (av := (fun v : Int => AV.i v)) (l := (bX j.1 (w64 ((aE j.1 0 c) + 1)) c)) (z := 0) (a := j.1) (m := 2) (aI rfl) sE Tryz.underlying113 Tryz.zeroValue3 (fun _ _ => .d (.lit _ rfl)) rfl rfl rfl rfl (oX (enc := aM) j.1 rfl)) ?_)))));refine to (scm rfl rfl rfl) (aD ?_);refine tih h (fun c6 h => ?_) (fun c6 h => ?_)
         ·refine aC (tm (.d (.lit H)) (to (sla 3 (aM j.1) rfl rfl iI) (to (fG (aI rfl) rI rfl rfl (rows := ([j.1]).map aM) rfl (aV (f := aM) fun _ => rfl) rfl (by decide)) ?_)));obtain ⟨c7, c8, h⟩ := bns h;refine bF rfl (kC (i := 0) (aI rfl) rI rfl rfl rfl (fun _ => rfl) c8 rfl) ?_;rintro _ ⟨a2, rfl⟩;refine ta (.d (.lit a2)) ?_;refine cN ?_;refine aC (to (sar rfl rfl rfl) (tm (.i (w64 (n + 1))) (aD ?_)));exact ⟨(w64 (n + 1), c7, (bX j.1 (w64 ((aE j.1 0 c) + 1)) c), a2, (mbs j.1 c u o), (mck j.1 c o)), h, aQ [0, 1, 2] rfl rfl (aL rfl (aL rfl (aO ⟨rfl, rfl, rfl, rfl, rfl, rfl, rfl, trivial⟩)))⟩
         ·refine bV ?_;refine aC (to (sar rfl rfl rfl) (tm (.i (w64 (n + 1))) (aD ?_)));exact ⟨(w64 (n + 1), q, (bX j.1 (w64 ((aE j.1 0 c) + 1)) c), H, (mbs j.1 c u o), (mck j.1 c o)), h, aQ [0, 1, 2] rfl rfl (aL rfl (aL rfl (aO ⟨rfl, rfl, rfl, rfl, rfl, rfl, rfl, trivial⟩)))⟩
   ·refine bZ ?_;refine .inl ⟨rfl, ?_⟩;simp only [pJ] at h;simp only [pI] at h;refine aC (to (sar rfl rfl rfl) (tm (.i (w64 (J + 1))) (aD ?_)));exact ⟨(w64 (J + 1), q, c, H, u, o), h, aQ [0, 2] rfl rfl (aL rfl (aL rfl (aO ⟨rfl, rfl, rfl, rfl, rfl, trivial⟩)))⟩
  ·refine bZ ?_;refine .inl ⟨rfl, ?_⟩;simp only [pH] at h;refine aC (tm (.d (.lit V)) (ta (.d (.lit V)) ?_));refine cN ?_;simp only [pG] at h;refine aC (tm (.i s) (to (sar rfl rfl rfl) (ta (.i (w64 (s + 1))) (aD ?_))));exact ⟨(A, w64 (s + 1), K, T, U), h, (aQ [1, 0] rfl rfl (le_refl _)).trans ((aAb [.map C (K.map fun p : aP × Int => ((fun a : aP => Value.agg ((aM a).map bT).toArray) p.1, (fun v : Int => AV.i v) p.2)) T U] [.arr V 110 4 (A.map aM)] rfl (cG (k := 93) (v := .d (.sl 4 (A.map aM))) (.d (bI 0 rfl (aV (f := aM) fun _ => rfl))) (cG (k := 12) (v := .d (.sl 4 (A.map aM))) (.d (bI 0 rfl (aV (f := aM) fun _ => rfl))) (cG (k := 9) (v := .d (.sl 4 (A.map aM))) (.d (bI 0 rfl (aV (f := aM) fun _ => rfl))) (hM _ _))))).trans (aQ [0] rfl rfl (aL rfl (aL rfl (aO ⟨rfl, rfl, trivial⟩)))))⟩
 ·refine bZ ?_;refine .inl ⟨rfl, ?_⟩;simp only [pF] at h;refine aF (aC (ta (.i 61) (aD ?_)));obtain rfl := sIn h;refine bK (bE (bH (l := [4]) ⟨rfl, trivial⟩)) ?_;exact aU ⟨rfl, _, .one _, rfl, rfl⟩

theorem vO (c : aJ) (f : Int) {r : Int} (h : jU c f = some r) : Fn Tryz.prog 39 [.cp (aW c), .i f] (.i r) := by
 unfold jU at h;refine Fn.of_tr Tryz.func39 rfl (rs := [.tmp 4]) Tryz.results39 Tryz.ntmps39 (Nat.le_of_ble_eq_true rfl) ?_;refine aF (aC (ta (.i 0) (aD (aF (aC (ta (.i 0) (ta (.i 0) (aD (aF (aF (aC (tm (.cp [.lit (.int .i64 c.Field.Places), .lit (.int .i64 c.Field.Wilds), .lit (.int .i64 c.Field.Guards), .lit (.int .i64 c.Field.Close), .lit (.int .i64 c.Field.Freeze), .mp true (c.players.map fun p : Int × aA => ((fun n : Int => Value.int .i64 n) p.1, aB p.2)), .sl 1 (c.wilds.map aG), .lit (.bool c.frozen), .sl 1 (c.first.map aG), .sl 1 (c.late.map aG), .lit (.int .i64 c.more), .lit (.int .i64 c.entered)]) ?_))))))))))));obtain ⟨r1, h2, h⟩ := bns h;refine to (dC (aI rfl) (.func _ _ Tryz.call52) rfl rfl (pK _ h2)) ?_;refine to (sle rfl bO.of) (tm (.i 0) (aD (bL ?_)));refine cH (S := Int × Int × Int) [0, 1, 14, 15] (fun s3 => [(5, .i s3.1), (6, .i s3.2.1), (16, .i s3.2.2)]) (fun s3 => []) (fun k s3 => iA c f r1 (r1.length : Int) k s3.1 s3.2.1 s3.2.2) (fun _ => rfl) (0, 0, 0) h (aQ [] rfl rfl (aL rfl (aL rfl (aL rfl (aO ⟨rfl, rfl, rfl, rfl, trivial⟩))))) ?_;rintro k4 ⟨e, d, y⟩ h;simp only [iA] at h;refine aF (aC (to (scm rfl rfl rfl) (aD (aF ?_))));refine tih h (fun c5 h => ?_) (fun c5 h => ?_)
 ·refine bB (aF (bL (aF (aC ?_))));obtain ⟨x6, h7, h⟩ := bns h;refine to (six rfl rfl bO.of (bR aG h7)) (to (slc rfl aS) (ta (.i x6) (aD (aF (aF (aC (tm (.i x6) (tm (.i f) (to (scm rfl rfl rfl) (aD ?_))))))))));refine tih h (fun c8 h => ?_) (fun c8 h => ?_)
  ·refine bZ ?_;refine .inr ⟨by decide, ?_⟩;refine .inl ⟨rfl, ?_⟩;simp only [jY] at h;refine aF (aC (ta (.i 61) (aD (aF (aF (aC (tm (.i e) (to (sar rfl rfl rfl) (tm (.i 0) (aD (bL ?_)))))))))));refine cH (S := Int × Int) [0, 1, 5, 6, 36] (fun s9 => [(9, .i s9.1), (37, .i s9.2)]) (fun s9 => []) (fun k s9 => eJ c f e d (w64 (e + 1)) k s9.1 s9.2) (fun _ => rfl) (61, 0) h (aQ [] rfl rfl (aL rfl (aL rfl (aO ⟨rfl, rfl, rfl, rfl, rfl, trivial⟩)))) ?_;rintro L ⟨A, o⟩ h;simp only [eJ] at h;refine aF (aC (to (scm rfl rfl rfl) (aD (aF ?_))));refine tih h (fun M h => ?_) (fun M h => ?_)
   ·refine bB (aF (bL (aF (aC (tm (.i o) (ta (.i o) (aD (aF (aC (tm (.i d) (to (sar rfl rfl rfl) (tm (.i 0) (aD ?_)))))))))))));refine xB ?_;refine cH (S := Int × Int) [0, 1, 5, 6, 10, 36, 37, 41] (fun E => [(9, .i E.1), (42, .i E.2)]) (fun E => []) (fun k E => fD (eJ c f e d (w64 (e + 1)) L) c f e d o (w64 (e + 1)) o (w64 (d + 1)) k E.1 E.2) (fun _ => rfl) (A, 0) h (aQ [] rfl rfl (aL rfl (aL rfl (aO ⟨rfl, rfl, rfl, rfl, rfl, rfl, rfl, rfl, trivial⟩)))) ?_;rintro a2 ⟨t, g⟩ h;simp only [fD] at h;refine aF (aC (to (scm rfl rfl rfl) (aD (aF ?_))));refine tih h (fun N h => ?_) (fun N h => ?_)
    ·refine bB (aF (bL (aF (aC (tm (.i g) (ta (.i g) (aD (aF (aC (tm (.i d) (tm (.i g) (to (sar rfl rfl rfl) (tm (.cp [.lit (.int .i64 c.Field.Places), .lit (.int .i64 c.Field.Wilds), .lit (.int .i64 c.Field.Guards), .lit (.int .i64 c.Field.Close), .lit (.int .i64 c.Field.Freeze), .mp true (c.players.map fun p : Int × aA => ((fun n : Int => Value.int .i64 n) p.1, aB p.2)), .sl 1 (c.wilds.map aG), .lit (.bool c.frozen), .sl 1 (c.first.map aG), .sl 1 (c.late.map aG), .lit (.int .i64 c.more), .lit (.int .i64 c.entered)]) ?_)))))))))))));refine to (cA (aI rfl) rfl) ?_;refine to (sfc [.lit (.int .i64 c.Field.Places), .lit (.int .i64 c.Field.Wilds), .lit (.int .i64 c.Field.Guards), .lit (.int .i64 c.Field.Close), .lit (.int .i64 c.Field.Freeze)] rfl eE) (to (sfc [.lit (.int .i64 c.Field.Guards)] rfl mA) (to (slc rfl aS) (to (aCb (aI rfl) rfl rfl) ?_)));refine ta (.i (min (w64 (d - g)) c.Field.Guards)) (aD (aF (aC (tm (.i e) (tm (.i o) (to (sar rfl rfl rfl) (tm (.i (min (w64 (d - g)) c.Field.Guards)) (to (sar rfl rfl rfl) (tm (.cp [.lit (.int .i64 c.Field.Places), .lit (.int .i64 c.Field.Wilds), .lit (.int .i64 c.Field.Guards), .lit (.int .i64 c.Field.Close), .lit (.int .i64 c.Field.Freeze), .mp true (c.players.map fun p : Int × aA => ((fun n : Int => Value.int .i64 n) p.1, aB p.2)), .sl 1 (c.wilds.map aG), .lit (.bool c.frozen), .sl 1 (c.first.map aG), .sl 1 (c.late.map aG), .lit (.int .i64 c.more), .lit (.int .i64 c.entered)]) ?_)))))))));obtain ⟨O, P, h⟩ := bns h;refine to (scr Tryz.call36 (eS _ P)) (to (scm rfl rfl rfl) (tm (.b (decide ((w64 ((w64 (e - o)) + (min (w64 (d - g)) c.Field.Guards))) < O))) ?_));obtain ⟨Q, B, h⟩ := bns h;refine bG 18 [0, 1, 5, 6, 9, 10, 11, 36, 37, 41, 42] 80 Q ?_ ?_
     ·refine bch B (fun q B => ?_) (fun q B => ?_)
      ·refine tk q (sm (.cp [.lit (.int .i64 c.Field.Places), .lit (.int .i64 c.Field.Wilds), .lit (.int .i64 c.Field.Guards), .lit (.int .i64 c.Field.Close), .lit (.int .i64 c.Field.Freeze), .mp true (c.players.map fun p : Int × aA => ((fun n : Int => Value.int .i64 n) p.1, aB p.2)), .sl 1 (c.wilds.map aG), .lit (.bool c.frozen), .sl 1 (c.first.map aG), .sl 1 (c.late.map aG), .lit (.int .i64 c.more), .lit (.int .i64 c.entered)])) (tk q (cA (aI rfl) rfl) ?_);refine tk q (sfc [.mp true (c.players.map fun p : Int × aA => ((fun n : Int => Value.int .i64 n) p.1, aB p.2))] rfl cU) (tk q (slc rfl eC) (tk q (sm (.i f)) (tk q (fW (enc := aB) (agg := true) (l := c.players) (z := (aA.mk false false 0 0 false false false false)) (a := f) (aI rfl) fF Tryz.underlying68 Tryz.zeroValue94 (fun _ _ => .agg (gJ rfl)) rfl rfl rfl rfl (cI (kv := (fun n : Int => Value.int .i64 n)) f)) ?_)));refine tk q (kD (aI rfl) rfl Tryz.runUnderlying94 rfl dU rfl) ?_;refine tk q (sn rfl) (tk q (sm (.b (!((aE f (aA.mk false false 0 0 false false false false) c.players).guard)))) ?_);obtain ⟨J, H, B⟩ := bns B;refine bG 8 [0, 1, 5, 6, 9, 10, 11, 36, 37, 41, 42, 62, 63, 64, 65, 66, 67, 68, 69, 70, 71] 79 J ?_ ?_
       ·refine bch H (fun u H => ?_) (fun u H => ?_)
        ·refine tp u (tp u (tp u (tp u (tp u (tp u (tp u (tk q (spt (.b true) u) ?_)))))));obtain rfl := sIn H;refine aD (aR rfl ⟨rfl, rfl, rfl, rfl, rfl, rfl, rfl, rfl, rfl, rfl, rfl, rfl, rfl, rfl, rfl, rfl, rfl, rfl, rfl, rfl, rfl, trivial⟩ rfl)
        ·refine tk u (sm (.i (min (w64 (d - g)) c.Field.Guards))) (tk u (sm (.cp [.lit (.int .i64 c.Field.Places), .lit (.int .i64 c.Field.Wilds), .lit (.int .i64 c.Field.Guards), .lit (.int .i64 c.Field.Close), .lit (.int .i64 c.Field.Freeze), .mp true (c.players.map fun p : Int × aA => ((fun n : Int => Value.int .i64 n) p.1, aB p.2)), .sl 1 (c.wilds.map aG), .lit (.bool c.frozen), .sl 1 (c.first.map aG), .sl 1 (c.late.map aG), .lit (.int .i64 c.more), .lit (.int .i64 c.entered)])) (tk u (cA (aI rfl) rfl) ?_));refine tk u (sfc [.lit (.int .i64 c.Field.Places), .lit (.int .i64 c.Field.Wilds), .lit (.int .i64 c.Field.Guards), .lit (.int .i64 c.Field.Close), .lit (.int .i64 c.Field.Freeze)] rfl eE) (tk u (sfc [.lit (.int .i64 c.Field.Guards)] rfl mA) (tk u (slc rfl aS) (tk u (scm rfl rfl rfl) (tk q (spf (.b (decide ((min (w64 (d - g)) c.Field.Guards) < c.Field.Guards))) u) ?_))));obtain rfl := sIn H;refine aD (aR rfl ⟨rfl, rfl, rfl, rfl, rfl, rfl, rfl, rfl, rfl, rfl, rfl, rfl, rfl, rfl, rfl, rfl, rfl, rfl, rfl, rfl, rfl, trivial⟩ rfl)
       ·refine to (spt (.b J) q) ?_;obtain rfl := sIn B;refine aD (aR rfl ⟨rfl, rfl, rfl, rfl, rfl, rfl, rfl, rfl, rfl, rfl, rfl, trivial⟩ rfl)
      ·refine tp q (tp q (tp q (tp q (tp q (tp q (tp q (tp q (tp q (tq (tq (tq (tq (tq ?_)))))))))))));refine tq (tq (tp q (to (spf (.b false) q) ?_)));obtain rfl := sIn B;refine aD (aR rfl ⟨rfl, rfl, rfl, rfl, rfl, rfl, rfl, rfl, rfl, rfl, rfl, trivial⟩ rfl)
     ·refine aD ?_;refine tih h (fun T h => ?_) (fun T h => ?_)
      ·refine aC (tm (.i t) (tm (.i o) (tm (.i g) (to (sar rfl rfl rfl) (to (aCb (aI rfl) rfl rfl) ?_)))));refine ta (.i (min t (w64 (o + g)))) ?_;refine cN ?_;refine aC (to (sar rfl rfl rfl) (tm (.i (w64 (g + 1))) (aD ?_)));exact ⟨(min t (w64 (o + g)), w64 (g + 1)), h, aQ [] rfl rfl (aL rfl (aL rfl (aO ⟨rfl, rfl, rfl, rfl, rfl, rfl, rfl, rfl, trivial⟩)))⟩
      ·refine bV ?_;refine aC (to (sar rfl rfl rfl) (tm (.i (w64 (g + 1))) (aD ?_)));exact ⟨(t, w64 (g + 1)), h, aQ [] rfl rfl (aL rfl (aL rfl (aO ⟨rfl, rfl, rfl, rfl, rfl, rfl, rfl, rfl, trivial⟩)))⟩
    ·refine bZ ?_;refine .inl ⟨rfl, ?_⟩;simp only [lV] at h;simp only [lU] at h;refine aC (to (sar rfl rfl rfl) (tm (.i (w64 (o + 1))) (aD ?_)));exact ⟨(t, w64 (o + 1)), h, aQ [] rfl rfl (aL rfl (aL rfl (aO ⟨rfl, rfl, rfl, rfl, rfl, trivial⟩)))⟩
   ·refine bZ ?_;refine .inl ⟨rfl, ?_⟩;simp only [lT] at h;refine aF (aC (tm (.i A) (ta (.i A) (aD ?_))));obtain rfl := sIn h;exact aU ⟨rfl, _, .one _, rfl, rfl⟩
  ·refine bB (aF (aC (tm (.cp [.lit (.int .i64 c.Field.Places), .lit (.int .i64 c.Field.Wilds), .lit (.int .i64 c.Field.Guards), .lit (.int .i64 c.Field.Close), .lit (.int .i64 c.Field.Freeze), .mp true (c.players.map fun p : Int × aA => ((fun n : Int => Value.int .i64 n) p.1, aB p.2)), .sl 1 (c.wilds.map aG), .lit (.bool c.frozen), .sl 1 (c.first.map aG), .sl 1 (c.late.map aG), .lit (.int .i64 c.more), .lit (.int .i64 c.entered)]) (to (cA (aI rfl) rfl) ?_))));refine to (sfc [.mp true (c.players.map fun p : Int × aA => ((fun n : Int => Value.int .i64 n) p.1, aB p.2))] rfl cU) (to (slc rfl eC) (tm (.i x6) (to (fW (enc := aB) (agg := true) (l := c.players) (z := (aA.mk false false 0 0 false false false false)) (a := x6) (aI rfl) fF Tryz.underlying68 Tryz.zeroValue94 (fun _ _ => .agg (gJ rfl)) rfl rfl rfl rfl (cI (kv := (fun n : Int => Value.int .i64 n)) x6)) ?_)));refine to (kD (aI rfl) rfl Tryz.runUnderlying94 rfl dU rfl) ?_;refine aD ?_;refine tih h (fun U h => ?_) (fun U h => ?_)
   ·refine aC (tm (.i d) (to (sar rfl rfl rfl) (ta (.i (w64 (d + 1))) ?_)));refine cN ?_;refine aC (to (sar rfl rfl rfl) (tm (.i (w64 (y + 1))) (aD ?_)));exact ⟨(e, w64 (d + 1), w64 (y + 1)), h, aQ [] rfl rfl (aL rfl (aL rfl (aL rfl (aO ⟨rfl, rfl, rfl, rfl, trivial⟩))))⟩
   ·refine aC (tm (.i e) (to (sar rfl rfl rfl) (ta (.i (w64 (e + 1))) ?_)));refine cN ?_;refine aC (to (sar rfl rfl rfl) (tm (.i (w64 (y + 1))) (aD ?_)));exact ⟨(w64 (e + 1), d, w64 (y + 1)), h, aQ [] rfl rfl (aL rfl (aL rfl (aL rfl (aO ⟨rfl, rfl, rfl, rfl, trivial⟩))))⟩
 ·refine bZ ?_;refine .inl ⟨rfl, ?_⟩;simp only [jY] at h;refine aF (aC (ta (.i 61) (aD (aF (aF (aC (tm (.i e) (to (sar rfl rfl rfl) (tm (.i 0) (aD (bL ?_)))))))))));refine cH (S := Int × Int) [0, 1, 5, 6, 36] (fun F => [(9, .i F.1), (37, .i F.2)]) (fun F => []) (fun k F => eJ c f e d (w64 (e + 1)) k F.1 F.2) (fun _ => rfl) (61, 0) h (aQ [] rfl rfl (aL rfl (aL rfl (aO ⟨rfl, rfl, rfl, rfl, rfl, trivial⟩)))) ?_;rintro V ⟨x, m⟩ h;simp only [eJ] at h;refine aF (aC (to (scm rfl rfl rfl) (aD (aF ?_))));refine tih h (fun W h => ?_) (fun W h => ?_)
  ·refine bB (aF (bL (aF (aC (tm (.i m) (ta (.i m) (aD (aF (aC (tm (.i d) (to (sar rfl rfl rfl) (tm (.i 0) (aD ?_)))))))))))));refine xB ?_;refine cH (S := Int × Int) [0, 1, 5, 6, 10, 36, 37, 41] (fun G => [(9, .i G.1), (42, .i G.2)]) (fun G => []) (fun k G => fD (eJ c f e d (w64 (e + 1)) V) c f e d m (w64 (e + 1)) m (w64 (d + 1)) k G.1 G.2) (fun _ => rfl) (x, 0) h (aQ [] rfl rfl (aL rfl (aL rfl (aO ⟨rfl, rfl, rfl, rfl, rfl, rfl, rfl, rfl, trivial⟩)))) ?_;rintro a3 ⟨v, j⟩ h;simp only [fD] at h;refine aF (aC (to (scm rfl rfl rfl) (aD (aF ?_))));refine tih h (fun X h => ?_) (fun X h => ?_)
   ·refine bB (aF (bL (aF (aC (tm (.i j) (ta (.i j) (aD (aF (aC (tm (.i d) (tm (.i j) (to (sar rfl rfl rfl) (tm (.cp [.lit (.int .i64 c.Field.Places), .lit (.int .i64 c.Field.Wilds), .lit (.int .i64 c.Field.Guards), .lit (.int .i64 c.Field.Close), .lit (.int .i64 c.Field.Freeze), .mp true (c.players.map fun p : Int × aA => ((fun n : Int => Value.int .i64 n) p.1, aB p.2)), .sl 1 (c.wilds.map aG), .lit (.bool c.frozen), .sl 1 (c.first.map aG), .sl 1 (c.late.map aG), .lit (.int .i64 c.more), .lit (.int .i64 c.entered)]) ?_)))))))))))));refine to (cA (aI rfl) rfl) ?_;refine to (sfc [.lit (.int .i64 c.Field.Places), .lit (.int .i64 c.Field.Wilds), .lit (.int .i64 c.Field.Guards), .lit (.int .i64 c.Field.Close), .lit (.int .i64 c.Field.Freeze)] rfl eE) (to (sfc [.lit (.int .i64 c.Field.Guards)] rfl mA) (to (slc rfl aS) (to (aCb (aI rfl) rfl rfl) ?_)));refine ta (.i (min (w64 (d - j)) c.Field.Guards)) (aD (aF (aC (tm (.i e) (tm (.i m) (to (sar rfl rfl rfl) (tm (.i (min (w64 (d - j)) c.Field.Guards)) (to (sar rfl rfl rfl) (tm (.cp [.lit (.int .i64 c.Field.Places), .lit (.int .i64 c.Field.Wilds), .lit (.int .i64 c.Field.Guards), .lit (.int .i64 c.Field.Close), .lit (.int .i64 c.Field.Freeze), .mp true (c.players.map fun p : Int × aA => ((fun n : Int => Value.int .i64 n) p.1, aB p.2)), .sl 1 (c.wilds.map aG), .lit (.bool c.frozen), .sl 1 (c.first.map aG), .sl 1 (c.late.map aG), .lit (.int .i64 c.more), .lit (.int .i64 c.entered)]) ?_)))))))));obtain ⟨Y, Z, h⟩ := bns h;refine to (scr Tryz.call36 (eS _ Z)) (to (scm rfl rfl rfl) (tm (.b (decide ((w64 ((w64 (e - m)) + (min (w64 (d - j)) c.Field.Guards))) < Y))) ?_));obtain ⟨a0, C, h⟩ := bns h;refine bG 18 [0, 1, 5, 6, 9, 10, 11, 36, 37, 41, 42] 80 a0 ?_ ?_
    ·refine bch C (fun s C => ?_) (fun s C => ?_)
     ·refine tk s (sm (.cp [.lit (.int .i64 c.Field.Places), .lit (.int .i64 c.Field.Wilds), .lit (.int .i64 c.Field.Guards), .lit (.int .i64 c.Field.Close), .lit (.int .i64 c.Field.Freeze), .mp true (c.players.map fun p : Int × aA => ((fun n : Int => Value.int .i64 n) p.1, aB p.2)), .sl 1 (c.wilds.map aG), .lit (.bool c.frozen), .sl 1 (c.first.map aG), .sl 1 (c.late.map aG), .lit (.int .i64 c.more), .lit (.int .i64 c.entered)])) (tk s (cA (aI rfl) rfl) ?_);refine tk s (sfc [.mp true (c.players.map fun p : Int × aA => ((fun n : Int => Value.int .i64 n) p.1, aB p.2))] rfl cU) (tk s (slc rfl eC) (tk s (sm (.i f)) (tk s (fW (enc := aB) (agg := true) (l := c.players) (z := (aA.mk false false 0 0 false false false false)) (a := f) (aI rfl) fF Tryz.underlying68 Tryz.zeroValue94 (fun _ _ => .agg (gJ rfl)) rfl rfl rfl rfl (cI (kv := (fun n : Int => Value.int .i64 n)) f)) ?_)));refine tk s (kD (aI rfl) rfl Tryz.runUnderlying94 rfl dU rfl) ?_;refine tk s (sn rfl) (tk s (sm (.b (!((aE f (aA.mk false false 0 0 false false false false) c.players).guard)))) ?_);obtain ⟨K, I, C⟩ := bns C;refine bG 8 [0, 1, 5, 6, 9, 10, 11, 36, 37, 41, 42, 62, 63, 64, 65, 66, 67, 68, 69, 70, 71] 79 K ?_ ?_
      ·refine bch I (fun w I => ?_) (fun w I => ?_)
       ·refine tp w (tp w (tp w (tp w (tp w (tp w (tp w (tk s (spt (.b true) w) ?_)))))));obtain rfl := sIn I;refine aD (aR rfl ⟨rfl, rfl, rfl, rfl, rfl, rfl, rfl, rfl, rfl, rfl, rfl, rfl, rfl, rfl, rfl, rfl, rfl, rfl, rfl, rfl, rfl, trivial⟩ rfl)
       ·refine tk w (sm (.i (min (w64 (d - j)) c.Field.Guards))) (tk w (sm (.cp [.lit (.int .i64 c.Field.Places), .lit (.int .i64 c.Field.Wilds), .lit (.int .i64 c.Field.Guards), .lit (.int .i64 c.Field.Close), .lit (.int .i64 c.Field.Freeze), .mp true (c.players.map fun p : Int × aA => ((fun n : Int => Value.int .i64 n) p.1, aB p.2)), .sl 1 (c.wilds.map aG), .lit (.bool c.frozen), .sl 1 (c.first.map aG), .sl 1 (c.late.map aG), .lit (.int .i64 c.more), .lit (.int .i64 c.entered)])) (tk w (cA (aI rfl) rfl) ?_));refine tk w (sfc [.lit (.int .i64 c.Field.Places), .lit (.int .i64 c.Field.Wilds), .lit (.int .i64 c.Field.Guards), .lit (.int .i64 c.Field.Close), .lit (.int .i64 c.Field.Freeze)] rfl eE) (tk w (sfc [.lit (.int .i64 c.Field.Guards)] rfl mA) (tk w (slc rfl aS) (tk w (scm rfl rfl rfl) (tk s (spf (.b (decide ((min (w64 (d - j)) c.Field.Guards) < c.Field.Guards))) w) ?_))));obtain rfl := sIn I;refine aD (aR rfl ⟨rfl, rfl, rfl, rfl, rfl, rfl, rfl, rfl, rfl, rfl, rfl, rfl, rfl, rfl, rfl, rfl, rfl, rfl, rfl, rfl, rfl, trivial⟩ rfl)
      ·refine to (spt (.b K) s) ?_;obtain rfl := sIn C;refine aD (aR rfl ⟨rfl, rfl, rfl, rfl, rfl, rfl, rfl, rfl, rfl, rfl, rfl, trivial⟩ rfl)
     ·refine tp s (tp s (tp s (tp s (tp s (tp s (tp s (tp s (tp s (tq (tq (tq (tq (tq ?_)))))))))))));refine tq (tq (tp s (to (spf (.b false) s) ?_)));obtain rfl := sIn C;refine aD (aR rfl ⟨rfl, rfl, rfl, rfl, rfl, rfl, rfl, rfl, rfl, rfl, rfl, trivial⟩ rfl)
    ·refine aD ?_;refine tih h (fun a1 h => ?_) (fun a1 h => ?_)
     ·refine aC (tm (.i v) (tm (.i m) (tm (.i j) (to (sar rfl rfl rfl) (to (aCb (aI rfl) rfl rfl) ?_)))));refine ta (.i (min v (w64 (m + j)))) ?_;refine cN ?_;refine aC (to (sar rfl rfl rfl) (tm (.i (w64 (j + 1))) (aD ?_)));exact ⟨(min v (w64 (m + j)), w64 (j + 1)), h, aQ [] rfl rfl (aL rfl (aL rfl (aO ⟨rfl, rfl, rfl, rfl, rfl, rfl, rfl, rfl, trivial⟩)))⟩
     ·refine bV ?_;refine aC (to (sar rfl rfl rfl) (tm (.i (w64 (j + 1))) (aD ?_)));exact ⟨(v, w64 (j + 1)), h, aQ [] rfl rfl (aL rfl (aL rfl (aO ⟨rfl, rfl, rfl, rfl, rfl, rfl, rfl, rfl, trivial⟩)))⟩
   ·refine bZ ?_;refine .inl ⟨rfl, ?_⟩;simp only [lV] at h;simp only [lU] at h;refine aC (to (sar rfl rfl rfl) (tm (.i (w64 (m + 1))) (aD ?_)));exact ⟨(v, w64 (m + 1)), h, aQ [] rfl rfl (aL rfl (aL rfl (aO ⟨rfl, rfl, rfl, rfl, rfl, trivial⟩)))⟩
  ·refine bZ ?_;refine .inl ⟨rfl, ?_⟩;simp only [lT] at h;refine aF (aC (tm (.i x) (ta (.i x) (aD ?_))));obtain rfl := sIn h;exact aU ⟨rfl, _, .one _, rfl, rfl⟩

theorem aBv (j : aT) (c : List aK) (f : Int) (a : Int) {r : Int × Int} (h : oA j c f a = some r) : Fn Tryz.prog 18 [.agg (aX j), .d (.sl 5 (c.map aH)), .i f, .i a] (.tup [.i r.1, .i r.2]) := by
 unfold oA at h;refine Fn.of_tr Tryz.func18 rfl (rs := [.tmp 8, .tmp 9]) Tryz.results18 Tryz.ntmps18 (Nat.le_of_ble_eq_true rfl) ?_;refine aF (aC ?_);refine bF rfl (gU (v := .agg (aX j)) (aI rfl) rfl rfl rfl) ?_;rintro _ ⟨b1, rfl⟩;refine ta (.i 0) (ta (.i 0) (aD (aF (aC (to (sla 0 (aX j) rfl rfl jC) (tm (.d (.sl 5 (c.map aH))) (tm (.i f) (tm (.i a) ?_))))))));obtain ⟨r2, h3, h⟩ := bns h;refine to (dC (aI rfl) (.func _ _ Tryz.call33) rfl rfl (sP _ _ _ _ h3)) ?_;refine tm (.tup [jO aW r2.1, .i r2.2]) (to (sex rfl rfl) (to (sex rfl rfl) (ta (jO aW r2.1) (ta (.i r2.2) (aD (aF (aF (aC (tm (.i r2.2) (to (scm rfl rfl rfl) (aD ?_)))))))))));refine tih h (fun c4 h => ?_) (fun c4 h => ?_)
 ·refine aF (aC (tm (.i r2.2) (ta (.i 0) (ta (.i r2.2) (aD ?_)))));obtain rfl := sIn h;refine bK (bE (bH (l := [8, 9]) ⟨rfl, rfl, trivial⟩)) ?_;exact aU ⟨rfl, _, .two _ _, rfl, rfl⟩
 ·refine bB (aF (aC (tm (jO aW r2.1) (tm (.i a) ?_))));obtain ⟨x5, h6, h⟩ := bns h;refine cR (sD (enc := aW) (k := 27) rfl h6) ?_;obtain ⟨r7, h8, h⟩ := bns h;refine to (scr Tryz.call37 (rE _ _ h8)) (tm (.tup [.i r7.1, .i r7.2]) (to (sex rfl rfl) (to (sex rfl rfl) (ta (.i r7.1) (ta (.i r7.2) (aD (aF (aC (ta (.i 61) (aD (aF (bL (aF ?_)))))))))))));refine aC (tm (.i r7.1) (to (scm rfl rfl rfl) (ta (.b (decide (r7.1 = 1))) (aD ?_))));refine tih h (fun c9 h => ?_) (fun c9 h => ?_)
  ·refine aC (ta (.i 0) ?_);refine cN ?_;refine aF (aF (aC (tm (.i 0) (to (scm rfl rfl rfl) (aD ?_)))));refine tih h (fun q h => ?_) (fun q h => ?_)
   ·refine aF (aC (ta (.i 0) (ta (.i 3) (aD ?_))));obtain rfl := sIn h;refine bK (bE (bH (l := [8, 9]) ⟨rfl, rfl, trivial⟩)) ?_;exact aU ⟨rfl, _, .two _ _, rfl, rfl⟩
   ·refine bB (aF (aC (tm (.i 0) (ta (.i 0) (ta (.i 0) (aD ?_))))));obtain rfl := sIn h;refine bK (bE (bH (l := [8, 9]) ⟨rfl, rfl, trivial⟩)) ?_;exact aU ⟨rfl, _, .two _ _, rfl, rfl⟩
  ·refine aF (aC (tm (.i r7.1) (to (scm rfl rfl rfl) (tm (.b (decide (r7.1 = 3))) ?_))));obtain ⟨o, g, h⟩ := bns h;refine bG 5 [3, 10, 12, 14] 43 o ?_ ?_
   ·refine bch g (fun e g => ?_) (fun e g => ?_)
    ·refine tk e (sm (jO aW r2.1)) ?_;obtain ⟨p, s, g⟩ := bns g;refine tk e (aEq (enc := aW) (aI rfl) rfl s) ?_;refine tk e (sfc [.lit (.bool p.frozen)] rfl oR) (tk e (slc rfl dU) (to (spt (.b p.frozen) e) ?_));obtain rfl := sIn g;refine aD (aR rfl ⟨rfl, rfl, rfl, rfl, trivial⟩ rfl)
    ·refine tp e (tp e (tp e (tp e (to (spf (.b false) e) ?_))));obtain rfl := sIn g;refine aD (aR rfl ⟨rfl, rfl, rfl, rfl, trivial⟩ rfl)
   ·refine ta (.b o) (aD ?_);refine tih h (fun t h => ?_) (fun t h => ?_)
    ·refine aC (tm (jO aW r2.1) (tm (.i a) ?_));obtain ⟨E, u, h⟩ := bns h;refine cR (sD (enc := aW) (k := 44) rfl u) ?_;obtain ⟨m, w, h⟩ := bns h;refine to (scr Tryz.call38 (vP _ _ w)) (ta (.i m) ?_);refine cN ?_;refine aF (aF (aC (tm (.i m) (to (scm rfl rfl rfl) (aD ?_)))));refine tih h (fun x h => ?_) (fun x h => ?_)
     ·refine aF (aC (ta (.i 0) (ta (.i 3) (aD ?_))));obtain rfl := sIn h;refine bK (bE (bH (l := [8, 9]) ⟨rfl, rfl, trivial⟩)) ?_;exact aU ⟨rfl, _, .two _ _, rfl, rfl⟩
     ·refine bB (aF (aC (tm (.i m) (ta (.i m) (ta (.i 0) (aD ?_))))));obtain rfl := sIn h;refine bK (bE (bH (l := [8, 9]) ⟨rfl, rfl, trivial⟩)) ?_;exact aU ⟨rfl, _, .two _ _, rfl, rfl⟩
    ·refine aF (aC (tm (.i r7.1) (to (scm rfl rfl rfl) (ta (.b (decide (r7.1 = 3))) (aD ?_)))));refine tih h (fun y h => ?_) (fun y h => ?_)
     ·refine aC (tm (jO aW r2.1) (tm (.i a) ?_));obtain ⟨F, z, h⟩ := bns h;refine cR (sD (enc := aW) (k := 50) rfl z) ?_;obtain ⟨n, A, h⟩ := bns h;refine to (scr Tryz.call39 (vO _ _ A)) (ta (.i n) ?_);refine cN ?_;refine aF (aF (aC (tm (.i n) (to (scm rfl rfl rfl) (aD ?_)))));refine tih h (fun B h => ?_) (fun B h => ?_)
      ·refine aF (aC (ta (.i 0) (ta (.i 3) (aD ?_))));obtain rfl := sIn h;refine bK (bE (bH (l := [8, 9]) ⟨rfl, rfl, trivial⟩)) ?_;exact aU ⟨rfl, _, .two _ _, rfl, rfl⟩
      ·refine bB (aF (aC (tm (.i n) (ta (.i n) (ta (.i 0) (aD ?_))))));obtain rfl := sIn h;refine bK (bE (bH (l := [8, 9]) ⟨rfl, rfl, trivial⟩)) ?_;exact aU ⟨rfl, _, .two _ _, rfl, rfl⟩
     ·refine bV ?_;refine aF (aF (aC (tm (.i 61) (to (scm rfl rfl rfl) (aD ?_)))));refine tih h (fun C h => ?_) (fun C h => ?_)
      ·refine aF (aC (ta (.i 0) (ta (.i 3) (aD ?_))));obtain rfl := sIn h;refine bK (bE (bH (l := [8, 9]) ⟨rfl, rfl, trivial⟩)) ?_;exact aU ⟨rfl, _, .two _ _, rfl, rfl⟩
      ·refine bB (aF (aC (tm (.i 61) (ta (.i 61) (ta (.i 0) (aD ?_))))));obtain rfl := sIn h;refine bK (bE (bH (l := [8, 9]) ⟨rfl, rfl, trivial⟩)) ?_;exact aU ⟨rfl, _, .two _ _, rfl, rfl⟩

theorem xH (x : List Int) {r : List Int} {x_v : Value} {e : TypeId} (h : slices_Sort_int x = some r) : cO Tryz.prog 48 [.d (.lit x_v)] [.arr x_v e 1 (x.map aG)] (fun r' o' => r' = .tup [] ∧ o' = [.arr x_v e 1 (r.map aG)]) := by
 unfold slices_Sort_int at h;split at h
 ·cases h;exact aGe (fun blk off cap zs w => Tryz.slices_Sort_int blk off cap zs w) (fun q cap w => Tryz.slices_Sort_int_none q cap w) (by assumption)
 ·cases h

theorem vE (o : List Int) {r : (List Int)} {e : Value} (h : jH o = some r) : cO Tryz.prog 49 [.d (.lit e)] [.arr e 3 1 (o.map aG)] (fun r' o' => ∃ w0 : Value, r' = .d (.lit w0) ∧ o' = [.arr w0 3 1 (r.map aG)]) := by
 unfold jH at h;refine fY Tryz.func49 rfl (rs := [.tmp 2]) Tryz.results49 Tryz.ntmps49 (Nat.le_of_ble_eq_true rfl) ?_;refine aF (aC (to (fP 3 1 (.inl rfl) (aI rfl)) ?_));refine aD (aF (aF (aC (tm (.d (.lit e)) (to (gB (m := 0) (aI rfl) rfl rfl bO.of) ?_)))));refine to (scm rfl rfl rfl) (aD ?_);refine tih h (fun c2 h => ?_) (fun c2 h => ?_)
 ·refine aF (aC (tm (.d (.lit e)) (ta (.d (.lit e)) (aD ?_))));obtain rfl := sIn h;exact aU ⟨rfl, _, [.arr e 3 1 (o.map aG)], [.arr (.slice none 0 0) 3 1 (([] : List Int).map aG)], _, .one (.tmp 2 (v := .d (.lit e)) rfl), .refl _, .same _, e, rfl, rfl⟩
 ·refine bB (aF (aF (aC (ta (.i 1) (aD (bL ?_))))));refine cH (S := Int × (List Int) × Value) [] (fun s3 => [(0, .d (.lit s3.2.2)), (3, .i s3.1)]) (fun s3 => [.arr s3.2.2 3 1 (s3.2.1.map aG)]) (fun k s3 => dD k s3.1 s3.2.1) (fun _ => rfl) (1, o, e) h (aQ [0] rfl rfl (aL rfl (aL rfl (aO trivial)))) ?_;rintro k5 ⟨a, n, w4⟩ h;simp only [dD] at h;refine aF (aF (aC (tm (.i a) (tm (.d (.lit w4)) (to (gB (m := 0) (aI rfl) rfl rfl bO.of) ?_)))));refine to (scm rfl rfl rfl) (aD ?_);refine tih h (fun c6 h => ?_) (fun c6 h => ?_)
  ·refine bB (aF (bL (aF ?_)));obtain ⟨x7, h8, h⟩ := bns h;obtain ⟨x9, p, h⟩ := bns h;refine bU mix 9 [0, 3] [(19, .i x7), (24, .i x9)] ?_ ?_
   ·refine ⟨[(16, 0, .d (.lit w4)), (17, 1, .i a), (18, 2, .ep w4 1 a.toNat 0), (19, 3, .i x7), (20, 4, .d (.lit w4)), (21, 5, .i a), (22, 6, .i (w64 (a - 1))), (23, 7, .ep w4 1 (w64 (a - 1)).toNat 0), (24, 8, .i x9)], ?_, ?_⟩
    · exact dok [([], []), ([], []), ([0, 1], []), ([2], []), ([], []), ([], []), ([5], []), ([4, 6], []), ([7], [])] ⟨go (zm (.d (.lit w4))),
      go (zm (.i a)),
      go (zia 0 rfl rfl rfl bO.of (bR aG h8)),
      go fun S hS => lR (aI rfl) (aN hS rfl) (m := 0) rfl (nI aG h8) rfl aS,
      go (zm (.d (.lit w4))),
      go (zm (.i a)),
      go (zar rfl rfl rfl),
      go (zia 0 rfl rfl rfl bO.of (bR aG p)),
      go fun S hS => lR (aI rfl) (aN hS rfl) (m := 0) rfl (nI aG p) rfl aS, trivial⟩
    · exact bM (aL rfl (aL rfl (aO ⟨rfl, rfl, trivial⟩)))
   ·refine to (scm rfl rfl rfl) (aD ?_);refine tih h (fun A h => ?_) (fun A h => ?_)
    ·refine aF (aC (tm (.d (.lit w4)) (tm (.i a) ?_)));obtain ⟨I, B, h⟩ := bns h;refine to (nK (m := 0) (aI rfl) rfl rfl rfl bO.of B) ?_;refine ta (.d (.lit (gC w4 a.toNat 1))) (aD (aF (aF (aC (ta (.i 1) (aD (bL ?_)))))));refine cH (S := Int × Int × (List Int)) [] (fun j => [(0, .d (.lit w4)), (3, .i j.1), (4, .d (.lit (gC w4 a.toNat 1))), (5, .i j.2.1)]) (fun j => [.arr w4 3 1 (j.2.2.map aG)]) (fun k j => eA (dD k5) a k j.1 j.2.1 j.2.2) (fun _ => rfl) (a, 1, n) h (aQ [0] rfl rfl (aL rfl (aL rfl (aL rfl (aL rfl (aO trivial)))))) ?_;rintro J ⟨c, b, g⟩ h;simp only [eA] at h;refine aF (aF (aC (tm (.i b) (tm (.d (.lit (gC w4 a.toNat 1))) (to (zN (m := 0) (aI rfl) rfl rfl bO.of) ?_)))));refine to (scm rfl rfl rfl) (aD ?_);refine tih h (fun C h => ?_) (fun C h => ?_)
     ·refine bB (aF (bL (aF ?_)));obtain ⟨s, t, h⟩ := bns h;obtain ⟨u, w, h⟩ := bns h;refine bU mix 9 [0, 3, 4, 5] [(38, .i s), (43, .i u)] ?_ ?_
      ·refine ⟨[(35, 0, .d (.lit (gC w4 a.toNat 1))), (36, 1, .i b), (37, 2, .ep w4 1 (a.toNat + b.toNat) 0), (38, 3, .i s), (39, 4, .d (.lit (gC w4 a.toNat 1))), (40, 5, .i b), (41, 6, .i (w64 (b - 1))), (42, 7, .ep w4 1 (a.toNat + (w64 (b - 1)).toNat) 0), (43, 8, .i u)], ?_, ?_⟩
       · exact dok [([], []), ([], []), ([0, 1], []), ([2], []), ([], []), ([], []), ([5], []), ([4, 6], []), ([7], [])] ⟨go (zm (.d (.lit (gC w4 a.toNat 1)))),
      go (zm (.i b)),
      go fun S hS => mO (m := 0) (aI rfl) (aN hS rfl) rfl (aN hS rfl) bO.of (lP (f := aG) t),
      go fun S hS => lR (aI rfl) (aN hS rfl) (m := 0) rfl (sI aG t) rfl aS,
      go (zm (.d (.lit (gC w4 a.toNat 1)))),
      go (zm (.i b)),
      go (zar rfl rfl rfl),
      go fun S hS => mO (m := 0) (aI rfl) (aN hS rfl) rfl (aN hS rfl) bO.of (lP (f := aG) w),
      go fun S hS => lR (aI rfl) (aN hS rfl) (m := 0) rfl (sI aG w) rfl aS, trivial⟩
       · exact bM (aL rfl (aL rfl (aO ⟨rfl, rfl, rfl, rfl, trivial⟩)))
      ·refine to (scm rfl rfl rfl) (aD ?_);refine tih h (fun E h => ?_) (fun E h => ?_)
       ·refine aF (aC (tm (.d (.lit w4)) (tm (.i c) (tm (.d (.lit (gC w4 a.toNat 1))) (tm (.i b) ?_)))));obtain ⟨x, y, h⟩ := bns h;refine to (mO (m := 0) (aI rfl) rfl rfl rfl bO.of (lP (f := aG) y)) ?_;refine to (lR (aI rfl) rfl (m := 0) rfl (sI aG y) rfl aS) ?_;obtain ⟨K, z, h⟩ := bns h;refine to (kE (m := 0) (aI rfl) rfl rfl rfl bO.of (bR aG z)) ?_;refine to (vD (l := 0) rfl rfl (nI aG z) rfl rfl rfl Tryz.sizeOf3 rfl (aI rfl) (Nat.le_of_ble_eq_true rfl) (rows' := ((g.set c.toNat x)).map aG) (aAo _ _ _ _ rfl)) ?_;refine aD (aC (tm (.i c) (to (sar rfl rfl rfl) (ta (.i (w64 (c + 1))) ?_))));refine cN ?_;refine aC (tm (.i b) (to (sar rfl rfl rfl) (ta (.i (w64 (b + 1))) (aD ?_))));exact ⟨(w64 (c + 1), w64 (b + 1), (g.set c.toNat x)), h, aQ [0] rfl rfl (aL rfl (aL rfl (aL rfl (aL rfl (aO trivial)))))⟩
       ·refine bV ?_;refine aC (tm (.i b) (to (sar rfl rfl rfl) (ta (.i (w64 (b + 1))) (aD ?_))));exact ⟨(c, w64 (b + 1), g), h, aQ [0] rfl rfl (aL rfl (aL rfl (aL rfl (aL rfl (aO trivial)))))⟩
     ·refine bZ ?_;refine .inl ⟨rfl, ?_⟩;simp only [lO] at h;refine aF (aC (tm (.d (.lit w4)) (tm (.i c) ?_)));obtain ⟨L, F, h⟩ := bns h;refine to (nK (m := 0) (aI rfl) rfl rfl rfl bO.of F) ?_;obtain ⟨M, G, h⟩ := bns h;refine to (yG (f := aG) (m := 0) bO rfl rfl G (by decide)) ?_;refine aD (aF (aC (tm (.d (.lit w4)) (tm (.i c) ?_))));obtain ⟨N, H, h⟩ := bns h;refine to (nJ (m := 0) (q := c.toNat) (v := w4) (aI rfl) rfl rfl rfl rfl (vT H) bO.of) ?_;refine ta (.d (.lit (dZ w4 c.toNat))) (aD ?_);obtain rfl := sIn h;exact aU ⟨rfl, _, [.arr (dZ w4 c.toNat) 3 1 ((g.take c.toNat).map aG)], [], _, .one (.tmp 2 (v := .d (.lit (dZ w4 c.toNat))) rfl), .refl _, .same _, (dZ w4 c.toNat), rfl, rfl⟩
    ·refine bV ?_;simp only [lN] at h;refine aC (tm (.i a) (to (sar rfl rfl rfl) (ta (.i (w64 (a + 1))) (aD ?_))));exact ⟨(w64 (a + 1), n, w4), h, aQ [0] rfl rfl (aL rfl (aL rfl (aO trivial)))⟩
  ·refine bZ ?_;refine .inl ⟨rfl, ?_⟩;simp only [lM] at h;refine aF (aC (tm (.d (.lit w4)) (ta (.d (.lit w4)) (aD ?_))));obtain rfl := sIn h;exact aU ⟨rfl, _, [.arr w4 3 1 (n.map aG)], [], _, .one (.tmp 2 (v := .d (.lit w4)) rfl), .refl _, .same _, w4, rfl, rfl⟩

theorem aCs (e : aT) (a : List aK) (c : Int) {r : Int × Int} (h : nP e a c = some r) : Fn Tryz.prog 26 [.agg (aX e), .d (.sl 5 (a.map aH)), .i c] (.tup [.i r.1, .i r.2]) := by
 unfold nP at h;refine Fn.of_tr Tryz.func26 rfl (rs := [.tmp 6, .tmp 7]) Tryz.results26 Tryz.ntmps26 (Nat.le_of_ble_eq_true rfl) ?_;refine aF (aC ?_);refine bF rfl (gU (v := .agg (aX e)) (aI rfl) rfl rfl rfl) ?_;rintro _ ⟨b1, rfl⟩;refine ta (.i 0) (ta (.i 0) (aD (aF (aF (aC (to (sla 0 (aX e) rfl rfl jC) (tm (.d (.sl 5 (a.map aH))) (tm (.i c) ?_))))))));obtain ⟨r2, h3, h⟩ := bns h;refine to (dC (aI rfl) (.func _ _ Tryz.call33) rfl rfl (sP _ _ _ _ h3)) ?_;refine tm (.tup [jO aW r2.1, .i r2.2]) (to (sex rfl rfl) (to (sex rfl rfl) (ta (jO aW r2.1) (ta (.i r2.2) (aD (aF (aC (tm (.i r2.2) (to (scm rfl rfl rfl) (aD ?_))))))))));refine tih h (fun c4 h => ?_) (fun c4 h => ?_)
 ·refine aF (aC (tm (.i r2.2) (ta (.i 0) (ta (.i r2.2) (aD ?_)))));obtain rfl := sIn h;refine bK (bE (bH (l := [6, 7]) ⟨rfl, rfl, trivial⟩)) ?_;exact aU ⟨rfl, _, .two _ _, rfl, rfl⟩
 ·refine bB (aF (aC (to (fP 3 1 (.inl rfl) (aI rfl)) ?_)));refine aD (aF (aF (aC (tm (.d (.sl 5 (a.map aH))) (to (sle rfl cW.of) (tm (.i 0) (aD (bL ?_))))))));refine cH (S := Int × (List Int) × Value) [1, 2, 3, 27, 28] (fun s6 => [(10, .d (.lit s6.2.2)), (29, .i s6.1)]) (fun s6 => [.box b1 0 (aX e), .arr s6.2.2 3 1 (s6.2.1.map aG)]) (fun k s6 => jQ a c a (a.length : Int) e k s6.1 s6.2.1) (fun _ => rfl) (0, ([] : List Int), (.slice none 0 0)) h (aQ [0, 1] rfl rfl (aL rfl (aL rfl (aO ⟨rfl, rfl, rfl, rfl, rfl, trivial⟩)))) ?_;rintro k8 ⟨p, g, w7⟩ h;simp only [jQ] at h;refine aF (aC (to (scm rfl rfl rfl) (aD (aF ?_))));refine tih h (fun c9 h => ?_) (fun c9 h => ?_)
  ·refine bB (aF (bL (aF (aC ?_))));obtain ⟨u, A, h⟩ := bns h;refine to (six rfl rfl cW.of (bR aH A)) (to (aDx (aH u) rfl gP) ?_);refine bF rfl (dX (zs := [.lit (.int .i64 0), .lit (.int .i64 0), .lit (.int .i64 0), .lit (.int .i64 0), .lit (.int .i64 0)]) (aI rfl) Tryz.zeroValue32 rfl rfl) ?_;rintro _ ⟨N, rfl⟩;refine to (sst 2 rfl rfl Tryz.sizeOf32 (aH u)) (aD (aC (tm (.d (.lit w7)) (tfl 2 rfl rfl dM rfl aS (to (fG (aI rfl) bO rfl rfl (rows := ([u.Hour]).map aG) rfl (aV (f := aG) fun _ => rfl) rfl (by decide)) ?_)))));obtain ⟨B, C, h⟩ := bns h;refine bF rfl (kC (i := 1) (aI rfl) bO rfl rfl rfl (fun _ => rfl) C rfl) ?_;rintro _ ⟨x, rfl⟩;refine ta (.d (.lit x)) ?_;refine cN ?_;refine aC (to (sar rfl rfl rfl) (tm (.i (w64 (p + 1))) (aD ?_)));exact ⟨(w64 (p + 1), B, x), h, aQ [0, 1] rfl rfl (aL rfl (aL rfl (aO ⟨rfl, rfl, rfl, rfl, rfl, trivial⟩)))⟩
  ·refine bZ ?_;refine .inl ⟨rfl, ?_⟩;simp only [oH] at h;refine aF (aC (tm (.d (.lit w7)) ?_));obtain ⟨y, E, h⟩ := bns h;refine cR (aQ [1, 0] rfl rfl (le_refl _)) ?_;refine bF rfl (gA (passed := [.arr w7 3 1 (g.map aG)]) (aI rfl) rfl (.func _ _ Tryz.call48) rfl rfl (xH g E)) ?_;rintro _ ⟨_, _, ⟨rfl, rfl⟩, rfl⟩;refine aD (aF (aF (aC (tm (.d (.lit w7)) ?_))));obtain ⟨w, F, h⟩ := bns h;refine bF rfl (gA (passed := [.arr w7 3 1 (y.map aG)]) (aI rfl) rfl (.func _ _ Tryz.call49) rfl rfl (vE y F)) ?_;rintro _ ⟨_, _, ⟨G, rfl, rfl⟩, rfl⟩;refine to (gB (m := 0) (aI rfl) rfl rfl bO.of) ?_;refine tm (.i 0) (aD (bL ?_));refine cH (S := Int) [1, 2, 3, 42, 43] (fun s => [(44, .i s)]) (fun s => [.box b1 0 (aX e), .arr G 3 1 (w.map aG)]) (fun k s => jR a c (w.length : Int) e w k s) (fun _ => rfl) (0) h (aQ [1, 0] rfl rfl (aL rfl (aO ⟨rfl, rfl, rfl, rfl, rfl, trivial⟩))) ?_;rintro O n h;simp only [jR] at h;refine aF (aC (to (scm rfl rfl rfl) (aD (aF ?_))));refine tih h (fun H h => ?_) (fun H h => ?_)
   ·refine bB (aF (bL (aF (aC ?_))));obtain ⟨t, z, h⟩ := bns h;refine to (kE (m := 1) (aI rfl) rfl rfl rfl bO.of (bR aG z)) ?_;refine to (lR (aI rfl) rfl (m := 1) rfl (nI aG z) rfl aS) ?_;refine ta (.i t) (aD (aF (aC (to (sla 0 (aX e) rfl rfl jC) (tm (.d (.sl 5 (a.map aH))) (tm (.i t) ?_))))));obtain ⟨P, I, h⟩ := bns h;refine to (dC (aI rfl) (.func _ _ Tryz.call50) rfl rfl (vJ _ _ _ I)) ?_;refine tm (.i c) ?_;obtain ⟨Q, J, h⟩ := bns h;refine cR (sD (enc := aW) (k := 52) rfl J) ?_;obtain ⟨j, K, h⟩ := bns h;refine to (scr Tryz.call37 (rE _ _ K)) (tm (.tup [.i j.1, .i j.2]) (to (sex rfl rfl) (to (sex rfl rfl) (ta (.i j.1) (ta (.i j.2) (aD (aF (aC (tm (.i j.1) (to (scm rfl rfl rfl) (tm (.b (decide (j.1 = 1))) ?_)))))))))));obtain ⟨L, q, h⟩ := bns h;refine bG 3 [1, 2, 3, 14, 42, 43, 44] 62 L ?_ ?_
    ·refine bch q (fun o q => ?_) (fun o q => ?_)
     ·refine tp o (tp o (to (spt (.b true) o) ?_));obtain rfl := sIn q;refine aD (aR rfl ⟨rfl, rfl, rfl, rfl, rfl, rfl, rfl, trivial⟩ rfl)
     ·refine tk o (sm (.i j.1)) (tk o (scm rfl rfl rfl) (to (spf (.b (decide (j.1 = 2))) o) ?_));obtain rfl := sIn q;refine aD (aR rfl ⟨rfl, rfl, rfl, rfl, rfl, rfl, rfl, trivial⟩ rfl)
    ·refine aD ?_;refine tih h (fun M h => ?_) (fun M h => ?_)
     ·refine aF (aC (tm (.i t) (ta (.i t) (ta (.i 0) (aD ?_)))));obtain rfl := sIn h;refine bK (bE (bH (l := [6, 7]) ⟨rfl, rfl, trivial⟩)) ?_;exact aU ⟨rfl, _, .two _ _, rfl, rfl⟩
     ·refine bV ?_;refine aC (to (sar rfl rfl rfl) (tm (.i (w64 (n + 1))) (aD ?_)));exact ⟨(w64 (n + 1)), h, aQ [0, 1] rfl rfl (aL rfl (aO ⟨rfl, rfl, rfl, rfl, rfl, trivial⟩))⟩
   ·refine bZ ?_;refine .inl ⟨rfl, ?_⟩;simp only [rO] at h;refine aF (aC (ta (.i 0) (ta (.i 3) (aD ?_))));obtain rfl := sIn h;refine bK (bE (bH (l := [6, 7]) ⟨rfl, rfl, trivial⟩)) ?_;exact aU ⟨rfl, _, .two _ _, rfl, rfl⟩

theorem lJ (c : List Int) (e : List Int) {r : Bool} (h : iQ c e = some r) : Fn Tryz.prog 32 [.d (.sl 1 (c.map aG)), .d (.sl 1 (e.map aG))] (.b r) := by
 unfold iQ at h;refine Fn.of_tr Tryz.func32 rfl (rs := [.tmp 4]) Tryz.results32 Tryz.ntmps32 (Nat.le_of_ble_eq_true rfl) ?_;refine aF (aC (ta (.b false) (aD (aF (aF (aC (tm (.d (.sl 1 (c.map aG))) (to (sle rfl bO.of) (tm (.d (.sl 1 (e.map aG))) (to (sle rfl bO.of) (to (scm rfl rfl rfl) (aD ?_))))))))))));refine tih h (fun c1 h => ?_) (fun c1 h => ?_)
 ·refine aF (aC (ta (.b false) (aD ?_)));obtain rfl := sIn h;exact aU ⟨rfl, _, .one _, rfl, rfl⟩
 ·refine bB (aF (aF (aC (ta (.i 0) (aD (bL ?_))))));refine cH (S := Int) [0, 1] (fun s2 => [(5, .i s2)]) (fun s2 => []) (fun k s2 => iZ c e k s2) (fun _ => rfl) (0) h (aQ [] rfl rfl (aL rfl (aO ⟨rfl, rfl, trivial⟩))) ?_;rintro k3 a h;simp only [iZ] at h;refine aF (aF (aC (tm (.i a) (tm (.d (.sl 1 (c.map aG))) (to (sle rfl bO.of) (to (scm rfl rfl rfl) (aD ?_)))))));refine tih h (fun c4 h => ?_) (fun c4 h => ?_)
  ·refine bB (aF (bL (aF ?_)));obtain ⟨x5, h6, h⟩ := bns h;obtain ⟨x7, h8, h⟩ := bns h;refine bU mix 8 [0, 1, 5] [(20, .i x5), (24, .i x7)] ?_ ?_
   ·refine ⟨[(17, 0, .d (.sl 1 (c.map aG))), (18, 1, .i a), (19, 2, .cp [.lit (.int .i64 x5)]), (20, 3, .i x5), (21, 4, .d (.sl 1 (e.map aG))), (22, 5, .i a), (23, 6, .cp [.lit (.int .i64 x7)]), (24, 7, .i x7)], ?_, ?_⟩
    · exact dok [([], []), ([], []), ([0, 1], []), ([2], []), ([], []), ([], []), ([4, 5], []), ([6], [])] ⟨go (zm (.d (.sl 1 (c.map aG)))),
      go (zm (.i a)),
      go (zix rfl rfl bO.of (bR aG h6)),
      go (zlc rfl aS),
      go (zm (.d (.sl 1 (e.map aG)))),
      go (zm (.i a)),
      go (zix rfl rfl bO.of (bR aG h8)),
      go (zlc rfl aS), trivial⟩
    · exact bM (aL rfl (aL rfl (aO ⟨rfl, rfl, rfl, trivial⟩)))
   ·refine to (scm rfl rfl rfl) (aD ?_);refine tih h (fun c9 h => ?_) (fun c9 h => ?_)
    ·refine aF (aC (ta (.b false) (aD ?_)));obtain rfl := sIn h;exact aU ⟨rfl, _, .one _, rfl, rfl⟩
    ·refine bV ?_;refine aC (tm (.i a) (to (sar rfl rfl rfl) (ta (.i (w64 (a + 1))) (aD ?_))));exact ⟨(w64 (a + 1)), h, aQ [] rfl rfl (aL rfl (aO ⟨rfl, rfl, trivial⟩))⟩
  ·refine bZ ?_;refine .inl ⟨rfl, ?_⟩;simp only [nW] at h;refine aF (aC (ta (.b true) (aD ?_)));obtain rfl := sIn h;exact aU ⟨rfl, _, .one _, rfl, rfl⟩

theorem rB {r : Bool} (h : iT = some r) : Fn Tryz.prog 13 [] (.b r) := by
 unfold iT at h;refine Fn.of_tr Tryz.func13 rfl (rs := [.tmp 0]) Tryz.results13 Tryz.ntmps13 (Nat.le_of_ble_eq_true rfl) ?_;refine aF (aC (ta (.b false) (aD (aF (aC ?_)))));obtain ⟨r1, h2, h⟩ := bns h;refine to (dC (aI rfl) (.func _ _ Tryz.call31) rfl rfl (uQ h2)) ?_;refine tm (.tup [.agg (aX r1.1), .d (.sl 5 (r1.2.map aH))]) (to (sex rfl rfl) (to (sex rfl rfl) ?_));refine bF rfl (dX (zs := [.lit (.int .i64 0), .lit (.int .i64 0), .lit (.int .i64 0), .lit (.int .i64 0), .lit (.int .i64 0)]) (aI rfl) Tryz.zeroValue23 rfl rfl) ?_;rintro _ ⟨b3, rfl⟩;refine to (sst 0 rfl rfl Tryz.sizeOf23 (aX r1.1)) (ta (.d (.sl 5 (r1.2.map aH))) (aD (aF (aC (to (sla 0 (aX r1.1) rfl rfl jC) (tm (.d (.sl 5 (r1.2.map aH))) ?_))))));obtain ⟨r4, h5, h⟩ := bns h;refine to (dC (aI rfl) (.func _ _ Tryz.call14) rfl rfl (sN _ _ _ h5)) ?_;refine tm (.tup [.agg (cZ r4.1), .i r4.2]) (to (sex rfl rfl) (to (sex rfl rfl) ?_));refine bF rfl (dX (zs := [.sl 1 ((([] : List Int)).map aG), .sl 1 ((([] : List Int)).map aG), .sl 1 ((([] : List Int)).map aG), .lit (.int .i64 0)]) (aI rfl) Tryz.zeroValue34 rfl rfl) ?_;rintro _ ⟨b6, rfl⟩;refine to (sst 1 rfl rfl Tryz.sizeOf34 (cZ r4.1)) (ta (.i r4.2) (aD (aF (aC (to (sla 0 (aX r1.1) rfl rfl jC) (tm (.d (.sl 5 (r1.2.map aH))) ?_))))));obtain ⟨r7, h8, h⟩ := bns h;refine to (scr Tryz.call18 (aBv _ _ _ _ h8)) (tm (.tup [.i r7.1, .i r7.2]) (to (sex rfl rfl) (to (sex rfl rfl) (ta (.i r7.1) (ta (.i r7.2) (aD (aF (aC (to (sla 0 (aX r1.1) rfl rfl jC) (tm (.d (.sl 5 (r1.2.map aH))) ?_))))))))));obtain ⟨r9, C, h⟩ := bns h;refine to (scr Tryz.call26 (aCs _ _ _ C)) (tm (.tup [.i r9.1, .i r9.2]) (to (sex rfl rfl) (to (sex rfl rfl) (ta (.i r9.1) (ta (.i r9.2) (aD (aF (aC (tm (.i r4.2) (to (scm rfl rfl rfl) (tm (.b (decide (r4.2 = 0))) ?_)))))))))));obtain ⟨v, q, h⟩ := bns h;refine bG 3 [3, 5, 7, 8] 36 v ?_ ?_
 ·refine bch q (fun g q => ?_) (fun g q => ?_)
  ·refine tk g (sm (.i r7.2)) (tk g (scm rfl rfl rfl) (to (spt (.b (decide (r7.2 = 0))) g) ?_));obtain rfl := sIn q;refine aD (aR rfl ⟨rfl, rfl, rfl, rfl, trivial⟩ rfl)
  ·refine tp g (tp g (to (spf (.b false) g) ?_));obtain rfl := sIn q;refine aD (aR rfl ⟨rfl, rfl, rfl, rfl, trivial⟩ rfl)
 ·refine tm (.b v) ?_;obtain ⟨w, s, h⟩ := bns h;refine bG 3 [3, 5, 7] 40 w ?_ ?_
  ·refine bch s (fun j s => ?_) (fun j s => ?_)
   ·refine tk j (sm (.i r9.2)) (tk j (scm rfl rfl rfl) (to (spt (.b (decide (r9.2 = 0))) j) ?_));obtain rfl := sIn s;refine aD (aR rfl ⟨rfl, rfl, rfl, trivial⟩ rfl)
   ·refine tp j (tp j (to (spf (.b false) j) ?_));obtain rfl := sIn s;refine aD (aR rfl ⟨rfl, rfl, rfl, trivial⟩ rfl)
  ·refine tm (.b w) ?_;obtain ⟨x, t, h⟩ := bns h;refine bG 3 [3, 7] 44 x ?_ ?_
   ·refine bch t (fun k t => ?_) (fun k t => ?_)
    ·refine tk k (sm (.i r7.1)) (tk k (scm rfl rfl rfl) (to (spt (.b (decide (r7.1 = 2))) k) ?_));obtain rfl := sIn t;refine aD (aR rfl ⟨rfl, rfl, trivial⟩ rfl)
    ·refine tp k (tp k (to (spf (.b false) k) ?_));obtain rfl := sIn t;refine aD (aR rfl ⟨rfl, rfl, trivial⟩ rfl)
   ·refine tm (.b x) ?_;obtain ⟨y, u, h⟩ := bns h;refine bG 3 [3] 48 y ?_ ?_
    ·refine bch u (fun m u => ?_) (fun m u => ?_)
     ·refine tk m (sm (.i r9.1)) (tk m (scm rfl rfl rfl) (to (spt (.b (decide (r9.1 = 15))) m) ?_));obtain rfl := sIn u;refine aD (aR rfl ⟨rfl, trivial⟩ rfl)
     ·refine tp m (tp m (to (spf (.b false) m) ?_));obtain rfl := sIn u;refine aD (aR rfl ⟨rfl, trivial⟩ rfl)
    ·refine tm (.b y) ?_;obtain ⟨z, n, h⟩ := bns h;refine bG 5 [3] 54 z ?_ ?_
     ·refine bch n (fun a n => ?_) (fun a n => ?_)
      ·refine tkl 1 a rfl rfl mB rfl cV (tk a (fG (aI rfl) bO rfl rfl (rows := ([9, 8, 5]).map aG) rfl (aV (f := aG) fun _ => rfl) rfl (by decide)) ?_);obtain ⟨E, F, n⟩ := bns n;refine tk a (scr Tryz.call32 (lJ _ _ F)) (to (spt (.b E) a) ?_);obtain rfl := sIn n;refine aD (aR rfl ⟨rfl, trivial⟩ rfl)
      ·refine tp a (tp a (tp a (tp a (to (spf (.b false) a) ?_))));obtain rfl := sIn n;refine aD (aR rfl ⟨rfl, trivial⟩ rfl)
     ·refine tm (.b z) ?_;obtain ⟨A, o, h⟩ := bns h;refine bG 5 [3] 60 A ?_ ?_
      ·refine bch o (fun c o => ?_) (fun c o => ?_)
       ·refine tkl 1 c rfl rfl aCx rfl cV (tk c (fG (aI rfl) bO rfl rfl (rows := ([7]).map aG) rfl (aV (f := aG) fun _ => rfl) rfl (by decide)) ?_);obtain ⟨G, H, o⟩ := bns o;refine tk c (scr Tryz.call32 (lJ _ _ H)) (to (spt (.b G) c) ?_);obtain rfl := sIn o;refine aD (aR rfl ⟨rfl, trivial⟩ rfl)
       ·refine tp c (tp c (tp c (tp c (to (spf (.b false) c) ?_))));obtain rfl := sIn o;refine aD (aR rfl ⟨rfl, trivial⟩ rfl)
      ·refine tm (.b A) ?_;obtain ⟨B, p, h⟩ := bns h;refine bG 5 [] 66 B ?_ ?_
       ·refine bch p (fun e p => ?_) (fun e p => ?_)
        ·refine tkl 1 e rfl rfl aIf rfl cV (tk e (fG (aI rfl) bO rfl rfl (rows := ([6, 4]).map aG) rfl (aV (f := aG) fun _ => rfl) rfl (by decide)) ?_);obtain ⟨I, J, p⟩ := bns p;refine tk e (scr Tryz.call32 (lJ _ _ J)) (to (spt (.b I) e) ?_);obtain rfl := sIn p;refine aD (aR rfl trivial rfl)
        ·refine tp e (tp e (tp e (tp e (to (spf (.b false) e) ?_))));obtain rfl := sIn p;refine aD (aR rfl trivial rfl)
       ·refine ta (.b B) (aD ?_);obtain rfl := sIn h;refine bK (bE (bH (l := [0]) ⟨rfl, trivial⟩)) ?_;exact aU ⟨rfl, _, .one _, rfl, rfl⟩

theorem sL (c : List Int) (e : Int) {r : Bool} (h : kG c e = some r) : Fn Tryz.prog 17 [.d (.sl 1 (c.map aG)), .i e] (.b r) := by
 unfold kG at h;refine Fn.of_tr Tryz.func17 rfl (rs := [.tmp 4]) Tryz.results17 Tryz.ntmps17 (Nat.le_of_ble_eq_true rfl) ?_;refine aF (aC (ta (.b false) (aD (aF (aF (aC (ta (.i 0) (aD (bL ?_)))))))));refine cH (S := Int) [0, 1] (fun s1 => [(5, .i s1)]) (fun s1 => []) (fun k s1 => gD c e k s1) (fun _ => rfl) (0) h (aQ [] rfl rfl (aL rfl (aO ⟨rfl, rfl, trivial⟩))) ?_;rintro k2 a h;simp only [gD] at h;refine aF (aF (aC (tm (.i a) (tm (.d (.sl 1 (c.map aG))) (to (sle rfl bO.of) (to (scm rfl rfl rfl) (aD ?_)))))));refine tih h (fun c3 h => ?_) (fun c3 h => ?_)
 ·refine bB (aF (bL (aF (aC (tm (.d (.sl 1 (c.map aG))) (tm (.i a) ?_))))));obtain ⟨x4, h5, h⟩ := bns h;refine to (six rfl rfl bO.of (bR aG h5)) (to (slc rfl aS) (tm (.i e) (to (scm rfl rfl rfl) (aD ?_))));refine tih h (fun c6 h => ?_) (fun c6 h => ?_)
  ·refine aF (aC (ta (.b true) (aD ?_)));obtain rfl := sIn h;exact aU ⟨rfl, _, .one _, rfl, rfl⟩
  ·refine bV ?_;refine aC (tm (.i a) (to (sar rfl rfl rfl) (ta (.i (w64 (a + 1))) (aD ?_))));exact ⟨(w64 (a + 1)), h, aQ [] rfl rfl (aL rfl (aO ⟨rfl, rfl, trivial⟩))⟩
 ·refine bZ ?_;refine .inl ⟨rfl, ?_⟩;simp only [nT] at h;refine aF (aC (ta (.b false) (aD ?_)));obtain rfl := sIn h;exact aU ⟨rfl, _, .one _, rfl, rfl⟩

theorem tG (H : aT) (o : List aK) (p : eI) {r : Bool} (h : jL H o p = some r) : Fn Tryz.prog 5 [.agg (aX H), .d (.sl 5 (o.map aH)), .agg (jD p)] (.b r) := by
 unfold jL at h;refine Fn.of_tr Tryz.func5 rfl (rs := [.tmp 6]) Tryz.results5 Tryz.ntmps5 (Nat.le_of_ble_eq_true rfl) ?_;refine aF (aC ?_);refine bF rfl (gU (v := .agg (aX H)) (aI rfl) rfl rfl rfl) ?_;rintro _ ⟨b1, rfl⟩;refine bF rfl (gU (v := .agg (jD p)) (aI rfl) rfl rfl rfl) ?_;rintro _ ⟨b2, rfl⟩;refine ta (.b false) (aD (aF (aF (aC (to (sla 0 (aX H) rfl rfl jC) (tm (.d (.sl 5 (o.map aH))) ?_))))));obtain ⟨r3, h4, h⟩ := bns h;refine to (scr Tryz.call11 (vV _ _ h4)) (to (sn rfl) (tm (.b (!r3)) ?_));obtain ⟨b5, h6, h⟩ := bns h;refine bG 5 [1, 3, 5] 23 b5 ?_ ?_
 ·refine bch h6 (fun E h6 => ?_) (fun E h6 => ?_)
  ·refine tp E (tp E (tp E (tp E (to (spt (.b true) E) ?_))));obtain rfl := sIn h6;refine aD (aR rfl ⟨rfl, rfl, rfl, trivial⟩ rfl)
  ·refine tkl 1 E rfl rfl qD rfl aS ?_;obtain ⟨a2, a3, h6⟩ := bns h6;refine tk E (scr Tryz.call12 (pY _ a3)) (tk E (sn rfl) (to (spf (.b (!a2)) E) ?_));obtain rfl := sIn h6;refine aD (aR rfl ⟨rfl, rfl, rfl, trivial⟩ rfl)
 ·refine tm (.b b5) ?_;obtain ⟨b7, h8, h⟩ := bns h;refine bG 5 [1, 3, 5] 29 b7 ?_ ?_
  ·refine bch h8 (fun F h8 => ?_) (fun F h8 => ?_)
   ·refine tp F (tp F (tp F (tp F (to (spt (.b true) F) ?_))));obtain rfl := sIn h8;refine aD (aR rfl ⟨rfl, rfl, rfl, trivial⟩ rfl)
   ·refine tkl 1 F rfl rfl uV rfl aS ?_;obtain ⟨a4, a5, h8⟩ := bns h8;refine tk F (scr Tryz.call12 (pY _ a5)) (tk F (sn rfl) (to (spf (.b (!a4)) F) ?_));obtain rfl := sIn h8;refine aD (aR rfl ⟨rfl, rfl, rfl, trivial⟩ rfl)
  ·refine tm (.b b7) ?_;obtain ⟨b9, L, h⟩ := bns h;refine bG 6 [1, 3, 5] 36 b9 ?_ ?_
   ·refine bch L (fun A L => ?_) (fun A L => ?_)
    ·refine tp A (tp A (tp A (tp A (tp A (to (spt (.b true) A) ?_)))));obtain rfl := sIn L;refine aD (aR rfl ⟨rfl, rfl, rfl, trivial⟩ rfl)
    ·refine tkl 1 A rfl rfl qD rfl aS (tkl 0 A rfl rfl oQ rfl aS (tk A (scm rfl rfl rfl) (to (spf (.b (decide (p.First < H.Close))) A) ?_)));obtain rfl := sIn L;refine aD (aR rfl ⟨rfl, rfl, rfl, trivial⟩ rfl)
   ·refine tm (.b b9) ?_;obtain ⟨a6, M, h⟩ := bns h;refine bG 6 [1, 3, 5] 43 a6 ?_ ?_
    ·refine bch M (fun B M => ?_) (fun B M => ?_)
     ·refine tp B (tp B (tp B (tp B (tp B (to (spt (.b true) B) ?_)))));obtain rfl := sIn M;refine aD (aR rfl ⟨rfl, rfl, rfl, trivial⟩ rfl)
     ·refine tkl 1 B rfl rfl uV rfl aS (tkl 1 B rfl rfl qD rfl aS (tk B (scm rfl rfl rfl) (to (spf (.b (decide (p.Second < p.First))) B) ?_)));obtain rfl := sIn M;refine aD (aR rfl ⟨rfl, rfl, rfl, trivial⟩ rfl)
    ·refine aD ?_;refine tih h (fun a7 h => ?_) (fun a7 h => ?_)
     ·refine aF (aC ?_);obtain ⟨a8, a9, h⟩ := bns h;refine to (scr Tryz.call13 (rB a9)) (ta (.b a8) (aD ?_));obtain rfl := sIn h;refine bK (bE (bH (l := [6]) ⟨rfl, trivial⟩)) ?_;exact aU ⟨rfl, _, .one _, rfl, rfl⟩
     ·refine bB (aF (aC (to (sla 0 (aX H) rfl rfl jC) (tm (.d (.sl 5 (o.map aH))) (tfl 1 rfl rfl qD rfl aS ?_)))));obtain ⟨w, b0, h⟩ := bns h;refine to (dC (aI rfl) (.func _ _ Tryz.call14) rfl rfl (sN _ _ _ b0)) ?_;refine tm (.tup [.agg (cZ w.1), .i w.2]) (to (sex rfl rfl) (to (sex rfl rfl) ?_));refine bF rfl (dX (zs := [.sl 1 ((([] : List Int)).map aG), .sl 1 ((([] : List Int)).map aG), .sl 1 ((([] : List Int)).map aG), .lit (.int .i64 0)]) (aI rfl) Tryz.zeroValue34 rfl rfl) ?_;rintro _ ⟨G, rfl⟩;refine to (sst 2 rfl rfl Tryz.sizeOf34 (cZ w.1)) (ta (.i w.2) (aD (aF (aC (to (sla 0 (aX H) rfl rfl jC) (tm (.d (.sl 5 (o.map aH))) (tfl 1 rfl rfl uV rfl aS ?_)))))));obtain ⟨y, b3, h⟩ := bns h;refine to (dC (aI rfl) (.func _ _ Tryz.call14) rfl rfl (sN _ _ _ b3)) ?_;refine tm (.tup [.agg (cZ y.1), .i y.2]) (to (sex rfl rfl) (to (sex rfl rfl) ?_));refine bF rfl (dX (zs := [.sl 1 ((([] : List Int)).map aG), .sl 1 ((([] : List Int)).map aG), .sl 1 ((([] : List Int)).map aG), .lit (.int .i64 0)]) (aI rfl) Tryz.zeroValue34 rfl rfl) ?_;rintro _ ⟨O, rfl⟩;refine to (sst 3 rfl rfl Tryz.sizeOf34 (cZ y.1)) (ta (.i y.2) (aD (aF (aF (aC (tm (.i w.2) (to (scm rfl rfl rfl) (tm (.b (!decide (w.2 = 0))) ?_))))))));obtain ⟨b4, N, h⟩ := bns h;refine bG 3 [1, 5, 7, 9] 66 b4 ?_ ?_
      ·refine bch N (fun I N => ?_) (fun I N => ?_)
       ·refine tp I (tp I (to (spt (.b true) I) ?_));obtain rfl := sIn N;refine aD (aR rfl ⟨rfl, rfl, rfl, rfl, trivial⟩ rfl)
       ·refine tk I (sm (.i y.2)) (tk I (scm rfl rfl rfl) (to (spf (.b (!decide (y.2 = 0))) I) ?_));obtain rfl := sIn N;refine aD (aR rfl ⟨rfl, rfl, rfl, rfl, trivial⟩ rfl)
      ·refine aD ?_;refine tih h (fun b6 h => ?_) (fun b6 h => ?_)
       ·refine aF (aC (ta (.b false) (aD ?_)));obtain rfl := sIn h;refine bK (bE (bH (l := [6]) ⟨rfl, trivial⟩)) ?_;exact aU ⟨rfl, _, .one _, rfl, rfl⟩
       ·refine bB (aF (aF (aC (ta (.i 0) (aD (bL ?_))))));refine cH (S := Int) [1, 5, 7, 9] (fun P => [(11, .i P)]) (fun P => [.box b2 0 (jD p), .box G 0 (cZ w.1), .box O 0 (cZ y.1)]) (fun k P => cL o p w.1 y.1 k P) (fun _ => rfl) (0) h (aQ [1, 2, 3] rfl rfl (aL rfl (aO ⟨rfl, rfl, rfl, rfl, trivial⟩))) ?_;rintro b8 n h;simp only [cL] at h;refine aF (aF (aC (tm (.i n) (tfl 1 rfl rfl mB rfl cV (to (sle rfl bO.of) (to (scm rfl rfl rfl) (aD ?_)))))));refine tih h (fun c0 h => ?_) (fun c0 h => ?_)
        ·refine bB (aF (bL (aF ?_)));obtain ⟨U, c1, h⟩ := bns h;refine bU mix 7 [1, 5, 7, 9, 11] [(75, .d (.sl 1 (y.1.Wilds.map aG))), (80, .i U)] ?_ ?_
         ·refine ⟨[(74, 0, .bp O 0 1), (75, 1, .d (.sl 1 (y.1.Wilds.map aG))), (76, 2, .bp G 0 0), (77, 3, .d (.sl 1 (w.1.Main.map aG))), (78, 4, .i n), (79, 5, .cp [.lit (.int .i64 U)]), (80, 6, .i U)], ?_, ?_⟩
          · exact dok [([], []), ([0], []), ([], []), ([2], []), ([], []), ([3, 4], []), ([5], [])] ⟨go (zf rfl aCx),
      go (zl 2 rfl rfl rfl cV),
      go (zf rfl mB),
      go (zl 1 rfl rfl rfl cV),
      go (zm (.i n)),
      go (zix rfl rfl bO.of (bR aG c1)),
      go (zlc rfl aS), trivial⟩
          · exact bM (aL rfl (aL rfl (aO ⟨rfl, rfl, rfl, rfl, rfl, trivial⟩)))
         ·obtain ⟨X, c2, h⟩ := bns h;refine to (scr Tryz.call17 (sL _ _ c2)) (ta (.b X) (aD (aF (aF (aC (ta (.i 0) (aD (bL ?_))))))));refine cH (S := Bool × Int) [1, 5, 7, 9, 11] (fun K => [(12, .b K.1), (13, .i K.2)]) (fun K => [.box b2 0 (jD p), .box G 0 (cZ w.1), .box O 0 (cZ y.1)]) (fun k K => dL (cL o p w.1 y.1 b8) o n p w.1 y.1 k K.1 K.2) (fun _ => rfl) (X, 0) h (aQ [0, 1, 2] rfl rfl (aL rfl (aL rfl (aO ⟨rfl, rfl, rfl, rfl, rfl, trivial⟩)))) ?_;rintro d1 ⟨c, e⟩ h;simp only [dL] at h;refine aF (aF (aC (tm (.i e) (tm (.d (.sl 5 (o.map aH))) (to (sle rfl cW.of) (to (scm rfl rfl rfl) (aD ?_)))))));refine tih h (fun c3 h => ?_) (fun c3 h => ?_)
          ·refine bB (aF (bL ?_));obtain ⟨V, t, h⟩ := bns h;refine bU mix 42 [1, 5, 7, 9, 11, 13] [(129, .b V)] ?_ ?_
           ·refine bch t (fun a t => ?_) (fun a t => ?_)
            ·obtain rfl := sIn t;refine ⟨[(88, 0, .b c), (89, 1, .b c), (90, 2, .tup []), (91, 3, .tup []), (92, 4, .tup []), (93, 5, .tup []), (94, 6, .tup []), (95, 7, .tup []), (96, 8, .tup []), (97, 9, .tup []), (98, 10, .tup []), (99, 11, .tup []), (100, 12, .tup []), (101, 13, .tup []), (102, 14, .tup []), (103, 15, .tup []), (104, 16, .tup []), (105, 17, .tup []), (106, 18, .tup []), (107, 19, .tup []), (108, 20, .tup []), (109, 21, .tup []), (110, 22, .tup []), (111, 23, .tup []), (112, 24, .tup []), (113, 25, .tup []), (114, 26, .tup []), (115, 27, .tup []), (116, 28, .tup []), (117, 29, .tup []), (118, 30, .tup []), (119, 31, .tup []), (120, 32, .tup []), (121, 33, .tup []), (122, 34, .tup []), (123, 35, .tup []), (124, 36, .tup []), (125, 37, .tup []), (126, 38, .tup []), (127, 39, .tup []), (128, 40, .tup []), (129, 41, .b true)], ?_, ?_⟩
             · exact dok [([], []), ([0], []), ([1], []), ([1], []), ([1, 2, 3], []), ([1, 4], []), ([1, 5], []), ([1], []), ([1, 7], []), ([1], []), ([1, 8, 9], []), ([1, 10], []), ([1, 6, 11], []), ([1, 12], []), ([13], []), ([13], []), ([13, 14, 15], []), ([13, 16], []), ([13, 17], []), ([13, 18], []), ([1, 13, 19], []), ([1, 20], []), ([21], []), ([21], []), ([21, 22, 23], []), ([21, 24], []), ([21, 25], []), ([21], []), ([21, 27], []), ([21, 26, 28], []), ([1, 21, 29], []), ([1, 30], []), ([31], []), ([31], []), ([31, 32, 33], []), ([31, 34], []), ([31, 35], []), ([31], []), ([31, 37], []), ([31, 36, 38], []), ([1, 31, 39], []), ([1, 40], [])] ⟨go (zm (.b c)),
      go (zm (.b c)),
      gp a,
      gp a,
      gp a,
      gp a,
      gp a,
      gp a,
      gp a,
      gp a,
      gp a,
      gp a,
      gp a,
      gp a,
      gq,
      gq,
      gq,
      gq,
      gq,
      gq,
      gp a,
      gp a,
      gq,
      gq,
      gq,
      gq,
      gq,
      gq,
      gq,
      gq,
      gp a,
      gp a,
      gq,
      gq,
      gq,
      gq,
      gq,
      gq,
      gq,
      gq,
      gp a,
      go (zpt (.b true) a), trivial⟩
             · exact bM (aL rfl (aO ⟨rfl, rfl, rfl, rfl, rfl, rfl, trivial⟩))
            ·obtain ⟨f, Q, t⟩ := bns t;obtain ⟨u, T, t⟩ := bns t;obtain ⟨d2, J, t⟩ := bns t;refine bch J (fun q J => ?_) (fun q J => ?_)
             ·obtain ⟨j, W, J⟩ := bns J;obtain rfl := sIn J;obtain ⟨c4, C, t⟩ := bns t;refine bch C (fun m C => ?_) (fun m C => ?_)
              ·obtain ⟨s, Y, C⟩ := bns C;obtain rfl := sIn C;obtain ⟨Z, x, t⟩ := bns t;refine bch x (fun g x => ?_) (fun g x => ?_)
               ·obtain ⟨z, c5, x⟩ := bns x;obtain rfl := sIn x;obtain rfl := sIn t;refine ⟨[(88, 0, .b c), (89, 1, .b c), (90, 2, .d (.sl 5 (o.map aH))), (91, 3, .i e), (92, 4, .cp [.lit (.int .i64 f.Id), .lit (.int .i64 f.Hour), .lit (.int .i64 f.Kind), .lit (.int .i64 f.Player), .lit (.int .i64 f.Rank)]), (93, 5, .cp [.lit (.int .i64 f.Player)]), (94, 6, .i f.Player), (95, 7, .bp G 0 0), (96, 8, .d (.sl 1 (w.1.Main.map aG))), (97, 9, .i n), (98, 10, .cp [.lit (.int .i64 u)]), (99, 11, .i u), (100, 12, .b (decide (f.Player = u))), (101, 13, .b (decide (f.Player = u))), (102, 14, .d (.sl 5 (o.map aH))), (103, 15, .i e), (104, 16, .cp [.lit (.int .i64 j.Id), .lit (.int .i64 j.Hour), .lit (.int .i64 j.Kind), .lit (.int .i64 j.Player), .lit (.int .i64 j.Rank)]), (105, 17, .cp [.lit (.int .i64 j.Kind)]), (106, 18, .i j.Kind), (107, 19, .b (decide (j.Kind = 4))), (108, 20, .b (decide (j.Kind = 4))), (109, 21, .b (decide (j.Kind = 4))), (110, 22, .d (.sl 5 (o.map aH))), (111, 23, .i e), (112, 24, .cp [.lit (.int .i64 s.Id), .lit (.int .i64 s.Hour), .lit (.int .i64 s.Kind), .lit (.int .i64 s.Player), .lit (.int .i64 s.Rank)]), (113, 25, .cp [.lit (.int .i64 s.Hour)]), (114, 26, .i s.Hour), (115, 27, .bp b2 0 0), (116, 28, .i p.First), (117, 29, .b (decide (p.First < s.Hour))), (118, 30, .b (decide (p.First < s.Hour))), (119, 31, .b (decide (p.First < s.Hour))), (120, 32, .d (.sl 5 (o.map aH))), (121, 33, .i e), (122, 34, .cp [.lit (.int .i64 z.Id), .lit (.int .i64 z.Hour), .lit (.int .i64 z.Kind), .lit (.int .i64 z.Player), .lit (.int .i64 z.Rank)]), (123, 35, .cp [.lit (.int .i64 z.Hour)]), (124, 36, .i z.Hour), (125, 37, .bp b2 0 1), (126, 38, .i p.Second), (127, 39, .b (decide (z.Hour ≤ p.Second))), (128, 40, .b (decide (z.Hour ≤ p.Second))), (129, 41, .b (decide (z.Hour ≤ p.Second)))], ?_, ?_⟩
                · exact dok [([], []), ([0], []), ([1], []), ([1], []), ([1, 2, 3], []), ([1, 4], []), ([1, 5], []), ([1], []), ([1, 7], []), ([1], []), ([1, 8, 9], []), ([1, 10], []), ([1, 6, 11], []), ([1, 12], []), ([13], []), ([13], []), ([13, 14, 15], []), ([13, 16], []), ([13, 17], []), ([13, 18], []), ([1, 13, 19], []), ([1, 20], []), ([21], []), ([21], []), ([21, 22, 23], []), ([21, 24], []), ([21, 25], []), ([21], []), ([21, 27], []), ([21, 26, 28], []), ([1, 21, 29], []), ([1, 30], []), ([31], []), ([31], []), ([31, 32, 33], []), ([31, 34], []), ([31, 35], []), ([31], []), ([31, 37], []), ([31, 36, 38], []), ([1, 31, 39], []), ([1, 40], [])] ⟨go (zm (.b c)),
      go (zm (.b c)),
      gt a (zm (.d (.sl 5 (o.map aH)))),
      gt a (zm (.i e)),
      gt a (zix rfl rfl cW.of (bR aH Q)),
      gt a (zfc [.lit (.int .i64 f.Player)] rfl cT),
      gt a (zlc rfl aS),
      gt a (zf rfl mB),
      gt a (zl 1 rfl rfl rfl cV),
      gt a (zm (.i n)),
      gt a (zix rfl rfl bO.of (bR aG T)),
      gt a (zlc rfl aS),
      gt a (zcm rfl rfl rfl),
      gt a (zm (.b (decide (f.Player = u)))),
      gt q (zm (.d (.sl 5 (o.map aH)))),
      gt q (zm (.i e)),
      gt q (zix rfl rfl cW.of (bR aH W)),
      gt q (zfc [.lit (.int .i64 j.Kind)] rfl nG),
      gt q (zlc rfl aS),
      gt q (zcm rfl rfl rfl),
      gt a (zpt (.b (decide (j.Kind = 4))) q),
      gt a (zm (.b (decide (j.Kind = 4)))),
      gt m (zm (.d (.sl 5 (o.map aH)))),
      gt m (zm (.i e)),
      gt m (zix rfl rfl cW.of (bR aH Y)),
      gt m (zfc [.lit (.int .i64 s.Hour)] rfl dM),
      gt m (zlc rfl aS),
      gt m (zf rfl qD),
      gt m (zl 0 rfl rfl rfl aS),
      gt m (zcm rfl rfl rfl),
      gt a (zpt (.b (decide (p.First < s.Hour))) m),
      gt a (zm (.b (decide (p.First < s.Hour)))),
      gt g (zm (.d (.sl 5 (o.map aH)))),
      gt g (zm (.i e)),
      gt g (zix rfl rfl cW.of (bR aH c5)),
      gt g (zfc [.lit (.int .i64 z.Hour)] rfl dM),
      gt g (zlc rfl aS),
      gt g (zf rfl uV),
      gt g (zl 0 rfl rfl rfl aS),
      gt g (zcm rfl rfl rfl),
      gt a (zpt (.b (decide (z.Hour ≤ p.Second))) g),
      go (zpf (.b (decide (z.Hour ≤ p.Second))) a), trivial⟩
                · exact bM (aL rfl (aO ⟨rfl, rfl, rfl, rfl, rfl, rfl, trivial⟩))
               ·obtain rfl := sIn x;obtain rfl := sIn t;refine ⟨[(88, 0, .b c), (89, 1, .b c), (90, 2, .d (.sl 5 (o.map aH))), (91, 3, .i e), (92, 4, .cp [.lit (.int .i64 f.Id), .lit (.int .i64 f.Hour), .lit (.int .i64 f.Kind), .lit (.int .i64 f.Player), .lit (.int .i64 f.Rank)]), (93, 5, .cp [.lit (.int .i64 f.Player)]), (94, 6, .i f.Player), (95, 7, .bp G 0 0), (96, 8, .d (.sl 1 (w.1.Main.map aG))), (97, 9, .i n), (98, 10, .cp [.lit (.int .i64 u)]), (99, 11, .i u), (100, 12, .b (decide (f.Player = u))), (101, 13, .b (decide (f.Player = u))), (102, 14, .d (.sl 5 (o.map aH))), (103, 15, .i e), (104, 16, .cp [.lit (.int .i64 j.Id), .lit (.int .i64 j.Hour), .lit (.int .i64 j.Kind), .lit (.int .i64 j.Player), .lit (.int .i64 j.Rank)]), (105, 17, .cp [.lit (.int .i64 j.Kind)]), (106, 18, .i j.Kind), (107, 19, .b (decide (j.Kind = 4))), (108, 20, .b (decide (j.Kind = 4))), (109, 21, .b (decide (j.Kind = 4))), (110, 22, .d (.sl 5 (o.map aH))), (111, 23, .i e), (112, 24, .cp [.lit (.int .i64 s.Id), .lit (.int .i64 s.Hour), .lit (.int .i64 s.Kind), .lit (.int .i64 s.Player), .lit (.int .i64 s.Rank)]), (113, 25, .cp [.lit (.int .i64 s.Hour)]), (114, 26, .i s.Hour), (115, 27, .bp b2 0 0), (116, 28, .i p.First), (117, 29, .b (decide (p.First < s.Hour))), (118, 30, .b (decide (p.First < s.Hour))), (119, 31, .b (decide (p.First < s.Hour))), (120, 32, .tup []), (121, 33, .tup []), (122, 34, .tup []), (123, 35, .tup []), (124, 36, .tup []), (125, 37, .tup []), (126, 38, .tup []), (127, 39, .tup []), (128, 40, .b false), (129, 41, .b (false))], ?_, ?_⟩
                · exact dok [([], []), ([0], []), ([1], []), ([1], []), ([1, 2, 3], []), ([1, 4], []), ([1, 5], []), ([1], []), ([1, 7], []), ([1], []), ([1, 8, 9], []), ([1, 10], []), ([1, 6, 11], []), ([1, 12], []), ([13], []), ([13], []), ([13, 14, 15], []), ([13, 16], []), ([13, 17], []), ([13, 18], []), ([1, 13, 19], []), ([1, 20], []), ([21], []), ([21], []), ([21, 22, 23], []), ([21, 24], []), ([21, 25], []), ([21], []), ([21, 27], []), ([21, 26, 28], []), ([1, 21, 29], []), ([1, 30], []), ([31], []), ([31], []), ([31, 32, 33], []), ([31, 34], []), ([31, 35], []), ([31], []), ([31, 37], []), ([31, 36, 38], []), ([1, 31, 39], []), ([1, 40], [])] ⟨go (zm (.b c)),
      go (zm (.b c)),
      gt a (zm (.d (.sl 5 (o.map aH)))),
      gt a (zm (.i e)),
      gt a (zix rfl rfl cW.of (bR aH Q)),
      gt a (zfc [.lit (.int .i64 f.Player)] rfl cT),
      gt a (zlc rfl aS),
      gt a (zf rfl mB),
      gt a (zl 1 rfl rfl rfl cV),
      gt a (zm (.i n)),
      gt a (zix rfl rfl bO.of (bR aG T)),
      gt a (zlc rfl aS),
      gt a (zcm rfl rfl rfl),
      gt a (zm (.b (decide (f.Player = u)))),
      gt q (zm (.d (.sl 5 (o.map aH)))),
      gt q (zm (.i e)),
      gt q (zix rfl rfl cW.of (bR aH W)),
      gt q (zfc [.lit (.int .i64 j.Kind)] rfl nG),
      gt q (zlc rfl aS),
      gt q (zcm rfl rfl rfl),
      gt a (zpt (.b (decide (j.Kind = 4))) q),
      gt a (zm (.b (decide (j.Kind = 4)))),
      gt m (zm (.d (.sl 5 (o.map aH)))),
      gt m (zm (.i e)),
      gt m (zix rfl rfl cW.of (bR aH Y)),
      gt m (zfc [.lit (.int .i64 s.Hour)] rfl dM),
      gt m (zlc rfl aS),
      gt m (zf rfl qD),
      gt m (zl 0 rfl rfl rfl aS),
      gt m (zcm rfl rfl rfl),
      gt a (zpt (.b (decide (p.First < s.Hour))) m),
      gt a (zm (.b (decide (p.First < s.Hour)))),
      gp g,
      gp g,
      gp g,
      gp g,
      gp g,
      gp g,
      gp g,
      gp g,
      gt a (zpf (.b false) g),
      go (zpf (.b (false)) a), trivial⟩
                · exact bM (aL rfl (aO ⟨rfl, rfl, rfl, rfl, rfl, rfl, trivial⟩))
              ·obtain rfl := sIn C;obtain ⟨Z, x, t⟩ := bns t;have g : false = false := rfl;have x := kF g x;obtain rfl := sIn x;obtain rfl := sIn t;refine ⟨[(88, 0, .b c), (89, 1, .b c), (90, 2, .d (.sl 5 (o.map aH))), (91, 3, .i e), (92, 4, .cp [.lit (.int .i64 f.Id), .lit (.int .i64 f.Hour), .lit (.int .i64 f.Kind), .lit (.int .i64 f.Player), .lit (.int .i64 f.Rank)]), (93, 5, .cp [.lit (.int .i64 f.Player)]), (94, 6, .i f.Player), (95, 7, .bp G 0 0), (96, 8, .d (.sl 1 (w.1.Main.map aG))), (97, 9, .i n), (98, 10, .cp [.lit (.int .i64 u)]), (99, 11, .i u), (100, 12, .b (decide (f.Player = u))), (101, 13, .b (decide (f.Player = u))), (102, 14, .d (.sl 5 (o.map aH))), (103, 15, .i e), (104, 16, .cp [.lit (.int .i64 j.Id), .lit (.int .i64 j.Hour), .lit (.int .i64 j.Kind), .lit (.int .i64 j.Player), .lit (.int .i64 j.Rank)]), (105, 17, .cp [.lit (.int .i64 j.Kind)]), (106, 18, .i j.Kind), (107, 19, .b (decide (j.Kind = 4))), (108, 20, .b (decide (j.Kind = 4))), (109, 21, .b (decide (j.Kind = 4))), (110, 22, .tup []), (111, 23, .tup []), (112, 24, .tup []), (113, 25, .tup []), (114, 26, .tup []), (115, 27, .tup []), (116, 28, .tup []), (117, 29, .tup []), (118, 30, .b false), (119, 31, .b (false)), (120, 32, .tup []), (121, 33, .tup []), (122, 34, .tup []), (123, 35, .tup []), (124, 36, .tup []), (125, 37, .tup []), (126, 38, .tup []), (127, 39, .tup []), (128, 40, .b false), (129, 41, .b (false))], ?_, ?_⟩
               · exact dok [([], []), ([0], []), ([1], []), ([1], []), ([1, 2, 3], []), ([1, 4], []), ([1, 5], []), ([1], []), ([1, 7], []), ([1], []), ([1, 8, 9], []), ([1, 10], []), ([1, 6, 11], []), ([1, 12], []), ([13], []), ([13], []), ([13, 14, 15], []), ([13, 16], []), ([13, 17], []), ([13, 18], []), ([1, 13, 19], []), ([1, 20], []), ([21], []), ([21], []), ([21, 22, 23], []), ([21, 24], []), ([21, 25], []), ([21], []), ([21, 27], []), ([21, 26, 28], []), ([1, 21, 29], []), ([1, 30], []), ([31], []), ([31], []), ([31, 32, 33], []), ([31, 34], []), ([31, 35], []), ([31], []), ([31, 37], []), ([31, 36, 38], []), ([1, 31, 39], []), ([1, 40], [])] ⟨go (zm (.b c)),
      go (zm (.b c)),
      gt a (zm (.d (.sl 5 (o.map aH)))),
      gt a (zm (.i e)),
      gt a (zix rfl rfl cW.of (bR aH Q)),
      gt a (zfc [.lit (.int .i64 f.Player)] rfl cT),
      gt a (zlc rfl aS),
      gt a (zf rfl mB),
      gt a (zl 1 rfl rfl rfl cV),
      gt a (zm (.i n)),
      gt a (zix rfl rfl bO.of (bR aG T)),
      gt a (zlc rfl aS),
      gt a (zcm rfl rfl rfl),
      gt a (zm (.b (decide (f.Player = u)))),
      gt q (zm (.d (.sl 5 (o.map aH)))),
      gt q (zm (.i e)),
      gt q (zix rfl rfl cW.of (bR aH W)),
      gt q (zfc [.lit (.int .i64 j.Kind)] rfl nG),
      gt q (zlc rfl aS),
      gt q (zcm rfl rfl rfl),
      gt a (zpt (.b (decide (j.Kind = 4))) q),
      gt a (zm (.b (decide (j.Kind = 4)))),
      gp m,
      gp m,
      gp m,
      gp m,
      gp m,
      gp m,
      gp m,
      gp m,
      gt a (zpf (.b false) m),
      gt a (zm (.b (false))),
      gp g,
      gp g,
      gp g,
      gp g,
      gp g,
      gp g,
      gp g,
      gp g,
      gt a (zpf (.b false) g),
      go (zpf (.b (false)) a), trivial⟩
               · exact bM (aL rfl (aO ⟨rfl, rfl, rfl, rfl, rfl, rfl, trivial⟩))
             ·obtain rfl := sIn J;obtain ⟨c4, C, t⟩ := bns t;have m : false = false := rfl;have C := kF m C;obtain rfl := sIn C;obtain ⟨Z, x, t⟩ := bns t;have g : false = false := rfl;have x := kF g x;obtain rfl := sIn x;obtain rfl := sIn t;refine ⟨[(88, 0, .b c), (89, 1, .b c), (90, 2, .d (.sl 5 (o.map aH))), (91, 3, .i e), (92, 4, .cp [.lit (.int .i64 f.Id), .lit (.int .i64 f.Hour), .lit (.int .i64 f.Kind), .lit (.int .i64 f.Player), .lit (.int .i64 f.Rank)]), (93, 5, .cp [.lit (.int .i64 f.Player)]), (94, 6, .i f.Player), (95, 7, .bp G 0 0), (96, 8, .d (.sl 1 (w.1.Main.map aG))), (97, 9, .i n), (98, 10, .cp [.lit (.int .i64 u)]), (99, 11, .i u), (100, 12, .b (decide (f.Player = u))), (101, 13, .b (decide (f.Player = u))), (102, 14, .tup []), (103, 15, .tup []), (104, 16, .tup []), (105, 17, .tup []), (106, 18, .tup []), (107, 19, .tup []), (108, 20, .b false), (109, 21, .b (false)), (110, 22, .tup []), (111, 23, .tup []), (112, 24, .tup []), (113, 25, .tup []), (114, 26, .tup []), (115, 27, .tup []), (116, 28, .tup []), (117, 29, .tup []), (118, 30, .b false), (119, 31, .b (false)), (120, 32, .tup []), (121, 33, .tup []), (122, 34, .tup []), (123, 35, .tup []), (124, 36, .tup []), (125, 37, .tup []), (126, 38, .tup []), (127, 39, .tup []), (128, 40, .b false), (129, 41, .b (false))], ?_, ?_⟩
              · exact dok [([], []), ([0], []), ([1], []), ([1], []), ([1, 2, 3], []), ([1, 4], []), ([1, 5], []), ([1], []), ([1, 7], []), ([1], []), ([1, 8, 9], []), ([1, 10], []), ([1, 6, 11], []), ([1, 12], []), ([13], []), ([13], []), ([13, 14, 15], []), ([13, 16], []), ([13, 17], []), ([13, 18], []), ([1, 13, 19], []), ([1, 20], []), ([21], []), ([21], []), ([21, 22, 23], []), ([21, 24], []), ([21, 25], []), ([21], []), ([21, 27], []), ([21, 26, 28], []), ([1, 21, 29], []), ([1, 30], []), ([31], []), ([31], []), ([31, 32, 33], []), ([31, 34], []), ([31, 35], []), ([31], []), ([31, 37], []), ([31, 36, 38], []), ([1, 31, 39], []), ([1, 40], [])] ⟨go (zm (.b c)),
      go (zm (.b c)),
      gt a (zm (.d (.sl 5 (o.map aH)))),
      gt a (zm (.i e)),
      gt a (zix rfl rfl cW.of (bR aH Q)),
      gt a (zfc [.lit (.int .i64 f.Player)] rfl cT),
      gt a (zlc rfl aS),
      gt a (zf rfl mB),
      gt a (zl 1 rfl rfl rfl cV),
      gt a (zm (.i n)),
      gt a (zix rfl rfl bO.of (bR aG T)),
      gt a (zlc rfl aS),
      gt a (zcm rfl rfl rfl),
      gt a (zm (.b (decide (f.Player = u)))),
      gp q,
      gp q,
      gp q,
      gp q,
      gp q,
      gp q,
      gt a (zpf (.b false) q),
      gt a (zm (.b (false))),
      gp m,
      gp m,
      gp m,
      gp m,
      gp m,
      gp m,
      gp m,
      gp m,
      gt a (zpf (.b false) m),
      gt a (zm (.b (false))),
      gp g,
      gp g,
      gp g,
      gp g,
      gp g,
      gp g,
      gp g,
      gp g,
      gt a (zpf (.b false) g),
      go (zpf (.b (false)) a), trivial⟩
              · exact bM (aL rfl (aO ⟨rfl, rfl, rfl, rfl, rfl, rfl, trivial⟩))
           ·refine ta (.b V) ?_;refine cN ?_;refine aC (tm (.i e) (to (sar rfl rfl rfl) (ta (.i (w64 (e + 1))) (aD ?_))));exact ⟨(V, w64 (e + 1)), h, aQ [0, 1, 2] rfl rfl (aL rfl (aL rfl (aO ⟨rfl, rfl, rfl, rfl, rfl, trivial⟩)))⟩
          ·refine bZ ?_;refine .inl ⟨rfl, ?_⟩;simp only [fS] at h;refine aF ?_;obtain ⟨a0, c6, h⟩ := bns h;obtain ⟨a1, c7, h⟩ := bns h;refine bU mix 9 [1, 5, 7, 9, 11] [(130, .b c), (138, .b a1)] ?_ ?_
           ·refine ⟨[(130, 0, .b c), (131, 1, .bp O 0 0), (132, 2, .d (.sl 1 (y.1.Main.map aG))), (133, 3, .bp G 0 0), (134, 4, .d (.sl 1 (w.1.Main.map aG))), (135, 5, .i n), (136, 6, .cp [.lit (.int .i64 a0)]), (137, 7, .i a0), (138, 8, .b a1)], ?_, ?_⟩
            · exact dok [([], []), ([], []), ([1], []), ([], []), ([3], []), ([], []), ([4, 5], []), ([6], []), ([2, 7], [])] ⟨go (zm (.b c)),
      go (zf rfl mB),
      go (zl 2 rfl rfl rfl cV),
      go (zf rfl mB),
      go (zl 1 rfl rfl rfl cV),
      go (zm (.i n)),
      go (zix rfl rfl bO.of (bR aG c6)),
      go (zlc rfl aS),
      go fun S hS => iS (aI rfl) (.func _ _ Tryz.call17) (ev2 (aN hS rfl) (ev2 (aN hS rfl) evn)) rfl (BVs.refl _ _) (sL _ _ c7) rfl, trivial⟩
            · exact bM (aL rfl (aL rfl (aO ⟨rfl, rfl, rfl, rfl, rfl, trivial⟩)))
           ·refine to (aLl (aI rfl) rfl rfl Tryz.underlying4) ?_;refine aD ?_;refine tih h (fun c8 h => ?_) (fun c8 h => ?_)
            ·refine aF (aC (ta (.b false) (aD ?_)));obtain rfl := sIn h;refine bK (bE (bH (l := [6]) ⟨rfl, trivial⟩)) ?_;exact aU ⟨rfl, _, .one _, rfl, rfl⟩
            ·refine bV ?_;simp only [hU] at h;refine aC (tm (.i n) (to (sar rfl rfl rfl) (ta (.i (w64 (n + 1))) (aD ?_))));exact ⟨(w64 (n + 1)), h, aQ [0, 1, 2] rfl rfl (aL rfl (aO ⟨rfl, rfl, rfl, rfl, trivial⟩))⟩
        ·refine bZ ?_;refine .inl ⟨rfl, ?_⟩;simp only [kJ] at h;refine aF (aC ?_);obtain ⟨c9, d0, h⟩ := bns h;refine to (scr Tryz.call13 (rB d0)) (ta (.b c9) (aD ?_));obtain rfl := sIn h;refine bK (bE (bH (l := [6]) ⟨rfl, trivial⟩)) ?_;exact aU ⟨rfl, _, .one _, rfl, rfl⟩

end Go.Am
