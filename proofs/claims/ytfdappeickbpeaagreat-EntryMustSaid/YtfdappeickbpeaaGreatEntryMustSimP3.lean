/- The functions compute what the shallow ones say: printed by program. -/
import Derived.Test.YtfdappeickbpeaaGreatEntryMustSimP2
namespace Go.Am
open Go.Proofs
set_option maxRecDepth 100000
set_option maxHeartbeats 40000000

theorem aAc (A : aH) (e : Int) {r : Int} (h : mD A e = some r) : Fn Tryz.prog 38 [.cp (bA A), .i e] (.i r) := by
 unfold mD at h;refine oT [.tmp 4] Tryz.func38 Tryz.results38 Tryz.ntmps38 ?_;refine aF (aC ?_);refine dF (aOh 0 rfl (.cpt _)) ?_;refine bO rfl (jM (v := .d (.pt (bA A))) (aK rfl) rfl rfl rfl) ?_;rintro _ ⟨b1, rfl⟩;refine bO rfl (jM (v := .i e) (aK rfl) rfl rfl rfl) ?_;rintro _ ⟨b2, rfl⟩;refine ta (.i 0) (aD (aF (aC (to (mF (.ptc _) (lO (aK rfl) rfl (i := 0) rfl rfl gK)) ?_))));obtain ⟨r3, h4, h⟩ := bns h;refine to (dM (aK rfl) (.func _ _ Tryz.call34) rfl rfl (mE _ h4)) ?_;refine ta (.d (.sl 1 (r3.map aI))) (aD (aF (aC (to (mF (.ptc _) (lO (aK rfl) rfl (i := 0) rfl rfl gK)) ?_))));refine tm (.d (.sl 1 (r3.map aI))) ?_;obtain ⟨r5, h6, h⟩ := bns h;refine to (scr Tryz.call67 (qC _ _ h6)) (ta (.i r5) (aD (aF (aC (to (mF (.ptc _) (lO (aK rfl) rfl (i := 0) rfl rfl gK)) ?_)))));obtain ⟨r7, h8, h⟩ := bns h;refine bO rfl (kK (aK rfl) (.func _ _ Tryz.call35) rfl rfl (aCj _ h8)) ?_;rintro _ ⟨v9, rfl⟩;refine to (pO (aK rfl) rfl rfl) ?_;refine dF (aT [1, 2, 0] rfl rfl (le_refl _)) ?_;apply sT [.box b2 0 [.j e], .arr v9 3 1 (r7.map aI)] [.box b1 0 [.pt (bA A)]] rfl;exact cQ (k := 25) (v := .fn 68 [.cp [.pt (bA A)]]) (qJ (.cons (dO 0 rfl rfl (dvc (.same _) dvn)) .nil)) (cQ (k := 2) (v := .cp [.pt (bA A)]) (dO 0 rfl rfl (dvc (.same _) dvn)) (jR _ _));obtain ⟨C, a6, h⟩ := bns h;refine dF (aT [1, 0] rfl rfl (le_refl _)) ?_;refine bO rfl (iO (passed := [.arr v9 3 1 (r7.map aI)]) (aK rfl) rfl (.func _ _ Tryz.call64) rfl rfl (dV r7 (fun a7 => jG a7 A) 68 [.cp [.pt (bA A)]] Tryz.call68 (fun _ _ h => yJ _ A h) a6)) ?_;rintro _ ⟨_, _, ⟨Z, rfl, rfl⟩, rfl⟩;refine bO rfl (fC (zs := Z48) (aK rfl) Tryz.zeroValue25 rfl rfl) ?_;rintro _ ⟨a1, rfl⟩;refine to (sst 2 rfl rfl Tryz.sizeOf25 [.lit Z]) (aD (aF (aC (to (pO (aK rfl) rfl rfl) ?_))));refine ta (.fn 69 [.cp [.pt (bA A)], .bp a1 0 0, .bp b2 0 0]) (aD (aF (aC (tm (.d (.sl 1 (r3.map aI))) (to (sle rfl bS.of) (tm (.i r5) (to (sar rfl rfl rfl) (tm (.i r5) (to (uN (aK rfl) aTp (zs := [.j 0, .j 0, .j 0, .j 0]) rfl rfl rfl rfl (es := [.j (w64 ((r3.length : Int) - r5)), .j r5, .j 0, .j 0]) rfl) ?_)))))))));refine to (gH (aK rfl) vI rfl rfl (rows := ([(aO.mk (w64 ((r3.length : Int) - r5)) r5 0 0)]).map aQ) rfl (aY (f := aQ) fun _ => rfl) rfl (by decide)) ?_;refine ta (.d (.sl 4 ((([(aO.mk (w64 ((r3.length : Int) - r5)) r5 0 0)])).map aQ))) (aD (aF (aC ?_)));refine bO rfl (aBl (aK rfl)) ?_;rintro _ ⟨B, rfl⟩;refine ta (.d (.lit (.map (some B)))) (aD (aF (aF (aC (ta (.i 1) (aD (bQ ?_)))))));refine bP (aT [3, 0, 1, 2] rfl rfl (le_refl _)) ?_;apply aBs [.map B (([] : List (aO × Int)).map fun p : aO × Int => ((fun a : aO => Value.agg ((aQ a).map cE).toArray) p.1, (fun v : Int => AV.i v) p.2)) ([]) 0] [.arr Z 3 1 (C.map aI), .box b2 0 [.j e], .box a1 0 [.lit Z]] rfl;exact cQ (k := 27) (v := .fn 69 [.cp [.pt (bA A)], .cp [.sl 1 (C.map aI)], .cp [.j e]]) (qJ (.cons (.same _) (.cons (dO 2 rfl rfl (dvc (bR 0 rfl (aY (f := aI) fun _ => rfl)) dvn)) (.cons (dO 1 rfl rfl (dvc (.same _) dvn)) .nil)))) (cQ (k := 26) (v := .d (.sl 1 (C.map aI))) (.d (bR 0 rfl (aY (f := aI) fun _ => rfl))) (cQ (k := 24) (v := .any) (.any _) (cQ (k := 8) (v := .fn 69 [.cp [.pt (bA A)], .cp [.sl 1 (C.map aI)], .cp [.j e]]) (qJ (.cons (.same _) (.cons (dO 2 rfl rfl (dvc (bR 0 rfl (aY (f := aI) fun _ => rfl)) dvn)) (.cons (dO 1 rfl rfl (dvc (.same _) dvn)) .nil)))) (cQ (k := 7) (v := .cp [.sl 1 (C.map aI)]) (dO 2 rfl rfl (dvc (bR 0 rfl (aY (f := aI) fun _ => rfl)) dvn)) (cQ (k := 3) (v := .cp [.j e]) (dO 1 rfl rfl (dvc (.same _) dvn)) (jR _ _))))));refine cO (S := (List aO) × Int × (List (aO × Int)) × (List Nat) × Nat) [8, 10] (fun J => [(9, .d (.sl 4 (J.1.map aQ))), (11, .i J.2.1)]) (fun J => [.map B (J.2.2.1.map fun p : aO × Int => ((fun a : aO => Value.agg ((aQ a).map cE).toArray) p.1, (fun v : Int => AV.i v) p.2)) J.2.2.2.1 J.2.2.2.2]) (fun k J => eS A C e k J.1 J.2.1 J.2.2.1) (fun _ => rfl) ([(aO.mk (w64 ((r3.length : Int) - r5)) r5 0 0)], 1, ([] : List (aO × Int)), [], 0) h (aT [0] rfl rfl (aM rfl (aM rfl (aR ⟨rfl, rfl, trivial⟩)))) ?_;rintro a0 ⟨x, s, T, a4, a5⟩ h;simp only [eS] at h;refine aF (aF (aC (tm (.d (.sl 4 (x.map aQ))) (to (sle rfl vI.of) (to (scm rfl rfl rfl) (aD ?_))))));refine tih h (fun a8 h => ?_) (fun a8 h => ?_)
 ·refine bE (aF (bQ (aF (aC (to (gY 110 4 (.inl rfl) (aK rfl)) ?_)))));refine aD (aF (aF (aC (tm (.d (.sl 4 (x.map aQ))) (to (sle rfl vI.of) (tm (.i 0) (aD (bQ ?_))))))));refine cO (S := Int × (List aO) × (List (aO × Int)) × Value × (List Nat) × Nat) [8, 10, 11, 41, 42] (fun G => [(12, .d (.lit G.2.2.2.1)), (43, .i G.1)]) (fun G => [.arr G.2.2.2.1 110 4 (G.2.1.map aQ), .map B (G.2.2.1.map fun p : aO × Int => ((fun a : aO => Value.agg ((aQ a).map cE).toArray) p.1, (fun v : Int => AV.i v) p.2)) G.2.2.2.2.1 G.2.2.2.2.2]) (fun k G => eF (eS A C e a0) A C e s x (x.length : Int) k G.1 G.2.1 G.2.2.1) (fun _ => rfl) (0, ([] : List aO), T, (.slice none 0 0), a4, a5) h (aT [1, 0] rfl rfl (aM rfl (aM rfl (aR ⟨rfl, rfl, rfl, rfl, rfl, trivial⟩)))) ?_;rintro a9 ⟨K, y, L, W, U, V⟩ h;simp only [eF] at h;refine aF (aC (to (scm rfl rfl rfl) (aD (aF ?_))));refine tih h (fun b0 h => ?_) (fun b0 h => ?_)
  ·refine bE (aF (bQ (aF (aC ?_))));obtain ⟨t, b3, h⟩ := bns h;refine to (six rfl rfl vI.of (cJ aQ b3)) (to (aKe (aQ t) rfl kN) ?_);refine bO rfl (fC (zs := [.j 0, .j 0, .j 0, .j 0]) (aK rfl) Tryz.zeroValue110 rfl rfl) ?_;rintro _ ⟨O, rfl⟩;refine to (sst 2 rfl rfl Tryz.sizeOf110 (aQ t)) (aD (aF (aC (tm (.i 0) (aD ?_)))));refine aCe ?_;refine cO (S := Int × (List aO) × (List (aO × Int)) × Value × (List Nat) × Nat) [8, 10, 11, 14, 41, 42, 43] (fun H => [(12, .d (.lit H.2.2.2.1)), (47, .i H.1)]) (fun H => [.arr H.2.2.2.1 110 4 (H.2.1.map aQ), .box O 0 (aQ t), .map B (H.2.2.1.map fun p : aO × Int => ((fun a : aO => Value.agg ((aQ a).map cE).toArray) p.1, (fun v : Int => AV.i v) p.2)) H.2.2.2.2.1 H.2.2.2.2.2]) (fun k H => bT (eS A C e a0) (eF (eS A C e a0) A C e s x (x.length : Int) a9) A C e s x (x.length : Int) K t k H.1 H.2.1 H.2.2.1) (fun _ => rfl) (0, y, L, W, U, V) h (aT [0, 2, 1] rfl rfl (aM rfl (aM rfl (aR ⟨rfl, rfl, rfl, rfl, rfl, rfl, rfl, trivial⟩)))) ?_;rintro d0 ⟨n, q, c, I, u, o⟩ h;simp only [bT] at h;refine aF (aC (to (scm rfl rfl rfl) (aD (aF ?_))));refine tih h (fun b4 h => ?_) (fun b4 h => ?_)
   ·refine bE (aF (bQ (aF (aC (tm (.i n) (ta (.i n) (aD (aF (aC (to (sla 1 (aQ t) rfl rfl kN) ?_))))))))));refine bO rfl (fC (zs := [.j 0, .j 0, .j 0, .j 0]) (aK rfl) Tryz.zeroValue110 rfl rfl) ?_;rintro _ ⟨Y, rfl⟩;refine to (sst 3 rfl rfl Tryz.sizeOf110 (aQ t)) (aD (aF (aF (aC (tm (.i n) (to (scm rfl rfl rfl) (aD ?_)))))));refine tih h (fun b5 h => ?_) (fun b5 h => ?_)
    ·refine aC (tfl 3 rfl rfl oO rfl aV (to (sar rfl rfl rfl) (to (sf rfl oO) (to (sst 3 rfl rfl Tryz.sizeOf3 (aQ (aO.mk t.free (w64 (t.guarded - 1)) t.moved t.covered))) (aD (aF (aF (aC (tfl 3 rfl rfl oO rfl aV (to (scm rfl rfl rfl) (tm (.b (decide ((w64 (t.guarded - 1)) < 0))) ?_)))))))))));obtain ⟨b6, P, h⟩ := bns h;refine bG 4 [8, 10, 11, 12, 14, 16, 41, 42, 43, 47] 68 b6 ?_ ?_
     ·refine bch P (fun M P => ?_) (fun M P => ?_)
      ·refine tp M (tp M (tp M (to (spt Z37 M) ?_)));obtain rfl := sIn P;refine aD (aS rfl ⟨rfl, rfl, rfl, rfl, rfl, rfl, rfl, rfl, rfl, rfl, trivial⟩ rfl)
      ·refine tkl 3 M rfl rfl qR rfl aV (tk M (scm rfl rfl rfl) (to (spf (.b (decide (t.free < 0))) M) ?_));obtain rfl := sIn P;refine aD (aS rfl ⟨rfl, rfl, rfl, rfl, rfl, rfl, rfl, rfl, rfl, rfl, trivial⟩ rfl)
     ·refine aD ?_;refine tih h (fun b7 h => ?_) (fun b7 h => ?_)
      ·refine cD ?_;refine .inl ⟨rfl, ?_⟩;refine aC (to (sar rfl rfl rfl) (tm (.i (w64 (n + 1))) (aD ?_)));exact ⟨(w64 (n + 1), q, c, I, u, o), h, aT [0, 1, 2] rfl rfl (aM rfl (aM rfl (aR ⟨rfl, rfl, rfl, rfl, rfl, rfl, rfl, trivial⟩)))⟩
      ·refine bE (aF (aC (tm (.fn 69 [.cp [.pt (bA A)], .cp [.sl 1 (C.map aI)], .cp [.j e]]) (to (sla 3 (aQ (aO.mk t.free (w64 (t.guarded - 1)) t.moved t.covered)) rfl rfl kN) ?_))));obtain ⟨g, b8, h⟩ := bns h;refine to (dM (aK rfl) (.clo _ _ _ _ Tryz.call69 rfl) (aFl rfl) rfl (sQ _ _ _ _ b8)) ?_;refine tm (.tup [.agg (aQ g.1), .b g.2]) (to (sex rfl rfl) (to (sex rfl rfl) (to (sst 3 rfl rfl Tryz.sizeOf110 (aQ g.1)) (ta (.b g.2) (aD (aF (aF (aC (tm (.b g.2) (aD ?_))))))))));refine tih h (fun b9 h => ?_) (fun b9 h => ?_)
       ·refine aF (aC (tm (.i s) (ta (.i s) (aD ?_))));obtain rfl := sIn h;refine bP (bK (bM (l := [4]) ⟨rfl, trivial⟩)) ?_;exact rt
       ·refine bE (aF ?_);refine lS mix 6 [8, 10, 11, 12, 14, 16, 41, 42, 43, 47] (fun E => [(77, .d (.lit (.map (some B)))), (80, .i (w64 ((aE g.1 0 c) + 1))), (82, .i (mX g.1 c u o))]) (fun E => [.arr I 110 4 (q.map aQ), .box O 0 (aQ t), .map B ((mW g.1 0 c).map fun p : aO × Int => ((fun a : aO => Value.agg ((aQ a).map cE).toArray) p.1, (fun v : Int => AV.i v) p.2)) (mbs g.1 c u o) (mck g.1 c o), .box Y 0 (aQ g.1)]) ?_ ?_
        ·refine ⟨0, fun E => [(77, 0, .d (.lit (.map (some B)))), (78, 1, .agg (aQ g.1)), (79, 2, .i (aE g.1 0 c)), (80, 3, .i (w64 ((aE g.1 0 c) + 1))), (81, 4, .tup [.i (aE g.1 0 c), .i (mX g.1 c u o)]), (82, 5, .i (mX g.1 c u o))], fun E => [([], .arr I 110 4 (q.map aQ)), ([], .box O 0 (aQ t)), ([(4, .map B ((mW g.1 0 c).map fun p : aO × Int => ((fun a : aO => Value.agg ((aQ a).map cE).toArray) p.1, (fun v : Int => AV.i v) p.2)) (mbs g.1 c u o) (mck g.1 c o))], .map B (c.map fun p : aO × Int => ((fun a : aO => Value.agg ((aQ a).map cE).toArray) p.1, (fun v : Int => AV.i v) p.2)) u o), ([], .box Y 0 (aQ g.1))], ?_, ?_⟩
         · exact xok [(0, 5), (0, 5), (102, 0), (3, 0), (102, 0), (5, 0)] ⟨fun E S w _ k => xp w (ym k (.d (.lit (.map (some B))))),
      fun E S w _ k => xp w (yla k 3 (aQ g.1) rfl (og k rfl rfl) kN),
      fun E S w _ k => xp w (aHf (av := (fun v : Int => AV.i v)) (l := c) (z := 0) (a := g.1) (m := 2) (aK rfl) wD Tryz.underlying113 Tryz.zeroValue3 (fun _ _ => .d (.lit _ rfl)) (aU k rfl) (og2 rfl) rfl (aU k rfl) (sR (enc := aQ) g.1 rfl)),
      fun E S w _ k => xp w (yar k rfl rfl rfl),
      fun E S hw hi hS => aPy (X := E) (p := 2) hS rfl rfl rfl (hw E) rfl rfl rfl (lR (aFb (av := (fun v : Int => AV.i v)) (l := c) (z := 0) (a := g.1) (m := 2) (aK rfl) wD Tryz.underlying113 Tryz.zeroValue3 (fun _ _ => .d (.lit _ rfl)) (aU hS rfl) (og hS rfl rfl) rfl (aU hS rfl) (sR (enc := aQ) g.1 rfl)) (by rintro _ rfl; exact Ent.refl _)),
      fun E S w _ k => xp w (yex k rfl rfl), trivial⟩
         · exact fun E => bV (aM rfl (aM rfl (aM rfl (aR ⟨rfl, rfl, rfl, rfl, rfl, rfl, rfl, rfl, rfl, rfl, trivial⟩))))
        ·intro E;refine to (zZ (kv := (fun a : aO => Value.agg ((aQ a).map cE).toArray)) (av := (fun v : Int => AV.i v)) (l := c) (z := 0) (v := w64 ((aE g.1 0 c) + 1)) (a := g.1) (m := 2) rfl rfl rfl rfl rfl) ?_;refine aD (aF (aC (tm (.d (.lit (.map (some B)))) (to (sla 3 (aQ g.1) rfl rfl kN) (to (xH (av := (fun v : Int => AV.i v)) (l := (bY g.1 (w64 ((aE g.1 0 c) + 1)) c)) (z := 0) (a := g.1) (m := 2) (aK rfl) wD Tryz.underlying113 Tryz.zeroValue3 (fun _ _ => .d (.lit _ rfl)) rfl rfl rfl rfl (sR (enc := aQ) g.1 rfl)) ?_)))));refine to (scm rfl rfl rfl) (aD ?_);refine tih h (fun c0 h => ?_) (fun c0 h => ?_)
         ·refine aC (tm (.d (.lit I)) (to (sla 3 (aQ g.1) rfl rfl kN) (to (gH (aK rfl) vI rfl rfl (rows := ([g.1]).map aQ) rfl (aY (f := aQ) fun _ => rfl) rfl (by decide)) ?_)));obtain ⟨c1, c2, h⟩ := bns h;refine bO rfl (kS (i := 0) (aK rfl) vI rfl rfl rfl (fun _ => rfl) c2 rfl) ?_;rintro _ ⟨a2, rfl⟩;refine ta (.d (.lit a2)) ?_;refine dA ?_;refine aC (to (sar rfl rfl rfl) (tm (.i (w64 (n + 1))) (aD ?_)));exact ⟨(w64 (n + 1), c1, (bY g.1 (w64 ((aE g.1 0 c) + 1)) c), a2, (mbs g.1 c u o), (mck g.1 c o)), h, aT [0, 1, 2] rfl rfl (aM rfl (aM rfl (aR ⟨rfl, rfl, rfl, rfl, rfl, rfl, rfl, trivial⟩)))⟩
         ·refine cG ?_;refine aC (to (sar rfl rfl rfl) (tm (.i (w64 (n + 1))) (aD ?_)));exact ⟨(w64 (n + 1), q, (bY g.1 (w64 ((aE g.1 0 c) + 1)) c), I, (mbs g.1 c u o), (mck g.1 c o)), h, aT [0, 1, 2] rfl rfl (aM rfl (aM rfl (aR ⟨rfl, rfl, rfl, rfl, rfl, rfl, rfl, trivial⟩)))⟩
    ·refine aC (tfl 3 rfl rfl qR rfl aV (to (sar rfl rfl rfl) (to (sf rfl qR) (to (sst 3 rfl rfl Tryz.sizeOf3 (aQ (aO.mk (w64 (t.free - 1)) t.guarded t.moved t.covered))) (aD (aF (aF (aC (tfl 3 rfl rfl oO rfl aV (to (scm rfl rfl rfl) (tm (.b (decide (t.guarded < 0))) ?_)))))))))));obtain ⟨c3, Q, h⟩ := bns h;refine bG 4 [8, 10, 11, 12, 14, 16, 41, 42, 43, 47] 68 c3 ?_ ?_
     ·refine bch Q (fun N Q => ?_) (fun N Q => ?_)
      ·refine tp N (tp N (tp N (to (spt Z37 N) ?_)));obtain rfl := sIn Q;refine aD (aS rfl ⟨rfl, rfl, rfl, rfl, rfl, rfl, rfl, rfl, rfl, rfl, trivial⟩ rfl)
      ·refine tkl 3 N rfl rfl qR rfl aV (tk N (scm rfl rfl rfl) (to (spf (.b (decide ((w64 (t.free - 1)) < 0))) N) ?_));obtain rfl := sIn Q;refine aD (aS rfl ⟨rfl, rfl, rfl, rfl, rfl, rfl, rfl, rfl, rfl, rfl, trivial⟩ rfl)
     ·refine aD ?_;refine tih h (fun c4 h => ?_) (fun c4 h => ?_)
      ·refine cD ?_;refine .inl ⟨rfl, ?_⟩;refine aC (to (sar rfl rfl rfl) (tm (.i (w64 (n + 1))) (aD ?_)));exact ⟨(w64 (n + 1), q, c, I, u, o), h, aT [0, 1, 2] rfl rfl (aM rfl (aM rfl (aR ⟨rfl, rfl, rfl, rfl, rfl, rfl, rfl, trivial⟩)))⟩
      ·refine bE (aF (aC (tm (.fn 69 [.cp [.pt (bA A)], .cp [.sl 1 (C.map aI)], .cp [.j e]]) (to (sla 3 (aQ (aO.mk (w64 (t.free - 1)) t.guarded t.moved t.covered)) rfl rfl kN) ?_))));obtain ⟨j, c5, h⟩ := bns h;refine to (dM (aK rfl) (.clo _ _ _ _ Tryz.call69 rfl) (aFl rfl) rfl (sQ _ _ _ _ c5)) ?_;refine tm (.tup [.agg (aQ j.1), .b j.2]) (to (sex rfl rfl) (to (sex rfl rfl) (to (sst 3 rfl rfl Tryz.sizeOf110 (aQ j.1)) (ta (.b j.2) (aD (aF (aF (aC (tm (.b j.2) (aD ?_))))))))));refine tih h (fun c6 h => ?_) (fun c6 h => ?_)
       ·refine aF (aC (tm (.i s) (ta (.i s) (aD ?_))));obtain rfl := sIn h;refine bP (bK (bM (l := [4]) ⟨rfl, trivial⟩)) ?_;exact rt
       ·refine bE (aF ?_);refine lS mix 6 [8, 10, 11, 12, 14, 16, 41, 42, 43, 47] (fun F => [(77, .d (.lit (.map (some B)))), (80, .i (w64 ((aE j.1 0 c) + 1))), (82, .i (mX j.1 c u o))]) (fun F => [.arr I 110 4 (q.map aQ), .box O 0 (aQ t), .map B ((mW j.1 0 c).map fun p : aO × Int => ((fun a : aO => Value.agg ((aQ a).map cE).toArray) p.1, (fun v : Int => AV.i v) p.2)) (mbs j.1 c u o) (mck j.1 c o), .box Y 0 (aQ j.1)]) ?_ ?_
        ·refine ⟨0, fun F => [(77, 0, .d (.lit (.map (some B)))), (78, 1, .agg (aQ j.1)), (79, 2, .i (aE j.1 0 c)), (80, 3, .i (w64 ((aE j.1 0 c) + 1))), (81, 4, .tup [.i (aE j.1 0 c), .i (mX j.1 c u o)]), (82, 5, .i (mX j.1 c u o))], fun F => [([], .arr I 110 4 (q.map aQ)), ([], .box O 0 (aQ t)), ([(4, .map B ((mW j.1 0 c).map fun p : aO × Int => ((fun a : aO => Value.agg ((aQ a).map cE).toArray) p.1, (fun v : Int => AV.i v) p.2)) (mbs j.1 c u o) (mck j.1 c o))], .map B (c.map fun p : aO × Int => ((fun a : aO => Value.agg ((aQ a).map cE).toArray) p.1, (fun v : Int => AV.i v) p.2)) u o), ([], .box Y 0 (aQ j.1))], ?_, ?_⟩
         · exact xok [(0, 5), (0, 5), (102, 0), (3, 0), (102, 0), (5, 0)] ⟨fun F S w _ k => xp w (ym k (.d (.lit (.map (some B))))),
      fun F S w _ k => xp w (yla k 3 (aQ j.1) rfl (og k rfl rfl) kN),
      fun F S w _ k => xp w (aHf (av := (fun v : Int => AV.i v)) (l := c) (z := 0) (a := j.1) (m := 2) (aK rfl) wD Tryz.underlying113 Tryz.zeroValue3 (fun _ _ => .d (.lit _ rfl)) (aU k rfl) (og2 rfl) rfl (aU k rfl) (sR (enc := aQ) j.1 rfl)),
      fun F S w _ k => xp w (yar k rfl rfl rfl),
      fun F S hw hi hS => aPy (X := F) (p := 2) hS rfl rfl rfl (hw F) rfl rfl rfl (lR (aFb (av := (fun v : Int => AV.i v)) (l := c) (z := 0) (a := j.1) (m := 2) (aK rfl) wD Tryz.underlying113 Tryz.zeroValue3 (fun _ _ => .d (.lit _ rfl)) (aU hS rfl) (og hS rfl rfl) rfl (aU hS rfl) (sR (enc := aQ) j.1 rfl)) (by rintro _ rfl; exact Ent.refl _)),
      fun F S w _ k => xp w (yex k rfl rfl), trivial⟩
         · exact fun F => bV (aM rfl (aM rfl (aM rfl (aR ⟨rfl, rfl, rfl, rfl, rfl, rfl, rfl, rfl, rfl, rfl, trivial⟩))))
        ·intro F;refine to (zZ (kv := (fun a : aO => Value.agg ((aQ a).map cE).toArray)) (av := (fun v : Int => AV.i v)) (l := c) (z := 0) (v := w64 ((aE j.1 0 c) + 1)) (a := j.1) (m := 2) rfl rfl rfl rfl rfl) ?_;refine aD (aF (aC (tm (.d (.lit (.map (some B)))) (to (sla 3 (aQ j.1) rfl rfl kN) (to (xH (av := (fun v : Int => AV.i v)) (l := (bY j.1 (w64 ((aE j.1 0 c) + 1)) c)) (z := 0) (a := j.1) (m := 2) (aK rfl) wD Tryz.underlying113 Tryz.zeroValue3 (fun _ _ => .d (.lit _ rfl)) rfl rfl rfl rfl (sR (enc := aQ) j.1 rfl)) ?_)))));refine to (scm rfl rfl rfl) (aD ?_);refine tih h (fun c7 h => ?_) (fun c7 h => ?_)
         ·refine aC (tm (.d (.lit I)) (to (sla 3 (aQ j.1) rfl rfl kN) (to (gH (aK rfl) vI rfl rfl (rows := ([j.1]).map aQ) rfl (aY (f := aQ) fun _ => rfl) rfl (by decide)) ?_)));obtain ⟨c8, c9, h⟩ := bns h;refine bO rfl (kS (i := 0) (aK rfl) vI rfl rfl rfl (fun _ => rfl) c9 rfl) ?_;rintro _ ⟨a3, rfl⟩;refine ta (.d (.lit a3)) ?_;refine dA ?_;refine aC (to (sar rfl rfl rfl) (tm (.i (w64 (n + 1))) (aD ?_)));exact ⟨(w64 (n + 1), c8, (bY j.1 (w64 ((aE j.1 0 c) + 1)) c), a3, (mbs j.1 c u o), (mck j.1 c o)), h, aT [0, 1, 2] rfl rfl (aM rfl (aM rfl (aR ⟨rfl, rfl, rfl, rfl, rfl, rfl, rfl, trivial⟩)))⟩
         ·refine cG ?_;refine aC (to (sar rfl rfl rfl) (tm (.i (w64 (n + 1))) (aD ?_)));exact ⟨(w64 (n + 1), q, (bY j.1 (w64 ((aE j.1 0 c) + 1)) c), I, (mbs j.1 c u o), (mck j.1 c o)), h, aT [0, 1, 2] rfl rfl (aM rfl (aM rfl (aR ⟨rfl, rfl, rfl, rfl, rfl, rfl, rfl, trivial⟩)))⟩
   ·refine cD ?_;refine .inl ⟨rfl, ?_⟩;simp only [oY] at h;simp only [oX] at h;refine aC (to (sar rfl rfl rfl) (tm (.i (w64 (K + 1))) (aD ?_)));exact ⟨(w64 (K + 1), q, c, I, u, o), h, aT [0, 2] rfl rfl (aM rfl (aM rfl (aR ⟨rfl, rfl, rfl, rfl, rfl, trivial⟩)))⟩
  ·refine cD ?_;refine .inl ⟨rfl, ?_⟩;simp only [oW] at h;refine aC (tm (.d (.lit W)) (ta (.d (.lit W)) ?_));refine dA ?_;simp only [oV] at h;refine aC (tm (.i s) (to (sar rfl rfl rfl) (ta (.i (w64 (s + 1))) (aD ?_))));exact ⟨(y, w64 (s + 1), L, U, V), h, (aT [1, 0] rfl rfl (le_refl _)).trans ((aBx [.map B (L.map fun p : aO × Int => ((fun a : aO => Value.agg ((aQ a).map cE).toArray) p.1, (fun v : Int => AV.i v) p.2)) U V] [.arr W 110 4 (y.map aQ)] rfl (cQ (k := 93) (v := .d (.sl 4 (y.map aQ))) (.d (bR 0 rfl (aY (f := aQ) fun _ => rfl))) (cQ (k := 12) (v := .d (.sl 4 (y.map aQ))) (.d (bR 0 rfl (aY (f := aQ) fun _ => rfl))) (cQ (k := 9) (v := .d (.sl 4 (y.map aQ))) (.d (bR 0 rfl (aY (f := aQ) fun _ => rfl))) (jR _ _))))).trans (aT [0] rfl rfl (aM rfl (aM rfl (aR ⟨rfl, rfl, trivial⟩)))))⟩
 ·refine cD ?_;refine .inl ⟨rfl, ?_⟩;simp only [tA] at h;refine aF (aC (ta (.i 61) (aD ?_)));obtain rfl := sIn h;refine bP (bK (bM (l := [4]) ⟨rfl, trivial⟩)) ?_;exact rt

theorem aAb (c : aH) (f : Int) {r : Int} (h : iT c f = some r) : Fn Tryz.prog 39 [.cp (bA c), .i f] (.i r) := by
 unfold iT at h;refine oT [.tmp 4] Tryz.func39 Tryz.results39 Tryz.ntmps39 ?_;refine aF (aC (ta (.i 0) (aD (aF (aC (ta (.i 0) (ta (.i 0) (aD (aF (aF (aC (tm (Z1 c) ?_))))))))))));obtain ⟨r1, h2, h⟩ := bns h;refine to (dM (aK rfl) (.func _ _ Tryz.call52) rfl rfl (tB _ h2)) ?_;refine to (sle rfl bS.of) (tm (.i 0) (aD (bQ ?_)));refine cO (S := Int × Int × Int) [0, 1, 14, 15] (fun s3 => [(5, .i s3.1), (6, .i s3.2.1), (16, .i s3.2.2)]) (fun s3 => []) (fun k s3 => eR c f r1 (r1.length : Int) k s3.1 s3.2.1 s3.2.2) (fun _ => rfl) (0, 0, 0) h (aT [] rfl rfl (aM rfl (aM rfl (aM rfl (aR ⟨rfl, rfl, rfl, rfl, trivial⟩))))) ?_;rintro k4 ⟨e, d, y⟩ h;simp only [eR] at h;refine aF (aC (to (scm rfl rfl rfl) (aD (aF ?_))));refine tih h (fun c5 h => ?_) (fun c5 h => ?_)
 ·refine bE (aF (bQ (aF (aC ?_))));obtain ⟨x6, h7, h⟩ := bns h;refine to (six rfl rfl bS.of (cJ aI h7)) (to (slc rfl aV) (ta (.i x6) (aD (aF (aF (aC (tm (.i x6) (tm (.i f) (to (scm rfl rfl rfl) (aD ?_))))))))));refine tih h (fun c8 h => ?_) (fun c8 h => ?_)
  ·refine cD ?_;refine .inr ⟨by decide, ?_⟩;refine .inl ⟨rfl, ?_⟩;simp only [fN] at h;refine aF (aC (ta (.i 61) (aD (aF (aF (aC (tm (.i e) (to (sar rfl rfl rfl) (tm (.i 0) (aD (bQ ?_)))))))))));refine cO (S := Int × Int) [0, 1, 5, 6, 36] (fun s9 => [(9, .i s9.1), (37, .i s9.2)]) (fun s9 => []) (fun k s9 => dE c f e d (w64 (e + 1)) k s9.1 s9.2) (fun _ => rfl) (61, 0) h (aT [] rfl rfl (aM rfl (aM rfl (aR ⟨rfl, rfl, rfl, rfl, rfl, trivial⟩)))) ?_;rintro L ⟨A, o⟩ h;simp only [dE] at h;refine aF (aC (to (scm rfl rfl rfl) (aD (aF ?_))));refine tih h (fun M h => ?_) (fun M h => ?_)
   ·refine bE (aF (bQ (aF (aC (tm (.i o) (ta (.i o) (aD (aF (aC (tm (.i d) (to (sar rfl rfl rfl) (tm (.i 0) (aD ?_)))))))))))));refine aCe ?_;refine cO (S := Int × Int) [0, 1, 5, 6, 10, 36, 37, 41] (fun E => [(9, .i E.1), (42, .i E.2)]) (fun E => []) (fun k E => dP (dE c f e d (w64 (e + 1)) L) c f e d o (w64 (e + 1)) o (w64 (d + 1)) k E.1 E.2) (fun _ => rfl) (A, 0) h (aT [] rfl rfl (aM rfl (aM rfl (aR ⟨rfl, rfl, rfl, rfl, rfl, rfl, rfl, rfl, trivial⟩)))) ?_;rintro a2 ⟨t, g⟩ h;simp only [dP] at h;refine aF (aC (to (scm rfl rfl rfl) (aD (aF ?_))));refine tih h (fun N h => ?_) (fun N h => ?_)
    ·refine bE (aF (bQ (aF (aC (tm (.i g) (ta (.i g) (aD (aF (aC (tm (.i d) (tm (.i g) (to (sar rfl rfl rfl) (tm (Z1 c) ?_)))))))))))));refine to (cK (aK rfl) rfl) ?_;refine to (sfc [.j c.Field.Places, .j c.Field.Wilds, .j c.Field.Guards, .j c.Field.Close, .j c.Field.Freeze] rfl fI) (to (sfc [.j c.Field.Guards] rfl pD) (to (slc rfl aV) (to (aHq (aK rfl) rfl rfl) ?_)));refine ta (.i (min (w64 (d - g)) c.Field.Guards)) (aD (aF (aC (tm (.i e) (tm (.i o) (to (sar rfl rfl rfl) (tm (.i (min (w64 (d - g)) c.Field.Guards)) (to (sar rfl rfl rfl) (tm (Z1 c) ?_)))))))));obtain ⟨O, P, h⟩ := bns h;refine to (scr Tryz.call36 (fZ _ P)) (to (scm rfl rfl rfl) (tm (.b (decide ((w64 ((w64 (e - o)) + (min (w64 (d - g)) c.Field.Guards))) < O))) ?_));obtain ⟨Q, B, h⟩ := bns h;refine bG 18 [0, 1, 5, 6, 9, 10, 11, 36, 37, 41, 42] 80 Q ?_ ?_
     ·refine bch B (fun q B => ?_) (fun q B => ?_)
      ·refine tk q (sm (Z1 c)) (tk q (cK (aK rfl) rfl) ?_);refine tk q (sfc [.mp true (c.players.map fun p : Int × aA => (VI p.1, aB p.2))] rfl dL) (tk q (slc rfl fF) (tk q (sm (.i f)) (tk q (iK (enc := aB) (agg := true) (l := c.players) (z := Z2) (a := f) (aK rfl) gO Tryz.underlying68 Tryz.zeroValue94 (fun _ _ => .agg (iZ rfl)) rfl rfl rfl rfl (cT (kv := VI) f)) ?_)));refine tk q (mO (aK rfl) rfl Tryz.runUnderlying94 rfl eV rfl) ?_;refine tk q (sn rfl) (tk q (sm (.b (!((Z17 f c).guard)))) ?_);obtain ⟨J, H, B⟩ := bns B;refine bG 8 [0, 1, 5, 6, 9, 10, 11, 36, 37, 41, 42, 62, 63, 64, 65, 66, 67, 68, 69, 70, 71] 79 J ?_ ?_
       ·refine bch H (fun u H => ?_) (fun u H => ?_)
        ·refine tp u (tp u (tp u (tp u (tp u (tp u (tp u (tk q (spt Z37 u) ?_)))))));obtain rfl := sIn H;refine aD (aS rfl ⟨rfl, rfl, rfl, rfl, rfl, rfl, rfl, rfl, rfl, rfl, rfl, rfl, rfl, rfl, rfl, rfl, rfl, rfl, rfl, rfl, rfl, trivial⟩ rfl)
        ·refine tk u (sm (.i (min (w64 (d - g)) c.Field.Guards))) (tk u (sm (Z1 c)) (tk u (cK (aK rfl) rfl) ?_));refine tk u (sfc [.j c.Field.Places, .j c.Field.Wilds, .j c.Field.Guards, .j c.Field.Close, .j c.Field.Freeze] rfl fI) (tk u (sfc [.j c.Field.Guards] rfl pD) (tk u (slc rfl aV) (tk u (scm rfl rfl rfl) (tk q (spf (.b (decide ((min (w64 (d - g)) c.Field.Guards) < c.Field.Guards))) u) ?_))));obtain rfl := sIn H;refine aD (aS rfl ⟨rfl, rfl, rfl, rfl, rfl, rfl, rfl, rfl, rfl, rfl, rfl, rfl, rfl, rfl, rfl, rfl, rfl, rfl, rfl, rfl, rfl, trivial⟩ rfl)
       ·refine to (spt (.b J) q) ?_;obtain rfl := sIn B;refine aD (aS rfl ⟨rfl, rfl, rfl, rfl, rfl, rfl, rfl, rfl, rfl, rfl, rfl, trivial⟩ rfl)
      ·refine tp q (tp q (tp q (tp q (tp q (tp q (tp q (tp q (tp q (tq (tq (tq (tq (tq ?_)))))))))))));refine tq (tq (tp q (to (spf Z18 q) ?_)));obtain rfl := sIn B;refine aD (aS rfl ⟨rfl, rfl, rfl, rfl, rfl, rfl, rfl, rfl, rfl, rfl, rfl, trivial⟩ rfl)
     ·refine aD ?_;refine tih h (fun T h => ?_) (fun T h => ?_)
      ·refine aC (tm (.i t) (tm (.i o) (tm (.i g) (to (sar rfl rfl rfl) (to (aHq (aK rfl) rfl rfl) ?_)))));refine ta (.i (min t (w64 (o + g)))) ?_;refine dA ?_;refine aC (to (sar rfl rfl rfl) (tm (.i (w64 (g + 1))) (aD ?_)));exact ⟨(min t (w64 (o + g)), w64 (g + 1)), h, aT [] rfl rfl (aM rfl (aM rfl (aR ⟨rfl, rfl, rfl, rfl, rfl, rfl, rfl, rfl, trivial⟩)))⟩
      ·refine cG ?_;refine aC (to (sar rfl rfl rfl) (tm (.i (w64 (g + 1))) (aD ?_)));exact ⟨(t, w64 (g + 1)), h, aT [] rfl rfl (aM rfl (aM rfl (aR ⟨rfl, rfl, rfl, rfl, rfl, rfl, rfl, rfl, trivial⟩)))⟩
    ·refine cD ?_;refine .inl ⟨rfl, ?_⟩;simp only [mK] at h;simp only [mJ] at h;refine aC (to (sar rfl rfl rfl) (tm (.i (w64 (o + 1))) (aD ?_)));exact ⟨(t, w64 (o + 1)), h, aT [] rfl rfl (aM rfl (aM rfl (aR ⟨rfl, rfl, rfl, rfl, rfl, trivial⟩)))⟩
   ·refine cD ?_;refine .inl ⟨rfl, ?_⟩;simp only [mI] at h;refine aF (aC (tm (.i A) (ta (.i A) (aD ?_))));obtain rfl := sIn h;exact rt
  ·refine bE (aF (aC (tm (Z1 c) (to (cK (aK rfl) rfl) ?_))));refine to (sfc [.mp true (c.players.map fun p : Int × aA => (VI p.1, aB p.2))] rfl dL) (to (slc rfl fF) (tm (.i x6) (to (iK (enc := aB) (agg := true) (l := c.players) (z := Z2) (a := x6) (aK rfl) gO Tryz.underlying68 Tryz.zeroValue94 (fun _ _ => .agg (iZ rfl)) rfl rfl rfl rfl (cT (kv := VI) x6)) ?_)));refine to (mO (aK rfl) rfl Tryz.runUnderlying94 rfl eV rfl) ?_;refine aD ?_;refine tih h (fun U h => ?_) (fun U h => ?_)
   ·refine aC (tm (.i d) (to (sar rfl rfl rfl) (ta (.i (w64 (d + 1))) ?_)));refine dA ?_;refine aC (to (sar rfl rfl rfl) (tm (.i (w64 (y + 1))) (aD ?_)));exact ⟨(e, w64 (d + 1), w64 (y + 1)), h, aT [] rfl rfl (aM rfl (aM rfl (aM rfl (aR ⟨rfl, rfl, rfl, rfl, trivial⟩))))⟩
   ·refine aC (tm (.i e) (to (sar rfl rfl rfl) (ta (.i (w64 (e + 1))) ?_)));refine dA ?_;refine aC (to (sar rfl rfl rfl) (tm (.i (w64 (y + 1))) (aD ?_)));exact ⟨(w64 (e + 1), d, w64 (y + 1)), h, aT [] rfl rfl (aM rfl (aM rfl (aM rfl (aR ⟨rfl, rfl, rfl, rfl, trivial⟩))))⟩
 ·refine cD ?_;refine .inl ⟨rfl, ?_⟩;simp only [fN] at h;refine aF (aC (ta (.i 61) (aD (aF (aF (aC (tm (.i e) (to (sar rfl rfl rfl) (tm (.i 0) (aD (bQ ?_)))))))))));refine cO (S := Int × Int) [0, 1, 5, 6, 36] (fun F => [(9, .i F.1), (37, .i F.2)]) (fun F => []) (fun k F => dE c f e d (w64 (e + 1)) k F.1 F.2) (fun _ => rfl) (61, 0) h (aT [] rfl rfl (aM rfl (aM rfl (aR ⟨rfl, rfl, rfl, rfl, rfl, trivial⟩)))) ?_;rintro V ⟨x, m⟩ h;simp only [dE] at h;refine aF (aC (to (scm rfl rfl rfl) (aD (aF ?_))));refine tih h (fun W h => ?_) (fun W h => ?_)
  ·refine bE (aF (bQ (aF (aC (tm (.i m) (ta (.i m) (aD (aF (aC (tm (.i d) (to (sar rfl rfl rfl) (tm (.i 0) (aD ?_)))))))))))));refine aCe ?_;refine cO (S := Int × Int) [0, 1, 5, 6, 10, 36, 37, 41] (fun G => [(9, .i G.1), (42, .i G.2)]) (fun G => []) (fun k G => dP (dE c f e d (w64 (e + 1)) V) c f e d m (w64 (e + 1)) m (w64 (d + 1)) k G.1 G.2) (fun _ => rfl) (x, 0) h (aT [] rfl rfl (aM rfl (aM rfl (aR ⟨rfl, rfl, rfl, rfl, rfl, rfl, rfl, rfl, trivial⟩)))) ?_;rintro a3 ⟨v, j⟩ h;simp only [dP] at h;refine aF (aC (to (scm rfl rfl rfl) (aD (aF ?_))));refine tih h (fun X h => ?_) (fun X h => ?_)
   ·refine bE (aF (bQ (aF (aC (tm (.i j) (ta (.i j) (aD (aF (aC (tm (.i d) (tm (.i j) (to (sar rfl rfl rfl) (tm (Z1 c) ?_)))))))))))));refine to (cK (aK rfl) rfl) ?_;refine to (sfc [.j c.Field.Places, .j c.Field.Wilds, .j c.Field.Guards, .j c.Field.Close, .j c.Field.Freeze] rfl fI) (to (sfc [.j c.Field.Guards] rfl pD) (to (slc rfl aV) (to (aHq (aK rfl) rfl rfl) ?_)));refine ta (.i (min (w64 (d - j)) c.Field.Guards)) (aD (aF (aC (tm (.i e) (tm (.i m) (to (sar rfl rfl rfl) (tm (.i (min (w64 (d - j)) c.Field.Guards)) (to (sar rfl rfl rfl) (tm (Z1 c) ?_)))))))));obtain ⟨Y, Z, h⟩ := bns h;refine to (scr Tryz.call36 (fZ _ Z)) (to (scm rfl rfl rfl) (tm (.b (decide ((w64 ((w64 (e - m)) + (min (w64 (d - j)) c.Field.Guards))) < Y))) ?_));obtain ⟨a0, C, h⟩ := bns h;refine bG 18 [0, 1, 5, 6, 9, 10, 11, 36, 37, 41, 42] 80 a0 ?_ ?_
    ·refine bch C (fun s C => ?_) (fun s C => ?_)
     ·refine tk s (sm (Z1 c)) (tk s (cK (aK rfl) rfl) ?_);refine tk s (sfc [.mp true (c.players.map fun p : Int × aA => (VI p.1, aB p.2))] rfl dL) (tk s (slc rfl fF) (tk s (sm (.i f)) (tk s (iK (enc := aB) (agg := true) (l := c.players) (z := Z2) (a := f) (aK rfl) gO Tryz.underlying68 Tryz.zeroValue94 (fun _ _ => .agg (iZ rfl)) rfl rfl rfl rfl (cT (kv := VI) f)) ?_)));refine tk s (mO (aK rfl) rfl Tryz.runUnderlying94 rfl eV rfl) ?_;refine tk s (sn rfl) (tk s (sm (.b (!((Z17 f c).guard)))) ?_);obtain ⟨K, I, C⟩ := bns C;refine bG 8 [0, 1, 5, 6, 9, 10, 11, 36, 37, 41, 42, 62, 63, 64, 65, 66, 67, 68, 69, 70, 71] 79 K ?_ ?_
      ·refine bch I (fun w I => ?_) (fun w I => ?_)
       ·refine tp w (tp w (tp w (tp w (tp w (tp w (tp w (tk s (spt Z37 w) ?_)))))));obtain rfl := sIn I;refine aD (aS rfl ⟨rfl, rfl, rfl, rfl, rfl, rfl, rfl, rfl, rfl, rfl, rfl, rfl, rfl, rfl, rfl, rfl, rfl, rfl, rfl, rfl, rfl, trivial⟩ rfl)
       ·refine tk w (sm (.i (min (w64 (d - j)) c.Field.Guards))) (tk w (sm (Z1 c)) (tk w (cK (aK rfl) rfl) ?_));refine tk w (sfc [.j c.Field.Places, .j c.Field.Wilds, .j c.Field.Guards, .j c.Field.Close, .j c.Field.Freeze] rfl fI) (tk w (sfc [.j c.Field.Guards] rfl pD) (tk w (slc rfl aV) (tk w (scm rfl rfl rfl) (tk s (spf (.b (decide ((min (w64 (d - j)) c.Field.Guards) < c.Field.Guards))) w) ?_))));obtain rfl := sIn I;refine aD (aS rfl ⟨rfl, rfl, rfl, rfl, rfl, rfl, rfl, rfl, rfl, rfl, rfl, rfl, rfl, rfl, rfl, rfl, rfl, rfl, rfl, rfl, rfl, trivial⟩ rfl)
      ·refine to (spt (.b K) s) ?_;obtain rfl := sIn C;refine aD (aS rfl ⟨rfl, rfl, rfl, rfl, rfl, rfl, rfl, rfl, rfl, rfl, rfl, trivial⟩ rfl)
     ·refine tp s (tp s (tp s (tp s (tp s (tp s (tp s (tp s (tp s (tq (tq (tq (tq (tq ?_)))))))))))));refine tq (tq (tp s (to (spf Z18 s) ?_)));obtain rfl := sIn C;refine aD (aS rfl ⟨rfl, rfl, rfl, rfl, rfl, rfl, rfl, rfl, rfl, rfl, rfl, trivial⟩ rfl)
    ·refine aD ?_;refine tih h (fun a1 h => ?_) (fun a1 h => ?_)
     ·refine aC (tm (.i v) (tm (.i m) (tm (.i j) (to (sar rfl rfl rfl) (to (aHq (aK rfl) rfl rfl) ?_)))));refine ta (.i (min v (w64 (m + j)))) ?_;refine dA ?_;refine aC (to (sar rfl rfl rfl) (tm (.i (w64 (j + 1))) (aD ?_)));exact ⟨(min v (w64 (m + j)), w64 (j + 1)), h, aT [] rfl rfl (aM rfl (aM rfl (aR ⟨rfl, rfl, rfl, rfl, rfl, rfl, rfl, rfl, trivial⟩)))⟩
     ·refine cG ?_;refine aC (to (sar rfl rfl rfl) (tm (.i (w64 (j + 1))) (aD ?_)));exact ⟨(v, w64 (j + 1)), h, aT [] rfl rfl (aM rfl (aM rfl (aR ⟨rfl, rfl, rfl, rfl, rfl, rfl, rfl, rfl, trivial⟩)))⟩
   ·refine cD ?_;refine .inl ⟨rfl, ?_⟩;simp only [mK] at h;simp only [mJ] at h;refine aC (to (sar rfl rfl rfl) (tm (.i (w64 (m + 1))) (aD ?_)));exact ⟨(v, w64 (m + 1)), h, aT [] rfl rfl (aM rfl (aM rfl (aR ⟨rfl, rfl, rfl, rfl, rfl, trivial⟩)))⟩
  ·refine cD ?_;refine .inl ⟨rfl, ?_⟩;simp only [mI] at h;refine aF (aC (tm (.i x) (ta (.i x) (aD ?_))));obtain rfl := sIn h;exact rt

theorem pL (j : aP) (c : List aG) (f : Int) (a : Int) {r : Int × Int} (h : dD j c f a = some r) : Fn Tryz.prog 18 [.agg (aX j), .d (Z12 c), .i f, .i a] (.tup [.i r.1, .i r.2]) := by
 unfold dD at h;refine oT [.tmp 8, .tmp 9] Tryz.func18 Tryz.results18 Tryz.ntmps18 ?_;refine aF (aC ?_);refine bO rfl (jM (v := .agg (aX j)) (aK rfl) rfl rfl rfl) ?_;rintro _ ⟨b1, rfl⟩;refine ta (.i 0) (ta (.i 0) (aD (aF (aC (to (sla 0 (aX j) rfl rfl jU) (tm (Z35 c) (tm (.i f) (tm (.i a) ?_))))))));obtain ⟨r2, h3, h⟩ := bns h;refine to (dM (aK rfl) (.func _ _ Tryz.call33) rfl rfl (wN _ _ _ _ h3)) ?_;refine tm (.tup [lV bA r2.1, .i r2.2]) (to (sex rfl rfl) (to (sex rfl rfl) (ta (lV bA r2.1) (ta (.i r2.2) (aD (aF (aF (aC (tm (.i r2.2) (to (scm rfl rfl rfl) (aD ?_)))))))))));refine tih h (fun c4 h => ?_) (fun c4 h => ?_)
 ·refine aF (aC (tm (.i r2.2) (ta (.i 0) (ta (.i r2.2) (aD ?_)))));obtain rfl := sIn h;refine bP (bK (bM (l := [8, 9]) ⟨rfl, rfl, trivial⟩)) ?_;exact cU ⟨rfl, _, .two _ _, rfl, rfl⟩
 ·refine bE (aF (aC (tm (lV bA r2.1) (tm (.i a) ?_))));obtain ⟨x5, h6, h⟩ := bns h;refine dF (wB (enc := bA) (k := 27) rfl h6) ?_;obtain ⟨r7, h8, h⟩ := bns h;refine to (scr Tryz.call37 (vC _ _ h8)) (tm (.tup [.i r7.1, .i r7.2]) (to (sex rfl rfl) (to (sex rfl rfl) (ta (.i r7.1) (ta (.i r7.2) (aD (aF (aC (ta (.i 61) (aD (aF (bQ (aF ?_)))))))))))));refine aC (tm (.i r7.1) (to (scm rfl rfl rfl) (ta (.b (decide (r7.1 = 1))) (aD ?_))));refine tih h (fun c9 h => ?_) (fun c9 h => ?_)
  ·refine aC (ta (.i 0) ?_);refine dA ?_;refine aF (aF (aC (tm (.i 0) (to (scm rfl rfl rfl) (aD ?_)))));refine tih h (fun q h => ?_) (fun q h => ?_)
   ·refine aF (aC (ta (.i 0) (ta (.i 3) (aD ?_))));obtain rfl := sIn h;refine bP (bK (bM (l := [8, 9]) ⟨rfl, rfl, trivial⟩)) ?_;exact cU ⟨rfl, _, .two _ _, rfl, rfl⟩
   ·refine bE (aF (aC (tm (.i 0) (ta (.i 0) (ta (.i 0) (aD ?_))))));obtain rfl := sIn h;refine bP (bK (bM (l := [8, 9]) ⟨rfl, rfl, trivial⟩)) ?_;exact cU ⟨rfl, _, .two _ _, rfl, rfl⟩
  ·refine aF (aC (tm (.i r7.1) (to (scm rfl rfl rfl) (tm (.b (decide (r7.1 = 3))) ?_))));obtain ⟨o, g, h⟩ := bns h;refine bG 5 [3, 10, 12, 14] 43 o ?_ ?_
   ·refine bch g (fun e g => ?_) (fun e g => ?_)
    ·refine tk e (sm (lV bA r2.1)) ?_;obtain ⟨p, s, g⟩ := bns g;refine tk e (aKx (enc := bA) (aK rfl) rfl s) ?_;refine tk e (sfc [.k p.frozen] rfl sL) (tk e (slc rfl eV) (to (spt (.b p.frozen) e) ?_));obtain rfl := sIn g;refine aD (aS rfl ⟨rfl, rfl, rfl, rfl, trivial⟩ rfl)
    ·refine tp e (tp e (tp e (tp e (to (spf Z18 e) ?_))));obtain rfl := sIn g;refine aD (aS rfl ⟨rfl, rfl, rfl, rfl, trivial⟩ rfl)
   ·refine ta (.b o) (aD ?_);refine tih h (fun t h => ?_) (fun t h => ?_)
    ·refine aC (tm (lV bA r2.1) (tm (.i a) ?_));obtain ⟨E, u, h⟩ := bns h;refine dF (wB (enc := bA) (k := 44) rfl u) ?_;obtain ⟨m, w, h⟩ := bns h;refine to (scr Tryz.call38 (aAc _ _ w)) (ta (.i m) ?_);refine dA ?_;refine aF (aF (aC (tm (.i m) (to (scm rfl rfl rfl) (aD ?_)))));refine tih h (fun x h => ?_) (fun x h => ?_)
     ·refine aF (aC (ta (.i 0) (ta (.i 3) (aD ?_))));obtain rfl := sIn h;refine bP (bK (bM (l := [8, 9]) ⟨rfl, rfl, trivial⟩)) ?_;exact cU ⟨rfl, _, .two _ _, rfl, rfl⟩
     ·refine bE (aF (aC (tm (.i m) (ta (.i m) (ta (.i 0) (aD ?_))))));obtain rfl := sIn h;refine bP (bK (bM (l := [8, 9]) ⟨rfl, rfl, trivial⟩)) ?_;exact cU ⟨rfl, _, .two _ _, rfl, rfl⟩
    ·refine aF (aC (tm (.i r7.1) (to (scm rfl rfl rfl) (ta (.b (decide (r7.1 = 3))) (aD ?_)))));refine tih h (fun y h => ?_) (fun y h => ?_)
     ·refine aC (tm (lV bA r2.1) (tm (.i a) ?_));obtain ⟨F, z, h⟩ := bns h;refine dF (wB (enc := bA) (k := 50) rfl z) ?_;obtain ⟨n, A, h⟩ := bns h;refine to (scr Tryz.call39 (aAb _ _ A)) (ta (.i n) ?_);refine dA ?_;refine aF (aF (aC (tm (.i n) (to (scm rfl rfl rfl) (aD ?_)))));refine tih h (fun B h => ?_) (fun B h => ?_)
      ·refine aF (aC (ta (.i 0) (ta (.i 3) (aD ?_))));obtain rfl := sIn h;refine bP (bK (bM (l := [8, 9]) ⟨rfl, rfl, trivial⟩)) ?_;exact cU ⟨rfl, _, .two _ _, rfl, rfl⟩
      ·refine bE (aF (aC (tm (.i n) (ta (.i n) (ta (.i 0) (aD ?_))))));obtain rfl := sIn h;refine bP (bK (bM (l := [8, 9]) ⟨rfl, rfl, trivial⟩)) ?_;exact cU ⟨rfl, _, .two _ _, rfl, rfl⟩
     ·refine cG ?_;refine aF (aF (aC (tm (.i 61) (to (scm rfl rfl rfl) (aD ?_)))));refine tih h (fun C h => ?_) (fun C h => ?_)
      ·refine aF (aC (ta (.i 0) (ta (.i 3) (aD ?_))));obtain rfl := sIn h;refine bP (bK (bM (l := [8, 9]) ⟨rfl, rfl, trivial⟩)) ?_;exact cU ⟨rfl, _, .two _ _, rfl, rfl⟩
      ·refine bE (aF (aC (tm (.i 61) (ta (.i 61) (ta (.i 0) (aD ?_))))));obtain rfl := sIn h;refine bP (bK (bM (l := [8, 9]) ⟨rfl, rfl, trivial⟩)) ?_;exact cU ⟨rfl, _, .two _ _, rfl, rfl⟩

theorem aCk (x : List Int) {r : List Int} {x_v : Value} {e : TypeId} (h : slices_Sort_int x = some r) : dI Tryz.prog 48 [.d (.lit x_v)] [.arr x_v e 1 (x.map aI)] (fun r' o' => r' = .tup [] ∧ o' = [.arr x_v e 1 (r.map aI)]) := by
 unfold slices_Sort_int at h;split at h
 ·cases h;exact aNg (fun blk off cap zs w => Tryz.slices_Sort_int blk off cap zs w) (fun q cap w => Tryz.slices_Sort_int_none q cap w) (by assumption)
 ·cases h

theorem zS (o : List Int) {r : (List Int)} {e : Value} (h : lQ o = some r) : dI Tryz.prog 49 [.d (.lit e)] [.arr e 3 1 (o.map aI)] (fun r' o' => ∃ w0 : Value, r' = .d (.lit w0) ∧ o' = [.arr w0 3 1 (r.map aI)]) := by
 unfold lQ at h;refine iM Tryz.func49 rfl (rs := [.tmp 2]) Tryz.results49 Tryz.ntmps49 (Nat.le_of_ble_eq_true rfl) ?_;refine aF (aC (to (gY 3 1 (.inl rfl) (aK rfl)) ?_));refine aD (aF (aF (aC (tm (Z51 e) (to (iP (m := 0) (aK rfl) rfl rfl bS.of) ?_)))));refine to (scm rfl rfl rfl) (aD ?_);refine tih h (fun c2 h => ?_) (fun c2 h => ?_)
 ·refine aF (aC (tm (Z51 e) (ta (Z51 e) (aD ?_))));obtain rfl := sIn h;exact cU ⟨rfl, _, [.arr e 3 1 (o.map aI)], Z22, _, .one (.tmp 2 (v := .d (.lit e)) rfl), .refl _, .same _, e, rfl, rfl⟩
 ·refine bE (aF (aF (aC (ta (.i 1) (aD (bQ ?_))))));refine cO (S := Int × Z56 × Value) [] (fun s3 => [(0, .d (.lit s3.2.2)), (3, .i s3.1)]) (fun s3 => [.arr s3.2.2 3 1 (s3.2.1.map aI)]) (fun k s3 => dU k s3.1 s3.2.1) (fun _ => rfl) (1, o, e) h (aT [0] rfl rfl (aM rfl (aM rfl (aR trivial)))) ?_;rintro k5 ⟨a, n, w4⟩ h;simp only [dU] at h;refine aF (aF (aC (tm (.i a) (tm (.d (.lit w4)) (to (iP (m := 0) (aK rfl) rfl rfl bS.of) ?_)))));refine to (scm rfl rfl rfl) (aD ?_);refine tih h (fun c6 h => ?_) (fun c6 h => ?_)
  ·refine bE (aF (bQ (aF ?_)));obtain ⟨x7, h8, h⟩ := bns h;obtain ⟨x9, p, h⟩ := bns h;refine cB mix 9 [0, 3] [(19, .i x7), (24, .i x9)] ?_ ?_
   ·refine ⟨[(16, 0, .d (.lit w4)), (17, 1, .i a), (18, 2, .ep w4 1 a.toNat 0), (19, 3, .i x7), (20, 4, .d (.lit w4)), (21, 5, .i a), (22, 6, .i (w64 (a - 1))), (23, 7, .ep w4 1 (w64 (a - 1)).toNat 0), (24, 8, .i x9)], ?_, ?_⟩
    · exact dk [0, 0, 102, 3, 0, 0, 6, 507, 8] ⟨go (zm (.d (.lit w4))),
      go (zm (.i a)),
      go (zia 0 rfl rfl rfl bS.of (cJ aI h8)),
      go fun S hS => oQ (aK rfl) (aU hS rfl) (m := 0) rfl (qZ aI h8) rfl aV,
      go (zm (.d (.lit w4))),
      go (zm (.i a)),
      go (zar rfl rfl rfl),
      go (zia 0 rfl rfl rfl bS.of (cJ aI p)),
      go fun S hS => oQ (aK rfl) (aU hS rfl) (m := 0) rfl (qZ aI p) rfl aV, trivial⟩
    · exact bV (aM rfl (aM rfl (aR ⟨rfl, rfl, trivial⟩)))
   ·refine to (scm rfl rfl rfl) (aD ?_);refine tih h (fun A h => ?_) (fun A h => ?_)
    ·refine aF (aC (tm (.d (.lit w4)) (tm (.i a) ?_)));obtain ⟨I, B, h⟩ := bns h;refine to (rB (m := 0) (aK rfl) rfl rfl rfl bS.of B) ?_;refine ta (.d (.lit (iQ w4 a.toNat 1))) (aD (aF (aF (aC (ta (.i 1) (aD (bQ ?_)))))));refine cO (S := Int × Int × Z56) [] (fun j => [(0, .d (.lit w4)), (3, .i j.1), (4, .d (.lit (iQ w4 a.toNat 1))), (5, .i j.2.1)]) (fun j => [.arr w4 3 1 (j.2.2.map aI)]) (fun k j => fD (dU k5) a k j.1 j.2.1 j.2.2) (fun _ => rfl) (a, 1, n) h (aT [0] rfl rfl (aM rfl (aM rfl (aM rfl (aM rfl (aR trivial)))))) ?_;rintro J ⟨c, b, g⟩ h;simp only [fD] at h;refine aF (aF (aC (tm (.i b) (tm (.d (.lit (iQ w4 a.toNat 1))) (to (aEz (m := 0) (aK rfl) rfl rfl bS.of) ?_)))));refine to (scm rfl rfl rfl) (aD ?_);refine tih h (fun C h => ?_) (fun C h => ?_)
     ·refine bE (aF (bQ (aF ?_)));obtain ⟨s, t, h⟩ := bns h;obtain ⟨u, w, h⟩ := bns h;refine cB mix 9 [0, 3, 4, 5] [(38, .i s), (43, .i u)] ?_ ?_
      ·refine ⟨[(35, 0, .d (.lit (iQ w4 a.toNat 1))), (36, 1, .i b), (37, 2, .ep w4 1 (a.toNat + b.toNat) 0), (38, 3, .i s), (39, 4, .d (.lit (iQ w4 a.toNat 1))), (40, 5, .i b), (41, 6, .i (w64 (b - 1))), (42, 7, .ep w4 1 (a.toNat + (w64 (b - 1)).toNat) 0), (43, 8, .i u)], ?_, ?_⟩
       · exact dk [0, 0, 102, 3, 0, 0, 6, 507, 8] ⟨go (zm (.d (.lit (iQ w4 a.toNat 1)))),
      go (zm (.i b)),
      go fun S hS => pS (m := 0) (aK rfl) (aU hS rfl) rfl (aU hS rfl) bS.of (oM (f := aI) t),
      go fun S hS => oQ (aK rfl) (aU hS rfl) (m := 0) rfl (wG aI t) rfl aV,
      go (zm (.d (.lit (iQ w4 a.toNat 1)))),
      go (zm (.i b)),
      go (zar rfl rfl rfl),
      go fun S hS => pS (m := 0) (aK rfl) (aU hS rfl) rfl (aU hS rfl) bS.of (oM (f := aI) w),
      go fun S hS => oQ (aK rfl) (aU hS rfl) (m := 0) rfl (wG aI w) rfl aV, trivial⟩
       · exact bV (aM rfl (aM rfl (aR ⟨rfl, rfl, rfl, rfl, trivial⟩)))
      ·refine to (scm rfl rfl rfl) (aD ?_);refine tih h (fun E h => ?_) (fun E h => ?_)
       ·refine aF (aC (tm (.d (.lit w4)) (tm (.i c) (tm (.d (.lit (iQ w4 a.toNat 1))) (tm (.i b) ?_)))));obtain ⟨x, y, h⟩ := bns h;refine to (pS (m := 0) (aK rfl) rfl rfl rfl bS.of (oM (f := aI) y)) ?_;refine to (oQ (aK rfl) rfl (m := 0) rfl (wG aI y) rfl aV) ?_;obtain ⟨K, z, h⟩ := bns h;refine to (mP (m := 0) (aK rfl) rfl rfl rfl bS.of (cJ aI z)) ?_;refine to (zR (l := 0) rfl rfl (qZ aI z) rfl rfl rfl Tryz.sizeOf3 rfl (aK rfl) (Nat.le_of_ble_eq_true rfl) (rows' := ((g.set c.toNat x)).map aI) (aGa _ _ _ _ rfl)) ?_;refine aD (aC (tm (.i c) (to (sar rfl rfl rfl) (ta (.i (w64 (c + 1))) ?_))));refine dA ?_;refine aC (tm (.i b) (to (sar rfl rfl rfl) (ta (.i (w64 (b + 1))) (aD ?_))));exact ⟨(w64 (c + 1), w64 (b + 1), (g.set c.toNat x)), h, aT [0] rfl rfl (aM rfl (aM rfl (aM rfl (aM rfl (aR trivial)))))⟩
       ·refine cG ?_;refine aC (tm (.i b) (to (sar rfl rfl rfl) (ta (.i (w64 (b + 1))) (aD ?_))));exact ⟨(c, w64 (b + 1), g), h, aT [0] rfl rfl (aM rfl (aM rfl (aM rfl (aM rfl (aR trivial)))))⟩
     ·refine cD ?_;refine .inl ⟨rfl, ?_⟩;simp only [oL] at h;refine aF (aC (tm (.d (.lit w4)) (tm (.i c) ?_)));obtain ⟨L, F, h⟩ := bns h;refine to (rB (m := 0) (aK rfl) rfl rfl rfl bS.of F) ?_;obtain ⟨M, G, h⟩ := bns h;refine to (aDo (f := aI) (m := 0) bS rfl rfl G (by decide)) ?_;refine aD (aF (aC (tm (.d (.lit w4)) (tm (.i c) ?_))));obtain ⟨N, H, h⟩ := bns h;refine to (rA (m := 0) (q := c.toNat) (v := w4) (aK rfl) rfl rfl rfl rfl (aAg H) bS.of) ?_;refine ta (.d (.lit (fB w4 c.toNat))) (aD ?_);obtain rfl := sIn h;exact cU ⟨rfl, _, [.arr (fB w4 c.toNat) 3 1 ((g.take c.toNat).map aI)], [], _, .one (.tmp 2 (v := .d (.lit (fB w4 c.toNat))) rfl), .refl _, .same _, (fB w4 c.toNat), rfl, rfl⟩
    ·refine cG ?_;simp only [oK] at h;refine aC (tm (.i a) (to (sar rfl rfl rfl) (ta (.i (w64 (a + 1))) (aD ?_))));exact ⟨(w64 (a + 1), n, w4), h, aT [0] rfl rfl (aM rfl (aM rfl (aR trivial)))⟩
  ·refine cD ?_;refine .inl ⟨rfl, ?_⟩;simp only [oJ] at h;refine aF (aC (tm (.d (.lit w4)) (ta (.d (.lit w4)) (aD ?_))));obtain rfl := sIn h;exact cU ⟨rfl, _, [.arr w4 3 1 (n.map aI)], [], _, .one (.tmp 2 (v := .d (.lit w4)) rfl), .refl _, .same _, w4, rfl, rfl⟩

theorem aIm (e : aP) (a : List aG) (c : Int) {r : Int × Int} (h : rK e a c = some r) : Fn Tryz.prog 26 [.agg (aX e), .d (Z12 a), .i c] (.tup [.i r.1, .i r.2]) := by
 unfold rK at h;refine oT [.tmp 6, .tmp 7] Tryz.func26 Tryz.results26 Tryz.ntmps26 ?_;refine aF (aC ?_);refine bO rfl (jM (v := .agg (aX e)) (aK rfl) rfl rfl rfl) ?_;rintro _ ⟨b1, rfl⟩;refine ta (.i 0) (ta (.i 0) (aD (aF (aF (aC (to (sla 0 (aX e) rfl rfl jU) (tm (Z35 a) (tm (.i c) ?_))))))));obtain ⟨r2, h3, h⟩ := bns h;refine to (dM (aK rfl) (.func _ _ Tryz.call33) rfl rfl (wN _ _ _ _ h3)) ?_;refine tm (.tup [lV bA r2.1, .i r2.2]) (to (sex rfl rfl) (to (sex rfl rfl) (ta (lV bA r2.1) (ta (.i r2.2) (aD (aF (aC (tm (.i r2.2) (to (scm rfl rfl rfl) (aD ?_))))))))));refine tih h (fun c4 h => ?_) (fun c4 h => ?_)
 ·refine aF (aC (tm (.i r2.2) (ta (.i 0) (ta (.i r2.2) (aD ?_)))));obtain rfl := sIn h;refine bP (bK (bM (l := [6, 7]) ⟨rfl, rfl, trivial⟩)) ?_;exact cU ⟨rfl, _, .two _ _, rfl, rfl⟩
 ·refine bE (aF (aC (to (gY 3 1 (.inl rfl) (aK rfl)) ?_)));refine aD (aF (aF (aC (tm (Z35 a) (to (sle rfl dG.of) (tm (.i 0) (aD (bQ ?_))))))));refine cO (S := Int × Z56 × Value) [1, 2, 3, 27, 28] (fun s6 => [(10, .d (.lit s6.2.2)), (29, .i s6.1)]) (fun s6 => [.box b1 0 (aX e), .arr s6.2.2 3 1 (s6.2.1.map aI)]) (fun k s6 => lY a c a (a.length : Int) e k s6.1 s6.2.1) (fun _ => rfl) (0, ([] : List Int), (.slice none 0 0)) h (aT [0, 1] rfl rfl (aM rfl (aM rfl (aR ⟨rfl, rfl, rfl, rfl, rfl, trivial⟩)))) ?_;rintro k8 ⟨p, g, w7⟩ h;simp only [lY] at h;refine aF (aC (to (scm rfl rfl rfl) (aD (aF ?_))));refine tih h (fun c9 h => ?_) (fun c9 h => ?_)
  ·refine bE (aF (bQ (aF (aC ?_))));obtain ⟨u, A, h⟩ := bns h;refine to (six rfl rfl dG.of (cJ aJ A)) (to (aKe (aJ u) rfl jJ) ?_);refine bO rfl (fC (zs := [.j 0, .j 0, .j 0, .j 0, .j 0]) (aK rfl) Tryz.zeroValue32 rfl rfl) ?_;rintro _ ⟨N, rfl⟩;refine to (sst 2 rfl rfl Tryz.sizeOf32 (aJ u)) (aD (aC (tm (.d (.lit w7)) (tfl 2 rfl rfl eU rfl aV (to (gH (aK rfl) bS rfl rfl (rows := ([u.Hour]).map aI) rfl (aY (f := aI) fun _ => rfl) rfl (by decide)) ?_)))));obtain ⟨B, C, h⟩ := bns h;refine bO rfl (kS (i := 1) (aK rfl) bS rfl rfl rfl (fun _ => rfl) C rfl) ?_;rintro _ ⟨x, rfl⟩;refine ta (.d (.lit x)) ?_;refine dA ?_;refine aC (to (sar rfl rfl rfl) (tm (.i (w64 (p + 1))) (aD ?_)));exact ⟨(w64 (p + 1), B, x), h, aT [0, 1] rfl rfl (aM rfl (aM rfl (aR ⟨rfl, rfl, rfl, rfl, rfl, trivial⟩)))⟩
  ·refine cD ?_;refine .inl ⟨rfl, ?_⟩;simp only [sC] at h;refine aF (aC (tm (.d (.lit w7)) ?_));obtain ⟨y, E, h⟩ := bns h;refine dF (aT [1, 0] rfl rfl (le_refl _)) ?_;refine bO rfl (iO (passed := [.arr w7 3 1 (g.map aI)]) (aK rfl) rfl (.func _ _ Tryz.call48) rfl rfl (aCk g E)) ?_;rintro _ ⟨_, _, ⟨rfl, rfl⟩, rfl⟩;refine aD (aF (aF (aC (tm (.d (.lit w7)) ?_))));obtain ⟨w, F, h⟩ := bns h;refine bO rfl (iO (passed := [.arr w7 3 1 (y.map aI)]) (aK rfl) rfl (.func _ _ Tryz.call49) rfl rfl (zS y F)) ?_;rintro _ ⟨_, _, ⟨G, rfl, rfl⟩, rfl⟩;refine to (iP (m := 0) (aK rfl) rfl rfl bS.of) ?_;refine tm (.i 0) (aD (bQ ?_));refine cO (S := Int) [1, 2, 3, 42, 43] (fun s => [(44, .i s)]) (fun s => [.box b1 0 (aX e), .arr G 3 1 (w.map aI)]) (fun k s => lZ a c (w.length : Int) e w k s) (fun _ => rfl) (0) h (aT [1, 0] rfl rfl (aM rfl (aR ⟨rfl, rfl, rfl, rfl, rfl, trivial⟩))) ?_;rintro O n h;simp only [lZ] at h;refine aF (aC (to (scm rfl rfl rfl) (aD (aF ?_))));refine tih h (fun H h => ?_) (fun H h => ?_)
   ·refine bE (aF (bQ (aF (aC ?_))));obtain ⟨t, z, h⟩ := bns h;refine to (mP (m := 1) (aK rfl) rfl rfl rfl bS.of (cJ aI z)) ?_;refine to (oQ (aK rfl) rfl (m := 1) rfl (qZ aI z) rfl aV) ?_;refine ta (.i t) (aD (aF (aC (to (sla 0 (aX e) rfl rfl jU) (tm (Z35 a) (tm (.i t) ?_))))));obtain ⟨P, I, h⟩ := bns h;refine to (dM (aK rfl) (.func _ _ Tryz.call50) rfl rfl (zW _ _ _ I)) ?_;refine tm (.i c) ?_;obtain ⟨Q, J, h⟩ := bns h;refine dF (wB (enc := bA) (k := 52) rfl J) ?_;obtain ⟨j, K, h⟩ := bns h;refine to (scr Tryz.call37 (vC _ _ K)) (tm (.tup [.i j.1, .i j.2]) (to (sex rfl rfl) (to (sex rfl rfl) (ta (.i j.1) (ta (.i j.2) (aD (aF (aC (tm (.i j.1) (to (scm rfl rfl rfl) (tm (.b (decide (j.1 = 1))) ?_)))))))))));obtain ⟨L, q, h⟩ := bns h;refine bG 3 [1, 2, 3, 14, 42, 43, 44] 62 L ?_ ?_
    ·refine bch q (fun o q => ?_) (fun o q => ?_)
     ·refine tp o (tp o (to (spt Z37 o) ?_));obtain rfl := sIn q;refine aD (aS rfl ⟨rfl, rfl, rfl, rfl, rfl, rfl, rfl, trivial⟩ rfl)
     ·refine tk o (sm (.i j.1)) (tk o (scm rfl rfl rfl) (to (spf (.b (decide (j.1 = 2))) o) ?_));obtain rfl := sIn q;refine aD (aS rfl ⟨rfl, rfl, rfl, rfl, rfl, rfl, rfl, trivial⟩ rfl)
    ·refine aD ?_;refine tih h (fun M h => ?_) (fun M h => ?_)
     ·refine aF (aC (tm (.i t) (ta (.i t) (ta (.i 0) (aD ?_)))));obtain rfl := sIn h;refine bP (bK (bM (l := [6, 7]) ⟨rfl, rfl, trivial⟩)) ?_;exact cU ⟨rfl, _, .two _ _, rfl, rfl⟩
     ·refine cG ?_;refine aC (to (sar rfl rfl rfl) (tm (.i (w64 (n + 1))) (aD ?_)));exact ⟨(w64 (n + 1)), h, aT [0, 1] rfl rfl (aM rfl (aR ⟨rfl, rfl, rfl, rfl, rfl, trivial⟩))⟩
   ·refine cD ?_;refine .inl ⟨rfl, ?_⟩;simp only [vN] at h;refine aF (aC (ta (.i 0) (ta (.i 3) (aD ?_))));obtain rfl := sIn h;refine bP (bK (bM (l := [6, 7]) ⟨rfl, rfl, trivial⟩)) ?_;exact cU ⟨rfl, _, .two _ _, rfl, rfl⟩

theorem oF (c : List Int) (e : List Int) {r : Bool} (h : kW c e = some r) : Fn Tryz.prog 32 [.d (Z26 c), .d (Z26 e)] (.b r) := by
 unfold kW at h;refine oT [.tmp 4] Tryz.func32 Tryz.results32 Tryz.ntmps32 ?_;refine aF (aC (ta Z18 (aD (aF (aF (aC (tm (Z58 c) (to (sle rfl bS.of) (tm (Z58 e) (to (sle rfl bS.of) (to (scm rfl rfl rfl) (aD ?_))))))))))));refine tih h (fun c1 h => ?_) (fun c1 h => ?_)
 ·refine aF (aC (ta Z18 (aD ?_)));obtain rfl := sIn h;exact rt
 ·refine bE (aF (aF (aC (ta (.i 0) (aD (bQ ?_))))));refine cO (S := Int) [0, 1] (fun s2 => [(5, .i s2)]) (fun s2 => []) (fun k s2 => lJ c e k s2) (fun _ => rfl) (0) h (aT [] rfl rfl (aM rfl (aR ⟨rfl, rfl, trivial⟩))) ?_;rintro k3 a h;simp only [lJ] at h;refine aF (aF (aC (tm (.i a) (tm (Z58 c) (to (sle rfl bS.of) (to (scm rfl rfl rfl) (aD ?_)))))));refine tih h (fun c4 h => ?_) (fun c4 h => ?_)
  ·refine bE (aF (bQ (aF ?_)));obtain ⟨x5, h6, h⟩ := bns h;obtain ⟨x7, h8, h⟩ := bns h;refine cB mix 8 [0, 1, 5] [(20, .i x5), (24, .i x7)] ?_ ?_
   ·refine ⟨[(17, 0, .d (Z26 c)), (18, 1, .i a), (19, 2, .cp [.j x5]), (20, 3, .i x5), (21, 4, .d (Z26 e)), (22, 5, .i a), (23, 6, .cp [.j x7]), (24, 7, .i x7)], ?_, ?_⟩
    · exact dk [0, 0, 102, 3, 0, 0, 506, 7] ⟨go (zm (Z58 c)),
      go (zm (.i a)),
      go (zix rfl rfl bS.of (cJ aI h6)),
      go (zlc rfl aV),
      go (zm (Z58 e)),
      go (zm (.i a)),
      go (zix rfl rfl bS.of (cJ aI h8)),
      go (zlc rfl aV), trivial⟩
    · exact bV (aM rfl (aM rfl (aR ⟨rfl, rfl, rfl, trivial⟩)))
   ·refine to (scm rfl rfl rfl) (aD ?_);refine tih h (fun c9 h => ?_) (fun c9 h => ?_)
    ·refine aF (aC (ta Z18 (aD ?_)));obtain rfl := sIn h;exact rt
    ·refine cG ?_;refine aC (tm (.i a) (to (sar rfl rfl rfl) (ta (.i (w64 (a + 1))) (aD ?_))));exact ⟨(w64 (a + 1)), h, aT [] rfl rfl (aM rfl (aR ⟨rfl, rfl, trivial⟩))⟩
  ·refine cD ?_;refine .inl ⟨rfl, ?_⟩;simp only [rT] at h;refine aF (aC (ta Z37 (aD ?_)));obtain rfl := sIn h;exact rt

theorem lM {r : Bool} (h : jS = some r) : Fn Tryz.prog 13 [] (.b r) := by
 unfold jS at h;refine oT [.tmp 0] Tryz.func13 Tryz.results13 Tryz.ntmps13 ?_;refine aF (aC (ta Z18 (aD (aF (aC ?_)))));obtain ⟨r1, h2, h⟩ := bns h;refine to (dM (aK rfl) (.func _ _ Tryz.call31) rfl rfl (yV h2)) ?_;refine tm (.tup [.agg (aX r1.1), .d (.sl 5 (r1.2.map aJ))]) (to (sex rfl rfl) (to (sex rfl rfl) ?_));refine bO rfl (fC (zs := [.j 0, .j 0, .j 0, .j 0, .j 0]) (aK rfl) Tryz.zeroValue23 rfl rfl) ?_;rintro _ ⟨b3, rfl⟩;refine to (sst 0 rfl rfl Tryz.sizeOf23 (aX r1.1)) (ta (.d (.sl 5 (r1.2.map aJ))) (aD (aF (aC (to (sla 0 (aX r1.1) rfl rfl jU) (tm (.d (.sl 5 (r1.2.map aJ))) ?_))))));obtain ⟨r4, h5, h⟩ := bns h;refine to (dM (aK rfl) (.func _ _ Tryz.call14) rfl rfl (aAn _ _ _ h5)) ?_;refine tm (.tup [.agg (gB r4.1), .i r4.2]) (to (sex rfl rfl) (to (sex rfl rfl) ?_));refine bO rfl (fC (zs := Z14) (aK rfl) Tryz.zeroValue34 rfl rfl) ?_;rintro _ ⟨b6, rfl⟩;refine to (sst 1 rfl rfl Tryz.sizeOf34 (gB r4.1)) (ta (.i r4.2) (aD (aF (aC (to (sla 0 (aX r1.1) rfl rfl jU) (tm (.d (.sl 5 (r1.2.map aJ))) ?_))))));obtain ⟨r7, h8, h⟩ := bns h;refine to (scr Tryz.call18 (pL _ _ _ _ h8)) (tm (.tup [.i r7.1, .i r7.2]) (to (sex rfl rfl) (to (sex rfl rfl) (ta (.i r7.1) (ta (.i r7.2) (aD (aF (aC (to (sla 0 (aX r1.1) rfl rfl jU) (tm (.d (.sl 5 (r1.2.map aJ))) ?_))))))))));obtain ⟨r9, C, h⟩ := bns h;refine to (scr Tryz.call26 (aIm _ _ _ C)) (tm (.tup [.i r9.1, .i r9.2]) (to (sex rfl rfl) (to (sex rfl rfl) (ta (.i r9.1) (ta (.i r9.2) (aD (aF (aC (tm (.i r4.2) (to (scm rfl rfl rfl) (tm (.b (decide (r4.2 = 0))) ?_)))))))))));obtain ⟨v, q, h⟩ := bns h;refine bG 3 [3, 5, 7, 8] 36 v ?_ ?_
 ·refine bch q (fun g q => ?_) (fun g q => ?_)
  ·refine tk g (sm (.i r7.2)) (tk g (scm rfl rfl rfl) (to (spt (.b (decide (r7.2 = 0))) g) ?_));obtain rfl := sIn q;refine aD (aS rfl ⟨rfl, rfl, rfl, rfl, trivial⟩ rfl)
  ·refine tp g (tp g (to (spf Z18 g) ?_));obtain rfl := sIn q;refine aD (aS rfl ⟨rfl, rfl, rfl, rfl, trivial⟩ rfl)
 ·refine tm (.b v) ?_;obtain ⟨w, s, h⟩ := bns h;refine bG 3 [3, 5, 7] 40 w ?_ ?_
  ·refine bch s (fun j s => ?_) (fun j s => ?_)
   ·refine tk j (sm (.i r9.2)) (tk j (scm rfl rfl rfl) (to (spt (.b (decide (r9.2 = 0))) j) ?_));obtain rfl := sIn s;refine aD (aS rfl ⟨rfl, rfl, rfl, trivial⟩ rfl)
   ·refine tp j (tp j (to (spf Z18 j) ?_));obtain rfl := sIn s;refine aD (aS rfl ⟨rfl, rfl, rfl, trivial⟩ rfl)
  ·refine tm (.b w) ?_;obtain ⟨x, t, h⟩ := bns h;refine bG 3 [3, 7] 44 x ?_ ?_
   ·refine bch t (fun k t => ?_) (fun k t => ?_)
    ·refine tk k (sm (.i r7.1)) (tk k (scm rfl rfl rfl) (to (spt (.b (decide (r7.1 = 2))) k) ?_));obtain rfl := sIn t;refine aD (aS rfl ⟨rfl, rfl, trivial⟩ rfl)
    ·refine tp k (tp k (to (spf Z18 k) ?_));obtain rfl := sIn t;refine aD (aS rfl ⟨rfl, rfl, trivial⟩ rfl)
   ·refine tm (.b x) ?_;obtain ⟨y, u, h⟩ := bns h;refine bG 3 [3] 48 y ?_ ?_
    ·refine bch u (fun m u => ?_) (fun m u => ?_)
     ·refine tk m (sm (.i r9.1)) (tk m (scm rfl rfl rfl) (to (spt (.b (decide (r9.1 = 15))) m) ?_));obtain rfl := sIn u;refine aD (aS rfl ⟨rfl, trivial⟩ rfl)
     ·refine tp m (tp m (to (spf Z18 m) ?_));obtain rfl := sIn u;refine aD (aS rfl ⟨rfl, trivial⟩ rfl)
    ·refine tm (.b y) ?_;obtain ⟨z, n, h⟩ := bns h;refine bG 5 [3] 54 z ?_ ?_
     ·refine bch n (fun a n => ?_) (fun a n => ?_)
      ·refine tkl 1 a rfl rfl nY rfl cX (tk a (gH (aK rfl) bS rfl rfl (rows := ([9, 8, 5]).map aI) rfl (aY (f := aI) fun _ => rfl) rfl (by decide)) ?_);obtain ⟨E, F, n⟩ := bns n;refine tk a (scr Tryz.call32 (oF _ _ F)) (to (spt (.b E) a) ?_);obtain rfl := sIn n;refine aD (aS rfl ⟨rfl, trivial⟩ rfl)
      ·refine tp a (tp a (tp a (tp a (to (spf Z18 a) ?_))));obtain rfl := sIn n;refine aD (aS rfl ⟨rfl, trivial⟩ rfl)
     ·refine tm (.b z) ?_;obtain ⟨A, o, h⟩ := bns h;refine bG 5 [3] 60 A ?_ ?_
      ·refine bch o (fun c o => ?_) (fun c o => ?_)
       ·refine tkl 1 c rfl rfl aQk rfl cX (tk c (gH (aK rfl) bS rfl rfl (rows := ([7]).map aI) rfl (aY (f := aI) fun _ => rfl) rfl (by decide)) ?_);obtain ⟨G, H, o⟩ := bns o;refine tk c (scr Tryz.call32 (oF _ _ H)) (to (spt (.b G) c) ?_);obtain rfl := sIn o;refine aD (aS rfl ⟨rfl, trivial⟩ rfl)
       ·refine tp c (tp c (tp c (tp c (to (spf Z18 c) ?_))));obtain rfl := sIn o;refine aD (aS rfl ⟨rfl, trivial⟩ rfl)
      ·refine tm (.b A) ?_;obtain ⟨B, p, h⟩ := bns h;refine bG 5 [] 66 B ?_ ?_
       ·refine bch p (fun e p => ?_) (fun e p => ?_)
        ·refine tkl 1 e rfl rfl aQl rfl cX (tk e (gH (aK rfl) bS rfl rfl (rows := ([6, 4]).map aI) rfl (aY (f := aI) fun _ => rfl) rfl (by decide)) ?_);obtain ⟨I, J, p⟩ := bns p;refine tk e (scr Tryz.call32 (oF _ _ J)) (to (spt (.b I) e) ?_);obtain rfl := sIn p;refine aD (aS rfl trivial rfl)
        ·refine tp e (tp e (tp e (tp e (to (spf Z18 e) ?_))));obtain rfl := sIn p;refine aD (aS rfl trivial rfl)
       ·refine ta (.b B) (aD ?_);obtain rfl := sIn h;refine bP (bK (bM (l := [0]) ⟨rfl, trivial⟩)) ?_;exact rt

theorem aDc (c : List Int) (e : Int) {r : Bool} (h : oE c e = some r) : Fn Tryz.prog 17 [.d (Z26 c), .i e] (.b r) := by
 unfold oE at h;refine oT [.tmp 4] Tryz.func17 Tryz.results17 Tryz.ntmps17 ?_;refine aF (aC (ta Z18 (aD (aF (aF (aC (ta (.i 0) (aD (bQ ?_)))))))));refine cO (S := Int) [0, 1] (fun s1 => [(5, .i s1)]) (fun s1 => []) (fun k s1 => iS c e k s1) (fun _ => rfl) (0) h (aT [] rfl rfl (aM rfl (aR ⟨rfl, rfl, trivial⟩))) ?_;rintro k2 a h;simp only [iS] at h;refine aF (aF (aC (tm (.i a) (tm (Z58 c) (to (sle rfl bS.of) (to (scm rfl rfl rfl) (aD ?_)))))));refine tih h (fun c3 h => ?_) (fun c3 h => ?_)
 ·refine bE (aF (bQ (aF (aC (tm (Z58 c) (tm (.i a) ?_))))));obtain ⟨x4, h5, h⟩ := bns h;refine to (six rfl rfl bS.of (cJ aI h5)) (to (slc rfl aV) (tm (.i e) (to (scm rfl rfl rfl) (aD ?_))));refine tih h (fun c6 h => ?_) (fun c6 h => ?_)
  ·refine aF (aC (ta Z37 (aD ?_)));obtain rfl := sIn h;exact rt
  ·refine cG ?_;refine aC (tm (.i a) (to (sar rfl rfl rfl) (ta (.i (w64 (a + 1))) (aD ?_))));exact ⟨(w64 (a + 1)), h, aT [] rfl rfl (aM rfl (aR ⟨rfl, rfl, trivial⟩))⟩
 ·refine cD ?_;refine .inl ⟨rfl, ?_⟩;simp only [rN] at h;refine aF (aC (ta Z18 (aD ?_)));obtain rfl := sIn h;exact rt

theorem rO (g : List aG) (b : Int) (a : Int) {r : (List aG)} (h : iX g b a = some r) : Fn Tryz.prog 19 [.d (Z12 g), .i b, .i a] (.d (.sl 5 (r.map aJ))) := by
 unfold iX at h;refine oT [.tmp 6] Tryz.func19 Tryz.results19 Tryz.ntmps19 ?_;refine aF (aC (to (aHr 5 (aK rfl)) ?_));refine aD (aF (aC (ta (.i 0) (aD (aF (aF (aC (ta (.i 0) (aD (bQ ?_))))))))));refine cO (S := Int × Int) [0, 1, 2] (fun s1 => [(7, .i s1.1), (8, .i s1.2)]) (fun s1 => []) (fun k s1 => iG g b a k s1.1 s1.2) (fun _ => rfl) (0, 0) h (aT [] rfl rfl (aM rfl (aM rfl (aR ⟨rfl, rfl, rfl, trivial⟩)))) ?_;rintro k2 ⟨c, e⟩ h;simp only [iG] at h;refine aF (aF (aC (tm (.i e) (tm (Z35 g) (to (sle rfl dG.of) (to (scm rfl rfl rfl) (aD ?_)))))));refine tih h (fun c3 h => ?_) (fun c3 h => ?_)
 ·refine bE (aF (bQ (aC (tm (.i c) (tm (Z35 g) (tm (.i e) ?_))))));obtain ⟨x4, h5, h⟩ := bns h;refine to (six rfl rfl dG.of (cJ aJ h5)) (to (sfc [.j x4.Id] rfl iI) (to (slc rfl aV) (to (sar rfl rfl rfl) (to (aNb (aK rfl) rfl rfl) ?_))));refine ta (.i (max c (w64 (x4.Id + 1)))) ?_;refine dA ?_;refine aC (tm (.i e) (to (sar rfl rfl rfl) (ta (.i (w64 (e + 1))) (aD ?_))));exact ⟨(max c (w64 (x4.Id + 1)), w64 (e + 1)), h, aT [] rfl rfl (aM rfl (aM rfl (aR ⟨rfl, rfl, rfl, trivial⟩)))⟩
 ·refine cD ?_;refine .inl ⟨rfl, ?_⟩;simp only [qP] at h;refine aF (aC ?_);refine bO rfl (aPi (aK rfl) dG rfl rfl (rows := (([] : List aG)).map aJ) rfl (aY (f := aJ) fun _ => rfl) rfl (by decide)) ?_;rintro _ ⟨v6, rfl⟩;refine tm (Z35 g) ?_;obtain ⟨x7, h8, h⟩ := bns h;refine bO rfl (kS (i := 0) (aK rfl) dG rfl rfl rfl (fun _ => rfl) h8 rfl) ?_;rintro _ ⟨v9, rfl⟩;refine tm (.i c) (tm (.i b) (tm (.i a) (to (uN (aK rfl) aPq (zs := [.j 0, .j 0, .j 0, .j 0, .j 0]) rfl rfl rfl rfl (es := [.j c, .j b, .j 4, .j a, .j 0]) rfl) ?_)));refine to (gH (aK rfl) dG rfl rfl (rows := ([(aG.mk c b 4 a 0)]).map aJ) rfl (aY (f := aJ) fun _ => rfl) rfl (by decide)) ?_;obtain ⟨j, l, h⟩ := bns h;refine bO rfl (kS (i := 0) (aK rfl) dG rfl rfl rfl (fun _ => rfl) l rfl) ?_;rintro _ ⟨m, rfl⟩;refine dF (aBx [] [.arr m 32 5 (j.map aJ)] rfl (aUb (v' := .d (.sl 5 (j.map aJ))) (.d (aSu (aY (f := aJ) fun _ => rfl))) (jR _ _))) ?_;refine ta (.d (.sl 5 (j.map aJ))) (aD ?_);obtain rfl := sIn h;exact rt

theorem xZ (t : aP) (x : List aG) (e : dJ) {r : Bool} (h : mH t x e = some r) : Fn Tryz.prog 6 [.agg (aX t), .d (Z12 x), .agg (iF e)] (.b r) := by
 unfold mH at h;refine oT [.tmp 6] Tryz.func6 Tryz.results6 Tryz.ntmps6 ?_;refine aF (aC ?_);refine bO rfl (jM (v := .agg (aX t)) (aK rfl) rfl rfl rfl) ?_;rintro _ ⟨b1, rfl⟩;refine bO rfl (jM (v := .agg (iF e)) (aK rfl) rfl rfl rfl) ?_;rintro _ ⟨b2, rfl⟩;refine ta Z18 (aD (aF (aF (aC (to (sla 0 (aX t) rfl rfl jU) (tm (Z35 x) ?_))))));obtain ⟨r3, h4, h⟩ := bns h;refine to (scr Tryz.call11 (aAk _ _ h4)) (to (sn rfl) (tm (.b (!r3)) ?_));obtain ⟨b5, h6, h⟩ := bns h;refine bG 5 [1, 3, 5] 27 b5 ?_ ?_
 ·refine bch h6 (fun y h6 => ?_) (fun y h6 => ?_)
  ·refine tp y (tp y (tp y (tp y (to (spt Z37 y) ?_))));obtain rfl := sIn h6;refine aD (aS rfl ⟨rfl, rfl, rfl, trivial⟩ rfl)
  ·refine tkl 1 y rfl rfl nZ rfl aV ?_;obtain ⟨e3, e4, h6⟩ := bns h6;refine tk y (scr Tryz.call12 (aAa _ e4)) (tk y (sn rfl) (to (spf (.b (!e3)) y) ?_));obtain rfl := sIn h6;refine aD (aS rfl ⟨rfl, rfl, rfl, trivial⟩ rfl)
 ·refine tm (.b b5) ?_;obtain ⟨b7, h8, h⟩ := bns h;refine bG 4 [1, 3, 5] 32 b7 ?_ ?_
  ·refine bch h8 (fun C h8 => ?_) (fun C h8 => ?_)
   ·refine tp C (tp C (tp C (to (spt Z37 C) ?_)));obtain rfl := sIn h8;refine aD (aS rfl ⟨rfl, rfl, rfl, trivial⟩ rfl)
   ·refine tk C (sm (Z35 x)) (tk C (sle rfl dG.of) (tk C (scm rfl rfl rfl) (to (spf (.b (decide (12 < (x.length : Int)))) C) ?_)));obtain rfl := sIn h8;refine aD (aS rfl ⟨rfl, rfl, rfl, trivial⟩ rfl)
  ·refine tm (.b b7) ?_;obtain ⟨b9, a7, h⟩ := bns h;refine bG 5 [1, 3, 5] 38 b9 ?_ ?_
   ·refine bch a7 (fun z a7 => ?_) (fun z a7 => ?_)
    ·refine tp z (tp z (tp z (tp z (to (spt Z37 z) ?_))));obtain rfl := sIn a7;refine aD (aS rfl ⟨rfl, rfl, rfl, trivial⟩ rfl)
    ·refine tkl 1 z rfl rfl tY rfl cX (tk z (sle rfl bS.of) (tk z (scm rfl rfl rfl) (to (spf (.b (decide (6 < (e.Places.length : Int)))) z) ?_)));obtain rfl := sIn a7;refine aD (aS rfl ⟨rfl, rfl, rfl, trivial⟩ rfl)
   ·refine tm (.b b9) ?_;obtain ⟨d4, a8, h⟩ := bns h;refine bG 4 [1, 3, 5] 43 d4 ?_ ?_
    ·refine bch a8 (fun F a8 => ?_) (fun F a8 => ?_)
     ·refine tp F (tp F (tp F (to (spt Z37 F) ?_)));obtain rfl := sIn a8;refine aD (aS rfl ⟨rfl, rfl, rfl, trivial⟩ rfl)
     ·refine tkl 1 F rfl rfl sK rfl aV (tk F (scm rfl rfl rfl) (to (spf (.b (decide (e.Player < 0))) F) ?_));obtain rfl := sIn a8;refine aD (aS rfl ⟨rfl, rfl, rfl, trivial⟩ rfl)
    ·refine tm (.b d4) ?_;obtain ⟨f4, a9, h⟩ := bns h;refine bG 4 [1, 3, 5] 48 f4 ?_ ?_
     ·refine bch a9 (fun G a9 => ?_) (fun G a9 => ?_)
      ·refine tp G (tp G (tp G (to (spt Z37 G) ?_)));obtain rfl := sIn a9;refine aD (aS rfl ⟨rfl, rfl, rfl, trivial⟩ rfl)
      ·refine tkl 1 G rfl rfl sK rfl aV (tk G (scm rfl rfl rfl) (to (spf (.b (decide (999 < e.Player))) G) ?_));obtain rfl := sIn a9;refine aD (aS rfl ⟨rfl, rfl, rfl, trivial⟩ rfl)
     ·refine aD ?_;refine tih h (fun f5 h => ?_) (fun f5 h => ?_)
      ·refine aF (aC ?_);obtain ⟨f6, f7, h⟩ := bns h;refine to (scr Tryz.call13 (lM f7)) (ta (.b f6) (aD ?_));obtain rfl := sIn h;refine bP (bK (bM (l := [6]) ⟨rfl, trivial⟩)) ?_;exact rt
      ·refine bE (aF (aF (aC (ta (.i 0) (aD (bQ ?_))))));refine cO (S := Int) [1, 3, 5] (fun c6 => [(7, .i c6)]) (fun c6 => [.box b1 0 (aX t), .box b2 0 (iF e)]) (fun k c6 => fH x t e k c6) (fun _ => rfl) (0) h (aT [0, 1] rfl rfl (aM rfl (aR ⟨rfl, rfl, rfl, trivial⟩))) ?_;rintro j8 o h;simp only [fH] at h;refine aF (aF (aC (tm (.i o) (tm (Z35 x) (to (sle rfl dG.of) (to (scm rfl rfl rfl) (aD ?_)))))));refine tih h (fun f8 h => ?_) (fun f8 h => ?_)
       ·refine bE (aF (bQ (aF ?_)));obtain ⟨n, d5, h⟩ := bns h;obtain ⟨f9, V, h⟩ := bns h;refine cB mix 16 [1, 3, 5, 7] [(71, .b f9)] ?_ ?_
        ·refine bch V (fun q V => ?_) (fun q V => ?_)
         ·obtain rfl := sIn V;refine ⟨[(56, 0, .d (Z12 x)), (57, 1, .i o), (58, 2, .cp [.j n.Id, .j n.Hour, .j n.Kind, .j n.Player, .j n.Rank]), (59, 3, .cp [.j n.Id]), (60, 4, .i n.Id), (61, 5, .b (decide (900 < n.Id))), (62, 6, .b (decide (900 < n.Id))), (63, 7, .tup []), (64, 8, .tup []), (65, 9, .tup []), (66, 10, .tup []), (67, 11, .tup []), (68, 12, .tup []), (69, 13, .tup []), (70, 14, .tup []), (71, 15, .b true)], ?_, ?_⟩
          · exact dk [0, 0, 102, 3, 4, 5, 6, 7, 7, 70809, 710, 711, 7, 713, 71214, 715] ⟨go (zm (Z35 x)),
      go (zm (.i o)),
      go (zix rfl rfl dG.of (cJ aJ d5)),
      go (zfc [.j n.Id] rfl iI),
      go (zlc rfl aV),
      go (zcm rfl rfl rfl),
      go (zm (.b (decide (900 < n.Id)))),
      gp q,
      gp q,
      gp q,
      gp q,
      gp q,
      gp q,
      gp q,
      gp q,
      go (zpt Z37 q), trivial⟩
          · exact bV (aM rfl (aR ⟨rfl, rfl, rfl, rfl, trivial⟩))
         ·obtain ⟨H, g0, V⟩ := bns V;obtain rfl := sIn V;refine ⟨[(56, 0, .d (Z12 x)), (57, 1, .i o), (58, 2, .cp [.j n.Id, .j n.Hour, .j n.Kind, .j n.Player, .j n.Rank]), (59, 3, .cp [.j n.Id]), (60, 4, .i n.Id), (61, 5, .b (decide (900 < n.Id))), (62, 6, .b (decide (900 < n.Id))), (63, 7, .d (Z12 x)), (64, 8, .i o), (65, 9, .cp [.j H.Id, .j H.Hour, .j H.Kind, .j H.Player, .j H.Rank]), (66, 10, .cp [.j H.Hour]), (67, 11, .i H.Hour), (68, 12, .bp b2 0 0), (69, 13, .i e.Hour), (70, 14, .b (decide (e.Hour < H.Hour))), (71, 15, .b (decide (e.Hour < H.Hour)))], ?_, ?_⟩
          · exact dk [0, 0, 102, 3, 4, 5, 6, 7, 7, 70809, 710, 711, 7, 713, 71214, 715] ⟨go (zm (Z35 x)),
      go (zm (.i o)),
      go (zix rfl rfl dG.of (cJ aJ d5)),
      go (zfc [.j n.Id] rfl iI),
      go (zlc rfl aV),
      go (zcm rfl rfl rfl),
      go (zm (.b (decide (900 < n.Id)))),
      gt q (zm (Z35 x)),
      gt q (zm (.i o)),
      gt q (zix rfl rfl dG.of (cJ aJ g0)),
      gt q (zfc [.j H.Hour] rfl eU),
      gt q (zlc rfl aV),
      gt q (zf rfl nZ),
      gt q (zl 1 rfl rfl rfl aV),
      gt q (zcm rfl rfl rfl),
      go (zpf (.b (decide (e.Hour < H.Hour))) q), trivial⟩
          · exact bV (aM rfl (aR ⟨rfl, rfl, rfl, rfl, trivial⟩))
        ·refine aD ?_;refine tih h (fun g1 h => ?_) (fun g1 h => ?_)
         ·refine aF (aC ?_);obtain ⟨g2, g3, h⟩ := bns h;refine to (scr Tryz.call13 (lM g3)) (ta (.b g2) (aD ?_));obtain rfl := sIn h;refine bP (bK (bM (l := [6]) ⟨rfl, trivial⟩)) ?_;exact rt
         ·refine cG ?_;refine aC (tm (.i o) (to (sar rfl rfl rfl) (ta (.i (w64 (o + 1))) (aD ?_))));exact ⟨(w64 (o + 1)), h, aT [0, 1] rfl rfl (aM rfl (aR ⟨rfl, rfl, rfl, trivial⟩))⟩
       ·refine cD ?_;refine .inl ⟨rfl, ?_⟩;simp only [nH] at h;refine aF (aC (to (aRi (aK rfl) dG rfl rfl (rows := (([] : List aG)).map aJ) rfl (aY (f := aJ) fun _ => rfl) rfl (by decide)) ?_));refine tm (Z35 x) ?_;obtain ⟨c8, g4, h⟩ := bns h;refine to (mF (.d (.weak _ _)) (aPe (nn := true) (f := aJ) (xs := ([] : List aG)) (ys := x) (aK rfl) dG rfl rfl (fun _ => rfl) g4 rfl)) ?_;refine ta (.d (.sl 5 (c8.map aJ))) (aD (aF (aC (to (sla 0 (aX t) rfl rfl jU) (tm (.d (.sl 5 (c8.map aJ))) (tfl 1 rfl rfl nZ rfl aV (tfl 1 rfl rfl sK rfl aV ?_)))))));obtain ⟨a2, g5, h⟩ := bns h;refine to (scr Tryz.call18 (pL _ _ _ _ g5)) (tm (.tup [.i a2.1, .i a2.2]) (to (sex rfl rfl) (to (sex rfl rfl) (ta (.i a2.1) (ta (.i a2.2) (aD (aF (aF (aC (ta (.i 0) (aD (bQ ?_))))))))))));refine cO (S := (List aG) × Int × Int × Int) [3, 5] (fun L => [(8, .d (.sl 5 (L.1.map aJ))), (9, .i L.2.1), (10, .i L.2.2.1), (11, .i L.2.2.2)]) (fun L => [.box b1 0 (aX t), .box b2 0 (iF e)]) (fun k L => cF t e k L.1 L.2.1 L.2.2.1 L.2.2.2) (fun _ => rfl) (c8, a2.1, a2.2, 0) h (aT [0, 1] rfl rfl (aM rfl (aM rfl (aM rfl (aM rfl (aR ⟨rfl, rfl, trivial⟩)))))) ?_;rintro g6 ⟨c, g, j, a⟩ h;simp only [cF] at h;refine aF (aF (aC (tm (.i a) (tfl 1 rfl rfl tY rfl cX (to (sle rfl bS.of) (to (scm rfl rfl rfl) (aD ?_)))))));refine tih h (fun g7 h => ?_) (fun g7 h => ?_)
        ·refine bE (aF (bQ (aF (aC (to (sla 0 (aX t) rfl rfl jU) (tm (.d (.sl 5 (c.map aJ))) (tfl 1 rfl rfl nZ rfl aV ?_)))))));obtain ⟨s, g8, h⟩ := bns h;refine to (dM (aK rfl) (.func _ _ Tryz.call14) rfl rfl (aAn _ _ _ g8)) ?_;refine tm (.tup [.agg (gB s.1), .i s.2]) (to (sex rfl rfl) (to (sex rfl rfl) ?_));refine bO rfl (fC (zs := Z14) (aK rfl) Tryz.zeroValue34 rfl rfl) ?_;rintro _ ⟨a3, rfl⟩;refine to (sst 2 rfl rfl Tryz.sizeOf34 (gB s.1)) (ta (.i s.2) (aD (aF (aF (aC (tm (.i s.2) (to (scm rfl rfl rfl) (tm (.b (!decide (s.2 = 0))) ?_))))))));obtain ⟨d6, W, h⟩ := bns h;refine bG 7 [3, 5, 8, 9, 10, 11, 12] 110 d6 ?_ ?_
         ·refine bch W (fun u W => ?_) (fun u W => ?_)
          ·refine tp u (tp u (tp u (tq (tq (tp u (to (spt Z37 u) ?_))))));obtain rfl := sIn W;refine aD (aS rfl ⟨rfl, rfl, rfl, rfl, rfl, rfl, rfl, trivial⟩ rfl)
          ·refine tk u (sm (.i j)) (tk u (scm rfl rfl rfl) (tk u (sm (.b (!decide (j = 0)))) ?_));obtain ⟨c9, X, W⟩ := bns W;refine bG 3 [3, 5, 8, 9, 10, 11, 12, 103, 104, 105, 106] 109 c9 ?_ ?_
           ·refine bch X (fun N X => ?_) (fun N X => ?_)
            ·refine tk N (sm (.i j)) (tk N (scm rfl rfl rfl) (tk u (spt (.b (!decide (j = 3))) N) ?_));obtain rfl := sIn X;refine aD (aS rfl ⟨rfl, rfl, rfl, rfl, rfl, rfl, rfl, rfl, rfl, rfl, rfl, trivial⟩ rfl)
            ·refine tp N (tp N (tk u (spf Z18 N) ?_));obtain rfl := sIn X;refine aD (aS rfl ⟨rfl, rfl, rfl, rfl, rfl, rfl, rfl, rfl, rfl, rfl, rfl, trivial⟩ rfl)
           ·refine to (spf (.b c9) u) ?_;obtain rfl := sIn W;refine aD (aS rfl ⟨rfl, rfl, rfl, rfl, rfl, rfl, rfl, trivial⟩ rfl)
         ·refine tm (.b d6) ?_;obtain ⟨g9, Y, h⟩ := bns h;refine bG 13 [3, 5, 8, 9, 10, 11, 12] 124 g9 ?_ ?_
          ·refine bch Y (fun w Y => ?_) (fun w Y => ?_)
           ·refine tp w (tp w (tp w (tq (tq (tq (tq (tq (tq (tq (tq (tp w (to (spt Z37 w) ?_))))))))))));obtain rfl := sIn Y;refine aD (aS rfl ⟨rfl, rfl, rfl, rfl, rfl, rfl, rfl, trivial⟩ rfl)
           ·refine tk w (sm (.i j)) (tk w (scm rfl rfl rfl) (tk w (sm (.b (decide (j = 0)))) ?_));obtain ⟨d0, O, Y⟩ := bns Y;refine bG 9 [3, 5, 8, 9, 10, 11, 12, 111, 112, 113, 114] 123 d0 ?_ ?_
            ·refine bch O (fun m O => ?_) (fun m O => ?_)
             ·refine tk m (sm (.i g)) (tk m (scm rfl rfl rfl) (tkl 2 m rfl rfl nY rfl cX (tkl 1 m rfl rfl sK rfl aV ?_)));obtain ⟨e5, e6, O⟩ := bns O;refine tk m (scr Tryz.call17 (aDc _ _ e6)) (tk m (aVg (aK rfl) rfl rfl Tryz.underlying4) ?_);refine tk w (spt (.b (!decide ((decide (g = 0)) = e5))) m) ?_;obtain rfl := sIn O;refine aD (aS rfl ⟨rfl, rfl, rfl, rfl, rfl, rfl, rfl, rfl, rfl, rfl, rfl, trivial⟩ rfl)
             ·refine tp m (tp m (tp m (tp m (tp m (tp m (tp m (tp m (tk w (spf Z18 m) ?_))))))));obtain rfl := sIn O;refine aD (aS rfl ⟨rfl, rfl, rfl, rfl, rfl, rfl, rfl, rfl, rfl, rfl, rfl, trivial⟩ rfl)
            ·refine to (spf (.b d0) w) ?_;obtain rfl := sIn Y;refine aD (aS rfl ⟨rfl, rfl, rfl, rfl, rfl, rfl, rfl, trivial⟩ rfl)
          ·refine aD ?_;refine tih h (fun h0 h => ?_) (fun h0 h => ?_)
           ·refine aF (aC (ta Z18 (aD ?_)));obtain rfl := sIn h;refine bP (bK (bM (l := [6]) ⟨rfl, trivial⟩)) ?_;exact rt
           ·refine bE (aF (aF (aC (tm (.i j) (to (scm rfl rfl rfl) (tm (.b (decide (j = 0))) ?_))))));obtain ⟨h1, b0, h⟩ := bns h;refine bG 3 [3, 5, 8, 9, 10, 11, 12] 130 h1 ?_ ?_
            ·refine bch b0 (fun P b0 => ?_) (fun P b0 => ?_)
             ·refine tk P (sm (.i g)) (tk P (scm rfl rfl rfl) (to (spt (.b (decide (0 < g))) P) ?_));obtain rfl := sIn b0;refine aD (aS rfl ⟨rfl, rfl, rfl, rfl, rfl, rfl, rfl, trivial⟩ rfl)
             ·refine tp P (tp P (to (spf Z18 P) ?_));obtain rfl := sIn b0;refine aD (aS rfl ⟨rfl, rfl, rfl, rfl, rfl, rfl, rfl, trivial⟩ rfl)
            ·refine aD ?_;refine tih h (fun h2 h => ?_) (fun h2 h => ?_)
             ·refine aF (aC (ta Z18 (aD (aF (aF (aC (ta (.i 0) (aD (bQ ?_)))))))));refine cO (S := Bool × Int) [3, 5, 8, 9, 10, 11, 12] (fun a4 => [(14, .b a4.1), (15, .i a4.2)]) (fun a4 => [.box b1 0 (aX t), .box b2 0 (iF e), .box a3 0 (gB s.1)]) (fun k a4 => eM (cF t e g6) c g j a t e s.1 k a4.1 a4.2) (fun _ => rfl) (false, 0) h (aT [0, 1, 2] rfl rfl (aM rfl (aM rfl (aR ⟨rfl, rfl, rfl, rfl, rfl, rfl, rfl, trivial⟩)))) ?_;rintro j9 ⟨I, B⟩ h;simp only [eM] at h;refine aF (aF (aC (tm (.i B) (tfl 2 rfl rfl nY rfl cX (to (sle rfl bS.of) (to (scm rfl rfl rfl) (aD ?_)))))));refine tih h (fun h3 h => ?_) (fun h3 h => ?_)
              ·refine bE (aF (bQ (aF ?_)));obtain ⟨d7, h5, h⟩ := bns h;obtain ⟨h7, h9, h⟩ := bns h;obtain ⟨p, i0, h⟩ := bns h;refine cB mix 19 [3, 5, 8, 9, 10, 11, 12, 14, 15] [(16, .i p.1), (155, .i p.2)] ?_ ?_
               ·refine ⟨[(139, 0, .agg (aX t)), (140, 1, .d (.sl 5 (c.map aJ))), (141, 2, .bp b2 0 0), (142, 3, .i e.Hour), (143, 4, .bp a3 0 0), (144, 5, .d (.sl 1 (s.1.Main.map aI))), (145, 6, .i B), (146, 7, .cp [.j d7]), (147, 8, .i d7), (148, 9, .d (.sl 5 (h7.map aJ))), (149, 10, .bp b2 0 0), (150, 11, .i e.Hour), (151, 12, .bp b2 0 1), (152, 13, .i e.Player), (153, 14, .tup [.i p.1, .i p.2]), (138, 15, .tup [.i p.1, .i p.2]), (154, 16, .i p.1), (155, 17, .i p.2), (16, 18, .i p.1)], ?_, ?_⟩
                · exact dk [0, 0, 0, 3, 0, 5, 0, 607, 8, 20409, 0, 11, 0, 13, 1101214, 15, 16, 16, 17] ⟨go (zla 0 (aX t) rfl rfl jU),
      go (zm (.d (.sl 5 (c.map aJ)))),
      go (zf rfl nZ),
      go (zl 1 rfl rfl rfl aV),
      go (zf rfl nY),
      go (zl 2 rfl rfl rfl cX),
      go (zm (.i B)),
      go (zix rfl rfl bS.of (cJ aI h5)),
      go (zlc rfl aV),
      go fun S hS => dM (aK rfl) (.func _ _ Tryz.call19) (ev2 (aU hS rfl) (ev2 (aU hS rfl) (ev2 (aU hS rfl) evn))) rfl (rO _ _ _ h9),
      go (zf rfl nZ),
      go (zl 1 rfl rfl rfl aV),
      go (zf rfl sK),
      go (zl 1 rfl rfl rfl aV),
      go fun S hS => lA (aK rfl) (.func _ _ Tryz.call18) (ev2 (aU hS rfl) (ev2 (aU hS rfl) (ev2 (aU hS rfl) (ev2 (aU hS rfl) evn)))) rfl (BVs.refl _ _) (pL _ _ _ _ i0) rfl,
      go (zm (.tup [.i p.1, .i p.2])),
      go (zex rfl rfl),
      go (zex rfl rfl),
      go (za (.i p.1)), trivial⟩
                · exact bV (aM rfl (aM rfl (aR ⟨rfl, rfl, rfl, rfl, rfl, rfl, rfl, rfl, rfl, trivial⟩)))
               ·refine ta (.i p.2) (aD (aF (aF (aC (tm (.i p.2) (to (scm rfl rfl rfl) (tm (.b (decide (p.2 = 0))) ?_)))))));obtain ⟨i1, b3, h⟩ := bns h;refine bG 5 [3, 5, 8, 9, 10, 11, 12, 14, 15, 16, 17] 163 i1 ?_ ?_
                ·refine bch b3 (fun J b3 => ?_) (fun J b3 => ?_)
                 ·refine tk J (sm (.i p.1)) (tk J (sm (.i g)) (tk J (sar rfl rfl rfl) (tk J (scm rfl rfl rfl) (to (spt (.b (decide (p.1 < (w64 (g - 1))))) J) ?_))));obtain rfl := sIn b3;refine aD (aS rfl ⟨rfl, rfl, rfl, rfl, rfl, rfl, rfl, rfl, rfl, rfl, rfl, trivial⟩ rfl)
                 ·refine tp J (tp J (tp J (tp J (to (spf Z18 J) ?_))));obtain rfl := sIn b3;refine aD (aS rfl ⟨rfl, rfl, rfl, rfl, rfl, rfl, rfl, rfl, rfl, rfl, rfl, trivial⟩ rfl)
                ·refine aD ?_;refine tih h (fun i2 h => ?_) (fun i2 h => ?_)
                 ·refine aF (aC (ta Z18 (aD ?_)));obtain rfl := sIn h;refine bP (bK (bM (l := [6]) ⟨rfl, trivial⟩)) ?_;exact rt
                 ·refine bE (aC (tm (.b I) (tm (.b I) ?_)));obtain ⟨d1, Z, h⟩ := bns h;refine bG 9 [3, 5, 8, 9, 10, 11, 12, 15] 174 d1 ?_ ?_
                  ·refine bch Z (fun E Z => ?_) (fun E Z => ?_)
                   ·refine tp E (tp E (tp E (tq (tq (tq (tq (tp E (to (spt Z37 E) ?_))))))));obtain rfl := sIn Z;refine aD (aS rfl ⟨rfl, rfl, rfl, rfl, rfl, rfl, rfl, rfl, trivial⟩ rfl)
                   ·refine tk E (sm (.i p.2)) (tk E (scm rfl rfl rfl) (tk E (sm (.b (decide (p.2 = 0)))) ?_));obtain ⟨d8, b4, Z⟩ := bns Z;refine bG 5 [3, 5, 8, 9, 10, 11, 12, 15, 165, 166, 167, 168] 173 d8 ?_ ?_
                    ·refine bch b4 (fun K b4 => ?_) (fun K b4 => ?_)
                     ·refine tk K (sm (.i p.1)) (tk K (sm (.i g)) (tk K (sar rfl rfl rfl) (tk K (scm rfl rfl rfl) (tk E (spt (.b (decide (p.1 = (w64 (g - 1))))) K) ?_))));obtain rfl := sIn b4;refine aD (aS rfl ⟨rfl, rfl, rfl, rfl, rfl, rfl, rfl, rfl, rfl, rfl, rfl, rfl, trivial⟩ rfl)
                     ·refine tp K (tp K (tp K (tp K (tk E (spf Z18 K) ?_))));obtain rfl := sIn b4;refine aD (aS rfl ⟨rfl, rfl, rfl, rfl, rfl, rfl, rfl, rfl, rfl, rfl, rfl, rfl, trivial⟩ rfl)
                    ·refine to (spf (.b d8) E) ?_;obtain rfl := sIn Z;refine aD (aS rfl ⟨rfl, rfl, rfl, rfl, rfl, rfl, rfl, rfl, trivial⟩ rfl)
                  ·refine ta (.b d1) ?_;refine dA ?_;refine aC (tm (.i B) (to (sar rfl rfl rfl) (ta (.i (w64 (B + 1))) (aD ?_))));exact ⟨(d1, w64 (B + 1)), h, aT [0, 1, 2] rfl rfl (aM rfl (aM rfl (aR ⟨rfl, rfl, rfl, rfl, rfl, rfl, rfl, trivial⟩)))⟩
              ·refine cD ?_;refine .inl ⟨rfl, ?_⟩;simp only [iR] at h;refine aF (aC (tm (.b I) (to (sn rfl) (aD ?_))));refine tih h (fun i3 h => ?_) (fun i3 h => ?_)
               ·refine aF (aC (ta Z18 (aD ?_)));obtain rfl := sIn h;refine bP (bK (bM (l := [6]) ⟨rfl, trivial⟩)) ?_;exact rt
               ·refine bE (aF (aF (aC (tm (.i a) (tfl 1 rfl rfl tY rfl cX (to (sle rfl bS.of) (to (scm rfl rfl rfl) (tm (.b (decide (a = (e.Places.length : Int)))) ?_))))))));obtain ⟨d9, b6, h⟩ := bns h;refine bG 5 [3, 5, 8, 9, 10, 11, 12] 187 d9 ?_ ?_
                ·refine bch b6 (fun M b6 => ?_) (fun M b6 => ?_)
                 ·refine tp M (tp M (tp M (tp M (to (spt Z37 M) ?_))));obtain rfl := sIn b6;refine aD (aS rfl ⟨rfl, rfl, rfl, rfl, rfl, rfl, rfl, trivial⟩ rfl)
                 ·refine tkl 2 M rfl rfl nY rfl cX (tk M (sle rfl bS.of) (tk M (scm rfl rfl rfl) (to (spf (.b (decide ((s.1.Main.length : Int) = 0))) M) ?_)));obtain rfl := sIn b6;refine aD (aS rfl ⟨rfl, rfl, rfl, rfl, rfl, rfl, rfl, trivial⟩ rfl)
                ·refine tm (.b d9) ?_;obtain ⟨e0, b8, h⟩ := bns h;refine bG 3 [3, 5, 8, 9, 11, 12] 191 e0 ?_ ?_
                 ·refine bch b8 (fun a0 b8 => ?_) (fun a0 b8 => ?_)
                  ·refine tp a0 (tp a0 (to (spt Z37 a0) ?_));obtain rfl := sIn b8;refine aD (aS rfl ⟨rfl, rfl, rfl, rfl, rfl, rfl, trivial⟩ rfl)
                  ·refine tk a0 (sm (.i j)) (tk a0 (scm rfl rfl rfl) (to (spf (.b (!decide (j = 0))) a0) ?_));obtain rfl := sIn b8;refine aD (aS rfl ⟨rfl, rfl, rfl, rfl, rfl, rfl, trivial⟩ rfl)
                 ·refine tm (.b e0) ?_;obtain ⟨i4, c0, h⟩ := bns h;refine bG 3 [3, 5, 8, 11, 12] 195 i4 ?_ ?_
                  ·refine bch c0 (fun a1 c0 => ?_) (fun a1 c0 => ?_)
                   ·refine tp a1 (tp a1 (to (spt Z37 a1) ?_));obtain rfl := sIn c0;refine aD (aS rfl ⟨rfl, rfl, rfl, rfl, rfl, trivial⟩ rfl)
                   ·refine tk a1 (sm (.i g)) (tk a1 (scm rfl rfl rfl) (to (spf (.b (decide (g = 0))) a1) ?_));obtain rfl := sIn c0;refine aD (aS rfl ⟨rfl, rfl, rfl, rfl, rfl, trivial⟩ rfl)
                  ·refine aD ?_;refine tih h (fun i5 h => ?_) (fun i5 h => ?_)
                   ·refine cD ?_;refine .inr ⟨by decide, ?_⟩;refine .inl ⟨rfl, ?_⟩;simp only [dH] at h;refine aF (aC ?_);obtain ⟨i6, i7, h⟩ := bns h;refine to (scr Tryz.call13 (lM i7)) (ta (.b i6) (aD ?_));obtain rfl := sIn h;refine bP (bK (bM (l := [6]) ⟨rfl, trivial⟩)) ?_;exact rt
                   ·refine bE (aF ?_);obtain ⟨c7, i8, h⟩ := bns h;obtain ⟨k0, i9, h⟩ := bns h;obtain ⟨d2, j0, h⟩ := bns h;refine cB mix 17 [3, 5, 11] [(196, .d (.sl 5 (c.map aJ))), (198, .i e.Hour), (212, .i d2)] ?_ ?_
                    ·refine ⟨[(196, 0, .d (.sl 5 (c.map aJ))), (197, 1, .bp b2 0 0), (198, 2, .i e.Hour), (199, 3, .bp a3 0 0), (200, 4, .d (.sl 1 (s.1.Main.map aI))), (201, 5, .bp b2 0 2), (202, 6, .d (.sl 1 (e.Places.map aI))), (203, 7, .i a), (204, 8, .cp [.j c7]), (205, 9, .i c7), (206, 10, .i (max 0 c7)), (207, 11, .bp a3 0 0), (208, 12, .d (.sl 1 (s.1.Main.map aI))), (209, 13, .i (s.1.Main.length : Int)), (210, 14, .i ((max 0 c7).tmod (s.1.Main.length : Int))), (211, 15, .cp [.j d2]), (212, 16, .i d2)], ?_, ?_⟩
                     · exact dk [0, 0, 2, 0, 4, 0, 6, 0, 708, 9, 10, 0, 12, 13, 1114, 515, 16] ⟨go (zm (.d (.sl 5 (c.map aJ)))),
      go (zf rfl nZ),
      go (zl 1 rfl rfl rfl aV),
      go (zf rfl nY),
      go (zl 2 rfl rfl rfl cX),
      go (zf rfl tY),
      go (zl 1 rfl rfl rfl cX),
      go (zm (.i a)),
      go (zix rfl rfl bS.of (cJ aI i8)),
      go (zlc rfl aV),
      go fun S hS => aNb (aK rfl) rfl (aU hS rfl),
      go (zf rfl nY),
      go (zl 2 rfl rfl rfl cX),
      go (zle rfl bS.of),
      go fun S hS => aSb (aK rfl) (aU hS rfl) (aU hS rfl) (aRz i9),
      go (zix rfl rfl bS.of (cJ aI j0)),
      go (zlc rfl aV), trivial⟩
                     · exact bV (aM rfl (aM rfl (aM rfl (aR ⟨rfl, rfl, rfl, trivial⟩))))
                    ·obtain ⟨d3, j1, h⟩ := bns h;refine to (dM (aK rfl) (.func _ _ Tryz.call19) rfl rfl (rO _ _ _ j1)) ?_;refine ta (.d (.sl 5 (d3.map aJ))) (aD (aC (to (sla 0 (aX t) rfl rfl jU) (tm (.d (.sl 5 (d3.map aJ))) (tfl 1 rfl rfl nZ rfl aV (tfl 1 rfl rfl sK rfl aV ?_))))));obtain ⟨a5, j2, h⟩ := bns h;refine to (scr Tryz.call18 (pL _ _ _ _ j2)) (tm (.tup [.i a5.1, .i a5.2]) (to (sex rfl rfl) (to (sex rfl rfl) (ta (.i a5.1) (ta (.i a5.2) ?_)))));refine dA ?_;simp only [gL] at h;refine aC (tm (.i a) (to (sar rfl rfl rfl) (ta (.i (w64 (a + 1))) (aD ?_))));exact ⟨(d3, a5.1, a5.2, w64 (a + 1)), h, aT [0, 1] rfl rfl (aM rfl (aM rfl (aM rfl (aM rfl (aR ⟨rfl, rfl, trivial⟩)))))⟩
             ·refine bE (aF (aF (aC (tm (.i a) (tfl 1 rfl rfl tY rfl cX (to (sle rfl bS.of) (to (scm rfl rfl rfl) (tm (.b (decide (a = (e.Places.length : Int)))) ?_))))))));obtain ⟨e1, c1, h⟩ := bns h;refine bG 5 [3, 5, 8, 9, 10, 11, 12] 187 e1 ?_ ?_
              ·refine bch c1 (fun A c1 => ?_) (fun A c1 => ?_)
               ·refine tp A (tp A (tp A (tp A (to (spt Z37 A) ?_))));obtain rfl := sIn c1;refine aD (aS rfl ⟨rfl, rfl, rfl, rfl, rfl, rfl, rfl, trivial⟩ rfl)
               ·refine tkl 2 A rfl rfl nY rfl cX (tk A (sle rfl bS.of) (tk A (scm rfl rfl rfl) (to (spf (.b (decide ((s.1.Main.length : Int) = 0))) A) ?_)));obtain rfl := sIn c1;refine aD (aS rfl ⟨rfl, rfl, rfl, rfl, rfl, rfl, rfl, trivial⟩ rfl)
              ·refine tm (.b e1) ?_;obtain ⟨e2, c2, h⟩ := bns h;refine bG 3 [3, 5, 8, 9, 11, 12] 191 e2 ?_ ?_
               ·refine bch c2 (fun Q c2 => ?_) (fun Q c2 => ?_)
                ·refine tp Q (tp Q (to (spt Z37 Q) ?_));obtain rfl := sIn c2;refine aD (aS rfl ⟨rfl, rfl, rfl, rfl, rfl, rfl, trivial⟩ rfl)
                ·refine tk Q (sm (.i j)) (tk Q (scm rfl rfl rfl) (to (spf (.b (!decide (j = 0))) Q) ?_));obtain rfl := sIn c2;refine aD (aS rfl ⟨rfl, rfl, rfl, rfl, rfl, rfl, trivial⟩ rfl)
               ·refine tm (.b e2) ?_;obtain ⟨j3, c3, h⟩ := bns h;refine bG 3 [3, 5, 8, 11, 12] 195 j3 ?_ ?_
                ·refine bch c3 (fun T c3 => ?_) (fun T c3 => ?_)
                 ·refine tp T (tp T (to (spt Z37 T) ?_));obtain rfl := sIn c3;refine aD (aS rfl ⟨rfl, rfl, rfl, rfl, rfl, trivial⟩ rfl)
                 ·refine tk T (sm (.i g)) (tk T (scm rfl rfl rfl) (to (spf (.b (decide (g = 0))) T) ?_));obtain rfl := sIn c3;refine aD (aS rfl ⟨rfl, rfl, rfl, rfl, rfl, trivial⟩ rfl)
                ·refine aD ?_;refine tih h (fun j4 h => ?_) (fun j4 h => ?_)
                 ·refine cD ?_;refine .inr ⟨by decide, ?_⟩;refine .inl ⟨rfl, ?_⟩;simp only [dH] at h;refine aF (aC ?_);obtain ⟨j5, j6, h⟩ := bns h;refine to (scr Tryz.call13 (lM j6)) (ta (.b j5) (aD ?_));obtain rfl := sIn h;refine bP (bK (bM (l := [6]) ⟨rfl, trivial⟩)) ?_;exact rt
                 ·refine bE (aF ?_);obtain ⟨a6, e7, h⟩ := bns h;obtain ⟨j7, e8, h⟩ := bns h;obtain ⟨c4, e9, h⟩ := bns h;refine cB mix 17 [3, 5, 11] [(196, .d (.sl 5 (c.map aJ))), (198, .i e.Hour), (212, .i c4)] ?_ ?_
                  ·refine ⟨[(196, 0, .d (.sl 5 (c.map aJ))), (197, 1, .bp b2 0 0), (198, 2, .i e.Hour), (199, 3, .bp a3 0 0), (200, 4, .d (.sl 1 (s.1.Main.map aI))), (201, 5, .bp b2 0 2), (202, 6, .d (.sl 1 (e.Places.map aI))), (203, 7, .i a), (204, 8, .cp [.j a6]), (205, 9, .i a6), (206, 10, .i (max 0 a6)), (207, 11, .bp a3 0 0), (208, 12, .d (.sl 1 (s.1.Main.map aI))), (209, 13, .i (s.1.Main.length : Int)), (210, 14, .i ((max 0 a6).tmod (s.1.Main.length : Int))), (211, 15, .cp [.j c4]), (212, 16, .i c4)], ?_, ?_⟩
                   · exact dk [0, 0, 2, 0, 4, 0, 6, 0, 708, 9, 10, 0, 12, 13, 1114, 515, 16] ⟨go (zm (.d (.sl 5 (c.map aJ)))),
      go (zf rfl nZ),
      go (zl 1 rfl rfl rfl aV),
      go (zf rfl nY),
      go (zl 2 rfl rfl rfl cX),
      go (zf rfl tY),
      go (zl 1 rfl rfl rfl cX),
      go (zm (.i a)),
      go (zix rfl rfl bS.of (cJ aI e7)),
      go (zlc rfl aV),
      go fun S hS => aNb (aK rfl) rfl (aU hS rfl),
      go (zf rfl nY),
      go (zl 2 rfl rfl rfl cX),
      go (zle rfl bS.of),
      go fun S hS => aSb (aK rfl) (aU hS rfl) (aU hS rfl) (aRz e8),
      go (zix rfl rfl bS.of (cJ aI e9)),
      go (zlc rfl aV), trivial⟩
                   · exact bV (aM rfl (aM rfl (aM rfl (aR ⟨rfl, rfl, rfl, trivial⟩))))
                  ·obtain ⟨c5, f0, h⟩ := bns h;refine to (dM (aK rfl) (.func _ _ Tryz.call19) rfl rfl (rO _ _ _ f0)) ?_;refine ta (.d (.sl 5 (c5.map aJ))) (aD (aC (to (sla 0 (aX t) rfl rfl jU) (tm (.d (.sl 5 (c5.map aJ))) (tfl 1 rfl rfl nZ rfl aV (tfl 1 rfl rfl sK rfl aV ?_))))));obtain ⟨U, f1, h⟩ := bns h;refine to (scr Tryz.call18 (pL _ _ _ _ f1)) (tm (.tup [.i U.1, .i U.2]) (to (sex rfl rfl) (to (sex rfl rfl) (ta (.i U.1) (ta (.i U.2) ?_)))));refine dA ?_;simp only [gL] at h;refine aC (tm (.i a) (to (sar rfl rfl rfl) (ta (.i (w64 (a + 1))) (aD ?_))));exact ⟨(c5, U.1, U.2, w64 (a + 1)), h, aT [0, 1] rfl rfl (aM rfl (aM rfl (aM rfl (aM rfl (aR ⟨rfl, rfl, trivial⟩)))))⟩
        ·refine cD ?_;refine .inl ⟨rfl, ?_⟩;simp only [dH] at h;refine aF (aC ?_);obtain ⟨f2, f3, h⟩ := bns h;refine to (scr Tryz.call13 (lM f3)) (ta (.b f2) (aD ?_));obtain rfl := sIn h;refine bP (bK (bM (l := [6]) ⟨rfl, trivial⟩)) ?_;exact rt

end Go.Am
