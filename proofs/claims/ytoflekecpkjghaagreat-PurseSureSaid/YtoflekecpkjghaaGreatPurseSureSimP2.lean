/- The functions compute what the shallow ones say: printed by program. -/
import Derived.Test.YtoflekecpkjghaaGreatPurseSureSimP1
namespace Go.Am
open Go.Proofs
set_option maxRecDepth 100000
set_option maxHeartbeats 40000000

theorem aBs (a : List Int) (p : List fX) (q : fX → Option (Int × Bool)) {r : Bool} (c : Nat) (j : List AV) (s : ∀ args w, (callFunc c args).run Tryz.prog w = .ok (.enter c args) w) (t : ∀ (x0 : fX) r, q x0 = some r → Fn Tryz.prog c ([.agg (cX x0)] ++ j) (.tup [.i r.1, .b r.2])) (h : lU a p q = some r) : Fn Tryz.prog 81 [.d (Z8 a), .d (.sl 2 (p.map cX)), .fn c j] (.b r) := by
 unfold lU at h;refine oT [.tmp 6] Tryz.func81 Tryz.results81 Tryz.ntmps81 ?_;refine aC (aA (ta Z3 (aB (aC (aA (to (iK 3 1 (.inl rfl) (aF rfl)) ?_))))));refine aB (aC (aC (aA (tm (.d (.sl 2 (p.map cX))) (to (sle rfl wA.of) (tm (.i 0) (aB (aX ?_))))))));refine bP (S := Int × Z26 × Value) [0, 2, 12, 13] (fun s2 => [(7, .d (.lit s2.2.2)), (14, .i s2.1)]) (fun s2 => [.arr s2.2.2 3 1 (s2.2.1.map aL)]) (fun k s2 => gF a q p (p.length : Int) k s2.1 s2.2.1) (fun _ => rfl) (0, ([] : List Int), (.slice none 0 0)) h (aN [0] rfl rfl (aH rfl (aH rfl (aM ⟨rfl, rfl, rfl, rfl, trivial⟩)))) ?_;rintro k4 ⟨o, x, w3⟩ h;simp only [gF] at h;refine aC (aA (to (scm rfl rfl rfl) (aB (aC ?_))));refine tih h (fun c5 h => ?_) (fun c5 h => ?_)
 ·refine aU (aC (aX (aC (aA ?_))));obtain ⟨x6, h7, h⟩ := bns h;refine to (six rfl rfl wA.of (aV cX h7)) (to (qF (cX x6) rfl aOn) ?_);refine bB rfl (cK (zs := [.j 0, .j 0]) (aF rfl) Tryz.zeroValue78 rfl rfl) ?_;rintro _ ⟨b8, rfl⟩;refine to (sst 1 rfl rfl Tryz.sizeOf78 (cX x6)) (aB (aC (aA (tm (.fn c j) (to (sla 1 (cX x6) rfl rfl aOn) ?_)))));obtain ⟨r9, y, h⟩ := bns h;refine to (fW (aF rfl) (.clo _ _ _ _ s rfl) (aAx rfl) rfl (BVs.refl _ _) (t _ _  y) rfl) ?_;refine tm (.tup [.i r9.1, .b r9.2]) (to (sex rfl rfl) (to (sex rfl rfl) (ta (.i r9.1) (ta (.b r9.2) (aB (aC (aC (aA (tm (.b r9.2) (to (sn rfl) (tm (.b (!r9.2)) ?_)))))))))));obtain ⟨u, m, h⟩ := bns h;refine aW 5 [0, 2, 7, 10, 12, 13, 14] 31 u ?_ ?_
  ·refine bch m (fun e m => ?_) (fun e m => ?_)
   ·refine tp e (tp e (tp e (tp e (to (spt Z10 e) ?_))));obtain rfl := sIn m;refine aB (aK rfl ⟨rfl, rfl, rfl, rfl, rfl, rfl, rfl, trivial⟩ rfl)
   ·refine tk e (sm (Z41 a)) (tk e (sm (.i r9.1)) ?_);obtain ⟨z, A, m⟩ := bns m;refine tk e (scr Tryz.call60 (fB _ _ A)) (tk e (sn rfl) (to (spf (.b (!z)) e) ?_));obtain rfl := sIn m;refine aB (aK rfl ⟨rfl, rfl, rfl, rfl, rfl, rfl, rfl, trivial⟩ rfl)
  ·refine tm (.b u) ?_;obtain ⟨B, n, h⟩ := bns h;refine aW 4 [0, 2, 7, 10, 12, 13, 14] 36 B ?_ ?_
   ·refine bch n (fun g n => ?_) (fun g n => ?_)
    ·refine tp g (tp g (tp g (to (spt Z10 g) ?_)));obtain rfl := sIn n;refine aB (aK rfl ⟨rfl, rfl, rfl, rfl, rfl, rfl, rfl, trivial⟩ rfl)
    ·refine tk g (sm (.d (.lit w3))) (tk g (sm (.i r9.1)) ?_);obtain ⟨C, E, n⟩ := bns n;refine tk g (sc Tryz.call60 (fB _ _ E) (.cons (.d (nX 0 rfl (cV (f := aL) fun _ => rfl))) (.cons (.same _) .nil))) (to (spf (.b C) g) ?_);obtain rfl := sIn n;refine aB (aK rfl ⟨rfl, rfl, rfl, rfl, rfl, rfl, rfl, trivial⟩ rfl)
   ·refine aB ?_;refine tih h (fun F h => ?_) (fun F h => ?_)
    ·refine aC (aA (ta Z3 (aB ?_)));obtain rfl := sIn h;refine bL (bC (bE (l := [6]) ⟨rfl, trivial⟩)) ?_;exact rt
    ·refine aU (aA (tm (.d (.lit w3)) (tm (.i r9.1) (to (fL (aF rfl) bG rfl rfl (rows := ([r9.1]).map aL) rfl (cV (f := aL) fun _ => rfl) rfl (by decide)) ?_))));obtain ⟨G, H, h⟩ := bns h;refine bB rfl (gM (i := 0) (aF rfl) bG rfl rfl rfl (fun _ => rfl) H rfl) ?_;rintro _ ⟨v, rfl⟩;refine ta (.d (.lit v)) ?_;refine cM ?_;refine aA (to (sar rfl rfl rfl) (tm (.i (w64 (o + 1))) (aB ?_)));exact ⟨(w64 (o + 1), G, v), h, aN [0] rfl rfl (aH rfl (aH rfl (aM ⟨rfl, rfl, rfl, rfl, trivial⟩)))⟩
 ·refine bQ ?_;refine .inl ⟨rfl, ?_⟩;simp only [uY] at h;refine aC (aA (ta Z10 (aB ?_)));obtain rfl := sIn h;refine bL (bC (bE (l := [6]) ⟨rfl, trivial⟩)) ?_;exact rt

theorem aHq (a : fX) {r : Int × Bool} (h : lG a = some r) : Fn Tryz.prog 79 [.agg (cX a)] (.tup [.i r.1, .b r.2]) := by
 unfold lG at h;refine oT [.tmp 2, .tmp 3] Tryz.func79 Tryz.results79 Tryz.ntmps79 ?_;refine aC (aA ?_);refine bB rfl (eB (v := .agg (cX a)) (aF rfl) rfl rfl rfl) ?_;rintro _ ⟨b1, rfl⟩;refine ta (.i 0) (ta Z3 (aB (aC ?_)));obtain ⟨r2, h3, h⟩ := bns h;refine cN mix 5 [] [(5, .i a.Person), (8, .b r2)] ?_ ?_
 ·refine ⟨[(4, 0, .bp b1 0 0), (5, 1, .i a.Person), (6, 2, .bp b1 0 1), (7, 3, .i a.Mille), (8, 4, .b r2)], ?_, ?_⟩
  · exact dk [0, 1, 0, 3, 4] ⟨go (zf rfl yJ),
      go (zl 0 rfl rfl rfl aO),
      go (zf rfl aJw),
      go (zl 0 rfl rfl rfl aO),
      go fun S hS => fW (aF rfl) (.func _ _ Tryz.call61) (ev2 (bF hS rfl) (ev2 rfl (ev2 rfl evn))) rfl (BVs.refl _ _) (gR _ _ _ h3) rfl, trivial⟩
  · exact cC (aH rfl (aH rfl (aM trivial)))
 ·refine ta (.i a.Person) (ta (.b r2) (aB ?_));obtain rfl := sIn h;refine bL (bC (bE (l := [2, 3]) ⟨rfl, rfl, trivial⟩)) ?_;exact cI ⟨rfl, _, .two _ _, rfl, rfl⟩

theorem aBt (a : List Int) (p : List eO) (q : eO → Option (Int × Bool)) {r : Bool} (c : Nat) (j : List AV) (s : ∀ args w, (callFunc c args).run Tryz.prog w = .ok (.enter c args) w) (t : ∀ (x0 : eO) r, q x0 = some r → Fn Tryz.prog c ([.agg (dO x0)] ++ j) (.tup [.i r.1, .b r.2])) (h : lV a p q = some r) : Fn Tryz.prog 82 [.d (Z8 a), .d (.sl 3 (p.map dO)), .fn c j] (.b r) := by
 unfold lV at h;refine oT [.tmp 6] Tryz.func82 Tryz.results82 Tryz.ntmps82 ?_;refine aC (aA (ta Z3 (aB (aC (aA (to (iK 3 1 (.inl rfl) (aF rfl)) ?_))))));refine aB (aC (aC (aA (tm (.d (.sl 3 (p.map dO))) (to (sle rfl aAg.of) (tm (.i 0) (aB (aX ?_))))))));refine bP (S := Int × Z26 × Value) [0, 2, 12, 13] (fun s2 => [(7, .d (.lit s2.2.2)), (14, .i s2.1)]) (fun s2 => [.arr s2.2.2 3 1 (s2.2.1.map aL)]) (fun k s2 => gG a q p (p.length : Int) k s2.1 s2.2.1) (fun _ => rfl) (0, ([] : List Int), (.slice none 0 0)) h (aN [0] rfl rfl (aH rfl (aH rfl (aM ⟨rfl, rfl, rfl, rfl, trivial⟩)))) ?_;rintro k4 ⟨o, x, w3⟩ h;simp only [gG] at h;refine aC (aA (to (scm rfl rfl rfl) (aB (aC ?_))));refine tih h (fun c5 h => ?_) (fun c5 h => ?_)
 ·refine aU (aC (aX (aC (aA ?_))));obtain ⟨x6, h7, h⟩ := bns h;refine to (six rfl rfl aAg.of (aV dO h7)) (to (qF (dO x6) rfl aKm) ?_);refine bB rfl (cK (zs := [.j 0, .j 0, .j 0]) (aF rfl) Tryz.zeroValue80 rfl rfl) ?_;rintro _ ⟨b8, rfl⟩;refine to (sst 1 rfl rfl Tryz.sizeOf80 (dO x6)) (aB (aC (aA (tm (.fn c j) (to (sla 1 (dO x6) rfl rfl aKm) ?_)))));obtain ⟨r9, y, h⟩ := bns h;refine to (fW (aF rfl) (.clo _ _ _ _ s rfl) (aAx rfl) rfl (BVs.refl _ _) (t _ _  y) rfl) ?_;refine tm (.tup [.i r9.1, .b r9.2]) (to (sex rfl rfl) (to (sex rfl rfl) (ta (.i r9.1) (ta (.b r9.2) (aB (aC (aC (aA (tm (.b r9.2) (to (sn rfl) (tm (.b (!r9.2)) ?_)))))))))));obtain ⟨u, m, h⟩ := bns h;refine aW 5 [0, 2, 7, 10, 12, 13, 14] 31 u ?_ ?_
  ·refine bch m (fun e m => ?_) (fun e m => ?_)
   ·refine tp e (tp e (tp e (tp e (to (spt Z10 e) ?_))));obtain rfl := sIn m;refine aB (aK rfl ⟨rfl, rfl, rfl, rfl, rfl, rfl, rfl, trivial⟩ rfl)
   ·refine tk e (sm (Z41 a)) (tk e (sm (.i r9.1)) ?_);obtain ⟨z, A, m⟩ := bns m;refine tk e (scr Tryz.call60 (fB _ _ A)) (tk e (sn rfl) (to (spf (.b (!z)) e) ?_));obtain rfl := sIn m;refine aB (aK rfl ⟨rfl, rfl, rfl, rfl, rfl, rfl, rfl, trivial⟩ rfl)
  ·refine tm (.b u) ?_;obtain ⟨B, n, h⟩ := bns h;refine aW 4 [0, 2, 7, 10, 12, 13, 14] 36 B ?_ ?_
   ·refine bch n (fun g n => ?_) (fun g n => ?_)
    ·refine tp g (tp g (tp g (to (spt Z10 g) ?_)));obtain rfl := sIn n;refine aB (aK rfl ⟨rfl, rfl, rfl, rfl, rfl, rfl, rfl, trivial⟩ rfl)
    ·refine tk g (sm (.d (.lit w3))) (tk g (sm (.i r9.1)) ?_);obtain ⟨C, E, n⟩ := bns n;refine tk g (sc Tryz.call60 (fB _ _ E) (.cons (.d (nX 0 rfl (cV (f := aL) fun _ => rfl))) (.cons (.same _) .nil))) (to (spf (.b C) g) ?_);obtain rfl := sIn n;refine aB (aK rfl ⟨rfl, rfl, rfl, rfl, rfl, rfl, rfl, trivial⟩ rfl)
   ·refine aB ?_;refine tih h (fun F h => ?_) (fun F h => ?_)
    ·refine aC (aA (ta Z3 (aB ?_)));obtain rfl := sIn h;refine bL (bC (bE (l := [6]) ⟨rfl, trivial⟩)) ?_;exact rt
    ·refine aU (aA (tm (.d (.lit w3)) (tm (.i r9.1) (to (fL (aF rfl) bG rfl rfl (rows := ([r9.1]).map aL) rfl (cV (f := aL) fun _ => rfl) rfl (by decide)) ?_))));obtain ⟨G, H, h⟩ := bns h;refine bB rfl (gM (i := 0) (aF rfl) bG rfl rfl rfl (fun _ => rfl) H rfl) ?_;rintro _ ⟨v, rfl⟩;refine ta (.d (.lit v)) ?_;refine cM ?_;refine aA (to (sar rfl rfl rfl) (tm (.i (w64 (o + 1))) (aB ?_)));exact ⟨(w64 (o + 1), G, v), h, aN [0] rfl rfl (aH rfl (aH rfl (aM ⟨rfl, rfl, rfl, rfl, trivial⟩)))⟩
 ·refine bQ ?_;refine .inl ⟨rfl, ?_⟩;simp only [uZ] at h;refine aC (aA (ta Z10 (aB ?_)));obtain rfl := sIn h;refine bL (bC (bE (l := [6]) ⟨rfl, trivial⟩)) ?_;exact rt

theorem aHr (a : eO) {r : Int × Bool} (h : lH a = some r) : Fn Tryz.prog 80 [.agg (dO a)] (.tup [.i r.1, .b r.2]) := by
 unfold lH at h;refine oT [.tmp 2, .tmp 3] Tryz.func80 Tryz.results80 Tryz.ntmps80 ?_;refine aC (aA ?_);refine bB rfl (eB (v := .agg (dO a)) (aF rfl) rfl rfl rfl) ?_;rintro _ ⟨b1, rfl⟩;refine ta (.i 0) (ta Z3 (aB (aC ?_)));obtain ⟨r2, h3, h⟩ := bns h;obtain ⟨b4, h5, h⟩ := bns h;refine cN mix 11 [] [(2, .i a.Person), (13, .b b4)] ?_ ?_
 ·refine bch h5 (fun c6 h5 => ?_) (fun c6 h5 => ?_)
  ·obtain ⟨r7, h8, h5⟩ := bns h5;obtain rfl := sIn h5;refine ⟨[(4, 0, .bp b1 0 0), (5, 1, .i a.Person), (6, 2, .bp b1 0 1), (7, 3, .i a.Num), (8, 4, .b r2), (9, 5, .b r2), (10, 6, .bp b1 0 2), (11, 7, .i a.Den), (12, 8, .b r7), (13, 9, .b r7), (2, 10, .i a.Person)], ?_, ?_⟩
   · exact dk [0, 1, 0, 3, 4, 5, 6, 607, 608, 609, 2] ⟨go (zf rfl yK),
      go (zl 0 rfl rfl rfl aO),
      go (zf rfl aEe),
      go (zl 0 rfl rfl rfl aO),
      go fun S hS => fW (aF rfl) (.func _ _ Tryz.call61) (ev2 (bF hS rfl) (ev2 rfl (ev2 rfl evn))) rfl (BVs.refl _ _) (gR _ _ _ h3) rfl,
      go (zm (.b r2)),
      gt c6 (zf rfl aJx),
      gt c6 (zl 0 rfl rfl rfl aO),
      gt c6 fun S hS => fW (aF rfl) (.func _ _ Tryz.call61) (ev2 (bF hS rfl) (ev2 rfl (ev2 rfl evn))) rfl (BVs.refl _ _) (gR _ _ _ h8) rfl,
      go (zpt (.b r7) c6),
      go (za (.i a.Person)), trivial⟩
   · exact cC (aH rfl (aH rfl (aM trivial)))
  ·obtain rfl := sIn h5;refine ⟨[(4, 0, .bp b1 0 0), (5, 1, .i a.Person), (6, 2, .bp b1 0 1), (7, 3, .i a.Num), (8, 4, .b r2), (9, 5, .b r2), (10, 6, .tup []), (11, 7, .tup []), (12, 8, .tup []), (13, 9, .b false), (2, 10, .i a.Person)], ?_, ?_⟩
   · exact dk [0, 1, 0, 3, 4, 5, 6, 607, 608, 609, 2] ⟨go (zf rfl yK),
      go (zl 0 rfl rfl rfl aO),
      go (zf rfl aEe),
      go (zl 0 rfl rfl rfl aO),
      go fun S hS => fW (aF rfl) (.func _ _ Tryz.call61) (ev2 (bF hS rfl) (ev2 rfl (ev2 rfl evn))) rfl (BVs.refl _ _) (gR _ _ _ h3) rfl,
      go (zm (.b r2)),
      gp c6,
      gp c6,
      gp c6,
      go (zpf Z3 c6),
      go (za (.i a.Person)), trivial⟩
   · exact cC (aH rfl (aH rfl (aM trivial)))
 ·refine ta (.b b4) (aB ?_);obtain rfl := sIn h;refine bL (bC (bE (l := [2, 3]) ⟨rfl, rfl, trivial⟩)) ?_;exact cI ⟨rfl, _, .two _ _, rfl, rfl⟩

theorem aKg (a : aP) {r : Bool} (h : rV a = some r) : Fn Tryz.prog 47 (Z32 a) (.b r) := by
 unfold rV at h;refine oT [.tmp 2] Tryz.func47 Tryz.results47 Tryz.ntmps47 ?_;refine aC (aA ?_);refine bB rfl (eB (v := .agg (aT a)) (aF rfl) rfl rfl rfl) ?_;rintro _ ⟨b1, rfl⟩;refine ta Z3 (aB (aC (aC (aA (tfl 0 rfl rfl jX rfl oA (to (sle rfl nP.of) (to (scm rfl rfl rfl) (aB ?_))))))));refine tih h (fun c2 h => ?_) (fun c2 h => ?_)
 ·refine aC (aA (ta Z3 (aB ?_)));obtain rfl := sIn h;refine bL (bC (bE (l := [2]) ⟨rfl, trivial⟩)) ?_;exact rt
 ·refine aU (aC (aA (to (iK 3 1 (.inl rfl) (aF rfl)) ?_)));refine aB (aC (aC (aA (tfl 0 rfl rfl jX rfl oA (to (sle rfl nP.of) (tm (.i 0) (aB (aX ?_))))))));refine bP (S := Int × Z26 × Value) [1, 18, 19] (fun s4 => [(3, .d (.lit s4.2.2)), (20, .i s4.1)]) (fun s4 => [.box b1 0 (aT a), .arr s4.2.2 3 1 (s4.2.1.map aL)]) (fun k s4 => kH a.Teams (a.Teams.length : Int) a k s4.1 s4.2.1) (fun _ => rfl) (0, ([] : List Int), (.slice none 0 0)) h (aN [0, 1] rfl rfl (aH rfl (aH rfl (aM ⟨rfl, rfl, rfl, trivial⟩)))) ?_;rintro k6 ⟨z, j, w5⟩ h;simp only [kH] at h;refine aC (aA (to (scm rfl rfl rfl) (aB (aC ?_))));refine tih h (fun c7 h => ?_) (fun c7 h => ?_)
  ·refine aU (aC (aX (aC (aA ?_))));obtain ⟨x8, h9, h⟩ := bns h;refine to (six rfl rfl nP.of (aV bK h9)) (to (qF (bK x8) rfl uB) ?_);refine bB rfl (cK (zs := [.j 0, .j 0, .j 0]) (aF rfl) Tryz.zeroValue46 rfl rfl) ?_;rintro _ ⟨c1, rfl⟩;refine to (sst 2 rfl rfl Tryz.sizeOf46 (bK x8)) (aB (aC (aC (aA (tfl 2 rfl rfl sT rfl aO ?_)))));obtain ⟨K, L, h⟩ := bns h;refine to (scr Tryz.call61 (gR _ _ _ L)) (to (sn rfl) (tm (.b (!K)) ?_));obtain ⟨H, q, h⟩ := bns h;refine aW 5 [1, 3, 5, 18, 19, 20] 33 H ?_ ?_
   ·refine bch q (fun m q => ?_) (fun m q => ?_)
    ·refine tp m (tp m (tp m (tp m (to (spt Z10 m) ?_))));obtain rfl := sIn q;refine aB (aK rfl ⟨rfl, rfl, rfl, rfl, rfl, rfl, trivial⟩ rfl)
    ·refine tkl 2 m rfl rfl oM rfl aO ?_;obtain ⟨M, N, q⟩ := bns q;refine tk m (scr Tryz.call61 (gR _ _ _ N)) (tk m (sn rfl) (to (spf (.b (!M)) m) ?_));obtain rfl := sIn q;refine aB (aK rfl ⟨rfl, rfl, rfl, rfl, rfl, rfl, trivial⟩ rfl)
   ·refine tm (.b H) ?_;obtain ⟨O, s, h⟩ := bns h;refine aW 5 [1, 3, 5, 18, 19, 20] 39 O ?_ ?_
    ·refine bch s (fun n s => ?_) (fun n s => ?_)
     ·refine tp n (tp n (tp n (tp n (to (spt Z10 n) ?_))));obtain rfl := sIn s;refine aB (aK rfl ⟨rfl, rfl, rfl, rfl, rfl, rfl, trivial⟩ rfl)
     ·refine tkl 2 n rfl rfl jN rfl aO ?_;obtain ⟨P, Q, s⟩ := bns s;refine tk n (scr Tryz.call61 (gR _ _ _ Q)) (tk n (sn rfl) (to (spf (.b (!P)) n) ?_));obtain rfl := sIn s;refine aB (aK rfl ⟨rfl, rfl, rfl, rfl, rfl, rfl, trivial⟩ rfl)
    ·refine aB ?_;refine tih h (fun T h => ?_) (fun T h => ?_)
     ·refine aC (aA (ta Z3 (aB ?_)));obtain rfl := sIn h;refine bL (bC (bE (l := [2]) ⟨rfl, trivial⟩)) ?_;exact rt
     ·refine aU (aA (tm (.d (.lit w5)) (tfl 2 rfl rfl sT rfl aO (to (fL (aF rfl) bG rfl rfl (rows := ([x8.Player]).map aL) rfl (cV (f := aL) fun _ => rfl) rfl (by decide)) ?_))));obtain ⟨U, V, h⟩ := bns h;refine bB rfl (gM (i := 1) (aF rfl) bG rfl rfl rfl (fun _ => rfl) V rfl) ?_;rintro _ ⟨I, rfl⟩;refine ta (.d (.lit I)) ?_;refine cM ?_;refine aA (to (sar rfl rfl rfl) (tm (.i (w64 (z + 1))) (aB ?_)));exact ⟨(w64 (z + 1), U, I), h, aN [0, 1] rfl rfl (aH rfl (aH rfl (aM ⟨rfl, rfl, rfl, trivial⟩)))⟩
  ·refine bQ ?_;refine .inl ⟨rfl, ?_⟩;simp only [oX] at h;refine aC (aA (tm (.d (.lit w5)) ?_));obtain ⟨B, W, h⟩ := bns h;refine sD (aN [1, 0] rfl rfl (le_refl _)) ?_;refine bB rfl (eZ (passed := [.arr w5 3 1 (j.map aL)]) (aF rfl) rfl (.func _ _ Tryz.call77) rfl rfl (zT j W)) ?_;rintro _ ⟨_, _, ⟨rfl, rfl⟩, rfl⟩;refine aB (aC (aA (to (sla 1 (aT a) rfl rfl eR) ?_)));obtain ⟨A, X, h⟩ := bns h;refine to (eY (aF rfl) (.func _ _ Tryz.call55) rfl rfl (xQ _ X)) ?_;refine ta (.d (.sl 1 (A.map aL))) (aB (aC (aC (aA (tm (.d (.lit w5)) ?_)))));obtain ⟨Y, Z, h⟩ := bns h;refine to (sc Tryz.call78 (zS _ Z) (.cons (.d (nX 0 rfl (cV (f := aL) fun _ => rfl))) .nil)) (to (sn rfl) (tm (.b (!Y)) ?_));obtain ⟨a0, t, h⟩ := bns h;refine aW 4 [1, 3, 6] 57 a0 ?_ ?_
   ·refine bch t (fun o t => ?_) (fun o t => ?_)
    ·refine tp o (tp o (tp o (to (spt Z10 o) ?_)));obtain rfl := sIn t;refine aB (aK rfl ⟨rfl, rfl, rfl, trivial⟩ rfl)
    ·refine tk o (sm (.d (.sl 1 (A.map aL)))) ?_;obtain ⟨a1, a2, t⟩ := bns t;refine tk o (scr Tryz.call78 (zS _ a2)) (tk o (sn rfl) (to (spf (.b (!a1)) o) ?_));obtain rfl := sIn t;refine aB (aK rfl ⟨rfl, rfl, rfl, trivial⟩ rfl)
   ·refine aB ?_;refine tih h (fun a3 h => ?_) (fun a3 h => ?_)
    ·refine aC (aA (ta Z3 (aB ?_)));obtain rfl := sIn h;refine bL (bC (bE (l := [2]) ⟨rfl, trivial⟩)) ?_;exact rt
    ·refine aU (aC (aC (aA (to (sf rfl hZ) (tfl 1 rfl rfl eA rfl cD (to (sle rfl bG.of) (tm (.i 0) (aB (aX ?_)))))))));refine bP (S := Int) [1, 3, 6, 60, 61] (fun C => [(62, .i C)]) (fun C => [.box b1 0 (aT a), .arr w5 3 1 (B.map aL)]) (fun k C => jK A a.Tree.Slots (a.Tree.Slots.length : Int) a B k C) (fun _ => rfl) (0) h (aN [1, 0] rfl rfl (aH rfl (aM ⟨rfl, rfl, rfl, rfl, rfl, trivial⟩))) ?_;rintro c3 u h;simp only [jK] at h;refine aC (aA (to (scm rfl rfl rfl) (aB (aC ?_))));refine tih h (fun a4 h => ?_) (fun a4 h => ?_)
     ·refine aU (aC (aX (aC (aA ?_))));obtain ⟨E, a5, h⟩ := bns h;refine to (six rfl rfl bG.of (aV aL a5)) (to (slc rfl aO) (ta (.i E) (aB (aC (aA (tm (.i E) (to (scm rfl rfl rfl) (tm (.b (!decide (E = (-1)))) ?_))))))));obtain ⟨a6, w, h⟩ := bns h;refine aW 5 [1, 3, 6, 60, 61, 62] 73 a6 ?_ ?_
      ·refine bch w (fun g w => ?_) (fun g w => ?_)
       ·refine tk g (sm (.d (.lit w5))) (tk g (sm (.i E)) ?_);obtain ⟨a7, a8, w⟩ := bns w;refine tk g (sc Tryz.call60 (fB _ _ a8) (.cons (.d (nX 1 rfl (cV (f := aL) fun _ => rfl))) (.cons (.same _) .nil))) (tk g (sn rfl) (to (spt (.b (!a7)) g) ?_));obtain rfl := sIn w;refine aB (aK rfl ⟨rfl, rfl, rfl, rfl, rfl, rfl, trivial⟩ rfl)
       ·refine tp g (tp g (tp g (tp g (to (spf Z3 g) ?_))));obtain rfl := sIn w;refine aB (aK rfl ⟨rfl, rfl, rfl, rfl, rfl, rfl, trivial⟩ rfl)
      ·refine aB ?_;refine tih h (fun a9 h => ?_) (fun a9 h => ?_)
       ·refine aC (aA (ta Z3 (aB ?_)));obtain rfl := sIn h;refine bL (bC (bE (l := [2]) ⟨rfl, trivial⟩)) ?_;exact rt
       ·refine cL ?_;refine aA (to (sar rfl rfl rfl) (tm (.i (w64 (u + 1))) (aB ?_)));exact ⟨(w64 (u + 1)), h, aN [0, 1] rfl rfl (aH rfl (aM ⟨rfl, rfl, rfl, rfl, rfl, trivial⟩))⟩
     ·refine bQ ?_;refine .inl ⟨rfl, ?_⟩;simp only [oY] at h;refine aC (aC (aA (tfl 0 rfl rfl nF rfl rT (to (sle rfl fO.of) (tm (.i 0) (aB (aX ?_)))))));refine bP (S := Int) [1, 3, 6, 76, 77] (fun F => [(78, .i F)]) (fun F => [.box b1 0 (aT a), .arr w5 3 1 (B.map aL)]) (fun k F => kI A a.Slips (a.Slips.length : Int) a B k F) (fun _ => rfl) (0) h (aN [0, 1] rfl rfl (aH rfl (aM ⟨rfl, rfl, rfl, rfl, rfl, trivial⟩))) ?_;rintro c4 x h;simp only [kI] at h;refine aC (aA (to (scm rfl rfl rfl) (aB (aC ?_))));refine tih h (fun b0 h => ?_) (fun b0 h => ?_)
      ·refine aU (aC (aX (aC (aA ?_))));obtain ⟨G, b2, h⟩ := bns h;refine to (six rfl rfl fO.of (aV aJ b2)) (to (qF (aJ G) rfl mB) ?_);refine bB rfl (cK (zs := [.j 0, .j 0, .j 0, .j 0, .j 0]) (aF rfl) Tryz.zeroValue67 rfl rfl) ?_;rintro _ ⟨c5, rfl⟩;refine to (sst 2 rfl rfl Tryz.sizeOf67 (aJ G)) (aB (aC (aA (tfl 2 rfl rfl mF rfl aO (to (scm rfl rfl rfl) (tm (.b (decide (G.Kind = 5))) ?_))))));obtain ⟨b3, y, h⟩ := bns h;refine aW 6 [1, 3, 6, 76, 77, 78] 91 b3 ?_ ?_
       ·refine bch y (fun c y => ?_) (fun c y => ?_)
        ·refine tk c (sm (.d (.lit w5))) (tkl 2 c rfl rfl nG rfl aO ?_);obtain ⟨b4, b5, y⟩ := bns y;refine tk c (sc Tryz.call60 (fB _ _ b5) (.cons (.d (nX 1 rfl (cV (f := aL) fun _ => rfl))) (.cons (.same _) .nil))) (tk c (sn rfl) (to (spt (.b (!b4)) c) ?_));obtain rfl := sIn y;refine aB (aK rfl ⟨rfl, rfl, rfl, rfl, rfl, rfl, trivial⟩ rfl)
        ·refine tp c (tp c (tp c (tp c (tp c (to (spf Z3 c) ?_)))));obtain rfl := sIn y;refine aB (aK rfl ⟨rfl, rfl, rfl, rfl, rfl, rfl, trivial⟩ rfl)
       ·refine aB ?_;refine tih h (fun b6 h => ?_) (fun b6 h => ?_)
        ·refine aC (aA (ta Z3 (aB ?_)));obtain rfl := sIn h;refine bL (bC (bE (l := [2]) ⟨rfl, trivial⟩)) ?_;exact rt
        ·refine cL ?_;refine aA (to (sar rfl rfl rfl) (tm (.i (w64 (x + 1))) (aB ?_)));exact ⟨(w64 (x + 1)), h, aN [0, 1] rfl rfl (aH rfl (aM ⟨rfl, rfl, rfl, rfl, rfl, trivial⟩))⟩
      ·refine bQ ?_;refine .inl ⟨rfl, ?_⟩;simp only [oZ] at h;refine aC (aA (ta (.fn 79 []) (aB (aC (aA (ta (.fn 80 []) (aB (aC (aA (tm (.d (.sl 1 (A.map aL))) (tfl 0 rfl rfl sS rfl xL (tm (.fn 79 []) ?_))))))))))));obtain ⟨b7, b8, h⟩ := bns h;refine to (scr Tryz.call81 (aBs _ _ _ 79 [] Tryz.call79 (fun _ _ h => aHq _ h) b8)) (tm (.b b7) ?_);obtain ⟨J, p, h⟩ := bns h;refine aW 6 [] 104 J ?_ ?_
       ·refine bch p (fun e p => ?_) (fun e p => ?_)
        ·refine tk e (sm (.d (.sl 1 (A.map aL)))) (tkl 0 e rfl rfl yD rfl aDj (tk e (sm (.fn 80 [])) ?_));obtain ⟨b9, c0, p⟩ := bns p;refine tk e (scr Tryz.call82 (aBt _ _ _ 80 [] Tryz.call80 (fun _ _ p => aHr _ p) c0)) (to (spt (.b b9) e) ?_);obtain rfl := sIn p;refine aB (aK rfl trivial rfl)
        ·refine tp e (tp e (tp e (tp e (tp e (to (spf Z3 e) ?_)))));obtain rfl := sIn p;refine aB (aK rfl trivial rfl)
       ·refine ta (.b J) (aB ?_);obtain rfl := sIn h;refine bL (bC (bE (l := [2]) ⟨rfl, trivial⟩)) ?_;exact rt

theorem aBp (a : List aI) {r : (List aI)} (h : lW a = some r) : fP Tryz.prog 93 [.d (.sl 4 (a.map aD))] [] (fun r' o' => ∃ (w0 : Value), r' = .d (.lit w0) ∧ o' = [.arr w0 76 4 (r.map aD)]) := by
 unfold lW at h;refine kA Tryz.func93 rfl (rs := [.tmp 2]) Tryz.results93 Tryz.ntmps93 (Nat.le_of_ble_eq_true rfl) ?_;refine aC (aA (to (iK 76 4 (.inl rfl) (aF rfl)) ?_));refine aB (aC (aC (aA (tm (.d (.sl 4 (a.map aD))) ?_))));refine bB rfl (aLx (aF rfl) rfl rfl Tryz.underlying29) ?_;rintro _ ⟨b2, h3, rfl⟩;refine aB ?_;refine aAi rfl (fun c4 => ?_) (fun c4 => ?_)
 ·obtain rfl := aLi (h3 c4)
  simp [app] at h
  subst h;refine aC (aA (to (iK 76 4 (.inl rfl) (aF rfl)) ?_));refine aB ?_;refine bL (aN [1, 0] rfl rfl (le_refl _)) ?_;exact cI ⟨rfl, _, Z16, Z16, _, .one (.tmp 2 (v := .d Z29) rfl), .refl _, .same _, (.slice none 0 0), rfl, rfl⟩
 ·refine aU (aC (aA ?_));refine bB rfl (aHw (aF rfl) dA rfl rfl (rows := (([] : List aI)).map aD) rfl (cV (f := aD) fun _ => rfl) rfl (by decide)) ?_;rintro _ ⟨v5, rfl⟩;refine tm (.d (.sl 4 (a.map aD))) ?_;obtain ⟨x6, h7, h⟩ := bns h;refine bB rfl (gM (i := 1) (aF rfl) dA rfl rfl rfl (fun _ => rfl) h7 rfl) ?_;rintro _ ⟨v8, rfl⟩;refine ta (.d (.lit v8)) (aB ?_);obtain rfl := sIn h;refine bL (aN [1, 0] rfl rfl (le_refl _)) ?_;exact cI ⟨rfl, _, [.arr v8 76 4 (x6.map aD)], Z16, _, .one (.tmp 2 (v := .d (.lit v8)) rfl), .refl _, .same _, v8, rfl, rfl⟩

theorem nA (q : List aI) (g : Int) (u : Int) (p : aI → aI → Option Int) {r : (List aI)} {a : Value} (j : Nat) (o : List AV) (y : ∀ args w, (callFunc j args).run Tryz.prog w = .ok (.enter j args) w) (z : ∀ (x0 : aI) (x1 : aI) r, p x0 x1 = some r → Fn Tryz.prog j ([.agg (aD x0), .agg (aD x1)] ++ o) (.i r)) (h : dG q g u p = some r) : fP Tryz.prog 132 [.d (.lit a), .i g, .i u, .fn j o] (Z22 a q) (fun r' o' => r' = .tup [] ∧ o' = [.arr a 76 4 (r.map aD)]) := by
 unfold dG at h;refine tJ Tryz.func132 rfl (rs := []) Tryz.results132 Tryz.ntmps132 (Nat.le_of_ble_eq_true rfl) ?_;refine aC (aA (tm (.i g) (to (sar rfl rfl rfl) (ta (.i (w64 (g + 1))) (aB (aX ?_))))));refine bP (S := Int × (List aI)) [1, 2, 3] (fun s1 => [(0, .d (.lit a)), (8, .i s1.1)]) (fun s1 => [.arr a 76 4 (s1.2.map aD)]) (fun k s1 => cF g u p k s1.1 s1.2) (fun _ => rfl) (w64 (g + 1), q) h (aN [0] rfl rfl (aH rfl (aH rfl (aM ⟨rfl, rfl, rfl, trivial⟩)))) ?_;rintro k2 ⟨n, s⟩ h;simp only [cF] at h;refine aC (aC (aA (tm (.i n) (tm (.i u) (to (scm rfl rfl rfl) (aB ?_))))));refine tih h (fun c3 h => ?_) (fun c3 h => ?_)
 ·refine aU (aC (aX (aC (aA (tm (.i n) (ta (.i n) (aB ?_)))))));refine tN ?_;refine bP (S := Int × (List aI)) [1, 2, 3, 8] (fun s4 => [(0, .d (.lit a)), (9, .i s4.1)]) (fun s4 => [.arr a 76 4 (s4.2.map aD)]) (fun k s4 => cR (cF g u p k2) g u p n k s4.1 s4.2) (fun _ => rfl) (n, s) h (aN [0] rfl rfl (aH rfl (aH rfl (aM ⟨rfl, rfl, rfl, rfl, trivial⟩)))) ?_;rintro k5 ⟨c, f⟩ h;simp only [cR] at h;refine aC (aC ?_);obtain ⟨b6, h7, h⟩ := bns h;refine cN mix 17 [0, 1, 2, 3, 8, 9] [(34, .b b6)] ?_ ?_
  ·refine bch h7 (fun c8 h7 => ?_) (fun c8 h7 => ?_)
   ·obtain ⟨x9, A, h7⟩ := bns h7;obtain ⟨B, C, h7⟩ := bns h7;obtain ⟨x, I, h7⟩ := bns h7;obtain rfl := sIn h7;refine ⟨[(18, 0, .i c), (19, 1, .i g), (20, 2, .b (decide (g < c))), (21, 3, .b (decide (g < c))), (22, 4, .fn j o), (23, 5, .d (.lit a)), (24, 6, .i c), (25, 7, .ep a 4 c.toNat 0), (26, 8, .agg (aD x9)), (27, 9, .d (.lit a)), (28, 10, .i c), (29, 11, .i (w64 (c - 1))), (30, 12, .ep a 4 (w64 (c - 1)).toNat 0), (31, 13, .agg (aD B)), (32, 14, .i x), (33, 15, .b (decide (x < 0))), (34, 16, .b (decide (x < 0)))], ?_, ?_⟩
    · exact dk [0, 0, 102, 3, 4, 4, 4, 40607, 408, 4, 4, 411, 41012, 413, 4050914, 415, 416] ⟨go (zm (.i c)),
      go (zm (.i g)),
      go (zcm rfl rfl rfl),
      go (zm (.b (decide (g < c)))),
      gt c8 (zm (.fn j o)),
      gt c8 (zm (Z19 a)),
      gt c8 (zm (.i c)),
      gt c8 (zia 0 rfl rfl rfl dA.of (aV aD A)),
      gt c8 fun S hS => dX (aF rfl) (bF hS rfl) (l := 0) rfl (dM aD A) gO (es := (aD x9)) rfl rfl,
      gt c8 (zm (Z19 a)),
      gt c8 (zm (.i c)),
      gt c8 (zar rfl rfl rfl),
      gt c8 (zia 0 rfl rfl rfl dA.of (aV aD C)),
      gt c8 fun S hS => dX (aF rfl) (bF hS rfl) (l := 0) rfl (dM aD C) gO (es := (aD B)) rfl rfl,
      gt c8 fun S hS => fW (aF rfl) (.clo _ _ _ _ y (aLm hS rfl)) (aAx (ev2 (bF hS rfl) (ev2 (bF hS rfl) evn))) rfl (BVs.refl _ _) (z _ _ _  I) rfl,
      gt c8 (zcm rfl rfl rfl),
      go (zpt (.b (decide (x < 0))) c8), trivial⟩
    · exact cC (aH rfl (aM ⟨rfl, rfl, rfl, rfl, rfl, rfl, trivial⟩))
   ·obtain rfl := sIn h7;refine ⟨[(18, 0, .i c), (19, 1, .i g), (20, 2, .b (decide (g < c))), (21, 3, .b (decide (g < c))), (22, 4, .tup []), (23, 5, .tup []), (24, 6, .tup []), (25, 7, .tup []), (26, 8, .tup []), (27, 9, .tup []), (28, 10, .tup []), (29, 11, .tup []), (30, 12, .tup []), (31, 13, .tup []), (32, 14, .tup []), (33, 15, .tup []), (34, 16, .b false)], ?_, ?_⟩
    · exact dk [0, 0, 102, 3, 4, 4, 4, 40607, 408, 4, 4, 411, 41012, 413, 4050914, 415, 416] ⟨go (zm (.i c)),
      go (zm (.i g)),
      go (zcm rfl rfl rfl),
      go (zm (.b (decide (g < c)))),
      gp c8,
      gp c8,
      gp c8,
      gp c8,
      gp c8,
      gp c8,
      gp c8,
      gp c8,
      gp c8,
      gp c8,
      gp c8,
      gp c8,
      go (zpf Z3 c8), trivial⟩
    · exact cC (aH rfl (aM ⟨rfl, rfl, rfl, rfl, rfl, rfl, trivial⟩))
  ·refine aB ?_;refine tih h (fun J h => ?_) (fun J h => ?_)
   ·refine aU (aC (aX ?_));obtain ⟨t, E, h⟩ := bns h;obtain ⟨v, F, h⟩ := bns h;obtain ⟨K, G, h⟩ := bns h;refine vD mix 16 [0, 1, 2, 3, 8, 9] (fun e => [(39, .d (.lit a)), (41, .i (w64 (c - 1))), (50, .agg (aD v))]) (fun e => [.arr a 76 4 ((f.set c.toNat t).map aD)]) ?_ ?_
    ·refine ⟨0, fun e => [(37, 0, .d (.lit a)), (38, 1, .i c), (39, 2, .d (.lit a)), (40, 3, .i c), (41, 4, .i (w64 (c - 1))), (42, 5, .d (.lit a)), (43, 6, .i c), (44, 7, .i (w64 (c - 1))), (45, 8, .ep a 4 (w64 (c - 1)).toNat 0), (46, 9, .agg (aD t)), (47, 10, .d (.lit a)), (48, 11, .i c), (49, 12, .ep a 4 c.toNat 0), (50, 13, .agg (aD v)), (51, 14, .ep a 4 c.toNat 0)], fun e => [([(15, .arr a 76 4 ((f.set c.toNat t).map aD))], .arr a 76 4 (f.map aD))], ?_, ?_⟩
     · exact xok [(0, 16), (0, 16), (0, 0), (0, 0), (4, 0), (0, 16), (0, 16), (7, 16), (608, 16), (9, 16), (0, 16), (0, 16), (1112, 16), (13, 16), (102, 16), (1015, 0)] ⟨fun e S w _ k => xp w (ym k (Z19 a)),
      fun e S w _ k => xp w (ym k (.i c)),
      fun e S w _ k => xp w (ym k (Z19 a)),
      fun e S w _ k => xp w (ym k (.i c)),
      fun e S w _ k => xp w (yar k rfl rfl rfl),
      fun e S w _ k => xp w (ym k (Z19 a)),
      fun e S w _ k => xp w (ym k (.i c)),
      fun e S w _ k => xp w (yar k rfl rfl rfl),
      fun e S w _ k => xp w (yia k 0 rfl (og k rfl rfl) rfl dA.of (aV aD E)),
      fun e S w _ k => xp w (dX (aF rfl) (bF k rfl) (l := 0) (og k rfl rfl) (dM aD E) gO (es := (aD t)) rfl rfl),
      fun e S w _ k => xp w (ym k (Z19 a)),
      fun e S w _ k => xp w (ym k (.i c)),
      fun e S w _ k => xp w (yia k 0 rfl (og k rfl rfl) rfl dA.of (aV aD F)),
      fun e S w _ k => xp w (dX (aF rfl) (bF k rfl) (l := 0) (og k rfl rfl) (dM aD F) gO (es := (aD v)) rfl rfl),
      fun e S w _ k => xp w (yia k 0 rfl (og k rfl rfl) rfl dA.of (aV aD G)),
      fun e S w _ k => xs 0 k rfl rfl (lC (l := 0) (bF k rfl) (og k rfl rfl) (dM aD G) (bF k rfl) rfl rfl Tryz.sizeOf76 rfl (aF rfl) (Nat.le_of_ble_eq_true rfl) (rows' := ((f.set c.toNat t)).map aD) (rX _ _ _ _ rfl)), trivial⟩
     · exact fun e => cC (aH rfl (aH rfl (aH rfl (aM ⟨rfl, rfl, rfl, rfl, rfl, rfl, trivial⟩))))
    ·intro e;obtain ⟨L, H, h⟩ := bns h;refine to (iB (m := 0) (aF rfl) rfl rfl rfl dA.of (aV aD H)) ?_;refine to (lC (l := 0) rfl rfl (dM aD H) rfl rfl rfl Tryz.sizeOf76 rfl (aF rfl) (Nat.le_of_ble_eq_true rfl) (rows' := (((f.set c.toNat t).set (w64 (c - 1)).toNat v)).map aD) (rX _ _ _ _ rfl)) ?_;refine cM ?_;refine aA (tm (.i c) (to (sar rfl rfl rfl) (ta (.i (w64 (c - 1))) (aB ?_))));exact ⟨(w64 (c - 1), ((f.set c.toNat t).set (w64 (c - 1)).toNat v)), h, aN [0] rfl rfl (aH rfl (aH rfl (aM ⟨rfl, rfl, rfl, rfl, trivial⟩)))⟩
   ·refine bQ ?_;refine .inl ⟨rfl, ?_⟩;simp only [gD] at h;simp only [gC] at h;refine aA (tm (.i n) (to (sar rfl rfl rfl) (ta (.i (w64 (n + 1))) (aB ?_))));exact ⟨(w64 (n + 1), f), h, aN [0] rfl rfl (aH rfl (aH rfl (aM ⟨rfl, rfl, rfl, trivial⟩)))⟩
 ·refine bQ ?_;refine .inl ⟨rfl, ?_⟩;simp only [gB] at h;obtain rfl := sIn h;exact ⟨_, [.arr a 76 4 (s.map aD)], [], _, .none, .refl _, .same _, rfl, rfl⟩

theorem kJ (j : List aI) (e : Int) (f : Int) (o : Int) (p : aI → aI → Option Int) {r : (List aI)} {a : Value} (g : Nat) (n : List AV) (t : ∀ args w, (callFunc g args).run Tryz.prog w = .ok (.enter g args) w) (u : ∀ (x0 : aI) (x1 : aI) r, p x0 x1 = some r → Fn Tryz.prog g ([.agg (aD x0), .agg (aD x1)] ++ n) (.i r)) (h : eF j e f o p = some r) : fP Tryz.prog 142 [.d (.lit a), .i e, .i f, .i o, .fn g n] (Z22 a j) (fun r' o' => r' = .tup [] ∧ o' = [.arr a 76 4 (r.map aD)]) := by
 unfold eF at h;refine tJ Tryz.func142 rfl (rs := []) Tryz.results142 Tryz.ntmps142 (Nat.le_of_ble_eq_true rfl) ?_;refine aC (aA (ta (.i 0) (aB (aX ?_))));refine bP (S := Int × (List aI)) [1, 2, 3] (fun s1 => [(0, .d (.lit a)), (10, .i s1.1)]) (fun s1 => [.arr a 76 4 (s1.2.map aD)]) (fun k s1 => dQ e f o k s1.1 s1.2) (fun _ => rfl) (0, j) h (aN [0] rfl rfl (aH rfl (aH rfl (aM ⟨rfl, rfl, rfl, trivial⟩)))) ?_;rintro k2 ⟨b, c⟩ h;simp only [dQ] at h;refine aC (aC (aA (tm (.i b) (tm (.i o) (to (scm rfl rfl rfl) (aB ?_))))));refine tih h (fun c3 h => ?_) (fun c3 h => ?_)
 ·refine aU (aC (aX ?_));obtain ⟨x5, h6, h⟩ := bns h;obtain ⟨x7, h8, h⟩ := bns h;obtain ⟨x9, q, h⟩ := bns h;refine vD mix 22 [0, 1, 2, 3, 10] (fun X4 => [(20, .d (.lit a)), (23, .i (w64 (f + b))), (35, .agg (aD x7))]) (fun X4 => [.arr a 76 4 ((c.set (w64 (e + b)).toNat x5).map aD)]) ?_ ?_
  ·refine ⟨0, fun X4 => [(16, 0, .d (.lit a)), (17, 1, .i e), (18, 2, .i b), (19, 3, .i (w64 (e + b))), (20, 4, .d (.lit a)), (21, 5, .i f), (22, 6, .i b), (23, 7, .i (w64 (f + b))), (24, 8, .d (.lit a)), (25, 9, .i f), (26, 10, .i b), (27, 11, .i (w64 (f + b))), (28, 12, .ep a 4 (w64 (f + b)).toNat 0), (29, 13, .agg (aD x5)), (30, 14, .d (.lit a)), (31, 15, .i e), (32, 16, .i b), (33, 17, .i (w64 (e + b))), (34, 18, .ep a 4 (w64 (e + b)).toNat 0), (35, 19, .agg (aD x7)), (36, 20, .ep a 4 (w64 (e + b)).toNat 0)], fun X4 => [([(21, .arr a 76 4 ((c.set (w64 (e + b)).toNat x5).map aD))], .arr a 76 4 (c.map aD))], ?_, ?_⟩
   · exact xok [(0, 22), (0, 22), (0, 22), (203, 22), (0, 0), (0, 0), (0, 0), (607, 0), (0, 22), (0, 22), (0, 22), (1011, 22), (912, 22), (13, 22), (0, 22), (0, 22), (0, 22), (1617, 22), (1518, 22), (19, 22), (104, 22), (1421, 0)] ⟨fun X4 S w _ k => xp w (ym k (Z19 a)),
      fun X4 S w _ k => xp w (ym k (.i e)),
      fun X4 S w _ k => xp w (ym k (.i b)),
      fun X4 S w _ k => xp w (yar k rfl rfl rfl),
      fun X4 S w _ k => xp w (ym k (Z19 a)),
      fun X4 S w _ k => xp w (ym k (.i f)),
      fun X4 S w _ k => xp w (ym k (.i b)),
      fun X4 S w _ k => xp w (yar k rfl rfl rfl),
      fun X4 S w _ k => xp w (ym k (Z19 a)),
      fun X4 S w _ k => xp w (ym k (.i f)),
      fun X4 S w _ k => xp w (ym k (.i b)),
      fun X4 S w _ k => xp w (yar k rfl rfl rfl),
      fun X4 S w _ k => xp w (yia k 0 rfl (og k rfl rfl) rfl dA.of (aV aD h6)),
      fun X4 S w _ k => xp w (dX (aF rfl) (bF k rfl) (l := 0) (og k rfl rfl) (dM aD h6) gO (es := (aD x5)) rfl rfl),
      fun X4 S w _ k => xp w (ym k (Z19 a)),
      fun X4 S w _ k => xp w (ym k (.i e)),
      fun X4 S w _ k => xp w (ym k (.i b)),
      fun X4 S w _ k => xp w (yar k rfl rfl rfl),
      fun X4 S w _ k => xp w (yia k 0 rfl (og k rfl rfl) rfl dA.of (aV aD h8)),
      fun X4 S w _ k => xp w (dX (aF rfl) (bF k rfl) (l := 0) (og k rfl rfl) (dM aD h8) gO (es := (aD x7)) rfl rfl),
      fun X4 S w _ k => xp w (yia k 0 rfl (og k rfl rfl) rfl dA.of (aV aD q)),
      fun X4 S w _ k => xs 0 k rfl rfl (lC (l := 0) (bF k rfl) (og k rfl rfl) (dM aD q) (bF k rfl) rfl rfl Tryz.sizeOf76 rfl (aF rfl) (Nat.le_of_ble_eq_true rfl) (rows' := ((c.set (w64 (e + b)).toNat x5)).map aD) (rX _ _ _ _ rfl)), trivial⟩
   · exact fun X4 => cC (aH rfl (aH rfl (aH rfl (aM ⟨rfl, rfl, rfl, rfl, rfl, trivial⟩))))
  ·intro X4;obtain ⟨v, s, h⟩ := bns h;refine to (iB (m := 0) (aF rfl) rfl rfl rfl dA.of (aV aD s)) ?_;refine to (lC (l := 0) rfl rfl (dM aD s) rfl rfl rfl Tryz.sizeOf76 rfl (aF rfl) (Nat.le_of_ble_eq_true rfl) (rows' := (((c.set (w64 (e + b)).toNat x5).set (w64 (f + b)).toNat x7)).map aD) (rX _ _ _ _ rfl)) ?_;refine cM ?_;refine aA (tm (.i b) (to (sar rfl rfl rfl) (ta (.i (w64 (b + 1))) (aB ?_))));exact ⟨(w64 (b + 1), ((c.set (w64 (e + b)).toNat x5).set (w64 (f + b)).toNat x7)), h, aN [0] rfl rfl (aH rfl (aH rfl (aM ⟨rfl, rfl, rfl, trivial⟩)))⟩
 ·refine bQ ?_;refine .inl ⟨rfl, ?_⟩;simp only [kC] at h;obtain rfl := sIn h;exact ⟨_, [.arr a 76 4 (c.map aD)], [], _, .none, .refl _, .same _, rfl, rfl⟩

theorem qE (o : List aI) (p : Int) (f : Int) (q : Int) (l : aI → aI → Option Int) {r : (List aI)} {b : Value} (c : Nat) (g : List AV) (m : ∀ args w, (callFunc c args).run Tryz.prog w = .ok (.enter c args) w) (n : ∀ (x0 : aI) (x1 : aI) r, l x0 x1 = some r → Fn Tryz.prog c ([.agg (aD x0), .agg (aD x1)] ++ g) (.i r)) (h : fN o p f q l = some r) : fP Tryz.prog 140 [.d (.lit b), .i p, .i f, .i q, .fn c g] (Z22 b o) (fun r' o' => r' = .tup [] ∧ o' = [.arr b 76 4 (r.map aD)]) := by
 unfold fN at h;refine tJ Tryz.func140 rfl (rs := []) Tryz.results140 Tryz.ntmps140 (Nat.le_of_ble_eq_true rfl) ?_;refine aC (aA (tm (.i f) (tm (.i p) (to (sar rfl rfl rfl) (ta (.i (w64 (f - p))) (aB (aC (aA (tm (.i q) (tm (.i f) (to (sar rfl rfl rfl) (ta (.i (w64 (q - f))) (aB ?_)))))))))))));refine aC (aX ?_);refine bP (S := Int × Int × (List aI)) [2, 4] (fun s1 => [(0, .d (.lit b)), (10, .i s1.1), (11, .i s1.2.1)]) (fun s1 => [.arr b 76 4 (s1.2.2.map aD)]) (fun k s1 => cY f l k s1.1 s1.2.1 s1.2.2) (fun _ => rfl) (w64 (f - p), w64 (q - f), o) h (aN [0] rfl rfl (aH rfl (aH rfl (aH rfl (aM ⟨rfl, rfl, trivial⟩))))) ?_;rintro k2 ⟨a, e, j⟩ h;simp only [cY] at h;refine aC (aC (aA (tm (.i a) (tm (.i e) (to (scm rfl rfl rfl) (aB ?_))))));refine tih h (fun c3 h => ?_) (fun c3 h => ?_)
 ·refine aU (aX (aC (aA (tm (.i a) (tm (.i e) (to (scm rfl rfl rfl) (aB ?_)))))));refine tih h (fun c4 h => ?_) (fun c4 h => ?_)
  ·refine aC (aA (tm (Z19 b) (tm (.i f) (tm (.i a) (to (sar rfl rfl rfl) (tm (.i f) (tm (.i e) (tm (.fn c g) ?_))))))));obtain ⟨r5, h6, h⟩ := bns h;refine bB rfl (eZ (passed := [.arr b 76 4 (j.map aD)]) (aF rfl) rfl (.func _ _ Tryz.call142) rfl rfl (kJ j (w64 (f - a)) f e l c g m n h6)) ?_;rintro _ ⟨_, _, ⟨rfl, rfl⟩, rfl⟩;refine aB (aA (tm (.i a) (tm (.i e) (to (sar rfl rfl rfl) (ta (.i (w64 (a - e))) ?_)))));refine cM ?_;exact ⟨(w64 (a - e), e, r5), h, aN [0] rfl rfl (aH rfl (aH rfl (aH rfl (aM ⟨rfl, rfl, trivial⟩))))⟩
  ·refine aC (aA (tm (Z19 b) (tm (.i f) (tm (.i a) (to (sar rfl rfl rfl) (tm (.i f) (tm (.i e) (to (sar rfl rfl rfl) (tm (.i a) (to (sar rfl rfl rfl) (tm (.i a) (tm (.fn c g) ?_))))))))))));obtain ⟨r7, h8, h⟩ := bns h;refine bB rfl (eZ (passed := [.arr b 76 4 (j.map aD)]) (aF rfl) rfl (.func _ _ Tryz.call142) rfl rfl (kJ j (w64 (f - a)) (w64 ((w64 (f + e)) - a)) a l c g m n h8)) ?_;rintro _ ⟨_, _, ⟨rfl, rfl⟩, rfl⟩;refine aB (aA (tm (.i e) (tm (.i a) (to (sar rfl rfl rfl) (ta (.i (w64 (e - a))) ?_)))));refine cM ?_;exact ⟨(a, w64 (e - a), r7), h, aN [0] rfl rfl (aH rfl (aH rfl (aH rfl (aM ⟨rfl, rfl, trivial⟩))))⟩
 ·refine bQ ?_;refine .inl ⟨rfl, ?_⟩;simp only [lI] at h;refine aA (tm (Z19 b) (tm (.i f) (tm (.i a) (to (sar rfl rfl rfl) (tm (.i f) (tm (.i a) (tm (.fn c g) ?_)))))));obtain ⟨r9, s, h⟩ := bns h;refine bB rfl (eZ (passed := [.arr b 76 4 (j.map aD)]) (aF rfl) rfl (.func _ _ Tryz.call142) rfl rfl (kJ j (w64 (f - a)) f a l c g m n s)) ?_;rintro _ ⟨_, _, ⟨rfl, rfl⟩, rfl⟩;refine aB ?_;obtain rfl := sIn h;exact ⟨_, [.arr b 76 4 (r9.map aD)], [], _, .none, .refl _, .same _, rfl, rfl⟩

theorem vN (z : aI → aI → Option Int) (n : Nat) (o : List AV) (G : ∀ args w, (callFunc n args).run Tryz.prog w = .ok (.enter n args) w) (H : ∀ (x0 : aI) (x1 : aI) r, z x0 x1 = some r → Fn Tryz.prog n ([.agg (aD x0), .agg (aD x1)] ++ o) (.i r)) (kr : Nat) : ∀ (p : List aI) (g : Int) (j : Int) (f : Int) {r : (List aI)} {a : Value} (_h : bD z kr p g j f = some r), fP Tryz.prog 133 [.d (.lit a), .i g, .i j, .i f, .fn n o] [.arr a 76 4 (p.map aD)] (fun r' o' => r' = .tup [] ∧ o' = [.arr a 76 4 (r.map aD)]) := by
  induction kr with
  | zero => intros; rename_i h; cases h
  | succ kr ih =>
    intro p g j f r a h;simp only [bD] at h;refine tJ Tryz.func133 rfl (rs := []) Tryz.results133 Tryz.ntmps133 (Nat.le_of_ble_eq_true rfl) ?_;refine aC (aC (aA (tm (.i j) (tm (.i g) (to (sar rfl rfl rfl) (to (scm rfl rfl rfl) (aB ?_)))))));refine tih h (fun c1 h => ?_) (fun c1 h => ?_)
    ·refine aC (aA (tm (.i j) (ta (.i j) (aB (aC (aA (tm (.i f) (ta (.i f) (aB (aC (aX ?_)))))))))));refine bP (S := Int × Int) [0, 1, 4] (fun s2 => [(10, .i s2.1), (11, .i s2.2)]) (fun s2 => [.arr a 76 4 (p.map aD)]) (fun k s2 => cO (bD z kr) g z p k s2.1 s2.2) (fun _ => rfl) (j, f) h (aN [0] rfl rfl (aH rfl (aH rfl (aM ⟨rfl, rfl, rfl, trivial⟩)))) ?_;rintro k3 ⟨y, C⟩ h;simp only [cO] at h;refine aC (aC (aA (tm (.i y) (tm (.i C) (to (scm rfl rfl rfl) (aB ?_))))));refine tih h (fun c4 h => ?_) (fun c4 h => ?_)
     ·refine aU (aX (aC (aA (tm (.i y) (tm (.i C) (to (sar rfl rfl rfl) (to (qN (aF rfl) rfl Tryz.runUnderlying3 Tryz.runUnderlying113) ?_)))))));refine to (aAf (aF rfl) rfl rfl (by decide)) ?_;refine to (qN (aF rfl) rfl Tryz.runUnderlying113 Tryz.runUnderlying3) ?_;refine ta (.i (w64 ((uw (w64 (y + C))).fdiv (2 ^ Z0)))) (aB (aC ?_));obtain ⟨x5, h6, h⟩ := bns h;obtain ⟨x7, h8, h⟩ := bns h;refine cN mix 9 [0, 1, 4, 10, 11, 12] [(40, .fn n o), (44, .agg (aD x5)), (48, .agg (aD x7))] ?_ ?_
      ·refine ⟨[(40, 0, .fn n o), (41, 1, .d (.lit a)), (42, 2, .i (w64 ((uw (w64 (y + C))).fdiv (2 ^ Z0)))), (43, 3, .ep a 4 (w64 ((uw (w64 (y + C))).fdiv (2 ^ Z0))).toNat 0), (44, 4, .agg (aD x5)), (45, 5, .d (.lit a)), (46, 6, .i g), (47, 7, .ep a 4 g.toNat 0), (48, 8, .agg (aD x7))], ?_, ?_⟩
       · exact dk [0, 0, 0, 203, 4, 0, 0, 607, 8] ⟨go (zm (.fn n o)),
      go (zm (.d (.lit a))),
      go (zm (.i (w64 ((uw (w64 (y + C))).fdiv (2 ^ Z0))))),
      go (zia 0 rfl rfl rfl dA.of (aV aD h6)),
      go fun S hS => dX (aF rfl) (bF hS rfl) (l := 0) rfl (dM aD h6) gO (es := (aD x5)) rfl rfl,
      go (zm (.d (.lit a))),
      go (zm (.i g)),
      go (zia 0 rfl rfl rfl dA.of (aV aD h8)),
      go fun S hS => dX (aF rfl) (bF hS rfl) (l := 0) rfl (dM aD h8) gO (es := (aD x7)) rfl rfl, trivial⟩
       · exact cC (aH rfl (aH rfl (aH rfl (aM ⟨rfl, rfl, rfl, rfl, rfl, rfl, trivial⟩))))
      ·obtain ⟨r9, h9, h⟩ := bns h;refine to (fW (aF rfl) (.clo _ _ _ _ G rfl) (aAx rfl) rfl (BVs.refl _ _) (H _ _ _  h9) rfl) ?_;refine to (scm rfl rfl rfl) (aB ?_);refine tih h (fun i0 h => ?_) (fun i0 h => ?_)
       ·refine aA (tm (.i (w64 ((uw (w64 (y + C))).fdiv (2 ^ Z0)))) (to (sar rfl rfl rfl) (ta (.i (w64 ((w64 ((uw (w64 (y + C))).fdiv (2 ^ Z0))) + 1))) ?_)));refine cM ?_;exact ⟨(w64 ((w64 ((uw (w64 (y + C))).fdiv (2 ^ Z0))) + 1), C), h, aN [0] rfl rfl (aH rfl (aH rfl (aM ⟨rfl, rfl, rfl, trivial⟩)))⟩
       ·refine aA (tm (.i (w64 ((uw (w64 (y + C))).fdiv (2 ^ Z0)))) (ta (.i (w64 ((uw (w64 (y + C))).fdiv (2 ^ Z0)))) ?_));refine cM ?_;exact ⟨(y, w64 ((uw (w64 (y + C))).fdiv (2 ^ Z0))), h, aN [0] rfl rfl (aH rfl (aH rfl (aM ⟨rfl, rfl, rfl, trivial⟩)))⟩
     ·refine bQ ?_;refine .inl ⟨rfl, ?_⟩;simp only [iL] at h;refine aC (aC (aA (tm (.i g) (ta (.i g) (aB (aX ?_))))));refine bP (S := Int × (List aI)) [10] (fun a9 => [(0, .d (.lit a)), (13, .i a9.1)]) (fun a9 => [.arr a 76 4 (a9.2.map aD)]) (fun k a9 => dT (bD z kr) y k a9.1 a9.2) (fun _ => rfl) (g, p) h (aN [0] rfl rfl (aH rfl (aH rfl (aM ⟨rfl, trivial⟩)))) ?_;rintro l9 ⟨q, A⟩ h;simp only [dT] at h;refine aC (aC (aA (tm (.i q) (tm (.i y) (to (sar rfl rfl rfl) (to (scm rfl rfl rfl) (aB ?_)))))));refine tih h (fun i1 h => ?_) (fun i1 h => ?_)
      ·refine aU (aC (aX ?_));obtain ⟨Z, d7, h⟩ := bns h;obtain ⟨b3, d8, h⟩ := bns h;obtain ⟨m0, d9, h⟩ := bns h;refine vD mix 16 [0, 10, 13] (fun E => [(63, .d (.lit a)), (65, .i (w64 (q + 1))), (74, .agg (aD b3))]) (fun E => [.arr a 76 4 ((A.set q.toNat Z).map aD)]) ?_ ?_
       ·refine ⟨0, fun E => [(61, 0, .d (.lit a)), (62, 1, .i q), (63, 2, .d (.lit a)), (64, 3, .i q), (65, 4, .i (w64 (q + 1))), (66, 5, .d (.lit a)), (67, 6, .i q), (68, 7, .i (w64 (q + 1))), (69, 8, .ep a 4 (w64 (q + 1)).toNat 0), (70, 9, .agg (aD Z)), (71, 10, .d (.lit a)), (72, 11, .i q), (73, 12, .ep a 4 q.toNat 0), (74, 13, .agg (aD b3)), (75, 14, .ep a 4 q.toNat 0)], fun E => [([(15, .arr a 76 4 ((A.set q.toNat Z).map aD))], .arr a 76 4 (A.map aD))], ?_, ?_⟩
        · exact xok [(0, 16), (0, 16), (0, 0), (0, 0), (4, 0), (0, 16), (0, 16), (7, 16), (608, 16), (9, 16), (0, 16), (0, 16), (1112, 16), (13, 16), (102, 16), (1015, 0)] ⟨fun E S w _ k => xp w (ym k (.d (.lit a))),
      fun E S w _ k => xp w (ym k (.i q)),
      fun E S w _ k => xp w (ym k (.d (.lit a))),
      fun E S w _ k => xp w (ym k (.i q)),
      fun E S w _ k => xp w (yar k rfl rfl rfl),
      fun E S w _ k => xp w (ym k (.d (.lit a))),
      fun E S w _ k => xp w (ym k (.i q)),
      fun E S w _ k => xp w (yar k rfl rfl rfl),
      fun E S w _ k => xp w (yia k 0 rfl (og k rfl rfl) rfl dA.of (aV aD d7)),
      fun E S w _ k => xp w (dX (aF rfl) (bF k rfl) (l := 0) (og k rfl rfl) (dM aD d7) gO (es := (aD Z)) rfl rfl),
      fun E S w _ k => xp w (ym k (.d (.lit a))),
      fun E S w _ k => xp w (ym k (.i q)),
      fun E S w _ k => xp w (yia k 0 rfl (og k rfl rfl) rfl dA.of (aV aD d8)),
      fun E S w _ k => xp w (dX (aF rfl) (bF k rfl) (l := 0) (og k rfl rfl) (dM aD d8) gO (es := (aD b3)) rfl rfl),
      fun E S w _ k => xp w (yia k 0 rfl (og k rfl rfl) rfl dA.of (aV aD d9)),
      fun E S w _ k => xs 0 k rfl rfl (lC (l := 0) (bF k rfl) (og k rfl rfl) (dM aD d9) (bF k rfl) rfl rfl Tryz.sizeOf76 rfl (aF rfl) (Nat.le_of_ble_eq_true rfl) (rows' := ((A.set q.toNat Z)).map aD) (rX _ _ _ _ rfl)), trivial⟩
        · exact fun E => cC (aH rfl (aH rfl (aH rfl (aM ⟨rfl, rfl, rfl, trivial⟩))))
       ·intro E;obtain ⟨m1, e0, h⟩ := bns h;refine to (iB (m := 0) (aF rfl) rfl rfl rfl dA.of (aV aD e0)) ?_;refine to (lC (l := 0) rfl rfl (dM aD e0) rfl rfl rfl Tryz.sizeOf76 rfl (aF rfl) (Nat.le_of_ble_eq_true rfl) (rows' := (((A.set q.toNat Z).set (w64 (q + 1)).toNat b3)).map aD) (rX _ _ _ _ rfl)) ?_;refine cM ?_;refine aA (tm (.i q) (to (sar rfl rfl rfl) (ta (.i (w64 (q + 1))) (aB ?_))));exact ⟨(w64 (q + 1), ((A.set q.toNat Z).set (w64 (q + 1)).toNat b3)), h, aN [0] rfl rfl (aH rfl (aH rfl (aM ⟨rfl, trivial⟩)))⟩
      ·refine bQ ?_;refine .inl ⟨rfl, ?_⟩;simp only [kK] at h;obtain rfl := sIn h;exact cI ⟨rfl, _, [.arr a 76 4 (A.map aD)], [], _, .none, .refl _, .same _, rfl, rfl⟩
    ·refine aU (aC (aC (aA (tm (.i f) (tm (.i j) (to (sar rfl rfl rfl) (to (scm rfl rfl rfl) (aB ?_))))))));refine tih h (fun i2 h => ?_) (fun i2 h => ?_)
     ·refine aC (aA (tm (.i g) (ta (.i g) (aB (aC (aA (tm (.i j) (ta (.i j) (aB (aC (aX ?_)))))))))));refine bP (S := Int × Int) [0, 2, 4] (fun b0 => [(14, .i b0.1), (15, .i b0.2)]) (fun b0 => [.arr a 76 4 (p.map aD)]) (fun k b0 => cP (bD z kr) j z p k b0.1 b0.2) (fun _ => rfl) (g, j) h (aN [0] rfl rfl (aH rfl (aH rfl (aM ⟨rfl, rfl, rfl, trivial⟩)))) ?_;rintro m2 ⟨v, x⟩ h;simp only [cP] at h;refine aC (aC (aA (tm (.i v) (tm (.i x) (to (scm rfl rfl rfl) (aB ?_))))));refine tih h (fun i3 h => ?_) (fun i3 h => ?_)
      ·refine aU (aX (aC (aA (tm (.i v) (tm (.i x) (to (sar rfl rfl rfl) (to (qN (aF rfl) rfl Tryz.runUnderlying3 Tryz.runUnderlying113) ?_)))))));refine to (aAf (aF rfl) rfl rfl (by decide)) ?_;refine to (qN (aF rfl) rfl Tryz.runUnderlying113 Tryz.runUnderlying3) ?_;refine ta (.i (w64 ((uw (w64 (v + x))).fdiv (2 ^ Z0)))) (aB (aC ?_));obtain ⟨c9, e1, h⟩ := bns h;obtain ⟨d0, e2, h⟩ := bns h;refine cN mix 9 [0, 2, 4, 14, 15, 16] [(92, .fn n o), (96, .agg (aD c9)), (100, .agg (aD d0))] ?_ ?_
       ·refine ⟨[(92, 0, .fn n o), (93, 1, .d (.lit a)), (94, 2, .i j), (95, 3, .ep a 4 j.toNat 0), (96, 4, .agg (aD c9)), (97, 5, .d (.lit a)), (98, 6, .i (w64 ((uw (w64 (v + x))).fdiv (2 ^ Z0)))), (99, 7, .ep a 4 (w64 ((uw (w64 (v + x))).fdiv (2 ^ Z0))).toNat 0), (100, 8, .agg (aD d0))], ?_, ?_⟩
        · exact dk [0, 0, 0, 203, 4, 0, 0, 607, 8] ⟨go (zm (.fn n o)),
      go (zm (.d (.lit a))),
      go (zm (.i j)),
      go (zia 0 rfl rfl rfl dA.of (aV aD e1)),
      go fun S hS => dX (aF rfl) (bF hS rfl) (l := 0) rfl (dM aD e1) gO (es := (aD c9)) rfl rfl,
      go (zm (.d (.lit a))),
      go (zm (.i (w64 ((uw (w64 (v + x))).fdiv (2 ^ Z0))))),
      go (zia 0 rfl rfl rfl dA.of (aV aD e2)),
      go fun S hS => dX (aF rfl) (bF hS rfl) (l := 0) rfl (dM aD e2) gO (es := (aD d0)) rfl rfl, trivial⟩
        · exact cC (aH rfl (aH rfl (aH rfl (aM ⟨rfl, rfl, rfl, rfl, rfl, rfl, trivial⟩))))
       ·obtain ⟨m3, i4, h⟩ := bns h;refine to (fW (aF rfl) (.clo _ _ _ _ G rfl) (aAx rfl) rfl (BVs.refl _ _) (H _ _ _  i4) rfl) ?_;refine to (scm rfl rfl rfl) (to (sn rfl) (aB ?_));refine tih h (fun i5 h => ?_) (fun i5 h => ?_)
        ·refine aA (tm (.i (w64 ((uw (w64 (v + x))).fdiv (2 ^ Z0)))) (to (sar rfl rfl rfl) (ta (.i (w64 ((w64 ((uw (w64 (v + x))).fdiv (2 ^ Z0))) + 1))) ?_)));refine cM ?_;exact ⟨(w64 ((w64 ((uw (w64 (v + x))).fdiv (2 ^ Z0))) + 1), x), h, aN [0] rfl rfl (aH rfl (aH rfl (aM ⟨rfl, rfl, rfl, trivial⟩)))⟩
        ·refine aA (tm (.i (w64 ((uw (w64 (v + x))).fdiv (2 ^ Z0)))) (ta (.i (w64 ((uw (w64 (v + x))).fdiv (2 ^ Z0)))) ?_));refine cM ?_;exact ⟨(v, w64 ((uw (w64 (v + x))).fdiv (2 ^ Z0))), h, aN [0] rfl rfl (aH rfl (aH rfl (aM ⟨rfl, rfl, rfl, trivial⟩)))⟩
      ·refine bQ ?_;refine .inl ⟨rfl, ?_⟩;simp only [iM] at h;refine aC (aC (aA (tm (.i j) (ta (.i j) (aB (aX ?_))))));refine bP (S := Int × (List aI)) [14] (fun b1 => [(0, .d (.lit a)), (17, .i b1.1)]) (fun b1 => [.arr a 76 4 (b1.2.map aD)]) (fun k b1 => dW (bD z kr) v k b1.1 b1.2) (fun _ => rfl) (j, p) h (aN [0] rfl rfl (aH rfl (aH rfl (aM ⟨rfl, trivial⟩)))) ?_;rintro m4 ⟨s, B⟩ h;simp only [dW] at h;refine aC (aC (aA (tm (.i s) (tm (.i v) (to (scm rfl rfl rfl) (aB ?_))))));refine tih h (fun i6 h => ?_) (fun i6 h => ?_)
       ·refine aU (aC (aX ?_));obtain ⟨a0, e3, h⟩ := bns h;obtain ⟨b4, e4, h⟩ := bns h;obtain ⟨m5, e5, h⟩ := bns h;refine vD mix 16 [0, 14, 17] (fun F => [(115, .d (.lit a)), (117, .i (w64 (s - 1))), (126, .agg (aD b4))]) (fun F => [.arr a 76 4 ((B.set s.toNat a0).map aD)]) ?_ ?_
        ·refine ⟨0, fun F => [(113, 0, .d (.lit a)), (114, 1, .i s), (115, 2, .d (.lit a)), (116, 3, .i s), (117, 4, .i (w64 (s - 1))), (118, 5, .d (.lit a)), (119, 6, .i s), (120, 7, .i (w64 (s - 1))), (121, 8, .ep a 4 (w64 (s - 1)).toNat 0), (122, 9, .agg (aD a0)), (123, 10, .d (.lit a)), (124, 11, .i s), (125, 12, .ep a 4 s.toNat 0), (126, 13, .agg (aD b4)), (127, 14, .ep a 4 s.toNat 0)], fun F => [([(15, .arr a 76 4 ((B.set s.toNat a0).map aD))], .arr a 76 4 (B.map aD))], ?_, ?_⟩
         · exact xok [(0, 16), (0, 16), (0, 0), (0, 0), (4, 0), (0, 16), (0, 16), (7, 16), (608, 16), (9, 16), (0, 16), (0, 16), (1112, 16), (13, 16), (102, 16), (1015, 0)] ⟨fun F S w _ k => xp w (ym k (.d (.lit a))),
      fun F S w _ k => xp w (ym k (.i s)),
      fun F S w _ k => xp w (ym k (.d (.lit a))),
      fun F S w _ k => xp w (ym k (.i s)),
      fun F S w _ k => xp w (yar k rfl rfl rfl),
      fun F S w _ k => xp w (ym k (.d (.lit a))),
      fun F S w _ k => xp w (ym k (.i s)),
      fun F S w _ k => xp w (yar k rfl rfl rfl),
      fun F S w _ k => xp w (yia k 0 rfl (og k rfl rfl) rfl dA.of (aV aD e3)),
      fun F S w _ k => xp w (dX (aF rfl) (bF k rfl) (l := 0) (og k rfl rfl) (dM aD e3) gO (es := (aD a0)) rfl rfl),
      fun F S w _ k => xp w (ym k (.d (.lit a))),
      fun F S w _ k => xp w (ym k (.i s)),
      fun F S w _ k => xp w (yia k 0 rfl (og k rfl rfl) rfl dA.of (aV aD e4)),
      fun F S w _ k => xp w (dX (aF rfl) (bF k rfl) (l := 0) (og k rfl rfl) (dM aD e4) gO (es := (aD b4)) rfl rfl),
      fun F S w _ k => xp w (yia k 0 rfl (og k rfl rfl) rfl dA.of (aV aD e5)),
      fun F S w _ k => xs 0 k rfl rfl (lC (l := 0) (bF k rfl) (og k rfl rfl) (dM aD e5) (bF k rfl) rfl rfl Tryz.sizeOf76 rfl (aF rfl) (Nat.le_of_ble_eq_true rfl) (rows' := ((B.set s.toNat a0)).map aD) (rX _ _ _ _ rfl)), trivial⟩
         · exact fun F => cC (aH rfl (aH rfl (aH rfl (aM ⟨rfl, rfl, rfl, trivial⟩))))
        ·intro F;obtain ⟨m6, e6, h⟩ := bns h;refine to (iB (m := 0) (aF rfl) rfl rfl rfl dA.of (aV aD e6)) ?_;refine to (lC (l := 0) rfl rfl (dM aD e6) rfl rfl rfl Tryz.sizeOf76 rfl (aF rfl) (Nat.le_of_ble_eq_true rfl) (rows' := (((B.set s.toNat a0).set (w64 (s - 1)).toNat b4)).map aD) (rX _ _ _ _ rfl)) ?_;refine cM ?_;refine aA (tm (.i s) (to (sar rfl rfl rfl) (ta (.i (w64 (s - 1))) (aB ?_))));exact ⟨(w64 (s - 1), ((B.set s.toNat a0).set (w64 (s - 1)).toNat b4)), h, aN [0] rfl rfl (aH rfl (aH rfl (aM ⟨rfl, trivial⟩)))⟩
       ·refine bQ ?_;refine .inl ⟨rfl, ?_⟩;simp only [kL] at h;obtain rfl := sIn h;exact cI ⟨rfl, _, [.arr a 76 4 (B.map aD)], [], _, .none, .refl _, .same _, rfl, rfl⟩
     ·refine aU (aC (aA (tm (.i g) (tm (.i f) (to (sar rfl rfl rfl) (to (qN (aF rfl) rfl Tryz.runUnderlying3 Tryz.runUnderlying113) ?_))))));refine to (aAf (aF rfl) rfl rfl (by decide)) ?_;refine to (qN (aF rfl) rfl Tryz.runUnderlying113 Tryz.runUnderlying3) ?_;refine ta (.i (w64 ((uw (w64 (g + f))).fdiv (2 ^ Z0)))) (aB (aC (aA (tm (.i (w64 ((uw (w64 (g + f))).fdiv (2 ^ Z0)))) (tm (.i j) (to (sar rfl rfl rfl) (ta (.i (w64 ((w64 ((uw (w64 (g + f))).fdiv (2 ^ Z0))) + j))) (aB (aC (aA (ta (.i 0) (ta (.i 0) (aB ?_)))))))))))));refine aC (aC (aA (tm (.i j) (tm (.i (w64 ((uw (w64 (g + f))).fdiv (2 ^ Z0)))) (to (scm rfl rfl rfl) (aB ?_))))));refine tih h (fun i7 h => ?_) (fun i7 h => ?_)
      ·refine aC (aA (tm (.i (w64 ((w64 ((uw (w64 (g + f))).fdiv (2 ^ Z0))) + j))) (tm (.i f) (to (sar rfl rfl rfl) (ta (.i (w64 ((w64 ((w64 ((uw (w64 (g + f))).fdiv (2 ^ Z0))) + j)) - f))) (aB (aA (tm (.i (w64 ((uw (w64 (g + f))).fdiv (2 ^ Z0)))) (ta (.i (w64 ((uw (w64 (g + f))).fdiv (2 ^ Z0)))) (aB (aC (aA (tm (.i (w64 ((w64 ((uw (w64 (g + f))).fdiv (2 ^ Z0))) + j))) ?_)))))))))))));refine to (sar rfl rfl rfl) (ta (.i (w64 ((w64 ((w64 ((uw (w64 (g + f))).fdiv (2 ^ Z0))) + j)) - 1))) (aB (aC (aX ?_))));refine bP (S := Int × Int) [0, 1, 2, 3, 4, 18, 19, 22] (fun b2 => [(20, .i b2.1), (21, .i b2.2)]) (fun b2 => [.arr a 76 4 (p.map aD)]) (fun k b2 => cA (bD z kr) g j f z (w64 ((uw (w64 (g + f))).fdiv (2 ^ Z0))) (w64 ((w64 ((uw (w64 (g + f))).fdiv (2 ^ Z0))) + j)) (w64 ((w64 ((w64 ((uw (w64 (g + f))).fdiv (2 ^ Z0))) + j)) - 1)) p k b2.1 b2.2) (fun _ => rfl) (w64 ((w64 ((w64 ((uw (w64 (g + f))).fdiv (2 ^ Z0))) + j)) - f), w64 ((uw (w64 (g + f))).fdiv (2 ^ Z0))) h (aN [0] rfl rfl (aH rfl (aH rfl (aM ⟨rfl, rfl, rfl, rfl, rfl, rfl, rfl, rfl, trivial⟩)))) ?_;rintro m7 ⟨e, u⟩ h;simp only [cA] at h;refine aC (aC (aA (tm (.i e) (tm (.i u) (to (scm rfl rfl rfl) (aB ?_))))));refine tih h (fun i8 h => ?_) (fun i8 h => ?_)
       ·refine aU (aX (aC (aA (tm (.i e) (tm (.i u) (to (sar rfl rfl rfl) (to (qN (aF rfl) rfl Tryz.runUnderlying3 Tryz.runUnderlying113) ?_)))))));refine to (aAf (aF rfl) rfl rfl (by decide)) ?_;refine to (qN (aF rfl) rfl Tryz.runUnderlying113 Tryz.runUnderlying3) ?_;refine ta (.i (w64 ((uw (w64 (e + u))).fdiv (2 ^ Z0)))) (aB (aC ?_));obtain ⟨d1, e7, h⟩ := bns h;obtain ⟨d2, e8, h⟩ := bns h;refine cN mix 11 [0, 1, 2, 3, 4, 18, 19, 20, 21, 22, 23] [(158, .fn n o), (164, .agg (aD d1)), (168, .agg (aD d2))] ?_ ?_
        ·refine ⟨[(158, 0, .fn n o), (159, 1, .d (.lit a)), (160, 2, .i (w64 ((w64 ((w64 ((uw (w64 (g + f))).fdiv (2 ^ Z0))) + j)) - 1))), (161, 3, .i (w64 ((uw (w64 (e + u))).fdiv (2 ^ Z0)))), (162, 4, .i (w64 ((w64 ((w64 ((w64 ((uw (w64 (g + f))).fdiv (2 ^ Z0))) + j)) - 1)) - (w64 ((uw (w64 (e + u))).fdiv (2 ^ Z0)))))), (163, 5, .ep a 4 (w64 ((w64 ((w64 ((w64 ((uw (w64 (g + f))).fdiv (2 ^ Z0))) + j)) - 1)) - (w64 ((uw (w64 (e + u))).fdiv (2 ^ Z0))))).toNat 0), (164, 6, .agg (aD d1)), (165, 7, .d (.lit a)), (166, 8, .i (w64 ((uw (w64 (e + u))).fdiv (2 ^ Z0)))), (167, 9, .ep a 4 (w64 ((uw (w64 (e + u))).fdiv (2 ^ Z0))).toNat 0), (168, 10, .agg (aD d2))], ?_, ?_⟩
         · exact dk [0, 0, 0, 0, 304, 205, 6, 0, 0, 809, 10] ⟨go (zm (.fn n o)),
      go (zm (.d (.lit a))),
      go (zm (.i (w64 ((w64 ((w64 ((uw (w64 (g + f))).fdiv (2 ^ Z0))) + j)) - 1)))),
      go (zm (.i (w64 ((uw (w64 (e + u))).fdiv (2 ^ Z0))))),
      go (zar rfl rfl rfl),
      go (zia 0 rfl rfl rfl dA.of (aV aD e7)),
      go fun S hS => dX (aF rfl) (bF hS rfl) (l := 0) rfl (dM aD e7) gO (es := (aD d1)) rfl rfl,
      go (zm (.d (.lit a))),
      go (zm (.i (w64 ((uw (w64 (e + u))).fdiv (2 ^ Z0))))),
      go (zia 0 rfl rfl rfl dA.of (aV aD e8)),
      go fun S hS => dX (aF rfl) (bF hS rfl) (l := 0) rfl (dM aD e8) gO (es := (aD d2)) rfl rfl, trivial⟩
         · exact cC (aH rfl (aH rfl (aH rfl (aM ⟨rfl, rfl, rfl, rfl, rfl, rfl, rfl, rfl, rfl, rfl, rfl, trivial⟩))))
        ·obtain ⟨m8, i9, h⟩ := bns h;refine to (fW (aF rfl) (.clo _ _ _ _ G rfl) (aAx rfl) rfl (BVs.refl _ _) (H _ _ _  i9) rfl) ?_;refine to (scm rfl rfl rfl) (to (sn rfl) (aB ?_));refine tih h (fun j0 h => ?_) (fun j0 h => ?_)
         ·refine aA (tm (.i (w64 ((uw (w64 (e + u))).fdiv (2 ^ Z0)))) (to (sar rfl rfl rfl) (ta (.i (w64 ((w64 ((uw (w64 (e + u))).fdiv (2 ^ Z0))) + 1))) ?_)));refine cM ?_;exact ⟨(w64 ((w64 ((uw (w64 (e + u))).fdiv (2 ^ Z0))) + 1), u), h, aN [0] rfl rfl (aH rfl (aH rfl (aM ⟨rfl, rfl, rfl, rfl, rfl, rfl, rfl, rfl, trivial⟩)))⟩
         ·refine aA (tm (.i (w64 ((uw (w64 (e + u))).fdiv (2 ^ Z0)))) (ta (.i (w64 ((uw (w64 (e + u))).fdiv (2 ^ Z0)))) ?_));refine cM ?_;exact ⟨(e, w64 ((uw (w64 (e + u))).fdiv (2 ^ Z0))), h, aN [0] rfl rfl (aH rfl (aH rfl (aM ⟨rfl, rfl, rfl, rfl, rfl, rfl, rfl, rfl, trivial⟩)))⟩
       ·refine bQ ?_;refine .inl ⟨rfl, ?_⟩;simp only [dC] at h;refine aC (aA (tm (.i (w64 ((w64 ((uw (w64 (g + f))).fdiv (2 ^ Z0))) + j))) (tm (.i e) (to (sar rfl rfl rfl) (ta (.i (w64 ((w64 ((w64 ((uw (w64 (g + f))).fdiv (2 ^ Z0))) + j)) - e))) (aB (aC (aC (aA (tm (.i e) (tm (.i j) (to (scm rfl rfl rfl) (tm (.b (decide (e < j))) ?_)))))))))))));obtain ⟨j1, b5, h⟩ := bns h;refine aW 4 [0, 1, 2, 3, 4, 18, 20, 24] 185 j1 ?_ ?_
        ·refine bch b5 (fun P b5 => ?_) (fun P b5 => ?_)
         ·refine tk P (sm (.i j)) (tk P (sm (.i (w64 ((w64 ((w64 ((uw (w64 (g + f))).fdiv (2 ^ Z0))) + j)) - e)))) (tk P (scm rfl rfl rfl) (to (spt (.b (decide (j < (w64 ((w64 ((w64 ((uw (w64 (g + f))).fdiv (2 ^ Z0))) + j)) - e))))) P) ?_)));obtain rfl := sIn b5;refine aB (aK rfl ⟨rfl, rfl, rfl, rfl, rfl, rfl, rfl, rfl, trivial⟩ rfl)
         ·refine tp P (tp P (tp P (to (spf Z3 P) ?_)));obtain rfl := sIn b5;refine aB (aK rfl ⟨rfl, rfl, rfl, rfl, rfl, rfl, rfl, rfl, trivial⟩ rfl)
        ·refine aB ?_;refine tih h (fun j2 h => ?_) (fun j2 h => ?_)
         ·refine aA (tm (.d (.lit a)) (tm (.i e) (tm (.i j) (tm (.i (w64 ((w64 ((w64 ((uw (w64 (g + f))).fdiv (2 ^ Z0))) + j)) - e))) (tm (.fn n o) ?_)))));obtain ⟨b6, j3, h⟩ := bns h;refine bB rfl (eZ (passed := [.arr a 76 4 (p.map aD)]) (aF rfl) rfl (.func _ _ Tryz.call140) rfl rfl (qE p e j (w64 ((w64 ((w64 ((uw (w64 (g + f))).fdiv (2 ^ Z0))) + j)) - e)) z n o G H j3)) ?_;rintro _ ⟨_, _, ⟨rfl, rfl⟩, rfl⟩;refine aB (aC (aC (aA (tm (.i g) (tm (.i e) (to (scm rfl rfl rfl) (tm (.b (decide (g < e))) ?_)))))));obtain ⟨j4, b7, h⟩ := bns h;refine aW 4 [0, 1, 3, 4, 18, 20, 24] 199 j4 ?_ ?_
          ·refine bch b7 (fun Q b7 => ?_) (fun Q b7 => ?_)
           ·refine tk Q (sm (.i e)) (tk Q (sm (.i (w64 ((uw (w64 (g + f))).fdiv (2 ^ Z0))))) (tk Q (scm rfl rfl rfl) (to (spt (.b (decide (e < (w64 ((uw (w64 (g + f))).fdiv (2 ^ Z0)))))) Q) ?_)));obtain rfl := sIn b7;refine aB (aK rfl ⟨rfl, rfl, rfl, rfl, rfl, rfl, rfl, trivial⟩ rfl)
           ·refine tp Q (tp Q (tp Q (to (spf Z3 Q) ?_)));obtain rfl := sIn b7;refine aB (aK rfl ⟨rfl, rfl, rfl, rfl, rfl, rfl, rfl, trivial⟩ rfl)
          ·refine aB ?_;refine tih h (fun j5 h => ?_) (fun j5 h => ?_)
           ·refine aA (tm (.d (.lit a)) (tm (.i g) (tm (.i e) (tm (.i (w64 ((uw (w64 (g + f))).fdiv (2 ^ Z0)))) (tm (.fn n o) ?_)))));obtain ⟨d3, j6, h⟩ := bns h;refine bB rfl (eZ (passed := [.arr a 76 4 (b6.map aD)]) (aF rfl) rfl (.func _ _ Tryz.call133) rfl rfl (ih b6 g e (w64 ((uw (w64 (g + f))).fdiv (2 ^ Z0))) j6)) ?_;rintro _ ⟨_, _, ⟨rfl, rfl⟩, rfl⟩;refine aB (aC (aA (tm (.i (w64 ((uw (w64 (g + f))).fdiv (2 ^ Z0)))) (tm (.i (w64 ((w64 ((w64 ((uw (w64 (g + f))).fdiv (2 ^ Z0))) + j)) - e))) (to (scm rfl rfl rfl) (tm (.b (decide ((w64 ((uw (w64 (g + f))).fdiv (2 ^ Z0))) < (w64 ((w64 ((w64 ((uw (w64 (g + f))).fdiv (2 ^ Z0))) + j)) - e))))) ?_))))));obtain ⟨j7, b8, h⟩ := bns h;refine aW 4 [0, 3, 4, 18, 24] 213 j7 ?_ ?_
            ·refine bch b8 (fun T b8 => ?_) (fun T b8 => ?_)
             ·refine tk T (sm (.i (w64 ((w64 ((w64 ((uw (w64 (g + f))).fdiv (2 ^ Z0))) + j)) - e)))) (tk T (sm (.i f)) (tk T (scm rfl rfl rfl) (to (spt (.b (decide ((w64 ((w64 ((w64 ((uw (w64 (g + f))).fdiv (2 ^ Z0))) + j)) - e)) < f))) T) ?_)));obtain rfl := sIn b8;refine aB (aK rfl ⟨rfl, rfl, rfl, rfl, rfl, trivial⟩ rfl)
             ·refine tp T (tp T (tp T (to (spf Z3 T) ?_)));obtain rfl := sIn b8;refine aB (aK rfl ⟨rfl, rfl, rfl, rfl, rfl, trivial⟩ rfl)
            ·refine aB ?_;refine tih h (fun j8 h => ?_) (fun j8 h => ?_)
             ·refine aA (tm (.d (.lit a)) (tm (.i (w64 ((uw (w64 (g + f))).fdiv (2 ^ Z0)))) (tm (.i (w64 ((w64 ((w64 ((uw (w64 (g + f))).fdiv (2 ^ Z0))) + j)) - e))) (tm (.i f) (tm (.fn n o) ?_)))));obtain ⟨j9, k0, h⟩ := bns h;refine bB rfl (eZ (passed := [.arr a 76 4 (d3.map aD)]) (aF rfl) rfl (.func _ _ Tryz.call133) rfl rfl (ih d3 (w64 ((uw (w64 (g + f))).fdiv (2 ^ Z0))) (w64 ((w64 ((w64 ((uw (w64 (g + f))).fdiv (2 ^ Z0))) + j)) - e)) f k0)) ?_;rintro _ ⟨_, _, ⟨rfl, rfl⟩, rfl⟩;refine aB ?_;obtain rfl := sIn h;exact ⟨_, [.arr a 76 4 (j9.map aD)], [], _, .none, .refl _, .same _, rfl, rfl⟩
             ·refine aU ?_;obtain rfl := sIn h;exact ⟨_, [.arr a 76 4 (d3.map aD)], [], _, .none, .refl _, .same _, rfl, rfl⟩
           ·refine aU (aC (aA (tm (.i (w64 ((uw (w64 (g + f))).fdiv (2 ^ Z0)))) (tm (.i (w64 ((w64 ((w64 ((uw (w64 (g + f))).fdiv (2 ^ Z0))) + j)) - e))) (to (scm rfl rfl rfl) (tm (.b (decide ((w64 ((uw (w64 (g + f))).fdiv (2 ^ Z0))) < (w64 ((w64 ((w64 ((uw (w64 (g + f))).fdiv (2 ^ Z0))) + j)) - e))))) ?_))))));obtain ⟨k1, b9, h⟩ := bns h;refine aW 4 [0, 3, 4, 18, 24] 213 k1 ?_ ?_
            ·refine bch b9 (fun U b9 => ?_) (fun U b9 => ?_)
             ·refine tk U (sm (.i (w64 ((w64 ((w64 ((uw (w64 (g + f))).fdiv (2 ^ Z0))) + j)) - e)))) (tk U (sm (.i f)) (tk U (scm rfl rfl rfl) (to (spt (.b (decide ((w64 ((w64 ((w64 ((uw (w64 (g + f))).fdiv (2 ^ Z0))) + j)) - e)) < f))) U) ?_)));obtain rfl := sIn b9;refine aB (aK rfl ⟨rfl, rfl, rfl, rfl, rfl, trivial⟩ rfl)
             ·refine tp U (tp U (tp U (to (spf Z3 U) ?_)));obtain rfl := sIn b9;refine aB (aK rfl ⟨rfl, rfl, rfl, rfl, rfl, trivial⟩ rfl)
            ·refine aB ?_;refine tih h (fun k2 h => ?_) (fun k2 h => ?_)
             ·refine aA (tm (.d (.lit a)) (tm (.i (w64 ((uw (w64 (g + f))).fdiv (2 ^ Z0)))) (tm (.i (w64 ((w64 ((w64 ((uw (w64 (g + f))).fdiv (2 ^ Z0))) + j)) - e))) (tm (.i f) (tm (.fn n o) ?_)))));obtain ⟨k4, k5, h⟩ := bns h;refine bB rfl (eZ (passed := [.arr a 76 4 (b6.map aD)]) (aF rfl) rfl (.func _ _ Tryz.call133) rfl rfl (ih b6 (w64 ((uw (w64 (g + f))).fdiv (2 ^ Z0))) (w64 ((w64 ((w64 ((uw (w64 (g + f))).fdiv (2 ^ Z0))) + j)) - e)) f k5)) ?_;rintro _ ⟨_, _, ⟨rfl, rfl⟩, rfl⟩;refine aB ?_;obtain rfl := sIn h;exact ⟨_, [.arr a 76 4 (k4.map aD)], [], _, .none, .refl _, .same _, rfl, rfl⟩
             ·refine aU ?_;obtain rfl := sIn h;exact ⟨_, [.arr a 76 4 (b6.map aD)], [], _, .none, .refl _, .same _, rfl, rfl⟩
         ·refine aU (aC (aC (aA (tm (.i g) (tm (.i e) (to (scm rfl rfl rfl) (tm (.b (decide (g < e))) ?_)))))));obtain ⟨k6, c0, h⟩ := bns h;refine aW 4 [0, 1, 3, 4, 18, 20, 24] 199 k6 ?_ ?_
          ·refine bch c0 (fun V c0 => ?_) (fun V c0 => ?_)
           ·refine tk V (sm (.i e)) (tk V (sm (.i (w64 ((uw (w64 (g + f))).fdiv (2 ^ Z0))))) (tk V (scm rfl rfl rfl) (to (spt (.b (decide (e < (w64 ((uw (w64 (g + f))).fdiv (2 ^ Z0)))))) V) ?_)));obtain rfl := sIn c0;refine aB (aK rfl ⟨rfl, rfl, rfl, rfl, rfl, rfl, rfl, trivial⟩ rfl)
           ·refine tp V (tp V (tp V (to (spf Z3 V) ?_)));obtain rfl := sIn c0;refine aB (aK rfl ⟨rfl, rfl, rfl, rfl, rfl, rfl, rfl, trivial⟩ rfl)
          ·refine aB ?_;refine tih h (fun k7 h => ?_) (fun k7 h => ?_)
           ·refine aA (tm (.d (.lit a)) (tm (.i g) (tm (.i e) (tm (.i (w64 ((uw (w64 (g + f))).fdiv (2 ^ Z0)))) (tm (.fn n o) ?_)))));obtain ⟨d4, k8, h⟩ := bns h;refine bB rfl (eZ (passed := [.arr a 76 4 (p.map aD)]) (aF rfl) rfl (.func _ _ Tryz.call133) rfl rfl (ih p g e (w64 ((uw (w64 (g + f))).fdiv (2 ^ Z0))) k8)) ?_;rintro _ ⟨_, _, ⟨rfl, rfl⟩, rfl⟩;refine aB (aC (aA (tm (.i (w64 ((uw (w64 (g + f))).fdiv (2 ^ Z0)))) (tm (.i (w64 ((w64 ((w64 ((uw (w64 (g + f))).fdiv (2 ^ Z0))) + j)) - e))) (to (scm rfl rfl rfl) (tm (.b (decide ((w64 ((uw (w64 (g + f))).fdiv (2 ^ Z0))) < (w64 ((w64 ((w64 ((uw (w64 (g + f))).fdiv (2 ^ Z0))) + j)) - e))))) ?_))))));obtain ⟨k9, c2, h⟩ := bns h;refine aW 4 [0, 3, 4, 18, 24] 213 k9 ?_ ?_
            ·refine bch c2 (fun W c2 => ?_) (fun W c2 => ?_)
             ·refine tk W (sm (.i (w64 ((w64 ((w64 ((uw (w64 (g + f))).fdiv (2 ^ Z0))) + j)) - e)))) (tk W (sm (.i f)) (tk W (scm rfl rfl rfl) (to (spt (.b (decide ((w64 ((w64 ((w64 ((uw (w64 (g + f))).fdiv (2 ^ Z0))) + j)) - e)) < f))) W) ?_)));obtain rfl := sIn c2;refine aB (aK rfl ⟨rfl, rfl, rfl, rfl, rfl, trivial⟩ rfl)
             ·refine tp W (tp W (tp W (to (spf Z3 W) ?_)));obtain rfl := sIn c2;refine aB (aK rfl ⟨rfl, rfl, rfl, rfl, rfl, trivial⟩ rfl)
            ·refine aB ?_;refine tih h (fun l0 h => ?_) (fun l0 h => ?_)
             ·refine aA (tm (.d (.lit a)) (tm (.i (w64 ((uw (w64 (g + f))).fdiv (2 ^ Z0)))) (tm (.i (w64 ((w64 ((w64 ((uw (w64 (g + f))).fdiv (2 ^ Z0))) + j)) - e))) (tm (.i f) (tm (.fn n o) ?_)))));obtain ⟨l1, l2, h⟩ := bns h;refine bB rfl (eZ (passed := [.arr a 76 4 (d4.map aD)]) (aF rfl) rfl (.func _ _ Tryz.call133) rfl rfl (ih d4 (w64 ((uw (w64 (g + f))).fdiv (2 ^ Z0))) (w64 ((w64 ((w64 ((uw (w64 (g + f))).fdiv (2 ^ Z0))) + j)) - e)) f l2)) ?_;rintro _ ⟨_, _, ⟨rfl, rfl⟩, rfl⟩;refine aB ?_;obtain rfl := sIn h;exact ⟨_, [.arr a 76 4 (l1.map aD)], [], _, .none, .refl _, .same _, rfl, rfl⟩
             ·refine aU ?_;obtain rfl := sIn h;exact ⟨_, [.arr a 76 4 (d4.map aD)], [], _, .none, .refl _, .same _, rfl, rfl⟩
           ·refine aU (aC (aA (tm (.i (w64 ((uw (w64 (g + f))).fdiv (2 ^ Z0)))) (tm (.i (w64 ((w64 ((w64 ((uw (w64 (g + f))).fdiv (2 ^ Z0))) + j)) - e))) (to (scm rfl rfl rfl) (tm (.b (decide ((w64 ((uw (w64 (g + f))).fdiv (2 ^ Z0))) < (w64 ((w64 ((w64 ((uw (w64 (g + f))).fdiv (2 ^ Z0))) + j)) - e))))) ?_))))));obtain ⟨l3, c3, h⟩ := bns h;refine aW 4 [0, 3, 4, 18, 24] 213 l3 ?_ ?_
            ·refine bch c3 (fun X c3 => ?_) (fun X c3 => ?_)
             ·refine tk X (sm (.i (w64 ((w64 ((w64 ((uw (w64 (g + f))).fdiv (2 ^ Z0))) + j)) - e)))) (tk X (sm (.i f)) (tk X (scm rfl rfl rfl) (to (spt (.b (decide ((w64 ((w64 ((w64 ((uw (w64 (g + f))).fdiv (2 ^ Z0))) + j)) - e)) < f))) X) ?_)));obtain rfl := sIn c3;refine aB (aK rfl ⟨rfl, rfl, rfl, rfl, rfl, trivial⟩ rfl)
             ·refine tp X (tp X (tp X (to (spf Z3 X) ?_)));obtain rfl := sIn c3;refine aB (aK rfl ⟨rfl, rfl, rfl, rfl, rfl, trivial⟩ rfl)
            ·refine aB ?_;refine tih h (fun l4 h => ?_) (fun l4 h => ?_)
             ·refine aA (tm (.d (.lit a)) (tm (.i (w64 ((uw (w64 (g + f))).fdiv (2 ^ Z0)))) (tm (.i (w64 ((w64 ((w64 ((uw (w64 (g + f))).fdiv (2 ^ Z0))) + j)) - e))) (tm (.i f) (tm (.fn n o) ?_)))));obtain ⟨l5, l6, h⟩ := bns h;refine bB rfl (eZ (passed := [.arr a 76 4 (p.map aD)]) (aF rfl) rfl (.func _ _ Tryz.call133) rfl rfl (ih p (w64 ((uw (w64 (g + f))).fdiv (2 ^ Z0))) (w64 ((w64 ((w64 ((uw (w64 (g + f))).fdiv (2 ^ Z0))) + j)) - e)) f l6)) ?_;rintro _ ⟨_, _, ⟨rfl, rfl⟩, rfl⟩;refine aB ?_;obtain rfl := sIn h;exact ⟨_, [.arr a 76 4 (l5.map aD)], [], _, .none, .refl _, .same _, rfl, rfl⟩
             ·refine aU ?_;obtain rfl := sIn h;exact ⟨_, [.arr a 76 4 (p.map aD)], [], _, .none, .refl _, .same _, rfl, rfl⟩
      ·refine aC (aA (tm (.i g) (ta (.i g) (aB (aA (tm (.i j) (ta (.i j) (aB (aC (aA (tm (.i (w64 ((w64 ((uw (w64 (g + f))).fdiv (2 ^ Z0))) + j))) (to (sar rfl rfl rfl) (ta (.i (w64 ((w64 ((w64 ((uw (w64 (g + f))).fdiv (2 ^ Z0))) + j)) - 1))) ?_)))))))))))));refine aB (aC (aX ?_));refine bP (S := Int × Int) [0, 1, 2, 3, 4, 18, 19, 22] (fun Y => [(20, .i Y.1), (21, .i Y.2)]) (fun Y => [.arr a 76 4 (p.map aD)]) (fun k Y => cA (bD z kr) g j f z (w64 ((uw (w64 (g + f))).fdiv (2 ^ Z0))) (w64 ((w64 ((uw (w64 (g + f))).fdiv (2 ^ Z0))) + j)) (w64 ((w64 ((w64 ((uw (w64 (g + f))).fdiv (2 ^ Z0))) + j)) - 1)) p k Y.1 Y.2) (fun _ => rfl) (g, j) h (aN [0] rfl rfl (aH rfl (aH rfl (aM ⟨rfl, rfl, rfl, rfl, rfl, rfl, rfl, rfl, trivial⟩)))) ?_;rintro l7 ⟨c, t⟩ h;simp only [cA] at h;refine aC (aC (aA (tm (.i c) (tm (.i t) (to (scm rfl rfl rfl) (aB ?_))))));refine tih h (fun e9 h => ?_) (fun e9 h => ?_)
       ·refine aU (aX (aC (aA (tm (.i c) (tm (.i t) (to (sar rfl rfl rfl) (to (qN (aF rfl) rfl Tryz.runUnderlying3 Tryz.runUnderlying113) ?_)))))));refine to (aAf (aF rfl) rfl rfl (by decide)) ?_;refine to (qN (aF rfl) rfl Tryz.runUnderlying113 Tryz.runUnderlying3) ?_;refine ta (.i (w64 ((uw (w64 (c + t))).fdiv (2 ^ Z0)))) (aB (aC ?_));obtain ⟨c5, d5, h⟩ := bns h;obtain ⟨c6, d6, h⟩ := bns h;refine cN mix 11 [0, 1, 2, 3, 4, 18, 19, 20, 21, 22, 23] [(158, .fn n o), (164, .agg (aD c5)), (168, .agg (aD c6))] ?_ ?_
        ·refine ⟨[(158, 0, .fn n o), (159, 1, .d (.lit a)), (160, 2, .i (w64 ((w64 ((w64 ((uw (w64 (g + f))).fdiv (2 ^ Z0))) + j)) - 1))), (161, 3, .i (w64 ((uw (w64 (c + t))).fdiv (2 ^ Z0)))), (162, 4, .i (w64 ((w64 ((w64 ((w64 ((uw (w64 (g + f))).fdiv (2 ^ Z0))) + j)) - 1)) - (w64 ((uw (w64 (c + t))).fdiv (2 ^ Z0)))))), (163, 5, .ep a 4 (w64 ((w64 ((w64 ((w64 ((uw (w64 (g + f))).fdiv (2 ^ Z0))) + j)) - 1)) - (w64 ((uw (w64 (c + t))).fdiv (2 ^ Z0))))).toNat 0), (164, 6, .agg (aD c5)), (165, 7, .d (.lit a)), (166, 8, .i (w64 ((uw (w64 (c + t))).fdiv (2 ^ Z0)))), (167, 9, .ep a 4 (w64 ((uw (w64 (c + t))).fdiv (2 ^ Z0))).toNat 0), (168, 10, .agg (aD c6))], ?_, ?_⟩
         · exact dk [0, 0, 0, 0, 304, 205, 6, 0, 0, 809, 10] ⟨go (zm (.fn n o)),
      go (zm (.d (.lit a))),
      go (zm (.i (w64 ((w64 ((w64 ((uw (w64 (g + f))).fdiv (2 ^ Z0))) + j)) - 1)))),
      go (zm (.i (w64 ((uw (w64 (c + t))).fdiv (2 ^ Z0))))),
      go (zar rfl rfl rfl),
      go (zia 0 rfl rfl rfl dA.of (aV aD d5)),
      go fun S hS => dX (aF rfl) (bF hS rfl) (l := 0) rfl (dM aD d5) gO (es := (aD c5)) rfl rfl,
      go (zm (.d (.lit a))),
      go (zm (.i (w64 ((uw (w64 (c + t))).fdiv (2 ^ Z0))))),
      go (zia 0 rfl rfl rfl dA.of (aV aD d6)),
      go fun S hS => dX (aF rfl) (bF hS rfl) (l := 0) rfl (dM aD d6) gO (es := (aD c6)) rfl rfl, trivial⟩
         · exact cC (aH rfl (aH rfl (aH rfl (aM ⟨rfl, rfl, rfl, rfl, rfl, rfl, rfl, rfl, rfl, rfl, rfl, trivial⟩))))
        ·obtain ⟨l8, f0, h⟩ := bns h;refine to (fW (aF rfl) (.clo _ _ _ _ G rfl) (aAx rfl) rfl (BVs.refl _ _) (H _ _ _  f0) rfl) ?_;refine to (scm rfl rfl rfl) (to (sn rfl) (aB ?_));refine tih h (fun f1 h => ?_) (fun f1 h => ?_)
         ·refine aA (tm (.i (w64 ((uw (w64 (c + t))).fdiv (2 ^ Z0)))) (to (sar rfl rfl rfl) (ta (.i (w64 ((w64 ((uw (w64 (c + t))).fdiv (2 ^ Z0))) + 1))) ?_)));refine cM ?_;exact ⟨(w64 ((w64 ((uw (w64 (c + t))).fdiv (2 ^ Z0))) + 1), t), h, aN [0] rfl rfl (aH rfl (aH rfl (aM ⟨rfl, rfl, rfl, rfl, rfl, rfl, rfl, rfl, trivial⟩)))⟩
         ·refine aA (tm (.i (w64 ((uw (w64 (c + t))).fdiv (2 ^ Z0)))) (ta (.i (w64 ((uw (w64 (c + t))).fdiv (2 ^ Z0)))) ?_));refine cM ?_;exact ⟨(c, w64 ((uw (w64 (c + t))).fdiv (2 ^ Z0))), h, aN [0] rfl rfl (aH rfl (aH rfl (aM ⟨rfl, rfl, rfl, rfl, rfl, rfl, rfl, rfl, trivial⟩)))⟩
       ·refine bQ ?_;refine .inl ⟨rfl, ?_⟩;simp only [dC] at h;refine aC (aA (tm (.i (w64 ((w64 ((uw (w64 (g + f))).fdiv (2 ^ Z0))) + j))) (tm (.i c) (to (sar rfl rfl rfl) (ta (.i (w64 ((w64 ((w64 ((uw (w64 (g + f))).fdiv (2 ^ Z0))) + j)) - c))) (aB (aC (aC (aA (tm (.i c) (tm (.i j) (to (scm rfl rfl rfl) (tm (.b (decide (c < j))) ?_)))))))))))));obtain ⟨f2, a1, h⟩ := bns h;refine aW 4 [0, 1, 2, 3, 4, 18, 20, 24] 185 f2 ?_ ?_
        ·refine bch a1 (fun I a1 => ?_) (fun I a1 => ?_)
         ·refine tk I (sm (.i j)) (tk I (sm (.i (w64 ((w64 ((w64 ((uw (w64 (g + f))).fdiv (2 ^ Z0))) + j)) - c)))) (tk I (scm rfl rfl rfl) (to (spt (.b (decide (j < (w64 ((w64 ((w64 ((uw (w64 (g + f))).fdiv (2 ^ Z0))) + j)) - c))))) I) ?_)));obtain rfl := sIn a1;refine aB (aK rfl ⟨rfl, rfl, rfl, rfl, rfl, rfl, rfl, rfl, trivial⟩ rfl)
         ·refine tp I (tp I (tp I (to (spf Z3 I) ?_)));obtain rfl := sIn a1;refine aB (aK rfl ⟨rfl, rfl, rfl, rfl, rfl, rfl, rfl, rfl, trivial⟩ rfl)
        ·refine aB ?_;refine tih h (fun f3 h => ?_) (fun f3 h => ?_)
         ·refine aA (tm (.d (.lit a)) (tm (.i c) (tm (.i j) (tm (.i (w64 ((w64 ((w64 ((uw (w64 (g + f))).fdiv (2 ^ Z0))) + j)) - c))) (tm (.fn n o) ?_)))));obtain ⟨a2, f4, h⟩ := bns h;refine bB rfl (eZ (passed := [.arr a 76 4 (p.map aD)]) (aF rfl) rfl (.func _ _ Tryz.call140) rfl rfl (qE p c j (w64 ((w64 ((w64 ((uw (w64 (g + f))).fdiv (2 ^ Z0))) + j)) - c)) z n o G H f4)) ?_;rintro _ ⟨_, _, ⟨rfl, rfl⟩, rfl⟩;refine aB (aC (aC (aA (tm (.i g) (tm (.i c) (to (scm rfl rfl rfl) (tm (.b (decide (g < c))) ?_)))))));obtain ⟨f5, a3, h⟩ := bns h;refine aW 4 [0, 1, 3, 4, 18, 20, 24] 199 f5 ?_ ?_
          ·refine bch a3 (fun J a3 => ?_) (fun J a3 => ?_)
           ·refine tk J (sm (.i c)) (tk J (sm (.i (w64 ((uw (w64 (g + f))).fdiv (2 ^ Z0))))) (tk J (scm rfl rfl rfl) (to (spt (.b (decide (c < (w64 ((uw (w64 (g + f))).fdiv (2 ^ Z0)))))) J) ?_)));obtain rfl := sIn a3;refine aB (aK rfl ⟨rfl, rfl, rfl, rfl, rfl, rfl, rfl, trivial⟩ rfl)
           ·refine tp J (tp J (tp J (to (spf Z3 J) ?_)));obtain rfl := sIn a3;refine aB (aK rfl ⟨rfl, rfl, rfl, rfl, rfl, rfl, rfl, trivial⟩ rfl)
          ·refine aB ?_;refine tih h (fun f6 h => ?_) (fun f6 h => ?_)
           ·refine aA (tm (.d (.lit a)) (tm (.i g) (tm (.i c) (tm (.i (w64 ((uw (w64 (g + f))).fdiv (2 ^ Z0)))) (tm (.fn n o) ?_)))));obtain ⟨c7, f7, h⟩ := bns h;refine bB rfl (eZ (passed := [.arr a 76 4 (a2.map aD)]) (aF rfl) rfl (.func _ _ Tryz.call133) rfl rfl (ih a2 g c (w64 ((uw (w64 (g + f))).fdiv (2 ^ Z0))) f7)) ?_;rintro _ ⟨_, _, ⟨rfl, rfl⟩, rfl⟩;refine aB (aC (aA (tm (.i (w64 ((uw (w64 (g + f))).fdiv (2 ^ Z0)))) (tm (.i (w64 ((w64 ((w64 ((uw (w64 (g + f))).fdiv (2 ^ Z0))) + j)) - c))) (to (scm rfl rfl rfl) (tm (.b (decide ((w64 ((uw (w64 (g + f))).fdiv (2 ^ Z0))) < (w64 ((w64 ((w64 ((uw (w64 (g + f))).fdiv (2 ^ Z0))) + j)) - c))))) ?_))))));obtain ⟨f8, a4, h⟩ := bns h;refine aW 4 [0, 3, 4, 18, 24] 213 f8 ?_ ?_
            ·refine bch a4 (fun K a4 => ?_) (fun K a4 => ?_)
             ·refine tk K (sm (.i (w64 ((w64 ((w64 ((uw (w64 (g + f))).fdiv (2 ^ Z0))) + j)) - c)))) (tk K (sm (.i f)) (tk K (scm rfl rfl rfl) (to (spt (.b (decide ((w64 ((w64 ((w64 ((uw (w64 (g + f))).fdiv (2 ^ Z0))) + j)) - c)) < f))) K) ?_)));obtain rfl := sIn a4;refine aB (aK rfl ⟨rfl, rfl, rfl, rfl, rfl, trivial⟩ rfl)
             ·refine tp K (tp K (tp K (to (spf Z3 K) ?_)));obtain rfl := sIn a4;refine aB (aK rfl ⟨rfl, rfl, rfl, rfl, rfl, trivial⟩ rfl)
            ·refine aB ?_;refine tih h (fun f9 h => ?_) (fun f9 h => ?_)
             ·refine aA (tm (.d (.lit a)) (tm (.i (w64 ((uw (w64 (g + f))).fdiv (2 ^ Z0)))) (tm (.i (w64 ((w64 ((w64 ((uw (w64 (g + f))).fdiv (2 ^ Z0))) + j)) - c))) (tm (.i f) (tm (.fn n o) ?_)))));obtain ⟨g0, g1, h⟩ := bns h;refine bB rfl (eZ (passed := [.arr a 76 4 (c7.map aD)]) (aF rfl) rfl (.func _ _ Tryz.call133) rfl rfl (ih c7 (w64 ((uw (w64 (g + f))).fdiv (2 ^ Z0))) (w64 ((w64 ((w64 ((uw (w64 (g + f))).fdiv (2 ^ Z0))) + j)) - c)) f g1)) ?_;rintro _ ⟨_, _, ⟨rfl, rfl⟩, rfl⟩;refine aB ?_;obtain rfl := sIn h;exact ⟨_, [.arr a 76 4 (g0.map aD)], [], _, .none, .refl _, .same _, rfl, rfl⟩
             ·refine aU ?_;obtain rfl := sIn h;exact ⟨_, [.arr a 76 4 (c7.map aD)], [], _, .none, .refl _, .same _, rfl, rfl⟩
           ·refine aU (aC (aA (tm (.i (w64 ((uw (w64 (g + f))).fdiv (2 ^ Z0)))) (tm (.i (w64 ((w64 ((w64 ((uw (w64 (g + f))).fdiv (2 ^ Z0))) + j)) - c))) (to (scm rfl rfl rfl) (tm (.b (decide ((w64 ((uw (w64 (g + f))).fdiv (2 ^ Z0))) < (w64 ((w64 ((w64 ((uw (w64 (g + f))).fdiv (2 ^ Z0))) + j)) - c))))) ?_))))));obtain ⟨g2, a5, h⟩ := bns h;refine aW 4 [0, 3, 4, 18, 24] 213 g2 ?_ ?_
            ·refine bch a5 (fun L a5 => ?_) (fun L a5 => ?_)
             ·refine tk L (sm (.i (w64 ((w64 ((w64 ((uw (w64 (g + f))).fdiv (2 ^ Z0))) + j)) - c)))) (tk L (sm (.i f)) (tk L (scm rfl rfl rfl) (to (spt (.b (decide ((w64 ((w64 ((w64 ((uw (w64 (g + f))).fdiv (2 ^ Z0))) + j)) - c)) < f))) L) ?_)));obtain rfl := sIn a5;refine aB (aK rfl ⟨rfl, rfl, rfl, rfl, rfl, trivial⟩ rfl)
             ·refine tp L (tp L (tp L (to (spf Z3 L) ?_)));obtain rfl := sIn a5;refine aB (aK rfl ⟨rfl, rfl, rfl, rfl, rfl, trivial⟩ rfl)
            ·refine aB ?_;refine tih h (fun g3 h => ?_) (fun g3 h => ?_)
             ·refine aA (tm (.d (.lit a)) (tm (.i (w64 ((uw (w64 (g + f))).fdiv (2 ^ Z0)))) (tm (.i (w64 ((w64 ((w64 ((uw (w64 (g + f))).fdiv (2 ^ Z0))) + j)) - c))) (tm (.i f) (tm (.fn n o) ?_)))));obtain ⟨g4, g5, h⟩ := bns h;refine bB rfl (eZ (passed := [.arr a 76 4 (a2.map aD)]) (aF rfl) rfl (.func _ _ Tryz.call133) rfl rfl (ih a2 (w64 ((uw (w64 (g + f))).fdiv (2 ^ Z0))) (w64 ((w64 ((w64 ((uw (w64 (g + f))).fdiv (2 ^ Z0))) + j)) - c)) f g5)) ?_;rintro _ ⟨_, _, ⟨rfl, rfl⟩, rfl⟩;refine aB ?_;obtain rfl := sIn h;exact ⟨_, [.arr a 76 4 (g4.map aD)], [], _, .none, .refl _, .same _, rfl, rfl⟩
             ·refine aU ?_;obtain rfl := sIn h;exact ⟨_, [.arr a 76 4 (a2.map aD)], [], _, .none, .refl _, .same _, rfl, rfl⟩
         ·refine aU (aC (aC (aA (tm (.i g) (tm (.i c) (to (scm rfl rfl rfl) (tm (.b (decide (g < c))) ?_)))))));obtain ⟨g6, a6, h⟩ := bns h;refine aW 4 [0, 1, 3, 4, 18, 20, 24] 199 g6 ?_ ?_
          ·refine bch a6 (fun M a6 => ?_) (fun M a6 => ?_)
           ·refine tk M (sm (.i c)) (tk M (sm (.i (w64 ((uw (w64 (g + f))).fdiv (2 ^ Z0))))) (tk M (scm rfl rfl rfl) (to (spt (.b (decide (c < (w64 ((uw (w64 (g + f))).fdiv (2 ^ Z0)))))) M) ?_)));obtain rfl := sIn a6;refine aB (aK rfl ⟨rfl, rfl, rfl, rfl, rfl, rfl, rfl, trivial⟩ rfl)
           ·refine tp M (tp M (tp M (to (spf Z3 M) ?_)));obtain rfl := sIn a6;refine aB (aK rfl ⟨rfl, rfl, rfl, rfl, rfl, rfl, rfl, trivial⟩ rfl)
          ·refine aB ?_;refine tih h (fun g7 h => ?_) (fun g7 h => ?_)
           ·refine aA (tm (.d (.lit a)) (tm (.i g) (tm (.i c) (tm (.i (w64 ((uw (w64 (g + f))).fdiv (2 ^ Z0)))) (tm (.fn n o) ?_)))));obtain ⟨c8, g8, h⟩ := bns h;refine bB rfl (eZ (passed := [.arr a 76 4 (p.map aD)]) (aF rfl) rfl (.func _ _ Tryz.call133) rfl rfl (ih p g c (w64 ((uw (w64 (g + f))).fdiv (2 ^ Z0))) g8)) ?_;rintro _ ⟨_, _, ⟨rfl, rfl⟩, rfl⟩;refine aB (aC (aA (tm (.i (w64 ((uw (w64 (g + f))).fdiv (2 ^ Z0)))) (tm (.i (w64 ((w64 ((w64 ((uw (w64 (g + f))).fdiv (2 ^ Z0))) + j)) - c))) (to (scm rfl rfl rfl) (tm (.b (decide ((w64 ((uw (w64 (g + f))).fdiv (2 ^ Z0))) < (w64 ((w64 ((w64 ((uw (w64 (g + f))).fdiv (2 ^ Z0))) + j)) - c))))) ?_))))));obtain ⟨g9, a7, h⟩ := bns h;refine aW 4 [0, 3, 4, 18, 24] 213 g9 ?_ ?_
            ·refine bch a7 (fun N a7 => ?_) (fun N a7 => ?_)
             ·refine tk N (sm (.i (w64 ((w64 ((w64 ((uw (w64 (g + f))).fdiv (2 ^ Z0))) + j)) - c)))) (tk N (sm (.i f)) (tk N (scm rfl rfl rfl) (to (spt (.b (decide ((w64 ((w64 ((w64 ((uw (w64 (g + f))).fdiv (2 ^ Z0))) + j)) - c)) < f))) N) ?_)));obtain rfl := sIn a7;refine aB (aK rfl ⟨rfl, rfl, rfl, rfl, rfl, trivial⟩ rfl)
             ·refine tp N (tp N (tp N (to (spf Z3 N) ?_)));obtain rfl := sIn a7;refine aB (aK rfl ⟨rfl, rfl, rfl, rfl, rfl, trivial⟩ rfl)
            ·refine aB ?_;refine tih h (fun h0 h => ?_) (fun h0 h => ?_)
             ·refine aA (tm (.d (.lit a)) (tm (.i (w64 ((uw (w64 (g + f))).fdiv (2 ^ Z0)))) (tm (.i (w64 ((w64 ((w64 ((uw (w64 (g + f))).fdiv (2 ^ Z0))) + j)) - c))) (tm (.i f) (tm (.fn n o) ?_)))));obtain ⟨h1, h2, h⟩ := bns h;refine bB rfl (eZ (passed := [.arr a 76 4 (c8.map aD)]) (aF rfl) rfl (.func _ _ Tryz.call133) rfl rfl (ih c8 (w64 ((uw (w64 (g + f))).fdiv (2 ^ Z0))) (w64 ((w64 ((w64 ((uw (w64 (g + f))).fdiv (2 ^ Z0))) + j)) - c)) f h2)) ?_;rintro _ ⟨_, _, ⟨rfl, rfl⟩, rfl⟩;refine aB ?_;obtain rfl := sIn h;exact ⟨_, [.arr a 76 4 (h1.map aD)], [], _, .none, .refl _, .same _, rfl, rfl⟩
             ·refine aU ?_;obtain rfl := sIn h;exact ⟨_, [.arr a 76 4 (c8.map aD)], [], _, .none, .refl _, .same _, rfl, rfl⟩
           ·refine aU (aC (aA (tm (.i (w64 ((uw (w64 (g + f))).fdiv (2 ^ Z0)))) (tm (.i (w64 ((w64 ((w64 ((uw (w64 (g + f))).fdiv (2 ^ Z0))) + j)) - c))) (to (scm rfl rfl rfl) (tm (.b (decide ((w64 ((uw (w64 (g + f))).fdiv (2 ^ Z0))) < (w64 ((w64 ((w64 ((uw (w64 (g + f))).fdiv (2 ^ Z0))) + j)) - c))))) ?_))))));obtain ⟨h3, a8, h⟩ := bns h;refine aW 4 [0, 3, 4, 18, 24] 213 h3 ?_ ?_
            ·refine bch a8 (fun O a8 => ?_) (fun O a8 => ?_)
             ·refine tk O (sm (.i (w64 ((w64 ((w64 ((uw (w64 (g + f))).fdiv (2 ^ Z0))) + j)) - c)))) (tk O (sm (.i f)) (tk O (scm rfl rfl rfl) (to (spt (.b (decide ((w64 ((w64 ((w64 ((uw (w64 (g + f))).fdiv (2 ^ Z0))) + j)) - c)) < f))) O) ?_)));obtain rfl := sIn a8;refine aB (aK rfl ⟨rfl, rfl, rfl, rfl, rfl, trivial⟩ rfl)
             ·refine tp O (tp O (tp O (to (spf Z3 O) ?_)));obtain rfl := sIn a8;refine aB (aK rfl ⟨rfl, rfl, rfl, rfl, rfl, trivial⟩ rfl)
            ·refine aB ?_;refine tih h (fun h4 h => ?_) (fun h4 h => ?_)
             ·refine aA (tm (.d (.lit a)) (tm (.i (w64 ((uw (w64 (g + f))).fdiv (2 ^ Z0)))) (tm (.i (w64 ((w64 ((w64 ((uw (w64 (g + f))).fdiv (2 ^ Z0))) + j)) - c))) (tm (.i f) (tm (.fn n o) ?_)))));obtain ⟨h5, h7, h⟩ := bns h;refine bB rfl (eZ (passed := [.arr a 76 4 (p.map aD)]) (aF rfl) rfl (.func _ _ Tryz.call133) rfl rfl (ih p (w64 ((uw (w64 (g + f))).fdiv (2 ^ Z0))) (w64 ((w64 ((w64 ((uw (w64 (g + f))).fdiv (2 ^ Z0))) + j)) - c)) f h7)) ?_;rintro _ ⟨_, _, ⟨rfl, rfl⟩, rfl⟩;refine aB ?_;obtain rfl := sIn h;exact ⟨_, [.arr a 76 4 (h5.map aD)], [], _, .none, .refl _, .same _, rfl, rfl⟩
             ·refine aU ?_;obtain rfl := sIn h;exact ⟨_, [.arr a 76 4 (p.map aD)], [], _, .none, .refl _, .same _, rfl, rfl⟩
theorem pL (f : List aI) (k : Int) (l : Int) (m : Int) (e : aI → aI → Option Int) {r : (List aI)} {b : Value} (a : Nat) (c : List AV) (g : ∀ args w, (callFunc a args).run Tryz.prog w = .ok (.enter a args) w) (j : ∀ (x0 : aI) (x1 : aI) r, e x0 x1 = some r → Fn Tryz.prog a ([.agg (aD x0), .agg (aD x1)] ++ c) (.i r)) (h : jF f k l m e = some r) : fP Tryz.prog 133 [.d (.lit b), .i k, .i l, .i m, .fn a c] (Z22 b f) (fun r' o' => r' = .tup [] ∧ o' = [.arr b 76 4 (r.map aD)]) := vN e a c g j BIG _ _ _ _ h

theorem wY (u : List aI) (n : Int) (j : aI → aI → Option Int) {r : (List aI)} {b : Value} (c : Nat) (e : List AV) (p : ∀ args w, (callFunc c args).run Tryz.prog w = .ok (.enter c args) w) (q : ∀ (x0 : aI) (x1 : aI) r, j x0 x1 = some r → Fn Tryz.prog c ([.agg (aD x0), .agg (aD x1)] ++ e) (.i r)) (h : jS u n j = some r) : fP Tryz.prog 114 [.d (.lit b), .i n, .fn c e] (Z22 b u) (fun r' o' => r' = .tup [] ∧ o' = [.arr b 76 4 (r.map aD)]) := by
 unfold jS at h;refine tJ Tryz.func114 rfl (rs := []) Tryz.results114 Tryz.ntmps114 (Nat.le_of_ble_eq_true rfl) ?_;refine aC (aA (ta (.i 20) (aB (aC (aA (tm (.i 20) (ta (.i 0) (ta (.i 20) (aB (aC (aX ?_)))))))))));refine bP (S := Int × Int × (List aI)) [1, 2, 6] (fun s1 => [(0, .d (.lit b)), (7, .i s1.1), (8, .i s1.2.1)]) (fun s1 => [.arr b 76 4 (s1.2.2.map aD)]) (fun k s1 => eD n j 20 k s1.1 s1.2.1 s1.2.2) (fun _ => rfl) (0, 20, u) h (aN [0] rfl rfl (aH rfl (aH rfl (aH rfl (aM ⟨rfl, rfl, rfl, trivial⟩))))) ?_;rintro k2 ⟨t, m, o⟩ h;simp only [eD] at h;refine aC (aC (aA (tm (.i m) (tm (.i n) (to (scm rfl rfl rfl) (aB ?_))))));refine tih h (fun c3 h => ?_) (fun c3 h => ?_)
 ·refine aU (aX (aC (aA (tm (Z19 b) (tm (.i t) (tm (.i m) (tm (.fn c e) ?_)))))));obtain ⟨r4, h5, h⟩ := bns h;refine bB rfl (eZ (passed := [.arr b 76 4 (o.map aD)]) (aF rfl) rfl (.func _ _ Tryz.call132) rfl rfl (nA o t m j c e p q h5)) ?_;rintro _ ⟨_, _, ⟨rfl, rfl⟩, rfl⟩;refine aB (aC (aA (tm (.i m) (ta (.i m) (aB (aA (tm (.i m) (tm (.i 20) (to (sar rfl rfl rfl) (ta (.i (w64 (m + 20))) ?_))))))))));refine cM ?_;exact ⟨(m, w64 (m + 20), r4), h, aN [0] rfl rfl (aH rfl (aH rfl (aH rfl (aM ⟨rfl, rfl, rfl, trivial⟩))))⟩
 ·refine bQ ?_;refine .inl ⟨rfl, ?_⟩;simp only [lJ] at h;refine aC (aA (tm (Z19 b) (tm (.i t) (tm (.i n) (tm (.fn c e) ?_)))));obtain ⟨r6, h7, h⟩ := bns h;refine bB rfl (eZ (passed := [.arr b 76 4 (o.map aD)]) (aF rfl) rfl (.func _ _ Tryz.call132) rfl rfl (nA o t n j c e p q h7)) ?_;rintro _ ⟨_, _, ⟨rfl, rfl⟩, rfl⟩;refine aB (aX ?_);refine bP (S := Int × (List aI)) [1, 2] (fun s8 => [(0, .d (.lit b)), (6, .i s8.1)]) (fun s8 => [.arr b 76 4 (s8.2.map aD)]) (fun k s8 => cZ n j k s8.1 s8.2) (fun _ => rfl) (20, r6) h (aN [0] rfl rfl (aH rfl (aH rfl (aM ⟨rfl, rfl, trivial⟩)))) ?_;rintro k9 ⟨a, v⟩ h;simp only [cZ] at h;refine aC (aC (aA (tm (.i a) (tm (.i n) (to (scm rfl rfl rfl) (aB ?_))))));refine tih h (fun x h => ?_) (fun x h => ?_)
  ·refine aU (aX (aC (aA (tm (.i a) (to (sar rfl rfl rfl) (ta (.i 0) (ta (.i (w64 (2 * a))) (aB (aC (aX ?_))))))))));refine bP (S := Int × Int × (List aI)) [1, 2, 6] (fun s => [(0, .d (.lit b)), (7, .i s.1), (8, .i s.2.1)]) (fun s => [.arr b 76 4 (s.2.2.map aD)]) (fun k s => eE (cZ n j k9) n j a k s.1 s.2.1 s.2.2) (fun _ => rfl) (0, w64 (2 * a), v) h (aN [0] rfl rfl (aH rfl (aH rfl (aH rfl (aM ⟨rfl, rfl, rfl, trivial⟩))))) ?_;rintro F ⟨f, g, l⟩ h;simp only [eE] at h;refine aC (aC (aA (tm (.i g) (tm (.i n) (to (scm rfl rfl rfl) (aB ?_))))));refine tih h (fun y h => ?_) (fun y h => ?_)
   ·refine aU (aX (aC (aA (tm (Z19 b) (tm (.i f) (tm (.i f) (tm (.i a) (to (sar rfl rfl rfl) (tm (.i g) (tm (.fn c e) ?_))))))))));obtain ⟨z, A, h⟩ := bns h;refine bB rfl (eZ (passed := [.arr b 76 4 (l.map aD)]) (aF rfl) rfl (.func _ _ Tryz.call133) rfl rfl (pL l f (w64 (f + a)) g j c e p q A)) ?_;rintro _ ⟨_, _, ⟨rfl, rfl⟩, rfl⟩;refine aB (aC (aA (tm (.i g) (ta (.i g) (aB (aA (tm (.i g) (tm (.i a) (to (sar rfl rfl rfl) (to (sar rfl rfl rfl) (ta (.i (w64 (g + (w64 (2 * a))))) ?_)))))))))));refine cM ?_;exact ⟨(g, w64 (g + (w64 (2 * a))), z), h, aN [0] rfl rfl (aH rfl (aH rfl (aH rfl (aM ⟨rfl, rfl, rfl, trivial⟩))))⟩
   ·refine bQ ?_;refine .inl ⟨rfl, ?_⟩;simp only [lL] at h;refine aC (aC (aA (tm (.i f) (tm (.i a) (to (sar rfl rfl rfl) (ta (.i (w64 (f + a))) (aB (aC (aA (tm (.i (w64 (f + a))) (tm (.i n) (to (scm rfl rfl rfl) (aB ?_)))))))))))));refine tih h (fun B h => ?_) (fun B h => ?_)
    ·refine aA (tm (Z19 b) (tm (.i f) (tm (.i (w64 (f + a))) (tm (.i n) (tm (.fn c e) ?_)))));obtain ⟨C, E, h⟩ := bns h;refine bB rfl (eZ (passed := [.arr b 76 4 (l.map aD)]) (aF rfl) rfl (.func _ _ Tryz.call133) rfl rfl (pL l f (w64 (f + a)) n j c e p q E)) ?_;rintro _ ⟨_, _, ⟨rfl, rfl⟩, rfl⟩;refine aB (aA (tm (.i a) (to (sar rfl rfl rfl) (ta (.i (w64 (a * 2))) ?_))));refine cM ?_;simp only [gI] at h;exact ⟨(w64 (a * 2), C), h, aN [0] rfl rfl (aH rfl (aH rfl (aM ⟨rfl, rfl, trivial⟩)))⟩
    ·refine aU (aA (tm (.i a) (to (sar rfl rfl rfl) (ta (.i (w64 (a * 2))) ?_))));refine cM ?_;simp only [gI] at h;exact ⟨(w64 (a * 2), l), h, aN [0] rfl rfl (aH rfl (aH rfl (aM ⟨rfl, rfl, trivial⟩)))⟩
  ·refine bQ ?_;refine .inl ⟨rfl, ?_⟩;simp only [lK] at h;obtain rfl := sIn h;exact ⟨_, [.arr b 76 4 (v.map aD)], [], _, .none, .refl _, .same _, rfl, rfl⟩

theorem wL (f : List aI) (e : aI → aI → Option Int) {r : (List aI)} {b : Value} (a : Nat) (c : List AV) (g : ∀ args w, (callFunc a args).run Tryz.prog w = .ok (.enter a args) w) (j : ∀ (x0 : aI) (x1 : aI) r, e x0 x1 = some r → Fn Tryz.prog a ([.agg (aD x0), .agg (aD x1)] ++ c) (.i r)) (h : gW f e = some r) : fP Tryz.prog 94 [.d (.lit b), .fn a c] (Z22 b f) (fun r' o' => r' = .tup [] ∧ o' = [.arr b 76 4 (r.map aD)]) := by
 unfold gW at h;refine tJ Tryz.func94 rfl (rs := []) Tryz.results94 Tryz.ntmps94 (Nat.le_of_ble_eq_true rfl) ?_;refine aA (tm (Z19 b) (tm (Z19 b) (to (kB (m := 0) (aF rfl) rfl rfl dA.of) ?_)));refine tm (.fn a c) ?_;obtain ⟨r1, h2, h⟩ := bns h;refine bB rfl (eZ (passed := (Z22 b f)) (aF rfl) rfl (.func _ _ Tryz.call114) rfl rfl (wY f (f.length : Int) e a c g j h2)) ?_;rintro _ ⟨_, _, ⟨rfl, rfl⟩, rfl⟩;refine aB ?_;obtain rfl := sIn h;exact ⟨_, [.arr b 76 4 (r1.map aD)], [], _, .none, .refl _, .same _, rfl, rfl⟩

theorem aMm (a : aI) (b : aI) {r : Int} (h : rW a b = some r) : Fn Tryz.prog 95 [.agg (aD a), .agg (aD b)] (.i r) := by
 unfold rW at h;refine oT [.tmp 4] Tryz.func95 Tryz.results95 Tryz.ntmps95 ?_;refine aC (aA ?_);refine bB rfl (eB (v := .agg (aD a)) (aF rfl) rfl rfl rfl) ?_;rintro _ ⟨b1, rfl⟩;refine bB rfl (eB (v := .agg (aD b)) (aF rfl) rfl rfl rfl) ?_;rintro _ ⟨b2, rfl⟩;refine ta (.i 0) (aB (aC (aA (tfl 0 rfl rfl nH rfl aO (tfl 1 rfl rfl nH rfl aO (to (sar rfl rfl rfl) (ta (.i (w64 (a.Id - b.Id))) (aB ?_))))))));obtain rfl := sIn h;refine bL (bC (bE (l := [4]) ⟨rfl, trivial⟩)) ?_;exact rt

theorem aAh (s : List aI) {r : (List aI)} {j : Value} (h : kE s = some r) : fP Tryz.prog 96 [.d (.lit j)] (Z22 j s) (fun r' o' => ∃ w0 : Value, r' = .d (.lit w0) ∧ o' = [.arr w0 76 4 (r.map aD)]) := by
 unfold kE at h;refine kA Tryz.func96 rfl (rs := [.tmp 2]) Tryz.results96 Tryz.ntmps96 (Nat.le_of_ble_eq_true rfl) ?_;refine aC (aA (to (iK 76 4 (.inl rfl) (aF rfl)) ?_));refine aB (aC (aC (aA (tm (Z19 j) (to (kB (m := 0) (aF rfl) rfl rfl dA.of) ?_)))));refine to (scm rfl rfl rfl) (aB ?_);refine tih h (fun c2 h => ?_) (fun c2 h => ?_)
 ·refine aC (aA (tm (Z19 j) (ta (Z19 j) (aB ?_))));obtain rfl := sIn h;exact cI ⟨rfl, _, (Z22 j s), Z16, _, .one (.tmp 2 (v := .d (.lit j)) rfl), .refl _, .same _, j, rfl, rfl⟩
 ·refine aU (aC (aC (aA (ta (.i 1) (aB (aX ?_))))));refine bP (S := Int × (List aI) × Value) [] (fun s3 => [(0, .d (.lit s3.2.2)), (3, .i s3.1)]) (fun s3 => [.arr s3.2.2 76 4 (s3.2.1.map aD)]) (fun k s3 => dK k s3.1 s3.2.1) (fun _ => rfl) (1, s, j) h (aN [0] rfl rfl (aH rfl (aH rfl (aM trivial)))) ?_;rintro k5 ⟨c, p, w4⟩ h;simp only [dK] at h;refine aC (aC (aA (tm (.i c) (tm (.d (.lit w4)) (to (kB (m := 0) (aF rfl) rfl rfl dA.of) ?_)))));refine to (scm rfl rfl rfl) (aB ?_);refine tih h (fun c6 h => ?_) (fun c6 h => ?_)
  ·refine aU (aC (aX (aC ?_)));obtain ⟨x7, h8, h⟩ := bns h;obtain ⟨x9, x, h⟩ := bns h;refine cN mix 9 [0, 3] [(19, .agg (aD x7)), (24, .agg (aD x9))] ?_ ?_
   ·refine ⟨[(16, 0, .d (.lit w4)), (17, 1, .i c), (18, 2, .ep w4 4 c.toNat 0), (19, 3, .agg (aD x7)), (20, 4, .d (.lit w4)), (21, 5, .i c), (22, 6, .i (w64 (c - 1))), (23, 7, .ep w4 4 (w64 (c - 1)).toNat 0), (24, 8, .agg (aD x9))], ?_, ?_⟩
    · exact dk [0, 0, 102, 3, 0, 0, 6, 507, 8] ⟨go (zm (.d (.lit w4))),
      go (zm (.i c)),
      go (zia 0 rfl rfl rfl dA.of (aV aD h8)),
      go fun S hS => dX (aF rfl) (bF hS rfl) (l := 0) rfl (dM aD h8) gO (es := (aD x7)) rfl rfl,
      go (zm (.d (.lit w4))),
      go (zm (.i c)),
      go (zar rfl rfl rfl),
      go (zia 0 rfl rfl rfl dA.of (aV aD x)),
      go fun S hS => dX (aF rfl) (bF hS rfl) (l := 0) rfl (dM aD x) gO (es := (aD x9)) rfl rfl, trivial⟩
    · exact cC (aH rfl (aH rfl (aM ⟨rfl, rfl, trivial⟩)))
   ·refine to (aTo (a := x7) (b := x9) (aF rfl) rfl rfl rfl rfl Tryz.eqGuardType76 aKx) ?_;refine aB ?_;refine tih h (fun C h => ?_) (fun C h => ?_)
    ·refine aC (aA (tm (.d (.lit w4)) (tm (.i c) ?_)));obtain ⟨K, E, h⟩ := bns h;refine to (xU (m := 0) (aF rfl) rfl rfl rfl dA.of E) ?_;refine ta (.d (.lit (kD w4 c.toNat 4))) (aB (aC (aC (aA (ta (.i 1) (aB (aX ?_)))))));refine bP (S := Int × Int × (List aI)) [] (fun o => [(0, .d (.lit w4)), (3, .i o.1), (4, .d (.lit (kD w4 c.toNat 4))), (5, .i o.2.1)]) (fun o => [.arr w4 76 4 (o.2.2.map aD)]) (fun k o => eW (dK k5) c k o.1 o.2.1 o.2.2) (fun _ => rfl) (c, 1, p) h (aN [0] rfl rfl (aH rfl (aH rfl (aH rfl (aH rfl (aM trivial)))))) ?_;rintro L ⟨g, e, n⟩ h;simp only [eW] at h;refine aC (aC (aA (tm (.i e) (tm (.d (.lit (kD w4 c.toNat 4))) (to (aLy (m := 0) (aF rfl) rfl rfl dA.of) ?_)))));refine to (scm rfl rfl rfl) (aB ?_);refine tih h (fun F h => ?_) (fun F h => ?_)
     ·refine aU (aC (aX (aC ?_)));obtain ⟨t, y, h⟩ := bns h;obtain ⟨u, z, h⟩ := bns h;refine cN mix 9 [0, 3, 4, 5] [(38, .agg (aD t)), (43, .agg (aD u))] ?_ ?_
      ·refine ⟨[(35, 0, .d (.lit (kD w4 c.toNat 4))), (36, 1, .i e), (37, 2, .ep w4 4 (c.toNat + e.toNat) 0), (38, 3, .agg (aD t)), (39, 4, .d (.lit (kD w4 c.toNat 4))), (40, 5, .i e), (41, 6, .i (w64 (e - 1))), (42, 7, .ep w4 4 (c.toNat + (w64 (e - 1)).toNat) 0), (43, 8, .agg (aD u))], ?_, ?_⟩
       · exact dk [0, 0, 102, 3, 0, 0, 6, 507, 8] ⟨go (zm (.d (.lit (kD w4 c.toNat 4)))),
      go (zm (.i e)),
      go fun S hS => tM (m := 0) (aF rfl) (bF hS rfl) rfl (bF hS rfl) dA.of (sC (f := aD) y),
      go fun S hS => dX (aF rfl) (bF hS rfl) (l := 0) rfl (aAr aD y) gO (es := (aD t)) rfl rfl,
      go (zm (.d (.lit (kD w4 c.toNat 4)))),
      go (zm (.i e)),
      go (zar rfl rfl rfl),
      go fun S hS => tM (m := 0) (aF rfl) (bF hS rfl) rfl (bF hS rfl) dA.of (sC (f := aD) z),
      go fun S hS => dX (aF rfl) (bF hS rfl) (l := 0) rfl (aAr aD z) gO (es := (aD u)) rfl rfl, trivial⟩
       · exact cC (aH rfl (aH rfl (aM ⟨rfl, rfl, rfl, rfl, trivial⟩)))
      ·refine to (aIo (a := t) (b := u) (aF rfl) rfl rfl rfl rfl Tryz.eqGuardType76 aKx) ?_;refine aB ?_;refine tih h (fun G h => ?_) (fun G h => ?_)
       ·refine aC (aA (tm (.d (.lit w4)) (tm (.i g) (tm (.d (.lit (kD w4 c.toNat 4))) (tm (.i e) ?_)))));obtain ⟨w, A, h⟩ := bns h;refine to (tM (m := 0) (aF rfl) rfl rfl rfl dA.of (sC (f := aD) A)) ?_;refine to (dX (aF rfl) rfl (l := 0) rfl (aAr aD A) gO (es := (aD w)) rfl rfl) ?_;obtain ⟨M, B, h⟩ := bns h;refine to (iB (m := 0) (aF rfl) rfl rfl rfl dA.of (aV aD B)) ?_;refine to (lC (l := 0) rfl rfl (dM aD B) rfl rfl rfl Tryz.sizeOf76 rfl (aF rfl) (Nat.le_of_ble_eq_true rfl) (rows' := ((n.set g.toNat w)).map aD) (rX _ _ _ _ rfl)) ?_;refine aB (aA (tm (.i g) (to (sar rfl rfl rfl) (ta (.i (w64 (g + 1))) ?_))));refine cM ?_;refine aA (tm (.i e) (to (sar rfl rfl rfl) (ta (.i (w64 (e + 1))) (aB ?_))));exact ⟨(w64 (g + 1), w64 (e + 1), (n.set g.toNat w)), h, aN [0] rfl rfl (aH rfl (aH rfl (aH rfl (aH rfl (aM trivial)))))⟩
       ·refine cL ?_;refine aA (tm (.i e) (to (sar rfl rfl rfl) (ta (.i (w64 (e + 1))) (aB ?_))));exact ⟨(g, w64 (e + 1), n), h, aN [0] rfl rfl (aH rfl (aH rfl (aH rfl (aH rfl (aM trivial)))))⟩
     ·refine bQ ?_;refine .inl ⟨rfl, ?_⟩;simp only [oV] at h;refine aC (aA (tm (.d (.lit w4)) (tm (.i g) ?_)));obtain ⟨N, H, h⟩ := bns h;refine to (xU (m := 0) (aF rfl) rfl rfl rfl dA.of H) ?_;obtain ⟨O, I, h⟩ := bns h;refine to (aQa (f := aD) (m := 0) dA rfl rfl I (by decide)) ?_;refine aB (aC (aA (tm (.d (.lit w4)) (tm (.i g) ?_))));obtain ⟨P, J, h⟩ := bns h;refine to (aHy (m := 0) (q := g.toNat) (v := w4) (aF rfl) rfl rfl rfl rfl (aUg J) dA.of) ?_;refine ta (.d (.lit (lX w4 g.toNat))) (aB ?_);obtain rfl := sIn h;exact cI ⟨rfl, _, [.arr (lX w4 g.toNat) 76 4 ((n.take g.toNat).map aD)], [], _, .one (.tmp 2 (v := .d (.lit (lX w4 g.toNat))) rfl), .refl _, .same _, (lX w4 g.toNat), rfl, rfl⟩
    ·refine cL ?_;simp only [oU] at h;refine aA (tm (.i c) (to (sar rfl rfl rfl) (ta (.i (w64 (c + 1))) (aB ?_))));exact ⟨(w64 (c + 1), p, w4), h, aN [0] rfl rfl (aH rfl (aH rfl (aM trivial)))⟩
  ·refine bQ ?_;refine .inl ⟨rfl, ?_⟩;simp only [oS] at h;refine aC (aA (tm (.d (.lit w4)) (ta (.d (.lit w4)) (aB ?_))));obtain rfl := sIn h;exact cI ⟨rfl, _, [.arr w4 76 4 (p.map aD)], [], _, .one (.tmp 2 (v := .d (.lit w4)) rfl), .refl _, .same _, w4, rfl, rfl⟩

theorem aHt (q : List aI) {r : (List aI) × Bool} (h : pG q = some r) : Fn Tryz.prog 69 [.d (.sl 4 (q.map aD))] (.tup [.d (.sl 4 (r.1.map aD)), .b r.2]) := by
 unfold pG at h;refine oT [.tmp 2, .tmp 3] Tryz.func69 Tryz.results69 Tryz.ntmps69 ?_;refine aC (aA (to (aCi 4 (aF rfl)) ?_));refine ta Z3 (aB (aC (aA (tm (.d (.sl 4 (q.map aD))) ?_))));obtain ⟨r1, h2, h⟩ := bns h;refine bB rfl (aAd (aF rfl) (.func _ _ Tryz.call93) rfl rfl (aBp _ h2)) ?_;rintro _ ⟨v3, rfl⟩;refine ta (.d (.lit v3)) (aB (aC (aA (tm (.d (.lit v3)) ?_))));obtain ⟨r6, h7, h⟩ := bns h;refine bB rfl (eZ (passed := [.arr v3 76 4 (r1.map aD)]) (aF rfl) rfl (.func _ _ Tryz.call94) rfl rfl (wL r1 (fun y4 y5 => rW y4 y5) 95 [] Tryz.call95 (fun _ _ _ h => aMm _ _ h) h7)) ?_;rintro _ ⟨_, _, ⟨rfl, rfl⟩, rfl⟩;refine aB (aC (aC (aA (ta (.i 1) (aB (aX ?_))))));refine bP (S := Int) [4] (fun s8 => [(5, .i s8)]) (fun s8 => [.arr v3 76 4 (r6.map aD)]) (fun k s8 => lB r6 k s8) (fun _ => rfl) (1) h (aN [0] rfl rfl (aH rfl (aM ⟨rfl, trivial⟩))) ?_;rintro k9 c h;simp only [lB] at h;refine aC (aC (aA (tm (.i c) (tm (.d (.lit v3)) (to (kB (m := 0) (aF rfl) rfl rfl dA.of) ?_)))));refine to (scm rfl rfl rfl) (aB ?_);refine tih h (fun x h => ?_) (fun x h => ?_)
 ·refine aU (aC (aX (aC ?_)));obtain ⟨j, s, h⟩ := bns h;obtain ⟨n, t, h⟩ := bns h;obtain ⟨y, g, h⟩ := bns h;refine cN mix 24 [4, 5] [(39, .b y)] ?_ ?_
  ·refine bch g (fun e g => ?_) (fun e g => ?_)
   ·obtain ⟨o, u, g⟩ := bns g;obtain ⟨p, w, g⟩ := bns g;obtain rfl := sIn g;refine ⟨[(16, 0, .d (.lit v3)), (17, 1, .i c), (18, 2, .ep v3 4 c.toNat 0), (19, 3, .ep v3 4 c.toNat 0), (20, 4, .i j.Id), (21, 5, .d (.lit v3)), (22, 6, .i c), (23, 7, .i (w64 (c - 1))), (24, 8, .ep v3 4 (w64 (c - 1)).toNat 0), (25, 9, .ep v3 4 (w64 (c - 1)).toNat 0), (26, 10, .i n.Id), (27, 11, .b (decide (j.Id = n.Id))), (28, 12, .b (decide (j.Id = n.Id))), (29, 13, .d (.lit v3)), (30, 14, .i c), (31, 15, .ep v3 4 c.toNat 0), (32, 16, .agg (aD o)), (33, 17, .d (.lit v3)), (34, 18, .i c), (35, 19, .i (w64 (c - 1))), (36, 20, .ep v3 4 (w64 (c - 1)).toNat 0), (37, 21, .agg (aD p)), (38, 22, .b (!decide (o = p))), (39, 23, .b (!decide (o = p)))], ?_, ?_⟩
    · exact dk [0, 0, 102, 3, 4, 0, 0, 7, 608, 9, 10, 511, 12, 13, 13, 131415, 1316, 13, 13, 1319, 131820, 1321, 131722, 1323] ⟨go (zm (.d (.lit v3))),
      go (zm (.i c)),
      go (zia 0 rfl rfl rfl dA.of (aV aD s)),
      go fun S hS => aAe (aF rfl) (bF hS rfl) nH,
      go fun S hS => iY (aF rfl) (bF hS rfl) (m := 0) rfl (dM aD s) rfl aO,
      go (zm (.d (.lit v3))),
      go (zm (.i c)),
      go (zar rfl rfl rfl),
      go (zia 0 rfl rfl rfl dA.of (aV aD t)),
      go fun S hS => aAe (aF rfl) (bF hS rfl) nH,
      go fun S hS => iY (aF rfl) (bF hS rfl) (m := 0) rfl (dM aD t) rfl aO,
      go (zcm rfl rfl rfl),
      go (zm (.b (decide (j.Id = n.Id)))),
      gt e (zm (.d (.lit v3))),
      gt e (zm (.i c)),
      gt e (zia 0 rfl rfl rfl dA.of (aV aD u)),
      gt e fun S hS => dX (aF rfl) (bF hS rfl) (l := 0) rfl (dM aD u) gO (es := (aD o)) rfl rfl,
      gt e (zm (.d (.lit v3))),
      gt e (zm (.i c)),
      gt e (zar rfl rfl rfl),
      gt e (zia 0 rfl rfl rfl dA.of (aV aD w)),
      gt e fun S hS => dX (aF rfl) (bF hS rfl) (l := 0) rfl (dM aD w) gO (es := (aD p)) rfl rfl,
      gt e fun S hS => aIo (a := o) (b := p) (aF rfl) (bF hS rfl) (bF hS rfl) rfl rfl Tryz.eqGuardType76 aKx,
      go (zpt (.b (!decide (o = p))) e), trivial⟩
    · exact cC (aH rfl (aM ⟨rfl, rfl, trivial⟩))
   ·obtain rfl := sIn g;refine ⟨[(16, 0, .d (.lit v3)), (17, 1, .i c), (18, 2, .ep v3 4 c.toNat 0), (19, 3, .ep v3 4 c.toNat 0), (20, 4, .i j.Id), (21, 5, .d (.lit v3)), (22, 6, .i c), (23, 7, .i (w64 (c - 1))), (24, 8, .ep v3 4 (w64 (c - 1)).toNat 0), (25, 9, .ep v3 4 (w64 (c - 1)).toNat 0), (26, 10, .i n.Id), (27, 11, .b (decide (j.Id = n.Id))), (28, 12, .b (decide (j.Id = n.Id))), (29, 13, .tup []), (30, 14, .tup []), (31, 15, .tup []), (32, 16, .tup []), (33, 17, .tup []), (34, 18, .tup []), (35, 19, .tup []), (36, 20, .tup []), (37, 21, .tup []), (38, 22, .tup []), (39, 23, .b false)], ?_, ?_⟩
    · exact dk [0, 0, 102, 3, 4, 0, 0, 7, 608, 9, 10, 511, 12, 13, 13, 131415, 1316, 13, 13, 1319, 131820, 1321, 131722, 1323] ⟨go (zm (.d (.lit v3))),
      go (zm (.i c)),
      go (zia 0 rfl rfl rfl dA.of (aV aD s)),
      go fun S hS => aAe (aF rfl) (bF hS rfl) nH,
      go fun S hS => iY (aF rfl) (bF hS rfl) (m := 0) rfl (dM aD s) rfl aO,
      go (zm (.d (.lit v3))),
      go (zm (.i c)),
      go (zar rfl rfl rfl),
      go (zia 0 rfl rfl rfl dA.of (aV aD t)),
      go fun S hS => aAe (aF rfl) (bF hS rfl) nH,
      go fun S hS => iY (aF rfl) (bF hS rfl) (m := 0) rfl (dM aD t) rfl aO,
      go (zcm rfl rfl rfl),
      go (zm (.b (decide (j.Id = n.Id)))),
      gp e,
      gp e,
      gp e,
      gp e,
      gp e,
      gp e,
      gp e,
      gp e,
      gp e,
      gp e,
      go (zpf Z3 e), trivial⟩
    · exact cC (aH rfl (aM ⟨rfl, rfl, trivial⟩))
  ·refine aB ?_;refine tih h (fun z h => ?_) (fun z h => ?_)
   ·refine aC (aA (to (aCi 4 (aF rfl)) ?_));refine ta Z3 (aB ?_);obtain rfl := sIn h;refine bL (bC (bE (l := [2, 3]) ⟨rfl, rfl, trivial⟩)) ?_;exact cI ⟨rfl, _, .two _ _, rfl, rfl⟩
   ·refine cL ?_;refine aA (tm (.i c) (to (sar rfl rfl rfl) (ta (.i (w64 (c + 1))) (aB ?_))));exact ⟨(w64 (c + 1)), h, aN [0] rfl rfl (aH rfl (aM ⟨rfl, trivial⟩))⟩
 ·refine bQ ?_;refine .inl ⟨rfl, ?_⟩;simp only [zN] at h;refine aC (aA (tm (.d (.lit v3)) ?_));obtain ⟨A, B, h⟩ := bns h;refine bB rfl (eZ (passed := [.arr v3 76 4 (r6.map aD)]) (aF rfl) rfl (.func _ _ Tryz.call96) rfl rfl (aAh r6 B)) ?_;rintro _ ⟨_, _, ⟨C, rfl, rfl⟩, rfl⟩;refine ta (.d (.lit C)) (ta Z10 (aB ?_));obtain rfl := sIn h;refine bL (bC (wQ (k := 3) (v := .b true) (.same _) (wQ (k := 2) (v := .d (.sl 4 (A.map aD))) (.d (nX 0 rfl (cV (f := aD) fun _ => rfl))) (aCy)))) ?_;exact cI ⟨rfl, _, .two _ _, rfl, rfl⟩

theorem aKf (o : aP) {r : Bool} (h : rU o = some r) : Fn Tryz.prog 48 (Z32 o) (.b r) := by
 unfold rU at h;refine oT [.tmp 2] Tryz.func48 Tryz.results48 Tryz.ntmps48 ?_;refine aC (aA ?_);refine bB rfl (eB (v := .agg (aT o)) (aF rfl) rfl rfl rfl) ?_;rintro _ ⟨b1, rfl⟩;refine ta Z3 (aB (aC (aA (to (sla 0 (aT o) rfl rfl eR) ?_))));obtain ⟨r2, h3, h⟩ := bns h;refine to (eY (aF rfl) (.func _ _ Tryz.call55) rfl rfl (xQ _ h3)) ?_;refine ta (.d (.sl 1 (r2.map aL))) (aB (aC (aC (aA (tfl 0 rfl rfl pW rfl uV (to (sle rfl dA.of) (tm (.i 0) (aB (aX ?_)))))))));refine bP (S := Int) [1, 3, 12, 13] (fun s4 => [(14, .i s4)]) (fun s4 => [.box b1 0 (aT o)]) (fun k s4 => jJ r2 o.Items (o.Items.length : Int) o k s4) (fun _ => rfl) (0) h (aN [0] rfl rfl (aH rfl (aM ⟨rfl, rfl, rfl, rfl, trivial⟩))) ?_;rintro k5 g h;simp only [jJ] at h;refine aC (aA (to (scm rfl rfl rfl) (aB (aC ?_))));refine tih h (fun c6 h => ?_) (fun c6 h => ?_)
 ·refine aU (aC (aX (aC (aA ?_))));obtain ⟨x7, h8, h⟩ := bns h;refine to (six rfl rfl dA.of (aV aD h8)) (to (qF (aD x7) rfl gO) ?_);refine bB rfl (cK (zs := [.j 0, .j 0, .j 0, .j 0]) (aF rfl) Tryz.zeroValue76 rfl rfl) ?_;rintro _ ⟨b9, rfl⟩;refine to (sst 1 rfl rfl Tryz.sizeOf76 (aD x7)) (aB (aC (aA (ta (.i 10000000) (aB (aC (aC (aA (tfl 1 rfl rfl uP rfl aO (to (scm rfl rfl rfl) (aB ?_)))))))))));refine tih h (fun L h => ?_) (fun L h => ?_)
  ·refine aA (ta (.i 30) (aB (aC (aA (tfl 1 rfl rfl uP rfl aO (to (scm rfl rfl rfl) (tm (.b (!decide (x7.Kind = 1))) ?_)))))));obtain ⟨E, A, h⟩ := bns h;refine aW 4 [1, 3, 5, 6, 12, 13, 14] 28 E ?_ ?_
   ·refine bch A (fun p A => ?_) (fun p A => ?_)
    ·refine tkl 1 p rfl rfl uP rfl aO (tk p (scm rfl rfl rfl) (to (spt (.b (!decide (x7.Kind = 2))) p) ?_));obtain rfl := sIn A;refine aB (aK rfl ⟨rfl, rfl, rfl, rfl, rfl, rfl, rfl, trivial⟩ rfl)
    ·refine tp p (tp p (tp p (to (spf Z3 p) ?_)));obtain rfl := sIn A;refine aB (aK rfl ⟨rfl, rfl, rfl, rfl, rfl, rfl, rfl, trivial⟩ rfl)
   ·refine tm (.b E) ?_;obtain ⟨F, s, h⟩ := bns h;refine aW 5 [1, 3, 5, 6, 12, 13, 14] 34 F ?_ ?_
    ·refine bch s (fun j s => ?_) (fun j s => ?_)
     ·refine tp j (tp j (tp j (tp j (to (spt Z10 j) ?_))));obtain rfl := sIn s;refine aB (aK rfl ⟨rfl, rfl, rfl, rfl, rfl, rfl, rfl, trivial⟩ rfl)
     ·refine tkl 1 j rfl rfl nH rfl aO ?_;obtain ⟨M, N, s⟩ := bns s;refine tk j (scr Tryz.call61 (gR _ _ _ N)) (tk j (sn rfl) (to (spf (.b (!M)) j) ?_));obtain rfl := sIn s;refine aB (aK rfl ⟨rfl, rfl, rfl, rfl, rfl, rfl, rfl, trivial⟩ rfl)
    ·refine tm (.b F) ?_;obtain ⟨G, t, h⟩ := bns h;refine aW 6 [1, 3, 5, 6, 12, 13, 14] 41 G ?_ ?_
     ·refine bch t (fun a t => ?_) (fun a t => ?_)
      ·refine tp a (tp a (tp a (tp a (tp a (to (spt Z10 a) ?_)))));obtain rfl := sIn t;refine aB (aK rfl ⟨rfl, rfl, rfl, rfl, rfl, rfl, rfl, trivial⟩ rfl)
      ·refine tk a (sm (.d (.sl 1 (r2.map aL)))) (tkl 1 a rfl rfl aEd rfl aO ?_);obtain ⟨O, P, t⟩ := bns t;refine tk a (scr Tryz.call60 (fB _ _ P)) (tk a (sn rfl) (to (spf (.b (!O)) a) ?_));obtain rfl := sIn t;refine aB (aK rfl ⟨rfl, rfl, rfl, rfl, rfl, rfl, rfl, trivial⟩ rfl)
     ·refine tm (.b G) ?_;obtain ⟨Q, u, h⟩ := bns h;refine aW 6 [1, 3, 12, 13, 14] 48 Q ?_ ?_
      ·refine bch u (fun c u => ?_) (fun c u => ?_)
       ·refine tp c (tp c (tp c (tp c (tp c (to (spt Z10 c) ?_)))));obtain rfl := sIn u;refine aB (aK rfl ⟨rfl, rfl, rfl, rfl, rfl, trivial⟩ rfl)
       ·refine tkl 1 c rfl rfl yI rfl aO (tk c (sm (.i 30)) ?_);obtain ⟨T, U, u⟩ := bns u;refine tk c (scr Tryz.call61 (gR _ _ _ U)) (tk c (sn rfl) (to (spf (.b (!T)) c) ?_));obtain rfl := sIn u;refine aB (aK rfl ⟨rfl, rfl, rfl, rfl, rfl, trivial⟩ rfl)
      ·refine aB ?_;refine tih h (fun V h => ?_) (fun V h => ?_)
       ·refine aC (aA (ta Z3 (aB ?_)));obtain rfl := sIn h;refine bL (bC (bE (l := [2]) ⟨rfl, trivial⟩)) ?_;exact rt
       ·refine cL ?_;refine aA (to (sar rfl rfl rfl) (tm (.i (w64 (g + 1))) (aB ?_)));exact ⟨(w64 (g + 1)), h, aN [0] rfl rfl (aH rfl (aM ⟨rfl, rfl, rfl, rfl, trivial⟩))⟩
  ·refine aU (aC (aA (tfl 1 rfl rfl uP rfl aO (to (scm rfl rfl rfl) (tm (.b (!decide (x7.Kind = 1))) ?_)))));obtain ⟨H, B, h⟩ := bns h;refine aW 4 [1, 3, 5, 6, 12, 13, 14] 28 H ?_ ?_
   ·refine bch B (fun q B => ?_) (fun q B => ?_)
    ·refine tkl 1 q rfl rfl uP rfl aO (tk q (scm rfl rfl rfl) (to (spt (.b (!decide (x7.Kind = 2))) q) ?_));obtain rfl := sIn B;refine aB (aK rfl ⟨rfl, rfl, rfl, rfl, rfl, rfl, rfl, trivial⟩ rfl)
    ·refine tp q (tp q (tp q (to (spf Z3 q) ?_)));obtain rfl := sIn B;refine aB (aK rfl ⟨rfl, rfl, rfl, rfl, rfl, rfl, rfl, trivial⟩ rfl)
   ·refine tm (.b H) ?_;obtain ⟨I, w, h⟩ := bns h;refine aW 5 [1, 3, 5, 6, 12, 13, 14] 34 I ?_ ?_
    ·refine bch w (fun m w => ?_) (fun m w => ?_)
     ·refine tp m (tp m (tp m (tp m (to (spt Z10 m) ?_))));obtain rfl := sIn w;refine aB (aK rfl ⟨rfl, rfl, rfl, rfl, rfl, rfl, rfl, trivial⟩ rfl)
     ·refine tkl 1 m rfl rfl nH rfl aO ?_;obtain ⟨W, X, w⟩ := bns w;refine tk m (scr Tryz.call61 (gR _ _ _ X)) (tk m (sn rfl) (to (spf (.b (!W)) m) ?_));obtain rfl := sIn w;refine aB (aK rfl ⟨rfl, rfl, rfl, rfl, rfl, rfl, rfl, trivial⟩ rfl)
    ·refine tm (.b I) ?_;obtain ⟨J, x, h⟩ := bns h;refine aW 6 [1, 3, 5, 6, 12, 13, 14] 41 J ?_ ?_
     ·refine bch x (fun e x => ?_) (fun e x => ?_)
      ·refine tp e (tp e (tp e (tp e (tp e (to (spt Z10 e) ?_)))));obtain rfl := sIn x;refine aB (aK rfl ⟨rfl, rfl, rfl, rfl, rfl, rfl, rfl, trivial⟩ rfl)
      ·refine tk e (sm (.d (.sl 1 (r2.map aL)))) (tkl 1 e rfl rfl aEd rfl aO ?_);obtain ⟨Y, Z, x⟩ := bns x;refine tk e (scr Tryz.call60 (fB _ _ Z)) (tk e (sn rfl) (to (spf (.b (!Y)) e) ?_));obtain rfl := sIn x;refine aB (aK rfl ⟨rfl, rfl, rfl, rfl, rfl, rfl, rfl, trivial⟩ rfl)
     ·refine tm (.b J) ?_;obtain ⟨a0, y, h⟩ := bns h;refine aW 6 [1, 3, 12, 13, 14] 48 a0 ?_ ?_
      ·refine bch y (fun f y => ?_) (fun f y => ?_)
       ·refine tp f (tp f (tp f (tp f (tp f (to (spt Z10 f) ?_)))));obtain rfl := sIn y;refine aB (aK rfl ⟨rfl, rfl, rfl, rfl, rfl, trivial⟩ rfl)
       ·refine tkl 1 f rfl rfl yI rfl aO (tk f (sm (.i 10000000)) ?_);obtain ⟨a1, a2, y⟩ := bns y;refine tk f (scr Tryz.call61 (gR _ _ _ a2)) (tk f (sn rfl) (to (spf (.b (!a1)) f) ?_));obtain rfl := sIn y;refine aB (aK rfl ⟨rfl, rfl, rfl, rfl, rfl, trivial⟩ rfl)
      ·refine aB ?_;refine tih h (fun a3 h => ?_) (fun a3 h => ?_)
       ·refine aC (aA (ta Z3 (aB ?_)));obtain rfl := sIn h;refine bL (bC (bE (l := [2]) ⟨rfl, trivial⟩)) ?_;exact rt
       ·refine cL ?_;refine aA (to (sar rfl rfl rfl) (tm (.i (w64 (g + 1))) (aB ?_)));exact ⟨(w64 (g + 1)), h, aN [0] rfl rfl (aH rfl (aM ⟨rfl, rfl, rfl, rfl, trivial⟩))⟩
 ·refine bQ ?_;refine .inl ⟨rfl, ?_⟩;simp only [rL] at h;refine aC (aA (tfl 0 rfl rfl pW rfl uV ?_));obtain ⟨z, a4, h⟩ := bns h;refine to (eY (aF rfl) (.func _ _ Tryz.call69) rfl rfl (aHt _ a4)) ?_;refine tm (.tup [.d (.sl 4 (z.1.map aD)), .b z.2]) (to (sex rfl rfl) (to (sex rfl rfl) (ta (.d (.sl 4 (z.1.map aD))) (ta (.b z.2) (aB (aC (aA (tm (.b z.2) (tm (.b z.2) ?_)))))))));obtain ⟨K, C, h⟩ := bns h;refine aW 5 [] 62 K ?_ ?_
  ·refine bch C (fun n C => ?_) (fun n C => ?_)
   ·refine tkl 0 n rfl rfl pW rfl uV (tk n (sle rfl dA.of) (tk n (scm rfl rfl rfl) (to (spt (.b (decide ((o.Items.length : Int) ≤ 40))) n) ?_)));obtain rfl := sIn C;refine aB (aK rfl trivial rfl)
   ·refine tp n (tp n (tp n (tp n (to (spf Z3 n) ?_))));obtain rfl := sIn C;refine aB (aK rfl trivial rfl)
  ·refine ta (.b K) (aB ?_);obtain rfl := sIn h;refine bL (bC (bE (l := [2]) ⟨rfl, trivial⟩)) ?_;exact rt

theorem aKt (a0 : aR) (a1 : List aE) {r : Int} (h : tW a0 a1 = some r) : Fn Tryz.prog 45 (Z30 a0 a1) ((fun x : Int => .i x) r) := aPc (enc := fun x : Int => .i x) (aKs a0 a1 (aIr a0 a1 h (fun x => x = r) rfl))

theorem zM (a : aP) {r : Int} (h : rJ a = some r) : Fn Tryz.prog 23 (Z32 a) (.i r) := by
 unfold rJ at h;refine oT [.tmp 2] Tryz.func23 Tryz.results23 Tryz.ntmps23 ?_;refine aC (aA ?_);refine bB rfl (eB (v := .agg (aT a)) (aF rfl) rfl rfl rfl) ?_;rintro _ ⟨b1, rfl⟩;refine ta (.i 0) (aB (aC (aC (aA (to (sf rfl hZ) (to (sla 0 (aZ a.Tree) rfl rfl iT) (tfl 0 rfl rfl nF rfl rT ?_)))))));obtain ⟨r2, h3, h⟩ := bns h;refine to (scr Tryz.call45 (aKt _ _ h3)) (ta (.i r2) (aB (aC (aA (tm (.i r2) (to (scm rfl rfl rfl) (aB ?_)))))));refine tih h (fun c4 h => ?_) (fun c4 h => ?_)
 ·refine aC (aA (tm (.i r2) (ta (.i r2) (aB ?_))));obtain rfl := sIn h;refine bL (bC (bE (l := [2]) ⟨rfl, trivial⟩)) ?_;exact rt
 ·refine aU (aC (aX (aC (aA (to (sla 0 (aT a) rfl rfl eR) ?_)))));obtain ⟨r5, h6, h⟩ := bns h;refine to (scr Tryz.call46 (aLt _ h6)) (to (sn rfl) (ta (.b (!r5)) (aB ?_)));refine tih h (fun c7 h => ?_) (fun c7 h => ?_)
  ·refine aC (aA (ta (.i 100) (aB ?_)));obtain rfl := sIn h;refine bL (bC (bE (l := [2]) ⟨rfl, trivial⟩)) ?_;exact rt
  ·refine aC (aA (to (sla 0 (aT a) rfl rfl eR) ?_));obtain ⟨r8, h9, h⟩ := bns h;refine to (scr Tryz.call47 (aKg _ h9)) (to (sn rfl) (ta (.b (!r8)) (aB ?_)));refine tih h (fun c h => ?_) (fun c h => ?_)
   ·refine aC (aA (ta (.i 101) (aB ?_)));obtain rfl := sIn h;refine bL (bC (bE (l := [2]) ⟨rfl, trivial⟩)) ?_;exact rt
   ·refine aC (aA (to (sla 0 (aT a) rfl rfl eR) ?_));obtain ⟨d, e, h⟩ := bns h;refine to (scr Tryz.call48 (aKf _ e)) (to (sn rfl) (ta (.b (!d)) (aB ?_)));refine tih h (fun f h => ?_) (fun f h => ?_)
    ·refine aC (aA (ta (.i 102) (aB ?_)));obtain rfl := sIn h;refine bL (bC (bE (l := [2]) ⟨rfl, trivial⟩)) ?_;exact rt
    ·refine cL ?_;refine aC (aA (ta (.i 0) (aB ?_)));obtain rfl := sIn h;refine bL (bC (bE (l := [2]) ⟨rfl, trivial⟩)) ?_;exact rt

theorem aPu (b : aP) {r : Int × Int} (h : xP b = some r) : Fn Tryz.prog 31 (Z32 b) (.tup [.i r.1, .i r.2]) := by
 unfold xP at h;refine oT [.tmp 2, .tmp 3] Tryz.func31 Tryz.results31 Tryz.ntmps31 ?_;refine aC (aA ?_);refine bB rfl (eB (v := .agg (aT b)) (aF rfl) rfl rfl rfl) ?_;rintro _ ⟨b1, rfl⟩;refine ta (.i 0) (ta (.i 0) (aB (aC (aC (aA (to (sla 0 (aT b) rfl rfl eR) ?_))))));obtain ⟨r2, h3, h⟩ := bns h;refine to (scr Tryz.call23 (zM _ h3)) (ta (.i r2) (aB (aC (aA (tm (.i r2) (to (scm rfl rfl rfl) (aB ?_)))))));refine tih h (fun c4 h => ?_) (fun c4 h => ?_)
 ·refine aC (aA (tm (.i r2) (ta (.i 0) (ta (.i r2) (aB ?_)))));obtain rfl := sIn h;refine bL (bC (bE (l := [2, 3]) ⟨rfl, rfl, trivial⟩)) ?_;exact cI ⟨rfl, _, .two _ _, rfl, rfl⟩
 ·refine aU (aC (aA (tfl 0 rfl rfl iO rfl cD (to (sf rfl hZ) (tfl 0 rfl rfl hY rfl aO ?_)))));obtain ⟨x5, h6, h⟩ := bns h;refine to (six rfl rfl bG.of (aV aL h6)) (to (slc rfl aO) (ta (.i x5) (aB (aC (aC (aA (to (sf rfl hZ) (tfl 0 rfl rfl hY rfl aO (tm (.i 0) (aB (aX ?_)))))))))));refine bP (S := Int × Int) [1, 23] (fun s7 => [(5, .i s7.1), (24, .i s7.2)]) (fun s7 => [.box b1 0 (aT b)]) (fun k s7 => mP b.Tree.Rounds b k s7.1 s7.2) (fun _ => rfl) (x5, 0) h (aN [0] rfl rfl (aH rfl (aH rfl (aM ⟨rfl, rfl, trivial⟩)))) ?_;rintro k8 ⟨f, a⟩ h;simp only [mP] at h;refine aC (aA (to (scm rfl rfl rfl) (aB (aC ?_))));refine tih h (fun c9 h => ?_) (fun c9 h => ?_)
  ·refine aU (aC (aX (aC (aA (tm (.i a) (ta (.i a) (aB ?_)))))));obtain ⟨g, o, h⟩ := bns h;obtain ⟨w, p, h⟩ := bns h;refine cN mix 13 [1, 23, 24] [(27, .i f), (39, .i (w64 (g * 2 ^ (min (w64 ((Z23 b) - a)).toNat 64))))] ?_ ?_
   ·refine ⟨[(27, 0, .i f), (28, 1, .bp b1 0 3), (29, 2, .d (Z17 b)), (30, 3, .i a), (31, 4, .cp [.j g]), (32, 5, .i g), (33, 6, .bp b1 0 0), (34, 7, .bp b1 0 0), (35, 8, .i b.Tree.Rounds), (36, 9, .i (Z23 b)), (37, 10, .i a), (38, 11, .i (w64 ((Z23 b) - a))), (39, 12, .i (w64 (g * 2 ^ (min (w64 ((Z23 b) - a)).toNat 64))))], ?_, ?_⟩
    · exact dk [0, 0, 2, 0, 304, 5, 0, 7, 8, 9, 0, 1011, 612] ⟨go (zm (.i f)),
      go (zf rfl iO),
      go (zl 0 rfl rfl rfl cD),
      go (zm (.i a)),
      go (zix rfl rfl bG.of (aV aL o)),
      go (zlc rfl aO),
      go (zf rfl hZ),
      go (zf rfl hY),
      go (zl 0 rfl rfl rfl aO),
      go (zar rfl rfl rfl),
      go (zm (.i a)),
      go (zar rfl rfl rfl),
      go fun S hS => aOc (aF rfl) (bF hS rfl) (bF hS rfl) (aBz p), trivial⟩
    · exact cC (aH rfl (aH rfl (aM ⟨rfl, rfl, rfl, trivial⟩)))
   ·refine to (sar rfl rfl rfl) (ta (.i (w64 (f + (w64 (g * 2 ^ (min (w64 ((Z23 b) - a)).toNat 64)))))) ?_);refine cM ?_;refine aA (to (sar rfl rfl rfl) (tm (.i (w64 (a + 1))) (aB ?_)));exact ⟨(w64 (f + (w64 (g * 2 ^ (min (w64 ((Z23 b) - a)).toNat 64)))), w64 (a + 1)), h, aN [0] rfl rfl (aH rfl (aH rfl (aM ⟨rfl, rfl, trivial⟩)))⟩
  ·refine bQ ?_;refine .inl ⟨rfl, ?_⟩;simp only [vX] at h;refine aC (aC (aA (to (sf rfl hZ) (tfl 0 rfl rfl eA rfl cD (to (sle rfl bG.of) (tm (.i 0) (aB (aX ?_))))))));refine bP (S := Int × Int) [1, 44, 45] (fun j => [(5, .i j.1), (46, .i j.2)]) (fun j => [.box b1 0 (aT b)]) (fun k j => mQ b.Tree.Slots (b.Tree.Slots.length : Int) b k j.1 j.2) (fun _ => rfl) (f, 0) h (aN [0] rfl rfl (aH rfl (aH rfl (aM ⟨rfl, rfl, rfl, trivial⟩)))) ?_;rintro x ⟨c, e⟩ h;simp only [mQ] at h;refine aC (aA (to (scm rfl rfl rfl) (aB (aC ?_))));refine tih h (fun q h => ?_) (fun q h => ?_)
   ·refine aU (aC (aX (aC (aA ?_))));obtain ⟨m, s, h⟩ := bns h;refine to (six rfl rfl bG.of (aV aL s)) (to (slc rfl aO) (ta (.i m) (aB (aC (aA (tm (.i m) (to (scm rfl rfl rfl) (aB ?_))))))));refine tih h (fun t h => ?_) (fun t h => ?_)
    ·refine aA (tm (.i c) (tfl 0 rfl rfl iO rfl cD ?_));obtain ⟨n, u, h⟩ := bns h;refine to (six rfl rfl bG.of (aV aL u)) (to (slc rfl aO) (to (sar rfl rfl rfl) (ta (.i (w64 (c - n))) ?_)));refine cM ?_;refine aA (to (sar rfl rfl rfl) (tm (.i (w64 (e + 1))) (aB ?_)));exact ⟨(w64 (c - n), w64 (e + 1)), h, aN [0] rfl rfl (aH rfl (aH rfl (aM ⟨rfl, rfl, rfl, trivial⟩)))⟩
    ·refine cL ?_;refine aA (to (sar rfl rfl rfl) (tm (.i (w64 (e + 1))) (aB ?_)));exact ⟨(c, w64 (e + 1)), h, aN [0] rfl rfl (aH rfl (aH rfl (aM ⟨rfl, rfl, rfl, trivial⟩)))⟩
   ·refine bQ ?_;refine .inl ⟨rfl, ?_⟩;simp only [aFr] at h;refine aC (aA (tm (.i c) (ta (.i c) (ta (.i 0) (aB ?_)))));obtain rfl := sIn h;refine bL (bC (bE (l := [2, 3]) ⟨rfl, rfl, trivial⟩)) ?_;exact cI ⟨rfl, _, .two _ _, rfl, rfl⟩

theorem zH (e : List bR) (g : bR → Option Bool) {r : Int} (c : Nat) (f : List AV) (j : ∀ args w, (callFunc c args).run Tryz.prog w = .ok (.enter c args) w) (l : ∀ (x0 : bR) r, g x0 = some r → Fn Tryz.prog c ([.agg (bK x0)] ++ f) (.b r)) (h : lY e g = some r) : Fn Tryz.prog 71 [.d (.sl 3 (e.map bK)), .fn c f] (.i r) := by
 unfold lY at h;refine oT [.tmp 4] Tryz.func71 Tryz.results71 Tryz.ntmps71 ?_;refine aC (aA (ta (.i 0) (aB (aC (aC (aA (tm (.d (.sl 3 (e.map bK))) (to (sle rfl nP.of) (tm (.i 0) (aB (aX ?_)))))))))));refine bP (S := Int) [0, 1, 7] (fun s1 => [(8, .i s1)]) (fun s1 => []) (fun k s1 => fD e g (e.length : Int) k s1) (fun _ => rfl) (0) h (aN [] rfl rfl (aH rfl (aM ⟨rfl, rfl, rfl, trivial⟩))) ?_;rintro k2 a h;simp only [fD] at h;refine aC (aA (to (scm rfl rfl rfl) (aB (aC ?_))));refine tih h (fun c3 h => ?_) (fun c3 h => ?_)
 ·refine aU (aC (aX (aC (aA (tm (.i a) (ta (.i a) (aB (aC (aA (tm (.fn c f) (tm (.d (.sl 3 (e.map bK))) (tm (.i a) ?_))))))))))));obtain ⟨x4, h5, h⟩ := bns h;refine to (six rfl rfl nP.of (aV bK h5)) (to (qF (bK x4) rfl uB) ?_);obtain ⟨r6, h7, h⟩ := bns h;refine to (fW (aF rfl) (.clo _ _ _ _ j rfl) (aAx rfl) rfl (BVs.refl _ _) (l _ _  h7) rfl) ?_;refine aB ?_;refine tih h (fun c8 h => ?_) (fun c8 h => ?_)
  ·refine aC (aA (tm (.i a) (ta (.i a) (aB ?_))));obtain rfl := sIn h;exact rt
  ·refine cL ?_;refine aA (to (sar rfl rfl rfl) (tm (.i (w64 (a + 1))) (aB ?_)));exact ⟨(w64 (a + 1)), h, aN [] rfl rfl (aH rfl (aM ⟨rfl, rfl, rfl, trivial⟩))⟩
 ·refine bQ ?_;refine .inl ⟨rfl, ?_⟩;simp only [sB] at h;refine aC (aA (ta (.i (-1)) (aB ?_)));obtain rfl := sIn h;exact rt

theorem aLs (a : bR) (c : Int) {r : Bool} (h : tF a c = some r) : Fn Tryz.prog 72 [.agg (bK a), .cp [.j c]] (.b r) := by
 unfold tF at h;refine oT [.tmp 3] Tryz.func72 Tryz.results72 Tryz.ntmps72 ?_;refine aC (aA ?_);refine bB rfl (eB (v := .agg (bK a)) (aF rfl) rfl rfl rfl) ?_;rintro _ ⟨b1, rfl⟩;refine ta Z3 (aB (aC (aA (tfl 0 rfl rfl oM rfl aO (to (slc rfl aO) (to (scm rfl rfl rfl) (tm (.b (decide (a.One = c))) ?_)))))));obtain ⟨b2, h3, h⟩ := bns h;refine aW 10 [] 18 b2 ?_ ?_
 ·refine bch h3 (fun c4 h3 => ?_) (fun c4 h3 => ?_)
  ·refine tp c4 (tp c4 (tp c4 (tp c4 (tp c4 (tq (tq (tq (tp c4 (to (spt Z10 c4) ?_)))))))));obtain rfl := sIn h3;refine aB (aK rfl trivial rfl)
  ·refine tkl 0 c4 rfl rfl jN rfl aO (tk c4 (slc rfl aO) (tk c4 (scm rfl rfl rfl) (tk c4 (sm (.b (decide (a.Two = c)))) ?_)));obtain ⟨b5, h6, h3⟩ := bns h3;refine aW 4 [8] 17 b5 ?_ ?_
   ·refine bch h6 (fun c7 h6 => ?_) (fun c7 h6 => ?_)
    ·refine tkl 0 c7 rfl rfl jN rfl aO (tk c7 (scm rfl rfl rfl) (tk c4 (spt (.b (!decide (a.Two = (-1)))) c7) ?_));obtain rfl := sIn h6;refine aB (aK rfl ⟨rfl, trivial⟩ rfl)
    ·refine tp c7 (tp c7 (tp c7 (tk c4 (spf Z3 c7) ?_)));obtain rfl := sIn h6;refine aB (aK rfl ⟨rfl, trivial⟩ rfl)
   ·refine to (spf (.b b5) c4) ?_;obtain rfl := sIn h3;refine aB (aK rfl trivial rfl)
 ·refine ta (.b b2) (aB ?_);obtain rfl := sIn h;refine bL (bC (bE (l := [3]) ⟨rfl, trivial⟩)) ?_;exact rt

theorem aNo (g : aR) (j : List aE) (a : List Int) {Q : ((Option bA) × (List Int) × Int) → Prop} (h : qQ g j a Q) : fP Tryz.prog 97 [.agg (aZ g), .d (Z6 j), .d (Z8 a)] [] (fun r' o' => ∃ (r : (Option bA) × (List Int) × Int), Q r ∧ r' = .tup [fF bN r.1, .d (.sl 1 (r.2.1.map aL)), .i r.2.2] ∧ o' = []) := by
 unfold qQ at h;refine kA Tryz.func97 rfl (rs := [.tmp 6, .tmp 7, .tmp 8]) Tryz.results97 Tryz.ntmps97 (Nat.le_of_ble_eq_true rfl) ?_;refine aC (aA ?_);refine bB rfl (eB (v := .agg (aZ g)) (aF rfl) rfl rfl rfl) ?_;rintro _ ⟨b1, rfl⟩;refine ta (fF bN (none : Option bA)) (to (iK 3 1 (.inl rfl) (aF rfl)) ?_);refine ta (.i 0) (aB (aC (aA (to (sla 0 (aZ g) rfl rfl iT) (tm (Z27 j) ?_)))));refine bB rfl (aAs (aF rfl) (.func _ _ Tryz.call75) rfl rfl (aCz _ _ h)) ?_;rintro _ ⟨_, _, ⟨r3, h, rfl, rfl⟩, rfl⟩;refine tm (.tup [fF bN r3.1, .i r3.2]) (to (sex rfl rfl) (to (sex rfl rfl) (ta (fF bN r3.1) (ta (.i r3.2) (aB (aC (aC (aA (tm (.i r3.2) (to (scm rfl rfl rfl) (aB ?_)))))))))));refine tip h (fun c4 h => ?_) (fun c4 h => ?_)
 ·refine aC (aA (tm (.i r3.2) (ta (fF bN (none : Option bA)) (to (iK 3 1 (.inl rfl) (aF rfl)) ?_))));refine ta (.i r3.2) (aB ?_);exact cI ⟨rfl, _, [], [.box b1 0 (aZ g), .arr (.slice none 0 0) 3 1 (([] : List Int).map aL), .arr (.slice none 0 0) 3 1 (([] : List Int).map aL)], _, .three (.tmp 6 (v := fF bN (none : Option bA)) rfl) (.tmp 7 (v := .d Z29) rfl) (.tmp 8 (v := .i r3.2) rfl), .refl _, aGh (.cons (.same _) (.cons (.d (nX 2 rfl (cV (f := aL) fun _ => rfl))) (.cons (.same _) .nil))), ((none : Option bA), ([] : List Int), r3.2), h, rfl, rfl⟩
 ·refine aU (aC (aC (aA (tm (Z41 a) (to (sle rfl bG.of) (tm (.i 0) (aB (aX ?_))))))));refine wM [20, 21] (fun (s6 : (Option bA) × Int × (List Int) × Value) => [(6, fF bN s6.1), (7, .d (.lit s6.2.2.2)), (22, .i s6.2.1)]) (fun (s6 : (Option bA) × Int × (List Int) × Value) => [.arr s6.2.2.2 3 1 (s6.2.2.1.map aL)]) (fun (k : Nat) (s6 : (Option bA) × Int × (List Int) × Value) => nC Q a (a.length : Int) k s6.1 s6.2.1 s6.2.2.1) (fun _ h => h) (r3.1, 0, ([] : List Int), (.slice none 0 0)) h (aN [1] rfl rfl (aH rfl (aH rfl (aH rfl (aM ⟨rfl, rfl, trivial⟩))))) ?_;rintro k8 ⟨c, e, b, w7⟩ h;simp only [nC] at h;refine aC (aA (to (scm rfl rfl rfl) (aB (aC ?_))));refine tip h (fun c9 h => ?_) (fun c9 h => ?_)
  ·refine aU (aC (aX (aC (aA ?_))));obtain ⟨l, n, h⟩ := gL h;refine to (six rfl rfl bG.of (aV aL n)) (to (slc rfl aO) (ta (.i l) (aB (aC (aC (aA (tm (.i l) ?_)))))));obtain ⟨y, o, h⟩ := gL h;refine to (scr Tryz.call115 (gE _ _ _ o)) (to (sn rfl) (aB ?_));refine tip h (fun p h => ?_) (fun p h => ?_)
   ·refine aC (aA (ta (fF bN (none : Option bA)) (to (iK 3 1 (.inl rfl) (aF rfl)) ?_)));refine ta (.i 1) (aB ?_);exact cI ⟨rfl, _, [], [.arr w7 3 1 (b.map aL), .arr (.slice none 0 0) 3 1 (([] : List Int).map aL)], _, .three (.tmp 6 (v := fF bN (none : Option bA)) rfl) (.tmp 7 (v := .d Z29) rfl) (.tmp 8 (v := .i 1) rfl), .refl _, aGh (.cons (.same _) (.cons (.d (nX 1 rfl (cV (f := aL) fun _ => rfl))) (.cons (.same _) .nil))), ((none : Option bA), ([] : List Int), 1), h, rfl, rfl⟩
   ·refine aU (aA (tm (.d (.lit w7)) (tm (fF bN c) ?_)));obtain ⟨q, s, h⟩ := gL h;refine to (aRp (enc := bN) (aF rfl) rfl s) ?_;refine to (sfc [.sl 1 (q.players.map aL)] rfl pI) (to (slc rfl cD) (tm (.i l) ?_));obtain ⟨t, u, h⟩ := gL h;refine to (scr Tryz.call89 (vC _ _ u)) (to (fL (aF rfl) bG rfl rfl (rows := ([t]).map aL) rfl (cV (f := aL) fun _ => rfl) rfl (by decide)) ?_);obtain ⟨w, x, h⟩ := gL h;refine bB rfl (gM (i := 0) (aF rfl) bG rfl rfl rfl (fun _ => rfl) x rfl) ?_;rintro _ ⟨m, rfl⟩;refine ta (.d (.lit m)) ?_;refine cM ?_;refine aA (to (sar rfl rfl rfl) (tm (.i (w64 (e + 1))) (aB ?_)));exact ⟨(c, w64 (e + 1), w, m), h, aN [0] rfl rfl (aH rfl (aH rfl (aH rfl (aM ⟨rfl, rfl, trivial⟩))))⟩
  ·refine bQ ?_;refine .inl ⟨rfl, ?_⟩;simp only [yB] at h;refine aC (aA (tm (fF bN c) (tm (.d (.lit w7)) (ta (fF bN c) (ta (.d (.lit w7)) (ta (.i 0) (aB ?_)))))));exact cI ⟨rfl, _, [], [.arr w7 3 1 (b.map aL)], _, .three (.tmp 6 (v := fF bN c) rfl) (.tmp 7 (v := .d (.lit w7)) rfl) (.tmp 8 (v := .i 0) rfl), .refl _, aGh (.cons (.same _) (.cons (.d (nX 0 rfl (cV (f := aL) fun _ => rfl))) (.cons (.same _) .nil))), (c, b, 0), h, rfl, rfl⟩

theorem aGf (c : bA) (f : Int) {r : Int} (h : pR c f = some r) : Fn Tryz.prog 98 [.cp (bN c), .i f] (.i r) := by
 unfold pR at h;refine oT [.tmp 4] Tryz.func98 Tryz.results98 Tryz.ntmps98 ?_;refine aC (aA (ta (.i 0) (aB (aC (aC (aA (tm (Z1 c) (to (pH (aF rfl) rfl) ?_))))))));refine to (sfc [.j c.Tree.Rounds, .sl 1 (Z21 c)] rfl zA) (to (sfc [.j c.Tree.Rounds] rfl hY) (to (slc rfl aO) (tm (.i 0) (aB (aX ?_)))));refine bP (S := Int) [0, 1, 12] (fun s1 => [(13, .i s1)]) (fun s1 => []) (fun k s1 => jM c f c.Tree.Rounds k s1) (fun _ => rfl) (0) h (aN [] rfl rfl (aH rfl (aM ⟨rfl, rfl, rfl, trivial⟩))) ?_;rintro k2 e h;simp only [jM] at h;refine aC (aA (to (scm rfl rfl rfl) (aB (aC ?_))));refine tih h (fun c3 h => ?_) (fun c3 h => ?_)
 ·refine aU (aC (aX (aC (aA (tm (.i e) (ta (.i e) (aB (aC ?_))))))));obtain ⟨r4, h5, h⟩ := bns h;refine cN mix 12 [0, 1, 5, 12, 13] [(6, .i (cT r4 0 c.won)), (26, .b (dS r4 c.won))] ?_ ?_
  ·refine ⟨[(17, 0, .cp [.j c.Tree.Rounds, .sl 1 (Z21 c), .sl 1 (Z42 c), .mp false (c.won.map fun p : aG × Int => ((fun a : aG => Value.agg ((aQ a).map bT).toArray) p.1, aL p.2))]), (18, 1, .cp [.j c.Tree.Rounds, .sl 1 (Z21 c), .sl 1 (Z42 c), .mp false (c.won.map fun p : aG × Int => ((fun a : aG => Value.agg ((aQ a).map bT).toArray) p.1, aL p.2))]), (19, 2, .cp [.mp false (c.won.map fun p : aG × Int => ((fun a : aG => Value.agg ((aQ a).map bT).toArray) p.1, aL p.2))]), (20, 3, .d (.mp false (c.won.map fun p : aG × Int => ((fun a : aG => Value.agg ((aQ a).map bT).toArray) p.1, aL p.2)))), (21, 4, .i e), (22, 5, .i f), (23, 6, .agg (aQ r4)), (24, 7, .tup [.i (cT r4 0 c.won), .b (dS r4 c.won)]), (16, 8, .tup [.i (cT r4 0 c.won), .b (dS r4 c.won)]), (25, 9, .i (cT r4 0 c.won)), (26, 10, .b (dS r4 c.won)), (6, 11, .i (cT r4 0 c.won))], ?_, ?_⟩
   · exact dk [0, 1, 2, 3, 0, 0, 506, 407, 8, 9, 9, 10] ⟨go (zm (Z1 c)),
      go fun S hS => pH (aF rfl) (bF hS rfl),
      go (zfc [.mp false (c.won.map fun p : aG × Int => ((fun a : aG => Value.agg ((aQ a).map bT).toArray) p.1, aL p.2))] rfl aBy),
      go (zlc rfl aIk),
      go (zm (.i e)),
      go (zm (.i f)),
      go fun S hS => eY (aF rfl) (.func _ _ Tryz.call116) (ev2 (bF hS rfl) (ev2 (bF hS rfl) evn)) rfl (uD _ _ h5),
      go fun S hS => aFu (enc := aL) (agg := false) (l := c.won) (z := 0) (a := r4) (aF rfl) aAn Tryz.underlying151 Tryz.zeroValue3 (fun _ _ => .d (.lit _ rfl)) (bF hS rfl) rfl rfl (bF hS rfl) (qL (enc := aQ) r4 rfl),
      go (zm (.tup [.i (cT r4 0 c.won), .b (dS r4 c.won)])),
      go (zex rfl rfl),
      go (zex rfl rfl),
      go (za (.i (cT r4 0 c.won))), trivial⟩
   · exact cC (aH rfl (aH rfl (aM ⟨rfl, rfl, rfl, rfl, rfl, trivial⟩)))
  ·refine ta (.b (dS r4 c.won)) (aB (aC (aA (tm (.b (dS r4 c.won)) (to (sn rfl) (tm (.b (!(dS r4 c.won))) ?_))))));obtain ⟨b6, h7, h⟩ := bns h;refine aW 10 [0, 1, 5, 12, 13] 39 b6 ?_ ?_
   ·refine bch h7 (fun c9 h7 => ?_) (fun c9 h7 => ?_)
    ·refine tp c9 (tp c9 (tp c9 (tp c9 (tp c9 (tp c9 (tp c9 (tp c9 (tp c9 (to (spt Z10 c9) ?_)))))))));obtain rfl := sIn h7;refine aB (aK rfl ⟨rfl, rfl, rfl, rfl, rfl, trivial⟩ rfl)
    ·refine tk c9 (sm (.i (cT r4 0 c.won))) (tk c9 (sm (Z1 c)) (tk c9 (pH (aF rfl) rfl) ?_));refine tk c9 (sfc [.sl 1 (Z42 c)] rfl pI) (tk c9 (slc rfl cD) (tk c9 (sm (.i f)) ?_));obtain ⟨g, j, h7⟩ := bns h7;refine tk c9 (six rfl rfl bG.of (aV aL j)) (tk c9 (slc rfl aO) (tk c9 (scm rfl rfl rfl) (to (spf (.b (!decide ((cT r4 0 c.won) = g))) c9) ?_)));obtain rfl := sIn h7;refine aB (aK rfl ⟨rfl, rfl, rfl, rfl, rfl, trivial⟩ rfl)
   ·refine aB ?_;refine tih h (fun c8 h => ?_) (fun c8 h => ?_)
    ·refine aC (aA (tm (.i e) (ta (.i e) (aB ?_))));obtain rfl := sIn h;exact rt
    ·refine cL ?_;refine aA (to (sar rfl rfl rfl) (tm (.i (w64 (e + 1))) (aB ?_)));exact ⟨(w64 (e + 1)), h, aN [] rfl rfl (aH rfl (aM ⟨rfl, rfl, rfl, trivial⟩))⟩
 ·refine bQ ?_;refine .inl ⟨rfl, ?_⟩;simp only [tP] at h;refine aC (aA (tm (Z1 c) (to (pH (aF rfl) rfl) ?_)));refine to (sfc [.j c.Tree.Rounds, .sl 1 (Z21 c)] rfl zA) (to (sfc [.j c.Tree.Rounds] rfl hY) (to (slc rfl aO) (ta (.i c.Tree.Rounds) (aB ?_))));obtain rfl := sIn h;exact rt

theorem aGe (c : bA) (f : Int) {r : Int} (h : pQ c f = some r) : Fn Tryz.prog 99 [.cp (bN c), .i f] (.i r) := by
 unfold pQ at h;refine oT [.tmp 4] Tryz.func99 Tryz.results99 Tryz.ntmps99 ?_;refine aC (aA (ta (.i 0) (aB (aC (aC (aA (tm (Z1 c) (to (pH (aF rfl) rfl) ?_))))))));refine to (sfc [.j c.Tree.Rounds, .sl 1 (Z21 c)] rfl zA) (to (sfc [.j c.Tree.Rounds] rfl hY) (to (slc rfl aO) (tm (.i 0) (aB (aX ?_)))));refine bP (S := Int) [0, 1, 12] (fun s1 => [(13, .i s1)]) (fun s1 => []) (fun k s1 => jL c f c.Tree.Rounds k s1) (fun _ => rfl) (0) h (aN [] rfl rfl (aH rfl (aM ⟨rfl, rfl, rfl, trivial⟩))) ?_;rintro k2 e h;simp only [jL] at h;refine aC (aA (to (scm rfl rfl rfl) (aB (aC ?_))));refine tih h (fun c3 h => ?_) (fun c3 h => ?_)
 ·refine aU (aC (aX (aC (aA (tm (.i e) (ta (.i e) (aB (aC ?_))))))));obtain ⟨r4, h5, h⟩ := bns h;refine cN mix 12 [0, 1, 5, 12, 13] [(6, .i (cT r4 0 c.won)), (26, .b (dS r4 c.won))] ?_ ?_
  ·refine ⟨[(17, 0, .cp [.j c.Tree.Rounds, .sl 1 (Z21 c), .sl 1 (Z42 c), .mp false (c.won.map fun p : aG × Int => ((fun a : aG => Value.agg ((aQ a).map bT).toArray) p.1, aL p.2))]), (18, 1, .cp [.j c.Tree.Rounds, .sl 1 (Z21 c), .sl 1 (Z42 c), .mp false (c.won.map fun p : aG × Int => ((fun a : aG => Value.agg ((aQ a).map bT).toArray) p.1, aL p.2))]), (19, 2, .cp [.mp false (c.won.map fun p : aG × Int => ((fun a : aG => Value.agg ((aQ a).map bT).toArray) p.1, aL p.2))]), (20, 3, .d (.mp false (c.won.map fun p : aG × Int => ((fun a : aG => Value.agg ((aQ a).map bT).toArray) p.1, aL p.2)))), (21, 4, .i e), (22, 5, .i f), (23, 6, .agg (aQ r4)), (24, 7, .tup [.i (cT r4 0 c.won), .b (dS r4 c.won)]), (16, 8, .tup [.i (cT r4 0 c.won), .b (dS r4 c.won)]), (25, 9, .i (cT r4 0 c.won)), (26, 10, .b (dS r4 c.won)), (6, 11, .i (cT r4 0 c.won))], ?_, ?_⟩
   · exact dk [0, 1, 2, 3, 0, 0, 506, 407, 8, 9, 9, 10] ⟨go (zm (Z1 c)),
      go fun S hS => pH (aF rfl) (bF hS rfl),
      go (zfc [.mp false (c.won.map fun p : aG × Int => ((fun a : aG => Value.agg ((aQ a).map bT).toArray) p.1, aL p.2))] rfl aBy),
      go (zlc rfl aIk),
      go (zm (.i e)),
      go (zm (.i f)),
      go fun S hS => eY (aF rfl) (.func _ _ Tryz.call116) (ev2 (bF hS rfl) (ev2 (bF hS rfl) evn)) rfl (uD _ _ h5),
      go fun S hS => aFu (enc := aL) (agg := false) (l := c.won) (z := 0) (a := r4) (aF rfl) aAn Tryz.underlying151 Tryz.zeroValue3 (fun _ _ => .d (.lit _ rfl)) (bF hS rfl) rfl rfl (bF hS rfl) (qL (enc := aQ) r4 rfl),
      go (zm (.tup [.i (cT r4 0 c.won), .b (dS r4 c.won)])),
      go (zex rfl rfl),
      go (zex rfl rfl),
      go (za (.i (cT r4 0 c.won))), trivial⟩
   · exact cC (aH rfl (aH rfl (aM ⟨rfl, rfl, rfl, rfl, rfl, trivial⟩)))
  ·refine ta (.b (dS r4 c.won)) (aB (aC (aA (tm (.b (dS r4 c.won)) (tm (.b (dS r4 c.won)) ?_)))));obtain ⟨b6, h7, h⟩ := bns h;refine aW 10 [0, 1, 5, 12, 13] 38 b6 ?_ ?_
   ·refine bch h7 (fun c9 h7 => ?_) (fun c9 h7 => ?_)
    ·refine tk c9 (sm (.i (cT r4 0 c.won))) (tk c9 (sm (Z1 c)) (tk c9 (pH (aF rfl) rfl) ?_));refine tk c9 (sfc [.sl 1 (Z42 c)] rfl pI) (tk c9 (slc rfl cD) (tk c9 (sm (.i f)) ?_));obtain ⟨g, j, h7⟩ := bns h7;refine tk c9 (six rfl rfl bG.of (aV aL j)) (tk c9 (slc rfl aO) (tk c9 (scm rfl rfl rfl) (to (spt (.b (!decide ((cT r4 0 c.won) = g))) c9) ?_)));obtain rfl := sIn h7;refine aB (aK rfl ⟨rfl, rfl, rfl, rfl, rfl, trivial⟩ rfl)
    ·refine tp c9 (tp c9 (tp c9 (tp c9 (tp c9 (tp c9 (tp c9 (tp c9 (tp c9 (to (spf Z3 c9) ?_)))))))));obtain rfl := sIn h7;refine aB (aK rfl ⟨rfl, rfl, rfl, rfl, rfl, trivial⟩ rfl)
   ·refine aB ?_;refine tih h (fun c8 h => ?_) (fun c8 h => ?_)
    ·refine aC (aA (tm (.i e) (ta (.i e) (aB ?_))));obtain rfl := sIn h;exact rt
    ·refine cL ?_;refine aA (to (sar rfl rfl rfl) (tm (.i (w64 (e + 1))) (aB ?_)));exact ⟨(w64 (e + 1)), h, aN [] rfl rfl (aH rfl (aM ⟨rfl, rfl, rfl, trivial⟩))⟩
 ·refine bQ ?_;refine .inl ⟨rfl, ?_⟩;simp only [tO] at h;refine aC (aA (tm (Z1 c) (to (pH (aF rfl) rfl) ?_)));refine to (sfc [.j c.Tree.Rounds, .sl 1 (Z21 c)] rfl zA) (to (sfc [.j c.Tree.Rounds] rfl hY) (to (slc rfl aO) (ta (.i c.Tree.Rounds) (aB ?_))));obtain rfl := sIn h;exact rt

theorem aIs (e : aR) (l : List aE) (c : Int) {Q : (cG × Int) → Prop} (h : qI e l c Q) : fP Tryz.prog 73 [.agg (aZ e), .d (Z6 l), .i c] [] (fun r' o' => ∃ (r : cG × Int), Q r ∧ r' = .tup [.agg (bX r.1), .i r.2] ∧ o' = []) := by
 unfold qI at h;refine kA Tryz.func73 rfl (rs := [.cell 6 37, .tmp 7]) Tryz.results73 Tryz.ntmps73 (Nat.le_of_ble_eq_true rfl) ?_;refine aC (aA ?_);refine bB rfl (eB (v := .agg (aZ e)) (aF rfl) rfl rfl rfl) ?_;rintro _ ⟨b1, rfl⟩;refine bB rfl (cK (zs := [.j 0, .j 0]) (aF rfl) Tryz.zeroValue37 rfl rfl) ?_;rintro _ ⟨b2, rfl⟩;refine ta (.i 0) (aB (aC (aA (to (sla 0 (aZ e) rfl rfl iT) (tm (Z27 l) (tm (.i c) (to (fL (aF rfl) bG rfl rfl (rows := ([c]).map aL) rfl (cV (f := aL) fun _ => rfl) rfl (by decide)) ?_)))))));refine bB rfl (aAs (aF rfl) (.func _ _ Tryz.call97) rfl rfl (aNo _ _ _ h)) ?_;rintro _ ⟨_, _, ⟨r3, h, rfl, rfl⟩, rfl⟩;refine tm (.tup [fF bN r3.1, .d (.sl 1 (r3.2.1.map aL)), .i r3.2.2]) (to (sex rfl rfl) (to (sex rfl rfl) (to (sex rfl rfl) (ta (fF bN r3.1) (ta (.d (.sl 1 (r3.2.1.map aL))) (ta (.i r3.2.2) (aB (aC (aX (aC (aA (tm (.i r3.2.2) (to (scm rfl rfl rfl) ?_)))))))))))));refine ta (.b (!decide (r3.2.2 = 0))) (aB ?_);refine tip h (fun c4 h => ?_) (fun c4 h => ?_)
 ·refine aC (aA (to (dZ (aF rfl) zI (zs := [.j 0, .j 0]) rfl rfl rfl rfl (es := [.j 0, .j 0]) rfl) ?_));refine tm (.i r3.2.2) (to (sst 1 rfl rfl Tryz.sizeOf37 Z13) (ta (.i r3.2.2) (aB ?_)));exact cI ⟨rfl, _, [], [.box b1 0 (aZ e), .box b2 0 Z13], _, .two (.cell 6 37 rfl (i := 1) rfl vO (es := Z13) rfl rfl) (.tmp 7 (v := .i r3.2.2) rfl), .refl _, .same _, ((cG.mk 0 0), r3.2.2), h, rfl, rfl⟩
 ·refine aC (aA (tm (.d (.sl 1 (r3.2.1.map aL))) ?_));obtain ⟨x5, h6, h⟩ := gL h;refine to (six rfl rfl bG.of (aV aL h6)) (to (slc rfl aO) (to (scm rfl rfl rfl) (ta (.b (decide (x5 < 0))) (aB ?_))));refine tip h (fun c7 h => ?_) (fun c7 h => ?_)
  ·refine aC (aA (to (dZ (aF rfl) zI (zs := [.j 0, .j 0]) rfl rfl rfl rfl (es := [.j 0, .j 0]) rfl) ?_));refine to (sst 1 rfl rfl Tryz.sizeOf37 Z13) (ta (.i 3) (aB ?_));exact cI ⟨rfl, _, [], [.box b1 0 (aZ e), .box b2 0 Z13], _, .two (.cell 6 37 rfl (i := 1) rfl vO (es := Z13) rfl rfl) (.tmp 7 (v := .i 3) rfl), .refl _, .same _, ((cG.mk 0 0), 3), h, rfl, rfl⟩
  ·refine cL ?_;refine aC ?_;obtain ⟨x8, h9, h⟩ := gL h;refine bL (aYt (enc := bN) (k := 8) rfl h9) ?_;obtain ⟨n, o, h⟩ := gL h;obtain ⟨g, q, h⟩ := gL h;obtain ⟨m, s, h⟩ := gL h;refine cN mix 9 [6] [(35, .i g), (36, .cp [.j x8.Tree.Rounds, .sl 1 (x8.Tree.Slots.map aL), .sl 1 (x8.players.map aL), .mp false (x8.won.map fun p : aG × Int => ((fun a : aG => Value.agg ((aQ a).map bT).toArray) p.1, aL p.2))]), (39, .i m)] ?_ ?_
   ·refine ⟨[(31, 0, .cp [.j x8.Tree.Rounds, .sl 1 (x8.Tree.Slots.map aL), .sl 1 (x8.players.map aL), .mp false (x8.won.map fun p : aG × Int => ((fun a : aG => Value.agg ((aQ a).map bT).toArray) p.1, aL p.2))]), (32, 1, .d (.sl 1 (r3.2.1.map aL))), (33, 2, .cp [.j n]), (34, 3, .i n), (35, 4, .i g), (36, 5, .cp [.j x8.Tree.Rounds, .sl 1 (x8.Tree.Slots.map aL), .sl 1 (x8.players.map aL), .mp false (x8.won.map fun p : aG × Int => ((fun a : aG => Value.agg ((aQ a).map bT).toArray) p.1, aL p.2))]), (37, 6, .d (.sl 1 (r3.2.1.map aL))), (38, 7, .cp [.j m]), (39, 8, .i m)], ?_, ?_⟩
    · exact dk [0, 0, 2, 3, 104, 0, 0, 7, 8] ⟨go (zm (.cp [.j x8.Tree.Rounds, .sl 1 (x8.Tree.Slots.map aL), .sl 1 (x8.players.map aL), .mp false (x8.won.map fun p : aG × Int => ((fun a : aG => Value.agg ((aQ a).map bT).toArray) p.1, aL p.2))])),
      go (zm (.d (.sl 1 (r3.2.1.map aL)))),
      go (zix rfl rfl bG.of (aV aL o)),
      go (zlc rfl aO),
      go fun S hS => fW (aF rfl) (.func _ _ Tryz.call98) (ev2 (bF hS rfl) (ev2 (bF hS rfl) evn)) rfl (BVs.refl _ _) (aGf _ _ q) rfl,
      go (zm (.cp [.j x8.Tree.Rounds, .sl 1 (x8.Tree.Slots.map aL), .sl 1 (x8.players.map aL), .mp false (x8.won.map fun p : aG × Int => ((fun a : aG => Value.agg ((aQ a).map bT).toArray) p.1, aL p.2))])),
      go (zm (.d (.sl 1 (r3.2.1.map aL)))),
      go (zix rfl rfl bG.of (aV aL s)),
      go (zlc rfl aO), trivial⟩
    · exact cC (aH rfl (aH rfl (aH rfl (aM ⟨rfl, trivial⟩))))
   ·obtain ⟨j, t, h⟩ := gL h;refine to (scr Tryz.call99 (aGe _ _ t)) (to (dZ (aF rfl) zI (zs := [.j 0, .j 0]) rfl rfl rfl rfl (es := [.j g, .j j]) rfl) ?_);refine to (sst 1 rfl rfl Tryz.sizeOf37 (bX (cG.mk g j))) (ta (.i 0) (aB ?_));exact cI ⟨rfl, _, [], [.box b1 0 (aZ e), .box b2 0 (bX (cG.mk g j))], _, .two (.cell 6 37 rfl (i := 1) rfl vO (es := (bX (cG.mk g j))) rfl rfl) (.tmp 7 (v := .i 0) rfl), .refl _, .same _, ((cG.mk g j), 0), h, rfl, rfl⟩

theorem aCf (a : Int) (c : bR) (d : Int) {r : Int} (h : qH a c d = some r) : Fn Tryz.prog 74 [.i a, .cp (bK c), .cp [.j d]] (.i r) := by
 unfold qH at h;refine oT [.tmp 4] Tryz.func74 Tryz.results74 Tryz.ntmps74 ?_;refine aC (aA (ta (.i 0) (aB (aC (aX (aC (aA (to (sfc [.j c.Two] rfl jN) (to (slc rfl aO) (to (scm rfl rfl rfl) (ta (.b (decide (c.Two = (-1)))) (aB ?_))))))))))));refine tih h (fun c1 h => ?_) (fun c1 h => ?_)
 ·refine aC (aA (tm (.i a) (ta (.i a) (aB ?_))));obtain rfl := sIn h;exact rt
 ·refine aC (aA (to (sfc [.j c.One] rfl oM) (to (slc rfl aO) (to (slc rfl aO) (to (scm rfl rfl rfl) (ta (.b (decide (c.One = d))) (aB ?_)))))));refine tih h (fun c2 h => ?_) (fun c2 h => ?_)
  ·refine aC (aA (tm (.i a) (to (sar rfl rfl rfl) (to (aFe (aF rfl) rfl rfl (by decide)) ?_))));refine ta (.i (w64 ((w64 (a + 1)).tdiv 2))) (aB ?_);obtain rfl := sIn h;exact rt
  ·refine cL ?_;refine aC (aA (tm (.i a) (to (aFe (aF rfl) rfl rfl (by decide)) ?_)));refine ta (.i (w64 (a.tdiv 2))) (aB ?_);obtain rfl := sIn h;exact rt

theorem aIt (a0 : aR) (a1 : List aE) (a2 : Int) {r : cG × Int} (h : rK a0 a1 a2 = some r) : Fn Tryz.prog 73 [.agg (aZ a0), .d (Z6 a1), .i a2] ((fun x : cG × Int => .tup [.agg (bX x.1), .i x.2]) r) := aPc (enc := fun x : cG × Int => .tup [.agg (bX x.1), .i x.2]) (aIs a0 a1 a2 (aFw a0 a1 a2 h (fun x => x = r) rfl))

theorem aFs (c : aP) (a : Int) {r : cG × Bool} (h : tL c a = some r) : Fn Tryz.prog 40 [.agg (aT c), .i a] (.tup [.agg (bX r.1), .b r.2]) := by
 unfold tL at h;refine kX Tryz.func40 rfl (rs := [.cell 4 37, .tmp 5]) Tryz.results40 Tryz.ntmps40 (Nat.le_of_ble_eq_true rfl) ?_;refine aC (aA ?_);refine bB rfl (eB (v := .agg (aT c)) (aF rfl) rfl rfl rfl) ?_;rintro _ ⟨b1, rfl⟩;refine bB rfl (eB (v := .i a) (aF rfl) rfl rfl rfl) ?_;rintro _ ⟨b2, rfl⟩;refine bB rfl (cK (zs := [.j 0, .j 0]) (aF rfl) Tryz.zeroValue37 rfl rfl) ?_;rintro _ ⟨b3, rfl⟩;refine ta Z3 (aB (aC (aA (tfl 0 rfl rfl jX rfl oA (to (aQc (aF rfl) rfl rfl) ?_)))));obtain ⟨r5, h6, h⟩ := bns h;refine to (sc Tryz.call71 (zH _ _ 72 [.cp [.j a]] Tryz.call72 (fun _ _ h => aLs _ _ h) h6) (.cons (.same _) (.cons (aYe (.cons (aDv 1 rfl rfl (dvc (.same _) dvn)) .nil)) .nil))) (ta (.i r5) (aB (aC (aC (aA (tm (.i r5) (to (scm rfl rfl rfl) (aB ?_))))))));refine tih h (fun c7 h => ?_) (fun c7 h => ?_)
 ·refine aC (aA (to (dZ (aF rfl) zI (zs := [.j 0, .j 0]) rfl rfl rfl rfl (es := [.j 0, .j 0]) rfl) ?_));refine to (sst 2 rfl rfl Tryz.sizeOf37 Z13) (ta Z3 (aB ?_));obtain rfl := sIn h;exact cI ⟨rfl, _, [.box b1 0 (aT c), .box b2 0 [.j a], .box b3 0 Z13], .two (.cell 4 37 rfl (i := 2) rfl vO (es := Z13) rfl rfl) (.tmp 5 (v := .b false) rfl), .refl _, .same _⟩
 ·refine aU (aC (aA (tfl 0 rfl rfl jX rfl oA (tm (.i r5) ?_))));obtain ⟨x8, h9, h⟩ := bns h;refine to (six rfl rfl nP.of (aV bK h9)) (to (qF (bK x8) rfl uB) ?_);refine bB rfl (cK (zs := [.j 0, .j 0, .j 0]) (aF rfl) Tryz.zeroValue46 rfl rfl) ?_;rintro _ ⟨f, rfl⟩;refine to (sst 3 rfl rfl Tryz.sizeOf46 (bK x8)) (aB (aC (aA (to (sf rfl hZ) (to (sla 0 (aZ c.Tree) rfl rfl iT) (tfl 0 rfl rfl nF rfl rT (tfl 3 rfl rfl sT rfl aO ?_)))))));obtain ⟨e, n, h⟩ := bns h;refine to (eY (aF rfl) (.func _ _ Tryz.call73) rfl rfl (aIt _ _ _ n)) ?_;refine tm (.tup [.agg (bX e.1), .i e.2]) (to (sex rfl rfl) (to (sex rfl rfl) ?_));refine bB rfl (cK (zs := [.j 0, .j 0]) (aF rfl) Tryz.zeroValue37 rfl rfl) ?_;rintro _ ⟨j, rfl⟩;refine to (sst 4 rfl rfl Tryz.sizeOf37 (bX e.1)) (ta (.i e.2) (aB (aC (aC (aA (tm (.i e.2) (to (scm rfl rfl rfl) (aB ?_))))))));refine tih h (fun o h => ?_) (fun o h => ?_)
  ·refine aC (aA (to (dZ (aF rfl) zI (zs := [.j 0, .j 0]) rfl rfl rfl rfl (es := [.j 0, .j 0]) rfl) ?_));refine to (sst 2 rfl rfl Tryz.sizeOf37 Z13) (ta Z10 (aB ?_));obtain rfl := sIn h;exact cI ⟨rfl, _, [.box b1 0 (aT c), .box b2 0 [.j a], .box b3 0 Z13, .box f 0 (bK x8), .box j 0 (bX e.1)], .two (.cell 4 37 rfl (i := 2) rfl vO (es := Z13) rfl rfl) (.tmp 5 (v := .b true) rfl), .refl _, .same _⟩
  ·refine aU (aC (aA (to (aQc (aF rfl) rfl rfl) ?_)));refine ta (.fn 74 [.bp f 0 0, .bp b2 0 0]) (aB (aC ?_));obtain ⟨m, p, h⟩ := bns h;obtain ⟨g, q, h⟩ := bns h;obtain ⟨l, s, h⟩ := bns h;refine cN mix 15 [4] [(44, .i g), (45, .fn 74 [.bp f 0 0, .bp b2 0 0]), (51, .i l)] ?_ ?_
   ·refine ⟨[(37, 0, .fn 74 [.bp f 0 0, .bp b2 0 0]), (38, 1, .bp b1 0 3), (39, 2, .d (Z17 c)), (40, 3, .bp j 0 0), (41, 4, .i e.1.Low), (42, 5, .cp [.j m]), (43, 6, .i m), (44, 7, .i g), (45, 8, .fn 74 [.bp f 0 0, .bp b2 0 0]), (46, 9, .bp b1 0 3), (47, 10, .d (Z17 c)), (48, 11, .bp j 0 1), (49, 12, .i e.1.High), (50, 13, .cp [.j l]), (51, 14, .i l)], ?_, ?_⟩
    · exact dk [0, 0, 2, 0, 4, 305, 6, 107, 0, 0, 10, 0, 12, 1113, 14] ⟨go (zm (.fn 74 [.bp f 0 0, .bp b2 0 0])),
      go (zf rfl iO),
      go (zl 0 rfl rfl rfl cD),
      go (zf rfl oL),
      go (zl 4 rfl rfl rfl aO),
      go (zix rfl rfl bG.of (aV aL p)),
      go (zlc rfl aO),
      go fun S hS => fW (aF rfl) (.clo _ _ _ _ Tryz.call74 (aLm hS rfl)) (aAx (ev2 (bF hS rfl) evn)) rfl (.cons (.same _) (.cons (aDv 3 rfl rfl (dvc (.same _) (dvc (.same _) (dvc (.same _) dvn)))) (.cons (aDv 1 rfl rfl (dvc (.same _) dvn)) .nil))) (aCf _ _ _ q) rfl,
      go (zm (.fn 74 [.bp f 0 0, .bp b2 0 0])),
      go (zf rfl iO),
      go (zl 0 rfl rfl rfl cD),
      go (zf rfl rG),
      go (zl 4 rfl rfl rfl aO),
      go (zix rfl rfl bG.of (aV aL s)),
      go (zlc rfl aO), trivial⟩
    · exact cC (aH rfl (aH rfl (aH rfl (aM ⟨rfl, trivial⟩))))
   ·obtain ⟨k, t, h⟩ := bns h;refine to (fW (aF rfl) (.clo _ _ _ _ Tryz.call74 rfl) (aAx rfl) rfl (.cons (.same _) (.cons (aDv 3 rfl rfl (dvc (.same _) (dvc (.same _) (dvc (.same _) dvn)))) (.cons (aDv 1 rfl rfl (dvc (.same _) dvn)) .nil))) (aCf _ _ _ t) rfl) ?_;refine to (dZ (aF rfl) zI (zs := [.j 0, .j 0]) rfl rfl rfl rfl (es := [.j g, .j k]) rfl) ?_;refine to (sst 2 rfl rfl Tryz.sizeOf37 (bX (cG.mk g k))) (ta Z10 (aB ?_));obtain rfl := sIn h;exact cI ⟨rfl, _, [.box b1 0 (aT c), .box b2 0 [.j a], .box b3 0 (bX (cG.mk g k)), .box f 0 (bK x8), .box j 0 (bX e.1)], .two (.cell 4 37 rfl (i := 2) rfl vO (es := (bX (cG.mk g k))) rfl rfl) (.tmp 5 (v := .b true) rfl), .refl _, .same _⟩

theorem vW (c : aP) (a : Int) {r : cG × Int} (h : pK c a = some r) : Fn Tryz.prog 13 [.agg (aT c), .i a] (.tup [.agg (bX r.1), .i r.2]) := by
 unfold pK at h;refine kX Tryz.func13 rfl (rs := [.cell 4 37, .tmp 5]) Tryz.results13 Tryz.ntmps13 (Nat.le_of_ble_eq_true rfl) ?_;refine aC (aA ?_);refine bB rfl (eB (v := .agg (aT c)) (aF rfl) rfl rfl rfl) ?_;rintro _ ⟨b1, rfl⟩;refine bB rfl (cK (zs := [.j 0, .j 0]) (aF rfl) Tryz.zeroValue37 rfl rfl) ?_;rintro _ ⟨b2, rfl⟩;refine ta (.i 0) (aB (aC (aC (aA (to (sla 0 (aT c) rfl rfl eR) ?_)))));obtain ⟨r3, h4, h⟩ := bns h;refine to (scr Tryz.call23 (zM _ h4)) (ta (.i r3) (aB (aC (aA (tm (.i r3) (to (scm rfl rfl rfl) (aB ?_)))))));refine tih h (fun c5 h => ?_) (fun c5 h => ?_)
 ·refine aC (aA (to (dZ (aF rfl) zI (zs := [.j 0, .j 0]) rfl rfl rfl rfl (es := [.j 0, .j 0]) rfl) ?_));refine tm (.i r3) (to (sst 1 rfl rfl Tryz.sizeOf37 Z13) (ta (.i r3) (aB ?_)));obtain rfl := sIn h;exact cI ⟨rfl, _, [.box b1 0 (aT c), .box b2 0 Z13], .two (.cell 4 37 rfl (i := 1) rfl vO (es := Z13) rfl rfl) (.tmp 5 (v := .i r3) rfl), .refl _, .same _⟩
 ·refine aU (aC (aA (to (sla 0 (aT c) rfl rfl eR) (tm (.i a) ?_))));obtain ⟨r6, h7, h⟩ := bns h;refine to (eY (aF rfl) (.func _ _ Tryz.call40) rfl rfl (aFs _ _ h7)) ?_;refine tm (.tup [.agg (bX r6.1), .b r6.2]) (to (sex rfl rfl) (to (sex rfl rfl) ?_));refine bB rfl (cK (zs := [.j 0, .j 0]) (aF rfl) Tryz.zeroValue37 rfl rfl) ?_;rintro _ ⟨b8, rfl⟩;refine to (sst 2 rfl rfl Tryz.sizeOf37 (bX r6.1)) (ta (.b r6.2) (aB (aC (aC (aA (tm (.b r6.2) (to (sn rfl) (aB ?_))))))));refine tih h (fun c9 h => ?_) (fun c9 h => ?_)
  ·refine aC (aA (to (dZ (aF rfl) zI (zs := [.j 0, .j 0]) rfl rfl rfl rfl (es := [.j 0, .j 0]) rfl) ?_));refine to (sst 1 rfl rfl Tryz.sizeOf37 Z13) (ta (.i 1) (aB ?_));obtain rfl := sIn h;exact cI ⟨rfl, _, [.box b1 0 (aT c), .box b2 0 Z13, .box b8 0 (bX r6.1)], .two (.cell 4 37 rfl (i := 1) rfl vO (es := Z13) rfl rfl) (.tmp 5 (v := .i 1) rfl), .refl _, .same _⟩
  ·refine aU (aC (aA (to (sla 2 (bX r6.1) rfl rfl vO) (to (sst 1 rfl rfl Tryz.sizeOf37 (bX r6.1)) (ta (.i 0) (aB ?_))))));obtain rfl := sIn h;exact cI ⟨rfl, _, [.box b1 0 (aT c), .box b2 0 (bX r6.1), .box b8 0 (bX r6.1)], .two (.cell 4 37 rfl (i := 1) rfl vO (es := (bX r6.1)) rfl rfl) (.tmp 5 (v := .i 0) rfl), .refl _, .same _⟩

theorem aHs (l : aP) (f : Int) {r : aY} (h : vJ l f = some r) : Fn Tryz.prog 41 [.agg (aT l), .i f] (.agg (bJ r)) := by
 unfold vJ at h;refine kX Tryz.func41 rfl (rs := [.cell 4 42]) Tryz.results41 Tryz.ntmps41 (Nat.le_of_ble_eq_true rfl) ?_;refine aC (aA ?_);refine bB rfl (eB (v := .agg (aT l)) (aF rfl) rfl rfl rfl) ?_;rintro _ ⟨b1, rfl⟩;refine bB rfl (cK (zs := [.j 0, .j 0, .j 0, .j 0, .j 0, .j 0, .j 0, .j 0, .j 0]) (aF rfl) Tryz.zeroValue42 rfl rfl) ?_;rintro _ ⟨b2, rfl⟩;refine aB (aC (aA (to (sla 0 (aT l) rfl rfl eR) (tm (.i f) ?_))));obtain ⟨r3, h4, h⟩ := bns h;refine to (eY (aF rfl) (.func _ _ Tryz.call40) rfl rfl (aFs _ _ h4)) ?_;refine tm (.tup [.agg (bX r3.1), .b r3.2]) (to (sex rfl rfl) (to (sex rfl rfl) ?_));refine bB rfl (cK (zs := [.j 0, .j 0]) (aF rfl) Tryz.zeroValue37 rfl rfl) ?_;rintro _ ⟨b5, rfl⟩;refine to (sst 2 rfl rfl Tryz.sizeOf37 (bX r3.1)) (ta (.b r3.2) (aB (aC (aA (tm (.i f) (tfl 2 rfl rfl oL rfl aO (to (dZ (aF rfl) aIe (zs := [.j 0, .j 0, .j 0, .j 0, .j 0, .j 0, .j 0, .j 0, .j 0]) rfl rfl rfl rfl (es := [.j f, .j r3.1.Low, .j 0, .j 0, .j 0, .j 0, .j 0, .j 0, .j 0]) rfl) ?_)))))));refine bB rfl (cK (zs := [.j 0, .j 0, .j 0, .j 0, .j 0, .j 0, .j 0, .j 0, .j 0]) (aF rfl) Tryz.zeroValue42 rfl rfl) ?_;rintro _ ⟨b6, rfl⟩;refine to (sst 3 rfl rfl Tryz.sizeOf42 (bJ (aY.mk f r3.1.Low 0 0 0 0 0 0 0))) (aB (aC (aC (aA (tfl 0 rfl rfl sS rfl xL (to (sle rfl wA.of) (tm (.i 0) (aB (aX ?_)))))))));refine bP (S := Int × aY) [1, 2, 4, 7, 31, 32] (fun s7 => [(33, .i s7.1)]) (fun s7 => [.box b1 0 (aT l), .box b2 0 (bJ Z11), .box b6 0 (bJ s7.2)]) (fun k s7 => kZ f l.Levies (l.Levies.length : Int) l Z11 k s7.1 s7.2) (fun _ => rfl) (0, (aY.mk f r3.1.Low 0 0 0 0 0 0 0)) h (aN [0, 1, 3] rfl rfl (aH rfl (aM ⟨rfl, rfl, rfl, rfl, rfl, rfl, trivial⟩))) ?_;rintro k8 ⟨o, g⟩ h;simp only [kZ] at h;refine aC (aA (to (scm rfl rfl rfl) (aB (aC ?_))));refine tih h (fun c9 h => ?_) (fun c9 h => ?_)
 ·refine aU (aC (aX (aC (aA ?_))));obtain ⟨u, x, h⟩ := bns h;refine to (six rfl rfl wA.of (aV cX x)) (to (qF (cX u) rfl aOn) ?_);refine bB rfl (cK (zs := [.j 0, .j 0]) (aF rfl) Tryz.zeroValue78 rfl rfl) ?_;rintro _ ⟨K, rfl⟩;refine to (sst 3 rfl rfl Tryz.sizeOf78 (cX u)) (aB (aC (aA (tfl 3 rfl rfl yJ rfl aO (tm (.i f) (to (scm rfl rfl rfl) (aB ?_)))))));refine tih h (fun y h => ?_) (fun y h => ?_)
  ·refine aA (tfl 2 rfl rfl yE rfl aO (tfl 3 rfl rfl aJw rfl aO (to (sar rfl rfl rfl) (to (aFe (aF rfl) rfl rfl (by decide)) ?_))));refine to (sf rfl aBb) (to (sst 2 rfl rfl Tryz.sizeOf3 (bJ (aY.mk g.Person g.Gross (w64 ((w64 (g.Gross * u.Mille)).tdiv 1000)) g.Daily g.Fines g.Debt g.Units g.Used g.Rest))) ?_);refine cM ?_;refine aA (to (sar rfl rfl rfl) (tm (.i (w64 (o + 1))) (aB ?_)));exact ⟨(w64 (o + 1), (aY.mk g.Person g.Gross (w64 ((w64 (g.Gross * u.Mille)).tdiv 1000)) g.Daily g.Fines g.Debt g.Units g.Used g.Rest)), h, aN [0, 1, 2] rfl rfl (aH rfl (aM ⟨rfl, rfl, rfl, rfl, rfl, rfl, trivial⟩))⟩
  ·refine cL ?_;refine aA (to (sar rfl rfl rfl) (tm (.i (w64 (o + 1))) (aB ?_)));exact ⟨(w64 (o + 1), g), h, aN [0, 1, 2] rfl rfl (aH rfl (aM ⟨rfl, rfl, rfl, rfl, rfl, rfl, trivial⟩))⟩
 ·refine bQ ?_;refine .inl ⟨rfl, ?_⟩;simp only [vY] at h;refine aC (aA (tfl 0 rfl rfl pW rfl uV ?_));obtain ⟨s, z, h⟩ := bns h;refine to (eY (aF rfl) (.func _ _ Tryz.call69) rfl rfl (aHt _ z)) ?_;refine tm (.tup [.d (.sl 4 (s.1.map aD)), .b s.2]) (to (sex rfl rfl) (to (sex rfl rfl) (ta (.d (.sl 4 (s.1.map aD))) (ta (.b s.2) (aB (aC (aC (aA (tm (.d (.sl 4 (s.1.map aD))) (to (sle rfl dA.of) (tm (.i 0) (aB (aX ?_)))))))))))));refine bP (S := Int × aY) [1, 2, 4, 7, 55, 56] (fun t => [(57, .i t.1)]) (fun t => [.box b1 0 (aT l), .box b2 0 (bJ Z11), .box b6 0 (bJ t.2)]) (fun k t => lA f s.1 (s.1.length : Int) l Z11 k t.1 t.2) (fun _ => rfl) (0, g) h (aN [0, 1, 2] rfl rfl (aH rfl (aM ⟨rfl, rfl, rfl, rfl, rfl, rfl, trivial⟩))) ?_;rintro L ⟨j, a⟩ h;simp only [lA] at h;refine aC (aA (to (scm rfl rfl rfl) (aB (aC ?_))));refine tih h (fun A h => ?_) (fun A h => ?_)
  ·refine aU (aC (aX (aC (aA ?_))));obtain ⟨p, B, h⟩ := bns h;refine to (six rfl rfl dA.of (aV aD B)) (to (qF (aD p) rfl gO) ?_);refine bB rfl (cK (zs := [.j 0, .j 0, .j 0, .j 0]) (aF rfl) Tryz.zeroValue76 rfl rfl) ?_;rintro _ ⟨M, rfl⟩;refine to (sst 3 rfl rfl Tryz.sizeOf76 (aD p)) (aB ?_);refine tN ?_;refine aC (aA (tfl 3 rfl rfl aEd rfl aO (tm (.i f) (to (scm rfl rfl rfl) (ta (.b (!decide (p.Person = f))) (aB ?_))))));refine tih h (fun C h => ?_) (fun C h => ?_)
   ·refine cL ?_;refine aA (to (sar rfl rfl rfl) (tm (.i (w64 (j + 1))) (aB ?_)));exact ⟨(w64 (j + 1), a), h, aN [0, 1, 2] rfl rfl (aH rfl (aM ⟨rfl, rfl, rfl, rfl, rfl, rfl, trivial⟩))⟩
   ·refine aC (aA (tfl 3 rfl rfl uP rfl aO (to (scm rfl rfl rfl) (ta (.b (decide (p.Kind = 2))) (aB ?_)))));refine tih h (fun E h => ?_) (fun E h => ?_)
    ·refine aA (tfl 2 rfl rfl yF rfl aO (tfl 3 rfl rfl yI rfl aO (tfl 0 rfl rfl aJv rfl aO (to (sar rfl rfl rfl) (to (sar rfl rfl rfl) (to (sf rfl yF) (to (sst 2 rfl rfl Tryz.sizeOf3 (bJ (aY.mk a.Person a.Gross a.Tax (w64 (a.Daily + (w64 (p.Amount * l.Daily)))) a.Fines a.Debt a.Units a.Used a.Rest))) ?_)))))));refine cM ?_;refine aA (to (sar rfl rfl rfl) (tm (.i (w64 (j + 1))) (aB ?_)));exact ⟨(w64 (j + 1), (aY.mk a.Person a.Gross a.Tax (w64 (a.Daily + (w64 (p.Amount * l.Daily)))) a.Fines a.Debt a.Units a.Used a.Rest)), h, aN [0, 1, 2] rfl rfl (aH rfl (aM ⟨rfl, rfl, rfl, rfl, rfl, rfl, trivial⟩))⟩
    ·refine aA (tfl 2 rfl rfl yG rfl aO (tfl 3 rfl rfl yI rfl aO (to (sar rfl rfl rfl) (to (sf rfl yG) (to (sst 2 rfl rfl Tryz.sizeOf3 (bJ (aY.mk a.Person a.Gross a.Tax a.Daily (w64 (a.Fines + p.Amount)) a.Debt a.Units a.Used a.Rest))) ?_)))));refine cM ?_;refine aA (to (sar rfl rfl rfl) (tm (.i (w64 (j + 1))) (aB ?_)));exact ⟨(w64 (j + 1), (aY.mk a.Person a.Gross a.Tax a.Daily (w64 (a.Fines + p.Amount)) a.Debt a.Units a.Used a.Rest)), h, aN [0, 1, 2] rfl rfl (aH rfl (aM ⟨rfl, rfl, rfl, rfl, rfl, rfl, trivial⟩))⟩
  ·refine bQ ?_;refine .inl ⟨rfl, ?_⟩;simp only [tE] at h;refine aC (aA (tfl 2 rfl rfl yE rfl aO (tfl 2 rfl rfl yF rfl aO (to (sar rfl rfl rfl) (tfl 2 rfl rfl aBb rfl aO (to (sar rfl rfl rfl) (tfl 2 rfl rfl yG rfl aO (to (sar rfl rfl rfl) (ta (.i (w64 ((w64 ((w64 (a.Gross + a.Daily)) - a.Tax)) - a.Fines))) ?_)))))))));refine aB (aC (aA (tm (.i (w64 ((w64 ((w64 (a.Gross + a.Daily)) - a.Tax)) - a.Fines))) (to (bBh (aF rfl) rfl) ?_))));refine to (aYm (aF rfl) rfl rfl) ?_;refine to (sf rfl aBc) (to (sst 2 rfl rfl Tryz.sizeOf3 (bJ (aY.mk a.Person a.Gross a.Tax a.Daily a.Fines (max 0 (w64 (-(w64 ((w64 ((w64 (a.Gross + a.Daily)) - a.Tax)) - a.Fines))))) a.Units a.Used a.Rest))) (aB (aC (aA (tm (.i (w64 ((w64 ((w64 (a.Gross + a.Daily)) - a.Tax)) - a.Fines))) (to (aYm (aF rfl) rfl rfl) ?_))))));refine ta (.i (max 0 (w64 ((w64 ((w64 (a.Gross + a.Daily)) - a.Tax)) - a.Fines)))) (aB (aC (aA (ta (.i 1) (ta (.i 1) (aB (aC (aC (aA (tfl 0 rfl rfl yD rfl aDj (to (sle rfl aAg.of) (tm (.i 0) ?_))))))))))));refine aB (aX ?_);refine bP (S := Int × Int × Int) [1, 4, 7, 15, 104, 105] (fun q => [(16, .i q.1), (17, .i q.2.1), (106, .i q.2.2)]) (fun q => [.box b2 0 (bJ Z11), .box b6 0 (bJ (aY.mk a.Person a.Gross a.Tax a.Daily a.Fines (max 0 (w64 (-(w64 ((w64 ((w64 (a.Gross + a.Daily)) - a.Tax)) - a.Fines))))) a.Units a.Used a.Rest))]) (fun k q => mR f (max 0 (w64 ((w64 ((w64 (a.Gross + a.Daily)) - a.Tax)) - a.Fines))) l.Rates (l.Rates.length : Int) Z11 (aY.mk a.Person a.Gross a.Tax a.Daily a.Fines (max 0 (w64 (-(w64 ((w64 ((w64 (a.Gross + a.Daily)) - a.Tax)) - a.Fines))))) a.Units a.Used a.Rest) k q.1 q.2.1 q.2.2) (fun _ => rfl) (1, 1, 0) h (aN [1, 2] rfl rfl (aH rfl (aH rfl (aH rfl (aM ⟨rfl, rfl, rfl, rfl, rfl, rfl, trivial⟩))))) ?_;rintro N ⟨c, e, m⟩ h;simp only [mR] at h;refine aC (aA (to (scm rfl rfl rfl) (aB (aC ?_))));refine tih h (fun F h => ?_) (fun F h => ?_)
   ·refine aU (aC (aX (aC (aA ?_))));obtain ⟨n, G, h⟩ := bns h;refine to (six rfl rfl aAg.of (aV dO G)) (to (qF (dO n) rfl aKm) ?_);refine bB rfl (cK (zs := [.j 0, .j 0, .j 0]) (aF rfl) Tryz.zeroValue80 rfl rfl) ?_;rintro _ ⟨w, rfl⟩;refine to (sst 2 rfl rfl Tryz.sizeOf80 (dO n)) (aB (aC (aA (tfl 2 rfl rfl yK rfl aO (tm (.i f) (to (scm rfl rfl rfl) (aB ?_)))))));refine tih h (fun H h => ?_) (fun H h => ?_)
    ·refine cN mix 5 [1, 4, 7, 15, 104, 105, 106] [(16, .i n.Num), (117, .i n.Den)] ?_ ?_
     ·refine ⟨[(114, 0, .bp w 0 1), (115, 1, .i n.Num), (116, 2, .bp w 0 2), (117, 3, .i n.Den), (16, 4, .i n.Num)], ?_, ?_⟩
      · exact dk [0, 1, 0, 3, 2] ⟨go (zf rfl aEe),
      go (zl 2 rfl rfl rfl aO),
      go (zf rfl aJx),
      go (zl 2 rfl rfl rfl aO),
      go (za (.i n.Num)), trivial⟩
      · exact cC (aH rfl (aH rfl (aM ⟨rfl, rfl, rfl, rfl, rfl, rfl, rfl, trivial⟩)))
     ·refine ta (.i n.Den) ?_;refine cM ?_;refine aA (to (sar rfl rfl rfl) (tm (.i (w64 (m + 1))) (aB ?_)));exact ⟨(n.Num, n.Den, w64 (m + 1)), h, aN [0, 1] rfl rfl (aH rfl (aH rfl (aH rfl (aM ⟨rfl, rfl, rfl, rfl, rfl, rfl, trivial⟩))))⟩
    ·refine cL ?_;refine aA (to (sar rfl rfl rfl) (tm (.i (w64 (m + 1))) (aB ?_)));exact ⟨(c, e, w64 (m + 1)), h, aN [0, 1] rfl rfl (aH rfl (aH rfl (aH rfl (aM ⟨rfl, rfl, rfl, rfl, rfl, rfl, trivial⟩))))⟩
   ·refine bQ ?_;refine .inl ⟨rfl, ?_⟩;simp only [vZ] at h;refine aC (aA (tm (.i (max 0 (w64 ((w64 ((w64 (a.Gross + a.Daily)) - a.Tax)) - a.Fines)))) (tm (.i c) (to (sar rfl rfl rfl) (tm (.i e) ?_)))));obtain ⟨O, I, h⟩ := bns h;refine to (aFe (aF rfl) rfl rfl (aYi I)) ?_;refine to (sf rfl aBd) (to (sst 1 rfl rfl Tryz.sizeOf3 (bJ (aY.mk a.Person a.Gross a.Tax a.Daily a.Fines (max 0 (w64 (-(w64 ((w64 ((w64 (a.Gross + a.Daily)) - a.Tax)) - a.Fines))))) (w64 ((w64 ((max 0 (w64 ((w64 ((w64 (a.Gross + a.Daily)) - a.Tax)) - a.Fines))) * c)).tdiv e)) a.Used a.Rest))) (aB (aC (aA (tfl 1 rfl rfl aBd rfl aO (tm (.i e) (to (sar rfl rfl rfl) (tm (.i c) (to (sar rfl rfl rfl) (to (sar rfl rfl rfl) (tm (.i c) ?_)))))))))));obtain ⟨P, J, h⟩ := bns h;refine to (aFe (aF rfl) rfl rfl (aYi J)) ?_;refine to (sf rfl aBe) (to (sst 1 rfl rfl Tryz.sizeOf3 (bJ (aY.mk a.Person a.Gross a.Tax a.Daily a.Fines (max 0 (w64 (-(w64 ((w64 ((w64 (a.Gross + a.Daily)) - a.Tax)) - a.Fines))))) (w64 ((w64 ((max 0 (w64 ((w64 ((w64 (a.Gross + a.Daily)) - a.Tax)) - a.Fines))) * c)).tdiv e)) (w64 ((w64 ((w64 ((w64 ((w64 ((w64 ((max 0 (w64 ((w64 ((w64 (a.Gross + a.Daily)) - a.Tax)) - a.Fines))) * c)).tdiv e)) * e)) + c)) - 1)).tdiv c)) a.Rest))) (aB (aC (aA (tm (.i (max 0 (w64 ((w64 ((w64 (a.Gross + a.Daily)) - a.Tax)) - a.Fines)))) (tfl 1 rfl rfl aBe rfl aO (to (sar rfl rfl rfl) (to (sf rfl aEc) (to (sst 1 rfl rfl Tryz.sizeOf3 (bJ (aY.mk a.Person a.Gross a.Tax a.Daily a.Fines (max 0 (w64 (-(w64 ((w64 ((w64 (a.Gross + a.Daily)) - a.Tax)) - a.Fines))))) (w64 ((w64 ((max 0 (w64 ((w64 ((w64 (a.Gross + a.Daily)) - a.Tax)) - a.Fines))) * c)).tdiv e)) (w64 ((w64 ((w64 ((w64 ((w64 ((w64 ((max 0 (w64 ((w64 ((w64 (a.Gross + a.Daily)) - a.Tax)) - a.Fines))) * c)).tdiv e)) * e)) + c)) - 1)).tdiv c)) (w64 ((max 0 (w64 ((w64 ((w64 (a.Gross + a.Daily)) - a.Tax)) - a.Fines))) - (w64 ((w64 ((w64 ((w64 ((w64 ((w64 ((max 0 (w64 ((w64 ((w64 (a.Gross + a.Daily)) - a.Tax)) - a.Fines))) * c)).tdiv e)) * e)) + c)) - 1)).tdiv c))))))) (aB (aC (aA ?_))))))))))));refine to (sla 1 (bJ (aY.mk a.Person a.Gross a.Tax a.Daily a.Fines (max 0 (w64 (-(w64 ((w64 ((w64 (a.Gross + a.Daily)) - a.Tax)) - a.Fines))))) (w64 ((w64 ((max 0 (w64 ((w64 ((w64 (a.Gross + a.Daily)) - a.Tax)) - a.Fines))) * c)).tdiv e)) (w64 ((w64 ((w64 ((w64 ((w64 ((w64 ((max 0 (w64 ((w64 ((w64 (a.Gross + a.Daily)) - a.Tax)) - a.Fines))) * c)).tdiv e)) * e)) + c)) - 1)).tdiv c)) (w64 ((max 0 (w64 ((w64 ((w64 (a.Gross + a.Daily)) - a.Tax)) - a.Fines))) - (w64 ((w64 ((w64 ((w64 ((w64 ((w64 ((max 0 (w64 ((w64 ((w64 (a.Gross + a.Daily)) - a.Tax)) - a.Fines))) * c)).tdiv e)) * e)) + c)) - 1)).tdiv c)))))) rfl rfl xB) (to (sst 0 rfl rfl Tryz.sizeOf42 (bJ (aY.mk a.Person a.Gross a.Tax a.Daily a.Fines (max 0 (w64 (-(w64 ((w64 ((w64 (a.Gross + a.Daily)) - a.Tax)) - a.Fines))))) (w64 ((w64 ((max 0 (w64 ((w64 ((w64 (a.Gross + a.Daily)) - a.Tax)) - a.Fines))) * c)).tdiv e)) (w64 ((w64 ((w64 ((w64 ((w64 ((w64 ((max 0 (w64 ((w64 ((w64 (a.Gross + a.Daily)) - a.Tax)) - a.Fines))) * c)).tdiv e)) * e)) + c)) - 1)).tdiv c)) (w64 ((max 0 (w64 ((w64 ((w64 (a.Gross + a.Daily)) - a.Tax)) - a.Fines))) - (w64 ((w64 ((w64 ((w64 ((w64 ((w64 ((max 0 (w64 ((w64 ((w64 (a.Gross + a.Daily)) - a.Tax)) - a.Fines))) * c)).tdiv e)) * e)) + c)) - 1)).tdiv c))))))) (aB ?_));obtain rfl := sIn h;exact cI ⟨rfl, _, [.box b2 0 (bJ (aY.mk a.Person a.Gross a.Tax a.Daily a.Fines (max 0 (w64 (-(w64 ((w64 ((w64 (a.Gross + a.Daily)) - a.Tax)) - a.Fines))))) (w64 ((w64 ((max 0 (w64 ((w64 ((w64 (a.Gross + a.Daily)) - a.Tax)) - a.Fines))) * c)).tdiv e)) (w64 ((w64 ((w64 ((w64 ((w64 ((w64 ((max 0 (w64 ((w64 ((w64 (a.Gross + a.Daily)) - a.Tax)) - a.Fines))) * c)).tdiv e)) * e)) + c)) - 1)).tdiv c)) (w64 ((max 0 (w64 ((w64 ((w64 (a.Gross + a.Daily)) - a.Tax)) - a.Fines))) - (w64 ((w64 ((w64 ((w64 ((w64 ((w64 ((max 0 (w64 ((w64 ((w64 (a.Gross + a.Daily)) - a.Tax)) - a.Fines))) * c)).tdiv e)) * e)) + c)) - 1)).tdiv c)))))), .box b6 0 (bJ (aY.mk a.Person a.Gross a.Tax a.Daily a.Fines (max 0 (w64 (-(w64 ((w64 ((w64 (a.Gross + a.Daily)) - a.Tax)) - a.Fines))))) (w64 ((w64 ((max 0 (w64 ((w64 ((w64 (a.Gross + a.Daily)) - a.Tax)) - a.Fines))) * c)).tdiv e)) (w64 ((w64 ((w64 ((w64 ((w64 ((w64 ((max 0 (w64 ((w64 ((w64 (a.Gross + a.Daily)) - a.Tax)) - a.Fines))) * c)).tdiv e)) * e)) + c)) - 1)).tdiv c)) (w64 ((max 0 (w64 ((w64 ((w64 (a.Gross + a.Daily)) - a.Tax)) - a.Fines))) - (w64 ((w64 ((w64 ((w64 ((w64 ((w64 ((max 0 (w64 ((w64 ((w64 (a.Gross + a.Daily)) - a.Tax)) - a.Fines))) * c)).tdiv e)) * e)) + c)) - 1)).tdiv c))))))], .one (.cell 4 42 rfl (i := 0) rfl xB (es := (bJ (aY.mk a.Person a.Gross a.Tax a.Daily a.Fines (max 0 (w64 (-(w64 ((w64 ((w64 (a.Gross + a.Daily)) - a.Tax)) - a.Fines))))) (w64 ((w64 ((max 0 (w64 ((w64 ((w64 (a.Gross + a.Daily)) - a.Tax)) - a.Fines))) * c)).tdiv e)) (w64 ((w64 ((w64 ((w64 ((w64 ((w64 ((max 0 (w64 ((w64 ((w64 (a.Gross + a.Daily)) - a.Tax)) - a.Fines))) * c)).tdiv e)) * e)) + c)) - 1)).tdiv c)) (w64 ((max 0 (w64 ((w64 ((w64 (a.Gross + a.Daily)) - a.Tax)) - a.Fines))) - (w64 ((w64 ((w64 ((w64 ((w64 ((w64 ((max 0 (w64 ((w64 ((w64 (a.Gross + a.Daily)) - a.Tax)) - a.Fines))) * c)).tdiv e)) * e)) + c)) - 1)).tdiv c))))))) rfl rfl), .refl _, .same _⟩

theorem aHp (b : aP) (a : Int) {r : aY × Int} (h : vI b a = some r) : Fn Tryz.prog 14 [.agg (aT b), .i a] (.tup [.agg (bJ r.1), .i r.2]) := by
 unfold vI at h;refine kX Tryz.func14 rfl (rs := [.cell 4 42, .tmp 5]) Tryz.results14 Tryz.ntmps14 (Nat.le_of_ble_eq_true rfl) ?_;refine aC (aA ?_);refine bB rfl (eB (v := .agg (aT b)) (aF rfl) rfl rfl rfl) ?_;rintro _ ⟨b1, rfl⟩;refine bB rfl (cK (zs := [.j 0, .j 0, .j 0, .j 0, .j 0, .j 0, .j 0, .j 0, .j 0]) (aF rfl) Tryz.zeroValue42 rfl rfl) ?_;rintro _ ⟨b2, rfl⟩;refine ta (.i 0) (aB (aC (aC (aA (to (sla 0 (aT b) rfl rfl eR) (tm (.i a) ?_))))));obtain ⟨r3, h4, h⟩ := bns h;refine to (eY (aF rfl) (.func _ _ Tryz.call13) rfl rfl (vW _ _ h4)) ?_;refine tm (.tup [.agg (bX r3.1), .i r3.2]) (to (sex rfl rfl) (to (sex rfl rfl) ?_));refine bB rfl (cK (zs := [.j 0, .j 0]) (aF rfl) Tryz.zeroValue37 rfl rfl) ?_;rintro _ ⟨b5, rfl⟩;refine to (sst 2 rfl rfl Tryz.sizeOf37 (bX r3.1)) (ta (.i r3.2) (aB (aC (aA (tm (.i r3.2) (to (scm rfl rfl rfl) (aB ?_)))))));refine tih h (fun c6 h => ?_) (fun c6 h => ?_)
 ·refine aC (aA (to (dZ (aF rfl) aIe (zs := [.j 0, .j 0, .j 0, .j 0, .j 0, .j 0, .j 0, .j 0, .j 0]) rfl rfl rfl rfl (es := [.j 0, .j 0, .j 0, .j 0, .j 0, .j 0, .j 0, .j 0, .j 0]) rfl) ?_));refine tm (.i r3.2) (to (sst 1 rfl rfl Tryz.sizeOf42 (bJ Z11)) (ta (.i r3.2) (aB ?_)));obtain rfl := sIn h;exact cI ⟨rfl, _, [.box b1 0 (aT b), .box b2 0 (bJ Z11), .box b5 0 (bX r3.1)], .two (.cell 4 42 rfl (i := 1) rfl xB (es := (bJ Z11)) rfl rfl) (.tmp 5 (v := .i r3.2) rfl), .refl _, .same _⟩
 ·refine aU (aC (aA (to (sla 0 (aT b) rfl rfl eR) (tm (.i a) ?_))));obtain ⟨r7, h8, h⟩ := bns h;refine to (eY (aF rfl) (.func _ _ Tryz.call41) rfl rfl (aHs _ _ h8)) ?_;refine to (sst 1 rfl rfl Tryz.sizeOf42 (bJ r7)) (ta (.i 0) (aB ?_));obtain rfl := sIn h;exact cI ⟨rfl, _, [.box b1 0 (aT b), .box b2 0 (bJ r7), .box b5 0 (bX r3.1)], .two (.cell 4 42 rfl (i := 1) rfl xB (es := (bJ r7)) rfl rfl) (.tmp 5 (v := .i 0) rfl), .refl _, .same _⟩

theorem aNx (a : aP) {r : (List aY) × Int} (h : vS a = some r) : Fn Tryz.prog 26 (Z32 a) (.tup [.d (.sl 9 (r.1.map bJ)), .i r.2]) := by
 unfold vS at h;refine oT [.tmp 2, .tmp 3] Tryz.func26 Tryz.results26 Tryz.ntmps26 ?_;refine aC (aA ?_);refine bB rfl (eB (v := .agg (aT a)) (aF rfl) rfl rfl rfl) ?_;rintro _ ⟨b1, rfl⟩;refine to (aCi 9 (aF rfl)) ?_;refine ta (.i 0) (aB (aC (aC (aA (to (sla 0 (aT a) rfl rfl eR) ?_)))));obtain ⟨r2, h3, h⟩ := bns h;refine to (scr Tryz.call23 (zM _ h3)) (ta (.i r2) (aB (aC (aA (tm (.i r2) (to (scm rfl rfl rfl) (aB ?_)))))));refine tih h (fun c4 h => ?_) (fun c4 h => ?_)
 ·refine aC (aA (tm (.i r2) (to (aCi 9 (aF rfl)) ?_)));refine ta (.i r2) (aB ?_);obtain rfl := sIn h;refine bL (bC (bE (l := [2, 3]) ⟨rfl, rfl, trivial⟩)) ?_;exact cI ⟨rfl, _, .two _ _, rfl, rfl⟩
 ·refine aU (aC (aA (to (iK 42 9 (.inl rfl) (aF rfl)) ?_)));refine aB (aC (aC (aA (to (sla 0 (aT a) rfl rfl eR) ?_))));obtain ⟨r6, h7, h⟩ := bns h;refine to (eY (aF rfl) (.func _ _ Tryz.call55) rfl rfl (xQ _ h7)) ?_;refine to (sle rfl bG.of) (tm (.i 0) (aB (aX ?_)));refine bP (S := Int × (List aY) × Value) [1, 14, 15] (fun s8 => [(5, .d (.lit s8.2.2)), (16, .i s8.1)]) (fun s8 => [.box b1 0 (aT a), .arr s8.2.2 42 9 (s8.2.1.map bJ)]) (fun k s8 => nI r6 (r6.length : Int) a k s8.1 s8.2.1) (fun _ => rfl) (0, ([] : List aY), (.slice none 0 0)) h (aN [0, 1] rfl rfl (aH rfl (aH rfl (aM ⟨rfl, rfl, rfl, trivial⟩)))) ?_;rintro s ⟨b, c, w9⟩ h;simp only [nI] at h;refine aC (aA (to (scm rfl rfl rfl) (aB (aC ?_))));refine tih h (fun j h => ?_) (fun j h => ?_)
  ·refine aU (aC (aX (aC (aA ?_))));obtain ⟨e, m, h⟩ := bns h;refine to (six rfl rfl bG.of (aV aL m)) (to (slc rfl aO) (ta (.i e) (aB (aA (tm (.d (.lit w9)) (to (sla 0 (aT a) rfl rfl eR) (tm (.i e) ?_)))))));obtain ⟨n, o, h⟩ := bns h;refine to (eY (aF rfl) (.func _ _ Tryz.call41) rfl rfl (aHs _ _ o)) ?_;refine to (fL (aF rfl) aOd rfl rfl (rows := ([n]).map bJ) rfl (cV (f := bJ) fun _ => rfl) rfl (by decide)) ?_;obtain ⟨p, q, h⟩ := bns h;refine bB rfl (gM (i := 1) (aF rfl) aOd rfl rfl rfl (fun _ => rfl) q rfl) ?_;rintro _ ⟨g, rfl⟩;refine ta (.d (.lit g)) ?_;refine cM ?_;refine aA (to (sar rfl rfl rfl) (tm (.i (w64 (b + 1))) (aB ?_)));exact ⟨(w64 (b + 1), p, g), h, aN [0, 1] rfl rfl (aH rfl (aH rfl (aM ⟨rfl, rfl, rfl, trivial⟩)))⟩
  ·refine bQ ?_;refine .inl ⟨rfl, ?_⟩;simp only [aDl] at h;refine aC (aA (tm (.d (.lit w9)) (ta (.d (.lit w9)) (ta (.i 0) (aB ?_)))));obtain rfl := sIn h;refine bL (bC (wQ (k := 3) (v := .i 0) (.same _) (wQ (k := 2) (v := .d (.sl 9 (c.map bJ))) (.d (nX 1 rfl (cV (f := bJ) fun _ => rfl))) (aCy)))) ?_;exact cI ⟨rfl, _, .two _ _, rfl, rfl⟩

theorem aNy (e : aP) {r : aY × Int} (h : vT e = some r) : Fn Tryz.prog 28 (Z32 e) (.tup [.agg (bJ r.1), .i r.2]) := by
 unfold vT at h;refine kX Tryz.func28 rfl (rs := [.cell 2 42, .tmp 3]) Tryz.results28 Tryz.ntmps28 (Nat.le_of_ble_eq_true rfl) ?_;refine aC (aA ?_);refine bB rfl (eB (v := .agg (aT e)) (aF rfl) rfl rfl rfl) ?_;rintro _ ⟨b1, rfl⟩;refine bB rfl (cK (zs := [.j 0, .j 0, .j 0, .j 0, .j 0, .j 0, .j 0, .j 0, .j 0]) (aF rfl) Tryz.zeroValue42 rfl rfl) ?_;rintro _ ⟨b2, rfl⟩;refine ta (.i 0) (aB (aC (aA (to (sla 0 (aT e) rfl rfl eR) ?_))));obtain ⟨r3, h4, h⟩ := bns h;refine to (eY (aF rfl) (.func _ _ Tryz.call26) rfl rfl (aNx _ h4)) ?_;refine tm (.tup [.d (.sl 9 (r3.1.map bJ)), .i r3.2]) (to (sex rfl rfl) (to (sex rfl rfl) (ta (.d (.sl 9 (r3.1.map bJ))) (ta (.i r3.2) (aB (aC (aC (aA (tm (.i r3.2) (to (scm rfl rfl rfl) (aB ?_)))))))))));refine tih h (fun c5 h => ?_) (fun c5 h => ?_)
 ·refine aC (aA (to (dZ (aF rfl) aIe (zs := [.j 0, .j 0, .j 0, .j 0, .j 0, .j 0, .j 0, .j 0, .j 0]) rfl rfl rfl rfl (es := [.j 0, .j 0, .j 0, .j 0, .j 0, .j 0, .j 0, .j 0, .j 0]) rfl) ?_));refine tm (.i r3.2) (to (sst 1 rfl rfl Tryz.sizeOf42 (bJ Z11)) (ta (.i r3.2) (aB ?_)));obtain rfl := sIn h;exact cI ⟨rfl, _, [.box b1 0 (aT e), .box b2 0 (bJ Z11)], .two (.cell 2 42 rfl (i := 1) rfl xB (es := (bJ Z11)) rfl rfl) (.tmp 3 (v := .i r3.2) rfl), .refl _, .same _⟩
 ·refine aU (aC (aA (to (dZ (aF rfl) aIe (zs := [.j 0, .j 0, .j 0, .j 0, .j 0, .j 0, .j 0, .j 0, .j 0]) rfl rfl rfl rfl (es := [.j (-1), .j 0, .j 0, .j 0, .j 0, .j 0, .j 0, .j 0, .j 0]) rfl) ?_)));refine bB rfl (cK (zs := [.j 0, .j 0, .j 0, .j 0, .j 0, .j 0, .j 0, .j 0, .j 0]) (aF rfl) Tryz.zeroValue42 rfl rfl) ?_;rintro _ ⟨b6, rfl⟩;refine to (sst 2 rfl rfl Tryz.sizeOf42 (bJ (aY.mk (-1) 0 0 0 0 0 0 0 0))) (aB (aC (aC (aA (tm (.d (.sl 9 (r3.1.map bJ))) (to (sle rfl aOd.of) (tm (.i 0) (aB (aX ?_)))))))));refine bP (S := Int × aY) [2, 6, 19, 20] (fun s7 => [(21, .i s7.1)]) (fun s7 => [.box b2 0 (bJ Z11), .box b6 0 (bJ s7.2)]) (fun k s7 => nJ r3.1 (r3.1.length : Int) Z11 k s7.1 s7.2) (fun _ => rfl) (0, (aY.mk (-1) 0 0 0 0 0 0 0 0)) h (aN [1, 2] rfl rfl (aH rfl (aM ⟨rfl, rfl, rfl, rfl, trivial⟩))) ?_;rintro k8 ⟨c, a⟩ h;simp only [nJ] at h;refine aC (aA (to (scm rfl rfl rfl) (aB (aC ?_))));refine tih h (fun c9 h => ?_) (fun c9 h => ?_)
  ·refine aU (aC (aX (aC (aA ?_))));obtain ⟨b, f, h⟩ := bns h;refine to (six rfl rfl aOd.of (aV bJ f)) (to (qF (bJ b) rfl xB) ?_);refine bB rfl (cK (zs := [.j 0, .j 0, .j 0, .j 0, .j 0, .j 0, .j 0, .j 0, .j 0]) (aF rfl) Tryz.zeroValue42 rfl rfl) ?_;rintro _ ⟨g, rfl⟩;refine to (sst 2 rfl rfl Tryz.sizeOf42 (bJ b)) (aB (aC (aA (tfl 1 rfl rfl yE rfl aO (tfl 2 rfl rfl yE rfl aO (to (sar rfl rfl rfl) (to (sf rfl yE) (to (sst 1 rfl rfl Tryz.sizeOf3 (bJ (aY.mk a.Person (w64 (a.Gross + b.Gross)) a.Tax a.Daily a.Fines a.Debt a.Units a.Used a.Rest))) (aB (aC (aA ?_)))))))))));refine tfl 1 rfl rfl aBb rfl aO (tfl 2 rfl rfl aBb rfl aO (to (sar rfl rfl rfl) (to (sf rfl aBb) (to (sst 1 rfl rfl Tryz.sizeOf3 (bJ (aY.mk a.Person (w64 (a.Gross + b.Gross)) (w64 (a.Tax + b.Tax)) a.Daily a.Fines a.Debt a.Units a.Used a.Rest))) (aB (aC (aA (tfl 1 rfl rfl yF rfl aO (tfl 2 rfl rfl yF rfl aO ?_)))))))));refine to (sar rfl rfl rfl) (to (sf rfl yF) (to (sst 1 rfl rfl Tryz.sizeOf3 (bJ (aY.mk a.Person (w64 (a.Gross + b.Gross)) (w64 (a.Tax + b.Tax)) (w64 (a.Daily + b.Daily)) a.Fines a.Debt a.Units a.Used a.Rest))) (aB (aC (aA (tfl 1 rfl rfl yG rfl aO (tfl 2 rfl rfl yG rfl aO (to (sar rfl rfl rfl) (to (sf rfl yG) (to (sst 1 rfl rfl Tryz.sizeOf3 (bJ (aY.mk a.Person (w64 (a.Gross + b.Gross)) (w64 (a.Tax + b.Tax)) (w64 (a.Daily + b.Daily)) (w64 (a.Fines + b.Fines)) a.Debt a.Units a.Used a.Rest))) (aB ?_)))))))))));refine aC (aA (tfl 1 rfl rfl aBc rfl aO (tfl 2 rfl rfl aBc rfl aO (to (sar rfl rfl rfl) (to (sf rfl aBc) (to (sst 1 rfl rfl Tryz.sizeOf3 (bJ (aY.mk a.Person (w64 (a.Gross + b.Gross)) (w64 (a.Tax + b.Tax)) (w64 (a.Daily + b.Daily)) (w64 (a.Fines + b.Fines)) (w64 (a.Debt + b.Debt)) a.Units a.Used a.Rest))) (aB (aC (aA (tfl 1 rfl rfl aBd rfl aO ?_))))))))));refine tfl 2 rfl rfl aBd rfl aO (to (sar rfl rfl rfl) (to (sf rfl aBd) (to (sst 1 rfl rfl Tryz.sizeOf3 (bJ (aY.mk a.Person (w64 (a.Gross + b.Gross)) (w64 (a.Tax + b.Tax)) (w64 (a.Daily + b.Daily)) (w64 (a.Fines + b.Fines)) (w64 (a.Debt + b.Debt)) (w64 (a.Units + b.Units)) a.Used a.Rest))) (aB (aC (aA (tfl 1 rfl rfl aBe rfl aO (tfl 2 rfl rfl aBe rfl aO (to (sar rfl rfl rfl) (to (sf rfl aBe) ?_))))))))));refine to (sst 1 rfl rfl Tryz.sizeOf3 (bJ (aY.mk a.Person (w64 (a.Gross + b.Gross)) (w64 (a.Tax + b.Tax)) (w64 (a.Daily + b.Daily)) (w64 (a.Fines + b.Fines)) (w64 (a.Debt + b.Debt)) (w64 (a.Units + b.Units)) (w64 (a.Used + b.Used)) a.Rest))) (aB (aA (tfl 1 rfl rfl aEc rfl aO (tfl 2 rfl rfl aEc rfl aO (to (sar rfl rfl rfl) (to (sf rfl aEc) (to (sst 1 rfl rfl Tryz.sizeOf3 (bJ (aY.mk a.Person (w64 (a.Gross + b.Gross)) (w64 (a.Tax + b.Tax)) (w64 (a.Daily + b.Daily)) (w64 (a.Fines + b.Fines)) (w64 (a.Debt + b.Debt)) (w64 (a.Units + b.Units)) (w64 (a.Used + b.Used)) (w64 (a.Rest + b.Rest))))) ?_)))))));refine cM ?_;refine aA (to (sar rfl rfl rfl) (tm (.i (w64 (c + 1))) (aB ?_)));exact ⟨(w64 (c + 1), (aY.mk a.Person (w64 (a.Gross + b.Gross)) (w64 (a.Tax + b.Tax)) (w64 (a.Daily + b.Daily)) (w64 (a.Fines + b.Fines)) (w64 (a.Debt + b.Debt)) (w64 (a.Units + b.Units)) (w64 (a.Used + b.Used)) (w64 (a.Rest + b.Rest)))), h, aN [0, 1] rfl rfl (aH rfl (aM ⟨rfl, rfl, rfl, rfl, trivial⟩))⟩
  ·refine bQ ?_;refine .inl ⟨rfl, ?_⟩;simp only [aDm] at h;refine aC (aA (to (sla 1 (bJ a) rfl rfl xB) (to (sst 0 rfl rfl Tryz.sizeOf42 (bJ a)) (ta (.i 0) (aB ?_)))));obtain rfl := sIn h;exact cI ⟨rfl, _, [.box b2 0 (bJ a), .box b6 0 (bJ a)], .two (.cell 2 42 rfl (i := 0) rfl xB (es := (bJ a)) rfl rfl) (.tmp 3 (v := .i 0) rfl), .refl _, .same _⟩

theorem jU {r : Bool} (h : eM = some r) : Fn Tryz.prog 12 [] (.b r) := by
 unfold eM at h;refine oT [.tmp 0] Tryz.func12 Tryz.results12 Tryz.ntmps12 ?_;refine aC (aA (ta Z3 (aB (aC (aA ?_)))));obtain ⟨r1, h2, h⟩ := bns h;refine to (eY (aF rfl) (.func _ _ Tryz.call39) rfl rfl (aDy h2)) ?_;refine bB rfl (cK (zs := [.j 0, .sl 1 Z14, .sl 5 Z36, .sl 1 Z14, .j 0, .sl 3 Z37, .sl 2 Z38, .sl 3 Z39, .sl 4 Z40]) (aF rfl) Tryz.zeroValue31 rfl rfl) ?_;rintro _ ⟨b3, rfl⟩;refine to (sst 0 rfl rfl Tryz.sizeOf31 (aT r1)) (aB (aC (aA (to (sla 0 (aT r1) rfl rfl eR) ?_))));obtain ⟨r4, h5, h⟩ := bns h;refine to (scr Tryz.call31 (aPu _ h5)) (tm (.tup [.i r4.1, .i r4.2]) (to (sex rfl rfl) (to (sex rfl rfl) (ta (.i r4.1) (ta (.i r4.2) (aB (aC (aA (to (sla 0 (aT r1) rfl rfl eR) ?_)))))))));obtain ⟨r6, h7, h⟩ := bns h;refine to (eY (aF rfl) (.func _ _ Tryz.call14) rfl rfl (aHp _ _ h7)) ?_;refine tm (.tup [.agg (bJ r6.1), .i r6.2]) (to (sex rfl rfl) (to (sex rfl rfl) ?_));refine bB rfl (cK (zs := [.j 0, .j 0, .j 0, .j 0, .j 0, .j 0, .j 0, .j 0, .j 0]) (aF rfl) Tryz.zeroValue42 rfl rfl) ?_;rintro _ ⟨b8, rfl⟩;refine to (sst 1 rfl rfl Tryz.sizeOf42 (bJ r6.1)) (ta (.i r6.2) (aB (aC (aA (to (sla 0 (aT r1) rfl rfl eR) ?_)))));obtain ⟨r9, v, h⟩ := bns h;refine to (eY (aF rfl) (.func _ _ Tryz.call28) rfl rfl (aNy _ v)) ?_;refine tm (.tup [.agg (bJ r9.1), .i r9.2]) (to (sex rfl rfl) (to (sex rfl rfl) ?_));refine bB rfl (cK (zs := [.j 0, .j 0, .j 0, .j 0, .j 0, .j 0, .j 0, .j 0, .j 0]) (aF rfl) Tryz.zeroValue42 rfl rfl) ?_;rintro _ ⟨w, rfl⟩;refine to (sst 2 rfl rfl Tryz.sizeOf42 (bJ r9.1)) (ta (.i r9.2) (aB (aC (aA (tm (.i r4.2) (to (scm rfl rfl rfl) (tm (.b (decide (r4.2 = 0))) ?_)))))));obtain ⟨p, j, h⟩ := bns h;refine aW 3 [2, 4, 6, 7] 29 p ?_ ?_
 ·refine bch j (fun e j => ?_) (fun e j => ?_)
  ·refine tk e (sm (.i r6.2)) (tk e (scm rfl rfl rfl) (to (spt (.b (decide (r6.2 = 0))) e) ?_));obtain rfl := sIn j;refine aB (aK rfl ⟨rfl, rfl, rfl, rfl, trivial⟩ rfl)
  ·refine tp e (tp e (to (spf Z3 e) ?_));obtain rfl := sIn j;refine aB (aK rfl ⟨rfl, rfl, rfl, rfl, trivial⟩ rfl)
 ·refine tm (.b p) ?_;obtain ⟨q, k, h⟩ := bns h;refine aW 3 [2, 4, 6] 33 q ?_ ?_
  ·refine bch k (fun f k => ?_) (fun f k => ?_)
   ·refine tk f (sm (.i r9.2)) (tk f (scm rfl rfl rfl) (to (spt (.b (decide (r9.2 = 0))) f) ?_));obtain rfl := sIn k;refine aB (aK rfl ⟨rfl, rfl, rfl, trivial⟩ rfl)
   ·refine tp f (tp f (to (spf Z3 f) ?_));obtain rfl := sIn k;refine aB (aK rfl ⟨rfl, rfl, rfl, trivial⟩ rfl)
  ·refine tm (.b q) ?_;obtain ⟨s, m, h⟩ := bns h;refine aW 3 [4, 6] 37 s ?_ ?_
   ·refine bch m (fun g m => ?_) (fun g m => ?_)
    ·refine tk g (sm (.i r4.1)) (tk g (scm rfl rfl rfl) (to (spt (.b (decide (r4.1 = 1501))) g) ?_));obtain rfl := sIn m;refine aB (aK rfl ⟨rfl, rfl, trivial⟩ rfl)
    ·refine tp g (tp g (to (spf Z3 g) ?_));obtain rfl := sIn m;refine aB (aK rfl ⟨rfl, rfl, trivial⟩ rfl)
   ·refine tm (.b s) ?_;obtain ⟨t, n, h⟩ := bns h;refine aW 4 [6] 42 t ?_ ?_
    ·refine bch n (fun c n => ?_) (fun c n => ?_)
     ·refine tk c (sla 1 (bJ r6.1) rfl rfl xB) (tk c (dZ (aF rfl) aIe (zs := [.j 0, .j 0, .j 0, .j 0, .j 0, .j 0, .j 0, .j 0, .j 0]) rfl rfl rfl rfl (es := [.j 22, .j 50, .j 0, .j 0, .j 0, .j 0, .j 16, .j 48, .j 2]) rfl) ?_);refine tk c (aTo (a := r6.1) (b := (aY.mk 22 50 0 0 0 0 16 48 2)) (aF rfl) rfl rfl rfl rfl Tryz.eqGuardType42 bAa) ?_;refine to (spt (.b (decide (r6.1 = (aY.mk 22 50 0 0 0 0 16 48 2)))) c) ?_;obtain rfl := sIn n;refine aB (aK rfl ⟨rfl, trivial⟩ rfl)
     ·refine tp c (tp c (tp c (to (spf Z3 c) ?_)));obtain rfl := sIn n;refine aB (aK rfl ⟨rfl, trivial⟩ rfl)
    ·refine tm (.b t) ?_;obtain ⟨u, o, h⟩ := bns h;refine aW 4 [] 47 u ?_ ?_
     ·refine bch o (fun d o => ?_) (fun d o => ?_)
      ·refine tkl 2 d rfl rfl aBc rfl aO (tk d (scm rfl rfl rfl) (to (spt (.b (decide (r9.1.Debt = 60))) d) ?_));obtain rfl := sIn o;refine aB (aK rfl trivial rfl)
      ·refine tp d (tp d (tp d (to (spf Z3 d) ?_)));obtain rfl := sIn o;refine aB (aK rfl trivial rfl)
     ·refine ta (.b u) (aB ?_);obtain rfl := sIn h;refine bL (bC (bE (l := [0]) ⟨rfl, trivial⟩)) ?_;exact rt

theorem wR (n : aR) (g : List Int) (a : List (List Int)) {r : Bool} (h : gJ n g a = some r) : Fn Tryz.prog 17 [.agg (aZ n), .d (Z8 g), .d (Z12 a)] (.b r) := by
 unfold gJ at h;refine oT [.tmp 6] Tryz.func17 Tryz.results17 Tryz.ntmps17 ?_;refine aC (aA ?_);refine bB rfl (eB (v := .agg (aZ n)) (aF rfl) rfl rfl rfl) ?_;rintro _ ⟨b1, rfl⟩;refine ta Z3 (aB (aC (aC (aA (tm (.d (Z12 a)) (to (sle rfl tY.of) (tfl 0 rfl rfl hY rfl aO (to (scm rfl rfl rfl) (tm (.b (!decide ((a.length : Int) = n.Rounds))) ?_)))))))));obtain ⟨b2, h3, h⟩ := bns h;refine aW 7 [1, 2, 3] 25 b2 ?_ ?_
 ·refine bch h3 (fun j h3 => ?_) (fun j h3 => ?_)
  ·refine tp j (tp j (tp j (tp j (tp j (tp j (to (spt Z10 j) ?_))))));obtain rfl := sIn h3;refine aB (aK rfl ⟨rfl, rfl, rfl, trivial⟩ rfl)
  ·refine tk j (sm (Z41 g)) (tk j (sle rfl bG.of) (tkl 0 j rfl rfl eA rfl cD (tk j (sle rfl bG.of) (tk j (scm rfl rfl rfl) (to (spf (.b (!decide ((g.length : Int) = (n.Slots.length : Int)))) j) ?_)))));obtain rfl := sIn h3;refine aB (aK rfl ⟨rfl, rfl, rfl, trivial⟩ rfl)
 ·refine aB ?_;refine tih h (fun c4 h => ?_) (fun c4 h => ?_)
  ·refine aC (aA (ta Z3 (aB ?_)));obtain rfl := sIn h;refine bL (bC (bE (l := [6]) ⟨rfl, trivial⟩)) ?_;exact rt
  ·refine aU (aC (aA (tm (Z41 g) (ta (Z41 g) (aB (aC (aC (aA (ta (.i 0) (aB (aX ?_)))))))))));refine bP (S := Z26 × Int) [2, 3] (fun s5 => [(7, .d (.sl 1 (s5.1.map aL))), (8, .i s5.2)]) (fun s5 => [.box b1 0 (aZ n)]) (fun k s5 => fE a n k s5.1 s5.2) (fun _ => rfl) (g, 0) h (aN [0] rfl rfl (aH rfl (aH rfl (aM ⟨rfl, rfl, trivial⟩)))) ?_;rintro k6 ⟨f, e⟩ h;simp only [fE] at h;refine aC (aC (aA (tm (.i e) (tfl 0 rfl rfl hY rfl aO (to (scm rfl rfl rfl) (aB ?_))))));refine tih h (fun c7 h => ?_) (fun c7 h => ?_)
   ·refine aU (aC (aX (aC (aC ?_))));obtain ⟨x8, h9, h⟩ := bns h;obtain ⟨x, B, h⟩ := bns h;refine cN mix 8 [2, 3, 7, 8] [(37, .i (x8.length : Int)), (40, .i x)] ?_ ?_
    ·refine ⟨[(33, 0, .d (Z12 a)), (34, 1, .i e), (35, 2, .cp [.sl 1 (x8.map aL)]), (36, 3, .d (.sl 1 (x8.map aL))), (37, 4, .i (x8.length : Int)), (38, 5, .agg (aZ n)), (39, 6, .i e), (40, 7, .i x)], ?_, ?_⟩
     · exact dk [0, 0, 102, 3, 4, 0, 0, 607] ⟨go (zm (.d (Z12 a))),
      go (zm (.i e)),
      go (zix rfl rfl tY.of (aV dE h9)),
      go (zlc rfl cD),
      go (zle rfl bG.of),
      go (zla 0 (aZ n) rfl rfl iT),
      go (zm (.i e)),
      go fun S hS => fW (aF rfl) (.func _ _ Tryz.call44) (ev2 (bF hS rfl) (ev2 (bF hS rfl) evn)) rfl (BVs.refl _ _) (qB _ _ B) rfl, trivial⟩
     · exact cC (aH rfl (aH rfl (aM ⟨rfl, rfl, rfl, rfl, trivial⟩)))
    ·refine to (scm rfl rfl rfl) (aB ?_);refine tih h (fun C h => ?_) (fun C h => ?_)
     ·refine aC (aA (ta Z3 (aB ?_)));obtain rfl := sIn h;refine bL (bC (bE (l := [6]) ⟨rfl, trivial⟩)) ?_;exact rt
     ·refine aU (aC (aC (aA (ta (.i 0) (aB (aX ?_))))));refine bP (S := Int) [2, 3, 7, 8] (fun w => [(9, .i w)]) (fun w => [.box b1 0 (aZ n)]) (fun k w => gY (fE a n k6) a f e n k w) (fun _ => rfl) (0) h (aN [0] rfl rfl (aH rfl (aM ⟨rfl, rfl, rfl, rfl, trivial⟩))) ?_;rintro N c h;simp only [gY] at h;refine aC (aC (aA (tm (.i c) (to (sla 0 (aZ n) rfl rfl iT) (tm (.i e) ?_)))));obtain ⟨O, E, h⟩ := bns h;refine to (scr Tryz.call44 (qB _ _ E)) (to (scm rfl rfl rfl) (aB ?_));refine tih h (fun F h => ?_) (fun F h => ?_)
      ·refine aU (aC (aX (aC ?_)));obtain ⟨q, G, h⟩ := bns h;obtain ⟨s, H, h⟩ := bns h;obtain ⟨y, I, h⟩ := bns h;obtain ⟨o, J, h⟩ := bns h;refine cN mix 20 [2, 3, 7, 8, 9] [(10, .i q), (11, .i s), (66, .i o)] ?_ ?_
       ·refine ⟨[(49, 0, .d (.sl 1 (f.map aL))), (50, 1, .i c), (51, 2, .i (w64 (2 * c))), (52, 3, .cp [.j q]), (53, 4, .i q), (54, 5, .d (.sl 1 (f.map aL))), (55, 6, .i c), (56, 7, .i (w64 (2 * c))), (57, 8, .i (w64 ((w64 (2 * c)) + 1))), (58, 9, .cp [.j s]), (59, 10, .i s), (60, 11, .d (Z12 a)), (61, 12, .i e), (62, 13, .cp [.sl 1 (y.map aL)]), (63, 14, .d (.sl 1 (y.map aL))), (64, 15, .i c), (65, 16, .cp [.j o]), (66, 17, .i o), (10, 18, .i q), (11, 19, .i s)], ?_, ?_⟩
        · exact dk [0, 0, 2, 103, 4, 0, 0, 7, 8, 609, 10, 0, 0, 1213, 14, 0, 1516, 17, 5, 11] ⟨go (zm (.d (.sl 1 (f.map aL)))),
      go (zm (.i c)),
      go (zar rfl rfl rfl),
      go (zix rfl rfl bG.of (aV aL G)),
      go (zlc rfl aO),
      go (zm (.d (.sl 1 (f.map aL)))),
      go (zm (.i c)),
      go (zar rfl rfl rfl),
      go (zar rfl rfl rfl),
      go (zix rfl rfl bG.of (aV aL H)),
      go (zlc rfl aO),
      go (zm (.d (Z12 a))),
      go (zm (.i e)),
      go (zix rfl rfl tY.of (aV dE I)),
      go (zlc rfl cD),
      go (zm (.i c)),
      go (zix rfl rfl bG.of (aV aL J)),
      go (zlc rfl aO),
      go (za (.i q)),
      go (za (.i s)), trivial⟩
        · exact cC (aH rfl (aH rfl (aH rfl (aM ⟨rfl, rfl, rfl, rfl, rfl, trivial⟩))))
       ·refine ta (.i o) (aB (aC (aA (tm (.i o) (to (scm rfl rfl rfl) (tm (.b (decide (o = (-1)))) ?_))))));obtain ⟨K, t, h⟩ := bns h;refine aW 9 [2, 3, 7, 8, 9] 78 K ?_ ?_
        ·refine bch t (fun m t => ?_) (fun m t => ?_)
         ·refine tp m (tp m (tp m (tp m (tq (tq (tq (tp m (to (spt Z10 m) ?_))))))));obtain rfl := sIn t;refine aB (aK rfl ⟨rfl, rfl, rfl, rfl, rfl, trivial⟩ rfl)
         ·refine tk m (sm (.i o)) (tk m (sm (.i q)) (tk m (scm rfl rfl rfl) (tk m (sm (.b (!decide (o = q)))) ?_)));obtain ⟨z, u, t⟩ := bns t;refine aW 4 [2, 3, 7, 8, 9, 69, 70, 71, 72, 73] 77 z ?_ ?_
          ·refine bch u (fun p u => ?_) (fun p u => ?_)
           ·refine tk p (sm (.i o)) (tk p (sm (.i s)) (tk p (scm rfl rfl rfl) (tk m (spt (.b (!decide (o = s))) p) ?_)));obtain rfl := sIn u;refine aB (aK rfl ⟨rfl, rfl, rfl, rfl, rfl, rfl, rfl, rfl, rfl, rfl, trivial⟩ rfl)
           ·refine tp p (tp p (tp p (tk m (spf Z3 p) ?_)));obtain rfl := sIn u;refine aB (aK rfl ⟨rfl, rfl, rfl, rfl, rfl, rfl, rfl, rfl, rfl, rfl, trivial⟩ rfl)
          ·refine to (spf (.b z) m) ?_;obtain rfl := sIn t;refine aB (aK rfl ⟨rfl, rfl, rfl, rfl, rfl, trivial⟩ rfl)
        ·refine aB ?_;refine tih h (fun L h => ?_) (fun L h => ?_)
         ·refine aC (aA (ta Z3 (aB ?_)));obtain rfl := sIn h;refine bL (bC (bE (l := [6]) ⟨rfl, trivial⟩)) ?_;exact rt
         ·refine cL ?_;refine aA (tm (.i c) (to (sar rfl rfl rfl) (ta (.i (w64 (c + 1))) (aB ?_))));exact ⟨(w64 (c + 1)), h, aN [0] rfl rfl (aH rfl (aM ⟨rfl, rfl, rfl, rfl, trivial⟩))⟩
      ·refine bQ ?_;refine .inl ⟨rfl, ?_⟩;simp only [qU] at h;refine aA (tm (.d (Z12 a)) (tm (.i e) ?_));obtain ⟨A, M, h⟩ := bns h;refine to (six rfl rfl tY.of (aV dE M)) (to (slc rfl cD) (ta (.d (.sl 1 (A.map aL))) ?_));refine cM ?_;simp only [qT] at h;refine aA (tm (.i e) (to (sar rfl rfl rfl) (ta (.i (w64 (e + 1))) (aB ?_))));exact ⟨(A, w64 (e + 1)), h, aN [0] rfl rfl (aH rfl (aH rfl (aM ⟨rfl, rfl, trivial⟩)))⟩
   ·refine bQ ?_;refine .inl ⟨rfl, ?_⟩;simp only [qS] at h;refine aC (aA (ta Z10 (aB ?_)));obtain rfl := sIn h;refine bL (bC (bE (l := [6]) ⟨rfl, trivial⟩)) ?_;exact rt

theorem yA (m : aR) (e : List aE) (c : List (List Int)) {r : Bool} (h : kF m e c = some r) : Fn Tryz.prog 18 [.agg (aZ m), .d (Z6 e), .d (Z12 c)] (.b r) := by
 unfold kF at h;refine oT [.tmp 6] Tryz.func18 Tryz.results18 Tryz.ntmps18 ?_;refine aC (aA ?_);refine bB rfl (eB (v := .agg (aZ m)) (aF rfl) rfl rfl rfl) ?_;rintro _ ⟨b1, rfl⟩;refine ta Z3 (aB (aC (aC (aA (ta (.i 0) (aB (aX ?_)))))));refine bP (S := Int) [1, 2] (fun s2 => [(7, .i s2)]) (fun s2 => []) (fun k s2 => jD e c k s2) (fun _ => rfl) (0) h (aN [] rfl rfl (aH rfl (aM ⟨rfl, rfl, trivial⟩))) ?_;rintro k3 a h;simp only [jD] at h;refine aC (aC (aA (tm (.i a) (tm (Z27 e) (to (sle rfl fO.of) (to (scm rfl rfl rfl) (aB ?_)))))));refine tih h (fun c4 h => ?_) (fun c4 h => ?_)
 ·refine aU (aC (aX (aC ?_)));obtain ⟨x5, h6, h⟩ := bns h;obtain ⟨b7, h8, h⟩ := bns h;refine cN mix 29 [1, 2, 7] [(42, .b b7)] ?_ ?_
  ·refine bch h8 (fun c9 h8 => ?_) (fun c9 h8 => ?_)
   ·obtain ⟨g, o, h8⟩ := bns h8;obtain ⟨n, p, h8⟩ := bns h8;obtain ⟨j, q, h8⟩ := bns h8;obtain ⟨l, s, h8⟩ := bns h8;obtain ⟨f, t, h8⟩ := bns h8;obtain rfl := sIn h8;refine ⟨[(14, 0, .d (Z6 e)), (15, 1, .i a), (16, 2, .cp [.j x5.Kind, .j x5.Round, .j x5.Place, .j x5.Player, .j x5.Old]), (17, 3, .cp [.j x5.Kind]), (18, 4, .i x5.Kind), (19, 5, .b (!decide (x5.Kind = 5))), (20, 6, .b (!decide (x5.Kind = 5))), (21, 7, .d (Z12 c)), (22, 8, .d (Z6 e)), (23, 9, .i a), (24, 10, .cp [.j g.Kind, .j g.Round, .j g.Place, .j g.Player, .j g.Old]), (25, 11, .cp [.j g.Round]), (26, 12, .i g.Round), (27, 13, .cp [.sl 1 (n.map aL)]), (28, 14, .d (.sl 1 (n.map aL))), (29, 15, .d (Z6 e)), (30, 16, .i a), (31, 17, .cp [.j j.Kind, .j j.Round, .j j.Place, .j j.Player, .j j.Old]), (32, 18, .cp [.j j.Place]), (33, 19, .i j.Place), (34, 20, .cp [.j l]), (35, 21, .i l), (36, 22, .d (Z6 e)), (37, 23, .i a), (38, 24, .cp [.j f.Kind, .j f.Round, .j f.Place, .j f.Player, .j f.Old]), (39, 25, .cp [.j f.Player]), (40, 26, .i f.Player), (41, 27, .b (!decide (l = f.Player))), (42, 28, .b (!decide (l = f.Player)))], ?_, ?_⟩
    · exact dk [0, 0, 102, 3, 4, 5, 6, 7, 7, 7, 70910, 711, 712, 70813, 714, 7, 7, 71617, 718, 719, 71520, 721, 7, 7, 72324, 725, 726, 72227, 728] ⟨go (zm (Z27 e)),
      go (zm (.i a)),
      go (zix rfl rfl fO.of (aV aJ h6)),
      go (zfc [.j x5.Kind] rfl mF),
      go (zlc rfl aO),
      go (zcm rfl rfl rfl),
      go (zm (.b (!decide (x5.Kind = 5)))),
      gt c9 (zm (.d (Z12 c))),
      gt c9 (zm (Z27 e)),
      gt c9 (zm (.i a)),
      gt c9 (zix rfl rfl fO.of (aV aJ o)),
      gt c9 (zfc [.j g.Round] rfl oN),
      gt c9 (zlc rfl aO),
      gt c9 (zix rfl rfl tY.of (aV dE p)),
      gt c9 (zlc rfl cD),
      gt c9 (zm (Z27 e)),
      gt c9 (zm (.i a)),
      gt c9 (zix rfl rfl fO.of (aV aJ q)),
      gt c9 (zfc [.j j.Place] rfl kG),
      gt c9 (zlc rfl aO),
      gt c9 (zix rfl rfl bG.of (aV aL s)),
      gt c9 (zlc rfl aO),
      gt c9 (zm (Z27 e)),
      gt c9 (zm (.i a)),
      gt c9 (zix rfl rfl fO.of (aV aJ t)),
      gt c9 (zfc [.j f.Player] rfl nG),
      gt c9 (zlc rfl aO),
      gt c9 (zcm rfl rfl rfl),
      go (zpt (.b (!decide (l = f.Player))) c9), trivial⟩
    · exact cC (aH rfl (aM ⟨rfl, rfl, rfl, trivial⟩))
   ·obtain rfl := sIn h8;refine ⟨[(14, 0, .d (Z6 e)), (15, 1, .i a), (16, 2, .cp [.j x5.Kind, .j x5.Round, .j x5.Place, .j x5.Player, .j x5.Old]), (17, 3, .cp [.j x5.Kind]), (18, 4, .i x5.Kind), (19, 5, .b (!decide (x5.Kind = 5))), (20, 6, .b (!decide (x5.Kind = 5))), (21, 7, .tup []), (22, 8, .tup []), (23, 9, .tup []), (24, 10, .tup []), (25, 11, .tup []), (26, 12, .tup []), (27, 13, .tup []), (28, 14, .tup []), (29, 15, .tup []), (30, 16, .tup []), (31, 17, .tup []), (32, 18, .tup []), (33, 19, .tup []), (34, 20, .tup []), (35, 21, .tup []), (36, 22, .tup []), (37, 23, .tup []), (38, 24, .tup []), (39, 25, .tup []), (40, 26, .tup []), (41, 27, .tup []), (42, 28, .b false)], ?_, ?_⟩
    · exact dk [0, 0, 102, 3, 4, 5, 6, 7, 7, 7, 70910, 711, 712, 70813, 714, 7, 7, 71617, 718, 719, 71520, 721, 7, 7, 72324, 725, 726, 72227, 728] ⟨go (zm (Z27 e)),
      go (zm (.i a)),
      go (zix rfl rfl fO.of (aV aJ h6)),
      go (zfc [.j x5.Kind] rfl mF),
      go (zlc rfl aO),
      go (zcm rfl rfl rfl),
      go (zm (.b (!decide (x5.Kind = 5)))),
      gp c9,
      gp c9,
      gp c9,
      gp c9,
      gp c9,
      gp c9,
      gp c9,
      gp c9,
      gp c9,
      gp c9,
      gp c9,
      gp c9,
      gp c9,
      gp c9,
      gp c9,
      gp c9,
      gp c9,
      gp c9,
      gp c9,
      gp c9,
      gp c9,
      go (zpf Z3 c9), trivial⟩
    · exact cC (aH rfl (aM ⟨rfl, rfl, rfl, trivial⟩))
  ·refine aB ?_;refine tih h (fun u h => ?_) (fun u h => ?_)
   ·refine aC (aA (ta Z3 (aB ?_)));obtain rfl := sIn h;exact rt
   ·refine cL ?_;refine aA (tm (.i a) (to (sar rfl rfl rfl) (ta (.i (w64 (a + 1))) (aB ?_))));exact ⟨(w64 (a + 1)), h, aN [] rfl rfl (aH rfl (aM ⟨rfl, rfl, trivial⟩))⟩
 ·refine bQ ?_;refine .inl ⟨rfl, ?_⟩;simp only [sQ] at h;refine aC (aA (ta Z10 (aB ?_)));obtain rfl := sIn h;exact rt

theorem zP (g : List Int) (a : List (List Int)) (c : Int) {r : Int × Bool} (h : mD g a c = some r) : Fn Tryz.prog 19 [.d (Z8 g), .d (Z12 a), .i c] (.tup [.i r.1, .b r.2]) := by
 unfold mD at h;refine oT [.tmp 6, .tmp 7] Tryz.func19 Tryz.results19 Tryz.ntmps19 ?_;refine aC (aA (ta (.i 0) (ta Z3 (aB (aC (aC (aA (ta (.i 0) (aB (aX ?_))))))))));refine bP (S := Bool × Int) [0, 1, 2, 6] (fun s1 => [(7, .b s1.1), (8, .i s1.2)]) (fun s1 => []) (fun k s1 => jT g a c 0 k s1.1 s1.2) (fun _ => rfl) (false, 0) h (aN [] rfl rfl (aH rfl (aH rfl (aM ⟨rfl, rfl, rfl, rfl, trivial⟩)))) ?_;rintro k2 ⟨e, m⟩ h;simp only [jT] at h;refine aC (aC (aA (tm (.i m) (tm (Z41 g) (to (sle rfl bG.of) (to (scm rfl rfl rfl) (aB ?_)))))));refine tih h (fun c3 h => ?_) (fun c3 h => ?_)
 ·refine aU (aC (aX (aA (tm (.b e) (tm (.b e) ?_)))));obtain ⟨b4, h5, h⟩ := bns h;refine aW 7 [0, 1, 2, 6, 8] 25 b4 ?_ ?_
  ·refine bch h5 (fun c6 h5 => ?_) (fun c6 h5 => ?_)
   ·refine tp c6 (tp c6 (tp c6 (tp c6 (tp c6 (tp c6 (to (spt Z10 c6) ?_))))));obtain rfl := sIn h5;refine aB (aK rfl ⟨rfl, rfl, rfl, rfl, rfl, trivial⟩ rfl)
   ·refine tk c6 (sm (Z41 g)) (tk c6 (sm (.i m)) ?_);obtain ⟨x7, h8, h5⟩ := bns h5;refine tk c6 (six rfl rfl bG.of (aV aL h8)) (tk c6 (slc rfl aO) (tk c6 (sm (.i c)) (tk c6 (scm rfl rfl rfl) (to (spf (.b (decide (x7 = c))) c6) ?_))));obtain rfl := sIn h5;refine aB (aK rfl ⟨rfl, rfl, rfl, rfl, rfl, trivial⟩ rfl)
  ·refine ta (.b b4) ?_;refine cM ?_;refine aA (tm (.i m) (to (sar rfl rfl rfl) (ta (.i (w64 (m + 1))) (aB ?_))));exact ⟨(b4, w64 (m + 1)), h, aN [] rfl rfl (aH rfl (aH rfl (aM ⟨rfl, rfl, rfl, rfl, trivial⟩)))⟩
 ·refine bQ ?_;refine .inl ⟨rfl, ?_⟩;simp only [uF] at h;refine aC (aC (aA (ta (.i 0) (aB (aX ?_)))));refine bP (S := Int × Int) [1, 2, 7] (fun s9 => [(6, .i s9.1), (9, .i s9.2)]) (fun s9 => []) (fun k s9 => fQ a c e k s9.1 s9.2) (fun _ => rfl) (0, 0) h (aN [] rfl rfl (aH rfl (aH rfl (aM ⟨rfl, rfl, rfl, trivial⟩)))) ?_;rintro p ⟨o, j⟩ h;simp only [fQ] at h;refine aC (aC (aA (tm (.i j) (tm (.d (Z12 a)) (to (sle rfl tY.of) (to (scm rfl rfl rfl) (aB ?_)))))));refine tih h (fun q h => ?_) (fun q h => ?_)
  ·refine aU (aC (aX (aC (aA (ta (.i 0) (aB ?_))))));refine tN ?_;refine bP (S := Int × Int) [1, 2, 7, 9] (fun n => [(6, .i n.1), (10, .i n.2)]) (fun n => []) (fun k n => iU (fQ a c e p) a c e j k n.1 n.2) (fun _ => rfl) (o, 0) h (aN [] rfl rfl (aH rfl (aH rfl (aM ⟨rfl, rfl, rfl, rfl, trivial⟩)))) ?_;rintro x ⟨l, f⟩ h;simp only [iU] at h;refine aC (aC (aA (tm (.i f) (tm (.d (Z12 a)) (tm (.i j) ?_)))));obtain ⟨y, s, h⟩ := bns h;refine to (six rfl rfl tY.of (aV dE s)) (to (slc rfl cD) (to (sle rfl bG.of) (to (scm rfl rfl rfl) (aB ?_))));refine tih h (fun t h => ?_) (fun t h => ?_)
   ·refine aU (aC (aX (aC (aA (tm (.d (Z12 a)) (tm (.i j) ?_))))));obtain ⟨z, u, h⟩ := bns h;refine to (six rfl rfl tY.of (aV dE u)) (to (slc rfl cD) (tm (.i f) ?_));obtain ⟨A, v, h⟩ := bns h;refine to (six rfl rfl bG.of (aV aL v)) (to (slc rfl aO) (tm (.i c) (to (scm rfl rfl rfl) (aB ?_))));refine tih h (fun w h => ?_) (fun w h => ?_)
    ·refine aA (tm (.i l) (to (sar rfl rfl rfl) (ta (.i (w64 (l + 1))) ?_)));refine cM ?_;refine aA (tm (.i f) (to (sar rfl rfl rfl) (ta (.i (w64 (f + 1))) (aB ?_))));exact ⟨(w64 (l + 1), w64 (f + 1)), h, aN [] rfl rfl (aH rfl (aH rfl (aM ⟨rfl, rfl, rfl, rfl, trivial⟩)))⟩
    ·refine cL ?_;refine aA (tm (.i f) (to (sar rfl rfl rfl) (ta (.i (w64 (f + 1))) (aB ?_))));exact ⟨(l, w64 (f + 1)), h, aN [] rfl rfl (aH rfl (aH rfl (aM ⟨rfl, rfl, rfl, rfl, trivial⟩)))⟩
   ·refine bQ ?_;refine .inl ⟨rfl, ?_⟩;simp only [uI] at h;simp only [uH] at h;refine aA (tm (.i j) (to (sar rfl rfl rfl) (ta (.i (w64 (j + 1))) (aB ?_))));exact ⟨(l, w64 (j + 1)), h, aN [] rfl rfl (aH rfl (aH rfl (aM ⟨rfl, rfl, rfl, trivial⟩)))⟩
  ·refine bQ ?_;refine .inl ⟨rfl, ?_⟩;simp only [uG] at h;refine aC (aA (tm (.i o) (tm (.b e) (ta (.i o) (ta (.b e) (aB ?_))))));obtain rfl := sIn h;exact cI ⟨rfl, _, .two _ _, rfl, rfl⟩

theorem yY (d : bR) (c : Bool) (a : Int) {r : Int} (h : lF d c a = some r) : Fn Tryz.prog 20 [.agg (bK d), .b c, .i a] (.i r) := by
 unfold lF at h;refine oT [.tmp 6] Tryz.func20 Tryz.results20 Tryz.ntmps20 ?_;refine aC (aA ?_);refine bB rfl (eB (v := .agg (bK d)) (aF rfl) rfl rfl rfl) ?_;rintro _ ⟨b1, rfl⟩;refine ta (.i 0) (aB (aC (aC (aA (tfl 0 rfl rfl jN rfl aO (to (scm rfl rfl rfl) (aB ?_)))))));refine tih h (fun c2 h => ?_) (fun c2 h => ?_)
 ·refine aC (aA (tm (.i a) (ta (.i a) (aB ?_))));obtain rfl := sIn h;refine bL (bC (bE (l := [6]) ⟨rfl, trivial⟩)) ?_;exact rt
 ·refine aU (aC (aC (aA (tm (.b c) (aB ?_)))));refine tih h (fun c3 h => ?_) (fun c3 h => ?_)
  ·refine aC (aA (tm (.i a) (to (aFe (aF rfl) rfl rfl (by decide)) ?_)));refine ta (.i (w64 (a.tdiv 2))) (aB ?_);obtain rfl := sIn h;refine bL (bC (bE (l := [6]) ⟨rfl, trivial⟩)) ?_;exact rt
  ·refine aU (aC (aA (tm (.i a) (to (sar rfl rfl rfl) (to (aFe (aF rfl) rfl rfl (by decide)) ?_)))));refine ta (.i (w64 ((w64 (a + 1)).tdiv 2))) (aB ?_);obtain rfl := sIn h;refine bL (bC (bE (l := [6]) ⟨rfl, trivial⟩)) ?_;exact rt

theorem aCq (f : aP) (a : List (List Int)) (j : Int) {r : Bool} (h : pD f a j = some r) : Fn Tryz.prog 3 [.agg (aT f), .d (Z12 a), .i j] (.b r) := by
 unfold pD at h;refine oT [.tmp 6] Tryz.func3 Tryz.results3 Tryz.ntmps3 ?_;refine aC (aA ?_);refine bB rfl (eB (v := .agg (aT f)) (aF rfl) rfl rfl rfl) ?_;rintro _ ⟨b1, rfl⟩;refine ta Z3 (aB (aC (aC (aA (to (sla 0 (aT f) rfl rfl eR) ?_)))));obtain ⟨r2, h3, h⟩ := bns h;refine to (scr Tryz.call10 (aGk _ h3)) (to (sn rfl) (tm (.b (!r2)) ?_));obtain ⟨b4, h5, h⟩ := bns h;refine aW 5 [1, 2, 3] 31 b4 ?_ ?_
 ·refine bch h5 (fun m h5 => ?_) (fun m h5 => ?_)
  ·refine tp m (tp m (tp m (tp m (to (spt Z10 m) ?_))));obtain rfl := sIn h5;refine aB (aK rfl ⟨rfl, rfl, rfl, trivial⟩ rfl)
  ·refine tk m (sla 0 (aT f) rfl rfl eR) (tk m (sm (.i j)) ?_);obtain ⟨d2, d3, h5⟩ := bns h5;refine tk m (scr Tryz.call11 (lS _ _ d3)) (tk m (sn rfl) (to (spf (.b (!d2)) m) ?_));obtain rfl := sIn h5;refine aB (aK rfl ⟨rfl, rfl, rfl, trivial⟩ rfl)
 ·refine aB ?_;refine tih h (fun c6 h => ?_) (fun c6 h => ?_)
  ·refine aC (aA ?_);obtain ⟨r7, h8, h⟩ := bns h;refine to (scr Tryz.call12 (jU h8)) (ta (.b r7) (aB ?_));obtain rfl := sIn h;refine bL (bC (bE (l := [6]) ⟨rfl, trivial⟩)) ?_;exact rt
  ·refine aU (aC (aA (to (sla 0 (aT f) rfl rfl eR) (tm (.i j) ?_))));obtain ⟨r9, e3, h⟩ := bns h;refine to (eY (aF rfl) (.func _ _ Tryz.call13) rfl rfl (vW _ _ e3)) ?_;refine tm (.tup [.agg (bX r9.1), .i r9.2]) (to (sex rfl rfl) (to (sex rfl rfl) ?_));refine bB rfl (cK (zs := [.j 0, .j 0]) (aF rfl) Tryz.zeroValue37 rfl rfl) ?_;rintro _ ⟨i1, rfl⟩;refine to (sst 1 rfl rfl Tryz.sizeOf37 (bX r9.1)) (ta (.i r9.2) (aB (aC (aA (to (sla 0 (aT f) rfl rfl eR) (tm (.i j) ?_))))));obtain ⟨I, e4, h⟩ := bns h;refine to (eY (aF rfl) (.func _ _ Tryz.call14) rfl rfl (aHp _ _ e4)) ?_;refine tm (.tup [.agg (bJ I.1), .i I.2]) (to (sex rfl rfl) (to (sex rfl rfl) ?_));refine bB rfl (cK (zs := [.j 0, .j 0, .j 0, .j 0, .j 0, .j 0, .j 0, .j 0, .j 0]) (aF rfl) Tryz.zeroValue42 rfl rfl) ?_;rintro _ ⟨i2, rfl⟩;refine to (sst 2 rfl rfl Tryz.sizeOf42 (bJ I.1)) (ta (.i I.2) (aB (aC (aC (aA (tm (.i r9.2) (to (scm rfl rfl rfl) (tm (.b (!decide (r9.2 = 0))) ?_))))))));obtain ⟨b9, Y, h⟩ := bns h;refine aW 3 [1, 2, 3, 7, 9] 50 b9 ?_ ?_
   ·refine bch Y (fun C Y => ?_) (fun C Y => ?_)
    ·refine tp C (tp C (to (spt Z10 C) ?_));obtain rfl := sIn Y;refine aB (aK rfl ⟨rfl, rfl, rfl, rfl, rfl, trivial⟩ rfl)
    ·refine tk C (sm (.i I.2)) (tk C (scm rfl rfl rfl) (to (spf (.b (!decide (I.2 = 0))) C) ?_));obtain rfl := sIn Y;refine aB (aK rfl ⟨rfl, rfl, rfl, rfl, rfl, trivial⟩ rfl)
   ·refine tm (.b b9) ?_;obtain ⟨c0, Z, h⟩ := bns h;refine aW 6 [1, 2, 3, 7, 9] 57 c0 ?_ ?_
    ·refine bch Z (fun n Z => ?_) (fun n Z => ?_)
     ·refine tp n (tp n (tp n (tp n (tp n (to (spt Z10 n) ?_)))));obtain rfl := sIn Z;refine aB (aK rfl ⟨rfl, rfl, rfl, rfl, rfl, trivial⟩ rfl)
     ·refine tkl 1 n rfl rfl oL rfl aO (tkl 1 n rfl rfl rG rfl aO (tk n (scm rfl rfl rfl) (to (spf (.b (decide (r9.1.High < r9.1.Low))) n) ?_)));obtain rfl := sIn Z;refine aB (aK rfl ⟨rfl, rfl, rfl, rfl, rfl, trivial⟩ rfl)
    ·refine tm (.b c0) ?_;obtain ⟨e5, a0, h⟩ := bns h;refine aW 6 [1, 2, 3, 7] 64 e5 ?_ ?_
     ·refine bch a0 (fun o a0 => ?_) (fun o a0 => ?_)
      ·refine tp o (tp o (tp o (tp o (tp o (to (spt Z10 o) ?_)))));obtain rfl := sIn a0;refine aB (aK rfl ⟨rfl, rfl, rfl, rfl, trivial⟩ rfl)
      ·refine tkl 2 o rfl rfl yE rfl aO (tkl 1 o rfl rfl oL rfl aO (tk o (scm rfl rfl rfl) (to (spf (.b (!decide (I.1.Gross = r9.1.Low))) o) ?_)));obtain rfl := sIn a0;refine aB (aK rfl ⟨rfl, rfl, rfl, rfl, trivial⟩ rfl)
     ·refine aB ?_;refine tih h (fun e6 h => ?_) (fun e6 h => ?_)
      ·refine aC (aA (ta Z3 (aB ?_)));obtain rfl := sIn h;refine bL (bC (bE (l := [6]) ⟨rfl, trivial⟩)) ?_;exact rt
      ·refine aU (aC (aA (to (sla 0 (aT f) rfl rfl eR) (tm (.i j) ?_))));obtain ⟨g, e7, h⟩ := bns h;refine to (eY (aF rfl) (.func _ _ Tryz.call15) rfl rfl (zR _ _ e7)) ?_;refine tm (.tup [.agg (bK g.1), .b g.2.1, .b g.2.2]) (to (sex rfl rfl) (to (sex rfl rfl) (to (sex rfl rfl) ?_)));refine bB rfl (cK (zs := [.j 0, .j 0, .j 0]) (aF rfl) Tryz.zeroValue46 rfl rfl) ?_;rintro _ ⟨i3, rfl⟩;refine to (sst 3 rfl rfl Tryz.sizeOf46 (bK g.1)) (ta (.b g.2.1) (ta (.b g.2.2) (aB (aC (aC (aA (tfl 3 rfl rfl jN rfl aO (to (scm rfl rfl rfl) (aB ?_)))))))));refine tih h (fun e8 h => ?_) (fun e8 h => ?_)
       ·refine aC (aA (to (sla 0 (aT f) rfl rfl eR) (tfl 3 rfl rfl oM rfl aO ?_)));obtain ⟨y, e9, h⟩ := bns h;refine to (eY (aF rfl) (.func _ _ Tryz.call13) rfl rfl (vW _ _ e9)) ?_;refine tm (.tup [.agg (bX y.1), .i y.2]) (to (sex rfl rfl) (to (sex rfl rfl) ?_));refine bB rfl (cK (zs := [.j 0, .j 0]) (aF rfl) Tryz.zeroValue37 rfl rfl) ?_;rintro _ ⟨i4, rfl⟩;refine to (sst 4 rfl rfl Tryz.sizeOf37 (bX y.1)) (ta (.i y.2) (aB (aC (aA (to (sla 0 (aT f) rfl rfl eR) (tfl 3 rfl rfl jN rfl aO ?_))))));obtain ⟨z, f0, h⟩ := bns h;refine to (eY (aF rfl) (.func _ _ Tryz.call13) rfl rfl (vW _ _ f0)) ?_;refine tm (.tup [.agg (bX z.1), .i z.2]) (to (sex rfl rfl) (to (sex rfl rfl) ?_));refine bB rfl (cK (zs := [.j 0, .j 0]) (aF rfl) Tryz.zeroValue37 rfl rfl) ?_;rintro _ ⟨i5, rfl⟩;refine to (sst 5 rfl rfl Tryz.sizeOf37 (bX z.1)) (ta (.i z.2) (aB (aC (aA (tm (.i y.2) (to (scm rfl rfl rfl) (tm (.b (!decide (y.2 = 0))) ?_)))))));obtain ⟨c1, a1, h⟩ := bns h;refine aW 3 [1, 3, 7, 11, 12, 14, 16] 94 c1 ?_ ?_
        ·refine bch a1 (fun J a1 => ?_) (fun J a1 => ?_)
         ·refine tp J (tp J (to (spt Z10 J) ?_));obtain rfl := sIn a1;refine aB (aK rfl ⟨rfl, rfl, rfl, rfl, rfl, rfl, rfl, trivial⟩ rfl)
         ·refine tk J (sm (.i z.2)) (tk J (scm rfl rfl rfl) (to (spf (.b (!decide (z.2 = 0))) J) ?_));obtain rfl := sIn a1;refine aB (aK rfl ⟨rfl, rfl, rfl, rfl, rfl, rfl, rfl, trivial⟩ rfl)
        ·refine tm (.b c1) ?_;obtain ⟨c2, a2, h⟩ := bns h;refine aW 7 [1, 3, 7, 11, 12, 14, 16] 102 c2 ?_ ?_
         ·refine bch a2 (fun t a2 => ?_) (fun t a2 => ?_)
          ·refine tp t (tp t (tp t (tp t (tp t (tp t (to (spt Z10 t) ?_))))));obtain rfl := sIn a2;refine aB (aK rfl ⟨rfl, rfl, rfl, rfl, rfl, rfl, rfl, trivial⟩ rfl)
          ·refine tkl 4 t rfl rfl oL rfl aO (tkl 5 t rfl rfl oL rfl aO (tk t (sar rfl rfl rfl) (tk t (scm rfl rfl rfl) (to (spf (.b (decide ((w64 (y.1.Low - z.1.Low)) < 0))) t) ?_))));obtain rfl := sIn a2;refine aB (aK rfl ⟨rfl, rfl, rfl, rfl, rfl, rfl, rfl, trivial⟩ rfl)
         ·refine tm (.b c2) ?_;obtain ⟨c3, a3, h⟩ := bns h;refine aW 7 [1, 3, 7, 11, 12, 14, 16] 110 c3 ?_ ?_
          ·refine bch a3 (fun u a3 => ?_) (fun u a3 => ?_)
           ·refine tp u (tp u (tp u (tp u (tp u (tp u (to (spt Z10 u) ?_))))));obtain rfl := sIn a3;refine aB (aK rfl ⟨rfl, rfl, rfl, rfl, rfl, rfl, rfl, trivial⟩ rfl)
           ·refine tkl 4 u rfl rfl oL rfl aO (tkl 5 u rfl rfl oL rfl aO (tk u (sar rfl rfl rfl) (tk u (scm rfl rfl rfl) (to (spf (.b (decide (1 < (w64 (y.1.Low - z.1.Low))))) u) ?_))));obtain rfl := sIn a3;refine aB (aK rfl ⟨rfl, rfl, rfl, rfl, rfl, rfl, rfl, trivial⟩ rfl)
          ·refine tm (.b c3) ?_;obtain ⟨c4, a4, h⟩ := bns h;refine aW 7 [1, 3, 7, 11, 12, 14, 16] 118 c4 ?_ ?_
           ·refine bch a4 (fun w a4 => ?_) (fun w a4 => ?_)
            ·refine tp w (tp w (tp w (tp w (tp w (tp w (to (spt Z10 w) ?_))))));obtain rfl := sIn a4;refine aB (aK rfl ⟨rfl, rfl, rfl, rfl, rfl, rfl, rfl, trivial⟩ rfl)
            ·refine tkl 4 w rfl rfl rG rfl aO (tkl 5 w rfl rfl rG rfl aO (tk w (sar rfl rfl rfl) (tk w (scm rfl rfl rfl) (to (spf (.b (decide ((w64 (y.1.High - z.1.High)) < 0))) w) ?_))));obtain rfl := sIn a4;refine aB (aK rfl ⟨rfl, rfl, rfl, rfl, rfl, rfl, rfl, trivial⟩ rfl)
           ·refine tm (.b c4) ?_;obtain ⟨f1, a5, h⟩ := bns h;refine aW 7 [1, 3, 7, 11, 12] 126 f1 ?_ ?_
            ·refine bch a5 (fun x a5 => ?_) (fun x a5 => ?_)
             ·refine tp x (tp x (tp x (tp x (tp x (tp x (to (spt Z10 x) ?_))))));obtain rfl := sIn a5;refine aB (aK rfl ⟨rfl, rfl, rfl, rfl, rfl, trivial⟩ rfl)
             ·refine tkl 4 x rfl rfl rG rfl aO (tkl 5 x rfl rfl rG rfl aO (tk x (sar rfl rfl rfl) (tk x (scm rfl rfl rfl) (to (spf (.b (decide (1 < (w64 (y.1.High - z.1.High))))) x) ?_))));obtain rfl := sIn a5;refine aB (aK rfl ⟨rfl, rfl, rfl, rfl, rfl, trivial⟩ rfl)
            ·refine aB ?_;refine tih h (fun f2 h => ?_) (fun f2 h => ?_)
             ·refine aC (aA (ta Z3 (aB ?_)));obtain rfl := sIn h;refine bL (bC (bE (l := [6]) ⟨rfl, trivial⟩)) ?_;exact rt
             ·refine aU (aC (aA (to (sf rfl hZ) (to (sla 0 (aZ f.Tree) rfl rfl iT) (tfl 0 rfl rfl nF rfl rT ?_)))));obtain ⟨G, f3, h⟩ := bns h;refine to (eY (aF rfl) (.func _ _ Tryz.call16) rfl rfl (sR _ _ f3)) ?_;refine tm (.tup [.d (.sl 1 (G.1.map aL)), .b G.2]) (to (sex rfl rfl) (to (sex rfl rfl) (ta (.d (.sl 1 (G.1.map aL))) (ta (.b G.2) (aB (aC (aC (aA (tm (.b G.2) (to (sn rfl) (tm (.b (!G.2)) ?_)))))))))));obtain ⟨c5, K, h⟩ := bns h;refine aW 7 [1, 3, 7, 11, 12, 18] 144 c5 ?_ ?_
              ·refine bch K (fun p K => ?_) (fun p K => ?_)
               ·refine tp p (tp p (tp p (tp p (tp p (tp p (to (spt Z10 p) ?_))))));obtain rfl := sIn K;refine aB (aK rfl ⟨rfl, rfl, rfl, rfl, rfl, rfl, trivial⟩ rfl)
               ·refine tk p (sf rfl hZ) (tk p (sla 0 (aZ f.Tree) rfl rfl iT) (tk p (sm (.d (.sl 1 (G.1.map aL)))) (tk p (sm (.d (Z12 a))) ?_)));obtain ⟨f4, f5, K⟩ := bns K;refine tk p (scr Tryz.call17 (wR _ _ _ f5)) (tk p (sn rfl) (to (spf (.b (!f4)) p) ?_));obtain rfl := sIn K;refine aB (aK rfl ⟨rfl, rfl, rfl, rfl, rfl, rfl, trivial⟩ rfl)
              ·refine tm (.b c5) ?_;obtain ⟨f6, L, h⟩ := bns h;refine aW 8 [1, 3, 7, 11, 12, 18] 153 f6 ?_ ?_
               ·refine bch L (fun k L => ?_) (fun k L => ?_)
                ·refine tp k (tp k (tp k (tp k (tp k (tp k (tp k (to (spt Z10 k) ?_)))))));obtain rfl := sIn L;refine aB (aK rfl ⟨rfl, rfl, rfl, rfl, rfl, rfl, trivial⟩ rfl)
                ·refine tk k (sf rfl hZ) (tk k (sla 0 (aZ f.Tree) rfl rfl iT) (tkl 0 k rfl rfl nF rfl rT (tk k (sm (.d (Z12 a))) ?_)));obtain ⟨f7, f8, L⟩ := bns L;refine tk k (scr Tryz.call18 (yA _ _ _ f8)) (tk k (sn rfl) (to (spf (.b (!f7)) k) ?_));obtain rfl := sIn L;refine aB (aK rfl ⟨rfl, rfl, rfl, rfl, rfl, rfl, trivial⟩ rfl)
               ·refine aB ?_;refine tih h (fun f9 h => ?_) (fun f9 h => ?_)
                ·refine aC (aA ?_);obtain ⟨g0, g1, h⟩ := bns h;refine to (scr Tryz.call12 (jU g1)) (ta (.b g0) (aB ?_));obtain rfl := sIn h;refine bL (bC (bE (l := [6]) ⟨rfl, trivial⟩)) ?_;exact rt
                ·refine aU (aC (aA (tm (.d (.sl 1 (G.1.map aL))) (tm (.d (Z12 a)) (tfl 3 rfl rfl sT rfl aO ?_)))));obtain ⟨M, g2, h⟩ := bns h;refine to (scr Tryz.call19 (zP _ _ _ g2)) (tm (.tup [.i M.1, .b M.2]) (to (sex rfl rfl) (to (sex rfl rfl) (ta (.i M.1) (ta (.b M.2) (aB (aC (aA (ta (.i 0) (aB (aC (aC (aA ?_)))))))))))));refine tm (.b M.2) (aB ?_);refine tih h (fun g3 h => ?_) (fun g3 h => ?_)
                 ·obtain ⟨b2, g4, h⟩ := bns h;refine cN mix 7 [7] [(164, .agg (bK g.1)), (165, .b g.2.1), (170, .i b2)] ?_ ?_
                  ·refine ⟨[(164, 0, .agg (bK g.1)), (165, 1, .b g.2.1), (166, 2, .bp b1 0 3), (167, 3, .d (Z17 f)), (168, 4, .i M.1), (169, 5, .cp [.j b2]), (170, 6, .i b2)], ?_, ?_⟩
                   · exact dk [0, 0, 0, 3, 0, 405, 6] ⟨go (zla 3 (bK g.1) rfl rfl uB),
      go (zm (.b g.2.1)),
      go (zf rfl iO),
      go (zl 0 rfl rfl rfl cD),
      go (zm (.i M.1)),
      go (zix rfl rfl bG.of (aV aL g4)),
      go (zlc rfl aO), trivial⟩
                   · exact cC (aH rfl (aH rfl (aH rfl (aM ⟨rfl, trivial⟩))))
                  ·obtain ⟨a6, g5, h⟩ := bns h;refine to (scr Tryz.call20 (yY _ _ _ g5)) (ta (.i a6) (aB (aC (aA (tfl 1 rfl rfl oL rfl aO (tm (.i a6) (to (scm rfl rfl rfl) (tm (.b (decide (r9.1.Low ≤ a6))) ?_))))))));obtain ⟨c7, a7, h⟩ := bns h;refine aW 5 [] 181 c7 ?_ ?_
                   ·refine bch a7 (fun A a7 => ?_) (fun A a7 => ?_)
                    ·refine tk A (sm (.i a6)) (tkl 1 A rfl rfl rG rfl aO (tk A (scm rfl rfl rfl) (to (spt (.b (decide (a6 ≤ r9.1.High))) A) ?_)));obtain rfl := sIn a7;refine aB (aK rfl trivial rfl)
                    ·refine tp A (tp A (tp A (tp A (to (spf Z3 A) ?_))));obtain rfl := sIn a7;refine aB (aK rfl trivial rfl)
                   ·refine tm (.b c7) ?_;obtain ⟨c8, N, h⟩ := bns h;refine aW 2 [] 184 c8 ?_ ?_
                    ·refine bch N (fun a8 N => ?_) (fun a8 N => ?_)
                     ·obtain ⟨g6, g7, N⟩ := bns N;refine tk a8 (scr Tryz.call12 (jU g7)) (to (spt (.b g6) a8) ?_);obtain rfl := sIn N;refine aB (aK rfl trivial rfl)
                     ·refine tp a8 (to (spf Z3 a8) ?_);obtain rfl := sIn N;refine aB (aK rfl trivial rfl)
                    ·refine ta (.b c8) (aB ?_);obtain rfl := sIn h;refine bL (bC (bE (l := [6]) ⟨rfl, trivial⟩)) ?_;exact rt
                 ·refine aU (aC (aA (tfl 1 rfl rfl oL rfl aO (tm (.i 0) (to (scm rfl rfl rfl) (tm (.b (decide (r9.1.Low ≤ 0))) ?_))))));obtain ⟨c9, a9, h⟩ := bns h;refine aW 5 [] 181 c9 ?_ ?_
                  ·refine bch a9 (fun B a9 => ?_) (fun B a9 => ?_)
                   ·refine tk B (sm (.i 0)) (tkl 1 B rfl rfl rG rfl aO (tk B (scm rfl rfl rfl) (to (spt (.b (decide (0 ≤ r9.1.High))) B) ?_)));obtain rfl := sIn a9;refine aB (aK rfl trivial rfl)
                   ·refine tp B (tp B (tp B (tp B (to (spf Z3 B) ?_))));obtain rfl := sIn a9;refine aB (aK rfl trivial rfl)
                  ·refine tm (.b c9) ?_;obtain ⟨d0, O, h⟩ := bns h;refine aW 2 [] 184 d0 ?_ ?_
                   ·refine bch O (fun b0 O => ?_) (fun b0 O => ?_)
                    ·obtain ⟨g8, g9, O⟩ := bns O;refine tk b0 (scr Tryz.call12 (jU g9)) (to (spt (.b g8) b0) ?_);obtain rfl := sIn O;refine aB (aK rfl trivial rfl)
                    ·refine tp b0 (to (spf Z3 b0) ?_);obtain rfl := sIn O;refine aB (aK rfl trivial rfl)
                   ·refine ta (.b d0) (aB ?_);obtain rfl := sIn h;refine bL (bC (bE (l := [6]) ⟨rfl, trivial⟩)) ?_;exact rt
       ·refine aU (aC (aA (to (sf rfl hZ) (to (sla 0 (aZ f.Tree) rfl rfl iT) (tfl 0 rfl rfl nF rfl rT ?_)))));obtain ⟨H, h0, h⟩ := bns h;refine to (eY (aF rfl) (.func _ _ Tryz.call16) rfl rfl (sR _ _ h0)) ?_;refine tm (.tup [.d (.sl 1 (H.1.map aL)), .b H.2]) (to (sex rfl rfl) (to (sex rfl rfl) (ta (.d (.sl 1 (H.1.map aL))) (ta (.b H.2) (aB (aC (aC (aA (tm (.b H.2) (to (sn rfl) (tm (.b (!H.2)) ?_)))))))))));obtain ⟨d1, P, h⟩ := bns h;refine aW 7 [1, 3, 7, 11, 12, 18] 144 d1 ?_ ?_
        ·refine bch P (fun e P => ?_) (fun e P => ?_)
         ·refine tp e (tp e (tp e (tp e (tp e (tp e (to (spt Z10 e) ?_))))));obtain rfl := sIn P;refine aB (aK rfl ⟨rfl, rfl, rfl, rfl, rfl, rfl, trivial⟩ rfl)
         ·refine tk e (sf rfl hZ) (tk e (sla 0 (aZ f.Tree) rfl rfl iT) (tk e (sm (.d (.sl 1 (H.1.map aL)))) (tk e (sm (.d (Z12 a))) ?_)));obtain ⟨d4, d5, P⟩ := bns P;refine tk e (scr Tryz.call17 (wR _ _ _ d5)) (tk e (sn rfl) (to (spf (.b (!d4)) e) ?_));obtain rfl := sIn P;refine aB (aK rfl ⟨rfl, rfl, rfl, rfl, rfl, rfl, trivial⟩ rfl)
        ·refine tm (.b d1) ?_;obtain ⟨h1, Q, h⟩ := bns h;refine aW 8 [1, 3, 7, 11, 12, 18] 153 h1 ?_ ?_
         ·refine bch Q (fun c Q => ?_) (fun c Q => ?_)
          ·refine tp c (tp c (tp c (tp c (tp c (tp c (tp c (to (spt Z10 c) ?_)))))));obtain rfl := sIn Q;refine aB (aK rfl ⟨rfl, rfl, rfl, rfl, rfl, rfl, trivial⟩ rfl)
          ·refine tk c (sf rfl hZ) (tk c (sla 0 (aZ f.Tree) rfl rfl iT) (tkl 0 c rfl rfl nF rfl rT (tk c (sm (.d (Z12 a))) ?_)));obtain ⟨d6, d7, Q⟩ := bns Q;refine tk c (scr Tryz.call18 (yA _ _ _ d7)) (tk c (sn rfl) (to (spf (.b (!d6)) c) ?_));obtain rfl := sIn Q;refine aB (aK rfl ⟨rfl, rfl, rfl, rfl, rfl, rfl, trivial⟩ rfl)
         ·refine aB ?_;refine tih h (fun h2 h => ?_) (fun h2 h => ?_)
          ·refine aC (aA ?_);obtain ⟨h4, h6, h⟩ := bns h;refine to (scr Tryz.call12 (jU h6)) (ta (.b h4) (aB ?_));obtain rfl := sIn h;refine bL (bC (bE (l := [6]) ⟨rfl, trivial⟩)) ?_;exact rt
          ·refine aU (aC (aA (tm (.d (.sl 1 (H.1.map aL))) (tm (.d (Z12 a)) (tfl 3 rfl rfl sT rfl aO ?_)))));obtain ⟨S, h7, h⟩ := bns h;refine to (scr Tryz.call19 (zP _ _ _ h7)) (tm (.tup [.i S.1, .b S.2]) (to (sex rfl rfl) (to (sex rfl rfl) (ta (.i S.1) (ta (.b S.2) (aB (aC (aA (ta (.i 0) (aB (aC (aC (aA ?_)))))))))))));refine tm (.b S.2) (aB ?_);refine tih h (fun h9 h => ?_) (fun h9 h => ?_)
           ·obtain ⟨b3, i0, h⟩ := bns h;refine cN mix 7 [7] [(164, .agg (bK g.1)), (165, .b g.2.1), (170, .i b3)] ?_ ?_
            ·refine ⟨[(164, 0, .agg (bK g.1)), (165, 1, .b g.2.1), (166, 2, .bp b1 0 3), (167, 3, .d (Z17 f)), (168, 4, .i S.1), (169, 5, .cp [.j b3]), (170, 6, .i b3)], ?_, ?_⟩
             · exact dk [0, 0, 0, 3, 0, 405, 6] ⟨go (zla 3 (bK g.1) rfl rfl uB),
      go (zm (.b g.2.1)),
      go (zf rfl iO),
      go (zl 0 rfl rfl rfl cD),
      go (zm (.i S.1)),
      go (zix rfl rfl bG.of (aV aL i0)),
      go (zlc rfl aO), trivial⟩
             · exact cC (aH rfl (aH rfl (aH rfl (aM ⟨rfl, trivial⟩))))
            ·obtain ⟨T, d8, h⟩ := bns h;refine to (scr Tryz.call20 (yY _ _ _ d8)) (ta (.i T) (aB (aC (aA (tfl 1 rfl rfl oL rfl aO (tm (.i T) (to (scm rfl rfl rfl) (tm (.b (decide (r9.1.Low ≤ T))) ?_))))))));obtain ⟨b5, U, h⟩ := bns h;refine aW 5 [] 181 b5 ?_ ?_
             ·refine bch U (fun q U => ?_) (fun q U => ?_)
              ·refine tk q (sm (.i T)) (tkl 1 q rfl rfl rG rfl aO (tk q (scm rfl rfl rfl) (to (spt (.b (decide (T ≤ r9.1.High))) q) ?_)));obtain rfl := sIn U;refine aB (aK rfl trivial rfl)
              ·refine tp q (tp q (tp q (tp q (to (spf Z3 q) ?_))));obtain rfl := sIn U;refine aB (aK rfl trivial rfl)
             ·refine tm (.b b5) ?_;obtain ⟨b6, E, h⟩ := bns h;refine aW 2 [] 184 b6 ?_ ?_
              ·refine bch E (fun V E => ?_) (fun V E => ?_)
               ·obtain ⟨d9, e0, E⟩ := bns E;refine tk V (scr Tryz.call12 (jU e0)) (to (spt (.b d9) V) ?_);obtain rfl := sIn E;refine aB (aK rfl trivial rfl)
               ·refine tp V (to (spf Z3 V) ?_);obtain rfl := sIn E;refine aB (aK rfl trivial rfl)
              ·refine ta (.b b6) (aB ?_);obtain rfl := sIn h;refine bL (bC (bE (l := [6]) ⟨rfl, trivial⟩)) ?_;exact rt
           ·refine aU (aC (aA (tfl 1 rfl rfl oL rfl aO (tm (.i 0) (to (scm rfl rfl rfl) (tm (.b (decide (r9.1.Low ≤ 0))) ?_))))));obtain ⟨b7, W, h⟩ := bns h;refine aW 5 [] 181 b7 ?_ ?_
            ·refine bch W (fun s W => ?_) (fun s W => ?_)
             ·refine tk s (sm (.i 0)) (tkl 1 s rfl rfl rG rfl aO (tk s (scm rfl rfl rfl) (to (spt (.b (decide (0 ≤ r9.1.High))) s) ?_)));obtain rfl := sIn W;refine aB (aK rfl trivial rfl)
             ·refine tp s (tp s (tp s (tp s (to (spf Z3 s) ?_))));obtain rfl := sIn W;refine aB (aK rfl trivial rfl)
            ·refine tm (.b b7) ?_;obtain ⟨b8, F, h⟩ := bns h;refine aW 2 [] 184 b8 ?_ ?_
             ·refine bch F (fun X F => ?_) (fun X F => ?_)
              ·obtain ⟨e1, e2, F⟩ := bns F;refine tk X (scr Tryz.call12 (jU e2)) (to (spt (.b e1) X) ?_);obtain rfl := sIn F;refine aB (aK rfl trivial rfl)
              ·refine tp X (to (spf Z3 X) ?_);obtain rfl := sIn F;refine aB (aK rfl trivial rfl)
             ·refine ta (.b b8) (aB ?_);obtain rfl := sIn h;refine bL (bC (bE (l := [6]) ⟨rfl, trivial⟩)) ?_;exact rt

end Go.Am
