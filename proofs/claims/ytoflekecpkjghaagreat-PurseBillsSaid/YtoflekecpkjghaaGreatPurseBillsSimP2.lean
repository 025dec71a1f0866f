/- The functions compute what the shallow ones say: printed by program. -/
import Derived.Test.YtoflekecpkjghaaGreatPurseBillsSimP1
namespace Go.Am
open Go.Proofs
set_option maxRecDepth 100000
set_option maxHeartbeats 40000000

theorem aGm (o : List Int) {r : (List Int)} {e : Value} (h : slices_Compact_int o = some r) : fY Tryz.prog 108 [.d (.lit e)] [.arr e 3 1 (o.map aM)] (fun r' o' => ∃ w0 : Value, r' = .d (.lit w0) ∧ o' = [.arr w0 3 1 (r.map aM)]) := by
 unfold slices_Compact_int at h;refine kQ Tryz.func108 rfl (rs := [.tmp 2]) Tryz.results108 Tryz.ntmps108 (Nat.le_of_ble_eq_true rfl) ?_;refine aC (aA (to (gU 3 1 (.inl rfl) (aD rfl)) ?_));refine aB (aC (aC (aA (tm (.d (.lit e)) (to (kR (m := 0) (aD rfl) rfl rfl bI.of) ?_)))));refine to (scm rfl rfl rfl) (aB ?_);refine tih h (fun c2 h => ?_) (fun c2 h => ?_)
 ·refine aC (aA (tm (.d (.lit e)) (ta (.d (.lit e)) (aB ?_))));obtain rfl := sIn h;exact aZ ⟨rfl, _, [.arr e 3 1 (o.map aM)], [.arr (.slice none 0 0) 3 1 (([] : List Int).map aM)], _, .one (.tmp 2 (v := .d (.lit e)) rfl), .refl _, .same _, e, rfl, rfl⟩
 ·refine aX (aC (aC (aA (ta (.i 1) (aB (bA ?_))))));refine bO (S := Int × (List Int) × Value) [] (fun s3 => [(0, .d (.lit s3.2.2)), (3, .i s3.1)]) (fun s3 => [.arr s3.2.2 3 1 (s3.2.1.map aM)]) (fun k s3 => fA k s3.1 s3.2.1) (fun _ => rfl) (1, o, e) h (aP [0] rfl rfl (aG rfl (aG rfl (aL trivial)))) ?_;rintro k5 ⟨a, n, w4⟩ h;simp only [fA] at h;refine aC (aC (aA (tm (.i a) (tm (.d (.lit w4)) (to (kR (m := 0) (aD rfl) rfl rfl bI.of) ?_)))));refine to (scm rfl rfl rfl) (aB ?_);refine tih h (fun c6 h => ?_) (fun c6 h => ?_)
  ·refine aX (aC (bA (aC ?_)));obtain ⟨x7, h8, h⟩ := bns h;obtain ⟨x9, p, h⟩ := bns h;refine cL mix 9 [0, 3] [(19, .i x7), (24, .i x9)] ?_ ?_
   ·refine ⟨[(16, 0, .d (.lit w4)), (17, 1, .i a), (18, 2, .ep w4 1 a.toNat 0), (19, 3, .i x7), (20, 4, .d (.lit w4)), (21, 5, .i a), (22, 6, .i (w64 (a - 1))), (23, 7, .ep w4 1 (w64 (a - 1)).toNat 0), (24, 8, .i x9)], ?_, ?_⟩
    · exact dok [([], []), ([], []), ([0, 1], []), ([2], []), ([], []), ([], []), ([5], []), ([4, 6], []), ([7], [])] ⟨go (zm (.d (.lit w4))),
      go (zm (.i a)),
      go (zia 0 rfl rfl rfl bI.of (aY aM h8)),
      go fun S hS => iZ (aD rfl) (aW hS rfl) (m := 0) rfl (dW aM h8) rfl aR,
      go (zm (.d (.lit w4))),
      go (zm (.i a)),
      go (zar rfl rfl rfl),
      go (zia 0 rfl rfl rfl bI.of (aY aM p)),
      go fun S hS => iZ (aD rfl) (aW hS rfl) (m := 0) rfl (dW aM p) rfl aR, trivial⟩
    · exact cF (aG rfl (aG rfl (aL ⟨rfl, rfl, trivial⟩)))
   ·refine to (scm rfl rfl rfl) (aB ?_);refine tih h (fun A h => ?_) (fun A h => ?_)
    ·refine aC (aA (tm (.d (.lit w4)) (tm (.i a) ?_)));obtain ⟨I, B, h⟩ := bns h;refine to (zA (m := 0) (aD rfl) rfl rfl rfl bI.of B) ?_;refine ta (.d (.lit (kT w4 a.toNat 1))) (aB (aC (aC (aA (ta (.i 1) (aB (bA ?_)))))));refine bO (S := Int × Int × (List Int)) [] (fun j => [(0, .d (.lit w4)), (3, .i j.1), (4, .d (.lit (kT w4 a.toNat 1))), (5, .i j.2.1)]) (fun j => [.arr w4 3 1 (j.2.2.map aM)]) (fun k j => gV (fA k5) a k j.1 j.2.1 j.2.2) (fun _ => rfl) (a, 1, n) h (aP [0] rfl rfl (aG rfl (aG rfl (aG rfl (aG rfl (aL trivial)))))) ?_;rintro J ⟨c, b, g⟩ h;simp only [gV] at h;refine aC (aC (aA (tm (.i b) (tm (.d (.lit (kT w4 a.toNat 1))) (to (aNg (m := 0) (aD rfl) rfl rfl bI.of) ?_)))));refine to (scm rfl rfl rfl) (aB ?_);refine tih h (fun C h => ?_) (fun C h => ?_)
     ·refine aX (aC (bA (aC ?_)));obtain ⟨s, t, h⟩ := bns h;obtain ⟨u, w, h⟩ := bns h;refine cL mix 9 [0, 3, 4, 5] [(38, .i s), (43, .i u)] ?_ ?_
      ·refine ⟨[(35, 0, .d (.lit (kT w4 a.toNat 1))), (36, 1, .i b), (37, 2, .ep w4 1 (a.toNat + b.toNat) 0), (38, 3, .i s), (39, 4, .d (.lit (kT w4 a.toNat 1))), (40, 5, .i b), (41, 6, .i (w64 (b - 1))), (42, 7, .ep w4 1 (a.toNat + (w64 (b - 1)).toNat) 0), (43, 8, .i u)], ?_, ?_⟩
       · exact dok [([], []), ([], []), ([0, 1], []), ([2], []), ([], []), ([], []), ([5], []), ([4, 6], []), ([7], [])] ⟨go (zm (.d (.lit (kT w4 a.toNat 1)))),
      go (zm (.i b)),
      go fun S hS => uW (m := 0) (aD rfl) (aW hS rfl) rfl (aW hS rfl) bI.of (tQ (f := aM) t),
      go fun S hS => iZ (aD rfl) (aW hS rfl) (m := 0) rfl (aCi aM t) rfl aR,
      go (zm (.d (.lit (kT w4 a.toNat 1)))),
      go (zm (.i b)),
      go (zar rfl rfl rfl),
      go fun S hS => uW (m := 0) (aD rfl) (aW hS rfl) rfl (aW hS rfl) bI.of (tQ (f := aM) w),
      go fun S hS => iZ (aD rfl) (aW hS rfl) (m := 0) rfl (aCi aM w) rfl aR, trivial⟩
       · exact cF (aG rfl (aG rfl (aL ⟨rfl, rfl, rfl, rfl, trivial⟩)))
      ·refine to (scm rfl rfl rfl) (aB ?_);refine tih h (fun E h => ?_) (fun E h => ?_)
       ·refine aC (aA (tm (.d (.lit w4)) (tm (.i c) (tm (.d (.lit (kT w4 a.toNat 1))) (tm (.i b) ?_)))));obtain ⟨x, y, h⟩ := bns h;refine to (uW (m := 0) (aD rfl) rfl rfl rfl bI.of (tQ (f := aM) y)) ?_;refine to (iZ (aD rfl) rfl (m := 0) rfl (aCi aM y) rfl aR) ?_;obtain ⟨K, z, h⟩ := bns h;refine to (dM (m := 0) (aD rfl) rfl rfl rfl bI.of (aY aM z)) ?_;refine to (lU (l := 0) rfl rfl (dW aM z) rfl rfl rfl Tryz.sizeOf3 rfl (aD rfl) (Nat.le_of_ble_eq_true rfl) (rows' := ((g.set c.toNat x)).map aM) (tL _ _ _ _ rfl)) ?_;refine aB (aA (tm (.i c) (to (sar rfl rfl rfl) (ta (.i (w64 (c + 1))) ?_))));refine cQ ?_;refine aA (tm (.i b) (to (sar rfl rfl rfl) (ta (.i (w64 (b + 1))) (aB ?_))));exact ⟨(w64 (c + 1), w64 (b + 1), (g.set c.toNat x)), h, aP [0] rfl rfl (aG rfl (aG rfl (aG rfl (aG rfl (aL trivial)))))⟩
       ·refine cK ?_;refine aA (tm (.i b) (to (sar rfl rfl rfl) (ta (.i (w64 (b + 1))) (aB ?_))));exact ⟨(c, w64 (b + 1), g), h, aP [0] rfl rfl (aG rfl (aG rfl (aG rfl (aG rfl (aL trivial)))))⟩
     ·refine bP ?_;refine .inl ⟨rfl, ?_⟩;simp only [tO] at h;refine aC (aA (tm (.d (.lit w4)) (tm (.i c) ?_)));obtain ⟨L, F, h⟩ := bns h;refine to (zA (m := 0) (aD rfl) rfl rfl rfl bI.of F) ?_;obtain ⟨M, G, h⟩ := bns h;refine to (aRg (f := aM) (m := 0) bI rfl rfl G (by decide)) ?_;refine aB (aC (aA (tm (.d (.lit w4)) (tm (.i c) ?_))));obtain ⟨N, H, h⟩ := bns h;refine to (aJd (m := 0) (q := c.toNat) (v := w4) (aD rfl) rfl rfl rfl rfl (aVh H) bI.of) ?_;refine ta (.d (.lit (mP w4 c.toNat))) (aB ?_);obtain rfl := sIn h;exact aZ ⟨rfl, _, [.arr (mP w4 c.toNat) 3 1 ((g.take c.toNat).map aM)], [], _, .one (.tmp 2 (v := .d (.lit (mP w4 c.toNat))) rfl), .refl _, .same _, (mP w4 c.toNat), rfl, rfl⟩
    ·refine cK ?_;simp only [tN] at h;refine aA (tm (.i a) (to (sar rfl rfl rfl) (ta (.i (w64 (a + 1))) (aB ?_))));exact ⟨(w64 (a + 1), n, w4), h, aP [0] rfl rfl (aG rfl (aG rfl (aL trivial)))⟩
  ·refine bP ?_;refine .inl ⟨rfl, ?_⟩;simp only [tM] at h;refine aC (aA (tm (.d (.lit w4)) (ta (.d (.lit w4)) (aB ?_))));obtain rfl := sIn h;exact aZ ⟨rfl, _, [.arr w4 3 1 (n.map aM)], [], _, .one (.tmp 2 (v := .d (.lit w4)) rfl), .refl _, .same _, w4, rfl, rfl⟩

theorem aBo (a : List Int) {r : Bool} (h : pA a = some r) : Fn Tryz.prog 78 [.d (.sl 1 (a.map aM))] (.b r) := by
 unfold pA at h;refine Fn.of_tr Tryz.func78 rfl (rs := [.tmp 2]) Tryz.results78 Tryz.ntmps78 (Nat.le_of_ble_eq_true rfl) ?_;refine aC (aA (ta (.b false) (aB (aC (aA (tm (.d (.sl 1 (a.map aM))) ?_))))));obtain ⟨r1, h2, h⟩ := bns h;refine bB rfl (aBx (aD rfl) (.func _ _ Tryz.call63) rfl rfl (vD _ h2)) ?_;rintro _ ⟨v3, rfl⟩;obtain ⟨r4, h5, h⟩ := bns h;refine bB rfl (eZ (passed := [.arr v3 3 1 (r1.map aM)]) (aD rfl) rfl (.func _ _ Tryz.call108) rfl rfl (aGm r1 h5)) ?_;rintro _ ⟨_, _, ⟨v6, rfl, rfl⟩, rfl⟩;refine to (kR (m := 0) (aD rfl) rfl rfl bI.of) ?_;refine tm (.d (.sl 1 (a.map aM))) (to (sle rfl bI.of) (to (scm rfl rfl rfl) (ta (.b (decide ((r4.length : Int) = (a.length : Int)))) (aB ?_))));obtain rfl := sIn h;refine bL (bG (bH (l := [2]) ⟨rfl, trivial⟩)) ?_;exact aZ ⟨rfl, _, .one _, rfl, rfl⟩

theorem aDj (a : List Int) (p : List eR) (q : eR → Option (Int × Bool)) {r : Bool} (c : Nat) (j : List AV) (s : ∀ args w, (callFunc c args).run Tryz.prog w = .ok (.enter c args) w) (t : ∀ (x0 : eR) r, q x0 = some r → Fn Tryz.prog c ([.agg (cB x0)] ++ j) (.tup [.i r.1, .b r.2])) (h : mM a p q = some r) : Fn Tryz.prog 81 [.d (.sl 1 (a.map aM)), .d (.sl 2 (p.map cB)), .fn c j] (.b r) := by
 unfold mM at h;refine Fn.of_tr Tryz.func81 rfl (rs := [.tmp 6]) Tryz.results81 Tryz.ntmps81 (Nat.le_of_ble_eq_true rfl) ?_;refine aC (aA (ta (.b false) (aB (aC (aA (to (gU 3 1 (.inl rfl) (aD rfl)) ?_))))));refine aB (aC (aC (aA (tm (.d (.sl 2 (p.map cB))) (to (sle rfl nJ.of) (tm (.i 0) (aB (bA ?_))))))));refine bO (S := Int × (List Int) × Value) [0, 2, 12, 13] (fun s2 => [(7, .d (.lit s2.2.2)), (14, .i s2.1)]) (fun s2 => [.arr s2.2.2 3 1 (s2.2.1.map aM)]) (fun k s2 => gM a q p (p.length : Int) k s2.1 s2.2.1) (fun _ => rfl) (0, ([] : List Int), (.slice none 0 0)) h (aP [0] rfl rfl (aG rfl (aG rfl (aL ⟨rfl, rfl, rfl, rfl, trivial⟩)))) ?_;rintro k4 ⟨o, x, w3⟩ h;simp only [gM] at h;refine aC (aA (to (scm rfl rfl rfl) (aB (aC ?_))));refine tih h (fun c5 h => ?_) (fun c5 h => ?_)
 ·refine aX (aC (bA (aC (aA ?_))));obtain ⟨x6, h7, h⟩ := bns h;refine to (six rfl rfl nJ.of (aY cB h7)) (to (pJ (cB x6) rfl aHh) ?_);refine bB rfl (cH (zs := [.lit (.int .i64 0), .lit (.int .i64 0)]) (aD rfl) Tryz.zeroValue78 rfl rfl) ?_;rintro _ ⟨b8, rfl⟩;refine to (sst 1 rfl rfl Tryz.sizeOf78 (cB x6)) (aB (aC (aA (tm (.fn c j) (to (sla 1 (cB x6) rfl rfl aHh) ?_)))));obtain ⟨r9, y, h⟩ := bns h;refine to (fP (aD rfl) (.clo _ _ _ _ s rfl) (aCo rfl) rfl (BVs.refl _ _) (t _ _  y) rfl) ?_;refine tm (.tup [.i r9.1, .b r9.2]) (to (sex rfl rfl) (to (sex rfl rfl) (ta (.i r9.1) (ta (.b r9.2) (aB (aC (aC (aA (tm (.b r9.2) (to (sn rfl) (tm (.b (!r9.2)) ?_)))))))))));obtain ⟨u, m, h⟩ := bns h;refine bD 5 [0, 2, 7, 10, 12, 13, 14] 31 u ?_ ?_
  ·refine bch m (fun e m => ?_) (fun e m => ?_)
   ·refine tp e (tp e (tp e (tp e (to (spt (.b true) e) ?_))));obtain rfl := sIn m;refine aB (aO rfl ⟨rfl, rfl, rfl, rfl, rfl, rfl, rfl, trivial⟩ rfl)
   ·refine tk e (sm (.d (.sl 1 (a.map aM)))) (tk e (sm (.i r9.1)) ?_);obtain ⟨z, A, m⟩ := bns m;refine tk e (scr Tryz.call60 (fB _ _ A)) (tk e (sn rfl) (to (spf (.b (!z)) e) ?_));obtain rfl := sIn m;refine aB (aO rfl ⟨rfl, rfl, rfl, rfl, rfl, rfl, rfl, trivial⟩ rfl)
  ·refine tm (.b u) ?_;obtain ⟨B, n, h⟩ := bns h;refine bD 4 [0, 2, 7, 10, 12, 13, 14] 36 B ?_ ?_
   ·refine bch n (fun g n => ?_) (fun g n => ?_)
    ·refine tp g (tp g (tp g (to (spt (.b true) g) ?_)));obtain rfl := sIn n;refine aB (aO rfl ⟨rfl, rfl, rfl, rfl, rfl, rfl, rfl, trivial⟩ rfl)
    ·refine tk g (sm (.d (.lit w3))) (tk g (sm (.i r9.1)) ?_);obtain ⟨C, E, n⟩ := bns n;refine tk g (sc Tryz.call60 (fB _ _ E) (.cons (.d (mT 0 rfl (cP (f := aM) fun _ => rfl))) (.cons (.same _) .nil))) (to (spf (.b C) g) ?_);obtain rfl := sIn n;refine aB (aO rfl ⟨rfl, rfl, rfl, rfl, rfl, rfl, rfl, trivial⟩ rfl)
   ·refine aB ?_;refine tih h (fun F h => ?_) (fun F h => ?_)
    ·refine aC (aA (ta (.b false) (aB ?_)));obtain rfl := sIn h;refine bL (bG (bH (l := [6]) ⟨rfl, trivial⟩)) ?_;exact aZ ⟨rfl, _, .one _, rfl, rfl⟩
    ·refine aX (aA (tm (.d (.lit w3)) (tm (.i r9.1) (to (fE (aD rfl) bI rfl rfl (rows := ([r9.1]).map aM) rfl (cP (f := aM) fun _ => rfl) rfl (by decide)) ?_))));obtain ⟨G, H, h⟩ := bns h;refine bB rfl (fT (i := 0) (aD rfl) bI rfl rfl rfl (fun _ => rfl) H rfl) ?_;rintro _ ⟨v, rfl⟩;refine ta (.d (.lit v)) ?_;refine cQ ?_;refine aA (to (sar rfl rfl rfl) (tm (.i (w64 (o + 1))) (aB ?_)));exact ⟨(w64 (o + 1), G, v), h, aP [0] rfl rfl (aG rfl (aG rfl (aL ⟨rfl, rfl, rfl, rfl, trivial⟩)))⟩
 ·refine bP ?_;refine .inl ⟨rfl, ?_⟩;simp only [vZ] at h;refine aC (aA (ta (.b true) (aB ?_)));obtain rfl := sIn h;refine bL (bG (bH (l := [6]) ⟨rfl, trivial⟩)) ?_;exact aZ ⟨rfl, _, .one _, rfl, rfl⟩

theorem aIw (a : eR) {r : Int × Bool} (h : lZ a = some r) : Fn Tryz.prog 79 [.agg (cB a)] (.tup [.i r.1, .b r.2]) := by
 unfold lZ at h;refine Fn.of_tr Tryz.func79 rfl (rs := [.tmp 2, .tmp 3]) Tryz.results79 Tryz.ntmps79 (Nat.le_of_ble_eq_true rfl) ?_;refine aC (aA ?_);refine bB rfl (dC (v := .agg (cB a)) (aD rfl) rfl rfl rfl) ?_;rintro _ ⟨b1, rfl⟩;refine ta (.i 0) (ta (.b false) (aB (aC ?_)));obtain ⟨r2, h3, h⟩ := bns h;refine cL mix 5 [] [(5, .i a.Person), (8, .b r2)] ?_ ?_
 ·refine ⟨[(4, 0, .bp b1 0 0), (5, 1, .i a.Person), (6, 2, .bp b1 0 1), (7, 3, .i a.Mille), (8, 4, .b r2)], ?_, ?_⟩
  · exact dok [([], []), ([0], []), ([], []), ([2], []), ([3], [])] ⟨go (zf rfl xP),
      go (zl 0 rfl rfl rfl aR),
      go (zf rfl aFp),
      go (zl 0 rfl rfl rfl aR),
      go fun S hS => fP (aD rfl) (.func _ _ Tryz.call61) (ev2 (aW hS rfl) (ev2 rfl (ev2 rfl evn))) rfl (BVs.refl _ _) (hC _ _ _ h3) rfl, trivial⟩
  · exact cF (aG rfl (aG rfl (aL trivial)))
 ·refine ta (.i a.Person) (ta (.b r2) (aB ?_));obtain rfl := sIn h;refine bL (bG (bH (l := [2, 3]) ⟨rfl, rfl, trivial⟩)) ?_;exact aZ ⟨rfl, _, .two _ _, rfl, rfl⟩

theorem aDk (a : List Int) (p : List cS) (q : cS → Option (Int × Bool)) {r : Bool} (c : Nat) (j : List AV) (s : ∀ args w, (callFunc c args).run Tryz.prog w = .ok (.enter c args) w) (t : ∀ (x0 : cS) r, q x0 = some r → Fn Tryz.prog c ([.agg (bX x0)] ++ j) (.tup [.i r.1, .b r.2])) (h : mN a p q = some r) : Fn Tryz.prog 82 [.d (.sl 1 (a.map aM)), .d (.sl 3 (p.map bX)), .fn c j] (.b r) := by
 unfold mN at h;refine Fn.of_tr Tryz.func82 rfl (rs := [.tmp 6]) Tryz.results82 Tryz.ntmps82 (Nat.le_of_ble_eq_true rfl) ?_;refine aC (aA (ta (.b false) (aB (aC (aA (to (gU 3 1 (.inl rfl) (aD rfl)) ?_))))));refine aB (aC (aC (aA (tm (.d (.sl 3 (p.map bX))) (to (sle rfl qF.of) (tm (.i 0) (aB (bA ?_))))))));refine bO (S := Int × (List Int) × Value) [0, 2, 12, 13] (fun s2 => [(7, .d (.lit s2.2.2)), (14, .i s2.1)]) (fun s2 => [.arr s2.2.2 3 1 (s2.2.1.map aM)]) (fun k s2 => gN a q p (p.length : Int) k s2.1 s2.2.1) (fun _ => rfl) (0, ([] : List Int), (.slice none 0 0)) h (aP [0] rfl rfl (aG rfl (aG rfl (aL ⟨rfl, rfl, rfl, rfl, trivial⟩)))) ?_;rintro k4 ⟨o, x, w3⟩ h;simp only [gN] at h;refine aC (aA (to (scm rfl rfl rfl) (aB (aC ?_))));refine tih h (fun c5 h => ?_) (fun c5 h => ?_)
 ·refine aX (aC (bA (aC (aA ?_))));obtain ⟨x6, h7, h⟩ := bns h;refine to (six rfl rfl qF.of (aY bX h7)) (to (pJ (bX x6) rfl yK) ?_);refine bB rfl (cH (zs := [.lit (.int .i64 0), .lit (.int .i64 0), .lit (.int .i64 0)]) (aD rfl) Tryz.zeroValue80 rfl rfl) ?_;rintro _ ⟨b8, rfl⟩;refine to (sst 1 rfl rfl Tryz.sizeOf80 (bX x6)) (aB (aC (aA (tm (.fn c j) (to (sla 1 (bX x6) rfl rfl yK) ?_)))));obtain ⟨r9, y, h⟩ := bns h;refine to (fP (aD rfl) (.clo _ _ _ _ s rfl) (aCo rfl) rfl (BVs.refl _ _) (t _ _  y) rfl) ?_;refine tm (.tup [.i r9.1, .b r9.2]) (to (sex rfl rfl) (to (sex rfl rfl) (ta (.i r9.1) (ta (.b r9.2) (aB (aC (aC (aA (tm (.b r9.2) (to (sn rfl) (tm (.b (!r9.2)) ?_)))))))))));obtain ⟨u, m, h⟩ := bns h;refine bD 5 [0, 2, 7, 10, 12, 13, 14] 31 u ?_ ?_
  ·refine bch m (fun e m => ?_) (fun e m => ?_)
   ·refine tp e (tp e (tp e (tp e (to (spt (.b true) e) ?_))));obtain rfl := sIn m;refine aB (aO rfl ⟨rfl, rfl, rfl, rfl, rfl, rfl, rfl, trivial⟩ rfl)
   ·refine tk e (sm (.d (.sl 1 (a.map aM)))) (tk e (sm (.i r9.1)) ?_);obtain ⟨z, A, m⟩ := bns m;refine tk e (scr Tryz.call60 (fB _ _ A)) (tk e (sn rfl) (to (spf (.b (!z)) e) ?_));obtain rfl := sIn m;refine aB (aO rfl ⟨rfl, rfl, rfl, rfl, rfl, rfl, rfl, trivial⟩ rfl)
  ·refine tm (.b u) ?_;obtain ⟨B, n, h⟩ := bns h;refine bD 4 [0, 2, 7, 10, 12, 13, 14] 36 B ?_ ?_
   ·refine bch n (fun g n => ?_) (fun g n => ?_)
    ·refine tp g (tp g (tp g (to (spt (.b true) g) ?_)));obtain rfl := sIn n;refine aB (aO rfl ⟨rfl, rfl, rfl, rfl, rfl, rfl, rfl, trivial⟩ rfl)
    ·refine tk g (sm (.d (.lit w3))) (tk g (sm (.i r9.1)) ?_);obtain ⟨C, E, n⟩ := bns n;refine tk g (sc Tryz.call60 (fB _ _ E) (.cons (.d (mT 0 rfl (cP (f := aM) fun _ => rfl))) (.cons (.same _) .nil))) (to (spf (.b C) g) ?_);obtain rfl := sIn n;refine aB (aO rfl ⟨rfl, rfl, rfl, rfl, rfl, rfl, rfl, trivial⟩ rfl)
   ·refine aB ?_;refine tih h (fun F h => ?_) (fun F h => ?_)
    ·refine aC (aA (ta (.b false) (aB ?_)));obtain rfl := sIn h;refine bL (bG (bH (l := [6]) ⟨rfl, trivial⟩)) ?_;exact aZ ⟨rfl, _, .one _, rfl, rfl⟩
    ·refine aX (aA (tm (.d (.lit w3)) (tm (.i r9.1) (to (fE (aD rfl) bI rfl rfl (rows := ([r9.1]).map aM) rfl (cP (f := aM) fun _ => rfl) rfl (by decide)) ?_))));obtain ⟨G, H, h⟩ := bns h;refine bB rfl (fT (i := 0) (aD rfl) bI rfl rfl rfl (fun _ => rfl) H rfl) ?_;rintro _ ⟨v, rfl⟩;refine ta (.d (.lit v)) ?_;refine cQ ?_;refine aA (to (sar rfl rfl rfl) (tm (.i (w64 (o + 1))) (aB ?_)));exact ⟨(w64 (o + 1), G, v), h, aP [0] rfl rfl (aG rfl (aG rfl (aL ⟨rfl, rfl, rfl, rfl, trivial⟩)))⟩
 ·refine bP ?_;refine .inl ⟨rfl, ?_⟩;simp only [wA] at h;refine aC (aA (ta (.b true) (aB ?_)));obtain rfl := sIn h;refine bL (bG (bH (l := [6]) ⟨rfl, trivial⟩)) ?_;exact aZ ⟨rfl, _, .one _, rfl, rfl⟩

theorem aIx (a : cS) {r : Int × Bool} (h : mA a = some r) : Fn Tryz.prog 80 [.agg (bX a)] (.tup [.i r.1, .b r.2]) := by
 unfold mA at h;refine Fn.of_tr Tryz.func80 rfl (rs := [.tmp 2, .tmp 3]) Tryz.results80 Tryz.ntmps80 (Nat.le_of_ble_eq_true rfl) ?_;refine aC (aA ?_);refine bB rfl (dC (v := .agg (bX a)) (aD rfl) rfl rfl rfl) ?_;rintro _ ⟨b1, rfl⟩;refine ta (.i 0) (ta (.b false) (aB (aC ?_)));obtain ⟨r2, h3, h⟩ := bns h;obtain ⟨b4, h5, h⟩ := bns h;refine cL mix 11 [] [(2, .i a.Person), (13, .b b4)] ?_ ?_
 ·refine bch h5 (fun c6 h5 => ?_) (fun c6 h5 => ?_)
  ·obtain ⟨r7, h8, h5⟩ := bns h5;obtain rfl := sIn h5;refine ⟨[(4, 0, .bp b1 0 0), (5, 1, .i a.Person), (6, 2, .bp b1 0 1), (7, 3, .i a.Num), (8, 4, .b r2), (9, 5, .b r2), (10, 6, .bp b1 0 2), (11, 7, .i a.Den), (12, 8, .b r7), (13, 9, .b r7), (2, 10, .i a.Person)], ?_, ?_⟩
   · exact dok [([], []), ([0], []), ([], []), ([2], []), ([3], []), ([4], []), ([5], []), ([5, 6], []), ([5, 7], []), ([5, 8], []), ([1], [])] ⟨go (zf rfl xQ),
      go (zl 0 rfl rfl rfl aR),
      go (zf rfl xR),
      go (zl 0 rfl rfl rfl aR),
      go fun S hS => fP (aD rfl) (.func _ _ Tryz.call61) (ev2 (aW hS rfl) (ev2 rfl (ev2 rfl evn))) rfl (BVs.refl _ _) (hC _ _ _ h3) rfl,
      go (zm (.b r2)),
      gt c6 (zf rfl aCt),
      gt c6 (zl 0 rfl rfl rfl aR),
      gt c6 fun S hS => fP (aD rfl) (.func _ _ Tryz.call61) (ev2 (aW hS rfl) (ev2 rfl (ev2 rfl evn))) rfl (BVs.refl _ _) (hC _ _ _ h8) rfl,
      go (zpt (.b r7) c6),
      go (za (.i a.Person)), trivial⟩
   · exact cF (aG rfl (aG rfl (aL trivial)))
  ·obtain rfl := sIn h5;refine ⟨[(4, 0, .bp b1 0 0), (5, 1, .i a.Person), (6, 2, .bp b1 0 1), (7, 3, .i a.Num), (8, 4, .b r2), (9, 5, .b r2), (10, 6, .tup []), (11, 7, .tup []), (12, 8, .tup []), (13, 9, .b false), (2, 10, .i a.Person)], ?_, ?_⟩
   · exact dok [([], []), ([0], []), ([], []), ([2], []), ([3], []), ([4], []), ([5], []), ([5, 6], []), ([5, 7], []), ([5, 8], []), ([1], [])] ⟨go (zf rfl xQ),
      go (zl 0 rfl rfl rfl aR),
      go (zf rfl xR),
      go (zl 0 rfl rfl rfl aR),
      go fun S hS => fP (aD rfl) (.func _ _ Tryz.call61) (ev2 (aW hS rfl) (ev2 rfl (ev2 rfl evn))) rfl (BVs.refl _ _) (hC _ _ _ h3) rfl,
      go (zm (.b r2)),
      gp c6,
      gp c6,
      gp c6,
      go (zpf (.b false) c6),
      go (za (.i a.Person)), trivial⟩
   · exact cF (aG rfl (aG rfl (aL trivial)))
 ·refine ta (.b b4) (aB ?_);obtain rfl := sIn h;refine bL (bG (bH (l := [2, 3]) ⟨rfl, rfl, trivial⟩)) ?_;exact aZ ⟨rfl, _, .two _ _, rfl, rfl⟩

theorem aLk (a : aN) {r : Bool} (h : tJ a = some r) : Fn Tryz.prog 47 [.agg (aJ a)] (.b r) := by
 unfold tJ at h;refine Fn.of_tr Tryz.func47 rfl (rs := [.tmp 2]) Tryz.results47 Tryz.ntmps47 (Nat.le_of_ble_eq_true rfl) ?_;refine aC (aA ?_);refine bB rfl (dC (v := .agg (aJ a)) (aD rfl) rfl rfl rfl) ?_;rintro _ ⟨b1, rfl⟩;refine ta (.b false) (aB (aC (aC (aA (tfl 0 rfl rfl fX rfl kM (to (sle rfl jX.of) (to (scm rfl rfl rfl) (aB ?_))))))));refine tih h (fun c2 h => ?_) (fun c2 h => ?_)
 ·refine aC (aA (ta (.b false) (aB ?_)));obtain rfl := sIn h;refine bL (bG (bH (l := [2]) ⟨rfl, trivial⟩)) ?_;exact aZ ⟨rfl, _, .one _, rfl, rfl⟩
 ·refine aX (aC (aA (to (gU 3 1 (.inl rfl) (aD rfl)) ?_)));refine aB (aC (aC (aA (tfl 0 rfl rfl fX rfl kM (to (sle rfl jX.of) (tm (.i 0) (aB (bA ?_))))))));refine bO (S := Int × (List Int) × Value) [1, 18, 19] (fun s4 => [(3, .d (.lit s4.2.2)), (20, .i s4.1)]) (fun s4 => [.box b1 0 (aJ a), .arr s4.2.2 3 1 (s4.2.1.map aM)]) (fun k s4 => lA a.Teams (a.Teams.length : Int) a k s4.1 s4.2.1) (fun _ => rfl) (0, ([] : List Int), (.slice none 0 0)) h (aP [0, 1] rfl rfl (aG rfl (aG rfl (aL ⟨rfl, rfl, rfl, trivial⟩)))) ?_;rintro k6 ⟨z, j, w5⟩ h;simp only [lA] at h;refine aC (aA (to (scm rfl rfl rfl) (aB (aC ?_))));refine tih h (fun c7 h => ?_) (fun c7 h => ?_)
  ·refine aX (aC (bA (aC (aA ?_))));obtain ⟨x8, h9, h⟩ := bns h;refine to (six rfl rfl jX.of (aY bF h9)) (to (pJ (bF x8) rfl tA) ?_);refine bB rfl (cH (zs := [.lit (.int .i64 0), .lit (.int .i64 0), .lit (.int .i64 0)]) (aD rfl) Tryz.zeroValue46 rfl rfl) ?_;rintro _ ⟨c1, rfl⟩;refine to (sst 2 rfl rfl Tryz.sizeOf46 (bF x8)) (aB (aC (aC (aA (tfl 2 rfl rfl vT rfl aR ?_)))));obtain ⟨K, L, h⟩ := bns h;refine to (scr Tryz.call61 (hC _ _ _ L)) (to (sn rfl) (tm (.b (!K)) ?_));obtain ⟨H, q, h⟩ := bns h;refine bD 5 [1, 3, 5, 18, 19, 20] 33 H ?_ ?_
   ·refine bch q (fun m q => ?_) (fun m q => ?_)
    ·refine tp m (tp m (tp m (tp m (to (spt (.b true) m) ?_))));obtain rfl := sIn q;refine aB (aO rfl ⟨rfl, rfl, rfl, rfl, rfl, rfl, trivial⟩ rfl)
    ·refine tkl 2 m rfl rfl qW rfl aR ?_;obtain ⟨M, N, q⟩ := bns q;refine tk m (scr Tryz.call61 (hC _ _ _ N)) (tk m (sn rfl) (to (spf (.b (!M)) m) ?_));obtain rfl := sIn q;refine aB (aO rfl ⟨rfl, rfl, rfl, rfl, rfl, rfl, trivial⟩ rfl)
   ·refine tm (.b H) ?_;obtain ⟨O, s, h⟩ := bns h;refine bD 5 [1, 3, 5, 18, 19, 20] 39 O ?_ ?_
    ·refine bch s (fun n s => ?_) (fun n s => ?_)
     ·refine tp n (tp n (tp n (tp n (to (spt (.b true) n) ?_))));obtain rfl := sIn s;refine aB (aO rfl ⟨rfl, rfl, rfl, rfl, rfl, rfl, trivial⟩ rfl)
     ·refine tkl 2 n rfl rfl kY rfl aR ?_;obtain ⟨P, Q, s⟩ := bns s;refine tk n (scr Tryz.call61 (hC _ _ _ Q)) (tk n (sn rfl) (to (spf (.b (!P)) n) ?_));obtain rfl := sIn s;refine aB (aO rfl ⟨rfl, rfl, rfl, rfl, rfl, rfl, trivial⟩ rfl)
    ·refine aB ?_;refine tih h (fun T h => ?_) (fun T h => ?_)
     ·refine aC (aA (ta (.b false) (aB ?_)));obtain rfl := sIn h;refine bL (bG (bH (l := [2]) ⟨rfl, trivial⟩)) ?_;exact aZ ⟨rfl, _, .one _, rfl, rfl⟩
     ·refine aX (aA (tm (.d (.lit w5)) (tfl 2 rfl rfl vT rfl aR (to (fE (aD rfl) bI rfl rfl (rows := ([x8.Player]).map aM) rfl (cP (f := aM) fun _ => rfl) rfl (by decide)) ?_))));obtain ⟨U, V, h⟩ := bns h;refine bB rfl (fT (i := 1) (aD rfl) bI rfl rfl rfl (fun _ => rfl) V rfl) ?_;rintro _ ⟨I, rfl⟩;refine ta (.d (.lit I)) ?_;refine cQ ?_;refine aA (to (sar rfl rfl rfl) (tm (.i (w64 (z + 1))) (aB ?_)));exact ⟨(w64 (z + 1), U, I), h, aP [0, 1] rfl rfl (aG rfl (aG rfl (aL ⟨rfl, rfl, rfl, trivial⟩)))⟩
  ·refine bP ?_;refine .inl ⟨rfl, ?_⟩;simp only [pQ] at h;refine aC (aA (tm (.d (.lit w5)) ?_));obtain ⟨B, W, h⟩ := bns h;refine tR (aP [1, 0] rfl rfl (le_refl _)) ?_;refine bB rfl (eZ (passed := [.arr w5 3 1 (j.map aM)]) (aD rfl) rfl (.func _ _ Tryz.call77) rfl rfl (aBp j W)) ?_;rintro _ ⟨_, _, ⟨rfl, rfl⟩, rfl⟩;refine aB (aC (aA (to (sla 1 (aJ a) rfl rfl dA) ?_)));obtain ⟨A, X, h⟩ := bns h;refine to (dL (aD rfl) (.func _ _ Tryz.call55) rfl rfl (yX _ X)) ?_;refine ta (.d (.sl 1 (A.map aM))) (aB (aC (aC (aA (tm (.d (.lit w5)) ?_)))));obtain ⟨Y, Z, h⟩ := bns h;refine to (sc Tryz.call78 (aBo _ Z) (.cons (.d (mT 0 rfl (cP (f := aM) fun _ => rfl))) .nil)) (to (sn rfl) (tm (.b (!Y)) ?_));obtain ⟨a0, t, h⟩ := bns h;refine bD 4 [1, 3, 6] 57 a0 ?_ ?_
   ·refine bch t (fun o t => ?_) (fun o t => ?_)
    ·refine tp o (tp o (tp o (to (spt (.b true) o) ?_)));obtain rfl := sIn t;refine aB (aO rfl ⟨rfl, rfl, rfl, trivial⟩ rfl)
    ·refine tk o (sm (.d (.sl 1 (A.map aM)))) ?_;obtain ⟨a1, a2, t⟩ := bns t;refine tk o (scr Tryz.call78 (aBo _ a2)) (tk o (sn rfl) (to (spf (.b (!a1)) o) ?_));obtain rfl := sIn t;refine aB (aO rfl ⟨rfl, rfl, rfl, trivial⟩ rfl)
   ·refine aB ?_;refine tih h (fun a3 h => ?_) (fun a3 h => ?_)
    ·refine aC (aA (ta (.b false) (aB ?_)));obtain rfl := sIn h;refine bL (bG (bH (l := [2]) ⟨rfl, trivial⟩)) ?_;exact aZ ⟨rfl, _, .one _, rfl, rfl⟩
    ·refine aX (aC (aC (aA (to (sf rfl fR) (tfl 1 rfl rfl dH rfl cG (to (sle rfl bI.of) (tm (.i 0) (aB (bA ?_)))))))));refine bO (S := Int) [1, 3, 6, 60, 61] (fun C => [(62, .i C)]) (fun C => [.box b1 0 (aJ a), .arr w5 3 1 (B.map aM)]) (fun k C => jK A a.Tree.Slots (a.Tree.Slots.length : Int) a B k C) (fun _ => rfl) (0) h (aP [1, 0] rfl rfl (aG rfl (aL ⟨rfl, rfl, rfl, rfl, rfl, trivial⟩))) ?_;rintro c3 u h;simp only [jK] at h;refine aC (aA (to (scm rfl rfl rfl) (aB (aC ?_))));refine tih h (fun a4 h => ?_) (fun a4 h => ?_)
     ·refine aX (aC (bA (aC (aA ?_))));obtain ⟨E, a5, h⟩ := bns h;refine to (six rfl rfl bI.of (aY aM a5)) (to (slc rfl aR) (ta (.i E) (aB (aC (aA (tm (.i E) (to (scm rfl rfl rfl) (tm (.b (!decide (E = (-1)))) ?_))))))));obtain ⟨a6, w, h⟩ := bns h;refine bD 5 [1, 3, 6, 60, 61, 62] 73 a6 ?_ ?_
      ·refine bch w (fun g w => ?_) (fun g w => ?_)
       ·refine tk g (sm (.d (.lit w5))) (tk g (sm (.i E)) ?_);obtain ⟨a7, a8, w⟩ := bns w;refine tk g (sc Tryz.call60 (fB _ _ a8) (.cons (.d (mT 1 rfl (cP (f := aM) fun _ => rfl))) (.cons (.same _) .nil))) (tk g (sn rfl) (to (spt (.b (!a7)) g) ?_));obtain rfl := sIn w;refine aB (aO rfl ⟨rfl, rfl, rfl, rfl, rfl, rfl, trivial⟩ rfl)
       ·refine tp g (tp g (tp g (tp g (to (spf (.b false) g) ?_))));obtain rfl := sIn w;refine aB (aO rfl ⟨rfl, rfl, rfl, rfl, rfl, rfl, trivial⟩ rfl)
      ·refine aB ?_;refine tih h (fun a9 h => ?_) (fun a9 h => ?_)
       ·refine aC (aA (ta (.b false) (aB ?_)));obtain rfl := sIn h;refine bL (bG (bH (l := [2]) ⟨rfl, trivial⟩)) ?_;exact aZ ⟨rfl, _, .one _, rfl, rfl⟩
       ·refine cK ?_;refine aA (to (sar rfl rfl rfl) (tm (.i (w64 (u + 1))) (aB ?_)));exact ⟨(w64 (u + 1)), h, aP [0, 1] rfl rfl (aG rfl (aL ⟨rfl, rfl, rfl, rfl, rfl, trivial⟩))⟩
     ·refine bP ?_;refine .inl ⟨rfl, ?_⟩;simp only [pR] at h;refine aC (aC (aA (tfl 0 rfl rfl kL rfl pP (to (sle rfl fU.of) (tm (.i 0) (aB (bA ?_)))))));refine bO (S := Int) [1, 3, 6, 76, 77] (fun F => [(78, .i F)]) (fun F => [.box b1 0 (aJ a), .arr w5 3 1 (B.map aM)]) (fun k F => lB A a.Slips (a.Slips.length : Int) a B k F) (fun _ => rfl) (0) h (aP [0, 1] rfl rfl (aG rfl (aL ⟨rfl, rfl, rfl, rfl, rfl, trivial⟩))) ?_;rintro c4 x h;simp only [lB] at h;refine aC (aA (to (scm rfl rfl rfl) (aB (aC ?_))));refine tih h (fun b0 h => ?_) (fun b0 h => ?_)
      ·refine aX (aC (bA (aC (aA ?_))));obtain ⟨G, b2, h⟩ := bns h;refine to (six rfl rfl fU.of (aY aK b2)) (to (pJ (aK G) rfl lK) ?_);refine bB rfl (cH (zs := [.lit (.int .i64 0), .lit (.int .i64 0), .lit (.int .i64 0), .lit (.int .i64 0), .lit (.int .i64 0)]) (aD rfl) Tryz.zeroValue67 rfl rfl) ?_;rintro _ ⟨c5, rfl⟩;refine to (sst 2 rfl rfl Tryz.sizeOf67 (aK G)) (aB (aC (aA (tfl 2 rfl rfl pE rfl aR (to (scm rfl rfl rfl) (tm (.b (decide (G.Kind = 5))) ?_))))));obtain ⟨b3, y, h⟩ := bns h;refine bD 6 [1, 3, 6, 76, 77, 78] 91 b3 ?_ ?_
       ·refine bch y (fun c y => ?_) (fun c y => ?_)
        ·refine tk c (sm (.d (.lit w5))) (tkl 2 c rfl rfl pF rfl aR ?_);obtain ⟨b4, b5, y⟩ := bns y;refine tk c (sc Tryz.call60 (fB _ _ b5) (.cons (.d (mT 1 rfl (cP (f := aM) fun _ => rfl))) (.cons (.same _) .nil))) (tk c (sn rfl) (to (spt (.b (!b4)) c) ?_));obtain rfl := sIn y;refine aB (aO rfl ⟨rfl, rfl, rfl, rfl, rfl, rfl, trivial⟩ rfl)
        ·refine tp c (tp c (tp c (tp c (tp c (to (spf (.b false) c) ?_)))));obtain rfl := sIn y;refine aB (aO rfl ⟨rfl, rfl, rfl, rfl, rfl, rfl, trivial⟩ rfl)
       ·refine aB ?_;refine tih h (fun b6 h => ?_) (fun b6 h => ?_)
        ·refine aC (aA (ta (.b false) (aB ?_)));obtain rfl := sIn h;refine bL (bG (bH (l := [2]) ⟨rfl, trivial⟩)) ?_;exact aZ ⟨rfl, _, .one _, rfl, rfl⟩
        ·refine cK ?_;refine aA (to (sar rfl rfl rfl) (tm (.i (w64 (x + 1))) (aB ?_)));exact ⟨(w64 (x + 1)), h, aP [0, 1] rfl rfl (aG rfl (aL ⟨rfl, rfl, rfl, rfl, rfl, trivial⟩))⟩
      ·refine bP ?_;refine .inl ⟨rfl, ?_⟩;simp only [pS] at h;refine aC (aA (ta (.fn 79 []) (aB (aC (aA (ta (.fn 80 []) (aB (aC (aA (tm (.d (.sl 1 (A.map aM))) (tfl 0 rfl rfl jF rfl nN (tm (.fn 79 []) ?_))))))))))));obtain ⟨b7, b8, h⟩ := bns h;refine to (scr Tryz.call81 (aDj _ _ _ 79 [] Tryz.call79 (fun _ _ h => aIw _ h) b8)) (tm (.b b7) ?_);obtain ⟨J, p, h⟩ := bns h;refine bD 6 [] 104 J ?_ ?_
       ·refine bch p (fun e p => ?_) (fun e p => ?_)
        ·refine tk e (sm (.d (.sl 1 (A.map aM)))) (tkl 0 e rfl rfl kW rfl qZ (tk e (sm (.fn 80 [])) ?_));obtain ⟨b9, c0, p⟩ := bns p;refine tk e (scr Tryz.call82 (aDk _ _ _ 80 [] Tryz.call80 (fun _ _ p => aIx _ p) c0)) (to (spt (.b b9) e) ?_);obtain rfl := sIn p;refine aB (aO rfl trivial rfl)
        ·refine tp e (tp e (tp e (tp e (tp e (to (spf (.b false) e) ?_)))));obtain rfl := sIn p;refine aB (aO rfl trivial rfl)
       ·refine ta (.b J) (aB ?_);obtain rfl := sIn h;refine bL (bG (bH (l := [2]) ⟨rfl, trivial⟩)) ?_;exact aZ ⟨rfl, _, .one _, rfl, rfl⟩

theorem aDe (a : List aH) {r : (List aH)} (h : mO a = some r) : fY Tryz.prog 93 [.d (.sl 4 (a.map aE))] [] (fun r' o' => ∃ (w0 : Value), r' = .d (.lit w0) ∧ o' = [.arr w0 76 4 (r.map aE)]) := by
 unfold mO at h;refine kQ Tryz.func93 rfl (rs := [.tmp 2]) Tryz.results93 Tryz.ntmps93 (Nat.le_of_ble_eq_true rfl) ?_;refine aC (aA (to (gU 76 4 (.inl rfl) (aD rfl)) ?_));refine aB (aC (aC (aA (tm (.d (.sl 4 (a.map aE))) ?_))));refine bB rfl (aNf (aD rfl) rfl rfl Tryz.underlying29) ?_;rintro _ ⟨b2, h3, rfl⟩;refine aB ?_;refine aCc rfl (fun c4 => ?_) (fun c4 => ?_)
 ·obtain rfl := aMp (h3 c4)
  simp [app] at h
  subst h;refine aC (aA (to (gU 76 4 (.inl rfl) (aD rfl)) ?_));refine aB ?_;refine bL (aP [1, 0] rfl rfl (le_refl _)) ?_;exact aZ ⟨rfl, _, [.arr (.slice none 0 0) 76 4 (([] : List aH).map aE)], [.arr (.slice none 0 0) 76 4 (([] : List aH).map aE)], _, .one (.tmp 2 (v := .d (.lit (.slice none 0 0))) rfl), .refl _, .same _, (.slice none 0 0), rfl, rfl⟩
 ·refine aX (aC (aA ?_));refine bB rfl (aJb (aD rfl) cR rfl rfl (rows := (([] : List aH)).map aE) rfl (cP (f := aE) fun _ => rfl) rfl (by decide)) ?_;rintro _ ⟨v5, rfl⟩;refine tm (.d (.sl 4 (a.map aE))) ?_;obtain ⟨x6, h7, h⟩ := bns h;refine bB rfl (fT (i := 1) (aD rfl) cR rfl rfl rfl (fun _ => rfl) h7 rfl) ?_;rintro _ ⟨v8, rfl⟩;refine ta (.d (.lit v8)) (aB ?_);obtain rfl := sIn h;refine bL (aP [1, 0] rfl rfl (le_refl _)) ?_;exact aZ ⟨rfl, _, [.arr v8 76 4 (x6.map aE)], [.arr (.slice none 0 0) 76 4 (([] : List aH).map aE)], _, .one (.tmp 2 (v := .d (.lit v8)) rfl), .refl _, .same _, v8, rfl, rfl⟩

theorem nQ (s : List aH) (g : Int) (x : Int) (q : aH → aH → Option Int) {r : (List aH)} {a : Value} (j : Nat) (o : List AV) (A : ∀ args w, (callFunc j args).run Tryz.prog w = .ok (.enter j args) w) (B : ∀ (x0 : aH) (x1 : aH) r, q x0 x1 = some r → Fn Tryz.prog j ([.agg (aE x0), .agg (aE x1)] ++ o) (.i r)) (h : dO s g x q = some r) : fY Tryz.prog 132 [.d (.lit a), .i g, .i x, .fn j o] [.arr a 76 4 (s.map aE)] (fun r' o' => r' = .tup [] ∧ o' = [.arr a 76 4 (r.map aE)]) := by
 unfold dO at h;refine uT Tryz.func132 rfl (rs := []) Tryz.results132 Tryz.ntmps132 (Nat.le_of_ble_eq_true rfl) ?_;refine aC (aA (tm (.i g) (to (sar rfl rfl rfl) (ta (.i (w64 (g + 1))) (aB (bA ?_))))));refine bO (S := Int × (List aH)) [1, 2, 3] (fun s1 => [(0, .d (.lit a)), (8, .i s1.1)]) (fun s1 => [.arr a 76 4 (s1.2.map aE)]) (fun k s1 => cO g x q k s1.1 s1.2) (fun _ => rfl) (w64 (g + 1), s) h (aP [0] rfl rfl (aG rfl (aG rfl (aL ⟨rfl, rfl, rfl, trivial⟩)))) ?_;rintro k2 ⟨n, t⟩ h;simp only [cO] at h;refine aC (aC (aA (tm (.i n) (tm (.i x) (to (scm rfl rfl rfl) (aB ?_))))));refine tih h (fun c3 h => ?_) (fun c3 h => ?_)
 ·refine aX (aC (bA (aC (aA (tm (.i n) (ta (.i n) (aB ?_)))))));refine uX ?_;refine bO (S := Int × (List aH)) [1, 2, 3, 8] (fun s4 => [(0, .d (.lit a)), (9, .i s4.1)]) (fun s4 => [.arr a 76 4 (s4.2.map aE)]) (fun k s4 => cY (cO g x q k2) g x q n k s4.1 s4.2) (fun _ => rfl) (n, t) h (aP [0] rfl rfl (aG rfl (aG rfl (aL ⟨rfl, rfl, rfl, rfl, trivial⟩)))) ?_;rintro k5 ⟨c, f⟩ h;simp only [cY] at h;refine aC (aC ?_);obtain ⟨b6, h7, h⟩ := bns h;refine cL mix 17 [0, 1, 2, 3, 8, 9] [(34, .b b6)] ?_ ?_
  ·refine bch h7 (fun c8 h7 => ?_) (fun c8 h7 => ?_)
   ·obtain ⟨x9, C, h7⟩ := bns h7;obtain ⟨E, F, h7⟩ := bns h7;obtain ⟨z, K, h7⟩ := bns h7;obtain rfl := sIn h7;refine ⟨[(18, 0, .i c), (19, 1, .i g), (20, 2, .b (decide (g < c))), (21, 3, .b (decide (g < c))), (22, 4, .fn j o), (23, 5, .d (.lit a)), (24, 6, .i c), (25, 7, .ep a 4 c.toNat 0), (26, 8, .agg (aE x9)), (27, 9, .d (.lit a)), (28, 10, .i c), (29, 11, .i (w64 (c - 1))), (30, 12, .ep a 4 (w64 (c - 1)).toNat 0), (31, 13, .agg (aE E)), (32, 14, .i z), (33, 15, .b (decide (z < 0))), (34, 16, .b (decide (z < 0)))], ?_, ?_⟩
    · exact dok [([], []), ([], []), ([0, 1], []), ([2], []), ([3], []), ([3], []), ([3], []), ([3, 5, 6], []), ([3, 7], []), ([3], []), ([3], []), ([3, 10], []), ([3, 9, 11], []), ([3, 12], []), ([3, 4, 8, 13], []), ([3, 14], []), ([3, 15], [])] ⟨go (zm (.i c)),
      go (zm (.i g)),
      go (zcm rfl rfl rfl),
      go (zm (.b (decide (g < c)))),
      gt c8 (zm (.fn j o)),
      gt c8 (zm (.d (.lit a))),
      gt c8 (zm (.i c)),
      gt c8 (zia 0 rfl rfl rfl cR.of (aY aE C)),
      gt c8 fun S hS => eF (aD rfl) (aW hS rfl) (l := 0) rfl (dW aE C) fV (es := (aE x9)) rfl rfl,
      gt c8 (zm (.d (.lit a))),
      gt c8 (zm (.i c)),
      gt c8 (zar rfl rfl rfl),
      gt c8 (zia 0 rfl rfl rfl cR.of (aY aE F)),
      gt c8 fun S hS => eF (aD rfl) (aW hS rfl) (l := 0) rfl (dW aE F) fV (es := (aE E)) rfl rfl,
      gt c8 fun S hS => fP (aD rfl) (.clo _ _ _ _ A (aMu hS rfl)) (aCo (ev2 (aW hS rfl) (ev2 (aW hS rfl) evn))) rfl (BVs.refl _ _) (B _ _ _  K) rfl,
      gt c8 (zcm rfl rfl rfl),
      go (zpt (.b (decide (z < 0))) c8), trivial⟩
    · exact cF (aG rfl (aL ⟨rfl, rfl, rfl, rfl, rfl, rfl, trivial⟩))
   ·obtain rfl := sIn h7;refine ⟨[(18, 0, .i c), (19, 1, .i g), (20, 2, .b (decide (g < c))), (21, 3, .b (decide (g < c))), (22, 4, .tup []), (23, 5, .tup []), (24, 6, .tup []), (25, 7, .tup []), (26, 8, .tup []), (27, 9, .tup []), (28, 10, .tup []), (29, 11, .tup []), (30, 12, .tup []), (31, 13, .tup []), (32, 14, .tup []), (33, 15, .tup []), (34, 16, .b false)], ?_, ?_⟩
    · exact dok [([], []), ([], []), ([0, 1], []), ([2], []), ([3], []), ([3], []), ([3], []), ([3, 5, 6], []), ([3, 7], []), ([3], []), ([3], []), ([3, 10], []), ([3, 9, 11], []), ([3, 12], []), ([3, 4, 8, 13], []), ([3, 14], []), ([3, 15], [])] ⟨go (zm (.i c)),
      go (zm (.i g)),
      go (zcm rfl rfl rfl),
      go (zm (.b (decide (g < c)))),
      gp c8,
      gp c8,
      gp c8,
      gp c8,
      gp c8,
      gp c8,
      gp c8,
      gp c8,
      gp c8,
      gp c8,
      gp c8,
      gp c8,
      go (zpf (.b false) c8), trivial⟩
    · exact cF (aG rfl (aL ⟨rfl, rfl, rfl, rfl, rfl, rfl, trivial⟩))
  ·refine aB ?_;refine tih h (fun L h => ?_) (fun L h => ?_)
   ·refine aX (aC (bA ?_));obtain ⟨u, G, h⟩ := bns h;obtain ⟨y, H, h⟩ := bns h;obtain ⟨M, I, h⟩ := bns h;refine wI mix 16 [0, 1, 2, 3, 8, 9] (fun e => [(39, .d (.lit a)), (41, .i (w64 (c - 1))), (50, .agg (aE y))]) (fun e => [.arr a 76 4 ((f.set c.toNat u).map aE)]) ?_ ?_
    ·refine ⟨0, fun e => [(37, 0, .d (.lit a)), (38, 1, .i c), (39, 2, .d (.lit a)), (40, 3, .i c), (41, 4, .i (w64 (c - 1))), (42, 5, .d (.lit a)), (43, 6, .i c), (44, 7, .i (w64 (c - 1))), (45, 8, .ep a 4 (w64 (c - 1)).toNat 0), (46, 9, .agg (aE u)), (47, 10, .d (.lit a)), (48, 11, .i c), (49, 12, .ep a 4 c.toNat 0), (50, 13, .agg (aE y)), (51, 14, .ep a 4 c.toNat 0)], fun e => [([(15, .arr a 76 4 ((f.set c.toNat u).map aE))], .arr a 76 4 (f.map aE))], ?_, ?_⟩
     · exact ⟨by kernel_rfl, by kernel_rfl, by kernel_rfl, fun _ => by kernel_rfl, fun _ => by kernel_rfl, fun _ => by kernel_rfl, fun _ => rfl, [([], [15]), ([], [15]), ([], []), ([], []), ([3], []), ([], [15]), ([], [15]), ([6], [15]), ([5, 7], [15]), ([8], [15]), ([], [15]), ([], [15]), ([10, 11], [15]), ([12], [15]), ([0, 1], [15]), ([9, 14], [])], by kernel_rfl, ⟨fun e S hw hi hS => cC (X := e) rfl (hw e) rfl (cU rfl (eH (v := .d (.lit a)) (aD rfl) (aW hS rfl) rfl)),
      fun e S hw hi hS => cC (X := e) rfl (hw e) rfl (cU rfl (eH (v := .i c) (aD rfl) (aW hS rfl) rfl)),
      fun e S hw hi hS => cC (X := e) rfl (hw e) rfl (cU rfl (eH (v := .d (.lit a)) (aD rfl) (aW hS rfl) rfl)),
      fun e S hw hi hS => cC (X := e) rfl (hw e) rfl (cU rfl (eH (v := .i c) (aD rfl) (aW hS rfl) rfl)),
      fun e S hw hi hS => cC (X := e) rfl (hw e) rfl (cU rfl (qN (aD rfl) (aW hS rfl) rfl rfl)),
      fun e S hw hi hS => cC (X := e) rfl (hw e) rfl (cU rfl (eH (v := .d (.lit a)) (aD rfl) (aW hS rfl) rfl)),
      fun e S hw hi hS => cC (X := e) rfl (hw e) rfl (cU rfl (eH (v := .i c) (aD rfl) (aW hS rfl) rfl)),
      fun e S hw hi hS => cC (X := e) rfl (hw e) rfl (cU rfl (qN (aD rfl) (aW hS rfl) rfl rfl)),
      fun e S hw hi hS => cC (X := e) rfl (hw e) rfl (cU rfl (dM (m := 0) (aD rfl) (aW hS rfl) (og hS rfl rfl) (aW hS rfl) cR.of (aY aE G))),
      fun e S hw hi hS => cC (X := e) rfl (hw e) rfl (cU rfl (eF (aD rfl) (aW hS rfl) (l := 0) (og hS rfl rfl) (dW aE G) fV (es := (aE u)) rfl rfl)),
      fun e S hw hi hS => cC (X := e) rfl (hw e) rfl (cU rfl (eH (v := .d (.lit a)) (aD rfl) (aW hS rfl) rfl)),
      fun e S hw hi hS => cC (X := e) rfl (hw e) rfl (cU rfl (eH (v := .i c) (aD rfl) (aW hS rfl) rfl)),
      fun e S hw hi hS => cC (X := e) rfl (hw e) rfl (cU rfl (dM (m := 0) (aD rfl) (aW hS rfl) (og hS rfl rfl) (aW hS rfl) cR.of (aY aE H))),
      fun e S hw hi hS => cC (X := e) rfl (hw e) rfl (cU rfl (eF (aD rfl) (aW hS rfl) (l := 0) (og hS rfl rfl) (dW aE H) fV (es := (aE y)) rfl rfl)),
      fun e S hw hi hS => cC (X := e) rfl (hw e) rfl (cU rfl (dM (m := 0) (aD rfl) (aW hS rfl) (og hS rfl rfl) (aW hS rfl) cR.of (aY aE I))),
      fun e S hw hi hS => aFb (X := e) hS rfl rfl rfl (p := 0) rfl rfl (cU rfl (lU (l := 0) (aW hS rfl) (og hS rfl rfl) (dW aE I) (aW hS rfl) rfl rfl Tryz.sizeOf76 rfl (aD rfl) (Nat.le_of_ble_eq_true rfl) (rows' := ((f.set c.toNat u)).map aE) (tL _ _ _ _ rfl))), trivial⟩⟩
     · exact fun e => cF (aG rfl (aG rfl (aG rfl (aL ⟨rfl, rfl, rfl, rfl, rfl, rfl, trivial⟩))))
    ·intro e;obtain ⟨N, J, h⟩ := bns h;refine to (dM (m := 0) (aD rfl) rfl rfl rfl cR.of (aY aE J)) ?_;refine to (lU (l := 0) rfl rfl (dW aE J) rfl rfl rfl Tryz.sizeOf76 rfl (aD rfl) (Nat.le_of_ble_eq_true rfl) (rows' := (((f.set c.toNat u).set (w64 (c - 1)).toNat y)).map aE) (tL _ _ _ _ rfl)) ?_;refine cQ ?_;refine aA (tm (.i c) (to (sar rfl rfl rfl) (ta (.i (w64 (c - 1))) (aB ?_))));exact ⟨(w64 (c - 1), ((f.set c.toNat u).set (w64 (c - 1)).toNat y)), h, aP [0] rfl rfl (aG rfl (aG rfl (aL ⟨rfl, rfl, rfl, rfl, trivial⟩)))⟩
   ·refine bP ?_;refine .inl ⟨rfl, ?_⟩;simp only [gK] at h;simp only [gJ] at h;refine aA (tm (.i n) (to (sar rfl rfl rfl) (ta (.i (w64 (n + 1))) (aB ?_))));exact ⟨(w64 (n + 1), f), h, aP [0] rfl rfl (aG rfl (aG rfl (aL ⟨rfl, rfl, rfl, trivial⟩)))⟩
 ·refine bP ?_;refine .inl ⟨rfl, ?_⟩;simp only [gI] at h;obtain rfl := sIn h;exact ⟨_, [.arr a 76 4 (t.map aE)], [], _, .none, .refl _, .same _, rfl, rfl⟩

theorem lC (j : List aH) (e : Int) (f : Int) (o : Int) (q : aH → aH → Option Int) {r : (List aH)} {a : Value} (g : Nat) (n : List AV) (u : ∀ args w, (callFunc g args).run Tryz.prog w = .ok (.enter g args) w) (x : ∀ (x0 : aH) (x1 : aH) r, q x0 x1 = some r → Fn Tryz.prog g ([.agg (aE x0), .agg (aE x1)] ++ n) (.i r)) (h : eK j e f o q = some r) : fY Tryz.prog 142 [.d (.lit a), .i e, .i f, .i o, .fn g n] [.arr a 76 4 (j.map aE)] (fun r' o' => r' = .tup [] ∧ o' = [.arr a 76 4 (r.map aE)]) := by
 unfold eK at h;refine uT Tryz.func142 rfl (rs := []) Tryz.results142 Tryz.ntmps142 (Nat.le_of_ble_eq_true rfl) ?_;refine aC (aA (ta (.i 0) (aB (bA ?_))));refine bO (S := Int × (List aH)) [1, 2, 3] (fun s1 => [(0, .d (.lit a)), (10, .i s1.1)]) (fun s1 => [.arr a 76 4 (s1.2.map aE)]) (fun k s1 => dY e f o k s1.1 s1.2) (fun _ => rfl) (0, j) h (aP [0] rfl rfl (aG rfl (aG rfl (aL ⟨rfl, rfl, rfl, trivial⟩)))) ?_;rintro k2 ⟨b, c⟩ h;simp only [dY] at h;refine aC (aC (aA (tm (.i b) (tm (.i o) (to (scm rfl rfl rfl) (aB ?_))))));refine tih h (fun c3 h => ?_) (fun c3 h => ?_)
 ·refine aX (aC (bA ?_));obtain ⟨x5, h6, h⟩ := bns h;obtain ⟨x7, h8, h⟩ := bns h;obtain ⟨x9, s, h⟩ := bns h;refine wI mix 22 [0, 1, 2, 3, 10] (fun X4 => [(20, .d (.lit a)), (23, .i (w64 (f + b))), (35, .agg (aE x7))]) (fun X4 => [.arr a 76 4 ((c.set (w64 (e + b)).toNat x5).map aE)]) ?_ ?_
  ·refine ⟨0, fun X4 => [(16, 0, .d (.lit a)), (17, 1, .i e), (18, 2, .i b), (19, 3, .i (w64 (e + b))), (20, 4, .d (.lit a)), (21, 5, .i f), (22, 6, .i b), (23, 7, .i (w64 (f + b))), (24, 8, .d (.lit a)), (25, 9, .i f), (26, 10, .i b), (27, 11, .i (w64 (f + b))), (28, 12, .ep a 4 (w64 (f + b)).toNat 0), (29, 13, .agg (aE x5)), (30, 14, .d (.lit a)), (31, 15, .i e), (32, 16, .i b), (33, 17, .i (w64 (e + b))), (34, 18, .ep a 4 (w64 (e + b)).toNat 0), (35, 19, .agg (aE x7)), (36, 20, .ep a 4 (w64 (e + b)).toNat 0)], fun X4 => [([(21, .arr a 76 4 ((c.set (w64 (e + b)).toNat x5).map aE))], .arr a 76 4 (c.map aE))], ?_, ?_⟩
   · exact ⟨by kernel_rfl, by kernel_rfl, by kernel_rfl, fun _ => by kernel_rfl, fun _ => by kernel_rfl, fun _ => by kernel_rfl, fun _ => rfl, [([], [21]), ([], [21]), ([], [21]), ([1, 2], [21]), ([], []), ([], []), ([], []), ([5, 6], []), ([], [21]), ([], [21]), ([], [21]), ([9, 10], [21]), ([8, 11], [21]), ([12], [21]), ([], [21]), ([], [21]), ([], [21]), ([15, 16], [21]), ([14, 17], [21]), ([18], [21]), ([0, 3], [21]), ([13, 20], [])], by kernel_rfl, ⟨fun X4 S hw hi hS => cC (X := X4) rfl (hw X4) rfl (cU rfl (eH (v := .d (.lit a)) (aD rfl) (aW hS rfl) rfl)),
      fun X4 S hw hi hS => cC (X := X4) rfl (hw X4) rfl (cU rfl (eH (v := .i e) (aD rfl) (aW hS rfl) rfl)),
      fun X4 S hw hi hS => cC (X := X4) rfl (hw X4) rfl (cU rfl (eH (v := .i b) (aD rfl) (aW hS rfl) rfl)),
      fun X4 S hw hi hS => cC (X := X4) rfl (hw X4) rfl (cU rfl (qN (aD rfl) (aW hS rfl) (aW hS rfl) rfl)),
      fun X4 S hw hi hS => cC (X := X4) rfl (hw X4) rfl (cU rfl (eH (v := .d (.lit a)) (aD rfl) (aW hS rfl) rfl)),
      fun X4 S hw hi hS => cC (X := X4) rfl (hw X4) rfl (cU rfl (eH (v := .i f) (aD rfl) (aW hS rfl) rfl)),
      fun X4 S hw hi hS => cC (X := X4) rfl (hw X4) rfl (cU rfl (eH (v := .i b) (aD rfl) (aW hS rfl) rfl)),
      fun X4 S hw hi hS => cC (X := X4) rfl (hw X4) rfl (cU rfl (qN (aD rfl) (aW hS rfl) (aW hS rfl) rfl)),
      fun X4 S hw hi hS => cC (X := X4) rfl (hw X4) rfl (cU rfl (eH (v := .d (.lit a)) (aD rfl) (aW hS rfl) rfl)),
      fun X4 S hw hi hS => cC (X := X4) rfl (hw X4) rfl (cU rfl (eH (v := .i f) (aD rfl) (aW hS rfl) rfl)),
      fun X4 S hw hi hS => cC (X := X4) rfl (hw X4) rfl (cU rfl (eH (v := .i b) (aD rfl) (aW hS rfl) rfl)),
      fun X4 S hw hi hS => cC (X := X4) rfl (hw X4) rfl (cU rfl (qN (aD rfl) (aW hS rfl) (aW hS rfl) rfl)),
      fun X4 S hw hi hS => cC (X := X4) rfl (hw X4) rfl (cU rfl (dM (m := 0) (aD rfl) (aW hS rfl) (og hS rfl rfl) (aW hS rfl) cR.of (aY aE h6))),
      fun X4 S hw hi hS => cC (X := X4) rfl (hw X4) rfl (cU rfl (eF (aD rfl) (aW hS rfl) (l := 0) (og hS rfl rfl) (dW aE h6) fV (es := (aE x5)) rfl rfl)),
      fun X4 S hw hi hS => cC (X := X4) rfl (hw X4) rfl (cU rfl (eH (v := .d (.lit a)) (aD rfl) (aW hS rfl) rfl)),
      fun X4 S hw hi hS => cC (X := X4) rfl (hw X4) rfl (cU rfl (eH (v := .i e) (aD rfl) (aW hS rfl) rfl)),
      fun X4 S hw hi hS => cC (X := X4) rfl (hw X4) rfl (cU rfl (eH (v := .i b) (aD rfl) (aW hS rfl) rfl)),
      fun X4 S hw hi hS => cC (X := X4) rfl (hw X4) rfl (cU rfl (qN (aD rfl) (aW hS rfl) (aW hS rfl) rfl)),
      fun X4 S hw hi hS => cC (X := X4) rfl (hw X4) rfl (cU rfl (dM (m := 0) (aD rfl) (aW hS rfl) (og hS rfl rfl) (aW hS rfl) cR.of (aY aE h8))),
      fun X4 S hw hi hS => cC (X := X4) rfl (hw X4) rfl (cU rfl (eF (aD rfl) (aW hS rfl) (l := 0) (og hS rfl rfl) (dW aE h8) fV (es := (aE x7)) rfl rfl)),
      fun X4 S hw hi hS => cC (X := X4) rfl (hw X4) rfl (cU rfl (dM (m := 0) (aD rfl) (aW hS rfl) (og hS rfl rfl) (aW hS rfl) cR.of (aY aE s))),
      fun X4 S hw hi hS => aFb (X := X4) hS rfl rfl rfl (p := 0) rfl rfl (cU rfl (lU (l := 0) (aW hS rfl) (og hS rfl rfl) (dW aE s) (aW hS rfl) rfl rfl Tryz.sizeOf76 rfl (aD rfl) (Nat.le_of_ble_eq_true rfl) (rows' := ((c.set (w64 (e + b)).toNat x5)).map aE) (tL _ _ _ _ rfl))), trivial⟩⟩
   · exact fun X4 => cF (aG rfl (aG rfl (aG rfl (aL ⟨rfl, rfl, rfl, rfl, rfl, trivial⟩))))
  ·intro X4;obtain ⟨y, t, h⟩ := bns h;refine to (dM (m := 0) (aD rfl) rfl rfl rfl cR.of (aY aE t)) ?_;refine to (lU (l := 0) rfl rfl (dW aE t) rfl rfl rfl Tryz.sizeOf76 rfl (aD rfl) (Nat.le_of_ble_eq_true rfl) (rows' := (((c.set (w64 (e + b)).toNat x5).set (w64 (f + b)).toNat x7)).map aE) (tL _ _ _ _ rfl)) ?_;refine cQ ?_;refine aA (tm (.i b) (to (sar rfl rfl rfl) (ta (.i (w64 (b + 1))) (aB ?_))));exact ⟨(w64 (b + 1), ((c.set (w64 (e + b)).toNat x5).set (w64 (f + b)).toNat x7)), h, aP [0] rfl rfl (aG rfl (aG rfl (aL ⟨rfl, rfl, rfl, trivial⟩)))⟩
 ·refine bP ?_;refine .inl ⟨rfl, ?_⟩;simp only [kS] at h;obtain rfl := sIn h;exact ⟨_, [.arr a 76 4 (c.map aE)], [], _, .none, .refl _, .same _, rfl, rfl⟩

theorem rI (o : List aH) (p : Int) (f : Int) (q : Int) (l : aH → aH → Option Int) {r : (List aH)} {b : Value} (c : Nat) (g : List AV) (m : ∀ args w, (callFunc c args).run Tryz.prog w = .ok (.enter c args) w) (n : ∀ (x0 : aH) (x1 : aH) r, l x0 x1 = some r → Fn Tryz.prog c ([.agg (aE x0), .agg (aE x1)] ++ g) (.i r)) (h : fW o p f q l = some r) : fY Tryz.prog 140 [.d (.lit b), .i p, .i f, .i q, .fn c g] [.arr b 76 4 (o.map aE)] (fun r' o' => r' = .tup [] ∧ o' = [.arr b 76 4 (r.map aE)]) := by
 unfold fW at h;refine uT Tryz.func140 rfl (rs := []) Tryz.results140 Tryz.ntmps140 (Nat.le_of_ble_eq_true rfl) ?_;refine aC (aA (tm (.i f) (tm (.i p) (to (sar rfl rfl rfl) (ta (.i (w64 (f - p))) (aB (aC (aA (tm (.i q) (tm (.i f) (to (sar rfl rfl rfl) (ta (.i (w64 (q - f))) (aB ?_)))))))))))));refine aC (bA ?_);refine bO (S := Int × Int × (List aH)) [2, 4] (fun s1 => [(0, .d (.lit b)), (10, .i s1.1), (11, .i s1.2.1)]) (fun s1 => [.arr b 76 4 (s1.2.2.map aE)]) (fun k s1 => dF f l k s1.1 s1.2.1 s1.2.2) (fun _ => rfl) (w64 (f - p), w64 (q - f), o) h (aP [0] rfl rfl (aG rfl (aG rfl (aG rfl (aL ⟨rfl, rfl, trivial⟩))))) ?_;rintro k2 ⟨a, e, j⟩ h;simp only [dF] at h;refine aC (aC (aA (tm (.i a) (tm (.i e) (to (scm rfl rfl rfl) (aB ?_))))));refine tih h (fun c3 h => ?_) (fun c3 h => ?_)
 ·refine aX (bA (aC (aA (tm (.i a) (tm (.i e) (to (scm rfl rfl rfl) (aB ?_)))))));refine tih h (fun c4 h => ?_) (fun c4 h => ?_)
  ·refine aC (aA (tm (.d (.lit b)) (tm (.i f) (tm (.i a) (to (sar rfl rfl rfl) (tm (.i f) (tm (.i e) (tm (.fn c g) ?_))))))));obtain ⟨r5, h6, h⟩ := bns h;refine bB rfl (eZ (passed := [.arr b 76 4 (j.map aE)]) (aD rfl) rfl (.func _ _ Tryz.call142) rfl rfl (lC j (w64 (f - a)) f e l c g m n h6)) ?_;rintro _ ⟨_, _, ⟨rfl, rfl⟩, rfl⟩;refine aB (aA (tm (.i a) (tm (.i e) (to (sar rfl rfl rfl) (ta (.i (w64 (a - e))) ?_)))));refine cQ ?_;exact ⟨(w64 (a - e), e, r5), h, aP [0] rfl rfl (aG rfl (aG rfl (aG rfl (aL ⟨rfl, rfl, trivial⟩))))⟩
  ·refine aC (aA (tm (.d (.lit b)) (tm (.i f) (tm (.i a) (to (sar rfl rfl rfl) (tm (.i f) (tm (.i e) (to (sar rfl rfl rfl) (tm (.i a) (to (sar rfl rfl rfl) (tm (.i a) (tm (.fn c g) ?_))))))))))));obtain ⟨r7, h8, h⟩ := bns h;refine bB rfl (eZ (passed := [.arr b 76 4 (j.map aE)]) (aD rfl) rfl (.func _ _ Tryz.call142) rfl rfl (lC j (w64 (f - a)) (w64 ((w64 (f + e)) - a)) a l c g m n h8)) ?_;rintro _ ⟨_, _, ⟨rfl, rfl⟩, rfl⟩;refine aB (aA (tm (.i e) (tm (.i a) (to (sar rfl rfl rfl) (ta (.i (w64 (e - a))) ?_)))));refine cQ ?_;exact ⟨(a, w64 (e - a), r7), h, aP [0] rfl rfl (aG rfl (aG rfl (aG rfl (aL ⟨rfl, rfl, trivial⟩))))⟩
 ·refine bP ?_;refine .inl ⟨rfl, ?_⟩;simp only [mB] at h;refine aA (tm (.d (.lit b)) (tm (.i f) (tm (.i a) (to (sar rfl rfl rfl) (tm (.i f) (tm (.i a) (tm (.fn c g) ?_)))))));obtain ⟨r9, s, h⟩ := bns h;refine bB rfl (eZ (passed := [.arr b 76 4 (j.map aE)]) (aD rfl) rfl (.func _ _ Tryz.call142) rfl rfl (lC j (w64 (f - a)) f a l c g m n s)) ?_;rintro _ ⟨_, _, ⟨rfl, rfl⟩, rfl⟩;refine aB ?_;obtain rfl := sIn h;exact ⟨_, [.arr b 76 4 (r9.map aE)], [], _, .none, .refl _, .same _, rfl, rfl⟩

theorem wW (E : aH → aH → Option Int) (n : Nat) (o : List AV) (I : ∀ args w, (callFunc n args).run Tryz.prog w = .ok (.enter n args) w) (J : ∀ (x0 : aH) (x1 : aH) r, E x0 x1 = some r → Fn Tryz.prog n ([.agg (aE x0), .agg (aE x1)] ++ o) (.i r)) (kr : Nat) : ∀ (q : List aH) (g : Int) (j : Int) (f : Int) {r : (List aH)} {a : Value} (_h : bJ E kr q g j f = some r), fY Tryz.prog 133 [.d (.lit a), .i g, .i j, .i f, .fn n o] [.arr a 76 4 (q.map aE)] (fun r' o' => r' = .tup [] ∧ o' = [.arr a 76 4 (r.map aE)]) := by
  induction kr with
  | zero => intros; rename_i h; cases h
  | succ kr ih =>
    intro q g j f r a h;simp only [bJ] at h;refine uT Tryz.func133 rfl (rs := []) Tryz.results133 Tryz.ntmps133 (Nat.le_of_ble_eq_true rfl) ?_;refine aC (aC (aA (tm (.i j) (tm (.i g) (to (sar rfl rfl rfl) (to (scm rfl rfl rfl) (aB ?_)))))));refine tih h (fun c1 h => ?_) (fun c1 h => ?_)
    ·refine aC (aA (tm (.i j) (ta (.i j) (aB (aC (aA (tm (.i f) (ta (.i f) (aB (aC (bA ?_)))))))))));refine bO (S := Int × Int) [0, 1, 4] (fun s2 => [(10, .i s2.1), (11, .i s2.2)]) (fun s2 => [.arr a 76 4 (q.map aE)]) (fun k s2 => cW (bJ E kr) g E q k s2.1 s2.2) (fun _ => rfl) (j, f) h (aP [0] rfl rfl (aG rfl (aG rfl (aL ⟨rfl, rfl, rfl, trivial⟩)))) ?_;rintro k3 ⟨C, H⟩ h;simp only [cW] at h;refine aC (aC (aA (tm (.i C) (tm (.i H) (to (scm rfl rfl rfl) (aB ?_))))));refine tih h (fun c4 h => ?_) (fun c4 h => ?_)
     ·refine aX (bA (aC (aA (tm (.i C) (tm (.i H) (to (sar rfl rfl rfl) (to (nO (aD rfl) rfl Tryz.runUnderlying3 Tryz.runUnderlying113) ?_)))))));refine to (wQ (aD rfl) rfl rfl (by decide)) ?_;refine to (nO (aD rfl) rfl Tryz.runUnderlying113 Tryz.runUnderlying3) ?_;refine ta (.i (w64 ((uw (w64 (C + H))).fdiv (2 ^ (min (1 : Int).toNat 64))))) (aB (aC ?_));obtain ⟨x5, h6, h⟩ := bns h;obtain ⟨x7, h8, h⟩ := bns h;refine cL mix 9 [0, 1, 4, 10, 11, 12] [(40, .fn n o), (44, .agg (aE x5)), (48, .agg (aE x7))] ?_ ?_
      ·refine ⟨[(40, 0, .fn n o), (41, 1, .d (.lit a)), (42, 2, .i (w64 ((uw (w64 (C + H))).fdiv (2 ^ (min (1 : Int).toNat 64))))), (43, 3, .ep a 4 (w64 ((uw (w64 (C + H))).fdiv (2 ^ (min (1 : Int).toNat 64)))).toNat 0), (44, 4, .agg (aE x5)), (45, 5, .d (.lit a)), (46, 6, .i g), (47, 7, .ep a 4 g.toNat 0), (48, 8, .agg (aE x7))], ?_, ?_⟩
       · exact dok [([], []), ([], []), ([], []), ([1, 2], []), ([3], []), ([], []), ([], []), ([5, 6], []), ([7], [])] ⟨go (zm (.fn n o)),
      go (zm (.d (.lit a))),
      go (zm (.i (w64 ((uw (w64 (C + H))).fdiv (2 ^ (min (1 : Int).toNat 64)))))),
      go (zia 0 rfl rfl rfl cR.of (aY aE h6)),
      go fun S hS => eF (aD rfl) (aW hS rfl) (l := 0) rfl (dW aE h6) fV (es := (aE x5)) rfl rfl,
      go (zm (.d (.lit a))),
      go (zm (.i g)),
      go (zia 0 rfl rfl rfl cR.of (aY aE h8)),
      go fun S hS => eF (aD rfl) (aW hS rfl) (l := 0) rfl (dW aE h8) fV (es := (aE x7)) rfl rfl, trivial⟩
       · exact cF (aG rfl (aG rfl (aG rfl (aL ⟨rfl, rfl, rfl, rfl, rfl, rfl, trivial⟩))))
      ·obtain ⟨r9, i2, h⟩ := bns h;refine to (fP (aD rfl) (.clo _ _ _ _ I rfl) (aCo rfl) rfl (BVs.refl _ _) (J _ _ _  i2) rfl) ?_;refine to (scm rfl rfl rfl) (aB ?_);refine tih h (fun i3 h => ?_) (fun i3 h => ?_)
       ·refine aA (tm (.i (w64 ((uw (w64 (C + H))).fdiv (2 ^ (min (1 : Int).toNat 64))))) (to (sar rfl rfl rfl) (ta (.i (w64 ((w64 ((uw (w64 (C + H))).fdiv (2 ^ (min (1 : Int).toNat 64)))) + 1))) ?_)));refine cQ ?_;exact ⟨(w64 ((w64 ((uw (w64 (C + H))).fdiv (2 ^ (min (1 : Int).toNat 64)))) + 1), H), h, aP [0] rfl rfl (aG rfl (aG rfl (aL ⟨rfl, rfl, rfl, trivial⟩)))⟩
       ·refine aA (tm (.i (w64 ((uw (w64 (C + H))).fdiv (2 ^ (min (1 : Int).toNat 64))))) (ta (.i (w64 ((uw (w64 (C + H))).fdiv (2 ^ (min (1 : Int).toNat 64))))) ?_));refine cQ ?_;exact ⟨(C, w64 ((uw (w64 (C + H))).fdiv (2 ^ (min (1 : Int).toNat 64)))), h, aP [0] rfl rfl (aG rfl (aG rfl (aL ⟨rfl, rfl, rfl, trivial⟩)))⟩
     ·refine bP ?_;refine .inl ⟨rfl, ?_⟩;simp only [iO] at h;refine aC (aC (aA (tm (.i g) (ta (.i g) (aB (bA ?_))))));refine bO (S := Int × (List aH)) [10] (fun b2 => [(0, .d (.lit a)), (13, .i b2.1)]) (fun b2 => [.arr a 76 4 (b2.2.map aE)]) (fun k b2 => eD (bJ E kr) C k b2.1 b2.2) (fun _ => rfl) (g, q) h (aP [0] rfl rfl (aG rfl (aG rfl (aL ⟨rfl, trivial⟩)))) ?_;rintro m2 ⟨u, F⟩ h;simp only [eD] at h;refine aC (aC (aA (tm (.i u) (tm (.i C) (to (sar rfl rfl rfl) (to (scm rfl rfl rfl) (aB ?_)))))));refine tih h (fun i4 h => ?_) (fun i4 h => ?_)
      ·refine aX (aC (bA ?_));obtain ⟨a2, e0, h⟩ := bns h;obtain ⟨b6, e1, h⟩ := bns h;obtain ⟨m3, e2, h⟩ := bns h;refine wI mix 16 [0, 10, 13] (fun s => [(63, .d (.lit a)), (65, .i (w64 (u + 1))), (74, .agg (aE b6))]) (fun s => [.arr a 76 4 ((F.set u.toNat a2).map aE)]) ?_ ?_
       ·refine ⟨0, fun s => [(61, 0, .d (.lit a)), (62, 1, .i u), (63, 2, .d (.lit a)), (64, 3, .i u), (65, 4, .i (w64 (u + 1))), (66, 5, .d (.lit a)), (67, 6, .i u), (68, 7, .i (w64 (u + 1))), (69, 8, .ep a 4 (w64 (u + 1)).toNat 0), (70, 9, .agg (aE a2)), (71, 10, .d (.lit a)), (72, 11, .i u), (73, 12, .ep a 4 u.toNat 0), (74, 13, .agg (aE b6)), (75, 14, .ep a 4 u.toNat 0)], fun s => [([(15, .arr a 76 4 ((F.set u.toNat a2).map aE))], .arr a 76 4 (F.map aE))], ?_, ?_⟩
        · exact ⟨by kernel_rfl, by kernel_rfl, by kernel_rfl, fun _ => by kernel_rfl, fun _ => by kernel_rfl, fun _ => by kernel_rfl, fun _ => rfl, [([], [15]), ([], [15]), ([], []), ([], []), ([3], []), ([], [15]), ([], [15]), ([6], [15]), ([5, 7], [15]), ([8], [15]), ([], [15]), ([], [15]), ([10, 11], [15]), ([12], [15]), ([0, 1], [15]), ([9, 14], [])], by kernel_rfl, ⟨fun s S hw hi hS => cC (X := s) rfl (hw s) rfl (cU rfl (eH (v := .d (.lit a)) (aD rfl) (aW hS rfl) rfl)),
      fun s S hw hi hS => cC (X := s) rfl (hw s) rfl (cU rfl (eH (v := .i u) (aD rfl) (aW hS rfl) rfl)),
      fun s S hw hi hS => cC (X := s) rfl (hw s) rfl (cU rfl (eH (v := .d (.lit a)) (aD rfl) (aW hS rfl) rfl)),
      fun s S hw hi hS => cC (X := s) rfl (hw s) rfl (cU rfl (eH (v := .i u) (aD rfl) (aW hS rfl) rfl)),
      fun s S hw hi hS => cC (X := s) rfl (hw s) rfl (cU rfl (qN (aD rfl) (aW hS rfl) rfl rfl)),
      fun s S hw hi hS => cC (X := s) rfl (hw s) rfl (cU rfl (eH (v := .d (.lit a)) (aD rfl) (aW hS rfl) rfl)),
      fun s S hw hi hS => cC (X := s) rfl (hw s) rfl (cU rfl (eH (v := .i u) (aD rfl) (aW hS rfl) rfl)),
      fun s S hw hi hS => cC (X := s) rfl (hw s) rfl (cU rfl (qN (aD rfl) (aW hS rfl) rfl rfl)),
      fun s S hw hi hS => cC (X := s) rfl (hw s) rfl (cU rfl (dM (m := 0) (aD rfl) (aW hS rfl) (og hS rfl rfl) (aW hS rfl) cR.of (aY aE e0))),
      fun s S hw hi hS => cC (X := s) rfl (hw s) rfl (cU rfl (eF (aD rfl) (aW hS rfl) (l := 0) (og hS rfl rfl) (dW aE e0) fV (es := (aE a2)) rfl rfl)),
      fun s S hw hi hS => cC (X := s) rfl (hw s) rfl (cU rfl (eH (v := .d (.lit a)) (aD rfl) (aW hS rfl) rfl)),
      fun s S hw hi hS => cC (X := s) rfl (hw s) rfl (cU rfl (eH (v := .i u) (aD rfl) (aW hS rfl) rfl)),
      fun s S hw hi hS => cC (X := s) rfl (hw s) rfl (cU rfl (dM (m := 0) (aD rfl) (aW hS rfl) (og hS rfl rfl) (aW hS rfl) cR.of (aY aE e1))),
      fun s S hw hi hS => cC (X := s) rfl (hw s) rfl (cU rfl (eF (aD rfl) (aW hS rfl) (l := 0) (og hS rfl rfl) (dW aE e1) fV (es := (aE b6)) rfl rfl)),
      fun s S hw hi hS => cC (X := s) rfl (hw s) rfl (cU rfl (dM (m := 0) (aD rfl) (aW hS rfl) (og hS rfl rfl) (aW hS rfl) cR.of (aY aE e2))),
      fun s S hw hi hS => aFb (X := s) hS rfl rfl rfl (p := 0) rfl rfl (cU rfl (lU (l := 0) (aW hS rfl) (og hS rfl rfl) (dW aE e2) (aW hS rfl) rfl rfl Tryz.sizeOf76 rfl (aD rfl) (Nat.le_of_ble_eq_true rfl) (rows' := ((F.set u.toNat a2)).map aE) (tL _ _ _ _ rfl))), trivial⟩⟩
        · exact fun s => cF (aG rfl (aG rfl (aG rfl (aL ⟨rfl, rfl, rfl, trivial⟩))))
       ·intro s;obtain ⟨m4, e3, h⟩ := bns h;refine to (dM (m := 0) (aD rfl) rfl rfl rfl cR.of (aY aE e3)) ?_;refine to (lU (l := 0) rfl rfl (dW aE e3) rfl rfl rfl Tryz.sizeOf76 rfl (aD rfl) (Nat.le_of_ble_eq_true rfl) (rows' := (((F.set u.toNat a2).set (w64 (u + 1)).toNat b6)).map aE) (tL _ _ _ _ rfl)) ?_;refine cQ ?_;refine aA (tm (.i u) (to (sar rfl rfl rfl) (ta (.i (w64 (u + 1))) (aB ?_))));exact ⟨(w64 (u + 1), ((F.set u.toNat a2).set (w64 (u + 1)).toNat b6)), h, aP [0] rfl rfl (aG rfl (aG rfl (aL ⟨rfl, trivial⟩)))⟩
      ·refine bP ?_;refine .inl ⟨rfl, ?_⟩;simp only [lD] at h;obtain rfl := sIn h;exact aZ ⟨rfl, _, [.arr a 76 4 (F.map aE)], [], _, .none, .refl _, .same _, rfl, rfl⟩
    ·refine aX (aC (aC (aA (tm (.i f) (tm (.i j) (to (sar rfl rfl rfl) (to (scm rfl rfl rfl) (aB ?_))))))));refine tih h (fun i5 h => ?_) (fun i5 h => ?_)
     ·refine aC (aA (tm (.i g) (ta (.i g) (aB (aC (aA (tm (.i j) (ta (.i j) (aB (aC (bA ?_)))))))))));refine bO (S := Int × Int) [0, 2, 4] (fun b3 => [(14, .i b3.1), (15, .i b3.2)]) (fun b3 => [.arr a 76 4 (q.map aE)]) (fun k b3 => cX (bJ E kr) j E q k b3.1 b3.2) (fun _ => rfl) (g, j) h (aP [0] rfl rfl (aG rfl (aG rfl (aL ⟨rfl, rfl, rfl, trivial⟩)))) ?_;rintro m5 ⟨A, B⟩ h;simp only [cX] at h;refine aC (aC (aA (tm (.i A) (tm (.i B) (to (scm rfl rfl rfl) (aB ?_))))));refine tih h (fun i6 h => ?_) (fun i6 h => ?_)
      ·refine aX (bA (aC (aA (tm (.i A) (tm (.i B) (to (sar rfl rfl rfl) (to (nO (aD rfl) rfl Tryz.runUnderlying3 Tryz.runUnderlying113) ?_)))))));refine to (wQ (aD rfl) rfl rfl (by decide)) ?_;refine to (nO (aD rfl) rfl Tryz.runUnderlying113 Tryz.runUnderlying3) ?_;refine ta (.i (w64 ((uw (w64 (A + B))).fdiv (2 ^ (min (1 : Int).toNat 64))))) (aB (aC ?_));obtain ⟨d2, e4, h⟩ := bns h;obtain ⟨d3, e5, h⟩ := bns h;refine cL mix 9 [0, 2, 4, 14, 15, 16] [(92, .fn n o), (96, .agg (aE d2)), (100, .agg (aE d3))] ?_ ?_
       ·refine ⟨[(92, 0, .fn n o), (93, 1, .d (.lit a)), (94, 2, .i j), (95, 3, .ep a 4 j.toNat 0), (96, 4, .agg (aE d2)), (97, 5, .d (.lit a)), (98, 6, .i (w64 ((uw (w64 (A + B))).fdiv (2 ^ (min (1 : Int).toNat 64))))), (99, 7, .ep a 4 (w64 ((uw (w64 (A + B))).fdiv (2 ^ (min (1 : Int).toNat 64)))).toNat 0), (100, 8, .agg (aE d3))], ?_, ?_⟩
        · exact dok [([], []), ([], []), ([], []), ([1, 2], []), ([3], []), ([], []), ([], []), ([5, 6], []), ([7], [])] ⟨go (zm (.fn n o)),
      go (zm (.d (.lit a))),
      go (zm (.i j)),
      go (zia 0 rfl rfl rfl cR.of (aY aE e4)),
      go fun S hS => eF (aD rfl) (aW hS rfl) (l := 0) rfl (dW aE e4) fV (es := (aE d2)) rfl rfl,
      go (zm (.d (.lit a))),
      go (zm (.i (w64 ((uw (w64 (A + B))).fdiv (2 ^ (min (1 : Int).toNat 64)))))),
      go (zia 0 rfl rfl rfl cR.of (aY aE e5)),
      go fun S hS => eF (aD rfl) (aW hS rfl) (l := 0) rfl (dW aE e5) fV (es := (aE d3)) rfl rfl, trivial⟩
        · exact cF (aG rfl (aG rfl (aG rfl (aL ⟨rfl, rfl, rfl, rfl, rfl, rfl, trivial⟩))))
       ·obtain ⟨m6, i7, h⟩ := bns h;refine to (fP (aD rfl) (.clo _ _ _ _ I rfl) (aCo rfl) rfl (BVs.refl _ _) (J _ _ _  i7) rfl) ?_;refine to (scm rfl rfl rfl) (to (sn rfl) (aB ?_));refine tih h (fun i8 h => ?_) (fun i8 h => ?_)
        ·refine aA (tm (.i (w64 ((uw (w64 (A + B))).fdiv (2 ^ (min (1 : Int).toNat 64))))) (to (sar rfl rfl rfl) (ta (.i (w64 ((w64 ((uw (w64 (A + B))).fdiv (2 ^ (min (1 : Int).toNat 64)))) + 1))) ?_)));refine cQ ?_;exact ⟨(w64 ((w64 ((uw (w64 (A + B))).fdiv (2 ^ (min (1 : Int).toNat 64)))) + 1), B), h, aP [0] rfl rfl (aG rfl (aG rfl (aL ⟨rfl, rfl, rfl, trivial⟩)))⟩
        ·refine aA (tm (.i (w64 ((uw (w64 (A + B))).fdiv (2 ^ (min (1 : Int).toNat 64))))) (ta (.i (w64 ((uw (w64 (A + B))).fdiv (2 ^ (min (1 : Int).toNat 64))))) ?_));refine cQ ?_;exact ⟨(A, w64 ((uw (w64 (A + B))).fdiv (2 ^ (min (1 : Int).toNat 64)))), h, aP [0] rfl rfl (aG rfl (aG rfl (aL ⟨rfl, rfl, rfl, trivial⟩)))⟩
      ·refine bP ?_;refine .inl ⟨rfl, ?_⟩;simp only [iP] at h;refine aC (aC (aA (tm (.i j) (ta (.i j) (aB (bA ?_))))));refine bO (S := Int × (List aH)) [14] (fun b4 => [(0, .d (.lit a)), (17, .i b4.1)]) (fun b4 => [.arr a 76 4 (b4.2.map aE)]) (fun k b4 => eE (bJ E kr) A k b4.1 b4.2) (fun _ => rfl) (j, q) h (aP [0] rfl rfl (aG rfl (aG rfl (aL ⟨rfl, trivial⟩)))) ?_;rintro m7 ⟨x, G⟩ h;simp only [eE] at h;refine aC (aC (aA (tm (.i x) (tm (.i A) (to (scm rfl rfl rfl) (aB ?_))))));refine tih h (fun i9 h => ?_) (fun i9 h => ?_)
       ·refine aX (aC (bA ?_));obtain ⟨a3, e6, h⟩ := bns h;obtain ⟨b7, e7, h⟩ := bns h;obtain ⟨m8, e8, h⟩ := bns h;refine wI mix 16 [0, 14, 17] (fun t => [(115, .d (.lit a)), (117, .i (w64 (x - 1))), (126, .agg (aE b7))]) (fun t => [.arr a 76 4 ((G.set x.toNat a3).map aE)]) ?_ ?_
        ·refine ⟨0, fun t => [(113, 0, .d (.lit a)), (114, 1, .i x), (115, 2, .d (.lit a)), (116, 3, .i x), (117, 4, .i (w64 (x - 1))), (118, 5, .d (.lit a)), (119, 6, .i x), (120, 7, .i (w64 (x - 1))), (121, 8, .ep a 4 (w64 (x - 1)).toNat 0), (122, 9, .agg (aE a3)), (123, 10, .d (.lit a)), (124, 11, .i x), (125, 12, .ep a 4 x.toNat 0), (126, 13, .agg (aE b7)), (127, 14, .ep a 4 x.toNat 0)], fun t => [([(15, .arr a 76 4 ((G.set x.toNat a3).map aE))], .arr a 76 4 (G.map aE))], ?_, ?_⟩
         · exact ⟨by kernel_rfl, by kernel_rfl, by kernel_rfl, fun _ => by kernel_rfl, fun _ => by kernel_rfl, fun _ => by kernel_rfl, fun _ => rfl, [([], [15]), ([], [15]), ([], []), ([], []), ([3], []), ([], [15]), ([], [15]), ([6], [15]), ([5, 7], [15]), ([8], [15]), ([], [15]), ([], [15]), ([10, 11], [15]), ([12], [15]), ([0, 1], [15]), ([9, 14], [])], by kernel_rfl, ⟨fun t S hw hi hS => cC (X := t) rfl (hw t) rfl (cU rfl (eH (v := .d (.lit a)) (aD rfl) (aW hS rfl) rfl)),
      fun t S hw hi hS => cC (X := t) rfl (hw t) rfl (cU rfl (eH (v := .i x) (aD rfl) (aW hS rfl) rfl)),
      fun t S hw hi hS => cC (X := t) rfl (hw t) rfl (cU rfl (eH (v := .d (.lit a)) (aD rfl) (aW hS rfl) rfl)),
      fun t S hw hi hS => cC (X := t) rfl (hw t) rfl (cU rfl (eH (v := .i x) (aD rfl) (aW hS rfl) rfl)),
      fun t S hw hi hS => cC (X := t) rfl (hw t) rfl (cU rfl (qN (aD rfl) (aW hS rfl) rfl rfl)),
      fun t S hw hi hS => cC (X := t) rfl (hw t) rfl (cU rfl (eH (v := .d (.lit a)) (aD rfl) (aW hS rfl) rfl)),
      fun t S hw hi hS => cC (X := t) rfl (hw t) rfl (cU rfl (eH (v := .i x) (aD rfl) (aW hS rfl) rfl)),
      fun t S hw hi hS => cC (X := t) rfl (hw t) rfl (cU rfl (qN (aD rfl) (aW hS rfl) rfl rfl)),
      fun t S hw hi hS => cC (X := t) rfl (hw t) rfl (cU rfl (dM (m := 0) (aD rfl) (aW hS rfl) (og hS rfl rfl) (aW hS rfl) cR.of (aY aE e6))),
      fun t S hw hi hS => cC (X := t) rfl (hw t) rfl (cU rfl (eF (aD rfl) (aW hS rfl) (l := 0) (og hS rfl rfl) (dW aE e6) fV (es := (aE a3)) rfl rfl)),
      fun t S hw hi hS => cC (X := t) rfl (hw t) rfl (cU rfl (eH (v := .d (.lit a)) (aD rfl) (aW hS rfl) rfl)),
      fun t S hw hi hS => cC (X := t) rfl (hw t) rfl (cU rfl (eH (v := .i x) (aD rfl) (aW hS rfl) rfl)),
      fun t S hw hi hS => cC (X := t) rfl (hw t) rfl (cU rfl (dM (m := 0) (aD rfl) (aW hS rfl) (og hS rfl rfl) (aW hS rfl) cR.of (aY aE e7))),
      fun t S hw hi hS => cC (X := t) rfl (hw t) rfl (cU rfl (eF (aD rfl) (aW hS rfl) (l := 0) (og hS rfl rfl) (dW aE e7) fV (es := (aE b7)) rfl rfl)),
      fun t S hw hi hS => cC (X := t) rfl (hw t) rfl (cU rfl (dM (m := 0) (aD rfl) (aW hS rfl) (og hS rfl rfl) (aW hS rfl) cR.of (aY aE e8))),
      fun t S hw hi hS => aFb (X := t) hS rfl rfl rfl (p := 0) rfl rfl (cU rfl (lU (l := 0) (aW hS rfl) (og hS rfl rfl) (dW aE e8) (aW hS rfl) rfl rfl Tryz.sizeOf76 rfl (aD rfl) (Nat.le_of_ble_eq_true rfl) (rows' := ((G.set x.toNat a3)).map aE) (tL _ _ _ _ rfl))), trivial⟩⟩
         · exact fun t => cF (aG rfl (aG rfl (aG rfl (aL ⟨rfl, rfl, rfl, trivial⟩))))
        ·intro t;obtain ⟨m9, e9, h⟩ := bns h;refine to (dM (m := 0) (aD rfl) rfl rfl rfl cR.of (aY aE e9)) ?_;refine to (lU (l := 0) rfl rfl (dW aE e9) rfl rfl rfl Tryz.sizeOf76 rfl (aD rfl) (Nat.le_of_ble_eq_true rfl) (rows' := (((G.set x.toNat a3).set (w64 (x - 1)).toNat b7)).map aE) (tL _ _ _ _ rfl)) ?_;refine cQ ?_;refine aA (tm (.i x) (to (sar rfl rfl rfl) (ta (.i (w64 (x - 1))) (aB ?_))));exact ⟨(w64 (x - 1), ((G.set x.toNat a3).set (w64 (x - 1)).toNat b7)), h, aP [0] rfl rfl (aG rfl (aG rfl (aL ⟨rfl, trivial⟩)))⟩
       ·refine bP ?_;refine .inl ⟨rfl, ?_⟩;simp only [lE] at h;obtain rfl := sIn h;exact aZ ⟨rfl, _, [.arr a 76 4 (G.map aE)], [], _, .none, .refl _, .same _, rfl, rfl⟩
     ·refine aX (aC (aA (tm (.i g) (tm (.i f) (to (sar rfl rfl rfl) (to (nO (aD rfl) rfl Tryz.runUnderlying3 Tryz.runUnderlying113) ?_))))));refine to (wQ (aD rfl) rfl rfl (by decide)) ?_;refine to (nO (aD rfl) rfl Tryz.runUnderlying113 Tryz.runUnderlying3) ?_;refine ta (.i (w64 ((uw (w64 (g + f))).fdiv (2 ^ (min (1 : Int).toNat 64))))) (aB (aC (aA (tm (.i (w64 ((uw (w64 (g + f))).fdiv (2 ^ (min (1 : Int).toNat 64))))) (tm (.i j) (to (sar rfl rfl rfl) (ta (.i (w64 ((w64 ((uw (w64 (g + f))).fdiv (2 ^ (min (1 : Int).toNat 64)))) + j))) (aB (aC (aA (ta (.i 0) (ta (.i 0) (aB ?_)))))))))))));refine aC (aC (aA (tm (.i j) (tm (.i (w64 ((uw (w64 (g + f))).fdiv (2 ^ (min (1 : Int).toNat 64))))) (to (scm rfl rfl rfl) (aB ?_))))));refine tih h (fun j0 h => ?_) (fun j0 h => ?_)
      ·refine aC (aA (tm (.i (w64 ((w64 ((uw (w64 (g + f))).fdiv (2 ^ (min (1 : Int).toNat 64)))) + j))) (tm (.i f) (to (sar rfl rfl rfl) (ta (.i (w64 ((w64 ((w64 ((uw (w64 (g + f))).fdiv (2 ^ (min (1 : Int).toNat 64)))) + j)) - f))) (aB (aA (tm (.i (w64 ((uw (w64 (g + f))).fdiv (2 ^ (min (1 : Int).toNat 64))))) (ta (.i (w64 ((uw (w64 (g + f))).fdiv (2 ^ (min (1 : Int).toNat 64))))) (aB (aC (aA (tm (.i (w64 ((w64 ((uw (w64 (g + f))).fdiv (2 ^ (min (1 : Int).toNat 64)))) + j))) ?_)))))))))))));refine to (sar rfl rfl rfl) (ta (.i (w64 ((w64 ((w64 ((uw (w64 (g + f))).fdiv (2 ^ (min (1 : Int).toNat 64)))) + j)) - 1))) (aB (aC (bA ?_))));refine bO (S := Int × Int) [0, 1, 2, 3, 4, 18, 19, 22] (fun b5 => [(20, .i b5.1), (21, .i b5.2)]) (fun b5 => [.arr a 76 4 (q.map aE)]) (fun k b5 => cJ (bJ E kr) g j f E (w64 ((uw (w64 (g + f))).fdiv (2 ^ (min (1 : Int).toNat 64)))) (w64 ((w64 ((uw (w64 (g + f))).fdiv (2 ^ (min (1 : Int).toNat 64)))) + j)) (w64 ((w64 ((w64 ((uw (w64 (g + f))).fdiv (2 ^ (min (1 : Int).toNat 64)))) + j)) - 1)) q k b5.1 b5.2) (fun _ => rfl) (w64 ((w64 ((w64 ((uw (w64 (g + f))).fdiv (2 ^ (min (1 : Int).toNat 64)))) + j)) - f), w64 ((uw (w64 (g + f))).fdiv (2 ^ (min (1 : Int).toNat 64)))) h (aP [0] rfl rfl (aG rfl (aG rfl (aL ⟨rfl, rfl, rfl, rfl, rfl, rfl, rfl, rfl, trivial⟩)))) ?_;rintro n0 ⟨e, z⟩ h;simp only [cJ] at h;refine aC (aC (aA (tm (.i e) (tm (.i z) (to (scm rfl rfl rfl) (aB ?_))))));refine tih h (fun j1 h => ?_) (fun j1 h => ?_)
       ·refine aX (bA (aC (aA (tm (.i e) (tm (.i z) (to (sar rfl rfl rfl) (to (nO (aD rfl) rfl Tryz.runUnderlying3 Tryz.runUnderlying113) ?_)))))));refine to (wQ (aD rfl) rfl rfl (by decide)) ?_;refine to (nO (aD rfl) rfl Tryz.runUnderlying113 Tryz.runUnderlying3) ?_;refine ta (.i (w64 ((uw (w64 (e + z))).fdiv (2 ^ (min (1 : Int).toNat 64))))) (aB (aC ?_));obtain ⟨d4, f0, h⟩ := bns h;obtain ⟨d5, f1, h⟩ := bns h;refine cL mix 11 [0, 1, 2, 3, 4, 18, 19, 20, 21, 22, 23] [(158, .fn n o), (164, .agg (aE d4)), (168, .agg (aE d5))] ?_ ?_
        ·refine ⟨[(158, 0, .fn n o), (159, 1, .d (.lit a)), (160, 2, .i (w64 ((w64 ((w64 ((uw (w64 (g + f))).fdiv (2 ^ (min (1 : Int).toNat 64)))) + j)) - 1))), (161, 3, .i (w64 ((uw (w64 (e + z))).fdiv (2 ^ (min (1 : Int).toNat 64))))), (162, 4, .i (w64 ((w64 ((w64 ((w64 ((uw (w64 (g + f))).fdiv (2 ^ (min (1 : Int).toNat 64)))) + j)) - 1)) - (w64 ((uw (w64 (e + z))).fdiv (2 ^ (min (1 : Int).toNat 64))))))), (163, 5, .ep a 4 (w64 ((w64 ((w64 ((w64 ((uw (w64 (g + f))).fdiv (2 ^ (min (1 : Int).toNat 64)))) + j)) - 1)) - (w64 ((uw (w64 (e + z))).fdiv (2 ^ (min (1 : Int).toNat 64)))))).toNat 0), (164, 6, .agg (aE d4)), (165, 7, .d (.lit a)), (166, 8, .i (w64 ((uw (w64 (e + z))).fdiv (2 ^ (min (1 : Int).toNat 64))))), (167, 9, .ep a 4 (w64 ((uw (w64 (e + z))).fdiv (2 ^ (min (1 : Int).toNat 64)))).toNat 0), (168, 10, .agg (aE d5))], ?_, ?_⟩
         · exact dok [([], []), ([], []), ([], []), ([], []), ([2, 3], []), ([1, 4], []), ([5], []), ([], []), ([], []), ([7, 8], []), ([9], [])] ⟨go (zm (.fn n o)),
      go (zm (.d (.lit a))),
      go (zm (.i (w64 ((w64 ((w64 ((uw (w64 (g + f))).fdiv (2 ^ (min (1 : Int).toNat 64)))) + j)) - 1)))),
      go (zm (.i (w64 ((uw (w64 (e + z))).fdiv (2 ^ (min (1 : Int).toNat 64)))))),
      go (zar rfl rfl rfl),
      go (zia 0 rfl rfl rfl cR.of (aY aE f0)),
      go fun S hS => eF (aD rfl) (aW hS rfl) (l := 0) rfl (dW aE f0) fV (es := (aE d4)) rfl rfl,
      go (zm (.d (.lit a))),
      go (zm (.i (w64 ((uw (w64 (e + z))).fdiv (2 ^ (min (1 : Int).toNat 64)))))),
      go (zia 0 rfl rfl rfl cR.of (aY aE f1)),
      go fun S hS => eF (aD rfl) (aW hS rfl) (l := 0) rfl (dW aE f1) fV (es := (aE d5)) rfl rfl, trivial⟩
         · exact cF (aG rfl (aG rfl (aG rfl (aL ⟨rfl, rfl, rfl, rfl, rfl, rfl, rfl, rfl, rfl, rfl, rfl, trivial⟩))))
        ·obtain ⟨n1, j2, h⟩ := bns h;refine to (fP (aD rfl) (.clo _ _ _ _ I rfl) (aCo rfl) rfl (BVs.refl _ _) (J _ _ _  j2) rfl) ?_;refine to (scm rfl rfl rfl) (to (sn rfl) (aB ?_));refine tih h (fun j3 h => ?_) (fun j3 h => ?_)
         ·refine aA (tm (.i (w64 ((uw (w64 (e + z))).fdiv (2 ^ (min (1 : Int).toNat 64))))) (to (sar rfl rfl rfl) (ta (.i (w64 ((w64 ((uw (w64 (e + z))).fdiv (2 ^ (min (1 : Int).toNat 64)))) + 1))) ?_)));refine cQ ?_;exact ⟨(w64 ((w64 ((uw (w64 (e + z))).fdiv (2 ^ (min (1 : Int).toNat 64)))) + 1), z), h, aP [0] rfl rfl (aG rfl (aG rfl (aL ⟨rfl, rfl, rfl, rfl, rfl, rfl, rfl, rfl, trivial⟩)))⟩
         ·refine aA (tm (.i (w64 ((uw (w64 (e + z))).fdiv (2 ^ (min (1 : Int).toNat 64))))) (ta (.i (w64 ((uw (w64 (e + z))).fdiv (2 ^ (min (1 : Int).toNat 64))))) ?_));refine cQ ?_;exact ⟨(e, w64 ((uw (w64 (e + z))).fdiv (2 ^ (min (1 : Int).toNat 64)))), h, aP [0] rfl rfl (aG rfl (aG rfl (aL ⟨rfl, rfl, rfl, rfl, rfl, rfl, rfl, rfl, trivial⟩)))⟩
       ·refine bP ?_;refine .inl ⟨rfl, ?_⟩;simp only [dI] at h;refine aC (aA (tm (.i (w64 ((w64 ((uw (w64 (g + f))).fdiv (2 ^ (min (1 : Int).toNat 64)))) + j))) (tm (.i e) (to (sar rfl rfl rfl) (ta (.i (w64 ((w64 ((w64 ((uw (w64 (g + f))).fdiv (2 ^ (min (1 : Int).toNat 64)))) + j)) - e))) (aB (aC (aC (aA (tm (.i e) (tm (.i j) (to (scm rfl rfl rfl) (tm (.b (decide (e < j))) ?_)))))))))))));obtain ⟨j4, b8, h⟩ := bns h;refine bD 4 [0, 1, 2, 3, 4, 18, 20, 24] 185 j4 ?_ ?_
        ·refine bch b8 (fun T b8 => ?_) (fun T b8 => ?_)
         ·refine tk T (sm (.i j)) (tk T (sm (.i (w64 ((w64 ((w64 ((uw (w64 (g + f))).fdiv (2 ^ (min (1 : Int).toNat 64)))) + j)) - e)))) (tk T (scm rfl rfl rfl) (to (spt (.b (decide (j < (w64 ((w64 ((w64 ((uw (w64 (g + f))).fdiv (2 ^ (min (1 : Int).toNat 64)))) + j)) - e))))) T) ?_)));obtain rfl := sIn b8;refine aB (aO rfl ⟨rfl, rfl, rfl, rfl, rfl, rfl, rfl, rfl, trivial⟩ rfl)
         ·refine tp T (tp T (tp T (to (spf (.b false) T) ?_)));obtain rfl := sIn b8;refine aB (aO rfl ⟨rfl, rfl, rfl, rfl, rfl, rfl, rfl, rfl, trivial⟩ rfl)
        ·refine aB ?_;refine tih h (fun j5 h => ?_) (fun j5 h => ?_)
         ·refine aA (tm (.d (.lit a)) (tm (.i e) (tm (.i j) (tm (.i (w64 ((w64 ((w64 ((uw (w64 (g + f))).fdiv (2 ^ (min (1 : Int).toNat 64)))) + j)) - e))) (tm (.fn n o) ?_)))));obtain ⟨b9, j6, h⟩ := bns h;refine bB rfl (eZ (passed := [.arr a 76 4 (q.map aE)]) (aD rfl) rfl (.func _ _ Tryz.call140) rfl rfl (rI q e j (w64 ((w64 ((w64 ((uw (w64 (g + f))).fdiv (2 ^ (min (1 : Int).toNat 64)))) + j)) - e)) E n o I J j6)) ?_;rintro _ ⟨_, _, ⟨rfl, rfl⟩, rfl⟩;refine aB (aC (aC (aA (tm (.i g) (tm (.i e) (to (scm rfl rfl rfl) (tm (.b (decide (g < e))) ?_)))))));obtain ⟨j7, c0, h⟩ := bns h;refine bD 4 [0, 1, 3, 4, 18, 20, 24] 199 j7 ?_ ?_
          ·refine bch c0 (fun U c0 => ?_) (fun U c0 => ?_)
           ·refine tk U (sm (.i e)) (tk U (sm (.i (w64 ((uw (w64 (g + f))).fdiv (2 ^ (min (1 : Int).toNat 64)))))) (tk U (scm rfl rfl rfl) (to (spt (.b (decide (e < (w64 ((uw (w64 (g + f))).fdiv (2 ^ (min (1 : Int).toNat 64))))))) U) ?_)));obtain rfl := sIn c0;refine aB (aO rfl ⟨rfl, rfl, rfl, rfl, rfl, rfl, rfl, trivial⟩ rfl)
           ·refine tp U (tp U (tp U (to (spf (.b false) U) ?_)));obtain rfl := sIn c0;refine aB (aO rfl ⟨rfl, rfl, rfl, rfl, rfl, rfl, rfl, trivial⟩ rfl)
          ·refine aB ?_;refine tih h (fun j8 h => ?_) (fun j8 h => ?_)
           ·refine aA (tm (.d (.lit a)) (tm (.i g) (tm (.i e) (tm (.i (w64 ((uw (w64 (g + f))).fdiv (2 ^ (min (1 : Int).toNat 64))))) (tm (.fn n o) ?_)))));obtain ⟨d6, j9, h⟩ := bns h;refine bB rfl (eZ (passed := [.arr a 76 4 (b9.map aE)]) (aD rfl) rfl (.func _ _ Tryz.call133) rfl rfl (ih b9 g e (w64 ((uw (w64 (g + f))).fdiv (2 ^ (min (1 : Int).toNat 64)))) j9)) ?_;rintro _ ⟨_, _, ⟨rfl, rfl⟩, rfl⟩;refine aB (aC (aA (tm (.i (w64 ((uw (w64 (g + f))).fdiv (2 ^ (min (1 : Int).toNat 64))))) (tm (.i (w64 ((w64 ((w64 ((uw (w64 (g + f))).fdiv (2 ^ (min (1 : Int).toNat 64)))) + j)) - e))) (to (scm rfl rfl rfl) (tm (.b (decide ((w64 ((uw (w64 (g + f))).fdiv (2 ^ (min (1 : Int).toNat 64)))) < (w64 ((w64 ((w64 ((uw (w64 (g + f))).fdiv (2 ^ (min (1 : Int).toNat 64)))) + j)) - e))))) ?_))))));obtain ⟨k0, c2, h⟩ := bns h;refine bD 4 [0, 3, 4, 18, 24] 213 k0 ?_ ?_
            ·refine bch c2 (fun V c2 => ?_) (fun V c2 => ?_)
             ·refine tk V (sm (.i (w64 ((w64 ((w64 ((uw (w64 (g + f))).fdiv (2 ^ (min (1 : Int).toNat 64)))) + j)) - e)))) (tk V (sm (.i f)) (tk V (scm rfl rfl rfl) (to (spt (.b (decide ((w64 ((w64 ((w64 ((uw (w64 (g + f))).fdiv (2 ^ (min (1 : Int).toNat 64)))) + j)) - e)) < f))) V) ?_)));obtain rfl := sIn c2;refine aB (aO rfl ⟨rfl, rfl, rfl, rfl, rfl, trivial⟩ rfl)
             ·refine tp V (tp V (tp V (to (spf (.b false) V) ?_)));obtain rfl := sIn c2;refine aB (aO rfl ⟨rfl, rfl, rfl, rfl, rfl, trivial⟩ rfl)
            ·refine aB ?_;refine tih h (fun k1 h => ?_) (fun k1 h => ?_)
             ·refine aA (tm (.d (.lit a)) (tm (.i (w64 ((uw (w64 (g + f))).fdiv (2 ^ (min (1 : Int).toNat 64))))) (tm (.i (w64 ((w64 ((w64 ((uw (w64 (g + f))).fdiv (2 ^ (min (1 : Int).toNat 64)))) + j)) - e))) (tm (.i f) (tm (.fn n o) ?_)))));obtain ⟨k2, k4, h⟩ := bns h;refine bB rfl (eZ (passed := [.arr a 76 4 (d6.map aE)]) (aD rfl) rfl (.func _ _ Tryz.call133) rfl rfl (ih d6 (w64 ((uw (w64 (g + f))).fdiv (2 ^ (min (1 : Int).toNat 64)))) (w64 ((w64 ((w64 ((uw (w64 (g + f))).fdiv (2 ^ (min (1 : Int).toNat 64)))) + j)) - e)) f k4)) ?_;rintro _ ⟨_, _, ⟨rfl, rfl⟩, rfl⟩;refine aB ?_;obtain rfl := sIn h;exact ⟨_, [.arr a 76 4 (k2.map aE)], [], _, .none, .refl _, .same _, rfl, rfl⟩
             ·refine aX ?_;obtain rfl := sIn h;exact ⟨_, [.arr a 76 4 (d6.map aE)], [], _, .none, .refl _, .same _, rfl, rfl⟩
           ·refine aX (aC (aA (tm (.i (w64 ((uw (w64 (g + f))).fdiv (2 ^ (min (1 : Int).toNat 64))))) (tm (.i (w64 ((w64 ((w64 ((uw (w64 (g + f))).fdiv (2 ^ (min (1 : Int).toNat 64)))) + j)) - e))) (to (scm rfl rfl rfl) (tm (.b (decide ((w64 ((uw (w64 (g + f))).fdiv (2 ^ (min (1 : Int).toNat 64)))) < (w64 ((w64 ((w64 ((uw (w64 (g + f))).fdiv (2 ^ (min (1 : Int).toNat 64)))) + j)) - e))))) ?_))))));obtain ⟨k5, c3, h⟩ := bns h;refine bD 4 [0, 3, 4, 18, 24] 213 k5 ?_ ?_
            ·refine bch c3 (fun W c3 => ?_) (fun W c3 => ?_)
             ·refine tk W (sm (.i (w64 ((w64 ((w64 ((uw (w64 (g + f))).fdiv (2 ^ (min (1 : Int).toNat 64)))) + j)) - e)))) (tk W (sm (.i f)) (tk W (scm rfl rfl rfl) (to (spt (.b (decide ((w64 ((w64 ((w64 ((uw (w64 (g + f))).fdiv (2 ^ (min (1 : Int).toNat 64)))) + j)) - e)) < f))) W) ?_)));obtain rfl := sIn c3;refine aB (aO rfl ⟨rfl, rfl, rfl, rfl, rfl, trivial⟩ rfl)
             ·refine tp W (tp W (tp W (to (spf (.b false) W) ?_)));obtain rfl := sIn c3;refine aB (aO rfl ⟨rfl, rfl, rfl, rfl, rfl, trivial⟩ rfl)
            ·refine aB ?_;refine tih h (fun k6 h => ?_) (fun k6 h => ?_)
             ·refine aA (tm (.d (.lit a)) (tm (.i (w64 ((uw (w64 (g + f))).fdiv (2 ^ (min (1 : Int).toNat 64))))) (tm (.i (w64 ((w64 ((w64 ((uw (w64 (g + f))).fdiv (2 ^ (min (1 : Int).toNat 64)))) + j)) - e))) (tm (.i f) (tm (.fn n o) ?_)))));obtain ⟨k7, k8, h⟩ := bns h;refine bB rfl (eZ (passed := [.arr a 76 4 (b9.map aE)]) (aD rfl) rfl (.func _ _ Tryz.call133) rfl rfl (ih b9 (w64 ((uw (w64 (g + f))).fdiv (2 ^ (min (1 : Int).toNat 64)))) (w64 ((w64 ((w64 ((uw (w64 (g + f))).fdiv (2 ^ (min (1 : Int).toNat 64)))) + j)) - e)) f k8)) ?_;rintro _ ⟨_, _, ⟨rfl, rfl⟩, rfl⟩;refine aB ?_;obtain rfl := sIn h;exact ⟨_, [.arr a 76 4 (k7.map aE)], [], _, .none, .refl _, .same _, rfl, rfl⟩
             ·refine aX ?_;obtain rfl := sIn h;exact ⟨_, [.arr a 76 4 (b9.map aE)], [], _, .none, .refl _, .same _, rfl, rfl⟩
         ·refine aX (aC (aC (aA (tm (.i g) (tm (.i e) (to (scm rfl rfl rfl) (tm (.b (decide (g < e))) ?_)))))));obtain ⟨k9, c5, h⟩ := bns h;refine bD 4 [0, 1, 3, 4, 18, 20, 24] 199 k9 ?_ ?_
          ·refine bch c5 (fun Y c5 => ?_) (fun Y c5 => ?_)
           ·refine tk Y (sm (.i e)) (tk Y (sm (.i (w64 ((uw (w64 (g + f))).fdiv (2 ^ (min (1 : Int).toNat 64)))))) (tk Y (scm rfl rfl rfl) (to (spt (.b (decide (e < (w64 ((uw (w64 (g + f))).fdiv (2 ^ (min (1 : Int).toNat 64))))))) Y) ?_)));obtain rfl := sIn c5;refine aB (aO rfl ⟨rfl, rfl, rfl, rfl, rfl, rfl, rfl, trivial⟩ rfl)
           ·refine tp Y (tp Y (tp Y (to (spf (.b false) Y) ?_)));obtain rfl := sIn c5;refine aB (aO rfl ⟨rfl, rfl, rfl, rfl, rfl, rfl, rfl, trivial⟩ rfl)
          ·refine aB ?_;refine tih h (fun l0 h => ?_) (fun l0 h => ?_)
           ·refine aA (tm (.d (.lit a)) (tm (.i g) (tm (.i e) (tm (.i (w64 ((uw (w64 (g + f))).fdiv (2 ^ (min (1 : Int).toNat 64))))) (tm (.fn n o) ?_)))));obtain ⟨d7, l1, h⟩ := bns h;refine bB rfl (eZ (passed := [.arr a 76 4 (q.map aE)]) (aD rfl) rfl (.func _ _ Tryz.call133) rfl rfl (ih q g e (w64 ((uw (w64 (g + f))).fdiv (2 ^ (min (1 : Int).toNat 64)))) l1)) ?_;rintro _ ⟨_, _, ⟨rfl, rfl⟩, rfl⟩;refine aB (aC (aA (tm (.i (w64 ((uw (w64 (g + f))).fdiv (2 ^ (min (1 : Int).toNat 64))))) (tm (.i (w64 ((w64 ((w64 ((uw (w64 (g + f))).fdiv (2 ^ (min (1 : Int).toNat 64)))) + j)) - e))) (to (scm rfl rfl rfl) (tm (.b (decide ((w64 ((uw (w64 (g + f))).fdiv (2 ^ (min (1 : Int).toNat 64)))) < (w64 ((w64 ((w64 ((uw (w64 (g + f))).fdiv (2 ^ (min (1 : Int).toNat 64)))) + j)) - e))))) ?_))))));obtain ⟨l2, c6, h⟩ := bns h;refine bD 4 [0, 3, 4, 18, 24] 213 l2 ?_ ?_
            ·refine bch c6 (fun Z c6 => ?_) (fun Z c6 => ?_)
             ·refine tk Z (sm (.i (w64 ((w64 ((w64 ((uw (w64 (g + f))).fdiv (2 ^ (min (1 : Int).toNat 64)))) + j)) - e)))) (tk Z (sm (.i f)) (tk Z (scm rfl rfl rfl) (to (spt (.b (decide ((w64 ((w64 ((w64 ((uw (w64 (g + f))).fdiv (2 ^ (min (1 : Int).toNat 64)))) + j)) - e)) < f))) Z) ?_)));obtain rfl := sIn c6;refine aB (aO rfl ⟨rfl, rfl, rfl, rfl, rfl, trivial⟩ rfl)
             ·refine tp Z (tp Z (tp Z (to (spf (.b false) Z) ?_)));obtain rfl := sIn c6;refine aB (aO rfl ⟨rfl, rfl, rfl, rfl, rfl, trivial⟩ rfl)
            ·refine aB ?_;refine tih h (fun l3 h => ?_) (fun l3 h => ?_)
             ·refine aA (tm (.d (.lit a)) (tm (.i (w64 ((uw (w64 (g + f))).fdiv (2 ^ (min (1 : Int).toNat 64))))) (tm (.i (w64 ((w64 ((w64 ((uw (w64 (g + f))).fdiv (2 ^ (min (1 : Int).toNat 64)))) + j)) - e))) (tm (.i f) (tm (.fn n o) ?_)))));obtain ⟨l4, l5, h⟩ := bns h;refine bB rfl (eZ (passed := [.arr a 76 4 (d7.map aE)]) (aD rfl) rfl (.func _ _ Tryz.call133) rfl rfl (ih d7 (w64 ((uw (w64 (g + f))).fdiv (2 ^ (min (1 : Int).toNat 64)))) (w64 ((w64 ((w64 ((uw (w64 (g + f))).fdiv (2 ^ (min (1 : Int).toNat 64)))) + j)) - e)) f l5)) ?_;rintro _ ⟨_, _, ⟨rfl, rfl⟩, rfl⟩;refine aB ?_;obtain rfl := sIn h;exact ⟨_, [.arr a 76 4 (l4.map aE)], [], _, .none, .refl _, .same _, rfl, rfl⟩
             ·refine aX ?_;obtain rfl := sIn h;exact ⟨_, [.arr a 76 4 (d7.map aE)], [], _, .none, .refl _, .same _, rfl, rfl⟩
           ·refine aX (aC (aA (tm (.i (w64 ((uw (w64 (g + f))).fdiv (2 ^ (min (1 : Int).toNat 64))))) (tm (.i (w64 ((w64 ((w64 ((uw (w64 (g + f))).fdiv (2 ^ (min (1 : Int).toNat 64)))) + j)) - e))) (to (scm rfl rfl rfl) (tm (.b (decide ((w64 ((uw (w64 (g + f))).fdiv (2 ^ (min (1 : Int).toNat 64)))) < (w64 ((w64 ((w64 ((uw (w64 (g + f))).fdiv (2 ^ (min (1 : Int).toNat 64)))) + j)) - e))))) ?_))))));obtain ⟨l6, c7, h⟩ := bns h;refine bD 4 [0, 3, 4, 18, 24] 213 l6 ?_ ?_
            ·refine bch c7 (fun a0 c7 => ?_) (fun a0 c7 => ?_)
             ·refine tk a0 (sm (.i (w64 ((w64 ((w64 ((uw (w64 (g + f))).fdiv (2 ^ (min (1 : Int).toNat 64)))) + j)) - e)))) (tk a0 (sm (.i f)) (tk a0 (scm rfl rfl rfl) (to (spt (.b (decide ((w64 ((w64 ((w64 ((uw (w64 (g + f))).fdiv (2 ^ (min (1 : Int).toNat 64)))) + j)) - e)) < f))) a0) ?_)));obtain rfl := sIn c7;refine aB (aO rfl ⟨rfl, rfl, rfl, rfl, rfl, trivial⟩ rfl)
             ·refine tp a0 (tp a0 (tp a0 (to (spf (.b false) a0) ?_)));obtain rfl := sIn c7;refine aB (aO rfl ⟨rfl, rfl, rfl, rfl, rfl, trivial⟩ rfl)
            ·refine aB ?_;refine tih h (fun l7 h => ?_) (fun l7 h => ?_)
             ·refine aA (tm (.d (.lit a)) (tm (.i (w64 ((uw (w64 (g + f))).fdiv (2 ^ (min (1 : Int).toNat 64))))) (tm (.i (w64 ((w64 ((w64 ((uw (w64 (g + f))).fdiv (2 ^ (min (1 : Int).toNat 64)))) + j)) - e))) (tm (.i f) (tm (.fn n o) ?_)))));obtain ⟨l8, l9, h⟩ := bns h;refine bB rfl (eZ (passed := [.arr a 76 4 (q.map aE)]) (aD rfl) rfl (.func _ _ Tryz.call133) rfl rfl (ih q (w64 ((uw (w64 (g + f))).fdiv (2 ^ (min (1 : Int).toNat 64)))) (w64 ((w64 ((w64 ((uw (w64 (g + f))).fdiv (2 ^ (min (1 : Int).toNat 64)))) + j)) - e)) f l9)) ?_;rintro _ ⟨_, _, ⟨rfl, rfl⟩, rfl⟩;refine aB ?_;obtain rfl := sIn h;exact ⟨_, [.arr a 76 4 (l8.map aE)], [], _, .none, .refl _, .same _, rfl, rfl⟩
             ·refine aX ?_;obtain rfl := sIn h;exact ⟨_, [.arr a 76 4 (q.map aE)], [], _, .none, .refl _, .same _, rfl, rfl⟩
      ·refine aC (aA (tm (.i g) (ta (.i g) (aB (aA (tm (.i j) (ta (.i j) (aB (aC (aA (tm (.i (w64 ((w64 ((uw (w64 (g + f))).fdiv (2 ^ (min (1 : Int).toNat 64)))) + j))) (to (sar rfl rfl rfl) (ta (.i (w64 ((w64 ((w64 ((uw (w64 (g + f))).fdiv (2 ^ (min (1 : Int).toNat 64)))) + j)) - 1))) ?_)))))))))))));refine aB (aC (bA ?_));refine bO (S := Int × Int) [0, 1, 2, 3, 4, 18, 19, 22] (fun a1 => [(20, .i a1.1), (21, .i a1.2)]) (fun a1 => [.arr a 76 4 (q.map aE)]) (fun k a1 => cJ (bJ E kr) g j f E (w64 ((uw (w64 (g + f))).fdiv (2 ^ (min (1 : Int).toNat 64)))) (w64 ((w64 ((uw (w64 (g + f))).fdiv (2 ^ (min (1 : Int).toNat 64)))) + j)) (w64 ((w64 ((w64 ((uw (w64 (g + f))).fdiv (2 ^ (min (1 : Int).toNat 64)))) + j)) - 1)) q k a1.1 a1.2) (fun _ => rfl) (g, j) h (aP [0] rfl rfl (aG rfl (aG rfl (aL ⟨rfl, rfl, rfl, rfl, rfl, rfl, rfl, rfl, trivial⟩)))) ?_;rintro m0 ⟨c, y⟩ h;simp only [cJ] at h;refine aC (aC (aA (tm (.i c) (tm (.i y) (to (scm rfl rfl rfl) (aB ?_))))));refine tih h (fun f2 h => ?_) (fun f2 h => ?_)
       ·refine aX (bA (aC (aA (tm (.i c) (tm (.i y) (to (sar rfl rfl rfl) (to (nO (aD rfl) rfl Tryz.runUnderlying3 Tryz.runUnderlying113) ?_)))))));refine to (wQ (aD rfl) rfl rfl (by decide)) ?_;refine to (nO (aD rfl) rfl Tryz.runUnderlying113 Tryz.runUnderlying3) ?_;refine ta (.i (w64 ((uw (w64 (c + y))).fdiv (2 ^ (min (1 : Int).toNat 64))))) (aB (aC ?_));obtain ⟨c8, d8, h⟩ := bns h;obtain ⟨c9, d9, h⟩ := bns h;refine cL mix 11 [0, 1, 2, 3, 4, 18, 19, 20, 21, 22, 23] [(158, .fn n o), (164, .agg (aE c8)), (168, .agg (aE c9))] ?_ ?_
        ·refine ⟨[(158, 0, .fn n o), (159, 1, .d (.lit a)), (160, 2, .i (w64 ((w64 ((w64 ((uw (w64 (g + f))).fdiv (2 ^ (min (1 : Int).toNat 64)))) + j)) - 1))), (161, 3, .i (w64 ((uw (w64 (c + y))).fdiv (2 ^ (min (1 : Int).toNat 64))))), (162, 4, .i (w64 ((w64 ((w64 ((w64 ((uw (w64 (g + f))).fdiv (2 ^ (min (1 : Int).toNat 64)))) + j)) - 1)) - (w64 ((uw (w64 (c + y))).fdiv (2 ^ (min (1 : Int).toNat 64))))))), (163, 5, .ep a 4 (w64 ((w64 ((w64 ((w64 ((uw (w64 (g + f))).fdiv (2 ^ (min (1 : Int).toNat 64)))) + j)) - 1)) - (w64 ((uw (w64 (c + y))).fdiv (2 ^ (min (1 : Int).toNat 64)))))).toNat 0), (164, 6, .agg (aE c8)), (165, 7, .d (.lit a)), (166, 8, .i (w64 ((uw (w64 (c + y))).fdiv (2 ^ (min (1 : Int).toNat 64))))), (167, 9, .ep a 4 (w64 ((uw (w64 (c + y))).fdiv (2 ^ (min (1 : Int).toNat 64)))).toNat 0), (168, 10, .agg (aE c9))], ?_, ?_⟩
         · exact dok [([], []), ([], []), ([], []), ([], []), ([2, 3], []), ([1, 4], []), ([5], []), ([], []), ([], []), ([7, 8], []), ([9], [])] ⟨go (zm (.fn n o)),
      go (zm (.d (.lit a))),
      go (zm (.i (w64 ((w64 ((w64 ((uw (w64 (g + f))).fdiv (2 ^ (min (1 : Int).toNat 64)))) + j)) - 1)))),
      go (zm (.i (w64 ((uw (w64 (c + y))).fdiv (2 ^ (min (1 : Int).toNat 64)))))),
      go (zar rfl rfl rfl),
      go (zia 0 rfl rfl rfl cR.of (aY aE d8)),
      go fun S hS => eF (aD rfl) (aW hS rfl) (l := 0) rfl (dW aE d8) fV (es := (aE c8)) rfl rfl,
      go (zm (.d (.lit a))),
      go (zm (.i (w64 ((uw (w64 (c + y))).fdiv (2 ^ (min (1 : Int).toNat 64)))))),
      go (zia 0 rfl rfl rfl cR.of (aY aE d9)),
      go fun S hS => eF (aD rfl) (aW hS rfl) (l := 0) rfl (dW aE d9) fV (es := (aE c9)) rfl rfl, trivial⟩
         · exact cF (aG rfl (aG rfl (aG rfl (aL ⟨rfl, rfl, rfl, rfl, rfl, rfl, rfl, rfl, rfl, rfl, rfl, trivial⟩))))
        ·obtain ⟨m1, f3, h⟩ := bns h;refine to (fP (aD rfl) (.clo _ _ _ _ I rfl) (aCo rfl) rfl (BVs.refl _ _) (J _ _ _  f3) rfl) ?_;refine to (scm rfl rfl rfl) (to (sn rfl) (aB ?_));refine tih h (fun f4 h => ?_) (fun f4 h => ?_)
         ·refine aA (tm (.i (w64 ((uw (w64 (c + y))).fdiv (2 ^ (min (1 : Int).toNat 64))))) (to (sar rfl rfl rfl) (ta (.i (w64 ((w64 ((uw (w64 (c + y))).fdiv (2 ^ (min (1 : Int).toNat 64)))) + 1))) ?_)));refine cQ ?_;exact ⟨(w64 ((w64 ((uw (w64 (c + y))).fdiv (2 ^ (min (1 : Int).toNat 64)))) + 1), y), h, aP [0] rfl rfl (aG rfl (aG rfl (aL ⟨rfl, rfl, rfl, rfl, rfl, rfl, rfl, rfl, trivial⟩)))⟩
         ·refine aA (tm (.i (w64 ((uw (w64 (c + y))).fdiv (2 ^ (min (1 : Int).toNat 64))))) (ta (.i (w64 ((uw (w64 (c + y))).fdiv (2 ^ (min (1 : Int).toNat 64))))) ?_));refine cQ ?_;exact ⟨(c, w64 ((uw (w64 (c + y))).fdiv (2 ^ (min (1 : Int).toNat 64)))), h, aP [0] rfl rfl (aG rfl (aG rfl (aL ⟨rfl, rfl, rfl, rfl, rfl, rfl, rfl, rfl, trivial⟩)))⟩
       ·refine bP ?_;refine .inl ⟨rfl, ?_⟩;simp only [dI] at h;refine aC (aA (tm (.i (w64 ((w64 ((uw (w64 (g + f))).fdiv (2 ^ (min (1 : Int).toNat 64)))) + j))) (tm (.i c) (to (sar rfl rfl rfl) (ta (.i (w64 ((w64 ((w64 ((uw (w64 (g + f))).fdiv (2 ^ (min (1 : Int).toNat 64)))) + j)) - c))) (aB (aC (aC (aA (tm (.i c) (tm (.i j) (to (scm rfl rfl rfl) (tm (.b (decide (c < j))) ?_)))))))))))));obtain ⟨f5, a4, h⟩ := bns h;refine bD 4 [0, 1, 2, 3, 4, 18, 20, 24] 185 f5 ?_ ?_
        ·refine bch a4 (fun K a4 => ?_) (fun K a4 => ?_)
         ·refine tk K (sm (.i j)) (tk K (sm (.i (w64 ((w64 ((w64 ((uw (w64 (g + f))).fdiv (2 ^ (min (1 : Int).toNat 64)))) + j)) - c)))) (tk K (scm rfl rfl rfl) (to (spt (.b (decide (j < (w64 ((w64 ((w64 ((uw (w64 (g + f))).fdiv (2 ^ (min (1 : Int).toNat 64)))) + j)) - c))))) K) ?_)));obtain rfl := sIn a4;refine aB (aO rfl ⟨rfl, rfl, rfl, rfl, rfl, rfl, rfl, rfl, trivial⟩ rfl)
         ·refine tp K (tp K (tp K (to (spf (.b false) K) ?_)));obtain rfl := sIn a4;refine aB (aO rfl ⟨rfl, rfl, rfl, rfl, rfl, rfl, rfl, rfl, trivial⟩ rfl)
        ·refine aB ?_;refine tih h (fun f6 h => ?_) (fun f6 h => ?_)
         ·refine aA (tm (.d (.lit a)) (tm (.i c) (tm (.i j) (tm (.i (w64 ((w64 ((w64 ((uw (w64 (g + f))).fdiv (2 ^ (min (1 : Int).toNat 64)))) + j)) - c))) (tm (.fn n o) ?_)))));obtain ⟨a5, f7, h⟩ := bns h;refine bB rfl (eZ (passed := [.arr a 76 4 (q.map aE)]) (aD rfl) rfl (.func _ _ Tryz.call140) rfl rfl (rI q c j (w64 ((w64 ((w64 ((uw (w64 (g + f))).fdiv (2 ^ (min (1 : Int).toNat 64)))) + j)) - c)) E n o I J f7)) ?_;rintro _ ⟨_, _, ⟨rfl, rfl⟩, rfl⟩;refine aB (aC (aC (aA (tm (.i g) (tm (.i c) (to (scm rfl rfl rfl) (tm (.b (decide (g < c))) ?_)))))));obtain ⟨f8, a6, h⟩ := bns h;refine bD 4 [0, 1, 3, 4, 18, 20, 24] 199 f8 ?_ ?_
          ·refine bch a6 (fun L a6 => ?_) (fun L a6 => ?_)
           ·refine tk L (sm (.i c)) (tk L (sm (.i (w64 ((uw (w64 (g + f))).fdiv (2 ^ (min (1 : Int).toNat 64)))))) (tk L (scm rfl rfl rfl) (to (spt (.b (decide (c < (w64 ((uw (w64 (g + f))).fdiv (2 ^ (min (1 : Int).toNat 64))))))) L) ?_)));obtain rfl := sIn a6;refine aB (aO rfl ⟨rfl, rfl, rfl, rfl, rfl, rfl, rfl, trivial⟩ rfl)
           ·refine tp L (tp L (tp L (to (spf (.b false) L) ?_)));obtain rfl := sIn a6;refine aB (aO rfl ⟨rfl, rfl, rfl, rfl, rfl, rfl, rfl, trivial⟩ rfl)
          ·refine aB ?_;refine tih h (fun f9 h => ?_) (fun f9 h => ?_)
           ·refine aA (tm (.d (.lit a)) (tm (.i g) (tm (.i c) (tm (.i (w64 ((uw (w64 (g + f))).fdiv (2 ^ (min (1 : Int).toNat 64))))) (tm (.fn n o) ?_)))));obtain ⟨d0, g0, h⟩ := bns h;refine bB rfl (eZ (passed := [.arr a 76 4 (a5.map aE)]) (aD rfl) rfl (.func _ _ Tryz.call133) rfl rfl (ih a5 g c (w64 ((uw (w64 (g + f))).fdiv (2 ^ (min (1 : Int).toNat 64)))) g0)) ?_;rintro _ ⟨_, _, ⟨rfl, rfl⟩, rfl⟩;refine aB (aC (aA (tm (.i (w64 ((uw (w64 (g + f))).fdiv (2 ^ (min (1 : Int).toNat 64))))) (tm (.i (w64 ((w64 ((w64 ((uw (w64 (g + f))).fdiv (2 ^ (min (1 : Int).toNat 64)))) + j)) - c))) (to (scm rfl rfl rfl) (tm (.b (decide ((w64 ((uw (w64 (g + f))).fdiv (2 ^ (min (1 : Int).toNat 64)))) < (w64 ((w64 ((w64 ((uw (w64 (g + f))).fdiv (2 ^ (min (1 : Int).toNat 64)))) + j)) - c))))) ?_))))));obtain ⟨g1, a7, h⟩ := bns h;refine bD 4 [0, 3, 4, 18, 24] 213 g1 ?_ ?_
            ·refine bch a7 (fun M a7 => ?_) (fun M a7 => ?_)
             ·refine tk M (sm (.i (w64 ((w64 ((w64 ((uw (w64 (g + f))).fdiv (2 ^ (min (1 : Int).toNat 64)))) + j)) - c)))) (tk M (sm (.i f)) (tk M (scm rfl rfl rfl) (to (spt (.b (decide ((w64 ((w64 ((w64 ((uw (w64 (g + f))).fdiv (2 ^ (min (1 : Int).toNat 64)))) + j)) - c)) < f))) M) ?_)));obtain rfl := sIn a7;refine aB (aO rfl ⟨rfl, rfl, rfl, rfl, rfl, trivial⟩ rfl)
             ·refine tp M (tp M (tp M (to (spf (.b false) M) ?_)));obtain rfl := sIn a7;refine aB (aO rfl ⟨rfl, rfl, rfl, rfl, rfl, trivial⟩ rfl)
            ·refine aB ?_;refine tih h (fun g2 h => ?_) (fun g2 h => ?_)
             ·refine aA (tm (.d (.lit a)) (tm (.i (w64 ((uw (w64 (g + f))).fdiv (2 ^ (min (1 : Int).toNat 64))))) (tm (.i (w64 ((w64 ((w64 ((uw (w64 (g + f))).fdiv (2 ^ (min (1 : Int).toNat 64)))) + j)) - c))) (tm (.i f) (tm (.fn n o) ?_)))));obtain ⟨g3, g4, h⟩ := bns h;refine bB rfl (eZ (passed := [.arr a 76 4 (d0.map aE)]) (aD rfl) rfl (.func _ _ Tryz.call133) rfl rfl (ih d0 (w64 ((uw (w64 (g + f))).fdiv (2 ^ (min (1 : Int).toNat 64)))) (w64 ((w64 ((w64 ((uw (w64 (g + f))).fdiv (2 ^ (min (1 : Int).toNat 64)))) + j)) - c)) f g4)) ?_;rintro _ ⟨_, _, ⟨rfl, rfl⟩, rfl⟩;refine aB ?_;obtain rfl := sIn h;exact ⟨_, [.arr a 76 4 (g3.map aE)], [], _, .none, .refl _, .same _, rfl, rfl⟩
             ·refine aX ?_;obtain rfl := sIn h;exact ⟨_, [.arr a 76 4 (d0.map aE)], [], _, .none, .refl _, .same _, rfl, rfl⟩
           ·refine aX (aC (aA (tm (.i (w64 ((uw (w64 (g + f))).fdiv (2 ^ (min (1 : Int).toNat 64))))) (tm (.i (w64 ((w64 ((w64 ((uw (w64 (g + f))).fdiv (2 ^ (min (1 : Int).toNat 64)))) + j)) - c))) (to (scm rfl rfl rfl) (tm (.b (decide ((w64 ((uw (w64 (g + f))).fdiv (2 ^ (min (1 : Int).toNat 64)))) < (w64 ((w64 ((w64 ((uw (w64 (g + f))).fdiv (2 ^ (min (1 : Int).toNat 64)))) + j)) - c))))) ?_))))));obtain ⟨g5, a8, h⟩ := bns h;refine bD 4 [0, 3, 4, 18, 24] 213 g5 ?_ ?_
            ·refine bch a8 (fun N a8 => ?_) (fun N a8 => ?_)
             ·refine tk N (sm (.i (w64 ((w64 ((w64 ((uw (w64 (g + f))).fdiv (2 ^ (min (1 : Int).toNat 64)))) + j)) - c)))) (tk N (sm (.i f)) (tk N (scm rfl rfl rfl) (to (spt (.b (decide ((w64 ((w64 ((w64 ((uw (w64 (g + f))).fdiv (2 ^ (min (1 : Int).toNat 64)))) + j)) - c)) < f))) N) ?_)));obtain rfl := sIn a8;refine aB (aO rfl ⟨rfl, rfl, rfl, rfl, rfl, trivial⟩ rfl)
             ·refine tp N (tp N (tp N (to (spf (.b false) N) ?_)));obtain rfl := sIn a8;refine aB (aO rfl ⟨rfl, rfl, rfl, rfl, rfl, trivial⟩ rfl)
            ·refine aB ?_;refine tih h (fun g6 h => ?_) (fun g6 h => ?_)
             ·refine aA (tm (.d (.lit a)) (tm (.i (w64 ((uw (w64 (g + f))).fdiv (2 ^ (min (1 : Int).toNat 64))))) (tm (.i (w64 ((w64 ((w64 ((uw (w64 (g + f))).fdiv (2 ^ (min (1 : Int).toNat 64)))) + j)) - c))) (tm (.i f) (tm (.fn n o) ?_)))));obtain ⟨g7, g8, h⟩ := bns h;refine bB rfl (eZ (passed := [.arr a 76 4 (a5.map aE)]) (aD rfl) rfl (.func _ _ Tryz.call133) rfl rfl (ih a5 (w64 ((uw (w64 (g + f))).fdiv (2 ^ (min (1 : Int).toNat 64)))) (w64 ((w64 ((w64 ((uw (w64 (g + f))).fdiv (2 ^ (min (1 : Int).toNat 64)))) + j)) - c)) f g8)) ?_;rintro _ ⟨_, _, ⟨rfl, rfl⟩, rfl⟩;refine aB ?_;obtain rfl := sIn h;exact ⟨_, [.arr a 76 4 (g7.map aE)], [], _, .none, .refl _, .same _, rfl, rfl⟩
             ·refine aX ?_;obtain rfl := sIn h;exact ⟨_, [.arr a 76 4 (a5.map aE)], [], _, .none, .refl _, .same _, rfl, rfl⟩
         ·refine aX (aC (aC (aA (tm (.i g) (tm (.i c) (to (scm rfl rfl rfl) (tm (.b (decide (g < c))) ?_)))))));obtain ⟨g9, a9, h⟩ := bns h;refine bD 4 [0, 1, 3, 4, 18, 20, 24] 199 g9 ?_ ?_
          ·refine bch a9 (fun O a9 => ?_) (fun O a9 => ?_)
           ·refine tk O (sm (.i c)) (tk O (sm (.i (w64 ((uw (w64 (g + f))).fdiv (2 ^ (min (1 : Int).toNat 64)))))) (tk O (scm rfl rfl rfl) (to (spt (.b (decide (c < (w64 ((uw (w64 (g + f))).fdiv (2 ^ (min (1 : Int).toNat 64))))))) O) ?_)));obtain rfl := sIn a9;refine aB (aO rfl ⟨rfl, rfl, rfl, rfl, rfl, rfl, rfl, trivial⟩ rfl)
           ·refine tp O (tp O (tp O (to (spf (.b false) O) ?_)));obtain rfl := sIn a9;refine aB (aO rfl ⟨rfl, rfl, rfl, rfl, rfl, rfl, rfl, trivial⟩ rfl)
          ·refine aB ?_;refine tih h (fun h0 h => ?_) (fun h0 h => ?_)
           ·refine aA (tm (.d (.lit a)) (tm (.i g) (tm (.i c) (tm (.i (w64 ((uw (w64 (g + f))).fdiv (2 ^ (min (1 : Int).toNat 64))))) (tm (.fn n o) ?_)))));obtain ⟨d1, h1, h⟩ := bns h;refine bB rfl (eZ (passed := [.arr a 76 4 (q.map aE)]) (aD rfl) rfl (.func _ _ Tryz.call133) rfl rfl (ih q g c (w64 ((uw (w64 (g + f))).fdiv (2 ^ (min (1 : Int).toNat 64)))) h1)) ?_;rintro _ ⟨_, _, ⟨rfl, rfl⟩, rfl⟩;refine aB (aC (aA (tm (.i (w64 ((uw (w64 (g + f))).fdiv (2 ^ (min (1 : Int).toNat 64))))) (tm (.i (w64 ((w64 ((w64 ((uw (w64 (g + f))).fdiv (2 ^ (min (1 : Int).toNat 64)))) + j)) - c))) (to (scm rfl rfl rfl) (tm (.b (decide ((w64 ((uw (w64 (g + f))).fdiv (2 ^ (min (1 : Int).toNat 64)))) < (w64 ((w64 ((w64 ((uw (w64 (g + f))).fdiv (2 ^ (min (1 : Int).toNat 64)))) + j)) - c))))) ?_))))));obtain ⟨h2, b0, h⟩ := bns h;refine bD 4 [0, 3, 4, 18, 24] 213 h2 ?_ ?_
            ·refine bch b0 (fun P b0 => ?_) (fun P b0 => ?_)
             ·refine tk P (sm (.i (w64 ((w64 ((w64 ((uw (w64 (g + f))).fdiv (2 ^ (min (1 : Int).toNat 64)))) + j)) - c)))) (tk P (sm (.i f)) (tk P (scm rfl rfl rfl) (to (spt (.b (decide ((w64 ((w64 ((w64 ((uw (w64 (g + f))).fdiv (2 ^ (min (1 : Int).toNat 64)))) + j)) - c)) < f))) P) ?_)));obtain rfl := sIn b0;refine aB (aO rfl ⟨rfl, rfl, rfl, rfl, rfl, trivial⟩ rfl)
             ·refine tp P (tp P (tp P (to (spf (.b false) P) ?_)));obtain rfl := sIn b0;refine aB (aO rfl ⟨rfl, rfl, rfl, rfl, rfl, trivial⟩ rfl)
            ·refine aB ?_;refine tih h (fun h3 h => ?_) (fun h3 h => ?_)
             ·refine aA (tm (.d (.lit a)) (tm (.i (w64 ((uw (w64 (g + f))).fdiv (2 ^ (min (1 : Int).toNat 64))))) (tm (.i (w64 ((w64 ((w64 ((uw (w64 (g + f))).fdiv (2 ^ (min (1 : Int).toNat 64)))) + j)) - c))) (tm (.i f) (tm (.fn n o) ?_)))));obtain ⟨h4, h5, h⟩ := bns h;refine bB rfl (eZ (passed := [.arr a 76 4 (d1.map aE)]) (aD rfl) rfl (.func _ _ Tryz.call133) rfl rfl (ih d1 (w64 ((uw (w64 (g + f))).fdiv (2 ^ (min (1 : Int).toNat 64)))) (w64 ((w64 ((w64 ((uw (w64 (g + f))).fdiv (2 ^ (min (1 : Int).toNat 64)))) + j)) - c)) f h5)) ?_;rintro _ ⟨_, _, ⟨rfl, rfl⟩, rfl⟩;refine aB ?_;obtain rfl := sIn h;exact ⟨_, [.arr a 76 4 (h4.map aE)], [], _, .none, .refl _, .same _, rfl, rfl⟩
             ·refine aX ?_;obtain rfl := sIn h;exact ⟨_, [.arr a 76 4 (d1.map aE)], [], _, .none, .refl _, .same _, rfl, rfl⟩
           ·refine aX (aC (aA (tm (.i (w64 ((uw (w64 (g + f))).fdiv (2 ^ (min (1 : Int).toNat 64))))) (tm (.i (w64 ((w64 ((w64 ((uw (w64 (g + f))).fdiv (2 ^ (min (1 : Int).toNat 64)))) + j)) - c))) (to (scm rfl rfl rfl) (tm (.b (decide ((w64 ((uw (w64 (g + f))).fdiv (2 ^ (min (1 : Int).toNat 64)))) < (w64 ((w64 ((w64 ((uw (w64 (g + f))).fdiv (2 ^ (min (1 : Int).toNat 64)))) + j)) - c))))) ?_))))));obtain ⟨h7, b1, h⟩ := bns h;refine bD 4 [0, 3, 4, 18, 24] 213 h7 ?_ ?_
            ·refine bch b1 (fun Q b1 => ?_) (fun Q b1 => ?_)
             ·refine tk Q (sm (.i (w64 ((w64 ((w64 ((uw (w64 (g + f))).fdiv (2 ^ (min (1 : Int).toNat 64)))) + j)) - c)))) (tk Q (sm (.i f)) (tk Q (scm rfl rfl rfl) (to (spt (.b (decide ((w64 ((w64 ((w64 ((uw (w64 (g + f))).fdiv (2 ^ (min (1 : Int).toNat 64)))) + j)) - c)) < f))) Q) ?_)));obtain rfl := sIn b1;refine aB (aO rfl ⟨rfl, rfl, rfl, rfl, rfl, trivial⟩ rfl)
             ·refine tp Q (tp Q (tp Q (to (spf (.b false) Q) ?_)));obtain rfl := sIn b1;refine aB (aO rfl ⟨rfl, rfl, rfl, rfl, rfl, trivial⟩ rfl)
            ·refine aB ?_;refine tih h (fun h9 h => ?_) (fun h9 h => ?_)
             ·refine aA (tm (.d (.lit a)) (tm (.i (w64 ((uw (w64 (g + f))).fdiv (2 ^ (min (1 : Int).toNat 64))))) (tm (.i (w64 ((w64 ((w64 ((uw (w64 (g + f))).fdiv (2 ^ (min (1 : Int).toNat 64)))) + j)) - c))) (tm (.i f) (tm (.fn n o) ?_)))));obtain ⟨i0, i1, h⟩ := bns h;refine bB rfl (eZ (passed := [.arr a 76 4 (q.map aE)]) (aD rfl) rfl (.func _ _ Tryz.call133) rfl rfl (ih q (w64 ((uw (w64 (g + f))).fdiv (2 ^ (min (1 : Int).toNat 64)))) (w64 ((w64 ((w64 ((uw (w64 (g + f))).fdiv (2 ^ (min (1 : Int).toNat 64)))) + j)) - c)) f i1)) ?_;rintro _ ⟨_, _, ⟨rfl, rfl⟩, rfl⟩;refine aB ?_;obtain rfl := sIn h;exact ⟨_, [.arr a 76 4 (i0.map aE)], [], _, .none, .refl _, .same _, rfl, rfl⟩
             ·refine aX ?_;obtain rfl := sIn h;exact ⟨_, [.arr a 76 4 (q.map aE)], [], _, .none, .refl _, .same _, rfl, rfl⟩
theorem qK (f : List aH) (k : Int) (l : Int) (m : Int) (e : aH → aH → Option Int) {r : (List aH)} {b : Value} (a : Nat) (c : List AV) (g : ∀ args w, (callFunc a args).run Tryz.prog w = .ok (.enter a args) w) (j : ∀ (x0 : aH) (x1 : aH) r, e x0 x1 = some r → Fn Tryz.prog a ([.agg (aE x0), .agg (aE x1)] ++ c) (.i r)) (h : jG f k l m e = some r) : fY Tryz.prog 133 [.d (.lit b), .i k, .i l, .i m, .fn a c] [.arr b 76 4 (f.map aE)] (fun r' o' => r' = .tup [] ∧ o' = [.arr b 76 4 (r.map aE)]) := wW e a c g j BIG _ _ _ _ h

theorem yI (u : List aH) (n : Int) (j : aH → aH → Option Int) {r : (List aH)} {b : Value} (c : Nat) (e : List AV) (p : ∀ args w, (callFunc c args).run Tryz.prog w = .ok (.enter c args) w) (q : ∀ (x0 : aH) (x1 : aH) r, j x0 x1 = some r → Fn Tryz.prog c ([.agg (aE x0), .agg (aE x1)] ++ e) (.i r)) (h : jY u n j = some r) : fY Tryz.prog 114 [.d (.lit b), .i n, .fn c e] [.arr b 76 4 (u.map aE)] (fun r' o' => r' = .tup [] ∧ o' = [.arr b 76 4 (r.map aE)]) := by
 unfold jY at h;refine uT Tryz.func114 rfl (rs := []) Tryz.results114 Tryz.ntmps114 (Nat.le_of_ble_eq_true rfl) ?_;refine aC (aA (ta (.i 20) (aB (aC (aA (tm (.i 20) (ta (.i 0) (ta (.i 20) (aB (aC (bA ?_)))))))))));refine bO (S := Int × Int × (List aH)) [1, 2, 6] (fun s1 => [(0, .d (.lit b)), (7, .i s1.1), (8, .i s1.2.1)]) (fun s1 => [.arr b 76 4 (s1.2.2.map aE)]) (fun k s1 => eI n j 20 k s1.1 s1.2.1 s1.2.2) (fun _ => rfl) (0, 20, u) h (aP [0] rfl rfl (aG rfl (aG rfl (aG rfl (aL ⟨rfl, rfl, rfl, trivial⟩))))) ?_;rintro k2 ⟨t, m, o⟩ h;simp only [eI] at h;refine aC (aC (aA (tm (.i m) (tm (.i n) (to (scm rfl rfl rfl) (aB ?_))))));refine tih h (fun c3 h => ?_) (fun c3 h => ?_)
 ·refine aX (bA (aC (aA (tm (.d (.lit b)) (tm (.i t) (tm (.i m) (tm (.fn c e) ?_)))))));obtain ⟨r4, h5, h⟩ := bns h;refine bB rfl (eZ (passed := [.arr b 76 4 (o.map aE)]) (aD rfl) rfl (.func _ _ Tryz.call132) rfl rfl (nQ o t m j c e p q h5)) ?_;rintro _ ⟨_, _, ⟨rfl, rfl⟩, rfl⟩;refine aB (aC (aA (tm (.i m) (ta (.i m) (aB (aA (tm (.i m) (tm (.i 20) (to (sar rfl rfl rfl) (ta (.i (w64 (m + 20))) ?_))))))))));refine cQ ?_;exact ⟨(m, w64 (m + 20), r4), h, aP [0] rfl rfl (aG rfl (aG rfl (aG rfl (aL ⟨rfl, rfl, rfl, trivial⟩))))⟩
 ·refine bP ?_;refine .inl ⟨rfl, ?_⟩;simp only [mC] at h;refine aC (aA (tm (.d (.lit b)) (tm (.i t) (tm (.i n) (tm (.fn c e) ?_)))));obtain ⟨r6, h7, h⟩ := bns h;refine bB rfl (eZ (passed := [.arr b 76 4 (o.map aE)]) (aD rfl) rfl (.func _ _ Tryz.call132) rfl rfl (nQ o t n j c e p q h7)) ?_;rintro _ ⟨_, _, ⟨rfl, rfl⟩, rfl⟩;refine aB (bA ?_);refine bO (S := Int × (List aH)) [1, 2] (fun s8 => [(0, .d (.lit b)), (6, .i s8.1)]) (fun s8 => [.arr b 76 4 (s8.2.map aE)]) (fun k s8 => dG n j k s8.1 s8.2) (fun _ => rfl) (20, r6) h (aP [0] rfl rfl (aG rfl (aG rfl (aL ⟨rfl, rfl, trivial⟩)))) ?_;rintro k9 ⟨a, v⟩ h;simp only [dG] at h;refine aC (aC (aA (tm (.i a) (tm (.i n) (to (scm rfl rfl rfl) (aB ?_))))));refine tih h (fun x h => ?_) (fun x h => ?_)
  ·refine aX (bA (aC (aA (tm (.i a) (to (sar rfl rfl rfl) (ta (.i 0) (ta (.i (w64 (2 * a))) (aB (aC (bA ?_))))))))));refine bO (S := Int × Int × (List aH)) [1, 2, 6] (fun s => [(0, .d (.lit b)), (7, .i s.1), (8, .i s.2.1)]) (fun s => [.arr b 76 4 (s.2.2.map aE)]) (fun k s => eJ (dG n j k9) n j a k s.1 s.2.1 s.2.2) (fun _ => rfl) (0, w64 (2 * a), v) h (aP [0] rfl rfl (aG rfl (aG rfl (aG rfl (aL ⟨rfl, rfl, rfl, trivial⟩))))) ?_;rintro F ⟨f, g, l⟩ h;simp only [eJ] at h;refine aC (aC (aA (tm (.i g) (tm (.i n) (to (scm rfl rfl rfl) (aB ?_))))));refine tih h (fun y h => ?_) (fun y h => ?_)
   ·refine aX (bA (aC (aA (tm (.d (.lit b)) (tm (.i f) (tm (.i f) (tm (.i a) (to (sar rfl rfl rfl) (tm (.i g) (tm (.fn c e) ?_))))))))));obtain ⟨z, A, h⟩ := bns h;refine bB rfl (eZ (passed := [.arr b 76 4 (l.map aE)]) (aD rfl) rfl (.func _ _ Tryz.call133) rfl rfl (qK l f (w64 (f + a)) g j c e p q A)) ?_;rintro _ ⟨_, _, ⟨rfl, rfl⟩, rfl⟩;refine aB (aC (aA (tm (.i g) (ta (.i g) (aB (aA (tm (.i g) (tm (.i a) (to (sar rfl rfl rfl) (to (sar rfl rfl rfl) (ta (.i (w64 (g + (w64 (2 * a))))) ?_)))))))))));refine cQ ?_;exact ⟨(g, w64 (g + (w64 (2 * a))), z), h, aP [0] rfl rfl (aG rfl (aG rfl (aG rfl (aL ⟨rfl, rfl, rfl, trivial⟩))))⟩
   ·refine bP ?_;refine .inl ⟨rfl, ?_⟩;simp only [mE] at h;refine aC (aC (aA (tm (.i f) (tm (.i a) (to (sar rfl rfl rfl) (ta (.i (w64 (f + a))) (aB (aC (aA (tm (.i (w64 (f + a))) (tm (.i n) (to (scm rfl rfl rfl) (aB ?_)))))))))))));refine tih h (fun B h => ?_) (fun B h => ?_)
    ·refine aA (tm (.d (.lit b)) (tm (.i f) (tm (.i (w64 (f + a))) (tm (.i n) (tm (.fn c e) ?_)))));obtain ⟨C, E, h⟩ := bns h;refine bB rfl (eZ (passed := [.arr b 76 4 (l.map aE)]) (aD rfl) rfl (.func _ _ Tryz.call133) rfl rfl (qK l f (w64 (f + a)) n j c e p q E)) ?_;rintro _ ⟨_, _, ⟨rfl, rfl⟩, rfl⟩;refine aB (aA (tm (.i a) (to (sar rfl rfl rfl) (ta (.i (w64 (a * 2))) ?_))));refine cQ ?_;simp only [gP] at h;exact ⟨(w64 (a * 2), C), h, aP [0] rfl rfl (aG rfl (aG rfl (aL ⟨rfl, rfl, trivial⟩)))⟩
    ·refine aX (aA (tm (.i a) (to (sar rfl rfl rfl) (ta (.i (w64 (a * 2))) ?_))));refine cQ ?_;simp only [gP] at h;exact ⟨(w64 (a * 2), l), h, aP [0] rfl rfl (aG rfl (aG rfl (aL ⟨rfl, rfl, trivial⟩)))⟩
  ·refine bP ?_;refine .inl ⟨rfl, ?_⟩;simp only [mD] at h;obtain rfl := sIn h;exact ⟨_, [.arr b 76 4 (v.map aE)], [], _, .none, .refl _, .same _, rfl, rfl⟩

theorem xX (f : List aH) (e : aH → aH → Option Int) {r : (List aH)} {b : Value} (a : Nat) (c : List AV) (g : ∀ args w, (callFunc a args).run Tryz.prog w = .ok (.enter a args) w) (j : ∀ (x0 : aH) (x1 : aH) r, e x0 x1 = some r → Fn Tryz.prog a ([.agg (aE x0), .agg (aE x1)] ++ c) (.i r)) (h : iB f e = some r) : fY Tryz.prog 94 [.d (.lit b), .fn a c] [.arr b 76 4 (f.map aE)] (fun r' o' => r' = .tup [] ∧ o' = [.arr b 76 4 (r.map aE)]) := by
 unfold iB at h;refine uT Tryz.func94 rfl (rs := []) Tryz.results94 Tryz.ntmps94 (Nat.le_of_ble_eq_true rfl) ?_;refine aA (tm (.d (.lit b)) (tm (.d (.lit b)) (to (kR (m := 0) (aD rfl) rfl rfl cR.of) ?_)));refine tm (.fn a c) ?_;obtain ⟨r1, h2, h⟩ := bns h;refine bB rfl (eZ (passed := [.arr b 76 4 (f.map aE)]) (aD rfl) rfl (.func _ _ Tryz.call114) rfl rfl (yI f (f.length : Int) e a c g j h2)) ?_;rintro _ ⟨_, _, ⟨rfl, rfl⟩, rfl⟩;refine aB ?_;obtain rfl := sIn h;exact ⟨_, [.arr b 76 4 (r1.map aE)], [], _, .none, .refl _, .same _, rfl, rfl⟩

theorem aNu (a : aH) (b : aH) {r : Int} (h : tK a b = some r) : Fn Tryz.prog 95 [.agg (aE a), .agg (aE b)] (.i r) := by
 unfold tK at h;refine Fn.of_tr Tryz.func95 rfl (rs := [.tmp 4]) Tryz.results95 Tryz.ntmps95 (Nat.le_of_ble_eq_true rfl) ?_;refine aC (aA ?_);refine bB rfl (dC (v := .agg (aE a)) (aD rfl) rfl rfl rfl) ?_;rintro _ ⟨b1, rfl⟩;refine bB rfl (dC (v := .agg (aE b)) (aD rfl) rfl rfl rfl) ?_;rintro _ ⟨b2, rfl⟩;refine ta (.i 0) (aB (aC (aA (tfl 0 rfl rfl mU rfl aR (tfl 1 rfl rfl mU rfl aR (to (sar rfl rfl rfl) (ta (.i (w64 (a.Id - b.Id))) (aB ?_))))))));obtain rfl := sIn h;refine bL (bG (bH (l := [4]) ⟨rfl, trivial⟩)) ?_;exact aZ ⟨rfl, _, .one _, rfl, rfl⟩

theorem aCb (s : List aH) {r : (List aH)} {j : Value} (h : kV s = some r) : fY Tryz.prog 96 [.d (.lit j)] [.arr j 76 4 (s.map aE)] (fun r' o' => ∃ w0 : Value, r' = .d (.lit w0) ∧ o' = [.arr w0 76 4 (r.map aE)]) := by
 unfold kV at h;refine kQ Tryz.func96 rfl (rs := [.tmp 2]) Tryz.results96 Tryz.ntmps96 (Nat.le_of_ble_eq_true rfl) ?_;refine aC (aA (to (gU 76 4 (.inl rfl) (aD rfl)) ?_));refine aB (aC (aC (aA (tm (.d (.lit j)) (to (kR (m := 0) (aD rfl) rfl rfl cR.of) ?_)))));refine to (scm rfl rfl rfl) (aB ?_);refine tih h (fun c2 h => ?_) (fun c2 h => ?_)
 ·refine aC (aA (tm (.d (.lit j)) (ta (.d (.lit j)) (aB ?_))));obtain rfl := sIn h;exact aZ ⟨rfl, _, [.arr j 76 4 (s.map aE)], [.arr (.slice none 0 0) 76 4 (([] : List aH).map aE)], _, .one (.tmp 2 (v := .d (.lit j)) rfl), .refl _, .same _, j, rfl, rfl⟩
 ·refine aX (aC (aC (aA (ta (.i 1) (aB (bA ?_))))));refine bO (S := Int × (List aH) × Value) [] (fun s3 => [(0, .d (.lit s3.2.2)), (3, .i s3.1)]) (fun s3 => [.arr s3.2.2 76 4 (s3.2.1.map aE)]) (fun k s3 => dS k s3.1 s3.2.1) (fun _ => rfl) (1, s, j) h (aP [0] rfl rfl (aG rfl (aG rfl (aL trivial)))) ?_;rintro k5 ⟨c, p, w4⟩ h;simp only [dS] at h;refine aC (aC (aA (tm (.i c) (tm (.d (.lit w4)) (to (kR (m := 0) (aD rfl) rfl rfl cR.of) ?_)))));refine to (scm rfl rfl rfl) (aB ?_);refine tih h (fun c6 h => ?_) (fun c6 h => ?_)
  ·refine aX (aC (bA (aC ?_)));obtain ⟨x7, h8, h⟩ := bns h;obtain ⟨x9, x, h⟩ := bns h;refine cL mix 9 [0, 3] [(19, .agg (aE x7)), (24, .agg (aE x9))] ?_ ?_
   ·refine ⟨[(16, 0, .d (.lit w4)), (17, 1, .i c), (18, 2, .ep w4 4 c.toNat 0), (19, 3, .agg (aE x7)), (20, 4, .d (.lit w4)), (21, 5, .i c), (22, 6, .i (w64 (c - 1))), (23, 7, .ep w4 4 (w64 (c - 1)).toNat 0), (24, 8, .agg (aE x9))], ?_, ?_⟩
    · exact dok [([], []), ([], []), ([0, 1], []), ([2], []), ([], []), ([], []), ([5], []), ([4, 6], []), ([7], [])] ⟨go (zm (.d (.lit w4))),
      go (zm (.i c)),
      go (zia 0 rfl rfl rfl cR.of (aY aE h8)),
      go fun S hS => eF (aD rfl) (aW hS rfl) (l := 0) rfl (dW aE h8) fV (es := (aE x7)) rfl rfl,
      go (zm (.d (.lit w4))),
      go (zm (.i c)),
      go (zar rfl rfl rfl),
      go (zia 0 rfl rfl rfl cR.of (aY aE x)),
      go fun S hS => eF (aD rfl) (aW hS rfl) (l := 0) rfl (dW aE x) fV (es := (aE x9)) rfl rfl, trivial⟩
    · exact cF (aG rfl (aG rfl (aL ⟨rfl, rfl, trivial⟩)))
   ·refine to (aUo (a := x7) (b := x9) (aD rfl) rfl rfl rfl rfl Tryz.eqGuardType76 aHw) ?_;refine aB ?_;refine tih h (fun C h => ?_) (fun C h => ?_)
    ·refine aC (aA (tm (.d (.lit w4)) (tm (.i c) ?_)));obtain ⟨K, E, h⟩ := bns h;refine to (zA (m := 0) (aD rfl) rfl rfl rfl cR.of E) ?_;refine ta (.d (.lit (kT w4 c.toNat 4))) (aB (aC (aC (aA (ta (.i 1) (aB (bA ?_)))))));refine bO (S := Int × Int × (List aH)) [] (fun o => [(0, .d (.lit w4)), (3, .i o.1), (4, .d (.lit (kT w4 c.toNat 4))), (5, .i o.2.1)]) (fun o => [.arr w4 76 4 (o.2.2.map aE)]) (fun k o => eY (dS k5) c k o.1 o.2.1 o.2.2) (fun _ => rfl) (c, 1, p) h (aP [0] rfl rfl (aG rfl (aG rfl (aG rfl (aG rfl (aL trivial)))))) ?_;rintro L ⟨g, e, n⟩ h;simp only [eY] at h;refine aC (aC (aA (tm (.i e) (tm (.d (.lit (kT w4 c.toNat 4))) (to (aNg (m := 0) (aD rfl) rfl rfl cR.of) ?_)))));refine to (scm rfl rfl rfl) (aB ?_);refine tih h (fun F h => ?_) (fun F h => ?_)
     ·refine aX (aC (bA (aC ?_)));obtain ⟨t, y, h⟩ := bns h;obtain ⟨u, z, h⟩ := bns h;refine cL mix 9 [0, 3, 4, 5] [(38, .agg (aE t)), (43, .agg (aE u))] ?_ ?_
      ·refine ⟨[(35, 0, .d (.lit (kT w4 c.toNat 4))), (36, 1, .i e), (37, 2, .ep w4 4 (c.toNat + e.toNat) 0), (38, 3, .agg (aE t)), (39, 4, .d (.lit (kT w4 c.toNat 4))), (40, 5, .i e), (41, 6, .i (w64 (e - 1))), (42, 7, .ep w4 4 (c.toNat + (w64 (e - 1)).toNat) 0), (43, 8, .agg (aE u))], ?_, ?_⟩
       · exact dok [([], []), ([], []), ([0, 1], []), ([2], []), ([], []), ([], []), ([5], []), ([4, 6], []), ([7], [])] ⟨go (zm (.d (.lit (kT w4 c.toNat 4)))),
      go (zm (.i e)),
      go fun S hS => uW (m := 0) (aD rfl) (aW hS rfl) rfl (aW hS rfl) cR.of (tQ (f := aE) y),
      go fun S hS => eF (aD rfl) (aW hS rfl) (l := 0) rfl (aCi aE y) fV (es := (aE t)) rfl rfl,
      go (zm (.d (.lit (kT w4 c.toNat 4)))),
      go (zm (.i e)),
      go (zar rfl rfl rfl),
      go fun S hS => uW (m := 0) (aD rfl) (aW hS rfl) rfl (aW hS rfl) cR.of (tQ (f := aE) z),
      go fun S hS => eF (aD rfl) (aW hS rfl) (l := 0) rfl (aCi aE z) fV (es := (aE u)) rfl rfl, trivial⟩
       · exact cF (aG rfl (aG rfl (aL ⟨rfl, rfl, rfl, rfl, trivial⟩)))
      ·refine to (vH (a := t) (b := u) (aD rfl) rfl rfl rfl rfl Tryz.eqGuardType76 aHw) ?_;refine aB ?_;refine tih h (fun G h => ?_) (fun G h => ?_)
       ·refine aC (aA (tm (.d (.lit w4)) (tm (.i g) (tm (.d (.lit (kT w4 c.toNat 4))) (tm (.i e) ?_)))));obtain ⟨w, A, h⟩ := bns h;refine to (uW (m := 0) (aD rfl) rfl rfl rfl cR.of (tQ (f := aE) A)) ?_;refine to (eF (aD rfl) rfl (l := 0) rfl (aCi aE A) fV (es := (aE w)) rfl rfl) ?_;obtain ⟨M, B, h⟩ := bns h;refine to (dM (m := 0) (aD rfl) rfl rfl rfl cR.of (aY aE B)) ?_;refine to (lU (l := 0) rfl rfl (dW aE B) rfl rfl rfl Tryz.sizeOf76 rfl (aD rfl) (Nat.le_of_ble_eq_true rfl) (rows' := ((n.set g.toNat w)).map aE) (tL _ _ _ _ rfl)) ?_;refine aB (aA (tm (.i g) (to (sar rfl rfl rfl) (ta (.i (w64 (g + 1))) ?_))));refine cQ ?_;refine aA (tm (.i e) (to (sar rfl rfl rfl) (ta (.i (w64 (e + 1))) (aB ?_))));exact ⟨(w64 (g + 1), w64 (e + 1), (n.set g.toNat w)), h, aP [0] rfl rfl (aG rfl (aG rfl (aG rfl (aG rfl (aL trivial)))))⟩
       ·refine cK ?_;refine aA (tm (.i e) (to (sar rfl rfl rfl) (ta (.i (w64 (e + 1))) (aB ?_))));exact ⟨(g, w64 (e + 1), n), h, aP [0] rfl rfl (aG rfl (aG rfl (aG rfl (aG rfl (aL trivial)))))⟩
     ·refine bP ?_;refine .inl ⟨rfl, ?_⟩;simp only [pM] at h;refine aC (aA (tm (.d (.lit w4)) (tm (.i g) ?_)));obtain ⟨N, H, h⟩ := bns h;refine to (zA (m := 0) (aD rfl) rfl rfl rfl cR.of H) ?_;obtain ⟨O, I, h⟩ := bns h;refine to (aRg (f := aE) (m := 0) cR rfl rfl I (by decide)) ?_;refine aB (aC (aA (tm (.d (.lit w4)) (tm (.i g) ?_))));obtain ⟨P, J, h⟩ := bns h;refine to (aJd (m := 0) (q := g.toNat) (v := w4) (aD rfl) rfl rfl rfl rfl (aVh J) cR.of) ?_;refine ta (.d (.lit (mP w4 g.toNat))) (aB ?_);obtain rfl := sIn h;exact aZ ⟨rfl, _, [.arr (mP w4 g.toNat) 76 4 ((n.take g.toNat).map aE)], [], _, .one (.tmp 2 (v := .d (.lit (mP w4 g.toNat))) rfl), .refl _, .same _, (mP w4 g.toNat), rfl, rfl⟩
    ·refine cK ?_;simp only [pL] at h;refine aA (tm (.i c) (to (sar rfl rfl rfl) (ta (.i (w64 (c + 1))) (aB ?_))));exact ⟨(w64 (c + 1), p, w4), h, aP [0] rfl rfl (aG rfl (aG rfl (aL trivial)))⟩
  ·refine bP ?_;refine .inl ⟨rfl, ?_⟩;simp only [pK] at h;refine aC (aA (tm (.d (.lit w4)) (ta (.d (.lit w4)) (aB ?_))));obtain rfl := sIn h;exact aZ ⟨rfl, _, [.arr w4 76 4 (p.map aE)], [], _, .one (.tmp 2 (v := .d (.lit w4)) rfl), .refl _, .same _, w4, rfl, rfl⟩

theorem aIz (q : List aH) {r : (List aH) × Bool} (h : qD q = some r) : Fn Tryz.prog 69 [.d (.sl 4 (q.map aE))] (.tup [.d (.sl 4 (r.1.map aE)), .b r.2]) := by
 unfold qD at h;refine Fn.of_tr Tryz.func69 rfl (rs := [.tmp 2, .tmp 3]) Tryz.results69 Tryz.ntmps69 (Nat.le_of_ble_eq_true rfl) ?_;refine aC (aA (to (xJ 4 (aD rfl)) ?_));refine ta (.b false) (aB (aC (aA (tm (.d (.sl 4 (q.map aE))) ?_))));obtain ⟨r1, h2, h⟩ := bns h;refine bB rfl (aBx (aD rfl) (.func _ _ Tryz.call93) rfl rfl (aDe _ h2)) ?_;rintro _ ⟨v3, rfl⟩;refine ta (.d (.lit v3)) (aB (aC (aA (tm (.d (.lit v3)) ?_))));obtain ⟨r6, h7, h⟩ := bns h;refine bB rfl (eZ (passed := [.arr v3 76 4 (r1.map aE)]) (aD rfl) rfl (.func _ _ Tryz.call94) rfl rfl (xX r1 (fun y4 y5 => tK y4 y5) 95 [] Tryz.call95 (fun _ _ _ h => aNu _ _ h) h7)) ?_;rintro _ ⟨_, _, ⟨rfl, rfl⟩, rfl⟩;refine aB (aC (aC (aA (ta (.i 1) (aB (bA ?_))))));refine bO (S := Int) [4] (fun s8 => [(5, .i s8)]) (fun s8 => [.arr v3 76 4 (r6.map aE)]) (fun k s8 => lT r6 k s8) (fun _ => rfl) (1) h (aP [0] rfl rfl (aG rfl (aL ⟨rfl, trivial⟩))) ?_;rintro k9 c h;simp only [lT] at h;refine aC (aC (aA (tm (.i c) (tm (.d (.lit v3)) (to (kR (m := 0) (aD rfl) rfl rfl cR.of) ?_)))));refine to (scm rfl rfl rfl) (aB ?_);refine tih h (fun x h => ?_) (fun x h => ?_)
 ·refine aX (aC (bA (aC ?_)));obtain ⟨j, s, h⟩ := bns h;obtain ⟨n, t, h⟩ := bns h;obtain ⟨y, g, h⟩ := bns h;refine cL mix 24 [4, 5] [(39, .b y)] ?_ ?_
  ·refine bch g (fun e g => ?_) (fun e g => ?_)
   ·obtain ⟨o, u, g⟩ := bns g;obtain ⟨p, w, g⟩ := bns g;obtain rfl := sIn g;refine ⟨[(16, 0, .d (.lit v3)), (17, 1, .i c), (18, 2, .ep v3 4 c.toNat 0), (19, 3, .ep v3 4 c.toNat 0), (20, 4, .i j.Id), (21, 5, .d (.lit v3)), (22, 6, .i c), (23, 7, .i (w64 (c - 1))), (24, 8, .ep v3 4 (w64 (c - 1)).toNat 0), (25, 9, .ep v3 4 (w64 (c - 1)).toNat 0), (26, 10, .i n.Id), (27, 11, .b (decide (j.Id = n.Id))), (28, 12, .b (decide (j.Id = n.Id))), (29, 13, .d (.lit v3)), (30, 14, .i c), (31, 15, .ep v3 4 c.toNat 0), (32, 16, .agg (aE o)), (33, 17, .d (.lit v3)), (34, 18, .i c), (35, 19, .i (w64 (c - 1))), (36, 20, .ep v3 4 (w64 (c - 1)).toNat 0), (37, 21, .agg (aE p)), (38, 22, .b (!decide (o = p))), (39, 23, .b (!decide (o = p)))], ?_, ?_⟩
    · exact dok [([], []), ([], []), ([0, 1], []), ([2], []), ([3], []), ([], []), ([], []), ([6], []), ([5, 7], []), ([8], []), ([9], []), ([4, 10], []), ([11], []), ([12], []), ([12], []), ([12, 13, 14], []), ([12, 15], []), ([12], []), ([12], []), ([12, 18], []), ([12, 17, 19], []), ([12, 20], []), ([12, 16, 21], []), ([12, 22], [])] ⟨go (zm (.d (.lit v3))),
      go (zm (.i c)),
      go (zia 0 rfl rfl rfl cR.of (aY aE s)),
      go fun S hS => aBy (aD rfl) (aW hS rfl) mU,
      go fun S hS => iZ (aD rfl) (aW hS rfl) (m := 0) rfl (dW aE s) rfl aR,
      go (zm (.d (.lit v3))),
      go (zm (.i c)),
      go (zar rfl rfl rfl),
      go (zia 0 rfl rfl rfl cR.of (aY aE t)),
      go fun S hS => aBy (aD rfl) (aW hS rfl) mU,
      go fun S hS => iZ (aD rfl) (aW hS rfl) (m := 0) rfl (dW aE t) rfl aR,
      go (zcm rfl rfl rfl),
      go (zm (.b (decide (j.Id = n.Id)))),
      gt e (zm (.d (.lit v3))),
      gt e (zm (.i c)),
      gt e (zia 0 rfl rfl rfl cR.of (aY aE u)),
      gt e fun S hS => eF (aD rfl) (aW hS rfl) (l := 0) rfl (dW aE u) fV (es := (aE o)) rfl rfl,
      gt e (zm (.d (.lit v3))),
      gt e (zm (.i c)),
      gt e (zar rfl rfl rfl),
      gt e (zia 0 rfl rfl rfl cR.of (aY aE w)),
      gt e fun S hS => eF (aD rfl) (aW hS rfl) (l := 0) rfl (dW aE w) fV (es := (aE p)) rfl rfl,
      gt e fun S hS => vH (a := o) (b := p) (aD rfl) (aW hS rfl) (aW hS rfl) rfl rfl Tryz.eqGuardType76 aHw,
      go (zpt (.b (!decide (o = p))) e), trivial⟩
    · exact cF (aG rfl (aL ⟨rfl, rfl, trivial⟩))
   ·obtain rfl := sIn g;refine ⟨[(16, 0, .d (.lit v3)), (17, 1, .i c), (18, 2, .ep v3 4 c.toNat 0), (19, 3, .ep v3 4 c.toNat 0), (20, 4, .i j.Id), (21, 5, .d (.lit v3)), (22, 6, .i c), (23, 7, .i (w64 (c - 1))), (24, 8, .ep v3 4 (w64 (c - 1)).toNat 0), (25, 9, .ep v3 4 (w64 (c - 1)).toNat 0), (26, 10, .i n.Id), (27, 11, .b (decide (j.Id = n.Id))), (28, 12, .b (decide (j.Id = n.Id))), (29, 13, .tup []), (30, 14, .tup []), (31, 15, .tup []), (32, 16, .tup []), (33, 17, .tup []), (34, 18, .tup []), (35, 19, .tup []), (36, 20, .tup []), (37, 21, .tup []), (38, 22, .tup []), (39, 23, .b false)], ?_, ?_⟩
    · exact dok [([], []), ([], []), ([0, 1], []), ([2], []), ([3], []), ([], []), ([], []), ([6], []), ([5, 7], []), ([8], []), ([9], []), ([4, 10], []), ([11], []), ([12], []), ([12], []), ([12, 13, 14], []), ([12, 15], []), ([12], []), ([12], []), ([12, 18], []), ([12, 17, 19], []), ([12, 20], []), ([12, 16, 21], []), ([12, 22], [])] ⟨go (zm (.d (.lit v3))),
      go (zm (.i c)),
      go (zia 0 rfl rfl rfl cR.of (aY aE s)),
      go fun S hS => aBy (aD rfl) (aW hS rfl) mU,
      go fun S hS => iZ (aD rfl) (aW hS rfl) (m := 0) rfl (dW aE s) rfl aR,
      go (zm (.d (.lit v3))),
      go (zm (.i c)),
      go (zar rfl rfl rfl),
      go (zia 0 rfl rfl rfl cR.of (aY aE t)),
      go fun S hS => aBy (aD rfl) (aW hS rfl) mU,
      go fun S hS => iZ (aD rfl) (aW hS rfl) (m := 0) rfl (dW aE t) rfl aR,
      go (zcm rfl rfl rfl),
      go (zm (.b (decide (j.Id = n.Id)))),
      gp e,
      gp e,
      gp e,
      gp e,
      gp e,
      gp e,
      gp e,
      gp e,
      gp e,
      gp e,
      go (zpf (.b false) e), trivial⟩
    · exact cF (aG rfl (aL ⟨rfl, rfl, trivial⟩))
  ·refine aB ?_;refine tih h (fun z h => ?_) (fun z h => ?_)
   ·refine aC (aA (to (xJ 4 (aD rfl)) ?_));refine ta (.b false) (aB ?_);obtain rfl := sIn h;refine bL (bG (bH (l := [2, 3]) ⟨rfl, rfl, trivial⟩)) ?_;exact aZ ⟨rfl, _, .two _ _, rfl, rfl⟩
   ·refine cK ?_;refine aA (tm (.i c) (to (sar rfl rfl rfl) (ta (.i (w64 (c + 1))) (aB ?_))));exact ⟨(w64 (c + 1)), h, aP [0] rfl rfl (aG rfl (aL ⟨rfl, trivial⟩))⟩
 ·refine bP ?_;refine .inl ⟨rfl, ?_⟩;simp only [aBi] at h;refine aC (aA (tm (.d (.lit v3)) ?_));obtain ⟨A, B, h⟩ := bns h;refine bB rfl (eZ (passed := [.arr v3 76 4 (r6.map aE)]) (aD rfl) rfl (.func _ _ Tryz.call96) rfl rfl (aCb r6 B)) ?_;rintro _ ⟨_, _, ⟨C, rfl, rfl⟩, rfl⟩;refine ta (.d (.lit C)) (ta (.b true) (aB ?_));obtain rfl := sIn h;refine bL (bG (uU (k := 3) (v := .b true) (.same _) (uU (k := 2) (v := .d (.sl 4 (A.map aE))) (.d (mT 0 rfl (cP (f := aE) fun _ => rfl))) (zM)))) ?_;exact aZ ⟨rfl, _, .two _ _, rfl, rfl⟩

theorem aLj (o : aN) {r : Bool} (h : tI o = some r) : Fn Tryz.prog 48 [.agg (aJ o)] (.b r) := by
 unfold tI at h;refine Fn.of_tr Tryz.func48 rfl (rs := [.tmp 2]) Tryz.results48 Tryz.ntmps48 (Nat.le_of_ble_eq_true rfl) ?_;refine aC (aA ?_);refine bB rfl (dC (v := .agg (aJ o)) (aD rfl) rfl rfl rfl) ?_;rintro _ ⟨b1, rfl⟩;refine ta (.b false) (aB (aC (aA (to (sla 0 (aJ o) rfl rfl dA) ?_))));obtain ⟨r2, h3, h⟩ := bns h;refine to (dL (aD rfl) (.func _ _ Tryz.call55) rfl rfl (yX _ h3)) ?_;refine ta (.d (.sl 1 (r2.map aM))) (aB (aC (aC (aA (tfl 0 rfl rfl kX rfl rA (to (sle rfl cR.of) (tm (.i 0) (aB (bA ?_)))))))));refine bO (S := Int) [1, 3, 12, 13] (fun s4 => [(14, .i s4)]) (fun s4 => [.box b1 0 (aJ o)]) (fun k s4 => jJ r2 o.Items (o.Items.length : Int) o k s4) (fun _ => rfl) (0) h (aP [0] rfl rfl (aG rfl (aL ⟨rfl, rfl, rfl, rfl, trivial⟩))) ?_;rintro k5 g h;simp only [jJ] at h;refine aC (aA (to (scm rfl rfl rfl) (aB (aC ?_))));refine tih h (fun c6 h => ?_) (fun c6 h => ?_)
 ·refine aX (aC (bA (aC (aA ?_))));obtain ⟨x7, h8, h⟩ := bns h;refine to (six rfl rfl cR.of (aY aE h8)) (to (pJ (aE x7) rfl fV) ?_);refine bB rfl (cH (zs := [.lit (.int .i64 0), .lit (.int .i64 0), .lit (.int .i64 0), .lit (.int .i64 0)]) (aD rfl) Tryz.zeroValue76 rfl rfl) ?_;rintro _ ⟨b9, rfl⟩;refine to (sst 1 rfl rfl Tryz.sizeOf76 (aE x7)) (aB (aC (aA (ta (.i 10000000) (aB (aC (aC (aA (tfl 1 rfl rfl uF rfl aR (to (scm rfl rfl rfl) (aB ?_)))))))))));refine tih h (fun L h => ?_) (fun L h => ?_)
  ·refine aA (ta (.i 30) (aB (aC (aA (tfl 1 rfl rfl uF rfl aR (to (scm rfl rfl rfl) (tm (.b (!decide (x7.Kind = 1))) ?_)))))));obtain ⟨E, A, h⟩ := bns h;refine bD 4 [1, 3, 5, 6, 12, 13, 14] 28 E ?_ ?_
   ·refine bch A (fun p A => ?_) (fun p A => ?_)
    ·refine tkl 1 p rfl rfl uF rfl aR (tk p (scm rfl rfl rfl) (to (spt (.b (!decide (x7.Kind = 2))) p) ?_));obtain rfl := sIn A;refine aB (aO rfl ⟨rfl, rfl, rfl, rfl, rfl, rfl, rfl, trivial⟩ rfl)
    ·refine tp p (tp p (tp p (to (spf (.b false) p) ?_)));obtain rfl := sIn A;refine aB (aO rfl ⟨rfl, rfl, rfl, rfl, rfl, rfl, rfl, trivial⟩ rfl)
   ·refine tm (.b E) ?_;obtain ⟨F, s, h⟩ := bns h;refine bD 5 [1, 3, 5, 6, 12, 13, 14] 34 F ?_ ?_
    ·refine bch s (fun j s => ?_) (fun j s => ?_)
     ·refine tp j (tp j (tp j (tp j (to (spt (.b true) j) ?_))));obtain rfl := sIn s;refine aB (aO rfl ⟨rfl, rfl, rfl, rfl, rfl, rfl, rfl, trivial⟩ rfl)
     ·refine tkl 1 j rfl rfl mU rfl aR ?_;obtain ⟨M, N, s⟩ := bns s;refine tk j (scr Tryz.call61 (hC _ _ _ N)) (tk j (sn rfl) (to (spf (.b (!M)) j) ?_));obtain rfl := sIn s;refine aB (aO rfl ⟨rfl, rfl, rfl, rfl, rfl, rfl, rfl, trivial⟩ rfl)
    ·refine tm (.b F) ?_;obtain ⟨G, t, h⟩ := bns h;refine bD 6 [1, 3, 5, 6, 12, 13, 14] 41 G ?_ ?_
     ·refine bch t (fun a t => ?_) (fun a t => ?_)
      ·refine tp a (tp a (tp a (tp a (tp a (to (spt (.b true) a) ?_)))));obtain rfl := sIn t;refine aB (aO rfl ⟨rfl, rfl, rfl, rfl, rfl, rfl, rfl, trivial⟩ rfl)
      ·refine tk a (sm (.d (.sl 1 (r2.map aM)))) (tkl 1 a rfl rfl aCs rfl aR ?_);obtain ⟨O, P, t⟩ := bns t;refine tk a (scr Tryz.call60 (fB _ _ P)) (tk a (sn rfl) (to (spf (.b (!O)) a) ?_));obtain rfl := sIn t;refine aB (aO rfl ⟨rfl, rfl, rfl, rfl, rfl, rfl, rfl, trivial⟩ rfl)
     ·refine tm (.b G) ?_;obtain ⟨Q, u, h⟩ := bns h;refine bD 6 [1, 3, 12, 13, 14] 48 Q ?_ ?_
      ·refine bch u (fun c u => ?_) (fun c u => ?_)
       ·refine tp c (tp c (tp c (tp c (tp c (to (spt (.b true) c) ?_)))));obtain rfl := sIn u;refine aB (aO rfl ⟨rfl, rfl, rfl, rfl, rfl, trivial⟩ rfl)
       ·refine tkl 1 c rfl rfl vU rfl aR (tk c (sm (.i 30)) ?_);obtain ⟨T, U, u⟩ := bns u;refine tk c (scr Tryz.call61 (hC _ _ _ U)) (tk c (sn rfl) (to (spf (.b (!T)) c) ?_));obtain rfl := sIn u;refine aB (aO rfl ⟨rfl, rfl, rfl, rfl, rfl, trivial⟩ rfl)
      ·refine aB ?_;refine tih h (fun V h => ?_) (fun V h => ?_)
       ·refine aC (aA (ta (.b false) (aB ?_)));obtain rfl := sIn h;refine bL (bG (bH (l := [2]) ⟨rfl, trivial⟩)) ?_;exact aZ ⟨rfl, _, .one _, rfl, rfl⟩
       ·refine cK ?_;refine aA (to (sar rfl rfl rfl) (tm (.i (w64 (g + 1))) (aB ?_)));exact ⟨(w64 (g + 1)), h, aP [0] rfl rfl (aG rfl (aL ⟨rfl, rfl, rfl, rfl, trivial⟩))⟩
  ·refine aX (aC (aA (tfl 1 rfl rfl uF rfl aR (to (scm rfl rfl rfl) (tm (.b (!decide (x7.Kind = 1))) ?_)))));obtain ⟨H, B, h⟩ := bns h;refine bD 4 [1, 3, 5, 6, 12, 13, 14] 28 H ?_ ?_
   ·refine bch B (fun q B => ?_) (fun q B => ?_)
    ·refine tkl 1 q rfl rfl uF rfl aR (tk q (scm rfl rfl rfl) (to (spt (.b (!decide (x7.Kind = 2))) q) ?_));obtain rfl := sIn B;refine aB (aO rfl ⟨rfl, rfl, rfl, rfl, rfl, rfl, rfl, trivial⟩ rfl)
    ·refine tp q (tp q (tp q (to (spf (.b false) q) ?_)));obtain rfl := sIn B;refine aB (aO rfl ⟨rfl, rfl, rfl, rfl, rfl, rfl, rfl, trivial⟩ rfl)
   ·refine tm (.b H) ?_;obtain ⟨I, w, h⟩ := bns h;refine bD 5 [1, 3, 5, 6, 12, 13, 14] 34 I ?_ ?_
    ·refine bch w (fun m w => ?_) (fun m w => ?_)
     ·refine tp m (tp m (tp m (tp m (to (spt (.b true) m) ?_))));obtain rfl := sIn w;refine aB (aO rfl ⟨rfl, rfl, rfl, rfl, rfl, rfl, rfl, trivial⟩ rfl)
     ·refine tkl 1 m rfl rfl mU rfl aR ?_;obtain ⟨W, X, w⟩ := bns w;refine tk m (scr Tryz.call61 (hC _ _ _ X)) (tk m (sn rfl) (to (spf (.b (!W)) m) ?_));obtain rfl := sIn w;refine aB (aO rfl ⟨rfl, rfl, rfl, rfl, rfl, rfl, rfl, trivial⟩ rfl)
    ·refine tm (.b I) ?_;obtain ⟨J, x, h⟩ := bns h;refine bD 6 [1, 3, 5, 6, 12, 13, 14] 41 J ?_ ?_
     ·refine bch x (fun e x => ?_) (fun e x => ?_)
      ·refine tp e (tp e (tp e (tp e (tp e (to (spt (.b true) e) ?_)))));obtain rfl := sIn x;refine aB (aO rfl ⟨rfl, rfl, rfl, rfl, rfl, rfl, rfl, trivial⟩ rfl)
      ·refine tk e (sm (.d (.sl 1 (r2.map aM)))) (tkl 1 e rfl rfl aCs rfl aR ?_);obtain ⟨Y, Z, x⟩ := bns x;refine tk e (scr Tryz.call60 (fB _ _ Z)) (tk e (sn rfl) (to (spf (.b (!Y)) e) ?_));obtain rfl := sIn x;refine aB (aO rfl ⟨rfl, rfl, rfl, rfl, rfl, rfl, rfl, trivial⟩ rfl)
     ·refine tm (.b J) ?_;obtain ⟨a0, y, h⟩ := bns h;refine bD 6 [1, 3, 12, 13, 14] 48 a0 ?_ ?_
      ·refine bch y (fun f y => ?_) (fun f y => ?_)
       ·refine tp f (tp f (tp f (tp f (tp f (to (spt (.b true) f) ?_)))));obtain rfl := sIn y;refine aB (aO rfl ⟨rfl, rfl, rfl, rfl, rfl, trivial⟩ rfl)
       ·refine tkl 1 f rfl rfl vU rfl aR (tk f (sm (.i 10000000)) ?_);obtain ⟨a1, a2, y⟩ := bns y;refine tk f (scr Tryz.call61 (hC _ _ _ a2)) (tk f (sn rfl) (to (spf (.b (!a1)) f) ?_));obtain rfl := sIn y;refine aB (aO rfl ⟨rfl, rfl, rfl, rfl, rfl, trivial⟩ rfl)
      ·refine aB ?_;refine tih h (fun a3 h => ?_) (fun a3 h => ?_)
       ·refine aC (aA (ta (.b false) (aB ?_)));obtain rfl := sIn h;refine bL (bG (bH (l := [2]) ⟨rfl, trivial⟩)) ?_;exact aZ ⟨rfl, _, .one _, rfl, rfl⟩
       ·refine cK ?_;refine aA (to (sar rfl rfl rfl) (tm (.i (w64 (g + 1))) (aB ?_)));exact ⟨(w64 (g + 1)), h, aP [0] rfl rfl (aG rfl (aL ⟨rfl, rfl, rfl, rfl, trivial⟩))⟩
 ·refine bP ?_;refine .inl ⟨rfl, ?_⟩;simp only [sZ] at h;refine aC (aA (tfl 0 rfl rfl kX rfl rA ?_));obtain ⟨z, a4, h⟩ := bns h;refine to (dL (aD rfl) (.func _ _ Tryz.call69) rfl rfl (aIz _ a4)) ?_;refine tm (.tup [.d (.sl 4 (z.1.map aE)), .b z.2]) (to (sex rfl rfl) (to (sex rfl rfl) (ta (.d (.sl 4 (z.1.map aE))) (ta (.b z.2) (aB (aC (aA (tm (.b z.2) (tm (.b z.2) ?_)))))))));obtain ⟨K, C, h⟩ := bns h;refine bD 5 [] 62 K ?_ ?_
  ·refine bch C (fun n C => ?_) (fun n C => ?_)
   ·refine tkl 0 n rfl rfl kX rfl rA (tk n (sle rfl cR.of) (tk n (scm rfl rfl rfl) (to (spt (.b (decide ((o.Items.length : Int) ≤ 40))) n) ?_)));obtain rfl := sIn C;refine aB (aO rfl trivial rfl)
   ·refine tp n (tp n (tp n (tp n (to (spf (.b false) n) ?_))));obtain rfl := sIn C;refine aB (aO rfl trivial rfl)
  ·refine ta (.b K) (aB ?_);obtain rfl := sIn h;refine bL (bG (bH (l := [2]) ⟨rfl, trivial⟩)) ?_;exact aZ ⟨rfl, _, .one _, rfl, rfl⟩

theorem aLw (a0 : aV) (a1 : List aF) {r : Int} (h : vG a0 a1 = some r) : Fn Tryz.prog 45 [.agg (bC a0), .d (.sl 5 (a1.map aK))] ((fun x : Int => .i x) r) := aQm (enc := fun x : Int => .i x) (aLv a0 a1 (aJv a0 a1 h (fun x => x = r) rfl))

theorem xF (a : aN) {r : Int} (h : qJ a = some r) : Fn Tryz.prog 23 [.agg (aJ a)] (.i r) := by
 unfold qJ at h;refine Fn.of_tr Tryz.func23 rfl (rs := [.tmp 2]) Tryz.results23 Tryz.ntmps23 (Nat.le_of_ble_eq_true rfl) ?_;refine aC (aA ?_);refine bB rfl (dC (v := .agg (aJ a)) (aD rfl) rfl rfl rfl) ?_;rintro _ ⟨b1, rfl⟩;refine ta (.i 0) (aB (aC (aC (aA (to (sf rfl fR) (to (sla 0 (bC a.Tree) rfl rfl jZ) (tfl 0 rfl rfl kL rfl pP ?_)))))));obtain ⟨r2, h3, h⟩ := bns h;refine to (scr Tryz.call45 (aLw _ _ h3)) (ta (.i r2) (aB (aC (aA (tm (.i r2) (to (scm rfl rfl rfl) (aB ?_)))))));refine tih h (fun c4 h => ?_) (fun c4 h => ?_)
 ·refine aC (aA (tm (.i r2) (ta (.i r2) (aB ?_))));obtain rfl := sIn h;refine bL (bG (bH (l := [2]) ⟨rfl, trivial⟩)) ?_;exact aZ ⟨rfl, _, .one _, rfl, rfl⟩
 ·refine aX (aC (bA (aC (aA (to (sla 0 (aJ a) rfl rfl dA) ?_)))));obtain ⟨r5, h6, h⟩ := bns h;refine to (scr Tryz.call46 (aNa _ h6)) (to (sn rfl) (ta (.b (!r5)) (aB ?_)));refine tih h (fun c7 h => ?_) (fun c7 h => ?_)
  ·refine aC (aA (ta (.i 100) (aB ?_)));obtain rfl := sIn h;refine bL (bG (bH (l := [2]) ⟨rfl, trivial⟩)) ?_;exact aZ ⟨rfl, _, .one _, rfl, rfl⟩
  ·refine aC (aA (to (sla 0 (aJ a) rfl rfl dA) ?_));obtain ⟨r8, h9, h⟩ := bns h;refine to (scr Tryz.call47 (aLk _ h9)) (to (sn rfl) (ta (.b (!r8)) (aB ?_)));refine tih h (fun c h => ?_) (fun c h => ?_)
   ·refine aC (aA (ta (.i 101) (aB ?_)));obtain rfl := sIn h;refine bL (bG (bH (l := [2]) ⟨rfl, trivial⟩)) ?_;exact aZ ⟨rfl, _, .one _, rfl, rfl⟩
   ·refine aC (aA (to (sla 0 (aJ a) rfl rfl dA) ?_));obtain ⟨d, e, h⟩ := bns h;refine to (scr Tryz.call48 (aLj _ e)) (to (sn rfl) (ta (.b (!d)) (aB ?_)));refine tih h (fun f h => ?_) (fun f h => ?_)
    ·refine aC (aA (ta (.i 102) (aB ?_)));obtain rfl := sIn h;refine bL (bG (bH (l := [2]) ⟨rfl, trivial⟩)) ?_;exact aZ ⟨rfl, _, .one _, rfl, rfl⟩
    ·refine cK ?_;refine aC (aA (ta (.i 0) (aB ?_)));obtain rfl := sIn h;refine bL (bG (bH (l := [2]) ⟨rfl, trivial⟩)) ?_;exact aZ ⟨rfl, _, .one _, rfl, rfl⟩

theorem aRa (b : aN) {r : Int × Int} (h : yW b = some r) : Fn Tryz.prog 31 [.agg (aJ b)] (.tup [.i r.1, .i r.2]) := by
 unfold yW at h;refine Fn.of_tr Tryz.func31 rfl (rs := [.tmp 2, .tmp 3]) Tryz.results31 Tryz.ntmps31 (Nat.le_of_ble_eq_true rfl) ?_;refine aC (aA ?_);refine bB rfl (dC (v := .agg (aJ b)) (aD rfl) rfl rfl rfl) ?_;rintro _ ⟨b1, rfl⟩;refine ta (.i 0) (ta (.i 0) (aB (aC (aC (aA (to (sla 0 (aJ b) rfl rfl dA) ?_))))));obtain ⟨r2, h3, h⟩ := bns h;refine to (scr Tryz.call23 (xF _ h3)) (ta (.i r2) (aB (aC (aA (tm (.i r2) (to (scm rfl rfl rfl) (aB ?_)))))));refine tih h (fun c4 h => ?_) (fun c4 h => ?_)
 ·refine aC (aA (tm (.i r2) (ta (.i 0) (ta (.i r2) (aB ?_)))));obtain rfl := sIn h;refine bL (bG (bH (l := [2, 3]) ⟨rfl, rfl, trivial⟩)) ?_;exact aZ ⟨rfl, _, .two _ _, rfl, rfl⟩
 ·refine aX (aC (aA (tfl 0 rfl rfl fD rfl cG (to (sf rfl fR) (tfl 0 rfl rfl fJ rfl aR ?_)))));obtain ⟨x5, h6, h⟩ := bns h;refine to (six rfl rfl bI.of (aY aM h6)) (to (slc rfl aR) (ta (.i x5) (aB (aC (aC (aA (to (sf rfl fR) (tfl 0 rfl rfl fJ rfl aR (tm (.i 0) (aB (bA ?_)))))))))));refine bO (S := Int × Int) [1, 23] (fun s7 => [(5, .i s7.1), (24, .i s7.2)]) (fun s7 => [.box b1 0 (aJ b)]) (fun k s7 => nD b.Tree.Rounds b k s7.1 s7.2) (fun _ => rfl) (x5, 0) h (aP [0] rfl rfl (aG rfl (aG rfl (aL ⟨rfl, rfl, trivial⟩)))) ?_;rintro k8 ⟨f, a⟩ h;simp only [nD] at h;refine aC (aA (to (scm rfl rfl rfl) (aB (aC ?_))));refine tih h (fun c9 h => ?_) (fun c9 h => ?_)
  ·refine aX (aC (bA (aC (aA (tm (.i a) (ta (.i a) (aB ?_)))))));obtain ⟨g, o, h⟩ := bns h;obtain ⟨w, p, h⟩ := bns h;refine cL mix 13 [1, 23, 24] [(27, .i f), (39, .i (w64 (g * 2 ^ (min (w64 ((w64 (b.Tree.Rounds - 1)) - a)).toNat 64))))] ?_ ?_
   ·refine ⟨[(27, 0, .i f), (28, 1, .bp b1 0 3), (29, 2, .d (.sl 1 (b.Prizes.map aM))), (30, 3, .i a), (31, 4, .cp [.lit (.int .i64 g)]), (32, 5, .i g), (33, 6, .bp b1 0 0), (34, 7, .bp b1 0 0), (35, 8, .i b.Tree.Rounds), (36, 9, .i (w64 (b.Tree.Rounds - 1))), (37, 10, .i a), (38, 11, .i (w64 ((w64 (b.Tree.Rounds - 1)) - a))), (39, 12, .i (w64 (g * 2 ^ (min (w64 ((w64 (b.Tree.Rounds - 1)) - a)).toNat 64))))], ?_, ?_⟩
    · exact dok [([], []), ([], []), ([1], []), ([], []), ([2, 3], []), ([4], []), ([], []), ([6], []), ([7], []), ([8], []), ([], []), ([9, 10], []), ([5, 11], [])] ⟨go (zm (.i f)),
      go (zf rfl fD),
      go (zl 0 rfl rfl rfl cG),
      go (zm (.i a)),
      go (zix rfl rfl bI.of (aY aM o)),
      go (zlc rfl aR),
      go (zf rfl fR),
      go (zf rfl fJ),
      go (zl 0 rfl rfl rfl aR),
      go (zar rfl rfl rfl),
      go (zm (.i a)),
      go (zar rfl rfl rfl),
      go fun S hS => aPq (aD rfl) (aW hS rfl) (aW hS rfl) (xC p), trivial⟩
    · exact cF (aG rfl (aG rfl (aL ⟨rfl, rfl, rfl, trivial⟩)))
   ·refine to (sar rfl rfl rfl) (ta (.i (w64 (f + (w64 (g * 2 ^ (min (w64 ((w64 (b.Tree.Rounds - 1)) - a)).toNat 64)))))) ?_);refine cQ ?_;refine aA (to (sar rfl rfl rfl) (tm (.i (w64 (a + 1))) (aB ?_)));exact ⟨(w64 (f + (w64 (g * 2 ^ (min (w64 ((w64 (b.Tree.Rounds - 1)) - a)).toNat 64)))), w64 (a + 1)), h, aP [0] rfl rfl (aG rfl (aG rfl (aL ⟨rfl, rfl, trivial⟩)))⟩
  ·refine bP ?_;refine .inl ⟨rfl, ?_⟩;simp only [xG] at h;refine aC (aC (aA (to (sf rfl fR) (tfl 0 rfl rfl dH rfl cG (to (sle rfl bI.of) (tm (.i 0) (aB (bA ?_))))))));refine bO (S := Int × Int) [1, 44, 45] (fun j => [(5, .i j.1), (46, .i j.2)]) (fun j => [.box b1 0 (aJ b)]) (fun k j => nE b.Tree.Slots (b.Tree.Slots.length : Int) b k j.1 j.2) (fun _ => rfl) (f, 0) h (aP [0] rfl rfl (aG rfl (aG rfl (aL ⟨rfl, rfl, rfl, trivial⟩)))) ?_;rintro x ⟨c, e⟩ h;simp only [nE] at h;refine aC (aA (to (scm rfl rfl rfl) (aB (aC ?_))));refine tih h (fun q h => ?_) (fun q h => ?_)
   ·refine aX (aC (bA (aC (aA ?_))));obtain ⟨m, s, h⟩ := bns h;refine to (six rfl rfl bI.of (aY aM s)) (to (slc rfl aR) (ta (.i m) (aB (aC (aA (tm (.i m) (to (scm rfl rfl rfl) (aB ?_))))))));refine tih h (fun t h => ?_) (fun t h => ?_)
    ·refine aA (tm (.i c) (tfl 0 rfl rfl fD rfl cG ?_));obtain ⟨n, u, h⟩ := bns h;refine to (six rfl rfl bI.of (aY aM u)) (to (slc rfl aR) (to (sar rfl rfl rfl) (ta (.i (w64 (c - n))) ?_)));refine cQ ?_;refine aA (to (sar rfl rfl rfl) (tm (.i (w64 (e + 1))) (aB ?_)));exact ⟨(w64 (c - n), w64 (e + 1)), h, aP [0] rfl rfl (aG rfl (aG rfl (aL ⟨rfl, rfl, rfl, trivial⟩)))⟩
    ·refine cK ?_;refine aA (to (sar rfl rfl rfl) (tm (.i (w64 (e + 1))) (aB ?_)));exact ⟨(c, w64 (e + 1)), h, aP [0] rfl rfl (aG rfl (aG rfl (aL ⟨rfl, rfl, rfl, trivial⟩)))⟩
   ·refine bP ?_;refine .inl ⟨rfl, ?_⟩;simp only [aGw] at h;refine aC (aA (tm (.i c) (ta (.i c) (ta (.i 0) (aB ?_)))));obtain rfl := sIn h;refine bL (bG (bH (l := [2, 3]) ⟨rfl, rfl, trivial⟩)) ?_;exact aZ ⟨rfl, _, .two _ _, rfl, rfl⟩

theorem aBc (e : List bY) (g : bY → Option Bool) {r : Int} (c : Nat) (f : List AV) (j : ∀ args w, (callFunc c args).run Tryz.prog w = .ok (.enter c args) w) (l : ∀ (x0 : bY) r, g x0 = some r → Fn Tryz.prog c ([.agg (bF x0)] ++ f) (.b r)) (h : mQ e g = some r) : Fn Tryz.prog 71 [.d (.sl 3 (e.map bF)), .fn c f] (.i r) := by
 unfold mQ at h;refine Fn.of_tr Tryz.func71 rfl (rs := [.tmp 4]) Tryz.results71 Tryz.ntmps71 (Nat.le_of_ble_eq_true rfl) ?_;refine aC (aA (ta (.i 0) (aB (aC (aC (aA (tm (.d (.sl 3 (e.map bF))) (to (sle rfl jX.of) (tm (.i 0) (aB (bA ?_)))))))))));refine bO (S := Int) [0, 1, 7] (fun s1 => [(8, .i s1)]) (fun s1 => []) (fun k s1 => fG e g (e.length : Int) k s1) (fun _ => rfl) (0) h (aP [] rfl rfl (aG rfl (aL ⟨rfl, rfl, rfl, trivial⟩))) ?_;rintro k2 a h;simp only [fG] at h;refine aC (aA (to (scm rfl rfl rfl) (aB (aC ?_))));refine tih h (fun c3 h => ?_) (fun c3 h => ?_)
 ·refine aX (aC (bA (aC (aA (tm (.i a) (ta (.i a) (aB (aC (aA (tm (.fn c f) (tm (.d (.sl 3 (e.map bF))) (tm (.i a) ?_))))))))))));obtain ⟨x4, h5, h⟩ := bns h;refine to (six rfl rfl jX.of (aY bF h5)) (to (pJ (bF x4) rfl tA) ?_);obtain ⟨r6, h7, h⟩ := bns h;refine to (fP (aD rfl) (.clo _ _ _ _ j rfl) (aCo rfl) rfl (BVs.refl _ _) (l _ _  h7) rfl) ?_;refine aB ?_;refine tih h (fun c8 h => ?_) (fun c8 h => ?_)
  ·refine aC (aA (tm (.i a) (ta (.i a) (aB ?_))));obtain rfl := sIn h;exact aZ ⟨rfl, _, .one _, rfl, rfl⟩
  ·refine cK ?_;refine aA (to (sar rfl rfl rfl) (tm (.i (w64 (a + 1))) (aB ?_)));exact ⟨(w64 (a + 1)), h, aP [] rfl rfl (aG rfl (aL ⟨rfl, rfl, rfl, trivial⟩))⟩
 ·refine bP ?_;refine .inl ⟨rfl, ?_⟩;simp only [tP] at h;refine aC (aA (ta (.i (-1)) (aB ?_)));obtain rfl := sIn h;exact aZ ⟨rfl, _, .one _, rfl, rfl⟩

theorem aMz (a : bY) (c : Int) {r : Bool} (h : uR a c = some r) : Fn Tryz.prog 72 [.agg (bF a), .cp [.lit (.int .i64 c)]] (.b r) := by
 unfold uR at h;refine Fn.of_tr Tryz.func72 rfl (rs := [.tmp 3]) Tryz.results72 Tryz.ntmps72 (Nat.le_of_ble_eq_true rfl) ?_;refine aC (aA ?_);refine bB rfl (dC (v := .agg (bF a)) (aD rfl) rfl rfl rfl) ?_;rintro _ ⟨b1, rfl⟩;refine ta (.b false) (aB (aC (aA (tfl 0 rfl rfl qW rfl aR (to (slc rfl aR) (to (scm rfl rfl rfl) (tm (.b (decide (a.One = c))) ?_)))))));obtain ⟨b2, h3, h⟩ := bns h;refine bD 10 [] 18 b2 ?_ ?_
 ·refine bch h3 (fun c4 h3 => ?_) (fun c4 h3 => ?_)
  ·refine tp c4 (tp c4 (tp c4 (tp c4 (tp c4 (tq (tq (tq (tp c4 (to (spt (.b true) c4) ?_)))))))));obtain rfl := sIn h3;refine aB (aO rfl trivial rfl)
  ·refine tkl 0 c4 rfl rfl kY rfl aR (tk c4 (slc rfl aR) (tk c4 (scm rfl rfl rfl) (tk c4 (sm (.b (decide (a.Two = c)))) ?_)));obtain ⟨b5, h6, h3⟩ := bns h3;refine bD 4 [8] 17 b5 ?_ ?_
   ·refine bch h6 (fun c7 h6 => ?_) (fun c7 h6 => ?_)
    ·refine tkl 0 c7 rfl rfl kY rfl aR (tk c7 (scm rfl rfl rfl) (tk c4 (spt (.b (!decide (a.Two = (-1)))) c7) ?_));obtain rfl := sIn h6;refine aB (aO rfl ⟨rfl, trivial⟩ rfl)
    ·refine tp c7 (tp c7 (tp c7 (tk c4 (spf (.b false) c7) ?_)));obtain rfl := sIn h6;refine aB (aO rfl ⟨rfl, trivial⟩ rfl)
   ·refine to (spf (.b b5) c4) ?_;obtain rfl := sIn h3;refine aB (aO rfl trivial rfl)
 ·refine ta (.b b2) (aB ?_);obtain rfl := sIn h;refine bL (bG (bH (l := [3]) ⟨rfl, trivial⟩)) ?_;exact aZ ⟨rfl, _, .one _, rfl, rfl⟩

theorem aOy (g : aV) (j : List aF) (a : List Int) {Q : ((Option bE) × (List Int) × Int) → Prop} (h : sF g j a Q) : fY Tryz.prog 97 [.agg (bC g), .d (.sl 5 (j.map aK)), .d (.sl 1 (a.map aM))] [] (fun r' o' => ∃ (r : (Option bE) × (List Int) × Int), Q r ∧ r' = .tup [fK bT r.1, .d (.sl 1 (r.2.1.map aM)), .i r.2.2] ∧ o' = []) := by
 unfold sF at h;refine kQ Tryz.func97 rfl (rs := [.tmp 6, .tmp 7, .tmp 8]) Tryz.results97 Tryz.ntmps97 (Nat.le_of_ble_eq_true rfl) ?_;refine aC (aA ?_);refine bB rfl (dC (v := .agg (bC g)) (aD rfl) rfl rfl rfl) ?_;rintro _ ⟨b1, rfl⟩;refine ta (fK bT (none : Option bE)) (to (gU 3 1 (.inl rfl) (aD rfl)) ?_);refine ta (.i 0) (aB (aC (aA (to (sla 0 (bC g) rfl rfl jZ) (tm (.d (.sl 5 (j.map aK))) ?_)))));refine bB rfl (aCj (aD rfl) (.func _ _ Tryz.call75) rfl rfl (aEl _ _ h)) ?_;rintro _ ⟨_, _, ⟨r3, h, rfl, rfl⟩, rfl⟩;refine tm (.tup [fK bT r3.1, .i r3.2]) (to (sex rfl rfl) (to (sex rfl rfl) (ta (fK bT r3.1) (ta (.i r3.2) (aB (aC (aC (aA (tm (.i r3.2) (to (scm rfl rfl rfl) (aB ?_)))))))))));refine tip h (fun c4 h => ?_) (fun c4 h => ?_)
 ·refine aC (aA (tm (.i r3.2) (ta (fK bT (none : Option bE)) (to (gU 3 1 (.inl rfl) (aD rfl)) ?_))));refine ta (.i r3.2) (aB ?_);exact aZ ⟨rfl, _, [], [.box b1 0 (bC g), .arr (.slice none 0 0) 3 1 (([] : List Int).map aM), .arr (.slice none 0 0) 3 1 (([] : List Int).map aM)], _, .three (.tmp 6 (v := fK bT (none : Option bE)) rfl) (.tmp 7 (v := .d (.lit (.slice none 0 0))) rfl) (.tmp 8 (v := .i r3.2) rfl), .refl _, aHm (.cons (.same _) (.cons (.d (mT 2 rfl (cP (f := aM) fun _ => rfl))) (.cons (.same _) .nil))), ((none : Option bE), ([] : List Int), r3.2), h, rfl, rfl⟩
 ·refine aX (aC (aC (aA (tm (.d (.sl 1 (a.map aM))) (to (sle rfl bI.of) (tm (.i 0) (aB (bA ?_))))))));refine xY [20, 21] (fun (s6 : (Option bE) × Int × (List Int) × Value) => [(6, fK bT s6.1), (7, .d (.lit s6.2.2.2)), (22, .i s6.2.1)]) (fun (s6 : (Option bE) × Int × (List Int) × Value) => [.arr s6.2.2.2 3 1 (s6.2.2.1.map aM)]) (fun (k : Nat) (s6 : (Option bE) × Int × (List Int) × Value) => nS Q a (a.length : Int) k s6.1 s6.2.1 s6.2.2.1) (fun _ h => h) (r3.1, 0, ([] : List Int), (.slice none 0 0)) h (aP [1] rfl rfl (aG rfl (aG rfl (aG rfl (aL ⟨rfl, rfl, trivial⟩))))) ?_;rintro k8 ⟨c, e, b, w7⟩ h;simp only [nS] at h;refine aC (aA (to (scm rfl rfl rfl) (aB (aC ?_))));refine tip h (fun c9 h => ?_) (fun c9 h => ?_)
  ·refine aX (aC (bA (aC (aA ?_))));obtain ⟨l, n, h⟩ := gT h;refine to (six rfl rfl bI.of (aY aM n)) (to (slc rfl aR) (ta (.i l) (aB (aC (aC (aA (tm (.i l) ?_)))))));obtain ⟨y, o, h⟩ := gT h;refine to (scr Tryz.call115 (gL _ _ _ o)) (to (sn rfl) (aB ?_));refine tip h (fun p h => ?_) (fun p h => ?_)
   ·refine aC (aA (ta (fK bT (none : Option bE)) (to (gU 3 1 (.inl rfl) (aD rfl)) ?_)));refine ta (.i 1) (aB ?_);exact aZ ⟨rfl, _, [], [.arr w7 3 1 (b.map aM), .arr (.slice none 0 0) 3 1 (([] : List Int).map aM)], _, .three (.tmp 6 (v := fK bT (none : Option bE)) rfl) (.tmp 7 (v := .d (.lit (.slice none 0 0))) rfl) (.tmp 8 (v := .i 1) rfl), .refl _, aHm (.cons (.same _) (.cons (.d (mT 1 rfl (cP (f := aM) fun _ => rfl))) (.cons (.same _) .nil))), ((none : Option bE), ([] : List Int), 1), h, rfl, rfl⟩
   ·refine aX (aA (tm (.d (.lit w7)) (tm (fK bT c) ?_)));obtain ⟨q, s, h⟩ := gT h;refine to (aSu (enc := bT) (aD rfl) rfl s) ?_;refine to (sfc [.sl 1 (q.players.map aM)] rfl qH) (to (slc rfl cG) (tm (.i l) ?_));obtain ⟨t, u, h⟩ := gT h;refine to (scr Tryz.call89 (wH _ _ u)) (to (fE (aD rfl) bI rfl rfl (rows := ([t]).map aM) rfl (cP (f := aM) fun _ => rfl) rfl (by decide)) ?_);obtain ⟨w, x, h⟩ := gT h;refine bB rfl (fT (i := 0) (aD rfl) bI rfl rfl rfl (fun _ => rfl) x rfl) ?_;rintro _ ⟨m, rfl⟩;refine ta (.d (.lit m)) ?_;refine cQ ?_;refine aA (to (sar rfl rfl rfl) (tm (.i (w64 (e + 1))) (aB ?_)));exact ⟨(c, w64 (e + 1), w, m), h, aP [0] rfl rfl (aG rfl (aG rfl (aG rfl (aL ⟨rfl, rfl, trivial⟩))))⟩
  ·refine bP ?_;refine .inl ⟨rfl, ?_⟩;simp only [zN] at h;refine aC (aA (tm (fK bT c) (tm (.d (.lit w7)) (ta (fK bT c) (ta (.d (.lit w7)) (ta (.i 0) (aB ?_)))))));exact aZ ⟨rfl, _, [], [.arr w7 3 1 (b.map aM)], _, .three (.tmp 6 (v := fK bT c) rfl) (.tmp 7 (v := .d (.lit w7)) rfl) (.tmp 8 (v := .i 0) rfl), .refl _, aHm (.cons (.same _) (.cons (.d (mT 0 rfl (cP (f := aM) fun _ => rfl))) (.cons (.same _) .nil))), (c, b, 0), h, rfl, rfl⟩

theorem aHk (c : bE) (f : Int) {r : Int} (h : qP c f = some r) : Fn Tryz.prog 98 [.cp (bT c), .i f] (.i r) := by
 unfold qP at h;refine Fn.of_tr Tryz.func98 rfl (rs := [.tmp 4]) Tryz.results98 Tryz.ntmps98 (Nat.le_of_ble_eq_true rfl) ?_;refine aC (aA (ta (.i 0) (aB (aC (aC (aA (tm (.cp [.lit (.int .i64 c.Tree.Rounds), .sl 1 (c.Tree.Slots.map aM), .sl 1 (c.players.map aM), .mp false (c.won.map fun p : aI × Int => ((fun a : aI => Value.agg ((aT a).map bW).toArray) p.1, aM p.2))]) (to (qE (aD rfl) rfl) ?_))))))));refine to (sfc [.lit (.int .i64 c.Tree.Rounds), .sl 1 (c.Tree.Slots.map aM)] rfl aAu) (to (sfc [.lit (.int .i64 c.Tree.Rounds)] rfl fJ) (to (slc rfl aR) (tm (.i 0) (aB (bA ?_)))));refine bO (S := Int) [0, 1, 12] (fun s1 => [(13, .i s1)]) (fun s1 => []) (fun k s1 => jM c f c.Tree.Rounds k s1) (fun _ => rfl) (0) h (aP [] rfl rfl (aG rfl (aL ⟨rfl, rfl, rfl, trivial⟩))) ?_;rintro k2 e h;simp only [jM] at h;refine aC (aA (to (scm rfl rfl rfl) (aB (aC ?_))));refine tih h (fun c3 h => ?_) (fun c3 h => ?_)
 ·refine aX (aC (bA (aC (aA (tm (.i e) (ta (.i e) (aB (aC ?_))))))));obtain ⟨r4, h5, h⟩ := bns h;refine cL mix 12 [0, 1, 5, 12, 13] [(6, .i (dB r4 0 c.won)), (26, .b (eB r4 c.won))] ?_ ?_
  ·refine ⟨[(17, 0, .cp [.lit (.int .i64 c.Tree.Rounds), .sl 1 (c.Tree.Slots.map aM), .sl 1 (c.players.map aM), .mp false (c.won.map fun p : aI × Int => ((fun a : aI => Value.agg ((aT a).map bW).toArray) p.1, aM p.2))]), (18, 1, .cp [.lit (.int .i64 c.Tree.Rounds), .sl 1 (c.Tree.Slots.map aM), .sl 1 (c.players.map aM), .mp false (c.won.map fun p : aI × Int => ((fun a : aI => Value.agg ((aT a).map bW).toArray) p.1, aM p.2))]), (19, 2, .cp [.mp false (c.won.map fun p : aI × Int => ((fun a : aI => Value.agg ((aT a).map bW).toArray) p.1, aM p.2))]), (20, 3, .d (.mp false (c.won.map fun p : aI × Int => ((fun a : aI => Value.agg ((aT a).map bW).toArray) p.1, aM p.2)))), (21, 4, .i e), (22, 5, .i f), (23, 6, .agg (aT r4)), (24, 7, .tup [.i (dB r4 0 c.won), .b (eB r4 c.won)]), (16, 8, .tup [.i (dB r4 0 c.won), .b (eB r4 c.won)]), (25, 9, .i (dB r4 0 c.won)), (26, 10, .b (eB r4 c.won)), (6, 11, .i (dB r4 0 c.won))], ?_, ?_⟩
   · exact dok [([], []), ([0], []), ([1], []), ([2], []), ([], []), ([], []), ([4, 5], []), ([3, 6], []), ([7], []), ([8], []), ([8], []), ([9], [])] ⟨go (zm (.cp [.lit (.int .i64 c.Tree.Rounds), .sl 1 (c.Tree.Slots.map aM), .sl 1 (c.players.map aM), .mp false (c.won.map fun p : aI × Int => ((fun a : aI => Value.agg ((aT a).map bW).toArray) p.1, aM p.2))])),
      go fun S hS => qE (aD rfl) (aW hS rfl),
      go (zfc [.mp false (c.won.map fun p : aI × Int => ((fun a : aI => Value.agg ((aT a).map bW).toArray) p.1, aM p.2))] rfl aDo),
      go (zlc rfl aJr),
      go (zm (.i e)),
      go (zm (.i f)),
      go fun S hS => dL (aD rfl) (.func _ _ Tryz.call116) (ev2 (aW hS rfl) (ev2 (aW hS rfl) evn)) rfl (vL _ _ h5),
      go fun S hS => aHa (enc := aM) (agg := false) (l := c.won) (z := 0) (a := r4) (aD rfl) aCg Tryz.underlying151 Tryz.zeroValue3 (fun _ _ => .d (.lit _ rfl)) (aW hS rfl) rfl rfl (aW hS rfl) (sB (enc := aT) r4 rfl),
      go (zm (.tup [.i (dB r4 0 c.won), .b (eB r4 c.won)])),
      go (zex rfl rfl),
      go (zex rfl rfl),
      go (za (.i (dB r4 0 c.won))), trivial⟩
   · exact cF (aG rfl (aG rfl (aL ⟨rfl, rfl, rfl, rfl, rfl, trivial⟩)))
  ·refine ta (.b (eB r4 c.won)) (aB (aC (aA (tm (.b (eB r4 c.won)) (to (sn rfl) (tm (.b (!(eB r4 c.won))) ?_))))));obtain ⟨b6, h7, h⟩ := bns h;refine bD 10 [0, 1, 5, 12, 13] 39 b6 ?_ ?_
   ·refine bch h7 (fun c9 h7 => ?_) (fun c9 h7 => ?_)
    ·refine tp c9 (tp c9 (tp c9 (tp c9 (tp c9 (tp c9 (tp c9 (tp c9 (tp c9 (to (spt (.b true) c9) ?_)))))))));obtain rfl := sIn h7;refine aB (aO rfl ⟨rfl, rfl, rfl, rfl, rfl, trivial⟩ rfl)
    ·refine tk c9 (sm (.i (dB r4 0 c.won))) (tk c9 (sm (.cp [.lit (.int .i64 c.Tree.Rounds), .sl 1 (c.Tree.Slots.map aM), .sl 1 (c.players.map aM), .mp false (c.won.map fun p : aI × Int => ((fun a : aI => Value.agg ((aT a).map bW).toArray) p.1, aM p.2))])) (tk c9 (qE (aD rfl) rfl) ?_));refine tk c9 (sfc [.sl 1 (c.players.map aM)] rfl qH) (tk c9 (slc rfl cG) (tk c9 (sm (.i f)) ?_));obtain ⟨g, j, h7⟩ := bns h7;refine tk c9 (six rfl rfl bI.of (aY aM j)) (tk c9 (slc rfl aR) (tk c9 (scm rfl rfl rfl) (to (spf (.b (!decide ((dB r4 0 c.won) = g))) c9) ?_)));obtain rfl := sIn h7;refine aB (aO rfl ⟨rfl, rfl, rfl, rfl, rfl, trivial⟩ rfl)
   ·refine aB ?_;refine tih h (fun c8 h => ?_) (fun c8 h => ?_)
    ·refine aC (aA (tm (.i e) (ta (.i e) (aB ?_))));obtain rfl := sIn h;exact aZ ⟨rfl, _, .one _, rfl, rfl⟩
    ·refine cK ?_;refine aA (to (sar rfl rfl rfl) (tm (.i (w64 (e + 1))) (aB ?_)));exact ⟨(w64 (e + 1)), h, aP [] rfl rfl (aG rfl (aL ⟨rfl, rfl, rfl, trivial⟩))⟩
 ·refine bP ?_;refine .inl ⟨rfl, ?_⟩;simp only [uZ] at h;refine aC (aA (tm (.cp [.lit (.int .i64 c.Tree.Rounds), .sl 1 (c.Tree.Slots.map aM), .sl 1 (c.players.map aM), .mp false (c.won.map fun p : aI × Int => ((fun a : aI => Value.agg ((aT a).map bW).toArray) p.1, aM p.2))]) (to (qE (aD rfl) rfl) ?_)));refine to (sfc [.lit (.int .i64 c.Tree.Rounds), .sl 1 (c.Tree.Slots.map aM)] rfl aAu) (to (sfc [.lit (.int .i64 c.Tree.Rounds)] rfl fJ) (to (slc rfl aR) (ta (.i c.Tree.Rounds) (aB ?_))));obtain rfl := sIn h;exact aZ ⟨rfl, _, .one _, rfl, rfl⟩

theorem aHj (c : bE) (f : Int) {r : Int} (h : qO c f = some r) : Fn Tryz.prog 99 [.cp (bT c), .i f] (.i r) := by
 unfold qO at h;refine Fn.of_tr Tryz.func99 rfl (rs := [.tmp 4]) Tryz.results99 Tryz.ntmps99 (Nat.le_of_ble_eq_true rfl) ?_;refine aC (aA (ta (.i 0) (aB (aC (aC (aA (tm (.cp [.lit (.int .i64 c.Tree.Rounds), .sl 1 (c.Tree.Slots.map aM), .sl 1 (c.players.map aM), .mp false (c.won.map fun p : aI × Int => ((fun a : aI => Value.agg ((aT a).map bW).toArray) p.1, aM p.2))]) (to (qE (aD rfl) rfl) ?_))))))));refine to (sfc [.lit (.int .i64 c.Tree.Rounds), .sl 1 (c.Tree.Slots.map aM)] rfl aAu) (to (sfc [.lit (.int .i64 c.Tree.Rounds)] rfl fJ) (to (slc rfl aR) (tm (.i 0) (aB (bA ?_)))));refine bO (S := Int) [0, 1, 12] (fun s1 => [(13, .i s1)]) (fun s1 => []) (fun k s1 => jL c f c.Tree.Rounds k s1) (fun _ => rfl) (0) h (aP [] rfl rfl (aG rfl (aL ⟨rfl, rfl, rfl, trivial⟩))) ?_;rintro k2 e h;simp only [jL] at h;refine aC (aA (to (scm rfl rfl rfl) (aB (aC ?_))));refine tih h (fun c3 h => ?_) (fun c3 h => ?_)
 ·refine aX (aC (bA (aC (aA (tm (.i e) (ta (.i e) (aB (aC ?_))))))));obtain ⟨r4, h5, h⟩ := bns h;refine cL mix 12 [0, 1, 5, 12, 13] [(6, .i (dB r4 0 c.won)), (26, .b (eB r4 c.won))] ?_ ?_
  ·refine ⟨[(17, 0, .cp [.lit (.int .i64 c.Tree.Rounds), .sl 1 (c.Tree.Slots.map aM), .sl 1 (c.players.map aM), .mp false (c.won.map fun p : aI × Int => ((fun a : aI => Value.agg ((aT a).map bW).toArray) p.1, aM p.2))]), (18, 1, .cp [.lit (.int .i64 c.Tree.Rounds), .sl 1 (c.Tree.Slots.map aM), .sl 1 (c.players.map aM), .mp false (c.won.map fun p : aI × Int => ((fun a : aI => Value.agg ((aT a).map bW).toArray) p.1, aM p.2))]), (19, 2, .cp [.mp false (c.won.map fun p : aI × Int => ((fun a : aI => Value.agg ((aT a).map bW).toArray) p.1, aM p.2))]), (20, 3, .d (.mp false (c.won.map fun p : aI × Int => ((fun a : aI => Value.agg ((aT a).map bW).toArray) p.1, aM p.2)))), (21, 4, .i e), (22, 5, .i f), (23, 6, .agg (aT r4)), (24, 7, .tup [.i (dB r4 0 c.won), .b (eB r4 c.won)]), (16, 8, .tup [.i (dB r4 0 c.won), .b (eB r4 c.won)]), (25, 9, .i (dB r4 0 c.won)), (26, 10, .b (eB r4 c.won)), (6, 11, .i (dB r4 0 c.won))], ?_, ?_⟩
   · exact dok [([], []), ([0], []), ([1], []), ([2], []), ([], []), ([], []), ([4, 5], []), ([3, 6], []), ([7], []), ([8], []), ([8], []), ([9], [])] ⟨go (zm (.cp [.lit (.int .i64 c.Tree.Rounds), .sl 1 (c.Tree.Slots.map aM), .sl 1 (c.players.map aM), .mp false (c.won.map fun p : aI × Int => ((fun a : aI => Value.agg ((aT a).map bW).toArray) p.1, aM p.2))])),
      go fun S hS => qE (aD rfl) (aW hS rfl),
      go (zfc [.mp false (c.won.map fun p : aI × Int => ((fun a : aI => Value.agg ((aT a).map bW).toArray) p.1, aM p.2))] rfl aDo),
      go (zlc rfl aJr),
      go (zm (.i e)),
      go (zm (.i f)),
      go fun S hS => dL (aD rfl) (.func _ _ Tryz.call116) (ev2 (aW hS rfl) (ev2 (aW hS rfl) evn)) rfl (vL _ _ h5),
      go fun S hS => aHa (enc := aM) (agg := false) (l := c.won) (z := 0) (a := r4) (aD rfl) aCg Tryz.underlying151 Tryz.zeroValue3 (fun _ _ => .d (.lit _ rfl)) (aW hS rfl) rfl rfl (aW hS rfl) (sB (enc := aT) r4 rfl),
      go (zm (.tup [.i (dB r4 0 c.won), .b (eB r4 c.won)])),
      go (zex rfl rfl),
      go (zex rfl rfl),
      go (za (.i (dB r4 0 c.won))), trivial⟩
   · exact cF (aG rfl (aG rfl (aL ⟨rfl, rfl, rfl, rfl, rfl, trivial⟩)))
  ·refine ta (.b (eB r4 c.won)) (aB (aC (aA (tm (.b (eB r4 c.won)) (tm (.b (eB r4 c.won)) ?_)))));obtain ⟨b6, h7, h⟩ := bns h;refine bD 10 [0, 1, 5, 12, 13] 38 b6 ?_ ?_
   ·refine bch h7 (fun c9 h7 => ?_) (fun c9 h7 => ?_)
    ·refine tk c9 (sm (.i (dB r4 0 c.won))) (tk c9 (sm (.cp [.lit (.int .i64 c.Tree.Rounds), .sl 1 (c.Tree.Slots.map aM), .sl 1 (c.players.map aM), .mp false (c.won.map fun p : aI × Int => ((fun a : aI => Value.agg ((aT a).map bW).toArray) p.1, aM p.2))])) (tk c9 (qE (aD rfl) rfl) ?_));refine tk c9 (sfc [.sl 1 (c.players.map aM)] rfl qH) (tk c9 (slc rfl cG) (tk c9 (sm (.i f)) ?_));obtain ⟨g, j, h7⟩ := bns h7;refine tk c9 (six rfl rfl bI.of (aY aM j)) (tk c9 (slc rfl aR) (tk c9 (scm rfl rfl rfl) (to (spt (.b (!decide ((dB r4 0 c.won) = g))) c9) ?_)));obtain rfl := sIn h7;refine aB (aO rfl ⟨rfl, rfl, rfl, rfl, rfl, trivial⟩ rfl)
    ·refine tp c9 (tp c9 (tp c9 (tp c9 (tp c9 (tp c9 (tp c9 (tp c9 (tp c9 (to (spf (.b false) c9) ?_)))))))));obtain rfl := sIn h7;refine aB (aO rfl ⟨rfl, rfl, rfl, rfl, rfl, trivial⟩ rfl)
   ·refine aB ?_;refine tih h (fun c8 h => ?_) (fun c8 h => ?_)
    ·refine aC (aA (tm (.i e) (ta (.i e) (aB ?_))));obtain rfl := sIn h;exact aZ ⟨rfl, _, .one _, rfl, rfl⟩
    ·refine cK ?_;refine aA (to (sar rfl rfl rfl) (tm (.i (w64 (e + 1))) (aB ?_)));exact ⟨(w64 (e + 1)), h, aP [] rfl rfl (aG rfl (aL ⟨rfl, rfl, rfl, trivial⟩))⟩
 ·refine bP ?_;refine .inl ⟨rfl, ?_⟩;simp only [uY] at h;refine aC (aA (tm (.cp [.lit (.int .i64 c.Tree.Rounds), .sl 1 (c.Tree.Slots.map aM), .sl 1 (c.players.map aM), .mp false (c.won.map fun p : aI × Int => ((fun a : aI => Value.agg ((aT a).map bW).toArray) p.1, aM p.2))]) (to (qE (aD rfl) rfl) ?_)));refine to (sfc [.lit (.int .i64 c.Tree.Rounds), .sl 1 (c.Tree.Slots.map aM)] rfl aAu) (to (sfc [.lit (.int .i64 c.Tree.Rounds)] rfl fJ) (to (slc rfl aR) (ta (.i c.Tree.Rounds) (aB ?_))));obtain rfl := sIn h;exact aZ ⟨rfl, _, .one _, rfl, rfl⟩

theorem aJw (e : aV) (l : List aF) (c : Int) {Q : (bZ × Int) → Prop} (h : rL e l c Q) : fY Tryz.prog 73 [.agg (bC e), .d (.sl 5 (l.map aK)), .i c] [] (fun r' o' => ∃ (r : bZ × Int), Q r ∧ r' = .tup [.agg (bN r.1), .i r.2] ∧ o' = []) := by
 unfold rL at h;refine kQ Tryz.func73 rfl (rs := [.cell 6 37, .tmp 7]) Tryz.results73 Tryz.ntmps73 (Nat.le_of_ble_eq_true rfl) ?_;refine aC (aA ?_);refine bB rfl (dC (v := .agg (bC e)) (aD rfl) rfl rfl rfl) ?_;rintro _ ⟨b1, rfl⟩;refine bB rfl (cH (zs := [.lit (.int .i64 0), .lit (.int .i64 0)]) (aD rfl) Tryz.zeroValue37 rfl rfl) ?_;rintro _ ⟨b2, rfl⟩;refine ta (.i 0) (aB (aC (aA (to (sla 0 (bC e) rfl rfl jZ) (tm (.d (.sl 5 (l.map aK))) (tm (.i c) (to (fE (aD rfl) bI rfl rfl (rows := ([c]).map aM) rfl (cP (f := aM) fun _ => rfl) rfl (by decide)) ?_)))))));refine bB rfl (aCj (aD rfl) (.func _ _ Tryz.call97) rfl rfl (aOy _ _ _ h)) ?_;rintro _ ⟨_, _, ⟨r3, h, rfl, rfl⟩, rfl⟩;refine tm (.tup [fK bT r3.1, .d (.sl 1 (r3.2.1.map aM)), .i r3.2.2]) (to (sex rfl rfl) (to (sex rfl rfl) (to (sex rfl rfl) (ta (fK bT r3.1) (ta (.d (.sl 1 (r3.2.1.map aM))) (ta (.i r3.2.2) (aB (aC (bA (aC (aA (tm (.i r3.2.2) (to (scm rfl rfl rfl) ?_)))))))))))));refine ta (.b (!decide (r3.2.2 = 0))) (aB ?_);refine tip h (fun c4 h => ?_) (fun c4 h => ?_)
 ·refine aC (aA (to (cZ (aD rfl) sD (zs := [.lit (.int .i64 0), .lit (.int .i64 0)]) rfl rfl rfl rfl (es := [.lit (.int .i64 0), .lit (.int .i64 0)]) rfl) ?_));refine tm (.i r3.2.2) (to (sst 1 rfl rfl Tryz.sizeOf37 (bN (bZ.mk 0 0))) (ta (.i r3.2.2) (aB ?_)));exact aZ ⟨rfl, _, [], [.box b1 0 (bC e), .box b2 0 (bN (bZ.mk 0 0))], _, .two (.cell 6 37 rfl (i := 1) rfl pN (es := (bN (bZ.mk 0 0))) rfl rfl) (.tmp 7 (v := .i r3.2.2) rfl), .refl _, .same _, ((bZ.mk 0 0), r3.2.2), h, rfl, rfl⟩
 ·refine aC (aA (tm (.d (.sl 1 (r3.2.1.map aM))) ?_));obtain ⟨x5, h6, h⟩ := gT h;refine to (six rfl rfl bI.of (aY aM h6)) (to (slc rfl aR) (to (scm rfl rfl rfl) (ta (.b (decide (x5 < 0))) (aB ?_))));refine tip h (fun c7 h => ?_) (fun c7 h => ?_)
  ·refine aC (aA (to (cZ (aD rfl) sD (zs := [.lit (.int .i64 0), .lit (.int .i64 0)]) rfl rfl rfl rfl (es := [.lit (.int .i64 0), .lit (.int .i64 0)]) rfl) ?_));refine to (sst 1 rfl rfl Tryz.sizeOf37 (bN (bZ.mk 0 0))) (ta (.i 3) (aB ?_));exact aZ ⟨rfl, _, [], [.box b1 0 (bC e), .box b2 0 (bN (bZ.mk 0 0))], _, .two (.cell 6 37 rfl (i := 1) rfl pN (es := (bN (bZ.mk 0 0))) rfl rfl) (.tmp 7 (v := .i 3) rfl), .refl _, .same _, ((bZ.mk 0 0), 3), h, rfl, rfl⟩
  ·refine cK ?_;refine aC ?_;obtain ⟨x8, h9, h⟩ := gT h;refine bL (aZf (enc := bT) (k := 8) rfl h9) ?_;obtain ⟨n, o, h⟩ := gT h;obtain ⟨g, q, h⟩ := gT h;obtain ⟨m, s, h⟩ := gT h;refine cL mix 9 [6] [(35, .i g), (36, .cp [.lit (.int .i64 x8.Tree.Rounds), .sl 1 (x8.Tree.Slots.map aM), .sl 1 (x8.players.map aM), .mp false (x8.won.map fun p : aI × Int => ((fun a : aI => Value.agg ((aT a).map bW).toArray) p.1, aM p.2))]), (39, .i m)] ?_ ?_
   ·refine ⟨[(31, 0, .cp [.lit (.int .i64 x8.Tree.Rounds), .sl 1 (x8.Tree.Slots.map aM), .sl 1 (x8.players.map aM), .mp false (x8.won.map fun p : aI × Int => ((fun a : aI => Value.agg ((aT a).map bW).toArray) p.1, aM p.2))]), (32, 1, .d (.sl 1 (r3.2.1.map aM))), (33, 2, .cp [.lit (.int .i64 n)]), (34, 3, .i n), (35, 4, .i g), (36, 5, .cp [.lit (.int .i64 x8.Tree.Rounds), .sl 1 (x8.Tree.Slots.map aM), .sl 1 (x8.players.map aM), .mp false (x8.won.map fun p : aI × Int => ((fun a : aI => Value.agg ((aT a).map bW).toArray) p.1, aM p.2))]), (37, 6, .d (.sl 1 (r3.2.1.map aM))), (38, 7, .cp [.lit (.int .i64 m)]), (39, 8, .i m)], ?_, ?_⟩
    · exact dok [([], []), ([], []), ([1], []), ([2], []), ([0, 3], []), ([], []), ([], []), ([6], []), ([7], [])] ⟨go (zm (.cp [.lit (.int .i64 x8.Tree.Rounds), .sl 1 (x8.Tree.Slots.map aM), .sl 1 (x8.players.map aM), .mp false (x8.won.map fun p : aI × Int => ((fun a : aI => Value.agg ((aT a).map bW).toArray) p.1, aM p.2))])),
      go (zm (.d (.sl 1 (r3.2.1.map aM)))),
      go (zix rfl rfl bI.of (aY aM o)),
      go (zlc rfl aR),
      go fun S hS => fP (aD rfl) (.func _ _ Tryz.call98) (ev2 (aW hS rfl) (ev2 (aW hS rfl) evn)) rfl (BVs.refl _ _) (aHk _ _ q) rfl,
      go (zm (.cp [.lit (.int .i64 x8.Tree.Rounds), .sl 1 (x8.Tree.Slots.map aM), .sl 1 (x8.players.map aM), .mp false (x8.won.map fun p : aI × Int => ((fun a : aI => Value.agg ((aT a).map bW).toArray) p.1, aM p.2))])),
      go (zm (.d (.sl 1 (r3.2.1.map aM)))),
      go (zix rfl rfl bI.of (aY aM s)),
      go (zlc rfl aR), trivial⟩
    · exact cF (aG rfl (aG rfl (aG rfl (aL ⟨rfl, trivial⟩))))
   ·obtain ⟨j, t, h⟩ := gT h;refine to (scr Tryz.call99 (aHj _ _ t)) (to (cZ (aD rfl) sD (zs := [.lit (.int .i64 0), .lit (.int .i64 0)]) rfl rfl rfl rfl (es := [.lit (.int .i64 g), .lit (.int .i64 j)]) rfl) ?_);refine to (sst 1 rfl rfl Tryz.sizeOf37 (bN (bZ.mk g j))) (ta (.i 0) (aB ?_));exact aZ ⟨rfl, _, [], [.box b1 0 (bC e), .box b2 0 (bN (bZ.mk g j))], _, .two (.cell 6 37 rfl (i := 1) rfl pN (es := (bN (bZ.mk g j))) rfl rfl) (.tmp 7 (v := .i 0) rfl), .refl _, .same _, ((bZ.mk g j), 0), h, rfl, rfl⟩

theorem aDw (a : Int) (c : bY) (d : Int) {r : Int} (h : rJ a c d = some r) : Fn Tryz.prog 74 [.i a, .cp (bF c), .cp [.lit (.int .i64 d)]] (.i r) := by
 unfold rJ at h;refine Fn.of_tr Tryz.func74 rfl (rs := [.tmp 4]) Tryz.results74 Tryz.ntmps74 (Nat.le_of_ble_eq_true rfl) ?_;refine aC (aA (ta (.i 0) (aB (aC (bA (aC (aA (to (sfc [.lit (.int .i64 c.Two)] rfl kY) (to (slc rfl aR) (to (scm rfl rfl rfl) (ta (.b (decide (c.Two = (-1)))) (aB ?_))))))))))));refine tih h (fun c1 h => ?_) (fun c1 h => ?_)
 ·refine aC (aA (tm (.i a) (ta (.i a) (aB ?_))));obtain rfl := sIn h;exact aZ ⟨rfl, _, .one _, rfl, rfl⟩
 ·refine aC (aA (to (sfc [.lit (.int .i64 c.One)] rfl qW) (to (slc rfl aR) (to (slc rfl aR) (to (scm rfl rfl rfl) (ta (.b (decide (c.One = d))) (aB ?_)))))));refine tih h (fun c2 h => ?_) (fun c2 h => ?_)
  ·refine aC (aA (tm (.i a) (to (sar rfl rfl rfl) (to (aAi (aD rfl) rfl rfl (by decide)) ?_))));refine ta (.i (w64 ((w64 (a + 1)).tdiv 2))) (aB ?_);obtain rfl := sIn h;exact aZ ⟨rfl, _, .one _, rfl, rfl⟩
  ·refine cK ?_;refine aC (aA (tm (.i a) (to (aAi (aD rfl) rfl rfl (by decide)) ?_)));refine ta (.i (w64 (a.tdiv 2))) (aB ?_);obtain rfl := sIn h;exact aZ ⟨rfl, _, .one _, rfl, rfl⟩

theorem aKa (c : aU) (a : Int) {r : Int} (h : rV c a = some r) : Fn Tryz.prog 111 [.agg (bM c), .i a] (.i r) := by
 unfold rV at h;refine Fn.of_tr Tryz.func111 rfl (rs := [.tmp 4]) Tryz.results111 Tryz.ntmps111 (Nat.le_of_ble_eq_true rfl) ?_;refine aC (aA ?_);refine bB rfl (dC (v := .agg (bM c)) (aD rfl) rfl rfl rfl) ?_;rintro _ ⟨b1, rfl⟩;refine ta (.i 0) (aB (aC (aC (aA (ta (.i 0) (aB (bA ?_)))))));refine bO (S := Int) [1, 2] (fun s2 => [(5, .i s2)]) (fun s2 => [.box b1 0 (bM c)]) (fun k s2 => kF a c k s2) (fun _ => rfl) (0) h (aP [0] rfl rfl (aG rfl (aL ⟨rfl, rfl, trivial⟩))) ?_;rintro k3 b h;simp only [kF] at h;refine aC (aC (aA (tm (.i b) (tfl 0 rfl rfl aDn rfl cG (to (sle rfl bI.of) (to (scm rfl rfl rfl) (aB ?_)))))));refine tih h (fun c4 h => ?_) (fun c4 h => ?_)
 ·refine aX (aC (bA (aC (aA (tfl 0 rfl rfl aDn rfl cG (tm (.i b) ?_))))));obtain ⟨x5, h6, h⟩ := bns h;refine to (six rfl rfl bI.of (aY aM h6)) (to (slc rfl aR) (tm (.i a) (to (scm rfl rfl rfl) (aB ?_))));refine tih h (fun c7 h => ?_) (fun c7 h => ?_)
  ·refine aC (aA (tm (.i b) (ta (.i b) (aB ?_))));obtain rfl := sIn h;refine bL (bG (bH (l := [4]) ⟨rfl, trivial⟩)) ?_;exact aZ ⟨rfl, _, .one _, rfl, rfl⟩
  ·refine cK ?_;refine aA (tm (.i b) (to (sar rfl rfl rfl) (ta (.i (w64 (b + 1))) (aB ?_))));exact ⟨(w64 (b + 1)), h, aP [0] rfl rfl (aG rfl (aL ⟨rfl, rfl, trivial⟩))⟩
 ·refine bP ?_;refine .inl ⟨rfl, ?_⟩;simp only [vQ] at h;refine aC (aA (ta (.i (-1)) (aB ?_)));obtain rfl := sIn h;refine bL (bG (bH (l := [4]) ⟨rfl, trivial⟩)) ?_;exact aZ ⟨rfl, _, .one _, rfl, rfl⟩

theorem aHp (e : aV) (f : aU) (c : Int) {r : Int} (h : qT e f c = some r) : Fn Tryz.prog 112 [.agg (bC e), .agg (bM f), .i c] (.i r) := by
 unfold qT at h;refine Fn.of_tr Tryz.func112 rfl (rs := [.tmp 6]) Tryz.results112 Tryz.ntmps112 (Nat.le_of_ble_eq_true rfl) ?_;refine aC (aA ?_);refine bB rfl (dC (v := .agg (bC e)) (aD rfl) rfl rfl rfl) ?_;rintro _ ⟨b1, rfl⟩;refine bB rfl (dC (v := .agg (bM f)) (aD rfl) rfl rfl rfl) ?_;rintro _ ⟨b2, rfl⟩;refine ta (.i 0) (aB (aC (aA (ta (.i 0) (aB (aC (bA ?_)))))));refine bO (S := Int) [2, 3, 4] (fun s3 => [(7, .i s3)]) (fun s3 => [.box b1 0 (bC e), .box b2 0 (bM f)]) (fun k s3 => jO c e f k s3) (fun _ => rfl) (0) h (aP [0, 1] rfl rfl (aG rfl (aL ⟨rfl, rfl, rfl, trivial⟩))) ?_;rintro k4 a h;simp only [jO] at h;refine aC (aC ?_);obtain ⟨b5, h6, h⟩ := bns h;refine cL mix 24 [2, 3, 4, 7] [(31, .b b5)] ?_ ?_
 ·refine bch h6 (fun c7 h6 => ?_) (fun c7 h6 => ?_)
  ·obtain ⟨x8, h9, h6⟩ := bns h6;obtain ⟨q, m, h6⟩ := bns h6;obtain ⟨g, n, h6⟩ := bns h6;obtain ⟨j, o, h6⟩ := bns h6;obtain rfl := sIn h6;refine ⟨[(8, 0, .i a), (9, 1, .bp b1 0 0), (10, 2, .i e.Rounds), (11, 3, .b (decide (a < e.Rounds))), (12, 4, .b (decide (a < e.Rounds))), (13, 5, .bp b2 0 1), (14, 6, .d (.sl 1 (f.Must.map jA))), (15, 7, .i a), (16, 8, .cp [.sl 1 (x8.map aM)]), (17, 9, .d (.sl 1 (x8.map aM))), (18, 10, .i c), (19, 11, .i a), (20, 12, .i (w64 (a + 1))), (21, 13, .d (.lit (.int .u64 (uw (w64 (a + 1)))))), (22, 14, .i (c.fdiv (2 ^ (min (uw (w64 (a + 1))).toNat 64)))), (23, 15, .cp [.lit (.int .i64 g)]), (24, 16, .i g), (25, 17, .bp b2 0 0), (26, 18, .d (.sl 1 (f.Slots.map aM))), (27, 19, .i c), (28, 20, .cp [.lit (.int .i64 j)]), (29, 21, .i j), (30, 22, .b (decide (g = j))), (31, 23, .b (decide (g = j)))], ?_, ?_⟩
   · exact dok [([], []), ([], []), ([1], []), ([0, 2], []), ([3], []), ([4], []), ([4, 5], []), ([4], []), ([4, 6, 7], []), ([4, 8], []), ([4], []), ([4], []), ([4, 11], []), ([4, 12], []), ([4, 10, 13], []), ([4, 9, 14], []), ([4, 15], []), ([4], []), ([4, 17], []), ([4], []), ([4, 18, 19], []), ([4, 20], []), ([4, 16, 21], []), ([4, 22], [])] ⟨go (zm (.i a)),
      go (zf rfl fJ),
      go (zl 0 rfl rfl rfl aR),
      go (zcm rfl rfl rfl),
      go (zm (.b (decide (a < e.Rounds)))),
      gt c7 (zf rfl qG),
      gt c7 (zl 1 rfl rfl rfl yR),
      gt c7 (zm (.i a)),
      gt c7 (zix rfl rfl aAj.of (aY jA h9)),
      gt c7 (zlc rfl cG),
      gt c7 (zm (.i c)),
      gt c7 (zm (.i a)),
      gt c7 (zar rfl rfl rfl),
      gt c7 fun S hS => nO (aD rfl) (aW hS rfl) Tryz.runUnderlying3 Tryz.runUnderlying113,
      gt c7 fun S hS => wQ (aD rfl) (aW hS rfl) (aW hS rfl) (xC m),
      gt c7 (zix rfl rfl bI.of (aY aM n)),
      gt c7 (zlc rfl aR),
      gt c7 (zf rfl aDn),
      gt c7 (zl 1 rfl rfl rfl cG),
      gt c7 (zm (.i c)),
      gt c7 (zix rfl rfl bI.of (aY aM o)),
      gt c7 (zlc rfl aR),
      gt c7 (zcm rfl rfl rfl),
      go (zpt (.b (decide (g = j))) c7), trivial⟩
   · exact cF (aG rfl (aL ⟨rfl, rfl, rfl, rfl, trivial⟩))
  ·obtain rfl := sIn h6;refine ⟨[(8, 0, .i a), (9, 1, .bp b1 0 0), (10, 2, .i e.Rounds), (11, 3, .b (decide (a < e.Rounds))), (12, 4, .b (decide (a < e.Rounds))), (13, 5, .tup []), (14, 6, .tup []), (15, 7, .tup []), (16, 8, .tup []), (17, 9, .tup []), (18, 10, .tup []), (19, 11, .tup []), (20, 12, .tup []), (21, 13, .tup []), (22, 14, .tup []), (23, 15, .tup []), (24, 16, .tup []), (25, 17, .tup []), (26, 18, .tup []), (27, 19, .tup []), (28, 20, .tup []), (29, 21, .tup []), (30, 22, .tup []), (31, 23, .b false)], ?_, ?_⟩
   · exact dok [([], []), ([], []), ([1], []), ([0, 2], []), ([3], []), ([4], []), ([4, 5], []), ([4], []), ([4, 6, 7], []), ([4, 8], []), ([4], []), ([4], []), ([4, 11], []), ([4, 12], []), ([4, 10, 13], []), ([4, 9, 14], []), ([4, 15], []), ([4], []), ([4, 17], []), ([4], []), ([4, 18, 19], []), ([4, 20], []), ([4, 16, 21], []), ([4, 22], [])] ⟨go (zm (.i a)),
      go (zf rfl fJ),
      go (zl 0 rfl rfl rfl aR),
      go (zcm rfl rfl rfl),
      go (zm (.b (decide (a < e.Rounds)))),
      gp c7,
      gp c7,
      gp c7,
      gp c7,
      gp c7,
      gp c7,
      gp c7,
      gp c7,
      gp c7,
      gp c7,
      gp c7,
      gp c7,
      gp c7,
      gp c7,
      gp c7,
      gp c7,
      gp c7,
      gp c7,
      go (zpf (.b false) c7), trivial⟩
   · exact cF (aG rfl (aL ⟨rfl, rfl, rfl, rfl, trivial⟩))
 ·refine aB ?_;refine tih h (fun p h => ?_) (fun p h => ?_)
  ·refine aX (bA (aA (tm (.i a) (to (sar rfl rfl rfl) (ta (.i (w64 (a + 1))) ?_)))));refine cQ ?_;exact ⟨(w64 (a + 1)), h, aP [0, 1] rfl rfl (aG rfl (aL ⟨rfl, rfl, rfl, trivial⟩))⟩
  ·refine bP ?_;refine .inl ⟨rfl, ?_⟩;simp only [rF] at h;refine aC (aA (tm (.i a) (ta (.i a) (aB ?_))));obtain rfl := sIn h;refine bL (bG (bH (l := [6]) ⟨rfl, trivial⟩)) ?_;exact aZ ⟨rfl, _, .one _, rfl, rfl⟩

theorem aJz (f : aV) (m : aU) (e : Int) {r : Int} (h : rT f m e = some r) : Fn Tryz.prog 113 [.agg (bC f), .agg (bM m), .i e] (.i r) := by
 unfold rT at h;refine Fn.of_tr Tryz.func113 rfl (rs := [.tmp 6]) Tryz.results113 Tryz.ntmps113 (Nat.le_of_ble_eq_true rfl) ?_;refine aC (aA ?_);refine bB rfl (dC (v := .agg (bC f)) (aD rfl) rfl rfl rfl) ?_;rintro _ ⟨b1, rfl⟩;refine bB rfl (dC (v := .agg (bM m)) (aD rfl) rfl rfl rfl) ?_;rintro _ ⟨b2, rfl⟩;refine ta (.i 0) (aB (aC (aA (ta (.i 0) (aB (aC (bA ?_)))))));refine bO (S := Int) [2, 3, 4] (fun s3 => [(7, .i s3)]) (fun s3 => [.box b1 0 (bC f), .box b2 0 (bM m)]) (fun k s3 => kE e f m k s3) (fun _ => rfl) (0) h (aP [0, 1] rfl rfl (aG rfl (aL ⟨rfl, rfl, rfl, trivial⟩))) ?_;rintro k4 a h;simp only [kE] at h;refine aC (aC ?_);obtain ⟨b5, h6, h⟩ := bns h;refine cL mix 39 [2, 3, 4, 7] [(46, .b b5)] ?_ ?_
 ·refine bch h6 (fun c7 h6 => ?_) (fun c7 h6 => ?_)
  ·obtain ⟨x8, h9, h6⟩ := bns h6;obtain ⟨z, p, h6⟩ := bns h6;obtain ⟨j, q, h6⟩ := bns h6;obtain ⟨A, g, h6⟩ := bns h6;refine bch g (fun c g => ?_) (fun c g => ?_)
   ·obtain rfl := sIn g;obtain rfl := sIn h6;refine ⟨[(8, 0, .i a), (9, 1, .bp b1 0 0), (10, 2, .i f.Rounds), (11, 3, .b (decide (a < f.Rounds))), (12, 4, .b (decide (a < f.Rounds))), (13, 5, .bp b2 0 1), (14, 6, .d (.sl 1 (m.Must.map jA))), (15, 7, .i a), (16, 8, .cp [.sl 1 (x8.map aM)]), (17, 9, .d (.sl 1 (x8.map aM))), (18, 10, .i e), (19, 11, .i a), (20, 12, .i (w64 (a + 1))), (21, 13, .d (.lit (.int .u64 (uw (w64 (a + 1)))))), (22, 14, .i (e.fdiv (2 ^ (min (uw (w64 (a + 1))).toNat 64)))), (23, 15, .cp [.lit (.int .i64 j)]), (24, 16, .i j), (25, 17, .b (decide (j = (-2)))), (26, 18, .b (decide (j = (-2)))), (27, 19, .tup []), (28, 20, .tup []), (29, 21, .tup []), (30, 22, .tup []), (31, 23, .tup []), (32, 24, .tup []), (33, 25, .tup []), (34, 26, .tup []), (35, 27, .tup []), (36, 28, .tup []), (37, 29, .tup []), (38, 30, .tup []), (39, 31, .tup []), (40, 32, .tup []), (41, 33, .tup []), (42, 34, .tup []), (43, 35, .tup []), (44, 36, .tup []), (45, 37, .b true), (46, 38, .b (true))], ?_, ?_⟩
    · exact dok [([], []), ([], []), ([1], []), ([0, 2], []), ([3], []), ([4], []), ([4, 5], []), ([4], []), ([4, 6, 7], []), ([4, 8], []), ([4], []), ([4], []), ([4, 11], []), ([4, 12], []), ([4, 10, 13], []), ([4, 9, 14], []), ([4, 15], []), ([4, 16], []), ([4, 17], []), ([18], []), ([18, 19], []), ([18], []), ([18, 20, 21], []), ([18, 22], []), ([18], []), ([18], []), ([18, 25], []), ([18, 26], []), ([18, 24, 27], []), ([18, 23, 28], []), ([18, 29], []), ([18], []), ([18, 31], []), ([18], []), ([18, 32, 33], []), ([18, 34], []), ([18, 30, 35], []), ([4, 18, 36], []), ([4, 37], [])] ⟨go (zm (.i a)),
      go (zf rfl fJ),
      go (zl 0 rfl rfl rfl aR),
      go (zcm rfl rfl rfl),
      go (zm (.b (decide (a < f.Rounds)))),
      gt c7 (zf rfl qG),
      gt c7 (zl 1 rfl rfl rfl yR),
      gt c7 (zm (.i a)),
      gt c7 (zix rfl rfl aAj.of (aY jA h9)),
      gt c7 (zlc rfl cG),
      gt c7 (zm (.i e)),
      gt c7 (zm (.i a)),
      gt c7 (zar rfl rfl rfl),
      gt c7 fun S hS => nO (aD rfl) (aW hS rfl) Tryz.runUnderlying3 Tryz.runUnderlying113,
      gt c7 fun S hS => wQ (aD rfl) (aW hS rfl) (aW hS rfl) (xC p),
      gt c7 (zix rfl rfl bI.of (aY aM q)),
      gt c7 (zlc rfl aR),
      gt c7 (zcm rfl rfl rfl),
      gt c7 (zm (.b (decide (j = (-2))))),
      gp c,
      gp c,
      gp c,
      gp c,
      gp c,
      gp c,
      gp c,
      gp c,
      gp c,
      gp c,
      gp c,
      gp c,
      gp c,
      gp c,
      gp c,
      gp c,
      gp c,
      gp c,
      gt c7 (zpt (.b true) c),
      go (zpt (.b (true)) c7), trivial⟩
    · exact cF (aG rfl (aL ⟨rfl, rfl, rfl, rfl, trivial⟩))
   ·obtain ⟨s, t, g⟩ := bns g;obtain ⟨B, u, g⟩ := bns g;obtain ⟨n, w, g⟩ := bns g;obtain ⟨o, x, g⟩ := bns g;obtain rfl := sIn g;obtain rfl := sIn h6;refine ⟨[(8, 0, .i a), (9, 1, .bp b1 0 0), (10, 2, .i f.Rounds), (11, 3, .b (decide (a < f.Rounds))), (12, 4, .b (decide (a < f.Rounds))), (13, 5, .bp b2 0 1), (14, 6, .d (.sl 1 (m.Must.map jA))), (15, 7, .i a), (16, 8, .cp [.sl 1 (x8.map aM)]), (17, 9, .d (.sl 1 (x8.map aM))), (18, 10, .i e), (19, 11, .i a), (20, 12, .i (w64 (a + 1))), (21, 13, .d (.lit (.int .u64 (uw (w64 (a + 1)))))), (22, 14, .i (e.fdiv (2 ^ (min (uw (w64 (a + 1))).toNat 64)))), (23, 15, .cp [.lit (.int .i64 j)]), (24, 16, .i j), (25, 17, .b (decide (j = (-2)))), (26, 18, .b (decide (j = (-2)))), (27, 19, .bp b2 0 1), (28, 20, .d (.sl 1 (m.Must.map jA))), (29, 21, .i a), (30, 22, .cp [.sl 1 (s.map aM)]), (31, 23, .d (.sl 1 (s.map aM))), (32, 24, .i e), (33, 25, .i a), (34, 26, .i (w64 (a + 1))), (35, 27, .d (.lit (.int .u64 (uw (w64 (a + 1)))))), (36, 28, .i (e.fdiv (2 ^ (min (uw (w64 (a + 1))).toNat 64)))), (37, 29, .cp [.lit (.int .i64 n)]), (38, 30, .i n), (39, 31, .bp b2 0 0), (40, 32, .d (.sl 1 (m.Slots.map aM))), (41, 33, .i e), (42, 34, .cp [.lit (.int .i64 o)]), (43, 35, .i o), (44, 36, .b (decide (n = o))), (45, 37, .b (decide (n = o))), (46, 38, .b (decide (n = o)))], ?_, ?_⟩
    · exact dok [([], []), ([], []), ([1], []), ([0, 2], []), ([3], []), ([4], []), ([4, 5], []), ([4], []), ([4, 6, 7], []), ([4, 8], []), ([4], []), ([4], []), ([4, 11], []), ([4, 12], []), ([4, 10, 13], []), ([4, 9, 14], []), ([4, 15], []), ([4, 16], []), ([4, 17], []), ([18], []), ([18, 19], []), ([18], []), ([18, 20, 21], []), ([18, 22], []), ([18], []), ([18], []), ([18, 25], []), ([18, 26], []), ([18, 24, 27], []), ([18, 23, 28], []), ([18, 29], []), ([18], []), ([18, 31], []), ([18], []), ([18, 32, 33], []), ([18, 34], []), ([18, 30, 35], []), ([4, 18, 36], []), ([4, 37], [])] ⟨go (zm (.i a)),
      go (zf rfl fJ),
      go (zl 0 rfl rfl rfl aR),
      go (zcm rfl rfl rfl),
      go (zm (.b (decide (a < f.Rounds)))),
      gt c7 (zf rfl qG),
      gt c7 (zl 1 rfl rfl rfl yR),
      gt c7 (zm (.i a)),
      gt c7 (zix rfl rfl aAj.of (aY jA h9)),
      gt c7 (zlc rfl cG),
      gt c7 (zm (.i e)),
      gt c7 (zm (.i a)),
      gt c7 (zar rfl rfl rfl),
      gt c7 fun S hS => nO (aD rfl) (aW hS rfl) Tryz.runUnderlying3 Tryz.runUnderlying113,
      gt c7 fun S hS => wQ (aD rfl) (aW hS rfl) (aW hS rfl) (xC p),
      gt c7 (zix rfl rfl bI.of (aY aM q)),
      gt c7 (zlc rfl aR),
      gt c7 (zcm rfl rfl rfl),
      gt c7 (zm (.b (decide (j = (-2))))),
      gt c (zf rfl qG),
      gt c (zl 1 rfl rfl rfl yR),
      gt c (zm (.i a)),
      gt c (zix rfl rfl aAj.of (aY jA t)),
      gt c (zlc rfl cG),
      gt c (zm (.i e)),
      gt c (zm (.i a)),
      gt c (zar rfl rfl rfl),
      gt c fun S hS => nO (aD rfl) (aW hS rfl) Tryz.runUnderlying3 Tryz.runUnderlying113,
      gt c fun S hS => wQ (aD rfl) (aW hS rfl) (aW hS rfl) (xC u),
      gt c (zix rfl rfl bI.of (aY aM w)),
      gt c (zlc rfl aR),
      gt c (zf rfl aDn),
      gt c (zl 1 rfl rfl rfl cG),
      gt c (zm (.i e)),
      gt c (zix rfl rfl bI.of (aY aM x)),
      gt c (zlc rfl aR),
      gt c (zcm rfl rfl rfl),
      gt c7 (zpf (.b (decide (n = o))) c),
      go (zpt (.b (decide (n = o))) c7), trivial⟩
    · exact cF (aG rfl (aL ⟨rfl, rfl, rfl, rfl, trivial⟩))
  ·obtain rfl := sIn h6;refine ⟨[(8, 0, .i a), (9, 1, .bp b1 0 0), (10, 2, .i f.Rounds), (11, 3, .b (decide (a < f.Rounds))), (12, 4, .b (decide (a < f.Rounds))), (13, 5, .tup []), (14, 6, .tup []), (15, 7, .tup []), (16, 8, .tup []), (17, 9, .tup []), (18, 10, .tup []), (19, 11, .tup []), (20, 12, .tup []), (21, 13, .tup []), (22, 14, .tup []), (23, 15, .tup []), (24, 16, .tup []), (25, 17, .tup []), (26, 18, .tup []), (27, 19, .tup []), (28, 20, .tup []), (29, 21, .tup []), (30, 22, .tup []), (31, 23, .tup []), (32, 24, .tup []), (33, 25, .tup []), (34, 26, .tup []), (35, 27, .tup []), (36, 28, .tup []), (37, 29, .tup []), (38, 30, .tup []), (39, 31, .tup []), (40, 32, .tup []), (41, 33, .tup []), (42, 34, .tup []), (43, 35, .tup []), (44, 36, .tup []), (45, 37, .tup []), (46, 38, .b false)], ?_, ?_⟩
   · exact dok [([], []), ([], []), ([1], []), ([0, 2], []), ([3], []), ([4], []), ([4, 5], []), ([4], []), ([4, 6, 7], []), ([4, 8], []), ([4], []), ([4], []), ([4, 11], []), ([4, 12], []), ([4, 10, 13], []), ([4, 9, 14], []), ([4, 15], []), ([4, 16], []), ([4, 17], []), ([18], []), ([18, 19], []), ([18], []), ([18, 20, 21], []), ([18, 22], []), ([18], []), ([18], []), ([18, 25], []), ([18, 26], []), ([18, 24, 27], []), ([18, 23, 28], []), ([18, 29], []), ([18], []), ([18, 31], []), ([18], []), ([18, 32, 33], []), ([18, 34], []), ([18, 30, 35], []), ([4, 18, 36], []), ([4, 37], [])] ⟨go (zm (.i a)),
      go (zf rfl fJ),
      go (zl 0 rfl rfl rfl aR),
      go (zcm rfl rfl rfl),
      go (zm (.b (decide (a < f.Rounds)))),
      gp c7,
      gp c7,
      gp c7,
      gp c7,
      gp c7,
      gp c7,
      gp c7,
      gp c7,
      gp c7,
      gp c7,
      gp c7,
      gp c7,
      gp c7,
      gp c7,
      gq,
      gq,
      gq,
      gq,
      gq,
      gq,
      gq,
      gq,
      gq,
      gq,
      gq,
      gq,
      gq,
      gq,
      gq,
      gq,
      gq,
      gq,
      gp c7,
      go (zpf (.b false) c7), trivial⟩
   · exact cF (aG rfl (aL ⟨rfl, rfl, rfl, rfl, trivial⟩))
 ·refine aB ?_;refine tih h (fun y h => ?_) (fun y h => ?_)
  ·refine aX (bA (aA (tm (.i a) (to (sar rfl rfl rfl) (ta (.i (w64 (a + 1))) ?_)))));refine cQ ?_;exact ⟨(w64 (a + 1)), h, aP [0, 1] rfl rfl (aG rfl (aL ⟨rfl, rfl, rfl, trivial⟩))⟩
  ·refine bP ?_;refine .inl ⟨rfl, ?_⟩;simp only [rU] at h;refine aC (aA (tm (.i a) (ta (.i a) (aB ?_))));obtain rfl := sIn h;refine bL (bG (bH (l := [6]) ⟨rfl, trivial⟩)) ?_;exact aZ ⟨rfl, _, .one _, rfl, rfl⟩

theorem aFm (a : aV) (g : List aF) (c : Int) {r : bZ × Int} (h : fZ a g c = some r) : Fn Tryz.prog 88 [.agg (bC a), .d (.sl 5 (g.map aK)), .i c] (.tup [.agg (bN r.1), .i r.2]) := by
 unfold fZ at h;refine fH Tryz.func88 rfl (rs := [.cell 6 37, .tmp 7]) Tryz.results88 Tryz.ntmps88 (Nat.le_of_ble_eq_true rfl) ?_;refine aC (aA ?_);refine bB rfl (dC (v := .agg (bC a)) (aD rfl) rfl rfl rfl) ?_;rintro _ ⟨b1, rfl⟩;refine bB rfl (cH (zs := [.lit (.int .i64 0), .lit (.int .i64 0)]) (aD rfl) Tryz.zeroValue37 rfl rfl) ?_;rintro _ ⟨b2, rfl⟩;refine ta (.i 0) (aB (aC (aC (aA (to (sla 0 (bC a) rfl rfl jZ) (tm (.d (.sl 5 (g.map aK))) ?_))))));obtain ⟨r3, h4, h⟩ := bns h;refine to (scr Tryz.call49 (aAp _ _ h4)) (ta (.i r3) (aB (aC (aA (tm (.i r3) (to (scm rfl rfl rfl) (aB ?_)))))));refine tih h (fun c5 h => ?_) (fun c5 h => ?_)
 ·refine aC (aA (to (cZ (aD rfl) sD (zs := [.lit (.int .i64 0), .lit (.int .i64 0)]) rfl rfl rfl rfl (es := [.lit (.int .i64 0), .lit (.int .i64 0)]) rfl) ?_));refine tm (.i r3) (to (sst 1 rfl rfl Tryz.sizeOf37 (bN (bZ.mk 0 0))) (ta (.i r3) (aB ?_)));obtain rfl := sIn h;exact aZ ⟨rfl, _, [.box b1 0 (bC a), .box b2 0 (bN (bZ.mk 0 0))], .two (.cell 6 37 rfl (i := 1) rfl pN (es := (bN (bZ.mk 0 0))) rfl rfl) (.tmp 7 (v := .i r3) rfl), .refl _, .same _⟩
 ·refine aX (aC (aC (aA (tm (.i c) ?_))));obtain ⟨r6, h7, h⟩ := bns h;refine to (scr Tryz.call109 (gQ _ _ _ h7)) (to (sn rfl) (aB ?_));refine tih h (fun c8 h => ?_) (fun c8 h => ?_)
  ·refine aC (aA (to (cZ (aD rfl) sD (zs := [.lit (.int .i64 0), .lit (.int .i64 0)]) rfl rfl rfl rfl (es := [.lit (.int .i64 0), .lit (.int .i64 0)]) rfl) ?_));refine to (sst 1 rfl rfl Tryz.sizeOf37 (bN (bZ.mk 0 0))) (ta (.i 1) (aB ?_));obtain rfl := sIn h;exact aZ ⟨rfl, _, [.box b1 0 (bC a), .box b2 0 (bN (bZ.mk 0 0))], .two (.cell 6 37 rfl (i := 1) rfl pN (es := (bN (bZ.mk 0 0))) rfl rfl) (.tmp 7 (v := .i 1) rfl), .refl _, .same _⟩
  ·refine aX (aC (aA (to (sla 0 (bC a) rfl rfl jZ) (tm (.d (.sl 5 (g.map aK))) ?_))));obtain ⟨r9, l, h⟩ := bns h;refine to (dL (aD rfl) (.func _ _ Tryz.call85) rfl rfl (aBk _ _ l)) ?_;refine tm (.tup [.agg (bM r9.1), .b r9.2]) (to (sex rfl rfl) (to (sex rfl rfl) ?_));refine bB rfl (cH (zs := [.sl 1 ((([] : List Int)).map aM), .sl 1 ((([] : List (List Int))).map jA)]) (aD rfl) Tryz.zeroValue126 rfl rfl) ?_;rintro _ ⟨k, rfl⟩;refine to (sst 2 rfl rfl Tryz.sizeOf126 (bM r9.1)) (ta (.b r9.2) (aB (aC (aA (to (sla 2 (bM r9.1) rfl rfl wL) (tm (.i c) ?_))))));obtain ⟨e, m, h⟩ := bns h;refine to (scr Tryz.call111 (aKa _ _ m)) (ta (.i e) (aB (aC (aC (aA (tm (.i e) (to (scm rfl rfl rfl) (aB ?_))))))));refine tih h (fun n h => ?_) (fun n h => ?_)
   ·refine aC (aA (to (cZ (aD rfl) sD (zs := [.lit (.int .i64 0), .lit (.int .i64 0)]) rfl rfl rfl rfl (es := [.lit (.int .i64 0), .lit (.int .i64 0)]) rfl) ?_));refine to (sst 1 rfl rfl Tryz.sizeOf37 (bN (bZ.mk 0 0))) (ta (.i 3) (aB ?_));obtain rfl := sIn h;exact aZ ⟨rfl, _, [.box b1 0 (bC a), .box b2 0 (bN (bZ.mk 0 0)), .box k 0 (bM r9.1)], .two (.cell 6 37 rfl (i := 1) rfl pN (es := (bN (bZ.mk 0 0))) rfl rfl) (.tmp 7 (v := .i 3) rfl), .refl _, .same _⟩
   ·refine aX (aC ?_);obtain ⟨f, o, h⟩ := bns h;refine cL mix 7 [6] [(38, .i f), (39, .agg (bC a)), (40, .agg (bM r9.1)), (41, .i e)] ?_ ?_
    ·refine ⟨[(35, 0, .agg (bC a)), (36, 1, .agg (bM r9.1)), (37, 2, .i e), (38, 3, .i f), (39, 4, .agg (bC a)), (40, 5, .agg (bM r9.1)), (41, 6, .i e)], ?_, ?_⟩
     · exact dok [([], []), ([], []), ([], []), ([0, 1, 2], []), ([], []), ([], []), ([], [])] ⟨go (zla 0 (bC a) rfl rfl jZ),
      go (zla 2 (bM r9.1) rfl rfl wL),
      go (zm (.i e)),
      go fun S hS => fP (aD rfl) (.func _ _ Tryz.call112) (ev2 (aW hS rfl) (ev2 (aW hS rfl) (ev2 (aW hS rfl) evn))) rfl (BVs.refl _ _) (aHp _ _ _ o) rfl,
      go (zla 0 (bC a) rfl rfl jZ),
      go (zla 2 (bM r9.1) rfl rfl wL),
      go (zm (.i e)), trivial⟩
     · exact cF (aG rfl (aG rfl (aG rfl (aG rfl (aL ⟨rfl, trivial⟩)))))
    ·obtain ⟨j, p, h⟩ := bns h;refine to (scr Tryz.call113 (aJz _ _ _ p)) (to (cZ (aD rfl) sD (zs := [.lit (.int .i64 0), .lit (.int .i64 0)]) rfl rfl rfl rfl (es := [.lit (.int .i64 f), .lit (.int .i64 j)]) rfl) ?_);refine to (sst 1 rfl rfl Tryz.sizeOf37 (bN (bZ.mk f j))) (ta (.i 0) (aB ?_));obtain rfl := sIn h;exact aZ ⟨rfl, _, [.box b1 0 (bC a), .box b2 0 (bN (bZ.mk f j)), .box k 0 (bM r9.1)], .two (.cell 6 37 rfl (i := 1) rfl pN (es := (bN (bZ.mk f j))) rfl rfl) (.tmp 7 (v := .i 0) rfl), .refl _, .same _⟩

theorem aJx (a0 : aV) (a1 : List aF) (a2 : Int) {r : bZ × Int} (h : sY a0 a1 a2 = some r) : Fn Tryz.prog 73 [.agg (bC a0), .d (.sl 5 (a1.map aK)), .i a2] ((fun x : bZ × Int => .tup [.agg (bN x.1), .i x.2]) r) := aQm (enc := fun x : bZ × Int => .tup [.agg (bN x.1), .i x.2]) (aJw a0 a1 a2 (aHc a0 a1 a2 h (fun x => x = r) rfl))

theorem aGy (c : aN) (a : Int) {r : bZ × Bool} (h : uV c a = some r) : Fn Tryz.prog 40 [.agg (aJ c), .i a] (.tup [.agg (bN r.1), .b r.2]) := by
 unfold uV at h;refine fH Tryz.func40 rfl (rs := [.cell 4 37, .tmp 5]) Tryz.results40 Tryz.ntmps40 (Nat.le_of_ble_eq_true rfl) ?_;refine aC (aA ?_);refine bB rfl (dC (v := .agg (aJ c)) (aD rfl) rfl rfl rfl) ?_;rintro _ ⟨b1, rfl⟩;refine bB rfl (dC (v := .i a) (aD rfl) rfl rfl rfl) ?_;rintro _ ⟨b2, rfl⟩;refine bB rfl (cH (zs := [.lit (.int .i64 0), .lit (.int .i64 0)]) (aD rfl) Tryz.zeroValue37 rfl rfl) ?_;rintro _ ⟨b3, rfl⟩;refine ta (.b false) (aB (aC (aA (tfl 0 rfl rfl fX rfl kM (to (aRi (aD rfl) rfl rfl) ?_)))));obtain ⟨r5, h6, h⟩ := bns h;refine to (sc Tryz.call71 (aBc _ _ 72 [.cp [.lit (.int .i64 a)]] Tryz.call72 (fun _ _ h => aMz _ _ h) h6) (.cons (.same _) (.cons (aYn (.cons (aFh 1 rfl rfl (dvc (.same _) dvn)) .nil)) .nil))) (ta (.i r5) (aB (aC (aC (aA (tm (.i r5) (to (scm rfl rfl rfl) (aB ?_))))))));refine tih h (fun c7 h => ?_) (fun c7 h => ?_)
 ·refine aC (aA (to (cZ (aD rfl) sD (zs := [.lit (.int .i64 0), .lit (.int .i64 0)]) rfl rfl rfl rfl (es := [.lit (.int .i64 0), .lit (.int .i64 0)]) rfl) ?_));refine to (sst 2 rfl rfl Tryz.sizeOf37 (bN (bZ.mk 0 0))) (ta (.b false) (aB ?_));obtain rfl := sIn h;exact aZ ⟨rfl, _, [.box b1 0 (aJ c), .box b2 0 [.lit (.int .i64 a)], .box b3 0 (bN (bZ.mk 0 0))], .two (.cell 4 37 rfl (i := 2) rfl pN (es := (bN (bZ.mk 0 0))) rfl rfl) (.tmp 5 (v := .b false) rfl), .refl _, .same _⟩
 ·refine aX (aC (aA (tfl 0 rfl rfl fX rfl kM (tm (.i r5) ?_))));obtain ⟨x8, h9, h⟩ := bns h;refine to (six rfl rfl jX.of (aY bF h9)) (to (pJ (bF x8) rfl tA) ?_);refine bB rfl (cH (zs := [.lit (.int .i64 0), .lit (.int .i64 0), .lit (.int .i64 0)]) (aD rfl) Tryz.zeroValue46 rfl rfl) ?_;rintro _ ⟨f, rfl⟩;refine to (sst 3 rfl rfl Tryz.sizeOf46 (bF x8)) (aB (aC (aA (to (sf rfl fR) (to (sla 0 (bC c.Tree) rfl rfl jZ) (tfl 0 rfl rfl kL rfl pP (tfl 3 rfl rfl vT rfl aR ?_)))))));obtain ⟨e, n, h⟩ := bns h;refine to (dL (aD rfl) (.func _ _ Tryz.call73) rfl rfl (aJx _ _ _ n)) ?_;refine tm (.tup [.agg (bN e.1), .i e.2]) (to (sex rfl rfl) (to (sex rfl rfl) ?_));refine bB rfl (cH (zs := [.lit (.int .i64 0), .lit (.int .i64 0)]) (aD rfl) Tryz.zeroValue37 rfl rfl) ?_;rintro _ ⟨j, rfl⟩;refine to (sst 4 rfl rfl Tryz.sizeOf37 (bN e.1)) (ta (.i e.2) (aB (aC (aC (aA (tm (.i e.2) (to (scm rfl rfl rfl) (aB ?_))))))));refine tih h (fun o h => ?_) (fun o h => ?_)
  ·refine aC (aA (to (cZ (aD rfl) sD (zs := [.lit (.int .i64 0), .lit (.int .i64 0)]) rfl rfl rfl rfl (es := [.lit (.int .i64 0), .lit (.int .i64 0)]) rfl) ?_));refine to (sst 2 rfl rfl Tryz.sizeOf37 (bN (bZ.mk 0 0))) (ta (.b true) (aB ?_));obtain rfl := sIn h;exact aZ ⟨rfl, _, [.box b1 0 (aJ c), .box b2 0 [.lit (.int .i64 a)], .box b3 0 (bN (bZ.mk 0 0)), .box f 0 (bF x8), .box j 0 (bN e.1)], .two (.cell 4 37 rfl (i := 2) rfl pN (es := (bN (bZ.mk 0 0))) rfl rfl) (.tmp 5 (v := .b true) rfl), .refl _, .same _⟩
  ·refine aX (aC (aA (to (aRi (aD rfl) rfl rfl) ?_)));refine ta (.fn 74 [.bp f 0 0, .bp b2 0 0]) (aB (aC ?_));obtain ⟨m, p, h⟩ := bns h;obtain ⟨g, q, h⟩ := bns h;obtain ⟨l, s, h⟩ := bns h;refine cL mix 15 [4] [(44, .i g), (45, .fn 74 [.bp f 0 0, .bp b2 0 0]), (51, .i l)] ?_ ?_
   ·refine ⟨[(37, 0, .fn 74 [.bp f 0 0, .bp b2 0 0]), (38, 1, .bp b1 0 3), (39, 2, .d (.sl 1 (c.Prizes.map aM))), (40, 3, .bp j 0 0), (41, 4, .i e.1.Low), (42, 5, .cp [.lit (.int .i64 m)]), (43, 6, .i m), (44, 7, .i g), (45, 8, .fn 74 [.bp f 0 0, .bp b2 0 0]), (46, 9, .bp b1 0 3), (47, 10, .d (.sl 1 (c.Prizes.map aM))), (48, 11, .bp j 0 1), (49, 12, .i e.1.High), (50, 13, .cp [.lit (.int .i64 l)]), (51, 14, .i l)], ?_, ?_⟩
    · exact dok [([], []), ([], []), ([1], []), ([], []), ([3], []), ([2, 4], []), ([5], []), ([0, 6], []), ([], []), ([], []), ([9], []), ([], []), ([11], []), ([10, 12], []), ([13], [])] ⟨go (zm (.fn 74 [.bp f 0 0, .bp b2 0 0])),
      go (zf rfl fD),
      go (zl 0 rfl rfl rfl cG),
      go (zf rfl aLc),
      go (zl 4 rfl rfl rfl aR),
      go (zix rfl rfl bI.of (aY aM p)),
      go (zlc rfl aR),
      go fun S hS => fP (aD rfl) (.clo _ _ _ _ Tryz.call74 (aMu hS rfl)) (aCo (ev2 (aW hS rfl) evn)) rfl (.cons (.same _) (.cons (aFh 3 rfl rfl (dvc (.same _) (dvc (.same _) (dvc (.same _) dvn)))) (.cons (aFh 1 rfl rfl (dvc (.same _) dvn)) .nil))) (aDw _ _ _ q) rfl,
      go (zm (.fn 74 [.bp f 0 0, .bp b2 0 0])),
      go (zf rfl fD),
      go (zl 0 rfl rfl rfl cG),
      go (zf rfl aQl),
      go (zl 4 rfl rfl rfl aR),
      go (zix rfl rfl bI.of (aY aM s)),
      go (zlc rfl aR), trivial⟩
    · exact cF (aG rfl (aG rfl (aG rfl (aL ⟨rfl, trivial⟩))))
   ·obtain ⟨k, t, h⟩ := bns h;refine to (fP (aD rfl) (.clo _ _ _ _ Tryz.call74 rfl) (aCo rfl) rfl (.cons (.same _) (.cons (aFh 3 rfl rfl (dvc (.same _) (dvc (.same _) (dvc (.same _) dvn)))) (.cons (aFh 1 rfl rfl (dvc (.same _) dvn)) .nil))) (aDw _ _ _ t) rfl) ?_;refine to (cZ (aD rfl) sD (zs := [.lit (.int .i64 0), .lit (.int .i64 0)]) rfl rfl rfl rfl (es := [.lit (.int .i64 g), .lit (.int .i64 k)]) rfl) ?_;refine to (sst 2 rfl rfl Tryz.sizeOf37 (bN (bZ.mk g k))) (ta (.b true) (aB ?_));obtain rfl := sIn h;exact aZ ⟨rfl, _, [.box b1 0 (aJ c), .box b2 0 [.lit (.int .i64 a)], .box b3 0 (bN (bZ.mk g k)), .box f 0 (bF x8), .box j 0 (bN e.1)], .two (.cell 4 37 rfl (i := 2) rfl pN (es := (bN (bZ.mk g k))) rfl rfl) (.tmp 5 (v := .b true) rfl), .refl _, .same _⟩

theorem aPg (c : aN) (a : Int) {r : bZ × Int} (h : sX c a = some r) : Fn Tryz.prog 13 [.agg (aJ c), .i a] (.tup [.agg (bN r.1), .i r.2]) := by
 unfold sX at h;refine fH Tryz.func13 rfl (rs := [.cell 4 37, .tmp 5]) Tryz.results13 Tryz.ntmps13 (Nat.le_of_ble_eq_true rfl) ?_;refine aC (aA ?_);refine bB rfl (dC (v := .agg (aJ c)) (aD rfl) rfl rfl rfl) ?_;rintro _ ⟨b1, rfl⟩;refine bB rfl (cH (zs := [.lit (.int .i64 0), .lit (.int .i64 0)]) (aD rfl) Tryz.zeroValue37 rfl rfl) ?_;rintro _ ⟨b2, rfl⟩;refine ta (.i 0) (aB (aC (aC (aA (to (sla 0 (aJ c) rfl rfl dA) ?_)))));obtain ⟨r3, h4, h⟩ := bns h;refine to (scr Tryz.call23 (xF _ h4)) (ta (.i r3) (aB (aC (aA (tm (.i r3) (to (scm rfl rfl rfl) (aB ?_)))))));refine tih h (fun c5 h => ?_) (fun c5 h => ?_)
 ·refine aC (aA (to (cZ (aD rfl) sD (zs := [.lit (.int .i64 0), .lit (.int .i64 0)]) rfl rfl rfl rfl (es := [.lit (.int .i64 0), .lit (.int .i64 0)]) rfl) ?_));refine tm (.i r3) (to (sst 1 rfl rfl Tryz.sizeOf37 (bN (bZ.mk 0 0))) (ta (.i r3) (aB ?_)));obtain rfl := sIn h;exact aZ ⟨rfl, _, [.box b1 0 (aJ c), .box b2 0 (bN (bZ.mk 0 0))], .two (.cell 4 37 rfl (i := 1) rfl pN (es := (bN (bZ.mk 0 0))) rfl rfl) (.tmp 5 (v := .i r3) rfl), .refl _, .same _⟩
 ·refine aX (aC (aA (to (sla 0 (aJ c) rfl rfl dA) (tm (.i a) ?_))));obtain ⟨r6, h7, h⟩ := bns h;refine to (dL (aD rfl) (.func _ _ Tryz.call40) rfl rfl (aGy _ _ h7)) ?_;refine tm (.tup [.agg (bN r6.1), .b r6.2]) (to (sex rfl rfl) (to (sex rfl rfl) ?_));refine bB rfl (cH (zs := [.lit (.int .i64 0), .lit (.int .i64 0)]) (aD rfl) Tryz.zeroValue37 rfl rfl) ?_;rintro _ ⟨b8, rfl⟩;refine to (sst 2 rfl rfl Tryz.sizeOf37 (bN r6.1)) (ta (.b r6.2) (aB (aC (aC (aA (tm (.b r6.2) (to (sn rfl) (aB ?_))))))));refine tih h (fun c9 h => ?_) (fun c9 h => ?_)
  ·refine aC (aA (to (cZ (aD rfl) sD (zs := [.lit (.int .i64 0), .lit (.int .i64 0)]) rfl rfl rfl rfl (es := [.lit (.int .i64 0), .lit (.int .i64 0)]) rfl) ?_));refine to (sst 1 rfl rfl Tryz.sizeOf37 (bN (bZ.mk 0 0))) (ta (.i 1) (aB ?_));obtain rfl := sIn h;exact aZ ⟨rfl, _, [.box b1 0 (aJ c), .box b2 0 (bN (bZ.mk 0 0)), .box b8 0 (bN r6.1)], .two (.cell 4 37 rfl (i := 1) rfl pN (es := (bN (bZ.mk 0 0))) rfl rfl) (.tmp 5 (v := .i 1) rfl), .refl _, .same _⟩
  ·refine aX (aC (aA (to (sla 2 (bN r6.1) rfl rfl pN) (to (sst 1 rfl rfl Tryz.sizeOf37 (bN r6.1)) (ta (.i 0) (aB ?_))))));obtain rfl := sIn h;exact aZ ⟨rfl, _, [.box b1 0 (aJ c), .box b2 0 (bN r6.1), .box b8 0 (bN r6.1)], .two (.cell 4 37 rfl (i := 1) rfl pN (es := (bN r6.1)) rfl rfl) (.tmp 5 (v := .i 0) rfl), .refl _, .same _⟩

theorem aIy (l : aN) (f : Int) {r : aQ} (h : wO l f = some r) : Fn Tryz.prog 41 [.agg (aJ l), .i f] (.agg (aS r)) := by
 unfold wO at h;refine fH Tryz.func41 rfl (rs := [.cell 4 42]) Tryz.results41 Tryz.ntmps41 (Nat.le_of_ble_eq_true rfl) ?_;refine aC (aA ?_);refine bB rfl (dC (v := .agg (aJ l)) (aD rfl) rfl rfl rfl) ?_;rintro _ ⟨b1, rfl⟩;refine bB rfl (cH (zs := [.lit (.int .i64 0), .lit (.int .i64 0), .lit (.int .i64 0), .lit (.int .i64 0), .lit (.int .i64 0), .lit (.int .i64 0), .lit (.int .i64 0), .lit (.int .i64 0), .lit (.int .i64 0)]) (aD rfl) Tryz.zeroValue42 rfl rfl) ?_;rintro _ ⟨b2, rfl⟩;refine aB (aC (aA (to (sla 0 (aJ l) rfl rfl dA) (tm (.i f) ?_))));obtain ⟨r3, h4, h⟩ := bns h;refine to (dL (aD rfl) (.func _ _ Tryz.call40) rfl rfl (aGy _ _ h4)) ?_;refine tm (.tup [.agg (bN r3.1), .b r3.2]) (to (sex rfl rfl) (to (sex rfl rfl) ?_));refine bB rfl (cH (zs := [.lit (.int .i64 0), .lit (.int .i64 0)]) (aD rfl) Tryz.zeroValue37 rfl rfl) ?_;rintro _ ⟨b5, rfl⟩;refine to (sst 2 rfl rfl Tryz.sizeOf37 (bN r3.1)) (ta (.b r3.2) (aB (aC (aA (tm (.i f) (tfl 2 rfl rfl aLc rfl aR (to (cZ (aD rfl) xA (zs := [.lit (.int .i64 0), .lit (.int .i64 0), .lit (.int .i64 0), .lit (.int .i64 0), .lit (.int .i64 0), .lit (.int .i64 0), .lit (.int .i64 0), .lit (.int .i64 0), .lit (.int .i64 0)]) rfl rfl rfl rfl (es := [.lit (.int .i64 f), .lit (.int .i64 r3.1.Low), .lit (.int .i64 0), .lit (.int .i64 0), .lit (.int .i64 0), .lit (.int .i64 0), .lit (.int .i64 0), .lit (.int .i64 0), .lit (.int .i64 0)]) rfl) ?_)))))));refine bB rfl (cH (zs := [.lit (.int .i64 0), .lit (.int .i64 0), .lit (.int .i64 0), .lit (.int .i64 0), .lit (.int .i64 0), .lit (.int .i64 0), .lit (.int .i64 0), .lit (.int .i64 0), .lit (.int .i64 0)]) (aD rfl) Tryz.zeroValue42 rfl rfl) ?_;rintro _ ⟨b6, rfl⟩;refine to (sst 3 rfl rfl Tryz.sizeOf42 (aS (aQ.mk f r3.1.Low 0 0 0 0 0 0 0))) (aB (aC (aC (aA (tfl 0 rfl rfl jF rfl nN (to (sle rfl nJ.of) (tm (.i 0) (aB (bA ?_)))))))));refine bO (S := Int × aQ) [1, 2, 4, 7, 31, 32] (fun s7 => [(33, .i s7.1)]) (fun s7 => [.box b1 0 (aJ l), .box b2 0 (aS (aQ.mk 0 0 0 0 0 0 0 0 0)), .box b6 0 (aS s7.2)]) (fun k s7 => lR f l.Levies (l.Levies.length : Int) l (aQ.mk 0 0 0 0 0 0 0 0 0) k s7.1 s7.2) (fun _ => rfl) (0, (aQ.mk f r3.1.Low 0 0 0 0 0 0 0)) h (aP [0, 1, 3] rfl rfl (aG rfl (aL ⟨rfl, rfl, rfl, rfl, rfl, rfl, trivial⟩))) ?_;rintro k8 ⟨o, g⟩ h;simp only [lR] at h;refine aC (aA (to (scm rfl rfl rfl) (aB (aC ?_))));refine tih h (fun c9 h => ?_) (fun c9 h => ?_)
 ·refine aX (aC (bA (aC (aA ?_))));obtain ⟨u, x, h⟩ := bns h;refine to (six rfl rfl nJ.of (aY cB x)) (to (pJ (cB u) rfl aHh) ?_);refine bB rfl (cH (zs := [.lit (.int .i64 0), .lit (.int .i64 0)]) (aD rfl) Tryz.zeroValue78 rfl rfl) ?_;rintro _ ⟨K, rfl⟩;refine to (sst 3 rfl rfl Tryz.sizeOf78 (cB u)) (aB (aC (aA (tfl 3 rfl rfl xP rfl aR (tm (.i f) (to (scm rfl rfl rfl) (aB ?_)))))));refine tih h (fun y h => ?_) (fun y h => ?_)
  ·refine aA (tfl 2 rfl rfl sR rfl aR (tfl 3 rfl rfl aFp rfl aR (to (sar rfl rfl rfl) (to (aAi (aD rfl) rfl rfl (by decide)) ?_))));refine to (sf rfl sS) (to (sst 2 rfl rfl Tryz.sizeOf3 (aS (aQ.mk g.Person g.Gross (w64 ((w64 (g.Gross * u.Mille)).tdiv 1000)) g.Daily g.Fines g.Debt g.Units g.Used g.Rest))) ?_);refine cQ ?_;refine aA (to (sar rfl rfl rfl) (tm (.i (w64 (o + 1))) (aB ?_)));exact ⟨(w64 (o + 1), (aQ.mk g.Person g.Gross (w64 ((w64 (g.Gross * u.Mille)).tdiv 1000)) g.Daily g.Fines g.Debt g.Units g.Used g.Rest)), h, aP [0, 1, 2] rfl rfl (aG rfl (aL ⟨rfl, rfl, rfl, rfl, rfl, rfl, trivial⟩))⟩
  ·refine cK ?_;refine aA (to (sar rfl rfl rfl) (tm (.i (w64 (o + 1))) (aB ?_)));exact ⟨(w64 (o + 1), g), h, aP [0, 1, 2] rfl rfl (aG rfl (aL ⟨rfl, rfl, rfl, rfl, rfl, rfl, trivial⟩))⟩
 ·refine bP ?_;refine .inl ⟨rfl, ?_⟩;simp only [xH] at h;refine aC (aA (tfl 0 rfl rfl kX rfl rA ?_));obtain ⟨s, z, h⟩ := bns h;refine to (dL (aD rfl) (.func _ _ Tryz.call69) rfl rfl (aIz _ z)) ?_;refine tm (.tup [.d (.sl 4 (s.1.map aE)), .b s.2]) (to (sex rfl rfl) (to (sex rfl rfl) (ta (.d (.sl 4 (s.1.map aE))) (ta (.b s.2) (aB (aC (aC (aA (tm (.d (.sl 4 (s.1.map aE))) (to (sle rfl cR.of) (tm (.i 0) (aB (bA ?_)))))))))))));refine bO (S := Int × aQ) [1, 2, 4, 7, 55, 56] (fun t => [(57, .i t.1)]) (fun t => [.box b1 0 (aJ l), .box b2 0 (aS (aQ.mk 0 0 0 0 0 0 0 0 0)), .box b6 0 (aS t.2)]) (fun k t => lS f s.1 (s.1.length : Int) l (aQ.mk 0 0 0 0 0 0 0 0 0) k t.1 t.2) (fun _ => rfl) (0, g) h (aP [0, 1, 2] rfl rfl (aG rfl (aL ⟨rfl, rfl, rfl, rfl, rfl, rfl, trivial⟩))) ?_;rintro L ⟨j, a⟩ h;simp only [lS] at h;refine aC (aA (to (scm rfl rfl rfl) (aB (aC ?_))));refine tih h (fun A h => ?_) (fun A h => ?_)
  ·refine aX (aC (bA (aC (aA ?_))));obtain ⟨p, B, h⟩ := bns h;refine to (six rfl rfl cR.of (aY aE B)) (to (pJ (aE p) rfl fV) ?_);refine bB rfl (cH (zs := [.lit (.int .i64 0), .lit (.int .i64 0), .lit (.int .i64 0), .lit (.int .i64 0)]) (aD rfl) Tryz.zeroValue76 rfl rfl) ?_;rintro _ ⟨M, rfl⟩;refine to (sst 3 rfl rfl Tryz.sizeOf76 (aE p)) (aB ?_);refine uX ?_;refine aC (aA (tfl 3 rfl rfl aCs rfl aR (tm (.i f) (to (scm rfl rfl rfl) (ta (.b (!decide (p.Person = f))) (aB ?_))))));refine tih h (fun C h => ?_) (fun C h => ?_)
   ·refine cK ?_;refine aA (to (sar rfl rfl rfl) (tm (.i (w64 (j + 1))) (aB ?_)));exact ⟨(w64 (j + 1), a), h, aP [0, 1, 2] rfl rfl (aG rfl (aL ⟨rfl, rfl, rfl, rfl, rfl, rfl, trivial⟩))⟩
   ·refine aC (aA (tfl 3 rfl rfl uF rfl aR (to (scm rfl rfl rfl) (ta (.b (decide (p.Kind = 2))) (aB ?_)))));refine tih h (fun E h => ?_) (fun E h => ?_)
    ·refine aA (tfl 2 rfl rfl pC rfl aR (tfl 3 rfl rfl vU rfl aR (tfl 0 rfl rfl zS rfl aR (to (sar rfl rfl rfl) (to (sar rfl rfl rfl) (to (sf rfl pC) (to (sst 2 rfl rfl Tryz.sizeOf3 (aS (aQ.mk a.Person a.Gross a.Tax (w64 (a.Daily + (w64 (p.Amount * l.Daily)))) a.Fines a.Debt a.Units a.Used a.Rest))) ?_)))))));refine cQ ?_;refine aA (to (sar rfl rfl rfl) (tm (.i (w64 (j + 1))) (aB ?_)));exact ⟨(w64 (j + 1), (aQ.mk a.Person a.Gross a.Tax (w64 (a.Daily + (w64 (p.Amount * l.Daily)))) a.Fines a.Debt a.Units a.Used a.Rest)), h, aP [0, 1, 2] rfl rfl (aG rfl (aL ⟨rfl, rfl, rfl, rfl, rfl, rfl, trivial⟩))⟩
    ·refine aA (tfl 2 rfl rfl pD rfl aR (tfl 3 rfl rfl vU rfl aR (to (sar rfl rfl rfl) (to (sf rfl pD) (to (sst 2 rfl rfl Tryz.sizeOf3 (aS (aQ.mk a.Person a.Gross a.Tax a.Daily (w64 (a.Fines + p.Amount)) a.Debt a.Units a.Used a.Rest))) ?_)))));refine cQ ?_;refine aA (to (sar rfl rfl rfl) (tm (.i (w64 (j + 1))) (aB ?_)));exact ⟨(w64 (j + 1), (aQ.mk a.Person a.Gross a.Tax a.Daily (w64 (a.Fines + p.Amount)) a.Debt a.Units a.Used a.Rest)), h, aP [0, 1, 2] rfl rfl (aG rfl (aL ⟨rfl, rfl, rfl, rfl, rfl, rfl, trivial⟩))⟩
  ·refine bP ?_;refine .inl ⟨rfl, ?_⟩;simp only [uQ] at h;refine aC (aA (tfl 2 rfl rfl sR rfl aR (tfl 2 rfl rfl pC rfl aR (to (sar rfl rfl rfl) (tfl 2 rfl rfl sS rfl aR (to (sar rfl rfl rfl) (tfl 2 rfl rfl pD rfl aR (to (sar rfl rfl rfl) (ta (.i (w64 ((w64 ((w64 (a.Gross + a.Daily)) - a.Tax)) - a.Fines))) ?_)))))))));refine aB (aC (aA (tm (.i (w64 ((w64 ((w64 (a.Gross + a.Daily)) - a.Tax)) - a.Fines))) (to (aYu (aD rfl) rfl) ?_))));refine to (aPp (aD rfl) rfl rfl) ?_;refine to (sf rfl uE) (to (sst 2 rfl rfl Tryz.sizeOf3 (aS (aQ.mk a.Person a.Gross a.Tax a.Daily a.Fines (max 0 (w64 (-(w64 ((w64 ((w64 (a.Gross + a.Daily)) - a.Tax)) - a.Fines))))) a.Units a.Used a.Rest))) (aB (aC (aA (tm (.i (w64 ((w64 ((w64 (a.Gross + a.Daily)) - a.Tax)) - a.Fines))) (to (aPp (aD rfl) rfl rfl) ?_))))));refine ta (.i (max 0 (w64 ((w64 ((w64 (a.Gross + a.Daily)) - a.Tax)) - a.Fines)))) (aB (aC (aA (ta (.i 1) (ta (.i 1) (aB (aC (aC (aA (tfl 0 rfl rfl kW rfl qZ (to (sle rfl qF.of) (tm (.i 0) ?_))))))))))));refine aB (bA ?_);refine bO (S := Int × Int × Int) [1, 4, 7, 15, 104, 105] (fun q => [(16, .i q.1), (17, .i q.2.1), (106, .i q.2.2)]) (fun q => [.box b2 0 (aS (aQ.mk 0 0 0 0 0 0 0 0 0)), .box b6 0 (aS (aQ.mk a.Person a.Gross a.Tax a.Daily a.Fines (max 0 (w64 (-(w64 ((w64 ((w64 (a.Gross + a.Daily)) - a.Tax)) - a.Fines))))) a.Units a.Used a.Rest))]) (fun k q => nF f (max 0 (w64 ((w64 ((w64 (a.Gross + a.Daily)) - a.Tax)) - a.Fines))) l.Rates (l.Rates.length : Int) (aQ.mk 0 0 0 0 0 0 0 0 0) (aQ.mk a.Person a.Gross a.Tax a.Daily a.Fines (max 0 (w64 (-(w64 ((w64 ((w64 (a.Gross + a.Daily)) - a.Tax)) - a.Fines))))) a.Units a.Used a.Rest) k q.1 q.2.1 q.2.2) (fun _ => rfl) (1, 1, 0) h (aP [1, 2] rfl rfl (aG rfl (aG rfl (aG rfl (aL ⟨rfl, rfl, rfl, rfl, rfl, rfl, trivial⟩))))) ?_;rintro N ⟨c, e, m⟩ h;simp only [nF] at h;refine aC (aA (to (scm rfl rfl rfl) (aB (aC ?_))));refine tih h (fun F h => ?_) (fun F h => ?_)
   ·refine aX (aC (bA (aC (aA ?_))));obtain ⟨n, G, h⟩ := bns h;refine to (six rfl rfl qF.of (aY bX G)) (to (pJ (bX n) rfl yK) ?_);refine bB rfl (cH (zs := [.lit (.int .i64 0), .lit (.int .i64 0), .lit (.int .i64 0)]) (aD rfl) Tryz.zeroValue80 rfl rfl) ?_;rintro _ ⟨w, rfl⟩;refine to (sst 2 rfl rfl Tryz.sizeOf80 (bX n)) (aB (aC (aA (tfl 2 rfl rfl xQ rfl aR (tm (.i f) (to (scm rfl rfl rfl) (aB ?_)))))));refine tih h (fun H h => ?_) (fun H h => ?_)
    ·refine cL mix 5 [1, 4, 7, 15, 104, 105, 106] [(16, .i n.Num), (117, .i n.Den)] ?_ ?_
     ·refine ⟨[(114, 0, .bp w 0 1), (115, 1, .i n.Num), (116, 2, .bp w 0 2), (117, 3, .i n.Den), (16, 4, .i n.Num)], ?_, ?_⟩
      · exact dok [([], []), ([0], []), ([], []), ([2], []), ([1], [])] ⟨go (zf rfl xR),
      go (zl 2 rfl rfl rfl aR),
      go (zf rfl aCt),
      go (zl 2 rfl rfl rfl aR),
      go (za (.i n.Num)), trivial⟩
      · exact cF (aG rfl (aG rfl (aL ⟨rfl, rfl, rfl, rfl, rfl, rfl, rfl, trivial⟩)))
     ·refine ta (.i n.Den) ?_;refine cQ ?_;refine aA (to (sar rfl rfl rfl) (tm (.i (w64 (m + 1))) (aB ?_)));exact ⟨(n.Num, n.Den, w64 (m + 1)), h, aP [0, 1] rfl rfl (aG rfl (aG rfl (aG rfl (aL ⟨rfl, rfl, rfl, rfl, rfl, rfl, trivial⟩))))⟩
    ·refine cK ?_;refine aA (to (sar rfl rfl rfl) (tm (.i (w64 (m + 1))) (aB ?_)));exact ⟨(c, e, w64 (m + 1)), h, aP [0, 1] rfl rfl (aG rfl (aG rfl (aG rfl (aL ⟨rfl, rfl, rfl, rfl, rfl, rfl, trivial⟩))))⟩
   ·refine bP ?_;refine .inl ⟨rfl, ?_⟩;simp only [xI] at h;refine aC (aA (tm (.i (max 0 (w64 ((w64 ((w64 (a.Gross + a.Daily)) - a.Tax)) - a.Fines)))) (tm (.i c) (to (sar rfl rfl rfl) (tm (.i e) ?_)))));obtain ⟨O, I, h⟩ := bns h;refine to (aAi (aD rfl) rfl rfl (aPn I)) ?_;refine to (sf rfl sT) (to (sst 1 rfl rfl Tryz.sizeOf3 (aS (aQ.mk a.Person a.Gross a.Tax a.Daily a.Fines (max 0 (w64 (-(w64 ((w64 ((w64 (a.Gross + a.Daily)) - a.Tax)) - a.Fines))))) (w64 ((w64 ((max 0 (w64 ((w64 ((w64 (a.Gross + a.Daily)) - a.Tax)) - a.Fines))) * c)).tdiv e)) a.Used a.Rest))) (aB (aC (aA (tfl 1 rfl rfl sT rfl aR (tm (.i e) (to (sar rfl rfl rfl) (tm (.i c) (to (sar rfl rfl rfl) (to (sar rfl rfl rfl) (tm (.i c) ?_)))))))))));obtain ⟨P, J, h⟩ := bns h;refine to (aAi (aD rfl) rfl rfl (aPn J)) ?_;refine to (sf rfl sU) (to (sst 1 rfl rfl Tryz.sizeOf3 (aS (aQ.mk a.Person a.Gross a.Tax a.Daily a.Fines (max 0 (w64 (-(w64 ((w64 ((w64 (a.Gross + a.Daily)) - a.Tax)) - a.Fines))))) (w64 ((w64 ((max 0 (w64 ((w64 ((w64 (a.Gross + a.Daily)) - a.Tax)) - a.Fines))) * c)).tdiv e)) (w64 ((w64 ((w64 ((w64 ((w64 ((w64 ((max 0 (w64 ((w64 ((w64 (a.Gross + a.Daily)) - a.Tax)) - a.Fines))) * c)).tdiv e)) * e)) + c)) - 1)).tdiv c)) a.Rest))) (aB (aC (aA (tm (.i (max 0 (w64 ((w64 ((w64 (a.Gross + a.Daily)) - a.Tax)) - a.Fines)))) (tfl 1 rfl rfl sU rfl aR (to (sar rfl rfl rfl) (to (sf rfl vS) (to (sst 1 rfl rfl Tryz.sizeOf3 (aS (aQ.mk a.Person a.Gross a.Tax a.Daily a.Fines (max 0 (w64 (-(w64 ((w64 ((w64 (a.Gross + a.Daily)) - a.Tax)) - a.Fines))))) (w64 ((w64 ((max 0 (w64 ((w64 ((w64 (a.Gross + a.Daily)) - a.Tax)) - a.Fines))) * c)).tdiv e)) (w64 ((w64 ((w64 ((w64 ((w64 ((w64 ((max 0 (w64 ((w64 ((w64 (a.Gross + a.Daily)) - a.Tax)) - a.Fines))) * c)).tdiv e)) * e)) + c)) - 1)).tdiv c)) (w64 ((max 0 (w64 ((w64 ((w64 (a.Gross + a.Daily)) - a.Tax)) - a.Fines))) - (w64 ((w64 ((w64 ((w64 ((w64 ((w64 ((max 0 (w64 ((w64 ((w64 (a.Gross + a.Daily)) - a.Tax)) - a.Fines))) * c)).tdiv e)) * e)) + c)) - 1)).tdiv c))))))) (aB (aC (aA ?_))))))))))));refine to (sla 1 (aS (aQ.mk a.Person a.Gross a.Tax a.Daily a.Fines (max 0 (w64 (-(w64 ((w64 ((w64 (a.Gross + a.Daily)) - a.Tax)) - a.Fines))))) (w64 ((w64 ((max 0 (w64 ((w64 ((w64 (a.Gross + a.Daily)) - a.Tax)) - a.Fines))) * c)).tdiv e)) (w64 ((w64 ((w64 ((w64 ((w64 ((w64 ((max 0 (w64 ((w64 ((w64 (a.Gross + a.Daily)) - a.Tax)) - a.Fines))) * c)).tdiv e)) * e)) + c)) - 1)).tdiv c)) (w64 ((max 0 (w64 ((w64 ((w64 (a.Gross + a.Daily)) - a.Tax)) - a.Fines))) - (w64 ((w64 ((w64 ((w64 ((w64 ((w64 ((max 0 (w64 ((w64 ((w64 (a.Gross + a.Daily)) - a.Tax)) - a.Fines))) * c)).tdiv e)) * e)) + c)) - 1)).tdiv c)))))) rfl rfl jR) (to (sst 0 rfl rfl Tryz.sizeOf42 (aS (aQ.mk a.Person a.Gross a.Tax a.Daily a.Fines (max 0 (w64 (-(w64 ((w64 ((w64 (a.Gross + a.Daily)) - a.Tax)) - a.Fines))))) (w64 ((w64 ((max 0 (w64 ((w64 ((w64 (a.Gross + a.Daily)) - a.Tax)) - a.Fines))) * c)).tdiv e)) (w64 ((w64 ((w64 ((w64 ((w64 ((w64 ((max 0 (w64 ((w64 ((w64 (a.Gross + a.Daily)) - a.Tax)) - a.Fines))) * c)).tdiv e)) * e)) + c)) - 1)).tdiv c)) (w64 ((max 0 (w64 ((w64 ((w64 (a.Gross + a.Daily)) - a.Tax)) - a.Fines))) - (w64 ((w64 ((w64 ((w64 ((w64 ((w64 ((max 0 (w64 ((w64 ((w64 (a.Gross + a.Daily)) - a.Tax)) - a.Fines))) * c)).tdiv e)) * e)) + c)) - 1)).tdiv c))))))) (aB ?_));obtain rfl := sIn h;exact aZ ⟨rfl, _, [.box b2 0 (aS (aQ.mk a.Person a.Gross a.Tax a.Daily a.Fines (max 0 (w64 (-(w64 ((w64 ((w64 (a.Gross + a.Daily)) - a.Tax)) - a.Fines))))) (w64 ((w64 ((max 0 (w64 ((w64 ((w64 (a.Gross + a.Daily)) - a.Tax)) - a.Fines))) * c)).tdiv e)) (w64 ((w64 ((w64 ((w64 ((w64 ((w64 ((max 0 (w64 ((w64 ((w64 (a.Gross + a.Daily)) - a.Tax)) - a.Fines))) * c)).tdiv e)) * e)) + c)) - 1)).tdiv c)) (w64 ((max 0 (w64 ((w64 ((w64 (a.Gross + a.Daily)) - a.Tax)) - a.Fines))) - (w64 ((w64 ((w64 ((w64 ((w64 ((w64 ((max 0 (w64 ((w64 ((w64 (a.Gross + a.Daily)) - a.Tax)) - a.Fines))) * c)).tdiv e)) * e)) + c)) - 1)).tdiv c)))))), .box b6 0 (aS (aQ.mk a.Person a.Gross a.Tax a.Daily a.Fines (max 0 (w64 (-(w64 ((w64 ((w64 (a.Gross + a.Daily)) - a.Tax)) - a.Fines))))) (w64 ((w64 ((max 0 (w64 ((w64 ((w64 (a.Gross + a.Daily)) - a.Tax)) - a.Fines))) * c)).tdiv e)) (w64 ((w64 ((w64 ((w64 ((w64 ((w64 ((max 0 (w64 ((w64 ((w64 (a.Gross + a.Daily)) - a.Tax)) - a.Fines))) * c)).tdiv e)) * e)) + c)) - 1)).tdiv c)) (w64 ((max 0 (w64 ((w64 ((w64 (a.Gross + a.Daily)) - a.Tax)) - a.Fines))) - (w64 ((w64 ((w64 ((w64 ((w64 ((w64 ((max 0 (w64 ((w64 ((w64 (a.Gross + a.Daily)) - a.Tax)) - a.Fines))) * c)).tdiv e)) * e)) + c)) - 1)).tdiv c))))))], .one (.cell 4 42 rfl (i := 0) rfl jR (es := (aS (aQ.mk a.Person a.Gross a.Tax a.Daily a.Fines (max 0 (w64 (-(w64 ((w64 ((w64 (a.Gross + a.Daily)) - a.Tax)) - a.Fines))))) (w64 ((w64 ((max 0 (w64 ((w64 ((w64 (a.Gross + a.Daily)) - a.Tax)) - a.Fines))) * c)).tdiv e)) (w64 ((w64 ((w64 ((w64 ((w64 ((w64 ((max 0 (w64 ((w64 ((w64 (a.Gross + a.Daily)) - a.Tax)) - a.Fines))) * c)).tdiv e)) * e)) + c)) - 1)).tdiv c)) (w64 ((max 0 (w64 ((w64 ((w64 (a.Gross + a.Daily)) - a.Tax)) - a.Fines))) - (w64 ((w64 ((w64 ((w64 ((w64 ((w64 ((max 0 (w64 ((w64 ((w64 (a.Gross + a.Daily)) - a.Tax)) - a.Fines))) * c)).tdiv e)) * e)) + c)) - 1)).tdiv c))))))) rfl rfl), .refl _, .same _⟩

theorem aIv (b : aN) (a : Int) {r : aQ × Int} (h : qC b a = some r) : Fn Tryz.prog 14 [.agg (aJ b), .i a] (.tup [.agg (aS r.1), .i r.2]) := by
 unfold qC at h;refine fH Tryz.func14 rfl (rs := [.cell 4 42, .tmp 5]) Tryz.results14 Tryz.ntmps14 (Nat.le_of_ble_eq_true rfl) ?_;refine aC (aA ?_);refine bB rfl (dC (v := .agg (aJ b)) (aD rfl) rfl rfl rfl) ?_;rintro _ ⟨b1, rfl⟩;refine bB rfl (cH (zs := [.lit (.int .i64 0), .lit (.int .i64 0), .lit (.int .i64 0), .lit (.int .i64 0), .lit (.int .i64 0), .lit (.int .i64 0), .lit (.int .i64 0), .lit (.int .i64 0), .lit (.int .i64 0)]) (aD rfl) Tryz.zeroValue42 rfl rfl) ?_;rintro _ ⟨b2, rfl⟩;refine ta (.i 0) (aB (aC (aC (aA (to (sla 0 (aJ b) rfl rfl dA) (tm (.i a) ?_))))));obtain ⟨r3, h4, h⟩ := bns h;refine to (dL (aD rfl) (.func _ _ Tryz.call13) rfl rfl (aPg _ _ h4)) ?_;refine tm (.tup [.agg (bN r3.1), .i r3.2]) (to (sex rfl rfl) (to (sex rfl rfl) ?_));refine bB rfl (cH (zs := [.lit (.int .i64 0), .lit (.int .i64 0)]) (aD rfl) Tryz.zeroValue37 rfl rfl) ?_;rintro _ ⟨b5, rfl⟩;refine to (sst 2 rfl rfl Tryz.sizeOf37 (bN r3.1)) (ta (.i r3.2) (aB (aC (aA (tm (.i r3.2) (to (scm rfl rfl rfl) (aB ?_)))))));refine tih h (fun c6 h => ?_) (fun c6 h => ?_)
 ·refine aC (aA (to (cZ (aD rfl) xA (zs := [.lit (.int .i64 0), .lit (.int .i64 0), .lit (.int .i64 0), .lit (.int .i64 0), .lit (.int .i64 0), .lit (.int .i64 0), .lit (.int .i64 0), .lit (.int .i64 0), .lit (.int .i64 0)]) rfl rfl rfl rfl (es := [.lit (.int .i64 0), .lit (.int .i64 0), .lit (.int .i64 0), .lit (.int .i64 0), .lit (.int .i64 0), .lit (.int .i64 0), .lit (.int .i64 0), .lit (.int .i64 0), .lit (.int .i64 0)]) rfl) ?_));refine tm (.i r3.2) (to (sst 1 rfl rfl Tryz.sizeOf42 (aS (aQ.mk 0 0 0 0 0 0 0 0 0))) (ta (.i r3.2) (aB ?_)));obtain rfl := sIn h;exact aZ ⟨rfl, _, [.box b1 0 (aJ b), .box b2 0 (aS (aQ.mk 0 0 0 0 0 0 0 0 0)), .box b5 0 (bN r3.1)], .two (.cell 4 42 rfl (i := 1) rfl jR (es := (aS (aQ.mk 0 0 0 0 0 0 0 0 0))) rfl rfl) (.tmp 5 (v := .i r3.2) rfl), .refl _, .same _⟩
 ·refine aX (aC (aA (to (sla 0 (aJ b) rfl rfl dA) (tm (.i a) ?_))));obtain ⟨r7, h8, h⟩ := bns h;refine to (dL (aD rfl) (.func _ _ Tryz.call41) rfl rfl (aIy _ _ h8)) ?_;refine to (sst 1 rfl rfl Tryz.sizeOf42 (aS r7)) (ta (.i 0) (aB ?_));obtain rfl := sIn h;exact aZ ⟨rfl, _, [.box b1 0 (aJ b), .box b2 0 (aS r7), .box b5 0 (bN r3.1)], .two (.cell 4 42 rfl (i := 1) rfl jR (es := (aS r7)) rfl rfl) (.tmp 5 (v := .i 0) rfl), .refl _, .same _⟩

theorem aGv (a : aN) {r : (List aQ) × Int} (h : oG a = some r) : Fn Tryz.prog 26 [.agg (aJ a)] (.tup [.d (.sl 9 (r.1.map aS)), .i r.2]) := by
 unfold oG at h;refine Fn.of_tr Tryz.func26 rfl (rs := [.tmp 2, .tmp 3]) Tryz.results26 Tryz.ntmps26 (Nat.le_of_ble_eq_true rfl) ?_;refine aC (aA ?_);refine bB rfl (dC (v := .agg (aJ a)) (aD rfl) rfl rfl rfl) ?_;rintro _ ⟨b1, rfl⟩;refine to (xJ 9 (aD rfl)) ?_;refine ta (.i 0) (aB (aC (aC (aA (to (sla 0 (aJ a) rfl rfl dA) ?_)))));obtain ⟨r2, h3, h⟩ := bns h;refine to (scr Tryz.call23 (xF _ h3)) (ta (.i r2) (aB (aC (aA (tm (.i r2) (to (scm rfl rfl rfl) (aB ?_)))))));refine tih h (fun c4 h => ?_) (fun c4 h => ?_)
 ·refine aC (aA (tm (.i r2) (to (xJ 9 (aD rfl)) ?_)));refine ta (.i r2) (aB ?_);obtain rfl := sIn h;refine bL (bG (bH (l := [2, 3]) ⟨rfl, rfl, trivial⟩)) ?_;exact aZ ⟨rfl, _, .two _ _, rfl, rfl⟩
 ·refine aX (aC (aA (to (gU 42 9 (.inl rfl) (aD rfl)) ?_)));refine aB (aC (aC (aA (to (sla 0 (aJ a) rfl rfl dA) ?_))));obtain ⟨r6, h7, h⟩ := bns h;refine to (dL (aD rfl) (.func _ _ Tryz.call55) rfl rfl (yX _ h7)) ?_;refine to (sle rfl bI.of) (tm (.i 0) (aB (bA ?_)));refine bO (S := Int × (List aQ) × Value) [1, 14, 15] (fun s8 => [(5, .d (.lit s8.2.2)), (16, .i s8.1)]) (fun s8 => [.box b1 0 (aJ a), .arr s8.2.2 42 9 (s8.2.1.map aS)]) (fun k s8 => nY r6 (r6.length : Int) a k s8.1 s8.2.1) (fun _ => rfl) (0, ([] : List aQ), (.slice none 0 0)) h (aP [0, 1] rfl rfl (aG rfl (aG rfl (aL ⟨rfl, rfl, rfl, trivial⟩)))) ?_;rintro s ⟨b, c, w9⟩ h;simp only [nY] at h;refine aC (aA (to (scm rfl rfl rfl) (aB (aC ?_))));refine tih h (fun j h => ?_) (fun j h => ?_)
  ·refine aX (aC (bA (aC (aA ?_))));obtain ⟨e, m, h⟩ := bns h;refine to (six rfl rfl bI.of (aY aM m)) (to (slc rfl aR) (ta (.i e) (aB (aA (tm (.d (.lit w9)) (to (sla 0 (aJ a) rfl rfl dA) (tm (.i e) ?_)))))));obtain ⟨n, o, h⟩ := bns h;refine to (dL (aD rfl) (.func _ _ Tryz.call41) rfl rfl (aIy _ _ o)) ?_;refine to (fE (aD rfl) wR rfl rfl (rows := ([n]).map aS) rfl (cP (f := aS) fun _ => rfl) rfl (by decide)) ?_;obtain ⟨p, q, h⟩ := bns h;refine bB rfl (fT (i := 1) (aD rfl) wR rfl rfl rfl (fun _ => rfl) q rfl) ?_;rintro _ ⟨g, rfl⟩;refine ta (.d (.lit g)) ?_;refine cQ ?_;refine aA (to (sar rfl rfl rfl) (tm (.i (w64 (b + 1))) (aB ?_)));exact ⟨(w64 (b + 1), p, g), h, aP [0, 1] rfl rfl (aG rfl (aG rfl (aL ⟨rfl, rfl, rfl, trivial⟩)))⟩
  ·refine bP ?_;refine .inl ⟨rfl, ?_⟩;simp only [aEx] at h;refine aC (aA (tm (.d (.lit w9)) (ta (.d (.lit w9)) (ta (.i 0) (aB ?_)))));obtain rfl := sIn h;refine bL (bG (uU (k := 3) (v := .i 0) (.same _) (uU (k := 2) (v := .d (.sl 9 (c.map aS))) (.d (mT 1 rfl (cP (f := aS) fun _ => rfl))) (zM)))) ?_;exact aZ ⟨rfl, _, .two _ _, rfl, rfl⟩

theorem aGx (e : aN) {r : aQ × Int} (h : oH e = some r) : Fn Tryz.prog 28 [.agg (aJ e)] (.tup [.agg (aS r.1), .i r.2]) := by
 unfold oH at h;refine fH Tryz.func28 rfl (rs := [.cell 2 42, .tmp 3]) Tryz.results28 Tryz.ntmps28 (Nat.le_of_ble_eq_true rfl) ?_;refine aC (aA ?_);refine bB rfl (dC (v := .agg (aJ e)) (aD rfl) rfl rfl rfl) ?_;rintro _ ⟨b1, rfl⟩;refine bB rfl (cH (zs := [.lit (.int .i64 0), .lit (.int .i64 0), .lit (.int .i64 0), .lit (.int .i64 0), .lit (.int .i64 0), .lit (.int .i64 0), .lit (.int .i64 0), .lit (.int .i64 0), .lit (.int .i64 0)]) (aD rfl) Tryz.zeroValue42 rfl rfl) ?_;rintro _ ⟨b2, rfl⟩;refine ta (.i 0) (aB (aC (aA (to (sla 0 (aJ e) rfl rfl dA) ?_))));obtain ⟨r3, h4, h⟩ := bns h;refine to (dL (aD rfl) (.func _ _ Tryz.call26) rfl rfl (aGv _ h4)) ?_;refine tm (.tup [.d (.sl 9 (r3.1.map aS)), .i r3.2]) (to (sex rfl rfl) (to (sex rfl rfl) (ta (.d (.sl 9 (r3.1.map aS))) (ta (.i r3.2) (aB (aC (aC (aA (tm (.i r3.2) (to (scm rfl rfl rfl) (aB ?_)))))))))));refine tih h (fun c5 h => ?_) (fun c5 h => ?_)
 ·refine aC (aA (to (cZ (aD rfl) xA (zs := [.lit (.int .i64 0), .lit (.int .i64 0), .lit (.int .i64 0), .lit (.int .i64 0), .lit (.int .i64 0), .lit (.int .i64 0), .lit (.int .i64 0), .lit (.int .i64 0), .lit (.int .i64 0)]) rfl rfl rfl rfl (es := [.lit (.int .i64 0), .lit (.int .i64 0), .lit (.int .i64 0), .lit (.int .i64 0), .lit (.int .i64 0), .lit (.int .i64 0), .lit (.int .i64 0), .lit (.int .i64 0), .lit (.int .i64 0)]) rfl) ?_));refine tm (.i r3.2) (to (sst 1 rfl rfl Tryz.sizeOf42 (aS (aQ.mk 0 0 0 0 0 0 0 0 0))) (ta (.i r3.2) (aB ?_)));obtain rfl := sIn h;exact aZ ⟨rfl, _, [.box b1 0 (aJ e), .box b2 0 (aS (aQ.mk 0 0 0 0 0 0 0 0 0))], .two (.cell 2 42 rfl (i := 1) rfl jR (es := (aS (aQ.mk 0 0 0 0 0 0 0 0 0))) rfl rfl) (.tmp 3 (v := .i r3.2) rfl), .refl _, .same _⟩
 ·refine aX (aC (aA (to (cZ (aD rfl) xA (zs := [.lit (.int .i64 0), .lit (.int .i64 0), .lit (.int .i64 0), .lit (.int .i64 0), .lit (.int .i64 0), .lit (.int .i64 0), .lit (.int .i64 0), .lit (.int .i64 0), .lit (.int .i64 0)]) rfl rfl rfl rfl (es := [.lit (.int .i64 (-1)), .lit (.int .i64 0), .lit (.int .i64 0), .lit (.int .i64 0), .lit (.int .i64 0), .lit (.int .i64 0), .lit (.int .i64 0), .lit (.int .i64 0), .lit (.int .i64 0)]) rfl) ?_)));refine bB rfl (cH (zs := [.lit (.int .i64 0), .lit (.int .i64 0), .lit (.int .i64 0), .lit (.int .i64 0), .lit (.int .i64 0), .lit (.int .i64 0), .lit (.int .i64 0), .lit (.int .i64 0), .lit (.int .i64 0)]) (aD rfl) Tryz.zeroValue42 rfl rfl) ?_;rintro _ ⟨b6, rfl⟩;refine to (sst 2 rfl rfl Tryz.sizeOf42 (aS (aQ.mk (-1) 0 0 0 0 0 0 0 0))) (aB (aC (aC (aA (tm (.d (.sl 9 (r3.1.map aS))) (to (sle rfl wR.of) (tm (.i 0) (aB (bA ?_)))))))));refine bO (S := Int × aQ) [2, 6, 19, 20] (fun s7 => [(21, .i s7.1)]) (fun s7 => [.box b2 0 (aS (aQ.mk 0 0 0 0 0 0 0 0 0)), .box b6 0 (aS s7.2)]) (fun k s7 => nZ r3.1 (r3.1.length : Int) (aQ.mk 0 0 0 0 0 0 0 0 0) k s7.1 s7.2) (fun _ => rfl) (0, (aQ.mk (-1) 0 0 0 0 0 0 0 0)) h (aP [1, 2] rfl rfl (aG rfl (aL ⟨rfl, rfl, rfl, rfl, trivial⟩))) ?_;rintro k8 ⟨c, a⟩ h;simp only [nZ] at h;refine aC (aA (to (scm rfl rfl rfl) (aB (aC ?_))));refine tih h (fun c9 h => ?_) (fun c9 h => ?_)
  ·refine aX (aC (bA (aC (aA ?_))));obtain ⟨b, f, h⟩ := bns h;refine to (six rfl rfl wR.of (aY aS f)) (to (pJ (aS b) rfl jR) ?_);refine bB rfl (cH (zs := [.lit (.int .i64 0), .lit (.int .i64 0), .lit (.int .i64 0), .lit (.int .i64 0), .lit (.int .i64 0), .lit (.int .i64 0), .lit (.int .i64 0), .lit (.int .i64 0), .lit (.int .i64 0)]) (aD rfl) Tryz.zeroValue42 rfl rfl) ?_;rintro _ ⟨g, rfl⟩;refine to (sst 2 rfl rfl Tryz.sizeOf42 (aS b)) (aB (aC (aA (tfl 1 rfl rfl sR rfl aR (tfl 2 rfl rfl sR rfl aR (to (sar rfl rfl rfl) (to (sf rfl sR) (to (sst 1 rfl rfl Tryz.sizeOf3 (aS (aQ.mk a.Person (w64 (a.Gross + b.Gross)) a.Tax a.Daily a.Fines a.Debt a.Units a.Used a.Rest))) (aB (aC (aA ?_)))))))))));refine tfl 1 rfl rfl sS rfl aR (tfl 2 rfl rfl sS rfl aR (to (sar rfl rfl rfl) (to (sf rfl sS) (to (sst 1 rfl rfl Tryz.sizeOf3 (aS (aQ.mk a.Person (w64 (a.Gross + b.Gross)) (w64 (a.Tax + b.Tax)) a.Daily a.Fines a.Debt a.Units a.Used a.Rest))) (aB (aC (aA (tfl 1 rfl rfl pC rfl aR (tfl 2 rfl rfl pC rfl aR ?_)))))))));refine to (sar rfl rfl rfl) (to (sf rfl pC) (to (sst 1 rfl rfl Tryz.sizeOf3 (aS (aQ.mk a.Person (w64 (a.Gross + b.Gross)) (w64 (a.Tax + b.Tax)) (w64 (a.Daily + b.Daily)) a.Fines a.Debt a.Units a.Used a.Rest))) (aB (aC (aA (tfl 1 rfl rfl pD rfl aR (tfl 2 rfl rfl pD rfl aR (to (sar rfl rfl rfl) (to (sf rfl pD) (to (sst 1 rfl rfl Tryz.sizeOf3 (aS (aQ.mk a.Person (w64 (a.Gross + b.Gross)) (w64 (a.Tax + b.Tax)) (w64 (a.Daily + b.Daily)) (w64 (a.Fines + b.Fines)) a.Debt a.Units a.Used a.Rest))) (aB ?_)))))))))));refine aC (aA (tfl 1 rfl rfl uE rfl aR (tfl 2 rfl rfl uE rfl aR (to (sar rfl rfl rfl) (to (sf rfl uE) (to (sst 1 rfl rfl Tryz.sizeOf3 (aS (aQ.mk a.Person (w64 (a.Gross + b.Gross)) (w64 (a.Tax + b.Tax)) (w64 (a.Daily + b.Daily)) (w64 (a.Fines + b.Fines)) (w64 (a.Debt + b.Debt)) a.Units a.Used a.Rest))) (aB (aC (aA (tfl 1 rfl rfl sT rfl aR ?_))))))))));refine tfl 2 rfl rfl sT rfl aR (to (sar rfl rfl rfl) (to (sf rfl sT) (to (sst 1 rfl rfl Tryz.sizeOf3 (aS (aQ.mk a.Person (w64 (a.Gross + b.Gross)) (w64 (a.Tax + b.Tax)) (w64 (a.Daily + b.Daily)) (w64 (a.Fines + b.Fines)) (w64 (a.Debt + b.Debt)) (w64 (a.Units + b.Units)) a.Used a.Rest))) (aB (aC (aA (tfl 1 rfl rfl sU rfl aR (tfl 2 rfl rfl sU rfl aR (to (sar rfl rfl rfl) (to (sf rfl sU) ?_))))))))));refine to (sst 1 rfl rfl Tryz.sizeOf3 (aS (aQ.mk a.Person (w64 (a.Gross + b.Gross)) (w64 (a.Tax + b.Tax)) (w64 (a.Daily + b.Daily)) (w64 (a.Fines + b.Fines)) (w64 (a.Debt + b.Debt)) (w64 (a.Units + b.Units)) (w64 (a.Used + b.Used)) a.Rest))) (aB (aA (tfl 1 rfl rfl vS rfl aR (tfl 2 rfl rfl vS rfl aR (to (sar rfl rfl rfl) (to (sf rfl vS) (to (sst 1 rfl rfl Tryz.sizeOf3 (aS (aQ.mk a.Person (w64 (a.Gross + b.Gross)) (w64 (a.Tax + b.Tax)) (w64 (a.Daily + b.Daily)) (w64 (a.Fines + b.Fines)) (w64 (a.Debt + b.Debt)) (w64 (a.Units + b.Units)) (w64 (a.Used + b.Used)) (w64 (a.Rest + b.Rest))))) ?_)))))));refine cQ ?_;refine aA (to (sar rfl rfl rfl) (tm (.i (w64 (c + 1))) (aB ?_)));exact ⟨(w64 (c + 1), (aQ.mk a.Person (w64 (a.Gross + b.Gross)) (w64 (a.Tax + b.Tax)) (w64 (a.Daily + b.Daily)) (w64 (a.Fines + b.Fines)) (w64 (a.Debt + b.Debt)) (w64 (a.Units + b.Units)) (w64 (a.Used + b.Used)) (w64 (a.Rest + b.Rest)))), h, aP [0, 1] rfl rfl (aG rfl (aL ⟨rfl, rfl, rfl, rfl, trivial⟩))⟩
  ·refine bP ?_;refine .inl ⟨rfl, ?_⟩;simp only [aEy] at h;refine aC (aA (to (sla 1 (aS a) rfl rfl jR) (to (sst 0 rfl rfl Tryz.sizeOf42 (aS a)) (ta (.i 0) (aB ?_)))));obtain rfl := sIn h;exact aZ ⟨rfl, _, [.box b2 0 (aS a), .box b6 0 (aS a)], .two (.cell 2 42 rfl (i := 0) rfl jR (es := (aS a)) rfl rfl) (.tmp 3 (v := .i 0) rfl), .refl _, .same _⟩

theorem aAo {r : Bool} (h : nU = some r) : Fn Tryz.prog 12 [] (.b r) := by
 unfold nU at h;refine Fn.of_tr Tryz.func12 rfl (rs := [.tmp 0]) Tryz.results12 Tryz.ntmps12 (Nat.le_of_ble_eq_true rfl) ?_;refine aC (aA (ta (.b false) (aB (aC (aA ?_)))));obtain ⟨r1, h2, h⟩ := bns h;refine to (dL (aD rfl) (.func _ _ Tryz.call39) rfl rfl (aFj h2)) ?_;refine bB rfl (cH (zs := [.lit (.int .i64 0), .sl 1 ((([] : List Int)).map aM), .sl 5 ((([] : List aF)).map aK), .sl 1 ((([] : List Int)).map aM), .lit (.int .i64 0), .sl 3 ((([] : List bY)).map bF), .sl 2 ((([] : List eR)).map cB), .sl 3 ((([] : List cS)).map bX), .sl 4 ((([] : List aH)).map aE)]) (aD rfl) Tryz.zeroValue31 rfl rfl) ?_;rintro _ ⟨b3, rfl⟩;refine to (sst 0 rfl rfl Tryz.sizeOf31 (aJ r1)) (aB (aC (aA (to (sla 0 (aJ r1) rfl rfl dA) ?_))));obtain ⟨r4, h5, h⟩ := bns h;refine to (scr Tryz.call31 (aRa _ h5)) (tm (.tup [.i r4.1, .i r4.2]) (to (sex rfl rfl) (to (sex rfl rfl) (ta (.i r4.1) (ta (.i r4.2) (aB (aC (aA (to (sla 0 (aJ r1) rfl rfl dA) ?_)))))))));obtain ⟨r6, h7, h⟩ := bns h;refine to (dL (aD rfl) (.func _ _ Tryz.call14) rfl rfl (aIv _ _ h7)) ?_;refine tm (.tup [.agg (aS r6.1), .i r6.2]) (to (sex rfl rfl) (to (sex rfl rfl) ?_));refine bB rfl (cH (zs := [.lit (.int .i64 0), .lit (.int .i64 0), .lit (.int .i64 0), .lit (.int .i64 0), .lit (.int .i64 0), .lit (.int .i64 0), .lit (.int .i64 0), .lit (.int .i64 0), .lit (.int .i64 0)]) (aD rfl) Tryz.zeroValue42 rfl rfl) ?_;rintro _ ⟨b8, rfl⟩;refine to (sst 1 rfl rfl Tryz.sizeOf42 (aS r6.1)) (ta (.i r6.2) (aB (aC (aA (to (sla 0 (aJ r1) rfl rfl dA) ?_)))));obtain ⟨r9, v, h⟩ := bns h;refine to (dL (aD rfl) (.func _ _ Tryz.call28) rfl rfl (aGx _ v)) ?_;refine tm (.tup [.agg (aS r9.1), .i r9.2]) (to (sex rfl rfl) (to (sex rfl rfl) ?_));refine bB rfl (cH (zs := [.lit (.int .i64 0), .lit (.int .i64 0), .lit (.int .i64 0), .lit (.int .i64 0), .lit (.int .i64 0), .lit (.int .i64 0), .lit (.int .i64 0), .lit (.int .i64 0), .lit (.int .i64 0)]) (aD rfl) Tryz.zeroValue42 rfl rfl) ?_;rintro _ ⟨w, rfl⟩;refine to (sst 2 rfl rfl Tryz.sizeOf42 (aS r9.1)) (ta (.i r9.2) (aB (aC (aA (tm (.i r4.2) (to (scm rfl rfl rfl) (tm (.b (decide (r4.2 = 0))) ?_)))))));obtain ⟨p, j, h⟩ := bns h;refine bD 3 [2, 4, 6, 7] 29 p ?_ ?_
 ·refine bch j (fun e j => ?_) (fun e j => ?_)
  ·refine tk e (sm (.i r6.2)) (tk e (scm rfl rfl rfl) (to (spt (.b (decide (r6.2 = 0))) e) ?_));obtain rfl := sIn j;refine aB (aO rfl ⟨rfl, rfl, rfl, rfl, trivial⟩ rfl)
  ·refine tp e (tp e (to (spf (.b false) e) ?_));obtain rfl := sIn j;refine aB (aO rfl ⟨rfl, rfl, rfl, rfl, trivial⟩ rfl)
 ·refine tm (.b p) ?_;obtain ⟨q, k, h⟩ := bns h;refine bD 3 [2, 4, 6] 33 q ?_ ?_
  ·refine bch k (fun f k => ?_) (fun f k => ?_)
   ·refine tk f (sm (.i r9.2)) (tk f (scm rfl rfl rfl) (to (spt (.b (decide (r9.2 = 0))) f) ?_));obtain rfl := sIn k;refine aB (aO rfl ⟨rfl, rfl, rfl, trivial⟩ rfl)
   ·refine tp f (tp f (to (spf (.b false) f) ?_));obtain rfl := sIn k;refine aB (aO rfl ⟨rfl, rfl, rfl, trivial⟩ rfl)
  ·refine tm (.b q) ?_;obtain ⟨s, m, h⟩ := bns h;refine bD 3 [4, 6] 37 s ?_ ?_
   ·refine bch m (fun g m => ?_) (fun g m => ?_)
    ·refine tk g (sm (.i r4.1)) (tk g (scm rfl rfl rfl) (to (spt (.b (decide (r4.1 = 1501))) g) ?_));obtain rfl := sIn m;refine aB (aO rfl ⟨rfl, rfl, trivial⟩ rfl)
    ·refine tp g (tp g (to (spf (.b false) g) ?_));obtain rfl := sIn m;refine aB (aO rfl ⟨rfl, rfl, trivial⟩ rfl)
   ·refine tm (.b s) ?_;obtain ⟨t, n, h⟩ := bns h;refine bD 4 [6] 42 t ?_ ?_
    ·refine bch n (fun c n => ?_) (fun c n => ?_)
     ·refine tk c (sla 1 (aS r6.1) rfl rfl jR) (tk c (cZ (aD rfl) xA (zs := [.lit (.int .i64 0), .lit (.int .i64 0), .lit (.int .i64 0), .lit (.int .i64 0), .lit (.int .i64 0), .lit (.int .i64 0), .lit (.int .i64 0), .lit (.int .i64 0), .lit (.int .i64 0)]) rfl rfl rfl rfl (es := [.lit (.int .i64 22), .lit (.int .i64 50), .lit (.int .i64 0), .lit (.int .i64 0), .lit (.int .i64 0), .lit (.int .i64 0), .lit (.int .i64 16), .lit (.int .i64 48), .lit (.int .i64 2)]) rfl) ?_);refine tk c (aUo (a := r6.1) (b := (aQ.mk 22 50 0 0 0 0 16 48 2)) (aD rfl) rfl rfl rfl rfl Tryz.eqGuardType42 aMa) ?_;refine to (spt (.b (decide (r6.1 = (aQ.mk 22 50 0 0 0 0 16 48 2)))) c) ?_;obtain rfl := sIn n;refine aB (aO rfl ⟨rfl, trivial⟩ rfl)
     ·refine tp c (tp c (tp c (to (spf (.b false) c) ?_)));obtain rfl := sIn n;refine aB (aO rfl ⟨rfl, trivial⟩ rfl)
    ·refine tm (.b t) ?_;obtain ⟨u, o, h⟩ := bns h;refine bD 4 [] 47 u ?_ ?_
     ·refine bch o (fun d o => ?_) (fun d o => ?_)
      ·refine tkl 2 d rfl rfl uE rfl aR (tk d (scm rfl rfl rfl) (to (spt (.b (decide (r9.1.Debt = 60))) d) ?_));obtain rfl := sIn o;refine aB (aO rfl trivial rfl)
      ·refine tp d (tp d (tp d (to (spf (.b false) d) ?_)));obtain rfl := sIn o;refine aB (aO rfl trivial rfl)
     ·refine ta (.b u) (aB ?_);obtain rfl := sIn h;refine bL (bG (bH (l := [0]) ⟨rfl, trivial⟩)) ?_;exact aZ ⟨rfl, _, .one _, rfl, rfl⟩

theorem aAq (d : bY) (c : Bool) (a : Int) {r : Int} (h : nV d c a = some r) : Fn Tryz.prog 20 [.agg (bF d), .b c, .i a] (.i r) := by
 unfold nV at h;refine Fn.of_tr Tryz.func20 rfl (rs := [.tmp 6]) Tryz.results20 Tryz.ntmps20 (Nat.le_of_ble_eq_true rfl) ?_;refine aC (aA ?_);refine bB rfl (dC (v := .agg (bF d)) (aD rfl) rfl rfl rfl) ?_;rintro _ ⟨b1, rfl⟩;refine ta (.i 0) (aB (aC (aC (aA (tfl 0 rfl rfl kY rfl aR (to (scm rfl rfl rfl) (aB ?_)))))));refine tih h (fun c2 h => ?_) (fun c2 h => ?_)
 ·refine aC (aA (tm (.i a) (ta (.i a) (aB ?_))));obtain rfl := sIn h;refine bL (bG (bH (l := [6]) ⟨rfl, trivial⟩)) ?_;exact aZ ⟨rfl, _, .one _, rfl, rfl⟩
 ·refine aX (aC (aC (aA (tm (.b c) (aB ?_)))));refine tih h (fun c3 h => ?_) (fun c3 h => ?_)
  ·refine aC (aA (tm (.i a) (to (aAi (aD rfl) rfl rfl (by decide)) ?_)));refine ta (.i (w64 (a.tdiv 2))) (aB ?_);obtain rfl := sIn h;refine bL (bG (bH (l := [6]) ⟨rfl, trivial⟩)) ?_;exact aZ ⟨rfl, _, .one _, rfl, rfl⟩
  ·refine aX (aC (aA (tm (.i a) (to (sar rfl rfl rfl) (to (aAi (aD rfl) rfl rfl (by decide)) ?_)))));refine ta (.i (w64 ((w64 (a + 1)).tdiv 2))) (aB ?_);obtain rfl := sIn h;refine bL (bG (bH (l := [6]) ⟨rfl, trivial⟩)) ?_;exact aZ ⟨rfl, _, .one _, rfl, rfl⟩

theorem aKc (a : aN) {r : aN} (h : rX a = some r) : Fn Tryz.prog 22 [.agg (aJ a)] (.agg (aJ r)) := by
 unfold rX at h;refine fH Tryz.func22 rfl (rs := [.cell 2 31]) Tryz.results22 Tryz.ntmps22 (Nat.le_of_ble_eq_true rfl) ?_;refine aC (aA ?_);refine bB rfl (dC (v := .agg (aJ a)) (aD rfl) rfl rfl rfl) ?_;rintro _ ⟨b1, rfl⟩;refine bB rfl (cH (zs := [.lit (.int .i64 0), .sl 1 ((([] : List Int)).map aM), .sl 5 ((([] : List aF)).map aK), .sl 1 ((([] : List Int)).map aM), .lit (.int .i64 0), .sl 3 ((([] : List bY)).map bF), .sl 2 ((([] : List eR)).map cB), .sl 3 ((([] : List cS)).map bX), .sl 4 ((([] : List aH)).map aE)]) (aD rfl) Tryz.zeroValue31 rfl rfl) ?_;rintro _ ⟨b2, rfl⟩;refine aB (aC (aA (to (sla 0 (aJ a) rfl rfl dA) ?_)));refine bB rfl (cH (zs := [.lit (.int .i64 0), .sl 1 ((([] : List Int)).map aM), .sl 5 ((([] : List aF)).map aK), .sl 1 ((([] : List Int)).map aM), .lit (.int .i64 0), .sl 3 ((([] : List bY)).map bF), .sl 2 ((([] : List eR)).map cB), .sl 3 ((([] : List cS)).map bX), .sl 4 ((([] : List aH)).map aE)]) (aD rfl) Tryz.zeroValue31 rfl rfl) ?_;rintro _ ⟨b3, rfl⟩;refine to (sst 2 rfl rfl Tryz.sizeOf31 (aJ a)) (aB (aC (aA (to (xW (aD rfl) bI rfl rfl (rows := (([] : List Int)).map aM) rfl (cP (f := aM) fun _ => rfl) rfl (by decide)) ?_))));refine to (sf rfl fR) (tfl 0 rfl rfl dH rfl cG ?_);obtain ⟨x4, h5, h⟩ := bns h;refine to (aDd (.d (.weak _ _)) (wF (nn := true) (f := aM) (xs := ([] : List Int)) (ys := a.Tree.Slots) (aD rfl) bI rfl rfl (fun _ => rfl) h5 rfl)) ?_;refine to (sf rfl fR) (to (sf rfl dH) (to (sst 2 rfl rfl Tryz.sizeOf22 (aJ (aN.mk (aV.mk a.Tree.Rounds x4) a.Slips a.Prizes a.Daily a.Teams a.Levies a.Rates a.Items))) (aB (aC (aA (to (xW (aD rfl) fU rfl rfl (rows := (([] : List aF)).map aK) rfl (cP (f := aK) fun _ => rfl) rfl (by decide)) ?_))))));refine tfl 0 rfl rfl kL rfl pP ?_;obtain ⟨x6, h7, h⟩ := bns h;refine to (aDd (.d (.weak _ _)) (wF (nn := true) (f := aK) (xs := ([] : List aF)) (ys := a.Slips) (aD rfl) fU rfl rfl (fun _ => rfl) h7 rfl)) ?_;refine to (sf rfl kL) (to (sst 2 rfl rfl Tryz.sizeOf25 (aJ (aN.mk (aV.mk a.Tree.Rounds x4) x6 a.Prizes a.Daily a.Teams a.Levies a.Rates a.Items))) (aB (aC (aA (to (xW (aD rfl) bI rfl rfl (rows := (([] : List Int)).map aM) rfl (cP (f := aM) fun _ => rfl) rfl (by decide)) ?_)))));refine tfl 0 rfl rfl fD rfl cG ?_;obtain ⟨x8, h9, h⟩ := bns h;refine to (aDd (.d (.weak _ _)) (wF (nn := true) (f := aM) (xs := ([] : List Int)) (ys := a.Prizes) (aD rfl) bI rfl rfl (fun _ => rfl) h9 rfl)) ?_;refine to (sf rfl fD) (to (sst 2 rfl rfl Tryz.sizeOf22 (aJ (aN.mk (aV.mk a.Tree.Rounds x4) x6 x8 a.Daily a.Teams a.Levies a.Rates a.Items))) (aB (aC (aA (to (xW (aD rfl) jX rfl rfl (rows := (([] : List bY)).map bF) rfl (cP (f := bF) fun _ => rfl) rfl (by decide)) ?_)))));refine tfl 0 rfl rfl fX rfl kM ?_;obtain ⟨b, j, h⟩ := bns h;refine to (aDd (.d (.weak _ _)) (wF (nn := true) (f := bF) (xs := ([] : List bY)) (ys := a.Teams) (aD rfl) jX rfl rfl (fun _ => rfl) j rfl)) ?_;refine to (sf rfl fX) (to (sst 2 rfl rfl Tryz.sizeOf26 (aJ (aN.mk (aV.mk a.Tree.Rounds x4) x6 x8 a.Daily b a.Levies a.Rates a.Items))) (aB (aC (aA (to (xW (aD rfl) nJ rfl rfl (rows := (([] : List eR)).map cB) rfl (cP (f := cB) fun _ => rfl) rfl (by decide)) ?_)))));refine tfl 0 rfl rfl jF rfl nN ?_;obtain ⟨c, k, h⟩ := bns h;refine to (aDd (.d (.weak _ _)) (wF (nn := true) (f := cB) (xs := ([] : List eR)) (ys := a.Levies) (aD rfl) nJ rfl rfl (fun _ => rfl) k rfl)) ?_;refine to (sf rfl jF) (to (sst 2 rfl rfl Tryz.sizeOf27 (aJ (aN.mk (aV.mk a.Tree.Rounds x4) x6 x8 a.Daily b c a.Rates a.Items))) (aB (aC (aA (to (xW (aD rfl) qF rfl rfl (rows := (([] : List cS)).map bX) rfl (cP (f := bX) fun _ => rfl) rfl (by decide)) ?_)))));refine tfl 0 rfl rfl kW rfl qZ ?_;obtain ⟨e, l, h⟩ := bns h;refine to (aDd (.d (.weak _ _)) (wF (nn := true) (f := bX) (xs := ([] : List cS)) (ys := a.Rates) (aD rfl) qF rfl rfl (fun _ => rfl) l rfl)) ?_;refine to (sf rfl kW) (to (sst 2 rfl rfl Tryz.sizeOf28 (aJ (aN.mk (aV.mk a.Tree.Rounds x4) x6 x8 a.Daily b c e a.Items))) (aB (aC (aA (to (xW (aD rfl) cR rfl rfl (rows := (([] : List aH)).map aE) rfl (cP (f := aE) fun _ => rfl) rfl (by decide)) ?_)))));refine tfl 0 rfl rfl kX rfl rA ?_;obtain ⟨g, m, h⟩ := bns h;refine to (aDd (.d (.weak _ _)) (wF (nn := true) (f := aE) (xs := ([] : List aH)) (ys := a.Items) (aD rfl) cR rfl rfl (fun _ => rfl) m rfl)) ?_;refine to (sf rfl kX) (to (sst 2 rfl rfl Tryz.sizeOf29 (aJ (aN.mk (aV.mk a.Tree.Rounds x4) x6 x8 a.Daily b c e g))) (aB (aC (aA (to (sla 2 (aJ (aN.mk (aV.mk a.Tree.Rounds x4) x6 x8 a.Daily b c e g)) rfl rfl dA) (to (sst 1 rfl rfl Tryz.sizeOf31 (aJ (aN.mk (aV.mk a.Tree.Rounds x4) x6 x8 a.Daily b c e g))) (aB ?_)))))));obtain rfl := sIn h;exact aZ ⟨rfl, _, [.box b1 0 (aJ a), .box b2 0 (aJ (aN.mk (aV.mk a.Tree.Rounds x4) x6 x8 a.Daily b c e g)), .box b3 0 (aJ (aN.mk (aV.mk a.Tree.Rounds x4) x6 x8 a.Daily b c e g))], .one (.cell 2 31 rfl (i := 1) rfl dA (es := (aJ (aN.mk (aV.mk a.Tree.Rounds x4) x6 x8 a.Daily b c e g))) rfl rfl), .refl _, .same _⟩

theorem aHs (c : aN) (a : Int) {r : bZ} (h : qU c a = some r) : Fn Tryz.prog 58 [.agg (aJ c), .i a] (.agg (bN r)) := by
 unfold qU at h;refine fH Tryz.func58 rfl (rs := [.cell 4 37]) Tryz.results58 Tryz.ntmps58 (Nat.le_of_ble_eq_true rfl) ?_;refine aC (aA ?_);refine bB rfl (dC (v := .agg (aJ c)) (aD rfl) rfl rfl rfl) ?_;rintro _ ⟨b1, rfl⟩;refine bB rfl (cH (zs := [.lit (.int .i64 0), .lit (.int .i64 0)]) (aD rfl) Tryz.zeroValue37 rfl rfl) ?_;rintro _ ⟨b2, rfl⟩;refine aB (aC (aA (to (sla 0 (aJ c) rfl rfl dA) (tm (.i a) ?_))));obtain ⟨r3, h4, h⟩ := bns h;refine to (dL (aD rfl) (.func _ _ Tryz.call15) rfl rfl (aBm _ _ h4)) ?_;refine tm (.tup [.agg (bF r3.1), .b r3.2.1, .b r3.2.2]) (to (sex rfl rfl) (to (sex rfl rfl) (to (sex rfl rfl) ?_)));refine bB rfl (cH (zs := [.lit (.int .i64 0), .lit (.int .i64 0), .lit (.int .i64 0)]) (aD rfl) Tryz.zeroValue46 rfl rfl) ?_;rintro _ ⟨b5, rfl⟩;refine to (sst 2 rfl rfl Tryz.sizeOf46 (bF r3.1)) (ta (.b r3.2.1) (ta (.b r3.2.2) (aB (aC (aA (to (sf rfl fR) (to (sla 0 (bC c.Tree) rfl rfl jZ) (tfl 0 rfl rfl kL rfl pP (tfl 2 rfl rfl vT rfl aR ?_)))))))));obtain ⟨r6, h7, h⟩ := bns h;refine to (dL (aD rfl) (.func _ _ Tryz.call88) rfl rfl (aFm _ _ _ h7)) ?_;refine tm (.tup [.agg (bN r6.1), .i r6.2]) (to (sex rfl rfl) (to (sex rfl rfl) ?_));refine bB rfl (cH (zs := [.lit (.int .i64 0), .lit (.int .i64 0)]) (aD rfl) Tryz.zeroValue37 rfl rfl) ?_;rintro _ ⟨b8, rfl⟩;refine to (sst 3 rfl rfl Tryz.sizeOf37 (bN r6.1)) (ta (.i r6.2) (aB (aC (aC (aA (tm (.i r6.2) (to (scm rfl rfl rfl) (aB ?_))))))));refine tih h (fun c9 h => ?_) (fun c9 h => ?_)
 ·refine aC (aA (to (cZ (aD rfl) sD (zs := [.lit (.int .i64 0), .lit (.int .i64 0)]) rfl rfl rfl rfl (es := [.lit (.int .i64 0), .lit (.int .i64 0)]) rfl) ?_));refine to (sst 1 rfl rfl Tryz.sizeOf37 (bN (bZ.mk 0 0))) (aB ?_);obtain rfl := sIn h;exact aZ ⟨rfl, _, [.box b1 0 (aJ c), .box b2 0 (bN (bZ.mk 0 0)), .box b5 0 (bF r3.1), .box b8 0 (bN r6.1)], .one (.cell 4 37 rfl (i := 1) rfl pN (es := (bN (bZ.mk 0 0))) rfl rfl), .refl _, .same _⟩
 ·refine aX (aC ?_);obtain ⟨j, k, h⟩ := bns h;obtain ⟨e, l, h⟩ := bns h;obtain ⟨g, m, h⟩ := bns h;refine cL mix 17 [4] [(38, .i e), (39, .agg (bF r3.1)), (40, .b r3.2.1), (46, .i g)] ?_ ?_
  ·refine ⟨[(30, 0, .agg (bF r3.1)), (31, 1, .b r3.2.1), (32, 2, .bp b1 0 3), (33, 3, .d (.sl 1 (c.Prizes.map aM))), (34, 4, .bp b8 0 0), (35, 5, .i r6.1.Low), (36, 6, .cp [.lit (.int .i64 j)]), (37, 7, .i j), (38, 8, .i e), (39, 9, .agg (bF r3.1)), (40, 10, .b r3.2.1), (41, 11, .bp b1 0 3), (42, 12, .d (.sl 1 (c.Prizes.map aM))), (43, 13, .bp b8 0 1), (44, 14, .i r6.1.High), (45, 15, .cp [.lit (.int .i64 g)]), (46, 16, .i g)], ?_, ?_⟩
   · exact dok [([], []), ([], []), ([], []), ([2], []), ([], []), ([4], []), ([3, 5], []), ([6], []), ([0, 1, 7], []), ([], []), ([], []), ([], []), ([11], []), ([], []), ([13], []), ([12, 14], []), ([15], [])] ⟨go (zla 2 (bF r3.1) rfl rfl tA),
      go (zm (.b r3.2.1)),
      go (zf rfl fD),
      go (zl 0 rfl rfl rfl cG),
      go (zf rfl aLc),
      go (zl 3 rfl rfl rfl aR),
      go (zix rfl rfl bI.of (aY aM k)),
      go (zlc rfl aR),
      go fun S hS => fP (aD rfl) (.func _ _ Tryz.call20) (ev2 (aW hS rfl) (ev2 (aW hS rfl) (ev2 (aW hS rfl) evn))) rfl (BVs.refl _ _) (aAq _ _ _ l) rfl,
      go (zla 2 (bF r3.1) rfl rfl tA),
      go (zm (.b r3.2.1)),
      go (zf rfl fD),
      go (zl 0 rfl rfl rfl cG),
      go (zf rfl aQl),
      go (zl 3 rfl rfl rfl aR),
      go (zix rfl rfl bI.of (aY aM m)),
      go (zlc rfl aR), trivial⟩
   · exact cF (aG rfl (aG rfl (aG rfl (aG rfl (aL ⟨rfl, trivial⟩)))))
  ·obtain ⟨f, n, h⟩ := bns h;refine to (scr Tryz.call20 (aAq _ _ _ n)) (to (cZ (aD rfl) sD (zs := [.lit (.int .i64 0), .lit (.int .i64 0)]) rfl rfl rfl rfl (es := [.lit (.int .i64 e), .lit (.int .i64 f)]) rfl) ?_);refine to (sst 1 rfl rfl Tryz.sizeOf37 (bN (bZ.mk e f))) (aB ?_);obtain rfl := sIn h;exact aZ ⟨rfl, _, [.box b1 0 (aJ c), .box b2 0 (bN (bZ.mk e f)), .box b5 0 (bF r3.1), .box b8 0 (bN r6.1)], .one (.cell 4 37 rfl (i := 1) rfl pN (es := (bN (bZ.mk e f))) rfl rfl), .refl _, .same _⟩

end Go.Am
