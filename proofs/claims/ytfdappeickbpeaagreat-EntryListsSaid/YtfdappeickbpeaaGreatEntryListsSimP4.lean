/- The functions compute what the shallow ones say: printed by program. -/
import Derived.Test.YtfdappeickbpeaaGreatEntryListsSimP3
namespace Go.Am
open Go.Proofs
open Go.Proofs.Tryz
set_option maxRecDepth 100000
set_option maxHeartbeats 40000000

theorem vA (c : aY) (g : List aM) (e : Int) {r : aN} (h : lI c g e = some r) : Fn Tryz.prog 46 [.agg (aQ c), .d (Z15 g), .i e] (.agg (aJ r)) := by
 unfold lI at h;refine iI func46 rfl (rs := [.cell 6 84]) results46 ntmps46 (Nat.le_of_ble_eq_true rfl) ?_;refine aF (aC ?_);refine bC rfl (dW (v := .agg (aQ c)) (aL rfl) rfl rfl rfl) ?_;rintro _ ⟨b1, rfl⟩;refine bC rfl (dK (zs := Z34) (aL rfl) zeroValue84 rfl rfl) ?_;rintro _ ⟨b2, rfl⟩;refine aE (aF (aC ?_));refine bC rfl (dK (zs := Z34) (aL rfl) zeroValue84 rfl rfl) ?_;rintro _ ⟨b3, rfl⟩;refine aE (aF (aC (tm (Z45 g) ?_)));obtain ⟨r4, h5, h⟩ := bns h;refine to (cM (aL rfl) (.func _ _ call59) rfl rfl (aAp _ h5)) ?_;refine ta (.d (.sl 5 (r4.map aI))) (aE (aF (aF (aC (ta (.i 0) (aE (bI ?_)))))));refine cF (S := Int × aN) [2, 3, 6, 7, 8] (fun s6 => [(9, .i s6.1)]) (fun s6 => [.box b1 0 (aQ c), .box b2 0 (aJ Z4), .box b3 0 (aJ s6.2)]) (fun k s6 => iO e r4 c Z4 k s6.1 s6.2) (fun _ => rfl) (0, Z4) h (aS [0, 1, 2] rfl rfl (aP rfl (aR ⟨rfl, rfl, rfl, rfl, rfl, trivial⟩))) ?_;rintro k7 ⟨b, a⟩ h;simp only [iO] at h;refine aF (aF (aC (tm (.i b) (tm (.d (.sl 5 (r4.map aI))) (to (sle rfl cO.of) (to (scm rfl rfl rfl) (aE ?_)))))));refine tih h (fun c8 h => ?_) (fun c8 h => ?_)
 ·refine bA (aF (bI (aF (aF (aC (tm (.d (.sl 5 (r4.map aI))) (tm (.i b) ?_)))))));obtain ⟨x9, l, h⟩ := bns h;refine to (six rfl rfl cO.of (bB aI l)) (to (sfc [.j x9.Hour] rfl cK) (to (slc rfl aV) (tm (.i e) (to (scm rfl rfl rfl) (aE ?_)))));refine tih h (fun m h => ?_) (fun m h => ?_)
  ·refine bZ ?_;refine .inr ⟨by decide, ?_⟩;refine .inl ⟨rfl, ?_⟩;simp only [lC] at h;refine aF (aC (to (sla 2 (aJ a) rfl rfl bV) (to (sst 1 rfl rfl sizeOf84 (aJ a)) (aE ?_))));obtain rfl := sIn h;exact bS ⟨rfl, _, [.box b1 0 (aQ c), .box b2 0 (aJ a), .box b3 0 (aJ a)], .one (.cell 6 84 rfl (i := 1) rfl bV (es := (aJ a)) rfl rfl), .refl _, .same _⟩
  ·refine bA ?_;obtain ⟨f, n, h⟩ := bns h;refine cG mix 6 [2, 3, 6, 7, 8, 9] [(25, .agg (aQ c)), (26, .agg (aJ a)), (30, .agg (aI f))] ?_ ?_
   ·refine ⟨[(25, 0, .agg (aQ c)), (26, 1, .agg (aJ a)), (27, 2, .d (.sl 5 (r4.map aI))), (28, 3, .i b), (29, 4, .cp [.j f.Id, .j f.Hour, .j f.Kind, .j f.Player, .j f.Rank]), (30, 5, .agg (aI f))], ?_, ?_⟩
    · exact dk [0, 0, 0, 0, 304, 5] ⟨go (zla 0 (aQ c) rfl rfl fF),
 go (zla 2 (aJ a) rfl rfl bV),
 go (zm (.d (.sl 5 (r4.map aI)))),
 go (zm (.i b)),
 go (zix rfl rfl cO.of (bB aI n)),
 go (aFn (aI f) rfl fU), trivial⟩
    · exact bP (aP rfl (aP rfl (aP rfl (aR ⟨rfl, rfl, rfl, rfl, rfl, rfl, trivial⟩))))
   ·obtain ⟨j, o, h⟩ := bns h;refine to (cM (aL rfl) (.func _ _ call70) rfl rfl (aCt _ _ _ o)) ?_;refine to (sst 2 rfl rfl sizeOf84 (aJ j)) ?_;refine cB ?_;refine aC (tm (.i b) (to (sar rfl rfl rfl) (ta (.i (w64 (b + 1))) (aE ?_))));exact ⟨(w64 (b + 1), j), h, aS [0, 1, 2] rfl rfl (aP rfl (aR ⟨rfl, rfl, rfl, rfl, rfl, trivial⟩))⟩
 ·refine bZ ?_;refine .inl ⟨rfl, ?_⟩;simp only [lC] at h;refine aF (aC (to (sla 2 (aJ a) rfl rfl bV) (to (sst 1 rfl rfl sizeOf84 (aJ a)) (aE ?_))));obtain rfl := sIn h;exact bS ⟨rfl, _, [.box b1 0 (aQ c), .box b2 0 (aJ a), .box b3 0 (aJ a)], .one (.cell 6 84 rfl (i := 1) rfl bV (es := (aJ a)) rfl rfl), .refl _, .same _⟩

theorem tA (m : aY) (e : aN) {r : bU} (h : jX m e = some r) : Fn Tryz.prog 45 [.agg (aQ m), .agg (aJ e)] (.agg (cE r)) := by
 unfold jX at h;refine iI func45 rfl (rs := [.cell 4 34]) results45 ntmps45 (Nat.le_of_ble_eq_true rfl) ?_;refine aF (aC ?_);refine bC rfl (dW (v := .agg (aQ m)) (aL rfl) rfl rfl rfl) ?_;rintro _ ⟨b1, rfl⟩;refine bC rfl (dW (v := .agg (aJ e)) (aL rfl) rfl rfl rfl) ?_;rintro _ ⟨b2, rfl⟩;refine bC rfl (dK (zs := Z28) (aL rfl) zeroValue34 rfl rfl) ?_;rintro _ ⟨b3, rfl⟩;refine aE (aF (aC (tfl 1 rfl rfl oN rfl cA (tfl 1 rfl rfl dA rfl cA (tfl 0 rfl rfl tX rfl aV (tfl 1 rfl rfl nH rfl aV (to (sar rfl rfl rfl) (tfl 1 rfl rfl oN rfl cA ?_))))))));refine to (sle rfl bM.of) (to (sar rfl rfl rfl) (to (pZ (aL rfl) aEr (zs := Z73) rfl rfl rfl rfl (es := (Z61 e m)) rfl) ?_));refine bC rfl (dK (zs := Z73) (aL rfl) zeroValue34 rfl rfl) ?_;rintro _ ⟨b4, rfl⟩;refine dC (pD 3 1) ?_;refine to (sst 3 rfl rfl sizeOf34 (Z61 e m)) (aE (aF (aC (to (sla 1 (aJ e) rfl rfl bV) ?_))));obtain ⟨r5, h6, h⟩ := bns h;refine to (cM (aL rfl) (.func _ _ call54) rfl rfl (qY _ h6)) ?_;refine ta (.d (.sl 7 (r5.map aB))) (aE (aF (aF (aC (ta (.i 0) (aE (bI ?_)))))));refine cF (S := Int × Z62 × Z62 × Z62 × Int × Value) [3, 4, 5, 6] (fun s7 => [(7, .i s7.1)]) (fun s7 => [.box b2 0 (aJ e), .box b3 0 (cE Z24), .arr s7.2.2.2.2.2 3 1 (s7.2.1.map aH), .box b4 0 [.sl 1 (s7.2.2.1.map aH), .sl 1 (s7.2.2.2.1.map aH), .lit s7.2.2.2.2.2, .j s7.2.2.2.2.1]]) (fun k s7 => fO r5 e Z24 k s7.1 s7.2.1 s7.2.2.1 s7.2.2.2.1 s7.2.2.2.2.1) (fun _ => rfl) (0, ([] : List Int), e.In, e.Wilds, w64 ((w64 (m.Places + e.Back)) - (e.In.length : Int)), (.slice none 0 0)) h (aS [1, 2, 4, 3] rfl rfl (aP rfl (aR ⟨rfl, rfl, rfl, rfl, trivial⟩))) ?_;rintro k9 ⟨g, n, a, b, c, w8⟩ h;simp only [fO] at h;refine aF (aF (aC (tm (.i g) (tm (.d (.sl 7 (r5.map aB))) (to (sle rfl cC.of) (to (scm rfl rfl rfl) (aE ?_)))))));refine tih h (fun p h => ?_) (fun p h => ?_)
 ·refine bA (aF (bI (aF ?_)));obtain ⟨l, q, h⟩ := bns h;refine cG mix 7 [3, 4, 5, 6, 7] [(31, .d (.sl 1 (Z12 e))), (36, .i l.Player)] ?_ ?_
  ·refine ⟨[(30, 0, .bp b2 0 3), (31, 1, .d (.sl 1 (Z12 e))), (32, 2, .d (.sl 7 (r5.map aB))), (33, 3, .i g), (34, 4, .cp [.j l.Player, .j l.Rank, .k l.Guard, .k l.Entered, .k l.Quit, .k l.Signed, .k l.Card]), (35, 5, .cp [.j l.Player]), (36, 6, .i l.Player)], ?_, ?_⟩
   · exact dk [0, 1, 0, 0, 304, 5, 6] ⟨go (zf rfl oN),
 go (zl 0 rfl rfl rfl cA),
 go (zm (.d (.sl 7 (r5.map aB)))),
 go (zm (.i g)),
 go (zix rfl rfl cC.of (bB aB q)),
 go (zfc [.j l.Player] rfl rF),
 go (zlc rfl aV), trivial⟩
   · exact bP (aP rfl (aP rfl (aR ⟨rfl, rfl, rfl, rfl, rfl, trivial⟩)))
  ·obtain ⟨y, s, h⟩ := bns h;refine to (scr call55 (gD _ _ s)) (to (sn rfl) (aE ?_));refine tih h (fun t h => ?_) (fun t h => ?_)
   ·obtain ⟨j, u, h⟩ := bns h;refine cG mix 8 [3, 4, 5, 6, 7] [(40, .d (.lit w8)), (46, .d (.sl 1 (([j.Player]).map aH)))] ?_ ?_
    ·refine ⟨[(39, 0, .bp b4 0 2), (40, 1, .d (.lit w8)), (41, 2, .d (.sl 7 (r5.map aB))), (42, 3, .i g), (43, 4, .cp [.j j.Player, .j j.Rank, .k j.Guard, .k j.Entered, .k j.Quit, .k j.Signed, .k j.Card]), (44, 5, .cp [.j j.Player]), (45, 6, .i j.Player), (46, 7, .d (.sl 1 (([j.Player]).map aH)))], ?_, ?_⟩
     · exact dk [0, 1, 0, 0, 304, 5, 6, 7] ⟨go (zf rfl tY),
 go (zl 3 rfl rfl rfl cA),
 go (zm (.d (.sl 7 (r5.map aB)))),
 go (zm (.i g)),
 go (zix rfl rfl cC.of (bB aB u)),
 go (zfc [.j j.Player] rfl rF),
 go (zlc rfl aV),
 go fun S hS => dG (aL rfl) bM rfl (pa2 (aT hS rfl) pan) (rows := ([j.Player]).map aH) rfl (aX (f := aH) fun _ => rfl) rfl (by decide), trivial⟩
     · exact bP (aP rfl (aP rfl (aR ⟨rfl, rfl, rfl, rfl, rfl, trivial⟩)))
    ·obtain ⟨w, x, h⟩ := bns h;refine bC rfl (cL (i := 2) (aL rfl) bM rfl rfl rfl (fun _ => rfl) x rfl) ?_;rintro _ ⟨o, rfl⟩;refine to (sf rfl tY) (to (sst 3 rfl rfl sizeOf25 [.sl 1 (a.map aH), .sl 1 (b.map aH), .lit o, .j c]) ?_);refine cB ?_;refine aC (tm (.i g) (to (sar rfl rfl rfl) (ta (.i (w64 (g + 1))) (aE ?_))));exact ⟨(w64 (g + 1), w, a, b, c, o), h, aS [0, 1, 2, 3] rfl rfl (aP rfl (aR ⟨rfl, rfl, rfl, rfl, trivial⟩))⟩
   ·refine bY ?_;refine aC (tm (.i g) (to (sar rfl rfl rfl) (ta (.i (w64 (g + 1))) (aE ?_))));exact ⟨(w64 (g + 1), n, a, b, c, w8), h, aS [0, 1, 2, 3] rfl rfl (aP rfl (aR ⟨rfl, rfl, rfl, rfl, trivial⟩))⟩
 ·refine bZ ?_;refine .inl ⟨rfl, ?_⟩;simp only [oR] at h;refine aF (aC (to (sla 3 [.sl 1 (a.map aH), .sl 1 (b.map aH), .lit w8, .j c] rfl rfl uX) (to (sst 1 rfl rfl sizeOf34 [.sl 1 (a.map aH), .sl 1 (b.map aH), .lit w8, .j c]) (aE ?_))));obtain rfl := sIn h;exact bS ⟨rfl, _, [.box b2 0 (aJ e), .box b3 0 [.sl 1 (a.map aH), .sl 1 (b.map aH), .lit w8, .j c], .arr w8 3 1 (n.map aH), .box b4 0 [.sl 1 (a.map aH), .sl 1 (b.map aH), .lit w8, .j c]], .one (.cell 4 34 rfl (i := 1) rfl uX (es := [.sl 1 (a.map aH), .sl 1 (b.map aH), .lit w8, .j c]) rfl rfl), .refl _, .agg (dvc (.same _) (dvc (.same _) (dvc (bF 2 rfl (aX (f := aH) fun _ => rfl)) (dvc (.same _) dvn))))⟩

theorem aCa (a : aY) (c : List aM) (b : Int) {r : bU × Int} (h : oB a c b = some r) : Fn Tryz.prog 23 [.agg (aQ a), .d (Z15 c), .i b] (.tup [.agg (cE r.1), .i r.2]) := by
 unfold oB at h;refine iI func23 rfl (rs := [.cell 6 34, .tmp 7]) results23 ntmps23 (Nat.le_of_ble_eq_true rfl) ?_;refine aF (aC ?_);refine bC rfl (dW (v := .agg (aQ a)) (aL rfl) rfl rfl rfl) ?_;rintro _ ⟨b1, rfl⟩;refine bC rfl (dK (zs := Z28) (aL rfl) zeroValue34 rfl rfl) ?_;rintro _ ⟨b2, rfl⟩;refine ta (.i 0) (aE (aF (aF (aC (to (sla 0 (aQ a) rfl rfl fF) (tm (Z45 c) (tm (.i b) ?_)))))));obtain ⟨r3, h4, h⟩ := bns h;refine to (scr call44 (vC _ _ _ _ h4)) (ta (.i r3) (aE (aF (aC (tm (.i r3) (to (scm rfl rfl rfl) (aE ?_)))))));refine tih h (fun c5 h => ?_) (fun c5 h => ?_)
 ·refine aF (aC (to (pZ (aL rfl) aEr (zs := Z28) rfl rfl rfl rfl (es := Z28) rfl) ?_));refine tm (.i r3) (to (sst 1 rfl rfl sizeOf34 (cE Z24)) (ta (.i r3) (aE ?_)));obtain rfl := sIn h;exact bS ⟨rfl, _, [.box b1 0 (aQ a), .box b2 0 (cE Z24)], .two (.cell 6 34 rfl (i := 1) rfl uX (es := (cE Z24)) rfl rfl) (.tmp 7 (v := .i r3) rfl), .refl _, .same _⟩
 ·refine bA (aF ?_);obtain ⟨r6, h7, h⟩ := bns h;refine cG mix 5 [6] [(17, .agg (aQ a)), (21, .agg (aJ r6))] ?_ ?_
  ·refine ⟨[(17, 0, .agg (aQ a)), (18, 1, .agg (aQ a)), (19, 2, .d (Z15 c)), (20, 3, .i b), (21, 4, .agg (aJ r6))], ?_, ?_⟩
   · exact dk [0, 0, 0, 0, 20304] ⟨go (zla 0 (aQ a) rfl rfl fF),
 go (zla 0 (aQ a) rfl rfl fF),
 go (zm (Z45 c)),
 go (zm (.i b)),
 go fun S hS => cM (aL rfl) (.func _ _ call46) (ev2 (aT hS rfl) (ev2 (aT hS rfl) (ev2 (aT hS rfl) evn))) rfl (vA _ _ _ h7), trivial⟩
   · exact bP (aP rfl (aP rfl (aR ⟨rfl, trivial⟩)))
  ·obtain ⟨r8, h9, h⟩ := bns h;refine to (cM (aL rfl) (.func _ _ call45) rfl rfl (tA _ _ h9)) ?_;refine to (sst 1 rfl rfl sizeOf34 (cE r8)) (ta (.i 0) (aE ?_));obtain rfl := sIn h;exact bS ⟨rfl, _, [.box b1 0 (aQ a), .box b2 0 (cE r8)], .two (.cell 6 34 rfl (i := 1) rfl uX (es := (cE r8)) rfl rfl) (.tmp 7 (v := .i 0) rfl), .refl _, .same _⟩

theorem aGs (e : aY) (b : List aM) (c : Int) (a : Int) {r : Int × Int × Int} (h : mT e b c a = some r) : Fn Tryz.prog 24 [.agg (aQ e), .d (Z15 b), .i c, .i a] (.tup [.i r.1, .i r.2.1, .i r.2.2]) := by
 unfold mT at h;refine oT [.tmp 8, .tmp 9, .tmp 10] func24 results24 ntmps24 ?_;refine aF (aC ?_);refine bC rfl (dW (v := .agg (aQ e)) (aL rfl) rfl rfl rfl) ?_;rintro _ ⟨b1, rfl⟩;refine ta (.i 0) (ta (.i 0) (ta (.i 0) (aE (aF (aC (to (sla 0 (aQ e) rfl rfl fF) (tm (Z45 b) (tm (.i c) (tm (.i a) ?_)))))))));obtain ⟨r2, h3, h⟩ := bns h;refine to (cM (aL rfl) (.func _ _ call33) rfl rfl (tI _ _ _ _ h3)) ?_;refine tm (.tup [kM bD r2.1, .i r2.2]) (to (sex rfl rfl) (to (sex rfl rfl) (ta (kM bD r2.1) (ta (.i r2.2) (aE (aF (aF (aC (tm (.i r2.2) (to (scm rfl rfl rfl) (aE ?_)))))))))));refine tih h (fun c4 h => ?_) (fun c4 h => ?_)
 ·refine aF (aC (tm (.i r2.2) (ta (.i 0) (ta (.i 0) (ta (.i r2.2) (aE ?_))))));obtain rfl := sIn h;refine bL (bJ (bR (l := [8, 9, 10]) ⟨rfl, rfl, rfl, trivial⟩)) ?_;exact bS ⟨rfl, _, .three _ _ _, rfl, rfl⟩
 ·refine bA (aF (aC (tm (kM bD r2.1) (tm (.i a) ?_))));obtain ⟨x5, h6, h⟩ := bns h;refine dC (tV (enc := bD) (k := 24) rfl h6) ?_;obtain ⟨r7, h8, h⟩ := bns h;refine to (scr call37 (rC _ _ h8)) (tm (.tup [.i r7.1, .i r7.2]) (to (sex rfl rfl) (to (sex rfl rfl) (ta (.i r7.1) (ta (.i r7.2) (aE (aF (aC (tm (.i r7.1) (tm (.i r7.2) (ta (.i r7.1) (ta (.i r7.2) (ta (.i 0) ?_)))))))))))));refine aE ?_;obtain rfl := sIn h;refine bL (bJ (bR (l := [8, 9, 10]) ⟨rfl, rfl, rfl, trivial⟩)) ?_;exact bS ⟨rfl, _, .three _ _ _, rfl, rfl⟩

theorem qZ (c : List Int) (a : Int) {r : Int} (h : jU c a = some r) : Fn Tryz.prog 71 [.d (Z27 c), .i a] (.i r) := by
 unfold jU at h;refine oT [.tmp 4] func71 results71 ntmps71 ?_;refine aF (aC (ta (.i 0) (aE (aF (aF (aC (ta (.i 0) (aE (bI ?_)))))))));refine cF (S := Int) [0, 1] (fun s1 => [(5, .i s1)]) (fun s1 => []) (fun k s1 => fL c a k s1) (fun _ => rfl) (0) h (aS [] rfl rfl (aP rfl (aR ⟨rfl, rfl, trivial⟩))) ?_;rintro k2 b h;simp only [fL] at h;refine aF (aF (aC (tm (.i b) (tm (Z66 c) (to (sle rfl bM.of) (to (scm rfl rfl rfl) (aE ?_)))))));refine tih h (fun c3 h => ?_) (fun c3 h => ?_)
 ·refine bA (aF (bI (aF (aC (tm (Z66 c) (tm (.i b) ?_))))));obtain ⟨x4, h5, h⟩ := bns h;refine to (six rfl rfl bM.of (bB aH h5)) (to (slc rfl aV) (tm (.i a) (to (scm rfl rfl rfl) (aE ?_))));refine tih h (fun c6 h => ?_) (fun c6 h => ?_)
  ·refine aF (aC (tm (.i b) (to (sar rfl rfl rfl) (ta (.i (w64 (b + 1))) (aE ?_)))));obtain rfl := sIn h;exact rt
  ·refine bY ?_;refine aC (tm (.i b) (to (sar rfl rfl rfl) (ta (.i (w64 (b + 1))) (aE ?_))));exact ⟨(w64 (b + 1)), h, aS [] rfl rfl (aP rfl (aR ⟨rfl, rfl, trivial⟩))⟩
 ·refine bZ ?_;refine .inl ⟨rfl, ?_⟩;simp only [qI] at h;refine aF (aC (ta (.i 0) (aE ?_)));obtain rfl := sIn h;exact rt

theorem aAo (b : bU) (a : Int) {r : Int × Int} (h : nD b a = some r) : Fn Tryz.prog 47 [.agg (cE b), .i a] (.tup [.i r.1, .i r.2]) := by
 unfold nD at h;refine oT [.tmp 4, .tmp 5] func47 results47 ntmps47 ?_;refine aF (aC ?_);refine bC rfl (dW (v := .agg (cE b)) (aL rfl) rfl rfl rfl) ?_;rintro _ ⟨b1, rfl⟩;refine ta (.i 0) (ta (.i 0) (aE (aF (aF (aC (tfl 0 rfl rfl zA rfl cA (tm (.i a) ?_)))))));obtain ⟨r2, h3, h⟩ := bns h;refine to (scr call71 (qZ _ _ h3)) (ta (.i r2) (aE (aF (aC (tm (.i r2) (to (scm rfl rfl rfl) (aE ?_)))))));refine tih h (fun c4 h => ?_) (fun c4 h => ?_)
 ·refine aF (aC (tm (.i r2) (ta (.i 1) (ta (.i r2) (aE ?_)))));obtain rfl := sIn h;refine bL (bJ (bR (l := [4, 5]) ⟨rfl, rfl, trivial⟩)) ?_;exact bS ⟨rfl, _, .two _ _, rfl, rfl⟩
 ·refine bA (aF (aF (aC (tfl 0 rfl rfl zB rfl cA (tm (.i a) ?_)))));obtain ⟨r5, h6, h⟩ := bns h;refine to (scr call71 (qZ _ _ h6)) (ta (.i r5) (aE (aF (aC (tm (.i r5) (to (scm rfl rfl rfl) (aE ?_)))))));refine tih h (fun c7 h => ?_) (fun c7 h => ?_)
  ·refine aF (aC (tm (.i r5) (ta (.i 2) (ta (.i r5) (aE ?_)))));obtain rfl := sIn h;refine bL (bJ (bR (l := [4, 5]) ⟨rfl, rfl, trivial⟩)) ?_;exact bS ⟨rfl, _, .two _ _, rfl, rfl⟩
  ·refine bA (aF (aF (aC (tfl 0 rfl rfl tY rfl cA (tm (.i a) ?_)))));obtain ⟨r8, h9, h⟩ := bns h;refine to (scr call71 (qZ _ _ h9)) (ta (.i r8) (aE (aF (aC (tm (.i r8) (to (scm rfl rfl rfl) (aE ?_)))))));refine tih h (fun c h => ?_) (fun c h => ?_)
   ·refine aF (aC (tm (.i r8) (ta (.i 3) (ta (.i r8) (aE ?_)))));obtain rfl := sIn h;refine bL (bJ (bR (l := [4, 5]) ⟨rfl, rfl, trivial⟩)) ?_;exact bS ⟨rfl, _, .two _ _, rfl, rfl⟩
   ·refine bA (aF (aC (ta (.i 0) (ta (.i 0) (aE ?_)))));obtain rfl := sIn h;refine bL (bJ (bR (l := [4, 5]) ⟨rfl, rfl, trivial⟩)) ?_;exact bS ⟨rfl, _, .two _ _, rfl, rfl⟩

theorem aAm (c : aY) (e : List aM) (b : Int) (a : Int) {r : Int × Int × Int} (h : nB c e b a = some r) : Fn Tryz.prog 25 [.agg (aQ c), .d (Z15 e), .i b, .i a] (.tup [.i r.1, .i r.2.1, .i r.2.2]) := by
 unfold nB at h;refine oT [.tmp 8, .tmp 9, .tmp 10] func25 results25 ntmps25 ?_;refine aF (aC ?_);refine bC rfl (dW (v := .agg (aQ c)) (aL rfl) rfl rfl rfl) ?_;rintro _ ⟨b1, rfl⟩;refine ta (.i 0) (ta (.i 0) (ta (.i 0) (aE (aF (aF (aC (to (sla 0 (aQ c) rfl rfl fF) (tm (Z45 e) (tm (.i b) (tm (.i a) ?_))))))))));obtain ⟨r2, h3, h⟩ := bns h;refine to (scr call44 (vC _ _ _ _ h3)) (ta (.i r2) (aE (aF (aC (tm (.i r2) (to (scm rfl rfl rfl) (aE ?_)))))));refine tih h (fun c4 h => ?_) (fun c4 h => ?_)
 ·refine aF (aC (tm (.i r2) (ta (.i 0) (ta (.i 0) (ta (.i r2) (aE ?_))))));obtain rfl := sIn h;refine bL (bJ (bR (l := [8, 9, 10]) ⟨rfl, rfl, rfl, trivial⟩)) ?_;exact bS ⟨rfl, _, .three _ _ _, rfl, rfl⟩
 ·refine bA (aF ?_);obtain ⟨r5, h6, h⟩ := bns h;obtain ⟨r7, h8, h⟩ := bns h;obtain ⟨r9, f, h⟩ := bns h;refine cG mix 12 [] [(8, .i r9.1), (30, .i r9.2)] ?_ ?_
  ·refine ⟨[(21, 0, .agg (aQ c)), (22, 1, .agg (aQ c)), (23, 2, .d (Z15 e)), (24, 3, .i b), (25, 4, .agg (aJ r5)), (26, 5, .agg (cE r7)), (27, 6, .i a), (28, 7, .tup [.i r9.1, .i r9.2]), (20, 8, .tup [.i r9.1, .i r9.2]), (29, 9, .i r9.1), (30, 10, .i r9.2), (8, 11, .i r9.1)], ?_, ?_⟩
   · exact dk [0, 0, 0, 0, 20304, 105, 0, 607, 8, 9, 9, 10] ⟨go (zla 0 (aQ c) rfl rfl fF),
 go (zla 0 (aQ c) rfl rfl fF),
 go (zm (Z45 e)),
 go (zm (.i b)),
 go fun S hS => cM (aL rfl) (.func _ _ call46) (ev2 (aT hS rfl) (ev2 (aT hS rfl) (ev2 (aT hS rfl) evn))) rfl (vA _ _ _ h6),
 go fun S hS => cM (aL rfl) (.func _ _ call45) (ev2 (aT hS rfl) (ev2 (aT hS rfl) evn)) rfl (tA _ _ h8),
 go (zm (.i a)),
 go fun S hS => kN (aL rfl) (.func _ _ call47) (ev2 (aT hS rfl) (ev2 (aT hS rfl) evn)) rfl (BVs.refl _ _) (aAo _ _ f) rfl,
 go (zm (.tup [.i r9.1, .i r9.2])),
 go (zex rfl rfl),
 go (zex rfl rfl),
 go (za (.i r9.1)), trivial⟩
   · exact bP (aP rfl (aP rfl (aR trivial)))
  ·refine ta (.i r9.2) (aE (aF (aC (tm (.i r9.1) (tm (.i r9.2) (ta (.i r9.1) (ta (.i r9.2) (ta (.i 0) (aE ?_)))))))));obtain rfl := sIn h;refine bL (bJ (bR (l := [8, 9, 10]) ⟨rfl, rfl, rfl, trivial⟩)) ?_;exact bS ⟨rfl, _, .three _ _ _, rfl, rfl⟩

theorem xK (g : aY) (e : List aM) (C : nZ) {r : Bool} (h : mA g e C = some r) : Fn Tryz.prog 7 [.agg (aQ g), .d (Z15 e), .agg (rA C)] (.b r) := by
 unfold mA at h;refine oT [.tmp 6] func7 results7 ntmps7 ?_;refine aF (aC ?_);refine bC rfl (dW (v := .agg (aQ g)) (aL rfl) rfl rfl rfl) ?_;rintro _ ⟨b1, rfl⟩;refine bC rfl (dW (v := .agg (rA C)) (aL rfl) rfl rfl rfl) ?_;rintro _ ⟨b2, rfl⟩;refine ta Z21 (aE (aF (aF (aC (tm (Z45 e) ?_)))));obtain ⟨r3, h4, h⟩ := bns h;refine to (scr call20 (aCs _ h4)) (aE ?_);refine tih h (fun c5 h => ?_) (fun c5 h => ?_)
 ·refine aF (aC ?_);obtain ⟨r6, h7, h⟩ := bns h;refine to (scr call13 (uZ h7)) (ta (.b r6) (aE ?_));obtain rfl := sIn h;refine bL (bJ (bR (l := [6]) ⟨rfl, trivial⟩)) ?_;exact rt
 ·refine bA (aF (aC (to (aOw (aL rfl) cO rfl rfl (rows := (([] : List aM)).map aI) rfl (aX (f := aI) fun _ => rfl) rfl (by decide)) ?_)));refine tm (Z45 e) ?_;obtain ⟨x8, h9, h⟩ := bns h;refine to (mO (.d (.weak _ _)) (aMz (nn := true) (f := aI) (xs := ([] : List aM)) (ys := e) (aL rfl) cO rfl rfl (fun _ => rfl) h9 rfl)) ?_;refine ta (.d (.sl 5 (x8.map aI))) (aE (aF (aF ?_)));obtain ⟨E, I, h⟩ := bns h;refine cG mix 5 [1, 3, 5, 7] [(27, .i E), (28, .agg (aQ g)), (29, .d (Z15 e))] ?_ ?_
  ·refine ⟨[(25, 0, .agg (aQ g)), (26, 1, .d (.sl 5 (x8.map aI))), (27, 2, .i E), (28, 3, .agg (aQ g)), (29, 4, .d (Z15 e))], ?_, ?_⟩
   · exact dk [0, 0, 102, 0, 0] ⟨go (zla 0 (aQ g) rfl rfl fF),
 go (zm (.d (.sl 5 (x8.map aI)))),
 go fun S hS => kN (aL rfl) (.func _ _ call21) (ev2 (aT hS rfl) (ev2 (aT hS rfl) evn)) rfl (BVs.refl _ _) (zW _ _ I) rfl,
 go (zla 0 (aQ g) rfl rfl fF),
 go (zm (Z45 e)), trivial⟩
   · exact bP (aP rfl (aP rfl (aP rfl (aR ⟨rfl, rfl, rfl, rfl, trivial⟩))))
  ·obtain ⟨a1, J, h⟩ := bns h;refine to (scr call22 (vB _ _ J)) (to (scm rfl rfl rfl) (aE ?_));refine tih h (fun K h => ?_) (fun K h => ?_)
   ·refine aF (aC (ta Z21 (aE ?_)));obtain rfl := sIn h;refine bL (bJ (bR (l := [6]) ⟨rfl, trivial⟩)) ?_;exact rt
   ·refine bA (aF (aC (to (sla 0 (aQ g) rfl rfl fF) (tm (.d (.sl 5 (x8.map aI))) (tfl 1 rfl rfl zC rfl aV ?_)))));obtain ⟨u, L, h⟩ := bns h;refine to (cM (aL rfl) (.func _ _ call14) rfl rfl (aAr _ _ _ L)) ?_;refine tm (.tup [.agg (cE u.1), .i u.2]) (to (sex rfl rfl) (to (sex rfl rfl) ?_));refine bC rfl (dK (zs := Z28) (aL rfl) zeroValue34 rfl rfl) ?_;rintro _ ⟨a2, rfl⟩;refine to (sst 2 rfl rfl sizeOf34 (cE u.1)) (ta (.i u.2) (aE (aF (aC (to (sla 0 (aQ g) rfl rfl fF) (tm (Z45 e) (tfl 1 rfl rfl zC rfl aV ?_)))))));obtain ⟨w, M, h⟩ := bns h;refine to (cM (aL rfl) (.func _ _ call23) rfl rfl (aCa _ _ _ M)) ?_;refine tm (.tup [.agg (cE w.1), .i w.2]) (to (sex rfl rfl) (to (sex rfl rfl) ?_));refine bC rfl (dK (zs := Z28) (aL rfl) zeroValue34 rfl rfl) ?_;rintro _ ⟨a3, rfl⟩;refine to (sst 3 rfl rfl sizeOf34 (cE w.1)) (ta (.i w.2) (aE (aF (aC (to (sla 0 (aQ g) rfl rfl fF) (tm (.d (.sl 5 (x8.map aI))) (tfl 1 rfl rfl zC rfl aV (tfl 1 rfl rfl aIc rfl aV ?_))))))));obtain ⟨j, N, h⟩ := bns h;refine to (scr call24 (aGs _ _ _ _ N)) (tm (.tup [.i j.1, .i j.2.1, .i j.2.2]) (to (sex rfl rfl) (to (sex rfl rfl) (to (sex rfl rfl) (ta (.i j.1) (ta (.i j.2.1) (ta (.i j.2.2) (aE (aF (aC (to (sla 0 (aQ g) rfl rfl fF) (tm (Z45 e) (to (sf rfl zC) ?_)))))))))))));refine to (sl 1 rfl rfl rfl aV) (tfl 1 rfl rfl aIc rfl aV ?_);obtain ⟨m, O, h⟩ := bns h;refine to (scr call25 (aAm _ _ _ _ O)) (tm (.tup [.i m.1, .i m.2.1, .i m.2.2]) (to (sex rfl rfl) (to (sex rfl rfl) (to (sex rfl rfl) (ta (.i m.1) (ta (.i m.2.1) (ta (.i m.2.2) (aE (aF (aF (aC (to (sla 2 (cE u.1) rfl rfl uX) (to (sla 3 (cE w.1) rfl rfl uX) ?_)))))))))))));obtain ⟨P, Q, h⟩ := bns h;refine to (scr call15 (aBz _ _ Q)) (to (sn rfl) (tm (.b (!P)) ?_));obtain ⟨F, x, h⟩ := bns h;refine bE 4 [1, 7, 12, 13, 14, 15, 16, 17] 78 F ?_ ?_
    ·refine bch x (fun n x => ?_) (fun n x => ?_)
     ·refine tp n (tp n (tp n (to (spt Z46 n) ?_)));obtain rfl := sIn x;refine aE (aU rfl ⟨rfl, rfl, rfl, rfl, rfl, rfl, rfl, rfl, trivial⟩ rfl)
     ·refine tk n (sm (.i u.2)) (tk n (sm (.i w.2)) (tk n (scm rfl rfl rfl) (to (spf (.b (!decide (u.2 = w.2))) n) ?_)));obtain rfl := sIn x;refine aE (aU rfl ⟨rfl, rfl, rfl, rfl, rfl, rfl, rfl, rfl, trivial⟩ rfl)
    ·refine tm (.b F) ?_;obtain ⟨G, y, h⟩ := bns h;refine bE 4 [1, 7, 13, 14, 16, 17] 83 G ?_ ?_
     ·refine bch y (fun o y => ?_) (fun o y => ?_)
      ·refine tp o (tp o (tp o (to (spt Z46 o) ?_)));obtain rfl := sIn y;refine aE (aU rfl ⟨rfl, rfl, rfl, rfl, rfl, rfl, trivial⟩ rfl)
      ·refine tk o (sm (.i j.1)) (tk o (sm (.i m.1)) (tk o (scm rfl rfl rfl) (to (spf (.b (!decide (j.1 = m.1))) o) ?_)));obtain rfl := sIn y;refine aE (aU rfl ⟨rfl, rfl, rfl, rfl, rfl, rfl, trivial⟩ rfl)
     ·refine tm (.b G) ?_;obtain ⟨H, z, h⟩ := bns h;refine bE 4 [1, 7, 14, 17] 88 H ?_ ?_
      ·refine bch z (fun p z => ?_) (fun p z => ?_)
       ·refine tp p (tp p (tp p (to (spt Z46 p) ?_)));obtain rfl := sIn z;refine aE (aU rfl ⟨rfl, rfl, rfl, rfl, trivial⟩ rfl)
       ·refine tk p (sm (.i j.2.1)) (tk p (sm (.i m.2.1)) (tk p (scm rfl rfl rfl) (to (spf (.b (!decide (j.2.1 = m.2.1))) p) ?_)));obtain rfl := sIn z;refine aE (aU rfl ⟨rfl, rfl, rfl, rfl, trivial⟩ rfl)
      ·refine tm (.b H) ?_;obtain ⟨T, A, h⟩ := bns h;refine bE 4 [1, 7] 93 T ?_ ?_
       ·refine bch A (fun q A => ?_) (fun q A => ?_)
        ·refine tp q (tp q (tp q (to (spt Z46 q) ?_)));obtain rfl := sIn A;refine aE (aU rfl ⟨rfl, rfl, trivial⟩ rfl)
        ·refine tk q (sm (.i j.2.2)) (tk q (sm (.i m.2.2)) (tk q (scm rfl rfl rfl) (to (spf (.b (!decide (j.2.2 = m.2.2))) q) ?_)));obtain rfl := sIn A;refine aE (aU rfl ⟨rfl, rfl, trivial⟩ rfl)
       ·refine aE ?_;refine tih h (fun U h => ?_) (fun U h => ?_)
        ·refine aF (aC (ta Z21 (aE ?_)));obtain rfl := sIn h;refine bL (bJ (bR (l := [6]) ⟨rfl, trivial⟩)) ?_;exact rt
        ·refine bA (aF (aF (aC (ta (.i 0) (aE (bI ?_))))));refine cF (S := Int) [1, 7] (fun B => [(18, .i B)]) (fun B => []) (fun k B => eO e x8 k B) (fun _ => rfl) (0) h (aS [] rfl rfl (aP rfl (aR ⟨rfl, rfl, trivial⟩))) ?_;rintro a4 c h;simp only [eO] at h;refine aF (aF (aC (tm (.i c) (tm (.d (.sl 5 (x8.map aI))) (to (sle rfl cO.of) (to (scm rfl rfl rfl) (aE ?_)))))));refine tih h (fun V h => ?_) (fun V h => ?_)
         ·refine bA (aF (bI (aF ?_)));obtain ⟨s, W, h⟩ := bns h;obtain ⟨t, X, h⟩ := bns h;refine cG mix 8 [1, 7, 18] [(103, .agg (aI s)), (107, .agg (aI t))] ?_ ?_
          ·refine ⟨[(100, 0, .d (.sl 5 (x8.map aI))), (101, 1, .i c), (102, 2, .cp [.j s.Id, .j s.Hour, .j s.Kind, .j s.Player, .j s.Rank]), (103, 3, .agg (aI s)), (104, 4, .d (Z15 e)), (105, 5, .i c), (106, 6, .cp [.j t.Id, .j t.Hour, .j t.Kind, .j t.Player, .j t.Rank]), (107, 7, .agg (aI t))], ?_, ?_⟩
           · exact dk [0, 0, 102, 3, 0, 0, 506, 7] ⟨go (zm (.d (.sl 5 (x8.map aI)))),
 go (zm (.i c)),
 go (zix rfl rfl cO.of (bB aI W)),
 go (aFn (aI s) rfl fU),
 go (zm (Z45 e)),
 go (zm (.i c)),
 go (zix rfl rfl cO.of (bB aI X)),
 go (aFn (aI t) rfl fU), trivial⟩
           · exact bP (aP rfl (aP rfl (aR ⟨rfl, rfl, rfl, trivial⟩)))
          ·refine to (aGx (a := s) (b := t) (aL rfl) rfl rfl rfl rfl Tryz.eqGuardType32 yK) ?_;refine aE ?_;refine tih h (fun Y h => ?_) (fun Y h => ?_)
           ·refine aF (aC (ta Z21 (aE ?_)));obtain rfl := sIn h;exact rt
           ·refine bY ?_;refine aC (tm (.i c) (to (sar rfl rfl rfl) (ta (.i (w64 (c + 1))) (aE ?_))));exact ⟨(w64 (c + 1)), h, aS [] rfl rfl (aP rfl (aR ⟨rfl, rfl, trivial⟩))⟩
         ·refine bZ ?_;refine .inl ⟨rfl, ?_⟩;simp only [nA] at h;refine aF (aC ?_);obtain ⟨Z, a0, h⟩ := bns h;refine to (scr call13 (uZ a0)) (ta (.b Z) (aE ?_));obtain rfl := sIn h;exact rt

end Go.Am
