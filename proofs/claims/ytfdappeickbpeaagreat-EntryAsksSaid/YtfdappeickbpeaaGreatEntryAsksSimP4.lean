/- The functions compute what the shallow ones say: printed by program. -/
import Derived.Test.YtfdappeickbpeaaGreatEntryAsksSimP3
namespace Go.Am
open Go.Proofs
open Go.Proofs.Tryz
set_option maxRecDepth 100000
set_option maxHeartbeats 40000000

theorem tI (c : aT) (g : List aO) (e : Int) {r : aK} (h : lA c g e = some r) : Fn Tryz.prog 46 (Z68 c g e) (.agg (aI r)) := by
 unfold lA at h;refine gX func46 rfl (rs := [.cell 6 84]) results46 ntmps46 (Nat.le_of_ble_eq_true rfl) ?_;refine aF (aC ?_);refine bE rfl (eB (v := .agg (aQ c)) (aM rfl) rfl rfl rfl) ?_;rintro _ ⟨b1, rfl⟩;refine bE rfl (dI (zs := Z25) (aM rfl) zeroValue84 rfl rfl) ?_;rintro _ ⟨b2, rfl⟩;refine aE (aF (aC ?_));refine bE rfl (dI (zs := Z25) (aM rfl) zeroValue84 rfl rfl) ?_;rintro _ ⟨b3, rfl⟩;refine aE (aF (aC (tm (Z45 g) ?_)));obtain ⟨r4, h5, h⟩ := bns h;refine to (cJ (aM rfl) (.func _ _ call59) rfl rfl (xM _ h5)) ?_;refine ta (.d (.sl 5 (r4.map aJ))) (aE (aF (aF (aC (ta (.i 0) (aE (bH ?_)))))));refine cB (S := Int × aK) [2, 3, 6, 7, 8] (fun s6 => [(9, .i s6.1)]) (fun s6 => [.box b1 0 (aQ c), .box b2 0 (aI Z4), .box b3 0 (aI s6.2)]) (fun k s6 => jJ e r4 c Z4 k s6.1 s6.2) (fun _ => rfl) (0, Z4) h (aS [0, 1, 2] rfl rfl (aP rfl (aR ⟨rfl, rfl, rfl, rfl, rfl, trivial⟩))) ?_;rintro k7 ⟨b, a⟩ h;simp only [jJ] at h;refine aF (aF (aC (tm (.i b) (tm (.d (.sl 5 (r4.map aJ))) (to (sle rfl cU.of) (to (scm rfl rfl rfl) (aE ?_)))))));refine tih h (fun c8 h => ?_) (fun c8 h => ?_)
 ·refine bA (aF (bH (aF (aF (aC (tm (.d (.sl 5 (r4.map aJ))) (tm (.i b) ?_)))))));obtain ⟨x9, l, h⟩ := bns h;refine to (six rfl rfl cU.of (bB aJ l)) (to (sfc [.j x9.Hour] rfl cL) (to (slc rfl aW) (tm (.i e) (to (scm rfl rfl rfl) (aE ?_)))));refine tih h (fun m h => ?_) (fun m h => ?_)
  ·refine bY ?_;refine .inr ⟨by decide, ?_⟩;refine .inl ⟨rfl, ?_⟩;simp only [mO] at h;refine aF (aC (to (sla 2 (aI a) rfl rfl bX) (to (sst 1 rfl rfl sizeOf84 (aI a)) (aE ?_))));obtain rfl := sIn h;exact bM ⟨rfl, _, [.box b1 0 (aQ c), .box b2 0 (aI a), .box b3 0 (aI a)], .one (.cell 6 84 rfl (i := 1) rfl bX (es := (aI a)) rfl rfl), .refl _, .same _⟩
  ·refine bA ?_;obtain ⟨f, n, h⟩ := bns h;refine cI mix 6 [2, 3, 6, 7, 8, 9] [(25, .agg (aQ c)), (26, .agg (aI a)), (30, .agg (aJ f))] ?_ ?_
   ·refine ⟨[(25, 0, .agg (aQ c)), (26, 1, .agg (aI a)), (27, 2, .d (.sl 5 (r4.map aJ))), (28, 3, .i b), (29, 4, .cp [.j f.Id, .j f.Hour, .j f.Kind, .j f.Player, .j f.Rank]), (30, 5, .agg (aJ f))], ?_, ?_⟩
    · exact dk [0, 0, 0, 0, 304, 5] ⟨go (zla 0 (aQ c) rfl rfl fF),
 go (zla 2 (aI a) rfl rfl bX),
 go (zm (.d (.sl 5 (r4.map aJ)))),
 go (zm (.i b)),
 go (zix rfl rfl cU.of (bB aJ n)),
 go (aJi (aJ f) rfl iL), trivial⟩
    · exact bS (aP rfl (aP rfl (aP rfl (aR ⟨rfl, rfl, rfl, rfl, rfl, rfl, trivial⟩))))
   ·obtain ⟨j, o, h⟩ := bns h;refine to (cJ (aM rfl) (.func _ _ call70) rfl rfl (zC _ _ _ o)) ?_;refine to (sst 2 rfl rfl sizeOf84 (aI j)) ?_;refine cG ?_;refine aC (tm (.i b) (to (sar rfl rfl rfl) (ta (.i (w64 (b + 1))) (aE ?_))));exact ⟨(w64 (b + 1), j), h, aS [0, 1, 2] rfl rfl (aP rfl (aR ⟨rfl, rfl, rfl, rfl, rfl, trivial⟩))⟩
 ·refine bY ?_;refine .inl ⟨rfl, ?_⟩;simp only [mO] at h;refine aF (aC (to (sla 2 (aI a) rfl rfl bX) (to (sst 1 rfl rfl sizeOf84 (aI a)) (aE ?_))));obtain rfl := sIn h;exact bM ⟨rfl, _, [.box b1 0 (aQ c), .box b2 0 (aI a), .box b3 0 (aI a)], .one (.cell 6 84 rfl (i := 1) rfl bX (es := (aI a)) rfl rfl), .refl _, .same _⟩

theorem vP (m : aT) (e : aK) {r : dK} (h : jS m e = some r) : Fn Tryz.prog 45 [.agg (aQ m), .agg (aI e)] (.agg (fP r)) := by
 unfold jS at h;refine gX func45 rfl (rs := [.cell 4 34]) results45 ntmps45 (Nat.le_of_ble_eq_true rfl) ?_;refine aF (aC ?_);refine bE rfl (eB (v := .agg (aQ m)) (aM rfl) rfl rfl rfl) ?_;rintro _ ⟨b1, rfl⟩;refine bE rfl (eB (v := .agg (aI e)) (aM rfl) rfl rfl rfl) ?_;rintro _ ⟨b2, rfl⟩;refine bE rfl (dI (zs := Z43) (aM rfl) zeroValue34 rfl rfl) ?_;rintro _ ⟨b3, rfl⟩;refine aE (aF (aC (tfl 1 rfl rfl kI rfl cE (tfl 1 rfl rfl dJ rfl cE (tfl 0 rfl rfl wI rfl aW (tfl 1 rfl rfl oW rfl aW (to (sar rfl rfl rfl) (tfl 1 rfl rfl kI rfl cE ?_))))))));refine to (sle rfl bP.of) (to (sar rfl rfl rfl) (to (sF (aM rfl) aNv (zs := Z76) rfl rfl rfl rfl (es := (Z65 e m)) rfl) ?_));refine bE rfl (dI (zs := Z76) (aM rfl) zeroValue34 rfl rfl) ?_;rintro _ ⟨b4, rfl⟩;refine dF (rE 3 1) ?_;refine to (sst 3 rfl rfl sizeOf34 (Z65 e m)) (aE (aF (aC (to (sla 1 (aI e) rfl rfl bX) ?_))));obtain ⟨r5, h6, h⟩ := bns h;refine to (cJ (aM rfl) (.func _ _ call54) rfl rfl (pS _ h6)) ?_;refine ta (.d (.sl 7 (r5.map aB))) (aE (aF (aF (aC (ta (.i 0) (aE (bH ?_)))))));refine cB (S := Int × Z66 × Z66 × Z66 × Int × Value) [3, 4, 5, 6] (fun s7 => [(7, .i s7.1)]) (fun s7 => [.box b2 0 (aI e), .box b3 0 (fP Z36), .arr s7.2.2.2.2.2 3 1 (s7.2.1.map aH), .box b4 0 [.sl 1 (s7.2.2.1.map aH), .sl 1 (s7.2.2.2.1.map aH), .lit s7.2.2.2.2.2, .j s7.2.2.2.2.1]]) (fun k s7 => gN r5 e Z36 k s7.1 s7.2.1 s7.2.2.1 s7.2.2.2.1 s7.2.2.2.2.1) (fun _ => rfl) (0, ([] : List Int), e.In, e.Wilds, w64 ((w64 (m.Places + e.Back)) - (e.In.length : Int)), (.slice none 0 0)) h (aS [1, 2, 4, 3] rfl rfl (aP rfl (aR ⟨rfl, rfl, rfl, rfl, trivial⟩))) ?_;rintro k9 ⟨g, n, a, b, c, w8⟩ h;simp only [gN] at h;refine aF (aF (aC (tm (.i g) (tm (.d (.sl 7 (r5.map aB))) (to (sle rfl cC.of) (to (scm rfl rfl rfl) (aE ?_)))))));refine tih h (fun p h => ?_) (fun p h => ?_)
 ·refine bA (aF (bH (aF ?_)));obtain ⟨l, q, h⟩ := bns h;refine cI mix 7 [3, 4, 5, 6, 7] [(31, .d (.sl 1 (Z12 e))), (36, .i l.Player)] ?_ ?_
  ·refine ⟨[(30, 0, .bp b2 0 3), (31, 1, .d (.sl 1 (Z12 e))), (32, 2, .d (.sl 7 (r5.map aB))), (33, 3, .i g), (34, 4, .cp [.j l.Player, .j l.Rank, .k l.Guard, .k l.Entered, .k l.Quit, .k l.Signed, .k l.Card]), (35, 5, .cp [.j l.Player]), (36, 6, .i l.Player)], ?_, ?_⟩
   · exact dk [0, 1, 0, 0, 304, 5, 6] ⟨go (zf rfl kI),
 go (zl 0 rfl rfl rfl cE),
 go (zm (.d (.sl 7 (r5.map aB)))),
 go (zm (.i g)),
 go (zix rfl rfl cC.of (bB aB q)),
 go (zfc [.j l.Player] rfl qI),
 go (zlc rfl aW), trivial⟩
   · exact bS (aP rfl (aP rfl (aR ⟨rfl, rfl, rfl, rfl, rfl, trivial⟩)))
  ·obtain ⟨y, s, h⟩ := bns h;refine to (scr call55 (fI _ _ s)) (to (sn rfl) (aE ?_));refine tih h (fun t h => ?_) (fun t h => ?_)
   ·obtain ⟨j, u, h⟩ := bns h;refine cI mix 8 [3, 4, 5, 6, 7] [(40, .d (.lit w8)), (46, .d (.sl 1 (([j.Player]).map aH)))] ?_ ?_
    ·refine ⟨[(39, 0, .bp b4 0 2), (40, 1, .d (.lit w8)), (41, 2, .d (.sl 7 (r5.map aB))), (42, 3, .i g), (43, 4, .cp [.j j.Player, .j j.Rank, .k j.Guard, .k j.Entered, .k j.Quit, .k j.Signed, .k j.Card]), (44, 5, .cp [.j j.Player]), (45, 6, .i j.Player), (46, 7, .d (.sl 1 (([j.Player]).map aH)))], ?_, ?_⟩
     · exact dk [0, 1, 0, 0, 304, 5, 6, 7] ⟨go (zf rfl aCc),
 go (zl 3 rfl rfl rfl cE),
 go (zm (.d (.sl 7 (r5.map aB)))),
 go (zm (.i g)),
 go (zix rfl rfl cC.of (bB aB u)),
 go (zfc [.j j.Player] rfl qI),
 go (zlc rfl aW),
 go fun S hS => dM (aM rfl) bP rfl (pa2 (aU hS rfl) pan) (rows := ([j.Player]).map aH) rfl (aZ (f := aH) fun _ => rfl) rfl (by decide), trivial⟩
     · exact bS (aP rfl (aP rfl (aR ⟨rfl, rfl, rfl, rfl, rfl, trivial⟩)))
    ·obtain ⟨w, x, h⟩ := bns h;refine bE rfl (cO (i := 2) (aM rfl) bP rfl rfl rfl (fun _ => rfl) x rfl) ?_;rintro _ ⟨o, rfl⟩;refine to (sf rfl aCc) (to (sst 3 rfl rfl sizeOf25 [.sl 1 (a.map aH), .sl 1 (b.map aH), .lit o, .j c]) ?_);refine cG ?_;refine aC (tm (.i g) (to (sar rfl rfl rfl) (ta (.i (w64 (g + 1))) (aE ?_))));exact ⟨(w64 (g + 1), w, a, b, c, o), h, aS [0, 1, 2, 3] rfl rfl (aP rfl (aR ⟨rfl, rfl, rfl, rfl, trivial⟩))⟩
   ·refine bZ ?_;refine aC (tm (.i g) (to (sar rfl rfl rfl) (ta (.i (w64 (g + 1))) (aE ?_))));exact ⟨(w64 (g + 1), n, a, b, c, w8), h, aS [0, 1, 2, 3] rfl rfl (aP rfl (aR ⟨rfl, rfl, rfl, rfl, trivial⟩))⟩
 ·refine bY ?_;refine .inl ⟨rfl, ?_⟩;simp only [qP] at h;refine aF (aC (to (sla 3 [.sl 1 (a.map aH), .sl 1 (b.map aH), .lit w8, .j c] rfl rfl aHh) (to (sst 1 rfl rfl sizeOf34 [.sl 1 (a.map aH), .sl 1 (b.map aH), .lit w8, .j c]) (aE ?_))));obtain rfl := sIn h;exact bM ⟨rfl, _, [.box b2 0 (aI e), .box b3 0 [.sl 1 (a.map aH), .sl 1 (b.map aH), .lit w8, .j c], .arr w8 3 1 (n.map aH), .box b4 0 [.sl 1 (a.map aH), .sl 1 (b.map aH), .lit w8, .j c]], .one (.cell 4 34 rfl (i := 1) rfl aHh (es := [.sl 1 (a.map aH), .sl 1 (b.map aH), .lit w8, .j c]) rfl rfl), .refl _, .agg (dvc (.same _) (dvc (.same _) (dvc (bI 2 rfl (aZ (f := aH) fun _ => rfl)) (dvc (.same _) dvn))))⟩

theorem tL (c : List Int) (a : Int) {r : Int} (h : lE c a = some r) : Fn Tryz.prog 71 [.d (Z22 c), .i a] (.i r) := by
 unfold lE at h;refine oT [.tmp 4] func71 results71 ntmps71 ?_;refine aF (aC (ta (.i 0) (aE (aF (aF (aC (ta (.i 0) (aE (bH ?_)))))))));refine cB (S := Int) [0, 1] (fun s1 => [(5, .i s1)]) (fun s1 => []) (fun k s1 => gK c a k s1) (fun _ => rfl) (0) h (aS [] rfl rfl (aP rfl (aR ⟨rfl, rfl, trivial⟩))) ?_;rintro k2 b h;simp only [gK] at h;refine aF (aF (aC (tm (.i b) (tm (Z60 c) (to (sle rfl bP.of) (to (scm rfl rfl rfl) (aE ?_)))))));refine tih h (fun c3 h => ?_) (fun c3 h => ?_)
 ·refine bA (aF (bH (aF (aC (tm (Z60 c) (tm (.i b) ?_))))));obtain ⟨x4, h5, h⟩ := bns h;refine to (six rfl rfl bP.of (bB aH h5)) (to (slc rfl aW) (tm (.i a) (to (scm rfl rfl rfl) (aE ?_))));refine tih h (fun c6 h => ?_) (fun c6 h => ?_)
  ·refine aF (aC (tm (.i b) (to (sar rfl rfl rfl) (ta (.i (w64 (b + 1))) (aE ?_)))));obtain rfl := sIn h;exact rt
  ·refine bZ ?_;refine aC (tm (.i b) (to (sar rfl rfl rfl) (ta (.i (w64 (b + 1))) (aE ?_))));exact ⟨(w64 (b + 1)), h, aS [] rfl rfl (aP rfl (aR ⟨rfl, rfl, trivial⟩))⟩
 ·refine bY ?_;refine .inl ⟨rfl, ?_⟩;simp only [sS] at h;refine aF (aC (ta (.i 0) (aE ?_)));obtain rfl := sIn h;exact rt

theorem xL (b : dK) (a : Int) {r : Int × Int} (h : lF b a = some r) : Fn Tryz.prog 47 [.agg (fP b), .i a] (Z59 r) := by
 unfold lF at h;refine oT [.tmp 4, .tmp 5] func47 results47 ntmps47 ?_;refine aF (aC ?_);refine bE rfl (eB (v := .agg (fP b)) (aM rfl) rfl rfl rfl) ?_;rintro _ ⟨b1, rfl⟩;refine ta (.i 0) (ta (.i 0) (aE (aF (aF (aC (tfl 0 rfl rfl aMh rfl cE (tm (.i a) ?_)))))));obtain ⟨r2, h3, h⟩ := bns h;refine to (scr call71 (tL _ _ h3)) (ta (.i r2) (aE (aF (aC (tm (.i r2) (to (scm rfl rfl rfl) (aE ?_)))))));refine tih h (fun c4 h => ?_) (fun c4 h => ?_)
 ·refine aF (aC (tm (.i r2) (ta (.i 1) (ta (.i r2) (aE ?_)))));obtain rfl := sIn h;refine bQ (bL (bR (l := [4, 5]) ⟨rfl, rfl, trivial⟩)) ?_;exact bM ⟨rfl, _, .two _ _, rfl, rfl⟩
 ·refine bA (aF (aF (aC (tfl 0 rfl rfl aMi rfl cE (tm (.i a) ?_)))));obtain ⟨r5, h6, h⟩ := bns h;refine to (scr call71 (tL _ _ h6)) (ta (.i r5) (aE (aF (aC (tm (.i r5) (to (scm rfl rfl rfl) (aE ?_)))))));refine tih h (fun c7 h => ?_) (fun c7 h => ?_)
  ·refine aF (aC (tm (.i r5) (ta (.i 2) (ta (.i r5) (aE ?_)))));obtain rfl := sIn h;refine bQ (bL (bR (l := [4, 5]) ⟨rfl, rfl, trivial⟩)) ?_;exact bM ⟨rfl, _, .two _ _, rfl, rfl⟩
  ·refine bA (aF (aF (aC (tfl 0 rfl rfl aCc rfl cE (tm (.i a) ?_)))));obtain ⟨r8, h9, h⟩ := bns h;refine to (scr call71 (tL _ _ h9)) (ta (.i r8) (aE (aF (aC (tm (.i r8) (to (scm rfl rfl rfl) (aE ?_)))))));refine tih h (fun c h => ?_) (fun c h => ?_)
   ·refine aF (aC (tm (.i r8) (ta (.i 3) (ta (.i r8) (aE ?_)))));obtain rfl := sIn h;refine bQ (bL (bR (l := [4, 5]) ⟨rfl, rfl, trivial⟩)) ?_;exact bM ⟨rfl, _, .two _ _, rfl, rfl⟩
   ·refine bA (aF (aC (ta (.i 0) (ta (.i 0) (aE ?_)))));obtain rfl := sIn h;refine bQ (bL (bR (l := [4, 5]) ⟨rfl, rfl, trivial⟩)) ?_;exact bM ⟨rfl, _, .two _ _, rfl, rfl⟩

theorem aBq (a : List Int) {r : Unit} (_ : pI a = some r) : Fn Tryz.prog 51 [.d (Z22 a)] (.fn 82 [.cp [.sl 1 (a.map aH)]]) := by
 refine gX func51 rfl (rs := [.tmp 2]) results51 ntmps51 (Nat.le_of_ble_eq_true rfl) ?_;refine aF (aC ?_);refine bE rfl (eB (v := .d (Z22 a)) (aM rfl) rfl rfl rfl) ?_;rintro _ ⟨b1, rfl⟩;refine ta (.d (.lit .nilFunc)) (aE (aF (aC (to (qT (aM rfl) rfl rfl) ?_))));refine ta (.fn 82 [.bp b1 0 0]) (aE ?_);exact bM ⟨rfl, _, [.box b1 0 [.sl 1 (a.map aH)]], .one (.tmp 2 (v := .fn 82 [.bp b1 0 0]) rfl), .refl _, (rC (.cons (eH 0 rfl rfl (dvc (.same _) dvn)) .nil))⟩

theorem xX {S : Type} (J K : S → MO → Prop) (ly : Nat) (c : S → Int → Int → Option (S × Bool)) (hy : ∀ (s : S) (m : MO) (x0 : Int) (x1 : Int) (s' : S × Bool), J s m → c s x0 x1 = some s' → yW Tryz.prog ly [.i x0, .i x1] m (fun b m' => b = s'.2 ∧ JK J K s' m')) (e : List Int) (sy : S) (m0 : MO) (hj : J sy m0) {r : S × Bool} (h : iJ c e sy = some r) : dW Tryz.prog 82 [.d (.lit (yv ly)), .cp [.sl 1 (e.map aH)]] [m0] (fun _ o' => ∃ m', JK J K r m' ∧ o' = [m']) := by
 unfold iJ at h;refine uI func82 rfl (rs := []) results82 ntmps82 (Nat.le_of_ble_eq_true rfl) ?_;refine aF (aC (to (slc rfl cE) (to (sle rfl bP.of) (to (sar rfl rfl rfl) (ta (.i (w64 ((e.length : Int) - 1))) (aE (bH ?_)))))));refine cB (S := Int × ({x : S × MO // J x.1 x.2})) [0, 1] (fun s1 => [(3, .i s1.1)]) (fun s1 => [s1.2.1.2]) (fun k s1 => gB c e k s1.1 s1.2.1.1) (fun _ => rfl) (w64 ((e.length : Int) - 1), ⟨(sy, m0), hj⟩) h (aS [0] rfl rfl (aP rfl (aR ⟨rfl, rfl, trivial⟩))) ?_;rintro k3 ⟨a, y2⟩ h;simp only [gB] at h;refine aF (aF (aC (tm (.i a) (to (scm rfl rfl rfl) (aE ?_)))));refine tih h (fun c4 h => ?_) (fun c4 h => ?_)
 ·refine bA (aF (bH (aF (aC (tm (.d (.lit (yv ly))) (tm (.i a) (to (slc rfl cE) (tm (.i a) ?_))))))));obtain ⟨x5, h6, h⟩ := bns h;refine to (six rfl rfl bP.of (bB aH h6)) (to (slc rfl aW) ?_);obtain ⟨y7, h8, h⟩ := bns h;refine aOa rfl (aNt (aM rfl) rfl rfl rfl rfl (hy _ _ _ _ _ y2.2 h8)) ?_;rintro _ ⟨_, m9, ⟨rfl, f⟩, rfl⟩;refine to (sn rfl) (aE ?_);refine tih h (fun g h => ?_) (fun g h => ?_)
  ·obtain rfl := sIn h;exact bM ⟨rfl, _, [m9], [], _, .none, .refl _, .same _, m9, f, rfl⟩
  ·refine bZ ?_;refine aC (tm (.i a) (to (sar rfl rfl rfl) (ta (.i (w64 (a - 1))) (aE ?_))));exact ⟨(w64 (a - 1), ⟨(y7.1, m9), (aYu f (bnf g))⟩), h, aS [0] rfl rfl (aP rfl (aR ⟨rfl, rfl, trivial⟩))⟩
 ·refine bY ?_;refine .inl ⟨rfl, ?_⟩;simp only [qU] at h;obtain rfl := sIn h;exact ⟨_, [y2.1.2], [], _, .none, .refl _, .same _, y2.1.2, y2.2, rfl⟩

theorem aOh (j : aT) (c : List aO) (m : Int) {r : Int × Int} (h : qZ j c m = some r) : Fn Tryz.prog 27 (Z68 j c m) (Z59 r) := by
 unfold qZ at h;refine gX func27 rfl (rs := [.cell 6 3, .cell 7 35]) results27 ntmps27 (Nat.le_of_ble_eq_true rfl) ?_;refine aF (aC ?_);refine bE rfl (eB (v := .agg (aQ j)) (aM rfl) rfl rfl rfl) ?_;rintro _ ⟨b1, rfl⟩;refine bE rfl (dI (zs := [.j 0]) (aM rfl) zeroValue3 rfl rfl) ?_;rintro _ ⟨b2, rfl⟩;refine bE rfl (dI (zs := [.j 0]) (aM rfl) zeroValue35 rfl rfl) ?_;rintro _ ⟨b3, rfl⟩;refine aE (aF (aC (to (sla 0 (aQ j) rfl rfl fF) (tm (Z45 c) (tm (.i m) ?_)))));obtain ⟨r4, h5, h⟩ := bns h;refine to (cJ (aM rfl) (.func _ _ call33) rfl rfl (vS _ _ _ _ h5)) ?_;refine tm (.tup [kX bC r4.1, .i r4.2]) (to (sex rfl rfl) (to (sex rfl rfl) ?_));refine bE rfl (dI (zs := [.lit (.pointer none)]) (aM rfl) zeroValue64 rfl rfl) ?_;rintro _ ⟨b6, rfl⟩;refine aVy (enc := bC) 19 rfl fun w7 => ?_;refine to (sst 3 rfl rfl sizeOf64 [.lit w7]) (ta (.i r4.2) (aE (aF (aF (aC (tm (.i r4.2) (to (scm rfl rfl rfl) (aE ?_))))))));refine tih h (fun c8 h => ?_) (fun c8 h => ?_)
 ·refine aF (aC (tm (.i r4.2) (to (sst 1 rfl rfl sizeOf3 [.j 0]) (to (sst 2 rfl rfl sizeOf35 [.j r4.2]) (aE ?_)))));obtain rfl := sIn h;exact bM ⟨rfl, _, [.box b1 0 (aQ j), .box b2 0 [.j 0], .box b3 0 [.j r4.2], .box b6 0 [.lit w7], yS bC r4.1 w7], .two (.cell1 6 3 rfl (i := 1) rfl aW rfl) (.cell1 7 35 rfl (i := 2) rfl aNe rfl), .refl _, .same _⟩
 ·refine bA (aF (aC (to (aEs (enc := bC) (i := 3) (i2 := 4) (aM rfl) rfl rfl rfl rfl iD) ?_)));obtain ⟨x9, C, h⟩ := bns h;refine dF (vE (enc := bC) (k := 24) rfl C) ?_;obtain ⟨t, E, h⟩ := bns h;refine to (cJ (aM rfl) (.func _ _ call34) rfl rfl (mF _ E)) ?_;refine bE rfl (dI (zs := [.sl 1 Z10]) (aM rfl) zeroValue25 rfl rfl) ?_;rintro _ ⟨x, rfl⟩;refine to (sst 5 rfl rfl sizeOf25 [.sl 1 (t.map aH)]) (aE (aF (aF (aC (to (aEs (enc := bC) (i := 3) (i2 := 4) (aM rfl) rfl rfl rfl rfl iD) ?_)))));obtain ⟨V, F, h⟩ := bns h;refine dF (vE (enc := bC) (k := 26) rfl F) ?_;obtain ⟨G, H, h⟩ := bns h;refine to (cJ (aM rfl) (.func _ _ call52) rfl rfl (rJ _ H)) ?_;obtain ⟨W, I, h⟩ := bns h;refine to (cJ (aM rfl) (.func _ _ call51) rfl rfl (aBq _ I)) ?_;refine aE (bH ?_);obtain ⟨⟨L, M⟩, N, h⟩ := bns h;refine aKu (S := Int × Int) (S0 := Int × Int) (f := 82) (ps := [29, 30]) (fun s => (s.1, s.2)) (fun s => [.box b1 0 (aQ j), .box b2 0 [.j s.1], .box b3 0 [.j s.2], .box b6 0 [.lit w7], yS bC r4.1 w7, .box x 0 [.sl 1 (t.map aH)]]) (aZh (fun B : Int => .i B) (fun e : Int => .i e) _) (0, 0) (0, 0) (L, M) (aS [0, 1, 2, 3, 4, 5] rfl rfl (le_refl _)) rfl call82 rfl (by decide) rfl rfl (fun l J K hy m0 h0 => xX (S := Int × Int) J K l _ (fun _ _ _ _ _ hJ hq => hy _ _ _ _ hJ ⟨_, _, rfl, hq⟩) G _ m0 h0 N) ?_ ?_ ?_
  ·rintro ⟨u, w⟩ _ _ ⟨B, e, rfl, h⟩;refine ⟨rfl, ?_⟩;refine aC (ta (.i e) (aE (bH (aF (aC (to (aEs (enc := bC) (i := 3) (i2 := 4) (aM rfl) rfl rfl rfl rfl iD) ?_))))));obtain ⟨q, O, h⟩ := bns h;refine to (aGj (enc := bC) (aM rfl) rfl O) ?_;refine to (sfc [.mp true (q.players.map fun p : Int × aA => (VI p.1, aG p.2))] rfl dZ) (to (slc rfl gF) (tm (.i e) (to (jH (enc := aG) (agg := true) (l := q.players) (z := Z2) (a := e) (aM rfl) iW underlying68 zeroValue94 (fun _ _ => .agg (jY rfl)) rfl rfl rfl rfl (dO (kv := VI) e)) ?_)));refine bE rfl (dI (zs := [.k false, .k false, .j 0, .j 0, .k false, .k false, .k false, .k false]) (aM rfl) zeroValue94 rfl rfl) ?_;rintro _ ⟨X, rfl⟩;refine to (sst 6 rfl rfl sizeOf94 (aG (aL e Z2 q.players))) (aE (aF (aC (tfl 6 rfl rfl zJ rfl dN (to (sn rfl) (tm (.b (!((aL e Z2 q.players).guard))) ?_))))));obtain ⟨P, o, h⟩ := bns h;refine bG 4 [6, 7, 13] 44 P ?_ ?_
   ·refine bch o (fun g o => ?_) (fun g o => ?_)
    ·refine tk g (sl 5 rfl rfl rfl cE) (tk g (sm (.i e)) ?_);obtain ⟨Q, T, o⟩ := bns o;refine tk g (scr call53 (lN _ _ T)) (to (spt (.b Q) g) ?_);obtain rfl := sIn o;refine aE (aV rfl ⟨rfl, rfl, rfl, trivial⟩ rfl)
    ·refine tp g (tp g (tp g (to (spf Z21 g) ?_)));obtain rfl := sIn o;refine aE (aV rfl ⟨rfl, rfl, rfl, trivial⟩ rfl)
   ·refine aE ?_;refine tih h (fun U h => ?_) (fun U h => ?_)
    ·refine aF (aC (tfl 6 rfl rfl wL rfl aW (to (sst 1 rfl rfl sizeOf3 [.j ((aL e Z2 q.players).rank)]) (to (sst 2 rfl rfl sizeOf35 [.j 0]) (aE ?_)))));obtain rfl := sIn h;exact bM ⟨rfl, rfl, ((aL e Z2 q.players).rank, 0), rfl, aS [0, 1, 2, 3, 4, 5] rfl rfl aMt⟩
    ·refine bZ ?_;obtain rfl := sIn h;exact ⟨rfl, (u, w), rfl, aS [0, 1, 2, 3, 4, 5] rfl rfl aMt⟩
  ·rintro ⟨u, w⟩ y A;subst A;have h := aFg y h;refine aWc ?_;refine aF (aC (to (sst 1 rfl rfl sizeOf3 [.j 0]) (to (sst 2 rfl rfl sizeOf35 [.j 3]) (aE ?_))));obtain rfl := sIn h;exact bM ⟨rfl, _, [.box b1 0 (aQ j), .box b2 0 [.j 0], .box b3 0 [.j 3], .box b6 0 [.lit w7], yS bC r4.1 w7, .box x 0 [.sl 1 (t.map aH)]], .two (.cell1 6 3 rfl (i := 1) rfl aW rfl) (.cell1 7 35 rfl (i := 2) rfl aNe rfl), .refl _, .same _⟩
  ·rintro ⟨u, w⟩ y A;subst A;have h := qM y h;obtain rfl := sIn h;exact bM ⟨rfl, _, [.box b1 0 (aQ j), .box b2 0 [.j u], .box b3 0 [.j w], .box b6 0 [.lit w7], yS bC r4.1 w7, .box x 0 [.sl 1 (t.map aH)]], .two (.cell1 6 3 rfl (i := 1) rfl aW rfl) (.cell1 7 35 rfl (i := 2) rfl aNe rfl), .refl _, .same _⟩

theorem aGq (m : aT) (n : List aO) (g : Int) {r : Int × Int} (h : lH m n g = some r) : Fn Tryz.prog 28 (Z68 m n g) (Z59 r) := by
 unfold lH at h;refine oT [.tmp 6, .tmp 7] func28 results28 ntmps28 ?_;refine aF (aC ?_);refine bE rfl (eB (v := .agg (aQ m)) (aM rfl) rfl rfl rfl) ?_;rintro _ ⟨b1, rfl⟩;refine ta (.i 0) (ta (.i 0) (aE (aF (aF (aC (to (sla 0 (aQ m) rfl rfl fF) (tm (Z45 n) (tm (.i g) ?_))))))));obtain ⟨r2, h3, h⟩ := bns h;refine to (scr call44 (tK _ _ _ _ h3)) (ta (.i r2) (aE (aF (aC (tm (.i r2) (to (scm rfl rfl rfl) (aE ?_)))))));refine tih h (fun c4 h => ?_) (fun c4 h => ?_)
 ·refine aF (aC (tm (.i r2) (ta (.i 0) (ta (.i r2) (aE ?_)))));obtain rfl := sIn h;refine bQ (bL (bR (l := [6, 7]) ⟨rfl, rfl, trivial⟩)) ?_;exact bM ⟨rfl, _, .two _ _, rfl, rfl⟩
 ·refine bA (aF (aC (to (sla 0 (aQ m) rfl rfl fF) (tm (Z45 n) (tm (.i g) ?_)))));obtain ⟨r5, h6, h⟩ := bns h;refine to (cJ (aM rfl) (.func _ _ call46) rfl rfl (tI _ _ _ h6)) ?_;refine bE rfl (dI (zs := Z25) (aM rfl) zeroValue84 rfl rfl) ?_;rintro _ ⟨b7, rfl⟩;refine to (sst 1 rfl rfl sizeOf84 (aI r5)) (aE (aF (aC (to (sla 1 (aI r5) rfl rfl bX) ?_))));obtain ⟨r8, h9, h⟩ := bns h;refine to (cJ (aM rfl) (.func _ _ call54) rfl rfl (pS _ h9)) ?_;refine ta (.d (.sl 7 (r8.map aB))) (aE (aF (aF (aC (tm (.d (.sl 7 (r8.map aB))) (to (sle rfl cC.of) (to (sar rfl rfl rfl) (ta (.i (w64 ((r8.length : Int) - 1))) (aE (bH ?_))))))))));refine cB (S := Int) [9, 10] (fun o => [(11, .i o)]) (fun o => [.box b7 0 (aI r5)]) (fun k o => mA r8 r5 k o) (fun _ => rfl) (w64 ((r8.length : Int) - 1)) h (aS [1] rfl rfl (aP rfl (aR ⟨rfl, rfl, trivial⟩))) ?_;rintro A c h;simp only [mA] at h;refine aF (aF (aC (tm (.i c) (to (scm rfl rfl rfl) (aE ?_)))));refine tih h (fun t h => ?_) (fun t h => ?_)
  ·refine bA (aF (bH (aF ?_)));obtain ⟨a, q, h⟩ := bns h;obtain ⟨u, j, h⟩ := bns h;refine cI mix 16 [9, 10, 11] [(47, .b u)] ?_ ?_
   ·refine bch j (fun e j => ?_) (fun e j => ?_)
    ·obtain ⟨f, w, j⟩ := bns j;obtain ⟨p, x, j⟩ := bns j;obtain rfl := sIn j;refine ⟨[(32, 0, .d (.sl 7 (r8.map aB))), (33, 1, .i c), (34, 2, .cp [.j a.Player, .j a.Rank, .k a.Guard, .k a.Entered, .k a.Quit, .k a.Signed, .k a.Card]), (35, 3, .cp [.k a.Guard]), (36, 4, .b a.Guard), (37, 5, .b (!a.Guard)), (38, 6, .b (!a.Guard)), (39, 7, .bp b7 0 3), (40, 8, .d (.sl 1 (r5.In.map aH))), (41, 9, .d (.sl 7 (r8.map aB))), (42, 10, .i c), (43, 11, .cp [.j f.Player, .j f.Rank, .k f.Guard, .k f.Entered, .k f.Quit, .k f.Signed, .k f.Card]), (44, 12, .cp [.j f.Player]), (45, 13, .i f.Player), (46, 14, .b p), (47, 15, .b p)], ?_, ?_⟩
     · exact dk [0, 0, 102, 3, 4, 5, 6, 7, 708, 7, 7, 71011, 712, 713, 70914, 715] ⟨go (zm (.d (.sl 7 (r8.map aB)))),
 go (zm (.i c)),
 go (zix rfl rfl cC.of (bB aB q)),
 go (zfc [.k a.Guard] rfl oX),
 go (zlc rfl dN),
 go (zn rfl),
 go (zm (.b (!a.Guard))),
 gt e (zf rfl kI),
 gt e (zl 0 rfl rfl rfl cE),
 gt e (zm (.d (.sl 7 (r8.map aB)))),
 gt e (zm (.i c)),
 gt e (zix rfl rfl cC.of (bB aB w)),
 gt e (zfc [.j f.Player] rfl qI),
 gt e (zlc rfl aW),
 gt e fun S hS => kU (aM rfl) (.func _ _ call55) (ev2 (aU hS rfl) (ev2 (aU hS rfl) evn)) rfl (BVs.refl _ _) (fI _ _ x) rfl,
 go (zpt (.b p) e), trivial⟩
     · exact bS (aP rfl (aR ⟨rfl, rfl, rfl, trivial⟩))
    ·obtain rfl := sIn j;refine ⟨[(32, 0, .d (.sl 7 (r8.map aB))), (33, 1, .i c), (34, 2, .cp [.j a.Player, .j a.Rank, .k a.Guard, .k a.Entered, .k a.Quit, .k a.Signed, .k a.Card]), (35, 3, .cp [.k a.Guard]), (36, 4, .b a.Guard), (37, 5, .b (!a.Guard)), (38, 6, .b (!a.Guard)), (39, 7, .tup []), (40, 8, .tup []), (41, 9, .tup []), (42, 10, .tup []), (43, 11, .tup []), (44, 12, .tup []), (45, 13, .tup []), (46, 14, .tup []), (47, 15, .b false)], ?_, ?_⟩
     · exact dk [0, 0, 102, 3, 4, 5, 6, 7, 708, 7, 7, 71011, 712, 713, 70914, 715] ⟨go (zm (.d (.sl 7 (r8.map aB)))),
 go (zm (.i c)),
 go (zix rfl rfl cC.of (bB aB q)),
 go (zfc [.k a.Guard] rfl oX),
 go (zlc rfl dN),
 go (zn rfl),
 go (zm (.b (!a.Guard))),
 gp e,
 gp e,
 gp e,
 gp e,
 gp e,
 gp e,
 gp e,
 gp e,
 go (zpf Z21 e), trivial⟩
     · exact bS (aP rfl (aR ⟨rfl, rfl, rfl, trivial⟩))
   ·refine aE ?_;refine tih h (fun y h => ?_) (fun y h => ?_)
    ·refine aF (aC (tm (.d (.sl 7 (r8.map aB))) (tm (.i c) ?_)));obtain ⟨s, z, h⟩ := bns h;refine to (six rfl rfl cC.of (bB aB z)) (to (sfc [.j s.Rank] rfl nY) (to (slc rfl aW) (ta (.i s.Rank) (ta (.i 0) (aE ?_)))));obtain rfl := sIn h;refine bQ (bL (bR (l := [6, 7]) ⟨rfl, rfl, trivial⟩)) ?_;exact bM ⟨rfl, _, .two _ _, rfl, rfl⟩
    ·refine bZ ?_;refine aC (tm (.i c) (to (sar rfl rfl rfl) (ta (.i (w64 (c - 1))) (aE ?_))));exact ⟨(w64 (c - 1)), h, aS [0] rfl rfl (aP rfl (aR ⟨rfl, rfl, trivial⟩))⟩
  ·refine bY ?_;refine .inl ⟨rfl, ?_⟩;simp only [yH] at h;refine aF (aC (ta (.i 0) (ta (.i 3) (aE ?_))));obtain rfl := sIn h;refine bQ (bL (bR (l := [6, 7]) ⟨rfl, rfl, trivial⟩)) ?_;exact bM ⟨rfl, _, .two _ _, rfl, rfl⟩

theorem aFr (c : aT) (d : aK) (b : Int) (a : Int) {r : aK} (h : nR c d b a = some r) : Fn Tryz.prog 58 [.agg (aQ c), .agg (aI d), .i b, .i a] (.agg (aI r)) := by
 unfold nR at h;refine gX func58 rfl (rs := [.cell 8 84]) results58 ntmps58 (Nat.le_of_ble_eq_true rfl) ?_;refine aF (aC ?_);refine bE rfl (eB (v := .agg (aQ c)) (aM rfl) rfl rfl rfl) ?_;rintro _ ⟨b1, rfl⟩;refine bE rfl (eB (v := .agg (aI d)) (aM rfl) rfl rfl rfl) ?_;rintro _ ⟨b2, rfl⟩;refine bE rfl (dI (zs := Z25) (aM rfl) zeroValue84 rfl rfl) ?_;rintro _ ⟨b3, rfl⟩;refine aE (aF (aC (to (sla 0 (aQ c) rfl rfl fF) (to (sla 1 (aI d) rfl rfl bX) (tm (.i b) (tm (.i a) (to (sF (aM rfl) aTm (zs := [.j 0, .j 0, .j 0, .j 0, .j 0]) rfl rfl rfl rfl (es := [.j 0, .j b, .j 4, .j a, .j 0]) rfl) ?_)))))));obtain ⟨r4, h5, h⟩ := bns h;refine to (cJ (aM rfl) (.func _ _ call70) rfl rfl (zC _ _ _ h5)) ?_;refine to (sst 2 rfl rfl sizeOf84 (aI r4)) (aE ?_);obtain rfl := sIn h;exact bM ⟨rfl, _, [.box b1 0 (aQ c), .box b2 0 (aI d), .box b3 0 (aI r4)], .one (.cell 8 84 rfl (i := 2) rfl bX (es := (aI r4)) rfl rfl), .refl _, .same _⟩

theorem aBf (e : List Int) (f : List Int) {r : Bool} (h : mU e f = some r) : Fn Tryz.prog 88 [.d (Z22 e), .d (Z22 f)] (.b r) := by
 unfold mU at h;refine oT [.tmp 4] func88 results88 ntmps88 ?_;refine aF (aC (ta Z21 (aE (aF (aF (aC (ta (.i 0) (aE (bH ?_)))))))));refine cB (S := Int) [0, 1] (fun s1 => [(5, .i s1)]) (fun s1 => []) (fun k s1 => iF e f k s1) (fun _ => rfl) (0) h (aS [] rfl rfl (aP rfl (aR ⟨rfl, rfl, trivial⟩))) ?_;rintro k2 a h;simp only [iF] at h;refine aF (aF (aC (tm (.i a) (tm (Z60 e) (to (sle rfl bP.of) (to (scm rfl rfl rfl) (tm (.b (decide (a < (e.length : Int)))) ?_)))))));obtain ⟨b3, h4, h⟩ := bns h;refine bG 5 [0, 1, 5] 15 b3 ?_ ?_
 ·refine bch h4 (fun c h4 => ?_) (fun c h4 => ?_)
  ·refine tk c (sm (.i a)) (tk c (sm (Z60 f)) (tk c (sle rfl bP.of) (tk c (scm rfl rfl rfl) (to (spt (.b (decide (a < (f.length : Int)))) c) ?_))));obtain rfl := sIn h4;refine aE (aV rfl ⟨rfl, rfl, rfl, trivial⟩ rfl)
  ·refine tp c (tp c (tp c (tp c (to (spf Z21 c) ?_))));obtain rfl := sIn h4;refine aE (aV rfl ⟨rfl, rfl, rfl, trivial⟩ rfl)
 ·refine aE ?_;refine tih h (fun c5 h => ?_) (fun c5 h => ?_)
  ·refine bA (aF (bH (aF ?_)));obtain ⟨x6, h7, h⟩ := bns h;obtain ⟨x8, h9, h⟩ := bns h;refine cI mix 8 [0, 1, 5] [(21, .i x6), (25, .i x8)] ?_ ?_
   ·refine ⟨[(18, 0, .d (Z22 e)), (19, 1, .i a), (20, 2, .cp [.j x6]), (21, 3, .i x6), (22, 4, .d (Z22 f)), (23, 5, .i a), (24, 6, .cp [.j x8]), (25, 7, .i x8)], ?_, ?_⟩
    · exact dk [0, 0, 102, 3, 0, 0, 506, 7] ⟨go (zm (Z60 e)),
 go (zm (.i a)),
 go (zix rfl rfl bP.of (bB aH h7)),
 go (zlc rfl aW),
 go (zm (Z60 f)),
 go (zm (.i a)),
 go (zix rfl rfl bP.of (bB aH h9)),
 go (zlc rfl aW), trivial⟩
    · exact bS (aP rfl (aP rfl (aR ⟨rfl, rfl, rfl, trivial⟩)))
   ·refine to (scm rfl rfl rfl) (aE ?_);refine tih h (fun g h => ?_) (fun g h => ?_)
    ·refine aF (aC (ta Z21 (aE ?_)));obtain rfl := sIn h;exact rt
    ·refine bZ ?_;refine aC (tm (.i a) (to (sar rfl rfl rfl) (ta (.i (w64 (a + 1))) (aE ?_))));exact ⟨(w64 (a + 1)), h, aS [] rfl rfl (aP rfl (aR ⟨rfl, rfl, trivial⟩))⟩
  ·refine bY ?_;refine .inl ⟨rfl, ?_⟩;simp only [nH] at h;refine aF (aC (tm (Z60 e) (to (sle rfl bP.of) (tm (Z60 f) (to (sle rfl bP.of) (to (scm rfl rfl rfl) (ta (.b (decide ((e.length : Int) = (f.length : Int)))) (aE ?_))))))));obtain rfl := sIn h;exact rt

theorem aDu (e : List aK) (c : aK) {r : (List aK)} {a : Value} (h : oR e c = some r) : dW Tryz.prog 57 [.d (.lit a), .agg (aI c)] [.arr a 84 4 (e.map aI)] (fun r' o' => ∃ w0 : Value, r' = .d (.lit w0) ∧ o' = [.arr w0 84 4 (r.map aI)]) := by
 unfold oR at h;refine jN func57 rfl (rs := [.tmp 4]) results57 ntmps57 (Nat.le_of_ble_eq_true rfl) ?_;refine aF (aC ?_);refine bE rfl (eB (v := .agg (aI c)) (aM rfl) rfl rfl rfl) ?_;rintro _ ⟨b1, rfl⟩;refine to (fQ 84 4 (.inl rfl) (aM rfl)) ?_;refine aE (aF (aF (aC (ta (.i 0) (aE (bH ?_))))));refine cB (S := Int) [0, 3] (fun s3 => [(5, .i s3)]) (fun s3 => [.arr a 84 4 (e.map aI), .box b1 0 (aI c)]) (fun k s3 => jK e c k s3) (fun _ => rfl) (0) h (aS [0, 1] rfl rfl (aP rfl (aR ⟨rfl, rfl, trivial⟩))) ?_;rintro k4 b h;simp only [jK] at h;refine aF (aF (aC (tm (.i b) (tm (Z64 a) (to (fJ (m := 0) (aM rfl) rfl rfl tF.of) ?_)))));refine to (scm rfl rfl rfl) (aE ?_);refine tih h (fun c5 h => ?_) (fun c5 h => ?_)
 ·refine bA (aF (bH (aF ?_)));obtain ⟨x6, h7, h⟩ := bns h;refine cI mix 7 [0, 3, 5] [(16, .d (.sl 1 (x6.In.map aH))), (18, .d (.sl 1 (Z12 c)))] ?_ ?_
  ·refine ⟨[(12, 0, .d (.lit a)), (13, 1, .i b), (14, 2, .ep a 4 b.toNat 0), (15, 3, .ep a 4 b.toNat 3), (16, 4, .d (.sl 1 (x6.In.map aH))), (17, 5, .bp b1 0 3), (18, 6, .d (.sl 1 (Z12 c)))], ?_, ?_⟩
   · exact dk [0, 0, 102, 3, 4, 0, 6] ⟨go (zm (Z64 a)),
 go (zm (.i b)),
 go (zia 0 rfl rfl rfl tF.of (bB aI h7)),
 go fun S hS => rQ (aM rfl) (aU hS rfl) kI,
 go fun S hS => jZ (aM rfl) (aU hS rfl) (m := 0) rfl (dV aI h7) rfl cE,
 go (zf rfl kI),
 go (zl 1 rfl rfl rfl cE), trivial⟩
   · exact bS (aP rfl (aP rfl (aR ⟨rfl, rfl, rfl, trivial⟩)))
  ·obtain ⟨r8, h9, h⟩ := bns h;refine to (scr call88 (aBf _ _ h9)) (aE ?_);refine tih h (fun j h => ?_) (fun j h => ?_)
   ·refine aF (aC (tm (Z64 a) (ta (Z64 a) (aE ?_))));obtain rfl := sIn h;exact bM ⟨rfl, _, [.arr a 84 4 (e.map aI)], [.box b1 0 (aI c)], _, .one (.tmp 4 (v := .d (.lit a)) rfl), .refl _, .same _, a, rfl, rfl⟩
   ·refine bZ ?_;refine aC (tm (.i b) (to (sar rfl rfl rfl) (ta (.i (w64 (b + 1))) (aE ?_))));exact ⟨(w64 (b + 1)), h, aS [0, 1] rfl rfl (aP rfl (aR ⟨rfl, rfl, trivial⟩))⟩
 ·refine bY ?_;refine .inl ⟨rfl, ?_⟩;simp only [sO] at h;refine aF (aC (tm (Z64 a) (to (sla 1 (aI c) rfl rfl bX) (to (dM (aM rfl) tF rfl rfl (rows := ([c]).map aI) rfl (aZ (f := aI) fun _ => rfl) rfl (by decide)) ?_))));obtain ⟨l, n, h⟩ := bns h;refine bE rfl (cO (i := 0) (aM rfl) tF rfl rfl rfl (fun _ => rfl) n rfl) ?_;rintro _ ⟨g, rfl⟩;refine ta (.d (.lit g)) (aE ?_);obtain rfl := sIn h;exact bM ⟨rfl, _, [.arr g 84 4 (l.map aI)], [.box b1 0 (aI c)], _, .one (.tmp 4 (v := .d (.lit g)) rfl), .refl _, .same _, g, rfl, rfl⟩

theorem aDt (m : aT) (N : List aO) (e : Int) (a : Int) {r : Int × Int} (h : jR m N e a = some r) : Fn Tryz.prog 29 [.agg (aQ m), .d (Z15 N), .i e, .i a] (Z59 r) := by
 unfold jR at h;refine oT [.tmp 8, .tmp 9] func29 results29 ntmps29 ?_;refine aF (aC ?_);refine bE rfl (eB (v := .agg (aQ m)) (aM rfl) rfl rfl rfl) ?_;rintro _ ⟨b1, rfl⟩;refine ta (.i 0) (ta (.i 0) (aE (aF (aF (aC (to (sla 0 (aQ m) rfl rfl fF) (tm (Z45 N) (tm (.i e) (tm (.i a) ?_)))))))));obtain ⟨r2, h3, h⟩ := bns h;refine to (scr call44 (tK _ _ _ _ h3)) (ta (.i r2) (aE (aF (aC (tm (.i r2) (to (scm rfl rfl rfl) (aE ?_)))))));refine tih h (fun c4 h => ?_) (fun c4 h => ?_)
 ·refine aF (aC (tm (.i r2) (ta (.i 0) (ta (.i r2) (aE ?_)))));obtain rfl := sIn h;refine bQ (bL (bR (l := [8, 9]) ⟨rfl, rfl, trivial⟩)) ?_;exact bM ⟨rfl, _, .two _ _, rfl, rfl⟩
 ·refine bA (aF (aC (to (sla 0 (aQ m) rfl rfl fF) (tm (Z45 N) (tm (.i e) ?_)))));obtain ⟨r5, h6, h⟩ := bns h;refine to (cJ (aM rfl) (.func _ _ call46) rfl rfl (tI _ _ _ h6)) ?_;refine to (dM (aM rfl) tF rfl rfl (rows := ([r5]).map aI) rfl (aZ (f := aI) fun _ => rfl) rfl (by decide)) ?_;refine ta (.d (.sl 4 (([r5]).map aI))) (aE (aF (aF ?_)));obtain ⟨x7, h8, h⟩ := bns h;obtain ⟨r9, W, h⟩ := bns h;obtain ⟨s, Y, h⟩ := bns h;refine cI mix 11 [2, 3, 4, 11] [(12, .i s.1), (42, .i s.2)] ?_ ?_
  ·refine ⟨[(34, 0, .agg (aQ m)), (35, 1, .d (.sl 4 (([r5]).map aI))), (36, 2, .cp [.sl 7 (x7.People.map aB), .sl 1 (x7.Wilds.map aH), .j x7.Back, .sl 1 (x7.In.map aH)]), (37, 3, .agg (aI x7)), (38, 4, .agg (fP r9)), (39, 5, .i a), (40, 6, .tup [.i s.1, .i s.2]), (33, 7, .tup [.i s.1, .i s.2]), (41, 8, .i s.1), (42, 9, .i s.2), (12, 10, .i s.1)], ?_, ?_⟩
   · exact dk [0, 0, 2, 3, 104, 0, 506, 7, 8, 8, 9] ⟨go (zla 0 (aQ m) rfl rfl fF),
 go (zm (.d (.sl 4 (([r5]).map aI)))),
 go (zix rfl rfl tF.of (bB aI h8)),
 go (aJi (aI x7) rfl bX),
 go fun S hS => cJ (aM rfl) (.func _ _ call45) (ev2 (aU hS rfl) (ev2 (aU hS rfl) evn)) rfl (vP _ _ W),
 go (zm (.i a)),
 go fun S hS => kU (aM rfl) (.func _ _ call47) (ev2 (aU hS rfl) (ev2 (aU hS rfl) evn)) rfl (BVs.refl _ _) (xL _ _ Y) rfl,
 go (zm (.tup [.i s.1, .i s.2])),
 go (zex rfl rfl),
 go (zex rfl rfl),
 go (za (.i s.1)), trivial⟩
   · exact bS (aP rfl (aP rfl (aR ⟨rfl, rfl, rfl, rfl, trivial⟩)))
  ·refine ta (.i s.2) (aE (aF (aC (tm (.i s.1) (to (scm rfl rfl rfl) (tm (.b (!decide (s.1 = 1))) ?_))))));obtain ⟨Z, M, h⟩ := bns h;refine bG 3 [2, 3, 4, 11] 48 Z ?_ ?_
   ·refine bch M (fun F M => ?_) (fun F M => ?_)
    ·refine tk F (sm (.i s.1)) (tk F (scm rfl rfl rfl) (to (spt (.b (!decide (s.1 = 3))) F) ?_));obtain rfl := sIn M;refine aE (aV rfl ⟨rfl, rfl, rfl, rfl, trivial⟩ rfl)
    ·refine tp F (tp F (to (spf Z21 F) ?_));obtain rfl := sIn M;refine aE (aV rfl ⟨rfl, rfl, rfl, rfl, trivial⟩ rfl)
   ·refine aE ?_;refine tih h (fun a0 h => ?_) (fun a0 h => ?_)
    ·refine aF (aC (ta (.i 0) (ta (.i 3) (aE ?_))));obtain rfl := sIn h;refine bQ (bL (bR (l := [8, 9]) ⟨rfl, rfl, trivial⟩)) ?_;exact bM ⟨rfl, _, .two _ _, rfl, rfl⟩
    ·refine bA (aF (aF (aC (ta (.i 0) (aE (bH ?_))))));refine cB (S := (List aK) × Int) [2, 3, 4] (fun J => [(11, .d (.sl 4 (J.1.map aI))), (14, .i J.2)]) (fun J => [.box b1 0 (aQ m)]) (fun k J => cQ e a m k J.1 J.2) (fun _ => rfl) ([r5], 0) h (aS [0] rfl rfl (aP rfl (aP rfl (aR ⟨rfl, rfl, rfl, trivial⟩)))) ?_;rintro G ⟨c, n⟩ h;simp only [cQ] at h;refine aF (aF (aC (tm (.d (.sl 4 (c.map aI))) (to (sle rfl tF.of) (to (scm rfl rfl rfl) (aE ?_))))));refine tih h (fun a1 h => ?_) (fun a1 h => ?_)
     ·refine bA (aF (bH (aF (aC (to (fQ 84 4 (.inl rfl) (aM rfl)) ?_)))));refine aE (aF (aF (aC (ta (.i 0) (aE (bH ?_))))));refine cB (S := Int × (List aK) × Value) [2, 3, 4, 11, 14] (fun A => [(15, .d (.lit A.2.2)), (16, .i A.1)]) (fun A => [.box b1 0 (aQ m), .arr A.2.2 84 4 (A.2.1.map aI)]) (fun k A => dR (cQ e a m G) e a c n m k A.1 A.2.1) (fun _ => rfl) (0, ([] : List aK), (.slice none 0 0)) h (aS [0, 1] rfl rfl (aP rfl (aP rfl (aR ⟨rfl, rfl, rfl, rfl, rfl, trivial⟩)))) ?_;rintro P ⟨g, o, O⟩ h;simp only [dR] at h;refine aF (aF (aC (tm (.i g) (tm (.d (.sl 4 (c.map aI))) (to (sle rfl tF.of) (to (scm rfl rfl rfl) (aE ?_)))))));refine tih h (fun a2 h => ?_) (fun a2 h => ?_)
      ·refine bA (aF (bH (aF (aF (aC (tm (.d (.sl 4 (c.map aI))) (tm (.i g) ?_)))))));obtain ⟨a3, a4, h⟩ := bns h;refine to (six rfl rfl tF.of (bB aI a4)) (to (sfc [.sl 1 (a3.In.map aH)] rfl kI) (to (slc rfl cE) (tm (.i a) ?_)));obtain ⟨c6, a5, h⟩ := bns h;refine to (scr call55 (fI _ _ a5)) (aE ?_);refine tih h (fun a6 h => ?_) (fun a6 h => ?_)
       ·refine aF (aC (tm (.i n) (ta (.i n) (ta (.i 0) (aE ?_)))));obtain rfl := sIn h;refine bQ (bL (bR (l := [8, 9]) ⟨rfl, rfl, trivial⟩)) ?_;exact bM ⟨rfl, _, .two _ _, rfl, rfl⟩
       ·refine bA (aF (aC (ta (.i 0) (aE ?_))));refine vH ?_;refine cB (S := Int × (List aK) × Value) [2, 3, 4, 11, 14, 16] (fun B => [(15, .d (.lit B.2.2)), (17, .i B.1)]) (fun B => [.box b1 0 (aQ m), .arr B.2.2 84 4 (B.2.1.map aI)]) (fun k B => dE (cQ e a m G) (dR (cQ e a m G) e a c n m P) e a c n g m k B.1 B.2.1) (fun _ => rfl) (0, o, O) h (aS [0, 1] rfl rfl (aP rfl (aP rfl (aR ⟨rfl, rfl, rfl, rfl, rfl, rfl, trivial⟩)))) ?_;rintro a7 ⟨j, z, T⟩ h;simp only [dE] at h;refine aF (aF (aC (tm (.i j) (to (scm rfl rfl rfl) (aE ?_)))));refine tih h (fun a8 h => ?_) (fun a8 h => ?_)
        ·refine bA (aF (bH (aF (aC (ta (.i 0) (aE ?_))))));refine vH ?_;refine cB (S := Int × (List aK) × Value) [2, 3, 4, 11, 14, 16, 17] (fun C => [(15, .d (.lit C.2.2)), (18, .i C.1)]) (fun C => [.box b1 0 (aQ m), .arr C.2.2 84 4 (C.2.1.map aI)]) (fun k C => eW (cQ e a m G) (dR (cQ e a m G) e a c n m P) (dE (cQ e a m G) (dR (cQ e a m G) e a c n m P) e a c n g m a7) e a c n g j m k C.1 C.2.1) (fun _ => rfl) (0, z, T) h (aS [0, 1] rfl rfl (aP rfl (aP rfl (aR ⟨rfl, rfl, rfl, rfl, rfl, rfl, rfl, trivial⟩)))) ?_;rintro c7 ⟨t, q, E⟩ h;simp only [eW] at h;refine aF (aF (aC (tm (.i t) (tm (.d (.sl 4 (c.map aI))) (tm (.i g) ?_)))));obtain ⟨a9, b0, h⟩ := bns h;refine to (six rfl rfl tF.of (bB aI b0)) (to (sfc [.sl 1 (a9.In.map aH)] rfl kI) (to (slc rfl cE) (to (sle rfl bP.of) (to (scm rfl rfl rfl) (aE ?_)))));refine tih h (fun b2 h => ?_) (fun b2 h => ?_)
         ·refine bA (aF (bH (aF ?_)));obtain ⟨H, b3, h⟩ := bns h;obtain ⟨K, b4, h⟩ := bns h;obtain ⟨I, b5, h⟩ := bns h;obtain ⟨U, b6, h⟩ := bns h;obtain ⟨b7, b8, h⟩ := bns h;obtain ⟨u, b9, h⟩ := bns h;refine eD mix 21 [2, 3, 4, 11, 14, 15, 16, 17, 18] (fun y => [(19, .bp (y 20).b 0 0), (101, .agg (aB u))]) (fun y => [.box b1 0 (aQ m), .arr E 84 4 (q.map aI), .box (y 20).b 0 Z61]) ?_ ?_
          ·refine ⟨1, fun y => [(82, 0, .d (.sl 4 (c.map aI))), (83, 1, .i g), (84, 2, .cp [.sl 7 (H.People.map aB), .sl 1 (H.Wilds.map aH), .j H.Back, .sl 1 (H.In.map aH)]), (85, 3, .cp [.sl 7 (H.People.map aB)]), (86, 4, .d (.sl 7 (H.People.map aB))), (87, 5, .d (.sl 4 (c.map aI))), (88, 6, .i g), (89, 7, .cp [.sl 7 (K.People.map aB), .sl 1 (K.Wilds.map aH), .j K.Back, .sl 1 (K.In.map aH)]), (90, 8, .agg (aI K)), (91, 9, .d (.sl 4 (c.map aI))), (92, 10, .i g), (93, 11, .cp [.sl 7 (I.People.map aB), .sl 1 (I.Wilds.map aH), .j I.Back, .sl 1 (I.In.map aH)]), (94, 12, .cp [.sl 1 (I.In.map aH)]), (95, 13, .d (.sl 1 (I.In.map aH))), (96, 14, .i t), (97, 15, .cp [.j U]), (98, 16, .i U), (99, 17, .i b7), (100, 18, .cp [.j u.Player, .j u.Rank, .k u.Guard, .k u.Entered, .k u.Quit, .k u.Signed, .k u.Card]), (101, 19, .agg (aB u)), (19, 20, .bp (y 20).b 0 0)], fun y => [([], .box b1 0 (aQ m)), ([], .arr E 84 4 (q.map aI)), ([(20, .box (y 20).b 0 Z61)], nob)], ?_, ?_⟩
           · exact xok [(0, 0), (0, 0), (102, 0), (3, 0), (4, 0), (0, 0), (0, 0), (607, 0), (8, 0), (0, 0), (0, 0), (1011, 0), (12, 0), (13, 0), (0, 0), (1415, 0), (16, 0), (917, 0), (518, 0), (19, 0), (0, 0)] ⟨fun _ _ w _ k => xp w (ym k (.d (.sl 4 (c.map aI)))),
 fun _ _ w _ k => xp w (ym k (.i g)),
 fun _ _ w _ k => xp w (yix k rfl rfl tF.of (bB aI b3)),
 fun _ _ w _ k => xp w (yfc k [.sl 7 (H.People.map aB)] rfl cV),
 fun _ _ w _ k => xp w (ylc k rfl eR),
 fun _ _ w _ k => xp w (ym k (.d (.sl 4 (c.map aI)))),
 fun _ _ w _ k => xp w (ym k (.i g)),
 fun _ _ w _ k => xp w (yix k rfl rfl tF.of (bB aI b4)),
 fun _ _ w _ k => xp w (aZf k (aI K) rfl bX),
 fun _ _ w _ k => xp w (ym k (.d (.sl 4 (c.map aI)))),
 fun _ _ w _ k => xp w (ym k (.i g)),
 fun _ _ w _ k => xp w (yix k rfl rfl tF.of (bB aI b5)),
 fun _ _ w _ k => xp w (yfc k [.sl 1 (I.In.map aH)] rfl kI),
 fun _ _ w _ k => xp w (ylc k rfl cE),
 fun _ _ w _ k => xp w (ym k (.i t)),
 fun _ _ w _ k => xp w (yix k rfl rfl bP.of (bB aH b6)),
 fun _ _ w _ k => xp w (ylc k rfl aW),
 fun _ _ w _ k => xp w (kU (aM rfl) (.func _ _ call56) (ev2 (aU k rfl) (ev2 (aU k rfl) evn)) rfl (BVs.refl _ _) (aAg _ _ b8) rfl),
 fun _ _ w _ k => xp w (yix k rfl rfl cC.of (bB aB b9)),
 fun _ _ w _ k => xp w (aZf k (aB u) rfl gS),
 fun y S hw hi hS => eY (X := y) (p := 2) (v := fun x => .bp x.b 0 0) (mo := fun x => .box x.b 0 Z61) hS hi rfl rfl (fun _ => rfl) hw (fun _ => rfl) (fun _ => rfl) (fun _ => rfl) (fun _ => ⟨rfl, rfl, .inr rfl, ⟨rfl, rfl, .inr rfl, ⟨rfl, rfl, .inr rfl, ⟨rfl, rfl, .inr rfl, ⟨rfl, rfl, .inr rfl, ⟨rfl, rfl, .inr rfl, ⟨rfl, rfl, .inr rfl, ⟨rfl, rfl, .inr rfl, ⟨rfl, rfl, .inr rfl, ⟨rfl, rfl, .inr rfl, ⟨rfl, rfl, .inr rfl, ⟨rfl, rfl, .inr rfl, ⟨rfl, rfl, .inr rfl, ⟨rfl, rfl, .inr rfl, ⟨rfl, rfl, .inr rfl, ⟨rfl, rfl, .inr rfl, ⟨rfl, rfl, .inr rfl, ⟨rfl, rfl, .inr rfl, ⟨rfl, rfl, .inr rfl, ⟨rfl, rfl, .inr rfl, ⟨rfl, rfl, .inl rfl, trivial⟩⟩⟩⟩⟩⟩⟩⟩⟩⟩⟩⟩⟩⟩⟩⟩⟩⟩⟩⟩⟩) (fun _ => ⟨trivial, rfl, ⟨trivial, rfl, ⟨⟨rfl, .inl rfl, trivial⟩, rfl, trivial⟩⟩⟩) (cX (dI (zs := [.j 0, .j 0, .k false, .k false, .k false, .k false, .k false]) (aM rfl) zeroValue97 rfl rfl) (by rintro _ ⟨w, rfl⟩; exact ⟨⟨w, undef⟩, aS [0, 1, 3] rfl rfl (le_refl _)⟩)), trivial⟩
           · exact fun y => bS (aP rfl (aP rfl (aR ⟨rfl, rfl, rfl, rfl, rfl, rfl, rfl, rfl, rfl, trivial⟩)))
          ·intro y;refine to (sst 2 rfl rfl sizeOf97 (aB u)) (aE (aF (aC (tfl 2 rfl rfl oX rfl dN (tm (.i j) (to (scm rfl rfl rfl) (to (aZp (aM rfl) rfl rfl underlying4) ?_)))))));refine aE ?_;refine tih h (fun c0 h => ?_) (fun c0 h => ?_)
           ·refine aF ?_;obtain ⟨L, c1, h⟩ := bns h;obtain ⟨Q, c2, h⟩ := bns h;refine cI mix 10 [2, 3, 4, 11, 14, 16, 17] [(107, .d (.lit E)), (116, .agg (aI Q))] ?_ ?_
            ·refine ⟨[(107, 0, .d (.lit E)), (108, 1, .agg (aQ m)), (109, 2, .d (.sl 4 (c.map aI))), (110, 3, .i g), (111, 4, .cp [.sl 7 (L.People.map aB), .sl 1 (L.Wilds.map aH), .j L.Back, .sl 1 (L.In.map aH)]), (112, 5, .agg (aI L)), (113, 6, .i e), (114, 7, .bp (y 20).b 0 0), (115, 8, .i u.Player), (116, 9, .agg (aI Q))], ?_, ?_⟩
             · exact dk [0, 0, 0, 0, 304, 5, 0, 0, 8, 2060709] ⟨go (zm (.d (.lit E))),
 go (zla 0 (aQ m) rfl rfl fF),
 go (zm (.d (.sl 4 (c.map aI)))),
 go (zm (.i g)),
 go (zix rfl rfl tF.of (bB aI c1)),
 go (aJi (aI L) rfl bX),
 go (zm (.i e)),
 go (zf rfl qI),
 go (zl 2 rfl rfl rfl aW),
 go fun S hS => cJ (aM rfl) (.func _ _ call58) (ev2 (aU hS rfl) (ev2 (aU hS rfl) (ev2 (aU hS rfl) (ev2 (aU hS rfl) evn)))) rfl (aFr _ _ _ _ c2), trivial⟩
             · exact bS (aP rfl (aP rfl (aR ⟨rfl, rfl, rfl, rfl, rfl, rfl, rfl, trivial⟩)))
            ·obtain ⟨c3, c5, h⟩ := bns h;refine dF (aS [1, 0, 2] rfl rfl (le_refl _)) ?_;refine bE rfl (jQ (passed := [.arr E 84 4 (q.map aI)]) (aM rfl) rfl (.func _ _ call57) rfl rfl (aDu q Q c5)) ?_;rintro _ ⟨_, _, ⟨V, rfl, rfl⟩, rfl⟩;refine ta (.d (.lit V)) (aE ?_);refine bY ?_;refine .inr ⟨by decide, ?_⟩;refine .inl ⟨rfl, ?_⟩;simp only [kN] at h;simp only [mP] at h;refine aC (tm (.i j) (to (sar rfl rfl rfl) (ta (.i (w64 (j + 1))) (aE ?_))));exact ⟨(w64 (j + 1), c3, V), h, aS [1, 0] rfl rfl (aP rfl (aP rfl (aR ⟨rfl, rfl, rfl, rfl, rfl, rfl, trivial⟩)))⟩
           ·refine bZ ?_;refine aC (tm (.i t) (to (sar rfl rfl rfl) (ta (.i (w64 (t + 1))) (aE ?_))));exact ⟨(w64 (t + 1), q, E), h, aS [0, 1] rfl rfl (aP rfl (aP rfl (aR ⟨rfl, rfl, rfl, rfl, rfl, rfl, rfl, trivial⟩)))⟩
         ·refine bY ?_;refine .inl ⟨rfl, ?_⟩;simp only [kN] at h;simp only [mP] at h;refine aC (tm (.i j) (to (sar rfl rfl rfl) (ta (.i (w64 (j + 1))) (aE ?_))));exact ⟨(w64 (j + 1), q, E), h, aS [0, 1] rfl rfl (aP rfl (aP rfl (aR ⟨rfl, rfl, rfl, rfl, rfl, rfl, trivial⟩)))⟩
        ·refine bY ?_;refine .inl ⟨rfl, ?_⟩;simp only [wF] at h;simp only [wE] at h;refine aC (tm (.i g) (to (sar rfl rfl rfl) (ta (.i (w64 (g + 1))) (aE ?_))));exact ⟨(w64 (g + 1), z, T), h, aS [0, 1] rfl rfl (aP rfl (aP rfl (aR ⟨rfl, rfl, rfl, rfl, rfl, trivial⟩)))⟩
      ·refine bY ?_;refine .inl ⟨rfl, ?_⟩;simp only [sN] at h;refine aC (tm (.d (.lit O)) (ta (.d (.lit O)) ?_));refine cG ?_;simp only [sM] at h;refine aC (tm (.i n) (to (sar rfl rfl rfl) (ta (.i (w64 (n + 1))) (aE ?_))));exact ⟨(o, w64 (n + 1)), h, (uE [.box b1 0 (aQ m)] [.arr O 84 4 (o.map aI)] rfl (cZ (k := 118) (v := .d (.sl 4 (o.map aI))) (.d (bI 0 rfl (aZ (f := aI) fun _ => rfl))) (cZ (k := 15) (v := .d (.sl 4 (o.map aI))) (.d (bI 0 rfl (aZ (f := aI) fun _ => rfl))) (cZ (k := 11) (v := .d (.sl 4 (o.map aI))) (.d (bI 0 rfl (aZ (f := aI) fun _ => rfl))) (fU _ _))))).trans (aS [0] rfl rfl (aP rfl (aP rfl (aR ⟨rfl, rfl, rfl, trivial⟩))))⟩
     ·refine bY ?_;refine .inl ⟨rfl, ?_⟩;simp only [wD] at h;refine aF (aC (ta (.i 0) (ta (.i 3) (aE ?_))));obtain rfl := sIn h;refine bQ (bL (bR (l := [8, 9]) ⟨rfl, rfl, trivial⟩)) ?_;exact bM ⟨rfl, _, .two _ _, rfl, rfl⟩

theorem aFs (f : aT) (j : List aO) (a : Int) {r : Int × Int} (h : kK f j a = some r) : Fn Tryz.prog 30 (Z68 f j a) (Z59 r) := by
 unfold kK at h;refine oT [.tmp 6, .tmp 7] func30 results30 ntmps30 ?_;refine aF (aC ?_);refine bE rfl (eB (v := .agg (aQ f)) (aM rfl) rfl rfl rfl) ?_;rintro _ ⟨b1, rfl⟩;refine ta (.i 0) (ta (.i 0) (aE (aF (aF (aC (to (sla 0 (aQ f) rfl rfl fF) (tm (Z45 j) (tm (.i a) ?_))))))));obtain ⟨r2, h3, h⟩ := bns h;refine to (scr call44 (tK _ _ _ _ h3)) (ta (.i r2) (aE (aF (aC (tm (.i r2) (to (scm rfl rfl rfl) (aE ?_)))))));refine tih h (fun c4 h => ?_) (fun c4 h => ?_)
 ·refine aF (aC (tm (.i r2) (ta (.i 0) (ta (.i r2) (aE ?_)))));obtain rfl := sIn h;refine bQ (bL (bR (l := [6, 7]) ⟨rfl, rfl, trivial⟩)) ?_;exact bM ⟨rfl, _, .two _ _, rfl, rfl⟩
 ·refine bA (aF (aC (tm (Z45 j) ?_)));obtain ⟨r5, h6, h⟩ := bns h;refine to (cJ (aM rfl) (.func _ _ call59) rfl rfl (xM _ h6)) ?_;refine ta (.d (.sl 5 (r5.map aJ))) (aE (aF (aF (aC (ta (.i 0) (aE (bH ?_)))))));refine cB (S := Int) [1, 2, 3, 9] (fun s7 => [(10, .i s7)]) (fun s7 => [.box b1 0 (aQ f)]) (fun k s7 => iY j a r5 f k s7) (fun _ => rfl) (0) h (aS [0] rfl rfl (aP rfl (aR ⟨rfl, rfl, rfl, rfl, trivial⟩))) ?_;rintro k8 e h;simp only [iY] at h;refine aF (aF (aC (tm (.i e) (tm (.d (.sl 5 (r5.map aJ))) (to (sle rfl cU.of) (to (scm rfl rfl rfl) (aE ?_)))))));refine tih h (fun c9 h => ?_) (fun c9 h => ?_)
  ·refine bA (aF (bH (aF ?_)));obtain ⟨g, p, h⟩ := bns h;obtain ⟨q, s, h⟩ := bns h;obtain ⟨t, u, h⟩ := bns h;obtain ⟨c, w, h⟩ := bns h;refine cI mix 16 [1, 2, 3, 9, 10] [(11, .i c.1), (42, .i c.2)] ?_ ?_
   ·refine ⟨[(29, 0, .agg (aQ f)), (30, 1, .agg (aQ f)), (31, 2, .d (Z15 j)), (32, 3, .d (.sl 5 (r5.map aJ))), (33, 4, .i e), (34, 5, .cp [.j g.Id, .j g.Hour, .j g.Kind, .j g.Player, .j g.Rank]), (35, 6, .cp [.j g.Hour]), (36, 7, .i g.Hour), (37, 8, .agg (aI q)), (38, 9, .agg (fP t)), (39, 10, .i a), (40, 11, .tup [.i c.1, .i c.2]), (28, 12, .tup [.i c.1, .i c.2]), (41, 13, .i c.1), (42, 14, .i c.2), (11, 15, .i c.1)], ?_, ?_⟩
    · exact dk [0, 0, 0, 0, 0, 405, 6, 7, 20308, 109, 0, 1011, 12, 13, 13, 14] ⟨go (zla 0 (aQ f) rfl rfl fF),
 go (zla 0 (aQ f) rfl rfl fF),
 go (zm (Z45 j)),
 go (zm (.d (.sl 5 (r5.map aJ)))),
 go (zm (.i e)),
 go (zix rfl rfl cU.of (bB aJ p)),
 go (zfc [.j g.Hour] rfl cL),
 go (zlc rfl aW),
 go fun S hS => cJ (aM rfl) (.func _ _ call46) (ev2 (aU hS rfl) (ev2 (aU hS rfl) (ev2 (aU hS rfl) evn))) rfl (tI _ _ _ s),
 go fun S hS => cJ (aM rfl) (.func _ _ call45) (ev2 (aU hS rfl) (ev2 (aU hS rfl) evn)) rfl (vP _ _ u),
 go (zm (.i a)),
 go fun S hS => kU (aM rfl) (.func _ _ call47) (ev2 (aU hS rfl) (ev2 (aU hS rfl) evn)) rfl (BVs.refl _ _) (xL _ _ w) rfl,
 go (zm (.tup [.i c.1, .i c.2])),
 go (zex rfl rfl),
 go (zex rfl rfl),
 go (za (.i c.1)), trivial⟩
    · exact bS (aP rfl (aP rfl (aR ⟨rfl, rfl, rfl, rfl, rfl, trivial⟩)))
   ·refine ta (.i c.2) (aE (aF (aC (tm (.i c.1) (to (scm rfl rfl rfl) (tm (.b (decide (c.1 = 1))) ?_))))));obtain ⟨x, n, h⟩ := bns h;refine bG 3 [1, 2, 3, 9, 10] 48 x ?_ ?_
    ·refine bch n (fun m n => ?_) (fun m n => ?_)
     ·refine tp m (tp m (to (spt Z48 m) ?_));obtain rfl := sIn n;refine aE (aV rfl ⟨rfl, rfl, rfl, rfl, rfl, trivial⟩ rfl)
     ·refine tk m (sm (.i c.1)) (tk m (scm rfl rfl rfl) (to (spf (.b (decide (c.1 = 2))) m) ?_));obtain rfl := sIn n;refine aE (aV rfl ⟨rfl, rfl, rfl, rfl, rfl, trivial⟩ rfl)
    ·refine aE ?_;refine tih h (fun y h => ?_) (fun y h => ?_)
     ·refine aF (aC (tm (.d (.sl 5 (r5.map aJ))) (tm (.i e) ?_)));obtain ⟨o, z, h⟩ := bns h;refine to (six rfl rfl cU.of (bB aJ z)) (to (sfc [.j o.Hour] rfl cL) (to (slc rfl aW) (ta (.i o.Hour) (ta (.i 0) (aE ?_)))));obtain rfl := sIn h;refine bQ (bL (bR (l := [6, 7]) ⟨rfl, rfl, trivial⟩)) ?_;exact bM ⟨rfl, _, .two _ _, rfl, rfl⟩
     ·refine bZ ?_;refine aC (tm (.i e) (to (sar rfl rfl rfl) (ta (.i (w64 (e + 1))) (aE ?_))));exact ⟨(w64 (e + 1)), h, aS [0] rfl rfl (aP rfl (aR ⟨rfl, rfl, rfl, rfl, trivial⟩))⟩
  ·refine bY ?_;refine .inl ⟨rfl, ?_⟩;simp only [tJ] at h;refine aF (aC (ta (.i 0) (ta (.i 3) (aE ?_))));obtain rfl := sIn h;refine bQ (bL (bR (l := [6, 7]) ⟨rfl, rfl, trivial⟩)) ?_;exact bM ⟨rfl, _, .two _ _, rfl, rfl⟩

theorem aAw (a : aT) (m : List aO) (C : pP) {r : Bool} (h : oG a m C = some r) : Fn Tryz.prog 10 [.agg (aQ a), .d (Z15 m), .agg (tM C)] (.b r) := by
 unfold oG at h;refine oT [.tmp 6] func10 results10 ntmps10 ?_;refine aF (aC ?_);refine bE rfl (eB (v := .agg (aQ a)) (aM rfl) rfl rfl rfl) ?_;rintro _ ⟨b1, rfl⟩;refine bE rfl (eB (v := .agg (tM C)) (aM rfl) rfl rfl rfl) ?_;rintro _ ⟨b2, rfl⟩;refine ta Z21 (aE (aF (aF (aC (tm (Z45 m) ?_)))));obtain ⟨r3, h4, h⟩ := bns h;refine to (scr call20 (aGp _ h4)) (aE ?_);refine tih h (fun c5 h => ?_) (fun c5 h => ?_)
 ·refine aF (aC ?_);obtain ⟨r6, h7, h⟩ := bns h;refine to (scr call13 (xK h7)) (ta (.b r6) (aE ?_));obtain rfl := sIn h;refine bQ (bL (bR (l := [6]) ⟨rfl, trivial⟩)) ?_;exact rt
 ·refine bA (aF (aC (to (aVm (aM rfl) cU rfl rfl (rows := (([] : List aO)).map aJ) rfl (aZ (f := aJ) fun _ => rfl) rfl (by decide)) ?_)));refine tm (Z45 m) ?_;obtain ⟨x8, h9, h⟩ := bns h;refine to (oD (.d (.weak _ _)) (aSy (nn := true) (f := aJ) (xs := ([] : List aO)) (ys := m) (aM rfl) cU rfl rfl (fun _ => rfl) h9 rfl)) ?_;refine ta (.d (.sl 5 (x8.map aJ))) (aE (aF (aC (to (sla 0 (aQ a) rfl rfl fF) (tm (.d (.sl 5 (x8.map aJ))) (tfl 1 rfl rfl aCd rfl aW ?_))))));obtain ⟨n, K, h⟩ := bns h;refine to (scr call27 (aOh _ _ _ K)) (tm (.tup [.i n.1, .i n.2]) (to (sex rfl rfl) (to (sex rfl rfl) (ta (.i n.1) (ta (.i n.2) (aE (aF (aC (to (sla 0 (aQ a) rfl rfl fF) (tm (Z45 m) (tfl 1 rfl rfl aCd rfl aW ?_)))))))))));obtain ⟨o, L, h⟩ := bns h;refine to (scr call28 (aGq _ _ _ L)) (tm (.tup [.i o.1, .i o.2]) (to (sex rfl rfl) (to (sex rfl rfl) (ta (.i o.1) (ta (.i o.2) (aE (aF (aC (to (sla 0 (aQ a) rfl rfl fF) (tm (.d (.sl 5 (x8.map aJ))) (tfl 1 rfl rfl aCd rfl aW (to (sf rfl aCe) ?_))))))))))));refine to (sl 1 rfl rfl rfl aW) ?_;obtain ⟨p, M, h⟩ := bns h;refine to (scr call18 (aDb _ _ _ _ M)) (tm (.tup [.i p.1, .i p.2]) (to (sex rfl rfl) (to (sex rfl rfl) (ta (.i p.1) (ta (.i p.2) (aE (aF (aC (to (sla 0 (aQ a) rfl rfl fF) (tm (Z45 m) (tfl 1 rfl rfl aCd rfl aW (to (sf rfl aCe) ?_))))))))))));refine to (sl 1 rfl rfl rfl aW) ?_;obtain ⟨q, N, h⟩ := bns h;refine to (scr call29 (aDt _ _ _ _ N)) (tm (.tup [.i q.1, .i q.2]) (to (sex rfl rfl) (to (sex rfl rfl) (ta (.i q.1) (ta (.i q.2) (aE (aF (aC (to (sla 0 (aQ a) rfl rfl fF) (tm (.d (.sl 5 (x8.map aJ))) (tfl 1 rfl rfl aCe rfl aW ?_)))))))))));obtain ⟨s, O, h⟩ := bns h;refine to (scr call26 (aDy _ _ _ O)) (tm (.tup [.i s.1, .i s.2]) (to (sex rfl rfl) (to (sex rfl rfl) (ta (.i s.1) (ta (.i s.2) (aE (aF (aC (to (sla 0 (aQ a) rfl rfl fF) (tm (Z45 m) (tfl 1 rfl rfl aCe rfl aW ?_)))))))))));obtain ⟨t, P, h⟩ := bns h;refine to (scr call30 (aFs _ _ _ P)) (tm (.tup [.i t.1, .i t.2]) (to (sex rfl rfl) (to (sex rfl rfl) (ta (.i t.1) (ta (.i t.2) (aE (aF (aC (tm (.i n.1) (tm (.i o.1) (to (scm rfl rfl rfl) (tm (.b (decide (n.1 = o.1))) ?_))))))))))));obtain ⟨E, w, h⟩ := bns h;refine bG 4 [12, 13, 14, 15, 16, 17, 18, 19] 85 E ?_ ?_
  ·refine bch w (fun c w => ?_) (fun c w => ?_)
   ·refine tk c (sm (.i n.2)) (tk c (sm (.i o.2)) (tk c (scm rfl rfl rfl) (to (spt (.b (decide (n.2 = o.2))) c) ?_)));obtain rfl := sIn w;refine aE (aV rfl ⟨rfl, rfl, rfl, rfl, rfl, rfl, rfl, rfl, trivial⟩ rfl)
   ·refine tp c (tp c (tp c (to (spf Z21 c) ?_)));obtain rfl := sIn w;refine aE (aV rfl ⟨rfl, rfl, rfl, rfl, rfl, rfl, rfl, rfl, trivial⟩ rfl)
  ·refine tm (.b E) ?_;obtain ⟨F, x, h⟩ := bns h;refine bG 4 [13, 15, 16, 17, 18, 19] 90 F ?_ ?_
   ·refine bch x (fun e x => ?_) (fun e x => ?_)
    ·refine tk e (sm (.i p.1)) (tk e (sm (.i q.1)) (tk e (scm rfl rfl rfl) (to (spt (.b (decide (p.1 = q.1))) e) ?_)));obtain rfl := sIn x;refine aE (aV rfl ⟨rfl, rfl, rfl, rfl, rfl, rfl, trivial⟩ rfl)
    ·refine tp e (tp e (tp e (to (spf Z21 e) ?_)));obtain rfl := sIn x;refine aE (aV rfl ⟨rfl, rfl, rfl, rfl, rfl, rfl, trivial⟩ rfl)
   ·refine tm (.b F) ?_;obtain ⟨G, y, h⟩ := bns h;refine bG 4 [16, 17, 18, 19] 95 G ?_ ?_
    ·refine bch y (fun g y => ?_) (fun g y => ?_)
     ·refine tk g (sm (.i p.2)) (tk g (sm (.i q.2)) (tk g (scm rfl rfl rfl) (to (spt (.b (decide (p.2 = q.2))) g) ?_)));obtain rfl := sIn y;refine aE (aV rfl ⟨rfl, rfl, rfl, rfl, trivial⟩ rfl)
     ·refine tp g (tp g (tp g (to (spf Z21 g) ?_)));obtain rfl := sIn y;refine aE (aV rfl ⟨rfl, rfl, rfl, rfl, trivial⟩ rfl)
    ·refine tm (.b G) ?_;obtain ⟨H, z, h⟩ := bns h;refine bG 4 [17, 19] 100 H ?_ ?_
     ·refine bch z (fun j z => ?_) (fun j z => ?_)
      ·refine tk j (sm (.i s.1)) (tk j (sm (.i t.1)) (tk j (scm rfl rfl rfl) (to (spt (.b (decide (s.1 = t.1))) j) ?_)));obtain rfl := sIn z;refine aE (aV rfl ⟨rfl, rfl, trivial⟩ rfl)
      ·refine tp j (tp j (tp j (to (spf Z21 j) ?_)));obtain rfl := sIn z;refine aE (aV rfl ⟨rfl, rfl, trivial⟩ rfl)
     ·refine tm (.b H) ?_;obtain ⟨I, A, h⟩ := bns h;refine bG 4 [] 105 I ?_ ?_
      ·refine bch A (fun k A => ?_) (fun k A => ?_)
       ·refine tk k (sm (.i s.2)) (tk k (sm (.i t.2)) (tk k (scm rfl rfl rfl) (to (spt (.b (decide (s.2 = t.2))) k) ?_)));obtain rfl := sIn A;refine aE (aV rfl trivial rfl)
       ·refine tp k (tp k (tp k (to (spf Z21 k) ?_)));obtain rfl := sIn A;refine aE (aV rfl trivial rfl)
      ·refine tm (.b I) ?_;obtain ⟨J, u, h⟩ := bns h;refine bG 2 [] 108 J ?_ ?_
       ·refine bch u (fun B u => ?_) (fun B u => ?_)
        ·obtain ⟨Q, S, u⟩ := bns u;refine tk B (scr call13 (xK S)) (to (spt (.b Q) B) ?_);obtain rfl := sIn u;refine aE (aV rfl trivial rfl)
        ·refine tp B (to (spf Z21 B) ?_);obtain rfl := sIn u;refine aE (aV rfl trivial rfl)
       ·refine ta (.b J) (aE ?_);obtain rfl := sIn h;refine bQ (bL (bR (l := [6]) ⟨rfl, trivial⟩)) ?_;exact rt

end Go.Am
