/- The functions compute what the shallow ones say: printed by program. -/
import Derived.Test.YtiohgpipanopaaaGreatTopPooledSimP1
namespace Go.Am
open Go.Proofs
open Go.Proofs.Tryz
set_option maxRecDepth 100000
set_option maxHeartbeats 40000000

theorem xM (a : aP) (e : List aG) {Q : ((Option bJ) × Int) → Prop} (h : lH a e Q) : dP Tryz.prog 53 (Z37 a e) [] (fun r' o' => ∃ (r : (Option bJ) × Int), Q r ∧ r' = .tup [cR bF r.1, .i r.2] ∧ o' = []) := by
 unfold lH at h;refine iF func53 rfl (rs := [.tmp 4, .tmp 5]) results53 ntmps53 (Nat.le_of_ble_eq_true rfl) ?_;refine aC (aA ?_);refine bG rfl (cV (v := .agg (bI a)) (aE rfl) rfl rfl rfl) ?_;rintro _ ⟨b1, rfl⟩;refine ta (cR bF (none : Option bJ)) (ta (.i 0) (aB (aC (aC (aA (to (sla 0 (bI a) rfl rfl kD) ?_))))));obtain ⟨r2, h3, h⟩ := dT h;refine to (scr call111 (aNu _ h3)) (to (sn rfl) (aB ?_));refine tip h (fun c4 h => ?_) (fun c4 h => ?_)
 ·refine aC (aA (ta (cR bF (none : Option bJ)) (ta (.i 70) (aB ?_))));exact cD ⟨rfl, _, [], [.box b1 0 (bI a)], _, .two (.tmp 4 (v := cR bF (none : Option bJ)) rfl) (.tmp 5 (v := .i 70) rfl), .refl _, .same _, ((none : Option bJ), 70), h, rfl, rfl⟩
 ·refine aU (aC (aC (aA (tm (Z51 e) (to (sle rfl iT.of) (to (scm rfl rfl rfl) (tm (.b (decide (60 < (e.length : Int)))) ?_)))))));obtain ⟨b5, h6, h⟩ := dT h;refine aV 4 [1, 2] 18 b5 ?_ ?_
  ·refine bch h6 (fun c h6 => ?_) (fun c h6 => ?_)
   ·refine tp c (tp c (tp c (to (spt Z14 c) ?_)));obtain rfl := sIn h6;refine aB (aJ rfl (ae rfl) rfl)
   ·refine tk c (sm (Z51 e)) (tk c (aCm (aE rfl) rfl rfl) ?_);obtain ⟨f, g, h6⟩ := bns h6;refine tk c (sc call112 (aAo _ _ 113 [.cp [.j a.Rounds, .sl 1 (Z17 a)]] call113 (fun _ _ h6 => aNv _ _ h6) g) (.cons (.same _) (.cons (aMb (.cons (sF 0 rfl rfl (dvc (.same _) (dvc (.same _) dvn))) .nil)) .nil))) (to (spf (.b f) c) ?_);obtain rfl := sIn h6;refine aB (aJ rfl (ae rfl) rfl)
  ·refine aB ?_;refine tip h (fun c7 h => ?_) (fun c7 h => ?_)
   ·refine aC (aA (ta (cR bF (none : Option bJ)) (ta (.i 71) (aB ?_))));exact cD ⟨rfl, _, [], [.box b1 0 (bI a)], _, .two (.tmp 4 (v := cR bF (none : Option bJ)) rfl) (.tmp 5 (v := .i 71) rfl), .refl _, .same _, ((none : Option bJ), 71), h, rfl, rfl⟩
   ·refine aU (aC (aA (to (sla 0 (bI a) rfl rfl kD) (tm (Z51 e) ?_))));refine bG rfl (xQ (aE rfl) (.func _ _ call115) rfl rfl (aPa _ _ h)) ?_;rintro _ ⟨_, _, ⟨r8, h, rfl, rfl⟩, rfl⟩;refine tm (.tup [cR bF r8.1, .b r8.2]) (to (sex rfl rfl) (to (sex rfl rfl) (ta (cR bF r8.1) (ta (.b r8.2) (aB (aC (aC (aA (tm (.b r8.2) (to (sn rfl) (aB ?_)))))))))));refine tip h (fun c9 h => ?_) (fun c9 h => ?_)
    ·refine aC (aA (ta (cR bF (none : Option bJ)) (ta (.i 72) (aB ?_))));exact cD ⟨rfl, _, [], [.box b1 0 (bI a)], _, .two (.tmp 4 (v := cR bF (none : Option bJ)) rfl) (.tmp 5 (v := .i 72) rfl), .refl _, .same _, ((none : Option bJ), 72), h, rfl, rfl⟩
    ·refine aU (aC (aA (tm (cR bF r8.1) (ta (cR bF r8.1) (ta (.i 0) (aB ?_))))));exact cD ⟨rfl, _, [], [.box b1 0 (bI a)], _, .two (.tmp 4 (v := cR bF r8.1) rfl) (.tmp 5 (v := .i 0) rfl), .refl _, .same _, (r8.1, 0), h, rfl, rfl⟩

theorem aQx (b : aP) (c : List aG) {Q : (Int × Int) → Prop} (h : wH b c Q) : dP Tryz.prog 30 (Z37 b c) [] (fun r' o' => ∃ (r : Int × Int), Q r ∧ r' = .tup [.i r.1, .i r.2] ∧ o' = []) := by
 unfold wH at h;refine iF func30 rfl (rs := [.tmp 4, .tmp 5]) results30 ntmps30 (Nat.le_of_ble_eq_true rfl) ?_;refine aC (aA ?_);refine bG rfl (cV (v := .agg (bI b)) (aE rfl) rfl rfl rfl) ?_;rintro _ ⟨b1, rfl⟩;refine ta (.i 0) (ta (.i 0) (aB (aC (aA (to (sla 0 (bI b) rfl rfl kD) (tm (Z51 c) ?_))))));refine bG rfl (xQ (aE rfl) (.func _ _ call53) rfl rfl (xM _ _ h)) ?_;rintro _ ⟨_, _, ⟨r2, h, rfl, rfl⟩, rfl⟩;refine tm (.tup [cR bF r2.1, .i r2.2]) (to (sex rfl rfl) (to (sex rfl rfl) (ta (cR bF r2.1) (ta (.i r2.2) (aB (aC (aC (aA (tm (.i r2.2) (to (scm rfl rfl rfl) (aB ?_)))))))))));refine tip h (fun c3 h => ?_) (fun c3 h => ?_)
 ·refine aC (aA (tm (.i r2.2) (ta (.i 0) (ta (.i r2.2) (aB ?_)))));exact cD ⟨rfl, _, [], [.box b1 0 (bI b)], _, .two (.tmp 4 (v := .i 0) rfl) (.tmp 5 (v := .i r2.2) rfl), .refl _, .same _, (0, r2.2), h, rfl, rfl⟩
 ·refine aU (aC ?_);obtain ⟨x4, h5, h⟩ := dT h;obtain ⟨x6, h7, h⟩ := dT h;refine cI mix 12 [] [(23, .i (w64 ((x4.Tree.Slots.length : Int) - 1))), (28, .i ((((x6.won.map fun p : aD × Int => ((fun a : aD => Value.agg ((aL a).map bS).toArray) p.1, aF p.2))).length : Int)))] ?_ ?_
  ·refine ⟨[(17, 0, cR bF r2.1), (18, 1, .cp [.j x4.Tree.Rounds, .sl 1 (x4.Tree.Slots.map aF), .sl 1 (x4.players.map aF), .mp false (x4.won.map fun p : aD × Int => ((fun a : aD => Value.agg ((aL a).map bS).toArray) p.1, aF p.2))]), (19, 2, .cp [.j x4.Tree.Rounds, .sl 1 (x4.Tree.Slots.map aF)]), (20, 3, .cp [.sl 1 (x4.Tree.Slots.map aF)]), (21, 4, .d (.sl 1 (x4.Tree.Slots.map aF))), (22, 5, .i (x4.Tree.Slots.length : Int)), (23, 6, .i (w64 ((x4.Tree.Slots.length : Int) - 1))), (24, 7, cR bF r2.1), (25, 8, .cp [.j x6.Tree.Rounds, .sl 1 (x6.Tree.Slots.map aF), .sl 1 (x6.players.map aF), .mp false (x6.won.map fun p : aD × Int => ((fun a : aD => Value.agg ((aL a).map bS).toArray) p.1, aF p.2))]), (26, 9, .cp [.mp false (x6.won.map fun p : aD × Int => ((fun a : aD => Value.agg ((aL a).map bS).toArray) p.1, aF p.2))]), (27, 10, .d (.mp false (x6.won.map fun p : aD × Int => ((fun a : aD => Value.agg ((aL a).map bS).toArray) p.1, aF p.2)))), (28, 11, .i ((((x6.won.map fun p : aD × Int => ((fun a : aD => Value.agg ((aL a).map bS).toArray) p.1, aF p.2))).length : Int)))], ?_, ?_⟩
   · exact dk [0, 1, 2, 3, 4, 5, 6, 0, 8, 9, 10, 11] ⟨go (zm (cR bF r2.1)),
 go fun S hS => aBr (enc := bF) (aE rfl) (aX hS rfl) h5,
 go (zfc [.j x4.Tree.Rounds, .sl 1 (x4.Tree.Slots.map aF)] rfl zK),
 go (zfc [.sl 1 (x4.Tree.Slots.map aF)] rfl dW),
 go (zlc rfl cC),
 go (zle rfl bC.of),
 go (zar rfl rfl rfl),
 go (zm (cR bF r2.1)),
 go fun S hS => aBr (enc := bF) (aE rfl) (aX hS rfl) h7,
 go (zfc [.mp false (x6.won.map fun p : aD × Int => ((fun a : aD => Value.agg ((aL a).map bS).toArray) p.1, aF p.2))] rfl aCb),
 go (zlc rfl aHf),
 go fun S hS => aXd (aE rfl) underlying139 (aX hS rfl) rfl, trivial⟩
   · exact bT (aH rfl (aH rfl (aK trivial)))
  ·refine to (sar rfl rfl rfl) (ta (.i ((w64 ((w64 ((x4.Tree.Slots.length : Int) - 1)) - (((x6.won.map fun p : aD × Int => ((fun a : aD => Value.agg ((aL a).map bS).toArray) p.1, aF p.2))).length : Int))))) (ta (.i 0) (aB ?_)));exact cD ⟨rfl, _, [], [.box b1 0 (bI b)], _, .two (.tmp 4 (v := .i ((w64 ((w64 ((x4.Tree.Slots.length : Int) - 1)) - (((x6.won.map fun p : aD × Int => ((fun a : aD => Value.agg ((aL a).map bS).toArray) p.1, aF p.2))).length : Int))))) rfl) (.tmp 5 (v := .i 0) rfl), .refl _, .same _, (w64 ((w64 ((x4.Tree.Slots.length : Int) - 1)) - (((x6.won.map fun p : aD × Int => ((fun a : aD => Value.agg ((aL a).map bS).toArray) p.1, aF p.2))).length : Int)), 0), h, rfl, rfl⟩

theorem aQy (a0 : aP) (a1 : List aG) {r : Int × Int} (h : aBa a0 a1 = some r) : Fn Tryz.prog 30 (Z37 a0 a1) ((fun x : Int × Int => .tup [.i x.1, .i x.2]) r) := aIh (enc := fun x : Int × Int => .tup [.i x.1, .i x.2]) (aQx a0 a1 (aNs a0 a1 h (fun x => x = r) rfl))

theorem aGi (a : Int) {r : Int} (h : mR a = some r) : Fn Tryz.prog 13 [.i a] (.i r) := by
 unfold mR at h;refine oT [.tmp 2] func13 results13 ntmps13 ?_;refine aC (aA (ta (.i 0) (aB (aC (aC (aA (tm (.i a) (to (scm rfl rfl rfl) (aB ?_)))))))));refine tih h (fun c1 h => ?_) (fun c1 h => ?_)
 ·refine aC (aA (ta (.i 2) (aB ?_)));obtain rfl := sIn h;exact rt
 ·refine aU (aC (aA (ta (.i 3) (aB ?_))));obtain rfl := sIn h;exact rt

theorem aOx (a : aP) (b : List aG) {Q : Int → Prop} (h : uZ a b Q) : dP Tryz.prog 14 (Z37 a b) [] (fun r' o' => ∃ (r : Int), Q r ∧ r' = .i r ∧ o' = []) := by
 unfold uZ at h;refine iF func14 rfl (rs := [.tmp 4]) results14 ntmps14 (Nat.le_of_ble_eq_true rfl) ?_;refine aC (aA ?_);refine bG rfl (cV (v := .agg (bI a)) (aE rfl) rfl rfl rfl) ?_;rintro _ ⟨b1, rfl⟩;refine ta (.i 0) (aB (aC (aA (to (sla 0 (bI a) rfl rfl kD) (tm (Z51 b) ?_)))));refine bG rfl (xQ (aE rfl) (.func _ _ call53) rfl rfl (xM _ _ h)) ?_;rintro _ ⟨_, _, ⟨r2, h, rfl, rfl⟩, rfl⟩;refine tm (.tup [cR bF r2.1, .i r2.2]) (to (sex rfl rfl) (to (sex rfl rfl) (ta (cR bF r2.1) (ta (.i r2.2) (aB (aC (aA (tm (.i r2.2) (ta (.i r2.2) (aB ?_))))))))));exact cD ⟨rfl, _, [], [.box b1 0 (bI a)], _, .one (.tmp 4 (v := .i r2.2) rfl), .refl _, .same _, r2.2, h, rfl, rfl⟩

theorem aTb (g : aP) (j : List aG) (a : List Int) {Q : ((Option bJ) × (List Int) × Int) → Prop} (h : sX g j a Q) : dP Tryz.prog 54 [.agg (bI g), .d (Z12 j), .d (Z8 a)] [] (fun r' o' => ∃ (r : (Option bJ) × (List Int) × Int), Q r ∧ r' = .tup [cR bF r.1, .d (.sl 1 (r.2.1.map aF)), .i r.2.2] ∧ o' = []) := by
 unfold sX at h;refine iF func54 rfl (rs := [.tmp 6, .tmp 7, .tmp 8]) results54 ntmps54 (Nat.le_of_ble_eq_true rfl) ?_;refine aC (aA ?_);refine bG rfl (cV (v := .agg (bI g)) (aE rfl) rfl rfl rfl) ?_;rintro _ ⟨b1, rfl⟩;refine ta (cR bF (none : Option bJ)) (to (fX 3 1 (.inl rfl) (aE rfl)) ?_);refine ta (.i 0) (aB (aC (aA (to (sla 0 (bI g) rfl rfl kD) (tm (Z51 j) ?_)))));refine bG rfl (xQ (aE rfl) (.func _ _ call53) rfl rfl (xM _ _ h)) ?_;rintro _ ⟨_, _, ⟨r3, h, rfl, rfl⟩, rfl⟩;refine tm (.tup [cR bF r3.1, .i r3.2]) (to (sex rfl rfl) (to (sex rfl rfl) (ta (cR bF r3.1) (ta (.i r3.2) (aB (aC (aC (aA (tm (.i r3.2) (to (scm rfl rfl rfl) (aB ?_)))))))))));refine tip h (fun c4 h => ?_) (fun c4 h => ?_)
 ·refine aC (aA (tm (.i r3.2) (ta (cR bF (none : Option bJ)) (to (fX 3 1 (.inl rfl) (aE rfl)) ?_))));refine ta (.i r3.2) (aB ?_);exact cD ⟨rfl, _, [], [.box b1 0 (bI g), .arr (.slice none 0 0) 3 1 (([] : List Int).map aF), .arr (.slice none 0 0) 3 1 (([] : List Int).map aF)], _, .three (.tmp 6 (v := cR bF (none : Option bJ)) rfl) (.tmp 7 (v := .d Z56) rfl) (.tmp 8 (v := .i r3.2) rfl), .refl _, aEc (.cons (.same _) (.cons (.d (gZ 2 rfl (bY (f := aF) fun _ => rfl))) (.cons (.same _) .nil))), ((none : Option bJ), ([] : List Int), r3.2), h, rfl, rfl⟩
 ·refine aU (aC (aC (aA (tm (Z40 a) (to (sle rfl bC.of) (tm (.i 0) (aB (bD ?_))))))));refine xH [20, 21] (fun (s6 : (Option bJ) × Int × (List Int) × Value) => [(6, cR bF s6.1), (7, .d (.lit s6.2.2.2)), (22, .i s6.2.1)]) (fun (s6 : (Option bJ) × Int × (List Int) × Value) => [.arr s6.2.2.2 3 1 (s6.2.2.1.map aF)]) (fun (k : Nat) (s6 : (Option bJ) × Int × (List Int) × Value) => oC Q a (a.length : Int) k s6.1 s6.2.1 s6.2.2.1) (fun _ h => h) (r3.1, 0, ([] : List Int), (.slice none 0 0)) h (aO [1] rfl rfl (aH rfl (aH rfl (aH rfl (aK (ae rfl)))))) ?_;rintro k8 ⟨c, e, b, w7⟩ h;simp only [oC] at h;refine aC (aA (to (scm rfl rfl rfl) (aB (aC ?_))));refine tip h (fun c9 h => ?_) (fun c9 h => ?_)
  ·refine aU (aC (bD (aC (aA ?_))));obtain ⟨l, n, h⟩ := dT h;refine to (six rfl rfl bC.of (aW aF n)) (to (slc rfl aQ) (ta (.i l) (aB (aC (aC (aA (tm (.i l) ?_)))))));obtain ⟨y, o, h⟩ := dT h;refine to (scr call116 (fP _ _ _ o)) (to (sn rfl) (aB ?_));refine tip h (fun p h => ?_) (fun p h => ?_)
   ·refine aC (aA (ta (cR bF (none : Option bJ)) (to (fX 3 1 (.inl rfl) (aE rfl)) ?_)));refine ta (.i 1) (aB ?_);exact cD ⟨rfl, _, [], [.arr w7 3 1 (b.map aF), .arr (.slice none 0 0) 3 1 (([] : List Int).map aF)], _, .three (.tmp 6 (v := cR bF (none : Option bJ)) rfl) (.tmp 7 (v := .d Z56) rfl) (.tmp 8 (v := .i 1) rfl), .refl _, aEc (.cons (.same _) (.cons (.d (gZ 1 rfl (bY (f := aF) fun _ => rfl))) (.cons (.same _) .nil))), ((none : Option bJ), ([] : List Int), 1), h, rfl, rfl⟩
   ·refine aU (aA (tm (.d (.lit w7)) (tm (cR bF c) ?_)));obtain ⟨q, s, h⟩ := dT h;refine to (aBr (enc := bF) (aE rfl) rfl s) ?_;refine to (sfc [.sl 1 (q.players.map aF)] rfl pH) (to (slc rfl cC) (tm (.i l) ?_));obtain ⟨t, u, h⟩ := dT h;refine to (scr call117 (xF _ _ u)) (to (dE (aE rfl) bC rfl rfl (rows := ([t]).map aF) rfl (bY (f := aF) fun _ => rfl) rfl (by decide)) ?_);obtain ⟨w, x, h⟩ := dT h;refine bG rfl (dL (i := 0) (aE rfl) bC rfl rfl rfl (fun _ => rfl) x rfl) ?_;rintro _ ⟨m, rfl⟩;refine ta (.d (.lit m)) ?_;refine cN ?_;refine aA (to (sar rfl rfl rfl) (tm (.i (w64 (e + 1))) (aB ?_)));exact ⟨(c, w64 (e + 1), w, m), h, aO [0] rfl rfl (aH rfl (aH rfl (aH rfl (aK (ae rfl)))))⟩
  ·refine bO ?_;refine .inl ⟨rfl, ?_⟩;simp only [aAz] at h;refine aC (aA (tm (cR bF c) (tm (.d (.lit w7)) (ta (cR bF c) (ta (.d (.lit w7)) (ta (.i 0) (aB ?_)))))));exact cD ⟨rfl, _, [], [.arr w7 3 1 (b.map aF)], _, .three (.tmp 6 (v := cR bF c) rfl) (.tmp 7 (v := .d (.lit w7)) rfl) (.tmp 8 (v := .i 0) rfl), .refl _, aEc (.cons (.same _) (.cons (.d (gZ 0 rfl (bY (f := aF) fun _ => rfl))) (.cons (.same _) .nil))), (c, b, 0), h, rfl, rfl⟩

theorem aBt (c : bJ) (f : Int) {r : Int} (h : oA c f = some r) : Fn Tryz.prog 57 [.cp (bF c), .i f] (.i r) := by
 unfold oA at h;refine oT [.tmp 4] func57 results57 ntmps57 ?_;refine aC (aA (ta (.i 0) (aB (aC (aC (aA (tm (Z1 c) (to (qP (aE rfl) rfl) ?_))))))));refine to (sfc [.j c.Tree.Rounds, .sl 1 (Z46 c)] rfl zK) (to (sfc [.j c.Tree.Rounds] rfl iN) (to (slc rfl aQ) (tm (.i 0) (aB (bD ?_)))));refine bP (S := Int) [0, 1, 12] (fun s1 => [(13, .i s1)]) (fun s1 => []) (fun k s1 => jW c f c.Tree.Rounds k s1) (fun _ => rfl) (0) h (aO [] rfl rfl (aH rfl (aK (ae rfl)))) ?_;rintro k2 e h;simp only [jW] at h;refine aC (aA (to (scm rfl rfl rfl) (aB (aC ?_))));refine tih h (fun c3 h => ?_) (fun c3 h => ?_)
 ·refine aU (aC (bD (aC (aA (tm (.i e) (ta (.i e) (aB (aC ?_))))))));obtain ⟨r4, h5, h⟩ := bns h;refine cI mix 12 [0, 1, 5, 12, 13] [(6, .i (cW r4 0 c.won)), (26, .b (dO r4 c.won))] ?_ ?_
  ·refine ⟨[(17, 0, .cp [.j c.Tree.Rounds, .sl 1 (Z46 c), .sl 1 (Z65 c), .mp false (c.won.map fun p : aD × Int => ((fun a : aD => Value.agg ((aL a).map bS).toArray) p.1, aF p.2))]), (18, 1, .cp [.j c.Tree.Rounds, .sl 1 (Z46 c), .sl 1 (Z65 c), .mp false (c.won.map fun p : aD × Int => ((fun a : aD => Value.agg ((aL a).map bS).toArray) p.1, aF p.2))]), (19, 2, .cp [.mp false (c.won.map fun p : aD × Int => ((fun a : aD => Value.agg ((aL a).map bS).toArray) p.1, aF p.2))]), (20, 3, .d (.mp false (c.won.map fun p : aD × Int => ((fun a : aD => Value.agg ((aL a).map bS).toArray) p.1, aF p.2)))), (21, 4, .i e), (22, 5, .i f), (23, 6, .agg (aL r4)), (24, 7, .tup [.i (cW r4 0 c.won), .b (dO r4 c.won)]), (16, 8, .tup [.i (cW r4 0 c.won), .b (dO r4 c.won)]), (25, 9, .i (cW r4 0 c.won)), (26, 10, .b (dO r4 c.won)), (6, 11, .i (cW r4 0 c.won))], ?_, ?_⟩
   · exact dk [0, 1, 2, 3, 0, 0, 506, 407, 8, 9, 9, 10] ⟨go (zm (Z1 c)),
 go fun S hS => qP (aE rfl) (aX hS rfl),
 go (zfc [.mp false (c.won.map fun p : aD × Int => ((fun a : aD => Value.agg ((aL a).map bS).toArray) p.1, aF p.2))] rfl aCb),
 go (zlc rfl aHf),
 go (zm (.i e)),
 go (zm (.i f)),
 go fun S hS => eO (aE rfl) (.func _ _ call56) (ev2 (aX hS rfl) (ev2 (aX hS rfl) evn)) rfl (rC _ _ h5),
 go fun S hS => aJt (enc := aF) (agg := false) (l := c.won) (z := 0) (a := r4) (aE rfl) aDw underlying139 zeroValue3 (fun _ _ => .d (.lit _ rfl)) (aX hS rfl) rfl rfl (aX hS rfl) (sT (enc := aL) r4 rfl),
 go (zm (.tup [.i (cW r4 0 c.won), .b (dO r4 c.won)])),
 go (zex rfl rfl),
 go (zex rfl rfl),
 go (za (.i (cW r4 0 c.won))), trivial⟩
   · exact bT (aH rfl (aH rfl (aK (ae rfl))))
  ·refine ta (.b (dO r4 c.won)) (aB (aC (aA (tm (.b (dO r4 c.won)) (tm (.b (dO r4 c.won)) ?_)))));obtain ⟨b6, h7, h⟩ := bns h;refine aV 10 [0, 1, 5, 12, 13] 38 b6 ?_ ?_
   ·refine bch h7 (fun c9 h7 => ?_) (fun c9 h7 => ?_)
    ·refine tk c9 (sm (.i (cW r4 0 c.won))) (tk c9 (sm (Z1 c)) (tk c9 (qP (aE rfl) rfl) ?_));refine tk c9 (sfc [.sl 1 (Z65 c)] rfl pH) (tk c9 (slc rfl cC) (tk c9 (sm (.i f)) ?_));obtain ⟨g, j, h7⟩ := bns h7;refine tk c9 (six rfl rfl bC.of (aW aF j)) (tk c9 (slc rfl aQ) (tk c9 (scm rfl rfl rfl) (to (spt (.b (!decide ((cW r4 0 c.won) = g))) c9) ?_)));obtain rfl := sIn h7;refine aB (aJ rfl (ae rfl) rfl)
    ·refine tp c9 (tp c9 (tp c9 (tp c9 (tp c9 (tp c9 (tp c9 (tp c9 (tp c9 (to (spf Z2 c9) ?_)))))))));obtain rfl := sIn h7;refine aB (aJ rfl (ae rfl) rfl)
   ·refine aB ?_;refine tih h (fun c8 h => ?_) (fun c8 h => ?_)
    ·refine aC (aA (tm (.i e) (ta (.i e) (aB ?_))));obtain rfl := sIn h;exact rt
    ·refine cA ?_;refine aA (to (sar rfl rfl rfl) (tm (.i (w64 (e + 1))) (aB ?_)));exact ⟨(w64 (e + 1)), h, aO [] rfl rfl (aH rfl (aK (ae rfl)))⟩
 ·refine bO ?_;refine .inl ⟨rfl, ?_⟩;simp only [vR] at h;refine aC (aA (tm (Z1 c) (to (qP (aE rfl) rfl) ?_)));refine to (sfc [.j c.Tree.Rounds, .sl 1 (Z46 c)] rfl zK) (to (sfc [.j c.Tree.Rounds] rfl iN) (to (slc rfl aQ) (ta (.i c.Tree.Rounds) (aB ?_))));obtain rfl := sIn h;exact rt

theorem aTy (e : aP) (g : List aG) (a : Int) (c : Int) {Q : ((Option bJ) × aD × Int) → Prop} (h : uO e g a c Q) : dP Tryz.prog 84 [.agg (bI e), .d (Z12 g), .i a, .i c] [] (fun r' o' => ∃ (r : (Option bJ) × aD × Int), Q r ∧ r' = .tup [cR bF r.1, .agg (aL r.2.1), .i r.2.2] ∧ o' = []) := by
 unfold uO at h;refine iF func84 rfl (rs := [.tmp 8, .cell 9 143, .tmp 10]) results84 ntmps84 (Nat.le_of_ble_eq_true rfl) ?_;refine aC (aA ?_);refine bG rfl (cV (v := .agg (bI e)) (aE rfl) rfl rfl rfl) ?_;rintro _ ⟨b1, rfl⟩;refine ta (cR bF (none : Option bJ)) ?_;refine bG rfl (cJ (zs := [.j 0, .j 0]) (aE rfl) zeroValue143 rfl rfl) ?_;rintro _ ⟨b2, rfl⟩;refine ta (.i 0) (aB (aC (aA (to (sla 0 (bI e) rfl rfl kD) (tm (Z51 g) ?_)))));refine bG rfl (xQ (aE rfl) (.func _ _ call53) rfl rfl (xM _ _ h)) ?_;rintro _ ⟨_, _, ⟨r3, h, rfl, rfl⟩, rfl⟩;refine tm (.tup [cR bF r3.1, .i r3.2]) (to (sex rfl rfl) (to (sex rfl rfl) (ta (cR bF r3.1) (ta (.i r3.2) (aB (aC (aA (tm (.i a) (tm (.i c) (to (cZ (aE rfl) aMo (zs := [.j 0, .j 0]) rfl rfl rfl rfl (es := [.j a, .j c]) rfl) ?_))))))))));refine bG rfl (cJ (zs := [.j 0, .j 0]) (aE rfl) zeroValue143 rfl rfl) ?_;rintro _ ⟨b4, rfl⟩;refine to (sst 2 rfl rfl sizeOf143 (aL (aD.mk a c))) (aB (aC (aC (aA (tm (.i r3.2) (to (scm rfl rfl rfl) (tm (.b (decide (r3.2 = 0))) ?_)))))));obtain ⟨b5, h6, h⟩ := dT h;refine aV 5 [9, 11, 12, 13] 30 b5 ?_ ?_
 ·refine bch h6 (fun f h6 => ?_) (fun f h6 => ?_)
  ·refine tk f (sla 2 (aL (aD.mk a c)) rfl rfl nZ) (tk f (sla 0 (bI e) rfl rfl kD) ?_);obtain ⟨j, l, h6⟩ := bns h6;refine tk f (scr call146 (aBu _ _ l)) (tk f (sn rfl) (to (spt (.b (!j)) f) ?_));obtain rfl := sIn h6;refine aB (aJ rfl (ae rfl) rfl)
  ·refine tp f (tp f (tp f (tp f (to (spf Z2 f) ?_))));obtain rfl := sIn h6;refine aB (aJ rfl (ae rfl) rfl)
 ·refine aB ?_;refine tip h (fun c7 h => ?_) (fun c7 h => ?_)
  ·refine aA (ta (.i 1) (aB (aC ?_)));refine iE mix 5 [9] (fun X8 => [(8, cR bF r3.1), (33, .i 1)]) (fun X8 => [.box b1 0 (bI e), .box b2 0 (aL (aD.mk a c)), .box b4 0 (aL (aD.mk a c))]) ?_ ?_
   ·refine ⟨0, fun X8 => [(31, 0, cR bF r3.1), (32, 1, .agg (aL (aD.mk a c))), (33, 2, .i 1), (8, 3, cR bF r3.1)], fun X8 => [([], .box b1 0 (bI e)), ([(4, .box b2 0 (aL (aD.mk a c)))], .box b2 0 (aL (aD.mk 0 0))), ([], .box b4 0 (aL (aD.mk a c)))], ?_, ?_⟩
    · exact xok [(0, 5), (0, 5), (0, 0), (1, 5), (2, 0)] ⟨fun _ _ w _ k => xp w (ym k (cR bF r3.1)),
 fun _ _ w _ k => xp w (yla k 2 (aL (aD.mk a c)) rfl (og k rfl rfl) nZ),
 fun _ _ w _ k => xp w (ym k (.i 1)),
 fun _ _ w _ k => xp w (ya k (cR bF r3.1)),
 fun _ _ _ _ k => xs 1 k rfl rfl (sW (i := 1) (aX k rfl) (og k rfl rfl) (aX k rfl) rfl rfl sizeOf143 rfl (aE rfl) (Nat.le_of_ble_eq_true rfl) (ds' := (aL (aD.mk a c))) rfl), trivial⟩
    · exact fun X8 => bT (aH rfl (aH rfl (aK (ae rfl))))
   ·intro X8;refine ta (.i 1) (aB ?_);exact cD ⟨rfl, _, [], [.box b1 0 (bI e), .box b2 0 (aL (aD.mk a c)), .box b4 0 (aL (aD.mk a c))], _, .three (.tmp 8 (v := cR bF r3.1) rfl) (.cell 9 143 rfl (i := 1) rfl nZ (es := (aL (aD.mk a c))) rfl rfl) (.tmp 10 (v := .i 1) rfl), .refl _, .same _, (r3.1, (aD.mk a c), 1), h, rfl, rfl⟩
  ·refine aU (aC ?_);refine iE mix 5 [9] (fun X9 => [(8, cR bF r3.1), (33, .i r3.2)]) (fun X9 => [.box b1 0 (bI e), .box b2 0 (aL (aD.mk a c)), .box b4 0 (aL (aD.mk a c))]) ?_ ?_
   ·refine ⟨0, fun X9 => [(31, 0, cR bF r3.1), (32, 1, .agg (aL (aD.mk a c))), (33, 2, .i r3.2), (8, 3, cR bF r3.1)], fun X9 => [([], .box b1 0 (bI e)), ([(4, .box b2 0 (aL (aD.mk a c)))], .box b2 0 (aL (aD.mk 0 0))), ([], .box b4 0 (aL (aD.mk a c)))], ?_, ?_⟩
    · exact xok [(0, 5), (0, 5), (0, 0), (1, 5), (2, 0)] ⟨fun _ _ w _ k => xp w (ym k (cR bF r3.1)),
 fun _ _ w _ k => xp w (yla k 2 (aL (aD.mk a c)) rfl (og k rfl rfl) nZ),
 fun _ _ w _ k => xp w (ym k (.i r3.2)),
 fun _ _ w _ k => xp w (ya k (cR bF r3.1)),
 fun _ _ _ _ k => xs 1 k rfl rfl (sW (i := 1) (aX k rfl) (og k rfl rfl) (aX k rfl) rfl rfl sizeOf143 rfl (aE rfl) (Nat.le_of_ble_eq_true rfl) (ds' := (aL (aD.mk a c))) rfl), trivial⟩
    · exact fun X9 => bT (aH rfl (aH rfl (aK (ae rfl))))
   ·intro X9;refine ta (.i r3.2) (aB ?_);exact cD ⟨rfl, _, [], [.box b1 0 (bI e), .box b2 0 (aL (aD.mk a c)), .box b4 0 (aL (aD.mk a c))], _, .three (.tmp 8 (v := cR bF r3.1) rfl) (.cell 9 143 rfl (i := 1) rfl nZ (es := (aL (aD.mk a c))) rfl rfl) (.tmp 10 (v := .i r3.2) rfl), .refl _, .same _, (r3.1, (aD.mk a c), r3.2), h, rfl, rfl⟩

theorem iB (d : Int) (c : Int) (a : Int) {r : Bool} (h : eF d c a = some r) : Fn Tryz.prog 75 [.i d, .i c, .i a] (.b r) := by
 unfold eF at h;refine oT [.tmp 6] func75 results75 ntmps75 ?_;refine aC (aA (ta Z2 (aB (aC (aA (tm (.i d) (tm (.i c) (to (scm rfl rfl rfl) (tm (Z35 c d) ?_)))))))));obtain ⟨b1, h2, h⟩ := bns h;refine aV 4 [] 14 b1 ?_ ?_
 ·refine bch h2 (fun c3 h2 => ?_) (fun c3 h2 => ?_)
  ·refine tk c3 (sm (.i d)) (tk c3 (sm (.i a)) (tk c3 (scm rfl rfl rfl) (to (spt (Z35 d a) c3) ?_)));obtain rfl := sIn h2;refine aB (aJ rfl trivial rfl)
  ·refine tp c3 (tp c3 (tp c3 (to (spf Z2 c3) ?_)));obtain rfl := sIn h2;refine aB (aJ rfl trivial rfl)
 ·refine ta (.b b1) (aB ?_);obtain rfl := sIn h;exact rt

theorem aJz (j : aP) {r : Bool} (h : nC j = some r) : Fn Tryz.prog 24 [.agg (bI j)] (.b r) := by
 unfold nC at h;refine oT [.tmp 2] func24 results24 ntmps24 ?_;refine aC (aA ?_);refine bG rfl (cV (v := .agg (bI j)) (aE rfl) rfl rfl rfl) ?_;rintro _ ⟨b1, rfl⟩;refine ta Z2 (aB (aC (aC (aA (tfl 0 rfl rfl iN rfl aQ ?_)))));obtain ⟨r2, h3, h⟩ := bns h;refine to (scr call75 (iB _ _ _ h3)) (to (sn rfl) (tm (.b (!r2)) ?_));obtain ⟨b4, h5, h⟩ := bns h;refine aV 9 [1] 18 b4 ?_ ?_
 ·refine bch h5 (fun e h5 => ?_) (fun e h5 => ?_)
  ·refine tp e (tp e (tp e (tp e (tp e (tp e (tp e (tp e (to (spt Z14 e) ?_))))))));obtain rfl := sIn h5;refine aB (aJ rfl (ae rfl) rfl)
  ·refine tkl 0 e rfl rfl dW rfl cC (tk e (sle rfl bC.of) (tkl 0 e rfl rfl iN rfl aQ (tk e (sU (aE rfl) rfl runUnderlying3 runUnderlying160) ?_)));obtain ⟨T, C, h5⟩ := bns h5;refine tk e (aTn (aE rfl) rfl rfl (aFs C)) ?_;refine tk e (scm rfl rfl rfl) (to (spf (.b (!decide ((j.Slots.length : Int) = (w64 (1 * 2 ^ (min (uw j.Rounds).toNat 64)))))) e) ?_);obtain rfl := sIn h5;refine aB (aJ rfl (ae rfl) rfl)
 ·refine aB ?_;refine tih h (fun c6 h => ?_) (fun c6 h => ?_)
  ·refine aC (aA (ta Z2 (aB ?_)));obtain rfl := sIn h;refine bK (bE (bH (l := [2]) (ae rfl))) ?_;exact rt
  ·refine aU (aC (aC (aA (ta (.i 0) (aB (bD ?_))))));refine bP (S := Int) [1] (fun s7 => [(3, .i s7)]) (fun s7 => [.box b1 0 (bI j)]) (fun k s7 => gF j k s7) (fun _ => rfl) (0) h (aO [0] rfl rfl (aH rfl (aK (ae rfl)))) ?_;rintro k8 a h;simp only [gF] at h;refine aC (aC (aA (tm (.i a) (tfl 0 rfl rfl dW rfl cC (to (sle rfl bC.of) (to (scm rfl rfl rfl) (aB ?_)))))));refine tih h (fun c9 h => ?_) (fun c9 h => ?_)
   ·refine aU (aC (bD (aC (aC (aA (tfl 0 rfl rfl dW rfl cC (tm (.i a) ?_)))))));obtain ⟨U, E, h⟩ := bns h;refine to (six rfl rfl bC.of (aW aF E)) (to (slc rfl aQ) ?_);obtain ⟨F, G, h⟩ := bns h;refine to (scr call75 (iB _ _ _ G)) (to (sn rfl) (tm (.b (!F)) ?_));obtain ⟨H, q, h⟩ := bns h;refine aV 21 [1, 3] 54 H ?_ ?_
    ·refine bch q (fun c q => ?_) (fun c q => ?_)
     ·refine tp c (tp c (tp c (tp c (tq (tq (tq (tq (tq (tq (tp c (tp c (tq (tq ?_)))))))))))));refine tq (tq (tq (tq (tq (tp c (to (spt Z14 c) ?_))))));obtain rfl := sIn q;refine aB (aJ rfl (ae rfl) rfl)
     ·refine tk c (sm (.i a)) (tk c (aJh (aE rfl) rfl rfl (by decide)) ?_);refine tk c (scm rfl rfl rfl) (tk c (sm (.b (decide ((a.tmod 2) = 1)))) ?_);obtain ⟨y, s, q⟩ := bns q;refine aV 7 [1, 3, 33, 34, 35, 36, 37] 44 y ?_ ?_
      ·refine bch s (fun n s => ?_) (fun n s => ?_)
       ·refine tkl 0 n rfl rfl dW rfl cC (tk n (sm (.i a)) ?_);obtain ⟨I, J, s⟩ := bns s;refine tk n (six rfl rfl bC.of (aW aF J)) (tk n (slc rfl aQ) (tk n (scm rfl rfl rfl) (tk c (spt (.b (decide (I = (-1)))) n) ?_)));obtain rfl := sIn s;refine aB (aJ rfl (ae rfl) rfl)
       ·refine tp n (tp n (tp n (tp n (tp n (tp n (tk c (spf Z2 n) ?_))))));obtain rfl := sIn s;refine aB (aJ rfl (ae rfl) rfl)
      ·refine tk c (sm (.b y)) ?_;obtain ⟨z, t, q⟩ := bns q;refine aV 8 [1, 3, 33, 34, 35, 36, 37, 44, 45] 53 z ?_ ?_
       ·refine bch t (fun g t => ?_) (fun g t => ?_)
        ·refine tkl 0 g rfl rfl dW rfl cC (tk g (sm (.i a)) (tk g (sar rfl rfl rfl) ?_));obtain ⟨K, L, t⟩ := bns t;refine tk g (six rfl rfl bC.of (aW aF L)) (tk g (slc rfl aQ) (tk g (scm rfl rfl rfl) (tk c (spt (.b (decide (K = (-1)))) g) ?_)));obtain rfl := sIn t;refine aB (aJ rfl (ae rfl) rfl)
        ·refine tp g (tp g (tp g (tp g (tp g (tp g (tp g (tk c (spf Z2 g) ?_)))))));obtain rfl := sIn t;refine aB (aJ rfl (ae rfl) rfl)
       ·refine to (spf (.b z) c) ?_;obtain rfl := sIn q;refine aB (aJ rfl (ae rfl) rfl)
    ·refine aB ?_;refine tih h (fun M h => ?_) (fun M h => ?_)
     ·refine aC (aA (ta Z2 (aB ?_)));obtain rfl := sIn h;refine bK (bE (bH (l := [2]) (ae rfl))) ?_;exact rt
     ·refine aU (aC (aA (ta (.i 0) (aB ?_))));refine vQ ?_;refine bP (S := Int) [1, 3] (fun x => [(4, .i x)]) (fun x => [.box b1 0 (bI j)]) (fun k x => gG (gF j k8) a j k x) (fun _ => rfl) (0) h (aO [0] rfl rfl (aH rfl (aK (ae rfl)))) ?_;rintro V f h;simp only [gG] at h;refine aC (aC (aA (tm (.i f) (tm (.i a) (to (scm rfl rfl rfl) (aB ?_))))));refine tih h (fun N h => ?_) (fun N h => ?_)
      ·refine aU (aC (bD (aC ?_)));obtain ⟨o, A, h⟩ := bns h;obtain ⟨p, B, h⟩ := bns h;obtain ⟨O, u, h⟩ := bns h;refine cI mix 19 [1, 3, 4] [(78, .b O)] ?_ ?_
       ·refine bch u (fun m u => ?_) (fun m u => ?_)
        ·obtain ⟨w, P, u⟩ := bns u;obtain rfl := sIn u;refine ⟨[(60, 0, .bp b1 0 1), (61, 1, .d (.sl 1 (Z17 j))), (62, 2, .i f), (63, 3, .cp [.j o]), (64, 4, .i o), (65, 5, .bp b1 0 1), (66, 6, .d (.sl 1 (Z17 j))), (67, 7, .i a), (68, 8, .cp [.j p]), (69, 9, .i p), (70, 10, .b (decide (o = p))), (71, 11, .b (decide (o = p))), (72, 12, .bp b1 0 1), (73, 13, .d (.sl 1 (Z17 j))), (74, 14, .i a), (75, 15, .cp [.j w]), (76, 16, .i w), (77, 17, .b (!decide (w = (-1)))), (78, 18, .b (!decide (w = (-1))))], ?_, ?_⟩
         · exact dk [0, 1, 0, 203, 4, 0, 6, 0, 708, 9, 510, 11, 12, 1213, 12, 121415, 1216, 1217, 1218] ⟨go (zf rfl dW),
 go (zl 0 rfl rfl rfl cC),
 go (zm (.i f)),
 go (zix rfl rfl bC.of (aW aF A)),
 go (zlc rfl aQ),
 go (zf rfl dW),
 go (zl 0 rfl rfl rfl cC),
 go (zm (.i a)),
 go (zix rfl rfl bC.of (aW aF B)),
 go (zlc rfl aQ),
 go (zcm rfl rfl rfl),
 go (zm (.b (decide (o = p)))),
 gt m (zf rfl dW),
 gt m (zl 0 rfl rfl rfl cC),
 gt m (zm (.i a)),
 gt m (zix rfl rfl bC.of (aW aF P)),
 gt m (zlc rfl aQ),
 gt m (zcm rfl rfl rfl),
 go (zpt (.b (!decide (w = (-1)))) m), trivial⟩
         · exact bT (aH rfl (aK (ae rfl)))
        ·obtain rfl := sIn u;refine ⟨[(60, 0, .bp b1 0 1), (61, 1, .d (.sl 1 (Z17 j))), (62, 2, .i f), (63, 3, .cp [.j o]), (64, 4, .i o), (65, 5, .bp b1 0 1), (66, 6, .d (.sl 1 (Z17 j))), (67, 7, .i a), (68, 8, .cp [.j p]), (69, 9, .i p), (70, 10, .b (decide (o = p))), (71, 11, .b (decide (o = p))), (72, 12, .tup []), (73, 13, .tup []), (74, 14, .tup []), (75, 15, .tup []), (76, 16, .tup []), (77, 17, .tup []), (78, 18, .b false)], ?_, ?_⟩
         · exact dk [0, 1, 0, 203, 4, 0, 6, 0, 708, 9, 510, 11, 12, 1213, 12, 121415, 1216, 1217, 1218] ⟨go (zf rfl dW),
 go (zl 0 rfl rfl rfl cC),
 go (zm (.i f)),
 go (zix rfl rfl bC.of (aW aF A)),
 go (zlc rfl aQ),
 go (zf rfl dW),
 go (zl 0 rfl rfl rfl cC),
 go (zm (.i a)),
 go (zix rfl rfl bC.of (aW aF B)),
 go (zlc rfl aQ),
 go (zcm rfl rfl rfl),
 go (zm (.b (decide (o = p)))),
 gp m,
 gp m,
 gp m,
 gp m,
 gp m,
 gp m,
 go (zpf Z2 m), trivial⟩
         · exact bT (aH rfl (aK (ae rfl)))
       ·refine aB ?_;refine tih h (fun Q h => ?_) (fun Q h => ?_)
        ·refine aC (aA (ta Z2 (aB ?_)));obtain rfl := sIn h;refine bK (bE (bH (l := [2]) (ae rfl))) ?_;exact rt
        ·refine cA ?_;refine aA (tm (.i f) (to (sar rfl rfl rfl) (ta (.i (w64 (f + 1))) (aB ?_))));exact ⟨(w64 (f + 1)), h, aO [0] rfl rfl (aH rfl (aK (ae rfl)))⟩
      ·refine bO ?_;refine .inl ⟨rfl, ?_⟩;simp only [uV] at h;simp only [uU] at h;refine aA (tm (.i a) (to (sar rfl rfl rfl) (ta (.i (w64 (a + 1))) (aB ?_))));exact ⟨(w64 (a + 1)), h, aO [0] rfl rfl (aH rfl (aK (ae rfl)))⟩
   ·refine bO ?_;refine .inl ⟨rfl, ?_⟩;simp only [uT] at h;refine aC (aA (ta Z14 (aB ?_)));obtain rfl := sIn h;refine bK (bE (bH (l := [2]) (ae rfl))) ?_;exact rt

theorem aAv (b : aP) (a : Int) {r : Int} (h : kX b a = some r) : Fn Tryz.prog 27 [.agg (bI b), .i a] (.i r) := by
 unfold kX at h;refine oT [.tmp 4] func27 results27 ntmps27 ?_;refine aC (aA ?_);refine bG rfl (cV (v := .agg (bI b)) (aE rfl) rfl rfl rfl) ?_;rintro _ ⟨b1, rfl⟩;refine ta (.i 0) (aB (aC (aA (tfl 0 rfl rfl iN rfl aQ (to (sar rfl rfl rfl) (tm (.i a) (to (sar rfl rfl rfl) (to (sU (aE rfl) rfl runUnderlying3 runUnderlying160) ?_))))))));obtain ⟨u2, h3, h⟩ := bns h;refine to (aTn (aE rfl) rfl rfl (aFs h3)) ?_;refine ta (.i (w64 (1 * 2 ^ (min (uw (w64 ((w64 (b.Rounds - 1)) - a))).toNat 64)))) (aB ?_);obtain rfl := sIn h;refine bK (bE (bH (l := [4]) (ae rfl))) ?_;exact rt

theorem aIc (d : aP) (a : Int) (c : Int) {r : Bool} (h : lR d a c = some r) : Fn Tryz.prog 176 [.agg (bI d), .i a, .i c] (.b r) := by
 unfold lR at h;refine oT [.tmp 6] func176 results176 ntmps176 ?_;refine aC (aA ?_);refine bG rfl (cV (v := .agg (bI d)) (aE rfl) rfl rfl rfl) ?_;rintro _ ⟨b1, rfl⟩;refine ta Z2 (aB (aC (aA (tm (.i a) (tfl 0 rfl rfl iN rfl aQ (to (sar rfl rfl rfl) ?_))))));obtain ⟨r2, h3, h⟩ := bns h;refine to (scr call75 (iB _ _ _ h3)) (tm (.b r2) ?_);obtain ⟨b4, h5, h⟩ := bns h;refine aV 7 [] 19 b4 ?_ ?_
 ·refine bch h5 (fun c6 h5 => ?_) (fun c6 h5 => ?_)
  ·refine tk c6 (sm (.i c)) (tk c6 (sla 0 (bI d) rfl rfl kD) (tk c6 (sm (.i a)) ?_));obtain ⟨r7, h8, h5⟩ := bns h5;refine tk c6 (scr call27 (aAv _ _ h8)) (tk c6 (sar rfl rfl rfl) ?_);obtain ⟨r9, e, h5⟩ := bns h5;refine tk c6 (scr call75 (iB _ _ _ e)) (to (spt (.b r9) c6) ?_);obtain rfl := sIn h5;refine aB (aJ rfl trivial rfl)
  ·refine tp c6 (tp c6 (tp c6 (tp c6 (tp c6 (tp c6 (to (spf Z2 c6) ?_))))));obtain rfl := sIn h5;refine aB (aJ rfl trivial rfl)
 ·refine ta (.b b4) (aB ?_);obtain rfl := sIn h;refine bK (bE (bH (l := [6]) (ae rfl))) ?_;exact rt

theorem aKa (p : aP) (n : aG) {r : Bool} (h : qH p n = some r) : Fn Tryz.prog 121 [.agg (bI p), .agg (aM n)] (.b r) := by
 unfold qH at h;refine oT [.tmp 4] func121 results121 ntmps121 ?_;refine aC (aA ?_);refine bG rfl (cV (v := .agg (bI p)) (aE rfl) rfl rfl rfl) ?_;rintro _ ⟨b1, rfl⟩;refine bG rfl (cV (v := .agg (aM n)) (aE rfl) rfl rfl rfl) ?_;rintro _ ⟨b2, rfl⟩;refine ta Z2 (aB (aC (aC (aA (tfl 1 rfl rfl qD rfl aQ ?_)))));obtain ⟨r3, h4, h⟩ := bns h;refine to (scr call75 (iB _ _ _ h4)) (to (sn rfl) (aB ?_));refine tih h (fun c5 h => ?_) (fun c5 h => ?_)
 ·refine aC (aA (ta Z2 (aB ?_)));obtain rfl := sIn h;refine bK (bE (bH (l := [4]) (ae rfl))) ?_;exact rt
 ·refine aU (aC (aC (aA (tfl 1 rfl rfl qC rfl aQ (to (scm rfl rfl rfl) (aB ?_))))));refine tih h (fun c6 h => ?_) (fun c6 h => ?_)
  ·refine aC (aA (tfl 1 rfl rfl rF rfl aQ (to (scm rfl rfl rfl) (tm (.b (decide (n.Round = 0))) ?_))));obtain ⟨b7, h8, h⟩ := bns h;refine aV 8 [3] 23 b7 ?_ ?_
   ·refine bch h8 (fun d h8 => ?_) (fun d h8 => ?_)
    ·refine tkl 1 d rfl rfl lQ rfl aQ (tkl 0 d rfl rfl dW rfl cC (tk d (sle rfl bC.of) (tk d (sar rfl rfl rfl) ?_)));obtain ⟨u, w, h8⟩ := bns h8;refine tk d (scr call75 (iB _ _ _ w)) (to (spt (.b u) d) ?_);obtain rfl := sIn h8;refine aB (aJ rfl (ae rfl) rfl)
    ·refine tp d (tp d (tp d (tp d (tp d (tp d (tp d (to (spf Z2 d) ?_)))))));obtain rfl := sIn h8;refine aB (aJ rfl (ae rfl) rfl)
   ·refine tm (.b b7) ?_;obtain ⟨b9, j, h⟩ := bns h;refine aV 4 [] 28 b9 ?_ ?_
    ·refine bch j (fun g j => ?_) (fun g j => ?_)
     ·refine tkl 1 g rfl rfl aBf rfl aQ ?_;obtain ⟨x, y, j⟩ := bns j;refine tk g (scr call75 (iB _ _ _ y)) (to (spt (.b x) g) ?_);obtain rfl := sIn j;refine aB (aJ rfl trivial rfl)
     ·refine tp g (tp g (tp g (to (spf Z2 g) ?_)));obtain rfl := sIn j;refine aB (aJ rfl trivial rfl)
    ·refine ta (.b b9) (aB ?_);obtain rfl := sIn h;refine bK (bE (bH (l := [4]) (ae rfl))) ?_;exact rt
  ·refine aU (aC (aC (aA (tfl 1 rfl rfl qC rfl aQ ?_))));obtain ⟨z, A, h⟩ := bns h;refine to (scr call75 (iB _ _ _ A)) (to (sn rfl) (tm (.b (!z)) ?_));obtain ⟨q, k, h⟩ := bns h;refine aV 8 [2, 3] 41 q ?_ ?_
   ·refine bch k (fun e k => ?_) (fun e k => ?_)
    ·refine tp e (tp e (tp e (tp e (tp e (tp e (tp e (to (spt Z14 e) ?_)))))));obtain rfl := sIn k;refine aB (aJ rfl (ae rfl) rfl)
    ·refine tk e (sla 0 (bI p) rfl rfl kD) (tkl 1 e rfl rfl rF rfl aQ (tkl 1 e rfl rfl lQ rfl aQ ?_));obtain ⟨B, C, k⟩ := bns k;refine tk e (scr call176 (aIc _ _ _ C)) (tk e (sn rfl) (to (spf (.b (!B)) e) ?_));obtain rfl := sIn k;refine aB (aJ rfl (ae rfl) rfl)
   ·refine tm (.b q) ?_;obtain ⟨E, o, h⟩ := bns h;refine aV 4 [2, 3] 46 E ?_ ?_
    ·refine bch o (fun i o => ?_) (fun i o => ?_)
     ·refine tp i (tp i (tp i (to (spt Z14 i) ?_)));obtain rfl := sIn o;refine aB (aJ rfl (ae rfl) rfl)
     ·refine tkl 1 i rfl rfl aBf rfl aQ (tk i (scm rfl rfl rfl) (to (spf (.b (!decide (n.Old = 0))) i) ?_));obtain rfl := sIn o;refine aB (aJ rfl (ae rfl) rfl)
    ·refine aB ?_;refine tih h (fun F h => ?_) (fun F h => ?_)
     ·refine aC (aA (ta Z2 (aB ?_)));obtain rfl := sIn h;refine bK (bE (bH (l := [4]) (ae rfl))) ?_;exact rt
     ·refine aU (aC (aA (tfl 1 rfl rfl rF rfl aQ (to (scm rfl rfl rfl) (tm (.b (decide (0 < n.Round))) ?_)))));obtain ⟨s, f, h⟩ := bns h;refine aV 20 [] 70 s ?_ ?_
      ·refine bch f (fun a f => ?_) (fun a f => ?_)
       ·refine tp a (tp a (tp a (tp a (tp a (tp a (tp a (tp a (tp a (tq (tq (tq (tq (tq ?_)))))))))))));refine tq (tq (tq (tq (tp a (to (spt Z14 a) ?_)))));obtain rfl := sIn f;refine aB (aJ rfl trivial rfl)
       ·refine tkl 0 a rfl rfl dW rfl cC (tkl 1 a rfl rfl lQ rfl aQ (tk a (sar rfl rfl rfl) ?_));obtain ⟨G, H, f⟩ := bns f;refine tk a (six rfl rfl bC.of (aW aF H)) (tk a (slc rfl aQ) (tk a (scm rfl rfl rfl) (tk a (sm (.b (!decide (G = (-1))))) ?_)));obtain ⟨t, m, f⟩ := bns f;refine aV 10 [50] 69 t ?_ ?_
        ·refine bch m (fun c m => ?_) (fun c m => ?_)
         ·refine tkl 0 c rfl rfl dW rfl cC (tkl 1 c rfl rfl lQ rfl aQ (tk c (sar rfl rfl rfl) (tk c (sar rfl rfl rfl) ?_)));obtain ⟨I, J, m⟩ := bns m;refine tk c (six rfl rfl bC.of (aW aF J)) (tk c (slc rfl aQ) (tk c (scm rfl rfl rfl) (tk a (spt (.b (!decide (I = (-1)))) c) ?_)));obtain rfl := sIn m;refine aB (aJ rfl (ae rfl) rfl)
         ·refine tp c (tp c (tp c (tp c (tp c (tp c (tp c (tp c (tp c (tk a (spf Z2 c) ?_)))))))));obtain rfl := sIn m;refine aB (aJ rfl (ae rfl) rfl)
        ·refine to (spf (.b t) a) ?_;obtain rfl := sIn f;refine aB (aJ rfl trivial rfl)
      ·refine ta (.b s) (aB ?_);obtain rfl := sIn h;refine bK (bE (bH (l := [4]) (ae rfl))) ?_;exact rt

theorem aCz (p : List aG) {r : (List aG)} (h : pU p = some r) : Fn Tryz.prog 178 [.d (Z12 p)] (.d (.sl 5 (r.map aM))) := by
 unfold pU at h;refine oT [.tmp 2] func178 results178 ntmps178 ?_;refine aC (aA (to (sV 5 (aE rfl)) ?_));refine aB (aC (aA (to (fX 95 5 (.inl rfl) (aE rfl)) ?_)));refine aB (aC (aC (aA (ta (.i 0) (aB (bD ?_))))));refine bP (S := Int × (List aG) × Value) [0] (fun s2 => [(3, .d (.lit s2.2.2)), (4, .i s2.1)]) (fun s2 => [.arr s2.2.2 95 5 (s2.2.1.map aM)]) (fun k s2 => eI p k s2.1 s2.2.1) (fun _ => rfl) (0, ([] : List aG), (.slice none 0 0)) h (aO [0] rfl rfl (aH rfl (aH rfl (aK (ae rfl))))) ?_;rintro k4 ⟨g, o, w3⟩ h;simp only [eI] at h;refine aC (aC (aA (tm (.i g) (tm (Z51 p) (to (sle rfl iT.of) (to (scm rfl rfl rfl) (aB ?_)))))));refine tih h (fun c5 h => ?_) (fun c5 h => ?_)
 ·refine aU (aC (bD (aC (aA (ta Z2 (aB (aC (aC (aA (ta (.i 0) (aB (bD ?_))))))))))));refine bP (S := Bool × Int) [0, 3, 4] (fun s6 => [(5, .b s6.1), (6, .i s6.2)]) (fun s6 => [.arr w3 95 5 (o.map aM)]) (fun k s6 => iX (eI p k4) p g o k s6.1 s6.2) (fun _ => rfl) (false, 0) h (aO [0] rfl rfl (aH rfl (aH rfl (aK (ae rfl))))) ?_;rintro k7 ⟨c, j⟩ h;simp only [iX] at h;refine aC (aC (aA (tm (.i j) (tm (.d (.lit w3)) (to (iH (m := 0) (aE rfl) rfl rfl iT.of) ?_)))));refine to (scm rfl rfl rfl) (aB ?_);refine tih h (fun c8 h => ?_) (fun c8 h => ?_)
  ·refine aU (aC (bD ?_));obtain ⟨b9, q, h⟩ := bns h;refine cI mix 12 [0, 3, 4, 6] [(30, .b b9)] ?_ ?_
   ·refine bch q (fun e q => ?_) (fun e q => ?_)
    ·obtain rfl := sIn q;refine ⟨[(19, 0, .b c), (20, 1, .b c), (21, 2, .tup []), (22, 3, .tup []), (23, 4, .tup []), (24, 5, .tup []), (25, 6, .tup []), (26, 7, .tup []), (27, 8, .tup []), (28, 9, .tup []), (29, 10, .tup []), (30, 11, .b true)], ?_, ?_⟩
     · exact dk [0, 1, 2, 2, 20304, 205, 2, 2, 20708, 209, 20610, 211] ⟨go (zm (.b c)),
 go (zm (.b c)),
 gp e,
 gp e,
 gp e,
 gp e,
 gp e,
 gp e,
 gp e,
 gp e,
 gp e,
 go (zpt Z14 e), trivial⟩
     · exact bT (aH rfl (aK (ae rfl)))
    ·obtain ⟨s, t, q⟩ := bns q;obtain ⟨n, x, q⟩ := bns q;obtain rfl := sIn q;refine ⟨[(19, 0, .b c), (20, 1, .b c), (21, 2, .d (.lit w3)), (22, 3, .i j), (23, 4, .ep w3 5 j.toNat 0), (24, 5, .agg (aM s)), (25, 6, .d (Z12 p)), (26, 7, .i g), (27, 8, .cp [.j n.Kind, .j n.Round, .j n.Place, .j n.Player, .j n.Old]), (28, 9, .agg (aM n)), (29, 10, .b (decide (s = n))), (30, 11, .b (decide (s = n)))], ?_, ?_⟩
     · exact dk [0, 1, 2, 2, 20304, 205, 2, 2, 20708, 209, 20610, 211] ⟨go (zm (.b c)),
 go (zm (.b c)),
 gt e (zm (.d (.lit w3))),
 gt e (zm (.i j)),
 gt e (zia 0 rfl rfl rfl iT.of (aW aM t)),
 gt e fun S hS => dQ (aE rfl) (aX hS rfl) (l := 0) rfl (dI aM t) mN (es := (aM s)) rfl rfl,
 gt e (zm (Z51 p)),
 gt e (zm (.i g)),
 gt e (zix rfl rfl iT.of (aW aM x)),
 gt e (aFg (aM n) rfl mN),
 gt e fun S hS => aTm (a := s) (b := n) (aE rfl) (aX hS rfl) (aX hS rfl) rfl rfl Tryz.eqGuardType95 aUg,
 go (zpf (.b (decide (s = n))) e), trivial⟩
     · exact bT (aH rfl (aK (ae rfl)))
   ·refine ta (.b b9) ?_;refine cN ?_;refine aA (tm (.i j) (to (sar rfl rfl rfl) (ta (.i (w64 (j + 1))) (aB ?_))));exact ⟨(b9, w64 (j + 1)), h, aO [0] rfl rfl (aH rfl (aH rfl (aK (ae rfl))))⟩
  ·refine bO ?_;refine .inl ⟨rfl, ?_⟩;simp only [pF] at h;refine aC (aA (tm (.b c) (to (sn rfl) (aB ?_))));refine tih h (fun y h => ?_) (fun y h => ?_)
   ·refine aA (tm (.d (.lit w3)) (tm (Z51 p) (tm (.i g) ?_)));obtain ⟨u, z, h⟩ := bns h;refine to (six rfl rfl iT.of (aW aM z)) (to (tG (aM u) rfl mN) (to (dE (aE rfl) iT rfl rfl (rows := ([u]).map aM) rfl (bY (f := aM) fun _ => rfl) rfl (by decide)) ?_));obtain ⟨A, B, h⟩ := bns h;refine bG rfl (dL (i := 0) (aE rfl) iT rfl rfl rfl (fun _ => rfl) B rfl) ?_;rintro _ ⟨w, rfl⟩;refine ta (.d (.lit w)) ?_;refine cN ?_;simp only [lZ] at h;refine aA (tm (.i g) (to (sar rfl rfl rfl) (ta (.i (w64 (g + 1))) (aB ?_))));exact ⟨(w64 (g + 1), A, w), h, aO [0] rfl rfl (aH rfl (aH rfl (aK (ae rfl))))⟩
   ·refine cA ?_;simp only [lZ] at h;refine aA (tm (.i g) (to (sar rfl rfl rfl) (ta (.i (w64 (g + 1))) (aB ?_))));exact ⟨(w64 (g + 1), o, w3), h, aO [0] rfl rfl (aH rfl (aH rfl (aK (ae rfl))))⟩
 ·refine bO ?_;refine .inl ⟨rfl, ?_⟩;simp only [wR] at h;refine aC (aA (tm (.d (.lit w3)) (ta (.d (.lit w3)) (aB ?_))));obtain rfl := sIn h;refine bK (bE (pQ (k := 2) (v := .d (.sl 5 (o.map aM))) (.d (gZ 0 rfl (bY (f := aM) fun _ => rfl))) (aDu))) ?_;exact rt

theorem aPc (c : List Int) (e : Int) {r : Bool} (h : vD c e = some r) : Fn Tryz.prog 221 [.d (Z8 c), .i e] (.b r) := by
 unfold vD at h;refine oT [.tmp 4] func221 results221 ntmps221 ?_;refine aC (aA (ta Z2 (aB (aC (aC (aA (ta (.i 0) (aB (bD ?_)))))))));refine bP (S := Int) [0, 1] (fun s1 => [(5, .i s1)]) (fun s1 => []) (fun k s1 => lP c e k s1) (fun _ => rfl) (0) h (aO [] rfl rfl (aH rfl (aK (ae rfl)))) ?_;rintro k2 a h;simp only [lP] at h;refine aC (aC (aA (tm (.i a) (tm (Z40 c) (to (sle rfl bC.of) (to (scm rfl rfl rfl) (aB ?_)))))));refine tih h (fun c3 h => ?_) (fun c3 h => ?_)
 ·refine aU (aC (bD (aC (aA (tm (Z40 c) (tm (.i a) ?_))))));obtain ⟨x4, h5, h⟩ := bns h;refine to (six rfl rfl bC.of (aW aF h5)) (to (slc rfl aQ) (tm (.i e) (to (scm rfl rfl rfl) (aB ?_))));refine tih h (fun c6 h => ?_) (fun c6 h => ?_)
  ·refine aC (aA (ta Z14 (aB ?_)));obtain rfl := sIn h;exact rt
  ·refine cA ?_;refine aA (tm (.i a) (to (sar rfl rfl rfl) (ta (.i (w64 (a + 1))) (aB ?_))));exact ⟨(w64 (a + 1)), h, aO [] rfl rfl (aH rfl (aK (ae rfl)))⟩
 ·refine bO ?_;refine .inl ⟨rfl, ?_⟩;simp only [yV] at h;refine aC (aA (ta Z2 (aB ?_)));obtain rfl := sIn h;exact rt

theorem aId (t : aP) (N : List aG) {r : (List Int) × Bool} (h : pD t N = some r) : Fn Tryz.prog 177 (Z37 t N) (.tup [.d (.sl 1 (r.1.map aF)), .b r.2]) := by
 unfold pD at h;refine oT [.tmp 4, .tmp 5] func177 results177 ntmps177 ?_;refine aC (aA ?_);refine bG rfl (cV (v := .agg (bI t)) (aE rfl) rfl rfl rfl) ?_;rintro _ ⟨b1, rfl⟩;refine to (sV 1 (aE rfl)) ?_;refine ta Z2 (aB (aC (aA (tm (Z51 N) ?_))));obtain ⟨r2, h3, h⟩ := bns h;refine to (eO (aE rfl) (.func _ _ call178) rfl rfl (aCz _ h3)) ?_;refine ta (.d (.sl 5 (r2.map aM))) (aB (aC (aA ?_)));refine bG rfl (zM (aE rfl) bC rfl rfl (rows := (([] : List Int)).map aF) rfl (bY (f := aF) fun _ => rfl) rfl (by decide)) ?_;rintro _ ⟨v4, rfl⟩;refine tfl 0 rfl rfl dW rfl cC ?_;obtain ⟨x5, h6, h⟩ := bns h;refine bG rfl (dL (i := 1) (aE rfl) bC rfl rfl rfl (fun _ => rfl) h6 rfl) ?_;rintro _ ⟨v7, rfl⟩;refine ta (.d (.lit v7)) (aB (aC (aA (to (fX 3 1 (.inl rfl) (aE rfl)) ?_))));refine aB (aC (aA (ta (.i 0) (aB (aC (aC (aA (ta (.i 0) (aB (bD ?_))))))))));refine bP (S := Int × Int × Z32 × Z32 × Value × Value) [2, 6] (fun s9 => [(7, .d (.lit s9.2.2.2.2.2)), (8, .d (.lit s9.2.2.2.2.1)), (9, .i s9.1), (10, .i s9.2.1)]) (fun s9 => [.box b1 0 (bI t), .arr s9.2.2.2.2.1 3 1 (s9.2.2.1.map aF), .arr s9.2.2.2.2.2 3 1 (s9.2.2.2.1.map aF)]) (fun k s9 => eA r2 t k s9.1 s9.2.1 s9.2.2.1 s9.2.2.2.1) (fun _ => rfl) (0, 0, ([] : List Int), x5, (.slice none 0 0), v7) h (aO [0, 2, 1] rfl rfl (aH rfl (aH rfl (aH rfl (aH rfl (aK (ae rfl))))))) ?_;rintro O ⟨B, n, e, M, H, a3⟩ h;simp only [eA] at h;refine aC (aC (aA (tm (.i n) (tfl 0 rfl rfl dW rfl cC (to (sle rfl bC.of) (to (scm rfl rfl rfl) (aB ?_)))))));refine tih h (fun a4 h => ?_) (fun a4 h => ?_)
 ·refine aU (aC (bD (aC (aA (tfl 0 rfl rfl dW rfl cC (tm (.i n) ?_))))));obtain ⟨P, a5, h⟩ := bns h;refine to (six rfl rfl bC.of (aW aF a5)) (to (slc rfl aQ) (ta (.i P) (aB (aC (aC (aA (ta Z14 (aB (bD ?_)))))))));refine bP (S := Int × Int × Bool × Z32 × Value) [2, 6, 8, 10] (fun y => [(7, .d (.lit y.2.2.2.2)), (9, .i y.1), (11, .i y.2.1), (12, .b y.2.2.1)]) (fun y => [.box b1 0 (bI t), .arr H 3 1 (e.map aF), .arr y.2.2.2.2 3 1 (y.2.2.2.1.map aF)]) (fun k y => fW (eA r2 t O) r2 n t e k y.1 y.2.1 y.2.2.1 y.2.2.2.1) (fun _ => rfl) (B, P, true, M, a3) h (aO [0, 1, 2] rfl rfl (aH rfl (aH rfl (aH rfl (aH rfl (aK (ae rfl))))))) ?_;rintro a6 ⟨g, j, J, w, K⟩ h;simp only [fW] at h;refine aC (aC (aA (tm (.b J) (aB ?_))));refine tih h (fun a7 h => ?_) (fun a7 h => ?_)
  ·refine aU (bD (aC (aA (ta Z2 (aB (aC (aA (to (fX 3 1 (.inl rfl) (aE rfl)) ?_))))))));refine aB (aC (aC (aA (ta (.i 0) (aB (bD ?_))))));refine bP (S := Int × Z32 × Value) [2, 6, 7, 8, 9, 10, 11, 12] (fun A => [(13, .d (.lit A.2.2)), (14, .i A.1)]) (fun A => [.box b1 0 (bI t), .arr H 3 1 (e.map aF), .arr A.2.2 3 1 (A.2.1.map aF), .arr K 3 1 (w.map aF)]) (fun k A => eV (eA r2 t O) (fW (eA r2 t O) r2 n t e a6) r2 g n j false t e w k A.1 A.2.1) (fun _ => rfl) (0, ([] : List Int), (.slice none 0 0)) h (aO [0, 1, 3, 2] rfl rfl (aH rfl (aH rfl (aK (ae rfl))))) ?_;rintro d1 ⟨a, x, C⟩ h;simp only [eV] at h;refine aC (aC (aA (tm (.i a) (tm (.d (.sl 5 (r2.map aM))) (to (sle rfl iT.of) (to (scm rfl rfl rfl) (aB ?_)))))));refine tih h (fun a8 h => ?_) (fun a8 h => ?_)
   ·refine aU (aC (bD (aC (aA (tm (.d (.sl 5 (r2.map aM))) (tm (.i a) ?_))))));obtain ⟨Q, a9, h⟩ := bns h;refine to (six rfl rfl iT.of (aW aM a9)) (to (sfc [.j Q.Kind] rfl qC) (to (slc rfl aQ) (to (scm rfl rfl rfl) (tm (.b (decide (Q.Kind = 5))) ?_))));obtain ⟨T, E, h⟩ := bns h;refine aV 8 [2, 6, 7, 8, 9, 10, 11, 12, 13, 14] 55 T ?_ ?_
    ·refine bch E (fun o E => ?_) (fun o E => ?_)
     ·refine tk o (sm (.d (.sl 5 (r2.map aM)))) (tk o (sm (.i a)) ?_);obtain ⟨U, b0, E⟩ := bns E;refine tk o (six rfl rfl iT.of (aW aM b0)) (tk o (sfc [.j U.Place] rfl lQ) (tk o (slc rfl aQ) (tk o (sm (.i n)) (tk o (scm rfl rfl rfl) (to (spt (.b (decide (U.Place = n))) o) ?_)))));obtain rfl := sIn E;refine aB (aJ rfl (ae rfl) rfl)
     ·refine tp o (tp o (tp o (tp o (tp o (tp o (tp o (to (spf Z2 o) ?_)))))));obtain rfl := sIn E;refine aB (aJ rfl (ae rfl) rfl)
    ·refine tm (.b T) ?_;obtain ⟨b2, F, h⟩ := bns h;refine aV 8 [2, 6, 7, 8, 9, 10, 11, 12, 13, 14] 64 b2 ?_ ?_
     ·refine bch F (fun p F => ?_) (fun p F => ?_)
      ·refine tk p (sm (.d (.sl 5 (r2.map aM)))) (tk p (sm (.i a)) ?_);obtain ⟨V, b3, F⟩ := bns F;refine tk p (six rfl rfl iT.of (aW aM b3)) (tk p (sfc [.j V.Old] rfl aBf) (tk p (slc rfl aQ) (tk p (sm (.i j)) (tk p (scm rfl rfl rfl) (to (spt (.b (decide (V.Old = j))) p) ?_)))));obtain rfl := sIn F;refine aB (aJ rfl (ae rfl) rfl)
      ·refine tp p (tp p (tp p (tp p (tp p (tp p (tp p (to (spf Z2 p) ?_)))))));obtain rfl := sIn F;refine aB (aJ rfl (ae rfl) rfl)
     ·refine aB ?_;refine tih h (fun b4 h => ?_) (fun b4 h => ?_)
      ·refine aA (tm (.d (.lit C)) (tm (.d (.sl 5 (r2.map aM))) (tm (.i a) ?_)));obtain ⟨W, b5, h⟩ := bns h;refine to (six rfl rfl iT.of (aW aM b5)) (to (sfc [.j W.Player] rfl qD) (to (slc rfl aQ) (to (dE (aE rfl) bC rfl rfl (rows := ([W.Player]).map aF) rfl (bY (f := aF) fun _ => rfl) rfl (by decide)) ?_)));obtain ⟨b6, b7, h⟩ := bns h;refine bG rfl (dL (i := 2) (aE rfl) bC rfl rfl rfl (fun _ => rfl) b7 rfl) ?_;rintro _ ⟨X, rfl⟩;refine ta (.d (.lit X)) ?_;refine cN ?_;refine aA (tm (.i a) (to (sar rfl rfl rfl) (ta (.i (w64 (a + 1))) (aB ?_))));exact ⟨(w64 (a + 1), b6, X), h, aO [0, 1, 2, 3] rfl rfl (aH rfl (aH rfl (aK (ae rfl))))⟩
      ·refine cA ?_;refine aA (tm (.i a) (to (sar rfl rfl rfl) (ta (.i (w64 (a + 1))) (aB ?_))));exact ⟨(w64 (a + 1), x, C), h, aO [0, 1, 2, 3] rfl rfl (aH rfl (aH rfl (aK (ae rfl))))⟩
   ·refine bO ?_;refine .inl ⟨rfl, ?_⟩;simp only [lU] at h;refine aC (aC (aA (tm (.d (.lit C)) (to (iH (m := 2) (aE rfl) rfl rfl bC.of) ?_))));refine to (scm rfl rfl rfl) (tm (.b (decide (1 < (x.length : Int)))) ?_);obtain ⟨b8, G, h⟩ := bns h;refine aV 11 [2, 6, 7, 8, 9, 10, 11, 12, 13] 87 b8 ?_ ?_
    ·refine bch G (fun s G => ?_) (fun s G => ?_)
     ·refine tp s (tp s (tp s (tp s (tq (tq (tq (tq (tq (tp s (to (spt Z14 s) ?_))))))))));obtain rfl := sIn G;refine aB (aJ rfl (ae rfl) rfl)
     ·refine tk s (sm (.d (.lit C))) (tk s (iH (m := 2) (aE rfl) rfl rfl bC.of) ?_);refine tk s (scm rfl rfl rfl) (tk s (sm (.b (decide ((x.length : Int) = 1)))) ?_);obtain ⟨Y, z, G⟩ := bns G;refine aV 6 [2, 6, 7, 8, 9, 10, 11, 12, 13, 76, 77, 78, 79, 80] 86 Y ?_ ?_
      ·refine bch z (fun u z => ?_) (fun u z => ?_)
       ·refine tk u (sm (.d (.lit K))) (tk u (sm (.d (.lit C))) ?_);obtain ⟨d2, Z, z⟩ := bns z;refine tk u (gS (m := 2) (aE rfl) rfl rfl rfl bC.of (aW aF Z)) ?_;refine tk u (gJ (aE rfl) rfl (m := 2) rfl (dI aF Z) rfl aQ) ?_;obtain ⟨b9, c0, z⟩ := bns z;refine tk u (sc call221 (aPc _ _ c0) (.cons (.d (gZ 3 rfl (bY (f := aF) fun _ => rfl))) (.cons (.same _) .nil))) (tk s (spt (.b b9) u) ?_);obtain rfl := sIn z;refine aB (aJ rfl (ae rfl) rfl)
       ·refine tp u (tp u (tp u (tp u (tp u (tk s (spf Z2 u) ?_)))));obtain rfl := sIn z;refine aB (aJ rfl (ae rfl) rfl)
      ·refine to (spf (.b Y) s) ?_;obtain rfl := sIn G;refine aB (aJ rfl (ae rfl) rfl)
    ·refine aB ?_;refine tih h (fun c1 h => ?_) (fun c1 h => ?_)
     ·refine aC (aA (to (sV 1 (aE rfl)) ?_));refine ta Z2 (aB ?_);obtain rfl := sIn h;refine bK (bE (bH (l := [4, 5]) (ae rfl))) ?_;exact cD ⟨rfl, _, .two _ _, rfl, rfl⟩
     ·refine aU (aC (aA (tm (.d (.lit C)) (to (iH (m := 2) (aE rfl) rfl rfl bC.of) ?_))));refine to (scm rfl rfl rfl) (aB ?_);refine tih h (fun c2 h => ?_) (fun c2 h => ?_)
      ·refine aC (aA (tm (.d (.lit C)) ?_));obtain ⟨L, a0, h⟩ := bns h;refine to (gS (m := 2) (aE rfl) rfl rfl rfl bC.of (aW aF a0)) ?_;refine to (gJ (aE rfl) rfl (m := 2) rfl (dI aF a0) rfl aQ) ?_;refine ta (.i L) (aB (aC (aA (tm (.d (.lit K)) (tm (.i L) (to (dE (aE rfl) bC rfl rfl (rows := ([L]).map aF) rfl (bY (f := aF) fun _ => rfl) rfl (by decide)) ?_))))));obtain ⟨c3, c4, h⟩ := bns h;refine bG rfl (dL (i := 3) (aE rfl) bC rfl rfl rfl (fun _ => rfl) c4 rfl) ?_;rintro _ ⟨a1, rfl⟩;refine ta (.d (.lit a1)) (aB (aC (aA (tm (.i g) (to (sar rfl rfl rfl) (ta (.i (w64 (g + 1))) (aB (aA (ta Z14 ?_)))))))));refine cN ?_;simp only [kG] at h;exact ⟨(w64 (g + 1), L, true, c3, a1), h, aO [0, 1, 3] rfl rfl (aH rfl (aH rfl (aH rfl (aH rfl (aK (ae rfl))))))⟩
      ·refine cA ?_;simp only [kG] at h;exact ⟨(g, j, false, w, K), h, aO [0, 1, 3] rfl rfl (aH rfl (aH rfl (aH rfl (aH rfl (aK (ae rfl))))))⟩
  ·refine bO ?_;refine .inl ⟨rfl, ?_⟩;simp only [pT] at h;refine aA (tm (.d (.lit H)) (tm (.i j) (to (dE (aE rfl) bC rfl rfl (rows := ([j]).map aF) rfl (bY (f := aF) fun _ => rfl) rfl (by decide)) ?_)));obtain ⟨c5, c6, h⟩ := bns h;refine bG rfl (dL (i := 1) (aE rfl) bC rfl rfl rfl (fun _ => rfl) c6 rfl) ?_;rintro _ ⟨a2, rfl⟩;refine ta (.d (.lit a2)) ?_;refine cN ?_;simp only [tT] at h;refine aA (tm (.i n) (to (sar rfl rfl rfl) (ta (.i (w64 (n + 1))) (aB ?_))));exact ⟨(g, w64 (n + 1), c5, w, a2, K), h, aO [0, 1, 2] rfl rfl (aH rfl (aH rfl (aH rfl (aH rfl (aK (ae rfl))))))⟩
 ·refine bO ?_;refine .inl ⟨rfl, ?_⟩;simp only [tS] at h;refine aC (aC (aA (ta (.i 0) (aB (bD ?_)))));refine bP (S := Int × Int) [6, 8] (fun I => [(9, .i I.1), (15, .i I.2)]) (fun I => [.arr H 3 1 (e.map aF)]) (fun k I => eW r2 e k I.1 I.2) (fun _ => rfl) (B, 0) h (aO [1] rfl rfl (aH rfl (aH rfl (aK (ae rfl))))) ?_;rintro d3 ⟨c, q⟩ h;simp only [eW] at h;refine aC (aC (aA (tm (.i q) (tm (.d (.sl 5 (r2.map aM))) (to (sle rfl iT.of) (to (scm rfl rfl rfl) (aB ?_)))))));refine tih h (fun c7 h => ?_) (fun c7 h => ?_)
  ·refine aU (aC (bD (aC (aA (tm (.d (.sl 5 (r2.map aM))) (tm (.i q) ?_))))));obtain ⟨c8, c9, h⟩ := bns h;refine to (six rfl rfl iT.of (aW aM c9)) (to (sfc [.j c8.Kind] rfl qC) (to (slc rfl aQ) (to (scm rfl rfl rfl) (aB ?_))));refine tih h (fun d0 h => ?_) (fun d0 h => ?_)
   ·refine aA (tm (.i c) (to (sar rfl rfl rfl) (ta (.i (w64 (c - 1))) ?_)));refine cN ?_;refine aA (tm (.i q) (to (sar rfl rfl rfl) (ta (.i (w64 (q + 1))) (aB ?_))));exact ⟨(w64 (c - 1), w64 (q + 1)), h, aO [0] rfl rfl (aH rfl (aH rfl (aK (ae rfl))))⟩
   ·refine cA ?_;refine aA (tm (.i q) (to (sar rfl rfl rfl) (ta (.i (w64 (q + 1))) (aB ?_))));exact ⟨(c, w64 (q + 1)), h, aO [0] rfl rfl (aH rfl (aH rfl (aK (ae rfl))))⟩
  ·refine bO ?_;refine .inl ⟨rfl, ?_⟩;simp only [tU] at h;refine aC (aA (tm (.d (.lit H)) (tm (.i c) (to (scm rfl rfl rfl) (ta (.d (.lit H)) (ta (.b (decide (c = 0))) (aB ?_)))))));obtain rfl := sIn h;refine bK (bE (pQ (k := 5) (v := .b (decide (c = 0))) (.same _) (pQ (k := 4) (v := .d (.sl 1 (e.map aF))) (.d (gZ 0 rfl (bY (f := aF) fun _ => rfl))) (aDu)))) ?_;exact cD ⟨rfl, _, .two _ _, rfl, rfl⟩

theorem aMx (A : aP) (U : List aG) {r : aS × Bool} (h : dX A U = some r) : Fn Tryz.prog 122 (Z37 A U) (.tup [.agg (cK r.1), .b r.2]) := by
 unfold dX at h;refine kR func122 rfl (rs := [.cell 4 201, .tmp 5]) results122 ntmps122 (Nat.le_of_ble_eq_true rfl) ?_;refine aC (aA ?_);refine bG rfl (cV (v := .agg (bI A)) (aE rfl) rfl rfl rfl) ?_;rintro _ ⟨b1, rfl⟩;refine bG rfl (cJ (zs := Z13) (aE rfl) zeroValue201 rfl rfl) ?_;rintro _ ⟨b2, rfl⟩;refine ta Z2 (aB (aC (aA (to (sla 0 (bI A) rfl rfl kD) (tm (Z51 U) ?_)))));obtain ⟨r3, h4, h⟩ := bns h;refine to (eO (aE rfl) (.func _ _ call177) rfl rfl (aId _ _ h4)) ?_;refine tm (.tup [.d (.sl 1 (r3.1.map aF)), .b r3.2]) (to (sex rfl rfl) (to (sex rfl rfl) (ta (.d (.sl 1 (r3.1.map aF))) (ta (.b r3.2) (aB (aC (aC (aA (tm (.b r3.2) (to (sn rfl) (aB ?_)))))))))));refine tih h (fun c5 h => ?_) (fun c5 h => ?_)
 ·refine aC (aA (to (cZ (aE rfl) aHo (zs := Z13) rfl rfl rfl rfl (es := Z13) rfl) ?_));refine to (sst 1 rfl rfl sizeOf201 (cK Z5)) (ta Z2 (aB ?_));obtain rfl := sIn h;exact cD ⟨rfl, _, [.box b1 0 (bI A), .box b2 0 (cK Z5)], .two (.cell 4 201 rfl (i := 1) rfl aDt (es := (cK Z5)) rfl rfl) (.tmp 5 (v := .b false) rfl), .refl _, .same _⟩
 ·refine aU (aC (aA (tm (.d (.sl 1 (r3.1.map aF))) (to (cZ (aE rfl) aHo (zs := [.sl 1 Z6, .lit (.slice none 0 0)]) rfl rfl rfl rfl (es := [.sl 1 (r3.1.map aF), .lit (.slice none 0 0)]) rfl) ?_))));refine bG rfl (cJ (zs := [.sl 1 Z6, .lit (.slice none 0 0)]) (aE rfl) zeroValue201 rfl rfl) ?_;rintro _ ⟨b6, rfl⟩;refine gY (aIf 23 1) ?_;refine gY (aYr 3 1) ?_;refine to (sst 2 rfl rfl sizeOf201 [.sl 1 (r3.1.map aF), .lit (.slice none 0 0)]) (aB (aC (aC (aA (ta (.i 0) (aB (bD ?_)))))));refine bP (S := Int × (List Z32) × Z32 × (List Value) × Value) [1, 2, 4, 6, 8] (fun s7 => [(9, .i s7.1)]) (fun s7 => [.box b1 0 (bI A), .box b2 0 (cK Z5), .fam 3 1 s7.2.2.2.1 (s7.2.1.map fun r => r.map aF), .arr s7.2.2.2.2 23 1 (s7.2.2.2.1.map fun v => [.lit v]), .box b6 0 [.sl 1 (s7.2.2.1.map aF), .lit s7.2.2.2.2]]) (fun k s7 => gI U r3.1 A Z5 k s7.1 s7.2.1 s7.2.2.1) (fun _ => rfl) (0, ([] : List Z32), r3.1, [], (.slice none 0 0)) h (aO [0, 1, 4, 3, 2] rfl rfl (aH rfl (aK (ae rfl)))) ?_;rintro d4 ⟨s, T, e, N, w9⟩ h;simp only [gI] at h;refine aC (aC (aA (tm (.i s) (tfl 0 rfl rfl iN rfl aQ (to (scm rfl rfl rfl) (aB ?_))))));refine tih h (fun d5 h => ?_) (fun d5 h => ?_)
  ·refine aU (aC (bD (aC (aA (to (fX 3 1 (.inl rfl) (aE rfl)) ?_)))));refine aB (aC (aC (aA (ta (.i 0) (aB (bD ?_))))));refine bP (S := Int × Z32 × Value) [1, 2, 4, 6, 8, 9] (fun O => [(10, .d (.lit O.2.2)), (11, .i O.1)]) (fun O => [.box b1 0 (bI A), .box b2 0 (cK Z5), .fam 3 1 N (T.map fun r => r.map aF), .arr w9 23 1 (N.map fun v => [.lit v]), .box b6 0 [.sl 1 (e.map aF), .lit w9], .arr O.2.2 3 1 (O.2.1.map aF)]) (fun k O => eH (gI U r3.1 A Z5 d4) U r3.1 s A Z5 T e k O.1 O.2.1) (fun _ => rfl) (0, ([] : List Int), (.slice none 0 0)) h (aO [0, 1, 2, 3, 4, 5] rfl rfl (aH rfl (aH rfl (aK (ae rfl))))) ?_;rintro i1 ⟨j, d0, J⟩ h;simp only [eH] at h;refine aC (aC (aA (tm (.i j) (to (sla 0 (bI A) rfl rfl kD) (tm (.i s) ?_)))));obtain ⟨i2, d6, h⟩ := bns h;refine to (scr call27 (aAv _ _ d6)) (to (scm rfl rfl rfl) (aB ?_));refine tih h (fun d7 h => ?_) (fun d7 h => ?_)
   ·refine aU (aC (bD (aC (aA (ta (.i (-2)) (aB (aC (aC (aA (tm (.i s) (to (scm rfl rfl rfl) (tm (.b (decide (s = 0))) ?_))))))))))));obtain ⟨d8, V, h⟩ := bns h;refine aV 7 [1, 2, 4, 6, 8, 9, 10, 11, 12] 55 d8 ?_ ?_
    ·refine bch V (fun z V => ?_) (fun z V => ?_)
     ·refine tk z (sm (.d (.sl 1 (r3.1.map aF)))) (tk z (sm (.i j)) (tk z (sar rfl rfl rfl) ?_));obtain ⟨d9, e0, V⟩ := bns V;refine tk z (six rfl rfl bC.of (aW aF e0)) (tk z (slc rfl aQ) (tk z (scm rfl rfl rfl) (to (spt (.b (decide (d9 = (-1)))) z) ?_)));obtain rfl := sIn V;refine aB (aJ rfl (ae rfl) rfl)
     ·refine tp z (tp z (tp z (tp z (tp z (tp z (to (spf Z2 z) ?_))))));obtain rfl := sIn V;refine aB (aJ rfl (ae rfl) rfl)
    ·refine aB ?_;refine tih h (fun e1 h => ?_) (fun e1 h => ?_)
     ·refine aA (tm (.d (.sl 1 (r3.1.map aF))) (tm (.i j) (to (sar rfl rfl rfl) (to (sar rfl rfl rfl) ?_))));obtain ⟨b3, e2, h⟩ := bns h;refine to (six rfl rfl bC.of (aW aF e2)) (to (slc rfl aQ) (ta (.i b3) (aB (aC (aC (aA (tm (.i s) (to (scm rfl rfl rfl) (tm (.b (decide (s = 0))) ?_)))))))));obtain ⟨e3, W, h⟩ := bns h;refine aV 8 [1, 2, 4, 6, 8, 9, 10, 11, 12] 72 e3 ?_ ?_
      ·refine bch W (fun u W => ?_) (fun u W => ?_)
       ·refine tk u (sm (.d (.sl 1 (r3.1.map aF)))) (tk u (sm (.i j)) (tk u (sar rfl rfl rfl) (tk u (sar rfl rfl rfl) ?_)));obtain ⟨e4, e5, W⟩ := bns W;refine tk u (six rfl rfl bC.of (aW aF e5)) (tk u (slc rfl aQ) (tk u (scm rfl rfl rfl) (to (spt (.b (decide (e4 = (-1)))) u) ?_)));obtain rfl := sIn W;refine aB (aJ rfl (ae rfl) rfl)
       ·refine tp u (tp u (tp u (tp u (tp u (tp u (tp u (to (spf Z2 u) ?_)))))));obtain rfl := sIn W;refine aB (aJ rfl (ae rfl) rfl)
      ·refine aB ?_;refine tih h (fun e6 h => ?_) (fun e6 h => ?_)
       ·refine aA (tm (.d (.sl 1 (r3.1.map aF))) (tm (.i j) (to (sar rfl rfl rfl) ?_)));obtain ⟨b4, e7, h⟩ := bns h;refine to (six rfl rfl bC.of (aW aF e7)) (to (slc rfl aQ) (ta (.i b4) (aB (aA (tm (.d (.lit J)) (tm (.i b4) (to (dE (aE rfl) bC rfl rfl (rows := ([b4]).map aF) rfl (bY (f := aF) fun _ => rfl) rfl (by decide)) ?_)))))));obtain ⟨e8, e9, h⟩ := bns h;refine bG rfl (dL (i := 5) (aE rfl) bC rfl rfl rfl (fun _ => rfl) e9 rfl) ?_;rintro _ ⟨c2, rfl⟩;refine ta (.d (.lit c2)) ?_;refine cN ?_;refine aA (tm (.i j) (to (sar rfl rfl rfl) (ta (.i (w64 (j + 1))) (aB ?_))));exact ⟨(w64 (j + 1), e8, c2), h, aO [0, 1, 2, 3, 4, 5] rfl rfl (aH rfl (aH rfl (aK (ae rfl))))⟩
       ·refine aU (aA (tm (.d (.lit J)) (tm (.i b3) (to (dE (aE rfl) bC rfl rfl (rows := ([b3]).map aF) rfl (bY (f := aF) fun _ => rfl) rfl (by decide)) ?_))));obtain ⟨f0, f1, h⟩ := bns h;refine bG rfl (dL (i := 5) (aE rfl) bC rfl rfl rfl (fun _ => rfl) f1 rfl) ?_;rintro _ ⟨c3, rfl⟩;refine ta (.d (.lit c3)) ?_;refine cN ?_;refine aA (tm (.i j) (to (sar rfl rfl rfl) (ta (.i (w64 (j + 1))) (aB ?_))));exact ⟨(w64 (j + 1), f0, c3), h, aO [0, 1, 2, 3, 4, 5] rfl rfl (aH rfl (aH rfl (aK (ae rfl))))⟩
     ·refine aU (aC (aC (aA (tm (.i s) (to (scm rfl rfl rfl) (tm (.b (decide (s = 0))) ?_))))));obtain ⟨f2, X, h⟩ := bns h;refine aV 8 [1, 2, 4, 6, 8, 9, 10, 11, 12] 72 f2 ?_ ?_
      ·refine bch X (fun w X => ?_) (fun w X => ?_)
       ·refine tk w (sm (.d (.sl 1 (r3.1.map aF)))) (tk w (sm (.i j)) (tk w (sar rfl rfl rfl) (tk w (sar rfl rfl rfl) ?_)));obtain ⟨f3, f4, X⟩ := bns X;refine tk w (six rfl rfl bC.of (aW aF f4)) (tk w (slc rfl aQ) (tk w (scm rfl rfl rfl) (to (spt (.b (decide (f3 = (-1)))) w) ?_)));obtain rfl := sIn X;refine aB (aJ rfl (ae rfl) rfl)
       ·refine tp w (tp w (tp w (tp w (tp w (tp w (tp w (to (spf Z2 w) ?_)))))));obtain rfl := sIn X;refine aB (aJ rfl (ae rfl) rfl)
      ·refine aB ?_;refine tih h (fun f5 h => ?_) (fun f5 h => ?_)
       ·refine aA (tm (.d (.sl 1 (r3.1.map aF))) (tm (.i j) (to (sar rfl rfl rfl) ?_)));obtain ⟨b5, f6, h⟩ := bns h;refine to (six rfl rfl bC.of (aW aF f6)) (to (slc rfl aQ) (ta (.i b5) (aB (aA (tm (.d (.lit J)) (tm (.i b5) (to (dE (aE rfl) bC rfl rfl (rows := ([b5]).map aF) rfl (bY (f := aF) fun _ => rfl) rfl (by decide)) ?_)))))));obtain ⟨f7, f8, h⟩ := bns h;refine bG rfl (dL (i := 5) (aE rfl) bC rfl rfl rfl (fun _ => rfl) f8 rfl) ?_;rintro _ ⟨c4, rfl⟩;refine ta (.d (.lit c4)) ?_;refine cN ?_;refine aA (tm (.i j) (to (sar rfl rfl rfl) (ta (.i (w64 (j + 1))) (aB ?_))));exact ⟨(w64 (j + 1), f7, c4), h, aO [0, 1, 2, 3, 4, 5] rfl rfl (aH rfl (aH rfl (aK (ae rfl))))⟩
       ·refine aU (aA (tm (.d (.lit J)) (tm (.i (-2)) (to (dE (aE rfl) bC rfl rfl (rows := ([(-2)]).map aF) rfl (bY (f := aF) fun _ => rfl) rfl (by decide)) ?_))));obtain ⟨f9, g0, h⟩ := bns h;refine bG rfl (dL (i := 5) (aE rfl) bC rfl rfl rfl (fun _ => rfl) g0 rfl) ?_;rintro _ ⟨c6, rfl⟩;refine ta (.d (.lit c6)) ?_;refine cN ?_;refine aA (tm (.i j) (to (sar rfl rfl rfl) (ta (.i (w64 (j + 1))) (aB ?_))));exact ⟨(w64 (j + 1), f9, c6), h, aO [0, 1, 2, 3, 4, 5] rfl rfl (aH rfl (aH rfl (aK (ae rfl))))⟩
   ·refine bO ?_;refine .inl ⟨rfl, ?_⟩;simp only [lX] at h;refine aA (tfl 4 rfl rfl zL rfl aLi (tm (.d (.lit J)) (to (dE (aE rfl) aAn rfl rfl (rows := [[.lit J]]) rfl (fun r hr => by cases hr with | head => rfl | tail _ h => cases h) rfl (by decide)) ?_)));obtain ⟨c7, c8, h⟩ := bns h;refine bG rfl (aVl (m := 3) (f := 2) (aE rfl) aAn rfl rfl rfl rfl c8 rfl) ?_;rintro _ ⟨a9, rfl⟩;refine gY (aWi (i := 2) [.box b1 0 (bI A), .box b2 0 (cK Z5), .fam 3 1 N (T.map fun r => r.map aF), .arr a9 23 1 ((N ++ [J]).map fun v => [.lit v]), .box b6 0 [.sl 1 (e.map aF), .lit w9]] [.box b1 0 (bI A), .box b2 0 (cK Z5), .fam 3 1 (N ++ [J]) (c7.map fun r => r.map aF), .arr a9 23 1 ((N ++ [J]).map fun v => [.lit v]), .box b6 0 [.sl 1 (e.map aF), .lit w9]] rfl rfl c8 rfl) ?_;refine to (sf rfl zL) (to (sst 4 rfl rfl sizeOf73 [.sl 1 (e.map aF), .lit a9]) ?_);refine cN ?_;simp only [wO] at h;refine aA (tm (.i s) (to (sar rfl rfl rfl) (ta (.i (w64 (s + 1))) (aB ?_))));exact ⟨(w64 (s + 1), c7, e, (N ++ [J]), a9), h, aO [0, 1, 2, 3, 4] rfl rfl (aH rfl (aK (ae rfl)))⟩
  ·refine bO ?_;refine .inl ⟨rfl, ?_⟩;simp only [lW] at h;refine aC (aA (tm (Z51 U) ?_));obtain ⟨C, g1, h⟩ := bns h;refine to (eO (aE rfl) (.func _ _ call178) rfl rfl (aCz _ g1)) ?_;refine ta (.d (.sl 5 (C.map aM))) (aB (aC (aC (aA (ta (.i 0) (aB (bD ?_)))))));refine bP (S := Int × aS × (List Z32) × (List Value)) [4, 6, 8, 13] (fun K => [(14, .i K.1)]) (fun K => [.box b2 0 (cK K.2.1), .fam 3 1 K.2.2.2 (K.2.2.1.map fun r => r.map aF), .arr w9 23 1 (K.2.2.2.map fun v => [.lit v]), .box b6 0 [.sl 1 (e.map aF), .lit w9]]) (fun k K => dJ r3.1 C e k K.1 K.2.1 K.2.2.1) (fun _ => rfl) (0, Z5, T, N) h (aO [1, 2, 3, 4] rfl rfl (aH rfl (aK (ae rfl)))) ?_;rintro b7 ⟨p, a0, t, x⟩ h;simp only [dJ] at h;refine aC (aC (aA (tm (.i p) (tm (.d (.sl 5 (C.map aM))) (to (sle rfl iT.of) (to (scm rfl rfl rfl) (aB ?_)))))));refine tih h (fun g2 h => ?_) (fun g2 h => ?_)
   ·refine aU (aC (bD (aC (aA (tm (.d (.sl 5 (C.map aM))) (tm (.i p) ?_))))));obtain ⟨n, g3, h⟩ := bns h;refine to (six rfl rfl iT.of (aW aM g3)) (to (tG (aM n) rfl mN) ?_);refine bG rfl (cJ (zs := [.j 0, .j 0, .j 0, .j 0, .j 0]) (aE rfl) zeroValue95 rfl rfl) ?_;rintro _ ⟨M, rfl⟩;refine to (sst 4 rfl rfl sizeOf95 (aM n)) (aB (aC (aC (aA (tfl 4 rfl rfl qC rfl aQ (to (scm rfl rfl rfl) (aB ?_)))))));refine tih h (fun g4 h => ?_) (fun g4 h => ?_)
    ·refine bO ?_;refine .inl ⟨rfl, ?_⟩;simp only [lY] at h;refine aA (tm (.i p) (to (sar rfl rfl rfl) (ta (.i (w64 (p + 1))) (aB ?_))));exact ⟨(w64 (p + 1), a0, t, x), h, aO [0, 1, 2, 3] rfl rfl (aH rfl (aK (ae rfl)))⟩
    ·refine aU (aC (aC (aA (ta (.i 0) (aB (bD ?_))))));refine bP (S := Int × aS) [4, 6, 8, 13, 14, 15] (fun a1 => [(16, .i a1.1)]) (fun a1 => [.box b2 0 (cK a1.2), .fam 3 1 x (t.map fun r => r.map aF), .arr w9 23 1 (x.map fun v => [.lit v]), .box b6 0 [.sl 1 (e.map aF), .lit w9], .box M 0 (aM n)]) (fun k a1 => iW (dJ r3.1 C e b7) r3.1 C p t e n k a1.1 a1.2) (fun _ => rfl) (0, a0) h (aO [0, 1, 2, 3, 4] rfl rfl (aH rfl (aK (ae rfl)))) ?_;rintro i3 ⟨E, H⟩ h;simp only [iW] at h;refine aC (aC (aA (tm (.i E) (tm (.i p) (to (scm rfl rfl rfl) (aB ?_))))));refine tih h (fun g5 h => ?_) (fun g5 h => ?_)
     ·refine aU (aC (bD (aC (aA (tm (.d (.sl 5 (C.map aM))) (tm (.i E) ?_))))));obtain ⟨a2, g6, h⟩ := bns h;refine to (six rfl rfl iT.of (aW aM g6)) (to (tG (aM a2) rfl mN) ?_);refine bG rfl (cJ (zs := [.j 0, .j 0, .j 0, .j 0, .j 0]) (aE rfl) zeroValue95 rfl rfl) ?_;rintro _ ⟨g7, rfl⟩;refine to (sst 5 rfl rfl sizeOf95 (aM a2)) (aB (aC (aA (tfl 5 rfl rfl qC rfl aQ (to (scm rfl rfl rfl) (tm (.b (!decide (a2.Kind = 5))) ?_))))));obtain ⟨c9, a7, h⟩ := bns h;refine aV 6 [4, 6, 8, 13, 14, 15, 16, 17] 121 c9 ?_ ?_
      ·refine bch a7 (fun F a7 => ?_) (fun F a7 => ?_)
       ·refine tkl 5 F rfl rfl rF rfl aQ (tkl 4 F rfl rfl rF rfl aQ (tk F (scm rfl rfl rfl) (to (spt (.b (decide (a2.Round = n.Round))) F) ?_)));obtain rfl := sIn a7;refine aB (aJ rfl (ae rfl) rfl)
       ·refine tp F (tp F (tp F (tp F (tp F (to (spf Z2 F) ?_)))));obtain rfl := sIn a7;refine aB (aJ rfl (ae rfl) rfl)
      ·refine tm (.b c9) ?_;obtain ⟨g8, a8, h⟩ := bns h;refine aV 6 [4, 6, 8, 13, 14, 15, 16] 128 g8 ?_ ?_
       ·refine bch a8 (fun G a8 => ?_) (fun G a8 => ?_)
        ·refine tkl 5 G rfl rfl lQ rfl aQ (tkl 4 G rfl rfl lQ rfl aQ (tk G (scm rfl rfl rfl) (to (spt (.b (decide (a2.Place = n.Place))) G) ?_)));obtain rfl := sIn a8;refine aB (aJ rfl (ae rfl) rfl)
        ·refine tp G (tp G (tp G (tp G (tp G (to (spf Z2 G) ?_)))));obtain rfl := sIn a8;refine aB (aJ rfl (ae rfl) rfl)
       ·refine aB ?_;refine tih h (fun g9 h => ?_) (fun g9 h => ?_)
        ·refine aC (aA (to (cZ (aE rfl) aHo (zs := Z13) rfl rfl rfl rfl (es := Z13) rfl) ?_));refine to (sst 0 rfl rfl sizeOf201 (cK Z5)) (ta Z2 (aB ?_));obtain rfl := sIn h;exact cD ⟨rfl, _, [.box b2 0 (cK Z5), .fam 3 1 x (t.map fun r => r.map aF), .arr w9 23 1 (x.map fun v => [.lit v]), .box b6 0 [.sl 1 (e.map aF), .lit w9], .box M 0 (aM n), .box g7 0 (aM a2)], .two (.cell 4 201 rfl (i := 0) rfl aDt (es := (cK Z5)) rfl rfl) (.tmp 5 (v := .b false) rfl), .refl _, .same _⟩
        ·refine cA ?_;refine aA (tm (.i E) (to (sar rfl rfl rfl) (ta (.i (w64 (E + 1))) (aB ?_))));exact ⟨(w64 (E + 1), H), h, aO [0, 1, 2, 3, 4] rfl rfl (aH rfl (aK (ae rfl)))⟩
     ·refine bO ?_;refine .inl ⟨rfl, ?_⟩;simp only [sL] at h;refine aC (aA (ta (.i (-1)) (aB (aC (aC (aA (ta (.i 0) (aB (bD ?_)))))))));refine bP (S := Int × Int) [4, 6, 8, 13, 14, 15] (fun a3 => [(18, .i a3.1), (19, .i a3.2)]) (fun a3 => [.box b2 0 (cK H), .fam 3 1 x (t.map fun r => r.map aF), .arr w9 23 1 (x.map fun v => [.lit v]), .box b6 0 [.sl 1 (e.map aF), .lit w9], .box M 0 (aM n)]) (fun k a3 => eB (dJ r3.1 C e b7) r3.1 C p H t e n k a3.1 a3.2) (fun _ => rfl) ((-1), 0) h (aO [0, 1, 2, 3, 4] rfl rfl (aH rfl (aH rfl (aK (ae rfl))))) ?_;rintro i4 ⟨c, q⟩ h;simp only [eB] at h;refine aC (aC (aA (tm (.i q) (tm (.d (.sl 1 (r3.1.map aF))) (to (sle rfl bC.of) (to (scm rfl rfl rfl) (aB ?_)))))));refine tih h (fun h0 h => ?_) (fun h0 h => ?_)
      ·refine aU (aC (bD (aC ?_)));obtain ⟨b8, h1, h⟩ := bns h;refine cI mix 6 [4, 6, 8, 13, 14, 15, 18, 19] [(139, .i b8), (141, .i n.Player)] ?_ ?_
       ·refine ⟨[(136, 0, .d (.sl 1 (r3.1.map aF))), (137, 1, .i q), (138, 2, .cp [.j b8]), (139, 3, .i b8), (140, 4, .bp M 0 3), (141, 5, .i n.Player)], ?_, ?_⟩
        · exact dk [0, 0, 102, 3, 0, 5] ⟨go (zm (.d (.sl 1 (r3.1.map aF)))),
 go (zm (.i q)),
 go (zix rfl rfl bC.of (aW aF h1)),
 go (zlc rfl aQ),
 go (zf rfl qD),
 go (zl 4 rfl rfl rfl aQ), trivial⟩
        · exact bT (aH rfl (aH rfl (aK (ae rfl))))
       ·refine to (scm rfl rfl rfl) (aB ?_);refine tih h (fun h2 h => ?_) (fun h2 h => ?_)
        ·refine aA (tm (.i q) (ta (.i q) ?_));refine cN ?_;refine aA (tm (.i q) (to (sar rfl rfl rfl) (ta (.i (w64 (q + 1))) (aB ?_))));exact ⟨(q, w64 (q + 1)), h, aO [0, 1, 2, 3, 4] rfl rfl (aH rfl (aH rfl (aK (ae rfl))))⟩
        ·refine cA ?_;refine aA (tm (.i q) (to (sar rfl rfl rfl) (ta (.i (w64 (q + 1))) (aB ?_))));exact ⟨(c, w64 (q + 1)), h, aO [0, 1, 2, 3, 4] rfl rfl (aH rfl (aH rfl (aK (ae rfl))))⟩
      ·refine bO ?_;refine .inl ⟨rfl, ?_⟩;simp only [iV] at h;refine aC (aC (aA (tm (.i c) (to (scm rfl rfl rfl) (tm (.b (decide (c < 0))) ?_)))));obtain ⟨h3, Y, h⟩ := bns h;refine aV 10 [4, 6, 8, 13, 14, 15, 18] 156 h3 ?_ ?_
       ·refine bch Y (fun o Y => ?_) (fun o Y => ?_)
        ·refine tp o (tp o (tp o (tp o (tp o (tp o (tp o (tp o (tp o (to (spt Z14 o) ?_)))))))));obtain rfl := sIn Y;refine aB (aJ rfl (ae rfl) rfl)
        ·refine tk o (sm (.i c)) (tkl 4 o rfl rfl rF rfl aQ (tk o (sar rfl rfl rfl) (tk o (sU (aE rfl) rfl runUnderlying3 runUnderlying160) ?_)));obtain ⟨h8, d1, Y⟩ := bns Y;refine tk o (aDl (aE rfl) rfl rfl (aFs d1)) ?_;refine tkl 4 o rfl rfl lQ rfl aQ (tk o (scm rfl rfl rfl) (to (spf (.b (!decide ((c.fdiv (2 ^ (min (uw (w64 (n.Round + 1))).toNat 64))) = n.Place))) o) ?_));obtain rfl := sIn Y;refine aB (aJ rfl (ae rfl) rfl)
       ·refine aB ?_;refine tih h (fun h5 h => ?_) (fun h5 h => ?_)
        ·refine aC (aA (to (cZ (aE rfl) aHo (zs := Z13) rfl rfl rfl rfl (es := Z13) rfl) ?_));refine to (sst 0 rfl rfl sizeOf201 (cK Z5)) (ta Z2 (aB ?_));obtain rfl := sIn h;exact cD ⟨rfl, _, [.box b2 0 (cK Z5), .fam 3 1 x (t.map fun r => r.map aF), .arr w9 23 1 (x.map fun v => [.lit v]), .box b6 0 [.sl 1 (e.map aF), .lit w9], .box M 0 (aM n)], .two (.cell 4 201 rfl (i := 0) rfl aDt (es := (cK Z5)) rfl rfl) (.tmp 5 (v := .b false) rfl), .refl _, .same _⟩
        ·refine aU (aC (aA (ta (.i 0) (aB ?_))));refine vQ ?_;refine bP (S := Int × aS × (List Z32) × (List Value)) [4, 6, 8, 13, 14, 15, 18] (fun L => [(20, .i L.1)]) (fun L => [.box b2 0 (cK L.2.1), .fam 3 1 L.2.2.2 (L.2.2.1.map fun r => r.map aF), .arr w9 23 1 (L.2.2.2.map fun v => [.lit v]), .box b6 0 [.sl 1 (e.map aF), .lit w9], .box M 0 (aM n)]) (fun k L => iA (dJ r3.1 C e b7) r3.1 C p c e n k L.1 L.2.1 L.2.2.1) (fun _ => rfl) (0, H, t, x) h (aO [0, 1, 2, 3, 4] rfl rfl (aH rfl (aK (ae rfl)))) ?_;rintro i5 ⟨a, Z, I, y⟩ h;simp only [iA] at h;refine aC (aC (aA (tm (.i a) (tfl 4 rfl rfl rF rfl aQ (to (scm rfl rfl rfl) (aB ?_))))));refine tih h (fun h6 h => ?_) (fun h6 h => ?_)
         ·refine aU (aC (bD (aC (aA (tm (.i c) (tm (.i a) (to (sar rfl rfl rfl) (to (sU (aE rfl) rfl runUnderlying3 runUnderlying160) ?_))))))));obtain ⟨i6, h7, h⟩ := bns h;refine to (aDl (aE rfl) rfl rfl (aFs h7)) ?_;refine ta (.i (c.fdiv (2 ^ (min (uw (w64 (a + 1))).toNat 64)))) (aB (aC (aC ?_)));obtain ⟨i7, P, h⟩ := bns h;obtain ⟨Q, b0, h⟩ := bns h;obtain ⟨d2, B, h⟩ := bns h;refine cI mix 22 [4, 6, 8, 13, 14, 15, 18, 20, 21] [(190, .b d2)] ?_ ?_
          ·refine bch B (fun l B => ?_) (fun l B => ?_)
           ·obtain ⟨h9, a4, B⟩ := bns B;obtain ⟨a5, b9, B⟩ := bns B;obtain rfl := sIn B;refine ⟨[(169, 0, .bp b6 0 1), (170, 1, .d (.lit w9)), (171, 2, .i a), (172, 3, .ep w9 1 a.toNat 0), (173, 4, .d (.lit (yX y a))), (174, 5, .i (c.fdiv (2 ^ (min (uw (w64 (a + 1))).toNat 64)))), (175, 6, .ep (yX y a) 1 (c.fdiv (2 ^ (min (uw (w64 (a + 1))).toNat 64))).toNat 0), (176, 7, .i Q), (177, 8, .b (!decide (Q = (-2)))), (178, 9, .b (!decide (Q = (-2)))), (179, 10, .bp b6 0 1), (180, 11, .d (.lit w9)), (181, 12, .i a), (182, 13, .ep w9 1 a.toNat 0), (183, 14, .d (.lit (yX y a))), (184, 15, .i (c.fdiv (2 ^ (min (uw (w64 (a + 1))).toNat 64)))), (185, 16, .ep (yX y a) 1 (c.fdiv (2 ^ (min (uw (w64 (a + 1))).toNat 64))).toNat 0), (186, 17, .i a5), (187, 18, .bp M 0 3), (188, 19, .i n.Player), (189, 20, .b (!decide (a5 = n.Player))), (190, 21, .b (!decide (a5 = n.Player)))], ?_, ?_⟩
            · exact dk [0, 1, 0, 203, 4, 0, 506, 7, 8, 9, 10, 1011, 10, 101213, 1014, 10, 101516, 1017, 10, 1019, 101820, 1021] ⟨go (zf rfl zL),
 go (zl 3 rfl rfl rfl aLi),
 go (zm (.i a)),
 go fun S hS => aAk (m := 2) (f := 1) (aE rfl) (aX hS rfl) rfl rfl (aX hS rfl) aAn.of P,
 go fun S hS => aBq (m := 2) (f := 1) (aE rfl) (aX hS rfl) rfl rfl P cC,
 go (zm (.i (c.fdiv (2 ^ (min (uw (w64 (a + 1))).toNat 64))))),
 go fun S hS => aBp (f := 1) (g := aF) (aE rfl) (aX hS rfl) rfl P (aX hS rfl) bC.of b0,
 go fun S hS => aJd (f := 1) (g := aF) (aE rfl) (aX hS rfl) rfl P b0 rfl aQ,
 go (zcm rfl rfl rfl),
 go (zm (.b (!decide (Q = (-2))))),
 gt l (zf rfl zL),
 gt l (zl 3 rfl rfl rfl aLi),
 gt l (zm (.i a)),
 gt l fun S hS => aAk (m := 2) (f := 1) (aE rfl) (aX hS rfl) rfl rfl (aX hS rfl) aAn.of a4,
 gt l fun S hS => aBq (m := 2) (f := 1) (aE rfl) (aX hS rfl) rfl rfl a4 cC,
 gt l (zm (.i (c.fdiv (2 ^ (min (uw (w64 (a + 1))).toNat 64))))),
 gt l fun S hS => aBp (f := 1) (g := aF) (aE rfl) (aX hS rfl) rfl a4 (aX hS rfl) bC.of b9,
 gt l fun S hS => aJd (f := 1) (g := aF) (aE rfl) (aX hS rfl) rfl a4 b9 rfl aQ,
 gt l (zf rfl qD),
 gt l (zl 4 rfl rfl rfl aQ),
 gt l (zcm rfl rfl rfl),
 go (zpt (.b (!decide (a5 = n.Player))) l), trivial⟩
            · exact bT (aH rfl (aK (ae rfl)))
           ·obtain rfl := sIn B;refine ⟨[(169, 0, .bp b6 0 1), (170, 1, .d (.lit w9)), (171, 2, .i a), (172, 3, .ep w9 1 a.toNat 0), (173, 4, .d (.lit (yX y a))), (174, 5, .i (c.fdiv (2 ^ (min (uw (w64 (a + 1))).toNat 64)))), (175, 6, .ep (yX y a) 1 (c.fdiv (2 ^ (min (uw (w64 (a + 1))).toNat 64))).toNat 0), (176, 7, .i Q), (177, 8, .b (!decide (Q = (-2)))), (178, 9, .b (!decide (Q = (-2)))), (179, 10, .tup []), (180, 11, .tup []), (181, 12, .tup []), (182, 13, .tup []), (183, 14, .tup []), (184, 15, .tup []), (185, 16, .tup []), (186, 17, .tup []), (187, 18, .tup []), (188, 19, .tup []), (189, 20, .tup []), (190, 21, .b false)], ?_, ?_⟩
            · exact dk [0, 1, 0, 203, 4, 0, 506, 7, 8, 9, 10, 1011, 10, 101213, 1014, 10, 101516, 1017, 10, 1019, 101820, 1021] ⟨go (zf rfl zL),
 go (zl 3 rfl rfl rfl aLi),
 go (zm (.i a)),
 go fun S hS => aAk (m := 2) (f := 1) (aE rfl) (aX hS rfl) rfl rfl (aX hS rfl) aAn.of P,
 go fun S hS => aBq (m := 2) (f := 1) (aE rfl) (aX hS rfl) rfl rfl P cC,
 go (zm (.i (c.fdiv (2 ^ (min (uw (w64 (a + 1))).toNat 64))))),
 go fun S hS => aBp (f := 1) (g := aF) (aE rfl) (aX hS rfl) rfl P (aX hS rfl) bC.of b0,
 go fun S hS => aJd (f := 1) (g := aF) (aE rfl) (aX hS rfl) rfl P b0 rfl aQ,
 go (zcm rfl rfl rfl),
 go (zm (.b (!decide (Q = (-2))))),
 gp l,
 gp l,
 gp l,
 gp l,
 gp l,
 gp l,
 gp l,
 gp l,
 gp l,
 gp l,
 gp l,
 go (zpf Z2 l), trivial⟩
            · exact bT (aH rfl (aK (ae rfl)))
          ·refine aB ?_;refine tih h (fun d3 h => ?_) (fun d3 h => ?_)
           ·refine aC (aA (to (cZ (aE rfl) aHo (zs := Z13) rfl rfl rfl rfl (es := Z13) rfl) ?_));refine to (sst 0 rfl rfl sizeOf201 (cK Z5)) (ta Z2 (aB ?_));obtain rfl := sIn h;exact cD ⟨rfl, _, [.box b2 0 (cK Z5), .fam 3 1 y (I.map fun r => r.map aF), .arr w9 23 1 (y.map fun v => [.lit v]), .box b6 0 [.sl 1 (e.map aF), .lit w9], .box M 0 (aM n)], .two (.cell 4 201 rfl (i := 0) rfl aDt (es := (cK Z5)) rfl rfl) (.tmp 5 (v := .b false) rfl), .refl _, .same _⟩
           ·refine aU ?_;obtain ⟨c0, a6, h⟩ := bns h;refine cI mix 8 [4, 6, 8, 13, 14, 15, 18, 20] [(196, .d (.lit (yX y a))), (197, .i (c.fdiv (2 ^ (min (uw (w64 (a + 1))).toNat 64)))), (199, .i n.Player)] ?_ ?_
            ·refine ⟨[(192, 0, .bp b6 0 1), (193, 1, .d (.lit w9)), (194, 2, .i a), (195, 3, .ep w9 1 a.toNat 0), (196, 4, .d (.lit (yX y a))), (197, 5, .i (c.fdiv (2 ^ (min (uw (w64 (a + 1))).toNat 64)))), (198, 6, .bp M 0 3), (199, 7, .i n.Player)], ?_, ?_⟩
             · exact dk [0, 1, 0, 203, 4, 0, 0, 7] ⟨go (zf rfl zL),
 go (zl 3 rfl rfl rfl aLi),
 go (zm (.i a)),
 go fun S hS => aAk (m := 2) (f := 1) (aE rfl) (aX hS rfl) rfl rfl (aX hS rfl) aAn.of a6,
 go fun S hS => aBq (m := 2) (f := 1) (aE rfl) (aX hS rfl) rfl rfl a6 cC,
 go (zm (.i (c.fdiv (2 ^ (min (uw (w64 (a + 1))).toNat 64))))),
 go (zf rfl qD),
 go (zl 4 rfl rfl rfl aQ), trivial⟩
             · exact bT (aH rfl (aH rfl (aH rfl (aK (ae rfl)))))
            ·obtain ⟨i0, c1, h⟩ := bns h;refine to (aBp (f := 1) (g := aF) (aE rfl) rfl rfl a6 rfl bC.of c1) ?_;refine to (aXf (f := 1) (g := aF) rfl rfl a6 c1 rfl rfl rfl sizeOf3 rfl (aE rfl) (Nat.le_of_ble_eq_true rfl) (a' := n.Player) rfl (c' := (I.set a.toNat (c0.set (c.fdiv (2 ^ (min (uw (w64 (a + 1))).toNat 64))).toNat n.Player))) rfl) ?_;refine cN ?_;refine aA (tm (.i a) (to (sar rfl rfl rfl) (ta (.i (w64 (a + 1))) (aB ?_))));exact ⟨(w64 (a + 1), Z, (I.set a.toNat (c0.set (c.fdiv (2 ^ (min (uw (w64 (a + 1))).toNat 64))).toNat n.Player)), y), h, aO [0, 1, 2, 3, 4] rfl rfl (aH rfl (aK (ae rfl)))⟩
         ·refine bO ?_;refine .inl ⟨rfl, ?_⟩;simp only [vX] at h;simp only [lY] at h;refine aA (tm (.i p) (to (sar rfl rfl rfl) (ta (.i (w64 (p + 1))) (aB ?_))));exact ⟨(w64 (p + 1), Z, I, y), h, aO [0, 1, 2, 3] rfl rfl (aH rfl (aK (ae rfl)))⟩
   ·refine bO ?_;refine .inl ⟨rfl, ?_⟩;simp only [wP] at h;refine aC (aA (to (sla 3 [.sl 1 (e.map aF), .lit w9] rfl rfl aDt) (to (sst 0 rfl rfl sizeOf201 [.sl 1 (e.map aF), .lit w9]) (ta Z14 (aB ?_)))));obtain rfl := sIn h;exact cD ⟨rfl, _, [.box b2 0 [.sl 1 (e.map aF), .lit w9], .fam 3 1 x (t.map fun r => r.map aF), .arr w9 23 1 (x.map fun v => [.lit v]), .box b6 0 [.sl 1 (e.map aF), .lit w9]], .two (.cell 4 201 rfl (i := 0) rfl aDt (es := [.sl 1 (e.map aF), .lit w9]) rfl rfl) (.tmp 5 (v := .b true) rfl), .refl _, aEc (.cons (.agg (dvc (.same _) (dvc (bGt 2 1 rfl rfl (h := gV) (fun _ => rfl)) dvn))) (.cons (.same _) .nil))⟩

theorem aKj (c : aP) (e : List aG) {r : Int} (h : eZ c e = some r) : Fn Tryz.prog 61 (Z37 c e) (.i r) := by
 unfold eZ at h;refine oT [.tmp 4] func61 results61 ntmps61 ?_;refine aC (aA ?_);refine bG rfl (cV (v := .agg (bI c)) (aE rfl) rfl rfl rfl) ?_;rintro _ ⟨b1, rfl⟩;refine ta (.i 0) (aB (aC (aC (aA (to (sla 0 (bI c) rfl rfl kD) ?_)))));obtain ⟨r2, h3, h⟩ := bns h;refine to (scr call24 (aJz _ h3)) (to (sn rfl) (aB ?_));refine tih h (fun c4 h => ?_) (fun c4 h => ?_)
 ·refine aC (aA (ta (.i 70) (aB ?_)));obtain rfl := sIn h;refine bK (bE (bH (l := [4]) (ae rfl))) ?_;exact rt
 ·refine aU (aC (aC (aA (tm (Z51 e) (to (sle rfl iT.of) (to (scm rfl rfl rfl) (aB ?_)))))));refine tih h (fun c5 h => ?_) (fun c5 h => ?_)
  ·refine aC (aA (ta (.i 71) (aB ?_)));obtain rfl := sIn h;refine bK (bE (bH (l := [4]) (ae rfl))) ?_;exact rt
  ·refine aU (aC (aC (aA (ta (.i 0) (aB (bD ?_))))));refine bP (S := Int) [1, 2] (fun s6 => [(5, .i s6)]) (fun s6 => [.box b1 0 (bI c)]) (fun k s6 => hZ e c k s6) (fun _ => rfl) (0) h (aO [0] rfl rfl (aH rfl (aK (ae rfl)))) ?_;rintro k7 a h;simp only [hZ] at h;refine aC (aC (aA (tm (.i a) (tm (Z51 e) (to (sle rfl iT.of) (to (scm rfl rfl rfl) (aB ?_)))))));refine tih h (fun c8 h => ?_) (fun c8 h => ?_)
   ·refine aU (aC (bD (aC ?_)));obtain ⟨x9, g, h⟩ := bns h;refine cI mix 5 [1, 2, 5] [(20, .agg (bI c)), (24, .agg (aM x9))] ?_ ?_
    ·refine ⟨[(20, 0, .agg (bI c)), (21, 1, .d (Z12 e)), (22, 2, .i a), (23, 3, .cp [.j x9.Kind, .j x9.Round, .j x9.Place, .j x9.Player, .j x9.Old]), (24, 4, .agg (aM x9))], ?_, ?_⟩
     · exact dk [0, 0, 0, 203, 4] ⟨go (zla 0 (bI c) rfl rfl kD),
 go (zm (Z51 e)),
 go (zm (.i a)),
 go (zix rfl rfl iT.of (aW aM g)),
 go (aFg (aM x9) rfl mN), trivial⟩
     · exact bT (aH rfl (aH rfl (aK (ae rfl))))
    ·obtain ⟨p, j, h⟩ := bns h;refine to (scr call121 (aKa _ _ j)) (to (sn rfl) (aB ?_));refine tih h (fun m h => ?_) (fun m h => ?_)
     ·refine aC (aA (ta (.i 71) (aB ?_)));obtain rfl := sIn h;refine bK (bE (bH (l := [4]) (ae rfl))) ?_;exact rt
     ·refine cA ?_;refine aA (tm (.i a) (to (sar rfl rfl rfl) (ta (.i (w64 (a + 1))) (aB ?_))));exact ⟨(w64 (a + 1)), h, aO [0] rfl rfl (aH rfl (aK (ae rfl)))⟩
   ·refine bO ?_;refine .inl ⟨rfl, ?_⟩;simp only [lF] at h;refine aC (aC (aA (to (sla 0 (bI c) rfl rfl kD) (tm (Z51 e) ?_))));obtain ⟨f, n, h⟩ := bns h;refine to (eO (aE rfl) (.func _ _ call122) rfl rfl (aMx _ _ n)) ?_;refine tm (.tup [.agg (cK f.1), .b f.2]) (to (sex rfl rfl) (to (sex rfl rfl) ?_));refine bG rfl (cJ (zs := Z13) (aE rfl) zeroValue201 rfl rfl) ?_;rintro _ ⟨q, rfl⟩;refine to (sst 1 rfl rfl sizeOf201 (cK f.1)) (ta (.b f.2) (aB (aC (aA (tm (.b f.2) (to (sn rfl) (aB ?_)))))));refine tih h (fun o h => ?_) (fun o h => ?_)
    ·refine aC (aA (ta (.i 72) (aB ?_)));obtain rfl := sIn h;refine bK (bE (bH (l := [4]) (ae rfl))) ?_;exact rt
    ·refine aU (aC (aA (ta (.i 0) (aB ?_))));obtain rfl := sIn h;refine bK (bE (bH (l := [4]) (ae rfl))) ?_;exact rt

theorem aOy (a0 : aP) (a1 : List aG) {r : Int} (h : sG a0 a1 = some r) : Fn Tryz.prog 14 (Z37 a0 a1) ((fun x : Int => .i x) r) := aIh (enc := fun x : Int => .i x) (aOx a0 a1 (aMs a0 a1 h (fun x => x = r) rfl))

theorem xW (x : List Int) {r : List Int} {x_v : Value} {e : TypeId} (h : slices_Sort_int x = some r) : dP Tryz.prog 103 [.d (.lit x_v)] [.arr x_v e 1 (x.map aF)] (fun r' o' => r' = .tup [] ∧ o' = [.arr x_v e 1 (r.map aF)]) := by
 unfold slices_Sort_int at h;split at h
 ·cases h;exact aZs (fun blk off cap zs w => Tryz.slices_Sort_int blk off cap zs w) (fun q cap w => Tryz.slices_Sort_int_none q cap w) (by assumption)
 ·cases h

theorem aSz (u : aP) (x : List aG) (c : Int) (o : Int) {Q : ((List Int) × Int) → Prop} (h : yB u x c o Q) : dP Tryz.prog 43 [.agg (bI u), .d (Z12 x), .i c, .i o] [] (fun r' o' => ∃ (r : (List Int) × Int), Q r ∧ r' = .tup [.d (.sl 1 (r.1.map aF)), .i r.2] ∧ o' = []) := by
 unfold yB at h;refine iF func43 rfl (rs := [.tmp 8, .tmp 9]) results43 ntmps43 (Nat.le_of_ble_eq_true rfl) ?_;refine aC (aA ?_);refine bG rfl (cV (v := .agg (bI u)) (aE rfl) rfl rfl rfl) ?_;rintro _ ⟨b1, rfl⟩;refine to (sV 1 (aE rfl)) ?_;refine ta (.i 0) (aB (aC (aA (to (sla 0 (bI u) rfl rfl kD) (tm (Z51 x) (tm (.i c) (tm (.i o) ?_)))))));refine bG rfl (xQ (aE rfl) (.func _ _ call84) rfl rfl (aTy _ _ _ _ h)) ?_;rintro _ ⟨_, _, ⟨r2, h, rfl, rfl⟩, rfl⟩;refine tm (.tup [cR bF r2.1, .agg (aL r2.2.1), .i r2.2.2]) (to (sex rfl rfl) (to (sex rfl rfl) (to (sex rfl rfl) ?_)));refine bG rfl (cJ (zs := [.j 0, .j 0]) (aE rfl) zeroValue143 rfl rfl) ?_;rintro _ ⟨b3, rfl⟩;refine ta (cR bF r2.1) (to (sst 1 rfl rfl sizeOf143 (aL r2.2.1)) (ta (.i r2.2.2) (aB (aC (aC (aA (tm (.i r2.2.2) (to (scm rfl rfl rfl) (aB ?_)))))))));refine tip h (fun c4 h => ?_) (fun c4 h => ?_)
 ·refine aC (aA (tm (.i r2.2.2) (to (sV 1 (aE rfl)) ?_)));refine ta (.i r2.2.2) (aB ?_);exact cD ⟨rfl, _, [], [.box b1 0 (bI u), .box b3 0 (aL r2.2.1)], _, .two (.tmp 8 (v := .d (.sl 1 ((([] : List Int)).map aF))) rfl) (.tmp 9 (v := .i r2.2.2) rfl), .refl _, .same _, (([] : List Int), r2.2.2), h, rfl, rfl⟩
 ·refine aU (aC (aA (to (fX 3 1 (.inl rfl) (aE rfl)) ?_)));refine aB (aC (aC (aA (tm (cR bF r2.1) ?_))));obtain ⟨x6, h7, h⟩ := dT h;refine to (aBr (enc := bF) (aE rfl) rfl h7) ?_;refine to (sfc [.sl 1 (x6.players.map aF)] rfl pH) (to (slc rfl cC) (to (sle rfl bC.of) (tm (.i 0) (aB (bD ?_)))));refine xH [2, 10, 11, 31, 32] (fun (s8 : Int × (List Int) × Value) => [(13, .d (.lit s8.2.2)), (33, .i s8.1)]) (fun (s8 : Int × (List Int) × Value) => [.box b3 0 (aL r2.2.1), .arr s8.2.2 3 1 (s8.2.1.map aF)]) (fun (k : Nat) (s8 : Int × (List Int) × Value) => kS Q c r2.1 x6.players (x6.players.length : Int) r2.2.1 k s8.1 s8.2.1) (fun _ h => h) (0, ([] : List Int), (.slice none 0 0)) h (aO [1, 2] rfl rfl (aH rfl (aH rfl (aK (ae rfl))))) ?_;rintro L ⟨e, q, w9⟩ h;simp only [kS] at h;refine aC (aA (to (scm rfl rfl rfl) (aB (aC ?_))));refine tip h (fun C h => ?_) (fun C h => ?_)
  ·refine aU (aC (bD (aC (aA (tm (.i e) ?_)))));obtain ⟨l, E, h⟩ := dT h;refine to (six rfl rfl bC.of (aW aF E)) (to (slc rfl aQ) (ta (.i e) (ta (.i l) (aB (aC ?_)))));obtain ⟨s, y, h⟩ := dT h;refine bK (aXp (enc := bF) (k := 10) rfl y) ?_;obtain ⟨M, t, h⟩ := dT h;obtain ⟨F, n, h⟩ := dT h;refine cI mix 16 [2, 10, 11, 13, 15, 31, 32, 33] [(53, .b F)] ?_ ?_
   ·refine bch t (fun j t => ?_) (fun j t => ?_)
    ·obtain ⟨m, z, t⟩ := bns t;obtain rfl := sIn t;refine bch n (fun g n => ?_) (fun g n => ?_)
     ·obtain ⟨w, G, n⟩ := bns n;obtain rfl := sIn n;refine ⟨[(38, 0, .i l), (39, 1, .b (!decide (l = (-1)))), (40, 2, .b (!decide (l = (-1)))), (41, 3, .i c), (42, 4, .i e), (43, 5, .agg (aL m)), (44, 6, .agg (aL r2.2.1)), (45, 7, .b (decide (m = r2.2.1))), (46, 8, .b (decide (m = r2.2.1))), (47, 9, .b (decide (m = r2.2.1))), (48, 10, .cp [.j s.Tree.Rounds, .sl 1 (s.Tree.Slots.map aF), .sl 1 (s.players.map aF), .mp false (s.won.map fun p : aD × Int => ((fun a : aD => Value.agg ((aL a).map bS).toArray) p.1, aF p.2))]), (49, 11, .i e), (50, 12, .i w), (51, 13, .i c), (52, 14, .b (decide (c < w))), (53, 15, .b (decide (c < w)))], ?_, ?_⟩
      · exact dk [0, 1, 2, 3, 3, 30405, 3, 30607, 308, 9, 10, 10, 101112, 10, 101314, 1015] ⟨go (zm (.i l)),
 go (zcm rfl rfl rfl),
 go (zm (.b (!decide (l = (-1))))),
 gt j (zm (.i c)),
 gt j (zm (.i e)),
 gt j fun S hS => eO (aE rfl) (.func _ _ call56) (ev2 (aX hS rfl) (ev2 (aX hS rfl) evn)) rfl (rC _ _ z),
 gt j (zla 0 (aL r2.2.1) rfl rfl nZ),
 gt j fun S hS => aTm (a := m) (b := r2.2.1) (aE rfl) (aX hS rfl) (aX hS rfl) rfl rfl Tryz.eqGuardType143 aGy,
 go (zpt (.b (decide (m = r2.2.1))) j),
 go (zm (.b (decide (m = r2.2.1)))),
 gt g (zm (.cp [.j s.Tree.Rounds, .sl 1 (s.Tree.Slots.map aF), .sl 1 (s.players.map aF), .mp false (s.won.map fun p : aD × Int => ((fun a : aD => Value.agg ((aL a).map bS).toArray) p.1, aF p.2))])),
 gt g (zm (.i e)),
 gt g fun S hS => cT (aE rfl) (.func _ _ call57) (ev2 (aX hS rfl) (ev2 (aX hS rfl) evn)) rfl (BVs.refl _ _) (aBt _ _ G) rfl,
 gt g (zm (.i c)),
 gt g (zcm rfl rfl rfl),
 go (zpt (.b (decide (c < w))) g), trivial⟩
      · exact bT (aH rfl (aK (ae rfl)))
     ·obtain rfl := sIn n;refine ⟨[(38, 0, .i l), (39, 1, .b (!decide (l = (-1)))), (40, 2, .b (!decide (l = (-1)))), (41, 3, .i c), (42, 4, .i e), (43, 5, .agg (aL m)), (44, 6, .agg (aL r2.2.1)), (45, 7, .b (decide (m = r2.2.1))), (46, 8, .b (decide (m = r2.2.1))), (47, 9, .b (decide (m = r2.2.1))), (48, 10, .tup []), (49, 11, .tup []), (50, 12, .tup []), (51, 13, .tup []), (52, 14, .tup []), (53, 15, .b false)], ?_, ?_⟩
      · exact dk [0, 1, 2, 3, 3, 30405, 3, 30607, 308, 9, 10, 10, 101112, 10, 101314, 1015] ⟨go (zm (.i l)),
 go (zcm rfl rfl rfl),
 go (zm (.b (!decide (l = (-1))))),
 gt j (zm (.i c)),
 gt j (zm (.i e)),
 gt j fun S hS => eO (aE rfl) (.func _ _ call56) (ev2 (aX hS rfl) (ev2 (aX hS rfl) evn)) rfl (rC _ _ z),
 gt j (zla 0 (aL r2.2.1) rfl rfl nZ),
 gt j fun S hS => aTm (a := m) (b := r2.2.1) (aE rfl) (aX hS rfl) (aX hS rfl) rfl rfl Tryz.eqGuardType143 aGy,
 go (zpt (.b (decide (m = r2.2.1))) j),
 go (zm (.b (decide (m = r2.2.1)))),
 gp g,
 gp g,
 gp g,
 gp g,
 gp g,
 go (zpf Z2 g), trivial⟩
      · exact bT (aH rfl (aK (ae rfl)))
    ·obtain rfl := sIn t;have g : false = false := rfl;have n := aDv g n;obtain rfl := sIn n;refine ⟨[(38, 0, .i l), (39, 1, .b (!decide (l = (-1)))), (40, 2, .b (!decide (l = (-1)))), (41, 3, .tup []), (42, 4, .tup []), (43, 5, .tup []), (44, 6, .tup []), (45, 7, .tup []), (46, 8, .b false), (47, 9, .b (false)), (48, 10, .tup []), (49, 11, .tup []), (50, 12, .tup []), (51, 13, .tup []), (52, 14, .tup []), (53, 15, .b false)], ?_, ?_⟩
     · exact dk [0, 1, 2, 3, 3, 30405, 3, 30607, 308, 9, 10, 10, 101112, 10, 101314, 1015] ⟨go (zm (.i l)),
 go (zcm rfl rfl rfl),
 go (zm (.b (!decide (l = (-1))))),
 gp j,
 gp j,
 gp j,
 gp j,
 gp j,
 go (zpf Z2 j),
 go (zm Z43),
 gp g,
 gp g,
 gp g,
 gp g,
 gp g,
 go (zpf Z2 g), trivial⟩
     · exact bT (aH rfl (aK (ae rfl)))
   ·refine aB ?_;refine bK (bAt (enc := bF) (k := 10) rfl y) ?_;refine tip h (fun H h => ?_) (fun H h => ?_)
    ·refine aA (tm (.d (.lit w9)) (tm (.i l) (to (dE (aE rfl) bC rfl rfl (rows := ([l]).map aF) rfl (bY (f := aF) fun _ => rfl) rfl (by decide)) ?_)));obtain ⟨I, J, h⟩ := dT h;refine bG rfl (dL (i := 1) (aE rfl) bC rfl rfl rfl (fun _ => rfl) J rfl) ?_;rintro _ ⟨A, rfl⟩;refine ta (.d (.lit A)) ?_;refine cN ?_;refine aA (to (sar rfl rfl rfl) (tm (.i (w64 (e + 1))) (aB ?_)));exact ⟨(w64 (e + 1), I, A), h, aO [0, 1] rfl rfl (aH rfl (aH rfl (aK (ae rfl))))⟩
    ·refine cA ?_;refine aA (to (sar rfl rfl rfl) (tm (.i (w64 (e + 1))) (aB ?_)));exact ⟨(w64 (e + 1), q, w9), h, aO [0, 1] rfl rfl (aH rfl (aH rfl (aK (ae rfl))))⟩
  ·refine bO ?_;refine .inl ⟨rfl, ?_⟩;simp only [aAy] at h;refine aC (aA (tm (.d (.lit w9)) ?_));obtain ⟨B, K, h⟩ := dT h;refine gY (aO [1, 0] rfl rfl (le_refl _)) ?_;refine bG rfl (dU (passed := [.arr w9 3 1 (q.map aF)]) (aE rfl) rfl (.func _ _ call103) rfl rfl (xW q K)) ?_;rintro _ ⟨_, _, ⟨rfl, rfl⟩, rfl⟩;refine aB (aC (aA (tm (.d (.lit w9)) (ta (.d (.lit w9)) (ta (.i 0) (aB ?_))))));exact cD ⟨rfl, _, [], [.arr w9 3 1 (B.map aF), .box b3 0 (aL r2.2.1)], _, .two (.tmp 8 (v := .d (.lit w9)) rfl) (.tmp 9 (v := .i 0) rfl), .refl _, aEc (.cons (.d (gZ 0 rfl (bY (f := aF) fun _ => rfl))) (.cons (.same _) .nil)), (B, 0), h, rfl, rfl⟩

theorem aTa (a0 : aP) (a1 : List aG) (a2 : Int) (a3 : Int) {r : (List Int) × Int} (h : vC a0 a1 a2 a3 = some r) : Fn Tryz.prog 43 [.agg (bI a0), .d (Z12 a1), .i a2, .i a3] ((fun x : (List Int) × Int => .tup [.d (.sl 1 (x.1.map aF)), .i x.2]) r) := aIh (enc := fun x : (List Int) × Int => .tup [.d (.sl 1 (x.1.map aF)), .i x.2]) (aSz a0 a1 a2 a3 (aOz a0 a1 a2 a3 h (fun x => x = r) rfl))

theorem aKf (c : bJ) (f : Int) {r : Int} (h : rB c f = some r) : Fn Tryz.prog 76 [.cp (bF c), .i f] (.i r) := by
 unfold rB at h;refine oT [.tmp 4] func76 results76 ntmps76 ?_;refine aC (aA (ta (.i 0) (aB (aC (aC (aA (tm (Z1 c) (to (qP (aE rfl) rfl) ?_))))))));refine to (sfc [.j c.Tree.Rounds, .sl 1 (Z46 c)] rfl zK) (to (sfc [.j c.Tree.Rounds] rfl iN) (to (slc rfl aQ) (tm (.i 0) (aB (bD ?_)))));refine bP (S := Int) [0, 1, 12] (fun s1 => [(13, .i s1)]) (fun s1 => []) (fun k s1 => jX c f c.Tree.Rounds k s1) (fun _ => rfl) (0) h (aO [] rfl rfl (aH rfl (aK (ae rfl)))) ?_;rintro k2 e h;simp only [jX] at h;refine aC (aA (to (scm rfl rfl rfl) (aB (aC ?_))));refine tih h (fun c3 h => ?_) (fun c3 h => ?_)
 ·refine aU (aC (bD (aC (aA (tm (.i e) (ta (.i e) (aB (aC ?_))))))));obtain ⟨r4, h5, h⟩ := bns h;refine cI mix 12 [0, 1, 5, 12, 13] [(6, .i (cW r4 0 c.won)), (26, .b (dO r4 c.won))] ?_ ?_
  ·refine ⟨[(17, 0, .cp [.j c.Tree.Rounds, .sl 1 (Z46 c), .sl 1 (Z65 c), .mp false (c.won.map fun p : aD × Int => ((fun a : aD => Value.agg ((aL a).map bS).toArray) p.1, aF p.2))]), (18, 1, .cp [.j c.Tree.Rounds, .sl 1 (Z46 c), .sl 1 (Z65 c), .mp false (c.won.map fun p : aD × Int => ((fun a : aD => Value.agg ((aL a).map bS).toArray) p.1, aF p.2))]), (19, 2, .cp [.mp false (c.won.map fun p : aD × Int => ((fun a : aD => Value.agg ((aL a).map bS).toArray) p.1, aF p.2))]), (20, 3, .d (.mp false (c.won.map fun p : aD × Int => ((fun a : aD => Value.agg ((aL a).map bS).toArray) p.1, aF p.2)))), (21, 4, .i e), (22, 5, .i f), (23, 6, .agg (aL r4)), (24, 7, .tup [.i (cW r4 0 c.won), .b (dO r4 c.won)]), (16, 8, .tup [.i (cW r4 0 c.won), .b (dO r4 c.won)]), (25, 9, .i (cW r4 0 c.won)), (26, 10, .b (dO r4 c.won)), (6, 11, .i (cW r4 0 c.won))], ?_, ?_⟩
   · exact dk [0, 1, 2, 3, 0, 0, 506, 407, 8, 9, 9, 10] ⟨go (zm (Z1 c)),
 go fun S hS => qP (aE rfl) (aX hS rfl),
 go (zfc [.mp false (c.won.map fun p : aD × Int => ((fun a : aD => Value.agg ((aL a).map bS).toArray) p.1, aF p.2))] rfl aCb),
 go (zlc rfl aHf),
 go (zm (.i e)),
 go (zm (.i f)),
 go fun S hS => eO (aE rfl) (.func _ _ call56) (ev2 (aX hS rfl) (ev2 (aX hS rfl) evn)) rfl (rC _ _ h5),
 go fun S hS => aJt (enc := aF) (agg := false) (l := c.won) (z := 0) (a := r4) (aE rfl) aDw underlying139 zeroValue3 (fun _ _ => .d (.lit _ rfl)) (aX hS rfl) rfl rfl (aX hS rfl) (sT (enc := aL) r4 rfl),
 go (zm (.tup [.i (cW r4 0 c.won), .b (dO r4 c.won)])),
 go (zex rfl rfl),
 go (zex rfl rfl),
 go (za (.i (cW r4 0 c.won))), trivial⟩
   · exact bT (aH rfl (aH rfl (aK (ae rfl))))
  ·refine ta (.b (dO r4 c.won)) (aB (aC (aA (tm (.b (dO r4 c.won)) (to (sn rfl) (tm (.b (!(dO r4 c.won))) ?_))))));obtain ⟨b6, h7, h⟩ := bns h;refine aV 10 [0, 1, 5, 12, 13] 39 b6 ?_ ?_
   ·refine bch h7 (fun c9 h7 => ?_) (fun c9 h7 => ?_)
    ·refine tp c9 (tp c9 (tp c9 (tp c9 (tp c9 (tp c9 (tp c9 (tp c9 (tp c9 (to (spt Z14 c9) ?_)))))))));obtain rfl := sIn h7;refine aB (aJ rfl (ae rfl) rfl)
    ·refine tk c9 (sm (.i (cW r4 0 c.won))) (tk c9 (sm (Z1 c)) (tk c9 (qP (aE rfl) rfl) ?_));refine tk c9 (sfc [.sl 1 (Z65 c)] rfl pH) (tk c9 (slc rfl cC) (tk c9 (sm (.i f)) ?_));obtain ⟨g, j, h7⟩ := bns h7;refine tk c9 (six rfl rfl bC.of (aW aF j)) (tk c9 (slc rfl aQ) (tk c9 (scm rfl rfl rfl) (to (spf (.b (!decide ((cW r4 0 c.won) = g))) c9) ?_)));obtain rfl := sIn h7;refine aB (aJ rfl (ae rfl) rfl)
   ·refine aB ?_;refine tih h (fun c8 h => ?_) (fun c8 h => ?_)
    ·refine aC (aA (tm (.i e) (ta (.i e) (aB ?_))));obtain rfl := sIn h;exact rt
    ·refine cA ?_;refine aA (to (sar rfl rfl rfl) (tm (.i (w64 (e + 1))) (aB ?_)));exact ⟨(w64 (e + 1)), h, aO [] rfl rfl (aH rfl (aK (ae rfl)))⟩
 ·refine bO ?_;refine .inl ⟨rfl, ?_⟩;simp only [vS] at h;refine aC (aA (tm (Z1 c) (to (qP (aE rfl) rfl) ?_)));refine to (sfc [.j c.Tree.Rounds, .sl 1 (Z46 c)] rfl zK) (to (sfc [.j c.Tree.Rounds] rfl iN) (to (slc rfl aQ) (ta (.i c.Tree.Rounds) (aB ?_))));obtain rfl := sIn h;exact rt

theorem aMt (e : aP) (l : List aG) (c : Int) {Q : (cH × Int) → Prop} (h : sE e l c Q) : dP Tryz.prog 25 [.agg (bI e), .d (Z12 l), .i c] [] (fun r' o' => ∃ (r : cH × Int), Q r ∧ r' = .tup [.agg (cB r.1), .i r.2] ∧ o' = []) := by
 unfold sE at h;refine iF func25 rfl (rs := [.cell 6 63, .tmp 7]) results25 ntmps25 (Nat.le_of_ble_eq_true rfl) ?_;refine aC (aA ?_);refine bG rfl (cV (v := .agg (bI e)) (aE rfl) rfl rfl rfl) ?_;rintro _ ⟨b1, rfl⟩;refine bG rfl (cJ (zs := [.j 0, .j 0]) (aE rfl) zeroValue63 rfl rfl) ?_;rintro _ ⟨b2, rfl⟩;refine ta (.i 0) (aB (aC (aA (to (sla 0 (bI e) rfl rfl kD) (tm (Z51 l) (tm (.i c) (to (dE (aE rfl) bC rfl rfl (rows := ([c]).map aF) rfl (bY (f := aF) fun _ => rfl) rfl (by decide)) ?_)))))));refine bG rfl (xQ (aE rfl) (.func _ _ call54) rfl rfl (aTb _ _ _ h)) ?_;rintro _ ⟨_, _, ⟨r3, h, rfl, rfl⟩, rfl⟩;refine tm (.tup [cR bF r3.1, .d (.sl 1 (r3.2.1.map aF)), .i r3.2.2]) (to (sex rfl rfl) (to (sex rfl rfl) (to (sex rfl rfl) (ta (cR bF r3.1) (ta (.d (.sl 1 (r3.2.1.map aF))) (ta (.i r3.2.2) (aB (aC (bD (aC (aA (tm (.i r3.2.2) (to (scm rfl rfl rfl) ?_)))))))))))));refine ta (.b (!decide (r3.2.2 = 0))) (aB ?_);refine tip h (fun c4 h => ?_) (fun c4 h => ?_)
 ·refine aC (aA (to (cZ (aE rfl) aCq (zs := [.j 0, .j 0]) rfl rfl rfl rfl (es := [.j 0, .j 0]) rfl) ?_));refine tm (.i r3.2.2) (to (sst 1 rfl rfl sizeOf63 Z19) (ta (.i r3.2.2) (aB ?_)));exact cD ⟨rfl, _, [], [.box b1 0 (bI e), .box b2 0 Z19], _, .two (.cell 6 63 rfl (i := 1) rfl xZ (es := Z19) rfl rfl) (.tmp 7 (v := .i r3.2.2) rfl), .refl _, .same _, ((cH.mk 0 0), r3.2.2), h, rfl, rfl⟩
 ·refine aC (aA (tm (.d (.sl 1 (r3.2.1.map aF))) ?_));obtain ⟨x5, h6, h⟩ := dT h;refine to (six rfl rfl bC.of (aW aF h6)) (to (slc rfl aQ) (to (scm rfl rfl rfl) (ta (.b (decide (x5 < 0))) (aB ?_))));refine tip h (fun c7 h => ?_) (fun c7 h => ?_)
  ·refine aC (aA (to (cZ (aE rfl) aCq (zs := [.j 0, .j 0]) rfl rfl rfl rfl (es := [.j 0, .j 0]) rfl) ?_));refine to (sst 1 rfl rfl sizeOf63 Z19) (ta (.i 3) (aB ?_));exact cD ⟨rfl, _, [], [.box b1 0 (bI e), .box b2 0 Z19], _, .two (.cell 6 63 rfl (i := 1) rfl xZ (es := Z19) rfl rfl) (.tmp 7 (v := .i 3) rfl), .refl _, .same _, ((cH.mk 0 0), 3), h, rfl, rfl⟩
  ·refine cA ?_;refine aC ?_;obtain ⟨x8, h9, h⟩ := dT h;refine bK (aXp (enc := bF) (k := 8) rfl h9) ?_;obtain ⟨n, o, h⟩ := dT h;obtain ⟨g, q, h⟩ := dT h;obtain ⟨m, s, h⟩ := dT h;refine cI mix 9 [6] [(35, .i g), (36, .cp [.j x8.Tree.Rounds, .sl 1 (x8.Tree.Slots.map aF), .sl 1 (x8.players.map aF), .mp false (x8.won.map fun p : aD × Int => ((fun a : aD => Value.agg ((aL a).map bS).toArray) p.1, aF p.2))]), (39, .i m)] ?_ ?_
   ·refine ⟨[(31, 0, .cp [.j x8.Tree.Rounds, .sl 1 (x8.Tree.Slots.map aF), .sl 1 (x8.players.map aF), .mp false (x8.won.map fun p : aD × Int => ((fun a : aD => Value.agg ((aL a).map bS).toArray) p.1, aF p.2))]), (32, 1, .d (.sl 1 (r3.2.1.map aF))), (33, 2, .cp [.j n]), (34, 3, .i n), (35, 4, .i g), (36, 5, .cp [.j x8.Tree.Rounds, .sl 1 (x8.Tree.Slots.map aF), .sl 1 (x8.players.map aF), .mp false (x8.won.map fun p : aD × Int => ((fun a : aD => Value.agg ((aL a).map bS).toArray) p.1, aF p.2))]), (37, 6, .d (.sl 1 (r3.2.1.map aF))), (38, 7, .cp [.j m]), (39, 8, .i m)], ?_, ?_⟩
    · exact dk [0, 0, 2, 3, 104, 0, 0, 7, 8] ⟨go (zm (.cp [.j x8.Tree.Rounds, .sl 1 (x8.Tree.Slots.map aF), .sl 1 (x8.players.map aF), .mp false (x8.won.map fun p : aD × Int => ((fun a : aD => Value.agg ((aL a).map bS).toArray) p.1, aF p.2))])),
 go (zm (.d (.sl 1 (r3.2.1.map aF)))),
 go (zix rfl rfl bC.of (aW aF o)),
 go (zlc rfl aQ),
 go fun S hS => cT (aE rfl) (.func _ _ call76) (ev2 (aX hS rfl) (ev2 (aX hS rfl) evn)) rfl (BVs.refl _ _) (aKf _ _ q) rfl,
 go (zm (.cp [.j x8.Tree.Rounds, .sl 1 (x8.Tree.Slots.map aF), .sl 1 (x8.players.map aF), .mp false (x8.won.map fun p : aD × Int => ((fun a : aD => Value.agg ((aL a).map bS).toArray) p.1, aF p.2))])),
 go (zm (.d (.sl 1 (r3.2.1.map aF)))),
 go (zix rfl rfl bC.of (aW aF s)),
 go (zlc rfl aQ), trivial⟩
    · exact bT (aH rfl (aH rfl (aH rfl (aK (ae rfl)))))
   ·obtain ⟨j, t, h⟩ := dT h;refine to (scr call57 (aBt _ _ t)) (to (cZ (aE rfl) aCq (zs := [.j 0, .j 0]) rfl rfl rfl rfl (es := [.j g, .j j]) rfl) ?_);refine to (sst 1 rfl rfl sizeOf63 (cB (cH.mk g j))) (ta (.i 0) (aB ?_));exact cD ⟨rfl, _, [], [.box b1 0 (bI e), .box b2 0 (cB (cH.mk g j))], _, .two (.cell 6 63 rfl (i := 1) rfl xZ (es := (cB (cH.mk g j))) rfl rfl) (.tmp 7 (v := .i 0) rfl), .refl _, .same _, ((cH.mk g j), 0), h, rfl, rfl⟩

theorem aMu (a0 : aP) (a1 : List aG) (a2 : Int) {r : cH × Int} (h : tH a0 a1 a2 = some r) : Fn Tryz.prog 25 [.agg (bI a0), .d (Z12 a1), .i a2] ((fun x : cH × Int => .tup [.agg (cB x.1), .i x.2]) r) := aIh (enc := fun x : cH × Int => .tup [.agg (cB x.1), .i x.2]) (aMt a0 a1 a2 (aJw a0 a1 a2 h (fun x => x = r) rfl))

theorem aEg (a : bA) (c : Int) {r : (List Int) × Int} (h : lL a c = some r) : Fn Tryz.prog 38 [.agg (aT a), .i c] (.tup [.d (.sl 1 (r.1.map aF)), .i r.2]) := by
 unfold lL at h;refine oT [.tmp 4, .tmp 5] func38 results38 ntmps38 ?_;refine aC (aA ?_);refine bG rfl (cV (v := .agg (aT a)) (aE rfl) rfl rfl rfl) ?_;rintro _ ⟨b1, rfl⟩;refine to (sV 1 (aE rfl)) ?_;refine ta (.i 0) (aB (aC (aC (aA (to (sla 0 (aT a) rfl rfl eT) ?_)))));obtain ⟨r2, h3, h⟩ := bns h;refine to (scr call95 (aTd _ h3)) (ta (.i r2) (aB (aC (aA (tm (.i r2) (to (scm rfl rfl rfl) (aB ?_)))))));refine tih h (fun c4 h => ?_) (fun c4 h => ?_)
 ·refine aC (aA (tm (.i r2) (to (sV 1 (aE rfl)) ?_)));refine ta (.i r2) (aB ?_);obtain rfl := sIn h;refine bK (bE (bH (l := [4, 5]) (ae rfl))) ?_;exact cD ⟨rfl, _, .two _ _, rfl, rfl⟩
 ·refine aU (aC (aC (aA (tm (.i c) (to (scm rfl rfl rfl) (aB ?_))))));refine tih h (fun c5 h => ?_) (fun c5 h => ?_)
  ·refine aC (aA (to (sV 1 (aE rfl)) ?_));refine ta (.i 1) (aB ?_);obtain rfl := sIn h;refine bK (bE (bH (l := [4, 5]) (ae rfl))) ?_;exact cD ⟨rfl, _, .two _ _, rfl, rfl⟩
  ·refine aU (aC (aA (to (sla 0 (aT a) rfl rfl eT) (tm (.i c) ?_))));obtain ⟨r6, h7, h⟩ := bns h;refine to (eO (aE rfl) (.func _ _ call52) rfl rfl (aUe _ _ h7)) ?_;refine tm (.tup [.d (.sl 1 (r6.1.map aF)), .b r6.2]) (to (sex rfl rfl) (to (sex rfl rfl) (ta (.d (.sl 1 (r6.1.map aF))) (ta (.b r6.2) (aB (aC (aC (aA (tm (.b r6.2) (to (sn rfl) (aB ?_)))))))))));refine tih h (fun c8 h => ?_) (fun c8 h => ?_)
   ·refine aC (aA (to (sV 1 (aE rfl)) ?_));refine ta (.i 1) (aB ?_);obtain rfl := sIn h;refine bK (bE (bH (l := [4, 5]) (ae rfl))) ?_;exact cD ⟨rfl, _, .two _ _, rfl, rfl⟩
   ·refine aU (aC (aA (tm (.d (.sl 1 (r6.1.map aF))) (ta (.d (.sl 1 (r6.1.map aF))) (ta (.i 0) (aB ?_))))));obtain rfl := sIn h;refine bK (bE (bH (l := [4, 5]) (ae rfl))) ?_;exact cD ⟨rfl, _, .two _ _, rfl, rfl⟩

theorem aHz {r : bB} (h : pB = some r) : Fn Tryz.prog 94 [] (.agg (aY r)) := by
 unfold pB at h;refine kR func94 rfl (rs := [.cell 0 113]) results94 ntmps94 (Nat.le_of_ble_eq_true rfl) ?_;refine aC (aA ?_);refine bG rfl (cJ (zs := [.j 0, .sl 1 Z6, .sl 5 Z22, .sl 1 Z6, .j 0, .sl 3 Z47, .sl 2 Z23, .sl 3 Z24, .sl 4 Z25]) (aE rfl) zeroValue113 rfl rfl) ?_;rintro _ ⟨b1, rfl⟩;refine aB (aC (aA (to (dE (aE rfl) bC rfl rfl (rows := Z59.map aF) rfl (bY (f := aF) fun _ => rfl) rfl (by decide)) ?_)));refine to (cZ (aE rfl) aVv (zs := [.j 0, .sl 1 Z6]) rfl rfl rfl rfl (es := [.j 2, .sl 1 ((Z59).map aF)]) rfl) ?_;refine to (cZ (aE rfl) bCh (zs := [.j 0, .j 0, .j 0, .j 0, .j 0]) rfl rfl rfl rfl (es := [.j 1, .j 0, .j 0, .j 1, .j 0]) rfl) ?_;refine to (dE (aE rfl) iT rfl rfl (rows := ([(aG.mk 1 0 0 1 0)]).map aM) rfl (bY (f := aM) fun _ => rfl) rfl (by decide)) ?_;refine to (dE (aE rfl) bC rfl rfl (rows := ([100, 300, 1001]).map aF) rfl (bY (f := aF) fun _ => rfl) rfl (by decide)) ?_;refine to (cZ (aE rfl) aDz (zs := [.j 0, .j 0, .j 0]) rfl rfl rfl rfl (es := [.j 1, .j 11, .j 12]) rfl) ?_;refine to (cZ (aE rfl) aDz (zs := [.j 0, .j 0, .j 0]) rfl rfl rfl rfl (es := [.j 2, .j 21, .j 22]) rfl) ?_;refine to (cZ (aE rfl) aDz (zs := [.j 0, .j 0, .j 0]) rfl rfl rfl rfl (es := [.j 3, .j 31, .j (-1)]) rfl) ?_;refine to (cZ (aE rfl) aDz (zs := [.j 0, .j 0, .j 0]) rfl rfl rfl rfl (es := [.j 4, .j 41, .j (-1)]) rfl) ?_;refine to (dE (aE rfl) kV rfl rfl (rows := Z53.map bQ) rfl (bY (f := bQ) fun _ => rfl) rfl (by decide)) ?_;refine to (cZ (aE rfl) bGc (zs := [.j 0, .j 0]) rfl rfl rfl rfl (es := [.j 11, .j 250]) rfl) ?_;refine to (dE (aE rfl) aAm rfl rfl (rows := ([(dH.mk 11 250)]).map cM) rfl (bY (f := cM) fun _ => rfl) rfl (by decide)) ?_;refine to (cZ (aE rfl) aYe (zs := [.j 0, .j 0, .j 0]) rfl rfl rfl rfl (es := [.j 21, .j 3, .j 2]) rfl) ?_;refine to (cZ (aE rfl) aYe (zs := [.j 0, .j 0, .j 0]) rfl rfl rfl rfl (es := [.j 22, .j 1, .j 3]) rfl) ?_;refine to (dE (aE rfl) aHk rfl rfl (rows := ([(cS.mk 21 3 2), (cS.mk 22 1 3)]).map cP) rfl (bY (f := cP) fun _ => rfl) rfl (by decide)) ?_;refine to (cZ (aE rfl) aRo (zs := [.j 0, .j 0, .j 0, .j 0]) rfl rfl rfl rfl (es := [.j 1, .j 1, .j 21, .j 30]) rfl) ?_;refine to (cZ (aE rfl) aRo (zs := [.j 0, .j 0, .j 0, .j 0]) rfl rfl rfl rfl (es := [.j 2, .j 2, .j 11, .j 2]) rfl) ?_;refine to (cZ (aE rfl) aRo (zs := [.j 0, .j 0, .j 0, .j 0]) rfl rfl rfl rfl (es := [.j 3, .j 1, .j 31, .j 160]) rfl) ?_;refine to (dE (aE rfl) cQ rfl rfl (rows := Z58.map aI) rfl (bY (f := aI) fun _ => rfl) rfl (by decide)) ?_;refine to (cZ (aE rfl) aYd (zs := [.j 0, .sl 1 Z6, .sl 5 Z22, .sl 1 Z6, .j 0, .sl 3 Z47, .sl 2 Z23, .sl 3 Z24, .sl 4 Z25]) rfl rfl rfl rfl (es := [.j 2, .sl 1 ((Z59).map aF), .sl 5 ((([(aG.mk 1 0 0 1 0)])).map aM), .sl 1 ((([100, 300, 1001])).map aF), .j 40, .sl 3 ((Z53).map bQ), .sl 2 ((([(dH.mk 11 250)])).map cM), .sl 3 ((([(cS.mk 21 3 2), (cS.mk 22 1 3)])).map cP), .sl 4 ((Z58).map aI)]) rfl) ?_;refine to (sst 0 rfl rfl sizeOf113 Z10) (aB ?_);obtain rfl := sIn h;exact cD ⟨rfl, _, [.box b1 0 Z10], .one (.cell 0 113 rfl (i := 0) rfl fK (es := Z10) rfl rfl), .refl _, .same _⟩

theorem aFn (a : Int) {r : Bool} (h : vB a = some r) : Fn Tryz.prog 228 [.i a] (.b r) := by
 unfold vB at h;refine oT [.tmp 2] func228 results228 ntmps228 ?_;refine aC (aA (ta Z2 (aB (aC (aA (tm (.i a) (tm (.i a) (to (scm rfl rfl rfl) (ta (.b (!decide (a = a))) (aB ?_))))))))));obtain rfl := sIn h;exact rt

theorem aRb (a : Int) (c : Int) {r : Bool} (h : wJ a c = some r) : Fn Tryz.prog 201 [.i a, .i c] (.b r) := by
 unfold wJ at h;refine oT [.tmp 4] func201 results201 ntmps201 ?_;refine aC (aA (ta Z2 (aB (aC (aA (tm (.i a) ?_))))));obtain ⟨r1, h2, h⟩ := bns h;refine to (scr call228 (aFn _ h2)) (tm (.b r1) ?_);obtain ⟨b3, h4, h⟩ := bns h;refine aV 4 [0, 1] 11 b3 ?_ ?_
 ·refine bch h4 (fun c8 h4 => ?_) (fun c8 h4 => ?_)
  ·refine tk c8 (sm (.i c)) ?_;obtain ⟨r9, d, h4⟩ := bns h4;refine tk c8 (scr call228 (aFn _ d)) (tk c8 (sn rfl) (to (spt (.b (!r9)) c8) ?_));obtain rfl := sIn h4;refine aB (aJ rfl (ae rfl) rfl)
  ·refine tp c8 (tp c8 (tp c8 (to (spf Z2 c8) ?_)));obtain rfl := sIn h4;refine aB (aJ rfl (ae rfl) rfl)
 ·refine tm (.b b3) ?_;obtain ⟨b5, h6, h⟩ := bns h;refine aV 4 [] 16 b5 ?_ ?_
  ·refine bch h6 (fun c7 h6 => ?_) (fun c7 h6 => ?_)
   ·refine tp c7 (tp c7 (tp c7 (to (spt Z14 c7) ?_)));obtain rfl := sIn h6;refine aB (aJ rfl trivial rfl)
   ·refine tk c7 (sm (.i a)) (tk c7 (sm (.i c)) (tk c7 (scm rfl rfl rfl) (to (spf (.b (decide (a < c))) c7) ?_)));obtain rfl := sIn h6;refine aB (aJ rfl trivial rfl)
  ·refine ta (.b b5) (aB ?_);obtain rfl := sIn h;exact rt

theorem aHl (c : List Int) {r : Bool} (h : nW c = some r) : Fn Tryz.prog 153 [.d (Z8 c)] (.b r) := by
 unfold nW at h;refine oT [.tmp 2] func153 results153 ntmps153 ?_;refine aC (aA (ta Z2 (aB (aC (aC (aA (tm (Z40 c) (to (sle rfl bC.of) (to (sar rfl rfl rfl) (ta (.i (Z9 c)) (aB (bD ?_))))))))))));refine bP (S := Int) [0] (fun s1 => [(3, .i s1)]) (fun s1 => []) (fun k s1 => gU c k s1) (fun _ => rfl) (Z9 c) h (aO [] rfl rfl (aH rfl (aK (ae rfl)))) ?_;rintro k2 a h;simp only [gU] at h;refine aC (aC (aA (tm (.i a) (to (scm rfl rfl rfl) (aB ?_)))));refine tih h (fun c3 h => ?_) (fun c3 h => ?_)
 ·refine aU (aC (bD (aC ?_)));obtain ⟨x4, h5, h⟩ := bns h;obtain ⟨x6, h7, h⟩ := bns h;refine cI mix 9 [0, 3] [(14, .i x4), (19, .i x6)] ?_ ?_
  ·refine ⟨[(11, 0, .d (Z8 c)), (12, 1, .i a), (13, 2, .cp [.j x4]), (14, 3, .i x4), (15, 4, .d (Z8 c)), (16, 5, .i a), (17, 6, .i (w64 (a - 1))), (18, 7, .cp [.j x6]), (19, 8, .i x6)], ?_, ?_⟩
   · exact dk [0, 0, 102, 3, 0, 0, 6, 507, 8] ⟨go (zm (Z40 c)),
 go (zm (.i a)),
 go (zix rfl rfl bC.of (aW aF h5)),
 go (zlc rfl aQ),
 go (zm (Z40 c)),
 go (zm (.i a)),
 go (zar rfl rfl rfl),
 go (zix rfl rfl bC.of (aW aF h7)),
 go (zlc rfl aQ), trivial⟩
   · exact bT (aH rfl (aH rfl (aK (ae rfl))))
  ·obtain ⟨r8, h9, h⟩ := bns h;refine to (scr call201 (aRb _ _ h9)) (aB ?_);refine tih h (fun e h => ?_) (fun e h => ?_)
   ·refine aC (aA (ta Z2 (aB ?_)));obtain rfl := sIn h;exact rt
   ·refine cA ?_;refine aA (tm (.i a) (to (sar rfl rfl rfl) (ta (.i (w64 (a - 1))) (aB ?_))));exact ⟨(w64 (a - 1)), h, aO [] rfl rfl (aH rfl (aK (ae rfl)))⟩
 ·refine bO ?_;refine .inl ⟨rfl, ?_⟩;simp only [yM] at h;refine aC (aA (ta Z14 (aB ?_)));obtain rfl := sIn h;exact rt

theorem gC (d : Int) (c : Int) (a : Int) {r : Bool} (h : fR d c a = some r) : Fn Tryz.prog 154 [.i d, .i c, .i a] (.b r) := by
 unfold fR at h;refine oT [.tmp 6] func154 results154 ntmps154 ?_;refine aC (aA (ta Z2 (aB (aC (aA (tm (.i c) (tm (.i d) (to (scm rfl rfl rfl) (tm (Z35 c d) ?_)))))))));obtain ⟨b1, h2, h⟩ := bns h;refine aV 4 [] 14 b1 ?_ ?_
 ·refine bch h2 (fun c3 h2 => ?_) (fun c3 h2 => ?_)
  ·refine tk c3 (sm (.i d)) (tk c3 (sm (.i a)) (tk c3 (scm rfl rfl rfl) (to (spt (Z35 d a) c3) ?_)));obtain rfl := sIn h2;refine aB (aJ rfl trivial rfl)
  ·refine tp c3 (tp c3 (tp c3 (to (spf Z2 c3) ?_)));obtain rfl := sIn h2;refine aB (aJ rfl trivial rfl)
 ·refine ta (.b b1) (aB ?_);obtain rfl := sIn h;exact rt

theorem aQl (f : bB) {r : Bool} (h : sD f = some r) : Fn Tryz.prog 100 [.agg (aY f)] (.b r) := by
 unfold sD at h;refine oT [.tmp 2] func100 results100 ntmps100 ?_;refine aC (aA ?_);refine bG rfl (cV (v := .agg (aY f)) (aE rfl) rfl rfl rfl) ?_;rintro _ ⟨b1, rfl⟩;refine ta Z2 (aB (aC (aC (aA (tfl 0 rfl rfl iZ rfl cC (to (sle rfl bC.of) (to (sf rfl jU) (tfl 0 rfl rfl iN rfl aQ (to (sar rfl rfl rfl) (to (scm rfl rfl rfl) (tm (Z60 f) ?_)))))))))));obtain ⟨b2, h3, h⟩ := bns h;refine aV 5 [1] 16 b2 ?_ ?_
 ·refine bch h3 (fun c h3 => ?_) (fun c h3 => ?_)
  ·refine tp c (tp c (tp c (tp c (to (spt Z14 c) ?_))));obtain rfl := sIn h3;refine aB (aJ rfl (ae rfl) rfl)
  ·refine tkl 0 c rfl rfl iZ rfl cC ?_;obtain ⟨g, i, h3⟩ := bns h3;refine tk c (scr call153 (aHl _ i)) (tk c (sn rfl) (to (spf (.b (!g)) c) ?_));obtain rfl := sIn h3;refine aB (aJ rfl (ae rfl) rfl)
 ·refine tm (.b b2) ?_;obtain ⟨b4, h5, h⟩ := bns h;refine aV 5 [1] 22 b4 ?_ ?_
  ·refine bch h5 (fun d h5 => ?_) (fun d h5 => ?_)
   ·refine tp d (tp d (tp d (tp d (to (spt Z14 d) ?_))));obtain rfl := sIn h5;refine aB (aJ rfl (ae rfl) rfl)
   ·refine tkl 0 d rfl rfl aSc rfl aQ ?_;obtain ⟨j, k, h5⟩ := bns h5;refine tk d (scr call154 (gC _ _ _ k)) (tk d (sn rfl) (to (spf (.b (!j)) d) ?_));obtain rfl := sIn h5;refine aB (aJ rfl (ae rfl) rfl)
  ·refine aB ?_;refine tih h (fun c6 h => ?_) (fun c6 h => ?_)
   ·refine aC (aA (ta Z2 (aB ?_)));obtain rfl := sIn h;refine bK (bE (bH (l := [2]) (ae rfl))) ?_;exact rt
   ·refine aU (aC (aA (tfl 0 rfl rfl iZ rfl cC ?_)));obtain ⟨x7, h8, h⟩ := bns h;refine to (six rfl rfl bC.of (aW aF h8)) (to (slc rfl aQ) (to (scm rfl rfl rfl) (tm (.b (decide (0 ≤ x7))) ?_)));obtain ⟨b9, e, h⟩ := bns h;refine aV 10 [] 38 b9 ?_ ?_
    ·refine bch e (fun a e => ?_) (fun a e => ?_)
     ·refine tkl 0 a rfl rfl iZ rfl cC (tkl 0 a rfl rfl iZ rfl cC (tk a (sle rfl bC.of) (tk a (sar rfl rfl rfl) ?_)));obtain ⟨m, n, e⟩ := bns e;refine tk a (six rfl rfl bC.of (aW aF n)) (tk a (slc rfl aQ) (tk a (scm rfl rfl rfl) (to (spt (.b (decide (m ≤ 10000000))) a) ?_)));obtain rfl := sIn e;refine aB (aJ rfl trivial rfl)
     ·refine tp a (tp a (tp a (tp a (tp a (tp a (tp a (tp a (tp a (to (spf Z2 a) ?_)))))))));obtain rfl := sIn e;refine aB (aJ rfl trivial rfl)
    ·refine ta (.b b9) (aB ?_);obtain rfl := sIn h;refine bK (bE (bH (l := [2]) (ae rfl))) ?_;exact rt

theorem aGc (c : bB) {r : (List Int)} (h : nI c = some r) : Fn Tryz.prog 155 [.agg (aY c)] (.d (.sl 1 (r.map aF))) := by
 unfold nI at h;refine oT [.tmp 2] func155 results155 ntmps155 ?_;refine aC (aA ?_);refine bG rfl (cV (v := .agg (aY c)) (aE rfl) rfl rfl rfl) ?_;rintro _ ⟨b1, rfl⟩;refine to (sV 1 (aE rfl)) ?_;refine aB (aC (aA (to (fX 3 1 (.inl rfl) (aE rfl)) ?_)));refine aB (aC (aC (aA (tfl 0 rfl rfl iD rfl mD (to (sle rfl kV.of) (tm (.i 0) (aB (bD ?_))))))));refine bP (S := Int × Z32 × Value) [7, 8] (fun s3 => [(3, .d (.lit s3.2.2)), (9, .i s3.1)]) (fun s3 => [.arr s3.2.2 3 1 (s3.2.1.map aF)]) (fun k s3 => kO c.Teams (c.Teams.length : Int) k s3.1 s3.2.1) (fun _ => rfl) (0, ([] : List Int), (.slice none 0 0)) h (aO [1] rfl rfl (aH rfl (aH rfl (aK (ae rfl))))) ?_;rintro k5 ⟨a, b, w4⟩ h;simp only [kO] at h;refine aC (aA (to (scm rfl rfl rfl) (aB (aC ?_))));refine tih h (fun c6 h => ?_) (fun c6 h => ?_)
 ·refine aU (aC (bD (aC (aA ?_))));obtain ⟨x7, h8, h⟩ := bns h;refine to (six rfl rfl kV.of (aW bQ h8)) (to (tG (bQ x7) rfl xL) ?_);refine bG rfl (cJ (zs := [.j 0, .j 0, .j 0]) (aE rfl) zeroValue184 rfl rfl) ?_;rintro _ ⟨b9, rfl⟩;refine to (sst 1 rfl rfl sizeOf184 (bQ x7)) (aB (aC (aA (tm (.d (.lit w4)) (tfl 1 rfl rfl pI rfl aQ (to (dE (aE rfl) bC rfl rfl (rows := ([x7.One]).map aF) rfl (bY (f := aF) fun _ => rfl) rfl (by decide)) ?_))))));obtain ⟨j, l, h⟩ := bns h;refine bG rfl (dL (i := 0) (aE rfl) bC rfl rfl rfl (fun _ => rfl) l rfl) ?_;rintro _ ⟨e, rfl⟩;refine ta (.d (.lit e)) (aB (aC (aA (tfl 1 rfl rfl kM rfl aQ (to (scm rfl rfl rfl) (aB ?_))))));refine tih h (fun m h => ?_) (fun m h => ?_)
  ·refine aA (tm (.d (.lit e)) (tfl 1 rfl rfl kM rfl aQ (to (dE (aE rfl) bC rfl rfl (rows := ([x7.Two]).map aF) rfl (bY (f := aF) fun _ => rfl) rfl (by decide)) ?_)));obtain ⟨n, o, h⟩ := bns h;refine bG rfl (dL (i := 0) (aE rfl) bC rfl rfl rfl (fun _ => rfl) o rfl) ?_;rintro _ ⟨g, rfl⟩;refine ta (.d (.lit g)) ?_;refine cN ?_;refine aA (to (sar rfl rfl rfl) (tm (.i (w64 (a + 1))) (aB ?_)));exact ⟨(w64 (a + 1), n, g), h, aO [0] rfl rfl (aH rfl (aH rfl (aK (ae rfl))))⟩
  ·refine cA ?_;refine aA (to (sar rfl rfl rfl) (tm (.i (w64 (a + 1))) (aB ?_)));exact ⟨(w64 (a + 1), j, e), h, aO [0] rfl rfl (aH rfl (aH rfl (aK (ae rfl))))⟩
 ·refine bO ?_;refine .inl ⟨rfl, ?_⟩;simp only [oN] at h;refine aC (aA (tm (.d (.lit w4)) ?_));obtain ⟨p, q, h⟩ := bns h;refine bG rfl (dU (passed := [.arr w4 3 1 (b.map aF)]) (aE rfl) rfl (.func _ _ call103) rfl rfl (xW b q)) ?_;rintro _ ⟨_, _, ⟨rfl, rfl⟩, rfl⟩;refine aB (aC (aA (tm (.d (.lit w4)) (ta (.d (.lit w4)) (aB ?_)))));obtain rfl := sIn h;refine bK (bE (pQ (k := 2) (v := .d (.sl 1 (p.map aF))) (.d (gZ 0 rfl (bY (f := aF) fun _ => rfl))) (aDu))) ?_;exact rt

theorem aJi (o : List Int) {r : (List Int)} {e : Value} (h : pN o = some r) : dP Tryz.prog 202 [.d (.lit e)] [.arr e 3 1 (o.map aF)] (fun r' o' => ∃ w0 : Value, r' = .d (.lit w0) ∧ o' = [.arr w0 3 1 (r.map aF)]) := by
 unfold pN at h;refine iF func202 rfl (rs := [.tmp 2]) results202 ntmps202 (Nat.le_of_ble_eq_true rfl) ?_;refine aC (aA (to (fX 3 1 (.inl rfl) (aE rfl)) ?_));refine aB (aC (aC (aA (tm (Z31 e) (to (iH (m := 0) (aE rfl) rfl rfl bC.of) ?_)))));refine to (scm rfl rfl rfl) (aB ?_);refine tih h (fun c2 h => ?_) (fun c2 h => ?_)
 ·refine aC (aA (tm (Z31 e) (ta (Z31 e) (aB ?_))));obtain rfl := sIn h;exact cD ⟨rfl, _, [.arr e 3 1 (o.map aF)], Z44, _, .one (.tmp 2 (v := .d (.lit e)) rfl), .refl _, .same _, e, rfl, rfl⟩
 ·refine aU (aC (aC (aA (ta (.i 1) (aB (bD ?_))))));refine bP (S := Int × Z32 × Value) [] (fun s3 => [(0, .d (.lit s3.2.2)), (3, .i s3.1)]) (fun s3 => [.arr s3.2.2 3 1 (s3.2.1.map aF)]) (fun k s3 => eM k s3.1 s3.2.1) (fun _ => rfl) (1, o, e) h (aO [0] rfl rfl (aH rfl (aH rfl (aK trivial)))) ?_;rintro k5 ⟨a, n, w4⟩ h;simp only [eM] at h;refine aC (aC (aA (tm (.i a) (tm (.d (.lit w4)) (to (iH (m := 0) (aE rfl) rfl rfl bC.of) ?_)))));refine to (scm rfl rfl rfl) (aB ?_);refine tih h (fun c6 h => ?_) (fun c6 h => ?_)
  ·refine aU (aC (bD (aC ?_)));obtain ⟨x7, h8, h⟩ := bns h;obtain ⟨x9, p, h⟩ := bns h;refine cI mix 9 [0, 3] [(19, .i x7), (24, .i x9)] ?_ ?_
   ·refine ⟨[(16, 0, .d (.lit w4)), (17, 1, .i a), (18, 2, .ep w4 1 a.toNat 0), (19, 3, .i x7), (20, 4, .d (.lit w4)), (21, 5, .i a), (22, 6, .i (w64 (a - 1))), (23, 7, .ep w4 1 (w64 (a - 1)).toNat 0), (24, 8, .i x9)], ?_, ?_⟩
    · exact dk [0, 0, 102, 3, 0, 0, 6, 507, 8] ⟨go (zm (.d (.lit w4))),
 go (zm (.i a)),
 go (zia 0 rfl rfl rfl bC.of (aW aF h8)),
 go fun S hS => gJ (aE rfl) (aX hS rfl) (m := 0) rfl (dI aF h8) rfl aQ,
 go (zm (.d (.lit w4))),
 go (zm (.i a)),
 go (zar rfl rfl rfl),
 go (zia 0 rfl rfl rfl bC.of (aW aF p)),
 go fun S hS => gJ (aE rfl) (aX hS rfl) (m := 0) rfl (dI aF p) rfl aQ, trivial⟩
    · exact bT (aH rfl (aH rfl (aK (ae rfl))))
   ·refine to (scm rfl rfl rfl) (aB ?_);refine tih h (fun A h => ?_) (fun A h => ?_)
    ·refine aC (aA (tm (.d (.lit w4)) (tm (.i a) ?_)));obtain ⟨I, B, h⟩ := bns h;refine to (aAl (m := 0) (aE rfl) rfl rfl rfl bC.of B) ?_;refine ta (.d (.lit (kT w4 a.toNat 1))) (aB (aC (aC (aA (ta (.i 1) (aB (bD ?_)))))));refine bP (S := Int × Int × Z32) [] (fun j => [(0, .d (.lit w4)), (3, .i j.1), (4, .d (.lit (kT w4 a.toNat 1))), (5, .i j.2.1)]) (fun j => [.arr w4 3 1 (j.2.2.map aF)]) (fun k j => fZ (eM k5) a k j.1 j.2.1 j.2.2) (fun _ => rfl) (a, 1, n) h (aO [0] rfl rfl (aH rfl (aH rfl (aH rfl (aH rfl (aK trivial)))))) ?_;rintro J ⟨c, b, g⟩ h;simp only [fZ] at h;refine aC (aC (aA (tm (.i b) (tm (.d (.lit (kT w4 a.toNat 1))) (to (aQq (m := 0) (aE rfl) rfl rfl bC.of) ?_)))));refine to (scm rfl rfl rfl) (aB ?_);refine tih h (fun C h => ?_) (fun C h => ?_)
     ·refine aU (aC (bD (aC ?_)));obtain ⟨s, t, h⟩ := bns h;obtain ⟨u, w, h⟩ := bns h;refine cI mix 9 [0, 3, 4, 5] [(38, .i s), (43, .i u)] ?_ ?_
      ·refine ⟨[(35, 0, .d (.lit (kT w4 a.toNat 1))), (36, 1, .i b), (37, 2, .ep w4 1 (a.toNat + b.toNat) 0), (38, 3, .i s), (39, 4, .d (.lit (kT w4 a.toNat 1))), (40, 5, .i b), (41, 6, .i (w64 (b - 1))), (42, 7, .ep w4 1 (a.toNat + (w64 (b - 1)).toNat) 0), (43, 8, .i u)], ?_, ?_⟩
       · exact dk [0, 0, 102, 3, 0, 0, 6, 507, 8] ⟨go (zm (.d (.lit (kT w4 a.toNat 1)))),
 go (zm (.i b)),
 go fun S hS => vP (m := 0) (aE rfl) (aX hS rfl) rfl (aX hS rfl) bC.of (uG (f := aF) t),
 go fun S hS => gJ (aE rfl) (aX hS rfl) (m := 0) rfl (aDy aF t) rfl aQ,
 go (zm (.d (.lit (kT w4 a.toNat 1)))),
 go (zm (.i b)),
 go (zar rfl rfl rfl),
 go fun S hS => vP (m := 0) (aE rfl) (aX hS rfl) rfl (aX hS rfl) bC.of (uG (f := aF) w),
 go fun S hS => gJ (aE rfl) (aX hS rfl) (m := 0) rfl (aDy aF w) rfl aQ, trivial⟩
       · exact bT (aH rfl (aH rfl (aK (ae rfl))))
      ·refine to (scm rfl rfl rfl) (aB ?_);refine tih h (fun E h => ?_) (fun E h => ?_)
       ·refine aC (aA (tm (.d (.lit w4)) (tm (.i c) (tm (.d (.lit (kT w4 a.toNat 1))) (tm (.i b) ?_)))));obtain ⟨x, y, h⟩ := bns h;refine to (vP (m := 0) (aE rfl) rfl rfl rfl bC.of (uG (f := aF) y)) ?_;refine to (gJ (aE rfl) rfl (m := 0) rfl (aDy aF y) rfl aQ) ?_;obtain ⟨K, z, h⟩ := bns h;refine to (gS (m := 0) (aE rfl) rfl rfl rfl bC.of (aW aF z)) ?_;refine to (lM (l := 0) rfl rfl (dI aF z) rfl rfl rfl sizeOf3 rfl (aE rfl) (Nat.le_of_ble_eq_true rfl) (rows' := ((g.set c.toNat x)).map aF) (uA _ _ _ _ rfl)) ?_;refine aB (aA (tm (.i c) (to (sar rfl rfl rfl) (ta (.i (w64 (c + 1))) ?_))));refine cN ?_;refine aA (tm (.i b) (to (sar rfl rfl rfl) (ta (.i (w64 (b + 1))) (aB ?_))));exact ⟨(w64 (c + 1), w64 (b + 1), (g.set c.toNat x)), h, aO [0] rfl rfl (aH rfl (aH rfl (aH rfl (aH rfl (aK trivial)))))⟩
       ·refine cA ?_;refine aA (tm (.i b) (to (sar rfl rfl rfl) (ta (.i (w64 (b + 1))) (aB ?_))));exact ⟨(c, w64 (b + 1), g), h, aO [0] rfl rfl (aH rfl (aH rfl (aH rfl (aH rfl (aK trivial)))))⟩
     ·refine bO ?_;refine .inl ⟨rfl, ?_⟩;simp only [uE] at h;refine aC (aA (tm (.d (.lit w4)) (tm (.i c) ?_)));obtain ⟨L, F, h⟩ := bns h;refine to (aAl (m := 0) (aE rfl) rfl rfl rfl bC.of F) ?_;obtain ⟨M, G, h⟩ := bns h;refine to (aVn (f := aF) (m := 0) bC rfl rfl G (by decide)) ?_;refine aB (aC (aA (tm (.d (.lit w4)) (tm (.i c) ?_))));obtain ⟨N, H, h⟩ := bns h;refine to (aLp (m := 0) (q := c.toNat) (v := w4) (aE rfl) rfl rfl rfl rfl (bAk H) bC.of) ?_;refine ta (.d (.lit (mH w4 c.toNat))) (aB ?_);obtain rfl := sIn h;exact cD ⟨rfl, _, [.arr (mH w4 c.toNat) 3 1 ((g.take c.toNat).map aF)], [], _, .one (.tmp 2 (v := .d (.lit (mH w4 c.toNat))) rfl), .refl _, .same _, (mH w4 c.toNat), rfl, rfl⟩
    ·refine cA ?_;simp only [uD] at h;refine aA (tm (.i a) (to (sar rfl rfl rfl) (ta (.i (w64 (a + 1))) (aB ?_))));exact ⟨(w64 (a + 1), n, w4), h, aO [0] rfl rfl (aH rfl (aH rfl (aK trivial)))⟩
  ·refine bO ?_;refine .inl ⟨rfl, ?_⟩;simp only [uC] at h;refine aC (aA (tm (.d (.lit w4)) (ta (.d (.lit w4)) (aB ?_))));obtain rfl := sIn h;exact cD ⟨rfl, _, [.arr w4 3 1 (n.map aF)], [], _, .one (.tmp 2 (v := .d (.lit w4)) rfl), .refl _, .same _, w4, rfl, rfl⟩

theorem aDa (a : List Int) {r : Bool} (h : pX a = some r) : Fn Tryz.prog 156 [.d (Z8 a)] (.b r) := by
 unfold pX at h;refine oT [.tmp 2] func156 results156 ntmps156 ?_;refine aC (aA (ta Z2 (aB (aC (aA (tm (Z40 a) ?_))))));obtain ⟨r1, h2, h⟩ := bns h;refine bG rfl (aDj (aE rfl) (.func _ _ call93) rfl rfl (rV _ h2)) ?_;rintro _ ⟨v3, rfl⟩;obtain ⟨r4, h5, h⟩ := bns h;refine bG rfl (dU (passed := [.arr v3 3 1 (r1.map aF)]) (aE rfl) rfl (.func _ _ call202) rfl rfl (aJi r1 h5)) ?_;rintro _ ⟨_, _, ⟨v6, rfl, rfl⟩, rfl⟩;refine to (iH (m := 0) (aE rfl) rfl rfl bC.of) ?_;refine tm (Z40 a) (to (sle rfl bC.of) (to (scm rfl rfl rfl) (ta (.b (decide ((r4.length : Int) = (a.length : Int)))) (aB ?_))));obtain rfl := sIn h;refine bK (bE (bH (l := [2]) (ae rfl))) ?_;exact rt

theorem aFi (a : List Int) (p : List dH) (q : dH → Option (Int × Bool)) {r : Bool} (c : Nat) (j : List AV) (s : ∀ args w, (callFunc c args).run Tryz.prog w = .ok (.enter c args) w) (t : ∀ (x0 : dH) r, q x0 = some r → Fn Tryz.prog c ([.agg (cM x0)] ++ j) (.tup [.i r.1, .b r.2])) (h : tY a p q = some r) : Fn Tryz.prog 159 [.d (Z8 a), .d (.sl 2 (p.map cM)), .fn c j] (.b r) := by
 unfold tY at h;refine oT [.tmp 6] func159 results159 ntmps159 ?_;refine aC (aA (ta Z2 (aB (aC (aA (to (fX 3 1 (.inl rfl) (aE rfl)) ?_))))));refine aB (aC (aC (aA (tm (.d (.sl 2 (p.map cM))) (to (sle rfl aAm.of) (tm (.i 0) (aB (bD ?_))))))));refine bP (S := Int × Z32 × Value) [0, 2, 12, 13] (fun s2 => [(7, .d (.lit s2.2.2)), (14, .i s2.1)]) (fun s2 => [.arr s2.2.2 3 1 (s2.2.1.map aF)]) (fun k s2 => mU a q p (p.length : Int) k s2.1 s2.2.1) (fun _ => rfl) (0, ([] : List Int), (.slice none 0 0)) h (aO [0] rfl rfl (aH rfl (aH rfl (aK (ae rfl))))) ?_;rintro k4 ⟨o, x, w3⟩ h;simp only [mU] at h;refine aC (aA (to (scm rfl rfl rfl) (aB (aC ?_))));refine tih h (fun c5 h => ?_) (fun c5 h => ?_)
 ·refine aU (aC (bD (aC (aA ?_))));obtain ⟨x6, h7, h⟩ := bns h;refine to (six rfl rfl aAm.of (aW cM h7)) (to (tG (cM x6) rfl aXj) ?_);refine bG rfl (cJ (zs := [.j 0, .j 0]) (aE rfl) zeroValue236 rfl rfl) ?_;rintro _ ⟨b8, rfl⟩;refine to (sst 1 rfl rfl sizeOf236 (cM x6)) (aB (aC (aA (tm (.fn c j) (to (sla 1 (cM x6) rfl rfl aXj) ?_)))));obtain ⟨r9, y, h⟩ := bns h;refine to (cT (aE rfl) (.clo _ _ _ _ s rfl) (wT rfl) rfl (BVs.refl _ _) (t _ _  y) rfl) ?_;refine tm (.tup [.i r9.1, .b r9.2]) (to (sex rfl rfl) (to (sex rfl rfl) (ta (.i r9.1) (ta (.b r9.2) (aB (aC (aC (aA (tm (.b r9.2) (to (sn rfl) (tm (.b (!r9.2)) ?_)))))))))));obtain ⟨u, m, h⟩ := bns h;refine aV 5 [0, 2, 7, 10, 12, 13, 14] 31 u ?_ ?_
  ·refine bch m (fun e m => ?_) (fun e m => ?_)
   ·refine tp e (tp e (tp e (tp e (to (spt Z14 e) ?_))));obtain rfl := sIn m;refine aB (aJ rfl (ae rfl) rfl)
   ·refine tk e (sm (Z40 a)) (tk e (sm (.i r9.1)) ?_);obtain ⟨z, A, m⟩ := bns m;refine tk e (scr call91 (cX _ _ A)) (tk e (sn rfl) (to (spf (.b (!z)) e) ?_));obtain rfl := sIn m;refine aB (aJ rfl (ae rfl) rfl)
  ·refine tm (.b u) ?_;obtain ⟨B, n, h⟩ := bns h;refine aV 4 [0, 2, 7, 10, 12, 13, 14] 36 B ?_ ?_
   ·refine bch n (fun g n => ?_) (fun g n => ?_)
    ·refine tp g (tp g (tp g (to (spt Z14 g) ?_)));obtain rfl := sIn n;refine aB (aJ rfl (ae rfl) rfl)
    ·refine tk g (sm (.d (.lit w3))) (tk g (sm (.i r9.1)) ?_);obtain ⟨C, E, n⟩ := bns n;refine tk g (sc call91 (cX _ _ E) (.cons (.d (gZ 0 rfl (bY (f := aF) fun _ => rfl))) (.cons (.same _) .nil))) (to (spf (.b C) g) ?_);obtain rfl := sIn n;refine aB (aJ rfl (ae rfl) rfl)
   ·refine aB ?_;refine tih h (fun F h => ?_) (fun F h => ?_)
    ·refine aC (aA (ta Z2 (aB ?_)));obtain rfl := sIn h;refine bK (bE (bH (l := [6]) (ae rfl))) ?_;exact rt
    ·refine aU (aA (tm (.d (.lit w3)) (tm (.i r9.1) (to (dE (aE rfl) bC rfl rfl (rows := ([r9.1]).map aF) rfl (bY (f := aF) fun _ => rfl) rfl (by decide)) ?_))));obtain ⟨G, H, h⟩ := bns h;refine bG rfl (dL (i := 0) (aE rfl) bC rfl rfl rfl (fun _ => rfl) H rfl) ?_;rintro _ ⟨v, rfl⟩;refine ta (.d (.lit v)) ?_;refine cN ?_;refine aA (to (sar rfl rfl rfl) (tm (.i (w64 (o + 1))) (aB ?_)));exact ⟨(w64 (o + 1), G, v), h, aO [0] rfl rfl (aH rfl (aH rfl (aK (ae rfl))))⟩
 ·refine bO ?_;refine .inl ⟨rfl, ?_⟩;simp only [xB] at h;refine aC (aA (ta Z14 (aB ?_)));obtain rfl := sIn h;refine bK (bE (bH (l := [6]) (ae rfl))) ?_;exact rt

theorem aLl (a : dH) {r : Int × Bool} (h : yZ a = some r) : Fn Tryz.prog 157 [.agg (cM a)] (.tup [.i r.1, .b r.2]) := by
 unfold yZ at h;refine oT [.tmp 2, .tmp 3] func157 results157 ntmps157 ?_;refine aC (aA ?_);refine bG rfl (cV (v := .agg (cM a)) (aE rfl) rfl rfl rfl) ?_;rintro _ ⟨b1, rfl⟩;refine ta (.i 0) (ta Z2 (aB (aC ?_)));obtain ⟨r2, h3, h⟩ := bns h;refine cI mix 5 [] [(5, .i a.Person), (8, .b r2)] ?_ ?_
 ·refine ⟨[(4, 0, .bp b1 0 0), (5, 1, .i a.Person), (6, 2, .bp b1 0 1), (7, 3, .i a.Mille), (8, 4, .b r2)], ?_, ?_⟩
  · exact dk [0, 1, 0, 3, 4] ⟨go (zf rfl aCc),
 go (zl 0 rfl rfl rfl aQ),
 go (zf rfl aSd),
 go (zl 0 rfl rfl rfl aQ),
 go fun S hS => cT (aE rfl) (.func _ _ call154) (ev2 (aX hS rfl) (ev2 rfl (ev2 rfl evn))) rfl (BVs.refl _ _) (gC _ _ _ h3) rfl, trivial⟩
  · exact bT (aH rfl (aH rfl (aK trivial)))
 ·refine ta (.i a.Person) (ta (.b r2) (aB ?_));obtain rfl := sIn h;refine bK (bE (bH (l := [2, 3]) (ae rfl))) ?_;exact cD ⟨rfl, _, .two _ _, rfl, rfl⟩

theorem aFj (a : List Int) (p : List cS) (q : cS → Option (Int × Bool)) {r : Bool} (c : Nat) (j : List AV) (s : ∀ args w, (callFunc c args).run Tryz.prog w = .ok (.enter c args) w) (t : ∀ (x0 : cS) r, q x0 = some r → Fn Tryz.prog c ([.agg (cP x0)] ++ j) (.tup [.i r.1, .b r.2])) (h : tZ a p q = some r) : Fn Tryz.prog 160 [.d (Z8 a), .d (.sl 3 (p.map cP)), .fn c j] (.b r) := by
 unfold tZ at h;refine oT [.tmp 6] func160 results160 ntmps160 ?_;refine aC (aA (ta Z2 (aB (aC (aA (to (fX 3 1 (.inl rfl) (aE rfl)) ?_))))));refine aB (aC (aC (aA (tm (.d (.sl 3 (p.map cP))) (to (sle rfl aHk.of) (tm (.i 0) (aB (bD ?_))))))));refine bP (S := Int × Z32 × Value) [0, 2, 12, 13] (fun s2 => [(7, .d (.lit s2.2.2)), (14, .i s2.1)]) (fun s2 => [.arr s2.2.2 3 1 (s2.2.1.map aF)]) (fun k s2 => mV a q p (p.length : Int) k s2.1 s2.2.1) (fun _ => rfl) (0, ([] : List Int), (.slice none 0 0)) h (aO [0] rfl rfl (aH rfl (aH rfl (aK (ae rfl))))) ?_;rintro k4 ⟨o, x, w3⟩ h;simp only [mV] at h;refine aC (aA (to (scm rfl rfl rfl) (aB (aC ?_))));refine tih h (fun c5 h => ?_) (fun c5 h => ?_)
 ·refine aU (aC (bD (aC (aA ?_))));obtain ⟨x6, h7, h⟩ := bns h;refine to (six rfl rfl aHk.of (aW cP h7)) (to (tG (cP x6) rfl aQw) ?_);refine bG rfl (cJ (zs := [.j 0, .j 0, .j 0]) (aE rfl) zeroValue238 rfl rfl) ?_;rintro _ ⟨b8, rfl⟩;refine to (sst 1 rfl rfl sizeOf238 (cP x6)) (aB (aC (aA (tm (.fn c j) (to (sla 1 (cP x6) rfl rfl aQw) ?_)))));obtain ⟨r9, y, h⟩ := bns h;refine to (cT (aE rfl) (.clo _ _ _ _ s rfl) (wT rfl) rfl (BVs.refl _ _) (t _ _  y) rfl) ?_;refine tm (.tup [.i r9.1, .b r9.2]) (to (sex rfl rfl) (to (sex rfl rfl) (ta (.i r9.1) (ta (.b r9.2) (aB (aC (aC (aA (tm (.b r9.2) (to (sn rfl) (tm (.b (!r9.2)) ?_)))))))))));obtain ⟨u, m, h⟩ := bns h;refine aV 5 [0, 2, 7, 10, 12, 13, 14] 31 u ?_ ?_
  ·refine bch m (fun e m => ?_) (fun e m => ?_)
   ·refine tp e (tp e (tp e (tp e (to (spt Z14 e) ?_))));obtain rfl := sIn m;refine aB (aJ rfl (ae rfl) rfl)
   ·refine tk e (sm (Z40 a)) (tk e (sm (.i r9.1)) ?_);obtain ⟨z, A, m⟩ := bns m;refine tk e (scr call91 (cX _ _ A)) (tk e (sn rfl) (to (spf (.b (!z)) e) ?_));obtain rfl := sIn m;refine aB (aJ rfl (ae rfl) rfl)
  ·refine tm (.b u) ?_;obtain ⟨B, n, h⟩ := bns h;refine aV 4 [0, 2, 7, 10, 12, 13, 14] 36 B ?_ ?_
   ·refine bch n (fun g n => ?_) (fun g n => ?_)
    ·refine tp g (tp g (tp g (to (spt Z14 g) ?_)));obtain rfl := sIn n;refine aB (aJ rfl (ae rfl) rfl)
    ·refine tk g (sm (.d (.lit w3))) (tk g (sm (.i r9.1)) ?_);obtain ⟨C, E, n⟩ := bns n;refine tk g (sc call91 (cX _ _ E) (.cons (.d (gZ 0 rfl (bY (f := aF) fun _ => rfl))) (.cons (.same _) .nil))) (to (spf (.b C) g) ?_);obtain rfl := sIn n;refine aB (aJ rfl (ae rfl) rfl)
   ·refine aB ?_;refine tih h (fun F h => ?_) (fun F h => ?_)
    ·refine aC (aA (ta Z2 (aB ?_)));obtain rfl := sIn h;refine bK (bE (bH (l := [6]) (ae rfl))) ?_;exact rt
    ·refine aU (aA (tm (.d (.lit w3)) (tm (.i r9.1) (to (dE (aE rfl) bC rfl rfl (rows := ([r9.1]).map aF) rfl (bY (f := aF) fun _ => rfl) rfl (by decide)) ?_))));obtain ⟨G, H, h⟩ := bns h;refine bG rfl (dL (i := 0) (aE rfl) bC rfl rfl rfl (fun _ => rfl) H rfl) ?_;rintro _ ⟨v, rfl⟩;refine ta (.d (.lit v)) ?_;refine cN ?_;refine aA (to (sar rfl rfl rfl) (tm (.i (w64 (o + 1))) (aB ?_)));exact ⟨(w64 (o + 1), G, v), h, aO [0] rfl rfl (aH rfl (aH rfl (aK (ae rfl))))⟩
 ·refine bO ?_;refine .inl ⟨rfl, ?_⟩;simp only [xC] at h;refine aC (aA (ta Z14 (aB ?_)));obtain rfl := sIn h;refine bK (bE (bH (l := [6]) (ae rfl))) ?_;exact rt

theorem aLm (a : cS) {r : Int × Bool} (h : zA a = some r) : Fn Tryz.prog 158 [.agg (cP a)] (.tup [.i r.1, .b r.2]) := by
 unfold zA at h;refine oT [.tmp 2, .tmp 3] func158 results158 ntmps158 ?_;refine aC (aA ?_);refine bG rfl (cV (v := .agg (cP a)) (aE rfl) rfl rfl rfl) ?_;rintro _ ⟨b1, rfl⟩;refine ta (.i 0) (ta Z2 (aB (aC ?_)));obtain ⟨r2, h3, h⟩ := bns h;obtain ⟨b4, h5, h⟩ := bns h;refine cI mix 11 [] [(2, .i a.Person), (13, .b b4)] ?_ ?_
 ·refine bch h5 (fun c6 h5 => ?_) (fun c6 h5 => ?_)
  ·obtain ⟨r7, h8, h5⟩ := bns h5;obtain rfl := sIn h5;refine ⟨[(4, 0, .bp b1 0 0), (5, 1, .i a.Person), (6, 2, .bp b1 0 1), (7, 3, .i a.Num), (8, 4, .b r2), (9, 5, .b r2), (10, 6, .bp b1 0 2), (11, 7, .i a.Den), (12, 8, .b r7), (13, 9, .b r7), (2, 10, .i a.Person)], ?_, ?_⟩
   · exact dk [0, 1, 0, 3, 4, 5, 6, 607, 608, 609, 2] ⟨go (zf rfl aCd),
 go (zl 0 rfl rfl rfl aQ),
 go (zf rfl aKq),
 go (zl 0 rfl rfl rfl aQ),
 go fun S hS => cT (aE rfl) (.func _ _ call154) (ev2 (aX hS rfl) (ev2 rfl (ev2 rfl evn))) rfl (BVs.refl _ _) (gC _ _ _ h3) rfl,
 go (zm (.b r2)),
 gt c6 (zf rfl aSe),
 gt c6 (zl 0 rfl rfl rfl aQ),
 gt c6 fun S hS => cT (aE rfl) (.func _ _ call154) (ev2 (aX hS rfl) (ev2 rfl (ev2 rfl evn))) rfl (BVs.refl _ _) (gC _ _ _ h8) rfl,
 go (zpt (.b r7) c6),
 go (za (.i a.Person)), trivial⟩
   · exact bT (aH rfl (aH rfl (aK trivial)))
  ·obtain rfl := sIn h5;refine ⟨[(4, 0, .bp b1 0 0), (5, 1, .i a.Person), (6, 2, .bp b1 0 1), (7, 3, .i a.Num), (8, 4, .b r2), (9, 5, .b r2), (10, 6, .tup []), (11, 7, .tup []), (12, 8, .tup []), (13, 9, .b false), (2, 10, .i a.Person)], ?_, ?_⟩
   · exact dk [0, 1, 0, 3, 4, 5, 6, 607, 608, 609, 2] ⟨go (zf rfl aCd),
 go (zl 0 rfl rfl rfl aQ),
 go (zf rfl aKq),
 go (zl 0 rfl rfl rfl aQ),
 go fun S hS => cT (aE rfl) (.func _ _ call154) (ev2 (aX hS rfl) (ev2 rfl (ev2 rfl evn))) rfl (BVs.refl _ _) (gC _ _ _ h3) rfl,
 go (zm (.b r2)),
 gp c6,
 gp c6,
 gp c6,
 go (zpf Z2 c6),
 go (za (.i a.Person)), trivial⟩
   · exact bT (aH rfl (aH rfl (aK trivial)))
 ·refine ta (.b b4) (aB ?_);obtain rfl := sIn h;refine bK (bE (bH (l := [2, 3]) (ae rfl))) ?_;exact cD ⟨rfl, _, .two _ _, rfl, rfl⟩

theorem aOk (a : bB) {r : Bool} (h : oM a = some r) : Fn Tryz.prog 101 [.agg (aY a)] (.b r) := by
 unfold oM at h;refine oT [.tmp 2] func101 results101 ntmps101 ?_;refine aC (aA ?_);refine bG rfl (cV (v := .agg (aY a)) (aE rfl) rfl rfl rfl) ?_;rintro _ ⟨b1, rfl⟩;refine ta Z2 (aB (aC (aC (aA (tfl 0 rfl rfl iD rfl mD (to (sle rfl kV.of) (to (scm rfl rfl rfl) (aB ?_))))))));refine tih h (fun c2 h => ?_) (fun c2 h => ?_)
 ·refine aC (aA (ta Z2 (aB ?_)));obtain rfl := sIn h;refine bK (bE (bH (l := [2]) (ae rfl))) ?_;exact rt
 ·refine aU (aC (aA (to (fX 3 1 (.inl rfl) (aE rfl)) ?_)));refine aB (aC (aC (aA (tfl 0 rfl rfl iD rfl mD (to (sle rfl kV.of) (tm (.i 0) (aB (bD ?_))))))));refine bP (S := Int × Z32 × Value) [1, 18, 19] (fun s4 => [(3, .d (.lit s4.2.2)), (20, .i s4.1)]) (fun s4 => [.box b1 0 (aY a), .arr s4.2.2 3 1 (s4.2.1.map aF)]) (fun k s4 => lC a.Teams (a.Teams.length : Int) a k s4.1 s4.2.1) (fun _ => rfl) (0, ([] : List Int), (.slice none 0 0)) h (aO [0, 1] rfl rfl (aH rfl (aH rfl (aK (ae rfl))))) ?_;rintro k6 ⟨z, j, w5⟩ h;simp only [lC] at h;refine aC (aA (to (scm rfl rfl rfl) (aB (aC ?_))));refine tih h (fun c7 h => ?_) (fun c7 h => ?_)
  ·refine aU (aC (bD (aC (aA ?_))));obtain ⟨x8, h9, h⟩ := bns h;refine to (six rfl rfl kV.of (aW bQ h9)) (to (tG (bQ x8) rfl xL) ?_);refine bG rfl (cJ (zs := [.j 0, .j 0, .j 0]) (aE rfl) zeroValue184 rfl rfl) ?_;rintro _ ⟨c1, rfl⟩;refine to (sst 2 rfl rfl sizeOf184 (bQ x8)) (aB (aC (aC (aA (tfl 2 rfl rfl wW rfl aQ ?_)))));obtain ⟨K, L, h⟩ := bns h;refine to (scr call154 (gC _ _ _ L)) (to (sn rfl) (tm (.b (!K)) ?_));obtain ⟨H, q, h⟩ := bns h;refine aV 5 [1, 3, 5, 18, 19, 20] 33 H ?_ ?_
   ·refine bch q (fun m q => ?_) (fun m q => ?_)
    ·refine tp m (tp m (tp m (tp m (to (spt Z14 m) ?_))));obtain rfl := sIn q;refine aB (aJ rfl (ae rfl) rfl)
    ·refine tkl 2 m rfl rfl pI rfl aQ ?_;obtain ⟨M, N, q⟩ := bns q;refine tk m (scr call154 (gC _ _ _ N)) (tk m (sn rfl) (to (spf (.b (!M)) m) ?_));obtain rfl := sIn q;refine aB (aJ rfl (ae rfl) rfl)
   ·refine tm (.b H) ?_;obtain ⟨O, s, h⟩ := bns h;refine aV 5 [1, 3, 5, 18, 19, 20] 39 O ?_ ?_
    ·refine bch s (fun n s => ?_) (fun n s => ?_)
     ·refine tp n (tp n (tp n (tp n (to (spt Z14 n) ?_))));obtain rfl := sIn s;refine aB (aJ rfl (ae rfl) rfl)
     ·refine tkl 2 n rfl rfl kM rfl aQ ?_;obtain ⟨P, Q, s⟩ := bns s;refine tk n (scr call154 (gC _ _ _ Q)) (tk n (sn rfl) (to (spf (.b (!P)) n) ?_));obtain rfl := sIn s;refine aB (aJ rfl (ae rfl) rfl)
    ·refine aB ?_;refine tih h (fun T h => ?_) (fun T h => ?_)
     ·refine aC (aA (ta Z2 (aB ?_)));obtain rfl := sIn h;refine bK (bE (bH (l := [2]) (ae rfl))) ?_;exact rt
     ·refine aU (aA (tm (.d (.lit w5)) (tfl 2 rfl rfl wW rfl aQ (to (dE (aE rfl) bC rfl rfl (rows := ([x8.Player]).map aF) rfl (bY (f := aF) fun _ => rfl) rfl (by decide)) ?_))));obtain ⟨U, V, h⟩ := bns h;refine bG rfl (dL (i := 1) (aE rfl) bC rfl rfl rfl (fun _ => rfl) V rfl) ?_;rintro _ ⟨I, rfl⟩;refine ta (.d (.lit I)) ?_;refine cN ?_;refine aA (to (sar rfl rfl rfl) (tm (.i (w64 (z + 1))) (aB ?_)));exact ⟨(w64 (z + 1), U, I), h, aO [0, 1] rfl rfl (aH rfl (aH rfl (aK (ae rfl))))⟩
  ·refine bO ?_;refine .inl ⟨rfl, ?_⟩;simp only [lB] at h;refine aC (aA (tm (.d (.lit w5)) ?_));obtain ⟨B, W, h⟩ := bns h;refine gY (aO [1, 0] rfl rfl (le_refl _)) ?_;refine bG rfl (dU (passed := [.arr w5 3 1 (j.map aF)]) (aE rfl) rfl (.func _ _ call103) rfl rfl (xW j W)) ?_;rintro _ ⟨_, _, ⟨rfl, rfl⟩, rfl⟩;refine aB (aC (aA (to (sla 1 (aY a) rfl rfl fK) ?_)));obtain ⟨A, X, h⟩ := bns h;refine to (eO (aE rfl) (.func _ _ call155) rfl rfl (aGc _ X)) ?_;refine ta (.d (.sl 1 (A.map aF))) (aB (aC (aC (aA (tm (.d (.lit w5)) ?_)))));obtain ⟨Y, Z, h⟩ := bns h;refine to (sc call156 (aDa _ Z) (.cons (.d (gZ 0 rfl (bY (f := aF) fun _ => rfl))) .nil)) (to (sn rfl) (tm (.b (!Y)) ?_));obtain ⟨a0, t, h⟩ := bns h;refine aV 4 [1, 3, 6] 57 a0 ?_ ?_
   ·refine bch t (fun o t => ?_) (fun o t => ?_)
    ·refine tp o (tp o (tp o (to (spt Z14 o) ?_)));obtain rfl := sIn t;refine aB (aJ rfl (ae rfl) rfl)
    ·refine tk o (sm (.d (.sl 1 (A.map aF)))) ?_;obtain ⟨a1, a2, t⟩ := bns t;refine tk o (scr call156 (aDa _ a2)) (tk o (sn rfl) (to (spf (.b (!a1)) o) ?_));obtain rfl := sIn t;refine aB (aJ rfl (ae rfl) rfl)
   ·refine aB ?_;refine tih h (fun a3 h => ?_) (fun a3 h => ?_)
    ·refine aC (aA (ta Z2 (aB ?_)));obtain rfl := sIn h;refine bK (bE (bH (l := [2]) (ae rfl))) ?_;exact rt
    ·refine aU (aC (aC (aA (to (sf rfl jU) (tfl 1 rfl rfl dW rfl cC (to (sle rfl bC.of) (tm (.i 0) (aB (bD ?_)))))))));refine bP (S := Int) [1, 3, 6, 60, 61] (fun C => [(62, .i C)]) (fun C => [.box b1 0 (aY a), .arr w5 3 1 (B.map aF)]) (fun k C => jV A a.Tree.Slots (a.Tree.Slots.length : Int) a B k C) (fun _ => rfl) (0) h (aO [1, 0] rfl rfl (aH rfl (aK (ae rfl)))) ?_;rintro c3 u h;simp only [jV] at h;refine aC (aA (to (scm rfl rfl rfl) (aB (aC ?_))));refine tih h (fun a4 h => ?_) (fun a4 h => ?_)
     ·refine aU (aC (bD (aC (aA ?_))));obtain ⟨E, a5, h⟩ := bns h;refine to (six rfl rfl bC.of (aW aF a5)) (to (slc rfl aQ) (ta (.i E) (aB (aC (aA (tm (.i E) (to (scm rfl rfl rfl) (tm (.b (!decide (E = (-1)))) ?_))))))));obtain ⟨a6, w, h⟩ := bns h;refine aV 5 [1, 3, 6, 60, 61, 62] 73 a6 ?_ ?_
      ·refine bch w (fun g w => ?_) (fun g w => ?_)
       ·refine tk g (sm (.d (.lit w5))) (tk g (sm (.i E)) ?_);obtain ⟨a7, a8, w⟩ := bns w;refine tk g (sc call91 (cX _ _ a8) (.cons (.d (gZ 1 rfl (bY (f := aF) fun _ => rfl))) (.cons (.same _) .nil))) (tk g (sn rfl) (to (spt (.b (!a7)) g) ?_));obtain rfl := sIn w;refine aB (aJ rfl (ae rfl) rfl)
       ·refine tp g (tp g (tp g (tp g (to (spf Z2 g) ?_))));obtain rfl := sIn w;refine aB (aJ rfl (ae rfl) rfl)
      ·refine aB ?_;refine tih h (fun a9 h => ?_) (fun a9 h => ?_)
       ·refine aC (aA (ta Z2 (aB ?_)));obtain rfl := sIn h;refine bK (bE (bH (l := [2]) (ae rfl))) ?_;exact rt
       ·refine cA ?_;refine aA (to (sar rfl rfl rfl) (tm (.i (w64 (u + 1))) (aB ?_)));exact ⟨(w64 (u + 1)), h, aO [0, 1] rfl rfl (aH rfl (aK (ae rfl)))⟩
     ·refine bO ?_;refine .inl ⟨rfl, ?_⟩;simp only [tL] at h;refine aC (aC (aA (tfl 0 rfl rfl uI rfl aCg (to (sle rfl iT.of) (tm (.i 0) (aB (bD ?_)))))));refine bP (S := Int) [1, 3, 6, 76, 77] (fun F => [(78, .i F)]) (fun F => [.box b1 0 (aY a), .arr w5 3 1 (B.map aF)]) (fun k F => nE A a.Slips (a.Slips.length : Int) a B k F) (fun _ => rfl) (0) h (aO [0, 1] rfl rfl (aH rfl (aK (ae rfl)))) ?_;rintro c4 x h;simp only [nE] at h;refine aC (aA (to (scm rfl rfl rfl) (aB (aC ?_))));refine tih h (fun b0 h => ?_) (fun b0 h => ?_)
      ·refine aU (aC (bD (aC (aA ?_))));obtain ⟨G, b2, h⟩ := bns h;refine to (six rfl rfl iT.of (aW aM b2)) (to (tG (aM G) rfl mN) ?_);refine bG rfl (cJ (zs := [.j 0, .j 0, .j 0, .j 0, .j 0]) (aE rfl) zeroValue95 rfl rfl) ?_;rintro _ ⟨c5, rfl⟩;refine to (sst 2 rfl rfl sizeOf95 (aM G)) (aB (aC (aA (tfl 2 rfl rfl qC rfl aQ (to (scm rfl rfl rfl) (tm (.b (decide (G.Kind = 5))) ?_))))));obtain ⟨b3, y, h⟩ := bns h;refine aV 6 [1, 3, 6, 76, 77, 78] 91 b3 ?_ ?_
       ·refine bch y (fun c y => ?_) (fun c y => ?_)
        ·refine tk c (sm (.d (.lit w5))) (tkl 2 c rfl rfl qD rfl aQ ?_);obtain ⟨b4, b5, y⟩ := bns y;refine tk c (sc call91 (cX _ _ b5) (.cons (.d (gZ 1 rfl (bY (f := aF) fun _ => rfl))) (.cons (.same _) .nil))) (tk c (sn rfl) (to (spt (.b (!b4)) c) ?_));obtain rfl := sIn y;refine aB (aJ rfl (ae rfl) rfl)
        ·refine tp c (tp c (tp c (tp c (tp c (to (spf Z2 c) ?_)))));obtain rfl := sIn y;refine aB (aJ rfl (ae rfl) rfl)
       ·refine aB ?_;refine tih h (fun b6 h => ?_) (fun b6 h => ?_)
        ·refine aC (aA (ta Z2 (aB ?_)));obtain rfl := sIn h;refine bK (bE (bH (l := [2]) (ae rfl))) ?_;exact rt
        ·refine cA ?_;refine aA (to (sar rfl rfl rfl) (tm (.i (w64 (x + 1))) (aB ?_)));exact ⟨(w64 (x + 1)), h, aO [0, 1] rfl rfl (aH rfl (aK (ae rfl)))⟩
      ·refine bO ?_;refine .inl ⟨rfl, ?_⟩;simp only [tM] at h;refine aC (aA (ta (.fn 157 []) (aB (aC (aA (ta (.fn 158 []) (aB (aC (aA (tm (.d (.sl 1 (A.map aF))) (tfl 0 rfl rfl wU rfl aBk (tm (.fn 157 []) ?_))))))))))));obtain ⟨b7, b8, h⟩ := bns h;refine to (scr call159 (aFi _ _ _ 157 [] call157 (fun _ _ h => aLl _ h) b8)) (tm (.b b7) ?_);obtain ⟨J, p, h⟩ := bns h;refine aV 6 [] 104 J ?_ ?_
       ·refine bch p (fun e p => ?_) (fun e p => ?_)
        ·refine tk e (sm (.d (.sl 1 (A.map aF)))) (tkl 0 e rfl rfl aFq rfl aMi (tk e (sm (.fn 158 [])) ?_));obtain ⟨b9, c0, p⟩ := bns p;refine tk e (scr call160 (aFj _ _ _ 158 [] call158 (fun _ _ p => aLm _ p) c0)) (to (spt (.b b9) e) ?_);obtain rfl := sIn p;refine aB (aJ rfl trivial rfl)
        ·refine tp e (tp e (tp e (tp e (tp e (to (spf Z2 e) ?_)))));obtain rfl := sIn p;refine aB (aJ rfl trivial rfl)
       ·refine ta (.b J) (aB ?_);obtain rfl := sIn h;refine bK (bE (bH (l := [2]) (ae rfl))) ?_;exact rt

theorem aFb (a : List aN) {r : (List aN)} (h : uB a = some r) : dP Tryz.prog 203 [.d (.sl 4 (a.map aI))] [] (fun r' o' => ∃ (w0 : Value), r' = .d (.lit w0) ∧ o' = [.arr w0 240 4 (r.map aI)]) := by
 unfold uB at h;refine iF func203 rfl (rs := [.tmp 2]) results203 ntmps203 (Nat.le_of_ble_eq_true rfl) ?_;refine aC (aA (to (fX 240 4 (.inl rfl) (aE rfl)) ?_));refine aB (aC (aC (aA (tm (.d (.sl 4 (a.map aI))) ?_))));refine bG rfl (aQp (aE rfl) rfl rfl underlying111) ?_;rintro _ ⟨b2, h3, rfl⟩;refine aB ?_;refine aDq rfl (fun c4 => ?_) (fun c4 => ?_)
 ·obtain rfl := aPz (h3 c4)
  simp [app] at h
  subst h;refine aC (aA (to (fX 240 4 (.inl rfl) (aE rfl)) ?_));refine aB ?_;refine bK (aO [1, 0] rfl rfl (le_refl _)) ?_;exact cD ⟨rfl, _, Z28, Z28, _, .one (.tmp 2 (v := .d Z56) rfl), .refl _, .same _, (.slice none 0 0), rfl, rfl⟩
 ·refine aU (aC (aA ?_));refine bG rfl (zM (aE rfl) cQ rfl rfl (rows := (([] : List aN)).map aI) rfl (bY (f := aI) fun _ => rfl) rfl (by decide)) ?_;rintro _ ⟨v5, rfl⟩;refine tm (.d (.sl 4 (a.map aI))) ?_;obtain ⟨x6, h7, h⟩ := bns h;refine bG rfl (dL (i := 1) (aE rfl) cQ rfl rfl rfl (fun _ => rfl) h7 rfl) ?_;rintro _ ⟨v8, rfl⟩;refine ta (.d (.lit v8)) (aB ?_);obtain rfl := sIn h;refine bK (aO [1, 0] rfl rfl (le_refl _)) ?_;exact cD ⟨rfl, _, [.arr v8 240 4 (x6.map aI)], Z28, _, .one (.tmp 2 (v := .d (.lit v8)) rfl), .refl _, .same _, v8, rfl, rfl⟩

theorem nX (p : List aN) (f : Int) (t : Int) (o : aN → aN → Option Int) {r : (List aN)} {a : Value} (g : Nat) (n : List AV) (y : ∀ args w, (callFunc g args).run Tryz.prog w = .ok (.enter g args) w) (z : ∀ (x0 : aN) (x1 : aN) r, o x0 x1 = some r → Fn Tryz.prog g ([.agg (aI x0), .agg (aI x1)] ++ n) (.i r)) (h : gL p f t o = some r) : dP Tryz.prog 244 [.d (.lit a), .i f, .i t, .fn g n] (Z41 a p) (fun r' o' => r' = .tup [] ∧ o' = (Z63 a r)) := by
 unfold gL at h;refine qT func244 rfl (rs := []) results244 ntmps244 (Nat.le_of_ble_eq_true rfl) ?_;refine aC (aA (tm (.i f) (to (sar rfl rfl rfl) (ta (.i (w64 (f + 1))) (aB (bD ?_))))));refine bP (S := Int × Z66) [1, 2, 3] (fun s1 => [(0, .d (.lit a)), (8, .i s1.1)]) (fun s1 => [.arr a 240 4 (s1.2.map aI)]) (fun k s1 => eJ f t o k s1.1 s1.2) (fun _ => rfl) (w64 (f + 1), p) h (aO [0] rfl rfl (aH rfl (aH rfl (aK (ae rfl))))) ?_;rintro k2 ⟨j, q⟩ h;simp only [eJ] at h;refine aC (aC (aA (tm (.i j) (tm (.i t) (to (scm rfl rfl rfl) (aB ?_))))));refine tih h (fun c3 h => ?_) (fun c3 h => ?_)
 ·refine aU (aC (bD (aC (aA (tm (.i j) (ta (.i j) (aB ?_)))))));refine vQ ?_;refine bP (S := Int × Z66) [1, 2, 3, 8] (fun s4 => [(0, .d (.lit a)), (9, .i s4.1)]) (fun s4 => [.arr a 240 4 (s4.2.map aI)]) (fun k s4 => fO (eJ f t o k2) f t o j k s4.1 s4.2) (fun _ => rfl) (j, q) h (aO [0] rfl rfl (aH rfl (aH rfl (aK (ae rfl))))) ?_;rintro k5 ⟨c, e⟩ h;simp only [fO] at h;refine aC (aC ?_);obtain ⟨b6, h7, h⟩ := bns h;refine cI mix 17 [0, 1, 2, 3, 8, 9] [(34, .b b6)] ?_ ?_
  ·refine bch h7 (fun c8 h7 => ?_) (fun c8 h7 => ?_)
   ·obtain ⟨x9, A, h7⟩ := bns h7;obtain ⟨B, C, h7⟩ := bns h7;obtain ⟨x, I, h7⟩ := bns h7;obtain rfl := sIn h7;refine ⟨[(18, 0, .i c), (19, 1, .i f), (20, 2, .b (decide (f < c))), (21, 3, .b (decide (f < c))), (22, 4, .fn g n), (23, 5, .d (.lit a)), (24, 6, .i c), (25, 7, .ep a 4 c.toNat 0), (26, 8, .agg (aI x9)), (27, 9, .d (.lit a)), (28, 10, .i c), (29, 11, .i (w64 (c - 1))), (30, 12, .ep a 4 (w64 (c - 1)).toNat 0), (31, 13, .agg (aI B)), (32, 14, .i x), (33, 15, .b (decide (x < 0))), (34, 16, .b (decide (x < 0)))], ?_, ?_⟩
    · exact dk [0, 0, 102, 3, 4, 4, 4, 40607, 408, 4, 4, 411, 41012, 413, 4050914, 415, 416] ⟨go (zm (.i c)),
 go (zm (.i f)),
 go (zcm rfl rfl rfl),
 go (zm (.b (decide (f < c)))),
 gt c8 (zm (.fn g n)),
 gt c8 (zm (Z31 a)),
 gt c8 (zm (.i c)),
 gt c8 (zia 0 rfl rfl rfl cQ.of (aW aI A)),
 gt c8 fun S hS => dQ (aE rfl) (aX hS rfl) (l := 0) rfl (dI aI A) eU (es := (aI x9)) rfl rfl,
 gt c8 (zm (Z31 a)),
 gt c8 (zm (.i c)),
 gt c8 (zar rfl rfl rfl),
 gt c8 (zia 0 rfl rfl rfl cQ.of (aW aI C)),
 gt c8 fun S hS => dQ (aE rfl) (aX hS rfl) (l := 0) rfl (dI aI C) eU (es := (aI B)) rfl rfl,
 gt c8 fun S hS => cT (aE rfl) (.clo _ _ _ _ y (aQd hS rfl)) (wT (ev2 (aX hS rfl) (ev2 (aX hS rfl) evn))) rfl (BVs.refl _ _) (z _ _ _  I) rfl,
 gt c8 (zcm rfl rfl rfl),
 go (zpt (.b (decide (x < 0))) c8), trivial⟩
    · exact bT (aH rfl (aK (ae rfl)))
   ·obtain rfl := sIn h7;refine ⟨[(18, 0, .i c), (19, 1, .i f), (20, 2, .b (decide (f < c))), (21, 3, .b (decide (f < c))), (22, 4, .tup []), (23, 5, .tup []), (24, 6, .tup []), (25, 7, .tup []), (26, 8, .tup []), (27, 9, .tup []), (28, 10, .tup []), (29, 11, .tup []), (30, 12, .tup []), (31, 13, .tup []), (32, 14, .tup []), (33, 15, .tup []), (34, 16, .b false)], ?_, ?_⟩
    · exact dk [0, 0, 102, 3, 4, 4, 4, 40607, 408, 4, 4, 411, 41012, 413, 4050914, 415, 416] ⟨go (zm (.i c)),
 go (zm (.i f)),
 go (zcm rfl rfl rfl),
 go (zm (.b (decide (f < c)))),
 gp c8,
 gp c8,
 gp c8,
 gp c8,
 gp c8,
 gp c8,
 gp c8,
 gp c8,
 gp c8,
 gp c8,
 gp c8,
 gp c8,
 go (zpf Z2 c8), trivial⟩
    · exact bT (aH rfl (aK (ae rfl)))
  ·refine aB ?_;refine tih h (fun J h => ?_) (fun J h => ?_)
   ·refine aU (aC (bD ?_));obtain ⟨s, E, h⟩ := bns h;obtain ⟨u, F, h⟩ := bns h;obtain ⟨K, G, h⟩ := bns h;refine iE mix 16 [0, 1, 2, 3, 8, 9] (fun v => [(39, .d (.lit a)), (41, .i (w64 (c - 1))), (50, .agg (aI u))]) (fun v => [.arr a 240 4 ((e.set c.toNat s).map aI)]) ?_ ?_
    ·refine ⟨0, fun v => [(37, 0, .d (.lit a)), (38, 1, .i c), (39, 2, .d (.lit a)), (40, 3, .i c), (41, 4, .i (w64 (c - 1))), (42, 5, .d (.lit a)), (43, 6, .i c), (44, 7, .i (w64 (c - 1))), (45, 8, .ep a 4 (w64 (c - 1)).toNat 0), (46, 9, .agg (aI s)), (47, 10, .d (.lit a)), (48, 11, .i c), (49, 12, .ep a 4 c.toNat 0), (50, 13, .agg (aI u)), (51, 14, .ep a 4 c.toNat 0)], fun v => [([(15, .arr a 240 4 ((e.set c.toNat s).map aI))], .arr a 240 4 (e.map aI))], ?_, ?_⟩
     · exact xok [(0, 16), (0, 16), (0, 0), (0, 0), (4, 0), (0, 16), (0, 16), (7, 16), (608, 16), (9, 16), (0, 16), (0, 16), (1112, 16), (13, 16), (102, 16), (1015, 0)] ⟨fun _ _ w _ k => xp w (ym k (Z31 a)),
 fun _ _ w _ k => xp w (ym k (.i c)),
 fun _ _ w _ k => xp w (ym k (Z31 a)),
 fun _ _ w _ k => xp w (ym k (.i c)),
 fun _ _ w _ k => xp w (yar k rfl rfl rfl),
 fun _ _ w _ k => xp w (ym k (Z31 a)),
 fun _ _ w _ k => xp w (ym k (.i c)),
 fun _ _ w _ k => xp w (yar k rfl rfl rfl),
 fun _ _ w _ k => xp w (yia k 0 rfl (og k rfl rfl) rfl cQ.of (aW aI E)),
 fun _ _ w _ k => xp w (dQ (aE rfl) (aX k rfl) (l := 0) (og k rfl rfl) (dI aI E) eU (es := (aI s)) rfl rfl),
 fun _ _ w _ k => xp w (ym k (Z31 a)),
 fun _ _ w _ k => xp w (ym k (.i c)),
 fun _ _ w _ k => xp w (yia k 0 rfl (og k rfl rfl) rfl cQ.of (aW aI F)),
 fun _ _ w _ k => xp w (dQ (aE rfl) (aX k rfl) (l := 0) (og k rfl rfl) (dI aI F) eU (es := (aI u)) rfl rfl),
 fun _ _ w _ k => xp w (yia k 0 rfl (og k rfl rfl) rfl cQ.of (aW aI G)),
 fun _ _ _ _ k => xs 0 k rfl rfl (lM (l := 0) (aX k rfl) (og k rfl rfl) (dI aI G) (aX k rfl) rfl rfl sizeOf240 rfl (aE rfl) (Nat.le_of_ble_eq_true rfl) (rows' := ((e.set c.toNat s)).map aI) (uA _ _ _ _ rfl)), trivial⟩
     · exact fun v => bT (aH rfl (aH rfl (aH rfl (aK (ae rfl)))))
    ·intro v;obtain ⟨L, H, h⟩ := bns h;refine to (gS (m := 0) (aE rfl) rfl rfl rfl cQ.of (aW aI H)) ?_;refine to (lM (l := 0) rfl rfl (dI aI H) rfl rfl rfl sizeOf240 rfl (aE rfl) (Nat.le_of_ble_eq_true rfl) (rows' := (((e.set c.toNat s).set (w64 (c - 1)).toNat u)).map aI) (uA _ _ _ _ rfl)) ?_;refine cN ?_;refine aA (tm (.i c) (to (sar rfl rfl rfl) (ta (.i (w64 (c - 1))) (aB ?_))));exact ⟨(w64 (c - 1), ((e.set c.toNat s).set (w64 (c - 1)).toNat u)), h, aO [0] rfl rfl (aH rfl (aH rfl (aK (ae rfl))))⟩
   ·refine bO ?_;refine .inl ⟨rfl, ?_⟩;simp only [nL] at h;simp only [nK] at h;refine aA (tm (.i j) (to (sar rfl rfl rfl) (ta (.i (w64 (j + 1))) (aB ?_))));exact ⟨(w64 (j + 1), e), h, aO [0] rfl rfl (aH rfl (aH rfl (aK (ae rfl))))⟩
 ·refine bO ?_;refine .inl ⟨rfl, ?_⟩;simp only [nJ] at h;obtain rfl := sIn h;exact ⟨_, [.arr a 240 4 (q.map aI)], [], _, .none, .refl _, .same _, rfl, rfl⟩

theorem lD (j : List aN) (e : Int) (f : Int) (o : Int) (p : aN → aN → Option Int) {r : (List aN)} {a : Value} (g : Nat) (n : List AV) (_cmp_4_e : ∀ args w, (callFunc g args).run Tryz.prog w = .ok (.enter g args) w) (_cmp_4_h : ∀ (x0 : aN) (x1 : aN) r, p x0 x1 = some r → Fn Tryz.prog g ([.agg (aI x0), .agg (aI x1)] ++ n) (.i r)) (h : fU j e f o p = some r) : dP Tryz.prog 253 [.d (.lit a), .i e, .i f, .i o, .fn g n] (Z41 a j) (fun r' o' => r' = .tup [] ∧ o' = (Z63 a r)) := by
 unfold fU at h;refine qT func253 rfl (rs := []) results253 ntmps253 (Nat.le_of_ble_eq_true rfl) ?_;refine aC (aA (ta (.i 0) (aB (bD ?_))));refine bP (S := Int × Z66) [1, 2, 3] (fun s1 => [(0, .d (.lit a)), (10, .i s1.1)]) (fun s1 => [.arr a 240 4 (s1.2.map aI)]) (fun k s1 => gX e f o k s1.1 s1.2) (fun _ => rfl) (0, j) h (aO [0] rfl rfl (aH rfl (aH rfl (aK (ae rfl))))) ?_;rintro k2 ⟨b, c⟩ h;simp only [gX] at h;refine aC (aC (aA (tm (.i b) (tm (.i o) (to (scm rfl rfl rfl) (aB ?_))))));refine tih h (fun c3 h => ?_) (fun c3 h => ?_)
 ·refine aU (aC (bD ?_));obtain ⟨x5, h6, h⟩ := bns h;obtain ⟨x7, h8, h⟩ := bns h;obtain ⟨x9, q, h⟩ := bns h;refine iE mix 22 [0, 1, 2, 3, 10] (fun X4 => [(20, .d (.lit a)), (23, .i (w64 (f + b))), (35, .agg (aI x7))]) (fun X4 => [.arr a 240 4 ((c.set (w64 (e + b)).toNat x5).map aI)]) ?_ ?_
  ·refine ⟨0, fun X4 => [(16, 0, .d (.lit a)), (17, 1, .i e), (18, 2, .i b), (19, 3, .i (w64 (e + b))), (20, 4, .d (.lit a)), (21, 5, .i f), (22, 6, .i b), (23, 7, .i (w64 (f + b))), (24, 8, .d (.lit a)), (25, 9, .i f), (26, 10, .i b), (27, 11, .i (w64 (f + b))), (28, 12, .ep a 4 (w64 (f + b)).toNat 0), (29, 13, .agg (aI x5)), (30, 14, .d (.lit a)), (31, 15, .i e), (32, 16, .i b), (33, 17, .i (w64 (e + b))), (34, 18, .ep a 4 (w64 (e + b)).toNat 0), (35, 19, .agg (aI x7)), (36, 20, .ep a 4 (w64 (e + b)).toNat 0)], fun X4 => [([(21, .arr a 240 4 ((c.set (w64 (e + b)).toNat x5).map aI))], .arr a 240 4 (c.map aI))], ?_, ?_⟩
   · exact xok [(0, 22), (0, 22), (0, 22), (203, 22), (0, 0), (0, 0), (0, 0), (607, 0), (0, 22), (0, 22), (0, 22), (1011, 22), (912, 22), (13, 22), (0, 22), (0, 22), (0, 22), (1617, 22), (1518, 22), (19, 22), (104, 22), (1421, 0)] ⟨fun _ _ w _ k => xp w (ym k (Z31 a)),
 fun _ _ w _ k => xp w (ym k (.i e)),
 fun _ _ w _ k => xp w (ym k (.i b)),
 fun _ _ w _ k => xp w (yar k rfl rfl rfl),
 fun _ _ w _ k => xp w (ym k (Z31 a)),
 fun _ _ w _ k => xp w (ym k (.i f)),
 fun _ _ w _ k => xp w (ym k (.i b)),
 fun _ _ w _ k => xp w (yar k rfl rfl rfl),
 fun _ _ w _ k => xp w (ym k (Z31 a)),
 fun _ _ w _ k => xp w (ym k (.i f)),
 fun _ _ w _ k => xp w (ym k (.i b)),
 fun _ _ w _ k => xp w (yar k rfl rfl rfl),
 fun _ _ w _ k => xp w (yia k 0 rfl (og k rfl rfl) rfl cQ.of (aW aI h6)),
 fun _ _ w _ k => xp w (dQ (aE rfl) (aX k rfl) (l := 0) (og k rfl rfl) (dI aI h6) eU (es := (aI x5)) rfl rfl),
 fun _ _ w _ k => xp w (ym k (Z31 a)),
 fun _ _ w _ k => xp w (ym k (.i e)),
 fun _ _ w _ k => xp w (ym k (.i b)),
 fun _ _ w _ k => xp w (yar k rfl rfl rfl),
 fun _ _ w _ k => xp w (yia k 0 rfl (og k rfl rfl) rfl cQ.of (aW aI h8)),
 fun _ _ w _ k => xp w (dQ (aE rfl) (aX k rfl) (l := 0) (og k rfl rfl) (dI aI h8) eU (es := (aI x7)) rfl rfl),
 fun _ _ w _ k => xp w (yia k 0 rfl (og k rfl rfl) rfl cQ.of (aW aI q)),
 fun _ _ _ _ k => xs 0 k rfl rfl (lM (l := 0) (aX k rfl) (og k rfl rfl) (dI aI q) (aX k rfl) rfl rfl sizeOf240 rfl (aE rfl) (Nat.le_of_ble_eq_true rfl) (rows' := ((c.set (w64 (e + b)).toNat x5)).map aI) (uA _ _ _ _ rfl)), trivial⟩
   · exact fun X4 => bT (aH rfl (aH rfl (aH rfl (aK (ae rfl)))))
  ·intro X4;obtain ⟨t, s, h⟩ := bns h;refine to (gS (m := 0) (aE rfl) rfl rfl rfl cQ.of (aW aI s)) ?_;refine to (lM (l := 0) rfl rfl (dI aI s) rfl rfl rfl sizeOf240 rfl (aE rfl) (Nat.le_of_ble_eq_true rfl) (rows' := (((c.set (w64 (e + b)).toNat x5).set (w64 (f + b)).toNat x7)).map aI) (uA _ _ _ _ rfl)) ?_;refine cN ?_;refine aA (tm (.i b) (to (sar rfl rfl rfl) (ta (.i (w64 (b + 1))) (aB ?_))));exact ⟨(w64 (b + 1), ((c.set (w64 (e + b)).toNat x5).set (w64 (f + b)).toNat x7)), h, aO [0] rfl rfl (aH rfl (aH rfl (aK (ae rfl))))⟩
 ·refine bO ?_;refine .inl ⟨rfl, ?_⟩;simp only [pY] at h;obtain rfl := sIn h;exact ⟨_, [.arr a 240 4 (c.map aI)], [], _, .none, .refl _, .same _, rfl, rfl⟩

theorem rX (o : List aN) (p : Int) (f : Int) (q : Int) (l : aN → aN → Option Int) {r : (List aN)} {b : Value} (c : Nat) (g : List AV) (m : ∀ args w, (callFunc c args).run Tryz.prog w = .ok (.enter c args) w) (n : ∀ (x0 : aN) (x1 : aN) r, l x0 x1 = some r → Fn Tryz.prog c ([.agg (aI x0), .agg (aI x1)] ++ g) (.i r)) (h : nM o p f q l = some r) : dP Tryz.prog 251 [.d (.lit b), .i p, .i f, .i q, .fn c g] (Z41 b o) (fun r' o' => r' = .tup [] ∧ o' = (Z63 b r)) := by
 unfold nM at h;refine qT func251 rfl (rs := []) results251 ntmps251 (Nat.le_of_ble_eq_true rfl) ?_;refine aC (aA (tm (.i f) (tm (.i p) (to (sar rfl rfl rfl) (ta (.i (w64 (f - p))) (aB (aC (aA (tm (.i q) (tm (.i f) (to (sar rfl rfl rfl) (ta (.i (w64 (q - f))) (aB ?_)))))))))))));refine aC (bD ?_);refine bP (S := Int × Int × Z66) [2, 4] (fun s1 => [(0, .d (.lit b)), (10, .i s1.1), (11, .i s1.2.1)]) (fun s1 => [.arr b 240 4 (s1.2.2.map aI)]) (fun k s1 => fS f l k s1.1 s1.2.1 s1.2.2) (fun _ => rfl) (w64 (f - p), w64 (q - f), o) h (aO [0] rfl rfl (aH rfl (aH rfl (aH rfl (aK (ae rfl)))))) ?_;rintro k2 ⟨a, e, j⟩ h;simp only [fS] at h;refine aC (aC (aA (tm (.i a) (tm (.i e) (to (scm rfl rfl rfl) (aB ?_))))));refine tih h (fun c3 h => ?_) (fun c3 h => ?_)
 ·refine aU (bD (aC (aA (tm (.i a) (tm (.i e) (to (scm rfl rfl rfl) (aB ?_)))))));refine tih h (fun c4 h => ?_) (fun c4 h => ?_)
  ·refine aC (aA (tm (Z31 b) (tm (.i f) (tm (.i a) (to (sar rfl rfl rfl) (tm (.i f) (tm (.i e) (tm (.fn c g) ?_))))))));obtain ⟨r5, h6, h⟩ := bns h;refine bG rfl (dU (passed := [.arr b 240 4 (j.map aI)]) (aE rfl) rfl (.func _ _ call253) rfl rfl (lD j (w64 (f - a)) f e l c g m n h6)) ?_;rintro _ ⟨_, _, ⟨rfl, rfl⟩, rfl⟩;refine aB (aA (tm (.i a) (tm (.i e) (to (sar rfl rfl rfl) (ta (.i (w64 (a - e))) ?_)))));refine cN ?_;exact ⟨(w64 (a - e), e, r5), h, aO [0] rfl rfl (aH rfl (aH rfl (aH rfl (aK (ae rfl)))))⟩
  ·refine aC (aA (tm (Z31 b) (tm (.i f) (tm (.i a) (to (sar rfl rfl rfl) (tm (.i f) (tm (.i e) (to (sar rfl rfl rfl) (tm (.i a) (to (sar rfl rfl rfl) (tm (.i a) (tm (.fn c g) ?_))))))))))));obtain ⟨r7, h8, h⟩ := bns h;refine bG rfl (dU (passed := [.arr b 240 4 (j.map aI)]) (aE rfl) rfl (.func _ _ call253) rfl rfl (lD j (w64 (f - a)) (w64 ((w64 (f + e)) - a)) a l c g m n h8)) ?_;rintro _ ⟨_, _, ⟨rfl, rfl⟩, rfl⟩;refine aB (aA (tm (.i e) (tm (.i a) (to (sar rfl rfl rfl) (ta (.i (w64 (e - a))) ?_)))));refine cN ?_;exact ⟨(a, w64 (e - a), r7), h, aO [0] rfl rfl (aH rfl (aH rfl (aH rfl (aK (ae rfl)))))⟩
 ·refine bO ?_;refine .inl ⟨rfl, ?_⟩;simp only [rL] at h;refine aA (tm (Z31 b) (tm (.i f) (tm (.i a) (to (sar rfl rfl rfl) (tm (.i f) (tm (.i a) (tm (.fn c g) ?_)))))));obtain ⟨r9, s, h⟩ := bns h;refine bG rfl (dU (passed := [.arr b 240 4 (j.map aI)]) (aE rfl) rfl (.func _ _ call253) rfl rfl (lD j (w64 (f - a)) f a l c g m n s)) ?_;rintro _ ⟨_, _, ⟨rfl, rfl⟩, rfl⟩;refine aB ?_;obtain rfl := sIn h;exact ⟨_, [.arr b 240 4 (r9.map aI)], [], _, .none, .refl _, .same _, rfl, rfl⟩

theorem xX (z : aN → aN → Option Int) (n : Nat) (o : List AV) (E : ∀ args w, (callFunc n args).run Tryz.prog w = .ok (.enter n args) w) (F : ∀ (x0 : aN) (x1 : aN) r, z x0 x1 = some r → Fn Tryz.prog n ([.agg (aI x0), .agg (aI x1)] ++ o) (.i r)) (kr : Nat) : ∀ (p : List aN) (g : Int) (j : Int) (f : Int) {r : Z66} {a : Value} (_h : cE z kr p g j f = some r), dP Tryz.prog 245 [.d (.lit a), .i g, .i j, .i f, .fn n o] [.arr a 240 4 (p.map aI)] (fun r' o' => r' = .tup [] ∧ o' = [.arr a 240 4 (r.map aI)]) := by
  induction kr with
  | zero => intros; rename_i h; cases h
  | succ kr ih =>
    intro p g j f r a h;simp only [cE] at h;refine qT func245 rfl (rs := []) results245 ntmps245 (Nat.le_of_ble_eq_true rfl) ?_;refine aC (aC (aA (tm (.i j) (tm (.i g) (to (sar rfl rfl rfl) (to (scm rfl rfl rfl) (aB ?_)))))));refine tih h (fun c1 h => ?_) (fun c1 h => ?_)
    ·refine aC (aA (tm (.i j) (ta (.i j) (aB (aC (aA (tm (.i f) (ta (.i f) (aB (aC (bD ?_)))))))))));refine bP (S := Int × Int) [0, 1, 4] (fun s2 => [(10, .i s2.1), (11, .i s2.2)]) (fun s2 => [.arr a 240 4 (p.map aI)]) (fun k s2 => fD (cE z kr) g z p k s2.1 s2.2) (fun _ => rfl) (j, f) h (aO [0] rfl rfl (aH rfl (aH rfl (aK (ae rfl))))) ?_;rintro k3 ⟨y, C⟩ h;simp only [fD] at h;refine aC (aC (aA (tm (.i y) (tm (.i C) (to (scm rfl rfl rfl) (aB ?_))))));refine tih h (fun c4 h => ?_) (fun c4 h => ?_)
     ·refine aU (bD (aC (aA (tm (.i y) (tm (.i C) (to (sar rfl rfl rfl) (to (sU (aE rfl) rfl runUnderlying3 runUnderlying160) ?_)))))));refine to (aDl (aE rfl) rfl rfl (by decide)) ?_;refine to (sU (aE rfl) rfl runUnderlying160 runUnderlying3) ?_;refine ta (.i (w64 ((uw (w64 (y + C))).fdiv (2 ^ Z0)))) (aB (aC ?_));obtain ⟨x5, h6, h⟩ := bns h;obtain ⟨x7, h8, h⟩ := bns h;refine cI mix 9 [0, 1, 4, 10, 11, 12] [(40, .fn n o), (44, .agg (aI x5)), (48, .agg (aI x7))] ?_ ?_
      ·refine ⟨[(40, 0, .fn n o), (41, 1, .d (.lit a)), (42, 2, .i (w64 ((uw (w64 (y + C))).fdiv (2 ^ Z0)))), (43, 3, .ep a 4 (w64 ((uw (w64 (y + C))).fdiv (2 ^ Z0))).toNat 0), (44, 4, .agg (aI x5)), (45, 5, .d (.lit a)), (46, 6, .i g), (47, 7, .ep a 4 g.toNat 0), (48, 8, .agg (aI x7))], ?_, ?_⟩
       · exact dk [0, 0, 0, 203, 4, 0, 0, 607, 8] ⟨go (zm (.fn n o)),
 go (zm (.d (.lit a))),
 go (zm (.i (w64 ((uw (w64 (y + C))).fdiv (2 ^ Z0))))),
 go (zia 0 rfl rfl rfl cQ.of (aW aI h6)),
 go fun S hS => dQ (aE rfl) (aX hS rfl) (l := 0) rfl (dI aI h6) eU (es := (aI x5)) rfl rfl,
 go (zm (.d (.lit a))),
 go (zm (.i g)),
 go (zia 0 rfl rfl rfl cQ.of (aW aI h8)),
 go fun S hS => dQ (aE rfl) (aX hS rfl) (l := 0) rfl (dI aI h8) eU (es := (aI x7)) rfl rfl, trivial⟩
       · exact bT (aH rfl (aH rfl (aH rfl (aK (ae rfl)))))
      ·obtain ⟨r9, h9, h⟩ := bns h;refine to (cT (aE rfl) (.clo _ _ _ _ E rfl) (wT rfl) rfl (BVs.refl _ _) (F _ _ _  h9) rfl) ?_;refine to (scm rfl rfl rfl) (aB ?_);refine tih h (fun i0 h => ?_) (fun i0 h => ?_)
       ·refine aA (tm (.i (w64 ((uw (w64 (y + C))).fdiv (2 ^ Z0)))) (to (sar rfl rfl rfl) (ta (.i (w64 ((w64 ((uw (w64 (y + C))).fdiv (2 ^ Z0))) + 1))) ?_)));refine cN ?_;exact ⟨(w64 ((w64 ((uw (w64 (y + C))).fdiv (2 ^ Z0))) + 1), C), h, aO [0] rfl rfl (aH rfl (aH rfl (aK (ae rfl))))⟩
       ·refine aA (tm (.i (w64 ((uw (w64 (y + C))).fdiv (2 ^ Z0)))) (ta (.i (w64 ((uw (w64 (y + C))).fdiv (2 ^ Z0)))) ?_));refine cN ?_;exact ⟨(y, w64 ((uw (w64 (y + C))).fdiv (2 ^ Z0))), h, aO [0] rfl rfl (aH rfl (aH rfl (aK (ae rfl))))⟩
     ·refine bO ?_;refine .inl ⟨rfl, ?_⟩;simp only [qK] at h;refine aC (aC (aA (tm (.i g) (ta (.i g) (aB (bD ?_))))));refine bP (S := Int × Z66) [10] (fun a7 => [(0, .d (.lit a)), (13, .i a7.1)]) (fun a7 => [.arr a 240 4 (a7.2.map aI)]) (fun k a7 => iI (cE z kr) y k a7.1 a7.2) (fun _ => rfl) (g, p) h (aO [0] rfl rfl (aH rfl (aH rfl (aK (ae rfl))))) ?_;rintro l9 ⟨q, A⟩ h;simp only [iI] at h;refine aC (aC (aA (tm (.i q) (tm (.i y) (to (sar rfl rfl rfl) (to (scm rfl rfl rfl) (aB ?_)))))));refine tih h (fun i1 h => ?_) (fun i1 h => ?_)
      ·refine aU (aC (bD ?_));obtain ⟨X, d7, h⟩ := bns h;obtain ⟨b1, d8, h⟩ := bns h;obtain ⟨m0, d9, h⟩ := bns h;refine iE mix 16 [0, 10, 13] (fun b2 => [(63, .d (.lit a)), (65, .i (w64 (q + 1))), (74, .agg (aI b1))]) (fun b2 => [.arr a 240 4 ((A.set q.toNat X).map aI)]) ?_ ?_
       ·refine ⟨0, fun b2 => [(61, 0, .d (.lit a)), (62, 1, .i q), (63, 2, .d (.lit a)), (64, 3, .i q), (65, 4, .i (w64 (q + 1))), (66, 5, .d (.lit a)), (67, 6, .i q), (68, 7, .i (w64 (q + 1))), (69, 8, .ep a 4 (w64 (q + 1)).toNat 0), (70, 9, .agg (aI X)), (71, 10, .d (.lit a)), (72, 11, .i q), (73, 12, .ep a 4 q.toNat 0), (74, 13, .agg (aI b1)), (75, 14, .ep a 4 q.toNat 0)], fun b2 => [([(15, .arr a 240 4 ((A.set q.toNat X).map aI))], .arr a 240 4 (A.map aI))], ?_, ?_⟩
        · exact xok [(0, 16), (0, 16), (0, 0), (0, 0), (4, 0), (0, 16), (0, 16), (7, 16), (608, 16), (9, 16), (0, 16), (0, 16), (1112, 16), (13, 16), (102, 16), (1015, 0)] ⟨fun _ _ w _ k => xp w (ym k (.d (.lit a))),
 fun _ _ w _ k => xp w (ym k (.i q)),
 fun _ _ w _ k => xp w (ym k (.d (.lit a))),
 fun _ _ w _ k => xp w (ym k (.i q)),
 fun _ _ w _ k => xp w (yar k rfl rfl rfl),
 fun _ _ w _ k => xp w (ym k (.d (.lit a))),
 fun _ _ w _ k => xp w (ym k (.i q)),
 fun _ _ w _ k => xp w (yar k rfl rfl rfl),
 fun _ _ w _ k => xp w (yia k 0 rfl (og k rfl rfl) rfl cQ.of (aW aI d7)),
 fun _ _ w _ k => xp w (dQ (aE rfl) (aX k rfl) (l := 0) (og k rfl rfl) (dI aI d7) eU (es := (aI X)) rfl rfl),
 fun _ _ w _ k => xp w (ym k (.d (.lit a))),
 fun _ _ w _ k => xp w (ym k (.i q)),
 fun _ _ w _ k => xp w (yia k 0 rfl (og k rfl rfl) rfl cQ.of (aW aI d8)),
 fun _ _ w _ k => xp w (dQ (aE rfl) (aX k rfl) (l := 0) (og k rfl rfl) (dI aI d8) eU (es := (aI b1)) rfl rfl),
 fun _ _ w _ k => xp w (yia k 0 rfl (og k rfl rfl) rfl cQ.of (aW aI d9)),
 fun _ _ _ _ k => xs 0 k rfl rfl (lM (l := 0) (aX k rfl) (og k rfl rfl) (dI aI d9) (aX k rfl) rfl rfl sizeOf240 rfl (aE rfl) (Nat.le_of_ble_eq_true rfl) (rows' := ((A.set q.toNat X)).map aI) (uA _ _ _ _ rfl)), trivial⟩
        · exact fun b2 => bT (aH rfl (aH rfl (aH rfl (aK (ae rfl)))))
       ·intro b2;obtain ⟨m1, e0, h⟩ := bns h;refine to (gS (m := 0) (aE rfl) rfl rfl rfl cQ.of (aW aI e0)) ?_;refine to (lM (l := 0) rfl rfl (dI aI e0) rfl rfl rfl sizeOf240 rfl (aE rfl) (Nat.le_of_ble_eq_true rfl) (rows' := (((A.set q.toNat X).set (w64 (q + 1)).toNat b1)).map aI) (uA _ _ _ _ rfl)) ?_;refine cN ?_;refine aA (tm (.i q) (to (sar rfl rfl rfl) (ta (.i (w64 (q + 1))) (aB ?_))));exact ⟨(w64 (q + 1), ((A.set q.toNat X).set (w64 (q + 1)).toNat b1)), h, aO [0] rfl rfl (aH rfl (aH rfl (aK (ae rfl))))⟩
      ·refine bO ?_;refine .inl ⟨rfl, ?_⟩;simp only [qL] at h;obtain rfl := sIn h;exact cD ⟨rfl, _, [.arr a 240 4 (A.map aI)], [], _, .none, .refl _, .same _, rfl, rfl⟩
    ·refine aU (aC (aC (aA (tm (.i f) (tm (.i j) (to (sar rfl rfl rfl) (to (scm rfl rfl rfl) (aB ?_))))))));refine tih h (fun i2 h => ?_) (fun i2 h => ?_)
     ·refine aC (aA (tm (.i g) (ta (.i g) (aB (aC (aA (tm (.i j) (ta (.i j) (aB (aC (bD ?_)))))))))));refine bP (S := Int × Int) [0, 2, 4] (fun a8 => [(14, .i a8.1), (15, .i a8.2)]) (fun a8 => [.arr a 240 4 (p.map aI)]) (fun k a8 => fE (cE z kr) j z p k a8.1 a8.2) (fun _ => rfl) (g, j) h (aO [0] rfl rfl (aH rfl (aH rfl (aK (ae rfl))))) ?_;rintro m2 ⟨v, x⟩ h;simp only [fE] at h;refine aC (aC (aA (tm (.i v) (tm (.i x) (to (scm rfl rfl rfl) (aB ?_))))));refine tih h (fun i3 h => ?_) (fun i3 h => ?_)
      ·refine aU (bD (aC (aA (tm (.i v) (tm (.i x) (to (sar rfl rfl rfl) (to (sU (aE rfl) rfl runUnderlying3 runUnderlying160) ?_)))))));refine to (aDl (aE rfl) rfl rfl (by decide)) ?_;refine to (sU (aE rfl) rfl runUnderlying160 runUnderlying3) ?_;refine ta (.i (w64 ((uw (w64 (v + x))).fdiv (2 ^ Z0)))) (aB (aC ?_));obtain ⟨c9, e1, h⟩ := bns h;obtain ⟨d0, e2, h⟩ := bns h;refine cI mix 9 [0, 2, 4, 14, 15, 16] [(92, .fn n o), (96, .agg (aI c9)), (100, .agg (aI d0))] ?_ ?_
       ·refine ⟨[(92, 0, .fn n o), (93, 1, .d (.lit a)), (94, 2, .i j), (95, 3, .ep a 4 j.toNat 0), (96, 4, .agg (aI c9)), (97, 5, .d (.lit a)), (98, 6, .i (w64 ((uw (w64 (v + x))).fdiv (2 ^ Z0)))), (99, 7, .ep a 4 (w64 ((uw (w64 (v + x))).fdiv (2 ^ Z0))).toNat 0), (100, 8, .agg (aI d0))], ?_, ?_⟩
        · exact dk [0, 0, 0, 203, 4, 0, 0, 607, 8] ⟨go (zm (.fn n o)),
 go (zm (.d (.lit a))),
 go (zm (.i j)),
 go (zia 0 rfl rfl rfl cQ.of (aW aI e1)),
 go fun S hS => dQ (aE rfl) (aX hS rfl) (l := 0) rfl (dI aI e1) eU (es := (aI c9)) rfl rfl,
 go (zm (.d (.lit a))),
 go (zm (.i (w64 ((uw (w64 (v + x))).fdiv (2 ^ Z0))))),
 go (zia 0 rfl rfl rfl cQ.of (aW aI e2)),
 go fun S hS => dQ (aE rfl) (aX hS rfl) (l := 0) rfl (dI aI e2) eU (es := (aI d0)) rfl rfl, trivial⟩
        · exact bT (aH rfl (aH rfl (aH rfl (aK (ae rfl)))))
       ·obtain ⟨m3, i4, h⟩ := bns h;refine to (cT (aE rfl) (.clo _ _ _ _ E rfl) (wT rfl) rfl (BVs.refl _ _) (F _ _ _  i4) rfl) ?_;refine to (scm rfl rfl rfl) (to (sn rfl) (aB ?_));refine tih h (fun i5 h => ?_) (fun i5 h => ?_)
        ·refine aA (tm (.i (w64 ((uw (w64 (v + x))).fdiv (2 ^ Z0)))) (to (sar rfl rfl rfl) (ta (.i (w64 ((w64 ((uw (w64 (v + x))).fdiv (2 ^ Z0))) + 1))) ?_)));refine cN ?_;exact ⟨(w64 ((w64 ((uw (w64 (v + x))).fdiv (2 ^ Z0))) + 1), x), h, aO [0] rfl rfl (aH rfl (aH rfl (aK (ae rfl))))⟩
        ·refine aA (tm (.i (w64 ((uw (w64 (v + x))).fdiv (2 ^ Z0)))) (ta (.i (w64 ((uw (w64 (v + x))).fdiv (2 ^ Z0)))) ?_));refine cN ?_;exact ⟨(v, w64 ((uw (w64 (v + x))).fdiv (2 ^ Z0))), h, aO [0] rfl rfl (aH rfl (aH rfl (aK (ae rfl))))⟩
      ·refine bO ?_;refine .inl ⟨rfl, ?_⟩;simp only [qM] at h;refine aC (aC (aA (tm (.i j) (ta (.i j) (aB (bD ?_))))));refine bP (S := Int × Z66) [14] (fun a9 => [(0, .d (.lit a)), (17, .i a9.1)]) (fun a9 => [.arr a 240 4 (a9.2.map aI)]) (fun k a9 => iJ (cE z kr) v k a9.1 a9.2) (fun _ => rfl) (j, p) h (aO [0] rfl rfl (aH rfl (aH rfl (aK (ae rfl))))) ?_;rintro m4 ⟨s, B⟩ h;simp only [iJ] at h;refine aC (aC (aA (tm (.i s) (tm (.i v) (to (scm rfl rfl rfl) (aB ?_))))));refine tih h (fun i6 h => ?_) (fun i6 h => ?_)
       ·refine aU (aC (bD ?_));obtain ⟨Y, e3, h⟩ := bns h;obtain ⟨b3, e4, h⟩ := bns h;obtain ⟨m5, e5, h⟩ := bns h;refine iE mix 16 [0, 14, 17] (fun b4 => [(115, .d (.lit a)), (117, .i (w64 (s - 1))), (126, .agg (aI b3))]) (fun b4 => [.arr a 240 4 ((B.set s.toNat Y).map aI)]) ?_ ?_
        ·refine ⟨0, fun b4 => [(113, 0, .d (.lit a)), (114, 1, .i s), (115, 2, .d (.lit a)), (116, 3, .i s), (117, 4, .i (w64 (s - 1))), (118, 5, .d (.lit a)), (119, 6, .i s), (120, 7, .i (w64 (s - 1))), (121, 8, .ep a 4 (w64 (s - 1)).toNat 0), (122, 9, .agg (aI Y)), (123, 10, .d (.lit a)), (124, 11, .i s), (125, 12, .ep a 4 s.toNat 0), (126, 13, .agg (aI b3)), (127, 14, .ep a 4 s.toNat 0)], fun b4 => [([(15, .arr a 240 4 ((B.set s.toNat Y).map aI))], .arr a 240 4 (B.map aI))], ?_, ?_⟩
         · exact xok [(0, 16), (0, 16), (0, 0), (0, 0), (4, 0), (0, 16), (0, 16), (7, 16), (608, 16), (9, 16), (0, 16), (0, 16), (1112, 16), (13, 16), (102, 16), (1015, 0)] ⟨fun _ _ w _ k => xp w (ym k (.d (.lit a))),
 fun _ _ w _ k => xp w (ym k (.i s)),
 fun _ _ w _ k => xp w (ym k (.d (.lit a))),
 fun _ _ w _ k => xp w (ym k (.i s)),
 fun _ _ w _ k => xp w (yar k rfl rfl rfl),
 fun _ _ w _ k => xp w (ym k (.d (.lit a))),
 fun _ _ w _ k => xp w (ym k (.i s)),
 fun _ _ w _ k => xp w (yar k rfl rfl rfl),
 fun _ _ w _ k => xp w (yia k 0 rfl (og k rfl rfl) rfl cQ.of (aW aI e3)),
 fun _ _ w _ k => xp w (dQ (aE rfl) (aX k rfl) (l := 0) (og k rfl rfl) (dI aI e3) eU (es := (aI Y)) rfl rfl),
 fun _ _ w _ k => xp w (ym k (.d (.lit a))),
 fun _ _ w _ k => xp w (ym k (.i s)),
 fun _ _ w _ k => xp w (yia k 0 rfl (og k rfl rfl) rfl cQ.of (aW aI e4)),
 fun _ _ w _ k => xp w (dQ (aE rfl) (aX k rfl) (l := 0) (og k rfl rfl) (dI aI e4) eU (es := (aI b3)) rfl rfl),
 fun _ _ w _ k => xp w (yia k 0 rfl (og k rfl rfl) rfl cQ.of (aW aI e5)),
 fun _ _ _ _ k => xs 0 k rfl rfl (lM (l := 0) (aX k rfl) (og k rfl rfl) (dI aI e5) (aX k rfl) rfl rfl sizeOf240 rfl (aE rfl) (Nat.le_of_ble_eq_true rfl) (rows' := ((B.set s.toNat Y)).map aI) (uA _ _ _ _ rfl)), trivial⟩
         · exact fun b4 => bT (aH rfl (aH rfl (aH rfl (aK (ae rfl)))))
        ·intro b4;obtain ⟨m6, e6, h⟩ := bns h;refine to (gS (m := 0) (aE rfl) rfl rfl rfl cQ.of (aW aI e6)) ?_;refine to (lM (l := 0) rfl rfl (dI aI e6) rfl rfl rfl sizeOf240 rfl (aE rfl) (Nat.le_of_ble_eq_true rfl) (rows' := (((B.set s.toNat Y).set (w64 (s - 1)).toNat b3)).map aI) (uA _ _ _ _ rfl)) ?_;refine cN ?_;refine aA (tm (.i s) (to (sar rfl rfl rfl) (ta (.i (w64 (s - 1))) (aB ?_))));exact ⟨(w64 (s - 1), ((B.set s.toNat Y).set (w64 (s - 1)).toNat b3)), h, aO [0] rfl rfl (aH rfl (aH rfl (aK (ae rfl))))⟩
       ·refine bO ?_;refine .inl ⟨rfl, ?_⟩;simp only [qN] at h;obtain rfl := sIn h;exact cD ⟨rfl, _, [.arr a 240 4 (B.map aI)], [], _, .none, .refl _, .same _, rfl, rfl⟩
     ·refine aU (aC (aA (tm (.i g) (tm (.i f) (to (sar rfl rfl rfl) (to (sU (aE rfl) rfl runUnderlying3 runUnderlying160) ?_))))));refine to (aDl (aE rfl) rfl rfl (by decide)) ?_;refine to (sU (aE rfl) rfl runUnderlying160 runUnderlying3) ?_;refine ta (.i (w64 ((uw (w64 (g + f))).fdiv (2 ^ Z0)))) (aB (aC (aA (tm (.i (w64 ((uw (w64 (g + f))).fdiv (2 ^ Z0)))) (tm (.i j) (to (sar rfl rfl rfl) (ta (.i (w64 ((w64 ((uw (w64 (g + f))).fdiv (2 ^ Z0))) + j))) (aB (aC (aA (ta (.i 0) (ta (.i 0) (aB ?_)))))))))))));refine aC (aC (aA (tm (.i j) (tm (.i (w64 ((uw (w64 (g + f))).fdiv (2 ^ Z0)))) (to (scm rfl rfl rfl) (aB ?_))))));refine tih h (fun i7 h => ?_) (fun i7 h => ?_)
      ·refine aC (aA (tm (.i (w64 ((w64 ((uw (w64 (g + f))).fdiv (2 ^ Z0))) + j))) (tm (.i f) (to (sar rfl rfl rfl) (ta (.i (w64 ((w64 ((w64 ((uw (w64 (g + f))).fdiv (2 ^ Z0))) + j)) - f))) (aB (aA (tm (.i (w64 ((uw (w64 (g + f))).fdiv (2 ^ Z0)))) (ta (.i (w64 ((uw (w64 (g + f))).fdiv (2 ^ Z0)))) (aB (aC (aA (tm (.i (w64 ((w64 ((uw (w64 (g + f))).fdiv (2 ^ Z0))) + j))) ?_)))))))))))));refine to (sar rfl rfl rfl) (ta (.i (w64 ((w64 ((w64 ((uw (w64 (g + f))).fdiv (2 ^ Z0))) + j)) - 1))) (aB (aC (bD ?_))));refine bP (S := Int × Int) [0, 1, 2, 3, 4, 18, 19, 22] (fun b0 => [(20, .i b0.1), (21, .i b0.2)]) (fun b0 => [.arr a 240 4 (p.map aI)]) (fun k b0 => dC (cE z kr) g j f z (w64 ((uw (w64 (g + f))).fdiv (2 ^ Z0))) (w64 ((w64 ((uw (w64 (g + f))).fdiv (2 ^ Z0))) + j)) (w64 ((w64 ((w64 ((uw (w64 (g + f))).fdiv (2 ^ Z0))) + j)) - 1)) p k b0.1 b0.2) (fun _ => rfl) (w64 ((w64 ((w64 ((uw (w64 (g + f))).fdiv (2 ^ Z0))) + j)) - f), w64 ((uw (w64 (g + f))).fdiv (2 ^ Z0))) h (aO [0] rfl rfl (aH rfl (aH rfl (aK (ae rfl))))) ?_;rintro m7 ⟨e, u⟩ h;simp only [dC] at h;refine aC (aC (aA (tm (.i e) (tm (.i u) (to (scm rfl rfl rfl) (aB ?_))))));refine tih h (fun i8 h => ?_) (fun i8 h => ?_)
       ·refine aU (bD (aC (aA (tm (.i e) (tm (.i u) (to (sar rfl rfl rfl) (to (sU (aE rfl) rfl runUnderlying3 runUnderlying160) ?_)))))));refine to (aDl (aE rfl) rfl rfl (by decide)) ?_;refine to (sU (aE rfl) rfl runUnderlying160 runUnderlying3) ?_;refine ta (.i (w64 ((uw (w64 (e + u))).fdiv (2 ^ Z0)))) (aB (aC ?_));obtain ⟨d1, e7, h⟩ := bns h;obtain ⟨d2, e8, h⟩ := bns h;refine cI mix 11 [0, 1, 2, 3, 4, 18, 19, 20, 21, 22, 23] [(158, .fn n o), (164, .agg (aI d1)), (168, .agg (aI d2))] ?_ ?_
        ·refine ⟨[(158, 0, .fn n o), (159, 1, .d (.lit a)), (160, 2, .i (w64 ((w64 ((w64 ((uw (w64 (g + f))).fdiv (2 ^ Z0))) + j)) - 1))), (161, 3, .i (w64 ((uw (w64 (e + u))).fdiv (2 ^ Z0)))), (162, 4, .i (w64 ((w64 ((w64 ((w64 ((uw (w64 (g + f))).fdiv (2 ^ Z0))) + j)) - 1)) - (w64 ((uw (w64 (e + u))).fdiv (2 ^ Z0)))))), (163, 5, .ep a 4 (w64 ((w64 ((w64 ((w64 ((uw (w64 (g + f))).fdiv (2 ^ Z0))) + j)) - 1)) - (w64 ((uw (w64 (e + u))).fdiv (2 ^ Z0))))).toNat 0), (164, 6, .agg (aI d1)), (165, 7, .d (.lit a)), (166, 8, .i (w64 ((uw (w64 (e + u))).fdiv (2 ^ Z0)))), (167, 9, .ep a 4 (w64 ((uw (w64 (e + u))).fdiv (2 ^ Z0))).toNat 0), (168, 10, .agg (aI d2))], ?_, ?_⟩
         · exact dk [0, 0, 0, 0, 304, 205, 6, 0, 0, 809, 10] ⟨go (zm (.fn n o)),
 go (zm (.d (.lit a))),
 go (zm (.i (w64 ((w64 ((w64 ((uw (w64 (g + f))).fdiv (2 ^ Z0))) + j)) - 1)))),
 go (zm (.i (w64 ((uw (w64 (e + u))).fdiv (2 ^ Z0))))),
 go (zar rfl rfl rfl),
 go (zia 0 rfl rfl rfl cQ.of (aW aI e7)),
 go fun S hS => dQ (aE rfl) (aX hS rfl) (l := 0) rfl (dI aI e7) eU (es := (aI d1)) rfl rfl,
 go (zm (.d (.lit a))),
 go (zm (.i (w64 ((uw (w64 (e + u))).fdiv (2 ^ Z0))))),
 go (zia 0 rfl rfl rfl cQ.of (aW aI e8)),
 go fun S hS => dQ (aE rfl) (aX hS rfl) (l := 0) rfl (dI aI e8) eU (es := (aI d2)) rfl rfl, trivial⟩
         · exact bT (aH rfl (aH rfl (aH rfl (aK (ae rfl)))))
        ·obtain ⟨m8, i9, h⟩ := bns h;refine to (cT (aE rfl) (.clo _ _ _ _ E rfl) (wT rfl) rfl (BVs.refl _ _) (F _ _ _  i9) rfl) ?_;refine to (scm rfl rfl rfl) (to (sn rfl) (aB ?_));refine tih h (fun j0 h => ?_) (fun j0 h => ?_)
         ·refine aA (tm (.i (w64 ((uw (w64 (e + u))).fdiv (2 ^ Z0)))) (to (sar rfl rfl rfl) (ta (.i (w64 ((w64 ((uw (w64 (e + u))).fdiv (2 ^ Z0))) + 1))) ?_)));refine cN ?_;exact ⟨(w64 ((w64 ((uw (w64 (e + u))).fdiv (2 ^ Z0))) + 1), u), h, aO [0] rfl rfl (aH rfl (aH rfl (aK (ae rfl))))⟩
         ·refine aA (tm (.i (w64 ((uw (w64 (e + u))).fdiv (2 ^ Z0)))) (ta (.i (w64 ((uw (w64 (e + u))).fdiv (2 ^ Z0)))) ?_));refine cN ?_;exact ⟨(e, w64 ((uw (w64 (e + u))).fdiv (2 ^ Z0))), h, aO [0] rfl rfl (aH rfl (aH rfl (aK (ae rfl))))⟩
       ·refine bO ?_;refine .inl ⟨rfl, ?_⟩;simp only [lE] at h;refine aC (aA (tm (.i (w64 ((w64 ((uw (w64 (g + f))).fdiv (2 ^ Z0))) + j))) (tm (.i e) (to (sar rfl rfl rfl) (ta (.i (w64 ((w64 ((w64 ((uw (w64 (g + f))).fdiv (2 ^ Z0))) + j)) - e))) (aB (aC (aC (aA (tm (.i e) (tm (.i j) (to (scm rfl rfl rfl) (tm (.b (decide (e < j))) ?_)))))))))))));obtain ⟨j1, b5, h⟩ := bns h;refine aV 4 [0, 1, 2, 3, 4, 18, 20, 24] 185 j1 ?_ ?_
        ·refine bch b5 (fun N b5 => ?_) (fun N b5 => ?_)
         ·refine tk N (sm (.i j)) (tk N (sm (.i (w64 ((w64 ((w64 ((uw (w64 (g + f))).fdiv (2 ^ Z0))) + j)) - e)))) (tk N (scm rfl rfl rfl) (to (spt (.b (decide (j < (w64 ((w64 ((w64 ((uw (w64 (g + f))).fdiv (2 ^ Z0))) + j)) - e))))) N) ?_)));obtain rfl := sIn b5;refine aB (aJ rfl (ae rfl) rfl)
         ·refine tp N (tp N (tp N (to (spf Z2 N) ?_)));obtain rfl := sIn b5;refine aB (aJ rfl (ae rfl) rfl)
        ·refine aB ?_;refine tih h (fun j2 h => ?_) (fun j2 h => ?_)
         ·refine aA (tm (.d (.lit a)) (tm (.i e) (tm (.i j) (tm (.i (w64 ((w64 ((w64 ((uw (w64 (g + f))).fdiv (2 ^ Z0))) + j)) - e))) (tm (.fn n o) ?_)))));obtain ⟨b6, j3, h⟩ := bns h;refine bG rfl (dU (passed := [.arr a 240 4 (p.map aI)]) (aE rfl) rfl (.func _ _ call251) rfl rfl (rX p e j (w64 ((w64 ((w64 ((uw (w64 (g + f))).fdiv (2 ^ Z0))) + j)) - e)) z n o E F j3)) ?_;rintro _ ⟨_, _, ⟨rfl, rfl⟩, rfl⟩;refine aB (aC (aC (aA (tm (.i g) (tm (.i e) (to (scm rfl rfl rfl) (tm (.b (decide (g < e))) ?_)))))));obtain ⟨j4, b7, h⟩ := bns h;refine aV 4 [0, 1, 3, 4, 18, 20, 24] 199 j4 ?_ ?_
          ·refine bch b7 (fun O b7 => ?_) (fun O b7 => ?_)
           ·refine tk O (sm (.i e)) (tk O (sm (.i (w64 ((uw (w64 (g + f))).fdiv (2 ^ Z0))))) (tk O (scm rfl rfl rfl) (to (spt (.b (decide (e < (w64 ((uw (w64 (g + f))).fdiv (2 ^ Z0)))))) O) ?_)));obtain rfl := sIn b7;refine aB (aJ rfl (ae rfl) rfl)
           ·refine tp O (tp O (tp O (to (spf Z2 O) ?_)));obtain rfl := sIn b7;refine aB (aJ rfl (ae rfl) rfl)
          ·refine aB ?_;refine tih h (fun j5 h => ?_) (fun j5 h => ?_)
           ·refine aA (tm (.d (.lit a)) (tm (.i g) (tm (.i e) (tm (.i (w64 ((uw (w64 (g + f))).fdiv (2 ^ Z0)))) (tm (.fn n o) ?_)))));obtain ⟨d3, j6, h⟩ := bns h;refine bG rfl (dU (passed := [.arr a 240 4 (b6.map aI)]) (aE rfl) rfl (.func _ _ call245) rfl rfl (ih b6 g e (w64 ((uw (w64 (g + f))).fdiv (2 ^ Z0))) j6)) ?_;rintro _ ⟨_, _, ⟨rfl, rfl⟩, rfl⟩;refine aB (aC (aA (tm (.i (w64 ((uw (w64 (g + f))).fdiv (2 ^ Z0)))) (tm (.i (w64 ((w64 ((w64 ((uw (w64 (g + f))).fdiv (2 ^ Z0))) + j)) - e))) (to (scm rfl rfl rfl) (tm (.b (decide ((w64 ((uw (w64 (g + f))).fdiv (2 ^ Z0))) < (w64 ((w64 ((w64 ((uw (w64 (g + f))).fdiv (2 ^ Z0))) + j)) - e))))) ?_))))));obtain ⟨j7, b8, h⟩ := bns h;refine aV 4 [0, 3, 4, 18, 24] 213 j7 ?_ ?_
            ·refine bch b8 (fun P b8 => ?_) (fun P b8 => ?_)
             ·refine tk P (sm (.i (w64 ((w64 ((w64 ((uw (w64 (g + f))).fdiv (2 ^ Z0))) + j)) - e)))) (tk P (sm (.i f)) (tk P (scm rfl rfl rfl) (to (spt (.b (decide ((w64 ((w64 ((w64 ((uw (w64 (g + f))).fdiv (2 ^ Z0))) + j)) - e)) < f))) P) ?_)));obtain rfl := sIn b8;refine aB (aJ rfl (ae rfl) rfl)
             ·refine tp P (tp P (tp P (to (spf Z2 P) ?_)));obtain rfl := sIn b8;refine aB (aJ rfl (ae rfl) rfl)
            ·refine aB ?_;refine tih h (fun j8 h => ?_) (fun j8 h => ?_)
             ·refine aA (tm (.d (.lit a)) (tm (.i (w64 ((uw (w64 (g + f))).fdiv (2 ^ Z0)))) (tm (.i (w64 ((w64 ((w64 ((uw (w64 (g + f))).fdiv (2 ^ Z0))) + j)) - e))) (tm (.i f) (tm (.fn n o) ?_)))));obtain ⟨j9, k0, h⟩ := bns h;refine bG rfl (dU (passed := [.arr a 240 4 (d3.map aI)]) (aE rfl) rfl (.func _ _ call245) rfl rfl (ih d3 (w64 ((uw (w64 (g + f))).fdiv (2 ^ Z0))) (w64 ((w64 ((w64 ((uw (w64 (g + f))).fdiv (2 ^ Z0))) + j)) - e)) f k0)) ?_;rintro _ ⟨_, _, ⟨rfl, rfl⟩, rfl⟩;refine aB ?_;obtain rfl := sIn h;exact ⟨_, [.arr a 240 4 (j9.map aI)], [], _, .none, .refl _, .same _, rfl, rfl⟩
             ·refine aU ?_;obtain rfl := sIn h;exact ⟨_, [.arr a 240 4 (d3.map aI)], [], _, .none, .refl _, .same _, rfl, rfl⟩
           ·refine aU (aC (aA (tm (.i (w64 ((uw (w64 (g + f))).fdiv (2 ^ Z0)))) (tm (.i (w64 ((w64 ((w64 ((uw (w64 (g + f))).fdiv (2 ^ Z0))) + j)) - e))) (to (scm rfl rfl rfl) (tm (.b (decide ((w64 ((uw (w64 (g + f))).fdiv (2 ^ Z0))) < (w64 ((w64 ((w64 ((uw (w64 (g + f))).fdiv (2 ^ Z0))) + j)) - e))))) ?_))))));obtain ⟨k1, b9, h⟩ := bns h;refine aV 4 [0, 3, 4, 18, 24] 213 k1 ?_ ?_
            ·refine bch b9 (fun Q b9 => ?_) (fun Q b9 => ?_)
             ·refine tk Q (sm (.i (w64 ((w64 ((w64 ((uw (w64 (g + f))).fdiv (2 ^ Z0))) + j)) - e)))) (tk Q (sm (.i f)) (tk Q (scm rfl rfl rfl) (to (spt (.b (decide ((w64 ((w64 ((w64 ((uw (w64 (g + f))).fdiv (2 ^ Z0))) + j)) - e)) < f))) Q) ?_)));obtain rfl := sIn b9;refine aB (aJ rfl (ae rfl) rfl)
             ·refine tp Q (tp Q (tp Q (to (spf Z2 Q) ?_)));obtain rfl := sIn b9;refine aB (aJ rfl (ae rfl) rfl)
            ·refine aB ?_;refine tih h (fun k2 h => ?_) (fun k2 h => ?_)
             ·refine aA (tm (.d (.lit a)) (tm (.i (w64 ((uw (w64 (g + f))).fdiv (2 ^ Z0)))) (tm (.i (w64 ((w64 ((w64 ((uw (w64 (g + f))).fdiv (2 ^ Z0))) + j)) - e))) (tm (.i f) (tm (.fn n o) ?_)))));obtain ⟨k4, k5, h⟩ := bns h;refine bG rfl (dU (passed := [.arr a 240 4 (b6.map aI)]) (aE rfl) rfl (.func _ _ call245) rfl rfl (ih b6 (w64 ((uw (w64 (g + f))).fdiv (2 ^ Z0))) (w64 ((w64 ((w64 ((uw (w64 (g + f))).fdiv (2 ^ Z0))) + j)) - e)) f k5)) ?_;rintro _ ⟨_, _, ⟨rfl, rfl⟩, rfl⟩;refine aB ?_;obtain rfl := sIn h;exact ⟨_, [.arr a 240 4 (k4.map aI)], [], _, .none, .refl _, .same _, rfl, rfl⟩
             ·refine aU ?_;obtain rfl := sIn h;exact ⟨_, [.arr a 240 4 (b6.map aI)], [], _, .none, .refl _, .same _, rfl, rfl⟩
         ·refine aU (aC (aC (aA (tm (.i g) (tm (.i e) (to (scm rfl rfl rfl) (tm (.b (decide (g < e))) ?_)))))));obtain ⟨k6, c0, h⟩ := bns h;refine aV 4 [0, 1, 3, 4, 18, 20, 24] 199 k6 ?_ ?_
          ·refine bch c0 (fun T c0 => ?_) (fun T c0 => ?_)
           ·refine tk T (sm (.i e)) (tk T (sm (.i (w64 ((uw (w64 (g + f))).fdiv (2 ^ Z0))))) (tk T (scm rfl rfl rfl) (to (spt (.b (decide (e < (w64 ((uw (w64 (g + f))).fdiv (2 ^ Z0)))))) T) ?_)));obtain rfl := sIn c0;refine aB (aJ rfl (ae rfl) rfl)
           ·refine tp T (tp T (tp T (to (spf Z2 T) ?_)));obtain rfl := sIn c0;refine aB (aJ rfl (ae rfl) rfl)
          ·refine aB ?_;refine tih h (fun k7 h => ?_) (fun k7 h => ?_)
           ·refine aA (tm (.d (.lit a)) (tm (.i g) (tm (.i e) (tm (.i (w64 ((uw (w64 (g + f))).fdiv (2 ^ Z0)))) (tm (.fn n o) ?_)))));obtain ⟨d4, k8, h⟩ := bns h;refine bG rfl (dU (passed := [.arr a 240 4 (p.map aI)]) (aE rfl) rfl (.func _ _ call245) rfl rfl (ih p g e (w64 ((uw (w64 (g + f))).fdiv (2 ^ Z0))) k8)) ?_;rintro _ ⟨_, _, ⟨rfl, rfl⟩, rfl⟩;refine aB (aC (aA (tm (.i (w64 ((uw (w64 (g + f))).fdiv (2 ^ Z0)))) (tm (.i (w64 ((w64 ((w64 ((uw (w64 (g + f))).fdiv (2 ^ Z0))) + j)) - e))) (to (scm rfl rfl rfl) (tm (.b (decide ((w64 ((uw (w64 (g + f))).fdiv (2 ^ Z0))) < (w64 ((w64 ((w64 ((uw (w64 (g + f))).fdiv (2 ^ Z0))) + j)) - e))))) ?_))))));obtain ⟨k9, c2, h⟩ := bns h;refine aV 4 [0, 3, 4, 18, 24] 213 k9 ?_ ?_
            ·refine bch c2 (fun U c2 => ?_) (fun U c2 => ?_)
             ·refine tk U (sm (.i (w64 ((w64 ((w64 ((uw (w64 (g + f))).fdiv (2 ^ Z0))) + j)) - e)))) (tk U (sm (.i f)) (tk U (scm rfl rfl rfl) (to (spt (.b (decide ((w64 ((w64 ((w64 ((uw (w64 (g + f))).fdiv (2 ^ Z0))) + j)) - e)) < f))) U) ?_)));obtain rfl := sIn c2;refine aB (aJ rfl (ae rfl) rfl)
             ·refine tp U (tp U (tp U (to (spf Z2 U) ?_)));obtain rfl := sIn c2;refine aB (aJ rfl (ae rfl) rfl)
            ·refine aB ?_;refine tih h (fun l0 h => ?_) (fun l0 h => ?_)
             ·refine aA (tm (.d (.lit a)) (tm (.i (w64 ((uw (w64 (g + f))).fdiv (2 ^ Z0)))) (tm (.i (w64 ((w64 ((w64 ((uw (w64 (g + f))).fdiv (2 ^ Z0))) + j)) - e))) (tm (.i f) (tm (.fn n o) ?_)))));obtain ⟨l1, l2, h⟩ := bns h;refine bG rfl (dU (passed := [.arr a 240 4 (d4.map aI)]) (aE rfl) rfl (.func _ _ call245) rfl rfl (ih d4 (w64 ((uw (w64 (g + f))).fdiv (2 ^ Z0))) (w64 ((w64 ((w64 ((uw (w64 (g + f))).fdiv (2 ^ Z0))) + j)) - e)) f l2)) ?_;rintro _ ⟨_, _, ⟨rfl, rfl⟩, rfl⟩;refine aB ?_;obtain rfl := sIn h;exact ⟨_, [.arr a 240 4 (l1.map aI)], [], _, .none, .refl _, .same _, rfl, rfl⟩
             ·refine aU ?_;obtain rfl := sIn h;exact ⟨_, [.arr a 240 4 (d4.map aI)], [], _, .none, .refl _, .same _, rfl, rfl⟩
           ·refine aU (aC (aA (tm (.i (w64 ((uw (w64 (g + f))).fdiv (2 ^ Z0)))) (tm (.i (w64 ((w64 ((w64 ((uw (w64 (g + f))).fdiv (2 ^ Z0))) + j)) - e))) (to (scm rfl rfl rfl) (tm (.b (decide ((w64 ((uw (w64 (g + f))).fdiv (2 ^ Z0))) < (w64 ((w64 ((w64 ((uw (w64 (g + f))).fdiv (2 ^ Z0))) + j)) - e))))) ?_))))));obtain ⟨l3, c3, h⟩ := bns h;refine aV 4 [0, 3, 4, 18, 24] 213 l3 ?_ ?_
            ·refine bch c3 (fun V c3 => ?_) (fun V c3 => ?_)
             ·refine tk V (sm (.i (w64 ((w64 ((w64 ((uw (w64 (g + f))).fdiv (2 ^ Z0))) + j)) - e)))) (tk V (sm (.i f)) (tk V (scm rfl rfl rfl) (to (spt (.b (decide ((w64 ((w64 ((w64 ((uw (w64 (g + f))).fdiv (2 ^ Z0))) + j)) - e)) < f))) V) ?_)));obtain rfl := sIn c3;refine aB (aJ rfl (ae rfl) rfl)
             ·refine tp V (tp V (tp V (to (spf Z2 V) ?_)));obtain rfl := sIn c3;refine aB (aJ rfl (ae rfl) rfl)
            ·refine aB ?_;refine tih h (fun l4 h => ?_) (fun l4 h => ?_)
             ·refine aA (tm (.d (.lit a)) (tm (.i (w64 ((uw (w64 (g + f))).fdiv (2 ^ Z0)))) (tm (.i (w64 ((w64 ((w64 ((uw (w64 (g + f))).fdiv (2 ^ Z0))) + j)) - e))) (tm (.i f) (tm (.fn n o) ?_)))));obtain ⟨l5, l6, h⟩ := bns h;refine bG rfl (dU (passed := [.arr a 240 4 (p.map aI)]) (aE rfl) rfl (.func _ _ call245) rfl rfl (ih p (w64 ((uw (w64 (g + f))).fdiv (2 ^ Z0))) (w64 ((w64 ((w64 ((uw (w64 (g + f))).fdiv (2 ^ Z0))) + j)) - e)) f l6)) ?_;rintro _ ⟨_, _, ⟨rfl, rfl⟩, rfl⟩;refine aB ?_;obtain rfl := sIn h;exact ⟨_, [.arr a 240 4 (l5.map aI)], [], _, .none, .refl _, .same _, rfl, rfl⟩
             ·refine aU ?_;obtain rfl := sIn h;exact ⟨_, [.arr a 240 4 (p.map aI)], [], _, .none, .refl _, .same _, rfl, rfl⟩
      ·refine aC (aA (tm (.i g) (ta (.i g) (aB (aA (tm (.i j) (ta (.i j) (aB (aC (aA (tm (.i (w64 ((w64 ((uw (w64 (g + f))).fdiv (2 ^ Z0))) + j))) (to (sar rfl rfl rfl) (ta (.i (w64 ((w64 ((w64 ((uw (w64 (g + f))).fdiv (2 ^ Z0))) + j)) - 1))) ?_)))))))))))));refine aB (aC (bD ?_));refine bP (S := Int × Int) [0, 1, 2, 3, 4, 18, 19, 22] (fun W => [(20, .i W.1), (21, .i W.2)]) (fun W => [.arr a 240 4 (p.map aI)]) (fun k W => dC (cE z kr) g j f z (w64 ((uw (w64 (g + f))).fdiv (2 ^ Z0))) (w64 ((w64 ((uw (w64 (g + f))).fdiv (2 ^ Z0))) + j)) (w64 ((w64 ((w64 ((uw (w64 (g + f))).fdiv (2 ^ Z0))) + j)) - 1)) p k W.1 W.2) (fun _ => rfl) (g, j) h (aO [0] rfl rfl (aH rfl (aH rfl (aK (ae rfl))))) ?_;rintro l7 ⟨c, t⟩ h;simp only [dC] at h;refine aC (aC (aA (tm (.i c) (tm (.i t) (to (scm rfl rfl rfl) (aB ?_))))));refine tih h (fun e9 h => ?_) (fun e9 h => ?_)
       ·refine aU (bD (aC (aA (tm (.i c) (tm (.i t) (to (sar rfl rfl rfl) (to (sU (aE rfl) rfl runUnderlying3 runUnderlying160) ?_)))))));refine to (aDl (aE rfl) rfl rfl (by decide)) ?_;refine to (sU (aE rfl) rfl runUnderlying160 runUnderlying3) ?_;refine ta (.i (w64 ((uw (w64 (c + t))).fdiv (2 ^ Z0)))) (aB (aC ?_));obtain ⟨c5, d5, h⟩ := bns h;obtain ⟨c6, d6, h⟩ := bns h;refine cI mix 11 [0, 1, 2, 3, 4, 18, 19, 20, 21, 22, 23] [(158, .fn n o), (164, .agg (aI c5)), (168, .agg (aI c6))] ?_ ?_
        ·refine ⟨[(158, 0, .fn n o), (159, 1, .d (.lit a)), (160, 2, .i (w64 ((w64 ((w64 ((uw (w64 (g + f))).fdiv (2 ^ Z0))) + j)) - 1))), (161, 3, .i (w64 ((uw (w64 (c + t))).fdiv (2 ^ Z0)))), (162, 4, .i (w64 ((w64 ((w64 ((w64 ((uw (w64 (g + f))).fdiv (2 ^ Z0))) + j)) - 1)) - (w64 ((uw (w64 (c + t))).fdiv (2 ^ Z0)))))), (163, 5, .ep a 4 (w64 ((w64 ((w64 ((w64 ((uw (w64 (g + f))).fdiv (2 ^ Z0))) + j)) - 1)) - (w64 ((uw (w64 (c + t))).fdiv (2 ^ Z0))))).toNat 0), (164, 6, .agg (aI c5)), (165, 7, .d (.lit a)), (166, 8, .i (w64 ((uw (w64 (c + t))).fdiv (2 ^ Z0)))), (167, 9, .ep a 4 (w64 ((uw (w64 (c + t))).fdiv (2 ^ Z0))).toNat 0), (168, 10, .agg (aI c6))], ?_, ?_⟩
         · exact dk [0, 0, 0, 0, 304, 205, 6, 0, 0, 809, 10] ⟨go (zm (.fn n o)),
 go (zm (.d (.lit a))),
 go (zm (.i (w64 ((w64 ((w64 ((uw (w64 (g + f))).fdiv (2 ^ Z0))) + j)) - 1)))),
 go (zm (.i (w64 ((uw (w64 (c + t))).fdiv (2 ^ Z0))))),
 go (zar rfl rfl rfl),
 go (zia 0 rfl rfl rfl cQ.of (aW aI d5)),
 go fun S hS => dQ (aE rfl) (aX hS rfl) (l := 0) rfl (dI aI d5) eU (es := (aI c5)) rfl rfl,
 go (zm (.d (.lit a))),
 go (zm (.i (w64 ((uw (w64 (c + t))).fdiv (2 ^ Z0))))),
 go (zia 0 rfl rfl rfl cQ.of (aW aI d6)),
 go fun S hS => dQ (aE rfl) (aX hS rfl) (l := 0) rfl (dI aI d6) eU (es := (aI c6)) rfl rfl, trivial⟩
         · exact bT (aH rfl (aH rfl (aH rfl (aK (ae rfl)))))
        ·obtain ⟨l8, f0, h⟩ := bns h;refine to (cT (aE rfl) (.clo _ _ _ _ E rfl) (wT rfl) rfl (BVs.refl _ _) (F _ _ _  f0) rfl) ?_;refine to (scm rfl rfl rfl) (to (sn rfl) (aB ?_));refine tih h (fun f1 h => ?_) (fun f1 h => ?_)
         ·refine aA (tm (.i (w64 ((uw (w64 (c + t))).fdiv (2 ^ Z0)))) (to (sar rfl rfl rfl) (ta (.i (w64 ((w64 ((uw (w64 (c + t))).fdiv (2 ^ Z0))) + 1))) ?_)));refine cN ?_;exact ⟨(w64 ((w64 ((uw (w64 (c + t))).fdiv (2 ^ Z0))) + 1), t), h, aO [0] rfl rfl (aH rfl (aH rfl (aK (ae rfl))))⟩
         ·refine aA (tm (.i (w64 ((uw (w64 (c + t))).fdiv (2 ^ Z0)))) (ta (.i (w64 ((uw (w64 (c + t))).fdiv (2 ^ Z0)))) ?_));refine cN ?_;exact ⟨(c, w64 ((uw (w64 (c + t))).fdiv (2 ^ Z0))), h, aO [0] rfl rfl (aH rfl (aH rfl (aK (ae rfl))))⟩
       ·refine bO ?_;refine .inl ⟨rfl, ?_⟩;simp only [lE] at h;refine aC (aA (tm (.i (w64 ((w64 ((uw (w64 (g + f))).fdiv (2 ^ Z0))) + j))) (tm (.i c) (to (sar rfl rfl rfl) (ta (.i (w64 ((w64 ((w64 ((uw (w64 (g + f))).fdiv (2 ^ Z0))) + j)) - c))) (aB (aC (aC (aA (tm (.i c) (tm (.i j) (to (scm rfl rfl rfl) (tm (.b (decide (c < j))) ?_)))))))))))));obtain ⟨f2, Z, h⟩ := bns h;refine aV 4 [0, 1, 2, 3, 4, 18, 20, 24] 185 f2 ?_ ?_
        ·refine bch Z (fun G Z => ?_) (fun G Z => ?_)
         ·refine tk G (sm (.i j)) (tk G (sm (.i (w64 ((w64 ((w64 ((uw (w64 (g + f))).fdiv (2 ^ Z0))) + j)) - c)))) (tk G (scm rfl rfl rfl) (to (spt (.b (decide (j < (w64 ((w64 ((w64 ((uw (w64 (g + f))).fdiv (2 ^ Z0))) + j)) - c))))) G) ?_)));obtain rfl := sIn Z;refine aB (aJ rfl (ae rfl) rfl)
         ·refine tp G (tp G (tp G (to (spf Z2 G) ?_)));obtain rfl := sIn Z;refine aB (aJ rfl (ae rfl) rfl)
        ·refine aB ?_;refine tih h (fun f3 h => ?_) (fun f3 h => ?_)
         ·refine aA (tm (.d (.lit a)) (tm (.i c) (tm (.i j) (tm (.i (w64 ((w64 ((w64 ((uw (w64 (g + f))).fdiv (2 ^ Z0))) + j)) - c))) (tm (.fn n o) ?_)))));obtain ⟨a0, f4, h⟩ := bns h;refine bG rfl (dU (passed := [.arr a 240 4 (p.map aI)]) (aE rfl) rfl (.func _ _ call251) rfl rfl (rX p c j (w64 ((w64 ((w64 ((uw (w64 (g + f))).fdiv (2 ^ Z0))) + j)) - c)) z n o E F f4)) ?_;rintro _ ⟨_, _, ⟨rfl, rfl⟩, rfl⟩;refine aB (aC (aC (aA (tm (.i g) (tm (.i c) (to (scm rfl rfl rfl) (tm (.b (decide (g < c))) ?_)))))));obtain ⟨f5, a1, h⟩ := bns h;refine aV 4 [0, 1, 3, 4, 18, 20, 24] 199 f5 ?_ ?_
          ·refine bch a1 (fun H a1 => ?_) (fun H a1 => ?_)
           ·refine tk H (sm (.i c)) (tk H (sm (.i (w64 ((uw (w64 (g + f))).fdiv (2 ^ Z0))))) (tk H (scm rfl rfl rfl) (to (spt (.b (decide (c < (w64 ((uw (w64 (g + f))).fdiv (2 ^ Z0)))))) H) ?_)));obtain rfl := sIn a1;refine aB (aJ rfl (ae rfl) rfl)
           ·refine tp H (tp H (tp H (to (spf Z2 H) ?_)));obtain rfl := sIn a1;refine aB (aJ rfl (ae rfl) rfl)
          ·refine aB ?_;refine tih h (fun f6 h => ?_) (fun f6 h => ?_)
           ·refine aA (tm (.d (.lit a)) (tm (.i g) (tm (.i c) (tm (.i (w64 ((uw (w64 (g + f))).fdiv (2 ^ Z0)))) (tm (.fn n o) ?_)))));obtain ⟨c7, f7, h⟩ := bns h;refine bG rfl (dU (passed := [.arr a 240 4 (a0.map aI)]) (aE rfl) rfl (.func _ _ call245) rfl rfl (ih a0 g c (w64 ((uw (w64 (g + f))).fdiv (2 ^ Z0))) f7)) ?_;rintro _ ⟨_, _, ⟨rfl, rfl⟩, rfl⟩;refine aB (aC (aA (tm (.i (w64 ((uw (w64 (g + f))).fdiv (2 ^ Z0)))) (tm (.i (w64 ((w64 ((w64 ((uw (w64 (g + f))).fdiv (2 ^ Z0))) + j)) - c))) (to (scm rfl rfl rfl) (tm (.b (decide ((w64 ((uw (w64 (g + f))).fdiv (2 ^ Z0))) < (w64 ((w64 ((w64 ((uw (w64 (g + f))).fdiv (2 ^ Z0))) + j)) - c))))) ?_))))));obtain ⟨f8, a2, h⟩ := bns h;refine aV 4 [0, 3, 4, 18, 24] 213 f8 ?_ ?_
            ·refine bch a2 (fun I a2 => ?_) (fun I a2 => ?_)
             ·refine tk I (sm (.i (w64 ((w64 ((w64 ((uw (w64 (g + f))).fdiv (2 ^ Z0))) + j)) - c)))) (tk I (sm (.i f)) (tk I (scm rfl rfl rfl) (to (spt (.b (decide ((w64 ((w64 ((w64 ((uw (w64 (g + f))).fdiv (2 ^ Z0))) + j)) - c)) < f))) I) ?_)));obtain rfl := sIn a2;refine aB (aJ rfl (ae rfl) rfl)
             ·refine tp I (tp I (tp I (to (spf Z2 I) ?_)));obtain rfl := sIn a2;refine aB (aJ rfl (ae rfl) rfl)
            ·refine aB ?_;refine tih h (fun f9 h => ?_) (fun f9 h => ?_)
             ·refine aA (tm (.d (.lit a)) (tm (.i (w64 ((uw (w64 (g + f))).fdiv (2 ^ Z0)))) (tm (.i (w64 ((w64 ((w64 ((uw (w64 (g + f))).fdiv (2 ^ Z0))) + j)) - c))) (tm (.i f) (tm (.fn n o) ?_)))));obtain ⟨g0, g1, h⟩ := bns h;refine bG rfl (dU (passed := [.arr a 240 4 (c7.map aI)]) (aE rfl) rfl (.func _ _ call245) rfl rfl (ih c7 (w64 ((uw (w64 (g + f))).fdiv (2 ^ Z0))) (w64 ((w64 ((w64 ((uw (w64 (g + f))).fdiv (2 ^ Z0))) + j)) - c)) f g1)) ?_;rintro _ ⟨_, _, ⟨rfl, rfl⟩, rfl⟩;refine aB ?_;obtain rfl := sIn h;exact ⟨_, [.arr a 240 4 (g0.map aI)], [], _, .none, .refl _, .same _, rfl, rfl⟩
             ·refine aU ?_;obtain rfl := sIn h;exact ⟨_, [.arr a 240 4 (c7.map aI)], [], _, .none, .refl _, .same _, rfl, rfl⟩
           ·refine aU (aC (aA (tm (.i (w64 ((uw (w64 (g + f))).fdiv (2 ^ Z0)))) (tm (.i (w64 ((w64 ((w64 ((uw (w64 (g + f))).fdiv (2 ^ Z0))) + j)) - c))) (to (scm rfl rfl rfl) (tm (.b (decide ((w64 ((uw (w64 (g + f))).fdiv (2 ^ Z0))) < (w64 ((w64 ((w64 ((uw (w64 (g + f))).fdiv (2 ^ Z0))) + j)) - c))))) ?_))))));obtain ⟨g2, a3, h⟩ := bns h;refine aV 4 [0, 3, 4, 18, 24] 213 g2 ?_ ?_
            ·refine bch a3 (fun J a3 => ?_) (fun J a3 => ?_)
             ·refine tk J (sm (.i (w64 ((w64 ((w64 ((uw (w64 (g + f))).fdiv (2 ^ Z0))) + j)) - c)))) (tk J (sm (.i f)) (tk J (scm rfl rfl rfl) (to (spt (.b (decide ((w64 ((w64 ((w64 ((uw (w64 (g + f))).fdiv (2 ^ Z0))) + j)) - c)) < f))) J) ?_)));obtain rfl := sIn a3;refine aB (aJ rfl (ae rfl) rfl)
             ·refine tp J (tp J (tp J (to (spf Z2 J) ?_)));obtain rfl := sIn a3;refine aB (aJ rfl (ae rfl) rfl)
            ·refine aB ?_;refine tih h (fun g3 h => ?_) (fun g3 h => ?_)
             ·refine aA (tm (.d (.lit a)) (tm (.i (w64 ((uw (w64 (g + f))).fdiv (2 ^ Z0)))) (tm (.i (w64 ((w64 ((w64 ((uw (w64 (g + f))).fdiv (2 ^ Z0))) + j)) - c))) (tm (.i f) (tm (.fn n o) ?_)))));obtain ⟨g4, g5, h⟩ := bns h;refine bG rfl (dU (passed := [.arr a 240 4 (a0.map aI)]) (aE rfl) rfl (.func _ _ call245) rfl rfl (ih a0 (w64 ((uw (w64 (g + f))).fdiv (2 ^ Z0))) (w64 ((w64 ((w64 ((uw (w64 (g + f))).fdiv (2 ^ Z0))) + j)) - c)) f g5)) ?_;rintro _ ⟨_, _, ⟨rfl, rfl⟩, rfl⟩;refine aB ?_;obtain rfl := sIn h;exact ⟨_, [.arr a 240 4 (g4.map aI)], [], _, .none, .refl _, .same _, rfl, rfl⟩
             ·refine aU ?_;obtain rfl := sIn h;exact ⟨_, [.arr a 240 4 (a0.map aI)], [], _, .none, .refl _, .same _, rfl, rfl⟩
         ·refine aU (aC (aC (aA (tm (.i g) (tm (.i c) (to (scm rfl rfl rfl) (tm (.b (decide (g < c))) ?_)))))));obtain ⟨g6, a4, h⟩ := bns h;refine aV 4 [0, 1, 3, 4, 18, 20, 24] 199 g6 ?_ ?_
          ·refine bch a4 (fun K a4 => ?_) (fun K a4 => ?_)
           ·refine tk K (sm (.i c)) (tk K (sm (.i (w64 ((uw (w64 (g + f))).fdiv (2 ^ Z0))))) (tk K (scm rfl rfl rfl) (to (spt (.b (decide (c < (w64 ((uw (w64 (g + f))).fdiv (2 ^ Z0)))))) K) ?_)));obtain rfl := sIn a4;refine aB (aJ rfl (ae rfl) rfl)
           ·refine tp K (tp K (tp K (to (spf Z2 K) ?_)));obtain rfl := sIn a4;refine aB (aJ rfl (ae rfl) rfl)
          ·refine aB ?_;refine tih h (fun g7 h => ?_) (fun g7 h => ?_)
           ·refine aA (tm (.d (.lit a)) (tm (.i g) (tm (.i c) (tm (.i (w64 ((uw (w64 (g + f))).fdiv (2 ^ Z0)))) (tm (.fn n o) ?_)))));obtain ⟨c8, g8, h⟩ := bns h;refine bG rfl (dU (passed := [.arr a 240 4 (p.map aI)]) (aE rfl) rfl (.func _ _ call245) rfl rfl (ih p g c (w64 ((uw (w64 (g + f))).fdiv (2 ^ Z0))) g8)) ?_;rintro _ ⟨_, _, ⟨rfl, rfl⟩, rfl⟩;refine aB (aC (aA (tm (.i (w64 ((uw (w64 (g + f))).fdiv (2 ^ Z0)))) (tm (.i (w64 ((w64 ((w64 ((uw (w64 (g + f))).fdiv (2 ^ Z0))) + j)) - c))) (to (scm rfl rfl rfl) (tm (.b (decide ((w64 ((uw (w64 (g + f))).fdiv (2 ^ Z0))) < (w64 ((w64 ((w64 ((uw (w64 (g + f))).fdiv (2 ^ Z0))) + j)) - c))))) ?_))))));obtain ⟨g9, a5, h⟩ := bns h;refine aV 4 [0, 3, 4, 18, 24] 213 g9 ?_ ?_
            ·refine bch a5 (fun L a5 => ?_) (fun L a5 => ?_)
             ·refine tk L (sm (.i (w64 ((w64 ((w64 ((uw (w64 (g + f))).fdiv (2 ^ Z0))) + j)) - c)))) (tk L (sm (.i f)) (tk L (scm rfl rfl rfl) (to (spt (.b (decide ((w64 ((w64 ((w64 ((uw (w64 (g + f))).fdiv (2 ^ Z0))) + j)) - c)) < f))) L) ?_)));obtain rfl := sIn a5;refine aB (aJ rfl (ae rfl) rfl)
             ·refine tp L (tp L (tp L (to (spf Z2 L) ?_)));obtain rfl := sIn a5;refine aB (aJ rfl (ae rfl) rfl)
            ·refine aB ?_;refine tih h (fun h0 h => ?_) (fun h0 h => ?_)
             ·refine aA (tm (.d (.lit a)) (tm (.i (w64 ((uw (w64 (g + f))).fdiv (2 ^ Z0)))) (tm (.i (w64 ((w64 ((w64 ((uw (w64 (g + f))).fdiv (2 ^ Z0))) + j)) - c))) (tm (.i f) (tm (.fn n o) ?_)))));obtain ⟨h1, h2, h⟩ := bns h;refine bG rfl (dU (passed := [.arr a 240 4 (c8.map aI)]) (aE rfl) rfl (.func _ _ call245) rfl rfl (ih c8 (w64 ((uw (w64 (g + f))).fdiv (2 ^ Z0))) (w64 ((w64 ((w64 ((uw (w64 (g + f))).fdiv (2 ^ Z0))) + j)) - c)) f h2)) ?_;rintro _ ⟨_, _, ⟨rfl, rfl⟩, rfl⟩;refine aB ?_;obtain rfl := sIn h;exact ⟨_, [.arr a 240 4 (h1.map aI)], [], _, .none, .refl _, .same _, rfl, rfl⟩
             ·refine aU ?_;obtain rfl := sIn h;exact ⟨_, [.arr a 240 4 (c8.map aI)], [], _, .none, .refl _, .same _, rfl, rfl⟩
           ·refine aU (aC (aA (tm (.i (w64 ((uw (w64 (g + f))).fdiv (2 ^ Z0)))) (tm (.i (w64 ((w64 ((w64 ((uw (w64 (g + f))).fdiv (2 ^ Z0))) + j)) - c))) (to (scm rfl rfl rfl) (tm (.b (decide ((w64 ((uw (w64 (g + f))).fdiv (2 ^ Z0))) < (w64 ((w64 ((w64 ((uw (w64 (g + f))).fdiv (2 ^ Z0))) + j)) - c))))) ?_))))));obtain ⟨h3, a6, h⟩ := bns h;refine aV 4 [0, 3, 4, 18, 24] 213 h3 ?_ ?_
            ·refine bch a6 (fun M a6 => ?_) (fun M a6 => ?_)
             ·refine tk M (sm (.i (w64 ((w64 ((w64 ((uw (w64 (g + f))).fdiv (2 ^ Z0))) + j)) - c)))) (tk M (sm (.i f)) (tk M (scm rfl rfl rfl) (to (spt (.b (decide ((w64 ((w64 ((w64 ((uw (w64 (g + f))).fdiv (2 ^ Z0))) + j)) - c)) < f))) M) ?_)));obtain rfl := sIn a6;refine aB (aJ rfl (ae rfl) rfl)
             ·refine tp M (tp M (tp M (to (spf Z2 M) ?_)));obtain rfl := sIn a6;refine aB (aJ rfl (ae rfl) rfl)
            ·refine aB ?_;refine tih h (fun h4 h => ?_) (fun h4 h => ?_)
             ·refine aA (tm (.d (.lit a)) (tm (.i (w64 ((uw (w64 (g + f))).fdiv (2 ^ Z0)))) (tm (.i (w64 ((w64 ((w64 ((uw (w64 (g + f))).fdiv (2 ^ Z0))) + j)) - c))) (tm (.i f) (tm (.fn n o) ?_)))));obtain ⟨h5, h7, h⟩ := bns h;refine bG rfl (dU (passed := [.arr a 240 4 (p.map aI)]) (aE rfl) rfl (.func _ _ call245) rfl rfl (ih p (w64 ((uw (w64 (g + f))).fdiv (2 ^ Z0))) (w64 ((w64 ((w64 ((uw (w64 (g + f))).fdiv (2 ^ Z0))) + j)) - c)) f h7)) ?_;rintro _ ⟨_, _, ⟨rfl, rfl⟩, rfl⟩;refine aB ?_;obtain rfl := sIn h;exact ⟨_, [.arr a 240 4 (h5.map aI)], [], _, .none, .refl _, .same _, rfl, rfl⟩
             ·refine aU ?_;obtain rfl := sIn h;exact ⟨_, [.arr a 240 4 (p.map aI)], [], _, .none, .refl _, .same _, rfl, rfl⟩
theorem qX (f : List aN) (k : Int) (l : Int) (m : Int) (e : aN → aN → Option Int) {r : (List aN)} {b : Value} (a : Nat) (c : List AV) (g : ∀ args w, (callFunc a args).run Tryz.prog w = .ok (.enter a args) w) (j : ∀ (x0 : aN) (x1 : aN) r, e x0 x1 = some r → Fn Tryz.prog a ([.agg (aI x0), .agg (aI x1)] ++ c) (.i r)) (h : mK f k l m e = some r) : dP Tryz.prog 245 [.d (.lit b), .i k, .i l, .i m, .fn a c] (Z41 b f) (fun r' o' => r' = .tup [] ∧ o' = (Z63 b r)) := xX e a c g j BIG _ _ _ _ h

theorem zN (u : List aN) (n : Int) (j : aN → aN → Option Int) {r : (List aN)} {b : Value} (c : Nat) (e : List AV) (p : ∀ args w, (callFunc c args).run Tryz.prog w = .ok (.enter c args) w) (q : ∀ (x0 : aN) (x1 : aN) r, j x0 x1 = some r → Fn Tryz.prog c ([.agg (aI x0), .agg (aI x1)] ++ e) (.i r)) (h : nN u n j = some r) : dP Tryz.prog 229 [.d (.lit b), .i n, .fn c e] (Z41 b u) (fun r' o' => r' = .tup [] ∧ o' = (Z63 b r)) := by
 unfold nN at h;refine qT func229 rfl (rs := []) results229 ntmps229 (Nat.le_of_ble_eq_true rfl) ?_;refine aC (aA (ta (.i 20) (aB (aC (aA (tm (.i 20) (ta (.i 0) (ta (.i 20) (aB (aC (bD ?_)))))))))));refine bP (S := Int × Int × Z66) [1, 2, 6] (fun s1 => [(0, .d (.lit b)), (7, .i s1.1), (8, .i s1.2.1)]) (fun s1 => [.arr b 240 4 (s1.2.2.map aI)]) (fun k s1 => jL n j 20 k s1.1 s1.2.1 s1.2.2) (fun _ => rfl) (0, 20, u) h (aO [0] rfl rfl (aH rfl (aH rfl (aH rfl (aK (ae rfl)))))) ?_;rintro k2 ⟨t, m, o⟩ h;simp only [jL] at h;refine aC (aC (aA (tm (.i m) (tm (.i n) (to (scm rfl rfl rfl) (aB ?_))))));refine tih h (fun c3 h => ?_) (fun c3 h => ?_)
 ·refine aU (bD (aC (aA (tm (Z31 b) (tm (.i t) (tm (.i m) (tm (.fn c e) ?_)))))));obtain ⟨r4, h5, h⟩ := bns h;refine bG rfl (dU (passed := [.arr b 240 4 (o.map aI)]) (aE rfl) rfl (.func _ _ call244) rfl rfl (nX o t m j c e p q h5)) ?_;rintro _ ⟨_, _, ⟨rfl, rfl⟩, rfl⟩;refine aB (aC (aA (tm (.i m) (ta (.i m) (aB (aA (tm (.i m) (tm (.i 20) (to (sar rfl rfl rfl) (ta (.i (w64 (m + 20))) ?_))))))))));refine cN ?_;exact ⟨(m, w64 (m + 20), r4), h, aO [0] rfl rfl (aH rfl (aH rfl (aH rfl (aK (ae rfl)))))⟩
 ·refine bO ?_;refine .inl ⟨rfl, ?_⟩;simp only [rM] at h;refine aC (aA (tm (Z31 b) (tm (.i t) (tm (.i n) (tm (.fn c e) ?_)))));obtain ⟨r6, h7, h⟩ := bns h;refine bG rfl (dU (passed := [.arr b 240 4 (o.map aI)]) (aE rfl) rfl (.func _ _ call244) rfl rfl (nX o t n j c e p q h7)) ?_;rintro _ ⟨_, _, ⟨rfl, rfl⟩, rfl⟩;refine aB (bD ?_);refine bP (S := Int × Z66) [1, 2] (fun s8 => [(0, .d (.lit b)), (6, .i s8.1)]) (fun s8 => [.arr b 240 4 (s8.2.map aI)]) (fun k s8 => fT n j k s8.1 s8.2) (fun _ => rfl) (20, r6) h (aO [0] rfl rfl (aH rfl (aH rfl (aK (ae rfl))))) ?_;rintro k9 ⟨a, v⟩ h;simp only [fT] at h;refine aC (aC (aA (tm (.i a) (tm (.i n) (to (scm rfl rfl rfl) (aB ?_))))));refine tih h (fun x h => ?_) (fun x h => ?_)
  ·refine aU (bD (aC (aA (tm (.i a) (to (sar rfl rfl rfl) (ta (.i 0) (ta (.i (w64 (2 * a))) (aB (aC (bD ?_))))))))));refine bP (S := Int × Int × Z66) [1, 2, 6] (fun s => [(0, .d (.lit b)), (7, .i s.1), (8, .i s.2.1)]) (fun s => [.arr b 240 4 (s.2.2.map aI)]) (fun k s => jM (fT n j k9) n j a k s.1 s.2.1 s.2.2) (fun _ => rfl) (0, w64 (2 * a), v) h (aO [0] rfl rfl (aH rfl (aH rfl (aH rfl (aK (ae rfl)))))) ?_;rintro F ⟨f, g, l⟩ h;simp only [jM] at h;refine aC (aC (aA (tm (.i g) (tm (.i n) (to (scm rfl rfl rfl) (aB ?_))))));refine tih h (fun y h => ?_) (fun y h => ?_)
   ·refine aU (bD (aC (aA (tm (Z31 b) (tm (.i f) (tm (.i f) (tm (.i a) (to (sar rfl rfl rfl) (tm (.i g) (tm (.fn c e) ?_))))))))));obtain ⟨z, A, h⟩ := bns h;refine bG rfl (dU (passed := [.arr b 240 4 (l.map aI)]) (aE rfl) rfl (.func _ _ call245) rfl rfl (qX l f (w64 (f + a)) g j c e p q A)) ?_;rintro _ ⟨_, _, ⟨rfl, rfl⟩, rfl⟩;refine aB (aC (aA (tm (.i g) (ta (.i g) (aB (aA (tm (.i g) (tm (.i a) (to (sar rfl rfl rfl) (to (sar rfl rfl rfl) (ta (.i (w64 (g + (w64 (2 * a))))) ?_)))))))))));refine cN ?_;exact ⟨(g, w64 (g + (w64 (2 * a))), z), h, aO [0] rfl rfl (aH rfl (aH rfl (aH rfl (aK (ae rfl)))))⟩
   ·refine bO ?_;refine .inl ⟨rfl, ?_⟩;simp only [rO] at h;refine aC (aC (aA (tm (.i f) (tm (.i a) (to (sar rfl rfl rfl) (ta (.i (w64 (f + a))) (aB (aC (aA (tm (.i (w64 (f + a))) (tm (.i n) (to (scm rfl rfl rfl) (aB ?_)))))))))))));refine tih h (fun B h => ?_) (fun B h => ?_)
    ·refine aA (tm (Z31 b) (tm (.i f) (tm (.i (w64 (f + a))) (tm (.i n) (tm (.fn c e) ?_)))));obtain ⟨C, E, h⟩ := bns h;refine bG rfl (dU (passed := [.arr b 240 4 (l.map aI)]) (aE rfl) rfl (.func _ _ call245) rfl rfl (qX l f (w64 (f + a)) n j c e p q E)) ?_;rintro _ ⟨_, _, ⟨rfl, rfl⟩, rfl⟩;refine aB (aA (tm (.i a) (to (sar rfl rfl rfl) (ta (.i (w64 (a * 2))) ?_))));refine cN ?_;simp only [jK] at h;exact ⟨(w64 (a * 2), C), h, aO [0] rfl rfl (aH rfl (aH rfl (aK (ae rfl))))⟩
    ·refine aU (aA (tm (.i a) (to (sar rfl rfl rfl) (ta (.i (w64 (a * 2))) ?_))));refine cN ?_;simp only [jK] at h;exact ⟨(w64 (a * 2), l), h, aO [0] rfl rfl (aH rfl (aH rfl (aK (ae rfl))))⟩
  ·refine bO ?_;refine .inl ⟨rfl, ?_⟩;simp only [rN] at h;obtain rfl := sIn h;exact ⟨_, [.arr b 240 4 (v.map aI)], [], _, .none, .refl _, .same _, rfl, rfl⟩

theorem zD (f : List aN) (e : aN → aN → Option Int) {r : (List aN)} {b : Value} (a : Nat) (c : List AV) (g : ∀ args w, (callFunc a args).run Tryz.prog w = .ok (.enter a args) w) (j : ∀ (x0 : aN) (x1 : aN) r, e x0 x1 = some r → Fn Tryz.prog a ([.agg (aI x0), .agg (aI x1)] ++ c) (.i r)) (h : mY f e = some r) : dP Tryz.prog 204 [.d (.lit b), .fn a c] (Z41 b f) (fun r' o' => r' = .tup [] ∧ o' = (Z63 b r)) := by
 unfold mY at h;refine qT func204 rfl (rs := []) results204 ntmps204 (Nat.le_of_ble_eq_true rfl) ?_;refine aA (tm (Z31 b) (tm (Z31 b) (to (iH (m := 0) (aE rfl) rfl rfl cQ.of) ?_)));refine tm (.fn a c) ?_;obtain ⟨r1, h2, h⟩ := bns h;refine bG rfl (dU (passed := (Z41 b f)) (aE rfl) rfl (.func _ _ call229) rfl rfl (zN f (f.length : Int) e a c g j h2)) ?_;rintro _ ⟨_, _, ⟨rfl, rfl⟩, rfl⟩;refine aB ?_;obtain rfl := sIn h;exact ⟨_, [.arr b 240 4 (r1.map aI)], [], _, .none, .refl _, .same _, rfl, rfl⟩

theorem aRk (a : aN) (b : aN) {r : Int} (h : aAf a b = some r) : Fn Tryz.prog 205 [.agg (aI a), .agg (aI b)] (.i r) := by
 unfold aAf at h;refine oT [.tmp 4] func205 results205 ntmps205 ?_;refine aC (aA ?_);refine bG rfl (cV (v := .agg (aI a)) (aE rfl) rfl rfl rfl) ?_;rintro _ ⟨b1, rfl⟩;refine bG rfl (cV (v := .agg (aI b)) (aE rfl) rfl rfl rfl) ?_;rintro _ ⟨b2, rfl⟩;refine ta (.i 0) (aB (aC (aA (tfl 0 rfl rfl mC rfl aQ (tfl 1 rfl rfl mC rfl aQ (to (sar rfl rfl rfl) (ta (.i (w64 (a.Id - b.Id))) (aB ?_))))))));obtain rfl := sIn h;refine bK (bE (bH (l := [4]) (ae rfl))) ?_;exact rt

theorem aDn (s : List aN) {r : (List aN)} {j : Value} (h : rY s = some r) : dP Tryz.prog 206 [.d (.lit j)] (Z41 j s) (fun r' o' => ∃ w0 : Value, r' = .d (.lit w0) ∧ o' = [.arr w0 240 4 (r.map aI)]) := by
 unfold rY at h;refine iF func206 rfl (rs := [.tmp 2]) results206 ntmps206 (Nat.le_of_ble_eq_true rfl) ?_;refine aC (aA (to (fX 240 4 (.inl rfl) (aE rfl)) ?_));refine aB (aC (aC (aA (tm (Z31 j) (to (iH (m := 0) (aE rfl) rfl rfl cQ.of) ?_)))));refine to (scm rfl rfl rfl) (aB ?_);refine tih h (fun c2 h => ?_) (fun c2 h => ?_)
 ·refine aC (aA (tm (Z31 j) (ta (Z31 j) (aB ?_))));obtain rfl := sIn h;exact cD ⟨rfl, _, (Z41 j s), Z28, _, .one (.tmp 2 (v := .d (.lit j)) rfl), .refl _, .same _, j, rfl, rfl⟩
 ·refine aU (aC (aC (aA (ta (.i 1) (aB (bD ?_))))));refine bP (S := Int × Z66 × Value) [] (fun s3 => [(0, .d (.lit s3.2.2)), (3, .i s3.1)]) (fun s3 => [.arr s3.2.2 240 4 (s3.2.1.map aI)]) (fun k s3 => gD k s3.1 s3.2.1) (fun _ => rfl) (1, s, j) h (aO [0] rfl rfl (aH rfl (aH rfl (aK trivial)))) ?_;rintro k5 ⟨c, p, w4⟩ h;simp only [gD] at h;refine aC (aC (aA (tm (.i c) (tm (.d (.lit w4)) (to (iH (m := 0) (aE rfl) rfl rfl cQ.of) ?_)))));refine to (scm rfl rfl rfl) (aB ?_);refine tih h (fun c6 h => ?_) (fun c6 h => ?_)
  ·refine aU (aC (bD (aC ?_)));obtain ⟨x7, h8, h⟩ := bns h;obtain ⟨x9, x, h⟩ := bns h;refine cI mix 9 [0, 3] [(19, .agg (aI x7)), (24, .agg (aI x9))] ?_ ?_
   ·refine ⟨[(16, 0, .d (.lit w4)), (17, 1, .i c), (18, 2, .ep w4 4 c.toNat 0), (19, 3, .agg (aI x7)), (20, 4, .d (.lit w4)), (21, 5, .i c), (22, 6, .i (w64 (c - 1))), (23, 7, .ep w4 4 (w64 (c - 1)).toNat 0), (24, 8, .agg (aI x9))], ?_, ?_⟩
    · exact dk [0, 0, 102, 3, 0, 0, 6, 507, 8] ⟨go (zm (.d (.lit w4))),
 go (zm (.i c)),
 go (zia 0 rfl rfl rfl cQ.of (aW aI h8)),
 go fun S hS => dQ (aE rfl) (aX hS rfl) (l := 0) rfl (dI aI h8) eU (es := (aI x7)) rfl rfl,
 go (zm (.d (.lit w4))),
 go (zm (.i c)),
 go (zar rfl rfl rfl),
 go (zia 0 rfl rfl rfl cQ.of (aW aI x)),
 go fun S hS => dQ (aE rfl) (aX hS rfl) (l := 0) rfl (dI aI x) eU (es := (aI x9)) rfl rfl, trivial⟩
    · exact bT (aH rfl (aH rfl (aK (ae rfl))))
   ·refine to (aTm (a := x7) (b := x9) (aE rfl) rfl rfl rfl rfl Tryz.eqGuardType240 aMd) ?_;refine aB ?_;refine tih h (fun C h => ?_) (fun C h => ?_)
    ·refine aC (aA (tm (.d (.lit w4)) (tm (.i c) ?_)));obtain ⟨K, E, h⟩ := bns h;refine to (aAl (m := 0) (aE rfl) rfl rfl rfl cQ.of E) ?_;refine ta (.d (.lit (kT w4 c.toNat 4))) (aB (aC (aC (aA (ta (.i 1) (aB (bD ?_)))))));refine bP (S := Int × Int × Z66) [] (fun o => [(0, .d (.lit w4)), (3, .i o.1), (4, .d (.lit (kT w4 c.toNat 4))), (5, .i o.2.1)]) (fun o => [.arr w4 240 4 (o.2.2.map aI)]) (fun k o => jN (gD k5) c k o.1 o.2.1 o.2.2) (fun _ => rfl) (c, 1, p) h (aO [0] rfl rfl (aH rfl (aH rfl (aH rfl (aH rfl (aK trivial)))))) ?_;rintro L ⟨g, e, n⟩ h;simp only [jN] at h;refine aC (aC (aA (tm (.i e) (tm (.d (.lit (kT w4 c.toNat 4))) (to (aQq (m := 0) (aE rfl) rfl rfl cQ.of) ?_)))));refine to (scm rfl rfl rfl) (aB ?_);refine tih h (fun F h => ?_) (fun F h => ?_)
     ·refine aU (aC (bD (aC ?_)));obtain ⟨t, y, h⟩ := bns h;obtain ⟨u, z, h⟩ := bns h;refine cI mix 9 [0, 3, 4, 5] [(38, .agg (aI t)), (43, .agg (aI u))] ?_ ?_
      ·refine ⟨[(35, 0, .d (.lit (kT w4 c.toNat 4))), (36, 1, .i e), (37, 2, .ep w4 4 (c.toNat + e.toNat) 0), (38, 3, .agg (aI t)), (39, 4, .d (.lit (kT w4 c.toNat 4))), (40, 5, .i e), (41, 6, .i (w64 (e - 1))), (42, 7, .ep w4 4 (c.toNat + (w64 (e - 1)).toNat) 0), (43, 8, .agg (aI u))], ?_, ?_⟩
       · exact dk [0, 0, 102, 3, 0, 0, 6, 507, 8] ⟨go (zm (.d (.lit (kT w4 c.toNat 4)))),
 go (zm (.i e)),
 go fun S hS => vP (m := 0) (aE rfl) (aX hS rfl) rfl (aX hS rfl) cQ.of (uG (f := aI) y),
 go fun S hS => dQ (aE rfl) (aX hS rfl) (l := 0) rfl (aDy aI y) eU (es := (aI t)) rfl rfl,
 go (zm (.d (.lit (kT w4 c.toNat 4)))),
 go (zm (.i e)),
 go (zar rfl rfl rfl),
 go fun S hS => vP (m := 0) (aE rfl) (aX hS rfl) rfl (aX hS rfl) cQ.of (uG (f := aI) z),
 go fun S hS => dQ (aE rfl) (aX hS rfl) (l := 0) rfl (aDy aI z) eU (es := (aI u)) rfl rfl, trivial⟩
       · exact bT (aH rfl (aH rfl (aK (ae rfl))))
      ·refine to (aMl (a := t) (b := u) (aE rfl) rfl rfl rfl rfl Tryz.eqGuardType240 aMd) ?_;refine aB ?_;refine tih h (fun G h => ?_) (fun G h => ?_)
       ·refine aC (aA (tm (.d (.lit w4)) (tm (.i g) (tm (.d (.lit (kT w4 c.toNat 4))) (tm (.i e) ?_)))));obtain ⟨w, A, h⟩ := bns h;refine to (vP (m := 0) (aE rfl) rfl rfl rfl cQ.of (uG (f := aI) A)) ?_;refine to (dQ (aE rfl) rfl (l := 0) rfl (aDy aI A) eU (es := (aI w)) rfl rfl) ?_;obtain ⟨M, B, h⟩ := bns h;refine to (gS (m := 0) (aE rfl) rfl rfl rfl cQ.of (aW aI B)) ?_;refine to (lM (l := 0) rfl rfl (dI aI B) rfl rfl rfl sizeOf240 rfl (aE rfl) (Nat.le_of_ble_eq_true rfl) (rows' := ((n.set g.toNat w)).map aI) (uA _ _ _ _ rfl)) ?_;refine aB (aA (tm (.i g) (to (sar rfl rfl rfl) (ta (.i (w64 (g + 1))) ?_))));refine cN ?_;refine aA (tm (.i e) (to (sar rfl rfl rfl) (ta (.i (w64 (e + 1))) (aB ?_))));exact ⟨(w64 (g + 1), w64 (e + 1), (n.set g.toNat w)), h, aO [0] rfl rfl (aH rfl (aH rfl (aH rfl (aH rfl (aK trivial)))))⟩
       ·refine cA ?_;refine aA (tm (.i e) (to (sar rfl rfl rfl) (ta (.i (w64 (e + 1))) (aB ?_))));exact ⟨(g, w64 (e + 1), n), h, aO [0] rfl rfl (aH rfl (aH rfl (aH rfl (aH rfl (aK trivial)))))⟩
     ·refine bO ?_;refine .inl ⟨rfl, ?_⟩;simp only [vK] at h;refine aC (aA (tm (.d (.lit w4)) (tm (.i g) ?_)));obtain ⟨N, H, h⟩ := bns h;refine to (aAl (m := 0) (aE rfl) rfl rfl rfl cQ.of H) ?_;obtain ⟨O, I, h⟩ := bns h;refine to (aVn (f := aI) (m := 0) cQ rfl rfl I (by decide)) ?_;refine aB (aC (aA (tm (.d (.lit w4)) (tm (.i g) ?_))));obtain ⟨P, J, h⟩ := bns h;refine to (aLp (m := 0) (q := g.toNat) (v := w4) (aE rfl) rfl rfl rfl rfl (bAk J) cQ.of) ?_;refine ta (.d (.lit (mH w4 g.toNat))) (aB ?_);obtain rfl := sIn h;exact cD ⟨rfl, _, [.arr (mH w4 g.toNat) 240 4 ((n.take g.toNat).map aI)], [], _, .one (.tmp 2 (v := .d (.lit (mH w4 g.toNat))) rfl), .refl _, .same _, (mH w4 g.toNat), rfl, rfl⟩
    ·refine cA ?_;simp only [vJ] at h;refine aA (tm (.i c) (to (sar rfl rfl rfl) (ta (.i (w64 (c + 1))) (aB ?_))));exact ⟨(w64 (c + 1), p, w4), h, aO [0] rfl rfl (aH rfl (aH rfl (aK trivial)))⟩
  ·refine bO ?_;refine .inl ⟨rfl, ?_⟩;simp only [vI] at h;refine aC (aA (tm (.d (.lit w4)) (ta (.d (.lit w4)) (aB ?_))));obtain rfl := sIn h;exact cD ⟨rfl, _, [.arr w4 240 4 (p.map aI)], [], _, .one (.tmp 2 (v := .d (.lit w4)) rfl), .refl _, .same _, w4, rfl, rfl⟩

end Go.Am
