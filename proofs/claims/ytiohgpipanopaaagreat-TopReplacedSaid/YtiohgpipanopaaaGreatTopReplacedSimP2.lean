/- The functions compute what the shallow ones say: printed by program. -/
import Derived.Test.YtiohgpipanopaaaGreatTopReplacedSimP1
namespace Go.Am
open Go.Proofs
open Go.Proofs.Tryz
set_option maxRecDepth 100000
set_option maxHeartbeats 40000000

theorem aJo (e : aJ) (g : List aE) (a : Int) (c : Int) {Q : ((Option aX) × aD × Int) → Prop} (h : oN e g a c Q) : dN Tryz.prog 84 [.agg (bF e), .d (Z20 g), .i a, .i c] [] (fun r' o' => ∃ (r : (Option aX) × aD × Int), Q r ∧ r' = .tup [cN bA r.1, .agg (aH r.2.1), .i r.2.2] ∧ o' = []) := by
 unfold oN at h;refine jG func84 rfl (rs := [.tmp 8, .cell 9 143, .tmp 10]) results84 ntmps84 (Nat.le_of_ble_eq_true rfl) ?_;refine aC (aA ?_);refine bB rfl (cO (v := .agg (bF e)) (aF rfl) rfl rfl rfl) ?_;rintro _ ⟨b1, rfl⟩;refine ta (cN bA (none : Option aX)) ?_;refine bB rfl (cD (zs := [.j 0, .j 0]) (aF rfl) zeroValue143 rfl rfl) ?_;rintro _ ⟨b2, rfl⟩;refine ta (.i 0) (aB (aC (aA (to (sla 0 (bF e) rfl rfl nX) (tm (.d (Z20 g)) ?_)))));refine bB rfl (wE (aF rfl) (.func _ _ call53) rfl rfl (yP _ _ h)) ?_;rintro _ ⟨_, _, ⟨r3, h, rfl, rfl⟩, rfl⟩;refine tm (.tup [cN bA r3.1, .i r3.2]) (to (sex rfl rfl) (to (sex rfl rfl) (ta (cN bA r3.1) (ta (.i r3.2) (aB (aC (aA (tm (.i a) (tm (.i c) (to (dG (aF rfl) wF (zs := [.j 0, .j 0]) rfl rfl rfl rfl (es := [.j a, .j c]) rfl) ?_))))))))));refine bB rfl (cD (zs := [.j 0, .j 0]) (aF rfl) zeroValue143 rfl rfl) ?_;rintro _ ⟨b4, rfl⟩;refine to (sst 2 rfl rfl sizeOf143 (aH (aD.mk a c))) (aB (aC (aC (aA (tm (.i r3.2) (to (scm rfl rfl rfl) (tm (.b (decide (r3.2 = 0))) ?_)))))));obtain ⟨b5, h6, h⟩ := eS h;refine aW 5 [9, 11, 12, 13] 30 b5 ?_ ?_
 ·refine bch h6 (fun f h6 => ?_) (fun f h6 => ?_)
  ·refine tk f (sla 2 (aH (aD.mk a c)) rfl rfl iI) (tk f (sla 0 (bF e) rfl rfl nX) ?_);obtain ⟨j, l, h6⟩ := bns h6;refine tk f (scr call146 (uL _ _ l)) (tk f (sn rfl) (to (spt (.b (!j)) f) ?_));obtain rfl := sIn h6;refine aB (aI rfl ⟨rfl, rfl, rfl, rfl, trivial⟩ rfl)
  ·refine tp f (tp f (tp f (tp f (to (spf Z6 f) ?_))));obtain rfl := sIn h6;refine aB (aI rfl ⟨rfl, rfl, rfl, rfl, trivial⟩ rfl)
 ·refine aB ?_;refine tip h (fun c7 h => ?_) (fun c7 h => ?_)
  ·refine aA (ta (.i 1) (aB (aC ?_)));refine fZ mix 5 [9] (fun X8 => [(8, cN bA r3.1), (33, .i 1)]) (fun X8 => [.box b1 0 (bF e), .box b2 0 (aH (aD.mk a c)), .box b4 0 (aH (aD.mk a c))]) ?_ ?_
   ·refine ⟨0, fun X8 => [(31, 0, cN bA r3.1), (32, 1, .agg (aH (aD.mk a c))), (33, 2, .i 1), (8, 3, cN bA r3.1)], fun X8 => [([], .box b1 0 (bF e)), ([(4, .box b2 0 (aH (aD.mk a c)))], .box b2 0 (aH (aD.mk 0 0))), ([], .box b4 0 (aH (aD.mk a c)))], ?_, ?_⟩
    · exact xok [(0, 5), (0, 5), (0, 0), (1, 5), (2, 0)] ⟨fun _ _ w _ k => xp w (ym k (cN bA r3.1)),
 fun _ _ w _ k => xp w (yla k 2 (aH (aD.mk a c)) rfl (og k rfl rfl) iI),
 fun _ _ w _ k => xp w (ym k (.i 1)),
 fun _ _ w _ k => xp w (ya k (cN bA r3.1)),
 fun _ _ _ _ k => xs 1 k rfl rfl (rA (i := 1) (aV k rfl) (og k rfl rfl) (aV k rfl) rfl rfl sizeOf143 rfl (aF rfl) (Nat.le_of_ble_eq_true rfl) (ds' := (aH (aD.mk a c))) rfl), trivial⟩
    · exact fun X8 => bZ (aM rfl (aM rfl (aR ⟨rfl, trivial⟩)))
   ·intro X8;refine ta (.i 1) (aB ?_);exact cA ⟨rfl, _, [], [.box b1 0 (bF e), .box b2 0 (aH (aD.mk a c)), .box b4 0 (aH (aD.mk a c))], _, .three (.tmp 8 (v := cN bA r3.1) rfl) (.cell 9 143 rfl (i := 1) rfl iI (es := (aH (aD.mk a c))) rfl rfl) (.tmp 10 (v := .i 1) rfl), .refl _, .same _, (r3.1, (aD.mk a c), 1), h, rfl, rfl⟩
  ·refine aY (aC ?_);refine fZ mix 5 [9] (fun X9 => [(8, cN bA r3.1), (33, .i r3.2)]) (fun X9 => [.box b1 0 (bF e), .box b2 0 (aH (aD.mk a c)), .box b4 0 (aH (aD.mk a c))]) ?_ ?_
   ·refine ⟨0, fun X9 => [(31, 0, cN bA r3.1), (32, 1, .agg (aH (aD.mk a c))), (33, 2, .i r3.2), (8, 3, cN bA r3.1)], fun X9 => [([], .box b1 0 (bF e)), ([(4, .box b2 0 (aH (aD.mk a c)))], .box b2 0 (aH (aD.mk 0 0))), ([], .box b4 0 (aH (aD.mk a c)))], ?_, ?_⟩
    · exact xok [(0, 5), (0, 5), (0, 0), (1, 5), (2, 0)] ⟨fun _ _ w _ k => xp w (ym k (cN bA r3.1)),
 fun _ _ w _ k => xp w (yla k 2 (aH (aD.mk a c)) rfl (og k rfl rfl) iI),
 fun _ _ w _ k => xp w (ym k (.i r3.2)),
 fun _ _ w _ k => xp w (ya k (cN bA r3.1)),
 fun _ _ _ _ k => xs 1 k rfl rfl (rA (i := 1) (aV k rfl) (og k rfl rfl) (aV k rfl) rfl rfl sizeOf143 rfl (aF rfl) (Nat.le_of_ble_eq_true rfl) (ds' := (aH (aD.mk a c))) rfl), trivial⟩
    · exact fun X9 => bZ (aM rfl (aM rfl (aR ⟨rfl, trivial⟩)))
   ·intro X9;refine ta (.i r3.2) (aB ?_);exact cA ⟨rfl, _, [], [.box b1 0 (bF e), .box b2 0 (aH (aD.mk a c)), .box b4 0 (aH (aD.mk a c))], _, .three (.tmp 8 (v := cN bA r3.1) rfl) (.cell 9 143 rfl (i := 1) rfl iI (es := (aH (aD.mk a c))) rfl rfl) (.tmp 10 (v := .i r3.2) rfl), .refl _, .same _, (r3.1, (aD.mk a c), r3.2), h, rfl, rfl⟩

theorem aFg (a0 : aJ) (a1 : List aE) {r : (List bX) × Int} (h : pX a0 a1 = some r) : Fn Tryz.prog 36 [.agg (bF a0), .d (Z20 a1)] ((fun x : (List bX) × Int => .tup [.d (.sl 4 (x.1.map dL)), .i x.2]) r) := aKe (enc := fun x : (List bX) × Int => .tup [.d (.sl 4 (x.1.map dL)), .i x.2]) (aFf a0 a1 (aDa a0 a1 h (fun x => x = r) rfl))

theorem aDe (x : List Int) {r : List Int} {x_v : Value} {e : TypeId} (h : slices_Sort_int x = some r) : dN Tryz.prog 103 [.d (.lit x_v)] [.arr x_v e 1 (x.map aG)] (fun r' o' => r' = .tup [] ∧ o' = [.arr x_v e 1 (r.map aG)]) := by
 unfold slices_Sort_int at h;split at h
 ·cases h;exact aOc (fun blk off cap zs w => Tryz.slices_Sort_int blk off cap zs w) (fun q cap w => Tryz.slices_Sort_int_none q cap w) (by assumption)
 ·cases h

theorem aIm (u : aJ) (x : List aE) (c : Int) (o : Int) {Q : ((List Int) × Int) → Prop} (h : rI u x c o Q) : dN Tryz.prog 43 [.agg (bF u), .d (Z20 x), .i c, .i o] [] (fun r' o' => ∃ (r : (List Int) × Int), Q r ∧ r' = .tup [.d (.sl 1 (r.1.map aG)), .i r.2] ∧ o' = []) := by
 unfold rI at h;refine jG func43 rfl (rs := [.tmp 8, .tmp 9]) results43 ntmps43 (Nat.le_of_ble_eq_true rfl) ?_;refine aC (aA ?_);refine bB rfl (cO (v := .agg (bF u)) (aF rfl) rfl rfl rfl) ?_;rintro _ ⟨b1, rfl⟩;refine to (lX 1 (aF rfl)) ?_;refine ta (.i 0) (aB (aC (aA (to (sla 0 (bF u) rfl rfl nX) (tm (.d (Z20 x)) (tm (.i c) (tm (.i o) ?_)))))));refine bB rfl (wE (aF rfl) (.func _ _ call84) rfl rfl (aJo _ _ _ _ h)) ?_;rintro _ ⟨_, _, ⟨r2, h, rfl, rfl⟩, rfl⟩;refine tm (.tup [cN bA r2.1, .agg (aH r2.2.1), .i r2.2.2]) (to (sex rfl rfl) (to (sex rfl rfl) (to (sex rfl rfl) ?_)));refine bB rfl (cD (zs := [.j 0, .j 0]) (aF rfl) zeroValue143 rfl rfl) ?_;rintro _ ⟨b3, rfl⟩;refine ta (cN bA r2.1) (to (sst 1 rfl rfl sizeOf143 (aH r2.2.1)) (ta (.i r2.2.2) (aB (aC (aC (aA (tm (.i r2.2.2) (to (scm rfl rfl rfl) (aB ?_)))))))));refine tip h (fun c4 h => ?_) (fun c4 h => ?_)
 ·refine aC (aA (tm (.i r2.2.2) (to (lX 1 (aF rfl)) ?_)));refine ta (.i r2.2.2) (aB ?_);exact cA ⟨rfl, _, [], [.box b1 0 (bF u), .box b3 0 (aH r2.2.1)], _, .two (.tmp 8 (v := .d (.sl 1 ((([] : List Int)).map aG))) rfl) (.tmp 9 (v := .i r2.2.2) rfl), .refl _, .same _, (([] : List Int), r2.2.2), h, rfl, rfl⟩
 ·refine aY (aC (aA (to (sR 3 1 (.inl rfl) (aF rfl)) ?_)));refine aB (aC (aC (aA (tm (cN bA r2.1) ?_))));obtain ⟨x6, h7, h⟩ := eS h;refine to (aDp (enc := bA) (aF rfl) rfl h7) ?_;refine to (sfc [.sl 1 (x6.players.map aG)] rfl mB) (to (slc rfl cS) (to (sle rfl bM.of) (tm (.i 0) (aB (bT ?_)))));refine sI [2, 10, 11, 31, 32] (fun (s8 : Int × (List Int) × Value) => [(13, .d (.lit s8.2.2)), (33, .i s8.1)]) (fun (s8 : Int × (List Int) × Value) => [.box b3 0 (aH r2.2.1), .arr s8.2.2 3 1 (s8.2.1.map aG)]) (fun (k : Nat) (s8 : Int × (List Int) × Value) => gW Q c r2.1 x6.players (x6.players.length : Int) r2.2.1 k s8.1 s8.2.1) (fun _ h => h) (0, ([] : List Int), (.slice none 0 0)) h (aT [1, 2] rfl rfl (aM rfl (aM rfl (aR ⟨rfl, rfl, rfl, rfl, rfl, trivial⟩)))) ?_;rintro L ⟨e, q, w9⟩ h;simp only [gW] at h;refine aC (aA (to (scm rfl rfl rfl) (aB (aC ?_))));refine tip h (fun C h => ?_) (fun C h => ?_)
  ·refine aY (aC (bT (aC (aA (tm (.i e) ?_)))));obtain ⟨l, E, h⟩ := eS h;refine to (six rfl rfl bM.of (bU aG E)) (to (slc rfl aS) (ta (.i e) (ta (.i l) (aB (aC ?_)))));obtain ⟨s, y, h⟩ := eS h;refine bK (aMh (enc := bA) (k := 10) rfl y) ?_;obtain ⟨M, t, h⟩ := eS h;obtain ⟨F, n, h⟩ := eS h;refine dJ mix 16 [2, 10, 11, 13, 15, 31, 32, 33] [(53, .b F)] ?_ ?_
   ·refine bch t (fun j t => ?_) (fun j t => ?_)
    ·obtain ⟨m, z, t⟩ := bns t;obtain rfl := sIn t;refine bch n (fun g n => ?_) (fun g n => ?_)
     ·obtain ⟨w, G, n⟩ := bns n;obtain rfl := sIn n;refine ⟨[(38, 0, .i l), (39, 1, .b (!decide (l = (-1)))), (40, 2, .b (!decide (l = (-1)))), (41, 3, .i c), (42, 4, .i e), (43, 5, .agg (aH m)), (44, 6, .agg (aH r2.2.1)), (45, 7, .b (decide (m = r2.2.1))), (46, 8, .b (decide (m = r2.2.1))), (47, 9, .b (decide (m = r2.2.1))), (48, 10, .cp [.j s.Tree.Rounds, .sl 1 (s.Tree.Slots.map aG), .sl 1 (s.players.map aG), .mp false (s.won.map fun p : aD × Int => ((fun a : aD => Value.agg ((aH a).map bN).toArray) p.1, aG p.2))]), (49, 11, .i e), (50, 12, .i w), (51, 13, .i c), (52, 14, .b (decide (c < w))), (53, 15, .b (decide (c < w)))], ?_, ?_⟩
      · exact dk [0, 1, 2, 3, 3, 30405, 3, 30607, 308, 9, 10, 10, 101112, 10, 101314, 1015] ⟨go (zm (.i l)),
 go (zcm rfl rfl rfl),
 go (zm (.b (!decide (l = (-1))))),
 gt j (zm (.i c)),
 gt j (zm (.i e)),
 gt j fun S hS => eM (aF rfl) (.func _ _ call56) (ev2 (aV hS rfl) (ev2 (aV hS rfl) evn)) rfl (nZ _ _ z),
 gt j (zla 0 (aH r2.2.1) rfl rfl iI),
 gt j fun S hS => aSe (a := m) (b := r2.2.1) (aF rfl) (aV hS rfl) (aV hS rfl) rfl rfl Tryz.eqGuardType143 yS,
 go (zpt (.b (decide (m = r2.2.1))) j),
 go (zm (.b (decide (m = r2.2.1)))),
 gt g (zm (.cp [.j s.Tree.Rounds, .sl 1 (s.Tree.Slots.map aG), .sl 1 (s.players.map aG), .mp false (s.won.map fun p : aD × Int => ((fun a : aD => Value.agg ((aH a).map bN).toArray) p.1, aG p.2))])),
 gt g (zm (.i e)),
 gt g fun S hS => dC (aF rfl) (.func _ _ call57) (ev2 (aV hS rfl) (ev2 (aV hS rfl) evn)) rfl (BVs.refl _ _) (aBe _ _ G) rfl,
 gt g (zm (.i c)),
 gt g (zcm rfl rfl rfl),
 go (zpt (.b (decide (c < w))) g), trivial⟩
      · exact bZ (aM rfl (aR ⟨rfl, rfl, rfl, rfl, rfl, rfl, rfl, rfl, trivial⟩))
     ·obtain rfl := sIn n;refine ⟨[(38, 0, .i l), (39, 1, .b (!decide (l = (-1)))), (40, 2, .b (!decide (l = (-1)))), (41, 3, .i c), (42, 4, .i e), (43, 5, .agg (aH m)), (44, 6, .agg (aH r2.2.1)), (45, 7, .b (decide (m = r2.2.1))), (46, 8, .b (decide (m = r2.2.1))), (47, 9, .b (decide (m = r2.2.1))), (48, 10, .tup []), (49, 11, .tup []), (50, 12, .tup []), (51, 13, .tup []), (52, 14, .tup []), (53, 15, .b false)], ?_, ?_⟩
      · exact dk [0, 1, 2, 3, 3, 30405, 3, 30607, 308, 9, 10, 10, 101112, 10, 101314, 1015] ⟨go (zm (.i l)),
 go (zcm rfl rfl rfl),
 go (zm (.b (!decide (l = (-1))))),
 gt j (zm (.i c)),
 gt j (zm (.i e)),
 gt j fun S hS => eM (aF rfl) (.func _ _ call56) (ev2 (aV hS rfl) (ev2 (aV hS rfl) evn)) rfl (nZ _ _ z),
 gt j (zla 0 (aH r2.2.1) rfl rfl iI),
 gt j fun S hS => aSe (a := m) (b := r2.2.1) (aF rfl) (aV hS rfl) (aV hS rfl) rfl rfl Tryz.eqGuardType143 yS,
 go (zpt (.b (decide (m = r2.2.1))) j),
 go (zm (.b (decide (m = r2.2.1)))),
 gp g,
 gp g,
 gp g,
 gp g,
 gp g,
 go (zpf Z6 g), trivial⟩
      · exact bZ (aM rfl (aR ⟨rfl, rfl, rfl, rfl, rfl, rfl, rfl, rfl, trivial⟩))
    ·obtain rfl := sIn t;have g : false = false := rfl;have n := vZ g n;obtain rfl := sIn n;refine ⟨[(38, 0, .i l), (39, 1, .b (!decide (l = (-1)))), (40, 2, .b (!decide (l = (-1)))), (41, 3, .tup []), (42, 4, .tup []), (43, 5, .tup []), (44, 6, .tup []), (45, 7, .tup []), (46, 8, .b false), (47, 9, .b (false)), (48, 10, .tup []), (49, 11, .tup []), (50, 12, .tup []), (51, 13, .tup []), (52, 14, .tup []), (53, 15, .b false)], ?_, ?_⟩
     · exact dk [0, 1, 2, 3, 3, 30405, 3, 30607, 308, 9, 10, 10, 101112, 10, 101314, 1015] ⟨go (zm (.i l)),
 go (zcm rfl rfl rfl),
 go (zm (.b (!decide (l = (-1))))),
 gp j,
 gp j,
 gp j,
 gp j,
 gp j,
 go (zpf Z6 j),
 go (zm Z54),
 gp g,
 gp g,
 gp g,
 gp g,
 gp g,
 go (zpf Z6 g), trivial⟩
     · exact bZ (aM rfl (aR ⟨rfl, rfl, rfl, rfl, rfl, rfl, rfl, rfl, trivial⟩))
   ·refine aB ?_;refine bK (aOs (enc := bA) (k := 10) rfl y) ?_;refine tip h (fun H h => ?_) (fun H h => ?_)
    ·refine aA (tm (.d (.lit w9)) (tm (.i l) (to (fH (aF rfl) bM rfl rfl (rows := ([l]).map aG) rfl (bR (f := aG) fun _ => rfl) rfl (by decide)) ?_)));obtain ⟨I, J, h⟩ := eS h;refine bB rfl (iG (i := 1) (aF rfl) bM rfl rfl rfl (fun _ => rfl) J rfl) ?_;rintro _ ⟨A, rfl⟩;refine ta (.d (.lit A)) ?_;refine jD ?_;refine aA (to (sar rfl rfl rfl) (tm (.i (w64 (e + 1))) (aB ?_)));exact ⟨(w64 (e + 1), I, A), h, aT [0, 1] rfl rfl (aM rfl (aM rfl (aR ⟨rfl, rfl, rfl, rfl, rfl, trivial⟩)))⟩
    ·refine dB ?_;refine aA (to (sar rfl rfl rfl) (tm (.i (w64 (e + 1))) (aB ?_)));exact ⟨(w64 (e + 1), q, w9), h, aT [0, 1] rfl rfl (aM rfl (aM rfl (aR ⟨rfl, rfl, rfl, rfl, rfl, trivial⟩)))⟩
  ·refine cK ?_;refine .inl ⟨rfl, ?_⟩;simp only [uC] at h;refine aC (aA (tm (.d (.lit w9)) ?_));obtain ⟨B, K, h⟩ := eS h;refine eT (aT [1, 0] rfl rfl (le_refl _)) ?_;refine bB rfl (iM (passed := [.arr w9 3 1 (q.map aG)]) (aF rfl) rfl (.func _ _ call103) rfl rfl (aDe q K)) ?_;rintro _ ⟨_, _, ⟨rfl, rfl⟩, rfl⟩;refine aB (aC (aA (tm (.d (.lit w9)) (ta (.d (.lit w9)) (ta (.i 0) (aB ?_))))));exact cA ⟨rfl, _, [], [.arr w9 3 1 (B.map aG), .box b3 0 (aH r2.2.1)], _, .two (.tmp 8 (v := .d (.lit w9)) rfl) (.tmp 9 (v := .i 0) rfl), .refl _, aFj (.cons (.d (cJ 0 rfl (bR (f := aG) fun _ => rfl))) (.cons (.same _) .nil)), (B, 0), h, rfl, rfl⟩

theorem zF {r : eU × (List Int)} (h : qD = some r) : Fn Tryz.prog 74 [] (.tup [.agg (cU r.1), .d (.sl 1 (r.2.map aG))]) := by
 unfold qD at h;refine iP func74 rfl (rs := [.cell 0 72, .tmp 1]) results74 ntmps74 (Nat.le_of_ble_eq_true rfl) ?_;refine aC (aA ?_);refine bB rfl (cD (zs := [.j 0, .j 0, .k false, .j 0, .j 0, .j 0, .j 0, .j 0, .j 0, .k false]) (aF rfl) zeroValue72 rfl rfl) ?_;rintro _ ⟨b1, rfl⟩;refine to (lX 1 (aF rfl)) ?_;refine aB (aC (aA (to (dG (aF rfl) aUg (zs := [.j 0, .j 0, .k false, .j 0, .j 0, .j 0, .j 0, .j 0, .j 0, .k false]) rfl rfl rfl rfl (es := [.j 2, .j 2, .k false, .j 2, .j 3, .j 0, .j 4, .j 2, .j 2, .k false]) rfl) ?_)));refine bB rfl (cD (zs := [.j 0, .j 0, .k false, .j 0, .j 0, .j 0, .j 0, .j 0, .j 0, .k false]) (aF rfl) zeroValue72 rfl rfl) ?_;rintro _ ⟨b2, rfl⟩;refine to (sst 1 rfl rfl sizeOf72 Z19) (aB (aC (aA (to (sla 1 Z19 rfl rfl yO) (to (fH (aF rfl) bM rfl rfl (rows := Z30.map aG) rfl (bR (f := aG) fun _ => rfl) rfl (by decide)) ?_)))));refine to (sst 0 rfl rfl sizeOf72 Z19) (ta (.d (.sl 1 ((Z30).map aG))) (aB ?_));obtain rfl := sIn h;exact cA ⟨rfl, _, [.box b1 0 Z19, .box b2 0 Z19], .two (.cell 0 72 rfl (i := 0) rfl yO (es := Z19) rfl rfl) (.tmp 1 (v := .d (.sl 1 ((Z30).map aG))) rfl), .refl _, .same _⟩

theorem mG (d : Int) (c : Int) (a : Int) {r : Bool} (h : lF d c a = some r) : Fn Tryz.prog 188 [.i d, .i c, .i a] (.b r) := by
 unfold lF at h;refine oT [.tmp 6] func188 results188 ntmps188 ?_;refine aC (aA (ta Z6 (aB (aC (aA (tm (.i c) (tm (.i d) (to (scm rfl rfl rfl) (tm (Z56 c d) ?_)))))))));obtain ⟨b1, h2, h⟩ := bns h;refine aW 4 [] 14 b1 ?_ ?_
 ·refine bch h2 (fun c3 h2 => ?_) (fun c3 h2 => ?_)
  ·refine tk c3 (sm (.i d)) (tk c3 (sm (.i a)) (tk c3 (scm rfl rfl rfl) (to (spt (Z56 d a) c3) ?_)));obtain rfl := sIn h2;refine aB (aI rfl trivial rfl)
  ·refine tp c3 (tp c3 (tp c3 (to (spf Z6 c3) ?_)));obtain rfl := sIn h2;refine aB (aI rfl trivial rfl)
 ·refine ta (.b b1) (aB ?_);obtain rfl := sIn h;exact rt

theorem xU (a : Int) (c : eU) {r : Bool} (h : rS a c = some r) : Fn Tryz.prog 187 [.i a, .cp (cU c)] (.b r) := by
 unfold rS at h;refine oT [.tmp 3] func187 results187 ntmps187 ?_;refine aC (aA (ta Z6 (aB (aC (aA (tm (.i a) (to (scm rfl rfl rfl) (tm (Z29 a) ?_))))))));obtain ⟨b1, h2, h⟩ := bns h;refine aW 3 [0, 1] 9 b1 ?_ ?_
 ·refine bch h2 (fun c9 h2 => ?_) (fun c9 h2 => ?_)
  ·refine tp c9 (tp c9 (to (spt Z17 c9) ?_));obtain rfl := sIn h2;refine aB (aI rfl ⟨rfl, rfl, trivial⟩ rfl)
  ·refine tk c9 (sm (.i a)) (tk c9 (scm rfl rfl rfl) (to (spf (.b (decide (a = 0))) c9) ?_));obtain rfl := sIn h2;refine aB (aI rfl ⟨rfl, rfl, trivial⟩ rfl)
 ·refine tm (.b b1) ?_;obtain ⟨b3, h4, h⟩ := bns h;refine aW 6 [0, 1] 16 b3 ?_ ?_
  ·refine bch h4 (fun c8 h4 => ?_) (fun c8 h4 => ?_)
   ·refine tp c8 (tp c8 (tp c8 (tp c8 (tp c8 (to (spt Z17 c8) ?_)))));obtain rfl := sIn h4;refine aB (aI rfl ⟨rfl, rfl, trivial⟩ rfl)
   ·refine tk c8 (sm (.i a)) (tk c8 (sfc [.j c.Games] rfl zO) (tk c8 (slc rfl aS) (tk c8 (sar rfl rfl rfl) (tk c8 (scm rfl rfl rfl) (to (spf (.b (decide (a = (w64 (c.Games - 1))))) c8) ?_)))));obtain rfl := sIn h4;refine aB (aI rfl ⟨rfl, rfl, trivial⟩ rfl)
  ·refine tm (.b b3) ?_;obtain ⟨b5, h6, h⟩ := bns h;refine aW 5 [] 22 b5 ?_ ?_
   ·refine bch h6 (fun c7 h6 => ?_) (fun c7 h6 => ?_)
    ·refine tp c7 (tp c7 (tp c7 (tp c7 (to (spt Z17 c7) ?_))));obtain rfl := sIn h6;refine aB (aI rfl trivial rfl)
    ·refine tk c7 (sm (.i a)) (tk c7 (sfc [.j c.Games] rfl zO) (tk c7 (slc rfl aS) (tk c7 (scm rfl rfl rfl) (to (spf (.b (decide (a = c.Games))) c7) ?_))));obtain rfl := sIn h6;refine aB (aI rfl trivial rfl)
   ·refine ta (.b b5) (aB ?_);obtain rfl := sIn h;exact rt

theorem aIv (p : eU) {r : Int} (h : yJ p = some r) : Fn Tryz.prog 143 [.agg (cU p)] (.i r) := by
 unfold yJ at h;refine oT [.tmp 2] func143 results143 ntmps143 ?_;refine aC (aA ?_);refine bB rfl (cO (v := .agg (cU p)) (aF rfl) rfl rfl rfl) ?_;rintro _ ⟨b1, rfl⟩;refine ta (.i 0) (aB (aC (aA (to (uW (aF rfl) rfl rfl) ?_))));refine ta (.fn 187 [.bp b1 0 0]) (aB (aC (aC (aA (tfl 0 rfl rfl zN rfl aS ?_)))));obtain ⟨r2, h3, h⟩ := bns h;refine to (scr call188 (mG _ _ _ h3)) (tm (.b r2) ?_);obtain ⟨b4, h5, h⟩ := bns h;refine aW 4 [1, 3] 12 b4 ?_ ?_
 ·refine bch h5 (fun d h5 => ?_) (fun d h5 => ?_)
  ·refine tkl 0 d rfl rfl zO rfl aS ?_;obtain ⟨u, w, h5⟩ := bns h5;refine tk d (scr call188 (mG _ _ _ w)) (to (spt (.b u) d) ?_);obtain rfl := sIn h5;refine aB (aI rfl ⟨rfl, rfl, trivial⟩ rfl)
  ·refine tp d (tp d (tp d (to (spf Z6 d) ?_)));obtain rfl := sIn h5;refine aB (aI rfl ⟨rfl, rfl, trivial⟩ rfl)
 ·refine tm (.b b4) ?_;obtain ⟨b6, h7, h⟩ := bns h;refine aW 5 [1, 3] 18 b6 ?_ ?_
  ·refine bch h7 (fun a h7 => ?_) (fun a h7 => ?_)
   ·refine tk a (sm (.fn 187 [.bp b1 0 0])) (tkl 0 a rfl rfl aJy rfl aS ?_);obtain ⟨x, y, h7⟩ := bns h7;refine tk a (dC (aF rfl) (.clo _ _ _ _ call187 rfl) (zL rfl) rfl (.cons (.same _) (.cons (iE 0 rfl rfl (dvc (.same _) (dvc (.same _) (dvc (.same _) (dvc (.same _) (dvc (.same _) (dvc (.same _) (dvc (.same _) (dvc (.same _) (dvc (.same _) (dvc (.same _) dvn))))))))))) .nil)) (xU _ _ y) rfl) ?_;refine to (spt (.b x) a) ?_;obtain rfl := sIn h7;refine aB (aI rfl ⟨rfl, rfl, trivial⟩ rfl)
   ·refine tp a (tp a (tp a (tp a (to (spf Z6 a) ?_))));obtain rfl := sIn h7;refine aB (aI rfl ⟨rfl, rfl, trivial⟩ rfl)
  ·refine tm (.b b6) ?_;obtain ⟨b8, h9, h⟩ := bns h;refine aW 5 [1] 24 b8 ?_ ?_
   ·refine bch h9 (fun c h9 => ?_) (fun c h9 => ?_)
    ·refine tk c (sm (.fn 187 [.bp b1 0 0])) (tkl 0 c rfl rfl aKa rfl aS ?_);obtain ⟨z, A, h9⟩ := bns h9;refine tk c (dC (aF rfl) (.clo _ _ _ _ call187 rfl) (zL rfl) rfl (.cons (.same _) (.cons (iE 0 rfl rfl (dvc (.same _) (dvc (.same _) (dvc (.same _) (dvc (.same _) (dvc (.same _) (dvc (.same _) (dvc (.same _) (dvc (.same _) (dvc (.same _) (dvc (.same _) dvn))))))))))) .nil)) (xU _ _ A) rfl) ?_;refine to (spt (.b z) c) ?_;obtain rfl := sIn h9;refine aB (aI rfl ⟨rfl, trivial⟩ rfl)
    ·refine tp c (tp c (tp c (tp c (to (spf Z6 c) ?_))));obtain rfl := sIn h9;refine aB (aI rfl ⟨rfl, trivial⟩ rfl)
   ·refine tm (.b b8) ?_;obtain ⟨q, k, h⟩ := bns h;refine aW 4 [1] 29 q ?_ ?_
    ·refine bch k (fun e k => ?_) (fun e k => ?_)
     ·refine tkl 0 e rfl rfl aJz rfl aS ?_;obtain ⟨B, C, k⟩ := bns k;refine tk e (scr call188 (mG _ _ _ C)) (to (spt (.b B) e) ?_);obtain rfl := sIn k;refine aB (aI rfl ⟨rfl, trivial⟩ rfl)
     ·refine tp e (tp e (tp e (to (spf Z6 e) ?_)));obtain rfl := sIn k;refine aB (aI rfl ⟨rfl, trivial⟩ rfl)
    ·refine tm (.b q) ?_;obtain ⟨s, m, h⟩ := bns h;refine aW 4 [1] 34 s ?_ ?_
     ·refine bch m (fun f m => ?_) (fun f m => ?_)
      ·refine tkl 0 f rfl rfl aKb rfl aS ?_;obtain ⟨E, F, m⟩ := bns m;refine tk f (scr call188 (mG _ _ _ F)) (to (spt (.b E) f) ?_);obtain rfl := sIn m;refine aB (aI rfl ⟨rfl, trivial⟩ rfl)
      ·refine tp f (tp f (tp f (to (spf Z6 f) ?_)));obtain rfl := sIn m;refine aB (aI rfl ⟨rfl, trivial⟩ rfl)
     ·refine tm (.b s) ?_;obtain ⟨t, n, h⟩ := bns h;refine aW 4 [1] 39 t ?_ ?_
      ·refine bch n (fun g n => ?_) (fun g n => ?_)
       ·refine tkl 0 g rfl rfl aEg rfl aS ?_;obtain ⟨G, H, n⟩ := bns n;refine tk g (scr call188 (mG _ _ _ H)) (to (spt (.b G) g) ?_);obtain rfl := sIn n;refine aB (aI rfl ⟨rfl, trivial⟩ rfl)
       ·refine tp g (tp g (tp g (to (spf Z6 g) ?_)));obtain rfl := sIn n;refine aB (aI rfl ⟨rfl, trivial⟩ rfl)
      ·refine tm (.b t) ?_;obtain ⟨I, o, h⟩ := bns h;refine aW 4 [] 44 I ?_ ?_
       ·refine bch o (fun j o => ?_) (fun j o => ?_)
        ·refine tkl 0 j rfl rfl aEh rfl aS ?_;obtain ⟨J, K, o⟩ := bns o;refine tk j (scr call188 (mG _ _ _ K)) (to (spt (.b J) j) ?_);obtain rfl := sIn o;refine aB (aI rfl trivial rfl)
        ·refine tp j (tp j (tp j (to (spf Z6 j) ?_)));obtain rfl := sIn o;refine aB (aI rfl trivial rfl)
       ·refine aB ?_;refine tih h (fun L h => ?_) (fun L h => ?_)
        ·refine aC (aA (ta (.i 0) (aB ?_)));obtain rfl := sIn h;refine bK (bC (bE (l := [2]) ⟨rfl, trivial⟩)) ?_;exact rt
        ·refine aY (aC (aA (ta (.i 10) (aB ?_))));obtain rfl := sIn h;refine bK (bC (bE (l := [2]) ⟨rfl, trivial⟩)) ?_;exact rt

theorem vI (a : gI) (c : bH) {r : gA} (h : qA a c = some r) : Fn Tryz.prog 190 [.agg (cQ a), .agg (aN c)] (.agg (cB r)) := by
 unfold qA at h;refine iP func190 rfl (rs := [.cell 4 283]) results190 ntmps190 (Nat.le_of_ble_eq_true rfl) ?_;refine aC (aA ?_);refine bB rfl (cO (v := .agg (cQ a)) (aF rfl) rfl rfl rfl) ?_;rintro _ ⟨b1, rfl⟩;refine bB rfl (cO (v := .agg (aN c)) (aF rfl) rfl rfl rfl) ?_;rintro _ ⟨b2, rfl⟩;refine bB rfl (cD (zs := [.j 0, .j 0]) (aF rfl) zeroValue283 rfl rfl) ?_;rintro _ ⟨b3, rfl⟩;refine aB (aC (aC (aA (tfl 1 rfl rfl oX rfl aS (to (sf rfl gR) (tfl 0 rfl rfl zN rfl aS (to (sar rfl rfl rfl) (to (scm rfl rfl rfl) (tm (.b (decide (c.A = (w64 (a.Format.Sets - 1))))) ?_)))))))));obtain ⟨b4, h5, h⟩ := bns h;refine aW 8 [2, 4] 20 b4 ?_ ?_
 ·refine bch h5 (fun c7 h5 => ?_) (fun c7 h5 => ?_)
  ·refine tkl 1 c7 rfl rfl oY rfl aS (tk c7 (sf rfl gR) (tkl 0 c7 rfl rfl zN rfl aS (tk c7 (sar rfl rfl rfl) (tk c7 (scm rfl rfl rfl) (to (spt (.b (decide (c.B = (w64 (a.Format.Sets - 1))))) c7) ?_)))));obtain rfl := sIn h5;refine aB (aI rfl ⟨rfl, rfl, trivial⟩ rfl)
  ·refine tp c7 (tp c7 (tp c7 (tp c7 (tp c7 (tp c7 (tp c7 (to (spf Z6 c7) ?_)))))));obtain rfl := sIn h5;refine aB (aI rfl ⟨rfl, rfl, trivial⟩ rfl)
 ·refine aB ?_;refine tih h (fun c6 h => ?_) (fun c6 h => ?_)
  ·refine aC (aA (to (sf rfl gR) (tfl 0 rfl rfl aKa rfl aS (to (sf rfl gR) (tfl 0 rfl rfl aKb rfl aS (to (dG (aF rfl) aMs (zs := [.j 0, .j 0]) rfl rfl rfl rfl (es := [.j a.Format.LastTie, .j a.Format.LastTo]) rfl) ?_))))));refine to (sst 2 rfl rfl sizeOf283 (Z47 a)) (aB ?_);obtain rfl := sIn h;exact cA ⟨rfl, _, [.box b1 0 (cQ a), .box b2 0 (aN c), .box b3 0 (Z47 a)], .one (.cell 4 283 rfl (i := 2) rfl aGq (es := (Z47 a)) rfl rfl), .refl _, .same _⟩
  ·refine aY (aC (aA (to (sf rfl gR) (tfl 0 rfl rfl aJy rfl aS (to (sf rfl gR) (tfl 0 rfl rfl aJz rfl aS (to (dG (aF rfl) aMs (zs := [.j 0, .j 0]) rfl rfl rfl rfl (es := [.j a.Format.Tie, .j a.Format.To]) rfl) ?_)))))));refine to (sst 2 rfl rfl sizeOf283 (Z58 a)) (aB ?_);obtain rfl := sIn h;exact cA ⟨rfl, _, [.box b1 0 (cQ a), .box b2 0 (aN c), .box b3 0 (Z58 a)], .one (.cell 4 283 rfl (i := 2) rfl aGq (es := (Z58 a)) rfl rfl), .refl _, .same _⟩

theorem aCg (c : gA) (a : bH) {r : Bool} (h : sG c a = some r) : Fn Tryz.prog 225 [.agg (cB c), .agg (aN a)] (.b r) := by
 unfold sG at h;refine oT [.tmp 4] func225 results225 ntmps225 ?_;refine aC (aA ?_);refine bB rfl (cO (v := .agg (cB c)) (aF rfl) rfl rfl rfl) ?_;rintro _ ⟨b1, rfl⟩;refine bB rfl (cO (v := .agg (aN a)) (aF rfl) rfl rfl rfl) ?_;rintro _ ⟨b2, rfl⟩;refine ta Z6 (aB (aC (aA (tfl 1 rfl rfl oX rfl aS (tfl 0 rfl rfl aHv rfl aS (to (scm rfl rfl rfl) (tm (.b (decide (a.A = c.tie))) ?_)))))));obtain ⟨b3, h4, h⟩ := bns h;refine aW 6 [] 16 b3 ?_ ?_
 ·refine bch h4 (fun c5 h4 => ?_) (fun c5 h4 => ?_)
  ·refine tkl 1 c5 rfl rfl oY rfl aS (tkl 0 c5 rfl rfl aHv rfl aS (tk c5 (scm rfl rfl rfl) (to (spt (.b (decide (a.B = c.tie))) c5) ?_)));obtain rfl := sIn h4;refine aB (aI rfl trivial rfl)
  ·refine tp c5 (tp c5 (tp c5 (tp c5 (tp c5 (to (spf Z6 c5) ?_)))));obtain rfl := sIn h4;refine aB (aI rfl trivial rfl)
 ·refine ta (.b b3) (aB ?_);obtain rfl := sIn h;refine bK (bC (bE (l := [4]) ⟨rfl, trivial⟩)) ?_;exact rt

theorem pA (a : bL) {r : Int} (h : lE a = some r) : Fn Tryz.prog 191 [.cp (eG a)] (.i r) := by
 unfold lE at h;refine oT [.tmp 2] func191 results191 ntmps191 ?_;refine aC (aA (ta (.i 0) (aB (aC (aA (tm (Z0 a) (to (eC (aF rfl) rfl) ?_)))))));refine to (sfc [.sl 1 (Z25 a)] rfl qK) (to (slc rfl wC) (to (sle rfl wX.of) (to (sar rfl rfl rfl) (ta (.i (w64 ((a.ties.length : Int) - 1))) (aB ?_)))));obtain rfl := sIn h;exact rt

theorem vH (d : gI) (a : Int) {r : Bool} (h : pZ d a = some r) : Fn Tryz.prog 226 [.agg (cQ d), .i a] (.b r) := by
 unfold pZ at h;refine oT [.tmp 4] func226 results226 ntmps226 ?_;refine aC (aA ?_);refine bB rfl (cO (v := .agg (cQ d)) (aF rfl) rfl rfl rfl) ?_;rintro _ ⟨b1, rfl⟩;refine ta Z6 (aB (aC (aA (tm (.i a) (to (sf rfl gR) (tfl 0 rfl rfl aEg rfl aS (to (sar rfl rfl rfl) (ta (.i (Z44 a d)) (aB (aC (aA (to (sf rfl gR) ?_))))))))))));refine tfl 0 rfl rfl aEg rfl aS (to (scm rfl rfl rfl) (tm (.b (decide (0 < d.Format.First))) ?_));obtain ⟨b2, h3, h⟩ := bns h;refine aW 21 [] 36 b2 ?_ ?_
 ·refine bch h3 (fun c4 h3 => ?_) (fun c4 h3 => ?_)
  ·refine tk c4 (sm (.i (Z44 a d))) (tk c4 (scm rfl rfl rfl) (tk c4 (sm (.b (decide ((Z44 a d) = 0)))) ?_));obtain ⟨b5, h6, h3⟩ := bns h3;refine aW 17 [15] 35 b5 ?_ ?_
   ·refine bch h6 (fun c7 h6 => ?_) (fun c7 h6 => ?_)
    ·refine tp c7 (tp c7 (tp c7 (tq (tq (tq (tq (tp c7 (tp c7 (tq (tq (tq (tq (tq ?_)))))))))))));refine tq (tp c7 (tk c4 (spt Z17 c7) ?_));obtain rfl := sIn h6;refine aB (aI rfl ⟨rfl, trivial⟩ rfl)
    ·refine tk c7 (sm (.i (Z44 a d))) (tk c7 (scm rfl rfl rfl) (tk c7 (sm (.b (decide (0 < (Z44 a d))))) ?_));obtain ⟨b8, h9, h6⟩ := bns h6;refine aW 5 [2, 5, 15, 18] 26 b8 ?_ ?_
     ·refine bch h9 (fun e h9 => ?_) (fun e h9 => ?_)
      ·refine tk e (sf rfl gR) (tkl 0 e rfl rfl aEh rfl aS (tk e (scm rfl rfl rfl) (tk c7 (spt (.b (decide (0 < d.Format.Then))) e) ?_)));obtain rfl := sIn h9;refine aB (aI rfl ⟨rfl, rfl, rfl, rfl, trivial⟩ rfl)
      ·refine tp e (tp e (tp e (tp e (tk c7 (spf Z6 e) ?_))));obtain rfl := sIn h9;refine aB (aI rfl ⟨rfl, rfl, rfl, rfl, trivial⟩ rfl)
     ·refine tk c7 (sm (.b b8)) ?_;obtain ⟨g, f, h6⟩ := bns h6;refine aW 7 [15, 18] 34 g ?_ ?_
      ·refine bch f (fun c f => ?_) (fun c f => ?_)
       ·refine tk c (sm (.i (Z44 a d))) (tk c (sf rfl gR) (tkl 0 c rfl rfl aEh rfl aS ?_));obtain ⟨k, j, f⟩ := bns f;refine tk c (nU (aF rfl) rfl rfl (aSb j)) ?_;refine tk c (scm rfl rfl rfl) (tk c7 (spt (.b (decide (((Z44 a d).tmod d.Format.Then) = 0))) c) ?_);obtain rfl := sIn f;refine aB (aI rfl ⟨rfl, rfl, trivial⟩ rfl)
       ·refine tp c (tp c (tp c (tp c (tp c (tp c (tk c7 (spf Z6 c) ?_))))));obtain rfl := sIn f;refine aB (aI rfl ⟨rfl, rfl, trivial⟩ rfl)
      ·refine tk c4 (spf (.b g) c7) ?_;obtain rfl := sIn h6;refine aB (aI rfl ⟨rfl, trivial⟩ rfl)
   ·refine to (spt (.b b5) c4) ?_;obtain rfl := sIn h3;refine aB (aI rfl trivial rfl)
  ·refine tp c4 (tp c4 (tp c4 (tq (tq (tq (tq (tq (tq (tq (tq (tq (tq (tq ?_)))))))))))));refine tq (tq (tq (tq (tq (tp c4 (to (spf Z6 c4) ?_))))));obtain rfl := sIn h3;refine aB (aI rfl trivial rfl)
 ·refine ta (.b b2) (aB ?_);obtain rfl := sIn h;refine bK (bC (bE (l := [4]) ⟨rfl, trivial⟩)) ?_;exact rt

theorem tZ (a : bL) {r : Bool} (h : nV a = some r) : Fn Tryz.prog 196 [.cp (eG a)] (.b r) := by
 unfold nV at h;refine oT [.tmp 2] func196 results196 ntmps196 ?_;refine aC (aA (ta Z6 (aB (aC (aA (tm (Z0 a) ?_))))));obtain ⟨r1, h2, h⟩ := bns h;refine to (scr call191 (pA _ h2)) (ta (.i r1) (aB (aC (aA (tm (Z0 a) (to (eC (aF rfl) rfl) ?_))))));refine to (sfc [.sl 1 (Z25 a)] rfl qK) (to (slc rfl wC) (tm (.i r1) ?_));obtain ⟨x3, h4, h⟩ := bns h;refine to (six rfl rfl wX.of (bU cL h4)) (to (slc rfl oZ) (to (sn rfl) (tm (.b (!x3)) ?_)));obtain ⟨b5, h6, h⟩ := bns h;refine aW 7 [0, 3] 21 b5 ?_ ?_
 ·refine bch h6 (fun e h6 => ?_) (fun e h6 => ?_)
  ·refine tk e (sm (Z0 a)) (tk e (eC (aF rfl) rfl) ?_);refine tk e (sfc [.j a.rules.Format.Sets, .j a.rules.Format.Games, .k a.rules.Format.NoAd, .j a.rules.Format.Tie, .j a.rules.Format.To, .j a.rules.Format.LastTie, .j a.rules.Format.LastTo, .j a.rules.Format.First, .j a.rules.Format.Then, .k a.rules.Format.Doubles] rfl nI) (tk e (yM (cQ a.rules) rfl vY) (tk e (sm (.i r1)) ?_));obtain ⟨l, m, h6⟩ := bns h6;refine tk e (scr call226 (vH _ _ m)) (to (spt (.b l) e) ?_);obtain rfl := sIn h6;refine aB (aI rfl ⟨rfl, rfl, trivial⟩ rfl)
  ·refine tp e (tp e (tp e (tp e (tp e (tp e (to (spf Z6 e) ?_))))));obtain rfl := sIn h6;refine aB (aI rfl ⟨rfl, rfl, trivial⟩ rfl)
 ·refine tm (.b b5) ?_;obtain ⟨b7, h8, h⟩ := bns h;refine aW 22 [] 44 b7 ?_ ?_
  ·refine bch h8 (fun c9 h8 => ?_) (fun c9 h8 => ?_)
   ·refine tp c9 (tp c9 (tp c9 (tq (tq (tq (tq (tq (tq (tq (tq (tp c9 (tp c9 (tq ?_)))))))))))));refine tq (tq (tq (tq (tq (tq (tp c9 (to (spt Z17 c9) ?_)))))));obtain rfl := sIn h8;refine aB (aI rfl trivial rfl)
   ·refine tk c9 (sm (.i r1)) (tk c9 (scm rfl rfl rfl) (tk c9 (sm (.b (decide (2 ≤ r1)))) ?_));obtain ⟨j, f, h8⟩ := bns h8;refine aW 9 [0, 3, 22] 34 j ?_ ?_
    ·refine bch f (fun c f => ?_) (fun c f => ?_)
     ·refine tk c (sm (Z0 a)) (tk c (eC (aF rfl) rfl) ?_);refine tk c (sfc [.sl 1 (Z25 a)] rfl qK) (tk c (slc rfl wC) (tk c (sm (.i r1)) (tk c (sar rfl rfl rfl) ?_)));obtain ⟨n, o, f⟩ := bns f;refine tk c (six rfl rfl wX.of (bU cL o)) (tk c (slc rfl oZ) (tk c9 (spt (.b n) c) ?_));obtain rfl := sIn f;refine aB (aI rfl ⟨rfl, rfl, rfl, trivial⟩ rfl)
     ·refine tp c (tp c (tp c (tp c (tp c (tp c (tp c (tp c (tk c9 (spf Z6 c) ?_))))))));obtain rfl := sIn f;refine aB (aI rfl ⟨rfl, rfl, rfl, trivial⟩ rfl)
    ·refine tk c9 (sm (.b j)) ?_;obtain ⟨k, g, h8⟩ := bns h8;refine aW 8 [22] 43 k ?_ ?_
     ·refine bch g (fun d g => ?_) (fun d g => ?_)
      ·refine tk d (sm (Z0 a)) (tk d (eC (aF rfl) rfl) ?_);refine tk d (sfc [.j a.rules.Format.Sets, .j a.rules.Format.Games, .k a.rules.Format.NoAd, .j a.rules.Format.Tie, .j a.rules.Format.To, .j a.rules.Format.LastTie, .j a.rules.Format.LastTo, .j a.rules.Format.First, .j a.rules.Format.Then, .k a.rules.Format.Doubles] rfl nI) (tk d (yM (cQ a.rules) rfl vY) (tk d (sm (.i r1)) (tk d (sar rfl rfl rfl) ?_)));obtain ⟨p, q, g⟩ := bns g;refine tk d (scr call226 (vH _ _ q)) (tk c9 (spt (.b p) d) ?_);obtain rfl := sIn g;refine aB (aI rfl ⟨rfl, trivial⟩ rfl)
      ·refine tp d (tp d (tp d (tp d (tp d (tp d (tp d (tk c9 (spf Z6 d) ?_)))))));obtain rfl := sIn g;refine aB (aI rfl ⟨rfl, trivial⟩ rfl)
     ·refine to (spf (.b k) c9) ?_;obtain rfl := sIn h8;refine aB (aI rfl trivial rfl)
  ·refine ta (.b b7) (aB ?_);obtain rfl := sIn h;exact rt

theorem jR (a : bL) (b : Int) {r : Int} (h : gT a b = some r) : Fn Tryz.prog 195 [.cp (eG a), .i b] (.i r) := by
 unfold gT at h;refine oT [.tmp 4] func195 results195 ntmps195 ?_;refine aC (aA (ta (.i 0) (aB (aC (aA (tm (Z0 a) ?_))))));obtain ⟨r1, h2, h⟩ := bns h;refine to (scr call191 (pA _ h2)) (ta (.i 0) (ta (.i r1) (aB (aC (aC (aA (tm (Z0 a) (to (eC (aF rfl) rfl) ?_))))))));refine to (sfc [.sl 1 (Z25 a)] rfl qK) (to (slc rfl wC) (tm (.i r1) ?_));obtain ⟨x3, h4, h⟩ := bns h;refine to (six rfl rfl wX.of (bU cL h4)) (to (slc rfl oZ) (aB ?_));refine tih h (fun c5 h => ?_) (fun c5 h => ?_)
 ·refine aA (tm (.i b) (to (sar rfl rfl rfl) (to (nM (aF rfl) rfl rfl (by decide)) ?_)));refine ta (.i (Z12 b)) (aB (aC (aA (tm (Z0 a) (to (eC (aF rfl) rfl) ?_)))));refine to (sfc [.j a.first] rfl aHt) (to (slc rfl aS) (tm (.i r1) (to (sar rfl rfl rfl) (tm (.i (Z12 b)) (to (sar rfl rfl rfl) (to (nU (aF rfl) rfl rfl (by decide)) ?_))))));refine ta (.i ((w64 ((w64 (a.first + r1)) + (Z12 b))).tmod 2)) (aB (aC (aC (aA (tm (Z0 a) (to (eC (aF rfl) rfl) ?_))))));refine to (sfc [.j a.rules.Format.Sets, .j a.rules.Format.Games, .k a.rules.Format.NoAd, .j a.rules.Format.Tie, .j a.rules.Format.To, .j a.rules.Format.LastTie, .j a.rules.Format.LastTo, .j a.rules.Format.First, .j a.rules.Format.Then, .k a.rules.Format.Doubles] rfl nI) (to (sfc [.j a.rules.Format.Sets, .j a.rules.Format.Games, .k a.rules.Format.NoAd, .j a.rules.Format.Tie, .j a.rules.Format.To, .j a.rules.Format.LastTie, .j a.rules.Format.LastTo, .j a.rules.Format.First, .j a.rules.Format.Then, .k a.rules.Format.Doubles] rfl gR) (to (sfc [.k a.rules.Format.Doubles] rfl aKc) (to (slc rfl oZ) (to (sn rfl) (aB ?_)))));refine tih h (fun c6 h => ?_) (fun c6 h => ?_)
  ·refine aC (aA (tm (.i ((w64 ((w64 (a.first + r1)) + (Z12 b))).tmod 2)) (ta (.i ((w64 ((w64 (a.first + r1)) + (Z12 b))).tmod 2)) (aB ?_))));obtain rfl := sIn h;exact rt
  ·refine aY (aC (aA (tm (.i r1) (tm (.i (Z12 b)) (to (nU (aF rfl) rfl rfl (by decide)) ?_)))));refine to (sar rfl rfl rfl) (to (nM (aF rfl) rfl rfl (by decide)) ?_);refine tm (.i (Z12 b)) (to (nM (aF rfl) rfl rfl (by decide)) ?_);refine to (sar rfl rfl rfl) (ta (.i (w64 ((w64 ((w64 (r1 + ((Z12 b).tmod 2))).tdiv 2)) + (w64 ((Z12 b).tdiv 2))))) (aB (aC (aA (tm (.i ((w64 ((w64 (a.first + r1)) + (Z12 b))).tmod 2)) (tm (.i (w64 ((w64 ((w64 (r1 + ((Z12 b).tmod 2))).tdiv 2)) + (w64 ((Z12 b).tdiv 2))))) (to (nU (aF rfl) rfl rfl (by decide)) ?_)))))));refine to (sar rfl rfl rfl) (to (sar rfl rfl rfl) (ta (.i (w64 (((w64 ((w64 (a.first + r1)) + (Z12 b))).tmod 2) + (w64 (2 * ((w64 ((w64 ((w64 (r1 + ((Z12 b).tmod 2))).tdiv 2)) + (w64 ((Z12 b).tdiv 2)))).tmod 2)))))) (aB ?_)));obtain rfl := sIn h;exact rt
 ·refine aY (aC (aA (tm (Z0 a) (to (eC (aF rfl) rfl) ?_))));refine to (sfc [.j a.first] rfl aHt) (to (slc rfl aS) (tm (.i r1) (to (sar rfl rfl rfl) (tm (.i 0) (to (sar rfl rfl rfl) (to (nU (aF rfl) rfl rfl (by decide)) ?_))))));refine ta (.i ((w64 ((w64 (a.first + r1)) + 0)).tmod 2)) (aB (aC (aC (aA (tm (Z0 a) (to (eC (aF rfl) rfl) ?_))))));refine to (sfc [.j a.rules.Format.Sets, .j a.rules.Format.Games, .k a.rules.Format.NoAd, .j a.rules.Format.Tie, .j a.rules.Format.To, .j a.rules.Format.LastTie, .j a.rules.Format.LastTo, .j a.rules.Format.First, .j a.rules.Format.Then, .k a.rules.Format.Doubles] rfl nI) (to (sfc [.j a.rules.Format.Sets, .j a.rules.Format.Games, .k a.rules.Format.NoAd, .j a.rules.Format.Tie, .j a.rules.Format.To, .j a.rules.Format.LastTie, .j a.rules.Format.LastTo, .j a.rules.Format.First, .j a.rules.Format.Then, .k a.rules.Format.Doubles] rfl gR) (to (sfc [.k a.rules.Format.Doubles] rfl aKc) (to (slc rfl oZ) (to (sn rfl) (aB ?_)))));refine tih h (fun c7 h => ?_) (fun c7 h => ?_)
  ·refine aC (aA (tm (.i ((w64 ((w64 (a.first + r1)) + 0)).tmod 2)) (ta (.i ((w64 ((w64 (a.first + r1)) + 0)).tmod 2)) (aB ?_))));obtain rfl := sIn h;exact rt
  ·refine aY (aC (aA (tm (.i r1) (tm (.i 0) (to (nU (aF rfl) rfl rfl (by decide)) ?_)))));refine to (sar rfl rfl rfl) (to (nM (aF rfl) rfl rfl (by decide)) ?_);refine tm (.i 0) (to (nM (aF rfl) rfl rfl (by decide)) ?_);refine to (sar rfl rfl rfl) (ta (.i (w64 ((w64 ((w64 (r1 + ((0 : Int).tmod 2))).tdiv 2)) + Z62))) (aB (aC (aA (tm (.i ((w64 ((w64 (a.first + r1)) + 0)).tmod 2)) (tm (.i (w64 ((w64 ((w64 (r1 + ((0 : Int).tmod 2))).tdiv 2)) + Z62))) (to (nU (aF rfl) rfl rfl (by decide)) ?_)))))));refine to (sar rfl rfl rfl) (to (sar rfl rfl rfl) (ta (.i (w64 (((w64 ((w64 (a.first + r1)) + 0)).tmod 2) + (w64 (2 * ((w64 ((w64 ((w64 (r1 + ((0 : Int).tmod 2))).tdiv 2)) + Z62)).tmod 2)))))) (aB ?_)));obtain rfl := sIn h;exact rt

theorem gS (a : bL) {r : bL} {g j : Nat} {c : Value} {l : Value} {e : Value} (h : fR a = some r) : dN Tryz.prog 189 [.bp g j 0] (Z7 g j a c l e) (fun r' o' => ∃ (m : Value) (w4 : Value) (w5 : Value), r' = .tup [] ∧ o' = [.box g j [.j r.rules.Format.Sets, .j r.rules.Format.Games, .k r.rules.Format.NoAd, .j r.rules.Format.Tie, .j r.rules.Format.To, .j r.rules.Format.LastTie, .j r.rules.Format.LastTo, .j r.rules.Format.First, .j r.rules.Format.Then, .k r.rules.Format.Doubles, .lit m, .j r.Score.Board.Games.A, .j r.Score.Board.Games.B, .j r.Score.Board.Points.A, .j r.Score.Board.Points.B, .j r.Score.Server, .j r.Score.Ends, .j r.Score.Balls, .j r.Score.Winner, .j r.first, .j r.won.A, .j r.won.B, .lit w4, .lit w5], .arr m 78 2 (Z9 r), .arr w4 4 1 (Z25 r), .arr w5 228 7 (Z40 r)]) := by
 unfold fR at h;refine rG func189 rfl (rs := []) results189 ntmps189 (Nat.le_of_ble_eq_true rfl) ?_;refine aC (aC (aA (tm (Z61 g j) (to (bJ (aF rfl) rfl) ?_))));refine to (sf rfl cH) (tfl 0 rfl rfl sB rfl aS (to (scm rfl rfl rfl) (aB ?_)));refine tih h (fun c1 h => ?_) (fun c1 h => ?_)
 ·refine aC (aA (tm (Z61 g j) (to (bJ (aF rfl) rfl) ?_)));refine to (sf rfl cH) (to (sf rfl wN) (to (sst 0 rfl rfl sizeOf3 [.j a.rules.Format.Sets, .j a.rules.Format.Games, .k a.rules.Format.NoAd, .j a.rules.Format.Tie, .j a.rules.Format.To, .j a.rules.Format.LastTie, .j a.rules.Format.LastTo, .j a.rules.Format.First, .j a.rules.Format.Then, .k a.rules.Format.Doubles, .lit c, .j a.Score.Board.Games.A, .j a.Score.Board.Games.B, .j a.Score.Board.Points.A, .j a.Score.Board.Points.B, .j (-1), .j a.Score.Ends, .j a.Score.Balls, .j a.Score.Winner, .j a.first, .j a.won.A, .j a.won.B, .lit l, .lit e]) (aB ?_)));obtain rfl := sIn h;exact cA ⟨rfl, _, [.box g j [.j a.rules.Format.Sets, .j a.rules.Format.Games, .k a.rules.Format.NoAd, .j a.rules.Format.Tie, .j a.rules.Format.To, .j a.rules.Format.LastTie, .j a.rules.Format.LastTo, .j a.rules.Format.First, .j a.rules.Format.Then, .k a.rules.Format.Doubles, .lit c, .j a.Score.Board.Games.A, .j a.Score.Board.Games.B, .j a.Score.Board.Points.A, .j a.Score.Board.Points.B, .j (-1), .j a.Score.Ends, .j a.Score.Balls, .j a.Score.Winner, .j a.first, .j a.won.A, .j a.won.B, .lit l, .lit e], .arr c 78 2 (Z9 a), .arr l 4 1 (Z25 a), .arr e 228 7 (Z40 a)], [], _, .none, .refl _, .same _, c, l, e, rfl, rfl⟩
 ·refine aY (aC ?_);obtain ⟨r3, h4, h⟩ := bns h;obtain ⟨r5, h6, h⟩ := bns h;obtain ⟨x7, h8, h⟩ := bns h;refine fZ mix 23 [0] (fun X2 => [(12, .bp g j 0), (34, .d (.lit (X2 22).v))]) (fun X2 => [.box g j [.j a.rules.Format.Sets, .j a.rules.Format.Games, .k a.rules.Format.NoAd, .j a.rules.Format.Tie, .j a.rules.Format.To, .j a.rules.Format.LastTie, .j a.rules.Format.LastTo, .j a.rules.Format.First, .j a.rules.Format.Then, .k a.rules.Format.Doubles, .lit c, .j a.Score.Board.Games.A, .j a.Score.Board.Games.B, .j a.Score.Board.Points.A, .j a.Score.Board.Points.B, .j a.Score.Server, .j a.Score.Ends, .j a.Score.Balls, .j a.Score.Winner, .j a.first, .j a.won.A, .j a.won.B, .lit l, .lit e], .arr c 78 2 (Z9 a), .arr (X2 22).v 4 1 (x7.map cL), .arr e 228 7 (Z40 a)]) ?_ ?_
  ·refine ⟨0, fun X2 => [(12, 0, .bp g j 0), (13, 1, .bp g j 0), (14, 2, .bp g j 0), (15, 3, .bp g j 22), (16, 4, .d (.lit l)), (17, 5, .bp g j 0), (18, 6, .bp g j 0), (19, 7, .bp g j 0), (20, 8, .agg (cQ a.rules)), (21, 9, .bp g j 0), (22, 10, .bp g j 0), (23, 11, .bp g j 20), (24, 12, .agg (aN a.won)), (25, 13, .agg (cB r3)), (26, 14, .bp g j 0), (27, 15, .bp g j 0), (28, 16, .bp g j 10), (29, 17, .bp g j 10), (30, 18, .bp g j 11), (31, 19, .agg (aN a.Score.Board.Games)), (32, 20, .b r5), (33, 21, .d (.sl 1 (([r5]).map cL))), (34, 22, .d (.lit (X2 22).v))], fun X2 => [([], .box g j [.j a.rules.Format.Sets, .j a.rules.Format.Games, .k a.rules.Format.NoAd, .j a.rules.Format.Tie, .j a.rules.Format.To, .j a.rules.Format.LastTie, .j a.rules.Format.LastTo, .j a.rules.Format.First, .j a.rules.Format.Then, .k a.rules.Format.Doubles, .lit c, .j a.Score.Board.Games.A, .j a.Score.Board.Games.B, .j a.Score.Board.Points.A, .j a.Score.Board.Points.B, .j a.Score.Server, .j a.Score.Ends, .j a.Score.Balls, .j a.Score.Winner, .j a.first, .j a.won.A, .j a.won.B, .lit l, .lit e]), ([], .arr c 78 2 (Z9 a)), ([(22, .arr (X2 22).v 4 1 (x7.map cL))], .arr l 4 1 (Z25 a)), ([], .arr e 228 7 (Z40 a))], ?_, ?_⟩
   · exact xok [(0, 0), (0, 23), (2, 23), (3, 23), (4, 23), (0, 23), (6, 23), (7, 23), (8, 23), (0, 23), (10, 23), (11, 23), (12, 23), (913, 23), (0, 23), (15, 23), (16, 23), (17, 23), (18, 23), (19, 23), (1420, 23), (21, 23), (522, 0)] ⟨fun _ _ w _ k => xp w (ym k (Z61 g j)),
 fun _ _ w _ k => xp w (ym k (Z61 g j)),
 fun _ _ w _ k => xp w (bJ (aF rfl) (aV k rfl)),
 fun _ _ w _ k => xp w (yf k rfl qK),
 fun _ _ w _ k => xp w (yl k 0 rfl (og k rfl rfl) rfl wC),
 fun _ _ w _ k => xp w (ym k (Z61 g j)),
 fun _ _ w _ k => xp w (bJ (aF rfl) (aV k rfl)),
 fun _ _ w _ k => xp w (yf k rfl nI),
 fun _ _ w _ k => xp w (yla k 0 (cQ a.rules) rfl (og k rfl rfl) vY),
 fun _ _ w _ k => xp w (ym k (Z61 g j)),
 fun _ _ w _ k => xp w (bJ (aF rfl) (aV k rfl)),
 fun _ _ w _ k => xp w (yf k rfl sO),
 fun _ _ w _ k => xp w (yla k 0 (aN a.won) rfl (og k rfl rfl) gY),
 fun _ _ w _ k => xp w (eM (aF rfl) (.func _ _ call190) (ev2 (aV k rfl) (ev2 (aV k rfl) evn)) rfl (vI _ _ h4)),
 fun _ _ w _ k => xp w (ym k (Z61 g j)),
 fun _ _ w _ k => xp w (bJ (aF rfl) (aV k rfl)),
 fun _ _ w _ k => xp w (yf k rfl cH),
 fun _ _ w _ k => xp w (yf k rfl kP),
 fun _ _ w _ k => xp w (yf k rfl zP),
 fun _ _ w _ k => xp w (yla k 0 (aN a.Score.Board.Games) rfl (og k rfl rfl) gY),
 fun _ _ w _ k => xp w (dC (aF rfl) (.func _ _ call225) (ev2 (aV k rfl) (ev2 (aV k rfl) evn)) rfl (BVs.refl _ _) (aCg _ _ h6) rfl),
 fun _ _ w _ k => xp w (fH (aF rfl) wX rfl (pa2 (aV k rfl) pan) (rows := ([r5]).map cL) rfl (bR (f := cL) fun _ => rfl) rfl (by decide)),
 fun X2 S hw hi hS => oG (X := X2) (p := 2) (v := fun x => .d (.lit x.v)) (mo := fun x => .arr x.v 4 1 (x7.map cL)) hS hi rfl rfl (fun _ => rfl) hw (fun _ => rfl) (fun _ => rfl) (fun _ => rfl) (fun _ => ⟨rfl, rfl, .inr rfl, ⟨rfl, rfl, .inr rfl, ⟨rfl, rfl, .inr rfl, ⟨rfl, rfl, .inr rfl, ⟨rfl, rfl, .inr rfl, ⟨rfl, rfl, .inr rfl, ⟨rfl, rfl, .inr rfl, ⟨rfl, rfl, .inr rfl, ⟨rfl, rfl, .inr rfl, ⟨rfl, rfl, .inr rfl, ⟨rfl, rfl, .inr rfl, ⟨rfl, rfl, .inr rfl, ⟨rfl, rfl, .inr rfl, ⟨rfl, rfl, .inr rfl, ⟨rfl, rfl, .inr rfl, ⟨rfl, rfl, .inr rfl, ⟨rfl, rfl, .inr rfl, ⟨rfl, rfl, .inr rfl, ⟨rfl, rfl, .inr rfl, ⟨rfl, rfl, .inr rfl, ⟨rfl, rfl, .inr rfl, ⟨rfl, rfl, .inr rfl, ⟨rfl, rfl, .inl rfl, trivial⟩⟩⟩⟩⟩⟩⟩⟩⟩⟩⟩⟩⟩⟩⟩⟩⟩⟩⟩⟩⟩⟩⟩) (fun _ => ⟨trivial, rfl, ⟨trivial, rfl, ⟨⟨rfl, .inl rfl, trivial⟩, rfl, ⟨trivial, rfl, trivial⟩⟩⟩⟩) (gV (iG (i := 2) (aF rfl) wX (aV hS rfl) (og hS rfl rfl) (aV hS rfl) (fun _ => rfl) h8 rfl) (by rintro _ ⟨w, rfl⟩; exact ⟨⟨0, w⟩, Ent.refl _⟩)), trivial⟩
   · exact fun X2 => bZ (aM rfl (aM rfl (aR ⟨rfl, trivial⟩)))
  ·intro X2;refine to (bJ (aF rfl) rfl) ?_;refine to (sf rfl qK) (to (sst 0 rfl rfl sizeOf172 [.j a.rules.Format.Sets, .j a.rules.Format.Games, .k a.rules.Format.NoAd, .j a.rules.Format.Tie, .j a.rules.Format.To, .j a.rules.Format.LastTie, .j a.rules.Format.LastTo, .j a.rules.Format.First, .j a.rules.Format.Then, .k a.rules.Format.Doubles, .lit c, .j a.Score.Board.Games.A, .j a.Score.Board.Games.B, .j a.Score.Board.Points.A, .j a.Score.Board.Points.B, .j a.Score.Server, .j a.Score.Ends, .j a.Score.Balls, .j a.Score.Winner, .j a.first, .j a.won.A, .j a.won.B, .lit (X2 22).v, .lit e]) (aB (aC (aC (aA (tm (Z61 g j) ?_))))));obtain ⟨r9, q, h⟩ := bns h;refine to (sc call196 (tZ _ q) (.cons (iE 0 rfl rfl (dvc (.same _) (dvc (.same _) (dvc (.same _) (dvc (.same _) (dvc (.same _) (dvc (.same _) (dvc (.same _) (dvc (.same _) (dvc (.same _) (dvc (.same _) (dvc (cJ 1 rfl (bR (f := aN) fun _ => rfl)) (dvc (.same _) (dvc (.same _) (dvc (.same _) (dvc (.same _) (dvc (.same _) (dvc (.same _) (dvc (.same _) (dvc (.same _) (dvc (.same _) (dvc (.same _) (dvc (.same _) (dvc (cJ 2 rfl (bR (f := cL) fun _ => rfl)) (dvc (cJ 3 rfl (bR (f := bD) fun _ => rfl)) dvn))))))))))))))))))))))))) .nil)) (aB ?_);refine tih h (fun s h => ?_) (fun s h => ?_)
   ·refine aA (tm (Z61 g j) (to (bJ (aF rfl) rfl) ?_));refine to (sf rfl cH) (tfl 0 rfl rfl aEj rfl aS (to (sar rfl rfl rfl) (to (bJ (aF rfl) rfl) ?_)));refine to (sf rfl cH) (to (sf rfl aEj) (to (sst 0 rfl rfl sizeOf3 [.j a.rules.Format.Sets, .j a.rules.Format.Games, .k a.rules.Format.NoAd, .j a.rules.Format.Tie, .j a.rules.Format.To, .j a.rules.Format.LastTie, .j a.rules.Format.LastTo, .j a.rules.Format.First, .j a.rules.Format.Then, .k a.rules.Format.Doubles, .lit c, .j a.Score.Board.Games.A, .j a.Score.Board.Games.B, .j a.Score.Board.Points.A, .j a.Score.Board.Points.B, .j a.Score.Server, .j a.Score.Ends, .j (w64 (a.Score.Balls + 1)), .j a.Score.Winner, .j a.first, .j a.won.A, .j a.won.B, .lit (X2 22).v, .lit e]) (aB (aA (tm (Z61 g j) (tm (Z61 g j) ?_))))));obtain ⟨n, t, h⟩ := bns h;refine to (sc call195 (jR _ _ t) (.cons (iE 0 rfl rfl (dvc (.same _) (dvc (.same _) (dvc (.same _) (dvc (.same _) (dvc (.same _) (dvc (.same _) (dvc (.same _) (dvc (.same _) (dvc (.same _) (dvc (.same _) (dvc (cJ 1 rfl (bR (f := aN) fun _ => rfl)) (dvc (.same _) (dvc (.same _) (dvc (.same _) (dvc (.same _) (dvc (.same _) (dvc (.same _) (dvc (.same _) (dvc (.same _) (dvc (.same _) (dvc (.same _) (dvc (.same _) (dvc (cJ 2 rfl (bR (f := cL) fun _ => rfl)) (dvc (cJ 3 rfl (bR (f := bD) fun _ => rfl)) dvn))))))))))))))))))))))))) (.cons (.same _) .nil))) (to (bJ (aF rfl) rfl) ?_);refine to (sf rfl cH) (to (sf rfl wN) (to (sst 0 rfl rfl sizeOf3 [.j a.rules.Format.Sets, .j a.rules.Format.Games, .k a.rules.Format.NoAd, .j a.rules.Format.Tie, .j a.rules.Format.To, .j a.rules.Format.LastTie, .j a.rules.Format.LastTo, .j a.rules.Format.First, .j a.rules.Format.Then, .k a.rules.Format.Doubles, .lit c, .j a.Score.Board.Games.A, .j a.Score.Board.Games.B, .j a.Score.Board.Points.A, .j a.Score.Board.Points.B, .j n, .j a.Score.Ends, .j (w64 (a.Score.Balls + 1)), .j a.Score.Winner, .j a.first, .j a.won.A, .j a.won.B, .lit (X2 22).v, .lit e]) (aB ?_)));obtain rfl := sIn h;exact ⟨_, [.box g j [.j a.rules.Format.Sets, .j a.rules.Format.Games, .k a.rules.Format.NoAd, .j a.rules.Format.Tie, .j a.rules.Format.To, .j a.rules.Format.LastTie, .j a.rules.Format.LastTo, .j a.rules.Format.First, .j a.rules.Format.Then, .k a.rules.Format.Doubles, .lit c, .j a.Score.Board.Games.A, .j a.Score.Board.Games.B, .j a.Score.Board.Points.A, .j a.Score.Board.Points.B, .j n, .j a.Score.Ends, .j (w64 (a.Score.Balls + 1)), .j a.Score.Winner, .j a.first, .j a.won.A, .j a.won.B, .lit (X2 22).v, .lit e], .arr c 78 2 (Z9 a), .arr (X2 22).v 4 1 (x7.map cL), .arr e 228 7 (Z40 a)], [], _, .none, .refl _, .same _, c, (X2 22).v, e, rfl, rfl⟩
   ·refine aY (aA (tm (Z61 g j) (tm (Z61 g j) ?_)));obtain ⟨o, u, h⟩ := bns h;refine to (sc call195 (jR _ _ u) (.cons (iE 0 rfl rfl (dvc (.same _) (dvc (.same _) (dvc (.same _) (dvc (.same _) (dvc (.same _) (dvc (.same _) (dvc (.same _) (dvc (.same _) (dvc (.same _) (dvc (.same _) (dvc (cJ 1 rfl (bR (f := aN) fun _ => rfl)) (dvc (.same _) (dvc (.same _) (dvc (.same _) (dvc (.same _) (dvc (.same _) (dvc (.same _) (dvc (.same _) (dvc (.same _) (dvc (.same _) (dvc (.same _) (dvc (.same _) (dvc (cJ 2 rfl (bR (f := cL) fun _ => rfl)) (dvc (cJ 3 rfl (bR (f := bD) fun _ => rfl)) dvn))))))))))))))))))))))))) (.cons (.same _) .nil))) (to (bJ (aF rfl) rfl) ?_);refine to (sf rfl cH) (to (sf rfl wN) (to (sst 0 rfl rfl sizeOf3 [.j a.rules.Format.Sets, .j a.rules.Format.Games, .k a.rules.Format.NoAd, .j a.rules.Format.Tie, .j a.rules.Format.To, .j a.rules.Format.LastTie, .j a.rules.Format.LastTo, .j a.rules.Format.First, .j a.rules.Format.Then, .k a.rules.Format.Doubles, .lit c, .j a.Score.Board.Games.A, .j a.Score.Board.Games.B, .j a.Score.Board.Points.A, .j a.Score.Board.Points.B, .j o, .j a.Score.Ends, .j a.Score.Balls, .j a.Score.Winner, .j a.first, .j a.won.A, .j a.won.B, .lit (X2 22).v, .lit e]) (aB ?_)));obtain rfl := sIn h;exact ⟨_, [.box g j [.j a.rules.Format.Sets, .j a.rules.Format.Games, .k a.rules.Format.NoAd, .j a.rules.Format.Tie, .j a.rules.Format.To, .j a.rules.Format.LastTie, .j a.rules.Format.LastTo, .j a.rules.Format.First, .j a.rules.Format.Then, .k a.rules.Format.Doubles, .lit c, .j a.Score.Board.Games.A, .j a.Score.Board.Games.B, .j a.Score.Board.Points.A, .j a.Score.Board.Points.B, .j o, .j a.Score.Ends, .j a.Score.Balls, .j a.Score.Winner, .j a.first, .j a.won.A, .j a.won.B, .lit (X2 22).v, .lit e], .arr c 78 2 (Z9 a), .arr (X2 22).v 4 1 (x7.map cL), .arr e 228 7 (Z40 a)], [], _, .none, .refl _, .same _, c, (X2 22).v, e, rfl, rfl⟩

theorem aIw (a : gI) (c : Int) {r : bL} (h : yL a c = some r) : dN Tryz.prog 144 [.agg (cQ a), .i c] [] (fun r' o' => ∃ (b : Nat) (w0 w1 w2 : Value), r' = .bp b 0 0 ∧ o' = [.box b 0 [.j r.rules.Format.Sets, .j r.rules.Format.Games, .k r.rules.Format.NoAd, .j r.rules.Format.Tie, .j r.rules.Format.To, .j r.rules.Format.LastTie, .j r.rules.Format.LastTo, .j r.rules.Format.First, .j r.rules.Format.Then, .k r.rules.Format.Doubles, .lit w0, .j r.Score.Board.Games.A, .j r.Score.Board.Games.B, .j r.Score.Board.Points.A, .j r.Score.Board.Points.B, .j r.Score.Server, .j r.Score.Ends, .j r.Score.Balls, .j r.Score.Winner, .j r.first, .j r.won.A, .j r.won.B, .lit w1, .lit w2], .arr w0 78 2 (Z9 r), .arr w1 4 1 (Z25 r), .arr w2 228 7 (Z40 r)]) := by
 unfold yL at h;refine jG func144 rfl (rs := [.tmp 4]) results144 ntmps144 (Nat.le_of_ble_eq_true rfl) ?_;refine aC (aA ?_);refine bB rfl (cO (v := .agg (cQ a)) (aF rfl) rfl rfl rfl) ?_;rintro _ ⟨b1, rfl⟩;refine ta Z36 (aB (aC (aA (to (sla 0 (cQ a) rfl rfl vY) (tm (.i c) (to (dG (aF rfl) aTj (zs := [.j 0, .j 0, .k false, .j 0, .j 0, .j 0, .j 0, .j 0, .j 0, .k false, .lit (.slice none 0 0), .j 0, .j 0, .j 0, .j 0, .j 0, .j 0, .j 0, .j 0, .j 0, .j 0, .j 0, .lit (.slice none 0 0), .lit (.slice none 0 0)]) rfl rfl rfl rfl (es := [.j a.Format.Sets, .j a.Format.Games, .k a.Format.NoAd, .j a.Format.Tie, .j a.Format.To, .j a.Format.LastTie, .j a.Format.LastTo, .j a.Format.First, .j a.Format.Then, .k a.Format.Doubles, .lit (.slice none 0 0), .j 0, .j 0, .j 0, .j 0, .j 0, .j 0, .j 0, .j 0, .j c, .j 0, .j 0, .lit (.slice none 0 0), .lit (.slice none 0 0)]) rfl) ?_))))));refine bB rfl (cO (v := .agg [.j a.Format.Sets, .j a.Format.Games, .k a.Format.NoAd, .j a.Format.Tie, .j a.Format.To, .j a.Format.LastTie, .j a.Format.LastTo, .j a.Format.First, .j a.Format.Then, .k a.Format.Doubles, .lit (.slice none 0 0), .j 0, .j 0, .j 0, .j 0, .j 0, .j 0, .j 0, .j 0, .j c, .j 0, .j 0, .lit (.slice none 0 0), .lit (.slice none 0 0)]) (aF rfl) rfl rfl rfl) ?_;rintro _ ⟨b2, rfl⟩;refine eT (tG 78 2) ?_;refine eT (tG 4 1) ?_;refine eT (tG 228 7) ?_;refine ta (.bp b2 0 0) (aB (aC (aA (tm (.bp b2 0 0) (to (bJ (aF rfl) rfl) ?_)))));refine to (sf rfl cH) (to (sf rfl sB) (to (sst 1 rfl rfl sizeOf3 [.j a.Format.Sets, .j a.Format.Games, .k a.Format.NoAd, .j a.Format.Tie, .j a.Format.To, .j a.Format.LastTie, .j a.Format.LastTo, .j a.Format.First, .j a.Format.Then, .k a.Format.Doubles, .lit (.slice none 0 0), .j 0, .j 0, .j 0, .j 0, .j 0, .j 0, .j 0, .j (-1), .j c, .j 0, .j 0, .lit (.slice none 0 0), .lit (.slice none 0 0)]) (aB (aC (aA (tm (.bp b2 0 0) ?_))))));obtain ⟨r3, h4, h⟩ := bns h;refine eT (aT [1, 2, 3, 4, 0] rfl rfl (le_refl _)) ?_;refine bB rfl (iM (passed := [.box b2 0 [.j a.Format.Sets, .j a.Format.Games, .k a.Format.NoAd, .j a.Format.Tie, .j a.Format.To, .j a.Format.LastTie, .j a.Format.LastTo, .j a.Format.First, .j a.Format.Then, .k a.Format.Doubles, .lit (.slice none 0 0), .j 0, .j 0, .j 0, .j 0, .j 0, .j 0, .j 0, .j (-1), .j c, .j 0, .j 0, .lit (.slice none 0 0), .lit (.slice none 0 0)], .arr (.slice none 0 0) 78 2 (([] : List bH).map aN), .arr (.slice none 0 0) 4 1 (([] : List Bool).map cL), .arr (.slice none 0 0) 228 7 (([] : List mV).map bD)]) (aF rfl) rfl (.func _ _ call189) rfl rfl (gS (bL.mk a (cP.mk (dI.mk ([] : List bH) Z46 Z46) 0 0 0 (-1)) c Z46 ([] : List Bool) ([] : List mV)) h4)) ?_;rintro _ ⟨_, _, ⟨w5, w6, w7, rfl, rfl⟩, rfl⟩;refine aB (aC (aA (tm (.bp b2 0 0) (ta (.bp b2 0 0) (aB ?_)))));obtain rfl := sIn h;exact cA ⟨rfl, _, [.box b2 0 [.j r3.rules.Format.Sets, .j r3.rules.Format.Games, .k r3.rules.Format.NoAd, .j r3.rules.Format.Tie, .j r3.rules.Format.To, .j r3.rules.Format.LastTie, .j r3.rules.Format.LastTo, .j r3.rules.Format.First, .j r3.rules.Format.Then, .k r3.rules.Format.Doubles, .lit w5, .j r3.Score.Board.Games.A, .j r3.Score.Board.Games.B, .j r3.Score.Board.Points.A, .j r3.Score.Board.Points.B, .j r3.Score.Server, .j r3.Score.Ends, .j r3.Score.Balls, .j r3.Score.Winner, .j r3.first, .j r3.won.A, .j r3.won.B, .lit w6, .lit w7], .arr w5 78 2 (r3.Score.Board.Sets.map aN), .arr w6 4 1 (r3.ties.map cL), .arr w7 228 7 (r3.games.map bD)], [.box b1 0 (cQ a)], _, .one (.tmp 4 (v := .bp b2 0 0) rfl), .refl _, .same _, b2, w5, w6, w7, rfl, rfl⟩

theorem yK (a : bH) (b : Int) {r : bH} (h : uY a b = some r) : Fn Tryz.prog 192 [.agg (aN a), .i b] (.agg (aN r)) := by
 unfold uY at h;refine iP func192 rfl (rs := [.cell 4 78]) results192 ntmps192 (Nat.le_of_ble_eq_true rfl) ?_;refine aC (aA ?_);refine bB rfl (cO (v := .agg (aN a)) (aF rfl) rfl rfl rfl) ?_;rintro _ ⟨b1, rfl⟩;refine bB rfl (cD (zs := [.j 0, .j 0]) (aF rfl) zeroValue78 rfl rfl) ?_;rintro _ ⟨b2, rfl⟩;refine aB (aC (aC (aA (tm (.i b) (to (scm rfl rfl rfl) (aB ?_))))));refine tih h (fun c3 h => ?_) (fun c3 h => ?_)
 ·refine aA (tfl 0 rfl rfl oX rfl aS (to (sar rfl rfl rfl) (to (sf rfl oX) (to (sst 0 rfl rfl sizeOf3 (Z33 a)) (aB (aC (aA (to (sla 0 (Z33 a) rfl rfl gY) (to (sst 1 rfl rfl sizeOf78 (Z33 a)) (aB ?_))))))))));obtain rfl := sIn h;exact cA ⟨rfl, _, [.box b1 0 (Z33 a), .box b2 0 (Z33 a)], .one (.cell 4 78 rfl (i := 1) rfl gY (es := (Z33 a)) rfl rfl), .refl _, .same _⟩
 ·refine aA (tfl 0 rfl rfl oY rfl aS (to (sar rfl rfl rfl) (to (sf rfl oY) (to (sst 0 rfl rfl sizeOf3 (Z34 a)) (aB (aC (aA (to (sla 0 (Z34 a) rfl rfl gY) (to (sst 1 rfl rfl sizeOf78 (Z34 a)) (aB ?_))))))))));obtain rfl := sIn h;exact cA ⟨rfl, _, [.box b1 0 (Z34 a), .box b2 0 (Z34 a)], .one (.cell 4 78 rfl (i := 1) rfl gY (es := (Z34 a)) rfl rfl), .refl _, .same _⟩

theorem uK (a : bH) {r : Int} (h : sS a = some r) : Fn Tryz.prog 193 [.agg (aN a)] (.i r) := by
 unfold sS at h;refine oT [.tmp 2] func193 results193 ntmps193 ?_;refine aC (aA ?_);refine bB rfl (cO (v := .agg (aN a)) (aF rfl) rfl rfl rfl) ?_;rintro _ ⟨b1, rfl⟩;refine ta (.i 0) (aB (aC (aA (tfl 0 rfl rfl oX rfl aS (tfl 0 rfl rfl oY rfl aS (to (sar rfl rfl rfl) (ta (.i (w64 (a.A + a.B))) (aB ?_))))))));obtain rfl := sIn h;refine bK (bC (bE (l := [2]) ⟨rfl, trivial⟩)) ?_;exact rt

theorem rT (c : bH) (a : Int) (d : Int) {r : Int} (h : pN c a d = some r) : Fn Tryz.prog 197 [.agg (aN c), .i a, .i d] (.i r) := by
 unfold pN at h;refine oT [.tmp 6] func197 results197 ntmps197 ?_;refine aC (aA ?_);refine bB rfl (cO (v := .agg (aN c)) (aF rfl) rfl rfl rfl) ?_;rintro _ ⟨b1, rfl⟩;refine ta (.i 0) (aB (aC (bT (aC (aA (tfl 0 rfl rfl oX rfl aS (tm (.i a) (to (scm rfl rfl rfl) (tm (.b (decide (a ≤ c.A))) ?_)))))))));obtain ⟨b2, h3, h⟩ := bns h;refine aW 8 [1, 2, 3] 20 b2 ?_ ?_
 ·refine bch h3 (fun c9 h3 => ?_) (fun c9 h3 => ?_)
  ·refine tkl 0 c9 rfl rfl oX rfl aS (tkl 0 c9 rfl rfl oY rfl aS (tk c9 (sar rfl rfl rfl) (tk c9 (sm (.i d)) (tk c9 (scm rfl rfl rfl) (to (spt (.b (decide (d ≤ (w64 (c.A - c.B))))) c9) ?_)))));obtain rfl := sIn h3;refine aB (aI rfl ⟨rfl, rfl, rfl, trivial⟩ rfl)
  ·refine tp c9 (tp c9 (tp c9 (tp c9 (tp c9 (tp c9 (tp c9 (to (spf Z6 c9) ?_)))))));obtain rfl := sIn h3;refine aB (aI rfl ⟨rfl, rfl, rfl, trivial⟩ rfl)
 ·refine ta (.b b2) (aB ?_);refine tih h (fun c4 h => ?_) (fun c4 h => ?_)
  ·refine aC (aA (ta (.i 0) (aB ?_)));obtain rfl := sIn h;refine bK (bC (bE (l := [6]) ⟨rfl, trivial⟩)) ?_;exact rt
  ·refine aC (aA (tfl 0 rfl rfl oY rfl aS (tm (.i a) (to (scm rfl rfl rfl) (tm (.b (decide (a ≤ c.B))) ?_)))));obtain ⟨b5, h6, h⟩ := bns h;refine aW 8 [] 34 b5 ?_ ?_
   ·refine bch h6 (fun c8 h6 => ?_) (fun c8 h6 => ?_)
    ·refine tkl 0 c8 rfl rfl oY rfl aS (tkl 0 c8 rfl rfl oX rfl aS (tk c8 (sar rfl rfl rfl) (tk c8 (sm (.i d)) (tk c8 (scm rfl rfl rfl) (to (spt (.b (decide (d ≤ (w64 (c.B - c.A))))) c8) ?_)))));obtain rfl := sIn h6;refine aB (aI rfl trivial rfl)
    ·refine tp c8 (tp c8 (tp c8 (tp c8 (tp c8 (tp c8 (tp c8 (to (spf Z6 c8) ?_)))))));obtain rfl := sIn h6;refine aB (aI rfl trivial rfl)
   ·refine ta (.b b5) (aB ?_);refine tih h (fun c7 h => ?_) (fun c7 h => ?_)
    ·refine aC (aA (ta (.i 1) (aB ?_)));obtain rfl := sIn h;refine bK (bC (bE (l := [6]) ⟨rfl, trivial⟩)) ?_;exact rt
    ·refine dB ?_;refine aC (aA (ta (.i (-1)) (aB ?_)));obtain rfl := sIn h;refine bK (bC (bE (l := [6]) ⟨rfl, trivial⟩)) ?_;exact rt

theorem aCf (d : gI) (e : gA) (c : Bool) (a : bH) {r : Int} (h : sF d e c a = some r) : Fn Tryz.prog 194 [.agg (cQ d), .agg (cB e), .b c, .agg (aN a)] (.i r) := by
 unfold sF at h;refine oT [.tmp 8] func194 results194 ntmps194 ?_;refine aC (aA ?_);refine bB rfl (cO (v := .agg (cQ d)) (aF rfl) rfl rfl rfl) ?_;rintro _ ⟨b1, rfl⟩;refine bB rfl (cO (v := .agg (cB e)) (aF rfl) rfl rfl rfl) ?_;rintro _ ⟨b2, rfl⟩;refine bB rfl (cO (v := .agg (aN a)) (aF rfl) rfl rfl rfl) ?_;rintro _ ⟨b3, rfl⟩;refine ta (.i 0) (aB (aC (bT (aC (aA (tm (.b c) (ta (.b c) (aB ?_))))))));refine tih h (fun c4 h => ?_) (fun c4 h => ?_)
 ·refine aC (aA (to (sla 2 (aN a) rfl rfl gY) (tfl 1 rfl rfl aOu rfl aS ?_)));obtain ⟨r5, h6, h⟩ := bns h;refine to (scr call197 (rT _ _ _ h6)) (ta (.i r5) (aB ?_));obtain rfl := sIn h;refine bK (bC (bE (l := [8]) ⟨rfl, trivial⟩)) ?_;exact rt
 ·refine aC (aA (to (sf rfl gR) (tfl 0 rfl rfl aQt rfl oZ (ta (.b d.Format.NoAd) (aB ?_)))));refine tih h (fun c7 h => ?_) (fun c7 h => ?_)
  ·refine aC (aA (to (sla 2 (aN a) rfl rfl gY) ?_));obtain ⟨r8, h9, h⟩ := bns h;refine to (scr call197 (rT _ _ _ h9)) (ta (.i r8) (aB ?_));obtain rfl := sIn h;refine bK (bC (bE (l := [8]) ⟨rfl, trivial⟩)) ?_;exact rt
  ·refine dB ?_;refine aC (aA (to (sla 2 (aN a) rfl rfl gY) ?_));obtain ⟨f, g, h⟩ := bns h;refine to (scr call197 (rT _ _ _ g)) (ta (.i f) (aB ?_));obtain rfl := sIn h;refine bK (bC (bE (l := [8]) ⟨rfl, trivial⟩)) ?_;exact rt

theorem aAz (a : bL) (O : Int) {r : bL} {e g : Nat} {c : Value} {j : Value} {l : Value} (h : rE a O = some r) : dN Tryz.prog 145 [.bp e g 0, .i O] (Z7 e g a c j l) (fun r' o' => ∃ (Q : Value) (w4 : Value) (w5 : Value), r' = .tup [] ∧ o' = [.box e g [.j r.rules.Format.Sets, .j r.rules.Format.Games, .k r.rules.Format.NoAd, .j r.rules.Format.Tie, .j r.rules.Format.To, .j r.rules.Format.LastTie, .j r.rules.Format.LastTo, .j r.rules.Format.First, .j r.rules.Format.Then, .k r.rules.Format.Doubles, .lit Q, .j r.Score.Board.Games.A, .j r.Score.Board.Games.B, .j r.Score.Board.Points.A, .j r.Score.Board.Points.B, .j r.Score.Server, .j r.Score.Ends, .j r.Score.Balls, .j r.Score.Winner, .j r.first, .j r.won.A, .j r.won.B, .lit w4, .lit w5], .arr Q 78 2 (Z9 r), .arr w4 4 1 (Z25 r), .arr w5 228 7 (Z40 r)]) := by
 unfold rE at h;refine rG func145 rfl (rs := []) results145 ntmps145 (Nat.le_of_ble_eq_true rfl) ?_;refine aC ?_;obtain ⟨r2, h3, h⟩ := bns h;obtain ⟨r4, h5, h⟩ := bns h;refine fZ mix 12 [0, 1] (fun X1 => [(4, .bp (X1 11).b 0 0), (18, .agg (cB r2)), (20, .i r4)]) (fun X1 => [.box e g [.j a.rules.Format.Sets, .j a.rules.Format.Games, .k a.rules.Format.NoAd, .j a.rules.Format.Tie, .j a.rules.Format.To, .j a.rules.Format.LastTie, .j a.rules.Format.LastTo, .j a.rules.Format.First, .j a.rules.Format.Then, .k a.rules.Format.Doubles, .lit c, .j a.Score.Board.Games.A, .j a.Score.Board.Games.B, .j a.Score.Board.Points.A, .j a.Score.Board.Points.B, .j a.Score.Server, .j a.Score.Ends, .j a.Score.Balls, .j a.Score.Winner, .j a.first, .j a.won.A, .j a.won.B, .lit j, .lit l], .arr c 78 2 (Z9 a), .arr j 4 1 (Z25 a), .arr l 228 7 (Z40 a), .box (X1 11).b 0 (cB (gA.mk 0 0))]) ?_ ?_
 ·refine ⟨1, fun X1 => [(10, 0, .bp e g 0), (11, 1, .bp e g 0), (12, 2, .bp e g 0), (13, 3, .agg (cQ a.rules)), (14, 4, .bp e g 0), (15, 5, .bp e g 0), (16, 6, .bp e g 20), (17, 7, .agg (aN a.won)), (18, 8, .agg (cB r2)), (19, 9, .bp e g 0), (20, 10, .i r4), (4, 11, .bp (X1 11).b 0 0)], fun X1 => [([], .box e g [.j a.rules.Format.Sets, .j a.rules.Format.Games, .k a.rules.Format.NoAd, .j a.rules.Format.Tie, .j a.rules.Format.To, .j a.rules.Format.LastTie, .j a.rules.Format.LastTo, .j a.rules.Format.First, .j a.rules.Format.Then, .k a.rules.Format.Doubles, .lit c, .j a.Score.Board.Games.A, .j a.Score.Board.Games.B, .j a.Score.Board.Points.A, .j a.Score.Board.Points.B, .j a.Score.Server, .j a.Score.Ends, .j a.Score.Balls, .j a.Score.Winner, .j a.first, .j a.won.A, .j a.won.B, .lit j, .lit l]), ([], .arr c 78 2 (Z9 a)), ([], .arr j 4 1 (Z25 a)), ([], .arr l 228 7 (Z40 a)), ([(11, .box (X1 11).b 0 (cB (gA.mk 0 0)))], nob)], ?_, ?_⟩
  · exact xok [(0, 0), (1, 0), (2, 0), (3, 0), (0, 0), (5, 0), (6, 0), (7, 0), (408, 0), (0, 0), (10, 0), (0, 0)] ⟨fun _ _ w _ k => xp w (ym k (Z61 e g)),
 fun _ _ w _ k => xp w (bJ (aF rfl) (aV k rfl)),
 fun _ _ w _ k => xp w (yf k rfl nI),
 fun _ _ w _ k => xp w (yla k 0 (cQ a.rules) rfl (og k rfl rfl) vY),
 fun _ _ w _ k => xp w (ym k (Z61 e g)),
 fun _ _ w _ k => xp w (bJ (aF rfl) (aV k rfl)),
 fun _ _ w _ k => xp w (yf k rfl sO),
 fun _ _ w _ k => xp w (yla k 0 (aN a.won) rfl (og k rfl rfl) gY),
 fun _ _ w _ k => xp w (eM (aF rfl) (.func _ _ call190) (ev2 (aV k rfl) (ev2 (aV k rfl) evn)) rfl (vI _ _ h3)),
 fun _ _ w _ k => xp w (ym k (Z61 e g)),
 fun _ _ w _ k => xp w (dC (aF rfl) (.func _ _ call191) (ev2 (aV k rfl) evn) rfl (.cons (iE 0 (og k rfl rfl) rfl (dvc (.same _) (dvc (.same _) (dvc (.same _) (dvc (.same _) (dvc (.same _) (dvc (.same _) (dvc (.same _) (dvc (.same _) (dvc (.same _) (dvc (.same _) (dvc (cJ 1 (og k rfl rfl) (bR (f := aN) fun _ => rfl)) (dvc (.same _) (dvc (.same _) (dvc (.same _) (dvc (.same _) (dvc (.same _) (dvc (.same _) (dvc (.same _) (dvc (.same _) (dvc (.same _) (dvc (.same _) (dvc (.same _) (dvc (cJ 2 (og k rfl rfl) (bR (f := cL) fun _ => rfl)) (dvc (cJ 3 (og k rfl rfl) (bR (f := bD) fun _ => rfl)) dvn))))))))))))))))))))))))) .nil) (pA _ h5) rfl),
 fun X1 S hw hi hS => oG (X := X1) (p := 4) (v := fun x => .bp x.b 0 0) (mo := fun x => .box x.b 0 (cB (gA.mk 0 0))) hS hi rfl rfl (fun _ => rfl) hw (fun _ => rfl) (fun _ => rfl) (fun _ => rfl) (fun _ => ⟨rfl, rfl, .inr rfl, ⟨rfl, rfl, .inr rfl, ⟨rfl, rfl, .inr rfl, ⟨rfl, rfl, .inr rfl, ⟨rfl, rfl, .inr rfl, ⟨rfl, rfl, .inr rfl, ⟨rfl, rfl, .inr rfl, ⟨rfl, rfl, .inr rfl, ⟨rfl, rfl, .inr rfl, ⟨rfl, rfl, .inr rfl, ⟨rfl, rfl, .inr rfl, ⟨rfl, rfl, .inl rfl, trivial⟩⟩⟩⟩⟩⟩⟩⟩⟩⟩⟩⟩) (fun _ => ⟨trivial, rfl, ⟨trivial, rfl, ⟨trivial, rfl, ⟨trivial, rfl, ⟨⟨rfl, .inl rfl, trivial⟩, rfl, trivial⟩⟩⟩⟩⟩) (gV (cD (zs := [.j 0, .j 0]) (aF rfl) zeroValue283 rfl rfl) (by rintro _ ⟨w, rfl⟩; exact ⟨⟨w, undef⟩, aT [0, 1, 2, 3, 5] rfl rfl (le_refl _)⟩)), trivial⟩
  · exact fun X1 => bZ (aM rfl (aM rfl (aM rfl (aR ⟨rfl, rfl, trivial⟩))))
 ·intro X1;refine to (sst 4 rfl rfl sizeOf283 (cB r2)) (ta (.i r4) (aB (aC (aA (tm (Z61 e g) (to (bJ (aF rfl) rfl) ?_))))));refine tfl 0 rfl rfl qK rfl wC (tm (.i r4) ?_);obtain ⟨x6, h7, h⟩ := bns h;refine to (mC (m := 2) (aF rfl) rfl rfl rfl wX.of (bU cL h7)) ?_;refine to (oI (aF rfl) rfl (m := 2) rfl (qQ cL h7) rfl oZ) ?_;refine ta (.b x6) (aB (aC (aA (tm (Z61 e g) (tm (Z61 e g) (to (bJ (aF rfl) rfl) ?_))))));refine to (sf rfl cH) (to (sf rfl kP) (to (sf rfl uE) (to (sla 0 (aN a.Score.Board.Points) rfl rfl gY) (tm (.i O) ?_))));obtain ⟨r8, h9, h⟩ := bns h;refine to (eM (aF rfl) (.func _ _ call192) rfl rfl (yK _ _ h9)) ?_;refine to (bJ (aF rfl) rfl) ?_;refine to (sf rfl cH) (to (sf rfl kP) (to (sf rfl uE) (to (sst 0 rfl rfl sizeOf78 [.j a.rules.Format.Sets, .j a.rules.Format.Games, .k a.rules.Format.NoAd, .j a.rules.Format.Tie, .j a.rules.Format.To, .j a.rules.Format.LastTie, .j a.rules.Format.LastTo, .j a.rules.Format.First, .j a.rules.Format.Then, .k a.rules.Format.Doubles, .lit c, .j a.Score.Board.Games.A, .j a.Score.Board.Games.B, .j r8.A, .j r8.B, .j a.Score.Server, .j a.Score.Ends, .j a.Score.Balls, .j a.Score.Winner, .j a.first, .j a.won.A, .j a.won.B, .lit j, .lit l]) (aB (aC (aA (tm (Z61 e g) (to (bJ (aF rfl) rfl) ?_))))))));refine to (sf rfl cH) (to (sf rfl kP) (to (sf rfl uE) (to (sla 0 (aN r8) rfl rfl gY) ?_)));obtain ⟨T, c2, h⟩ := bns h;refine to (scr call193 (uK _ c2)) (ta (.i T) (aB (aC ?_)));refine dJ mix 12 [0, 6, 7] [(51, .agg (cQ a.rules)), (52, .agg (cB r2)), (53, .b x6), (59, .agg (aN r8))] ?_ ?_
  ·refine ⟨[(48, 0, .bp e g 0), (49, 1, .bp e g 0), (50, 2, .bp e g 0), (51, 3, .agg (cQ a.rules)), (52, 4, .agg (cB r2)), (53, 5, .b x6), (54, 6, .bp e g 0), (55, 7, .bp e g 0), (56, 8, .bp e g 10), (57, 9, .bp e g 10), (58, 10, .bp e g 13), (59, 11, .agg (aN r8))], ?_, ?_⟩
   · exact dk [0, 1, 2, 3, 0, 0, 0, 7, 8, 9, 10, 11] ⟨go (zm (Z61 e g)),
 go fun S hS => bJ (aF rfl) (aV hS rfl),
 go (zf rfl nI),
 go (zla 0 (cQ a.rules) rfl rfl vY),
 go (zla 4 (cB r2) rfl rfl aGq),
 go (zm (.b x6)),
 go (zm (Z61 e g)),
 go fun S hS => bJ (aF rfl) (aV hS rfl),
 go (zf rfl cH),
 go (zf rfl kP),
 go (zf rfl uE),
 go (zla 0 (aN r8) rfl rfl gY), trivial⟩
   · exact bZ (aM rfl (aM rfl (aM rfl (aM rfl (aR ⟨rfl, rfl, rfl, trivial⟩)))))
  ·obtain ⟨G, c3, h⟩ := bns h;refine to (scr call194 (aCf _ _ _ _ c3)) (ta (.i G) (aB (aC (aC (aA (tm (.i G) (to (scm rfl rfl rfl) (aB ?_))))))));refine tih h (fun c4 h => ?_) (fun c4 h => ?_)
   ·refine aC (aC (aA (tm (.b x6) (tm (.b x6) ?_))));obtain ⟨c5, U, h⟩ := bns h;refine aW 4 [0, 7] 68 c5 ?_ ?_
    ·refine bch U (fun M U => ?_) (fun M U => ?_)
     ·refine tk M (sm (.i T)) (tk M (nU (aF rfl) rfl rfl (by decide)) ?_);refine tk M (scm rfl rfl rfl) (to (spt (.b (decide ((T.tmod 6) = 0))) M) ?_);obtain rfl := sIn U;refine aB (aI rfl ⟨rfl, rfl, trivial⟩ rfl)
     ·refine tp M (tp M (tp M (to (spf Z6 M) ?_)));obtain rfl := sIn U;refine aB (aI rfl ⟨rfl, rfl, trivial⟩ rfl)
    ·refine aB ?_;refine tih h (fun c6 h => ?_) (fun c6 h => ?_)
     ·refine aA (tm (Z61 e g) (to (bJ (aF rfl) rfl) ?_));refine to (sf rfl cH) (tfl 0 rfl rfl qN rfl aS (to (sar rfl rfl rfl) (to (bJ (aF rfl) rfl) ?_)));refine to (sf rfl cH) (to (sf rfl qN) (to (sst 0 rfl rfl sizeOf3 [.j a.rules.Format.Sets, .j a.rules.Format.Games, .k a.rules.Format.NoAd, .j a.rules.Format.Tie, .j a.rules.Format.To, .j a.rules.Format.LastTie, .j a.rules.Format.LastTo, .j a.rules.Format.First, .j a.rules.Format.Then, .k a.rules.Format.Doubles, .lit c, .j a.Score.Board.Games.A, .j a.Score.Board.Games.B, .j r8.A, .j r8.B, .j a.Score.Server, .j (Z21 a), .j a.Score.Balls, .j a.Score.Winner, .j a.first, .j a.won.A, .j a.won.B, .lit j, .lit l]) (aB (aC (aA (tm (Z61 e g) (tm (Z61 e g) (tm (.i T) ?_))))))));obtain ⟨c0, c7, h⟩ := bns h;refine to (sc call195 (jR _ _ c7) (.cons (iE 0 rfl rfl (dvc (.same _) (dvc (.same _) (dvc (.same _) (dvc (.same _) (dvc (.same _) (dvc (.same _) (dvc (.same _) (dvc (.same _) (dvc (.same _) (dvc (.same _) (dvc (cJ 1 rfl (bR (f := aN) fun _ => rfl)) (dvc (.same _) (dvc (.same _) (dvc (.same _) (dvc (.same _) (dvc (.same _) (dvc (.same _) (dvc (.same _) (dvc (.same _) (dvc (.same _) (dvc (.same _) (dvc (.same _) (dvc (cJ 2 rfl (bR (f := cL) fun _ => rfl)) (dvc (cJ 3 rfl (bR (f := bD) fun _ => rfl)) dvn))))))))))))))))))))))))) (.cons (.same _) .nil))) (to (bJ (aF rfl) rfl) ?_);refine to (sf rfl cH) (to (sf rfl wN) (to (sst 0 rfl rfl sizeOf3 [.j a.rules.Format.Sets, .j a.rules.Format.Games, .k a.rules.Format.NoAd, .j a.rules.Format.Tie, .j a.rules.Format.To, .j a.rules.Format.LastTie, .j a.rules.Format.LastTo, .j a.rules.Format.First, .j a.rules.Format.Then, .k a.rules.Format.Doubles, .lit c, .j a.Score.Board.Games.A, .j a.Score.Board.Games.B, .j r8.A, .j r8.B, .j c0, .j (Z21 a), .j a.Score.Balls, .j a.Score.Winner, .j a.first, .j a.won.A, .j a.won.B, .lit j, .lit l]) (aB ?_)));obtain rfl := sIn h;exact cA ⟨rfl, _, [.box e g [.j a.rules.Format.Sets, .j a.rules.Format.Games, .k a.rules.Format.NoAd, .j a.rules.Format.Tie, .j a.rules.Format.To, .j a.rules.Format.LastTie, .j a.rules.Format.LastTo, .j a.rules.Format.First, .j a.rules.Format.Then, .k a.rules.Format.Doubles, .lit c, .j a.Score.Board.Games.A, .j a.Score.Board.Games.B, .j r8.A, .j r8.B, .j c0, .j (Z21 a), .j a.Score.Balls, .j a.Score.Winner, .j a.first, .j a.won.A, .j a.won.B, .lit j, .lit l], .arr c 78 2 (Z9 a), .arr j 4 1 (Z25 a), .arr l 228 7 (Z40 a)], [.box (X1 11).b 0 (cB r2)], _, .none, .refl _, .same _, c, j, l, rfl, rfl⟩
     ·refine aY (aC (aA (tm (Z61 e g) (tm (Z61 e g) (tm (.i T) ?_)))));obtain ⟨c1, c8, h⟩ := bns h;refine to (sc call195 (jR _ _ c8) (.cons (iE 0 rfl rfl (dvc (.same _) (dvc (.same _) (dvc (.same _) (dvc (.same _) (dvc (.same _) (dvc (.same _) (dvc (.same _) (dvc (.same _) (dvc (.same _) (dvc (.same _) (dvc (cJ 1 rfl (bR (f := aN) fun _ => rfl)) (dvc (.same _) (dvc (.same _) (dvc (.same _) (dvc (.same _) (dvc (.same _) (dvc (.same _) (dvc (.same _) (dvc (.same _) (dvc (.same _) (dvc (.same _) (dvc (.same _) (dvc (cJ 2 rfl (bR (f := cL) fun _ => rfl)) (dvc (cJ 3 rfl (bR (f := bD) fun _ => rfl)) dvn))))))))))))))))))))))))) (.cons (.same _) .nil))) (to (bJ (aF rfl) rfl) ?_);refine to (sf rfl cH) (to (sf rfl wN) (to (sst 0 rfl rfl sizeOf3 [.j a.rules.Format.Sets, .j a.rules.Format.Games, .k a.rules.Format.NoAd, .j a.rules.Format.Tie, .j a.rules.Format.To, .j a.rules.Format.LastTie, .j a.rules.Format.LastTo, .j a.rules.Format.First, .j a.rules.Format.Then, .k a.rules.Format.Doubles, .lit c, .j a.Score.Board.Games.A, .j a.Score.Board.Games.B, .j r8.A, .j r8.B, .j c1, .j a.Score.Ends, .j a.Score.Balls, .j a.Score.Winner, .j a.first, .j a.won.A, .j a.won.B, .lit j, .lit l]) (aB ?_)));obtain rfl := sIn h;exact cA ⟨rfl, _, [.box e g [.j a.rules.Format.Sets, .j a.rules.Format.Games, .k a.rules.Format.NoAd, .j a.rules.Format.Tie, .j a.rules.Format.To, .j a.rules.Format.LastTie, .j a.rules.Format.LastTo, .j a.rules.Format.First, .j a.rules.Format.Then, .k a.rules.Format.Doubles, .lit c, .j a.Score.Board.Games.A, .j a.Score.Board.Games.B, .j r8.A, .j r8.B, .j c1, .j a.Score.Ends, .j a.Score.Balls, .j a.Score.Winner, .j a.first, .j a.won.A, .j a.won.B, .lit j, .lit l], .arr c 78 2 (Z9 a), .arr j 4 1 (Z25 a), .arr l 228 7 (Z40 a)], [.box (X1 11).b 0 (cB r2)], _, .none, .refl _, .same _, c, j, l, rfl, rfl⟩
   ·refine aY (aC ?_);obtain ⟨V, c9, h⟩ := bns h;obtain ⟨W, d0, h⟩ := bns h;obtain ⟨H, d1, h⟩ := bns h;refine fZ mix 27 [0, 6, 8] (fun n => [(85, .bp e g 0), (111, .d (.lit (n 26).v))]) (fun n => [.box e g [.j a.rules.Format.Sets, .j a.rules.Format.Games, .k a.rules.Format.NoAd, .j a.rules.Format.Tie, .j a.rules.Format.To, .j a.rules.Format.LastTie, .j a.rules.Format.LastTo, .j a.rules.Format.First, .j a.rules.Format.Then, .k a.rules.Format.Doubles, .lit c, .j a.Score.Board.Games.A, .j a.Score.Board.Games.B, .j r8.A, .j r8.B, .j a.Score.Server, .j a.Score.Ends, .j a.Score.Balls, .j a.Score.Winner, .j a.first, .j a.won.A, .j a.won.B, .lit j, .lit l], .arr c 78 2 (Z9 a), .arr j 4 1 (Z25 a), .arr (n 26).v 228 7 (H.map bD), .box (X1 11).b 0 (cB r2)]) ?_ ?_
    ·refine ⟨0, fun n => [(85, 0, .bp e g 0), (86, 1, .bp e g 0), (87, 2, .bp e g 0), (88, 3, .bp e g 23), (89, 4, .d (.lit l)), (90, 5, .bp e g 0), (91, 6, .bp e g 0), (92, 7, .bp e g 10), (93, 8, .bp e g 10), (94, 9, .bp e g 10), (95, 10, .d (.lit c)), (96, 11, .i (a.Score.Board.Sets.length : Int)), (97, 12, .b x6), (98, 13, .bp e g 0), (99, 14, .i V), (100, 15, .i G), (101, 16, .bp e g 0), (102, 17, .bp e g 0), (103, 18, .bp e g 10), (104, 19, .bp e g 10), (105, 20, .bp e g 13), (106, 21, .agg (aN r8)), (107, 22, .bp e g 0), (108, 23, .b W), (109, 24, .agg (bD (mV.mk (a.Score.Board.Sets.length : Int) x6 V G r8 W))), (110, 25, .d (.sl 7 ((([(mV.mk (a.Score.Board.Sets.length : Int) x6 V G r8 W)])).map bD))), (111, 26, .d (.lit (n 26).v))], fun n => [([], .box e g [.j a.rules.Format.Sets, .j a.rules.Format.Games, .k a.rules.Format.NoAd, .j a.rules.Format.Tie, .j a.rules.Format.To, .j a.rules.Format.LastTie, .j a.rules.Format.LastTo, .j a.rules.Format.First, .j a.rules.Format.Then, .k a.rules.Format.Doubles, .lit c, .j a.Score.Board.Games.A, .j a.Score.Board.Games.B, .j r8.A, .j r8.B, .j a.Score.Server, .j a.Score.Ends, .j a.Score.Balls, .j a.Score.Winner, .j a.first, .j a.won.A, .j a.won.B, .lit j, .lit l]), ([], .arr c 78 2 (Z9 a)), ([], .arr j 4 1 (Z25 a)), ([(26, .arr (n 26).v 228 7 (H.map bD))], .arr l 228 7 (Z40 a)), ([], .box (X1 11).b 0 (cB r2))], ?_, ?_⟩
     · exact xok [(0, 0), (0, 27), (2, 27), (3, 27), (4, 27), (0, 27), (6, 27), (7, 27), (8, 27), (9, 27), (10, 27), (11, 27), (0, 27), (0, 27), (14, 27), (0, 27), (0, 27), (17, 27), (18, 27), (19, 27), (20, 27), (21, 27), (0, 27), (23, 27), (121315162224, 27), (25, 27), (526, 0)] ⟨fun _ _ w _ k => xp w (ym k (Z61 e g)),
 fun _ _ w _ k => xp w (ym k (Z61 e g)),
 fun _ _ w _ k => xp w (bJ (aF rfl) (aV k rfl)),
 fun _ _ w _ k => xp w (yf k rfl aHu),
 fun _ _ w _ k => xp w (yl k 0 rfl (og k rfl rfl) rfl aUc),
 fun _ _ w _ k => xp w (ym k (Z61 e g)),
 fun _ _ w _ k => xp w (bJ (aF rfl) (aV k rfl)),
 fun _ _ w _ k => xp w (yf k rfl cH),
 fun _ _ w _ k => xp w (yf k rfl kP),
 fun _ _ w _ k => xp w (yf k rfl aEi),
 fun _ _ w _ k => xp w (yl k 0 rfl (og k rfl rfl) rfl aPg),
 fun _ _ w _ k => xp w (qZ (m := 1) (aF rfl) (aV k rfl) (og k rfl rfl) aOb.of),
 fun _ _ w _ k => xp w (ym k (.b x6)),
 fun _ _ w _ k => xp w (ym k (Z61 e g)),
 fun _ _ w _ k => xp w (dC (aF rfl) (.func _ _ call195) (ev2 (aV k rfl) (ev2 rfl evn)) rfl (.cons (iE 0 (og k rfl rfl) rfl (dvc (.same _) (dvc (.same _) (dvc (.same _) (dvc (.same _) (dvc (.same _) (dvc (.same _) (dvc (.same _) (dvc (.same _) (dvc (.same _) (dvc (.same _) (dvc (cJ 1 (og k rfl rfl) (bR (f := aN) fun _ => rfl)) (dvc (.same _) (dvc (.same _) (dvc (.same _) (dvc (.same _) (dvc (.same _) (dvc (.same _) (dvc (.same _) (dvc (.same _) (dvc (.same _) (dvc (.same _) (dvc (.same _) (dvc (cJ 2 (og k rfl rfl) (bR (f := cL) fun _ => rfl)) (dvc (cJ 3 (og k rfl rfl) (bR (f := bD) fun _ => rfl)) dvn))))))))))))))))))))))))) (.cons (.same _) .nil)) (jR _ _ c9) rfl),
 fun _ _ w _ k => xp w (ym k (.i G)),
 fun _ _ w _ k => xp w (ym k (Z61 e g)),
 fun _ _ w _ k => xp w (bJ (aF rfl) (aV k rfl)),
 fun _ _ w _ k => xp w (yf k rfl cH),
 fun _ _ w _ k => xp w (yf k rfl kP),
 fun _ _ w _ k => xp w (yf k rfl uE),
 fun _ _ w _ k => xp w (yla k 0 (aN r8) rfl (og k rfl rfl) gY),
 fun _ _ w _ k => xp w (ym k (Z61 e g)),
 fun _ _ w _ k => xp w (dC (aF rfl) (.func _ _ call196) (ev2 (aV k rfl) evn) rfl (.cons (iE 0 (og k rfl rfl) rfl (dvc (.same _) (dvc (.same _) (dvc (.same _) (dvc (.same _) (dvc (.same _) (dvc (.same _) (dvc (.same _) (dvc (.same _) (dvc (.same _) (dvc (.same _) (dvc (cJ 1 (og k rfl rfl) (bR (f := aN) fun _ => rfl)) (dvc (.same _) (dvc (.same _) (dvc (.same _) (dvc (.same _) (dvc (.same _) (dvc (.same _) (dvc (.same _) (dvc (.same _) (dvc (.same _) (dvc (.same _) (dvc (.same _) (dvc (cJ 2 (og k rfl rfl) (bR (f := cL) fun _ => rfl)) (dvc (cJ 3 (og k rfl rfl) (bR (f := bD) fun _ => rfl)) dvn))))))))))))))))))))))))) .nil) (tZ _ d0) rfl),
 fun _ _ w _ k => xp w (dG (aF rfl) aTk (zs := [.j 0, .k false, .j 0, .j 0, .j 0, .j 0, .k false]) rfl rfl rfl (pa2 (aV k rfl) (pa2 (aV k rfl) (pa2 (aV k rfl) (pa2 (aV k rfl) (pa2 (aV k rfl) (pa2 (aV k rfl) pan)))))) (es := [.j (a.Score.Board.Sets.length : Int), .k x6, .j V, .j G, .j r8.A, .j r8.B, .k W]) rfl),
 fun _ _ w _ k => xp w (fH (aF rfl) aSg rfl (pa2 (aV k rfl) pan) (rows := ([(mV.mk (a.Score.Board.Sets.length : Int) x6 V G r8 W)]).map bD) rfl (bR (f := bD) fun _ => rfl) rfl (by decide)),
 fun n S hw hi hS => oG (X := n) (p := 3) (v := fun x => .d (.lit x.v)) (mo := fun x => .arr x.v 228 7 (H.map bD)) hS hi rfl rfl (fun _ => rfl) hw (fun _ => rfl) (fun _ => rfl) (fun _ => rfl) (fun _ => ⟨rfl, rfl, .inr rfl, ⟨rfl, rfl, .inr rfl, ⟨rfl, rfl, .inr rfl, ⟨rfl, rfl, .inr rfl, ⟨rfl, rfl, .inr rfl, ⟨rfl, rfl, .inr rfl, ⟨rfl, rfl, .inr rfl, ⟨rfl, rfl, .inr rfl, ⟨rfl, rfl, .inr rfl, ⟨rfl, rfl, .inr rfl, ⟨rfl, rfl, .inr rfl, ⟨rfl, rfl, .inr rfl, ⟨rfl, rfl, .inr rfl, ⟨rfl, rfl, .inr rfl, ⟨rfl, rfl, .inr rfl, ⟨rfl, rfl, .inr rfl, ⟨rfl, rfl, .inr rfl, ⟨rfl, rfl, .inr rfl, ⟨rfl, rfl, .inr rfl, ⟨rfl, rfl, .inr rfl, ⟨rfl, rfl, .inr rfl, ⟨rfl, rfl, .inr rfl, ⟨rfl, rfl, .inr rfl, ⟨rfl, rfl, .inr rfl, ⟨rfl, rfl, .inr rfl, ⟨rfl, rfl, .inr rfl, ⟨rfl, rfl, .inl rfl, trivial⟩⟩⟩⟩⟩⟩⟩⟩⟩⟩⟩⟩⟩⟩⟩⟩⟩⟩⟩⟩⟩⟩⟩⟩⟩⟩⟩) (fun _ => ⟨trivial, rfl, ⟨trivial, rfl, ⟨trivial, rfl, ⟨⟨rfl, .inl rfl, trivial⟩, rfl, ⟨trivial, rfl, trivial⟩⟩⟩⟩⟩) (gV (iG (i := 3) (aF rfl) aSg (aV hS rfl) (og hS rfl rfl) (aV hS rfl) (fun _ => rfl) d1 rfl) (by rintro _ ⟨w, rfl⟩; exact ⟨⟨0, w⟩, Ent.refl _⟩)), trivial⟩
     · exact fun n => bZ (aM rfl (aM rfl (aR ⟨rfl, rfl, rfl, trivial⟩)))
    ·intro n;refine to (bJ (aF rfl) rfl) ?_;refine to (sf rfl aHu) (to (sst 0 rfl rfl sizeOf83 [.j a.rules.Format.Sets, .j a.rules.Format.Games, .k a.rules.Format.NoAd, .j a.rules.Format.Tie, .j a.rules.Format.To, .j a.rules.Format.LastTie, .j a.rules.Format.LastTo, .j a.rules.Format.First, .j a.rules.Format.Then, .k a.rules.Format.Doubles, .lit c, .j a.Score.Board.Games.A, .j a.Score.Board.Games.B, .j r8.A, .j r8.B, .j a.Score.Server, .j a.Score.Ends, .j a.Score.Balls, .j a.Score.Winner, .j a.first, .j a.won.A, .j a.won.B, .lit j, .lit (n 26).v]) (aB (aC (aA (tm (Z61 e g) (to (dG (aF rfl) aPy (zs := [.j 0, .j 0]) rfl rfl rfl rfl (es := [.j 0, .j 0]) rfl) ?_))))));refine to (bJ (aF rfl) rfl) ?_;refine to (sf rfl cH) (to (sf rfl kP) (to (sf rfl uE) (to (sst 0 rfl rfl sizeOf78 [.j a.rules.Format.Sets, .j a.rules.Format.Games, .k a.rules.Format.NoAd, .j a.rules.Format.Tie, .j a.rules.Format.To, .j a.rules.Format.LastTie, .j a.rules.Format.LastTo, .j a.rules.Format.First, .j a.rules.Format.Then, .k a.rules.Format.Doubles, .lit c, .j a.Score.Board.Games.A, .j a.Score.Board.Games.B, .j 0, .j 0, .j a.Score.Server, .j a.Score.Ends, .j a.Score.Balls, .j a.Score.Winner, .j a.first, .j a.won.A, .j a.won.B, .lit j, .lit (n 26).v]) (aB (aC (aA (tm (Z61 e g) (to (bJ (aF rfl) rfl) ?_))))))));refine to (sf rfl cH) (to (sf rfl kP) (to (sf rfl zP) (to (sla 0 (aN a.Score.Board.Games) rfl rfl gY) (tm (.i G) ?_))));obtain ⟨o, d2, h⟩ := bns h;refine to (eM (aF rfl) (.func _ _ call192) rfl rfl (yK _ _ d2)) ?_;refine bB rfl (cD (zs := [.j 0, .j 0]) (aF rfl) zeroValue78 rfl rfl) ?_;rintro _ ⟨N, rfl⟩;refine to (sst 5 rfl rfl sizeOf78 (aN o)) (aB (aC (aA (tm (Z61 e g) (to (sla 5 (aN o) rfl rfl gY) (to (bJ (aF rfl) rfl) ?_))))));refine to (sf rfl cH) (to (sf rfl kP) (to (sf rfl zP) (to (sst 0 rfl rfl sizeOf78 [.j a.rules.Format.Sets, .j a.rules.Format.Games, .k a.rules.Format.NoAd, .j a.rules.Format.Tie, .j a.rules.Format.To, .j a.rules.Format.LastTie, .j a.rules.Format.LastTo, .j a.rules.Format.First, .j a.rules.Format.Then, .k a.rules.Format.Doubles, .lit c, .j o.A, .j o.B, .j 0, .j 0, .j a.Score.Server, .j a.Score.Ends, .j a.Score.Balls, .j a.Score.Winner, .j a.first, .j a.won.A, .j a.won.B, .lit j, .lit (n 26).v]) (aB (aC (aC ?_))))));obtain ⟨d3, P, h⟩ := bns h;refine dJ mix 12 [0, 8, 9] [(145, .b d3)] ?_ ?_
     ·refine bch P (fun F P => ?_) (fun F P => ?_)
      ·obtain rfl := sIn P;refine ⟨[(134, 0, .b x6), (135, 1, .b x6), (136, 2, .tup []), (137, 3, .tup []), (138, 4, .tup []), (139, 5, .tup []), (140, 6, .tup []), (141, 7, .tup []), (142, 8, .tup []), (143, 9, .tup []), (144, 10, .tup []), (145, 11, .b true)], ?_, ?_⟩
       · exact dk [0, 1, 2, 2, 204, 205, 206, 207, 208, 20309, 210, 211] ⟨go (zm (.b x6)),
 go (zm (.b x6)),
 gp F,
 gp F,
 gp F,
 gp F,
 gp F,
 gp F,
 gp F,
 gp F,
 gp F,
 go (zpt Z17 F), trivial⟩
       · exact bZ (aM rfl (aR ⟨rfl, rfl, rfl, trivial⟩))
      ·obtain ⟨a1, d4, P⟩ := bns P;obtain rfl := sIn P;refine ⟨[(134, 0, .b x6), (135, 1, .b x6), (136, 2, .agg (aN o)), (137, 3, .bp e g 0), (138, 4, .bp e g 0), (139, 5, .bp e g 0), (140, 6, .bp e g 0), (141, 7, .bp e g 1), (142, 8, .i a.rules.Format.Games), (143, 9, .i a1), (144, 10, .b (decide (0 ≤ a1))), (145, 11, .b (decide (0 ≤ a1)))], ?_, ?_⟩
       · exact dk [0, 1, 2, 2, 204, 205, 206, 207, 208, 20309, 210, 211] ⟨go (zm (.b x6)),
 go (zm (.b x6)),
 gt F (zla 5 (aN o) rfl rfl gY),
 gt F (zm (Z61 e g)),
 gt F fun S hS => bJ (aF rfl) (aV hS rfl),
 gt F (zf rfl nI),
 gt F (zf rfl gR),
 gt F (zf rfl zO),
 gt F (zl 0 rfl rfl rfl aS),
 gt F fun S hS => dC (aF rfl) (.func _ _ call197) (ev2 (aV hS rfl) (ev2 (aV hS rfl) (ev2 rfl evn))) rfl (BVs.refl _ _) (rT _ _ _ d4) rfl,
 gt F (zcm rfl rfl rfl),
 go (zpf (.b (decide (0 ≤ a1))) F), trivial⟩
       · exact bZ (aM rfl (aR ⟨rfl, rfl, rfl, trivial⟩))
     ·refine aB ?_;refine tih h (fun d5 h => ?_) (fun d5 h => ?_)
      ·refine aC ?_;obtain ⟨L, d6, h⟩ := bns h;refine fZ mix 10 [0, 8, 9] (fun s => [(146, .bp e g 0), (155, .d (.lit (s 9).v))]) (fun s => [.box e g [.j a.rules.Format.Sets, .j a.rules.Format.Games, .k a.rules.Format.NoAd, .j a.rules.Format.Tie, .j a.rules.Format.To, .j a.rules.Format.LastTie, .j a.rules.Format.LastTo, .j a.rules.Format.First, .j a.rules.Format.Then, .k a.rules.Format.Doubles, .lit c, .j o.A, .j o.B, .j 0, .j 0, .j a.Score.Server, .j a.Score.Ends, .j a.Score.Balls, .j a.Score.Winner, .j a.first, .j a.won.A, .j a.won.B, .lit j, .lit (n 26).v], .arr (s 9).v 78 2 (L.map aN), .arr j 4 1 (Z25 a), .arr (n 26).v 228 7 (H.map bD), .box (X1 11).b 0 (cB r2), .box N 0 (aN o)]) ?_ ?_
       ·refine ⟨0, fun s => [(146, 0, .bp e g 0), (147, 1, .bp e g 0), (148, 2, .bp e g 0), (149, 3, .bp e g 10), (150, 4, .bp e g 10), (151, 5, .bp e g 10), (152, 6, .d (.lit c)), (153, 7, .agg (aN o)), (154, 8, .d (.sl 2 (([o]).map aN))), (155, 9, .d (.lit (s 9).v))], fun s => [([], .box e g [.j a.rules.Format.Sets, .j a.rules.Format.Games, .k a.rules.Format.NoAd, .j a.rules.Format.Tie, .j a.rules.Format.To, .j a.rules.Format.LastTie, .j a.rules.Format.LastTo, .j a.rules.Format.First, .j a.rules.Format.Then, .k a.rules.Format.Doubles, .lit c, .j o.A, .j o.B, .j 0, .j 0, .j a.Score.Server, .j a.Score.Ends, .j a.Score.Balls, .j a.Score.Winner, .j a.first, .j a.won.A, .j a.won.B, .lit j, .lit (n 26).v]), ([(9, .arr (s 9).v 78 2 (L.map aN))], .arr c 78 2 (Z9 a)), ([], .arr j 4 1 (Z25 a)), ([], .arr (n 26).v 228 7 (H.map bD)), ([], .box (X1 11).b 0 (cB r2)), ([], .box N 0 (aN o))], ?_, ?_⟩
        · exact xok [(0, 0), (0, 10), (2, 10), (3, 10), (4, 10), (5, 10), (6, 10), (0, 10), (8, 10), (709, 0)] ⟨fun _ _ w _ k => xp w (ym k (Z61 e g)),
 fun _ _ w _ k => xp w (ym k (Z61 e g)),
 fun _ _ w _ k => xp w (bJ (aF rfl) (aV k rfl)),
 fun _ _ w _ k => xp w (yf k rfl cH),
 fun _ _ w _ k => xp w (yf k rfl kP),
 fun _ _ w _ k => xp w (yf k rfl aEi),
 fun _ _ w _ k => xp w (yl k 0 rfl (og k rfl rfl) rfl aPg),
 fun _ _ w _ k => xp w (yla k 5 (aN o) rfl (og k rfl rfl) gY),
 fun _ _ w _ k => xp w (fH (aF rfl) aOb rfl (pa2 (aV k rfl) pan) (rows := ([o]).map aN) rfl (bR (f := aN) fun _ => rfl) rfl (by decide)),
 fun s S hw hi hS => oG (X := s) (p := 1) (v := fun x => .d (.lit x.v)) (mo := fun x => .arr x.v 78 2 (L.map aN)) hS hi rfl rfl (fun _ => rfl) hw (fun _ => rfl) (fun _ => rfl) (fun _ => rfl) (fun _ => ⟨rfl, rfl, .inr rfl, ⟨rfl, rfl, .inr rfl, ⟨rfl, rfl, .inr rfl, ⟨rfl, rfl, .inr rfl, ⟨rfl, rfl, .inr rfl, ⟨rfl, rfl, .inr rfl, ⟨rfl, rfl, .inr rfl, ⟨rfl, rfl, .inr rfl, ⟨rfl, rfl, .inr rfl, ⟨rfl, rfl, .inl rfl, trivial⟩⟩⟩⟩⟩⟩⟩⟩⟩⟩) (fun _ => ⟨trivial, rfl, ⟨⟨rfl, .inl rfl, trivial⟩, rfl, ⟨trivial, rfl, ⟨trivial, rfl, ⟨trivial, rfl, ⟨trivial, rfl, trivial⟩⟩⟩⟩⟩⟩) (gV (iG (i := 1) (aF rfl) aOb (aV hS rfl) (og hS rfl rfl) (aV hS rfl) (fun _ => rfl) d6 rfl) (by rintro _ ⟨w, rfl⟩; exact ⟨⟨0, w⟩, Ent.refl _⟩)), trivial⟩
        · exact fun s => bZ (aM rfl (aM rfl (aR ⟨rfl, rfl, rfl, trivial⟩)))
       ·intro s;refine to (bJ (aF rfl) rfl) ?_;refine to (sf rfl cH) (to (sf rfl kP) (to (sf rfl aEi) (to (sst 0 rfl rfl sizeOf76 [.j a.rules.Format.Sets, .j a.rules.Format.Games, .k a.rules.Format.NoAd, .j a.rules.Format.Tie, .j a.rules.Format.To, .j a.rules.Format.LastTie, .j a.rules.Format.LastTo, .j a.rules.Format.First, .j a.rules.Format.Then, .k a.rules.Format.Doubles, .lit (s 9).v, .j o.A, .j o.B, .j 0, .j 0, .j a.Score.Server, .j a.Score.Ends, .j a.Score.Balls, .j a.Score.Winner, .j a.first, .j a.won.A, .j a.won.B, .lit j, .lit (n 26).v]) (aB (aC (aA (tm (Z61 e g) (to (dG (aF rfl) aPy (zs := [.j 0, .j 0]) rfl rfl rfl rfl (es := [.j 0, .j 0]) rfl) ?_))))))));refine to (bJ (aF rfl) rfl) ?_;refine to (sf rfl cH) (to (sf rfl kP) (to (sf rfl zP) (to (sst 0 rfl rfl sizeOf78 [.j a.rules.Format.Sets, .j a.rules.Format.Games, .k a.rules.Format.NoAd, .j a.rules.Format.Tie, .j a.rules.Format.To, .j a.rules.Format.LastTie, .j a.rules.Format.LastTo, .j a.rules.Format.First, .j a.rules.Format.Then, .k a.rules.Format.Doubles, .lit (s 9).v, .j 0, .j 0, .j 0, .j 0, .j a.Score.Server, .j a.Score.Ends, .j a.Score.Balls, .j a.Score.Winner, .j a.first, .j a.won.A, .j a.won.B, .lit j, .lit (n 26).v]) (aB (aC (aA (tm (Z61 e g) (tm (Z61 e g) (to (bJ (aF rfl) rfl) ?_)))))))));refine to (sf rfl sO) (to (sla 0 (aN a.won) rfl rfl gY) (tm (.i G) ?_));obtain ⟨q, d7, h⟩ := bns h;refine to (eM (aF rfl) (.func _ _ call192) rfl rfl (yK _ _ d7)) ?_;refine to (bJ (aF rfl) rfl) ?_;refine to (sf rfl sO) (to (sst 0 rfl rfl sizeOf78 [.j a.rules.Format.Sets, .j a.rules.Format.Games, .k a.rules.Format.NoAd, .j a.rules.Format.Tie, .j a.rules.Format.To, .j a.rules.Format.LastTie, .j a.rules.Format.LastTo, .j a.rules.Format.First, .j a.rules.Format.Then, .k a.rules.Format.Doubles, .lit (s 9).v, .j 0, .j 0, .j 0, .j 0, .j a.Score.Server, .j a.Score.Ends, .j a.Score.Balls, .j a.Score.Winner, .j a.first, .j q.A, .j q.B, .lit j, .lit (n 26).v]) (aB (aC ?_)));refine dJ mix 17 [0, 8, 9] [(185, .i (max q.A q.B)), (191, .i a.rules.Format.Sets)] ?_ ?_
        ·refine ⟨[(175, 0, .bp e g 0), (176, 1, .bp e g 0), (177, 2, .bp e g 20), (178, 3, .bp e g 20), (179, 4, .i q.A), (180, 5, .bp e g 0), (181, 6, .bp e g 0), (182, 7, .bp e g 20), (183, 8, .bp e g 21), (184, 9, .i q.B), (185, 10, .i (max q.A q.B)), (186, 11, .bp e g 0), (187, 12, .bp e g 0), (188, 13, .bp e g 0), (189, 14, .bp e g 0), (190, 15, .bp e g 0), (191, 16, .i a.rules.Format.Sets)], ?_, ?_⟩
         · exact dk [0, 1, 2, 3, 4, 0, 6, 7, 8, 9, 510, 0, 12, 13, 14, 15, 16] ⟨go (zm (Z61 e g)),
 go fun S hS => bJ (aF rfl) (aV hS rfl),
 go (zf rfl sO),
 go (zf rfl oX),
 go (zl 0 rfl rfl rfl aS),
 go (zm (Z61 e g)),
 go fun S hS => bJ (aF rfl) (aV hS rfl),
 go (zf rfl sO),
 go (zf rfl oY),
 go (zl 0 rfl rfl rfl aS),
 go fun S hS => aUq (aF rfl) (aV hS rfl) (aV hS rfl),
 go (zm (Z61 e g)),
 go fun S hS => bJ (aF rfl) (aV hS rfl),
 go (zf rfl nI),
 go (zf rfl gR),
 go (zf rfl zN),
 go (zl 0 rfl rfl rfl aS), trivial⟩
         · exact bZ (aM rfl (aM rfl (aR ⟨rfl, rfl, rfl, trivial⟩)))
        ·refine to (scm rfl rfl rfl) (aB ?_);refine tih h (fun d8 h => ?_) (fun d8 h => ?_)
         ·refine aA (tm (Z61 e g) (tm (.i G) (to (bJ (aF rfl) rfl) ?_)));refine to (sf rfl cH) (to (sf rfl sB) (to (sst 0 rfl rfl sizeOf3 [.j a.rules.Format.Sets, .j a.rules.Format.Games, .k a.rules.Format.NoAd, .j a.rules.Format.Tie, .j a.rules.Format.To, .j a.rules.Format.LastTie, .j a.rules.Format.LastTo, .j a.rules.Format.First, .j a.rules.Format.Then, .k a.rules.Format.Doubles, .lit (s 9).v, .j 0, .j 0, .j 0, .j 0, .j a.Score.Server, .j a.Score.Ends, .j a.Score.Balls, .j G, .j a.first, .j q.A, .j q.B, .lit j, .lit (n 26).v]) (aB (aC (aC (aA (to (sla 5 (aN o) rfl rfl gY) ?_)))))));obtain ⟨d9, e0, h⟩ := bns h;refine to (scr call193 (uK _ e0)) (to (nU (aF rfl) rfl rfl (by decide)) ?_);refine to (scm rfl rfl rfl) (tm (.b (decide ((d9.tmod 2) = 1))) ?_);obtain ⟨e1, Y, h⟩ := bns h;refine aW 7 [0] 209 e1 ?_ ?_
          ·refine bch Y (fun I Y => ?_) (fun I Y => ?_)
           ·refine tk I (sm (Z61 e g)) (tk I (bJ (aF rfl) rfl) ?_);refine tk I (sf rfl cH) (tkl 0 I rfl rfl sB rfl aS (tk I (scm rfl rfl rfl) (to (spt (.b (decide (G < 0))) I) ?_)));obtain rfl := sIn Y;refine aB (aI rfl ⟨rfl, trivial⟩ rfl)
           ·refine tp I (tp I (tp I (tp I (tp I (tp I (to (spf Z6 I) ?_))))));obtain rfl := sIn Y;refine aB (aI rfl ⟨rfl, trivial⟩ rfl)
          ·refine aB ?_;refine tih h (fun e2 h => ?_) (fun e2 h => ?_)
           ·refine aA (tm (Z61 e g) (to (bJ (aF rfl) rfl) ?_));refine to (sf rfl cH) (tfl 0 rfl rfl qN rfl aS (to (sar rfl rfl rfl) (to (bJ (aF rfl) rfl) ?_)));refine to (sf rfl cH) (to (sf rfl qN) (to (sst 0 rfl rfl sizeOf3 [.j a.rules.Format.Sets, .j a.rules.Format.Games, .k a.rules.Format.NoAd, .j a.rules.Format.Tie, .j a.rules.Format.To, .j a.rules.Format.LastTie, .j a.rules.Format.LastTo, .j a.rules.Format.First, .j a.rules.Format.Then, .k a.rules.Format.Doubles, .lit (s 9).v, .j 0, .j 0, .j 0, .j 0, .j a.Score.Server, .j (Z21 a), .j a.Score.Balls, .j G, .j a.first, .j q.A, .j q.B, .lit j, .lit (n 26).v]) (aB (aA (tm (Z61 e g) ?_)))));obtain ⟨t, e3, h⟩ := bns h;refine bB rfl (iM (passed := [.box e g [.j a.rules.Format.Sets, .j a.rules.Format.Games, .k a.rules.Format.NoAd, .j a.rules.Format.Tie, .j a.rules.Format.To, .j a.rules.Format.LastTie, .j a.rules.Format.LastTo, .j a.rules.Format.First, .j a.rules.Format.Then, .k a.rules.Format.Doubles, .lit (s 9).v, .j 0, .j 0, .j 0, .j 0, .j a.Score.Server, .j (Z21 a), .j a.Score.Balls, .j G, .j a.first, .j q.A, .j q.B, .lit j, .lit (n 26).v], .arr (s 9).v 78 2 (L.map aN), .arr j 4 1 (Z25 a), .arr (n 26).v 228 7 (H.map bD)]) (aF rfl) rfl (.func _ _ call189) rfl rfl (gS (bL.mk a.rules (cP.mk (dI.mk L Z46 Z46) a.Score.Server (Z21 a) a.Score.Balls G) a.first q a.ties H) e3)) ?_;rintro _ ⟨_, _, ⟨a2, a3, a4, rfl, rfl⟩, rfl⟩;refine aB ?_;obtain rfl := sIn h;exact ⟨_, [.box e g [.j t.rules.Format.Sets, .j t.rules.Format.Games, .k t.rules.Format.NoAd, .j t.rules.Format.Tie, .j t.rules.Format.To, .j t.rules.Format.LastTie, .j t.rules.Format.LastTo, .j t.rules.Format.First, .j t.rules.Format.Then, .k t.rules.Format.Doubles, .lit a2, .j t.Score.Board.Games.A, .j t.Score.Board.Games.B, .j t.Score.Board.Points.A, .j t.Score.Board.Points.B, .j t.Score.Server, .j t.Score.Ends, .j t.Score.Balls, .j t.Score.Winner, .j t.first, .j t.won.A, .j t.won.B, .lit a3, .lit a4], .arr a2 78 2 (t.Score.Board.Sets.map aN), .arr a3 4 1 (t.ties.map cL), .arr a4 228 7 (t.games.map bD)], [.box (X1 11).b 0 (cB r2), .box N 0 (aN o)], _, .none, .refl _, .same _, a2, a3, a4, rfl, rfl⟩
           ·refine aY (aA (tm (Z61 e g) ?_));obtain ⟨u, e4, h⟩ := bns h;refine bB rfl (iM (passed := [.box e g [.j a.rules.Format.Sets, .j a.rules.Format.Games, .k a.rules.Format.NoAd, .j a.rules.Format.Tie, .j a.rules.Format.To, .j a.rules.Format.LastTie, .j a.rules.Format.LastTo, .j a.rules.Format.First, .j a.rules.Format.Then, .k a.rules.Format.Doubles, .lit (s 9).v, .j 0, .j 0, .j 0, .j 0, .j a.Score.Server, .j a.Score.Ends, .j a.Score.Balls, .j G, .j a.first, .j q.A, .j q.B, .lit j, .lit (n 26).v], .arr (s 9).v 78 2 (L.map aN), .arr j 4 1 (Z25 a), .arr (n 26).v 228 7 (H.map bD)]) (aF rfl) rfl (.func _ _ call189) rfl rfl (gS (bL.mk a.rules (cP.mk (dI.mk L Z46 Z46) a.Score.Server a.Score.Ends a.Score.Balls G) a.first q a.ties H) e4)) ?_;rintro _ ⟨_, _, ⟨a5, a6, a7, rfl, rfl⟩, rfl⟩;refine aB ?_;obtain rfl := sIn h;exact ⟨_, [.box e g [.j u.rules.Format.Sets, .j u.rules.Format.Games, .k u.rules.Format.NoAd, .j u.rules.Format.Tie, .j u.rules.Format.To, .j u.rules.Format.LastTie, .j u.rules.Format.LastTo, .j u.rules.Format.First, .j u.rules.Format.Then, .k u.rules.Format.Doubles, .lit a5, .j u.Score.Board.Games.A, .j u.Score.Board.Games.B, .j u.Score.Board.Points.A, .j u.Score.Board.Points.B, .j u.Score.Server, .j u.Score.Ends, .j u.Score.Balls, .j u.Score.Winner, .j u.first, .j u.won.A, .j u.won.B, .lit a6, .lit a7], .arr a5 78 2 (u.Score.Board.Sets.map aN), .arr a6 4 1 (u.ties.map cL), .arr a7 228 7 (u.games.map bD)], [.box (X1 11).b 0 (cB r2), .box N 0 (aN o)], _, .none, .refl _, .same _, a5, a6, a7, rfl, rfl⟩
         ·refine aY (aC (aC (aA (to (sla 5 (aN o) rfl rfl gY) ?_))));obtain ⟨e5, e6, h⟩ := bns h;refine to (scr call193 (uK _ e6)) (to (nU (aF rfl) rfl rfl (by decide)) ?_);refine to (scm rfl rfl rfl) (tm (.b (decide ((e5.tmod 2) = 1))) ?_);obtain ⟨e7, Z, h⟩ := bns h;refine aW 7 [0] 209 e7 ?_ ?_
          ·refine bch Z (fun J Z => ?_) (fun J Z => ?_)
           ·refine tk J (sm (Z61 e g)) (tk J (bJ (aF rfl) rfl) ?_);refine tk J (sf rfl cH) (tkl 0 J rfl rfl sB rfl aS (tk J (scm rfl rfl rfl) (to (spt (.b (decide (a.Score.Winner < 0))) J) ?_)));obtain rfl := sIn Z;refine aB (aI rfl ⟨rfl, trivial⟩ rfl)
           ·refine tp J (tp J (tp J (tp J (tp J (tp J (to (spf Z6 J) ?_))))));obtain rfl := sIn Z;refine aB (aI rfl ⟨rfl, trivial⟩ rfl)
          ·refine aB ?_;refine tih h (fun e8 h => ?_) (fun e8 h => ?_)
           ·refine aA (tm (Z61 e g) (to (bJ (aF rfl) rfl) ?_));refine to (sf rfl cH) (tfl 0 rfl rfl qN rfl aS (to (sar rfl rfl rfl) (to (bJ (aF rfl) rfl) ?_)));refine to (sf rfl cH) (to (sf rfl qN) (to (sst 0 rfl rfl sizeOf3 [.j a.rules.Format.Sets, .j a.rules.Format.Games, .k a.rules.Format.NoAd, .j a.rules.Format.Tie, .j a.rules.Format.To, .j a.rules.Format.LastTie, .j a.rules.Format.LastTo, .j a.rules.Format.First, .j a.rules.Format.Then, .k a.rules.Format.Doubles, .lit (s 9).v, .j 0, .j 0, .j 0, .j 0, .j a.Score.Server, .j (Z21 a), .j a.Score.Balls, .j a.Score.Winner, .j a.first, .j q.A, .j q.B, .lit j, .lit (n 26).v]) (aB (aA (tm (Z61 e g) ?_)))));obtain ⟨y, e9, h⟩ := bns h;refine bB rfl (iM (passed := [.box e g [.j a.rules.Format.Sets, .j a.rules.Format.Games, .k a.rules.Format.NoAd, .j a.rules.Format.Tie, .j a.rules.Format.To, .j a.rules.Format.LastTie, .j a.rules.Format.LastTo, .j a.rules.Format.First, .j a.rules.Format.Then, .k a.rules.Format.Doubles, .lit (s 9).v, .j 0, .j 0, .j 0, .j 0, .j a.Score.Server, .j (Z21 a), .j a.Score.Balls, .j a.Score.Winner, .j a.first, .j q.A, .j q.B, .lit j, .lit (n 26).v], .arr (s 9).v 78 2 (L.map aN), .arr j 4 1 (Z25 a), .arr (n 26).v 228 7 (H.map bD)]) (aF rfl) rfl (.func _ _ call189) rfl rfl (gS (bL.mk a.rules (cP.mk (dI.mk L Z46 Z46) a.Score.Server (Z21 a) a.Score.Balls a.Score.Winner) a.first q a.ties H) e9)) ?_;rintro _ ⟨_, _, ⟨a8, a9, b0, rfl, rfl⟩, rfl⟩;refine aB ?_;obtain rfl := sIn h;exact ⟨_, [.box e g [.j y.rules.Format.Sets, .j y.rules.Format.Games, .k y.rules.Format.NoAd, .j y.rules.Format.Tie, .j y.rules.Format.To, .j y.rules.Format.LastTie, .j y.rules.Format.LastTo, .j y.rules.Format.First, .j y.rules.Format.Then, .k y.rules.Format.Doubles, .lit a8, .j y.Score.Board.Games.A, .j y.Score.Board.Games.B, .j y.Score.Board.Points.A, .j y.Score.Board.Points.B, .j y.Score.Server, .j y.Score.Ends, .j y.Score.Balls, .j y.Score.Winner, .j y.first, .j y.won.A, .j y.won.B, .lit a9, .lit b0], .arr a8 78 2 (y.Score.Board.Sets.map aN), .arr a9 4 1 (y.ties.map cL), .arr b0 228 7 (y.games.map bD)], [.box (X1 11).b 0 (cB r2), .box N 0 (aN o)], _, .none, .refl _, .same _, a8, a9, b0, rfl, rfl⟩
           ·refine aY (aA (tm (Z61 e g) ?_));obtain ⟨z, f0, h⟩ := bns h;refine bB rfl (iM (passed := [.box e g [.j a.rules.Format.Sets, .j a.rules.Format.Games, .k a.rules.Format.NoAd, .j a.rules.Format.Tie, .j a.rules.Format.To, .j a.rules.Format.LastTie, .j a.rules.Format.LastTo, .j a.rules.Format.First, .j a.rules.Format.Then, .k a.rules.Format.Doubles, .lit (s 9).v, .j 0, .j 0, .j 0, .j 0, .j a.Score.Server, .j a.Score.Ends, .j a.Score.Balls, .j a.Score.Winner, .j a.first, .j q.A, .j q.B, .lit j, .lit (n 26).v], .arr (s 9).v 78 2 (L.map aN), .arr j 4 1 (Z25 a), .arr (n 26).v 228 7 (H.map bD)]) (aF rfl) rfl (.func _ _ call189) rfl rfl (gS (bL.mk a.rules (cP.mk (dI.mk L Z46 Z46) a.Score.Server a.Score.Ends a.Score.Balls a.Score.Winner) a.first q a.ties H) f0)) ?_;rintro _ ⟨_, _, ⟨b1, b2, b3, rfl, rfl⟩, rfl⟩;refine aB ?_;obtain rfl := sIn h;exact ⟨_, [.box e g [.j z.rules.Format.Sets, .j z.rules.Format.Games, .k z.rules.Format.NoAd, .j z.rules.Format.Tie, .j z.rules.Format.To, .j z.rules.Format.LastTie, .j z.rules.Format.LastTo, .j z.rules.Format.First, .j z.rules.Format.Then, .k z.rules.Format.Doubles, .lit b1, .j z.Score.Board.Games.A, .j z.Score.Board.Games.B, .j z.Score.Board.Points.A, .j z.Score.Board.Points.B, .j z.Score.Server, .j z.Score.Ends, .j z.Score.Balls, .j z.Score.Winner, .j z.first, .j z.won.A, .j z.won.B, .lit b2, .lit b3], .arr b1 78 2 (z.Score.Board.Sets.map aN), .arr b2 4 1 (z.ties.map cL), .arr b3 228 7 (z.games.map bD)], [.box (X1 11).b 0 (cB r2), .box N 0 (aN o)], _, .none, .refl _, .same _, b1, b2, b3, rfl, rfl⟩
      ·refine aY (aC (aC (aA (to (sla 5 (aN o) rfl rfl gY) ?_))));obtain ⟨f1, f2, h⟩ := bns h;refine to (scr call193 (uK _ f2)) (to (nU (aF rfl) rfl rfl (by decide)) ?_);refine to (scm rfl rfl rfl) (tm (.b (decide ((f1.tmod 2) = 1))) ?_);obtain ⟨f3, a0, h⟩ := bns h;refine aW 7 [0] 209 f3 ?_ ?_
       ·refine bch a0 (fun K a0 => ?_) (fun K a0 => ?_)
        ·refine tk K (sm (Z61 e g)) (tk K (bJ (aF rfl) rfl) ?_);refine tk K (sf rfl cH) (tkl 0 K rfl rfl sB rfl aS (tk K (scm rfl rfl rfl) (to (spt (.b (decide (a.Score.Winner < 0))) K) ?_)));obtain rfl := sIn a0;refine aB (aI rfl ⟨rfl, trivial⟩ rfl)
        ·refine tp K (tp K (tp K (tp K (tp K (tp K (to (spf Z6 K) ?_))))));obtain rfl := sIn a0;refine aB (aI rfl ⟨rfl, trivial⟩ rfl)
       ·refine aB ?_;refine tih h (fun f4 h => ?_) (fun f4 h => ?_)
        ·refine aA (tm (Z61 e g) (to (bJ (aF rfl) rfl) ?_));refine to (sf rfl cH) (tfl 0 rfl rfl qN rfl aS (to (sar rfl rfl rfl) (to (bJ (aF rfl) rfl) ?_)));refine to (sf rfl cH) (to (sf rfl qN) (to (sst 0 rfl rfl sizeOf3 [.j a.rules.Format.Sets, .j a.rules.Format.Games, .k a.rules.Format.NoAd, .j a.rules.Format.Tie, .j a.rules.Format.To, .j a.rules.Format.LastTie, .j a.rules.Format.LastTo, .j a.rules.Format.First, .j a.rules.Format.Then, .k a.rules.Format.Doubles, .lit c, .j o.A, .j o.B, .j 0, .j 0, .j a.Score.Server, .j (Z21 a), .j a.Score.Balls, .j a.Score.Winner, .j a.first, .j a.won.A, .j a.won.B, .lit j, .lit (n 26).v]) (aB (aA (tm (Z61 e g) ?_)))));obtain ⟨C, f5, h⟩ := bns h;refine bB rfl (iM (passed := [.box e g [.j a.rules.Format.Sets, .j a.rules.Format.Games, .k a.rules.Format.NoAd, .j a.rules.Format.Tie, .j a.rules.Format.To, .j a.rules.Format.LastTie, .j a.rules.Format.LastTo, .j a.rules.Format.First, .j a.rules.Format.Then, .k a.rules.Format.Doubles, .lit c, .j o.A, .j o.B, .j 0, .j 0, .j a.Score.Server, .j (Z21 a), .j a.Score.Balls, .j a.Score.Winner, .j a.first, .j a.won.A, .j a.won.B, .lit j, .lit (n 26).v], .arr c 78 2 (Z9 a), .arr j 4 1 (Z25 a), .arr (n 26).v 228 7 (H.map bD)]) (aF rfl) rfl (.func _ _ call189) rfl rfl (gS (bL.mk a.rules (cP.mk (dI.mk a.Score.Board.Sets o Z46) a.Score.Server (Z21 a) a.Score.Balls a.Score.Winner) a.first a.won a.ties H) f5)) ?_;rintro _ ⟨_, _, ⟨b4, b5, b6, rfl, rfl⟩, rfl⟩;refine aB ?_;obtain rfl := sIn h;exact ⟨_, [.box e g [.j C.rules.Format.Sets, .j C.rules.Format.Games, .k C.rules.Format.NoAd, .j C.rules.Format.Tie, .j C.rules.Format.To, .j C.rules.Format.LastTie, .j C.rules.Format.LastTo, .j C.rules.Format.First, .j C.rules.Format.Then, .k C.rules.Format.Doubles, .lit b4, .j C.Score.Board.Games.A, .j C.Score.Board.Games.B, .j C.Score.Board.Points.A, .j C.Score.Board.Points.B, .j C.Score.Server, .j C.Score.Ends, .j C.Score.Balls, .j C.Score.Winner, .j C.first, .j C.won.A, .j C.won.B, .lit b5, .lit b6], .arr b4 78 2 (C.Score.Board.Sets.map aN), .arr b5 4 1 (C.ties.map cL), .arr b6 228 7 (C.games.map bD)], [.box (X1 11).b 0 (cB r2), .box N 0 (aN o)], _, .none, .refl _, .same _, b4, b5, b6, rfl, rfl⟩
        ·refine aY (aA (tm (Z61 e g) ?_));obtain ⟨E, f6, h⟩ := bns h;refine bB rfl (iM (passed := [.box e g [.j a.rules.Format.Sets, .j a.rules.Format.Games, .k a.rules.Format.NoAd, .j a.rules.Format.Tie, .j a.rules.Format.To, .j a.rules.Format.LastTie, .j a.rules.Format.LastTo, .j a.rules.Format.First, .j a.rules.Format.Then, .k a.rules.Format.Doubles, .lit c, .j o.A, .j o.B, .j 0, .j 0, .j a.Score.Server, .j a.Score.Ends, .j a.Score.Balls, .j a.Score.Winner, .j a.first, .j a.won.A, .j a.won.B, .lit j, .lit (n 26).v], .arr c 78 2 (Z9 a), .arr j 4 1 (Z25 a), .arr (n 26).v 228 7 (H.map bD)]) (aF rfl) rfl (.func _ _ call189) rfl rfl (gS (bL.mk a.rules (cP.mk (dI.mk a.Score.Board.Sets o Z46) a.Score.Server a.Score.Ends a.Score.Balls a.Score.Winner) a.first a.won a.ties H) f6)) ?_;rintro _ ⟨_, _, ⟨b7, b8, b9, rfl, rfl⟩, rfl⟩;refine aB ?_;obtain rfl := sIn h;exact ⟨_, [.box e g [.j E.rules.Format.Sets, .j E.rules.Format.Games, .k E.rules.Format.NoAd, .j E.rules.Format.Tie, .j E.rules.Format.To, .j E.rules.Format.LastTie, .j E.rules.Format.LastTo, .j E.rules.Format.First, .j E.rules.Format.Then, .k E.rules.Format.Doubles, .lit b7, .j E.Score.Board.Games.A, .j E.Score.Board.Games.B, .j E.Score.Board.Points.A, .j E.Score.Board.Points.B, .j E.Score.Server, .j E.Score.Ends, .j E.Score.Balls, .j E.Score.Winner, .j E.first, .j E.won.A, .j E.won.B, .lit b8, .lit b9], .arr b7 78 2 (E.Score.Board.Sets.map aN), .arr b8 4 1 (E.ties.map cL), .arr b9 228 7 (E.games.map bD)], [.box (X1 11).b 0 (cB r2), .box N 0 (aN o)], _, .none, .refl _, .same _, b7, b8, b9, rfl, rfl⟩

theorem aLh (y : eU) (u : Int) (w : List Int) {r : (Option bL) × Int} (h : aAn y u w = some r) : Fn Tryz.prog 83 [.agg (cU y), .i u, .d (Z4 w)] (.tup [cN eG r.1, .i r.2]) := by
 unfold aAn at h;refine oT [.tmp 6, .tmp 7] func83 results83 ntmps83 ?_;refine aC (aA ?_);refine bB rfl (cO (v := .agg (cU y)) (aF rfl) rfl rfl rfl) ?_;rintro _ ⟨b1, rfl⟩;refine ta Z36 (ta (.i 0) (aB (aC (aC (aA (to (sla 0 (cU y) rfl rfl yO) ?_))))));obtain ⟨r2, h3, h⟩ := bns h;refine to (scr call143 (aIv _ h3)) (ta (.i r2) (aB (aC (aA (tm (.i r2) (to (scm rfl rfl rfl) (aB ?_)))))));refine tih h (fun c4 h => ?_) (fun c4 h => ?_)
 ·refine aC (aA (tm (.i r2) (ta Z36 (ta (.i r2) (aB ?_)))));obtain rfl := sIn h;refine bK (bC (bE (l := [6, 7]) ⟨rfl, rfl, trivial⟩)) ?_;exact cA ⟨rfl, _, .two _ _, rfl, rfl⟩
 ·refine aY (aC (aC (aA (tm (.i u) (to (scm rfl rfl rfl) (tm (.b (!decide (u = 0))) ?_))))));obtain ⟨b5, h6, h⟩ := bns h;refine aW 3 [1, 2, 3] 22 b5 ?_ ?_
  ·refine bch h6 (fun F h6 => ?_) (fun F h6 => ?_)
   ·refine tk F (sm (.i u)) (tk F (scm rfl rfl rfl) (to (spt (.b (!decide (u = 1))) F) ?_));obtain rfl := sIn h6;refine aB (aI rfl ⟨rfl, rfl, rfl, trivial⟩ rfl)
   ·refine tp F (tp F (to (spf Z6 F) ?_));obtain rfl := sIn h6;refine aB (aI rfl ⟨rfl, rfl, rfl, trivial⟩ rfl)
  ·refine aB ?_;refine tih h (fun c7 h => ?_) (fun c7 h => ?_)
   ·refine aC (aA (ta Z36 (ta (.i 1) (aB ?_))));obtain rfl := sIn h;refine bK (bC (bE (l := [6, 7]) ⟨rfl, rfl, trivial⟩)) ?_;exact cA ⟨rfl, _, .two _ _, rfl, rfl⟩
   ·refine aY (aC (aC (aA (tm (Z35 w) (to (sle rfl bM.of) (to (scm rfl rfl rfl) (aB ?_)))))));refine tih h (fun c8 h => ?_) (fun c8 h => ?_)
    ·refine aC (aA (ta Z36 (ta (.i 2) (aB ?_))));obtain rfl := sIn h;refine bK (bC (bE (l := [6, 7]) ⟨rfl, rfl, trivial⟩)) ?_;exact cA ⟨rfl, _, .two _ _, rfl, rfl⟩
    ·refine aY (aC (aA (to (sla 0 (cU y) rfl rfl yO) (to (dG (aF rfl) aTi (zs := [.j 0, .j 0, .k false, .j 0, .j 0, .j 0, .j 0, .j 0, .j 0, .k false]) rfl rfl rfl rfl (es := [.j y.Sets, .j y.Games, .k y.NoAd, .j y.Tie, .j y.To, .j y.LastTie, .j y.LastTo, .j y.First, .j y.Then, .k y.Doubles]) rfl) ?_))));refine tm (.i u) ?_;obtain ⟨r9, P, h⟩ := bns h;refine bB rfl (iM (passed := []) (aF rfl) rfl (.func _ _ call144) rfl rfl (aIw _ _ P)) ?_;rintro _ ⟨_, _, ⟨E, Q, T, U, rfl, rfl⟩, rfl⟩;refine ta (.bp E 0 0) (aB (aC (aC (aA (tm (Z35 w) (to (sle rfl bM.of) (tm (.i 0) (aB (bT ?_)))))))));refine cW (S := Int × (List bH) × (List Bool) × (List mV) × gI × bH × bH × Int × Int × Int × Int × Int × bH × Value × Value × Value) [9, 30, 31] (fun c => [(32, .i c.1)]) (fun c => [.arr c.2.2.2.2.2.2.2.2.2.2.2.2.2.1 78 2 (c.2.1.map aN), .arr c.2.2.2.2.2.2.2.2.2.2.2.2.2.2.1 4 1 (c.2.2.1.map cL), .arr c.2.2.2.2.2.2.2.2.2.2.2.2.2.2.2 228 7 (c.2.2.2.1.map bD), .box E 0 [.j c.2.2.2.2.1.Format.Sets, .j c.2.2.2.2.1.Format.Games, .k c.2.2.2.2.1.Format.NoAd, .j c.2.2.2.2.1.Format.Tie, .j c.2.2.2.2.1.Format.To, .j c.2.2.2.2.1.Format.LastTie, .j c.2.2.2.2.1.Format.LastTo, .j c.2.2.2.2.1.Format.First, .j c.2.2.2.2.1.Format.Then, .k c.2.2.2.2.1.Format.Doubles, .lit c.2.2.2.2.2.2.2.2.2.2.2.2.2.1, .j c.2.2.2.2.2.1.A, .j c.2.2.2.2.2.1.B, .j c.2.2.2.2.2.2.1.A, .j c.2.2.2.2.2.2.1.B, .j c.2.2.2.2.2.2.2.1, .j c.2.2.2.2.2.2.2.2.1, .j c.2.2.2.2.2.2.2.2.2.1, .j c.2.2.2.2.2.2.2.2.2.2.1, .j c.2.2.2.2.2.2.2.2.2.2.2.1, .j c.2.2.2.2.2.2.2.2.2.2.2.2.1.A, .j c.2.2.2.2.2.2.2.2.2.2.2.2.1.B, .lit c.2.2.2.2.2.2.2.2.2.2.2.2.2.2.1, .lit c.2.2.2.2.2.2.2.2.2.2.2.2.2.2.2]]) (fun k c => rU w (w.length : Int) k c.1 c.2.1 c.2.2.1 c.2.2.2.1 c.2.2.2.2.1 c.2.2.2.2.2.1 c.2.2.2.2.2.2.1 c.2.2.2.2.2.2.2.1 c.2.2.2.2.2.2.2.2.1 c.2.2.2.2.2.2.2.2.2.1 c.2.2.2.2.2.2.2.2.2.2.1 c.2.2.2.2.2.2.2.2.2.2.2.1 c.2.2.2.2.2.2.2.2.2.2.2.2.1) (fun _ => rfl) (0, r9.Score.Board.Sets, r9.ties, r9.games, r9.rules, r9.Score.Board.Games, r9.Score.Board.Points, r9.Score.Server, r9.Score.Ends, r9.Score.Balls, r9.Score.Winner, r9.first, r9.won, Q, T, U) h (aT [1, 2, 3, 0] rfl rfl (aM rfl (aR ⟨rfl, rfl, rfl, trivial⟩))) ?_;rintro a3 ⟨G, x, o, p, a, g, j, q, s, t, m, n, e, L, M, N⟩ h;simp only [rU] at h;refine aC (aA (to (scm rfl rfl rfl) (aB (aC ?_))));refine tih h (fun V h => ?_) (fun V h => ?_)
     ·refine aY (aC (bT (aC (aA ?_))));obtain ⟨H, W, h⟩ := bns h;refine to (six rfl rfl bM.of (bU aG W)) (to (slc rfl aS) (ta (.i H) (aB (aC (aC (aA (tm (.i H) (to (scm rfl rfl rfl) (tm (.b (!decide (H = 0))) ?_)))))))));obtain ⟨O, J, h⟩ := bns h;refine aW 3 [9, 11, 30, 31, 32] 41 O ?_ ?_
      ·refine bch J (fun I J => ?_) (fun I J => ?_)
       ·refine tk I (sm (.i H)) (tk I (scm rfl rfl rfl) (to (spt (.b (!decide (H = 1))) I) ?_));obtain rfl := sIn J;refine aB (aI rfl ⟨rfl, rfl, rfl, rfl, rfl, trivial⟩ rfl)
       ·refine tp I (tp I (to (spf Z6 I) ?_));obtain rfl := sIn J;refine aB (aI rfl ⟨rfl, rfl, rfl, rfl, rfl, trivial⟩ rfl)
      ·refine tm (.b O) ?_;obtain ⟨X, K, h⟩ := bns h;refine aW 7 [9, 11, 30, 31, 32] 49 X ?_ ?_
       ·refine bch K (fun z K => ?_) (fun z K => ?_)
        ·refine tp z (tp z (tp z (tp z (tp z (tp z (to (spt Z17 z) ?_))))));obtain rfl := sIn K;refine aB (aI rfl ⟨rfl, rfl, rfl, rfl, rfl, trivial⟩ rfl)
        ·refine tk z (sm (.bp E 0 0)) (tk z (bJ (aF rfl) rfl) ?_);refine tk z (sf rfl cH) (tkl 3 z rfl rfl sB rfl aS (tk z (scm rfl rfl rfl) (to (spf (.b (decide (0 ≤ m))) z) ?_)));obtain rfl := sIn K;refine aB (aI rfl ⟨rfl, rfl, rfl, rfl, rfl, trivial⟩ rfl)
       ·refine aB ?_;refine tih h (fun Y h => ?_) (fun Y h => ?_)
        ·refine aC (aA (ta Z36 (ta (.i 11) (aB ?_))));obtain rfl := sIn h;refine bK (bC (bE (l := [6, 7]) ⟨rfl, rfl, trivial⟩)) ?_;exact cA ⟨rfl, _, .two _ _, rfl, rfl⟩
        ·refine aY (aA (tm (.bp E 0 0) (tm (.i H) ?_)));obtain ⟨C, Z, h⟩ := bns h;refine eT (aT [3, 0, 1, 2] rfl rfl (le_refl _)) ?_;refine bB rfl (iM (passed := [.box E 0 [.j a.Format.Sets, .j a.Format.Games, .k a.Format.NoAd, .j a.Format.Tie, .j a.Format.To, .j a.Format.LastTie, .j a.Format.LastTo, .j a.Format.First, .j a.Format.Then, .k a.Format.Doubles, .lit L, .j g.A, .j g.B, .j j.A, .j j.B, .j q, .j s, .j t, .j m, .j n, .j e.A, .j e.B, .lit M, .lit N], .arr L 78 2 (x.map aN), .arr M 4 1 (o.map cL), .arr N 228 7 (p.map bD)]) (aF rfl) rfl (.func _ _ call145) rfl rfl (aAz (bL.mk a (cP.mk (dI.mk x g j) q s t m) n e o p) H Z)) ?_;rintro _ ⟨_, _, ⟨a0, a1, a2, rfl, rfl⟩, rfl⟩;refine jD ?_;refine aA (to (sar rfl rfl rfl) (tm (.i (w64 (G + 1))) (aB ?_)));exact ⟨(w64 (G + 1), C.Score.Board.Sets, C.ties, C.games, C.rules, C.Score.Board.Games, C.Score.Board.Points, C.Score.Server, C.Score.Ends, C.Score.Balls, C.Score.Winner, C.first, C.won, a0, a1, a2), h, aT [1, 2, 3, 0] rfl rfl (aM rfl (aR ⟨rfl, rfl, rfl, trivial⟩))⟩
     ·refine cK ?_;refine .inl ⟨rfl, ?_⟩;simp only [aAw] at h;refine aC (aA (tm (.bp E 0 0) (ta (.bp E 0 0) (ta (.i 0) (aB ?_)))));apply aUi [] [.arr L 78 2 (x.map aN), .arr M 4 1 (o.map cL), .arr N 228 7 (p.map bD), .box E 0 [.j a.Format.Sets, .j a.Format.Games, .k a.Format.NoAd, .j a.Format.Tie, .j a.Format.To, .j a.Format.LastTie, .j a.Format.LastTo, .j a.Format.First, .j a.Format.Then, .k a.Format.Doubles, .lit L, .j g.A, .j g.B, .j j.A, .j j.B, .j q, .j s, .j t, .j m, .j n, .j e.A, .j e.B, .lit M, .lit N]] rfl;exact jW (k := 54) (v := .cp [.j a.Format.Sets, .j a.Format.Games, .k a.Format.NoAd, .j a.Format.Tie, .j a.Format.To, .j a.Format.LastTie, .j a.Format.LastTo, .j a.Format.First, .j a.Format.Then, .k a.Format.Doubles, .sl 2 (x.map aN), .j g.A, .j g.B, .j j.A, .j j.B, .j q, .j s, .j t, .j m, .j n, .j e.A, .j e.B, .sl 1 (o.map cL), .sl 7 (p.map bD)]) (iE 3 rfl rfl (dvc (.same _) (dvc (.same _) (dvc (.same _) (dvc (.same _) (dvc (.same _) (dvc (.same _) (dvc (.same _) (dvc (.same _) (dvc (.same _) (dvc (.same _) (dvc (cJ 0 rfl (bR (f := aN) fun _ => rfl)) (dvc (.same _) (dvc (.same _) (dvc (.same _) (dvc (.same _) (dvc (.same _) (dvc (.same _) (dvc (.same _) (dvc (.same _) (dvc (.same _) (dvc (.same _) (dvc (.same _) (dvc (cJ 1 rfl (bR (f := cL) fun _ => rfl)) (dvc (cJ 2 rfl (bR (f := bD) fun _ => rfl)) dvn))))))))))))))))))))))))) (jW (k := 9) (v := .cp [.j a.Format.Sets, .j a.Format.Games, .k a.Format.NoAd, .j a.Format.Tie, .j a.Format.To, .j a.Format.LastTie, .j a.Format.LastTo, .j a.Format.First, .j a.Format.Then, .k a.Format.Doubles, .sl 2 (x.map aN), .j g.A, .j g.B, .j j.A, .j j.B, .j q, .j s, .j t, .j m, .j n, .j e.A, .j e.B, .sl 1 (o.map cL), .sl 7 (p.map bD)]) (iE 3 rfl rfl (dvc (.same _) (dvc (.same _) (dvc (.same _) (dvc (.same _) (dvc (.same _) (dvc (.same _) (dvc (.same _) (dvc (.same _) (dvc (.same _) (dvc (.same _) (dvc (cJ 0 rfl (bR (f := aN) fun _ => rfl)) (dvc (.same _) (dvc (.same _) (dvc (.same _) (dvc (.same _) (dvc (.same _) (dvc (.same _) (dvc (.same _) (dvc (.same _) (dvc (.same _) (dvc (.same _) (dvc (.same _) (dvc (cJ 1 rfl (bR (f := cL) fun _ => rfl)) (dvc (cJ 2 rfl (bR (f := bD) fun _ => rfl)) dvn))))))))))))))))))))))))) (jW (k := 6) (v := .cp [.j a.Format.Sets, .j a.Format.Games, .k a.Format.NoAd, .j a.Format.Tie, .j a.Format.To, .j a.Format.LastTie, .j a.Format.LastTo, .j a.Format.First, .j a.Format.Then, .k a.Format.Doubles, .sl 2 (x.map aN), .j g.A, .j g.B, .j j.A, .j j.B, .j q, .j s, .j t, .j m, .j n, .j e.A, .j e.B, .sl 1 (o.map cL), .sl 7 (p.map bD)]) (iE 3 rfl rfl (dvc (.same _) (dvc (.same _) (dvc (.same _) (dvc (.same _) (dvc (.same _) (dvc (.same _) (dvc (.same _) (dvc (.same _) (dvc (.same _) (dvc (.same _) (dvc (cJ 0 rfl (bR (f := aN) fun _ => rfl)) (dvc (.same _) (dvc (.same _) (dvc (.same _) (dvc (.same _) (dvc (.same _) (dvc (.same _) (dvc (.same _) (dvc (.same _) (dvc (.same _) (dvc (.same _) (dvc (.same _) (dvc (cJ 1 rfl (bR (f := cL) fun _ => rfl)) (dvc (cJ 2 rfl (bR (f := bD) fun _ => rfl)) dvn))))))))))))))))))))))))) (uB _ _)));obtain rfl := sIn h;exact cA ⟨rfl, _, .two _ _, rfl, rfl⟩

theorem aLg (c : eU) (b : Int) (a : List Int) {r : cP × Int} (h : aAm c b a = some r) : Fn Tryz.prog 29 [.agg (cU c), .i b, .d (Z4 a)] (.tup [.agg (jF r.1), .i r.2]) := by
 unfold aAm at h;refine iP func29 rfl (rs := [.cell 6 82, .tmp 7]) results29 ntmps29 (Nat.le_of_ble_eq_true rfl) ?_;refine aC (aA ?_);refine bB rfl (cO (v := .agg (cU c)) (aF rfl) rfl rfl rfl) ?_;rintro _ ⟨b1, rfl⟩;refine bB rfl (cD (zs := Z16) (aF rfl) zeroValue82 rfl rfl) ?_;rintro _ ⟨b2, rfl⟩;refine ta (.i 0) (aB (aC (aA (to (sla 0 (cU c) rfl rfl yO) (tm (.i b) (tm (Z35 a) ?_))))));obtain ⟨r3, h4, h⟩ := bns h;refine to (eM (aF rfl) (.func _ _ call83) rfl rfl (aLh _ _ _ h4)) ?_;refine tm (.tup [cN eG r3.1, .i r3.2]) (to (sex rfl rfl) (to (sex rfl rfl) (ta (cN eG r3.1) (ta (.i r3.2) (aB (aC (aC (aA (tm (.i r3.2) (to (scm rfl rfl rfl) (aB ?_)))))))))));refine tih h (fun c5 h => ?_) (fun c5 h => ?_)
 ·refine aC (aA (to (dG (aF rfl) aUh (zs := Z16) rfl rfl rfl rfl (es := Z16) rfl) ?_));refine tm (.i r3.2) (to (sst 1 rfl rfl sizeOf82 Z27) (ta (.i r3.2) (aB ?_)));obtain rfl := sIn h;exact cA ⟨rfl, _, [.box b1 0 (cU c), .box b2 0 Z27], .two (.cell 6 82 rfl (i := 1) rfl aJm (es := Z27) rfl rfl) (.tmp 7 (v := .i r3.2) rfl), .refl _, .same _⟩
 ·refine aY (aC (aA (tm (cN eG r3.1) ?_)));obtain ⟨x6, h7, h⟩ := bns h;refine to (aDp (enc := eG) (aF rfl) rfl h7) ?_;refine to (sfc [.sl 2 (x6.Score.Board.Sets.map aN), .j x6.Score.Board.Games.A, .j x6.Score.Board.Games.B, .j x6.Score.Board.Points.A, .j x6.Score.Board.Points.B, .j x6.Score.Server, .j x6.Score.Ends, .j x6.Score.Balls, .j x6.Score.Winner] rfl cH) (to (yM (jF x6.Score) rfl aJm) (to (sst 1 rfl rfl sizeOf82 (jF x6.Score)) (ta (.i 0) (aB ?_))));obtain rfl := sIn h;exact cA ⟨rfl, _, [.box b1 0 (cU c), .box b2 0 (jF x6.Score)], .two (.cell 6 82 rfl (i := 1) rfl aJm (es := (jF x6.Score)) rfl rfl) (.tmp 7 (v := .i 0) rfl), .refl _, .same _⟩

theorem aIn (a0 : aJ) (a1 : List aE) (a2 : Int) (a3 : Int) {r : (List Int) × Int} (h : vD a0 a1 a2 a3 = some r) : Fn Tryz.prog 43 [.agg (bF a0), .d (Z20 a1), .i a2, .i a3] ((fun x : (List Int) × Int => .tup [.d (.sl 1 (x.1.map aG)), .i x.2]) r) := aKe (enc := fun x : (List Int) × Int => .tup [.d (.sl 1 (x.1.map aG)), .i x.2]) (aIm a0 a1 a2 a3 (aFh a0 a1 a2 a3 h (fun x => x = r) rfl))

theorem jN {r : Bool} (h : dS = some r) : Fn Tryz.prog 22 [] (.b r) := by
 unfold dS at h;refine oT [.tmp 0] func22 results22 ntmps22 ?_;refine aC (aA (ta Z6 (aB (aC (aA ?_)))));obtain ⟨r1, h2, h⟩ := bns h;refine to (eM (aF rfl) (.func _ _ call47) rfl rfl (zG h2)) ?_;refine tm (.tup [.agg (aK r1.1), .agg (aK r1.2)]) (to (sex rfl rfl) (to (sex rfl rfl) ?_));refine bB rfl (cD (zs := [.j 0, .j 0, .sl 3 Z37, .sl 1 Z13]) (aF rfl) zeroValue25 rfl rfl) ?_;rintro _ ⟨b3, rfl⟩;refine bB rfl (cD (zs := [.j 0, .j 0, .sl 3 Z37, .sl 1 Z13]) (aF rfl) zeroValue25 rfl rfl) ?_;rintro _ ⟨b4, rfl⟩;refine to (sst 0 rfl rfl sizeOf25 (aK r1.1)) (to (sst 1 rfl rfl sizeOf25 (aK r1.2)) (aB (aC (aA (to (sla 0 (aK r1.1) rfl rfl dO) ?_)))));obtain ⟨r5, h6, h⟩ := bns h;refine to (eM (aF rfl) (.func _ _ call12) rfl rfl (aJs _ h6)) ?_;refine tm (.tup [.d (.sl 1 (r5.1.map aG)), .i r5.2]) (to (sex rfl rfl) (to (sex rfl rfl) (ta (.d (.sl 1 (r5.1.map aG))) (ta (.i r5.2) (aB (aC (aA ?_)))))));obtain ⟨r7, h8, h⟩ := bns h;refine to (eM (aF rfl) (.func _ _ call48) rfl rfl (zH h8)) ?_;refine tm (.tup [.agg (bF r7.1), .d (.sl 5 (r7.2.map aO))]) (to (sex rfl rfl) (to (sex rfl rfl) ?_));refine bB rfl (cD (zs := [.j 0, .sl 1 Z13]) (aF rfl) zeroValue38 rfl rfl) ?_;rintro _ ⟨b9, rfl⟩;refine to (sst 2 rfl rfl sizeOf38 (bF r7.1)) (ta (.d (.sl 5 (r7.2.map aO))) (aB (aC (aA (to (sla 2 (bF r7.1) rfl rfl nX) (tm (.d (.sl 5 (r7.2.map aO))) ?_))))));obtain ⟨f, B, h⟩ := bns h;refine to (eM (aF rfl) (.func _ _ call43) rfl rfl (aIn _ _ _ _ B)) ?_;refine tm (.tup [.d (.sl 1 (f.1.map aG)), .i f.2]) (to (sex rfl rfl) (to (sex rfl rfl) (ta (.d (.sl 1 (f.1.map aG))) (ta (.i f.2) (aB (aC (aA ?_)))))));obtain ⟨o, C, h⟩ := bns h;refine to (eM (aF rfl) (.func _ _ call74) rfl rfl (zF C)) ?_;refine tm (.tup [.agg (cU o.1), .d (.sl 1 (o.2.map aG))]) (to (sex rfl rfl) (to (sex rfl rfl) ?_));refine bB rfl (cD (zs := [.j 0, .j 0, .k false, .j 0, .j 0, .j 0, .j 0, .j 0, .j 0, .k false]) (aF rfl) zeroValue72 rfl rfl) ?_;rintro _ ⟨H, rfl⟩;refine to (sst 3 rfl rfl sizeOf72 (cU o.1)) (ta (.d (.sl 1 (o.2.map aG))) (aB (aC (aA (to (sla 3 (cU o.1) rfl rfl yO) (tm (.d (.sl 1 (o.2.map aG))) ?_))))));obtain ⟨j, E, h⟩ := bns h;refine to (eM (aF rfl) (.func _ _ call29) rfl rfl (aLg _ _ _ E)) ?_;refine tm (.tup [.agg (jF j.1), .i j.2]) (to (sex rfl rfl) (to (sex rfl rfl) ?_));refine bB rfl (cD (zs := Z16) (aF rfl) zeroValue82 rfl rfl) ?_;rintro _ ⟨I, rfl⟩;refine to (sst 4 rfl rfl sizeOf82 (jF j.1)) (ta (.i j.2) (aB (aC (aA (tm (.i r5.2) (to (scm rfl rfl rfl) (tm (.b (decide (r5.2 = 0))) ?_)))))));obtain ⟨v, p, h⟩ := bns h;refine aW 3 [3, 7, 11, 12] 47 v ?_ ?_
 ·refine bch p (fun k p => ?_) (fun k p => ?_)
  ·refine tk k (sm (.i f.2)) (tk k (scm rfl rfl rfl) (to (spt (.b (decide (f.2 = 0))) k) ?_));obtain rfl := sIn p;refine aB (aI rfl ⟨rfl, rfl, rfl, rfl, trivial⟩ rfl)
  ·refine tp k (tp k (to (spf Z6 k) ?_));obtain rfl := sIn p;refine aB (aI rfl ⟨rfl, rfl, rfl, rfl, trivial⟩ rfl)
 ·refine tm (.b v) ?_;obtain ⟨w, q, h⟩ := bns h;refine aW 3 [3, 7, 11] 51 w ?_ ?_
  ·refine bch q (fun m q => ?_) (fun m q => ?_)
   ·refine tk m (sm (.i j.2)) (tk m (scm rfl rfl rfl) (to (spt (.b (decide (j.2 = 0))) m) ?_));obtain rfl := sIn q;refine aB (aI rfl ⟨rfl, rfl, rfl, trivial⟩ rfl)
   ·refine tp m (tp m (to (spf Z6 m) ?_));obtain rfl := sIn q;refine aB (aI rfl ⟨rfl, rfl, rfl, trivial⟩ rfl)
  ·refine tm (.b w) ?_;obtain ⟨x, s, h⟩ := bns h;refine aW 4 [3, 7, 11] 56 x ?_ ?_
   ·refine bch s (fun c s => ?_) (fun c s => ?_)
    ·refine tk c (sm (.d (.sl 1 (r5.1.map aG)))) (tk c (sle rfl bM.of) (tk c (scm rfl rfl rfl) (to (spt (.b (decide ((r5.1.length : Int) = 4))) c) ?_)));obtain rfl := sIn s;refine aB (aI rfl ⟨rfl, rfl, rfl, trivial⟩ rfl)
    ·refine tp c (tp c (tp c (to (spf Z6 c) ?_)));obtain rfl := sIn s;refine aB (aI rfl ⟨rfl, rfl, rfl, trivial⟩ rfl)
   ·refine tm (.b x) ?_;obtain ⟨y, n, h⟩ := bns h;refine aW 5 [7, 11] 62 y ?_ ?_
    ·refine bch n (fun a n => ?_) (fun a n => ?_)
     ·refine tk a (sm (.d (.sl 1 (r5.1.map aG)))) ?_;obtain ⟨F, G, n⟩ := bns n;refine tk a (six rfl rfl bM.of (bU aG G)) (tk a (slc rfl aS) (tk a (scm rfl rfl rfl) (to (spt (.b (decide (F = 10))) a) ?_)));obtain rfl := sIn n;refine aB (aI rfl ⟨rfl, rfl, trivial⟩ rfl)
     ·refine tp a (tp a (tp a (tp a (to (spf Z6 a) ?_))));obtain rfl := sIn n;refine aB (aI rfl ⟨rfl, rfl, trivial⟩ rfl)
    ·refine tm (.b y) ?_;obtain ⟨z, t, h⟩ := bns h;refine aW 4 [11] 67 z ?_ ?_
     ·refine bch t (fun e t => ?_) (fun e t => ?_)
      ·refine tk e (sm (.d (.sl 1 (f.1.map aG)))) (tk e (sle rfl bM.of) (tk e (scm rfl rfl rfl) (to (spt (.b (decide ((f.1.length : Int) = 4))) e) ?_)));obtain rfl := sIn t;refine aB (aI rfl ⟨rfl, trivial⟩ rfl)
      ·refine tp e (tp e (tp e (to (spf Z6 e) ?_)));obtain rfl := sIn t;refine aB (aI rfl ⟨rfl, trivial⟩ rfl)
     ·refine tm (.b z) ?_;obtain ⟨A, u, h⟩ := bns h;refine aW 4 [] 72 A ?_ ?_
      ·refine bch u (fun g u => ?_) (fun g u => ?_)
       ·refine tkl 4 g rfl rfl aEj rfl aS (tk g (scm rfl rfl rfl) (to (spt (.b (decide (j.1.Balls = 2))) g) ?_));obtain rfl := sIn u;refine aB (aI rfl trivial rfl)
       ·refine tp g (tp g (tp g (to (spf Z6 g) ?_)));obtain rfl := sIn u;refine aB (aI rfl trivial rfl)
      ·refine ta (.b A) (aB ?_);obtain rfl := sIn h;refine bK (bC (bE (l := [0]) ⟨rfl, trivial⟩)) ?_;exact rt

theorem aDc (a : aU) {r : Int} (h : nG a = some r) : Fn Tryz.prog 23 [.agg (aK a)] (.i r) := by
 unfold nG at h;refine oT [.tmp 2] func23 results23 ntmps23 ?_;refine aC (aA ?_);refine bB rfl (cO (v := .agg (aK a)) (aF rfl) rfl rfl rfl) ?_;rintro _ ⟨b1, rfl⟩;refine ta (.i 0) (aB (aC (aC (aA (tfl 0 rfl rfl dE rfl aS (to (scm rfl rfl rfl) (aB ?_)))))));refine tih h (fun c2 h => ?_) (fun c2 h => ?_)
 ·refine aC (aA (ta (.i 2) (aB ?_)));obtain rfl := sIn h;refine bK (bC (bE (l := [2]) ⟨rfl, trivial⟩)) ?_;exact rt
 ·refine aY (aC (aA (ta (.i 3) (aB ?_))));obtain rfl := sIn h;refine bK (bC (bE (l := [2]) ⟨rfl, trivial⟩)) ?_;exact rt

theorem zI (g : aU) (a : List Int) {r : Bool} (h : kW g a = some r) : Fn Tryz.prog 85 (Z53 g a) (.b r) := by
 unfold kW at h;refine oT [.tmp 4] func85 results85 ntmps85 ?_;refine aC (aA ?_);refine bB rfl (cO (v := .agg (aK g)) (aF rfl) rfl rfl rfl) ?_;rintro _ ⟨b1, rfl⟩;refine ta Z6 (aB (aC (aC (aA (ta (.i 0) (aB (bT ?_)))))));refine cW (S := Int) [1, 2] (fun s2 => [(5, .i s2)]) (fun s2 => [.box b1 0 (aK g)]) (fun k s2 => fE a g k s2) (fun _ => rfl) (0) h (aT [0] rfl rfl (aM rfl (aR ⟨rfl, rfl, trivial⟩))) ?_;rintro k3 c h;simp only [fE] at h;refine aC (aC (aA (tm (.i c) (tm (Z35 a) (to (sle rfl bM.of) (to (scm rfl rfl rfl) (aB ?_)))))));refine tih h (fun c4 h => ?_) (fun c4 h => ?_)
 ·refine aY (aC (bT (aC ?_)));obtain ⟨x5, h6, h⟩ := bns h;obtain ⟨b7, h8, h⟩ := bns h;refine dJ mix 24 [1, 2, 5] [(35, .b b7)] ?_ ?_
  ·refine bch h8 (fun c9 h8 => ?_) (fun c9 h8 => ?_)
   ·obtain ⟨n, o, h8⟩ := bns h8;obtain ⟨j, p, h8⟩ := bns h8;obtain ⟨y, f, h8⟩ := bns h8;refine bch f (fun e f => ?_) (fun e f => ?_)
    ·obtain rfl := sIn f;obtain rfl := sIn h8;refine ⟨[(12, 0, .d (Z4 a)), (13, 1, .i c), (14, 2, .cp [.j x5]), (15, 3, .i x5), (16, 4, .b (!decide (x5 = (-1)))), (17, 5, .b (!decide (x5 = (-1)))), (18, 6, .agg (aK g)), (19, 7, .d (Z4 a)), (20, 8, .i c), (21, 9, .cp [.j n]), (22, 10, .i n), (23, 11, .i j), (24, 12, .b (decide (j < 0))), (25, 13, .b (decide (j < 0))), (26, 14, .tup []), (27, 15, .tup []), (28, 16, .tup []), (29, 17, .tup []), (30, 18, .tup []), (31, 19, .tup []), (32, 20, .tup []), (33, 21, .tup []), (34, 22, .b true), (35, 23, .b (true))], ?_, ?_⟩
     · exact dk [0, 0, 102, 3, 4, 5, 6, 6, 6, 60809, 610, 60711, 612, 613, 14, 14, 141516, 14, 14, 141819, 1420, 141721, 61422, 623] ⟨go (zm (Z35 a)),
 go (zm (.i c)),
 go (zix rfl rfl bM.of (bU aG h6)),
 go (zlc rfl aS),
 go (zcm rfl rfl rfl),
 go (zm (.b (!decide (x5 = (-1))))),
 gt c9 (zla 0 (aK g) rfl rfl dO),
 gt c9 (zm (Z35 a)),
 gt c9 (zm (.i c)),
 gt c9 (zix rfl rfl bM.of (bU aG o)),
 gt c9 (zlc rfl aS),
 gt c9 fun S hS => dC (aF rfl) (.func _ _ call35) (ev2 (aV hS rfl) (ev2 (aV hS rfl) evn)) rfl (BVs.refl _ _) (kH _ _ p) rfl,
 gt c9 (zcm rfl rfl rfl),
 gt c9 (zm (.b (decide (j < 0)))),
 gp e,
 gp e,
 gp e,
 gp e,
 gp e,
 gp e,
 gp e,
 gp e,
 gt c9 (zpt Z17 e),
 go (zpt Z60 c9), trivial⟩
     · exact bZ (aM rfl (aR ⟨rfl, rfl, rfl, trivial⟩))
    ·obtain ⟨s, t, f⟩ := bns f;obtain ⟨q, u, f⟩ := bns f;obtain ⟨m, w, f⟩ := bns f;obtain rfl := sIn f;obtain rfl := sIn h8;refine ⟨[(12, 0, .d (Z4 a)), (13, 1, .i c), (14, 2, .cp [.j x5]), (15, 3, .i x5), (16, 4, .b (!decide (x5 = (-1)))), (17, 5, .b (!decide (x5 = (-1)))), (18, 6, .agg (aK g)), (19, 7, .d (Z4 a)), (20, 8, .i c), (21, 9, .cp [.j n]), (22, 10, .i n), (23, 11, .i j), (24, 12, .b (decide (j < 0))), (25, 13, .b (decide (j < 0))), (26, 14, .d (Z4 a)), (27, 15, .i c), (28, 16, .d (.sl 1 (s.map aG))), (29, 17, .d (Z4 a)), (30, 18, .i c), (31, 19, .cp [.j q]), (32, 20, .i q), (33, 21, .b m), (34, 22, .b m), (35, 23, .b (m))], ?_, ?_⟩
     · exact dk [0, 0, 102, 3, 4, 5, 6, 6, 6, 60809, 610, 60711, 612, 613, 14, 14, 141516, 14, 14, 141819, 1420, 141721, 61422, 623] ⟨go (zm (Z35 a)),
 go (zm (.i c)),
 go (zix rfl rfl bM.of (bU aG h6)),
 go (zlc rfl aS),
 go (zcm rfl rfl rfl),
 go (zm (.b (!decide (x5 = (-1))))),
 gt c9 (zla 0 (aK g) rfl rfl dO),
 gt c9 (zm (Z35 a)),
 gt c9 (zm (.i c)),
 gt c9 (zix rfl rfl bM.of (bU aG o)),
 gt c9 (zlc rfl aS),
 gt c9 fun S hS => dC (aF rfl) (.func _ _ call35) (ev2 (aV hS rfl) (ev2 (aV hS rfl) evn)) rfl (BVs.refl _ _) (kH _ _ p) rfl,
 gt c9 (zcm rfl rfl rfl),
 gt c9 (zm (.b (decide (j < 0)))),
 gt e (zm (Z35 a)),
 gt e (zm (.i c)),
 gt e fun S hS => tQ (aF rfl) bM.of (aV hS rfl) rfl (bo (aV hS rfl)) (zA aG t),
 gt e (zm (Z35 a)),
 gt e (zm (.i c)),
 gt e (zix rfl rfl bM.of (bU aG u)),
 gt e (zlc rfl aS),
 gt e fun S hS => dC (aF rfl) (.func _ _ call107) (ev2 (aV hS rfl) (ev2 (aV hS rfl) evn)) rfl (BVs.refl _ _) (xE _ _ w) rfl,
 gt c9 (zpf (.b m) e),
 go (zpt (.b (m)) c9), trivial⟩
     · exact bZ (aM rfl (aR ⟨rfl, rfl, rfl, trivial⟩))
   ·obtain rfl := sIn h8;refine ⟨[(12, 0, .d (Z4 a)), (13, 1, .i c), (14, 2, .cp [.j x5]), (15, 3, .i x5), (16, 4, .b (!decide (x5 = (-1)))), (17, 5, .b (!decide (x5 = (-1)))), (18, 6, .tup []), (19, 7, .tup []), (20, 8, .tup []), (21, 9, .tup []), (22, 10, .tup []), (23, 11, .tup []), (24, 12, .tup []), (25, 13, .tup []), (26, 14, .tup []), (27, 15, .tup []), (28, 16, .tup []), (29, 17, .tup []), (30, 18, .tup []), (31, 19, .tup []), (32, 20, .tup []), (33, 21, .tup []), (34, 22, .tup []), (35, 23, .b false)], ?_, ?_⟩
    · exact dk [0, 0, 102, 3, 4, 5, 6, 6, 6, 60809, 610, 60711, 612, 613, 14, 14, 141516, 14, 14, 141819, 1420, 141721, 61422, 623] ⟨go (zm (Z35 a)),
 go (zm (.i c)),
 go (zix rfl rfl bM.of (bU aG h6)),
 go (zlc rfl aS),
 go (zcm rfl rfl rfl),
 go (zm (.b (!decide (x5 = (-1))))),
 gp c9,
 gp c9,
 gp c9,
 gp c9,
 gp c9,
 gp c9,
 gp c9,
 gp c9,
 gq,
 gq,
 gq,
 gq,
 gq,
 gq,
 gq,
 gq,
 gp c9,
 go (zpf Z6 c9), trivial⟩
    · exact bZ (aM rfl (aR ⟨rfl, rfl, rfl, trivial⟩))
  ·refine aB ?_;refine tih h (fun x h => ?_) (fun x h => ?_)
   ·refine aC (aA (ta Z6 (aB ?_)));obtain rfl := sIn h;refine bK (bC (bE (l := [4]) ⟨rfl, trivial⟩)) ?_;exact rt
   ·refine dB ?_;refine aA (tm (.i c) (to (sar rfl rfl rfl) (ta (.i (w64 (c + 1))) (aB ?_))));exact ⟨(w64 (c + 1)), h, aT [0] rfl rfl (aM rfl (aR ⟨rfl, rfl, trivial⟩))⟩
 ·refine cK ?_;refine .inl ⟨rfl, ?_⟩;simp only [oA] at h;refine aC (aA (tm (Z35 a) (to (sle rfl bM.of) (tfl 0 rfl rfl dE rfl aS (to (scm rfl rfl rfl) (ta (.b (decide ((a.length : Int) = g.Size))) (aB ?_)))))));obtain rfl := sIn h;refine bK (bC (bE (l := [4]) ⟨rfl, trivial⟩)) ?_;exact rt

theorem xB (b : aU) (a : List Int) {r : Int} (h : gL b a = some r) : Fn Tryz.prog 32 (Z53 b a) (.i r) := by
 unfold gL at h;refine oT [.tmp 4] func32 results32 ntmps32 ?_;refine aC (aA ?_);refine bB rfl (cO (v := .agg (aK b)) (aF rfl) rfl rfl rfl) ?_;rintro _ ⟨b1, rfl⟩;refine ta (.i 0) (aB (aC (aC (aA (to (sla 0 (aK b) rfl rfl dO) ?_)))));obtain ⟨r2, h3, h⟩ := bns h;refine to (scr call9 (aBg _ h3)) (to (scm rfl rfl rfl) (aB ?_));refine tih h (fun c4 h => ?_) (fun c4 h => ?_)
 ·refine aC (aA (ta (.i 60) (aB ?_)));obtain rfl := sIn h;refine bK (bC (bE (l := [4]) ⟨rfl, trivial⟩)) ?_;exact rt
 ·refine aY (aC (aC (aA (to (sla 0 (aK b) rfl rfl dO) (tm (Z35 a) ?_)))));obtain ⟨r5, h6, h⟩ := bns h;refine to (scr call85 (zI _ _ h6)) (to (sn rfl) (aB ?_));refine tih h (fun c7 h => ?_) (fun c7 h => ?_)
  ·refine aC (aA (ta (.i 61) (aB ?_)));obtain rfl := sIn h;refine bK (bC (bE (l := [4]) ⟨rfl, trivial⟩)) ?_;exact rt
  ·refine aY (aC (aA (ta (.i 0) (aB ?_))));obtain rfl := sIn h;refine bK (bC (bE (l := [4]) ⟨rfl, trivial⟩)) ?_;exact rt

theorem aEb (a : aP) (c : Int) {r : Bool} (h : qX a c = some r) : Fn Tryz.prog 227 [.agg (aL a), .cp [.j c]] (.b r) := by
 unfold qX at h;refine oT [.tmp 3] func227 results227 ntmps227 ?_;refine aC (aA ?_);refine bB rfl (cO (v := .agg (aL a)) (aF rfl) rfl rfl rfl) ?_;rintro _ ⟨b1, rfl⟩;refine ta Z6 (aB (aC (aA (tfl 0 rfl rfl kO rfl aS (to (slc rfl aS) (to (scm rfl rfl rfl) (ta (.b (decide (a.Player = c))) (aB ?_))))))));obtain rfl := sIn h;refine bK (bC (bE (l := [3]) ⟨rfl, trivial⟩)) ?_;exact rt

theorem aGw (b : aU) (a : Int) {r : Int} (h : qJ b a = some r) : Fn Tryz.prog 198 [.agg (aK b), .i a] (.i r) := by
 unfold qJ at h;refine oT [.tmp 4] func198 results198 ntmps198 ?_;refine aC (aA ?_);refine bB rfl (cO (v := .agg (aK b)) (aF rfl) rfl rfl rfl) ?_;rintro _ ⟨b1, rfl⟩;refine bB rfl (cO (v := .i a) (aF rfl) rfl rfl rfl) ?_;rintro _ ⟨b2, rfl⟩;refine ta (.i 0) (aB (aC (aA (tfl 0 rfl rfl eB rfl gJ (to (uW (aF rfl) rfl rfl) ?_)))));obtain ⟨r4, h5, h⟩ := bns h;refine to (sc call199 (nR _ _ 227 [.cp [.j a]] call227 (fun _ _ h => aEb _ _ h) h5) (.cons (.same _) (.cons (aCr (.cons (iE 1 rfl rfl (dvc (.same _) dvn)) .nil)) .nil))) (ta (.i r4) (aB ?_));obtain rfl := sIn h;refine bK (bC (bE (l := [4]) ⟨rfl, trivial⟩)) ?_;exact rt

theorem aFq (e : aU) (c : List Int) {r : (List Int) × Bool} (h : pF e c = some r) : Fn Tryz.prog 147 (Z53 e c) (.tup [.d (.sl 1 (r.1.map aG)), .b r.2]) := by
 unfold pF at h;refine oT [.tmp 4, .tmp 5] func147 results147 ntmps147 ?_;refine aC (aA ?_);refine bB rfl (cO (v := .agg (aK e)) (aF rfl) rfl rfl rfl) ?_;rintro _ ⟨b1, rfl⟩;refine to (lX 1 (aF rfl)) ?_;refine ta Z6 (aB (aC (aA (to (sR 3 1 (.inl rfl) (aF rfl)) ?_))));refine aB (aC (aC (aA (tm (Z35 c) (to (sle rfl bM.of) (tm (.i 0) (aB (bT ?_))))))));refine cW (S := Int × (List Int) × Value) [2, 10, 11] (fun s3 => [(6, .d (.lit s3.2.2)), (12, .i s3.1)]) (fun s3 => [.box b1 0 (aK e), .arr s3.2.2 3 1 (s3.2.1.map aG)]) (fun k s3 => gQ c (c.length : Int) e k s3.1 s3.2.1) (fun _ => rfl) (0, ([] : List Int), (.slice none 0 0)) h (aT [0, 1] rfl rfl (aM rfl (aM rfl (aR ⟨rfl, rfl, rfl, trivial⟩)))) ?_;rintro k5 ⟨g, a, w4⟩ h;simp only [gQ] at h;refine aC (aA (to (scm rfl rfl rfl) (aB (aC ?_))));refine tih h (fun c6 h => ?_) (fun c6 h => ?_)
 ·refine aY (aC (bT (aC (aA ?_))));obtain ⟨x7, h8, h⟩ := bns h;refine to (six rfl rfl bM.of (bU aG h8)) (to (slc rfl aS) (ta (.i x7) (aB (aC (aA (ta (.i (-1)) (aB (aC (aC (aA (tm (.i x7) (to (scm rfl rfl rfl) (aB ?_)))))))))))));refine tih h (fun c9 h => ?_) (fun c9 h => ?_)
  ·refine aC (aA (to (sla 0 (aK e) rfl rfl dO) (tm (.i x7) ?_)));obtain ⟨o, s, h⟩ := bns h;refine to (scr call198 (aGw _ _ s)) (ta (.i o) (aB (aC (aA (tm (.i o) (to (scm rfl rfl rfl) (tm (.b (decide (o < 0))) ?_)))))));obtain ⟨t, n, h⟩ := bns h;refine aW 4 [2, 6, 9, 10, 11, 12] 27 t ?_ ?_
   ·refine bch n (fun j n => ?_) (fun j n => ?_)
    ·refine tp j (tp j (tp j (to (spt Z17 j) ?_)));obtain rfl := sIn n;refine aB (aI rfl ⟨rfl, rfl, rfl, rfl, rfl, rfl, trivial⟩ rfl)
    ·refine tk j (sm (.d (.lit w4))) (tk j (sm (.i o)) ?_);obtain ⟨u, w, n⟩ := bns n;refine tk j (sc call91 (cV _ _ w) (.cons (.d (cJ 1 rfl (bR (f := aG) fun _ => rfl))) (.cons (.same _) .nil))) (to (spf (.b u) j) ?_);obtain rfl := sIn n;refine aB (aI rfl ⟨rfl, rfl, rfl, rfl, rfl, rfl, trivial⟩ rfl)
   ·refine aB ?_;refine tih h (fun x h => ?_) (fun x h => ?_)
    ·refine aC (aA (to (lX 1 (aF rfl)) ?_));refine ta Z6 (aB ?_);obtain rfl := sIn h;refine bK (bC (bE (l := [4, 5]) ⟨rfl, rfl, trivial⟩)) ?_;exact cA ⟨rfl, _, .two _ _, rfl, rfl⟩
    ·refine aY (aA (tm (.d (.lit w4)) (tm (.i o) (to (fH (aF rfl) bM rfl rfl (rows := ([o]).map aG) rfl (bR (f := aG) fun _ => rfl) rfl (by decide)) ?_))));obtain ⟨y, z, h⟩ := bns h;refine bB rfl (iG (i := 1) (aF rfl) bM rfl rfl rfl (fun _ => rfl) z rfl) ?_;rintro _ ⟨p, rfl⟩;refine ta (.d (.lit p)) ?_;refine jD ?_;refine aA (to (sar rfl rfl rfl) (tm (.i (w64 (g + 1))) (aB ?_)));exact ⟨(w64 (g + 1), y, p), h, aT [0, 1] rfl rfl (aM rfl (aM rfl (aR ⟨rfl, rfl, rfl, trivial⟩)))⟩
  ·refine aY (aA (tm (.d (.lit w4)) (tm (.i (-1)) (to (fH (aF rfl) bM rfl rfl (rows := ([(-1)]).map aG) rfl (bR (f := aG) fun _ => rfl) rfl (by decide)) ?_))));obtain ⟨A, B, h⟩ := bns h;refine bB rfl (iG (i := 1) (aF rfl) bM rfl rfl rfl (fun _ => rfl) B rfl) ?_;rintro _ ⟨q, rfl⟩;refine ta (.d (.lit q)) ?_;refine jD ?_;refine aA (to (sar rfl rfl rfl) (tm (.i (w64 (g + 1))) (aB ?_)));exact ⟨(w64 (g + 1), A, q), h, aT [0, 1] rfl rfl (aM rfl (aM rfl (aR ⟨rfl, rfl, rfl, trivial⟩)))⟩
 ·refine cK ?_;refine .inl ⟨rfl, ?_⟩;simp only [rZ] at h;refine aC ?_;refine dJ mix 7 [] [(4, .d (.lit w4)), (38, .b (decide ((a.length : Int) = e.Size)))] ?_ ?_
  ·refine ⟨[(33, 0, .d (.lit w4)), (34, 1, .d (.lit w4)), (35, 2, .i (a.length : Int)), (36, 3, .bp b1 0 0), (37, 4, .i e.Size), (38, 5, .b (decide ((a.length : Int) = e.Size))), (4, 6, .d (.lit w4))], ?_, ?_⟩
   · exact dk [0, 0, 2, 0, 4, 305, 1] ⟨go (zm (.d (.lit w4))),
 go (zm (.d (.lit w4))),
 go fun S hS => qZ (m := 1) (aF rfl) (aV hS rfl) rfl bM.of,
 go (zf rfl dE),
 go (zl 0 rfl rfl rfl aS),
 go (zcm rfl rfl rfl),
 go (za (.d (.lit w4))), trivial⟩
   · exact bZ (aM rfl (aM rfl (aR trivial)))
  ·refine ta (.b (decide ((a.length : Int) = e.Size))) (aB ?_);obtain rfl := sIn h;refine bK (bC (jW (k := 5) (v := .b (decide ((a.length : Int) = e.Size))) (.same _) (jW (k := 4) (v := .d (.sl 1 (a.map aG))) (.d (cJ 1 rfl (bR (f := aG) fun _ => rfl))) (aGr)))) ?_;exact cA ⟨rfl, _, .two _ _, rfl, rfl⟩

theorem aIq (c : aU) (a : List Int) {r : (List Int) × Int} (h : rL c a = some r) : Fn Tryz.prog 90 (Z53 c a) (.tup [.d (.sl 1 (r.1.map aG)), .i r.2]) := by
 unfold rL at h;refine oT [.tmp 4, .tmp 5] func90 results90 ntmps90 ?_;refine aC (aA ?_);refine bB rfl (cO (v := .agg (aK c)) (aF rfl) rfl rfl rfl) ?_;rintro _ ⟨b1, rfl⟩;refine to (lX 1 (aF rfl)) ?_;refine ta (.i 0) (aB (aC (aC (aA (to (sla 0 (aK c) rfl rfl dO) ?_)))));obtain ⟨r2, h3, h⟩ := bns h;refine to (scr call95 (aAr _ h3)) (ta (.i r2) (aB (aC (aA (tm (.i r2) (to (scm rfl rfl rfl) (aB ?_)))))));refine tih h (fun c4 h => ?_) (fun c4 h => ?_)
 ·refine aC (aA (tm (.i r2) (to (lX 1 (aF rfl)) ?_)));refine ta (.i r2) (aB ?_);obtain rfl := sIn h;refine bK (bC (bE (l := [4, 5]) ⟨rfl, rfl, trivial⟩)) ?_;exact cA ⟨rfl, _, .two _ _, rfl, rfl⟩
 ·refine aY (aC (aA (to (sla 0 (aK c) rfl rfl dO) (tm (Z35 a) ?_))));obtain ⟨r5, h6, h⟩ := bns h;refine to (eM (aF rfl) (.func _ _ call147) rfl rfl (aFq _ _ h6)) ?_;refine tm (.tup [.d (.sl 1 (r5.1.map aG)), .b r5.2]) (to (sex rfl rfl) (to (sex rfl rfl) (ta (.d (.sl 1 (r5.1.map aG))) (ta (.b r5.2) (aB (aC (aC (aA (tm (.b r5.2) (to (sn rfl) (aB ?_)))))))))));refine tih h (fun c7 h => ?_) (fun c7 h => ?_)
  ·refine aC (aA (to (lX 1 (aF rfl)) ?_));refine ta (.i 61) (aB ?_);obtain rfl := sIn h;refine bK (bC (bE (l := [4, 5]) ⟨rfl, rfl, trivial⟩)) ?_;exact cA ⟨rfl, _, .two _ _, rfl, rfl⟩
  ·refine aY (aC (aA (tm (.d (.sl 1 (r5.1.map aG))) (ta (.d (.sl 1 (r5.1.map aG))) (ta (.i 0) (aB ?_))))));obtain rfl := sIn h;refine bK (bC (bE (l := [4, 5]) ⟨rfl, rfl, trivial⟩)) ?_;exact cA ⟨rfl, _, .two _ _, rfl, rfl⟩

theorem aFn (G : aU) (x : List Int) (c : List Int) (j : List Int) {r : (List Int) × Int} (h : pE G x c j = some r) : Fn Tryz.prog 34 [.agg (aK G), .d (Z4 x), .d (Z4 c), .d (Z4 j)] (.tup [.d (.sl 1 (r.1.map aG)), .i r.2]) := by
 unfold pE at h;refine oT [.tmp 8, .tmp 9] func34 results34 ntmps34 ?_;refine aC (aA ?_);refine bB rfl (cO (v := .agg (aK G)) (aF rfl) rfl rfl rfl) ?_;rintro _ ⟨b1, rfl⟩;refine to (lX 1 (aF rfl)) ?_;refine ta (.i 0) (aB (aC (aC (aA (to (sla 0 (aK G) rfl rfl dO) (tm (Z35 x) ?_))))));obtain ⟨r2, h3, h⟩ := bns h;refine to (eM (aF rfl) (.func _ _ call90) rfl rfl (aIq _ _ h3)) ?_;refine tm (.tup [.d (.sl 1 (r2.1.map aG)), .i r2.2]) (to (sex rfl rfl) (to (sex rfl rfl) (ta (.d (.sl 1 (r2.1.map aG))) (ta (.i r2.2) (aB (aC (aA (tm (.i r2.2) (to (scm rfl rfl rfl) (aB ?_))))))))));refine tih h (fun c4 h => ?_) (fun c4 h => ?_)
 ·refine aC (aA (tm (.i r2.2) (to (lX 1 (aF rfl)) ?_)));refine ta (.i r2.2) (aB ?_);obtain rfl := sIn h;refine bK (bC (bE (l := [8, 9]) ⟨rfl, rfl, trivial⟩)) ?_;exact cA ⟨rfl, _, .two _ _, rfl, rfl⟩
 ·refine aY (aC (aC (aA (tm (Z35 c) (to (sle rfl bM.of) (tm (.i 0) (aB (bT ?_))))))));refine cW (S := Int) [1, 2, 3, 28, 29] (fun s5 => [(30, .i s5)]) (fun s5 => []) (fun k s5 => iU x c j c (c.length : Int) k s5) (fun _ => rfl) (0) h (aT [] rfl rfl (aM rfl (aR ⟨rfl, rfl, rfl, rfl, rfl, trivial⟩))) ?_;rintro k6 C h;simp only [iU] at h;refine aC (aA (to (scm rfl rfl rfl) (aB (aC ?_))));refine tih h (fun c7 h => ?_) (fun c7 h => ?_)
  ·refine aY (aC (bT (aC (aA ?_))));obtain ⟨x8, h9, h⟩ := bns h;refine to (six rfl rfl bM.of (bU aG h9)) (to (slc rfl aS) (ta (.i x8) (aB (aC (aA (tm (.i x8) (to (scm rfl rfl rfl) (tm (.b (decide (x8 = (-1)))) ?_))))))));obtain ⟨Q, z, h⟩ := bns h;refine aW 5 [1, 2, 3, 28, 29, 30] 41 Q ?_ ?_
   ·refine bch z (fun q z => ?_) (fun q z => ?_)
    ·refine tp q (tp q (tp q (tp q (to (spt Z17 q) ?_))));obtain rfl := sIn z;refine aB (aI rfl ⟨rfl, rfl, rfl, rfl, rfl, rfl, trivial⟩ rfl)
    ·refine tk q (sm (Z35 x)) (tk q (sm (.i x8)) ?_);obtain ⟨T, U, z⟩ := bns z;refine tk q (scr call91 (cV _ _ U)) (tk q (sn rfl) (to (spf (.b (!T)) q) ?_));obtain rfl := sIn z;refine aB (aI rfl ⟨rfl, rfl, rfl, rfl, rfl, rfl, trivial⟩ rfl)
   ·refine aB ?_;refine tih h (fun V h => ?_) (fun V h => ?_)
    ·refine aC (aA (to (lX 1 (aF rfl)) ?_));refine ta (.i 1) (aB ?_);obtain rfl := sIn h;exact cA ⟨rfl, _, .two _ _, rfl, rfl⟩
    ·refine dB ?_;refine aA (to (sar rfl rfl rfl) (tm (.i (w64 (C + 1))) (aB ?_)));exact ⟨(w64 (C + 1)), h, aT [] rfl rfl (aM rfl (aR ⟨rfl, rfl, rfl, rfl, rfl, trivial⟩))⟩
  ·refine cK ?_;refine .inl ⟨rfl, ?_⟩;simp only [mL] at h;refine aC (aC (aA (tm (Z35 j) (to (sle rfl bM.of) (tm (.i 0) (aB (bT ?_)))))));refine cW (S := Int) [1, 2, 3, 43, 44] (fun H => [(45, .i H)]) (fun H => []) (fun k H => iV x c j j (j.length : Int) k H) (fun _ => rfl) (0) h (aT [] rfl rfl (aM rfl (aR ⟨rfl, rfl, rfl, rfl, rfl, trivial⟩))) ?_;rintro b7 n h;simp only [iV] at h;refine aC (aA (to (scm rfl rfl rfl) (aB (aC ?_))));refine tih h (fun W h => ?_) (fun W h => ?_)
   ·refine aY (aC (bT (aC (aA (tm (.i n) ?_)))));obtain ⟨I, X, h⟩ := bns h;refine to (six rfl rfl bM.of (bU aG X)) (to (slc rfl aS) (ta (.i n) (ta (.i I) (aB (aC (aA (tm (.i I) ?_)))))));obtain ⟨Y, Z, h⟩ := bns h;refine to (scr call92 (mF _ _ _ Z)) (to (sn rfl) (tm (.b (!Y)) ?_));obtain ⟨L, A, h⟩ := bns h;refine aW 4 [1, 2, 3, 14, 15, 43, 44, 45] 57 L ?_ ?_
    ·refine bch A (fun t A => ?_) (fun t A => ?_)
     ·refine tp t (tp t (tp t (to (spt Z17 t) ?_)));obtain rfl := sIn A;refine aB (aI rfl ⟨rfl, rfl, rfl, rfl, rfl, rfl, rfl, rfl, trivial⟩ rfl)
     ·refine tk t (sm (Z35 x)) (tk t (sm (.i I)) ?_);obtain ⟨a0, a1, A⟩ := bns A;refine tk t (scr call91 (cV _ _ a1)) (to (spf (.b a0) t) ?_);obtain rfl := sIn A;refine aB (aI rfl ⟨rfl, rfl, rfl, rfl, rfl, rfl, rfl, rfl, trivial⟩ rfl)
    ·refine tm (.b L) ?_;obtain ⟨a2, u, h⟩ := bns h;refine aW 6 [1, 2, 3, 43, 44, 45] 64 a2 ?_ ?_
     ·refine bch u (fun p u => ?_) (fun p u => ?_)
      ·refine tp p (tp p (tp p (tp p (tp p (to (spt Z17 p) ?_)))));obtain rfl := sIn u;refine aB (aI rfl ⟨rfl, rfl, rfl, rfl, rfl, rfl, trivial⟩ rfl)
      ·refine tk p (sm (Z35 j)) (tk p (sm (.i n)) ?_);obtain ⟨b8, a3, u⟩ := bns u;refine tk p (tQ (aF rfl) bM.of rfl rfl rfl (zA aG a3)) ?_;refine tk p (sm (.i I)) ?_;obtain ⟨a4, a5, u⟩ := bns u;refine tk p (scr call91 (cV _ _ a5)) (to (spf (.b a4) p) ?_);obtain rfl := sIn u;refine aB (aI rfl ⟨rfl, rfl, rfl, rfl, rfl, rfl, trivial⟩ rfl)
     ·refine aB ?_;refine tih h (fun a6 h => ?_) (fun a6 h => ?_)
      ·refine aC (aA (to (lX 1 (aF rfl)) ?_));refine ta (.i 1) (aB ?_);obtain rfl := sIn h;exact cA ⟨rfl, _, .two _ _, rfl, rfl⟩
      ·refine dB ?_;refine aA (to (sar rfl rfl rfl) (tm (.i (w64 (n + 1))) (aB ?_)));exact ⟨(w64 (n + 1)), h, aT [] rfl rfl (aM rfl (aR ⟨rfl, rfl, rfl, rfl, rfl, trivial⟩))⟩
   ·refine cK ?_;refine .inl ⟨rfl, ?_⟩;simp only [mM] at h;refine aC (aA (tm (Z35 x) ?_));obtain ⟨M, a7, h⟩ := bns h;refine bB rfl (aAf (aF rfl) (.func _ _ call93) rfl rfl (mQ _ a7)) ?_;rintro _ ⟨o, rfl⟩;refine ta (.d (.lit o)) (aB (aC (aC (aA (tm (.d (.lit o)) (to (qZ (m := 0) (aF rfl) rfl rfl bM.of) ?_))))));refine tm (.i 0) (aB (bT ?_));refine cW (S := (List Int) × Int × (List Int)) [2, 69] (fun y => [(3, .d (.sl 1 (y.1.map aG))), (16, .d (.lit o)), (68, .d (.lit o)), (70, .i y.2.1)]) (fun y => [.arr o 3 1 (y.2.2.map aG)]) (fun k y => fQ c (M.length : Int) k y.1 y.2.1 y.2.2) (fun _ => rfl) (j, 0, M) h (aT [0] rfl rfl (aM rfl (aM rfl (aM rfl (aM rfl (aR ⟨rfl, rfl, trivial⟩)))))) ?_;rintro b9 ⟨e, a, g⟩ h;simp only [fQ] at h;refine aC (aA (to (scm rfl rfl rfl) (aB (aC ?_))));refine tih h (fun a8 h => ?_) (fun a8 h => ?_)
    ·refine aY (aC (bT (aC (aA (tm (.i a) ?_)))));obtain ⟨J, N, h⟩ := bns h;refine to (mC (m := 0) (aF rfl) rfl rfl rfl bM.of (bU aG N)) ?_;refine to (oI (aF rfl) rfl (m := 0) rfl (qQ aG N) rfl aS) ?_;refine ta (.i a) (ta (.i J) (aB (aC (aC (aA (tm (.i J) (to (scm rfl rfl rfl) (tm (.b (decide (J = (-1)))) ?_))))))));obtain ⟨a9, B, h⟩ := bns h;refine aW 5 [2, 3, 16, 17, 68, 69, 70] 82 a9 ?_ ?_
     ·refine bch B (fun s B => ?_) (fun s B => ?_)
      ·refine tp s (tp s (tp s (tp s (to (spt Z17 s) ?_))));obtain rfl := sIn B;refine aB (aI rfl ⟨rfl, rfl, rfl, rfl, rfl, rfl, rfl, trivial⟩ rfl)
      ·refine tk s (sm (Z35 c)) (tk s (sm (.i J)) ?_);obtain ⟨b0, b2, B⟩ := bns B;refine tk s (scr call91 (cV _ _ b2)) (tk s (sn rfl) (to (spf (.b (!b0)) s) ?_));obtain rfl := sIn B;refine aB (aI rfl ⟨rfl, rfl, rfl, rfl, rfl, rfl, rfl, trivial⟩ rfl)
     ·refine aB ?_;refine tih h (fun b3 h => ?_) (fun b3 h => ?_)
      ·refine cK ?_;refine .inl ⟨rfl, ?_⟩;refine aA (to (sar rfl rfl rfl) (tm (.i (w64 (a + 1))) (aB ?_)));exact ⟨(e, w64 (a + 1), g), h, aT [0] rfl rfl (aM rfl (aM rfl (aM rfl (aM rfl (aR ⟨rfl, rfl, trivial⟩)))))⟩
      ·refine aY (aC (aA (tm (.d (.lit o)) (tm (.i a) ?_))));obtain ⟨c0, O, h⟩ := bns h;refine to (mC (m := 0) (aF rfl) rfl rfl rfl bM.of (bU aG O)) ?_;refine to (aAl (l := 0) rfl rfl (qQ aG O) rfl rfl rfl sizeOf3 rfl (aF rfl) (Nat.le_of_ble_eq_true rfl) (rows' := ((g.set a.toNat (-1))).map aG) (aHd _ _ _ _ rfl)) ?_;refine aB (aC (aA (tm (.d (.sl 1 (e.map aG))) (to (sle rfl bM.of) (to (scm rfl rfl rfl) (aB ?_))))));refine tih h (fun b4 h => ?_) (fun b4 h => ?_)
       ·obtain ⟨E, b5, h⟩ := bns h;obtain ⟨K, b6, h⟩ := bns h;obtain ⟨c1, P, h⟩ := bns h;refine fZ mix 9 [2, 16, 68, 69, 70] (fun F => [(95, .d (.sl 1 (K.map aG)))]) (fun F => [.arr o 3 1 (((g.set a.toNat (-1)).set a.toNat E).map aG)]) ?_ ?_
        ·refine ⟨0, fun F => [(89, 0, .d (.lit o)), (90, 1, .i a), (91, 2, .d (.sl 1 (e.map aG))), (92, 3, .cp [.j E]), (93, 4, .i E), (94, 5, .d (.sl 1 (e.map aG))), (95, 6, .d (.sl 1 (K.map aG))), (96, 7, .ep o 1 a.toNat 0)], fun F => [([(8, .arr o 3 1 (((g.set a.toNat (-1)).set a.toNat E).map aG))], .arr o 3 1 ((g.set a.toNat (-1)).map aG))], ?_, ?_⟩
         · exact xok [(0, 9), (0, 9), (0, 9), (3, 9), (4, 9), (0, 0), (6, 0), (102, 9), (508, 0)] ⟨fun _ _ w _ k => xp w (ym k (.d (.lit o))),
 fun _ _ w _ k => xp w (ym k (.i a)),
 fun _ _ w _ k => xp w (ym k (.d (.sl 1 (e.map aG)))),
 fun _ _ w _ k => xp w (yix k rfl rfl bM.of (bU aG b5)),
 fun _ _ w _ k => xp w (ylc k rfl aS),
 fun _ _ w _ k => xp w (ym k (.d (.sl 1 (e.map aG)))),
 fun _ _ w _ k => xp w (tQ (aF rfl) bM.of (aV k rfl) rfl aUu (zA aG b6)),
 fun _ _ w _ k => xp w (yia k 0 rfl (og k rfl rfl) rfl bM.of (bU aG P)),
 fun _ _ _ _ k => xs 0 k rfl rfl (aAl (l := 0) (aV k rfl) (og k rfl rfl) (qQ aG P) (aV k rfl) rfl rfl sizeOf3 rfl (aF rfl) (Nat.le_of_ble_eq_true rfl) (rows' := (((g.set a.toNat (-1)).set a.toNat E)).map aG) (aHd _ _ _ _ rfl)), trivial⟩
         · exact fun F => bZ (aM rfl (aR ⟨rfl, rfl, rfl, rfl, rfl, trivial⟩))
        ·intro F;refine ta (.d (.sl 1 (K.map aG))) ?_;refine jD ?_;refine aA (to (sar rfl rfl rfl) (tm (.i (w64 (a + 1))) (aB ?_)));exact ⟨(K, w64 (a + 1), ((g.set a.toNat (-1)).set a.toNat E)), h, aT [0] rfl rfl (aM rfl (aM rfl (aM rfl (aM rfl (aR ⟨rfl, rfl, trivial⟩)))))⟩
       ·refine dB ?_;refine aA (to (sar rfl rfl rfl) (tm (.i (w64 (a + 1))) (aB ?_)));exact ⟨(e, w64 (a + 1), (g.set a.toNat (-1))), h, aT [0] rfl rfl (aM rfl (aM rfl (aM rfl (aM rfl (aR ⟨rfl, rfl, trivial⟩)))))⟩
    ·refine cK ?_;refine .inl ⟨rfl, ?_⟩;simp only [rY] at h;refine aC (aA (tm (.d (.lit o)) (ta (.d (.lit o)) (ta (.i 0) (aB ?_)))));obtain rfl := sIn h;refine bK (bC (jW (k := 9) (v := .i 0) (.same _) (jW (k := 8) (v := .d (.sl 1 (g.map aG))) (.d (cJ 0 rfl (bR (f := aG) fun _ => rfl))) (aGr)))) ?_;exact cA ⟨rfl, _, .two _ _, rfl, rfl⟩

theorem yB (q : aU) (n : eX) {r : Bool} (h : lV q n = some r) : Fn Tryz.prog 6 [.agg (aK q), .agg (fC n)] (.b r) := by
 unfold lV at h;refine oT [.tmp 4] func6 results6 ntmps6 ?_;refine aC (aA ?_);refine bB rfl (cO (v := .agg (aK q)) (aF rfl) rfl rfl rfl) ?_;rintro _ ⟨b1, rfl⟩;refine bB rfl (cO (v := .agg (fC n)) (aF rfl) rfl rfl rfl) ?_;rintro _ ⟨b2, rfl⟩;refine ta Z6 (aB (aC (aC (aA (tfl 0 rfl rfl eB rfl gJ (to (sle rfl gN.of) (to (scm rfl rfl rfl) (tm (.b (decide (40 < (q.Persons.length : Int)))) ?_))))))));obtain ⟨b3, h4, h⟩ := bns h;refine aW 5 [2, 3] 24 b3 ?_ ?_
 ·refine bch h4 (fun E h4 => ?_) (fun E h4 => ?_)
  ·refine tp E (tp E (tp E (tp E (to (spt Z17 E) ?_))));obtain rfl := sIn h4;refine aB (aI rfl ⟨rfl, rfl, trivial⟩ rfl)
  ·refine tkl 0 E rfl rfl sA rfl cS (tk E (sle rfl bM.of) (tk E (scm rfl rfl rfl) (to (spf (.b (decide (40 < (q.Lots.length : Int)))) E) ?_)));obtain rfl := sIn h4;refine aB (aI rfl ⟨rfl, rfl, trivial⟩ rfl)
 ·refine tm (.b b3) ?_;obtain ⟨b5, h6, h⟩ := bns h;refine aW 5 [2, 3] 30 b5 ?_ ?_
  ·refine bch h6 (fun F h6 => ?_) (fun F h6 => ?_)
   ·refine tp F (tp F (tp F (tp F (to (spt Z17 F) ?_))));obtain rfl := sIn h6;refine aB (aI rfl ⟨rfl, rfl, trivial⟩ rfl)
   ·refine tkl 1 F rfl rfl qO rfl cS (tk F (sle rfl bM.of) (tk F (scm rfl rfl rfl) (to (spf (.b (decide (40 < (n.Sheet.length : Int)))) F) ?_)));obtain rfl := sIn h6;refine aB (aI rfl ⟨rfl, rfl, trivial⟩ rfl)
  ·refine tm (.b b5) ?_;obtain ⟨b7, h8, h⟩ := bns h;refine aW 5 [2, 3] 36 b7 ?_ ?_
   ·refine bch h8 (fun G h8 => ?_) (fun G h8 => ?_)
    ·refine tp G (tp G (tp G (tp G (to (spt Z17 G) ?_))));obtain rfl := sIn h8;refine aB (aI rfl ⟨rfl, rfl, trivial⟩ rfl)
    ·refine tkl 1 G rfl rfl aKd rfl cS (tk G (sle rfl bM.of) (tk G (scm rfl rfl rfl) (to (spf (.b (decide (20 < (n.Players.length : Int)))) G) ?_)));obtain rfl := sIn h8;refine aB (aI rfl ⟨rfl, rfl, trivial⟩ rfl)
   ·refine tm (.b b7) ?_;obtain ⟨b9, V, h⟩ := bns h;refine aW 5 [2, 3] 42 b9 ?_ ?_
    ·refine bch V (fun H V => ?_) (fun H V => ?_)
     ·refine tp H (tp H (tp H (tp H (to (spt Z17 H) ?_))));obtain rfl := sIn V;refine aB (aI rfl ⟨rfl, rfl, trivial⟩ rfl)
     ·refine tkl 1 H rfl rfl zR rfl cS (tk H (sle rfl bM.of) (tk H (scm rfl rfl rfl) (to (spf (.b (decide (20 < (n.Lucky.length : Int)))) H) ?_)));obtain rfl := sIn V;refine aB (aI rfl ⟨rfl, rfl, trivial⟩ rfl)
    ·refine tm (.b b9) ?_;obtain ⟨a6, N, h⟩ := bns h;refine aW 6 [2, 3] 49 a6 ?_ ?_
     ·refine bch N (fun B N => ?_) (fun B N => ?_)
      ·refine tp B (tp B (tp B (tp B (tp B (to (spt Z17 B) ?_)))));obtain rfl := sIn N;refine aB (aI rfl ⟨rfl, rfl, trivial⟩ rfl)
      ·refine tk B (sla 0 (aK q) rfl rfl dO) (tkl 1 B rfl rfl qO rfl cS ?_);obtain ⟨b0, b4, N⟩ := bns N;refine tk B (scr call32 (xB _ _ b4)) (tk B (scm rfl rfl rfl) (to (spf (.b (!decide (b0 = 0))) B) ?_));obtain rfl := sIn N;refine aB (aI rfl ⟨rfl, rfl, trivial⟩ rfl)
     ·refine tm (.b a6) ?_;obtain ⟨b6, O, h⟩ := bns h;refine aW 6 [2, 3] 56 b6 ?_ ?_
      ·refine bch O (fun C O => ?_) (fun C O => ?_)
       ·refine tp C (tp C (tp C (tp C (tp C (to (spt Z17 C) ?_)))));obtain rfl := sIn O;refine aB (aI rfl ⟨rfl, rfl, trivial⟩ rfl)
       ·refine tk C (sla 0 (aK q) rfl rfl dO) (tkl 1 C rfl rfl qO rfl cS ?_);obtain ⟨b8, c0, O⟩ := bns O;refine tk C (scr call33 (aBh _ _ c0)) (tk C (sn rfl) (to (spf (.b (!b8)) C) ?_));obtain rfl := sIn O;refine aB (aI rfl ⟨rfl, rfl, trivial⟩ rfl)
      ·refine aB ?_;refine tih h (fun c1 h => ?_) (fun c1 h => ?_)
       ·refine aC (aA ?_);obtain ⟨c2, c3, h⟩ := bns h;refine to (scr call22 (jN c3)) (ta (.b c2) (aB ?_));obtain rfl := sIn h;refine bK (bC (bE (l := [4]) ⟨rfl, trivial⟩)) ?_;exact rt
       ·refine aY (aC (aA (to (sla 0 (aK q) rfl rfl dO) (tfl 1 rfl rfl qO rfl cS (tfl 1 rfl rfl aKd rfl cS (tfl 1 rfl rfl zR rfl cS ?_))))));obtain ⟨m, c4, h⟩ := bns h;refine to (eM (aF rfl) (.func _ _ call34) rfl rfl (aFn _ _ _ _ c4)) ?_;refine tm (.tup [.d (.sl 1 (m.1.map aG)), .i m.2]) (to (sex rfl rfl) (to (sex rfl rfl) (ta (.d (.sl 1 (m.1.map aG))) (ta (.i m.2) (aB (aC (aC (aA (tm (.i m.2) (to (scm rfl rfl rfl) (aB ?_)))))))))));refine tih h (fun c5 h => ?_) (fun c5 h => ?_)
        ·refine aC (aA (tm (.i m.2) (to (scm rfl rfl rfl) (tm (.b (decide (m.2 = 1))) ?_))));obtain ⟨a7, P, h⟩ := bns h;refine aW 2 [] 75 a7 ?_ ?_
         ·refine bch P (fun W P => ?_) (fun W P => ?_)
          ·obtain ⟨c6, c7, P⟩ := bns P;refine tk W (scr call22 (jN c7)) (to (spt (.b c6) W) ?_);obtain rfl := sIn P;refine aB (aI rfl trivial rfl)
          ·refine tp W (to (spf Z6 W) ?_);obtain rfl := sIn P;refine aB (aI rfl trivial rfl)
         ·refine ta (.b a7) (aB ?_);obtain rfl := sIn h;refine bK (bC (bE (l := [4]) ⟨rfl, trivial⟩)) ?_;exact rt
        ·refine aY (aC (aC (aA (tm (.d (.sl 1 (m.1.map aG))) (to (sle rfl bM.of) (tfl 1 rfl rfl qO rfl cS (to (sle rfl bM.of) (to (scm rfl rfl rfl) (aB ?_)))))))));refine tih h (fun c8 h => ?_) (fun c8 h => ?_)
         ·refine aC (aA (ta Z6 (aB ?_)));obtain rfl := sIn h;refine bK (bC (bE (l := [4]) ⟨rfl, trivial⟩)) ?_;exact rt
         ·refine aY (aC (aC (aA (ta (.i 0) (aB (bT ?_))))));refine cW (S := Int) [2, 3, 5] (fun a1 => [(7, .i a1)]) (fun a1 => [.box b1 0 (aK q), .box b2 0 (fC n)]) (fun k a1 => dY m.1 q n k a1) (fun _ => rfl) (0) h (aT [0, 1] rfl rfl (aM rfl (aR ⟨rfl, rfl, rfl, trivial⟩))) ?_;rintro f8 y h;simp only [dY] at h;refine aC (aC (aA (tm (.i y) (tfl 1 rfl rfl zR rfl cS (to (sle rfl bM.of) (to (scm rfl rfl rfl) (aB ?_)))))));refine tih h (fun c9 h => ?_) (fun c9 h => ?_)
          ·refine aY (aC (bT (aC ?_)));obtain ⟨a3, d0, h⟩ := bns h;refine dJ mix 6 [2, 3, 5, 7] [(89, .agg (aK q)), (94, .i a3)] ?_ ?_
           ·refine ⟨[(89, 0, .agg (aK q)), (90, 1, .bp b2 0 2), (91, 2, .d (.sl 1 (n.Lucky.map aG))), (92, 3, .i y), (93, 4, .cp [.j a3]), (94, 5, .i a3)], ?_, ?_⟩
            · exact dk [0, 0, 2, 0, 304, 5] ⟨go (zla 0 (aK q) rfl rfl dO),
 go (zf rfl zR),
 go (zl 1 rfl rfl rfl cS),
 go (zm (.i y)),
 go (zix rfl rfl bM.of (bU aG d0)),
 go (zlc rfl aS), trivial⟩
            · exact bZ (aM rfl (aM rfl (aR ⟨rfl, rfl, rfl, rfl, trivial⟩)))
           ·obtain ⟨f9, d1, h⟩ := bns h;refine to (scr call35 (kH _ _ d1)) (to (scm rfl rfl rfl) (aB ?_));refine tih h (fun d2 h => ?_) (fun d2 h => ?_)
            ·refine aC (aA ?_);obtain ⟨d3, d4, h⟩ := bns h;refine to (scr call22 (jN d4)) (ta (.b d3) (aB ?_));obtain rfl := sIn h;refine bK (bC (bE (l := [4]) ⟨rfl, trivial⟩)) ?_;exact rt
            ·refine dB ?_;refine aA (tm (.i y) (to (sar rfl rfl rfl) (ta (.i (w64 (y + 1))) (aB ?_))));exact ⟨(w64 (y + 1)), h, aT [0, 1] rfl rfl (aM rfl (aR ⟨rfl, rfl, rfl, trivial⟩))⟩
          ·refine cK ?_;refine .inl ⟨rfl, ?_⟩;simp only [kE] at h;refine aC ?_;obtain ⟨L, d5, h⟩ := bns h;refine fZ mix 6 [3, 5] (fun z => [(8, .bp (z 5).b 0 0), (102, .agg (bF (aJ.mk L n.Sheet)))]) (fun z => [.box b1 0 (aK q), .box b2 0 (fC n), .box (z 5).b 0 Z55]) ?_ ?_
           ·refine ⟨1, fun z => [(98, 0, .agg (aK q)), (99, 1, .i L), (100, 2, .bp b2 0 0), (101, 3, .d (.sl 1 (n.Sheet.map aG))), (102, 4, .agg (bF (aJ.mk L n.Sheet))), (8, 5, .bp (z 5).b 0 0)], fun z => [([], .box b1 0 (aK q)), ([], .box b2 0 (fC n)), ([(5, .box (z 5).b 0 Z55)], nob)], ?_, ?_⟩
            · exact xok [(0, 0), (1, 0), (0, 0), (3, 0), (204, 0), (0, 0)] ⟨fun _ _ w _ k => xp w (yla k 0 (aK q) rfl (og k rfl rfl) dO),
 fun _ _ w _ k => xp w (dC (aF rfl) (.func _ _ call23) (ev2 (aV k rfl) evn) rfl (BVs.refl _ _) (aDc _ d5) rfl),
 fun _ _ w _ k => xp w (yf k rfl qO),
 fun _ _ w _ k => xp w (yl k 1 rfl (og k rfl rfl) rfl cS),
 fun _ _ w _ k => xp w (dG (aF rfl) aPx (zs := [.j 0, .sl 1 Z13]) rfl rfl rfl (pa2 (aV k rfl) (pa2 (aV k rfl) pan)) (es := [.j L, .sl 1 (n.Sheet.map aG)]) rfl),
 fun z S hw hi hS => oG (X := z) (p := 2) (v := fun x => .bp x.b 0 0) (mo := fun x => .box x.b 0 Z55) hS hi rfl rfl (fun _ => rfl) hw (fun _ => rfl) (fun _ => rfl) (fun _ => rfl) (fun _ => ⟨rfl, rfl, .inr rfl, ⟨rfl, rfl, .inr rfl, ⟨rfl, rfl, .inr rfl, ⟨rfl, rfl, .inr rfl, ⟨rfl, rfl, .inr rfl, ⟨rfl, rfl, .inl rfl, trivial⟩⟩⟩⟩⟩⟩) (fun _ => ⟨trivial, rfl, ⟨trivial, rfl, ⟨⟨rfl, .inl rfl, trivial⟩, rfl, trivial⟩⟩⟩) (gV (cD (zs := [.j 0, .sl 1 Z13]) (aF rfl) zeroValue38 rfl rfl) (by rintro _ ⟨w, rfl⟩; exact ⟨⟨w, undef⟩, aT [0, 1, 3] rfl rfl (le_refl _)⟩)), trivial⟩
            · exact fun z => bZ (aM rfl (aM rfl (aR ⟨rfl, rfl, trivial⟩)))
           ·intro z;refine to (sst 2 rfl rfl sizeOf38 (bF (aJ.mk L n.Sheet))) (aB (aC (aA (to (sR 95 5 (.inl rfl) (aF rfl)) ?_))));refine aB (aC (aC (aA (tm (.d (.sl 1 (m.1.map aG))) (to (sle rfl bM.of) (to (sar rfl rfl rfl) (ta (.i (w64 ((m.1.length : Int) - 1))) (aB (bT ?_)))))))));refine cW (S := Int × (List aE) × Value) [3, 5, 8] (fun M => [(9, .d (.lit M.2.2)), (10, .i M.1)]) (fun M => [.box b2 0 (fC n), .box (z 5).b 0 (bF (aJ.mk L n.Sheet)), .arr M.2.2 95 5 (M.2.1.map aO)]) (fun k M => dZ m.1 n (aJ.mk L n.Sheet) k M.1 M.2.1) (fun _ => rfl) (w64 ((m.1.length : Int) - 1), ([] : List aE), (.slice none 0 0)) h (aT [1, 2, 3] rfl rfl (aM rfl (aM rfl (aR ⟨rfl, rfl, rfl, trivial⟩)))) ?_;rintro g0 ⟨e, s, U⟩ h;simp only [dZ] at h;refine aC (aC (aA (tm (.i e) (to (scm rfl rfl rfl) (aB ?_)))));refine tih h (fun d6 h => ?_) (fun d6 h => ?_)
            ·refine aY (aC (bT (aC (aC ?_))));obtain ⟨a4, d7, h⟩ := bns h;obtain ⟨a5, d8, h⟩ := bns h;refine dJ mix 9 [3, 5, 8, 9, 10] [(113, .i a4), (118, .i a5)] ?_ ?_
             ·refine ⟨[(110, 0, .d (.sl 1 (m.1.map aG))), (111, 1, .i e), (112, 2, .cp [.j a4]), (113, 3, .i a4), (114, 4, .bp b2 0 0), (115, 5, .d (.sl 1 (n.Sheet.map aG))), (116, 6, .i e), (117, 7, .cp [.j a5]), (118, 8, .i a5)], ?_, ?_⟩
              · exact dk [0, 0, 102, 3, 0, 5, 0, 607, 8] ⟨go (zm (.d (.sl 1 (m.1.map aG)))),
 go (zm (.i e)),
 go (zix rfl rfl bM.of (bU aG d7)),
 go (zlc rfl aS),
 go (zf rfl qO),
 go (zl 0 rfl rfl rfl cS),
 go (zm (.i e)),
 go (zix rfl rfl bM.of (bU aG d8)),
 go (zlc rfl aS), trivial⟩
              · exact bZ (aM rfl (aM rfl (aR ⟨rfl, rfl, rfl, rfl, rfl, trivial⟩)))
             ·refine to (scm rfl rfl rfl) (aB ?_);refine tih h (fun d9 h => ?_) (fun d9 h => ?_)
              ·refine cK ?_;refine .inl ⟨rfl, ?_⟩;refine aA (tm (.i e) (to (sar rfl rfl rfl) (ta (.i (w64 (e - 1))) (aB ?_))));exact ⟨(w64 (e - 1), s, U), h, aT [0, 1, 2] rfl rfl (aM rfl (aM rfl (aR ⟨rfl, rfl, rfl, trivial⟩)))⟩
              ·refine aY (aC (aC (aA (tm (.d (.sl 1 (m.1.map aG))) (tm (.i e) ?_)))));obtain ⟨g1, e0, h⟩ := bns h;refine to (six rfl rfl bM.of (bU aG e0)) (to (slc rfl aS) (to (scm rfl rfl rfl) (aB ?_)));refine tih h (fun e1 h => ?_) (fun e1 h => ?_)
               ·refine aC (aA ?_);obtain ⟨e2, e3, h⟩ := bns h;refine to (scr call22 (jN e3)) (ta (.b e2) (aB ?_));obtain rfl := sIn h;refine bK (bC (bE (l := [4]) ⟨rfl, trivial⟩)) ?_;exact rt
               ·refine aY ?_;obtain ⟨Q, e4, h⟩ := bns h;obtain ⟨T, e5, h⟩ := bns h;refine dJ mix 13 [3, 5, 8, 10] [(126, .d (.lit U)), (138, .d (.sl 5 ((([(aE.mk 5 0 e Q T)])).map aO)))] ?_ ?_
                ·refine ⟨[(126, 0, .d (.lit U)), (127, 1, .i e), (128, 2, .d (.sl 1 (m.1.map aG))), (129, 3, .i e), (130, 4, .cp [.j Q]), (131, 5, .i Q), (132, 6, .bp b2 0 0), (133, 7, .d (.sl 1 (n.Sheet.map aG))), (134, 8, .i e), (135, 9, .cp [.j T]), (136, 10, .i T), (137, 11, .agg (aO (aE.mk 5 0 e Q T))), (138, 12, .d (.sl 5 ((([(aE.mk 5 0 e Q T)])).map aO)))], ?_, ?_⟩
                 · exact dk [0, 0, 0, 0, 304, 5, 0, 7, 0, 809, 10, 20611, 12] ⟨go (zm (.d (.lit U))),
 go (zm (.i e)),
 go (zm (.d (.sl 1 (m.1.map aG)))),
 go (zm (.i e)),
 go (zix rfl rfl bM.of (bU aG e4)),
 go (zlc rfl aS),
 go (zf rfl qO),
 go (zl 0 rfl rfl rfl cS),
 go (zm (.i e)),
 go (zix rfl rfl bM.of (bU aG e5)),
 go (zlc rfl aS),
 go fun S hS => dG (aF rfl) aCn (zs := [.j 0, .j 0, .j 0, .j 0, .j 0]) rfl rfl rfl (pa2 rfl (pa2 (aV hS rfl) (pa2 (aV hS rfl) (pa2 (aV hS rfl) pan)))) (es := [.j 5, .j 0, .j e, .j Q, .j T]) rfl,
 go fun S hS => fH (aF rfl) xV rfl (pa2 (aV hS rfl) pan) (rows := ([(aE.mk 5 0 e Q T)]).map aO) rfl (bR (f := aO) fun _ => rfl) rfl (by decide), trivial⟩
                 · exact bZ (aM rfl (aM rfl (aR ⟨rfl, rfl, rfl, rfl, trivial⟩)))
                ·obtain ⟨e6, e7, h⟩ := bns h;refine bB rfl (iG (i := 2) (aF rfl) xV rfl rfl rfl (fun _ => rfl) e7 rfl) ?_;rintro _ ⟨a8, rfl⟩;refine ta (.d (.lit a8)) ?_;refine jD ?_;refine aA (tm (.i e) (to (sar rfl rfl rfl) (ta (.i (w64 (e - 1))) (aB ?_))));exact ⟨(w64 (e - 1), e6, a8), h, aT [0, 1, 2] rfl rfl (aM rfl (aM rfl (aR ⟨rfl, rfl, rfl, trivial⟩)))⟩
            ·refine cK ?_;refine .inl ⟨rfl, ?_⟩;simp only [kF] at h;refine aC (aA (to (sla 1 (bF (aJ.mk L n.Sheet)) rfl rfl nX) (tm (.d (.lit U)) ?_)));refine eT (aCs [.box b2 0 (fC n), .box (z 5).b 0 (bF (aJ.mk L n.Sheet))] [.arr U 95 5 (s.map aO)] rfl (jW (k := 142) (v := .d (.sl 5 (s.map aO))) (.d (cJ 0 rfl (bR (f := aO) fun _ => rfl))) (jW (k := 9) (v := .d (.sl 5 (s.map aO))) (.d (cJ 0 rfl (bR (f := aO) fun _ => rfl))) (uB _ _)))) ?_;obtain ⟨I, e8, h⟩ := bns h;refine to (eM (aF rfl) (.func _ _ call36) rfl rfl (aFg _ _ e8)) ?_;refine tm (.tup [.d (.sl 4 (I.1.map dL)), .i I.2]) (to (sex rfl rfl) (to (sex rfl rfl) (ta (.d (.sl 4 (I.1.map dL))) (ta (.i I.2) (aB (aC (aC (aA (tm (.i I.2) (to (scm rfl rfl rfl) (tm (.b (!decide (I.2 = 0))) ?_)))))))))));obtain ⟨e9, Y, h⟩ := bns h;refine aW 7 [5, 11] 155 e9 ?_ ?_
             ·refine bch Y (fun t Y => ?_) (fun t Y => ?_)
              ·refine tp t (tp t (tp t (tp t (tp t (tp t (to (spt Z17 t) ?_))))));obtain rfl := sIn Y;refine aB (aI rfl ⟨rfl, rfl, trivial⟩ rfl)
              ·refine tk t (sm (.d (.sl 4 (I.1.map dL)))) (tk t (sle rfl aJc.of) (tk t (sm (.d (.sl 1 (m.1.map aG)))) (tk t (sle rfl bM.of) (tk t (sar rfl rfl rfl) (tk t (scm rfl rfl rfl) (to (spf (.b (!decide ((I.1.length : Int) = (w64 ((m.1.length : Int) - 1))))) t) ?_))))));obtain rfl := sIn Y;refine aB (aI rfl ⟨rfl, rfl, trivial⟩ rfl)
             ·refine aB ?_;refine tih h (fun f0 h => ?_) (fun f0 h => ?_)
              ·refine aC (aA (ta Z6 (aB ?_)));obtain rfl := sIn h;refine bK (bC (bE (l := [4]) ⟨rfl, trivial⟩)) ?_;exact rt
              ·refine aY (aC (aC (aA (ta (.i 0) (aB (bT ?_))))));refine cW (S := Int) [5, 11] (fun a2 => [(13, .i a2)]) (fun a2 => []) (fun k a2 => dK m.1 I.1 k a2) (fun _ => rfl) (0) h (aT [] rfl rfl (aM rfl (aR ⟨rfl, rfl, trivial⟩))) ?_;rintro g2 a h;simp only [dK] at h;refine aC (aC (aA (tm (.i a) (tm (.d (.sl 1 (m.1.map aG))) (to (sle rfl bM.of) (to (scm rfl rfl rfl) (aB ?_)))))));refine tih h (fun f1 h => ?_) (fun f1 h => ?_)
               ·refine aY (aC (bT (aC (aA (tm (.d (.sl 4 (I.1.map dL))) (tm (.i a) (to (nM (aF rfl) rfl rfl (by decide)) ?_)))))));obtain ⟨c, f2, h⟩ := bns h;refine to (six rfl rfl aJc.of (bU dL f2)) (to (yM (dL c) rfl aOj) ?_);refine bB rfl (cD (zs := [.j 0, .j 0, .j 0, .j 0]) (aF rfl) zeroValue49 rfl rfl) ?_;rintro _ ⟨J, rfl⟩;refine to (sst 0 rfl rfl sizeOf49 (dL c)) (aB (aC ?_));obtain ⟨g3, Z, h⟩ := bns h;obtain ⟨g4, K, h⟩ := bns h;obtain ⟨f3, A, h⟩ := bns h;refine dJ mix 29 [5, 11, 13] [(195, .b f3)] ?_ ?_
                ·refine bch Z (fun o Z => ?_) (fun o Z => ?_)
                 ·obtain rfl := sIn Z;have j : true = true := rfl;have K := pJ j K;obtain rfl := sIn K;have g : true = true := rfl;have A := pJ g A;obtain rfl := sIn A;refine ⟨[(167, 0, .bp J 0 0), (168, 1, .i c.Round), (169, 2, .b (!decide (c.Round = 0))), (170, 3, .b (!decide (c.Round = 0))), (171, 4, .tup []), (172, 5, .tup []), (173, 6, .tup []), (174, 7, .tup []), (175, 8, .tup []), (176, 9, .b true), (177, 10, .b (true)), (178, 11, .tup []), (179, 12, .tup []), (180, 13, .tup []), (181, 14, .tup []), (182, 15, .tup []), (183, 16, .tup []), (184, 17, .tup []), (185, 18, .b true), (186, 19, .b (true)), (187, 20, .tup []), (188, 21, .tup []), (189, 22, .tup []), (190, 23, .tup []), (191, 24, .tup []), (192, 25, .tup []), (193, 26, .tup []), (194, 27, .tup []), (195, 28, .b true)], ?_, ?_⟩
                  · exact dk [0, 1, 2, 3, 4, 405, 4, 407, 40608, 409, 10, 11, 1112, 11, 11, 111415, 1116, 111317, 1118, 19, 20, 2021, 20, 20, 2024, 202325, 2026, 202227, 2028] ⟨go (zf rfl zM),
 go (zl 0 rfl rfl rfl aS),
 go (zcm rfl rfl rfl),
 go (zm (.b (!decide (c.Round = 0)))),
 gp o,
 gp o,
 gp o,
 gp o,
 gp o,
 go (zpt Z17 o),
 go (zm Z60),
 gp j,
 gp j,
 gp j,
 gp j,
 gp j,
 gp j,
 gp j,
 go (zpt Z17 j),
 go (zm Z60),
 gp g,
 gp g,
 gp g,
 gp g,
 gp g,
 gp g,
 gp g,
 gp g,
 go (zpt Z17 g), trivial⟩
                  · exact bZ (aM rfl (aR ⟨rfl, rfl, rfl, trivial⟩))
                 ·obtain rfl := sIn Z;refine bch K (fun j K => ?_) (fun j K => ?_)
                  ·obtain rfl := sIn K;have g : true = true := rfl;have A := pJ g A;obtain rfl := sIn A;refine ⟨[(167, 0, .bp J 0 0), (168, 1, .i c.Round), (169, 2, .b (!decide (c.Round = 0))), (170, 3, .b (!decide (c.Round = 0))), (171, 4, .bp J 0 1), (172, 5, .i c.Place), (173, 6, .i a), (174, 7, .i (w64 (a.tdiv 2))), (175, 8, .b (!decide (c.Place = (w64 (a.tdiv 2))))), (176, 9, .b (!decide (c.Place = (w64 (a.tdiv 2))))), (177, 10, .b (!decide (c.Place = (w64 (a.tdiv 2))))), (178, 11, .tup []), (179, 12, .tup []), (180, 13, .tup []), (181, 14, .tup []), (182, 15, .tup []), (183, 16, .tup []), (184, 17, .tup []), (185, 18, .b true), (186, 19, .b (true)), (187, 20, .tup []), (188, 21, .tup []), (189, 22, .tup []), (190, 23, .tup []), (191, 24, .tup []), (192, 25, .tup []), (193, 26, .tup []), (194, 27, .tup []), (195, 28, .b true)], ?_, ?_⟩
                   · exact dk [0, 1, 2, 3, 4, 405, 4, 407, 40608, 409, 10, 11, 1112, 11, 11, 111415, 1116, 111317, 1118, 19, 20, 2021, 20, 20, 2024, 202325, 2026, 202227, 2028] ⟨go (zf rfl zM),
 go (zl 0 rfl rfl rfl aS),
 go (zcm rfl rfl rfl),
 go (zm (.b (!decide (c.Round = 0)))),
 gt o (zf rfl aEf),
 gt o (zl 0 rfl rfl rfl aS),
 gt o (zm (.i a)),
 gt o fun S hS => nM (aF rfl) (aV hS rfl) rfl (by decide),
 gt o (zcm rfl rfl rfl),
 go (zpf (.b (!decide (c.Place = (w64 (a.tdiv 2))))) o),
 go (zm (.b (!decide (c.Place = (w64 (a.tdiv 2)))))),
 gp j,
 gp j,
 gp j,
 gp j,
 gp j,
 gp j,
 gp j,
 go (zpt Z17 j),
 go (zm Z60),
 gp g,
 gp g,
 gp g,
 gp g,
 gp g,
 gp g,
 gp g,
 gp g,
 go (zpt Z17 g), trivial⟩
                   · exact bZ (aM rfl (aR ⟨rfl, rfl, rfl, trivial⟩))
                  ·obtain ⟨u, a9, K⟩ := bns K;obtain rfl := sIn K;refine bch A (fun g A => ?_) (fun g A => ?_)
                   ·obtain rfl := sIn A;refine ⟨[(167, 0, .bp J 0 0), (168, 1, .i c.Round), (169, 2, .b (!decide (c.Round = 0))), (170, 3, .b (!decide (c.Round = 0))), (171, 4, .bp J 0 1), (172, 5, .i c.Place), (173, 6, .i a), (174, 7, .i (w64 (a.tdiv 2))), (175, 8, .b (!decide (c.Place = (w64 (a.tdiv 2))))), (176, 9, .b (!decide (c.Place = (w64 (a.tdiv 2))))), (177, 10, .b (!decide (c.Place = (w64 (a.tdiv 2))))), (178, 11, .bp J 0 2), (179, 12, .i c.One), (180, 13, .d (.sl 1 (m.1.map aG))), (181, 14, .i a), (182, 15, .cp [.j u]), (183, 16, .i u), (184, 17, .b (!decide (c.One = u))), (185, 18, .b (!decide (c.One = u))), (186, 19, .b (!decide (c.One = u))), (187, 20, .tup []), (188, 21, .tup []), (189, 22, .tup []), (190, 23, .tup []), (191, 24, .tup []), (192, 25, .tup []), (193, 26, .tup []), (194, 27, .tup []), (195, 28, .b true)], ?_, ?_⟩
                    · exact dk [0, 1, 2, 3, 4, 405, 4, 407, 40608, 409, 10, 11, 1112, 11, 11, 111415, 1116, 111317, 1118, 19, 20, 2021, 20, 20, 2024, 202325, 2026, 202227, 2028] ⟨go (zf rfl zM),
 go (zl 0 rfl rfl rfl aS),
 go (zcm rfl rfl rfl),
 go (zm (.b (!decide (c.Round = 0)))),
 gt o (zf rfl aEf),
 gt o (zl 0 rfl rfl rfl aS),
 gt o (zm (.i a)),
 gt o fun S hS => nM (aF rfl) (aV hS rfl) rfl (by decide),
 gt o (zcm rfl rfl rfl),
 go (zpf (.b (!decide (c.Place = (w64 (a.tdiv 2))))) o),
 go (zm (.b (!decide (c.Place = (w64 (a.tdiv 2)))))),
 gt j (zf rfl aJx),
 gt j (zl 0 rfl rfl rfl aS),
 gt j (zm (.d (.sl 1 (m.1.map aG)))),
 gt j (zm (.i a)),
 gt j (zix rfl rfl bM.of (bU aG a9)),
 gt j (zlc rfl aS),
 gt j (zcm rfl rfl rfl),
 go (zpf (.b (!decide (c.One = u))) j),
 go (zm (.b (!decide (c.One = u)))),
 gp g,
 gp g,
 gp g,
 gp g,
 gp g,
 gp g,
 gp g,
 gp g,
 go (zpt Z17 g), trivial⟩
                    · exact bZ (aM rfl (aR ⟨rfl, rfl, rfl, trivial⟩))
                   ·obtain ⟨a0, f4, A⟩ := bns A;obtain rfl := sIn A;refine ⟨[(167, 0, .bp J 0 0), (168, 1, .i c.Round), (169, 2, .b (!decide (c.Round = 0))), (170, 3, .b (!decide (c.Round = 0))), (171, 4, .bp J 0 1), (172, 5, .i c.Place), (173, 6, .i a), (174, 7, .i (w64 (a.tdiv 2))), (175, 8, .b (!decide (c.Place = (w64 (a.tdiv 2))))), (176, 9, .b (!decide (c.Place = (w64 (a.tdiv 2))))), (177, 10, .b (!decide (c.Place = (w64 (a.tdiv 2))))), (178, 11, .bp J 0 2), (179, 12, .i c.One), (180, 13, .d (.sl 1 (m.1.map aG))), (181, 14, .i a), (182, 15, .cp [.j u]), (183, 16, .i u), (184, 17, .b (!decide (c.One = u))), (185, 18, .b (!decide (c.One = u))), (186, 19, .b (!decide (c.One = u))), (187, 20, .bp J 0 3), (188, 21, .i c.Two), (189, 22, .d (.sl 1 (m.1.map aG))), (190, 23, .i a), (191, 24, .i (w64 (a + 1))), (192, 25, .cp [.j a0]), (193, 26, .i a0), (194, 27, .b (!decide (c.Two = a0))), (195, 28, .b (!decide (c.Two = a0)))], ?_, ?_⟩
                    · exact dk [0, 1, 2, 3, 4, 405, 4, 407, 40608, 409, 10, 11, 1112, 11, 11, 111415, 1116, 111317, 1118, 19, 20, 2021, 20, 20, 2024, 202325, 2026, 202227, 2028] ⟨go (zf rfl zM),
 go (zl 0 rfl rfl rfl aS),
 go (zcm rfl rfl rfl),
 go (zm (.b (!decide (c.Round = 0)))),
 gt o (zf rfl aEf),
 gt o (zl 0 rfl rfl rfl aS),
 gt o (zm (.i a)),
 gt o fun S hS => nM (aF rfl) (aV hS rfl) rfl (by decide),
 gt o (zcm rfl rfl rfl),
 go (zpf (.b (!decide (c.Place = (w64 (a.tdiv 2))))) o),
 go (zm (.b (!decide (c.Place = (w64 (a.tdiv 2)))))),
 gt j (zf rfl aJx),
 gt j (zl 0 rfl rfl rfl aS),
 gt j (zm (.d (.sl 1 (m.1.map aG)))),
 gt j (zm (.i a)),
 gt j (zix rfl rfl bM.of (bU aG a9)),
 gt j (zlc rfl aS),
 gt j (zcm rfl rfl rfl),
 go (zpf (.b (!decide (c.One = u))) j),
 go (zm (.b (!decide (c.One = u)))),
 gt g (zf rfl aQs),
 gt g (zl 0 rfl rfl rfl aS),
 gt g (zm (.d (.sl 1 (m.1.map aG)))),
 gt g (zm (.i a)),
 gt g (zar rfl rfl rfl),
 gt g (zix rfl rfl bM.of (bU aG f4)),
 gt g (zlc rfl aS),
 gt g (zcm rfl rfl rfl),
 go (zpf (.b (!decide (c.Two = a0))) g), trivial⟩
                    · exact bZ (aM rfl (aR ⟨rfl, rfl, rfl, trivial⟩))
                ·refine aB ?_;refine tih h (fun f5 h => ?_) (fun f5 h => ?_)
                 ·refine aC (aA (ta Z6 (aB ?_)));obtain rfl := sIn h;refine bK (bC (bE (l := [4]) ⟨rfl, trivial⟩)) ?_;exact rt
                 ·refine dB ?_;refine aA (tm (.i a) (to (sar rfl rfl rfl) (ta (.i (w64 (a + 2))) (aB ?_))));exact ⟨(w64 (a + 2)), h, aT [] rfl rfl (aM rfl (aR ⟨rfl, rfl, trivial⟩))⟩
               ·refine cK ?_;refine .inl ⟨rfl, ?_⟩;simp only [mT] at h;refine aC (aA ?_);obtain ⟨f6, f7, h⟩ := bns h;refine to (scr call22 (jN f7)) (ta (.b f6) (aB ?_));obtain rfl := sIn h;exact rt

end Go.Am
