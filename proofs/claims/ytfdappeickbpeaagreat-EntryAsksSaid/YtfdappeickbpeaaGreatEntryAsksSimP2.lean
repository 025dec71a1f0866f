/- The functions compute what the shallow ones say: printed by program. -/
import Derived.Test.YtfdappeickbpeaaGreatEntryAsksSimP1
namespace Go.Am
open Go.Proofs
open Go.Proofs.Tryz
set_option maxRecDepth 100000
set_option maxHeartbeats 40000000

theorem yJ (c : aN) (e : aO) {r : aN} {o q : Nat} {g : Nat} {y : List Nat} {j : Nat} {u : Value} {s : Value} {t : Value} (h : lU c e = some r) : dW Tryz.prog 80 [.bp o q 0, .agg (aJ e)] (Z13 o q c g u s t y j) (fun r' o' => ∃ (a5 : List Nat) (a6 : Nat) (w2 : Value) (w4 : Value) (w5 : Value), r' = .tup [] ∧ o' = [.box o q [.j r.Field.Places, .j r.Field.Wilds, .j r.Field.Guards, .j r.Field.Close, .j r.Field.Freeze, .lit (.map (some g)), .lit w2, .k r.frozen, .lit w4, .lit w5, .j r.more, .j r.entered], .map g (r.players.map fun p : Int × aA => (VI p.1, (fun v : aA => AV.agg (aG v)) p.2)) a5 a6, .arr w2 3 1 (Z17 r), .arr w4 3 1 (Z16 r), .arr w5 3 1 (Z19 r)]) := by
 unfold lU at h;refine uI func80 rfl (rs := []) results80 ntmps80 (Nat.le_of_ble_eq_true rfl) ?_;refine aF (aC ?_);refine bE rfl (eB (v := .agg (aJ e)) (aM rfl) rfl rfl rfl) ?_;rintro _ ⟨b1, rfl⟩;refine aE (aF ?_);refine eD mix 8 [0, 3] (fun X2 => [(4, .bp (X2 7).b 0 0), (11, .agg (Z71 e c))]) (fun X2 => [.box o q [.j c.Field.Places, .j c.Field.Wilds, .j c.Field.Guards, .j c.Field.Close, .j c.Field.Freeze, .lit (.map (some g)), .lit u, .k c.frozen, .lit s, .lit t, .j c.more, .j c.entered], .map g (c.players.map fun p : Int × aA => (VI p.1, (fun v : aA => AV.agg (aG v)) p.2)) y j, .arr u 3 1 (Z17 c), .arr s 3 1 (Z16 c), .arr t 3 1 (Z19 c), .box b1 0 (aJ e), .box (X2 7).b 0 (aG Z2)]) ?_ ?_
 ·refine ⟨1, fun X2 => [(5, 0, .bp o q 0), (6, 1, .bp o q 0), (7, 2, .bp o q 5), (8, 3, .d (Z23 g)), (9, 4, .bp b1 0 3), (10, 5, .i e.Player), (11, 6, .agg (Z71 e c)), (4, 7, .bp (X2 7).b 0 0)], fun X2 => [([], .box o q [.j c.Field.Places, .j c.Field.Wilds, .j c.Field.Guards, .j c.Field.Close, .j c.Field.Freeze, .lit (.map (some g)), .lit u, .k c.frozen, .lit s, .lit t, .j c.more, .j c.entered]), ([], .map g (c.players.map fun p : Int × aA => (VI p.1, (fun v : aA => AV.agg (aG v)) p.2)) y j), ([], .arr u 3 1 (Z17 c)), ([], .arr s 3 1 (Z16 c)), ([], .arr t 3 1 (Z19 c)), ([], .box b1 0 (aJ e)), ([(7, .box (X2 7).b 0 (aG Z2))], nob)], ?_, ?_⟩
  · exact xok [(0, 0), (1, 0), (2, 0), (3, 0), (0, 0), (5, 0), (406, 0), (0, 0)] ⟨fun _ _ w _ k => xp w (ym k (.bp o q 0)),
 fun _ _ w _ k => xp w (bJ (aM rfl) (aU k rfl)),
 fun _ _ w _ k => xp w (yf k rfl dZ),
 fun _ _ w _ k => xp w (yl k 0 rfl (og k rfl rfl) rfl gF),
 fun _ _ w _ k => xp w (yf k rfl cN),
 fun _ _ w _ k => xp w (yl k 5 rfl (og k rfl rfl) rfl aW),
 fun _ _ w _ k => xp w (aAa (av := (fun v : aA => AV.agg (aG v))) (l := c.players) (z := Z2) (a := e.Player) (m := 1) (aM rfl) iW underlying68 zeroValue94 (fun _ _ => .agg (jY rfl)) (aU k rfl) (og k rfl rfl) rfl (aU k rfl) (dO (kv := VI) e.Player)),
 fun X2 S hw hi hS => eY (X := X2) (p := 6) (v := fun x => .bp x.b 0 0) (mo := fun x => .box x.b 0 (aG Z2)) hS hi rfl rfl (fun _ => rfl) hw (fun _ => rfl) (fun _ => rfl) (fun _ => rfl) (fun _ => ⟨rfl, rfl, .inr rfl, ⟨rfl, rfl, .inr rfl, ⟨rfl, rfl, .inr rfl, ⟨rfl, rfl, .inr rfl, ⟨rfl, rfl, .inr rfl, ⟨rfl, rfl, .inr rfl, ⟨rfl, rfl, .inr rfl, ⟨rfl, rfl, .inl rfl, trivial⟩⟩⟩⟩⟩⟩⟩⟩) (fun _ => ⟨trivial, rfl, ⟨trivial, rfl, ⟨trivial, rfl, ⟨trivial, rfl, ⟨trivial, rfl, ⟨trivial, rfl, ⟨⟨rfl, .inl rfl, trivial⟩, rfl, trivial⟩⟩⟩⟩⟩⟩⟩) (cX (dI (zs := [.k false, .k false, .j 0, .j 0, .k false, .k false, .k false, .k false]) (aM rfl) zeroValue94 rfl rfl) (by rintro _ ⟨w, rfl⟩; exact ⟨⟨w, undef⟩, aS [0, 1, 2, 3, 4, 5, 7] rfl rfl (le_refl _)⟩)), trivial⟩
  · exact fun X2 => bS (aP rfl (aP rfl (aR ⟨rfl, rfl, trivial⟩)))
 ·intro X2;refine to (sst 6 rfl rfl sizeOf94 (Z71 e c)) (aE (aF (aF (aC (tfl 5 rfl rfl oV rfl aW (aE (bH (aF (aF (aC (to (scm rfl rfl rfl) (ta (Z70 e) ?_))))))))))));refine aE ?_;refine tih h (fun c3 h => ?_) (fun c3 h => ?_)
  ·refine bA ?_;refine tih h (fun c4 h => ?_) (fun c4 h => ?_)
   ·refine aF ?_;refine cI mix 7 [0, 3, 4] [(18, .i e.Hour), (23, .i c.Field.Close)] ?_ ?_
    ·refine ⟨[(17, 0, .bp b1 0 1), (18, 1, .i e.Hour), (19, 2, .bp o q 0), (20, 3, .bp o q 0), (21, 4, .bp o q 0), (22, 5, .bp o q 3), (23, 6, .i c.Field.Close)], ?_, ?_⟩
     · exact dk [0, 1, 0, 3, 4, 5, 6] ⟨go (zf rfl cL),
 go (zl 5 rfl rfl rfl aW),
 go (zm (.bp o q 0)),
 go fun S hS => bJ (aM rfl) (aU hS rfl),
 go (zf rfl gU),
 go (zf rfl qH),
 go (zl 0 rfl rfl rfl aW), trivial⟩
     · exact bS (aP rfl (aP rfl (aR ⟨rfl, rfl, rfl, trivial⟩)))
    ·refine to (scm rfl rfl rfl) (tm (.b (decide (e.Hour ≤ c.Field.Close))) ?_);obtain ⟨b5, h6, h⟩ := bns h;refine bG 4 [0, 3, 4] 29 b5 ?_ ?_
     ·refine bch h6 (fun c9 h6 => ?_) (fun c9 h6 => ?_)
      ·refine tkl 6 c9 rfl rfl zI rfl dN (tk c9 (sn rfl) (to (spt (.b (!((Z0 e c).entered))) c9) ?_));obtain rfl := sIn h6;refine aE (aV rfl ⟨rfl, rfl, rfl, trivial⟩ rfl)
      ·refine tp c9 (tp c9 (tp c9 (to (spf Z21 c9) ?_)));obtain rfl := sIn h6;refine aE (aV rfl ⟨rfl, rfl, rfl, trivial⟩ rfl)
     ·refine aE ?_;refine tih h (fun c7 h => ?_) (fun c7 h => ?_)
      ·refine aF (aC (tm (.bp o q 0) (to (bJ (aM rfl) rfl) ?_)));refine tfl 0 rfl rfl wK rfl aW (to (sar rfl rfl rfl) (to (bJ (aM rfl) rfl) ?_));refine to (sf rfl wK) (to (sst 0 rfl rfl sizeOf3 [.j c.Field.Places, .j c.Field.Wilds, .j c.Field.Guards, .j c.Field.Close, .j c.Field.Freeze, .lit (.map (some g)), .lit u, .k c.frozen, .lit s, .lit t, .j c.more, .j (Z53 c)]) (aE ?_));refine eD mix 15 [0, 3, 4] (fun X8 => [(45, .i (Z53 c))]) (fun X8 => [.box o q [.j c.Field.Places, .j c.Field.Wilds, .j c.Field.Guards, .j c.Field.Close, .j c.Field.Freeze, .lit (.map (some g)), .lit u, .k c.frozen, .lit s, .lit t, .j c.more, .j (Z53 c)], .map g (c.players.map fun p : Int × aA => (VI p.1, (fun v : aA => AV.agg (aG v)) p.2)) y j, .arr u 3 1 (Z17 c), .arr s 3 1 (Z16 c), .arr t 3 1 (Z19 c), .box b1 0 (aJ e), .box (X2 7).b 0 (Z20 e c)]) ?_ ?_
       ·refine ⟨0, fun X8 => [(37, 0, .bp b1 0 2), (38, 1, .i e.Kind), (39, 2, .b (Z14 e)), (40, 3, .bp b1 0 4), (41, 4, .i e.Rank), (42, 5, .bp o q 0), (43, 6, .bp o q 0), (44, 7, .bp o q 11), (45, 8, .i (Z53 c)), (46, 9, .bp (X2 7).b 0 0), (47, 11, .bp (X2 7).b 0 1), (48, 13, .bp (X2 7).b 0 2)], fun X8 => [([], .box o q [.j c.Field.Places, .j c.Field.Wilds, .j c.Field.Guards, .j c.Field.Close, .j c.Field.Freeze, .lit (.map (some g)), .lit u, .k c.frozen, .lit s, .lit t, .j c.more, .j (Z53 c)]), ([], .map g (c.players.map fun p : Int × aA => (VI p.1, (fun v : aA => AV.agg (aG v)) p.2)) y j), ([], .arr u 3 1 (Z17 c)), ([], .arr s 3 1 (Z16 c)), ([], .arr t 3 1 (Z19 c)), ([], .box b1 0 (aJ e)), ([(14, .box (X2 7).b 0 (Z20 e c)), (12, .box (X2 7).b 0 (Z31 e c)), (10, .box (X2 7).b 0 (Z29 e c))], .box (X2 7).b 0 (Z71 e c))], ?_, ?_⟩
        · exact xok [(0, 1315), (1, 1315), (2, 1315), (0, 15), (4, 15), (0, 0), (6, 0), (7, 0), (8, 0), (0, 111315), (10, 1315), (11, 1315), (31112, 15), (1113, 15), (5111314, 0)] ⟨fun _ _ w _ k => xp w (yf k rfl oV),
 fun _ _ w _ k => xp w (yl k 5 rfl (og k rfl rfl) rfl aW),
 fun _ _ w _ k => xp w (ycm k rfl rfl rfl),
 fun _ _ w _ k => xp w (yf k rfl kG),
 fun _ _ w _ k => xp w (yl k 5 rfl (og k rfl rfl) rfl aW),
 fun _ _ w _ k => xp w (ym k (.bp o q 0)),
 fun _ _ w _ k => xp w (bJ (aM rfl) (aU k rfl)),
 fun _ _ w _ k => xp w (yf k rfl wK),
 fun _ _ w _ k => xp w (yl k 0 rfl (og k rfl rfl) rfl aW),
 fun _ _ w _ k => xp w (yf k rfl zI),
 fun _ _ _ _ k => xs 6 k rfl rfl (gM (i := 6) (aU k rfl) (og k rfl rfl) rfl rfl rfl sizeOf4 rfl (aM rfl) (Nat.le_of_ble_eq_true rfl) (ds' := (Z29 e c)) rfl),
 fun _ _ w _ k => xp w (yf k rfl zJ),
 fun _ _ _ _ k => xs 6 k rfl rfl (gM (i := 6) (aU k rfl) (og k rfl rfl) (aU k rfl) rfl rfl sizeOf4 rfl (aM rfl) (Nat.le_of_ble_eq_true rfl) (ds' := (Z31 e c)) rfl),
 fun _ _ w _ k => xp w (yf k rfl wL),
 fun _ _ _ _ k => xs 6 k rfl rfl (gM (i := 6) (aU k rfl) (og k rfl rfl) (aU k rfl) rfl rfl sizeOf3 rfl (aM rfl) (Nat.le_of_ble_eq_true rfl) (ds' := (Z20 e c)) rfl), trivial⟩
        · exact fun X8 => bS (aP rfl (aR ⟨rfl, rfl, rfl, trivial⟩))
       ·intro X8;refine to (sf rfl aCf) (to (sst 6 rfl rfl sizeOf3 (aG (Z7 e c))) ?_);refine cG ?_;refine cI mix 7 [] [(134, .d (Z23 g)), (136, .i e.Player), (137, .agg (aG (Z7 e c)))] ?_ ?_
        ·refine ⟨[(131, 0, .bp o q 0), (132, 1, .bp o q 0), (133, 2, .bp o q 5), (134, 3, .d (Z23 g)), (135, 4, .bp b1 0 3), (136, 5, .i e.Player), (137, 6, .agg (aG (Z7 e c)))], ?_, ?_⟩
         · exact dk [0, 1, 2, 3, 0, 5, 0] ⟨go (zm (.bp o q 0)),
 go fun S hS => bJ (aM rfl) (aU hS rfl),
 go (zf rfl dZ),
 go (zl 0 rfl rfl rfl gF),
 go (zf rfl cN),
 go (zl 5 rfl rfl rfl aW),
 go (zla 6 (aG (Z7 e c)) rfl rfl mM), trivial⟩
         · exact bS (aP rfl (aP rfl (aP rfl (aR trivial))))
        ·refine to (fZ (av := (fun v : aA => AV.agg (aG v))) (l := c.players) (v := (Z7 e c)) (a := e.Player) (m := 1) iW underlying68 rfl rfl rfl rfl (dO (kv := VI) e.Player) rfl rfl) ?_;refine aE ?_;obtain rfl := sIn h;exact ⟨_, (Z37 o q c g u s t e y j), [.box b1 0 (aJ e), .box (X2 7).b 0 (aG (Z7 e c))], _, .none, .refl _, .same _, (Z32 e c y j), (Z30 e c j), u, s, t, rfl, rfl⟩
      ·refine bZ ?_;refine cI mix 7 [] [(134, .d (Z23 g)), (136, .i e.Player), (137, .agg (Z71 e c))] ?_ ?_
       ·refine ⟨[(131, 0, .bp o q 0), (132, 1, .bp o q 0), (133, 2, .bp o q 5), (134, 3, .d (Z23 g)), (135, 4, .bp b1 0 3), (136, 5, .i e.Player), (137, 6, .agg (Z71 e c))], ?_, ?_⟩
        · exact dk [0, 1, 2, 3, 0, 5, 0] ⟨go (zm (.bp o q 0)),
 go fun S hS => bJ (aM rfl) (aU hS rfl),
 go (zf rfl dZ),
 go (zl 0 rfl rfl rfl gF),
 go (zf rfl cN),
 go (zl 5 rfl rfl rfl aW),
 go (zla 6 (Z71 e c) rfl rfl mM), trivial⟩
        · exact bS (aP rfl (aP rfl (aP rfl (aR trivial))))
       ·refine to (fZ (av := (fun v : aA => AV.agg (aG v))) (l := c.players) (v := aL e.Player Z2 c.players) (a := e.Player) (m := 1) iW underlying68 rfl rfl rfl rfl (dO (kv := VI) e.Player) rfl rfl) ?_;refine aE ?_;obtain rfl := sIn h;exact ⟨_, (Z5 o q c g u s t e y j), [.box b1 0 (aJ e), .box (X2 7).b 0 (Z71 e c)], _, .none, .refl _, .same _, (Z32 e c y j), (Z30 e c j), u, s, t, rfl, rfl⟩
   ·refine aF (aC (to (scm rfl rfl rfl) (ta (Z50 e) (aE ?_))));refine tih h (fun a7 h => ?_) (fun a7 h => ?_)
    ·refine aF ?_;obtain ⟨e4, Q, h⟩ := bns h;obtain ⟨e5, N, h⟩ := bns h;obtain ⟨a8, L, h⟩ := bns h;refine cI mix 31 [0, 3, 4] [(82, .b a8)] ?_ ?_
     ·refine bch Q (fun H Q => ?_) (fun H Q => ?_)
      ·obtain rfl := sIn Q;refine bch N (fun C N => ?_) (fun C N => ?_)
       ·obtain rfl := sIn N;refine bch L (fun A L => ?_) (fun A L => ?_)
        ·obtain rfl := sIn L;refine ⟨[(52, 0, .bp b1 0 1), (53, 1, .i e.Hour), (54, 2, .bp o q 0), (55, 3, .bp o q 0), (56, 4, .bp o q 0), (57, 5, .bp o q 4), (58, 6, .i c.Field.Freeze), (59, 7, .b (Z18 e c)), (60, 8, .b (Z18 e c)), (61, 9, .bp (X2 7).b 0 6), (62, 10, .b (Z35 e c)), (63, 11, .b (!(Z35 e c))), (64, 12, .b (!(Z35 e c))), (65, 13, .b (!(Z35 e c))), (66, 14, .bp (X2 7).b 0 4), (67, 15, .b (Z54 e c)), (68, 16, .b (!(Z54 e c))), (69, 17, .b (!(Z54 e c))), (70, 18, .b (!(Z54 e c))), (71, 19, .bp o q 0), (72, 20, .bp o q 0), (73, 21, .bp o q 6), (74, 22, .d (.lit u)), (75, 23, .i (c.wilds.length : Int)), (76, 24, .bp o q 0), (77, 25, .bp o q 0), (78, 26, .bp o q 0), (79, 27, .bp o q 1), (80, 28, .i c.Field.Wilds), (81, 29, .b (Z38 c)), (82, 30, .b (Z38 c))], ?_, ?_⟩
         · exact dk [0, 1, 0, 3, 4, 5, 6, 207, 8, 9, 910, 911, 912, 13, 14, 1415, 1416, 1417, 18, 19, 1920, 1921, 1922, 1923, 19, 1925, 1926, 1927, 1928, 192429, 1930] ⟨go (zf rfl cL),
 go (zl 5 rfl rfl rfl aW),
 go (zm (.bp o q 0)),
 go fun S hS => bJ (aM rfl) (aU hS rfl),
 go (zf rfl gU),
 go (zf rfl fY),
 go (zl 0 rfl rfl rfl aW),
 go (zcm rfl rfl rfl),
 go (zm (.b (Z18 e c))),
 gt H (zf rfl kJ),
 gt H (zl 6 rfl rfl rfl dN),
 gt H (zn rfl),
 go (zpt (Z75 e c) H),
 go (zm (Z75 e c)),
 gt C (zf rfl rN),
 gt C (zl 6 rfl rfl rfl dN),
 gt C (zn rfl),
 go (zpt (.b (!(Z54 e c))) C),
 go (zm (.b (!(Z54 e c)))),
 gt A (zm (.bp o q 0)),
 gt A fun S hS => bJ (aM rfl) (aU hS rfl),
 gt A (zf rfl kH),
 gt A (zl 0 rfl rfl rfl cE),
 gt A fun S hS => fJ (m := 2) (aM rfl) (aU hS rfl) rfl bP.of,
 gt A (zm (.bp o q 0)),
 gt A fun S hS => bJ (aM rfl) (aU hS rfl),
 gt A (zf rfl gU),
 gt A (zf rfl tP),
 gt A (zl 0 rfl rfl rfl aW),
 gt A (zcm rfl rfl rfl),
 go (zpt (.b (Z38 c)) A), trivial⟩
         · exact bS (aP rfl (aR ⟨rfl, rfl, rfl, trivial⟩))
        ·obtain rfl := sIn L;refine ⟨[(52, 0, .bp b1 0 1), (53, 1, .i e.Hour), (54, 2, .bp o q 0), (55, 3, .bp o q 0), (56, 4, .bp o q 0), (57, 5, .bp o q 4), (58, 6, .i c.Field.Freeze), (59, 7, .b (Z18 e c)), (60, 8, .b (Z18 e c)), (61, 9, .bp (X2 7).b 0 6), (62, 10, .b (Z35 e c)), (63, 11, .b (!(Z35 e c))), (64, 12, .b (!(Z35 e c))), (65, 13, .b (!(Z35 e c))), (66, 14, .bp (X2 7).b 0 4), (67, 15, .b (Z54 e c)), (68, 16, .b (!(Z54 e c))), (69, 17, .b (!(Z54 e c))), (70, 18, .b (!(Z54 e c))), (71, 19, .tup []), (72, 20, .tup []), (73, 21, .tup []), (74, 22, .tup []), (75, 23, .tup []), (76, 24, .tup []), (77, 25, .tup []), (78, 26, .tup []), (79, 27, .tup []), (80, 28, .tup []), (81, 29, .tup []), (82, 30, .b false)], ?_, ?_⟩
         · exact dk [0, 1, 0, 3, 4, 5, 6, 207, 8, 9, 910, 911, 912, 13, 14, 1415, 1416, 1417, 18, 19, 1920, 1921, 1922, 1923, 19, 1925, 1926, 1927, 1928, 192429, 1930] ⟨go (zf rfl cL),
 go (zl 5 rfl rfl rfl aW),
 go (zm (.bp o q 0)),
 go fun S hS => bJ (aM rfl) (aU hS rfl),
 go (zf rfl gU),
 go (zf rfl fY),
 go (zl 0 rfl rfl rfl aW),
 go (zcm rfl rfl rfl),
 go (zm (.b (Z18 e c))),
 gt H (zf rfl kJ),
 gt H (zl 6 rfl rfl rfl dN),
 gt H (zn rfl),
 go (zpt (Z75 e c) H),
 go (zm (Z75 e c)),
 gt C (zf rfl rN),
 gt C (zl 6 rfl rfl rfl dN),
 gt C (zn rfl),
 go (zpt (.b (!(Z54 e c))) C),
 go (zm (.b (!(Z54 e c)))),
 gp A,
 gp A,
 gp A,
 gp A,
 gp A,
 gp A,
 gp A,
 gp A,
 gp A,
 gp A,
 gp A,
 go (zpf Z21 A), trivial⟩
         · exact bS (aP rfl (aR ⟨rfl, rfl, rfl, trivial⟩))
       ·obtain rfl := sIn N;have A : false = false := rfl;have L := qM A L;obtain rfl := sIn L;refine ⟨[(52, 0, .bp b1 0 1), (53, 1, .i e.Hour), (54, 2, .bp o q 0), (55, 3, .bp o q 0), (56, 4, .bp o q 0), (57, 5, .bp o q 4), (58, 6, .i c.Field.Freeze), (59, 7, .b (Z18 e c)), (60, 8, .b (Z18 e c)), (61, 9, .bp (X2 7).b 0 6), (62, 10, .b (Z35 e c)), (63, 11, .b (!(Z35 e c))), (64, 12, .b (!(Z35 e c))), (65, 13, .b (!(Z35 e c))), (66, 14, .tup []), (67, 15, .tup []), (68, 16, .tup []), (69, 17, .b false), (70, 18, .b (false)), (71, 19, .tup []), (72, 20, .tup []), (73, 21, .tup []), (74, 22, .tup []), (75, 23, .tup []), (76, 24, .tup []), (77, 25, .tup []), (78, 26, .tup []), (79, 27, .tup []), (80, 28, .tup []), (81, 29, .tup []), (82, 30, .b false)], ?_, ?_⟩
        · exact dk [0, 1, 0, 3, 4, 5, 6, 207, 8, 9, 910, 911, 912, 13, 14, 1415, 1416, 1417, 18, 19, 1920, 1921, 1922, 1923, 19, 1925, 1926, 1927, 1928, 192429, 1930] ⟨go (zf rfl cL),
 go (zl 5 rfl rfl rfl aW),
 go (zm (.bp o q 0)),
 go fun S hS => bJ (aM rfl) (aU hS rfl),
 go (zf rfl gU),
 go (zf rfl fY),
 go (zl 0 rfl rfl rfl aW),
 go (zcm rfl rfl rfl),
 go (zm (.b (Z18 e c))),
 gt H (zf rfl kJ),
 gt H (zl 6 rfl rfl rfl dN),
 gt H (zn rfl),
 go (zpt (Z75 e c) H),
 go (zm (Z75 e c)),
 gp C,
 gp C,
 gp C,
 go (zpf Z21 C),
 go (zm Z77),
 gp A,
 gp A,
 gp A,
 gp A,
 gp A,
 gp A,
 gp A,
 gp A,
 gp A,
 gp A,
 gp A,
 go (zpf Z21 A), trivial⟩
        · exact bS (aP rfl (aR ⟨rfl, rfl, rfl, trivial⟩))
      ·obtain rfl := sIn Q;have C : false = false := rfl;have N := qM C N;obtain rfl := sIn N;have A : false = false := rfl;have L := qM A L;obtain rfl := sIn L;refine ⟨[(52, 0, .bp b1 0 1), (53, 1, .i e.Hour), (54, 2, .bp o q 0), (55, 3, .bp o q 0), (56, 4, .bp o q 0), (57, 5, .bp o q 4), (58, 6, .i c.Field.Freeze), (59, 7, .b (Z18 e c)), (60, 8, .b (Z18 e c)), (61, 9, .tup []), (62, 10, .tup []), (63, 11, .tup []), (64, 12, .b false), (65, 13, .b (false)), (66, 14, .tup []), (67, 15, .tup []), (68, 16, .tup []), (69, 17, .b false), (70, 18, .b (false)), (71, 19, .tup []), (72, 20, .tup []), (73, 21, .tup []), (74, 22, .tup []), (75, 23, .tup []), (76, 24, .tup []), (77, 25, .tup []), (78, 26, .tup []), (79, 27, .tup []), (80, 28, .tup []), (81, 29, .tup []), (82, 30, .b false)], ?_, ?_⟩
       · exact dk [0, 1, 0, 3, 4, 5, 6, 207, 8, 9, 910, 911, 912, 13, 14, 1415, 1416, 1417, 18, 19, 1920, 1921, 1922, 1923, 19, 1925, 1926, 1927, 1928, 192429, 1930] ⟨go (zf rfl cL),
 go (zl 5 rfl rfl rfl aW),
 go (zm (.bp o q 0)),
 go fun S hS => bJ (aM rfl) (aU hS rfl),
 go (zf rfl gU),
 go (zf rfl fY),
 go (zl 0 rfl rfl rfl aW),
 go (zcm rfl rfl rfl),
 go (zm (.b (Z18 e c))),
 gp H,
 gp H,
 gp H,
 go (zpf Z21 H),
 go (zm Z77),
 gp C,
 gp C,
 gp C,
 go (zpf Z21 C),
 go (zm Z77),
 gp A,
 gp A,
 gp A,
 gp A,
 gp A,
 gp A,
 gp A,
 gp A,
 gp A,
 gp A,
 gp A,
 go (zpf Z21 A), trivial⟩
       · exact bS (aP rfl (aR ⟨rfl, rfl, rfl, trivial⟩))
     ·refine aE ?_;refine tih h (fun a9 h => ?_) (fun a9 h => ?_)
      ·refine aF (aC (to (sf rfl kJ) (to (sst 6 rfl rfl sizeOf4 (Z62 e c)) (to (sf rfl aGu) (to (sst 6 rfl rfl sizeOf4 (aG (Z6 e c))) (aE ?_))))));obtain ⟨Z, b0, h⟩ := bns h;refine eD mix 9 [0, 3, 4] (fun J => [(85, .bp o q 0), (93, .d (.lit (J 8).v))]) (fun J => [.box o q [.j c.Field.Places, .j c.Field.Wilds, .j c.Field.Guards, .j c.Field.Close, .j c.Field.Freeze, .lit (.map (some g)), .lit u, .k c.frozen, .lit s, .lit t, .j c.more, .j c.entered], .map g (c.players.map fun p : Int × aA => (VI p.1, (fun v : aA => AV.agg (aG v)) p.2)) y j, .arr (J 8).v 3 1 (Z.map aH), .arr s 3 1 (Z16 c), .arr t 3 1 (Z19 c), .box b1 0 (aJ e), .box (X2 7).b 0 (aG (Z6 e c))]) ?_ ?_
       ·refine ⟨0, fun J => [(85, 0, .bp o q 0), (86, 1, .bp o q 0), (87, 2, .bp o q 0), (88, 3, .bp o q 6), (89, 4, .d (.lit u)), (90, 5, .bp b1 0 3), (91, 6, .i e.Player), (92, 7, .d (Z42 e)), (93, 8, .d (.lit (J 8).v))], fun J => [([], .box o q [.j c.Field.Places, .j c.Field.Wilds, .j c.Field.Guards, .j c.Field.Close, .j c.Field.Freeze, .lit (.map (some g)), .lit u, .k c.frozen, .lit s, .lit t, .j c.more, .j c.entered]), ([], .map g (c.players.map fun p : Int × aA => (VI p.1, (fun v : aA => AV.agg (aG v)) p.2)) y j), ([(8, .arr (J 8).v 3 1 (Z.map aH))], .arr u 3 1 (Z17 c)), ([], .arr s 3 1 (Z16 c)), ([], .arr t 3 1 (Z19 c)), ([], .box b1 0 (aJ e)), ([], .box (X2 7).b 0 (aG (Z6 e c)))], ?_, ?_⟩
        · exact xok [(0, 0), (0, 9), (2, 9), (3, 9), (4, 9), (0, 9), (6, 9), (7, 9), (508, 0)] ⟨fun _ _ w _ k => xp w (ym k (.bp o q 0)),
 fun _ _ w _ k => xp w (ym k (.bp o q 0)),
 fun _ _ w _ k => xp w (bJ (aM rfl) (aU k rfl)),
 fun _ _ w _ k => xp w (yf k rfl kH),
 fun _ _ w _ k => xp w (yl k 0 rfl (og k rfl rfl) rfl cE),
 fun _ _ w _ k => xp w (yf k rfl cN),
 fun _ _ w _ k => xp w (yl k 5 rfl (og k rfl rfl) rfl aW),
 fun _ _ w _ k => xp w (dM (aM rfl) bP rfl (pa2 (aU k rfl) pan) (rows := ([e.Player]).map aH) rfl (aZ (f := aH) fun _ => rfl) rfl (by decide)),
 fun J S hw hi hS => eY (X := J) (p := 2) (v := fun x => .d (.lit x.v)) (mo := fun x => .arr x.v 3 1 (Z.map aH)) hS hi rfl rfl (fun _ => rfl) hw (fun _ => rfl) (fun _ => rfl) (fun _ => rfl) (fun _ => ⟨rfl, rfl, .inr rfl, ⟨rfl, rfl, .inr rfl, ⟨rfl, rfl, .inr rfl, ⟨rfl, rfl, .inr rfl, ⟨rfl, rfl, .inr rfl, ⟨rfl, rfl, .inr rfl, ⟨rfl, rfl, .inr rfl, ⟨rfl, rfl, .inr rfl, ⟨rfl, rfl, .inl rfl, trivial⟩⟩⟩⟩⟩⟩⟩⟩⟩) (fun _ => ⟨trivial, rfl, ⟨trivial, rfl, ⟨⟨rfl, .inl rfl, trivial⟩, rfl, ⟨trivial, rfl, ⟨trivial, rfl, ⟨trivial, rfl, ⟨trivial, rfl, trivial⟩⟩⟩⟩⟩⟩⟩) (cX (cO (i := 2) (aM rfl) bP (aU hS rfl) (og hS rfl rfl) (aU hS rfl) (fun _ => rfl) b0 rfl) (by rintro _ ⟨w, rfl⟩; exact ⟨⟨0, w⟩, Ent.refl _⟩)), trivial⟩
        · exact fun J => bS (aP rfl (aP rfl (aR ⟨rfl, rfl, rfl, trivial⟩)))
       ·intro J;refine to (bJ (aM rfl) rfl) ?_;refine to (sf rfl kH) (to (sst 0 rfl rfl sizeOf25 [.j c.Field.Places, .j c.Field.Wilds, .j c.Field.Guards, .j c.Field.Close, .j c.Field.Freeze, .lit (.map (some g)), .lit (J 8).v, .k c.frozen, .lit s, .lit t, .j c.more, .j c.entered]) ?_);refine cG ?_;refine cI mix 7 [] [(134, .d (Z23 g)), (136, .i e.Player), (137, .agg (aG (Z6 e c)))] ?_ ?_
        ·refine ⟨[(131, 0, .bp o q 0), (132, 1, .bp o q 0), (133, 2, .bp o q 5), (134, 3, .d (Z23 g)), (135, 4, .bp b1 0 3), (136, 5, .i e.Player), (137, 6, .agg (aG (Z6 e c)))], ?_, ?_⟩
         · exact dk [0, 1, 2, 3, 0, 5, 0] ⟨go (zm (.bp o q 0)),
 go fun S hS => bJ (aM rfl) (aU hS rfl),
 go (zf rfl dZ),
 go (zl 0 rfl rfl rfl gF),
 go (zf rfl cN),
 go (zl 5 rfl rfl rfl aW),
 go (zla 6 (aG (Z6 e c)) rfl rfl mM), trivial⟩
         · exact bS (aP rfl (aP rfl (aP rfl (aR trivial))))
        ·refine to (fZ (av := (fun v : aA => AV.agg (aG v))) (l := c.players) (v := (Z6 e c)) (a := e.Player) (m := 1) iW underlying68 rfl rfl rfl rfl (dO (kv := VI) e.Player) rfl rfl) ?_;refine aE ?_;obtain rfl := sIn h;exact ⟨_, [.box o q [.j c.Field.Places, .j c.Field.Wilds, .j c.Field.Guards, .j c.Field.Close, .j c.Field.Freeze, .lit (.map (some g)), .lit (J 8).v, .k c.frozen, .lit s, .lit t, .j c.more, .j c.entered], .map g ((cR e.Player (Z6 e c) c.players).map fun p : Int × aA => (VI p.1, (fun v : aA => AV.agg (aG v)) p.2)) (Z32 e c y j) (Z30 e c j), .arr (J 8).v 3 1 (Z.map aH), .arr s 3 1 (Z16 c), .arr t 3 1 (Z19 c)], [.box b1 0 (aJ e), .box (X2 7).b 0 (aG (Z6 e c))], _, .none, .refl _, .same _, (Z32 e c y j), (Z30 e c j), (J 8).v, s, t, rfl, rfl⟩
      ·refine bZ ?_;refine cI mix 7 [] [(134, .d (Z23 g)), (136, .i e.Player), (137, .agg (Z71 e c))] ?_ ?_
       ·refine ⟨[(131, 0, .bp o q 0), (132, 1, .bp o q 0), (133, 2, .bp o q 5), (134, 3, .d (Z23 g)), (135, 4, .bp b1 0 3), (136, 5, .i e.Player), (137, 6, .agg (Z71 e c))], ?_, ?_⟩
        · exact dk [0, 1, 2, 3, 0, 5, 0] ⟨go (zm (.bp o q 0)),
 go fun S hS => bJ (aM rfl) (aU hS rfl),
 go (zf rfl dZ),
 go (zl 0 rfl rfl rfl gF),
 go (zf rfl cN),
 go (zl 5 rfl rfl rfl aW),
 go (zla 6 (Z71 e c) rfl rfl mM), trivial⟩
        · exact bS (aP rfl (aP rfl (aP rfl (aR trivial))))
       ·refine to (fZ (av := (fun v : aA => AV.agg (aG v))) (l := c.players) (v := aL e.Player Z2 c.players) (a := e.Player) (m := 1) iW underlying68 rfl rfl rfl rfl (dO (kv := VI) e.Player) rfl rfl) ?_;refine aE ?_;obtain rfl := sIn h;exact ⟨_, (Z5 o q c g u s t e y j), [.box b1 0 (aJ e), .box (X2 7).b 0 (Z71 e c)], _, .none, .refl _, .same _, (Z32 e c y j), (Z30 e c j), u, s, t, rfl, rfl⟩
    ·refine aF (aC (to (scm rfl rfl rfl) (ta (Z51 e) (aE ?_))));refine tih h (fun b2 h => ?_) (fun b2 h => ?_)
     ·refine aF (aF ?_);obtain ⟨b3, T, h⟩ := bns h;refine cI mix 12 [0, 3, 4] [(109, .b b3)] ?_ ?_
      ·refine bch T (fun E T => ?_) (fun E T => ?_)
       ·obtain rfl := sIn T;refine ⟨[(98, 0, .bp (X2 7).b 0 6), (99, 1, .b (Z35 e c)), (100, 2, .b (Z35 e c)), (101, 3, .bp b1 0 1), (102, 4, .i e.Hour), (103, 5, .bp o q 0), (104, 6, .bp o q 0), (105, 7, .bp o q 0), (106, 8, .bp o q 4), (107, 9, .i c.Field.Freeze), (108, 10, .b (Z57 c e)), (109, 11, .b (Z57 c e))], ?_, ?_⟩
        · exact dk [0, 1, 2, 3, 304, 3, 306, 307, 308, 309, 30510, 311] ⟨go (zf rfl kJ),
 go (zl 6 rfl rfl rfl dN),
 go (zm (.b (Z35 e c))),
 gt E (zf rfl cL),
 gt E (zl 5 rfl rfl rfl aW),
 gt E (zm (.bp o q 0)),
 gt E fun S hS => bJ (aM rfl) (aU hS rfl),
 gt E (zf rfl gU),
 gt E (zf rfl fY),
 gt E (zl 0 rfl rfl rfl aW),
 gt E (zcm rfl rfl rfl),
 go (zpt (.b (Z57 c e)) E), trivial⟩
        · exact bS (aP rfl (aR ⟨rfl, rfl, rfl, trivial⟩))
       ·obtain rfl := sIn T;refine ⟨[(98, 0, .bp (X2 7).b 0 6), (99, 1, .b (Z35 e c)), (100, 2, .b (Z35 e c)), (101, 3, .tup []), (102, 4, .tup []), (103, 5, .tup []), (104, 6, .tup []), (105, 7, .tup []), (106, 8, .tup []), (107, 9, .tup []), (108, 10, .tup []), (109, 11, .b false)], ?_, ?_⟩
        · exact dk [0, 1, 2, 3, 304, 3, 306, 307, 308, 309, 30510, 311] ⟨go (zf rfl kJ),
 go (zl 6 rfl rfl rfl dN),
 go (zm (.b (Z35 e c))),
 gp E,
 gp E,
 gp E,
 gp E,
 gp E,
 gp E,
 gp E,
 gp E,
 go (zpf Z21 E), trivial⟩
        · exact bS (aP rfl (aR ⟨rfl, rfl, rfl, trivial⟩))
      ·refine aE ?_;refine tih h (fun b4 h => ?_) (fun b4 h => ?_)
       ·refine aC (tm (.bp o q 0) (to (bJ (aM rfl) rfl) ?_));refine tfl 0 rfl rfl zH rfl aW (to (sar rfl rfl rfl) (to (bJ (aM rfl) rfl) ?_));refine to (sf rfl zH) (to (sst 0 rfl rfl sizeOf3 [.j c.Field.Places, .j c.Field.Wilds, .j c.Field.Guards, .j c.Field.Close, .j c.Field.Freeze, .lit (.map (some g)), .lit u, .k c.frozen, .lit s, .lit t, .j (Z72 c), .j c.entered]) (aE (aF (aC (to (sf rfl rN) (to (sst 6 rfl rfl sizeOf4 (Z27 e c)) (to (sf rfl kJ) (to (sst 6 rfl rfl sizeOf4 (Z78 e c)) (aE (aC (tm (.bp o q 0) (tm (.bp o q 0) (to (bJ (aM rfl) rfl) ?_)))))))))))));refine tfl 0 rfl rfl kH rfl cE (to (qT (aM rfl) rfl rfl) ?_);refine dF (aS [0, 1, 2, 3, 4, 6, 5] rfl rfl (le_refl _)) ?_;apply vI [.box o q [.j c.Field.Places, .j c.Field.Wilds, .j c.Field.Guards, .j c.Field.Close, .j c.Field.Freeze, .lit (.map (some g)), .lit u, .k c.frozen, .lit s, .lit t, .j (Z72 c), .j c.entered], .map g (c.players.map fun p : Int × aA => (VI p.1, (fun v : aA => AV.agg (aG v)) p.2)) y j, .arr u 3 1 (Z17 c), .arr s 3 1 (Z16 c), .arr t 3 1 (Z19 c), .box (X2 7).b 0 (Z78 e c)] [.box b1 0 (aJ e)] rfl;exact cZ (k := 124) (v := .fn 108 (Z26 e)) (rC (.cons (eH 0 rfl rfl (dvc (.same _) (dvc (.same _) (dvc (.same _) (dvc (.same _) (dvc (.same _) dvn)))))) .nil)) (cZ (k := 3) (v := .cp [.j e.Id, .j e.Hour, .j e.Kind, .j e.Player, .j e.Rank]) (eH 0 rfl rfl (dvc (.same _) (dvc (.same _) (dvc (.same _) (dvc (.same _) (dvc (.same _) dvn)))))) (fU _ _));obtain ⟨b6, b7, h⟩ := bns h;refine dF (aS [2, 0, 1, 3, 4, 5] rfl rfl (le_refl _)) ?_;refine bE rfl (jQ (passed := [.arr u 3 1 (Z17 c)]) (aM rfl) rfl (.func _ _ call64) rfl rfl (eU c.wilds (fun b8 => fT b8 e) 108 (Z26 e) call108 (fun _ _ h => pH _ _ h) b7)) ?_;rintro _ ⟨_, _, ⟨a0, rfl, rfl⟩, rfl⟩;refine to (bJ (aM rfl) rfl) ?_;refine to (sf rfl kH) (to (sst 1 rfl rfl sizeOf25 [.j c.Field.Places, .j c.Field.Wilds, .j c.Field.Guards, .j c.Field.Close, .j c.Field.Freeze, .lit (.map (some g)), .lit a0, .k c.frozen, .lit s, .lit t, .j (Z72 c), .j c.entered]) ?_);refine cG ?_;refine cI mix 7 [] [(134, .d (Z23 g)), (136, .i e.Player), (137, .agg (Z78 e c))] ?_ ?_
        ·refine ⟨[(131, 0, .bp o q 0), (132, 1, .bp o q 0), (133, 2, .bp o q 5), (134, 3, .d (Z23 g)), (135, 4, .cp [.j e.Player]), (136, 5, .i e.Player), (137, 6, .agg (Z78 e c))], ?_, ?_⟩
         · exact dk [0, 1, 2, 3, 0, 5, 0] ⟨go (zm (.bp o q 0)),
 go fun S hS => bJ (aM rfl) (aU hS rfl),
 go (zf rfl dZ),
 go (zl 1 rfl rfl rfl gF),
 go (zfc [.j e.Player] rfl cN),
 go (zlc rfl aW),
 go (zla 5 (Z78 e c) rfl rfl mM), trivial⟩
         · exact bS (aP rfl (aP rfl (aP rfl (aR trivial))))
        ·refine to (fZ (av := (fun v : aA => AV.agg (aG v))) (l := c.players) (v := (Z3 e c)) (a := e.Player) (m := 2) iW underlying68 rfl rfl rfl rfl (dO (kv := VI) e.Player) rfl rfl) ?_;refine aE ?_;obtain rfl := sIn h;exact ⟨_, [.box o q [.j c.Field.Places, .j c.Field.Wilds, .j c.Field.Guards, .j c.Field.Close, .j c.Field.Freeze, .lit (.map (some g)), .lit a0, .k c.frozen, .lit s, .lit t, .j (Z72 c), .j c.entered], .map g ((Z80 e c).map fun p : Int × aA => (VI p.1, (fun v : aA => AV.agg (aG v)) p.2)) (Z32 e c y j) (Z30 e c j), .arr a0 3 1 (b6.map aH), .arr s 3 1 (Z16 c), .arr t 3 1 (Z19 c)], [.box (X2 7).b 0 (Z78 e c)], _, .none, (dU (i := 1) rfl).trans (.cons _ ((dU (i := 1) rfl).trans (.cons _ ((dU (i := 0) rfl).trans (.cons _ ((dU (i := 0) rfl).trans (.cons _ ((dU (i := 0) rfl).trans (.cons _ ((dU (i := 0) rfl).trans (.cons _ (.refl _)))))))))))), .same _, (Z32 e c y j), (Z30 e c j), a0, s, t, rfl, rfl⟩
       ·refine bA (aF (aC (to (sf rfl rN) (to (sst 6 rfl rfl sizeOf4 (Z27 e c)) (to (sf rfl kJ) (to (sst 6 rfl rfl sizeOf4 (Z78 e c)) (aE (aC (tm (.bp o q 0) (tm (.bp o q 0) (to (bJ (aM rfl) rfl) ?_)))))))))));refine tfl 0 rfl rfl kH rfl cE (to (qT (aM rfl) rfl rfl) ?_);refine dF (aS [0, 1, 2, 3, 4, 6, 5] rfl rfl (le_refl _)) ?_;apply vI [.box o q [.j c.Field.Places, .j c.Field.Wilds, .j c.Field.Guards, .j c.Field.Close, .j c.Field.Freeze, .lit (.map (some g)), .lit u, .k c.frozen, .lit s, .lit t, .j c.more, .j c.entered], .map g (c.players.map fun p : Int × aA => (VI p.1, (fun v : aA => AV.agg (aG v)) p.2)) y j, .arr u 3 1 (Z17 c), .arr s 3 1 (Z16 c), .arr t 3 1 (Z19 c), .box (X2 7).b 0 (Z78 e c)] [.box b1 0 (aJ e)] rfl;exact cZ (k := 124) (v := .fn 108 (Z26 e)) (rC (.cons (eH 0 rfl rfl (dvc (.same _) (dvc (.same _) (dvc (.same _) (dvc (.same _) (dvc (.same _) dvn)))))) .nil)) (cZ (k := 3) (v := .cp [.j e.Id, .j e.Hour, .j e.Kind, .j e.Player, .j e.Rank]) (eH 0 rfl rfl (dvc (.same _) (dvc (.same _) (dvc (.same _) (dvc (.same _) (dvc (.same _) dvn)))))) (fU _ _));obtain ⟨b9, c0, h⟩ := bns h;refine dF (aS [2, 0, 1, 3, 4, 5] rfl rfl (le_refl _)) ?_;refine bE rfl (jQ (passed := [.arr u 3 1 (Z17 c)]) (aM rfl) rfl (.func _ _ call64) rfl rfl (eU c.wilds (fun c1 => fT c1 e) 108 (Z26 e) call108 (fun _ _ h => pH _ _ h) c0)) ?_;rintro _ ⟨_, _, ⟨a1, rfl, rfl⟩, rfl⟩;refine to (bJ (aM rfl) rfl) ?_;refine to (sf rfl kH) (to (sst 1 rfl rfl sizeOf25 [.j c.Field.Places, .j c.Field.Wilds, .j c.Field.Guards, .j c.Field.Close, .j c.Field.Freeze, .lit (.map (some g)), .lit a1, .k c.frozen, .lit s, .lit t, .j c.more, .j c.entered]) ?_);refine cG ?_;refine cI mix 7 [] [(134, .d (Z23 g)), (136, .i e.Player), (137, .agg (Z78 e c))] ?_ ?_
        ·refine ⟨[(131, 0, .bp o q 0), (132, 1, .bp o q 0), (133, 2, .bp o q 5), (134, 3, .d (Z23 g)), (135, 4, .cp [.j e.Player]), (136, 5, .i e.Player), (137, 6, .agg (Z78 e c))], ?_, ?_⟩
         · exact dk [0, 1, 2, 3, 0, 5, 0] ⟨go (zm (.bp o q 0)),
 go fun S hS => bJ (aM rfl) (aU hS rfl),
 go (zf rfl dZ),
 go (zl 1 rfl rfl rfl gF),
 go (zfc [.j e.Player] rfl cN),
 go (zlc rfl aW),
 go (zla 5 (Z78 e c) rfl rfl mM), trivial⟩
         · exact bS (aP rfl (aP rfl (aP rfl (aR trivial))))
        ·refine to (fZ (av := (fun v : aA => AV.agg (aG v))) (l := c.players) (v := (Z3 e c)) (a := e.Player) (m := 2) iW underlying68 rfl rfl rfl rfl (dO (kv := VI) e.Player) rfl rfl) ?_;refine aE ?_;obtain rfl := sIn h;exact ⟨_, [.box o q [.j c.Field.Places, .j c.Field.Wilds, .j c.Field.Guards, .j c.Field.Close, .j c.Field.Freeze, .lit (.map (some g)), .lit a1, .k c.frozen, .lit s, .lit t, .j c.more, .j c.entered], .map g ((Z80 e c).map fun p : Int × aA => (VI p.1, (fun v : aA => AV.agg (aG v)) p.2)) (Z32 e c y j) (Z30 e c j), .arr a1 3 1 (b9.map aH), .arr s 3 1 (Z16 c), .arr t 3 1 (Z19 c)], [.box (X2 7).b 0 (Z78 e c)], _, .none, (dU (i := 1) rfl).trans (.cons _ ((dU (i := 1) rfl).trans (.cons _ ((dU (i := 0) rfl).trans (.cons _ ((dU (i := 0) rfl).trans (.cons _ ((dU (i := 0) rfl).trans (.cons _ ((dU (i := 0) rfl).trans (.cons _ (.refl _)))))))))))), .same _, (Z32 e c y j), (Z30 e c j), a1, s, t, rfl, rfl⟩
     ·refine aF (aC (to (scm rfl rfl rfl) (ta (Z52 e) (aE ?_))));refine tih h (fun c2 h => ?_) (fun c2 h => ?_)
      ·refine aC (to (sf rfl wM) (to (sst 6 rfl rfl sizeOf4 (aG (Z8 e c))) ?_));refine cG ?_;refine cI mix 7 [] [(134, .d (Z23 g)), (136, .i e.Player), (137, .agg (aG (Z8 e c)))] ?_ ?_
       ·refine ⟨[(131, 0, .bp o q 0), (132, 1, .bp o q 0), (133, 2, .bp o q 5), (134, 3, .d (Z23 g)), (135, 4, .bp b1 0 3), (136, 5, .i e.Player), (137, 6, .agg (aG (Z8 e c)))], ?_, ?_⟩
        · exact dk [0, 1, 2, 3, 0, 5, 0] ⟨go (zm (.bp o q 0)),
 go fun S hS => bJ (aM rfl) (aU hS rfl),
 go (zf rfl dZ),
 go (zl 0 rfl rfl rfl gF),
 go (zf rfl cN),
 go (zl 5 rfl rfl rfl aW),
 go (zla 6 (aG (Z8 e c)) rfl rfl mM), trivial⟩
        · exact bS (aP rfl (aP rfl (aP rfl (aR trivial))))
       ·refine to (fZ (av := (fun v : aA => AV.agg (aG v))) (l := c.players) (v := (Z8 e c)) (a := e.Player) (m := 1) iW underlying68 rfl rfl rfl rfl (dO (kv := VI) e.Player) rfl rfl) ?_;refine aE ?_;obtain rfl := sIn h;exact ⟨_, (Z41 o q c g u s t e y j), [.box b1 0 (aJ e), .box (X2 7).b 0 (aG (Z8 e c))], _, .none, .refl _, .same _, (Z32 e c y j), (Z30 e c j), u, s, t, rfl, rfl⟩
      ·refine bZ ?_;refine cI mix 7 [] [(134, .d (Z23 g)), (136, .i e.Player), (137, .agg (Z71 e c))] ?_ ?_
       ·refine ⟨[(131, 0, .bp o q 0), (132, 1, .bp o q 0), (133, 2, .bp o q 5), (134, 3, .d (Z23 g)), (135, 4, .bp b1 0 3), (136, 5, .i e.Player), (137, 6, .agg (Z71 e c))], ?_, ?_⟩
        · exact dk [0, 1, 2, 3, 0, 5, 0] ⟨go (zm (.bp o q 0)),
 go fun S hS => bJ (aM rfl) (aU hS rfl),
 go (zf rfl dZ),
 go (zl 0 rfl rfl rfl gF),
 go (zf rfl cN),
 go (zl 5 rfl rfl rfl aW),
 go (zla 6 (Z71 e c) rfl rfl mM), trivial⟩
        · exact bS (aP rfl (aP rfl (aP rfl (aR trivial))))
       ·refine to (fZ (av := (fun v : aA => AV.agg (aG v))) (l := c.players) (v := aL e.Player Z2 c.players) (a := e.Player) (m := 1) iW underlying68 rfl rfl rfl rfl (dO (kv := VI) e.Player) rfl rfl) ?_;refine aE ?_;obtain rfl := sIn h;exact ⟨_, (Z5 o q c g u s t e y j), [.box b1 0 (aJ e), .box (X2 7).b 0 (Z71 e c)], _, .none, .refl _, .same _, (Z32 e c y j), (Z30 e c j), u, s, t, rfl, rfl⟩
  ·refine aC (to (scm rfl rfl rfl) (ta (.b (Z14 e)) (aE ?_)));refine tih h (fun c5 h => ?_) (fun c5 h => ?_)
   ·refine aF ?_;refine cI mix 7 [0, 3, 4] [(18, .i e.Hour), (23, .i c.Field.Close)] ?_ ?_
    ·refine ⟨[(17, 0, .bp b1 0 1), (18, 1, .i e.Hour), (19, 2, .bp o q 0), (20, 3, .bp o q 0), (21, 4, .bp o q 0), (22, 5, .bp o q 3), (23, 6, .i c.Field.Close)], ?_, ?_⟩
     · exact dk [0, 1, 0, 3, 4, 5, 6] ⟨go (zf rfl cL),
 go (zl 5 rfl rfl rfl aW),
 go (zm (.bp o q 0)),
 go fun S hS => bJ (aM rfl) (aU hS rfl),
 go (zf rfl gU),
 go (zf rfl qH),
 go (zl 0 rfl rfl rfl aW), trivial⟩
     · exact bS (aP rfl (aP rfl (aR ⟨rfl, rfl, rfl, trivial⟩)))
    ·refine to (scm rfl rfl rfl) (tm (.b (decide (e.Hour ≤ c.Field.Close))) ?_);obtain ⟨c6, U, h⟩ := bns h;refine bG 4 [0, 3, 4] 29 c6 ?_ ?_
     ·refine bch U (fun O U => ?_) (fun O U => ?_)
      ·refine tkl 6 O rfl rfl zI rfl dN (tk O (sn rfl) (to (spt (.b (!((Z0 e c).entered))) O) ?_));obtain rfl := sIn U;refine aE (aV rfl ⟨rfl, rfl, rfl, trivial⟩ rfl)
      ·refine tp O (tp O (tp O (to (spf Z21 O) ?_)));obtain rfl := sIn U;refine aE (aV rfl ⟨rfl, rfl, rfl, trivial⟩ rfl)
     ·refine aE ?_;refine tih h (fun c8 h => ?_) (fun c8 h => ?_)
      ·refine aF (aC (tm (.bp o q 0) (to (bJ (aM rfl) rfl) ?_)));refine tfl 0 rfl rfl wK rfl aW (to (sar rfl rfl rfl) (to (bJ (aM rfl) rfl) ?_));refine to (sf rfl wK) (to (sst 0 rfl rfl sizeOf3 [.j c.Field.Places, .j c.Field.Wilds, .j c.Field.Guards, .j c.Field.Close, .j c.Field.Freeze, .lit (.map (some g)), .lit u, .k c.frozen, .lit s, .lit t, .j c.more, .j (Z53 c)]) (aE ?_));refine eD mix 15 [0, 3, 4] (fun V => [(45, .i (Z53 c))]) (fun V => [.box o q [.j c.Field.Places, .j c.Field.Wilds, .j c.Field.Guards, .j c.Field.Close, .j c.Field.Freeze, .lit (.map (some g)), .lit u, .k c.frozen, .lit s, .lit t, .j c.more, .j (Z53 c)], .map g (c.players.map fun p : Int × aA => (VI p.1, (fun v : aA => AV.agg (aG v)) p.2)) y j, .arr u 3 1 (Z17 c), .arr s 3 1 (Z16 c), .arr t 3 1 (Z19 c), .box b1 0 (aJ e), .box (X2 7).b 0 (Z20 e c)]) ?_ ?_
       ·refine ⟨0, fun V => [(37, 0, .bp b1 0 2), (38, 1, .i e.Kind), (39, 2, .b (Z14 e)), (40, 3, .bp b1 0 4), (41, 4, .i e.Rank), (42, 5, .bp o q 0), (43, 6, .bp o q 0), (44, 7, .bp o q 11), (45, 8, .i (Z53 c)), (46, 9, .bp (X2 7).b 0 0), (47, 11, .bp (X2 7).b 0 1), (48, 13, .bp (X2 7).b 0 2)], fun V => [([], .box o q [.j c.Field.Places, .j c.Field.Wilds, .j c.Field.Guards, .j c.Field.Close, .j c.Field.Freeze, .lit (.map (some g)), .lit u, .k c.frozen, .lit s, .lit t, .j c.more, .j (Z53 c)]), ([], .map g (c.players.map fun p : Int × aA => (VI p.1, (fun v : aA => AV.agg (aG v)) p.2)) y j), ([], .arr u 3 1 (Z17 c)), ([], .arr s 3 1 (Z16 c)), ([], .arr t 3 1 (Z19 c)), ([], .box b1 0 (aJ e)), ([(14, .box (X2 7).b 0 (Z20 e c)), (12, .box (X2 7).b 0 (Z31 e c)), (10, .box (X2 7).b 0 (Z29 e c))], .box (X2 7).b 0 (Z71 e c))], ?_, ?_⟩
        · exact xok [(0, 1315), (1, 1315), (2, 1315), (0, 15), (4, 15), (0, 0), (6, 0), (7, 0), (8, 0), (0, 111315), (10, 1315), (11, 1315), (31112, 15), (1113, 15), (5111314, 0)] ⟨fun _ _ w _ k => xp w (yf k rfl oV),
 fun _ _ w _ k => xp w (yl k 5 rfl (og k rfl rfl) rfl aW),
 fun _ _ w _ k => xp w (ycm k rfl rfl rfl),
 fun _ _ w _ k => xp w (yf k rfl kG),
 fun _ _ w _ k => xp w (yl k 5 rfl (og k rfl rfl) rfl aW),
 fun _ _ w _ k => xp w (ym k (.bp o q 0)),
 fun _ _ w _ k => xp w (bJ (aM rfl) (aU k rfl)),
 fun _ _ w _ k => xp w (yf k rfl wK),
 fun _ _ w _ k => xp w (yl k 0 rfl (og k rfl rfl) rfl aW),
 fun _ _ w _ k => xp w (yf k rfl zI),
 fun _ _ _ _ k => xs 6 k rfl rfl (gM (i := 6) (aU k rfl) (og k rfl rfl) rfl rfl rfl sizeOf4 rfl (aM rfl) (Nat.le_of_ble_eq_true rfl) (ds' := (Z29 e c)) rfl),
 fun _ _ w _ k => xp w (yf k rfl zJ),
 fun _ _ _ _ k => xs 6 k rfl rfl (gM (i := 6) (aU k rfl) (og k rfl rfl) (aU k rfl) rfl rfl sizeOf4 rfl (aM rfl) (Nat.le_of_ble_eq_true rfl) (ds' := (Z31 e c)) rfl),
 fun _ _ w _ k => xp w (yf k rfl wL),
 fun _ _ _ _ k => xs 6 k rfl rfl (gM (i := 6) (aU k rfl) (og k rfl rfl) (aU k rfl) rfl rfl sizeOf3 rfl (aM rfl) (Nat.le_of_ble_eq_true rfl) (ds' := (Z20 e c)) rfl), trivial⟩
        · exact fun V => bS (aP rfl (aR ⟨rfl, rfl, rfl, trivial⟩))
       ·intro V;refine to (sf rfl aCf) (to (sst 6 rfl rfl sizeOf3 (aG (Z7 e c))) ?_);refine cG ?_;refine cI mix 7 [] [(134, .d (Z23 g)), (136, .i e.Player), (137, .agg (aG (Z7 e c)))] ?_ ?_
        ·refine ⟨[(131, 0, .bp o q 0), (132, 1, .bp o q 0), (133, 2, .bp o q 5), (134, 3, .d (Z23 g)), (135, 4, .bp b1 0 3), (136, 5, .i e.Player), (137, 6, .agg (aG (Z7 e c)))], ?_, ?_⟩
         · exact dk [0, 1, 2, 3, 0, 5, 0] ⟨go (zm (.bp o q 0)),
 go fun S hS => bJ (aM rfl) (aU hS rfl),
 go (zf rfl dZ),
 go (zl 0 rfl rfl rfl gF),
 go (zf rfl cN),
 go (zl 5 rfl rfl rfl aW),
 go (zla 6 (aG (Z7 e c)) rfl rfl mM), trivial⟩
         · exact bS (aP rfl (aP rfl (aP rfl (aR trivial))))
        ·refine to (fZ (av := (fun v : aA => AV.agg (aG v))) (l := c.players) (v := (Z7 e c)) (a := e.Player) (m := 1) iW underlying68 rfl rfl rfl rfl (dO (kv := VI) e.Player) rfl rfl) ?_;refine aE ?_;obtain rfl := sIn h;exact ⟨_, (Z37 o q c g u s t e y j), [.box b1 0 (aJ e), .box (X2 7).b 0 (aG (Z7 e c))], _, .none, .refl _, .same _, (Z32 e c y j), (Z30 e c j), u, s, t, rfl, rfl⟩
      ·refine bZ ?_;refine cI mix 7 [] [(134, .d (Z23 g)), (136, .i e.Player), (137, .agg (Z71 e c))] ?_ ?_
       ·refine ⟨[(131, 0, .bp o q 0), (132, 1, .bp o q 0), (133, 2, .bp o q 5), (134, 3, .d (Z23 g)), (135, 4, .bp b1 0 3), (136, 5, .i e.Player), (137, 6, .agg (Z71 e c))], ?_, ?_⟩
        · exact dk [0, 1, 2, 3, 0, 5, 0] ⟨go (zm (.bp o q 0)),
 go fun S hS => bJ (aM rfl) (aU hS rfl),
 go (zf rfl dZ),
 go (zl 0 rfl rfl rfl gF),
 go (zf rfl cN),
 go (zl 5 rfl rfl rfl aW),
 go (zla 6 (Z71 e c) rfl rfl mM), trivial⟩
        · exact bS (aP rfl (aP rfl (aP rfl (aR trivial))))
       ·refine to (fZ (av := (fun v : aA => AV.agg (aG v))) (l := c.players) (v := aL e.Player Z2 c.players) (a := e.Player) (m := 1) iW underlying68 rfl rfl rfl rfl (dO (kv := VI) e.Player) rfl rfl) ?_;refine aE ?_;obtain rfl := sIn h;exact ⟨_, (Z5 o q c g u s t e y j), [.box b1 0 (aJ e), .box (X2 7).b 0 (Z71 e c)], _, .none, .refl _, .same _, (Z32 e c y j), (Z30 e c j), u, s, t, rfl, rfl⟩
   ·refine aF (aC (to (scm rfl rfl rfl) (ta (Z50 e) (aE ?_))));refine tih h (fun d0 h => ?_) (fun d0 h => ?_)
    ·refine aF ?_;obtain ⟨e6, W, h⟩ := bns h;obtain ⟨e7, P, h⟩ := bns h;obtain ⟨d1, M, h⟩ := bns h;refine cI mix 31 [0, 3, 4] [(82, .b d1)] ?_ ?_
     ·refine bch W (fun I W => ?_) (fun I W => ?_)
      ·obtain rfl := sIn W;refine bch P (fun F P => ?_) (fun F P => ?_)
       ·obtain rfl := sIn P;refine bch M (fun B M => ?_) (fun B M => ?_)
        ·obtain rfl := sIn M;refine ⟨[(52, 0, .bp b1 0 1), (53, 1, .i e.Hour), (54, 2, .bp o q 0), (55, 3, .bp o q 0), (56, 4, .bp o q 0), (57, 5, .bp o q 4), (58, 6, .i c.Field.Freeze), (59, 7, .b (Z18 e c)), (60, 8, .b (Z18 e c)), (61, 9, .bp (X2 7).b 0 6), (62, 10, .b (Z35 e c)), (63, 11, .b (!(Z35 e c))), (64, 12, .b (!(Z35 e c))), (65, 13, .b (!(Z35 e c))), (66, 14, .bp (X2 7).b 0 4), (67, 15, .b (Z54 e c)), (68, 16, .b (!(Z54 e c))), (69, 17, .b (!(Z54 e c))), (70, 18, .b (!(Z54 e c))), (71, 19, .bp o q 0), (72, 20, .bp o q 0), (73, 21, .bp o q 6), (74, 22, .d (.lit u)), (75, 23, .i (c.wilds.length : Int)), (76, 24, .bp o q 0), (77, 25, .bp o q 0), (78, 26, .bp o q 0), (79, 27, .bp o q 1), (80, 28, .i c.Field.Wilds), (81, 29, .b (Z38 c)), (82, 30, .b (Z38 c))], ?_, ?_⟩
         · exact dk [0, 1, 0, 3, 4, 5, 6, 207, 8, 9, 910, 911, 912, 13, 14, 1415, 1416, 1417, 18, 19, 1920, 1921, 1922, 1923, 19, 1925, 1926, 1927, 1928, 192429, 1930] ⟨go (zf rfl cL),
 go (zl 5 rfl rfl rfl aW),
 go (zm (.bp o q 0)),
 go fun S hS => bJ (aM rfl) (aU hS rfl),
 go (zf rfl gU),
 go (zf rfl fY),
 go (zl 0 rfl rfl rfl aW),
 go (zcm rfl rfl rfl),
 go (zm (.b (Z18 e c))),
 gt I (zf rfl kJ),
 gt I (zl 6 rfl rfl rfl dN),
 gt I (zn rfl),
 go (zpt (Z75 e c) I),
 go (zm (Z75 e c)),
 gt F (zf rfl rN),
 gt F (zl 6 rfl rfl rfl dN),
 gt F (zn rfl),
 go (zpt (.b (!(Z54 e c))) F),
 go (zm (.b (!(Z54 e c)))),
 gt B (zm (.bp o q 0)),
 gt B fun S hS => bJ (aM rfl) (aU hS rfl),
 gt B (zf rfl kH),
 gt B (zl 0 rfl rfl rfl cE),
 gt B fun S hS => fJ (m := 2) (aM rfl) (aU hS rfl) rfl bP.of,
 gt B (zm (.bp o q 0)),
 gt B fun S hS => bJ (aM rfl) (aU hS rfl),
 gt B (zf rfl gU),
 gt B (zf rfl tP),
 gt B (zl 0 rfl rfl rfl aW),
 gt B (zcm rfl rfl rfl),
 go (zpt (.b (Z38 c)) B), trivial⟩
         · exact bS (aP rfl (aR ⟨rfl, rfl, rfl, trivial⟩))
        ·obtain rfl := sIn M;refine ⟨[(52, 0, .bp b1 0 1), (53, 1, .i e.Hour), (54, 2, .bp o q 0), (55, 3, .bp o q 0), (56, 4, .bp o q 0), (57, 5, .bp o q 4), (58, 6, .i c.Field.Freeze), (59, 7, .b (Z18 e c)), (60, 8, .b (Z18 e c)), (61, 9, .bp (X2 7).b 0 6), (62, 10, .b (Z35 e c)), (63, 11, .b (!(Z35 e c))), (64, 12, .b (!(Z35 e c))), (65, 13, .b (!(Z35 e c))), (66, 14, .bp (X2 7).b 0 4), (67, 15, .b (Z54 e c)), (68, 16, .b (!(Z54 e c))), (69, 17, .b (!(Z54 e c))), (70, 18, .b (!(Z54 e c))), (71, 19, .tup []), (72, 20, .tup []), (73, 21, .tup []), (74, 22, .tup []), (75, 23, .tup []), (76, 24, .tup []), (77, 25, .tup []), (78, 26, .tup []), (79, 27, .tup []), (80, 28, .tup []), (81, 29, .tup []), (82, 30, .b false)], ?_, ?_⟩
         · exact dk [0, 1, 0, 3, 4, 5, 6, 207, 8, 9, 910, 911, 912, 13, 14, 1415, 1416, 1417, 18, 19, 1920, 1921, 1922, 1923, 19, 1925, 1926, 1927, 1928, 192429, 1930] ⟨go (zf rfl cL),
 go (zl 5 rfl rfl rfl aW),
 go (zm (.bp o q 0)),
 go fun S hS => bJ (aM rfl) (aU hS rfl),
 go (zf rfl gU),
 go (zf rfl fY),
 go (zl 0 rfl rfl rfl aW),
 go (zcm rfl rfl rfl),
 go (zm (.b (Z18 e c))),
 gt I (zf rfl kJ),
 gt I (zl 6 rfl rfl rfl dN),
 gt I (zn rfl),
 go (zpt (Z75 e c) I),
 go (zm (Z75 e c)),
 gt F (zf rfl rN),
 gt F (zl 6 rfl rfl rfl dN),
 gt F (zn rfl),
 go (zpt (.b (!(Z54 e c))) F),
 go (zm (.b (!(Z54 e c)))),
 gp B,
 gp B,
 gp B,
 gp B,
 gp B,
 gp B,
 gp B,
 gp B,
 gp B,
 gp B,
 gp B,
 go (zpf Z21 B), trivial⟩
         · exact bS (aP rfl (aR ⟨rfl, rfl, rfl, trivial⟩))
       ·obtain rfl := sIn P;have B : false = false := rfl;have M := qM B M;obtain rfl := sIn M;refine ⟨[(52, 0, .bp b1 0 1), (53, 1, .i e.Hour), (54, 2, .bp o q 0), (55, 3, .bp o q 0), (56, 4, .bp o q 0), (57, 5, .bp o q 4), (58, 6, .i c.Field.Freeze), (59, 7, .b (Z18 e c)), (60, 8, .b (Z18 e c)), (61, 9, .bp (X2 7).b 0 6), (62, 10, .b (Z35 e c)), (63, 11, .b (!(Z35 e c))), (64, 12, .b (!(Z35 e c))), (65, 13, .b (!(Z35 e c))), (66, 14, .tup []), (67, 15, .tup []), (68, 16, .tup []), (69, 17, .b false), (70, 18, .b (false)), (71, 19, .tup []), (72, 20, .tup []), (73, 21, .tup []), (74, 22, .tup []), (75, 23, .tup []), (76, 24, .tup []), (77, 25, .tup []), (78, 26, .tup []), (79, 27, .tup []), (80, 28, .tup []), (81, 29, .tup []), (82, 30, .b false)], ?_, ?_⟩
        · exact dk [0, 1, 0, 3, 4, 5, 6, 207, 8, 9, 910, 911, 912, 13, 14, 1415, 1416, 1417, 18, 19, 1920, 1921, 1922, 1923, 19, 1925, 1926, 1927, 1928, 192429, 1930] ⟨go (zf rfl cL),
 go (zl 5 rfl rfl rfl aW),
 go (zm (.bp o q 0)),
 go fun S hS => bJ (aM rfl) (aU hS rfl),
 go (zf rfl gU),
 go (zf rfl fY),
 go (zl 0 rfl rfl rfl aW),
 go (zcm rfl rfl rfl),
 go (zm (.b (Z18 e c))),
 gt I (zf rfl kJ),
 gt I (zl 6 rfl rfl rfl dN),
 gt I (zn rfl),
 go (zpt (Z75 e c) I),
 go (zm (Z75 e c)),
 gp F,
 gp F,
 gp F,
 go (zpf Z21 F),
 go (zm Z77),
 gp B,
 gp B,
 gp B,
 gp B,
 gp B,
 gp B,
 gp B,
 gp B,
 gp B,
 gp B,
 gp B,
 go (zpf Z21 B), trivial⟩
        · exact bS (aP rfl (aR ⟨rfl, rfl, rfl, trivial⟩))
      ·obtain rfl := sIn W;have F : false = false := rfl;have P := qM F P;obtain rfl := sIn P;have B : false = false := rfl;have M := qM B M;obtain rfl := sIn M;refine ⟨[(52, 0, .bp b1 0 1), (53, 1, .i e.Hour), (54, 2, .bp o q 0), (55, 3, .bp o q 0), (56, 4, .bp o q 0), (57, 5, .bp o q 4), (58, 6, .i c.Field.Freeze), (59, 7, .b (Z18 e c)), (60, 8, .b (Z18 e c)), (61, 9, .tup []), (62, 10, .tup []), (63, 11, .tup []), (64, 12, .b false), (65, 13, .b (false)), (66, 14, .tup []), (67, 15, .tup []), (68, 16, .tup []), (69, 17, .b false), (70, 18, .b (false)), (71, 19, .tup []), (72, 20, .tup []), (73, 21, .tup []), (74, 22, .tup []), (75, 23, .tup []), (76, 24, .tup []), (77, 25, .tup []), (78, 26, .tup []), (79, 27, .tup []), (80, 28, .tup []), (81, 29, .tup []), (82, 30, .b false)], ?_, ?_⟩
       · exact dk [0, 1, 0, 3, 4, 5, 6, 207, 8, 9, 910, 911, 912, 13, 14, 1415, 1416, 1417, 18, 19, 1920, 1921, 1922, 1923, 19, 1925, 1926, 1927, 1928, 192429, 1930] ⟨go (zf rfl cL),
 go (zl 5 rfl rfl rfl aW),
 go (zm (.bp o q 0)),
 go fun S hS => bJ (aM rfl) (aU hS rfl),
 go (zf rfl gU),
 go (zf rfl fY),
 go (zl 0 rfl rfl rfl aW),
 go (zcm rfl rfl rfl),
 go (zm (.b (Z18 e c))),
 gp I,
 gp I,
 gp I,
 go (zpf Z21 I),
 go (zm Z77),
 gp F,
 gp F,
 gp F,
 go (zpf Z21 F),
 go (zm Z77),
 gp B,
 gp B,
 gp B,
 gp B,
 gp B,
 gp B,
 gp B,
 gp B,
 gp B,
 gp B,
 gp B,
 go (zpf Z21 B), trivial⟩
       · exact bS (aP rfl (aR ⟨rfl, rfl, rfl, trivial⟩))
     ·refine aE ?_;refine tih h (fun d2 h => ?_) (fun d2 h => ?_)
      ·refine aF (aC (to (sf rfl kJ) (to (sst 6 rfl rfl sizeOf4 (Z62 e c)) (to (sf rfl aGu) (to (sst 6 rfl rfl sizeOf4 (aG (Z6 e c))) (aE ?_))))));obtain ⟨a2, d3, h⟩ := bns h;refine eD mix 9 [0, 3, 4] (fun K => [(85, .bp o q 0), (93, .d (.lit (K 8).v))]) (fun K => [.box o q [.j c.Field.Places, .j c.Field.Wilds, .j c.Field.Guards, .j c.Field.Close, .j c.Field.Freeze, .lit (.map (some g)), .lit u, .k c.frozen, .lit s, .lit t, .j c.more, .j c.entered], .map g (c.players.map fun p : Int × aA => (VI p.1, (fun v : aA => AV.agg (aG v)) p.2)) y j, .arr (K 8).v 3 1 (a2.map aH), .arr s 3 1 (Z16 c), .arr t 3 1 (Z19 c), .box b1 0 (aJ e), .box (X2 7).b 0 (aG (Z6 e c))]) ?_ ?_
       ·refine ⟨0, fun K => [(85, 0, .bp o q 0), (86, 1, .bp o q 0), (87, 2, .bp o q 0), (88, 3, .bp o q 6), (89, 4, .d (.lit u)), (90, 5, .bp b1 0 3), (91, 6, .i e.Player), (92, 7, .d (Z42 e)), (93, 8, .d (.lit (K 8).v))], fun K => [([], .box o q [.j c.Field.Places, .j c.Field.Wilds, .j c.Field.Guards, .j c.Field.Close, .j c.Field.Freeze, .lit (.map (some g)), .lit u, .k c.frozen, .lit s, .lit t, .j c.more, .j c.entered]), ([], .map g (c.players.map fun p : Int × aA => (VI p.1, (fun v : aA => AV.agg (aG v)) p.2)) y j), ([(8, .arr (K 8).v 3 1 (a2.map aH))], .arr u 3 1 (Z17 c)), ([], .arr s 3 1 (Z16 c)), ([], .arr t 3 1 (Z19 c)), ([], .box b1 0 (aJ e)), ([], .box (X2 7).b 0 (aG (Z6 e c)))], ?_, ?_⟩
        · exact xok [(0, 0), (0, 9), (2, 9), (3, 9), (4, 9), (0, 9), (6, 9), (7, 9), (508, 0)] ⟨fun _ _ w _ k => xp w (ym k (.bp o q 0)),
 fun _ _ w _ k => xp w (ym k (.bp o q 0)),
 fun _ _ w _ k => xp w (bJ (aM rfl) (aU k rfl)),
 fun _ _ w _ k => xp w (yf k rfl kH),
 fun _ _ w _ k => xp w (yl k 0 rfl (og k rfl rfl) rfl cE),
 fun _ _ w _ k => xp w (yf k rfl cN),
 fun _ _ w _ k => xp w (yl k 5 rfl (og k rfl rfl) rfl aW),
 fun _ _ w _ k => xp w (dM (aM rfl) bP rfl (pa2 (aU k rfl) pan) (rows := ([e.Player]).map aH) rfl (aZ (f := aH) fun _ => rfl) rfl (by decide)),
 fun K S hw hi hS => eY (X := K) (p := 2) (v := fun x => .d (.lit x.v)) (mo := fun x => .arr x.v 3 1 (a2.map aH)) hS hi rfl rfl (fun _ => rfl) hw (fun _ => rfl) (fun _ => rfl) (fun _ => rfl) (fun _ => ⟨rfl, rfl, .inr rfl, ⟨rfl, rfl, .inr rfl, ⟨rfl, rfl, .inr rfl, ⟨rfl, rfl, .inr rfl, ⟨rfl, rfl, .inr rfl, ⟨rfl, rfl, .inr rfl, ⟨rfl, rfl, .inr rfl, ⟨rfl, rfl, .inr rfl, ⟨rfl, rfl, .inl rfl, trivial⟩⟩⟩⟩⟩⟩⟩⟩⟩) (fun _ => ⟨trivial, rfl, ⟨trivial, rfl, ⟨⟨rfl, .inl rfl, trivial⟩, rfl, ⟨trivial, rfl, ⟨trivial, rfl, ⟨trivial, rfl, ⟨trivial, rfl, trivial⟩⟩⟩⟩⟩⟩⟩) (cX (cO (i := 2) (aM rfl) bP (aU hS rfl) (og hS rfl rfl) (aU hS rfl) (fun _ => rfl) d3 rfl) (by rintro _ ⟨w, rfl⟩; exact ⟨⟨0, w⟩, Ent.refl _⟩)), trivial⟩
        · exact fun K => bS (aP rfl (aP rfl (aR ⟨rfl, rfl, rfl, trivial⟩)))
       ·intro K;refine to (bJ (aM rfl) rfl) ?_;refine to (sf rfl kH) (to (sst 0 rfl rfl sizeOf25 [.j c.Field.Places, .j c.Field.Wilds, .j c.Field.Guards, .j c.Field.Close, .j c.Field.Freeze, .lit (.map (some g)), .lit (K 8).v, .k c.frozen, .lit s, .lit t, .j c.more, .j c.entered]) ?_);refine cG ?_;refine cI mix 7 [] [(134, .d (Z23 g)), (136, .i e.Player), (137, .agg (aG (Z6 e c)))] ?_ ?_
        ·refine ⟨[(131, 0, .bp o q 0), (132, 1, .bp o q 0), (133, 2, .bp o q 5), (134, 3, .d (Z23 g)), (135, 4, .bp b1 0 3), (136, 5, .i e.Player), (137, 6, .agg (aG (Z6 e c)))], ?_, ?_⟩
         · exact dk [0, 1, 2, 3, 0, 5, 0] ⟨go (zm (.bp o q 0)),
 go fun S hS => bJ (aM rfl) (aU hS rfl),
 go (zf rfl dZ),
 go (zl 0 rfl rfl rfl gF),
 go (zf rfl cN),
 go (zl 5 rfl rfl rfl aW),
 go (zla 6 (aG (Z6 e c)) rfl rfl mM), trivial⟩
         · exact bS (aP rfl (aP rfl (aP rfl (aR trivial))))
        ·refine to (fZ (av := (fun v : aA => AV.agg (aG v))) (l := c.players) (v := (Z6 e c)) (a := e.Player) (m := 1) iW underlying68 rfl rfl rfl rfl (dO (kv := VI) e.Player) rfl rfl) ?_;refine aE ?_;obtain rfl := sIn h;exact ⟨_, [.box o q [.j c.Field.Places, .j c.Field.Wilds, .j c.Field.Guards, .j c.Field.Close, .j c.Field.Freeze, .lit (.map (some g)), .lit (K 8).v, .k c.frozen, .lit s, .lit t, .j c.more, .j c.entered], .map g ((cR e.Player (Z6 e c) c.players).map fun p : Int × aA => (VI p.1, (fun v : aA => AV.agg (aG v)) p.2)) (Z32 e c y j) (Z30 e c j), .arr (K 8).v 3 1 (a2.map aH), .arr s 3 1 (Z16 c), .arr t 3 1 (Z19 c)], [.box b1 0 (aJ e), .box (X2 7).b 0 (aG (Z6 e c))], _, .none, .refl _, .same _, (Z32 e c y j), (Z30 e c j), (K 8).v, s, t, rfl, rfl⟩
      ·refine bZ ?_;refine cI mix 7 [] [(134, .d (Z23 g)), (136, .i e.Player), (137, .agg (Z71 e c))] ?_ ?_
       ·refine ⟨[(131, 0, .bp o q 0), (132, 1, .bp o q 0), (133, 2, .bp o q 5), (134, 3, .d (Z23 g)), (135, 4, .bp b1 0 3), (136, 5, .i e.Player), (137, 6, .agg (Z71 e c))], ?_, ?_⟩
        · exact dk [0, 1, 2, 3, 0, 5, 0] ⟨go (zm (.bp o q 0)),
 go fun S hS => bJ (aM rfl) (aU hS rfl),
 go (zf rfl dZ),
 go (zl 0 rfl rfl rfl gF),
 go (zf rfl cN),
 go (zl 5 rfl rfl rfl aW),
 go (zla 6 (Z71 e c) rfl rfl mM), trivial⟩
        · exact bS (aP rfl (aP rfl (aP rfl (aR trivial))))
       ·refine to (fZ (av := (fun v : aA => AV.agg (aG v))) (l := c.players) (v := aL e.Player Z2 c.players) (a := e.Player) (m := 1) iW underlying68 rfl rfl rfl rfl (dO (kv := VI) e.Player) rfl rfl) ?_;refine aE ?_;obtain rfl := sIn h;exact ⟨_, (Z5 o q c g u s t e y j), [.box b1 0 (aJ e), .box (X2 7).b 0 (Z71 e c)], _, .none, .refl _, .same _, (Z32 e c y j), (Z30 e c j), u, s, t, rfl, rfl⟩
    ·refine aF (aC (to (scm rfl rfl rfl) (ta (Z51 e) (aE ?_))));refine tih h (fun d4 h => ?_) (fun d4 h => ?_)
     ·refine aF (aF ?_);obtain ⟨d5, Y, h⟩ := bns h;refine cI mix 12 [0, 3, 4] [(109, .b d5)] ?_ ?_
      ·refine bch Y (fun G Y => ?_) (fun G Y => ?_)
       ·obtain rfl := sIn Y;refine ⟨[(98, 0, .bp (X2 7).b 0 6), (99, 1, .b (Z35 e c)), (100, 2, .b (Z35 e c)), (101, 3, .bp b1 0 1), (102, 4, .i e.Hour), (103, 5, .bp o q 0), (104, 6, .bp o q 0), (105, 7, .bp o q 0), (106, 8, .bp o q 4), (107, 9, .i c.Field.Freeze), (108, 10, .b (Z57 c e)), (109, 11, .b (Z57 c e))], ?_, ?_⟩
        · exact dk [0, 1, 2, 3, 304, 3, 306, 307, 308, 309, 30510, 311] ⟨go (zf rfl kJ),
 go (zl 6 rfl rfl rfl dN),
 go (zm (.b (Z35 e c))),
 gt G (zf rfl cL),
 gt G (zl 5 rfl rfl rfl aW),
 gt G (zm (.bp o q 0)),
 gt G fun S hS => bJ (aM rfl) (aU hS rfl),
 gt G (zf rfl gU),
 gt G (zf rfl fY),
 gt G (zl 0 rfl rfl rfl aW),
 gt G (zcm rfl rfl rfl),
 go (zpt (.b (Z57 c e)) G), trivial⟩
        · exact bS (aP rfl (aR ⟨rfl, rfl, rfl, trivial⟩))
       ·obtain rfl := sIn Y;refine ⟨[(98, 0, .bp (X2 7).b 0 6), (99, 1, .b (Z35 e c)), (100, 2, .b (Z35 e c)), (101, 3, .tup []), (102, 4, .tup []), (103, 5, .tup []), (104, 6, .tup []), (105, 7, .tup []), (106, 8, .tup []), (107, 9, .tup []), (108, 10, .tup []), (109, 11, .b false)], ?_, ?_⟩
        · exact dk [0, 1, 2, 3, 304, 3, 306, 307, 308, 309, 30510, 311] ⟨go (zf rfl kJ),
 go (zl 6 rfl rfl rfl dN),
 go (zm (.b (Z35 e c))),
 gp G,
 gp G,
 gp G,
 gp G,
 gp G,
 gp G,
 gp G,
 gp G,
 go (zpf Z21 G), trivial⟩
        · exact bS (aP rfl (aR ⟨rfl, rfl, rfl, trivial⟩))
      ·refine aE ?_;refine tih h (fun d6 h => ?_) (fun d6 h => ?_)
       ·refine aC (tm (.bp o q 0) (to (bJ (aM rfl) rfl) ?_));refine tfl 0 rfl rfl zH rfl aW (to (sar rfl rfl rfl) (to (bJ (aM rfl) rfl) ?_));refine to (sf rfl zH) (to (sst 0 rfl rfl sizeOf3 [.j c.Field.Places, .j c.Field.Wilds, .j c.Field.Guards, .j c.Field.Close, .j c.Field.Freeze, .lit (.map (some g)), .lit u, .k c.frozen, .lit s, .lit t, .j (Z72 c), .j c.entered]) (aE (aF (aC (to (sf rfl rN) (to (sst 6 rfl rfl sizeOf4 (Z27 e c)) (to (sf rfl kJ) (to (sst 6 rfl rfl sizeOf4 (Z78 e c)) (aE (aC (tm (.bp o q 0) (tm (.bp o q 0) (to (bJ (aM rfl) rfl) ?_)))))))))))));refine tfl 0 rfl rfl kH rfl cE (to (qT (aM rfl) rfl rfl) ?_);refine dF (aS [0, 1, 2, 3, 4, 6, 5] rfl rfl (le_refl _)) ?_;apply vI [.box o q [.j c.Field.Places, .j c.Field.Wilds, .j c.Field.Guards, .j c.Field.Close, .j c.Field.Freeze, .lit (.map (some g)), .lit u, .k c.frozen, .lit s, .lit t, .j (Z72 c), .j c.entered], .map g (c.players.map fun p : Int × aA => (VI p.1, (fun v : aA => AV.agg (aG v)) p.2)) y j, .arr u 3 1 (Z17 c), .arr s 3 1 (Z16 c), .arr t 3 1 (Z19 c), .box (X2 7).b 0 (Z78 e c)] [.box b1 0 (aJ e)] rfl;exact cZ (k := 124) (v := .fn 108 (Z26 e)) (rC (.cons (eH 0 rfl rfl (dvc (.same _) (dvc (.same _) (dvc (.same _) (dvc (.same _) (dvc (.same _) dvn)))))) .nil)) (cZ (k := 3) (v := .cp [.j e.Id, .j e.Hour, .j e.Kind, .j e.Player, .j e.Rank]) (eH 0 rfl rfl (dvc (.same _) (dvc (.same _) (dvc (.same _) (dvc (.same _) (dvc (.same _) dvn)))))) (fU _ _));obtain ⟨d7, d8, h⟩ := bns h;refine dF (aS [2, 0, 1, 3, 4, 5] rfl rfl (le_refl _)) ?_;refine bE rfl (jQ (passed := [.arr u 3 1 (Z17 c)]) (aM rfl) rfl (.func _ _ call64) rfl rfl (eU c.wilds (fun d9 => fT d9 e) 108 (Z26 e) call108 (fun _ _ h => pH _ _ h) d8)) ?_;rintro _ ⟨_, _, ⟨a3, rfl, rfl⟩, rfl⟩;refine to (bJ (aM rfl) rfl) ?_;refine to (sf rfl kH) (to (sst 1 rfl rfl sizeOf25 [.j c.Field.Places, .j c.Field.Wilds, .j c.Field.Guards, .j c.Field.Close, .j c.Field.Freeze, .lit (.map (some g)), .lit a3, .k c.frozen, .lit s, .lit t, .j (Z72 c), .j c.entered]) ?_);refine cG ?_;refine cI mix 7 [] [(134, .d (Z23 g)), (136, .i e.Player), (137, .agg (Z78 e c))] ?_ ?_
        ·refine ⟨[(131, 0, .bp o q 0), (132, 1, .bp o q 0), (133, 2, .bp o q 5), (134, 3, .d (Z23 g)), (135, 4, .cp [.j e.Player]), (136, 5, .i e.Player), (137, 6, .agg (Z78 e c))], ?_, ?_⟩
         · exact dk [0, 1, 2, 3, 0, 5, 0] ⟨go (zm (.bp o q 0)),
 go fun S hS => bJ (aM rfl) (aU hS rfl),
 go (zf rfl dZ),
 go (zl 1 rfl rfl rfl gF),
 go (zfc [.j e.Player] rfl cN),
 go (zlc rfl aW),
 go (zla 5 (Z78 e c) rfl rfl mM), trivial⟩
         · exact bS (aP rfl (aP rfl (aP rfl (aR trivial))))
        ·refine to (fZ (av := (fun v : aA => AV.agg (aG v))) (l := c.players) (v := (Z3 e c)) (a := e.Player) (m := 2) iW underlying68 rfl rfl rfl rfl (dO (kv := VI) e.Player) rfl rfl) ?_;refine aE ?_;obtain rfl := sIn h;exact ⟨_, [.box o q [.j c.Field.Places, .j c.Field.Wilds, .j c.Field.Guards, .j c.Field.Close, .j c.Field.Freeze, .lit (.map (some g)), .lit a3, .k c.frozen, .lit s, .lit t, .j (Z72 c), .j c.entered], .map g ((Z80 e c).map fun p : Int × aA => (VI p.1, (fun v : aA => AV.agg (aG v)) p.2)) (Z32 e c y j) (Z30 e c j), .arr a3 3 1 (d7.map aH), .arr s 3 1 (Z16 c), .arr t 3 1 (Z19 c)], [.box (X2 7).b 0 (Z78 e c)], _, .none, (dU (i := 1) rfl).trans (.cons _ ((dU (i := 1) rfl).trans (.cons _ ((dU (i := 0) rfl).trans (.cons _ ((dU (i := 0) rfl).trans (.cons _ ((dU (i := 0) rfl).trans (.cons _ ((dU (i := 0) rfl).trans (.cons _ (.refl _)))))))))))), .same _, (Z32 e c y j), (Z30 e c j), a3, s, t, rfl, rfl⟩
       ·refine bA (aF (aC (to (sf rfl rN) (to (sst 6 rfl rfl sizeOf4 (Z27 e c)) (to (sf rfl kJ) (to (sst 6 rfl rfl sizeOf4 (Z78 e c)) (aE (aC (tm (.bp o q 0) (tm (.bp o q 0) (to (bJ (aM rfl) rfl) ?_)))))))))));refine tfl 0 rfl rfl kH rfl cE (to (qT (aM rfl) rfl rfl) ?_);refine dF (aS [0, 1, 2, 3, 4, 6, 5] rfl rfl (le_refl _)) ?_;apply vI [.box o q [.j c.Field.Places, .j c.Field.Wilds, .j c.Field.Guards, .j c.Field.Close, .j c.Field.Freeze, .lit (.map (some g)), .lit u, .k c.frozen, .lit s, .lit t, .j c.more, .j c.entered], .map g (c.players.map fun p : Int × aA => (VI p.1, (fun v : aA => AV.agg (aG v)) p.2)) y j, .arr u 3 1 (Z17 c), .arr s 3 1 (Z16 c), .arr t 3 1 (Z19 c), .box (X2 7).b 0 (Z78 e c)] [.box b1 0 (aJ e)] rfl;exact cZ (k := 124) (v := .fn 108 (Z26 e)) (rC (.cons (eH 0 rfl rfl (dvc (.same _) (dvc (.same _) (dvc (.same _) (dvc (.same _) (dvc (.same _) dvn)))))) .nil)) (cZ (k := 3) (v := .cp [.j e.Id, .j e.Hour, .j e.Kind, .j e.Player, .j e.Rank]) (eH 0 rfl rfl (dvc (.same _) (dvc (.same _) (dvc (.same _) (dvc (.same _) (dvc (.same _) dvn)))))) (fU _ _));obtain ⟨e0, e1, h⟩ := bns h;refine dF (aS [2, 0, 1, 3, 4, 5] rfl rfl (le_refl _)) ?_;refine bE rfl (jQ (passed := [.arr u 3 1 (Z17 c)]) (aM rfl) rfl (.func _ _ call64) rfl rfl (eU c.wilds (fun e2 => fT e2 e) 108 (Z26 e) call108 (fun _ _ h => pH _ _ h) e1)) ?_;rintro _ ⟨_, _, ⟨a4, rfl, rfl⟩, rfl⟩;refine to (bJ (aM rfl) rfl) ?_;refine to (sf rfl kH) (to (sst 1 rfl rfl sizeOf25 [.j c.Field.Places, .j c.Field.Wilds, .j c.Field.Guards, .j c.Field.Close, .j c.Field.Freeze, .lit (.map (some g)), .lit a4, .k c.frozen, .lit s, .lit t, .j c.more, .j c.entered]) ?_);refine cG ?_;refine cI mix 7 [] [(134, .d (Z23 g)), (136, .i e.Player), (137, .agg (Z78 e c))] ?_ ?_
        ·refine ⟨[(131, 0, .bp o q 0), (132, 1, .bp o q 0), (133, 2, .bp o q 5), (134, 3, .d (Z23 g)), (135, 4, .cp [.j e.Player]), (136, 5, .i e.Player), (137, 6, .agg (Z78 e c))], ?_, ?_⟩
         · exact dk [0, 1, 2, 3, 0, 5, 0] ⟨go (zm (.bp o q 0)),
 go fun S hS => bJ (aM rfl) (aU hS rfl),
 go (zf rfl dZ),
 go (zl 1 rfl rfl rfl gF),
 go (zfc [.j e.Player] rfl cN),
 go (zlc rfl aW),
 go (zla 5 (Z78 e c) rfl rfl mM), trivial⟩
         · exact bS (aP rfl (aP rfl (aP rfl (aR trivial))))
        ·refine to (fZ (av := (fun v : aA => AV.agg (aG v))) (l := c.players) (v := (Z3 e c)) (a := e.Player) (m := 2) iW underlying68 rfl rfl rfl rfl (dO (kv := VI) e.Player) rfl rfl) ?_;refine aE ?_;obtain rfl := sIn h;exact ⟨_, [.box o q [.j c.Field.Places, .j c.Field.Wilds, .j c.Field.Guards, .j c.Field.Close, .j c.Field.Freeze, .lit (.map (some g)), .lit a4, .k c.frozen, .lit s, .lit t, .j c.more, .j c.entered], .map g ((Z80 e c).map fun p : Int × aA => (VI p.1, (fun v : aA => AV.agg (aG v)) p.2)) (Z32 e c y j) (Z30 e c j), .arr a4 3 1 (e0.map aH), .arr s 3 1 (Z16 c), .arr t 3 1 (Z19 c)], [.box (X2 7).b 0 (Z78 e c)], _, .none, (dU (i := 1) rfl).trans (.cons _ ((dU (i := 1) rfl).trans (.cons _ ((dU (i := 0) rfl).trans (.cons _ ((dU (i := 0) rfl).trans (.cons _ ((dU (i := 0) rfl).trans (.cons _ ((dU (i := 0) rfl).trans (.cons _ (.refl _)))))))))))), .same _, (Z32 e c y j), (Z30 e c j), a4, s, t, rfl, rfl⟩
     ·refine aF (aC (to (scm rfl rfl rfl) (ta (Z52 e) (aE ?_))));refine tih h (fun e3 h => ?_) (fun e3 h => ?_)
      ·refine aC (to (sf rfl wM) (to (sst 6 rfl rfl sizeOf4 (aG (Z8 e c))) ?_));refine cG ?_;refine cI mix 7 [] [(134, .d (Z23 g)), (136, .i e.Player), (137, .agg (aG (Z8 e c)))] ?_ ?_
       ·refine ⟨[(131, 0, .bp o q 0), (132, 1, .bp o q 0), (133, 2, .bp o q 5), (134, 3, .d (Z23 g)), (135, 4, .bp b1 0 3), (136, 5, .i e.Player), (137, 6, .agg (aG (Z8 e c)))], ?_, ?_⟩
        · exact dk [0, 1, 2, 3, 0, 5, 0] ⟨go (zm (.bp o q 0)),
 go fun S hS => bJ (aM rfl) (aU hS rfl),
 go (zf rfl dZ),
 go (zl 0 rfl rfl rfl gF),
 go (zf rfl cN),
 go (zl 5 rfl rfl rfl aW),
 go (zla 6 (aG (Z8 e c)) rfl rfl mM), trivial⟩
        · exact bS (aP rfl (aP rfl (aP rfl (aR trivial))))
       ·refine to (fZ (av := (fun v : aA => AV.agg (aG v))) (l := c.players) (v := (Z8 e c)) (a := e.Player) (m := 1) iW underlying68 rfl rfl rfl rfl (dO (kv := VI) e.Player) rfl rfl) ?_;refine aE ?_;obtain rfl := sIn h;exact ⟨_, (Z41 o q c g u s t e y j), [.box b1 0 (aJ e), .box (X2 7).b 0 (aG (Z8 e c))], _, .none, .refl _, .same _, (Z32 e c y j), (Z30 e c j), u, s, t, rfl, rfl⟩
      ·refine bZ ?_;refine cI mix 7 [] [(134, .d (Z23 g)), (136, .i e.Player), (137, .agg (Z71 e c))] ?_ ?_
       ·refine ⟨[(131, 0, .bp o q 0), (132, 1, .bp o q 0), (133, 2, .bp o q 5), (134, 3, .d (Z23 g)), (135, 4, .bp b1 0 3), (136, 5, .i e.Player), (137, 6, .agg (Z71 e c))], ?_, ?_⟩
        · exact dk [0, 1, 2, 3, 0, 5, 0] ⟨go (zm (.bp o q 0)),
 go fun S hS => bJ (aM rfl) (aU hS rfl),
 go (zf rfl dZ),
 go (zl 0 rfl rfl rfl gF),
 go (zf rfl cN),
 go (zl 5 rfl rfl rfl aW),
 go (zla 6 (Z71 e c) rfl rfl mM), trivial⟩
        · exact bS (aP rfl (aP rfl (aP rfl (aR trivial))))
       ·refine to (fZ (av := (fun v : aA => AV.agg (aG v))) (l := c.players) (v := aL e.Player Z2 c.players) (a := e.Player) (m := 1) iW underlying68 rfl rfl rfl rfl (dO (kv := VI) e.Player) rfl rfl) ?_;refine aE ?_;obtain rfl := sIn h;exact ⟨_, (Z5 o q c g u s t e y j), [.box b1 0 (aJ e), .box (X2 7).b 0 (Z71 e c)], _, .none, .refl _, .same _, (Z32 e c y j), (Z30 e c j), u, s, t, rfl, rfl⟩

theorem wG (d : Int) (a : List (Int × aA)) {r : Bool} {e f g j k l m o q s c : D} (h : gR d a = some r) : Fn Tryz.prog 109 [.i d, .cp [.pt [e, f, g, j, k, .mp true (a.map fun p : Int × aA => (VI p.1, aG p.2)), l, m, o, q, s, c]]] (.b r) := by
 unfold gR at h;refine oT [.tmp 3] func109 results109 ntmps109 ?_;refine aF (aC (ta Z21 (aE (aF (aC (to (oD (.ptc _) (lM (aM rfl) rfl iD)) ?_))))));refine tm (.i d) ?_;obtain ⟨r1, h2, h⟩ := bns h;refine to (scr call83 (vR _ _ h2)) (to (sn rfl) (ta (.b (!r1)) (aE ?_)));obtain rfl := sIn h;exact rt

theorem aEw (a : Int) {r : (List Int)} (h : qC a = some r) : dW Tryz.prog 89 [.d Z40, .i a] [] (fun r' o' => ∃ (w0 : Value), r' = .d (.lit w0) ∧ o' = [.arr w0 3 1 (r.map aH)]) := by
 unfold qC at h;refine jN func89 rfl (rs := [.tmp 4]) results89 ntmps89 (Nat.le_of_ble_eq_true rfl) ?_;refine bQ (rE 3 1) ?_;refine aF (aC (to (fQ 3 1 (.inl rfl) (aM rfl)) ?_));refine aE (aF (aF (aC (tm (.i a) (to (scm rfl rfl rfl) (aE ?_))))));refine tih h (fun c2 h => ?_) (fun c2 h => ?_)
 ·cases h
 ·refine bA (aF (aF (aC (tm (.i a) (tm (.d Z40) (to (aKm (aM rfl) rfl bP.of) ?_))))));refine tm (.d Z40) (to (aKn (aM rfl) rfl bP.of) ?_);refine to (sar rfl rfl rfl) (to (sar rfl rfl rfl) (ta (.i (w64 (a - (w64 (0 - 0))))) (aE (aF (aC (tm (.i (w64 (a - (w64 (0 - 0))))) (to (scm rfl rfl rfl) (aE ?_))))))));refine tih h (fun c3 h => ?_) (fun c3 h => ?_)
  ·refine aC (tm (.d Z40) (tm (.d Z40) (to (aKm (aM rfl) rfl bP.of) ?_)));obtain ⟨u4, h5, h⟩ := bns h;refine to (tW (m := 0) (q := 0) (v := (.slice none 0 0)) (aM rfl) rfl rfl rfl rfl (aDo h5) bP.of) ?_;refine tm (.i (w64 (a - (w64 (0 - 0))))) ?_;obtain ⟨u6, h7, h⟩ := bns h;refine bE rfl (aVk (i := 0) (aM rfl) bP rfl rfl rfl underlying3 (aLo h7).1 (aLo h7).2 (by decide)) ?_;rintro _ ⟨v8, rfl⟩;refine tm (.d Z40) (to (aKn (aM rfl) rfl bP.of) ?_);obtain ⟨u9, b, h⟩ := bns h;refine to (tW (m := 0) (q := 0) (v := v8) (aM rfl) rfl rfl rfl rfl (aDo b) bP.of) ?_;refine ta (.d (.lit (gL v8 0))) (aE (aF (aC (tm (.d (.lit (gL v8 0))) (ta (.d (.lit (gL v8 0))) (aE ?_))))));obtain rfl := sIn h;exact bM ⟨rfl, _, [.arr (gL v8 0) 3 1 Z44], Z28, _, .one (.tmp 4 (v := .d (.lit (gL v8 0))) rfl), .refl _, .same _, (gL v8 0), rfl, rfl⟩
  ·refine bA (aF (aC (tm (.d Z40) (ta (.d Z40) (aE ?_)))));obtain rfl := sIn h;exact bM ⟨rfl, _, Z28, Z28, _, .one (.tmp 4 (v := .d Z40) rfl), .refl _, .same _, (.slice none 0 0), rfl, rfl⟩

theorem wB (a : List (List Int)) {r : (List Int)} (h : oE a = some r) : dW Tryz.prog 63 [.d (.sl 1 (a.map nS))] [] (fun r' o' => ∃ (w0 : Value), r' = .d (.lit w0) ∧ o' = [.arr w0 3 1 (r.map aH)]) := by
 unfold oE at h;refine jN func63 rfl (rs := [.tmp 2]) results63 ntmps63 (Nat.le_of_ble_eq_true rfl) ?_;refine aF (aC (to (fQ 3 1 (.inl rfl) (aM rfl)) ?_));refine aE (aF (aC (ta (.i 0) (aE (aF (aF (aC (tm (.d (.sl 1 (a.map nS))) (to (sle rfl vY.of) (tm (.i 0) (aE (bH ?_))))))))))));refine cB (S := Int × Int) [0, 9, 10] (fun s2 => [(3, .i s2.1), (11, .i s2.2)]) (fun s2 => []) (fun k s2 => jA a a (a.length : Int) k s2.1 s2.2) (fun _ => rfl) (0, 0) h (aS [] rfl rfl (aP rfl (aP rfl (aR ⟨rfl, rfl, rfl, trivial⟩)))) ?_;rintro k3 ⟨b, f⟩ h;simp only [jA] at h;refine aF (aC (to (scm rfl rfl rfl) (aE (aF ?_))));refine tih h (fun c4 h => ?_) (fun c4 h => ?_)
 ·refine bA (aF (bH (aF (aC ?_))));obtain ⟨x5, h6, h⟩ := bns h;refine to (six rfl rfl vY.of (bB nS h6)) (to (slc rfl cE) (ta (.d (.sl 1 (x5.map aH))) (aE (aF (aC (tm (.i b) (tm (.d (.sl 1 (x5.map aH))) (to (sle rfl bP.of) (to (sar rfl rfl rfl) (ta (.i (w64 (b + (x5.length : Int)))) (aE (aF (aC ?_)))))))))))));refine tm (.i (w64 (b + (x5.length : Int)))) (to (scm rfl rfl rfl) (aE ?_));refine tih h (fun c7 h => ?_) (fun c7 h => ?_)
  ·cases h
  ·refine bZ ?_;refine aC (to (sar rfl rfl rfl) (tm (.i (w64 (f + 1))) (aE ?_)));exact ⟨(w64 (b + (x5.length : Int)), w64 (f + 1)), h, aS [] rfl rfl (aP rfl (aP rfl (aR ⟨rfl, rfl, rfl, trivial⟩)))⟩
 ·refine bY ?_;refine .inl ⟨rfl, ?_⟩;simp only [rR] at h;refine aF (aC (tm (.i b) ?_));obtain ⟨r8, h9, h⟩ := bns h;refine bE rfl (lX (aM rfl) (.func _ _ call89) rfl rfl (aEw _ h9)) ?_;rintro _ ⟨l, rfl⟩;refine ta (.d (.lit l)) (aE (aF (aF (aC (tm (.d (.sl 1 (a.map nS))) (to (sle rfl vY.of) (tm (.i 0) (aE (bH ?_)))))))));refine cB (S := Int × Z66 × Value) [25, 26] (fun c => [(6, .d (.lit c.2.2)), (27, .i c.1)]) (fun c => [.arr c.2.2 3 1 (c.2.1.map aH)]) (fun k c => iE a (a.length : Int) k c.1 c.2.1) (fun _ => rfl) (0, r8, l) h (aS [0] rfl rfl (aP rfl (aP rfl (aR ⟨rfl, rfl, trivial⟩)))) ?_;rintro t ⟨e, j, g⟩ h;simp only [iE] at h;refine aF (aC (to (scm rfl rfl rfl) (aE (aF ?_))));refine tih h (fun o h => ?_) (fun o h => ?_)
  ·refine bA (aF (bH (aF (aC ?_))));obtain ⟨m, p, h⟩ := bns h;refine to (six rfl rfl vY.of (bB nS p)) (to (slc rfl cE) (ta (.d (.sl 1 (m.map aH))) (aE (aC (tm (.d (.lit g)) (tm (.d (.sl 1 (m.map aH))) ?_))))));obtain ⟨q, s, h⟩ := bns h;refine bE rfl (cO (i := 0) (aM rfl) bP rfl rfl rfl (fun _ => rfl) s rfl) ?_;rintro _ ⟨n, rfl⟩;refine ta (.d (.lit n)) ?_;refine cG ?_;refine aC (to (sar rfl rfl rfl) (tm (.i (w64 (e + 1))) (aE ?_)));exact ⟨(w64 (e + 1), q, n), h, aS [0] rfl rfl (aP rfl (aP rfl (aR ⟨rfl, rfl, trivial⟩)))⟩
  ·refine bY ?_;refine .inl ⟨rfl, ?_⟩;simp only [wA] at h;refine aF (aC (tm (.d (.lit g)) (ta (.d (.lit g)) (aE ?_))));obtain rfl := sIn h;exact bM ⟨rfl, _, [.arr g 3 1 (j.map aH)], [], _, .one (.tmp 2 (v := .d (.lit g)) rfl), .refl _, .same _, g, rfl, rfl⟩

theorem xO (a : aN) {r : (List Int)} (h : eL a = some r) : dW Tryz.prog 34 [.cp (bC a)] [] (fun r' o' => ∃ (w0 : Value), r' = .d (.lit w0) ∧ o' = [.arr w0 3 1 (r.map aH)]) := by
 unfold eL at h;refine jN func34 rfl (rs := [.tmp 2]) results34 ntmps34 (Nat.le_of_ble_eq_true rfl) ?_;refine aF (aC (to (fQ 3 1 (.inl rfl) (aM rfl)) ?_));refine aE (aF (aF (aC (tm (Z1 a) (to (dG (aM rfl) rfl) ?_)))));refine to (sfc [.k a.frozen] rfl vA) (to (slc rfl dN) (to (sn rfl) (aE ?_)));refine tih h (fun c2 h => ?_) (fun c2 h => ?_)
 ·refine aF (aC (tm (Z1 a) ?_));obtain ⟨r3, h4, h⟩ := bns h;refine bE rfl (lX (aM rfl) (.func _ _ call62) rfl rfl (rM _ h4)) ?_;rintro _ ⟨v5, rfl⟩;refine ta (.d (.lit v5)) (aE ?_);obtain rfl := sIn h;refine bQ (aS [1, 0] rfl rfl (le_refl _)) ?_;exact bM ⟨rfl, _, [.arr v5 3 1 (r3.map aH)], Z28, _, .one (.tmp 2 (v := .d (.lit v5)) rfl), .refl _, .same _, v5, rfl, rfl⟩
 ·refine bA (aF ?_);refine cI mix 8 [] [(13, .d (.sl 1 (Z16 a))), (17, .d (.sl 1 (Z19 a)))] ?_ ?_
  ·refine ⟨[(10, 0, .cp [.j a.Field.Places, .j a.Field.Wilds, .j a.Field.Guards, .j a.Field.Close, .j a.Field.Freeze, .mp true (a.players.map fun p : Int × aA => (VI p.1, aG p.2)), .sl 1 (Z17 a), .k a.frozen, .sl 1 (Z16 a), .sl 1 (Z19 a), .j a.more, .j a.entered]), (11, 1, .cp [.j a.Field.Places, .j a.Field.Wilds, .j a.Field.Guards, .j a.Field.Close, .j a.Field.Freeze, .mp true (a.players.map fun p : Int × aA => (VI p.1, aG p.2)), .sl 1 (Z17 a), .k a.frozen, .sl 1 (Z16 a), .sl 1 (Z19 a), .j a.more, .j a.entered]), (12, 2, .cp [.sl 1 (Z16 a)]), (13, 3, .d (.sl 1 (Z16 a))), (14, 4, .cp [.j a.Field.Places, .j a.Field.Wilds, .j a.Field.Guards, .j a.Field.Close, .j a.Field.Freeze, .mp true (a.players.map fun p : Int × aA => (VI p.1, aG p.2)), .sl 1 (Z17 a), .k a.frozen, .sl 1 (Z16 a), .sl 1 (Z19 a), .j a.more, .j a.entered]), (15, 5, .cp [.j a.Field.Places, .j a.Field.Wilds, .j a.Field.Guards, .j a.Field.Close, .j a.Field.Freeze, .mp true (a.players.map fun p : Int × aA => (VI p.1, aG p.2)), .sl 1 (Z17 a), .k a.frozen, .sl 1 (Z16 a), .sl 1 (Z19 a), .j a.more, .j a.entered]), (16, 6, .cp [.sl 1 (Z19 a)]), (17, 7, .d (.sl 1 (Z19 a)))], ?_, ?_⟩
   · exact dk [0, 1, 2, 3, 0, 5, 6, 7] ⟨go (zm (Z1 a)),
 go fun S hS => dG (aM rfl) (aU hS rfl),
 go (zfc [.sl 1 (Z16 a)] rfl zG),
 go (zlc rfl cE),
 go (zm (Z1 a)),
 go fun S hS => dG (aM rfl) (aU hS rfl),
 go (zfc [.sl 1 (Z19 a)] rfl wJ),
 go (zlc rfl cE), trivial⟩
   · exact bS (aP rfl (aP rfl (aR trivial)))
  ·refine to (dM (aM rfl) vY rfl rfl (rows := ([a.first, a.late]).map nS) rfl (aZ (f := nS) fun _ => rfl) rfl (by decide)) ?_;obtain ⟨r6, h7, h⟩ := bns h;refine bE rfl (lX (aM rfl) (.func _ _ call63) rfl rfl (wB _ h7)) ?_;rintro _ ⟨v8, rfl⟩;refine ta (.d (.lit v8)) (aE ?_);obtain rfl := sIn h;refine bQ (aS [1, 0] rfl rfl (le_refl _)) ?_;exact bM ⟨rfl, _, [.arr v8 3 1 (r6.map aH)], Z28, _, .one (.tmp 2 (v := .d (.lit v8)) rfl), .refl _, .same _, v8, rfl, rfl⟩

theorem xZ (b : List Int) (c : Int) {r : Int} (h : kA b c = some r) : Fn Tryz.prog 66 [.d (Z22 b), .i c] (.i r) := by
 unfold kA at h;refine oT [.tmp 4] func66 results66 ntmps66 ?_;refine aF (aC (ta (.i 0) (aE (aF (aF (aC (tm (Z60 b) (to (sle rfl bP.of) (tm (.i 0) (aE (bH ?_)))))))))));refine cB (S := Int) [0, 1, 7] (fun s1 => [(8, .i s1)]) (fun s1 => []) (fun k s1 => fO b c (b.length : Int) k s1) (fun _ => rfl) (0) h (aS [] rfl rfl (aP rfl (aR ⟨rfl, rfl, rfl, trivial⟩))) ?_;rintro k2 a h;simp only [fO] at h;refine aF (aC (to (scm rfl rfl rfl) (aE (aF ?_))));refine tih h (fun c3 h => ?_) (fun c3 h => ?_)
 ·refine bA (aF (bH (aF (aC (tm (.i a) (ta (.i a) (aE (aF (aC (tm (.i c) (tm (Z60 b) (tm (.i a) ?_))))))))))));obtain ⟨x4, h5, h⟩ := bns h;refine to (six rfl rfl bP.of (bB aH h5)) (to (slc rfl aW) (to (scm rfl rfl rfl) (aE ?_)));refine tih h (fun c6 h => ?_) (fun c6 h => ?_)
  ·refine aF (aC (tm (.i a) (ta (.i a) (aE ?_))));obtain rfl := sIn h;exact rt
  ·refine bZ ?_;refine aC (to (sar rfl rfl rfl) (tm (.i (w64 (a + 1))) (aE ?_)));exact ⟨(w64 (a + 1)), h, aS [] rfl rfl (aP rfl (aR ⟨rfl, rfl, rfl, trivial⟩))⟩
 ·refine bY ?_;refine .inl ⟨rfl, ?_⟩;simp only [pJ] at h;refine aF (aC (ta (.i (-1)) (aE ?_)));obtain rfl := sIn h;exact rt

theorem lN (a : List Int) (c : Int) {r : Bool} (h : fN a c = some r) : Fn Tryz.prog 53 [.d (Z22 a), .i c] (.b r) := by
 unfold fN at h;refine oT [.tmp 4] func53 results53 ntmps53 ?_;refine aF (aC (ta Z21 (aE (aF (aC (tm (Z60 a) (tm (.i c) ?_)))))));obtain ⟨r1, h2, h⟩ := bns h;refine to (scr call66 (xZ _ _ h2)) (to (scm rfl rfl rfl) (ta (.b (decide (0 ≤ r1))) (aE ?_)));obtain rfl := sIn h;exact rt

theorem aDk (e : Int) (c : aN) (j : List Int) {r : Bool} (h : mC e c j = some r) : Fn Tryz.prog 110 [.i e, .cp [.pt (bC c)], .cp [.sl 1 (j.map aH)]] (.b r) := by
 unfold mC at h;refine oT [.tmp 4] func110 results110 ntmps110 ?_;refine aF (aC (ta Z21 (aE (aF (aC (to (oD (.ptc _) (lM (aM rfl) rfl iD)) ?_))))));refine to (dG (aM rfl) rfl) ?_;refine to (sfc [.mp true (c.players.map fun p : Int × aA => (VI p.1, aG p.2))] rfl dZ) (to (slc rfl gF) (tm (.i e) (to (jH (enc := aG) (agg := true) (l := c.players) (z := Z2) (a := e) (aM rfl) iW underlying68 zeroValue94 (fun _ _ => .agg (jY rfl)) rfl rfl rfl rfl (dO (kv := VI) e)) ?_)));refine bE rfl (dI (zs := [.k false, .k false, .j 0, .j 0, .k false, .k false, .k false, .k false]) (aM rfl) zeroValue94 rfl rfl) ?_;rintro _ ⟨b1, rfl⟩;refine to (sst 0 rfl rfl sizeOf94 (aG (Z24 e c))) (aE (aF ?_));obtain ⟨b2, h3, h⟩ := bns h;obtain ⟨b7, h8, h⟩ := bns h;refine cI mix 24 [] [(35, .b b7)] ?_ ?_
 ·refine bch h3 (fun c4 h3 => ?_) (fun c4 h3 => ?_)
  ·obtain ⟨r5, h6, h3⟩ := bns h3;obtain rfl := sIn h3;refine bch h8 (fun c9 h8 => ?_) (fun c9 h8 => ?_)
   ·obtain ⟨o, g, h8⟩ := bns h8;refine bch g (fun f g => ?_) (fun f g => ?_)
    ·obtain rfl := sIn g;obtain rfl := sIn h8;refine ⟨[(12, 0, .bp b1 0 5), (13, 1, .b (Z67 e c)), (14, 2, .b (Z67 e c)), (15, 3, .d (Z22 j)), (16, 4, .i e), (17, 5, .b r5), (18, 6, .b (!r5)), (19, 7, .b (!r5)), (20, 8, .b (!r5)), (21, 9, .bp b1 0 1), (22, 10, .b ((Z24 e c).guard)), (23, 11, .b (!((Z24 e c).guard))), (24, 12, .b (!((Z24 e c).guard))), (25, 13, .tup []), (26, 14, .tup []), (27, 15, .tup []), (28, 16, .tup []), (29, 17, .tup []), (30, 18, .tup []), (31, 19, .tup []), (32, 20, .tup []), (33, 21, .tup []), (34, 22, .b true), (35, 23, .b (true))], ?_, ?_⟩
     · exact dk [0, 1, 2, 3, 3, 30405, 306, 307, 8, 9, 910, 911, 912, 13, 13, 131415, 13, 1317, 1318, 1319, 1320, 131621, 91322, 923] ⟨go (zf rfl wM),
 go (zl 0 rfl rfl rfl dN),
 go (zm (.b (Z67 e c))),
 gt c4 (zlc rfl cE),
 gt c4 (zm (.i e)),
 gt c4 fun S hS => kU (aM rfl) (.func _ _ call53) (ev2 (aU hS rfl) (ev2 (aU hS rfl) evn)) rfl (BVs.refl _ _) (lN _ _ h6) rfl,
 gt c4 (zn rfl),
 go (zpt (.b (!r5)) c4),
 go (zm (.b (!r5))),
 gt c9 (zf rfl zJ),
 gt c9 (zl 0 rfl rfl rfl dN),
 gt c9 (zn rfl),
 gt c9 (zm (.b (!((Z24 e c).guard)))),
 gp f,
 gp f,
 gp f,
 gp f,
 gp f,
 gp f,
 gp f,
 gp f,
 gp f,
 gt c9 (zpt Z48 f),
 go (zpt (.b (true)) c9), trivial⟩
     · exact bS (aP rfl (aR trivial))
    ·obtain ⟨k, m, g⟩ := bns g;obtain rfl := sIn g;obtain rfl := sIn h8;refine ⟨[(12, 0, .bp b1 0 5), (13, 1, .b (Z67 e c)), (14, 2, .b (Z67 e c)), (15, 3, .d (Z22 j)), (16, 4, .i e), (17, 5, .b r5), (18, 6, .b (!r5)), (19, 7, .b (!r5)), (20, 8, .b (!r5)), (21, 9, .bp b1 0 1), (22, 10, .b ((Z24 e c).guard)), (23, 11, .b (!((Z24 e c).guard))), (24, 12, .b (!((Z24 e c).guard))), (25, 13, .cp [.j c.Field.Places, .j c.Field.Wilds, .j c.Field.Guards, .j c.Field.Close, .j c.Field.Freeze, .mp true (c.players.map fun p : Int × aA => (VI p.1, aG p.2)), .sl 1 (Z17 c), .k c.frozen, .sl 1 (Z16 c), .sl 1 (Z19 c), .j c.more, .j c.entered]), (26, 14, .d (Z22 j)), (27, 15, .i k), (28, 16, .cp [.j c.Field.Places, .j c.Field.Wilds, .j c.Field.Guards, .j c.Field.Close, .j c.Field.Freeze, .mp true (c.players.map fun p : Int × aA => (VI p.1, aG p.2)), .sl 1 (Z17 c), .k c.frozen, .sl 1 (Z16 c), .sl 1 (Z19 c), .j c.more, .j c.entered]), (29, 17, .cp [.j c.Field.Places, .j c.Field.Wilds, .j c.Field.Guards, .j c.Field.Close, .j c.Field.Freeze, .mp true (c.players.map fun p : Int × aA => (VI p.1, aG p.2)), .sl 1 (Z17 c), .k c.frozen, .sl 1 (Z16 c), .sl 1 (Z19 c), .j c.more, .j c.entered]), (30, 18, .cp [.j c.Field.Places, .j c.Field.Wilds, .j c.Field.Guards, .j c.Field.Close, .j c.Field.Freeze]), (31, 19, .cp [.j c.Field.Guards]), (32, 20, .i c.Field.Guards), (33, 21, .b (decide (k < c.Field.Guards))), (34, 22, .b (decide (k < c.Field.Guards))), (35, 23, .b (decide (k < c.Field.Guards)))], ?_, ?_⟩
     · exact dk [0, 1, 2, 3, 3, 30405, 306, 307, 8, 9, 910, 911, 912, 13, 13, 131415, 13, 1317, 1318, 1319, 1320, 131621, 91322, 923] ⟨go (zf rfl wM),
 go (zl 0 rfl rfl rfl dN),
 go (zm (.b (Z67 e c))),
 gt c4 (zlc rfl cE),
 gt c4 (zm (.i e)),
 gt c4 fun S hS => kU (aM rfl) (.func _ _ call53) (ev2 (aU hS rfl) (ev2 (aU hS rfl) evn)) rfl (BVs.refl _ _) (lN _ _ h6) rfl,
 gt c4 (zn rfl),
 go (zpt (.b (!r5)) c4),
 go (zm (.b (!r5))),
 gt c9 (zf rfl zJ),
 gt c9 (zl 0 rfl rfl rfl dN),
 gt c9 (zn rfl),
 gt c9 (zm (.b (!((Z24 e c).guard)))),
 gt f fun S hS => oD (.ptc _) (lM (aM rfl) (aU hS rfl) iD),
 gt f (zlc rfl cE),
 gt f fun S hS => kU (aM rfl) (.func _ _ call67) (ev2 (aU hS rfl) (ev2 (aU hS rfl) evn)) rfl (BVs.refl _ _) (sX _ _ m) rfl,
 gt f fun S hS => oD (.ptc _) (lM (aM rfl) (aU hS rfl) iD),
 gt f fun S hS => dG (aM rfl) (aU hS rfl),
 gt f (zfc [.j c.Field.Places, .j c.Field.Wilds, .j c.Field.Guards, .j c.Field.Close, .j c.Field.Freeze] rfl gU),
 gt f (zfc [.j c.Field.Guards] rfl oU),
 gt f (zlc rfl aW),
 gt f (zcm rfl rfl rfl),
 gt c9 (zpf (.b (decide (k < c.Field.Guards))) f),
 go (zpt (.b (decide (k < c.Field.Guards))) c9), trivial⟩
     · exact bS (aP rfl (aR trivial))
   ·obtain rfl := sIn h8;refine ⟨[(12, 0, .bp b1 0 5), (13, 1, .b (Z67 e c)), (14, 2, .b (Z67 e c)), (15, 3, .d (Z22 j)), (16, 4, .i e), (17, 5, .b r5), (18, 6, .b (!r5)), (19, 7, .b (!r5)), (20, 8, .b (!r5)), (21, 9, .tup []), (22, 10, .tup []), (23, 11, .tup []), (24, 12, .tup []), (25, 13, .tup []), (26, 14, .tup []), (27, 15, .tup []), (28, 16, .tup []), (29, 17, .tup []), (30, 18, .tup []), (31, 19, .tup []), (32, 20, .tup []), (33, 21, .tup []), (34, 22, .tup []), (35, 23, .b false)], ?_, ?_⟩
    · exact dk [0, 1, 2, 3, 3, 30405, 306, 307, 8, 9, 910, 911, 912, 13, 13, 131415, 13, 1317, 1318, 1319, 1320, 131621, 91322, 923] ⟨go (zf rfl wM),
 go (zl 0 rfl rfl rfl dN),
 go (zm (.b (Z67 e c))),
 gt c4 (zlc rfl cE),
 gt c4 (zm (.i e)),
 gt c4 fun S hS => kU (aM rfl) (.func _ _ call53) (ev2 (aU hS rfl) (ev2 (aU hS rfl) evn)) rfl (BVs.refl _ _) (lN _ _ h6) rfl,
 gt c4 (zn rfl),
 go (zpt (.b (!r5)) c4),
 go (zm (.b (!r5))),
 gp c9,
 gp c9,
 gp c9,
 gp c9,
 gq,
 gq,
 gq,
 gq,
 gq,
 gq,
 gq,
 gq,
 gq,
 gp c9,
 go (zpf Z21 c9), trivial⟩
    · exact bS (aP rfl (aR trivial))
  ·obtain rfl := sIn h3;have c9 : false = false := rfl;have h8 := qM c9 h8;obtain rfl := sIn h8;refine ⟨[(12, 0, .bp b1 0 5), (13, 1, .b (Z67 e c)), (14, 2, .b (Z67 e c)), (15, 3, .tup []), (16, 4, .tup []), (17, 5, .tup []), (18, 6, .tup []), (19, 7, .b false), (20, 8, .b (false)), (21, 9, .tup []), (22, 10, .tup []), (23, 11, .tup []), (24, 12, .tup []), (25, 13, .tup []), (26, 14, .tup []), (27, 15, .tup []), (28, 16, .tup []), (29, 17, .tup []), (30, 18, .tup []), (31, 19, .tup []), (32, 20, .tup []), (33, 21, .tup []), (34, 22, .tup []), (35, 23, .b false)], ?_, ?_⟩
   · exact dk [0, 1, 2, 3, 3, 30405, 306, 307, 8, 9, 910, 911, 912, 13, 13, 131415, 13, 1317, 1318, 1319, 1320, 131621, 91322, 923] ⟨go (zf rfl wM),
 go (zl 0 rfl rfl rfl dN),
 go (zm (.b (Z67 e c))),
 gp c4,
 gp c4,
 gp c4,
 gp c4,
 go (zpf Z21 c4),
 go (zm Z77),
 gp c9,
 gp c9,
 gp c9,
 gp c9,
 gq,
 gq,
 gq,
 gq,
 gq,
 gq,
 gq,
 gq,
 gq,
 gp c9,
 go (zpf Z21 c9), trivial⟩
   · exact bS (aP rfl (aR trivial))
 ·refine ta (.b b7) (aE ?_);obtain rfl := sIn h;refine bQ (bL (bR (l := [4]) ⟨rfl, trivial⟩)) ?_;exact rt

theorem yI (a : aN) {r : aN} {g j : Nat} {b : Nat} {o : List Nat} {q : Nat} {c : Value} {t : Value} {s : Value} (h : lT a = some r) : dW Tryz.prog 81 [.bp g j 0] (Z13 g j a b c t s o q) (fun r' o' => ∃ (U : List Nat) (V : Nat) (w2 : Value) (w4 : Value) (w5 : Value), r' = .tup [] ∧ o' = [.box g j [.j r.Field.Places, .j r.Field.Wilds, .j r.Field.Guards, .j r.Field.Close, .j r.Field.Freeze, .lit (.map (some b)), .lit w2, .k r.frozen, .lit w4, .lit w5, .j r.more, .j r.entered], .map b (r.players.map fun p : Int × aA => (VI p.1, (fun v : aA => AV.agg (aG v)) p.2)) U V, .arr w2 3 1 (Z17 r), .arr w4 3 1 (Z16 r), .arr w5 3 1 (Z19 r)]) := by
 unfold lT at h;refine uI func81 rfl (rs := []) results81 ntmps81 (Nat.le_of_ble_eq_true rfl) ?_;refine aF (aC ?_);refine dF (aXb 0 rfl) ?_;refine bE rfl (eB (v := .d (tE g j 0)) (aM rfl) rfl rfl rfl) ?_;rintro _ ⟨b1, rfl⟩;refine aE (aF (aC (to (qT (aM rfl) rfl rfl) ?_)));refine ta (.fn 109 [.bp b1 0 0]) (aE (aF ?_));obtain ⟨r4, h5, h⟩ := bns h;obtain ⟨r7, h8, h⟩ := bns h;refine eD mix 17 [1] (fun X2 => [(7, .bp g j 0), (19, .d (.lit (X2 13).v))]) (fun X2 => [.box g j [.j a.Field.Places, .j a.Field.Wilds, .j a.Field.Guards, .j a.Field.Close, .j a.Field.Freeze, .lit (.map (some b)), .lit c, .k a.frozen, .lit (X2 7).v, .lit s, .j a.more, .j a.entered], .map b (a.players.map fun p : Int × aA => (VI p.1, (fun v : aA => AV.agg (aG v)) p.2)) o q, .arr c 3 1 (Z17 a), .arr (X2 7).v 3 1 (r4.map aH), .arr (X2 13).v 3 1 (r7.map aH), .box b1 0 [tE g j 0]]) ?_ ?_
 ·refine ⟨0, fun X2 => [(6, 0, .bp g j 0), (7, 1, .bp g j 0), (8, 2, .bp g j 0), (9, 3, .bp g j 0), (10, 4, .bp g j 8), (11, 5, .d (.lit t)), (12, 6, .fn 109 [.bp b1 0 0]), (13, 7, .d (.lit (X2 7).v)), (14, 8, .bp g j 0), (15, 9, .bp g j 0), (16, 10, .bp g j 9), (17, 11, .d (.lit s)), (18, 12, .fn 109 [.bp b1 0 0]), (19, 13, .d (.lit (X2 13).v)), (20, 14, .bp g j 0), (21, 15, .bp g j 8)], fun X2 => [([(16, .box g j [.j a.Field.Places, .j a.Field.Wilds, .j a.Field.Guards, .j a.Field.Close, .j a.Field.Freeze, .lit (.map (some b)), .lit c, .k a.frozen, .lit (X2 7).v, .lit s, .j a.more, .j a.entered])], .box g j [.j a.Field.Places, .j a.Field.Wilds, .j a.Field.Guards, .j a.Field.Close, .j a.Field.Freeze, .lit (.map (some b)), .lit c, .k a.frozen, .lit t, .lit s, .j a.more, .j a.entered]), ([], .map b (a.players.map fun p : Int × aA => (VI p.1, (fun v : aA => AV.agg (aG v)) p.2)) o q), ([], .arr c 3 1 (Z17 a)), ([(7, .arr (X2 7).v 3 1 (r4.map aH))], .arr t 3 1 (Z16 a)), ([(13, .arr (X2 13).v 3 1 (r7.map aH))], .arr s 3 1 (Z19 a)), ([], .box b1 0 [tE g j 0])], ?_, ?_⟩
  · exact xok [(0, 17), (0, 0), (0, 81417), (3, 81417), (4, 81417), (5, 81417), (0, 81417), (607, 1417), (0, 1417), (9, 1417), (10, 1417), (11, 1417), (0, 1417), (81213, 17), (10814, 17), (81415, 17), (81416, 0)] ⟨fun _ _ w _ k => xp w (nP (i := 5) (aM rfl) (aU k rfl) (og k rfl rfl) rfl iD),
 fun _ _ w _ k => xp w (nP (i := 5) (aM rfl) (aU k rfl) (og k rfl rfl) rfl iD),
 fun _ _ w _ k => xp w (nP (i := 5) (aM rfl) (aU k rfl) (og k rfl rfl) rfl iD),
 fun _ _ w _ k => xp w (bJ (aM rfl) (aU k rfl)),
 fun _ _ w _ k => xp w (yf k rfl zG),
 fun _ _ w _ k => xp w (yl k 0 rfl (og k rfl rfl) rfl cE),
 fun _ _ w _ k => xp w (ym k (.fn 109 [.bp b1 0 0])),
 fun X2 S hw hi hS => eY (X := X2) (p := 3) (v := fun x => .d (.lit x.v)) (mo := fun x => .arr x.v 3 1 (r4.map aH)) hS hi rfl rfl (fun _ => rfl) hw (fun _ => rfl) (fun _ => rfl) (fun _ => rfl) (fun _ => ⟨rfl, rfl, .inr rfl, ⟨rfl, rfl, .inr rfl, ⟨rfl, rfl, .inr rfl, ⟨rfl, rfl, .inr rfl, ⟨rfl, rfl, .inr rfl, ⟨rfl, rfl, .inr rfl, ⟨rfl, rfl, .inr rfl, ⟨rfl, rfl, .inl rfl, ⟨rfl, rfl, .inr rfl, ⟨rfl, rfl, .inr rfl, ⟨rfl, rfl, .inr rfl, ⟨rfl, rfl, .inr rfl, ⟨rfl, rfl, .inr rfl, ⟨rfl, rfl, .inr rfl, ⟨rfl, rfl, .inr rfl, ⟨rfl, rfl, .inr rfl, trivial⟩⟩⟩⟩⟩⟩⟩⟩⟩⟩⟩⟩⟩⟩⟩⟩) (fun _ => ⟨⟨rfl, .inl rfl, trivial⟩, rfl, ⟨trivial, rfl, ⟨trivial, rfl, ⟨⟨rfl, .inl rfl, trivial⟩, rfl, ⟨⟨rfl, .inr rfl, trivial⟩, rfl, ⟨trivial, rfl, trivial⟩⟩⟩⟩⟩⟩) (cX (aPs 3 (aM rfl) (og hS rfl rfl) (.func _ _ call64) (ev2 (aU hS rfl) (ev2 (aU hS rfl) evn)) rfl (.cons (.same _) (.cons (rC (.cons (eH 4 (er 5 rfl (og hS rfl rfl)) rfl (dvc (aIq 0 (er 0 rfl (og hS rfl rfl)) (dvc (.same _) (dvc (.same _) (dvc (.same _) (dvc (.same _) (dvc (.same _) (dvc (lS (kv := VI) (av := (fun v : aA => AV.agg (aG v))) (l := a.players) (enc := aG) (agg := true) 1 (er 1 rfl (og hS rfl rfl)) (fun h => by cases h) (fun _ => rfl)) (dvc (.same _) (dvc (.same _) (dvc (.same _) (dvc (.same _) (dvc (.same _) (dvc (.same _) dvn))))))))))))) dvn)) .nil)) .nil)) (eU a.first (fun y3 => gR y3 a.players) 109 (Z46 a c t s) call109 (fun _ _ h => wG _ _ h) h5) (mJ (fun _ => rfl) _) (mJ (fun _ => rfl) _)) (by rintro _ ⟨w, rfl⟩; exact ⟨⟨0, w⟩, Ent.refl _⟩)),
 fun _ _ w _ k => xp w (nP (i := 5) (aM rfl) (aU k rfl) (og k rfl rfl) rfl iD),
 fun _ _ w _ k => xp w (bJ (aM rfl) (aU k rfl)),
 fun _ _ w _ k => xp w (yf k rfl wJ),
 fun _ _ w _ k => xp w (yl k 0 rfl (og k rfl rfl) rfl cE),
 fun _ _ w _ k => xp w (ym k (.fn 109 [.bp b1 0 0])),
 fun X2 S hw hi hS => eY (X := X2) (p := 4) (v := fun x => .d (.lit x.v)) (mo := fun x => .arr x.v 3 1 (r7.map aH)) hS hi rfl rfl (fun _ => rfl) hw (fun _ => rfl) (fun _ => rfl) (fun _ => rfl) (fun _ => ⟨rfl, rfl, .inr rfl, ⟨rfl, rfl, .inr rfl, ⟨rfl, rfl, .inr rfl, ⟨rfl, rfl, .inr rfl, ⟨rfl, rfl, .inr rfl, ⟨rfl, rfl, .inr rfl, ⟨rfl, rfl, .inr rfl, ⟨rfl, rfl, .inr rfl, ⟨rfl, rfl, .inr rfl, ⟨rfl, rfl, .inr rfl, ⟨rfl, rfl, .inr rfl, ⟨rfl, rfl, .inr rfl, ⟨rfl, rfl, .inr rfl, ⟨rfl, rfl, .inl rfl, ⟨rfl, rfl, .inr rfl, ⟨rfl, rfl, .inr rfl, trivial⟩⟩⟩⟩⟩⟩⟩⟩⟩⟩⟩⟩⟩⟩⟩⟩) (fun _ => ⟨⟨rfl, .inr rfl, trivial⟩, rfl, ⟨trivial, rfl, ⟨trivial, rfl, ⟨⟨rfl, .inr rfl, trivial⟩, rfl, ⟨⟨rfl, .inl rfl, trivial⟩, rfl, ⟨trivial, rfl, trivial⟩⟩⟩⟩⟩⟩) (cX (aPs 4 (aM rfl) (og hS rfl rfl) (.func _ _ call64) (ev2 (aU hS rfl) (ev2 (aU hS rfl) evn)) rfl (.cons (.same _) (.cons (rC (.cons (eH 4 (er 5 rfl (og hS rfl rfl)) rfl (dvc (aIq 0 (er 0 rfl (og hS rfl rfl)) (dvc (.same _) (dvc (.same _) (dvc (.same _) (dvc (.same _) (dvc (.same _) (dvc (lS (kv := VI) (av := (fun v : aA => AV.agg (aG v))) (l := a.players) (enc := aG) (agg := true) 1 (er 1 rfl (og hS rfl rfl)) (fun h => by cases h) (fun _ => rfl)) (dvc (.same _) (dvc (.same _) (dvc (.same _) (dvc (.same _) (dvc (.same _) (dvc (.same _) dvn))))))))))))) dvn)) .nil)) .nil)) (eU a.late (fun y6 => gR y6 a.players) 109 (Z46 a c t s) call109 (fun _ _ h => wG _ _ h) h8) (mJ (fun _ => rfl) _) (mJ (fun _ => rfl) _)) (by rintro _ ⟨w, rfl⟩; exact ⟨⟨0, w⟩, Ent.refl _⟩)),
 fun _ _ w _ k => xp w (bJ (aM rfl) (aU k rfl)),
 fun _ _ w _ k => xp w (yf k rfl zG),
 fun X2 _ _ _ k => xs 0 k rfl rfl (gM (i := 0) (aU k rfl) (og k rfl rfl) (aU k rfl) rfl rfl sizeOf25 rfl (aM rfl) (Nat.le_of_ble_eq_true rfl) (ds' := [.j a.Field.Places, .j a.Field.Wilds, .j a.Field.Guards, .j a.Field.Close, .j a.Field.Freeze, .lit (.map (some b)), .lit c, .k a.frozen, .lit (X2 7).v, .lit s, .j a.more, .j a.entered]) rfl), trivial⟩
  · exact fun X2 => bS (aP rfl (aP rfl (aR ⟨rfl, trivial⟩)))
 ·intro X2;refine to (bJ (aM rfl) rfl) ?_;refine to (sf rfl wJ) (to (sst 0 rfl rfl sizeOf25 [.j a.Field.Places, .j a.Field.Wilds, .j a.Field.Guards, .j a.Field.Close, .j a.Field.Freeze, .lit (.map (some b)), .lit c, .k a.frozen, .lit (X2 7).v, .lit (X2 13).v, .j a.more, .j a.entered]) (aE (aF (aC (to (nP (i := 5) (aM rfl) rfl rfl rfl iD) ?_)))));obtain ⟨r9, W, h⟩ := bns h;refine bE rfl (uO (aM rfl) (.func _ _ call34) rfl rfl (.cons (eH 0 rfl rfl (dvc (.same _) (dvc (.same _) (dvc (.same _) (dvc (.same _) (dvc (.same _) (dvc (lS (kv := VI) (av := (fun v : aA => AV.agg (aG v))) (l := a.players) (enc := aG) (agg := true) 1 rfl (fun h => by cases h) (fun _ => rfl)) (dvc (bI 2 rfl (aZ (f := aH) fun _ => rfl)) (dvc (.same _) (dvc (bI 3 rfl (aZ (f := aH) fun _ => rfl)) (dvc (bI 4 rfl (aZ (f := aH) fun _ => rfl)) (dvc (.same _) (dvc (.same _) dvn))))))))))))) .nil) (xO _ W) (mJ (fun _ => rfl) _)) ?_;rintro _ ⟨O, rfl⟩;refine bE rfl (dI (zs := [.lit (.slice none 0 0)]) (aM rfl) zeroValue25 rfl rfl) ?_;rintro _ ⟨Y, rfl⟩;refine to (sst 7 rfl rfl sizeOf25 [.lit O]) (aE (bH ?_));refine cB (S := Z66 × aT × Bool × Int × Int × Z66 × Value × Nat × Value) [1] (fun u => [(3, .bp u.2.2.2.2.2.2.2.1 0 0)]) (fun u => [.map b (a.players.map fun p : Int × aA => (VI p.1, (fun v : aA => AV.agg (aG v)) p.2)) o q, .arr c 3 1 (Z17 a), .arr (X2 7).v 3 1 (r4.map aH), .arr u.2.2.2.2.2.2.1 3 1 (u.1.map aH), .box g j [.j u.2.1.Places, .j u.2.1.Wilds, .j u.2.1.Guards, .j u.2.1.Close, .j u.2.1.Freeze, .lit (.map (some b)), .lit c, .k u.2.2.1, .lit (X2 7).v, .lit u.2.2.2.2.2.2.1, .j u.2.2.2.1, .j u.2.2.2.2.1], .box b1 0 [tE g j 0], .box u.2.2.2.2.2.2.2.1 0 [.lit u.2.2.2.2.2.2.2.2], .arr u.2.2.2.2.2.2.2.2 3 1 (u.2.2.2.2.2.1.map aH)]) (fun k u => jW a.players a.wilds r4 k u.1 u.2.1 u.2.2.1 u.2.2.2.1 u.2.2.2.2.1 u.2.2.2.2.2.1) (fun _ => rfl) (r7, a.Field, a.frozen, a.more, a.entered, r9, (X2 13).v, Y, O) h (aS [1, 2, 3, 4, 0, 5, 7, 6] rfl rfl (aP rfl (aR ⟨rfl, trivial⟩))) ?_;rintro a9 ⟨E, e, y, z, A, B, F, I, G⟩ h;simp only [jW] at h;refine aF (aF ?_);obtain ⟨P, Z, h⟩ := bns h;refine cI mix 4 [1, 3] [(27, .i (B.length : Int)), (29, .i P)] ?_ ?_
  ·refine ⟨[(26, 0, .d (.lit G)), (27, 1, .i (B.length : Int)), (28, 2, .bp g j 0), (29, 3, .i P)], ?_, ?_⟩
   · exact dk [0, 1, 0, 3] ⟨go (zl 6 rfl rfl rfl cE),
 go fun S hS => fJ (m := 7) (aM rfl) (aU hS rfl) rfl bP.of,
 go fun S hS => nP (i := 5) (aM rfl) (aU hS rfl) rfl rfl iD,
 go fun S hS => kU (aM rfl) (.func _ _ call36) (ev2 (aU hS rfl) evn) rfl (.cons (eH 4 rfl rfl (dvc (.same _) (dvc (.same _) (dvc (.same _) (dvc (.same _) (dvc (.same _) (dvc (lS (kv := VI) (av := (fun v : aA => AV.agg (aG v))) (l := a.players) (enc := aG) (agg := true) 0 rfl (fun h => by cases h) (fun _ => rfl)) (dvc (bI 1 rfl (aZ (f := aH) fun _ => rfl)) (dvc (.same _) (dvc (bI 2 rfl (aZ (f := aH) fun _ => rfl)) (dvc (bI 3 rfl (aZ (f := aH) fun _ => rfl)) (dvc (.same _) (dvc (.same _) dvn))))))))))))) .nil) (iR _ Z) rfl, trivial⟩
   · exact bS (aP rfl (aP rfl (aR ⟨rfl, rfl, trivial⟩)))
  ·refine to (scm rfl rfl rfl) (aE ?_);refine tih h (fun a0 h => ?_) (fun a0 h => ?_)
   ·refine bA (aF (bH (aF (aC (to (nP (i := 5) (aM rfl) rfl rfl rfl iD) ?_)))));obtain ⟨K, a1, h⟩ := bns h;refine bE rfl (uO (aM rfl) (.func _ _ call52) rfl rfl (.cons (eH 4 rfl rfl (dvc (.same _) (dvc (.same _) (dvc (.same _) (dvc (.same _) (dvc (.same _) (dvc (lS (kv := VI) (av := (fun v : aA => AV.agg (aG v))) (l := a.players) (enc := aG) (agg := true) 0 rfl (fun h => by cases h) (fun _ => rfl)) (dvc (bI 1 rfl (aZ (f := aH) fun _ => rfl)) (dvc (.same _) (dvc (bI 2 rfl (aZ (f := aH) fun _ => rfl)) (dvc (bI 3 rfl (aZ (f := aH) fun _ => rfl)) (dvc (.same _) (dvc (.same _) dvn))))))))))))) .nil) (lJ _ a1) (mJ (fun _ => rfl) _)) ?_;rintro _ ⟨L, rfl⟩;refine to (qT (aM rfl) rfl rfl) ?_;obtain ⟨H, a2, h⟩ := bns h;refine to (sc call90 (uP _ _ 110 [.cp [.pt [.j e.Places, .j e.Wilds, .j e.Guards, .j e.Close, .j e.Freeze, .mp true (a.players.map fun p : Int × aA => (VI p.1, aG p.2)), .sl 1 (Z17 a), .k y, .sl 1 (r4.map aH), .sl 1 (E.map aH), .j z, .j A]], .cp [.sl 1 (B.map aH)]] call110 (fun _ _ h => aDk _ (aN.mk e a.players a.wilds y r4 E z A) _ h) a2) (.cons (.d (bI 8 rfl (aZ (f := aH) fun _ => rfl))) (.cons (rC (.cons (eH 5 rfl rfl (dvc (aIq 4 rfl (dvc (.same _) (dvc (.same _) (dvc (.same _) (dvc (.same _) (dvc (.same _) (dvc (lS (kv := VI) (av := (fun v : aA => AV.agg (aG v))) (l := a.players) (enc := aG) (agg := true) 0 rfl (fun h => by cases h) (fun _ => rfl)) (dvc (bI 1 rfl (aZ (f := aH) fun _ => rfl)) (dvc (.same _) (dvc (bI 2 rfl (aZ (f := aH) fun _ => rfl)) (dvc (bI 3 rfl (aZ (f := aH) fun _ => rfl)) (dvc (.same _) (dvc (.same _) dvn))))))))))))) dvn)) (.cons (eH 6 rfl rfl (dvc (bI 7 rfl (aZ (f := aH) fun _ => rfl)) dvn)) .nil))) .nil))) (ta (.i H) (aE (aF (aF (aC (tm (.i H) (to (scm rfl rfl rfl) (aE ?_))))))));refine tih h (fun a3 h => ?_) (fun a3 h => ?_)
    ·obtain rfl := sIn h;refine bQ (aS [4, 0, 1, 2, 3, 5, 6, 7, 8] rfl rfl (le_refl _)) ?_;exact bM ⟨rfl, _, [.box g j [.j e.Places, .j e.Wilds, .j e.Guards, .j e.Close, .j e.Freeze, .lit (.map (some b)), .lit c, .k y, .lit (X2 7).v, .lit F, .j z, .j A], .map b (a.players.map fun p : Int × aA => (VI p.1, (fun v : aA => AV.agg (aG v)) p.2)) o q, .arr c 3 1 (Z17 a), .arr (X2 7).v 3 1 (r4.map aH), .arr F 3 1 (E.map aH)], [.box b1 0 [tE g j 0], .box I 0 [.lit G], .arr G 3 1 (B.map aH), .arr L 3 1 (K.map aH)], _, .none, .refl _, .same _, o, q, c, (X2 7).v, F, rfl, rfl⟩
    ·refine bA ?_;obtain ⟨M, a4, h⟩ := bns h;obtain ⟨N, Q, h⟩ := bns h;obtain ⟨J, a5, h⟩ := bns h;refine eD mix 12 [1, 3] (fun C => [(39, .bp g j 0), (50, .d (.lit (C 11).v))]) (fun C => [.map b (a.players.map fun p : Int × aA => (VI p.1, (fun v : aA => AV.agg (aG v)) p.2)) o q, .arr c 3 1 (Z17 a), .arr (X2 7).v 3 1 (r4.map aH), .arr (C 11).v 3 1 (J.map aH), .box g j [.j e.Places, .j e.Wilds, .j e.Guards, .j e.Close, .j e.Freeze, .lit (.map (some b)), .lit c, .k y, .lit (X2 7).v, .lit F, .j z, .j A], .box b1 0 [tE g j 0], .box I 0 [.lit G], .arr G 3 1 (B.map aH), .arr L 3 1 (K.map aH), .arr (C 6).v 3 1 (M.map aH)]) ?_ ?_
     ·refine ⟨1, fun C => [(39, 0, .bp g j 0), (40, 1, .bp g j 0), (41, 2, .bp g j 0), (42, 3, .bp g j 9), (43, 4, .d (.lit F)), (44, 5, .bp g j 0), (45, 6, .d (.lit (C 6).v)), (46, 7, .i H), (47, 8, .ep (C 6).v 1 H.toNat 0), (48, 9, .i N), (49, 10, .d (.sl 1 (([N]).map aH))), (50, 11, .d (.lit (C 11).v))], fun C => [([], .map b (a.players.map fun p : Int × aA => (VI p.1, (fun v : aA => AV.agg (aG v)) p.2)) o q), ([], .arr c 3 1 (Z17 a)), ([], .arr (X2 7).v 3 1 (r4.map aH)), ([(11, .arr (C 11).v 3 1 (J.map aH))], .arr F 3 1 (E.map aH)), ([], .box g j [.j e.Places, .j e.Wilds, .j e.Guards, .j e.Close, .j e.Freeze, .lit (.map (some b)), .lit c, .k y, .lit (X2 7).v, .lit F, .j z, .j A]), ([], .box b1 0 [tE g j 0]), ([], .box I 0 [.lit G]), ([], .arr G 3 1 (B.map aH)), ([], .arr L 3 1 (K.map aH)), ([(6, .arr (C 6).v 3 1 (M.map aH))], nob)], ?_, ?_⟩
      · exact xok [(0, 0), (0, 12), (2, 12), (3, 12), (4, 12), (0, 712), (6, 912), (0, 12), (708, 12), (709, 12), (710, 12), (50711, 0)] ⟨fun _ _ w _ k => xp w (nP (i := 5) (aM rfl) (aU k rfl) (og k rfl rfl) rfl iD),
 fun _ _ w _ k => xp w (nP (i := 5) (aM rfl) (aU k rfl) (og k rfl rfl) rfl iD),
 fun _ _ w _ k => xp w (bJ (aM rfl) (aU k rfl)),
 fun _ _ w _ k => xp w (yf k rfl wJ),
 fun _ _ w _ k => xp w (yl k 4 rfl (og k rfl rfl) rfl cE),
 fun _ _ w _ k => xp w (nP (i := 5) (aM rfl) (aU k rfl) (og k rfl rfl) rfl iD),
 fun C S hw hi hS => eY (X := C) (p := 9) (v := fun x => .d (.lit x.v)) (mo := fun x => .arr x.v 3 1 (M.map aH)) hS hi rfl rfl (fun _ => rfl) hw (fun _ => rfl) (fun _ => rfl) (fun _ => rfl) (fun _ => ⟨rfl, rfl, .inr rfl, ⟨rfl, rfl, .inr rfl, ⟨rfl, rfl, .inr rfl, ⟨rfl, rfl, .inr rfl, ⟨rfl, rfl, .inr rfl, ⟨rfl, rfl, .inr rfl, ⟨rfl, rfl, .inl rfl, ⟨rfl, rfl, .inr rfl, ⟨rfl, rfl, .inl rfl, ⟨rfl, rfl, .inr rfl, ⟨rfl, rfl, .inr rfl, ⟨rfl, rfl, .inr rfl, trivial⟩⟩⟩⟩⟩⟩⟩⟩⟩⟩⟩⟩) (fun _ => ⟨trivial, rfl, ⟨trivial, rfl, ⟨trivial, rfl, ⟨⟨rfl, .inr rfl, trivial⟩, rfl, ⟨trivial, rfl, ⟨trivial, rfl, ⟨trivial, rfl, ⟨trivial, rfl, ⟨trivial, rfl, ⟨⟨rfl, .inl rfl, trivial⟩, rfl, trivial⟩⟩⟩⟩⟩⟩⟩⟩⟩⟩) (cX (uO (aM rfl) (.func _ _ call52) (ev2 (aU hS rfl) evn) rfl (.cons (eH 4 (og hS rfl rfl) rfl (dvc (.same _) (dvc (.same _) (dvc (.same _) (dvc (.same _) (dvc (.same _) (dvc (lS (kv := VI) (av := (fun v : aA => AV.agg (aG v))) (l := a.players) (enc := aG) (agg := true) 0 (og hS rfl rfl) (fun h => by cases h) (fun _ => rfl)) (dvc (bI 1 (og hS rfl rfl) (aZ (f := aH) fun _ => rfl)) (dvc (.same _) (dvc (bI 2 (og hS rfl rfl) (aZ (f := aH) fun _ => rfl)) (dvc (bI 3 (og hS rfl rfl) (aZ (f := aH) fun _ => rfl)) (dvc (.same _) (dvc (.same _) dvn))))))))))))) .nil) (lJ _ a4) (mJ (fun _ => rfl) _)) (by rintro _ ⟨w, rfl⟩; exact ⟨⟨0, w⟩, aS [0, 1, 2, 3, 4, 5, 6, 7, 8, 10] rfl rfl (le_refl _)⟩)),
 fun _ _ w _ k => xp w (ym k (.i H)),
 fun _ _ w _ k => xp w (yia k 9 rfl (og k rfl rfl) rfl bP.of (bB aH Q)),
 fun _ _ w _ k => xp w (jZ (aM rfl) (aU k rfl) (m := 9) (og k rfl rfl) (dV aH Q) rfl aW),
 fun _ _ w _ k => xp w (dM (aM rfl) bP rfl (pa2 (aU k rfl) pan) (rows := ([N]).map aH) rfl (aZ (f := aH) fun _ => rfl) rfl (by decide)),
 fun C S hw hi hS => eY (X := C) (p := 3) (v := fun x => .d (.lit x.v)) (mo := fun x => .arr x.v 3 1 (J.map aH)) hS hi rfl rfl (fun _ => rfl) hw (fun _ => rfl) (fun _ => rfl) (fun _ => rfl) (fun _ => ⟨rfl, rfl, .inr rfl, ⟨rfl, rfl, .inr rfl, ⟨rfl, rfl, .inr rfl, ⟨rfl, rfl, .inr rfl, ⟨rfl, rfl, .inr rfl, ⟨rfl, rfl, .inr rfl, ⟨rfl, rfl, .inr rfl, ⟨rfl, rfl, .inr rfl, ⟨rfl, rfl, .inr rfl, ⟨rfl, rfl, .inr rfl, ⟨rfl, rfl, .inr rfl, ⟨rfl, rfl, .inl rfl, trivial⟩⟩⟩⟩⟩⟩⟩⟩⟩⟩⟩⟩) (fun _ => ⟨trivial, rfl, ⟨trivial, rfl, ⟨trivial, rfl, ⟨⟨rfl, .inl rfl, trivial⟩, rfl, ⟨trivial, rfl, ⟨trivial, rfl, ⟨trivial, rfl, ⟨trivial, rfl, ⟨trivial, rfl, ⟨⟨rfl, .inr rfl, trivial⟩, rfl, trivial⟩⟩⟩⟩⟩⟩⟩⟩⟩⟩) (cX (cO (i := 3) (aM rfl) bP (aU hS rfl) (og hS rfl rfl) (aU hS rfl) (fun _ => rfl) a5 rfl) (by rintro _ ⟨w, rfl⟩; exact ⟨⟨0, w⟩, Ent.refl _⟩)), trivial⟩
      · exact fun C => bS (aP rfl (aP rfl (aR ⟨rfl, rfl, trivial⟩)))
     ·intro C;refine to (bJ (aM rfl) rfl) ?_;refine to (sf rfl wJ) (to (sst 4 rfl rfl sizeOf25 [.j e.Places, .j e.Wilds, .j e.Guards, .j e.Close, .j e.Freeze, .lit (.map (some b)), .lit c, .k y, .lit (X2 7).v, .lit (C 11).v, .j z, .j A]) ?_);refine cG ?_;refine aF (aF (aC (to (sl 6 rfl rfl rfl cE) (aE (aC ?_)))));refine bE rfl (dI (zs := [.lit (.slice none 0 0)]) (aM rfl) zeroValue25 rfl rfl) ?_;rintro _ ⟨a6, rfl⟩;refine to (sst 10 rfl rfl sizeOf25 [.lit G]) (aE (aC (to (nP (i := 5) (aM rfl) rfl rfl rfl iD) ?_)));obtain ⟨a7, a8, h⟩ := bns h;refine bE rfl (uO (aM rfl) (.func _ _ call34) rfl rfl (.cons (eH 4 rfl rfl (dvc (.same _) (dvc (.same _) (dvc (.same _) (dvc (.same _) (dvc (.same _) (dvc (lS (kv := VI) (av := (fun v : aA => AV.agg (aG v))) (l := a.players) (enc := aG) (agg := true) 0 rfl (fun h => by cases h) (fun _ => rfl)) (dvc (bI 1 rfl (aZ (f := aH) fun _ => rfl)) (dvc (.same _) (dvc (bI 2 rfl (aZ (f := aH) fun _ => rfl)) (dvc (bI 3 rfl (aZ (f := aH) fun _ => rfl)) (dvc (.same _) (dvc (.same _) dvn))))))))))))) .nil) (xO _ a8) (mJ (fun _ => rfl) _)) ?_;rintro _ ⟨T, rfl⟩;refine to (sst 10 rfl rfl sizeOf25 [.lit T]) (aE ?_);exact ⟨(J, e, y, z, A, a7, (C 11).v, a6, T), h, aS [0, 1, 2, 3, 4, 5, 10, 11] rfl rfl (aP rfl (aR ⟨rfl, trivial⟩))⟩
   ·refine bY ?_;refine .inl ⟨rfl, ?_⟩;simp only [pW] at h;obtain rfl := sIn h;exact ⟨_, [.box g j [.j e.Places, .j e.Wilds, .j e.Guards, .j e.Close, .j e.Freeze, .lit (.map (some b)), .lit c, .k y, .lit (X2 7).v, .lit F, .j z, .j A], .map b (a.players.map fun p : Int × aA => (VI p.1, (fun v : aA => AV.agg (aG v)) p.2)) o q, .arr c 3 1 (Z17 a), .arr (X2 7).v 3 1 (r4.map aH), .arr F 3 1 (E.map aH)], [.box b1 0 [tE g j 0], .box I 0 [.lit G], .arr G 3 1 (B.map aH)], _, .none, (dU (i := 4) rfl).trans (.cons _ ((dU (i := 0) rfl).trans (.cons _ ((dU (i := 0) rfl).trans (.cons _ ((dU (i := 0) rfl).trans (.cons _ ((dU (i := 0) rfl).trans (.cons _ ((dU (i := 0) rfl).trans (.cons _ ((dU (i := 0) rfl).trans (.cons _ ((dU (i := 0) rfl).trans (.cons _ (.refl _)))))))))))))))), .same _, o, q, c, (X2 7).v, F, rfl, rfl⟩

theorem aDc (x : aT) (G : List aO) (A : Int) {r : (Option aN)} (h : sE x G A = some r) : Fn Tryz.prog 50 (Z68 x G A) (kX bC r) := by
 unfold sE at h;refine oT [.tmp 6] func50 results50 ntmps50 ?_;refine aF (aC ?_);refine bE rfl (eB (v := .agg (aQ x)) (aM rfl) rfl rfl rfl) ?_;rintro _ ⟨b1, rfl⟩;refine ta Z69 (aE (aF (aC (to (sla 0 (aQ x) rfl rfl fF) ?_))));refine bE rfl (aEt (aM rfl)) ?_;rintro _ ⟨r2, rfl⟩;refine to (sF (aM rfl) aZa (zs := [.j 0, .j 0, .j 0, .j 0, .j 0, .lit (.map none), .lit (.slice none 0 0), .k false, .lit (.slice none 0 0), .lit (.slice none 0 0), .j 0, .j 0]) rfl rfl rfl rfl (es := [.j x.Places, .j x.Wilds, .j x.Guards, .j x.Close, .j x.Freeze, .lit (.map (some r2)), .lit (.slice none 0 0), .k false, .lit (.slice none 0 0), .lit (.slice none 0 0), .j 0, .j 0]) rfl) ?_;refine bE rfl (eB (v := .agg [.j x.Places, .j x.Wilds, .j x.Guards, .j x.Close, .j x.Freeze, .lit (.map (some r2)), .lit (.slice none 0 0), .k false, .lit (.slice none 0 0), .lit (.slice none 0 0), .j 0, .j 0]) (aM rfl) rfl rfl rfl) ?_;rintro _ ⟨b3, rfl⟩;refine dF (rE 3 1) ?_;refine dF (rE 3 1) ?_;refine dF (rE 3 1) ?_;refine ta (.bp b3 0 0) (aE (aF (aC (tm (Z45 G) ?_))));obtain ⟨x4, h5, h⟩ := bns h;refine to (cJ (aM rfl) (.func _ _ call75) rfl rfl (yG _ h5)) ?_;obtain ⟨r8, h9, h⟩ := bns h;refine bE rfl (lX (aM rfl) (.func _ _ call74) rfl rfl (vJ _ _ 76 [] call76 (fun _ _ _ h => aHm _ _ h) h9)) ?_;rintro _ ⟨O, rfl⟩;refine ta (.d (.lit O)) (aE (aF (aF (aC (tm (.d (.lit O)) ?_)))));obtain ⟨M, c4, h⟩ := bns h;refine dF (aS [6, 0, 1, 2, 3, 4, 5] rfl rfl (le_refl _)) ?_;refine bE rfl (jQ (passed := [.arr O 32 5 (r8.map aJ)]) (aM rfl) rfl (.func _ _ call78) rfl rfl (xY r8 c4)) ?_;rintro _ ⟨_, _, ⟨N, rfl, rfl⟩, rfl⟩;refine to (fJ (m := 0) (aM rfl) rfl rfl cU.of) ?_;refine tm (.i 0) (aE (bH ?_));refine cB (S := Int × (List (Int × aA)) × Z66 × Z66 × Z66 × aT × Bool × Int × Int × (List Nat) × Nat × Value × Value × Value) [2, 3, 7, 19, 20] (fun u => [(21, .i u.1)]) (fun u => [.box b1 0 (aQ x), .map r2 (u.2.1.map fun p : Int × aA => (VI p.1, (fun v : aA => AV.agg (aG v)) p.2)) u.2.2.2.2.2.2.2.2.2.1 u.2.2.2.2.2.2.2.2.2.2.1, .arr u.2.2.2.2.2.2.2.2.2.2.2.1 3 1 (u.2.2.1.map aH), .arr u.2.2.2.2.2.2.2.2.2.2.2.2.1 3 1 (u.2.2.2.1.map aH), .arr u.2.2.2.2.2.2.2.2.2.2.2.2.2 3 1 (u.2.2.2.2.1.map aH), .box b3 0 [.j u.2.2.2.2.2.1.Places, .j u.2.2.2.2.2.1.Wilds, .j u.2.2.2.2.2.1.Guards, .j u.2.2.2.2.2.1.Close, .j u.2.2.2.2.2.1.Freeze, .lit (.map (some r2)), .lit u.2.2.2.2.2.2.2.2.2.2.2.1, .k u.2.2.2.2.2.2.1, .lit u.2.2.2.2.2.2.2.2.2.2.2.2.1, .lit u.2.2.2.2.2.2.2.2.2.2.2.2.2, .j u.2.2.2.2.2.2.2.1, .j u.2.2.2.2.2.2.2.2.1], .arr N 32 5 (M.map aJ)]) (fun k u => gY A (M.length : Int) x M k u.1 u.2.1 u.2.2.1 u.2.2.2.1 u.2.2.2.2.1 u.2.2.2.2.2.1 u.2.2.2.2.2.2.1 u.2.2.2.2.2.2.2.1 u.2.2.2.2.2.2.2.2.1) (fun _ => rfl) (0, ([] : List (Int × aA)), ([] : List Int), ([] : List Int), ([] : List Int), x, false, 0, 0, [], 0, (.slice none 0 0), (.slice none 0 0), (.slice none 0 0)) h (aS [1, 2, 4, 5, 6, 3, 0] rfl rfl (aP rfl (aR ⟨rfl, rfl, rfl, rfl, rfl, trivial⟩))) ?_;rintro e5 ⟨w, e, t, g, j, a, o, q, s, H, I, C, E, F⟩ h;simp only [gY] at h;refine aF (aC (to (scm rfl rfl rfl) (aE (aF ?_))));refine tih h (fun c5 h => ?_) (fun c5 h => ?_)
 ·refine bA (aF (bH (aF (aC ?_))));obtain ⟨J, a1, h⟩ := bns h;refine to (cW (m := 6) (aM rfl) rfl rfl rfl cU.of (bB aJ a1)) ?_;refine to (lY (aM rfl) rfl (l := 6) rfl (dV aJ a1) iL (es := (aJ J)) rfl rfl) ?_;refine bE rfl (dI (zs := [.j 0, .j 0, .j 0, .j 0, .j 0]) (aM rfl) zeroValue32 rfl rfl) ?_;rintro _ ⟨a2, rfl⟩;refine to (sst 7 rfl rfl sizeOf32 (aJ J)) (aE (aF (aF (aC (tfl 7 rfl rfl cL rfl aW (tm (.i A) (to (scm rfl rfl rfl) (aE ?_))))))));refine tih h (fun c6 h => ?_) (fun c6 h => ?_)
  ·refine bY ?_;refine .inr ⟨by decide, ?_⟩;refine .inl ⟨rfl, ?_⟩;simp only [oO] at h;refine aF (aF (aC (tm (.i A) (tfl 0 rfl rfl fY rfl aW (to (scm rfl rfl rfl) (aE ?_))))));refine tih h (fun c7 h => ?_) (fun c7 h => ?_)
   ·refine aC (tm (.bp b3 0 0) ?_);obtain ⟨b, c8, h⟩ := bns h;refine dF (aS [5, 1, 2, 3, 4, 0, 6, 7] rfl rfl (le_refl _)) ?_;refine bE rfl (jQ (passed := [.box b3 0 [.j a.Places, .j a.Wilds, .j a.Guards, .j a.Close, .j a.Freeze, .lit (.map (some r2)), .lit C, .k o, .lit E, .lit F, .j q, .j s], .map r2 (e.map fun p : Int × aA => (VI p.1, (fun v : aA => AV.agg (aG v)) p.2)) H I, .arr C 3 1 (t.map aH), .arr E 3 1 (g.map aH), .arr F 3 1 (j.map aH)]) (aM rfl) rfl (.func _ _ call79) rfl rfl (sW (aN.mk a e t o g j q s) c8)) ?_;rintro _ ⟨_, _, ⟨b4, b5, a3, a4, a5, rfl, rfl⟩, rfl⟩;refine aE (aF (aC (tm (.bp b3 0 0) (ta (.bp b3 0 0) (aE ?_)))));refine bQ (aS [5, 6, 7, 0, 1, 2, 3, 4] rfl rfl (le_refl _)) ?_;apply aFa [.box b1 0 (aQ x), .arr N 32 5 (M.map aJ), .box a2 0 (aJ J)] [.box b3 0 [.j b.Field.Places, .j b.Field.Wilds, .j b.Field.Guards, .j b.Field.Close, .j b.Field.Freeze, .lit (.map (some r2)), .lit a3, .k b.frozen, .lit a4, .lit a5, .j b.more, .j b.entered], .map r2 (b.players.map fun p : Int × aA => (VI p.1, (fun v : aA => AV.agg (aG v)) p.2)) b4 b5, .arr a3 3 1 (b.wilds.map aH), .arr a4 3 1 (b.first.map aH), .arr a5 3 1 (b.late.map aH)] rfl;exact cZ (k := 52) (v := .cp [.j b.Field.Places, .j b.Field.Wilds, .j b.Field.Guards, .j b.Field.Close, .j b.Field.Freeze, .mp true (b.players.map fun p : Int × aA => (VI p.1, aG p.2)), .sl 1 (b.wilds.map aH), .k b.frozen, .sl 1 (b.first.map aH), .sl 1 (b.late.map aH), .j b.more, .j b.entered]) (eH 0 rfl rfl (dvc (.same _) (dvc (.same _) (dvc (.same _) (dvc (.same _) (dvc (.same _) (dvc (lS (kv := VI) (av := (fun v : aA => AV.agg (aG v))) (l := b.players) (enc := aG) (agg := true) 1 rfl (fun h => by cases h) (fun _ => rfl)) (dvc (bI 2 rfl (aZ (f := aH) fun _ => rfl)) (dvc (.same _) (dvc (bI 3 rfl (aZ (f := aH) fun _ => rfl)) (dvc (bI 4 rfl (aZ (f := aH) fun _ => rfl)) (dvc (.same _) (dvc (.same _) dvn))))))))))))) (cZ (k := 50) (v := .cp [.j b.Field.Places, .j b.Field.Wilds, .j b.Field.Guards, .j b.Field.Close, .j b.Field.Freeze, .mp true (b.players.map fun p : Int × aA => (VI p.1, aG p.2)), .sl 1 (b.wilds.map aH), .k b.frozen, .sl 1 (b.first.map aH), .sl 1 (b.late.map aH), .j b.more, .j b.entered]) (eH 0 rfl rfl (dvc (.same _) (dvc (.same _) (dvc (.same _) (dvc (.same _) (dvc (.same _) (dvc (lS (kv := VI) (av := (fun v : aA => AV.agg (aG v))) (l := b.players) (enc := aG) (agg := true) 1 rfl (fun h => by cases h) (fun _ => rfl)) (dvc (bI 2 rfl (aZ (f := aH) fun _ => rfl)) (dvc (.same _) (dvc (bI 3 rfl (aZ (f := aH) fun _ => rfl)) (dvc (bI 4 rfl (aZ (f := aH) fun _ => rfl)) (dvc (.same _) (dvc (.same _) dvn))))))))))))) (cZ (k := 7) (v := .cp [.j b.Field.Places, .j b.Field.Wilds, .j b.Field.Guards, .j b.Field.Close, .j b.Field.Freeze, .mp true (b.players.map fun p : Int × aA => (VI p.1, aG p.2)), .sl 1 (b.wilds.map aH), .k b.frozen, .sl 1 (b.first.map aH), .sl 1 (b.late.map aH), .j b.more, .j b.entered]) (eH 0 rfl rfl (dvc (.same _) (dvc (.same _) (dvc (.same _) (dvc (.same _) (dvc (.same _) (dvc (lS (kv := VI) (av := (fun v : aA => AV.agg (aG v))) (l := b.players) (enc := aG) (agg := true) 1 rfl (fun h => by cases h) (fun _ => rfl)) (dvc (bI 2 rfl (aZ (f := aH) fun _ => rfl)) (dvc (.same _) (dvc (bI 3 rfl (aZ (f := aH) fun _ => rfl)) (dvc (bI 4 rfl (aZ (f := aH) fun _ => rfl)) (dvc (.same _) (dvc (.same _) dvn))))))))))))) (cZ (k := 6) (v := .cp [.j b.Field.Places, .j b.Field.Wilds, .j b.Field.Guards, .j b.Field.Close, .j b.Field.Freeze, .mp true (b.players.map fun p : Int × aA => (VI p.1, aG p.2)), .sl 1 (b.wilds.map aH), .k b.frozen, .sl 1 (b.first.map aH), .sl 1 (b.late.map aH), .j b.more, .j b.entered]) (eH 0 rfl rfl (dvc (.same _) (dvc (.same _) (dvc (.same _) (dvc (.same _) (dvc (.same _) (dvc (lS (kv := VI) (av := (fun v : aA => AV.agg (aG v))) (l := b.players) (enc := aG) (agg := true) 1 rfl (fun h => by cases h) (fun _ => rfl)) (dvc (bI 2 rfl (aZ (f := aH) fun _ => rfl)) (dvc (.same _) (dvc (bI 3 rfl (aZ (f := aH) fun _ => rfl)) (dvc (bI 4 rfl (aZ (f := aH) fun _ => rfl)) (dvc (.same _) (dvc (.same _) dvn))))))))))))) (fU _ _))));obtain rfl := sIn h;refine bQ (bL (bR (l := [6]) ⟨rfl, trivial⟩)) ?_;exact rt
   ·refine bA (aF (aC (tm (.bp b3 0 0) (ta (.bp b3 0 0) (aE ?_)))));refine bQ (aS [0, 6, 7, 1, 2, 3, 4, 5] rfl rfl (le_refl _)) ?_;apply aFa [.box b1 0 (aQ x), .arr N 32 5 (M.map aJ), .box a2 0 (aJ J)] [.map r2 (e.map fun p : Int × aA => (VI p.1, (fun v : aA => AV.agg (aG v)) p.2)) H I, .arr C 3 1 (t.map aH), .arr E 3 1 (g.map aH), .arr F 3 1 (j.map aH), .box b3 0 [.j a.Places, .j a.Wilds, .j a.Guards, .j a.Close, .j a.Freeze, .lit (.map (some r2)), .lit C, .k o, .lit E, .lit F, .j q, .j s]] rfl;exact cZ (k := 52) (v := .cp [.j a.Places, .j a.Wilds, .j a.Guards, .j a.Close, .j a.Freeze, .mp true (e.map fun p : Int × aA => (VI p.1, aG p.2)), .sl 1 (t.map aH), .k o, .sl 1 (g.map aH), .sl 1 (j.map aH), .j q, .j s]) (eH 4 rfl rfl (dvc (.same _) (dvc (.same _) (dvc (.same _) (dvc (.same _) (dvc (.same _) (dvc (lS (kv := VI) (av := (fun v : aA => AV.agg (aG v))) (l := e) (enc := aG) (agg := true) 0 rfl (fun h => by cases h) (fun _ => rfl)) (dvc (bI 1 rfl (aZ (f := aH) fun _ => rfl)) (dvc (.same _) (dvc (bI 2 rfl (aZ (f := aH) fun _ => rfl)) (dvc (bI 3 rfl (aZ (f := aH) fun _ => rfl)) (dvc (.same _) (dvc (.same _) dvn))))))))))))) (cZ (k := 7) (v := .cp [.j a.Places, .j a.Wilds, .j a.Guards, .j a.Close, .j a.Freeze, .mp true (e.map fun p : Int × aA => (VI p.1, aG p.2)), .sl 1 (t.map aH), .k o, .sl 1 (g.map aH), .sl 1 (j.map aH), .j q, .j s]) (eH 4 rfl rfl (dvc (.same _) (dvc (.same _) (dvc (.same _) (dvc (.same _) (dvc (.same _) (dvc (lS (kv := VI) (av := (fun v : aA => AV.agg (aG v))) (l := e) (enc := aG) (agg := true) 0 rfl (fun h => by cases h) (fun _ => rfl)) (dvc (bI 1 rfl (aZ (f := aH) fun _ => rfl)) (dvc (.same _) (dvc (bI 2 rfl (aZ (f := aH) fun _ => rfl)) (dvc (bI 3 rfl (aZ (f := aH) fun _ => rfl)) (dvc (.same _) (dvc (.same _) dvn))))))))))))) (cZ (k := 6) (v := .cp [.j a.Places, .j a.Wilds, .j a.Guards, .j a.Close, .j a.Freeze, .mp true (e.map fun p : Int × aA => (VI p.1, aG p.2)), .sl 1 (t.map aH), .k o, .sl 1 (g.map aH), .sl 1 (j.map aH), .j q, .j s]) (eH 4 rfl rfl (dvc (.same _) (dvc (.same _) (dvc (.same _) (dvc (.same _) (dvc (.same _) (dvc (lS (kv := VI) (av := (fun v : aA => AV.agg (aG v))) (l := e) (enc := aG) (agg := true) 0 rfl (fun h => by cases h) (fun _ => rfl)) (dvc (bI 1 rfl (aZ (f := aH) fun _ => rfl)) (dvc (.same _) (dvc (bI 2 rfl (aZ (f := aH) fun _ => rfl)) (dvc (bI 3 rfl (aZ (f := aH) fun _ => rfl)) (dvc (.same _) (dvc (.same _) dvn))))))))))))) (fU _ _)));obtain rfl := sIn h;refine bQ (bL (bR (l := [6]) ⟨rfl, trivial⟩)) ?_;exact rt
  ·refine bA (aF (aF (aC (tfl 7 rfl rfl cL rfl aW (tfl 0 rfl rfl fY rfl aW (to (scm rfl rfl rfl) (aE ?_)))))));refine tih h (fun c9 h => ?_) (fun c9 h => ?_)
   ·refine aC (tm (.bp b3 0 0) ?_);obtain ⟨B, d0, h⟩ := bns h;refine dF (aS [5, 1, 2, 3, 4, 0, 6, 7] rfl rfl (le_refl _)) ?_;refine bE rfl (jQ (passed := [.box b3 0 [.j a.Places, .j a.Wilds, .j a.Guards, .j a.Close, .j a.Freeze, .lit (.map (some r2)), .lit C, .k o, .lit E, .lit F, .j q, .j s], .map r2 (e.map fun p : Int × aA => (VI p.1, (fun v : aA => AV.agg (aG v)) p.2)) H I, .arr C 3 1 (t.map aH), .arr E 3 1 (g.map aH), .arr F 3 1 (j.map aH)]) (aM rfl) rfl (.func _ _ call79) rfl rfl (sW (aN.mk a e t o g j q s) d0)) ?_;rintro _ ⟨_, _, ⟨b6, b7, a6, a7, a8, rfl, rfl⟩, rfl⟩;refine aE (aF (aC (tm (.bp b3 0 0) (to (sla 7 (aJ J) rfl rfl iL) ?_))));obtain ⟨y, d1, h⟩ := bns h;refine bE rfl (jQ (passed := [.box b3 0 [.j B.Field.Places, .j B.Field.Wilds, .j B.Field.Guards, .j B.Field.Close, .j B.Field.Freeze, .lit (.map (some r2)), .lit a6, .k B.frozen, .lit a7, .lit a8, .j B.more, .j B.entered], .map r2 (B.players.map fun p : Int × aA => (VI p.1, (fun v : aA => AV.agg (aG v)) p.2)) b6 b7, .arr a6 3 1 (B.wilds.map aH), .arr a7 3 1 (B.first.map aH), .arr a8 3 1 (B.late.map aH)]) (aM rfl) rfl (.func _ _ call80) rfl rfl (yJ B J d1)) ?_;rintro _ ⟨_, _, ⟨P, Q, T, U, V, rfl, rfl⟩, rfl⟩;refine aE (aF (aC (tm (.bp b3 0 0) (to (bJ (aM rfl) rfl) ?_))));refine tfl 0 rfl rfl vA rfl dN (aE ?_);refine tih h (fun d2 h => ?_) (fun d2 h => ?_)
    ·refine aC (tm (.bp b3 0 0) ?_);obtain ⟨K, d3, h⟩ := bns h;refine bE rfl (jQ (passed := [.box b3 0 [.j y.Field.Places, .j y.Field.Wilds, .j y.Field.Guards, .j y.Field.Close, .j y.Field.Freeze, .lit (.map (some r2)), .lit T, .k y.frozen, .lit U, .lit V, .j y.more, .j y.entered], .map r2 (y.players.map fun p : Int × aA => (VI p.1, (fun v : aA => AV.agg (aG v)) p.2)) P Q, .arr T 3 1 (y.wilds.map aH), .arr U 3 1 (y.first.map aH), .arr V 3 1 (y.late.map aH)]) (aM rfl) rfl (.func _ _ call81) rfl rfl (yI y d3)) ?_;rintro _ ⟨_, _, ⟨b8, b9, d4, d5, d6, rfl, rfl⟩, rfl⟩;refine cG ?_;refine aC (to (sar rfl rfl rfl) (tm (.i (w64 (w + 1))) (aE ?_)));exact ⟨(w64 (w + 1), K.players, K.wilds, K.first, K.late, K.Field, K.frozen, K.more, K.entered, b8, b9, d4, d5, d6), h, aS [5, 1, 2, 3, 4, 0, 6] rfl rfl (aP rfl (aR ⟨rfl, rfl, rfl, rfl, rfl, trivial⟩))⟩
    ·refine bZ ?_;refine aC (to (sar rfl rfl rfl) (tm (.i (w64 (w + 1))) (aE ?_)));exact ⟨(w64 (w + 1), y.players, y.wilds, y.first, y.late, y.Field, y.frozen, y.more, y.entered, P, Q, T, U, V), h, aS [5, 1, 2, 3, 4, 0, 6] rfl rfl (aP rfl (aR ⟨rfl, rfl, rfl, rfl, rfl, trivial⟩))⟩
   ·refine bA (aF (aC (tm (.bp b3 0 0) (to (sla 7 (aJ J) rfl rfl iL) ?_))));obtain ⟨z, d7, h⟩ := bns h;refine dF (aS [5, 1, 2, 3, 4, 0, 6, 7] rfl rfl (le_refl _)) ?_;refine bE rfl (jQ (passed := [.box b3 0 [.j a.Places, .j a.Wilds, .j a.Guards, .j a.Close, .j a.Freeze, .lit (.map (some r2)), .lit C, .k o, .lit E, .lit F, .j q, .j s], .map r2 (e.map fun p : Int × aA => (VI p.1, (fun v : aA => AV.agg (aG v)) p.2)) H I, .arr C 3 1 (t.map aH), .arr E 3 1 (g.map aH), .arr F 3 1 (j.map aH)]) (aM rfl) rfl (.func _ _ call80) rfl rfl (yJ (aN.mk a e t o g j q s) J d7)) ?_;rintro _ ⟨_, _, ⟨W, X, Y, Z, a0, rfl, rfl⟩, rfl⟩;refine aE (aF (aC (tm (.bp b3 0 0) (to (bJ (aM rfl) rfl) ?_))));refine tfl 0 rfl rfl vA rfl dN (aE ?_);refine tih h (fun d8 h => ?_) (fun d8 h => ?_)
    ·refine aC (tm (.bp b3 0 0) ?_);obtain ⟨L, d9, h⟩ := bns h;refine bE rfl (jQ (passed := [.box b3 0 [.j z.Field.Places, .j z.Field.Wilds, .j z.Field.Guards, .j z.Field.Close, .j z.Field.Freeze, .lit (.map (some r2)), .lit Y, .k z.frozen, .lit Z, .lit a0, .j z.more, .j z.entered], .map r2 (z.players.map fun p : Int × aA => (VI p.1, (fun v : aA => AV.agg (aG v)) p.2)) W X, .arr Y 3 1 (z.wilds.map aH), .arr Z 3 1 (z.first.map aH), .arr a0 3 1 (z.late.map aH)]) (aM rfl) rfl (.func _ _ call81) rfl rfl (yI z d9)) ?_;rintro _ ⟨_, _, ⟨c0, c1, e0, e1, e2, rfl, rfl⟩, rfl⟩;refine cG ?_;refine aC (to (sar rfl rfl rfl) (tm (.i (w64 (w + 1))) (aE ?_)));exact ⟨(w64 (w + 1), L.players, L.wilds, L.first, L.late, L.Field, L.frozen, L.more, L.entered, c0, c1, e0, e1, e2), h, aS [5, 1, 2, 3, 4, 0, 6] rfl rfl (aP rfl (aR ⟨rfl, rfl, rfl, rfl, rfl, trivial⟩))⟩
    ·refine bZ ?_;refine aC (to (sar rfl rfl rfl) (tm (.i (w64 (w + 1))) (aE ?_)));exact ⟨(w64 (w + 1), z.players, z.wilds, z.first, z.late, z.Field, z.frozen, z.more, z.entered, W, X, Y, Z, a0), h, aS [5, 1, 2, 3, 4, 0, 6] rfl rfl (aP rfl (aR ⟨rfl, rfl, rfl, rfl, rfl, trivial⟩))⟩
 ·refine bY ?_;refine .inl ⟨rfl, ?_⟩;simp only [oO] at h;refine aF (aF (aC (tm (.i A) (tfl 0 rfl rfl fY rfl aW (to (scm rfl rfl rfl) (aE ?_))))));refine tih h (fun e3 h => ?_) (fun e3 h => ?_)
  ·refine aC (tm (.bp b3 0 0) ?_);obtain ⟨c, e4, h⟩ := bns h;refine dF (aS [5, 1, 2, 3, 4, 0, 6] rfl rfl (le_refl _)) ?_;refine bE rfl (jQ (passed := [.box b3 0 [.j a.Places, .j a.Wilds, .j a.Guards, .j a.Close, .j a.Freeze, .lit (.map (some r2)), .lit C, .k o, .lit E, .lit F, .j q, .j s], .map r2 (e.map fun p : Int × aA => (VI p.1, (fun v : aA => AV.agg (aG v)) p.2)) H I, .arr C 3 1 (t.map aH), .arr E 3 1 (g.map aH), .arr F 3 1 (j.map aH)]) (aM rfl) rfl (.func _ _ call79) rfl rfl (sW (aN.mk a e t o g j q s) e4)) ?_;rintro _ ⟨_, _, ⟨c2, c3, a9, b0, b2, rfl, rfl⟩, rfl⟩;refine aE (aF (aC (tm (.bp b3 0 0) (ta (.bp b3 0 0) (aE ?_)))));refine bQ (aS [5, 6, 0, 1, 2, 3, 4] rfl rfl (le_refl _)) ?_;apply aFa [.box b1 0 (aQ x), .arr N 32 5 (M.map aJ)] [.box b3 0 [.j c.Field.Places, .j c.Field.Wilds, .j c.Field.Guards, .j c.Field.Close, .j c.Field.Freeze, .lit (.map (some r2)), .lit a9, .k c.frozen, .lit b0, .lit b2, .j c.more, .j c.entered], .map r2 (c.players.map fun p : Int × aA => (VI p.1, (fun v : aA => AV.agg (aG v)) p.2)) c2 c3, .arr a9 3 1 (c.wilds.map aH), .arr b0 3 1 (c.first.map aH), .arr b2 3 1 (c.late.map aH)] rfl;exact cZ (k := 52) (v := .cp [.j c.Field.Places, .j c.Field.Wilds, .j c.Field.Guards, .j c.Field.Close, .j c.Field.Freeze, .mp true (c.players.map fun p : Int × aA => (VI p.1, aG p.2)), .sl 1 (c.wilds.map aH), .k c.frozen, .sl 1 (c.first.map aH), .sl 1 (c.late.map aH), .j c.more, .j c.entered]) (eH 0 rfl rfl (dvc (.same _) (dvc (.same _) (dvc (.same _) (dvc (.same _) (dvc (.same _) (dvc (lS (kv := VI) (av := (fun v : aA => AV.agg (aG v))) (l := c.players) (enc := aG) (agg := true) 1 rfl (fun h => by cases h) (fun _ => rfl)) (dvc (bI 2 rfl (aZ (f := aH) fun _ => rfl)) (dvc (.same _) (dvc (bI 3 rfl (aZ (f := aH) fun _ => rfl)) (dvc (bI 4 rfl (aZ (f := aH) fun _ => rfl)) (dvc (.same _) (dvc (.same _) dvn))))))))))))) (cZ (k := 50) (v := .cp [.j c.Field.Places, .j c.Field.Wilds, .j c.Field.Guards, .j c.Field.Close, .j c.Field.Freeze, .mp true (c.players.map fun p : Int × aA => (VI p.1, aG p.2)), .sl 1 (c.wilds.map aH), .k c.frozen, .sl 1 (c.first.map aH), .sl 1 (c.late.map aH), .j c.more, .j c.entered]) (eH 0 rfl rfl (dvc (.same _) (dvc (.same _) (dvc (.same _) (dvc (.same _) (dvc (.same _) (dvc (lS (kv := VI) (av := (fun v : aA => AV.agg (aG v))) (l := c.players) (enc := aG) (agg := true) 1 rfl (fun h => by cases h) (fun _ => rfl)) (dvc (bI 2 rfl (aZ (f := aH) fun _ => rfl)) (dvc (.same _) (dvc (bI 3 rfl (aZ (f := aH) fun _ => rfl)) (dvc (bI 4 rfl (aZ (f := aH) fun _ => rfl)) (dvc (.same _) (dvc (.same _) dvn))))))))))))) (cZ (k := 7) (v := .cp [.j c.Field.Places, .j c.Field.Wilds, .j c.Field.Guards, .j c.Field.Close, .j c.Field.Freeze, .mp true (c.players.map fun p : Int × aA => (VI p.1, aG p.2)), .sl 1 (c.wilds.map aH), .k c.frozen, .sl 1 (c.first.map aH), .sl 1 (c.late.map aH), .j c.more, .j c.entered]) (eH 0 rfl rfl (dvc (.same _) (dvc (.same _) (dvc (.same _) (dvc (.same _) (dvc (.same _) (dvc (lS (kv := VI) (av := (fun v : aA => AV.agg (aG v))) (l := c.players) (enc := aG) (agg := true) 1 rfl (fun h => by cases h) (fun _ => rfl)) (dvc (bI 2 rfl (aZ (f := aH) fun _ => rfl)) (dvc (.same _) (dvc (bI 3 rfl (aZ (f := aH) fun _ => rfl)) (dvc (bI 4 rfl (aZ (f := aH) fun _ => rfl)) (dvc (.same _) (dvc (.same _) dvn))))))))))))) (cZ (k := 6) (v := .cp [.j c.Field.Places, .j c.Field.Wilds, .j c.Field.Guards, .j c.Field.Close, .j c.Field.Freeze, .mp true (c.players.map fun p : Int × aA => (VI p.1, aG p.2)), .sl 1 (c.wilds.map aH), .k c.frozen, .sl 1 (c.first.map aH), .sl 1 (c.late.map aH), .j c.more, .j c.entered]) (eH 0 rfl rfl (dvc (.same _) (dvc (.same _) (dvc (.same _) (dvc (.same _) (dvc (.same _) (dvc (lS (kv := VI) (av := (fun v : aA => AV.agg (aG v))) (l := c.players) (enc := aG) (agg := true) 1 rfl (fun h => by cases h) (fun _ => rfl)) (dvc (bI 2 rfl (aZ (f := aH) fun _ => rfl)) (dvc (.same _) (dvc (bI 3 rfl (aZ (f := aH) fun _ => rfl)) (dvc (bI 4 rfl (aZ (f := aH) fun _ => rfl)) (dvc (.same _) (dvc (.same _) dvn))))))))))))) (fU _ _))));obtain rfl := sIn h;refine bQ (bL (bR (l := [6]) ⟨rfl, trivial⟩)) ?_;exact rt
  ·refine bA (aF (aC (tm (.bp b3 0 0) (ta (.bp b3 0 0) (aE ?_)))));refine bQ (aS [0, 6, 1, 2, 3, 4, 5] rfl rfl (le_refl _)) ?_;apply aFa [.box b1 0 (aQ x), .arr N 32 5 (M.map aJ)] [.map r2 (e.map fun p : Int × aA => (VI p.1, (fun v : aA => AV.agg (aG v)) p.2)) H I, .arr C 3 1 (t.map aH), .arr E 3 1 (g.map aH), .arr F 3 1 (j.map aH), .box b3 0 [.j a.Places, .j a.Wilds, .j a.Guards, .j a.Close, .j a.Freeze, .lit (.map (some r2)), .lit C, .k o, .lit E, .lit F, .j q, .j s]] rfl;exact cZ (k := 52) (v := .cp [.j a.Places, .j a.Wilds, .j a.Guards, .j a.Close, .j a.Freeze, .mp true (e.map fun p : Int × aA => (VI p.1, aG p.2)), .sl 1 (t.map aH), .k o, .sl 1 (g.map aH), .sl 1 (j.map aH), .j q, .j s]) (eH 4 rfl rfl (dvc (.same _) (dvc (.same _) (dvc (.same _) (dvc (.same _) (dvc (.same _) (dvc (lS (kv := VI) (av := (fun v : aA => AV.agg (aG v))) (l := e) (enc := aG) (agg := true) 0 rfl (fun h => by cases h) (fun _ => rfl)) (dvc (bI 1 rfl (aZ (f := aH) fun _ => rfl)) (dvc (.same _) (dvc (bI 2 rfl (aZ (f := aH) fun _ => rfl)) (dvc (bI 3 rfl (aZ (f := aH) fun _ => rfl)) (dvc (.same _) (dvc (.same _) dvn))))))))))))) (cZ (k := 7) (v := .cp [.j a.Places, .j a.Wilds, .j a.Guards, .j a.Close, .j a.Freeze, .mp true (e.map fun p : Int × aA => (VI p.1, aG p.2)), .sl 1 (t.map aH), .k o, .sl 1 (g.map aH), .sl 1 (j.map aH), .j q, .j s]) (eH 4 rfl rfl (dvc (.same _) (dvc (.same _) (dvc (.same _) (dvc (.same _) (dvc (.same _) (dvc (lS (kv := VI) (av := (fun v : aA => AV.agg (aG v))) (l := e) (enc := aG) (agg := true) 0 rfl (fun h => by cases h) (fun _ => rfl)) (dvc (bI 1 rfl (aZ (f := aH) fun _ => rfl)) (dvc (.same _) (dvc (bI 2 rfl (aZ (f := aH) fun _ => rfl)) (dvc (bI 3 rfl (aZ (f := aH) fun _ => rfl)) (dvc (.same _) (dvc (.same _) dvn))))))))))))) (cZ (k := 6) (v := .cp [.j a.Places, .j a.Wilds, .j a.Guards, .j a.Close, .j a.Freeze, .mp true (e.map fun p : Int × aA => (VI p.1, aG p.2)), .sl 1 (t.map aH), .k o, .sl 1 (g.map aH), .sl 1 (j.map aH), .j q, .j s]) (eH 4 rfl rfl (dvc (.same _) (dvc (.same _) (dvc (.same _) (dvc (.same _) (dvc (.same _) (dvc (lS (kv := VI) (av := (fun v : aA => AV.agg (aG v))) (l := e) (enc := aG) (agg := true) 0 rfl (fun h => by cases h) (fun _ => rfl)) (dvc (bI 1 rfl (aZ (f := aH) fun _ => rfl)) (dvc (.same _) (dvc (bI 2 rfl (aZ (f := aH) fun _ => rfl)) (dvc (bI 3 rfl (aZ (f := aH) fun _ => rfl)) (dvc (.same _) (dvc (.same _) dvn))))))))))))) (fU _ _)));obtain rfl := sIn h;refine bQ (bL (bR (l := [6]) ⟨rfl, trivial⟩)) ?_;exact rt

theorem vS (g : aT) (a : List aO) (e : Int) (c : Int) {r : (Option aN) × Int} (h : pX g a e c = some r) : Fn Tryz.prog 33 [.agg (aQ g), .d (Z15 a), .i e, .i c] (.tup [kX bC r.1, .i r.2]) := by
 unfold pX at h;refine oT [.tmp 8, .tmp 9] func33 results33 ntmps33 ?_;refine aF (aC ?_);refine bE rfl (eB (v := .agg (aQ g)) (aM rfl) rfl rfl rfl) ?_;rintro _ ⟨b1, rfl⟩;refine ta Z69 (ta (.i 0) (aE (aF (aF (aC (to (sla 0 (aQ g) rfl rfl fF) (tm (Z45 a) ?_)))))));obtain ⟨r2, h3, h⟩ := bns h;refine to (scr call21 (aKw _ _ h3)) (ta (.i r2) (aE (aF (aC (tm (.i r2) (to (scm rfl rfl rfl) (aE ?_)))))));refine tih h (fun c4 h => ?_) (fun c4 h => ?_)
 ·refine aF (aC (tm (.i r2) (ta Z69 (ta (.i r2) (aE ?_)))));obtain rfl := sIn h;refine bQ (bL (bR (l := [8, 9]) ⟨rfl, rfl, trivial⟩)) ?_;exact bM ⟨rfl, _, .two _ _, rfl, rfl⟩
 ·refine bA (aF (aF (aC (tm (.i e) ?_))));obtain ⟨r5, h6, h⟩ := bns h;refine to (scr call61 (cM _ _ _ h6)) (to (sn rfl) (tm (.b (!r5)) ?_));obtain ⟨b7, h8, h⟩ := bns h;refine bG 4 [1, 2, 4] 24 b7 ?_ ?_
  ·refine bch h8 (fun f h8 => ?_) (fun f h8 => ?_)
   ·refine tp f (tp f (tp f (to (spt Z48 f) ?_)));obtain rfl := sIn h8;refine aE (aV rfl ⟨rfl, rfl, rfl, trivial⟩ rfl)
   ·refine tk f (sm (.i c)) ?_;obtain ⟨j, k, h8⟩ := bns h8;refine tk f (scr call61 (cM _ _ _ k)) (tk f (sn rfl) (to (spf (.b (!j)) f) ?_));obtain rfl := sIn h8;refine aE (aV rfl ⟨rfl, rfl, rfl, trivial⟩ rfl)
  ·refine aE ?_;refine tih h (fun c9 h => ?_) (fun c9 h => ?_)
   ·refine aF (aC (ta Z69 (ta (.i 1) (aE ?_))));obtain rfl := sIn h;refine bQ (bL (bR (l := [8, 9]) ⟨rfl, rfl, trivial⟩)) ?_;exact bM ⟨rfl, _, .two _ _, rfl, rfl⟩
   ·refine bA (aF (aC (to (sla 0 (aQ g) rfl rfl fF) (tm (Z45 a) (tm (.i e) ?_)))));obtain ⟨m, n, h⟩ := bns h;refine to (cJ (aM rfl) (.func _ _ call50) rfl rfl (aDc _ _ _ n)) ?_;refine ta (kX bC m) (ta (.i 0) (aE ?_));obtain rfl := sIn h;refine bQ (bL (bR (l := [8, 9]) ⟨rfl, rfl, trivial⟩)) ?_;exact bM ⟨rfl, _, .two _ _, rfl, rfl⟩

theorem mF (a : aN) {r : (List Int)} (h : eL a = some r) : Fn Tryz.prog 34 [.cp (bC a)] (.d (.sl 1 (r.map aH))) := by
 unfold eL at h;refine oT [.tmp 2] func34 results34 ntmps34 ?_;refine aF (aC (to (aAt 1 (aM rfl)) ?_));refine aE (aF (aF (aC (tm (Z1 a) (to (dG (aM rfl) rfl) ?_)))));refine to (sfc [.k a.frozen] rfl vA) (to (slc rfl dN) (to (sn rfl) (aE ?_)));refine tih h (fun c1 h => ?_) (fun c1 h => ?_)
 ·refine aF (aC (tm (Z1 a) ?_));obtain ⟨r2, h3, h⟩ := bns h;refine bE rfl (lX (aM rfl) (.func _ _ call62) rfl rfl (rM _ h3)) ?_;rintro _ ⟨v4, rfl⟩;refine ta (.d (.lit v4)) (aE ?_);obtain rfl := sIn h;refine bQ (bL (cZ (k := 2) (v := .d (.sl 1 (r2.map aH))) (.d (bI 0 rfl (aZ (f := aH) fun _ => rfl))) (yX))) ?_;exact rt
 ·refine bA (aF ?_);refine cI mix 8 [] [(13, .d (.sl 1 (Z16 a))), (17, .d (.sl 1 (Z19 a)))] ?_ ?_
  ·refine ⟨[(10, 0, .cp [.j a.Field.Places, .j a.Field.Wilds, .j a.Field.Guards, .j a.Field.Close, .j a.Field.Freeze, .mp true (a.players.map fun p : Int × aA => (VI p.1, aG p.2)), .sl 1 (Z17 a), .k a.frozen, .sl 1 (Z16 a), .sl 1 (Z19 a), .j a.more, .j a.entered]), (11, 1, .cp [.j a.Field.Places, .j a.Field.Wilds, .j a.Field.Guards, .j a.Field.Close, .j a.Field.Freeze, .mp true (a.players.map fun p : Int × aA => (VI p.1, aG p.2)), .sl 1 (Z17 a), .k a.frozen, .sl 1 (Z16 a), .sl 1 (Z19 a), .j a.more, .j a.entered]), (12, 2, .cp [.sl 1 (Z16 a)]), (13, 3, .d (.sl 1 (Z16 a))), (14, 4, .cp [.j a.Field.Places, .j a.Field.Wilds, .j a.Field.Guards, .j a.Field.Close, .j a.Field.Freeze, .mp true (a.players.map fun p : Int × aA => (VI p.1, aG p.2)), .sl 1 (Z17 a), .k a.frozen, .sl 1 (Z16 a), .sl 1 (Z19 a), .j a.more, .j a.entered]), (15, 5, .cp [.j a.Field.Places, .j a.Field.Wilds, .j a.Field.Guards, .j a.Field.Close, .j a.Field.Freeze, .mp true (a.players.map fun p : Int × aA => (VI p.1, aG p.2)), .sl 1 (Z17 a), .k a.frozen, .sl 1 (Z16 a), .sl 1 (Z19 a), .j a.more, .j a.entered]), (16, 6, .cp [.sl 1 (Z19 a)]), (17, 7, .d (.sl 1 (Z19 a)))], ?_, ?_⟩
   · exact dk [0, 1, 2, 3, 0, 5, 6, 7] ⟨go (zm (Z1 a)),
 go fun S hS => dG (aM rfl) (aU hS rfl),
 go (zfc [.sl 1 (Z16 a)] rfl zG),
 go (zlc rfl cE),
 go (zm (Z1 a)),
 go fun S hS => dG (aM rfl) (aU hS rfl),
 go (zfc [.sl 1 (Z19 a)] rfl wJ),
 go (zlc rfl cE), trivial⟩
   · exact bS (aP rfl (aP rfl (aR trivial)))
  ·refine to (dM (aM rfl) vY rfl rfl (rows := ([a.first, a.late]).map nS) rfl (aZ (f := nS) fun _ => rfl) rfl (by decide)) ?_;obtain ⟨r5, h6, h⟩ := bns h;refine bE rfl (lX (aM rfl) (.func _ _ call63) rfl rfl (wB _ h6)) ?_;rintro _ ⟨v7, rfl⟩;refine ta (.d (.lit v7)) (aE ?_);obtain rfl := sIn h;refine bQ (bL (cZ (k := 2) (v := .d (.sl 1 (r5.map aH))) (.d (bI 0 rfl (aZ (f := aH) fun _ => rfl))) (yX))) ?_;exact rt

theorem xP (a : Int) (c : List Int) {r : Bool} (h : mY a c = some r) : Fn Tryz.prog 65 [.i a, .cp [.sl 1 (c.map aH)]] (.b r) := by
 unfold mY at h;refine oT [.tmp 3] func65 results65 ntmps65 ?_;refine aF (aC (ta Z21 (aE (aF (aC (to (slc rfl cE) (tm (.i a) ?_)))))));obtain ⟨r1, h2, h⟩ := bns h;refine to (scr call53 (lN _ _ h2)) (ta (.b r1) (aE ?_));obtain rfl := sIn h;exact rt

theorem zD (a : aN) {r : (List Int)} (h : kC a = some r) : Fn Tryz.prog 35 [.cp (bC a)] (.d (.sl 1 (r.map aH))) := by
 unfold kC at h;refine oT [.tmp 2] func35 results35 ntmps35 ?_;refine aF (aC (to (aAt 1 (aM rfl)) ?_));refine aE (aF (aC (tm (Z1 a) ?_)));obtain ⟨r1, h2, h⟩ := bns h;refine to (cJ (aM rfl) (.func _ _ call34) rfl rfl (mF _ h2)) ?_;refine bE rfl (dI (zs := [.sl 1 Z10]) (aM rfl) zeroValue25 rfl rfl) ?_;rintro _ ⟨b3, rfl⟩;refine to (sst 0 rfl rfl sizeOf25 [.sl 1 (r1.map aH)]) (aE (aF (aC (tm (Z1 a) ?_))));obtain ⟨r4, h5, h⟩ := bns h;refine bE rfl (lX (aM rfl) (.func _ _ call52) rfl rfl (lJ _ h5)) ?_;rintro _ ⟨v6, rfl⟩;refine to (qT (aM rfl) rfl rfl) ?_;refine dF (aS [1, 0] rfl rfl (le_refl _)) ?_;apply vI [.arr v6 3 1 (r4.map aH)] [.box b3 0 [.sl 1 (r1.map aH)]] rfl;exact cZ (k := 8) (v := .fn 65 [.cp [.sl 1 (r1.map aH)]]) (rC (.cons (eH 0 rfl rfl (dvc (.same _) dvn)) .nil)) (cZ (k := 3) (v := .cp [.sl 1 (r1.map aH)]) (eH 0 rfl rfl (dvc (.same _) dvn)) (fU _ _));obtain ⟨r8, h9, h⟩ := bns h;refine bE rfl (jQ (passed := [.arr v6 3 1 (r4.map aH)]) (aM rfl) rfl (.func _ _ call64) rfl rfl (eU r4 (fun y7 => mY y7 r1) 65 [.cp [.sl 1 (r1.map aH)]] call65 (fun _ _ h => xP _ _ h) h9)) ?_;rintro _ ⟨_, _, ⟨b, rfl, rfl⟩, rfl⟩;refine ta (.d (.lit b)) (aE ?_);obtain rfl := sIn h;refine bQ (bL (cZ (k := 2) (v := .d (.sl 1 (r8.map aH))) (.d (bI 0 rfl (aZ (f := aH) fun _ => rfl))) (yX))) ?_;exact rt

theorem aMa (f : aT) (b : List aO) (c : Int) {r : dK × Int} (h : uG f b c = some r) : Fn Tryz.prog 14 (Z68 f b c) (.tup [.agg (fP r.1), .i r.2]) := by
 unfold uG at h;refine gX func14 rfl (rs := [.cell 6 34, .tmp 7]) results14 ntmps14 (Nat.le_of_ble_eq_true rfl) ?_;refine aF (aC ?_);refine bE rfl (eB (v := .agg (aQ f)) (aM rfl) rfl rfl rfl) ?_;rintro _ ⟨b1, rfl⟩;refine bE rfl (dI (zs := Z43) (aM rfl) zeroValue34 rfl rfl) ?_;rintro _ ⟨b2, rfl⟩;refine ta (.i 0) (aE (aF (aC (to (sla 0 (aQ f) rfl rfl fF) (tm (Z45 b) (tm (.i c) ?_))))));obtain ⟨r3, h4, h⟩ := bns h;refine to (cJ (aM rfl) (.func _ _ call33) rfl rfl (vS _ _ _ _ h4)) ?_;refine tm (.tup [kX bC r3.1, .i r3.2]) (to (sex rfl rfl) (to (sex rfl rfl) (ta (kX bC r3.1) (ta (.i r3.2) (aE (aF (aF (aC (tm (.i r3.2) (to (scm rfl rfl rfl) (aE ?_)))))))))));refine tih h (fun c5 h => ?_) (fun c5 h => ?_)
 ·refine aF (aC (to (sF (aM rfl) aNv (zs := Z43) rfl rfl rfl rfl (es := Z43) rfl) ?_));refine tm (.i r3.2) (to (sst 1 rfl rfl sizeOf34 (fP Z36)) (ta (.i r3.2) (aE ?_)));obtain rfl := sIn h;exact bM ⟨rfl, _, [.box b1 0 (aQ f), .box b2 0 (fP Z36)], .two (.cell 6 34 rfl (i := 1) rfl aHh (es := (fP Z36)) rfl rfl) (.tmp 7 (v := .i r3.2) rfl), .refl _, .same _⟩
 ·refine bA (aF (aC (tm (kX bC r3.1) ?_)));obtain ⟨x6, h7, h⟩ := bns h;refine dF (vE (enc := bC) (k := 22) rfl h7) ?_;obtain ⟨r8, h9, h⟩ := bns h;refine to (cJ (aM rfl) (.func _ _ call34) rfl rfl (mF _ h9)) ?_;refine ta (.d (.sl 1 (r8.map aH))) (aE (aF ?_));obtain ⟨a, j, h⟩ := bns h;refine bQ (vE (enc := bC) (k := 8) rfl j) ?_;obtain ⟨g, l, h⟩ := bns h;obtain ⟨e, m, h⟩ := bns h;refine cI mix 12 [6] [(24, .d (.sl 1 (r8.map aH))), (28, .d (.sl 1 (a.wilds.map aH))), (30, .d (.sl 1 (g.map aH))), (35, .i (w64 (e - (r8.length : Int))))] ?_ ?_
  ·refine ⟨[(24, 0, .d (.sl 1 (r8.map aH))), (25, 1, .cp [.j a.Field.Places, .j a.Field.Wilds, .j a.Field.Guards, .j a.Field.Close, .j a.Field.Freeze, .mp true (a.players.map fun p : Int × aA => (VI p.1, aG p.2)), .sl 1 (a.wilds.map aH), .k a.frozen, .sl 1 (a.first.map aH), .sl 1 (a.late.map aH), .j a.more, .j a.entered]), (26, 2, .cp [.j a.Field.Places, .j a.Field.Wilds, .j a.Field.Guards, .j a.Field.Close, .j a.Field.Freeze, .mp true (a.players.map fun p : Int × aA => (VI p.1, aG p.2)), .sl 1 (a.wilds.map aH), .k a.frozen, .sl 1 (a.first.map aH), .sl 1 (a.late.map aH), .j a.more, .j a.entered]), (27, 3, .cp [.sl 1 (a.wilds.map aH)]), (28, 4, .d (.sl 1 (a.wilds.map aH))), (29, 5, .cp [.j a.Field.Places, .j a.Field.Wilds, .j a.Field.Guards, .j a.Field.Close, .j a.Field.Freeze, .mp true (a.players.map fun p : Int × aA => (VI p.1, aG p.2)), .sl 1 (a.wilds.map aH), .k a.frozen, .sl 1 (a.first.map aH), .sl 1 (a.late.map aH), .j a.more, .j a.entered]), (30, 6, .d (.sl 1 (g.map aH))), (31, 7, .cp [.j a.Field.Places, .j a.Field.Wilds, .j a.Field.Guards, .j a.Field.Close, .j a.Field.Freeze, .mp true (a.players.map fun p : Int × aA => (VI p.1, aG p.2)), .sl 1 (a.wilds.map aH), .k a.frozen, .sl 1 (a.first.map aH), .sl 1 (a.late.map aH), .j a.more, .j a.entered]), (32, 8, .i e), (33, 9, .d (.sl 1 (r8.map aH))), (34, 10, .i (r8.length : Int)), (35, 11, .i (w64 (e - (r8.length : Int))))], ?_, ?_⟩
   · exact dk [0, 0, 2, 3, 4, 0, 6, 0, 8, 0, 10, 911] ⟨go (zm (.d (.sl 1 (r8.map aH)))),
 go (zm (.cp [.j a.Field.Places, .j a.Field.Wilds, .j a.Field.Guards, .j a.Field.Close, .j a.Field.Freeze, .mp true (a.players.map fun p : Int × aA => (VI p.1, aG p.2)), .sl 1 (a.wilds.map aH), .k a.frozen, .sl 1 (a.first.map aH), .sl 1 (a.late.map aH), .j a.more, .j a.entered])),
 go fun S hS => dG (aM rfl) (aU hS rfl),
 go (zfc [.sl 1 (a.wilds.map aH)] rfl kH),
 go (zlc rfl cE),
 go (zm (.cp [.j a.Field.Places, .j a.Field.Wilds, .j a.Field.Guards, .j a.Field.Close, .j a.Field.Freeze, .mp true (a.players.map fun p : Int × aA => (VI p.1, aG p.2)), .sl 1 (a.wilds.map aH), .k a.frozen, .sl 1 (a.first.map aH), .sl 1 (a.late.map aH), .j a.more, .j a.entered])),
 go fun S hS => cJ (aM rfl) (.func _ _ call35) (ev2 (aU hS rfl) evn) rfl (zD _ l),
 go (zm (.cp [.j a.Field.Places, .j a.Field.Wilds, .j a.Field.Guards, .j a.Field.Close, .j a.Field.Freeze, .mp true (a.players.map fun p : Int × aA => (VI p.1, aG p.2)), .sl 1 (a.wilds.map aH), .k a.frozen, .sl 1 (a.first.map aH), .sl 1 (a.late.map aH), .j a.more, .j a.entered])),
 go fun S hS => kU (aM rfl) (.func _ _ call36) (ev2 (aU hS rfl) evn) rfl (BVs.refl _ _) (iR _ m) rfl,
 go (zm (.d (.sl 1 (r8.map aH)))),
 go (zle rfl bP.of),
 go (zar rfl rfl rfl), trivial⟩
   · exact bS (aP rfl (aP rfl (aP rfl (aP rfl (aR ⟨rfl, trivial⟩)))))
  ·refine to (sF (aM rfl) aNv (zs := Z43) rfl rfl rfl rfl (es := [.sl 1 (r8.map aH), .sl 1 (a.wilds.map aH), .sl 1 (g.map aH), .j (w64 (e - (r8.length : Int)))]) rfl) ?_;refine to (sst 1 rfl rfl sizeOf34 (fP (dK.mk r8 a.wilds g (w64 (e - (r8.length : Int)))))) (ta (.i 0) (aE ?_));obtain rfl := sIn h;exact bM ⟨rfl, _, [.box b1 0 (aQ f), .box b2 0 (fP (dK.mk r8 a.wilds g (w64 (e - (r8.length : Int)))))], .two (.cell 6 34 rfl (i := 1) rfl aHh (es := (fP (dK.mk r8 a.wilds g (w64 (e - (r8.length : Int)))))) rfl rfl) (.tmp 7 (v := .i 0) rfl), .refl _, .same _⟩

theorem xQ (a : aN) (c : Int) {r : Int × Int} (h : mZ a c = some r) : Fn Tryz.prog 37 [.cp (bC a), .i c] (Z59 r) := by
 unfold mZ at h;refine oT [.tmp 4, .tmp 5] func37 results37 ntmps37 ?_;refine aF (aC (ta (.i 0) (ta (.i 0) (aE (aF (aF ?_))))));obtain ⟨r1, h2, h⟩ := bns h;obtain ⟨r3, h4, h⟩ := bns h;refine cI mix 11 [1] [(17, .d (.sl 1 ((([r1, a.wilds, r3])).map nS))), (18, .i ((([r1, a.wilds, r3]).length : Int))), (19, .i 0)] ?_ ?_
 ·refine ⟨[(9, 0, .cp [.j a.Field.Places, .j a.Field.Wilds, .j a.Field.Guards, .j a.Field.Close, .j a.Field.Freeze, .mp true (a.players.map fun p : Int × aA => (VI p.1, aG p.2)), .sl 1 (Z17 a), .k a.frozen, .sl 1 (Z16 a), .sl 1 (Z19 a), .j a.more, .j a.entered]), (10, 1, .d (.sl 1 (r1.map aH))), (11, 2, .cp [.j a.Field.Places, .j a.Field.Wilds, .j a.Field.Guards, .j a.Field.Close, .j a.Field.Freeze, .mp true (a.players.map fun p : Int × aA => (VI p.1, aG p.2)), .sl 1 (Z17 a), .k a.frozen, .sl 1 (Z16 a), .sl 1 (Z19 a), .j a.more, .j a.entered]), (12, 3, .cp [.j a.Field.Places, .j a.Field.Wilds, .j a.Field.Guards, .j a.Field.Close, .j a.Field.Freeze, .mp true (a.players.map fun p : Int × aA => (VI p.1, aG p.2)), .sl 1 (Z17 a), .k a.frozen, .sl 1 (Z16 a), .sl 1 (Z19 a), .j a.more, .j a.entered]), (13, 4, .cp [.sl 1 (Z17 a)]), (14, 5, .d (.sl 1 (Z17 a))), (15, 6, .cp [.j a.Field.Places, .j a.Field.Wilds, .j a.Field.Guards, .j a.Field.Close, .j a.Field.Freeze, .mp true (a.players.map fun p : Int × aA => (VI p.1, aG p.2)), .sl 1 (Z17 a), .k a.frozen, .sl 1 (Z16 a), .sl 1 (Z19 a), .j a.more, .j a.entered]), (16, 7, .d (.sl 1 (r3.map aH))), (17, 8, .d (.sl 1 ((([r1, a.wilds, r3])).map nS))), (18, 9, .i ((([r1, a.wilds, r3]).length : Int))), (19, 10, .i 0)], ?_, ?_⟩
  · exact dk [0, 1, 0, 3, 4, 5, 0, 7, 20608, 9, 0] ⟨go (zm (Z1 a)),
 go fun S hS => cJ (aM rfl) (.func _ _ call34) (ev2 (aU hS rfl) evn) rfl (mF _ h2),
 go (zm (Z1 a)),
 go fun S hS => dG (aM rfl) (aU hS rfl),
 go (zfc [.sl 1 (Z17 a)] rfl kH),
 go (zlc rfl cE),
 go (zm (Z1 a)),
 go fun S hS => cJ (aM rfl) (.func _ _ call35) (ev2 (aU hS rfl) evn) rfl (zD _ h4),
 go fun S hS => dM (aM rfl) vY rfl (pa2 (aU hS rfl) (pa2 (aU hS rfl) (pa2 (aU hS rfl) pan))) (rows := ([r1, a.wilds, r3]).map nS) rfl (aZ (f := nS) fun _ => rfl) rfl (by decide),
 go (zle rfl vY.of),
 go (zm (.i 0)), trivial⟩
  · exact bS (aP rfl (aP rfl (aP rfl (aR ⟨rfl, trivial⟩))))
 ·refine aE (bH ?_);refine cB (S := Int) [1, 17, 18] (fun s5 => [(19, .i s5)]) (fun s5 => []) (fun k s5 => kS c ([r1, a.wilds, r3]) (([r1, a.wilds, r3]).length : Int) k s5) (fun _ => rfl) (0) h (aS [] rfl rfl (aP rfl (aR ⟨rfl, rfl, rfl, trivial⟩))) ?_;rintro k6 b h;simp only [kS] at h;refine aF (aC (to (scm rfl rfl rfl) (aE (aF ?_))));refine tih h (fun c7 h => ?_) (fun c7 h => ?_)
  ·refine bA (aF (bH (aF (aC (tm (.i b) ?_)))));obtain ⟨x8, h9, h⟩ := bns h;refine to (six rfl rfl vY.of (bB nS h9)) (to (slc rfl cE) (ta (.i b) (ta (.d (.sl 1 (x8.map aH))) (aE (aF (aC (tm (.d (.sl 1 (x8.map aH))) (tm (.i c) ?_))))))));obtain ⟨e, g, h⟩ := bns h;refine to (scr call66 (xZ _ _ g)) (ta (.i e) (aE (aF (aC (tm (.i e) (to (scm rfl rfl rfl) (aE ?_)))))));refine tih h (fun j h => ?_) (fun j h => ?_)
   ·refine aF (aC (tm (.i b) (to (sar rfl rfl rfl) (tm (.i e) (to (sar rfl rfl rfl) (ta (.i (w64 (b + 1))) (ta (.i (w64 (e + 1))) (aE ?_))))))));obtain rfl := sIn h;exact bM ⟨rfl, _, .two _ _, rfl, rfl⟩
   ·refine bZ ?_;refine aC (to (sar rfl rfl rfl) (tm (.i (w64 (b + 1))) (aE ?_)));exact ⟨(w64 (b + 1)), h, aS [] rfl rfl (aP rfl (aR ⟨rfl, rfl, rfl, trivial⟩))⟩
  ·refine bY ?_;refine .inl ⟨rfl, ?_⟩;simp only [sY] at h;refine aF (aC (ta (.i 0) (ta (.i 0) (aE ?_))));obtain rfl := sIn h;exact bM ⟨rfl, _, .two _ _, rfl, rfl⟩

theorem aFu (a : aN) {r : (List Int)} (h : kC a = some r) : dW Tryz.prog 35 [.cp (bC a)] [] (fun r' o' => ∃ (w0 : Value), r' = .d (.lit w0) ∧ o' = [.arr w0 3 1 (r.map aH)]) := by
 unfold kC at h;refine jN func35 rfl (rs := [.tmp 2]) results35 ntmps35 (Nat.le_of_ble_eq_true rfl) ?_;refine aF (aC (to (fQ 3 1 (.inl rfl) (aM rfl)) ?_));refine aE (aF (aC (tm (Z1 a) ?_)));obtain ⟨r2, h3, h⟩ := bns h;refine to (cJ (aM rfl) (.func _ _ call34) rfl rfl (mF _ h3)) ?_;refine bE rfl (dI (zs := [.sl 1 Z10]) (aM rfl) zeroValue25 rfl rfl) ?_;rintro _ ⟨b4, rfl⟩;refine to (sst 1 rfl rfl sizeOf25 [.sl 1 (r2.map aH)]) (aE (aF (aC (tm (Z1 a) ?_))));obtain ⟨r5, h6, h⟩ := bns h;refine bE rfl (lX (aM rfl) (.func _ _ call52) rfl rfl (lJ _ h6)) ?_;rintro _ ⟨v7, rfl⟩;refine to (qT (aM rfl) rfl rfl) ?_;refine dF (aS [0, 2, 1] rfl rfl (le_refl _)) ?_;apply vI [.arr (.slice none 0 0) 3 1 Z44, .arr v7 3 1 (r5.map aH)] [.box b4 0 [.sl 1 (r2.map aH)]] rfl;exact cZ (k := 8) (v := .fn 65 [.cp [.sl 1 (r2.map aH)]]) (rC (.cons (eH 0 rfl rfl (dvc (.same _) dvn)) .nil)) (cZ (k := 3) (v := .cp [.sl 1 (r2.map aH)]) (eH 0 rfl rfl (dvc (.same _) dvn)) (fU _ _));obtain ⟨r9, c, h⟩ := bns h;refine dF (aS [1, 0] rfl rfl (le_refl _)) ?_;refine bE rfl (jQ (passed := [.arr v7 3 1 (r5.map aH)]) (aM rfl) rfl (.func _ _ call64) rfl rfl (eU r5 (fun y8 => mY y8 r2) 65 [.cp [.sl 1 (r2.map aH)]] call65 (fun _ _ h => xP _ _ h) c)) ?_;rintro _ ⟨_, _, ⟨b, rfl, rfl⟩, rfl⟩;refine ta (.d (.lit b)) (aE ?_);obtain rfl := sIn h;exact bM ⟨rfl, _, [.arr b 3 1 (r9.map aH)], Z28, _, .one (.tmp 2 (v := .d (.lit b)) rfl), .refl _, .same _, b, rfl, rfl⟩

theorem aBh (c : Int) (d : aN) {r : Bool} (h : kR c d = some r) : Fn Tryz.prog 68 [.i c, .cp [.pt (bC d)]] (.b r) := by
 unfold kR at h;refine oT [.tmp 3] func68 results68 ntmps68 ?_;refine aF (aC (ta Z21 (aE (aF (aC (to (oD (.ptc _) (lM (aM rfl) rfl iD)) ?_))))));refine to (dG (aM rfl) rfl) ?_;refine to (sfc [.mp true (d.players.map fun p : Int × aA => (VI p.1, aG p.2))] rfl dZ) (to (slc rfl gF) (tm (.i c) (to (jH (enc := aG) (agg := true) (l := d.players) (z := Z2) (a := c) (aM rfl) iW underlying68 zeroValue94 (fun _ _ => .agg (jY rfl)) rfl rfl rfl rfl (dO (kv := VI) c)) ?_)));refine to (oM (aM rfl) rfl runUnderlying94 rfl dN rfl) ?_;refine to (sn rfl) (ta (.b (!(Z67 c d))) (aE ?_));obtain rfl := sIn h;exact rt

theorem vF (E : aX) (d : aN) (w : List Int) (x : Int) {r : aX × Bool} (h : jM E d w x = some r) : Fn Tryz.prog 69 [.agg (aY E), .cp [.pt (bC d)], .cp [.sl 1 (w.map aH)], .cp [.j x]] (.tup [.agg (aY r.1), .b r.2]) := by
 unfold jM at h;refine gX func69 rfl (rs := [.cell 5 110, .tmp 6]) results69 ntmps69 (Nat.le_of_ble_eq_true rfl) ?_;refine aF (aC ?_);refine bE rfl (eB (v := .agg (aY E)) (aM rfl) rfl rfl rfl) ?_;rintro _ ⟨b1, rfl⟩;refine bE rfl (dI (zs := [.j 0, .j 0, .j 0, .j 0]) (aM rfl) zeroValue110 rfl rfl) ?_;rintro _ ⟨b2, rfl⟩;refine ta Z21 (aE (aF (bH ?_)));refine cB (S := aX × aX) [1, 2, 3, 4, 5] (fun s3 => []) (fun s3 => [.box b1 0 (aY s3.1), .box b2 0 (aY s3.2)]) (fun k s3 => fB d w x k s3.1 s3.2) (fun _ => rfl) (E, (aX.mk 0 0 0 0)) h (aS [0, 1] rfl rfl (aR ⟨rfl, rfl, rfl, rfl, rfl, trivial⟩)) ?_;rintro k4 ⟨g, y⟩ h;simp only [fB] at h;refine aF (aF ?_);obtain ⟨r5, h6, h⟩ := bns h;refine cI mix 7 [1, 2, 3, 4, 5] [(17, .i (w64 (g.free + g.guarded))), (19, .i r5)] ?_ ?_
 ·refine ⟨[(13, 0, .bp b1 0 0), (14, 1, .i g.free), (15, 2, .bp b1 0 1), (16, 3, .i g.guarded), (17, 4, .i (w64 (g.free + g.guarded))), (18, 5, .cp [.j d.Field.Places, .j d.Field.Wilds, .j d.Field.Guards, .j d.Field.Close, .j d.Field.Freeze, .mp true (d.players.map fun p : Int × aA => (VI p.1, aG p.2)), .sl 1 (Z17 d), .k d.frozen, .sl 1 (Z16 d), .sl 1 (Z19 d), .j d.more, .j d.entered]), (19, 6, .i r5)], ?_, ?_⟩
  · exact dk [0, 1, 0, 3, 204, 0, 6] ⟨go (zf rfl tO),
 go (zl 0 rfl rfl rfl aW),
 go (zf rfl rA),
 go (zl 0 rfl rfl rfl aW),
 go (zar rfl rfl rfl),
 go fun S hS => oD (.ptc _) (lM (aM rfl) (aU hS rfl) iD),
 go fun S hS => kU (aM rfl) (.func _ _ call36) (ev2 (aU hS rfl) evn) rfl (BVs.refl _ _) (iR _ h6) rfl, trivial⟩
  · exact bS (aP rfl (aP rfl (aR ⟨rfl, rfl, rfl, rfl, rfl, trivial⟩)))
 ·refine to (scm rfl rfl rfl) (aE ?_);refine tih h (fun c7 h => ?_) (fun c7 h => ?_)
  ·refine bA (bH (aF (aC (ta (.i 0) (ta (.i 0) (ta Z21 (aE (aF (aF (aC (to (slc rfl cE) (to (sle rfl bP.of) (tm (.i 0) ?_)))))))))))));refine aE (bH ?_);refine cB (S := Int × Int × Bool × Int × aX × aX) [1, 2, 3, 4, 5, 21, 22] (fun s8 => [(7, .i s8.1), (8, .i s8.2.1), (9, .b s8.2.2.1), (23, .i s8.2.2.2.1)]) (fun s8 => [.box b1 0 (aY s8.2.2.2.2.1), .box b2 0 (aY s8.2.2.2.2.2)]) (fun k s8 => eJ (fB d w x k4) d w x w (w.length : Int) k s8.1 s8.2.1 s8.2.2.1 s8.2.2.2.1 s8.2.2.2.2.1 s8.2.2.2.2.2) (fun _ => rfl) (0, 0, false, 0, g, y) h (aS [0, 1] rfl rfl (aP rfl (aP rfl (aP rfl (aP rfl (aR ⟨rfl, rfl, rfl, rfl, rfl, rfl, rfl, trivial⟩)))))) ?_;rintro k9 ⟨f, e, s, q, c, j⟩ h;simp only [eJ] at h;refine aF (aC (to (scm rfl rfl rfl) (aE (aF ?_))));refine tih h (fun K h => ?_) (fun K h => ?_)
   ·refine bA (aF (bH (aF (aC ?_))));obtain ⟨m, L, h⟩ := bns h;refine to (six rfl rfl bP.of (bB aH L)) (to (slc rfl aW) (ta (.i m) (aE (aF (aC (to (oD (.ptc _) (lM (aM rfl) rfl iD)) ?_))))));refine to (dG (aM rfl) rfl) ?_;refine to (sfc [.mp true (d.players.map fun p : Int × aA => (VI p.1, aG p.2))] rfl dZ) (to (slc rfl gF) (tm (.i m) (to (jH (enc := aG) (agg := true) (l := d.players) (z := Z2) (a := m) (aM rfl) iW underlying68 zeroValue94 (fun _ _ => .agg (jY rfl)) rfl rfl rfl rfl (dO (kv := VI) m)) ?_)));refine to (oM (aM rfl) rfl runUnderlying94 rfl dN rfl) ?_;refine ta (.b ((aL m Z2 d.players).guard)) (aE (aF (bH (aF (aC (tm (.b ((aL m Z2 d.players).guard)) (tm (.b ((aL m Z2 d.players).guard)) ?_)))))));obtain ⟨F, A, h⟩ := bns h;refine bG 5 [1, 2, 3, 4, 5, 7, 8, 9, 11, 12, 21, 22, 23] 41 F ?_ ?_
    ·refine bch A (fun t A => ?_) (fun t A => ?_)
     ·refine tk t (sm (.i e)) (tkl 0 t rfl rfl aEc rfl aW (tk t (scm rfl rfl rfl) (to (spt (.b (decide (e < c.covered))) t) ?_)));obtain rfl := sIn A;refine aE (aV rfl ⟨rfl, rfl, rfl, rfl, rfl, rfl, rfl, rfl, rfl, rfl, rfl, rfl, rfl, trivial⟩ rfl)
     ·refine tp t (tp t (tp t (tp t (to (spf Z21 t) ?_))));obtain rfl := sIn A;refine aE (aV rfl ⟨rfl, rfl, rfl, rfl, rfl, rfl, rfl, rfl, rfl, rfl, rfl, rfl, rfl, trivial⟩ rfl)
    ·refine ta (.b F) (aE ?_);refine tih h (fun M h => ?_) (fun M h => ?_)
     ·refine aF (aC (tm (.i e) (to (sar rfl rfl rfl) (ta (.i (w64 (e + 1))) (aE ?_)))));refine bY ?_;refine .inr ⟨by decide, ?_⟩;refine .inl ⟨rfl, ?_⟩;refine aC (to (sar rfl rfl rfl) (tm (.i (w64 (q + 1))) (aE ?_)));exact ⟨(f, w64 (e + 1), s, w64 (q + 1), c, j), h, aS [0, 1] rfl rfl (aP rfl (aP rfl (aP rfl (aP rfl (aR ⟨rfl, rfl, rfl, rfl, rfl, rfl, rfl, trivial⟩)))))⟩
     ·refine aF (aC (tm (.b ((aL m Z2 d.players).guard)) (to (sn rfl) (tm (.b (!((aL m Z2 d.players).guard))) ?_))));obtain ⟨G, B, h⟩ := bns h;refine bG 5 [1, 2, 3, 4, 5, 7, 8, 9, 11, 12, 21, 22, 23] 52 G ?_ ?_
      ·refine bch B (fun u B => ?_) (fun u B => ?_)
       ·refine tk u (sm (.i f)) (tkl 0 u rfl rfl aEb rfl aW (tk u (scm rfl rfl rfl) (to (spt (.b (decide (f < c.moved))) u) ?_)));obtain rfl := sIn B;refine aE (aV rfl ⟨rfl, rfl, rfl, rfl, rfl, rfl, rfl, rfl, rfl, rfl, rfl, rfl, rfl, trivial⟩ rfl)
       ·refine tp u (tp u (tp u (tp u (to (spf Z21 u) ?_))));obtain rfl := sIn B;refine aE (aV rfl ⟨rfl, rfl, rfl, rfl, rfl, rfl, rfl, rfl, rfl, rfl, rfl, rfl, rfl, trivial⟩ rfl)
      ·refine ta (.b G) (aE ?_);refine tih h (fun N h => ?_) (fun N h => ?_)
       ·refine aF (aC (tm (.i f) (to (sar rfl rfl rfl) (ta (.i (w64 (f + 1))) (aE ?_)))));refine bY ?_;refine .inr ⟨by decide, ?_⟩;refine .inl ⟨rfl, ?_⟩;refine aC (to (sar rfl rfl rfl) (tm (.i (w64 (q + 1))) (aE ?_)));exact ⟨(w64 (f + 1), e, s, w64 (q + 1), c, j), h, aS [0, 1] rfl rfl (aP rfl (aP rfl (aP rfl (aP rfl (aR ⟨rfl, rfl, rfl, rfl, rfl, rfl, rfl, trivial⟩)))))⟩
       ·refine aF ?_;obtain ⟨H, C, h⟩ := bns h;refine cI mix 11 [1, 2, 3, 4, 5, 7, 8, 9, 11, 12, 21, 22, 23] [(66, .b H)] ?_ ?_
        ·refine bch C (fun o C => ?_) (fun o C => ?_)
         ·obtain rfl := sIn C;refine ⟨[(56, 0, .b ((aL m Z2 d.players).guard)), (57, 1, .b ((aL m Z2 d.players).guard)), (58, 2, .bp b1 0 1), (59, 3, .i c.guarded), (60, 4, .cp [.j d.Field.Places, .j d.Field.Wilds, .j d.Field.Guards, .j d.Field.Close, .j d.Field.Freeze, .mp true (d.players.map fun p : Int × aA => (VI p.1, aG p.2)), .sl 1 (Z17 d), .k d.frozen, .sl 1 (Z16 d), .sl 1 (Z19 d), .j d.more, .j d.entered]), (61, 5, .cp [.j d.Field.Places, .j d.Field.Wilds, .j d.Field.Guards, .j d.Field.Close, .j d.Field.Freeze, .mp true (d.players.map fun p : Int × aA => (VI p.1, aG p.2)), .sl 1 (Z17 d), .k d.frozen, .sl 1 (Z16 d), .sl 1 (Z19 d), .j d.more, .j d.entered]), (62, 6, .cp [.j d.Field.Places, .j d.Field.Wilds, .j d.Field.Guards, .j d.Field.Close, .j d.Field.Freeze]), (63, 7, .cp [.j d.Field.Guards]), (64, 8, .i d.Field.Guards), (65, 9, .b (decide (d.Field.Guards ≤ c.guarded))), (66, 10, .b (decide (d.Field.Guards ≤ c.guarded)))], ?_, ?_⟩
          · exact dk [0, 1, 2, 203, 2, 205, 206, 207, 208, 20409, 210] ⟨go (zm (.b ((aL m Z2 d.players).guard))),
 go (zm (.b ((aL m Z2 d.players).guard))),
 gt o (zf rfl rA),
 gt o (zl 0 rfl rfl rfl aW),
 gt o fun S hS => oD (.ptc _) (lM (aM rfl) (aU hS rfl) iD),
 gt o fun S hS => dG (aM rfl) (aU hS rfl),
 gt o (zfc [.j d.Field.Places, .j d.Field.Wilds, .j d.Field.Guards, .j d.Field.Close, .j d.Field.Freeze] rfl gU),
 gt o (zfc [.j d.Field.Guards] rfl oU),
 gt o (zlc rfl aW),
 gt o (zcm rfl rfl rfl),
 go (zpt (.b (decide (d.Field.Guards ≤ c.guarded))) o), trivial⟩
          · exact bS (aP rfl (aR ⟨rfl, rfl, rfl, rfl, rfl, rfl, rfl, rfl, rfl, rfl, rfl, rfl, rfl, trivial⟩))
         ·obtain rfl := sIn C;refine ⟨[(56, 0, .b ((aL m Z2 d.players).guard)), (57, 1, .b ((aL m Z2 d.players).guard)), (58, 2, .tup []), (59, 3, .tup []), (60, 4, .tup []), (61, 5, .tup []), (62, 6, .tup []), (63, 7, .tup []), (64, 8, .tup []), (65, 9, .tup []), (66, 10, .b false)], ?_, ?_⟩
          · exact dk [0, 1, 2, 203, 2, 205, 206, 207, 208, 20409, 210] ⟨go (zm (.b ((aL m Z2 d.players).guard))),
 go (zm (.b ((aL m Z2 d.players).guard))),
 gp o,
 gp o,
 gp o,
 gp o,
 gp o,
 gp o,
 gp o,
 gp o,
 go (zpf Z21 o), trivial⟩
          · exact bS (aP rfl (aR ⟨rfl, rfl, rfl, rfl, rfl, rfl, rfl, rfl, rfl, rfl, rfl, rfl, rfl, trivial⟩))
        ·refine ta (.b H) (aE ?_);refine tih h (fun O h => ?_) (fun O h => ?_)
         ·refine bY ?_;refine .inr ⟨by decide, ?_⟩;refine .inl ⟨rfl, ?_⟩;refine aC (to (sar rfl rfl rfl) (tm (.i (w64 (q + 1))) (aE ?_)));exact ⟨(f, e, s, w64 (q + 1), c, j), h, aS [0, 1] rfl rfl (aP rfl (aP rfl (aP rfl (aP rfl (aR ⟨rfl, rfl, rfl, rfl, rfl, rfl, rfl, trivial⟩)))))⟩
         ·refine bZ ?_;refine aF (aF (aC (tm (.i m) (to (slc rfl aW) (to (scm rfl rfl rfl) (aE ?_))))));refine tih h (fun P h => ?_) (fun P h => ?_)
          ·refine aF (aC (to (sla 0 (aY c) rfl rfl lZ) (to (sst 1 rfl rfl sizeOf110 (aY c)) (ta Z48 (aE ?_)))));obtain rfl := sIn h;exact bM ⟨rfl, _, [.box b1 0 (aY c), .box b2 0 (aY c)], .two (.cell 5 110 rfl (i := 1) rfl lZ (es := (aY c)) rfl rfl) (.tmp 6 (v := .b true) rfl), .refl _, .same _⟩
          ·refine bA (aF (aF (aC (tm (.b ((aL m Z2 d.players).guard)) (aE ?_)))));refine tih h (fun Q h => ?_) (fun Q h => ?_)
           ·refine aC (tfl 0 rfl rfl rA rfl aW (to (sar rfl rfl rfl) (tfl 0 rfl rfl aEc rfl aW (to (sar rfl rfl rfl) (to (sf rfl rA) (to (sst 0 rfl rfl sizeOf3 (aY (aX.mk c.free (w64 (c.guarded + 1)) c.moved c.covered))) (to (sf rfl aEc) (to (sst 0 rfl rfl sizeOf3 (aY (aX.mk c.free (w64 (c.guarded + 1)) c.moved (w64 (c.covered + 1))))) (aE (aF (aC ?_)))))))))));refine ta Z48 (aE ?_);refine bY ?_;refine .inr ⟨by decide, ?_⟩;refine .inl ⟨rfl, ?_⟩;simp only [fA] at h;refine aF (aC (tm Z48 (to (sn rfl) (aE ?_))));refine aFn rfl (fun I => ?_) (fun I => ?_)
            ·exact absurd I (by decide)
            ·refine bZ ?_;simp only [jF] at h;exact ⟨((aX.mk c.free (w64 (c.guarded + 1)) c.moved (w64 (c.covered + 1))), j), h, aS [0, 1] rfl rfl (aR ⟨rfl, rfl, rfl, rfl, rfl, trivial⟩)⟩
           ·refine aC (tfl 0 rfl rfl tO rfl aW (to (sar rfl rfl rfl) (tfl 0 rfl rfl aEb rfl aW (to (sar rfl rfl rfl) (to (sf rfl tO) (to (sst 0 rfl rfl sizeOf3 (aY (aX.mk (w64 (c.free + 1)) c.guarded c.moved c.covered))) (to (sf rfl aEb) (to (sst 0 rfl rfl sizeOf3 (aY (aX.mk (w64 (c.free + 1)) c.guarded (w64 (c.moved + 1)) c.covered))) (aE (aF (aC ?_)))))))))));refine ta Z48 (aE ?_);refine bY ?_;refine .inr ⟨by decide, ?_⟩;refine .inl ⟨rfl, ?_⟩;simp only [fA] at h;refine aF (aC (tm Z48 (to (sn rfl) (aE ?_))));refine aFn rfl (fun J => ?_) (fun J => ?_)
            ·exact absurd J (by decide)
            ·refine bZ ?_;simp only [jF] at h;exact ⟨((aX.mk (w64 (c.free + 1)) c.guarded (w64 (c.moved + 1)) c.covered), j), h, aS [0, 1] rfl rfl (aR ⟨rfl, rfl, rfl, rfl, rfl, trivial⟩)⟩
   ·refine bY ?_;refine .inl ⟨rfl, ?_⟩;simp only [fA] at h;refine aF (aC (tm (.b s) (to (sn rfl) (aE ?_))));refine tih h (fun T h => ?_) (fun T h => ?_)
    ·refine aF (aC (to (sla 0 (aY c) rfl rfl lZ) (to (sst 1 rfl rfl sizeOf110 (aY c)) (ta Z21 (aE ?_)))));obtain rfl := sIn h;exact bM ⟨rfl, _, [.box b1 0 (aY c), .box b2 0 (aY c)], .two (.cell 5 110 rfl (i := 1) rfl lZ (es := (aY c)) rfl rfl) (.tmp 6 (v := .b false) rfl), .refl _, .same _⟩
    ·refine bZ ?_;simp only [jF] at h;exact ⟨(c, j), h, aS [0, 1] rfl rfl (aR ⟨rfl, rfl, rfl, rfl, rfl, trivial⟩)⟩
  ·refine bY ?_;refine .inl ⟨rfl, ?_⟩;simp only [uN] at h;refine aF (aC (to (sla 0 (aY g) rfl rfl lZ) (to (sst 1 rfl rfl sizeOf110 (aY g)) (ta Z21 (aE ?_)))));obtain rfl := sIn h;exact bM ⟨rfl, _, [.box b1 0 (aY g), .box b2 0 (aY g)], .two (.cell 5 110 rfl (i := 1) rfl lZ (es := (aY g)) rfl rfl) (.tmp 6 (v := .b false) rfl), .refl _, .same _⟩

end Go.Am
