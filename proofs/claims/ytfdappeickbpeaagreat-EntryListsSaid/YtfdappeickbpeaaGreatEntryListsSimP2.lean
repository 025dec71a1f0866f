/- The functions compute what the shallow ones say: printed by program. -/
import Derived.Test.YtfdappeickbpeaaGreatEntryListsSimP1
namespace Go.Am
open Go.Proofs
open Go.Proofs.Tryz
set_option maxRecDepth 100000
set_option maxHeartbeats 40000000

theorem vV (c : aO) (e : aM) {r : aO} {o q : Nat} {g : Nat} {y : List Nat} {j : Nat} {u : Value} {s : Value} {t : Value} (h : kJ c e = some r) : dO Tryz.prog 80 [.bp o q 0, .agg (aI e)] (Z13 o q c g u s t y j) (fun r' o' => ∃ (a5 : List Nat) (a6 : Nat) (w2 : Value) (w4 : Value) (w5 : Value), r' = .tup [] ∧ o' = [.box o q [.j r.Field.Places, .j r.Field.Wilds, .j r.Field.Guards, .j r.Field.Close, .j r.Field.Freeze, .lit (.map (some g)), .lit w2, .k r.frozen, .lit w4, .lit w5, .j r.more, .j r.entered], .map g (r.players.map fun p : Int × aA => (VI p.1, (fun v : aA => AV.agg (aG v)) p.2)) a5 a6, .arr w2 3 1 (Z17 r), .arr w4 3 1 (Z16 r), .arr w5 3 1 (Z19 r)]) := by
 unfold kJ at h;refine uO func80 rfl (rs := []) results80 ntmps80 (Nat.le_of_ble_eq_true rfl) ?_;refine aF (aC ?_);refine bC rfl (dW (v := .agg (aI e)) (aL rfl) rfl rfl rfl) ?_;rintro _ ⟨b1, rfl⟩;refine aE (aF ?_);refine dU mix 8 [0, 3] (fun X2 => [(4, .bp (X2 7).b 0 0), (11, .agg (Z67 e c))]) (fun X2 => [.box o q [.j c.Field.Places, .j c.Field.Wilds, .j c.Field.Guards, .j c.Field.Close, .j c.Field.Freeze, .lit (.map (some g)), .lit u, .k c.frozen, .lit s, .lit t, .j c.more, .j c.entered], .map g (c.players.map fun p : Int × aA => (VI p.1, (fun v : aA => AV.agg (aG v)) p.2)) y j, .arr u 3 1 (Z17 c), .arr s 3 1 (Z16 c), .arr t 3 1 (Z19 c), .box b1 0 (aI e), .box (X2 7).b 0 (aG Z2)]) ?_ ?_
 ·refine ⟨1, fun X2 => [(5, 0, .bp o q 0), (6, 1, .bp o q 0), (7, 2, .bp o q 5), (8, 3, .d (Z22 g)), (9, 4, .bp b1 0 3), (10, 5, .i e.Player), (11, 6, .agg (Z67 e c)), (4, 7, .bp (X2 7).b 0 0)], fun X2 => [([], .box o q [.j c.Field.Places, .j c.Field.Wilds, .j c.Field.Guards, .j c.Field.Close, .j c.Field.Freeze, .lit (.map (some g)), .lit u, .k c.frozen, .lit s, .lit t, .j c.more, .j c.entered]), ([], .map g (c.players.map fun p : Int × aA => (VI p.1, (fun v : aA => AV.agg (aG v)) p.2)) y j), ([], .arr u 3 1 (Z17 c)), ([], .arr s 3 1 (Z16 c)), ([], .arr t 3 1 (Z19 c)), ([], .box b1 0 (aI e)), ([(7, .box (X2 7).b 0 (aG Z2))], nob)], ?_, ?_⟩
  · exact xok [(0, 0), (1, 0), (2, 0), (3, 0), (0, 0), (5, 0), (406, 0), (0, 0)] ⟨fun _ _ w _ k => xp w (ym k (.bp o q 0)),
 fun _ _ w _ k => xp w (bG (aL rfl) (aT k rfl)),
 fun _ _ w _ k => xp w (yf k rfl dR),
 fun _ _ w _ k => xp w (yl k 0 rfl (og k rfl rfl) rfl fV),
 fun _ _ w _ k => xp w (yf k rfl cI),
 fun _ _ w _ k => xp w (yl k 5 rfl (og k rfl rfl) rfl aV),
 fun _ _ w _ k => xp w (xH (av := (fun v : aA => AV.agg (aG v))) (l := c.players) (z := Z2) (a := e.Player) (m := 1) (aL rfl) iD underlying68 zeroValue94 (fun _ _ => .agg (jG rfl)) (aT k rfl) (og k rfl rfl) rfl (aT k rfl) (dF (kv := VI) e.Player)),
 fun X2 S hw hi hS => eQ (X := X2) (p := 6) (v := fun x => .bp x.b 0 0) (mo := fun x => .box x.b 0 (aG Z2)) hS hi rfl rfl (fun _ => rfl) hw (fun _ => rfl) (fun _ => rfl) (fun _ => rfl) (fun _ => ⟨rfl, rfl, .inr rfl, ⟨rfl, rfl, .inr rfl, ⟨rfl, rfl, .inr rfl, ⟨rfl, rfl, .inr rfl, ⟨rfl, rfl, .inr rfl, ⟨rfl, rfl, .inr rfl, ⟨rfl, rfl, .inr rfl, ⟨rfl, rfl, .inl rfl, trivial⟩⟩⟩⟩⟩⟩⟩⟩) (fun _ => ⟨trivial, rfl, ⟨trivial, rfl, ⟨trivial, rfl, ⟨trivial, rfl, ⟨trivial, rfl, ⟨trivial, rfl, ⟨⟨rfl, .inl rfl, trivial⟩, rfl, trivial⟩⟩⟩⟩⟩⟩⟩) (cS (dK (zs := [.k false, .k false, .j 0, .j 0, .k false, .k false, .k false, .k false]) (aL rfl) zeroValue94 rfl rfl) (by rintro _ ⟨w, rfl⟩; exact ⟨⟨w, undef⟩, aS [0, 1, 2, 3, 4, 5, 7] rfl rfl (le_refl _)⟩)), trivial⟩
  · exact fun X2 => bP (aP rfl (aP rfl (aR ⟨rfl, rfl, trivial⟩)))
 ·intro X2;refine to (sst 6 rfl rfl sizeOf94 (Z67 e c)) (aE (aF (aF (aC (tfl 5 rfl rfl nG rfl aV (aE (bI (aF (aF (aC (to (scm rfl rfl rfl) (ta (Z65 e) ?_))))))))))));refine aE ?_;refine tih h (fun c3 h => ?_) (fun c3 h => ?_)
  ·refine bA ?_;refine tih h (fun c4 h => ?_) (fun c4 h => ?_)
   ·refine aF ?_;refine cG mix 7 [0, 3, 4] [(18, .i e.Hour), (23, .i c.Field.Close)] ?_ ?_
    ·refine ⟨[(17, 0, .bp b1 0 1), (18, 1, .i e.Hour), (19, 2, .bp o q 0), (20, 3, .bp o q 0), (21, 4, .bp o q 0), (22, 5, .bp o q 3), (23, 6, .i c.Field.Close)], ?_, ?_⟩
     · exact dk [0, 1, 0, 3, 4, 5, 6] ⟨go (zf rfl cK),
 go (zl 5 rfl rfl rfl aV),
 go (zm (.bp o q 0)),
 go fun S hS => bG (aL rfl) (aT hS rfl),
 go (zf rfl fX),
 go (zf rfl oM),
 go (zl 0 rfl rfl rfl aV), trivial⟩
     · exact bP (aP rfl (aP rfl (aR ⟨rfl, rfl, rfl, trivial⟩)))
    ·refine to (scm rfl rfl rfl) (tm (.b (decide (e.Hour ≤ c.Field.Close))) ?_);obtain ⟨b5, h6, h⟩ := bns h;refine bE 4 [0, 3, 4] 29 b5 ?_ ?_
     ·refine bch h6 (fun c9 h6 => ?_) (fun c9 h6 => ?_)
      ·refine tkl 6 c9 rfl rfl wR rfl dI (tk c9 (sn rfl) (to (spt (.b (!((Z0 e c).entered))) c9) ?_));obtain rfl := sIn h6;refine aE (aU rfl ⟨rfl, rfl, rfl, trivial⟩ rfl)
      ·refine tp c9 (tp c9 (tp c9 (to (spf Z21 c9) ?_)));obtain rfl := sIn h6;refine aE (aU rfl ⟨rfl, rfl, rfl, trivial⟩ rfl)
     ·refine aE ?_;refine tih h (fun c7 h => ?_) (fun c7 h => ?_)
      ·refine aF (aC (tm (.bp o q 0) (to (bG (aL rfl) rfl) ?_)));refine tfl 0 rfl rfl uA rfl aV (to (sar rfl rfl rfl) (to (bG (aL rfl) rfl) ?_));refine to (sf rfl uA) (to (sst 0 rfl rfl sizeOf3 [.j c.Field.Places, .j c.Field.Wilds, .j c.Field.Guards, .j c.Field.Close, .j c.Field.Freeze, .lit (.map (some g)), .lit u, .k c.frozen, .lit s, .lit t, .j c.more, .j (Z53 c)]) (aE ?_));refine dU mix 15 [0, 3, 4] (fun X8 => [(45, .i (Z53 c))]) (fun X8 => [.box o q [.j c.Field.Places, .j c.Field.Wilds, .j c.Field.Guards, .j c.Field.Close, .j c.Field.Freeze, .lit (.map (some g)), .lit u, .k c.frozen, .lit s, .lit t, .j c.more, .j (Z53 c)], .map g (c.players.map fun p : Int × aA => (VI p.1, (fun v : aA => AV.agg (aG v)) p.2)) y j, .arr u 3 1 (Z17 c), .arr s 3 1 (Z16 c), .arr t 3 1 (Z19 c), .box b1 0 (aI e), .box (X2 7).b 0 (Z20 e c)]) ?_ ?_
       ·refine ⟨0, fun X8 => [(37, 0, .bp b1 0 2), (38, 1, .i e.Kind), (39, 2, .b (Z14 e)), (40, 3, .bp b1 0 4), (41, 4, .i e.Rank), (42, 5, .bp o q 0), (43, 6, .bp o q 0), (44, 7, .bp o q 11), (45, 8, .i (Z53 c)), (46, 9, .bp (X2 7).b 0 0), (47, 11, .bp (X2 7).b 0 1), (48, 13, .bp (X2 7).b 0 2)], fun X8 => [([], .box o q [.j c.Field.Places, .j c.Field.Wilds, .j c.Field.Guards, .j c.Field.Close, .j c.Field.Freeze, .lit (.map (some g)), .lit u, .k c.frozen, .lit s, .lit t, .j c.more, .j (Z53 c)]), ([], .map g (c.players.map fun p : Int × aA => (VI p.1, (fun v : aA => AV.agg (aG v)) p.2)) y j), ([], .arr u 3 1 (Z17 c)), ([], .arr s 3 1 (Z16 c)), ([], .arr t 3 1 (Z19 c)), ([], .box b1 0 (aI e)), ([(14, .box (X2 7).b 0 (Z20 e c)), (12, .box (X2 7).b 0 (Z32 e c)), (10, .box (X2 7).b 0 (Z30 e c))], .box (X2 7).b 0 (Z67 e c))], ?_, ?_⟩
        · exact xok [(0, 1315), (1, 1315), (2, 1315), (0, 15), (4, 15), (0, 0), (6, 0), (7, 0), (8, 0), (0, 111315), (10, 1315), (11, 1315), (31112, 15), (1113, 15), (5111314, 0)] ⟨fun _ _ w _ k => xp w (yf k rfl nG),
 fun _ _ w _ k => xp w (yl k 5 rfl (og k rfl rfl) rfl aV),
 fun _ _ w _ k => xp w (ycm k rfl rfl rfl),
 fun _ _ w _ k => xp w (yf k rfl jB),
 fun _ _ w _ k => xp w (yl k 5 rfl (og k rfl rfl) rfl aV),
 fun _ _ w _ k => xp w (ym k (.bp o q 0)),
 fun _ _ w _ k => xp w (bG (aL rfl) (aT k rfl)),
 fun _ _ w _ k => xp w (yf k rfl uA),
 fun _ _ w _ k => xp w (yl k 0 rfl (og k rfl rfl) rfl aV),
 fun _ _ w _ k => xp w (yf k rfl wR),
 fun _ _ _ _ k => xs 6 k rfl rfl (fN (i := 6) (aT k rfl) (og k rfl rfl) rfl rfl rfl sizeOf4 rfl (aL rfl) (Nat.le_of_ble_eq_true rfl) (ds' := (Z30 e c)) rfl),
 fun _ _ w _ k => xp w (yf k rfl zD),
 fun _ _ _ _ k => xs 6 k rfl rfl (fN (i := 6) (aT k rfl) (og k rfl rfl) (aT k rfl) rfl rfl sizeOf4 rfl (aL rfl) (Nat.le_of_ble_eq_true rfl) (ds' := (Z32 e c)) rfl),
 fun _ _ w _ k => xp w (yf k rfl wS),
 fun _ _ _ _ k => xs 6 k rfl rfl (fN (i := 6) (aT k rfl) (og k rfl rfl) (aT k rfl) rfl rfl sizeOf3 rfl (aL rfl) (Nat.le_of_ble_eq_true rfl) (ds' := (Z20 e c)) rfl), trivial⟩
        · exact fun X8 => bP (aP rfl (aR ⟨rfl, rfl, rfl, trivial⟩))
       ·intro X8;refine to (sf rfl zE) (to (sst 6 rfl rfl sizeOf3 (aG (Z7 e c))) ?_);refine cB ?_;refine cG mix 7 [] [(134, .d (Z22 g)), (136, .i e.Player), (137, .agg (aG (Z7 e c)))] ?_ ?_
        ·refine ⟨[(131, 0, .bp o q 0), (132, 1, .bp o q 0), (133, 2, .bp o q 5), (134, 3, .d (Z22 g)), (135, 4, .bp b1 0 3), (136, 5, .i e.Player), (137, 6, .agg (aG (Z7 e c)))], ?_, ?_⟩
         · exact dk [0, 1, 2, 3, 0, 5, 0] ⟨go (zm (.bp o q 0)),
 go fun S hS => bG (aL rfl) (aT hS rfl),
 go (zf rfl dR),
 go (zl 0 rfl rfl rfl fV),
 go (zf rfl cI),
 go (zl 5 rfl rfl rfl aV),
 go (zla 6 (aG (Z7 e c)) rfl rfl lB), trivial⟩
         · exact bP (aP rfl (aP rfl (aP rfl (aR trivial))))
        ·refine to (fD (av := (fun v : aA => AV.agg (aG v))) (l := c.players) (v := (Z7 e c)) (a := e.Player) (m := 1) iD underlying68 rfl rfl rfl rfl (dF (kv := VI) e.Player) rfl rfl) ?_;refine aE ?_;obtain rfl := sIn h;exact ⟨_, (Z38 o q c g u s t e y j), [.box b1 0 (aI e), .box (X2 7).b 0 (aG (Z7 e c))], _, .none, .refl _, .same _, (Z33 e c y j), (Z31 e c j), u, s, t, rfl, rfl⟩
      ·refine bY ?_;refine cG mix 7 [] [(134, .d (Z22 g)), (136, .i e.Player), (137, .agg (Z67 e c))] ?_ ?_
       ·refine ⟨[(131, 0, .bp o q 0), (132, 1, .bp o q 0), (133, 2, .bp o q 5), (134, 3, .d (Z22 g)), (135, 4, .bp b1 0 3), (136, 5, .i e.Player), (137, 6, .agg (Z67 e c))], ?_, ?_⟩
        · exact dk [0, 1, 2, 3, 0, 5, 0] ⟨go (zm (.bp o q 0)),
 go fun S hS => bG (aL rfl) (aT hS rfl),
 go (zf rfl dR),
 go (zl 0 rfl rfl rfl fV),
 go (zf rfl cI),
 go (zl 5 rfl rfl rfl aV),
 go (zla 6 (Z67 e c) rfl rfl lB), trivial⟩
        · exact bP (aP rfl (aP rfl (aP rfl (aR trivial))))
       ·refine to (fD (av := (fun v : aA => AV.agg (aG v))) (l := c.players) (v := aK e.Player Z2 c.players) (a := e.Player) (m := 1) iD underlying68 rfl rfl rfl rfl (dF (kv := VI) e.Player) rfl rfl) ?_;refine aE ?_;obtain rfl := sIn h;exact ⟨_, (Z5 o q c g u s t e y j), [.box b1 0 (aI e), .box (X2 7).b 0 (Z67 e c)], _, .none, .refl _, .same _, (Z33 e c y j), (Z31 e c j), u, s, t, rfl, rfl⟩
   ·refine aF (aC (to (scm rfl rfl rfl) (ta (Z50 e) (aE ?_))));refine tih h (fun a7 h => ?_) (fun a7 h => ?_)
    ·refine aF ?_;obtain ⟨e4, Q, h⟩ := bns h;obtain ⟨e5, N, h⟩ := bns h;obtain ⟨a8, L, h⟩ := bns h;refine cG mix 31 [0, 3, 4] [(82, .b a8)] ?_ ?_
     ·refine bch Q (fun H Q => ?_) (fun H Q => ?_)
      ·obtain rfl := sIn Q;refine bch N (fun C N => ?_) (fun C N => ?_)
       ·obtain rfl := sIn N;refine bch L (fun A L => ?_) (fun A L => ?_)
        ·obtain rfl := sIn L;refine ⟨[(52, 0, .bp b1 0 1), (53, 1, .i e.Hour), (54, 2, .bp o q 0), (55, 3, .bp o q 0), (56, 4, .bp o q 0), (57, 5, .bp o q 4), (58, 6, .i c.Field.Freeze), (59, 7, .b (Z18 e c)), (60, 8, .b (Z18 e c)), (61, 9, .bp (X2 7).b 0 6), (62, 10, .b (Z37 e c)), (63, 11, .b (!(Z37 e c))), (64, 12, .b (!(Z37 e c))), (65, 13, .b (!(Z37 e c))), (66, 14, .bp (X2 7).b 0 4), (67, 15, .b (Z54 e c)), (68, 16, .b (!(Z54 e c))), (69, 17, .b (!(Z54 e c))), (70, 18, .b (!(Z54 e c))), (71, 19, .bp o q 0), (72, 20, .bp o q 0), (73, 21, .bp o q 6), (74, 22, .d (.lit u)), (75, 23, .i (c.wilds.length : Int)), (76, 24, .bp o q 0), (77, 25, .bp o q 0), (78, 26, .bp o q 0), (79, 27, .bp o q 1), (80, 28, .i c.Field.Wilds), (81, 29, .b (Z39 c)), (82, 30, .b (Z39 c))], ?_, ?_⟩
         · exact dk [0, 1, 0, 3, 4, 5, 6, 207, 8, 9, 910, 911, 912, 13, 14, 1415, 1416, 1417, 18, 19, 1920, 1921, 1922, 1923, 19, 1925, 1926, 1927, 1928, 192429, 1930] ⟨go (zf rfl cK),
 go (zl 5 rfl rfl rfl aV),
 go (zm (.bp o q 0)),
 go fun S hS => bG (aL rfl) (aT hS rfl),
 go (zf rfl fX),
 go (zf rfl fB),
 go (zl 0 rfl rfl rfl aV),
 go (zcm rfl rfl rfl),
 go (zm (.b (Z18 e c))),
 gt H (zf rfl jD),
 gt H (zl 6 rfl rfl rfl dI),
 gt H (zn rfl),
 go (zpt (Z71 e c) H),
 go (zm (Z71 e c)),
 gt C (zf rfl pK),
 gt C (zl 6 rfl rfl rfl dI),
 gt C (zn rfl),
 go (zpt (.b (!(Z54 e c))) C),
 go (zm (.b (!(Z54 e c)))),
 gt A (zm (.bp o q 0)),
 gt A fun S hS => bG (aL rfl) (aT hS rfl),
 gt A (zf rfl jC),
 gt A (zl 0 rfl rfl rfl cA),
 gt A fun S hS => fC (m := 2) (aL rfl) (aT hS rfl) rfl bM.of,
 gt A (zm (.bp o q 0)),
 gt A fun S hS => bG (aL rfl) (aT hS rfl),
 gt A (zf rfl fX),
 gt A (zf rfl rE),
 gt A (zl 0 rfl rfl rfl aV),
 gt A (zcm rfl rfl rfl),
 go (zpt (.b (Z39 c)) A), trivial⟩
         · exact bP (aP rfl (aR ⟨rfl, rfl, rfl, trivial⟩))
        ·obtain rfl := sIn L;refine ⟨[(52, 0, .bp b1 0 1), (53, 1, .i e.Hour), (54, 2, .bp o q 0), (55, 3, .bp o q 0), (56, 4, .bp o q 0), (57, 5, .bp o q 4), (58, 6, .i c.Field.Freeze), (59, 7, .b (Z18 e c)), (60, 8, .b (Z18 e c)), (61, 9, .bp (X2 7).b 0 6), (62, 10, .b (Z37 e c)), (63, 11, .b (!(Z37 e c))), (64, 12, .b (!(Z37 e c))), (65, 13, .b (!(Z37 e c))), (66, 14, .bp (X2 7).b 0 4), (67, 15, .b (Z54 e c)), (68, 16, .b (!(Z54 e c))), (69, 17, .b (!(Z54 e c))), (70, 18, .b (!(Z54 e c))), (71, 19, .tup []), (72, 20, .tup []), (73, 21, .tup []), (74, 22, .tup []), (75, 23, .tup []), (76, 24, .tup []), (77, 25, .tup []), (78, 26, .tup []), (79, 27, .tup []), (80, 28, .tup []), (81, 29, .tup []), (82, 30, .b false)], ?_, ?_⟩
         · exact dk [0, 1, 0, 3, 4, 5, 6, 207, 8, 9, 910, 911, 912, 13, 14, 1415, 1416, 1417, 18, 19, 1920, 1921, 1922, 1923, 19, 1925, 1926, 1927, 1928, 192429, 1930] ⟨go (zf rfl cK),
 go (zl 5 rfl rfl rfl aV),
 go (zm (.bp o q 0)),
 go fun S hS => bG (aL rfl) (aT hS rfl),
 go (zf rfl fX),
 go (zf rfl fB),
 go (zl 0 rfl rfl rfl aV),
 go (zcm rfl rfl rfl),
 go (zm (.b (Z18 e c))),
 gt H (zf rfl jD),
 gt H (zl 6 rfl rfl rfl dI),
 gt H (zn rfl),
 go (zpt (Z71 e c) H),
 go (zm (Z71 e c)),
 gt C (zf rfl pK),
 gt C (zl 6 rfl rfl rfl dI),
 gt C (zn rfl),
 go (zpt (.b (!(Z54 e c))) C),
 go (zm (.b (!(Z54 e c)))),
 gp A,
 gp A,
 gp A,
 gp A,
 gp A,
 gp A,
 gp A,
 gp A,
 gp A,
 gp A,
 gp A,
 go (zpf Z21 A), trivial⟩
         · exact bP (aP rfl (aR ⟨rfl, rfl, rfl, trivial⟩))
       ·obtain rfl := sIn N;have A : false = false := rfl;have L := pW A L;obtain rfl := sIn L;refine ⟨[(52, 0, .bp b1 0 1), (53, 1, .i e.Hour), (54, 2, .bp o q 0), (55, 3, .bp o q 0), (56, 4, .bp o q 0), (57, 5, .bp o q 4), (58, 6, .i c.Field.Freeze), (59, 7, .b (Z18 e c)), (60, 8, .b (Z18 e c)), (61, 9, .bp (X2 7).b 0 6), (62, 10, .b (Z37 e c)), (63, 11, .b (!(Z37 e c))), (64, 12, .b (!(Z37 e c))), (65, 13, .b (!(Z37 e c))), (66, 14, .tup []), (67, 15, .tup []), (68, 16, .tup []), (69, 17, .b false), (70, 18, .b (false)), (71, 19, .tup []), (72, 20, .tup []), (73, 21, .tup []), (74, 22, .tup []), (75, 23, .tup []), (76, 24, .tup []), (77, 25, .tup []), (78, 26, .tup []), (79, 27, .tup []), (80, 28, .tup []), (81, 29, .tup []), (82, 30, .b false)], ?_, ?_⟩
        · exact dk [0, 1, 0, 3, 4, 5, 6, 207, 8, 9, 910, 911, 912, 13, 14, 1415, 1416, 1417, 18, 19, 1920, 1921, 1922, 1923, 19, 1925, 1926, 1927, 1928, 192429, 1930] ⟨go (zf rfl cK),
 go (zl 5 rfl rfl rfl aV),
 go (zm (.bp o q 0)),
 go fun S hS => bG (aL rfl) (aT hS rfl),
 go (zf rfl fX),
 go (zf rfl fB),
 go (zl 0 rfl rfl rfl aV),
 go (zcm rfl rfl rfl),
 go (zm (.b (Z18 e c))),
 gt H (zf rfl jD),
 gt H (zl 6 rfl rfl rfl dI),
 gt H (zn rfl),
 go (zpt (Z71 e c) H),
 go (zm (Z71 e c)),
 gp C,
 gp C,
 gp C,
 go (zpf Z21 C),
 go (zm Z74),
 gp A,
 gp A,
 gp A,
 gp A,
 gp A,
 gp A,
 gp A,
 gp A,
 gp A,
 gp A,
 gp A,
 go (zpf Z21 A), trivial⟩
        · exact bP (aP rfl (aR ⟨rfl, rfl, rfl, trivial⟩))
      ·obtain rfl := sIn Q;have C : false = false := rfl;have N := pW C N;obtain rfl := sIn N;have A : false = false := rfl;have L := pW A L;obtain rfl := sIn L;refine ⟨[(52, 0, .bp b1 0 1), (53, 1, .i e.Hour), (54, 2, .bp o q 0), (55, 3, .bp o q 0), (56, 4, .bp o q 0), (57, 5, .bp o q 4), (58, 6, .i c.Field.Freeze), (59, 7, .b (Z18 e c)), (60, 8, .b (Z18 e c)), (61, 9, .tup []), (62, 10, .tup []), (63, 11, .tup []), (64, 12, .b false), (65, 13, .b (false)), (66, 14, .tup []), (67, 15, .tup []), (68, 16, .tup []), (69, 17, .b false), (70, 18, .b (false)), (71, 19, .tup []), (72, 20, .tup []), (73, 21, .tup []), (74, 22, .tup []), (75, 23, .tup []), (76, 24, .tup []), (77, 25, .tup []), (78, 26, .tup []), (79, 27, .tup []), (80, 28, .tup []), (81, 29, .tup []), (82, 30, .b false)], ?_, ?_⟩
       · exact dk [0, 1, 0, 3, 4, 5, 6, 207, 8, 9, 910, 911, 912, 13, 14, 1415, 1416, 1417, 18, 19, 1920, 1921, 1922, 1923, 19, 1925, 1926, 1927, 1928, 192429, 1930] ⟨go (zf rfl cK),
 go (zl 5 rfl rfl rfl aV),
 go (zm (.bp o q 0)),
 go fun S hS => bG (aL rfl) (aT hS rfl),
 go (zf rfl fX),
 go (zf rfl fB),
 go (zl 0 rfl rfl rfl aV),
 go (zcm rfl rfl rfl),
 go (zm (.b (Z18 e c))),
 gp H,
 gp H,
 gp H,
 go (zpf Z21 H),
 go (zm Z74),
 gp C,
 gp C,
 gp C,
 go (zpf Z21 C),
 go (zm Z74),
 gp A,
 gp A,
 gp A,
 gp A,
 gp A,
 gp A,
 gp A,
 gp A,
 gp A,
 gp A,
 gp A,
 go (zpf Z21 A), trivial⟩
       · exact bP (aP rfl (aR ⟨rfl, rfl, rfl, trivial⟩))
     ·refine aE ?_;refine tih h (fun a9 h => ?_) (fun a9 h => ?_)
      ·refine aF (aC (to (sf rfl jD) (to (sst 6 rfl rfl sizeOf4 (Z59 e c)) (to (sf rfl aCx) (to (sst 6 rfl rfl sizeOf4 (aG (Z6 e c))) (aE ?_))))));obtain ⟨Z, b0, h⟩ := bns h;refine dU mix 9 [0, 3, 4] (fun J => [(85, .bp o q 0), (93, .d (.lit (J 8).v))]) (fun J => [.box o q [.j c.Field.Places, .j c.Field.Wilds, .j c.Field.Guards, .j c.Field.Close, .j c.Field.Freeze, .lit (.map (some g)), .lit u, .k c.frozen, .lit s, .lit t, .j c.more, .j c.entered], .map g (c.players.map fun p : Int × aA => (VI p.1, (fun v : aA => AV.agg (aG v)) p.2)) y j, .arr (J 8).v 3 1 (Z.map aH), .arr s 3 1 (Z16 c), .arr t 3 1 (Z19 c), .box b1 0 (aI e), .box (X2 7).b 0 (aG (Z6 e c))]) ?_ ?_
       ·refine ⟨0, fun J => [(85, 0, .bp o q 0), (86, 1, .bp o q 0), (87, 2, .bp o q 0), (88, 3, .bp o q 6), (89, 4, .d (.lit u)), (90, 5, .bp b1 0 3), (91, 6, .i e.Player), (92, 7, .d (Z43 e)), (93, 8, .d (.lit (J 8).v))], fun J => [([], .box o q [.j c.Field.Places, .j c.Field.Wilds, .j c.Field.Guards, .j c.Field.Close, .j c.Field.Freeze, .lit (.map (some g)), .lit u, .k c.frozen, .lit s, .lit t, .j c.more, .j c.entered]), ([], .map g (c.players.map fun p : Int × aA => (VI p.1, (fun v : aA => AV.agg (aG v)) p.2)) y j), ([(8, .arr (J 8).v 3 1 (Z.map aH))], .arr u 3 1 (Z17 c)), ([], .arr s 3 1 (Z16 c)), ([], .arr t 3 1 (Z19 c)), ([], .box b1 0 (aI e)), ([], .box (X2 7).b 0 (aG (Z6 e c)))], ?_, ?_⟩
        · exact xok [(0, 0), (0, 9), (2, 9), (3, 9), (4, 9), (0, 9), (6, 9), (7, 9), (508, 0)] ⟨fun _ _ w _ k => xp w (ym k (.bp o q 0)),
 fun _ _ w _ k => xp w (ym k (.bp o q 0)),
 fun _ _ w _ k => xp w (bG (aL rfl) (aT k rfl)),
 fun _ _ w _ k => xp w (yf k rfl jC),
 fun _ _ w _ k => xp w (yl k 0 rfl (og k rfl rfl) rfl cA),
 fun _ _ w _ k => xp w (yf k rfl cI),
 fun _ _ w _ k => xp w (yl k 5 rfl (og k rfl rfl) rfl aV),
 fun _ _ w _ k => xp w (dG (aL rfl) bM rfl (pa2 (aT k rfl) pan) (rows := ([e.Player]).map aH) rfl (aX (f := aH) fun _ => rfl) rfl (by decide)),
 fun J S hw hi hS => eQ (X := J) (p := 2) (v := fun x => .d (.lit x.v)) (mo := fun x => .arr x.v 3 1 (Z.map aH)) hS hi rfl rfl (fun _ => rfl) hw (fun _ => rfl) (fun _ => rfl) (fun _ => rfl) (fun _ => ⟨rfl, rfl, .inr rfl, ⟨rfl, rfl, .inr rfl, ⟨rfl, rfl, .inr rfl, ⟨rfl, rfl, .inr rfl, ⟨rfl, rfl, .inr rfl, ⟨rfl, rfl, .inr rfl, ⟨rfl, rfl, .inr rfl, ⟨rfl, rfl, .inr rfl, ⟨rfl, rfl, .inl rfl, trivial⟩⟩⟩⟩⟩⟩⟩⟩⟩) (fun _ => ⟨trivial, rfl, ⟨trivial, rfl, ⟨⟨rfl, .inl rfl, trivial⟩, rfl, ⟨trivial, rfl, ⟨trivial, rfl, ⟨trivial, rfl, ⟨trivial, rfl, trivial⟩⟩⟩⟩⟩⟩⟩) (cS (cL (i := 2) (aL rfl) bM (aT hS rfl) (og hS rfl rfl) (aT hS rfl) (fun _ => rfl) b0 rfl) (by rintro _ ⟨w, rfl⟩; exact ⟨⟨0, w⟩, Ent.refl _⟩)), trivial⟩
        · exact fun J => bP (aP rfl (aP rfl (aR ⟨rfl, rfl, rfl, trivial⟩)))
       ·intro J;refine to (bG (aL rfl) rfl) ?_;refine to (sf rfl jC) (to (sst 0 rfl rfl sizeOf25 [.j c.Field.Places, .j c.Field.Wilds, .j c.Field.Guards, .j c.Field.Close, .j c.Field.Freeze, .lit (.map (some g)), .lit (J 8).v, .k c.frozen, .lit s, .lit t, .j c.more, .j c.entered]) ?_);refine cB ?_;refine cG mix 7 [] [(134, .d (Z22 g)), (136, .i e.Player), (137, .agg (aG (Z6 e c)))] ?_ ?_
        ·refine ⟨[(131, 0, .bp o q 0), (132, 1, .bp o q 0), (133, 2, .bp o q 5), (134, 3, .d (Z22 g)), (135, 4, .bp b1 0 3), (136, 5, .i e.Player), (137, 6, .agg (aG (Z6 e c)))], ?_, ?_⟩
         · exact dk [0, 1, 2, 3, 0, 5, 0] ⟨go (zm (.bp o q 0)),
 go fun S hS => bG (aL rfl) (aT hS rfl),
 go (zf rfl dR),
 go (zl 0 rfl rfl rfl fV),
 go (zf rfl cI),
 go (zl 5 rfl rfl rfl aV),
 go (zla 6 (aG (Z6 e c)) rfl rfl lB), trivial⟩
         · exact bP (aP rfl (aP rfl (aP rfl (aR trivial))))
        ·refine to (fD (av := (fun v : aA => AV.agg (aG v))) (l := c.players) (v := (Z6 e c)) (a := e.Player) (m := 1) iD underlying68 rfl rfl rfl rfl (dF (kv := VI) e.Player) rfl rfl) ?_;refine aE ?_;obtain rfl := sIn h;exact ⟨_, [.box o q [.j c.Field.Places, .j c.Field.Wilds, .j c.Field.Guards, .j c.Field.Close, .j c.Field.Freeze, .lit (.map (some g)), .lit (J 8).v, .k c.frozen, .lit s, .lit t, .j c.more, .j c.entered], .map g ((cT e.Player (Z6 e c) c.players).map fun p : Int × aA => (VI p.1, (fun v : aA => AV.agg (aG v)) p.2)) (Z33 e c y j) (Z31 e c j), .arr (J 8).v 3 1 (Z.map aH), .arr s 3 1 (Z16 c), .arr t 3 1 (Z19 c)], [.box b1 0 (aI e), .box (X2 7).b 0 (aG (Z6 e c))], _, .none, .refl _, .same _, (Z33 e c y j), (Z31 e c j), (J 8).v, s, t, rfl, rfl⟩
      ·refine bY ?_;refine cG mix 7 [] [(134, .d (Z22 g)), (136, .i e.Player), (137, .agg (Z67 e c))] ?_ ?_
       ·refine ⟨[(131, 0, .bp o q 0), (132, 1, .bp o q 0), (133, 2, .bp o q 5), (134, 3, .d (Z22 g)), (135, 4, .bp b1 0 3), (136, 5, .i e.Player), (137, 6, .agg (Z67 e c))], ?_, ?_⟩
        · exact dk [0, 1, 2, 3, 0, 5, 0] ⟨go (zm (.bp o q 0)),
 go fun S hS => bG (aL rfl) (aT hS rfl),
 go (zf rfl dR),
 go (zl 0 rfl rfl rfl fV),
 go (zf rfl cI),
 go (zl 5 rfl rfl rfl aV),
 go (zla 6 (Z67 e c) rfl rfl lB), trivial⟩
        · exact bP (aP rfl (aP rfl (aP rfl (aR trivial))))
       ·refine to (fD (av := (fun v : aA => AV.agg (aG v))) (l := c.players) (v := aK e.Player Z2 c.players) (a := e.Player) (m := 1) iD underlying68 rfl rfl rfl rfl (dF (kv := VI) e.Player) rfl rfl) ?_;refine aE ?_;obtain rfl := sIn h;exact ⟨_, (Z5 o q c g u s t e y j), [.box b1 0 (aI e), .box (X2 7).b 0 (Z67 e c)], _, .none, .refl _, .same _, (Z33 e c y j), (Z31 e c j), u, s, t, rfl, rfl⟩
    ·refine aF (aC (to (scm rfl rfl rfl) (ta (Z51 e) (aE ?_))));refine tih h (fun b2 h => ?_) (fun b2 h => ?_)
     ·refine aF (aF ?_);obtain ⟨b3, T, h⟩ := bns h;refine cG mix 12 [0, 3, 4] [(109, .b b3)] ?_ ?_
      ·refine bch T (fun E T => ?_) (fun E T => ?_)
       ·obtain rfl := sIn T;refine ⟨[(98, 0, .bp (X2 7).b 0 6), (99, 1, .b (Z37 e c)), (100, 2, .b (Z37 e c)), (101, 3, .bp b1 0 1), (102, 4, .i e.Hour), (103, 5, .bp o q 0), (104, 6, .bp o q 0), (105, 7, .bp o q 0), (106, 8, .bp o q 4), (107, 9, .i c.Field.Freeze), (108, 10, .b (Z57 c e)), (109, 11, .b (Z57 c e))], ?_, ?_⟩
        · exact dk [0, 1, 2, 3, 304, 3, 306, 307, 308, 309, 30510, 311] ⟨go (zf rfl jD),
 go (zl 6 rfl rfl rfl dI),
 go (zm (.b (Z37 e c))),
 gt E (zf rfl cK),
 gt E (zl 5 rfl rfl rfl aV),
 gt E (zm (.bp o q 0)),
 gt E fun S hS => bG (aL rfl) (aT hS rfl),
 gt E (zf rfl fX),
 gt E (zf rfl fB),
 gt E (zl 0 rfl rfl rfl aV),
 gt E (zcm rfl rfl rfl),
 go (zpt (.b (Z57 c e)) E), trivial⟩
        · exact bP (aP rfl (aR ⟨rfl, rfl, rfl, trivial⟩))
       ·obtain rfl := sIn T;refine ⟨[(98, 0, .bp (X2 7).b 0 6), (99, 1, .b (Z37 e c)), (100, 2, .b (Z37 e c)), (101, 3, .tup []), (102, 4, .tup []), (103, 5, .tup []), (104, 6, .tup []), (105, 7, .tup []), (106, 8, .tup []), (107, 9, .tup []), (108, 10, .tup []), (109, 11, .b false)], ?_, ?_⟩
        · exact dk [0, 1, 2, 3, 304, 3, 306, 307, 308, 309, 30510, 311] ⟨go (zf rfl jD),
 go (zl 6 rfl rfl rfl dI),
 go (zm (.b (Z37 e c))),
 gp E,
 gp E,
 gp E,
 gp E,
 gp E,
 gp E,
 gp E,
 gp E,
 go (zpf Z21 E), trivial⟩
        · exact bP (aP rfl (aR ⟨rfl, rfl, rfl, trivial⟩))
      ·refine aE ?_;refine tih h (fun b4 h => ?_) (fun b4 h => ?_)
       ·refine aC (tm (.bp o q 0) (to (bG (aL rfl) rfl) ?_));refine tfl 0 rfl rfl wQ rfl aV (to (sar rfl rfl rfl) (to (bG (aL rfl) rfl) ?_));refine to (sf rfl wQ) (to (sst 0 rfl rfl sizeOf3 [.j c.Field.Places, .j c.Field.Wilds, .j c.Field.Guards, .j c.Field.Close, .j c.Field.Freeze, .lit (.map (some g)), .lit u, .k c.frozen, .lit s, .lit t, .j (Z68 c), .j c.entered]) (aE (aF (aC (to (sf rfl pK) (to (sst 6 rfl rfl sizeOf4 (Z26 e c)) (to (sf rfl jD) (to (sst 6 rfl rfl sizeOf4 (Z75 e c)) (aE (aC (tm (.bp o q 0) (tm (.bp o q 0) (to (bG (aL rfl) rfl) ?_)))))))))))));refine tfl 0 rfl rfl jC rfl cA (to (pT (aL rfl) rfl rfl) ?_);refine dC (aS [0, 1, 2, 3, 4, 6, 5] rfl rfl (le_refl _)) ?_;apply sW [.box o q [.j c.Field.Places, .j c.Field.Wilds, .j c.Field.Guards, .j c.Field.Close, .j c.Field.Freeze, .lit (.map (some g)), .lit u, .k c.frozen, .lit s, .lit t, .j (Z68 c), .j c.entered], .map g (c.players.map fun p : Int × aA => (VI p.1, (fun v : aA => AV.agg (aG v)) p.2)) y j, .arr u 3 1 (Z17 c), .arr s 3 1 (Z16 c), .arr t 3 1 (Z19 c), .box (X2 7).b 0 (Z75 e c)] [.box b1 0 (aI e)] rfl;exact cW (k := 124) (v := .fn 108 (Z25 e)) (qS (.cons (dV 0 rfl rfl (dvc (.same _) (dvc (.same _) (dvc (.same _) (dvc (.same _) (dvc (.same _) dvn)))))) .nil)) (cW (k := 3) (v := .cp [.j e.Id, .j e.Hour, .j e.Kind, .j e.Player, .j e.Rank]) (dV 0 rfl rfl (dvc (.same _) (dvc (.same _) (dvc (.same _) (dvc (.same _) (dvc (.same _) dvn)))))) (fH _ _));obtain ⟨b6, b7, h⟩ := bns h;refine dC (aS [2, 0, 1, 3, 4, 5] rfl rfl (le_refl _)) ?_;refine bC rfl (iX (passed := [.arr u 3 1 (Z17 c)]) (aL rfl) rfl (.func _ _ call64) rfl rfl (eD c.wilds (fun b8 => eY b8 e) 108 (Z25 e) call108 (fun _ _ h => nT _ _ h) b7)) ?_;rintro _ ⟨_, _, ⟨a0, rfl, rfl⟩, rfl⟩;refine to (bG (aL rfl) rfl) ?_;refine to (sf rfl jC) (to (sst 1 rfl rfl sizeOf25 [.j c.Field.Places, .j c.Field.Wilds, .j c.Field.Guards, .j c.Field.Close, .j c.Field.Freeze, .lit (.map (some g)), .lit a0, .k c.frozen, .lit s, .lit t, .j (Z68 c), .j c.entered]) ?_);refine cB ?_;refine cG mix 7 [] [(134, .d (Z22 g)), (136, .i e.Player), (137, .agg (Z75 e c))] ?_ ?_
        ·refine ⟨[(131, 0, .bp o q 0), (132, 1, .bp o q 0), (133, 2, .bp o q 5), (134, 3, .d (Z22 g)), (135, 4, .cp [.j e.Player]), (136, 5, .i e.Player), (137, 6, .agg (Z75 e c))], ?_, ?_⟩
         · exact dk [0, 1, 2, 3, 0, 5, 0] ⟨go (zm (.bp o q 0)),
 go fun S hS => bG (aL rfl) (aT hS rfl),
 go (zf rfl dR),
 go (zl 1 rfl rfl rfl fV),
 go (zfc [.j e.Player] rfl cI),
 go (zlc rfl aV),
 go (zla 5 (Z75 e c) rfl rfl lB), trivial⟩
         · exact bP (aP rfl (aP rfl (aP rfl (aR trivial))))
        ·refine to (fD (av := (fun v : aA => AV.agg (aG v))) (l := c.players) (v := (Z3 e c)) (a := e.Player) (m := 2) iD underlying68 rfl rfl rfl rfl (dF (kv := VI) e.Player) rfl rfl) ?_;refine aE ?_;obtain rfl := sIn h;exact ⟨_, [.box o q [.j c.Field.Places, .j c.Field.Wilds, .j c.Field.Guards, .j c.Field.Close, .j c.Field.Freeze, .lit (.map (some g)), .lit a0, .k c.frozen, .lit s, .lit t, .j (Z68 c), .j c.entered], .map g ((Z77 e c).map fun p : Int × aA => (VI p.1, (fun v : aA => AV.agg (aG v)) p.2)) (Z33 e c y j) (Z31 e c j), .arr a0 3 1 (b6.map aH), .arr s 3 1 (Z16 c), .arr t 3 1 (Z19 c)], [.box (X2 7).b 0 (Z75 e c)], _, .none, (dJ (i := 1) rfl).trans (.cons _ ((dJ (i := 1) rfl).trans (.cons _ ((dJ (i := 0) rfl).trans (.cons _ ((dJ (i := 0) rfl).trans (.cons _ ((dJ (i := 0) rfl).trans (.cons _ ((dJ (i := 0) rfl).trans (.cons _ (.refl _)))))))))))), .same _, (Z33 e c y j), (Z31 e c j), a0, s, t, rfl, rfl⟩
       ·refine bA (aF (aC (to (sf rfl pK) (to (sst 6 rfl rfl sizeOf4 (Z26 e c)) (to (sf rfl jD) (to (sst 6 rfl rfl sizeOf4 (Z75 e c)) (aE (aC (tm (.bp o q 0) (tm (.bp o q 0) (to (bG (aL rfl) rfl) ?_)))))))))));refine tfl 0 rfl rfl jC rfl cA (to (pT (aL rfl) rfl rfl) ?_);refine dC (aS [0, 1, 2, 3, 4, 6, 5] rfl rfl (le_refl _)) ?_;apply sW [.box o q [.j c.Field.Places, .j c.Field.Wilds, .j c.Field.Guards, .j c.Field.Close, .j c.Field.Freeze, .lit (.map (some g)), .lit u, .k c.frozen, .lit s, .lit t, .j c.more, .j c.entered], .map g (c.players.map fun p : Int × aA => (VI p.1, (fun v : aA => AV.agg (aG v)) p.2)) y j, .arr u 3 1 (Z17 c), .arr s 3 1 (Z16 c), .arr t 3 1 (Z19 c), .box (X2 7).b 0 (Z75 e c)] [.box b1 0 (aI e)] rfl;exact cW (k := 124) (v := .fn 108 (Z25 e)) (qS (.cons (dV 0 rfl rfl (dvc (.same _) (dvc (.same _) (dvc (.same _) (dvc (.same _) (dvc (.same _) dvn)))))) .nil)) (cW (k := 3) (v := .cp [.j e.Id, .j e.Hour, .j e.Kind, .j e.Player, .j e.Rank]) (dV 0 rfl rfl (dvc (.same _) (dvc (.same _) (dvc (.same _) (dvc (.same _) (dvc (.same _) dvn)))))) (fH _ _));obtain ⟨b9, c0, h⟩ := bns h;refine dC (aS [2, 0, 1, 3, 4, 5] rfl rfl (le_refl _)) ?_;refine bC rfl (iX (passed := [.arr u 3 1 (Z17 c)]) (aL rfl) rfl (.func _ _ call64) rfl rfl (eD c.wilds (fun c1 => eY c1 e) 108 (Z25 e) call108 (fun _ _ h => nT _ _ h) c0)) ?_;rintro _ ⟨_, _, ⟨a1, rfl, rfl⟩, rfl⟩;refine to (bG (aL rfl) rfl) ?_;refine to (sf rfl jC) (to (sst 1 rfl rfl sizeOf25 [.j c.Field.Places, .j c.Field.Wilds, .j c.Field.Guards, .j c.Field.Close, .j c.Field.Freeze, .lit (.map (some g)), .lit a1, .k c.frozen, .lit s, .lit t, .j c.more, .j c.entered]) ?_);refine cB ?_;refine cG mix 7 [] [(134, .d (Z22 g)), (136, .i e.Player), (137, .agg (Z75 e c))] ?_ ?_
        ·refine ⟨[(131, 0, .bp o q 0), (132, 1, .bp o q 0), (133, 2, .bp o q 5), (134, 3, .d (Z22 g)), (135, 4, .cp [.j e.Player]), (136, 5, .i e.Player), (137, 6, .agg (Z75 e c))], ?_, ?_⟩
         · exact dk [0, 1, 2, 3, 0, 5, 0] ⟨go (zm (.bp o q 0)),
 go fun S hS => bG (aL rfl) (aT hS rfl),
 go (zf rfl dR),
 go (zl 1 rfl rfl rfl fV),
 go (zfc [.j e.Player] rfl cI),
 go (zlc rfl aV),
 go (zla 5 (Z75 e c) rfl rfl lB), trivial⟩
         · exact bP (aP rfl (aP rfl (aP rfl (aR trivial))))
        ·refine to (fD (av := (fun v : aA => AV.agg (aG v))) (l := c.players) (v := (Z3 e c)) (a := e.Player) (m := 2) iD underlying68 rfl rfl rfl rfl (dF (kv := VI) e.Player) rfl rfl) ?_;refine aE ?_;obtain rfl := sIn h;exact ⟨_, [.box o q [.j c.Field.Places, .j c.Field.Wilds, .j c.Field.Guards, .j c.Field.Close, .j c.Field.Freeze, .lit (.map (some g)), .lit a1, .k c.frozen, .lit s, .lit t, .j c.more, .j c.entered], .map g ((Z77 e c).map fun p : Int × aA => (VI p.1, (fun v : aA => AV.agg (aG v)) p.2)) (Z33 e c y j) (Z31 e c j), .arr a1 3 1 (b9.map aH), .arr s 3 1 (Z16 c), .arr t 3 1 (Z19 c)], [.box (X2 7).b 0 (Z75 e c)], _, .none, (dJ (i := 1) rfl).trans (.cons _ ((dJ (i := 1) rfl).trans (.cons _ ((dJ (i := 0) rfl).trans (.cons _ ((dJ (i := 0) rfl).trans (.cons _ ((dJ (i := 0) rfl).trans (.cons _ ((dJ (i := 0) rfl).trans (.cons _ (.refl _)))))))))))), .same _, (Z33 e c y j), (Z31 e c j), a1, s, t, rfl, rfl⟩
     ·refine aF (aC (to (scm rfl rfl rfl) (ta (Z52 e) (aE ?_))));refine tih h (fun c2 h => ?_) (fun c2 h => ?_)
      ·refine aC (to (sf rfl uB) (to (sst 6 rfl rfl sizeOf4 (aG (Z8 e c))) ?_));refine cB ?_;refine cG mix 7 [] [(134, .d (Z22 g)), (136, .i e.Player), (137, .agg (aG (Z8 e c)))] ?_ ?_
       ·refine ⟨[(131, 0, .bp o q 0), (132, 1, .bp o q 0), (133, 2, .bp o q 5), (134, 3, .d (Z22 g)), (135, 4, .bp b1 0 3), (136, 5, .i e.Player), (137, 6, .agg (aG (Z8 e c)))], ?_, ?_⟩
        · exact dk [0, 1, 2, 3, 0, 5, 0] ⟨go (zm (.bp o q 0)),
 go fun S hS => bG (aL rfl) (aT hS rfl),
 go (zf rfl dR),
 go (zl 0 rfl rfl rfl fV),
 go (zf rfl cI),
 go (zl 5 rfl rfl rfl aV),
 go (zla 6 (aG (Z8 e c)) rfl rfl lB), trivial⟩
        · exact bP (aP rfl (aP rfl (aP rfl (aR trivial))))
       ·refine to (fD (av := (fun v : aA => AV.agg (aG v))) (l := c.players) (v := (Z8 e c)) (a := e.Player) (m := 1) iD underlying68 rfl rfl rfl rfl (dF (kv := VI) e.Player) rfl rfl) ?_;refine aE ?_;obtain rfl := sIn h;exact ⟨_, (Z42 o q c g u s t e y j), [.box b1 0 (aI e), .box (X2 7).b 0 (aG (Z8 e c))], _, .none, .refl _, .same _, (Z33 e c y j), (Z31 e c j), u, s, t, rfl, rfl⟩
      ·refine bY ?_;refine cG mix 7 [] [(134, .d (Z22 g)), (136, .i e.Player), (137, .agg (Z67 e c))] ?_ ?_
       ·refine ⟨[(131, 0, .bp o q 0), (132, 1, .bp o q 0), (133, 2, .bp o q 5), (134, 3, .d (Z22 g)), (135, 4, .bp b1 0 3), (136, 5, .i e.Player), (137, 6, .agg (Z67 e c))], ?_, ?_⟩
        · exact dk [0, 1, 2, 3, 0, 5, 0] ⟨go (zm (.bp o q 0)),
 go fun S hS => bG (aL rfl) (aT hS rfl),
 go (zf rfl dR),
 go (zl 0 rfl rfl rfl fV),
 go (zf rfl cI),
 go (zl 5 rfl rfl rfl aV),
 go (zla 6 (Z67 e c) rfl rfl lB), trivial⟩
        · exact bP (aP rfl (aP rfl (aP rfl (aR trivial))))
       ·refine to (fD (av := (fun v : aA => AV.agg (aG v))) (l := c.players) (v := aK e.Player Z2 c.players) (a := e.Player) (m := 1) iD underlying68 rfl rfl rfl rfl (dF (kv := VI) e.Player) rfl rfl) ?_;refine aE ?_;obtain rfl := sIn h;exact ⟨_, (Z5 o q c g u s t e y j), [.box b1 0 (aI e), .box (X2 7).b 0 (Z67 e c)], _, .none, .refl _, .same _, (Z33 e c y j), (Z31 e c j), u, s, t, rfl, rfl⟩
  ·refine aC (to (scm rfl rfl rfl) (ta (.b (Z14 e)) (aE ?_)));refine tih h (fun c5 h => ?_) (fun c5 h => ?_)
   ·refine aF ?_;refine cG mix 7 [0, 3, 4] [(18, .i e.Hour), (23, .i c.Field.Close)] ?_ ?_
    ·refine ⟨[(17, 0, .bp b1 0 1), (18, 1, .i e.Hour), (19, 2, .bp o q 0), (20, 3, .bp o q 0), (21, 4, .bp o q 0), (22, 5, .bp o q 3), (23, 6, .i c.Field.Close)], ?_, ?_⟩
     · exact dk [0, 1, 0, 3, 4, 5, 6] ⟨go (zf rfl cK),
 go (zl 5 rfl rfl rfl aV),
 go (zm (.bp o q 0)),
 go fun S hS => bG (aL rfl) (aT hS rfl),
 go (zf rfl fX),
 go (zf rfl oM),
 go (zl 0 rfl rfl rfl aV), trivial⟩
     · exact bP (aP rfl (aP rfl (aR ⟨rfl, rfl, rfl, trivial⟩)))
    ·refine to (scm rfl rfl rfl) (tm (.b (decide (e.Hour ≤ c.Field.Close))) ?_);obtain ⟨c6, U, h⟩ := bns h;refine bE 4 [0, 3, 4] 29 c6 ?_ ?_
     ·refine bch U (fun O U => ?_) (fun O U => ?_)
      ·refine tkl 6 O rfl rfl wR rfl dI (tk O (sn rfl) (to (spt (.b (!((Z0 e c).entered))) O) ?_));obtain rfl := sIn U;refine aE (aU rfl ⟨rfl, rfl, rfl, trivial⟩ rfl)
      ·refine tp O (tp O (tp O (to (spf Z21 O) ?_)));obtain rfl := sIn U;refine aE (aU rfl ⟨rfl, rfl, rfl, trivial⟩ rfl)
     ·refine aE ?_;refine tih h (fun c8 h => ?_) (fun c8 h => ?_)
      ·refine aF (aC (tm (.bp o q 0) (to (bG (aL rfl) rfl) ?_)));refine tfl 0 rfl rfl uA rfl aV (to (sar rfl rfl rfl) (to (bG (aL rfl) rfl) ?_));refine to (sf rfl uA) (to (sst 0 rfl rfl sizeOf3 [.j c.Field.Places, .j c.Field.Wilds, .j c.Field.Guards, .j c.Field.Close, .j c.Field.Freeze, .lit (.map (some g)), .lit u, .k c.frozen, .lit s, .lit t, .j c.more, .j (Z53 c)]) (aE ?_));refine dU mix 15 [0, 3, 4] (fun V => [(45, .i (Z53 c))]) (fun V => [.box o q [.j c.Field.Places, .j c.Field.Wilds, .j c.Field.Guards, .j c.Field.Close, .j c.Field.Freeze, .lit (.map (some g)), .lit u, .k c.frozen, .lit s, .lit t, .j c.more, .j (Z53 c)], .map g (c.players.map fun p : Int × aA => (VI p.1, (fun v : aA => AV.agg (aG v)) p.2)) y j, .arr u 3 1 (Z17 c), .arr s 3 1 (Z16 c), .arr t 3 1 (Z19 c), .box b1 0 (aI e), .box (X2 7).b 0 (Z20 e c)]) ?_ ?_
       ·refine ⟨0, fun V => [(37, 0, .bp b1 0 2), (38, 1, .i e.Kind), (39, 2, .b (Z14 e)), (40, 3, .bp b1 0 4), (41, 4, .i e.Rank), (42, 5, .bp o q 0), (43, 6, .bp o q 0), (44, 7, .bp o q 11), (45, 8, .i (Z53 c)), (46, 9, .bp (X2 7).b 0 0), (47, 11, .bp (X2 7).b 0 1), (48, 13, .bp (X2 7).b 0 2)], fun V => [([], .box o q [.j c.Field.Places, .j c.Field.Wilds, .j c.Field.Guards, .j c.Field.Close, .j c.Field.Freeze, .lit (.map (some g)), .lit u, .k c.frozen, .lit s, .lit t, .j c.more, .j (Z53 c)]), ([], .map g (c.players.map fun p : Int × aA => (VI p.1, (fun v : aA => AV.agg (aG v)) p.2)) y j), ([], .arr u 3 1 (Z17 c)), ([], .arr s 3 1 (Z16 c)), ([], .arr t 3 1 (Z19 c)), ([], .box b1 0 (aI e)), ([(14, .box (X2 7).b 0 (Z20 e c)), (12, .box (X2 7).b 0 (Z32 e c)), (10, .box (X2 7).b 0 (Z30 e c))], .box (X2 7).b 0 (Z67 e c))], ?_, ?_⟩
        · exact xok [(0, 1315), (1, 1315), (2, 1315), (0, 15), (4, 15), (0, 0), (6, 0), (7, 0), (8, 0), (0, 111315), (10, 1315), (11, 1315), (31112, 15), (1113, 15), (5111314, 0)] ⟨fun _ _ w _ k => xp w (yf k rfl nG),
 fun _ _ w _ k => xp w (yl k 5 rfl (og k rfl rfl) rfl aV),
 fun _ _ w _ k => xp w (ycm k rfl rfl rfl),
 fun _ _ w _ k => xp w (yf k rfl jB),
 fun _ _ w _ k => xp w (yl k 5 rfl (og k rfl rfl) rfl aV),
 fun _ _ w _ k => xp w (ym k (.bp o q 0)),
 fun _ _ w _ k => xp w (bG (aL rfl) (aT k rfl)),
 fun _ _ w _ k => xp w (yf k rfl uA),
 fun _ _ w _ k => xp w (yl k 0 rfl (og k rfl rfl) rfl aV),
 fun _ _ w _ k => xp w (yf k rfl wR),
 fun _ _ _ _ k => xs 6 k rfl rfl (fN (i := 6) (aT k rfl) (og k rfl rfl) rfl rfl rfl sizeOf4 rfl (aL rfl) (Nat.le_of_ble_eq_true rfl) (ds' := (Z30 e c)) rfl),
 fun _ _ w _ k => xp w (yf k rfl zD),
 fun _ _ _ _ k => xs 6 k rfl rfl (fN (i := 6) (aT k rfl) (og k rfl rfl) (aT k rfl) rfl rfl sizeOf4 rfl (aL rfl) (Nat.le_of_ble_eq_true rfl) (ds' := (Z32 e c)) rfl),
 fun _ _ w _ k => xp w (yf k rfl wS),
 fun _ _ _ _ k => xs 6 k rfl rfl (fN (i := 6) (aT k rfl) (og k rfl rfl) (aT k rfl) rfl rfl sizeOf3 rfl (aL rfl) (Nat.le_of_ble_eq_true rfl) (ds' := (Z20 e c)) rfl), trivial⟩
        · exact fun V => bP (aP rfl (aR ⟨rfl, rfl, rfl, trivial⟩))
       ·intro V;refine to (sf rfl zE) (to (sst 6 rfl rfl sizeOf3 (aG (Z7 e c))) ?_);refine cB ?_;refine cG mix 7 [] [(134, .d (Z22 g)), (136, .i e.Player), (137, .agg (aG (Z7 e c)))] ?_ ?_
        ·refine ⟨[(131, 0, .bp o q 0), (132, 1, .bp o q 0), (133, 2, .bp o q 5), (134, 3, .d (Z22 g)), (135, 4, .bp b1 0 3), (136, 5, .i e.Player), (137, 6, .agg (aG (Z7 e c)))], ?_, ?_⟩
         · exact dk [0, 1, 2, 3, 0, 5, 0] ⟨go (zm (.bp o q 0)),
 go fun S hS => bG (aL rfl) (aT hS rfl),
 go (zf rfl dR),
 go (zl 0 rfl rfl rfl fV),
 go (zf rfl cI),
 go (zl 5 rfl rfl rfl aV),
 go (zla 6 (aG (Z7 e c)) rfl rfl lB), trivial⟩
         · exact bP (aP rfl (aP rfl (aP rfl (aR trivial))))
        ·refine to (fD (av := (fun v : aA => AV.agg (aG v))) (l := c.players) (v := (Z7 e c)) (a := e.Player) (m := 1) iD underlying68 rfl rfl rfl rfl (dF (kv := VI) e.Player) rfl rfl) ?_;refine aE ?_;obtain rfl := sIn h;exact ⟨_, (Z38 o q c g u s t e y j), [.box b1 0 (aI e), .box (X2 7).b 0 (aG (Z7 e c))], _, .none, .refl _, .same _, (Z33 e c y j), (Z31 e c j), u, s, t, rfl, rfl⟩
      ·refine bY ?_;refine cG mix 7 [] [(134, .d (Z22 g)), (136, .i e.Player), (137, .agg (Z67 e c))] ?_ ?_
       ·refine ⟨[(131, 0, .bp o q 0), (132, 1, .bp o q 0), (133, 2, .bp o q 5), (134, 3, .d (Z22 g)), (135, 4, .bp b1 0 3), (136, 5, .i e.Player), (137, 6, .agg (Z67 e c))], ?_, ?_⟩
        · exact dk [0, 1, 2, 3, 0, 5, 0] ⟨go (zm (.bp o q 0)),
 go fun S hS => bG (aL rfl) (aT hS rfl),
 go (zf rfl dR),
 go (zl 0 rfl rfl rfl fV),
 go (zf rfl cI),
 go (zl 5 rfl rfl rfl aV),
 go (zla 6 (Z67 e c) rfl rfl lB), trivial⟩
        · exact bP (aP rfl (aP rfl (aP rfl (aR trivial))))
       ·refine to (fD (av := (fun v : aA => AV.agg (aG v))) (l := c.players) (v := aK e.Player Z2 c.players) (a := e.Player) (m := 1) iD underlying68 rfl rfl rfl rfl (dF (kv := VI) e.Player) rfl rfl) ?_;refine aE ?_;obtain rfl := sIn h;exact ⟨_, (Z5 o q c g u s t e y j), [.box b1 0 (aI e), .box (X2 7).b 0 (Z67 e c)], _, .none, .refl _, .same _, (Z33 e c y j), (Z31 e c j), u, s, t, rfl, rfl⟩
   ·refine aF (aC (to (scm rfl rfl rfl) (ta (Z50 e) (aE ?_))));refine tih h (fun d0 h => ?_) (fun d0 h => ?_)
    ·refine aF ?_;obtain ⟨e6, W, h⟩ := bns h;obtain ⟨e7, P, h⟩ := bns h;obtain ⟨d1, M, h⟩ := bns h;refine cG mix 31 [0, 3, 4] [(82, .b d1)] ?_ ?_
     ·refine bch W (fun I W => ?_) (fun I W => ?_)
      ·obtain rfl := sIn W;refine bch P (fun F P => ?_) (fun F P => ?_)
       ·obtain rfl := sIn P;refine bch M (fun B M => ?_) (fun B M => ?_)
        ·obtain rfl := sIn M;refine ⟨[(52, 0, .bp b1 0 1), (53, 1, .i e.Hour), (54, 2, .bp o q 0), (55, 3, .bp o q 0), (56, 4, .bp o q 0), (57, 5, .bp o q 4), (58, 6, .i c.Field.Freeze), (59, 7, .b (Z18 e c)), (60, 8, .b (Z18 e c)), (61, 9, .bp (X2 7).b 0 6), (62, 10, .b (Z37 e c)), (63, 11, .b (!(Z37 e c))), (64, 12, .b (!(Z37 e c))), (65, 13, .b (!(Z37 e c))), (66, 14, .bp (X2 7).b 0 4), (67, 15, .b (Z54 e c)), (68, 16, .b (!(Z54 e c))), (69, 17, .b (!(Z54 e c))), (70, 18, .b (!(Z54 e c))), (71, 19, .bp o q 0), (72, 20, .bp o q 0), (73, 21, .bp o q 6), (74, 22, .d (.lit u)), (75, 23, .i (c.wilds.length : Int)), (76, 24, .bp o q 0), (77, 25, .bp o q 0), (78, 26, .bp o q 0), (79, 27, .bp o q 1), (80, 28, .i c.Field.Wilds), (81, 29, .b (Z39 c)), (82, 30, .b (Z39 c))], ?_, ?_⟩
         · exact dk [0, 1, 0, 3, 4, 5, 6, 207, 8, 9, 910, 911, 912, 13, 14, 1415, 1416, 1417, 18, 19, 1920, 1921, 1922, 1923, 19, 1925, 1926, 1927, 1928, 192429, 1930] ⟨go (zf rfl cK),
 go (zl 5 rfl rfl rfl aV),
 go (zm (.bp o q 0)),
 go fun S hS => bG (aL rfl) (aT hS rfl),
 go (zf rfl fX),
 go (zf rfl fB),
 go (zl 0 rfl rfl rfl aV),
 go (zcm rfl rfl rfl),
 go (zm (.b (Z18 e c))),
 gt I (zf rfl jD),
 gt I (zl 6 rfl rfl rfl dI),
 gt I (zn rfl),
 go (zpt (Z71 e c) I),
 go (zm (Z71 e c)),
 gt F (zf rfl pK),
 gt F (zl 6 rfl rfl rfl dI),
 gt F (zn rfl),
 go (zpt (.b (!(Z54 e c))) F),
 go (zm (.b (!(Z54 e c)))),
 gt B (zm (.bp o q 0)),
 gt B fun S hS => bG (aL rfl) (aT hS rfl),
 gt B (zf rfl jC),
 gt B (zl 0 rfl rfl rfl cA),
 gt B fun S hS => fC (m := 2) (aL rfl) (aT hS rfl) rfl bM.of,
 gt B (zm (.bp o q 0)),
 gt B fun S hS => bG (aL rfl) (aT hS rfl),
 gt B (zf rfl fX),
 gt B (zf rfl rE),
 gt B (zl 0 rfl rfl rfl aV),
 gt B (zcm rfl rfl rfl),
 go (zpt (.b (Z39 c)) B), trivial⟩
         · exact bP (aP rfl (aR ⟨rfl, rfl, rfl, trivial⟩))
        ·obtain rfl := sIn M;refine ⟨[(52, 0, .bp b1 0 1), (53, 1, .i e.Hour), (54, 2, .bp o q 0), (55, 3, .bp o q 0), (56, 4, .bp o q 0), (57, 5, .bp o q 4), (58, 6, .i c.Field.Freeze), (59, 7, .b (Z18 e c)), (60, 8, .b (Z18 e c)), (61, 9, .bp (X2 7).b 0 6), (62, 10, .b (Z37 e c)), (63, 11, .b (!(Z37 e c))), (64, 12, .b (!(Z37 e c))), (65, 13, .b (!(Z37 e c))), (66, 14, .bp (X2 7).b 0 4), (67, 15, .b (Z54 e c)), (68, 16, .b (!(Z54 e c))), (69, 17, .b (!(Z54 e c))), (70, 18, .b (!(Z54 e c))), (71, 19, .tup []), (72, 20, .tup []), (73, 21, .tup []), (74, 22, .tup []), (75, 23, .tup []), (76, 24, .tup []), (77, 25, .tup []), (78, 26, .tup []), (79, 27, .tup []), (80, 28, .tup []), (81, 29, .tup []), (82, 30, .b false)], ?_, ?_⟩
         · exact dk [0, 1, 0, 3, 4, 5, 6, 207, 8, 9, 910, 911, 912, 13, 14, 1415, 1416, 1417, 18, 19, 1920, 1921, 1922, 1923, 19, 1925, 1926, 1927, 1928, 192429, 1930] ⟨go (zf rfl cK),
 go (zl 5 rfl rfl rfl aV),
 go (zm (.bp o q 0)),
 go fun S hS => bG (aL rfl) (aT hS rfl),
 go (zf rfl fX),
 go (zf rfl fB),
 go (zl 0 rfl rfl rfl aV),
 go (zcm rfl rfl rfl),
 go (zm (.b (Z18 e c))),
 gt I (zf rfl jD),
 gt I (zl 6 rfl rfl rfl dI),
 gt I (zn rfl),
 go (zpt (Z71 e c) I),
 go (zm (Z71 e c)),
 gt F (zf rfl pK),
 gt F (zl 6 rfl rfl rfl dI),
 gt F (zn rfl),
 go (zpt (.b (!(Z54 e c))) F),
 go (zm (.b (!(Z54 e c)))),
 gp B,
 gp B,
 gp B,
 gp B,
 gp B,
 gp B,
 gp B,
 gp B,
 gp B,
 gp B,
 gp B,
 go (zpf Z21 B), trivial⟩
         · exact bP (aP rfl (aR ⟨rfl, rfl, rfl, trivial⟩))
       ·obtain rfl := sIn P;have B : false = false := rfl;have M := pW B M;obtain rfl := sIn M;refine ⟨[(52, 0, .bp b1 0 1), (53, 1, .i e.Hour), (54, 2, .bp o q 0), (55, 3, .bp o q 0), (56, 4, .bp o q 0), (57, 5, .bp o q 4), (58, 6, .i c.Field.Freeze), (59, 7, .b (Z18 e c)), (60, 8, .b (Z18 e c)), (61, 9, .bp (X2 7).b 0 6), (62, 10, .b (Z37 e c)), (63, 11, .b (!(Z37 e c))), (64, 12, .b (!(Z37 e c))), (65, 13, .b (!(Z37 e c))), (66, 14, .tup []), (67, 15, .tup []), (68, 16, .tup []), (69, 17, .b false), (70, 18, .b (false)), (71, 19, .tup []), (72, 20, .tup []), (73, 21, .tup []), (74, 22, .tup []), (75, 23, .tup []), (76, 24, .tup []), (77, 25, .tup []), (78, 26, .tup []), (79, 27, .tup []), (80, 28, .tup []), (81, 29, .tup []), (82, 30, .b false)], ?_, ?_⟩
        · exact dk [0, 1, 0, 3, 4, 5, 6, 207, 8, 9, 910, 911, 912, 13, 14, 1415, 1416, 1417, 18, 19, 1920, 1921, 1922, 1923, 19, 1925, 1926, 1927, 1928, 192429, 1930] ⟨go (zf rfl cK),
 go (zl 5 rfl rfl rfl aV),
 go (zm (.bp o q 0)),
 go fun S hS => bG (aL rfl) (aT hS rfl),
 go (zf rfl fX),
 go (zf rfl fB),
 go (zl 0 rfl rfl rfl aV),
 go (zcm rfl rfl rfl),
 go (zm (.b (Z18 e c))),
 gt I (zf rfl jD),
 gt I (zl 6 rfl rfl rfl dI),
 gt I (zn rfl),
 go (zpt (Z71 e c) I),
 go (zm (Z71 e c)),
 gp F,
 gp F,
 gp F,
 go (zpf Z21 F),
 go (zm Z74),
 gp B,
 gp B,
 gp B,
 gp B,
 gp B,
 gp B,
 gp B,
 gp B,
 gp B,
 gp B,
 gp B,
 go (zpf Z21 B), trivial⟩
        · exact bP (aP rfl (aR ⟨rfl, rfl, rfl, trivial⟩))
      ·obtain rfl := sIn W;have F : false = false := rfl;have P := pW F P;obtain rfl := sIn P;have B : false = false := rfl;have M := pW B M;obtain rfl := sIn M;refine ⟨[(52, 0, .bp b1 0 1), (53, 1, .i e.Hour), (54, 2, .bp o q 0), (55, 3, .bp o q 0), (56, 4, .bp o q 0), (57, 5, .bp o q 4), (58, 6, .i c.Field.Freeze), (59, 7, .b (Z18 e c)), (60, 8, .b (Z18 e c)), (61, 9, .tup []), (62, 10, .tup []), (63, 11, .tup []), (64, 12, .b false), (65, 13, .b (false)), (66, 14, .tup []), (67, 15, .tup []), (68, 16, .tup []), (69, 17, .b false), (70, 18, .b (false)), (71, 19, .tup []), (72, 20, .tup []), (73, 21, .tup []), (74, 22, .tup []), (75, 23, .tup []), (76, 24, .tup []), (77, 25, .tup []), (78, 26, .tup []), (79, 27, .tup []), (80, 28, .tup []), (81, 29, .tup []), (82, 30, .b false)], ?_, ?_⟩
       · exact dk [0, 1, 0, 3, 4, 5, 6, 207, 8, 9, 910, 911, 912, 13, 14, 1415, 1416, 1417, 18, 19, 1920, 1921, 1922, 1923, 19, 1925, 1926, 1927, 1928, 192429, 1930] ⟨go (zf rfl cK),
 go (zl 5 rfl rfl rfl aV),
 go (zm (.bp o q 0)),
 go fun S hS => bG (aL rfl) (aT hS rfl),
 go (zf rfl fX),
 go (zf rfl fB),
 go (zl 0 rfl rfl rfl aV),
 go (zcm rfl rfl rfl),
 go (zm (.b (Z18 e c))),
 gp I,
 gp I,
 gp I,
 go (zpf Z21 I),
 go (zm Z74),
 gp F,
 gp F,
 gp F,
 go (zpf Z21 F),
 go (zm Z74),
 gp B,
 gp B,
 gp B,
 gp B,
 gp B,
 gp B,
 gp B,
 gp B,
 gp B,
 gp B,
 gp B,
 go (zpf Z21 B), trivial⟩
       · exact bP (aP rfl (aR ⟨rfl, rfl, rfl, trivial⟩))
     ·refine aE ?_;refine tih h (fun d2 h => ?_) (fun d2 h => ?_)
      ·refine aF (aC (to (sf rfl jD) (to (sst 6 rfl rfl sizeOf4 (Z59 e c)) (to (sf rfl aCx) (to (sst 6 rfl rfl sizeOf4 (aG (Z6 e c))) (aE ?_))))));obtain ⟨a2, d3, h⟩ := bns h;refine dU mix 9 [0, 3, 4] (fun K => [(85, .bp o q 0), (93, .d (.lit (K 8).v))]) (fun K => [.box o q [.j c.Field.Places, .j c.Field.Wilds, .j c.Field.Guards, .j c.Field.Close, .j c.Field.Freeze, .lit (.map (some g)), .lit u, .k c.frozen, .lit s, .lit t, .j c.more, .j c.entered], .map g (c.players.map fun p : Int × aA => (VI p.1, (fun v : aA => AV.agg (aG v)) p.2)) y j, .arr (K 8).v 3 1 (a2.map aH), .arr s 3 1 (Z16 c), .arr t 3 1 (Z19 c), .box b1 0 (aI e), .box (X2 7).b 0 (aG (Z6 e c))]) ?_ ?_
       ·refine ⟨0, fun K => [(85, 0, .bp o q 0), (86, 1, .bp o q 0), (87, 2, .bp o q 0), (88, 3, .bp o q 6), (89, 4, .d (.lit u)), (90, 5, .bp b1 0 3), (91, 6, .i e.Player), (92, 7, .d (Z43 e)), (93, 8, .d (.lit (K 8).v))], fun K => [([], .box o q [.j c.Field.Places, .j c.Field.Wilds, .j c.Field.Guards, .j c.Field.Close, .j c.Field.Freeze, .lit (.map (some g)), .lit u, .k c.frozen, .lit s, .lit t, .j c.more, .j c.entered]), ([], .map g (c.players.map fun p : Int × aA => (VI p.1, (fun v : aA => AV.agg (aG v)) p.2)) y j), ([(8, .arr (K 8).v 3 1 (a2.map aH))], .arr u 3 1 (Z17 c)), ([], .arr s 3 1 (Z16 c)), ([], .arr t 3 1 (Z19 c)), ([], .box b1 0 (aI e)), ([], .box (X2 7).b 0 (aG (Z6 e c)))], ?_, ?_⟩
        · exact xok [(0, 0), (0, 9), (2, 9), (3, 9), (4, 9), (0, 9), (6, 9), (7, 9), (508, 0)] ⟨fun _ _ w _ k => xp w (ym k (.bp o q 0)),
 fun _ _ w _ k => xp w (ym k (.bp o q 0)),
 fun _ _ w _ k => xp w (bG (aL rfl) (aT k rfl)),
 fun _ _ w _ k => xp w (yf k rfl jC),
 fun _ _ w _ k => xp w (yl k 0 rfl (og k rfl rfl) rfl cA),
 fun _ _ w _ k => xp w (yf k rfl cI),
 fun _ _ w _ k => xp w (yl k 5 rfl (og k rfl rfl) rfl aV),
 fun _ _ w _ k => xp w (dG (aL rfl) bM rfl (pa2 (aT k rfl) pan) (rows := ([e.Player]).map aH) rfl (aX (f := aH) fun _ => rfl) rfl (by decide)),
 fun K S hw hi hS => eQ (X := K) (p := 2) (v := fun x => .d (.lit x.v)) (mo := fun x => .arr x.v 3 1 (a2.map aH)) hS hi rfl rfl (fun _ => rfl) hw (fun _ => rfl) (fun _ => rfl) (fun _ => rfl) (fun _ => ⟨rfl, rfl, .inr rfl, ⟨rfl, rfl, .inr rfl, ⟨rfl, rfl, .inr rfl, ⟨rfl, rfl, .inr rfl, ⟨rfl, rfl, .inr rfl, ⟨rfl, rfl, .inr rfl, ⟨rfl, rfl, .inr rfl, ⟨rfl, rfl, .inr rfl, ⟨rfl, rfl, .inl rfl, trivial⟩⟩⟩⟩⟩⟩⟩⟩⟩) (fun _ => ⟨trivial, rfl, ⟨trivial, rfl, ⟨⟨rfl, .inl rfl, trivial⟩, rfl, ⟨trivial, rfl, ⟨trivial, rfl, ⟨trivial, rfl, ⟨trivial, rfl, trivial⟩⟩⟩⟩⟩⟩⟩) (cS (cL (i := 2) (aL rfl) bM (aT hS rfl) (og hS rfl rfl) (aT hS rfl) (fun _ => rfl) d3 rfl) (by rintro _ ⟨w, rfl⟩; exact ⟨⟨0, w⟩, Ent.refl _⟩)), trivial⟩
        · exact fun K => bP (aP rfl (aP rfl (aR ⟨rfl, rfl, rfl, trivial⟩)))
       ·intro K;refine to (bG (aL rfl) rfl) ?_;refine to (sf rfl jC) (to (sst 0 rfl rfl sizeOf25 [.j c.Field.Places, .j c.Field.Wilds, .j c.Field.Guards, .j c.Field.Close, .j c.Field.Freeze, .lit (.map (some g)), .lit (K 8).v, .k c.frozen, .lit s, .lit t, .j c.more, .j c.entered]) ?_);refine cB ?_;refine cG mix 7 [] [(134, .d (Z22 g)), (136, .i e.Player), (137, .agg (aG (Z6 e c)))] ?_ ?_
        ·refine ⟨[(131, 0, .bp o q 0), (132, 1, .bp o q 0), (133, 2, .bp o q 5), (134, 3, .d (Z22 g)), (135, 4, .bp b1 0 3), (136, 5, .i e.Player), (137, 6, .agg (aG (Z6 e c)))], ?_, ?_⟩
         · exact dk [0, 1, 2, 3, 0, 5, 0] ⟨go (zm (.bp o q 0)),
 go fun S hS => bG (aL rfl) (aT hS rfl),
 go (zf rfl dR),
 go (zl 0 rfl rfl rfl fV),
 go (zf rfl cI),
 go (zl 5 rfl rfl rfl aV),
 go (zla 6 (aG (Z6 e c)) rfl rfl lB), trivial⟩
         · exact bP (aP rfl (aP rfl (aP rfl (aR trivial))))
        ·refine to (fD (av := (fun v : aA => AV.agg (aG v))) (l := c.players) (v := (Z6 e c)) (a := e.Player) (m := 1) iD underlying68 rfl rfl rfl rfl (dF (kv := VI) e.Player) rfl rfl) ?_;refine aE ?_;obtain rfl := sIn h;exact ⟨_, [.box o q [.j c.Field.Places, .j c.Field.Wilds, .j c.Field.Guards, .j c.Field.Close, .j c.Field.Freeze, .lit (.map (some g)), .lit (K 8).v, .k c.frozen, .lit s, .lit t, .j c.more, .j c.entered], .map g ((cT e.Player (Z6 e c) c.players).map fun p : Int × aA => (VI p.1, (fun v : aA => AV.agg (aG v)) p.2)) (Z33 e c y j) (Z31 e c j), .arr (K 8).v 3 1 (a2.map aH), .arr s 3 1 (Z16 c), .arr t 3 1 (Z19 c)], [.box b1 0 (aI e), .box (X2 7).b 0 (aG (Z6 e c))], _, .none, .refl _, .same _, (Z33 e c y j), (Z31 e c j), (K 8).v, s, t, rfl, rfl⟩
      ·refine bY ?_;refine cG mix 7 [] [(134, .d (Z22 g)), (136, .i e.Player), (137, .agg (Z67 e c))] ?_ ?_
       ·refine ⟨[(131, 0, .bp o q 0), (132, 1, .bp o q 0), (133, 2, .bp o q 5), (134, 3, .d (Z22 g)), (135, 4, .bp b1 0 3), (136, 5, .i e.Player), (137, 6, .agg (Z67 e c))], ?_, ?_⟩
        · exact dk [0, 1, 2, 3, 0, 5, 0] ⟨go (zm (.bp o q 0)),
 go fun S hS => bG (aL rfl) (aT hS rfl),
 go (zf rfl dR),
 go (zl 0 rfl rfl rfl fV),
 go (zf rfl cI),
 go (zl 5 rfl rfl rfl aV),
 go (zla 6 (Z67 e c) rfl rfl lB), trivial⟩
        · exact bP (aP rfl (aP rfl (aP rfl (aR trivial))))
       ·refine to (fD (av := (fun v : aA => AV.agg (aG v))) (l := c.players) (v := aK e.Player Z2 c.players) (a := e.Player) (m := 1) iD underlying68 rfl rfl rfl rfl (dF (kv := VI) e.Player) rfl rfl) ?_;refine aE ?_;obtain rfl := sIn h;exact ⟨_, (Z5 o q c g u s t e y j), [.box b1 0 (aI e), .box (X2 7).b 0 (Z67 e c)], _, .none, .refl _, .same _, (Z33 e c y j), (Z31 e c j), u, s, t, rfl, rfl⟩
    ·refine aF (aC (to (scm rfl rfl rfl) (ta (Z51 e) (aE ?_))));refine tih h (fun d4 h => ?_) (fun d4 h => ?_)
     ·refine aF (aF ?_);obtain ⟨d5, Y, h⟩ := bns h;refine cG mix 12 [0, 3, 4] [(109, .b d5)] ?_ ?_
      ·refine bch Y (fun G Y => ?_) (fun G Y => ?_)
       ·obtain rfl := sIn Y;refine ⟨[(98, 0, .bp (X2 7).b 0 6), (99, 1, .b (Z37 e c)), (100, 2, .b (Z37 e c)), (101, 3, .bp b1 0 1), (102, 4, .i e.Hour), (103, 5, .bp o q 0), (104, 6, .bp o q 0), (105, 7, .bp o q 0), (106, 8, .bp o q 4), (107, 9, .i c.Field.Freeze), (108, 10, .b (Z57 c e)), (109, 11, .b (Z57 c e))], ?_, ?_⟩
        · exact dk [0, 1, 2, 3, 304, 3, 306, 307, 308, 309, 30510, 311] ⟨go (zf rfl jD),
 go (zl 6 rfl rfl rfl dI),
 go (zm (.b (Z37 e c))),
 gt G (zf rfl cK),
 gt G (zl 5 rfl rfl rfl aV),
 gt G (zm (.bp o q 0)),
 gt G fun S hS => bG (aL rfl) (aT hS rfl),
 gt G (zf rfl fX),
 gt G (zf rfl fB),
 gt G (zl 0 rfl rfl rfl aV),
 gt G (zcm rfl rfl rfl),
 go (zpt (.b (Z57 c e)) G), trivial⟩
        · exact bP (aP rfl (aR ⟨rfl, rfl, rfl, trivial⟩))
       ·obtain rfl := sIn Y;refine ⟨[(98, 0, .bp (X2 7).b 0 6), (99, 1, .b (Z37 e c)), (100, 2, .b (Z37 e c)), (101, 3, .tup []), (102, 4, .tup []), (103, 5, .tup []), (104, 6, .tup []), (105, 7, .tup []), (106, 8, .tup []), (107, 9, .tup []), (108, 10, .tup []), (109, 11, .b false)], ?_, ?_⟩
        · exact dk [0, 1, 2, 3, 304, 3, 306, 307, 308, 309, 30510, 311] ⟨go (zf rfl jD),
 go (zl 6 rfl rfl rfl dI),
 go (zm (.b (Z37 e c))),
 gp G,
 gp G,
 gp G,
 gp G,
 gp G,
 gp G,
 gp G,
 gp G,
 go (zpf Z21 G), trivial⟩
        · exact bP (aP rfl (aR ⟨rfl, rfl, rfl, trivial⟩))
      ·refine aE ?_;refine tih h (fun d6 h => ?_) (fun d6 h => ?_)
       ·refine aC (tm (.bp o q 0) (to (bG (aL rfl) rfl) ?_));refine tfl 0 rfl rfl wQ rfl aV (to (sar rfl rfl rfl) (to (bG (aL rfl) rfl) ?_));refine to (sf rfl wQ) (to (sst 0 rfl rfl sizeOf3 [.j c.Field.Places, .j c.Field.Wilds, .j c.Field.Guards, .j c.Field.Close, .j c.Field.Freeze, .lit (.map (some g)), .lit u, .k c.frozen, .lit s, .lit t, .j (Z68 c), .j c.entered]) (aE (aF (aC (to (sf rfl pK) (to (sst 6 rfl rfl sizeOf4 (Z26 e c)) (to (sf rfl jD) (to (sst 6 rfl rfl sizeOf4 (Z75 e c)) (aE (aC (tm (.bp o q 0) (tm (.bp o q 0) (to (bG (aL rfl) rfl) ?_)))))))))))));refine tfl 0 rfl rfl jC rfl cA (to (pT (aL rfl) rfl rfl) ?_);refine dC (aS [0, 1, 2, 3, 4, 6, 5] rfl rfl (le_refl _)) ?_;apply sW [.box o q [.j c.Field.Places, .j c.Field.Wilds, .j c.Field.Guards, .j c.Field.Close, .j c.Field.Freeze, .lit (.map (some g)), .lit u, .k c.frozen, .lit s, .lit t, .j (Z68 c), .j c.entered], .map g (c.players.map fun p : Int × aA => (VI p.1, (fun v : aA => AV.agg (aG v)) p.2)) y j, .arr u 3 1 (Z17 c), .arr s 3 1 (Z16 c), .arr t 3 1 (Z19 c), .box (X2 7).b 0 (Z75 e c)] [.box b1 0 (aI e)] rfl;exact cW (k := 124) (v := .fn 108 (Z25 e)) (qS (.cons (dV 0 rfl rfl (dvc (.same _) (dvc (.same _) (dvc (.same _) (dvc (.same _) (dvc (.same _) dvn)))))) .nil)) (cW (k := 3) (v := .cp [.j e.Id, .j e.Hour, .j e.Kind, .j e.Player, .j e.Rank]) (dV 0 rfl rfl (dvc (.same _) (dvc (.same _) (dvc (.same _) (dvc (.same _) (dvc (.same _) dvn)))))) (fH _ _));obtain ⟨d7, d8, h⟩ := bns h;refine dC (aS [2, 0, 1, 3, 4, 5] rfl rfl (le_refl _)) ?_;refine bC rfl (iX (passed := [.arr u 3 1 (Z17 c)]) (aL rfl) rfl (.func _ _ call64) rfl rfl (eD c.wilds (fun d9 => eY d9 e) 108 (Z25 e) call108 (fun _ _ h => nT _ _ h) d8)) ?_;rintro _ ⟨_, _, ⟨a3, rfl, rfl⟩, rfl⟩;refine to (bG (aL rfl) rfl) ?_;refine to (sf rfl jC) (to (sst 1 rfl rfl sizeOf25 [.j c.Field.Places, .j c.Field.Wilds, .j c.Field.Guards, .j c.Field.Close, .j c.Field.Freeze, .lit (.map (some g)), .lit a3, .k c.frozen, .lit s, .lit t, .j (Z68 c), .j c.entered]) ?_);refine cB ?_;refine cG mix 7 [] [(134, .d (Z22 g)), (136, .i e.Player), (137, .agg (Z75 e c))] ?_ ?_
        ·refine ⟨[(131, 0, .bp o q 0), (132, 1, .bp o q 0), (133, 2, .bp o q 5), (134, 3, .d (Z22 g)), (135, 4, .cp [.j e.Player]), (136, 5, .i e.Player), (137, 6, .agg (Z75 e c))], ?_, ?_⟩
         · exact dk [0, 1, 2, 3, 0, 5, 0] ⟨go (zm (.bp o q 0)),
 go fun S hS => bG (aL rfl) (aT hS rfl),
 go (zf rfl dR),
 go (zl 1 rfl rfl rfl fV),
 go (zfc [.j e.Player] rfl cI),
 go (zlc rfl aV),
 go (zla 5 (Z75 e c) rfl rfl lB), trivial⟩
         · exact bP (aP rfl (aP rfl (aP rfl (aR trivial))))
        ·refine to (fD (av := (fun v : aA => AV.agg (aG v))) (l := c.players) (v := (Z3 e c)) (a := e.Player) (m := 2) iD underlying68 rfl rfl rfl rfl (dF (kv := VI) e.Player) rfl rfl) ?_;refine aE ?_;obtain rfl := sIn h;exact ⟨_, [.box o q [.j c.Field.Places, .j c.Field.Wilds, .j c.Field.Guards, .j c.Field.Close, .j c.Field.Freeze, .lit (.map (some g)), .lit a3, .k c.frozen, .lit s, .lit t, .j (Z68 c), .j c.entered], .map g ((Z77 e c).map fun p : Int × aA => (VI p.1, (fun v : aA => AV.agg (aG v)) p.2)) (Z33 e c y j) (Z31 e c j), .arr a3 3 1 (d7.map aH), .arr s 3 1 (Z16 c), .arr t 3 1 (Z19 c)], [.box (X2 7).b 0 (Z75 e c)], _, .none, (dJ (i := 1) rfl).trans (.cons _ ((dJ (i := 1) rfl).trans (.cons _ ((dJ (i := 0) rfl).trans (.cons _ ((dJ (i := 0) rfl).trans (.cons _ ((dJ (i := 0) rfl).trans (.cons _ ((dJ (i := 0) rfl).trans (.cons _ (.refl _)))))))))))), .same _, (Z33 e c y j), (Z31 e c j), a3, s, t, rfl, rfl⟩
       ·refine bA (aF (aC (to (sf rfl pK) (to (sst 6 rfl rfl sizeOf4 (Z26 e c)) (to (sf rfl jD) (to (sst 6 rfl rfl sizeOf4 (Z75 e c)) (aE (aC (tm (.bp o q 0) (tm (.bp o q 0) (to (bG (aL rfl) rfl) ?_)))))))))));refine tfl 0 rfl rfl jC rfl cA (to (pT (aL rfl) rfl rfl) ?_);refine dC (aS [0, 1, 2, 3, 4, 6, 5] rfl rfl (le_refl _)) ?_;apply sW [.box o q [.j c.Field.Places, .j c.Field.Wilds, .j c.Field.Guards, .j c.Field.Close, .j c.Field.Freeze, .lit (.map (some g)), .lit u, .k c.frozen, .lit s, .lit t, .j c.more, .j c.entered], .map g (c.players.map fun p : Int × aA => (VI p.1, (fun v : aA => AV.agg (aG v)) p.2)) y j, .arr u 3 1 (Z17 c), .arr s 3 1 (Z16 c), .arr t 3 1 (Z19 c), .box (X2 7).b 0 (Z75 e c)] [.box b1 0 (aI e)] rfl;exact cW (k := 124) (v := .fn 108 (Z25 e)) (qS (.cons (dV 0 rfl rfl (dvc (.same _) (dvc (.same _) (dvc (.same _) (dvc (.same _) (dvc (.same _) dvn)))))) .nil)) (cW (k := 3) (v := .cp [.j e.Id, .j e.Hour, .j e.Kind, .j e.Player, .j e.Rank]) (dV 0 rfl rfl (dvc (.same _) (dvc (.same _) (dvc (.same _) (dvc (.same _) (dvc (.same _) dvn)))))) (fH _ _));obtain ⟨e0, e1, h⟩ := bns h;refine dC (aS [2, 0, 1, 3, 4, 5] rfl rfl (le_refl _)) ?_;refine bC rfl (iX (passed := [.arr u 3 1 (Z17 c)]) (aL rfl) rfl (.func _ _ call64) rfl rfl (eD c.wilds (fun e2 => eY e2 e) 108 (Z25 e) call108 (fun _ _ h => nT _ _ h) e1)) ?_;rintro _ ⟨_, _, ⟨a4, rfl, rfl⟩, rfl⟩;refine to (bG (aL rfl) rfl) ?_;refine to (sf rfl jC) (to (sst 1 rfl rfl sizeOf25 [.j c.Field.Places, .j c.Field.Wilds, .j c.Field.Guards, .j c.Field.Close, .j c.Field.Freeze, .lit (.map (some g)), .lit a4, .k c.frozen, .lit s, .lit t, .j c.more, .j c.entered]) ?_);refine cB ?_;refine cG mix 7 [] [(134, .d (Z22 g)), (136, .i e.Player), (137, .agg (Z75 e c))] ?_ ?_
        ·refine ⟨[(131, 0, .bp o q 0), (132, 1, .bp o q 0), (133, 2, .bp o q 5), (134, 3, .d (Z22 g)), (135, 4, .cp [.j e.Player]), (136, 5, .i e.Player), (137, 6, .agg (Z75 e c))], ?_, ?_⟩
         · exact dk [0, 1, 2, 3, 0, 5, 0] ⟨go (zm (.bp o q 0)),
 go fun S hS => bG (aL rfl) (aT hS rfl),
 go (zf rfl dR),
 go (zl 1 rfl rfl rfl fV),
 go (zfc [.j e.Player] rfl cI),
 go (zlc rfl aV),
 go (zla 5 (Z75 e c) rfl rfl lB), trivial⟩
         · exact bP (aP rfl (aP rfl (aP rfl (aR trivial))))
        ·refine to (fD (av := (fun v : aA => AV.agg (aG v))) (l := c.players) (v := (Z3 e c)) (a := e.Player) (m := 2) iD underlying68 rfl rfl rfl rfl (dF (kv := VI) e.Player) rfl rfl) ?_;refine aE ?_;obtain rfl := sIn h;exact ⟨_, [.box o q [.j c.Field.Places, .j c.Field.Wilds, .j c.Field.Guards, .j c.Field.Close, .j c.Field.Freeze, .lit (.map (some g)), .lit a4, .k c.frozen, .lit s, .lit t, .j c.more, .j c.entered], .map g ((Z77 e c).map fun p : Int × aA => (VI p.1, (fun v : aA => AV.agg (aG v)) p.2)) (Z33 e c y j) (Z31 e c j), .arr a4 3 1 (e0.map aH), .arr s 3 1 (Z16 c), .arr t 3 1 (Z19 c)], [.box (X2 7).b 0 (Z75 e c)], _, .none, (dJ (i := 1) rfl).trans (.cons _ ((dJ (i := 1) rfl).trans (.cons _ ((dJ (i := 0) rfl).trans (.cons _ ((dJ (i := 0) rfl).trans (.cons _ ((dJ (i := 0) rfl).trans (.cons _ ((dJ (i := 0) rfl).trans (.cons _ (.refl _)))))))))))), .same _, (Z33 e c y j), (Z31 e c j), a4, s, t, rfl, rfl⟩
     ·refine aF (aC (to (scm rfl rfl rfl) (ta (Z52 e) (aE ?_))));refine tih h (fun e3 h => ?_) (fun e3 h => ?_)
      ·refine aC (to (sf rfl uB) (to (sst 6 rfl rfl sizeOf4 (aG (Z8 e c))) ?_));refine cB ?_;refine cG mix 7 [] [(134, .d (Z22 g)), (136, .i e.Player), (137, .agg (aG (Z8 e c)))] ?_ ?_
       ·refine ⟨[(131, 0, .bp o q 0), (132, 1, .bp o q 0), (133, 2, .bp o q 5), (134, 3, .d (Z22 g)), (135, 4, .bp b1 0 3), (136, 5, .i e.Player), (137, 6, .agg (aG (Z8 e c)))], ?_, ?_⟩
        · exact dk [0, 1, 2, 3, 0, 5, 0] ⟨go (zm (.bp o q 0)),
 go fun S hS => bG (aL rfl) (aT hS rfl),
 go (zf rfl dR),
 go (zl 0 rfl rfl rfl fV),
 go (zf rfl cI),
 go (zl 5 rfl rfl rfl aV),
 go (zla 6 (aG (Z8 e c)) rfl rfl lB), trivial⟩
        · exact bP (aP rfl (aP rfl (aP rfl (aR trivial))))
       ·refine to (fD (av := (fun v : aA => AV.agg (aG v))) (l := c.players) (v := (Z8 e c)) (a := e.Player) (m := 1) iD underlying68 rfl rfl rfl rfl (dF (kv := VI) e.Player) rfl rfl) ?_;refine aE ?_;obtain rfl := sIn h;exact ⟨_, (Z42 o q c g u s t e y j), [.box b1 0 (aI e), .box (X2 7).b 0 (aG (Z8 e c))], _, .none, .refl _, .same _, (Z33 e c y j), (Z31 e c j), u, s, t, rfl, rfl⟩
      ·refine bY ?_;refine cG mix 7 [] [(134, .d (Z22 g)), (136, .i e.Player), (137, .agg (Z67 e c))] ?_ ?_
       ·refine ⟨[(131, 0, .bp o q 0), (132, 1, .bp o q 0), (133, 2, .bp o q 5), (134, 3, .d (Z22 g)), (135, 4, .bp b1 0 3), (136, 5, .i e.Player), (137, 6, .agg (Z67 e c))], ?_, ?_⟩
        · exact dk [0, 1, 2, 3, 0, 5, 0] ⟨go (zm (.bp o q 0)),
 go fun S hS => bG (aL rfl) (aT hS rfl),
 go (zf rfl dR),
 go (zl 0 rfl rfl rfl fV),
 go (zf rfl cI),
 go (zl 5 rfl rfl rfl aV),
 go (zla 6 (Z67 e c) rfl rfl lB), trivial⟩
        · exact bP (aP rfl (aP rfl (aP rfl (aR trivial))))
       ·refine to (fD (av := (fun v : aA => AV.agg (aG v))) (l := c.players) (v := aK e.Player Z2 c.players) (a := e.Player) (m := 1) iD underlying68 rfl rfl rfl rfl (dF (kv := VI) e.Player) rfl rfl) ?_;refine aE ?_;obtain rfl := sIn h;exact ⟨_, (Z5 o q c g u s t e y j), [.box b1 0 (aI e), .box (X2 7).b 0 (Z67 e c)], _, .none, .refl _, .same _, (Z33 e c y j), (Z31 e c j), u, s, t, rfl, rfl⟩

theorem tT (d : Int) (a : List (Int × aA)) {r : Bool} {e f g j k l m o q s c : D} (h : fS d a = some r) : Fn Tryz.prog 109 [.i d, .cp [.pt [e, f, g, j, k, .mp true (a.map fun p : Int × aA => (VI p.1, aG p.2)), l, m, o, q, s, c]]] (.b r) := by
 unfold fS at h;refine oT [.tmp 3] func109 results109 ntmps109 ?_;refine aF (aC (ta Z21 (aE (aF (aC (to (mO (.ptc _) (kC (aL rfl) rfl hU)) ?_))))));refine tm (.i d) ?_;obtain ⟨r1, h2, h⟩ := bns h;refine to (scr call83 (tH _ _ h2)) (to (sn rfl) (ta (.b (!r1)) (aE ?_)));obtain rfl := sIn h;exact rt

theorem aBi (a : Int) {r : (List Int)} (h : oI a = some r) : dO Tryz.prog 89 [.d Z41, .i a] [] (fun r' o' => ∃ (w0 : Value), r' = .d (.lit w0) ∧ o' = [.arr w0 3 1 (r.map aH)]) := by
 unfold oI at h;refine iV func89 rfl (rs := [.tmp 4]) results89 ntmps89 (Nat.le_of_ble_eq_true rfl) ?_;refine bL (pD 3 1) ?_;refine aF (aC (to (fQ 3 1 (.inl rfl) (aL rfl)) ?_));refine aE (aF (aF (aC (tm (.i a) (to (scm rfl rfl rfl) (aE ?_))))));refine tih h (fun c2 h => ?_) (fun c2 h => ?_)
 ·cases h
 ·refine bA (aF (aF (aC (tm (.i a) (tm (.d Z41) (to (aGm (aL rfl) rfl bM.of) ?_))))));refine tm (.d Z41) (to (aGn (aL rfl) rfl bM.of) ?_);refine to (sar rfl rfl rfl) (to (sar rfl rfl rfl) (ta (.i (w64 (a - (w64 (0 - 0))))) (aE (aF (aC (tm (.i (w64 (a - (w64 (0 - 0))))) (to (scm rfl rfl rfl) (aE ?_))))))));refine tih h (fun c3 h => ?_) (fun c3 h => ?_)
  ·refine aC (tm (.d Z41) (tm (.d Z41) (to (aGm (aL rfl) rfl bM.of) ?_)));obtain ⟨u4, h5, h⟩ := bns h;refine to (rJ (m := 0) (q := 0) (v := (.slice none 0 0)) (aL rfl) rfl rfl rfl rfl (aAj h5) bM.of) ?_;refine tm (.i (w64 (a - (w64 (0 - 0))))) ?_;obtain ⟨u6, h7, h⟩ := bns h;refine bC rfl (aOu (i := 0) (aL rfl) bM rfl rfl rfl underlying3 (aHj h7).1 (aHj h7).2 (by decide)) ?_;rintro _ ⟨v8, rfl⟩;refine tm (.d Z41) (to (aGn (aL rfl) rfl bM.of) ?_);obtain ⟨u9, b, h⟩ := bns h;refine to (rJ (m := 0) (q := 0) (v := v8) (aL rfl) rfl rfl rfl rfl (aAj b) bM.of) ?_;refine ta (.d (.lit (fM v8 0))) (aE (aF (aC (tm (.d (.lit (fM v8 0))) (ta (.d (.lit (fM v8 0))) (aE ?_))))));obtain rfl := sIn h;exact bS ⟨rfl, _, [.arr (fM v8 0) 3 1 Z44], Z29, _, .one (.tmp 4 (v := .d (.lit (fM v8 0))) rfl), .refl _, .same _, (fM v8 0), rfl, rfl⟩
  ·refine bA (aF (aC (tm (.d Z41) (ta (.d Z41) (aE ?_)))));obtain rfl := sIn h;exact bS ⟨rfl, _, Z29, Z29, _, .one (.tmp 4 (v := .d Z41) rfl), .refl _, .same _, (.slice none 0 0), rfl, rfl⟩

theorem tQ (a : List (List Int)) {r : (List Int)} (h : mP a = some r) : dO Tryz.prog 63 [.d (.sl 1 (a.map mB))] [] (fun r' o' => ∃ (w0 : Value), r' = .d (.lit w0) ∧ o' = [.arr w0 3 1 (r.map aH)]) := by
 unfold mP at h;refine iV func63 rfl (rs := [.tmp 2]) results63 ntmps63 (Nat.le_of_ble_eq_true rfl) ?_;refine aF (aC (to (fQ 3 1 (.inl rfl) (aL rfl)) ?_));refine aE (aF (aC (ta (.i 0) (aE (aF (aF (aC (tm (.d (.sl 1 (a.map mB))) (to (sle rfl tN.of) (tm (.i 0) (aE (bI ?_))))))))))));refine cF (S := Int × Int) [0, 9, 10] (fun s2 => [(3, .i s2.1), (11, .i s2.2)]) (fun s2 => []) (fun k s2 => iE a a (a.length : Int) k s2.1 s2.2) (fun _ => rfl) (0, 0) h (aS [] rfl rfl (aP rfl (aP rfl (aR ⟨rfl, rfl, rfl, trivial⟩)))) ?_;rintro k3 ⟨b, f⟩ h;simp only [iE] at h;refine aF (aC (to (scm rfl rfl rfl) (aE (aF ?_))));refine tih h (fun c4 h => ?_) (fun c4 h => ?_)
 ·refine bA (aF (bI (aF (aC ?_))));obtain ⟨x5, h6, h⟩ := bns h;refine to (six rfl rfl tN.of (bB mB h6)) (to (slc rfl cA) (ta (.d (.sl 1 (x5.map aH))) (aE (aF (aC (tm (.i b) (tm (.d (.sl 1 (x5.map aH))) (to (sle rfl bM.of) (to (sar rfl rfl rfl) (ta (.i (w64 (b + (x5.length : Int)))) (aE (aF (aC ?_)))))))))))));refine tm (.i (w64 (b + (x5.length : Int)))) (to (scm rfl rfl rfl) (aE ?_));refine tih h (fun c7 h => ?_) (fun c7 h => ?_)
  ·cases h
  ·refine bY ?_;refine aC (to (sar rfl rfl rfl) (tm (.i (w64 (f + 1))) (aE ?_)));exact ⟨(w64 (b + (x5.length : Int)), w64 (f + 1)), h, aS [] rfl rfl (aP rfl (aP rfl (aR ⟨rfl, rfl, rfl, trivial⟩)))⟩
 ·refine bZ ?_;refine .inl ⟨rfl, ?_⟩;simp only [pM] at h;refine aF (aC (tm (.i b) ?_));obtain ⟨r8, h9, h⟩ := bns h;refine bC rfl (kO (aL rfl) (.func _ _ call89) rfl rfl (aBi _ h9)) ?_;rintro _ ⟨l, rfl⟩;refine ta (.d (.lit l)) (aE (aF (aF (aC (tm (.d (.sl 1 (a.map mB))) (to (sle rfl tN.of) (tm (.i 0) (aE (bI ?_)))))))));refine cF (S := Int × Z62 × Value) [25, 26] (fun c => [(6, .d (.lit c.2.2)), (27, .i c.1)]) (fun c => [.arr c.2.2 3 1 (c.2.1.map aH)]) (fun k c => gJ a (a.length : Int) k c.1 c.2.1) (fun _ => rfl) (0, r8, l) h (aS [0] rfl rfl (aP rfl (aP rfl (aR ⟨rfl, rfl, trivial⟩)))) ?_;rintro t ⟨e, j, g⟩ h;simp only [gJ] at h;refine aF (aC (to (scm rfl rfl rfl) (aE (aF ?_))));refine tih h (fun o h => ?_) (fun o h => ?_)
  ·refine bA (aF (bI (aF (aC ?_))));obtain ⟨m, p, h⟩ := bns h;refine to (six rfl rfl tN.of (bB mB p)) (to (slc rfl cA) (ta (.d (.sl 1 (m.map aH))) (aE (aC (tm (.d (.lit g)) (tm (.d (.sl 1 (m.map aH))) ?_))))));obtain ⟨q, s, h⟩ := bns h;refine bC rfl (cL (i := 0) (aL rfl) bM rfl rfl rfl (fun _ => rfl) s rfl) ?_;rintro _ ⟨n, rfl⟩;refine ta (.d (.lit n)) ?_;refine cB ?_;refine aC (to (sar rfl rfl rfl) (tm (.i (w64 (e + 1))) (aE ?_)));exact ⟨(w64 (e + 1), q, n), h, aS [0] rfl rfl (aP rfl (aP rfl (aR ⟨rfl, rfl, trivial⟩)))⟩
  ·refine bZ ?_;refine .inl ⟨rfl, ?_⟩;simp only [tP] at h;refine aF (aC (tm (.d (.lit g)) (ta (.d (.lit g)) (aE ?_))));obtain rfl := sIn h;exact bS ⟨rfl, _, [.arr g 3 1 (j.map aH)], [], _, .one (.tmp 2 (v := .d (.lit g)) rfl), .refl _, .same _, g, rfl, rfl⟩

theorem vD (a : aO) {r : (List Int)} (h : eH a = some r) : dO Tryz.prog 34 [.cp (bD a)] [] (fun r' o' => ∃ (w0 : Value), r' = .d (.lit w0) ∧ o' = [.arr w0 3 1 (r.map aH)]) := by
 unfold eH at h;refine iV func34 rfl (rs := [.tmp 2]) results34 ntmps34 (Nat.le_of_ble_eq_true rfl) ?_;refine aF (aC (to (fQ 3 1 (.inl rfl) (aL rfl)) ?_));refine aE (aF (aF (aC (tm (Z1 a) (to (cX (aL rfl) rfl) ?_)))));refine to (sfc [.k a.frozen] rfl sO) (to (slc rfl dI) (to (sn rfl) (aE ?_)));refine tih h (fun c2 h => ?_) (fun c2 h => ?_)
 ·refine aF (aC (tm (Z1 a) ?_));obtain ⟨r3, h4, h⟩ := bns h;refine bC rfl (kO (aL rfl) (.func _ _ call62) rfl rfl (pJ _ h4)) ?_;rintro _ ⟨v5, rfl⟩;refine ta (.d (.lit v5)) (aE ?_);obtain rfl := sIn h;refine bL (aS [1, 0] rfl rfl (le_refl _)) ?_;exact bS ⟨rfl, _, [.arr v5 3 1 (r3.map aH)], Z29, _, .one (.tmp 2 (v := .d (.lit v5)) rfl), .refl _, .same _, v5, rfl, rfl⟩
 ·refine bA (aF ?_);refine cG mix 8 [] [(13, .d (.sl 1 (Z16 a))), (17, .d (.sl 1 (Z19 a)))] ?_ ?_
  ·refine ⟨[(10, 0, .cp [.j a.Field.Places, .j a.Field.Wilds, .j a.Field.Guards, .j a.Field.Close, .j a.Field.Freeze, .mp true (a.players.map fun p : Int × aA => (VI p.1, aG p.2)), .sl 1 (Z17 a), .k a.frozen, .sl 1 (Z16 a), .sl 1 (Z19 a), .j a.more, .j a.entered]), (11, 1, .cp [.j a.Field.Places, .j a.Field.Wilds, .j a.Field.Guards, .j a.Field.Close, .j a.Field.Freeze, .mp true (a.players.map fun p : Int × aA => (VI p.1, aG p.2)), .sl 1 (Z17 a), .k a.frozen, .sl 1 (Z16 a), .sl 1 (Z19 a), .j a.more, .j a.entered]), (12, 2, .cp [.sl 1 (Z16 a)]), (13, 3, .d (.sl 1 (Z16 a))), (14, 4, .cp [.j a.Field.Places, .j a.Field.Wilds, .j a.Field.Guards, .j a.Field.Close, .j a.Field.Freeze, .mp true (a.players.map fun p : Int × aA => (VI p.1, aG p.2)), .sl 1 (Z17 a), .k a.frozen, .sl 1 (Z16 a), .sl 1 (Z19 a), .j a.more, .j a.entered]), (15, 5, .cp [.j a.Field.Places, .j a.Field.Wilds, .j a.Field.Guards, .j a.Field.Close, .j a.Field.Freeze, .mp true (a.players.map fun p : Int × aA => (VI p.1, aG p.2)), .sl 1 (Z17 a), .k a.frozen, .sl 1 (Z16 a), .sl 1 (Z19 a), .j a.more, .j a.entered]), (16, 6, .cp [.sl 1 (Z19 a)]), (17, 7, .d (.sl 1 (Z19 a)))], ?_, ?_⟩
   · exact dk [0, 1, 2, 3, 0, 5, 6, 7] ⟨go (zm (Z1 a)),
 go fun S hS => cX (aL rfl) (aT hS rfl),
 go (zfc [.sl 1 (Z16 a)] rfl wP),
 go (zlc rfl cA),
 go (zm (Z1 a)),
 go fun S hS => cX (aL rfl) (aT hS rfl),
 go (zfc [.sl 1 (Z19 a)] rfl tZ),
 go (zlc rfl cA), trivial⟩
   · exact bP (aP rfl (aP rfl (aR trivial)))
  ·refine to (dG (aL rfl) tN rfl rfl (rows := ([a.first, a.late]).map mB) rfl (aX (f := mB) fun _ => rfl) rfl (by decide)) ?_;obtain ⟨r6, h7, h⟩ := bns h;refine bC rfl (kO (aL rfl) (.func _ _ call63) rfl rfl (tQ _ h7)) ?_;rintro _ ⟨v8, rfl⟩;refine ta (.d (.lit v8)) (aE ?_);obtain rfl := sIn h;refine bL (aS [1, 0] rfl rfl (le_refl _)) ?_;exact bS ⟨rfl, _, [.arr v8 3 1 (r6.map aH)], Z29, _, .one (.tmp 2 (v := .d (.lit v8)) rfl), .refl _, .same _, v8, rfl, rfl⟩

theorem vN (b : List Int) (c : Int) {r : Int} (h : iT b c = some r) : Fn Tryz.prog 66 [.d (Z27 b), .i c] (.i r) := by
 unfold iT at h;refine oT [.tmp 4] func66 results66 ntmps66 ?_;refine aF (aC (ta (.i 0) (aE (aF (aF (aC (tm (Z66 b) (to (sle rfl bM.of) (tm (.i 0) (aE (bI ?_)))))))))));refine cF (S := Int) [0, 1, 7] (fun s1 => [(8, .i s1)]) (fun s1 => []) (fun k s1 => eU b c (b.length : Int) k s1) (fun _ => rfl) (0) h (aS [] rfl rfl (aP rfl (aR ⟨rfl, rfl, rfl, trivial⟩))) ?_;rintro k2 a h;simp only [eU] at h;refine aF (aC (to (scm rfl rfl rfl) (aE (aF ?_))));refine tih h (fun c3 h => ?_) (fun c3 h => ?_)
 ·refine bA (aF (bI (aF (aC (tm (.i a) (ta (.i a) (aE (aF (aC (tm (.i c) (tm (Z66 b) (tm (.i a) ?_))))))))))));obtain ⟨x4, h5, h⟩ := bns h;refine to (six rfl rfl bM.of (bB aH h5)) (to (slc rfl aV) (to (scm rfl rfl rfl) (aE ?_)));refine tih h (fun c6 h => ?_) (fun c6 h => ?_)
  ·refine aF (aC (tm (.i a) (ta (.i a) (aE ?_))));obtain rfl := sIn h;exact rt
  ·refine bY ?_;refine aC (to (sar rfl rfl rfl) (tm (.i (w64 (a + 1))) (aE ?_)));exact ⟨(w64 (a + 1)), h, aS [] rfl rfl (aP rfl (aR ⟨rfl, rfl, rfl, trivial⟩))⟩
 ·refine bZ ?_;refine .inl ⟨rfl, ?_⟩;simp only [nU] at h;refine aF (aC (ta (.i (-1)) (aE ?_)));obtain rfl := sIn h;exact rt

theorem mD (a : List Int) (c : Int) {r : Bool} (h : jN a c = some r) : Fn Tryz.prog 53 [.d (Z27 a), .i c] (.b r) := by
 unfold jN at h;refine oT [.tmp 4] func53 results53 ntmps53 ?_;refine aF (aC (ta Z21 (aE (aF (aC (tm (Z66 a) (tm (.i c) ?_)))))));obtain ⟨r1, h2, h⟩ := bns h;refine to (scr call66 (vN _ _ h2)) (to (scm rfl rfl rfl) (ta (.b (decide (0 ≤ r1))) (aE ?_)));obtain rfl := sIn h;exact rt

theorem aAf (e : Int) (c : aO) (j : List Int) {r : Bool} (h : kU e c j = some r) : Fn Tryz.prog 110 [.i e, .cp [.pt (bD c)], .cp [.sl 1 (j.map aH)]] (.b r) := by
 unfold kU at h;refine oT [.tmp 4] func110 results110 ntmps110 ?_;refine aF (aC (ta Z21 (aE (aF (aC (to (mO (.ptc _) (kC (aL rfl) rfl hU)) ?_))))));refine to (cX (aL rfl) rfl) ?_;refine to (sfc [.mp true (c.players.map fun p : Int × aA => (VI p.1, aG p.2))] rfl dR) (to (slc rfl fV) (tm (.i e) (to (iU (enc := aG) (agg := true) (l := c.players) (z := Z2) (a := e) (aL rfl) iD underlying68 zeroValue94 (fun _ _ => .agg (jG rfl)) rfl rfl rfl rfl (dF (kv := VI) e)) ?_)));refine bC rfl (dK (zs := [.k false, .k false, .j 0, .j 0, .k false, .k false, .k false, .k false]) (aL rfl) zeroValue94 rfl rfl) ?_;rintro _ ⟨b1, rfl⟩;refine to (sst 0 rfl rfl sizeOf94 (aG (Z23 e c))) (aE (aF ?_));obtain ⟨b2, h3, h⟩ := bns h;obtain ⟨b7, h8, h⟩ := bns h;refine cG mix 24 [] [(35, .b b7)] ?_ ?_
 ·refine bch h3 (fun c4 h3 => ?_) (fun c4 h3 => ?_)
  ·obtain ⟨r5, h6, h3⟩ := bns h3;obtain rfl := sIn h3;refine bch h8 (fun c9 h8 => ?_) (fun c9 h8 => ?_)
   ·obtain ⟨o, g, h8⟩ := bns h8;refine bch g (fun f g => ?_) (fun f g => ?_)
    ·obtain rfl := sIn g;obtain rfl := sIn h8;refine ⟨[(12, 0, .bp b1 0 5), (13, 1, .b (Z63 e c)), (14, 2, .b (Z63 e c)), (15, 3, .d (Z27 j)), (16, 4, .i e), (17, 5, .b r5), (18, 6, .b (!r5)), (19, 7, .b (!r5)), (20, 8, .b (!r5)), (21, 9, .bp b1 0 1), (22, 10, .b ((Z23 e c).guard)), (23, 11, .b (!((Z23 e c).guard))), (24, 12, .b (!((Z23 e c).guard))), (25, 13, .tup []), (26, 14, .tup []), (27, 15, .tup []), (28, 16, .tup []), (29, 17, .tup []), (30, 18, .tup []), (31, 19, .tup []), (32, 20, .tup []), (33, 21, .tup []), (34, 22, .b true), (35, 23, .b (true))], ?_, ?_⟩
     · exact dk [0, 1, 2, 3, 3, 30405, 306, 307, 8, 9, 910, 911, 912, 13, 13, 131415, 13, 1317, 1318, 1319, 1320, 131621, 91322, 923] ⟨go (zf rfl uB),
 go (zl 0 rfl rfl rfl dI),
 go (zm (.b (Z63 e c))),
 gt c4 (zlc rfl cA),
 gt c4 (zm (.i e)),
 gt c4 fun S hS => kN (aL rfl) (.func _ _ call53) (ev2 (aT hS rfl) (ev2 (aT hS rfl) evn)) rfl (BVs.refl _ _) (mD _ _ h6) rfl,
 gt c4 (zn rfl),
 go (zpt (.b (!r5)) c4),
 go (zm (.b (!r5))),
 gt c9 (zf rfl zD),
 gt c9 (zl 0 rfl rfl rfl dI),
 gt c9 (zn rfl),
 gt c9 (zm (.b (!((Z23 e c).guard)))),
 gp f,
 gp f,
 gp f,
 gp f,
 gp f,
 gp f,
 gp f,
 gp f,
 gp f,
 gt c9 (zpt Z46 f),
 go (zpt (.b (true)) c9), trivial⟩
     · exact bP (aP rfl (aR trivial))
    ·obtain ⟨k, m, g⟩ := bns g;obtain rfl := sIn g;obtain rfl := sIn h8;refine ⟨[(12, 0, .bp b1 0 5), (13, 1, .b (Z63 e c)), (14, 2, .b (Z63 e c)), (15, 3, .d (Z27 j)), (16, 4, .i e), (17, 5, .b r5), (18, 6, .b (!r5)), (19, 7, .b (!r5)), (20, 8, .b (!r5)), (21, 9, .bp b1 0 1), (22, 10, .b ((Z23 e c).guard)), (23, 11, .b (!((Z23 e c).guard))), (24, 12, .b (!((Z23 e c).guard))), (25, 13, .cp [.j c.Field.Places, .j c.Field.Wilds, .j c.Field.Guards, .j c.Field.Close, .j c.Field.Freeze, .mp true (c.players.map fun p : Int × aA => (VI p.1, aG p.2)), .sl 1 (Z17 c), .k c.frozen, .sl 1 (Z16 c), .sl 1 (Z19 c), .j c.more, .j c.entered]), (26, 14, .d (Z27 j)), (27, 15, .i k), (28, 16, .cp [.j c.Field.Places, .j c.Field.Wilds, .j c.Field.Guards, .j c.Field.Close, .j c.Field.Freeze, .mp true (c.players.map fun p : Int × aA => (VI p.1, aG p.2)), .sl 1 (Z17 c), .k c.frozen, .sl 1 (Z16 c), .sl 1 (Z19 c), .j c.more, .j c.entered]), (29, 17, .cp [.j c.Field.Places, .j c.Field.Wilds, .j c.Field.Guards, .j c.Field.Close, .j c.Field.Freeze, .mp true (c.players.map fun p : Int × aA => (VI p.1, aG p.2)), .sl 1 (Z17 c), .k c.frozen, .sl 1 (Z16 c), .sl 1 (Z19 c), .j c.more, .j c.entered]), (30, 18, .cp [.j c.Field.Places, .j c.Field.Wilds, .j c.Field.Guards, .j c.Field.Close, .j c.Field.Freeze]), (31, 19, .cp [.j c.Field.Guards]), (32, 20, .i c.Field.Guards), (33, 21, .b (decide (k < c.Field.Guards))), (34, 22, .b (decide (k < c.Field.Guards))), (35, 23, .b (decide (k < c.Field.Guards)))], ?_, ?_⟩
     · exact dk [0, 1, 2, 3, 3, 30405, 306, 307, 8, 9, 910, 911, 912, 13, 13, 131415, 13, 1317, 1318, 1319, 1320, 131621, 91322, 923] ⟨go (zf rfl uB),
 go (zl 0 rfl rfl rfl dI),
 go (zm (.b (Z63 e c))),
 gt c4 (zlc rfl cA),
 gt c4 (zm (.i e)),
 gt c4 fun S hS => kN (aL rfl) (.func _ _ call53) (ev2 (aT hS rfl) (ev2 (aT hS rfl) evn)) rfl (BVs.refl _ _) (mD _ _ h6) rfl,
 gt c4 (zn rfl),
 go (zpt (.b (!r5)) c4),
 go (zm (.b (!r5))),
 gt c9 (zf rfl zD),
 gt c9 (zl 0 rfl rfl rfl dI),
 gt c9 (zn rfl),
 gt c9 (zm (.b (!((Z23 e c).guard)))),
 gt f fun S hS => mO (.ptc _) (kC (aL rfl) (aT hS rfl) hU),
 gt f (zlc rfl cA),
 gt f fun S hS => kN (aL rfl) (.func _ _ call67) (ev2 (aT hS rfl) (ev2 (aT hS rfl) evn)) rfl (BVs.refl _ _) (qM _ _ m) rfl,
 gt f fun S hS => mO (.ptc _) (kC (aL rfl) (aT hS rfl) hU),
 gt f fun S hS => cX (aL rfl) (aT hS rfl),
 gt f (zfc [.j c.Field.Places, .j c.Field.Wilds, .j c.Field.Guards, .j c.Field.Close, .j c.Field.Freeze] rfl fX),
 gt f (zfc [.j c.Field.Guards] rfl nF),
 gt f (zlc rfl aV),
 gt f (zcm rfl rfl rfl),
 gt c9 (zpf (.b (decide (k < c.Field.Guards))) f),
 go (zpt (.b (decide (k < c.Field.Guards))) c9), trivial⟩
     · exact bP (aP rfl (aR trivial))
   ·obtain rfl := sIn h8;refine ⟨[(12, 0, .bp b1 0 5), (13, 1, .b (Z63 e c)), (14, 2, .b (Z63 e c)), (15, 3, .d (Z27 j)), (16, 4, .i e), (17, 5, .b r5), (18, 6, .b (!r5)), (19, 7, .b (!r5)), (20, 8, .b (!r5)), (21, 9, .tup []), (22, 10, .tup []), (23, 11, .tup []), (24, 12, .tup []), (25, 13, .tup []), (26, 14, .tup []), (27, 15, .tup []), (28, 16, .tup []), (29, 17, .tup []), (30, 18, .tup []), (31, 19, .tup []), (32, 20, .tup []), (33, 21, .tup []), (34, 22, .tup []), (35, 23, .b false)], ?_, ?_⟩
    · exact dk [0, 1, 2, 3, 3, 30405, 306, 307, 8, 9, 910, 911, 912, 13, 13, 131415, 13, 1317, 1318, 1319, 1320, 131621, 91322, 923] ⟨go (zf rfl uB),
 go (zl 0 rfl rfl rfl dI),
 go (zm (.b (Z63 e c))),
 gt c4 (zlc rfl cA),
 gt c4 (zm (.i e)),
 gt c4 fun S hS => kN (aL rfl) (.func _ _ call53) (ev2 (aT hS rfl) (ev2 (aT hS rfl) evn)) rfl (BVs.refl _ _) (mD _ _ h6) rfl,
 gt c4 (zn rfl),
 go (zpt (.b (!r5)) c4),
 go (zm (.b (!r5))),
 gp c9,
 gp c9,
 gp c9,
 gp c9,
 gq,
 gq,
 gq,
 gq,
 gq,
 gq,
 gq,
 gq,
 gq,
 gp c9,
 go (zpf Z21 c9), trivial⟩
    · exact bP (aP rfl (aR trivial))
  ·obtain rfl := sIn h3;have c9 : false = false := rfl;have h8 := pW c9 h8;obtain rfl := sIn h8;refine ⟨[(12, 0, .bp b1 0 5), (13, 1, .b (Z63 e c)), (14, 2, .b (Z63 e c)), (15, 3, .tup []), (16, 4, .tup []), (17, 5, .tup []), (18, 6, .tup []), (19, 7, .b false), (20, 8, .b (false)), (21, 9, .tup []), (22, 10, .tup []), (23, 11, .tup []), (24, 12, .tup []), (25, 13, .tup []), (26, 14, .tup []), (27, 15, .tup []), (28, 16, .tup []), (29, 17, .tup []), (30, 18, .tup []), (31, 19, .tup []), (32, 20, .tup []), (33, 21, .tup []), (34, 22, .tup []), (35, 23, .b false)], ?_, ?_⟩
   · exact dk [0, 1, 2, 3, 3, 30405, 306, 307, 8, 9, 910, 911, 912, 13, 13, 131415, 13, 1317, 1318, 1319, 1320, 131621, 91322, 923] ⟨go (zf rfl uB),
 go (zl 0 rfl rfl rfl dI),
 go (zm (.b (Z63 e c))),
 gp c4,
 gp c4,
 gp c4,
 gp c4,
 go (zpf Z21 c4),
 go (zm Z74),
 gp c9,
 gp c9,
 gp c9,
 gp c9,
 gq,
 gq,
 gq,
 gq,
 gq,
 gq,
 gq,
 gq,
 gq,
 gp c9,
 go (zpf Z21 c9), trivial⟩
   · exact bP (aP rfl (aR trivial))
 ·refine ta (.b b7) (aE ?_);obtain rfl := sIn h;refine bL (bJ (bR (l := [4]) ⟨rfl, trivial⟩)) ?_;exact rt

theorem vU (a : aO) {r : aO} {g j : Nat} {b : Nat} {o : List Nat} {q : Nat} {c : Value} {t : Value} {s : Value} (h : kI a = some r) : dO Tryz.prog 81 [.bp g j 0] (Z13 g j a b c t s o q) (fun r' o' => ∃ (U : List Nat) (V : Nat) (w2 : Value) (w4 : Value) (w5 : Value), r' = .tup [] ∧ o' = [.box g j [.j r.Field.Places, .j r.Field.Wilds, .j r.Field.Guards, .j r.Field.Close, .j r.Field.Freeze, .lit (.map (some b)), .lit w2, .k r.frozen, .lit w4, .lit w5, .j r.more, .j r.entered], .map b (r.players.map fun p : Int × aA => (VI p.1, (fun v : aA => AV.agg (aG v)) p.2)) U V, .arr w2 3 1 (Z17 r), .arr w4 3 1 (Z16 r), .arr w5 3 1 (Z19 r)]) := by
 unfold kI at h;refine uO func81 rfl (rs := []) results81 ntmps81 (Nat.le_of_ble_eq_true rfl) ?_;refine aF (aC ?_);refine dC (aQb 0 rfl) ?_;refine bC rfl (dW (v := .d (qU g j 0)) (aL rfl) rfl rfl rfl) ?_;rintro _ ⟨b1, rfl⟩;refine aE (aF (aC (to (pT (aL rfl) rfl rfl) ?_)));refine ta (.fn 109 [.bp b1 0 0]) (aE (aF ?_));obtain ⟨r4, h5, h⟩ := bns h;obtain ⟨r7, h8, h⟩ := bns h;refine dU mix 17 [1] (fun X2 => [(7, .bp g j 0), (19, .d (.lit (X2 13).v))]) (fun X2 => [.box g j [.j a.Field.Places, .j a.Field.Wilds, .j a.Field.Guards, .j a.Field.Close, .j a.Field.Freeze, .lit (.map (some b)), .lit c, .k a.frozen, .lit (X2 7).v, .lit s, .j a.more, .j a.entered], .map b (a.players.map fun p : Int × aA => (VI p.1, (fun v : aA => AV.agg (aG v)) p.2)) o q, .arr c 3 1 (Z17 a), .arr (X2 7).v 3 1 (r4.map aH), .arr (X2 13).v 3 1 (r7.map aH), .box b1 0 [qU g j 0]]) ?_ ?_
 ·refine ⟨0, fun X2 => [(6, 0, .bp g j 0), (7, 1, .bp g j 0), (8, 2, .bp g j 0), (9, 3, .bp g j 0), (10, 4, .bp g j 8), (11, 5, .d (.lit t)), (12, 6, .fn 109 [.bp b1 0 0]), (13, 7, .d (.lit (X2 7).v)), (14, 8, .bp g j 0), (15, 9, .bp g j 0), (16, 10, .bp g j 9), (17, 11, .d (.lit s)), (18, 12, .fn 109 [.bp b1 0 0]), (19, 13, .d (.lit (X2 13).v)), (20, 14, .bp g j 0), (21, 15, .bp g j 8)], fun X2 => [([(16, .box g j [.j a.Field.Places, .j a.Field.Wilds, .j a.Field.Guards, .j a.Field.Close, .j a.Field.Freeze, .lit (.map (some b)), .lit c, .k a.frozen, .lit (X2 7).v, .lit s, .j a.more, .j a.entered])], .box g j [.j a.Field.Places, .j a.Field.Wilds, .j a.Field.Guards, .j a.Field.Close, .j a.Field.Freeze, .lit (.map (some b)), .lit c, .k a.frozen, .lit t, .lit s, .j a.more, .j a.entered]), ([], .map b (a.players.map fun p : Int × aA => (VI p.1, (fun v : aA => AV.agg (aG v)) p.2)) o q), ([], .arr c 3 1 (Z17 a)), ([(7, .arr (X2 7).v 3 1 (r4.map aH))], .arr t 3 1 (Z16 a)), ([(13, .arr (X2 13).v 3 1 (r7.map aH))], .arr s 3 1 (Z19 a)), ([], .box b1 0 [qU g j 0])], ?_, ?_⟩
  · exact xok [(0, 17), (0, 0), (0, 81417), (3, 81417), (4, 81417), (5, 81417), (0, 81417), (607, 1417), (0, 1417), (9, 1417), (10, 1417), (11, 1417), (0, 1417), (81213, 17), (10814, 17), (81415, 17), (81416, 0)] ⟨fun _ _ w _ k => xp w (lY (i := 5) (aL rfl) (aT k rfl) (og k rfl rfl) rfl hU),
 fun _ _ w _ k => xp w (lY (i := 5) (aL rfl) (aT k rfl) (og k rfl rfl) rfl hU),
 fun _ _ w _ k => xp w (lY (i := 5) (aL rfl) (aT k rfl) (og k rfl rfl) rfl hU),
 fun _ _ w _ k => xp w (bG (aL rfl) (aT k rfl)),
 fun _ _ w _ k => xp w (yf k rfl wP),
 fun _ _ w _ k => xp w (yl k 0 rfl (og k rfl rfl) rfl cA),
 fun _ _ w _ k => xp w (ym k (.fn 109 [.bp b1 0 0])),
 fun X2 S hw hi hS => eQ (X := X2) (p := 3) (v := fun x => .d (.lit x.v)) (mo := fun x => .arr x.v 3 1 (r4.map aH)) hS hi rfl rfl (fun _ => rfl) hw (fun _ => rfl) (fun _ => rfl) (fun _ => rfl) (fun _ => ⟨rfl, rfl, .inr rfl, ⟨rfl, rfl, .inr rfl, ⟨rfl, rfl, .inr rfl, ⟨rfl, rfl, .inr rfl, ⟨rfl, rfl, .inr rfl, ⟨rfl, rfl, .inr rfl, ⟨rfl, rfl, .inr rfl, ⟨rfl, rfl, .inl rfl, ⟨rfl, rfl, .inr rfl, ⟨rfl, rfl, .inr rfl, ⟨rfl, rfl, .inr rfl, ⟨rfl, rfl, .inr rfl, ⟨rfl, rfl, .inr rfl, ⟨rfl, rfl, .inr rfl, ⟨rfl, rfl, .inr rfl, ⟨rfl, rfl, .inr rfl, trivial⟩⟩⟩⟩⟩⟩⟩⟩⟩⟩⟩⟩⟩⟩⟩⟩) (fun _ => ⟨⟨rfl, .inl rfl, trivial⟩, rfl, ⟨trivial, rfl, ⟨trivial, rfl, ⟨⟨rfl, .inl rfl, trivial⟩, rfl, ⟨⟨rfl, .inr rfl, trivial⟩, rfl, ⟨trivial, rfl, trivial⟩⟩⟩⟩⟩⟩) (cS (aKp 3 (aL rfl) (og hS rfl rfl) (.func _ _ call64) (ev2 (aT hS rfl) (ev2 (aT hS rfl) evn)) rfl (.cons (.same _) (.cons (qS (.cons (dV 4 (er 5 rfl (og hS rfl rfl)) rfl (dvc (aEx 0 (er 0 rfl (og hS rfl rfl)) (dvc (.same _) (dvc (.same _) (dvc (.same _) (dvc (.same _) (dvc (.same _) (dvc (kF (kv := VI) (av := (fun v : aA => AV.agg (aG v))) (l := a.players) (enc := aG) (agg := true) 1 (er 1 rfl (og hS rfl rfl)) (fun h => by cases h) (fun _ => rfl)) (dvc (.same _) (dvc (.same _) (dvc (.same _) (dvc (.same _) (dvc (.same _) (dvc (.same _) dvn))))))))))))) dvn)) .nil)) .nil)) (eD a.first (fun y3 => fS y3 a.players) 109 (Z47 a c t s) call109 (fun _ _ h => tT _ _ h) h5) (kZ (fun _ => rfl) _) (kZ (fun _ => rfl) _)) (by rintro _ ⟨w, rfl⟩; exact ⟨⟨0, w⟩, Ent.refl _⟩)),
 fun _ _ w _ k => xp w (lY (i := 5) (aL rfl) (aT k rfl) (og k rfl rfl) rfl hU),
 fun _ _ w _ k => xp w (bG (aL rfl) (aT k rfl)),
 fun _ _ w _ k => xp w (yf k rfl tZ),
 fun _ _ w _ k => xp w (yl k 0 rfl (og k rfl rfl) rfl cA),
 fun _ _ w _ k => xp w (ym k (.fn 109 [.bp b1 0 0])),
 fun X2 S hw hi hS => eQ (X := X2) (p := 4) (v := fun x => .d (.lit x.v)) (mo := fun x => .arr x.v 3 1 (r7.map aH)) hS hi rfl rfl (fun _ => rfl) hw (fun _ => rfl) (fun _ => rfl) (fun _ => rfl) (fun _ => ⟨rfl, rfl, .inr rfl, ⟨rfl, rfl, .inr rfl, ⟨rfl, rfl, .inr rfl, ⟨rfl, rfl, .inr rfl, ⟨rfl, rfl, .inr rfl, ⟨rfl, rfl, .inr rfl, ⟨rfl, rfl, .inr rfl, ⟨rfl, rfl, .inr rfl, ⟨rfl, rfl, .inr rfl, ⟨rfl, rfl, .inr rfl, ⟨rfl, rfl, .inr rfl, ⟨rfl, rfl, .inr rfl, ⟨rfl, rfl, .inr rfl, ⟨rfl, rfl, .inl rfl, ⟨rfl, rfl, .inr rfl, ⟨rfl, rfl, .inr rfl, trivial⟩⟩⟩⟩⟩⟩⟩⟩⟩⟩⟩⟩⟩⟩⟩⟩) (fun _ => ⟨⟨rfl, .inr rfl, trivial⟩, rfl, ⟨trivial, rfl, ⟨trivial, rfl, ⟨⟨rfl, .inr rfl, trivial⟩, rfl, ⟨⟨rfl, .inl rfl, trivial⟩, rfl, ⟨trivial, rfl, trivial⟩⟩⟩⟩⟩⟩) (cS (aKp 4 (aL rfl) (og hS rfl rfl) (.func _ _ call64) (ev2 (aT hS rfl) (ev2 (aT hS rfl) evn)) rfl (.cons (.same _) (.cons (qS (.cons (dV 4 (er 5 rfl (og hS rfl rfl)) rfl (dvc (aEx 0 (er 0 rfl (og hS rfl rfl)) (dvc (.same _) (dvc (.same _) (dvc (.same _) (dvc (.same _) (dvc (.same _) (dvc (kF (kv := VI) (av := (fun v : aA => AV.agg (aG v))) (l := a.players) (enc := aG) (agg := true) 1 (er 1 rfl (og hS rfl rfl)) (fun h => by cases h) (fun _ => rfl)) (dvc (.same _) (dvc (.same _) (dvc (.same _) (dvc (.same _) (dvc (.same _) (dvc (.same _) dvn))))))))))))) dvn)) .nil)) .nil)) (eD a.late (fun y6 => fS y6 a.players) 109 (Z47 a c t s) call109 (fun _ _ h => tT _ _ h) h8) (kZ (fun _ => rfl) _) (kZ (fun _ => rfl) _)) (by rintro _ ⟨w, rfl⟩; exact ⟨⟨0, w⟩, Ent.refl _⟩)),
 fun _ _ w _ k => xp w (bG (aL rfl) (aT k rfl)),
 fun _ _ w _ k => xp w (yf k rfl wP),
 fun X2 _ _ _ k => xs 0 k rfl rfl (fN (i := 0) (aT k rfl) (og k rfl rfl) (aT k rfl) rfl rfl sizeOf25 rfl (aL rfl) (Nat.le_of_ble_eq_true rfl) (ds' := [.j a.Field.Places, .j a.Field.Wilds, .j a.Field.Guards, .j a.Field.Close, .j a.Field.Freeze, .lit (.map (some b)), .lit c, .k a.frozen, .lit (X2 7).v, .lit s, .j a.more, .j a.entered]) rfl), trivial⟩
  · exact fun X2 => bP (aP rfl (aP rfl (aR ⟨rfl, trivial⟩)))
 ·intro X2;refine to (bG (aL rfl) rfl) ?_;refine to (sf rfl tZ) (to (sst 0 rfl rfl sizeOf25 [.j a.Field.Places, .j a.Field.Wilds, .j a.Field.Guards, .j a.Field.Close, .j a.Field.Freeze, .lit (.map (some b)), .lit c, .k a.frozen, .lit (X2 7).v, .lit (X2 13).v, .j a.more, .j a.entered]) (aE (aF (aC (to (lY (i := 5) (aL rfl) rfl rfl rfl hU) ?_)))));obtain ⟨r9, W, h⟩ := bns h;refine bC rfl (sB (aL rfl) (.func _ _ call34) rfl rfl (.cons (dV 0 rfl rfl (dvc (.same _) (dvc (.same _) (dvc (.same _) (dvc (.same _) (dvc (.same _) (dvc (kF (kv := VI) (av := (fun v : aA => AV.agg (aG v))) (l := a.players) (enc := aG) (agg := true) 1 rfl (fun h => by cases h) (fun _ => rfl)) (dvc (bF 2 rfl (aX (f := aH) fun _ => rfl)) (dvc (.same _) (dvc (bF 3 rfl (aX (f := aH) fun _ => rfl)) (dvc (bF 4 rfl (aX (f := aH) fun _ => rfl)) (dvc (.same _) (dvc (.same _) dvn))))))))))))) .nil) (vD _ W) (kZ (fun _ => rfl) _)) ?_;rintro _ ⟨O, rfl⟩;refine bC rfl (dK (zs := [.lit (.slice none 0 0)]) (aL rfl) zeroValue25 rfl rfl) ?_;rintro _ ⟨Y, rfl⟩;refine to (sst 7 rfl rfl sizeOf25 [.lit O]) (aE (bI ?_));refine cF (S := Z62 × aY × Bool × Int × Int × Z62 × Value × Nat × Value) [1] (fun u => [(3, .bp u.2.2.2.2.2.2.2.1 0 0)]) (fun u => [.map b (a.players.map fun p : Int × aA => (VI p.1, (fun v : aA => AV.agg (aG v)) p.2)) o q, .arr c 3 1 (Z17 a), .arr (X2 7).v 3 1 (r4.map aH), .arr u.2.2.2.2.2.2.1 3 1 (u.1.map aH), .box g j [.j u.2.1.Places, .j u.2.1.Wilds, .j u.2.1.Guards, .j u.2.1.Close, .j u.2.1.Freeze, .lit (.map (some b)), .lit c, .k u.2.2.1, .lit (X2 7).v, .lit u.2.2.2.2.2.2.1, .j u.2.2.2.1, .j u.2.2.2.2.1], .box b1 0 [qU g j 0], .box u.2.2.2.2.2.2.2.1 0 [.lit u.2.2.2.2.2.2.2.2], .arr u.2.2.2.2.2.2.2.2 3 1 (u.2.2.2.2.2.1.map aH)]) (fun k u => iS a.players a.wilds r4 k u.1 u.2.1 u.2.2.1 u.2.2.2.1 u.2.2.2.2.1 u.2.2.2.2.2.1) (fun _ => rfl) (r7, a.Field, a.frozen, a.more, a.entered, r9, (X2 13).v, Y, O) h (aS [1, 2, 3, 4, 0, 5, 7, 6] rfl rfl (aP rfl (aR ⟨rfl, trivial⟩))) ?_;rintro a9 ⟨E, e, y, z, A, B, F, I, G⟩ h;simp only [iS] at h;refine aF (aF ?_);obtain ⟨P, Z, h⟩ := bns h;refine cG mix 4 [1, 3] [(27, .i (B.length : Int)), (29, .i P)] ?_ ?_
  ·refine ⟨[(26, 0, .d (.lit G)), (27, 1, .i (B.length : Int)), (28, 2, .bp g j 0), (29, 3, .i P)], ?_, ?_⟩
   · exact dk [0, 1, 0, 3] ⟨go (zl 6 rfl rfl rfl cA),
 go fun S hS => fC (m := 7) (aL rfl) (aT hS rfl) rfl bM.of,
 go fun S hS => lY (i := 5) (aL rfl) (aT hS rfl) rfl rfl hU,
 go fun S hS => kN (aL rfl) (.func _ _ call36) (ev2 (aT hS rfl) evn) rfl (.cons (dV 4 rfl rfl (dvc (.same _) (dvc (.same _) (dvc (.same _) (dvc (.same _) (dvc (.same _) (dvc (kF (kv := VI) (av := (fun v : aA => AV.agg (aG v))) (l := a.players) (enc := aG) (agg := true) 0 rfl (fun h => by cases h) (fun _ => rfl)) (dvc (bF 1 rfl (aX (f := aH) fun _ => rfl)) (dvc (.same _) (dvc (bF 2 rfl (aX (f := aH) fun _ => rfl)) (dvc (bF 3 rfl (aX (f := aH) fun _ => rfl)) (dvc (.same _) (dvc (.same _) dvn))))))))))))) .nil) (gW _ Z) rfl, trivial⟩
   · exact bP (aP rfl (aP rfl (aR ⟨rfl, rfl, trivial⟩)))
  ·refine to (scm rfl rfl rfl) (aE ?_);refine tih h (fun a0 h => ?_) (fun a0 h => ?_)
   ·refine bA (aF (bI (aF (aC (to (lY (i := 5) (aL rfl) rfl rfl rfl hU) ?_)))));obtain ⟨K, a1, h⟩ := bns h;refine bC rfl (sB (aL rfl) (.func _ _ call52) rfl rfl (.cons (dV 4 rfl rfl (dvc (.same _) (dvc (.same _) (dvc (.same _) (dvc (.same _) (dvc (.same _) (dvc (kF (kv := VI) (av := (fun v : aA => AV.agg (aG v))) (l := a.players) (enc := aG) (agg := true) 0 rfl (fun h => by cases h) (fun _ => rfl)) (dvc (bF 1 rfl (aX (f := aH) fun _ => rfl)) (dvc (.same _) (dvc (bF 2 rfl (aX (f := aH) fun _ => rfl)) (dvc (bF 3 rfl (aX (f := aH) fun _ => rfl)) (dvc (.same _) (dvc (.same _) dvn))))))))))))) .nil) (jZ _ a1) (kZ (fun _ => rfl) _)) ?_;rintro _ ⟨L, rfl⟩;refine to (pT (aL rfl) rfl rfl) ?_;obtain ⟨H, a2, h⟩ := bns h;refine to (sc call90 (sC _ _ 110 [.cp [.pt [.j e.Places, .j e.Wilds, .j e.Guards, .j e.Close, .j e.Freeze, .mp true (a.players.map fun p : Int × aA => (VI p.1, aG p.2)), .sl 1 (Z17 a), .k y, .sl 1 (r4.map aH), .sl 1 (E.map aH), .j z, .j A]], .cp [.sl 1 (B.map aH)]] call110 (fun _ _ h => aAf _ (aO.mk e a.players a.wilds y r4 E z A) _ h) a2) (.cons (.d (bF 8 rfl (aX (f := aH) fun _ => rfl))) (.cons (qS (.cons (dV 5 rfl rfl (dvc (aEx 4 rfl (dvc (.same _) (dvc (.same _) (dvc (.same _) (dvc (.same _) (dvc (.same _) (dvc (kF (kv := VI) (av := (fun v : aA => AV.agg (aG v))) (l := a.players) (enc := aG) (agg := true) 0 rfl (fun h => by cases h) (fun _ => rfl)) (dvc (bF 1 rfl (aX (f := aH) fun _ => rfl)) (dvc (.same _) (dvc (bF 2 rfl (aX (f := aH) fun _ => rfl)) (dvc (bF 3 rfl (aX (f := aH) fun _ => rfl)) (dvc (.same _) (dvc (.same _) dvn))))))))))))) dvn)) (.cons (dV 6 rfl rfl (dvc (bF 7 rfl (aX (f := aH) fun _ => rfl)) dvn)) .nil))) .nil))) (ta (.i H) (aE (aF (aF (aC (tm (.i H) (to (scm rfl rfl rfl) (aE ?_))))))));refine tih h (fun a3 h => ?_) (fun a3 h => ?_)
    ·obtain rfl := sIn h;refine bL (aS [4, 0, 1, 2, 3, 5, 6, 7, 8] rfl rfl (le_refl _)) ?_;exact bS ⟨rfl, _, [.box g j [.j e.Places, .j e.Wilds, .j e.Guards, .j e.Close, .j e.Freeze, .lit (.map (some b)), .lit c, .k y, .lit (X2 7).v, .lit F, .j z, .j A], .map b (a.players.map fun p : Int × aA => (VI p.1, (fun v : aA => AV.agg (aG v)) p.2)) o q, .arr c 3 1 (Z17 a), .arr (X2 7).v 3 1 (r4.map aH), .arr F 3 1 (E.map aH)], [.box b1 0 [qU g j 0], .box I 0 [.lit G], .arr G 3 1 (B.map aH), .arr L 3 1 (K.map aH)], _, .none, .refl _, .same _, o, q, c, (X2 7).v, F, rfl, rfl⟩
    ·refine bA ?_;obtain ⟨M, a4, h⟩ := bns h;obtain ⟨N, Q, h⟩ := bns h;obtain ⟨J, a5, h⟩ := bns h;refine dU mix 12 [1, 3] (fun C => [(39, .bp g j 0), (50, .d (.lit (C 11).v))]) (fun C => [.map b (a.players.map fun p : Int × aA => (VI p.1, (fun v : aA => AV.agg (aG v)) p.2)) o q, .arr c 3 1 (Z17 a), .arr (X2 7).v 3 1 (r4.map aH), .arr (C 11).v 3 1 (J.map aH), .box g j [.j e.Places, .j e.Wilds, .j e.Guards, .j e.Close, .j e.Freeze, .lit (.map (some b)), .lit c, .k y, .lit (X2 7).v, .lit F, .j z, .j A], .box b1 0 [qU g j 0], .box I 0 [.lit G], .arr G 3 1 (B.map aH), .arr L 3 1 (K.map aH), .arr (C 6).v 3 1 (M.map aH)]) ?_ ?_
     ·refine ⟨1, fun C => [(39, 0, .bp g j 0), (40, 1, .bp g j 0), (41, 2, .bp g j 0), (42, 3, .bp g j 9), (43, 4, .d (.lit F)), (44, 5, .bp g j 0), (45, 6, .d (.lit (C 6).v)), (46, 7, .i H), (47, 8, .ep (C 6).v 1 H.toNat 0), (48, 9, .i N), (49, 10, .d (.sl 1 (([N]).map aH))), (50, 11, .d (.lit (C 11).v))], fun C => [([], .map b (a.players.map fun p : Int × aA => (VI p.1, (fun v : aA => AV.agg (aG v)) p.2)) o q), ([], .arr c 3 1 (Z17 a)), ([], .arr (X2 7).v 3 1 (r4.map aH)), ([(11, .arr (C 11).v 3 1 (J.map aH))], .arr F 3 1 (E.map aH)), ([], .box g j [.j e.Places, .j e.Wilds, .j e.Guards, .j e.Close, .j e.Freeze, .lit (.map (some b)), .lit c, .k y, .lit (X2 7).v, .lit F, .j z, .j A]), ([], .box b1 0 [qU g j 0]), ([], .box I 0 [.lit G]), ([], .arr G 3 1 (B.map aH)), ([], .arr L 3 1 (K.map aH)), ([(6, .arr (C 6).v 3 1 (M.map aH))], nob)], ?_, ?_⟩
      · exact xok [(0, 0), (0, 12), (2, 12), (3, 12), (4, 12), (0, 712), (6, 912), (0, 12), (708, 12), (709, 12), (710, 12), (50711, 0)] ⟨fun _ _ w _ k => xp w (lY (i := 5) (aL rfl) (aT k rfl) (og k rfl rfl) rfl hU),
 fun _ _ w _ k => xp w (lY (i := 5) (aL rfl) (aT k rfl) (og k rfl rfl) rfl hU),
 fun _ _ w _ k => xp w (bG (aL rfl) (aT k rfl)),
 fun _ _ w _ k => xp w (yf k rfl tZ),
 fun _ _ w _ k => xp w (yl k 4 rfl (og k rfl rfl) rfl cA),
 fun _ _ w _ k => xp w (lY (i := 5) (aL rfl) (aT k rfl) (og k rfl rfl) rfl hU),
 fun C S hw hi hS => eQ (X := C) (p := 9) (v := fun x => .d (.lit x.v)) (mo := fun x => .arr x.v 3 1 (M.map aH)) hS hi rfl rfl (fun _ => rfl) hw (fun _ => rfl) (fun _ => rfl) (fun _ => rfl) (fun _ => ⟨rfl, rfl, .inr rfl, ⟨rfl, rfl, .inr rfl, ⟨rfl, rfl, .inr rfl, ⟨rfl, rfl, .inr rfl, ⟨rfl, rfl, .inr rfl, ⟨rfl, rfl, .inr rfl, ⟨rfl, rfl, .inl rfl, ⟨rfl, rfl, .inr rfl, ⟨rfl, rfl, .inl rfl, ⟨rfl, rfl, .inr rfl, ⟨rfl, rfl, .inr rfl, ⟨rfl, rfl, .inr rfl, trivial⟩⟩⟩⟩⟩⟩⟩⟩⟩⟩⟩⟩) (fun _ => ⟨trivial, rfl, ⟨trivial, rfl, ⟨trivial, rfl, ⟨⟨rfl, .inr rfl, trivial⟩, rfl, ⟨trivial, rfl, ⟨trivial, rfl, ⟨trivial, rfl, ⟨trivial, rfl, ⟨trivial, rfl, ⟨⟨rfl, .inl rfl, trivial⟩, rfl, trivial⟩⟩⟩⟩⟩⟩⟩⟩⟩⟩) (cS (sB (aL rfl) (.func _ _ call52) (ev2 (aT hS rfl) evn) rfl (.cons (dV 4 (og hS rfl rfl) rfl (dvc (.same _) (dvc (.same _) (dvc (.same _) (dvc (.same _) (dvc (.same _) (dvc (kF (kv := VI) (av := (fun v : aA => AV.agg (aG v))) (l := a.players) (enc := aG) (agg := true) 0 (og hS rfl rfl) (fun h => by cases h) (fun _ => rfl)) (dvc (bF 1 (og hS rfl rfl) (aX (f := aH) fun _ => rfl)) (dvc (.same _) (dvc (bF 2 (og hS rfl rfl) (aX (f := aH) fun _ => rfl)) (dvc (bF 3 (og hS rfl rfl) (aX (f := aH) fun _ => rfl)) (dvc (.same _) (dvc (.same _) dvn))))))))))))) .nil) (jZ _ a4) (kZ (fun _ => rfl) _)) (by rintro _ ⟨w, rfl⟩; exact ⟨⟨0, w⟩, aS [0, 1, 2, 3, 4, 5, 6, 7, 8, 10] rfl rfl (le_refl _)⟩)),
 fun _ _ w _ k => xp w (ym k (.i H)),
 fun _ _ w _ k => xp w (yia k 9 rfl (og k rfl rfl) rfl bM.of (bB aH Q)),
 fun _ _ w _ k => xp w (jH (aL rfl) (aT k rfl) (m := 9) (og k rfl rfl) (dL aH Q) rfl aV),
 fun _ _ w _ k => xp w (dG (aL rfl) bM rfl (pa2 (aT k rfl) pan) (rows := ([N]).map aH) rfl (aX (f := aH) fun _ => rfl) rfl (by decide)),
 fun C S hw hi hS => eQ (X := C) (p := 3) (v := fun x => .d (.lit x.v)) (mo := fun x => .arr x.v 3 1 (J.map aH)) hS hi rfl rfl (fun _ => rfl) hw (fun _ => rfl) (fun _ => rfl) (fun _ => rfl) (fun _ => ⟨rfl, rfl, .inr rfl, ⟨rfl, rfl, .inr rfl, ⟨rfl, rfl, .inr rfl, ⟨rfl, rfl, .inr rfl, ⟨rfl, rfl, .inr rfl, ⟨rfl, rfl, .inr rfl, ⟨rfl, rfl, .inr rfl, ⟨rfl, rfl, .inr rfl, ⟨rfl, rfl, .inr rfl, ⟨rfl, rfl, .inr rfl, ⟨rfl, rfl, .inr rfl, ⟨rfl, rfl, .inl rfl, trivial⟩⟩⟩⟩⟩⟩⟩⟩⟩⟩⟩⟩) (fun _ => ⟨trivial, rfl, ⟨trivial, rfl, ⟨trivial, rfl, ⟨⟨rfl, .inl rfl, trivial⟩, rfl, ⟨trivial, rfl, ⟨trivial, rfl, ⟨trivial, rfl, ⟨trivial, rfl, ⟨trivial, rfl, ⟨⟨rfl, .inr rfl, trivial⟩, rfl, trivial⟩⟩⟩⟩⟩⟩⟩⟩⟩⟩) (cS (cL (i := 3) (aL rfl) bM (aT hS rfl) (og hS rfl rfl) (aT hS rfl) (fun _ => rfl) a5 rfl) (by rintro _ ⟨w, rfl⟩; exact ⟨⟨0, w⟩, Ent.refl _⟩)), trivial⟩
      · exact fun C => bP (aP rfl (aP rfl (aR ⟨rfl, rfl, trivial⟩)))
     ·intro C;refine to (bG (aL rfl) rfl) ?_;refine to (sf rfl tZ) (to (sst 4 rfl rfl sizeOf25 [.j e.Places, .j e.Wilds, .j e.Guards, .j e.Close, .j e.Freeze, .lit (.map (some b)), .lit c, .k y, .lit (X2 7).v, .lit (C 11).v, .j z, .j A]) ?_);refine cB ?_;refine aF (aF (aC (to (sl 6 rfl rfl rfl cA) (aE (aC ?_)))));refine bC rfl (dK (zs := [.lit (.slice none 0 0)]) (aL rfl) zeroValue25 rfl rfl) ?_;rintro _ ⟨a6, rfl⟩;refine to (sst 10 rfl rfl sizeOf25 [.lit G]) (aE (aC (to (lY (i := 5) (aL rfl) rfl rfl rfl hU) ?_)));obtain ⟨a7, a8, h⟩ := bns h;refine bC rfl (sB (aL rfl) (.func _ _ call34) rfl rfl (.cons (dV 4 rfl rfl (dvc (.same _) (dvc (.same _) (dvc (.same _) (dvc (.same _) (dvc (.same _) (dvc (kF (kv := VI) (av := (fun v : aA => AV.agg (aG v))) (l := a.players) (enc := aG) (agg := true) 0 rfl (fun h => by cases h) (fun _ => rfl)) (dvc (bF 1 rfl (aX (f := aH) fun _ => rfl)) (dvc (.same _) (dvc (bF 2 rfl (aX (f := aH) fun _ => rfl)) (dvc (bF 3 rfl (aX (f := aH) fun _ => rfl)) (dvc (.same _) (dvc (.same _) dvn))))))))))))) .nil) (vD _ a8) (kZ (fun _ => rfl) _)) ?_;rintro _ ⟨T, rfl⟩;refine to (sst 10 rfl rfl sizeOf25 [.lit T]) (aE ?_);exact ⟨(J, e, y, z, A, a7, (C 11).v, a6, T), h, aS [0, 1, 2, 3, 4, 5, 10, 11] rfl rfl (aP rfl (aR ⟨rfl, trivial⟩))⟩
   ·refine bZ ?_;refine .inl ⟨rfl, ?_⟩;simp only [oE] at h;obtain rfl := sIn h;exact ⟨_, [.box g j [.j e.Places, .j e.Wilds, .j e.Guards, .j e.Close, .j e.Freeze, .lit (.map (some b)), .lit c, .k y, .lit (X2 7).v, .lit F, .j z, .j A], .map b (a.players.map fun p : Int × aA => (VI p.1, (fun v : aA => AV.agg (aG v)) p.2)) o q, .arr c 3 1 (Z17 a), .arr (X2 7).v 3 1 (r4.map aH), .arr F 3 1 (E.map aH)], [.box b1 0 [qU g j 0], .box I 0 [.lit G], .arr G 3 1 (B.map aH)], _, .none, (dJ (i := 4) rfl).trans (.cons _ ((dJ (i := 0) rfl).trans (.cons _ ((dJ (i := 0) rfl).trans (.cons _ ((dJ (i := 0) rfl).trans (.cons _ ((dJ (i := 0) rfl).trans (.cons _ ((dJ (i := 0) rfl).trans (.cons _ ((dJ (i := 0) rfl).trans (.cons _ ((dJ (i := 0) rfl).trans (.cons _ (.refl _)))))))))))))))), .same _, o, q, c, (X2 7).v, F, rfl, rfl⟩

theorem zX (x : aY) (G : List aM) (A : Int) {r : (Option aO)} (h : pY x G A = some r) : Fn Tryz.prog 50 [.agg (aQ x), .d (Z15 G), .i A] (kM bD r) := by
 unfold pY at h;refine oT [.tmp 6] func50 results50 ntmps50 ?_;refine aF (aC ?_);refine bC rfl (dW (v := .agg (aQ x)) (aL rfl) rfl rfl rfl) ?_;rintro _ ⟨b1, rfl⟩;refine ta Z64 (aE (aF (aC (to (sla 0 (aQ x) rfl rfl fF) ?_))));refine bC rfl (aBf (aL rfl)) ?_;rintro _ ⟨r2, rfl⟩;refine to (pZ (aL rfl) aRv (zs := [.j 0, .j 0, .j 0, .j 0, .j 0, .lit (.map none), .lit (.slice none 0 0), .k false, .lit (.slice none 0 0), .lit (.slice none 0 0), .j 0, .j 0]) rfl rfl rfl rfl (es := [.j x.Places, .j x.Wilds, .j x.Guards, .j x.Close, .j x.Freeze, .lit (.map (some r2)), .lit (.slice none 0 0), .k false, .lit (.slice none 0 0), .lit (.slice none 0 0), .j 0, .j 0]) rfl) ?_;refine bC rfl (dW (v := .agg [.j x.Places, .j x.Wilds, .j x.Guards, .j x.Close, .j x.Freeze, .lit (.map (some r2)), .lit (.slice none 0 0), .k false, .lit (.slice none 0 0), .lit (.slice none 0 0), .j 0, .j 0]) (aL rfl) rfl rfl rfl) ?_;rintro _ ⟨b3, rfl⟩;refine dC (pD 3 1) ?_;refine dC (pD 3 1) ?_;refine dC (pD 3 1) ?_;refine ta (.bp b3 0 0) (aE (aF (aC (tm (Z45 G) ?_))));obtain ⟨x4, h5, h⟩ := bns h;refine to (cM (aL rfl) (.func _ _ call75) rfl rfl (vT _ h5)) ?_;obtain ⟨r8, h9, h⟩ := bns h;refine bC rfl (kO (aL rfl) (.func _ _ call74) rfl rfl (sX _ _ 76 [] call76 (fun _ _ _ h => aDo _ _ h) h9)) ?_;rintro _ ⟨O, rfl⟩;refine ta (.d (.lit O)) (aE (aF (aF (aC (tm (.d (.lit O)) ?_)))));obtain ⟨M, c4, h⟩ := bns h;refine dC (aS [6, 0, 1, 2, 3, 4, 5] rfl rfl (le_refl _)) ?_;refine bC rfl (iX (passed := [.arr O 32 5 (r8.map aI)]) (aL rfl) rfl (.func _ _ call78) rfl rfl (vM r8 c4)) ?_;rintro _ ⟨_, _, ⟨N, rfl, rfl⟩, rfl⟩;refine to (fC (m := 0) (aL rfl) rfl rfl cO.of) ?_;refine tm (.i 0) (aE (bI ?_));refine cF (S := Int × (List (Int × aA)) × Z62 × Z62 × Z62 × aY × Bool × Int × Int × (List Nat) × Nat × Value × Value × Value) [2, 3, 7, 19, 20] (fun u => [(21, .i u.1)]) (fun u => [.box b1 0 (aQ x), .map r2 (u.2.1.map fun p : Int × aA => (VI p.1, (fun v : aA => AV.agg (aG v)) p.2)) u.2.2.2.2.2.2.2.2.2.1 u.2.2.2.2.2.2.2.2.2.2.1, .arr u.2.2.2.2.2.2.2.2.2.2.2.1 3 1 (u.2.2.1.map aH), .arr u.2.2.2.2.2.2.2.2.2.2.2.2.1 3 1 (u.2.2.2.1.map aH), .arr u.2.2.2.2.2.2.2.2.2.2.2.2.2 3 1 (u.2.2.2.2.1.map aH), .box b3 0 [.j u.2.2.2.2.2.1.Places, .j u.2.2.2.2.2.1.Wilds, .j u.2.2.2.2.2.1.Guards, .j u.2.2.2.2.2.1.Close, .j u.2.2.2.2.2.1.Freeze, .lit (.map (some r2)), .lit u.2.2.2.2.2.2.2.2.2.2.2.1, .k u.2.2.2.2.2.2.1, .lit u.2.2.2.2.2.2.2.2.2.2.2.2.1, .lit u.2.2.2.2.2.2.2.2.2.2.2.2.2, .j u.2.2.2.2.2.2.2.1, .j u.2.2.2.2.2.2.2.2.1], .arr N 32 5 (M.map aI)]) (fun k u => gA A (M.length : Int) x M k u.1 u.2.1 u.2.2.1 u.2.2.2.1 u.2.2.2.2.1 u.2.2.2.2.2.1 u.2.2.2.2.2.2.1 u.2.2.2.2.2.2.2.1 u.2.2.2.2.2.2.2.2.1) (fun _ => rfl) (0, ([] : List (Int × aA)), ([] : List Int), ([] : List Int), ([] : List Int), x, false, 0, 0, [], 0, (.slice none 0 0), (.slice none 0 0), (.slice none 0 0)) h (aS [1, 2, 4, 5, 6, 3, 0] rfl rfl (aP rfl (aR ⟨rfl, rfl, rfl, rfl, rfl, trivial⟩))) ?_;rintro e5 ⟨w, e, t, g, j, a, o, q, s, H, I, C, E, F⟩ h;simp only [gA] at h;refine aF (aC (to (scm rfl rfl rfl) (aE (aF ?_))));refine tih h (fun c5 h => ?_) (fun c5 h => ?_)
 ·refine bA (aF (bI (aF (aC ?_))));obtain ⟨J, a1, h⟩ := bns h;refine to (cP (m := 6) (aL rfl) rfl rfl rfl cO.of (bB aI a1)) ?_;refine to (kP (aL rfl) rfl (l := 6) rfl (dL aI a1) fU (es := (aI J)) rfl rfl) ?_;refine bC rfl (dK (zs := [.j 0, .j 0, .j 0, .j 0, .j 0]) (aL rfl) zeroValue32 rfl rfl) ?_;rintro _ ⟨a2, rfl⟩;refine to (sst 7 rfl rfl sizeOf32 (aI J)) (aE (aF (aF (aC (tfl 7 rfl rfl cK rfl aV (tm (.i A) (to (scm rfl rfl rfl) (aE ?_))))))));refine tih h (fun c6 h => ?_) (fun c6 h => ?_)
  ·refine bZ ?_;refine .inr ⟨by decide, ?_⟩;refine .inl ⟨rfl, ?_⟩;simp only [mY] at h;refine aF (aF (aC (tm (.i A) (tfl 0 rfl rfl fB rfl aV (to (scm rfl rfl rfl) (aE ?_))))));refine tih h (fun c7 h => ?_) (fun c7 h => ?_)
   ·refine aC (tm (.bp b3 0 0) ?_);obtain ⟨b, c8, h⟩ := bns h;refine dC (aS [5, 1, 2, 3, 4, 0, 6, 7] rfl rfl (le_refl _)) ?_;refine bC rfl (iX (passed := [.box b3 0 [.j a.Places, .j a.Wilds, .j a.Guards, .j a.Close, .j a.Freeze, .lit (.map (some r2)), .lit C, .k o, .lit E, .lit F, .j q, .j s], .map r2 (e.map fun p : Int × aA => (VI p.1, (fun v : aA => AV.agg (aG v)) p.2)) H I, .arr C 3 1 (t.map aH), .arr E 3 1 (g.map aH), .arr F 3 1 (j.map aH)]) (aL rfl) rfl (.func _ _ call79) rfl rfl (qL (aO.mk a e t o g j q s) c8)) ?_;rintro _ ⟨_, _, ⟨b4, b5, a3, a4, a5, rfl, rfl⟩, rfl⟩;refine aE (aF (aC (tm (.bp b3 0 0) (ta (.bp b3 0 0) (aE ?_)))));refine bL (aS [5, 6, 7, 0, 1, 2, 3, 4] rfl rfl (le_refl _)) ?_;apply aBm [.box b1 0 (aQ x), .arr N 32 5 (M.map aI), .box a2 0 (aI J)] [.box b3 0 [.j b.Field.Places, .j b.Field.Wilds, .j b.Field.Guards, .j b.Field.Close, .j b.Field.Freeze, .lit (.map (some r2)), .lit a3, .k b.frozen, .lit a4, .lit a5, .j b.more, .j b.entered], .map r2 (b.players.map fun p : Int × aA => (VI p.1, (fun v : aA => AV.agg (aG v)) p.2)) b4 b5, .arr a3 3 1 (b.wilds.map aH), .arr a4 3 1 (b.first.map aH), .arr a5 3 1 (b.late.map aH)] rfl;exact cW (k := 52) (v := .cp [.j b.Field.Places, .j b.Field.Wilds, .j b.Field.Guards, .j b.Field.Close, .j b.Field.Freeze, .mp true (b.players.map fun p : Int × aA => (VI p.1, aG p.2)), .sl 1 (b.wilds.map aH), .k b.frozen, .sl 1 (b.first.map aH), .sl 1 (b.late.map aH), .j b.more, .j b.entered]) (dV 0 rfl rfl (dvc (.same _) (dvc (.same _) (dvc (.same _) (dvc (.same _) (dvc (.same _) (dvc (kF (kv := VI) (av := (fun v : aA => AV.agg (aG v))) (l := b.players) (enc := aG) (agg := true) 1 rfl (fun h => by cases h) (fun _ => rfl)) (dvc (bF 2 rfl (aX (f := aH) fun _ => rfl)) (dvc (.same _) (dvc (bF 3 rfl (aX (f := aH) fun _ => rfl)) (dvc (bF 4 rfl (aX (f := aH) fun _ => rfl)) (dvc (.same _) (dvc (.same _) dvn))))))))))))) (cW (k := 50) (v := .cp [.j b.Field.Places, .j b.Field.Wilds, .j b.Field.Guards, .j b.Field.Close, .j b.Field.Freeze, .mp true (b.players.map fun p : Int × aA => (VI p.1, aG p.2)), .sl 1 (b.wilds.map aH), .k b.frozen, .sl 1 (b.first.map aH), .sl 1 (b.late.map aH), .j b.more, .j b.entered]) (dV 0 rfl rfl (dvc (.same _) (dvc (.same _) (dvc (.same _) (dvc (.same _) (dvc (.same _) (dvc (kF (kv := VI) (av := (fun v : aA => AV.agg (aG v))) (l := b.players) (enc := aG) (agg := true) 1 rfl (fun h => by cases h) (fun _ => rfl)) (dvc (bF 2 rfl (aX (f := aH) fun _ => rfl)) (dvc (.same _) (dvc (bF 3 rfl (aX (f := aH) fun _ => rfl)) (dvc (bF 4 rfl (aX (f := aH) fun _ => rfl)) (dvc (.same _) (dvc (.same _) dvn))))))))))))) (cW (k := 7) (v := .cp [.j b.Field.Places, .j b.Field.Wilds, .j b.Field.Guards, .j b.Field.Close, .j b.Field.Freeze, .mp true (b.players.map fun p : Int × aA => (VI p.1, aG p.2)), .sl 1 (b.wilds.map aH), .k b.frozen, .sl 1 (b.first.map aH), .sl 1 (b.late.map aH), .j b.more, .j b.entered]) (dV 0 rfl rfl (dvc (.same _) (dvc (.same _) (dvc (.same _) (dvc (.same _) (dvc (.same _) (dvc (kF (kv := VI) (av := (fun v : aA => AV.agg (aG v))) (l := b.players) (enc := aG) (agg := true) 1 rfl (fun h => by cases h) (fun _ => rfl)) (dvc (bF 2 rfl (aX (f := aH) fun _ => rfl)) (dvc (.same _) (dvc (bF 3 rfl (aX (f := aH) fun _ => rfl)) (dvc (bF 4 rfl (aX (f := aH) fun _ => rfl)) (dvc (.same _) (dvc (.same _) dvn))))))))))))) (cW (k := 6) (v := .cp [.j b.Field.Places, .j b.Field.Wilds, .j b.Field.Guards, .j b.Field.Close, .j b.Field.Freeze, .mp true (b.players.map fun p : Int × aA => (VI p.1, aG p.2)), .sl 1 (b.wilds.map aH), .k b.frozen, .sl 1 (b.first.map aH), .sl 1 (b.late.map aH), .j b.more, .j b.entered]) (dV 0 rfl rfl (dvc (.same _) (dvc (.same _) (dvc (.same _) (dvc (.same _) (dvc (.same _) (dvc (kF (kv := VI) (av := (fun v : aA => AV.agg (aG v))) (l := b.players) (enc := aG) (agg := true) 1 rfl (fun h => by cases h) (fun _ => rfl)) (dvc (bF 2 rfl (aX (f := aH) fun _ => rfl)) (dvc (.same _) (dvc (bF 3 rfl (aX (f := aH) fun _ => rfl)) (dvc (bF 4 rfl (aX (f := aH) fun _ => rfl)) (dvc (.same _) (dvc (.same _) dvn))))))))))))) (fH _ _))));obtain rfl := sIn h;refine bL (bJ (bR (l := [6]) ⟨rfl, trivial⟩)) ?_;exact rt
   ·refine bA (aF (aC (tm (.bp b3 0 0) (ta (.bp b3 0 0) (aE ?_)))));refine bL (aS [0, 6, 7, 1, 2, 3, 4, 5] rfl rfl (le_refl _)) ?_;apply aBm [.box b1 0 (aQ x), .arr N 32 5 (M.map aI), .box a2 0 (aI J)] [.map r2 (e.map fun p : Int × aA => (VI p.1, (fun v : aA => AV.agg (aG v)) p.2)) H I, .arr C 3 1 (t.map aH), .arr E 3 1 (g.map aH), .arr F 3 1 (j.map aH), .box b3 0 [.j a.Places, .j a.Wilds, .j a.Guards, .j a.Close, .j a.Freeze, .lit (.map (some r2)), .lit C, .k o, .lit E, .lit F, .j q, .j s]] rfl;exact cW (k := 52) (v := .cp [.j a.Places, .j a.Wilds, .j a.Guards, .j a.Close, .j a.Freeze, .mp true (e.map fun p : Int × aA => (VI p.1, aG p.2)), .sl 1 (t.map aH), .k o, .sl 1 (g.map aH), .sl 1 (j.map aH), .j q, .j s]) (dV 4 rfl rfl (dvc (.same _) (dvc (.same _) (dvc (.same _) (dvc (.same _) (dvc (.same _) (dvc (kF (kv := VI) (av := (fun v : aA => AV.agg (aG v))) (l := e) (enc := aG) (agg := true) 0 rfl (fun h => by cases h) (fun _ => rfl)) (dvc (bF 1 rfl (aX (f := aH) fun _ => rfl)) (dvc (.same _) (dvc (bF 2 rfl (aX (f := aH) fun _ => rfl)) (dvc (bF 3 rfl (aX (f := aH) fun _ => rfl)) (dvc (.same _) (dvc (.same _) dvn))))))))))))) (cW (k := 7) (v := .cp [.j a.Places, .j a.Wilds, .j a.Guards, .j a.Close, .j a.Freeze, .mp true (e.map fun p : Int × aA => (VI p.1, aG p.2)), .sl 1 (t.map aH), .k o, .sl 1 (g.map aH), .sl 1 (j.map aH), .j q, .j s]) (dV 4 rfl rfl (dvc (.same _) (dvc (.same _) (dvc (.same _) (dvc (.same _) (dvc (.same _) (dvc (kF (kv := VI) (av := (fun v : aA => AV.agg (aG v))) (l := e) (enc := aG) (agg := true) 0 rfl (fun h => by cases h) (fun _ => rfl)) (dvc (bF 1 rfl (aX (f := aH) fun _ => rfl)) (dvc (.same _) (dvc (bF 2 rfl (aX (f := aH) fun _ => rfl)) (dvc (bF 3 rfl (aX (f := aH) fun _ => rfl)) (dvc (.same _) (dvc (.same _) dvn))))))))))))) (cW (k := 6) (v := .cp [.j a.Places, .j a.Wilds, .j a.Guards, .j a.Close, .j a.Freeze, .mp true (e.map fun p : Int × aA => (VI p.1, aG p.2)), .sl 1 (t.map aH), .k o, .sl 1 (g.map aH), .sl 1 (j.map aH), .j q, .j s]) (dV 4 rfl rfl (dvc (.same _) (dvc (.same _) (dvc (.same _) (dvc (.same _) (dvc (.same _) (dvc (kF (kv := VI) (av := (fun v : aA => AV.agg (aG v))) (l := e) (enc := aG) (agg := true) 0 rfl (fun h => by cases h) (fun _ => rfl)) (dvc (bF 1 rfl (aX (f := aH) fun _ => rfl)) (dvc (.same _) (dvc (bF 2 rfl (aX (f := aH) fun _ => rfl)) (dvc (bF 3 rfl (aX (f := aH) fun _ => rfl)) (dvc (.same _) (dvc (.same _) dvn))))))))))))) (fH _ _)));obtain rfl := sIn h;refine bL (bJ (bR (l := [6]) ⟨rfl, trivial⟩)) ?_;exact rt
  ·refine bA (aF (aF (aC (tfl 7 rfl rfl cK rfl aV (tfl 0 rfl rfl fB rfl aV (to (scm rfl rfl rfl) (aE ?_)))))));refine tih h (fun c9 h => ?_) (fun c9 h => ?_)
   ·refine aC (tm (.bp b3 0 0) ?_);obtain ⟨B, d0, h⟩ := bns h;refine dC (aS [5, 1, 2, 3, 4, 0, 6, 7] rfl rfl (le_refl _)) ?_;refine bC rfl (iX (passed := [.box b3 0 [.j a.Places, .j a.Wilds, .j a.Guards, .j a.Close, .j a.Freeze, .lit (.map (some r2)), .lit C, .k o, .lit E, .lit F, .j q, .j s], .map r2 (e.map fun p : Int × aA => (VI p.1, (fun v : aA => AV.agg (aG v)) p.2)) H I, .arr C 3 1 (t.map aH), .arr E 3 1 (g.map aH), .arr F 3 1 (j.map aH)]) (aL rfl) rfl (.func _ _ call79) rfl rfl (qL (aO.mk a e t o g j q s) d0)) ?_;rintro _ ⟨_, _, ⟨b6, b7, a6, a7, a8, rfl, rfl⟩, rfl⟩;refine aE (aF (aC (tm (.bp b3 0 0) (to (sla 7 (aI J) rfl rfl fU) ?_))));obtain ⟨y, d1, h⟩ := bns h;refine bC rfl (iX (passed := [.box b3 0 [.j B.Field.Places, .j B.Field.Wilds, .j B.Field.Guards, .j B.Field.Close, .j B.Field.Freeze, .lit (.map (some r2)), .lit a6, .k B.frozen, .lit a7, .lit a8, .j B.more, .j B.entered], .map r2 (B.players.map fun p : Int × aA => (VI p.1, (fun v : aA => AV.agg (aG v)) p.2)) b6 b7, .arr a6 3 1 (B.wilds.map aH), .arr a7 3 1 (B.first.map aH), .arr a8 3 1 (B.late.map aH)]) (aL rfl) rfl (.func _ _ call80) rfl rfl (vV B J d1)) ?_;rintro _ ⟨_, _, ⟨P, Q, T, U, V, rfl, rfl⟩, rfl⟩;refine aE (aF (aC (tm (.bp b3 0 0) (to (bG (aL rfl) rfl) ?_))));refine tfl 0 rfl rfl sO rfl dI (aE ?_);refine tih h (fun d2 h => ?_) (fun d2 h => ?_)
    ·refine aC (tm (.bp b3 0 0) ?_);obtain ⟨K, d3, h⟩ := bns h;refine bC rfl (iX (passed := [.box b3 0 [.j y.Field.Places, .j y.Field.Wilds, .j y.Field.Guards, .j y.Field.Close, .j y.Field.Freeze, .lit (.map (some r2)), .lit T, .k y.frozen, .lit U, .lit V, .j y.more, .j y.entered], .map r2 (y.players.map fun p : Int × aA => (VI p.1, (fun v : aA => AV.agg (aG v)) p.2)) P Q, .arr T 3 1 (y.wilds.map aH), .arr U 3 1 (y.first.map aH), .arr V 3 1 (y.late.map aH)]) (aL rfl) rfl (.func _ _ call81) rfl rfl (vU y d3)) ?_;rintro _ ⟨_, _, ⟨b8, b9, d4, d5, d6, rfl, rfl⟩, rfl⟩;refine cB ?_;refine aC (to (sar rfl rfl rfl) (tm (.i (w64 (w + 1))) (aE ?_)));exact ⟨(w64 (w + 1), K.players, K.wilds, K.first, K.late, K.Field, K.frozen, K.more, K.entered, b8, b9, d4, d5, d6), h, aS [5, 1, 2, 3, 4, 0, 6] rfl rfl (aP rfl (aR ⟨rfl, rfl, rfl, rfl, rfl, trivial⟩))⟩
    ·refine bY ?_;refine aC (to (sar rfl rfl rfl) (tm (.i (w64 (w + 1))) (aE ?_)));exact ⟨(w64 (w + 1), y.players, y.wilds, y.first, y.late, y.Field, y.frozen, y.more, y.entered, P, Q, T, U, V), h, aS [5, 1, 2, 3, 4, 0, 6] rfl rfl (aP rfl (aR ⟨rfl, rfl, rfl, rfl, rfl, trivial⟩))⟩
   ·refine bA (aF (aC (tm (.bp b3 0 0) (to (sla 7 (aI J) rfl rfl fU) ?_))));obtain ⟨z, d7, h⟩ := bns h;refine dC (aS [5, 1, 2, 3, 4, 0, 6, 7] rfl rfl (le_refl _)) ?_;refine bC rfl (iX (passed := [.box b3 0 [.j a.Places, .j a.Wilds, .j a.Guards, .j a.Close, .j a.Freeze, .lit (.map (some r2)), .lit C, .k o, .lit E, .lit F, .j q, .j s], .map r2 (e.map fun p : Int × aA => (VI p.1, (fun v : aA => AV.agg (aG v)) p.2)) H I, .arr C 3 1 (t.map aH), .arr E 3 1 (g.map aH), .arr F 3 1 (j.map aH)]) (aL rfl) rfl (.func _ _ call80) rfl rfl (vV (aO.mk a e t o g j q s) J d7)) ?_;rintro _ ⟨_, _, ⟨W, X, Y, Z, a0, rfl, rfl⟩, rfl⟩;refine aE (aF (aC (tm (.bp b3 0 0) (to (bG (aL rfl) rfl) ?_))));refine tfl 0 rfl rfl sO rfl dI (aE ?_);refine tih h (fun d8 h => ?_) (fun d8 h => ?_)
    ·refine aC (tm (.bp b3 0 0) ?_);obtain ⟨L, d9, h⟩ := bns h;refine bC rfl (iX (passed := [.box b3 0 [.j z.Field.Places, .j z.Field.Wilds, .j z.Field.Guards, .j z.Field.Close, .j z.Field.Freeze, .lit (.map (some r2)), .lit Y, .k z.frozen, .lit Z, .lit a0, .j z.more, .j z.entered], .map r2 (z.players.map fun p : Int × aA => (VI p.1, (fun v : aA => AV.agg (aG v)) p.2)) W X, .arr Y 3 1 (z.wilds.map aH), .arr Z 3 1 (z.first.map aH), .arr a0 3 1 (z.late.map aH)]) (aL rfl) rfl (.func _ _ call81) rfl rfl (vU z d9)) ?_;rintro _ ⟨_, _, ⟨c0, c1, e0, e1, e2, rfl, rfl⟩, rfl⟩;refine cB ?_;refine aC (to (sar rfl rfl rfl) (tm (.i (w64 (w + 1))) (aE ?_)));exact ⟨(w64 (w + 1), L.players, L.wilds, L.first, L.late, L.Field, L.frozen, L.more, L.entered, c0, c1, e0, e1, e2), h, aS [5, 1, 2, 3, 4, 0, 6] rfl rfl (aP rfl (aR ⟨rfl, rfl, rfl, rfl, rfl, trivial⟩))⟩
    ·refine bY ?_;refine aC (to (sar rfl rfl rfl) (tm (.i (w64 (w + 1))) (aE ?_)));exact ⟨(w64 (w + 1), z.players, z.wilds, z.first, z.late, z.Field, z.frozen, z.more, z.entered, W, X, Y, Z, a0), h, aS [5, 1, 2, 3, 4, 0, 6] rfl rfl (aP rfl (aR ⟨rfl, rfl, rfl, rfl, rfl, trivial⟩))⟩
 ·refine bZ ?_;refine .inl ⟨rfl, ?_⟩;simp only [mY] at h;refine aF (aF (aC (tm (.i A) (tfl 0 rfl rfl fB rfl aV (to (scm rfl rfl rfl) (aE ?_))))));refine tih h (fun e3 h => ?_) (fun e3 h => ?_)
  ·refine aC (tm (.bp b3 0 0) ?_);obtain ⟨c, e4, h⟩ := bns h;refine dC (aS [5, 1, 2, 3, 4, 0, 6] rfl rfl (le_refl _)) ?_;refine bC rfl (iX (passed := [.box b3 0 [.j a.Places, .j a.Wilds, .j a.Guards, .j a.Close, .j a.Freeze, .lit (.map (some r2)), .lit C, .k o, .lit E, .lit F, .j q, .j s], .map r2 (e.map fun p : Int × aA => (VI p.1, (fun v : aA => AV.agg (aG v)) p.2)) H I, .arr C 3 1 (t.map aH), .arr E 3 1 (g.map aH), .arr F 3 1 (j.map aH)]) (aL rfl) rfl (.func _ _ call79) rfl rfl (qL (aO.mk a e t o g j q s) e4)) ?_;rintro _ ⟨_, _, ⟨c2, c3, a9, b0, b2, rfl, rfl⟩, rfl⟩;refine aE (aF (aC (tm (.bp b3 0 0) (ta (.bp b3 0 0) (aE ?_)))));refine bL (aS [5, 6, 0, 1, 2, 3, 4] rfl rfl (le_refl _)) ?_;apply aBm [.box b1 0 (aQ x), .arr N 32 5 (M.map aI)] [.box b3 0 [.j c.Field.Places, .j c.Field.Wilds, .j c.Field.Guards, .j c.Field.Close, .j c.Field.Freeze, .lit (.map (some r2)), .lit a9, .k c.frozen, .lit b0, .lit b2, .j c.more, .j c.entered], .map r2 (c.players.map fun p : Int × aA => (VI p.1, (fun v : aA => AV.agg (aG v)) p.2)) c2 c3, .arr a9 3 1 (c.wilds.map aH), .arr b0 3 1 (c.first.map aH), .arr b2 3 1 (c.late.map aH)] rfl;exact cW (k := 52) (v := .cp [.j c.Field.Places, .j c.Field.Wilds, .j c.Field.Guards, .j c.Field.Close, .j c.Field.Freeze, .mp true (c.players.map fun p : Int × aA => (VI p.1, aG p.2)), .sl 1 (c.wilds.map aH), .k c.frozen, .sl 1 (c.first.map aH), .sl 1 (c.late.map aH), .j c.more, .j c.entered]) (dV 0 rfl rfl (dvc (.same _) (dvc (.same _) (dvc (.same _) (dvc (.same _) (dvc (.same _) (dvc (kF (kv := VI) (av := (fun v : aA => AV.agg (aG v))) (l := c.players) (enc := aG) (agg := true) 1 rfl (fun h => by cases h) (fun _ => rfl)) (dvc (bF 2 rfl (aX (f := aH) fun _ => rfl)) (dvc (.same _) (dvc (bF 3 rfl (aX (f := aH) fun _ => rfl)) (dvc (bF 4 rfl (aX (f := aH) fun _ => rfl)) (dvc (.same _) (dvc (.same _) dvn))))))))))))) (cW (k := 50) (v := .cp [.j c.Field.Places, .j c.Field.Wilds, .j c.Field.Guards, .j c.Field.Close, .j c.Field.Freeze, .mp true (c.players.map fun p : Int × aA => (VI p.1, aG p.2)), .sl 1 (c.wilds.map aH), .k c.frozen, .sl 1 (c.first.map aH), .sl 1 (c.late.map aH), .j c.more, .j c.entered]) (dV 0 rfl rfl (dvc (.same _) (dvc (.same _) (dvc (.same _) (dvc (.same _) (dvc (.same _) (dvc (kF (kv := VI) (av := (fun v : aA => AV.agg (aG v))) (l := c.players) (enc := aG) (agg := true) 1 rfl (fun h => by cases h) (fun _ => rfl)) (dvc (bF 2 rfl (aX (f := aH) fun _ => rfl)) (dvc (.same _) (dvc (bF 3 rfl (aX (f := aH) fun _ => rfl)) (dvc (bF 4 rfl (aX (f := aH) fun _ => rfl)) (dvc (.same _) (dvc (.same _) dvn))))))))))))) (cW (k := 7) (v := .cp [.j c.Field.Places, .j c.Field.Wilds, .j c.Field.Guards, .j c.Field.Close, .j c.Field.Freeze, .mp true (c.players.map fun p : Int × aA => (VI p.1, aG p.2)), .sl 1 (c.wilds.map aH), .k c.frozen, .sl 1 (c.first.map aH), .sl 1 (c.late.map aH), .j c.more, .j c.entered]) (dV 0 rfl rfl (dvc (.same _) (dvc (.same _) (dvc (.same _) (dvc (.same _) (dvc (.same _) (dvc (kF (kv := VI) (av := (fun v : aA => AV.agg (aG v))) (l := c.players) (enc := aG) (agg := true) 1 rfl (fun h => by cases h) (fun _ => rfl)) (dvc (bF 2 rfl (aX (f := aH) fun _ => rfl)) (dvc (.same _) (dvc (bF 3 rfl (aX (f := aH) fun _ => rfl)) (dvc (bF 4 rfl (aX (f := aH) fun _ => rfl)) (dvc (.same _) (dvc (.same _) dvn))))))))))))) (cW (k := 6) (v := .cp [.j c.Field.Places, .j c.Field.Wilds, .j c.Field.Guards, .j c.Field.Close, .j c.Field.Freeze, .mp true (c.players.map fun p : Int × aA => (VI p.1, aG p.2)), .sl 1 (c.wilds.map aH), .k c.frozen, .sl 1 (c.first.map aH), .sl 1 (c.late.map aH), .j c.more, .j c.entered]) (dV 0 rfl rfl (dvc (.same _) (dvc (.same _) (dvc (.same _) (dvc (.same _) (dvc (.same _) (dvc (kF (kv := VI) (av := (fun v : aA => AV.agg (aG v))) (l := c.players) (enc := aG) (agg := true) 1 rfl (fun h => by cases h) (fun _ => rfl)) (dvc (bF 2 rfl (aX (f := aH) fun _ => rfl)) (dvc (.same _) (dvc (bF 3 rfl (aX (f := aH) fun _ => rfl)) (dvc (bF 4 rfl (aX (f := aH) fun _ => rfl)) (dvc (.same _) (dvc (.same _) dvn))))))))))))) (fH _ _))));obtain rfl := sIn h;refine bL (bJ (bR (l := [6]) ⟨rfl, trivial⟩)) ?_;exact rt
  ·refine bA (aF (aC (tm (.bp b3 0 0) (ta (.bp b3 0 0) (aE ?_)))));refine bL (aS [0, 6, 1, 2, 3, 4, 5] rfl rfl (le_refl _)) ?_;apply aBm [.box b1 0 (aQ x), .arr N 32 5 (M.map aI)] [.map r2 (e.map fun p : Int × aA => (VI p.1, (fun v : aA => AV.agg (aG v)) p.2)) H I, .arr C 3 1 (t.map aH), .arr E 3 1 (g.map aH), .arr F 3 1 (j.map aH), .box b3 0 [.j a.Places, .j a.Wilds, .j a.Guards, .j a.Close, .j a.Freeze, .lit (.map (some r2)), .lit C, .k o, .lit E, .lit F, .j q, .j s]] rfl;exact cW (k := 52) (v := .cp [.j a.Places, .j a.Wilds, .j a.Guards, .j a.Close, .j a.Freeze, .mp true (e.map fun p : Int × aA => (VI p.1, aG p.2)), .sl 1 (t.map aH), .k o, .sl 1 (g.map aH), .sl 1 (j.map aH), .j q, .j s]) (dV 4 rfl rfl (dvc (.same _) (dvc (.same _) (dvc (.same _) (dvc (.same _) (dvc (.same _) (dvc (kF (kv := VI) (av := (fun v : aA => AV.agg (aG v))) (l := e) (enc := aG) (agg := true) 0 rfl (fun h => by cases h) (fun _ => rfl)) (dvc (bF 1 rfl (aX (f := aH) fun _ => rfl)) (dvc (.same _) (dvc (bF 2 rfl (aX (f := aH) fun _ => rfl)) (dvc (bF 3 rfl (aX (f := aH) fun _ => rfl)) (dvc (.same _) (dvc (.same _) dvn))))))))))))) (cW (k := 7) (v := .cp [.j a.Places, .j a.Wilds, .j a.Guards, .j a.Close, .j a.Freeze, .mp true (e.map fun p : Int × aA => (VI p.1, aG p.2)), .sl 1 (t.map aH), .k o, .sl 1 (g.map aH), .sl 1 (j.map aH), .j q, .j s]) (dV 4 rfl rfl (dvc (.same _) (dvc (.same _) (dvc (.same _) (dvc (.same _) (dvc (.same _) (dvc (kF (kv := VI) (av := (fun v : aA => AV.agg (aG v))) (l := e) (enc := aG) (agg := true) 0 rfl (fun h => by cases h) (fun _ => rfl)) (dvc (bF 1 rfl (aX (f := aH) fun _ => rfl)) (dvc (.same _) (dvc (bF 2 rfl (aX (f := aH) fun _ => rfl)) (dvc (bF 3 rfl (aX (f := aH) fun _ => rfl)) (dvc (.same _) (dvc (.same _) dvn))))))))))))) (cW (k := 6) (v := .cp [.j a.Places, .j a.Wilds, .j a.Guards, .j a.Close, .j a.Freeze, .mp true (e.map fun p : Int × aA => (VI p.1, aG p.2)), .sl 1 (t.map aH), .k o, .sl 1 (g.map aH), .sl 1 (j.map aH), .j q, .j s]) (dV 4 rfl rfl (dvc (.same _) (dvc (.same _) (dvc (.same _) (dvc (.same _) (dvc (.same _) (dvc (kF (kv := VI) (av := (fun v : aA => AV.agg (aG v))) (l := e) (enc := aG) (agg := true) 0 rfl (fun h => by cases h) (fun _ => rfl)) (dvc (bF 1 rfl (aX (f := aH) fun _ => rfl)) (dvc (.same _) (dvc (bF 2 rfl (aX (f := aH) fun _ => rfl)) (dvc (bF 3 rfl (aX (f := aH) fun _ => rfl)) (dvc (.same _) (dvc (.same _) dvn))))))))))))) (fH _ _)));obtain rfl := sIn h;refine bL (bJ (bR (l := [6]) ⟨rfl, trivial⟩)) ?_;exact rt

theorem tI (g : aY) (a : List aM) (e : Int) (c : Int) {r : (Option aO) × Int} (h : oF g a e c = some r) : Fn Tryz.prog 33 [.agg (aQ g), .d (Z15 a), .i e, .i c] (.tup [kM bD r.1, .i r.2]) := by
 unfold oF at h;refine oT [.tmp 8, .tmp 9] func33 results33 ntmps33 ?_;refine aF (aC ?_);refine bC rfl (dW (v := .agg (aQ g)) (aL rfl) rfl rfl rfl) ?_;rintro _ ⟨b1, rfl⟩;refine ta Z64 (ta (.i 0) (aE (aF (aF (aC (to (sla 0 (aQ g) rfl rfl fF) (tm (Z45 a) ?_)))))));obtain ⟨r2, h3, h⟩ := bns h;refine to (scr call21 (zW _ _ h3)) (ta (.i r2) (aE (aF (aC (tm (.i r2) (to (scm rfl rfl rfl) (aE ?_)))))));refine tih h (fun c4 h => ?_) (fun c4 h => ?_)
 ·refine aF (aC (tm (.i r2) (ta Z64 (ta (.i r2) (aE ?_)))));obtain rfl := sIn h;refine bL (bJ (bR (l := [8, 9]) ⟨rfl, rfl, trivial⟩)) ?_;exact bS ⟨rfl, _, .two _ _, rfl, rfl⟩
 ·refine bA (aF (aF (aC (tm (.i e) ?_))));obtain ⟨r5, h6, h⟩ := bns h;refine to (scr call61 (cH _ _ _ h6)) (to (sn rfl) (tm (.b (!r5)) ?_));obtain ⟨b7, h8, h⟩ := bns h;refine bE 4 [1, 2, 4] 24 b7 ?_ ?_
  ·refine bch h8 (fun f h8 => ?_) (fun f h8 => ?_)
   ·refine tp f (tp f (tp f (to (spt Z46 f) ?_)));obtain rfl := sIn h8;refine aE (aU rfl ⟨rfl, rfl, rfl, trivial⟩ rfl)
   ·refine tk f (sm (.i c)) ?_;obtain ⟨j, k, h8⟩ := bns h8;refine tk f (scr call61 (cH _ _ _ k)) (tk f (sn rfl) (to (spf (.b (!j)) f) ?_));obtain rfl := sIn h8;refine aE (aU rfl ⟨rfl, rfl, rfl, trivial⟩ rfl)
  ·refine aE ?_;refine tih h (fun c9 h => ?_) (fun c9 h => ?_)
   ·refine aF (aC (ta Z64 (ta (.i 1) (aE ?_))));obtain rfl := sIn h;refine bL (bJ (bR (l := [8, 9]) ⟨rfl, rfl, trivial⟩)) ?_;exact bS ⟨rfl, _, .two _ _, rfl, rfl⟩
   ·refine bA (aF (aC (to (sla 0 (aQ g) rfl rfl fF) (tm (Z45 a) (tm (.i e) ?_)))));obtain ⟨m, n, h⟩ := bns h;refine to (cM (aL rfl) (.func _ _ call50) rfl rfl (zX _ _ _ n)) ?_;refine ta (kM bD m) (ta (.i 0) (aE ?_));obtain rfl := sIn h;refine bL (bJ (bR (l := [8, 9]) ⟨rfl, rfl, trivial⟩)) ?_;exact bS ⟨rfl, _, .two _ _, rfl, rfl⟩

theorem mN (a : aO) {r : (List Int)} (h : eH a = some r) : Fn Tryz.prog 34 [.cp (bD a)] (.d (.sl 1 (r.map aH))) := by
 unfold eH at h;refine oT [.tmp 2] func34 results34 ntmps34 ?_;refine aF (aC (to (xW 1 (aL rfl)) ?_));refine aE (aF (aF (aC (tm (Z1 a) (to (cX (aL rfl) rfl) ?_)))));refine to (sfc [.k a.frozen] rfl sO) (to (slc rfl dI) (to (sn rfl) (aE ?_)));refine tih h (fun c1 h => ?_) (fun c1 h => ?_)
 ·refine aF (aC (tm (Z1 a) ?_));obtain ⟨r2, h3, h⟩ := bns h;refine bC rfl (kO (aL rfl) (.func _ _ call62) rfl rfl (pJ _ h3)) ?_;rintro _ ⟨v4, rfl⟩;refine ta (.d (.lit v4)) (aE ?_);obtain rfl := sIn h;refine bL (bJ (cW (k := 2) (v := .d (.sl 1 (r2.map aH))) (.d (bF 0 rfl (aX (f := aH) fun _ => rfl))) (wG))) ?_;exact rt
 ·refine bA (aF ?_);refine cG mix 8 [] [(13, .d (.sl 1 (Z16 a))), (17, .d (.sl 1 (Z19 a)))] ?_ ?_
  ·refine ⟨[(10, 0, .cp [.j a.Field.Places, .j a.Field.Wilds, .j a.Field.Guards, .j a.Field.Close, .j a.Field.Freeze, .mp true (a.players.map fun p : Int × aA => (VI p.1, aG p.2)), .sl 1 (Z17 a), .k a.frozen, .sl 1 (Z16 a), .sl 1 (Z19 a), .j a.more, .j a.entered]), (11, 1, .cp [.j a.Field.Places, .j a.Field.Wilds, .j a.Field.Guards, .j a.Field.Close, .j a.Field.Freeze, .mp true (a.players.map fun p : Int × aA => (VI p.1, aG p.2)), .sl 1 (Z17 a), .k a.frozen, .sl 1 (Z16 a), .sl 1 (Z19 a), .j a.more, .j a.entered]), (12, 2, .cp [.sl 1 (Z16 a)]), (13, 3, .d (.sl 1 (Z16 a))), (14, 4, .cp [.j a.Field.Places, .j a.Field.Wilds, .j a.Field.Guards, .j a.Field.Close, .j a.Field.Freeze, .mp true (a.players.map fun p : Int × aA => (VI p.1, aG p.2)), .sl 1 (Z17 a), .k a.frozen, .sl 1 (Z16 a), .sl 1 (Z19 a), .j a.more, .j a.entered]), (15, 5, .cp [.j a.Field.Places, .j a.Field.Wilds, .j a.Field.Guards, .j a.Field.Close, .j a.Field.Freeze, .mp true (a.players.map fun p : Int × aA => (VI p.1, aG p.2)), .sl 1 (Z17 a), .k a.frozen, .sl 1 (Z16 a), .sl 1 (Z19 a), .j a.more, .j a.entered]), (16, 6, .cp [.sl 1 (Z19 a)]), (17, 7, .d (.sl 1 (Z19 a)))], ?_, ?_⟩
   · exact dk [0, 1, 2, 3, 0, 5, 6, 7] ⟨go (zm (Z1 a)),
 go fun S hS => cX (aL rfl) (aT hS rfl),
 go (zfc [.sl 1 (Z16 a)] rfl wP),
 go (zlc rfl cA),
 go (zm (Z1 a)),
 go fun S hS => cX (aL rfl) (aT hS rfl),
 go (zfc [.sl 1 (Z19 a)] rfl tZ),
 go (zlc rfl cA), trivial⟩
   · exact bP (aP rfl (aP rfl (aR trivial)))
  ·refine to (dG (aL rfl) tN rfl rfl (rows := ([a.first, a.late]).map mB) rfl (aX (f := mB) fun _ => rfl) rfl (by decide)) ?_;obtain ⟨r5, h6, h⟩ := bns h;refine bC rfl (kO (aL rfl) (.func _ _ call63) rfl rfl (tQ _ h6)) ?_;rintro _ ⟨v7, rfl⟩;refine ta (.d (.lit v7)) (aE ?_);obtain rfl := sIn h;refine bL (bJ (cW (k := 2) (v := .d (.sl 1 (r5.map aH))) (.d (bF 0 rfl (aX (f := aH) fun _ => rfl))) (wG))) ?_;exact rt

theorem vE (a : Int) (c : List Int) {r : Bool} (h : lM a c = some r) : Fn Tryz.prog 65 [.i a, .cp [.sl 1 (c.map aH)]] (.b r) := by
 unfold lM at h;refine oT [.tmp 3] func65 results65 ntmps65 ?_;refine aF (aC (ta Z21 (aE (aF (aC (to (slc rfl cA) (tm (.i a) ?_)))))));obtain ⟨r1, h2, h⟩ := bns h;refine to (scr call53 (mD _ _ h2)) (ta (.b r1) (aE ?_));obtain rfl := sIn h;exact rt

theorem wM (a : aO) {r : (List Int)} (h : iW a = some r) : Fn Tryz.prog 35 [.cp (bD a)] (.d (.sl 1 (r.map aH))) := by
 unfold iW at h;refine oT [.tmp 2] func35 results35 ntmps35 ?_;refine aF (aC (to (xW 1 (aL rfl)) ?_));refine aE (aF (aC (tm (Z1 a) ?_)));obtain ⟨r1, h2, h⟩ := bns h;refine to (cM (aL rfl) (.func _ _ call34) rfl rfl (mN _ h2)) ?_;refine bC rfl (dK (zs := [.sl 1 Z10]) (aL rfl) zeroValue25 rfl rfl) ?_;rintro _ ⟨b3, rfl⟩;refine to (sst 0 rfl rfl sizeOf25 [.sl 1 (r1.map aH)]) (aE (aF (aC (tm (Z1 a) ?_))));obtain ⟨r4, h5, h⟩ := bns h;refine bC rfl (kO (aL rfl) (.func _ _ call52) rfl rfl (jZ _ h5)) ?_;rintro _ ⟨v6, rfl⟩;refine to (pT (aL rfl) rfl rfl) ?_;refine dC (aS [1, 0] rfl rfl (le_refl _)) ?_;apply sW [.arr v6 3 1 (r4.map aH)] [.box b3 0 [.sl 1 (r1.map aH)]] rfl;exact cW (k := 8) (v := .fn 65 [.cp [.sl 1 (r1.map aH)]]) (qS (.cons (dV 0 rfl rfl (dvc (.same _) dvn)) .nil)) (cW (k := 3) (v := .cp [.sl 1 (r1.map aH)]) (dV 0 rfl rfl (dvc (.same _) dvn)) (fH _ _));obtain ⟨r8, h9, h⟩ := bns h;refine bC rfl (iX (passed := [.arr v6 3 1 (r4.map aH)]) (aL rfl) rfl (.func _ _ call64) rfl rfl (eD r4 (fun y7 => lM y7 r1) 65 [.cp [.sl 1 (r1.map aH)]] call65 (fun _ _ h => vE _ _ h) h9)) ?_;rintro _ ⟨_, _, ⟨b, rfl, rfl⟩, rfl⟩;refine ta (.d (.lit b)) (aE ?_);obtain rfl := sIn h;refine bL (bJ (cW (k := 2) (v := .d (.sl 1 (r8.map aH))) (.d (bF 0 rfl (aX (f := aH) fun _ => rfl))) (wG))) ?_;exact rt

theorem aAr (f : aY) (b : List aM) (c : Int) {r : bU × Int} (h : lR f b c = some r) : Fn Tryz.prog 14 [.agg (aQ f), .d (Z15 b), .i c] (.tup [.agg (cE r.1), .i r.2]) := by
 unfold lR at h;refine iI func14 rfl (rs := [.cell 6 34, .tmp 7]) results14 ntmps14 (Nat.le_of_ble_eq_true rfl) ?_;refine aF (aC ?_);refine bC rfl (dW (v := .agg (aQ f)) (aL rfl) rfl rfl rfl) ?_;rintro _ ⟨b1, rfl⟩;refine bC rfl (dK (zs := Z28) (aL rfl) zeroValue34 rfl rfl) ?_;rintro _ ⟨b2, rfl⟩;refine ta (.i 0) (aE (aF (aC (to (sla 0 (aQ f) rfl rfl fF) (tm (Z45 b) (tm (.i c) ?_))))));obtain ⟨r3, h4, h⟩ := bns h;refine to (cM (aL rfl) (.func _ _ call33) rfl rfl (tI _ _ _ _ h4)) ?_;refine tm (.tup [kM bD r3.1, .i r3.2]) (to (sex rfl rfl) (to (sex rfl rfl) (ta (kM bD r3.1) (ta (.i r3.2) (aE (aF (aF (aC (tm (.i r3.2) (to (scm rfl rfl rfl) (aE ?_)))))))))));refine tih h (fun c5 h => ?_) (fun c5 h => ?_)
 ·refine aF (aC (to (pZ (aL rfl) aEr (zs := Z28) rfl rfl rfl rfl (es := Z28) rfl) ?_));refine tm (.i r3.2) (to (sst 1 rfl rfl sizeOf34 (cE Z24)) (ta (.i r3.2) (aE ?_)));obtain rfl := sIn h;exact bS ⟨rfl, _, [.box b1 0 (aQ f), .box b2 0 (cE Z24)], .two (.cell 6 34 rfl (i := 1) rfl uX (es := (cE Z24)) rfl rfl) (.tmp 7 (v := .i r3.2) rfl), .refl _, .same _⟩
 ·refine bA (aF (aC (tm (kM bD r3.1) ?_)));obtain ⟨x6, h7, h⟩ := bns h;refine dC (tV (enc := bD) (k := 22) rfl h7) ?_;obtain ⟨r8, h9, h⟩ := bns h;refine to (cM (aL rfl) (.func _ _ call34) rfl rfl (mN _ h9)) ?_;refine ta (.d (.sl 1 (r8.map aH))) (aE (aF ?_));obtain ⟨a, j, h⟩ := bns h;refine bL (tV (enc := bD) (k := 8) rfl j) ?_;obtain ⟨g, l, h⟩ := bns h;obtain ⟨e, m, h⟩ := bns h;refine cG mix 12 [6] [(24, .d (.sl 1 (r8.map aH))), (28, .d (.sl 1 (a.wilds.map aH))), (30, .d (.sl 1 (g.map aH))), (35, .i (w64 (e - (r8.length : Int))))] ?_ ?_
  ·refine ⟨[(24, 0, .d (.sl 1 (r8.map aH))), (25, 1, .cp [.j a.Field.Places, .j a.Field.Wilds, .j a.Field.Guards, .j a.Field.Close, .j a.Field.Freeze, .mp true (a.players.map fun p : Int × aA => (VI p.1, aG p.2)), .sl 1 (a.wilds.map aH), .k a.frozen, .sl 1 (a.first.map aH), .sl 1 (a.late.map aH), .j a.more, .j a.entered]), (26, 2, .cp [.j a.Field.Places, .j a.Field.Wilds, .j a.Field.Guards, .j a.Field.Close, .j a.Field.Freeze, .mp true (a.players.map fun p : Int × aA => (VI p.1, aG p.2)), .sl 1 (a.wilds.map aH), .k a.frozen, .sl 1 (a.first.map aH), .sl 1 (a.late.map aH), .j a.more, .j a.entered]), (27, 3, .cp [.sl 1 (a.wilds.map aH)]), (28, 4, .d (.sl 1 (a.wilds.map aH))), (29, 5, .cp [.j a.Field.Places, .j a.Field.Wilds, .j a.Field.Guards, .j a.Field.Close, .j a.Field.Freeze, .mp true (a.players.map fun p : Int × aA => (VI p.1, aG p.2)), .sl 1 (a.wilds.map aH), .k a.frozen, .sl 1 (a.first.map aH), .sl 1 (a.late.map aH), .j a.more, .j a.entered]), (30, 6, .d (.sl 1 (g.map aH))), (31, 7, .cp [.j a.Field.Places, .j a.Field.Wilds, .j a.Field.Guards, .j a.Field.Close, .j a.Field.Freeze, .mp true (a.players.map fun p : Int × aA => (VI p.1, aG p.2)), .sl 1 (a.wilds.map aH), .k a.frozen, .sl 1 (a.first.map aH), .sl 1 (a.late.map aH), .j a.more, .j a.entered]), (32, 8, .i e), (33, 9, .d (.sl 1 (r8.map aH))), (34, 10, .i (r8.length : Int)), (35, 11, .i (w64 (e - (r8.length : Int))))], ?_, ?_⟩
   · exact dk [0, 0, 2, 3, 4, 0, 6, 0, 8, 0, 10, 911] ⟨go (zm (.d (.sl 1 (r8.map aH)))),
 go (zm (.cp [.j a.Field.Places, .j a.Field.Wilds, .j a.Field.Guards, .j a.Field.Close, .j a.Field.Freeze, .mp true (a.players.map fun p : Int × aA => (VI p.1, aG p.2)), .sl 1 (a.wilds.map aH), .k a.frozen, .sl 1 (a.first.map aH), .sl 1 (a.late.map aH), .j a.more, .j a.entered])),
 go fun S hS => cX (aL rfl) (aT hS rfl),
 go (zfc [.sl 1 (a.wilds.map aH)] rfl jC),
 go (zlc rfl cA),
 go (zm (.cp [.j a.Field.Places, .j a.Field.Wilds, .j a.Field.Guards, .j a.Field.Close, .j a.Field.Freeze, .mp true (a.players.map fun p : Int × aA => (VI p.1, aG p.2)), .sl 1 (a.wilds.map aH), .k a.frozen, .sl 1 (a.first.map aH), .sl 1 (a.late.map aH), .j a.more, .j a.entered])),
 go fun S hS => cM (aL rfl) (.func _ _ call35) (ev2 (aT hS rfl) evn) rfl (wM _ l),
 go (zm (.cp [.j a.Field.Places, .j a.Field.Wilds, .j a.Field.Guards, .j a.Field.Close, .j a.Field.Freeze, .mp true (a.players.map fun p : Int × aA => (VI p.1, aG p.2)), .sl 1 (a.wilds.map aH), .k a.frozen, .sl 1 (a.first.map aH), .sl 1 (a.late.map aH), .j a.more, .j a.entered])),
 go fun S hS => kN (aL rfl) (.func _ _ call36) (ev2 (aT hS rfl) evn) rfl (BVs.refl _ _) (gW _ m) rfl,
 go (zm (.d (.sl 1 (r8.map aH)))),
 go (zle rfl bM.of),
 go (zar rfl rfl rfl), trivial⟩
   · exact bP (aP rfl (aP rfl (aP rfl (aP rfl (aR ⟨rfl, trivial⟩)))))
  ·refine to (pZ (aL rfl) aEr (zs := Z28) rfl rfl rfl rfl (es := [.sl 1 (r8.map aH), .sl 1 (a.wilds.map aH), .sl 1 (g.map aH), .j (w64 (e - (r8.length : Int)))]) rfl) ?_;refine to (sst 1 rfl rfl sizeOf34 (cE (bU.mk r8 a.wilds g (w64 (e - (r8.length : Int)))))) (ta (.i 0) (aE ?_));obtain rfl := sIn h;exact bS ⟨rfl, _, [.box b1 0 (aQ f), .box b2 0 (cE (bU.mk r8 a.wilds g (w64 (e - (r8.length : Int)))))], .two (.cell 6 34 rfl (i := 1) rfl uX (es := (cE (bU.mk r8 a.wilds g (w64 (e - (r8.length : Int)))))) rfl rfl) (.tmp 7 (v := .i 0) rfl), .refl _, .same _⟩

theorem rC (a : aO) (c : Int) {r : Int × Int} (h : jV a c = some r) : Fn Tryz.prog 37 [.cp (bD a), .i c] (.tup [.i r.1, .i r.2]) := by
 unfold jV at h;refine oT [.tmp 4, .tmp 5] func37 results37 ntmps37 ?_;refine aF (aC (ta (.i 0) (ta (.i 0) (aE (aF (aF ?_))))));obtain ⟨r1, h2, h⟩ := bns h;obtain ⟨r3, h4, h⟩ := bns h;refine cG mix 11 [1] [(17, .d (.sl 1 ((([r1, a.wilds, r3])).map mB))), (18, .i ((([r1, a.wilds, r3]).length : Int))), (19, .i 0)] ?_ ?_
 ·refine ⟨[(9, 0, .cp [.j a.Field.Places, .j a.Field.Wilds, .j a.Field.Guards, .j a.Field.Close, .j a.Field.Freeze, .mp true (a.players.map fun p : Int × aA => (VI p.1, aG p.2)), .sl 1 (Z17 a), .k a.frozen, .sl 1 (Z16 a), .sl 1 (Z19 a), .j a.more, .j a.entered]), (10, 1, .d (.sl 1 (r1.map aH))), (11, 2, .cp [.j a.Field.Places, .j a.Field.Wilds, .j a.Field.Guards, .j a.Field.Close, .j a.Field.Freeze, .mp true (a.players.map fun p : Int × aA => (VI p.1, aG p.2)), .sl 1 (Z17 a), .k a.frozen, .sl 1 (Z16 a), .sl 1 (Z19 a), .j a.more, .j a.entered]), (12, 3, .cp [.j a.Field.Places, .j a.Field.Wilds, .j a.Field.Guards, .j a.Field.Close, .j a.Field.Freeze, .mp true (a.players.map fun p : Int × aA => (VI p.1, aG p.2)), .sl 1 (Z17 a), .k a.frozen, .sl 1 (Z16 a), .sl 1 (Z19 a), .j a.more, .j a.entered]), (13, 4, .cp [.sl 1 (Z17 a)]), (14, 5, .d (.sl 1 (Z17 a))), (15, 6, .cp [.j a.Field.Places, .j a.Field.Wilds, .j a.Field.Guards, .j a.Field.Close, .j a.Field.Freeze, .mp true (a.players.map fun p : Int × aA => (VI p.1, aG p.2)), .sl 1 (Z17 a), .k a.frozen, .sl 1 (Z16 a), .sl 1 (Z19 a), .j a.more, .j a.entered]), (16, 7, .d (.sl 1 (r3.map aH))), (17, 8, .d (.sl 1 ((([r1, a.wilds, r3])).map mB))), (18, 9, .i ((([r1, a.wilds, r3]).length : Int))), (19, 10, .i 0)], ?_, ?_⟩
  · exact dk [0, 1, 0, 3, 4, 5, 0, 7, 20608, 9, 0] ⟨go (zm (Z1 a)),
 go fun S hS => cM (aL rfl) (.func _ _ call34) (ev2 (aT hS rfl) evn) rfl (mN _ h2),
 go (zm (Z1 a)),
 go fun S hS => cX (aL rfl) (aT hS rfl),
 go (zfc [.sl 1 (Z17 a)] rfl jC),
 go (zlc rfl cA),
 go (zm (Z1 a)),
 go fun S hS => cM (aL rfl) (.func _ _ call35) (ev2 (aT hS rfl) evn) rfl (wM _ h4),
 go fun S hS => dG (aL rfl) tN rfl (pa2 (aT hS rfl) (pa2 (aT hS rfl) (pa2 (aT hS rfl) pan))) (rows := ([r1, a.wilds, r3]).map mB) rfl (aX (f := mB) fun _ => rfl) rfl (by decide),
 go (zle rfl tN.of),
 go (zm (.i 0)), trivial⟩
  · exact bP (aP rfl (aP rfl (aP rfl (aR ⟨rfl, trivial⟩))))
 ·refine aE (bI ?_);refine cF (S := Int) [1, 17, 18] (fun s5 => [(19, .i s5)]) (fun s5 => []) (fun k s5 => jM c ([r1, a.wilds, r3]) (([r1, a.wilds, r3]).length : Int) k s5) (fun _ => rfl) (0) h (aS [] rfl rfl (aP rfl (aR ⟨rfl, rfl, rfl, trivial⟩))) ?_;rintro k6 b h;simp only [jM] at h;refine aF (aC (to (scm rfl rfl rfl) (aE (aF ?_))));refine tih h (fun c7 h => ?_) (fun c7 h => ?_)
  ·refine bA (aF (bI (aF (aC (tm (.i b) ?_)))));obtain ⟨x8, h9, h⟩ := bns h;refine to (six rfl rfl tN.of (bB mB h9)) (to (slc rfl cA) (ta (.i b) (ta (.d (.sl 1 (x8.map aH))) (aE (aF (aC (tm (.d (.sl 1 (x8.map aH))) (tm (.i c) ?_))))))));obtain ⟨e, g, h⟩ := bns h;refine to (scr call66 (vN _ _ g)) (ta (.i e) (aE (aF (aC (tm (.i e) (to (scm rfl rfl rfl) (aE ?_)))))));refine tih h (fun j h => ?_) (fun j h => ?_)
   ·refine aF (aC (tm (.i b) (to (sar rfl rfl rfl) (tm (.i e) (to (sar rfl rfl rfl) (ta (.i (w64 (b + 1))) (ta (.i (w64 (e + 1))) (aE ?_))))))));obtain rfl := sIn h;exact bS ⟨rfl, _, .two _ _, rfl, rfl⟩
   ·refine bY ?_;refine aC (to (sar rfl rfl rfl) (tm (.i (w64 (b + 1))) (aE ?_)));exact ⟨(w64 (b + 1)), h, aS [] rfl rfl (aP rfl (aR ⟨rfl, rfl, rfl, trivial⟩))⟩
  ·refine bZ ?_;refine .inl ⟨rfl, ?_⟩;simp only [qN] at h;refine aF (aC (ta (.i 0) (ta (.i 0) (aE ?_))));obtain rfl := sIn h;exact bS ⟨rfl, _, .two _ _, rfl, rfl⟩

theorem aCc (a : aO) {r : (List Int)} (h : iW a = some r) : dO Tryz.prog 35 [.cp (bD a)] [] (fun r' o' => ∃ (w0 : Value), r' = .d (.lit w0) ∧ o' = [.arr w0 3 1 (r.map aH)]) := by
 unfold iW at h;refine iV func35 rfl (rs := [.tmp 2]) results35 ntmps35 (Nat.le_of_ble_eq_true rfl) ?_;refine aF (aC (to (fQ 3 1 (.inl rfl) (aL rfl)) ?_));refine aE (aF (aC (tm (Z1 a) ?_)));obtain ⟨r2, h3, h⟩ := bns h;refine to (cM (aL rfl) (.func _ _ call34) rfl rfl (mN _ h3)) ?_;refine bC rfl (dK (zs := [.sl 1 Z10]) (aL rfl) zeroValue25 rfl rfl) ?_;rintro _ ⟨b4, rfl⟩;refine to (sst 1 rfl rfl sizeOf25 [.sl 1 (r2.map aH)]) (aE (aF (aC (tm (Z1 a) ?_))));obtain ⟨r5, h6, h⟩ := bns h;refine bC rfl (kO (aL rfl) (.func _ _ call52) rfl rfl (jZ _ h6)) ?_;rintro _ ⟨v7, rfl⟩;refine to (pT (aL rfl) rfl rfl) ?_;refine dC (aS [0, 2, 1] rfl rfl (le_refl _)) ?_;apply sW [.arr (.slice none 0 0) 3 1 Z44, .arr v7 3 1 (r5.map aH)] [.box b4 0 [.sl 1 (r2.map aH)]] rfl;exact cW (k := 8) (v := .fn 65 [.cp [.sl 1 (r2.map aH)]]) (qS (.cons (dV 0 rfl rfl (dvc (.same _) dvn)) .nil)) (cW (k := 3) (v := .cp [.sl 1 (r2.map aH)]) (dV 0 rfl rfl (dvc (.same _) dvn)) (fH _ _));obtain ⟨r9, c, h⟩ := bns h;refine dC (aS [1, 0] rfl rfl (le_refl _)) ?_;refine bC rfl (iX (passed := [.arr v7 3 1 (r5.map aH)]) (aL rfl) rfl (.func _ _ call64) rfl rfl (eD r5 (fun y8 => lM y8 r2) 65 [.cp [.sl 1 (r2.map aH)]] call65 (fun _ _ h => vE _ _ h) c)) ?_;rintro _ ⟨_, _, ⟨b, rfl, rfl⟩, rfl⟩;refine ta (.d (.lit b)) (aE ?_);obtain rfl := sIn h;exact bS ⟨rfl, _, [.arr b 3 1 (r9.map aH)], Z29, _, .one (.tmp 2 (v := .d (.lit b)) rfl), .refl _, .same _, b, rfl, rfl⟩

theorem yI (c : Int) (d : aO) {r : Bool} (h : nR c d = some r) : Fn Tryz.prog 68 [.i c, .cp [.pt (bD d)]] (.b r) := by
 unfold nR at h;refine oT [.tmp 3] func68 results68 ntmps68 ?_;refine aF (aC (ta Z21 (aE (aF (aC (to (mO (.ptc _) (kC (aL rfl) rfl hU)) ?_))))));refine to (cX (aL rfl) rfl) ?_;refine to (sfc [.mp true (d.players.map fun p : Int × aA => (VI p.1, aG p.2))] rfl dR) (to (slc rfl fV) (tm (.i c) (to (iU (enc := aG) (agg := true) (l := d.players) (z := Z2) (a := c) (aL rfl) iD underlying68 zeroValue94 (fun _ _ => .agg (jG rfl)) rfl rfl rfl rfl (dF (kv := VI) c)) ?_)));refine to (mW (aL rfl) rfl runUnderlying94 rfl dI rfl) ?_;refine to (sn rfl) (ta (.b (!(Z63 c d))) (aE ?_));obtain rfl := sIn h;exact rt

theorem sR (E : aZ) (d : aO) (w : List Int) (x : Int) {r : aZ × Bool} (h : nS E d w x = some r) : Fn Tryz.prog 69 [.agg (aW E), .cp [.pt (bD d)], .cp [.sl 1 (w.map aH)], .cp [.j x]] (.tup [.agg (aW r.1), .b r.2]) := by
 unfold nS at h;refine iI func69 rfl (rs := [.cell 5 110, .tmp 6]) results69 ntmps69 (Nat.le_of_ble_eq_true rfl) ?_;refine aF (aC ?_);refine bC rfl (dW (v := .agg (aW E)) (aL rfl) rfl rfl rfl) ?_;rintro _ ⟨b1, rfl⟩;refine bC rfl (dK (zs := [.j 0, .j 0, .j 0, .j 0]) (aL rfl) zeroValue110 rfl rfl) ?_;rintro _ ⟨b2, rfl⟩;refine ta Z21 (aE (aF (bI ?_)));refine cF (S := aZ × aZ) [1, 2, 3, 4, 5] (fun s3 => []) (fun s3 => [.box b1 0 (aW s3.1), .box b2 0 (aW s3.2)]) (fun k s3 => jO d w x k s3.1 s3.2) (fun _ => rfl) (E, (aZ.mk 0 0 0 0)) h (aS [0, 1] rfl rfl (aR ⟨rfl, rfl, rfl, rfl, rfl, trivial⟩)) ?_;rintro k4 ⟨g, y⟩ h;simp only [jO] at h;refine aF (aF ?_);obtain ⟨r5, h6, h⟩ := bns h;refine cG mix 7 [1, 2, 3, 4, 5] [(17, .i (w64 (g.free + g.guarded))), (19, .i r5)] ?_ ?_
 ·refine ⟨[(13, 0, .bp b1 0 0), (14, 1, .i g.free), (15, 2, .bp b1 0 1), (16, 3, .i g.guarded), (17, 4, .i (w64 (g.free + g.guarded))), (18, 5, .cp [.j d.Field.Places, .j d.Field.Wilds, .j d.Field.Guards, .j d.Field.Close, .j d.Field.Freeze, .mp true (d.players.map fun p : Int × aA => (VI p.1, aG p.2)), .sl 1 (Z17 d), .k d.frozen, .sl 1 (Z16 d), .sl 1 (Z19 d), .j d.more, .j d.entered]), (19, 6, .i r5)], ?_, ?_⟩
  · exact dk [0, 1, 0, 3, 204, 0, 6] ⟨go (zf rfl rD),
 go (zl 0 rfl rfl rfl aV),
 go (zf rfl pB),
 go (zl 0 rfl rfl rfl aV),
 go (zar rfl rfl rfl),
 go fun S hS => mO (.ptc _) (kC (aL rfl) (aT hS rfl) hU),
 go fun S hS => kN (aL rfl) (.func _ _ call36) (ev2 (aT hS rfl) evn) rfl (BVs.refl _ _) (gW _ h6) rfl, trivial⟩
  · exact bP (aP rfl (aP rfl (aR ⟨rfl, rfl, rfl, rfl, rfl, trivial⟩)))
 ·refine to (scm rfl rfl rfl) (aE ?_);refine tih h (fun c7 h => ?_) (fun c7 h => ?_)
  ·refine bA (bI (aF (aC (ta (.i 0) (ta (.i 0) (ta Z21 (aE (aF (aF (aC (to (slc rfl cA) (to (sle rfl bM.of) (tm (.i 0) ?_)))))))))))));refine aE (bI ?_);refine cF (S := Int × Int × Bool × Int × aZ × aZ) [1, 2, 3, 4, 5, 21, 22] (fun s8 => [(7, .i s8.1), (8, .i s8.2.1), (9, .b s8.2.2.1), (23, .i s8.2.2.2.1)]) (fun s8 => [.box b1 0 (aW s8.2.2.2.2.1), .box b2 0 (aW s8.2.2.2.2.2)]) (fun k s8 => iM (jO d w x k4) d w x w (w.length : Int) k s8.1 s8.2.1 s8.2.2.1 s8.2.2.2.1 s8.2.2.2.2.1 s8.2.2.2.2.2) (fun _ => rfl) (0, 0, false, 0, g, y) h (aS [0, 1] rfl rfl (aP rfl (aP rfl (aP rfl (aP rfl (aR ⟨rfl, rfl, rfl, rfl, rfl, rfl, rfl, trivial⟩)))))) ?_;rintro k9 ⟨f, e, s, q, c, j⟩ h;simp only [iM] at h;refine aF (aC (to (scm rfl rfl rfl) (aE (aF ?_))));refine tih h (fun K h => ?_) (fun K h => ?_)
   ·refine bA (aF (bI (aF (aC ?_))));obtain ⟨m, L, h⟩ := bns h;refine to (six rfl rfl bM.of (bB aH L)) (to (slc rfl aV) (ta (.i m) (aE (aF (aC (to (mO (.ptc _) (kC (aL rfl) rfl hU)) ?_))))));refine to (cX (aL rfl) rfl) ?_;refine to (sfc [.mp true (d.players.map fun p : Int × aA => (VI p.1, aG p.2))] rfl dR) (to (slc rfl fV) (tm (.i m) (to (iU (enc := aG) (agg := true) (l := d.players) (z := Z2) (a := m) (aL rfl) iD underlying68 zeroValue94 (fun _ _ => .agg (jG rfl)) rfl rfl rfl rfl (dF (kv := VI) m)) ?_)));refine to (mW (aL rfl) rfl runUnderlying94 rfl dI rfl) ?_;refine ta (.b ((aK m Z2 d.players).guard)) (aE (aF (bI (aF (aC (tm (.b ((aK m Z2 d.players).guard)) (tm (.b ((aK m Z2 d.players).guard)) ?_)))))));obtain ⟨F, A, h⟩ := bns h;refine bE 5 [1, 2, 3, 4, 5, 7, 8, 9, 11, 12, 21, 22, 23] 41 F ?_ ?_
    ·refine bch A (fun t A => ?_) (fun t A => ?_)
     ·refine tk t (sm (.i e)) (tkl 0 t rfl rfl aAu rfl aV (tk t (scm rfl rfl rfl) (to (spt (.b (decide (e < c.covered))) t) ?_)));obtain rfl := sIn A;refine aE (aU rfl ⟨rfl, rfl, rfl, rfl, rfl, rfl, rfl, rfl, rfl, rfl, rfl, rfl, rfl, trivial⟩ rfl)
     ·refine tp t (tp t (tp t (tp t (to (spf Z21 t) ?_))));obtain rfl := sIn A;refine aE (aU rfl ⟨rfl, rfl, rfl, rfl, rfl, rfl, rfl, rfl, rfl, rfl, rfl, rfl, rfl, trivial⟩ rfl)
    ·refine ta (.b F) (aE ?_);refine tih h (fun M h => ?_) (fun M h => ?_)
     ·refine aF (aC (tm (.i e) (to (sar rfl rfl rfl) (ta (.i (w64 (e + 1))) (aE ?_)))));refine bZ ?_;refine .inr ⟨by decide, ?_⟩;refine .inl ⟨rfl, ?_⟩;refine aC (to (sar rfl rfl rfl) (tm (.i (w64 (q + 1))) (aE ?_)));exact ⟨(f, w64 (e + 1), s, w64 (q + 1), c, j), h, aS [0, 1] rfl rfl (aP rfl (aP rfl (aP rfl (aP rfl (aR ⟨rfl, rfl, rfl, rfl, rfl, rfl, rfl, trivial⟩)))))⟩
     ·refine aF (aC (tm (.b ((aK m Z2 d.players).guard)) (to (sn rfl) (tm (.b (!((aK m Z2 d.players).guard))) ?_))));obtain ⟨G, B, h⟩ := bns h;refine bE 5 [1, 2, 3, 4, 5, 7, 8, 9, 11, 12, 21, 22, 23] 52 G ?_ ?_
      ·refine bch B (fun u B => ?_) (fun u B => ?_)
       ·refine tk u (sm (.i f)) (tkl 0 u rfl rfl aAt rfl aV (tk u (scm rfl rfl rfl) (to (spt (.b (decide (f < c.moved))) u) ?_)));obtain rfl := sIn B;refine aE (aU rfl ⟨rfl, rfl, rfl, rfl, rfl, rfl, rfl, rfl, rfl, rfl, rfl, rfl, rfl, trivial⟩ rfl)
       ·refine tp u (tp u (tp u (tp u (to (spf Z21 u) ?_))));obtain rfl := sIn B;refine aE (aU rfl ⟨rfl, rfl, rfl, rfl, rfl, rfl, rfl, rfl, rfl, rfl, rfl, rfl, rfl, trivial⟩ rfl)
      ·refine ta (.b G) (aE ?_);refine tih h (fun N h => ?_) (fun N h => ?_)
       ·refine aF (aC (tm (.i f) (to (sar rfl rfl rfl) (ta (.i (w64 (f + 1))) (aE ?_)))));refine bZ ?_;refine .inr ⟨by decide, ?_⟩;refine .inl ⟨rfl, ?_⟩;refine aC (to (sar rfl rfl rfl) (tm (.i (w64 (q + 1))) (aE ?_)));exact ⟨(w64 (f + 1), e, s, w64 (q + 1), c, j), h, aS [0, 1] rfl rfl (aP rfl (aP rfl (aP rfl (aP rfl (aR ⟨rfl, rfl, rfl, rfl, rfl, rfl, rfl, trivial⟩)))))⟩
       ·refine aF ?_;obtain ⟨H, C, h⟩ := bns h;refine cG mix 11 [1, 2, 3, 4, 5, 7, 8, 9, 11, 12, 21, 22, 23] [(66, .b H)] ?_ ?_
        ·refine bch C (fun o C => ?_) (fun o C => ?_)
         ·obtain rfl := sIn C;refine ⟨[(56, 0, .b ((aK m Z2 d.players).guard)), (57, 1, .b ((aK m Z2 d.players).guard)), (58, 2, .bp b1 0 1), (59, 3, .i c.guarded), (60, 4, .cp [.j d.Field.Places, .j d.Field.Wilds, .j d.Field.Guards, .j d.Field.Close, .j d.Field.Freeze, .mp true (d.players.map fun p : Int × aA => (VI p.1, aG p.2)), .sl 1 (Z17 d), .k d.frozen, .sl 1 (Z16 d), .sl 1 (Z19 d), .j d.more, .j d.entered]), (61, 5, .cp [.j d.Field.Places, .j d.Field.Wilds, .j d.Field.Guards, .j d.Field.Close, .j d.Field.Freeze, .mp true (d.players.map fun p : Int × aA => (VI p.1, aG p.2)), .sl 1 (Z17 d), .k d.frozen, .sl 1 (Z16 d), .sl 1 (Z19 d), .j d.more, .j d.entered]), (62, 6, .cp [.j d.Field.Places, .j d.Field.Wilds, .j d.Field.Guards, .j d.Field.Close, .j d.Field.Freeze]), (63, 7, .cp [.j d.Field.Guards]), (64, 8, .i d.Field.Guards), (65, 9, .b (decide (d.Field.Guards ≤ c.guarded))), (66, 10, .b (decide (d.Field.Guards ≤ c.guarded)))], ?_, ?_⟩
          · exact dk [0, 1, 2, 203, 2, 205, 206, 207, 208, 20409, 210] ⟨go (zm (.b ((aK m Z2 d.players).guard))),
 go (zm (.b ((aK m Z2 d.players).guard))),
 gt o (zf rfl pB),
 gt o (zl 0 rfl rfl rfl aV),
 gt o fun S hS => mO (.ptc _) (kC (aL rfl) (aT hS rfl) hU),
 gt o fun S hS => cX (aL rfl) (aT hS rfl),
 gt o (zfc [.j d.Field.Places, .j d.Field.Wilds, .j d.Field.Guards, .j d.Field.Close, .j d.Field.Freeze] rfl fX),
 gt o (zfc [.j d.Field.Guards] rfl nF),
 gt o (zlc rfl aV),
 gt o (zcm rfl rfl rfl),
 go (zpt (.b (decide (d.Field.Guards ≤ c.guarded))) o), trivial⟩
          · exact bP (aP rfl (aR ⟨rfl, rfl, rfl, rfl, rfl, rfl, rfl, rfl, rfl, rfl, rfl, rfl, rfl, trivial⟩))
         ·obtain rfl := sIn C;refine ⟨[(56, 0, .b ((aK m Z2 d.players).guard)), (57, 1, .b ((aK m Z2 d.players).guard)), (58, 2, .tup []), (59, 3, .tup []), (60, 4, .tup []), (61, 5, .tup []), (62, 6, .tup []), (63, 7, .tup []), (64, 8, .tup []), (65, 9, .tup []), (66, 10, .b false)], ?_, ?_⟩
          · exact dk [0, 1, 2, 203, 2, 205, 206, 207, 208, 20409, 210] ⟨go (zm (.b ((aK m Z2 d.players).guard))),
 go (zm (.b ((aK m Z2 d.players).guard))),
 gp o,
 gp o,
 gp o,
 gp o,
 gp o,
 gp o,
 gp o,
 gp o,
 go (zpf Z21 o), trivial⟩
          · exact bP (aP rfl (aR ⟨rfl, rfl, rfl, rfl, rfl, rfl, rfl, rfl, rfl, rfl, rfl, rfl, rfl, trivial⟩))
        ·refine ta (.b H) (aE ?_);refine tih h (fun O h => ?_) (fun O h => ?_)
         ·refine bZ ?_;refine .inr ⟨by decide, ?_⟩;refine .inl ⟨rfl, ?_⟩;refine aC (to (sar rfl rfl rfl) (tm (.i (w64 (q + 1))) (aE ?_)));exact ⟨(f, e, s, w64 (q + 1), c, j), h, aS [0, 1] rfl rfl (aP rfl (aP rfl (aP rfl (aP rfl (aR ⟨rfl, rfl, rfl, rfl, rfl, rfl, rfl, trivial⟩)))))⟩
         ·refine bY ?_;refine aF (aF (aC (tm (.i m) (to (slc rfl aV) (to (scm rfl rfl rfl) (aE ?_))))));refine tih h (fun P h => ?_) (fun P h => ?_)
          ·refine aF (aC (to (sla 0 (aW c) rfl rfl kT) (to (sst 1 rfl rfl sizeOf110 (aW c)) (ta Z46 (aE ?_)))));obtain rfl := sIn h;exact bS ⟨rfl, _, [.box b1 0 (aW c), .box b2 0 (aW c)], .two (.cell 5 110 rfl (i := 1) rfl kT (es := (aW c)) rfl rfl) (.tmp 6 (v := .b true) rfl), .refl _, .same _⟩
          ·refine bA (aF (aF (aC (tm (.b ((aK m Z2 d.players).guard)) (aE ?_)))));refine tih h (fun Q h => ?_) (fun Q h => ?_)
           ·refine aC (tfl 0 rfl rfl pB rfl aV (to (sar rfl rfl rfl) (tfl 0 rfl rfl aAu rfl aV (to (sar rfl rfl rfl) (to (sf rfl pB) (to (sst 0 rfl rfl sizeOf3 (aW (aZ.mk c.free (w64 (c.guarded + 1)) c.moved c.covered))) (to (sf rfl aAu) (to (sst 0 rfl rfl sizeOf3 (aW (aZ.mk c.free (w64 (c.guarded + 1)) c.moved (w64 (c.covered + 1))))) (aE (aF (aC ?_)))))))))));refine ta Z46 (aE ?_);refine bZ ?_;refine .inr ⟨by decide, ?_⟩;refine .inl ⟨rfl, ?_⟩;simp only [iL] at h;refine aF (aC (tm Z46 (to (sn rfl) (aE ?_))));refine aBv rfl (fun I => ?_) (fun I => ?_)
            ·exact absurd I (by decide)
            ·refine bY ?_;simp only [lS] at h;exact ⟨((aZ.mk c.free (w64 (c.guarded + 1)) c.moved (w64 (c.covered + 1))), j), h, aS [0, 1] rfl rfl (aR ⟨rfl, rfl, rfl, rfl, rfl, trivial⟩)⟩
           ·refine aC (tfl 0 rfl rfl rD rfl aV (to (sar rfl rfl rfl) (tfl 0 rfl rfl aAt rfl aV (to (sar rfl rfl rfl) (to (sf rfl rD) (to (sst 0 rfl rfl sizeOf3 (aW (aZ.mk (w64 (c.free + 1)) c.guarded c.moved c.covered))) (to (sf rfl aAt) (to (sst 0 rfl rfl sizeOf3 (aW (aZ.mk (w64 (c.free + 1)) c.guarded (w64 (c.moved + 1)) c.covered))) (aE (aF (aC ?_)))))))))));refine ta Z46 (aE ?_);refine bZ ?_;refine .inr ⟨by decide, ?_⟩;refine .inl ⟨rfl, ?_⟩;simp only [iL] at h;refine aF (aC (tm Z46 (to (sn rfl) (aE ?_))));refine aBv rfl (fun J => ?_) (fun J => ?_)
            ·exact absurd J (by decide)
            ·refine bY ?_;simp only [lS] at h;exact ⟨((aZ.mk (w64 (c.free + 1)) c.guarded (w64 (c.moved + 1)) c.covered), j), h, aS [0, 1] rfl rfl (aR ⟨rfl, rfl, rfl, rfl, rfl, trivial⟩)⟩
   ·refine bZ ?_;refine .inl ⟨rfl, ?_⟩;simp only [iL] at h;refine aF (aC (tm (.b s) (to (sn rfl) (aE ?_))));refine tih h (fun T h => ?_) (fun T h => ?_)
    ·refine aF (aC (to (sla 0 (aW c) rfl rfl kT) (to (sst 1 rfl rfl sizeOf110 (aW c)) (ta Z21 (aE ?_)))));obtain rfl := sIn h;exact bS ⟨rfl, _, [.box b1 0 (aW c), .box b2 0 (aW c)], .two (.cell 5 110 rfl (i := 1) rfl kT (es := (aW c)) rfl rfl) (.tmp 6 (v := .b false) rfl), .refl _, .same _⟩
    ·refine bY ?_;simp only [lS] at h;exact ⟨(c, j), h, aS [0, 1] rfl rfl (aR ⟨rfl, rfl, rfl, rfl, rfl, trivial⟩)⟩
  ·refine bZ ?_;refine .inl ⟨rfl, ?_⟩;simp only [sA] at h;refine aF (aC (to (sla 0 (aW g) rfl rfl kT) (to (sst 1 rfl rfl sizeOf110 (aW g)) (ta Z21 (aE ?_)))));obtain rfl := sIn h;exact bS ⟨rfl, _, [.box b1 0 (aW g), .box b2 0 (aW g)], .two (.cell 5 110 rfl (i := 1) rfl kT (es := (aW g)) rfl rfl) (.tmp 6 (v := .b false) rfl), .refl _, .same _⟩

end Go.Am
