/- The functions compute what the shallow ones say: printed by program. -/
import Derived.Test.YtfdappeickbpeaaGreatEntryMustSimP1
namespace Go.Am
open Go.Proofs
set_option maxRecDepth 100000
set_option maxHeartbeats 40000000

theorem vR (c : aH) (e : aG) {r : aH} {o q : Nat} {g : Nat} {y : List Nat} {j : Nat} {u : Value} {s : Value} {t : Value} (h : kH c e = some r) : dI Tryz.prog 80 [.bp o q 0, .agg (aJ e)] (Z8 o q c g u s t y j) (fun r' o' => ∃ (a5 : List Nat) (a6 : Nat) (w2 : Value) (w4 : Value) (w5 : Value), r' = .tup [] ∧ o' = [.box o q [.j r.Field.Places, .j r.Field.Wilds, .j r.Field.Guards, .j r.Field.Close, .j r.Field.Freeze, .lit (.map (some g)), .lit w2, .k r.frozen, .lit w4, .lit w5, .j r.more, .j r.entered], .map g (r.players.map fun p : Int × aA => (VI p.1, (fun v : aA => AV.agg (aB v)) p.2)) a5 a6, .arr w2 3 1 (Z10 r), .arr w4 3 1 (Z9 r), .arr w5 3 1 (Z15 r)]) := by
 unfold kH at h;refine uQ Tryz.func80 rfl (rs := []) Tryz.results80 Tryz.ntmps80 (Nat.le_of_ble_eq_true rfl) ?_;refine aF (aC ?_);refine bO rfl (jM (v := .agg (aJ e)) (aK rfl) rfl rfl rfl) ?_;rintro _ ⟨b1, rfl⟩;refine aD (aF ?_);refine lS mix 8 [0, 3] (fun X2 => [(4, .bp (X2 7).b 0 0), (11, .agg (Z46 e c))]) (fun X2 => [.box o q [.j c.Field.Places, .j c.Field.Wilds, .j c.Field.Guards, .j c.Field.Close, .j c.Field.Freeze, .lit (.map (some g)), .lit u, .k c.frozen, .lit s, .lit t, .j c.more, .j c.entered], .map g (c.players.map fun p : Int × aA => (VI p.1, (fun v : aA => AV.agg (aB v)) p.2)) y j, .arr u 3 1 (Z10 c), .arr s 3 1 (Z9 c), .arr t 3 1 (Z15 c), .box b1 0 (aJ e), .box (X2 7).b 0 (aB Z2)]) ?_ ?_
 ·refine ⟨1, fun X2 => [(5, 0, .bp o q 0), (6, 1, .bp o q 0), (7, 2, .bp o q 5), (8, 3, .d (Z16 g)), (9, 4, .bp b1 0 3), (10, 5, .i e.Player), (11, 6, .agg (Z46 e c)), (4, 7, .bp (X2 7).b 0 0)], fun X2 => [([], .box o q [.j c.Field.Places, .j c.Field.Wilds, .j c.Field.Guards, .j c.Field.Close, .j c.Field.Freeze, .lit (.map (some g)), .lit u, .k c.frozen, .lit s, .lit t, .j c.more, .j c.entered]), ([], .map g (c.players.map fun p : Int × aA => (VI p.1, (fun v : aA => AV.agg (aB v)) p.2)) y j), ([], .arr u 3 1 (Z10 c)), ([], .arr s 3 1 (Z9 c)), ([], .arr t 3 1 (Z15 c)), ([], .box b1 0 (aJ e)), ([(7, .box (X2 7).b 0 (aB Z2))], nob)], ?_, ?_⟩
  · exact xok [(0, 0), (1, 0), (2, 0), (3, 0), (0, 0), (5, 0), (406, 0), (0, 0)] ⟨fun X2 S w _ k => xp w (ym k (.bp o q 0)),
      fun X2 S w _ k => xp w (bB (aK rfl) (aU k rfl)),
      fun X2 S w _ k => xp w (yf k rfl dL),
      fun X2 S w _ k => xp w (yl k 0 rfl (og k rfl rfl) rfl fF),
      fun X2 S w _ k => xp w (yf k rfl eH),
      fun X2 S w _ k => xp w (yl k 5 rfl (og k rfl rfl) rfl aV),
      fun X2 S w _ k => xp w (xH (av := (fun v : aA => AV.agg (aB v))) (l := c.players) (z := Z2) (a := e.Player) (m := 1) (aK rfl) gO Tryz.underlying68 Tryz.zeroValue94 (fun _ _ => .agg (iZ rfl)) (aU k rfl) (og k rfl rfl) rfl (aU k rfl) (cT (kv := VI) e.Player)),
      fun X2 S hw hi hS => tO (X := X2) (p := 6) (v := fun x => .bp x.b 0 0) (mo := fun x => .box x.b 0 (aB Z2)) hS hi rfl rfl (fun _ => rfl) hw (fun _ => rfl) (fun _ => rfl) (fun _ => rfl) (fun _ => ⟨rfl, rfl, .inr rfl, ⟨rfl, rfl, .inr rfl, ⟨rfl, rfl, .inr rfl, ⟨rfl, rfl, .inr rfl, ⟨rfl, rfl, .inr rfl, ⟨rfl, rfl, .inr rfl, ⟨rfl, rfl, .inr rfl, ⟨rfl, rfl, .inl rfl, trivial⟩⟩⟩⟩⟩⟩⟩⟩) (fun _ => ⟨trivial, rfl, ⟨trivial, rfl, ⟨trivial, rfl, ⟨trivial, rfl, ⟨trivial, rfl, ⟨trivial, rfl, ⟨⟨rfl, .inl rfl, trivial⟩, rfl, trivial⟩⟩⟩⟩⟩⟩⟩) (lR (fC (zs := [.k false, .k false, .j 0, .j 0, .k false, .k false, .k false, .k false]) (aK rfl) Tryz.zeroValue94 rfl rfl) (by rintro _ ⟨w, rfl⟩; exact ⟨⟨w, undef⟩, aT [0, 1, 2, 3, 4, 5, 7] rfl rfl (le_refl _)⟩)), trivial⟩
  · exact fun X2 => bV (aM rfl (aM rfl (aR ⟨rfl, rfl, trivial⟩)))
 ·intro X2;refine to (sst 6 rfl rfl Tryz.sizeOf94 (Z46 e c)) (aD (aF (aF (aC (tfl 5 rfl rfl wQ rfl aV (aD (bQ (aF (aF (aC (to (scm rfl rfl rfl) (ta (.b (decide (e.Kind = 1))) ?_))))))))))));refine aD ?_;refine tih h (fun c3 h => ?_) (fun c3 h => ?_)
  ·refine bE ?_;refine tih h (fun c4 h => ?_) (fun c4 h => ?_)
   ·refine aF ?_;refine cB mix 7 [0, 3, 4] [(18, .i e.Hour), (23, .i c.Field.Close)] ?_ ?_
    ·refine ⟨[(17, 0, .bp b1 0 1), (18, 1, .i e.Hour), (19, 2, .bp o q 0), (20, 3, .bp o q 0), (21, 4, .bp o q 0), (22, 5, .bp o q 3), (23, 6, .i c.Field.Close)], ?_, ?_⟩
     · exact dk [0, 1, 0, 3, 4, 5, 6] ⟨go (zf rfl eU),
      go (zl 5 rfl rfl rfl aV),
      go (zm (.bp o q 0)),
      go fun S hS => bB (aK rfl) (aU hS rfl),
      go (zf rfl fI),
      go (zf rfl tX),
      go (zl 0 rfl rfl rfl aV), trivial⟩
     · exact bV (aM rfl (aM rfl (aR ⟨rfl, rfl, rfl, trivial⟩)))
    ·refine to (scm rfl rfl rfl) (tm (.b (decide (e.Hour ≤ c.Field.Close))) ?_);obtain ⟨b5, h6, h⟩ := bns h;refine bG 4 [0, 3, 4] 29 b5 ?_ ?_
     ·refine bch h6 (fun c9 h6 => ?_) (fun c9 h6 => ?_)
      ·refine tkl 6 c9 rfl rfl wT rfl eV (tk c9 (sn rfl) (to (spt (.b (!((Z0 e c).entered))) c9) ?_));obtain rfl := sIn h6;refine aD (aS rfl ⟨rfl, rfl, rfl, trivial⟩ rfl)
      ·refine tp c9 (tp c9 (tp c9 (to (spf Z18 c9) ?_)));obtain rfl := sIn h6;refine aD (aS rfl ⟨rfl, rfl, rfl, trivial⟩ rfl)
     ·refine aD ?_;refine tih h (fun c7 h => ?_) (fun c7 h => ?_)
      ·refine aF (aC (tm (.bp o q 0) (to (bB (aK rfl) rfl) ?_)));refine tfl 0 rfl rfl uA rfl aV (to (sar rfl rfl rfl) (to (bB (aK rfl) rfl) ?_));refine to (sf rfl uA) (to (sst 0 rfl rfl Tryz.sizeOf3 [.j c.Field.Places, .j c.Field.Wilds, .j c.Field.Guards, .j c.Field.Close, .j c.Field.Freeze, .lit (.map (some g)), .lit u, .k c.frozen, .lit s, .lit t, .j c.more, .j (Z38 c)]) (aD ?_));refine lS mix 15 [0, 3, 4] (fun X8 => [(45, .i (Z38 c))]) (fun X8 => [.box o q [.j c.Field.Places, .j c.Field.Wilds, .j c.Field.Guards, .j c.Field.Close, .j c.Field.Freeze, .lit (.map (some g)), .lit u, .k c.frozen, .lit s, .lit t, .j c.more, .j (Z38 c)], .map g (c.players.map fun p : Int × aA => (VI p.1, (fun v : aA => AV.agg (aB v)) p.2)) y j, .arr u 3 1 (Z10 c), .arr s 3 1 (Z9 c), .arr t 3 1 (Z15 c), .box b1 0 (aJ e), .box (X2 7).b 0 (Z11 e c)]) ?_ ?_
       ·refine ⟨0, fun X8 => [(37, 0, .bp b1 0 2), (38, 1, .i e.Kind), (39, 2, .b (Z57 e)), (40, 3, .bp b1 0 4), (41, 4, .i e.Rank), (42, 5, .bp o q 0), (43, 6, .bp o q 0), (44, 7, .bp o q 11), (45, 8, .i (Z38 c)), (46, 9, .bp (X2 7).b 0 0), (47, 11, .bp (X2 7).b 0 1), (48, 13, .bp (X2 7).b 0 2)], fun X8 => [([], .box o q [.j c.Field.Places, .j c.Field.Wilds, .j c.Field.Guards, .j c.Field.Close, .j c.Field.Freeze, .lit (.map (some g)), .lit u, .k c.frozen, .lit s, .lit t, .j c.more, .j (Z38 c)]), ([], .map g (c.players.map fun p : Int × aA => (VI p.1, (fun v : aA => AV.agg (aB v)) p.2)) y j), ([], .arr u 3 1 (Z10 c)), ([], .arr s 3 1 (Z9 c)), ([], .arr t 3 1 (Z15 c)), ([], .box b1 0 (aJ e)), ([(14, .box (X2 7).b 0 (Z11 e c)), (12, .box (X2 7).b 0 (Z20 e c)), (10, .box (X2 7).b 0 (Z23 e c))], .box (X2 7).b 0 (Z46 e c))], ?_, ?_⟩
        · exact xok [(0, 1315), (1, 1315), (2, 1315), (0, 15), (4, 15), (0, 0), (6, 0), (7, 0), (8, 0), (0, 111315), (10, 1315), (11, 1315), (31112, 15), (1113, 15), (5111314, 0)] ⟨fun X8 S w _ k => xp w (yf k rfl wQ),
      fun X8 S w _ k => xp w (yl k 5 rfl (og k rfl rfl) rfl aV),
      fun X8 S w _ k => xp w (ycm k rfl rfl rfl),
      fun X8 S w _ k => xp w (yf k rfl mA),
      fun X8 S w _ k => xp w (yl k 5 rfl (og k rfl rfl) rfl aV),
      fun X8 S w _ k => xp w (ym k (.bp o q 0)),
      fun X8 S w _ k => xp w (bB (aK rfl) (aU k rfl)),
      fun X8 S w _ k => xp w (yf k rfl uA),
      fun X8 S w _ k => xp w (yl k 0 rfl (og k rfl rfl) rfl aV),
      fun X8 S w _ k => xp w (yf k rfl wT),
      fun X8 S w _ k => xs 6 k rfl rfl (lL (i := 6) (aU k rfl) (og k rfl rfl) rfl rfl rfl Tryz.sizeOf4 rfl (aK rfl) (Nat.le_of_ble_eq_true rfl) (ds' := (Z23 e c)) rfl),
      fun X8 S w _ k => xp w (yf k rfl zC),
      fun X8 S w _ k => xs 6 k rfl rfl (lL (i := 6) (aU k rfl) (og k rfl rfl) (aU k rfl) rfl rfl Tryz.sizeOf4 rfl (aK rfl) (Nat.le_of_ble_eq_true rfl) (ds' := (Z20 e c)) rfl),
      fun X8 S w _ k => xp w (yf k rfl wU),
      fun X8 S w _ k => xs 6 k rfl rfl (lL (i := 6) (aU k rfl) (og k rfl rfl) (aU k rfl) rfl rfl Tryz.sizeOf3 rfl (aK rfl) (Nat.le_of_ble_eq_true rfl) (ds' := (Z11 e c)) rfl), trivial⟩
        · exact fun X8 => bV (aM rfl (aR ⟨rfl, rfl, rfl, trivial⟩))
       ·intro X8;refine to (sf rfl zD) (to (sst 6 rfl rfl Tryz.sizeOf3 (aB (Z6 e c))) ?_);refine dA ?_;refine cB mix 7 [] [(134, .d (Z16 g)), (136, .i e.Player), (137, .agg (aB (Z6 e c)))] ?_ ?_
        ·refine ⟨[(131, 0, .bp o q 0), (132, 1, .bp o q 0), (133, 2, .bp o q 5), (134, 3, .d (Z16 g)), (135, 4, .bp b1 0 3), (136, 5, .i e.Player), (137, 6, .agg (aB (Z6 e c)))], ?_, ?_⟩
         · exact dk [0, 1, 2, 3, 0, 5, 0] ⟨go (zm (.bp o q 0)),
      go fun S hS => bB (aK rfl) (aU hS rfl),
      go (zf rfl dL),
      go (zl 0 rfl rfl rfl fF),
      go (zf rfl eH),
      go (zl 5 rfl rfl rfl aV),
      go (zla 6 (aB (Z6 e c)) rfl rfl kV), trivial⟩
         · exact bV (aM rfl (aM rfl (aM rfl (aR trivial))))
        ·refine to (eX (av := (fun v : aA => AV.agg (aB v))) (l := c.players) (v := (Z6 e c)) (a := e.Player) (m := 1) gO Tryz.underlying68 rfl rfl rfl rfl (cT (kv := VI) e.Player) rfl rfl) ?_;refine aD ?_;obtain rfl := sIn h;exact ⟨_, (Z30 o q c g u s t e y j), [.box b1 0 (aJ e), .box (X2 7).b 0 (aB (Z6 e c))], _, .none, .refl _, .same _, (Z25 e c y j), (Z24 e c j), u, s, t, rfl, rfl⟩
      ·refine cG ?_;refine cB mix 7 [] [(134, .d (Z16 g)), (136, .i e.Player), (137, .agg (Z46 e c))] ?_ ?_
       ·refine ⟨[(131, 0, .bp o q 0), (132, 1, .bp o q 0), (133, 2, .bp o q 5), (134, 3, .d (Z16 g)), (135, 4, .bp b1 0 3), (136, 5, .i e.Player), (137, 6, .agg (Z46 e c))], ?_, ?_⟩
        · exact dk [0, 1, 2, 3, 0, 5, 0] ⟨go (zm (.bp o q 0)),
      go fun S hS => bB (aK rfl) (aU hS rfl),
      go (zf rfl dL),
      go (zl 0 rfl rfl rfl fF),
      go (zf rfl eH),
      go (zl 5 rfl rfl rfl aV),
      go (zla 6 (Z46 e c) rfl rfl kV), trivial⟩
        · exact bV (aM rfl (aM rfl (aM rfl (aR trivial))))
       ·refine to (eX (av := (fun v : aA => AV.agg (aB v))) (l := c.players) (v := aE e.Player Z2 c.players) (a := e.Player) (m := 1) gO Tryz.underlying68 rfl rfl rfl rfl (cT (kv := VI) e.Player) rfl rfl) ?_;refine aD ?_;obtain rfl := sIn h;exact ⟨_, (Z4 o q c g u s t e y j), [.box b1 0 (aJ e), .box (X2 7).b 0 (Z46 e c)], _, .none, .refl _, .same _, (Z25 e c y j), (Z24 e c j), u, s, t, rfl, rfl⟩
   ·refine aF (aC (to (scm rfl rfl rfl) (ta (Z53 e) (aD ?_))));refine tih h (fun a7 h => ?_) (fun a7 h => ?_)
    ·refine aF ?_;obtain ⟨e4, T, h⟩ := bns h;obtain ⟨e5, O, h⟩ := bns h;obtain ⟨a8, M, h⟩ := bns h;refine cB mix 31 [0, 3, 4] [(82, .b a8)] ?_ ?_
     ·refine bch T (fun K T => ?_) (fun K T => ?_)
      ·obtain rfl := sIn T;refine bch O (fun G O => ?_) (fun G O => ?_)
       ·obtain rfl := sIn O;refine bch M (fun A M => ?_) (fun A M => ?_)
        ·obtain rfl := sIn M;refine ⟨[(52, 0, .bp b1 0 1), (53, 1, .i e.Hour), (54, 2, .bp o q 0), (55, 3, .bp o q 0), (56, 4, .bp o q 0), (57, 5, .bp o q 4), (58, 6, .i c.Field.Freeze), (59, 7, .b (Z13 e c)), (60, 8, .b (Z13 e c)), (61, 9, .bp (X2 7).b 0 6), (62, 10, .b (Z28 e c)), (63, 11, .b (!(Z28 e c))), (64, 12, .b (!(Z28 e c))), (65, 13, .b (!(Z28 e c))), (66, 14, .bp (X2 7).b 0 4), (67, 15, .b (Z39 e c)), (68, 16, .b (!(Z39 e c))), (69, 17, .b (!(Z39 e c))), (70, 18, .b (!(Z39 e c))), (71, 19, .bp o q 0), (72, 20, .bp o q 0), (73, 21, .bp o q 6), (74, 22, .d (.lit u)), (75, 23, .i (c.wilds.length : Int)), (76, 24, .bp o q 0), (77, 25, .bp o q 0), (78, 26, .bp o q 0), (79, 27, .bp o q 1), (80, 28, .i c.Field.Wilds), (81, 29, .b (Z29 c)), (82, 30, .b (Z29 c))], ?_, ?_⟩
         · exact dk [0, 1, 0, 3, 4, 5, 6, 207, 8, 9, 910, 911, 912, 13, 14, 1415, 1416, 1417, 18, 19, 1920, 1921, 1922, 1923, 19, 1925, 1926, 1927, 1928, 192429, 1930] ⟨go (zf rfl eU),
      go (zl 5 rfl rfl rfl aV),
      go (zm (.bp o q 0)),
      go fun S hS => bB (aK rfl) (aU hS rfl),
      go (zf rfl fI),
      go (zf rfl jT),
      go (zl 0 rfl rfl rfl aV),
      go (zcm rfl rfl rfl),
      go (zm (.b (Z13 e c))),
      gt K (zf rfl iW),
      gt K (zl 6 rfl rfl rfl eV),
      gt K (zn rfl),
      go (zpt (Z50 e c) K),
      go (zm (Z50 e c)),
      gt G (zf rfl pE),
      gt G (zl 6 rfl rfl rfl eV),
      gt G (zn rfl),
      go (zpt (.b (!(Z39 e c))) G),
      go (zm (.b (!(Z39 e c)))),
      gt A (zm (.bp o q 0)),
      gt A fun S hS => bB (aK rfl) (aU hS rfl),
      gt A (zf rfl iV),
      gt A (zl 0 rfl rfl rfl cX),
      gt A fun S hS => iP (m := 2) (aK rfl) (aU hS rfl) rfl bS.of,
      gt A (zm (.bp o q 0)),
      gt A fun S hS => bB (aK rfl) (aU hS rfl),
      gt A (zf rfl fI),
      gt A (zf rfl zB),
      gt A (zl 0 rfl rfl rfl aV),
      gt A (zcm rfl rfl rfl),
      go (zpt (.b (Z29 c)) A), trivial⟩
         · exact bV (aM rfl (aR ⟨rfl, rfl, rfl, trivial⟩))
        ·obtain rfl := sIn M;refine ⟨[(52, 0, .bp b1 0 1), (53, 1, .i e.Hour), (54, 2, .bp o q 0), (55, 3, .bp o q 0), (56, 4, .bp o q 0), (57, 5, .bp o q 4), (58, 6, .i c.Field.Freeze), (59, 7, .b (Z13 e c)), (60, 8, .b (Z13 e c)), (61, 9, .bp (X2 7).b 0 6), (62, 10, .b (Z28 e c)), (63, 11, .b (!(Z28 e c))), (64, 12, .b (!(Z28 e c))), (65, 13, .b (!(Z28 e c))), (66, 14, .bp (X2 7).b 0 4), (67, 15, .b (Z39 e c)), (68, 16, .b (!(Z39 e c))), (69, 17, .b (!(Z39 e c))), (70, 18, .b (!(Z39 e c))), (71, 19, .tup []), (72, 20, .tup []), (73, 21, .tup []), (74, 22, .tup []), (75, 23, .tup []), (76, 24, .tup []), (77, 25, .tup []), (78, 26, .tup []), (79, 27, .tup []), (80, 28, .tup []), (81, 29, .tup []), (82, 30, .b false)], ?_, ?_⟩
         · exact dk [0, 1, 0, 3, 4, 5, 6, 207, 8, 9, 910, 911, 912, 13, 14, 1415, 1416, 1417, 18, 19, 1920, 1921, 1922, 1923, 19, 1925, 1926, 1927, 1928, 192429, 1930] ⟨go (zf rfl eU),
      go (zl 5 rfl rfl rfl aV),
      go (zm (.bp o q 0)),
      go fun S hS => bB (aK rfl) (aU hS rfl),
      go (zf rfl fI),
      go (zf rfl jT),
      go (zl 0 rfl rfl rfl aV),
      go (zcm rfl rfl rfl),
      go (zm (.b (Z13 e c))),
      gt K (zf rfl iW),
      gt K (zl 6 rfl rfl rfl eV),
      gt K (zn rfl),
      go (zpt (Z50 e c) K),
      go (zm (Z50 e c)),
      gt G (zf rfl pE),
      gt G (zl 6 rfl rfl rfl eV),
      gt G (zn rfl),
      go (zpt (.b (!(Z39 e c))) G),
      go (zm (.b (!(Z39 e c)))),
      gp A,
      gp A,
      gp A,
      gp A,
      gp A,
      gp A,
      gp A,
      gp A,
      gp A,
      gp A,
      gp A,
      go (zpf Z18 A), trivial⟩
         · exact bV (aM rfl (aR ⟨rfl, rfl, rfl, trivial⟩))
       ·obtain rfl := sIn O;have A : false = false := rfl;have M := pQ A M;obtain rfl := sIn M;refine ⟨[(52, 0, .bp b1 0 1), (53, 1, .i e.Hour), (54, 2, .bp o q 0), (55, 3, .bp o q 0), (56, 4, .bp o q 0), (57, 5, .bp o q 4), (58, 6, .i c.Field.Freeze), (59, 7, .b (Z13 e c)), (60, 8, .b (Z13 e c)), (61, 9, .bp (X2 7).b 0 6), (62, 10, .b (Z28 e c)), (63, 11, .b (!(Z28 e c))), (64, 12, .b (!(Z28 e c))), (65, 13, .b (!(Z28 e c))), (66, 14, .tup []), (67, 15, .tup []), (68, 16, .tup []), (69, 17, .b false), (70, 18, .b (false)), (71, 19, .tup []), (72, 20, .tup []), (73, 21, .tup []), (74, 22, .tup []), (75, 23, .tup []), (76, 24, .tup []), (77, 25, .tup []), (78, 26, .tup []), (79, 27, .tup []), (80, 28, .tup []), (81, 29, .tup []), (82, 30, .b false)], ?_, ?_⟩
        · exact dk [0, 1, 0, 3, 4, 5, 6, 207, 8, 9, 910, 911, 912, 13, 14, 1415, 1416, 1417, 18, 19, 1920, 1921, 1922, 1923, 19, 1925, 1926, 1927, 1928, 192429, 1930] ⟨go (zf rfl eU),
      go (zl 5 rfl rfl rfl aV),
      go (zm (.bp o q 0)),
      go fun S hS => bB (aK rfl) (aU hS rfl),
      go (zf rfl fI),
      go (zf rfl jT),
      go (zl 0 rfl rfl rfl aV),
      go (zcm rfl rfl rfl),
      go (zm (.b (Z13 e c))),
      gt K (zf rfl iW),
      gt K (zl 6 rfl rfl rfl eV),
      gt K (zn rfl),
      go (zpt (Z50 e c) K),
      go (zm (Z50 e c)),
      gp G,
      gp G,
      gp G,
      go (zpf Z18 G),
      go (zm Z59),
      gp A,
      gp A,
      gp A,
      gp A,
      gp A,
      gp A,
      gp A,
      gp A,
      gp A,
      gp A,
      gp A,
      go (zpf Z18 A), trivial⟩
        · exact bV (aM rfl (aR ⟨rfl, rfl, rfl, trivial⟩))
      ·obtain rfl := sIn T;have G : false = false := rfl;have O := pQ G O;obtain rfl := sIn O;have A : false = false := rfl;have M := pQ A M;obtain rfl := sIn M;refine ⟨[(52, 0, .bp b1 0 1), (53, 1, .i e.Hour), (54, 2, .bp o q 0), (55, 3, .bp o q 0), (56, 4, .bp o q 0), (57, 5, .bp o q 4), (58, 6, .i c.Field.Freeze), (59, 7, .b (Z13 e c)), (60, 8, .b (Z13 e c)), (61, 9, .tup []), (62, 10, .tup []), (63, 11, .tup []), (64, 12, .b false), (65, 13, .b (false)), (66, 14, .tup []), (67, 15, .tup []), (68, 16, .tup []), (69, 17, .b false), (70, 18, .b (false)), (71, 19, .tup []), (72, 20, .tup []), (73, 21, .tup []), (74, 22, .tup []), (75, 23, .tup []), (76, 24, .tup []), (77, 25, .tup []), (78, 26, .tup []), (79, 27, .tup []), (80, 28, .tup []), (81, 29, .tup []), (82, 30, .b false)], ?_, ?_⟩
       · exact dk [0, 1, 0, 3, 4, 5, 6, 207, 8, 9, 910, 911, 912, 13, 14, 1415, 1416, 1417, 18, 19, 1920, 1921, 1922, 1923, 19, 1925, 1926, 1927, 1928, 192429, 1930] ⟨go (zf rfl eU),
      go (zl 5 rfl rfl rfl aV),
      go (zm (.bp o q 0)),
      go fun S hS => bB (aK rfl) (aU hS rfl),
      go (zf rfl fI),
      go (zf rfl jT),
      go (zl 0 rfl rfl rfl aV),
      go (zcm rfl rfl rfl),
      go (zm (.b (Z13 e c))),
      gp K,
      gp K,
      gp K,
      go (zpf Z18 K),
      go (zm Z59),
      gp G,
      gp G,
      gp G,
      go (zpf Z18 G),
      go (zm Z59),
      gp A,
      gp A,
      gp A,
      gp A,
      gp A,
      gp A,
      gp A,
      gp A,
      gp A,
      gp A,
      gp A,
      go (zpf Z18 A), trivial⟩
       · exact bV (aM rfl (aR ⟨rfl, rfl, rfl, trivial⟩))
     ·refine aD ?_;refine tih h (fun a9 h => ?_) (fun a9 h => ?_)
      ·refine aF (aC (to (sf rfl iW) (to (sst 6 rfl rfl Tryz.sizeOf4 (Z42 e c)) (to (sf rfl aDh) (to (sst 6 rfl rfl Tryz.sizeOf4 (aB (Z5 e c))) (aD ?_))))));obtain ⟨Z, b0, h⟩ := bns h;refine lS mix 9 [0, 3, 4] (fun C => [(85, .bp o q 0), (93, .d (.lit (C 8).v))]) (fun C => [.box o q [.j c.Field.Places, .j c.Field.Wilds, .j c.Field.Guards, .j c.Field.Close, .j c.Field.Freeze, .lit (.map (some g)), .lit u, .k c.frozen, .lit s, .lit t, .j c.more, .j c.entered], .map g (c.players.map fun p : Int × aA => (VI p.1, (fun v : aA => AV.agg (aB v)) p.2)) y j, .arr (C 8).v 3 1 (Z.map aI), .arr s 3 1 (Z9 c), .arr t 3 1 (Z15 c), .box b1 0 (aJ e), .box (X2 7).b 0 (aB (Z5 e c))]) ?_ ?_
       ·refine ⟨0, fun C => [(85, 0, .bp o q 0), (86, 1, .bp o q 0), (87, 2, .bp o q 0), (88, 3, .bp o q 6), (89, 4, .d (.lit u)), (90, 5, .bp b1 0 3), (91, 6, .i e.Player), (92, 7, .d (.sl 1 (([e.Player]).map aI))), (93, 8, .d (.lit (C 8).v))], fun C => [([], .box o q [.j c.Field.Places, .j c.Field.Wilds, .j c.Field.Guards, .j c.Field.Close, .j c.Field.Freeze, .lit (.map (some g)), .lit u, .k c.frozen, .lit s, .lit t, .j c.more, .j c.entered]), ([], .map g (c.players.map fun p : Int × aA => (VI p.1, (fun v : aA => AV.agg (aB v)) p.2)) y j), ([(8, .arr (C 8).v 3 1 (Z.map aI))], .arr u 3 1 (Z10 c)), ([], .arr s 3 1 (Z9 c)), ([], .arr t 3 1 (Z15 c)), ([], .box b1 0 (aJ e)), ([], .box (X2 7).b 0 (aB (Z5 e c)))], ?_, ?_⟩
        · exact xok [(0, 0), (0, 9), (2, 9), (3, 9), (4, 9), (0, 9), (6, 9), (7, 9), (508, 0)] ⟨fun C S w _ k => xp w (ym k (.bp o q 0)),
      fun C S w _ k => xp w (ym k (.bp o q 0)),
      fun C S w _ k => xp w (bB (aK rfl) (aU k rfl)),
      fun C S w _ k => xp w (yf k rfl iV),
      fun C S w _ k => xp w (yl k 0 rfl (og k rfl rfl) rfl cX),
      fun C S w _ k => xp w (yf k rfl eH),
      fun C S w _ k => xp w (yl k 5 rfl (og k rfl rfl) rfl aV),
      fun C S w _ k => xp w (gH (aK rfl) bS rfl (pa2 (aU k rfl) pan) (rows := ([e.Player]).map aI) rfl (aY (f := aI) fun _ => rfl) rfl (by decide)),
      fun C S hw hi hS => tO (X := C) (p := 2) (v := fun x => .d (.lit x.v)) (mo := fun x => .arr x.v 3 1 (Z.map aI)) hS hi rfl rfl (fun _ => rfl) hw (fun _ => rfl) (fun _ => rfl) (fun _ => rfl) (fun _ => ⟨rfl, rfl, .inr rfl, ⟨rfl, rfl, .inr rfl, ⟨rfl, rfl, .inr rfl, ⟨rfl, rfl, .inr rfl, ⟨rfl, rfl, .inr rfl, ⟨rfl, rfl, .inr rfl, ⟨rfl, rfl, .inr rfl, ⟨rfl, rfl, .inr rfl, ⟨rfl, rfl, .inl rfl, trivial⟩⟩⟩⟩⟩⟩⟩⟩⟩) (fun _ => ⟨trivial, rfl, ⟨trivial, rfl, ⟨⟨rfl, .inl rfl, trivial⟩, rfl, ⟨trivial, rfl, ⟨trivial, rfl, ⟨trivial, rfl, ⟨trivial, rfl, trivial⟩⟩⟩⟩⟩⟩⟩) (lR (kS (i := 2) (aK rfl) bS (aU hS rfl) (og hS rfl rfl) (aU hS rfl) (fun _ => rfl) b0 rfl) (by rintro _ ⟨w, rfl⟩; exact ⟨⟨0, w⟩, Ent.refl _⟩)), trivial⟩
        · exact fun C => bV (aM rfl (aM rfl (aR ⟨rfl, rfl, rfl, trivial⟩)))
       ·intro C;refine to (bB (aK rfl) rfl) ?_;refine to (sf rfl iV) (to (sst 0 rfl rfl Tryz.sizeOf25 [.j c.Field.Places, .j c.Field.Wilds, .j c.Field.Guards, .j c.Field.Close, .j c.Field.Freeze, .lit (.map (some g)), .lit (C 8).v, .k c.frozen, .lit s, .lit t, .j c.more, .j c.entered]) ?_);refine dA ?_;refine cB mix 7 [] [(134, .d (Z16 g)), (136, .i e.Player), (137, .agg (aB (Z5 e c)))] ?_ ?_
        ·refine ⟨[(131, 0, .bp o q 0), (132, 1, .bp o q 0), (133, 2, .bp o q 5), (134, 3, .d (Z16 g)), (135, 4, .bp b1 0 3), (136, 5, .i e.Player), (137, 6, .agg (aB (Z5 e c)))], ?_, ?_⟩
         · exact dk [0, 1, 2, 3, 0, 5, 0] ⟨go (zm (.bp o q 0)),
      go fun S hS => bB (aK rfl) (aU hS rfl),
      go (zf rfl dL),
      go (zl 0 rfl rfl rfl fF),
      go (zf rfl eH),
      go (zl 5 rfl rfl rfl aV),
      go (zla 6 (aB (Z5 e c)) rfl rfl kV), trivial⟩
         · exact bV (aM rfl (aM rfl (aM rfl (aR trivial))))
        ·refine to (eX (av := (fun v : aA => AV.agg (aB v))) (l := c.players) (v := (Z5 e c)) (a := e.Player) (m := 1) gO Tryz.underlying68 rfl rfl rfl rfl (cT (kv := VI) e.Player) rfl rfl) ?_;refine aD ?_;obtain rfl := sIn h;exact ⟨_, [.box o q [.j c.Field.Places, .j c.Field.Wilds, .j c.Field.Guards, .j c.Field.Close, .j c.Field.Freeze, .lit (.map (some g)), .lit (C 8).v, .k c.frozen, .lit s, .lit t, .j c.more, .j c.entered], .map g ((bY e.Player (Z5 e c) c.players).map fun p : Int × aA => (VI p.1, (fun v : aA => AV.agg (aB v)) p.2)) (Z25 e c y j) (Z24 e c j), .arr (C 8).v 3 1 (Z.map aI), .arr s 3 1 (Z9 c), .arr t 3 1 (Z15 c)], [.box b1 0 (aJ e), .box (X2 7).b 0 (aB (Z5 e c))], _, .none, .refl _, .same _, (Z25 e c y j), (Z24 e c j), (C 8).v, s, t, rfl, rfl⟩
      ·refine cG ?_;refine cB mix 7 [] [(134, .d (Z16 g)), (136, .i e.Player), (137, .agg (Z46 e c))] ?_ ?_
       ·refine ⟨[(131, 0, .bp o q 0), (132, 1, .bp o q 0), (133, 2, .bp o q 5), (134, 3, .d (Z16 g)), (135, 4, .bp b1 0 3), (136, 5, .i e.Player), (137, 6, .agg (Z46 e c))], ?_, ?_⟩
        · exact dk [0, 1, 2, 3, 0, 5, 0] ⟨go (zm (.bp o q 0)),
      go fun S hS => bB (aK rfl) (aU hS rfl),
      go (zf rfl dL),
      go (zl 0 rfl rfl rfl fF),
      go (zf rfl eH),
      go (zl 5 rfl rfl rfl aV),
      go (zla 6 (Z46 e c) rfl rfl kV), trivial⟩
        · exact bV (aM rfl (aM rfl (aM rfl (aR trivial))))
       ·refine to (eX (av := (fun v : aA => AV.agg (aB v))) (l := c.players) (v := aE e.Player Z2 c.players) (a := e.Player) (m := 1) gO Tryz.underlying68 rfl rfl rfl rfl (cT (kv := VI) e.Player) rfl rfl) ?_;refine aD ?_;obtain rfl := sIn h;exact ⟨_, (Z4 o q c g u s t e y j), [.box b1 0 (aJ e), .box (X2 7).b 0 (Z46 e c)], _, .none, .refl _, .same _, (Z25 e c y j), (Z24 e c j), u, s, t, rfl, rfl⟩
    ·refine aF (aC (to (scm rfl rfl rfl) (ta (Z54 e) (aD ?_))));refine tih h (fun b2 h => ?_) (fun b2 h => ?_)
     ·refine aF (aF ?_);obtain ⟨b3, U, h⟩ := bns h;refine cB mix 12 [0, 3, 4] [(109, .b b3)] ?_ ?_
      ·refine bch U (fun H U => ?_) (fun H U => ?_)
       ·obtain rfl := sIn U;refine ⟨[(98, 0, .bp (X2 7).b 0 6), (99, 1, .b (Z28 e c)), (100, 2, .b (Z28 e c)), (101, 3, .bp b1 0 1), (102, 4, .i e.Hour), (103, 5, .bp o q 0), (104, 6, .bp o q 0), (105, 7, .bp o q 0), (106, 8, .bp o q 4), (107, 9, .i c.Field.Freeze), (108, 10, .b (Z41 c e)), (109, 11, .b (Z41 c e))], ?_, ?_⟩
        · exact dk [0, 1, 2, 3, 304, 3, 306, 307, 308, 309, 30510, 311] ⟨go (zf rfl iW),
      go (zl 6 rfl rfl rfl eV),
      go (zm (.b (Z28 e c))),
      gt H (zf rfl eU),
      gt H (zl 5 rfl rfl rfl aV),
      gt H (zm (.bp o q 0)),
      gt H fun S hS => bB (aK rfl) (aU hS rfl),
      gt H (zf rfl fI),
      gt H (zf rfl jT),
      gt H (zl 0 rfl rfl rfl aV),
      gt H (zcm rfl rfl rfl),
      go (zpt (.b (Z41 c e)) H), trivial⟩
        · exact bV (aM rfl (aR ⟨rfl, rfl, rfl, trivial⟩))
       ·obtain rfl := sIn U;refine ⟨[(98, 0, .bp (X2 7).b 0 6), (99, 1, .b (Z28 e c)), (100, 2, .b (Z28 e c)), (101, 3, .tup []), (102, 4, .tup []), (103, 5, .tup []), (104, 6, .tup []), (105, 7, .tup []), (106, 8, .tup []), (107, 9, .tup []), (108, 10, .tup []), (109, 11, .b false)], ?_, ?_⟩
        · exact dk [0, 1, 2, 3, 304, 3, 306, 307, 308, 309, 30510, 311] ⟨go (zf rfl iW),
      go (zl 6 rfl rfl rfl eV),
      go (zm (.b (Z28 e c))),
      gp H,
      gp H,
      gp H,
      gp H,
      gp H,
      gp H,
      gp H,
      gp H,
      go (zpf Z18 H), trivial⟩
        · exact bV (aM rfl (aR ⟨rfl, rfl, rfl, trivial⟩))
      ·refine aD ?_;refine tih h (fun b4 h => ?_) (fun b4 h => ?_)
       ·refine aC (tm (.bp o q 0) (to (bB (aK rfl) rfl) ?_));refine tfl 0 rfl rfl wS rfl aV (to (sar rfl rfl rfl) (to (bB (aK rfl) rfl) ?_));refine to (sf rfl wS) (to (sst 0 rfl rfl Tryz.sizeOf3 [.j c.Field.Places, .j c.Field.Wilds, .j c.Field.Guards, .j c.Field.Close, .j c.Field.Freeze, .lit (.map (some g)), .lit u, .k c.frozen, .lit s, .lit t, .j (Z47 c), .j c.entered]) (aD (aF (aC (to (sf rfl pE) (to (sst 6 rfl rfl Tryz.sizeOf4 (Z21 e c)) (to (sf rfl iW) (to (sst 6 rfl rfl Tryz.sizeOf4 (Z52 e c)) (aD (aC (tm (.bp o q 0) (tm (.bp o q 0) (to (bB (aK rfl) rfl) ?_)))))))))))));refine tfl 0 rfl rfl iV rfl cX (to (pO (aK rfl) rfl rfl) ?_);refine dF (aT [0, 1, 2, 3, 4, 6, 5] rfl rfl (le_refl _)) ?_;apply sT [.box o q [.j c.Field.Places, .j c.Field.Wilds, .j c.Field.Guards, .j c.Field.Close, .j c.Field.Freeze, .lit (.map (some g)), .lit u, .k c.frozen, .lit s, .lit t, .j (Z47 c), .j c.entered], .map g (c.players.map fun p : Int × aA => (VI p.1, (fun v : aA => AV.agg (aB v)) p.2)) y j, .arr u 3 1 (Z10 c), .arr s 3 1 (Z9 c), .arr t 3 1 (Z15 c), .box (X2 7).b 0 (Z52 e c)] [.box b1 0 (aJ e)] rfl;exact cQ (k := 124) (v := .fn 108 (Z19 e)) (qJ (.cons (dO 0 rfl rfl (dvc (.same _) (dvc (.same _) (dvc (.same _) (dvc (.same _) (dvc (.same _) dvn)))))) .nil)) (cQ (k := 3) (v := .cp [.j e.Id, .j e.Hour, .j e.Kind, .j e.Player, .j e.Rank]) (dO 0 rfl rfl (dvc (.same _) (dvc (.same _) (dvc (.same _) (dvc (.same _) (dvc (.same _) dvn)))))) (jR _ _));obtain ⟨b6, b7, h⟩ := bns h;refine dF (aT [2, 0, 1, 3, 4, 5] rfl rfl (le_refl _)) ?_;refine bO rfl (iO (passed := [.arr u 3 1 (Z10 c)]) (aK rfl) rfl (.func _ _ Tryz.call64) rfl rfl (dV c.wilds (fun b8 => eP b8 e) 108 (Z19 e) Tryz.call108 (fun _ _ h => nF _ _ h) b7)) ?_;rintro _ ⟨_, _, ⟨a0, rfl, rfl⟩, rfl⟩;refine to (bB (aK rfl) rfl) ?_;refine to (sf rfl iV) (to (sst 1 rfl rfl Tryz.sizeOf25 [.j c.Field.Places, .j c.Field.Wilds, .j c.Field.Guards, .j c.Field.Close, .j c.Field.Freeze, .lit (.map (some g)), .lit a0, .k c.frozen, .lit s, .lit t, .j (Z47 c), .j c.entered]) ?_);refine dA ?_;refine cB mix 7 [] [(134, .d (Z16 g)), (136, .i e.Player), (137, .agg (Z52 e c))] ?_ ?_
        ·refine ⟨[(131, 0, .bp o q 0), (132, 1, .bp o q 0), (133, 2, .bp o q 5), (134, 3, .d (Z16 g)), (135, 4, .cp [.j e.Player]), (136, 5, .i e.Player), (137, 6, .agg (Z52 e c))], ?_, ?_⟩
         · exact dk [0, 1, 2, 3, 0, 5, 0] ⟨go (zm (.bp o q 0)),
      go fun S hS => bB (aK rfl) (aU hS rfl),
      go (zf rfl dL),
      go (zl 1 rfl rfl rfl fF),
      go (zfc [.j e.Player] rfl eH),
      go (zlc rfl aV),
      go (zla 5 (Z52 e c) rfl rfl kV), trivial⟩
         · exact bV (aM rfl (aM rfl (aM rfl (aR trivial))))
        ·refine to (eX (av := (fun v : aA => AV.agg (aB v))) (l := c.players) (v := (Z3 e c)) (a := e.Player) (m := 2) gO Tryz.underlying68 rfl rfl rfl rfl (cT (kv := VI) e.Player) rfl rfl) ?_;refine aD ?_;obtain rfl := sIn h;exact ⟨_, [.box o q [.j c.Field.Places, .j c.Field.Wilds, .j c.Field.Guards, .j c.Field.Close, .j c.Field.Freeze, .lit (.map (some g)), .lit a0, .k c.frozen, .lit s, .lit t, .j (Z47 c), .j c.entered], .map g ((Z60 e c).map fun p : Int × aA => (VI p.1, (fun v : aA => AV.agg (aB v)) p.2)) (Z25 e c y j) (Z24 e c j), .arr a0 3 1 (b6.map aI), .arr s 3 1 (Z9 c), .arr t 3 1 (Z15 c)], [.box (X2 7).b 0 (Z52 e c)], _, .none, (cZ (i := 1) rfl).trans (.cons _ ((cZ (i := 1) rfl).trans (.cons _ ((cZ (i := 0) rfl).trans (.cons _ ((cZ (i := 0) rfl).trans (.cons _ ((cZ (i := 0) rfl).trans (.cons _ ((cZ (i := 0) rfl).trans (.cons _ (.refl _)))))))))))), .same _, (Z25 e c y j), (Z24 e c j), a0, s, t, rfl, rfl⟩
       ·refine bE (aF (aC (to (sf rfl pE) (to (sst 6 rfl rfl Tryz.sizeOf4 (Z21 e c)) (to (sf rfl iW) (to (sst 6 rfl rfl Tryz.sizeOf4 (Z52 e c)) (aD (aC (tm (.bp o q 0) (tm (.bp o q 0) (to (bB (aK rfl) rfl) ?_)))))))))));refine tfl 0 rfl rfl iV rfl cX (to (pO (aK rfl) rfl rfl) ?_);refine dF (aT [0, 1, 2, 3, 4, 6, 5] rfl rfl (le_refl _)) ?_;apply sT [.box o q [.j c.Field.Places, .j c.Field.Wilds, .j c.Field.Guards, .j c.Field.Close, .j c.Field.Freeze, .lit (.map (some g)), .lit u, .k c.frozen, .lit s, .lit t, .j c.more, .j c.entered], .map g (c.players.map fun p : Int × aA => (VI p.1, (fun v : aA => AV.agg (aB v)) p.2)) y j, .arr u 3 1 (Z10 c), .arr s 3 1 (Z9 c), .arr t 3 1 (Z15 c), .box (X2 7).b 0 (Z52 e c)] [.box b1 0 (aJ e)] rfl;exact cQ (k := 124) (v := .fn 108 (Z19 e)) (qJ (.cons (dO 0 rfl rfl (dvc (.same _) (dvc (.same _) (dvc (.same _) (dvc (.same _) (dvc (.same _) dvn)))))) .nil)) (cQ (k := 3) (v := .cp [.j e.Id, .j e.Hour, .j e.Kind, .j e.Player, .j e.Rank]) (dO 0 rfl rfl (dvc (.same _) (dvc (.same _) (dvc (.same _) (dvc (.same _) (dvc (.same _) dvn)))))) (jR _ _));obtain ⟨b9, c0, h⟩ := bns h;refine dF (aT [2, 0, 1, 3, 4, 5] rfl rfl (le_refl _)) ?_;refine bO rfl (iO (passed := [.arr u 3 1 (Z10 c)]) (aK rfl) rfl (.func _ _ Tryz.call64) rfl rfl (dV c.wilds (fun c1 => eP c1 e) 108 (Z19 e) Tryz.call108 (fun _ _ h => nF _ _ h) c0)) ?_;rintro _ ⟨_, _, ⟨a1, rfl, rfl⟩, rfl⟩;refine to (bB (aK rfl) rfl) ?_;refine to (sf rfl iV) (to (sst 1 rfl rfl Tryz.sizeOf25 [.j c.Field.Places, .j c.Field.Wilds, .j c.Field.Guards, .j c.Field.Close, .j c.Field.Freeze, .lit (.map (some g)), .lit a1, .k c.frozen, .lit s, .lit t, .j c.more, .j c.entered]) ?_);refine dA ?_;refine cB mix 7 [] [(134, .d (Z16 g)), (136, .i e.Player), (137, .agg (Z52 e c))] ?_ ?_
        ·refine ⟨[(131, 0, .bp o q 0), (132, 1, .bp o q 0), (133, 2, .bp o q 5), (134, 3, .d (Z16 g)), (135, 4, .cp [.j e.Player]), (136, 5, .i e.Player), (137, 6, .agg (Z52 e c))], ?_, ?_⟩
         · exact dk [0, 1, 2, 3, 0, 5, 0] ⟨go (zm (.bp o q 0)),
      go fun S hS => bB (aK rfl) (aU hS rfl),
      go (zf rfl dL),
      go (zl 1 rfl rfl rfl fF),
      go (zfc [.j e.Player] rfl eH),
      go (zlc rfl aV),
      go (zla 5 (Z52 e c) rfl rfl kV), trivial⟩
         · exact bV (aM rfl (aM rfl (aM rfl (aR trivial))))
        ·refine to (eX (av := (fun v : aA => AV.agg (aB v))) (l := c.players) (v := (Z3 e c)) (a := e.Player) (m := 2) gO Tryz.underlying68 rfl rfl rfl rfl (cT (kv := VI) e.Player) rfl rfl) ?_;refine aD ?_;obtain rfl := sIn h;exact ⟨_, [.box o q [.j c.Field.Places, .j c.Field.Wilds, .j c.Field.Guards, .j c.Field.Close, .j c.Field.Freeze, .lit (.map (some g)), .lit a1, .k c.frozen, .lit s, .lit t, .j c.more, .j c.entered], .map g ((Z60 e c).map fun p : Int × aA => (VI p.1, (fun v : aA => AV.agg (aB v)) p.2)) (Z25 e c y j) (Z24 e c j), .arr a1 3 1 (b9.map aI), .arr s 3 1 (Z9 c), .arr t 3 1 (Z15 c)], [.box (X2 7).b 0 (Z52 e c)], _, .none, (cZ (i := 1) rfl).trans (.cons _ ((cZ (i := 1) rfl).trans (.cons _ ((cZ (i := 0) rfl).trans (.cons _ ((cZ (i := 0) rfl).trans (.cons _ ((cZ (i := 0) rfl).trans (.cons _ ((cZ (i := 0) rfl).trans (.cons _ (.refl _)))))))))))), .same _, (Z25 e c y j), (Z24 e c j), a1, s, t, rfl, rfl⟩
     ·refine aF (aC (to (scm rfl rfl rfl) (ta (Z55 e) (aD ?_))));refine tih h (fun c2 h => ?_) (fun c2 h => ?_)
      ·refine aC (to (sf rfl uB) (to (sst 6 rfl rfl Tryz.sizeOf4 (aB (Z7 e c))) ?_));refine dA ?_;refine cB mix 7 [] [(134, .d (Z16 g)), (136, .i e.Player), (137, .agg (aB (Z7 e c)))] ?_ ?_
       ·refine ⟨[(131, 0, .bp o q 0), (132, 1, .bp o q 0), (133, 2, .bp o q 5), (134, 3, .d (Z16 g)), (135, 4, .bp b1 0 3), (136, 5, .i e.Player), (137, 6, .agg (aB (Z7 e c)))], ?_, ?_⟩
        · exact dk [0, 1, 2, 3, 0, 5, 0] ⟨go (zm (.bp o q 0)),
      go fun S hS => bB (aK rfl) (aU hS rfl),
      go (zf rfl dL),
      go (zl 0 rfl rfl rfl fF),
      go (zf rfl eH),
      go (zl 5 rfl rfl rfl aV),
      go (zla 6 (aB (Z7 e c)) rfl rfl kV), trivial⟩
        · exact bV (aM rfl (aM rfl (aM rfl (aR trivial))))
       ·refine to (eX (av := (fun v : aA => AV.agg (aB v))) (l := c.players) (v := (Z7 e c)) (a := e.Player) (m := 1) gO Tryz.underlying68 rfl rfl rfl rfl (cT (kv := VI) e.Player) rfl rfl) ?_;refine aD ?_;obtain rfl := sIn h;exact ⟨_, (Z33 o q c g u s t e y j), [.box b1 0 (aJ e), .box (X2 7).b 0 (aB (Z7 e c))], _, .none, .refl _, .same _, (Z25 e c y j), (Z24 e c j), u, s, t, rfl, rfl⟩
      ·refine cG ?_;refine cB mix 7 [] [(134, .d (Z16 g)), (136, .i e.Player), (137, .agg (Z46 e c))] ?_ ?_
       ·refine ⟨[(131, 0, .bp o q 0), (132, 1, .bp o q 0), (133, 2, .bp o q 5), (134, 3, .d (Z16 g)), (135, 4, .bp b1 0 3), (136, 5, .i e.Player), (137, 6, .agg (Z46 e c))], ?_, ?_⟩
        · exact dk [0, 1, 2, 3, 0, 5, 0] ⟨go (zm (.bp o q 0)),
      go fun S hS => bB (aK rfl) (aU hS rfl),
      go (zf rfl dL),
      go (zl 0 rfl rfl rfl fF),
      go (zf rfl eH),
      go (zl 5 rfl rfl rfl aV),
      go (zla 6 (Z46 e c) rfl rfl kV), trivial⟩
        · exact bV (aM rfl (aM rfl (aM rfl (aR trivial))))
       ·refine to (eX (av := (fun v : aA => AV.agg (aB v))) (l := c.players) (v := aE e.Player Z2 c.players) (a := e.Player) (m := 1) gO Tryz.underlying68 rfl rfl rfl rfl (cT (kv := VI) e.Player) rfl rfl) ?_;refine aD ?_;obtain rfl := sIn h;exact ⟨_, (Z4 o q c g u s t e y j), [.box b1 0 (aJ e), .box (X2 7).b 0 (Z46 e c)], _, .none, .refl _, .same _, (Z25 e c y j), (Z24 e c j), u, s, t, rfl, rfl⟩
  ·refine aC (to (scm rfl rfl rfl) (ta (.b (Z57 e)) (aD ?_)));refine tih h (fun c5 h => ?_) (fun c5 h => ?_)
   ·refine aF ?_;refine cB mix 7 [0, 3, 4] [(18, .i e.Hour), (23, .i c.Field.Close)] ?_ ?_
    ·refine ⟨[(17, 0, .bp b1 0 1), (18, 1, .i e.Hour), (19, 2, .bp o q 0), (20, 3, .bp o q 0), (21, 4, .bp o q 0), (22, 5, .bp o q 3), (23, 6, .i c.Field.Close)], ?_, ?_⟩
     · exact dk [0, 1, 0, 3, 4, 5, 6] ⟨go (zf rfl eU),
      go (zl 5 rfl rfl rfl aV),
      go (zm (.bp o q 0)),
      go fun S hS => bB (aK rfl) (aU hS rfl),
      go (zf rfl fI),
      go (zf rfl tX),
      go (zl 0 rfl rfl rfl aV), trivial⟩
     · exact bV (aM rfl (aM rfl (aR ⟨rfl, rfl, rfl, trivial⟩)))
    ·refine to (scm rfl rfl rfl) (tm (.b (decide (e.Hour ≤ c.Field.Close))) ?_);obtain ⟨c6, V, h⟩ := bns h;refine bG 4 [0, 3, 4] 29 c6 ?_ ?_
     ·refine bch V (fun P V => ?_) (fun P V => ?_)
      ·refine tkl 6 P rfl rfl wT rfl eV (tk P (sn rfl) (to (spt (.b (!((Z0 e c).entered))) P) ?_));obtain rfl := sIn V;refine aD (aS rfl ⟨rfl, rfl, rfl, trivial⟩ rfl)
      ·refine tp P (tp P (tp P (to (spf Z18 P) ?_)));obtain rfl := sIn V;refine aD (aS rfl ⟨rfl, rfl, rfl, trivial⟩ rfl)
     ·refine aD ?_;refine tih h (fun c8 h => ?_) (fun c8 h => ?_)
      ·refine aF (aC (tm (.bp o q 0) (to (bB (aK rfl) rfl) ?_)));refine tfl 0 rfl rfl uA rfl aV (to (sar rfl rfl rfl) (to (bB (aK rfl) rfl) ?_));refine to (sf rfl uA) (to (sst 0 rfl rfl Tryz.sizeOf3 [.j c.Field.Places, .j c.Field.Wilds, .j c.Field.Guards, .j c.Field.Close, .j c.Field.Freeze, .lit (.map (some g)), .lit u, .k c.frozen, .lit s, .lit t, .j c.more, .j (Z38 c)]) (aD ?_));refine lS mix 15 [0, 3, 4] (fun F => [(45, .i (Z38 c))]) (fun F => [.box o q [.j c.Field.Places, .j c.Field.Wilds, .j c.Field.Guards, .j c.Field.Close, .j c.Field.Freeze, .lit (.map (some g)), .lit u, .k c.frozen, .lit s, .lit t, .j c.more, .j (Z38 c)], .map g (c.players.map fun p : Int × aA => (VI p.1, (fun v : aA => AV.agg (aB v)) p.2)) y j, .arr u 3 1 (Z10 c), .arr s 3 1 (Z9 c), .arr t 3 1 (Z15 c), .box b1 0 (aJ e), .box (X2 7).b 0 (Z11 e c)]) ?_ ?_
       ·refine ⟨0, fun F => [(37, 0, .bp b1 0 2), (38, 1, .i e.Kind), (39, 2, .b (Z57 e)), (40, 3, .bp b1 0 4), (41, 4, .i e.Rank), (42, 5, .bp o q 0), (43, 6, .bp o q 0), (44, 7, .bp o q 11), (45, 8, .i (Z38 c)), (46, 9, .bp (X2 7).b 0 0), (47, 11, .bp (X2 7).b 0 1), (48, 13, .bp (X2 7).b 0 2)], fun F => [([], .box o q [.j c.Field.Places, .j c.Field.Wilds, .j c.Field.Guards, .j c.Field.Close, .j c.Field.Freeze, .lit (.map (some g)), .lit u, .k c.frozen, .lit s, .lit t, .j c.more, .j (Z38 c)]), ([], .map g (c.players.map fun p : Int × aA => (VI p.1, (fun v : aA => AV.agg (aB v)) p.2)) y j), ([], .arr u 3 1 (Z10 c)), ([], .arr s 3 1 (Z9 c)), ([], .arr t 3 1 (Z15 c)), ([], .box b1 0 (aJ e)), ([(14, .box (X2 7).b 0 (Z11 e c)), (12, .box (X2 7).b 0 (Z20 e c)), (10, .box (X2 7).b 0 (Z23 e c))], .box (X2 7).b 0 (Z46 e c))], ?_, ?_⟩
        · exact xok [(0, 1315), (1, 1315), (2, 1315), (0, 15), (4, 15), (0, 0), (6, 0), (7, 0), (8, 0), (0, 111315), (10, 1315), (11, 1315), (31112, 15), (1113, 15), (5111314, 0)] ⟨fun F S w _ k => xp w (yf k rfl wQ),
      fun F S w _ k => xp w (yl k 5 rfl (og k rfl rfl) rfl aV),
      fun F S w _ k => xp w (ycm k rfl rfl rfl),
      fun F S w _ k => xp w (yf k rfl mA),
      fun F S w _ k => xp w (yl k 5 rfl (og k rfl rfl) rfl aV),
      fun F S w _ k => xp w (ym k (.bp o q 0)),
      fun F S w _ k => xp w (bB (aK rfl) (aU k rfl)),
      fun F S w _ k => xp w (yf k rfl uA),
      fun F S w _ k => xp w (yl k 0 rfl (og k rfl rfl) rfl aV),
      fun F S w _ k => xp w (yf k rfl wT),
      fun F S w _ k => xs 6 k rfl rfl (lL (i := 6) (aU k rfl) (og k rfl rfl) rfl rfl rfl Tryz.sizeOf4 rfl (aK rfl) (Nat.le_of_ble_eq_true rfl) (ds' := (Z23 e c)) rfl),
      fun F S w _ k => xp w (yf k rfl zC),
      fun F S w _ k => xs 6 k rfl rfl (lL (i := 6) (aU k rfl) (og k rfl rfl) (aU k rfl) rfl rfl Tryz.sizeOf4 rfl (aK rfl) (Nat.le_of_ble_eq_true rfl) (ds' := (Z20 e c)) rfl),
      fun F S w _ k => xp w (yf k rfl wU),
      fun F S w _ k => xs 6 k rfl rfl (lL (i := 6) (aU k rfl) (og k rfl rfl) (aU k rfl) rfl rfl Tryz.sizeOf3 rfl (aK rfl) (Nat.le_of_ble_eq_true rfl) (ds' := (Z11 e c)) rfl), trivial⟩
        · exact fun F => bV (aM rfl (aR ⟨rfl, rfl, rfl, trivial⟩))
       ·intro F;refine to (sf rfl zD) (to (sst 6 rfl rfl Tryz.sizeOf3 (aB (Z6 e c))) ?_);refine dA ?_;refine cB mix 7 [] [(134, .d (Z16 g)), (136, .i e.Player), (137, .agg (aB (Z6 e c)))] ?_ ?_
        ·refine ⟨[(131, 0, .bp o q 0), (132, 1, .bp o q 0), (133, 2, .bp o q 5), (134, 3, .d (Z16 g)), (135, 4, .bp b1 0 3), (136, 5, .i e.Player), (137, 6, .agg (aB (Z6 e c)))], ?_, ?_⟩
         · exact dk [0, 1, 2, 3, 0, 5, 0] ⟨go (zm (.bp o q 0)),
      go fun S hS => bB (aK rfl) (aU hS rfl),
      go (zf rfl dL),
      go (zl 0 rfl rfl rfl fF),
      go (zf rfl eH),
      go (zl 5 rfl rfl rfl aV),
      go (zla 6 (aB (Z6 e c)) rfl rfl kV), trivial⟩
         · exact bV (aM rfl (aM rfl (aM rfl (aR trivial))))
        ·refine to (eX (av := (fun v : aA => AV.agg (aB v))) (l := c.players) (v := (Z6 e c)) (a := e.Player) (m := 1) gO Tryz.underlying68 rfl rfl rfl rfl (cT (kv := VI) e.Player) rfl rfl) ?_;refine aD ?_;obtain rfl := sIn h;exact ⟨_, (Z30 o q c g u s t e y j), [.box b1 0 (aJ e), .box (X2 7).b 0 (aB (Z6 e c))], _, .none, .refl _, .same _, (Z25 e c y j), (Z24 e c j), u, s, t, rfl, rfl⟩
      ·refine cG ?_;refine cB mix 7 [] [(134, .d (Z16 g)), (136, .i e.Player), (137, .agg (Z46 e c))] ?_ ?_
       ·refine ⟨[(131, 0, .bp o q 0), (132, 1, .bp o q 0), (133, 2, .bp o q 5), (134, 3, .d (Z16 g)), (135, 4, .bp b1 0 3), (136, 5, .i e.Player), (137, 6, .agg (Z46 e c))], ?_, ?_⟩
        · exact dk [0, 1, 2, 3, 0, 5, 0] ⟨go (zm (.bp o q 0)),
      go fun S hS => bB (aK rfl) (aU hS rfl),
      go (zf rfl dL),
      go (zl 0 rfl rfl rfl fF),
      go (zf rfl eH),
      go (zl 5 rfl rfl rfl aV),
      go (zla 6 (Z46 e c) rfl rfl kV), trivial⟩
        · exact bV (aM rfl (aM rfl (aM rfl (aR trivial))))
       ·refine to (eX (av := (fun v : aA => AV.agg (aB v))) (l := c.players) (v := aE e.Player Z2 c.players) (a := e.Player) (m := 1) gO Tryz.underlying68 rfl rfl rfl rfl (cT (kv := VI) e.Player) rfl rfl) ?_;refine aD ?_;obtain rfl := sIn h;exact ⟨_, (Z4 o q c g u s t e y j), [.box b1 0 (aJ e), .box (X2 7).b 0 (Z46 e c)], _, .none, .refl _, .same _, (Z25 e c y j), (Z24 e c j), u, s, t, rfl, rfl⟩
   ·refine aF (aC (to (scm rfl rfl rfl) (ta (Z53 e) (aD ?_))));refine tih h (fun d0 h => ?_) (fun d0 h => ?_)
    ·refine aF ?_;obtain ⟨e6, W, h⟩ := bns h;obtain ⟨e7, Q, h⟩ := bns h;obtain ⟨d1, N, h⟩ := bns h;refine cB mix 31 [0, 3, 4] [(82, .b d1)] ?_ ?_
     ·refine bch W (fun L W => ?_) (fun L W => ?_)
      ·obtain rfl := sIn W;refine bch Q (fun I Q => ?_) (fun I Q => ?_)
       ·obtain rfl := sIn Q;refine bch N (fun B N => ?_) (fun B N => ?_)
        ·obtain rfl := sIn N;refine ⟨[(52, 0, .bp b1 0 1), (53, 1, .i e.Hour), (54, 2, .bp o q 0), (55, 3, .bp o q 0), (56, 4, .bp o q 0), (57, 5, .bp o q 4), (58, 6, .i c.Field.Freeze), (59, 7, .b (Z13 e c)), (60, 8, .b (Z13 e c)), (61, 9, .bp (X2 7).b 0 6), (62, 10, .b (Z28 e c)), (63, 11, .b (!(Z28 e c))), (64, 12, .b (!(Z28 e c))), (65, 13, .b (!(Z28 e c))), (66, 14, .bp (X2 7).b 0 4), (67, 15, .b (Z39 e c)), (68, 16, .b (!(Z39 e c))), (69, 17, .b (!(Z39 e c))), (70, 18, .b (!(Z39 e c))), (71, 19, .bp o q 0), (72, 20, .bp o q 0), (73, 21, .bp o q 6), (74, 22, .d (.lit u)), (75, 23, .i (c.wilds.length : Int)), (76, 24, .bp o q 0), (77, 25, .bp o q 0), (78, 26, .bp o q 0), (79, 27, .bp o q 1), (80, 28, .i c.Field.Wilds), (81, 29, .b (Z29 c)), (82, 30, .b (Z29 c))], ?_, ?_⟩
         · exact dk [0, 1, 0, 3, 4, 5, 6, 207, 8, 9, 910, 911, 912, 13, 14, 1415, 1416, 1417, 18, 19, 1920, 1921, 1922, 1923, 19, 1925, 1926, 1927, 1928, 192429, 1930] ⟨go (zf rfl eU),
      go (zl 5 rfl rfl rfl aV),
      go (zm (.bp o q 0)),
      go fun S hS => bB (aK rfl) (aU hS rfl),
      go (zf rfl fI),
      go (zf rfl jT),
      go (zl 0 rfl rfl rfl aV),
      go (zcm rfl rfl rfl),
      go (zm (.b (Z13 e c))),
      gt L (zf rfl iW),
      gt L (zl 6 rfl rfl rfl eV),
      gt L (zn rfl),
      go (zpt (Z50 e c) L),
      go (zm (Z50 e c)),
      gt I (zf rfl pE),
      gt I (zl 6 rfl rfl rfl eV),
      gt I (zn rfl),
      go (zpt (.b (!(Z39 e c))) I),
      go (zm (.b (!(Z39 e c)))),
      gt B (zm (.bp o q 0)),
      gt B fun S hS => bB (aK rfl) (aU hS rfl),
      gt B (zf rfl iV),
      gt B (zl 0 rfl rfl rfl cX),
      gt B fun S hS => iP (m := 2) (aK rfl) (aU hS rfl) rfl bS.of,
      gt B (zm (.bp o q 0)),
      gt B fun S hS => bB (aK rfl) (aU hS rfl),
      gt B (zf rfl fI),
      gt B (zf rfl zB),
      gt B (zl 0 rfl rfl rfl aV),
      gt B (zcm rfl rfl rfl),
      go (zpt (.b (Z29 c)) B), trivial⟩
         · exact bV (aM rfl (aR ⟨rfl, rfl, rfl, trivial⟩))
        ·obtain rfl := sIn N;refine ⟨[(52, 0, .bp b1 0 1), (53, 1, .i e.Hour), (54, 2, .bp o q 0), (55, 3, .bp o q 0), (56, 4, .bp o q 0), (57, 5, .bp o q 4), (58, 6, .i c.Field.Freeze), (59, 7, .b (Z13 e c)), (60, 8, .b (Z13 e c)), (61, 9, .bp (X2 7).b 0 6), (62, 10, .b (Z28 e c)), (63, 11, .b (!(Z28 e c))), (64, 12, .b (!(Z28 e c))), (65, 13, .b (!(Z28 e c))), (66, 14, .bp (X2 7).b 0 4), (67, 15, .b (Z39 e c)), (68, 16, .b (!(Z39 e c))), (69, 17, .b (!(Z39 e c))), (70, 18, .b (!(Z39 e c))), (71, 19, .tup []), (72, 20, .tup []), (73, 21, .tup []), (74, 22, .tup []), (75, 23, .tup []), (76, 24, .tup []), (77, 25, .tup []), (78, 26, .tup []), (79, 27, .tup []), (80, 28, .tup []), (81, 29, .tup []), (82, 30, .b false)], ?_, ?_⟩
         · exact dk [0, 1, 0, 3, 4, 5, 6, 207, 8, 9, 910, 911, 912, 13, 14, 1415, 1416, 1417, 18, 19, 1920, 1921, 1922, 1923, 19, 1925, 1926, 1927, 1928, 192429, 1930] ⟨go (zf rfl eU),
      go (zl 5 rfl rfl rfl aV),
      go (zm (.bp o q 0)),
      go fun S hS => bB (aK rfl) (aU hS rfl),
      go (zf rfl fI),
      go (zf rfl jT),
      go (zl 0 rfl rfl rfl aV),
      go (zcm rfl rfl rfl),
      go (zm (.b (Z13 e c))),
      gt L (zf rfl iW),
      gt L (zl 6 rfl rfl rfl eV),
      gt L (zn rfl),
      go (zpt (Z50 e c) L),
      go (zm (Z50 e c)),
      gt I (zf rfl pE),
      gt I (zl 6 rfl rfl rfl eV),
      gt I (zn rfl),
      go (zpt (.b (!(Z39 e c))) I),
      go (zm (.b (!(Z39 e c)))),
      gp B,
      gp B,
      gp B,
      gp B,
      gp B,
      gp B,
      gp B,
      gp B,
      gp B,
      gp B,
      gp B,
      go (zpf Z18 B), trivial⟩
         · exact bV (aM rfl (aR ⟨rfl, rfl, rfl, trivial⟩))
       ·obtain rfl := sIn Q;have B : false = false := rfl;have N := pQ B N;obtain rfl := sIn N;refine ⟨[(52, 0, .bp b1 0 1), (53, 1, .i e.Hour), (54, 2, .bp o q 0), (55, 3, .bp o q 0), (56, 4, .bp o q 0), (57, 5, .bp o q 4), (58, 6, .i c.Field.Freeze), (59, 7, .b (Z13 e c)), (60, 8, .b (Z13 e c)), (61, 9, .bp (X2 7).b 0 6), (62, 10, .b (Z28 e c)), (63, 11, .b (!(Z28 e c))), (64, 12, .b (!(Z28 e c))), (65, 13, .b (!(Z28 e c))), (66, 14, .tup []), (67, 15, .tup []), (68, 16, .tup []), (69, 17, .b false), (70, 18, .b (false)), (71, 19, .tup []), (72, 20, .tup []), (73, 21, .tup []), (74, 22, .tup []), (75, 23, .tup []), (76, 24, .tup []), (77, 25, .tup []), (78, 26, .tup []), (79, 27, .tup []), (80, 28, .tup []), (81, 29, .tup []), (82, 30, .b false)], ?_, ?_⟩
        · exact dk [0, 1, 0, 3, 4, 5, 6, 207, 8, 9, 910, 911, 912, 13, 14, 1415, 1416, 1417, 18, 19, 1920, 1921, 1922, 1923, 19, 1925, 1926, 1927, 1928, 192429, 1930] ⟨go (zf rfl eU),
      go (zl 5 rfl rfl rfl aV),
      go (zm (.bp o q 0)),
      go fun S hS => bB (aK rfl) (aU hS rfl),
      go (zf rfl fI),
      go (zf rfl jT),
      go (zl 0 rfl rfl rfl aV),
      go (zcm rfl rfl rfl),
      go (zm (.b (Z13 e c))),
      gt L (zf rfl iW),
      gt L (zl 6 rfl rfl rfl eV),
      gt L (zn rfl),
      go (zpt (Z50 e c) L),
      go (zm (Z50 e c)),
      gp I,
      gp I,
      gp I,
      go (zpf Z18 I),
      go (zm Z59),
      gp B,
      gp B,
      gp B,
      gp B,
      gp B,
      gp B,
      gp B,
      gp B,
      gp B,
      gp B,
      gp B,
      go (zpf Z18 B), trivial⟩
        · exact bV (aM rfl (aR ⟨rfl, rfl, rfl, trivial⟩))
      ·obtain rfl := sIn W;have I : false = false := rfl;have Q := pQ I Q;obtain rfl := sIn Q;have B : false = false := rfl;have N := pQ B N;obtain rfl := sIn N;refine ⟨[(52, 0, .bp b1 0 1), (53, 1, .i e.Hour), (54, 2, .bp o q 0), (55, 3, .bp o q 0), (56, 4, .bp o q 0), (57, 5, .bp o q 4), (58, 6, .i c.Field.Freeze), (59, 7, .b (Z13 e c)), (60, 8, .b (Z13 e c)), (61, 9, .tup []), (62, 10, .tup []), (63, 11, .tup []), (64, 12, .b false), (65, 13, .b (false)), (66, 14, .tup []), (67, 15, .tup []), (68, 16, .tup []), (69, 17, .b false), (70, 18, .b (false)), (71, 19, .tup []), (72, 20, .tup []), (73, 21, .tup []), (74, 22, .tup []), (75, 23, .tup []), (76, 24, .tup []), (77, 25, .tup []), (78, 26, .tup []), (79, 27, .tup []), (80, 28, .tup []), (81, 29, .tup []), (82, 30, .b false)], ?_, ?_⟩
       · exact dk [0, 1, 0, 3, 4, 5, 6, 207, 8, 9, 910, 911, 912, 13, 14, 1415, 1416, 1417, 18, 19, 1920, 1921, 1922, 1923, 19, 1925, 1926, 1927, 1928, 192429, 1930] ⟨go (zf rfl eU),
      go (zl 5 rfl rfl rfl aV),
      go (zm (.bp o q 0)),
      go fun S hS => bB (aK rfl) (aU hS rfl),
      go (zf rfl fI),
      go (zf rfl jT),
      go (zl 0 rfl rfl rfl aV),
      go (zcm rfl rfl rfl),
      go (zm (.b (Z13 e c))),
      gp L,
      gp L,
      gp L,
      go (zpf Z18 L),
      go (zm Z59),
      gp I,
      gp I,
      gp I,
      go (zpf Z18 I),
      go (zm Z59),
      gp B,
      gp B,
      gp B,
      gp B,
      gp B,
      gp B,
      gp B,
      gp B,
      gp B,
      gp B,
      gp B,
      go (zpf Z18 B), trivial⟩
       · exact bV (aM rfl (aR ⟨rfl, rfl, rfl, trivial⟩))
     ·refine aD ?_;refine tih h (fun d2 h => ?_) (fun d2 h => ?_)
      ·refine aF (aC (to (sf rfl iW) (to (sst 6 rfl rfl Tryz.sizeOf4 (Z42 e c)) (to (sf rfl aDh) (to (sst 6 rfl rfl Tryz.sizeOf4 (aB (Z5 e c))) (aD ?_))))));obtain ⟨a2, d3, h⟩ := bns h;refine lS mix 9 [0, 3, 4] (fun E => [(85, .bp o q 0), (93, .d (.lit (E 8).v))]) (fun E => [.box o q [.j c.Field.Places, .j c.Field.Wilds, .j c.Field.Guards, .j c.Field.Close, .j c.Field.Freeze, .lit (.map (some g)), .lit u, .k c.frozen, .lit s, .lit t, .j c.more, .j c.entered], .map g (c.players.map fun p : Int × aA => (VI p.1, (fun v : aA => AV.agg (aB v)) p.2)) y j, .arr (E 8).v 3 1 (a2.map aI), .arr s 3 1 (Z9 c), .arr t 3 1 (Z15 c), .box b1 0 (aJ e), .box (X2 7).b 0 (aB (Z5 e c))]) ?_ ?_
       ·refine ⟨0, fun E => [(85, 0, .bp o q 0), (86, 1, .bp o q 0), (87, 2, .bp o q 0), (88, 3, .bp o q 6), (89, 4, .d (.lit u)), (90, 5, .bp b1 0 3), (91, 6, .i e.Player), (92, 7, .d (.sl 1 (([e.Player]).map aI))), (93, 8, .d (.lit (E 8).v))], fun E => [([], .box o q [.j c.Field.Places, .j c.Field.Wilds, .j c.Field.Guards, .j c.Field.Close, .j c.Field.Freeze, .lit (.map (some g)), .lit u, .k c.frozen, .lit s, .lit t, .j c.more, .j c.entered]), ([], .map g (c.players.map fun p : Int × aA => (VI p.1, (fun v : aA => AV.agg (aB v)) p.2)) y j), ([(8, .arr (E 8).v 3 1 (a2.map aI))], .arr u 3 1 (Z10 c)), ([], .arr s 3 1 (Z9 c)), ([], .arr t 3 1 (Z15 c)), ([], .box b1 0 (aJ e)), ([], .box (X2 7).b 0 (aB (Z5 e c)))], ?_, ?_⟩
        · exact xok [(0, 0), (0, 9), (2, 9), (3, 9), (4, 9), (0, 9), (6, 9), (7, 9), (508, 0)] ⟨fun E S w _ k => xp w (ym k (.bp o q 0)),
      fun E S w _ k => xp w (ym k (.bp o q 0)),
      fun E S w _ k => xp w (bB (aK rfl) (aU k rfl)),
      fun E S w _ k => xp w (yf k rfl iV),
      fun E S w _ k => xp w (yl k 0 rfl (og k rfl rfl) rfl cX),
      fun E S w _ k => xp w (yf k rfl eH),
      fun E S w _ k => xp w (yl k 5 rfl (og k rfl rfl) rfl aV),
      fun E S w _ k => xp w (gH (aK rfl) bS rfl (pa2 (aU k rfl) pan) (rows := ([e.Player]).map aI) rfl (aY (f := aI) fun _ => rfl) rfl (by decide)),
      fun E S hw hi hS => tO (X := E) (p := 2) (v := fun x => .d (.lit x.v)) (mo := fun x => .arr x.v 3 1 (a2.map aI)) hS hi rfl rfl (fun _ => rfl) hw (fun _ => rfl) (fun _ => rfl) (fun _ => rfl) (fun _ => ⟨rfl, rfl, .inr rfl, ⟨rfl, rfl, .inr rfl, ⟨rfl, rfl, .inr rfl, ⟨rfl, rfl, .inr rfl, ⟨rfl, rfl, .inr rfl, ⟨rfl, rfl, .inr rfl, ⟨rfl, rfl, .inr rfl, ⟨rfl, rfl, .inr rfl, ⟨rfl, rfl, .inl rfl, trivial⟩⟩⟩⟩⟩⟩⟩⟩⟩) (fun _ => ⟨trivial, rfl, ⟨trivial, rfl, ⟨⟨rfl, .inl rfl, trivial⟩, rfl, ⟨trivial, rfl, ⟨trivial, rfl, ⟨trivial, rfl, ⟨trivial, rfl, trivial⟩⟩⟩⟩⟩⟩⟩) (lR (kS (i := 2) (aK rfl) bS (aU hS rfl) (og hS rfl rfl) (aU hS rfl) (fun _ => rfl) d3 rfl) (by rintro _ ⟨w, rfl⟩; exact ⟨⟨0, w⟩, Ent.refl _⟩)), trivial⟩
        · exact fun E => bV (aM rfl (aM rfl (aR ⟨rfl, rfl, rfl, trivial⟩)))
       ·intro E;refine to (bB (aK rfl) rfl) ?_;refine to (sf rfl iV) (to (sst 0 rfl rfl Tryz.sizeOf25 [.j c.Field.Places, .j c.Field.Wilds, .j c.Field.Guards, .j c.Field.Close, .j c.Field.Freeze, .lit (.map (some g)), .lit (E 8).v, .k c.frozen, .lit s, .lit t, .j c.more, .j c.entered]) ?_);refine dA ?_;refine cB mix 7 [] [(134, .d (Z16 g)), (136, .i e.Player), (137, .agg (aB (Z5 e c)))] ?_ ?_
        ·refine ⟨[(131, 0, .bp o q 0), (132, 1, .bp o q 0), (133, 2, .bp o q 5), (134, 3, .d (Z16 g)), (135, 4, .bp b1 0 3), (136, 5, .i e.Player), (137, 6, .agg (aB (Z5 e c)))], ?_, ?_⟩
         · exact dk [0, 1, 2, 3, 0, 5, 0] ⟨go (zm (.bp o q 0)),
      go fun S hS => bB (aK rfl) (aU hS rfl),
      go (zf rfl dL),
      go (zl 0 rfl rfl rfl fF),
      go (zf rfl eH),
      go (zl 5 rfl rfl rfl aV),
      go (zla 6 (aB (Z5 e c)) rfl rfl kV), trivial⟩
         · exact bV (aM rfl (aM rfl (aM rfl (aR trivial))))
        ·refine to (eX (av := (fun v : aA => AV.agg (aB v))) (l := c.players) (v := (Z5 e c)) (a := e.Player) (m := 1) gO Tryz.underlying68 rfl rfl rfl rfl (cT (kv := VI) e.Player) rfl rfl) ?_;refine aD ?_;obtain rfl := sIn h;exact ⟨_, [.box o q [.j c.Field.Places, .j c.Field.Wilds, .j c.Field.Guards, .j c.Field.Close, .j c.Field.Freeze, .lit (.map (some g)), .lit (E 8).v, .k c.frozen, .lit s, .lit t, .j c.more, .j c.entered], .map g ((bY e.Player (Z5 e c) c.players).map fun p : Int × aA => (VI p.1, (fun v : aA => AV.agg (aB v)) p.2)) (Z25 e c y j) (Z24 e c j), .arr (E 8).v 3 1 (a2.map aI), .arr s 3 1 (Z9 c), .arr t 3 1 (Z15 c)], [.box b1 0 (aJ e), .box (X2 7).b 0 (aB (Z5 e c))], _, .none, .refl _, .same _, (Z25 e c y j), (Z24 e c j), (E 8).v, s, t, rfl, rfl⟩
      ·refine cG ?_;refine cB mix 7 [] [(134, .d (Z16 g)), (136, .i e.Player), (137, .agg (Z46 e c))] ?_ ?_
       ·refine ⟨[(131, 0, .bp o q 0), (132, 1, .bp o q 0), (133, 2, .bp o q 5), (134, 3, .d (Z16 g)), (135, 4, .bp b1 0 3), (136, 5, .i e.Player), (137, 6, .agg (Z46 e c))], ?_, ?_⟩
        · exact dk [0, 1, 2, 3, 0, 5, 0] ⟨go (zm (.bp o q 0)),
      go fun S hS => bB (aK rfl) (aU hS rfl),
      go (zf rfl dL),
      go (zl 0 rfl rfl rfl fF),
      go (zf rfl eH),
      go (zl 5 rfl rfl rfl aV),
      go (zla 6 (Z46 e c) rfl rfl kV), trivial⟩
        · exact bV (aM rfl (aM rfl (aM rfl (aR trivial))))
       ·refine to (eX (av := (fun v : aA => AV.agg (aB v))) (l := c.players) (v := aE e.Player Z2 c.players) (a := e.Player) (m := 1) gO Tryz.underlying68 rfl rfl rfl rfl (cT (kv := VI) e.Player) rfl rfl) ?_;refine aD ?_;obtain rfl := sIn h;exact ⟨_, (Z4 o q c g u s t e y j), [.box b1 0 (aJ e), .box (X2 7).b 0 (Z46 e c)], _, .none, .refl _, .same _, (Z25 e c y j), (Z24 e c j), u, s, t, rfl, rfl⟩
    ·refine aF (aC (to (scm rfl rfl rfl) (ta (Z54 e) (aD ?_))));refine tih h (fun d4 h => ?_) (fun d4 h => ?_)
     ·refine aF (aF ?_);obtain ⟨d5, Y, h⟩ := bns h;refine cB mix 12 [0, 3, 4] [(109, .b d5)] ?_ ?_
      ·refine bch Y (fun J Y => ?_) (fun J Y => ?_)
       ·obtain rfl := sIn Y;refine ⟨[(98, 0, .bp (X2 7).b 0 6), (99, 1, .b (Z28 e c)), (100, 2, .b (Z28 e c)), (101, 3, .bp b1 0 1), (102, 4, .i e.Hour), (103, 5, .bp o q 0), (104, 6, .bp o q 0), (105, 7, .bp o q 0), (106, 8, .bp o q 4), (107, 9, .i c.Field.Freeze), (108, 10, .b (Z41 c e)), (109, 11, .b (Z41 c e))], ?_, ?_⟩
        · exact dk [0, 1, 2, 3, 304, 3, 306, 307, 308, 309, 30510, 311] ⟨go (zf rfl iW),
      go (zl 6 rfl rfl rfl eV),
      go (zm (.b (Z28 e c))),
      gt J (zf rfl eU),
      gt J (zl 5 rfl rfl rfl aV),
      gt J (zm (.bp o q 0)),
      gt J fun S hS => bB (aK rfl) (aU hS rfl),
      gt J (zf rfl fI),
      gt J (zf rfl jT),
      gt J (zl 0 rfl rfl rfl aV),
      gt J (zcm rfl rfl rfl),
      go (zpt (.b (Z41 c e)) J), trivial⟩
        · exact bV (aM rfl (aR ⟨rfl, rfl, rfl, trivial⟩))
       ·obtain rfl := sIn Y;refine ⟨[(98, 0, .bp (X2 7).b 0 6), (99, 1, .b (Z28 e c)), (100, 2, .b (Z28 e c)), (101, 3, .tup []), (102, 4, .tup []), (103, 5, .tup []), (104, 6, .tup []), (105, 7, .tup []), (106, 8, .tup []), (107, 9, .tup []), (108, 10, .tup []), (109, 11, .b false)], ?_, ?_⟩
        · exact dk [0, 1, 2, 3, 304, 3, 306, 307, 308, 309, 30510, 311] ⟨go (zf rfl iW),
      go (zl 6 rfl rfl rfl eV),
      go (zm (.b (Z28 e c))),
      gp J,
      gp J,
      gp J,
      gp J,
      gp J,
      gp J,
      gp J,
      gp J,
      go (zpf Z18 J), trivial⟩
        · exact bV (aM rfl (aR ⟨rfl, rfl, rfl, trivial⟩))
      ·refine aD ?_;refine tih h (fun d6 h => ?_) (fun d6 h => ?_)
       ·refine aC (tm (.bp o q 0) (to (bB (aK rfl) rfl) ?_));refine tfl 0 rfl rfl wS rfl aV (to (sar rfl rfl rfl) (to (bB (aK rfl) rfl) ?_));refine to (sf rfl wS) (to (sst 0 rfl rfl Tryz.sizeOf3 [.j c.Field.Places, .j c.Field.Wilds, .j c.Field.Guards, .j c.Field.Close, .j c.Field.Freeze, .lit (.map (some g)), .lit u, .k c.frozen, .lit s, .lit t, .j (Z47 c), .j c.entered]) (aD (aF (aC (to (sf rfl pE) (to (sst 6 rfl rfl Tryz.sizeOf4 (Z21 e c)) (to (sf rfl iW) (to (sst 6 rfl rfl Tryz.sizeOf4 (Z52 e c)) (aD (aC (tm (.bp o q 0) (tm (.bp o q 0) (to (bB (aK rfl) rfl) ?_)))))))))))));refine tfl 0 rfl rfl iV rfl cX (to (pO (aK rfl) rfl rfl) ?_);refine dF (aT [0, 1, 2, 3, 4, 6, 5] rfl rfl (le_refl _)) ?_;apply sT [.box o q [.j c.Field.Places, .j c.Field.Wilds, .j c.Field.Guards, .j c.Field.Close, .j c.Field.Freeze, .lit (.map (some g)), .lit u, .k c.frozen, .lit s, .lit t, .j (Z47 c), .j c.entered], .map g (c.players.map fun p : Int × aA => (VI p.1, (fun v : aA => AV.agg (aB v)) p.2)) y j, .arr u 3 1 (Z10 c), .arr s 3 1 (Z9 c), .arr t 3 1 (Z15 c), .box (X2 7).b 0 (Z52 e c)] [.box b1 0 (aJ e)] rfl;exact cQ (k := 124) (v := .fn 108 (Z19 e)) (qJ (.cons (dO 0 rfl rfl (dvc (.same _) (dvc (.same _) (dvc (.same _) (dvc (.same _) (dvc (.same _) dvn)))))) .nil)) (cQ (k := 3) (v := .cp [.j e.Id, .j e.Hour, .j e.Kind, .j e.Player, .j e.Rank]) (dO 0 rfl rfl (dvc (.same _) (dvc (.same _) (dvc (.same _) (dvc (.same _) (dvc (.same _) dvn)))))) (jR _ _));obtain ⟨d7, d8, h⟩ := bns h;refine dF (aT [2, 0, 1, 3, 4, 5] rfl rfl (le_refl _)) ?_;refine bO rfl (iO (passed := [.arr u 3 1 (Z10 c)]) (aK rfl) rfl (.func _ _ Tryz.call64) rfl rfl (dV c.wilds (fun d9 => eP d9 e) 108 (Z19 e) Tryz.call108 (fun _ _ h => nF _ _ h) d8)) ?_;rintro _ ⟨_, _, ⟨a3, rfl, rfl⟩, rfl⟩;refine to (bB (aK rfl) rfl) ?_;refine to (sf rfl iV) (to (sst 1 rfl rfl Tryz.sizeOf25 [.j c.Field.Places, .j c.Field.Wilds, .j c.Field.Guards, .j c.Field.Close, .j c.Field.Freeze, .lit (.map (some g)), .lit a3, .k c.frozen, .lit s, .lit t, .j (Z47 c), .j c.entered]) ?_);refine dA ?_;refine cB mix 7 [] [(134, .d (Z16 g)), (136, .i e.Player), (137, .agg (Z52 e c))] ?_ ?_
        ·refine ⟨[(131, 0, .bp o q 0), (132, 1, .bp o q 0), (133, 2, .bp o q 5), (134, 3, .d (Z16 g)), (135, 4, .cp [.j e.Player]), (136, 5, .i e.Player), (137, 6, .agg (Z52 e c))], ?_, ?_⟩
         · exact dk [0, 1, 2, 3, 0, 5, 0] ⟨go (zm (.bp o q 0)),
      go fun S hS => bB (aK rfl) (aU hS rfl),
      go (zf rfl dL),
      go (zl 1 rfl rfl rfl fF),
      go (zfc [.j e.Player] rfl eH),
      go (zlc rfl aV),
      go (zla 5 (Z52 e c) rfl rfl kV), trivial⟩
         · exact bV (aM rfl (aM rfl (aM rfl (aR trivial))))
        ·refine to (eX (av := (fun v : aA => AV.agg (aB v))) (l := c.players) (v := (Z3 e c)) (a := e.Player) (m := 2) gO Tryz.underlying68 rfl rfl rfl rfl (cT (kv := VI) e.Player) rfl rfl) ?_;refine aD ?_;obtain rfl := sIn h;exact ⟨_, [.box o q [.j c.Field.Places, .j c.Field.Wilds, .j c.Field.Guards, .j c.Field.Close, .j c.Field.Freeze, .lit (.map (some g)), .lit a3, .k c.frozen, .lit s, .lit t, .j (Z47 c), .j c.entered], .map g ((Z60 e c).map fun p : Int × aA => (VI p.1, (fun v : aA => AV.agg (aB v)) p.2)) (Z25 e c y j) (Z24 e c j), .arr a3 3 1 (d7.map aI), .arr s 3 1 (Z9 c), .arr t 3 1 (Z15 c)], [.box (X2 7).b 0 (Z52 e c)], _, .none, (cZ (i := 1) rfl).trans (.cons _ ((cZ (i := 1) rfl).trans (.cons _ ((cZ (i := 0) rfl).trans (.cons _ ((cZ (i := 0) rfl).trans (.cons _ ((cZ (i := 0) rfl).trans (.cons _ ((cZ (i := 0) rfl).trans (.cons _ (.refl _)))))))))))), .same _, (Z25 e c y j), (Z24 e c j), a3, s, t, rfl, rfl⟩
       ·refine bE (aF (aC (to (sf rfl pE) (to (sst 6 rfl rfl Tryz.sizeOf4 (Z21 e c)) (to (sf rfl iW) (to (sst 6 rfl rfl Tryz.sizeOf4 (Z52 e c)) (aD (aC (tm (.bp o q 0) (tm (.bp o q 0) (to (bB (aK rfl) rfl) ?_)))))))))));refine tfl 0 rfl rfl iV rfl cX (to (pO (aK rfl) rfl rfl) ?_);refine dF (aT [0, 1, 2, 3, 4, 6, 5] rfl rfl (le_refl _)) ?_;apply sT [.box o q [.j c.Field.Places, .j c.Field.Wilds, .j c.Field.Guards, .j c.Field.Close, .j c.Field.Freeze, .lit (.map (some g)), .lit u, .k c.frozen, .lit s, .lit t, .j c.more, .j c.entered], .map g (c.players.map fun p : Int × aA => (VI p.1, (fun v : aA => AV.agg (aB v)) p.2)) y j, .arr u 3 1 (Z10 c), .arr s 3 1 (Z9 c), .arr t 3 1 (Z15 c), .box (X2 7).b 0 (Z52 e c)] [.box b1 0 (aJ e)] rfl;exact cQ (k := 124) (v := .fn 108 (Z19 e)) (qJ (.cons (dO 0 rfl rfl (dvc (.same _) (dvc (.same _) (dvc (.same _) (dvc (.same _) (dvc (.same _) dvn)))))) .nil)) (cQ (k := 3) (v := .cp [.j e.Id, .j e.Hour, .j e.Kind, .j e.Player, .j e.Rank]) (dO 0 rfl rfl (dvc (.same _) (dvc (.same _) (dvc (.same _) (dvc (.same _) (dvc (.same _) dvn)))))) (jR _ _));obtain ⟨e0, e1, h⟩ := bns h;refine dF (aT [2, 0, 1, 3, 4, 5] rfl rfl (le_refl _)) ?_;refine bO rfl (iO (passed := [.arr u 3 1 (Z10 c)]) (aK rfl) rfl (.func _ _ Tryz.call64) rfl rfl (dV c.wilds (fun e2 => eP e2 e) 108 (Z19 e) Tryz.call108 (fun _ _ h => nF _ _ h) e1)) ?_;rintro _ ⟨_, _, ⟨a4, rfl, rfl⟩, rfl⟩;refine to (bB (aK rfl) rfl) ?_;refine to (sf rfl iV) (to (sst 1 rfl rfl Tryz.sizeOf25 [.j c.Field.Places, .j c.Field.Wilds, .j c.Field.Guards, .j c.Field.Close, .j c.Field.Freeze, .lit (.map (some g)), .lit a4, .k c.frozen, .lit s, .lit t, .j c.more, .j c.entered]) ?_);refine dA ?_;refine cB mix 7 [] [(134, .d (Z16 g)), (136, .i e.Player), (137, .agg (Z52 e c))] ?_ ?_
        ·refine ⟨[(131, 0, .bp o q 0), (132, 1, .bp o q 0), (133, 2, .bp o q 5), (134, 3, .d (Z16 g)), (135, 4, .cp [.j e.Player]), (136, 5, .i e.Player), (137, 6, .agg (Z52 e c))], ?_, ?_⟩
         · exact dk [0, 1, 2, 3, 0, 5, 0] ⟨go (zm (.bp o q 0)),
      go fun S hS => bB (aK rfl) (aU hS rfl),
      go (zf rfl dL),
      go (zl 1 rfl rfl rfl fF),
      go (zfc [.j e.Player] rfl eH),
      go (zlc rfl aV),
      go (zla 5 (Z52 e c) rfl rfl kV), trivial⟩
         · exact bV (aM rfl (aM rfl (aM rfl (aR trivial))))
        ·refine to (eX (av := (fun v : aA => AV.agg (aB v))) (l := c.players) (v := (Z3 e c)) (a := e.Player) (m := 2) gO Tryz.underlying68 rfl rfl rfl rfl (cT (kv := VI) e.Player) rfl rfl) ?_;refine aD ?_;obtain rfl := sIn h;exact ⟨_, [.box o q [.j c.Field.Places, .j c.Field.Wilds, .j c.Field.Guards, .j c.Field.Close, .j c.Field.Freeze, .lit (.map (some g)), .lit a4, .k c.frozen, .lit s, .lit t, .j c.more, .j c.entered], .map g ((Z60 e c).map fun p : Int × aA => (VI p.1, (fun v : aA => AV.agg (aB v)) p.2)) (Z25 e c y j) (Z24 e c j), .arr a4 3 1 (e0.map aI), .arr s 3 1 (Z9 c), .arr t 3 1 (Z15 c)], [.box (X2 7).b 0 (Z52 e c)], _, .none, (cZ (i := 1) rfl).trans (.cons _ ((cZ (i := 1) rfl).trans (.cons _ ((cZ (i := 0) rfl).trans (.cons _ ((cZ (i := 0) rfl).trans (.cons _ ((cZ (i := 0) rfl).trans (.cons _ ((cZ (i := 0) rfl).trans (.cons _ (.refl _)))))))))))), .same _, (Z25 e c y j), (Z24 e c j), a4, s, t, rfl, rfl⟩
     ·refine aF (aC (to (scm rfl rfl rfl) (ta (Z55 e) (aD ?_))));refine tih h (fun e3 h => ?_) (fun e3 h => ?_)
      ·refine aC (to (sf rfl uB) (to (sst 6 rfl rfl Tryz.sizeOf4 (aB (Z7 e c))) ?_));refine dA ?_;refine cB mix 7 [] [(134, .d (Z16 g)), (136, .i e.Player), (137, .agg (aB (Z7 e c)))] ?_ ?_
       ·refine ⟨[(131, 0, .bp o q 0), (132, 1, .bp o q 0), (133, 2, .bp o q 5), (134, 3, .d (Z16 g)), (135, 4, .bp b1 0 3), (136, 5, .i e.Player), (137, 6, .agg (aB (Z7 e c)))], ?_, ?_⟩
        · exact dk [0, 1, 2, 3, 0, 5, 0] ⟨go (zm (.bp o q 0)),
      go fun S hS => bB (aK rfl) (aU hS rfl),
      go (zf rfl dL),
      go (zl 0 rfl rfl rfl fF),
      go (zf rfl eH),
      go (zl 5 rfl rfl rfl aV),
      go (zla 6 (aB (Z7 e c)) rfl rfl kV), trivial⟩
        · exact bV (aM rfl (aM rfl (aM rfl (aR trivial))))
       ·refine to (eX (av := (fun v : aA => AV.agg (aB v))) (l := c.players) (v := (Z7 e c)) (a := e.Player) (m := 1) gO Tryz.underlying68 rfl rfl rfl rfl (cT (kv := VI) e.Player) rfl rfl) ?_;refine aD ?_;obtain rfl := sIn h;exact ⟨_, (Z33 o q c g u s t e y j), [.box b1 0 (aJ e), .box (X2 7).b 0 (aB (Z7 e c))], _, .none, .refl _, .same _, (Z25 e c y j), (Z24 e c j), u, s, t, rfl, rfl⟩
      ·refine cG ?_;refine cB mix 7 [] [(134, .d (Z16 g)), (136, .i e.Player), (137, .agg (Z46 e c))] ?_ ?_
       ·refine ⟨[(131, 0, .bp o q 0), (132, 1, .bp o q 0), (133, 2, .bp o q 5), (134, 3, .d (Z16 g)), (135, 4, .bp b1 0 3), (136, 5, .i e.Player), (137, 6, .agg (Z46 e c))], ?_, ?_⟩
        · exact dk [0, 1, 2, 3, 0, 5, 0] ⟨go (zm (.bp o q 0)),
      go fun S hS => bB (aK rfl) (aU hS rfl),
      go (zf rfl dL),
      go (zl 0 rfl rfl rfl fF),
      go (zf rfl eH),
      go (zl 5 rfl rfl rfl aV),
      go (zla 6 (Z46 e c) rfl rfl kV), trivial⟩
        · exact bV (aM rfl (aM rfl (aM rfl (aR trivial))))
       ·refine to (eX (av := (fun v : aA => AV.agg (aB v))) (l := c.players) (v := aE e.Player Z2 c.players) (a := e.Player) (m := 1) gO Tryz.underlying68 rfl rfl rfl rfl (cT (kv := VI) e.Player) rfl rfl) ?_;refine aD ?_;obtain rfl := sIn h;exact ⟨_, (Z4 o q c g u s t e y j), [.box b1 0 (aJ e), .box (X2 7).b 0 (Z46 e c)], _, .none, .refl _, .same _, (Z25 e c y j), (Z24 e c j), u, s, t, rfl, rfl⟩

theorem tU (d : Int) (a : List (Int × aA)) {r : Bool} {e f g j k l m o q s c : D} (h : fE d a = some r) : Fn Tryz.prog 109 [.i d, .cp [.pt [e, f, g, j, k, .mp true (a.map fun p : Int × aA => (VI p.1, aB p.2)), l, m, o, q, s, c]]] (.b r) := by
 unfold fE at h;refine oT [.tmp 3] Tryz.func109 Tryz.results109 Tryz.ntmps109 ?_;refine aF (aC (ta Z18 (aD (aF (aC (to (mF (.ptc _) (kC (aK rfl) rfl gK)) ?_))))));refine tm (.i d) ?_;obtain ⟨r1, h2, h⟩ := bns h;refine to (scr Tryz.call83 (tC _ _ h2)) (to (sn rfl) (ta (.b (!r1)) (aD ?_)));obtain rfl := sIn h;exact rt

theorem aBo (a : Int) {r : (List Int)} (h : nS a = some r) : dI Tryz.prog 89 [.d Z32, .i a] [] (fun r' o' => ∃ (w0 : Value), r' = .d (.lit w0) ∧ o' = [.arr w0 3 1 (r.map aI)]) := by
 unfold nS at h;refine iM Tryz.func89 rfl (rs := [.tmp 4]) Tryz.results89 Tryz.ntmps89 (Nat.le_of_ble_eq_true rfl) ?_;refine bP (sY 3 1) ?_;refine aF (aC (to (gY 3 1 (.inl rfl) (aK rfl)) ?_));refine aD (aF (aF (aC (tm (.i a) (to (scm rfl rfl rfl) (aD ?_))))));refine tih h (fun c2 h => ?_) (fun c2 h => ?_)
 ·cases h
 ·refine bE (aF (aF (aC (tm (.i a) (tm (.d Z32) (to (aHd (aK rfl) rfl bS.of) ?_))))));refine tm (.d Z32) (to (aHe (aK rfl) rfl bS.of) ?_);refine to (sar rfl rfl rfl) (to (sar rfl rfl rfl) (ta (.i (w64 (a - (w64 (0 - 0))))) (aD (aF (aC (tm (.i (w64 (a - (w64 (0 - 0))))) (to (scm rfl rfl rfl) (aD ?_))))))));refine tih h (fun c3 h => ?_) (fun c3 h => ?_)
  ·refine aC (tm (.d Z32) (tm (.d Z32) (to (aHd (aK rfl) rfl bS.of) ?_)));obtain ⟨u4, h5, h⟩ := bns h;refine to (rA (m := 0) (q := 0) (v := (.slice none 0 0)) (aK rfl) rfl rfl rfl rfl (aAg h5) bS.of) ?_;refine tm (.i (w64 (a - (w64 (0 - 0))))) ?_;obtain ⟨u6, h7, h⟩ := bns h;refine bO rfl (aRg (i := 0) (aK rfl) bS rfl rfl rfl Tryz.underlying3 (aId h7).1 (aId h7).2 (by decide)) ?_;rintro _ ⟨v8, rfl⟩;refine tm (.d Z32) (to (aHe (aK rfl) rfl bS.of) ?_);obtain ⟨u9, b, h⟩ := bns h;refine to (rA (m := 0) (q := 0) (v := v8) (aK rfl) rfl rfl rfl rfl (aAg b) bS.of) ?_;refine ta (.d (.lit (fB v8 0))) (aD (aF (aC (tm (.d (.lit (fB v8 0))) (ta (.d (.lit (fB v8 0))) (aD ?_))))));obtain rfl := sIn h;exact cU ⟨rfl, _, [.arr (fB v8 0) 3 1 (([] : List Int).map aI)], Z22, _, .one (.tmp 4 (v := .d (.lit (fB v8 0))) rfl), .refl _, .same _, (fB v8 0), rfl, rfl⟩
  ·refine bE (aF (aC (tm (.d Z32) (ta (.d Z32) (aD ?_)))));obtain rfl := sIn h;exact cU ⟨rfl, _, Z22, Z22, _, .one (.tmp 4 (v := .d Z32) rfl), .refl _, .same _, (.slice none 0 0), rfl, rfl⟩

theorem tM (a : List (List Int)) {r : (List Int)} (h : mG a = some r) : dI Tryz.prog 63 [.d (.sl 1 (a.map lB))] [] (fun r' o' => ∃ (w0 : Value), r' = .d (.lit w0) ∧ o' = [.arr w0 3 1 (r.map aI)]) := by
 unfold mG at h;refine iM Tryz.func63 rfl (rs := [.tmp 2]) Tryz.results63 Tryz.ntmps63 (Nat.le_of_ble_eq_true rfl) ?_;refine aF (aC (to (gY 3 1 (.inl rfl) (aK rfl)) ?_));refine aD (aF (aC (ta (.i 0) (aD (aF (aF (aC (tm (.d (.sl 1 (a.map lB))) (to (sle rfl tJ.of) (tm (.i 0) (aD (bQ ?_))))))))))));refine cO (S := Int × Int) [0, 9, 10] (fun s2 => [(3, .i s2.1), (11, .i s2.2)]) (fun s2 => []) (fun k s2 => gP a a (a.length : Int) k s2.1 s2.2) (fun _ => rfl) (0, 0) h (aT [] rfl rfl (aM rfl (aM rfl (aR ⟨rfl, rfl, rfl, trivial⟩)))) ?_;rintro k3 ⟨b, f⟩ h;simp only [gP] at h;refine aF (aC (to (scm rfl rfl rfl) (aD (aF ?_))));refine tih h (fun c4 h => ?_) (fun c4 h => ?_)
 ·refine bE (aF (bQ (aF (aC ?_))));obtain ⟨x5, h6, h⟩ := bns h;refine to (six rfl rfl tJ.of (cJ lB h6)) (to (slc rfl cX) (ta (.d (.sl 1 (x5.map aI))) (aD (aF (aC (tm (.i b) (tm (.d (.sl 1 (x5.map aI))) (to (sle rfl bS.of) (to (sar rfl rfl rfl) (ta (.i (w64 (b + (x5.length : Int)))) (aD (aF (aC ?_)))))))))))));refine tm (.i (w64 (b + (x5.length : Int)))) (to (scm rfl rfl rfl) (aD ?_));refine tih h (fun c7 h => ?_) (fun c7 h => ?_)
  ·cases h
  ·refine cG ?_;refine aC (to (sar rfl rfl rfl) (tm (.i (w64 (f + 1))) (aD ?_)));exact ⟨(w64 (b + (x5.length : Int)), w64 (f + 1)), h, aT [] rfl rfl (aM rfl (aM rfl (aR ⟨rfl, rfl, rfl, trivial⟩)))⟩
 ·refine cD ?_;refine .inl ⟨rfl, ?_⟩;simp only [pF] at h;refine aF (aC (tm (.i b) ?_));obtain ⟨r8, h9, h⟩ := bns h;refine bO rfl (kK (aK rfl) (.func _ _ Tryz.call89) rfl rfl (aBo _ h9)) ?_;rintro _ ⟨l, rfl⟩;refine ta (.d (.lit l)) (aD (aF (aF (aC (tm (.d (.sl 1 (a.map lB))) (to (sle rfl tJ.of) (tm (.i 0) (aD (bQ ?_)))))))));refine cO (S := Int × Z56 × Value) [25, 26] (fun c => [(6, .d (.lit c.2.2)), (27, .i c.1)]) (fun c => [.arr c.2.2 3 1 (c.2.1.map aI)]) (fun k c => fR a (a.length : Int) k c.1 c.2.1) (fun _ => rfl) (0, r8, l) h (aT [0] rfl rfl (aM rfl (aM rfl (aR ⟨rfl, rfl, trivial⟩)))) ?_;rintro t ⟨e, j, g⟩ h;simp only [fR] at h;refine aF (aC (to (scm rfl rfl rfl) (aD (aF ?_))));refine tih h (fun o h => ?_) (fun o h => ?_)
  ·refine bE (aF (bQ (aF (aC ?_))));obtain ⟨m, p, h⟩ := bns h;refine to (six rfl rfl tJ.of (cJ lB p)) (to (slc rfl cX) (ta (.d (.sl 1 (m.map aI))) (aD (aC (tm (.d (.lit g)) (tm (.d (.sl 1 (m.map aI))) ?_))))));obtain ⟨q, s, h⟩ := bns h;refine bO rfl (kS (i := 0) (aK rfl) bS rfl rfl rfl (fun _ => rfl) s rfl) ?_;rintro _ ⟨n, rfl⟩;refine ta (.d (.lit n)) ?_;refine dA ?_;refine aC (to (sar rfl rfl rfl) (tm (.i (w64 (e + 1))) (aD ?_)));exact ⟨(w64 (e + 1), q, n), h, aT [0] rfl rfl (aM rfl (aM rfl (aR ⟨rfl, rfl, trivial⟩)))⟩
  ·refine cD ?_;refine .inl ⟨rfl, ?_⟩;simp only [tL] at h;refine aF (aC (tm (.d (.lit g)) (ta (.d (.lit g)) (aD ?_))));obtain rfl := sIn h;exact cU ⟨rfl, _, [.arr g 3 1 (j.map aI)], [], _, .one (.tmp 2 (v := .d (.lit g)) rfl), .refl _, .same _, g, rfl, rfl⟩

theorem vA (a : aH) {r : (List Int)} (h : dY a = some r) : dI Tryz.prog 34 [.cp (bA a)] [] (fun r' o' => ∃ (w0 : Value), r' = .d (.lit w0) ∧ o' = [.arr w0 3 1 (r.map aI)]) := by
 unfold dY at h;refine iM Tryz.func34 rfl (rs := [.tmp 2]) Tryz.results34 Tryz.ntmps34 (Nat.le_of_ble_eq_true rfl) ?_;refine aF (aC (to (gY 3 1 (.inl rfl) (aK rfl)) ?_));refine aD (aF (aF (aC (tm (Z1 a) (to (cK (aK rfl) rfl) ?_)))));refine to (sfc [.k a.frozen] rfl sL) (to (slc rfl eV) (to (sn rfl) (aD ?_)));refine tih h (fun c2 h => ?_) (fun c2 h => ?_)
 ·refine aF (aC (tm (Z1 a) ?_));obtain ⟨r3, h4, h⟩ := bns h;refine bO rfl (kK (aK rfl) (.func _ _ Tryz.call62) rfl rfl (pB _ h4)) ?_;rintro _ ⟨v5, rfl⟩;refine ta (.d (.lit v5)) (aD ?_);obtain rfl := sIn h;refine bP (aT [1, 0] rfl rfl (le_refl _)) ?_;exact cU ⟨rfl, _, [.arr v5 3 1 (r3.map aI)], Z22, _, .one (.tmp 2 (v := .d (.lit v5)) rfl), .refl _, .same _, v5, rfl, rfl⟩
 ·refine bE (aF ?_);refine cB mix 8 [] [(13, .d (.sl 1 (Z9 a))), (17, .d (.sl 1 (Z15 a)))] ?_ ?_
  ·refine ⟨[(10, 0, .cp [.j a.Field.Places, .j a.Field.Wilds, .j a.Field.Guards, .j a.Field.Close, .j a.Field.Freeze, .mp true (a.players.map fun p : Int × aA => (VI p.1, aB p.2)), .sl 1 (Z10 a), .k a.frozen, .sl 1 (Z9 a), .sl 1 (Z15 a), .j a.more, .j a.entered]), (11, 1, .cp [.j a.Field.Places, .j a.Field.Wilds, .j a.Field.Guards, .j a.Field.Close, .j a.Field.Freeze, .mp true (a.players.map fun p : Int × aA => (VI p.1, aB p.2)), .sl 1 (Z10 a), .k a.frozen, .sl 1 (Z9 a), .sl 1 (Z15 a), .j a.more, .j a.entered]), (12, 2, .cp [.sl 1 (Z9 a)]), (13, 3, .d (.sl 1 (Z9 a))), (14, 4, .cp [.j a.Field.Places, .j a.Field.Wilds, .j a.Field.Guards, .j a.Field.Close, .j a.Field.Freeze, .mp true (a.players.map fun p : Int × aA => (VI p.1, aB p.2)), .sl 1 (Z10 a), .k a.frozen, .sl 1 (Z9 a), .sl 1 (Z15 a), .j a.more, .j a.entered]), (15, 5, .cp [.j a.Field.Places, .j a.Field.Wilds, .j a.Field.Guards, .j a.Field.Close, .j a.Field.Freeze, .mp true (a.players.map fun p : Int × aA => (VI p.1, aB p.2)), .sl 1 (Z10 a), .k a.frozen, .sl 1 (Z9 a), .sl 1 (Z15 a), .j a.more, .j a.entered]), (16, 6, .cp [.sl 1 (Z15 a)]), (17, 7, .d (.sl 1 (Z15 a)))], ?_, ?_⟩
   · exact dk [0, 1, 2, 3, 0, 5, 6, 7] ⟨go (zm (Z1 a)),
      go fun S hS => cK (aK rfl) (aU hS rfl),
      go (zfc [.sl 1 (Z9 a)] rfl wR),
      go (zlc rfl cX),
      go (zm (Z1 a)),
      go fun S hS => cK (aK rfl) (aU hS rfl),
      go (zfc [.sl 1 (Z15 a)] rfl tZ),
      go (zlc rfl cX), trivial⟩
   · exact bV (aM rfl (aM rfl (aR trivial)))
  ·refine to (gH (aK rfl) tJ rfl rfl (rows := ([a.first, a.late]).map lB) rfl (aY (f := lB) fun _ => rfl) rfl (by decide)) ?_;obtain ⟨r6, h7, h⟩ := bns h;refine bO rfl (kK (aK rfl) (.func _ _ Tryz.call63) rfl rfl (tM _ h7)) ?_;rintro _ ⟨v8, rfl⟩;refine ta (.d (.lit v8)) (aD ?_);obtain rfl := sIn h;refine bP (aT [1, 0] rfl rfl (le_refl _)) ?_;exact cU ⟨rfl, _, [.arr v8 3 1 (r6.map aI)], Z22, _, .one (.tmp 2 (v := .d (.lit v8)) rfl), .refl _, .same _, v8, rfl, rfl⟩

theorem vK (b : List Int) (c : Int) {r : Int} (h : iJ b c = some r) : Fn Tryz.prog 66 [.d (Z26 b), .i c] (.i r) := by
 unfold iJ at h;refine oT [.tmp 4] Tryz.func66 Tryz.results66 Tryz.ntmps66 ?_;refine aF (aC (ta (.i 0) (aD (aF (aF (aC (tm (Z58 b) (to (sle rfl bS.of) (tm (.i 0) (aD (bQ ?_)))))))))));refine cO (S := Int) [0, 1, 7] (fun s1 => [(8, .i s1)]) (fun s1 => []) (fun k s1 => eL b c (b.length : Int) k s1) (fun _ => rfl) (0) h (aT [] rfl rfl (aM rfl (aR ⟨rfl, rfl, rfl, trivial⟩))) ?_;rintro k2 a h;simp only [eL] at h;refine aF (aC (to (scm rfl rfl rfl) (aD (aF ?_))));refine tih h (fun c3 h => ?_) (fun c3 h => ?_)
 ·refine bE (aF (bQ (aF (aC (tm (.i a) (ta (.i a) (aD (aF (aC (tm (.i c) (tm (Z58 b) (tm (.i a) ?_))))))))))));obtain ⟨x4, h5, h⟩ := bns h;refine to (six rfl rfl bS.of (cJ aI h5)) (to (slc rfl aV) (to (scm rfl rfl rfl) (aD ?_)));refine tih h (fun c6 h => ?_) (fun c6 h => ?_)
  ·refine aF (aC (tm (.i a) (ta (.i a) (aD ?_))));obtain rfl := sIn h;exact rt
  ·refine cG ?_;refine aC (to (sar rfl rfl rfl) (tm (.i (w64 (a + 1))) (aD ?_)));exact ⟨(w64 (a + 1)), h, aT [] rfl rfl (aM rfl (aR ⟨rfl, rfl, rfl, trivial⟩))⟩
 ·refine cD ?_;refine .inl ⟨rfl, ?_⟩;simp only [nG] at h;refine aF (aC (ta (.i (-1)) (aD ?_)));obtain rfl := sIn h;exact rt

theorem lW (a : List Int) (c : Int) {r : Bool} (h : jI a c = some r) : Fn Tryz.prog 53 [.d (Z26 a), .i c] (.b r) := by
 unfold jI at h;refine oT [.tmp 4] Tryz.func53 Tryz.results53 Tryz.ntmps53 ?_;refine aF (aC (ta Z18 (aD (aF (aC (tm (Z58 a) (tm (.i c) ?_)))))));obtain ⟨r1, h2, h⟩ := bns h;refine to (scr Tryz.call66 (vK _ _ h2)) (to (scm rfl rfl rfl) (ta (.b (decide (0 ≤ r1))) (aD ?_)));obtain rfl := sIn h;exact rt

theorem aAd (e : Int) (c : aH) (j : List Int) {r : Bool} (h : kO e c j = some r) : Fn Tryz.prog 110 [.i e, .cp [.pt (bA c)], .cp [.sl 1 (j.map aI)]] (.b r) := by
 unfold kO at h;refine oT [.tmp 4] Tryz.func110 Tryz.results110 Tryz.ntmps110 ?_;refine aF (aC (ta Z18 (aD (aF (aC (to (mF (.ptc _) (kC (aK rfl) rfl gK)) ?_))))));refine to (cK (aK rfl) rfl) ?_;refine to (sfc [.mp true (c.players.map fun p : Int × aA => (VI p.1, aB p.2))] rfl dL) (to (slc rfl fF) (tm (.i e) (to (iK (enc := aB) (agg := true) (l := c.players) (z := Z2) (a := e) (aK rfl) gO Tryz.underlying68 Tryz.zeroValue94 (fun _ _ => .agg (iZ rfl)) rfl rfl rfl rfl (cT (kv := VI) e)) ?_)));refine bO rfl (fC (zs := [.k false, .k false, .j 0, .j 0, .k false, .k false, .k false, .k false]) (aK rfl) Tryz.zeroValue94 rfl rfl) ?_;rintro _ ⟨b1, rfl⟩;refine to (sst 0 rfl rfl Tryz.sizeOf94 (aB (Z17 e c))) (aD (aF ?_));obtain ⟨b2, h3, h⟩ := bns h;obtain ⟨b7, h8, h⟩ := bns h;refine cB mix 24 [] [(35, .b b7)] ?_ ?_
 ·refine bch h3 (fun c4 h3 => ?_) (fun c4 h3 => ?_)
  ·obtain ⟨r5, h6, h3⟩ := bns h3;obtain rfl := sIn h3;refine bch h8 (fun c9 h8 => ?_) (fun c9 h8 => ?_)
   ·obtain ⟨o, g, h8⟩ := bns h8;refine bch g (fun f g => ?_) (fun f g => ?_)
    ·obtain rfl := sIn g;obtain rfl := sIn h8;refine ⟨[(12, 0, .bp b1 0 5), (13, 1, .b (Z44 e c)), (14, 2, .b (Z44 e c)), (15, 3, .d (Z26 j)), (16, 4, .i e), (17, 5, .b r5), (18, 6, .b (!r5)), (19, 7, .b (!r5)), (20, 8, .b (!r5)), (21, 9, .bp b1 0 1), (22, 10, .b ((Z17 e c).guard)), (23, 11, .b (!((Z17 e c).guard))), (24, 12, .b (!((Z17 e c).guard))), (25, 13, .tup []), (26, 14, .tup []), (27, 15, .tup []), (28, 16, .tup []), (29, 17, .tup []), (30, 18, .tup []), (31, 19, .tup []), (32, 20, .tup []), (33, 21, .tup []), (34, 22, .b true), (35, 23, .b (true))], ?_, ?_⟩
     · exact dk [0, 1, 2, 3, 3, 30405, 306, 307, 8, 9, 910, 911, 912, 13, 13, 131415, 13, 1317, 1318, 1319, 1320, 131621, 91322, 923] ⟨go (zf rfl uB),
      go (zl 0 rfl rfl rfl eV),
      go (zm (.b (Z44 e c))),
      gt c4 (zlc rfl cX),
      gt c4 (zm (.i e)),
      gt c4 fun S hS => lA (aK rfl) (.func _ _ Tryz.call53) (ev2 (aU hS rfl) (ev2 (aU hS rfl) evn)) rfl (BVs.refl _ _) (lW _ _ h6) rfl,
      gt c4 (zn rfl),
      go (zpt (.b (!r5)) c4),
      go (zm (.b (!r5))),
      gt c9 (zf rfl zC),
      gt c9 (zl 0 rfl rfl rfl eV),
      gt c9 (zn rfl),
      gt c9 (zm (.b (!((Z17 e c).guard)))),
      gp f,
      gp f,
      gp f,
      gp f,
      gp f,
      gp f,
      gp f,
      gp f,
      gp f,
      gt c9 (zpt Z37 f),
      go (zpt (.b (true)) c9), trivial⟩
     · exact bV (aM rfl (aR trivial))
    ·obtain ⟨k, m, g⟩ := bns g;obtain rfl := sIn g;obtain rfl := sIn h8;refine ⟨[(12, 0, .bp b1 0 5), (13, 1, .b (Z44 e c)), (14, 2, .b (Z44 e c)), (15, 3, .d (Z26 j)), (16, 4, .i e), (17, 5, .b r5), (18, 6, .b (!r5)), (19, 7, .b (!r5)), (20, 8, .b (!r5)), (21, 9, .bp b1 0 1), (22, 10, .b ((Z17 e c).guard)), (23, 11, .b (!((Z17 e c).guard))), (24, 12, .b (!((Z17 e c).guard))), (25, 13, .cp [.j c.Field.Places, .j c.Field.Wilds, .j c.Field.Guards, .j c.Field.Close, .j c.Field.Freeze, .mp true (c.players.map fun p : Int × aA => (VI p.1, aB p.2)), .sl 1 (Z10 c), .k c.frozen, .sl 1 (Z9 c), .sl 1 (Z15 c), .j c.more, .j c.entered]), (26, 14, .d (Z26 j)), (27, 15, .i k), (28, 16, .cp [.j c.Field.Places, .j c.Field.Wilds, .j c.Field.Guards, .j c.Field.Close, .j c.Field.Freeze, .mp true (c.players.map fun p : Int × aA => (VI p.1, aB p.2)), .sl 1 (Z10 c), .k c.frozen, .sl 1 (Z9 c), .sl 1 (Z15 c), .j c.more, .j c.entered]), (29, 17, .cp [.j c.Field.Places, .j c.Field.Wilds, .j c.Field.Guards, .j c.Field.Close, .j c.Field.Freeze, .mp true (c.players.map fun p : Int × aA => (VI p.1, aB p.2)), .sl 1 (Z10 c), .k c.frozen, .sl 1 (Z9 c), .sl 1 (Z15 c), .j c.more, .j c.entered]), (30, 18, .cp [.j c.Field.Places, .j c.Field.Wilds, .j c.Field.Guards, .j c.Field.Close, .j c.Field.Freeze]), (31, 19, .cp [.j c.Field.Guards]), (32, 20, .i c.Field.Guards), (33, 21, .b (decide (k < c.Field.Guards))), (34, 22, .b (decide (k < c.Field.Guards))), (35, 23, .b (decide (k < c.Field.Guards)))], ?_, ?_⟩
     · exact dk [0, 1, 2, 3, 3, 30405, 306, 307, 8, 9, 910, 911, 912, 13, 13, 131415, 13, 1317, 1318, 1319, 1320, 131621, 91322, 923] ⟨go (zf rfl uB),
      go (zl 0 rfl rfl rfl eV),
      go (zm (.b (Z44 e c))),
      gt c4 (zlc rfl cX),
      gt c4 (zm (.i e)),
      gt c4 fun S hS => lA (aK rfl) (.func _ _ Tryz.call53) (ev2 (aU hS rfl) (ev2 (aU hS rfl) evn)) rfl (BVs.refl _ _) (lW _ _ h6) rfl,
      gt c4 (zn rfl),
      go (zpt (.b (!r5)) c4),
      go (zm (.b (!r5))),
      gt c9 (zf rfl zC),
      gt c9 (zl 0 rfl rfl rfl eV),
      gt c9 (zn rfl),
      gt c9 (zm (.b (!((Z17 e c).guard)))),
      gt f fun S hS => mF (.ptc _) (kC (aK rfl) (aU hS rfl) gK),
      gt f (zlc rfl cX),
      gt f fun S hS => lA (aK rfl) (.func _ _ Tryz.call67) (ev2 (aU hS rfl) (ev2 (aU hS rfl) evn)) rfl (BVs.refl _ _) (qC _ _ m) rfl,
      gt f fun S hS => mF (.ptc _) (kC (aK rfl) (aU hS rfl) gK),
      gt f fun S hS => cK (aK rfl) (aU hS rfl),
      gt f (zfc [.j c.Field.Places, .j c.Field.Wilds, .j c.Field.Guards, .j c.Field.Close, .j c.Field.Freeze] rfl fI),
      gt f (zfc [.j c.Field.Guards] rfl pD),
      gt f (zlc rfl aV),
      gt f (zcm rfl rfl rfl),
      gt c9 (zpf (.b (decide (k < c.Field.Guards))) f),
      go (zpt (.b (decide (k < c.Field.Guards))) c9), trivial⟩
     · exact bV (aM rfl (aR trivial))
   ·obtain rfl := sIn h8;refine ⟨[(12, 0, .bp b1 0 5), (13, 1, .b (Z44 e c)), (14, 2, .b (Z44 e c)), (15, 3, .d (Z26 j)), (16, 4, .i e), (17, 5, .b r5), (18, 6, .b (!r5)), (19, 7, .b (!r5)), (20, 8, .b (!r5)), (21, 9, .tup []), (22, 10, .tup []), (23, 11, .tup []), (24, 12, .tup []), (25, 13, .tup []), (26, 14, .tup []), (27, 15, .tup []), (28, 16, .tup []), (29, 17, .tup []), (30, 18, .tup []), (31, 19, .tup []), (32, 20, .tup []), (33, 21, .tup []), (34, 22, .tup []), (35, 23, .b false)], ?_, ?_⟩
    · exact dk [0, 1, 2, 3, 3, 30405, 306, 307, 8, 9, 910, 911, 912, 13, 13, 131415, 13, 1317, 1318, 1319, 1320, 131621, 91322, 923] ⟨go (zf rfl uB),
      go (zl 0 rfl rfl rfl eV),
      go (zm (.b (Z44 e c))),
      gt c4 (zlc rfl cX),
      gt c4 (zm (.i e)),
      gt c4 fun S hS => lA (aK rfl) (.func _ _ Tryz.call53) (ev2 (aU hS rfl) (ev2 (aU hS rfl) evn)) rfl (BVs.refl _ _) (lW _ _ h6) rfl,
      gt c4 (zn rfl),
      go (zpt (.b (!r5)) c4),
      go (zm (.b (!r5))),
      gp c9,
      gp c9,
      gp c9,
      gp c9,
      gq,
      gq,
      gq,
      gq,
      gq,
      gq,
      gq,
      gq,
      gq,
      gp c9,
      go (zpf Z18 c9), trivial⟩
    · exact bV (aM rfl (aR trivial))
  ·obtain rfl := sIn h3;have c9 : false = false := rfl;have h8 := pQ c9 h8;obtain rfl := sIn h8;refine ⟨[(12, 0, .bp b1 0 5), (13, 1, .b (Z44 e c)), (14, 2, .b (Z44 e c)), (15, 3, .tup []), (16, 4, .tup []), (17, 5, .tup []), (18, 6, .tup []), (19, 7, .b false), (20, 8, .b (false)), (21, 9, .tup []), (22, 10, .tup []), (23, 11, .tup []), (24, 12, .tup []), (25, 13, .tup []), (26, 14, .tup []), (27, 15, .tup []), (28, 16, .tup []), (29, 17, .tup []), (30, 18, .tup []), (31, 19, .tup []), (32, 20, .tup []), (33, 21, .tup []), (34, 22, .tup []), (35, 23, .b false)], ?_, ?_⟩
   · exact dk [0, 1, 2, 3, 3, 30405, 306, 307, 8, 9, 910, 911, 912, 13, 13, 131415, 13, 1317, 1318, 1319, 1320, 131621, 91322, 923] ⟨go (zf rfl uB),
      go (zl 0 rfl rfl rfl eV),
      go (zm (.b (Z44 e c))),
      gp c4,
      gp c4,
      gp c4,
      gp c4,
      go (zpf Z18 c4),
      go (zm Z59),
      gp c9,
      gp c9,
      gp c9,
      gp c9,
      gq,
      gq,
      gq,
      gq,
      gq,
      gq,
      gq,
      gq,
      gq,
      gp c9,
      go (zpf Z18 c9), trivial⟩
   · exact bV (aM rfl (aR trivial))
 ·refine ta (.b b7) (aD ?_);obtain rfl := sIn h;refine bP (bK (bM (l := [4]) ⟨rfl, trivial⟩)) ?_;exact rt

theorem vQ (a : aH) {r : aH} {g j : Nat} {b : Nat} {o : List Nat} {q : Nat} {c : Value} {u : Value} {s : Value} (h : kG a = some r) : dI Tryz.prog 81 [.bp g j 0] (Z8 g j a b c u s o q) (fun r' o' => ∃ (U : List Nat) (V : Nat) (w2 : Value) (w4 : Value) (w5 : Value), r' = .tup [] ∧ o' = [.box g j [.j r.Field.Places, .j r.Field.Wilds, .j r.Field.Guards, .j r.Field.Close, .j r.Field.Freeze, .lit (.map (some b)), .lit w2, .k r.frozen, .lit w4, .lit w5, .j r.more, .j r.entered], .map b (r.players.map fun p : Int × aA => (VI p.1, (fun v : aA => AV.agg (aB v)) p.2)) U V, .arr w2 3 1 (Z10 r), .arr w4 3 1 (Z9 r), .arr w5 3 1 (Z15 r)]) := by
 unfold kG at h;refine uQ Tryz.func81 rfl (rs := []) Tryz.results81 Tryz.ntmps81 (Nat.le_of_ble_eq_true rfl) ?_;refine aF (aC ?_);refine dF (aSv 0 rfl) ?_;refine bO rfl (jM (v := .d (qM g j 0)) (aK rfl) rfl rfl rfl) ?_;rintro _ ⟨b1, rfl⟩;refine aD (aF (aC (to (pO (aK rfl) rfl rfl) ?_)));refine ta (.fn 109 [.bp b1 0 0]) (aD (aF ?_));obtain ⟨r4, h5, h⟩ := bns h;obtain ⟨r7, h8, h⟩ := bns h;refine lS mix 17 [1] (fun X2 => [(7, .bp g j 0), (19, .d (.lit (X2 13).v))]) (fun X2 => [.box g j [.j a.Field.Places, .j a.Field.Wilds, .j a.Field.Guards, .j a.Field.Close, .j a.Field.Freeze, .lit (.map (some b)), .lit c, .k a.frozen, .lit (X2 7).v, .lit s, .j a.more, .j a.entered], .map b (a.players.map fun p : Int × aA => (VI p.1, (fun v : aA => AV.agg (aB v)) p.2)) o q, .arr c 3 1 (Z10 a), .arr (X2 7).v 3 1 (r4.map aI), .arr (X2 13).v 3 1 (r7.map aI), .box b1 0 [qM g j 0]]) ?_ ?_
 ·refine ⟨0, fun X2 => [(6, 0, .bp g j 0), (7, 1, .bp g j 0), (8, 2, .bp g j 0), (9, 3, .bp g j 0), (10, 4, .bp g j 8), (11, 5, .d (.lit u)), (12, 6, .fn 109 [.bp b1 0 0]), (13, 7, .d (.lit (X2 7).v)), (14, 8, .bp g j 0), (15, 9, .bp g j 0), (16, 10, .bp g j 9), (17, 11, .d (.lit s)), (18, 12, .fn 109 [.bp b1 0 0]), (19, 13, .d (.lit (X2 13).v)), (20, 14, .bp g j 0), (21, 15, .bp g j 8)], fun X2 => [([(16, .box g j [.j a.Field.Places, .j a.Field.Wilds, .j a.Field.Guards, .j a.Field.Close, .j a.Field.Freeze, .lit (.map (some b)), .lit c, .k a.frozen, .lit (X2 7).v, .lit s, .j a.more, .j a.entered])], .box g j [.j a.Field.Places, .j a.Field.Wilds, .j a.Field.Guards, .j a.Field.Close, .j a.Field.Freeze, .lit (.map (some b)), .lit c, .k a.frozen, .lit u, .lit s, .j a.more, .j a.entered]), ([], .map b (a.players.map fun p : Int × aA => (VI p.1, (fun v : aA => AV.agg (aB v)) p.2)) o q), ([], .arr c 3 1 (Z10 a)), ([(7, .arr (X2 7).v 3 1 (r4.map aI))], .arr u 3 1 (Z9 a)), ([(13, .arr (X2 13).v 3 1 (r7.map aI))], .arr s 3 1 (Z15 a)), ([], .box b1 0 [qM g j 0])], ?_, ?_⟩
  · exact xok [(0, 17), (0, 0), (0, 81417), (3, 81417), (4, 81417), (5, 81417), (0, 81417), (607, 1417), (0, 1417), (9, 1417), (10, 1417), (11, 1417), (0, 1417), (81213, 17), (10814, 17), (81415, 17), (81416, 0)] ⟨fun X2 S w _ k => xp w (lP (i := 5) (aK rfl) (aU k rfl) (og k rfl rfl) rfl gK),
      fun X2 S w _ k => xp w (lP (i := 5) (aK rfl) (aU k rfl) (og k rfl rfl) rfl gK),
      fun X2 S w _ k => xp w (lP (i := 5) (aK rfl) (aU k rfl) (og k rfl rfl) rfl gK),
      fun X2 S w _ k => xp w (bB (aK rfl) (aU k rfl)),
      fun X2 S w _ k => xp w (yf k rfl wR),
      fun X2 S w _ k => xp w (yl k 0 rfl (og k rfl rfl) rfl cX),
      fun X2 S w _ k => xp w (ym k (.fn 109 [.bp b1 0 0])),
      fun X2 S hw hi hS => tO (X := X2) (p := 3) (v := fun x => .d (.lit x.v)) (mo := fun x => .arr x.v 3 1 (r4.map aI)) hS hi rfl rfl (fun _ => rfl) hw (fun _ => rfl) (fun _ => rfl) (fun _ => rfl) (fun _ => ⟨rfl, rfl, .inr rfl, ⟨rfl, rfl, .inr rfl, ⟨rfl, rfl, .inr rfl, ⟨rfl, rfl, .inr rfl, ⟨rfl, rfl, .inr rfl, ⟨rfl, rfl, .inr rfl, ⟨rfl, rfl, .inr rfl, ⟨rfl, rfl, .inl rfl, ⟨rfl, rfl, .inr rfl, ⟨rfl, rfl, .inr rfl, ⟨rfl, rfl, .inr rfl, ⟨rfl, rfl, .inr rfl, ⟨rfl, rfl, .inr rfl, ⟨rfl, rfl, .inr rfl, ⟨rfl, rfl, .inr rfl, ⟨rfl, rfl, .inr rfl, trivial⟩⟩⟩⟩⟩⟩⟩⟩⟩⟩⟩⟩⟩⟩⟩⟩) (fun _ => ⟨⟨rfl, .inl rfl, trivial⟩, rfl, ⟨trivial, rfl, ⟨trivial, rfl, ⟨⟨rfl, .inl rfl, trivial⟩, rfl, ⟨⟨rfl, .inr rfl, trivial⟩, rfl, ⟨trivial, rfl, trivial⟩⟩⟩⟩⟩⟩) (lR (aMa 3 (aK rfl) (og hS rfl rfl) (.func _ _ Tryz.call64) (ev2 (aU hS rfl) (ev2 (aU hS rfl) evn)) rfl (.cons (.same _) (.cons (qJ (.cons (dO 4 (er 5 rfl (og hS rfl rfl)) rfl (dvc (aFk 0 (er 0 rfl (og hS rfl rfl)) (dvc (.same _) (dvc (.same _) (dvc (.same _) (dvc (.same _) (dvc (.same _) (dvc (kE (kv := VI) (av := (fun v : aA => AV.agg (aB v))) (l := a.players) (enc := aB) (agg := true) 1 (er 1 rfl (og hS rfl rfl)) (fun h => by cases h) (fun _ => rfl)) (dvc (.same _) (dvc (.same _) (dvc (.same _) (dvc (.same _) (dvc (.same _) (dvc (.same _) dvn))))))))))))) dvn)) .nil)) .nil)) (dV a.first (fun y3 => fE y3 a.players) 109 (Z34 a c u s) Tryz.call109 (fun _ _ h => tU _ _ h) h5) (kR (fun _ => rfl) _) (kR (fun _ => rfl) _)) (by rintro _ ⟨w, rfl⟩; exact ⟨⟨0, w⟩, Ent.refl _⟩)),
      fun X2 S w _ k => xp w (lP (i := 5) (aK rfl) (aU k rfl) (og k rfl rfl) rfl gK),
      fun X2 S w _ k => xp w (bB (aK rfl) (aU k rfl)),
      fun X2 S w _ k => xp w (yf k rfl tZ),
      fun X2 S w _ k => xp w (yl k 0 rfl (og k rfl rfl) rfl cX),
      fun X2 S w _ k => xp w (ym k (.fn 109 [.bp b1 0 0])),
      fun X2 S hw hi hS => tO (X := X2) (p := 4) (v := fun x => .d (.lit x.v)) (mo := fun x => .arr x.v 3 1 (r7.map aI)) hS hi rfl rfl (fun _ => rfl) hw (fun _ => rfl) (fun _ => rfl) (fun _ => rfl) (fun _ => ⟨rfl, rfl, .inr rfl, ⟨rfl, rfl, .inr rfl, ⟨rfl, rfl, .inr rfl, ⟨rfl, rfl, .inr rfl, ⟨rfl, rfl, .inr rfl, ⟨rfl, rfl, .inr rfl, ⟨rfl, rfl, .inr rfl, ⟨rfl, rfl, .inr rfl, ⟨rfl, rfl, .inr rfl, ⟨rfl, rfl, .inr rfl, ⟨rfl, rfl, .inr rfl, ⟨rfl, rfl, .inr rfl, ⟨rfl, rfl, .inr rfl, ⟨rfl, rfl, .inl rfl, ⟨rfl, rfl, .inr rfl, ⟨rfl, rfl, .inr rfl, trivial⟩⟩⟩⟩⟩⟩⟩⟩⟩⟩⟩⟩⟩⟩⟩⟩) (fun _ => ⟨⟨rfl, .inr rfl, trivial⟩, rfl, ⟨trivial, rfl, ⟨trivial, rfl, ⟨⟨rfl, .inr rfl, trivial⟩, rfl, ⟨⟨rfl, .inl rfl, trivial⟩, rfl, ⟨trivial, rfl, trivial⟩⟩⟩⟩⟩⟩) (lR (aMa 4 (aK rfl) (og hS rfl rfl) (.func _ _ Tryz.call64) (ev2 (aU hS rfl) (ev2 (aU hS rfl) evn)) rfl (.cons (.same _) (.cons (qJ (.cons (dO 4 (er 5 rfl (og hS rfl rfl)) rfl (dvc (aFk 0 (er 0 rfl (og hS rfl rfl)) (dvc (.same _) (dvc (.same _) (dvc (.same _) (dvc (.same _) (dvc (.same _) (dvc (kE (kv := VI) (av := (fun v : aA => AV.agg (aB v))) (l := a.players) (enc := aB) (agg := true) 1 (er 1 rfl (og hS rfl rfl)) (fun h => by cases h) (fun _ => rfl)) (dvc (.same _) (dvc (.same _) (dvc (.same _) (dvc (.same _) (dvc (.same _) (dvc (.same _) dvn))))))))))))) dvn)) .nil)) .nil)) (dV a.late (fun y6 => fE y6 a.players) 109 (Z34 a c u s) Tryz.call109 (fun _ _ h => tU _ _ h) h8) (kR (fun _ => rfl) _) (kR (fun _ => rfl) _)) (by rintro _ ⟨w, rfl⟩; exact ⟨⟨0, w⟩, Ent.refl _⟩)),
      fun X2 S w _ k => xp w (bB (aK rfl) (aU k rfl)),
      fun X2 S w _ k => xp w (yf k rfl wR),
      fun X2 S w _ k => xs 0 k rfl rfl (lL (i := 0) (aU k rfl) (og k rfl rfl) (aU k rfl) rfl rfl Tryz.sizeOf25 rfl (aK rfl) (Nat.le_of_ble_eq_true rfl) (ds' := [.j a.Field.Places, .j a.Field.Wilds, .j a.Field.Guards, .j a.Field.Close, .j a.Field.Freeze, .lit (.map (some b)), .lit c, .k a.frozen, .lit (X2 7).v, .lit s, .j a.more, .j a.entered]) rfl), trivial⟩
  · exact fun X2 => bV (aM rfl (aM rfl (aR ⟨rfl, trivial⟩)))
 ·intro X2;refine to (bB (aK rfl) rfl) ?_;refine to (sf rfl tZ) (to (sst 0 rfl rfl Tryz.sizeOf25 [.j a.Field.Places, .j a.Field.Wilds, .j a.Field.Guards, .j a.Field.Close, .j a.Field.Freeze, .lit (.map (some b)), .lit c, .k a.frozen, .lit (X2 7).v, .lit (X2 13).v, .j a.more, .j a.entered]) (aD (aF (aC (to (lP (i := 5) (aK rfl) rfl rfl rfl gK) ?_)))));obtain ⟨r9, W, h⟩ := bns h;refine bO rfl (rX (aK rfl) (.func _ _ Tryz.call34) rfl rfl (.cons (dO 0 rfl rfl (dvc (.same _) (dvc (.same _) (dvc (.same _) (dvc (.same _) (dvc (.same _) (dvc (kE (kv := VI) (av := (fun v : aA => AV.agg (aB v))) (l := a.players) (enc := aB) (agg := true) 1 rfl (fun h => by cases h) (fun _ => rfl)) (dvc (bR 2 rfl (aY (f := aI) fun _ => rfl)) (dvc (.same _) (dvc (bR 3 rfl (aY (f := aI) fun _ => rfl)) (dvc (bR 4 rfl (aY (f := aI) fun _ => rfl)) (dvc (.same _) (dvc (.same _) dvn))))))))))))) .nil) (vA _ W) (kR (fun _ => rfl) _)) ?_;rintro _ ⟨O, rfl⟩;refine bO rfl (fC (zs := [.lit (.slice none 0 0)]) (aK rfl) Tryz.zeroValue25 rfl rfl) ?_;rintro _ ⟨Y, rfl⟩;refine to (sst 7 rfl rfl Tryz.sizeOf25 [.lit O]) (aD (bQ ?_));refine cO (S := Z56 × aP × Bool × Int × Int × Z56 × Value × Nat × Value) [1] (fun y => [(3, .bp y.2.2.2.2.2.2.2.1 0 0)]) (fun y => [.map b (a.players.map fun p : Int × aA => (VI p.1, (fun v : aA => AV.agg (aB v)) p.2)) o q, .arr c 3 1 (Z10 a), .arr (X2 7).v 3 1 (r4.map aI), .arr y.2.2.2.2.2.2.1 3 1 (y.1.map aI), .box g j [.j y.2.1.Places, .j y.2.1.Wilds, .j y.2.1.Guards, .j y.2.1.Close, .j y.2.1.Freeze, .lit (.map (some b)), .lit c, .k y.2.2.1, .lit (X2 7).v, .lit y.2.2.2.2.2.2.1, .j y.2.2.2.1, .j y.2.2.2.2.1], .box b1 0 [qM g j 0], .box y.2.2.2.2.2.2.2.1 0 [.lit y.2.2.2.2.2.2.2.2], .arr y.2.2.2.2.2.2.2.2 3 1 (y.2.2.2.2.2.1.map aI)]) (fun k y => iH a.players a.wilds r4 k y.1 y.2.1 y.2.2.1 y.2.2.2.1 y.2.2.2.2.1 y.2.2.2.2.2.1) (fun _ => rfl) (r7, a.Field, a.frozen, a.more, a.entered, r9, (X2 13).v, Y, O) h (aT [1, 2, 3, 4, 0, 5, 7, 6] rfl rfl (aM rfl (aR ⟨rfl, trivial⟩))) ?_;rintro a9 ⟨E, e, z, A, B, C, F, I, G⟩ h;simp only [iH] at h;refine aF (aF ?_);obtain ⟨P, Z, h⟩ := bns h;refine cB mix 4 [1, 3] [(27, .i (C.length : Int)), (29, .i P)] ?_ ?_
  ·refine ⟨[(26, 0, .d (.lit G)), (27, 1, .i (C.length : Int)), (28, 2, .bp g j 0), (29, 3, .i P)], ?_, ?_⟩
   · exact dk [0, 1, 0, 3] ⟨go (zl 6 rfl rfl rfl cX),
      go fun S hS => iP (m := 7) (aK rfl) (aU hS rfl) rfl bS.of,
      go fun S hS => lP (i := 5) (aK rfl) (aU hS rfl) rfl rfl gK,
      go fun S hS => lA (aK rfl) (.func _ _ Tryz.call36) (ev2 (aU hS rfl) evn) rfl (.cons (dO 4 rfl rfl (dvc (.same _) (dvc (.same _) (dvc (.same _) (dvc (.same _) (dvc (.same _) (dvc (kE (kv := VI) (av := (fun v : aA => AV.agg (aB v))) (l := a.players) (enc := aB) (agg := true) 0 rfl (fun h => by cases h) (fun _ => rfl)) (dvc (bR 1 rfl (aY (f := aI) fun _ => rfl)) (dvc (.same _) (dvc (bR 2 rfl (aY (f := aI) fun _ => rfl)) (dvc (bR 3 rfl (aY (f := aI) fun _ => rfl)) (dvc (.same _) (dvc (.same _) dvn))))))))))))) .nil) (fZ _ Z) rfl, trivial⟩
   · exact bV (aM rfl (aM rfl (aR ⟨rfl, rfl, trivial⟩)))
  ·refine to (scm rfl rfl rfl) (aD ?_);refine tih h (fun a0 h => ?_) (fun a0 h => ?_)
   ·refine bE (aF (bQ (aF (aC (to (lP (i := 5) (aK rfl) rfl rfl rfl gK) ?_)))));obtain ⟨K, a1, h⟩ := bns h;refine bO rfl (rX (aK rfl) (.func _ _ Tryz.call52) rfl rfl (.cons (dO 4 rfl rfl (dvc (.same _) (dvc (.same _) (dvc (.same _) (dvc (.same _) (dvc (.same _) (dvc (kE (kv := VI) (av := (fun v : aA => AV.agg (aB v))) (l := a.players) (enc := aB) (agg := true) 0 rfl (fun h => by cases h) (fun _ => rfl)) (dvc (bR 1 rfl (aY (f := aI) fun _ => rfl)) (dvc (.same _) (dvc (bR 2 rfl (aY (f := aI) fun _ => rfl)) (dvc (bR 3 rfl (aY (f := aI) fun _ => rfl)) (dvc (.same _) (dvc (.same _) dvn))))))))))))) .nil) (jY _ a1) (kR (fun _ => rfl) _)) ?_;rintro _ ⟨L, rfl⟩;refine to (pO (aK rfl) rfl rfl) ?_;obtain ⟨H, a2, h⟩ := bns h;refine to (sc Tryz.call90 (rY _ _ 110 [.cp [.pt [.j e.Places, .j e.Wilds, .j e.Guards, .j e.Close, .j e.Freeze, .mp true (a.players.map fun p : Int × aA => (VI p.1, aB p.2)), .sl 1 (Z10 a), .k z, .sl 1 (r4.map aI), .sl 1 (E.map aI), .j A, .j B]], .cp [.sl 1 (C.map aI)]] Tryz.call110 (fun _ _ h => aAd _ (aH.mk e a.players a.wilds z r4 E A B) _ h) a2) (.cons (.d (bR 8 rfl (aY (f := aI) fun _ => rfl))) (.cons (qJ (.cons (dO 5 rfl rfl (dvc (aFk 4 rfl (dvc (.same _) (dvc (.same _) (dvc (.same _) (dvc (.same _) (dvc (.same _) (dvc (kE (kv := VI) (av := (fun v : aA => AV.agg (aB v))) (l := a.players) (enc := aB) (agg := true) 0 rfl (fun h => by cases h) (fun _ => rfl)) (dvc (bR 1 rfl (aY (f := aI) fun _ => rfl)) (dvc (.same _) (dvc (bR 2 rfl (aY (f := aI) fun _ => rfl)) (dvc (bR 3 rfl (aY (f := aI) fun _ => rfl)) (dvc (.same _) (dvc (.same _) dvn))))))))))))) dvn)) (.cons (dO 6 rfl rfl (dvc (bR 7 rfl (aY (f := aI) fun _ => rfl)) dvn)) .nil))) .nil))) (ta (.i H) (aD (aF (aF (aC (tm (.i H) (to (scm rfl rfl rfl) (aD ?_))))))));refine tih h (fun a3 h => ?_) (fun a3 h => ?_)
    ·obtain rfl := sIn h;refine bP (aT [4, 0, 1, 2, 3, 5, 6, 7, 8] rfl rfl (le_refl _)) ?_;exact cU ⟨rfl, _, [.box g j [.j e.Places, .j e.Wilds, .j e.Guards, .j e.Close, .j e.Freeze, .lit (.map (some b)), .lit c, .k z, .lit (X2 7).v, .lit F, .j A, .j B], .map b (a.players.map fun p : Int × aA => (VI p.1, (fun v : aA => AV.agg (aB v)) p.2)) o q, .arr c 3 1 (Z10 a), .arr (X2 7).v 3 1 (r4.map aI), .arr F 3 1 (E.map aI)], [.box b1 0 [qM g j 0], .box I 0 [.lit G], .arr G 3 1 (C.map aI), .arr L 3 1 (K.map aI)], _, .none, .refl _, .same _, o, q, c, (X2 7).v, F, rfl, rfl⟩
    ·refine bE ?_;obtain ⟨M, a4, h⟩ := bns h;obtain ⟨N, Q, h⟩ := bns h;obtain ⟨J, a5, h⟩ := bns h;refine lS mix 12 [1, 3] (fun t => [(39, .bp g j 0), (50, .d (.lit (t 11).v))]) (fun t => [.map b (a.players.map fun p : Int × aA => (VI p.1, (fun v : aA => AV.agg (aB v)) p.2)) o q, .arr c 3 1 (Z10 a), .arr (X2 7).v 3 1 (r4.map aI), .arr (t 11).v 3 1 (J.map aI), .box g j [.j e.Places, .j e.Wilds, .j e.Guards, .j e.Close, .j e.Freeze, .lit (.map (some b)), .lit c, .k z, .lit (X2 7).v, .lit F, .j A, .j B], .box b1 0 [qM g j 0], .box I 0 [.lit G], .arr G 3 1 (C.map aI), .arr L 3 1 (K.map aI), .arr (t 6).v 3 1 (M.map aI)]) ?_ ?_
     ·refine ⟨1, fun t => [(39, 0, .bp g j 0), (40, 1, .bp g j 0), (41, 2, .bp g j 0), (42, 3, .bp g j 9), (43, 4, .d (.lit F)), (44, 5, .bp g j 0), (45, 6, .d (.lit (t 6).v)), (46, 7, .i H), (47, 8, .ep (t 6).v 1 H.toNat 0), (48, 9, .i N), (49, 10, .d (.sl 1 (([N]).map aI))), (50, 11, .d (.lit (t 11).v))], fun t => [([], .map b (a.players.map fun p : Int × aA => (VI p.1, (fun v : aA => AV.agg (aB v)) p.2)) o q), ([], .arr c 3 1 (Z10 a)), ([], .arr (X2 7).v 3 1 (r4.map aI)), ([(11, .arr (t 11).v 3 1 (J.map aI))], .arr F 3 1 (E.map aI)), ([], .box g j [.j e.Places, .j e.Wilds, .j e.Guards, .j e.Close, .j e.Freeze, .lit (.map (some b)), .lit c, .k z, .lit (X2 7).v, .lit F, .j A, .j B]), ([], .box b1 0 [qM g j 0]), ([], .box I 0 [.lit G]), ([], .arr G 3 1 (C.map aI)), ([], .arr L 3 1 (K.map aI)), ([(6, .arr (t 6).v 3 1 (M.map aI))], nob)], ?_, ?_⟩
      · exact xok [(0, 0), (0, 12), (2, 12), (3, 12), (4, 12), (0, 712), (6, 912), (0, 12), (708, 12), (709, 12), (710, 12), (50711, 0)] ⟨fun t S w _ k => xp w (lP (i := 5) (aK rfl) (aU k rfl) (og k rfl rfl) rfl gK),
      fun t S w _ k => xp w (lP (i := 5) (aK rfl) (aU k rfl) (og k rfl rfl) rfl gK),
      fun t S w _ k => xp w (bB (aK rfl) (aU k rfl)),
      fun t S w _ k => xp w (yf k rfl tZ),
      fun t S w _ k => xp w (yl k 4 rfl (og k rfl rfl) rfl cX),
      fun t S w _ k => xp w (lP (i := 5) (aK rfl) (aU k rfl) (og k rfl rfl) rfl gK),
      fun t S hw hi hS => tO (X := t) (p := 9) (v := fun x => .d (.lit x.v)) (mo := fun x => .arr x.v 3 1 (M.map aI)) hS hi rfl rfl (fun _ => rfl) hw (fun _ => rfl) (fun _ => rfl) (fun _ => rfl) (fun _ => ⟨rfl, rfl, .inr rfl, ⟨rfl, rfl, .inr rfl, ⟨rfl, rfl, .inr rfl, ⟨rfl, rfl, .inr rfl, ⟨rfl, rfl, .inr rfl, ⟨rfl, rfl, .inr rfl, ⟨rfl, rfl, .inl rfl, ⟨rfl, rfl, .inr rfl, ⟨rfl, rfl, .inl rfl, ⟨rfl, rfl, .inr rfl, ⟨rfl, rfl, .inr rfl, ⟨rfl, rfl, .inr rfl, trivial⟩⟩⟩⟩⟩⟩⟩⟩⟩⟩⟩⟩) (fun _ => ⟨trivial, rfl, ⟨trivial, rfl, ⟨trivial, rfl, ⟨⟨rfl, .inr rfl, trivial⟩, rfl, ⟨trivial, rfl, ⟨trivial, rfl, ⟨trivial, rfl, ⟨trivial, rfl, ⟨trivial, rfl, ⟨⟨rfl, .inl rfl, trivial⟩, rfl, trivial⟩⟩⟩⟩⟩⟩⟩⟩⟩⟩) (lR (rX (aK rfl) (.func _ _ Tryz.call52) (ev2 (aU hS rfl) evn) rfl (.cons (dO 4 (og hS rfl rfl) rfl (dvc (.same _) (dvc (.same _) (dvc (.same _) (dvc (.same _) (dvc (.same _) (dvc (kE (kv := VI) (av := (fun v : aA => AV.agg (aB v))) (l := a.players) (enc := aB) (agg := true) 0 (og hS rfl rfl) (fun h => by cases h) (fun _ => rfl)) (dvc (bR 1 (og hS rfl rfl) (aY (f := aI) fun _ => rfl)) (dvc (.same _) (dvc (bR 2 (og hS rfl rfl) (aY (f := aI) fun _ => rfl)) (dvc (bR 3 (og hS rfl rfl) (aY (f := aI) fun _ => rfl)) (dvc (.same _) (dvc (.same _) dvn))))))))))))) .nil) (jY _ a4) (kR (fun _ => rfl) _)) (by rintro _ ⟨w, rfl⟩; exact ⟨⟨0, w⟩, aT [0, 1, 2, 3, 4, 5, 6, 7, 8, 10] rfl rfl (le_refl _)⟩)),
      fun t S w _ k => xp w (ym k (.i H)),
      fun t S w _ k => xp w (yia k 9 rfl (og k rfl rfl) rfl bS.of (cJ aI Q)),
      fun t S w _ k => xp w (oQ (aK rfl) (aU k rfl) (m := 9) (og k rfl rfl) (qZ aI Q) rfl aV),
      fun t S w _ k => xp w (gH (aK rfl) bS rfl (pa2 (aU k rfl) pan) (rows := ([N]).map aI) rfl (aY (f := aI) fun _ => rfl) rfl (by decide)),
      fun t S hw hi hS => tO (X := t) (p := 3) (v := fun x => .d (.lit x.v)) (mo := fun x => .arr x.v 3 1 (J.map aI)) hS hi rfl rfl (fun _ => rfl) hw (fun _ => rfl) (fun _ => rfl) (fun _ => rfl) (fun _ => ⟨rfl, rfl, .inr rfl, ⟨rfl, rfl, .inr rfl, ⟨rfl, rfl, .inr rfl, ⟨rfl, rfl, .inr rfl, ⟨rfl, rfl, .inr rfl, ⟨rfl, rfl, .inr rfl, ⟨rfl, rfl, .inr rfl, ⟨rfl, rfl, .inr rfl, ⟨rfl, rfl, .inr rfl, ⟨rfl, rfl, .inr rfl, ⟨rfl, rfl, .inr rfl, ⟨rfl, rfl, .inl rfl, trivial⟩⟩⟩⟩⟩⟩⟩⟩⟩⟩⟩⟩) (fun _ => ⟨trivial, rfl, ⟨trivial, rfl, ⟨trivial, rfl, ⟨⟨rfl, .inl rfl, trivial⟩, rfl, ⟨trivial, rfl, ⟨trivial, rfl, ⟨trivial, rfl, ⟨trivial, rfl, ⟨trivial, rfl, ⟨⟨rfl, .inr rfl, trivial⟩, rfl, trivial⟩⟩⟩⟩⟩⟩⟩⟩⟩⟩) (lR (kS (i := 3) (aK rfl) bS (aU hS rfl) (og hS rfl rfl) (aU hS rfl) (fun _ => rfl) a5 rfl) (by rintro _ ⟨w, rfl⟩; exact ⟨⟨0, w⟩, Ent.refl _⟩)), trivial⟩
      · exact fun t => bV (aM rfl (aM rfl (aR ⟨rfl, rfl, trivial⟩)))
     ·intro t;refine to (bB (aK rfl) rfl) ?_;refine to (sf rfl tZ) (to (sst 4 rfl rfl Tryz.sizeOf25 [.j e.Places, .j e.Wilds, .j e.Guards, .j e.Close, .j e.Freeze, .lit (.map (some b)), .lit c, .k z, .lit (X2 7).v, .lit (t 11).v, .j A, .j B]) ?_);refine dA ?_;refine aF (aF (aC (to (sl 6 rfl rfl rfl cX) (aD (aC ?_)))));refine bO rfl (fC (zs := [.lit (.slice none 0 0)]) (aK rfl) Tryz.zeroValue25 rfl rfl) ?_;rintro _ ⟨a6, rfl⟩;refine to (sst 10 rfl rfl Tryz.sizeOf25 [.lit G]) (aD (aC (to (lP (i := 5) (aK rfl) rfl rfl rfl gK) ?_)));obtain ⟨a7, a8, h⟩ := bns h;refine bO rfl (rX (aK rfl) (.func _ _ Tryz.call34) rfl rfl (.cons (dO 4 rfl rfl (dvc (.same _) (dvc (.same _) (dvc (.same _) (dvc (.same _) (dvc (.same _) (dvc (kE (kv := VI) (av := (fun v : aA => AV.agg (aB v))) (l := a.players) (enc := aB) (agg := true) 0 rfl (fun h => by cases h) (fun _ => rfl)) (dvc (bR 1 rfl (aY (f := aI) fun _ => rfl)) (dvc (.same _) (dvc (bR 2 rfl (aY (f := aI) fun _ => rfl)) (dvc (bR 3 rfl (aY (f := aI) fun _ => rfl)) (dvc (.same _) (dvc (.same _) dvn))))))))))))) .nil) (vA _ a8) (kR (fun _ => rfl) _)) ?_;rintro _ ⟨T, rfl⟩;refine to (sst 10 rfl rfl Tryz.sizeOf25 [.lit T]) (aD ?_);exact ⟨(J, e, z, A, B, a7, (t 11).v, a6, T), h, aT [0, 1, 2, 3, 4, 5, 10, 11] rfl rfl (aM rfl (aR ⟨rfl, trivial⟩))⟩
   ·refine cD ?_;refine .inl ⟨rfl, ?_⟩;simp only [nQ] at h;obtain rfl := sIn h;exact ⟨_, [.box g j [.j e.Places, .j e.Wilds, .j e.Guards, .j e.Close, .j e.Freeze, .lit (.map (some b)), .lit c, .k z, .lit (X2 7).v, .lit F, .j A, .j B], .map b (a.players.map fun p : Int × aA => (VI p.1, (fun v : aA => AV.agg (aB v)) p.2)) o q, .arr c 3 1 (Z10 a), .arr (X2 7).v 3 1 (r4.map aI), .arr F 3 1 (E.map aI)], [.box b1 0 [qM g j 0], .box I 0 [.lit G], .arr G 3 1 (C.map aI)], _, .none, (cZ (i := 4) rfl).trans (.cons _ ((cZ (i := 0) rfl).trans (.cons _ ((cZ (i := 0) rfl).trans (.cons _ ((cZ (i := 0) rfl).trans (.cons _ ((cZ (i := 0) rfl).trans (.cons _ ((cZ (i := 0) rfl).trans (.cons _ ((cZ (i := 0) rfl).trans (.cons _ ((cZ (i := 0) rfl).trans (.cons _ (.refl _)))))))))))))))), .same _, o, q, c, (X2 7).v, F, rfl, rfl⟩

theorem zW (x : aP) (G : List aG) (A : Int) {r : (Option aH)} (h : pR x G A = some r) : Fn Tryz.prog 50 [.agg (aX x), .d (Z12 G), .i A] (lV bA r) := by
 unfold pR at h;refine oT [.tmp 6] Tryz.func50 Tryz.results50 Tryz.ntmps50 ?_;refine aF (aC ?_);refine bO rfl (jM (v := .agg (aX x)) (aK rfl) rfl rfl rfl) ?_;rintro _ ⟨b1, rfl⟩;refine ta Z45 (aD (aF (aC (to (sla 0 (aX x) rfl rfl jU) ?_))));refine bO rfl (aBl (aK rfl)) ?_;rintro _ ⟨r2, rfl⟩;refine to (uN (aK rfl) aUt (zs := [.j 0, .j 0, .j 0, .j 0, .j 0, .lit (.map none), .lit (.slice none 0 0), .k false, .lit (.slice none 0 0), .lit (.slice none 0 0), .j 0, .j 0]) rfl rfl rfl rfl (es := [.j x.Places, .j x.Wilds, .j x.Guards, .j x.Close, .j x.Freeze, .lit (.map (some r2)), .lit (.slice none 0 0), .k false, .lit (.slice none 0 0), .lit (.slice none 0 0), .j 0, .j 0]) rfl) ?_;refine bO rfl (jM (v := .agg [.j x.Places, .j x.Wilds, .j x.Guards, .j x.Close, .j x.Freeze, .lit (.map (some r2)), .lit (.slice none 0 0), .k false, .lit (.slice none 0 0), .lit (.slice none 0 0), .j 0, .j 0]) (aK rfl) rfl rfl rfl) ?_;rintro _ ⟨b3, rfl⟩;refine dF (sY 3 1) ?_;refine dF (sY 3 1) ?_;refine dF (sY 3 1) ?_;refine ta (.bp b3 0 0) (aD (aF (aC (tm (Z35 G) ?_))));obtain ⟨x4, h5, h⟩ := bns h;refine to (dM (aK rfl) (.func _ _ Tryz.call75) rfl rfl (vP _ h5)) ?_;obtain ⟨r8, h9, h⟩ := bns h;refine bO rfl (kK (aK rfl) (.func _ _ Tryz.call74) rfl rfl (sU _ _ 76 [] Tryz.call76 (fun _ _ _ h => aDx _ _ h) h9)) ?_;rintro _ ⟨O, rfl⟩;refine ta (.d (.lit O)) (aD (aF (aF (aC (tm (.d (.lit O)) ?_)))));obtain ⟨M, c4, h⟩ := bns h;refine dF (aT [6, 0, 1, 2, 3, 4, 5] rfl rfl (le_refl _)) ?_;refine bO rfl (iO (passed := [.arr O 32 5 (r8.map aJ)]) (aK rfl) rfl (.func _ _ Tryz.call78) rfl rfl (vJ r8 c4)) ?_;rintro _ ⟨_, _, ⟨N, rfl, rfl⟩, rfl⟩;refine to (iP (m := 0) (aK rfl) rfl rfl dG.of) ?_;refine tm (.i 0) (aD (bQ ?_));refine cO (S := Int × (List (Int × aA)) × Z56 × Z56 × Z56 × aP × Bool × Int × Int × (List Nat) × Nat × Value × Value × Value) [2, 3, 7, 19, 20] (fun u => [(21, .i u.1)]) (fun u => [.box b1 0 (aX x), .map r2 (u.2.1.map fun p : Int × aA => (VI p.1, (fun v : aA => AV.agg (aB v)) p.2)) u.2.2.2.2.2.2.2.2.2.1 u.2.2.2.2.2.2.2.2.2.2.1, .arr u.2.2.2.2.2.2.2.2.2.2.2.1 3 1 (u.2.2.1.map aI), .arr u.2.2.2.2.2.2.2.2.2.2.2.2.1 3 1 (u.2.2.2.1.map aI), .arr u.2.2.2.2.2.2.2.2.2.2.2.2.2 3 1 (u.2.2.2.2.1.map aI), .box b3 0 [.j u.2.2.2.2.2.1.Places, .j u.2.2.2.2.2.1.Wilds, .j u.2.2.2.2.2.1.Guards, .j u.2.2.2.2.2.1.Close, .j u.2.2.2.2.2.1.Freeze, .lit (.map (some r2)), .lit u.2.2.2.2.2.2.2.2.2.2.2.1, .k u.2.2.2.2.2.2.1, .lit u.2.2.2.2.2.2.2.2.2.2.2.2.1, .lit u.2.2.2.2.2.2.2.2.2.2.2.2.2, .j u.2.2.2.2.2.2.2.1, .j u.2.2.2.2.2.2.2.2.1], .arr N 32 5 (M.map aJ)]) (fun k u => fL A (M.length : Int) x M k u.1 u.2.1 u.2.2.1 u.2.2.2.1 u.2.2.2.2.1 u.2.2.2.2.2.1 u.2.2.2.2.2.2.1 u.2.2.2.2.2.2.2.1 u.2.2.2.2.2.2.2.2.1) (fun _ => rfl) (0, ([] : List (Int × aA)), ([] : List Int), ([] : List Int), ([] : List Int), x, false, 0, 0, [], 0, (.slice none 0 0), (.slice none 0 0), (.slice none 0 0)) h (aT [1, 2, 4, 5, 6, 3, 0] rfl rfl (aM rfl (aR ⟨rfl, rfl, rfl, rfl, rfl, trivial⟩))) ?_;rintro e5 ⟨w, e, t, g, j, a, o, q, s, H, I, C, E, F⟩ h;simp only [fL] at h;refine aF (aC (to (scm rfl rfl rfl) (aD (aF ?_))));refine tih h (fun c5 h => ?_) (fun c5 h => ?_)
 ·refine bE (aF (bQ (aF (aC ?_))));obtain ⟨J, a1, h⟩ := bns h;refine to (mP (m := 6) (aK rfl) rfl rfl rfl dG.of (cJ aJ a1)) ?_;refine to (rM (aK rfl) rfl (l := 6) rfl (qZ aJ a1) jJ (es := (aJ J)) rfl rfl) ?_;refine bO rfl (fC (zs := [.j 0, .j 0, .j 0, .j 0, .j 0]) (aK rfl) Tryz.zeroValue32 rfl rfl) ?_;rintro _ ⟨a2, rfl⟩;refine to (sst 7 rfl rfl Tryz.sizeOf32 (aJ J)) (aD (aF (aF (aC (tfl 7 rfl rfl eU rfl aV (tm (.i A) (to (scm rfl rfl rfl) (aD ?_))))))));refine tih h (fun c6 h => ?_) (fun c6 h => ?_)
  ·refine cD ?_;refine .inr ⟨by decide, ?_⟩;refine .inl ⟨rfl, ?_⟩;simp only [mQ] at h;refine aF (aF (aC (tm (.i A) (tfl 0 rfl rfl jT rfl aV (to (scm rfl rfl rfl) (aD ?_))))));refine tih h (fun c7 h => ?_) (fun c7 h => ?_)
   ·refine aC (tm (.bp b3 0 0) ?_);obtain ⟨b, c8, h⟩ := bns h;refine dF (aT [5, 1, 2, 3, 4, 0, 6, 7] rfl rfl (le_refl _)) ?_;refine bO rfl (iO (passed := [.box b3 0 [.j a.Places, .j a.Wilds, .j a.Guards, .j a.Close, .j a.Freeze, .lit (.map (some r2)), .lit C, .k o, .lit E, .lit F, .j q, .j s], .map r2 (e.map fun p : Int × aA => (VI p.1, (fun v : aA => AV.agg (aB v)) p.2)) H I, .arr C 3 1 (t.map aI), .arr E 3 1 (g.map aI), .arr F 3 1 (j.map aI)]) (aK rfl) rfl (.func _ _ Tryz.call79) rfl rfl (qB (aH.mk a e t o g j q s) c8)) ?_;rintro _ ⟨_, _, ⟨b4, b5, a3, a4, a5, rfl, rfl⟩, rfl⟩;refine aD (aF (aC (tm (.bp b3 0 0) (ta (.bp b3 0 0) (aD ?_)))));refine bP (aT [5, 6, 7, 0, 1, 2, 3, 4] rfl rfl (le_refl _)) ?_;apply aBs [.box b1 0 (aX x), .arr N 32 5 (M.map aJ), .box a2 0 (aJ J)] [.box b3 0 [.j b.Field.Places, .j b.Field.Wilds, .j b.Field.Guards, .j b.Field.Close, .j b.Field.Freeze, .lit (.map (some r2)), .lit a3, .k b.frozen, .lit a4, .lit a5, .j b.more, .j b.entered], .map r2 (b.players.map fun p : Int × aA => (VI p.1, (fun v : aA => AV.agg (aB v)) p.2)) b4 b5, .arr a3 3 1 (b.wilds.map aI), .arr a4 3 1 (b.first.map aI), .arr a5 3 1 (b.late.map aI)] rfl;exact cQ (k := 52) (v := .cp [.j b.Field.Places, .j b.Field.Wilds, .j b.Field.Guards, .j b.Field.Close, .j b.Field.Freeze, .mp true (b.players.map fun p : Int × aA => (VI p.1, aB p.2)), .sl 1 (b.wilds.map aI), .k b.frozen, .sl 1 (b.first.map aI), .sl 1 (b.late.map aI), .j b.more, .j b.entered]) (dO 0 rfl rfl (dvc (.same _) (dvc (.same _) (dvc (.same _) (dvc (.same _) (dvc (.same _) (dvc (kE (kv := VI) (av := (fun v : aA => AV.agg (aB v))) (l := b.players) (enc := aB) (agg := true) 1 rfl (fun h => by cases h) (fun _ => rfl)) (dvc (bR 2 rfl (aY (f := aI) fun _ => rfl)) (dvc (.same _) (dvc (bR 3 rfl (aY (f := aI) fun _ => rfl)) (dvc (bR 4 rfl (aY (f := aI) fun _ => rfl)) (dvc (.same _) (dvc (.same _) dvn))))))))))))) (cQ (k := 50) (v := .cp [.j b.Field.Places, .j b.Field.Wilds, .j b.Field.Guards, .j b.Field.Close, .j b.Field.Freeze, .mp true (b.players.map fun p : Int × aA => (VI p.1, aB p.2)), .sl 1 (b.wilds.map aI), .k b.frozen, .sl 1 (b.first.map aI), .sl 1 (b.late.map aI), .j b.more, .j b.entered]) (dO 0 rfl rfl (dvc (.same _) (dvc (.same _) (dvc (.same _) (dvc (.same _) (dvc (.same _) (dvc (kE (kv := VI) (av := (fun v : aA => AV.agg (aB v))) (l := b.players) (enc := aB) (agg := true) 1 rfl (fun h => by cases h) (fun _ => rfl)) (dvc (bR 2 rfl (aY (f := aI) fun _ => rfl)) (dvc (.same _) (dvc (bR 3 rfl (aY (f := aI) fun _ => rfl)) (dvc (bR 4 rfl (aY (f := aI) fun _ => rfl)) (dvc (.same _) (dvc (.same _) dvn))))))))))))) (cQ (k := 7) (v := .cp [.j b.Field.Places, .j b.Field.Wilds, .j b.Field.Guards, .j b.Field.Close, .j b.Field.Freeze, .mp true (b.players.map fun p : Int × aA => (VI p.1, aB p.2)), .sl 1 (b.wilds.map aI), .k b.frozen, .sl 1 (b.first.map aI), .sl 1 (b.late.map aI), .j b.more, .j b.entered]) (dO 0 rfl rfl (dvc (.same _) (dvc (.same _) (dvc (.same _) (dvc (.same _) (dvc (.same _) (dvc (kE (kv := VI) (av := (fun v : aA => AV.agg (aB v))) (l := b.players) (enc := aB) (agg := true) 1 rfl (fun h => by cases h) (fun _ => rfl)) (dvc (bR 2 rfl (aY (f := aI) fun _ => rfl)) (dvc (.same _) (dvc (bR 3 rfl (aY (f := aI) fun _ => rfl)) (dvc (bR 4 rfl (aY (f := aI) fun _ => rfl)) (dvc (.same _) (dvc (.same _) dvn))))))))))))) (cQ (k := 6) (v := .cp [.j b.Field.Places, .j b.Field.Wilds, .j b.Field.Guards, .j b.Field.Close, .j b.Field.Freeze, .mp true (b.players.map fun p : Int × aA => (VI p.1, aB p.2)), .sl 1 (b.wilds.map aI), .k b.frozen, .sl 1 (b.first.map aI), .sl 1 (b.late.map aI), .j b.more, .j b.entered]) (dO 0 rfl rfl (dvc (.same _) (dvc (.same _) (dvc (.same _) (dvc (.same _) (dvc (.same _) (dvc (kE (kv := VI) (av := (fun v : aA => AV.agg (aB v))) (l := b.players) (enc := aB) (agg := true) 1 rfl (fun h => by cases h) (fun _ => rfl)) (dvc (bR 2 rfl (aY (f := aI) fun _ => rfl)) (dvc (.same _) (dvc (bR 3 rfl (aY (f := aI) fun _ => rfl)) (dvc (bR 4 rfl (aY (f := aI) fun _ => rfl)) (dvc (.same _) (dvc (.same _) dvn))))))))))))) (jR _ _))));obtain rfl := sIn h;refine bP (bK (bM (l := [6]) ⟨rfl, trivial⟩)) ?_;exact rt
   ·refine bE (aF (aC (tm (.bp b3 0 0) (ta (.bp b3 0 0) (aD ?_)))));refine bP (aT [0, 6, 7, 1, 2, 3, 4, 5] rfl rfl (le_refl _)) ?_;apply aBs [.box b1 0 (aX x), .arr N 32 5 (M.map aJ), .box a2 0 (aJ J)] [.map r2 (e.map fun p : Int × aA => (VI p.1, (fun v : aA => AV.agg (aB v)) p.2)) H I, .arr C 3 1 (t.map aI), .arr E 3 1 (g.map aI), .arr F 3 1 (j.map aI), .box b3 0 [.j a.Places, .j a.Wilds, .j a.Guards, .j a.Close, .j a.Freeze, .lit (.map (some r2)), .lit C, .k o, .lit E, .lit F, .j q, .j s]] rfl;exact cQ (k := 52) (v := .cp [.j a.Places, .j a.Wilds, .j a.Guards, .j a.Close, .j a.Freeze, .mp true (e.map fun p : Int × aA => (VI p.1, aB p.2)), .sl 1 (t.map aI), .k o, .sl 1 (g.map aI), .sl 1 (j.map aI), .j q, .j s]) (dO 4 rfl rfl (dvc (.same _) (dvc (.same _) (dvc (.same _) (dvc (.same _) (dvc (.same _) (dvc (kE (kv := VI) (av := (fun v : aA => AV.agg (aB v))) (l := e) (enc := aB) (agg := true) 0 rfl (fun h => by cases h) (fun _ => rfl)) (dvc (bR 1 rfl (aY (f := aI) fun _ => rfl)) (dvc (.same _) (dvc (bR 2 rfl (aY (f := aI) fun _ => rfl)) (dvc (bR 3 rfl (aY (f := aI) fun _ => rfl)) (dvc (.same _) (dvc (.same _) dvn))))))))))))) (cQ (k := 7) (v := .cp [.j a.Places, .j a.Wilds, .j a.Guards, .j a.Close, .j a.Freeze, .mp true (e.map fun p : Int × aA => (VI p.1, aB p.2)), .sl 1 (t.map aI), .k o, .sl 1 (g.map aI), .sl 1 (j.map aI), .j q, .j s]) (dO 4 rfl rfl (dvc (.same _) (dvc (.same _) (dvc (.same _) (dvc (.same _) (dvc (.same _) (dvc (kE (kv := VI) (av := (fun v : aA => AV.agg (aB v))) (l := e) (enc := aB) (agg := true) 0 rfl (fun h => by cases h) (fun _ => rfl)) (dvc (bR 1 rfl (aY (f := aI) fun _ => rfl)) (dvc (.same _) (dvc (bR 2 rfl (aY (f := aI) fun _ => rfl)) (dvc (bR 3 rfl (aY (f := aI) fun _ => rfl)) (dvc (.same _) (dvc (.same _) dvn))))))))))))) (cQ (k := 6) (v := .cp [.j a.Places, .j a.Wilds, .j a.Guards, .j a.Close, .j a.Freeze, .mp true (e.map fun p : Int × aA => (VI p.1, aB p.2)), .sl 1 (t.map aI), .k o, .sl 1 (g.map aI), .sl 1 (j.map aI), .j q, .j s]) (dO 4 rfl rfl (dvc (.same _) (dvc (.same _) (dvc (.same _) (dvc (.same _) (dvc (.same _) (dvc (kE (kv := VI) (av := (fun v : aA => AV.agg (aB v))) (l := e) (enc := aB) (agg := true) 0 rfl (fun h => by cases h) (fun _ => rfl)) (dvc (bR 1 rfl (aY (f := aI) fun _ => rfl)) (dvc (.same _) (dvc (bR 2 rfl (aY (f := aI) fun _ => rfl)) (dvc (bR 3 rfl (aY (f := aI) fun _ => rfl)) (dvc (.same _) (dvc (.same _) dvn))))))))))))) (jR _ _)));obtain rfl := sIn h;refine bP (bK (bM (l := [6]) ⟨rfl, trivial⟩)) ?_;exact rt
  ·refine bE (aF (aF (aC (tfl 7 rfl rfl eU rfl aV (tfl 0 rfl rfl jT rfl aV (to (scm rfl rfl rfl) (aD ?_)))))));refine tih h (fun c9 h => ?_) (fun c9 h => ?_)
   ·refine aC (tm (.bp b3 0 0) ?_);obtain ⟨B, d0, h⟩ := bns h;refine dF (aT [5, 1, 2, 3, 4, 0, 6, 7] rfl rfl (le_refl _)) ?_;refine bO rfl (iO (passed := [.box b3 0 [.j a.Places, .j a.Wilds, .j a.Guards, .j a.Close, .j a.Freeze, .lit (.map (some r2)), .lit C, .k o, .lit E, .lit F, .j q, .j s], .map r2 (e.map fun p : Int × aA => (VI p.1, (fun v : aA => AV.agg (aB v)) p.2)) H I, .arr C 3 1 (t.map aI), .arr E 3 1 (g.map aI), .arr F 3 1 (j.map aI)]) (aK rfl) rfl (.func _ _ Tryz.call79) rfl rfl (qB (aH.mk a e t o g j q s) d0)) ?_;rintro _ ⟨_, _, ⟨b6, b7, a6, a7, a8, rfl, rfl⟩, rfl⟩;refine aD (aF (aC (tm (.bp b3 0 0) (to (sla 7 (aJ J) rfl rfl jJ) ?_))));obtain ⟨y, d1, h⟩ := bns h;refine bO rfl (iO (passed := [.box b3 0 [.j B.Field.Places, .j B.Field.Wilds, .j B.Field.Guards, .j B.Field.Close, .j B.Field.Freeze, .lit (.map (some r2)), .lit a6, .k B.frozen, .lit a7, .lit a8, .j B.more, .j B.entered], .map r2 (B.players.map fun p : Int × aA => (VI p.1, (fun v : aA => AV.agg (aB v)) p.2)) b6 b7, .arr a6 3 1 (B.wilds.map aI), .arr a7 3 1 (B.first.map aI), .arr a8 3 1 (B.late.map aI)]) (aK rfl) rfl (.func _ _ Tryz.call80) rfl rfl (vR B J d1)) ?_;rintro _ ⟨_, _, ⟨P, Q, T, U, V, rfl, rfl⟩, rfl⟩;refine aD (aF (aC (tm (.bp b3 0 0) (to (bB (aK rfl) rfl) ?_))));refine tfl 0 rfl rfl sL rfl eV (aD ?_);refine tih h (fun d2 h => ?_) (fun d2 h => ?_)
    ·refine aC (tm (.bp b3 0 0) ?_);obtain ⟨K, d3, h⟩ := bns h;refine bO rfl (iO (passed := [.box b3 0 [.j y.Field.Places, .j y.Field.Wilds, .j y.Field.Guards, .j y.Field.Close, .j y.Field.Freeze, .lit (.map (some r2)), .lit T, .k y.frozen, .lit U, .lit V, .j y.more, .j y.entered], .map r2 (y.players.map fun p : Int × aA => (VI p.1, (fun v : aA => AV.agg (aB v)) p.2)) P Q, .arr T 3 1 (y.wilds.map aI), .arr U 3 1 (y.first.map aI), .arr V 3 1 (y.late.map aI)]) (aK rfl) rfl (.func _ _ Tryz.call81) rfl rfl (vQ y d3)) ?_;rintro _ ⟨_, _, ⟨b8, b9, d4, d5, d6, rfl, rfl⟩, rfl⟩;refine dA ?_;refine aC (to (sar rfl rfl rfl) (tm (.i (w64 (w + 1))) (aD ?_)));exact ⟨(w64 (w + 1), K.players, K.wilds, K.first, K.late, K.Field, K.frozen, K.more, K.entered, b8, b9, d4, d5, d6), h, aT [5, 1, 2, 3, 4, 0, 6] rfl rfl (aM rfl (aR ⟨rfl, rfl, rfl, rfl, rfl, trivial⟩))⟩
    ·refine cG ?_;refine aC (to (sar rfl rfl rfl) (tm (.i (w64 (w + 1))) (aD ?_)));exact ⟨(w64 (w + 1), y.players, y.wilds, y.first, y.late, y.Field, y.frozen, y.more, y.entered, P, Q, T, U, V), h, aT [5, 1, 2, 3, 4, 0, 6] rfl rfl (aM rfl (aR ⟨rfl, rfl, rfl, rfl, rfl, trivial⟩))⟩
   ·refine bE (aF (aC (tm (.bp b3 0 0) (to (sla 7 (aJ J) rfl rfl jJ) ?_))));obtain ⟨z, d7, h⟩ := bns h;refine dF (aT [5, 1, 2, 3, 4, 0, 6, 7] rfl rfl (le_refl _)) ?_;refine bO rfl (iO (passed := [.box b3 0 [.j a.Places, .j a.Wilds, .j a.Guards, .j a.Close, .j a.Freeze, .lit (.map (some r2)), .lit C, .k o, .lit E, .lit F, .j q, .j s], .map r2 (e.map fun p : Int × aA => (VI p.1, (fun v : aA => AV.agg (aB v)) p.2)) H I, .arr C 3 1 (t.map aI), .arr E 3 1 (g.map aI), .arr F 3 1 (j.map aI)]) (aK rfl) rfl (.func _ _ Tryz.call80) rfl rfl (vR (aH.mk a e t o g j q s) J d7)) ?_;rintro _ ⟨_, _, ⟨W, X, Y, Z, a0, rfl, rfl⟩, rfl⟩;refine aD (aF (aC (tm (.bp b3 0 0) (to (bB (aK rfl) rfl) ?_))));refine tfl 0 rfl rfl sL rfl eV (aD ?_);refine tih h (fun d8 h => ?_) (fun d8 h => ?_)
    ·refine aC (tm (.bp b3 0 0) ?_);obtain ⟨L, d9, h⟩ := bns h;refine bO rfl (iO (passed := [.box b3 0 [.j z.Field.Places, .j z.Field.Wilds, .j z.Field.Guards, .j z.Field.Close, .j z.Field.Freeze, .lit (.map (some r2)), .lit Y, .k z.frozen, .lit Z, .lit a0, .j z.more, .j z.entered], .map r2 (z.players.map fun p : Int × aA => (VI p.1, (fun v : aA => AV.agg (aB v)) p.2)) W X, .arr Y 3 1 (z.wilds.map aI), .arr Z 3 1 (z.first.map aI), .arr a0 3 1 (z.late.map aI)]) (aK rfl) rfl (.func _ _ Tryz.call81) rfl rfl (vQ z d9)) ?_;rintro _ ⟨_, _, ⟨c0, c1, e0, e1, e2, rfl, rfl⟩, rfl⟩;refine dA ?_;refine aC (to (sar rfl rfl rfl) (tm (.i (w64 (w + 1))) (aD ?_)));exact ⟨(w64 (w + 1), L.players, L.wilds, L.first, L.late, L.Field, L.frozen, L.more, L.entered, c0, c1, e0, e1, e2), h, aT [5, 1, 2, 3, 4, 0, 6] rfl rfl (aM rfl (aR ⟨rfl, rfl, rfl, rfl, rfl, trivial⟩))⟩
    ·refine cG ?_;refine aC (to (sar rfl rfl rfl) (tm (.i (w64 (w + 1))) (aD ?_)));exact ⟨(w64 (w + 1), z.players, z.wilds, z.first, z.late, z.Field, z.frozen, z.more, z.entered, W, X, Y, Z, a0), h, aT [5, 1, 2, 3, 4, 0, 6] rfl rfl (aM rfl (aR ⟨rfl, rfl, rfl, rfl, rfl, trivial⟩))⟩
 ·refine cD ?_;refine .inl ⟨rfl, ?_⟩;simp only [mQ] at h;refine aF (aF (aC (tm (.i A) (tfl 0 rfl rfl jT rfl aV (to (scm rfl rfl rfl) (aD ?_))))));refine tih h (fun e3 h => ?_) (fun e3 h => ?_)
  ·refine aC (tm (.bp b3 0 0) ?_);obtain ⟨c, e4, h⟩ := bns h;refine dF (aT [5, 1, 2, 3, 4, 0, 6] rfl rfl (le_refl _)) ?_;refine bO rfl (iO (passed := [.box b3 0 [.j a.Places, .j a.Wilds, .j a.Guards, .j a.Close, .j a.Freeze, .lit (.map (some r2)), .lit C, .k o, .lit E, .lit F, .j q, .j s], .map r2 (e.map fun p : Int × aA => (VI p.1, (fun v : aA => AV.agg (aB v)) p.2)) H I, .arr C 3 1 (t.map aI), .arr E 3 1 (g.map aI), .arr F 3 1 (j.map aI)]) (aK rfl) rfl (.func _ _ Tryz.call79) rfl rfl (qB (aH.mk a e t o g j q s) e4)) ?_;rintro _ ⟨_, _, ⟨c2, c3, a9, b0, b2, rfl, rfl⟩, rfl⟩;refine aD (aF (aC (tm (.bp b3 0 0) (ta (.bp b3 0 0) (aD ?_)))));refine bP (aT [5, 6, 0, 1, 2, 3, 4] rfl rfl (le_refl _)) ?_;apply aBs [.box b1 0 (aX x), .arr N 32 5 (M.map aJ)] [.box b3 0 [.j c.Field.Places, .j c.Field.Wilds, .j c.Field.Guards, .j c.Field.Close, .j c.Field.Freeze, .lit (.map (some r2)), .lit a9, .k c.frozen, .lit b0, .lit b2, .j c.more, .j c.entered], .map r2 (c.players.map fun p : Int × aA => (VI p.1, (fun v : aA => AV.agg (aB v)) p.2)) c2 c3, .arr a9 3 1 (c.wilds.map aI), .arr b0 3 1 (c.first.map aI), .arr b2 3 1 (c.late.map aI)] rfl;exact cQ (k := 52) (v := .cp [.j c.Field.Places, .j c.Field.Wilds, .j c.Field.Guards, .j c.Field.Close, .j c.Field.Freeze, .mp true (c.players.map fun p : Int × aA => (VI p.1, aB p.2)), .sl 1 (c.wilds.map aI), .k c.frozen, .sl 1 (c.first.map aI), .sl 1 (c.late.map aI), .j c.more, .j c.entered]) (dO 0 rfl rfl (dvc (.same _) (dvc (.same _) (dvc (.same _) (dvc (.same _) (dvc (.same _) (dvc (kE (kv := VI) (av := (fun v : aA => AV.agg (aB v))) (l := c.players) (enc := aB) (agg := true) 1 rfl (fun h => by cases h) (fun _ => rfl)) (dvc (bR 2 rfl (aY (f := aI) fun _ => rfl)) (dvc (.same _) (dvc (bR 3 rfl (aY (f := aI) fun _ => rfl)) (dvc (bR 4 rfl (aY (f := aI) fun _ => rfl)) (dvc (.same _) (dvc (.same _) dvn))))))))))))) (cQ (k := 50) (v := .cp [.j c.Field.Places, .j c.Field.Wilds, .j c.Field.Guards, .j c.Field.Close, .j c.Field.Freeze, .mp true (c.players.map fun p : Int × aA => (VI p.1, aB p.2)), .sl 1 (c.wilds.map aI), .k c.frozen, .sl 1 (c.first.map aI), .sl 1 (c.late.map aI), .j c.more, .j c.entered]) (dO 0 rfl rfl (dvc (.same _) (dvc (.same _) (dvc (.same _) (dvc (.same _) (dvc (.same _) (dvc (kE (kv := VI) (av := (fun v : aA => AV.agg (aB v))) (l := c.players) (enc := aB) (agg := true) 1 rfl (fun h => by cases h) (fun _ => rfl)) (dvc (bR 2 rfl (aY (f := aI) fun _ => rfl)) (dvc (.same _) (dvc (bR 3 rfl (aY (f := aI) fun _ => rfl)) (dvc (bR 4 rfl (aY (f := aI) fun _ => rfl)) (dvc (.same _) (dvc (.same _) dvn))))))))))))) (cQ (k := 7) (v := .cp [.j c.Field.Places, .j c.Field.Wilds, .j c.Field.Guards, .j c.Field.Close, .j c.Field.Freeze, .mp true (c.players.map fun p : Int × aA => (VI p.1, aB p.2)), .sl 1 (c.wilds.map aI), .k c.frozen, .sl 1 (c.first.map aI), .sl 1 (c.late.map aI), .j c.more, .j c.entered]) (dO 0 rfl rfl (dvc (.same _) (dvc (.same _) (dvc (.same _) (dvc (.same _) (dvc (.same _) (dvc (kE (kv := VI) (av := (fun v : aA => AV.agg (aB v))) (l := c.players) (enc := aB) (agg := true) 1 rfl (fun h => by cases h) (fun _ => rfl)) (dvc (bR 2 rfl (aY (f := aI) fun _ => rfl)) (dvc (.same _) (dvc (bR 3 rfl (aY (f := aI) fun _ => rfl)) (dvc (bR 4 rfl (aY (f := aI) fun _ => rfl)) (dvc (.same _) (dvc (.same _) dvn))))))))))))) (cQ (k := 6) (v := .cp [.j c.Field.Places, .j c.Field.Wilds, .j c.Field.Guards, .j c.Field.Close, .j c.Field.Freeze, .mp true (c.players.map fun p : Int × aA => (VI p.1, aB p.2)), .sl 1 (c.wilds.map aI), .k c.frozen, .sl 1 (c.first.map aI), .sl 1 (c.late.map aI), .j c.more, .j c.entered]) (dO 0 rfl rfl (dvc (.same _) (dvc (.same _) (dvc (.same _) (dvc (.same _) (dvc (.same _) (dvc (kE (kv := VI) (av := (fun v : aA => AV.agg (aB v))) (l := c.players) (enc := aB) (agg := true) 1 rfl (fun h => by cases h) (fun _ => rfl)) (dvc (bR 2 rfl (aY (f := aI) fun _ => rfl)) (dvc (.same _) (dvc (bR 3 rfl (aY (f := aI) fun _ => rfl)) (dvc (bR 4 rfl (aY (f := aI) fun _ => rfl)) (dvc (.same _) (dvc (.same _) dvn))))))))))))) (jR _ _))));obtain rfl := sIn h;refine bP (bK (bM (l := [6]) ⟨rfl, trivial⟩)) ?_;exact rt
  ·refine bE (aF (aC (tm (.bp b3 0 0) (ta (.bp b3 0 0) (aD ?_)))));refine bP (aT [0, 6, 1, 2, 3, 4, 5] rfl rfl (le_refl _)) ?_;apply aBs [.box b1 0 (aX x), .arr N 32 5 (M.map aJ)] [.map r2 (e.map fun p : Int × aA => (VI p.1, (fun v : aA => AV.agg (aB v)) p.2)) H I, .arr C 3 1 (t.map aI), .arr E 3 1 (g.map aI), .arr F 3 1 (j.map aI), .box b3 0 [.j a.Places, .j a.Wilds, .j a.Guards, .j a.Close, .j a.Freeze, .lit (.map (some r2)), .lit C, .k o, .lit E, .lit F, .j q, .j s]] rfl;exact cQ (k := 52) (v := .cp [.j a.Places, .j a.Wilds, .j a.Guards, .j a.Close, .j a.Freeze, .mp true (e.map fun p : Int × aA => (VI p.1, aB p.2)), .sl 1 (t.map aI), .k o, .sl 1 (g.map aI), .sl 1 (j.map aI), .j q, .j s]) (dO 4 rfl rfl (dvc (.same _) (dvc (.same _) (dvc (.same _) (dvc (.same _) (dvc (.same _) (dvc (kE (kv := VI) (av := (fun v : aA => AV.agg (aB v))) (l := e) (enc := aB) (agg := true) 0 rfl (fun h => by cases h) (fun _ => rfl)) (dvc (bR 1 rfl (aY (f := aI) fun _ => rfl)) (dvc (.same _) (dvc (bR 2 rfl (aY (f := aI) fun _ => rfl)) (dvc (bR 3 rfl (aY (f := aI) fun _ => rfl)) (dvc (.same _) (dvc (.same _) dvn))))))))))))) (cQ (k := 7) (v := .cp [.j a.Places, .j a.Wilds, .j a.Guards, .j a.Close, .j a.Freeze, .mp true (e.map fun p : Int × aA => (VI p.1, aB p.2)), .sl 1 (t.map aI), .k o, .sl 1 (g.map aI), .sl 1 (j.map aI), .j q, .j s]) (dO 4 rfl rfl (dvc (.same _) (dvc (.same _) (dvc (.same _) (dvc (.same _) (dvc (.same _) (dvc (kE (kv := VI) (av := (fun v : aA => AV.agg (aB v))) (l := e) (enc := aB) (agg := true) 0 rfl (fun h => by cases h) (fun _ => rfl)) (dvc (bR 1 rfl (aY (f := aI) fun _ => rfl)) (dvc (.same _) (dvc (bR 2 rfl (aY (f := aI) fun _ => rfl)) (dvc (bR 3 rfl (aY (f := aI) fun _ => rfl)) (dvc (.same _) (dvc (.same _) dvn))))))))))))) (cQ (k := 6) (v := .cp [.j a.Places, .j a.Wilds, .j a.Guards, .j a.Close, .j a.Freeze, .mp true (e.map fun p : Int × aA => (VI p.1, aB p.2)), .sl 1 (t.map aI), .k o, .sl 1 (g.map aI), .sl 1 (j.map aI), .j q, .j s]) (dO 4 rfl rfl (dvc (.same _) (dvc (.same _) (dvc (.same _) (dvc (.same _) (dvc (.same _) (dvc (kE (kv := VI) (av := (fun v : aA => AV.agg (aB v))) (l := e) (enc := aB) (agg := true) 0 rfl (fun h => by cases h) (fun _ => rfl)) (dvc (bR 1 rfl (aY (f := aI) fun _ => rfl)) (dvc (.same _) (dvc (bR 2 rfl (aY (f := aI) fun _ => rfl)) (dvc (bR 3 rfl (aY (f := aI) fun _ => rfl)) (dvc (.same _) (dvc (.same _) dvn))))))))))))) (jR _ _)));obtain rfl := sIn h;refine bP (bK (bM (l := [6]) ⟨rfl, trivial⟩)) ?_;exact rt

theorem wN (g : aP) (a : List aG) (e : Int) (c : Int) {r : (Option aH) × Int} (h : pC g a e c = some r) : Fn Tryz.prog 33 [.agg (aX g), .d (Z12 a), .i e, .i c] (.tup [lV bA r.1, .i r.2]) := by
 unfold pC at h;refine oT [.tmp 8, .tmp 9] Tryz.func33 Tryz.results33 Tryz.ntmps33 ?_;refine aF (aC ?_);refine bO rfl (jM (v := .agg (aX g)) (aK rfl) rfl rfl rfl) ?_;rintro _ ⟨b1, rfl⟩;refine ta Z45 (ta (.i 0) (aD (aF (aF (aC (to (sla 0 (aX g) rfl rfl jU) (tm (Z35 a) ?_)))))));obtain ⟨r2, h3, h⟩ := bns h;refine to (scr Tryz.call21 (aHl _ _ h3)) (ta (.i r2) (aD (aF (aC (tm (.i r2) (to (scm rfl rfl rfl) (aD ?_)))))));refine tih h (fun c4 h => ?_) (fun c4 h => ?_)
 ·refine aF (aC (tm (.i r2) (ta Z45 (ta (.i r2) (aD ?_)))));obtain rfl := sIn h;refine bP (bK (bM (l := [8, 9]) ⟨rfl, rfl, trivial⟩)) ?_;exact cU ⟨rfl, _, .two _ _, rfl, rfl⟩
 ·refine bE (aF (aF (aC (tm (.i e) ?_))));obtain ⟨r5, h6, h⟩ := bns h;refine to (scr Tryz.call61 (bW _ _ _ h6)) (to (sn rfl) (tm (.b (!r5)) ?_));obtain ⟨b7, h8, h⟩ := bns h;refine bG 4 [1, 2, 4] 24 b7 ?_ ?_
  ·refine bch h8 (fun f h8 => ?_) (fun f h8 => ?_)
   ·refine tp f (tp f (tp f (to (spt Z37 f) ?_)));obtain rfl := sIn h8;refine aD (aS rfl ⟨rfl, rfl, rfl, trivial⟩ rfl)
   ·refine tk f (sm (.i c)) ?_;obtain ⟨j, k, h8⟩ := bns h8;refine tk f (scr Tryz.call61 (bW _ _ _ k)) (tk f (sn rfl) (to (spf (.b (!j)) f) ?_));obtain rfl := sIn h8;refine aD (aS rfl ⟨rfl, rfl, rfl, trivial⟩ rfl)
  ·refine aD ?_;refine tih h (fun c9 h => ?_) (fun c9 h => ?_)
   ·refine aF (aC (ta Z45 (ta (.i 1) (aD ?_))));obtain rfl := sIn h;refine bP (bK (bM (l := [8, 9]) ⟨rfl, rfl, trivial⟩)) ?_;exact cU ⟨rfl, _, .two _ _, rfl, rfl⟩
   ·refine bE (aF (aC (to (sla 0 (aX g) rfl rfl jU) (tm (Z35 a) (tm (.i e) ?_)))));obtain ⟨m, n, h⟩ := bns h;refine to (dM (aK rfl) (.func _ _ Tryz.call50) rfl rfl (zW _ _ _ n)) ?_;refine ta (lV bA m) (ta (.i 0) (aD ?_));obtain rfl := sIn h;refine bP (bK (bM (l := [8, 9]) ⟨rfl, rfl, trivial⟩)) ?_;exact cU ⟨rfl, _, .two _ _, rfl, rfl⟩

theorem mE (a : aH) {r : (List Int)} (h : dY a = some r) : Fn Tryz.prog 34 [.cp (bA a)] (.d (.sl 1 (r.map aI))) := by
 unfold dY at h;refine oT [.tmp 2] Tryz.func34 Tryz.results34 Tryz.ntmps34 ?_;refine aF (aC (to (aHr 1 (aK rfl)) ?_));refine aD (aF (aF (aC (tm (Z1 a) (to (cK (aK rfl) rfl) ?_)))));refine to (sfc [.k a.frozen] rfl sL) (to (slc rfl eV) (to (sn rfl) (aD ?_)));refine tih h (fun c1 h => ?_) (fun c1 h => ?_)
 ·refine aF (aC (tm (Z1 a) ?_));obtain ⟨r2, h3, h⟩ := bns h;refine bO rfl (kK (aK rfl) (.func _ _ Tryz.call62) rfl rfl (pB _ h3)) ?_;rintro _ ⟨v4, rfl⟩;refine ta (.d (.lit v4)) (aD ?_);obtain rfl := sIn h;refine bP (bK (cQ (k := 2) (v := .d (.sl 1 (r2.map aI))) (.d (bR 0 rfl (aY (f := aI) fun _ => rfl))) (aFh))) ?_;exact rt
 ·refine bE (aF ?_);refine cB mix 8 [] [(13, .d (.sl 1 (Z9 a))), (17, .d (.sl 1 (Z15 a)))] ?_ ?_
  ·refine ⟨[(10, 0, .cp [.j a.Field.Places, .j a.Field.Wilds, .j a.Field.Guards, .j a.Field.Close, .j a.Field.Freeze, .mp true (a.players.map fun p : Int × aA => (VI p.1, aB p.2)), .sl 1 (Z10 a), .k a.frozen, .sl 1 (Z9 a), .sl 1 (Z15 a), .j a.more, .j a.entered]), (11, 1, .cp [.j a.Field.Places, .j a.Field.Wilds, .j a.Field.Guards, .j a.Field.Close, .j a.Field.Freeze, .mp true (a.players.map fun p : Int × aA => (VI p.1, aB p.2)), .sl 1 (Z10 a), .k a.frozen, .sl 1 (Z9 a), .sl 1 (Z15 a), .j a.more, .j a.entered]), (12, 2, .cp [.sl 1 (Z9 a)]), (13, 3, .d (.sl 1 (Z9 a))), (14, 4, .cp [.j a.Field.Places, .j a.Field.Wilds, .j a.Field.Guards, .j a.Field.Close, .j a.Field.Freeze, .mp true (a.players.map fun p : Int × aA => (VI p.1, aB p.2)), .sl 1 (Z10 a), .k a.frozen, .sl 1 (Z9 a), .sl 1 (Z15 a), .j a.more, .j a.entered]), (15, 5, .cp [.j a.Field.Places, .j a.Field.Wilds, .j a.Field.Guards, .j a.Field.Close, .j a.Field.Freeze, .mp true (a.players.map fun p : Int × aA => (VI p.1, aB p.2)), .sl 1 (Z10 a), .k a.frozen, .sl 1 (Z9 a), .sl 1 (Z15 a), .j a.more, .j a.entered]), (16, 6, .cp [.sl 1 (Z15 a)]), (17, 7, .d (.sl 1 (Z15 a)))], ?_, ?_⟩
   · exact dk [0, 1, 2, 3, 0, 5, 6, 7] ⟨go (zm (Z1 a)),
      go fun S hS => cK (aK rfl) (aU hS rfl),
      go (zfc [.sl 1 (Z9 a)] rfl wR),
      go (zlc rfl cX),
      go (zm (Z1 a)),
      go fun S hS => cK (aK rfl) (aU hS rfl),
      go (zfc [.sl 1 (Z15 a)] rfl tZ),
      go (zlc rfl cX), trivial⟩
   · exact bV (aM rfl (aM rfl (aR trivial)))
  ·refine to (gH (aK rfl) tJ rfl rfl (rows := ([a.first, a.late]).map lB) rfl (aY (f := lB) fun _ => rfl) rfl (by decide)) ?_;obtain ⟨r5, h6, h⟩ := bns h;refine bO rfl (kK (aK rfl) (.func _ _ Tryz.call63) rfl rfl (tM _ h6)) ?_;rintro _ ⟨v7, rfl⟩;refine ta (.d (.lit v7)) (aD ?_);obtain rfl := sIn h;refine bP (bK (cQ (k := 2) (v := .d (.sl 1 (r5.map aI))) (.d (bR 0 rfl (aY (f := aI) fun _ => rfl))) (aFh))) ?_;exact rt

theorem vB (a : Int) (c : List Int) {r : Bool} (h : lC a c = some r) : Fn Tryz.prog 65 [.i a, .cp [.sl 1 (c.map aI)]] (.b r) := by
 unfold lC at h;refine oT [.tmp 3] Tryz.func65 Tryz.results65 Tryz.ntmps65 ?_;refine aF (aC (ta Z18 (aD (aF (aC (to (slc rfl cX) (tm (.i a) ?_)))))));obtain ⟨r1, h2, h⟩ := bns h;refine to (scr Tryz.call53 (lW _ _ h2)) (ta (.b r1) (aD ?_));obtain rfl := sIn h;exact rt

theorem wM (a : aH) {r : (List Int)} (h : iN a = some r) : Fn Tryz.prog 35 [.cp (bA a)] (.d (.sl 1 (r.map aI))) := by
 unfold iN at h;refine oT [.tmp 2] Tryz.func35 Tryz.results35 Tryz.ntmps35 ?_;refine aF (aC (to (aHr 1 (aK rfl)) ?_));refine aD (aF (aC (tm (Z1 a) ?_)));obtain ⟨r1, h2, h⟩ := bns h;refine to (dM (aK rfl) (.func _ _ Tryz.call34) rfl rfl (mE _ h2)) ?_;refine bO rfl (fC (zs := Z48) (aK rfl) Tryz.zeroValue25 rfl rfl) ?_;rintro _ ⟨b3, rfl⟩;refine to (sst 0 rfl rfl Tryz.sizeOf25 [.sl 1 (r1.map aI)]) (aD (aF (aC (tm (Z1 a) ?_))));obtain ⟨r4, h5, h⟩ := bns h;refine bO rfl (kK (aK rfl) (.func _ _ Tryz.call52) rfl rfl (jY _ h5)) ?_;rintro _ ⟨v6, rfl⟩;refine to (pO (aK rfl) rfl rfl) ?_;refine dF (aT [1, 0] rfl rfl (le_refl _)) ?_;apply sT [.arr v6 3 1 (r4.map aI)] [.box b3 0 [.sl 1 (r1.map aI)]] rfl;exact cQ (k := 8) (v := .fn 65 [.cp [.sl 1 (r1.map aI)]]) (qJ (.cons (dO 0 rfl rfl (dvc (.same _) dvn)) .nil)) (cQ (k := 3) (v := .cp [.sl 1 (r1.map aI)]) (dO 0 rfl rfl (dvc (.same _) dvn)) (jR _ _));obtain ⟨r8, h9, h⟩ := bns h;refine bO rfl (iO (passed := [.arr v6 3 1 (r4.map aI)]) (aK rfl) rfl (.func _ _ Tryz.call64) rfl rfl (dV r4 (fun y7 => lC y7 r1) 65 [.cp [.sl 1 (r1.map aI)]] Tryz.call65 (fun _ _ h => vB _ _ h) h9)) ?_;rintro _ ⟨_, _, ⟨b, rfl, rfl⟩, rfl⟩;refine ta (.d (.lit b)) (aD ?_);obtain rfl := sIn h;refine bP (bK (cQ (k := 2) (v := .d (.sl 1 (r8.map aI))) (.d (bR 0 rfl (aY (f := aI) fun _ => rfl))) (aFh))) ?_;exact rt

theorem aAn (f : aP) (b : List aG) (c : Int) {r : gM × Int} (h : oU f b c = some r) : Fn Tryz.prog 14 [.agg (aX f), .d (Z12 b), .i c] (.tup [.agg (gB r.1), .i r.2]) := by
 unfold oU at h;refine pJ Tryz.func14 rfl (rs := [.cell 6 34, .tmp 7]) Tryz.results14 Tryz.ntmps14 (Nat.le_of_ble_eq_true rfl) ?_;refine aF (aC ?_);refine bO rfl (jM (v := .agg (aX f)) (aK rfl) rfl rfl rfl) ?_;rintro _ ⟨b1, rfl⟩;refine bO rfl (fC (zs := Z14) (aK rfl) Tryz.zeroValue34 rfl rfl) ?_;rintro _ ⟨b2, rfl⟩;refine ta (.i 0) (aD (aF (aC (to (sla 0 (aX f) rfl rfl jU) (tm (Z35 b) (tm (.i c) ?_))))));obtain ⟨r3, h4, h⟩ := bns h;refine to (dM (aK rfl) (.func _ _ Tryz.call33) rfl rfl (wN _ _ _ _ h4)) ?_;refine tm (.tup [lV bA r3.1, .i r3.2]) (to (sex rfl rfl) (to (sex rfl rfl) (ta (lV bA r3.1) (ta (.i r3.2) (aD (aF (aF (aC (tm (.i r3.2) (to (scm rfl rfl rfl) (aD ?_)))))))))));refine tih h (fun c5 h => ?_) (fun c5 h => ?_)
 ·refine aF (aC (to (uN (aK rfl) aPr (zs := Z14) rfl rfl rfl rfl (es := Z14) rfl) ?_));refine tm (.i r3.2) (to (sst 1 rfl rfl Tryz.sizeOf34 Z36) (ta (.i r3.2) (aD ?_)));obtain rfl := sIn h;exact cU ⟨rfl, _, [.box b1 0 (aX f), .box b2 0 Z36], .two (.cell 6 34 rfl (i := 1) rfl aNm (es := Z36) rfl rfl) (.tmp 7 (v := .i r3.2) rfl), .refl _, .same _⟩
 ·refine bE (aF (aC (tm (lV bA r3.1) ?_)));obtain ⟨x6, h7, h⟩ := bns h;refine dF (wB (enc := bA) (k := 22) rfl h7) ?_;obtain ⟨r8, h9, h⟩ := bns h;refine to (dM (aK rfl) (.func _ _ Tryz.call34) rfl rfl (mE _ h9)) ?_;refine ta (.d (.sl 1 (r8.map aI))) (aD (aF ?_));obtain ⟨a, j, h⟩ := bns h;refine bP (wB (enc := bA) (k := 8) rfl j) ?_;obtain ⟨g, l, h⟩ := bns h;obtain ⟨e, m, h⟩ := bns h;refine cB mix 12 [6] [(24, .d (.sl 1 (r8.map aI))), (28, .d (.sl 1 (a.wilds.map aI))), (30, .d (.sl 1 (g.map aI))), (35, .i (w64 (e - (r8.length : Int))))] ?_ ?_
  ·refine ⟨[(24, 0, .d (.sl 1 (r8.map aI))), (25, 1, .cp [.j a.Field.Places, .j a.Field.Wilds, .j a.Field.Guards, .j a.Field.Close, .j a.Field.Freeze, .mp true (a.players.map fun p : Int × aA => (VI p.1, aB p.2)), .sl 1 (a.wilds.map aI), .k a.frozen, .sl 1 (a.first.map aI), .sl 1 (a.late.map aI), .j a.more, .j a.entered]), (26, 2, .cp [.j a.Field.Places, .j a.Field.Wilds, .j a.Field.Guards, .j a.Field.Close, .j a.Field.Freeze, .mp true (a.players.map fun p : Int × aA => (VI p.1, aB p.2)), .sl 1 (a.wilds.map aI), .k a.frozen, .sl 1 (a.first.map aI), .sl 1 (a.late.map aI), .j a.more, .j a.entered]), (27, 3, .cp [.sl 1 (a.wilds.map aI)]), (28, 4, .d (.sl 1 (a.wilds.map aI))), (29, 5, .cp [.j a.Field.Places, .j a.Field.Wilds, .j a.Field.Guards, .j a.Field.Close, .j a.Field.Freeze, .mp true (a.players.map fun p : Int × aA => (VI p.1, aB p.2)), .sl 1 (a.wilds.map aI), .k a.frozen, .sl 1 (a.first.map aI), .sl 1 (a.late.map aI), .j a.more, .j a.entered]), (30, 6, .d (.sl 1 (g.map aI))), (31, 7, .cp [.j a.Field.Places, .j a.Field.Wilds, .j a.Field.Guards, .j a.Field.Close, .j a.Field.Freeze, .mp true (a.players.map fun p : Int × aA => (VI p.1, aB p.2)), .sl 1 (a.wilds.map aI), .k a.frozen, .sl 1 (a.first.map aI), .sl 1 (a.late.map aI), .j a.more, .j a.entered]), (32, 8, .i e), (33, 9, .d (.sl 1 (r8.map aI))), (34, 10, .i (r8.length : Int)), (35, 11, .i (w64 (e - (r8.length : Int))))], ?_, ?_⟩
   · exact dk [0, 0, 2, 3, 4, 0, 6, 0, 8, 0, 10, 911] ⟨go (zm (.d (.sl 1 (r8.map aI)))),
      go (zm (.cp [.j a.Field.Places, .j a.Field.Wilds, .j a.Field.Guards, .j a.Field.Close, .j a.Field.Freeze, .mp true (a.players.map fun p : Int × aA => (VI p.1, aB p.2)), .sl 1 (a.wilds.map aI), .k a.frozen, .sl 1 (a.first.map aI), .sl 1 (a.late.map aI), .j a.more, .j a.entered])),
      go fun S hS => cK (aK rfl) (aU hS rfl),
      go (zfc [.sl 1 (a.wilds.map aI)] rfl iV),
      go (zlc rfl cX),
      go (zm (.cp [.j a.Field.Places, .j a.Field.Wilds, .j a.Field.Guards, .j a.Field.Close, .j a.Field.Freeze, .mp true (a.players.map fun p : Int × aA => (VI p.1, aB p.2)), .sl 1 (a.wilds.map aI), .k a.frozen, .sl 1 (a.first.map aI), .sl 1 (a.late.map aI), .j a.more, .j a.entered])),
      go fun S hS => dM (aK rfl) (.func _ _ Tryz.call35) (ev2 (aU hS rfl) evn) rfl (wM _ l),
      go (zm (.cp [.j a.Field.Places, .j a.Field.Wilds, .j a.Field.Guards, .j a.Field.Close, .j a.Field.Freeze, .mp true (a.players.map fun p : Int × aA => (VI p.1, aB p.2)), .sl 1 (a.wilds.map aI), .k a.frozen, .sl 1 (a.first.map aI), .sl 1 (a.late.map aI), .j a.more, .j a.entered])),
      go fun S hS => lA (aK rfl) (.func _ _ Tryz.call36) (ev2 (aU hS rfl) evn) rfl (BVs.refl _ _) (fZ _ m) rfl,
      go (zm (.d (.sl 1 (r8.map aI)))),
      go (zle rfl bS.of),
      go (zar rfl rfl rfl), trivial⟩
   · exact bV (aM rfl (aM rfl (aM rfl (aM rfl (aR ⟨rfl, trivial⟩)))))
  ·refine to (uN (aK rfl) aPr (zs := Z14) rfl rfl rfl rfl (es := [.sl 1 (r8.map aI), .sl 1 (a.wilds.map aI), .sl 1 (g.map aI), .j (w64 (e - (r8.length : Int)))]) rfl) ?_;refine to (sst 1 rfl rfl Tryz.sizeOf34 (gB (gM.mk r8 a.wilds g (w64 (e - (r8.length : Int)))))) (ta (.i 0) (aD ?_));obtain rfl := sIn h;exact cU ⟨rfl, _, [.box b1 0 (aX f), .box b2 0 (gB (gM.mk r8 a.wilds g (w64 (e - (r8.length : Int)))))], .two (.cell 6 34 rfl (i := 1) rfl aNm (es := (gB (gM.mk r8 a.wilds g (w64 (e - (r8.length : Int)))))) rfl rfl) (.tmp 7 (v := .i 0) rfl), .refl _, .same _⟩

theorem vC (a : aH) (c : Int) {r : Int × Int} (h : lD a c = some r) : Fn Tryz.prog 37 [.cp (bA a), .i c] (.tup [.i r.1, .i r.2]) := by
 unfold lD at h;refine oT [.tmp 4, .tmp 5] Tryz.func37 Tryz.results37 Tryz.ntmps37 ?_;refine aF (aC (ta (.i 0) (ta (.i 0) (aD (aF (aF ?_))))));obtain ⟨r1, h2, h⟩ := bns h;obtain ⟨r3, h4, h⟩ := bns h;refine cB mix 11 [1] [(17, .d (.sl 1 ((([r1, a.wilds, r3])).map lB))), (18, .i ((([r1, a.wilds, r3]).length : Int))), (19, .i 0)] ?_ ?_
 ·refine ⟨[(9, 0, .cp [.j a.Field.Places, .j a.Field.Wilds, .j a.Field.Guards, .j a.Field.Close, .j a.Field.Freeze, .mp true (a.players.map fun p : Int × aA => (VI p.1, aB p.2)), .sl 1 (Z10 a), .k a.frozen, .sl 1 (Z9 a), .sl 1 (Z15 a), .j a.more, .j a.entered]), (10, 1, .d (.sl 1 (r1.map aI))), (11, 2, .cp [.j a.Field.Places, .j a.Field.Wilds, .j a.Field.Guards, .j a.Field.Close, .j a.Field.Freeze, .mp true (a.players.map fun p : Int × aA => (VI p.1, aB p.2)), .sl 1 (Z10 a), .k a.frozen, .sl 1 (Z9 a), .sl 1 (Z15 a), .j a.more, .j a.entered]), (12, 3, .cp [.j a.Field.Places, .j a.Field.Wilds, .j a.Field.Guards, .j a.Field.Close, .j a.Field.Freeze, .mp true (a.players.map fun p : Int × aA => (VI p.1, aB p.2)), .sl 1 (Z10 a), .k a.frozen, .sl 1 (Z9 a), .sl 1 (Z15 a), .j a.more, .j a.entered]), (13, 4, .cp [.sl 1 (Z10 a)]), (14, 5, .d (.sl 1 (Z10 a))), (15, 6, .cp [.j a.Field.Places, .j a.Field.Wilds, .j a.Field.Guards, .j a.Field.Close, .j a.Field.Freeze, .mp true (a.players.map fun p : Int × aA => (VI p.1, aB p.2)), .sl 1 (Z10 a), .k a.frozen, .sl 1 (Z9 a), .sl 1 (Z15 a), .j a.more, .j a.entered]), (16, 7, .d (.sl 1 (r3.map aI))), (17, 8, .d (.sl 1 ((([r1, a.wilds, r3])).map lB))), (18, 9, .i ((([r1, a.wilds, r3]).length : Int))), (19, 10, .i 0)], ?_, ?_⟩
  · exact dk [0, 1, 0, 3, 4, 5, 0, 7, 20608, 9, 0] ⟨go (zm (Z1 a)),
      go fun S hS => dM (aK rfl) (.func _ _ Tryz.call34) (ev2 (aU hS rfl) evn) rfl (mE _ h2),
      go (zm (Z1 a)),
      go fun S hS => cK (aK rfl) (aU hS rfl),
      go (zfc [.sl 1 (Z10 a)] rfl iV),
      go (zlc rfl cX),
      go (zm (Z1 a)),
      go fun S hS => dM (aK rfl) (.func _ _ Tryz.call35) (ev2 (aU hS rfl) evn) rfl (wM _ h4),
      go fun S hS => gH (aK rfl) tJ rfl (pa2 (aU hS rfl) (pa2 (aU hS rfl) (pa2 (aU hS rfl) pan))) (rows := ([r1, a.wilds, r3]).map lB) rfl (aY (f := lB) fun _ => rfl) rfl (by decide),
      go (zle rfl tJ.of),
      go (zm (.i 0)), trivial⟩
  · exact bV (aM rfl (aM rfl (aM rfl (aR ⟨rfl, trivial⟩))))
 ·refine aD (bQ ?_);refine cO (S := Int) [1, 17, 18] (fun s5 => [(19, .i s5)]) (fun s5 => []) (fun k s5 => jH c ([r1, a.wilds, r3]) (([r1, a.wilds, r3]).length : Int) k s5) (fun _ => rfl) (0) h (aT [] rfl rfl (aM rfl (aR ⟨rfl, rfl, rfl, trivial⟩))) ?_;rintro k6 b h;simp only [jH] at h;refine aF (aC (to (scm rfl rfl rfl) (aD (aF ?_))));refine tih h (fun c7 h => ?_) (fun c7 h => ?_)
  ·refine bE (aF (bQ (aF (aC (tm (.i b) ?_)))));obtain ⟨x8, h9, h⟩ := bns h;refine to (six rfl rfl tJ.of (cJ lB h9)) (to (slc rfl cX) (ta (.i b) (ta (.d (.sl 1 (x8.map aI))) (aD (aF (aC (tm (.d (.sl 1 (x8.map aI))) (tm (.i c) ?_))))))));obtain ⟨e, g, h⟩ := bns h;refine to (scr Tryz.call66 (vK _ _ g)) (ta (.i e) (aD (aF (aC (tm (.i e) (to (scm rfl rfl rfl) (aD ?_)))))));refine tih h (fun j h => ?_) (fun j h => ?_)
   ·refine aF (aC (tm (.i b) (to (sar rfl rfl rfl) (tm (.i e) (to (sar rfl rfl rfl) (ta (.i (w64 (b + 1))) (ta (.i (w64 (e + 1))) (aD ?_))))))));obtain rfl := sIn h;exact cU ⟨rfl, _, .two _ _, rfl, rfl⟩
   ·refine cG ?_;refine aC (to (sar rfl rfl rfl) (tm (.i (w64 (b + 1))) (aD ?_)));exact ⟨(w64 (b + 1)), h, aT [] rfl rfl (aM rfl (aR ⟨rfl, rfl, rfl, trivial⟩))⟩
  ·refine cD ?_;refine .inl ⟨rfl, ?_⟩;simp only [qD] at h;refine aF (aC (ta (.i 0) (ta (.i 0) (aD ?_))));obtain rfl := sIn h;exact cU ⟨rfl, _, .two _ _, rfl, rfl⟩

theorem aCj (a : aH) {r : (List Int)} (h : iN a = some r) : dI Tryz.prog 35 [.cp (bA a)] [] (fun r' o' => ∃ (w0 : Value), r' = .d (.lit w0) ∧ o' = [.arr w0 3 1 (r.map aI)]) := by
 unfold iN at h;refine iM Tryz.func35 rfl (rs := [.tmp 2]) Tryz.results35 Tryz.ntmps35 (Nat.le_of_ble_eq_true rfl) ?_;refine aF (aC (to (gY 3 1 (.inl rfl) (aK rfl)) ?_));refine aD (aF (aC (tm (Z1 a) ?_)));obtain ⟨r2, h3, h⟩ := bns h;refine to (dM (aK rfl) (.func _ _ Tryz.call34) rfl rfl (mE _ h3)) ?_;refine bO rfl (fC (zs := Z48) (aK rfl) Tryz.zeroValue25 rfl rfl) ?_;rintro _ ⟨b4, rfl⟩;refine to (sst 1 rfl rfl Tryz.sizeOf25 [.sl 1 (r2.map aI)]) (aD (aF (aC (tm (Z1 a) ?_))));obtain ⟨r5, h6, h⟩ := bns h;refine bO rfl (kK (aK rfl) (.func _ _ Tryz.call52) rfl rfl (jY _ h6)) ?_;rintro _ ⟨v7, rfl⟩;refine to (pO (aK rfl) rfl rfl) ?_;refine dF (aT [0, 2, 1] rfl rfl (le_refl _)) ?_;apply sT [.arr (.slice none 0 0) 3 1 (([] : List Int).map aI), .arr v7 3 1 (r5.map aI)] [.box b4 0 [.sl 1 (r2.map aI)]] rfl;exact cQ (k := 8) (v := .fn 65 [.cp [.sl 1 (r2.map aI)]]) (qJ (.cons (dO 0 rfl rfl (dvc (.same _) dvn)) .nil)) (cQ (k := 3) (v := .cp [.sl 1 (r2.map aI)]) (dO 0 rfl rfl (dvc (.same _) dvn)) (jR _ _));obtain ⟨r9, c, h⟩ := bns h;refine dF (aT [1, 0] rfl rfl (le_refl _)) ?_;refine bO rfl (iO (passed := [.arr v7 3 1 (r5.map aI)]) (aK rfl) rfl (.func _ _ Tryz.call64) rfl rfl (dV r5 (fun y8 => lC y8 r2) 65 [.cp [.sl 1 (r2.map aI)]] Tryz.call65 (fun _ _ h => vB _ _ h) c)) ?_;rintro _ ⟨_, _, ⟨b, rfl, rfl⟩, rfl⟩;refine ta (.d (.lit b)) (aD ?_);obtain rfl := sIn h;exact cU ⟨rfl, _, [.arr b 3 1 (r9.map aI)], Z22, _, .one (.tmp 2 (v := .d (.lit b)) rfl), .refl _, .same _, b, rfl, rfl⟩

theorem yJ (c : Int) (d : aH) {r : Bool} (h : jG c d = some r) : Fn Tryz.prog 68 [.i c, .cp [.pt (bA d)]] (.b r) := by
 unfold jG at h;refine oT [.tmp 3] Tryz.func68 Tryz.results68 Tryz.ntmps68 ?_;refine aF (aC (ta Z18 (aD (aF (aC (to (mF (.ptc _) (kC (aK rfl) rfl gK)) ?_))))));refine to (cK (aK rfl) rfl) ?_;refine to (sfc [.mp true (d.players.map fun p : Int × aA => (VI p.1, aB p.2))] rfl dL) (to (slc rfl fF) (tm (.i c) (to (iK (enc := aB) (agg := true) (l := d.players) (z := Z2) (a := c) (aK rfl) gO Tryz.underlying68 Tryz.zeroValue94 (fun _ _ => .agg (iZ rfl)) rfl rfl rfl rfl (cT (kv := VI) c)) ?_)));refine to (mO (aK rfl) rfl Tryz.runUnderlying94 rfl eV rfl) ?_;refine to (sn rfl) (ta (.b (!(Z44 c d))) (aD ?_));obtain rfl := sIn h;exact rt

theorem sQ (E : aO) (d : aH) (w : List Int) (x : Int) {r : aO × Bool} (h : iB E d w x = some r) : Fn Tryz.prog 69 [.agg (aQ E), .cp [.pt (bA d)], .cp [.sl 1 (w.map aI)], .cp [.j x]] (.tup [.agg (aQ r.1), .b r.2]) := by
 unfold iB at h;refine pJ Tryz.func69 rfl (rs := [.cell 5 110, .tmp 6]) Tryz.results69 Tryz.ntmps69 (Nat.le_of_ble_eq_true rfl) ?_;refine aF (aC ?_);refine bO rfl (jM (v := .agg (aQ E)) (aK rfl) rfl rfl rfl) ?_;rintro _ ⟨b1, rfl⟩;refine bO rfl (fC (zs := [.j 0, .j 0, .j 0, .j 0]) (aK rfl) Tryz.zeroValue110 rfl rfl) ?_;rintro _ ⟨b2, rfl⟩;refine ta Z18 (aD (aF (bQ ?_)));refine cO (S := aO × aO) [1, 2, 3, 4, 5] (fun s3 => []) (fun s3 => [.box b1 0 (aQ s3.1), .box b2 0 (aQ s3.2)]) (fun k s3 => eE d w x k s3.1 s3.2) (fun _ => rfl) (E, (aO.mk 0 0 0 0)) h (aT [0, 1] rfl rfl (aR ⟨rfl, rfl, rfl, rfl, rfl, trivial⟩)) ?_;rintro k4 ⟨g, y⟩ h;simp only [eE] at h;refine aF (aF ?_);obtain ⟨r5, h6, h⟩ := bns h;refine cB mix 7 [1, 2, 3, 4, 5] [(17, .i (w64 (g.free + g.guarded))), (19, .i r5)] ?_ ?_
 ·refine ⟨[(13, 0, .bp b1 0 0), (14, 1, .i g.free), (15, 2, .bp b1 0 1), (16, 3, .i g.guarded), (17, 4, .i (w64 (g.free + g.guarded))), (18, 5, .cp [.j d.Field.Places, .j d.Field.Wilds, .j d.Field.Guards, .j d.Field.Close, .j d.Field.Freeze, .mp true (d.players.map fun p : Int × aA => (VI p.1, aB p.2)), .sl 1 (Z10 d), .k d.frozen, .sl 1 (Z9 d), .sl 1 (Z15 d), .j d.more, .j d.entered]), (19, 6, .i r5)], ?_, ?_⟩
  · exact dk [0, 1, 0, 3, 204, 0, 6] ⟨go (zf rfl qR),
      go (zl 0 rfl rfl rfl aV),
      go (zf rfl oO),
      go (zl 0 rfl rfl rfl aV),
      go (zar rfl rfl rfl),
      go fun S hS => mF (.ptc _) (kC (aK rfl) (aU hS rfl) gK),
      go fun S hS => lA (aK rfl) (.func _ _ Tryz.call36) (ev2 (aU hS rfl) evn) rfl (BVs.refl _ _) (fZ _ h6) rfl, trivial⟩
  · exact bV (aM rfl (aM rfl (aR ⟨rfl, rfl, rfl, rfl, rfl, trivial⟩)))
 ·refine to (scm rfl rfl rfl) (aD ?_);refine tih h (fun c7 h => ?_) (fun c7 h => ?_)
  ·refine bE (bQ (aF (aC (ta (.i 0) (ta (.i 0) (ta Z18 (aD (aF (aF (aC (to (slc rfl cX) (to (sle rfl bS.of) (tm (.i 0) ?_)))))))))))));refine aD (bQ ?_);refine cO (S := Int × Int × Bool × Int × aO × aO) [1, 2, 3, 4, 5, 21, 22] (fun s8 => [(7, .i s8.1), (8, .i s8.2.1), (9, .b s8.2.2.1), (23, .i s8.2.2.2.1)]) (fun s8 => [.box b1 0 (aQ s8.2.2.2.2.1), .box b2 0 (aQ s8.2.2.2.2.2)]) (fun k s8 => dN (eE d w x k4) d w x w (w.length : Int) k s8.1 s8.2.1 s8.2.2.1 s8.2.2.2.1 s8.2.2.2.2.1 s8.2.2.2.2.2) (fun _ => rfl) (0, 0, false, 0, g, y) h (aT [0, 1] rfl rfl (aM rfl (aM rfl (aM rfl (aM rfl (aR ⟨rfl, rfl, rfl, rfl, rfl, rfl, rfl, trivial⟩)))))) ?_;rintro k9 ⟨f, e, s, q, c, j⟩ h;simp only [dN] at h;refine aF (aC (to (scm rfl rfl rfl) (aD (aF ?_))));refine tih h (fun K h => ?_) (fun K h => ?_)
   ·refine bE (aF (bQ (aF (aC ?_))));obtain ⟨m, L, h⟩ := bns h;refine to (six rfl rfl bS.of (cJ aI L)) (to (slc rfl aV) (ta (.i m) (aD (aF (aC (to (mF (.ptc _) (kC (aK rfl) rfl gK)) ?_))))));refine to (cK (aK rfl) rfl) ?_;refine to (sfc [.mp true (d.players.map fun p : Int × aA => (VI p.1, aB p.2))] rfl dL) (to (slc rfl fF) (tm (.i m) (to (iK (enc := aB) (agg := true) (l := d.players) (z := Z2) (a := m) (aK rfl) gO Tryz.underlying68 Tryz.zeroValue94 (fun _ _ => .agg (iZ rfl)) rfl rfl rfl rfl (cT (kv := VI) m)) ?_)));refine to (mO (aK rfl) rfl Tryz.runUnderlying94 rfl eV rfl) ?_;refine ta (.b ((aE m Z2 d.players).guard)) (aD (aF (bQ (aF (aC (tm (.b ((aE m Z2 d.players).guard)) (tm (.b ((aE m Z2 d.players).guard)) ?_)))))));obtain ⟨F, A, h⟩ := bns h;refine bG 5 [1, 2, 3, 4, 5, 7, 8, 9, 11, 12, 21, 22, 23] 41 F ?_ ?_
    ·refine bch A (fun t A => ?_) (fun t A => ?_)
     ·refine tk t (sm (.i e)) (tkl 0 t rfl rfl aAt rfl aV (tk t (scm rfl rfl rfl) (to (spt (.b (decide (e < c.covered))) t) ?_)));obtain rfl := sIn A;refine aD (aS rfl ⟨rfl, rfl, rfl, rfl, rfl, rfl, rfl, rfl, rfl, rfl, rfl, rfl, rfl, trivial⟩ rfl)
     ·refine tp t (tp t (tp t (tp t (to (spf Z18 t) ?_))));obtain rfl := sIn A;refine aD (aS rfl ⟨rfl, rfl, rfl, rfl, rfl, rfl, rfl, rfl, rfl, rfl, rfl, rfl, rfl, trivial⟩ rfl)
    ·refine ta (.b F) (aD ?_);refine tih h (fun M h => ?_) (fun M h => ?_)
     ·refine aF (aC (tm (.i e) (to (sar rfl rfl rfl) (ta (.i (w64 (e + 1))) (aD ?_)))));refine cD ?_;refine .inr ⟨by decide, ?_⟩;refine .inl ⟨rfl, ?_⟩;refine aC (to (sar rfl rfl rfl) (tm (.i (w64 (q + 1))) (aD ?_)));exact ⟨(f, w64 (e + 1), s, w64 (q + 1), c, j), h, aT [0, 1] rfl rfl (aM rfl (aM rfl (aM rfl (aM rfl (aR ⟨rfl, rfl, rfl, rfl, rfl, rfl, rfl, trivial⟩)))))⟩
     ·refine aF (aC (tm (.b ((aE m Z2 d.players).guard)) (to (sn rfl) (tm (.b (!((aE m Z2 d.players).guard))) ?_))));obtain ⟨G, B, h⟩ := bns h;refine bG 5 [1, 2, 3, 4, 5, 7, 8, 9, 11, 12, 21, 22, 23] 52 G ?_ ?_
      ·refine bch B (fun u B => ?_) (fun u B => ?_)
       ·refine tk u (sm (.i f)) (tkl 0 u rfl rfl aAs rfl aV (tk u (scm rfl rfl rfl) (to (spt (.b (decide (f < c.moved))) u) ?_)));obtain rfl := sIn B;refine aD (aS rfl ⟨rfl, rfl, rfl, rfl, rfl, rfl, rfl, rfl, rfl, rfl, rfl, rfl, rfl, trivial⟩ rfl)
       ·refine tp u (tp u (tp u (tp u (to (spf Z18 u) ?_))));obtain rfl := sIn B;refine aD (aS rfl ⟨rfl, rfl, rfl, rfl, rfl, rfl, rfl, rfl, rfl, rfl, rfl, rfl, rfl, trivial⟩ rfl)
      ·refine ta (.b G) (aD ?_);refine tih h (fun N h => ?_) (fun N h => ?_)
       ·refine aF (aC (tm (.i f) (to (sar rfl rfl rfl) (ta (.i (w64 (f + 1))) (aD ?_)))));refine cD ?_;refine .inr ⟨by decide, ?_⟩;refine .inl ⟨rfl, ?_⟩;refine aC (to (sar rfl rfl rfl) (tm (.i (w64 (q + 1))) (aD ?_)));exact ⟨(w64 (f + 1), e, s, w64 (q + 1), c, j), h, aT [0, 1] rfl rfl (aM rfl (aM rfl (aM rfl (aM rfl (aR ⟨rfl, rfl, rfl, rfl, rfl, rfl, rfl, trivial⟩)))))⟩
       ·refine aF ?_;obtain ⟨H, C, h⟩ := bns h;refine cB mix 11 [1, 2, 3, 4, 5, 7, 8, 9, 11, 12, 21, 22, 23] [(66, .b H)] ?_ ?_
        ·refine bch C (fun o C => ?_) (fun o C => ?_)
         ·obtain rfl := sIn C;refine ⟨[(56, 0, .b ((aE m Z2 d.players).guard)), (57, 1, .b ((aE m Z2 d.players).guard)), (58, 2, .bp b1 0 1), (59, 3, .i c.guarded), (60, 4, .cp [.j d.Field.Places, .j d.Field.Wilds, .j d.Field.Guards, .j d.Field.Close, .j d.Field.Freeze, .mp true (d.players.map fun p : Int × aA => (VI p.1, aB p.2)), .sl 1 (Z10 d), .k d.frozen, .sl 1 (Z9 d), .sl 1 (Z15 d), .j d.more, .j d.entered]), (61, 5, .cp [.j d.Field.Places, .j d.Field.Wilds, .j d.Field.Guards, .j d.Field.Close, .j d.Field.Freeze, .mp true (d.players.map fun p : Int × aA => (VI p.1, aB p.2)), .sl 1 (Z10 d), .k d.frozen, .sl 1 (Z9 d), .sl 1 (Z15 d), .j d.more, .j d.entered]), (62, 6, .cp [.j d.Field.Places, .j d.Field.Wilds, .j d.Field.Guards, .j d.Field.Close, .j d.Field.Freeze]), (63, 7, .cp [.j d.Field.Guards]), (64, 8, .i d.Field.Guards), (65, 9, .b (decide (d.Field.Guards ≤ c.guarded))), (66, 10, .b (decide (d.Field.Guards ≤ c.guarded)))], ?_, ?_⟩
          · exact dk [0, 1, 2, 203, 2, 205, 206, 207, 208, 20409, 210] ⟨go (zm (.b ((aE m Z2 d.players).guard))),
      go (zm (.b ((aE m Z2 d.players).guard))),
      gt o (zf rfl oO),
      gt o (zl 0 rfl rfl rfl aV),
      gt o fun S hS => mF (.ptc _) (kC (aK rfl) (aU hS rfl) gK),
      gt o fun S hS => cK (aK rfl) (aU hS rfl),
      gt o (zfc [.j d.Field.Places, .j d.Field.Wilds, .j d.Field.Guards, .j d.Field.Close, .j d.Field.Freeze] rfl fI),
      gt o (zfc [.j d.Field.Guards] rfl pD),
      gt o (zlc rfl aV),
      gt o (zcm rfl rfl rfl),
      go (zpt (.b (decide (d.Field.Guards ≤ c.guarded))) o), trivial⟩
          · exact bV (aM rfl (aR ⟨rfl, rfl, rfl, rfl, rfl, rfl, rfl, rfl, rfl, rfl, rfl, rfl, rfl, trivial⟩))
         ·obtain rfl := sIn C;refine ⟨[(56, 0, .b ((aE m Z2 d.players).guard)), (57, 1, .b ((aE m Z2 d.players).guard)), (58, 2, .tup []), (59, 3, .tup []), (60, 4, .tup []), (61, 5, .tup []), (62, 6, .tup []), (63, 7, .tup []), (64, 8, .tup []), (65, 9, .tup []), (66, 10, .b false)], ?_, ?_⟩
          · exact dk [0, 1, 2, 203, 2, 205, 206, 207, 208, 20409, 210] ⟨go (zm (.b ((aE m Z2 d.players).guard))),
      go (zm (.b ((aE m Z2 d.players).guard))),
      gp o,
      gp o,
      gp o,
      gp o,
      gp o,
      gp o,
      gp o,
      gp o,
      go (zpf Z18 o), trivial⟩
          · exact bV (aM rfl (aR ⟨rfl, rfl, rfl, rfl, rfl, rfl, rfl, rfl, rfl, rfl, rfl, rfl, rfl, trivial⟩))
        ·refine ta (.b H) (aD ?_);refine tih h (fun O h => ?_) (fun O h => ?_)
         ·refine cD ?_;refine .inr ⟨by decide, ?_⟩;refine .inl ⟨rfl, ?_⟩;refine aC (to (sar rfl rfl rfl) (tm (.i (w64 (q + 1))) (aD ?_)));exact ⟨(f, e, s, w64 (q + 1), c, j), h, aT [0, 1] rfl rfl (aM rfl (aM rfl (aM rfl (aM rfl (aR ⟨rfl, rfl, rfl, rfl, rfl, rfl, rfl, trivial⟩)))))⟩
         ·refine cG ?_;refine aF (aF (aC (tm (.i m) (to (slc rfl aV) (to (scm rfl rfl rfl) (aD ?_))))));refine tih h (fun P h => ?_) (fun P h => ?_)
          ·refine aF (aC (to (sla 0 (aQ c) rfl rfl kN) (to (sst 1 rfl rfl Tryz.sizeOf110 (aQ c)) (ta Z37 (aD ?_)))));obtain rfl := sIn h;exact cU ⟨rfl, _, [.box b1 0 (aQ c), .box b2 0 (aQ c)], .two (.cell 5 110 rfl (i := 1) rfl kN (es := (aQ c)) rfl rfl) (.tmp 6 (v := .b true) rfl), .refl _, .same _⟩
          ·refine bE (aF (aF (aC (tm (.b ((aE m Z2 d.players).guard)) (aD ?_)))));refine tih h (fun Q h => ?_) (fun Q h => ?_)
           ·refine aC (tfl 0 rfl rfl oO rfl aV (to (sar rfl rfl rfl) (tfl 0 rfl rfl aAt rfl aV (to (sar rfl rfl rfl) (to (sf rfl oO) (to (sst 0 rfl rfl Tryz.sizeOf3 (aQ (aO.mk c.free (w64 (c.guarded + 1)) c.moved c.covered))) (to (sf rfl aAt) (to (sst 0 rfl rfl Tryz.sizeOf3 (aQ (aO.mk c.free (w64 (c.guarded + 1)) c.moved (w64 (c.covered + 1))))) (aD (aF (aC ?_)))))))))));refine ta Z37 (aD ?_);refine cD ?_;refine .inr ⟨by decide, ?_⟩;refine .inl ⟨rfl, ?_⟩;simp only [eD] at h;refine aF (aC (tm Z37 (to (sn rfl) (aD ?_))));refine aCf rfl (fun I => ?_) (fun I => ?_)
            ·exact absurd I (by decide)
            ·refine cG ?_;simp only [gV] at h;exact ⟨((aO.mk c.free (w64 (c.guarded + 1)) c.moved (w64 (c.covered + 1))), j), h, aT [0, 1] rfl rfl (aR ⟨rfl, rfl, rfl, rfl, rfl, trivial⟩)⟩
           ·refine aC (tfl 0 rfl rfl qR rfl aV (to (sar rfl rfl rfl) (tfl 0 rfl rfl aAs rfl aV (to (sar rfl rfl rfl) (to (sf rfl qR) (to (sst 0 rfl rfl Tryz.sizeOf3 (aQ (aO.mk (w64 (c.free + 1)) c.guarded c.moved c.covered))) (to (sf rfl aAs) (to (sst 0 rfl rfl Tryz.sizeOf3 (aQ (aO.mk (w64 (c.free + 1)) c.guarded (w64 (c.moved + 1)) c.covered))) (aD (aF (aC ?_)))))))))));refine ta Z37 (aD ?_);refine cD ?_;refine .inr ⟨by decide, ?_⟩;refine .inl ⟨rfl, ?_⟩;simp only [eD] at h;refine aF (aC (tm Z37 (to (sn rfl) (aD ?_))));refine aCf rfl (fun J => ?_) (fun J => ?_)
            ·exact absurd J (by decide)
            ·refine cG ?_;simp only [gV] at h;exact ⟨((aO.mk (w64 (c.free + 1)) c.guarded (w64 (c.moved + 1)) c.covered), j), h, aT [0, 1] rfl rfl (aR ⟨rfl, rfl, rfl, rfl, rfl, trivial⟩)⟩
   ·refine cD ?_;refine .inl ⟨rfl, ?_⟩;simp only [eD] at h;refine aF (aC (tm (.b s) (to (sn rfl) (aD ?_))));refine tih h (fun T h => ?_) (fun T h => ?_)
    ·refine aF (aC (to (sla 0 (aQ c) rfl rfl kN) (to (sst 1 rfl rfl Tryz.sizeOf110 (aQ c)) (ta Z18 (aD ?_)))));obtain rfl := sIn h;exact cU ⟨rfl, _, [.box b1 0 (aQ c), .box b2 0 (aQ c)], .two (.cell 5 110 rfl (i := 1) rfl kN (es := (aQ c)) rfl rfl) (.tmp 6 (v := .b false) rfl), .refl _, .same _⟩
    ·refine cG ?_;simp only [gV] at h;exact ⟨(c, j), h, aT [0, 1] rfl rfl (aR ⟨rfl, rfl, rfl, rfl, rfl, trivial⟩)⟩
  ·refine cD ?_;refine .inl ⟨rfl, ?_⟩;simp only [rW] at h;refine aF (aC (to (sla 0 (aQ g) rfl rfl kN) (to (sst 1 rfl rfl Tryz.sizeOf110 (aQ g)) (ta Z18 (aD ?_)))));obtain rfl := sIn h;exact cU ⟨rfl, _, [.box b1 0 (aQ g), .box b2 0 (aQ g)], .two (.cell 5 110 rfl (i := 1) rfl kN (es := (aQ g)) rfl rfl) (.tmp 6 (v := .b false) rfl), .refl _, .same _⟩

end Go.Am
