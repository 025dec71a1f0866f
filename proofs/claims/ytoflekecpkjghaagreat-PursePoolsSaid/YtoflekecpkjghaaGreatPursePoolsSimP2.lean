/- The functions compute what the shallow ones say: printed by program. -/
import Derived.Test.YtoflekecpkjghaaGreatPursePoolsSimP1
namespace Go.Am
open Go.Proofs
set_option maxRecDepth 100000
set_option maxHeartbeats 4000000

theorem aCr (a : aV) (e : List aF) {Q : ((Option bI) × Int) → Prop} (h : nQ a e Q) : fU Tryz.prog 75 [.agg (bC a), .d (.sl 5 (e.map aL))] [] (fun r' o' => ∃ (r : (Option bI) × Int), Q r ∧ r' = .tup [fJ bX r.1, .i r.2] ∧ o' = []) := by
 unfold nQ at h;refine jZ Tryz.func75 rfl (rs := [.tmp 4, .tmp 5]) Tryz.results75 Tryz.ntmps75 (Nat.le_of_ble_eq_true rfl) ?_;refine aC (aA ?_);refine bE rfl (dN (v := .agg (bC a)) (aD rfl) rfl rfl rfl) ?_;rintro _ ⟨b1, rfl⟩;refine ta (fJ bX (none : Option bI)) (ta (.i 0) (aB (aC (aC (aA (to (sla 0 (bC a) rfl rfl jR) ?_))))));obtain ⟨r2, h3, h⟩ := gO h;refine to (scr Tryz.call100 (aJa _ h3)) (to (sn rfl) (aB ?_));refine aZ rfl (fun c4 => ?_) (fun c4 => ?_)
 ·have h := jO c4 h;refine aC (aA (ta (fJ bX (none : Option bI)) (ta (.i 70) (aB ?_))));exact bB ⟨rfl, _, [], [.box b1 0 (bC a)], _, .two (.tmp 4 (v := fJ bX (none : Option bI)) rfl) (.tmp 5 (v := .i 70) rfl), .refl _, .same _, ((none : Option bI), 70), h, rfl, rfl⟩
 ·have h := jN c4 h;refine aY (aC (aC (aA (tm (.d (.sl 5 (e.map aL))) (to (sle rfl hC.of) (to (scm rfl rfl rfl) (tm (.b (decide (60 < (e.length : Int)))) ?_)))))));obtain ⟨b5, h6, h⟩ := gO h;refine bH 4 [1, 2] 18 b5 ?_ ?_
  ·refine aW (decide (60 < (e.length : Int))) (fun c => ?_) (fun c => ?_)
   ·have h6 := aK c h6;refine tp c (tp c (tp c (to (spt (.b true) c) ?_)));have h6 := Option.some.inj h6;subst h6;refine aB (aO rfl ⟨rfl, rfl, trivial⟩ rfl)
   ·have h6 := aJ c h6;refine tk c (sm (.d (.sl 5 (e.map aL)))) (tk c (aPh (aD rfl) rfl rfl) ?_);obtain ⟨f, g, h6⟩ := bind_some h6;refine tk c (sc Tryz.call101 (xF _ _ 102 [.cp [.lit (.int .i64 a.Rounds), .sl 1 (a.Slots.map aM)]] Tryz.call102 (fun _ _ h6 => aJb _ _ h6) g) (.cons (.same _) (.cons (aWl (.cons (aDl 0 rfl rfl (dvc (.same _) (dvc (.same _) dvn))) .nil)) .nil))) (to (spf (.b f) c) ?_);have h6 := Option.some.inj h6;subst h6;refine aB (aO rfl ⟨rfl, rfl, trivial⟩ rfl)
  ·refine aB ?_;refine aZ rfl (fun c7 => ?_) (fun c7 => ?_)
   ·have h := jO c7 h;refine aC (aA (ta (fJ bX (none : Option bI)) (ta (.i 71) (aB ?_))));exact bB ⟨rfl, _, [], [.box b1 0 (bC a)], _, .two (.tmp 4 (v := fJ bX (none : Option bI)) rfl) (.tmp 5 (v := .i 71) rfl), .refl _, .same _, ((none : Option bI), 71), h, rfl, rfl⟩
   ·have h := jN c7 h;refine aY (aC (aA (to (sla 0 (bC a) rfl rfl jR) (tm (.d (.sl 5 (e.map aL))) ?_))));refine bE rfl (aAf (aD rfl) (.func _ _ Tryz.call104) rfl rfl (aKa _ _ h)) ?_;rintro _ ⟨_, _, ⟨r8, h, rfl, rfl⟩, rfl⟩;refine tm (.tup [fJ bX r8.1, .b r8.2]) (to (sex rfl rfl) (to (sex rfl rfl) (ta (fJ bX r8.1) (ta (.b r8.2) (aB (aC (aC (aA (tm (.b r8.2) (to (sn rfl) (aB ?_)))))))))));refine aZ rfl (fun c9 => ?_) (fun c9 => ?_)
    ·have h := jO c9 h;refine aC (aA (ta (fJ bX (none : Option bI)) (ta (.i 72) (aB ?_))));exact bB ⟨rfl, _, [], [.box b1 0 (bC a)], _, .two (.tmp 4 (v := fJ bX (none : Option bI)) rfl) (.tmp 5 (v := .i 72) rfl), .refl _, .same _, ((none : Option bI), 72), h, rfl, rfl⟩
    ·have h := jN c9 h;refine aY (aC (aA (tm (fJ bX r8.1) (ta (fJ bX r8.1) (ta (.i 0) (aB ?_))))));exact bB ⟨rfl, _, [], [.box b1 0 (bC a)], _, .two (.tmp 4 (v := fJ bX r8.1) rfl) (.tmp 5 (v := .i 0) rfl), .refl _, .same _, (r8.1, 0), h, rfl, rfl⟩

theorem aJy (a : aV) (b : List aF) {Q : Int → Prop} (h : sS a b Q) : fU Tryz.prog 45 [.agg (bC a), .d (.sl 5 (b.map aL))] [] (fun r' o' => ∃ (r : Int), Q r ∧ r' = .i r ∧ o' = []) := by
 unfold sS at h;refine jZ Tryz.func45 rfl (rs := [.tmp 4]) Tryz.results45 Tryz.ntmps45 (Nat.le_of_ble_eq_true rfl) ?_;refine aC (aA ?_);refine bE rfl (dN (v := .agg (bC a)) (aD rfl) rfl rfl rfl) ?_;rintro _ ⟨b1, rfl⟩;refine ta (.i 0) (aB (aC (aA (to (sla 0 (bC a) rfl rfl jR) (tm (.d (.sl 5 (b.map aL))) ?_)))));refine bE rfl (aAf (aD rfl) (.func _ _ Tryz.call75) rfl rfl (aCr _ _ h)) ?_;rintro _ ⟨_, _, ⟨r2, h, rfl, rfl⟩, rfl⟩;refine tm (.tup [fJ bX r2.1, .i r2.2]) (to (sex rfl rfl) (to (sex rfl rfl) (ta (fJ bX r2.1) (ta (.i r2.2) (aB (aC (aA (tm (.i r2.2) (ta (.i r2.2) (aB ?_))))))))));exact bB ⟨rfl, _, [], [.box b1 0 (bC a)], _, .one (.tmp 4 (v := .i r2.2) rfl), .refl _, .same _, r2.2, h, rfl, rfl⟩

theorem aBn (a : Int) {r : Bool} (h : sU a = some r) : Fn Tryz.prog 121 [.i a] (.b r) := by
 unfold sU at h;refine Fn.of_tr Tryz.func121 rfl (rs := [.tmp 2]) Tryz.results121 Tryz.ntmps121 (Nat.le_of_ble_eq_true rfl) ?_;refine aC (aA (ta (.b false) (aB (aC (aA (tm (.i a) (tm (.i a) (to (scm rfl rfl rfl) (ta (.b (!decide (a = a))) (aB ?_))))))))));have h := Option.some.inj h;subst h;exact bB ⟨rfl, _, .one _, rfl, rfl⟩

theorem aLp (a : Int) (c : Int) {r : Bool} (h : tU a c = some r) : Fn Tryz.prog 105 [.i a, .i c] (.b r) := by
 unfold tU at h;refine Fn.of_tr Tryz.func105 rfl (rs := [.tmp 4]) Tryz.results105 Tryz.ntmps105 (Nat.le_of_ble_eq_true rfl) ?_;refine aC (aA (ta (.b false) (aB (aC (aA (tm (.i a) ?_))))));obtain ⟨r1, h2, h⟩ := bind_some h;refine to (scr Tryz.call121 (aBn _ h2)) (tm (.b r1) ?_);obtain ⟨b3, h4, h⟩ := bind_some h;refine bH 4 [0, 1] 11 b3 ?_ ?_
 ·refine aW (r1) (fun c8 => ?_) (fun c8 => ?_)
  ·have h4 := aK c8 h4;refine tk c8 (sm (.i c)) ?_;obtain ⟨r9, d, h4⟩ := bind_some h4;refine tk c8 (scr Tryz.call121 (aBn _ d)) (tk c8 (sn rfl) (to (spt (.b (!r9)) c8) ?_));have h4 := Option.some.inj h4;subst h4;refine aB (aO rfl ⟨rfl, rfl, trivial⟩ rfl)
  ·have h4 := aJ c8 h4;refine tp c8 (tp c8 (tp c8 (to (spf (.b false) c8) ?_)));have h4 := Option.some.inj h4;subst h4;refine aB (aO rfl ⟨rfl, rfl, trivial⟩ rfl)
 ·refine tm (.b b3) ?_;obtain ⟨b5, h6, h⟩ := bind_some h;refine bH 4 [] 16 b5 ?_ ?_
  ·refine aW (b3) (fun c7 => ?_) (fun c7 => ?_)
   ·have h6 := aK c7 h6;refine tp c7 (tp c7 (tp c7 (to (spt (.b true) c7) ?_)));have h6 := Option.some.inj h6;subst h6;refine aB (aO rfl trivial rfl)
   ·have h6 := aJ c7 h6;refine tk c7 (sm (.i a)) (tk c7 (sm (.i c)) (tk c7 (scm rfl rfl rfl) (to (spf (.b (decide (a < c))) c7) ?_)));have h6 := Option.some.inj h6;subst h6;refine aB (aO rfl trivial rfl)
  ·refine ta (.b b5) (aB ?_);have h := Option.some.inj h;subst h;exact bB ⟨rfl, _, .one _, rfl, rfl⟩

theorem aDe (c : List Int) {r : Bool} (h : mU c = some r) : Fn Tryz.prog 76 [.d (.sl 1 (c.map aM))] (.b r) := by
 unfold mU at h;refine Fn.of_tr Tryz.func76 rfl (rs := [.tmp 2]) Tryz.results76 Tryz.ntmps76 (Nat.le_of_ble_eq_true rfl) ?_;refine aC (aA (ta (.b false) (aB (aC (aC (aA (tm (.d (.sl 1 (c.map aM))) (to (sle rfl bJ.of) (to (sar rfl rfl rfl) (ta (.i (w64 ((c.length : Int) - 1))) (aB (bF ?_))))))))))));refine bY [0] (fun (s1 : Int) => [(3, .i s1)]) (fun (s1 : Int) => []) (fun (k : Nat) (s1 : Int) => iB c k s1) (fun _ => rfl) (w64 ((c.length : Int) - 1)) h (aQ [] rfl rfl (aI rfl (aN ⟨rfl, trivial⟩))) ?_;rintro k2 a h;simp only [iB] at h;refine aC (aC (aA (tm (.i a) (to (scm rfl rfl rfl) (aB ?_)))));refine aZ rfl (fun c3 => ?_) (fun c3 => ?_)
 ·have h := aK c3 h;refine aY (aC (bF (aC ?_)));obtain ⟨x4, h5, h⟩ := bind_some h;obtain ⟨x6, h7, h⟩ := bind_some h;refine cV mix 9 [0, 3] [(14, .i x4), (19, .i x6)] ?_ ?_
  ·refine ⟨[(11, 0, .d (.sl 1 (c.map aM))), (12, 1, .i a), (13, 2, .cp [.lit (.int .i64 x4)]), (14, 3, .i x4), (15, 4, .d (.sl 1 (c.map aM))), (16, 5, .i a), (17, 6, .i (w64 (a - 1))), (18, 7, .cp [.lit (.int .i64 x6)]), (19, 8, .i x6)], ?_, ?_⟩
   · exact dok [([], []), ([], []), ([0, 1], []), ([2], []), ([], []), ([], []), ([5], []), ([4, 6], []), ([7], [])] ⟨go (zm (.d (.sl 1 (c.map aM)))),
      go (zm (.i a)),
      go (zix rfl rfl bJ.of (bA aM h5)),
      go (zlc rfl aU),
      go (zm (.d (.sl 1 (c.map aM)))),
      go (zm (.i a)),
      go (zar rfl rfl rfl),
      go (zix rfl rfl bJ.of (bA aM h7)),
      go (zlc rfl aU), trivial⟩
   · exact cK (aI rfl (aI rfl (aN ⟨rfl, rfl, trivial⟩)))
  ·obtain ⟨r8, h9, h⟩ := bind_some h;refine to (scr Tryz.call105 (aLp _ _ h9)) (aB ?_);refine aZ rfl (fun e => ?_) (fun e => ?_)
   ·have h := aK e h;refine aC (aA (ta (.b false) (aB ?_)));have h := Option.some.inj h;subst h;exact bB ⟨rfl, _, .one _, rfl, rfl⟩
   ·have h := aJ e h;refine cR ?_;refine aA (tm (.i a) (to (sar rfl rfl rfl) (ta (.i (w64 (a - 1))) (aB ?_))));exact ⟨(w64 (a - 1)), h, aQ [] rfl rfl (aI rfl (aN ⟨rfl, trivial⟩))⟩
 ·have h := aJ c3 h;refine cB ?_;refine .inl ⟨rfl, ?_⟩;simp only [vH] at h;refine aC (aA (ta (.b true) (aB ?_)));have h := Option.some.inj h;subst h;exact bB ⟨rfl, _, .one _, rfl, rfl⟩

theorem gW (d : Int) (a : Int) (c : Int) {r : Bool} (h : gK d a c = some r) : Fn Tryz.prog 61 [.i d, .i a, .i c] (.b r) := by
 unfold gK at h;refine Fn.of_tr Tryz.func61 rfl (rs := [.tmp 6]) Tryz.results61 Tryz.ntmps61 (Nat.le_of_ble_eq_true rfl) ?_;refine aC (aA (ta (.b false) (aB (aC (aA (tm (.i a) (tm (.i d) (to (scm rfl rfl rfl) (tm (.b (decide (a ≤ d))) ?_)))))))));obtain ⟨b1, h2, h⟩ := bind_some h;refine bH 4 [] 14 b1 ?_ ?_
 ·refine aW (decide (a ≤ d)) (fun c3 => ?_) (fun c3 => ?_)
  ·have h2 := aK c3 h2;refine tk c3 (sm (.i d)) (tk c3 (sm (.i c)) (tk c3 (scm rfl rfl rfl) (to (spt (.b (decide (d ≤ c))) c3) ?_)));have h2 := Option.some.inj h2;subst h2;refine aB (aO rfl trivial rfl)
  ·have h2 := aJ c3 h2;refine tp c3 (tp c3 (tp c3 (to (spf (.b false) c3) ?_)));have h2 := Option.some.inj h2;subst h2;refine aB (aO rfl trivial rfl)
 ·refine ta (.b b1) (aB ?_);have h := Option.some.inj h;subst h;exact bB ⟨rfl, _, .one _, rfl, rfl⟩

theorem aLc (f : aR) {r : Bool} (h : tB f = some r) : Fn Tryz.prog 46 [.agg (aP f)] (.b r) := by
 unfold tB at h;refine Fn.of_tr Tryz.func46 rfl (rs := [.tmp 2]) Tryz.results46 Tryz.ntmps46 (Nat.le_of_ble_eq_true rfl) ?_;refine aC (aA ?_);refine bE rfl (dN (v := .agg (aP f)) (aD rfl) rfl rfl rfl) ?_;rintro _ ⟨b1, rfl⟩;refine ta (.b false) (aB (aC (aC (aA (to (sf rfl fP) (to (sl 0 rfl rfl rfl cI) (to (sle rfl bJ.of) (to (sf rfl gH) (to (sf rfl fI) (to (sl 0 rfl rfl rfl aU) (to (sar rfl rfl rfl) (to (scm rfl rfl rfl) (tm (.b (!decide ((f.Prizes.length : Int) = (w64 (f.Tree.Rounds + 1))))) ?_)))))))))))));obtain ⟨b2, h3, h⟩ := bind_some h;refine bH 5 [1] 16 b2 ?_ ?_
 ·refine aW (!decide ((f.Prizes.length : Int) = (w64 (f.Tree.Rounds + 1)))) (fun c => ?_) (fun c => ?_)
  ·have h3 := aK c h3;refine tp c (tp c (tp c (tp c (to (spt (.b true) c) ?_))));have h3 := Option.some.inj h3;subst h3;refine aB (aO rfl ⟨rfl, trivial⟩ rfl)
  ·have h3 := aJ c h3;refine tk c (sf rfl fP) (tk c (sl 0 rfl rfl rfl cI) ?_);obtain ⟨g, i, h3⟩ := bind_some h3;refine tk c (scr Tryz.call76 (aDe _ i)) (tk c (sn rfl) (to (spf (.b (!g)) c) ?_));have h3 := Option.some.inj h3;subst h3;refine aB (aO rfl ⟨rfl, trivial⟩ rfl)
 ·refine tm (.b b2) ?_;obtain ⟨b4, h5, h⟩ := bind_some h;refine bH 5 [1] 22 b4 ?_ ?_
  ·refine aW (b2) (fun d => ?_) (fun d => ?_)
   ·have h5 := aK d h5;refine tp d (tp d (tp d (tp d (to (spt (.b true) d) ?_))));have h5 := Option.some.inj h5;subst h5;refine aB (aO rfl ⟨rfl, trivial⟩ rfl)
   ·have h5 := aJ d h5;refine tk d (sf rfl aJf) (tk d (sl 0 rfl rfl rfl aU) ?_);obtain ⟨j, k, h5⟩ := bind_some h5;refine tk d (scr Tryz.call61 (gW _ _ _ k)) (tk d (sn rfl) (to (spf (.b (!j)) d) ?_));have h5 := Option.some.inj h5;subst h5;refine aB (aO rfl ⟨rfl, trivial⟩ rfl)
  ·refine aB ?_;refine aZ rfl (fun c6 => ?_) (fun c6 => ?_)
   ·have h := aK c6 h;refine aC (aA (ta (.b false) (aB ?_)));have h := Option.some.inj h;subst h;refine bT (bL (bO (l := [2]) ⟨rfl, trivial⟩)) ?_;exact bB ⟨rfl, _, .one _, rfl, rfl⟩
   ·have h := aJ c6 h;refine aY (aC (aA (to (sf rfl fP) (to (sl 0 rfl rfl rfl cI) ?_))));obtain ⟨x7, h8, h⟩ := bind_some h;refine to (six rfl rfl bJ.of (bA aM h8)) (to (slc rfl aU) (to (scm rfl rfl rfl) (tm (.b (decide (0 ≤ x7))) ?_)));obtain ⟨b9, e, h⟩ := bind_some h;refine bH 10 [] 38 b9 ?_ ?_
    ·refine aW (decide (0 ≤ x7)) (fun a => ?_) (fun a => ?_)
     ·have e := aK a e;refine tk a (sf rfl fP) (tk a (sl 0 rfl rfl rfl cI) (tk a (sf rfl fP) (tk a (sl 0 rfl rfl rfl cI) (tk a (sle rfl bJ.of) (tk a (sar rfl rfl rfl) ?_)))));obtain ⟨m, n, e⟩ := bind_some e;refine tk a (six rfl rfl bJ.of (bA aM n)) (tk a (slc rfl aU) (tk a (scm rfl rfl rfl) (to (spt (.b (decide (m ≤ 10000000))) a) ?_)));have e := Option.some.inj e;subst e;refine aB (aO rfl trivial rfl)
     ·have e := aJ a e;refine tp a (tp a (tp a (tp a (tp a (tp a (tp a (tp a (tp a (to (spf (.b false) a) ?_)))))))));have e := Option.some.inj e;subst e;refine aB (aO rfl trivial rfl)
    ·refine ta (.b b9) (aB ?_);have h := Option.some.inj h;subst h;refine bT (bL (bO (l := [2]) ⟨rfl, trivial⟩)) ?_;exact bB ⟨rfl, _, .one _, rfl, rfl⟩

theorem zL (x : List Int) {r : List Int} {x_v : Value} {e : TypeId} (h : slices_Sort_int x = some r) : fU Tryz.prog 77 [.d (.lit x_v)] [.arr x_v e 1 (x.map aM)] (fun r' o' => r' = .tup [] ∧ o' = [.arr x_v e 1 (r.map aM)]) := by
 unfold slices_Sort_int at h;split at h
 ·cases h;exact aSn (fun blk off cap zs w => Tryz.slices_Sort_int blk off cap zs w) (fun q cap w => Tryz.slices_Sort_int_none q cap w) (by assumption)
 ·cases h

theorem wY (c : aR) {r : (List Int)} (h : oK c = some r) : Fn Tryz.prog 55 [.agg (aP c)] (.d (.sl 1 (r.map aM))) := by
 unfold oK at h;refine Fn.of_tr Tryz.func55 rfl (rs := [.tmp 2]) Tryz.results55 Tryz.ntmps55 (Nat.le_of_ble_eq_true rfl) ?_;refine aC (aA ?_);refine bE rfl (dN (v := .agg (aP c)) (aD rfl) rfl rfl rfl) ?_;rintro _ ⟨b1, rfl⟩;refine to (aCb 1 (aD rfl)) ?_;refine aB (aC (aA (to (iJ 3 1 (.inl rfl) (aD rfl)) ?_)));refine aB (aC (aC (aA (to (sf rfl jA) (to (sl 0 rfl rfl rfl mS) (to (sle rfl mA.of) (tm (.i 0) (aB (bF ?_)))))))));refine bY [7, 8] (fun (s3 : Int × (List Int) × Value) => [(3, .d (.lit s3.2.2)), (9, .i s3.1)]) (fun (s3 : Int × (List Int) × Value) => [.arr s3.2.2 3 1 (s3.2.1.map aM)]) (fun (k : Nat) (s3 : Int × (List Int) × Value) => jX c.Teams (c.Teams.length : Int) k s3.1 s3.2.1) (fun _ => rfl) (0, ([] : List Int), (.slice none 0 0)) h (aQ [1] rfl rfl (aI rfl (aI rfl (aN ⟨rfl, rfl, trivial⟩)))) ?_;rintro k5 ⟨a, b, w4⟩ h;simp only [jX] at h;refine aC (aA (to (scm rfl rfl rfl) (aB (aC ?_))));refine aZ rfl (fun c6 => ?_) (fun c6 => ?_)
 ·have h := aK c6 h;refine aY (aC (bF (aC (aA ?_))));obtain ⟨x7, h8, h⟩ := bind_some h;refine to (six rfl rfl mA.of (bA bM h8)) (to (qH (bM x7) rfl tR) ?_);refine bE rfl (cM (zs := [.lit (.int .i64 0), .lit (.int .i64 0), .lit (.int .i64 0)]) (aD rfl) Tryz.zeroValue46 rfl rfl) ?_;rintro _ ⟨b9, rfl⟩;refine to (sst 1 rfl rfl Tryz.sizeOf46 (bM x7)) (aB (aC (aA (tm (.d (.lit w4)) (to (sf rfl pW) (to (sl 1 rfl rfl rfl aU) (to (fR (aD rfl) bJ rfl rfl (rows := ([x7.One]).map aM) rfl (cP (f := aM) fun _ => rfl) rfl (by decide)) ?_)))))));obtain ⟨l, m, h⟩ := bind_some h;refine bE rfl (gP (i := 0) (aD rfl) bJ rfl rfl rfl (fun _ => rfl) m rfl) ?_;rintro _ ⟨e, rfl⟩;refine ta (.d (.lit e)) (aB (aC (aA (to (sf rfl kE) (to (sl 1 rfl rfl rfl aU) (to (scm rfl rfl rfl) (aB ?_)))))));refine aZ rfl (fun g => ?_) (fun g => ?_)
  ·have h := aK g h;refine aA (tm (.d (.lit e)) (to (sf rfl kE) (to (sl 1 rfl rfl rfl aU) (to (fR (aD rfl) bJ rfl rfl (rows := ([x7.Two]).map aM) rfl (cP (f := aM) fun _ => rfl) rfl (by decide)) ?_))));obtain ⟨n, o, h⟩ := bind_some h;refine bE rfl (gP (i := 0) (aD rfl) bJ rfl rfl rfl (fun _ => rfl) o rfl) ?_;rintro _ ⟨j, rfl⟩;refine ta (.d (.lit j)) ?_;refine cQ ?_;refine aA (to (sar rfl rfl rfl) (tm (.i (w64 (a + 1))) (aB ?_)));exact ⟨(w64 (a + 1), n, j), h, aQ [0] rfl rfl (aI rfl (aI rfl (aN ⟨rfl, rfl, trivial⟩)))⟩
  ·have h := aJ g h;refine cR ?_;refine aA (to (sar rfl rfl rfl) (tm (.i (w64 (a + 1))) (aB ?_)));exact ⟨(w64 (a + 1), l, e), h, aQ [0] rfl rfl (aI rfl (aI rfl (aN ⟨rfl, rfl, trivial⟩)))⟩
 ·have h := aJ c6 h;refine cB ?_;refine .inl ⟨rfl, ?_⟩;simp only [sR] at h;refine aC (aA (tm (.d (.lit w4)) ?_));obtain ⟨p, q, h⟩ := bind_some h;refine bE rfl (fC (passed := [.arr w4 3 1 (b.map aM)]) (aD rfl) rfl (.func _ _ Tryz.call77) rfl rfl (zL b q)) ?_;rintro _ ⟨_, _, ⟨rfl, rfl⟩, rfl⟩;refine aB (aC (aA (tm (.d (.lit w4)) (ta (.d (.lit w4)) (aB ?_)))));have h := Option.some.inj h;subst h;refine bT (bL (wD (k := 2) (v := .d (.sl 1 (p.map aM))) (.d (nV 0 rfl (cP (f := aM) fun _ => rfl))) (aCq))) ?_;exact bB ⟨rfl, _, .one _, rfl, rfl⟩

theorem aEr (o : List Int) {r : (List Int)} {e : Value} (h : slices_Compact_int o = some r) : fU Tryz.prog 108 [.d (.lit e)] [.arr e 3 1 (o.map aM)] (fun r' o' => ∃ w0 : Value, r' = .d (.lit w0) ∧ o' = [.arr w0 3 1 (r.map aM)]) := by
 unfold slices_Compact_int at h;refine jZ Tryz.func108 rfl (rs := [.tmp 2]) Tryz.results108 Tryz.ntmps108 (Nat.le_of_ble_eq_true rfl) ?_;refine aC (aA (to (iJ 3 1 (.inl rfl) (aD rfl)) ?_));refine aB (aC (aC (aA (tm (.d (.lit e)) (to (kA (m := 0) (aD rfl) rfl rfl bJ.of) ?_)))));refine to (scm rfl rfl rfl) (aB ?_);refine aZ rfl (fun c2 => ?_) (fun c2 => ?_)
 ·have h := aK c2 h;refine aC (aA (tm (.d (.lit e)) (ta (.d (.lit e)) (aB ?_))));have h := Option.some.inj h;subst h;exact bB ⟨rfl, _, [.arr e 3 1 (o.map aM)], [.arr (.slice none 0 0) 3 1 (([] : List Int).map aM)], _, .one (.tmp 2 (v := .d (.lit e)) rfl), .refl _, .same _, e, rfl, rfl⟩
 ·have h := aJ c2 h;refine aY (aC (aC (aA (ta (.i 1) (aB (bF ?_))))));refine bY [] (fun (s3 : Int × (List Int) × Value) => [(0, .d (.lit s3.2.2)), (3, .i s3.1)]) (fun (s3 : Int × (List Int) × Value) => [.arr s3.2.2 3 1 (s3.2.1.map aM)]) (fun (k : Nat) (s3 : Int × (List Int) × Value) => fD k s3.1 s3.2.1) (fun _ => rfl) (1, o, e) h (aQ [0] rfl rfl (aI rfl (aI rfl (aN trivial)))) ?_;rintro k5 ⟨a, n, w4⟩ h;simp only [fD] at h;refine aC (aC (aA (tm (.i a) (tm (.d (.lit w4)) (to (kA (m := 0) (aD rfl) rfl rfl bJ.of) ?_)))));refine to (scm rfl rfl rfl) (aB ?_);refine aZ rfl (fun c6 => ?_) (fun c6 => ?_)
  ·have h := aK c6 h;refine aY (aC (bF (aC ?_)));obtain ⟨x7, h8, h⟩ := bind_some h;obtain ⟨x9, u, h⟩ := bind_some h;refine cV mix 9 [0, 3] [(19, .i x7), (24, .i x9)] ?_ ?_
   ·refine ⟨[(16, 0, .d (.lit w4)), (17, 1, .i a), (18, 2, .ep w4 1 a.toNat 0), (19, 3, .i x7), (20, 4, .d (.lit w4)), (21, 5, .i a), (22, 6, .i (w64 (a - 1))), (23, 7, .ep w4 1 (w64 (a - 1)).toNat 0), (24, 8, .i x9)], ?_, ?_⟩
    · exact dok [([], []), ([], []), ([0, 1], []), ([2], []), ([], []), ([], []), ([5], []), ([4, 6], []), ([7], [])] ⟨go (zm (.d (.lit w4))),
      go (zm (.i a)),
      go (zia 0 rfl rfl rfl bJ.of (bA aM h8)),
      go fun S hS => iU (aD rfl) (aX hS rfl) (m := 0) rfl (dY aM h8) rfl aU,
      go (zm (.d (.lit w4))),
      go (zm (.i a)),
      go (zar rfl rfl rfl),
      go (zia 0 rfl rfl rfl bJ.of (bA aM u)),
      go fun S hS => iU (aD rfl) (aX hS rfl) (m := 0) rfl (dY aM u) rfl aU, trivial⟩
    · exact cK (aI rfl (aI rfl (aN ⟨rfl, rfl, trivial⟩)))
   ·refine to (scm rfl rfl rfl) (aB ?_);refine aZ rfl (fun p => ?_) (fun p => ?_)
    ·have h := aK p h;refine aC (aA (tm (.d (.lit w4)) (tm (.i a) ?_)));obtain ⟨I, E, h⟩ := bind_some h;refine to (xC (m := 0) (aD rfl) rfl rfl rfl bJ.of E) ?_;refine ta (.d (.lit (kC w4 a.toNat 1))) (aB (aC (aC (aA (ta (.i 1) (aB (bF ?_)))))));refine bY [] (fun (j : Int × Int × (List Int)) => [(0, .d (.lit w4)), (3, .i j.1), (4, .d (.lit (kC w4 a.toNat 1))), (5, .i j.2.1)]) (fun (j : Int × Int × (List Int)) => [.arr w4 3 1 (j.2.2.map aM)]) (fun (k : Nat) (j : Int × Int × (List Int)) => gQ (fD k5) a k j.1 j.2.1 j.2.2) (fun _ => rfl) (a, 1, n) h (aQ [0] rfl rfl (aI rfl (aI rfl (aI rfl (aI rfl (aN trivial)))))) ?_;rintro J ⟨c, b, g⟩ h;simp only [gQ] at h;refine aC (aC (aA (tm (.i b) (tm (.d (.lit (kC w4 a.toNat 1))) (to (aLh (m := 0) (aD rfl) rfl rfl bJ.of) ?_)))));refine to (scm rfl rfl rfl) (aB ?_);refine aZ rfl (fun s => ?_) (fun s => ?_)
     ·have h := aK s h;refine aY (aC (bF (aC ?_)));obtain ⟨w, x, h⟩ := bind_some h;obtain ⟨y, z, h⟩ := bind_some h;refine cV mix 9 [0, 3, 4, 5] [(38, .i w), (43, .i y)] ?_ ?_
      ·refine ⟨[(35, 0, .d (.lit (kC w4 a.toNat 1))), (36, 1, .i b), (37, 2, .ep w4 1 (a.toNat + b.toNat) 0), (38, 3, .i w), (39, 4, .d (.lit (kC w4 a.toNat 1))), (40, 5, .i b), (41, 6, .i (w64 (b - 1))), (42, 7, .ep w4 1 (a.toNat + (w64 (b - 1)).toNat) 0), (43, 8, .i y)], ?_, ?_⟩
       · exact dok [([], []), ([], []), ([0, 1], []), ([2], []), ([], []), ([], []), ([5], []), ([4, 6], []), ([7], [])] ⟨go (zm (.d (.lit (kC w4 a.toNat 1)))),
      go (zm (.i b)),
      go fun S hS => tE (m := 0) (aD rfl) (aX hS rfl) rfl (aX hS rfl) bJ.of (sB (f := aM) x),
      go fun S hS => iU (aD rfl) (aX hS rfl) (m := 0) rfl (aAe aM x) rfl aU,
      go (zm (.d (.lit (kC w4 a.toNat 1)))),
      go (zm (.i b)),
      go (zar rfl rfl rfl),
      go fun S hS => tE (m := 0) (aD rfl) (aX hS rfl) rfl (aX hS rfl) bJ.of (sB (f := aM) z),
      go fun S hS => iU (aD rfl) (aX hS rfl) (m := 0) rfl (aAe aM z) rfl aU, trivial⟩
       · exact cK (aI rfl (aI rfl (aN ⟨rfl, rfl, rfl, rfl, trivial⟩)))
      ·refine to (scm rfl rfl rfl) (aB ?_);refine aZ rfl (fun t => ?_) (fun t => ?_)
       ·have h := aK t h;refine aC (aA (tm (.d (.lit w4)) (tm (.i c) (tm (.d (.lit (kC w4 a.toNat 1))) (tm (.i b) ?_)))));obtain ⟨A, B, h⟩ := bind_some h;refine to (tE (m := 0) (aD rfl) rfl rfl rfl bJ.of (sB (f := aM) B)) ?_;refine to (iU (aD rfl) rfl (m := 0) rfl (aAe aM B) rfl aU) ?_;obtain ⟨K, C, h⟩ := bind_some h;refine to (dL (m := 0) (aD rfl) rfl rfl rfl bJ.of (bA aM C)) ?_;refine to (kZ (l := 0) rfl rfl (dY aM C) rfl rfl rfl Tryz.sizeOf3 rfl (aD rfl) (Nat.le_of_ble_eq_true rfl) (rows' := ((g.set c.toNat A)).map aM) (rW _ _ _ _ rfl)) ?_;refine aB (aA (tm (.i c) (to (sar rfl rfl rfl) (ta (.i (w64 (c + 1))) ?_))));refine cQ ?_;refine aA (tm (.i b) (to (sar rfl rfl rfl) (ta (.i (w64 (b + 1))) (aB ?_))));exact ⟨(w64 (c + 1), w64 (b + 1), (g.set c.toNat A)), h, aQ [0] rfl rfl (aI rfl (aI rfl (aI rfl (aI rfl (aN trivial)))))⟩
       ·have h := aJ t h;refine cR ?_;refine aA (tm (.i b) (to (sar rfl rfl rfl) (ta (.i (w64 (b + 1))) (aB ?_))));exact ⟨(c, w64 (b + 1), g), h, aQ [0] rfl rfl (aI rfl (aI rfl (aI rfl (aI rfl (aN trivial)))))⟩
     ·have h := aJ s h;refine cB ?_;refine .inl ⟨rfl, ?_⟩;simp only [rZ] at h;refine aC (aA (tm (.d (.lit w4)) (tm (.i c) ?_)));obtain ⟨L, F, h⟩ := bind_some h;refine to (xC (m := 0) (aD rfl) rfl rfl rfl bJ.of F) ?_;obtain ⟨M, G, h⟩ := bind_some h;refine to (aPf (f := aM) (m := 0) bJ rfl rfl G (by decide)) ?_;refine aB (aC (aA (tm (.d (.lit w4)) (tm (.i c) ?_))));obtain ⟨N, H, h⟩ := bind_some h;refine to (aHi (m := 0) (q := c.toNat) (v := w4) (aD rfl) rfl rfl rfl rfl (aSy H) bJ.of) ?_;refine ta (.d (.lit (lV w4 c.toNat))) (aB ?_);have h := Option.some.inj h;subst h;exact bB ⟨rfl, _, [.arr (lV w4 c.toNat) 3 1 ((g.take c.toNat).map aM)], [], _, .one (.tmp 2 (v := .d (.lit (lV w4 c.toNat))) rfl), .refl _, .same _, (lV w4 c.toNat), rfl, rfl⟩
    ·have h := aJ p h;refine cR ?_;simp only [rY] at h;refine aA (tm (.i a) (to (sar rfl rfl rfl) (ta (.i (w64 (a + 1))) (aB ?_))));exact ⟨(w64 (a + 1), n, w4), h, aQ [0] rfl rfl (aI rfl (aI rfl (aN trivial)))⟩
  ·have h := aJ c6 h;refine cB ?_;refine .inl ⟨rfl, ?_⟩;simp only [rX] at h;refine aC (aA (tm (.d (.lit w4)) (ta (.d (.lit w4)) (aB ?_))));have h := Option.some.inj h;subst h;exact bB ⟨rfl, _, [.arr w4 3 1 (n.map aM)], [], _, .one (.tmp 2 (v := .d (.lit w4)) rfl), .refl _, .same _, w4, rfl, rfl⟩

theorem zK (a : List Int) {r : Bool} (h : oF a = some r) : Fn Tryz.prog 78 [.d (.sl 1 (a.map aM))] (.b r) := by
 unfold oF at h;refine Fn.of_tr Tryz.func78 rfl (rs := [.tmp 2]) Tryz.results78 Tryz.ntmps78 (Nat.le_of_ble_eq_true rfl) ?_;refine aC (aA (ta (.b false) (aB (aC (aA (tm (.d (.sl 1 (a.map aM))) ?_))))));obtain ⟨r1, h2, h⟩ := bind_some h;refine bE rfl (zT (aD rfl) (.func _ _ Tryz.call63) rfl rfl (tK _ h2)) ?_;rintro _ ⟨v3, rfl⟩;obtain ⟨r4, h5, h⟩ := bind_some h;refine bE rfl (fC (passed := [.arr v3 3 1 (r1.map aM)]) (aD rfl) rfl (.func _ _ Tryz.call108) rfl rfl (aEr r1 h5)) ?_;rintro _ ⟨_, _, ⟨v6, rfl, rfl⟩, rfl⟩;refine to (kA (m := 0) (aD rfl) rfl rfl bJ.of) ?_;refine tm (.d (.sl 1 (a.map aM))) (to (sle rfl bJ.of) (to (scm rfl rfl rfl) (ta (.b (decide ((r4.length : Int) = (a.length : Int)))) (aB ?_))));have h := Option.some.inj h;subst h;refine bT (bL (bO (l := [2]) ⟨rfl, trivial⟩)) ?_;exact bB ⟨rfl, _, .one _, rfl, rfl⟩

theorem aBj (c : List Int) (p : List eS) (q : eS → Option (Int × Bool)) {r : Bool} (j : Nat) (n : List AV) (s : ∀ args w, (callFunc j args).run Tryz.prog w = .ok (.enter j args) w) (t : ∀ (x0 : eS) r, q x0 = some r → Fn Tryz.prog j ([.agg (cS x0)] ++ n) (.tup [.i r.1, .b r.2])) (h : lS c p q = some r) : Fn Tryz.prog 81 [.d (.sl 1 (c.map aM)), .d (.sl 2 (p.map cS)), .fn j n] (.b r) := by
 unfold lS at h;refine Fn.of_tr Tryz.func81 rfl (rs := [.tmp 6]) Tryz.results81 Tryz.ntmps81 (Nat.le_of_ble_eq_true rfl) ?_;refine aC (aA (ta (.b false) (aB (aC (aA (to (iJ 3 1 (.inl rfl) (aD rfl)) ?_))))));refine aB (aC (aC (aA (tm (.d (.sl 2 (p.map cS))) (to (sle rfl tO.of) (tm (.i 0) (aB (bF ?_))))))));refine bY [0, 2, 12, 13] (fun (s2 : Int × (List Int) × Value) => [(7, .d (.lit s2.2.2)), (14, .i s2.1)]) (fun (s2 : Int × (List Int) × Value) => [.arr s2.2.2 3 1 (s2.2.1.map aM)]) (fun (k : Nat) (s2 : Int × (List Int) × Value) => gI c q p (p.length : Int) k s2.1 s2.2.1) (fun _ => rfl) (0, ([] : List Int), (.slice none 0 0)) h (aQ [0] rfl rfl (aI rfl (aI rfl (aN ⟨rfl, rfl, rfl, rfl, trivial⟩)))) ?_;rintro k4 ⟨o, y, w3⟩ h;simp only [gI] at h;refine aC (aA (to (scm rfl rfl rfl) (aB (aC ?_))));refine aZ rfl (fun c5 => ?_) (fun c5 => ?_)
 ·have h := aK c5 h;refine aY (aC (bF (aC (aA ?_))));obtain ⟨x6, h7, h⟩ := bind_some h;refine to (six rfl rfl tO.of (bA cS h7)) (to (qH (cS x6) rfl aNx) ?_);refine bE rfl (cM (zs := [.lit (.int .i64 0), .lit (.int .i64 0)]) (aD rfl) Tryz.zeroValue78 rfl rfl) ?_;rintro _ ⟨b8, rfl⟩;refine to (sst 1 rfl rfl Tryz.sizeOf78 (cS x6)) (aB (aC (aA (tm (.fn j n) (to (sla 1 (cS x6) rfl rfl aNx) ?_)))));obtain ⟨r9, z, h⟩ := bind_some h;refine to (fS (aD rfl) (.clo _ _ _ _ s rfl) (aAl rfl) rfl (BVs.refl _ _) (t _ _  z) rfl) ?_;refine tm (.tup [.i r9.1, .b r9.2]) (to (sex rfl rfl) (to (sex rfl rfl) (ta (.i r9.1) (ta (.b r9.2) (aB (aC (aC (aA (tm (.b r9.2) (to (sn rfl) (tm (.b (!r9.2)) ?_)))))))))));obtain ⟨u, e, h⟩ := bind_some h;refine bH 5 [0, 2, 7, 10, 12, 13, 14] 31 u ?_ ?_
  ·refine aW (!r9.2) (fun a => ?_) (fun a => ?_)
   ·have e := aK a e;refine tp a (tp a (tp a (tp a (to (spt (.b true) a) ?_))));have e := Option.some.inj e;subst e;refine aB (aO rfl ⟨rfl, rfl, rfl, rfl, rfl, rfl, rfl, trivial⟩ rfl)
   ·have e := aJ a e;refine tk a (sm (.d (.sl 1 (c.map aM)))) (tk a (sm (.i r9.1)) ?_);obtain ⟨A, B, e⟩ := bind_some e;refine tk a (scr Tryz.call60 (fE _ _ B)) (tk a (sn rfl) (to (spf (.b (!A)) a) ?_));have e := Option.some.inj e;subst e;refine aB (aO rfl ⟨rfl, rfl, rfl, rfl, rfl, rfl, rfl, trivial⟩ rfl)
  ·refine tm (.b u) ?_;obtain ⟨C, g, h⟩ := bind_some h;refine bH 4 [0, 2, 7, 10, 12, 13, 14] 36 C ?_ ?_
   ·refine aW (u) (fun m => ?_) (fun m => ?_)
    ·have g := aK m g;refine tp m (tp m (tp m (to (spt (.b true) m) ?_)));have g := Option.some.inj g;subst g;refine aB (aO rfl ⟨rfl, rfl, rfl, rfl, rfl, rfl, rfl, trivial⟩ rfl)
    ·have g := aJ m g;refine tk m (sm (.d (.lit w3))) (tk m (sm (.i r9.1)) ?_);obtain ⟨E, F, g⟩ := bind_some g;refine tk m (sc Tryz.call60 (fE _ _ F) (.cons (.d (nV 0 rfl (cP (f := aM) fun _ => rfl))) (.cons (.same _) .nil))) (to (spf (.b E) m) ?_);have g := Option.some.inj g;subst g;refine aB (aO rfl ⟨rfl, rfl, rfl, rfl, rfl, rfl, rfl, trivial⟩ rfl)
   ·refine aB ?_;refine aZ rfl (fun v => ?_) (fun v => ?_)
    ·have h := aK v h;refine aC (aA (ta (.b false) (aB ?_)));have h := Option.some.inj h;subst h;refine bT (bL (bO (l := [6]) ⟨rfl, trivial⟩)) ?_;exact bB ⟨rfl, _, .one _, rfl, rfl⟩
    ·have h := aJ v h;refine aY (aA (tm (.d (.lit w3)) (tm (.i r9.1) (to (fR (aD rfl) bJ rfl rfl (rows := ([r9.1]).map aM) rfl (cP (f := aM) fun _ => rfl) rfl (by decide)) ?_))));obtain ⟨G, H, h⟩ := bind_some h;refine bE rfl (gP (i := 0) (aD rfl) bJ rfl rfl rfl (fun _ => rfl) H rfl) ?_;rintro _ ⟨x, rfl⟩;refine ta (.d (.lit x)) ?_;refine cQ ?_;refine aA (to (sar rfl rfl rfl) (tm (.i (w64 (o + 1))) (aB ?_)));exact ⟨(w64 (o + 1), G, x), h, aQ [0] rfl rfl (aI rfl (aI rfl (aN ⟨rfl, rfl, rfl, rfl, trivial⟩)))⟩
 ·have h := aJ c5 h;refine cB ?_;refine .inl ⟨rfl, ?_⟩;simp only [uI] at h;refine aC (aA (ta (.b true) (aB ?_)));have h := Option.some.inj h;subst h;refine bT (bL (bO (l := [6]) ⟨rfl, trivial⟩)) ?_;exact bB ⟨rfl, _, .one _, rfl, rfl⟩

theorem aHb (a : eS) {r : Int × Bool} (h : lE a = some r) : Fn Tryz.prog 79 [.agg (cS a)] (.tup [.i r.1, .b r.2]) := by
 unfold lE at h;refine Fn.of_tr Tryz.func79 rfl (rs := [.tmp 2, .tmp 3]) Tryz.results79 Tryz.ntmps79 (Nat.le_of_ble_eq_true rfl) ?_;refine aC (aA ?_);refine bE rfl (dN (v := .agg (cS a)) (aD rfl) rfl rfl rfl) ?_;rintro _ ⟨b1, rfl⟩;refine ta (.i 0) (ta (.b false) (aB (aC ?_)));obtain ⟨r2, h3, h⟩ := bind_some h;refine cV mix 5 [] [(5, .i a.Person), (8, .b r2)] ?_ ?_
 ·refine ⟨[(4, 0, .bp b1 0 0), (5, 1, .i a.Person), (6, 2, .bp b1 0 1), (7, 3, .i a.Mille), (8, 4, .b r2)], ?_, ?_⟩
  · exact dok [([], []), ([0], []), ([], []), ([2], []), ([3], [])] ⟨go (zf rfl xU),
      go (zl 0 rfl rfl rfl aU),
      go (zf rfl aJh),
      go (zl 0 rfl rfl rfl aU),
      go fun S hS => fS (aD rfl) (.func _ _ Tryz.call61) (ev2 (aX hS rfl) (ev2 rfl (ev2 rfl evn))) rfl (BVs.refl _ _) (gW _ _ _ h3) rfl, trivial⟩
  · exact cK (aI rfl (aI rfl (aN trivial)))
 ·refine ta (.i a.Person) (ta (.b r2) (aB ?_));have h := Option.some.inj h;subst h;refine bT (bL (bO (l := [2, 3]) ⟨rfl, rfl, trivial⟩)) ?_;exact bB ⟨rfl, _, .two _ _, rfl, rfl⟩

theorem aBk (c : List Int) (p : List dZ) (q : dZ → Option (Int × Bool)) {r : Bool} (j : Nat) (n : List AV) (s : ∀ args w, (callFunc j args).run Tryz.prog w = .ok (.enter j args) w) (t : ∀ (x0 : dZ) r, q x0 = some r → Fn Tryz.prog j ([.agg (dB x0)] ++ n) (.tup [.i r.1, .b r.2])) (h : lT c p q = some r) : Fn Tryz.prog 82 [.d (.sl 1 (c.map aM)), .d (.sl 3 (p.map dB)), .fn j n] (.b r) := by
 unfold lT at h;refine Fn.of_tr Tryz.func82 rfl (rs := [.tmp 6]) Tryz.results82 Tryz.ntmps82 (Nat.le_of_ble_eq_true rfl) ?_;refine aC (aA (ta (.b false) (aB (aC (aA (to (iJ 3 1 (.inl rfl) (aD rfl)) ?_))))));refine aB (aC (aC (aA (tm (.d (.sl 3 (p.map dB))) (to (sle rfl xE.of) (tm (.i 0) (aB (bF ?_))))))));refine bY [0, 2, 12, 13] (fun (s2 : Int × (List Int) × Value) => [(7, .d (.lit s2.2.2)), (14, .i s2.1)]) (fun (s2 : Int × (List Int) × Value) => [.arr s2.2.2 3 1 (s2.2.1.map aM)]) (fun (k : Nat) (s2 : Int × (List Int) × Value) => gJ c q p (p.length : Int) k s2.1 s2.2.1) (fun _ => rfl) (0, ([] : List Int), (.slice none 0 0)) h (aQ [0] rfl rfl (aI rfl (aI rfl (aN ⟨rfl, rfl, rfl, rfl, trivial⟩)))) ?_;rintro k4 ⟨o, y, w3⟩ h;simp only [gJ] at h;refine aC (aA (to (scm rfl rfl rfl) (aB (aC ?_))));refine aZ rfl (fun c5 => ?_) (fun c5 => ?_)
 ·have h := aK c5 h;refine aY (aC (bF (aC (aA ?_))));obtain ⟨x6, h7, h⟩ := bind_some h;refine to (six rfl rfl xE.of (bA dB h7)) (to (qH (dB x6) rfl aJu) ?_);refine bE rfl (cM (zs := [.lit (.int .i64 0), .lit (.int .i64 0), .lit (.int .i64 0)]) (aD rfl) Tryz.zeroValue80 rfl rfl) ?_;rintro _ ⟨b8, rfl⟩;refine to (sst 1 rfl rfl Tryz.sizeOf80 (dB x6)) (aB (aC (aA (tm (.fn j n) (to (sla 1 (dB x6) rfl rfl aJu) ?_)))));obtain ⟨r9, z, h⟩ := bind_some h;refine to (fS (aD rfl) (.clo _ _ _ _ s rfl) (aAl rfl) rfl (BVs.refl _ _) (t _ _  z) rfl) ?_;refine tm (.tup [.i r9.1, .b r9.2]) (to (sex rfl rfl) (to (sex rfl rfl) (ta (.i r9.1) (ta (.b r9.2) (aB (aC (aC (aA (tm (.b r9.2) (to (sn rfl) (tm (.b (!r9.2)) ?_)))))))))));obtain ⟨u, e, h⟩ := bind_some h;refine bH 5 [0, 2, 7, 10, 12, 13, 14] 31 u ?_ ?_
  ·refine aW (!r9.2) (fun a => ?_) (fun a => ?_)
   ·have e := aK a e;refine tp a (tp a (tp a (tp a (to (spt (.b true) a) ?_))));have e := Option.some.inj e;subst e;refine aB (aO rfl ⟨rfl, rfl, rfl, rfl, rfl, rfl, rfl, trivial⟩ rfl)
   ·have e := aJ a e;refine tk a (sm (.d (.sl 1 (c.map aM)))) (tk a (sm (.i r9.1)) ?_);obtain ⟨A, B, e⟩ := bind_some e;refine tk a (scr Tryz.call60 (fE _ _ B)) (tk a (sn rfl) (to (spf (.b (!A)) a) ?_));have e := Option.some.inj e;subst e;refine aB (aO rfl ⟨rfl, rfl, rfl, rfl, rfl, rfl, rfl, trivial⟩ rfl)
  ·refine tm (.b u) ?_;obtain ⟨C, g, h⟩ := bind_some h;refine bH 4 [0, 2, 7, 10, 12, 13, 14] 36 C ?_ ?_
   ·refine aW (u) (fun m => ?_) (fun m => ?_)
    ·have g := aK m g;refine tp m (tp m (tp m (to (spt (.b true) m) ?_)));have g := Option.some.inj g;subst g;refine aB (aO rfl ⟨rfl, rfl, rfl, rfl, rfl, rfl, rfl, trivial⟩ rfl)
    ·have g := aJ m g;refine tk m (sm (.d (.lit w3))) (tk m (sm (.i r9.1)) ?_);obtain ⟨E, F, g⟩ := bind_some g;refine tk m (sc Tryz.call60 (fE _ _ F) (.cons (.d (nV 0 rfl (cP (f := aM) fun _ => rfl))) (.cons (.same _) .nil))) (to (spf (.b E) m) ?_);have g := Option.some.inj g;subst g;refine aB (aO rfl ⟨rfl, rfl, rfl, rfl, rfl, rfl, rfl, trivial⟩ rfl)
   ·refine aB ?_;refine aZ rfl (fun v => ?_) (fun v => ?_)
    ·have h := aK v h;refine aC (aA (ta (.b false) (aB ?_)));have h := Option.some.inj h;subst h;refine bT (bL (bO (l := [6]) ⟨rfl, trivial⟩)) ?_;exact bB ⟨rfl, _, .one _, rfl, rfl⟩
    ·have h := aJ v h;refine aY (aA (tm (.d (.lit w3)) (tm (.i r9.1) (to (fR (aD rfl) bJ rfl rfl (rows := ([r9.1]).map aM) rfl (cP (f := aM) fun _ => rfl) rfl (by decide)) ?_))));obtain ⟨G, H, h⟩ := bind_some h;refine bE rfl (gP (i := 0) (aD rfl) bJ rfl rfl rfl (fun _ => rfl) H rfl) ?_;rintro _ ⟨x, rfl⟩;refine ta (.d (.lit x)) ?_;refine cQ ?_;refine aA (to (sar rfl rfl rfl) (tm (.i (w64 (o + 1))) (aB ?_)));exact ⟨(w64 (o + 1), G, x), h, aQ [0] rfl rfl (aI rfl (aI rfl (aN ⟨rfl, rfl, rfl, rfl, trivial⟩)))⟩
 ·have h := aJ c5 h;refine cB ?_;refine .inl ⟨rfl, ?_⟩;simp only [uJ] at h;refine aC (aA (ta (.b true) (aB ?_)));have h := Option.some.inj h;subst h;refine bT (bL (bO (l := [6]) ⟨rfl, trivial⟩)) ?_;exact bB ⟨rfl, _, .one _, rfl, rfl⟩

theorem aHc (a : dZ) {r : Int × Bool} (h : lF a = some r) : Fn Tryz.prog 80 [.agg (dB a)] (.tup [.i r.1, .b r.2]) := by
 unfold lF at h;refine Fn.of_tr Tryz.func80 rfl (rs := [.tmp 2, .tmp 3]) Tryz.results80 Tryz.ntmps80 (Nat.le_of_ble_eq_true rfl) ?_;refine aC (aA ?_);refine bE rfl (dN (v := .agg (dB a)) (aD rfl) rfl rfl rfl) ?_;rintro _ ⟨b1, rfl⟩;refine ta (.i 0) (ta (.b false) (aB (aC ?_)));obtain ⟨r2, h3, h⟩ := bind_some h;obtain ⟨b4, h5, h⟩ := bind_some h;refine cV mix 11 [] [(2, .i a.Person), (13, .b b4)] ?_ ?_
 ·refine aW (r2) (fun c6 => ?_) (fun c6 => ?_)
  ·have h5 := aK c6 h5;obtain ⟨r7, h8, h5⟩ := bind_some h5;have h5 := Option.some.inj h5;subst h5;refine ⟨[(4, 0, .bp b1 0 0), (5, 1, .i a.Person), (6, 2, .bp b1 0 1), (7, 3, .i a.Num), (8, 4, .b r2), (9, 5, .b r2), (10, 6, .bp b1 0 2), (11, 7, .i a.Den), (12, 8, .b r7), (13, 9, .b r7), (2, 10, .i a.Person)], ?_, ?_⟩
   · exact dok [([], []), ([0], []), ([], []), ([2], []), ([3], []), ([4], []), ([5], []), ([5, 6], []), ([5, 7], []), ([5, 8], []), ([1], [])] ⟨go (zf rfl xV),
      go (zl 0 rfl rfl rfl aU),
      go (zf rfl aDu),
      go (zl 0 rfl rfl rfl aU),
      go fun S hS => fS (aD rfl) (.func _ _ Tryz.call61) (ev2 (aX hS rfl) (ev2 rfl (ev2 rfl evn))) rfl (BVs.refl _ _) (gW _ _ _ h3) rfl,
      go (zm (.b r2)),
      gt c6 (zf rfl aJi),
      gt c6 (zl 0 rfl rfl rfl aU),
      gt c6 fun S hS => fS (aD rfl) (.func _ _ Tryz.call61) (ev2 (aX hS rfl) (ev2 rfl (ev2 rfl evn))) rfl (BVs.refl _ _) (gW _ _ _ h8) rfl,
      go (zpt (.b r7) c6),
      go (za (.i a.Person)), trivial⟩
   · exact cK (aI rfl (aI rfl (aN trivial)))
  ·have h5 := aJ c6 h5;have h5 := Option.some.inj h5;subst h5;refine ⟨[(4, 0, .bp b1 0 0), (5, 1, .i a.Person), (6, 2, .bp b1 0 1), (7, 3, .i a.Num), (8, 4, .b r2), (9, 5, .b r2), (10, 6, .tup []), (11, 7, .tup []), (12, 8, .tup []), (13, 9, .b false), (2, 10, .i a.Person)], ?_, ?_⟩
   · exact dok [([], []), ([0], []), ([], []), ([2], []), ([3], []), ([4], []), ([5], []), ([5, 6], []), ([5, 7], []), ([5, 8], []), ([1], [])] ⟨go (zf rfl xV),
      go (zl 0 rfl rfl rfl aU),
      go (zf rfl aDu),
      go (zl 0 rfl rfl rfl aU),
      go fun S hS => fS (aD rfl) (.func _ _ Tryz.call61) (ev2 (aX hS rfl) (ev2 rfl (ev2 rfl evn))) rfl (BVs.refl _ _) (gW _ _ _ h3) rfl,
      go (zm (.b r2)),
      gp c6,
      gp c6,
      gp c6,
      go (zpf (.b false) c6),
      go (za (.i a.Person)), trivial⟩
   · exact cK (aI rfl (aI rfl (aN trivial)))
 ·refine ta (.b b4) (aB ?_);have h := Option.some.inj h;subst h;refine bT (bL (bO (l := [2, 3]) ⟨rfl, rfl, trivial⟩)) ?_;exact bB ⟨rfl, _, .two _ _, rfl, rfl⟩

theorem aJq (a : aR) {r : Bool} (h : rU a = some r) : Fn Tryz.prog 47 [.agg (aP a)] (.b r) := by
 unfold rU at h;refine Fn.of_tr Tryz.func47 rfl (rs := [.tmp 2]) Tryz.results47 Tryz.ntmps47 (Nat.le_of_ble_eq_true rfl) ?_;refine aC (aA ?_);refine bE rfl (dN (v := .agg (aP a)) (aD rfl) rfl rfl rfl) ?_;rintro _ ⟨b1, rfl⟩;refine ta (.b false) (aB (aC (aC (aA (to (sf rfl jA) (to (sl 0 rfl rfl rfl mS) (to (sle rfl mA.of) (to (scm rfl rfl rfl) (aB ?_)))))))));refine aZ rfl (fun c2 => ?_) (fun c2 => ?_)
 ·have h := aK c2 h;refine aC (aA (ta (.b false) (aB ?_)));have h := Option.some.inj h;subst h;refine bT (bL (bO (l := [2]) ⟨rfl, trivial⟩)) ?_;exact bB ⟨rfl, _, .one _, rfl, rfl⟩
 ·have h := aJ c2 h;refine aY (aC (aA (to (iJ 3 1 (.inl rfl) (aD rfl)) ?_)));refine aB (aC (aC (aA (to (sf rfl jA) (to (sl 0 rfl rfl rfl mS) (to (sle rfl mA.of) (tm (.i 0) (aB (bF ?_)))))))));refine bY [1, 18, 19] (fun (s4 : Int × (List Int) × Value) => [(3, .d (.lit s4.2.2)), (20, .i s4.1)]) (fun (s4 : Int × (List Int) × Value) => [.box b1 0 (aP a), .arr s4.2.2 3 1 (s4.2.1.map aM)]) (fun (k : Nat) (s4 : Int × (List Int) × Value) => kF a.Teams (a.Teams.length : Int) a k s4.1 s4.2.1) (fun _ => rfl) (0, ([] : List Int), (.slice none 0 0)) h (aQ [0, 1] rfl rfl (aI rfl (aI rfl (aN ⟨rfl, rfl, rfl, trivial⟩)))) ?_;rintro k6 ⟨z, w, w5⟩ h;simp only [kF] at h;refine aC (aA (to (scm rfl rfl rfl) (aB (aC ?_))));refine aZ rfl (fun c7 => ?_) (fun c7 => ?_)
  ·have h := aK c7 h;refine aY (aC (bF (aC (aA ?_))));obtain ⟨x8, h9, h⟩ := bind_some h;refine to (six rfl rfl mA.of (bA bM h9)) (to (qH (bM x8) rfl tR) ?_);refine bE rfl (cM (zs := [.lit (.int .i64 0), .lit (.int .i64 0), .lit (.int .i64 0)]) (aD rfl) Tryz.zeroValue46 rfl rfl) ?_;rintro _ ⟨c0, rfl⟩;refine to (sst 2 rfl rfl Tryz.sizeOf46 (bM x8)) (aB (aC (aC (aA (to (sf rfl uB) (to (sl 2 rfl rfl rfl aU) ?_))))));obtain ⟨O, U, h⟩ := bind_some h;refine to (scr Tryz.call61 (gW _ _ _ U)) (to (sn rfl) (tm (.b (!O)) ?_));obtain ⟨H, o, h⟩ := bind_some h;refine bH 5 [1, 3, 5, 18, 19, 20] 33 H ?_ ?_
   ·refine aW (!O) (fun j => ?_) (fun j => ?_)
    ·have o := aK j o;refine tp j (tp j (tp j (tp j (to (spt (.b true) j) ?_))));have o := Option.some.inj o;subst o;refine aB (aO rfl ⟨rfl, rfl, rfl, rfl, rfl, rfl, trivial⟩ rfl)
    ·have o := aJ j o;refine tk j (sf rfl pW) (tk j (sl 2 rfl rfl rfl aU) ?_);obtain ⟨V, W, o⟩ := bind_some o;refine tk j (scr Tryz.call61 (gW _ _ _ W)) (tk j (sn rfl) (to (spf (.b (!V)) j) ?_));have o := Option.some.inj o;subst o;refine aB (aO rfl ⟨rfl, rfl, rfl, rfl, rfl, rfl, trivial⟩ rfl)
   ·refine tm (.b H) ?_;obtain ⟨X, p, h⟩ := bind_some h;refine bH 5 [1, 3, 5, 18, 19, 20] 39 X ?_ ?_
    ·refine aW (H) (fun m => ?_) (fun m => ?_)
     ·have p := aK m p;refine tp m (tp m (tp m (tp m (to (spt (.b true) m) ?_))));have p := Option.some.inj p;subst p;refine aB (aO rfl ⟨rfl, rfl, rfl, rfl, rfl, rfl, trivial⟩ rfl)
     ·have p := aJ m p;refine tk m (sf rfl kE) (tk m (sl 2 rfl rfl rfl aU) ?_);obtain ⟨Y, Z, p⟩ := bind_some p;refine tk m (scr Tryz.call61 (gW _ _ _ Z)) (tk m (sn rfl) (to (spf (.b (!Y)) m) ?_));have p := Option.some.inj p;subst p;refine aB (aO rfl ⟨rfl, rfl, rfl, rfl, rfl, rfl, trivial⟩ rfl)
    ·refine aB ?_;refine aZ rfl (fun I => ?_) (fun I => ?_)
     ·have h := aK I h;refine aC (aA (ta (.b false) (aB ?_)));have h := Option.some.inj h;subst h;refine bT (bL (bO (l := [2]) ⟨rfl, trivial⟩)) ?_;exact bB ⟨rfl, _, .one _, rfl, rfl⟩
     ·have h := aJ I h;refine aY (aA (tm (.d (.lit w5)) (to (sf rfl uB) (to (sl 2 rfl rfl rfl aU) (to (fR (aD rfl) bJ rfl rfl (rows := ([x8.Player]).map aM) rfl (cP (f := aM) fun _ => rfl) rfl (by decide)) ?_)))));obtain ⟨a0, a1, h⟩ := bind_some h;refine bE rfl (gP (i := 1) (aD rfl) bJ rfl rfl rfl (fun _ => rfl) a1 rfl) ?_;rintro _ ⟨P, rfl⟩;refine ta (.d (.lit P)) ?_;refine cQ ?_;refine aA (to (sar rfl rfl rfl) (tm (.i (w64 (z + 1))) (aB ?_)));exact ⟨(w64 (z + 1), a0, P), h, aQ [0, 1] rfl rfl (aI rfl (aI rfl (aN ⟨rfl, rfl, rfl, trivial⟩)))⟩
  ·have h := aJ c7 h;refine cB ?_;refine .inl ⟨rfl, ?_⟩;simp only [oQ] at h;refine aC (aA (tm (.d (.lit w5)) ?_));obtain ⟨C, a2, h⟩ := bind_some h;refine sC (aQ [1, 0] rfl rfl (le_refl _)) ?_;refine bE rfl (fC (passed := [.arr w5 3 1 (w.map aM)]) (aD rfl) rfl (.func _ _ Tryz.call77) rfl rfl (zL w a2)) ?_;rintro _ ⟨_, _, ⟨rfl, rfl⟩, rfl⟩;refine aB (aC (aA (to (sla 1 (aP a) rfl rfl eI) ?_)));obtain ⟨A, a3, h⟩ := bind_some h;refine to (fB (aD rfl) (.func _ _ Tryz.call55) rfl rfl (wY _ a3)) ?_;refine ta (.d (.sl 1 (A.map aM))) (aB (aC (aC (aA (tm (.d (.lit w5)) ?_)))));obtain ⟨Q, a4, h⟩ := bind_some h;refine to (sc Tryz.call78 (zK _ a4) (.cons (.d (nV 0 rfl (cP (f := aM) fun _ => rfl))) .nil)) (to (sn rfl) (tm (.b (!Q)) ?_));obtain ⟨a5, q, h⟩ := bind_some h;refine bH 4 [1, 3, 6] 57 a5 ?_ ?_
   ·refine aW (!Q) (fun u => ?_) (fun u => ?_)
    ·have q := aK u q;refine tp u (tp u (tp u (to (spt (.b true) u) ?_)));have q := Option.some.inj q;subst q;refine aB (aO rfl ⟨rfl, rfl, rfl, trivial⟩ rfl)
    ·have q := aJ u q;refine tk u (sm (.d (.sl 1 (A.map aM)))) ?_;obtain ⟨a6, a7, q⟩ := bind_some q;refine tk u (scr Tryz.call78 (zK _ a7)) (tk u (sn rfl) (to (spf (.b (!a6)) u) ?_));have q := Option.some.inj q;subst q;refine aB (aO rfl ⟨rfl, rfl, rfl, trivial⟩ rfl)
   ·refine aB ?_;refine aZ rfl (fun J => ?_) (fun J => ?_)
    ·have h := aK J h;refine aC (aA (ta (.b false) (aB ?_)));have h := Option.some.inj h;subst h;refine bT (bL (bO (l := [2]) ⟨rfl, trivial⟩)) ?_;exact bB ⟨rfl, _, .one _, rfl, rfl⟩
    ·have h := aJ J h;refine aY (aC (aC (aA (to (sf rfl gH) (to (sf rfl dM) (to (sl 1 rfl rfl rfl cI) (to (sle rfl bJ.of) (tm (.i 0) (aB (bF ?_))))))))));refine bY [1, 3, 6, 60, 61] (fun (E : Int) => [(62, .i E)]) (fun (E : Int) => [.box b1 0 (aP a), .arr w5 3 1 (C.map aM)]) (fun (k : Nat) (E : Int) => jF A a.Tree.Slots (a.Tree.Slots.length : Int) a C k E) (fun _ => rfl) (0) h (aQ [1, 0] rfl rfl (aI rfl (aN ⟨rfl, rfl, rfl, rfl, rfl, trivial⟩))) ?_;rintro c1 x h;simp only [jF] at h;refine aC (aA (to (scm rfl rfl rfl) (aB (aC ?_))));refine aZ rfl (fun K => ?_) (fun K => ?_)
     ·have h := aK K h;refine aY (aC (bF (aC (aA ?_))));obtain ⟨B, a8, h⟩ := bind_some h;refine to (six rfl rfl bJ.of (bA aM a8)) (to (slc rfl aU) (ta (.i B) (aB (aC (aA (tm (.i B) (to (scm rfl rfl rfl) (tm (.b (!decide (B = (-1)))) ?_))))))));obtain ⟨a9, s, h⟩ := bind_some h;refine bH 5 [1, 3, 6, 60, 61, 62] 73 a9 ?_ ?_
      ·refine aW (!decide (B = (-1))) (fun n => ?_) (fun n => ?_)
       ·have s := aK n s;refine tk n (sm (.d (.lit w5))) (tk n (sm (.i B)) ?_);obtain ⟨b0, b2, s⟩ := bind_some s;refine tk n (sc Tryz.call60 (fE _ _ b2) (.cons (.d (nV 1 rfl (cP (f := aM) fun _ => rfl))) (.cons (.same _) .nil))) (tk n (sn rfl) (to (spt (.b (!b0)) n) ?_));have s := Option.some.inj s;subst s;refine aB (aO rfl ⟨rfl, rfl, rfl, rfl, rfl, rfl, trivial⟩ rfl)
       ·have s := aJ n s;refine tp n (tp n (tp n (tp n (to (spf (.b false) n) ?_))));have s := Option.some.inj s;subst s;refine aB (aO rfl ⟨rfl, rfl, rfl, rfl, rfl, rfl, trivial⟩ rfl)
      ·refine aB ?_;refine aZ rfl (fun L => ?_) (fun L => ?_)
       ·have h := aK L h;refine aC (aA (ta (.b false) (aB ?_)));have h := Option.some.inj h;subst h;refine bT (bL (bO (l := [2]) ⟨rfl, trivial⟩)) ?_;exact bB ⟨rfl, _, .one _, rfl, rfl⟩
       ·have h := aJ L h;refine cR ?_;refine aA (to (sar rfl rfl rfl) (tm (.i (w64 (x + 1))) (aB ?_)));exact ⟨(w64 (x + 1)), h, aQ [0, 1] rfl rfl (aI rfl (aN ⟨rfl, rfl, rfl, rfl, rfl, trivial⟩))⟩
     ·have h := aJ K h;refine cB ?_;refine .inl ⟨rfl, ?_⟩;simp only [oR] at h;refine aC (aC (aA (to (sf rfl oG) (to (sl 0 rfl rfl rfl uG) (to (sle rfl hC.of) (tm (.i 0) (aB (bF ?_))))))));refine bY [1, 3, 6, 76, 77] (fun (F : Int) => [(78, .i F)]) (fun (F : Int) => [.box b1 0 (aP a), .arr w5 3 1 (C.map aM)]) (fun (k : Nat) (F : Int) => kG A a.Slips (a.Slips.length : Int) a C k F) (fun _ => rfl) (0) h (aQ [0, 1] rfl rfl (aI rfl (aN ⟨rfl, rfl, rfl, rfl, rfl, trivial⟩))) ?_;rintro c3 y h;simp only [kG] at h;refine aC (aA (to (scm rfl rfl rfl) (aB (aC ?_))));refine aZ rfl (fun M => ?_) (fun M => ?_)
      ·have h := aK M h;refine aY (aC (bF (aC (aA ?_))));obtain ⟨G, b3, h⟩ := bind_some h;refine to (six rfl rfl hC.of (bA aL b3)) (to (qH (aL G) rfl lX) ?_);refine bE rfl (cM (zs := [.lit (.int .i64 0), .lit (.int .i64 0), .lit (.int .i64 0), .lit (.int .i64 0), .lit (.int .i64 0)]) (aD rfl) Tryz.zeroValue67 rfl rfl) ?_;rintro _ ⟨c4, rfl⟩;refine to (sst 2 rfl rfl Tryz.sizeOf67 (aL G)) (aB (aC (aA (to (sf rfl oH) (to (sl 2 rfl rfl rfl aU) (to (scm rfl rfl rfl) (tm (.b (decide (G.Kind = 5))) ?_)))))));obtain ⟨b4, t, h⟩ := bind_some h;refine bH 6 [1, 3, 6, 76, 77, 78] 91 b4 ?_ ?_
       ·refine aW (decide (G.Kind = 5)) (fun c => ?_) (fun c => ?_)
        ·have t := aK c t;refine tk c (sm (.d (.lit w5))) (tk c (sf rfl oI) (tk c (sl 2 rfl rfl rfl aU) ?_));obtain ⟨b5, b6, t⟩ := bind_some t;refine tk c (sc Tryz.call60 (fE _ _ b6) (.cons (.d (nV 1 rfl (cP (f := aM) fun _ => rfl))) (.cons (.same _) .nil))) (tk c (sn rfl) (to (spt (.b (!b5)) c) ?_));have t := Option.some.inj t;subst t;refine aB (aO rfl ⟨rfl, rfl, rfl, rfl, rfl, rfl, trivial⟩ rfl)
        ·have t := aJ c t;refine tp c (tp c (tp c (tp c (tp c (to (spf (.b false) c) ?_)))));have t := Option.some.inj t;subst t;refine aB (aO rfl ⟨rfl, rfl, rfl, rfl, rfl, rfl, trivial⟩ rfl)
       ·refine aB ?_;refine aZ rfl (fun N => ?_) (fun N => ?_)
        ·have h := aK N h;refine aC (aA (ta (.b false) (aB ?_)));have h := Option.some.inj h;subst h;refine bT (bL (bO (l := [2]) ⟨rfl, trivial⟩)) ?_;exact bB ⟨rfl, _, .one _, rfl, rfl⟩
        ·have h := aJ N h;refine cR ?_;refine aA (to (sar rfl rfl rfl) (tm (.i (w64 (y + 1))) (aB ?_)));exact ⟨(w64 (y + 1)), h, aQ [0, 1] rfl rfl (aI rfl (aN ⟨rfl, rfl, rfl, rfl, rfl, trivial⟩))⟩
      ·have h := aJ M h;refine cB ?_;refine .inl ⟨rfl, ?_⟩;simp only [oS] at h;refine aC (aA (ta (.fn 79 []) (aB (aC (aA (ta (.fn 80 []) (aB (aC (aA (tm (.d (.sl 1 (A.map aM))) (to (sf rfl pT) (to (sl 0 rfl rfl rfl vE) (tm (.fn 79 []) ?_)))))))))))));obtain ⟨S, b7, h⟩ := bind_some h;refine to (scr Tryz.call81 (aBj _ _ _ 79 [] Tryz.call79 (fun _ _ h => aHb _ h) b7)) (tm (.b S) ?_);obtain ⟨T, g, h⟩ := bind_some h;refine bH 6 [] 104 T ?_ ?_
       ·refine aW (S) (fun e => ?_) (fun e => ?_)
        ·have g := aK e g;refine tk e (sm (.d (.sl 1 (A.map aM)))) (tk e (sf rfl uA) (tk e (sl 0 rfl rfl rfl aBa) (tk e (sm (.fn 80 [])) ?_)));obtain ⟨b8, b9, g⟩ := bind_some g;refine tk e (scr Tryz.call82 (aBk _ _ _ 80 [] Tryz.call80 (fun _ _ g => aHc _ g) b9)) (to (spt (.b b8) e) ?_);have g := Option.some.inj g;subst g;refine aB (aO rfl trivial rfl)
        ·have g := aJ e g;refine tp e (tp e (tp e (tp e (tp e (to (spf (.b false) e) ?_)))));have g := Option.some.inj g;subst g;refine aB (aO rfl trivial rfl)
       ·refine ta (.b T) (aB ?_);have h := Option.some.inj h;subst h;refine bT (bL (bO (l := [2]) ⟨rfl, trivial⟩)) ?_;exact bB ⟨rfl, _, .one _, rfl, rfl⟩

theorem aBf (a : List aG) {r : (List aG)} (h : lU a = some r) : fU Tryz.prog 93 [.d (.sl 4 (a.map aE))] [] (fun r' o' => ∃ (w0 : Value), r' = .d (.lit w0) ∧ o' = [.arr w0 76 4 (r.map aE)]) := by
 unfold lU at h;refine jZ Tryz.func93 rfl (rs := [.tmp 2]) Tryz.results93 Tryz.ntmps93 (Nat.le_of_ble_eq_true rfl) ?_;refine aC (aA (to (iJ 76 4 (.inl rfl) (aD rfl)) ?_));refine aB (aC (aC (aA (tm (.d (.sl 4 (a.map aE))) ?_))));refine bE rfl (aLg (aD rfl) rfl rfl Tryz.underlying29) ?_;rintro _ ⟨b2, h3, rfl⟩;refine aB ?_;refine aZ rfl (fun c4 => ?_) (fun c4 => ?_)
 ·obtain rfl := aKr (h3 c4)
  simp [app] at h
  subst h;refine aC (aA (to (iJ 76 4 (.inl rfl) (aD rfl)) ?_));refine aB ?_;refine bT (aQ [1, 0] rfl rfl (le_refl _)) ?_;exact bB ⟨rfl, _, [.arr (.slice none 0 0) 76 4 (([] : List aG).map aE)], [.arr (.slice none 0 0) 76 4 (([] : List aG).map aE)], _, .one (.tmp 2 (v := .d (.lit (.slice none 0 0))) rfl), .refl _, .same _, (.slice none 0 0), rfl, rfl⟩
 ·refine aY (aC (aA ?_));refine bE rfl (aHg (aD rfl) dC rfl rfl (rows := (([] : List aG)).map aE) rfl (cP (f := aE) fun _ => rfl) rfl (by decide)) ?_;rintro _ ⟨v5, rfl⟩;refine tm (.d (.sl 4 (a.map aE))) ?_;obtain ⟨x6, h7, h⟩ := bind_some h;refine bE rfl (gP (i := 1) (aD rfl) dC rfl rfl rfl (fun _ => rfl) h7 rfl) ?_;rintro _ ⟨v8, rfl⟩;refine ta (.d (.lit v8)) (aB ?_);have h := Option.some.inj h;subst h;refine bT (aQ [1, 0] rfl rfl (le_refl _)) ?_;exact bB ⟨rfl, _, [.arr v8 76 4 (x6.map aE)], [.arr (.slice none 0 0) 76 4 (([] : List aG).map aE)], _, .one (.tmp 2 (v := .d (.lit v8)) rfl), .refl _, .same _, v8, rfl, rfl⟩

theorem mV (s : List aG) (g : Int) (x : Int) (q : aG → aG → Option Int) {r : (List aG)} {a : Value} (j : Nat) (o : List AV) (A : ∀ args w, (callFunc j args).run Tryz.prog w = .ok (.enter j args) w) (B : ∀ (x0 : aG) (x1 : aG) r, q x0 x1 = some r → Fn Tryz.prog j ([.agg (aE x0), .agg (aE x1)] ++ o) (.i r)) (h : dQ s g x q = some r) : fU Tryz.prog 132 [.d (.lit a), .i g, .i x, .fn j o] [.arr a 76 4 (s.map aE)] (fun r' o' => r' = .tup [] ∧ o' = [.arr a 76 4 (r.map aE)]) := by
 unfold dQ at h;refine tC Tryz.func132 rfl (rs := []) Tryz.results132 Tryz.ntmps132 (Nat.le_of_ble_eq_true rfl) ?_;refine aC (aA (tm (.i g) (to (sar rfl rfl rfl) (ta (.i (w64 (g + 1))) (aB (bF ?_))))));refine bY [1, 2, 3] (fun (s1 : Int × (List aG)) => [(0, .d (.lit a)), (8, .i s1.1)]) (fun (s1 : Int × (List aG)) => [.arr a 76 4 (s1.2.map aE)]) (fun (k : Nat) (s1 : Int × (List aG)) => cN g x q k s1.1 s1.2) (fun _ => rfl) (w64 (g + 1), s) h (aQ [0] rfl rfl (aI rfl (aI rfl (aN ⟨rfl, rfl, rfl, trivial⟩)))) ?_;rintro k2 ⟨n, t⟩ h;simp only [cN] at h;refine aC (aC (aA (tm (.i n) (tm (.i x) (to (scm rfl rfl rfl) (aB ?_))))));refine aZ rfl (fun c3 => ?_) (fun c3 => ?_)
 ·have h := aK c3 h;refine aY (aC (bF (aC (aA (tm (.i n) (ta (.i n) (aB ?_)))))));refine uZ ?_;refine bY [1, 2, 3, 8] (fun (s4 : Int × (List aG)) => [(0, .d (.lit a)), (9, .i s4.1)]) (fun (s4 : Int × (List aG)) => [.arr a 76 4 (s4.2.map aE)]) (fun (k : Nat) (s4 : Int × (List aG)) => cZ (cN g x q k2) g x q n k s4.1 s4.2) (fun _ => rfl) (n, t) h (aQ [0] rfl rfl (aI rfl (aI rfl (aN ⟨rfl, rfl, rfl, rfl, trivial⟩)))) ?_;rintro k5 ⟨c, f⟩ h;simp only [cZ] at h;refine aC (aC ?_);obtain ⟨b6, h7, h⟩ := bind_some h;refine cV mix 17 [0, 1, 2, 3, 8, 9] [(34, .b b6)] ?_ ?_
  ·refine aW (decide (g < c)) (fun c8 => ?_) (fun c8 => ?_)
   ·have h7 := aK c8 h7;obtain ⟨x9, E, h7⟩ := bind_some h7;obtain ⟨F, G, h7⟩ := bind_some h7;obtain ⟨z, L, h7⟩ := bind_some h7;have h7 := Option.some.inj h7;subst h7;refine ⟨[(18, 0, .i c), (19, 1, .i g), (20, 2, .b (decide (g < c))), (21, 3, .b (decide (g < c))), (22, 4, .fn j o), (23, 5, .d (.lit a)), (24, 6, .i c), (25, 7, .ep a 4 c.toNat 0), (26, 8, .agg (aE x9)), (27, 9, .d (.lit a)), (28, 10, .i c), (29, 11, .i (w64 (c - 1))), (30, 12, .ep a 4 (w64 (c - 1)).toNat 0), (31, 13, .agg (aE F)), (32, 14, .i z), (33, 15, .b (decide (z < 0))), (34, 16, .b (decide (z < 0)))], ?_, ?_⟩
    · exact dok [([], []), ([], []), ([0, 1], []), ([2], []), ([3], []), ([3], []), ([3], []), ([3, 5, 6], []), ([3, 7], []), ([3], []), ([3], []), ([3, 10], []), ([3, 9, 11], []), ([3, 12], []), ([3, 4, 8, 13], []), ([3, 14], []), ([3, 15], [])] ⟨go (zm (.i c)),
      go (zm (.i g)),
      go (zcm rfl rfl rfl),
      go (zm (.b (decide (g < c)))),
      gt c8 (zm (.fn j o)),
      gt c8 (zm (.d (.lit a))),
      gt c8 (zm (.i c)),
      gt c8 (zia 0 rfl rfl rfl dC.of (bA aE E)),
      gt c8 fun S hS => eG (aD rfl) (aX hS rfl) (l := 0) rfl (dY aE E) gS (es := (aE x9)) rfl rfl,
      gt c8 (zm (.d (.lit a))),
      gt c8 (zm (.i c)),
      gt c8 (zar rfl rfl rfl),
      gt c8 (zia 0 rfl rfl rfl dC.of (bA aE G)),
      gt c8 fun S hS => eG (aD rfl) (aX hS rfl) (l := 0) rfl (dY aE G) gS (es := (aE F)) rfl rfl,
      gt c8 fun S hS => fS (aD rfl) (.clo _ _ _ _ A (aKw hS rfl)) (aAl (ev2 (aX hS rfl) (ev2 (aX hS rfl) evn))) rfl (BVs.refl _ _) (B _ _ _  L) rfl,
      gt c8 (zcm rfl rfl rfl),
      go (zpt (.b (decide (z < 0))) c8), trivial⟩
    · exact cK (aI rfl (aN ⟨rfl, rfl, rfl, rfl, rfl, rfl, trivial⟩))
   ·have h7 := aJ c8 h7;have h7 := Option.some.inj h7;subst h7;refine ⟨[(18, 0, .i c), (19, 1, .i g), (20, 2, .b (decide (g < c))), (21, 3, .b (decide (g < c))), (22, 4, .tup []), (23, 5, .tup []), (24, 6, .tup []), (25, 7, .tup []), (26, 8, .tup []), (27, 9, .tup []), (28, 10, .tup []), (29, 11, .tup []), (30, 12, .tup []), (31, 13, .tup []), (32, 14, .tup []), (33, 15, .tup []), (34, 16, .b false)], ?_, ?_⟩
    · exact dok [([], []), ([], []), ([0, 1], []), ([2], []), ([3], []), ([3], []), ([3], []), ([3, 5, 6], []), ([3, 7], []), ([3], []), ([3], []), ([3, 10], []), ([3, 9, 11], []), ([3, 12], []), ([3, 4, 8, 13], []), ([3, 14], []), ([3, 15], [])] ⟨go (zm (.i c)),
      go (zm (.i g)),
      go (zcm rfl rfl rfl),
      go (zm (.b (decide (g < c)))),
      gp c8,
      gp c8,
      gp c8,
      gp c8,
      gp c8,
      gp c8,
      gp c8,
      gp c8,
      gp c8,
      gp c8,
      gp c8,
      gp c8,
      go (zpf (.b false) c8), trivial⟩
    · exact cK (aI rfl (aN ⟨rfl, rfl, rfl, rfl, rfl, rfl, trivial⟩))
  ·refine aB ?_;refine aZ rfl (fun C => ?_) (fun C => ?_)
   ·have h := aK C h;refine aY (aC (bF ?_));obtain ⟨u, H, h⟩ := bind_some h;obtain ⟨y, I, h⟩ := bind_some h;obtain ⟨M, J, h⟩ := bind_some h;refine uO mix 16 [0, 1, 2, 3, 8, 9] (fun e => [(39, .d (.lit a)), (41, .i (w64 (c - 1))), (50, .agg (aE y))]) (fun e => [.arr a 76 4 ((f.set c.toNat u).map aE)]) ?_ ?_
    ·refine ⟨0, fun e => [(37, 0, .d (.lit a)), (38, 1, .i c), (39, 2, .d (.lit a)), (40, 3, .i c), (41, 4, .i (w64 (c - 1))), (42, 5, .d (.lit a)), (43, 6, .i c), (44, 7, .i (w64 (c - 1))), (45, 8, .ep a 4 (w64 (c - 1)).toNat 0), (46, 9, .agg (aE u)), (47, 10, .d (.lit a)), (48, 11, .i c), (49, 12, .ep a 4 c.toNat 0), (50, 13, .agg (aE y)), (51, 14, .ep a 4 c.toNat 0)], fun e => [([(15, .arr a 76 4 ((f.set c.toNat u).map aE))], .arr a 76 4 (f.map aE))], ?_, ?_⟩
     · exact ⟨by kernel_rfl, by kernel_rfl, by kernel_rfl, fun _ => by kernel_rfl, fun _ => by kernel_rfl, fun _ => by kernel_rfl, fun _ => rfl, [([], [15]), ([], [15]), ([], []), ([], []), ([3], []), ([], [15]), ([], [15]), ([6], [15]), ([5, 7], [15]), ([8], [15]), ([], [15]), ([], [15]), ([10, 11], [15]), ([12], [15]), ([0, 1], [15]), ([9, 14], [])], by kernel_rfl, ⟨fun e S hw hi hS => cE (X := e) rfl (hw e) rfl (cT rfl (eJ (v := .d (.lit a)) (aD rfl) (aX hS rfl) rfl)),
      fun e S hw hi hS => cE (X := e) rfl (hw e) rfl (cT rfl (eJ (v := .i c) (aD rfl) (aX hS rfl) rfl)),
      fun e S hw hi hS => cE (X := e) rfl (hw e) rfl (cT rfl (eJ (v := .d (.lit a)) (aD rfl) (aX hS rfl) rfl)),
      fun e S hw hi hS => cE (X := e) rfl (hw e) rfl (cT rfl (eJ (v := .i c) (aD rfl) (aX hS rfl) rfl)),
      fun e S hw hi hS => cE (X := e) rfl (hw e) rfl (cT rfl (pM (aD rfl) (aX hS rfl) rfl rfl)),
      fun e S hw hi hS => cE (X := e) rfl (hw e) rfl (cT rfl (eJ (v := .d (.lit a)) (aD rfl) (aX hS rfl) rfl)),
      fun e S hw hi hS => cE (X := e) rfl (hw e) rfl (cT rfl (eJ (v := .i c) (aD rfl) (aX hS rfl) rfl)),
      fun e S hw hi hS => cE (X := e) rfl (hw e) rfl (cT rfl (pM (aD rfl) (aX hS rfl) rfl rfl)),
      fun e S hw hi hS => cE (X := e) rfl (hw e) rfl (cT rfl (dL (m := 0) (aD rfl) (aX hS rfl) (og hS rfl rfl) (aX hS rfl) dC.of (bA aE H))),
      fun e S hw hi hS => cE (X := e) rfl (hw e) rfl (cT rfl (eG (aD rfl) (aX hS rfl) (l := 0) (og hS rfl rfl) (dY aE H) gS (es := (aE u)) rfl rfl)),
      fun e S hw hi hS => cE (X := e) rfl (hw e) rfl (cT rfl (eJ (v := .d (.lit a)) (aD rfl) (aX hS rfl) rfl)),
      fun e S hw hi hS => cE (X := e) rfl (hw e) rfl (cT rfl (eJ (v := .i c) (aD rfl) (aX hS rfl) rfl)),
      fun e S hw hi hS => cE (X := e) rfl (hw e) rfl (cT rfl (dL (m := 0) (aD rfl) (aX hS rfl) (og hS rfl rfl) (aX hS rfl) dC.of (bA aE I))),
      fun e S hw hi hS => cE (X := e) rfl (hw e) rfl (cT rfl (eG (aD rfl) (aX hS rfl) (l := 0) (og hS rfl rfl) (dY aE I) gS (es := (aE y)) rfl rfl)),
      fun e S hw hi hS => cE (X := e) rfl (hw e) rfl (cT rfl (dL (m := 0) (aD rfl) (aX hS rfl) (og hS rfl rfl) (aX hS rfl) dC.of (bA aE J))),
      fun e S hw hi hS => aDg (X := e) hS rfl rfl rfl (p := 0) rfl rfl (cT rfl (kZ (l := 0) (aX hS rfl) (og hS rfl rfl) (dY aE J) (aX hS rfl) rfl rfl Tryz.sizeOf76 rfl (aD rfl) (Nat.le_of_ble_eq_true rfl) (rows' := ((f.set c.toNat u)).map aE) (rW _ _ _ _ rfl))), trivial⟩⟩
     · exact fun e => cK (aI rfl (aI rfl (aI rfl (aN ⟨rfl, rfl, rfl, rfl, rfl, rfl, trivial⟩))))
    ·intro e;obtain ⟨N, K, h⟩ := bind_some h;refine to (dL (m := 0) (aD rfl) rfl rfl rfl dC.of (bA aE K)) ?_;refine to (kZ (l := 0) rfl rfl (dY aE K) rfl rfl rfl Tryz.sizeOf76 rfl (aD rfl) (Nat.le_of_ble_eq_true rfl) (rows' := (((f.set c.toNat u).set (w64 (c - 1)).toNat y)).map aE) (rW _ _ _ _ rfl)) ?_;refine cQ ?_;refine aA (tm (.i c) (to (sar rfl rfl rfl) (ta (.i (w64 (c - 1))) (aB ?_))));exact ⟨(w64 (c - 1), ((f.set c.toNat u).set (w64 (c - 1)).toNat y)), h, aQ [0] rfl rfl (aI rfl (aI rfl (aN ⟨rfl, rfl, rfl, rfl, trivial⟩)))⟩
   ·have h := aJ C h;refine cB ?_;refine .inl ⟨rfl, ?_⟩;simp only [gF] at h;simp only [gE] at h;refine aA (tm (.i n) (to (sar rfl rfl rfl) (ta (.i (w64 (n + 1))) (aB ?_))));exact ⟨(w64 (n + 1), f), h, aQ [0] rfl rfl (aI rfl (aI rfl (aN ⟨rfl, rfl, rfl, trivial⟩)))⟩
 ·have h := aJ c3 h;refine cB ?_;refine .inl ⟨rfl, ?_⟩;simp only [gD] at h;have h := Option.some.inj h;subst h;exact ⟨_, [.arr a 76 4 (t.map aE)], [], _, .none, .refl _, .same _, rfl, rfl⟩

theorem kH (j : List aG) (e : Int) (f : Int) (o : Int) (q : aG → aG → Option Int) {r : (List aG)} {a : Value} (g : Nat) (n : List AV) (u : ∀ args w, (callFunc g args).run Tryz.prog w = .ok (.enter g args) w) (x : ∀ (x0 : aG) (x1 : aG) r, q x0 x1 = some r → Fn Tryz.prog g ([.agg (aE x0), .agg (aE x1)] ++ n) (.i r)) (h : eM j e f o q = some r) : fU Tryz.prog 142 [.d (.lit a), .i e, .i f, .i o, .fn g n] [.arr a 76 4 (j.map aE)] (fun r' o' => r' = .tup [] ∧ o' = [.arr a 76 4 (r.map aE)]) := by
 unfold eM at h;refine tC Tryz.func142 rfl (rs := []) Tryz.results142 Tryz.ntmps142 (Nat.le_of_ble_eq_true rfl) ?_;refine aC (aA (ta (.i 0) (aB (bF ?_))));refine bY [1, 2, 3] (fun (s1 : Int × (List aG)) => [(0, .d (.lit a)), (10, .i s1.1)]) (fun (s1 : Int × (List aG)) => [.arr a 76 4 (s1.2.map aE)]) (fun (k : Nat) (s1 : Int × (List aG)) => eB e f o k s1.1 s1.2) (fun _ => rfl) (0, j) h (aQ [0] rfl rfl (aI rfl (aI rfl (aN ⟨rfl, rfl, rfl, trivial⟩)))) ?_;rintro k2 ⟨b, c⟩ h;simp only [eB] at h;refine aC (aC (aA (tm (.i b) (tm (.i o) (to (scm rfl rfl rfl) (aB ?_))))));refine aZ rfl (fun c3 => ?_) (fun c3 => ?_)
 ·have h := aK c3 h;refine aY (aC (bF ?_));obtain ⟨x5, h6, h⟩ := bind_some h;obtain ⟨x7, h8, h⟩ := bind_some h;obtain ⟨x9, s, h⟩ := bind_some h;refine uO mix 22 [0, 1, 2, 3, 10] (fun X4 => [(20, .d (.lit a)), (23, .i (w64 (f + b))), (35, .agg (aE x7))]) (fun X4 => [.arr a 76 4 ((c.set (w64 (e + b)).toNat x5).map aE)]) ?_ ?_
  ·refine ⟨0, fun X4 => [(16, 0, .d (.lit a)), (17, 1, .i e), (18, 2, .i b), (19, 3, .i (w64 (e + b))), (20, 4, .d (.lit a)), (21, 5, .i f), (22, 6, .i b), (23, 7, .i (w64 (f + b))), (24, 8, .d (.lit a)), (25, 9, .i f), (26, 10, .i b), (27, 11, .i (w64 (f + b))), (28, 12, .ep a 4 (w64 (f + b)).toNat 0), (29, 13, .agg (aE x5)), (30, 14, .d (.lit a)), (31, 15, .i e), (32, 16, .i b), (33, 17, .i (w64 (e + b))), (34, 18, .ep a 4 (w64 (e + b)).toNat 0), (35, 19, .agg (aE x7)), (36, 20, .ep a 4 (w64 (e + b)).toNat 0)], fun X4 => [([(21, .arr a 76 4 ((c.set (w64 (e + b)).toNat x5).map aE))], .arr a 76 4 (c.map aE))], ?_, ?_⟩
   · exact ⟨by kernel_rfl, by kernel_rfl, by kernel_rfl, fun _ => by kernel_rfl, fun _ => by kernel_rfl, fun _ => by kernel_rfl, fun _ => rfl, [([], [21]), ([], [21]), ([], [21]), ([1, 2], [21]), ([], []), ([], []), ([], []), ([5, 6], []), ([], [21]), ([], [21]), ([], [21]), ([9, 10], [21]), ([8, 11], [21]), ([12], [21]), ([], [21]), ([], [21]), ([], [21]), ([15, 16], [21]), ([14, 17], [21]), ([18], [21]), ([0, 3], [21]), ([13, 20], [])], by kernel_rfl, ⟨fun X4 S hw hi hS => cE (X := X4) rfl (hw X4) rfl (cT rfl (eJ (v := .d (.lit a)) (aD rfl) (aX hS rfl) rfl)),
      fun X4 S hw hi hS => cE (X := X4) rfl (hw X4) rfl (cT rfl (eJ (v := .i e) (aD rfl) (aX hS rfl) rfl)),
      fun X4 S hw hi hS => cE (X := X4) rfl (hw X4) rfl (cT rfl (eJ (v := .i b) (aD rfl) (aX hS rfl) rfl)),
      fun X4 S hw hi hS => cE (X := X4) rfl (hw X4) rfl (cT rfl (pM (aD rfl) (aX hS rfl) (aX hS rfl) rfl)),
      fun X4 S hw hi hS => cE (X := X4) rfl (hw X4) rfl (cT rfl (eJ (v := .d (.lit a)) (aD rfl) (aX hS rfl) rfl)),
      fun X4 S hw hi hS => cE (X := X4) rfl (hw X4) rfl (cT rfl (eJ (v := .i f) (aD rfl) (aX hS rfl) rfl)),
      fun X4 S hw hi hS => cE (X := X4) rfl (hw X4) rfl (cT rfl (eJ (v := .i b) (aD rfl) (aX hS rfl) rfl)),
      fun X4 S hw hi hS => cE (X := X4) rfl (hw X4) rfl (cT rfl (pM (aD rfl) (aX hS rfl) (aX hS rfl) rfl)),
      fun X4 S hw hi hS => cE (X := X4) rfl (hw X4) rfl (cT rfl (eJ (v := .d (.lit a)) (aD rfl) (aX hS rfl) rfl)),
      fun X4 S hw hi hS => cE (X := X4) rfl (hw X4) rfl (cT rfl (eJ (v := .i f) (aD rfl) (aX hS rfl) rfl)),
      fun X4 S hw hi hS => cE (X := X4) rfl (hw X4) rfl (cT rfl (eJ (v := .i b) (aD rfl) (aX hS rfl) rfl)),
      fun X4 S hw hi hS => cE (X := X4) rfl (hw X4) rfl (cT rfl (pM (aD rfl) (aX hS rfl) (aX hS rfl) rfl)),
      fun X4 S hw hi hS => cE (X := X4) rfl (hw X4) rfl (cT rfl (dL (m := 0) (aD rfl) (aX hS rfl) (og hS rfl rfl) (aX hS rfl) dC.of (bA aE h6))),
      fun X4 S hw hi hS => cE (X := X4) rfl (hw X4) rfl (cT rfl (eG (aD rfl) (aX hS rfl) (l := 0) (og hS rfl rfl) (dY aE h6) gS (es := (aE x5)) rfl rfl)),
      fun X4 S hw hi hS => cE (X := X4) rfl (hw X4) rfl (cT rfl (eJ (v := .d (.lit a)) (aD rfl) (aX hS rfl) rfl)),
      fun X4 S hw hi hS => cE (X := X4) rfl (hw X4) rfl (cT rfl (eJ (v := .i e) (aD rfl) (aX hS rfl) rfl)),
      fun X4 S hw hi hS => cE (X := X4) rfl (hw X4) rfl (cT rfl (eJ (v := .i b) (aD rfl) (aX hS rfl) rfl)),
      fun X4 S hw hi hS => cE (X := X4) rfl (hw X4) rfl (cT rfl (pM (aD rfl) (aX hS rfl) (aX hS rfl) rfl)),
      fun X4 S hw hi hS => cE (X := X4) rfl (hw X4) rfl (cT rfl (dL (m := 0) (aD rfl) (aX hS rfl) (og hS rfl rfl) (aX hS rfl) dC.of (bA aE h8))),
      fun X4 S hw hi hS => cE (X := X4) rfl (hw X4) rfl (cT rfl (eG (aD rfl) (aX hS rfl) (l := 0) (og hS rfl rfl) (dY aE h8) gS (es := (aE x7)) rfl rfl)),
      fun X4 S hw hi hS => cE (X := X4) rfl (hw X4) rfl (cT rfl (dL (m := 0) (aD rfl) (aX hS rfl) (og hS rfl rfl) (aX hS rfl) dC.of (bA aE s))),
      fun X4 S hw hi hS => aDg (X := X4) hS rfl rfl rfl (p := 0) rfl rfl (cT rfl (kZ (l := 0) (aX hS rfl) (og hS rfl rfl) (dY aE s) (aX hS rfl) rfl rfl Tryz.sizeOf76 rfl (aD rfl) (Nat.le_of_ble_eq_true rfl) (rows' := ((c.set (w64 (e + b)).toNat x5)).map aE) (rW _ _ _ _ rfl))), trivial⟩⟩
   · exact fun X4 => cK (aI rfl (aI rfl (aI rfl (aN ⟨rfl, rfl, rfl, rfl, rfl, trivial⟩))))
  ·intro X4;obtain ⟨y, t, h⟩ := bind_some h;refine to (dL (m := 0) (aD rfl) rfl rfl rfl dC.of (bA aE t)) ?_;refine to (kZ (l := 0) rfl rfl (dY aE t) rfl rfl rfl Tryz.sizeOf76 rfl (aD rfl) (Nat.le_of_ble_eq_true rfl) (rows' := (((c.set (w64 (e + b)).toNat x5).set (w64 (f + b)).toNat x7)).map aE) (rW _ _ _ _ rfl)) ?_;refine cQ ?_;refine aA (tm (.i b) (to (sar rfl rfl rfl) (ta (.i (w64 (b + 1))) (aB ?_))));exact ⟨(w64 (b + 1), ((c.set (w64 (e + b)).toNat x5).set (w64 (f + b)).toNat x7)), h, aQ [0] rfl rfl (aI rfl (aI rfl (aN ⟨rfl, rfl, rfl, trivial⟩)))⟩
 ·have h := aJ c3 h;refine cB ?_;refine .inl ⟨rfl, ?_⟩;simp only [kB] at h;have h := Option.some.inj h;subst h;exact ⟨_, [.arr a 76 4 (c.map aE)], [], _, .none, .refl _, .same _, rfl, rfl⟩

theorem qG (o : List aG) (p : Int) (f : Int) (q : Int) (l : aG → aG → Option Int) {r : (List aG)} {b : Value} (c : Nat) (g : List AV) (m : ∀ args w, (callFunc c args).run Tryz.prog w = .ok (.enter c args) w) (n : ∀ (x0 : aG) (x1 : aG) r, l x0 x1 = some r → Fn Tryz.prog c ([.agg (aE x0), .agg (aE x1)] ++ g) (.i r)) (h : fT o p f q l = some r) : fU Tryz.prog 140 [.d (.lit b), .i p, .i f, .i q, .fn c g] [.arr b 76 4 (o.map aE)] (fun r' o' => r' = .tup [] ∧ o' = [.arr b 76 4 (r.map aE)]) := by
 unfold fT at h;refine tC Tryz.func140 rfl (rs := []) Tryz.results140 Tryz.ntmps140 (Nat.le_of_ble_eq_true rfl) ?_;refine aC (aA (tm (.i f) (tm (.i p) (to (sar rfl rfl rfl) (ta (.i (w64 (f - p))) (aB (aC (aA (tm (.i q) (tm (.i f) (to (sar rfl rfl rfl) (ta (.i (w64 (q - f))) (aB ?_)))))))))))));refine aC (bF ?_);refine bY [2, 4] (fun (s1 : Int × Int × (List aG)) => [(0, .d (.lit b)), (10, .i s1.1), (11, .i s1.2.1)]) (fun (s1 : Int × Int × (List aG)) => [.arr b 76 4 (s1.2.2.map aE)]) (fun (k : Nat) (s1 : Int × Int × (List aG)) => dF f l k s1.1 s1.2.1 s1.2.2) (fun _ => rfl) (w64 (f - p), w64 (q - f), o) h (aQ [0] rfl rfl (aI rfl (aI rfl (aI rfl (aN ⟨rfl, rfl, trivial⟩))))) ?_;rintro k2 ⟨a, e, j⟩ h;simp only [dF] at h;refine aC (aC (aA (tm (.i a) (tm (.i e) (to (scm rfl rfl rfl) (aB ?_))))));refine aZ rfl (fun c3 => ?_) (fun c3 => ?_)
 ·have h := aK c3 h;refine aY (bF (aC (aA (tm (.i a) (tm (.i e) (to (scm rfl rfl rfl) (aB ?_)))))));refine aZ rfl (fun c4 => ?_) (fun c4 => ?_)
  ·have h := aK c4 h;refine aC (aA (tm (.d (.lit b)) (tm (.i f) (tm (.i a) (to (sar rfl rfl rfl) (tm (.i f) (tm (.i e) (tm (.fn c g) ?_))))))));obtain ⟨r5, h6, h⟩ := bind_some h;refine bE rfl (fC (passed := [.arr b 76 4 (j.map aE)]) (aD rfl) rfl (.func _ _ Tryz.call142) rfl rfl (kH j (w64 (f - a)) f e l c g m n h6)) ?_;rintro _ ⟨_, _, ⟨rfl, rfl⟩, rfl⟩;refine aB (aA (tm (.i a) (tm (.i e) (to (sar rfl rfl rfl) (ta (.i (w64 (a - e))) ?_)))));refine cQ ?_;exact ⟨(w64 (a - e), e, r5), h, aQ [0] rfl rfl (aI rfl (aI rfl (aI rfl (aN ⟨rfl, rfl, trivial⟩))))⟩
  ·have h := aJ c4 h;refine aC (aA (tm (.d (.lit b)) (tm (.i f) (tm (.i a) (to (sar rfl rfl rfl) (tm (.i f) (tm (.i e) (to (sar rfl rfl rfl) (tm (.i a) (to (sar rfl rfl rfl) (tm (.i a) (tm (.fn c g) ?_))))))))))));obtain ⟨r7, h8, h⟩ := bind_some h;refine bE rfl (fC (passed := [.arr b 76 4 (j.map aE)]) (aD rfl) rfl (.func _ _ Tryz.call142) rfl rfl (kH j (w64 (f - a)) (w64 ((w64 (f + e)) - a)) a l c g m n h8)) ?_;rintro _ ⟨_, _, ⟨rfl, rfl⟩, rfl⟩;refine aB (aA (tm (.i e) (tm (.i a) (to (sar rfl rfl rfl) (ta (.i (w64 (e - a))) ?_)))));refine cQ ?_;exact ⟨(a, w64 (e - a), r7), h, aQ [0] rfl rfl (aI rfl (aI rfl (aI rfl (aN ⟨rfl, rfl, trivial⟩))))⟩
 ·have h := aJ c3 h;refine cB ?_;refine .inl ⟨rfl, ?_⟩;simp only [lG] at h;refine aA (tm (.d (.lit b)) (tm (.i f) (tm (.i a) (to (sar rfl rfl rfl) (tm (.i f) (tm (.i a) (tm (.fn c g) ?_)))))));obtain ⟨r9, s, h⟩ := bind_some h;refine bE rfl (fC (passed := [.arr b 76 4 (j.map aE)]) (aD rfl) rfl (.func _ _ Tryz.call142) rfl rfl (kH j (w64 (f - a)) f a l c g m n s)) ?_;rintro _ ⟨_, _, ⟨rfl, rfl⟩, rfl⟩;refine aB ?_;have h := Option.some.inj h;subst h;exact ⟨_, [.arr b 76 4 (r9.map aE)], [], _, .none, .refl _, .same _, rfl, rfl⟩

theorem vB (E : aG → aG → Option Int) (n : Nat) (o : List AV) (I : ∀ args w, (callFunc n args).run Tryz.prog w = .ok (.enter n args) w) (J : ∀ (x0 : aG) (x1 : aG) r, E x0 x1 = some r → Fn Tryz.prog n ([.agg (aE x0), .agg (aE x1)] ++ o) (.i r)) (kr : Nat) : ∀ (q : List aG) (g : Int) (j : Int) (f : Int) {r : (List aG)} {a : Value} (_h : bK E kr q g j f = some r), fU Tryz.prog 133 [.d (.lit a), .i g, .i j, .i f, .fn n o] [.arr a 76 4 (q.map aE)] (fun r' o' => r' = .tup [] ∧ o' = [.arr a 76 4 (r.map aE)]) := by
  induction kr with
  | zero => intros; rename_i h; cases h
  | succ kr ih =>
    intro q g j f r a h;simp only [bK] at h;refine tC Tryz.func133 rfl (rs := []) Tryz.results133 Tryz.ntmps133 (Nat.le_of_ble_eq_true rfl) ?_;refine aC (aC (aA (tm (.i j) (tm (.i g) (to (sar rfl rfl rfl) (to (scm rfl rfl rfl) (aB ?_)))))));refine aZ rfl (fun c1 => ?_) (fun c1 => ?_)
    ·have h := aK c1 h;refine aC (aA (tm (.i j) (ta (.i j) (aB (aC (aA (tm (.i f) (ta (.i f) (aB (aC (bF ?_)))))))))));refine bY [0, 1, 4] (fun (s2 : Int × Int) => [(10, .i s2.1), (11, .i s2.2)]) (fun (s2 : Int × Int) => [.arr a 76 4 (q.map aE)]) (fun (k : Nat) (s2 : Int × Int) => cW (bK E kr) g E q k s2.1 s2.2) (fun _ => rfl) (j, f) h (aQ [0] rfl rfl (aI rfl (aI rfl (aN ⟨rfl, rfl, rfl, trivial⟩)))) ?_;rintro k3 ⟨C, H⟩ h;simp only [cW] at h;refine aC (aC (aA (tm (.i C) (tm (.i H) (to (scm rfl rfl rfl) (aB ?_))))));refine aZ rfl (fun c4 => ?_) (fun c4 => ?_)
     ·have h := aK c4 h;refine aY (bF (aC (aA (tm (.i C) (tm (.i H) (to (sar rfl rfl rfl) (to (mT (aD rfl) rfl Tryz.runUnderlying3 Tryz.runUnderlying113) ?_)))))));refine to (uX (aD rfl) rfl rfl (by decide)) ?_;refine to (mT (aD rfl) rfl Tryz.runUnderlying113 Tryz.runUnderlying3) ?_;refine ta (.i (w64 ((IntKind.u64.wrap (w64 (C + H))).fdiv (2 ^ (min (1 : Int).toNat 64))))) (aB (aC ?_));obtain ⟨x5, h6, h⟩ := bind_some h;obtain ⟨x7, h8, h⟩ := bind_some h;refine cV mix 9 [0, 1, 4, 10, 11, 12] [(40, .fn n o), (44, .agg (aE x5)), (48, .agg (aE x7))] ?_ ?_
      ·refine ⟨[(40, 0, .fn n o), (41, 1, .d (.lit a)), (42, 2, .i (w64 ((IntKind.u64.wrap (w64 (C + H))).fdiv (2 ^ (min (1 : Int).toNat 64))))), (43, 3, .ep a 4 (w64 ((IntKind.u64.wrap (w64 (C + H))).fdiv (2 ^ (min (1 : Int).toNat 64)))).toNat 0), (44, 4, .agg (aE x5)), (45, 5, .d (.lit a)), (46, 6, .i g), (47, 7, .ep a 4 g.toNat 0), (48, 8, .agg (aE x7))], ?_, ?_⟩
       · exact dok [([], []), ([], []), ([], []), ([1, 2], []), ([3], []), ([], []), ([], []), ([5, 6], []), ([7], [])] ⟨go (zm (.fn n o)),
      go (zm (.d (.lit a))),
      go (zm (.i (w64 ((IntKind.u64.wrap (w64 (C + H))).fdiv (2 ^ (min (1 : Int).toNat 64)))))),
      go (zia 0 rfl rfl rfl dC.of (bA aE h6)),
      go fun S hS => eG (aD rfl) (aX hS rfl) (l := 0) rfl (dY aE h6) gS (es := (aE x5)) rfl rfl,
      go (zm (.d (.lit a))),
      go (zm (.i g)),
      go (zia 0 rfl rfl rfl dC.of (bA aE h8)),
      go fun S hS => eG (aD rfl) (aX hS rfl) (l := 0) rfl (dY aE h8) gS (es := (aE x7)) rfl rfl, trivial⟩
       · exact cK (aI rfl (aI rfl (aI rfl (aN ⟨rfl, rfl, rfl, rfl, rfl, rfl, trivial⟩))))
      ·obtain ⟨r9, j8, h⟩ := bind_some h;refine to (fS (aD rfl) (.clo _ _ _ _ I rfl) (aAl rfl) rfl (BVs.refl _ _) (J _ _ _  j8) rfl) ?_;refine to (scm rfl rfl rfl) (aB ?_);refine aZ rfl (fun e1 => ?_) (fun e1 => ?_)
       ·have h := aK e1 h;refine aA (tm (.i (w64 ((IntKind.u64.wrap (w64 (C + H))).fdiv (2 ^ (min (1 : Int).toNat 64))))) (to (sar rfl rfl rfl) (ta (.i (w64 ((w64 ((IntKind.u64.wrap (w64 (C + H))).fdiv (2 ^ (min (1 : Int).toNat 64)))) + 1))) ?_)));refine cQ ?_;exact ⟨(w64 ((w64 ((IntKind.u64.wrap (w64 (C + H))).fdiv (2 ^ (min (1 : Int).toNat 64)))) + 1), H), h, aQ [0] rfl rfl (aI rfl (aI rfl (aN ⟨rfl, rfl, rfl, trivial⟩)))⟩
       ·have h := aJ e1 h;refine aA (tm (.i (w64 ((IntKind.u64.wrap (w64 (C + H))).fdiv (2 ^ (min (1 : Int).toNat 64))))) (ta (.i (w64 ((IntKind.u64.wrap (w64 (C + H))).fdiv (2 ^ (min (1 : Int).toNat 64))))) ?_));refine cQ ?_;exact ⟨(C, w64 ((IntKind.u64.wrap (w64 (C + H))).fdiv (2 ^ (min (1 : Int).toNat 64)))), h, aQ [0] rfl rfl (aI rfl (aI rfl (aN ⟨rfl, rfl, rfl, trivial⟩)))⟩
     ·have h := aJ c4 h;refine cB ?_;refine .inl ⟨rfl, ?_⟩;simp only [iK] at h;refine aC (aC (aA (tm (.i g) (ta (.i g) (aB (bF ?_))))));refine bY [10] (fun (b9 : Int × (List aG)) => [(0, .d (.lit a)), (13, .i b9.1)]) (fun (b9 : Int × (List aG)) => [.arr a 76 4 (b9.2.map aE)]) (fun (k : Nat) (b9 : Int × (List aG)) => eE (bK E kr) C k b9.1 b9.2) (fun _ => rfl) (g, q) h (aQ [0] rfl rfl (aI rfl (aI rfl (aN ⟨rfl, trivial⟩)))) ?_;rintro m2 ⟨u, F⟩ h;simp only [eE] at h;refine aC (aC (aA (tm (.i u) (tm (.i C) (to (sar rfl rfl rfl) (to (scm rfl rfl rfl) (aB ?_)))))));refine aZ rfl (fun e2 => ?_) (fun e2 => ?_)
      ·have h := aK e2 h;refine aY (aC (bF ?_));obtain ⟨b6, g5, h⟩ := bind_some h;obtain ⟨c5, g6, h⟩ := bind_some h;obtain ⟨m3, g7, h⟩ := bind_some h;refine uO mix 16 [0, 10, 13] (fun s => [(63, .d (.lit a)), (65, .i (w64 (u + 1))), (74, .agg (aE c5))]) (fun s => [.arr a 76 4 ((F.set u.toNat b6).map aE)]) ?_ ?_
       ·refine ⟨0, fun s => [(61, 0, .d (.lit a)), (62, 1, .i u), (63, 2, .d (.lit a)), (64, 3, .i u), (65, 4, .i (w64 (u + 1))), (66, 5, .d (.lit a)), (67, 6, .i u), (68, 7, .i (w64 (u + 1))), (69, 8, .ep a 4 (w64 (u + 1)).toNat 0), (70, 9, .agg (aE b6)), (71, 10, .d (.lit a)), (72, 11, .i u), (73, 12, .ep a 4 u.toNat 0), (74, 13, .agg (aE c5)), (75, 14, .ep a 4 u.toNat 0)], fun s => [([(15, .arr a 76 4 ((F.set u.toNat b6).map aE))], .arr a 76 4 (F.map aE))], ?_, ?_⟩
        · exact ⟨by kernel_rfl, by kernel_rfl, by kernel_rfl, fun _ => by kernel_rfl, fun _ => by kernel_rfl, fun _ => by kernel_rfl, fun _ => rfl, [([], [15]), ([], [15]), ([], []), ([], []), ([3], []), ([], [15]), ([], [15]), ([6], [15]), ([5, 7], [15]), ([8], [15]), ([], [15]), ([], [15]), ([10, 11], [15]), ([12], [15]), ([0, 1], [15]), ([9, 14], [])], by kernel_rfl, ⟨fun s S hw hi hS => cE (X := s) rfl (hw s) rfl (cT rfl (eJ (v := .d (.lit a)) (aD rfl) (aX hS rfl) rfl)),
      fun s S hw hi hS => cE (X := s) rfl (hw s) rfl (cT rfl (eJ (v := .i u) (aD rfl) (aX hS rfl) rfl)),
      fun s S hw hi hS => cE (X := s) rfl (hw s) rfl (cT rfl (eJ (v := .d (.lit a)) (aD rfl) (aX hS rfl) rfl)),
      fun s S hw hi hS => cE (X := s) rfl (hw s) rfl (cT rfl (eJ (v := .i u) (aD rfl) (aX hS rfl) rfl)),
      fun s S hw hi hS => cE (X := s) rfl (hw s) rfl (cT rfl (pM (aD rfl) (aX hS rfl) rfl rfl)),
      fun s S hw hi hS => cE (X := s) rfl (hw s) rfl (cT rfl (eJ (v := .d (.lit a)) (aD rfl) (aX hS rfl) rfl)),
      fun s S hw hi hS => cE (X := s) rfl (hw s) rfl (cT rfl (eJ (v := .i u) (aD rfl) (aX hS rfl) rfl)),
      fun s S hw hi hS => cE (X := s) rfl (hw s) rfl (cT rfl (pM (aD rfl) (aX hS rfl) rfl rfl)),
      fun s S hw hi hS => cE (X := s) rfl (hw s) rfl (cT rfl (dL (m := 0) (aD rfl) (aX hS rfl) (og hS rfl rfl) (aX hS rfl) dC.of (bA aE g5))),
      fun s S hw hi hS => cE (X := s) rfl (hw s) rfl (cT rfl (eG (aD rfl) (aX hS rfl) (l := 0) (og hS rfl rfl) (dY aE g5) gS (es := (aE b6)) rfl rfl)),
      fun s S hw hi hS => cE (X := s) rfl (hw s) rfl (cT rfl (eJ (v := .d (.lit a)) (aD rfl) (aX hS rfl) rfl)),
      fun s S hw hi hS => cE (X := s) rfl (hw s) rfl (cT rfl (eJ (v := .i u) (aD rfl) (aX hS rfl) rfl)),
      fun s S hw hi hS => cE (X := s) rfl (hw s) rfl (cT rfl (dL (m := 0) (aD rfl) (aX hS rfl) (og hS rfl rfl) (aX hS rfl) dC.of (bA aE g6))),
      fun s S hw hi hS => cE (X := s) rfl (hw s) rfl (cT rfl (eG (aD rfl) (aX hS rfl) (l := 0) (og hS rfl rfl) (dY aE g6) gS (es := (aE c5)) rfl rfl)),
      fun s S hw hi hS => cE (X := s) rfl (hw s) rfl (cT rfl (dL (m := 0) (aD rfl) (aX hS rfl) (og hS rfl rfl) (aX hS rfl) dC.of (bA aE g7))),
      fun s S hw hi hS => aDg (X := s) hS rfl rfl rfl (p := 0) rfl rfl (cT rfl (kZ (l := 0) (aX hS rfl) (og hS rfl rfl) (dY aE g7) (aX hS rfl) rfl rfl Tryz.sizeOf76 rfl (aD rfl) (Nat.le_of_ble_eq_true rfl) (rows' := ((F.set u.toNat b6)).map aE) (rW _ _ _ _ rfl))), trivial⟩⟩
        · exact fun s => cK (aI rfl (aI rfl (aI rfl (aN ⟨rfl, rfl, rfl, trivial⟩))))
       ·intro s;obtain ⟨m4, g8, h⟩ := bind_some h;refine to (dL (m := 0) (aD rfl) rfl rfl rfl dC.of (bA aE g8)) ?_;refine to (kZ (l := 0) rfl rfl (dY aE g8) rfl rfl rfl Tryz.sizeOf76 rfl (aD rfl) (Nat.le_of_ble_eq_true rfl) (rows' := (((F.set u.toNat b6).set (w64 (u + 1)).toNat c5)).map aE) (rW _ _ _ _ rfl)) ?_;refine cQ ?_;refine aA (tm (.i u) (to (sar rfl rfl rfl) (ta (.i (w64 (u + 1))) (aB ?_))));exact ⟨(w64 (u + 1), ((F.set u.toNat b6).set (w64 (u + 1)).toNat c5)), h, aQ [0] rfl rfl (aI rfl (aI rfl (aN ⟨rfl, trivial⟩)))⟩
      ·have h := aJ e2 h;refine cB ?_;refine .inl ⟨rfl, ?_⟩;simp only [kI] at h;have h := Option.some.inj h;subst h;exact bB ⟨rfl, _, [.arr a 76 4 (F.map aE)], [], _, .none, .refl _, .same _, rfl, rfl⟩
    ·have h := aJ c1 h;refine aY (aC (aC (aA (tm (.i f) (tm (.i j) (to (sar rfl rfl rfl) (to (scm rfl rfl rfl) (aB ?_))))))));refine aZ rfl (fun e3 => ?_) (fun e3 => ?_)
     ·have h := aK e3 h;refine aC (aA (tm (.i g) (ta (.i g) (aB (aC (aA (tm (.i j) (ta (.i j) (aB (aC (bF ?_)))))))))));refine bY [0, 2, 4] (fun (c0 : Int × Int) => [(14, .i c0.1), (15, .i c0.2)]) (fun (c0 : Int × Int) => [.arr a 76 4 (q.map aE)]) (fun (k : Nat) (c0 : Int × Int) => cX (bK E kr) j E q k c0.1 c0.2) (fun _ => rfl) (g, j) h (aQ [0] rfl rfl (aI rfl (aI rfl (aN ⟨rfl, rfl, rfl, trivial⟩)))) ?_;rintro m5 ⟨A, B⟩ h;simp only [cX] at h;refine aC (aC (aA (tm (.i A) (tm (.i B) (to (scm rfl rfl rfl) (aB ?_))))));refine aZ rfl (fun e4 => ?_) (fun e4 => ?_)
      ·have h := aK e4 h;refine aY (bF (aC (aA (tm (.i A) (tm (.i B) (to (sar rfl rfl rfl) (to (mT (aD rfl) rfl Tryz.runUnderlying3 Tryz.runUnderlying113) ?_)))))));refine to (uX (aD rfl) rfl rfl (by decide)) ?_;refine to (mT (aD rfl) rfl Tryz.runUnderlying113 Tryz.runUnderlying3) ?_;refine ta (.i (w64 ((IntKind.u64.wrap (w64 (A + B))).fdiv (2 ^ (min (1 : Int).toNat 64))))) (aB (aC ?_));obtain ⟨e5, g9, h⟩ := bind_some h;obtain ⟨e6, h0, h⟩ := bind_some h;refine cV mix 9 [0, 2, 4, 14, 15, 16] [(92, .fn n o), (96, .agg (aE e5)), (100, .agg (aE e6))] ?_ ?_
       ·refine ⟨[(92, 0, .fn n o), (93, 1, .d (.lit a)), (94, 2, .i j), (95, 3, .ep a 4 j.toNat 0), (96, 4, .agg (aE e5)), (97, 5, .d (.lit a)), (98, 6, .i (w64 ((IntKind.u64.wrap (w64 (A + B))).fdiv (2 ^ (min (1 : Int).toNat 64))))), (99, 7, .ep a 4 (w64 ((IntKind.u64.wrap (w64 (A + B))).fdiv (2 ^ (min (1 : Int).toNat 64)))).toNat 0), (100, 8, .agg (aE e6))], ?_, ?_⟩
        · exact dok [([], []), ([], []), ([], []), ([1, 2], []), ([3], []), ([], []), ([], []), ([5, 6], []), ([7], [])] ⟨go (zm (.fn n o)),
      go (zm (.d (.lit a))),
      go (zm (.i j)),
      go (zia 0 rfl rfl rfl dC.of (bA aE g9)),
      go fun S hS => eG (aD rfl) (aX hS rfl) (l := 0) rfl (dY aE g9) gS (es := (aE e5)) rfl rfl,
      go (zm (.d (.lit a))),
      go (zm (.i (w64 ((IntKind.u64.wrap (w64 (A + B))).fdiv (2 ^ (min (1 : Int).toNat 64)))))),
      go (zia 0 rfl rfl rfl dC.of (bA aE h0)),
      go fun S hS => eG (aD rfl) (aX hS rfl) (l := 0) rfl (dY aE h0) gS (es := (aE e6)) rfl rfl, trivial⟩
        · exact cK (aI rfl (aI rfl (aI rfl (aN ⟨rfl, rfl, rfl, rfl, rfl, rfl, trivial⟩))))
       ·obtain ⟨m6, j9, h⟩ := bind_some h;refine to (fS (aD rfl) (.clo _ _ _ _ I rfl) (aAl rfl) rfl (BVs.refl _ _) (J _ _ _  j9) rfl) ?_;refine to (scm rfl rfl rfl) (to (sn rfl) (aB ?_));refine aZ rfl (fun e7 => ?_) (fun e7 => ?_)
        ·have h := aK e7 h;refine aA (tm (.i (w64 ((IntKind.u64.wrap (w64 (A + B))).fdiv (2 ^ (min (1 : Int).toNat 64))))) (to (sar rfl rfl rfl) (ta (.i (w64 ((w64 ((IntKind.u64.wrap (w64 (A + B))).fdiv (2 ^ (min (1 : Int).toNat 64)))) + 1))) ?_)));refine cQ ?_;exact ⟨(w64 ((w64 ((IntKind.u64.wrap (w64 (A + B))).fdiv (2 ^ (min (1 : Int).toNat 64)))) + 1), B), h, aQ [0] rfl rfl (aI rfl (aI rfl (aN ⟨rfl, rfl, rfl, trivial⟩)))⟩
        ·have h := aJ e7 h;refine aA (tm (.i (w64 ((IntKind.u64.wrap (w64 (A + B))).fdiv (2 ^ (min (1 : Int).toNat 64))))) (ta (.i (w64 ((IntKind.u64.wrap (w64 (A + B))).fdiv (2 ^ (min (1 : Int).toNat 64))))) ?_));refine cQ ?_;exact ⟨(A, w64 ((IntKind.u64.wrap (w64 (A + B))).fdiv (2 ^ (min (1 : Int).toNat 64)))), h, aQ [0] rfl rfl (aI rfl (aI rfl (aN ⟨rfl, rfl, rfl, trivial⟩)))⟩
      ·have h := aJ e4 h;refine cB ?_;refine .inl ⟨rfl, ?_⟩;simp only [iL] at h;refine aC (aC (aA (tm (.i j) (ta (.i j) (aB (bF ?_))))));refine bY [14] (fun (c2 : Int × (List aG)) => [(0, .d (.lit a)), (17, .i c2.1)]) (fun (c2 : Int × (List aG)) => [.arr a 76 4 (c2.2.map aE)]) (fun (k : Nat) (c2 : Int × (List aG)) => eF (bK E kr) A k c2.1 c2.2) (fun _ => rfl) (j, q) h (aQ [0] rfl rfl (aI rfl (aI rfl (aN ⟨rfl, trivial⟩)))) ?_;rintro m7 ⟨x, G⟩ h;simp only [eF] at h;refine aC (aC (aA (tm (.i x) (tm (.i A) (to (scm rfl rfl rfl) (aB ?_))))));refine aZ rfl (fun e8 => ?_) (fun e8 => ?_)
       ·have h := aK e8 h;refine aY (aC (bF ?_));obtain ⟨b7, h1, h⟩ := bind_some h;obtain ⟨c6, h2, h⟩ := bind_some h;obtain ⟨m8, h3, h⟩ := bind_some h;refine uO mix 16 [0, 14, 17] (fun t => [(115, .d (.lit a)), (117, .i (w64 (x - 1))), (126, .agg (aE c6))]) (fun t => [.arr a 76 4 ((G.set x.toNat b7).map aE)]) ?_ ?_
        ·refine ⟨0, fun t => [(113, 0, .d (.lit a)), (114, 1, .i x), (115, 2, .d (.lit a)), (116, 3, .i x), (117, 4, .i (w64 (x - 1))), (118, 5, .d (.lit a)), (119, 6, .i x), (120, 7, .i (w64 (x - 1))), (121, 8, .ep a 4 (w64 (x - 1)).toNat 0), (122, 9, .agg (aE b7)), (123, 10, .d (.lit a)), (124, 11, .i x), (125, 12, .ep a 4 x.toNat 0), (126, 13, .agg (aE c6)), (127, 14, .ep a 4 x.toNat 0)], fun t => [([(15, .arr a 76 4 ((G.set x.toNat b7).map aE))], .arr a 76 4 (G.map aE))], ?_, ?_⟩
         · exact ⟨by kernel_rfl, by kernel_rfl, by kernel_rfl, fun _ => by kernel_rfl, fun _ => by kernel_rfl, fun _ => by kernel_rfl, fun _ => rfl, [([], [15]), ([], [15]), ([], []), ([], []), ([3], []), ([], [15]), ([], [15]), ([6], [15]), ([5, 7], [15]), ([8], [15]), ([], [15]), ([], [15]), ([10, 11], [15]), ([12], [15]), ([0, 1], [15]), ([9, 14], [])], by kernel_rfl, ⟨fun t S hw hi hS => cE (X := t) rfl (hw t) rfl (cT rfl (eJ (v := .d (.lit a)) (aD rfl) (aX hS rfl) rfl)),
      fun t S hw hi hS => cE (X := t) rfl (hw t) rfl (cT rfl (eJ (v := .i x) (aD rfl) (aX hS rfl) rfl)),
      fun t S hw hi hS => cE (X := t) rfl (hw t) rfl (cT rfl (eJ (v := .d (.lit a)) (aD rfl) (aX hS rfl) rfl)),
      fun t S hw hi hS => cE (X := t) rfl (hw t) rfl (cT rfl (eJ (v := .i x) (aD rfl) (aX hS rfl) rfl)),
      fun t S hw hi hS => cE (X := t) rfl (hw t) rfl (cT rfl (pM (aD rfl) (aX hS rfl) rfl rfl)),
      fun t S hw hi hS => cE (X := t) rfl (hw t) rfl (cT rfl (eJ (v := .d (.lit a)) (aD rfl) (aX hS rfl) rfl)),
      fun t S hw hi hS => cE (X := t) rfl (hw t) rfl (cT rfl (eJ (v := .i x) (aD rfl) (aX hS rfl) rfl)),
      fun t S hw hi hS => cE (X := t) rfl (hw t) rfl (cT rfl (pM (aD rfl) (aX hS rfl) rfl rfl)),
      fun t S hw hi hS => cE (X := t) rfl (hw t) rfl (cT rfl (dL (m := 0) (aD rfl) (aX hS rfl) (og hS rfl rfl) (aX hS rfl) dC.of (bA aE h1))),
      fun t S hw hi hS => cE (X := t) rfl (hw t) rfl (cT rfl (eG (aD rfl) (aX hS rfl) (l := 0) (og hS rfl rfl) (dY aE h1) gS (es := (aE b7)) rfl rfl)),
      fun t S hw hi hS => cE (X := t) rfl (hw t) rfl (cT rfl (eJ (v := .d (.lit a)) (aD rfl) (aX hS rfl) rfl)),
      fun t S hw hi hS => cE (X := t) rfl (hw t) rfl (cT rfl (eJ (v := .i x) (aD rfl) (aX hS rfl) rfl)),
      fun t S hw hi hS => cE (X := t) rfl (hw t) rfl (cT rfl (dL (m := 0) (aD rfl) (aX hS rfl) (og hS rfl rfl) (aX hS rfl) dC.of (bA aE h2))),
      fun t S hw hi hS => cE (X := t) rfl (hw t) rfl (cT rfl (eG (aD rfl) (aX hS rfl) (l := 0) (og hS rfl rfl) (dY aE h2) gS (es := (aE c6)) rfl rfl)),
      fun t S hw hi hS => cE (X := t) rfl (hw t) rfl (cT rfl (dL (m := 0) (aD rfl) (aX hS rfl) (og hS rfl rfl) (aX hS rfl) dC.of (bA aE h3))),
      fun t S hw hi hS => aDg (X := t) hS rfl rfl rfl (p := 0) rfl rfl (cT rfl (kZ (l := 0) (aX hS rfl) (og hS rfl rfl) (dY aE h3) (aX hS rfl) rfl rfl Tryz.sizeOf76 rfl (aD rfl) (Nat.le_of_ble_eq_true rfl) (rows' := ((G.set x.toNat b7)).map aE) (rW _ _ _ _ rfl))), trivial⟩⟩
         · exact fun t => cK (aI rfl (aI rfl (aI rfl (aN ⟨rfl, rfl, rfl, trivial⟩))))
        ·intro t;obtain ⟨m9, h4, h⟩ := bind_some h;refine to (dL (m := 0) (aD rfl) rfl rfl rfl dC.of (bA aE h4)) ?_;refine to (kZ (l := 0) rfl rfl (dY aE h4) rfl rfl rfl Tryz.sizeOf76 rfl (aD rfl) (Nat.le_of_ble_eq_true rfl) (rows' := (((G.set x.toNat b7).set (w64 (x - 1)).toNat c6)).map aE) (rW _ _ _ _ rfl)) ?_;refine cQ ?_;refine aA (tm (.i x) (to (sar rfl rfl rfl) (ta (.i (w64 (x - 1))) (aB ?_))));exact ⟨(w64 (x - 1), ((G.set x.toNat b7).set (w64 (x - 1)).toNat c6)), h, aQ [0] rfl rfl (aI rfl (aI rfl (aN ⟨rfl, trivial⟩)))⟩
       ·have h := aJ e8 h;refine cB ?_;refine .inl ⟨rfl, ?_⟩;simp only [kJ] at h;have h := Option.some.inj h;subst h;exact bB ⟨rfl, _, [.arr a 76 4 (G.map aE)], [], _, .none, .refl _, .same _, rfl, rfl⟩
     ·have h := aJ e3 h;refine aY (aC (aA (tm (.i g) (tm (.i f) (to (sar rfl rfl rfl) (to (mT (aD rfl) rfl Tryz.runUnderlying3 Tryz.runUnderlying113) ?_))))));refine to (uX (aD rfl) rfl rfl (by decide)) ?_;refine to (mT (aD rfl) rfl Tryz.runUnderlying113 Tryz.runUnderlying3) ?_;refine ta (.i (w64 ((IntKind.u64.wrap (w64 (g + f))).fdiv (2 ^ (min (1 : Int).toNat 64))))) (aB (aC (aA (tm (.i (w64 ((IntKind.u64.wrap (w64 (g + f))).fdiv (2 ^ (min (1 : Int).toNat 64))))) (tm (.i j) (to (sar rfl rfl rfl) (ta (.i (w64 ((w64 ((IntKind.u64.wrap (w64 (g + f))).fdiv (2 ^ (min (1 : Int).toNat 64)))) + j))) (aB (aC (aA (ta (.i 0) (ta (.i 0) (aB ?_)))))))))))));refine aC (aC (aA (tm (.i j) (tm (.i (w64 ((IntKind.u64.wrap (w64 (g + f))).fdiv (2 ^ (min (1 : Int).toNat 64))))) (to (scm rfl rfl rfl) (aB ?_))))));refine aZ rfl (fun e9 => ?_) (fun e9 => ?_)
      ·have h := aK e9 h;refine aC (aA (tm (.i (w64 ((w64 ((IntKind.u64.wrap (w64 (g + f))).fdiv (2 ^ (min (1 : Int).toNat 64)))) + j))) (tm (.i f) (to (sar rfl rfl rfl) (ta (.i (w64 ((w64 ((w64 ((IntKind.u64.wrap (w64 (g + f))).fdiv (2 ^ (min (1 : Int).toNat 64)))) + j)) - f))) (aB (aA (tm (.i (w64 ((IntKind.u64.wrap (w64 (g + f))).fdiv (2 ^ (min (1 : Int).toNat 64))))) (ta (.i (w64 ((IntKind.u64.wrap (w64 (g + f))).fdiv (2 ^ (min (1 : Int).toNat 64))))) (aB (aC (aA (tm (.i (w64 ((w64 ((IntKind.u64.wrap (w64 (g + f))).fdiv (2 ^ (min (1 : Int).toNat 64)))) + j))) ?_)))))))))))));refine to (sar rfl rfl rfl) (ta (.i (w64 ((w64 ((w64 ((IntKind.u64.wrap (w64 (g + f))).fdiv (2 ^ (min (1 : Int).toNat 64)))) + j)) - 1))) (aB (aC (bF ?_))));refine bY [0, 1, 2, 3, 4, 18, 19, 22] (fun (c3 : Int × Int) => [(20, .i c3.1), (21, .i c3.2)]) (fun (c3 : Int × Int) => [.arr a 76 4 (q.map aE)]) (fun (k : Nat) (c3 : Int × Int) => cJ (bK E kr) g j f E (w64 ((IntKind.u64.wrap (w64 (g + f))).fdiv (2 ^ (min (1 : Int).toNat 64)))) (w64 ((w64 ((IntKind.u64.wrap (w64 (g + f))).fdiv (2 ^ (min (1 : Int).toNat 64)))) + j)) (w64 ((w64 ((w64 ((IntKind.u64.wrap (w64 (g + f))).fdiv (2 ^ (min (1 : Int).toNat 64)))) + j)) - 1)) q k c3.1 c3.2) (fun _ => rfl) (w64 ((w64 ((w64 ((IntKind.u64.wrap (w64 (g + f))).fdiv (2 ^ (min (1 : Int).toNat 64)))) + j)) - f), w64 ((IntKind.u64.wrap (w64 (g + f))).fdiv (2 ^ (min (1 : Int).toNat 64)))) h (aQ [0] rfl rfl (aI rfl (aI rfl (aN ⟨rfl, rfl, rfl, rfl, rfl, rfl, rfl, rfl, trivial⟩)))) ?_;rintro n0 ⟨e, z⟩ h;simp only [cJ] at h;refine aC (aC (aA (tm (.i e) (tm (.i z) (to (scm rfl rfl rfl) (aB ?_))))));refine aZ rfl (fun f0 => ?_) (fun f0 => ?_)
       ·have h := aK f0 h;refine aY (bF (aC (aA (tm (.i e) (tm (.i z) (to (sar rfl rfl rfl) (to (mT (aD rfl) rfl Tryz.runUnderlying3 Tryz.runUnderlying113) ?_)))))));refine to (uX (aD rfl) rfl rfl (by decide)) ?_;refine to (mT (aD rfl) rfl Tryz.runUnderlying113 Tryz.runUnderlying3) ?_;refine ta (.i (w64 ((IntKind.u64.wrap (w64 (e + z))).fdiv (2 ^ (min (1 : Int).toNat 64))))) (aB (aC ?_));obtain ⟨f1, h5, h⟩ := bind_some h;obtain ⟨f2, h7, h⟩ := bind_some h;refine cV mix 11 [0, 1, 2, 3, 4, 18, 19, 20, 21, 22, 23] [(158, .fn n o), (164, .agg (aE f1)), (168, .agg (aE f2))] ?_ ?_
        ·refine ⟨[(158, 0, .fn n o), (159, 1, .d (.lit a)), (160, 2, .i (w64 ((w64 ((w64 ((IntKind.u64.wrap (w64 (g + f))).fdiv (2 ^ (min (1 : Int).toNat 64)))) + j)) - 1))), (161, 3, .i (w64 ((IntKind.u64.wrap (w64 (e + z))).fdiv (2 ^ (min (1 : Int).toNat 64))))), (162, 4, .i (w64 ((w64 ((w64 ((w64 ((IntKind.u64.wrap (w64 (g + f))).fdiv (2 ^ (min (1 : Int).toNat 64)))) + j)) - 1)) - (w64 ((IntKind.u64.wrap (w64 (e + z))).fdiv (2 ^ (min (1 : Int).toNat 64))))))), (163, 5, .ep a 4 (w64 ((w64 ((w64 ((w64 ((IntKind.u64.wrap (w64 (g + f))).fdiv (2 ^ (min (1 : Int).toNat 64)))) + j)) - 1)) - (w64 ((IntKind.u64.wrap (w64 (e + z))).fdiv (2 ^ (min (1 : Int).toNat 64)))))).toNat 0), (164, 6, .agg (aE f1)), (165, 7, .d (.lit a)), (166, 8, .i (w64 ((IntKind.u64.wrap (w64 (e + z))).fdiv (2 ^ (min (1 : Int).toNat 64))))), (167, 9, .ep a 4 (w64 ((IntKind.u64.wrap (w64 (e + z))).fdiv (2 ^ (min (1 : Int).toNat 64)))).toNat 0), (168, 10, .agg (aE f2))], ?_, ?_⟩
         · exact dok [([], []), ([], []), ([], []), ([], []), ([2, 3], []), ([1, 4], []), ([5], []), ([], []), ([], []), ([7, 8], []), ([9], [])] ⟨go (zm (.fn n o)),
      go (zm (.d (.lit a))),
      go (zm (.i (w64 ((w64 ((w64 ((IntKind.u64.wrap (w64 (g + f))).fdiv (2 ^ (min (1 : Int).toNat 64)))) + j)) - 1)))),
      go (zm (.i (w64 ((IntKind.u64.wrap (w64 (e + z))).fdiv (2 ^ (min (1 : Int).toNat 64)))))),
      go (zar rfl rfl rfl),
      go (zia 0 rfl rfl rfl dC.of (bA aE h5)),
      go fun S hS => eG (aD rfl) (aX hS rfl) (l := 0) rfl (dY aE h5) gS (es := (aE f1)) rfl rfl,
      go (zm (.d (.lit a))),
      go (zm (.i (w64 ((IntKind.u64.wrap (w64 (e + z))).fdiv (2 ^ (min (1 : Int).toNat 64)))))),
      go (zia 0 rfl rfl rfl dC.of (bA aE h7)),
      go fun S hS => eG (aD rfl) (aX hS rfl) (l := 0) rfl (dY aE h7) gS (es := (aE f2)) rfl rfl, trivial⟩
         · exact cK (aI rfl (aI rfl (aI rfl (aN ⟨rfl, rfl, rfl, rfl, rfl, rfl, rfl, rfl, rfl, rfl, rfl, trivial⟩))))
        ·obtain ⟨n1, k0, h⟩ := bind_some h;refine to (fS (aD rfl) (.clo _ _ _ _ I rfl) (aAl rfl) rfl (BVs.refl _ _) (J _ _ _  k0) rfl) ?_;refine to (scm rfl rfl rfl) (to (sn rfl) (aB ?_));refine aZ rfl (fun f3 => ?_) (fun f3 => ?_)
         ·have h := aK f3 h;refine aA (tm (.i (w64 ((IntKind.u64.wrap (w64 (e + z))).fdiv (2 ^ (min (1 : Int).toNat 64))))) (to (sar rfl rfl rfl) (ta (.i (w64 ((w64 ((IntKind.u64.wrap (w64 (e + z))).fdiv (2 ^ (min (1 : Int).toNat 64)))) + 1))) ?_)));refine cQ ?_;exact ⟨(w64 ((w64 ((IntKind.u64.wrap (w64 (e + z))).fdiv (2 ^ (min (1 : Int).toNat 64)))) + 1), z), h, aQ [0] rfl rfl (aI rfl (aI rfl (aN ⟨rfl, rfl, rfl, rfl, rfl, rfl, rfl, rfl, trivial⟩)))⟩
         ·have h := aJ f3 h;refine aA (tm (.i (w64 ((IntKind.u64.wrap (w64 (e + z))).fdiv (2 ^ (min (1 : Int).toNat 64))))) (ta (.i (w64 ((IntKind.u64.wrap (w64 (e + z))).fdiv (2 ^ (min (1 : Int).toNat 64))))) ?_));refine cQ ?_;exact ⟨(e, w64 ((IntKind.u64.wrap (w64 (e + z))).fdiv (2 ^ (min (1 : Int).toNat 64)))), h, aQ [0] rfl rfl (aI rfl (aI rfl (aN ⟨rfl, rfl, rfl, rfl, rfl, rfl, rfl, rfl, trivial⟩)))⟩
       ·have h := aJ f0 h;refine cB ?_;refine .inl ⟨rfl, ?_⟩;simp only [dI] at h;refine aC (aA (tm (.i (w64 ((w64 ((IntKind.u64.wrap (w64 (g + f))).fdiv (2 ^ (min (1 : Int).toNat 64)))) + j))) (tm (.i e) (to (sar rfl rfl rfl) (ta (.i (w64 ((w64 ((w64 ((IntKind.u64.wrap (w64 (g + f))).fdiv (2 ^ (min (1 : Int).toNat 64)))) + j)) - e))) (aB (aC (aC (aA (tm (.i e) (tm (.i j) (to (scm rfl rfl rfl) (tm (.b (decide (e < j))) ?_)))))))))))));obtain ⟨k1, a8, h⟩ := bind_some h;refine bH 4 [0, 1, 2, 3, 4, 18, 20, 24] 185 k1 ?_ ?_
        ·refine aW (decide (e < j)) (fun a1 => ?_) (fun a1 => ?_)
         ·have a8 := aK a1 a8;refine tk a1 (sm (.i j)) (tk a1 (sm (.i (w64 ((w64 ((w64 ((IntKind.u64.wrap (w64 (g + f))).fdiv (2 ^ (min (1 : Int).toNat 64)))) + j)) - e)))) (tk a1 (scm rfl rfl rfl) (to (spt (.b (decide (j < (w64 ((w64 ((w64 ((IntKind.u64.wrap (w64 (g + f))).fdiv (2 ^ (min (1 : Int).toNat 64)))) + j)) - e))))) a1) ?_)));have a8 := Option.some.inj a8;subst a8;refine aB (aO rfl ⟨rfl, rfl, rfl, rfl, rfl, rfl, rfl, rfl, trivial⟩ rfl)
         ·have a8 := aJ a1 a8;refine tp a1 (tp a1 (tp a1 (to (spf (.b false) a1) ?_)));have a8 := Option.some.inj a8;subst a8;refine aB (aO rfl ⟨rfl, rfl, rfl, rfl, rfl, rfl, rfl, rfl, trivial⟩ rfl)
        ·refine aB ?_;refine aZ rfl (fun f4 => ?_) (fun f4 => ?_)
         ·have h := aK f4 h;refine aA (tm (.d (.lit a)) (tm (.i e) (tm (.i j) (tm (.i (w64 ((w64 ((w64 ((IntKind.u64.wrap (w64 (g + f))).fdiv (2 ^ (min (1 : Int).toNat 64)))) + j)) - e))) (tm (.fn n o) ?_)))));obtain ⟨c7, k2, h⟩ := bind_some h;refine bE rfl (fC (passed := [.arr a 76 4 (q.map aE)]) (aD rfl) rfl (.func _ _ Tryz.call140) rfl rfl (qG q e j (w64 ((w64 ((w64 ((IntKind.u64.wrap (w64 (g + f))).fdiv (2 ^ (min (1 : Int).toNat 64)))) + j)) - e)) E n o I J k2)) ?_;rintro _ ⟨_, _, ⟨rfl, rfl⟩, rfl⟩;refine aB (aC (aC (aA (tm (.i g) (tm (.i e) (to (scm rfl rfl rfl) (tm (.b (decide (g < e))) ?_)))))));obtain ⟨k4, a9, h⟩ := bind_some h;refine bH 4 [0, 1, 3, 4, 18, 20, 24] 199 k4 ?_ ?_
          ·refine aW (decide (g < e)) (fun a2 => ?_) (fun a2 => ?_)
           ·have a9 := aK a2 a9;refine tk a2 (sm (.i e)) (tk a2 (sm (.i (w64 ((IntKind.u64.wrap (w64 (g + f))).fdiv (2 ^ (min (1 : Int).toNat 64)))))) (tk a2 (scm rfl rfl rfl) (to (spt (.b (decide (e < (w64 ((IntKind.u64.wrap (w64 (g + f))).fdiv (2 ^ (min (1 : Int).toNat 64))))))) a2) ?_)));have a9 := Option.some.inj a9;subst a9;refine aB (aO rfl ⟨rfl, rfl, rfl, rfl, rfl, rfl, rfl, trivial⟩ rfl)
           ·have a9 := aJ a2 a9;refine tp a2 (tp a2 (tp a2 (to (spf (.b false) a2) ?_)));have a9 := Option.some.inj a9;subst a9;refine aB (aO rfl ⟨rfl, rfl, rfl, rfl, rfl, rfl, rfl, trivial⟩ rfl)
          ·refine aB ?_;refine aZ rfl (fun f5 => ?_) (fun f5 => ?_)
           ·have h := aK f5 h;refine aA (tm (.d (.lit a)) (tm (.i g) (tm (.i e) (tm (.i (w64 ((IntKind.u64.wrap (w64 (g + f))).fdiv (2 ^ (min (1 : Int).toNat 64))))) (tm (.fn n o) ?_)))));obtain ⟨f6, k5, h⟩ := bind_some h;refine bE rfl (fC (passed := [.arr a 76 4 (c7.map aE)]) (aD rfl) rfl (.func _ _ Tryz.call133) rfl rfl (ih c7 g e (w64 ((IntKind.u64.wrap (w64 (g + f))).fdiv (2 ^ (min (1 : Int).toNat 64)))) k5)) ?_;rintro _ ⟨_, _, ⟨rfl, rfl⟩, rfl⟩;refine aB (aC (aA (tm (.i (w64 ((IntKind.u64.wrap (w64 (g + f))).fdiv (2 ^ (min (1 : Int).toNat 64))))) (tm (.i (w64 ((w64 ((w64 ((IntKind.u64.wrap (w64 (g + f))).fdiv (2 ^ (min (1 : Int).toNat 64)))) + j)) - e))) (to (scm rfl rfl rfl) (tm (.b (decide ((w64 ((IntKind.u64.wrap (w64 (g + f))).fdiv (2 ^ (min (1 : Int).toNat 64)))) < (w64 ((w64 ((w64 ((IntKind.u64.wrap (w64 (g + f))).fdiv (2 ^ (min (1 : Int).toNat 64)))) + j)) - e))))) ?_))))));obtain ⟨k6, b0, h⟩ := bind_some h;refine bH 4 [0, 3, 4, 18, 24] 213 k6 ?_ ?_
            ·refine aW (decide ((w64 ((IntKind.u64.wrap (w64 (g + f))).fdiv (2 ^ (min (1 : Int).toNat 64)))) < (w64 ((w64 ((w64 ((IntKind.u64.wrap (w64 (g + f))).fdiv (2 ^ (min (1 : Int).toNat 64)))) + j)) - e)))) (fun a3 => ?_) (fun a3 => ?_)
             ·have b0 := aK a3 b0;refine tk a3 (sm (.i (w64 ((w64 ((w64 ((IntKind.u64.wrap (w64 (g + f))).fdiv (2 ^ (min (1 : Int).toNat 64)))) + j)) - e)))) (tk a3 (sm (.i f)) (tk a3 (scm rfl rfl rfl) (to (spt (.b (decide ((w64 ((w64 ((w64 ((IntKind.u64.wrap (w64 (g + f))).fdiv (2 ^ (min (1 : Int).toNat 64)))) + j)) - e)) < f))) a3) ?_)));have b0 := Option.some.inj b0;subst b0;refine aB (aO rfl ⟨rfl, rfl, rfl, rfl, rfl, trivial⟩ rfl)
             ·have b0 := aJ a3 b0;refine tp a3 (tp a3 (tp a3 (to (spf (.b false) a3) ?_)));have b0 := Option.some.inj b0;subst b0;refine aB (aO rfl ⟨rfl, rfl, rfl, rfl, rfl, trivial⟩ rfl)
            ·refine aB ?_;refine aZ rfl (fun f7 => ?_) (fun f7 => ?_)
             ·have h := aK f7 h;refine aA (tm (.d (.lit a)) (tm (.i (w64 ((IntKind.u64.wrap (w64 (g + f))).fdiv (2 ^ (min (1 : Int).toNat 64))))) (tm (.i (w64 ((w64 ((w64 ((IntKind.u64.wrap (w64 (g + f))).fdiv (2 ^ (min (1 : Int).toNat 64)))) + j)) - e))) (tm (.i f) (tm (.fn n o) ?_)))));obtain ⟨k7, k8, h⟩ := bind_some h;refine bE rfl (fC (passed := [.arr a 76 4 (f6.map aE)]) (aD rfl) rfl (.func _ _ Tryz.call133) rfl rfl (ih f6 (w64 ((IntKind.u64.wrap (w64 (g + f))).fdiv (2 ^ (min (1 : Int).toNat 64)))) (w64 ((w64 ((w64 ((IntKind.u64.wrap (w64 (g + f))).fdiv (2 ^ (min (1 : Int).toNat 64)))) + j)) - e)) f k8)) ?_;rintro _ ⟨_, _, ⟨rfl, rfl⟩, rfl⟩;refine aB ?_;have h := Option.some.inj h;subst h;exact ⟨_, [.arr a 76 4 (k7.map aE)], [], _, .none, .refl _, .same _, rfl, rfl⟩
             ·have h := aJ f7 h;refine aY ?_;have h := Option.some.inj h;subst h;exact ⟨_, [.arr a 76 4 (f6.map aE)], [], _, .none, .refl _, .same _, rfl, rfl⟩
           ·have h := aJ f5 h;refine aY (aC (aA (tm (.i (w64 ((IntKind.u64.wrap (w64 (g + f))).fdiv (2 ^ (min (1 : Int).toNat 64))))) (tm (.i (w64 ((w64 ((w64 ((IntKind.u64.wrap (w64 (g + f))).fdiv (2 ^ (min (1 : Int).toNat 64)))) + j)) - e))) (to (scm rfl rfl rfl) (tm (.b (decide ((w64 ((IntKind.u64.wrap (w64 (g + f))).fdiv (2 ^ (min (1 : Int).toNat 64)))) < (w64 ((w64 ((w64 ((IntKind.u64.wrap (w64 (g + f))).fdiv (2 ^ (min (1 : Int).toNat 64)))) + j)) - e))))) ?_))))));obtain ⟨k9, b1, h⟩ := bind_some h;refine bH 4 [0, 3, 4, 18, 24] 213 k9 ?_ ?_
            ·refine aW (decide ((w64 ((IntKind.u64.wrap (w64 (g + f))).fdiv (2 ^ (min (1 : Int).toNat 64)))) < (w64 ((w64 ((w64 ((IntKind.u64.wrap (w64 (g + f))).fdiv (2 ^ (min (1 : Int).toNat 64)))) + j)) - e)))) (fun a4 => ?_) (fun a4 => ?_)
             ·have b1 := aK a4 b1;refine tk a4 (sm (.i (w64 ((w64 ((w64 ((IntKind.u64.wrap (w64 (g + f))).fdiv (2 ^ (min (1 : Int).toNat 64)))) + j)) - e)))) (tk a4 (sm (.i f)) (tk a4 (scm rfl rfl rfl) (to (spt (.b (decide ((w64 ((w64 ((w64 ((IntKind.u64.wrap (w64 (g + f))).fdiv (2 ^ (min (1 : Int).toNat 64)))) + j)) - e)) < f))) a4) ?_)));have b1 := Option.some.inj b1;subst b1;refine aB (aO rfl ⟨rfl, rfl, rfl, rfl, rfl, trivial⟩ rfl)
             ·have b1 := aJ a4 b1;refine tp a4 (tp a4 (tp a4 (to (spf (.b false) a4) ?_)));have b1 := Option.some.inj b1;subst b1;refine aB (aO rfl ⟨rfl, rfl, rfl, rfl, rfl, trivial⟩ rfl)
            ·refine aB ?_;refine aZ rfl (fun f8 => ?_) (fun f8 => ?_)
             ·have h := aK f8 h;refine aA (tm (.d (.lit a)) (tm (.i (w64 ((IntKind.u64.wrap (w64 (g + f))).fdiv (2 ^ (min (1 : Int).toNat 64))))) (tm (.i (w64 ((w64 ((w64 ((IntKind.u64.wrap (w64 (g + f))).fdiv (2 ^ (min (1 : Int).toNat 64)))) + j)) - e))) (tm (.i f) (tm (.fn n o) ?_)))));obtain ⟨l0, l1, h⟩ := bind_some h;refine bE rfl (fC (passed := [.arr a 76 4 (c7.map aE)]) (aD rfl) rfl (.func _ _ Tryz.call133) rfl rfl (ih c7 (w64 ((IntKind.u64.wrap (w64 (g + f))).fdiv (2 ^ (min (1 : Int).toNat 64)))) (w64 ((w64 ((w64 ((IntKind.u64.wrap (w64 (g + f))).fdiv (2 ^ (min (1 : Int).toNat 64)))) + j)) - e)) f l1)) ?_;rintro _ ⟨_, _, ⟨rfl, rfl⟩, rfl⟩;refine aB ?_;have h := Option.some.inj h;subst h;exact ⟨_, [.arr a 76 4 (l0.map aE)], [], _, .none, .refl _, .same _, rfl, rfl⟩
             ·have h := aJ f8 h;refine aY ?_;have h := Option.some.inj h;subst h;exact ⟨_, [.arr a 76 4 (c7.map aE)], [], _, .none, .refl _, .same _, rfl, rfl⟩
         ·have h := aJ f4 h;refine aY (aC (aC (aA (tm (.i g) (tm (.i e) (to (scm rfl rfl rfl) (tm (.b (decide (g < e))) ?_)))))));obtain ⟨l2, b2, h⟩ := bind_some h;refine bH 4 [0, 1, 3, 4, 18, 20, 24] 199 l2 ?_ ?_
          ·refine aW (decide (g < e)) (fun a5 => ?_) (fun a5 => ?_)
           ·have b2 := aK a5 b2;refine tk a5 (sm (.i e)) (tk a5 (sm (.i (w64 ((IntKind.u64.wrap (w64 (g + f))).fdiv (2 ^ (min (1 : Int).toNat 64)))))) (tk a5 (scm rfl rfl rfl) (to (spt (.b (decide (e < (w64 ((IntKind.u64.wrap (w64 (g + f))).fdiv (2 ^ (min (1 : Int).toNat 64))))))) a5) ?_)));have b2 := Option.some.inj b2;subst b2;refine aB (aO rfl ⟨rfl, rfl, rfl, rfl, rfl, rfl, rfl, trivial⟩ rfl)
           ·have b2 := aJ a5 b2;refine tp a5 (tp a5 (tp a5 (to (spf (.b false) a5) ?_)));have b2 := Option.some.inj b2;subst b2;refine aB (aO rfl ⟨rfl, rfl, rfl, rfl, rfl, rfl, rfl, trivial⟩ rfl)
          ·refine aB ?_;refine aZ rfl (fun f9 => ?_) (fun f9 => ?_)
           ·have h := aK f9 h;refine aA (tm (.d (.lit a)) (tm (.i g) (tm (.i e) (tm (.i (w64 ((IntKind.u64.wrap (w64 (g + f))).fdiv (2 ^ (min (1 : Int).toNat 64))))) (tm (.fn n o) ?_)))));obtain ⟨g0, l3, h⟩ := bind_some h;refine bE rfl (fC (passed := [.arr a 76 4 (q.map aE)]) (aD rfl) rfl (.func _ _ Tryz.call133) rfl rfl (ih q g e (w64 ((IntKind.u64.wrap (w64 (g + f))).fdiv (2 ^ (min (1 : Int).toNat 64)))) l3)) ?_;rintro _ ⟨_, _, ⟨rfl, rfl⟩, rfl⟩;refine aB (aC (aA (tm (.i (w64 ((IntKind.u64.wrap (w64 (g + f))).fdiv (2 ^ (min (1 : Int).toNat 64))))) (tm (.i (w64 ((w64 ((w64 ((IntKind.u64.wrap (w64 (g + f))).fdiv (2 ^ (min (1 : Int).toNat 64)))) + j)) - e))) (to (scm rfl rfl rfl) (tm (.b (decide ((w64 ((IntKind.u64.wrap (w64 (g + f))).fdiv (2 ^ (min (1 : Int).toNat 64)))) < (w64 ((w64 ((w64 ((IntKind.u64.wrap (w64 (g + f))).fdiv (2 ^ (min (1 : Int).toNat 64)))) + j)) - e))))) ?_))))));obtain ⟨l4, b3, h⟩ := bind_some h;refine bH 4 [0, 3, 4, 18, 24] 213 l4 ?_ ?_
            ·refine aW (decide ((w64 ((IntKind.u64.wrap (w64 (g + f))).fdiv (2 ^ (min (1 : Int).toNat 64)))) < (w64 ((w64 ((w64 ((IntKind.u64.wrap (w64 (g + f))).fdiv (2 ^ (min (1 : Int).toNat 64)))) + j)) - e)))) (fun a6 => ?_) (fun a6 => ?_)
             ·have b3 := aK a6 b3;refine tk a6 (sm (.i (w64 ((w64 ((w64 ((IntKind.u64.wrap (w64 (g + f))).fdiv (2 ^ (min (1 : Int).toNat 64)))) + j)) - e)))) (tk a6 (sm (.i f)) (tk a6 (scm rfl rfl rfl) (to (spt (.b (decide ((w64 ((w64 ((w64 ((IntKind.u64.wrap (w64 (g + f))).fdiv (2 ^ (min (1 : Int).toNat 64)))) + j)) - e)) < f))) a6) ?_)));have b3 := Option.some.inj b3;subst b3;refine aB (aO rfl ⟨rfl, rfl, rfl, rfl, rfl, trivial⟩ rfl)
             ·have b3 := aJ a6 b3;refine tp a6 (tp a6 (tp a6 (to (spf (.b false) a6) ?_)));have b3 := Option.some.inj b3;subst b3;refine aB (aO rfl ⟨rfl, rfl, rfl, rfl, rfl, trivial⟩ rfl)
            ·refine aB ?_;refine aZ rfl (fun g1 => ?_) (fun g1 => ?_)
             ·have h := aK g1 h;refine aA (tm (.d (.lit a)) (tm (.i (w64 ((IntKind.u64.wrap (w64 (g + f))).fdiv (2 ^ (min (1 : Int).toNat 64))))) (tm (.i (w64 ((w64 ((w64 ((IntKind.u64.wrap (w64 (g + f))).fdiv (2 ^ (min (1 : Int).toNat 64)))) + j)) - e))) (tm (.i f) (tm (.fn n o) ?_)))));obtain ⟨l5, l6, h⟩ := bind_some h;refine bE rfl (fC (passed := [.arr a 76 4 (g0.map aE)]) (aD rfl) rfl (.func _ _ Tryz.call133) rfl rfl (ih g0 (w64 ((IntKind.u64.wrap (w64 (g + f))).fdiv (2 ^ (min (1 : Int).toNat 64)))) (w64 ((w64 ((w64 ((IntKind.u64.wrap (w64 (g + f))).fdiv (2 ^ (min (1 : Int).toNat 64)))) + j)) - e)) f l6)) ?_;rintro _ ⟨_, _, ⟨rfl, rfl⟩, rfl⟩;refine aB ?_;have h := Option.some.inj h;subst h;exact ⟨_, [.arr a 76 4 (l5.map aE)], [], _, .none, .refl _, .same _, rfl, rfl⟩
             ·have h := aJ g1 h;refine aY ?_;have h := Option.some.inj h;subst h;exact ⟨_, [.arr a 76 4 (g0.map aE)], [], _, .none, .refl _, .same _, rfl, rfl⟩
           ·have h := aJ f9 h;refine aY (aC (aA (tm (.i (w64 ((IntKind.u64.wrap (w64 (g + f))).fdiv (2 ^ (min (1 : Int).toNat 64))))) (tm (.i (w64 ((w64 ((w64 ((IntKind.u64.wrap (w64 (g + f))).fdiv (2 ^ (min (1 : Int).toNat 64)))) + j)) - e))) (to (scm rfl rfl rfl) (tm (.b (decide ((w64 ((IntKind.u64.wrap (w64 (g + f))).fdiv (2 ^ (min (1 : Int).toNat 64)))) < (w64 ((w64 ((w64 ((IntKind.u64.wrap (w64 (g + f))).fdiv (2 ^ (min (1 : Int).toNat 64)))) + j)) - e))))) ?_))))));obtain ⟨l7, b4, h⟩ := bind_some h;refine bH 4 [0, 3, 4, 18, 24] 213 l7 ?_ ?_
            ·refine aW (decide ((w64 ((IntKind.u64.wrap (w64 (g + f))).fdiv (2 ^ (min (1 : Int).toNat 64)))) < (w64 ((w64 ((w64 ((IntKind.u64.wrap (w64 (g + f))).fdiv (2 ^ (min (1 : Int).toNat 64)))) + j)) - e)))) (fun a7 => ?_) (fun a7 => ?_)
             ·have b4 := aK a7 b4;refine tk a7 (sm (.i (w64 ((w64 ((w64 ((IntKind.u64.wrap (w64 (g + f))).fdiv (2 ^ (min (1 : Int).toNat 64)))) + j)) - e)))) (tk a7 (sm (.i f)) (tk a7 (scm rfl rfl rfl) (to (spt (.b (decide ((w64 ((w64 ((w64 ((IntKind.u64.wrap (w64 (g + f))).fdiv (2 ^ (min (1 : Int).toNat 64)))) + j)) - e)) < f))) a7) ?_)));have b4 := Option.some.inj b4;subst b4;refine aB (aO rfl ⟨rfl, rfl, rfl, rfl, rfl, trivial⟩ rfl)
             ·have b4 := aJ a7 b4;refine tp a7 (tp a7 (tp a7 (to (spf (.b false) a7) ?_)));have b4 := Option.some.inj b4;subst b4;refine aB (aO rfl ⟨rfl, rfl, rfl, rfl, rfl, trivial⟩ rfl)
            ·refine aB ?_;refine aZ rfl (fun g2 => ?_) (fun g2 => ?_)
             ·have h := aK g2 h;refine aA (tm (.d (.lit a)) (tm (.i (w64 ((IntKind.u64.wrap (w64 (g + f))).fdiv (2 ^ (min (1 : Int).toNat 64))))) (tm (.i (w64 ((w64 ((w64 ((IntKind.u64.wrap (w64 (g + f))).fdiv (2 ^ (min (1 : Int).toNat 64)))) + j)) - e))) (tm (.i f) (tm (.fn n o) ?_)))));obtain ⟨l8, l9, h⟩ := bind_some h;refine bE rfl (fC (passed := [.arr a 76 4 (q.map aE)]) (aD rfl) rfl (.func _ _ Tryz.call133) rfl rfl (ih q (w64 ((IntKind.u64.wrap (w64 (g + f))).fdiv (2 ^ (min (1 : Int).toNat 64)))) (w64 ((w64 ((w64 ((IntKind.u64.wrap (w64 (g + f))).fdiv (2 ^ (min (1 : Int).toNat 64)))) + j)) - e)) f l9)) ?_;rintro _ ⟨_, _, ⟨rfl, rfl⟩, rfl⟩;refine aB ?_;have h := Option.some.inj h;subst h;exact ⟨_, [.arr a 76 4 (l8.map aE)], [], _, .none, .refl _, .same _, rfl, rfl⟩
             ·have h := aJ g2 h;refine aY ?_;have h := Option.some.inj h;subst h;exact ⟨_, [.arr a 76 4 (q.map aE)], [], _, .none, .refl _, .same _, rfl, rfl⟩
      ·have h := aJ e9 h;refine aC (aA (tm (.i g) (ta (.i g) (aB (aA (tm (.i j) (ta (.i j) (aB (aC (aA (tm (.i (w64 ((w64 ((IntKind.u64.wrap (w64 (g + f))).fdiv (2 ^ (min (1 : Int).toNat 64)))) + j))) (to (sar rfl rfl rfl) (ta (.i (w64 ((w64 ((w64 ((IntKind.u64.wrap (w64 (g + f))).fdiv (2 ^ (min (1 : Int).toNat 64)))) + j)) - 1))) ?_)))))))))))));refine aB (aC (bF ?_));refine bY [0, 1, 2, 3, 4, 18, 19, 22] (fun (b5 : Int × Int) => [(20, .i b5.1), (21, .i b5.2)]) (fun (b5 : Int × Int) => [.arr a 76 4 (q.map aE)]) (fun (k : Nat) (b5 : Int × Int) => cJ (bK E kr) g j f E (w64 ((IntKind.u64.wrap (w64 (g + f))).fdiv (2 ^ (min (1 : Int).toNat 64)))) (w64 ((w64 ((IntKind.u64.wrap (w64 (g + f))).fdiv (2 ^ (min (1 : Int).toNat 64)))) + j)) (w64 ((w64 ((w64 ((IntKind.u64.wrap (w64 (g + f))).fdiv (2 ^ (min (1 : Int).toNat 64)))) + j)) - 1)) q k b5.1 b5.2) (fun _ => rfl) (g, j) h (aQ [0] rfl rfl (aI rfl (aI rfl (aN ⟨rfl, rfl, rfl, rfl, rfl, rfl, rfl, rfl, trivial⟩)))) ?_;rintro m0 ⟨c, y⟩ h;simp only [cJ] at h;refine aC (aC (aA (tm (.i c) (tm (.i y) (to (scm rfl rfl rfl) (aB ?_))))));refine aZ rfl (fun c8 => ?_) (fun c8 => ?_)
       ·have h := aK c8 h;refine aY (bF (aC (aA (tm (.i c) (tm (.i y) (to (sar rfl rfl rfl) (to (mT (aD rfl) rfl Tryz.runUnderlying3 Tryz.runUnderlying113) ?_)))))));refine to (uX (aD rfl) rfl rfl (by decide)) ?_;refine to (mT (aD rfl) rfl Tryz.runUnderlying113 Tryz.runUnderlying3) ?_;refine ta (.i (w64 ((IntKind.u64.wrap (w64 (c + y))).fdiv (2 ^ (min (1 : Int).toNat 64))))) (aB (aC ?_));obtain ⟨c9, g3, h⟩ := bind_some h;obtain ⟨d0, g4, h⟩ := bind_some h;refine cV mix 11 [0, 1, 2, 3, 4, 18, 19, 20, 21, 22, 23] [(158, .fn n o), (164, .agg (aE c9)), (168, .agg (aE d0))] ?_ ?_
        ·refine ⟨[(158, 0, .fn n o), (159, 1, .d (.lit a)), (160, 2, .i (w64 ((w64 ((w64 ((IntKind.u64.wrap (w64 (g + f))).fdiv (2 ^ (min (1 : Int).toNat 64)))) + j)) - 1))), (161, 3, .i (w64 ((IntKind.u64.wrap (w64 (c + y))).fdiv (2 ^ (min (1 : Int).toNat 64))))), (162, 4, .i (w64 ((w64 ((w64 ((w64 ((IntKind.u64.wrap (w64 (g + f))).fdiv (2 ^ (min (1 : Int).toNat 64)))) + j)) - 1)) - (w64 ((IntKind.u64.wrap (w64 (c + y))).fdiv (2 ^ (min (1 : Int).toNat 64))))))), (163, 5, .ep a 4 (w64 ((w64 ((w64 ((w64 ((IntKind.u64.wrap (w64 (g + f))).fdiv (2 ^ (min (1 : Int).toNat 64)))) + j)) - 1)) - (w64 ((IntKind.u64.wrap (w64 (c + y))).fdiv (2 ^ (min (1 : Int).toNat 64)))))).toNat 0), (164, 6, .agg (aE c9)), (165, 7, .d (.lit a)), (166, 8, .i (w64 ((IntKind.u64.wrap (w64 (c + y))).fdiv (2 ^ (min (1 : Int).toNat 64))))), (167, 9, .ep a 4 (w64 ((IntKind.u64.wrap (w64 (c + y))).fdiv (2 ^ (min (1 : Int).toNat 64)))).toNat 0), (168, 10, .agg (aE d0))], ?_, ?_⟩
         · exact dok [([], []), ([], []), ([], []), ([], []), ([2, 3], []), ([1, 4], []), ([5], []), ([], []), ([], []), ([7, 8], []), ([9], [])] ⟨go (zm (.fn n o)),
      go (zm (.d (.lit a))),
      go (zm (.i (w64 ((w64 ((w64 ((IntKind.u64.wrap (w64 (g + f))).fdiv (2 ^ (min (1 : Int).toNat 64)))) + j)) - 1)))),
      go (zm (.i (w64 ((IntKind.u64.wrap (w64 (c + y))).fdiv (2 ^ (min (1 : Int).toNat 64)))))),
      go (zar rfl rfl rfl),
      go (zia 0 rfl rfl rfl dC.of (bA aE g3)),
      go fun S hS => eG (aD rfl) (aX hS rfl) (l := 0) rfl (dY aE g3) gS (es := (aE c9)) rfl rfl,
      go (zm (.d (.lit a))),
      go (zm (.i (w64 ((IntKind.u64.wrap (w64 (c + y))).fdiv (2 ^ (min (1 : Int).toNat 64)))))),
      go (zia 0 rfl rfl rfl dC.of (bA aE g4)),
      go fun S hS => eG (aD rfl) (aX hS rfl) (l := 0) rfl (dY aE g4) gS (es := (aE d0)) rfl rfl, trivial⟩
         · exact cK (aI rfl (aI rfl (aI rfl (aN ⟨rfl, rfl, rfl, rfl, rfl, rfl, rfl, rfl, rfl, rfl, rfl, trivial⟩))))
        ·obtain ⟨m1, h9, h⟩ := bind_some h;refine to (fS (aD rfl) (.clo _ _ _ _ I rfl) (aAl rfl) rfl (BVs.refl _ _) (J _ _ _  h9) rfl) ?_;refine to (scm rfl rfl rfl) (to (sn rfl) (aB ?_));refine aZ rfl (fun d1 => ?_) (fun d1 => ?_)
         ·have h := aK d1 h;refine aA (tm (.i (w64 ((IntKind.u64.wrap (w64 (c + y))).fdiv (2 ^ (min (1 : Int).toNat 64))))) (to (sar rfl rfl rfl) (ta (.i (w64 ((w64 ((IntKind.u64.wrap (w64 (c + y))).fdiv (2 ^ (min (1 : Int).toNat 64)))) + 1))) ?_)));refine cQ ?_;exact ⟨(w64 ((w64 ((IntKind.u64.wrap (w64 (c + y))).fdiv (2 ^ (min (1 : Int).toNat 64)))) + 1), y), h, aQ [0] rfl rfl (aI rfl (aI rfl (aN ⟨rfl, rfl, rfl, rfl, rfl, rfl, rfl, rfl, trivial⟩)))⟩
         ·have h := aJ d1 h;refine aA (tm (.i (w64 ((IntKind.u64.wrap (w64 (c + y))).fdiv (2 ^ (min (1 : Int).toNat 64))))) (ta (.i (w64 ((IntKind.u64.wrap (w64 (c + y))).fdiv (2 ^ (min (1 : Int).toNat 64))))) ?_));refine cQ ?_;exact ⟨(c, w64 ((IntKind.u64.wrap (w64 (c + y))).fdiv (2 ^ (min (1 : Int).toNat 64)))), h, aQ [0] rfl rfl (aI rfl (aI rfl (aN ⟨rfl, rfl, rfl, rfl, rfl, rfl, rfl, rfl, trivial⟩)))⟩
       ·have h := aJ c8 h;refine cB ?_;refine .inl ⟨rfl, ?_⟩;simp only [dI] at h;refine aC (aA (tm (.i (w64 ((w64 ((IntKind.u64.wrap (w64 (g + f))).fdiv (2 ^ (min (1 : Int).toNat 64)))) + j))) (tm (.i c) (to (sar rfl rfl rfl) (ta (.i (w64 ((w64 ((w64 ((IntKind.u64.wrap (w64 (g + f))).fdiv (2 ^ (min (1 : Int).toNat 64)))) + j)) - c))) (aB (aC (aC (aA (tm (.i c) (tm (.i j) (to (scm rfl rfl rfl) (tm (.b (decide (c < j))) ?_)))))))))))));obtain ⟨i0, T, h⟩ := bind_some h;refine bH 4 [0, 1, 2, 3, 4, 18, 20, 24] 185 i0 ?_ ?_
        ·refine aW (decide (c < j)) (fun K => ?_) (fun K => ?_)
         ·have T := aK K T;refine tk K (sm (.i j)) (tk K (sm (.i (w64 ((w64 ((w64 ((IntKind.u64.wrap (w64 (g + f))).fdiv (2 ^ (min (1 : Int).toNat 64)))) + j)) - c)))) (tk K (scm rfl rfl rfl) (to (spt (.b (decide (j < (w64 ((w64 ((w64 ((IntKind.u64.wrap (w64 (g + f))).fdiv (2 ^ (min (1 : Int).toNat 64)))) + j)) - c))))) K) ?_)));have T := Option.some.inj T;subst T;refine aB (aO rfl ⟨rfl, rfl, rfl, rfl, rfl, rfl, rfl, rfl, trivial⟩ rfl)
         ·have T := aJ K T;refine tp K (tp K (tp K (to (spf (.b false) K) ?_)));have T := Option.some.inj T;subst T;refine aB (aO rfl ⟨rfl, rfl, rfl, rfl, rfl, rfl, rfl, rfl, trivial⟩ rfl)
        ·refine aB ?_;refine aZ rfl (fun d2 => ?_) (fun d2 => ?_)
         ·have h := aK d2 h;refine aA (tm (.d (.lit a)) (tm (.i c) (tm (.i j) (tm (.i (w64 ((w64 ((w64 ((IntKind.u64.wrap (w64 (g + f))).fdiv (2 ^ (min (1 : Int).toNat 64)))) + j)) - c))) (tm (.fn n o) ?_)))));obtain ⟨b8, i1, h⟩ := bind_some h;refine bE rfl (fC (passed := [.arr a 76 4 (q.map aE)]) (aD rfl) rfl (.func _ _ Tryz.call140) rfl rfl (qG q c j (w64 ((w64 ((w64 ((IntKind.u64.wrap (w64 (g + f))).fdiv (2 ^ (min (1 : Int).toNat 64)))) + j)) - c)) E n o I J i1)) ?_;rintro _ ⟨_, _, ⟨rfl, rfl⟩, rfl⟩;refine aB (aC (aC (aA (tm (.i g) (tm (.i c) (to (scm rfl rfl rfl) (tm (.b (decide (g < c))) ?_)))))));obtain ⟨i2, U, h⟩ := bind_some h;refine bH 4 [0, 1, 3, 4, 18, 20, 24] 199 i2 ?_ ?_
          ·refine aW (decide (g < c)) (fun L => ?_) (fun L => ?_)
           ·have U := aK L U;refine tk L (sm (.i c)) (tk L (sm (.i (w64 ((IntKind.u64.wrap (w64 (g + f))).fdiv (2 ^ (min (1 : Int).toNat 64)))))) (tk L (scm rfl rfl rfl) (to (spt (.b (decide (c < (w64 ((IntKind.u64.wrap (w64 (g + f))).fdiv (2 ^ (min (1 : Int).toNat 64))))))) L) ?_)));have U := Option.some.inj U;subst U;refine aB (aO rfl ⟨rfl, rfl, rfl, rfl, rfl, rfl, rfl, trivial⟩ rfl)
           ·have U := aJ L U;refine tp L (tp L (tp L (to (spf (.b false) L) ?_)));have U := Option.some.inj U;subst U;refine aB (aO rfl ⟨rfl, rfl, rfl, rfl, rfl, rfl, rfl, trivial⟩ rfl)
          ·refine aB ?_;refine aZ rfl (fun d3 => ?_) (fun d3 => ?_)
           ·have h := aK d3 h;refine aA (tm (.d (.lit a)) (tm (.i g) (tm (.i c) (tm (.i (w64 ((IntKind.u64.wrap (w64 (g + f))).fdiv (2 ^ (min (1 : Int).toNat 64))))) (tm (.fn n o) ?_)))));obtain ⟨d4, i3, h⟩ := bind_some h;refine bE rfl (fC (passed := [.arr a 76 4 (b8.map aE)]) (aD rfl) rfl (.func _ _ Tryz.call133) rfl rfl (ih b8 g c (w64 ((IntKind.u64.wrap (w64 (g + f))).fdiv (2 ^ (min (1 : Int).toNat 64)))) i3)) ?_;rintro _ ⟨_, _, ⟨rfl, rfl⟩, rfl⟩;refine aB (aC (aA (tm (.i (w64 ((IntKind.u64.wrap (w64 (g + f))).fdiv (2 ^ (min (1 : Int).toNat 64))))) (tm (.i (w64 ((w64 ((w64 ((IntKind.u64.wrap (w64 (g + f))).fdiv (2 ^ (min (1 : Int).toNat 64)))) + j)) - c))) (to (scm rfl rfl rfl) (tm (.b (decide ((w64 ((IntKind.u64.wrap (w64 (g + f))).fdiv (2 ^ (min (1 : Int).toNat 64)))) < (w64 ((w64 ((w64 ((IntKind.u64.wrap (w64 (g + f))).fdiv (2 ^ (min (1 : Int).toNat 64)))) + j)) - c))))) ?_))))));obtain ⟨i4, V, h⟩ := bind_some h;refine bH 4 [0, 3, 4, 18, 24] 213 i4 ?_ ?_
            ·refine aW (decide ((w64 ((IntKind.u64.wrap (w64 (g + f))).fdiv (2 ^ (min (1 : Int).toNat 64)))) < (w64 ((w64 ((w64 ((IntKind.u64.wrap (w64 (g + f))).fdiv (2 ^ (min (1 : Int).toNat 64)))) + j)) - c)))) (fun M => ?_) (fun M => ?_)
             ·have V := aK M V;refine tk M (sm (.i (w64 ((w64 ((w64 ((IntKind.u64.wrap (w64 (g + f))).fdiv (2 ^ (min (1 : Int).toNat 64)))) + j)) - c)))) (tk M (sm (.i f)) (tk M (scm rfl rfl rfl) (to (spt (.b (decide ((w64 ((w64 ((w64 ((IntKind.u64.wrap (w64 (g + f))).fdiv (2 ^ (min (1 : Int).toNat 64)))) + j)) - c)) < f))) M) ?_)));have V := Option.some.inj V;subst V;refine aB (aO rfl ⟨rfl, rfl, rfl, rfl, rfl, trivial⟩ rfl)
             ·have V := aJ M V;refine tp M (tp M (tp M (to (spf (.b false) M) ?_)));have V := Option.some.inj V;subst V;refine aB (aO rfl ⟨rfl, rfl, rfl, rfl, rfl, trivial⟩ rfl)
            ·refine aB ?_;refine aZ rfl (fun d5 => ?_) (fun d5 => ?_)
             ·have h := aK d5 h;refine aA (tm (.d (.lit a)) (tm (.i (w64 ((IntKind.u64.wrap (w64 (g + f))).fdiv (2 ^ (min (1 : Int).toNat 64))))) (tm (.i (w64 ((w64 ((w64 ((IntKind.u64.wrap (w64 (g + f))).fdiv (2 ^ (min (1 : Int).toNat 64)))) + j)) - c))) (tm (.i f) (tm (.fn n o) ?_)))));obtain ⟨i5, i6, h⟩ := bind_some h;refine bE rfl (fC (passed := [.arr a 76 4 (d4.map aE)]) (aD rfl) rfl (.func _ _ Tryz.call133) rfl rfl (ih d4 (w64 ((IntKind.u64.wrap (w64 (g + f))).fdiv (2 ^ (min (1 : Int).toNat 64)))) (w64 ((w64 ((w64 ((IntKind.u64.wrap (w64 (g + f))).fdiv (2 ^ (min (1 : Int).toNat 64)))) + j)) - c)) f i6)) ?_;rintro _ ⟨_, _, ⟨rfl, rfl⟩, rfl⟩;refine aB ?_;have h := Option.some.inj h;subst h;exact ⟨_, [.arr a 76 4 (i5.map aE)], [], _, .none, .refl _, .same _, rfl, rfl⟩
             ·have h := aJ d5 h;refine aY ?_;have h := Option.some.inj h;subst h;exact ⟨_, [.arr a 76 4 (d4.map aE)], [], _, .none, .refl _, .same _, rfl, rfl⟩
           ·have h := aJ d3 h;refine aY (aC (aA (tm (.i (w64 ((IntKind.u64.wrap (w64 (g + f))).fdiv (2 ^ (min (1 : Int).toNat 64))))) (tm (.i (w64 ((w64 ((w64 ((IntKind.u64.wrap (w64 (g + f))).fdiv (2 ^ (min (1 : Int).toNat 64)))) + j)) - c))) (to (scm rfl rfl rfl) (tm (.b (decide ((w64 ((IntKind.u64.wrap (w64 (g + f))).fdiv (2 ^ (min (1 : Int).toNat 64)))) < (w64 ((w64 ((w64 ((IntKind.u64.wrap (w64 (g + f))).fdiv (2 ^ (min (1 : Int).toNat 64)))) + j)) - c))))) ?_))))));obtain ⟨i7, W, h⟩ := bind_some h;refine bH 4 [0, 3, 4, 18, 24] 213 i7 ?_ ?_
            ·refine aW (decide ((w64 ((IntKind.u64.wrap (w64 (g + f))).fdiv (2 ^ (min (1 : Int).toNat 64)))) < (w64 ((w64 ((w64 ((IntKind.u64.wrap (w64 (g + f))).fdiv (2 ^ (min (1 : Int).toNat 64)))) + j)) - c)))) (fun N => ?_) (fun N => ?_)
             ·have W := aK N W;refine tk N (sm (.i (w64 ((w64 ((w64 ((IntKind.u64.wrap (w64 (g + f))).fdiv (2 ^ (min (1 : Int).toNat 64)))) + j)) - c)))) (tk N (sm (.i f)) (tk N (scm rfl rfl rfl) (to (spt (.b (decide ((w64 ((w64 ((w64 ((IntKind.u64.wrap (w64 (g + f))).fdiv (2 ^ (min (1 : Int).toNat 64)))) + j)) - c)) < f))) N) ?_)));have W := Option.some.inj W;subst W;refine aB (aO rfl ⟨rfl, rfl, rfl, rfl, rfl, trivial⟩ rfl)
             ·have W := aJ N W;refine tp N (tp N (tp N (to (spf (.b false) N) ?_)));have W := Option.some.inj W;subst W;refine aB (aO rfl ⟨rfl, rfl, rfl, rfl, rfl, trivial⟩ rfl)
            ·refine aB ?_;refine aZ rfl (fun d6 => ?_) (fun d6 => ?_)
             ·have h := aK d6 h;refine aA (tm (.d (.lit a)) (tm (.i (w64 ((IntKind.u64.wrap (w64 (g + f))).fdiv (2 ^ (min (1 : Int).toNat 64))))) (tm (.i (w64 ((w64 ((w64 ((IntKind.u64.wrap (w64 (g + f))).fdiv (2 ^ (min (1 : Int).toNat 64)))) + j)) - c))) (tm (.i f) (tm (.fn n o) ?_)))));obtain ⟨i8, i9, h⟩ := bind_some h;refine bE rfl (fC (passed := [.arr a 76 4 (b8.map aE)]) (aD rfl) rfl (.func _ _ Tryz.call133) rfl rfl (ih b8 (w64 ((IntKind.u64.wrap (w64 (g + f))).fdiv (2 ^ (min (1 : Int).toNat 64)))) (w64 ((w64 ((w64 ((IntKind.u64.wrap (w64 (g + f))).fdiv (2 ^ (min (1 : Int).toNat 64)))) + j)) - c)) f i9)) ?_;rintro _ ⟨_, _, ⟨rfl, rfl⟩, rfl⟩;refine aB ?_;have h := Option.some.inj h;subst h;exact ⟨_, [.arr a 76 4 (i8.map aE)], [], _, .none, .refl _, .same _, rfl, rfl⟩
             ·have h := aJ d6 h;refine aY ?_;have h := Option.some.inj h;subst h;exact ⟨_, [.arr a 76 4 (b8.map aE)], [], _, .none, .refl _, .same _, rfl, rfl⟩
         ·have h := aJ d2 h;refine aY (aC (aC (aA (tm (.i g) (tm (.i c) (to (scm rfl rfl rfl) (tm (.b (decide (g < c))) ?_)))))));obtain ⟨j0, Y, h⟩ := bind_some h;refine bH 4 [0, 1, 3, 4, 18, 20, 24] 199 j0 ?_ ?_
          ·refine aW (decide (g < c)) (fun O => ?_) (fun O => ?_)
           ·have Y := aK O Y;refine tk O (sm (.i c)) (tk O (sm (.i (w64 ((IntKind.u64.wrap (w64 (g + f))).fdiv (2 ^ (min (1 : Int).toNat 64)))))) (tk O (scm rfl rfl rfl) (to (spt (.b (decide (c < (w64 ((IntKind.u64.wrap (w64 (g + f))).fdiv (2 ^ (min (1 : Int).toNat 64))))))) O) ?_)));have Y := Option.some.inj Y;subst Y;refine aB (aO rfl ⟨rfl, rfl, rfl, rfl, rfl, rfl, rfl, trivial⟩ rfl)
           ·have Y := aJ O Y;refine tp O (tp O (tp O (to (spf (.b false) O) ?_)));have Y := Option.some.inj Y;subst Y;refine aB (aO rfl ⟨rfl, rfl, rfl, rfl, rfl, rfl, rfl, trivial⟩ rfl)
          ·refine aB ?_;refine aZ rfl (fun d7 => ?_) (fun d7 => ?_)
           ·have h := aK d7 h;refine aA (tm (.d (.lit a)) (tm (.i g) (tm (.i c) (tm (.i (w64 ((IntKind.u64.wrap (w64 (g + f))).fdiv (2 ^ (min (1 : Int).toNat 64))))) (tm (.fn n o) ?_)))));obtain ⟨d8, j1, h⟩ := bind_some h;refine bE rfl (fC (passed := [.arr a 76 4 (q.map aE)]) (aD rfl) rfl (.func _ _ Tryz.call133) rfl rfl (ih q g c (w64 ((IntKind.u64.wrap (w64 (g + f))).fdiv (2 ^ (min (1 : Int).toNat 64)))) j1)) ?_;rintro _ ⟨_, _, ⟨rfl, rfl⟩, rfl⟩;refine aB (aC (aA (tm (.i (w64 ((IntKind.u64.wrap (w64 (g + f))).fdiv (2 ^ (min (1 : Int).toNat 64))))) (tm (.i (w64 ((w64 ((w64 ((IntKind.u64.wrap (w64 (g + f))).fdiv (2 ^ (min (1 : Int).toNat 64)))) + j)) - c))) (to (scm rfl rfl rfl) (tm (.b (decide ((w64 ((IntKind.u64.wrap (w64 (g + f))).fdiv (2 ^ (min (1 : Int).toNat 64)))) < (w64 ((w64 ((w64 ((IntKind.u64.wrap (w64 (g + f))).fdiv (2 ^ (min (1 : Int).toNat 64)))) + j)) - c))))) ?_))))));obtain ⟨j2, Z, h⟩ := bind_some h;refine bH 4 [0, 3, 4, 18, 24] 213 j2 ?_ ?_
            ·refine aW (decide ((w64 ((IntKind.u64.wrap (w64 (g + f))).fdiv (2 ^ (min (1 : Int).toNat 64)))) < (w64 ((w64 ((w64 ((IntKind.u64.wrap (w64 (g + f))).fdiv (2 ^ (min (1 : Int).toNat 64)))) + j)) - c)))) (fun P => ?_) (fun P => ?_)
             ·have Z := aK P Z;refine tk P (sm (.i (w64 ((w64 ((w64 ((IntKind.u64.wrap (w64 (g + f))).fdiv (2 ^ (min (1 : Int).toNat 64)))) + j)) - c)))) (tk P (sm (.i f)) (tk P (scm rfl rfl rfl) (to (spt (.b (decide ((w64 ((w64 ((w64 ((IntKind.u64.wrap (w64 (g + f))).fdiv (2 ^ (min (1 : Int).toNat 64)))) + j)) - c)) < f))) P) ?_)));have Z := Option.some.inj Z;subst Z;refine aB (aO rfl ⟨rfl, rfl, rfl, rfl, rfl, trivial⟩ rfl)
             ·have Z := aJ P Z;refine tp P (tp P (tp P (to (spf (.b false) P) ?_)));have Z := Option.some.inj Z;subst Z;refine aB (aO rfl ⟨rfl, rfl, rfl, rfl, rfl, trivial⟩ rfl)
            ·refine aB ?_;refine aZ rfl (fun d9 => ?_) (fun d9 => ?_)
             ·have h := aK d9 h;refine aA (tm (.d (.lit a)) (tm (.i (w64 ((IntKind.u64.wrap (w64 (g + f))).fdiv (2 ^ (min (1 : Int).toNat 64))))) (tm (.i (w64 ((w64 ((w64 ((IntKind.u64.wrap (w64 (g + f))).fdiv (2 ^ (min (1 : Int).toNat 64)))) + j)) - c))) (tm (.i f) (tm (.fn n o) ?_)))));obtain ⟨j3, j4, h⟩ := bind_some h;refine bE rfl (fC (passed := [.arr a 76 4 (d8.map aE)]) (aD rfl) rfl (.func _ _ Tryz.call133) rfl rfl (ih d8 (w64 ((IntKind.u64.wrap (w64 (g + f))).fdiv (2 ^ (min (1 : Int).toNat 64)))) (w64 ((w64 ((w64 ((IntKind.u64.wrap (w64 (g + f))).fdiv (2 ^ (min (1 : Int).toNat 64)))) + j)) - c)) f j4)) ?_;rintro _ ⟨_, _, ⟨rfl, rfl⟩, rfl⟩;refine aB ?_;have h := Option.some.inj h;subst h;exact ⟨_, [.arr a 76 4 (j3.map aE)], [], _, .none, .refl _, .same _, rfl, rfl⟩
             ·have h := aJ d9 h;refine aY ?_;have h := Option.some.inj h;subst h;exact ⟨_, [.arr a 76 4 (d8.map aE)], [], _, .none, .refl _, .same _, rfl, rfl⟩
           ·have h := aJ d7 h;refine aY (aC (aA (tm (.i (w64 ((IntKind.u64.wrap (w64 (g + f))).fdiv (2 ^ (min (1 : Int).toNat 64))))) (tm (.i (w64 ((w64 ((w64 ((IntKind.u64.wrap (w64 (g + f))).fdiv (2 ^ (min (1 : Int).toNat 64)))) + j)) - c))) (to (scm rfl rfl rfl) (tm (.b (decide ((w64 ((IntKind.u64.wrap (w64 (g + f))).fdiv (2 ^ (min (1 : Int).toNat 64)))) < (w64 ((w64 ((w64 ((IntKind.u64.wrap (w64 (g + f))).fdiv (2 ^ (min (1 : Int).toNat 64)))) + j)) - c))))) ?_))))));obtain ⟨j5, a0, h⟩ := bind_some h;refine bH 4 [0, 3, 4, 18, 24] 213 j5 ?_ ?_
            ·refine aW (decide ((w64 ((IntKind.u64.wrap (w64 (g + f))).fdiv (2 ^ (min (1 : Int).toNat 64)))) < (w64 ((w64 ((w64 ((IntKind.u64.wrap (w64 (g + f))).fdiv (2 ^ (min (1 : Int).toNat 64)))) + j)) - c)))) (fun Q => ?_) (fun Q => ?_)
             ·have a0 := aK Q a0;refine tk Q (sm (.i (w64 ((w64 ((w64 ((IntKind.u64.wrap (w64 (g + f))).fdiv (2 ^ (min (1 : Int).toNat 64)))) + j)) - c)))) (tk Q (sm (.i f)) (tk Q (scm rfl rfl rfl) (to (spt (.b (decide ((w64 ((w64 ((w64 ((IntKind.u64.wrap (w64 (g + f))).fdiv (2 ^ (min (1 : Int).toNat 64)))) + j)) - c)) < f))) Q) ?_)));have a0 := Option.some.inj a0;subst a0;refine aB (aO rfl ⟨rfl, rfl, rfl, rfl, rfl, trivial⟩ rfl)
             ·have a0 := aJ Q a0;refine tp Q (tp Q (tp Q (to (spf (.b false) Q) ?_)));have a0 := Option.some.inj a0;subst a0;refine aB (aO rfl ⟨rfl, rfl, rfl, rfl, rfl, trivial⟩ rfl)
            ·refine aB ?_;refine aZ rfl (fun e0 => ?_) (fun e0 => ?_)
             ·have h := aK e0 h;refine aA (tm (.d (.lit a)) (tm (.i (w64 ((IntKind.u64.wrap (w64 (g + f))).fdiv (2 ^ (min (1 : Int).toNat 64))))) (tm (.i (w64 ((w64 ((w64 ((IntKind.u64.wrap (w64 (g + f))).fdiv (2 ^ (min (1 : Int).toNat 64)))) + j)) - c))) (tm (.i f) (tm (.fn n o) ?_)))));obtain ⟨j6, j7, h⟩ := bind_some h;refine bE rfl (fC (passed := [.arr a 76 4 (q.map aE)]) (aD rfl) rfl (.func _ _ Tryz.call133) rfl rfl (ih q (w64 ((IntKind.u64.wrap (w64 (g + f))).fdiv (2 ^ (min (1 : Int).toNat 64)))) (w64 ((w64 ((w64 ((IntKind.u64.wrap (w64 (g + f))).fdiv (2 ^ (min (1 : Int).toNat 64)))) + j)) - c)) f j7)) ?_;rintro _ ⟨_, _, ⟨rfl, rfl⟩, rfl⟩;refine aB ?_;have h := Option.some.inj h;subst h;exact ⟨_, [.arr a 76 4 (j6.map aE)], [], _, .none, .refl _, .same _, rfl, rfl⟩
             ·have h := aJ e0 h;refine aY ?_;have h := Option.some.inj h;subst h;exact ⟨_, [.arr a 76 4 (q.map aE)], [], _, .none, .refl _, .same _, rfl, rfl⟩
theorem pJ (f : List aG) (k : Int) (l : Int) (m : Int) (e : aG → aG → Option Int) {r : (List aG)} {b : Value} (a : Nat) (c : List AV) (g : ∀ args w, (callFunc a args).run Tryz.prog w = .ok (.enter a args) w) (j : ∀ (x0 : aG) (x1 : aG) r, e x0 x1 = some r → Fn Tryz.prog a ([.agg (aE x0), .agg (aE x1)] ++ c) (.i r)) (h : jB f k l m e = some r) : fU Tryz.prog 133 [.d (.lit b), .i k, .i l, .i m, .fn a c] [.arr b 76 4 (f.map aE)] (fun r' o' => r' = .tup [] ∧ o' = [.arr b 76 4 (r.map aE)]) := vB e a c g j BIG _ _ _ _ h

theorem wI (u : List aG) (n : Int) (j : aG → aG → Option Int) {r : (List aG)} {b : Value} (c : Nat) (e : List AV) (p : ∀ args w, (callFunc c args).run Tryz.prog w = .ok (.enter c args) w) (q : ∀ (x0 : aG) (x1 : aG) r, j x0 x1 = some r → Fn Tryz.prog c ([.agg (aE x0), .agg (aE x1)] ++ e) (.i r)) (h : jQ u n j = some r) : fU Tryz.prog 114 [.d (.lit b), .i n, .fn c e] [.arr b 76 4 (u.map aE)] (fun r' o' => r' = .tup [] ∧ o' = [.arr b 76 4 (r.map aE)]) := by
 unfold jQ at h;refine tC Tryz.func114 rfl (rs := []) Tryz.results114 Tryz.ntmps114 (Nat.le_of_ble_eq_true rfl) ?_;refine aC (aA (ta (.i 20) (aB (aC (aA (tm (.i 20) (ta (.i 0) (ta (.i 20) (aB (aC (bF ?_)))))))))));refine bY [1, 2, 6] (fun (s1 : Int × Int × (List aG)) => [(0, .d (.lit b)), (7, .i s1.1), (8, .i s1.2.1)]) (fun (s1 : Int × Int × (List aG)) => [.arr b 76 4 (s1.2.2.map aE)]) (fun (k : Nat) (s1 : Int × Int × (List aG)) => eK n j 20 k s1.1 s1.2.1 s1.2.2) (fun _ => rfl) (0, 20, u) h (aQ [0] rfl rfl (aI rfl (aI rfl (aI rfl (aN ⟨rfl, rfl, rfl, trivial⟩))))) ?_;rintro k2 ⟨t, m, o⟩ h;simp only [eK] at h;refine aC (aC (aA (tm (.i m) (tm (.i n) (to (scm rfl rfl rfl) (aB ?_))))));refine aZ rfl (fun c3 => ?_) (fun c3 => ?_)
 ·have h := aK c3 h;refine aY (bF (aC (aA (tm (.d (.lit b)) (tm (.i t) (tm (.i m) (tm (.fn c e) ?_)))))));obtain ⟨r4, h5, h⟩ := bind_some h;refine bE rfl (fC (passed := [.arr b 76 4 (o.map aE)]) (aD rfl) rfl (.func _ _ Tryz.call132) rfl rfl (mV o t m j c e p q h5)) ?_;rintro _ ⟨_, _, ⟨rfl, rfl⟩, rfl⟩;refine aB (aC (aA (tm (.i m) (ta (.i m) (aB (aA (tm (.i m) (tm (.i 20) (to (sar rfl rfl rfl) (ta (.i (w64 (m + 20))) ?_))))))))));refine cQ ?_;exact ⟨(m, w64 (m + 20), r4), h, aQ [0] rfl rfl (aI rfl (aI rfl (aI rfl (aN ⟨rfl, rfl, rfl, trivial⟩))))⟩
 ·have h := aJ c3 h;refine cB ?_;refine .inl ⟨rfl, ?_⟩;simp only [lH] at h;refine aC (aA (tm (.d (.lit b)) (tm (.i t) (tm (.i n) (tm (.fn c e) ?_)))));obtain ⟨r6, h7, h⟩ := bind_some h;refine bE rfl (fC (passed := [.arr b 76 4 (o.map aE)]) (aD rfl) rfl (.func _ _ Tryz.call132) rfl rfl (mV o t n j c e p q h7)) ?_;rintro _ ⟨_, _, ⟨rfl, rfl⟩, rfl⟩;refine aB (bF ?_);refine bY [1, 2] (fun (s8 : Int × (List aG)) => [(0, .d (.lit b)), (6, .i s8.1)]) (fun (s8 : Int × (List aG)) => [.arr b 76 4 (s8.2.map aE)]) (fun (k : Nat) (s8 : Int × (List aG)) => dG n j k s8.1 s8.2) (fun _ => rfl) (20, r6) h (aQ [0] rfl rfl (aI rfl (aI rfl (aN ⟨rfl, rfl, trivial⟩)))) ?_;rintro k9 ⟨a, v⟩ h;simp only [dG] at h;refine aC (aC (aA (tm (.i a) (tm (.i n) (to (scm rfl rfl rfl) (aB ?_))))));refine aZ rfl (fun x => ?_) (fun x => ?_)
  ·have h := aK x h;refine aY (bF (aC (aA (tm (.i a) (to (sar rfl rfl rfl) (ta (.i 0) (ta (.i (w64 (2 * a))) (aB (aC (bF ?_))))))))));refine bY [1, 2, 6] (fun (s : Int × Int × (List aG)) => [(0, .d (.lit b)), (7, .i s.1), (8, .i s.2.1)]) (fun (s : Int × Int × (List aG)) => [.arr b 76 4 (s.2.2.map aE)]) (fun (k : Nat) (s : Int × Int × (List aG)) => eL (dG n j k9) n j a k s.1 s.2.1 s.2.2) (fun _ => rfl) (0, w64 (2 * a), v) h (aQ [0] rfl rfl (aI rfl (aI rfl (aI rfl (aN ⟨rfl, rfl, rfl, trivial⟩))))) ?_;rintro F ⟨f, g, l⟩ h;simp only [eL] at h;refine aC (aC (aA (tm (.i g) (tm (.i n) (to (scm rfl rfl rfl) (aB ?_))))));refine aZ rfl (fun y => ?_) (fun y => ?_)
   ·have h := aK y h;refine aY (bF (aC (aA (tm (.d (.lit b)) (tm (.i f) (tm (.i f) (tm (.i a) (to (sar rfl rfl rfl) (tm (.i g) (tm (.fn c e) ?_))))))))));obtain ⟨A, B, h⟩ := bind_some h;refine bE rfl (fC (passed := [.arr b 76 4 (l.map aE)]) (aD rfl) rfl (.func _ _ Tryz.call133) rfl rfl (pJ l f (w64 (f + a)) g j c e p q B)) ?_;rintro _ ⟨_, _, ⟨rfl, rfl⟩, rfl⟩;refine aB (aC (aA (tm (.i g) (ta (.i g) (aB (aA (tm (.i g) (tm (.i a) (to (sar rfl rfl rfl) (to (sar rfl rfl rfl) (ta (.i (w64 (g + (w64 (2 * a))))) ?_)))))))))));refine cQ ?_;exact ⟨(g, w64 (g + (w64 (2 * a))), A), h, aQ [0] rfl rfl (aI rfl (aI rfl (aI rfl (aN ⟨rfl, rfl, rfl, trivial⟩))))⟩
   ·have h := aJ y h;refine cB ?_;refine .inl ⟨rfl, ?_⟩;simp only [lJ] at h;refine aC (aC (aA (tm (.i f) (tm (.i a) (to (sar rfl rfl rfl) (ta (.i (w64 (f + a))) (aB (aC (aA (tm (.i (w64 (f + a))) (tm (.i n) (to (scm rfl rfl rfl) (aB ?_)))))))))))));refine aZ rfl (fun z => ?_) (fun z => ?_)
    ·have h := aK z h;refine aA (tm (.d (.lit b)) (tm (.i f) (tm (.i (w64 (f + a))) (tm (.i n) (tm (.fn c e) ?_)))));obtain ⟨C, E, h⟩ := bind_some h;refine bE rfl (fC (passed := [.arr b 76 4 (l.map aE)]) (aD rfl) rfl (.func _ _ Tryz.call133) rfl rfl (pJ l f (w64 (f + a)) n j c e p q E)) ?_;rintro _ ⟨_, _, ⟨rfl, rfl⟩, rfl⟩;refine aB (aA (tm (.i a) (to (sar rfl rfl rfl) (ta (.i (w64 (a * 2))) ?_))));refine cQ ?_;simp only [gL] at h;exact ⟨(w64 (a * 2), C), h, aQ [0] rfl rfl (aI rfl (aI rfl (aN ⟨rfl, rfl, trivial⟩)))⟩
    ·have h := aJ z h;refine aY (aA (tm (.i a) (to (sar rfl rfl rfl) (ta (.i (w64 (a * 2))) ?_))));refine cQ ?_;simp only [gL] at h;exact ⟨(w64 (a * 2), l), h, aQ [0] rfl rfl (aI rfl (aI rfl (aN ⟨rfl, rfl, trivial⟩)))⟩
  ·have h := aJ x h;refine cB ?_;refine .inl ⟨rfl, ?_⟩;simp only [lI] at h;have h := Option.some.inj h;subst h;exact ⟨_, [.arr b 76 4 (v.map aE)], [], _, .none, .refl _, .same _, rfl, rfl⟩

theorem vX (f : List aG) (e : aG → aG → Option Int) {r : (List aG)} {b : Value} (a : Nat) (c : List AV) (g : ∀ args w, (callFunc a args).run Tryz.prog w = .ok (.enter a args) w) (j : ∀ (x0 : aG) (x1 : aG) r, e x0 x1 = some r → Fn Tryz.prog a ([.agg (aE x0), .agg (aE x1)] ++ c) (.i r)) (h : hJ f e = some r) : fU Tryz.prog 94 [.d (.lit b), .fn a c] [.arr b 76 4 (f.map aE)] (fun r' o' => r' = .tup [] ∧ o' = [.arr b 76 4 (r.map aE)]) := by
 unfold hJ at h;refine tC Tryz.func94 rfl (rs := []) Tryz.results94 Tryz.ntmps94 (Nat.le_of_ble_eq_true rfl) ?_;refine aA (tm (.d (.lit b)) (tm (.d (.lit b)) (to (kA (m := 0) (aD rfl) rfl rfl dC.of) ?_)));refine tm (.fn a c) ?_;obtain ⟨r1, h2, h⟩ := bind_some h;refine bE rfl (fC (passed := [.arr b 76 4 (f.map aE)]) (aD rfl) rfl (.func _ _ Tryz.call114) rfl rfl (wI f (f.length : Int) e a c g j h2)) ?_;rintro _ ⟨_, _, ⟨rfl, rfl⟩, rfl⟩;refine aB ?_;have h := Option.some.inj h;subst h;exact ⟨_, [.arr b 76 4 (r1.map aE)], [], _, .none, .refl _, .same _, rfl, rfl⟩

theorem aLu (a : aG) (b : aG) {r : Int} (h : rV a b = some r) : Fn Tryz.prog 95 [.agg (aE a), .agg (aE b)] (.i r) := by
 unfold rV at h;refine Fn.of_tr Tryz.func95 rfl (rs := [.tmp 4]) Tryz.results95 Tryz.ntmps95 (Nat.le_of_ble_eq_true rfl) ?_;refine aC (aA ?_);refine bE rfl (dN (v := .agg (aE a)) (aD rfl) rfl rfl rfl) ?_;rintro _ ⟨b1, rfl⟩;refine bE rfl (dN (v := .agg (aE b)) (aD rfl) rfl rfl rfl) ?_;rintro _ ⟨b2, rfl⟩;refine ta (.i 0) (aB (aC (aA (to (sf rfl nD) (to (sl 0 rfl rfl rfl aU) (to (sf rfl nD) (to (sl 1 rfl rfl rfl aU) (to (sar rfl rfl rfl) (ta (.i (w64 (a.Id - b.Id))) (aB ?_))))))))));have h := Option.some.inj h;subst h;refine bT (bL (bO (l := [4]) ⟨rfl, trivial⟩)) ?_;exact bB ⟨rfl, _, .one _, rfl, rfl⟩

theorem zX (s : List aG) {r : (List aG)} {j : Value} (h : kD s = some r) : fU Tryz.prog 96 [.d (.lit j)] [.arr j 76 4 (s.map aE)] (fun r' o' => ∃ w0 : Value, r' = .d (.lit w0) ∧ o' = [.arr w0 76 4 (r.map aE)]) := by
 unfold kD at h;refine jZ Tryz.func96 rfl (rs := [.tmp 2]) Tryz.results96 Tryz.ntmps96 (Nat.le_of_ble_eq_true rfl) ?_;refine aC (aA (to (iJ 76 4 (.inl rfl) (aD rfl)) ?_));refine aB (aC (aC (aA (tm (.d (.lit j)) (to (kA (m := 0) (aD rfl) rfl rfl dC.of) ?_)))));refine to (scm rfl rfl rfl) (aB ?_);refine aZ rfl (fun c2 => ?_) (fun c2 => ?_)
 ·have h := aK c2 h;refine aC (aA (tm (.d (.lit j)) (ta (.d (.lit j)) (aB ?_))));have h := Option.some.inj h;subst h;exact bB ⟨rfl, _, [.arr j 76 4 (s.map aE)], [.arr (.slice none 0 0) 76 4 (([] : List aG).map aE)], _, .one (.tmp 2 (v := .d (.lit j)) rfl), .refl _, .same _, j, rfl, rfl⟩
 ·have h := aJ c2 h;refine aY (aC (aC (aA (ta (.i 1) (aB (bF ?_))))));refine bY [] (fun (s3 : Int × (List aG) × Value) => [(0, .d (.lit s3.2.2)), (3, .i s3.1)]) (fun (s3 : Int × (List aG) × Value) => [.arr s3.2.2 76 4 (s3.2.1.map aE)]) (fun (k : Nat) (s3 : Int × (List aG) × Value) => dW k s3.1 s3.2.1) (fun _ => rfl) (1, s, j) h (aQ [0] rfl rfl (aI rfl (aI rfl (aN trivial)))) ?_;rintro k5 ⟨c, p, w4⟩ h;simp only [dW] at h;refine aC (aC (aA (tm (.i c) (tm (.d (.lit w4)) (to (kA (m := 0) (aD rfl) rfl rfl dC.of) ?_)))));refine to (scm rfl rfl rfl) (aB ?_);refine aZ rfl (fun c6 => ?_) (fun c6 => ?_)
  ·have h := aK c6 h;refine aY (aC (bF (aC ?_)));obtain ⟨x7, h8, h⟩ := bind_some h;obtain ⟨x9, A, h⟩ := bind_some h;refine cV mix 9 [0, 3] [(19, .agg (aE x7)), (24, .agg (aE x9))] ?_ ?_
   ·refine ⟨[(16, 0, .d (.lit w4)), (17, 1, .i c), (18, 2, .ep w4 4 c.toNat 0), (19, 3, .agg (aE x7)), (20, 4, .d (.lit w4)), (21, 5, .i c), (22, 6, .i (w64 (c - 1))), (23, 7, .ep w4 4 (w64 (c - 1)).toNat 0), (24, 8, .agg (aE x9))], ?_, ?_⟩
    · exact dok [([], []), ([], []), ([0, 1], []), ([2], []), ([], []), ([], []), ([5], []), ([4, 6], []), ([7], [])] ⟨go (zm (.d (.lit w4))),
      go (zm (.i c)),
      go (zia 0 rfl rfl rfl dC.of (bA aE h8)),
      go fun S hS => eG (aD rfl) (aX hS rfl) (l := 0) rfl (dY aE h8) gS (es := (aE x7)) rfl rfl,
      go (zm (.d (.lit w4))),
      go (zm (.i c)),
      go (zar rfl rfl rfl),
      go (zia 0 rfl rfl rfl dC.of (bA aE A)),
      go fun S hS => eG (aD rfl) (aX hS rfl) (l := 0) rfl (dY aE A) gS (es := (aE x9)) rfl rfl, trivial⟩
    · exact cK (aI rfl (aI rfl (aN ⟨rfl, rfl, trivial⟩)))
   ·refine to (aNn (a := x7) (b := x9) (aD rfl) rfl rfl rfl rfl Tryz.eqGuardType76 aKe) ?_;refine aB ?_;refine aZ rfl (fun w => ?_) (fun w => ?_)
    ·have h := aK w h;refine aC (aA (tm (.d (.lit w4)) (tm (.i c) ?_)));obtain ⟨K, G, h⟩ := bind_some h;refine to (xC (m := 0) (aD rfl) rfl rfl rfl dC.of G) ?_;refine ta (.d (.lit (kC w4 c.toNat 4))) (aB (aC (aC (aA (ta (.i 1) (aB (bF ?_)))))));refine bY [] (fun (o : Int × Int × (List aG)) => [(0, .d (.lit w4)), (3, .i o.1), (4, .d (.lit (kC w4 c.toNat 4))), (5, .i o.2.1)]) (fun (o : Int × Int × (List aG)) => [.arr w4 76 4 (o.2.2.map aE)]) (fun (k : Nat) (o : Int × Int × (List aG)) => fA (dW k5) c k o.1 o.2.1 o.2.2) (fun _ => rfl) (c, 1, p) h (aQ [0] rfl rfl (aI rfl (aI rfl (aI rfl (aI rfl (aN trivial)))))) ?_;rintro L ⟨g, e, n⟩ h;simp only [fA] at h;refine aC (aC (aA (tm (.i e) (tm (.d (.lit (kC w4 c.toNat 4))) (to (aLh (m := 0) (aD rfl) rfl rfl dC.of) ?_)))));refine to (scm rfl rfl rfl) (aB ?_);refine aZ rfl (fun x => ?_) (fun x => ?_)
     ·have h := aK x h;refine aY (aC (bF (aC ?_)));obtain ⟨t, B, h⟩ := bind_some h;obtain ⟨u, C, h⟩ := bind_some h;refine cV mix 9 [0, 3, 4, 5] [(38, .agg (aE t)), (43, .agg (aE u))] ?_ ?_
      ·refine ⟨[(35, 0, .d (.lit (kC w4 c.toNat 4))), (36, 1, .i e), (37, 2, .ep w4 4 (c.toNat + e.toNat) 0), (38, 3, .agg (aE t)), (39, 4, .d (.lit (kC w4 c.toNat 4))), (40, 5, .i e), (41, 6, .i (w64 (e - 1))), (42, 7, .ep w4 4 (c.toNat + (w64 (e - 1)).toNat) 0), (43, 8, .agg (aE u))], ?_, ?_⟩
       · exact dok [([], []), ([], []), ([0, 1], []), ([2], []), ([], []), ([], []), ([5], []), ([4, 6], []), ([7], [])] ⟨go (zm (.d (.lit (kC w4 c.toNat 4)))),
      go (zm (.i e)),
      go fun S hS => tE (m := 0) (aD rfl) (aX hS rfl) rfl (aX hS rfl) dC.of (sB (f := aE) B),
      go fun S hS => eG (aD rfl) (aX hS rfl) (l := 0) rfl (aAe aE B) gS (es := (aE t)) rfl rfl,
      go (zm (.d (.lit (kC w4 c.toNat 4)))),
      go (zm (.i e)),
      go (zar rfl rfl rfl),
      go fun S hS => tE (m := 0) (aD rfl) (aX hS rfl) rfl (aX hS rfl) dC.of (sB (f := aE) C),
      go fun S hS => eG (aD rfl) (aX hS rfl) (l := 0) rfl (aAe aE C) gS (es := (aE u)) rfl rfl, trivial⟩
       · exact cK (aI rfl (aI rfl (aN ⟨rfl, rfl, rfl, rfl, trivial⟩)))
      ·refine to (aHy (a := t) (b := u) (aD rfl) rfl rfl rfl rfl Tryz.eqGuardType76 aKe) ?_;refine aB ?_;refine aZ rfl (fun y => ?_) (fun y => ?_)
       ·have h := aK y h;refine aC (aA (tm (.d (.lit w4)) (tm (.i g) (tm (.d (.lit (kC w4 c.toNat 4))) (tm (.i e) ?_)))));obtain ⟨z, E, h⟩ := bind_some h;refine to (tE (m := 0) (aD rfl) rfl rfl rfl dC.of (sB (f := aE) E)) ?_;refine to (eG (aD rfl) rfl (l := 0) rfl (aAe aE E) gS (es := (aE z)) rfl rfl) ?_;obtain ⟨M, F, h⟩ := bind_some h;refine to (dL (m := 0) (aD rfl) rfl rfl rfl dC.of (bA aE F)) ?_;refine to (kZ (l := 0) rfl rfl (dY aE F) rfl rfl rfl Tryz.sizeOf76 rfl (aD rfl) (Nat.le_of_ble_eq_true rfl) (rows' := ((n.set g.toNat z)).map aE) (rW _ _ _ _ rfl)) ?_;refine aB (aA (tm (.i g) (to (sar rfl rfl rfl) (ta (.i (w64 (g + 1))) ?_))));refine cQ ?_;refine aA (tm (.i e) (to (sar rfl rfl rfl) (ta (.i (w64 (e + 1))) (aB ?_))));exact ⟨(w64 (g + 1), w64 (e + 1), (n.set g.toNat z)), h, aQ [0] rfl rfl (aI rfl (aI rfl (aI rfl (aI rfl (aN trivial)))))⟩
       ·have h := aJ y h;refine cR ?_;refine aA (tm (.i e) (to (sar rfl rfl rfl) (ta (.i (w64 (e + 1))) (aB ?_))));exact ⟨(g, w64 (e + 1), n), h, aQ [0] rfl rfl (aI rfl (aI rfl (aI rfl (aI rfl (aN trivial)))))⟩
     ·have h := aJ x h;refine cB ?_;refine .inl ⟨rfl, ?_⟩;simp only [oO] at h;refine aC (aA (tm (.d (.lit w4)) (tm (.i g) ?_)));obtain ⟨N, H, h⟩ := bind_some h;refine to (xC (m := 0) (aD rfl) rfl rfl rfl dC.of H) ?_;obtain ⟨O, I, h⟩ := bind_some h;refine to (aPf (f := aE) (m := 0) dC rfl rfl I (by decide)) ?_;refine aB (aC (aA (tm (.d (.lit w4)) (tm (.i g) ?_))));obtain ⟨P, J, h⟩ := bind_some h;refine to (aHi (m := 0) (q := g.toNat) (v := w4) (aD rfl) rfl rfl rfl rfl (aSy J) dC.of) ?_;refine ta (.d (.lit (lV w4 g.toNat))) (aB ?_);have h := Option.some.inj h;subst h;exact bB ⟨rfl, _, [.arr (lV w4 g.toNat) 76 4 ((n.take g.toNat).map aE)], [], _, .one (.tmp 2 (v := .d (.lit (lV w4 g.toNat))) rfl), .refl _, .same _, (lV w4 g.toNat), rfl, rfl⟩
    ·have h := aJ w h;refine cR ?_;simp only [oN] at h;refine aA (tm (.i c) (to (sar rfl rfl rfl) (ta (.i (w64 (c + 1))) (aB ?_))));exact ⟨(w64 (c + 1), p, w4), h, aQ [0] rfl rfl (aI rfl (aI rfl (aN trivial)))⟩
  ·have h := aJ c6 h;refine cB ?_;refine .inl ⟨rfl, ?_⟩;simp only [oM] at h;refine aC (aA (tm (.d (.lit w4)) (ta (.d (.lit w4)) (aB ?_))));have h := Option.some.inj h;subst h;exact bB ⟨rfl, _, [.arr w4 76 4 (p.map aE)], [], _, .one (.tmp 2 (v := .d (.lit w4)) rfl), .refl _, .same _, w4, rfl, rfl⟩

theorem aHe (q : List aG) {r : (List aG) × Bool} (h : pD q = some r) : Fn Tryz.prog 69 [.d (.sl 4 (q.map aE))] (.tup [.d (.sl 4 (r.1.map aE)), .b r.2]) := by
 unfold pD at h;refine Fn.of_tr Tryz.func69 rfl (rs := [.tmp 2, .tmp 3]) Tryz.results69 Tryz.ntmps69 (Nat.le_of_ble_eq_true rfl) ?_;refine aC (aA (to (aCb 4 (aD rfl)) ?_));refine ta (.b false) (aB (aC (aA (tm (.d (.sl 4 (q.map aE))) ?_))));obtain ⟨r1, h2, h⟩ := bind_some h;refine bE rfl (zT (aD rfl) (.func _ _ Tryz.call93) rfl rfl (aBf _ h2)) ?_;rintro _ ⟨v3, rfl⟩;refine ta (.d (.lit v3)) (aB (aC (aA (tm (.d (.lit v3)) ?_))));obtain ⟨r6, h7, h⟩ := bind_some h;refine bE rfl (fC (passed := [.arr v3 76 4 (r1.map aE)]) (aD rfl) rfl (.func _ _ Tryz.call94) rfl rfl (vX r1 (fun y4 y5 => rV y4 y5) 95 [] Tryz.call95 (fun _ _ _ h => aLu _ _ h) h7)) ?_;rintro _ ⟨_, _, ⟨rfl, rfl⟩, rfl⟩;refine aB (aC (aC (aA (ta (.i 1) (aB (bF ?_))))));refine bY [4] (fun (s8 : Int) => [(5, .i s8)]) (fun (s8 : Int) => [.arr v3 76 4 (r6.map aE)]) (fun (k : Nat) (s8 : Int) => kY r6 k s8) (fun _ => rfl) (1) h (aQ [0] rfl rfl (aI rfl (aN ⟨rfl, trivial⟩))) ?_;rintro k9 c h;simp only [kY] at h;refine aC (aC (aA (tm (.i c) (tm (.d (.lit v3)) (to (kA (m := 0) (aD rfl) rfl rfl dC.of) ?_)))));refine to (scm rfl rfl rfl) (aB ?_);refine aZ rfl (fun u => ?_) (fun u => ?_)
 ·have h := aK u h;refine aY (aC (bF (aC ?_)));obtain ⟨j, s, h⟩ := bind_some h;obtain ⟨n, t, h⟩ := bind_some h;obtain ⟨z, g, h⟩ := bind_some h;refine cV mix 24 [4, 5] [(39, .b z)] ?_ ?_
  ·refine aW (decide (j.Id = n.Id)) (fun e => ?_) (fun e => ?_)
   ·have g := aK e g;obtain ⟨o, x, g⟩ := bind_some g;obtain ⟨p, y, g⟩ := bind_some g;have g := Option.some.inj g;subst g;refine ⟨[(16, 0, .d (.lit v3)), (17, 1, .i c), (18, 2, .ep v3 4 c.toNat 0), (19, 3, .ep v3 4 c.toNat 0), (20, 4, .i j.Id), (21, 5, .d (.lit v3)), (22, 6, .i c), (23, 7, .i (w64 (c - 1))), (24, 8, .ep v3 4 (w64 (c - 1)).toNat 0), (25, 9, .ep v3 4 (w64 (c - 1)).toNat 0), (26, 10, .i n.Id), (27, 11, .b (decide (j.Id = n.Id))), (28, 12, .b (decide (j.Id = n.Id))), (29, 13, .d (.lit v3)), (30, 14, .i c), (31, 15, .ep v3 4 c.toNat 0), (32, 16, .agg (aE o)), (33, 17, .d (.lit v3)), (34, 18, .i c), (35, 19, .i (w64 (c - 1))), (36, 20, .ep v3 4 (w64 (c - 1)).toNat 0), (37, 21, .agg (aE p)), (38, 22, .b (!decide (o = p))), (39, 23, .b (!decide (o = p)))], ?_, ?_⟩
    · exact dok [([], []), ([], []), ([0, 1], []), ([2], []), ([3], []), ([], []), ([], []), ([6], []), ([5, 7], []), ([8], []), ([9], []), ([4, 10], []), ([11], []), ([12], []), ([12], []), ([12, 13, 14], []), ([12, 15], []), ([12], []), ([12], []), ([12, 18], []), ([12, 17, 19], []), ([12, 20], []), ([12, 16, 21], []), ([12, 22], [])] ⟨go (zm (.d (.lit v3))),
      go (zm (.i c)),
      go (zia 0 rfl rfl rfl dC.of (bA aE s)),
      go fun S hS => zU (aD rfl) (aX hS rfl) nD,
      go fun S hS => iU (aD rfl) (aX hS rfl) (m := 0) rfl (dY aE s) rfl aU,
      go (zm (.d (.lit v3))),
      go (zm (.i c)),
      go (zar rfl rfl rfl),
      go (zia 0 rfl rfl rfl dC.of (bA aE t)),
      go fun S hS => zU (aD rfl) (aX hS rfl) nD,
      go fun S hS => iU (aD rfl) (aX hS rfl) (m := 0) rfl (dY aE t) rfl aU,
      go (zcm rfl rfl rfl),
      go (zm (.b (decide (j.Id = n.Id)))),
      gt e (zm (.d (.lit v3))),
      gt e (zm (.i c)),
      gt e (zia 0 rfl rfl rfl dC.of (bA aE x)),
      gt e fun S hS => eG (aD rfl) (aX hS rfl) (l := 0) rfl (dY aE x) gS (es := (aE o)) rfl rfl,
      gt e (zm (.d (.lit v3))),
      gt e (zm (.i c)),
      gt e (zar rfl rfl rfl),
      gt e (zia 0 rfl rfl rfl dC.of (bA aE y)),
      gt e fun S hS => eG (aD rfl) (aX hS rfl) (l := 0) rfl (dY aE y) gS (es := (aE p)) rfl rfl,
      gt e fun S hS => aHy (a := o) (b := p) (aD rfl) (aX hS rfl) (aX hS rfl) rfl rfl Tryz.eqGuardType76 aKe,
      go (zpt (.b (!decide (o = p))) e), trivial⟩
    · exact cK (aI rfl (aN ⟨rfl, rfl, trivial⟩))
   ·have g := aJ e g;have g := Option.some.inj g;subst g;refine ⟨[(16, 0, .d (.lit v3)), (17, 1, .i c), (18, 2, .ep v3 4 c.toNat 0), (19, 3, .ep v3 4 c.toNat 0), (20, 4, .i j.Id), (21, 5, .d (.lit v3)), (22, 6, .i c), (23, 7, .i (w64 (c - 1))), (24, 8, .ep v3 4 (w64 (c - 1)).toNat 0), (25, 9, .ep v3 4 (w64 (c - 1)).toNat 0), (26, 10, .i n.Id), (27, 11, .b (decide (j.Id = n.Id))), (28, 12, .b (decide (j.Id = n.Id))), (29, 13, .tup []), (30, 14, .tup []), (31, 15, .tup []), (32, 16, .tup []), (33, 17, .tup []), (34, 18, .tup []), (35, 19, .tup []), (36, 20, .tup []), (37, 21, .tup []), (38, 22, .tup []), (39, 23, .b false)], ?_, ?_⟩
    · exact dok [([], []), ([], []), ([0, 1], []), ([2], []), ([3], []), ([], []), ([], []), ([6], []), ([5, 7], []), ([8], []), ([9], []), ([4, 10], []), ([11], []), ([12], []), ([12], []), ([12, 13, 14], []), ([12, 15], []), ([12], []), ([12], []), ([12, 18], []), ([12, 17, 19], []), ([12, 20], []), ([12, 16, 21], []), ([12, 22], [])] ⟨go (zm (.d (.lit v3))),
      go (zm (.i c)),
      go (zia 0 rfl rfl rfl dC.of (bA aE s)),
      go fun S hS => zU (aD rfl) (aX hS rfl) nD,
      go fun S hS => iU (aD rfl) (aX hS rfl) (m := 0) rfl (dY aE s) rfl aU,
      go (zm (.d (.lit v3))),
      go (zm (.i c)),
      go (zar rfl rfl rfl),
      go (zia 0 rfl rfl rfl dC.of (bA aE t)),
      go fun S hS => zU (aD rfl) (aX hS rfl) nD,
      go fun S hS => iU (aD rfl) (aX hS rfl) (m := 0) rfl (dY aE t) rfl aU,
      go (zcm rfl rfl rfl),
      go (zm (.b (decide (j.Id = n.Id)))),
      gp e,
      gp e,
      gp e,
      gp e,
      gp e,
      gp e,
      gp e,
      gp e,
      gp e,
      gp e,
      go (zpf (.b false) e), trivial⟩
    · exact cK (aI rfl (aN ⟨rfl, rfl, trivial⟩))
  ·refine aB ?_;refine aZ rfl (fun w => ?_) (fun w => ?_)
   ·have h := aK w h;refine aC (aA (to (aCb 4 (aD rfl)) ?_));refine ta (.b false) (aB ?_);have h := Option.some.inj h;subst h;refine bT (bL (bO (l := [2, 3]) ⟨rfl, rfl, trivial⟩)) ?_;exact bB ⟨rfl, _, .two _ _, rfl, rfl⟩
   ·have h := aJ w h;refine cR ?_;refine aA (tm (.i c) (to (sar rfl rfl rfl) (ta (.i (w64 (c + 1))) (aB ?_))));exact ⟨(w64 (c + 1)), h, aQ [0] rfl rfl (aI rfl (aN ⟨rfl, trivial⟩))⟩
 ·have h := aJ u h;refine cB ?_;refine .inl ⟨rfl, ?_⟩;simp only [zF] at h;refine aC (aA (tm (.d (.lit v3)) ?_));obtain ⟨A, B, h⟩ := bind_some h;refine bE rfl (fC (passed := [.arr v3 76 4 (r6.map aE)]) (aD rfl) rfl (.func _ _ Tryz.call96) rfl rfl (zX r6 B)) ?_;rintro _ ⟨_, _, ⟨C, rfl, rfl⟩, rfl⟩;refine ta (.d (.lit C)) (ta (.b true) (aB ?_));have h := Option.some.inj h;subst h;refine bT (bL (wD (k := 3) (v := .b true) (.same _) (wD (k := 2) (v := .d (.sl 4 (A.map aE))) (.d (nV 0 rfl (cP (f := aE) fun _ => rfl))) (aCq)))) ?_;exact bB ⟨rfl, _, .two _ _, rfl, rfl⟩

theorem aJp (B : aR) {r : Bool} (h : rT B = some r) : Fn Tryz.prog 48 [.agg (aP B)] (.b r) := by
 unfold rT at h;refine Fn.of_tr Tryz.func48 rfl (rs := [.tmp 2]) Tryz.results48 Tryz.ntmps48 (Nat.le_of_ble_eq_true rfl) ?_;refine aC (aA ?_);refine bE rfl (dN (v := .agg (aP B)) (aD rfl) rfl rfl rfl) ?_;rintro _ ⟨b1, rfl⟩;refine ta (.b false) (aB (aC (aA (to (sla 0 (aP B) rfl rfl eI) ?_))));obtain ⟨r2, h3, h⟩ := bind_some h;refine to (fB (aD rfl) (.func _ _ Tryz.call55) rfl rfl (wY _ h3)) ?_;refine ta (.d (.sl 1 (r2.map aM))) (aB (aC (aC (aA (to (sf rfl nC) (to (sl 0 rfl rfl rfl sY) (to (sle rfl dC.of) (tm (.i 0) (aB (bF ?_))))))))));refine bY [1, 3, 12, 13] (fun (s4 : Int) => [(14, .i s4)]) (fun (s4 : Int) => [.box b1 0 (aP B)]) (fun (k : Nat) (s4 : Int) => jE r2 B.Items (B.Items.length : Int) B k s4) (fun _ => rfl) (0) h (aQ [0] rfl rfl (aI rfl (aN ⟨rfl, rfl, rfl, rfl, trivial⟩))) ?_;rintro k5 x h;simp only [jE] at h;refine aC (aA (to (scm rfl rfl rfl) (aB (aC ?_))));refine aZ rfl (fun c6 => ?_) (fun c6 => ?_)
 ·have h := aK c6 h;refine aY (aC (bF (aC (aA ?_))));obtain ⟨x7, h8, h⟩ := bind_some h;refine to (six rfl rfl dC.of (bA aE h8)) (to (qH (aE x7) rfl gS) ?_);refine bE rfl (cM (zs := [.lit (.int .i64 0), .lit (.int .i64 0), .lit (.int .i64 0), .lit (.int .i64 0)]) (aD rfl) Tryz.zeroValue76 rfl rfl) ?_;rintro _ ⟨b9, rfl⟩;refine to (sst 1 rfl rfl Tryz.sizeOf76 (aE x7)) (aB (aC (aA (ta (.i 10000000) (aB (aC (aC (aA (to (sf rfl uC) (to (sl 1 rfl rfl rfl aU) (to (scm rfl rfl rfl) (aB ?_))))))))))));refine aZ rfl (fun E => ?_) (fun E => ?_)
  ·have h := aK E h;refine aA (ta (.i 30) (aB (aC (aA (to (sf rfl uC) (to (sl 1 rfl rfl rfl aU) (to (scm rfl rfl rfl) (tm (.b (!decide (x7.Kind = 1))) ?_))))))));obtain ⟨F, y, h⟩ := bind_some h;refine bH 4 [1, 3, 5, 6, 12, 13, 14] 28 F ?_ ?_
   ·refine aW (!decide (x7.Kind = 1)) (fun u => ?_) (fun u => ?_)
    ·have y := aK u y;refine tk u (sf rfl uC) (tk u (sl 1 rfl rfl rfl aU) (tk u (scm rfl rfl rfl) (to (spt (.b (!decide (x7.Kind = 2))) u) ?_)));have y := Option.some.inj y;subst y;refine aB (aO rfl ⟨rfl, rfl, rfl, rfl, rfl, rfl, rfl, trivial⟩ rfl)
    ·have y := aJ u y;refine tp u (tp u (tp u (to (spf (.b false) u) ?_)));have y := Option.some.inj y;subst y;refine aB (aO rfl ⟨rfl, rfl, rfl, rfl, rfl, rfl, rfl, trivial⟩ rfl)
   ·refine tm (.b F) ?_;obtain ⟨G, n, h⟩ := bind_some h;refine bH 5 [1, 3, 5, 6, 12, 13, 14] 34 G ?_ ?_
    ·refine aW (F) (fun g => ?_) (fun g => ?_)
     ·have n := aK g n;refine tp g (tp g (tp g (tp g (to (spt (.b true) g) ?_))));have n := Option.some.inj n;subst n;refine aB (aO rfl ⟨rfl, rfl, rfl, rfl, rfl, rfl, rfl, trivial⟩ rfl)
     ·have n := aJ g n;refine tk g (sf rfl nD) (tk g (sl 1 rfl rfl rfl aU) ?_);obtain ⟨O, P, n⟩ := bind_some n;refine tk g (scr Tryz.call61 (gW _ _ _ P)) (tk g (sn rfl) (to (spf (.b (!O)) g) ?_));have n := Option.some.inj n;subst n;refine aB (aO rfl ⟨rfl, rfl, rfl, rfl, rfl, rfl, rfl, trivial⟩ rfl)
    ·refine tm (.b G) ?_;obtain ⟨H, o, h⟩ := bind_some h;refine bH 6 [1, 3, 5, 6, 12, 13, 14] 41 H ?_ ?_
     ·refine aW (G) (fun a => ?_) (fun a => ?_)
      ·have o := aK a o;refine tp a (tp a (tp a (tp a (tp a (to (spt (.b true) a) ?_)))));have o := Option.some.inj o;subst o;refine aB (aO rfl ⟨rfl, rfl, rfl, rfl, rfl, rfl, rfl, trivial⟩ rfl)
      ·have o := aJ a o;refine tk a (sm (.d (.sl 1 (r2.map aM)))) (tk a (sf rfl aDt) (tk a (sl 1 rfl rfl rfl aU) ?_));obtain ⟨Q, S, o⟩ := bind_some o;refine tk a (scr Tryz.call60 (fE _ _ S)) (tk a (sn rfl) (to (spf (.b (!Q)) a) ?_));have o := Option.some.inj o;subst o;refine aB (aO rfl ⟨rfl, rfl, rfl, rfl, rfl, rfl, rfl, trivial⟩ rfl)
     ·refine tm (.b H) ?_;obtain ⟨T, p, h⟩ := bind_some h;refine bH 6 [1, 3, 12, 13, 14] 48 T ?_ ?_
      ·refine aW (H) (fun c => ?_) (fun c => ?_)
       ·have p := aK c p;refine tp c (tp c (tp c (tp c (tp c (to (spt (.b true) c) ?_)))));have p := Option.some.inj p;subst p;refine aB (aO rfl ⟨rfl, rfl, rfl, rfl, rfl, trivial⟩ rfl)
       ·have p := aJ c p;refine tk c (sf rfl xT) (tk c (sl 1 rfl rfl rfl aU) (tk c (sm (.i 30)) ?_));obtain ⟨U, V, p⟩ := bind_some p;refine tk c (scr Tryz.call61 (gW _ _ _ V)) (tk c (sn rfl) (to (spf (.b (!U)) c) ?_));have p := Option.some.inj p;subst p;refine aB (aO rfl ⟨rfl, rfl, rfl, rfl, rfl, trivial⟩ rfl)
      ·refine aB ?_;refine aZ rfl (fun I => ?_) (fun I => ?_)
       ·have h := aK I h;refine aC (aA (ta (.b false) (aB ?_)));have h := Option.some.inj h;subst h;refine bT (bL (bO (l := [2]) ⟨rfl, trivial⟩)) ?_;exact bB ⟨rfl, _, .one _, rfl, rfl⟩
       ·have h := aJ I h;refine cR ?_;refine aA (to (sar rfl rfl rfl) (tm (.i (w64 (x + 1))) (aB ?_)));exact ⟨(w64 (x + 1)), h, aQ [0] rfl rfl (aI rfl (aN ⟨rfl, rfl, rfl, rfl, trivial⟩))⟩
  ·have h := aJ E h;refine aY (aC (aA (to (sf rfl uC) (to (sl 1 rfl rfl rfl aU) (to (scm rfl rfl rfl) (tm (.b (!decide (x7.Kind = 1))) ?_))))));obtain ⟨J, z, h⟩ := bind_some h;refine bH 4 [1, 3, 5, 6, 12, 13, 14] 28 J ?_ ?_
   ·refine aW (!decide (x7.Kind = 1)) (fun w => ?_) (fun w => ?_)
    ·have z := aK w z;refine tk w (sf rfl uC) (tk w (sl 1 rfl rfl rfl aU) (tk w (scm rfl rfl rfl) (to (spt (.b (!decide (x7.Kind = 2))) w) ?_)));have z := Option.some.inj z;subst z;refine aB (aO rfl ⟨rfl, rfl, rfl, rfl, rfl, rfl, rfl, trivial⟩ rfl)
    ·have z := aJ w z;refine tp w (tp w (tp w (to (spf (.b false) w) ?_)));have z := Option.some.inj z;subst z;refine aB (aO rfl ⟨rfl, rfl, rfl, rfl, rfl, rfl, rfl, trivial⟩ rfl)
   ·refine tm (.b J) ?_;obtain ⟨K, q, h⟩ := bind_some h;refine bH 5 [1, 3, 5, 6, 12, 13, 14] 34 K ?_ ?_
    ·refine aW (J) (fun j => ?_) (fun j => ?_)
     ·have q := aK j q;refine tp j (tp j (tp j (tp j (to (spt (.b true) j) ?_))));have q := Option.some.inj q;subst q;refine aB (aO rfl ⟨rfl, rfl, rfl, rfl, rfl, rfl, rfl, trivial⟩ rfl)
     ·have q := aJ j q;refine tk j (sf rfl nD) (tk j (sl 1 rfl rfl rfl aU) ?_);obtain ⟨W, X, q⟩ := bind_some q;refine tk j (scr Tryz.call61 (gW _ _ _ X)) (tk j (sn rfl) (to (spf (.b (!W)) j) ?_));have q := Option.some.inj q;subst q;refine aB (aO rfl ⟨rfl, rfl, rfl, rfl, rfl, rfl, rfl, trivial⟩ rfl)
    ·refine tm (.b K) ?_;obtain ⟨L, s, h⟩ := bind_some h;refine bH 6 [1, 3, 5, 6, 12, 13, 14] 41 L ?_ ?_
     ·refine aW (K) (fun e => ?_) (fun e => ?_)
      ·have s := aK e s;refine tp e (tp e (tp e (tp e (tp e (to (spt (.b true) e) ?_)))));have s := Option.some.inj s;subst s;refine aB (aO rfl ⟨rfl, rfl, rfl, rfl, rfl, rfl, rfl, trivial⟩ rfl)
      ·have s := aJ e s;refine tk e (sm (.d (.sl 1 (r2.map aM)))) (tk e (sf rfl aDt) (tk e (sl 1 rfl rfl rfl aU) ?_));obtain ⟨Y, Z, s⟩ := bind_some s;refine tk e (scr Tryz.call60 (fE _ _ Z)) (tk e (sn rfl) (to (spf (.b (!Y)) e) ?_));have s := Option.some.inj s;subst s;refine aB (aO rfl ⟨rfl, rfl, rfl, rfl, rfl, rfl, rfl, trivial⟩ rfl)
     ·refine tm (.b L) ?_;obtain ⟨a0, t, h⟩ := bind_some h;refine bH 6 [1, 3, 12, 13, 14] 48 a0 ?_ ?_
      ·refine aW (L) (fun f => ?_) (fun f => ?_)
       ·have t := aK f t;refine tp f (tp f (tp f (tp f (tp f (to (spt (.b true) f) ?_)))));have t := Option.some.inj t;subst t;refine aB (aO rfl ⟨rfl, rfl, rfl, rfl, rfl, trivial⟩ rfl)
       ·have t := aJ f t;refine tk f (sf rfl xT) (tk f (sl 1 rfl rfl rfl aU) (tk f (sm (.i 10000000)) ?_));obtain ⟨a1, a2, t⟩ := bind_some t;refine tk f (scr Tryz.call61 (gW _ _ _ a2)) (tk f (sn rfl) (to (spf (.b (!a1)) f) ?_));have t := Option.some.inj t;subst t;refine aB (aO rfl ⟨rfl, rfl, rfl, rfl, rfl, trivial⟩ rfl)
      ·refine aB ?_;refine aZ rfl (fun M => ?_) (fun M => ?_)
       ·have h := aK M h;refine aC (aA (ta (.b false) (aB ?_)));have h := Option.some.inj h;subst h;refine bT (bL (bO (l := [2]) ⟨rfl, trivial⟩)) ?_;exact bB ⟨rfl, _, .one _, rfl, rfl⟩
       ·have h := aJ M h;refine cR ?_;refine aA (to (sar rfl rfl rfl) (tm (.i (w64 (x + 1))) (aB ?_)));exact ⟨(w64 (x + 1)), h, aQ [0] rfl rfl (aI rfl (aN ⟨rfl, rfl, rfl, rfl, trivial⟩))⟩
 ·have h := aJ c6 h;refine cB ?_;refine .inl ⟨rfl, ?_⟩;simp only [rM] at h;refine aC (aA (to (sf rfl nC) (to (sl 0 rfl rfl rfl sY) ?_)));obtain ⟨C, a3, h⟩ := bind_some h;refine to (fB (aD rfl) (.func _ _ Tryz.call69) rfl rfl (aHe _ a3)) ?_;refine tm (.tup [.d (.sl 4 (C.1.map aE)), .b C.2]) (to (sex rfl rfl) (to (sex rfl rfl) (ta (.d (.sl 4 (C.1.map aE))) (ta (.b C.2) (aB (aC (aA (tm (.b C.2) (tm (.b C.2) ?_)))))))));obtain ⟨N, A, h⟩ := bind_some h;refine bH 5 [] 62 N ?_ ?_
  ·refine aW (C.2) (fun m => ?_) (fun m => ?_)
   ·have A := aK m A;refine tk m (sf rfl nC) (tk m (sl 0 rfl rfl rfl sY) (tk m (sle rfl dC.of) (tk m (scm rfl rfl rfl) (to (spt (.b (decide ((B.Items.length : Int) ≤ 40))) m) ?_))));have A := Option.some.inj A;subst A;refine aB (aO rfl trivial rfl)
   ·have A := aJ m A;refine tp m (tp m (tp m (tp m (to (spf (.b false) m) ?_))));have A := Option.some.inj A;subst A;refine aB (aO rfl trivial rfl)
  ·refine ta (.b N) (aB ?_);have h := Option.some.inj h;subst h;refine bT (bL (bO (l := [2]) ⟨rfl, trivial⟩)) ?_;exact bB ⟨rfl, _, .one _, rfl, rfl⟩

theorem aJz (a0 : aV) (a1 : List aF) {r : Int} (h : tM a0 a1 = some r) : Fn Tryz.prog 45 [.agg (bC a0), .d (.sl 5 (a1.map aL))] ((fun x : Int => .i x) r) := aOl (enc := fun x : Int => .i x) (aJy a0 a1 (aIb a0 a1 h (fun x => x = r) rfl))

theorem zE (a : aR) {r : Int} (h : rK a = some r) : Fn Tryz.prog 23 [.agg (aP a)] (.i r) := by
 unfold rK at h;refine Fn.of_tr Tryz.func23 rfl (rs := [.tmp 2]) Tryz.results23 Tryz.ntmps23 (Nat.le_of_ble_eq_true rfl) ?_;refine aC (aA ?_);refine bE rfl (dN (v := .agg (aP a)) (aD rfl) rfl rfl rfl) ?_;rintro _ ⟨b1, rfl⟩;refine ta (.i 0) (aB (aC (aC (aA (to (sf rfl gH) (to (sla 0 (bC a.Tree) rfl rfl jR) (to (sf rfl oG) (to (sl 0 rfl rfl rfl uG) ?_))))))));obtain ⟨r2, h3, h⟩ := bind_some h;refine to (scr Tryz.call45 (aJz _ _ h3)) (ta (.i r2) (aB (aC (aA (tm (.i r2) (to (scm rfl rfl rfl) (aB ?_)))))));refine aZ rfl (fun c4 => ?_) (fun c4 => ?_)
 ·have h := aK c4 h;refine aC (aA (tm (.i r2) (ta (.i r2) (aB ?_))));have h := Option.some.inj h;subst h;refine bT (bL (bO (l := [2]) ⟨rfl, trivial⟩)) ?_;exact bB ⟨rfl, _, .one _, rfl, rfl⟩
 ·have h := aJ c4 h;refine aY (aC (bF (aC (aA (to (sla 0 (aP a) rfl rfl eI) ?_)))));obtain ⟨r5, h6, h⟩ := bind_some h;refine to (scr Tryz.call46 (aLc _ h6)) (to (sn rfl) (ta (.b (!r5)) (aB ?_)));refine aZ rfl (fun c7 => ?_) (fun c7 => ?_)
  ·have h := aK c7 h;refine aC (aA (ta (.i 100) (aB ?_)));have h := Option.some.inj h;subst h;refine bT (bL (bO (l := [2]) ⟨rfl, trivial⟩)) ?_;exact bB ⟨rfl, _, .one _, rfl, rfl⟩
  ·have h := aJ c7 h;refine aC (aA (to (sla 0 (aP a) rfl rfl eI) ?_));obtain ⟨r8, h9, h⟩ := bind_some h;refine to (scr Tryz.call47 (aJq _ h9)) (to (sn rfl) (ta (.b (!r8)) (aB ?_)));refine aZ rfl (fun c => ?_) (fun c => ?_)
   ·have h := aK c h;refine aC (aA (ta (.i 101) (aB ?_)));have h := Option.some.inj h;subst h;refine bT (bL (bO (l := [2]) ⟨rfl, trivial⟩)) ?_;exact bB ⟨rfl, _, .one _, rfl, rfl⟩
   ·have h := aJ c h;refine aC (aA (to (sla 0 (aP a) rfl rfl eI) ?_));obtain ⟨e, f, h⟩ := bind_some h;refine to (scr Tryz.call48 (aJp _ f)) (to (sn rfl) (ta (.b (!e)) (aB ?_)));refine aZ rfl (fun d => ?_) (fun d => ?_)
    ·have h := aK d h;refine aC (aA (ta (.i 102) (aB ?_)));have h := Option.some.inj h;subst h;refine bT (bL (bO (l := [2]) ⟨rfl, trivial⟩)) ?_;exact bB ⟨rfl, _, .one _, rfl, rfl⟩
    ·have h := aJ d h;refine cR ?_;refine aC (aA (ta (.i 0) (aB ?_)));have h := Option.some.inj h;subst h;refine bT (bL (bO (l := [2]) ⟨rfl, trivial⟩)) ?_;exact bB ⟨rfl, _, .one _, rfl, rfl⟩

theorem aHa (b : aR) {r : Int × Int} (h : pC b = some r) : Fn Tryz.prog 31 [.agg (aP b)] (.tup [.i r.1, .i r.2]) := by
 unfold pC at h;refine Fn.of_tr Tryz.func31 rfl (rs := [.tmp 2, .tmp 3]) Tryz.results31 Tryz.ntmps31 (Nat.le_of_ble_eq_true rfl) ?_;refine aC (aA ?_);refine bE rfl (dN (v := .agg (aP b)) (aD rfl) rfl rfl rfl) ?_;rintro _ ⟨b1, rfl⟩;refine ta (.i 0) (ta (.i 0) (aB (aC (aC (aA (to (sla 0 (aP b) rfl rfl eI) ?_))))));obtain ⟨r2, h3, h⟩ := bind_some h;refine to (scr Tryz.call23 (zE _ h3)) (ta (.i r2) (aB (aC (aA (tm (.i r2) (to (scm rfl rfl rfl) (aB ?_)))))));refine aZ rfl (fun c4 => ?_) (fun c4 => ?_)
 ·have h := aK c4 h;refine aC (aA (tm (.i r2) (ta (.i 0) (ta (.i r2) (aB ?_)))));have h := Option.some.inj h;subst h;refine bT (bL (bO (l := [2, 3]) ⟨rfl, rfl, trivial⟩)) ?_;exact bB ⟨rfl, _, .two _ _, rfl, rfl⟩
 ·have h := aJ c4 h;refine aY (aC (aA (to (sf rfl fP) (to (sl 0 rfl rfl rfl cI) (to (sf rfl gH) (to (sf rfl fI) (to (sl 0 rfl rfl rfl aU) ?_)))))));obtain ⟨x5, h6, h⟩ := bind_some h;refine to (six rfl rfl bJ.of (bA aM h6)) (to (slc rfl aU) (ta (.i x5) (aB (aC (aC (aA (to (sf rfl gH) (to (sf rfl fI) (to (sl 0 rfl rfl rfl aU) (tm (.i 0) (aB (bF ?_))))))))))));refine bY [1, 23] (fun (s7 : Int × Int) => [(5, .i s7.1), (24, .i s7.2)]) (fun (s7 : Int × Int) => [.box b1 0 (aP b)]) (fun (k : Nat) (s7 : Int × Int) => mI b.Tree.Rounds b k s7.1 s7.2) (fun _ => rfl) (x5, 0) h (aQ [0] rfl rfl (aI rfl (aI rfl (aN ⟨rfl, rfl, trivial⟩)))) ?_;rintro k8 ⟨f, a⟩ h;simp only [mI] at h;refine aC (aA (to (scm rfl rfl rfl) (aB (aC ?_))));refine aZ rfl (fun c9 => ?_) (fun c9 => ?_)
  ·have h := aK c9 h;refine aY (aC (bF (aC (aA (tm (.i a) (ta (.i a) (aB ?_)))))));obtain ⟨g, q, h⟩ := bind_some h;obtain ⟨w, s, h⟩ := bind_some h;refine cV mix 13 [1, 23, 24] [(27, .i f), (39, .i (w64 (g * 2 ^ (min (w64 ((w64 (b.Tree.Rounds - 1)) - a)).toNat 64))))] ?_ ?_
   ·refine ⟨[(27, 0, .i f), (28, 1, .bp b1 0 3), (29, 2, .d (.sl 1 (b.Prizes.map aM))), (30, 3, .i a), (31, 4, .cp [.lit (.int .i64 g)]), (32, 5, .i g), (33, 6, .bp b1 0 0), (34, 7, .bp b1 0 0), (35, 8, .i b.Tree.Rounds), (36, 9, .i (w64 (b.Tree.Rounds - 1))), (37, 10, .i a), (38, 11, .i (w64 ((w64 (b.Tree.Rounds - 1)) - a))), (39, 12, .i (w64 (g * 2 ^ (min (w64 ((w64 (b.Tree.Rounds - 1)) - a)).toNat 64))))], ?_, ?_⟩
    · exact dok [([], []), ([], []), ([1], []), ([], []), ([2, 3], []), ([4], []), ([], []), ([6], []), ([7], []), ([8], []), ([], []), ([9, 10], []), ([5, 11], [])] ⟨go (zm (.i f)),
      go (zf rfl fP),
      go (zl 0 rfl rfl rfl cI),
      go (zm (.i a)),
      go (zix rfl rfl bJ.of (bA aM q)),
      go (zlc rfl aU),
      go (zf rfl gH),
      go (zf rfl fI),
      go (zl 0 rfl rfl rfl aU),
      go (zar rfl rfl rfl),
      go (zm (.i a)),
      go (zar rfl rfl rfl),
      go fun S hS => aNo (aD rfl) (aX hS rfl) (aX hS rfl) (vI s), trivial⟩
    · exact cK (aI rfl (aI rfl (aN ⟨rfl, rfl, rfl, trivial⟩)))
   ·refine to (sar rfl rfl rfl) (ta (.i (w64 (f + (w64 (g * 2 ^ (min (w64 ((w64 (b.Tree.Rounds - 1)) - a)).toNat 64)))))) ?_);refine cQ ?_;refine aA (to (sar rfl rfl rfl) (tm (.i (w64 (a + 1))) (aB ?_)));exact ⟨(w64 (f + (w64 (g * 2 ^ (min (w64 ((w64 (b.Tree.Rounds - 1)) - a)).toNat 64)))), w64 (a + 1)), h, aQ [0] rfl rfl (aI rfl (aI rfl (aN ⟨rfl, rfl, trivial⟩)))⟩
  ·have h := aJ c9 h;refine cB ?_;refine .inl ⟨rfl, ?_⟩;simp only [vL] at h;refine aC (aC (aA (to (sf rfl gH) (to (sf rfl dM) (to (sl 0 rfl rfl rfl cI) (to (sle rfl bJ.of) (tm (.i 0) (aB (bF ?_)))))))));refine bY [1, 44, 45] (fun (j : Int × Int) => [(5, .i j.1), (46, .i j.2)]) (fun (j : Int × Int) => [.box b1 0 (aP b)]) (fun (k : Nat) (j : Int × Int) => mJ b.Tree.Slots (b.Tree.Slots.length : Int) b k j.1 j.2) (fun _ => rfl) (f, 0) h (aQ [0] rfl rfl (aI rfl (aI rfl (aN ⟨rfl, rfl, rfl, trivial⟩)))) ?_;rintro x ⟨c, e⟩ h;simp only [mJ] at h;refine aC (aA (to (scm rfl rfl rfl) (aB (aC ?_))));refine aZ rfl (fun m => ?_) (fun m => ?_)
   ·have h := aK m h;refine aY (aC (bF (aC (aA ?_))));obtain ⟨o, t, h⟩ := bind_some h;refine to (six rfl rfl bJ.of (bA aM t)) (to (slc rfl aU) (ta (.i o) (aB (aC (aA (tm (.i o) (to (scm rfl rfl rfl) (aB ?_))))))));refine aZ rfl (fun n => ?_) (fun n => ?_)
    ·have h := aK n h;refine aA (tm (.i c) (to (sf rfl fP) (to (sl 0 rfl rfl rfl cI) ?_)));obtain ⟨p, u, h⟩ := bind_some h;refine to (six rfl rfl bJ.of (bA aM u)) (to (slc rfl aU) (to (sar rfl rfl rfl) (ta (.i (w64 (c - p))) ?_)));refine cQ ?_;refine aA (to (sar rfl rfl rfl) (tm (.i (w64 (e + 1))) (aB ?_)));exact ⟨(w64 (c - p), w64 (e + 1)), h, aQ [0] rfl rfl (aI rfl (aI rfl (aN ⟨rfl, rfl, rfl, trivial⟩)))⟩
    ·have h := aJ n h;refine cR ?_;refine aA (to (sar rfl rfl rfl) (tm (.i (w64 (e + 1))) (aB ?_)));exact ⟨(c, w64 (e + 1)), h, aQ [0] rfl rfl (aI rfl (aI rfl (aN ⟨rfl, rfl, rfl, trivial⟩)))⟩
   ·have h := aJ m h;refine cB ?_;refine .inl ⟨rfl, ?_⟩;simp only [aFb] at h;refine aC (aA (tm (.i c) (ta (.i c) (ta (.i 0) (aB ?_)))));have h := Option.some.inj h;subst h;refine bT (bL (bO (l := [2, 3]) ⟨rfl, rfl, trivial⟩)) ?_;exact bB ⟨rfl, _, .two _ _, rfl, rfl⟩

theorem yZ (e : List bZ) (g : bZ → Option Bool) {r : Int} (c : Nat) (f : List AV) (j : ∀ args w, (callFunc c args).run Tryz.prog w = .ok (.enter c args) w) (l : ∀ (x0 : bZ) r, g x0 = some r → Fn Tryz.prog c ([.agg (bM x0)] ++ f) (.b r)) (h : lW e g = some r) : Fn Tryz.prog 71 [.d (.sl 3 (e.map bM)), .fn c f] (.i r) := by
 unfold lW at h;refine Fn.of_tr Tryz.func71 rfl (rs := [.tmp 4]) Tryz.results71 Tryz.ntmps71 (Nat.le_of_ble_eq_true rfl) ?_;refine aC (aA (ta (.i 0) (aB (aC (aC (aA (tm (.d (.sl 3 (e.map bM))) (to (sle rfl mA.of) (tm (.i 0) (aB (bF ?_)))))))))));refine bY [0, 1, 7] (fun (s1 : Int) => [(8, .i s1)]) (fun (s1 : Int) => []) (fun (k : Nat) (s1 : Int) => fH e g (e.length : Int) k s1) (fun _ => rfl) (0) h (aQ [] rfl rfl (aI rfl (aN ⟨rfl, rfl, rfl, trivial⟩))) ?_;rintro k2 a h;simp only [fH] at h;refine aC (aA (to (scm rfl rfl rfl) (aB (aC ?_))));refine aZ rfl (fun c3 => ?_) (fun c3 => ?_)
 ·have h := aK c3 h;refine aY (aC (bF (aC (aA (tm (.i a) (ta (.i a) (aB (aC (aA (tm (.fn c f) (tm (.d (.sl 3 (e.map bM))) (tm (.i a) ?_))))))))))));obtain ⟨x4, h5, h⟩ := bind_some h;refine to (six rfl rfl mA.of (bA bM h5)) (to (qH (bM x4) rfl tR) ?_);obtain ⟨r6, h7, h⟩ := bind_some h;refine to (fS (aD rfl) (.clo _ _ _ _ j rfl) (aAl rfl) rfl (BVs.refl _ _) (l _ _  h7) rfl) ?_;refine aB ?_;refine aZ rfl (fun c8 => ?_) (fun c8 => ?_)
  ·have h := aK c8 h;refine aC (aA (tm (.i a) (ta (.i a) (aB ?_))));have h := Option.some.inj h;subst h;exact bB ⟨rfl, _, .one _, rfl, rfl⟩
  ·have h := aJ c8 h;refine cR ?_;refine aA (to (sar rfl rfl rfl) (tm (.i (w64 (a + 1))) (aB ?_)));exact ⟨(w64 (a + 1)), h, aQ [] rfl rfl (aI rfl (aN ⟨rfl, rfl, rfl, trivial⟩))⟩
 ·have h := aJ c3 h;refine cB ?_;refine .inl ⟨rfl, ?_⟩;simp only [sA] at h;refine aC (aA (ta (.i (-1)) (aB ?_)));have h := Option.some.inj h;subst h;exact bB ⟨rfl, _, .one _, rfl, rfl⟩

theorem aLb (a : bZ) (c : Int) {r : Bool} (h : tA a c = some r) : Fn Tryz.prog 72 [.agg (bM a), .cp [.lit (.int .i64 c)]] (.b r) := by
 unfold tA at h;refine Fn.of_tr Tryz.func72 rfl (rs := [.tmp 3]) Tryz.results72 Tryz.ntmps72 (Nat.le_of_ble_eq_true rfl) ?_;refine aC (aA ?_);refine bE rfl (dN (v := .agg (bM a)) (aD rfl) rfl rfl rfl) ?_;rintro _ ⟨b1, rfl⟩;refine ta (.b false) (aB (aC (aA (to (sf rfl pW) (to (sl 0 rfl rfl rfl aU) (to (slc rfl aU) (to (scm rfl rfl rfl) (tm (.b (decide (a.One = c))) ?_))))))));obtain ⟨b2, h3, h⟩ := bind_some h;refine bH 10 [] 18 b2 ?_ ?_
 ·refine aW (decide (a.One = c)) (fun c4 => ?_) (fun c4 => ?_)
  ·have h3 := aK c4 h3;refine tp c4 (tp c4 (tp c4 (tp c4 (tp c4 (tq (tq (tq (tp c4 (to (spt (.b true) c4) ?_)))))))));have h3 := Option.some.inj h3;subst h3;refine aB (aO rfl trivial rfl)
  ·have h3 := aJ c4 h3;refine tk c4 (sf rfl kE) (tk c4 (sl 0 rfl rfl rfl aU) (tk c4 (slc rfl aU) (tk c4 (scm rfl rfl rfl) (tk c4 (sm (.b (decide (a.Two = c)))) ?_))));obtain ⟨b5, h6, h3⟩ := bind_some h3;refine bH 4 [8] 17 b5 ?_ ?_
   ·refine aW (decide (a.Two = c)) (fun c7 => ?_) (fun c7 => ?_)
    ·have h6 := aK c7 h6;refine tk c7 (sf rfl kE) (tk c7 (sl 0 rfl rfl rfl aU) (tk c7 (scm rfl rfl rfl) (tk c4 (spt (.b (!decide (a.Two = (-1)))) c7) ?_)));have h6 := Option.some.inj h6;subst h6;refine aB (aO rfl ⟨rfl, trivial⟩ rfl)
    ·have h6 := aJ c7 h6;refine tp c7 (tp c7 (tp c7 (tk c4 (spf (.b false) c7) ?_)));have h6 := Option.some.inj h6;subst h6;refine aB (aO rfl ⟨rfl, trivial⟩ rfl)
   ·refine to (spf (.b b5) c4) ?_;have h3 := Option.some.inj h3;subst h3;refine aB (aO rfl trivial rfl)
 ·refine ta (.b b2) (aB ?_);have h := Option.some.inj h;subst h;refine bT (bL (bO (l := [3]) ⟨rfl, trivial⟩)) ?_;exact bB ⟨rfl, _, .one _, rfl, rfl⟩

theorem aMx (g : aV) (j : List aF) (a : List Int) {Q : ((Option bI) × (List Int) × Int) → Prop} (h : qW g j a Q) : fU Tryz.prog 97 [.agg (bC g), .d (.sl 5 (j.map aL)), .d (.sl 1 (a.map aM))] [] (fun r' o' => ∃ (r : (Option bI) × (List Int) × Int), Q r ∧ r' = .tup [fJ bX r.1, .d (.sl 1 (r.2.1.map aM)), .i r.2.2] ∧ o' = []) := by
 unfold qW at h;refine jZ Tryz.func97 rfl (rs := [.tmp 6, .tmp 7, .tmp 8]) Tryz.results97 Tryz.ntmps97 (Nat.le_of_ble_eq_true rfl) ?_;refine aC (aA ?_);refine bE rfl (dN (v := .agg (bC g)) (aD rfl) rfl rfl rfl) ?_;rintro _ ⟨b1, rfl⟩;refine ta (fJ bX (none : Option bI)) (to (iJ 3 1 (.inl rfl) (aD rfl)) ?_);refine ta (.i 0) (aB (aC (aA (to (sla 0 (bC g) rfl rfl jR) (tm (.d (.sl 5 (j.map aL))) ?_)))));refine bE rfl (aAf (aD rfl) (.func _ _ Tryz.call75) rfl rfl (aCr _ _ h)) ?_;rintro _ ⟨_, _, ⟨r3, h, rfl, rfl⟩, rfl⟩;refine tm (.tup [fJ bX r3.1, .i r3.2]) (to (sex rfl rfl) (to (sex rfl rfl) (ta (fJ bX r3.1) (ta (.i r3.2) (aB (aC (aC (aA (tm (.i r3.2) (to (scm rfl rfl rfl) (aB ?_)))))))))));refine aZ rfl (fun c4 => ?_) (fun c4 => ?_)
 ·have h := jO c4 h;refine aC (aA (tm (.i r3.2) (ta (fJ bX (none : Option bI)) (to (iJ 3 1 (.inl rfl) (aD rfl)) ?_))));refine ta (.i r3.2) (aB ?_);exact bB ⟨rfl, _, [], [.box b1 0 (bC g), .arr (.slice none 0 0) 3 1 (([] : List Int).map aM), .arr (.slice none 0 0) 3 1 (([] : List Int).map aM)], _, .three (.tmp 6 (v := fJ bX (none : Option bI)) rfl) (.tmp 7 (v := .d (.lit (.slice none 0 0))) rfl) (.tmp 8 (v := .i r3.2) rfl), .refl _, aFr (.cons (.same _) (.cons (.d (nV 2 rfl (cP (f := aM) fun _ => rfl))) (.cons (.same _) .nil))), ((none : Option bI), ([] : List Int), r3.2), h, rfl, rfl⟩
 ·have h := jN c4 h;refine aY (aC (aC (aA (tm (.d (.sl 1 (a.map aM))) (to (sle rfl bJ.of) (tm (.i 0) (aB (bF ?_))))))));refine vY [20, 21] (fun (s6 : (Option bI) × Int × (List Int) × Value) => [(6, fJ bX s6.1), (7, .d (.lit s6.2.2.2)), (22, .i s6.2.1)]) (fun (s6 : (Option bI) × Int × (List Int) × Value) => [.arr s6.2.2.2 3 1 (s6.2.2.1.map aM)]) (fun (k : Nat) (s6 : (Option bI) × Int × (List Int) × Value) => mX Q a (a.length : Int) k s6.1 s6.2.1 s6.2.2.1) (fun _ h => h) (r3.1, 0, ([] : List Int), (.slice none 0 0)) h (aQ [1] rfl rfl (aI rfl (aI rfl (aI rfl (aN ⟨rfl, rfl, trivial⟩))))) ?_;rintro k8 ⟨c, e, b, w7⟩ h;simp only [mX] at h;refine aC (aA (to (scm rfl rfl rfl) (aB (aC ?_))));refine aZ rfl (fun c9 => ?_) (fun c9 => ?_)
  ·have h := jO c9 h;refine aY (aC (bF (aC (aA ?_))));obtain ⟨l, o, h⟩ := gO h;refine to (six rfl rfl bJ.of (bA aM o)) (to (slc rfl aU) (ta (.i l) (aB (aC (aC (aA (tm (.i l) ?_)))))));obtain ⟨y, p, h⟩ := gO h;refine to (scr Tryz.call115 (gG _ _ _ p)) (to (sn rfl) (aB ?_));refine aZ rfl (fun m => ?_) (fun m => ?_)
   ·have h := jO m h;refine aC (aA (ta (fJ bX (none : Option bI)) (to (iJ 3 1 (.inl rfl) (aD rfl)) ?_)));refine ta (.i 1) (aB ?_);exact bB ⟨rfl, _, [], [.arr w7 3 1 (b.map aM), .arr (.slice none 0 0) 3 1 (([] : List Int).map aM)], _, .three (.tmp 6 (v := fJ bX (none : Option bI)) rfl) (.tmp 7 (v := .d (.lit (.slice none 0 0))) rfl) (.tmp 8 (v := .i 1) rfl), .refl _, aFr (.cons (.same _) (.cons (.d (nV 1 rfl (cP (f := aM) fun _ => rfl))) (.cons (.same _) .nil))), ((none : Option bI), ([] : List Int), 1), h, rfl, rfl⟩
   ·have h := jN m h;refine aY (aA (tm (.d (.lit w7)) (tm (fJ bX c) ?_)));obtain ⟨q, s, h⟩ := gO h;refine to (aQo (enc := bX) (aD rfl) rfl s) ?_;refine to (sfc [.sl 1 (q.players.map aM)] rfl pG) (to (slc rfl cI) (tm (.i l) ?_));obtain ⟨t, u, h⟩ := gO h;refine to (scr Tryz.call89 (uN _ _ u)) (to (fR (aD rfl) bJ rfl rfl (rows := ([t]).map aM) rfl (cP (f := aM) fun _ => rfl) rfl (by decide)) ?_);obtain ⟨w, x, h⟩ := gO h;refine bE rfl (gP (i := 0) (aD rfl) bJ rfl rfl rfl (fun _ => rfl) x rfl) ?_;rintro _ ⟨n, rfl⟩;refine ta (.d (.lit n)) ?_;refine cQ ?_;refine aA (to (sar rfl rfl rfl) (tm (.i (w64 (e + 1))) (aB ?_)));exact ⟨(c, w64 (e + 1), w, n), h, aQ [0] rfl rfl (aI rfl (aI rfl (aI rfl (aN ⟨rfl, rfl, trivial⟩))))⟩
  ·have h := jN c9 h;refine cB ?_;refine .inl ⟨rfl, ?_⟩;simp only [xM] at h;refine aC (aA (tm (fJ bX c) (tm (.d (.lit w7)) (ta (fJ bX c) (ta (.d (.lit w7)) (ta (.i 0) (aB ?_)))))));exact bB ⟨rfl, _, [], [.arr w7 3 1 (b.map aM)], _, .three (.tmp 6 (v := fJ bX c) rfl) (.tmp 7 (v := .d (.lit w7)) rfl) (.tmp 8 (v := .i 0) rfl), .refl _, aFr (.cons (.same _) (.cons (.d (nV 0 rfl (cP (f := aM) fun _ => rfl))) (.cons (.same _) .nil))), (c, b, 0), h, rfl, rfl⟩

theorem aFp (c : bI) (f : Int) {r : Int} (h : pP c f = some r) : Fn Tryz.prog 98 [.cp (bX c), .i f] (.i r) := by
 unfold pP at h;refine Fn.of_tr Tryz.func98 rfl (rs := [.tmp 4]) Tryz.results98 Tryz.ntmps98 (Nat.le_of_ble_eq_true rfl) ?_;refine aC (aA (ta (.i 0) (aB (aC (aC (aA (tm (.cp [.lit (.int .i64 c.Tree.Rounds), .sl 1 (c.Tree.Slots.map aM), .sl 1 (c.players.map aM), .mp false (c.won.map fun p : aH × Int => ((fun a : aH => Value.agg ((aT a).map cC).toArray) p.1, aM p.2))]) (to (pE (aD rfl) rfl) ?_))))))));refine to (sfc [.lit (.int .i64 c.Tree.Rounds), .sl 1 (c.Tree.Slots.map aM)] rfl yR) (to (sfc [.lit (.int .i64 c.Tree.Rounds)] rfl fI) (to (slc rfl aU) (tm (.i 0) (aB (bF ?_)))));refine bY [0, 1, 12] (fun (s1 : Int) => [(13, .i s1)]) (fun (s1 : Int) => []) (fun (k : Nat) (s1 : Int) => jH c f c.Tree.Rounds k s1) (fun _ => rfl) (0) h (aQ [] rfl rfl (aI rfl (aN ⟨rfl, rfl, rfl, trivial⟩))) ?_;rintro k2 e h;simp only [jH] at h;refine aC (aA (to (scm rfl rfl rfl) (aB (aC ?_))));refine aZ rfl (fun c3 => ?_) (fun c3 => ?_)
 ·have h := aK c3 h;refine aY (aC (bF (aC (aA (tm (.i e) (ta (.i e) (aB (aC ?_))))))));obtain ⟨r4, h5, h⟩ := bind_some h;refine cV mix 12 [0, 1, 5, 12, 13] [(6, .i (dA r4 0 c.won)), (26, .b (dP r4 c.won))] ?_ ?_
  ·refine ⟨[(17, 0, .cp [.lit (.int .i64 c.Tree.Rounds), .sl 1 (c.Tree.Slots.map aM), .sl 1 (c.players.map aM), .mp false (c.won.map fun p : aH × Int => ((fun a : aH => Value.agg ((aT a).map cC).toArray) p.1, aM p.2))]), (18, 1, .cp [.lit (.int .i64 c.Tree.Rounds), .sl 1 (c.Tree.Slots.map aM), .sl 1 (c.players.map aM), .mp false (c.won.map fun p : aH × Int => ((fun a : aH => Value.agg ((aT a).map cC).toArray) p.1, aM p.2))]), (19, 2, .cp [.mp false (c.won.map fun p : aH × Int => ((fun a : aH => Value.agg ((aT a).map cC).toArray) p.1, aM p.2))]), (20, 3, .d (.mp false (c.won.map fun p : aH × Int => ((fun a : aH => Value.agg ((aT a).map cC).toArray) p.1, aM p.2)))), (21, 4, .i e), (22, 5, .i f), (23, 6, .agg (aT r4)), (24, 7, .tup [.i (dA r4 0 c.won), .b (dP r4 c.won)]), (16, 8, .tup [.i (dA r4 0 c.won), .b (dP r4 c.won)]), (25, 9, .i (dA r4 0 c.won)), (26, 10, .b (dP r4 c.won)), (6, 11, .i (dA r4 0 c.won))], ?_, ?_⟩
   · exact dok [([], []), ([0], []), ([1], []), ([2], []), ([], []), ([], []), ([4, 5], []), ([3, 6], []), ([7], []), ([8], []), ([8], []), ([9], [])] ⟨go (zm (.cp [.lit (.int .i64 c.Tree.Rounds), .sl 1 (c.Tree.Slots.map aM), .sl 1 (c.players.map aM), .mp false (c.won.map fun p : aH × Int => ((fun a : aH => Value.agg ((aT a).map cC).toArray) p.1, aM p.2))])),
      go fun S hS => pE (aD rfl) (aX hS rfl),
      go (zfc [.mp false (c.won.map fun p : aH × Int => ((fun a : aH => Value.agg ((aT a).map cC).toArray) p.1, aM p.2))] rfl aBq),
      go (zlc rfl aHw),
      go (zm (.i e)),
      go (zm (.i f)),
      go fun S hS => fB (aD rfl) (.func _ _ Tryz.call116) (ev2 (aX hS rfl) (ev2 (aX hS rfl) evn)) rfl (tT _ _ h5),
      go fun S hS => aFe (enc := aM) (agg := false) (l := c.won) (z := 0) (a := r4) (aD rfl) aAb Tryz.underlying151 Tryz.zeroValue3 (fun _ _ => .d (.lit _ rfl)) (aX hS rfl) rfl rfl (aX hS rfl) (qT (enc := aT) r4 rfl),
      go (zm (.tup [.i (dA r4 0 c.won), .b (dP r4 c.won)])),
      go (zex rfl rfl),
      go (zex rfl rfl),
      go (za (.i (dA r4 0 c.won))), trivial⟩
   · exact cK (aI rfl (aI rfl (aN ⟨rfl, rfl, rfl, rfl, rfl, trivial⟩)))
  ·refine ta (.b (dP r4 c.won)) (aB (aC (aA (tm (.b (dP r4 c.won)) (to (sn rfl) (tm (.b (!(dP r4 c.won))) ?_))))));obtain ⟨b6, h7, h⟩ := bind_some h;refine bH 10 [0, 1, 5, 12, 13] 39 b6 ?_ ?_
   ·refine aW (!(dP r4 c.won)) (fun c9 => ?_) (fun c9 => ?_)
    ·have h7 := aK c9 h7;refine tp c9 (tp c9 (tp c9 (tp c9 (tp c9 (tp c9 (tp c9 (tp c9 (tp c9 (to (spt (.b true) c9) ?_)))))))));have h7 := Option.some.inj h7;subst h7;refine aB (aO rfl ⟨rfl, rfl, rfl, rfl, rfl, trivial⟩ rfl)
    ·have h7 := aJ c9 h7;refine tk c9 (sm (.i (dA r4 0 c.won))) (tk c9 (sm (.cp [.lit (.int .i64 c.Tree.Rounds), .sl 1 (c.Tree.Slots.map aM), .sl 1 (c.players.map aM), .mp false (c.won.map fun p : aH × Int => ((fun a : aH => Value.agg ((aT a).map cC).toArray) p.1, aM p.2))])) (tk c9 (pE (aD rfl) rfl) ?_));refine tk c9 (sfc [.sl 1 (c.players.map aM)] rfl pG) (tk c9 (slc rfl cI) (tk c9 (sm (.i f)) ?_));obtain ⟨g, j, h7⟩ := bind_some h7;refine tk c9 (six rfl rfl bJ.of (bA aM j)) (tk c9 (slc rfl aU) (tk c9 (scm rfl rfl rfl) (to (spf (.b (!decide ((dA r4 0 c.won) = g))) c9) ?_)));have h7 := Option.some.inj h7;subst h7;refine aB (aO rfl ⟨rfl, rfl, rfl, rfl, rfl, trivial⟩ rfl)
   ·refine aB ?_;refine aZ rfl (fun c8 => ?_) (fun c8 => ?_)
    ·have h := aK c8 h;refine aC (aA (tm (.i e) (ta (.i e) (aB ?_))));have h := Option.some.inj h;subst h;exact bB ⟨rfl, _, .one _, rfl, rfl⟩
    ·have h := aJ c8 h;refine cR ?_;refine aA (to (sar rfl rfl rfl) (tm (.i (w64 (e + 1))) (aB ?_)));exact ⟨(w64 (e + 1)), h, aQ [] rfl rfl (aI rfl (aN ⟨rfl, rfl, rfl, trivial⟩))⟩
 ·have h := aJ c3 h;refine cB ?_;refine .inl ⟨rfl, ?_⟩;simp only [tG] at h;refine aC (aA (tm (.cp [.lit (.int .i64 c.Tree.Rounds), .sl 1 (c.Tree.Slots.map aM), .sl 1 (c.players.map aM), .mp false (c.won.map fun p : aH × Int => ((fun a : aH => Value.agg ((aT a).map cC).toArray) p.1, aM p.2))]) (to (pE (aD rfl) rfl) ?_)));refine to (sfc [.lit (.int .i64 c.Tree.Rounds), .sl 1 (c.Tree.Slots.map aM)] rfl yR) (to (sfc [.lit (.int .i64 c.Tree.Rounds)] rfl fI) (to (slc rfl aU) (ta (.i c.Tree.Rounds) (aB ?_))));have h := Option.some.inj h;subst h;exact bB ⟨rfl, _, .one _, rfl, rfl⟩

theorem aFo (c : bI) (f : Int) {r : Int} (h : pO c f = some r) : Fn Tryz.prog 99 [.cp (bX c), .i f] (.i r) := by
 unfold pO at h;refine Fn.of_tr Tryz.func99 rfl (rs := [.tmp 4]) Tryz.results99 Tryz.ntmps99 (Nat.le_of_ble_eq_true rfl) ?_;refine aC (aA (ta (.i 0) (aB (aC (aC (aA (tm (.cp [.lit (.int .i64 c.Tree.Rounds), .sl 1 (c.Tree.Slots.map aM), .sl 1 (c.players.map aM), .mp false (c.won.map fun p : aH × Int => ((fun a : aH => Value.agg ((aT a).map cC).toArray) p.1, aM p.2))]) (to (pE (aD rfl) rfl) ?_))))))));refine to (sfc [.lit (.int .i64 c.Tree.Rounds), .sl 1 (c.Tree.Slots.map aM)] rfl yR) (to (sfc [.lit (.int .i64 c.Tree.Rounds)] rfl fI) (to (slc rfl aU) (tm (.i 0) (aB (bF ?_)))));refine bY [0, 1, 12] (fun (s1 : Int) => [(13, .i s1)]) (fun (s1 : Int) => []) (fun (k : Nat) (s1 : Int) => jG c f c.Tree.Rounds k s1) (fun _ => rfl) (0) h (aQ [] rfl rfl (aI rfl (aN ⟨rfl, rfl, rfl, trivial⟩))) ?_;rintro k2 e h;simp only [jG] at h;refine aC (aA (to (scm rfl rfl rfl) (aB (aC ?_))));refine aZ rfl (fun c3 => ?_) (fun c3 => ?_)
 ·have h := aK c3 h;refine aY (aC (bF (aC (aA (tm (.i e) (ta (.i e) (aB (aC ?_))))))));obtain ⟨r4, h5, h⟩ := bind_some h;refine cV mix 12 [0, 1, 5, 12, 13] [(6, .i (dA r4 0 c.won)), (26, .b (dP r4 c.won))] ?_ ?_
  ·refine ⟨[(17, 0, .cp [.lit (.int .i64 c.Tree.Rounds), .sl 1 (c.Tree.Slots.map aM), .sl 1 (c.players.map aM), .mp false (c.won.map fun p : aH × Int => ((fun a : aH => Value.agg ((aT a).map cC).toArray) p.1, aM p.2))]), (18, 1, .cp [.lit (.int .i64 c.Tree.Rounds), .sl 1 (c.Tree.Slots.map aM), .sl 1 (c.players.map aM), .mp false (c.won.map fun p : aH × Int => ((fun a : aH => Value.agg ((aT a).map cC).toArray) p.1, aM p.2))]), (19, 2, .cp [.mp false (c.won.map fun p : aH × Int => ((fun a : aH => Value.agg ((aT a).map cC).toArray) p.1, aM p.2))]), (20, 3, .d (.mp false (c.won.map fun p : aH × Int => ((fun a : aH => Value.agg ((aT a).map cC).toArray) p.1, aM p.2)))), (21, 4, .i e), (22, 5, .i f), (23, 6, .agg (aT r4)), (24, 7, .tup [.i (dA r4 0 c.won), .b (dP r4 c.won)]), (16, 8, .tup [.i (dA r4 0 c.won), .b (dP r4 c.won)]), (25, 9, .i (dA r4 0 c.won)), (26, 10, .b (dP r4 c.won)), (6, 11, .i (dA r4 0 c.won))], ?_, ?_⟩
   · exact dok [([], []), ([0], []), ([1], []), ([2], []), ([], []), ([], []), ([4, 5], []), ([3, 6], []), ([7], []), ([8], []), ([8], []), ([9], [])] ⟨go (zm (.cp [.lit (.int .i64 c.Tree.Rounds), .sl 1 (c.Tree.Slots.map aM), .sl 1 (c.players.map aM), .mp false (c.won.map fun p : aH × Int => ((fun a : aH => Value.agg ((aT a).map cC).toArray) p.1, aM p.2))])),
      go fun S hS => pE (aD rfl) (aX hS rfl),
      go (zfc [.mp false (c.won.map fun p : aH × Int => ((fun a : aH => Value.agg ((aT a).map cC).toArray) p.1, aM p.2))] rfl aBq),
      go (zlc rfl aHw),
      go (zm (.i e)),
      go (zm (.i f)),
      go fun S hS => fB (aD rfl) (.func _ _ Tryz.call116) (ev2 (aX hS rfl) (ev2 (aX hS rfl) evn)) rfl (tT _ _ h5),
      go fun S hS => aFe (enc := aM) (agg := false) (l := c.won) (z := 0) (a := r4) (aD rfl) aAb Tryz.underlying151 Tryz.zeroValue3 (fun _ _ => .d (.lit _ rfl)) (aX hS rfl) rfl rfl (aX hS rfl) (qT (enc := aT) r4 rfl),
      go (zm (.tup [.i (dA r4 0 c.won), .b (dP r4 c.won)])),
      go (zex rfl rfl),
      go (zex rfl rfl),
      go (za (.i (dA r4 0 c.won))), trivial⟩
   · exact cK (aI rfl (aI rfl (aN ⟨rfl, rfl, rfl, rfl, rfl, trivial⟩)))
  ·refine ta (.b (dP r4 c.won)) (aB (aC (aA (tm (.b (dP r4 c.won)) (tm (.b (dP r4 c.won)) ?_)))));obtain ⟨b6, h7, h⟩ := bind_some h;refine bH 10 [0, 1, 5, 12, 13] 38 b6 ?_ ?_
   ·refine aW (dP r4 c.won) (fun c9 => ?_) (fun c9 => ?_)
    ·have h7 := aK c9 h7;refine tk c9 (sm (.i (dA r4 0 c.won))) (tk c9 (sm (.cp [.lit (.int .i64 c.Tree.Rounds), .sl 1 (c.Tree.Slots.map aM), .sl 1 (c.players.map aM), .mp false (c.won.map fun p : aH × Int => ((fun a : aH => Value.agg ((aT a).map cC).toArray) p.1, aM p.2))])) (tk c9 (pE (aD rfl) rfl) ?_));refine tk c9 (sfc [.sl 1 (c.players.map aM)] rfl pG) (tk c9 (slc rfl cI) (tk c9 (sm (.i f)) ?_));obtain ⟨g, j, h7⟩ := bind_some h7;refine tk c9 (six rfl rfl bJ.of (bA aM j)) (tk c9 (slc rfl aU) (tk c9 (scm rfl rfl rfl) (to (spt (.b (!decide ((dA r4 0 c.won) = g))) c9) ?_)));have h7 := Option.some.inj h7;subst h7;refine aB (aO rfl ⟨rfl, rfl, rfl, rfl, rfl, trivial⟩ rfl)
    ·have h7 := aJ c9 h7;refine tp c9 (tp c9 (tp c9 (tp c9 (tp c9 (tp c9 (tp c9 (tp c9 (tp c9 (to (spf (.b false) c9) ?_)))))))));have h7 := Option.some.inj h7;subst h7;refine aB (aO rfl ⟨rfl, rfl, rfl, rfl, rfl, trivial⟩ rfl)
   ·refine aB ?_;refine aZ rfl (fun c8 => ?_) (fun c8 => ?_)
    ·have h := aK c8 h;refine aC (aA (tm (.i e) (ta (.i e) (aB ?_))));have h := Option.some.inj h;subst h;exact bB ⟨rfl, _, .one _, rfl, rfl⟩
    ·have h := aJ c8 h;refine cR ?_;refine aA (to (sar rfl rfl rfl) (tm (.i (w64 (e + 1))) (aB ?_)));exact ⟨(w64 (e + 1)), h, aQ [] rfl rfl (aI rfl (aN ⟨rfl, rfl, rfl, trivial⟩))⟩
 ·have h := aJ c3 h;refine cB ?_;refine .inl ⟨rfl, ?_⟩;simp only [tF] at h;refine aC (aA (tm (.cp [.lit (.int .i64 c.Tree.Rounds), .sl 1 (c.Tree.Slots.map aM), .sl 1 (c.players.map aM), .mp false (c.won.map fun p : aH × Int => ((fun a : aH => Value.agg ((aT a).map cC).toArray) p.1, aM p.2))]) (to (pE (aD rfl) rfl) ?_)));refine to (sfc [.lit (.int .i64 c.Tree.Rounds), .sl 1 (c.Tree.Slots.map aM)] rfl yR) (to (sfc [.lit (.int .i64 c.Tree.Rounds)] rfl fI) (to (slc rfl aU) (ta (.i c.Tree.Rounds) (aB ?_))));have h := Option.some.inj h;subst h;exact bB ⟨rfl, _, .one _, rfl, rfl⟩

theorem aIc (e : aV) (l : List aF) (c : Int) {Q : (bQ × Int) → Prop} (h : qJ e l c Q) : fU Tryz.prog 73 [.agg (bC e), .d (.sl 5 (l.map aL)), .i c] [] (fun r' o' => ∃ (r : bQ × Int), Q r ∧ r' = .tup [.agg (bG r.1), .i r.2] ∧ o' = []) := by
 unfold qJ at h;refine jZ Tryz.func73 rfl (rs := [.cell 6 37, .tmp 7]) Tryz.results73 Tryz.ntmps73 (Nat.le_of_ble_eq_true rfl) ?_;refine aC (aA ?_);refine bE rfl (dN (v := .agg (bC e)) (aD rfl) rfl rfl rfl) ?_;rintro _ ⟨b1, rfl⟩;refine bE rfl (cM (zs := [.lit (.int .i64 0), .lit (.int .i64 0)]) (aD rfl) Tryz.zeroValue37 rfl rfl) ?_;rintro _ ⟨b2, rfl⟩;refine ta (.i 0) (aB (aC (aA (to (sla 0 (bC e) rfl rfl jR) (tm (.d (.sl 5 (l.map aL))) (tm (.i c) (to (fR (aD rfl) bJ rfl rfl (rows := ([c]).map aM) rfl (cP (f := aM) fun _ => rfl) rfl (by decide)) ?_)))))));refine bE rfl (aAf (aD rfl) (.func _ _ Tryz.call97) rfl rfl (aMx _ _ _ h)) ?_;rintro _ ⟨_, _, ⟨r3, h, rfl, rfl⟩, rfl⟩;refine tm (.tup [fJ bX r3.1, .d (.sl 1 (r3.2.1.map aM)), .i r3.2.2]) (to (sex rfl rfl) (to (sex rfl rfl) (to (sex rfl rfl) (ta (fJ bX r3.1) (ta (.d (.sl 1 (r3.2.1.map aM))) (ta (.i r3.2.2) (aB (aC (bF (aC (aA (tm (.i r3.2.2) (to (scm rfl rfl rfl) ?_)))))))))))));refine ta (.b (!decide (r3.2.2 = 0))) (aB ?_);refine aZ rfl (fun c4 => ?_) (fun c4 => ?_)
 ·have h := jO c4 h;refine aC (aA (to (dE (aD rfl) oU (zs := [.lit (.int .i64 0), .lit (.int .i64 0)]) rfl rfl rfl rfl (es := [.lit (.int .i64 0), .lit (.int .i64 0)]) rfl) ?_));refine tm (.i r3.2.2) (to (sst 1 rfl rfl Tryz.sizeOf37 (bG (bQ.mk 0 0))) (ta (.i r3.2.2) (aB ?_)));exact bB ⟨rfl, _, [], [.box b1 0 (bC e), .box b2 0 (bG (bQ.mk 0 0))], _, .two (.cell 6 37 rfl (i := 1) rfl kP (es := (bG (bQ.mk 0 0))) rfl rfl) (.tmp 7 (v := .i r3.2.2) rfl), .refl _, .same _, ((bQ.mk 0 0), r3.2.2), h, rfl, rfl⟩
 ·have h := jN c4 h;refine aC (aA (tm (.d (.sl 1 (r3.2.1.map aM))) ?_));obtain ⟨x5, h6, h⟩ := gO h;refine to (six rfl rfl bJ.of (bA aM h6)) (to (slc rfl aU) (to (scm rfl rfl rfl) (ta (.b (decide (x5 < 0))) (aB ?_))));refine aZ rfl (fun c7 => ?_) (fun c7 => ?_)
  ·have h := jO c7 h;refine aC (aA (to (dE (aD rfl) oU (zs := [.lit (.int .i64 0), .lit (.int .i64 0)]) rfl rfl rfl rfl (es := [.lit (.int .i64 0), .lit (.int .i64 0)]) rfl) ?_));refine to (sst 1 rfl rfl Tryz.sizeOf37 (bG (bQ.mk 0 0))) (ta (.i 3) (aB ?_));exact bB ⟨rfl, _, [], [.box b1 0 (bC e), .box b2 0 (bG (bQ.mk 0 0))], _, .two (.cell 6 37 rfl (i := 1) rfl kP (es := (bG (bQ.mk 0 0))) rfl rfl) (.tmp 7 (v := .i 3) rfl), .refl _, .same _, ((bQ.mk 0 0), 3), h, rfl, rfl⟩
  ·have h := jN c7 h;refine cR ?_;refine aC ?_;obtain ⟨x8, h9, h⟩ := gO h;refine bT (aXb (enc := bX) (k := 8) rfl h9) ?_;obtain ⟨n, o, h⟩ := gO h;obtain ⟨g, q, h⟩ := gO h;obtain ⟨m, s, h⟩ := gO h;refine cV mix 9 [6] [(35, .i g), (36, .cp [.lit (.int .i64 x8.Tree.Rounds), .sl 1 (x8.Tree.Slots.map aM), .sl 1 (x8.players.map aM), .mp false (x8.won.map fun p : aH × Int => ((fun a : aH => Value.agg ((aT a).map cC).toArray) p.1, aM p.2))]), (39, .i m)] ?_ ?_
   ·refine ⟨[(31, 0, .cp [.lit (.int .i64 x8.Tree.Rounds), .sl 1 (x8.Tree.Slots.map aM), .sl 1 (x8.players.map aM), .mp false (x8.won.map fun p : aH × Int => ((fun a : aH => Value.agg ((aT a).map cC).toArray) p.1, aM p.2))]), (32, 1, .d (.sl 1 (r3.2.1.map aM))), (33, 2, .cp [.lit (.int .i64 n)]), (34, 3, .i n), (35, 4, .i g), (36, 5, .cp [.lit (.int .i64 x8.Tree.Rounds), .sl 1 (x8.Tree.Slots.map aM), .sl 1 (x8.players.map aM), .mp false (x8.won.map fun p : aH × Int => ((fun a : aH => Value.agg ((aT a).map cC).toArray) p.1, aM p.2))]), (37, 6, .d (.sl 1 (r3.2.1.map aM))), (38, 7, .cp [.lit (.int .i64 m)]), (39, 8, .i m)], ?_, ?_⟩
    · exact dok [([], []), ([], []), ([1], []), ([2], []), ([0, 3], []), ([], []), ([], []), ([6], []), ([7], [])] ⟨go (zm (.cp [.lit (.int .i64 x8.Tree.Rounds), .sl 1 (x8.Tree.Slots.map aM), .sl 1 (x8.players.map aM), .mp false (x8.won.map fun p : aH × Int => ((fun a : aH => Value.agg ((aT a).map cC).toArray) p.1, aM p.2))])),
      go (zm (.d (.sl 1 (r3.2.1.map aM)))),
      go (zix rfl rfl bJ.of (bA aM o)),
      go (zlc rfl aU),
      go fun S hS => fS (aD rfl) (.func _ _ Tryz.call98) (ev2 (aX hS rfl) (ev2 (aX hS rfl) evn)) rfl (BVs.refl _ _) (aFp _ _ q) rfl,
      go (zm (.cp [.lit (.int .i64 x8.Tree.Rounds), .sl 1 (x8.Tree.Slots.map aM), .sl 1 (x8.players.map aM), .mp false (x8.won.map fun p : aH × Int => ((fun a : aH => Value.agg ((aT a).map cC).toArray) p.1, aM p.2))])),
      go (zm (.d (.sl 1 (r3.2.1.map aM)))),
      go (zix rfl rfl bJ.of (bA aM s)),
      go (zlc rfl aU), trivial⟩
    · exact cK (aI rfl (aI rfl (aI rfl (aN ⟨rfl, trivial⟩))))
   ·obtain ⟨j, t, h⟩ := gO h;refine to (scr Tryz.call99 (aFo _ _ t)) (to (dE (aD rfl) oU (zs := [.lit (.int .i64 0), .lit (.int .i64 0)]) rfl rfl rfl rfl (es := [.lit (.int .i64 g), .lit (.int .i64 j)]) rfl) ?_);refine to (sst 1 rfl rfl Tryz.sizeOf37 (bG (bQ.mk g j))) (ta (.i 0) (aB ?_));exact bB ⟨rfl, _, [], [.box b1 0 (bC e), .box b2 0 (bG (bQ.mk g j))], _, .two (.cell 6 37 rfl (i := 1) rfl kP (es := (bG (bQ.mk g j))) rfl rfl) (.tmp 7 (v := .i 0) rfl), .refl _, .same _, ((bQ.mk g j), 0), h, rfl, rfl⟩

theorem aBy (a : Int) (c : bZ) (d : Int) {r : Int} (h : qI a c d = some r) : Fn Tryz.prog 74 [.i a, .cp (bM c), .cp [.lit (.int .i64 d)]] (.i r) := by
 unfold qI at h;refine Fn.of_tr Tryz.func74 rfl (rs := [.tmp 4]) Tryz.results74 Tryz.ntmps74 (Nat.le_of_ble_eq_true rfl) ?_;refine aC (aA (ta (.i 0) (aB (aC (bF (aC (aA (to (sfc [.lit (.int .i64 c.Two)] rfl kE) (to (slc rfl aU) (to (scm rfl rfl rfl) (ta (.b (decide (c.Two = (-1)))) (aB ?_))))))))))));refine aZ rfl (fun c1 => ?_) (fun c1 => ?_)
 ·have h := aK c1 h;refine aC (aA (tm (.i a) (ta (.i a) (aB ?_))));have h := Option.some.inj h;subst h;exact bB ⟨rfl, _, .one _, rfl, rfl⟩
 ·have h := aJ c1 h;refine aC (aA (to (sfc [.lit (.int .i64 c.One)] rfl pW) (to (slc rfl aU) (to (slc rfl aU) (to (scm rfl rfl rfl) (ta (.b (decide (c.One = d))) (aB ?_)))))));refine aZ rfl (fun c2 => ?_) (fun c2 => ?_)
  ·have h := aK c2 h;refine aC (aA (tm (.i a) (to (sar rfl rfl rfl) (to (aCc (aD rfl) rfl rfl (by decide)) ?_))));refine ta (.i (w64 ((w64 (a + 1)).tdiv 2))) (aB ?_);have h := Option.some.inj h;subst h;exact bB ⟨rfl, _, .one _, rfl, rfl⟩
  ·have h := aJ c2 h;refine cR ?_;refine aC (aA (tm (.i a) (to (aCc (aD rfl) rfl rfl (by decide)) ?_)));refine ta (.i (w64 (a.tdiv 2))) (aB ?_);have h := Option.some.inj h;subst h;exact bB ⟨rfl, _, .one _, rfl, rfl⟩

theorem aIf (c : aS) (a : Int) {r : Int} (h : qN c a = some r) : Fn Tryz.prog 111 [.agg (bN c), .i a] (.i r) := by
 unfold qN at h;refine Fn.of_tr Tryz.func111 rfl (rs := [.tmp 4]) Tryz.results111 Tryz.ntmps111 (Nat.le_of_ble_eq_true rfl) ?_;refine aC (aA ?_);refine bE rfl (dN (v := .agg (bN c)) (aD rfl) rfl rfl rfl) ?_;rintro _ ⟨b1, rfl⟩;refine ta (.i 0) (aB (aC (aC (aA (ta (.i 0) (aB (bF ?_)))))));refine bY [1, 2] (fun (s2 : Int) => [(5, .i s2)]) (fun (s2 : Int) => [.box b1 0 (bN c)]) (fun (k : Nat) (s2 : Int) => jT a c k s2) (fun _ => rfl) (0) h (aQ [0] rfl rfl (aI rfl (aN ⟨rfl, rfl, trivial⟩))) ?_;rintro k3 b h;simp only [jT] at h;refine aC (aC (aA (tm (.i b) (to (sf rfl aBp) (to (sl 0 rfl rfl rfl cI) (to (sle rfl bJ.of) (to (scm rfl rfl rfl) (aB ?_))))))));refine aZ rfl (fun c4 => ?_) (fun c4 => ?_)
 ·have h := aK c4 h;refine aY (aC (bF (aC (aA (to (sf rfl aBp) (to (sl 0 rfl rfl rfl cI) (tm (.i b) ?_)))))));obtain ⟨x5, h6, h⟩ := bind_some h;refine to (six rfl rfl bJ.of (bA aM h6)) (to (slc rfl aU) (tm (.i a) (to (scm rfl rfl rfl) (aB ?_))));refine aZ rfl (fun c7 => ?_) (fun c7 => ?_)
  ·have h := aK c7 h;refine aC (aA (tm (.i b) (ta (.i b) (aB ?_))));have h := Option.some.inj h;subst h;refine bT (bL (bO (l := [4]) ⟨rfl, trivial⟩)) ?_;exact bB ⟨rfl, _, .one _, rfl, rfl⟩
  ·have h := aJ c7 h;refine cR ?_;refine aA (tm (.i b) (to (sar rfl rfl rfl) (ta (.i (w64 (b + 1))) (aB ?_))));exact ⟨(w64 (b + 1)), h, aQ [0] rfl rfl (aI rfl (aN ⟨rfl, rfl, trivial⟩))⟩
 ·have h := aJ c4 h;refine cB ?_;refine .inl ⟨rfl, ?_⟩;simp only [tY] at h;refine aC (aA (ta (.i (-1)) (aB ?_)));have h := Option.some.inj h;subst h;refine bT (bL (bO (l := [4]) ⟨rfl, trivial⟩)) ?_;exact bB ⟨rfl, _, .one _, rfl, rfl⟩

theorem aFv (e : aV) (f : aS) (c : Int) {r : Int} (h : pR e f c = some r) : Fn Tryz.prog 112 [.agg (bC e), .agg (bN f), .i c] (.i r) := by
 unfold pR at h;refine Fn.of_tr Tryz.func112 rfl (rs := [.tmp 6]) Tryz.results112 Tryz.ntmps112 (Nat.le_of_ble_eq_true rfl) ?_;refine aC (aA ?_);refine bE rfl (dN (v := .agg (bC e)) (aD rfl) rfl rfl rfl) ?_;rintro _ ⟨b1, rfl⟩;refine bE rfl (dN (v := .agg (bN f)) (aD rfl) rfl rfl rfl) ?_;rintro _ ⟨b2, rfl⟩;refine ta (.i 0) (aB (aC (aA (ta (.i 0) (aB (aC (bF ?_)))))));refine bY [2, 3, 4] (fun (s3 : Int) => [(7, .i s3)]) (fun (s3 : Int) => [.box b1 0 (bC e), .box b2 0 (bN f)]) (fun (k : Nat) (s3 : Int) => jI c e f k s3) (fun _ => rfl) (0) h (aQ [0, 1] rfl rfl (aI rfl (aN ⟨rfl, rfl, rfl, trivial⟩))) ?_;rintro k4 a h;simp only [jI] at h;refine aC (aC ?_);obtain ⟨b5, h6, h⟩ := bind_some h;refine cV mix 24 [2, 3, 4, 7] [(31, .b b5)] ?_ ?_
 ·refine aW (decide (a < e.Rounds)) (fun c7 => ?_) (fun c7 => ?_)
  ·have h6 := aK c7 h6;obtain ⟨x8, h9, h6⟩ := bind_some h6;obtain ⟨q, n, h6⟩ := bind_some h6;obtain ⟨g, o, h6⟩ := bind_some h6;obtain ⟨j, p, h6⟩ := bind_some h6;have h6 := Option.some.inj h6;subst h6;refine ⟨[(8, 0, .i a), (9, 1, .bp b1 0 0), (10, 2, .i e.Rounds), (11, 3, .b (decide (a < e.Rounds))), (12, 4, .b (decide (a < e.Rounds))), (13, 5, .bp b2 0 1), (14, 6, .d (.sl 1 (f.Must.map iV))), (15, 7, .i a), (16, 8, .cp [.sl 1 (x8.map aM)]), (17, 9, .d (.sl 1 (x8.map aM))), (18, 10, .i c), (19, 11, .i a), (20, 12, .i (w64 (a + 1))), (21, 13, .d (.lit (.int .u64 (IntKind.u64.wrap (w64 (a + 1)))))), (22, 14, .i (c.fdiv (2 ^ (min (IntKind.u64.wrap (w64 (a + 1))).toNat 64)))), (23, 15, .cp [.lit (.int .i64 g)]), (24, 16, .i g), (25, 17, .bp b2 0 0), (26, 18, .d (.sl 1 (f.Slots.map aM))), (27, 19, .i c), (28, 20, .cp [.lit (.int .i64 j)]), (29, 21, .i j), (30, 22, .b (decide (g = j))), (31, 23, .b (decide (g = j)))], ?_, ?_⟩
   · exact dok [([], []), ([], []), ([1], []), ([0, 2], []), ([3], []), ([4], []), ([4, 5], []), ([4], []), ([4, 6, 7], []), ([4, 8], []), ([4], []), ([4], []), ([4, 11], []), ([4, 12], []), ([4, 10, 13], []), ([4, 9, 14], []), ([4, 15], []), ([4], []), ([4, 17], []), ([4], []), ([4, 18, 19], []), ([4, 20], []), ([4, 16, 21], []), ([4, 22], [])] ⟨go (zm (.i a)),
      go (zf rfl fI),
      go (zl 0 rfl rfl rfl aU),
      go (zcm rfl rfl rfl),
      go (zm (.b (decide (a < e.Rounds)))),
      gt c7 (zf rfl pF),
      gt c7 (zl 1 rfl rfl rfl wS),
      gt c7 (zm (.i a)),
      gt c7 (zix rfl rfl yI.of (bA iV h9)),
      gt c7 (zlc rfl cI),
      gt c7 (zm (.i c)),
      gt c7 (zm (.i a)),
      gt c7 (zar rfl rfl rfl),
      gt c7 fun S hS => mT (aD rfl) (aX hS rfl) Tryz.runUnderlying3 Tryz.runUnderlying113,
      gt c7 fun S hS => uX (aD rfl) (aX hS rfl) (aX hS rfl) (vI n),
      gt c7 (zix rfl rfl bJ.of (bA aM o)),
      gt c7 (zlc rfl aU),
      gt c7 (zf rfl aBp),
      gt c7 (zl 1 rfl rfl rfl cI),
      gt c7 (zm (.i c)),
      gt c7 (zix rfl rfl bJ.of (bA aM p)),
      gt c7 (zlc rfl aU),
      gt c7 (zcm rfl rfl rfl),
      go (zpt (.b (decide (g = j))) c7), trivial⟩
   · exact cK (aI rfl (aN ⟨rfl, rfl, rfl, rfl, trivial⟩))
  ·have h6 := aJ c7 h6;have h6 := Option.some.inj h6;subst h6;refine ⟨[(8, 0, .i a), (9, 1, .bp b1 0 0), (10, 2, .i e.Rounds), (11, 3, .b (decide (a < e.Rounds))), (12, 4, .b (decide (a < e.Rounds))), (13, 5, .tup []), (14, 6, .tup []), (15, 7, .tup []), (16, 8, .tup []), (17, 9, .tup []), (18, 10, .tup []), (19, 11, .tup []), (20, 12, .tup []), (21, 13, .tup []), (22, 14, .tup []), (23, 15, .tup []), (24, 16, .tup []), (25, 17, .tup []), (26, 18, .tup []), (27, 19, .tup []), (28, 20, .tup []), (29, 21, .tup []), (30, 22, .tup []), (31, 23, .b false)], ?_, ?_⟩
   · exact dok [([], []), ([], []), ([1], []), ([0, 2], []), ([3], []), ([4], []), ([4, 5], []), ([4], []), ([4, 6, 7], []), ([4, 8], []), ([4], []), ([4], []), ([4, 11], []), ([4, 12], []), ([4, 10, 13], []), ([4, 9, 14], []), ([4, 15], []), ([4], []), ([4, 17], []), ([4], []), ([4, 18, 19], []), ([4, 20], []), ([4, 16, 21], []), ([4, 22], [])] ⟨go (zm (.i a)),
      go (zf rfl fI),
      go (zl 0 rfl rfl rfl aU),
      go (zcm rfl rfl rfl),
      go (zm (.b (decide (a < e.Rounds)))),
      gp c7,
      gp c7,
      gp c7,
      gp c7,
      gp c7,
      gp c7,
      gp c7,
      gp c7,
      gp c7,
      gp c7,
      gp c7,
      gp c7,
      gp c7,
      gp c7,
      gp c7,
      gp c7,
      gp c7,
      gp c7,
      go (zpf (.b false) c7), trivial⟩
   · exact cK (aI rfl (aN ⟨rfl, rfl, rfl, rfl, trivial⟩))
 ·refine aB ?_;refine aZ rfl (fun m => ?_) (fun m => ?_)
  ·have h := aK m h;refine aY (bF (aA (tm (.i a) (to (sar rfl rfl rfl) (ta (.i (w64 (a + 1))) ?_)))));refine cQ ?_;exact ⟨(w64 (a + 1)), h, aQ [0, 1] rfl rfl (aI rfl (aN ⟨rfl, rfl, rfl, trivial⟩))⟩
  ·have h := aJ m h;refine cB ?_;refine .inl ⟨rfl, ?_⟩;simp only [qD] at h;refine aC (aA (tm (.i a) (ta (.i a) (aB ?_))));have h := Option.some.inj h;subst h;refine bT (bL (bO (l := [6]) ⟨rfl, trivial⟩)) ?_;exact bB ⟨rfl, _, .one _, rfl, rfl⟩

theorem aIe (f : aV) (m : aS) (e : Int) {r : Int} (h : qL f m e = some r) : Fn Tryz.prog 113 [.agg (bC f), .agg (bN m), .i e] (.i r) := by
 unfold qL at h;refine Fn.of_tr Tryz.func113 rfl (rs := [.tmp 6]) Tryz.results113 Tryz.ntmps113 (Nat.le_of_ble_eq_true rfl) ?_;refine aC (aA ?_);refine bE rfl (dN (v := .agg (bC f)) (aD rfl) rfl rfl rfl) ?_;rintro _ ⟨b1, rfl⟩;refine bE rfl (dN (v := .agg (bN m)) (aD rfl) rfl rfl rfl) ?_;rintro _ ⟨b2, rfl⟩;refine ta (.i 0) (aB (aC (aA (ta (.i 0) (aB (aC (bF ?_)))))));refine bY [2, 3, 4] (fun (s3 : Int) => [(7, .i s3)]) (fun (s3 : Int) => [.box b1 0 (bC f), .box b2 0 (bN m)]) (fun (k : Nat) (s3 : Int) => jS e f m k s3) (fun _ => rfl) (0) h (aQ [0, 1] rfl rfl (aI rfl (aN ⟨rfl, rfl, rfl, trivial⟩))) ?_;rintro k4 a h;simp only [jS] at h;refine aC (aC ?_);obtain ⟨b5, h6, h⟩ := bind_some h;refine cV mix 39 [2, 3, 4, 7] [(46, .b b5)] ?_ ?_
 ·refine aW (decide (a < f.Rounds)) (fun c7 => ?_) (fun c7 => ?_)
  ·have h6 := aK c7 h6;obtain ⟨x8, h9, h6⟩ := bind_some h6;obtain ⟨z, q, h6⟩ := bind_some h6;obtain ⟨j, s, h6⟩ := bind_some h6;obtain ⟨A, g, h6⟩ := bind_some h6;refine aW (decide (j = (-2))) (fun c => ?_) (fun c => ?_)
   ·have g := aK c g;have g := Option.some.inj g;subst g;have h6 := Option.some.inj h6;subst h6;refine ⟨[(8, 0, .i a), (9, 1, .bp b1 0 0), (10, 2, .i f.Rounds), (11, 3, .b (decide (a < f.Rounds))), (12, 4, .b (decide (a < f.Rounds))), (13, 5, .bp b2 0 1), (14, 6, .d (.sl 1 (m.Must.map iV))), (15, 7, .i a), (16, 8, .cp [.sl 1 (x8.map aM)]), (17, 9, .d (.sl 1 (x8.map aM))), (18, 10, .i e), (19, 11, .i a), (20, 12, .i (w64 (a + 1))), (21, 13, .d (.lit (.int .u64 (IntKind.u64.wrap (w64 (a + 1)))))), (22, 14, .i (e.fdiv (2 ^ (min (IntKind.u64.wrap (w64 (a + 1))).toNat 64)))), (23, 15, .cp [.lit (.int .i64 j)]), (24, 16, .i j), (25, 17, .b (decide (j = (-2)))), (26, 18, .b (decide (j = (-2)))), (27, 19, .tup []), (28, 20, .tup []), (29, 21, .tup []), (30, 22, .tup []), (31, 23, .tup []), (32, 24, .tup []), (33, 25, .tup []), (34, 26, .tup []), (35, 27, .tup []), (36, 28, .tup []), (37, 29, .tup []), (38, 30, .tup []), (39, 31, .tup []), (40, 32, .tup []), (41, 33, .tup []), (42, 34, .tup []), (43, 35, .tup []), (44, 36, .tup []), (45, 37, .b true), (46, 38, .b (true))], ?_, ?_⟩
    · exact dok [([], []), ([], []), ([1], []), ([0, 2], []), ([3], []), ([4], []), ([4, 5], []), ([4], []), ([4, 6, 7], []), ([4, 8], []), ([4], []), ([4], []), ([4, 11], []), ([4, 12], []), ([4, 10, 13], []), ([4, 9, 14], []), ([4, 15], []), ([4, 16], []), ([4, 17], []), ([18], []), ([18, 19], []), ([18], []), ([18, 20, 21], []), ([18, 22], []), ([18], []), ([18], []), ([18, 25], []), ([18, 26], []), ([18, 24, 27], []), ([18, 23, 28], []), ([18, 29], []), ([18], []), ([18, 31], []), ([18], []), ([18, 32, 33], []), ([18, 34], []), ([18, 30, 35], []), ([4, 18, 36], []), ([4, 37], [])] ⟨go (zm (.i a)),
      go (zf rfl fI),
      go (zl 0 rfl rfl rfl aU),
      go (zcm rfl rfl rfl),
      go (zm (.b (decide (a < f.Rounds)))),
      gt c7 (zf rfl pF),
      gt c7 (zl 1 rfl rfl rfl wS),
      gt c7 (zm (.i a)),
      gt c7 (zix rfl rfl yI.of (bA iV h9)),
      gt c7 (zlc rfl cI),
      gt c7 (zm (.i e)),
      gt c7 (zm (.i a)),
      gt c7 (zar rfl rfl rfl),
      gt c7 fun S hS => mT (aD rfl) (aX hS rfl) Tryz.runUnderlying3 Tryz.runUnderlying113,
      gt c7 fun S hS => uX (aD rfl) (aX hS rfl) (aX hS rfl) (vI q),
      gt c7 (zix rfl rfl bJ.of (bA aM s)),
      gt c7 (zlc rfl aU),
      gt c7 (zcm rfl rfl rfl),
      gt c7 (zm (.b (decide (j = (-2))))),
      gp c,
      gp c,
      gp c,
      gp c,
      gp c,
      gp c,
      gp c,
      gp c,
      gp c,
      gp c,
      gp c,
      gp c,
      gp c,
      gp c,
      gp c,
      gp c,
      gp c,
      gp c,
      gt c7 (zpt (.b true) c),
      go (zpt (.b (true)) c7), trivial⟩
    · exact cK (aI rfl (aN ⟨rfl, rfl, rfl, rfl, trivial⟩))
   ·have g := aJ c g;obtain ⟨t, u, g⟩ := bind_some g;obtain ⟨B, w, g⟩ := bind_some g;obtain ⟨n, x, g⟩ := bind_some g;obtain ⟨o, y, g⟩ := bind_some g;have g := Option.some.inj g;subst g;have h6 := Option.some.inj h6;subst h6;refine ⟨[(8, 0, .i a), (9, 1, .bp b1 0 0), (10, 2, .i f.Rounds), (11, 3, .b (decide (a < f.Rounds))), (12, 4, .b (decide (a < f.Rounds))), (13, 5, .bp b2 0 1), (14, 6, .d (.sl 1 (m.Must.map iV))), (15, 7, .i a), (16, 8, .cp [.sl 1 (x8.map aM)]), (17, 9, .d (.sl 1 (x8.map aM))), (18, 10, .i e), (19, 11, .i a), (20, 12, .i (w64 (a + 1))), (21, 13, .d (.lit (.int .u64 (IntKind.u64.wrap (w64 (a + 1)))))), (22, 14, .i (e.fdiv (2 ^ (min (IntKind.u64.wrap (w64 (a + 1))).toNat 64)))), (23, 15, .cp [.lit (.int .i64 j)]), (24, 16, .i j), (25, 17, .b (decide (j = (-2)))), (26, 18, .b (decide (j = (-2)))), (27, 19, .bp b2 0 1), (28, 20, .d (.sl 1 (m.Must.map iV))), (29, 21, .i a), (30, 22, .cp [.sl 1 (t.map aM)]), (31, 23, .d (.sl 1 (t.map aM))), (32, 24, .i e), (33, 25, .i a), (34, 26, .i (w64 (a + 1))), (35, 27, .d (.lit (.int .u64 (IntKind.u64.wrap (w64 (a + 1)))))), (36, 28, .i (e.fdiv (2 ^ (min (IntKind.u64.wrap (w64 (a + 1))).toNat 64)))), (37, 29, .cp [.lit (.int .i64 n)]), (38, 30, .i n), (39, 31, .bp b2 0 0), (40, 32, .d (.sl 1 (m.Slots.map aM))), (41, 33, .i e), (42, 34, .cp [.lit (.int .i64 o)]), (43, 35, .i o), (44, 36, .b (decide (n = o))), (45, 37, .b (decide (n = o))), (46, 38, .b (decide (n = o)))], ?_, ?_⟩
    · exact dok [([], []), ([], []), ([1], []), ([0, 2], []), ([3], []), ([4], []), ([4, 5], []), ([4], []), ([4, 6, 7], []), ([4, 8], []), ([4], []), ([4], []), ([4, 11], []), ([4, 12], []), ([4, 10, 13], []), ([4, 9, 14], []), ([4, 15], []), ([4, 16], []), ([4, 17], []), ([18], []), ([18, 19], []), ([18], []), ([18, 20, 21], []), ([18, 22], []), ([18], []), ([18], []), ([18, 25], []), ([18, 26], []), ([18, 24, 27], []), ([18, 23, 28], []), ([18, 29], []), ([18], []), ([18, 31], []), ([18], []), ([18, 32, 33], []), ([18, 34], []), ([18, 30, 35], []), ([4, 18, 36], []), ([4, 37], [])] ⟨go (zm (.i a)),
      go (zf rfl fI),
      go (zl 0 rfl rfl rfl aU),
      go (zcm rfl rfl rfl),
      go (zm (.b (decide (a < f.Rounds)))),
      gt c7 (zf rfl pF),
      gt c7 (zl 1 rfl rfl rfl wS),
      gt c7 (zm (.i a)),
      gt c7 (zix rfl rfl yI.of (bA iV h9)),
      gt c7 (zlc rfl cI),
      gt c7 (zm (.i e)),
      gt c7 (zm (.i a)),
      gt c7 (zar rfl rfl rfl),
      gt c7 fun S hS => mT (aD rfl) (aX hS rfl) Tryz.runUnderlying3 Tryz.runUnderlying113,
      gt c7 fun S hS => uX (aD rfl) (aX hS rfl) (aX hS rfl) (vI q),
      gt c7 (zix rfl rfl bJ.of (bA aM s)),
      gt c7 (zlc rfl aU),
      gt c7 (zcm rfl rfl rfl),
      gt c7 (zm (.b (decide (j = (-2))))),
      gt c (zf rfl pF),
      gt c (zl 1 rfl rfl rfl wS),
      gt c (zm (.i a)),
      gt c (zix rfl rfl yI.of (bA iV u)),
      gt c (zlc rfl cI),
      gt c (zm (.i e)),
      gt c (zm (.i a)),
      gt c (zar rfl rfl rfl),
      gt c fun S hS => mT (aD rfl) (aX hS rfl) Tryz.runUnderlying3 Tryz.runUnderlying113,
      gt c fun S hS => uX (aD rfl) (aX hS rfl) (aX hS rfl) (vI w),
      gt c (zix rfl rfl bJ.of (bA aM x)),
      gt c (zlc rfl aU),
      gt c (zf rfl aBp),
      gt c (zl 1 rfl rfl rfl cI),
      gt c (zm (.i e)),
      gt c (zix rfl rfl bJ.of (bA aM y)),
      gt c (zlc rfl aU),
      gt c (zcm rfl rfl rfl),
      gt c7 (zpf (.b (decide (n = o))) c),
      go (zpt (.b (decide (n = o))) c7), trivial⟩
    · exact cK (aI rfl (aN ⟨rfl, rfl, rfl, rfl, trivial⟩))
  ·have h6 := aJ c7 h6;have h6 := Option.some.inj h6;subst h6;refine ⟨[(8, 0, .i a), (9, 1, .bp b1 0 0), (10, 2, .i f.Rounds), (11, 3, .b (decide (a < f.Rounds))), (12, 4, .b (decide (a < f.Rounds))), (13, 5, .tup []), (14, 6, .tup []), (15, 7, .tup []), (16, 8, .tup []), (17, 9, .tup []), (18, 10, .tup []), (19, 11, .tup []), (20, 12, .tup []), (21, 13, .tup []), (22, 14, .tup []), (23, 15, .tup []), (24, 16, .tup []), (25, 17, .tup []), (26, 18, .tup []), (27, 19, .tup []), (28, 20, .tup []), (29, 21, .tup []), (30, 22, .tup []), (31, 23, .tup []), (32, 24, .tup []), (33, 25, .tup []), (34, 26, .tup []), (35, 27, .tup []), (36, 28, .tup []), (37, 29, .tup []), (38, 30, .tup []), (39, 31, .tup []), (40, 32, .tup []), (41, 33, .tup []), (42, 34, .tup []), (43, 35, .tup []), (44, 36, .tup []), (45, 37, .tup []), (46, 38, .b false)], ?_, ?_⟩
   · exact dok [([], []), ([], []), ([1], []), ([0, 2], []), ([3], []), ([4], []), ([4, 5], []), ([4], []), ([4, 6, 7], []), ([4, 8], []), ([4], []), ([4], []), ([4, 11], []), ([4, 12], []), ([4, 10, 13], []), ([4, 9, 14], []), ([4, 15], []), ([4, 16], []), ([4, 17], []), ([18], []), ([18, 19], []), ([18], []), ([18, 20, 21], []), ([18, 22], []), ([18], []), ([18], []), ([18, 25], []), ([18, 26], []), ([18, 24, 27], []), ([18, 23, 28], []), ([18, 29], []), ([18], []), ([18, 31], []), ([18], []), ([18, 32, 33], []), ([18, 34], []), ([18, 30, 35], []), ([4, 18, 36], []), ([4, 37], [])] ⟨go (zm (.i a)),
      go (zf rfl fI),
      go (zl 0 rfl rfl rfl aU),
      go (zcm rfl rfl rfl),
      go (zm (.b (decide (a < f.Rounds)))),
      gp c7,
      gp c7,
      gp c7,
      gp c7,
      gp c7,
      gp c7,
      gp c7,
      gp c7,
      gp c7,
      gp c7,
      gp c7,
      gp c7,
      gp c7,
      gp c7,
      gq,
      gq,
      gq,
      gq,
      gq,
      gq,
      gq,
      gq,
      gq,
      gq,
      gq,
      gq,
      gq,
      gq,
      gq,
      gq,
      gq,
      gq,
      gp c7,
      go (zpf (.b false) c7), trivial⟩
   · exact cK (aI rfl (aN ⟨rfl, rfl, rfl, rfl, trivial⟩))
 ·refine aB ?_;refine aZ rfl (fun p => ?_) (fun p => ?_)
  ·have h := aK p h;refine aY (bF (aA (tm (.i a) (to (sar rfl rfl rfl) (ta (.i (w64 (a + 1))) ?_)))));refine cQ ?_;exact ⟨(w64 (a + 1)), h, aQ [0, 1] rfl rfl (aI rfl (aN ⟨rfl, rfl, rfl, trivial⟩))⟩
  ·have h := aJ p h;refine cB ?_;refine .inl ⟨rfl, ?_⟩;simp only [qM] at h;refine aC (aA (tm (.i a) (ta (.i a) (aB ?_))));have h := Option.some.inj h;subst h;refine bT (bL (bO (l := [6]) ⟨rfl, trivial⟩)) ?_;exact bB ⟨rfl, _, .one _, rfl, rfl⟩

theorem aDp (a : aV) (g : List aF) (c : Int) {r : bQ × Int} (h : fV a g c = some r) : Fn Tryz.prog 88 [.agg (bC a), .d (.sl 5 (g.map aL)), .i c] (.tup [.agg (bG r.1), .i r.2]) := by
 unfold fV at h;refine gV Tryz.func88 rfl (rs := [.cell 6 37, .tmp 7]) Tryz.results88 Tryz.ntmps88 (Nat.le_of_ble_eq_true rfl) ?_;refine aC (aA ?_);refine bE rfl (dN (v := .agg (bC a)) (aD rfl) rfl rfl rfl) ?_;rintro _ ⟨b1, rfl⟩;refine bE rfl (cM (zs := [.lit (.int .i64 0), .lit (.int .i64 0)]) (aD rfl) Tryz.zeroValue37 rfl rfl) ?_;rintro _ ⟨b2, rfl⟩;refine ta (.i 0) (aB (aC (aC (aA (to (sla 0 (bC a) rfl rfl jR) (tm (.d (.sl 5 (g.map aL))) ?_))))));obtain ⟨r3, h4, h⟩ := bind_some h;refine to (scr Tryz.call49 (yN _ _ h4)) (ta (.i r3) (aB (aC (aA (tm (.i r3) (to (scm rfl rfl rfl) (aB ?_)))))));refine aZ rfl (fun c5 => ?_) (fun c5 => ?_)
 ·have h := aK c5 h;refine aC (aA (to (dE (aD rfl) oU (zs := [.lit (.int .i64 0), .lit (.int .i64 0)]) rfl rfl rfl rfl (es := [.lit (.int .i64 0), .lit (.int .i64 0)]) rfl) ?_));refine tm (.i r3) (to (sst 1 rfl rfl Tryz.sizeOf37 (bG (bQ.mk 0 0))) (ta (.i r3) (aB ?_)));have h := Option.some.inj h;subst h;exact bB ⟨rfl, _, [.box b1 0 (bC a), .box b2 0 (bG (bQ.mk 0 0))], .two (.cell 6 37 rfl (i := 1) rfl kP (es := (bG (bQ.mk 0 0))) rfl rfl) (.tmp 7 (v := .i r3) rfl), .refl _, .same _⟩
 ·have h := aJ c5 h;refine aY (aC (aC (aA (tm (.i c) ?_))));obtain ⟨r6, h7, h⟩ := bind_some h;refine to (scr Tryz.call109 (gM _ _ _ h7)) (to (sn rfl) (aB ?_));refine aZ rfl (fun c8 => ?_) (fun c8 => ?_)
  ·have h := aK c8 h;refine aC (aA (to (dE (aD rfl) oU (zs := [.lit (.int .i64 0), .lit (.int .i64 0)]) rfl rfl rfl rfl (es := [.lit (.int .i64 0), .lit (.int .i64 0)]) rfl) ?_));refine to (sst 1 rfl rfl Tryz.sizeOf37 (bG (bQ.mk 0 0))) (ta (.i 1) (aB ?_));have h := Option.some.inj h;subst h;exact bB ⟨rfl, _, [.box b1 0 (bC a), .box b2 0 (bG (bQ.mk 0 0))], .two (.cell 6 37 rfl (i := 1) rfl kP (es := (bG (bQ.mk 0 0))) rfl rfl) (.tmp 7 (v := .i 1) rfl), .refl _, .same _⟩
  ·have h := aJ c8 h;refine aY (aC (aA (to (sla 0 (bC a) rfl rfl jR) (tm (.d (.sl 5 (g.map aL))) ?_))));obtain ⟨r9, m, h⟩ := bind_some h;refine to (fB (aD rfl) (.func _ _ Tryz.call85) rfl rfl (zH _ _ m)) ?_;refine tm (.tup [.agg (bN r9.1), .b r9.2]) (to (sex rfl rfl) (to (sex rfl rfl) ?_));refine bE rfl (cM (zs := [.sl 1 ((([] : List Int)).map aM), .sl 1 ((([] : List (List Int))).map iV)]) (aD rfl) Tryz.zeroValue126 rfl rfl) ?_;rintro _ ⟨l, rfl⟩;refine to (sst 2 rfl rfl Tryz.sizeOf126 (bN r9.1)) (ta (.b r9.2) (aB (aC (aA (to (sla 2 (bN r9.1) rfl rfl uR) (tm (.i c) ?_))))));obtain ⟨e, n, h⟩ := bind_some h;refine to (scr Tryz.call111 (aIf _ _ n)) (ta (.i e) (aB (aC (aC (aA (tm (.i e) (to (scm rfl rfl rfl) (aB ?_))))))));refine aZ rfl (fun k => ?_) (fun k => ?_)
   ·have h := aK k h;refine aC (aA (to (dE (aD rfl) oU (zs := [.lit (.int .i64 0), .lit (.int .i64 0)]) rfl rfl rfl rfl (es := [.lit (.int .i64 0), .lit (.int .i64 0)]) rfl) ?_));refine to (sst 1 rfl rfl Tryz.sizeOf37 (bG (bQ.mk 0 0))) (ta (.i 3) (aB ?_));have h := Option.some.inj h;subst h;exact bB ⟨rfl, _, [.box b1 0 (bC a), .box b2 0 (bG (bQ.mk 0 0)), .box l 0 (bN r9.1)], .two (.cell 6 37 rfl (i := 1) rfl kP (es := (bG (bQ.mk 0 0))) rfl rfl) (.tmp 7 (v := .i 3) rfl), .refl _, .same _⟩
   ·have h := aJ k h;refine aY (aC ?_);obtain ⟨f, o, h⟩ := bind_some h;refine cV mix 7 [6] [(38, .i f), (39, .agg (bC a)), (40, .agg (bN r9.1)), (41, .i e)] ?_ ?_
    ·refine ⟨[(35, 0, .agg (bC a)), (36, 1, .agg (bN r9.1)), (37, 2, .i e), (38, 3, .i f), (39, 4, .agg (bC a)), (40, 5, .agg (bN r9.1)), (41, 6, .i e)], ?_, ?_⟩
     · exact dok [([], []), ([], []), ([], []), ([0, 1, 2], []), ([], []), ([], []), ([], [])] ⟨go (zla 0 (bC a) rfl rfl jR),
      go (zla 2 (bN r9.1) rfl rfl uR),
      go (zm (.i e)),
      go fun S hS => fS (aD rfl) (.func _ _ Tryz.call112) (ev2 (aX hS rfl) (ev2 (aX hS rfl) (ev2 (aX hS rfl) evn))) rfl (BVs.refl _ _) (aFv _ _ _ o) rfl,
      go (zla 0 (bC a) rfl rfl jR),
      go (zla 2 (bN r9.1) rfl rfl uR),
      go (zm (.i e)), trivial⟩
     · exact cK (aI rfl (aI rfl (aI rfl (aI rfl (aN ⟨rfl, trivial⟩)))))
    ·obtain ⟨j, p, h⟩ := bind_some h;refine to (scr Tryz.call113 (aIe _ _ _ p)) (to (dE (aD rfl) oU (zs := [.lit (.int .i64 0), .lit (.int .i64 0)]) rfl rfl rfl rfl (es := [.lit (.int .i64 f), .lit (.int .i64 j)]) rfl) ?_);refine to (sst 1 rfl rfl Tryz.sizeOf37 (bG (bQ.mk f j))) (ta (.i 0) (aB ?_));have h := Option.some.inj h;subst h;exact bB ⟨rfl, _, [.box b1 0 (bC a), .box b2 0 (bG (bQ.mk f j)), .box l 0 (bN r9.1)], .two (.cell 6 37 rfl (i := 1) rfl kP (es := (bG (bQ.mk f j))) rfl rfl) (.tmp 7 (v := .i 0) rfl), .refl _, .same _⟩

theorem aId (a0 : aV) (a1 : List aF) (a2 : Int) {r : bQ × Int} (h : rL a0 a1 a2 = some r) : Fn Tryz.prog 73 [.agg (bC a0), .d (.sl 5 (a1.map aL)), .i a2] ((fun x : bQ × Int => .tup [.agg (bG x.1), .i x.2]) r) := aOl (enc := fun x : bQ × Int => .tup [.agg (bG x.1), .i x.2]) (aIc a0 a1 a2 (aFg a0 a1 a2 h (fun x => x = r) rfl))

theorem aFc (c : aR) (a : Int) {r : bQ × Bool} (h : tD c a = some r) : Fn Tryz.prog 40 [.agg (aP c), .i a] (.tup [.agg (bG r.1), .b r.2]) := by
 unfold tD at h;refine gV Tryz.func40 rfl (rs := [.cell 4 37, .tmp 5]) Tryz.results40 Tryz.ntmps40 (Nat.le_of_ble_eq_true rfl) ?_;refine aC (aA ?_);refine bE rfl (dN (v := .agg (aP c)) (aD rfl) rfl rfl rfl) ?_;rintro _ ⟨b1, rfl⟩;refine bE rfl (dN (v := .i a) (aD rfl) rfl rfl rfl) ?_;rintro _ ⟨b2, rfl⟩;refine bE rfl (cM (zs := [.lit (.int .i64 0), .lit (.int .i64 0)]) (aD rfl) Tryz.zeroValue37 rfl rfl) ?_;rintro _ ⟨b3, rfl⟩;refine ta (.b false) (aB (aC (aA (to (sf rfl jA) (to (sl 0 rfl rfl rfl mS) (to (aPh (aD rfl) rfl rfl) ?_))))));obtain ⟨r5, h6, h⟩ := bind_some h;refine to (sc Tryz.call71 (yZ _ _ 72 [.cp [.lit (.int .i64 a)]] Tryz.call72 (fun _ _ h => aLb _ _ h) h6) (.cons (.same _) (.cons (aWl (.cons (aDl 1 rfl rfl (dvc (.same _) dvn)) .nil)) .nil))) (ta (.i r5) (aB (aC (aC (aA (tm (.i r5) (to (scm rfl rfl rfl) (aB ?_))))))));refine aZ rfl (fun c7 => ?_) (fun c7 => ?_)
 ·have h := aK c7 h;refine aC (aA (to (dE (aD rfl) oU (zs := [.lit (.int .i64 0), .lit (.int .i64 0)]) rfl rfl rfl rfl (es := [.lit (.int .i64 0), .lit (.int .i64 0)]) rfl) ?_));refine to (sst 2 rfl rfl Tryz.sizeOf37 (bG (bQ.mk 0 0))) (ta (.b false) (aB ?_));have h := Option.some.inj h;subst h;exact bB ⟨rfl, _, [.box b1 0 (aP c), .box b2 0 [.lit (.int .i64 a)], .box b3 0 (bG (bQ.mk 0 0))], .two (.cell 4 37 rfl (i := 2) rfl kP (es := (bG (bQ.mk 0 0))) rfl rfl) (.tmp 5 (v := .b false) rfl), .refl _, .same _⟩
 ·have h := aJ c7 h;refine aY (aC (aA (to (sf rfl jA) (to (sl 0 rfl rfl rfl mS) (tm (.i r5) ?_)))));obtain ⟨x8, h9, h⟩ := bind_some h;refine to (six rfl rfl mA.of (bA bM h9)) (to (qH (bM x8) rfl tR) ?_);refine bE rfl (cM (zs := [.lit (.int .i64 0), .lit (.int .i64 0), .lit (.int .i64 0)]) (aD rfl) Tryz.zeroValue46 rfl rfl) ?_;rintro _ ⟨f, rfl⟩;refine to (sst 3 rfl rfl Tryz.sizeOf46 (bM x8)) (aB (aC (aA (to (sf rfl gH) (to (sla 0 (bC c.Tree) rfl rfl jR) (to (sf rfl oG) (to (sl 0 rfl rfl rfl uG) (to (sf rfl uB) (to (sl 3 rfl rfl rfl aU) ?_)))))))));obtain ⟨e, o, h⟩ := bind_some h;refine to (fB (aD rfl) (.func _ _ Tryz.call73) rfl rfl (aId _ _ _ o)) ?_;refine tm (.tup [.agg (bG e.1), .i e.2]) (to (sex rfl rfl) (to (sex rfl rfl) ?_));refine bE rfl (cM (zs := [.lit (.int .i64 0), .lit (.int .i64 0)]) (aD rfl) Tryz.zeroValue37 rfl rfl) ?_;rintro _ ⟨j, rfl⟩;refine to (sst 4 rfl rfl Tryz.sizeOf37 (bG e.1)) (ta (.i e.2) (aB (aC (aC (aA (tm (.i e.2) (to (scm rfl rfl rfl) (aB ?_))))))));refine aZ rfl (fun l => ?_) (fun l => ?_)
  ·have h := aK l h;refine aC (aA (to (dE (aD rfl) oU (zs := [.lit (.int .i64 0), .lit (.int .i64 0)]) rfl rfl rfl rfl (es := [.lit (.int .i64 0), .lit (.int .i64 0)]) rfl) ?_));refine to (sst 2 rfl rfl Tryz.sizeOf37 (bG (bQ.mk 0 0))) (ta (.b true) (aB ?_));have h := Option.some.inj h;subst h;exact bB ⟨rfl, _, [.box b1 0 (aP c), .box b2 0 [.lit (.int .i64 a)], .box b3 0 (bG (bQ.mk 0 0)), .box f 0 (bM x8), .box j 0 (bG e.1)], .two (.cell 4 37 rfl (i := 2) rfl kP (es := (bG (bQ.mk 0 0))) rfl rfl) (.tmp 5 (v := .b true) rfl), .refl _, .same _⟩
  ·have h := aJ l h;refine aY (aC (aA (to (aPh (aD rfl) rfl rfl) ?_)));refine ta (.fn 74 [.bp f 0 0, .bp b2 0 0]) (aB (aC ?_));obtain ⟨n, p, h⟩ := bind_some h;obtain ⟨g, q, h⟩ := bind_some h;obtain ⟨m, s, h⟩ := bind_some h;refine cV mix 15 [4] [(44, .i g), (45, .fn 74 [.bp f 0 0, .bp b2 0 0]), (51, .i m)] ?_ ?_
   ·refine ⟨[(37, 0, .fn 74 [.bp f 0 0, .bp b2 0 0]), (38, 1, .bp b1 0 3), (39, 2, .d (.sl 1 (c.Prizes.map aM))), (40, 3, .bp j 0 0), (41, 4, .i e.1.Low), (42, 5, .cp [.lit (.int .i64 n)]), (43, 6, .i n), (44, 7, .i g), (45, 8, .fn 74 [.bp f 0 0, .bp b2 0 0]), (46, 9, .bp b1 0 3), (47, 10, .d (.sl 1 (c.Prizes.map aM))), (48, 11, .bp j 0 1), (49, 12, .i e.1.High), (50, 13, .cp [.lit (.int .i64 m)]), (51, 14, .i m)], ?_, ?_⟩
    · exact dok [([], []), ([], []), ([1], []), ([], []), ([3], []), ([2, 4], []), ([5], []), ([0, 6], []), ([], []), ([], []), ([9], []), ([], []), ([11], []), ([10, 12], []), ([13], [])] ⟨go (zm (.fn 74 [.bp f 0 0, .bp b2 0 0])),
      go (zf rfl fP),
      go (zl 0 rfl rfl rfl cI),
      go (zf rfl aJg),
      go (zl 4 rfl rfl rfl aU),
      go (zix rfl rfl bJ.of (bA aM p)),
      go (zlc rfl aU),
      go fun S hS => fS (aD rfl) (.clo _ _ _ _ Tryz.call74 (aKw hS rfl)) (aAl (ev2 (aX hS rfl) evn)) rfl (.cons (.same _) (.cons (aDl 3 rfl rfl (dvc (.same _) (dvc (.same _) (dvc (.same _) dvn)))) (.cons (aDl 1 rfl rfl (dvc (.same _) dvn)) .nil))) (aBy _ _ _ q) rfl,
      go (zm (.fn 74 [.bp f 0 0, .bp b2 0 0])),
      go (zf rfl fP),
      go (zl 0 rfl rfl rfl cI),
      go (zf rfl aOk),
      go (zl 4 rfl rfl rfl aU),
      go (zix rfl rfl bJ.of (bA aM s)),
      go (zlc rfl aU), trivial⟩
    · exact cK (aI rfl (aI rfl (aI rfl (aN ⟨rfl, trivial⟩))))
   ·obtain ⟨k, t, h⟩ := bind_some h;refine to (fS (aD rfl) (.clo _ _ _ _ Tryz.call74 rfl) (aAl rfl) rfl (.cons (.same _) (.cons (aDl 3 rfl rfl (dvc (.same _) (dvc (.same _) (dvc (.same _) dvn)))) (.cons (aDl 1 rfl rfl (dvc (.same _) dvn)) .nil))) (aBy _ _ _ t) rfl) ?_;refine to (dE (aD rfl) oU (zs := [.lit (.int .i64 0), .lit (.int .i64 0)]) rfl rfl rfl rfl (es := [.lit (.int .i64 g), .lit (.int .i64 k)]) rfl) ?_;refine to (sst 2 rfl rfl Tryz.sizeOf37 (bG (bQ.mk g k))) (ta (.b true) (aB ?_));have h := Option.some.inj h;subst h;exact bB ⟨rfl, _, [.box b1 0 (aP c), .box b2 0 [.lit (.int .i64 a)], .box b3 0 (bG (bQ.mk g k)), .box f 0 (bM x8), .box j 0 (bG e.1)], .two (.cell 4 37 rfl (i := 2) rfl kP (es := (bG (bQ.mk g k))) rfl rfl) (.tmp 5 (v := .b true) rfl), .refl _, .same _⟩

theorem aFa (c : aR) (a : Int) {r : bQ × Int} (h : nN c a = some r) : Fn Tryz.prog 13 [.agg (aP c), .i a] (.tup [.agg (bG r.1), .i r.2]) := by
 unfold nN at h;refine gV Tryz.func13 rfl (rs := [.cell 4 37, .tmp 5]) Tryz.results13 Tryz.ntmps13 (Nat.le_of_ble_eq_true rfl) ?_;refine aC (aA ?_);refine bE rfl (dN (v := .agg (aP c)) (aD rfl) rfl rfl rfl) ?_;rintro _ ⟨b1, rfl⟩;refine bE rfl (cM (zs := [.lit (.int .i64 0), .lit (.int .i64 0)]) (aD rfl) Tryz.zeroValue37 rfl rfl) ?_;rintro _ ⟨b2, rfl⟩;refine ta (.i 0) (aB (aC (aC (aA (to (sla 0 (aP c) rfl rfl eI) ?_)))));obtain ⟨r3, h4, h⟩ := bind_some h;refine to (scr Tryz.call23 (zE _ h4)) (ta (.i r3) (aB (aC (aA (tm (.i r3) (to (scm rfl rfl rfl) (aB ?_)))))));refine aZ rfl (fun c5 => ?_) (fun c5 => ?_)
 ·have h := aK c5 h;refine aC (aA (to (dE (aD rfl) oU (zs := [.lit (.int .i64 0), .lit (.int .i64 0)]) rfl rfl rfl rfl (es := [.lit (.int .i64 0), .lit (.int .i64 0)]) rfl) ?_));refine tm (.i r3) (to (sst 1 rfl rfl Tryz.sizeOf37 (bG (bQ.mk 0 0))) (ta (.i r3) (aB ?_)));have h := Option.some.inj h;subst h;exact bB ⟨rfl, _, [.box b1 0 (aP c), .box b2 0 (bG (bQ.mk 0 0))], .two (.cell 4 37 rfl (i := 1) rfl kP (es := (bG (bQ.mk 0 0))) rfl rfl) (.tmp 5 (v := .i r3) rfl), .refl _, .same _⟩
 ·have h := aJ c5 h;refine aY (aC (aA (to (sla 0 (aP c) rfl rfl eI) (tm (.i a) ?_))));obtain ⟨r6, h7, h⟩ := bind_some h;refine to (fB (aD rfl) (.func _ _ Tryz.call40) rfl rfl (aFc _ _ h7)) ?_;refine tm (.tup [.agg (bG r6.1), .b r6.2]) (to (sex rfl rfl) (to (sex rfl rfl) ?_));refine bE rfl (cM (zs := [.lit (.int .i64 0), .lit (.int .i64 0)]) (aD rfl) Tryz.zeroValue37 rfl rfl) ?_;rintro _ ⟨b8, rfl⟩;refine to (sst 2 rfl rfl Tryz.sizeOf37 (bG r6.1)) (ta (.b r6.2) (aB (aC (aC (aA (tm (.b r6.2) (to (sn rfl) (aB ?_))))))));refine aZ rfl (fun c9 => ?_) (fun c9 => ?_)
  ·have h := aK c9 h;refine aC (aA (to (dE (aD rfl) oU (zs := [.lit (.int .i64 0), .lit (.int .i64 0)]) rfl rfl rfl rfl (es := [.lit (.int .i64 0), .lit (.int .i64 0)]) rfl) ?_));refine to (sst 1 rfl rfl Tryz.sizeOf37 (bG (bQ.mk 0 0))) (ta (.i 1) (aB ?_));have h := Option.some.inj h;subst h;exact bB ⟨rfl, _, [.box b1 0 (aP c), .box b2 0 (bG (bQ.mk 0 0)), .box b8 0 (bG r6.1)], .two (.cell 4 37 rfl (i := 1) rfl kP (es := (bG (bQ.mk 0 0))) rfl rfl) (.tmp 5 (v := .i 1) rfl), .refl _, .same _⟩
  ·have h := aJ c9 h;refine aY (aC (aA (to (sla 2 (bG r6.1) rfl rfl kP) (to (sst 1 rfl rfl Tryz.sizeOf37 (bG r6.1)) (ta (.i 0) (aB ?_))))));have h := Option.some.inj h;subst h;exact bB ⟨rfl, _, [.box b1 0 (aP c), .box b2 0 (bG r6.1), .box b8 0 (bG r6.1)], .two (.cell 4 37 rfl (i := 1) rfl kP (es := (bG r6.1)) rfl rfl) (.tmp 5 (v := .i 0) rfl), .refl _, .same _⟩

end Go.Am
