/- The functions compute what the shallow ones say: printed by program. -/
import Derived.Test.YtaocljlhapoieaaRankMergesSimP1
namespace Go.Am
open Go.Proofs
set_option maxRecDepth 100000
set_option maxHeartbeats 4000000

theorem wV (l_0 : aM) (player_1 : Int) (week_2 : Int) {r : (Option bX) × Int} (h : uL l_0 player_1 week_2 = some r) : fQ Try.prog 44 [.agg (aN l_0), .d (.lit (.int .i64 player_1)), .d (.lit (.int .i64 week_2))] [] (fun r' o' => ∃ (b : Nat) (w0 : Value), r' = .tup [(match r.1 with | none => .d (.lit (.pointer none)) | some _ => .bp b 0 0), .d (.lit (.int .i64 r.2))] ∧ o' = (match r.1 with | none => [] | some x => [.box b 0 [.lit (.int .i64 x.Ledger.Players), .lit (.int .i64 x.Ledger.Counts), .lit w0, .sl 3 (x.Ledger.Bans.map aH), .sl 3 (x.Ledger.Frozen.map aH)], .arr w0 42 5 (x.Ledger.Reports.map aB)])) := by
 unfold uL at h
 refine kQ Try.func44 rfl (rs := [.tmp 6, .tmp 7]) Try.results44 Try.ntmps44 (Nat.le_of_ble_eq_true rfl) ?_
 refine aG ?_
 refine aE ?_
 refine bR rfl (fX (v := .agg (aN l_0)) (aA rfl) rfl rfl rfl) ?_
 rintro _ ⟨b1, rfl⟩
 refine tr1 rfl (aJ (v := qH cD (none : Option bX)) (aA rfl) rfl rfl) ?_
 refine tr1 rfl (aJ (v := .d (.lit (.int .i64 0))) (aA rfl) rfl rfl) ?_
 refine aF ?_
 refine aG ?_
 refine aE ?_
 refine tr1 rfl (cS (aA rfl) rfl (i := 0) rfl dZ (es := (aN l_0)) rfl rfl) ?_
 obtain ⟨r2, h3, h⟩ := bind_some h
 refine bR rfl (dQ (passed := []) (aA rfl) rfl (.func _ _ Try.call80) rfl rfl (aDs _ h3)) ?_
 rintro _ ⟨_, _, ⟨b5, w6, rfl, rfl⟩, rfl⟩
 obtain ⟨_ | y4, e7⟩ := r2
 ·have h := aAg h
  refine gJ (aX [0] rfl rfl (le_refl _)) ?_
  refine tr1 rfl (aD (v := .tup [.d (.lit (.pointer none)), .d (.lit (.int .i64 e7))]) (aA rfl) rfl rfl) ?_
  refine tr1 rfl (dD (aA rfl) rfl rfl) ?_
  refine tr1 rfl (dD (aA rfl) rfl rfl) ?_
  refine tr1 rfl (aJ (v := .d (.lit (.pointer none))) (aA rfl) rfl rfl) ?_
  refine tr1 rfl (aJ (v := .d (.lit (.int .i64 e7))) (aA rfl) rfl rfl) ?_
  refine aF ?_
  refine aG ?_
  refine aG ?_
  refine aE ?_
  refine tr1 rfl (aD (v := .d (.lit (.int .i64 e7))) (aA rfl) rfl rfl) ?_
  refine tr1 rfl (bC (aA rfl) rfl rfl rfl) ?_
  refine aF ?_
  refine bH rfl (fun c8 => ?_) (fun c8 => ?_)
  ·have h := aU c8 h
   refine aG ?_
   refine aE ?_
   refine tr1 rfl (aD (v := .d (.lit (.int .i64 e7))) (aA rfl) rfl rfl) ?_
   refine tr1 rfl (aJ (v := qH cD (none : Option bX)) (aA rfl) rfl rfl) ?_
   refine tr1 rfl (aJ (v := .d (.lit (.int .i64 e7))) (aA rfl) rfl rfl) ?_
   refine aF ?_
   have h := Option.some.inj h
   subst h
   exact bI ⟨rfl, _, [], [.box b1 0 (aN l_0)], _, .two (.tmp 6 (v := qH cD (none : Option bX)) rfl) (.tmp 7 (v := .d (.lit (.int .i64 e7))) rfl), .refl _, .same _, 0, undef, rfl, rfl⟩
  ·have h := aT c8 h
   refine bE ?_
   refine aG ?_
   refine aG ?_
   refine aE ?_
   refine tr1 rfl (aD (v := .d (.lit (.int .i64 player_1))) (aA rfl) rfl rfl) ?_
   refine tr1 rfl (aS (aA rfl) rfl jH) ?_
   refine tr1 rfl (aV (aA rfl) rfl (i := 0) rfl rfl bM) ?_
   refine tr1 rfl (aZ (aA rfl) rfl rfl rfl) ?_
   obtain ⟨r9, h10, h⟩ := bind_some h
   refine tr1 rfl (cC (aA rfl) (.func _ _ Try.call47) rfl rfl (BVs.refl _ _) (eY _ _ _ h10) rfl) ?_
   refine tr1 rfl (fO (aA rfl) rfl) ?_
   refine tr1 rfl (aD (v := .d (.lit (.bool (!r9)))) (aA rfl) rfl rfl) ?_
   obtain ⟨b11, h12, h⟩ := bind_some h
   refine cA 4 [8] 28 b11 ?_ ?_
   ·refine bJ (!r9) (fun c14 => ?_) (fun c14 => ?_)
    ·have h12 := aU c14 h12
     refine aR rfl rfl (aA rfl) rfl (aA rfl) rfl c14 ?_
     refine aR rfl rfl (aA rfl) rfl (aA rfl) rfl c14 ?_
     refine aR rfl rfl (aA rfl) rfl (aA rfl) rfl c14 ?_
     refine tr1 rfl (bW (v := .d (.lit (.bool true))) (aA rfl) rfl c14 rfl rfl) ?_
     have h12 := Option.some.inj h12
     subst h12
     refine aF (bB rfl ⟨rfl, trivial⟩ rfl)
    ·have h12 := aT c14 h12
     refine aP rfl rfl (aA rfl) rfl c14 (aD (v := .d (.lit (.int .i64 week_2))) (aA rfl) rfl rfl) ?_
     obtain ⟨r15, h16, h12⟩ := bind_some h12
     refine aP rfl rfl (aA rfl) rfl c14 (cC (aA rfl) (.func _ _ Try.call47) rfl rfl (BVs.refl _ _) (eY _ _ _ h16) rfl) ?_
     refine aP rfl rfl (aA rfl) rfl c14 (fO (aA rfl) rfl) ?_
     refine tr1 rfl (bT (v := .d (.lit (.bool (!r15)))) (aA rfl) rfl c14 rfl rfl) ?_
     have h12 := Option.some.inj h12
     subst h12
     refine aF (bB rfl ⟨rfl, trivial⟩ rfl)
   ·refine aF ?_
    refine bH rfl (fun c13 => ?_) (fun c13 => ?_)
    ·have h := aU c13 h
     refine aG ?_
     refine aE ?_
     refine tr1 rfl (aJ (v := qH cD (none : Option bX)) (aA rfl) rfl rfl) ?_
     refine tr1 rfl (aJ (v := .d (.lit (.int .i64 1))) (aA rfl) rfl rfl) ?_
     refine aF ?_
     have h := Option.some.inj h
     subst h
     exact bI ⟨rfl, _, [], [.box b1 0 (aN l_0)], _, .two (.tmp 6 (v := qH cD (none : Option bX)) rfl) (.tmp 7 (v := .d (.lit (.int .i64 1))) rfl), .refl _, .same _, 0, undef, rfl, rfl⟩
    ·have h := aT c13 h
     refine bE ?_
     refine aG ?_
     refine aE ?_
     refine tr1 rfl (aD (v := .d (.lit (.pointer none))) (aA rfl) rfl rfl) ?_
     refine tr1 rfl (aJ (v := .d (.lit (.pointer none))) (aA rfl) rfl rfl) ?_
     refine tr1 rfl (aJ (v := .d (.lit (.int .i64 0))) (aA rfl) rfl rfl) ?_
     refine aF ?_
     have h := Option.some.inj h
     subst h
     exact bI ⟨rfl, _, [], [.box b1 0 (aN l_0)], _, .two (.tmp 6 (v := .d (.lit (.pointer none))) rfl) (.tmp 7 (v := .d (.lit (.int .i64 0))) rfl), .refl _, .same _, 0, undef, rfl, rfl⟩
 ·have h := aAh h
  refine gJ (aX [0, 1, 2] rfl rfl (le_refl _)) ?_
  refine tr1 rfl (aD (v := .tup [.bp b5 0 0, .d (.lit (.int .i64 e7))]) (aA rfl) rfl rfl) ?_
  refine tr1 rfl (dD (aA rfl) rfl rfl) ?_
  refine tr1 rfl (dD (aA rfl) rfl rfl) ?_
  refine tr1 rfl (aJ (v := .bp b5 0 0) (aA rfl) rfl rfl) ?_
  refine tr1 rfl (aJ (v := .d (.lit (.int .i64 e7))) (aA rfl) rfl rfl) ?_
  refine aF ?_
  refine aG ?_
  refine aG ?_
  refine aE ?_
  refine tr1 rfl (aD (v := .d (.lit (.int .i64 e7))) (aA rfl) rfl rfl) ?_
  refine tr1 rfl (bC (aA rfl) rfl rfl rfl) ?_
  refine aF ?_
  refine bH rfl (fun c17 => ?_) (fun c17 => ?_)
  ·have h := aU c17 h
   refine aG ?_
   refine aE ?_
   refine tr1 rfl (aD (v := .d (.lit (.int .i64 e7))) (aA rfl) rfl rfl) ?_
   refine tr1 rfl (aJ (v := qH cD (none : Option bX)) (aA rfl) rfl rfl) ?_
   refine tr1 rfl (aJ (v := .d (.lit (.int .i64 e7))) (aA rfl) rfl rfl) ?_
   refine aF ?_
   have h := Option.some.inj h
   subst h
   exact bI ⟨rfl, _, [], [.box b5 0 [.lit (.int .i64 y4.Ledger.Players), .lit (.int .i64 y4.Ledger.Counts), .lit w6, .sl 3 (y4.Ledger.Bans.map aH), .sl 3 (y4.Ledger.Frozen.map aH)], .arr w6 42 5 (y4.Ledger.Reports.map aB), .box b1 0 (aN l_0)], _, .two (.tmp 6 (v := qH cD (none : Option bX)) rfl) (.tmp 7 (v := .d (.lit (.int .i64 e7))) rfl), .refl _, .same _, 0, undef, rfl, rfl⟩
  ·have h := aT c17 h
   refine bE ?_
   refine aG ?_
   refine aG ?_
   refine aE ?_
   refine tr1 rfl (aD (v := .d (.lit (.int .i64 player_1))) (aA rfl) rfl rfl) ?_
   refine tr1 rfl (aS (aA rfl) rfl jH) ?_
   refine tr1 rfl (aV (aA rfl) rfl (i := 2) rfl rfl bM) ?_
   refine tr1 rfl (aZ (aA rfl) rfl rfl rfl) ?_
   obtain ⟨r18, h19, h⟩ := bind_some h
   refine tr1 rfl (cC (aA rfl) (.func _ _ Try.call47) rfl rfl (BVs.refl _ _) (eY _ _ _ h19) rfl) ?_
   refine tr1 rfl (fO (aA rfl) rfl) ?_
   refine tr1 rfl (aD (v := .d (.lit (.bool (!r18)))) (aA rfl) rfl rfl) ?_
   obtain ⟨b20, h21, h⟩ := bind_some h
   refine cA 4 [8] 28 b20 ?_ ?_
   ·refine bJ (!r18) (fun c23 => ?_) (fun c23 => ?_)
    ·have h21 := aU c23 h21
     refine aR rfl rfl (aA rfl) rfl (aA rfl) rfl c23 ?_
     refine aR rfl rfl (aA rfl) rfl (aA rfl) rfl c23 ?_
     refine aR rfl rfl (aA rfl) rfl (aA rfl) rfl c23 ?_
     refine tr1 rfl (bW (v := .d (.lit (.bool true))) (aA rfl) rfl c23 rfl rfl) ?_
     have h21 := Option.some.inj h21
     subst h21
     refine aF (bB rfl ⟨rfl, trivial⟩ rfl)
    ·have h21 := aT c23 h21
     refine aP rfl rfl (aA rfl) rfl c23 (aD (v := .d (.lit (.int .i64 week_2))) (aA rfl) rfl rfl) ?_
     obtain ⟨r24, h25, h21⟩ := bind_some h21
     refine aP rfl rfl (aA rfl) rfl c23 (cC (aA rfl) (.func _ _ Try.call47) rfl rfl (BVs.refl _ _) (eY _ _ _ h25) rfl) ?_
     refine aP rfl rfl (aA rfl) rfl c23 (fO (aA rfl) rfl) ?_
     refine tr1 rfl (bT (v := .d (.lit (.bool (!r24)))) (aA rfl) rfl c23 rfl rfl) ?_
     have h21 := Option.some.inj h21
     subst h21
     refine aF (bB rfl ⟨rfl, trivial⟩ rfl)
   ·refine aF ?_
    refine bH rfl (fun c22 => ?_) (fun c22 => ?_)
    ·have h := aU c22 h
     refine aG ?_
     refine aE ?_
     refine tr1 rfl (aJ (v := qH cD (none : Option bX)) (aA rfl) rfl rfl) ?_
     refine tr1 rfl (aJ (v := .d (.lit (.int .i64 1))) (aA rfl) rfl rfl) ?_
     refine aF ?_
     have h := Option.some.inj h
     subst h
     exact bI ⟨rfl, _, [], [.box b5 0 [.lit (.int .i64 y4.Ledger.Players), .lit (.int .i64 y4.Ledger.Counts), .lit w6, .sl 3 (y4.Ledger.Bans.map aH), .sl 3 (y4.Ledger.Frozen.map aH)], .arr w6 42 5 (y4.Ledger.Reports.map aB), .box b1 0 (aN l_0)], _, .two (.tmp 6 (v := qH cD (none : Option bX)) rfl) (.tmp 7 (v := .d (.lit (.int .i64 1))) rfl), .refl _, .same _, 0, undef, rfl, rfl⟩
    ·have h := aT c22 h
     refine bE ?_
     refine aG ?_
     refine aE ?_
     refine tr1 rfl (aD (v := .bp b5 0 0) (aA rfl) rfl rfl) ?_
     refine tr1 rfl (aJ (v := .bp b5 0 0) (aA rfl) rfl rfl) ?_
     refine tr1 rfl (aJ (v := .d (.lit (.int .i64 0))) (aA rfl) rfl rfl) ?_
     refine aF ?_
     have h := Option.some.inj h
     subst h
     exact bI ⟨rfl, _, [.box b5 0 [.lit (.int .i64 y4.Ledger.Players), .lit (.int .i64 y4.Ledger.Counts), .lit w6, .sl 3 (y4.Ledger.Bans.map aH), .sl 3 (y4.Ledger.Frozen.map aH)], .arr w6 42 5 (y4.Ledger.Reports.map aB)], [.box b1 0 (aN l_0)], _, .two (.tmp 6 (v := .bp b5 0 0) rfl) (.tmp 7 (v := .d (.lit (.int .i64 0))) rfl), .refl _, .same _, b5, w6, rfl, rfl⟩

theorem vC (b_0 : bX) (r_1 : aC) (week_2 : Int) {r : Int} (h : mJ b_0 r_1 week_2 = some r) : Fn Try.prog 77 [.cp (cD b_0), .agg (aB r_1), .d (.lit (.int .i64 week_2))] (.d (.lit (.int .i64 r))) := by
 unfold mJ at h
 refine Fn.of_tr Try.func77 rfl (rs := [.tmp 6]) Try.results77 Try.ntmps77 (Nat.le_of_ble_eq_true rfl) ?_
 refine aG ?_
 refine aE ?_
 refine bR rfl (fX (v := .agg (aB r_1)) (aA rfl) rfl rfl rfl) ?_
 rintro _ ⟨b1, rfl⟩
 refine tr1 rfl (aJ (v := .d (.lit (.int .i64 0))) (aA rfl) rfl rfl) ?_
 refine aF ?_
 refine aG ?_
 refine aE ?_
 refine tr1 rfl (aD (v := .d (.lit (.int .i64 week_2))) (aA rfl) rfl rfl) ?_
 refine tr1 rfl (aS (aA rfl) rfl nE) ?_
 refine tr1 rfl (aV (aA rfl) rfl (i := 0) rfl rfl bM) ?_
 refine tr1 rfl (aZ (aA rfl) rfl rfl rfl) ?_
 refine tr1 rfl (aJ (v := .d (.lit (.int .i64 ((w64 (week_2 - r_1.Week)))))) (aA rfl) rfl rfl) ?_
 refine aF ?_
 refine aG ?_
 refine aG ?_
 refine aE ?_
 refine tr1 rfl (aD (v := .cp [.lit (.int .i64 b_0.Ledger.Players), .lit (.int .i64 b_0.Ledger.Counts), .sl 5 (b_0.Ledger.Reports.map aB), .sl 3 (b_0.Ledger.Bans.map aH), .sl 3 (b_0.Ledger.Frozen.map aH)]) (aA rfl) rfl rfl) ?_
 refine tr1 rfl (pL (aA rfl) rfl) ?_
 refine tr1 rfl (cV (aA rfl) rfl iS (es := [.lit (.int .i64 b_0.Ledger.Players), .lit (.int .i64 b_0.Ledger.Counts), .sl 5 (b_0.Ledger.Reports.map aB), .sl 3 (b_0.Ledger.Bans.map aH), .sl 3 (b_0.Ledger.Frozen.map aH)]) rfl) ?_
 refine tr1 rfl (cV (aA rfl) rfl hH (es := [.sl 3 (b_0.Ledger.Frozen.map aH)]) rfl) ?_
 refine tr1 rfl (cK (aA rfl) rfl fV) ?_
 refine tr1 rfl (dB (aA rfl) rfl eI.of) ?_
 refine tr1 rfl (aD (v := .d (.lit (.int .i64 0))) (aA rfl) rfl rfl) ?_
 refine aF ?_
 refine bQ ?_
 refine cH [2, 4, 18, 19] (fun (s2 : Int × Int) => [(7, .d (.lit (.int .i64 s2.1))), (20, .d (.lit (.int .i64 s2.2)))]) (fun (s2 : Int × Int) => [.box b1 0 (aB r_1)]) (fun (k : Nat) (s2 : Int × Int) => iI week_2 b_0.Ledger.Frozen (b_0.Ledger.Frozen.length : Int) r_1 k s2.1 s2.2) (fun _ => rfl) (w64 (week_2 - r_1.Week), 0) h (aX [0] rfl rfl (aO rfl (aO rfl (aY ⟨rfl, rfl, rfl, rfl, trivial⟩)))) ?_
 rintro k3 ⟨n_0_2, t20_0_2⟩ h
 simp only [iI] at h
 refine aG ?_
 refine aE ?_
 refine tr1 rfl (bC (aA rfl) rfl rfl rfl) ?_
 refine aF ?_
 refine aG ?_
 refine bH rfl (fun c4 => ?_) (fun c4 => ?_)
 ·have h := aU c4 h
  refine bE ?_
  refine aG ?_
  refine bQ ?_
  refine aG ?_
  refine aE ?_
  obtain ⟨x5, h6, h⟩ := bind_some h
  refine tr1 rfl (bY (aA rfl) rfl rfl eI.of (bN aH h6)) ?_
  refine tr1 rfl (eH (aA rfl) rfl qZ (es := (aH x5)) rfl rfl) ?_
  refine bR rfl (fF (zs := [.lit (.int .i64 0), .lit (.int .i64 0), .lit (.int .i64 0)]) (aA rfl) Try.zeroValue66 rfl rfl) ?_
  rintro _ ⟨b7, rfl⟩
  refine tr1 rfl (bO (i := 1) rfl rfl rfl rfl rfl Try.sizeOf66 rfl (aA rfl) (Nat.le_of_ble_eq_true rfl) (ds' := (aH x5)) rfl) ?_
  refine aF ?_
  refine aG ?_
  refine aE ?_
  refine tr1 rfl (aS (aA rfl) rfl lZ) ?_
  refine tr1 rfl (aV (aA rfl) rfl (i := 1) rfl rfl bM) ?_
  refine tr1 rfl (aS (aA rfl) rfl qL) ?_
  refine tr1 rfl (aV (aA rfl) rfl (i := 0) rfl rfl bM) ?_
  refine tr1 rfl (bC (aA rfl) rfl rfl rfl) ?_
  refine aF ?_
  refine bH rfl (fun c8 => ?_) (fun c8 => ?_)
  ·have h := aU c8 h
   refine aE ?_
   refine tr1 rfl (aD (v := .d (.lit (.int .i64 n_0_2))) (aA rfl) rfl rfl) ?_
   refine tr1 rfl (aS (aA rfl) rfl mA) ?_
   refine tr1 rfl (aV (aA rfl) rfl (i := 1) rfl rfl bM) ?_
   refine tr1 rfl (aD (v := .d (.lit (.int .i64 week_2))) (aA rfl) rfl rfl) ?_
   refine tr1 rfl (aFf (aA rfl) rfl rfl) ?_
   refine tr1 rfl (aS (aA rfl) rfl kK) ?_
   refine tr1 rfl (aV (aA rfl) rfl (i := 1) rfl rfl bM) ?_
   refine tr1 rfl (aS (aA rfl) rfl nE) ?_
   refine tr1 rfl (aV (aA rfl) rfl (i := 0) rfl rfl bM) ?_
   refine tr1 rfl (aZ (aA rfl) rfl rfl rfl) ?_
   refine tr1 rfl (aCd (aA rfl) rfl rfl) ?_
   refine tr1 rfl (aZ (aA rfl) rfl rfl rfl) ?_
   refine tr1 rfl (aZ (aA rfl) rfl rfl rfl) ?_
   refine tr1 rfl (aCd (aA rfl) rfl rfl) ?_
   refine tr1 rfl (aZ (aA rfl) rfl rfl rfl) ?_
   refine tr1 rfl (aJ (v := .d (.lit (.int .i64 ((w64 (n_0_2 - (max 0 (w64 ((w64 ((min x5.To week_2) - (max x5.From (w64 (r_1.Week + 1))))) + 1))))))))) (aA rfl) rfl rfl) ?_
   refine eC ?_
   refine aE ?_
   refine tr1 rfl (aZ (aA rfl) rfl rfl rfl) ?_
   refine tr1 rfl (aD (v := .d (.lit (.int .i64 ((w64 (t20_0_2 + 1)))))) (aA rfl) rfl rfl) ?_
   refine aF ?_
   exact ⟨(w64 (n_0_2 - (max 0 (w64 ((w64 ((min x5.To week_2) - (max x5.From (w64 (r_1.Week + 1))))) + 1)))), w64 (t20_0_2 + 1)), h, aX [0] rfl rfl (aO rfl (aO rfl (aY ⟨rfl, rfl, rfl, rfl, trivial⟩)))⟩
  ·have h := aT c8 h
   refine eF ?_
   refine aE ?_
   refine tr1 rfl (aZ (aA rfl) rfl rfl rfl) ?_
   refine tr1 rfl (aD (v := .d (.lit (.int .i64 ((w64 (t20_0_2 + 1)))))) (aA rfl) rfl rfl) ?_
   refine aF ?_
   exact ⟨(n_0_2, w64 (t20_0_2 + 1)), h, aX [0] rfl rfl (aO rfl (aO rfl (aY ⟨rfl, rfl, rfl, rfl, trivial⟩)))⟩
 ·have h := aT c4 h
  refine cQ ?_
  refine .inl ⟨rfl, ?_⟩
  simp only [qQ] at h
  refine aG ?_
  refine aE ?_
  refine tr1 rfl (aD (v := .d (.lit (.int .i64 n_0_2))) (aA rfl) rfl rfl) ?_
  refine tr1 rfl (aJ (v := .d (.lit (.int .i64 n_0_2))) (aA rfl) rfl rfl) ?_
  refine aF ?_
  have h := Option.some.inj h
  subst h
  refine cR (cJ (cP (l := [6]) ⟨rfl, trivial⟩)) ?_
  exact bI ⟨rfl, _, .one _, rfl, rfl⟩

theorem aBw (a_0 : aL) (c_1 : Int) (c_2 : Int) {r : Bool} (h : pZ a_0 c_1 c_2 = some r) : Fn Try.prog 83 [.agg (aH a_0), .cp [.lit (.int .i64 c_1)], .cp [.lit (.int .i64 c_2)]] (.d (.lit (.bool r))) := by
 unfold pZ at h
 refine Fn.of_tr Try.func83 rfl (rs := [.tmp 4]) Try.results83 Try.ntmps83 (Nat.le_of_ble_eq_true rfl) ?_
 refine aG ?_
 refine aE ?_
 refine bR rfl (fX (v := .agg (aH a_0)) (aA rfl) rfl rfl rfl) ?_
 rintro _ ⟨b1, rfl⟩
 refine tr1 rfl (aJ (v := .d (.lit (.bool false))) (aA rfl) rfl rfl) ?_
 refine aF ?_
 refine aG ?_
 refine aE ?_
 refine tr1 rfl (aS (aA rfl) rfl lZ) ?_
 refine tr1 rfl (aV (aA rfl) rfl (i := 0) rfl rfl bM) ?_
 refine tr1 rfl (cK (aA rfl) rfl bM) ?_
 refine tr1 rfl (bC (aA rfl) rfl rfl rfl) ?_
 refine tr1 rfl (aD (v := .d (.lit (.bool ((decide (a_0.Player = c_1)))))) (aA rfl) rfl rfl) ?_
 obtain ⟨b2, h3, h⟩ := bind_some h
 refine cA 7 [] 16 b2 ?_ ?_
 ·refine bJ (decide (a_0.Player = c_1)) (fun c4 => ?_) (fun c4 => ?_)
  ·have h3 := aU c4 h3
   refine aP rfl rfl (aA rfl) rfl c4 (cK (aA rfl) rfl bM) ?_
   refine aP rfl rfl (aA rfl) rfl c4 (aS (aA rfl) rfl kK) ?_
   refine aP rfl rfl (aA rfl) rfl c4 (aV (aA rfl) rfl (i := 0) rfl rfl bM) ?_
   refine aP rfl rfl (aA rfl) rfl c4 (aS (aA rfl) rfl mA) ?_
   refine aP rfl rfl (aA rfl) rfl c4 (aV (aA rfl) rfl (i := 0) rfl rfl bM) ?_
   obtain ⟨r5, h6, h3⟩ := bind_some h3
   refine aP rfl rfl (aA rfl) rfl c4 (cC (aA rfl) (.func _ _ Try.call47) rfl rfl (BVs.refl _ _) (eY _ _ _ h6) rfl) ?_
   refine tr1 rfl (bW (v := .d (.lit (.bool r5))) (aA rfl) rfl c4 rfl rfl) ?_
   have h3 := Option.some.inj h3
   subst h3
   refine aF (bB rfl trivial rfl)
  ·have h3 := aT c4 h3
   refine aR rfl rfl (aA rfl) rfl (aA rfl) rfl c4 ?_
   refine aR rfl rfl (aA rfl) rfl (aA rfl) rfl c4 ?_
   refine aR rfl rfl (aA rfl) rfl (aA rfl) rfl c4 ?_
   refine aR rfl rfl (aA rfl) rfl (aA rfl) rfl c4 ?_
   refine aR rfl rfl (aA rfl) rfl (aA rfl) rfl c4 ?_
   refine aR rfl rfl (aA rfl) rfl (aA rfl) rfl c4 ?_
   refine tr1 rfl (bT (v := .d (.lit (.bool false))) (aA rfl) rfl c4 rfl rfl) ?_
   have h3 := Option.some.inj h3
   subst h3
   refine aF (bB rfl trivial rfl)
 ·refine tr1 rfl (aJ (v := .d (.lit (.bool b2))) (aA rfl) rfl rfl) ?_
  refine aF ?_
  have h := Option.some.inj h
  subst h
  refine cR (cJ (cP (l := [4]) ⟨rfl, trivial⟩)) ?_
  exact bI ⟨rfl, _, .one _, rfl, rfl⟩

theorem vM (all_0 : List aL) (player_1 : Int) (week_2 : Int) {r : Bool} (h : mR all_0 player_1 week_2 = some r) : Fn Try.prog 48 [.d (.sl 3 (all_0.map aH)), .d (.lit (.int .i64 player_1)), .d (.lit (.int .i64 week_2))] (.d (.lit (.bool r))) := by
 unfold mR at h
 refine Fn.of_tr Try.func48 rfl (rs := [.tmp 6]) Try.results48 Try.ntmps48 (Nat.le_of_ble_eq_true rfl) ?_
 refine aG ?_
 refine aE ?_
 refine bR rfl (fX (v := .d (.lit (.int .i64 player_1))) (aA rfl) rfl rfl rfl) ?_
 rintro _ ⟨b1, rfl⟩
 refine bR rfl (fX (v := .d (.lit (.int .i64 week_2))) (aA rfl) rfl rfl rfl) ?_
 rintro _ ⟨b2, rfl⟩
 refine tr1 rfl (aJ (v := .d (.lit (.bool false))) (aA rfl) rfl rfl) ?_
 refine aF ?_
 refine aG ?_
 refine aE ?_
 refine tr1 rfl (aD (v := .d (.sl 3 (all_0.map aH))) (aA rfl) rfl rfl) ?_
 refine tr1 rfl (yC (aA rfl) rfl rfl) ?_
 obtain ⟨r4, h5, h⟩ := bind_some h
 refine tr1 rfl (cC (aA rfl) (.func _ _ Try.call82) rfl rfl (.cons (.same _) (.cons ((aCc (.cons ((qD 0 rfl rfl (dvc (.same _) dvn))) (.cons ((qD 1 rfl rfl (dvc (.same _) dvn))) .nil)))) .nil)) (jE _ _ 83 [.cp [.lit (.int .i64 player_1)], .cp [.lit (.int .i64 week_2)]] Try.call83 (fun _ _ h => aBw _ _ _ h) h5) rfl) ?_
 refine tr1 rfl (aJ (v := .d (.lit (.bool r4))) (aA rfl) rfl rfl) ?_
 refine aF ?_
 have h := Option.some.inj h
 subst h
 refine cR (cJ (cP (l := [6]) ⟨rfl, trivial⟩)) ?_
 exact bI ⟨rfl, _, .one _, rfl, rfl⟩

theorem tL (b_0 : bX) (player_1 : Int) (week_2 : Int) {r : (List aC)} (h : lG b_0 player_1 week_2 = some r) : Fn Try.prog 72 [.cp (cD b_0), .d (.lit (.int .i64 player_1)), .d (.lit (.int .i64 week_2))] (.d (.sl 5 (r.map aB))) := by
 unfold lG at h
 refine Fn.of_tr Try.func72 rfl (rs := [.tmp 6]) Try.results72 Try.ntmps72 (Nat.le_of_ble_eq_true rfl) ?_
 refine aG ?_
 refine aE ?_
 refine tr1 rfl (sO 5 (aA rfl)) ?_
 refine aF ?_
 refine aG ?_
 refine aE ?_
 refine tr1 rfl (iL 42 5 (.inl rfl) (aA rfl)) ?_
 refine aF ?_
 refine aG ?_
 refine aG ?_
 refine aE ?_
 refine tr1 rfl (aD (v := .cp [.lit (.int .i64 b_0.Ledger.Players), .lit (.int .i64 b_0.Ledger.Counts), .sl 5 (b_0.Ledger.Reports.map aB), .sl 3 (b_0.Ledger.Bans.map aH), .sl 3 (b_0.Ledger.Frozen.map aH)]) (aA rfl) rfl rfl) ?_
 refine tr1 rfl (pL (aA rfl) rfl) ?_
 refine tr1 rfl (cV (aA rfl) rfl iS (es := [.lit (.int .i64 b_0.Ledger.Players), .lit (.int .i64 b_0.Ledger.Counts), .sl 5 (b_0.Ledger.Reports.map aB), .sl 3 (b_0.Ledger.Bans.map aH), .sl 3 (b_0.Ledger.Frozen.map aH)]) rfl) ?_
 refine tr1 rfl (cV (aA rfl) rfl dI (es := [.sl 5 (b_0.Ledger.Reports.map aB)]) rfl) ?_
 refine tr1 rfl (cK (aA rfl) rfl fR) ?_
 refine tr1 rfl (dB (aA rfl) rfl bP.of) ?_
 refine tr1 rfl (aD (v := .d (.lit (.int .i64 0))) (aA rfl) rfl rfl) ?_
 refine aF ?_
 refine bQ ?_
 refine cH [0, 1, 2, 14, 15] (fun (s2 : Int × (List aC) × Value) => [(7, .d (.lit s2.2.2)), (16, .d (.lit (.int .i64 s2.1)))]) (fun (s2 : Int × (List aC) × Value) => [.arr s2.2.2 42 5 (s2.2.1.map aB)]) (fun (k : Nat) (s2 : Int × (List aC) × Value) => gO b_0 player_1 week_2 b_0.Ledger.Reports (b_0.Ledger.Reports.length : Int) k s2.1 s2.2.1) (fun _ => rfl) (0, ([] : List aC), (.slice none 0 0)) h (aX [0] rfl rfl (aO rfl (aO rfl (aY ⟨rfl, rfl, rfl, rfl, rfl, trivial⟩)))) ?_
 rintro k4 ⟨t16_0_2, out_0_2, w3⟩ h
 simp only [gO] at h
 refine aG ?_
 refine aE ?_
 refine tr1 rfl (bC (aA rfl) rfl rfl rfl) ?_
 refine aF ?_
 refine aG ?_
 refine bH rfl (fun c5 => ?_) (fun c5 => ?_)
 ·have h := aU c5 h
  refine bE ?_
  refine aG ?_
  refine bQ ?_
  refine aG ?_
  refine aE ?_
  obtain ⟨x6, h7, h⟩ := bind_some h
  refine tr1 rfl (bY (aA rfl) rfl rfl bP.of (bN aB h7)) ?_
  refine tr1 rfl (eH (aA rfl) rfl dR (es := (aB x6)) rfl rfl) ?_
  refine bR rfl (fF (zs := [.lit (.int .i64 0), .lit (.int .i64 0), .lit (.int .i64 0), .lit (.int .i64 0), .lit (.bool false)]) (aA rfl) Try.zeroValue42 rfl rfl) ?_
  rintro _ ⟨b8, rfl⟩
  refine tr1 rfl (bO (i := 1) rfl rfl rfl rfl rfl Try.sizeOf42 rfl (aA rfl) (Nat.le_of_ble_eq_true rfl) (ds' := (aB x6)) rfl) ?_
  refine aF ?_
  refine aG ?_
  obtain ⟨b9, h10, h⟩ := bind_some h
  obtain ⟨b12, h13, h⟩ := bind_some h
  obtain ⟨b17, h18, h⟩ := bind_some h
  refine fU mix 29 [0, 1, 2, 7, 9, 14, 15, 16] [(48, .d (.lit (.bool b17)))] ?_ ?_
  ·refine bJ (decide (x6.Player = player_1)) (fun c11 => ?_) (fun c11 => ?_)
   ·have h10 := aU c11 h10
    have h10 := Option.some.inj h10
    subst h10
    refine bJ (decide (x6.Week ≤ week_2)) (fun c14 => ?_) (fun c14 => ?_)
    ·have h13 := aU c14 h13
     obtain ⟨r15, h16, h13⟩ := bind_some h13
     have h13 := Option.some.inj h13
     subst h13
     refine bJ (decide (r15 < 52)) (fun c19 => ?_) (fun c19 => ?_)
     ·have h18 := aU c19 h18
      obtain ⟨r20, h21, h18⟩ := bind_some h18
      have h18 := Option.some.inj h18
      subst h18
      refine ⟨[(20, 0, .bp b8 0 1), (21, 1, .d (.lit (.int .i64 x6.Player))), (22, 2, .d (.lit (.int .i64 player_1))), (23, 3, .d (.lit (.bool ((decide (x6.Player = player_1)))))), (24, 4, .d (.lit (.bool ((decide (x6.Player = player_1)))))), (25, 5, .bp b8 0 2), (26, 6, .d (.lit (.int .i64 x6.Week))), (27, 7, .d (.lit (.int .i64 week_2))), (28, 8, .d (.lit (.bool ((decide (x6.Week ≤ week_2)))))), (29, 9, .d (.lit (.bool ((decide (x6.Week ≤ week_2)))))), (30, 10, .d (.lit (.bool (decide (x6.Week ≤ week_2))))), (31, 11, .cp [.lit (.int .i64 b_0.Ledger.Players), .lit (.int .i64 b_0.Ledger.Counts), .sl 5 (b_0.Ledger.Reports.map aB), .sl 3 (b_0.Ledger.Bans.map aH), .sl 3 (b_0.Ledger.Frozen.map aH)]), (32, 12, .agg (aB x6)), (33, 13, .d (.lit (.int .i64 week_2))), (34, 14, .d (.lit (.int .i64 r15))), (35, 15, .d (.lit (.bool ((decide (r15 < 52)))))), (36, 16, .d (.lit (.bool ((decide (r15 < 52)))))), (37, 17, .d (.lit (.bool (decide (r15 < 52))))), (38, 18, .cp [.lit (.int .i64 b_0.Ledger.Players), .lit (.int .i64 b_0.Ledger.Counts), .sl 5 (b_0.Ledger.Reports.map aB), .sl 3 (b_0.Ledger.Bans.map aH), .sl 3 (b_0.Ledger.Frozen.map aH)]), (39, 19, .cp [.lit (.int .i64 b_0.Ledger.Players), .lit (.int .i64 b_0.Ledger.Counts), .sl 5 (b_0.Ledger.Reports.map aB), .sl 3 (b_0.Ledger.Bans.map aH), .sl 3 (b_0.Ledger.Frozen.map aH)]), (40, 20, .cp [.lit (.int .i64 b_0.Ledger.Players), .lit (.int .i64 b_0.Ledger.Counts), .sl 5 (b_0.Ledger.Reports.map aB), .sl 3 (b_0.Ledger.Bans.map aH), .sl 3 (b_0.Ledger.Frozen.map aH)]), (41, 21, .cp [.sl 3 (b_0.Ledger.Bans.map aH)]), (42, 22, .d (.sl 3 (b_0.Ledger.Bans.map aH))), (43, 23, .d (.lit (.int .i64 player_1))), (44, 24, .bp b8 0 2), (45, 25, .d (.lit (.int .i64 x6.Week))), (46, 26, .d (.lit (.bool r20))), (47, 27, .d (.lit (.bool (!r20)))), (48, 28, .d (.lit (.bool (!r20))))], ?_, ?_⟩
      · exact ⟨by kernel_rfl, by kernel_rfl, by kernel_rfl, by kernel_rfl, by kernel_rfl, [([], []), ([0], []), ([], []), ([1, 2], []), ([3], []), ([4], []), ([4, 5], []), ([4], []), ([4, 6, 7], []), ([4, 8], []), ([9], []), ([10], []), ([10], []), ([10], []), ([10, 11, 12, 13], []), ([10, 14], []), ([10, 15], []), ([16], []), ([17], []), ([17, 18], []), ([17, 19], []), ([17, 20], []), ([17, 21], []), ([17], []), ([17], []), ([17, 24], []), ([17, 22, 23, 25], []), ([17, 26], []), ([17, 27], [])], by kernel_rfl, ⟨fun S hS => aK rfl (aQ rfl (aS (aA rfl) (aI hS rfl) qL)),
      fun S hS => aK rfl (aQ rfl (aV (aA rfl) (aI hS rfl) (i := 1) rfl rfl bM)),
      fun S hS => aK rfl (aQ rfl (aD (v := .d (.lit (.int .i64 player_1))) (aA rfl) (aI hS rfl) rfl)),
      fun S hS => aK rfl (aQ rfl (bC (aA rfl) (aI hS rfl) (aI hS rfl) rfl)),
      fun S hS => aK rfl (aQ rfl (aD (v := .d (.lit (.bool ((decide (x6.Player = player_1)))))) (aA rfl) (aI hS rfl) rfl)),
      fun S hS => aK rfl (bK rfl rfl (aA rfl) (aW hS rfl) c11 (aS (aA rfl) (aI hS rfl) nE)),
      fun S hS => aK rfl (bK rfl rfl (aA rfl) (aW hS rfl) c11 (aV (aA rfl) (aI hS rfl) (i := 1) rfl rfl bM)),
      fun S hS => aK rfl (bK rfl rfl (aA rfl) (aW hS rfl) c11 (aD (v := .d (.lit (.int .i64 week_2))) (aA rfl) (aI hS rfl) rfl)),
      fun S hS => aK rfl (bK rfl rfl (aA rfl) (aW hS rfl) c11 (bC (aA rfl) (aI hS rfl) (aI hS rfl) rfl)),
      fun S hS => aK rfl (aQ rfl (bW (v := .d (.lit (.bool ((decide (x6.Week ≤ week_2)))))) (aA rfl) (aI hS rfl) c11 (aI hS rfl) rfl)),
      fun S hS => aK rfl (aQ rfl (aD (v := .d (.lit (.bool (decide (x6.Week ≤ week_2))))) (aA rfl) (aI hS rfl) rfl)),
      fun S hS => aK rfl (bK rfl rfl (aA rfl) (aW hS rfl) c14 (aD (v := .cp [.lit (.int .i64 b_0.Ledger.Players), .lit (.int .i64 b_0.Ledger.Counts), .sl 5 (b_0.Ledger.Reports.map aB), .sl 3 (b_0.Ledger.Bans.map aH), .sl 3 (b_0.Ledger.Frozen.map aH)]) (aA rfl) (aI hS rfl) rfl)),
      fun S hS => aK rfl (bK rfl rfl (aA rfl) (aW hS rfl) c14 (cS (aA rfl) (aI hS rfl) (i := 1) rfl dR (es := (aB x6)) rfl rfl)),
      fun S hS => aK rfl (bK rfl rfl (aA rfl) (aW hS rfl) c14 (aD (v := .d (.lit (.int .i64 week_2))) (aA rfl) (aI hS rfl) rfl)),
      fun S hS => aK rfl (bK rfl rfl (aA rfl) (aW hS rfl) c14 (cC (aA rfl) (.func _ _ Try.call77) (ev2 (aI hS rfl) (ev2 (aI hS rfl) (ev2 (aI hS rfl) evn))) rfl (BVs.refl _ _) (vC _ _ _ h16) rfl)),
      fun S hS => aK rfl (bK rfl rfl (aA rfl) (aW hS rfl) c14 (bC (aA rfl) (aI hS rfl) rfl rfl)),
      fun S hS => aK rfl (aQ rfl (bW (v := .d (.lit (.bool ((decide (r15 < 52)))))) (aA rfl) (aI hS rfl) c14 (aI hS rfl) rfl)),
      fun S hS => aK rfl (aQ rfl (aD (v := .d (.lit (.bool (decide (r15 < 52))))) (aA rfl) (aI hS rfl) rfl)),
      fun S hS => aK rfl (bK rfl rfl (aA rfl) (aW hS rfl) c19 (aD (v := .cp [.lit (.int .i64 b_0.Ledger.Players), .lit (.int .i64 b_0.Ledger.Counts), .sl 5 (b_0.Ledger.Reports.map aB), .sl 3 (b_0.Ledger.Bans.map aH), .sl 3 (b_0.Ledger.Frozen.map aH)]) (aA rfl) (aI hS rfl) rfl)),
      fun S hS => aK rfl (bK rfl rfl (aA rfl) (aW hS rfl) c19 (pL (aA rfl) (aI hS rfl))),
      fun S hS => aK rfl (bK rfl rfl (aA rfl) (aW hS rfl) c19 (cV (aA rfl) (aI hS rfl) iS (es := [.lit (.int .i64 b_0.Ledger.Players), .lit (.int .i64 b_0.Ledger.Counts), .sl 5 (b_0.Ledger.Reports.map aB), .sl 3 (b_0.Ledger.Bans.map aH), .sl 3 (b_0.Ledger.Frozen.map aH)]) rfl)),
      fun S hS => aK rfl (bK rfl rfl (aA rfl) (aW hS rfl) c19 (cV (aA rfl) (aI hS rfl) jI (es := [.sl 3 (b_0.Ledger.Bans.map aH)]) rfl)),
      fun S hS => aK rfl (bK rfl rfl (aA rfl) (aW hS rfl) c19 (cK (aA rfl) (aI hS rfl) fV)),
      fun S hS => aK rfl (bK rfl rfl (aA rfl) (aW hS rfl) c19 (aD (v := .d (.lit (.int .i64 player_1))) (aA rfl) (aI hS rfl) rfl)),
      fun S hS => aK rfl (bK rfl rfl (aA rfl) (aW hS rfl) c19 (aS (aA rfl) (aI hS rfl) nE)),
      fun S hS => aK rfl (bK rfl rfl (aA rfl) (aW hS rfl) c19 (aV (aA rfl) (aI hS rfl) (i := 1) rfl rfl bM)),
      fun S hS => aK rfl (bK rfl rfl (aA rfl) (aW hS rfl) c19 (cC (aA rfl) (.func _ _ Try.call48) (ev2 (aI hS rfl) (ev2 (aI hS rfl) (ev2 (aI hS rfl) evn))) rfl (BVs.refl _ _) (vM _ _ _ h21) rfl)),
      fun S hS => aK rfl (bK rfl rfl (aA rfl) (aW hS rfl) c19 (fO (aA rfl) (aI hS rfl))),
      fun S hS => aK rfl (aQ rfl (bW (v := .d (.lit (.bool (!r20)))) (aA rfl) (aI hS rfl) c19 (aI hS rfl) rfl)), trivial⟩⟩
      · exact dX (aO rfl (aY ⟨rfl, rfl, rfl, rfl, rfl, rfl, rfl, rfl, trivial⟩))
     ·have h18 := aT c19 h18
      have h18 := Option.some.inj h18
      subst h18
      refine ⟨[(20, 0, .bp b8 0 1), (21, 1, .d (.lit (.int .i64 x6.Player))), (22, 2, .d (.lit (.int .i64 player_1))), (23, 3, .d (.lit (.bool ((decide (x6.Player = player_1)))))), (24, 4, .d (.lit (.bool ((decide (x6.Player = player_1)))))), (25, 5, .bp b8 0 2), (26, 6, .d (.lit (.int .i64 x6.Week))), (27, 7, .d (.lit (.int .i64 week_2))), (28, 8, .d (.lit (.bool ((decide (x6.Week ≤ week_2)))))), (29, 9, .d (.lit (.bool ((decide (x6.Week ≤ week_2)))))), (30, 10, .d (.lit (.bool (decide (x6.Week ≤ week_2))))), (31, 11, .cp [.lit (.int .i64 b_0.Ledger.Players), .lit (.int .i64 b_0.Ledger.Counts), .sl 5 (b_0.Ledger.Reports.map aB), .sl 3 (b_0.Ledger.Bans.map aH), .sl 3 (b_0.Ledger.Frozen.map aH)]), (32, 12, .agg (aB x6)), (33, 13, .d (.lit (.int .i64 week_2))), (34, 14, .d (.lit (.int .i64 r15))), (35, 15, .d (.lit (.bool ((decide (r15 < 52)))))), (36, 16, .d (.lit (.bool ((decide (r15 < 52)))))), (37, 17, .d (.lit (.bool (decide (r15 < 52))))), (38, 18, .tup []), (39, 19, .tup []), (40, 20, .tup []), (41, 21, .tup []), (42, 22, .tup []), (43, 23, .tup []), (44, 24, .tup []), (45, 25, .tup []), (46, 26, .tup []), (47, 27, .tup []), (48, 28, .d (.lit (.bool false)))], ?_, ?_⟩
      · exact ⟨by kernel_rfl, by kernel_rfl, by kernel_rfl, by kernel_rfl, by kernel_rfl, [([], []), ([0], []), ([], []), ([1, 2], []), ([3], []), ([4], []), ([4, 5], []), ([4], []), ([4, 6, 7], []), ([4, 8], []), ([9], []), ([10], []), ([10], []), ([10], []), ([10, 11, 12, 13], []), ([10, 14], []), ([10, 15], []), ([16], []), ([17], []), ([17, 18], []), ([17, 19], []), ([17, 20], []), ([17, 21], []), ([17], []), ([17], []), ([17, 24], []), ([17, 22, 23, 25], []), ([17, 26], []), ([17, 27], [])], by kernel_rfl, ⟨fun S hS => aK rfl (aQ rfl (aS (aA rfl) (aI hS rfl) qL)),
      fun S hS => aK rfl (aQ rfl (aV (aA rfl) (aI hS rfl) (i := 1) rfl rfl bM)),
      fun S hS => aK rfl (aQ rfl (aD (v := .d (.lit (.int .i64 player_1))) (aA rfl) (aI hS rfl) rfl)),
      fun S hS => aK rfl (aQ rfl (bC (aA rfl) (aI hS rfl) (aI hS rfl) rfl)),
      fun S hS => aK rfl (aQ rfl (aD (v := .d (.lit (.bool ((decide (x6.Player = player_1)))))) (aA rfl) (aI hS rfl) rfl)),
      fun S hS => aK rfl (bK rfl rfl (aA rfl) (aW hS rfl) c11 (aS (aA rfl) (aI hS rfl) nE)),
      fun S hS => aK rfl (bK rfl rfl (aA rfl) (aW hS rfl) c11 (aV (aA rfl) (aI hS rfl) (i := 1) rfl rfl bM)),
      fun S hS => aK rfl (bK rfl rfl (aA rfl) (aW hS rfl) c11 (aD (v := .d (.lit (.int .i64 week_2))) (aA rfl) (aI hS rfl) rfl)),
      fun S hS => aK rfl (bK rfl rfl (aA rfl) (aW hS rfl) c11 (bC (aA rfl) (aI hS rfl) (aI hS rfl) rfl)),
      fun S hS => aK rfl (aQ rfl (bW (v := .d (.lit (.bool ((decide (x6.Week ≤ week_2)))))) (aA rfl) (aI hS rfl) c11 (aI hS rfl) rfl)),
      fun S hS => aK rfl (aQ rfl (aD (v := .d (.lit (.bool (decide (x6.Week ≤ week_2))))) (aA rfl) (aI hS rfl) rfl)),
      fun S hS => aK rfl (bK rfl rfl (aA rfl) (aW hS rfl) c14 (aD (v := .cp [.lit (.int .i64 b_0.Ledger.Players), .lit (.int .i64 b_0.Ledger.Counts), .sl 5 (b_0.Ledger.Reports.map aB), .sl 3 (b_0.Ledger.Bans.map aH), .sl 3 (b_0.Ledger.Frozen.map aH)]) (aA rfl) (aI hS rfl) rfl)),
      fun S hS => aK rfl (bK rfl rfl (aA rfl) (aW hS rfl) c14 (cS (aA rfl) (aI hS rfl) (i := 1) rfl dR (es := (aB x6)) rfl rfl)),
      fun S hS => aK rfl (bK rfl rfl (aA rfl) (aW hS rfl) c14 (aD (v := .d (.lit (.int .i64 week_2))) (aA rfl) (aI hS rfl) rfl)),
      fun S hS => aK rfl (bK rfl rfl (aA rfl) (aW hS rfl) c14 (cC (aA rfl) (.func _ _ Try.call77) (ev2 (aI hS rfl) (ev2 (aI hS rfl) (ev2 (aI hS rfl) evn))) rfl (BVs.refl _ _) (vC _ _ _ h16) rfl)),
      fun S hS => aK rfl (bK rfl rfl (aA rfl) (aW hS rfl) c14 (bC (aA rfl) (aI hS rfl) rfl rfl)),
      fun S hS => aK rfl (aQ rfl (bW (v := .d (.lit (.bool ((decide (r15 < 52)))))) (aA rfl) (aI hS rfl) c14 (aI hS rfl) rfl)),
      fun S hS => aK rfl (aQ rfl (aD (v := .d (.lit (.bool (decide (r15 < 52))))) (aA rfl) (aI hS rfl) rfl)),
      fun S hS => aK rfl (bF rfl rfl (aA rfl) rfl (aA rfl) (aW hS rfl) c19),
      fun S hS => aK rfl (bF rfl rfl (aA rfl) rfl (aA rfl) (aW hS rfl) c19),
      fun S hS => aK rfl (bF rfl rfl (aA rfl) rfl (aA rfl) (aW hS rfl) c19),
      fun S hS => aK rfl (bF rfl rfl (aA rfl) rfl (aA rfl) (aW hS rfl) c19),
      fun S hS => aK rfl (bF rfl rfl (aA rfl) rfl (aA rfl) (aW hS rfl) c19),
      fun S hS => aK rfl (bF rfl rfl (aA rfl) rfl (aA rfl) (aW hS rfl) c19),
      fun S hS => aK rfl (bF rfl rfl (aA rfl) rfl (aA rfl) (aW hS rfl) c19),
      fun S hS => aK rfl (bF rfl rfl (aA rfl) rfl (aA rfl) (aW hS rfl) c19),
      fun S hS => aK rfl (bF rfl rfl (aA rfl) rfl (aA rfl) (aW hS rfl) c19),
      fun S hS => aK rfl (bF rfl rfl (aA rfl) rfl (aA rfl) (aW hS rfl) c19),
      fun S hS => aK rfl (aQ rfl (bT (v := .d (.lit (.bool false))) (aA rfl) (aI hS rfl) c19 rfl rfl)), trivial⟩⟩
      · exact dX (aO rfl (aY ⟨rfl, rfl, rfl, rfl, rfl, rfl, rfl, rfl, trivial⟩))
    ·have h13 := aT c14 h13
     have h13 := Option.some.inj h13
     subst h13
     have c19 : false = false := rfl
     have h18 := aT c19 h18
     have h18 := Option.some.inj h18
     subst h18
     refine ⟨[(20, 0, .bp b8 0 1), (21, 1, .d (.lit (.int .i64 x6.Player))), (22, 2, .d (.lit (.int .i64 player_1))), (23, 3, .d (.lit (.bool ((decide (x6.Player = player_1)))))), (24, 4, .d (.lit (.bool ((decide (x6.Player = player_1)))))), (25, 5, .bp b8 0 2), (26, 6, .d (.lit (.int .i64 x6.Week))), (27, 7, .d (.lit (.int .i64 week_2))), (28, 8, .d (.lit (.bool ((decide (x6.Week ≤ week_2)))))), (29, 9, .d (.lit (.bool ((decide (x6.Week ≤ week_2)))))), (30, 10, .d (.lit (.bool (decide (x6.Week ≤ week_2))))), (31, 11, .tup []), (32, 12, .tup []), (33, 13, .tup []), (34, 14, .tup []), (35, 15, .tup []), (36, 16, .d (.lit (.bool false))), (37, 17, .d (.lit (.bool (false)))), (38, 18, .tup []), (39, 19, .tup []), (40, 20, .tup []), (41, 21, .tup []), (42, 22, .tup []), (43, 23, .tup []), (44, 24, .tup []), (45, 25, .tup []), (46, 26, .tup []), (47, 27, .tup []), (48, 28, .d (.lit (.bool false)))], ?_, ?_⟩
     · exact ⟨by kernel_rfl, by kernel_rfl, by kernel_rfl, by kernel_rfl, by kernel_rfl, [([], []), ([0], []), ([], []), ([1, 2], []), ([3], []), ([4], []), ([4, 5], []), ([4], []), ([4, 6, 7], []), ([4, 8], []), ([9], []), ([10], []), ([10], []), ([10], []), ([10, 11, 12, 13], []), ([10, 14], []), ([10, 15], []), ([16], []), ([17], []), ([17, 18], []), ([17, 19], []), ([17, 20], []), ([17, 21], []), ([17], []), ([17], []), ([17, 24], []), ([17, 22, 23, 25], []), ([17, 26], []), ([17, 27], [])], by kernel_rfl, ⟨fun S hS => aK rfl (aQ rfl (aS (aA rfl) (aI hS rfl) qL)),
      fun S hS => aK rfl (aQ rfl (aV (aA rfl) (aI hS rfl) (i := 1) rfl rfl bM)),
      fun S hS => aK rfl (aQ rfl (aD (v := .d (.lit (.int .i64 player_1))) (aA rfl) (aI hS rfl) rfl)),
      fun S hS => aK rfl (aQ rfl (bC (aA rfl) (aI hS rfl) (aI hS rfl) rfl)),
      fun S hS => aK rfl (aQ rfl (aD (v := .d (.lit (.bool ((decide (x6.Player = player_1)))))) (aA rfl) (aI hS rfl) rfl)),
      fun S hS => aK rfl (bK rfl rfl (aA rfl) (aW hS rfl) c11 (aS (aA rfl) (aI hS rfl) nE)),
      fun S hS => aK rfl (bK rfl rfl (aA rfl) (aW hS rfl) c11 (aV (aA rfl) (aI hS rfl) (i := 1) rfl rfl bM)),
      fun S hS => aK rfl (bK rfl rfl (aA rfl) (aW hS rfl) c11 (aD (v := .d (.lit (.int .i64 week_2))) (aA rfl) (aI hS rfl) rfl)),
      fun S hS => aK rfl (bK rfl rfl (aA rfl) (aW hS rfl) c11 (bC (aA rfl) (aI hS rfl) (aI hS rfl) rfl)),
      fun S hS => aK rfl (aQ rfl (bW (v := .d (.lit (.bool ((decide (x6.Week ≤ week_2)))))) (aA rfl) (aI hS rfl) c11 (aI hS rfl) rfl)),
      fun S hS => aK rfl (aQ rfl (aD (v := .d (.lit (.bool (decide (x6.Week ≤ week_2))))) (aA rfl) (aI hS rfl) rfl)),
      fun S hS => aK rfl (bF rfl rfl (aA rfl) rfl (aA rfl) (aW hS rfl) c14),
      fun S hS => aK rfl (bF rfl rfl (aA rfl) rfl (aA rfl) (aW hS rfl) c14),
      fun S hS => aK rfl (bF rfl rfl (aA rfl) rfl (aA rfl) (aW hS rfl) c14),
      fun S hS => aK rfl (bF rfl rfl (aA rfl) rfl (aA rfl) (aW hS rfl) c14),
      fun S hS => aK rfl (bF rfl rfl (aA rfl) rfl (aA rfl) (aW hS rfl) c14),
      fun S hS => aK rfl (aQ rfl (bT (v := .d (.lit (.bool false))) (aA rfl) (aI hS rfl) c14 rfl rfl)),
      fun S hS => aK rfl (aQ rfl (aD (v := .d (.lit (.bool (false)))) (aA rfl) (aI hS rfl) rfl)),
      fun S hS => aK rfl (bF rfl rfl (aA rfl) rfl (aA rfl) (aW hS rfl) c19),
      fun S hS => aK rfl (bF rfl rfl (aA rfl) rfl (aA rfl) (aW hS rfl) c19),
      fun S hS => aK rfl (bF rfl rfl (aA rfl) rfl (aA rfl) (aW hS rfl) c19),
      fun S hS => aK rfl (bF rfl rfl (aA rfl) rfl (aA rfl) (aW hS rfl) c19),
      fun S hS => aK rfl (bF rfl rfl (aA rfl) rfl (aA rfl) (aW hS rfl) c19),
      fun S hS => aK rfl (bF rfl rfl (aA rfl) rfl (aA rfl) (aW hS rfl) c19),
      fun S hS => aK rfl (bF rfl rfl (aA rfl) rfl (aA rfl) (aW hS rfl) c19),
      fun S hS => aK rfl (bF rfl rfl (aA rfl) rfl (aA rfl) (aW hS rfl) c19),
      fun S hS => aK rfl (bF rfl rfl (aA rfl) rfl (aA rfl) (aW hS rfl) c19),
      fun S hS => aK rfl (bF rfl rfl (aA rfl) rfl (aA rfl) (aW hS rfl) c19),
      fun S hS => aK rfl (aQ rfl (bT (v := .d (.lit (.bool false))) (aA rfl) (aI hS rfl) c19 rfl rfl)), trivial⟩⟩
     · exact dX (aO rfl (aY ⟨rfl, rfl, rfl, rfl, rfl, rfl, rfl, rfl, trivial⟩))
   ·have h10 := aT c11 h10
    have h10 := Option.some.inj h10
    subst h10
    have c14 : false = false := rfl
    have h13 := aT c14 h13
    have h13 := Option.some.inj h13
    subst h13
    have c19 : false = false := rfl
    have h18 := aT c19 h18
    have h18 := Option.some.inj h18
    subst h18
    refine ⟨[(20, 0, .bp b8 0 1), (21, 1, .d (.lit (.int .i64 x6.Player))), (22, 2, .d (.lit (.int .i64 player_1))), (23, 3, .d (.lit (.bool ((decide (x6.Player = player_1)))))), (24, 4, .d (.lit (.bool ((decide (x6.Player = player_1)))))), (25, 5, .tup []), (26, 6, .tup []), (27, 7, .tup []), (28, 8, .tup []), (29, 9, .d (.lit (.bool false))), (30, 10, .d (.lit (.bool (false)))), (31, 11, .tup []), (32, 12, .tup []), (33, 13, .tup []), (34, 14, .tup []), (35, 15, .tup []), (36, 16, .d (.lit (.bool false))), (37, 17, .d (.lit (.bool (false)))), (38, 18, .tup []), (39, 19, .tup []), (40, 20, .tup []), (41, 21, .tup []), (42, 22, .tup []), (43, 23, .tup []), (44, 24, .tup []), (45, 25, .tup []), (46, 26, .tup []), (47, 27, .tup []), (48, 28, .d (.lit (.bool false)))], ?_, ?_⟩
    · exact ⟨by kernel_rfl, by kernel_rfl, by kernel_rfl, by kernel_rfl, by kernel_rfl, [([], []), ([0], []), ([], []), ([1, 2], []), ([3], []), ([4], []), ([4, 5], []), ([4], []), ([4, 6, 7], []), ([4, 8], []), ([9], []), ([10], []), ([10], []), ([10], []), ([10, 11, 12, 13], []), ([10, 14], []), ([10, 15], []), ([16], []), ([17], []), ([17, 18], []), ([17, 19], []), ([17, 20], []), ([17, 21], []), ([17], []), ([17], []), ([17, 24], []), ([17, 22, 23, 25], []), ([17, 26], []), ([17, 27], [])], by kernel_rfl, ⟨fun S hS => aK rfl (aQ rfl (aS (aA rfl) (aI hS rfl) qL)),
      fun S hS => aK rfl (aQ rfl (aV (aA rfl) (aI hS rfl) (i := 1) rfl rfl bM)),
      fun S hS => aK rfl (aQ rfl (aD (v := .d (.lit (.int .i64 player_1))) (aA rfl) (aI hS rfl) rfl)),
      fun S hS => aK rfl (aQ rfl (bC (aA rfl) (aI hS rfl) (aI hS rfl) rfl)),
      fun S hS => aK rfl (aQ rfl (aD (v := .d (.lit (.bool ((decide (x6.Player = player_1)))))) (aA rfl) (aI hS rfl) rfl)),
      fun S hS => aK rfl (bF rfl rfl (aA rfl) rfl (aA rfl) (aW hS rfl) c11),
      fun S hS => aK rfl (bF rfl rfl (aA rfl) rfl (aA rfl) (aW hS rfl) c11),
      fun S hS => aK rfl (bF rfl rfl (aA rfl) rfl (aA rfl) (aW hS rfl) c11),
      fun S hS => aK rfl (bF rfl rfl (aA rfl) rfl (aA rfl) (aW hS rfl) c11),
      fun S hS => aK rfl (aQ rfl (bT (v := .d (.lit (.bool false))) (aA rfl) (aI hS rfl) c11 rfl rfl)),
      fun S hS => aK rfl (aQ rfl (aD (v := .d (.lit (.bool (false)))) (aA rfl) (aI hS rfl) rfl)),
      fun S hS => aK rfl (bF rfl rfl (aA rfl) rfl (aA rfl) (aW hS rfl) c14),
      fun S hS => aK rfl (bF rfl rfl (aA rfl) rfl (aA rfl) (aW hS rfl) c14),
      fun S hS => aK rfl (bF rfl rfl (aA rfl) rfl (aA rfl) (aW hS rfl) c14),
      fun S hS => aK rfl (bF rfl rfl (aA rfl) rfl (aA rfl) (aW hS rfl) c14),
      fun S hS => aK rfl (bF rfl rfl (aA rfl) rfl (aA rfl) (aW hS rfl) c14),
      fun S hS => aK rfl (aQ rfl (bT (v := .d (.lit (.bool false))) (aA rfl) (aI hS rfl) c14 rfl rfl)),
      fun S hS => aK rfl (aQ rfl (aD (v := .d (.lit (.bool (false)))) (aA rfl) (aI hS rfl) rfl)),
      fun S hS => aK rfl (bF rfl rfl (aA rfl) rfl (aA rfl) (aW hS rfl) c19),
      fun S hS => aK rfl (bF rfl rfl (aA rfl) rfl (aA rfl) (aW hS rfl) c19),
      fun S hS => aK rfl (bF rfl rfl (aA rfl) rfl (aA rfl) (aW hS rfl) c19),
      fun S hS => aK rfl (bF rfl rfl (aA rfl) rfl (aA rfl) (aW hS rfl) c19),
      fun S hS => aK rfl (bF rfl rfl (aA rfl) rfl (aA rfl) (aW hS rfl) c19),
      fun S hS => aK rfl (bF rfl rfl (aA rfl) rfl (aA rfl) (aW hS rfl) c19),
      fun S hS => aK rfl (bF rfl rfl (aA rfl) rfl (aA rfl) (aW hS rfl) c19),
      fun S hS => aK rfl (bF rfl rfl (aA rfl) rfl (aA rfl) (aW hS rfl) c19),
      fun S hS => aK rfl (bF rfl rfl (aA rfl) rfl (aA rfl) (aW hS rfl) c19),
      fun S hS => aK rfl (bF rfl rfl (aA rfl) rfl (aA rfl) (aW hS rfl) c19),
      fun S hS => aK rfl (aQ rfl (bT (v := .d (.lit (.bool false))) (aA rfl) (aI hS rfl) c19 rfl rfl)), trivial⟩⟩
    · exact dX (aO rfl (aY ⟨rfl, rfl, rfl, rfl, rfl, rfl, rfl, rfl, trivial⟩))
  ·refine aF ?_
   refine bH rfl (fun c22 => ?_) (fun c22 => ?_)
   ·have h := aU c22 h
    refine aE ?_
    refine tr1 rfl (aD (v := .d (.lit w3)) (aA rfl) rfl rfl) ?_
    refine tr1 rfl (cS (aA rfl) rfl (i := 1) rfl dR (es := (aB x6)) rfl rfl) ?_
    refine tr1 rfl (jJ (aA rfl) bP rfl rfl (rows := ([x6]).map aB) rfl (cY (f := aB) fun _ => rfl) rfl (by decide)) ?_
    obtain ⟨x23, h24, h⟩ := bind_some h
    refine bR rfl (kA (i := 0) (aA rfl) bP rfl rfl rfl (fun _ => rfl) h24 rfl) ?_
    rintro _ ⟨v25, rfl⟩
    refine tr1 rfl (aJ (v := .d (.lit v25)) (aA rfl) rfl rfl) ?_
    refine eC ?_
    refine aE ?_
    refine tr1 rfl (aZ (aA rfl) rfl rfl rfl) ?_
    refine tr1 rfl (aD (v := .d (.lit (.int .i64 ((w64 (t16_0_2 + 1)))))) (aA rfl) rfl rfl) ?_
    refine aF ?_
    exact ⟨(w64 (t16_0_2 + 1), x23, v25), h, aX [0] rfl rfl (aO rfl (aO rfl (aY ⟨rfl, rfl, rfl, rfl, rfl, trivial⟩)))⟩
   ·have h := aT c22 h
    refine eF ?_
    refine aE ?_
    refine tr1 rfl (aZ (aA rfl) rfl rfl rfl) ?_
    refine tr1 rfl (aD (v := .d (.lit (.int .i64 ((w64 (t16_0_2 + 1)))))) (aA rfl) rfl rfl) ?_
    refine aF ?_
    exact ⟨(w64 (t16_0_2 + 1), out_0_2, w3), h, aX [0] rfl rfl (aO rfl (aO rfl (aY ⟨rfl, rfl, rfl, rfl, rfl, trivial⟩)))⟩
 ·have h := aT c5 h
  refine cQ ?_
  refine .inl ⟨rfl, ?_⟩
  simp only [oY] at h
  refine aG ?_
  refine aE ?_
  refine tr1 rfl (aD (v := .d (.lit w3)) (aA rfl) rfl rfl) ?_
  refine tr1 rfl (aJ (v := .d (.lit w3)) (aA rfl) rfl rfl) ?_
  refine aF ?_
  have h := Option.some.inj h
  subst h
  refine cR (cJ (jK (k := 6) (v := .d (.sl 5 (out_0_2.map aB))) (.d (jP 0 rfl (cY (f := aB) fun _ => rfl))) (yO))) ?_
  exact bI ⟨rfl, _, .one _, rfl, rfl⟩

theorem xO (vals_0 : List Int) {r : Int} (h : pE vals_0 = some r) : Fn Try.prog 99 [.d (.sl 1 (vals_0.map cL))] (.d (.lit (.int .i64 r))) := by
 unfold pE at h
 refine Fn.of_tr Try.func99 rfl (rs := [.tmp 2]) Try.results99 Try.ntmps99 (Nat.le_of_ble_eq_true rfl) ?_
 refine aG ?_
 refine aE ?_
 refine tr1 rfl (aJ (v := .d (.lit (.int .i64 0))) (aA rfl) rfl rfl) ?_
 refine aF ?_
 refine aG ?_
 refine aE ?_
 refine tr1 rfl (aJ (v := .d (.lit (.int .i64 0))) (aA rfl) rfl rfl) ?_
 refine aF ?_
 refine aG ?_
 refine aG ?_
 refine aE ?_
 refine tr1 rfl (aD (v := .d (.sl 1 (vals_0.map cL))) (aA rfl) rfl rfl) ?_
 refine tr1 rfl (dB (aA rfl) rfl fL.of) ?_
 refine tr1 rfl (aD (v := .d (.lit (.int .i64 0))) (aA rfl) rfl rfl) ?_
 refine aF ?_
 refine bQ ?_
 refine cH [3, 6, 7] (fun (s1 : Int) => [(8, .d (.lit (.int .i64 s1)))]) (fun (s1 : Int) => []) (fun (k : Nat) (s1 : Int) => lJ 0 vals_0 (vals_0.length : Int) k s1) (fun _ => rfl) (0) h (aX [] rfl rfl (aO rfl (aY ⟨rfl, rfl, rfl, trivial⟩))) ?_
 rintro k2 t8_0_1 h
 simp only [lJ] at h
 refine aG ?_
 refine aE ?_
 refine tr1 rfl (bC (aA rfl) rfl rfl rfl) ?_
 refine aF ?_
 refine aG ?_
 refine bH rfl (fun c3 => ?_) (fun c3 => ?_)
 ·have h := aU c3 h
  refine bE ?_
  refine aG ?_
  refine bQ ?_
  refine aG ?_
  refine aE ?_
  obtain ⟨x4, h5, h⟩ := bind_some h
  refine tr1 rfl (bY (aA rfl) rfl rfl fL.of (bN cL h5)) ?_
  refine tr1 rfl (cK (aA rfl) rfl bM) ?_
  refine tr1 rfl (aJ (v := .d (.lit (.int .i64 x4))) (aA rfl) rfl rfl) ?_
  refine aF ?_
  refine aG ?_
  refine aE ?_
  refine tr1 rfl (aD (v := .d (.lit (.int .i64 x4))) (aA rfl) rfl rfl) ?_
  refine tr1 rfl (aD (v := .d (.lit (.int .i64 0))) (aA rfl) rfl rfl) ?_
  refine tr1 rfl (bC (aA rfl) rfl rfl rfl) ?_
  refine aF ?_
  refine bH rfl (fun c6 => ?_) (fun c6 => ?_)
  ·have h := aU c6 h
   refine aG ?_
   refine aE ?_
   refine tr1 rfl (aD (v := .d (.lit (.int .i64 x4))) (aA rfl) rfl rfl) ?_
   refine tr1 rfl (aJ (v := .d (.lit (.int .i64 x4))) (aA rfl) rfl rfl) ?_
   refine aF ?_
   have h := Option.some.inj h
   subst h
   exact bI ⟨rfl, _, .one _, rfl, rfl⟩
  ·have h := aT c6 h
   refine eF ?_
   refine aE ?_
   refine tr1 rfl (aZ (aA rfl) rfl rfl rfl) ?_
   refine tr1 rfl (aD (v := .d (.lit (.int .i64 ((w64 (t8_0_1 + 1)))))) (aA rfl) rfl rfl) ?_
   refine aF ?_
   exact ⟨(w64 (t8_0_1 + 1)), h, aX [] rfl rfl (aO rfl (aY ⟨rfl, rfl, rfl, trivial⟩))⟩
 ·have h := aT c3 h
  refine cQ ?_
  refine .inl ⟨rfl, ?_⟩
  simp only [tE] at h
  refine aG ?_
  refine aE ?_
  refine tr1 rfl (aD (v := .d (.lit (.int .i64 0))) (aA rfl) rfl rfl) ?_
  refine tr1 rfl (aJ (v := .d (.lit (.int .i64 0))) (aA rfl) rfl rfl) ?_
  refine aF ?_
  have h := Option.some.inj h
  subst h
  exact bI ⟨rfl, _, .one _, rfl, rfl⟩

theorem xI (x_0 : aC) (y_1 : aC) {r : Int} (h : jX x_0 y_1 = some r) : Fn Try.prog 98 [.agg (aB x_0), .agg (aB y_1)] (.d (.lit (.int .i64 r))) := by
 unfold jX at h
 refine Fn.of_tr Try.func98 rfl (rs := [.tmp 4]) Try.results98 Try.ntmps98 (Nat.le_of_ble_eq_true rfl) ?_
 refine aG ?_
 refine aE ?_
 refine bR rfl (fX (v := .agg (aB x_0)) (aA rfl) rfl rfl rfl) ?_
 rintro _ ⟨b1, rfl⟩
 refine bR rfl (fX (v := .agg (aB y_1)) (aA rfl) rfl rfl rfl) ?_
 rintro _ ⟨b2, rfl⟩
 refine tr1 rfl (aJ (v := .d (.lit (.int .i64 0))) (aA rfl) rfl rfl) ?_
 refine aF ?_
 refine aG ?_
 refine bQ ?_
 refine aG ?_
 refine aE ?_
 refine tr1 rfl (aS (aA rfl) rfl qM) ?_
 refine tr1 rfl (aV (aA rfl) rfl (i := 0) rfl rfl tQ) ?_
 refine tr1 rfl (aS (aA rfl) rfl qM) ?_
 refine tr1 rfl (aV (aA rfl) rfl (i := 1) rfl rfl tQ) ?_
 refine tr1 rfl (aHg (aA rfl) rfl rfl Try.underlying4) ?_
 refine tr1 rfl (aD (v := .d (.lit (.bool ((!decide (x_0.Must = y_1.Must)))))) (aA rfl) rfl rfl) ?_
 obtain ⟨b3, h4, h⟩ := bind_some h
 refine cA 3 [2, 3] 14 b3 ?_ ?_
 ·refine bJ (!decide (x_0.Must = y_1.Must)) (fun c9 => ?_) (fun c9 => ?_)
  ·have h4 := aU c9 h4
   refine aP rfl rfl (aA rfl) rfl c9 (aS (aA rfl) rfl qM) ?_
   refine aP rfl rfl (aA rfl) rfl c9 (aV (aA rfl) rfl (i := 0) rfl rfl tQ) ?_
   refine tr1 rfl (bW (v := .d (.lit (.bool x_0.Must))) (aA rfl) rfl c9 rfl rfl) ?_
   have h4 := Option.some.inj h4
   subst h4
   refine aF (bB rfl ⟨rfl, rfl, trivial⟩ rfl)
  ·have h4 := aT c9 h4
   refine aR rfl rfl (aA rfl) rfl (aA rfl) rfl c9 ?_
   refine aR rfl rfl (aA rfl) rfl (aA rfl) rfl c9 ?_
   refine tr1 rfl (bT (v := .d (.lit (.bool false))) (aA rfl) rfl c9 rfl rfl) ?_
   have h4 := Option.some.inj h4
   subst h4
   refine aF (bB rfl ⟨rfl, rfl, trivial⟩ rfl)
 ·refine tr1 rfl (aJ (v := .d (.lit (.bool b3))) (aA rfl) rfl rfl) ?_
  refine aF ?_
  refine bH rfl (fun c5 => ?_) (fun c5 => ?_)
  ·have h := aU c5 h
   refine aG ?_
   refine aE ?_
   refine tr1 rfl (aJ (v := .d (.lit (.int .i64 (-1)))) (aA rfl) rfl rfl) ?_
   refine aF ?_
   have h := Option.some.inj h
   subst h
   refine cR (cJ (cP (l := [4]) ⟨rfl, trivial⟩)) ?_
   exact bI ⟨rfl, _, .one _, rfl, rfl⟩
  ·have h := aT c5 h
   refine aG ?_
   refine aE ?_
   refine tr1 rfl (aS (aA rfl) rfl qM) ?_
   refine tr1 rfl (aV (aA rfl) rfl (i := 0) rfl rfl tQ) ?_
   refine tr1 rfl (aS (aA rfl) rfl qM) ?_
   refine tr1 rfl (aV (aA rfl) rfl (i := 1) rfl rfl tQ) ?_
   refine tr1 rfl (aHg (aA rfl) rfl rfl Try.underlying4) ?_
   refine tr1 rfl (aJ (v := .d (.lit (.bool ((!decide (x_0.Must = y_1.Must)))))) (aA rfl) rfl rfl) ?_
   refine aF ?_
   refine bH rfl (fun c6 => ?_) (fun c6 => ?_)
   ·have h := aU c6 h
    refine aG ?_
    refine aE ?_
    refine tr1 rfl (aJ (v := .d (.lit (.int .i64 1))) (aA rfl) rfl rfl) ?_
    refine aF ?_
    have h := Option.some.inj h
    subst h
    refine cR (cJ (cP (l := [4]) ⟨rfl, trivial⟩)) ?_
    exact bI ⟨rfl, _, .one _, rfl, rfl⟩
   ·have h := aT c6 h
    refine eF ?_
    refine aG ?_
    refine aE ?_
    refine tr1 rfl (aS (aA rfl) rfl rZ) ?_
    refine tr1 rfl (aV (aA rfl) rfl (i := 1) rfl rfl bM) ?_
    refine tr1 rfl (aS (aA rfl) rfl rZ) ?_
    refine tr1 rfl (aV (aA rfl) rfl (i := 0) rfl rfl bM) ?_
    refine tr1 rfl (aZ (aA rfl) rfl rfl rfl) ?_
    refine tr1 rfl (aS (aA rfl) rfl jR) ?_
    refine tr1 rfl (aV (aA rfl) rfl (i := 0) rfl rfl bM) ?_
    refine tr1 rfl (aS (aA rfl) rfl jR) ?_
    refine tr1 rfl (aV (aA rfl) rfl (i := 1) rfl rfl bM) ?_
    refine tr1 rfl (aZ (aA rfl) rfl rfl rfl) ?_
    refine tr1 rfl (jJ (aA rfl) fL rfl rfl (rows := ([w64 (y_1.Points - x_0.Points), w64 (x_0.Id - y_1.Id)]).map cL) rfl (cY (f := cL) fun _ => rfl) rfl (by decide)) ?_
    obtain ⟨r7, h8, h⟩ := bind_some h
    refine tr1 rfl (cC (aA rfl) (.func _ _ Try.call99) rfl rfl (BVs.refl _ _) (xO _ h8) rfl) ?_
    refine tr1 rfl (aJ (v := .d (.lit (.int .i64 r7))) (aA rfl) rfl rfl) ?_
    refine aF ?_
    have h := Option.some.inj h
    subst h
    refine cR (cJ (cP (l := [4]) ⟨rfl, trivial⟩)) ?_
    exact bI ⟨rfl, _, .one _, rfl, rfl⟩

theorem tN (b_0 : bX) (all_1 : List aC) {r : (List aC)} (h : lH b_0 all_1 = some r) : Fn Try.prog 71 [.cp (cD b_0), .d (.sl 5 (all_1.map aB))] (.d (.sl 5 (r.map aB))) := by
 unfold lH at h
 refine Fn.of_tr Try.func71 rfl (rs := [.tmp 4]) Try.results71 Try.ntmps71 (Nat.le_of_ble_eq_true rfl) ?_
 refine aG ?_
 refine aE ?_
 refine tr1 rfl (sO 5 (aA rfl)) ?_
 refine aF ?_
 refine aG ?_
 refine aE ?_
 refine tr1 rfl (aD (v := .d (.sl 5 (all_1.map aB))) (aA rfl) rfl rfl) ?_
 obtain ⟨r1, h2, h⟩ := bind_some h
 refine bR rfl (pK (aA rfl) (.func _ _ Try.call91) rfl rfl (oB _ h2)) ?_
 rintro _ ⟨v3, rfl⟩
 refine tr1 rfl (aJ (v := .d (.lit v3)) (aA rfl) rfl rfl) ?_
 refine aF ?_
 refine aG ?_
 refine aE ?_
 refine tr1 rfl (aD (v := .d (.lit v3)) (aA rfl) rfl rfl) ?_
 obtain ⟨r6, h7, h⟩ := bind_some h
 refine bR rfl (dQ (passed := [.arr v3 42 5 (r1.map aB)]) (aA rfl) rfl (.func _ _ Try.call92) rfl rfl (lN r1 (fun y4 y5 => jX y4 y5) 98 [] Try.call98 (fun _ _ _ h => xI _ _ h) h7)) ?_
 rintro _ ⟨_, _, ⟨rfl, rfl⟩, rfl⟩
 refine aF ?_
 refine aG ?_
 refine aE ?_
 refine tr1 rfl (aJ (v := .d (.lit (.int .i64 0))) (aA rfl) rfl rfl) ?_
 refine aF ?_
 refine aG ?_
 refine aG ?_
 refine aE ?_
 refine tr1 rfl (aD (v := .d (.lit v3)) (aA rfl) rfl rfl) ?_
 refine tr1 rfl (lR (m := 0) (aA rfl) rfl rfl bP.of) ?_
 refine tr1 rfl (aD (v := .d (.lit (.int .i64 0))) (aA rfl) rfl rfl) ?_
 refine aF ?_
 refine bQ ?_
 refine cH [0, 5, 13, 14] (fun (s8 : Int × Int) => [(6, .d (.lit (.int .i64 s8.1))), (15, .d (.lit (.int .i64 s8.2)))]) (fun (s8 : Int × Int) => [.arr v3 42 5 (r6.map aB)]) (fun (k : Nat) (s8 : Int × Int) => fW b_0 (r6.length : Int) r6 k s8.1 s8.2) (fun _ => rfl) (0, 0) h (aX [0] rfl rfl (aO rfl (aO rfl (aY ⟨rfl, rfl, rfl, rfl, trivial⟩)))) ?_
 rintro k9 ⟨musts_0_8, t15_0_8⟩ h
 simp only [fW] at h
 refine aG ?_
 refine aE ?_
 refine tr1 rfl (bC (aA rfl) rfl rfl rfl) ?_
 refine aF ?_
 refine aG ?_
 refine bH rfl (fun c10 => ?_) (fun c10 => ?_)
 ·have h := aU c10 h
  refine bE ?_
  refine aG ?_
  refine bQ ?_
  refine aG ?_
  refine aE ?_
  obtain ⟨x11, h12, h⟩ := bind_some h
  refine tr1 rfl (cE (m := 0) (aA rfl) rfl rfl rfl bP.of (bN aB h12)) ?_
  refine tr1 rfl (dG (aA rfl) rfl (l := 0) rfl (eA aB h12) dR (es := (aB x11)) rfl rfl) ?_
  refine bR rfl (fF (zs := [.lit (.int .i64 0), .lit (.int .i64 0), .lit (.int .i64 0), .lit (.int .i64 0), .lit (.bool false)]) (aA rfl) Try.zeroValue42 rfl rfl) ?_
  rintro _ ⟨b13, rfl⟩
  refine tr1 rfl (bO (i := 1) rfl rfl rfl rfl rfl Try.sizeOf42 rfl (aA rfl) (Nat.le_of_ble_eq_true rfl) (ds' := (aB x11)) rfl) ?_
  refine aF ?_
  refine aG ?_
  refine aE ?_
  refine tr1 rfl (aS (aA rfl) rfl qM) ?_
  refine tr1 rfl (aV (aA rfl) rfl (i := 1) rfl rfl tQ) ?_
  refine aF ?_
  refine bH rfl (fun c14 => ?_) (fun c14 => ?_)
  ·have h := aU c14 h
   refine aE ?_
   refine tr1 rfl (aD (v := .d (.lit (.int .i64 musts_0_8))) (aA rfl) rfl rfl) ?_
   refine tr1 rfl (aZ (aA rfl) rfl rfl rfl) ?_
   refine tr1 rfl (aJ (v := .d (.lit (.int .i64 ((w64 (musts_0_8 + 1)))))) (aA rfl) rfl rfl) ?_
   refine eC ?_
   refine aE ?_
   refine tr1 rfl (aZ (aA rfl) rfl rfl rfl) ?_
   refine tr1 rfl (aD (v := .d (.lit (.int .i64 ((w64 (t15_0_8 + 1)))))) (aA rfl) rfl rfl) ?_
   refine aF ?_
   exact ⟨(w64 (musts_0_8 + 1), w64 (t15_0_8 + 1)), h, aX [0] rfl rfl (aO rfl (aO rfl (aY ⟨rfl, rfl, rfl, rfl, trivial⟩)))⟩
  ·have h := aT c14 h
   refine eF ?_
   refine aE ?_
   refine tr1 rfl (aZ (aA rfl) rfl rfl rfl) ?_
   refine tr1 rfl (aD (v := .d (.lit (.int .i64 ((w64 (t15_0_8 + 1)))))) (aA rfl) rfl rfl) ?_
   refine aF ?_
   exact ⟨(musts_0_8, w64 (t15_0_8 + 1)), h, aX [0] rfl rfl (aO rfl (aO rfl (aY ⟨rfl, rfl, rfl, rfl, trivial⟩)))⟩
 ·have h := aT c10 h
  refine cQ ?_
  refine .inl ⟨rfl, ?_⟩
  simp only [kY] at h
  refine aG ?_
  refine aE ?_
  refine tr1 rfl (aD (v := .d (.lit v3)) (aA rfl) rfl rfl) ?_
  refine tr1 rfl (aD (v := .d (.lit v3)) (aA rfl) rfl rfl) ?_
  refine tr1 rfl (lR (m := 0) (aA rfl) rfl rfl bP.of) ?_
  refine tr1 rfl (aD (v := .d (.lit (.int .i64 musts_0_8))) (aA rfl) rfl rfl) ?_
  refine tr1 rfl (aD (v := .cp [.lit (.int .i64 b_0.Ledger.Players), .lit (.int .i64 b_0.Ledger.Counts), .sl 5 (b_0.Ledger.Reports.map aB), .sl 3 (b_0.Ledger.Bans.map aH), .sl 3 (b_0.Ledger.Frozen.map aH)]) (aA rfl) rfl rfl) ?_
  refine tr1 rfl (pL (aA rfl) rfl) ?_
  refine tr1 rfl (cV (aA rfl) rfl iS (es := [.lit (.int .i64 b_0.Ledger.Players), .lit (.int .i64 b_0.Ledger.Counts), .sl 5 (b_0.Ledger.Reports.map aB), .sl 3 (b_0.Ledger.Bans.map aH), .sl 3 (b_0.Ledger.Frozen.map aH)]) rfl) ?_
  refine tr1 rfl (cV (aA rfl) rfl uE (es := [.lit (.int .i64 b_0.Ledger.Counts)]) rfl) ?_
  refine tr1 rfl (cK (aA rfl) rfl bM) ?_
  refine tr1 rfl (aCd (aA rfl) rfl rfl) ?_
  refine tr1 rfl (aFf (aA rfl) rfl rfl) ?_
  refine gJ (vY [] [.arr v3 42 5 (r6.map aB)] rfl (jK (k := 25) (v := .d (.sl 5 (r6.map aB))) (.d (jP 0 rfl (cY (f := aB) fun _ => rfl))) (jK (k := 24) (v := .d (.sl 5 (r6.map aB))) (.d (jP 0 rfl (cY (f := aB) fun _ => rfl))) (jK (k := 13) (v := .d (.sl 5 (r6.map aB))) (.d (jP 0 rfl (cY (f := aB) fun _ => rfl))) (jK (k := 5) (v := .d (.sl 5 (r6.map aB))) (.d (jP 0 rfl (cY (f := aB) fun _ => rfl))) (qJ _ _)))))) ?_
  obtain ⟨x15, h16, h⟩ := bind_some h
  refine tr1 rfl (mT (aA rfl) bP.of rfl rfl rfl (pM aB h16)) ?_
  refine tr1 rfl (aJ (v := .d (.sl 5 (x15.map aB))) (aA rfl) rfl rfl) ?_
  refine aF ?_
  have h := Option.some.inj h
  subst h
  exact bI ⟨rfl, _, .one _, rfl, rfl⟩

theorem aAl (l_0 : List aC) {r : Int} (h : sE l_0 = some r) : Fn Try.prog 86 [.d (.sl 5 (l_0.map aB))] (.d (.lit (.int .i64 r))) := by
 unfold sE at h
 refine Fn.of_tr Try.func86 rfl (rs := [.tmp 2]) Try.results86 Try.ntmps86 (Nat.le_of_ble_eq_true rfl) ?_
 refine aG ?_
 refine aE ?_
 refine tr1 rfl (aJ (v := .d (.lit (.int .i64 0))) (aA rfl) rfl rfl) ?_
 refine aF ?_
 refine aG ?_
 refine aG ?_
 refine aE ?_
 refine tr1 rfl (aD (v := .d (.sl 5 (l_0.map aB))) (aA rfl) rfl rfl) ?_
 refine tr1 rfl (dB (aA rfl) rfl bP.of) ?_
 refine tr1 rfl (aD (v := .d (.lit (.int .i64 0))) (aA rfl) rfl rfl) ?_
 refine aF ?_
 refine bQ ?_
 refine cH [5, 6] (fun (s1 : Int × Int) => [(2, .d (.lit (.int .i64 s1.1))), (7, .d (.lit (.int .i64 s1.2)))]) (fun (s1 : Int × Int) => []) (fun (k : Nat) (s1 : Int × Int) => nH l_0 (l_0.length : Int) k s1.1 s1.2) (fun _ => rfl) (0, 0) h (aX [] rfl rfl (aO rfl (aO rfl (aY ⟨rfl, rfl, trivial⟩)))) ?_
 rintro k2 ⟨n_0_1, t7_0_1⟩ h
 simp only [nH] at h
 refine aG ?_
 refine aE ?_
 refine tr1 rfl (bC (aA rfl) rfl rfl rfl) ?_
 refine aF ?_
 refine aG ?_
 refine bH rfl (fun c3 => ?_) (fun c3 => ?_)
 ·have h := aU c3 h
  refine bE ?_
  refine aG ?_
  refine bQ ?_
  refine aG ?_
  refine aE ?_
  obtain ⟨x4, h5, h⟩ := bind_some h
  refine tr1 rfl (bY (aA rfl) rfl rfl bP.of (bN aB h5)) ?_
  refine tr1 rfl (eH (aA rfl) rfl dR (es := (aB x4)) rfl rfl) ?_
  refine bR rfl (fF (zs := [.lit (.int .i64 0), .lit (.int .i64 0), .lit (.int .i64 0), .lit (.int .i64 0), .lit (.bool false)]) (aA rfl) Try.zeroValue42 rfl rfl) ?_
  rintro _ ⟨b6, rfl⟩
  refine tr1 rfl (bO (i := 0) rfl rfl rfl rfl rfl Try.sizeOf42 rfl (aA rfl) (Nat.le_of_ble_eq_true rfl) (ds' := (aB x4)) rfl) ?_
  refine aF ?_
  refine aE ?_
  refine tr1 rfl (aD (v := .d (.lit (.int .i64 n_0_1))) (aA rfl) rfl rfl) ?_
  refine tr1 rfl (aS (aA rfl) rfl rZ) ?_
  refine tr1 rfl (aV (aA rfl) rfl (i := 0) rfl rfl bM) ?_
  refine tr1 rfl (aZ (aA rfl) rfl rfl rfl) ?_
  refine tr1 rfl (aJ (v := .d (.lit (.int .i64 ((w64 (n_0_1 + x4.Points)))))) (aA rfl) rfl rfl) ?_
  refine eC ?_
  refine aE ?_
  refine tr1 rfl (aZ (aA rfl) rfl rfl rfl) ?_
  refine tr1 rfl (aD (v := .d (.lit (.int .i64 ((w64 (t7_0_1 + 1)))))) (aA rfl) rfl rfl) ?_
  refine aF ?_
  exact ⟨(w64 (n_0_1 + x4.Points), w64 (t7_0_1 + 1)), h, aX [] rfl rfl (aO rfl (aO rfl (aY ⟨rfl, rfl, trivial⟩)))⟩
 ·have h := aT c3 h
  refine cQ ?_
  refine .inl ⟨rfl, ?_⟩
  simp only [vO] at h
  refine aG ?_
  refine aE ?_
  refine tr1 rfl (aD (v := .d (.lit (.int .i64 n_0_1))) (aA rfl) rfl rfl) ?_
  refine tr1 rfl (aJ (v := .d (.lit (.int .i64 n_0_1))) (aA rfl) rfl rfl) ?_
  refine aF ?_
  have h := Option.some.inj h
  subst h
  exact bI ⟨rfl, _, .one _, rfl, rfl⟩

theorem aAd (x : Int) {r : Int} (h : qF x = some r) : Fn Try.prog 101 [.d (.lit (.int .u64 x))] (.d (.lit (.int .i64 r))) := aHk (fun x w => Try.bits_Len x w) h

theorem oD (data_0 : List bA) (a_1 : Int) (b_2 : Int) (cmp_3 : bA → bA → Option Int) {r : (List bA)} {data_0_v : Value} (cmp_3_f : Nat) (cmp_3_v : List AV) (cmp_3_e : ∀ args w, (callFunc cmp_3_f args).run Try.prog w = .ok (.enter cmp_3_f args) w) (cmp_3_h : ∀ (x0 : bA) (x1 : bA) r, cmp_3 x0 x1 = some r → Fn Try.prog cmp_3_f ([.agg (bL x0), .agg (bL x1)] ++ cmp_3_v) (.d (.lit (.int .i64 r)))) (h : dL data_0 a_1 b_2 cmp_3 = some r) : fQ Try.prog 118 [.d (.lit data_0_v), .d (.lit (.int .i64 a_1)), .d (.lit (.int .i64 b_2)), .fn cmp_3_f cmp_3_v] [.arr data_0_v 114 4 (data_0.map bL)] (fun r' o' => r' = .tup [] ∧ o' = [.arr data_0_v 114 4 (r.map bL)]) := by
 unfold dL at h
 refine jC Try.func118 rfl (rs := []) Try.results118 Try.ntmps118 (Nat.le_of_ble_eq_true rfl) ?_
 refine aG ?_
 refine aE ?_
 refine tr1 rfl (aD (v := .d (.lit (.int .i64 a_1))) (aA rfl) rfl rfl) ?_
 refine tr1 rfl (aZ (aA rfl) rfl rfl rfl) ?_
 refine tr1 rfl (aJ (v := .d (.lit (.int .i64 ((w64 (a_1 + 1)))))) (aA rfl) rfl rfl) ?_
 refine aF ?_
 refine bQ ?_
 refine cH [1, 2, 3] (fun (s1 : Int × (List bA)) => [(0, .d (.lit data_0_v)), (8, .d (.lit (.int .i64 s1.1)))]) (fun (s1 : Int × (List bA)) => [.arr data_0_v 114 4 (s1.2.map bL)]) (fun (k : Nat) (s1 : Int × (List bA)) => cG a_1 b_2 cmp_3 k s1.1 s1.2) (fun _ => rfl) (w64 (a_1 + 1), data_0) h (aX [0] rfl rfl (aO rfl (aO rfl (aY ⟨rfl, rfl, rfl, trivial⟩)))) ?_
 rintro k2 ⟨i_0_1, data_0_1⟩ h
 simp only [cG] at h
 refine aG ?_
 refine aG ?_
 refine aE ?_
 refine tr1 rfl (aD (v := .d (.lit (.int .i64 i_0_1))) (aA rfl) rfl rfl) ?_
 refine tr1 rfl (aD (v := .d (.lit (.int .i64 b_2))) (aA rfl) rfl rfl) ?_
 refine tr1 rfl (bC (aA rfl) rfl rfl rfl) ?_
 refine aF ?_
 refine bH rfl (fun c3 => ?_) (fun c3 => ?_)
 ·have h := aU c3 h
  refine bE ?_
  refine aG ?_
  refine bQ ?_
  refine aG ?_
  refine aE ?_
  refine tr1 rfl (aD (v := .d (.lit (.int .i64 i_0_1))) (aA rfl) rfl rfl) ?_
  refine tr1 rfl (aJ (v := .d (.lit (.int .i64 i_0_1))) (aA rfl) rfl rfl) ?_
  refine aF ?_
  refine yQ ?_
  refine cH [1, 2, 3, 8] (fun (s4 : Int × (List bA)) => [(0, .d (.lit data_0_v)), (9, .d (.lit (.int .i64 s4.1)))]) (fun (s4 : Int × (List bA)) => [.arr data_0_v 114 4 (s4.2.map bL)]) (fun (k : Nat) (s4 : Int × (List bA)) => cW (cG a_1 b_2 cmp_3 k2) a_1 b_2 cmp_3 i_0_1 k s4.1 s4.2) (fun _ => rfl) (i_0_1, data_0_1) h (aX [0] rfl rfl (aO rfl (aO rfl (aY ⟨rfl, rfl, rfl, rfl, trivial⟩)))) ?_
  rintro k5 ⟨j_2_4, data_2_4⟩ h
  simp only [cW] at h
  refine aG ?_
  refine aG ?_
  obtain ⟨b6, h7, h⟩ := bind_some h
  refine fU mix 17 [0, 1, 2, 3, 8, 9] [(34, .d (.lit (.bool b6)))] ?_ ?_
  ·refine bJ (decide (a_1 < j_2_4)) (fun c8 => ?_) (fun c8 => ?_)
   ·have h7 := aU c8 h7
    obtain ⟨x9, h10, h7⟩ := bind_some h7
    obtain ⟨x11, h12, h7⟩ := bind_some h7
    obtain ⟨r13, h14, h7⟩ := bind_some h7
    have h7 := Option.some.inj h7
    subst h7
    refine ⟨[(18, 0, .d (.lit (.int .i64 j_2_4))), (19, 1, .d (.lit (.int .i64 a_1))), (20, 2, .d (.lit (.bool ((decide (a_1 < j_2_4)))))), (21, 3, .d (.lit (.bool ((decide (a_1 < j_2_4)))))), (22, 4, .fn cmp_3_f cmp_3_v), (23, 5, .d (.lit data_0_v)), (24, 6, .d (.lit (.int .i64 j_2_4))), (25, 7, .ep data_0_v 4 j_2_4.toNat 0), (26, 8, .agg (bL x9)), (27, 9, .d (.lit data_0_v)), (28, 10, .d (.lit (.int .i64 j_2_4))), (29, 11, .d (.lit (.int .i64 ((w64 (j_2_4 - 1)))))), (30, 12, .ep data_0_v 4 (w64 (j_2_4 - 1)).toNat 0), (31, 13, .agg (bL x11)), (32, 14, .d (.lit (.int .i64 r13))), (33, 15, .d (.lit (.bool ((decide (r13 < 0)))))), (34, 16, .d (.lit (.bool ((decide (r13 < 0))))))], ?_, ?_⟩
    · exact ⟨by kernel_rfl, by kernel_rfl, by kernel_rfl, by kernel_rfl, by kernel_rfl, [([], []), ([], []), ([0, 1], []), ([2], []), ([3], []), ([3], []), ([3], []), ([3, 5, 6], []), ([3, 7], []), ([3], []), ([3], []), ([3, 10], []), ([3, 9, 11], []), ([3, 12], []), ([3, 4, 8, 13], []), ([3, 14], []), ([3, 15], [])], by kernel_rfl, ⟨fun S hS => aK rfl (aQ rfl (aD (v := .d (.lit (.int .i64 j_2_4))) (aA rfl) (aI hS rfl) rfl)),
      fun S hS => aK rfl (aQ rfl (aD (v := .d (.lit (.int .i64 a_1))) (aA rfl) (aI hS rfl) rfl)),
      fun S hS => aK rfl (aQ rfl (bC (aA rfl) (aI hS rfl) (aI hS rfl) rfl)),
      fun S hS => aK rfl (aQ rfl (aD (v := .d (.lit (.bool ((decide (a_1 < j_2_4)))))) (aA rfl) (aI hS rfl) rfl)),
      fun S hS => aK rfl (bK rfl rfl (aA rfl) (aW hS rfl) c8 (aD (v := .fn cmp_3_f cmp_3_v) (aA rfl) (aI hS rfl) rfl)),
      fun S hS => aK rfl (bK rfl rfl (aA rfl) (aW hS rfl) c8 (aD (v := .d (.lit data_0_v)) (aA rfl) (aI hS rfl) rfl)),
      fun S hS => aK rfl (bK rfl rfl (aA rfl) (aW hS rfl) c8 (aD (v := .d (.lit (.int .i64 j_2_4))) (aA rfl) (aI hS rfl) rfl)),
      fun S hS => aK rfl (bK rfl rfl (aA rfl) (aW hS rfl) c8 (cE (m := 0) (aA rfl) (aI hS rfl) rfl (aI hS rfl) pA.of (bN bL h10))),
      fun S hS => aK rfl (bK rfl rfl (aA rfl) (aW hS rfl) c8 (dG (aA rfl) (aI hS rfl) (l := 0) rfl (eA bL h10) tT (es := (bL x9)) rfl rfl)),
      fun S hS => aK rfl (bK rfl rfl (aA rfl) (aW hS rfl) c8 (aD (v := .d (.lit data_0_v)) (aA rfl) (aI hS rfl) rfl)),
      fun S hS => aK rfl (bK rfl rfl (aA rfl) (aW hS rfl) c8 (aD (v := .d (.lit (.int .i64 j_2_4))) (aA rfl) (aI hS rfl) rfl)),
      fun S hS => aK rfl (bK rfl rfl (aA rfl) (aW hS rfl) c8 (aZ (aA rfl) (aI hS rfl) rfl rfl)),
      fun S hS => aK rfl (bK rfl rfl (aA rfl) (aW hS rfl) c8 (cE (m := 0) (aA rfl) (aI hS rfl) rfl (aI hS rfl) pA.of (bN bL h12))),
      fun S hS => aK rfl (bK rfl rfl (aA rfl) (aW hS rfl) c8 (dG (aA rfl) (aI hS rfl) (l := 0) rfl (eA bL h12) tT (es := (bL x11)) rfl rfl)),
      fun S hS => aK rfl (bK rfl rfl (aA rfl) (aW hS rfl) c8 (cC (aA rfl) (.clo _ _ _ _ cmp_3_e (aW hS rfl)) (uB (ev2 (aI hS rfl) (ev2 (aI hS rfl) evn))) rfl (BVs.refl _ _) (cmp_3_h _ _ _  h14) rfl)),
      fun S hS => aK rfl (bK rfl rfl (aA rfl) (aW hS rfl) c8 (bC (aA rfl) (aI hS rfl) rfl rfl)),
      fun S hS => aK rfl (aQ rfl (bW (v := .d (.lit (.bool ((decide (r13 < 0)))))) (aA rfl) (aI hS rfl) c8 (aI hS rfl) rfl)), trivial⟩⟩
    · exact dX (aO rfl (aY ⟨rfl, rfl, rfl, rfl, rfl, rfl, trivial⟩))
   ·have h7 := aT c8 h7
    have h7 := Option.some.inj h7
    subst h7
    refine ⟨[(18, 0, .d (.lit (.int .i64 j_2_4))), (19, 1, .d (.lit (.int .i64 a_1))), (20, 2, .d (.lit (.bool ((decide (a_1 < j_2_4)))))), (21, 3, .d (.lit (.bool ((decide (a_1 < j_2_4)))))), (22, 4, .tup []), (23, 5, .tup []), (24, 6, .tup []), (25, 7, .tup []), (26, 8, .tup []), (27, 9, .tup []), (28, 10, .tup []), (29, 11, .tup []), (30, 12, .tup []), (31, 13, .tup []), (32, 14, .tup []), (33, 15, .tup []), (34, 16, .d (.lit (.bool false)))], ?_, ?_⟩
    · exact ⟨by kernel_rfl, by kernel_rfl, by kernel_rfl, by kernel_rfl, by kernel_rfl, [([], []), ([], []), ([0, 1], []), ([2], []), ([3], []), ([3], []), ([3], []), ([3, 5, 6], []), ([3, 7], []), ([3], []), ([3], []), ([3, 10], []), ([3, 9, 11], []), ([3, 12], []), ([3, 4, 8, 13], []), ([3, 14], []), ([3, 15], [])], by kernel_rfl, ⟨fun S hS => aK rfl (aQ rfl (aD (v := .d (.lit (.int .i64 j_2_4))) (aA rfl) (aI hS rfl) rfl)),
      fun S hS => aK rfl (aQ rfl (aD (v := .d (.lit (.int .i64 a_1))) (aA rfl) (aI hS rfl) rfl)),
      fun S hS => aK rfl (aQ rfl (bC (aA rfl) (aI hS rfl) (aI hS rfl) rfl)),
      fun S hS => aK rfl (aQ rfl (aD (v := .d (.lit (.bool ((decide (a_1 < j_2_4)))))) (aA rfl) (aI hS rfl) rfl)),
      fun S hS => aK rfl (bF rfl rfl (aA rfl) rfl (aA rfl) (aW hS rfl) c8),
      fun S hS => aK rfl (bF rfl rfl (aA rfl) rfl (aA rfl) (aW hS rfl) c8),
      fun S hS => aK rfl (bF rfl rfl (aA rfl) rfl (aA rfl) (aW hS rfl) c8),
      fun S hS => aK rfl (bF rfl rfl (aA rfl) rfl (aA rfl) (aW hS rfl) c8),
      fun S hS => aK rfl (bF rfl rfl (aA rfl) rfl (aA rfl) (aW hS rfl) c8),
      fun S hS => aK rfl (bF rfl rfl (aA rfl) rfl (aA rfl) (aW hS rfl) c8),
      fun S hS => aK rfl (bF rfl rfl (aA rfl) rfl (aA rfl) (aW hS rfl) c8),
      fun S hS => aK rfl (bF rfl rfl (aA rfl) rfl (aA rfl) (aW hS rfl) c8),
      fun S hS => aK rfl (bF rfl rfl (aA rfl) rfl (aA rfl) (aW hS rfl) c8),
      fun S hS => aK rfl (bF rfl rfl (aA rfl) rfl (aA rfl) (aW hS rfl) c8),
      fun S hS => aK rfl (bF rfl rfl (aA rfl) rfl (aA rfl) (aW hS rfl) c8),
      fun S hS => aK rfl (bF rfl rfl (aA rfl) rfl (aA rfl) (aW hS rfl) c8),
      fun S hS => aK rfl (aQ rfl (bT (v := .d (.lit (.bool false))) (aA rfl) (aI hS rfl) c8 rfl rfl)), trivial⟩⟩
    · exact dX (aO rfl (aY ⟨rfl, rfl, rfl, rfl, rfl, rfl, trivial⟩))
  ·refine aF ?_
   refine bH rfl (fun c15 => ?_) (fun c15 => ?_)
   ·have h := aU c15 h
    refine bE ?_
    refine aG ?_
    refine bQ ?_
    obtain ⟨x17, h18, h⟩ := bind_some h
    obtain ⟨x19, h20, h⟩ := bind_some h
    obtain ⟨x21, h22, h⟩ := bind_some h
    refine lC mix 16 [0, 1, 2, 3, 8, 9] (fun X16 => [(39, .d (.lit data_0_v)), (41, .d (.lit (.int .i64 ((w64 (j_2_4 - 1)))))), (50, .agg (bL x19))]) (fun X16 => [.arr data_0_v 114 4 ((data_2_4.set j_2_4.toNat x17).map bL)]) ?_ ?_
    ·refine ⟨0, fun X16 => [(37, 0, .d (.lit data_0_v)), (38, 1, .d (.lit (.int .i64 j_2_4))), (39, 2, .d (.lit data_0_v)), (40, 3, .d (.lit (.int .i64 j_2_4))), (41, 4, .d (.lit (.int .i64 ((w64 (j_2_4 - 1)))))), (42, 5, .d (.lit data_0_v)), (43, 6, .d (.lit (.int .i64 j_2_4))), (44, 7, .d (.lit (.int .i64 ((w64 (j_2_4 - 1)))))), (45, 8, .ep data_0_v 4 (w64 (j_2_4 - 1)).toNat 0), (46, 9, .agg (bL x17)), (47, 10, .d (.lit data_0_v)), (48, 11, .d (.lit (.int .i64 j_2_4))), (49, 12, .ep data_0_v 4 j_2_4.toNat 0), (50, 13, .agg (bL x19)), (51, 14, .ep data_0_v 4 j_2_4.toNat 0)], fun X16 => [([(15, .arr data_0_v 114 4 ((data_2_4.set j_2_4.toNat x17).map bL))], .arr data_0_v 114 4 (data_2_4.map bL))], ?_, ?_⟩
     · exact ⟨by kernel_rfl, by kernel_rfl, by kernel_rfl, fun _ => by kernel_rfl, fun _ => by kernel_rfl, fun _ => by kernel_rfl, fun _ => rfl, [([], [15]), ([], [15]), ([], []), ([], []), ([3], []), ([], [15]), ([], [15]), ([6], [15]), ([5, 7], [15]), ([8], [15]), ([], [15]), ([], [15]), ([10, 11], [15]), ([12], [15]), ([0, 1], [15]), ([9, 14], [])], by kernel_rfl, ⟨fun X16 S hw hi hS => bG (X := X16) rfl (hw X16) rfl (aQ rfl (aD (v := .d (.lit data_0_v)) (aA rfl) (aI hS rfl) rfl)),
      fun X16 S hw hi hS => bG (X := X16) rfl (hw X16) rfl (aQ rfl (aD (v := .d (.lit (.int .i64 j_2_4))) (aA rfl) (aI hS rfl) rfl)),
      fun X16 S hw hi hS => bG (X := X16) rfl (hw X16) rfl (aQ rfl (aD (v := .d (.lit data_0_v)) (aA rfl) (aI hS rfl) rfl)),
      fun X16 S hw hi hS => bG (X := X16) rfl (hw X16) rfl (aQ rfl (aD (v := .d (.lit (.int .i64 j_2_4))) (aA rfl) (aI hS rfl) rfl)),
      fun X16 S hw hi hS => bG (X := X16) rfl (hw X16) rfl (aQ rfl (aZ (aA rfl) (aI hS rfl) rfl rfl)),
      fun X16 S hw hi hS => bG (X := X16) rfl (hw X16) rfl (aQ rfl (aD (v := .d (.lit data_0_v)) (aA rfl) (aI hS rfl) rfl)),
      fun X16 S hw hi hS => bG (X := X16) rfl (hw X16) rfl (aQ rfl (aD (v := .d (.lit (.int .i64 j_2_4))) (aA rfl) (aI hS rfl) rfl)),
      fun X16 S hw hi hS => bG (X := X16) rfl (hw X16) rfl (aQ rfl (aZ (aA rfl) (aI hS rfl) rfl rfl)),
      fun X16 S hw hi hS => bG (X := X16) rfl (hw X16) rfl (aQ rfl (cE (m := 0) (aA rfl) (aI hS rfl) (og hS rfl rfl) (aI hS rfl) pA.of (bN bL h18))),
      fun X16 S hw hi hS => bG (X := X16) rfl (hw X16) rfl (aQ rfl (dG (aA rfl) (aI hS rfl) (l := 0) (og hS rfl rfl) (eA bL h18) tT (es := (bL x17)) rfl rfl)),
      fun X16 S hw hi hS => bG (X := X16) rfl (hw X16) rfl (aQ rfl (aD (v := .d (.lit data_0_v)) (aA rfl) (aI hS rfl) rfl)),
      fun X16 S hw hi hS => bG (X := X16) rfl (hw X16) rfl (aQ rfl (aD (v := .d (.lit (.int .i64 j_2_4))) (aA rfl) (aI hS rfl) rfl)),
      fun X16 S hw hi hS => bG (X := X16) rfl (hw X16) rfl (aQ rfl (cE (m := 0) (aA rfl) (aI hS rfl) (og hS rfl rfl) (aI hS rfl) pA.of (bN bL h20))),
      fun X16 S hw hi hS => bG (X := X16) rfl (hw X16) rfl (aQ rfl (dG (aA rfl) (aI hS rfl) (l := 0) (og hS rfl rfl) (eA bL h20) tT (es := (bL x19)) rfl rfl)),
      fun X16 S hw hi hS => bG (X := X16) rfl (hw X16) rfl (aQ rfl (cE (m := 0) (aA rfl) (aI hS rfl) (og hS rfl rfl) (aI hS rfl) pA.of (bN bL h22))),
      fun X16 S hw hi hS => qY (X := X16) hS rfl rfl rfl (p := 0) rfl rfl (aQ rfl (jG (l := 0) (aI hS rfl) (og hS rfl rfl) (eA bL h22) (aI hS rfl) rfl rfl Try.sizeOf114 rfl (aA rfl) (Nat.le_of_ble_eq_true rfl) (rows' := ((data_2_4.set j_2_4.toNat x17)).map bL) (mL _ _ _ _ rfl))), trivial⟩⟩
     · exact fun X16 => dX (aO rfl (aO rfl (aO rfl (aY ⟨rfl, rfl, rfl, rfl, rfl, rfl, trivial⟩))))
    ·intro X16
     obtain ⟨x23, h24, h⟩ := bind_some h
     refine tr1 rfl (cE (m := 0) (aA rfl) rfl rfl rfl pA.of (bN bL h24)) ?_
     refine tr1 rfl (jG (l := 0) rfl rfl (eA bL h24) rfl rfl rfl Try.sizeOf114 rfl (aA rfl) (Nat.le_of_ble_eq_true rfl) (rows' := (((data_2_4.set j_2_4.toNat x17).set (w64 (j_2_4 - 1)).toNat x19)).map bL) (mL _ _ _ _ rfl)) ?_
     refine eC ?_
     refine aE ?_
     refine tr1 rfl (aD (v := .d (.lit (.int .i64 j_2_4))) (aA rfl) rfl rfl) ?_
     refine tr1 rfl (aZ (aA rfl) rfl rfl rfl) ?_
     refine tr1 rfl (aJ (v := .d (.lit (.int .i64 ((w64 (j_2_4 - 1)))))) (aA rfl) rfl rfl) ?_
     refine aF ?_
     exact ⟨(w64 (j_2_4 - 1), ((data_2_4.set j_2_4.toNat x17).set (w64 (j_2_4 - 1)).toNat x19)), h, aX [0] rfl rfl (aO rfl (aO rfl (aY ⟨rfl, rfl, rfl, rfl, trivial⟩)))⟩
   ·have h := aT c15 h
    refine cQ ?_
    refine .inl ⟨rfl, ?_⟩
    simp only [fJ] at h
    simp only [fI] at h
    refine aE ?_
    refine tr1 rfl (aD (v := .d (.lit (.int .i64 i_0_1))) (aA rfl) rfl rfl) ?_
    refine tr1 rfl (aZ (aA rfl) rfl rfl rfl) ?_
    refine tr1 rfl (aJ (v := .d (.lit (.int .i64 ((w64 (i_0_1 + 1)))))) (aA rfl) rfl rfl) ?_
    refine aF ?_
    exact ⟨(w64 (i_0_1 + 1), data_2_4), h, aX [0] rfl rfl (aO rfl (aO rfl (aY ⟨rfl, rfl, rfl, trivial⟩)))⟩
 ·have h := aT c3 h
  refine cQ ?_
  refine .inl ⟨rfl, ?_⟩
  simp only [fH] at h
  have h := Option.some.inj h
  subst h
  exact ⟨_, [.arr data_0_v 114 4 (data_0_1.map bL)], [], _, .none, .refl _, .same _, rfl, rfl⟩

theorem qA (data_0 : List bA) (a_1 : Int) (b_2 : Int) (limit_3 : Int) (cmp_4 : bA → bA → Option Int) {r : (List bA)} {data_0_v : Value} (cmp_4_f : Nat) (cmp_4_v : List AV) (cmp_4_e : ∀ args w, (callFunc cmp_4_f args).run Try.prog w = .ok (.enter cmp_4_f args) w) (cmp_4_h : ∀ (x0 : bA) (x1 : bA) r, cmp_4 x0 x1 = some r → Fn Try.prog cmp_4_f ([.agg (bL x0), .agg (bL x1)] ++ cmp_4_v) (.d (.lit (.int .i64 r)))) (h : gS data_0 a_1 b_2 limit_3 cmp_4 = some r) : fQ Try.prog 103 [.d (.lit data_0_v), .d (.lit (.int .i64 a_1)), .d (.lit (.int .i64 b_2)), .d (.lit (.int .i64 limit_3)), .fn cmp_4_f cmp_4_v] [.arr data_0_v 114 4 (data_0.map bL)] (fun r' o' => r' = .tup [] ∧ o' = [.arr data_0_v 114 4 (r.map bL)]) := by
 unfold gS at h
 refine jC Try.func103 rfl (rs := []) Try.results103 Try.ntmps103 (Nat.le_of_ble_eq_true rfl) ?_
 refine aG ?_
 refine aE ?_
 refine tr1 rfl (aJ (v := .d (.lit (.bool true))) (aA rfl) rfl rfl) ?_
 refine aF ?_
 refine aG ?_
 refine aE ?_
 refine tr1 rfl (aJ (v := .d (.lit (.bool true))) (aA rfl) rfl rfl) ?_
 refine aF ?_
 refine bQ ?_
 refine cH [4] (fun (s1 : Int × Int × Int × Bool × Bool × (List bA)) => [(0, .d (.lit data_0_v)), (1, .d (.lit (.int .i64 s1.1))), (2, .d (.lit (.int .i64 s1.2.1))), (3, .d (.lit (.int .i64 s1.2.2.1))), (10, .d (.lit (.bool s1.2.2.2.1))), (11, .d (.lit (.bool s1.2.2.2.2.1)))]) (fun (s1 : Int × Int × Int × Bool × Bool × (List bA)) => [.arr data_0_v 114 4 (s1.2.2.2.2.2.map bL)]) (fun (k : Nat) (s1 : Int × Int × Int × Bool × Bool × (List bA)) => gD cmp_4 k s1.1 s1.2.1 s1.2.2.1 s1.2.2.2.1 s1.2.2.2.2.1 s1.2.2.2.2.2) (fun _ => rfl) (a_1, b_2, limit_3, true, true, data_0) h (aX [0] rfl rfl (aO rfl (aO rfl (aO rfl (aO rfl (aO rfl (aO rfl (aY ⟨rfl, trivial⟩)))))))) ?_
 rintro k2 ⟨a_0_1, b_0_1, limit_0_1, wasBalanced_0_1, wasPartitioned_0_1, data_0_1⟩ h
 simp only [gD] at h
 refine bQ ?_
 refine aG ?_
 refine aE ?_
 refine tr1 rfl (aD (v := .d (.lit (.int .i64 b_0_1))) (aA rfl) rfl rfl) ?_
 refine tr1 rfl (aD (v := .d (.lit (.int .i64 a_0_1))) (aA rfl) rfl rfl) ?_
 refine tr1 rfl (aZ (aA rfl) rfl rfl rfl) ?_
 refine tr1 rfl (aJ (v := .d (.lit (.int .i64 ((w64 (b_0_1 - a_0_1)))))) (aA rfl) rfl rfl) ?_
 refine aF ?_
 refine aG ?_
 refine aG ?_
 refine aE ?_
 refine tr1 rfl (aD (v := .d (.lit (.int .i64 ((w64 (b_0_1 - a_0_1)))))) (aA rfl) rfl rfl) ?_
 refine tr1 rfl (bC (aA rfl) rfl rfl rfl) ?_
 refine aF ?_
 refine bH rfl (fun c3 => ?_) (fun c3 => ?_)
 ·have h := aU c3 h
  refine aG ?_
  refine aE ?_
  refine tr1 rfl (aD (v := .d (.lit data_0_v)) (aA rfl) rfl rfl) ?_
  refine tr1 rfl (aD (v := .d (.lit (.int .i64 a_0_1))) (aA rfl) rfl rfl) ?_
  refine tr1 rfl (aD (v := .d (.lit (.int .i64 b_0_1))) (aA rfl) rfl rfl) ?_
  refine tr1 rfl (aD (v := .fn cmp_4_f cmp_4_v) (aA rfl) rfl rfl) ?_
  obtain ⟨r4, h5, h⟩ := bind_some h
  refine bR rfl (dQ (passed := [.arr data_0_v 114 4 (data_0_1.map bL)]) (aA rfl) rfl (.func _ _ Try.call118) rfl rfl (oD data_0_1 a_0_1 b_0_1 cmp_4 cmp_4_f cmp_4_v cmp_4_e cmp_4_h h5)) ?_
  rintro _ ⟨_, _, ⟨rfl, rfl⟩, rfl⟩
  refine aF ?_
  have h := Option.some.inj h
  subst h
  exact bI ⟨rfl, _, [.arr data_0_v 114 4 (r4.map bL)], [], _, .none, .refl _, .same _, rfl, rfl⟩
 ·have h := aT c3 h
  refine bE ?_
  refine aG ?_
  refine aG ?_
  cases h

theorem tB (x_0 : List bA) (cmp_1 : bA → bA → Option Int) {r : (List bA)} {x_0_v : Value} (cmp_1_f : Nat) (cmp_1_v : List AV) (cmp_1_e : ∀ args w, (callFunc cmp_1_f args).run Try.prog w = .ok (.enter cmp_1_f args) w) (cmp_1_h : ∀ (x0 : bA) (x1 : bA) r, cmp_1 x0 x1 = some r → Fn Try.prog cmp_1_f ([.agg (bL x0), .agg (bL x1)] ++ cmp_1_v) (.d (.lit (.int .i64 r)))) (h : hZ x_0 cmp_1 = some r) : fQ Try.prog 87 [.d (.lit x_0_v), .fn cmp_1_f cmp_1_v] [.arr x_0_v 114 4 (x_0.map bL)] (fun r' o' => r' = .tup [] ∧ o' = [.arr x_0_v 114 4 (r.map bL)]) := by
 unfold hZ at h
 refine jC Try.func87 rfl (rs := []) Try.results87 Try.ntmps87 (Nat.le_of_ble_eq_true rfl) ?_
 refine aG ?_
 refine aE ?_
 refine tr1 rfl (aD (v := .d (.lit x_0_v)) (aA rfl) rfl rfl) ?_
 refine tr1 rfl (lR (m := 0) (aA rfl) rfl rfl pA.of) ?_
 refine tr1 rfl (aJ (v := .d (.lit (.int .i64 ((x_0.length : Int))))) (aA rfl) rfl rfl) ?_
 refine aF ?_
 refine aE ?_
 refine tr1 rfl (aD (v := .d (.lit x_0_v)) (aA rfl) rfl rfl) ?_
 refine tr1 rfl (aD (v := .d (.lit (.int .i64 ((x_0.length : Int))))) (aA rfl) rfl rfl) ?_
 refine tr1 rfl (aD (v := .d (.lit (.int .i64 ((x_0.length : Int))))) (aA rfl) rfl rfl) ?_
 refine tr1 rfl (oZ (aA rfl) rfl Try.runUnderlying3 Try.runUnderlying127) ?_
 obtain ⟨r1, h2, h⟩ := bind_some h
 refine tr1 rfl (cC (aA rfl) (.func _ _ Try.call101) rfl rfl (BVs.refl _ _) (aAd _ h2) rfl) ?_
 refine tr1 rfl (aD (v := .fn cmp_1_f cmp_1_v) (aA rfl) rfl rfl) ?_
 obtain ⟨r3, h4, h⟩ := bind_some h
 refine bR rfl (dQ (passed := [.arr x_0_v 114 4 (x_0.map bL)]) (aA rfl) rfl (.func _ _ Try.call103) rfl rfl (qA x_0 0 (x_0.length : Int) r1 cmp_1 cmp_1_f cmp_1_v cmp_1_e cmp_1_h h4)) ?_
 rintro _ ⟨_, _, ⟨rfl, rfl⟩, rfl⟩
 refine aF ?_
 have h := Option.some.inj h
 subst h
 exact ⟨_, [.arr x_0_v 114 4 (r3.map bL)], [], _, .none, .refl _, .same _, rfl, rfl⟩

theorem xJ (x_0 : bA) (y_1 : bA) {r : Int} (h : jY x_0 y_1 = some r) : Fn Try.prog 88 [.agg (bL x_0), .agg (bL y_1)] (.d (.lit (.int .i64 r))) := by
 unfold jY at h
 refine Fn.of_tr Try.func88 rfl (rs := [.tmp 4]) Try.results88 Try.ntmps88 (Nat.le_of_ble_eq_true rfl) ?_
 refine aG ?_
 refine aE ?_
 refine bR rfl (fX (v := .agg (bL x_0)) (aA rfl) rfl rfl rfl) ?_
 rintro _ ⟨b1, rfl⟩
 refine bR rfl (fX (v := .agg (bL y_1)) (aA rfl) rfl rfl rfl) ?_
 rintro _ ⟨b2, rfl⟩
 refine tr1 rfl (aJ (v := .d (.lit (.int .i64 0))) (aA rfl) rfl rfl) ?_
 refine aF ?_
 refine aG ?_
 refine aE ?_
 refine tr1 rfl (aS (aA rfl) rfl aBo) ?_
 refine tr1 rfl (aV (aA rfl) rfl (i := 1) rfl rfl bM) ?_
 refine tr1 rfl (aS (aA rfl) rfl aBo) ?_
 refine tr1 rfl (aV (aA rfl) rfl (i := 0) rfl rfl bM) ?_
 refine tr1 rfl (aZ (aA rfl) rfl rfl rfl) ?_
 refine tr1 rfl (aS (aA rfl) rfl uX) ?_
 refine tr1 rfl (aV (aA rfl) rfl (i := 1) rfl rfl bM) ?_
 refine tr1 rfl (aS (aA rfl) rfl uX) ?_
 refine tr1 rfl (aV (aA rfl) rfl (i := 0) rfl rfl bM) ?_
 refine tr1 rfl (aZ (aA rfl) rfl rfl rfl) ?_
 refine tr1 rfl (aS (aA rfl) rfl aBp) ?_
 refine tr1 rfl (aV (aA rfl) rfl (i := 0) rfl rfl bM) ?_
 refine tr1 rfl (aS (aA rfl) rfl aBp) ?_
 refine tr1 rfl (aV (aA rfl) rfl (i := 1) rfl rfl bM) ?_
 refine tr1 rfl (aZ (aA rfl) rfl rfl rfl) ?_
 refine tr1 rfl (aS (aA rfl) rfl xR) ?_
 refine tr1 rfl (aV (aA rfl) rfl (i := 0) rfl rfl bM) ?_
 refine tr1 rfl (aS (aA rfl) rfl xR) ?_
 refine tr1 rfl (aV (aA rfl) rfl (i := 1) rfl rfl bM) ?_
 refine tr1 rfl (aZ (aA rfl) rfl rfl rfl) ?_
 refine tr1 rfl (jJ (aA rfl) fL rfl rfl (rows := ([w64 (y_1.points - x_0.points), w64 (y_1.musts - x_0.musts), w64 (x_0.many - y_1.many), w64 (x_0.player - y_1.player)]).map cL) rfl (cY (f := cL) fun _ => rfl) rfl (by decide)) ?_
 obtain ⟨r3, h4, h⟩ := bind_some h
 refine tr1 rfl (cC (aA rfl) (.func _ _ Try.call99) rfl rfl (BVs.refl _ _) (xO _ h4) rfl) ?_
 refine tr1 rfl (aJ (v := .d (.lit (.int .i64 r3))) (aA rfl) rfl rfl) ?_
 refine aF ?_
 have h := Option.some.inj h
 subst h
 refine cR (cJ (cP (l := [4]) ⟨rfl, trivial⟩)) ?_
 exact bI ⟨rfl, _, .one _, rfl, rfl⟩

theorem uM (b_0 : bX) (week_1 : Int) {r : (List Int)} (h : gG b_0 week_1 = some r) : Fn Try.prog 59 [.cp (cD b_0), .d (.lit (.int .i64 week_1))] (.d (.sl 1 (r.map cL))) := by
 unfold gG at h
 refine Fn.of_tr Try.func59 rfl (rs := [.tmp 4]) Try.results59 Try.ntmps59 (Nat.le_of_ble_eq_true rfl) ?_
 refine aG ?_
 refine aE ?_
 refine tr1 rfl (sO 1 (aA rfl)) ?_
 refine aF ?_
 refine aG ?_
 refine aE ?_
 refine tr1 rfl (iL 114 4 (.inl rfl) (aA rfl)) ?_
 refine aF ?_
 refine aG ?_
 refine aG ?_
 refine aE ?_
 refine tr1 rfl (aD (v := .cp [.lit (.int .i64 b_0.Ledger.Players), .lit (.int .i64 b_0.Ledger.Counts), .sl 5 (b_0.Ledger.Reports.map aB), .sl 3 (b_0.Ledger.Bans.map aH), .sl 3 (b_0.Ledger.Frozen.map aH)]) (aA rfl) rfl rfl) ?_
 refine tr1 rfl (pL (aA rfl) rfl) ?_
 refine tr1 rfl (cV (aA rfl) rfl iS (es := [.lit (.int .i64 b_0.Ledger.Players), .lit (.int .i64 b_0.Ledger.Counts), .sl 5 (b_0.Ledger.Reports.map aB), .sl 3 (b_0.Ledger.Bans.map aH), .sl 3 (b_0.Ledger.Frozen.map aH)]) rfl) ?_
 refine tr1 rfl (cV (aA rfl) rfl jH (es := [.lit (.int .i64 b_0.Ledger.Players)]) rfl) ?_
 refine tr1 rfl (cK (aA rfl) rfl bM) ?_
 refine tr1 rfl (aD (v := .d (.lit (.int .i64 0))) (aA rfl) rfl rfl) ?_
 refine aF ?_
 refine bQ ?_
 refine cH [0, 1, 18] (fun (s2 : Int × (List bA) × Value) => [(5, .d (.lit s2.2.2)), (19, .d (.lit (.int .i64 s2.1)))]) (fun (s2 : Int × (List bA) × Value) => [.arr s2.2.2 114 4 (s2.2.1.map bL)]) (fun (k : Nat) (s2 : Int × (List bA) × Value) => fD b_0 week_1 b_0.Ledger.Players k s2.1 s2.2.1) (fun _ => rfl) (0, ([] : List bA), (.slice none 0 0)) h (aX [0] rfl rfl (aO rfl (aO rfl (aY ⟨rfl, rfl, rfl, trivial⟩)))) ?_
 rintro k4 ⟨t19_0_2, lines_0_2, w3⟩ h
 simp only [fD] at h
 refine aG ?_
 refine aE ?_
 refine tr1 rfl (bC (aA rfl) rfl rfl rfl) ?_
 refine aF ?_
 refine aG ?_
 refine bH rfl (fun c5 => ?_) (fun c5 => ?_)
 ·have h := aU c5 h
  refine bE ?_
  refine aG ?_
  refine bQ ?_
  refine aG ?_
  refine aE ?_
  refine tr1 rfl (aD (v := .d (.lit (.int .i64 t19_0_2))) (aA rfl) rfl rfl) ?_
  refine tr1 rfl (aJ (v := .d (.lit (.int .i64 t19_0_2))) (aA rfl) rfl rfl) ?_
  refine aF ?_
  refine aG ?_
  refine aE ?_
  refine tr1 rfl (aD (v := .cp [.lit (.int .i64 b_0.Ledger.Players), .lit (.int .i64 b_0.Ledger.Counts), .sl 5 (b_0.Ledger.Reports.map aB), .sl 3 (b_0.Ledger.Bans.map aH), .sl 3 (b_0.Ledger.Frozen.map aH)]) (aA rfl) rfl rfl) ?_
  refine tr1 rfl (aD (v := .d (.lit (.int .i64 t19_0_2))) (aA rfl) rfl rfl) ?_
  refine tr1 rfl (aD (v := .d (.lit (.int .i64 week_1))) (aA rfl) rfl rfl) ?_
  obtain ⟨r6, h7, h⟩ := bind_some h
  refine tr1 rfl (jZ (aA rfl) (.func _ _ Try.call72) rfl rfl (tL _ _ _ h7)) ?_
  refine tr1 rfl (aJ (v := .d (.sl 5 (r6.map aB))) (aA rfl) rfl rfl) ?_
  refine aF ?_
  refine aG ?_
  refine aG ?_
  refine aE ?_
  refine tr1 rfl (aD (v := .cp [.lit (.int .i64 b_0.Ledger.Players), .lit (.int .i64 b_0.Ledger.Counts), .sl 5 (b_0.Ledger.Reports.map aB), .sl 3 (b_0.Ledger.Bans.map aH), .sl 3 (b_0.Ledger.Frozen.map aH)]) (aA rfl) rfl rfl) ?_
  refine tr1 rfl (pL (aA rfl) rfl) ?_
  refine tr1 rfl (cV (aA rfl) rfl iS (es := [.lit (.int .i64 b_0.Ledger.Players), .lit (.int .i64 b_0.Ledger.Counts), .sl 5 (b_0.Ledger.Reports.map aB), .sl 3 (b_0.Ledger.Bans.map aH), .sl 3 (b_0.Ledger.Frozen.map aH)]) rfl) ?_
  refine tr1 rfl (cV (aA rfl) rfl jI (es := [.sl 3 (b_0.Ledger.Bans.map aH)]) rfl) ?_
  refine tr1 rfl (cK (aA rfl) rfl fV) ?_
  refine tr1 rfl (aD (v := .d (.lit (.int .i64 t19_0_2))) (aA rfl) rfl rfl) ?_
  refine tr1 rfl (aD (v := .d (.lit (.int .i64 week_1))) (aA rfl) rfl rfl) ?_
  obtain ⟨r8, h9, h⟩ := bind_some h
  refine tr1 rfl (cC (aA rfl) (.func _ _ Try.call48) rfl rfl (BVs.refl _ _) (vM _ _ _ h9) rfl) ?_
  refine tr1 rfl (aD (v := .d (.lit (.bool r8))) (aA rfl) rfl rfl) ?_
  obtain ⟨b10, h11, h⟩ := bind_some h
  refine cA 4 [0, 1, 5, 6, 7, 18, 19] 38 b10 ?_ ?_
  ·refine bJ (r8) (fun c28 => ?_) (fun c28 => ?_)
   ·have h11 := aU c28 h11
    refine aR rfl rfl (aA rfl) rfl (aA rfl) rfl c28 ?_
    refine aR rfl rfl (aA rfl) rfl (aA rfl) rfl c28 ?_
    refine aR rfl rfl (aA rfl) rfl (aA rfl) rfl c28 ?_
    refine tr1 rfl (bW (v := .d (.lit (.bool true))) (aA rfl) rfl c28 rfl rfl) ?_
    have h11 := Option.some.inj h11
    subst h11
    refine aF (bB rfl ⟨rfl, rfl, rfl, rfl, rfl, rfl, rfl, trivial⟩ rfl)
   ·have h11 := aT c28 h11
    refine aP rfl rfl (aA rfl) rfl c28 (aD (v := .d (.sl 5 (r6.map aB))) (aA rfl) rfl rfl) ?_
    refine aP rfl rfl (aA rfl) rfl c28 (dB (aA rfl) rfl bP.of) ?_
    refine aP rfl rfl (aA rfl) rfl c28 (bC (aA rfl) rfl rfl rfl) ?_
    refine tr1 rfl (bT (v := .d (.lit (.bool ((decide ((r6.length : Int) = 0)))))) (aA rfl) rfl c28 rfl rfl) ?_
    have h11 := Option.some.inj h11
    subst h11
    refine aF (bB rfl ⟨rfl, rfl, rfl, rfl, rfl, rfl, rfl, trivial⟩ rfl)
  ·refine aF ?_
   refine bH rfl (fun c12 => ?_) (fun c12 => ?_)
   ·have h := aU c12 h
    refine cQ ?_
    refine .inl ⟨rfl, ?_⟩
    simp only [jW] at h
    refine aE ?_
    refine tr1 rfl (aZ (aA rfl) rfl rfl rfl) ?_
    refine tr1 rfl (aD (v := .d (.lit (.int .i64 ((w64 (t19_0_2 + 1)))))) (aA rfl) rfl rfl) ?_
    refine aF ?_
    exact ⟨(w64 (t19_0_2 + 1), lines_0_2, w3), h, aX [0] rfl rfl (aO rfl (aO rfl (aY ⟨rfl, rfl, rfl, trivial⟩)))⟩
   ·have h := aT c12 h
    refine bE ?_
    refine aG ?_
    refine aE ?_
    refine tr1 rfl (aD (v := .d (.lit (.int .i64 t19_0_2))) (aA rfl) rfl rfl) ?_
    refine tr1 rfl (aD (v := .cp [.lit (.int .i64 b_0.Ledger.Players), .lit (.int .i64 b_0.Ledger.Counts), .sl 5 (b_0.Ledger.Reports.map aB), .sl 3 (b_0.Ledger.Bans.map aH), .sl 3 (b_0.Ledger.Frozen.map aH)]) (aA rfl) rfl rfl) ?_
    refine tr1 rfl (aD (v := .d (.sl 5 (r6.map aB))) (aA rfl) rfl rfl) ?_
    obtain ⟨r13, h14, h⟩ := bind_some h
    refine tr1 rfl (jZ (aA rfl) (.func _ _ Try.call71) rfl rfl (tN _ _ h14)) ?_
    obtain ⟨r15, h16, h⟩ := bind_some h
    refine tr1 rfl (cC (aA rfl) (.func _ _ Try.call86) rfl rfl (BVs.refl _ _) (aAl _ h16) rfl) ?_
    refine tr1 rfl (aD (v := .d (.sl 5 (r6.map aB))) (aA rfl) rfl rfl) ?_
    refine tr1 rfl (dB (aA rfl) rfl bP.of) ?_
    refine tr1 rfl (iB (aA rfl) aIh (zs := [.lit (.int .i64 0), .lit (.int .i64 0), .lit (.int .i64 0), .lit (.int .i64 0)]) rfl rfl rfl rfl (es := [.lit (.int .i64 t19_0_2), .lit (.int .i64 r15), .lit (.int .i64 0), .lit (.int .i64 ((r6.length : Int)))]) rfl) ?_
    refine bR rfl (fF (zs := [.lit (.int .i64 0), .lit (.int .i64 0), .lit (.int .i64 0), .lit (.int .i64 0)]) (aA rfl) Try.zeroValue114 rfl rfl) ?_
    rintro _ ⟨b17, rfl⟩
    refine tr1 rfl (bO (i := 1) rfl rfl rfl rfl rfl Try.sizeOf114 rfl (aA rfl) (Nat.le_of_ble_eq_true rfl) (ds' := (bL (bA.mk t19_0_2 r15 0 (r6.length : Int)))) rfl) ?_
    refine aF ?_
    refine aG ?_
    refine aG ?_
    refine aE ?_
    refine tr1 rfl (aD (v := .d (.sl 5 (r6.map aB))) (aA rfl) rfl rfl) ?_
    refine tr1 rfl (dB (aA rfl) rfl bP.of) ?_
    refine tr1 rfl (aD (v := .d (.lit (.int .i64 0))) (aA rfl) rfl rfl) ?_
    refine aF ?_
    refine bQ ?_
    refine cH [0, 1, 5, 8, 18, 19, 47, 48] (fun (s18 : Int × bA) => [(49, .d (.lit (.int .i64 s18.1)))]) (fun (s18 : Int × bA) => [.arr w3 114 4 (lines_0_2.map bL), .box b17 0 (bL s18.2)]) (fun (k : Nat) (s18 : Int × bA) => gV (fD b_0 week_1 b_0.Ledger.Players k4) b_0 week_1 b_0.Ledger.Players t19_0_2 r6 (r6.length : Int) lines_0_2 k s18.1 s18.2) (fun _ => rfl) (0, (bA.mk t19_0_2 r15 0 (r6.length : Int))) h (aX [0, 1] rfl rfl (aO rfl (aY ⟨rfl, rfl, rfl, rfl, rfl, rfl, rfl, rfl, trivial⟩))) ?_
    rintro k19 ⟨t49_2_18, x_2_18⟩ h
    simp only [gV] at h
    refine aG ?_
    refine aE ?_
    refine tr1 rfl (bC (aA rfl) rfl rfl rfl) ?_
    refine aF ?_
    refine aG ?_
    refine bH rfl (fun c20 => ?_) (fun c20 => ?_)
    ·have h := aU c20 h
     refine bE ?_
     refine aG ?_
     refine bQ ?_
     refine aG ?_
     refine aE ?_
     obtain ⟨x21, h22, h⟩ := bind_some h
     refine tr1 rfl (bY (aA rfl) rfl rfl bP.of (bN aB h22)) ?_
     refine tr1 rfl (eH (aA rfl) rfl dR (es := (aB x21)) rfl rfl) ?_
     refine bR rfl (fF (zs := [.lit (.int .i64 0), .lit (.int .i64 0), .lit (.int .i64 0), .lit (.int .i64 0), .lit (.bool false)]) (aA rfl) Try.zeroValue42 rfl rfl) ?_
     rintro _ ⟨b23, rfl⟩
     refine tr1 rfl (bO (i := 2) rfl rfl rfl rfl rfl Try.sizeOf42 rfl (aA rfl) (Nat.le_of_ble_eq_true rfl) (ds' := (aB x21)) rfl) ?_
     refine aF ?_
     refine aG ?_
     refine aE ?_
     refine tr1 rfl (aS (aA rfl) rfl qM) ?_
     refine tr1 rfl (aV (aA rfl) rfl (i := 2) rfl rfl tQ) ?_
     refine aF ?_
     refine bH rfl (fun c24 => ?_) (fun c24 => ?_)
     ·have h := aU c24 h
      refine aE ?_
      refine tr1 rfl (aS (aA rfl) rfl uX) ?_
      refine tr1 rfl (aV (aA rfl) rfl (i := 1) rfl rfl bM) ?_
      refine tr1 rfl (aS (aA rfl) rfl rZ) ?_
      refine tr1 rfl (aV (aA rfl) rfl (i := 2) rfl rfl bM) ?_
      refine tr1 rfl (aZ (aA rfl) rfl rfl rfl) ?_
      refine tr1 rfl (aS (aA rfl) rfl uX) ?_
      refine tr1 rfl (bO (i := 1) rfl rfl rfl rfl rfl Try.sizeOf3 rfl (aA rfl) (Nat.le_of_ble_eq_true rfl) (ds' := (bL (bA.mk x_2_18.player x_2_18.points (w64 (x_2_18.musts + x21.Points)) x_2_18.many))) rfl) ?_
      refine eC ?_
      refine aE ?_
      refine tr1 rfl (aZ (aA rfl) rfl rfl rfl) ?_
      refine tr1 rfl (aD (v := .d (.lit (.int .i64 ((w64 (t49_2_18 + 1)))))) (aA rfl) rfl rfl) ?_
      refine aF ?_
      exact ⟨(w64 (t49_2_18 + 1), (bA.mk x_2_18.player x_2_18.points (w64 (x_2_18.musts + x21.Points)) x_2_18.many)), h, aX [0, 1] rfl rfl (aO rfl (aY ⟨rfl, rfl, rfl, rfl, rfl, rfl, rfl, rfl, trivial⟩))⟩
     ·have h := aT c24 h
      refine eF ?_
      refine aE ?_
      refine tr1 rfl (aZ (aA rfl) rfl rfl rfl) ?_
      refine tr1 rfl (aD (v := .d (.lit (.int .i64 ((w64 (t49_2_18 + 1)))))) (aA rfl) rfl rfl) ?_
      refine aF ?_
      exact ⟨(w64 (t49_2_18 + 1), x_2_18), h, aX [0, 1] rfl rfl (aO rfl (aY ⟨rfl, rfl, rfl, rfl, rfl, rfl, rfl, rfl, trivial⟩))⟩
    ·have h := aT c20 h
     refine cQ ?_
     refine .inl ⟨rfl, ?_⟩
     simp only [nK] at h
     refine aE ?_
     refine tr1 rfl (aD (v := .d (.lit w3)) (aA rfl) rfl rfl) ?_
     refine tr1 rfl (cS (aA rfl) rfl (i := 1) rfl tT (es := (bL x_2_18)) rfl rfl) ?_
     refine tr1 rfl (jJ (aA rfl) pA rfl rfl (rows := ([x_2_18]).map bL) rfl (cY (f := bL) fun _ => rfl) rfl (by decide)) ?_
     obtain ⟨x25, h26, h⟩ := bind_some h
     refine bR rfl (kA (i := 0) (aA rfl) pA rfl rfl rfl (fun _ => rfl) h26 rfl) ?_
     rintro _ ⟨v27, rfl⟩
     refine tr1 rfl (aJ (v := .d (.lit v27)) (aA rfl) rfl rfl) ?_
     refine eC ?_
     simp only [jW] at h
     refine aE ?_
     refine tr1 rfl (aZ (aA rfl) rfl rfl rfl) ?_
     refine tr1 rfl (aD (v := .d (.lit (.int .i64 ((w64 (t19_0_2 + 1)))))) (aA rfl) rfl rfl) ?_
     refine aF ?_
     exact ⟨(w64 (t19_0_2 + 1), x25, v27), h, aX [0] rfl rfl (aO rfl (aO rfl (aY ⟨rfl, rfl, rfl, trivial⟩)))⟩
 ·have h := aT c5 h
  refine cQ ?_
  refine .inl ⟨rfl, ?_⟩
  simp only [lM] at h
  refine aG ?_
  refine aE ?_
  refine tr1 rfl (aD (v := .d (.lit w3)) (aA rfl) rfl rfl) ?_
  obtain ⟨r31, h32, h⟩ := bind_some h
  refine bR rfl (dQ (passed := [.arr w3 114 4 (lines_0_2.map bL)]) (aA rfl) rfl (.func _ _ Try.call87) rfl rfl (tB lines_0_2 (fun y29 y30 => jY y29 y30) 88 [] Try.call88 (fun _ _ _ h => xJ _ _ h) h32)) ?_
  rintro _ ⟨_, _, ⟨rfl, rfl⟩, rfl⟩
  refine aF ?_
  refine aG ?_
  refine aE ?_
  refine tr1 rfl (iL 3 1 (.inl rfl) (aA rfl)) ?_
  refine aF ?_
  refine aG ?_
  refine aG ?_
  refine aE ?_
  refine tr1 rfl (aD (v := .d (.lit w3)) (aA rfl) rfl rfl) ?_
  refine tr1 rfl (lR (m := 0) (aA rfl) rfl rfl pA.of) ?_
  refine tr1 rfl (aD (v := .d (.lit (.int .i64 0))) (aA rfl) rfl rfl) ?_
  refine aF ?_
  refine bQ ?_
  refine cH [69, 70] (fun (s34 : Int × (List Int) × Value) => [(11, .d (.lit s34.2.2)), (71, .d (.lit (.int .i64 s34.1)))]) (fun (s34 : Int × (List Int) × Value) => [.arr w3 114 4 (r31.map bL), .arr s34.2.2 3 1 (s34.2.1.map cL)]) (fun (k : Nat) (s34 : Int × (List Int) × Value) => iT (r31.length : Int) r31 k s34.1 s34.2.1) (fun _ => rfl) (0, ([] : List Int), (.slice none 0 0)) h (aX [0, 1] rfl rfl (aO rfl (aO rfl (aY ⟨rfl, rfl, trivial⟩)))) ?_
  rintro k36 ⟨t71_4_34, out_4_34, w35⟩ h
  simp only [iT] at h
  refine aG ?_
  refine aE ?_
  refine tr1 rfl (bC (aA rfl) rfl rfl rfl) ?_
  refine aF ?_
  refine aG ?_
  refine bH rfl (fun c37 => ?_) (fun c37 => ?_)
  ·have h := aU c37 h
   refine bE ?_
   refine aG ?_
   refine bQ ?_
   refine aG ?_
   refine aE ?_
   obtain ⟨x38, h39, h⟩ := bind_some h
   refine tr1 rfl (cE (m := 0) (aA rfl) rfl rfl rfl pA.of (bN bL h39)) ?_
   refine tr1 rfl (dG (aA rfl) rfl (l := 0) rfl (eA bL h39) tT (es := (bL x38)) rfl rfl) ?_
   refine bR rfl (fF (zs := [.lit (.int .i64 0), .lit (.int .i64 0), .lit (.int .i64 0), .lit (.int .i64 0)]) (aA rfl) Try.zeroValue114 rfl rfl) ?_
   rintro _ ⟨b40, rfl⟩
   refine tr1 rfl (bO (i := 2) rfl rfl rfl rfl rfl Try.sizeOf114 rfl (aA rfl) (Nat.le_of_ble_eq_true rfl) (ds' := (bL x38)) rfl) ?_
   refine aF ?_
   refine aE ?_
   refine tr1 rfl (aD (v := .d (.lit w35)) (aA rfl) rfl rfl) ?_
   refine tr1 rfl (aS (aA rfl) rfl xR) ?_
   refine tr1 rfl (aV (aA rfl) rfl (i := 2) rfl rfl bM) ?_
   refine tr1 rfl (jJ (aA rfl) fL rfl rfl (rows := ([x38.player]).map cL) rfl (cY (f := cL) fun _ => rfl) rfl (by decide)) ?_
   obtain ⟨x41, h42, h⟩ := bind_some h
   refine bR rfl (kA (i := 1) (aA rfl) fL rfl rfl rfl (fun _ => rfl) h42 rfl) ?_
   rintro _ ⟨v43, rfl⟩
   refine tr1 rfl (aJ (v := .d (.lit v43)) (aA rfl) rfl rfl) ?_
   refine eC ?_
   refine aE ?_
   refine tr1 rfl (aZ (aA rfl) rfl rfl rfl) ?_
   refine tr1 rfl (aD (v := .d (.lit (.int .i64 ((w64 (t71_4_34 + 1)))))) (aA rfl) rfl rfl) ?_
   refine aF ?_
   exact ⟨(w64 (t71_4_34 + 1), x41, v43), h, aX [0, 1] rfl rfl (aO rfl (aO rfl (aY ⟨rfl, rfl, trivial⟩)))⟩
  ·have h := aT c37 h
   refine cQ ?_
   refine .inl ⟨rfl, ?_⟩
   simp only [pR] at h
   refine aG ?_
   refine aE ?_
   refine tr1 rfl (aD (v := .d (.lit w35)) (aA rfl) rfl rfl) ?_
   refine tr1 rfl (aJ (v := .d (.lit w35)) (aA rfl) rfl rfl) ?_
   refine aF ?_
   have h := Option.some.inj h
   subst h
   refine cR (cJ (jK (k := 4) (v := .d (.sl 1 (out_4_34.map cL))) (.d (jP 1 rfl (cY (f := cL) fun _ => rfl))) (yO))) ?_
   exact bI ⟨rfl, _, .one _, rfl, rfl⟩

theorem aDr (l_0 : aM) (week_1 : Int) {r : (List Int) × Int} (h : xZ l_0 week_1 = some r) : Fn Try.prog 27 [.agg (aN l_0), .d (.lit (.int .i64 week_1))] (.tup [.d (.sl 1 (r.1.map cL)), .d (.lit (.int .i64 r.2))]) := by
 unfold xZ at h
 refine Fn.of_tr Try.func27 rfl (rs := [.tmp 4, .tmp 5]) Try.results27 Try.ntmps27 (Nat.le_of_ble_eq_true rfl) ?_
 refine aG ?_
 refine aE ?_
 refine bR rfl (fX (v := .agg (aN l_0)) (aA rfl) rfl rfl rfl) ?_
 rintro _ ⟨b1, rfl⟩
 refine tr1 rfl (sO 1 (aA rfl)) ?_
 refine tr1 rfl (aJ (v := .d (.lit (.int .i64 0))) (aA rfl) rfl rfl) ?_
 refine aF ?_
 refine aG ?_
 refine aE ?_
 refine tr1 rfl (cS (aA rfl) rfl (i := 0) rfl dZ (es := (aN l_0)) rfl rfl) ?_
 refine tr1 rfl (aD (v := .d (.lit (.int .i64 week_1))) (aA rfl) rfl rfl) ?_
 obtain ⟨r2, h3, h⟩ := bind_some h
 refine bR rfl (dQ (passed := []) (aA rfl) rfl (.func _ _ Try.call44) rfl rfl (wV _ _ _ h3)) ?_
 rintro _ ⟨_, _, ⟨b5, w6, rfl, rfl⟩, rfl⟩
 obtain ⟨_ | y4, e7⟩ := r2
 ·have h := aAg h
  refine gJ (aX [0] rfl rfl (le_refl _)) ?_
  refine tr1 rfl (aD (v := .tup [.d (.lit (.pointer none)), .d (.lit (.int .i64 e7))]) (aA rfl) rfl rfl) ?_
  refine tr1 rfl (dD (aA rfl) rfl rfl) ?_
  refine tr1 rfl (dD (aA rfl) rfl rfl) ?_
  refine tr1 rfl (aJ (v := .d (.lit (.pointer none))) (aA rfl) rfl rfl) ?_
  refine tr1 rfl (aJ (v := .d (.lit (.int .i64 e7))) (aA rfl) rfl rfl) ?_
  refine aF ?_
  refine aG ?_
  refine aG ?_
  refine aE ?_
  refine tr1 rfl (aD (v := .d (.lit (.int .i64 e7))) (aA rfl) rfl rfl) ?_
  refine tr1 rfl (bC (aA rfl) rfl rfl rfl) ?_
  refine aF ?_
  refine bH rfl (fun c8 => ?_) (fun c8 => ?_)
  ·have h := aU c8 h
   refine aG ?_
   refine aE ?_
   refine tr1 rfl (aD (v := .d (.lit (.int .i64 e7))) (aA rfl) rfl rfl) ?_
   refine tr1 rfl (sO 1 (aA rfl)) ?_
   refine tr1 rfl (aJ (v := .d (.lit (.int .i64 e7))) (aA rfl) rfl rfl) ?_
   refine aF ?_
   have h := Option.some.inj h
   subst h
   refine cR (cJ (cP (l := [4, 5]) ⟨rfl, rfl, trivial⟩)) ?_
   exact bI ⟨rfl, _, .two _ _, rfl, rfl⟩
  ·have h := aT c8 h
   refine bE ?_
   refine aG ?_
   refine aE ?_
   refine tr1 rfl (aD (v := .d (.lit (.pointer none))) (aA rfl) rfl rfl) ?_
   refine tr1 rfl (aD (v := .d (.lit (.int .i64 week_1))) (aA rfl) rfl rfl) ?_
   cases h
 ·have h := aAh h
  refine gJ (aX [0, 1, 2] rfl rfl (le_refl _)) ?_
  refine tr1 rfl (aD (v := .tup [.bp b5 0 0, .d (.lit (.int .i64 e7))]) (aA rfl) rfl rfl) ?_
  refine tr1 rfl (dD (aA rfl) rfl rfl) ?_
  refine tr1 rfl (dD (aA rfl) rfl rfl) ?_
  refine tr1 rfl (aJ (v := .bp b5 0 0) (aA rfl) rfl rfl) ?_
  refine tr1 rfl (aJ (v := .d (.lit (.int .i64 e7))) (aA rfl) rfl rfl) ?_
  refine aF ?_
  refine aG ?_
  refine aG ?_
  refine aE ?_
  refine tr1 rfl (aD (v := .d (.lit (.int .i64 e7))) (aA rfl) rfl rfl) ?_
  refine tr1 rfl (bC (aA rfl) rfl rfl rfl) ?_
  refine aF ?_
  refine bH rfl (fun c9 => ?_) (fun c9 => ?_)
  ·have h := aU c9 h
   refine aG ?_
   refine aE ?_
   refine tr1 rfl (aD (v := .d (.lit (.int .i64 e7))) (aA rfl) rfl rfl) ?_
   refine tr1 rfl (sO 1 (aA rfl)) ?_
   refine tr1 rfl (aJ (v := .d (.lit (.int .i64 e7))) (aA rfl) rfl rfl) ?_
   refine aF ?_
   have h := Option.some.inj h
   subst h
   refine cR (cJ (cP (l := [4, 5]) ⟨rfl, rfl, trivial⟩)) ?_
   exact bI ⟨rfl, _, .two _ _, rfl, rfl⟩
  ·have h := aT c9 h
   refine bE ?_
   refine aG ?_
   refine aE ?_
   refine tr1 rfl (aD (v := .bp b5 0 0) (aA rfl) rfl rfl) ?_
   refine tr1 rfl (aD (v := .d (.lit (.int .i64 week_1))) (aA rfl) rfl rfl) ?_
   refine gJ (aX [2, 0, 1] rfl rfl (le_refl _)) ?_
   apply aEs [.box b1 0 (aN l_0)] [.box b5 0 [.lit (.int .i64 y4.Ledger.Players), .lit (.int .i64 y4.Ledger.Counts), .lit w6, .sl 3 (y4.Ledger.Bans.map aH), .sl 3 (y4.Ledger.Frozen.map aH)], .arr w6 42 5 (y4.Ledger.Reports.map aB)] rfl
   exact jK (k := 17) (v := .cp [.lit (.int .i64 y4.Ledger.Players), .lit (.int .i64 y4.Ledger.Counts), .sl 5 (y4.Ledger.Reports.map aB), .sl 3 (y4.Ledger.Bans.map aH), .sl 3 (y4.Ledger.Frozen.map aH)]) ((qD 0 rfl rfl (dvc (.same _) (dvc (.same _) (dvc (jP 1 rfl (cY (f := aB) fun _ => rfl)) (dvc (.same _) (dvc (.same _) dvn))))))) (jK (k := 12) (v := .cp [.lit (.int .i64 y4.Ledger.Players), .lit (.int .i64 y4.Ledger.Counts), .sl 5 (y4.Ledger.Reports.map aB), .sl 3 (y4.Ledger.Bans.map aH), .sl 3 (y4.Ledger.Frozen.map aH)]) ((qD 0 rfl rfl (dvc (.same _) (dvc (.same _) (dvc (jP 1 rfl (cY (f := aB) fun _ => rfl)) (dvc (.same _) (dvc (.same _) dvn))))))) (jK (k := 11) (v := .any) (.any _) (jK (k := 8) (v := .any) (.any _) (jK (k := 6) (v := .cp [.lit (.int .i64 y4.Ledger.Players), .lit (.int .i64 y4.Ledger.Counts), .sl 5 (y4.Ledger.Reports.map aB), .sl 3 (y4.Ledger.Bans.map aH), .sl 3 (y4.Ledger.Frozen.map aH)]) ((qD 0 rfl rfl (dvc (.same _) (dvc (.same _) (dvc (jP 1 rfl (cY (f := aB) fun _ => rfl)) (dvc (.same _) (dvc (.same _) dvn))))))) (qJ _ _)))))
   obtain ⟨r10, h11, h⟩ := bind_some h
   refine tr1 rfl (jZ (aA rfl) (.func _ _ Try.call59) rfl rfl (uM _ _ h11)) ?_
   refine tr1 rfl (aJ (v := .d (.sl 1 (r10.map cL))) (aA rfl) rfl rfl) ?_
   refine tr1 rfl (aJ (v := .d (.lit (.int .i64 0))) (aA rfl) rfl rfl) ?_
   refine aF ?_
   have h := Option.some.inj h
   subst h
   refine cR (cJ (cP (l := [4, 5]) ⟨rfl, rfl, trivial⟩)) ?_
   exact bI ⟨rfl, _, .two _ _, rfl, rfl⟩

theorem vR (s_0 : List Int) (f_1 : Int → Option Bool) {r : Int} (f_1_f : Nat) (f_1_v : List AV) (f_1_e : ∀ args w, (callFunc f_1_f args).run Try.prog w = .ok (.enter f_1_f args) w) (f_1_h : ∀ (x0 : Int) r, f_1 x0 = some r → Fn Try.prog f_1_f ([.d (.lit (.int .i64 x0))] ++ f_1_v) (.d (.lit (.bool r)))) (h : nW s_0 f_1 = some r) : Fn Try.prog 81 [.d (.sl 1 (s_0.map cL)), .fn f_1_f f_1_v] (.d (.lit (.int .i64 r))) := by
 unfold nW at h
 refine Fn.of_tr Try.func81 rfl (rs := [.tmp 4]) Try.results81 Try.ntmps81 (Nat.le_of_ble_eq_true rfl) ?_
 refine aG ?_
 refine aE ?_
 refine tr1 rfl (aJ (v := .d (.lit (.int .i64 0))) (aA rfl) rfl rfl) ?_
 refine aF ?_
 refine aG ?_
 refine aG ?_
 refine aE ?_
 refine tr1 rfl (aD (v := .d (.sl 1 (s_0.map cL))) (aA rfl) rfl rfl) ?_
 refine tr1 rfl (dB (aA rfl) rfl fL.of) ?_
 refine tr1 rfl (aD (v := .d (.lit (.int .i64 0))) (aA rfl) rfl rfl) ?_
 refine aF ?_
 refine bQ ?_
 refine cH [0, 1, 7] (fun (s1 : Int) => [(8, .d (.lit (.int .i64 s1)))]) (fun (s1 : Int) => []) (fun (k : Nat) (s1 : Int) => kE s_0 f_1 (s_0.length : Int) k s1) (fun _ => rfl) (0) h (aX [] rfl rfl (aO rfl (aY ⟨rfl, rfl, rfl, trivial⟩))) ?_
 rintro k2 t8_0_1 h
 simp only [kE] at h
 refine aG ?_
 refine aE ?_
 refine tr1 rfl (bC (aA rfl) rfl rfl rfl) ?_
 refine aF ?_
 refine aG ?_
 refine bH rfl (fun c3 => ?_) (fun c3 => ?_)
 ·have h := aU c3 h
  refine bE ?_
  refine aG ?_
  refine bQ ?_
  refine aG ?_
  refine aE ?_
  refine tr1 rfl (aD (v := .d (.lit (.int .i64 t8_0_1))) (aA rfl) rfl rfl) ?_
  refine tr1 rfl (aJ (v := .d (.lit (.int .i64 t8_0_1))) (aA rfl) rfl rfl) ?_
  refine aF ?_
  refine aG ?_
  refine aE ?_
  refine tr1 rfl (aD (v := .fn f_1_f f_1_v) (aA rfl) rfl rfl) ?_
  refine tr1 rfl (aD (v := .d (.sl 1 (s_0.map cL))) (aA rfl) rfl rfl) ?_
  refine tr1 rfl (aD (v := .d (.lit (.int .i64 t8_0_1))) (aA rfl) rfl rfl) ?_
  obtain ⟨x4, h5, h⟩ := bind_some h
  refine tr1 rfl (bY (aA rfl) rfl rfl fL.of (bN cL h5)) ?_
  refine tr1 rfl (cK (aA rfl) rfl bM) ?_
  obtain ⟨r6, h7, h⟩ := bind_some h
  refine tr1 rfl (cC (aA rfl) (.clo _ _ _ _ f_1_e rfl) (uB rfl) rfl (BVs.refl _ _) (f_1_h _ _  h7) rfl) ?_
  refine aF ?_
  refine bH rfl (fun c8 => ?_) (fun c8 => ?_)
  ·have h := aU c8 h
   refine aG ?_
   refine aE ?_
   refine tr1 rfl (aD (v := .d (.lit (.int .i64 t8_0_1))) (aA rfl) rfl rfl) ?_
   refine tr1 rfl (aJ (v := .d (.lit (.int .i64 t8_0_1))) (aA rfl) rfl rfl) ?_
   refine aF ?_
   have h := Option.some.inj h
   subst h
   exact bI ⟨rfl, _, .one _, rfl, rfl⟩
  ·have h := aT c8 h
   refine eF ?_
   refine aE ?_
   refine tr1 rfl (aZ (aA rfl) rfl rfl rfl) ?_
   refine tr1 rfl (aD (v := .d (.lit (.int .i64 ((w64 (t8_0_1 + 1)))))) (aA rfl) rfl rfl) ?_
   refine aF ?_
   exact ⟨(w64 (t8_0_1 + 1)), h, aX [] rfl rfl (aO rfl (aY ⟨rfl, rfl, rfl, trivial⟩))⟩
 ·have h := aT c3 h
  refine cQ ?_
  refine .inl ⟨rfl, ?_⟩
  simp only [pO] at h
  refine aG ?_
  refine aE ?_
  refine tr1 rfl (aJ (v := .d (.lit (.int .i64 (-1)))) (aA rfl) rfl rfl) ?_
  refine aF ?_
  have h := Option.some.inj h
  subst h
  exact bI ⟨rfl, _, .one _, rfl, rfl⟩

theorem oS (s_0 : List Int) (f_1 : Int → Option Bool) {r : Bool} (f_1_f : Nat) (f_1_v : List AV) (f_1_e : ∀ args w, (callFunc f_1_f args).run Try.prog w = .ok (.enter f_1_f args) w) (f_1_h : ∀ (x0 : Int) r, f_1 x0 = some r → Fn Try.prog f_1_f ([.d (.lit (.int .i64 x0))] ++ f_1_v) (.d (.lit (.bool r)))) (h : kD s_0 f_1 = some r) : Fn Try.prog 45 [.d (.sl 1 (s_0.map cL)), .fn f_1_f f_1_v] (.d (.lit (.bool r))) := by
 unfold kD at h
 refine Fn.of_tr Try.func45 rfl (rs := [.tmp 4]) Try.results45 Try.ntmps45 (Nat.le_of_ble_eq_true rfl) ?_
 refine aG ?_
 refine aE ?_
 refine tr1 rfl (aJ (v := .d (.lit (.bool false))) (aA rfl) rfl rfl) ?_
 refine aF ?_
 refine aG ?_
 refine aE ?_
 refine tr1 rfl (aD (v := .d (.sl 1 (s_0.map cL))) (aA rfl) rfl rfl) ?_
 refine tr1 rfl (aD (v := .fn f_1_f f_1_v) (aA rfl) rfl rfl) ?_
 obtain ⟨r1, h2, h⟩ := bind_some h
 refine tr1 rfl (cC (aA rfl) (.func _ _ Try.call81) rfl rfl (BVs.refl _ _) (vR _ _ f_1_f f_1_v f_1_e f_1_h h2) rfl) ?_
 refine tr1 rfl (bC (aA rfl) rfl rfl rfl) ?_
 refine tr1 rfl (aJ (v := .d (.lit (.bool ((decide (0 ≤ r1)))))) (aA rfl) rfl rfl) ?_
 refine aF ?_
 have h := Option.some.inj h
 subst h
 exact bI ⟨rfl, _, .one _, rfl, rfl⟩

theorem wH (n_0 : Int) {r : Bool} (h : rI n_0 = some r) : Fn Try.prog 46 [.d (.lit (.int .i64 n_0))] (.d (.lit (.bool r))) := by
 unfold rI at h
 refine Fn.of_tr Try.func46 rfl (rs := [.tmp 2]) Try.results46 Try.ntmps46 (Nat.le_of_ble_eq_true rfl) ?_
 refine aG ?_
 refine aE ?_
 refine tr1 rfl (aJ (v := .d (.lit (.bool false))) (aA rfl) rfl rfl) ?_
 refine aF ?_
 refine aG ?_
 refine aE ?_
 refine tr1 rfl (aD (v := .d (.lit (.int .i64 n_0))) (aA rfl) rfl rfl) ?_
 obtain ⟨r1, h2, h⟩ := bind_some h
 refine tr1 rfl (cC (aA rfl) (.func _ _ Try.call47) rfl rfl (BVs.refl _ _) (eY _ _ _ h2) rfl) ?_
 refine tr1 rfl (fO (aA rfl) rfl) ?_
 refine tr1 rfl (aJ (v := .d (.lit (.bool (!r1)))) (aA rfl) rfl rfl) ?_
 refine aF ?_
 have h := Option.some.inj h
 subst h
 exact bI ⟨rfl, _, .one _, rfl, rfl⟩

theorem yI (s_0 : List Int) (v_1 : Int) {r : Int} (h : qT s_0 v_1 = some r) : Fn Try.prog 85 [.d (.sl 1 (s_0.map cL)), .d (.lit (.int .i64 v_1))] (.d (.lit (.int .i64 r))) := by
 unfold qT at h
 refine Fn.of_tr Try.func85 rfl (rs := [.tmp 4]) Try.results85 Try.ntmps85 (Nat.le_of_ble_eq_true rfl) ?_
 refine aG ?_
 refine aE ?_
 refine tr1 rfl (aJ (v := .d (.lit (.int .i64 0))) (aA rfl) rfl rfl) ?_
 refine aF ?_
 refine aG ?_
 refine aG ?_
 refine aE ?_
 refine tr1 rfl (aD (v := .d (.sl 1 (s_0.map cL))) (aA rfl) rfl rfl) ?_
 refine tr1 rfl (dB (aA rfl) rfl fL.of) ?_
 refine tr1 rfl (aD (v := .d (.lit (.int .i64 0))) (aA rfl) rfl rfl) ?_
 refine aF ?_
 refine bQ ?_
 refine cH [0, 1, 7] (fun (s1 : Int) => [(8, .d (.lit (.int .i64 s1)))]) (fun (s1 : Int) => []) (fun (k : Nat) (s1 : Int) => mG s_0 v_1 (s_0.length : Int) k s1) (fun _ => rfl) (0) h (aX [] rfl rfl (aO rfl (aY ⟨rfl, rfl, rfl, trivial⟩))) ?_
 rintro k2 t8_0_1 h
 simp only [mG] at h
 refine aG ?_
 refine aE ?_
 refine tr1 rfl (bC (aA rfl) rfl rfl rfl) ?_
 refine aF ?_
 refine aG ?_
 refine bH rfl (fun c3 => ?_) (fun c3 => ?_)
 ·have h := aU c3 h
  refine bE ?_
  refine aG ?_
  refine bQ ?_
  refine aG ?_
  refine aE ?_
  refine tr1 rfl (aD (v := .d (.lit (.int .i64 t8_0_1))) (aA rfl) rfl rfl) ?_
  refine tr1 rfl (aJ (v := .d (.lit (.int .i64 t8_0_1))) (aA rfl) rfl rfl) ?_
  refine aF ?_
  refine aG ?_
  refine aE ?_
  refine tr1 rfl (aD (v := .d (.lit (.int .i64 v_1))) (aA rfl) rfl rfl) ?_
  refine tr1 rfl (aD (v := .d (.sl 1 (s_0.map cL))) (aA rfl) rfl rfl) ?_
  refine tr1 rfl (aD (v := .d (.lit (.int .i64 t8_0_1))) (aA rfl) rfl rfl) ?_
  obtain ⟨x4, h5, h⟩ := bind_some h
  refine tr1 rfl (bY (aA rfl) rfl rfl fL.of (bN cL h5)) ?_
  refine tr1 rfl (cK (aA rfl) rfl bM) ?_
  refine tr1 rfl (bC (aA rfl) rfl rfl rfl) ?_
  refine aF ?_
  refine bH rfl (fun c6 => ?_) (fun c6 => ?_)
  ·have h := aU c6 h
   refine aG ?_
   refine aE ?_
   refine tr1 rfl (aD (v := .d (.lit (.int .i64 t8_0_1))) (aA rfl) rfl rfl) ?_
   refine tr1 rfl (aJ (v := .d (.lit (.int .i64 t8_0_1))) (aA rfl) rfl rfl) ?_
   refine aF ?_
   have h := Option.some.inj h
   subst h
   exact bI ⟨rfl, _, .one _, rfl, rfl⟩
  ·have h := aT c6 h
   refine eF ?_
   refine aE ?_
   refine tr1 rfl (aZ (aA rfl) rfl rfl rfl) ?_
   refine tr1 rfl (aD (v := .d (.lit (.int .i64 ((w64 (t8_0_1 + 1)))))) (aA rfl) rfl rfl) ?_
   refine aF ?_
   exact ⟨(w64 (t8_0_1 + 1)), h, aX [] rfl rfl (aO rfl (aY ⟨rfl, rfl, rfl, trivial⟩))⟩
 ·have h := aT c3 h
  refine cQ ?_
  refine .inl ⟨rfl, ?_⟩
  simp only [rX] at h
  refine aG ?_
  refine aE ?_
  refine tr1 rfl (aJ (v := .d (.lit (.int .i64 (-1)))) (aA rfl) rfl rfl) ?_
  refine aF ?_
  have h := Option.some.inj h
  subst h
  exact bI ⟨rfl, _, .one _, rfl, rfl⟩

theorem yT (b_0 : bX) (player_1 : Int) (week_2 : Int) {r : Int} (h : rK b_0 player_1 week_2 = some r) : Fn Try.prog 51 [.cp (cD b_0), .d (.lit (.int .i64 player_1)), .d (.lit (.int .i64 week_2))] (.d (.lit (.int .i64 r))) := by
 unfold rK at h
 refine Fn.of_tr Try.func51 rfl (rs := [.tmp 6]) Try.results51 Try.ntmps51 (Nat.le_of_ble_eq_true rfl) ?_
 refine aG ?_
 refine aE ?_
 refine tr1 rfl (aJ (v := .d (.lit (.int .i64 0))) (aA rfl) rfl rfl) ?_
 refine aF ?_
 refine aG ?_
 refine aE ?_
 refine tr1 rfl (aD (v := .cp [.lit (.int .i64 b_0.Ledger.Players), .lit (.int .i64 b_0.Ledger.Counts), .sl 5 (b_0.Ledger.Reports.map aB), .sl 3 (b_0.Ledger.Bans.map aH), .sl 3 (b_0.Ledger.Frozen.map aH)]) (aA rfl) rfl rfl) ?_
 refine tr1 rfl (aD (v := .d (.lit (.int .i64 week_2))) (aA rfl) rfl rfl) ?_
 obtain ⟨r1, h2, h⟩ := bind_some h
 refine tr1 rfl (jZ (aA rfl) (.func _ _ Try.call59) rfl rfl (uM _ _ h2)) ?_
 refine tr1 rfl (aD (v := .d (.lit (.int .i64 player_1))) (aA rfl) rfl rfl) ?_
 obtain ⟨r3, h4, h⟩ := bind_some h
 refine tr1 rfl (cC (aA rfl) (.func _ _ Try.call85) rfl rfl (BVs.refl _ _) (yI _ _ h4) rfl) ?_
 refine tr1 rfl (aZ (aA rfl) rfl rfl rfl) ?_
 refine tr1 rfl (aJ (v := .d (.lit (.int .i64 ((w64 (r3 + 1)))))) (aA rfl) rfl rfl) ?_
 refine aF ?_
 have h := Option.some.inj h
 subst h
 exact bI ⟨rfl, _, .one _, rfl, rfl⟩

theorem aBd (book : bX) (pl : Int) (wk : Int) (ms : Bool) (be : Int) (wo : Int) {r : Bool × Int × Int} {book_b book_o : Nat} {bb_b bb_o : Nat} {pl_b pl_o : Nat} {wk_b wk_o : Nat} {ms_b ms_o : Nat} {be_b be_o : Nat} {wo_b wo_o : Nat} (h : uJ book pl wk ms be wo = some r) : fQ Try.prog 50 [.bp bb_b bb_o 0, .bp pl_b pl_o 0, .bp wk_b wk_o 0, .bp ms_b ms_o 0, .bp be_b be_o 0, .bp wo_b wo_o 0] [.box book_b book_o (cD book), .box bb_b bb_o [gL book_b book_o 0], .box pl_b pl_o [.lit (.int .i64 pl)], .box wk_b wk_o [.lit (.int .i64 wk)], .box ms_b ms_o [.lit (.bool ms)], .box be_b be_o [.lit (.int .i64 be)], .box wo_b wo_o [.lit (.int .i64 wo)]] (fun r' o' => r' = .tup [] ∧ o' = [.box book_b book_o (cD book), .box bb_b bb_o [gL book_b book_o 0], .box pl_b pl_o [.lit (.int .i64 pl)], .box wk_b wk_o [.lit (.int .i64 wk)], .box ms_b ms_o [.lit (.bool r.1)], .box be_b be_o [.lit (.int .i64 r.2.1)], .box wo_b wo_o [.lit (.int .i64 r.2.2)]]) := by
 unfold uJ at h
 refine jC Try.func50 rfl (rs := []) Try.results50 Try.ntmps50 (Nat.le_of_ble_eq_true rfl) ?_
 refine aG ?_
 refine aE ?_
 refine tr1 rfl (sZ (i := 1) (aA rfl) rfl rfl rfl wD) ?_
 refine tr1 rfl (aV (aA rfl) rfl (i := 2) rfl rfl bM) ?_
 refine tr1 rfl (aV (aA rfl) rfl (i := 3) rfl rfl bM) ?_
 obtain ⟨r1, h2, h⟩ := bind_some h
 refine tr1 rfl (cC (aA rfl) (.func _ _ Try.call51) rfl rfl (.cons ((qD 0 rfl rfl (dvc (.same _) (dvc (.same _) (dvc (.same _) (dvc (.same _) (dvc (.same _) dvn))))))) (.cons (.same _) (.cons (.same _) .nil))) (yT _ _ _ h2) rfl) ?_
 refine tr1 rfl (aJ (v := .d (.lit (.int .i64 r1))) (aA rfl) rfl rfl) ?_
 refine aF ?_
 refine aG ?_
 refine aE ?_
 refine tr1 rfl (aV (aA rfl) rfl (i := 4) rfl rfl tQ) ?_
 refine tr1 rfl (aD (v := .d (.lit (.bool ms))) (aA rfl) rfl rfl) ?_
 obtain ⟨b3, h4, h⟩ := bind_some h
 refine cA 3 [3, 4, 5, 6] 15 b3 ?_ ?_
 ·refine bJ (ms) (fun c6 => ?_) (fun c6 => ?_)
  ·have h4 := aU c6 h4
   refine aR rfl rfl (aA rfl) rfl (aA rfl) rfl c6 ?_
   refine aR rfl rfl (aA rfl) rfl (aA rfl) rfl c6 ?_
   refine tr1 rfl (bW (v := .d (.lit (.bool true))) (aA rfl) rfl c6 rfl rfl) ?_
   have h4 := Option.some.inj h4
   subst h4
   refine aF (bB rfl ⟨rfl, rfl, rfl, rfl, trivial⟩ rfl)
  ·have h4 := aT c6 h4
   refine aP rfl rfl (aA rfl) rfl c6 (aD (v := .d (.lit (.int .i64 r1))) (aA rfl) rfl rfl) ?_
   refine aP rfl rfl (aA rfl) rfl c6 (bC (aA rfl) rfl rfl rfl) ?_
   refine tr1 rfl (bT (v := .d (.lit (.bool ((decide (r1 = 0)))))) (aA rfl) rfl c6 rfl rfl) ?_
   have h4 := Option.some.inj h4
   subst h4
   refine aF (bB rfl ⟨rfl, rfl, rfl, rfl, trivial⟩ rfl)
 ·refine tr1 rfl (bO (i := 4) rfl rfl rfl rfl rfl Try.sizeOf4 rfl (aA rfl) (Nat.le_of_ble_eq_true rfl) (ds' := [.lit (.bool b3)]) rfl) ?_
  refine aF ?_
  refine lC mix 7 [5] (fun X5 => [(21, .d (.lit (.int .i64 ((max wo r1)))))]) (fun X5 => [.box book_b book_o (cD book), .box bb_b bb_o [gL book_b book_o 0], .box pl_b pl_o [.lit (.int .i64 pl)], .box wk_b wk_o [.lit (.int .i64 wk)], .box ms_b ms_o [.lit (.bool b3)], .box be_b be_o [.lit (.int .i64 ((min be r1)))], .box wo_b wo_o [.lit (.int .i64 wo)]]) ?_ ?_
  ·refine ⟨0, fun X5 => [(16, 0, .d (.lit (.int .i64 be))), (17, 1, .d (.lit (.int .i64 r1))), (18, 2, .d (.lit (.int .i64 ((min be r1))))), (19, 3, .d (.lit (.int .i64 wo))), (20, 4, .d (.lit (.int .i64 r1))), (21, 5, .d (.lit (.int .i64 ((max wo r1)))))], fun X5 => [([], .box book_b book_o (cD book)), ([], .box bb_b bb_o [gL book_b book_o 0]), ([], .box pl_b pl_o [.lit (.int .i64 pl)]), ([], .box wk_b wk_o [.lit (.int .i64 wk)]), ([], .box ms_b ms_o [.lit (.bool b3)]), ([(6, .box be_b be_o [.lit (.int .i64 ((min be r1)))])], .box be_b be_o [.lit (.int .i64 be)]), ([], .box wo_b wo_o [.lit (.int .i64 wo)])], ?_, ?_⟩
   · exact ⟨by kernel_rfl, by kernel_rfl, by kernel_rfl, fun _ => by kernel_rfl, fun _ => by kernel_rfl, fun _ => by kernel_rfl, fun _ => rfl, [([], [6]), ([], [6]), ([0, 1], [6]), ([], []), ([], []), ([3, 4], []), ([2], [])], by kernel_rfl, ⟨fun X5 S hw hi hS => bG (X := X5) rfl (hw X5) rfl (aQ rfl (aV (aA rfl) (aI hS rfl) (i := 5) (og hS rfl rfl) rfl bM)),
      fun X5 S hw hi hS => bG (X := X5) rfl (hw X5) rfl (aQ rfl (aD (v := .d (.lit (.int .i64 r1))) (aA rfl) (aI hS rfl) rfl)),
      fun X5 S hw hi hS => bG (X := X5) rfl (hw X5) rfl (aQ rfl (aFf (aA rfl) (aI hS rfl) (aI hS rfl))),
      fun X5 S hw hi hS => bG (X := X5) rfl (hw X5) rfl (aQ rfl (aV (aA rfl) (aI hS rfl) (i := 6) (og hS rfl rfl) rfl bM)),
      fun X5 S hw hi hS => bG (X := X5) rfl (hw X5) rfl (aQ rfl (aD (v := .d (.lit (.int .i64 r1))) (aA rfl) (aI hS rfl) rfl)),
      fun X5 S hw hi hS => bG (X := X5) rfl (hw X5) rfl (aQ rfl (aCd (aA rfl) (aI hS rfl) (aI hS rfl))),
      fun X5 S hw hi hS => qY (X := X5) hS rfl rfl rfl (p := 5) rfl rfl (aQ rfl (bO (i := 5) (aI hS rfl) (og hS rfl rfl) (aI hS rfl) rfl rfl Try.sizeOf3 rfl (aA rfl) (Nat.le_of_ble_eq_true rfl) (ds' := [.lit (.int .i64 ((min be r1)))]) rfl)), trivial⟩⟩
   · exact fun X5 => dX (aO rfl (aY ⟨rfl, trivial⟩))
  ·intro X5
   refine tr1 rfl (bO (i := 6) rfl rfl rfl rfl rfl Try.sizeOf3 rfl (aA rfl) (Nat.le_of_ble_eq_true rfl) (ds' := [.lit (.int .i64 ((max wo r1)))]) rfl) ?_
   refine aF ?_
   have h := Option.some.inj h
   subst h
   exact ⟨_, [.box book_b book_o (cD book), .box bb_b bb_o [gL book_b book_o 0], .box pl_b pl_o [.lit (.int .i64 pl)], .box wk_b wk_o [.lit (.int .i64 wk)], .box ms_b ms_o [.lit (.bool b3)], .box be_b be_o [.lit (.int .i64 ((min be r1)))], .box wo_b wo_o [.lit (.int .i64 ((max wo r1)))]], [], _, .none, .refl _, .same _, rfl, rfl⟩

theorem yH (n_1 : Int) {r : (List Int)} (h : rQ n_1 = some r) : fQ Try.prog 102 [.d (.lit (.slice none 0 0)), .d (.lit (.int .i64 n_1))] [] (fun r' o' => ∃ (w0 : Value), r' = .d (.lit w0) ∧ o' = [.arr w0 3 1 (r.map cL)]) := by
 unfold rQ at h
 refine kQ Try.func102 rfl (rs := [.tmp 4]) Try.results102 Try.ntmps102 (Nat.le_of_ble_eq_true rfl) ?_
 refine cR (zW 3 1) ?_
 refine aG ?_
 refine aE ?_
 refine tr1 rfl (iL 3 1 (.inl rfl) (aA rfl)) ?_
 refine aF ?_
 refine aG ?_
 refine aG ?_
 refine aE ?_
 refine tr1 rfl (aD (v := .d (.lit (.int .i64 n_1))) (aA rfl) rfl rfl) ?_
 refine tr1 rfl (bC (aA rfl) rfl rfl rfl) ?_
 refine aF ?_
 refine bH rfl (fun c2 => ?_) (fun c2 => ?_)
 ·have h := aU c2 h
  cases h
 ·have h := aT c2 h
  refine bE ?_
  refine aG ?_
  refine aG ?_
  refine aE ?_
  refine tr1 rfl (aD (v := .d (.lit (.int .i64 n_1))) (aA rfl) rfl rfl) ?_
  refine tr1 rfl (aD (v := .d (.lit (.slice none 0 0))) (aA rfl) rfl rfl) ?_
  refine tr1 rfl (vG (aA rfl) rfl fL.of) ?_
  refine tr1 rfl (aD (v := .d (.lit (.slice none 0 0))) (aA rfl) rfl rfl) ?_
  refine tr1 rfl (vH (aA rfl) rfl fL.of) ?_
  refine tr1 rfl (aZ (aA rfl) rfl rfl rfl) ?_
  refine tr1 rfl (aZ (aA rfl) rfl rfl rfl) ?_
  refine tr1 rfl (aJ (v := .d (.lit (.int .i64 ((w64 (n_1 - (w64 (0 - 0)))))))) (aA rfl) rfl rfl) ?_
  refine aF ?_
  refine aG ?_
  refine aE ?_
  refine tr1 rfl (aD (v := .d (.lit (.int .i64 ((w64 (n_1 - (w64 (0 - 0)))))))) (aA rfl) rfl rfl) ?_
  refine tr1 rfl (bC (aA rfl) rfl rfl rfl) ?_
  refine aF ?_
  refine bH rfl (fun c3 => ?_) (fun c3 => ?_)
  ·have h := aU c3 h
   refine aE ?_
   refine tr1 rfl (aD (v := .d (.lit (.slice none 0 0))) (aA rfl) rfl rfl) ?_
   refine tr1 rfl (aD (v := .d (.lit (.slice none 0 0))) (aA rfl) rfl rfl) ?_
   refine tr1 rfl (vG (aA rfl) rfl fL.of) ?_
   obtain ⟨u4, h5, h⟩ := bind_some h
   refine tr1 rfl (nP (m := 0) (q := 0) (v := (.slice none 0 0)) (aA rfl) rfl rfl rfl rfl (vS h5) fL.of) ?_
   refine tr1 rfl (aD (v := .d (.lit (.int .i64 ((w64 (n_1 - (w64 (0 - 0)))))))) (aA rfl) rfl rfl) ?_
   obtain ⟨u6, h7, h⟩ := bind_some h
   refine bR rfl (aDf (i := 0) (aA rfl) fL rfl rfl rfl Try.underlying3 (wO h7).1 (wO h7).2 (by decide)) ?_
   rintro _ ⟨v8, rfl⟩
   refine tr1 rfl (aD (v := .d (.lit (.slice none 0 0))) (aA rfl) rfl rfl) ?_
   refine tr1 rfl (vH (aA rfl) rfl fL.of) ?_
   obtain ⟨u9, h10, h⟩ := bind_some h
   refine tr1 rfl (nP (m := 0) (q := 0) (v := v8) (aA rfl) rfl rfl rfl rfl (vS h10) fL.of) ?_
   refine tr1 rfl (aJ (v := .d (.lit (fG v8 0))) (aA rfl) rfl rfl) ?_
   refine aF ?_
   refine aG ?_
   refine aE ?_
   refine tr1 rfl (aD (v := .d (.lit (fG v8 0))) (aA rfl) rfl rfl) ?_
   refine tr1 rfl (aJ (v := .d (.lit (fG v8 0))) (aA rfl) rfl rfl) ?_
   refine aF ?_
   have h := Option.some.inj h
   subst h
   exact bI ⟨rfl, _, [.arr (fG v8 0) 3 1 (([] : List Int).map cL)], [.arr (.slice none 0 0) 3 1 (([] : List Int).map cL)], _, .one (.tmp 4 (v := .d (.lit (fG v8 0))) rfl), .refl _, .same _, (fG v8 0), rfl, rfl⟩
  ·have h := aT c3 h
   refine bE ?_
   refine aG ?_
   refine aE ?_
   refine tr1 rfl (aD (v := .d (.lit (.slice none 0 0))) (aA rfl) rfl rfl) ?_
   refine tr1 rfl (aJ (v := .d (.lit (.slice none 0 0))) (aA rfl) rfl rfl) ?_
   refine aF ?_
   have h := Option.some.inj h
   subst h
   exact bI ⟨rfl, _, [.arr (.slice none 0 0) 3 1 (([] : List Int).map cL)], [.arr (.slice none 0 0) 3 1 (([] : List Int).map cL)], _, .one (.tmp 4 (v := .d (.lit (.slice none 0 0))) rfl), .refl _, .same _, (.slice none 0 0), rfl, rfl⟩

theorem xK (slices_0 : List (List Int)) {r : (List Int)} (h : pS slices_0 = some r) : Fn Try.prog 84 [.d (.sl 1 (slices_0.map qW))] (.d (.sl 1 (r.map cL))) := by
 unfold pS at h
 refine Fn.of_tr Try.func84 rfl (rs := [.tmp 2]) Try.results84 Try.ntmps84 (Nat.le_of_ble_eq_true rfl) ?_
 refine aG ?_
 refine aE ?_
 refine tr1 rfl (sO 1 (aA rfl)) ?_
 refine aF ?_
 refine aG ?_
 refine aE ?_
 refine tr1 rfl (aJ (v := .d (.lit (.int .i64 0))) (aA rfl) rfl rfl) ?_
 refine aF ?_
 refine aG ?_
 refine aG ?_
 refine aE ?_
 refine tr1 rfl (aD (v := .d (.sl 1 (slices_0.map qW))) (aA rfl) rfl rfl) ?_
 refine tr1 rfl (dB (aA rfl) rfl yG.of) ?_
 refine tr1 rfl (aD (v := .d (.lit (.int .i64 0))) (aA rfl) rfl rfl) ?_
 refine aF ?_
 refine bQ ?_
 refine cH [0, 9, 10] (fun (s1 : Int × Int) => [(3, .d (.lit (.int .i64 s1.1))), (11, .d (.lit (.int .i64 s1.2)))]) (fun (s1 : Int × Int) => []) (fun (k : Nat) (s1 : Int × Int) => lS slices_0 slices_0 (slices_0.length : Int) k s1.1 s1.2) (fun _ => rfl) (0, 0) h (aX [] rfl rfl (aO rfl (aO rfl (aY ⟨rfl, rfl, rfl, trivial⟩)))) ?_
 rintro k2 ⟨size_0_1, t11_0_1⟩ h
 simp only [lS] at h
 refine aG ?_
 refine aE ?_
 refine tr1 rfl (bC (aA rfl) rfl rfl rfl) ?_
 refine aF ?_
 refine aG ?_
 refine bH rfl (fun c3 => ?_) (fun c3 => ?_)
 ·have h := aU c3 h
  refine bE ?_
  refine aG ?_
  refine bQ ?_
  refine aG ?_
  refine aE ?_
  obtain ⟨x4, h5, h⟩ := bind_some h
  refine tr1 rfl (bY (aA rfl) rfl rfl yG.of (bN qW h5)) ?_
  refine tr1 rfl (cK (aA rfl) rfl aFz) ?_
  refine tr1 rfl (aJ (v := .d (.sl 1 (x4.map cL))) (aA rfl) rfl rfl) ?_
  refine aF ?_
  refine aG ?_
  refine aE ?_
  refine tr1 rfl (aD (v := .d (.lit (.int .i64 size_0_1))) (aA rfl) rfl rfl) ?_
  refine tr1 rfl (aD (v := .d (.sl 1 (x4.map cL))) (aA rfl) rfl rfl) ?_
  refine tr1 rfl (dB (aA rfl) rfl fL.of) ?_
  refine tr1 rfl (aZ (aA rfl) rfl rfl rfl) ?_
  refine tr1 rfl (aJ (v := .d (.lit (.int .i64 ((w64 (size_0_1 + (x4.length : Int))))))) (aA rfl) rfl rfl) ?_
  refine aF ?_
  refine aG ?_
  refine aE ?_
  refine tr1 rfl (aD (v := .d (.lit (.int .i64 ((w64 (size_0_1 + (x4.length : Int))))))) (aA rfl) rfl rfl) ?_
  refine tr1 rfl (bC (aA rfl) rfl rfl rfl) ?_
  refine aF ?_
  refine bH rfl (fun c6 => ?_) (fun c6 => ?_)
  ·have h := aU c6 h
   cases h
  ·have h := aT c6 h
   refine eF ?_
   refine aE ?_
   refine tr1 rfl (aZ (aA rfl) rfl rfl rfl) ?_
   refine tr1 rfl (aD (v := .d (.lit (.int .i64 ((w64 (t11_0_1 + 1)))))) (aA rfl) rfl rfl) ?_
   refine aF ?_
   exact ⟨(w64 (size_0_1 + (x4.length : Int)), w64 (t11_0_1 + 1)), h, aX [] rfl rfl (aO rfl (aO rfl (aY ⟨rfl, rfl, rfl, trivial⟩)))⟩
 ·have h := aT c3 h
  refine cQ ?_
  refine .inl ⟨rfl, ?_⟩
  simp only [rN] at h
  refine aG ?_
  refine aE ?_
  refine tr1 rfl (aD (v := .d (.lit (.int .i64 size_0_1))) (aA rfl) rfl rfl) ?_
  obtain ⟨r7, h8, h⟩ := bind_some h
  refine bR rfl (pK (aA rfl) (.func _ _ Try.call102) rfl rfl (yH _ h8)) ?_
  rintro _ ⟨v9, rfl⟩
  refine tr1 rfl (aJ (v := .d (.lit v9)) (aA rfl) rfl rfl) ?_
  refine aF ?_
  refine aG ?_
  refine aG ?_
  refine aE ?_
  refine tr1 rfl (aD (v := .d (.sl 1 (slices_0.map qW))) (aA rfl) rfl rfl) ?_
  refine tr1 rfl (dB (aA rfl) rfl yG.of) ?_
  refine tr1 rfl (aD (v := .d (.lit (.int .i64 0))) (aA rfl) rfl rfl) ?_
  refine aF ?_
  refine bQ ?_
  refine cH [25, 26] (fun (s10 : Int × (List Int) × Value) => [(6, .d (.lit s10.2.2)), (27, .d (.lit (.int .i64 s10.1)))]) (fun (s10 : Int × (List Int) × Value) => [.arr s10.2.2 3 1 (s10.2.1.map cL)]) (fun (k : Nat) (s10 : Int × (List Int) × Value) => lT slices_0 (slices_0.length : Int) k s10.1 s10.2.1) (fun _ => rfl) (0, r7, v9) h (aX [0] rfl rfl (aO rfl (aO rfl (aY ⟨rfl, rfl, trivial⟩)))) ?_
  rintro k12 ⟨t27_2_10, o24_2_10, w11⟩ h
  simp only [lT] at h
  refine aG ?_
  refine aE ?_
  refine tr1 rfl (bC (aA rfl) rfl rfl rfl) ?_
  refine aF ?_
  refine aG ?_
  refine bH rfl (fun c13 => ?_) (fun c13 => ?_)
  ·have h := aU c13 h
   refine bE ?_
   refine aG ?_
   refine bQ ?_
   refine aG ?_
   refine aE ?_
   obtain ⟨x14, h15, h⟩ := bind_some h
   refine tr1 rfl (bY (aA rfl) rfl rfl yG.of (bN qW h15)) ?_
   refine tr1 rfl (cK (aA rfl) rfl aFz) ?_
   refine tr1 rfl (aJ (v := .d (.sl 1 (x14.map cL))) (aA rfl) rfl rfl) ?_
   refine aF ?_
   refine aE ?_
   refine tr1 rfl (aD (v := .d (.lit w11)) (aA rfl) rfl rfl) ?_
   refine tr1 rfl (aD (v := .d (.sl 1 (x14.map cL))) (aA rfl) rfl rfl) ?_
   obtain ⟨x16, h17, h⟩ := bind_some h
   refine bR rfl (kA (i := 0) (aA rfl) fL rfl rfl rfl (fun _ => rfl) h17 rfl) ?_
   rintro _ ⟨v18, rfl⟩
   refine tr1 rfl (aJ (v := .d (.lit v18)) (aA rfl) rfl rfl) ?_
   refine eC ?_
   refine aE ?_
   refine tr1 rfl (aZ (aA rfl) rfl rfl rfl) ?_
   refine tr1 rfl (aD (v := .d (.lit (.int .i64 ((w64 (t27_2_10 + 1)))))) (aA rfl) rfl rfl) ?_
   refine aF ?_
   exact ⟨(w64 (t27_2_10 + 1), x16, v18), h, aX [0] rfl rfl (aO rfl (aO rfl (aY ⟨rfl, rfl, trivial⟩)))⟩
  ·have h := aT c13 h
   refine cQ ?_
   refine .inl ⟨rfl, ?_⟩
   simp only [rO] at h
   refine aG ?_
   refine aE ?_
   refine tr1 rfl (aD (v := .d (.lit w11)) (aA rfl) rfl rfl) ?_
   refine tr1 rfl (aJ (v := .d (.lit w11)) (aA rfl) rfl rfl) ?_
   refine aF ?_
   have h := Option.some.inj h
   subst h
   refine cR (cJ (jK (k := 2) (v := .d (.sl 1 (o24_2_10.map cL))) (.d (jP 0 rfl (cY (f := cL) fun _ => rfl))) (yO))) ?_
   exact bI ⟨rfl, _, .one _, rfl, rfl⟩

theorem wW (kr : Nat) : ∀ (book : bX) (pl : Int) (wk : Int) (ms : Bool) (be : Int) (wo : Int) (week_1 : Int) (prizes_2 : List Int) (free_3 : List Int) {r : bX × Bool × Int × Int} {book_b book_o : Nat} {bb_b bb_o : Nat} {pl_b pl_o : Nat} {wk_b wk_o : Nat} {ms_b ms_o : Nat} {be_b be_o : Nat} {wo_b wo_o : Nat} (_h : kH kr book pl wk ms be wo week_1 prizes_2 free_3 = some r), fQ Try.prog 49 [.bp book_b book_o 0, .d (.lit (.int .i64 week_1)), .d (.sl 1 (prizes_2.map cL)), .d (.sl 1 (free_3.map cL)), .fn 50 [.bp bb_b bb_o 0, .bp pl_b pl_o 0, .bp wk_b wk_o 0, .bp ms_b ms_o 0, .bp be_b be_o 0, .bp wo_b wo_o 0]] [.box book_b book_o (cD book), .box bb_b bb_o [gL book_b book_o 0], .box pl_b pl_o [.lit (.int .i64 pl)], .box wk_b wk_o [.lit (.int .i64 wk)], .box ms_b ms_o [.lit (.bool ms)], .box be_b be_o [.lit (.int .i64 be)], .box wo_b wo_o [.lit (.int .i64 wo)]] (fun r' o' => r' = .tup [] ∧ o' = [.box book_b book_o (cD r.1), .box bb_b bb_o [gL book_b book_o 0], .box pl_b pl_o [.lit (.int .i64 pl)], .box wk_b wk_o [.lit (.int .i64 wk)], .box ms_b ms_o [.lit (.bool r.2.1)], .box be_b be_o [.lit (.int .i64 r.2.2.1)], .box wo_b wo_o [.lit (.int .i64 r.2.2.2)]]) := by
  induction kr with
  | zero => intros; rename_i h; cases h
  | succ kr ih =>
    intro book pl wk ms be wo week_1 prizes_2 free_3 r book_b book_o bb_b bb_o pl_b pl_o wk_b wk_o ms_b ms_o be_b be_o wo_b wo_o h
    simp only [kH] at h
    refine jC Try.func49 rfl (rs := []) Try.results49 Try.ntmps49 (Nat.le_of_ble_eq_true rfl) ?_
    refine aG ?_
    refine aG ?_
    refine aE ?_
    refine tr1 rfl (aD (v := .d (.sl 1 (prizes_2.map cL))) (aA rfl) rfl rfl) ?_
    refine tr1 rfl (dB (aA rfl) rfl fL.of) ?_
    refine tr1 rfl (bC (aA rfl) rfl rfl rfl) ?_
    refine tr1 rfl (aD (v := .d (.lit (.bool ((decide ((prizes_2.length : Int) = 0)))))) (aA rfl) rfl rfl) ?_
    obtain ⟨b1, h2, h⟩ := bind_some h
    refine cA 4 [0, 1, 2, 3, 4] 20 b1 ?_ ?_
    ·refine bJ (decide ((prizes_2.length : Int) = 0)) (fun c30 => ?_) (fun c30 => ?_)
     ·have h2 := aU c30 h2
      refine aR rfl rfl (aA rfl) rfl (aA rfl) rfl c30 ?_
      refine aR rfl rfl (aA rfl) rfl (aA rfl) rfl c30 ?_
      refine aR rfl rfl (aA rfl) rfl (aA rfl) rfl c30 ?_
      refine tr1 rfl (bW (v := .d (.lit (.bool true))) (aA rfl) rfl c30 rfl rfl) ?_
      have h2 := Option.some.inj h2
      subst h2
      refine aF (bB rfl ⟨rfl, rfl, rfl, rfl, rfl, trivial⟩ rfl)
     ·have h2 := aT c30 h2
      refine aP rfl rfl (aA rfl) rfl c30 (aD (v := .d (.sl 1 (free_3.map cL))) (aA rfl) rfl rfl) ?_
      refine aP rfl rfl (aA rfl) rfl c30 (dB (aA rfl) rfl fL.of) ?_
      refine aP rfl rfl (aA rfl) rfl c30 (bC (aA rfl) rfl rfl rfl) ?_
      refine tr1 rfl (bT (v := .d (.lit (.bool ((decide ((free_3.length : Int) = 0)))))) (aA rfl) rfl c30 rfl rfl) ?_
      have h2 := Option.some.inj h2
      subst h2
      refine aF (bB rfl ⟨rfl, rfl, rfl, rfl, rfl, trivial⟩ rfl)
    ·refine aF ?_
     refine bH rfl (fun c3 => ?_) (fun c3 => ?_)
     ·have h := aU c3 h
      refine aG ?_
      refine aE ?_
      refine tr1 rfl (aD (v := .fn 50 [.bp bb_b bb_o 0, .bp pl_b pl_o 0, .bp wk_b wk_o 0, .bp ms_b ms_o 0, .bp be_b be_o 0, .bp wo_b wo_o 0]) (aA rfl) rfl rfl) ?_
      obtain ⟨r4, h5, h⟩ := bind_some h
      refine bR rfl (dQ (passed := [.box book_b book_o (cD book), .box bb_b bb_o [gL book_b book_o 0], .box pl_b pl_o [.lit (.int .i64 pl)], .box wk_b wk_o [.lit (.int .i64 wk)], .box ms_b ms_o [.lit (.bool ms)], .box be_b be_o [.lit (.int .i64 be)], .box wo_b wo_o [.lit (.int .i64 wo)]]) (aA rfl) rfl (.clo _ _ _ _ Try.call50 rfl) (uB rfl) rfl (aBd book pl wk ms be wo h5)) ?_
      rintro _ ⟨_, _, ⟨rfl, rfl⟩, rfl⟩
      refine aF ?_
      have h := Option.some.inj h
      subst h
      exact bI ⟨rfl, _, [.box book_b book_o (cD book), .box bb_b bb_o [gL book_b book_o 0], .box pl_b pl_o [.lit (.int .i64 pl)], .box wk_b wk_o [.lit (.int .i64 wk)], .box ms_b ms_o [.lit (.bool r4.1)], .box be_b be_o [.lit (.int .i64 r4.2.1)], .box wo_b wo_o [.lit (.int .i64 r4.2.2)]], [], _, .none, .refl _, .same _, rfl, rfl⟩
     ·have h := aT c3 h
      refine bE ?_
      refine aG ?_
      refine aE ?_
      refine tr1 rfl (aD (v := .bp book_b book_o 0) (aA rfl) rfl rfl) ?_
      refine tr1 rfl (kS (aA rfl) rfl) ?_
      refine tr1 rfl (aS (aA rfl) rfl iS) ?_
      refine tr1 rfl (aS (aA rfl) rfl dI) ?_
      refine tr1 rfl (aV (aA rfl) rfl (i := 0) rfl rfl fR) ?_
      refine tr1 rfl (dB (aA rfl) rfl bP.of) ?_
      refine tr1 rfl (aJ (v := .d (.lit (.int .i64 ((book.Ledger.Reports.length : Int))))) (aA rfl) rfl rfl) ?_
      refine aF ?_
      refine aG ?_
      refine aG ?_
      refine aE ?_
      refine tr1 rfl (aD (v := .d (.sl 1 (free_3.map cL))) (aA rfl) rfl rfl) ?_
      refine tr1 rfl (dB (aA rfl) rfl fL.of) ?_
      refine tr1 rfl (aD (v := .d (.lit (.int .i64 0))) (aA rfl) rfl rfl) ?_
      refine aF ?_
      refine bQ ?_
      refine cH [0, 1, 2, 3, 4, 10, 29, 30] (fun (s6 : Int × bX × Bool × Int × Int) => [(31, .d (.lit (.int .i64 s6.1)))]) (fun (s6 : Int × bX × Bool × Int × Int) => [.box book_b book_o (cD s6.2.1), .box bb_b bb_o [gL book_b book_o 0], .box pl_b pl_o [.lit (.int .i64 pl)], .box wk_b wk_o [.lit (.int .i64 wk)], .box ms_b ms_o [.lit (.bool s6.2.2.1)], .box be_b be_o [.lit (.int .i64 s6.2.2.2.1)], .box wo_b wo_o [.lit (.int .i64 s6.2.2.2.2)]]) (fun (k : Nat) (s6 : Int × bX × Bool × Int × Int) => lQ (kH kr) week_1 prizes_2 free_3 (book.Ledger.Reports.length : Int) free_3 (free_3.length : Int) pl wk k s6.1 s6.2.1 s6.2.2.1 s6.2.2.2.1 s6.2.2.2.2) (fun _ => rfl) (0, book, ms, be, wo) h (aX [0, 1, 2, 3, 4, 5, 6] rfl rfl (aO rfl (aY ⟨rfl, rfl, rfl, rfl, rfl, rfl, rfl, rfl, trivial⟩))) ?_
      rintro k7 ⟨t31_0_6, b_0_6, b_0_6_4, b_0_6_5, b_0_6_6⟩ h
      simp only [lQ] at h
      refine aG ?_
      refine aE ?_
      refine tr1 rfl (bC (aA rfl) rfl rfl rfl) ?_
      refine aF ?_
      refine aG ?_
      refine bH rfl (fun c8 => ?_) (fun c8 => ?_)
      ·have h := aU c8 h
       refine bE ?_
       refine aG ?_
       refine bQ ?_
       refine aG ?_
       refine aE ?_
       refine tr1 rfl (aD (v := .d (.lit (.int .i64 t31_0_6))) (aA rfl) rfl rfl) ?_
       obtain ⟨x9, h10, h⟩ := bind_some h
       refine tr1 rfl (bY (aA rfl) rfl rfl fL.of (bN cL h10)) ?_
       refine tr1 rfl (cK (aA rfl) rfl bM) ?_
       refine tr1 rfl (aJ (v := .d (.lit (.int .i64 t31_0_6))) (aA rfl) rfl rfl) ?_
       refine tr1 rfl (aJ (v := .d (.lit (.int .i64 x9))) (aA rfl) rfl rfl) ?_
       refine aF ?_
       refine aG ?_
       obtain ⟨x12, h13, h⟩ := bind_some h
       obtain ⟨x14, h15, h⟩ := bind_some h
       obtain ⟨x16, h17, h⟩ := bind_some h
       refine lC mix 19 [0, 1, 2, 3, 4, 10, 11, 29, 30, 31] (fun X11 => [(36, .bp book_b book_o 0), (54, .d (.sl 5 (x16.map aB)))]) (fun X11 => [.box book_b book_o (cD b_0_6), .box bb_b bb_o [gL book_b book_o 0], .box pl_b pl_o [.lit (.int .i64 pl)], .box wk_b wk_o [.lit (.int .i64 wk)], .box ms_b ms_o [.lit (.bool b_0_6_4)], .box be_b be_o [.lit (.int .i64 b_0_6_5)], .box wo_b wo_o [.lit (.int .i64 b_0_6_6)]]) ?_ ?_
       ·refine ⟨0, fun X11 => [(36, 0, .bp book_b book_o 0), (37, 1, .bp book_b book_o 0), (38, 2, .bp book_b book_o 0), (39, 3, .bp book_b book_o 0), (40, 4, .bp book_b book_o 2), (41, 5, .d (.sl 5 (b_0_6.Ledger.Reports.map aB))), (42, 6, .d (.lit (.int .i64 ((book.Ledger.Reports.length : Int))))), (43, 7, .d (.lit (.int .i64 ((book.Ledger.Reports.length : Int))))), (44, 8, .fl false 5 (x12.map aB)), (45, 9, .d (.lit (.int .i64 ((book.Ledger.Reports.length : Int))))), (46, 10, .d (.lit (.int .i64 ((w64 (100 + (book.Ledger.Reports.length : Int))))))), (47, 11, .d (.lit (.int .i64 x9))), (48, 12, .d (.lit (.int .i64 week_1))), (49, 13, .d (.sl 1 (prizes_2.map cL))), (50, 14, .cp [.lit (.int .i64 x14)]), (51, 15, .d (.lit (.int .i64 x14))), (52, 16, .agg (aB (aC.mk (w64 (100 + (book.Ledger.Reports.length : Int))) x9 week_1 x14 false))), (53, 17, .d (.sl 5 ((([(aC.mk (w64 (100 + (book.Ledger.Reports.length : Int))) x9 week_1 x14 false)])).map aB))), (54, 18, .d (.sl 5 (x16.map aB)))], fun X11 => [([], .box book_b book_o (cD b_0_6)), ([], .box bb_b bb_o [gL book_b book_o 0]), ([], .box pl_b pl_o [.lit (.int .i64 pl)]), ([], .box wk_b wk_o [.lit (.int .i64 wk)]), ([], .box ms_b ms_o [.lit (.bool b_0_6_4)]), ([], .box be_b be_o [.lit (.int .i64 b_0_6_5)]), ([], .box wo_b wo_o [.lit (.int .i64 b_0_6_6)])], ?_, ?_⟩
        · exact ⟨by kernel_rfl, by kernel_rfl, by kernel_rfl, fun _ => by kernel_rfl, fun _ => by kernel_rfl, fun _ => by kernel_rfl, fun _ => rfl, [([], []), ([], [18]), ([1], [18]), ([2], [18]), ([3], [18]), ([4], [18]), ([], [18]), ([], [18]), ([5, 6, 7], [18]), ([], [18]), ([9], [18]), ([], [18]), ([], [18]), ([], [18]), ([13], [18]), ([14], [18]), ([10, 11, 12, 15], [18]), ([16], [18]), ([8, 17], [])], by kernel_rfl, ⟨fun X11 S hw hi hS => bG (X := X11) rfl (hw X11) rfl (aQ rfl (aD (v := .bp book_b book_o 0) (aA rfl) (aI hS rfl) rfl)),
      fun X11 S hw hi hS => bG (X := X11) rfl (hw X11) rfl (aQ rfl (aD (v := .bp book_b book_o 0) (aA rfl) (aI hS rfl) rfl)),
      fun X11 S hw hi hS => bG (X := X11) rfl (hw X11) rfl (aQ rfl (kS (aA rfl) (aI hS rfl))),
      fun X11 S hw hi hS => bG (X := X11) rfl (hw X11) rfl (aQ rfl (aS (aA rfl) (aI hS rfl) iS)),
      fun X11 S hw hi hS => bG (X := X11) rfl (hw X11) rfl (aQ rfl (aS (aA rfl) (aI hS rfl) dI)),
      fun X11 S hw hi hS => bG (X := X11) rfl (hw X11) rfl (aQ rfl (aV (aA rfl) (aI hS rfl) (i := 0) (og hS rfl rfl) rfl fR)),
      fun X11 S hw hi hS => bG (X := X11) rfl (hw X11) rfl (aQ rfl (aD (v := .d (.lit (.int .i64 ((book.Ledger.Reports.length : Int))))) (aA rfl) (aI hS rfl) rfl)),
      fun X11 S hw hi hS => bG (X := X11) rfl (hw X11) rfl (aQ rfl (aD (v := .d (.lit (.int .i64 ((book.Ledger.Reports.length : Int))))) (aA rfl) (aI hS rfl) rfl)),
      fun X11 S hw hi hS => bG (X := X11) rfl (hw X11) rfl (aQ rfl (aDx (aA rfl) bP.of (aI hS rfl) (aI hS rfl) (aI hS rfl) (pM aB h13))),
      fun X11 S hw hi hS => bG (X := X11) rfl (hw X11) rfl (aQ rfl (aD (v := .d (.lit (.int .i64 ((book.Ledger.Reports.length : Int))))) (aA rfl) (aI hS rfl) rfl)),
      fun X11 S hw hi hS => bG (X := X11) rfl (hw X11) rfl (aQ rfl (aZ (aA rfl) rfl (aI hS rfl) rfl)),
      fun X11 S hw hi hS => bG (X := X11) rfl (hw X11) rfl (aQ rfl (aD (v := .d (.lit (.int .i64 x9))) (aA rfl) (aI hS rfl) rfl)),
      fun X11 S hw hi hS => bG (X := X11) rfl (hw X11) rfl (aQ rfl (aD (v := .d (.lit (.int .i64 week_1))) (aA rfl) (aI hS rfl) rfl)),
      fun X11 S hw hi hS => bG (X := X11) rfl (hw X11) rfl (aQ rfl (aD (v := .d (.sl 1 (prizes_2.map cL))) (aA rfl) (aI hS rfl) rfl)),
      fun X11 S hw hi hS => bG (X := X11) rfl (hw X11) rfl (aQ rfl (bY (aA rfl) (aI hS rfl) rfl fL.of (bN cL h15))),
      fun X11 S hw hi hS => bG (X := X11) rfl (hw X11) rfl (aQ rfl (cK (aA rfl) (aI hS rfl) bM)),
      fun X11 S hw hi hS => bG (X := X11) rfl (hw X11) rfl (aQ rfl (iB (aA rfl) uT (zs := [.lit (.int .i64 0), .lit (.int .i64 0), .lit (.int .i64 0), .lit (.int .i64 0), .lit (.bool false)]) rfl rfl rfl (pa2 (aI hS rfl) (pa2 (aI hS rfl) (pa2 (aI hS rfl) (pa2 (aI hS rfl) pan)))) (es := [.lit (.int .i64 ((w64 (100 + (book.Ledger.Reports.length : Int))))), .lit (.int .i64 x9), .lit (.int .i64 week_1), .lit (.int .i64 x14), .lit (.bool false)]) rfl)),
      fun X11 S hw hi hS => bG (X := X11) rfl (hw X11) rfl (aQ rfl (jJ (aA rfl) bP rfl (pa2 (aI hS rfl) pan) (rows := ([(aC.mk (w64 (100 + (book.Ledger.Reports.length : Int))) x9 week_1 x14 false)]).map aB) rfl (cY (f := aB) fun _ => rfl) rfl (by decide))),
      fun X11 S hw hi hS => bG (X := X11) rfl (hw X11) rfl (aQ rfl (qX (nn := false) (f := aB) (xs := x12) (ys := [(aC.mk (w64 (100 + (book.Ledger.Reports.length : Int))) x9 week_1 x14 false)]) (aA rfl) bP (aI hS rfl) (aI hS rfl) (fun _ => rfl) h17 rfl)), trivial⟩⟩
        · exact fun X11 => dX (aO rfl (aO rfl (aY ⟨rfl, rfl, rfl, rfl, rfl, rfl, rfl, rfl, rfl, rfl, trivial⟩)))
       ·intro X11
        refine tr1 rfl (kS (aA rfl) rfl) ?_
        refine tr1 rfl (aS (aA rfl) rfl iS) ?_
        refine tr1 rfl (aS (aA rfl) rfl dI) ?_
        refine tr1 rfl (bO (i := 0) rfl rfl rfl rfl rfl Try.sizeOf22 rfl (aA rfl) (Nat.le_of_ble_eq_true rfl) (ds' := (cD (bX.mk (aM.mk b_0_6.Ledger.Players b_0_6.Ledger.Counts x16 b_0_6.Ledger.Bans b_0_6.Ledger.Frozen)))) rfl) ?_
        refine aF ?_
        obtain ⟨x18, h19, h⟩ := bind_some h
        obtain ⟨x20, h21, h⟩ := bind_some h
        obtain ⟨x22, h23, h⟩ := bind_some h
        obtain ⟨r24, h25, h⟩ := bind_some h
        refine fU mix 14 [0, 1, 2, 3, 4, 10, 29, 30, 31] [(58, .bp book_b book_o 0), (59, .d (.lit (.int .i64 week_1))), (61, .d (.sl 1 (x18.map cL))), (70, .d (.sl 1 (r24.map cL))), (71, .fn 50 [.bp bb_b bb_o 0, .bp pl_b pl_o 0, .bp wk_b wk_o 0, .bp ms_b ms_o 0, .bp be_b be_o 0, .bp wo_b wo_o 0])] ?_ ?_
        ·refine ⟨[(58, 0, .bp book_b book_o 0), (59, 1, .d (.lit (.int .i64 week_1))), (60, 2, .d (.sl 1 (prizes_2.map cL))), (61, 3, .d (.sl 1 (x18.map cL))), (62, 4, .d (.sl 1 (free_3.map cL))), (63, 5, .d (.lit (.int .i64 t31_0_6))), (64, 6, .d (.sl 1 (x20.map cL))), (65, 7, .d (.sl 1 (free_3.map cL))), (66, 8, .d (.lit (.int .i64 t31_0_6))), (67, 9, .d (.lit (.int .i64 ((w64 (t31_0_6 + 1)))))), (68, 10, .d (.sl 1 (x22.map cL))), (69, 11, .d (.sl 1 ((([x20, x22])).map qW))), (70, 12, .d (.sl 1 (r24.map cL))), (71, 13, .fn 50 [.bp bb_b bb_o 0, .bp pl_b pl_o 0, .bp wk_b wk_o 0, .bp ms_b ms_o 0, .bp be_b be_o 0, .bp wo_b wo_o 0])], ?_, ?_⟩
         · exact ⟨by kernel_rfl, by kernel_rfl, by kernel_rfl, by kernel_rfl, by kernel_rfl, [([], []), ([], []), ([], []), ([2], []), ([], []), ([], []), ([4, 5], []), ([], []), ([], []), ([8], []), ([7, 9], []), ([6, 10], []), ([11], []), ([], [])], by kernel_rfl, ⟨fun S hS => aK rfl (aQ rfl (aD (v := .bp book_b book_o 0) (aA rfl) (aI hS rfl) rfl)),
      fun S hS => aK rfl (aQ rfl (aD (v := .d (.lit (.int .i64 week_1))) (aA rfl) (aI hS rfl) rfl)),
      fun S hS => aK rfl (aQ rfl (aD (v := .d (.sl 1 (prizes_2.map cL))) (aA rfl) (aI hS rfl) rfl)),
      fun S hS => aK rfl (aQ rfl (mT (aA rfl) fL.of (aI hS rfl) rfl aGj (pM cL h19))),
      fun S hS => aK rfl (aQ rfl (aD (v := .d (.sl 1 (free_3.map cL))) (aA rfl) (aI hS rfl) rfl)),
      fun S hS => aK rfl (aQ rfl (aD (v := .d (.lit (.int .i64 t31_0_6))) (aA rfl) (aI hS rfl) rfl)),
      fun S hS => aK rfl (aQ rfl (mT (aA rfl) fL.of (aI hS rfl) rfl (bo (aI hS rfl)) (pM cL h21))),
      fun S hS => aK rfl (aQ rfl (aD (v := .d (.sl 1 (free_3.map cL))) (aA rfl) (aI hS rfl) rfl)),
      fun S hS => aK rfl (aQ rfl (aD (v := .d (.lit (.int .i64 t31_0_6))) (aA rfl) (aI hS rfl) rfl)),
      fun S hS => aK rfl (aQ rfl (aZ (aA rfl) (aI hS rfl) rfl rfl)),
      fun S hS => aK rfl (aQ rfl (mT (aA rfl) fL.of (aI hS rfl) (bo (aI hS rfl)) aGj (pM cL h23))),
      fun S hS => aK rfl (aQ rfl (jJ (aA rfl) yG rfl (pa2 (aI hS rfl) (pa2 (aI hS rfl) pan)) (rows := ([x20, x22]).map qW) rfl (cY (f := qW) fun _ => rfl) rfl (by decide))),
      fun S hS => aK rfl (aQ rfl (jZ (aA rfl) (.func _ _ Try.call84) (ev2 (aI hS rfl) evn) rfl (xK _ h25))),
      fun S hS => aK rfl (aQ rfl (aD (v := .fn 50 [.bp bb_b bb_o 0, .bp pl_b pl_o 0, .bp wk_b wk_o 0, .bp ms_b ms_o 0, .bp be_b be_o 0, .bp wo_b wo_o 0]) (aA rfl) (aI hS rfl) rfl)), trivial⟩⟩
         · exact dX (aO rfl (aO rfl (aO rfl (aO rfl (aO rfl (aY ⟨rfl, rfl, rfl, rfl, rfl, rfl, rfl, rfl, rfl, trivial⟩))))))
        ·obtain ⟨r26, h27, h⟩ := bind_some h
         refine bR rfl (dQ (passed := [.box book_b book_o (cD (bX.mk (aM.mk b_0_6.Ledger.Players b_0_6.Ledger.Counts x16 b_0_6.Ledger.Bans b_0_6.Ledger.Frozen))), .box bb_b bb_o [gL book_b book_o 0], .box pl_b pl_o [.lit (.int .i64 pl)], .box wk_b wk_o [.lit (.int .i64 wk)], .box ms_b ms_o [.lit (.bool b_0_6_4)], .box be_b be_o [.lit (.int .i64 b_0_6_5)], .box wo_b wo_o [.lit (.int .i64 b_0_6_6)]]) (aA rfl) rfl (.func _ _ Try.call49) rfl rfl (ih (bX.mk (aM.mk b_0_6.Ledger.Players b_0_6.Ledger.Counts x16 b_0_6.Ledger.Bans b_0_6.Ledger.Frozen)) pl wk b_0_6_4 b_0_6_5 b_0_6_6 week_1 x18 r24 h27)) ?_
         rintro _ ⟨_, _, ⟨rfl, rfl⟩, rfl⟩
         refine eC ?_
         refine aE ?_
         refine tr1 rfl (aZ (aA rfl) rfl rfl rfl) ?_
         refine tr1 rfl (aD (v := .d (.lit (.int .i64 ((w64 (t31_0_6 + 1)))))) (aA rfl) rfl rfl) ?_
         refine aF ?_
         exact ⟨(w64 (t31_0_6 + 1), r26.1, r26.2.1, r26.2.2.1, r26.2.2.2), h, aX [0, 1, 2, 3, 4, 5, 6] rfl rfl (aO rfl (aY ⟨rfl, rfl, rfl, rfl, rfl, rfl, rfl, rfl, trivial⟩))⟩
      ·have h := aT c8 h
       refine cQ ?_
       refine .inl ⟨rfl, ?_⟩
       simp only [rJ] at h
       refine aE ?_
       refine tr1 rfl (aD (v := .bp book_b book_o 0) (aA rfl) rfl rfl) ?_
       refine tr1 rfl (aD (v := .bp book_b book_o 0) (aA rfl) rfl rfl) ?_
       refine tr1 rfl (kS (aA rfl) rfl) ?_
       refine tr1 rfl (aS (aA rfl) rfl iS) ?_
       refine tr1 rfl (aS (aA rfl) rfl dI) ?_
       refine tr1 rfl (aV (aA rfl) rfl (i := 0) rfl rfl fR) ?_
       refine tr1 rfl (aD (v := .d (.lit (.int .i64 ((book.Ledger.Reports.length : Int))))) (aA rfl) rfl rfl) ?_
       obtain ⟨x28, h29, h⟩ := bind_some h
       refine tr1 rfl (mT (aA rfl) bP.of rfl rfl rfl (pM aB h29)) ?_
       refine tr1 rfl (kS (aA rfl) rfl) ?_
       refine tr1 rfl (aS (aA rfl) rfl iS) ?_
       refine tr1 rfl (aS (aA rfl) rfl dI) ?_
       refine tr1 rfl (bO (i := 0) rfl rfl rfl rfl rfl Try.sizeOf22 rfl (aA rfl) (Nat.le_of_ble_eq_true rfl) (ds' := (cD (bX.mk (aM.mk b_0_6.Ledger.Players b_0_6.Ledger.Counts x28 b_0_6.Ledger.Bans b_0_6.Ledger.Frozen)))) rfl) ?_
       refine aF ?_
       have h := Option.some.inj h
       subst h
       exact ⟨_, [.box book_b book_o (cD (bX.mk (aM.mk b_0_6.Ledger.Players b_0_6.Ledger.Counts x28 b_0_6.Ledger.Bans b_0_6.Ledger.Frozen))), .box bb_b bb_o [gL book_b book_o 0], .box pl_b pl_o [.lit (.int .i64 pl)], .box wk_b wk_o [.lit (.int .i64 wk)], .box ms_b ms_o [.lit (.bool b_0_6_4)], .box be_b be_o [.lit (.int .i64 b_0_6_5)], .box wo_b wo_o [.lit (.int .i64 b_0_6_6)]], [], _, .none, .refl _, .same _, rfl, rfl⟩
theorem xH (book : bX) (pl : Int) (wk : Int) (ms : Bool) (be : Int) (wo : Int) (week_1 : Int) (prizes_2 : List Int) (free_3 : List Int) {r : bX × Bool × Int × Int} {book_b book_o : Nat} {bb_b bb_o : Nat} {pl_b pl_o : Nat} {wk_b wk_o : Nat} {ms_b ms_o : Nat} {be_b be_o : Nat} {wo_b wo_o : Nat} (h : tM book pl wk ms be wo week_1 prizes_2 free_3 = some r) : fQ Try.prog 49 [.bp book_b book_o 0, .d (.lit (.int .i64 week_1)), .d (.sl 1 (prizes_2.map cL)), .d (.sl 1 (free_3.map cL)), .fn 50 [.bp bb_b bb_o 0, .bp pl_b pl_o 0, .bp wk_b wk_o 0, .bp ms_b ms_o 0, .bp be_b be_o 0, .bp wo_b wo_o 0]] [.box book_b book_o (cD book), .box bb_b bb_o [gL book_b book_o 0], .box pl_b pl_o [.lit (.int .i64 pl)], .box wk_b wk_o [.lit (.int .i64 wk)], .box ms_b ms_o [.lit (.bool ms)], .box be_b be_o [.lit (.int .i64 be)], .box wo_b wo_o [.lit (.int .i64 wo)]] (fun r' o' => r' = .tup [] ∧ o' = [.box book_b book_o (cD r.1), .box bb_b bb_o [gL book_b book_o 0], .box pl_b pl_o [.lit (.int .i64 pl)], .box wk_b wk_o [.lit (.int .i64 wk)], .box ms_b ms_o [.lit (.bool r.2.1)], .box be_b be_o [.lit (.int .i64 r.2.2.1)], .box wo_b wo_o [.lit (.int .i64 r.2.2.2)]]) := wW BIG _ _ _ _ _ _ _ _ _ h

theorem aDa (l_0 : aM) (player_1 : Int) (week_2 : Int) (prizes_3 : List Int) {r : Int × Int × Int} (h : wU l_0 player_1 week_2 prizes_3 = some r) : Fn Try.prog 17 [.agg (aN l_0), .d (.lit (.int .i64 player_1)), .d (.lit (.int .i64 week_2)), .d (.sl 1 (prizes_3.map cL))] (.tup [.d (.lit (.int .i64 r.1)), .d (.lit (.int .i64 r.2.1)), .d (.lit (.int .i64 r.2.2))]) := by
 unfold wU at h
 refine nX Try.func17 rfl (rs := [.cell 8 3, .cell 9 3, .tmp 10]) Try.results17 Try.ntmps17 (Nat.le_of_ble_eq_true rfl) ?_
 refine aG ?_
 refine aE ?_
 refine bR rfl (fX (v := .agg (aN l_0)) (aA rfl) rfl rfl rfl) ?_
 rintro _ ⟨b1, rfl⟩
 refine bR rfl (fX (v := .d (.lit (.int .i64 player_1))) (aA rfl) rfl rfl rfl) ?_
 rintro _ ⟨b2, rfl⟩
 refine bR rfl (fX (v := .d (.lit (.int .i64 week_2))) (aA rfl) rfl rfl rfl) ?_
 rintro _ ⟨b3, rfl⟩
 refine bR rfl (fF (zs := [.lit (.int .i64 0)]) (aA rfl) Try.zeroValue3 rfl rfl) ?_
 rintro _ ⟨b4, rfl⟩
 refine bR rfl (fF (zs := [.lit (.int .i64 0)]) (aA rfl) Try.zeroValue3 rfl rfl) ?_
 rintro _ ⟨b5, rfl⟩
 refine tr1 rfl (aJ (v := .d (.lit (.int .i64 0))) (aA rfl) rfl rfl) ?_
 refine aF ?_
 refine aG ?_
 refine aE ?_
 refine tr1 rfl (cS (aA rfl) rfl (i := 0) rfl dZ (es := (aN l_0)) rfl rfl) ?_
 refine tr1 rfl (aV (aA rfl) rfl (i := 1) rfl rfl bM) ?_
 refine tr1 rfl (aV (aA rfl) rfl (i := 2) rfl rfl bM) ?_
 obtain ⟨r6, h7, h⟩ := bind_some h
 refine bR rfl (dQ (passed := []) (aA rfl) rfl (.func _ _ Try.call44) rfl rfl (wV _ _ _ h7)) ?_
 rintro _ ⟨_, _, ⟨b9, w10, rfl, rfl⟩, rfl⟩
 obtain ⟨_ | y8, e11⟩ := r6
 ·have h := aAg h
  refine gJ (aX [0, 1, 2, 3, 4] rfl rfl (le_refl _)) ?_
  refine tr1 rfl (aD (v := .tup [.d (.lit (.pointer none)), .d (.lit (.int .i64 e11))]) (aA rfl) rfl rfl) ?_
  refine tr1 rfl (dD (aA rfl) rfl rfl) ?_
  refine tr1 rfl (dD (aA rfl) rfl rfl) ?_
  refine bR rfl (fF (zs := [.lit (.pointer none)]) (aA rfl) Try.zeroValue70 rfl rfl) ?_
  rintro _ ⟨b12, rfl⟩
  refine tr1 rfl (bO (i := 5) rfl rfl rfl rfl rfl Try.sizeOf70 rfl (aA rfl) (Nat.le_of_ble_eq_true rfl) (ds' := [.lit (.pointer none)]) rfl) ?_
  refine tr1 rfl (aJ (v := .d (.lit (.int .i64 e11))) (aA rfl) rfl rfl) ?_
  refine aF ?_
  refine aG ?_
  refine aG ?_
  refine aE ?_
  refine tr1 rfl (aD (v := .d (.lit (.int .i64 e11))) (aA rfl) rfl rfl) ?_
  refine tr1 rfl (bC (aA rfl) rfl rfl rfl) ?_
  refine aF ?_
  refine bH rfl (fun c13 => ?_) (fun c13 => ?_)
  ·have h := aU c13 h
   refine aG ?_
   refine aE ?_
   refine tr1 rfl (aD (v := .d (.lit (.int .i64 e11))) (aA rfl) rfl rfl) ?_
   refine tr1 rfl (bO (i := 3) rfl rfl rfl rfl rfl Try.sizeOf3 rfl (aA rfl) (Nat.le_of_ble_eq_true rfl) (ds' := [.lit (.int .i64 0)]) rfl) ?_
   refine tr1 rfl (bO (i := 4) rfl rfl rfl rfl rfl Try.sizeOf3 rfl (aA rfl) (Nat.le_of_ble_eq_true rfl) (ds' := [.lit (.int .i64 0)]) rfl) ?_
   refine tr1 rfl (aJ (v := .d (.lit (.int .i64 e11))) (aA rfl) rfl rfl) ?_
   refine aF ?_
   have h := Option.some.inj h
   subst h
   exact bI ⟨rfl, _, [.box b1 0 (aN l_0), .box b2 0 [.lit (.int .i64 player_1)], .box b3 0 [.lit (.int .i64 week_2)], .box b4 0 [.lit (.int .i64 0)], .box b5 0 [.lit (.int .i64 0)], .box b12 0 [.lit (.pointer none)]], .three (.cell1 8 3 rfl (i := 3) rfl bM rfl) (.cell1 9 3 rfl (i := 4) rfl bM rfl) (.tmp 10 (v := .d (.lit (.int .i64 e11))) rfl), .refl _, .same _⟩
  ·have h := aT c13 h
   refine bE ?_
   refine aG ?_
   refine aG ?_
   refine aE ?_
   refine tr1 rfl (aD (v := .d (.sl 1 (prizes_3.map cL))) (aA rfl) rfl rfl) ?_
   refine tr1 rfl (dB (aA rfl) rfl fL.of) ?_
   refine tr1 rfl (bC (aA rfl) rfl rfl rfl) ?_
   refine tr1 rfl (aD (v := .d (.lit (.bool ((decide (4 < (prizes_3.length : Int))))))) (aA rfl) rfl rfl) ?_
   obtain ⟨b14, h15, h⟩ := bind_some h
   refine cA 3 [3, 5, 6, 8, 9, 11] 31 b14 ?_ ?_
   ·refine bJ (decide (4 < (prizes_3.length : Int))) (fun c18 => ?_) (fun c18 => ?_)
    ·have h15 := aU c18 h15
     refine aR rfl rfl (aA rfl) rfl (aA rfl) rfl c18 ?_
     refine aR rfl rfl (aA rfl) rfl (aA rfl) rfl c18 ?_
     refine tr1 rfl (bW (v := .d (.lit (.bool true))) (aA rfl) rfl c18 rfl rfl) ?_
     have h15 := Option.some.inj h15
     subst h15
     refine aF (bB rfl ⟨rfl, rfl, rfl, rfl, rfl, rfl, trivial⟩ rfl)
    ·have h15 := aT c18 h15
     refine aP rfl rfl (aA rfl) rfl c18 (aD (v := .d (.sl 1 (prizes_3.map cL))) (aA rfl) rfl rfl) ?_
     obtain ⟨r20, h21, h15⟩ := bind_some h15
     refine aP rfl rfl (aA rfl) rfl c18 (cC (aA rfl) (.func _ _ Try.call45) rfl rfl (BVs.refl _ _) (oS _ _ 46 [] Try.call46 (fun _ _ h15 => wH _ h15) h21) rfl) ?_
     refine tr1 rfl (bT (v := .d (.lit (.bool r20))) (aA rfl) rfl c18 rfl rfl) ?_
     have h15 := Option.some.inj h15
     subst h15
     refine aF (bB rfl ⟨rfl, rfl, rfl, rfl, rfl, rfl, trivial⟩ rfl)
   ·refine aF ?_
    refine bH rfl (fun c16 => ?_) (fun c16 => ?_)
    ·have h := aU c16 h
     refine aG ?_
     refine aE ?_
     refine tr1 rfl (bO (i := 3) rfl rfl rfl rfl rfl Try.sizeOf3 rfl (aA rfl) (Nat.le_of_ble_eq_true rfl) (ds' := [.lit (.int .i64 0)]) rfl) ?_
     refine tr1 rfl (bO (i := 4) rfl rfl rfl rfl rfl Try.sizeOf3 rfl (aA rfl) (Nat.le_of_ble_eq_true rfl) (ds' := [.lit (.int .i64 0)]) rfl) ?_
     refine tr1 rfl (aJ (v := .d (.lit (.int .i64 42))) (aA rfl) rfl rfl) ?_
     refine aF ?_
     have h := Option.some.inj h
     subst h
     exact bI ⟨rfl, _, [.box b1 0 (aN l_0), .box b2 0 [.lit (.int .i64 player_1)], .box b3 0 [.lit (.int .i64 week_2)], .box b4 0 [.lit (.int .i64 0)], .box b5 0 [.lit (.int .i64 0)], .box b12 0 [.lit (.pointer none)]], .three (.cell1 8 3 rfl (i := 3) rfl bM rfl) (.cell1 9 3 rfl (i := 4) rfl bM rfl) (.tmp 10 (v := .d (.lit (.int .i64 42))) rfl), .refl _, .same _⟩
    ·have h := aT c16 h
     refine bE ?_
     refine aG ?_
     refine aE ?_
     refine tr1 rfl (iL 3 1 (.inl rfl) (aA rfl)) ?_
     refine aF ?_
     refine aG ?_
     refine aG ?_
     refine aE ?_
     refine tr1 rfl (aV (aA rfl) rfl (i := 5) rfl rfl wD) ?_
     cases h
 ·have h := aAh h
  refine gJ (aX [0, 1, 2, 3, 4, 5, 6] rfl rfl (le_refl _)) ?_
  refine tr1 rfl (aD (v := .tup [.bp b9 0 0, .d (.lit (.int .i64 e11))]) (aA rfl) rfl rfl) ?_
  refine tr1 rfl (dD (aA rfl) rfl rfl) ?_
  refine tr1 rfl (dD (aA rfl) rfl rfl) ?_
  refine bR rfl (fF (zs := [.lit (.pointer none)]) (aA rfl) Try.zeroValue70 rfl rfl) ?_
  rintro _ ⟨b22, rfl⟩
  refine gJ (aHt 20 rfl) ?_
  refine tr1 rfl (bO (i := 7) rfl rfl rfl rfl rfl Try.sizeOf70 rfl (aA rfl) (Nat.le_of_ble_eq_true rfl) (ds' := [gL b9 0 0]) rfl) ?_
  refine tr1 rfl (aJ (v := .d (.lit (.int .i64 e11))) (aA rfl) rfl rfl) ?_
  refine aF ?_
  refine aG ?_
  refine aG ?_
  refine aE ?_
  refine tr1 rfl (aD (v := .d (.lit (.int .i64 e11))) (aA rfl) rfl rfl) ?_
  refine tr1 rfl (bC (aA rfl) rfl rfl rfl) ?_
  refine aF ?_
  refine bH rfl (fun c23 => ?_) (fun c23 => ?_)
  ·have h := aU c23 h
   refine aG ?_
   refine aE ?_
   refine tr1 rfl (aD (v := .d (.lit (.int .i64 e11))) (aA rfl) rfl rfl) ?_
   refine tr1 rfl (bO (i := 5) rfl rfl rfl rfl rfl Try.sizeOf3 rfl (aA rfl) (Nat.le_of_ble_eq_true rfl) (ds' := [.lit (.int .i64 0)]) rfl) ?_
   refine tr1 rfl (bO (i := 6) rfl rfl rfl rfl rfl Try.sizeOf3 rfl (aA rfl) (Nat.le_of_ble_eq_true rfl) (ds' := [.lit (.int .i64 0)]) rfl) ?_
   refine tr1 rfl (aJ (v := .d (.lit (.int .i64 e11))) (aA rfl) rfl rfl) ?_
   refine aF ?_
   have h := Option.some.inj h
   subst h
   exact bI ⟨rfl, _, [.box b9 0 [.lit (.int .i64 y8.Ledger.Players), .lit (.int .i64 y8.Ledger.Counts), .lit w10, .sl 3 (y8.Ledger.Bans.map aH), .sl 3 (y8.Ledger.Frozen.map aH)], .arr w10 42 5 (y8.Ledger.Reports.map aB), .box b1 0 (aN l_0), .box b2 0 [.lit (.int .i64 player_1)], .box b3 0 [.lit (.int .i64 week_2)], .box b4 0 [.lit (.int .i64 0)], .box b5 0 [.lit (.int .i64 0)], .box b22 0 [gL b9 0 0]], .three (.cell1 8 3 rfl (i := 5) rfl bM rfl) (.cell1 9 3 rfl (i := 6) rfl bM rfl) (.tmp 10 (v := .d (.lit (.int .i64 e11))) rfl), .refl _, .same _⟩
  ·have h := aT c23 h
   refine bE ?_
   refine aG ?_
   refine aG ?_
   refine aE ?_
   refine tr1 rfl (aD (v := .d (.sl 1 (prizes_3.map cL))) (aA rfl) rfl rfl) ?_
   refine tr1 rfl (dB (aA rfl) rfl fL.of) ?_
   refine tr1 rfl (bC (aA rfl) rfl rfl rfl) ?_
   refine tr1 rfl (aD (v := .d (.lit (.bool ((decide (4 < (prizes_3.length : Int))))))) (aA rfl) rfl rfl) ?_
   obtain ⟨b24, h25, h⟩ := bind_some h
   refine cA 3 [3, 5, 6, 8, 9, 11] 31 b24 ?_ ?_
   ·refine bJ (decide (4 < (prizes_3.length : Int))) (fun c43 => ?_) (fun c43 => ?_)
    ·have h25 := aU c43 h25
     refine aR rfl rfl (aA rfl) rfl (aA rfl) rfl c43 ?_
     refine aR rfl rfl (aA rfl) rfl (aA rfl) rfl c43 ?_
     refine tr1 rfl (bW (v := .d (.lit (.bool true))) (aA rfl) rfl c43 rfl rfl) ?_
     have h25 := Option.some.inj h25
     subst h25
     refine aF (bB rfl ⟨rfl, rfl, rfl, rfl, rfl, rfl, trivial⟩ rfl)
    ·have h25 := aT c43 h25
     refine aP rfl rfl (aA rfl) rfl c43 (aD (v := .d (.sl 1 (prizes_3.map cL))) (aA rfl) rfl rfl) ?_
     obtain ⟨r45, h46, h25⟩ := bind_some h25
     refine aP rfl rfl (aA rfl) rfl c43 (cC (aA rfl) (.func _ _ Try.call45) rfl rfl (BVs.refl _ _) (oS _ _ 46 [] Try.call46 (fun _ _ h25 => wH _ h25) h46) rfl) ?_
     refine tr1 rfl (bT (v := .d (.lit (.bool r45))) (aA rfl) rfl c43 rfl rfl) ?_
     have h25 := Option.some.inj h25
     subst h25
     refine aF (bB rfl ⟨rfl, rfl, rfl, rfl, rfl, rfl, trivial⟩ rfl)
   ·refine aF ?_
    refine bH rfl (fun c26 => ?_) (fun c26 => ?_)
    ·have h := aU c26 h
     refine aG ?_
     refine aE ?_
     refine tr1 rfl (bO (i := 5) rfl rfl rfl rfl rfl Try.sizeOf3 rfl (aA rfl) (Nat.le_of_ble_eq_true rfl) (ds' := [.lit (.int .i64 0)]) rfl) ?_
     refine tr1 rfl (bO (i := 6) rfl rfl rfl rfl rfl Try.sizeOf3 rfl (aA rfl) (Nat.le_of_ble_eq_true rfl) (ds' := [.lit (.int .i64 0)]) rfl) ?_
     refine tr1 rfl (aJ (v := .d (.lit (.int .i64 42))) (aA rfl) rfl rfl) ?_
     refine aF ?_
     have h := Option.some.inj h
     subst h
     exact bI ⟨rfl, _, [.box b9 0 [.lit (.int .i64 y8.Ledger.Players), .lit (.int .i64 y8.Ledger.Counts), .lit w10, .sl 3 (y8.Ledger.Bans.map aH), .sl 3 (y8.Ledger.Frozen.map aH)], .arr w10 42 5 (y8.Ledger.Reports.map aB), .box b1 0 (aN l_0), .box b2 0 [.lit (.int .i64 player_1)], .box b3 0 [.lit (.int .i64 week_2)], .box b4 0 [.lit (.int .i64 0)], .box b5 0 [.lit (.int .i64 0)], .box b22 0 [gL b9 0 0]], .three (.cell1 8 3 rfl (i := 5) rfl bM rfl) (.cell1 9 3 rfl (i := 6) rfl bM rfl) (.tmp 10 (v := .d (.lit (.int .i64 42))) rfl), .refl _, .same _⟩
    ·have h := aT c26 h
     refine bE ?_
     refine aG ?_
     refine aE ?_
     refine tr1 rfl (iL 3 1 (.inl rfl) (aA rfl)) ?_
     refine aF ?_
     refine aG ?_
     refine aG ?_
     refine aE ?_
     refine tr1 rfl (sZ (i := 7) (aA rfl) rfl rfl rfl wD) ?_
     refine tr1 rfl (kS (aA rfl) rfl) ?_
     refine tr1 rfl (aS (aA rfl) rfl iS) ?_
     refine tr1 rfl (aS (aA rfl) rfl jH) ?_
     refine tr1 rfl (aV (aA rfl) rfl (i := 0) rfl rfl bM) ?_
     refine tr1 rfl (aD (v := .d (.lit (.int .i64 0))) (aA rfl) rfl rfl) ?_
     refine aF ?_
     refine bQ ?_
     refine cH [3, 5, 6, 8, 9, 11, 36] (fun (s28 : Int × (List Int) × Value) => [(12, .d (.lit s28.2.2)), (37, .d (.lit (.int .i64 s28.1)))]) (fun (s28 : Int × (List Int) × Value) => [.box b2 0 [.lit (.int .i64 player_1)], .box b3 0 [.lit (.int .i64 week_2)], .box b4 0 [.lit (.int .i64 0)], .box b5 0 [.lit (.int .i64 0)], .box b22 0 [gL b9 0 0], .arr s28.2.2 3 1 (s28.2.1.map cL), .arr w10 42 5 (y8.Ledger.Reports.map aB), .box b9 0 [.lit (.int .i64 y8.Ledger.Players), .lit (.int .i64 y8.Ledger.Counts), .lit w10, .sl 3 (y8.Ledger.Bans.map aH), .sl 3 (y8.Ledger.Frozen.map aH)]]) (fun (k : Nat) (s28 : Int × (List Int) × Value) => nZ prizes_3 y8.Ledger.Players player_1 week_2 0 0 y8.Ledger.Reports y8.Ledger.Players y8.Ledger.Counts y8.Ledger.Bans y8.Ledger.Frozen k s28.1 s28.2.1) (fun _ => rfl) (0, ([] : List Int), (.slice none 0 0)) h (aX [3, 4, 5, 6, 7, 8, 1, 0] rfl rfl (aO rfl (aO rfl (aY ⟨rfl, rfl, rfl, rfl, rfl, rfl, rfl, trivial⟩)))) ?_
     rintro k30 ⟨t37_0_28, free_0_28, w29⟩ h
     simp only [nZ] at h
     refine aG ?_
     refine aE ?_
     refine tr1 rfl (bC (aA rfl) rfl rfl rfl) ?_
     refine aF ?_
     refine aG ?_
     refine bH rfl (fun c31 => ?_) (fun c31 => ?_)
     ·have h := aU c31 h
      refine bE ?_
      refine aG ?_
      refine bQ ?_
      refine aG ?_
      refine aE ?_
      refine tr1 rfl (aD (v := .d (.lit (.int .i64 t37_0_28))) (aA rfl) rfl rfl) ?_
      refine tr1 rfl (aJ (v := .d (.lit (.int .i64 t37_0_28))) (aA rfl) rfl rfl) ?_
      refine aF ?_
      refine aG ?_
      refine fU mix 7 [3, 5, 6, 8, 9, 11, 12, 13, 36, 37] [(44, .d (.sl 3 (y8.Ledger.Bans.map aH))), (45, .d (.lit (.int .i64 t37_0_28))), (46, .d (.lit (.int .i64 week_2)))] ?_ ?_
      ·refine ⟨[(40, 0, .bp b9 0 0), (41, 1, .bp b9 0 0), (42, 2, .bp b9 0 0), (43, 3, .bp b9 0 3), (44, 4, .d (.sl 3 (y8.Ledger.Bans.map aH))), (45, 5, .d (.lit (.int .i64 t37_0_28))), (46, 6, .d (.lit (.int .i64 week_2)))], ?_, ?_⟩
       · exact ⟨by kernel_rfl, by kernel_rfl, by kernel_rfl, by kernel_rfl, by kernel_rfl, [([], []), ([0], []), ([1], []), ([2], []), ([3], []), ([], []), ([], [])], by kernel_rfl, ⟨fun S hS => aK rfl (aQ rfl (sZ (i := 4) (aA rfl) (aI hS rfl) rfl rfl wD)),
      fun S hS => aK rfl (aQ rfl (kS (aA rfl) (aI hS rfl))),
      fun S hS => aK rfl (aQ rfl (aS (aA rfl) (aI hS rfl) iS)),
      fun S hS => aK rfl (aQ rfl (aS (aA rfl) (aI hS rfl) jI)),
      fun S hS => aK rfl (aQ rfl (aV (aA rfl) (aI hS rfl) (i := 7) rfl rfl fV)),
      fun S hS => aK rfl (aQ rfl (aD (v := .d (.lit (.int .i64 t37_0_28))) (aA rfl) (aI hS rfl) rfl)),
      fun S hS => aK rfl (aQ rfl (aV (aA rfl) (aI hS rfl) (i := 1) rfl rfl bM)), trivial⟩⟩
       · exact dX (aO rfl (aO rfl (aO rfl (aY ⟨rfl, rfl, rfl, rfl, rfl, rfl, rfl, rfl, rfl, rfl, trivial⟩))))
      ·obtain ⟨r32, h33, h⟩ := bind_some h
       refine tr1 rfl (cC (aA rfl) (.func _ _ Try.call48) rfl rfl (BVs.refl _ _) (vM _ _ _ h33) rfl) ?_
       refine tr1 rfl (fO (aA rfl) rfl) ?_
       refine aF ?_
       refine bH rfl (fun c34 => ?_) (fun c34 => ?_)
       ·have h := aU c34 h
        refine aE ?_
        refine tr1 rfl (aD (v := .d (.lit w29)) (aA rfl) rfl rfl) ?_
        refine tr1 rfl (aD (v := .d (.lit (.int .i64 t37_0_28))) (aA rfl) rfl rfl) ?_
        refine tr1 rfl (jJ (aA rfl) fL rfl rfl (rows := ([t37_0_28]).map cL) rfl (cY (f := cL) fun _ => rfl) rfl (by decide)) ?_
        obtain ⟨x35, h36, h⟩ := bind_some h
        refine bR rfl (kA (i := 5) (aA rfl) fL rfl rfl rfl (fun _ => rfl) h36 rfl) ?_
        rintro _ ⟨v37, rfl⟩
        refine tr1 rfl (aJ (v := .d (.lit v37)) (aA rfl) rfl rfl) ?_
        refine eC ?_
        refine aE ?_
        refine tr1 rfl (aZ (aA rfl) rfl rfl rfl) ?_
        refine tr1 rfl (aD (v := .d (.lit (.int .i64 ((w64 (t37_0_28 + 1)))))) (aA rfl) rfl rfl) ?_
        refine aF ?_
        exact ⟨(w64 (t37_0_28 + 1), x35, v37), h, aX [0, 1, 2, 3, 4, 5, 6, 7] rfl rfl (aO rfl (aO rfl (aY ⟨rfl, rfl, rfl, rfl, rfl, rfl, rfl, trivial⟩)))⟩
       ·have h := aT c34 h
        refine eF ?_
        refine aE ?_
        refine tr1 rfl (aZ (aA rfl) rfl rfl rfl) ?_
        refine tr1 rfl (aD (v := .d (.lit (.int .i64 ((w64 (t37_0_28 + 1)))))) (aA rfl) rfl rfl) ?_
        refine aF ?_
        exact ⟨(w64 (t37_0_28 + 1), free_0_28, w29), h, aX [0, 1, 2, 3, 4, 5, 6, 7] rfl rfl (aO rfl (aO rfl (aY ⟨rfl, rfl, rfl, rfl, rfl, rfl, rfl, trivial⟩)))⟩
     ·have h := aT c31 h
      refine cQ ?_
      refine .inl ⟨rfl, ?_⟩
      simp only [xD] at h
      refine aG ?_
      refine aE ?_
      refine tr1 rfl (sZ (i := 4) (aA rfl) rfl rfl rfl wD) ?_
      refine tr1 rfl (kS (aA rfl) rfl) ?_
      refine tr1 rfl (aS (aA rfl) rfl iS) ?_
      refine tr1 rfl (aS (aA rfl) rfl jH) ?_
      refine tr1 rfl (aV (aA rfl) rfl (i := 7) rfl rfl bM) ?_
      refine tr1 rfl (aZ (aA rfl) rfl rfl rfl) ?_
      refine tr1 rfl (bO (i := 2) rfl rfl rfl rfl rfl Try.sizeOf3 rfl (aA rfl) (Nat.le_of_ble_eq_true rfl) (ds' := [.lit (.int .i64 ((w64 (y8.Ledger.Players + 1))))]) rfl) ?_
      refine tr1 rfl (bO (i := 3) rfl rfl rfl rfl rfl Try.sizeOf3 rfl (aA rfl) (Nat.le_of_ble_eq_true rfl) (ds' := [.lit (.int .i64 0)]) rfl) ?_
      refine aF ?_
      refine aG ?_
      refine aE ?_
      refine bR rfl (fF (zs := [.lit (.bool false)]) (aA rfl) Try.zeroValue4 rfl rfl) ?_
      rintro _ ⟨b38, rfl⟩
      refine tr1 rfl (bO (i := 8) rfl rfl rfl rfl rfl Try.sizeOf4 rfl (aA rfl) (Nat.le_of_ble_eq_true rfl) (ds' := [.lit (.bool false)]) rfl) ?_
      refine aF ?_
      refine aG ?_
      refine aE ?_
      refine tr1 rfl (sZ (i := 4) (aA rfl) rfl rfl rfl wD) ?_
      refine tr1 rfl (aV (aA rfl) rfl (i := 1) rfl rfl bM) ?_
      refine tr1 rfl (aD (v := .d (.sl 1 (prizes_3.map cL))) (aA rfl) rfl rfl) ?_
      refine tr1 rfl (aD (v := .d (.lit w29)) (aA rfl) rfl rfl) ?_
      refine tr1 rfl (yC (aA rfl) rfl rfl) ?_
      refine gJ (aX [0, 1, 2, 3, 4, 6, 7, 8, 5] rfl rfl (le_refl _)) ?_
      refine gJ (vY [.box b2 0 [.lit (.int .i64 player_1)], .box b3 0 [.lit (.int .i64 week_2)], .box b4 0 [.lit (.int .i64 ((w64 (y8.Ledger.Players + 1))))], .box b5 0 [.lit (.int .i64 0)], .box b22 0 [gL b9 0 0], .arr w10 42 5 (y8.Ledger.Reports.map aB), .box b9 0 [.lit (.int .i64 y8.Ledger.Players), .lit (.int .i64 y8.Ledger.Counts), .lit w10, .sl 3 (y8.Ledger.Bans.map aH), .sl 3 (y8.Ledger.Frozen.map aH)], .box b38 0 [.lit (.bool false)]] [.arr w29 3 1 (free_0_28.map cL)] rfl (jK (k := 63) (v := .d (.sl 1 (free_0_28.map cL))) (.d (jP 0 rfl (cY (f := cL) fun _ => rfl))) (jK (k := 12) (v := .d (.sl 1 (free_0_28.map cL))) (.d (jP 0 rfl (cY (f := cL) fun _ => rfl))) (qJ _ _)))) ?_
      refine gJ (aX [6, 0, 1, 2, 3, 4, 7, 5] rfl rfl (le_refl _)) ?_
      refine gJ (aEx (ds' := (cD y8)) [.box b2 0 [.lit (.int .i64 player_1)], .box b3 0 [.lit (.int .i64 week_2)], .box b4 0 [.lit (.int .i64 ((w64 (y8.Ledger.Players + 1))))], .box b5 0 [.lit (.int .i64 0)], .box b22 0 [gL b9 0 0], .box b38 0 [.lit (.bool false)]] [.arr w10 42 5 (y8.Ledger.Reports.map aB)] rfl (dvc (.same _) (dvc (.same _) (dvc (jP 0 rfl (cY (f := aB) fun _ => rfl)) (dvc (.same _) (dvc (.same _) dvn))))) (qJ _ _)) ?_
      obtain ⟨r39, h40, h⟩ := bind_some h
      refine gJ (aX [0, 5, 1, 2, 6, 3, 4] rfl rfl (le_refl _)) ?_
      refine bR rfl (dQ (passed := [.box b9 0 (cD y8), .box b22 0 [gL b9 0 0], .box b2 0 [.lit (.int .i64 player_1)], .box b3 0 [.lit (.int .i64 week_2)], .box b38 0 [.lit (.bool false)], .box b4 0 [.lit (.int .i64 ((w64 (y8.Ledger.Players + 1))))], .box b5 0 [.lit (.int .i64 0)]]) (aA rfl) rfl (.func _ _ Try.call49) rfl rfl (xH y8 player_1 week_2 false (w64 (y8.Ledger.Players + 1)) 0 week_2 prizes_3 free_0_28 h40)) ?_
      rintro _ ⟨_, _, ⟨rfl, rfl⟩, rfl⟩
      refine aF ?_
      refine aG ?_
      refine aG ?_
      refine aE ?_
      refine tr1 rfl (aV (aA rfl) rfl (i := 4) rfl rfl tQ) ?_
      refine aF ?_
      refine bH rfl (fun c41 => ?_) (fun c41 => ?_)
      ·have h := aU c41 h
       refine aG ?_
       refine aE ?_
       refine tr1 rfl (bO (i := 5) rfl rfl rfl rfl rfl Try.sizeOf3 rfl (aA rfl) (Nat.le_of_ble_eq_true rfl) (ds' := [.lit (.int .i64 0)]) rfl) ?_
       refine tr1 rfl (bO (i := 6) rfl rfl rfl rfl rfl Try.sizeOf3 rfl (aA rfl) (Nat.le_of_ble_eq_true rfl) (ds' := [.lit (.int .i64 0)]) rfl) ?_
       refine tr1 rfl (aJ (v := .d (.lit (.int .i64 3))) (aA rfl) rfl rfl) ?_
       refine aF ?_
       have h := Option.some.inj h
       subst h
       exact bI ⟨rfl, _, [.box b9 0 (cD r39.1), .box b22 0 [gL b9 0 0], .box b2 0 [.lit (.int .i64 player_1)], .box b3 0 [.lit (.int .i64 week_2)], .box b38 0 [.lit (.bool r39.2.1)], .box b4 0 [.lit (.int .i64 0)], .box b5 0 [.lit (.int .i64 0)]], .three (.cell1 8 3 rfl (i := 5) rfl bM rfl) (.cell1 9 3 rfl (i := 6) rfl bM rfl) (.tmp 10 (v := .d (.lit (.int .i64 3))) rfl), .refl _, .same _⟩
      ·have h := aT c41 h
       refine bE ?_
       refine aG ?_
       refine lC mix 3 [8, 9] (fun X42 => [(68, .d (.lit (.int .i64 r39.2.2.2)))]) (fun X42 => [.box b9 0 (cD r39.1), .box b22 0 [gL b9 0 0], .box b2 0 [.lit (.int .i64 player_1)], .box b3 0 [.lit (.int .i64 week_2)], .box b38 0 [.lit (.bool r39.2.1)], .box b4 0 [.lit (.int .i64 r39.2.2.1)], .box b5 0 [.lit (.int .i64 r39.2.2.2)]]) ?_ ?_
       ·refine ⟨0, fun X42 => [(67, 0, .d (.lit (.int .i64 r39.2.2.1))), (68, 1, .d (.lit (.int .i64 r39.2.2.2)))], fun X42 => [([], .box b9 0 (cD r39.1)), ([], .box b22 0 [gL b9 0 0]), ([], .box b2 0 [.lit (.int .i64 player_1)]), ([], .box b3 0 [.lit (.int .i64 week_2)]), ([], .box b38 0 [.lit (.bool r39.2.1)]), ([(2, .box b4 0 [.lit (.int .i64 r39.2.2.1)])], .box b4 0 [.lit (.int .i64 r39.2.2.1)]), ([], .box b5 0 [.lit (.int .i64 r39.2.2.2)])], ?_, ?_⟩
        · exact ⟨by kernel_rfl, by kernel_rfl, by kernel_rfl, fun _ => by kernel_rfl, fun _ => by kernel_rfl, fun _ => by kernel_rfl, fun _ => rfl, [([], [2]), ([], []), ([0], [])], by kernel_rfl, ⟨fun X42 S hw hi hS => bG (X := X42) rfl (hw X42) rfl (aQ rfl (aV (aA rfl) (aI hS rfl) (i := 5) (og hS rfl rfl) rfl bM)),
      fun X42 S hw hi hS => bG (X := X42) rfl (hw X42) rfl (aQ rfl (aV (aA rfl) (aI hS rfl) (i := 6) (og hS rfl rfl) rfl bM)),
      fun X42 S hw hi hS => qY (X := X42) hS rfl rfl rfl (p := 5) rfl rfl (aQ rfl (bO (i := 5) (aI hS rfl) (og hS rfl rfl) (aI hS rfl) rfl rfl Try.sizeOf3 rfl (aA rfl) (Nat.le_of_ble_eq_true rfl) (ds' := [.lit (.int .i64 r39.2.2.1)]) rfl)), trivial⟩⟩
        · exact fun X42 => dX (aO rfl (aY ⟨rfl, rfl, trivial⟩))
       ·intro X42
        refine tr1 rfl (bO (i := 6) rfl rfl rfl rfl rfl Try.sizeOf3 rfl (aA rfl) (Nat.le_of_ble_eq_true rfl) (ds' := [.lit (.int .i64 r39.2.2.2)]) rfl) ?_
        refine tr1 rfl (aJ (v := .d (.lit (.int .i64 0))) (aA rfl) rfl rfl) ?_
        refine aF ?_
        have h := Option.some.inj h
        subst h
        exact bI ⟨rfl, _, [.box b9 0 (cD r39.1), .box b22 0 [gL b9 0 0], .box b2 0 [.lit (.int .i64 player_1)], .box b3 0 [.lit (.int .i64 week_2)], .box b38 0 [.lit (.bool r39.2.1)], .box b4 0 [.lit (.int .i64 r39.2.2.1)], .box b5 0 [.lit (.int .i64 r39.2.2.2)]], .three (.cell1 8 3 rfl (i := 5) rfl bM rfl) (.cell1 9 3 rfl (i := 6) rfl bM rfl) (.tmp 10 (v := .d (.lit (.int .i64 0))) rfl), .refl _, .same _⟩

theorem sW (b_0 : bX) (player_1 : Int) (week_2 : Int) {r : Int} (h : nU b_0 player_1 week_2 = some r) : Fn Try.prog 55 [.cp (cD b_0), .d (.lit (.int .i64 player_1)), .d (.lit (.int .i64 week_2))] (.d (.lit (.int .i64 r))) := by
 unfold nU at h
 refine Fn.of_tr Try.func55 rfl (rs := [.tmp 6]) Try.results55 Try.ntmps55 (Nat.le_of_ble_eq_true rfl) ?_
 refine aG ?_
 refine aE ?_
 refine tr1 rfl (aJ (v := .d (.lit (.int .i64 0))) (aA rfl) rfl rfl) ?_
 refine aF ?_
 refine aG ?_
 refine aE ?_
 refine tr1 rfl (aD (v := .cp [.lit (.int .i64 b_0.Ledger.Players), .lit (.int .i64 b_0.Ledger.Counts), .sl 5 (b_0.Ledger.Reports.map aB), .sl 3 (b_0.Ledger.Bans.map aH), .sl 3 (b_0.Ledger.Frozen.map aH)]) (aA rfl) rfl rfl) ?_
 refine tr1 rfl (aD (v := .cp [.lit (.int .i64 b_0.Ledger.Players), .lit (.int .i64 b_0.Ledger.Counts), .sl 5 (b_0.Ledger.Reports.map aB), .sl 3 (b_0.Ledger.Bans.map aH), .sl 3 (b_0.Ledger.Frozen.map aH)]) (aA rfl) rfl rfl) ?_
 refine tr1 rfl (aD (v := .d (.lit (.int .i64 player_1))) (aA rfl) rfl rfl) ?_
 refine tr1 rfl (aD (v := .d (.lit (.int .i64 week_2))) (aA rfl) rfl rfl) ?_
 obtain ⟨r1, h2, h⟩ := bind_some h
 refine tr1 rfl (jZ (aA rfl) (.func _ _ Try.call72) rfl rfl (tL _ _ _ h2)) ?_
 obtain ⟨r3, h4, h⟩ := bind_some h
 refine tr1 rfl (jZ (aA rfl) (.func _ _ Try.call71) rfl rfl (tN _ _ h4)) ?_
 obtain ⟨r5, h6, h⟩ := bind_some h
 refine tr1 rfl (cC (aA rfl) (.func _ _ Try.call86) rfl rfl (BVs.refl _ _) (aAl _ h6) rfl) ?_
 refine tr1 rfl (aJ (v := .d (.lit (.int .i64 r5))) (aA rfl) rfl rfl) ?_
 refine aF ?_
 have h := Option.some.inj h
 subst h
 exact bI ⟨rfl, _, .one _, rfl, rfl⟩

theorem rU (s_0 : List aC) (f_1 : aC → Option Bool) {r : Int} (f_1_f : Nat) (f_1_v : List AV) (f_1_e : ∀ args w, (callFunc f_1_f args).run Try.prog w = .ok (.enter f_1_f args) w) (f_1_h : ∀ (x0 : aC) r, f_1 x0 = some r → Fn Try.prog f_1_f ([.agg (aB x0)] ++ f_1_v) (.d (.lit (.bool r)))) (h : lA s_0 f_1 = some r) : Fn Try.prog 75 [.d (.sl 5 (s_0.map aB)), .fn f_1_f f_1_v] (.d (.lit (.int .i64 r))) := by
 unfold lA at h
 refine Fn.of_tr Try.func75 rfl (rs := [.tmp 4]) Try.results75 Try.ntmps75 (Nat.le_of_ble_eq_true rfl) ?_
 refine aG ?_
 refine aE ?_
 refine tr1 rfl (aJ (v := .d (.lit (.int .i64 0))) (aA rfl) rfl rfl) ?_
 refine aF ?_
 refine aG ?_
 refine aG ?_
 refine aE ?_
 refine tr1 rfl (aD (v := .d (.sl 5 (s_0.map aB))) (aA rfl) rfl rfl) ?_
 refine tr1 rfl (dB (aA rfl) rfl bP.of) ?_
 refine tr1 rfl (aD (v := .d (.lit (.int .i64 0))) (aA rfl) rfl rfl) ?_
 refine aF ?_
 refine bQ ?_
 refine cH [0, 1, 7] (fun (s1 : Int) => [(8, .d (.lit (.int .i64 s1)))]) (fun (s1 : Int) => []) (fun (k : Nat) (s1 : Int) => hY s_0 f_1 (s_0.length : Int) k s1) (fun _ => rfl) (0) h (aX [] rfl rfl (aO rfl (aY ⟨rfl, rfl, rfl, trivial⟩))) ?_
 rintro k2 t8_0_1 h
 simp only [hY] at h
 refine aG ?_
 refine aE ?_
 refine tr1 rfl (bC (aA rfl) rfl rfl rfl) ?_
 refine aF ?_
 refine aG ?_
 refine bH rfl (fun c3 => ?_) (fun c3 => ?_)
 ·have h := aU c3 h
  refine bE ?_
  refine aG ?_
  refine bQ ?_
  refine aG ?_
  refine aE ?_
  refine tr1 rfl (aD (v := .d (.lit (.int .i64 t8_0_1))) (aA rfl) rfl rfl) ?_
  refine tr1 rfl (aJ (v := .d (.lit (.int .i64 t8_0_1))) (aA rfl) rfl rfl) ?_
  refine aF ?_
  refine aG ?_
  refine aE ?_
  refine tr1 rfl (aD (v := .fn f_1_f f_1_v) (aA rfl) rfl rfl) ?_
  refine tr1 rfl (aD (v := .d (.sl 5 (s_0.map aB))) (aA rfl) rfl rfl) ?_
  refine tr1 rfl (aD (v := .d (.lit (.int .i64 t8_0_1))) (aA rfl) rfl rfl) ?_
  obtain ⟨x4, h5, h⟩ := bind_some h
  refine tr1 rfl (bY (aA rfl) rfl rfl bP.of (bN aB h5)) ?_
  refine tr1 rfl (eH (aA rfl) rfl dR (es := (aB x4)) rfl rfl) ?_
  obtain ⟨r6, h7, h⟩ := bind_some h
  refine tr1 rfl (cC (aA rfl) (.clo _ _ _ _ f_1_e rfl) (uB rfl) rfl (BVs.refl _ _) (f_1_h _ _  h7) rfl) ?_
  refine aF ?_
  refine bH rfl (fun c8 => ?_) (fun c8 => ?_)
  ·have h := aU c8 h
   refine aG ?_
   refine aE ?_
   refine tr1 rfl (aD (v := .d (.lit (.int .i64 t8_0_1))) (aA rfl) rfl rfl) ?_
   refine tr1 rfl (aJ (v := .d (.lit (.int .i64 t8_0_1))) (aA rfl) rfl rfl) ?_
   refine aF ?_
   have h := Option.some.inj h
   subst h
   exact bI ⟨rfl, _, .one _, rfl, rfl⟩
  ·have h := aT c8 h
   refine eF ?_
   refine aE ?_
   refine tr1 rfl (aZ (aA rfl) rfl rfl rfl) ?_
   refine tr1 rfl (aD (v := .d (.lit (.int .i64 ((w64 (t8_0_1 + 1)))))) (aA rfl) rfl rfl) ?_
   refine aF ?_
   exact ⟨(w64 (t8_0_1 + 1)), h, aX [] rfl rfl (aO rfl (aY ⟨rfl, rfl, rfl, trivial⟩))⟩
 ·have h := aT c3 h
  refine cQ ?_
  refine .inl ⟨rfl, ?_⟩
  simp only [mU] at h
  refine aG ?_
  refine aE ?_
  refine tr1 rfl (aJ (v := .d (.lit (.int .i64 (-1)))) (aA rfl) rfl rfl) ?_
  refine aF ?_
  have h := Option.some.inj h
  subst h
  exact bI ⟨rfl, _, .one _, rfl, rfl⟩

theorem rP (s_0 : List aC) (del_1 : aC → Option Bool) {r : (List aC)} {s_0_v : Value} (del_1_f : Nat) (del_1_v : List AV) (del_1_e : ∀ args w, (callFunc del_1_f args).run Try.prog w = .ok (.enter del_1_f args) w) (del_1_h : ∀ (x0 : aC) r, del_1 x0 = some r → Fn Try.prog del_1_f ([.agg (aB x0)] ++ del_1_v) (.d (.lit (.bool r)))) (h : kP s_0 del_1 = some r) : fQ Try.prog 56 [.d (.lit s_0_v), .fn del_1_f del_1_v] [.arr s_0_v 42 5 (s_0.map aB)] (fun r' o' => ∃ w0 : Value, r' = .d (.lit w0) ∧ o' = [.arr w0 42 5 (r.map aB)]) := by
 unfold kP at h
 refine kQ Try.func56 rfl (rs := [.tmp 4]) Try.results56 Try.ntmps56 (Nat.le_of_ble_eq_true rfl) ?_
 refine aG ?_
 refine aE ?_
 refine tr1 rfl (iL 42 5 (.inl rfl) (aA rfl)) ?_
 refine aF ?_
 refine aG ?_
 refine aE ?_
 refine tr1 rfl (aD (v := .d (.lit s_0_v)) (aA rfl) rfl rfl) ?_
 refine tr1 rfl (aD (v := .fn del_1_f del_1_v) (aA rfl) rfl rfl) ?_
 obtain ⟨r2, h3, h⟩ := bind_some h
 refine tr1 rfl (cC (aA rfl) (.func _ _ Try.call75) rfl rfl (.cons (.d (jP 0 rfl (cY (f := aB) fun _ => rfl))) (.cons (.same _) .nil)) (rU _ _ del_1_f del_1_v del_1_e del_1_h h3) rfl) ?_
 refine tr1 rfl (aJ (v := .d (.lit (.int .i64 r2))) (aA rfl) rfl rfl) ?_
 refine aF ?_
 refine aG ?_
 refine aG ?_
 refine aE ?_
 refine tr1 rfl (aD (v := .d (.lit (.int .i64 r2))) (aA rfl) rfl rfl) ?_
 refine tr1 rfl (bC (aA rfl) rfl rfl rfl) ?_
 refine aF ?_
 refine bH rfl (fun c4 => ?_) (fun c4 => ?_)
 ·have h := aU c4 h
  refine aG ?_
  refine aE ?_
  refine tr1 rfl (aD (v := .d (.lit s_0_v)) (aA rfl) rfl rfl) ?_
  refine tr1 rfl (aJ (v := .d (.lit s_0_v)) (aA rfl) rfl rfl) ?_
  refine aF ?_
  have h := Option.some.inj h
  subst h
  exact bI ⟨rfl, _, [.arr s_0_v 42 5 (s_0.map aB)], [.arr (.slice none 0 0) 42 5 (([] : List aC).map aB)], _, .one (.tmp 4 (v := .d (.lit s_0_v)) rfl), .refl _, .same _, s_0_v, rfl, rfl⟩
 ·have h := aT c4 h
  refine bE ?_
  refine aG ?_
  refine aG ?_
  refine aE ?_
  refine tr1 rfl (aD (v := .d (.lit (.int .i64 r2))) (aA rfl) rfl rfl) ?_
  refine tr1 rfl (aZ (aA rfl) rfl rfl rfl) ?_
  refine tr1 rfl (aJ (v := .d (.lit (.int .i64 ((w64 (r2 + 1)))))) (aA rfl) rfl rfl) ?_
  refine aF ?_
  refine bQ ?_
  refine cH [1] (fun (s5 : Int × Int × (List aC)) => [(0, .d (.lit s_0_v)), (5, .d (.lit (.int .i64 s5.1))), (6, .d (.lit (.int .i64 s5.2.1)))]) (fun (s5 : Int × Int × (List aC)) => [.arr s_0_v 42 5 (s5.2.2.map aB)]) (fun (k : Nat) (s5 : Int × Int × (List aC)) => fS del_1 k s5.1 s5.2.1 s5.2.2) (fun _ => rfl) (r2, w64 (r2 + 1), s_0) h (aX [0] rfl rfl (aO rfl (aO rfl (aO rfl (aY ⟨rfl, trivial⟩))))) ?_
  rintro k6 ⟨i_0_5, j_0_5, s_0_5⟩ h
  simp only [fS] at h
  refine aG ?_
  refine aG ?_
  refine aE ?_
  refine tr1 rfl (aD (v := .d (.lit (.int .i64 j_0_5))) (aA rfl) rfl rfl) ?_
  refine tr1 rfl (aD (v := .d (.lit s_0_v)) (aA rfl) rfl rfl) ?_
  refine tr1 rfl (lR (m := 0) (aA rfl) rfl rfl bP.of) ?_
  refine tr1 rfl (bC (aA rfl) rfl rfl rfl) ?_
  refine aF ?_
  refine bH rfl (fun c7 => ?_) (fun c7 => ?_)
  ·have h := aU c7 h
   refine bE ?_
   refine aG ?_
   refine bQ ?_
   refine aG ?_
   refine aE ?_
   refine tr1 rfl (aD (v := .d (.lit s_0_v)) (aA rfl) rfl rfl) ?_
   refine tr1 rfl (aD (v := .d (.lit (.int .i64 j_0_5))) (aA rfl) rfl rfl) ?_
   obtain ⟨x8, h9, h⟩ := bind_some h
   refine tr1 rfl (cE (m := 0) (aA rfl) rfl rfl rfl bP.of (bN aB h9)) ?_
   refine tr1 rfl (dG (aA rfl) rfl (l := 0) rfl (eA aB h9) dR (es := (aB x8)) rfl rfl) ?_
   refine bR rfl (fF (zs := [.lit (.int .i64 0), .lit (.int .i64 0), .lit (.int .i64 0), .lit (.int .i64 0), .lit (.bool false)]) (aA rfl) Try.zeroValue42 rfl rfl) ?_
   rintro _ ⟨b10, rfl⟩
   refine tr1 rfl (bO (i := 1) rfl rfl rfl rfl rfl Try.sizeOf42 rfl (aA rfl) (Nat.le_of_ble_eq_true rfl) (ds' := (aB x8)) rfl) ?_
   refine aF ?_
   refine aG ?_
   refine aE ?_
   refine tr1 rfl (aD (v := .fn del_1_f del_1_v) (aA rfl) rfl rfl) ?_
   refine tr1 rfl (cS (aA rfl) rfl (i := 1) rfl dR (es := (aB x8)) rfl rfl) ?_
   obtain ⟨r11, h12, h⟩ := bind_some h
   refine tr1 rfl (cC (aA rfl) (.clo _ _ _ _ del_1_e rfl) (uB rfl) rfl (BVs.refl _ _) (del_1_h _ _  h12) rfl) ?_
   refine tr1 rfl (fO (aA rfl) rfl) ?_
   refine aF ?_
   refine bH rfl (fun c13 => ?_) (fun c13 => ?_)
   ·have h := aU c13 h
    refine aG ?_
    refine aE ?_
    refine tr1 rfl (aD (v := .d (.lit s_0_v)) (aA rfl) rfl rfl) ?_
    refine tr1 rfl (aD (v := .d (.lit (.int .i64 i_0_5))) (aA rfl) rfl rfl) ?_
    refine tr1 rfl (cS (aA rfl) rfl (i := 1) rfl dR (es := (aB x8)) rfl rfl) ?_
    obtain ⟨x14, h15, h⟩ := bind_some h
    refine tr1 rfl (cE (m := 0) (aA rfl) rfl rfl rfl bP.of (bN aB h15)) ?_
    refine tr1 rfl (jG (l := 0) rfl rfl (eA aB h15) rfl rfl rfl Try.sizeOf42 rfl (aA rfl) (Nat.le_of_ble_eq_true rfl) (rows' := ((s_0_5.set i_0_5.toNat x8)).map aB) (mL _ _ _ _ rfl)) ?_
    refine aF ?_
    refine aE ?_
    refine tr1 rfl (aD (v := .d (.lit (.int .i64 i_0_5))) (aA rfl) rfl rfl) ?_
    refine tr1 rfl (aZ (aA rfl) rfl rfl rfl) ?_
    refine tr1 rfl (aJ (v := .d (.lit (.int .i64 ((w64 (i_0_5 + 1)))))) (aA rfl) rfl rfl) ?_
    refine eC ?_
    refine aE ?_
    refine tr1 rfl (aD (v := .d (.lit (.int .i64 j_0_5))) (aA rfl) rfl rfl) ?_
    refine tr1 rfl (aZ (aA rfl) rfl rfl rfl) ?_
    refine tr1 rfl (aJ (v := .d (.lit (.int .i64 ((w64 (j_0_5 + 1)))))) (aA rfl) rfl rfl) ?_
    refine aF ?_
    exact ⟨(w64 (i_0_5 + 1), w64 (j_0_5 + 1), (s_0_5.set i_0_5.toNat x8)), h, aX [0] rfl rfl (aO rfl (aO rfl (aO rfl (aY ⟨rfl, trivial⟩))))⟩
   ·have h := aT c13 h
    refine eF ?_
    refine aE ?_
    refine tr1 rfl (aD (v := .d (.lit (.int .i64 j_0_5))) (aA rfl) rfl rfl) ?_
    refine tr1 rfl (aZ (aA rfl) rfl rfl rfl) ?_
    refine tr1 rfl (aJ (v := .d (.lit (.int .i64 ((w64 (j_0_5 + 1)))))) (aA rfl) rfl rfl) ?_
    refine aF ?_
    exact ⟨(i_0_5, w64 (j_0_5 + 1), s_0_5), h, aX [0] rfl rfl (aO rfl (aO rfl (aO rfl (aY ⟨rfl, trivial⟩))))⟩
  ·have h := aT c7 h
   refine cQ ?_
   refine .inl ⟨rfl, ?_⟩
   simp only [mH] at h
   refine aG ?_
   refine aE ?_
   refine tr1 rfl (aD (v := .d (.lit s_0_v)) (aA rfl) rfl rfl) ?_
   refine tr1 rfl (aD (v := .d (.lit (.int .i64 i_0_5))) (aA rfl) rfl rfl) ?_
   obtain ⟨u16, h17, h⟩ := bind_some h
   refine tr1 rfl (uS (m := 0) (aA rfl) rfl rfl rfl bP.of h17) ?_
   obtain ⟨u18, h19, h⟩ := bind_some h
   refine tr1 rfl (aDd (f := aB) (m := 0) bP rfl rfl h19 (by decide)) ?_
   refine aF ?_
   refine aG ?_
   refine aE ?_
   refine tr1 rfl (aD (v := .d (.lit s_0_v)) (aA rfl) rfl rfl) ?_
   refine tr1 rfl (aD (v := .d (.lit (.int .i64 i_0_5))) (aA rfl) rfl rfl) ?_
   obtain ⟨u20, h21, h⟩ := bind_some h
   refine tr1 rfl (nP (m := 0) (q := i_0_5.toNat) (v := s_0_v) (aA rfl) rfl rfl rfl rfl (vS h21) bP.of) ?_
   refine tr1 rfl (aJ (v := .d (.lit (fG s_0_v i_0_5.toNat))) (aA rfl) rfl rfl) ?_
   refine aF ?_
   have h := Option.some.inj h
   subst h
   exact bI ⟨rfl, _, [.arr (fG s_0_v i_0_5.toNat) 42 5 ((s_0_5.take i_0_5.toNat).map aB)], [], _, .one (.tmp 4 (v := .d (.lit (fG s_0_v i_0_5.toNat))) rfl), .refl _, .same _, (fG s_0_v i_0_5.toNat), rfl, rfl⟩

theorem zP (r_0 : aC) (c_1 : Int) {r : Bool} (h : pI r_0 c_1 = some r) : Fn Try.prog 57 [.agg (aB r_0), .cp [.lit (.int .i64 c_1)]] (.d (.lit (.bool r))) := by
 unfold pI at h
 refine Fn.of_tr Try.func57 rfl (rs := [.tmp 3]) Try.results57 Try.ntmps57 (Nat.le_of_ble_eq_true rfl) ?_
 refine aG ?_
 refine aE ?_
 refine bR rfl (fX (v := .agg (aB r_0)) (aA rfl) rfl rfl rfl) ?_
 rintro _ ⟨b1, rfl⟩
 refine tr1 rfl (aJ (v := .d (.lit (.bool false))) (aA rfl) rfl rfl) ?_
 refine aF ?_
 refine aG ?_
 refine aE ?_
 refine tr1 rfl (aS (aA rfl) rfl nE) ?_
 refine tr1 rfl (aV (aA rfl) rfl (i := 0) rfl rfl bM) ?_
 refine tr1 rfl (cK (aA rfl) rfl bM) ?_
 refine tr1 rfl (bC (aA rfl) rfl rfl rfl) ?_
 refine tr1 rfl (aJ (v := .d (.lit (.bool ((decide (c_1 < r_0.Week)))))) (aA rfl) rfl rfl) ?_
 refine aF ?_
 have h := Option.some.inj h
 subst h
 refine cR (cJ (cP (l := [3]) ⟨rfl, trivial⟩)) ?_
 exact bI ⟨rfl, _, .one _, rfl, rfl⟩

theorem aBc (l_0 : aM) (player_1 : Int) (week_2 : Int) {r : Int × Int} (h : uI l_0 player_1 week_2 = some r) : Fn Try.prog 21 [.agg (aN l_0), .d (.lit (.int .i64 player_1)), .d (.lit (.int .i64 week_2))] (.tup [.d (.lit (.int .i64 r.1)), .d (.lit (.int .i64 r.2))]) := by
 unfold uI at h
 refine Fn.of_tr Try.func21 rfl (rs := [.tmp 6, .tmp 7]) Try.results21 Try.ntmps21 (Nat.le_of_ble_eq_true rfl) ?_
 refine aG ?_
 refine aE ?_
 refine bR rfl (fX (v := .agg (aN l_0)) (aA rfl) rfl rfl rfl) ?_
 rintro _ ⟨b1, rfl⟩
 refine bR rfl (fX (v := .d (.lit (.int .i64 week_2))) (aA rfl) rfl rfl rfl) ?_
 rintro _ ⟨b2, rfl⟩
 refine tr1 rfl (aJ (v := .d (.lit (.int .i64 0))) (aA rfl) rfl rfl) ?_
 refine tr1 rfl (aJ (v := .d (.lit (.int .i64 0))) (aA rfl) rfl rfl) ?_
 refine aF ?_
 refine aG ?_
 refine aE ?_
 refine tr1 rfl (cS (aA rfl) rfl (i := 0) rfl dZ (es := (aN l_0)) rfl rfl) ?_
 refine tr1 rfl (aD (v := .d (.lit (.int .i64 player_1))) (aA rfl) rfl rfl) ?_
 refine tr1 rfl (aV (aA rfl) rfl (i := 1) rfl rfl bM) ?_
 obtain ⟨r3, h4, h⟩ := bind_some h
 refine bR rfl (dQ (passed := []) (aA rfl) rfl (.func _ _ Try.call44) rfl rfl (wV _ _ _ h4)) ?_
 rintro _ ⟨_, _, ⟨b6, w7, rfl, rfl⟩, rfl⟩
 obtain ⟨_ | y5, e8⟩ := r3
 ·have h := aAg h
  refine gJ (aX [0, 1] rfl rfl (le_refl _)) ?_
  refine tr1 rfl (aD (v := .tup [.d (.lit (.pointer none)), .d (.lit (.int .i64 e8))]) (aA rfl) rfl rfl) ?_
  refine tr1 rfl (dD (aA rfl) rfl rfl) ?_
  refine tr1 rfl (dD (aA rfl) rfl rfl) ?_
  refine tr1 rfl (aJ (v := .d (.lit (.pointer none))) (aA rfl) rfl rfl) ?_
  refine tr1 rfl (aJ (v := .d (.lit (.int .i64 e8))) (aA rfl) rfl rfl) ?_
  refine aF ?_
  refine aG ?_
  refine aG ?_
  refine aE ?_
  refine tr1 rfl (aD (v := .d (.lit (.int .i64 e8))) (aA rfl) rfl rfl) ?_
  refine tr1 rfl (bC (aA rfl) rfl rfl rfl) ?_
  refine aF ?_
  refine bH rfl (fun c9 => ?_) (fun c9 => ?_)
  ·have h := aU c9 h
   refine aG ?_
   refine aE ?_
   refine tr1 rfl (aD (v := .d (.lit (.int .i64 e8))) (aA rfl) rfl rfl) ?_
   refine tr1 rfl (aJ (v := .d (.lit (.int .i64 0))) (aA rfl) rfl rfl) ?_
   refine tr1 rfl (aJ (v := .d (.lit (.int .i64 e8))) (aA rfl) rfl rfl) ?_
   refine aF ?_
   have h := Option.some.inj h
   subst h
   refine cR (cJ (cP (l := [6, 7]) ⟨rfl, rfl, trivial⟩)) ?_
   exact bI ⟨rfl, _, .two _ _, rfl, rfl⟩
  ·have h := aT c9 h
   refine bE ?_
   refine aG ?_
   refine aG ?_
   refine aE ?_
   refine tr1 rfl (aV (aA rfl) rfl (i := 1) rfl rfl bM) ?_
   refine tr1 rfl (bC (aA rfl) rfl rfl rfl) ?_
   refine aF ?_
   refine bH rfl (fun c10 => ?_) (fun c10 => ?_)
   ·have h := aU c10 h
    refine aG ?_
    refine aE ?_
    refine tr1 rfl (aJ (v := .d (.lit (.int .i64 0))) (aA rfl) rfl rfl) ?_
    refine tr1 rfl (aJ (v := .d (.lit (.int .i64 1))) (aA rfl) rfl rfl) ?_
    refine aF ?_
    have h := Option.some.inj h
    subst h
    refine cR (cJ (cP (l := [6, 7]) ⟨rfl, rfl, trivial⟩)) ?_
    exact bI ⟨rfl, _, .two _ _, rfl, rfl⟩
   ·have h := aT c10 h
    refine bE ?_
    refine aG ?_
    refine aE ?_
    refine tr1 rfl (aD (v := .d (.lit (.pointer none))) (aA rfl) rfl rfl) ?_
    refine tr1 rfl (aD (v := .d (.lit (.int .i64 player_1))) (aA rfl) rfl rfl) ?_
    refine tr1 rfl (aV (aA rfl) rfl (i := 1) rfl rfl bM) ?_
    cases h
 ·have h := aAh h
  refine gJ (aX [0, 1, 2, 3] rfl rfl (le_refl _)) ?_
  refine tr1 rfl (aD (v := .tup [.bp b6 0 0, .d (.lit (.int .i64 e8))]) (aA rfl) rfl rfl) ?_
  refine tr1 rfl (dD (aA rfl) rfl rfl) ?_
  refine tr1 rfl (dD (aA rfl) rfl rfl) ?_
  refine tr1 rfl (aJ (v := .bp b6 0 0) (aA rfl) rfl rfl) ?_
  refine tr1 rfl (aJ (v := .d (.lit (.int .i64 e8))) (aA rfl) rfl rfl) ?_
  refine aF ?_
  refine aG ?_
  refine aG ?_
  refine aE ?_
  refine tr1 rfl (aD (v := .d (.lit (.int .i64 e8))) (aA rfl) rfl rfl) ?_
  refine tr1 rfl (bC (aA rfl) rfl rfl rfl) ?_
  refine aF ?_
  refine bH rfl (fun c11 => ?_) (fun c11 => ?_)
  ·have h := aU c11 h
   refine aG ?_
   refine aE ?_
   refine tr1 rfl (aD (v := .d (.lit (.int .i64 e8))) (aA rfl) rfl rfl) ?_
   refine tr1 rfl (aJ (v := .d (.lit (.int .i64 0))) (aA rfl) rfl rfl) ?_
   refine tr1 rfl (aJ (v := .d (.lit (.int .i64 e8))) (aA rfl) rfl rfl) ?_
   refine aF ?_
   have h := Option.some.inj h
   subst h
   refine cR (cJ (cP (l := [6, 7]) ⟨rfl, rfl, trivial⟩)) ?_
   exact bI ⟨rfl, _, .two _ _, rfl, rfl⟩
  ·have h := aT c11 h
   refine bE ?_
   refine aG ?_
   refine aG ?_
   refine aE ?_
   refine tr1 rfl (aV (aA rfl) rfl (i := 3) rfl rfl bM) ?_
   refine tr1 rfl (bC (aA rfl) rfl rfl rfl) ?_
   refine aF ?_
   refine bH rfl (fun c12 => ?_) (fun c12 => ?_)
   ·have h := aU c12 h
    refine aG ?_
    refine aE ?_
    refine tr1 rfl (aJ (v := .d (.lit (.int .i64 0))) (aA rfl) rfl rfl) ?_
    refine tr1 rfl (aJ (v := .d (.lit (.int .i64 1))) (aA rfl) rfl rfl) ?_
    refine aF ?_
    have h := Option.some.inj h
    subst h
    refine cR (cJ (cP (l := [6, 7]) ⟨rfl, rfl, trivial⟩)) ?_
    exact bI ⟨rfl, _, .two _ _, rfl, rfl⟩
   ·have h := aT c12 h
    refine bE ?_
    refine aG ?_
    refine aE ?_
    refine tr1 rfl (aD (v := .bp b6 0 0) (aA rfl) rfl rfl) ?_
    refine tr1 rfl (aD (v := .d (.lit (.int .i64 player_1))) (aA rfl) rfl rfl) ?_
    refine tr1 rfl (aV (aA rfl) rfl (i := 3) rfl rfl bM) ?_
    obtain ⟨r13, h14, h⟩ := bind_some h
    refine tr1 rfl (cC (aA rfl) (.func _ _ Try.call55) rfl rfl (.cons ((qD 0 rfl rfl (dvc (.same _) (dvc (.same _) (dvc (jP 1 rfl (cY (f := aB) fun _ => rfl)) (dvc (.same _) (dvc (.same _) dvn))))))) (.cons (.same _) (.cons (.same _) .nil))) (sW _ _ _ h14) rfl) ?_
    refine tr1 rfl (aJ (v := .d (.lit (.int .i64 r13))) (aA rfl) rfl rfl) ?_
    refine aF ?_
    refine aG ?_
    refine aE ?_
    refine tr1 rfl (aD (v := .bp b6 0 0) (aA rfl) rfl rfl) ?_
    refine tr1 rfl (aD (v := .bp b6 0 0) (aA rfl) rfl rfl) ?_
    refine tr1 rfl (kS (aA rfl) rfl) ?_
    refine tr1 rfl (aS (aA rfl) rfl iS) ?_
    refine tr1 rfl (aS (aA rfl) rfl dI) ?_
    refine tr1 rfl (aV (aA rfl) rfl (i := 0) rfl rfl fR) ?_
    refine tr1 rfl (yC (aA rfl) rfl rfl) ?_
    apply aEs [.box b6 0 [.lit (.int .i64 y5.Ledger.Players), .lit (.int .i64 y5.Ledger.Counts), .lit w7, .sl 3 (y5.Ledger.Bans.map aH), .sl 3 (y5.Ledger.Frozen.map aH)], .arr w7 42 5 (y5.Ledger.Reports.map aB), .box b1 0 (aN l_0)] [.box b2 0 [.lit (.int .i64 week_2)]] rfl
    exact jK (k := 33) (v := .fn 57 [.cp [.lit (.int .i64 week_2)]]) ((aCc (.cons ((qD 0 rfl rfl (dvc (.same _) dvn))) .nil))) (jK (k := 5) (v := .cp [.lit (.int .i64 week_2)]) ((qD 0 rfl rfl (dvc (.same _) dvn))) (qJ _ _))
    obtain ⟨r16, h17, h⟩ := bind_some h
    refine gJ (aX [1, 0, 2] rfl rfl (le_refl _)) ?_
    refine bR rfl (dQ (passed := [.arr w7 42 5 (y5.Ledger.Reports.map aB)]) (aA rfl) rfl (.func _ _ Try.call56) rfl rfl (rP y5.Ledger.Reports (fun y15 => pI y15 week_2) 57 [.cp [.lit (.int .i64 week_2)]] Try.call57 (fun _ _ h => zP _ _ h) h17)) ?_
    rintro _ ⟨_, _, ⟨v18, rfl, rfl⟩, rfl⟩
    refine tr1 rfl (kS (aA rfl) rfl) ?_
    refine tr1 rfl (aS (aA rfl) rfl iS) ?_
    refine tr1 rfl (aS (aA rfl) rfl dI) ?_
    refine tr1 rfl (bO (i := 1) rfl rfl rfl rfl rfl Try.sizeOf22 rfl (aA rfl) (Nat.le_of_ble_eq_true rfl) (ds' := [.lit (.int .i64 y5.Ledger.Players), .lit (.int .i64 y5.Ledger.Counts), .lit v18, .sl 3 (y5.Ledger.Bans.map aH), .sl 3 (y5.Ledger.Frozen.map aH)]) rfl) ?_
    refine aF ?_
    refine aG ?_
    refine aE ?_
    refine tr1 rfl (aD (v := .d (.lit (.int .i64 r13))) (aA rfl) rfl rfl) ?_
    refine tr1 rfl (aD (v := .bp b6 0 0) (aA rfl) rfl rfl) ?_
    refine tr1 rfl (aD (v := .d (.lit (.int .i64 player_1))) (aA rfl) rfl rfl) ?_
    refine tr1 rfl (cK (aA rfl) rfl bM) ?_
    refine tr1 rfl (aZ (aA rfl) rfl rfl rfl) ?_
    obtain ⟨r19, h20, h⟩ := bind_some h
    refine tr1 rfl (cC (aA rfl) (.func _ _ Try.call55) rfl rfl (.cons ((qD 1 rfl rfl (dvc (.same _) (dvc (.same _) (dvc (jP 0 rfl (cY (f := aB) fun _ => rfl)) (dvc (.same _) (dvc (.same _) dvn))))))) (.cons (.same _) (.cons (.same _) .nil))) (sW _ _ _ h20) rfl) ?_
    refine tr1 rfl (aZ (aA rfl) rfl rfl rfl) ?_
    refine tr1 rfl (aJ (v := .d (.lit (.int .i64 ((w64 (r13 - r19)))))) (aA rfl) rfl rfl) ?_
    refine tr1 rfl (aJ (v := .d (.lit (.int .i64 0))) (aA rfl) rfl rfl) ?_
    refine aF ?_
    have h := Option.some.inj h
    subst h
    refine cR (cJ (cP (l := [6, 7]) ⟨rfl, rfl, trivial⟩)) ?_
    exact bI ⟨rfl, _, .two _ _, rfl, rfl⟩

theorem vT (a_0 : List Int) (b_1 : List Int) {r : Bool} (h : oH a_0 b_1 = some r) : Fn Try.prog 32 [.d (.sl 1 (a_0.map cL)), .d (.sl 1 (b_1.map cL))] (.d (.lit (.bool r))) := by
 unfold oH at h
 refine Fn.of_tr Try.func32 rfl (rs := [.tmp 4]) Try.results32 Try.ntmps32 (Nat.le_of_ble_eq_true rfl) ?_
 refine aG ?_
 refine aE ?_
 refine tr1 rfl (aJ (v := .d (.lit (.bool false))) (aA rfl) rfl rfl) ?_
 refine aF ?_
 refine aG ?_
 refine aG ?_
 refine aE ?_
 refine tr1 rfl (aD (v := .d (.sl 1 (a_0.map cL))) (aA rfl) rfl rfl) ?_
 refine tr1 rfl (dB (aA rfl) rfl fL.of) ?_
 refine tr1 rfl (aD (v := .d (.sl 1 (b_1.map cL))) (aA rfl) rfl rfl) ?_
 refine tr1 rfl (dB (aA rfl) rfl fL.of) ?_
 refine tr1 rfl (bC (aA rfl) rfl rfl rfl) ?_
 refine aF ?_
 refine bH rfl (fun c1 => ?_) (fun c1 => ?_)
 ·have h := aU c1 h
  refine aG ?_
  refine aE ?_
  refine tr1 rfl (aJ (v := .d (.lit (.bool false))) (aA rfl) rfl rfl) ?_
  refine aF ?_
  have h := Option.some.inj h
  subst h
  exact bI ⟨rfl, _, .one _, rfl, rfl⟩
 ·have h := aT c1 h
  refine bE ?_
  refine aG ?_
  refine aG ?_
  refine aE ?_
  refine tr1 rfl (aJ (v := .d (.lit (.int .i64 0))) (aA rfl) rfl rfl) ?_
  refine aF ?_
  refine bQ ?_
  refine cH [0, 1] (fun (s2 : Int) => [(5, .d (.lit (.int .i64 s2)))]) (fun (s2 : Int) => []) (fun (k : Nat) (s2 : Int) => kR a_0 b_1 k s2) (fun _ => rfl) (0) h (aX [] rfl rfl (aO rfl (aY ⟨rfl, rfl, trivial⟩))) ?_
  rintro k3 i_0_2 h
  simp only [kR] at h
  refine aG ?_
  refine aG ?_
  refine aE ?_
  refine tr1 rfl (aD (v := .d (.lit (.int .i64 i_0_2))) (aA rfl) rfl rfl) ?_
  refine tr1 rfl (aD (v := .d (.sl 1 (a_0.map cL))) (aA rfl) rfl rfl) ?_
  refine tr1 rfl (dB (aA rfl) rfl fL.of) ?_
  refine tr1 rfl (bC (aA rfl) rfl rfl rfl) ?_
  refine aF ?_
  refine bH rfl (fun c4 => ?_) (fun c4 => ?_)
  ·have h := aU c4 h
   refine bE ?_
   refine aG ?_
   refine bQ ?_
   refine aG ?_
   obtain ⟨x5, h6, h⟩ := bind_some h
   obtain ⟨x7, h8, h⟩ := bind_some h
   refine fU mix 8 [0, 1, 5] [(20, .d (.lit (.int .i64 x5))), (24, .d (.lit (.int .i64 x7)))] ?_ ?_
   ·refine ⟨[(17, 0, .d (.sl 1 (a_0.map cL))), (18, 1, .d (.lit (.int .i64 i_0_2))), (19, 2, .cp [.lit (.int .i64 x5)]), (20, 3, .d (.lit (.int .i64 x5))), (21, 4, .d (.sl 1 (b_1.map cL))), (22, 5, .d (.lit (.int .i64 i_0_2))), (23, 6, .cp [.lit (.int .i64 x7)]), (24, 7, .d (.lit (.int .i64 x7)))], ?_, ?_⟩
    · exact ⟨by kernel_rfl, by kernel_rfl, by kernel_rfl, by kernel_rfl, by kernel_rfl, [([], []), ([], []), ([0, 1], []), ([2], []), ([], []), ([], []), ([4, 5], []), ([6], [])], by kernel_rfl, ⟨fun S hS => aK rfl (aQ rfl (aD (v := .d (.sl 1 (a_0.map cL))) (aA rfl) (aI hS rfl) rfl)),
      fun S hS => aK rfl (aQ rfl (aD (v := .d (.lit (.int .i64 i_0_2))) (aA rfl) (aI hS rfl) rfl)),
      fun S hS => aK rfl (aQ rfl (bY (aA rfl) (aI hS rfl) (aI hS rfl) fL.of (bN cL h6))),
      fun S hS => aK rfl (aQ rfl (cK (aA rfl) (aI hS rfl) bM)),
      fun S hS => aK rfl (aQ rfl (aD (v := .d (.sl 1 (b_1.map cL))) (aA rfl) (aI hS rfl) rfl)),
      fun S hS => aK rfl (aQ rfl (aD (v := .d (.lit (.int .i64 i_0_2))) (aA rfl) (aI hS rfl) rfl)),
      fun S hS => aK rfl (aQ rfl (bY (aA rfl) (aI hS rfl) (aI hS rfl) fL.of (bN cL h8))),
      fun S hS => aK rfl (aQ rfl (cK (aA rfl) (aI hS rfl) bM)), trivial⟩⟩
    · exact dX (aO rfl (aO rfl (aY ⟨rfl, rfl, rfl, trivial⟩)))
   ·refine tr1 rfl (bC (aA rfl) rfl rfl rfl) ?_
    refine aF ?_
    refine bH rfl (fun c9 => ?_) (fun c9 => ?_)
    ·have h := aU c9 h
     refine aG ?_
     refine aE ?_
     refine tr1 rfl (aJ (v := .d (.lit (.bool false))) (aA rfl) rfl rfl) ?_
     refine aF ?_
     have h := Option.some.inj h
     subst h
     exact bI ⟨rfl, _, .one _, rfl, rfl⟩
    ·have h := aT c9 h
     refine eF ?_
     refine aE ?_
     refine tr1 rfl (aD (v := .d (.lit (.int .i64 i_0_2))) (aA rfl) rfl rfl) ?_
     refine tr1 rfl (aZ (aA rfl) rfl rfl rfl) ?_
     refine tr1 rfl (aJ (v := .d (.lit (.int .i64 ((w64 (i_0_2 + 1)))))) (aA rfl) rfl rfl) ?_
     refine aF ?_
     exact ⟨(w64 (i_0_2 + 1)), h, aX [] rfl rfl (aO rfl (aY ⟨rfl, rfl, trivial⟩))⟩
  ·have h := aT c4 h
   refine cQ ?_
   refine .inl ⟨rfl, ?_⟩
   simp only [pT] at h
   refine aG ?_
   refine aE ?_
   refine tr1 rfl (aJ (v := .d (.lit (.bool true))) (aA rfl) rfl rfl) ?_
   refine aF ?_
   have h := Option.some.inj h
   subst h
   exact bI ⟨rfl, _, .one _, rfl, rfl⟩

theorem sQ {r : Bool} (h : kI = some r) : Fn Try.prog 16 [] (.d (.lit (.bool r))) := by
 unfold kI at h
 refine Fn.of_tr Try.func16 rfl (rs := [.tmp 0]) Try.results16 Try.ntmps16 (Nat.le_of_ble_eq_true rfl) ?_
 refine aG ?_
 refine aE ?_
 refine tr1 rfl (aJ (v := .d (.lit (.bool false))) (aA rfl) rfl rfl) ?_
 refine aF ?_
 refine aG ?_
 refine aE ?_
 obtain ⟨r1, h2, h⟩ := bind_some h
 refine tr1 rfl (jZ (aA rfl) (.func _ _ Try.call43) rfl rfl (wR h2)) ?_
 refine bR rfl (fF (zs := [.lit (.int .i64 0), .lit (.int .i64 0), .sl 5 ((([] : List aC)).map aB), .sl 3 ((([] : List aL)).map aH), .sl 3 ((([] : List aL)).map aH)]) (aA rfl) Try.zeroValue25 rfl rfl) ?_
 rintro _ ⟨b3, rfl⟩
 refine tr1 rfl (bO (i := 0) rfl rfl rfl rfl rfl Try.sizeOf25 rfl (aA rfl) (Nat.le_of_ble_eq_true rfl) (ds' := (aN r1)) rfl) ?_
 refine aF ?_
 refine aG ?_
 refine aE ?_
 refine tr1 rfl (cS (aA rfl) rfl (i := 0) rfl dZ (es := (aN r1)) rfl rfl) ?_
 obtain ⟨r4, h5, h⟩ := bind_some h
 refine tr1 rfl (jZ (aA rfl) (.func _ _ Try.call27) rfl rfl (aDr _ _ h5)) ?_
 refine tr1 rfl (aD (v := .tup [.d (.sl 1 (r4.1.map cL)), .d (.lit (.int .i64 r4.2))]) (aA rfl) rfl rfl) ?_
 refine tr1 rfl (dD (aA rfl) rfl rfl) ?_
 refine tr1 rfl (dD (aA rfl) rfl rfl) ?_
 refine tr1 rfl (aJ (v := .d (.sl 1 (r4.1.map cL))) (aA rfl) rfl rfl) ?_
 refine tr1 rfl (aJ (v := .d (.lit (.int .i64 r4.2))) (aA rfl) rfl rfl) ?_
 refine aF ?_
 refine aG ?_
 refine aE ?_
 refine tr1 rfl (cS (aA rfl) rfl (i := 0) rfl dZ (es := (aN r1)) rfl rfl) ?_
 refine tr1 rfl (jJ (aA rfl) fL rfl rfl (rows := ([300]).map cL) rfl (cY (f := cL) fun _ => rfl) rfl (by decide)) ?_
 obtain ⟨r6, h7, h⟩ := bind_some h
 refine tr1 rfl (cC (aA rfl) (.func _ _ Try.call17) rfl rfl (BVs.refl _ _) (aDa _ _ _ _ h7) rfl) ?_
 refine tr1 rfl (aD (v := .tup [.d (.lit (.int .i64 r6.1)), .d (.lit (.int .i64 r6.2.1)), .d (.lit (.int .i64 r6.2.2))]) (aA rfl) rfl rfl) ?_
 refine tr1 rfl (dD (aA rfl) rfl rfl) ?_
 refine tr1 rfl (dD (aA rfl) rfl rfl) ?_
 refine tr1 rfl (dD (aA rfl) rfl rfl) ?_
 refine tr1 rfl (aJ (v := .d (.lit (.int .i64 r6.1))) (aA rfl) rfl rfl) ?_
 refine tr1 rfl (aJ (v := .d (.lit (.int .i64 r6.2.1))) (aA rfl) rfl rfl) ?_
 refine tr1 rfl (aJ (v := .d (.lit (.int .i64 r6.2.2))) (aA rfl) rfl rfl) ?_
 refine aF ?_
 refine aG ?_
 refine aE ?_
 refine tr1 rfl (cS (aA rfl) rfl (i := 0) rfl dZ (es := (aN r1)) rfl rfl) ?_
 obtain ⟨r8, h9, h⟩ := bind_some h
 refine tr1 rfl (cC (aA rfl) (.func _ _ Try.call21) rfl rfl (BVs.refl _ _) (aBc _ _ _ h9) rfl) ?_
 refine tr1 rfl (aD (v := .tup [.d (.lit (.int .i64 r8.1)), .d (.lit (.int .i64 r8.2))]) (aA rfl) rfl rfl) ?_
 refine tr1 rfl (dD (aA rfl) rfl rfl) ?_
 refine tr1 rfl (dD (aA rfl) rfl rfl) ?_
 refine tr1 rfl (aJ (v := .d (.lit (.int .i64 r8.1))) (aA rfl) rfl rfl) ?_
 refine tr1 rfl (aJ (v := .d (.lit (.int .i64 r8.2))) (aA rfl) rfl rfl) ?_
 refine aF ?_
 refine aG ?_
 refine aE ?_
 refine tr1 rfl (aD (v := .d (.lit (.int .i64 r4.2))) (aA rfl) rfl rfl) ?_
 refine tr1 rfl (bC (aA rfl) rfl rfl rfl) ?_
 refine tr1 rfl (aD (v := .d (.lit (.bool ((decide (r4.2 = 0)))))) (aA rfl) rfl rfl) ?_
 obtain ⟨b10, h11, h⟩ := bind_some h
 refine cA 3 [2, 4, 5, 7, 8] 32 b10 ?_ ?_
 ·refine bJ (decide (r4.2 = 0)) (fun c29 => ?_) (fun c29 => ?_)
  ·have h11 := aU c29 h11
   refine aP rfl rfl (aA rfl) rfl c29 (aD (v := .d (.lit (.int .i64 r6.2.2))) (aA rfl) rfl rfl) ?_
   refine aP rfl rfl (aA rfl) rfl c29 (bC (aA rfl) rfl rfl rfl) ?_
   refine tr1 rfl (bW (v := .d (.lit (.bool ((decide (r6.2.2 = 0)))))) (aA rfl) rfl c29 rfl rfl) ?_
   have h11 := Option.some.inj h11
   subst h11
   refine aF (bB rfl ⟨rfl, rfl, rfl, rfl, rfl, trivial⟩ rfl)
  ·have h11 := aT c29 h11
   refine aR rfl rfl (aA rfl) rfl (aA rfl) rfl c29 ?_
   refine aR rfl rfl (aA rfl) rfl (aA rfl) rfl c29 ?_
   refine tr1 rfl (bT (v := .d (.lit (.bool false))) (aA rfl) rfl c29 rfl rfl) ?_
   have h11 := Option.some.inj h11
   subst h11
   refine aF (bB rfl ⟨rfl, rfl, rfl, rfl, rfl, trivial⟩ rfl)
 ·refine tr1 rfl (aD (v := .d (.lit (.bool b10))) (aA rfl) rfl rfl) ?_
  obtain ⟨b12, h13, h⟩ := bind_some h
  refine cA 3 [2, 4, 5, 7] 36 b12 ?_ ?_
  ·refine bJ (b10) (fun c28 => ?_) (fun c28 => ?_)
   ·have h13 := aU c28 h13
    refine aP rfl rfl (aA rfl) rfl c28 (aD (v := .d (.lit (.int .i64 r8.2))) (aA rfl) rfl rfl) ?_
    refine aP rfl rfl (aA rfl) rfl c28 (bC (aA rfl) rfl rfl rfl) ?_
    refine tr1 rfl (bW (v := .d (.lit (.bool ((decide (r8.2 = 0)))))) (aA rfl) rfl c28 rfl rfl) ?_
    have h13 := Option.some.inj h13
    subst h13
    refine aF (bB rfl ⟨rfl, rfl, rfl, rfl, trivial⟩ rfl)
   ·have h13 := aT c28 h13
    refine aR rfl rfl (aA rfl) rfl (aA rfl) rfl c28 ?_
    refine aR rfl rfl (aA rfl) rfl (aA rfl) rfl c28 ?_
    refine tr1 rfl (bT (v := .d (.lit (.bool false))) (aA rfl) rfl c28 rfl rfl) ?_
    have h13 := Option.some.inj h13
    subst h13
    refine aF (bB rfl ⟨rfl, rfl, rfl, rfl, trivial⟩ rfl)
  ·refine tr1 rfl (aD (v := .d (.lit (.bool b12))) (aA rfl) rfl rfl) ?_
   obtain ⟨b14, h15, h⟩ := bind_some h
   refine cA 4 [4, 5, 7] 41 b14 ?_ ?_
   ·refine bJ (b12) (fun c25 => ?_) (fun c25 => ?_)
    ·have h15 := aU c25 h15
     refine aP rfl rfl (aA rfl) rfl c25 (aD (v := .d (.sl 1 (r4.1.map cL))) (aA rfl) rfl rfl) ?_
     refine aP rfl rfl (aA rfl) rfl c25 (jJ (aA rfl) fL rfl rfl (rows := ([0, 2, 1]).map cL) rfl (cY (f := cL) fun _ => rfl) rfl (by decide)) ?_
     obtain ⟨r26, h27, h15⟩ := bind_some h15
     refine aP rfl rfl (aA rfl) rfl c25 (cC (aA rfl) (.func _ _ Try.call32) rfl rfl (BVs.refl _ _) (vT _ _ h27) rfl) ?_
     refine tr1 rfl (bW (v := .d (.lit (.bool r26))) (aA rfl) rfl c25 rfl rfl) ?_
     have h15 := Option.some.inj h15
     subst h15
     refine aF (bB rfl ⟨rfl, rfl, rfl, trivial⟩ rfl)
    ·have h15 := aT c25 h15
     refine aR rfl rfl (aA rfl) rfl (aA rfl) rfl c25 ?_
     refine aR rfl rfl (aA rfl) rfl (aA rfl) rfl c25 ?_
     refine aR rfl rfl (aA rfl) rfl (aA rfl) rfl c25 ?_
     refine tr1 rfl (bT (v := .d (.lit (.bool false))) (aA rfl) rfl c25 rfl rfl) ?_
     have h15 := Option.some.inj h15
     subst h15
     refine aF (bB rfl ⟨rfl, rfl, rfl, trivial⟩ rfl)
   ·refine tr1 rfl (aD (v := .d (.lit (.bool b14))) (aA rfl) rfl rfl) ?_
    obtain ⟨b16, h17, h⟩ := bind_some h
    refine cA 3 [5, 7] 45 b16 ?_ ?_
    ·refine bJ (b14) (fun c24 => ?_) (fun c24 => ?_)
     ·have h17 := aU c24 h17
      refine aP rfl rfl (aA rfl) rfl c24 (aD (v := .d (.lit (.int .i64 r6.1))) (aA rfl) rfl rfl) ?_
      refine aP rfl rfl (aA rfl) rfl c24 (bC (aA rfl) rfl rfl rfl) ?_
      refine tr1 rfl (bW (v := .d (.lit (.bool ((decide (r6.1 = 1)))))) (aA rfl) rfl c24 rfl rfl) ?_
      have h17 := Option.some.inj h17
      subst h17
      refine aF (bB rfl ⟨rfl, rfl, trivial⟩ rfl)
     ·have h17 := aT c24 h17
      refine aR rfl rfl (aA rfl) rfl (aA rfl) rfl c24 ?_
      refine aR rfl rfl (aA rfl) rfl (aA rfl) rfl c24 ?_
      refine tr1 rfl (bT (v := .d (.lit (.bool false))) (aA rfl) rfl c24 rfl rfl) ?_
      have h17 := Option.some.inj h17
      subst h17
      refine aF (bB rfl ⟨rfl, rfl, trivial⟩ rfl)
    ·refine tr1 rfl (aD (v := .d (.lit (.bool b16))) (aA rfl) rfl rfl) ?_
     obtain ⟨b18, h19, h⟩ := bind_some h
     refine cA 3 [7] 49 b18 ?_ ?_
     ·refine bJ (b16) (fun c23 => ?_) (fun c23 => ?_)
      ·have h19 := aU c23 h19
       refine aP rfl rfl (aA rfl) rfl c23 (aD (v := .d (.lit (.int .i64 r6.2.1))) (aA rfl) rfl rfl) ?_
       refine aP rfl rfl (aA rfl) rfl c23 (bC (aA rfl) rfl rfl rfl) ?_
       refine tr1 rfl (bW (v := .d (.lit (.bool ((decide (r6.2.1 = 3)))))) (aA rfl) rfl c23 rfl rfl) ?_
       have h19 := Option.some.inj h19
       subst h19
       refine aF (bB rfl ⟨rfl, trivial⟩ rfl)
      ·have h19 := aT c23 h19
       refine aR rfl rfl (aA rfl) rfl (aA rfl) rfl c23 ?_
       refine aR rfl rfl (aA rfl) rfl (aA rfl) rfl c23 ?_
       refine tr1 rfl (bT (v := .d (.lit (.bool false))) (aA rfl) rfl c23 rfl rfl) ?_
       have h19 := Option.some.inj h19
       subst h19
       refine aF (bB rfl ⟨rfl, trivial⟩ rfl)
     ·refine tr1 rfl (aD (v := .d (.lit (.bool b18))) (aA rfl) rfl rfl) ?_
      obtain ⟨b20, h21, h⟩ := bind_some h
      refine cA 3 [] 53 b20 ?_ ?_
      ·refine bJ (b18) (fun c22 => ?_) (fun c22 => ?_)
       ·have h21 := aU c22 h21
        refine aP rfl rfl (aA rfl) rfl c22 (aD (v := .d (.lit (.int .i64 r8.1))) (aA rfl) rfl rfl) ?_
        refine aP rfl rfl (aA rfl) rfl c22 (bC (aA rfl) rfl rfl rfl) ?_
        refine tr1 rfl (bW (v := .d (.lit (.bool ((decide (r8.1 = 200)))))) (aA rfl) rfl c22 rfl rfl) ?_
        have h21 := Option.some.inj h21
        subst h21
        refine aF (bB rfl trivial rfl)
       ·have h21 := aT c22 h21
        refine aR rfl rfl (aA rfl) rfl (aA rfl) rfl c22 ?_
        refine aR rfl rfl (aA rfl) rfl (aA rfl) rfl c22 ?_
        refine tr1 rfl (bT (v := .d (.lit (.bool false))) (aA rfl) rfl c22 rfl rfl) ?_
        have h21 := Option.some.inj h21
        subst h21
        refine aF (bB rfl trivial rfl)
      ·refine tr1 rfl (aJ (v := .d (.lit (.bool b20))) (aA rfl) rfl rfl) ?_
       refine aF ?_
       have h := Option.some.inj h
       subst h
       refine cR (cJ (cP (l := [0]) ⟨rfl, trivial⟩)) ?_
       exact bI ⟨rfl, _, .one _, rfl, rfl⟩

theorem tJ (l_0 : aM) {r : aM} (h : lF l_0 = some r) : Fn Try.prog 18 [.agg (aN l_0)] (.agg (aN r)) := by
 unfold lF at h
 refine nX Try.func18 rfl (rs := [.cell 2 25]) Try.results18 Try.ntmps18 (Nat.le_of_ble_eq_true rfl) ?_
 refine aG ?_
 refine aE ?_
 refine bR rfl (fX (v := .agg (aN l_0)) (aA rfl) rfl rfl rfl) ?_
 rintro _ ⟨b1, rfl⟩
 refine bR rfl (fF (zs := [.lit (.int .i64 0), .lit (.int .i64 0), .sl 5 ((([] : List aC)).map aB), .sl 3 ((([] : List aL)).map aH), .sl 3 ((([] : List aL)).map aH)]) (aA rfl) Try.zeroValue25 rfl rfl) ?_
 rintro _ ⟨b2, rfl⟩
 refine aF ?_
 refine aG ?_
 refine aE ?_
 refine tr1 rfl (cS (aA rfl) rfl (i := 0) rfl dZ (es := (aN l_0)) rfl rfl) ?_
 refine bR rfl (fF (zs := [.lit (.int .i64 0), .lit (.int .i64 0), .sl 5 ((([] : List aC)).map aB), .sl 3 ((([] : List aL)).map aH), .sl 3 ((([] : List aL)).map aH)]) (aA rfl) Try.zeroValue25 rfl rfl) ?_
 rintro _ ⟨b3, rfl⟩
 refine tr1 rfl (bO (i := 2) rfl rfl rfl rfl rfl Try.sizeOf25 rfl (aA rfl) (Nat.le_of_ble_eq_true rfl) (ds' := (aN l_0)) rfl) ?_
 refine aF ?_
 refine aG ?_
 refine aE ?_
 refine tr1 rfl (uR (aA rfl) bP rfl rfl (rows := (([] : List aC)).map aB) rfl (cY (f := aB) fun _ => rfl) rfl (by decide)) ?_
 refine tr1 rfl (aS (aA rfl) rfl dI) ?_
 refine tr1 rfl (aV (aA rfl) rfl (i := 0) rfl rfl fR) ?_
 obtain ⟨x4, h5, h⟩ := bind_some h
 refine tr1 rfl (yD (.d (.weak _ _)) (qX (nn := true) (f := aB) (xs := ([] : List aC)) (ys := l_0.Reports) (aA rfl) bP rfl rfl (fun _ => rfl) h5 rfl)) ?_
 refine tr1 rfl (aS (aA rfl) rfl dI) ?_
 refine tr1 rfl (bO (i := 2) rfl rfl rfl rfl rfl Try.sizeOf22 rfl (aA rfl) (Nat.le_of_ble_eq_true rfl) (ds' := (aN (aM.mk l_0.Players l_0.Counts x4 l_0.Bans l_0.Frozen))) rfl) ?_
 refine aF ?_
 refine aG ?_
 refine aE ?_
 refine tr1 rfl (uR (aA rfl) eI rfl rfl (rows := (([] : List aL)).map aH) rfl (cY (f := aH) fun _ => rfl) rfl (by decide)) ?_
 refine tr1 rfl (aS (aA rfl) rfl jI) ?_
 refine tr1 rfl (aV (aA rfl) rfl (i := 0) rfl rfl fV) ?_
 obtain ⟨x6, h7, h⟩ := bind_some h
 refine tr1 rfl (yD (.d (.weak _ _)) (qX (nn := true) (f := aH) (xs := ([] : List aL)) (ys := l_0.Bans) (aA rfl) eI rfl rfl (fun _ => rfl) h7 rfl)) ?_
 refine tr1 rfl (aS (aA rfl) rfl jI) ?_
 refine tr1 rfl (bO (i := 2) rfl rfl rfl rfl rfl Try.sizeOf23 rfl (aA rfl) (Nat.le_of_ble_eq_true rfl) (ds' := (aN (aM.mk l_0.Players l_0.Counts x4 x6 l_0.Frozen))) rfl) ?_
 refine aF ?_
 refine aG ?_
 refine aE ?_
 refine tr1 rfl (uR (aA rfl) eI rfl rfl (rows := (([] : List aL)).map aH) rfl (cY (f := aH) fun _ => rfl) rfl (by decide)) ?_
 refine tr1 rfl (aS (aA rfl) rfl hH) ?_
 refine tr1 rfl (aV (aA rfl) rfl (i := 0) rfl rfl fV) ?_
 obtain ⟨x8, h9, h⟩ := bind_some h
 refine tr1 rfl (yD (.d (.weak _ _)) (qX (nn := true) (f := aH) (xs := ([] : List aL)) (ys := l_0.Frozen) (aA rfl) eI rfl rfl (fun _ => rfl) h9 rfl)) ?_
 refine tr1 rfl (aS (aA rfl) rfl hH) ?_
 refine tr1 rfl (bO (i := 2) rfl rfl rfl rfl rfl Try.sizeOf23 rfl (aA rfl) (Nat.le_of_ble_eq_true rfl) (ds' := (aN (aM.mk l_0.Players l_0.Counts x4 x6 x8))) rfl) ?_
 refine aF ?_
 refine aG ?_
 refine aE ?_
 refine tr1 rfl (cS (aA rfl) rfl (i := 2) rfl dZ (es := (aN (aM.mk l_0.Players l_0.Counts x4 x6 x8))) rfl rfl) ?_
 refine tr1 rfl (bO (i := 1) rfl rfl rfl rfl rfl Try.sizeOf25 rfl (aA rfl) (Nat.le_of_ble_eq_true rfl) (ds' := (aN (aM.mk l_0.Players l_0.Counts x4 x6 x8))) rfl) ?_
 refine aF ?_
 have h := Option.some.inj h
 subst h
 exact bI ⟨rfl, _, [.box b1 0 (aN l_0), .box b2 0 (aN (aM.mk l_0.Players l_0.Counts x4 x6 x8)), .box b3 0 (aN (aM.mk l_0.Players l_0.Counts x4 x6 x8))], .one (.cell 2 25 rfl (i := 1) rfl dZ (es := (aN (aM.mk l_0.Players l_0.Counts x4 x6 x8))) rfl rfl), .refl _, .same _⟩

theorem vU (l_0 : List aC) {r : (List aC)} (h : dP l_0 = some r) : Fn Try.prog 64 [.d (.sl 5 (l_0.map aB))] (.d (.sl 5 (r.map aB))) := by
 unfold dP at h
 refine Fn.of_tr Try.func64 rfl (rs := [.tmp 2]) Try.results64 Try.ntmps64 (Nat.le_of_ble_eq_true rfl) ?_
 refine aG ?_
 refine aE ?_
 refine tr1 rfl (sO 5 (aA rfl)) ?_
 refine aF ?_
 refine aG ?_
 refine aE ?_
 refine tr1 rfl (sO 5 (aA rfl)) ?_
 refine aF ?_
 refine aG ?_
 refine aG ?_
 refine aE ?_
 refine tr1 rfl (aJ (v := .d (.lit (.int .i64 0))) (aA rfl) rfl rfl) ?_
 refine aF ?_
 refine bQ ?_
 refine cH [0] (fun (s1 : (List aC) × Int) => [(3, .d (.sl 5 (s1.1.map aB))), (4, .d (.lit (.int .i64 s1.2)))]) (fun (s1 : (List aC) × Int) => []) (fun (k : Nat) (s1 : (List aC) × Int) => eM l_0 k s1.1 s1.2) (fun _ => rfl) (([] : List aC), 0) h (aX [] rfl rfl (aO rfl (aO rfl (aY ⟨rfl, trivial⟩)))) ?_
 rintro k2 ⟨out_0_1, i_0_1⟩ h
 simp only [eM] at h
 refine aG ?_
 refine aG ?_
 refine aE ?_
 refine tr1 rfl (aD (v := .d (.lit (.int .i64 i_0_1))) (aA rfl) rfl rfl) ?_
 refine tr1 rfl (aD (v := .d (.sl 5 (l_0.map aB))) (aA rfl) rfl rfl) ?_
 refine tr1 rfl (dB (aA rfl) rfl bP.of) ?_
 refine tr1 rfl (bC (aA rfl) rfl rfl rfl) ?_
 refine aF ?_
 refine bH rfl (fun c3 => ?_) (fun c3 => ?_)
 ·have h := aU c3 h
  refine bE ?_
  refine aG ?_
  refine bQ ?_
  refine aG ?_
  refine aE ?_
  refine tr1 rfl (aJ (v := .d (.lit (.int .i64 0))) (aA rfl) rfl rfl) ?_
  refine tr1 rfl (aJ (v := .d (.lit (.bool false))) (aA rfl) rfl rfl) ?_
  refine aF ?_
  refine aG ?_
  refine aG ?_
  refine aE ?_
  refine tr1 rfl (aJ (v := .d (.lit (.int .i64 0))) (aA rfl) rfl rfl) ?_
  refine aF ?_
  refine bQ ?_
  refine cH [0, 3, 4] (fun (s4 : Int × Bool × Int) => [(5, .d (.lit (.int .i64 s4.1))), (6, .d (.lit (.bool s4.2.1))), (7, .d (.lit (.int .i64 s4.2.2)))]) (fun (s4 : Int × Bool × Int) => []) (fun (k : Nat) (s4 : Int × Bool × Int) => eN (eM l_0 k2) l_0 out_0_1 i_0_1 k s4.1 s4.2.1 s4.2.2) (fun _ => rfl) (0, false, 0) h (aX [] rfl rfl (aO rfl (aO rfl (aO rfl (aY ⟨rfl, rfl, rfl, trivial⟩))))) ?_
  rintro k5 ⟨atv_2_4, known_2_4, k_2_4⟩ h
  simp only [eN] at h
  refine aG ?_
  refine aG ?_
  refine aE ?_
  refine tr1 rfl (aD (v := .d (.lit (.int .i64 k_2_4))) (aA rfl) rfl rfl) ?_
  refine tr1 rfl (aD (v := .d (.sl 5 (out_0_1.map aB))) (aA rfl) rfl rfl) ?_
  refine tr1 rfl (dB (aA rfl) rfl bP.of) ?_
  refine tr1 rfl (bC (aA rfl) rfl rfl rfl) ?_
  refine aF ?_
  refine bH rfl (fun c6 => ?_) (fun c6 => ?_)
  ·have h := aU c6 h
   refine bE ?_
   refine aG ?_
   refine bQ ?_
   refine aG ?_
   obtain ⟨b7, h8, h⟩ := bind_some h
   refine fU mix 12 [0, 3, 4, 5, 7] [(32, .d (.lit (.bool b7)))] ?_ ?_
   ·refine bJ (known_2_4) (fun c9 => ?_) (fun c9 => ?_)
    ·have h8 := aU c9 h8
     have h8 := Option.some.inj h8
     subst h8
     refine ⟨[(21, 0, .d (.lit (.bool known_2_4))), (22, 1, .d (.lit (.bool known_2_4))), (23, 2, .tup []), (24, 3, .tup []), (25, 4, .tup []), (26, 5, .tup []), (27, 6, .tup []), (28, 7, .tup []), (29, 8, .tup []), (30, 9, .tup []), (31, 10, .tup []), (32, 11, .d (.lit (.bool true)))], ?_, ?_⟩
     · exact ⟨by kernel_rfl, by kernel_rfl, by kernel_rfl, by kernel_rfl, by kernel_rfl, [([], []), ([0], []), ([1], []), ([1], []), ([1, 2, 3], []), ([1, 4], []), ([1], []), ([1], []), ([1, 6, 7], []), ([1, 8], []), ([1, 5, 9], []), ([1, 10], [])], by kernel_rfl, ⟨fun S hS => aK rfl (aQ rfl (aD (v := .d (.lit (.bool known_2_4))) (aA rfl) (aI hS rfl) rfl)),
      fun S hS => aK rfl (aQ rfl (aD (v := .d (.lit (.bool known_2_4))) (aA rfl) (aI hS rfl) rfl)),
      fun S hS => aK rfl (bF rfl rfl (aA rfl) rfl (aA rfl) (aW hS rfl) c9),
      fun S hS => aK rfl (bF rfl rfl (aA rfl) rfl (aA rfl) (aW hS rfl) c9),
      fun S hS => aK rfl (bF rfl rfl (aA rfl) rfl (aA rfl) (aW hS rfl) c9),
      fun S hS => aK rfl (bF rfl rfl (aA rfl) rfl (aA rfl) (aW hS rfl) c9),
      fun S hS => aK rfl (bF rfl rfl (aA rfl) rfl (aA rfl) (aW hS rfl) c9),
      fun S hS => aK rfl (bF rfl rfl (aA rfl) rfl (aA rfl) (aW hS rfl) c9),
      fun S hS => aK rfl (bF rfl rfl (aA rfl) rfl (aA rfl) (aW hS rfl) c9),
      fun S hS => aK rfl (bF rfl rfl (aA rfl) rfl (aA rfl) (aW hS rfl) c9),
      fun S hS => aK rfl (bF rfl rfl (aA rfl) rfl (aA rfl) (aW hS rfl) c9),
      fun S hS => aK rfl (aQ rfl (bW (v := .d (.lit (.bool true))) (aA rfl) (aI hS rfl) c9 rfl rfl)), trivial⟩⟩
     · exact dX (aO rfl (aY ⟨rfl, rfl, rfl, rfl, rfl, trivial⟩))
    ·have h8 := aT c9 h8
     obtain ⟨x10, h11, h8⟩ := bind_some h8
     obtain ⟨x12, h13, h8⟩ := bind_some h8
     have h8 := Option.some.inj h8
     subst h8
     refine ⟨[(21, 0, .d (.lit (.bool known_2_4))), (22, 1, .d (.lit (.bool known_2_4))), (23, 2, .d (.sl 5 (out_0_1.map aB))), (24, 3, .d (.lit (.int .i64 k_2_4))), (25, 4, .cp [.lit (.int .i64 x10.Id), .lit (.int .i64 x10.Player), .lit (.int .i64 x10.Week), .lit (.int .i64 x10.Points), .lit (.bool x10.Must)]), (26, 5, .agg (aB x10)), (27, 6, .d (.sl 5 (l_0.map aB))), (28, 7, .d (.lit (.int .i64 i_0_1))), (29, 8, .cp [.lit (.int .i64 x12.Id), .lit (.int .i64 x12.Player), .lit (.int .i64 x12.Week), .lit (.int .i64 x12.Points), .lit (.bool x12.Must)]), (30, 9, .agg (aB x12)), (31, 10, .d (.lit (.bool ((decide (x10 = x12)))))), (32, 11, .d (.lit (.bool ((decide (x10 = x12))))))], ?_, ?_⟩
     · exact ⟨by kernel_rfl, by kernel_rfl, by kernel_rfl, by kernel_rfl, by kernel_rfl, [([], []), ([0], []), ([1], []), ([1], []), ([1, 2, 3], []), ([1, 4], []), ([1], []), ([1], []), ([1, 6, 7], []), ([1, 8], []), ([1, 5, 9], []), ([1, 10], [])], by kernel_rfl, ⟨fun S hS => aK rfl (aQ rfl (aD (v := .d (.lit (.bool known_2_4))) (aA rfl) (aI hS rfl) rfl)),
      fun S hS => aK rfl (aQ rfl (aD (v := .d (.lit (.bool known_2_4))) (aA rfl) (aI hS rfl) rfl)),
      fun S hS => aK rfl (bK rfl rfl (aA rfl) (aW hS rfl) c9 (aD (v := .d (.sl 5 (out_0_1.map aB))) (aA rfl) (aI hS rfl) rfl)),
      fun S hS => aK rfl (bK rfl rfl (aA rfl) (aW hS rfl) c9 (aD (v := .d (.lit (.int .i64 k_2_4))) (aA rfl) (aI hS rfl) rfl)),
      fun S hS => aK rfl (bK rfl rfl (aA rfl) (aW hS rfl) c9 (bY (aA rfl) (aI hS rfl) (aI hS rfl) bP.of (bN aB h11))),
      fun S hS => aK rfl (bK rfl rfl (aA rfl) (aW hS rfl) c9 (eH (aA rfl) (aI hS rfl) dR (es := (aB x10)) rfl rfl)),
      fun S hS => aK rfl (bK rfl rfl (aA rfl) (aW hS rfl) c9 (aD (v := .d (.sl 5 (l_0.map aB))) (aA rfl) (aI hS rfl) rfl)),
      fun S hS => aK rfl (bK rfl rfl (aA rfl) (aW hS rfl) c9 (aD (v := .d (.lit (.int .i64 i_0_1))) (aA rfl) (aI hS rfl) rfl)),
      fun S hS => aK rfl (bK rfl rfl (aA rfl) (aW hS rfl) c9 (bY (aA rfl) (aI hS rfl) (aI hS rfl) bP.of (bN aB h13))),
      fun S hS => aK rfl (bK rfl rfl (aA rfl) (aW hS rfl) c9 (eH (aA rfl) (aI hS rfl) dR (es := (aB x12)) rfl rfl)),
      fun S hS => aK rfl (bK rfl rfl (aA rfl) (aW hS rfl) c9 (aHf (a := x10) (b := x12) (aA rfl) (aI hS rfl) (aI hS rfl) rfl rfl Try.eqGuardType42 vZ)),
      fun S hS => aK rfl (aQ rfl (bT (v := .d (.lit (.bool ((decide (x10 = x12)))))) (aA rfl) (aI hS rfl) c9 (aI hS rfl) rfl)), trivial⟩⟩
     · exact dX (aO rfl (aY ⟨rfl, rfl, rfl, rfl, rfl, trivial⟩))
   ·refine tr1 rfl (aJ (v := .d (.lit (.bool b7))) (aA rfl) rfl rfl) ?_
    refine aF ?_
    refine aG ?_
    obtain ⟨x14, h15, h⟩ := bind_some h
    obtain ⟨x16, h17, h⟩ := bind_some h
    refine fU mix 10 [0, 3, 4, 5, 6, 7] [(37, .d (.lit (.int .i64 x14.Id))), (42, .d (.lit (.int .i64 x16.Id)))] ?_ ?_
    ·refine ⟨[(33, 0, .d (.sl 5 (out_0_1.map aB))), (34, 1, .d (.lit (.int .i64 k_2_4))), (35, 2, .cp [.lit (.int .i64 x14.Id), .lit (.int .i64 x14.Player), .lit (.int .i64 x14.Week), .lit (.int .i64 x14.Points), .lit (.bool x14.Must)]), (36, 3, .cp [.lit (.int .i64 x14.Id)]), (37, 4, .d (.lit (.int .i64 x14.Id))), (38, 5, .d (.sl 5 (l_0.map aB))), (39, 6, .d (.lit (.int .i64 i_0_1))), (40, 7, .cp [.lit (.int .i64 x16.Id), .lit (.int .i64 x16.Player), .lit (.int .i64 x16.Week), .lit (.int .i64 x16.Points), .lit (.bool x16.Must)]), (41, 8, .cp [.lit (.int .i64 x16.Id)]), (42, 9, .d (.lit (.int .i64 x16.Id)))], ?_, ?_⟩
     · exact ⟨by kernel_rfl, by kernel_rfl, by kernel_rfl, by kernel_rfl, by kernel_rfl, [([], []), ([], []), ([0, 1], []), ([2], []), ([3], []), ([], []), ([], []), ([5, 6], []), ([7], []), ([8], [])], by kernel_rfl, ⟨fun S hS => aK rfl (aQ rfl (aD (v := .d (.sl 5 (out_0_1.map aB))) (aA rfl) (aI hS rfl) rfl)),
      fun S hS => aK rfl (aQ rfl (aD (v := .d (.lit (.int .i64 k_2_4))) (aA rfl) (aI hS rfl) rfl)),
      fun S hS => aK rfl (aQ rfl (bY (aA rfl) (aI hS rfl) (aI hS rfl) bP.of (bN aB h15))),
      fun S hS => aK rfl (aQ rfl (cV (aA rfl) (aI hS rfl) jR (es := [.lit (.int .i64 x14.Id)]) rfl)),
      fun S hS => aK rfl (aQ rfl (cK (aA rfl) (aI hS rfl) bM)),
      fun S hS => aK rfl (aQ rfl (aD (v := .d (.sl 5 (l_0.map aB))) (aA rfl) (aI hS rfl) rfl)),
      fun S hS => aK rfl (aQ rfl (aD (v := .d (.lit (.int .i64 i_0_1))) (aA rfl) (aI hS rfl) rfl)),
      fun S hS => aK rfl (aQ rfl (bY (aA rfl) (aI hS rfl) (aI hS rfl) bP.of (bN aB h17))),
      fun S hS => aK rfl (aQ rfl (cV (aA rfl) (aI hS rfl) jR (es := [.lit (.int .i64 x16.Id)]) rfl)),
      fun S hS => aK rfl (aQ rfl (cK (aA rfl) (aI hS rfl) bM)), trivial⟩⟩
     · exact dX (aO rfl (aO rfl (aY ⟨rfl, rfl, rfl, rfl, rfl, rfl, trivial⟩)))
    ·refine tr1 rfl (bC (aA rfl) rfl rfl rfl) ?_
     refine aF ?_
     refine bH rfl (fun c18 => ?_) (fun c18 => ?_)
     ·have h := aU c18 h
      refine aE ?_
      refine tr1 rfl (aD (v := .d (.lit (.int .i64 k_2_4))) (aA rfl) rfl rfl) ?_
      refine tr1 rfl (aZ (aA rfl) rfl rfl rfl) ?_
      refine tr1 rfl (aJ (v := .d (.lit (.int .i64 ((w64 (k_2_4 + 1)))))) (aA rfl) rfl rfl) ?_
      refine eC ?_
      refine aE ?_
      refine tr1 rfl (aD (v := .d (.lit (.int .i64 k_2_4))) (aA rfl) rfl rfl) ?_
      refine tr1 rfl (aZ (aA rfl) rfl rfl rfl) ?_
      refine tr1 rfl (aJ (v := .d (.lit (.int .i64 ((w64 (k_2_4 + 1)))))) (aA rfl) rfl rfl) ?_
      refine aF ?_
      exact ⟨(w64 (k_2_4 + 1), b7, w64 (k_2_4 + 1)), h, aX [] rfl rfl (aO rfl (aO rfl (aO rfl (aY ⟨rfl, rfl, rfl, trivial⟩))))⟩
     ·have h := aT c18 h
      refine eF ?_
      refine aE ?_
      refine tr1 rfl (aD (v := .d (.lit (.int .i64 k_2_4))) (aA rfl) rfl rfl) ?_
      refine tr1 rfl (aZ (aA rfl) rfl rfl rfl) ?_
      refine tr1 rfl (aJ (v := .d (.lit (.int .i64 ((w64 (k_2_4 + 1)))))) (aA rfl) rfl rfl) ?_
      refine aF ?_
      exact ⟨(atv_2_4, b7, w64 (k_2_4 + 1)), h, aX [] rfl rfl (aO rfl (aO rfl (aO rfl (aY ⟨rfl, rfl, rfl, trivial⟩))))⟩
  ·have h := aT c6 h
   refine cQ ?_
   refine .inl ⟨rfl, ?_⟩
   simp only [jD] at h
   refine aG ?_
   refine aE ?_
   refine tr1 rfl (aD (v := .d (.lit (.bool known_2_4))) (aA rfl) rfl rfl) ?_
   refine tr1 rfl (fO (aA rfl) rfl) ?_
   refine aF ?_
   refine bH rfl (fun c19 => ?_) (fun c19 => ?_)
   ·have h := aU c19 h
    refine aG ?_
    obtain ⟨x20, h21, h⟩ := bind_some h
    obtain ⟨x22, h23, h⟩ := bind_some h
    refine fU mix 8 [0, 3, 4, 5] [(52, .fl true 5 (([x20]).map aB)), (55, .d (.sl 5 (x22.map aB)))] ?_ ?_
    ·refine ⟨[(48, 0, .d (.sl 5 (l_0.map aB))), (49, 1, .d (.lit (.int .i64 i_0_1))), (50, 2, .cp [.lit (.int .i64 x20.Id), .lit (.int .i64 x20.Player), .lit (.int .i64 x20.Week), .lit (.int .i64 x20.Points), .lit (.bool x20.Must)]), (51, 3, .agg (aB x20)), (52, 4, .fl true 5 (([x20]).map aB)), (53, 5, .d (.sl 5 (out_0_1.map aB))), (54, 6, .d (.lit (.int .i64 atv_2_4))), (55, 7, .d (.sl 5 (x22.map aB)))], ?_, ?_⟩
     · exact ⟨by kernel_rfl, by kernel_rfl, by kernel_rfl, by kernel_rfl, by kernel_rfl, [([], []), ([], []), ([0, 1], []), ([2], []), ([3], []), ([], []), ([], []), ([5, 6], [])], by kernel_rfl, ⟨fun S hS => aK rfl (aQ rfl (aD (v := .d (.sl 5 (l_0.map aB))) (aA rfl) (aI hS rfl) rfl)),
      fun S hS => aK rfl (aQ rfl (aD (v := .d (.lit (.int .i64 i_0_1))) (aA rfl) (aI hS rfl) rfl)),
      fun S hS => aK rfl (aQ rfl (bY (aA rfl) (aI hS rfl) (aI hS rfl) bP.of (bN aB h21))),
      fun S hS => aK rfl (aQ rfl (eH (aA rfl) (aI hS rfl) dR (es := (aB x20)) rfl rfl)),
      fun S hS => aK rfl (aQ rfl (uR (aA rfl) bP rfl (pa2 (aI hS rfl) pan) (rows := ([x20]).map aB) rfl (cY (f := aB) fun _ => rfl) rfl (by decide))),
      fun S hS => aK rfl (aQ rfl (aD (v := .d (.sl 5 (out_0_1.map aB))) (aA rfl) (aI hS rfl) rfl)),
      fun S hS => aK rfl (aQ rfl (aD (v := .d (.lit (.int .i64 atv_2_4))) (aA rfl) (aI hS rfl) rfl)),
      fun S hS => aK rfl (aQ rfl (mT (aA rfl) bP.of (aI hS rfl) (bo (aI hS rfl)) aGj (pM aB h23))), trivial⟩⟩
     · exact dX (aO rfl (aO rfl (aY ⟨rfl, rfl, rfl, rfl, trivial⟩)))
    ·obtain ⟨x24, h25, h⟩ := bind_some h
     refine tr1 rfl (yD (.d (.weak _ _)) (qX (nn := true) (f := aB) (xs := [x20]) (ys := x22) (aA rfl) bP rfl rfl (fun _ => rfl) h25 rfl)) ?_
     refine tr1 rfl (aJ (v := .d (.sl 5 (x24.map aB))) (aA rfl) rfl rfl) ?_
     refine aF ?_
     refine aE ?_
     refine bR rfl (vI (aA rfl) bP rfl rfl (rows := (([] : List aC)).map aB) rfl (cY (f := aB) fun _ => rfl) rfl (by decide)) ?_
     rintro _ ⟨v26, rfl⟩
     refine tr1 rfl (aD (v := .d (.sl 5 (out_0_1.map aB))) (aA rfl) rfl rfl) ?_
     refine tr1 rfl (aD (v := .d (.lit (.int .i64 atv_2_4))) (aA rfl) rfl rfl) ?_
     obtain ⟨x27, h28, h⟩ := bind_some h
     refine tr1 rfl (mT (aA rfl) bP.of rfl rfl rfl (pM aB h28)) ?_
     obtain ⟨x29, h30, h⟩ := bind_some h
     refine bR rfl (kA (i := 0) (aA rfl) bP rfl rfl rfl (fun _ => rfl) h30 rfl) ?_
     rintro _ ⟨v31, rfl⟩
     refine tr1 rfl (aD (v := .d (.sl 5 (x24.map aB))) (aA rfl) rfl rfl) ?_
     obtain ⟨x32, h33, h⟩ := bind_some h
     refine bR rfl (kA (i := 0) (aA rfl) bP rfl rfl rfl (fun _ => rfl) h33 rfl) ?_
     rintro _ ⟨v34, rfl⟩
     refine gJ (vY [] [.arr v34 42 5 (x32.map aB)] rfl (aFl (v' := .d (.sl 5 (x32.map aB))) (.d (aEh (cY (f := aB) fun _ => rfl))) (qJ _ _))) ?_
     refine tr1 rfl (aJ (v := .d (.sl 5 (x32.map aB))) (aA rfl) rfl rfl) ?_
     refine eC ?_
     simp only [gU] at h
     refine aE ?_
     refine tr1 rfl (aD (v := .d (.lit (.int .i64 i_0_1))) (aA rfl) rfl rfl) ?_
     refine tr1 rfl (aZ (aA rfl) rfl rfl rfl) ?_
     refine tr1 rfl (aJ (v := .d (.lit (.int .i64 ((w64 (i_0_1 + 1)))))) (aA rfl) rfl rfl) ?_
     refine aF ?_
     exact ⟨(x32, w64 (i_0_1 + 1)), h, aX [] rfl rfl (aO rfl (aO rfl (aY ⟨rfl, trivial⟩)))⟩
   ·have h := aT c19 h
    refine eF ?_
    simp only [gU] at h
    refine aE ?_
    refine tr1 rfl (aD (v := .d (.lit (.int .i64 i_0_1))) (aA rfl) rfl rfl) ?_
    refine tr1 rfl (aZ (aA rfl) rfl rfl rfl) ?_
    refine tr1 rfl (aJ (v := .d (.lit (.int .i64 ((w64 (i_0_1 + 1)))))) (aA rfl) rfl rfl) ?_
    refine aF ?_
    exact ⟨(out_0_1, w64 (i_0_1 + 1)), h, aX [] rfl rfl (aO rfl (aO rfl (aY ⟨rfl, trivial⟩)))⟩
 ·have h := aT c3 h
  refine cQ ?_
  refine .inl ⟨rfl, ?_⟩
  simp only [mW] at h
  refine aG ?_
  refine aE ?_
  refine tr1 rfl (aD (v := .d (.sl 5 (out_0_1.map aB))) (aA rfl) rfl rfl) ?_
  refine tr1 rfl (aJ (v := .d (.sl 5 (out_0_1.map aB))) (aA rfl) rfl rfl) ?_
  refine aF ?_
  have h := Option.some.inj h
  subst h
  exact bI ⟨rfl, _, .one _, rfl, rfl⟩

theorem tR (n_1 : Int) {r : (List aC)} (h : jF n_1 = some r) : fQ Try.prog 90 [.d (.lit (.slice none 0 0)), .d (.lit (.int .i64 n_1))] [] (fun r' o' => ∃ (w0 : Value), r' = .d (.lit w0) ∧ o' = [.arr w0 42 5 (r.map aB)]) := by
 unfold jF at h
 refine kQ Try.func90 rfl (rs := [.tmp 4]) Try.results90 Try.ntmps90 (Nat.le_of_ble_eq_true rfl) ?_
 refine cR (zW 42 5) ?_
 refine aG ?_
 refine aE ?_
 refine tr1 rfl (iL 42 5 (.inl rfl) (aA rfl)) ?_
 refine aF ?_
 refine aG ?_
 refine aG ?_
 refine aE ?_
 refine tr1 rfl (aD (v := .d (.lit (.int .i64 n_1))) (aA rfl) rfl rfl) ?_
 refine tr1 rfl (bC (aA rfl) rfl rfl rfl) ?_
 refine aF ?_
 refine bH rfl (fun c2 => ?_) (fun c2 => ?_)
 ·have h := aU c2 h
  cases h
 ·have h := aT c2 h
  refine bE ?_
  refine aG ?_
  refine aG ?_
  refine aE ?_
  refine tr1 rfl (aD (v := .d (.lit (.int .i64 n_1))) (aA rfl) rfl rfl) ?_
  refine tr1 rfl (aD (v := .d (.lit (.slice none 0 0))) (aA rfl) rfl rfl) ?_
  refine tr1 rfl (vG (aA rfl) rfl bP.of) ?_
  refine tr1 rfl (aD (v := .d (.lit (.slice none 0 0))) (aA rfl) rfl rfl) ?_
  refine tr1 rfl (vH (aA rfl) rfl bP.of) ?_
  refine tr1 rfl (aZ (aA rfl) rfl rfl rfl) ?_
  refine tr1 rfl (aZ (aA rfl) rfl rfl rfl) ?_
  refine tr1 rfl (aJ (v := .d (.lit (.int .i64 ((w64 (n_1 - (w64 (0 - 0)))))))) (aA rfl) rfl rfl) ?_
  refine aF ?_
  refine aG ?_
  refine aE ?_
  refine tr1 rfl (aD (v := .d (.lit (.int .i64 ((w64 (n_1 - (w64 (0 - 0)))))))) (aA rfl) rfl rfl) ?_
  refine tr1 rfl (bC (aA rfl) rfl rfl rfl) ?_
  refine aF ?_
  refine bH rfl (fun c3 => ?_) (fun c3 => ?_)
  ·have h := aU c3 h
   refine aE ?_
   refine tr1 rfl (aD (v := .d (.lit (.slice none 0 0))) (aA rfl) rfl rfl) ?_
   refine tr1 rfl (aD (v := .d (.lit (.slice none 0 0))) (aA rfl) rfl rfl) ?_
   refine tr1 rfl (vG (aA rfl) rfl bP.of) ?_
   obtain ⟨u4, h5, h⟩ := bind_some h
   refine tr1 rfl (nP (m := 0) (q := 0) (v := (.slice none 0 0)) (aA rfl) rfl rfl rfl rfl (vS h5) bP.of) ?_
   refine tr1 rfl (aD (v := .d (.lit (.int .i64 ((w64 (n_1 - (w64 (0 - 0)))))))) (aA rfl) rfl rfl) ?_
   obtain ⟨u6, h7, h⟩ := bind_some h
   refine bR rfl (aDf (i := 0) (aA rfl) bP rfl rfl rfl Try.underlying3 (wO h7).1 (wO h7).2 (by decide)) ?_
   rintro _ ⟨v8, rfl⟩
   refine tr1 rfl (aD (v := .d (.lit (.slice none 0 0))) (aA rfl) rfl rfl) ?_
   refine tr1 rfl (vH (aA rfl) rfl bP.of) ?_
   obtain ⟨u9, h10, h⟩ := bind_some h
   refine tr1 rfl (nP (m := 0) (q := 0) (v := v8) (aA rfl) rfl rfl rfl rfl (vS h10) bP.of) ?_
   refine tr1 rfl (aJ (v := .d (.lit (fG v8 0))) (aA rfl) rfl rfl) ?_
   refine aF ?_
   refine aG ?_
   refine aE ?_
   refine tr1 rfl (aD (v := .d (.lit (fG v8 0))) (aA rfl) rfl rfl) ?_
   refine tr1 rfl (aJ (v := .d (.lit (fG v8 0))) (aA rfl) rfl rfl) ?_
   refine aF ?_
   have h := Option.some.inj h
   subst h
   exact bI ⟨rfl, _, [.arr (fG v8 0) 42 5 (([] : List aC).map aB)], [.arr (.slice none 0 0) 42 5 (([] : List aC).map aB)], _, .one (.tmp 4 (v := .d (.lit (fG v8 0))) rfl), .refl _, .same _, (fG v8 0), rfl, rfl⟩
  ·have h := aT c3 h
   refine bE ?_
   refine aG ?_
   refine aE ?_
   refine tr1 rfl (aD (v := .d (.lit (.slice none 0 0))) (aA rfl) rfl rfl) ?_
   refine tr1 rfl (aJ (v := .d (.lit (.slice none 0 0))) (aA rfl) rfl rfl) ?_
   refine aF ?_
   have h := Option.some.inj h
   subst h
   exact bI ⟨rfl, _, [.arr (.slice none 0 0) 42 5 (([] : List aC).map aB)], [.arr (.slice none 0 0) 42 5 (([] : List aC).map aB)], _, .one (.tmp 4 (v := .d (.lit (.slice none 0 0))) rfl), .refl _, .same _, (.slice none 0 0), rfl, rfl⟩

theorem oC (slices_0 : List (List aC)) {r : (List aC)} (h : gH slices_0 = some r) : Fn Try.prog 61 [.d (.sl 1 (slices_0.map gK))] (.d (.sl 5 (r.map aB))) := by
 unfold gH at h
 refine Fn.of_tr Try.func61 rfl (rs := [.tmp 2]) Try.results61 Try.ntmps61 (Nat.le_of_ble_eq_true rfl) ?_
 refine aG ?_
 refine aE ?_
 refine tr1 rfl (sO 5 (aA rfl)) ?_
 refine aF ?_
 refine aG ?_
 refine aE ?_
 refine tr1 rfl (aJ (v := .d (.lit (.int .i64 0))) (aA rfl) rfl rfl) ?_
 refine aF ?_
 refine aG ?_
 refine aG ?_
 refine aE ?_
 refine tr1 rfl (aD (v := .d (.sl 1 (slices_0.map gK))) (aA rfl) rfl rfl) ?_
 refine tr1 rfl (dB (aA rfl) rfl wJ.of) ?_
 refine tr1 rfl (aD (v := .d (.lit (.int .i64 0))) (aA rfl) rfl rfl) ?_
 refine aF ?_
 refine bQ ?_
 refine cH [0, 9, 10] (fun (s1 : Int × Int) => [(3, .d (.lit (.int .i64 s1.1))), (11, .d (.lit (.int .i64 s1.2)))]) (fun (s1 : Int × Int) => []) (fun (k : Nat) (s1 : Int × Int) => eS slices_0 slices_0 (slices_0.length : Int) k s1.1 s1.2) (fun _ => rfl) (0, 0) h (aX [] rfl rfl (aO rfl (aO rfl (aY ⟨rfl, rfl, rfl, trivial⟩)))) ?_
 rintro k2 ⟨size_0_1, t11_0_1⟩ h
 simp only [eS] at h
 refine aG ?_
 refine aE ?_
 refine tr1 rfl (bC (aA rfl) rfl rfl rfl) ?_
 refine aF ?_
 refine aG ?_
 refine bH rfl (fun c3 => ?_) (fun c3 => ?_)
 ·have h := aU c3 h
  refine bE ?_
  refine aG ?_
  refine bQ ?_
  refine aG ?_
  refine aE ?_
  obtain ⟨x4, h5, h⟩ := bind_some h
  refine tr1 rfl (bY (aA rfl) rfl rfl wJ.of (bN gK h5)) ?_
  refine tr1 rfl (cK (aA rfl) rfl fR) ?_
  refine tr1 rfl (aJ (v := .d (.sl 5 (x4.map aB))) (aA rfl) rfl rfl) ?_
  refine aF ?_
  refine aG ?_
  refine aE ?_
  refine tr1 rfl (aD (v := .d (.lit (.int .i64 size_0_1))) (aA rfl) rfl rfl) ?_
  refine tr1 rfl (aD (v := .d (.sl 5 (x4.map aB))) (aA rfl) rfl rfl) ?_
  refine tr1 rfl (dB (aA rfl) rfl bP.of) ?_
  refine tr1 rfl (aZ (aA rfl) rfl rfl rfl) ?_
  refine tr1 rfl (aJ (v := .d (.lit (.int .i64 ((w64 (size_0_1 + (x4.length : Int))))))) (aA rfl) rfl rfl) ?_
  refine aF ?_
  refine aG ?_
  refine aE ?_
  refine tr1 rfl (aD (v := .d (.lit (.int .i64 ((w64 (size_0_1 + (x4.length : Int))))))) (aA rfl) rfl rfl) ?_
  refine tr1 rfl (bC (aA rfl) rfl rfl rfl) ?_
  refine aF ?_
  refine bH rfl (fun c6 => ?_) (fun c6 => ?_)
  ·have h := aU c6 h
   cases h
  ·have h := aT c6 h
   refine eF ?_
   refine aE ?_
   refine tr1 rfl (aZ (aA rfl) rfl rfl rfl) ?_
   refine tr1 rfl (aD (v := .d (.lit (.int .i64 ((w64 (t11_0_1 + 1)))))) (aA rfl) rfl rfl) ?_
   refine aF ?_
   exact ⟨(w64 (size_0_1 + (x4.length : Int)), w64 (t11_0_1 + 1)), h, aX [] rfl rfl (aO rfl (aO rfl (aY ⟨rfl, rfl, rfl, trivial⟩)))⟩
 ·have h := aT c3 h
  refine cQ ?_
  refine .inl ⟨rfl, ?_⟩
  simp only [kZ] at h
  refine aG ?_
  refine aE ?_
  refine tr1 rfl (aD (v := .d (.lit (.int .i64 size_0_1))) (aA rfl) rfl rfl) ?_
  obtain ⟨r7, h8, h⟩ := bind_some h
  refine bR rfl (pK (aA rfl) (.func _ _ Try.call90) rfl rfl (tR _ h8)) ?_
  rintro _ ⟨v9, rfl⟩
  refine tr1 rfl (aJ (v := .d (.lit v9)) (aA rfl) rfl rfl) ?_
  refine aF ?_
  refine aG ?_
  refine aG ?_
  refine aE ?_
  refine tr1 rfl (aD (v := .d (.sl 1 (slices_0.map gK))) (aA rfl) rfl rfl) ?_
  refine tr1 rfl (dB (aA rfl) rfl wJ.of) ?_
  refine tr1 rfl (aD (v := .d (.lit (.int .i64 0))) (aA rfl) rfl rfl) ?_
  refine aF ?_
  refine bQ ?_
  refine cH [25, 26] (fun (s10 : Int × (List aC) × Value) => [(6, .d (.lit s10.2.2)), (27, .d (.lit (.int .i64 s10.1)))]) (fun (s10 : Int × (List aC) × Value) => [.arr s10.2.2 42 5 (s10.2.1.map aB)]) (fun (k : Nat) (s10 : Int × (List aC) × Value) => eG slices_0 (slices_0.length : Int) k s10.1 s10.2.1) (fun _ => rfl) (0, r7, v9) h (aX [0] rfl rfl (aO rfl (aO rfl (aY ⟨rfl, rfl, trivial⟩)))) ?_
  rintro k12 ⟨t27_2_10, o24_2_10, w11⟩ h
  simp only [eG] at h
  refine aG ?_
  refine aE ?_
  refine tr1 rfl (bC (aA rfl) rfl rfl rfl) ?_
  refine aF ?_
  refine aG ?_
  refine bH rfl (fun c13 => ?_) (fun c13 => ?_)
  ·have h := aU c13 h
   refine bE ?_
   refine aG ?_
   refine bQ ?_
   refine aG ?_
   refine aE ?_
   obtain ⟨x14, h15, h⟩ := bind_some h
   refine tr1 rfl (bY (aA rfl) rfl rfl wJ.of (bN gK h15)) ?_
   refine tr1 rfl (cK (aA rfl) rfl fR) ?_
   refine tr1 rfl (aJ (v := .d (.sl 5 (x14.map aB))) (aA rfl) rfl rfl) ?_
   refine aF ?_
   refine aE ?_
   refine tr1 rfl (aD (v := .d (.lit w11)) (aA rfl) rfl rfl) ?_
   refine tr1 rfl (aD (v := .d (.sl 5 (x14.map aB))) (aA rfl) rfl rfl) ?_
   obtain ⟨x16, h17, h⟩ := bind_some h
   refine bR rfl (kA (i := 0) (aA rfl) bP rfl rfl rfl (fun _ => rfl) h17 rfl) ?_
   rintro _ ⟨v18, rfl⟩
   refine tr1 rfl (aJ (v := .d (.lit v18)) (aA rfl) rfl rfl) ?_
   refine eC ?_
   refine aE ?_
   refine tr1 rfl (aZ (aA rfl) rfl rfl rfl) ?_
   refine tr1 rfl (aD (v := .d (.lit (.int .i64 ((w64 (t27_2_10 + 1)))))) (aA rfl) rfl rfl) ?_
   refine aF ?_
   exact ⟨(w64 (t27_2_10 + 1), x16, v18), h, aX [0] rfl rfl (aO rfl (aO rfl (aY ⟨rfl, rfl, trivial⟩)))⟩
  ·have h := aT c13 h
   refine cQ ?_
   refine .inl ⟨rfl, ?_⟩
   simp only [nR] at h
   refine aG ?_
   refine aE ?_
   refine tr1 rfl (aD (v := .d (.lit w11)) (aA rfl) rfl rfl) ?_
   refine tr1 rfl (aJ (v := .d (.lit w11)) (aA rfl) rfl rfl) ?_
   refine aF ?_
   have h := Option.some.inj h
   subst h
   refine cR (cJ (jK (k := 2) (v := .d (.sl 5 (o24_2_10.map aB))) (.d (jP 0 rfl (cY (f := aB) fun _ => rfl))) (yO))) ?_
   exact bI ⟨rfl, _, .one _, rfl, rfl⟩

theorem nQ (s_0 : List aL) {r : (List aL)} (h : eR s_0 = some r) : fQ Try.prog 63 [.d (.sl 3 (s_0.map aH))] [] (fun r' o' => ∃ (w0 : Value), r' = .d (.lit w0) ∧ o' = [.arr w0 66 3 (r.map aH)]) := by
 unfold eR at h
 refine kQ Try.func63 rfl (rs := [.tmp 2]) Try.results63 Try.ntmps63 (Nat.le_of_ble_eq_true rfl) ?_
 refine aG ?_
 refine aE ?_
 refine tr1 rfl (iL 66 3 (.inl rfl) (aA rfl)) ?_
 refine aF ?_
 refine aG ?_
 refine aG ?_
 refine aE ?_
 refine tr1 rfl (aD (v := .d (.sl 3 (s_0.map aH))) (aA rfl) rfl rfl) ?_
 refine bR rfl (aAo (aA rfl) rfl rfl Try.underlying23) ?_
 rintro _ ⟨b2, h3, rfl⟩
 refine aF ?_
 refine bH rfl (fun c4 => ?_) (fun c4 => ?_)
 ·obtain rfl := aAe (h3 c4)
  simp [app] at h
  subst h
  refine aG ?_
  refine aE ?_
  refine tr1 rfl (iL 66 3 (.inl rfl) (aA rfl)) ?_
  refine aF ?_
  refine cR (aX [1, 0] rfl rfl (le_refl _)) ?_
  exact bI ⟨rfl, _, [.arr (.slice none 0 0) 66 3 (([] : List aL).map aH)], [.arr (.slice none 0 0) 66 3 (([] : List aL).map aH)], _, .one (.tmp 2 (v := .d (.lit (.slice none 0 0))) rfl), .refl _, .same _, (.slice none 0 0), rfl, rfl⟩
 ·refine bE ?_
  refine aG ?_
  refine aE ?_
  refine bR rfl (vI (aA rfl) eI rfl rfl (rows := (([] : List aL)).map aH) rfl (cY (f := aH) fun _ => rfl) rfl (by decide)) ?_
  rintro _ ⟨v5, rfl⟩
  refine tr1 rfl (aD (v := .d (.sl 3 (s_0.map aH))) (aA rfl) rfl rfl) ?_
  obtain ⟨x6, h7, h⟩ := bind_some h
  refine bR rfl (kA (i := 1) (aA rfl) eI rfl rfl rfl (fun _ => rfl) h7 rfl) ?_
  rintro _ ⟨v8, rfl⟩
  refine tr1 rfl (aJ (v := .d (.lit v8)) (aA rfl) rfl rfl) ?_
  refine aF ?_
  have h := Option.some.inj h
  subst h
  refine cR (aX [1, 0] rfl rfl (le_refl _)) ?_
  exact bI ⟨rfl, _, [.arr v8 66 3 (x6.map aH)], [.arr (.slice none 0 0) 66 3 (([] : List aL).map aH)], _, .one (.tmp 2 (v := .d (.lit v8)) rfl), .refl _, .same _, v8, rfl, rfl⟩

theorem aCz (l_0 : aM) (more_1 : List aC) {r : aM × Int} (h : rH l_0 more_1 = some r) : Fn Try.prog 29 [.agg (aN l_0), .d (.sl 5 (more_1.map aB))] (.tup [.agg (aN r.1), .d (.lit (.int .i64 r.2))]) := by
 unfold rH at h
 refine nX Try.func29 rfl (rs := [.cell 4 25, .tmp 5]) Try.results29 Try.ntmps29 (Nat.le_of_ble_eq_true rfl) ?_
 refine aG ?_
 refine aE ?_
 refine bR rfl (fX (v := .agg (aN l_0)) (aA rfl) rfl rfl rfl) ?_
 rintro _ ⟨b1, rfl⟩
 refine bR rfl (fF (zs := [.lit (.int .i64 0), .lit (.int .i64 0), .sl 5 ((([] : List aC)).map aB), .sl 3 ((([] : List aL)).map aH), .sl 3 ((([] : List aL)).map aH)]) (aA rfl) Try.zeroValue25 rfl rfl) ?_
 rintro _ ⟨b2, rfl⟩
 refine tr1 rfl (aJ (v := .d (.lit (.int .i64 0))) (aA rfl) rfl rfl) ?_
 refine aF ?_
 refine aG ?_
 refine aG ?_
 refine aE ?_
 refine tr1 rfl (cS (aA rfl) rfl (i := 0) rfl dZ (es := (aN l_0)) rfl rfl) ?_
 obtain ⟨r3, h4, h⟩ := bind_some h
 refine tr1 rfl (cC (aA rfl) (.func _ _ Try.call60) rfl rfl (BVs.refl _ _) (uH _ h4) rfl) ?_
 refine tr1 rfl (aJ (v := .d (.lit (.int .i64 r3))) (aA rfl) rfl rfl) ?_
 refine aF ?_
 refine aG ?_
 refine aE ?_
 refine tr1 rfl (aD (v := .d (.lit (.int .i64 r3))) (aA rfl) rfl rfl) ?_
 refine tr1 rfl (bC (aA rfl) rfl rfl rfl) ?_
 refine aF ?_
 refine bH rfl (fun c5 => ?_) (fun c5 => ?_)
 ·have h := aU c5 h
  refine aG ?_
  refine aE ?_
  refine tr1 rfl (iB (aA rfl) rS (zs := [.lit (.int .i64 0), .lit (.int .i64 0), .sl 5 ((([] : List aC)).map aB), .sl 3 ((([] : List aL)).map aH), .sl 3 ((([] : List aL)).map aH)]) rfl rfl rfl rfl (es := [.lit (.int .i64 0), .lit (.int .i64 0), .sl 5 ((([] : List aC)).map aB), .sl 3 ((([] : List aL)).map aH), .sl 3 ((([] : List aL)).map aH)]) rfl) ?_
  refine tr1 rfl (aD (v := .d (.lit (.int .i64 r3))) (aA rfl) rfl rfl) ?_
  refine tr1 rfl (bO (i := 1) rfl rfl rfl rfl rfl Try.sizeOf25 rfl (aA rfl) (Nat.le_of_ble_eq_true rfl) (ds' := (aN (aM.mk 0 0 ([] : List aC) ([] : List aL) ([] : List aL)))) rfl) ?_
  refine tr1 rfl (aJ (v := .d (.lit (.int .i64 r3))) (aA rfl) rfl rfl) ?_
  refine aF ?_
  have h := Option.some.inj h
  subst h
  exact bI ⟨rfl, _, [.box b1 0 (aN l_0), .box b2 0 (aN (aM.mk 0 0 ([] : List aC) ([] : List aL) ([] : List aL)))], .two (.cell 4 25 rfl (i := 1) rfl dZ (es := (aN (aM.mk 0 0 ([] : List aC) ([] : List aL) ([] : List aL)))) rfl rfl) (.tmp 5 (v := .d (.lit (.int .i64 r3))) rfl), .refl _, .same _⟩
 ·have h := aT c5 h
  refine bE ?_
  refine aG ?_
  refine aE ?_
  refine tr1 rfl (cS (aA rfl) rfl (i := 0) rfl dZ (es := (aN l_0)) rfl rfl) ?_
  refine bR rfl (fF (zs := [.lit (.int .i64 0), .lit (.int .i64 0), .sl 5 ((([] : List aC)).map aB), .sl 3 ((([] : List aL)).map aH), .sl 3 ((([] : List aL)).map aH)]) (aA rfl) Try.zeroValue25 rfl rfl) ?_
  rintro _ ⟨b6, rfl⟩
  refine tr1 rfl (bO (i := 2) rfl rfl rfl rfl rfl Try.sizeOf25 rfl (aA rfl) (Nat.le_of_ble_eq_true rfl) (ds' := (aN l_0)) rfl) ?_
  refine aF ?_
  refine aG ?_
  refine aE ?_
  refine tr1 rfl (aD (v := .d (.sl 5 (more_1.map aB))) (aA rfl) rfl rfl) ?_
  refine tr1 rfl (aS (aA rfl) rfl dI) ?_
  refine tr1 rfl (bO (i := 2) rfl rfl rfl rfl rfl Try.sizeOf22 rfl (aA rfl) (Nat.le_of_ble_eq_true rfl) (ds' := (aN (aM.mk l_0.Players l_0.Counts more_1 l_0.Bans l_0.Frozen))) rfl) ?_
  refine aF ?_
  refine aG ?_
  refine aG ?_
  refine aE ?_
  refine tr1 rfl (cS (aA rfl) rfl (i := 2) rfl dZ (es := (aN (aM.mk l_0.Players l_0.Counts more_1 l_0.Bans l_0.Frozen))) rfl rfl) ?_
  obtain ⟨r7, h8, h⟩ := bind_some h
  refine tr1 rfl (cC (aA rfl) (.func _ _ Try.call60) rfl rfl (BVs.refl _ _) (uH _ h8) rfl) ?_
  refine tr1 rfl (aJ (v := .d (.lit (.int .i64 r7))) (aA rfl) rfl rfl) ?_
  refine aF ?_
  refine aG ?_
  refine aE ?_
  refine tr1 rfl (aD (v := .d (.lit (.int .i64 r7))) (aA rfl) rfl rfl) ?_
  refine tr1 rfl (bC (aA rfl) rfl rfl rfl) ?_
  refine aF ?_
  refine bH rfl (fun c9 => ?_) (fun c9 => ?_)
  ·have h := aU c9 h
   refine aG ?_
   refine aE ?_
   refine tr1 rfl (iB (aA rfl) rS (zs := [.lit (.int .i64 0), .lit (.int .i64 0), .sl 5 ((([] : List aC)).map aB), .sl 3 ((([] : List aL)).map aH), .sl 3 ((([] : List aL)).map aH)]) rfl rfl rfl rfl (es := [.lit (.int .i64 0), .lit (.int .i64 0), .sl 5 ((([] : List aC)).map aB), .sl 3 ((([] : List aL)).map aH), .sl 3 ((([] : List aL)).map aH)]) rfl) ?_
   refine tr1 rfl (aD (v := .d (.lit (.int .i64 r7))) (aA rfl) rfl rfl) ?_
   refine tr1 rfl (bO (i := 1) rfl rfl rfl rfl rfl Try.sizeOf25 rfl (aA rfl) (Nat.le_of_ble_eq_true rfl) (ds' := (aN (aM.mk 0 0 ([] : List aC) ([] : List aL) ([] : List aL)))) rfl) ?_
   refine tr1 rfl (aJ (v := .d (.lit (.int .i64 r7))) (aA rfl) rfl rfl) ?_
   refine aF ?_
   have h := Option.some.inj h
   subst h
   exact bI ⟨rfl, _, [.box b1 0 (aN l_0), .box b2 0 (aN (aM.mk 0 0 ([] : List aC) ([] : List aL) ([] : List aL))), .box b6 0 (aN (aM.mk l_0.Players l_0.Counts more_1 l_0.Bans l_0.Frozen))], .two (.cell 4 25 rfl (i := 1) rfl dZ (es := (aN (aM.mk 0 0 ([] : List aC) ([] : List aL) ([] : List aL)))) rfl rfl) (.tmp 5 (v := .d (.lit (.int .i64 r7))) rfl), .refl _, .same _⟩
  ·have h := aT c9 h
   refine bE ?_
   refine aG ?_
   refine aE ?_
   refine bR rfl (aGf (aA rfl)) ?_
   rintro _ ⟨r10, rfl⟩
   refine tr1 rfl (aJ (v := .d (.lit (.map (some r10)))) (aA rfl) rfl rfl) ?_
   refine aF ?_
   refine aG ?_
   refine aG ?_
   refine aE ?_
   refine tr1 rfl (aS (aA rfl) rfl dI) ?_
   refine tr1 rfl (aV (aA rfl) rfl (i := 0) rfl rfl fR) ?_
   refine tr1 rfl (aD (v := .d (.sl 5 (more_1.map aB))) (aA rfl) rfl rfl) ?_
   refine tr1 rfl (jJ (aA rfl) wJ rfl rfl (rows := ([l_0.Reports, more_1]).map gK) rfl (cY (f := gK) fun _ => rfl) rfl (by decide)) ?_
   obtain ⟨r11, h12, h⟩ := bind_some h
   refine tr1 rfl (jZ (aA rfl) (.func _ _ Try.call61) rfl rfl (oC _ h12)) ?_
   refine tr1 rfl (dB (aA rfl) rfl bP.of) ?_
   refine tr1 rfl (aD (v := .d (.lit (.int .i64 0))) (aA rfl) rfl rfl) ?_
   refine aF ?_
   refine bQ ?_
   refine cH [1, 2, 4, 9, 34, 35] (fun (s13 : Int × (List (aC × Int)) × (List Nat) × Nat) => [(36, .d (.lit (.int .i64 s13.1)))]) (fun (s13 : Int × (List (aC × Int)) × (List Nat) × Nat) => [.box b1 0 (aN l_0), .box b2 0 (aN (aM.mk 0 0 ([] : List aC) ([] : List aL) ([] : List aL))), .map r10 (s13.2.1.map fun p : aC × Int => ((fun a : aC => Value.agg ((aB a).map eT).toArray) p.1, (fun v : Int => AV.d (.lit (.int .i64 v))) p.2)) s13.2.2.1 s13.2.2.2]) (fun (k : Nat) (s13 : Int × (List (aC × Int)) × (List Nat) × Nat) => lL more_1 r11 (r11.length : Int) l_0 (aM.mk 0 0 ([] : List aC) ([] : List aL) ([] : List aL)) k s13.1 s13.2.1) (fun _ => rfl) (0, ([] : List (aC × Int)), [], 0) h (aX [0, 1, 3] rfl rfl (aO rfl (aY ⟨rfl, rfl, rfl, rfl, rfl, rfl, trivial⟩))) ?_
   rintro k16 ⟨t36_0_13, o29_0_13, bs14, ck15⟩ h
   simp only [lL] at h
   refine aG ?_
   refine aE ?_
   refine tr1 rfl (bC (aA rfl) rfl rfl rfl) ?_
   refine aF ?_
   refine aG ?_
   refine bH rfl (fun c17 => ?_) (fun c17 => ?_)
   ·have h := aU c17 h
    refine bE ?_
    refine aG ?_
    refine bQ ?_
    refine aG ?_
    refine aE ?_
    obtain ⟨x18, h19, h⟩ := bind_some h
    refine tr1 rfl (bY (aA rfl) rfl rfl bP.of (bN aB h19)) ?_
    refine tr1 rfl (eH (aA rfl) rfl dR (es := (aB x18)) rfl rfl) ?_
    refine bR rfl (fF (zs := [.lit (.int .i64 0), .lit (.int .i64 0), .lit (.int .i64 0), .lit (.int .i64 0), .lit (.bool false)]) (aA rfl) Try.zeroValue42 rfl rfl) ?_
    rintro _ ⟨b20, rfl⟩
    refine tr1 rfl (bO (i := 3) rfl rfl rfl rfl rfl Try.sizeOf42 rfl (aA rfl) (Nat.le_of_ble_eq_true rfl) (ds' := (aB x18)) rfl) ?_
    refine aF ?_
    refine lC mix 6 [1, 2, 4, 9, 34, 35, 36] (fun X21 => [(40, .d (.lit (.map (some r10)))), (43, .d (.lit (.int .i64 ((w64 ((lP x18 0 o29_0_13) + 1)))))), (45, .d (.lit (.int .i64 (nY x18 o29_0_13 bs14 ck15))))]) (fun X21 => [.box b1 0 (aN l_0), .box b2 0 (aN (aM.mk 0 0 ([] : List aC) ([] : List aL) ([] : List aL))), .map r10 ((nF x18 0 o29_0_13).map fun p : aC × Int => ((fun a : aC => Value.agg ((aB a).map eT).toArray) p.1, (fun v : Int => AV.d (.lit (.int .i64 v))) p.2)) (mbs x18 o29_0_13 bs14 ck15) (mck x18 o29_0_13 ck15), .box b20 0 (aB x18)]) ?_ ?_
    ·refine ⟨0, fun X21 => [(40, 0, .d (.lit (.map (some r10)))), (41, 1, .agg (aB x18)), (42, 2, .d (.lit (.int .i64 ((lP x18 0 o29_0_13))))), (43, 3, .d (.lit (.int .i64 ((w64 ((lP x18 0 o29_0_13) + 1)))))), (44, 4, .tup [.d (.lit (.int .i64 ((lP x18 0 o29_0_13)))), .d (.lit (.int .i64 (nY x18 o29_0_13 bs14 ck15)))]), (45, 5, .d (.lit (.int .i64 (nY x18 o29_0_13 bs14 ck15))))], fun X21 => [([], .box b1 0 (aN l_0)), ([], .box b2 0 (aN (aM.mk 0 0 ([] : List aC) ([] : List aL) ([] : List aL)))), ([(4, .map r10 ((nF x18 0 o29_0_13).map fun p : aC × Int => ((fun a : aC => Value.agg ((aB a).map eT).toArray) p.1, (fun v : Int => AV.d (.lit (.int .i64 v))) p.2)) (mbs x18 o29_0_13 bs14 ck15) (mck x18 o29_0_13 ck15))], .map r10 (o29_0_13.map fun p : aC × Int => ((fun a : aC => Value.agg ((aB a).map eT).toArray) p.1, (fun v : Int => AV.d (.lit (.int .i64 v))) p.2)) bs14 ck15), ([], .box b20 0 (aB x18))], ?_, ?_⟩
     · exact ⟨by kernel_rfl, by kernel_rfl, by kernel_rfl, fun _ => by kernel_rfl, fun _ => by kernel_rfl, fun _ => by kernel_rfl, fun _ => rfl, [([], [4]), ([], [4]), ([0, 1], []), ([2], []), ([0, 1], []), ([4], [])], by kernel_rfl, ⟨fun X21 S hw hi hS => bG (X := X21) rfl (hw X21) rfl (aQ rfl (aD (v := .d (.lit (.map (some r10)))) (aA rfl) (aI hS rfl) rfl)),
      fun X21 S hw hi hS => bG (X := X21) rfl (hw X21) rfl (aQ rfl (cS (aA rfl) (aI hS rfl) (i := 3) (og hS rfl rfl) dR (es := (aB x18)) rfl rfl)),
      fun X21 S hw hi hS => bG (X := X21) rfl (hw X21) rfl (aQ rfl (aGe (av := (fun v : Int => AV.d (.lit (.int .i64 v)))) (l := o29_0_13) (z := 0) (a := x18) (m := 2) (aA rfl) aFt Try.underlying86 Try.zeroValue3 (fun _ _ => .d (.lit _ rfl)) (aI hS rfl) (og2 rfl) rfl (aI hS rfl) (aBr (enc := aB) x18 rfl))),
      fun X21 S hw hi hS => bG (X := X21) rfl (hw X21) rfl (aQ rfl (aZ (aA rfl) (aI hS rfl) rfl rfl)),
      fun X21 S hw hi hS => aJc (X := X21) (p := 2) hS rfl rfl rfl (hw X21) rfl rfl rfl (tC (aFe (av := (fun v : Int => AV.d (.lit (.int .i64 v)))) (l := o29_0_13) (z := 0) (a := x18) (m := 2) (aA rfl) aFt Try.underlying86 Try.zeroValue3 (fun _ _ => .d (.lit _ rfl)) (aI hS rfl) (og hS rfl rfl) rfl (aI hS rfl) (aBr (enc := aB) x18 rfl)) (by rintro _ rfl; exact Ent.refl _)),
      fun X21 S hw hi hS => bG (X := X21) rfl (hw X21) rfl (aQ rfl (dD (aA rfl) (aI hS rfl) rfl)), trivial⟩⟩
     · exact fun X21 => dX (aO rfl (aO rfl (aO rfl (aY ⟨rfl, rfl, rfl, rfl, rfl, rfl, rfl, trivial⟩))))
    ·intro X21
     refine tr1 rfl (aBy (kv := (fun a : aC => Value.agg ((aB a).map eT).toArray)) (av := (fun v : Int => AV.d (.lit (.int .i64 v)))) (l := o29_0_13) (z := 0) (v := w64 ((lP x18 0 o29_0_13) + 1)) (a := x18) (m := 2) rfl rfl rfl rfl rfl) ?_
     refine eC ?_
     refine aE ?_
     refine tr1 rfl (aZ (aA rfl) rfl rfl rfl) ?_
     refine tr1 rfl (aD (v := .d (.lit (.int .i64 ((w64 (t36_0_13 + 1)))))) (aA rfl) rfl rfl) ?_
     refine aF ?_
     exact ⟨(w64 (t36_0_13 + 1), (mC x18 (w64 ((lP x18 0 o29_0_13) + 1)) o29_0_13), (mbs x18 o29_0_13 bs14 ck15), (mck x18 o29_0_13 ck15)), h, aX [0, 1, 2] rfl rfl (aO rfl (aY ⟨rfl, rfl, rfl, rfl, rfl, rfl, trivial⟩))⟩
   ·have h := aT c17 h
    refine cQ ?_
    refine .inl ⟨rfl, ?_⟩
    simp only [qI] at h
    refine aG ?_
    refine aG ?_
    refine aE ?_
    refine tr1 rfl (aD (v := .d (.lit (.map (some r10)))) (aA rfl) rfl rfl) ?_
    refine tr1 rfl (aGw (m := 2) (aA rfl) Try.underlying86 rfl rfl) ?_
    refine tr1 rfl (bC (aA rfl) rfl rfl rfl) ?_
    refine aF ?_
    refine bH rfl (fun c22 => ?_) (fun c22 => ?_)
    ·have h := aU c22 h
     refine aG ?_
     refine aE ?_
     refine tr1 rfl (iB (aA rfl) rS (zs := [.lit (.int .i64 0), .lit (.int .i64 0), .sl 5 ((([] : List aC)).map aB), .sl 3 ((([] : List aL)).map aH), .sl 3 ((([] : List aL)).map aH)]) rfl rfl rfl rfl (es := [.lit (.int .i64 0), .lit (.int .i64 0), .sl 5 ((([] : List aC)).map aB), .sl 3 ((([] : List aL)).map aH), .sl 3 ((([] : List aL)).map aH)]) rfl) ?_
     refine tr1 rfl (bO (i := 1) rfl rfl rfl rfl rfl Try.sizeOf25 rfl (aA rfl) (Nat.le_of_ble_eq_true rfl) (ds' := (aN (aM.mk 0 0 ([] : List aC) ([] : List aL) ([] : List aL)))) rfl) ?_
     refine tr1 rfl (aJ (v := .d (.lit (.int .i64 40))) (aA rfl) rfl rfl) ?_
     refine aF ?_
     have h := Option.some.inj h
     subst h
     exact bI ⟨rfl, _, [.box b1 0 (aN l_0), .box b2 0 (aN (aM.mk 0 0 ([] : List aC) ([] : List aL) ([] : List aL))), .map r10 (o29_0_13.map fun p : aC × Int => ((fun a : aC => Value.agg ((aB a).map eT).toArray) p.1, (fun v : Int => AV.d (.lit (.int .i64 v))) p.2)) bs14 ck15], .two (.cell 4 25 rfl (i := 1) rfl dZ (es := (aN (aM.mk 0 0 ([] : List aC) ([] : List aL) ([] : List aL)))) rfl rfl) (.tmp 5 (v := .d (.lit (.int .i64 40))) rfl), .refl _, .same _⟩
    ·have h := aT c22 h
     refine bE ?_
     refine aG ?_
     refine aE ?_
     refine tr1 rfl (aS (aA rfl) rfl dI) ?_
     refine tr1 rfl (aV (aA rfl) rfl (i := 0) rfl rfl fR) ?_
     refine tr1 rfl (aD (v := .d (.sl 5 (more_1.map aB))) (aA rfl) rfl rfl) ?_
     refine tr1 rfl (jJ (aA rfl) wJ rfl rfl (rows := ([l_0.Reports, more_1]).map gK) rfl (cY (f := gK) fun _ => rfl) rfl (by decide)) ?_
     obtain ⟨r23, h24, h⟩ := bind_some h
     refine tr1 rfl (jZ (aA rfl) (.func _ _ Try.call61) rfl rfl (oC _ h24)) ?_
     obtain ⟨r25, h26, h⟩ := bind_some h
     refine bR rfl (dQ (passed := []) (aA rfl) rfl (.func _ _ Try.call62) rfl rfl (vN _ h26)) ?_
     rintro _ ⟨_, _, ⟨w27, rfl, rfl⟩, rfl⟩
     refine tr1 rfl (aD (v := .tup [.d (.lit w27), .d (.lit (.bool r25.2))]) (aA rfl) rfl rfl) ?_
     refine tr1 rfl (dD (aA rfl) rfl rfl) ?_
     refine tr1 rfl (dD (aA rfl) rfl rfl) ?_
     refine tr1 rfl (aJ (v := .d (.lit w27)) (aA rfl) rfl rfl) ?_
     refine tr1 rfl (aJ (v := .d (.lit (.bool r25.2))) (aA rfl) rfl rfl) ?_
     refine aF ?_
     refine aG ?_
     refine aG ?_
     refine aE ?_
     refine tr1 rfl (aD (v := .d (.lit (.bool r25.2))) (aA rfl) rfl rfl) ?_
     refine tr1 rfl (fO (aA rfl) rfl) ?_
     refine aF ?_
     refine bH rfl (fun c28 => ?_) (fun c28 => ?_)
     ·have h := aU c28 h
      refine aG ?_
      refine aE ?_
      refine tr1 rfl (iB (aA rfl) rS (zs := [.lit (.int .i64 0), .lit (.int .i64 0), .sl 5 ((([] : List aC)).map aB), .sl 3 ((([] : List aL)).map aH), .sl 3 ((([] : List aL)).map aH)]) rfl rfl rfl rfl (es := [.lit (.int .i64 0), .lit (.int .i64 0), .sl 5 ((([] : List aC)).map aB), .sl 3 ((([] : List aL)).map aH), .sl 3 ((([] : List aL)).map aH)]) rfl) ?_
      refine tr1 rfl (bO (i := 2) rfl rfl rfl rfl rfl Try.sizeOf25 rfl (aA rfl) (Nat.le_of_ble_eq_true rfl) (ds' := (aN (aM.mk 0 0 ([] : List aC) ([] : List aL) ([] : List aL)))) rfl) ?_
      refine tr1 rfl (aJ (v := .d (.lit (.int .i64 41))) (aA rfl) rfl rfl) ?_
      refine aF ?_
      have h := Option.some.inj h
      subst h
      exact bI ⟨rfl, _, [.arr w27 42 5 (r25.1.map aB), .box b1 0 (aN l_0), .box b2 0 (aN (aM.mk 0 0 ([] : List aC) ([] : List aL) ([] : List aL))), .map r10 (o29_0_13.map fun p : aC × Int => ((fun a : aC => Value.agg ((aB a).map eT).toArray) p.1, (fun v : Int => AV.d (.lit (.int .i64 v))) p.2)) bs14 ck15], .two (.cell 4 25 rfl (i := 2) rfl dZ (es := (aN (aM.mk 0 0 ([] : List aC) ([] : List aL) ([] : List aL)))) rfl rfl) (.tmp 5 (v := .d (.lit (.int .i64 41))) rfl), .refl _, .same _⟩
     ·have h := aT c28 h
      refine bE ?_
      refine aG ?_
      obtain ⟨r30, h31, h⟩ := bind_some h
      obtain ⟨r32, h33, h⟩ := bind_some h
      refine lC mix 8 [2, 4] (fun X29 => [(63, .d (.lit w27)), (66, .d (.lit (X29 3).v)), (69, .d (.lit (X29 6).v)), (70, .bp b1 0 2)]) (fun X29 => [.arr w27 42 5 (r25.1.map aB), .box b1 0 (aN l_0), .box b2 0 (aN (aM.mk 0 0 ([] : List aC) ([] : List aL) ([] : List aL))), .map r10 (o29_0_13.map fun p : aC × Int => ((fun a : aC => Value.agg ((aB a).map eT).toArray) p.1, (fun v : Int => AV.d (.lit (.int .i64 v))) p.2)) bs14 ck15, .arr (X29 3).v 66 3 (r30.map aH), .arr (X29 6).v 66 3 (r32.map aH)]) ?_ ?_
      ·refine ⟨2, fun X29 => [(63, 0, .d (.lit w27)), (64, 1, .bp b1 0 3), (65, 2, .d (.sl 3 (l_0.Bans.map aH))), (66, 3, .d (.lit (X29 3).v)), (67, 4, .bp b1 0 4), (68, 5, .d (.sl 3 (l_0.Frozen.map aH))), (69, 6, .d (.lit (X29 6).v)), (70, 7, .bp b1 0 2)], fun X29 => [([], .arr w27 42 5 (r25.1.map aB)), ([], .box b1 0 (aN l_0)), ([], .box b2 0 (aN (aM.mk 0 0 ([] : List aC) ([] : List aL) ([] : List aL)))), ([], .map r10 (o29_0_13.map fun p : aC × Int => ((fun a : aC => Value.agg ((aB a).map eT).toArray) p.1, (fun v : Int => AV.d (.lit (.int .i64 v))) p.2)) bs14 ck15), ([(3, .arr (X29 3).v 66 3 (r30.map aH))], nob), ([(6, .arr (X29 6).v 66 3 (r32.map aH))], nob)], ?_, ?_⟩
       · exact ⟨by kernel_rfl, by kernel_rfl, by kernel_rfl, fun _ => by kernel_rfl, fun _ => by kernel_rfl, fun _ => by kernel_rfl, fun _ => rfl, [([], []), ([], [3, 6]), ([1], [3, 6]), ([2], [6]), ([], [6]), ([4], [6]), ([3, 5], []), ([], [])], by kernel_rfl, ⟨fun X29 S hw hi hS => bG (X := X29) rfl (hw X29) rfl (aQ rfl (aD (v := .d (.lit w27)) (aA rfl) (aI hS rfl) rfl)),
      fun X29 S hw hi hS => bG (X := X29) rfl (hw X29) rfl (aQ rfl (aS (aA rfl) (aI hS rfl) jI)),
      fun X29 S hw hi hS => bG (X := X29) rfl (hw X29) rfl (aQ rfl (aV (aA rfl) (aI hS rfl) (i := 1) (og hS rfl rfl) rfl fV)),
      fun X29 S hw hi hS => aAu (X := X29) (p := 4) (v := fun x => .d (.lit x.v)) (mo := fun x => .arr x.v 66 3 (r30.map aH)) hS hi rfl rfl (fun _ => rfl) hw (fun _ => rfl) (fun _ => rfl) (fun _ => rfl) (fun _ => ⟨rfl, rfl, .inr rfl, ⟨rfl, rfl, .inr rfl, ⟨rfl, rfl, .inr rfl, ⟨rfl, rfl, .inl rfl, ⟨rfl, rfl, .inr rfl, ⟨rfl, rfl, .inr rfl, ⟨rfl, rfl, .inr rfl, ⟨rfl, rfl, .inr rfl, trivial⟩⟩⟩⟩⟩⟩⟩⟩) (fun _ => ⟨trivial, rfl, ⟨trivial, rfl, ⟨trivial, rfl, ⟨trivial, rfl, ⟨⟨rfl, .inl rfl, trivial⟩, rfl, ⟨⟨rfl, .inr rfl, trivial⟩, rfl, trivial⟩⟩⟩⟩⟩⟩) (tC (pK (aA rfl) (.func _ _ Try.call63) (ev2 (aI hS rfl) evn) rfl (nQ _ h31)) (by rintro _ ⟨w, rfl⟩; exact ⟨⟨0, w⟩, aX [0, 1, 2, 3, 6, 5] rfl rfl (le_refl _)⟩)),
      fun X29 S hw hi hS => bG (X := X29) rfl (hw X29) rfl (aQ rfl (aS (aA rfl) (aI hS rfl) hH)),
      fun X29 S hw hi hS => bG (X := X29) rfl (hw X29) rfl (aQ rfl (aV (aA rfl) (aI hS rfl) (i := 1) (og hS rfl rfl) rfl fV)),
      fun X29 S hw hi hS => aAu (X := X29) (p := 5) (v := fun x => .d (.lit x.v)) (mo := fun x => .arr x.v 66 3 (r32.map aH)) hS hi rfl rfl (fun _ => rfl) hw (fun _ => rfl) (fun _ => rfl) (fun _ => rfl) (fun _ => ⟨rfl, rfl, .inr rfl, ⟨rfl, rfl, .inr rfl, ⟨rfl, rfl, .inr rfl, ⟨rfl, rfl, .inr rfl, ⟨rfl, rfl, .inr rfl, ⟨rfl, rfl, .inr rfl, ⟨rfl, rfl, .inl rfl, ⟨rfl, rfl, .inr rfl, trivial⟩⟩⟩⟩⟩⟩⟩⟩) (fun _ => ⟨trivial, rfl, ⟨trivial, rfl, ⟨trivial, rfl, ⟨trivial, rfl, ⟨⟨rfl, .inr rfl, trivial⟩, rfl, ⟨⟨rfl, .inl rfl, trivial⟩, rfl, trivial⟩⟩⟩⟩⟩⟩) (tC (pK (aA rfl) (.func _ _ Try.call63) (ev2 (aI hS rfl) evn) rfl (nQ _ h33)) (by rintro _ ⟨w, rfl⟩; exact ⟨⟨0, w⟩, aX [0, 1, 2, 3, 4, 6] rfl rfl (le_refl _)⟩)),
      fun X29 S hw hi hS => bG (X := X29) rfl (hw X29) rfl (aQ rfl (aS (aA rfl) (aI hS rfl) dI)), trivial⟩⟩
       · exact fun X29 => dX (aO rfl (aO rfl (aO rfl (aO rfl (aY ⟨rfl, rfl, trivial⟩)))))
      ·intro X29
       refine tr1 rfl (bO (i := 1) rfl rfl rfl rfl rfl Try.sizeOf22 rfl (aA rfl) (Nat.le_of_ble_eq_true rfl) (ds' := [.lit (.int .i64 l_0.Players), .lit (.int .i64 l_0.Counts), .lit w27, .sl 3 (l_0.Bans.map aH), .sl 3 (l_0.Frozen.map aH)]) rfl) ?_
       refine tr1 rfl (aS (aA rfl) rfl jI) ?_
       refine tr1 rfl (bO (i := 1) rfl rfl rfl rfl rfl Try.sizeOf23 rfl (aA rfl) (Nat.le_of_ble_eq_true rfl) (ds' := [.lit (.int .i64 l_0.Players), .lit (.int .i64 l_0.Counts), .lit w27, .lit (X29 3).v, .sl 3 (l_0.Frozen.map aH)]) rfl) ?_
       refine tr1 rfl (aS (aA rfl) rfl hH) ?_
       refine tr1 rfl (bO (i := 1) rfl rfl rfl rfl rfl Try.sizeOf23 rfl (aA rfl) (Nat.le_of_ble_eq_true rfl) (ds' := [.lit (.int .i64 l_0.Players), .lit (.int .i64 l_0.Counts), .lit w27, .lit (X29 3).v, .lit (X29 6).v]) rfl) ?_
       refine aF ?_
       refine aG ?_
       refine aE ?_
       refine tr1 rfl (cS (aA rfl) rfl (i := 1) rfl dZ (es := [.lit (.int .i64 l_0.Players), .lit (.int .i64 l_0.Counts), .lit w27, .lit (X29 3).v, .lit (X29 6).v]) rfl rfl) ?_
       refine tr1 rfl (bO (i := 2) rfl rfl rfl rfl rfl Try.sizeOf25 rfl (aA rfl) (Nat.le_of_ble_eq_true rfl) (ds' := [.lit (.int .i64 l_0.Players), .lit (.int .i64 l_0.Counts), .lit w27, .lit (X29 3).v, .lit (X29 6).v]) rfl) ?_
       refine tr1 rfl (aJ (v := .d (.lit (.int .i64 0))) (aA rfl) rfl rfl) ?_
       refine aF ?_
       have h := Option.some.inj h
       subst h
       exact bI ⟨rfl, _, [.arr w27 42 5 (r25.1.map aB), .box b1 0 [.lit (.int .i64 l_0.Players), .lit (.int .i64 l_0.Counts), .lit w27, .lit (X29 3).v, .lit (X29 6).v], .box b2 0 [.lit (.int .i64 l_0.Players), .lit (.int .i64 l_0.Counts), .lit w27, .lit (X29 3).v, .lit (X29 6).v], .map r10 (o29_0_13.map fun p : aC × Int => ((fun a : aC => Value.agg ((aB a).map eT).toArray) p.1, (fun v : Int => AV.d (.lit (.int .i64 v))) p.2)) bs14 ck15, .arr (X29 3).v 66 3 (r30.map aH), .arr (X29 6).v 66 3 (r32.map aH)], .two (.cell 4 25 rfl (i := 2) rfl dZ (es := [.lit (.int .i64 l_0.Players), .lit (.int .i64 l_0.Counts), .lit w27, .lit (X29 3).v, .lit (X29 6).v]) rfl rfl) (.tmp 5 (v := .d (.lit (.int .i64 0))) rfl), .refl _, aIn (.cons (.agg (dvc (.same _) (dvc (.same _) (dvc (jP 0 rfl (cY (f := aB) fun _ => rfl)) (dvc (jP 4 rfl (cY (f := aH) fun _ => rfl)) (dvc (jP 5 rfl (cY (f := aH) fun _ => rfl)) dvn)))))) (.cons (.same _) .nil))⟩

theorem xP (l_0 : aM) (more_1 : List aC) {r : aM × Int} (h : lY l_0 more_1 = some r) : Fn Try.prog 30 [.agg (aN l_0), .d (.sl 5 (more_1.map aB))] (.tup [.agg (aN r.1), .d (.lit (.int .i64 r.2))]) := by
 unfold lY at h
 refine nX Try.func30 rfl (rs := [.cell 4 25, .tmp 5]) Try.results30 Try.ntmps30 (Nat.le_of_ble_eq_true rfl) ?_
 refine aG ?_
 refine aE ?_
 refine bR rfl (fX (v := .agg (aN l_0)) (aA rfl) rfl rfl rfl) ?_
 rintro _ ⟨b1, rfl⟩
 refine bR rfl (fF (zs := [.lit (.int .i64 0), .lit (.int .i64 0), .sl 5 ((([] : List aC)).map aB), .sl 3 ((([] : List aL)).map aH), .sl 3 ((([] : List aL)).map aH)]) (aA rfl) Try.zeroValue25 rfl rfl) ?_
 rintro _ ⟨b2, rfl⟩
 refine tr1 rfl (aJ (v := .d (.lit (.int .i64 0))) (aA rfl) rfl rfl) ?_
 refine aF ?_
 refine aG ?_
 refine aG ?_
 refine aE ?_
 refine tr1 rfl (cS (aA rfl) rfl (i := 0) rfl dZ (es := (aN l_0)) rfl rfl) ?_
 obtain ⟨r3, h4, h⟩ := bind_some h
 refine tr1 rfl (cC (aA rfl) (.func _ _ Try.call15) rfl rfl (BVs.refl _ _) (oV _ h4) rfl) ?_
 refine tr1 rfl (aJ (v := .d (.lit (.int .i64 r3))) (aA rfl) rfl rfl) ?_
 refine aF ?_
 refine aG ?_
 refine aE ?_
 refine tr1 rfl (aD (v := .d (.lit (.int .i64 r3))) (aA rfl) rfl rfl) ?_
 refine tr1 rfl (bC (aA rfl) rfl rfl rfl) ?_
 refine aF ?_
 refine bH rfl (fun c5 => ?_) (fun c5 => ?_)
 ·have h := aU c5 h
  refine aG ?_
  refine aE ?_
  refine tr1 rfl (iB (aA rfl) rS (zs := [.lit (.int .i64 0), .lit (.int .i64 0), .sl 5 ((([] : List aC)).map aB), .sl 3 ((([] : List aL)).map aH), .sl 3 ((([] : List aL)).map aH)]) rfl rfl rfl rfl (es := [.lit (.int .i64 0), .lit (.int .i64 0), .sl 5 ((([] : List aC)).map aB), .sl 3 ((([] : List aL)).map aH), .sl 3 ((([] : List aL)).map aH)]) rfl) ?_
  refine tr1 rfl (aD (v := .d (.lit (.int .i64 r3))) (aA rfl) rfl rfl) ?_
  refine tr1 rfl (bO (i := 1) rfl rfl rfl rfl rfl Try.sizeOf25 rfl (aA rfl) (Nat.le_of_ble_eq_true rfl) (ds' := (aN (aM.mk 0 0 ([] : List aC) ([] : List aL) ([] : List aL)))) rfl) ?_
  refine tr1 rfl (aJ (v := .d (.lit (.int .i64 r3))) (aA rfl) rfl rfl) ?_
  refine aF ?_
  have h := Option.some.inj h
  subst h
  exact bI ⟨rfl, _, [.box b1 0 (aN l_0), .box b2 0 (aN (aM.mk 0 0 ([] : List aC) ([] : List aL) ([] : List aL)))], .two (.cell 4 25 rfl (i := 1) rfl dZ (es := (aN (aM.mk 0 0 ([] : List aC) ([] : List aL) ([] : List aL)))) rfl rfl) (.tmp 5 (v := .d (.lit (.int .i64 r3))) rfl), .refl _, .same _⟩
 ·have h := aT c5 h
  refine bE ?_
  refine aG ?_
  refine aE ?_
  refine tr1 rfl (cS (aA rfl) rfl (i := 0) rfl dZ (es := (aN l_0)) rfl rfl) ?_
  obtain ⟨r6, h7, h⟩ := bind_some h
  refine tr1 rfl (jZ (aA rfl) (.func _ _ Try.call18) rfl rfl (tJ _ h7)) ?_
  refine bR rfl (fF (zs := [.lit (.int .i64 0), .lit (.int .i64 0), .sl 5 ((([] : List aC)).map aB), .sl 3 ((([] : List aL)).map aH), .sl 3 ((([] : List aL)).map aH)]) (aA rfl) Try.zeroValue25 rfl rfl) ?_
  rintro _ ⟨b8, rfl⟩
  refine tr1 rfl (bO (i := 2) rfl rfl rfl rfl rfl Try.sizeOf25 rfl (aA rfl) (Nat.le_of_ble_eq_true rfl) (ds' := (aN r6)) rfl) ?_
  refine aF ?_
  refine aG ?_
  refine aE ?_
  refine tr1 rfl (aD (v := .d (.sl 5 (more_1.map aB))) (aA rfl) rfl rfl) ?_
  refine tr1 rfl (aS (aA rfl) rfl dI) ?_
  refine tr1 rfl (bO (i := 2) rfl rfl rfl rfl rfl Try.sizeOf22 rfl (aA rfl) (Nat.le_of_ble_eq_true rfl) (ds' := (aN (aM.mk r6.Players r6.Counts more_1 r6.Bans r6.Frozen))) rfl) ?_
  refine aF ?_
  refine aG ?_
  refine aG ?_
  refine aE ?_
  refine tr1 rfl (cS (aA rfl) rfl (i := 2) rfl dZ (es := (aN (aM.mk r6.Players r6.Counts more_1 r6.Bans r6.Frozen))) rfl rfl) ?_
  obtain ⟨r9, h10, h⟩ := bind_some h
  refine tr1 rfl (cC (aA rfl) (.func _ _ Try.call15) rfl rfl (BVs.refl _ _) (oV _ h10) rfl) ?_
  refine tr1 rfl (aJ (v := .d (.lit (.int .i64 r9))) (aA rfl) rfl rfl) ?_
  refine aF ?_
  refine aG ?_
  refine aE ?_
  refine tr1 rfl (aD (v := .d (.lit (.int .i64 r9))) (aA rfl) rfl rfl) ?_
  refine tr1 rfl (bC (aA rfl) rfl rfl rfl) ?_
  refine aF ?_
  refine bH rfl (fun c11 => ?_) (fun c11 => ?_)
  ·have h := aU c11 h
   refine aG ?_
   refine aE ?_
   refine tr1 rfl (iB (aA rfl) rS (zs := [.lit (.int .i64 0), .lit (.int .i64 0), .sl 5 ((([] : List aC)).map aB), .sl 3 ((([] : List aL)).map aH), .sl 3 ((([] : List aL)).map aH)]) rfl rfl rfl rfl (es := [.lit (.int .i64 0), .lit (.int .i64 0), .sl 5 ((([] : List aC)).map aB), .sl 3 ((([] : List aL)).map aH), .sl 3 ((([] : List aL)).map aH)]) rfl) ?_
   refine tr1 rfl (aD (v := .d (.lit (.int .i64 r9))) (aA rfl) rfl rfl) ?_
   refine tr1 rfl (bO (i := 1) rfl rfl rfl rfl rfl Try.sizeOf25 rfl (aA rfl) (Nat.le_of_ble_eq_true rfl) (ds' := (aN (aM.mk 0 0 ([] : List aC) ([] : List aL) ([] : List aL)))) rfl) ?_
   refine tr1 rfl (aJ (v := .d (.lit (.int .i64 r9))) (aA rfl) rfl rfl) ?_
   refine aF ?_
   have h := Option.some.inj h
   subst h
   exact bI ⟨rfl, _, [.box b1 0 (aN l_0), .box b2 0 (aN (aM.mk 0 0 ([] : List aC) ([] : List aL) ([] : List aL))), .box b8 0 (aN (aM.mk r6.Players r6.Counts more_1 r6.Bans r6.Frozen))], .two (.cell 4 25 rfl (i := 1) rfl dZ (es := (aN (aM.mk 0 0 ([] : List aC) ([] : List aL) ([] : List aL)))) rfl rfl) (.tmp 5 (v := .d (.lit (.int .i64 r9))) rfl), .refl _, .same _⟩
  ·have h := aT c11 h
   refine bE ?_
   refine aG ?_
   refine aE ?_
   refine bR rfl (vI (aA rfl) bP rfl rfl (rows := (([] : List aC)).map aB) rfl (cY (f := aB) fun _ => rfl) rfl (by decide)) ?_
   rintro _ ⟨v12, rfl⟩
   refine tr1 rfl (aS (aA rfl) rfl dI) ?_
   refine tr1 rfl (aV (aA rfl) rfl (i := 0) rfl rfl fR) ?_
   obtain ⟨x13, h14, h⟩ := bind_some h
   refine bR rfl (kA (i := 3) (aA rfl) bP rfl rfl rfl (fun _ => rfl) h14 rfl) ?_
   rintro _ ⟨v15, rfl⟩
   refine tr1 rfl (aD (v := .d (.sl 5 (more_1.map aB))) (aA rfl) rfl rfl) ?_
   obtain ⟨x16, h17, h⟩ := bind_some h
   refine bR rfl (kA (i := 3) (aA rfl) bP rfl rfl rfl (fun _ => rfl) h17 rfl) ?_
   rintro _ ⟨v18, rfl⟩
   refine gJ (vY [.box b1 0 (aN l_0), .box b2 0 (aN (aM.mk 0 0 ([] : List aC) ([] : List aL) ([] : List aL))), .box b8 0 (aN (aM.mk r6.Players r6.Counts more_1 r6.Bans r6.Frozen))] [.arr v18 42 5 (x16.map aB)] rfl (aFl (v' := .d (.sl 5 (x16.map aB))) (.d (aEh (cY (f := aB) fun _ => rfl))) (qJ _ _))) ?_
   obtain ⟨r19, h20, h⟩ := bind_some h
   refine tr1 rfl (jZ (aA rfl) (.func _ _ Try.call64) rfl rfl (vU _ h20)) ?_
   refine tr1 rfl (aS (aA rfl) rfl dI) ?_
   refine tr1 rfl (bO (i := 2) rfl rfl rfl rfl rfl Try.sizeOf22 rfl (aA rfl) (Nat.le_of_ble_eq_true rfl) (ds' := (aN (aM.mk r6.Players r6.Counts r19 r6.Bans r6.Frozen))) rfl) ?_
   refine aF ?_
   refine aG ?_
   refine aG ?_
   refine aE ?_
   refine tr1 rfl (aS (aA rfl) rfl dI) ?_
   refine tr1 rfl (aV (aA rfl) rfl (i := 2) rfl rfl fR) ?_
   refine tr1 rfl (dB (aA rfl) rfl bP.of) ?_
   refine tr1 rfl (bC (aA rfl) rfl rfl rfl) ?_
   refine aF ?_
   refine bH rfl (fun c21 => ?_) (fun c21 => ?_)
   ·have h := aU c21 h
    refine aG ?_
    refine aE ?_
    refine tr1 rfl (iB (aA rfl) rS (zs := [.lit (.int .i64 0), .lit (.int .i64 0), .sl 5 ((([] : List aC)).map aB), .sl 3 ((([] : List aL)).map aH), .sl 3 ((([] : List aL)).map aH)]) rfl rfl rfl rfl (es := [.lit (.int .i64 0), .lit (.int .i64 0), .sl 5 ((([] : List aC)).map aB), .sl 3 ((([] : List aL)).map aH), .sl 3 ((([] : List aL)).map aH)]) rfl) ?_
    refine tr1 rfl (bO (i := 1) rfl rfl rfl rfl rfl Try.sizeOf25 rfl (aA rfl) (Nat.le_of_ble_eq_true rfl) (ds' := (aN (aM.mk 0 0 ([] : List aC) ([] : List aL) ([] : List aL)))) rfl) ?_
    refine tr1 rfl (aJ (v := .d (.lit (.int .i64 40))) (aA rfl) rfl rfl) ?_
    refine aF ?_
    have h := Option.some.inj h
    subst h
    exact bI ⟨rfl, _, [.box b1 0 (aN l_0), .box b2 0 (aN (aM.mk 0 0 ([] : List aC) ([] : List aL) ([] : List aL))), .box b8 0 (aN (aM.mk r6.Players r6.Counts r19 r6.Bans r6.Frozen))], .two (.cell 4 25 rfl (i := 1) rfl dZ (es := (aN (aM.mk 0 0 ([] : List aC) ([] : List aL) ([] : List aL)))) rfl rfl) (.tmp 5 (v := .d (.lit (.int .i64 40))) rfl), .refl _, .same _⟩
   ·have h := aT c21 h
    refine bE ?_
    refine aG ?_
    refine aG ?_
    refine aE ?_
    refine tr1 rfl (aS (aA rfl) rfl dI) ?_
    refine tr1 rfl (aV (aA rfl) rfl (i := 2) rfl rfl fR) ?_
    obtain ⟨r22, h23, h⟩ := bind_some h
    refine tr1 rfl (cC (aA rfl) (.func _ _ Try.call42) rfl rfl (BVs.refl _ _) (sS _ h23) rfl) ?_
    refine aF ?_
    refine bH rfl (fun c24 => ?_) (fun c24 => ?_)
    ·have h := aU c24 h
     refine aG ?_
     refine aE ?_
     refine tr1 rfl (iB (aA rfl) rS (zs := [.lit (.int .i64 0), .lit (.int .i64 0), .sl 5 ((([] : List aC)).map aB), .sl 3 ((([] : List aL)).map aH), .sl 3 ((([] : List aL)).map aH)]) rfl rfl rfl rfl (es := [.lit (.int .i64 0), .lit (.int .i64 0), .sl 5 ((([] : List aC)).map aB), .sl 3 ((([] : List aL)).map aH), .sl 3 ((([] : List aL)).map aH)]) rfl) ?_
     refine tr1 rfl (bO (i := 1) rfl rfl rfl rfl rfl Try.sizeOf25 rfl (aA rfl) (Nat.le_of_ble_eq_true rfl) (ds' := (aN (aM.mk 0 0 ([] : List aC) ([] : List aL) ([] : List aL)))) rfl) ?_
     refine tr1 rfl (aJ (v := .d (.lit (.int .i64 41))) (aA rfl) rfl rfl) ?_
     refine aF ?_
     have h := Option.some.inj h
     subst h
     exact bI ⟨rfl, _, [.box b1 0 (aN l_0), .box b2 0 (aN (aM.mk 0 0 ([] : List aC) ([] : List aL) ([] : List aL))), .box b8 0 (aN (aM.mk r6.Players r6.Counts r19 r6.Bans r6.Frozen))], .two (.cell 4 25 rfl (i := 1) rfl dZ (es := (aN (aM.mk 0 0 ([] : List aC) ([] : List aL) ([] : List aL)))) rfl rfl) (.tmp 5 (v := .d (.lit (.int .i64 41))) rfl), .refl _, .same _⟩
    ·have h := aT c24 h
     refine bE ?_
     refine aG ?_
     refine aE ?_
     refine tr1 rfl (cS (aA rfl) rfl (i := 2) rfl dZ (es := (aN (aM.mk r6.Players r6.Counts r19 r6.Bans r6.Frozen))) rfl rfl) ?_
     refine tr1 rfl (bO (i := 1) rfl rfl rfl rfl rfl Try.sizeOf25 rfl (aA rfl) (Nat.le_of_ble_eq_true rfl) (ds' := (aN (aM.mk r6.Players r6.Counts r19 r6.Bans r6.Frozen))) rfl) ?_
     refine tr1 rfl (aJ (v := .d (.lit (.int .i64 0))) (aA rfl) rfl rfl) ?_
     refine aF ?_
     have h := Option.some.inj h
     subst h
     exact bI ⟨rfl, _, [.box b1 0 (aN l_0), .box b2 0 (aN (aM.mk r6.Players r6.Counts r19 r6.Bans r6.Frozen)), .box b8 0 (aN (aM.mk r6.Players r6.Counts r19 r6.Bans r6.Frozen))], .two (.cell 4 25 rfl (i := 1) rfl dZ (es := (aN (aM.mk r6.Players r6.Counts r19 r6.Bans r6.Frozen))) rfl rfl) (.tmp 5 (v := .d (.lit (.int .i64 0))) rfl), .refl _, .same _⟩

theorem yS (a_0 : aM) (b_1 : aM) {r : Bool} (h : mM a_0 b_1 = some r) : Fn Try.prog 31 [.agg (aN a_0), .agg (aN b_1)] (.d (.lit (.bool r))) := by
 unfold mM at h
 refine Fn.of_tr Try.func31 rfl (rs := [.tmp 4]) Try.results31 Try.ntmps31 (Nat.le_of_ble_eq_true rfl) ?_
 refine aG ?_
 refine aE ?_
 refine bR rfl (fX (v := .agg (aN a_0)) (aA rfl) rfl rfl rfl) ?_
 rintro _ ⟨b1, rfl⟩
 refine bR rfl (fX (v := .agg (aN b_1)) (aA rfl) rfl rfl rfl) ?_
 rintro _ ⟨b2, rfl⟩
 refine tr1 rfl (aJ (v := .d (.lit (.bool false))) (aA rfl) rfl rfl) ?_
 refine aF ?_
 refine aG ?_
 refine aG ?_
 refine aE ?_
 refine tr1 rfl (aS (aA rfl) rfl jH) ?_
 refine tr1 rfl (aV (aA rfl) rfl (i := 0) rfl rfl bM) ?_
 refine tr1 rfl (aS (aA rfl) rfl jH) ?_
 refine tr1 rfl (aV (aA rfl) rfl (i := 1) rfl rfl bM) ?_
 refine tr1 rfl (bC (aA rfl) rfl rfl rfl) ?_
 refine tr1 rfl (aD (v := .d (.lit (.bool ((!decide (a_0.Players = b_1.Players)))))) (aA rfl) rfl rfl) ?_
 obtain ⟨b3, h4, h⟩ := bind_some h
 refine cA 6 [2, 3] 19 b3 ?_ ?_
 ·refine bJ (!decide (a_0.Players = b_1.Players)) (fun c39 => ?_) (fun c39 => ?_)
  ·have h4 := aU c39 h4
   refine aR rfl rfl (aA rfl) rfl (aA rfl) rfl c39 ?_
   refine aR rfl rfl (aA rfl) rfl (aA rfl) rfl c39 ?_
   refine aR rfl rfl (aA rfl) rfl (aA rfl) rfl c39 ?_
   refine aR rfl rfl (aA rfl) rfl (aA rfl) rfl c39 ?_
   refine aR rfl rfl (aA rfl) rfl (aA rfl) rfl c39 ?_
   refine tr1 rfl (bW (v := .d (.lit (.bool true))) (aA rfl) rfl c39 rfl rfl) ?_
   have h4 := Option.some.inj h4
   subst h4
   refine aF (bB rfl ⟨rfl, rfl, trivial⟩ rfl)
  ·have h4 := aT c39 h4
   refine aP rfl rfl (aA rfl) rfl c39 (aS (aA rfl) rfl uE) ?_
   refine aP rfl rfl (aA rfl) rfl c39 (aV (aA rfl) rfl (i := 0) rfl rfl bM) ?_
   refine aP rfl rfl (aA rfl) rfl c39 (aS (aA rfl) rfl uE) ?_
   refine aP rfl rfl (aA rfl) rfl c39 (aV (aA rfl) rfl (i := 1) rfl rfl bM) ?_
   refine aP rfl rfl (aA rfl) rfl c39 (bC (aA rfl) rfl rfl rfl) ?_
   refine tr1 rfl (bT (v := .d (.lit (.bool ((!decide (a_0.Counts = b_1.Counts)))))) (aA rfl) rfl c39 rfl rfl) ?_
   have h4 := Option.some.inj h4
   subst h4
   refine aF (bB rfl ⟨rfl, rfl, trivial⟩ rfl)
 ·refine tr1 rfl (aD (v := .d (.lit (.bool b3))) (aA rfl) rfl rfl) ?_
  obtain ⟨b5, h6, h⟩ := bind_some h
  refine cA 8 [2, 3] 28 b5 ?_ ?_
  ·refine bJ (b3) (fun c38 => ?_) (fun c38 => ?_)
   ·have h6 := aU c38 h6
    refine aR rfl rfl (aA rfl) rfl (aA rfl) rfl c38 ?_
    refine aR rfl rfl (aA rfl) rfl (aA rfl) rfl c38 ?_
    refine aR rfl rfl (aA rfl) rfl (aA rfl) rfl c38 ?_
    refine aR rfl rfl (aA rfl) rfl (aA rfl) rfl c38 ?_
    refine aR rfl rfl (aA rfl) rfl (aA rfl) rfl c38 ?_
    refine aR rfl rfl (aA rfl) rfl (aA rfl) rfl c38 ?_
    refine aR rfl rfl (aA rfl) rfl (aA rfl) rfl c38 ?_
    refine tr1 rfl (bW (v := .d (.lit (.bool true))) (aA rfl) rfl c38 rfl rfl) ?_
    have h6 := Option.some.inj h6
    subst h6
    refine aF (bB rfl ⟨rfl, rfl, trivial⟩ rfl)
   ·have h6 := aT c38 h6
    refine aP rfl rfl (aA rfl) rfl c38 (aS (aA rfl) rfl dI) ?_
    refine aP rfl rfl (aA rfl) rfl c38 (aV (aA rfl) rfl (i := 0) rfl rfl fR) ?_
    refine aP rfl rfl (aA rfl) rfl c38 (dB (aA rfl) rfl bP.of) ?_
    refine aP rfl rfl (aA rfl) rfl c38 (aS (aA rfl) rfl dI) ?_
    refine aP rfl rfl (aA rfl) rfl c38 (aV (aA rfl) rfl (i := 1) rfl rfl fR) ?_
    refine aP rfl rfl (aA rfl) rfl c38 (dB (aA rfl) rfl bP.of) ?_
    refine aP rfl rfl (aA rfl) rfl c38 (bC (aA rfl) rfl rfl rfl) ?_
    refine tr1 rfl (bT (v := .d (.lit (.bool ((!decide ((a_0.Reports.length : Int) = (b_1.Reports.length : Int))))))) (aA rfl) rfl c38 rfl rfl) ?_
    have h6 := Option.some.inj h6
    subst h6
    refine aF (bB rfl ⟨rfl, rfl, trivial⟩ rfl)
  ·refine tr1 rfl (aD (v := .d (.lit (.bool b5))) (aA rfl) rfl rfl) ?_
   obtain ⟨b7, h8, h⟩ := bind_some h
   refine cA 8 [2, 3] 37 b7 ?_ ?_
   ·refine bJ (b5) (fun c37 => ?_) (fun c37 => ?_)
    ·have h8 := aU c37 h8
     refine aR rfl rfl (aA rfl) rfl (aA rfl) rfl c37 ?_
     refine aR rfl rfl (aA rfl) rfl (aA rfl) rfl c37 ?_
     refine aR rfl rfl (aA rfl) rfl (aA rfl) rfl c37 ?_
     refine aR rfl rfl (aA rfl) rfl (aA rfl) rfl c37 ?_
     refine aR rfl rfl (aA rfl) rfl (aA rfl) rfl c37 ?_
     refine aR rfl rfl (aA rfl) rfl (aA rfl) rfl c37 ?_
     refine aR rfl rfl (aA rfl) rfl (aA rfl) rfl c37 ?_
     refine tr1 rfl (bW (v := .d (.lit (.bool true))) (aA rfl) rfl c37 rfl rfl) ?_
     have h8 := Option.some.inj h8
     subst h8
     refine aF (bB rfl ⟨rfl, rfl, trivial⟩ rfl)
    ·have h8 := aT c37 h8
     refine aP rfl rfl (aA rfl) rfl c37 (aS (aA rfl) rfl jI) ?_
     refine aP rfl rfl (aA rfl) rfl c37 (aV (aA rfl) rfl (i := 0) rfl rfl fV) ?_
     refine aP rfl rfl (aA rfl) rfl c37 (dB (aA rfl) rfl eI.of) ?_
     refine aP rfl rfl (aA rfl) rfl c37 (aS (aA rfl) rfl jI) ?_
     refine aP rfl rfl (aA rfl) rfl c37 (aV (aA rfl) rfl (i := 1) rfl rfl fV) ?_
     refine aP rfl rfl (aA rfl) rfl c37 (dB (aA rfl) rfl eI.of) ?_
     refine aP rfl rfl (aA rfl) rfl c37 (bC (aA rfl) rfl rfl rfl) ?_
     refine tr1 rfl (bT (v := .d (.lit (.bool ((!decide ((a_0.Bans.length : Int) = (b_1.Bans.length : Int))))))) (aA rfl) rfl c37 rfl rfl) ?_
     have h8 := Option.some.inj h8
     subst h8
     refine aF (bB rfl ⟨rfl, rfl, trivial⟩ rfl)
   ·refine tr1 rfl (aD (v := .d (.lit (.bool b7))) (aA rfl) rfl rfl) ?_
    obtain ⟨b9, h10, h⟩ := bind_some h
    refine cA 8 [2, 3] 46 b9 ?_ ?_
    ·refine bJ (b7) (fun c36 => ?_) (fun c36 => ?_)
     ·have h10 := aU c36 h10
      refine aR rfl rfl (aA rfl) rfl (aA rfl) rfl c36 ?_
      refine aR rfl rfl (aA rfl) rfl (aA rfl) rfl c36 ?_
      refine aR rfl rfl (aA rfl) rfl (aA rfl) rfl c36 ?_
      refine aR rfl rfl (aA rfl) rfl (aA rfl) rfl c36 ?_
      refine aR rfl rfl (aA rfl) rfl (aA rfl) rfl c36 ?_
      refine aR rfl rfl (aA rfl) rfl (aA rfl) rfl c36 ?_
      refine aR rfl rfl (aA rfl) rfl (aA rfl) rfl c36 ?_
      refine tr1 rfl (bW (v := .d (.lit (.bool true))) (aA rfl) rfl c36 rfl rfl) ?_
      have h10 := Option.some.inj h10
      subst h10
      refine aF (bB rfl ⟨rfl, rfl, trivial⟩ rfl)
     ·have h10 := aT c36 h10
      refine aP rfl rfl (aA rfl) rfl c36 (aS (aA rfl) rfl hH) ?_
      refine aP rfl rfl (aA rfl) rfl c36 (aV (aA rfl) rfl (i := 0) rfl rfl fV) ?_
      refine aP rfl rfl (aA rfl) rfl c36 (dB (aA rfl) rfl eI.of) ?_
      refine aP rfl rfl (aA rfl) rfl c36 (aS (aA rfl) rfl hH) ?_
      refine aP rfl rfl (aA rfl) rfl c36 (aV (aA rfl) rfl (i := 1) rfl rfl fV) ?_
      refine aP rfl rfl (aA rfl) rfl c36 (dB (aA rfl) rfl eI.of) ?_
      refine aP rfl rfl (aA rfl) rfl c36 (bC (aA rfl) rfl rfl rfl) ?_
      refine tr1 rfl (bT (v := .d (.lit (.bool ((!decide ((a_0.Frozen.length : Int) = (b_1.Frozen.length : Int))))))) (aA rfl) rfl c36 rfl rfl) ?_
      have h10 := Option.some.inj h10
      subst h10
      refine aF (bB rfl ⟨rfl, rfl, trivial⟩ rfl)
    ·refine aF ?_
     refine bH rfl (fun c11 => ?_) (fun c11 => ?_)
     ·have h := aU c11 h
      refine aG ?_
      refine aE ?_
      refine tr1 rfl (aJ (v := .d (.lit (.bool false))) (aA rfl) rfl rfl) ?_
      refine aF ?_
      have h := Option.some.inj h
      subst h
      refine cR (cJ (cP (l := [4]) ⟨rfl, trivial⟩)) ?_
      exact bI ⟨rfl, _, .one _, rfl, rfl⟩
     ·have h := aT c11 h
      refine bE ?_
      refine aG ?_
      refine aG ?_
      refine aE ?_
      refine tr1 rfl (aJ (v := .d (.lit (.int .i64 0))) (aA rfl) rfl rfl) ?_
      refine aF ?_
      refine bQ ?_
      refine cH [2, 3] (fun (s12 : Int) => [(5, .d (.lit (.int .i64 s12)))]) (fun (s12 : Int) => [.box b1 0 (aN a_0), .box b2 0 (aN b_1)]) (fun (k : Nat) (s12 : Int) => iD a_0 b_1 k s12) (fun _ => rfl) (0) h (aX [0, 1] rfl rfl (aO rfl (aY ⟨rfl, rfl, trivial⟩))) ?_
      rintro k13 i_0_12 h
      simp only [iD] at h
      refine aG ?_
      refine aG ?_
      refine aE ?_
      refine tr1 rfl (aD (v := .d (.lit (.int .i64 i_0_12))) (aA rfl) rfl rfl) ?_
      refine tr1 rfl (aS (aA rfl) rfl dI) ?_
      refine tr1 rfl (aV (aA rfl) rfl (i := 0) rfl rfl fR) ?_
      refine tr1 rfl (dB (aA rfl) rfl bP.of) ?_
      refine tr1 rfl (bC (aA rfl) rfl rfl rfl) ?_
      refine aF ?_
      refine bH rfl (fun c14 => ?_) (fun c14 => ?_)
      ·have h := aU c14 h
       refine bE ?_
       refine aG ?_
       refine bQ ?_
       refine aG ?_
       obtain ⟨x15, h16, h⟩ := bind_some h
       obtain ⟨x17, h18, h⟩ := bind_some h
       refine fU mix 10 [2, 3, 5] [(58, .agg (aB x15)), (63, .agg (aB x17))] ?_ ?_
       ·refine ⟨[(54, 0, .bp b1 0 2), (55, 1, .d (.sl 5 (a_0.Reports.map aB))), (56, 2, .d (.lit (.int .i64 i_0_12))), (57, 3, .cp [.lit (.int .i64 x15.Id), .lit (.int .i64 x15.Player), .lit (.int .i64 x15.Week), .lit (.int .i64 x15.Points), .lit (.bool x15.Must)]), (58, 4, .agg (aB x15)), (59, 5, .bp b2 0 2), (60, 6, .d (.sl 5 (b_1.Reports.map aB))), (61, 7, .d (.lit (.int .i64 i_0_12))), (62, 8, .cp [.lit (.int .i64 x17.Id), .lit (.int .i64 x17.Player), .lit (.int .i64 x17.Week), .lit (.int .i64 x17.Points), .lit (.bool x17.Must)]), (63, 9, .agg (aB x17))], ?_, ?_⟩
        · exact ⟨by kernel_rfl, by kernel_rfl, by kernel_rfl, by kernel_rfl, by kernel_rfl, [([], []), ([0], []), ([], []), ([1, 2], []), ([3], []), ([], []), ([5], []), ([], []), ([6, 7], []), ([8], [])], by kernel_rfl, ⟨fun S hS => aK rfl (aQ rfl (aS (aA rfl) (aI hS rfl) dI)),
      fun S hS => aK rfl (aQ rfl (aV (aA rfl) (aI hS rfl) (i := 0) rfl rfl fR)),
      fun S hS => aK rfl (aQ rfl (aD (v := .d (.lit (.int .i64 i_0_12))) (aA rfl) (aI hS rfl) rfl)),
      fun S hS => aK rfl (aQ rfl (bY (aA rfl) (aI hS rfl) (aI hS rfl) bP.of (bN aB h16))),
      fun S hS => aK rfl (aQ rfl (eH (aA rfl) (aI hS rfl) dR (es := (aB x15)) rfl rfl)),
      fun S hS => aK rfl (aQ rfl (aS (aA rfl) (aI hS rfl) dI)),
      fun S hS => aK rfl (aQ rfl (aV (aA rfl) (aI hS rfl) (i := 1) rfl rfl fR)),
      fun S hS => aK rfl (aQ rfl (aD (v := .d (.lit (.int .i64 i_0_12))) (aA rfl) (aI hS rfl) rfl)),
      fun S hS => aK rfl (aQ rfl (bY (aA rfl) (aI hS rfl) (aI hS rfl) bP.of (bN aB h18))),
      fun S hS => aK rfl (aQ rfl (eH (aA rfl) (aI hS rfl) dR (es := (aB x17)) rfl rfl)), trivial⟩⟩
        · exact dX (aO rfl (aO rfl (aY ⟨rfl, rfl, rfl, trivial⟩)))
       ·refine tr1 rfl (aAp (a := x15) (b := x17) (aA rfl) rfl rfl rfl rfl Try.eqGuardType42 vZ) ?_
        refine aF ?_
        refine bH rfl (fun c19 => ?_) (fun c19 => ?_)
        ·have h := aU c19 h
         refine aG ?_
         refine aE ?_
         refine tr1 rfl (aJ (v := .d (.lit (.bool false))) (aA rfl) rfl rfl) ?_
         refine aF ?_
         have h := Option.some.inj h
         subst h
         refine cR (cJ (cP (l := [4]) ⟨rfl, trivial⟩)) ?_
         exact bI ⟨rfl, _, .one _, rfl, rfl⟩
        ·have h := aT c19 h
         refine eF ?_
         refine aE ?_
         refine tr1 rfl (aD (v := .d (.lit (.int .i64 i_0_12))) (aA rfl) rfl rfl) ?_
         refine tr1 rfl (aZ (aA rfl) rfl rfl rfl) ?_
         refine tr1 rfl (aJ (v := .d (.lit (.int .i64 ((w64 (i_0_12 + 1)))))) (aA rfl) rfl rfl) ?_
         refine aF ?_
         exact ⟨(w64 (i_0_12 + 1)), h, aX [0, 1] rfl rfl (aO rfl (aY ⟨rfl, rfl, trivial⟩))⟩
      ·have h := aT c14 h
       refine cQ ?_
       refine .inl ⟨rfl, ?_⟩
       simp only [mN] at h
       refine aG ?_
       refine aG ?_
       refine aE ?_
       refine tr1 rfl (aJ (v := .d (.lit (.int .i64 0))) (aA rfl) rfl rfl) ?_
       refine aF ?_
       refine bQ ?_
       refine cH [2, 3] (fun (s20 : Int) => [(6, .d (.lit (.int .i64 s20)))]) (fun (s20 : Int) => [.box b1 0 (aN a_0), .box b2 0 (aN b_1)]) (fun (k : Nat) (s20 : Int) => iE a_0 b_1 k s20) (fun _ => rfl) (0) h (aX [0, 1] rfl rfl (aO rfl (aY ⟨rfl, rfl, trivial⟩))) ?_
       rintro k21 i_2_20 h
       simp only [iE] at h
       refine aG ?_
       refine aG ?_
       refine aE ?_
       refine tr1 rfl (aD (v := .d (.lit (.int .i64 i_2_20))) (aA rfl) rfl rfl) ?_
       refine tr1 rfl (aS (aA rfl) rfl jI) ?_
       refine tr1 rfl (aV (aA rfl) rfl (i := 0) rfl rfl fV) ?_
       refine tr1 rfl (dB (aA rfl) rfl eI.of) ?_
       refine tr1 rfl (bC (aA rfl) rfl rfl rfl) ?_
       refine aF ?_
       refine bH rfl (fun c22 => ?_) (fun c22 => ?_)
       ·have h := aU c22 h
        refine bE ?_
        refine aG ?_
        refine bQ ?_
        refine aG ?_
        obtain ⟨x23, h24, h⟩ := bind_some h
        obtain ⟨x25, h26, h⟩ := bind_some h
        refine fU mix 10 [2, 3, 6] [(76, .agg (aH x23)), (81, .agg (aH x25))] ?_ ?_
        ·refine ⟨[(72, 0, .bp b1 0 3), (73, 1, .d (.sl 3 (a_0.Bans.map aH))), (74, 2, .d (.lit (.int .i64 i_2_20))), (75, 3, .cp [.lit (.int .i64 x23.Player), .lit (.int .i64 x23.From), .lit (.int .i64 x23.To)]), (76, 4, .agg (aH x23)), (77, 5, .bp b2 0 3), (78, 6, .d (.sl 3 (b_1.Bans.map aH))), (79, 7, .d (.lit (.int .i64 i_2_20))), (80, 8, .cp [.lit (.int .i64 x25.Player), .lit (.int .i64 x25.From), .lit (.int .i64 x25.To)]), (81, 9, .agg (aH x25))], ?_, ?_⟩
         · exact ⟨by kernel_rfl, by kernel_rfl, by kernel_rfl, by kernel_rfl, by kernel_rfl, [([], []), ([0], []), ([], []), ([1, 2], []), ([3], []), ([], []), ([5], []), ([], []), ([6, 7], []), ([8], [])], by kernel_rfl, ⟨fun S hS => aK rfl (aQ rfl (aS (aA rfl) (aI hS rfl) jI)),
      fun S hS => aK rfl (aQ rfl (aV (aA rfl) (aI hS rfl) (i := 0) rfl rfl fV)),
      fun S hS => aK rfl (aQ rfl (aD (v := .d (.lit (.int .i64 i_2_20))) (aA rfl) (aI hS rfl) rfl)),
      fun S hS => aK rfl (aQ rfl (bY (aA rfl) (aI hS rfl) (aI hS rfl) eI.of (bN aH h24))),
      fun S hS => aK rfl (aQ rfl (eH (aA rfl) (aI hS rfl) qZ (es := (aH x23)) rfl rfl)),
      fun S hS => aK rfl (aQ rfl (aS (aA rfl) (aI hS rfl) jI)),
      fun S hS => aK rfl (aQ rfl (aV (aA rfl) (aI hS rfl) (i := 1) rfl rfl fV)),
      fun S hS => aK rfl (aQ rfl (aD (v := .d (.lit (.int .i64 i_2_20))) (aA rfl) (aI hS rfl) rfl)),
      fun S hS => aK rfl (aQ rfl (bY (aA rfl) (aI hS rfl) (aI hS rfl) eI.of (bN aH h26))),
      fun S hS => aK rfl (aQ rfl (eH (aA rfl) (aI hS rfl) qZ (es := (aH x25)) rfl rfl)), trivial⟩⟩
         · exact dX (aO rfl (aO rfl (aY ⟨rfl, rfl, rfl, trivial⟩)))
        ·refine tr1 rfl (aAp (a := x23) (b := x25) (aA rfl) rfl rfl rfl rfl Try.eqGuardType66 aFp) ?_
         refine aF ?_
         refine bH rfl (fun c27 => ?_) (fun c27 => ?_)
         ·have h := aU c27 h
          refine aG ?_
          refine aE ?_
          refine tr1 rfl (aJ (v := .d (.lit (.bool false))) (aA rfl) rfl rfl) ?_
          refine aF ?_
          have h := Option.some.inj h
          subst h
          refine cR (cJ (cP (l := [4]) ⟨rfl, trivial⟩)) ?_
          exact bI ⟨rfl, _, .one _, rfl, rfl⟩
         ·have h := aT c27 h
          refine eF ?_
          refine aE ?_
          refine tr1 rfl (aD (v := .d (.lit (.int .i64 i_2_20))) (aA rfl) rfl rfl) ?_
          refine tr1 rfl (aZ (aA rfl) rfl rfl rfl) ?_
          refine tr1 rfl (aJ (v := .d (.lit (.int .i64 ((w64 (i_2_20 + 1)))))) (aA rfl) rfl rfl) ?_
          refine aF ?_
          exact ⟨(w64 (i_2_20 + 1)), h, aX [0, 1] rfl rfl (aO rfl (aY ⟨rfl, rfl, trivial⟩))⟩
       ·have h := aT c22 h
        refine cQ ?_
        refine .inl ⟨rfl, ?_⟩
        simp only [mO] at h
        refine aG ?_
        refine aG ?_
        refine aE ?_
        refine tr1 rfl (aJ (v := .d (.lit (.int .i64 0))) (aA rfl) rfl rfl) ?_
        refine aF ?_
        refine bQ ?_
        refine cH [2, 3] (fun (s28 : Int) => [(7, .d (.lit (.int .i64 s28)))]) (fun (s28 : Int) => [.box b1 0 (aN a_0), .box b2 0 (aN b_1)]) (fun (k : Nat) (s28 : Int) => iF a_0 b_1 k s28) (fun _ => rfl) (0) h (aX [0, 1] rfl rfl (aO rfl (aY ⟨rfl, rfl, trivial⟩))) ?_
        rintro k29 i_4_28 h
        simp only [iF] at h
        refine aG ?_
        refine aG ?_
        refine aE ?_
        refine tr1 rfl (aD (v := .d (.lit (.int .i64 i_4_28))) (aA rfl) rfl rfl) ?_
        refine tr1 rfl (aS (aA rfl) rfl hH) ?_
        refine tr1 rfl (aV (aA rfl) rfl (i := 0) rfl rfl fV) ?_
        refine tr1 rfl (dB (aA rfl) rfl eI.of) ?_
        refine tr1 rfl (bC (aA rfl) rfl rfl rfl) ?_
        refine aF ?_
        refine bH rfl (fun c30 => ?_) (fun c30 => ?_)
        ·have h := aU c30 h
         refine bE ?_
         refine aG ?_
         refine bQ ?_
         refine aG ?_
         obtain ⟨x31, h32, h⟩ := bind_some h
         obtain ⟨x33, h34, h⟩ := bind_some h
         refine fU mix 10 [2, 3, 7] [(94, .agg (aH x31)), (99, .agg (aH x33))] ?_ ?_
         ·refine ⟨[(90, 0, .bp b1 0 4), (91, 1, .d (.sl 3 (a_0.Frozen.map aH))), (92, 2, .d (.lit (.int .i64 i_4_28))), (93, 3, .cp [.lit (.int .i64 x31.Player), .lit (.int .i64 x31.From), .lit (.int .i64 x31.To)]), (94, 4, .agg (aH x31)), (95, 5, .bp b2 0 4), (96, 6, .d (.sl 3 (b_1.Frozen.map aH))), (97, 7, .d (.lit (.int .i64 i_4_28))), (98, 8, .cp [.lit (.int .i64 x33.Player), .lit (.int .i64 x33.From), .lit (.int .i64 x33.To)]), (99, 9, .agg (aH x33))], ?_, ?_⟩
          · exact ⟨by kernel_rfl, by kernel_rfl, by kernel_rfl, by kernel_rfl, by kernel_rfl, [([], []), ([0], []), ([], []), ([1, 2], []), ([3], []), ([], []), ([5], []), ([], []), ([6, 7], []), ([8], [])], by kernel_rfl, ⟨fun S hS => aK rfl (aQ rfl (aS (aA rfl) (aI hS rfl) hH)),
      fun S hS => aK rfl (aQ rfl (aV (aA rfl) (aI hS rfl) (i := 0) rfl rfl fV)),
      fun S hS => aK rfl (aQ rfl (aD (v := .d (.lit (.int .i64 i_4_28))) (aA rfl) (aI hS rfl) rfl)),
      fun S hS => aK rfl (aQ rfl (bY (aA rfl) (aI hS rfl) (aI hS rfl) eI.of (bN aH h32))),
      fun S hS => aK rfl (aQ rfl (eH (aA rfl) (aI hS rfl) qZ (es := (aH x31)) rfl rfl)),
      fun S hS => aK rfl (aQ rfl (aS (aA rfl) (aI hS rfl) hH)),
      fun S hS => aK rfl (aQ rfl (aV (aA rfl) (aI hS rfl) (i := 1) rfl rfl fV)),
      fun S hS => aK rfl (aQ rfl (aD (v := .d (.lit (.int .i64 i_4_28))) (aA rfl) (aI hS rfl) rfl)),
      fun S hS => aK rfl (aQ rfl (bY (aA rfl) (aI hS rfl) (aI hS rfl) eI.of (bN aH h34))),
      fun S hS => aK rfl (aQ rfl (eH (aA rfl) (aI hS rfl) qZ (es := (aH x33)) rfl rfl)), trivial⟩⟩
          · exact dX (aO rfl (aO rfl (aY ⟨rfl, rfl, rfl, trivial⟩)))
         ·refine tr1 rfl (aAp (a := x31) (b := x33) (aA rfl) rfl rfl rfl rfl Try.eqGuardType66 aFp) ?_
          refine aF ?_
          refine bH rfl (fun c35 => ?_) (fun c35 => ?_)
          ·have h := aU c35 h
           refine aG ?_
           refine aE ?_
           refine tr1 rfl (aJ (v := .d (.lit (.bool false))) (aA rfl) rfl rfl) ?_
           refine aF ?_
           have h := Option.some.inj h
           subst h
           refine cR (cJ (cP (l := [4]) ⟨rfl, trivial⟩)) ?_
           exact bI ⟨rfl, _, .one _, rfl, rfl⟩
          ·have h := aT c35 h
           refine eF ?_
           refine aE ?_
           refine tr1 rfl (aD (v := .d (.lit (.int .i64 i_4_28))) (aA rfl) rfl rfl) ?_
           refine tr1 rfl (aZ (aA rfl) rfl rfl rfl) ?_
           refine tr1 rfl (aJ (v := .d (.lit (.int .i64 ((w64 (i_4_28 + 1)))))) (aA rfl) rfl rfl) ?_
           refine aF ?_
           exact ⟨(w64 (i_4_28 + 1)), h, aX [0, 1] rfl rfl (aO rfl (aY ⟨rfl, rfl, trivial⟩))⟩
        ·have h := aT c30 h
         refine cQ ?_
         refine .inl ⟨rfl, ?_⟩
         simp only [oU] at h
         refine aG ?_
         refine aE ?_
         refine tr1 rfl (aJ (v := .d (.lit (.bool true))) (aA rfl) rfl rfl) ?_
         refine aF ?_
         have h := Option.some.inj h
         subst h
         refine cR (cJ (cP (l := [4]) ⟨rfl, trivial⟩)) ?_
         exact bI ⟨rfl, _, .one _, rfl, rfl⟩

end Go.Am
