/- The functions compute what the shallow ones say: printed by program. -/
import Derived.Test.YtaocljlhapoieaaRankDefendsSimP1
namespace Go.Am
open Go.Proofs
set_option maxRecDepth 100000
set_option maxHeartbeats 4000000

theorem sN (l_0 : aS) (player_1 : Int) (week_2 : Int) {r : (Option bQ) × Int} (h : oG l_0 player_1 week_2 = some r) : fS Try.prog 44 [.agg (bA l_0), .d (.lit (.int .i64 player_1)), .d (.lit (.int .i64 week_2))] [] (fun r' o' => ∃ (b : Nat) (w0 : Value), r' = .tup [(match r.1 with | none => .d (.lit (.pointer none)) | some _ => .bp b 0 0), .d (.lit (.int .i64 r.2))] ∧ o' = (match r.1 with | none => [] | some x => [.box b 0 [.lit (.int .i64 x.Ledger.Players), .lit (.int .i64 x.Ledger.Counts), .lit w0, .sl 3 (x.Ledger.Bans.map aK), .sl 3 (x.Ledger.Frozen.map aK)], .arr w0 42 5 (x.Ledger.Reports.map aC)])) := by
 unfold oG at h
 refine mA Try.func44 rfl (rs := [.tmp 6, .tmp 7]) Try.results44 Try.ntmps44 (Nat.le_of_ble_eq_true rfl) ?_
 refine aG ?_
 refine aE ?_
 refine bW rfl (fU (v := .agg (bA l_0)) (aA rfl) rfl rfl rfl) ?_
 rintro _ ⟨b1, rfl⟩
 refine tr1 rfl (aJ (v := pL cB (none : Option bQ)) (aA rfl) rfl rfl) ?_
 refine tr1 rfl (aJ (v := .d (.lit (.int .i64 0))) (aA rfl) rfl rfl) ?_
 refine aF ?_
 refine aG ?_
 refine aE ?_
 refine tr1 rfl (dN (aA rfl) rfl (i := 0) rfl iH (es := (bA l_0)) rfl rfl) ?_
 obtain ⟨r2, h3, h⟩ := bind_some h
 refine bW rfl (dM (passed := []) (aA rfl) rfl (.func _ _ Try.call80) rfl rfl (aCe _ h3)) ?_
 rintro _ ⟨_, _, ⟨b5, w6, rfl, rfl⟩, rfl⟩
 obtain ⟨_ | y4, e7⟩ := r2
 ·have h := wU h
  refine fZ (aW [0] rfl rfl (le_refl _)) ?_
  refine tr1 rfl (aD (v := .tup [.d (.lit (.pointer none)), .d (.lit (.int .i64 e7))]) (aA rfl) rfl rfl) ?_
  refine tr1 rfl (cV (aA rfl) rfl rfl) ?_
  refine tr1 rfl (cV (aA rfl) rfl rfl) ?_
  refine tr1 rfl (aJ (v := .d (.lit (.pointer none))) (aA rfl) rfl rfl) ?_
  refine tr1 rfl (aJ (v := .d (.lit (.int .i64 e7))) (aA rfl) rfl rfl) ?_
  refine aF ?_
  refine aG ?_
  refine aG ?_
  refine aE ?_
  refine tr1 rfl (aD (v := .d (.lit (.int .i64 e7))) (aA rfl) rfl rfl) ?_
  refine tr1 rfl (bC (aA rfl) rfl rfl rfl) ?_
  refine aF ?_
  refine bN rfl (fun c8 => ?_) (fun c8 => ?_)
  ·have h := aQ c8 h
   refine aG ?_
   refine aE ?_
   refine tr1 rfl (aD (v := .d (.lit (.int .i64 e7))) (aA rfl) rfl rfl) ?_
   refine tr1 rfl (aJ (v := pL cB (none : Option bQ)) (aA rfl) rfl rfl) ?_
   refine tr1 rfl (aJ (v := .d (.lit (.int .i64 e7))) (aA rfl) rfl rfl) ?_
   refine aF ?_
   have h := Option.some.inj h
   subst h
   exact bO ⟨rfl, _, [], [.box b1 0 (bA l_0)], _, .two (.tmp 6 (v := pL cB (none : Option bQ)) rfl) (.tmp 7 (v := .d (.lit (.int .i64 e7))) rfl), .refl _, .same _, 0, undef, rfl, rfl⟩
  ·have h := aP c8 h
   refine bJ ?_
   refine aG ?_
   refine aG ?_
   refine aE ?_
   refine tr1 rfl (aD (v := .d (.lit (.int .i64 player_1))) (aA rfl) rfl rfl) ?_
   refine tr1 rfl (aT (aA rfl) rfl jC) ?_
   refine tr1 rfl (aU (aA rfl) rfl (i := 0) rfl rfl bH) ?_
   refine tr1 rfl (aY (aA rfl) rfl rfl rfl) ?_
   obtain ⟨r9, h10, h⟩ := bind_some h
   refine tr1 rfl (bZ (aA rfl) (.func _ _ Try.call47) rfl rfl (BVs.refl _ _) (eP _ _ _ h10) rfl) ?_
   refine tr1 rfl (fF (aA rfl) rfl) ?_
   refine tr1 rfl (aD (v := .d (.lit (.bool (!r9)))) (aA rfl) rfl rfl) ?_
   obtain ⟨b11, h12, h⟩ := bind_some h
   refine bR 4 [8] 28 b11 ?_ ?_
   ·refine bG (!r9) (fun c14 => ?_) (fun c14 => ?_)
    ·have h12 := aQ c14 h12
     refine aM rfl rfl (aA rfl) rfl (aA rfl) rfl c14 ?_
     refine aM rfl rfl (aA rfl) rfl (aA rfl) rfl c14 ?_
     refine aM rfl rfl (aA rfl) rfl (aA rfl) rfl c14 ?_
     refine tr1 rfl (bM (v := .d (.lit (.bool true))) (aA rfl) rfl c14 rfl rfl) ?_
     have h12 := Option.some.inj h12
     subst h12
     refine aF (aV rfl ⟨rfl, trivial⟩ rfl)
    ·have h12 := aP c14 h12
     refine aL rfl rfl (aA rfl) rfl c14 (aD (v := .d (.lit (.int .i64 week_2))) (aA rfl) rfl rfl) ?_
     obtain ⟨r15, h16, h12⟩ := bind_some h12
     refine aL rfl rfl (aA rfl) rfl c14 (bZ (aA rfl) (.func _ _ Try.call47) rfl rfl (BVs.refl _ _) (eP _ _ _ h16) rfl) ?_
     refine aL rfl rfl (aA rfl) rfl c14 (fF (aA rfl) rfl) ?_
     refine tr1 rfl (bL (v := .d (.lit (.bool (!r15)))) (aA rfl) rfl c14 rfl rfl) ?_
     have h12 := Option.some.inj h12
     subst h12
     refine aF (aV rfl ⟨rfl, trivial⟩ rfl)
   ·refine aF ?_
    refine bN rfl (fun c13 => ?_) (fun c13 => ?_)
    ·have h := aQ c13 h
     refine aG ?_
     refine aE ?_
     refine tr1 rfl (aJ (v := pL cB (none : Option bQ)) (aA rfl) rfl rfl) ?_
     refine tr1 rfl (aJ (v := .d (.lit (.int .i64 1))) (aA rfl) rfl rfl) ?_
     refine aF ?_
     have h := Option.some.inj h
     subst h
     exact bO ⟨rfl, _, [], [.box b1 0 (bA l_0)], _, .two (.tmp 6 (v := pL cB (none : Option bQ)) rfl) (.tmp 7 (v := .d (.lit (.int .i64 1))) rfl), .refl _, .same _, 0, undef, rfl, rfl⟩
    ·have h := aP c13 h
     refine bJ ?_
     refine aG ?_
     refine aE ?_
     refine tr1 rfl (aD (v := .d (.lit (.pointer none))) (aA rfl) rfl rfl) ?_
     refine tr1 rfl (aJ (v := .d (.lit (.pointer none))) (aA rfl) rfl rfl) ?_
     refine tr1 rfl (aJ (v := .d (.lit (.int .i64 0))) (aA rfl) rfl rfl) ?_
     refine aF ?_
     have h := Option.some.inj h
     subst h
     exact bO ⟨rfl, _, [], [.box b1 0 (bA l_0)], _, .two (.tmp 6 (v := .d (.lit (.pointer none))) rfl) (.tmp 7 (v := .d (.lit (.int .i64 0))) rfl), .refl _, .same _, 0, undef, rfl, rfl⟩
 ·have h := wV h
  refine fZ (aW [0, 1, 2] rfl rfl (le_refl _)) ?_
  refine tr1 rfl (aD (v := .tup [.bp b5 0 0, .d (.lit (.int .i64 e7))]) (aA rfl) rfl rfl) ?_
  refine tr1 rfl (cV (aA rfl) rfl rfl) ?_
  refine tr1 rfl (cV (aA rfl) rfl rfl) ?_
  refine tr1 rfl (aJ (v := .bp b5 0 0) (aA rfl) rfl rfl) ?_
  refine tr1 rfl (aJ (v := .d (.lit (.int .i64 e7))) (aA rfl) rfl rfl) ?_
  refine aF ?_
  refine aG ?_
  refine aG ?_
  refine aE ?_
  refine tr1 rfl (aD (v := .d (.lit (.int .i64 e7))) (aA rfl) rfl rfl) ?_
  refine tr1 rfl (bC (aA rfl) rfl rfl rfl) ?_
  refine aF ?_
  refine bN rfl (fun c17 => ?_) (fun c17 => ?_)
  ·have h := aQ c17 h
   refine aG ?_
   refine aE ?_
   refine tr1 rfl (aD (v := .d (.lit (.int .i64 e7))) (aA rfl) rfl rfl) ?_
   refine tr1 rfl (aJ (v := pL cB (none : Option bQ)) (aA rfl) rfl rfl) ?_
   refine tr1 rfl (aJ (v := .d (.lit (.int .i64 e7))) (aA rfl) rfl rfl) ?_
   refine aF ?_
   have h := Option.some.inj h
   subst h
   exact bO ⟨rfl, _, [], [.box b5 0 [.lit (.int .i64 y4.Ledger.Players), .lit (.int .i64 y4.Ledger.Counts), .lit w6, .sl 3 (y4.Ledger.Bans.map aK), .sl 3 (y4.Ledger.Frozen.map aK)], .arr w6 42 5 (y4.Ledger.Reports.map aC), .box b1 0 (bA l_0)], _, .two (.tmp 6 (v := pL cB (none : Option bQ)) rfl) (.tmp 7 (v := .d (.lit (.int .i64 e7))) rfl), .refl _, .same _, 0, undef, rfl, rfl⟩
  ·have h := aP c17 h
   refine bJ ?_
   refine aG ?_
   refine aG ?_
   refine aE ?_
   refine tr1 rfl (aD (v := .d (.lit (.int .i64 player_1))) (aA rfl) rfl rfl) ?_
   refine tr1 rfl (aT (aA rfl) rfl jC) ?_
   refine tr1 rfl (aU (aA rfl) rfl (i := 2) rfl rfl bH) ?_
   refine tr1 rfl (aY (aA rfl) rfl rfl rfl) ?_
   obtain ⟨r18, h19, h⟩ := bind_some h
   refine tr1 rfl (bZ (aA rfl) (.func _ _ Try.call47) rfl rfl (BVs.refl _ _) (eP _ _ _ h19) rfl) ?_
   refine tr1 rfl (fF (aA rfl) rfl) ?_
   refine tr1 rfl (aD (v := .d (.lit (.bool (!r18)))) (aA rfl) rfl rfl) ?_
   obtain ⟨b20, h21, h⟩ := bind_some h
   refine bR 4 [8] 28 b20 ?_ ?_
   ·refine bG (!r18) (fun c23 => ?_) (fun c23 => ?_)
    ·have h21 := aQ c23 h21
     refine aM rfl rfl (aA rfl) rfl (aA rfl) rfl c23 ?_
     refine aM rfl rfl (aA rfl) rfl (aA rfl) rfl c23 ?_
     refine aM rfl rfl (aA rfl) rfl (aA rfl) rfl c23 ?_
     refine tr1 rfl (bM (v := .d (.lit (.bool true))) (aA rfl) rfl c23 rfl rfl) ?_
     have h21 := Option.some.inj h21
     subst h21
     refine aF (aV rfl ⟨rfl, trivial⟩ rfl)
    ·have h21 := aP c23 h21
     refine aL rfl rfl (aA rfl) rfl c23 (aD (v := .d (.lit (.int .i64 week_2))) (aA rfl) rfl rfl) ?_
     obtain ⟨r24, h25, h21⟩ := bind_some h21
     refine aL rfl rfl (aA rfl) rfl c23 (bZ (aA rfl) (.func _ _ Try.call47) rfl rfl (BVs.refl _ _) (eP _ _ _ h25) rfl) ?_
     refine aL rfl rfl (aA rfl) rfl c23 (fF (aA rfl) rfl) ?_
     refine tr1 rfl (bL (v := .d (.lit (.bool (!r24)))) (aA rfl) rfl c23 rfl rfl) ?_
     have h21 := Option.some.inj h21
     subst h21
     refine aF (aV rfl ⟨rfl, trivial⟩ rfl)
   ·refine aF ?_
    refine bN rfl (fun c22 => ?_) (fun c22 => ?_)
    ·have h := aQ c22 h
     refine aG ?_
     refine aE ?_
     refine tr1 rfl (aJ (v := pL cB (none : Option bQ)) (aA rfl) rfl rfl) ?_
     refine tr1 rfl (aJ (v := .d (.lit (.int .i64 1))) (aA rfl) rfl rfl) ?_
     refine aF ?_
     have h := Option.some.inj h
     subst h
     exact bO ⟨rfl, _, [], [.box b5 0 [.lit (.int .i64 y4.Ledger.Players), .lit (.int .i64 y4.Ledger.Counts), .lit w6, .sl 3 (y4.Ledger.Bans.map aK), .sl 3 (y4.Ledger.Frozen.map aK)], .arr w6 42 5 (y4.Ledger.Reports.map aC), .box b1 0 (bA l_0)], _, .two (.tmp 6 (v := pL cB (none : Option bQ)) rfl) (.tmp 7 (v := .d (.lit (.int .i64 1))) rfl), .refl _, .same _, 0, undef, rfl, rfl⟩
    ·have h := aP c22 h
     refine bJ ?_
     refine aG ?_
     refine aE ?_
     refine tr1 rfl (aD (v := .bp b5 0 0) (aA rfl) rfl rfl) ?_
     refine tr1 rfl (aJ (v := .bp b5 0 0) (aA rfl) rfl rfl) ?_
     refine tr1 rfl (aJ (v := .d (.lit (.int .i64 0))) (aA rfl) rfl rfl) ?_
     refine aF ?_
     have h := Option.some.inj h
     subst h
     exact bO ⟨rfl, _, [.box b5 0 [.lit (.int .i64 y4.Ledger.Players), .lit (.int .i64 y4.Ledger.Counts), .lit w6, .sl 3 (y4.Ledger.Bans.map aK), .sl 3 (y4.Ledger.Frozen.map aK)], .arr w6 42 5 (y4.Ledger.Reports.map aC)], [.box b1 0 (bA l_0)], _, .two (.tmp 6 (v := .bp b5 0 0) rfl) (.tmp 7 (v := .d (.lit (.int .i64 0))) rfl), .refl _, .same _, b5, w6, rfl, rfl⟩

theorem tY (b_0 : bQ) (r_1 : aB) (week_2 : Int) {r : Int} (h : lX b_0 r_1 week_2 = some r) : Fn Try.prog 77 [.cp (cB b_0), .agg (aC r_1), .d (.lit (.int .i64 week_2))] (.d (.lit (.int .i64 r))) := by
 unfold lX at h
 refine Fn.of_tr Try.func77 rfl (rs := [.tmp 6]) Try.results77 Try.ntmps77 (Nat.le_of_ble_eq_true rfl) ?_
 refine aG ?_
 refine aE ?_
 refine bW rfl (fU (v := .agg (aC r_1)) (aA rfl) rfl rfl rfl) ?_
 rintro _ ⟨b1, rfl⟩
 refine tr1 rfl (aJ (v := .d (.lit (.int .i64 0))) (aA rfl) rfl rfl) ?_
 refine aF ?_
 refine aG ?_
 refine aE ?_
 refine tr1 rfl (aD (v := .d (.lit (.int .i64 week_2))) (aA rfl) rfl rfl) ?_
 refine tr1 rfl (aT (aA rfl) rfl lM) ?_
 refine tr1 rfl (aU (aA rfl) rfl (i := 0) rfl rfl bH) ?_
 refine tr1 rfl (aY (aA rfl) rfl rfl rfl) ?_
 refine tr1 rfl (aJ (v := .d (.lit (.int .i64 ((w64 (week_2 - r_1.Week)))))) (aA rfl) rfl rfl) ?_
 refine aF ?_
 refine aG ?_
 refine aG ?_
 refine aE ?_
 refine tr1 rfl (aD (v := .cp [.lit (.int .i64 b_0.Ledger.Players), .lit (.int .i64 b_0.Ledger.Counts), .sl 5 (b_0.Ledger.Reports.map aC), .sl 3 (b_0.Ledger.Bans.map aK), .sl 3 (b_0.Ledger.Frozen.map aK)]) (aA rfl) rfl rfl) ?_
 refine tr1 rfl (oS (aA rfl) rfl) ?_
 refine tr1 rfl (cQ (aA rfl) rfl iJ (es := [.lit (.int .i64 b_0.Ledger.Players), .lit (.int .i64 b_0.Ledger.Counts), .sl 5 (b_0.Ledger.Reports.map aC), .sl 3 (b_0.Ledger.Bans.map aK), .sl 3 (b_0.Ledger.Frozen.map aK)]) rfl) ?_
 refine tr1 rfl (cQ (aA rfl) rfl mX (es := [.sl 3 (b_0.Ledger.Frozen.map aK)]) rfl) ?_
 refine tr1 rfl (cI (aA rfl) rfl lQ) ?_
 refine tr1 rfl (eB (aA rfl) rfl gS.of) ?_
 refine tr1 rfl (aD (v := .d (.lit (.int .i64 0))) (aA rfl) rfl rfl) ?_
 refine aF ?_
 refine bT ?_
 refine cO [2, 4, 18, 19] (fun (s2 : Int × Int) => [(7, .d (.lit (.int .i64 s2.1))), (20, .d (.lit (.int .i64 s2.2)))]) (fun (s2 : Int × Int) => [.box b1 0 (aC r_1)]) (fun (k : Nat) (s2 : Int × Int) => gZ week_2 b_0.Ledger.Frozen (b_0.Ledger.Frozen.length : Int) r_1 k s2.1 s2.2) (fun _ => rfl) (w64 (week_2 - r_1.Week), 0) h (aW [0] rfl rfl (aN rfl (aN rfl (aX ⟨rfl, rfl, rfl, rfl, trivial⟩)))) ?_
 rintro k3 ⟨n_0_2, t20_0_2⟩ h
 simp only [gZ] at h
 refine aG ?_
 refine aE ?_
 refine tr1 rfl (bC (aA rfl) rfl rfl rfl) ?_
 refine aF ?_
 refine aG ?_
 refine bN rfl (fun c4 => ?_) (fun c4 => ?_)
 ·have h := aQ c4 h
  refine bJ ?_
  refine aG ?_
  refine bT ?_
  refine aG ?_
  refine aE ?_
  obtain ⟨x5, h6, h⟩ := bind_some h
  refine tr1 rfl (cF (aA rfl) rfl rfl gS.of (bP aK h6)) ?_
  refine tr1 rfl (iG (aA rfl) rfl wB (es := (aK x5)) rfl rfl) ?_
  refine bW rfl (iF (zs := [.lit (.int .i64 0), .lit (.int .i64 0), .lit (.int .i64 0)]) (aA rfl) Try.zeroValue66 rfl rfl) ?_
  rintro _ ⟨b7, rfl⟩
  refine tr1 rfl (cJ (i := 1) rfl rfl rfl rfl rfl Try.sizeOf66 rfl (aA rfl) (Nat.le_of_ble_eq_true rfl) (ds' := (aK x5)) rfl) ?_
  refine aF ?_
  refine aG ?_
  refine aE ?_
  refine tr1 rfl (aT (aA rfl) rfl lN) ?_
  refine tr1 rfl (aU (aA rfl) rfl (i := 1) rfl rfl bH) ?_
  refine tr1 rfl (aT (aA rfl) rfl mY) ?_
  refine tr1 rfl (aU (aA rfl) rfl (i := 0) rfl rfl bH) ?_
  refine tr1 rfl (bC (aA rfl) rfl rfl rfl) ?_
  refine aF ?_
  refine bN rfl (fun c8 => ?_) (fun c8 => ?_)
  ·have h := aQ c8 h
   refine aE ?_
   refine tr1 rfl (aD (v := .d (.lit (.int .i64 n_0_2))) (aA rfl) rfl rfl) ?_
   refine tr1 rfl (aT (aA rfl) rfl lO) ?_
   refine tr1 rfl (aU (aA rfl) rfl (i := 1) rfl rfl bH) ?_
   refine tr1 rfl (aD (v := .d (.lit (.int .i64 week_2))) (aA rfl) rfl rfl) ?_
   refine tr1 rfl (aDq (aA rfl) rfl rfl) ?_
   refine tr1 rfl (aT (aA rfl) rfl jW) ?_
   refine tr1 rfl (aU (aA rfl) rfl (i := 1) rfl rfl bH) ?_
   refine tr1 rfl (aT (aA rfl) rfl lM) ?_
   refine tr1 rfl (aU (aA rfl) rfl (i := 0) rfl rfl bH) ?_
   refine tr1 rfl (aY (aA rfl) rfl rfl rfl) ?_
   refine tr1 rfl (aAq (aA rfl) rfl rfl) ?_
   refine tr1 rfl (aY (aA rfl) rfl rfl rfl) ?_
   refine tr1 rfl (aY (aA rfl) rfl rfl rfl) ?_
   refine tr1 rfl (aAq (aA rfl) rfl rfl) ?_
   refine tr1 rfl (aY (aA rfl) rfl rfl rfl) ?_
   refine tr1 rfl (aJ (v := .d (.lit (.int .i64 ((w64 (n_0_2 - (max 0 (w64 ((w64 ((min x5.To week_2) - (max x5.From (w64 (r_1.Week + 1))))) + 1))))))))) (aA rfl) rfl rfl) ?_
   refine eF ?_
   refine aE ?_
   refine tr1 rfl (aY (aA rfl) rfl rfl rfl) ?_
   refine tr1 rfl (aD (v := .d (.lit (.int .i64 ((w64 (t20_0_2 + 1)))))) (aA rfl) rfl rfl) ?_
   refine aF ?_
   exact ⟨(w64 (n_0_2 - (max 0 (w64 ((w64 ((min x5.To week_2) - (max x5.From (w64 (r_1.Week + 1))))) + 1)))), w64 (t20_0_2 + 1)), h, aW [0] rfl rfl (aN rfl (aN rfl (aX ⟨rfl, rfl, rfl, rfl, trivial⟩)))⟩
  ·have h := aP c8 h
   refine fC ?_
   refine aE ?_
   refine tr1 rfl (aY (aA rfl) rfl rfl rfl) ?_
   refine tr1 rfl (aD (v := .d (.lit (.int .i64 ((w64 (t20_0_2 + 1)))))) (aA rfl) rfl rfl) ?_
   refine aF ?_
   exact ⟨(n_0_2, w64 (t20_0_2 + 1)), h, aW [0] rfl rfl (aN rfl (aN rfl (aX ⟨rfl, rfl, rfl, rfl, trivial⟩)))⟩
 ·have h := aP c4 h
  refine cY ?_
  refine .inl ⟨rfl, ?_⟩
  simp only [pQ] at h
  refine aG ?_
  refine aE ?_
  refine tr1 rfl (aD (v := .d (.lit (.int .i64 n_0_2))) (aA rfl) rfl rfl) ?_
  refine tr1 rfl (aJ (v := .d (.lit (.int .i64 n_0_2))) (aA rfl) rfl rfl) ?_
  refine aF ?_
  have h := Option.some.inj h
  subst h
  refine cU (cH (cN (l := [6]) ⟨rfl, trivial⟩)) ?_
  exact bO ⟨rfl, _, .one _, rfl, rfl⟩

theorem aAk (a_0 : bB) (c_1 : Int) (c_2 : Int) {r : Bool} (h : pG a_0 c_1 c_2 = some r) : Fn Try.prog 83 [.agg (aK a_0), .cp [.lit (.int .i64 c_1)], .cp [.lit (.int .i64 c_2)]] (.d (.lit (.bool r))) := by
 unfold pG at h
 refine Fn.of_tr Try.func83 rfl (rs := [.tmp 4]) Try.results83 Try.ntmps83 (Nat.le_of_ble_eq_true rfl) ?_
 refine aG ?_
 refine aE ?_
 refine bW rfl (fU (v := .agg (aK a_0)) (aA rfl) rfl rfl rfl) ?_
 rintro _ ⟨b1, rfl⟩
 refine tr1 rfl (aJ (v := .d (.lit (.bool false))) (aA rfl) rfl rfl) ?_
 refine aF ?_
 refine aG ?_
 refine aE ?_
 refine tr1 rfl (aT (aA rfl) rfl lN) ?_
 refine tr1 rfl (aU (aA rfl) rfl (i := 0) rfl rfl bH) ?_
 refine tr1 rfl (cI (aA rfl) rfl bH) ?_
 refine tr1 rfl (bC (aA rfl) rfl rfl rfl) ?_
 refine tr1 rfl (aD (v := .d (.lit (.bool ((decide (a_0.Player = c_1)))))) (aA rfl) rfl rfl) ?_
 obtain ⟨b2, h3, h⟩ := bind_some h
 refine bR 7 [] 16 b2 ?_ ?_
 ·refine bG (decide (a_0.Player = c_1)) (fun c4 => ?_) (fun c4 => ?_)
  ·have h3 := aQ c4 h3
   refine aL rfl rfl (aA rfl) rfl c4 (cI (aA rfl) rfl bH) ?_
   refine aL rfl rfl (aA rfl) rfl c4 (aT (aA rfl) rfl jW) ?_
   refine aL rfl rfl (aA rfl) rfl c4 (aU (aA rfl) rfl (i := 0) rfl rfl bH) ?_
   refine aL rfl rfl (aA rfl) rfl c4 (aT (aA rfl) rfl lO) ?_
   refine aL rfl rfl (aA rfl) rfl c4 (aU (aA rfl) rfl (i := 0) rfl rfl bH) ?_
   obtain ⟨r5, h6, h3⟩ := bind_some h3
   refine aL rfl rfl (aA rfl) rfl c4 (bZ (aA rfl) (.func _ _ Try.call47) rfl rfl (BVs.refl _ _) (eP _ _ _ h6) rfl) ?_
   refine tr1 rfl (bM (v := .d (.lit (.bool r5))) (aA rfl) rfl c4 rfl rfl) ?_
   have h3 := Option.some.inj h3
   subst h3
   refine aF (aV rfl trivial rfl)
  ·have h3 := aP c4 h3
   refine aM rfl rfl (aA rfl) rfl (aA rfl) rfl c4 ?_
   refine aM rfl rfl (aA rfl) rfl (aA rfl) rfl c4 ?_
   refine aM rfl rfl (aA rfl) rfl (aA rfl) rfl c4 ?_
   refine aM rfl rfl (aA rfl) rfl (aA rfl) rfl c4 ?_
   refine aM rfl rfl (aA rfl) rfl (aA rfl) rfl c4 ?_
   refine aM rfl rfl (aA rfl) rfl (aA rfl) rfl c4 ?_
   refine tr1 rfl (bL (v := .d (.lit (.bool false))) (aA rfl) rfl c4 rfl rfl) ?_
   have h3 := Option.some.inj h3
   subst h3
   refine aF (aV rfl trivial rfl)
 ·refine tr1 rfl (aJ (v := .d (.lit (.bool b2))) (aA rfl) rfl rfl) ?_
  refine aF ?_
  have h := Option.some.inj h
  subst h
  refine cU (cH (cN (l := [4]) ⟨rfl, trivial⟩)) ?_
  exact bO ⟨rfl, _, .one _, rfl, rfl⟩

theorem uG (all_0 : List bB) (player_1 : Int) (week_2 : Int) {r : Bool} (h : mC all_0 player_1 week_2 = some r) : Fn Try.prog 48 [.d (.sl 3 (all_0.map aK)), .d (.lit (.int .i64 player_1)), .d (.lit (.int .i64 week_2))] (.d (.lit (.bool r))) := by
 unfold mC at h
 refine Fn.of_tr Try.func48 rfl (rs := [.tmp 6]) Try.results48 Try.ntmps48 (Nat.le_of_ble_eq_true rfl) ?_
 refine aG ?_
 refine aE ?_
 refine bW rfl (fU (v := .d (.lit (.int .i64 player_1))) (aA rfl) rfl rfl rfl) ?_
 rintro _ ⟨b1, rfl⟩
 refine bW rfl (fU (v := .d (.lit (.int .i64 week_2))) (aA rfl) rfl rfl rfl) ?_
 rintro _ ⟨b2, rfl⟩
 refine tr1 rfl (aJ (v := .d (.lit (.bool false))) (aA rfl) rfl rfl) ?_
 refine aF ?_
 refine aG ?_
 refine aE ?_
 refine tr1 rfl (aD (v := .d (.sl 3 (all_0.map aK))) (aA rfl) rfl rfl) ?_
 refine tr1 rfl (wZ (aA rfl) rfl rfl) ?_
 obtain ⟨r4, h5, h⟩ := bind_some h
 refine tr1 rfl (bZ (aA rfl) (.func _ _ Try.call82) rfl rfl (.cons (.same _) (.cons ((aAp (.cons ((oN 0 rfl rfl (dvc (.same _) dvn))) (.cons ((oN 1 rfl rfl (dvc (.same _) dvn))) .nil)))) .nil)) (iT _ _ 83 [.cp [.lit (.int .i64 player_1)], .cp [.lit (.int .i64 week_2)]] Try.call83 (fun _ _ h => aAk _ _ _ h) h5) rfl) ?_
 refine tr1 rfl (aJ (v := .d (.lit (.bool r4))) (aA rfl) rfl rfl) ?_
 refine aF ?_
 have h := Option.some.inj h
 subst h
 refine cU (cH (cN (l := [6]) ⟨rfl, trivial⟩)) ?_
 exact bO ⟨rfl, _, .one _, rfl, rfl⟩

theorem sH (b_0 : bQ) (player_1 : Int) (week_2 : Int) {r : (List aB)} (h : kS b_0 player_1 week_2 = some r) : Fn Try.prog 72 [.cp (cB b_0), .d (.lit (.int .i64 player_1)), .d (.lit (.int .i64 week_2))] (.d (.sl 5 (r.map aC))) := by
 unfold kS at h
 refine Fn.of_tr Try.func72 rfl (rs := [.tmp 6]) Try.results72 Try.ntmps72 (Nat.le_of_ble_eq_true rfl) ?_
 refine aG ?_
 refine aE ?_
 refine tr1 rfl (vJ 5 (aA rfl)) ?_
 refine aF ?_
 refine aG ?_
 refine aE ?_
 refine tr1 rfl (jN 42 5 (.inl rfl) (aA rfl)) ?_
 refine aF ?_
 refine aG ?_
 refine aG ?_
 refine aE ?_
 refine tr1 rfl (aD (v := .cp [.lit (.int .i64 b_0.Ledger.Players), .lit (.int .i64 b_0.Ledger.Counts), .sl 5 (b_0.Ledger.Reports.map aC), .sl 3 (b_0.Ledger.Bans.map aK), .sl 3 (b_0.Ledger.Frozen.map aK)]) (aA rfl) rfl rfl) ?_
 refine tr1 rfl (oS (aA rfl) rfl) ?_
 refine tr1 rfl (cQ (aA rfl) rfl iJ (es := [.lit (.int .i64 b_0.Ledger.Players), .lit (.int .i64 b_0.Ledger.Counts), .sl 5 (b_0.Ledger.Reports.map aC), .sl 3 (b_0.Ledger.Bans.map aK), .sl 3 (b_0.Ledger.Frozen.map aK)]) rfl) ?_
 refine tr1 rfl (cQ (aA rfl) rfl eL (es := [.sl 5 (b_0.Ledger.Reports.map aC)]) rfl) ?_
 refine tr1 rfl (cI (aA rfl) rfl iI) ?_
 refine tr1 rfl (eB (aA rfl) rfl cA.of) ?_
 refine tr1 rfl (aD (v := .d (.lit (.int .i64 0))) (aA rfl) rfl rfl) ?_
 refine aF ?_
 refine bT ?_
 refine cO [0, 1, 2, 14, 15] (fun (s2 : Int × (List aB) × Value) => [(7, .d (.lit s2.2.2)), (16, .d (.lit (.int .i64 s2.1)))]) (fun (s2 : Int × (List aB) × Value) => [.arr s2.2.2 42 5 (s2.2.1.map aC)]) (fun (k : Nat) (s2 : Int × (List aB) × Value) => gD b_0 player_1 week_2 b_0.Ledger.Reports (b_0.Ledger.Reports.length : Int) k s2.1 s2.2.1) (fun _ => rfl) (0, ([] : List aB), (.slice none 0 0)) h (aW [0] rfl rfl (aN rfl (aN rfl (aX ⟨rfl, rfl, rfl, rfl, rfl, trivial⟩)))) ?_
 rintro k4 ⟨t16_0_2, out_0_2, w3⟩ h
 simp only [gD] at h
 refine aG ?_
 refine aE ?_
 refine tr1 rfl (bC (aA rfl) rfl rfl rfl) ?_
 refine aF ?_
 refine aG ?_
 refine bN rfl (fun c5 => ?_) (fun c5 => ?_)
 ·have h := aQ c5 h
  refine bJ ?_
  refine aG ?_
  refine bT ?_
  refine aG ?_
  refine aE ?_
  obtain ⟨x6, h7, h⟩ := bind_some h
  refine tr1 rfl (cF (aA rfl) rfl rfl cA.of (bP aC h7)) ?_
  refine tr1 rfl (iG (aA rfl) rfl eD (es := (aC x6)) rfl rfl) ?_
  refine bW rfl (iF (zs := [.lit (.int .i64 0), .lit (.int .i64 0), .lit (.int .i64 0), .lit (.int .i64 0), .lit (.bool false)]) (aA rfl) Try.zeroValue42 rfl rfl) ?_
  rintro _ ⟨b8, rfl⟩
  refine tr1 rfl (cJ (i := 1) rfl rfl rfl rfl rfl Try.sizeOf42 rfl (aA rfl) (Nat.le_of_ble_eq_true rfl) (ds' := (aC x6)) rfl) ?_
  refine aF ?_
  refine aG ?_
  obtain ⟨b9, h10, h⟩ := bind_some h
  obtain ⟨b12, h13, h⟩ := bind_some h
  obtain ⟨b17, h18, h⟩ := bind_some h
  refine hZ mix 29 [0, 1, 2, 7, 9, 14, 15, 16] [(48, .d (.lit (.bool b17)))] ?_ ?_
  ·refine bG (decide (x6.Player = player_1)) (fun c11 => ?_) (fun c11 => ?_)
   ·have h10 := aQ c11 h10
    have h10 := Option.some.inj h10
    subst h10
    refine bG (decide (x6.Week ≤ week_2)) (fun c14 => ?_) (fun c14 => ?_)
    ·have h13 := aQ c14 h13
     obtain ⟨r15, h16, h13⟩ := bind_some h13
     have h13 := Option.some.inj h13
     subst h13
     refine bG (decide (r15 < 52)) (fun c19 => ?_) (fun c19 => ?_)
     ·have h18 := aQ c19 h18
      obtain ⟨r20, h21, h18⟩ := bind_some h18
      have h18 := Option.some.inj h18
      subst h18
      refine ⟨[(20, 0, .bp b8 0 1), (21, 1, .d (.lit (.int .i64 x6.Player))), (22, 2, .d (.lit (.int .i64 player_1))), (23, 3, .d (.lit (.bool ((decide (x6.Player = player_1)))))), (24, 4, .d (.lit (.bool ((decide (x6.Player = player_1)))))), (25, 5, .bp b8 0 2), (26, 6, .d (.lit (.int .i64 x6.Week))), (27, 7, .d (.lit (.int .i64 week_2))), (28, 8, .d (.lit (.bool ((decide (x6.Week ≤ week_2)))))), (29, 9, .d (.lit (.bool ((decide (x6.Week ≤ week_2)))))), (30, 10, .d (.lit (.bool (decide (x6.Week ≤ week_2))))), (31, 11, .cp [.lit (.int .i64 b_0.Ledger.Players), .lit (.int .i64 b_0.Ledger.Counts), .sl 5 (b_0.Ledger.Reports.map aC), .sl 3 (b_0.Ledger.Bans.map aK), .sl 3 (b_0.Ledger.Frozen.map aK)]), (32, 12, .agg (aC x6)), (33, 13, .d (.lit (.int .i64 week_2))), (34, 14, .d (.lit (.int .i64 r15))), (35, 15, .d (.lit (.bool ((decide (r15 < 52)))))), (36, 16, .d (.lit (.bool ((decide (r15 < 52)))))), (37, 17, .d (.lit (.bool (decide (r15 < 52))))), (38, 18, .cp [.lit (.int .i64 b_0.Ledger.Players), .lit (.int .i64 b_0.Ledger.Counts), .sl 5 (b_0.Ledger.Reports.map aC), .sl 3 (b_0.Ledger.Bans.map aK), .sl 3 (b_0.Ledger.Frozen.map aK)]), (39, 19, .cp [.lit (.int .i64 b_0.Ledger.Players), .lit (.int .i64 b_0.Ledger.Counts), .sl 5 (b_0.Ledger.Reports.map aC), .sl 3 (b_0.Ledger.Bans.map aK), .sl 3 (b_0.Ledger.Frozen.map aK)]), (40, 20, .cp [.lit (.int .i64 b_0.Ledger.Players), .lit (.int .i64 b_0.Ledger.Counts), .sl 5 (b_0.Ledger.Reports.map aC), .sl 3 (b_0.Ledger.Bans.map aK), .sl 3 (b_0.Ledger.Frozen.map aK)]), (41, 21, .cp [.sl 3 (b_0.Ledger.Bans.map aK)]), (42, 22, .d (.sl 3 (b_0.Ledger.Bans.map aK))), (43, 23, .d (.lit (.int .i64 player_1))), (44, 24, .bp b8 0 2), (45, 25, .d (.lit (.int .i64 x6.Week))), (46, 26, .d (.lit (.bool r20))), (47, 27, .d (.lit (.bool (!r20)))), (48, 28, .d (.lit (.bool (!r20))))], ?_, ?_⟩
      · exact ⟨by kernel_rfl, by kernel_rfl, by kernel_rfl, by kernel_rfl, by kernel_rfl, [([], []), ([0], []), ([], []), ([1, 2], []), ([3], []), ([4], []), ([4, 5], []), ([4], []), ([4, 6, 7], []), ([4, 8], []), ([9], []), ([10], []), ([10], []), ([10], []), ([10, 11, 12, 13], []), ([10, 14], []), ([10, 15], []), ([16], []), ([17], []), ([17, 18], []), ([17, 19], []), ([17, 20], []), ([17, 21], []), ([17], []), ([17], []), ([17, 24], []), ([17, 22, 23, 25], []), ([17, 26], []), ([17, 27], [])], by kernel_rfl, ⟨fun S hS => aI rfl (aO rfl (aT (aA rfl) (aH hS rfl) mY)),
      fun S hS => aI rfl (aO rfl (aU (aA rfl) (aH hS rfl) (i := 1) rfl rfl bH)),
      fun S hS => aI rfl (aO rfl (aD (v := .d (.lit (.int .i64 player_1))) (aA rfl) (aH hS rfl) rfl)),
      fun S hS => aI rfl (aO rfl (bC (aA rfl) (aH hS rfl) (aH hS rfl) rfl)),
      fun S hS => aI rfl (aO rfl (aD (v := .d (.lit (.bool ((decide (x6.Player = player_1)))))) (aA rfl) (aH hS rfl) rfl)),
      fun S hS => aI rfl (bE rfl rfl (aA rfl) (aR hS rfl) c11 (aT (aA rfl) (aH hS rfl) lM)),
      fun S hS => aI rfl (bE rfl rfl (aA rfl) (aR hS rfl) c11 (aU (aA rfl) (aH hS rfl) (i := 1) rfl rfl bH)),
      fun S hS => aI rfl (bE rfl rfl (aA rfl) (aR hS rfl) c11 (aD (v := .d (.lit (.int .i64 week_2))) (aA rfl) (aH hS rfl) rfl)),
      fun S hS => aI rfl (bE rfl rfl (aA rfl) (aR hS rfl) c11 (bC (aA rfl) (aH hS rfl) (aH hS rfl) rfl)),
      fun S hS => aI rfl (aO rfl (bM (v := .d (.lit (.bool ((decide (x6.Week ≤ week_2)))))) (aA rfl) (aH hS rfl) c11 (aH hS rfl) rfl)),
      fun S hS => aI rfl (aO rfl (aD (v := .d (.lit (.bool (decide (x6.Week ≤ week_2))))) (aA rfl) (aH hS rfl) rfl)),
      fun S hS => aI rfl (bE rfl rfl (aA rfl) (aR hS rfl) c14 (aD (v := .cp [.lit (.int .i64 b_0.Ledger.Players), .lit (.int .i64 b_0.Ledger.Counts), .sl 5 (b_0.Ledger.Reports.map aC), .sl 3 (b_0.Ledger.Bans.map aK), .sl 3 (b_0.Ledger.Frozen.map aK)]) (aA rfl) (aH hS rfl) rfl)),
      fun S hS => aI rfl (bE rfl rfl (aA rfl) (aR hS rfl) c14 (dN (aA rfl) (aH hS rfl) (i := 1) rfl eD (es := (aC x6)) rfl rfl)),
      fun S hS => aI rfl (bE rfl rfl (aA rfl) (aR hS rfl) c14 (aD (v := .d (.lit (.int .i64 week_2))) (aA rfl) (aH hS rfl) rfl)),
      fun S hS => aI rfl (bE rfl rfl (aA rfl) (aR hS rfl) c14 (bZ (aA rfl) (.func _ _ Try.call77) (ev2 (aH hS rfl) (ev2 (aH hS rfl) (ev2 (aH hS rfl) evn))) rfl (BVs.refl _ _) (tY _ _ _ h16) rfl)),
      fun S hS => aI rfl (bE rfl rfl (aA rfl) (aR hS rfl) c14 (bC (aA rfl) (aH hS rfl) rfl rfl)),
      fun S hS => aI rfl (aO rfl (bM (v := .d (.lit (.bool ((decide (r15 < 52)))))) (aA rfl) (aH hS rfl) c14 (aH hS rfl) rfl)),
      fun S hS => aI rfl (aO rfl (aD (v := .d (.lit (.bool (decide (r15 < 52))))) (aA rfl) (aH hS rfl) rfl)),
      fun S hS => aI rfl (bE rfl rfl (aA rfl) (aR hS rfl) c19 (aD (v := .cp [.lit (.int .i64 b_0.Ledger.Players), .lit (.int .i64 b_0.Ledger.Counts), .sl 5 (b_0.Ledger.Reports.map aC), .sl 3 (b_0.Ledger.Bans.map aK), .sl 3 (b_0.Ledger.Frozen.map aK)]) (aA rfl) (aH hS rfl) rfl)),
      fun S hS => aI rfl (bE rfl rfl (aA rfl) (aR hS rfl) c19 (oS (aA rfl) (aH hS rfl))),
      fun S hS => aI rfl (bE rfl rfl (aA rfl) (aR hS rfl) c19 (cQ (aA rfl) (aH hS rfl) iJ (es := [.lit (.int .i64 b_0.Ledger.Players), .lit (.int .i64 b_0.Ledger.Counts), .sl 5 (b_0.Ledger.Reports.map aC), .sl 3 (b_0.Ledger.Bans.map aK), .sl 3 (b_0.Ledger.Frozen.map aK)]) rfl)),
      fun S hS => aI rfl (bE rfl rfl (aA rfl) (aR hS rfl) c19 (cQ (aA rfl) (aH hS rfl) rC (es := [.sl 3 (b_0.Ledger.Bans.map aK)]) rfl)),
      fun S hS => aI rfl (bE rfl rfl (aA rfl) (aR hS rfl) c19 (cI (aA rfl) (aH hS rfl) lQ)),
      fun S hS => aI rfl (bE rfl rfl (aA rfl) (aR hS rfl) c19 (aD (v := .d (.lit (.int .i64 player_1))) (aA rfl) (aH hS rfl) rfl)),
      fun S hS => aI rfl (bE rfl rfl (aA rfl) (aR hS rfl) c19 (aT (aA rfl) (aH hS rfl) lM)),
      fun S hS => aI rfl (bE rfl rfl (aA rfl) (aR hS rfl) c19 (aU (aA rfl) (aH hS rfl) (i := 1) rfl rfl bH)),
      fun S hS => aI rfl (bE rfl rfl (aA rfl) (aR hS rfl) c19 (bZ (aA rfl) (.func _ _ Try.call48) (ev2 (aH hS rfl) (ev2 (aH hS rfl) (ev2 (aH hS rfl) evn))) rfl (BVs.refl _ _) (uG _ _ _ h21) rfl)),
      fun S hS => aI rfl (bE rfl rfl (aA rfl) (aR hS rfl) c19 (fF (aA rfl) (aH hS rfl))),
      fun S hS => aI rfl (aO rfl (bM (v := .d (.lit (.bool (!r20)))) (aA rfl) (aH hS rfl) c19 (aH hS rfl) rfl)), trivial⟩⟩
      · exact eE (aN rfl (aX ⟨rfl, rfl, rfl, rfl, rfl, rfl, rfl, rfl, trivial⟩))
     ·have h18 := aP c19 h18
      have h18 := Option.some.inj h18
      subst h18
      refine ⟨[(20, 0, .bp b8 0 1), (21, 1, .d (.lit (.int .i64 x6.Player))), (22, 2, .d (.lit (.int .i64 player_1))), (23, 3, .d (.lit (.bool ((decide (x6.Player = player_1)))))), (24, 4, .d (.lit (.bool ((decide (x6.Player = player_1)))))), (25, 5, .bp b8 0 2), (26, 6, .d (.lit (.int .i64 x6.Week))), (27, 7, .d (.lit (.int .i64 week_2))), (28, 8, .d (.lit (.bool ((decide (x6.Week ≤ week_2)))))), (29, 9, .d (.lit (.bool ((decide (x6.Week ≤ week_2)))))), (30, 10, .d (.lit (.bool (decide (x6.Week ≤ week_2))))), (31, 11, .cp [.lit (.int .i64 b_0.Ledger.Players), .lit (.int .i64 b_0.Ledger.Counts), .sl 5 (b_0.Ledger.Reports.map aC), .sl 3 (b_0.Ledger.Bans.map aK), .sl 3 (b_0.Ledger.Frozen.map aK)]), (32, 12, .agg (aC x6)), (33, 13, .d (.lit (.int .i64 week_2))), (34, 14, .d (.lit (.int .i64 r15))), (35, 15, .d (.lit (.bool ((decide (r15 < 52)))))), (36, 16, .d (.lit (.bool ((decide (r15 < 52)))))), (37, 17, .d (.lit (.bool (decide (r15 < 52))))), (38, 18, .tup []), (39, 19, .tup []), (40, 20, .tup []), (41, 21, .tup []), (42, 22, .tup []), (43, 23, .tup []), (44, 24, .tup []), (45, 25, .tup []), (46, 26, .tup []), (47, 27, .tup []), (48, 28, .d (.lit (.bool false)))], ?_, ?_⟩
      · exact ⟨by kernel_rfl, by kernel_rfl, by kernel_rfl, by kernel_rfl, by kernel_rfl, [([], []), ([0], []), ([], []), ([1, 2], []), ([3], []), ([4], []), ([4, 5], []), ([4], []), ([4, 6, 7], []), ([4, 8], []), ([9], []), ([10], []), ([10], []), ([10], []), ([10, 11, 12, 13], []), ([10, 14], []), ([10, 15], []), ([16], []), ([17], []), ([17, 18], []), ([17, 19], []), ([17, 20], []), ([17, 21], []), ([17], []), ([17], []), ([17, 24], []), ([17, 22, 23, 25], []), ([17, 26], []), ([17, 27], [])], by kernel_rfl, ⟨fun S hS => aI rfl (aO rfl (aT (aA rfl) (aH hS rfl) mY)),
      fun S hS => aI rfl (aO rfl (aU (aA rfl) (aH hS rfl) (i := 1) rfl rfl bH)),
      fun S hS => aI rfl (aO rfl (aD (v := .d (.lit (.int .i64 player_1))) (aA rfl) (aH hS rfl) rfl)),
      fun S hS => aI rfl (aO rfl (bC (aA rfl) (aH hS rfl) (aH hS rfl) rfl)),
      fun S hS => aI rfl (aO rfl (aD (v := .d (.lit (.bool ((decide (x6.Player = player_1)))))) (aA rfl) (aH hS rfl) rfl)),
      fun S hS => aI rfl (bE rfl rfl (aA rfl) (aR hS rfl) c11 (aT (aA rfl) (aH hS rfl) lM)),
      fun S hS => aI rfl (bE rfl rfl (aA rfl) (aR hS rfl) c11 (aU (aA rfl) (aH hS rfl) (i := 1) rfl rfl bH)),
      fun S hS => aI rfl (bE rfl rfl (aA rfl) (aR hS rfl) c11 (aD (v := .d (.lit (.int .i64 week_2))) (aA rfl) (aH hS rfl) rfl)),
      fun S hS => aI rfl (bE rfl rfl (aA rfl) (aR hS rfl) c11 (bC (aA rfl) (aH hS rfl) (aH hS rfl) rfl)),
      fun S hS => aI rfl (aO rfl (bM (v := .d (.lit (.bool ((decide (x6.Week ≤ week_2)))))) (aA rfl) (aH hS rfl) c11 (aH hS rfl) rfl)),
      fun S hS => aI rfl (aO rfl (aD (v := .d (.lit (.bool (decide (x6.Week ≤ week_2))))) (aA rfl) (aH hS rfl) rfl)),
      fun S hS => aI rfl (bE rfl rfl (aA rfl) (aR hS rfl) c14 (aD (v := .cp [.lit (.int .i64 b_0.Ledger.Players), .lit (.int .i64 b_0.Ledger.Counts), .sl 5 (b_0.Ledger.Reports.map aC), .sl 3 (b_0.Ledger.Bans.map aK), .sl 3 (b_0.Ledger.Frozen.map aK)]) (aA rfl) (aH hS rfl) rfl)),
      fun S hS => aI rfl (bE rfl rfl (aA rfl) (aR hS rfl) c14 (dN (aA rfl) (aH hS rfl) (i := 1) rfl eD (es := (aC x6)) rfl rfl)),
      fun S hS => aI rfl (bE rfl rfl (aA rfl) (aR hS rfl) c14 (aD (v := .d (.lit (.int .i64 week_2))) (aA rfl) (aH hS rfl) rfl)),
      fun S hS => aI rfl (bE rfl rfl (aA rfl) (aR hS rfl) c14 (bZ (aA rfl) (.func _ _ Try.call77) (ev2 (aH hS rfl) (ev2 (aH hS rfl) (ev2 (aH hS rfl) evn))) rfl (BVs.refl _ _) (tY _ _ _ h16) rfl)),
      fun S hS => aI rfl (bE rfl rfl (aA rfl) (aR hS rfl) c14 (bC (aA rfl) (aH hS rfl) rfl rfl)),
      fun S hS => aI rfl (aO rfl (bM (v := .d (.lit (.bool ((decide (r15 < 52)))))) (aA rfl) (aH hS rfl) c14 (aH hS rfl) rfl)),
      fun S hS => aI rfl (aO rfl (aD (v := .d (.lit (.bool (decide (r15 < 52))))) (aA rfl) (aH hS rfl) rfl)),
      fun S hS => aI rfl (bD rfl rfl (aA rfl) rfl (aA rfl) (aR hS rfl) c19),
      fun S hS => aI rfl (bD rfl rfl (aA rfl) rfl (aA rfl) (aR hS rfl) c19),
      fun S hS => aI rfl (bD rfl rfl (aA rfl) rfl (aA rfl) (aR hS rfl) c19),
      fun S hS => aI rfl (bD rfl rfl (aA rfl) rfl (aA rfl) (aR hS rfl) c19),
      fun S hS => aI rfl (bD rfl rfl (aA rfl) rfl (aA rfl) (aR hS rfl) c19),
      fun S hS => aI rfl (bD rfl rfl (aA rfl) rfl (aA rfl) (aR hS rfl) c19),
      fun S hS => aI rfl (bD rfl rfl (aA rfl) rfl (aA rfl) (aR hS rfl) c19),
      fun S hS => aI rfl (bD rfl rfl (aA rfl) rfl (aA rfl) (aR hS rfl) c19),
      fun S hS => aI rfl (bD rfl rfl (aA rfl) rfl (aA rfl) (aR hS rfl) c19),
      fun S hS => aI rfl (bD rfl rfl (aA rfl) rfl (aA rfl) (aR hS rfl) c19),
      fun S hS => aI rfl (aO rfl (bL (v := .d (.lit (.bool false))) (aA rfl) (aH hS rfl) c19 rfl rfl)), trivial⟩⟩
      · exact eE (aN rfl (aX ⟨rfl, rfl, rfl, rfl, rfl, rfl, rfl, rfl, trivial⟩))
    ·have h13 := aP c14 h13
     have h13 := Option.some.inj h13
     subst h13
     have c19 : false = false := rfl
     have h18 := aP c19 h18
     have h18 := Option.some.inj h18
     subst h18
     refine ⟨[(20, 0, .bp b8 0 1), (21, 1, .d (.lit (.int .i64 x6.Player))), (22, 2, .d (.lit (.int .i64 player_1))), (23, 3, .d (.lit (.bool ((decide (x6.Player = player_1)))))), (24, 4, .d (.lit (.bool ((decide (x6.Player = player_1)))))), (25, 5, .bp b8 0 2), (26, 6, .d (.lit (.int .i64 x6.Week))), (27, 7, .d (.lit (.int .i64 week_2))), (28, 8, .d (.lit (.bool ((decide (x6.Week ≤ week_2)))))), (29, 9, .d (.lit (.bool ((decide (x6.Week ≤ week_2)))))), (30, 10, .d (.lit (.bool (decide (x6.Week ≤ week_2))))), (31, 11, .tup []), (32, 12, .tup []), (33, 13, .tup []), (34, 14, .tup []), (35, 15, .tup []), (36, 16, .d (.lit (.bool false))), (37, 17, .d (.lit (.bool (false)))), (38, 18, .tup []), (39, 19, .tup []), (40, 20, .tup []), (41, 21, .tup []), (42, 22, .tup []), (43, 23, .tup []), (44, 24, .tup []), (45, 25, .tup []), (46, 26, .tup []), (47, 27, .tup []), (48, 28, .d (.lit (.bool false)))], ?_, ?_⟩
     · exact ⟨by kernel_rfl, by kernel_rfl, by kernel_rfl, by kernel_rfl, by kernel_rfl, [([], []), ([0], []), ([], []), ([1, 2], []), ([3], []), ([4], []), ([4, 5], []), ([4], []), ([4, 6, 7], []), ([4, 8], []), ([9], []), ([10], []), ([10], []), ([10], []), ([10, 11, 12, 13], []), ([10, 14], []), ([10, 15], []), ([16], []), ([17], []), ([17, 18], []), ([17, 19], []), ([17, 20], []), ([17, 21], []), ([17], []), ([17], []), ([17, 24], []), ([17, 22, 23, 25], []), ([17, 26], []), ([17, 27], [])], by kernel_rfl, ⟨fun S hS => aI rfl (aO rfl (aT (aA rfl) (aH hS rfl) mY)),
      fun S hS => aI rfl (aO rfl (aU (aA rfl) (aH hS rfl) (i := 1) rfl rfl bH)),
      fun S hS => aI rfl (aO rfl (aD (v := .d (.lit (.int .i64 player_1))) (aA rfl) (aH hS rfl) rfl)),
      fun S hS => aI rfl (aO rfl (bC (aA rfl) (aH hS rfl) (aH hS rfl) rfl)),
      fun S hS => aI rfl (aO rfl (aD (v := .d (.lit (.bool ((decide (x6.Player = player_1)))))) (aA rfl) (aH hS rfl) rfl)),
      fun S hS => aI rfl (bE rfl rfl (aA rfl) (aR hS rfl) c11 (aT (aA rfl) (aH hS rfl) lM)),
      fun S hS => aI rfl (bE rfl rfl (aA rfl) (aR hS rfl) c11 (aU (aA rfl) (aH hS rfl) (i := 1) rfl rfl bH)),
      fun S hS => aI rfl (bE rfl rfl (aA rfl) (aR hS rfl) c11 (aD (v := .d (.lit (.int .i64 week_2))) (aA rfl) (aH hS rfl) rfl)),
      fun S hS => aI rfl (bE rfl rfl (aA rfl) (aR hS rfl) c11 (bC (aA rfl) (aH hS rfl) (aH hS rfl) rfl)),
      fun S hS => aI rfl (aO rfl (bM (v := .d (.lit (.bool ((decide (x6.Week ≤ week_2)))))) (aA rfl) (aH hS rfl) c11 (aH hS rfl) rfl)),
      fun S hS => aI rfl (aO rfl (aD (v := .d (.lit (.bool (decide (x6.Week ≤ week_2))))) (aA rfl) (aH hS rfl) rfl)),
      fun S hS => aI rfl (bD rfl rfl (aA rfl) rfl (aA rfl) (aR hS rfl) c14),
      fun S hS => aI rfl (bD rfl rfl (aA rfl) rfl (aA rfl) (aR hS rfl) c14),
      fun S hS => aI rfl (bD rfl rfl (aA rfl) rfl (aA rfl) (aR hS rfl) c14),
      fun S hS => aI rfl (bD rfl rfl (aA rfl) rfl (aA rfl) (aR hS rfl) c14),
      fun S hS => aI rfl (bD rfl rfl (aA rfl) rfl (aA rfl) (aR hS rfl) c14),
      fun S hS => aI rfl (aO rfl (bL (v := .d (.lit (.bool false))) (aA rfl) (aH hS rfl) c14 rfl rfl)),
      fun S hS => aI rfl (aO rfl (aD (v := .d (.lit (.bool (false)))) (aA rfl) (aH hS rfl) rfl)),
      fun S hS => aI rfl (bD rfl rfl (aA rfl) rfl (aA rfl) (aR hS rfl) c19),
      fun S hS => aI rfl (bD rfl rfl (aA rfl) rfl (aA rfl) (aR hS rfl) c19),
      fun S hS => aI rfl (bD rfl rfl (aA rfl) rfl (aA rfl) (aR hS rfl) c19),
      fun S hS => aI rfl (bD rfl rfl (aA rfl) rfl (aA rfl) (aR hS rfl) c19),
      fun S hS => aI rfl (bD rfl rfl (aA rfl) rfl (aA rfl) (aR hS rfl) c19),
      fun S hS => aI rfl (bD rfl rfl (aA rfl) rfl (aA rfl) (aR hS rfl) c19),
      fun S hS => aI rfl (bD rfl rfl (aA rfl) rfl (aA rfl) (aR hS rfl) c19),
      fun S hS => aI rfl (bD rfl rfl (aA rfl) rfl (aA rfl) (aR hS rfl) c19),
      fun S hS => aI rfl (bD rfl rfl (aA rfl) rfl (aA rfl) (aR hS rfl) c19),
      fun S hS => aI rfl (bD rfl rfl (aA rfl) rfl (aA rfl) (aR hS rfl) c19),
      fun S hS => aI rfl (aO rfl (bL (v := .d (.lit (.bool false))) (aA rfl) (aH hS rfl) c19 rfl rfl)), trivial⟩⟩
     · exact eE (aN rfl (aX ⟨rfl, rfl, rfl, rfl, rfl, rfl, rfl, rfl, trivial⟩))
   ·have h10 := aP c11 h10
    have h10 := Option.some.inj h10
    subst h10
    have c14 : false = false := rfl
    have h13 := aP c14 h13
    have h13 := Option.some.inj h13
    subst h13
    have c19 : false = false := rfl
    have h18 := aP c19 h18
    have h18 := Option.some.inj h18
    subst h18
    refine ⟨[(20, 0, .bp b8 0 1), (21, 1, .d (.lit (.int .i64 x6.Player))), (22, 2, .d (.lit (.int .i64 player_1))), (23, 3, .d (.lit (.bool ((decide (x6.Player = player_1)))))), (24, 4, .d (.lit (.bool ((decide (x6.Player = player_1)))))), (25, 5, .tup []), (26, 6, .tup []), (27, 7, .tup []), (28, 8, .tup []), (29, 9, .d (.lit (.bool false))), (30, 10, .d (.lit (.bool (false)))), (31, 11, .tup []), (32, 12, .tup []), (33, 13, .tup []), (34, 14, .tup []), (35, 15, .tup []), (36, 16, .d (.lit (.bool false))), (37, 17, .d (.lit (.bool (false)))), (38, 18, .tup []), (39, 19, .tup []), (40, 20, .tup []), (41, 21, .tup []), (42, 22, .tup []), (43, 23, .tup []), (44, 24, .tup []), (45, 25, .tup []), (46, 26, .tup []), (47, 27, .tup []), (48, 28, .d (.lit (.bool false)))], ?_, ?_⟩
    · exact ⟨by kernel_rfl, by kernel_rfl, by kernel_rfl, by kernel_rfl, by kernel_rfl, [([], []), ([0], []), ([], []), ([1, 2], []), ([3], []), ([4], []), ([4, 5], []), ([4], []), ([4, 6, 7], []), ([4, 8], []), ([9], []), ([10], []), ([10], []), ([10], []), ([10, 11, 12, 13], []), ([10, 14], []), ([10, 15], []), ([16], []), ([17], []), ([17, 18], []), ([17, 19], []), ([17, 20], []), ([17, 21], []), ([17], []), ([17], []), ([17, 24], []), ([17, 22, 23, 25], []), ([17, 26], []), ([17, 27], [])], by kernel_rfl, ⟨fun S hS => aI rfl (aO rfl (aT (aA rfl) (aH hS rfl) mY)),
      fun S hS => aI rfl (aO rfl (aU (aA rfl) (aH hS rfl) (i := 1) rfl rfl bH)),
      fun S hS => aI rfl (aO rfl (aD (v := .d (.lit (.int .i64 player_1))) (aA rfl) (aH hS rfl) rfl)),
      fun S hS => aI rfl (aO rfl (bC (aA rfl) (aH hS rfl) (aH hS rfl) rfl)),
      fun S hS => aI rfl (aO rfl (aD (v := .d (.lit (.bool ((decide (x6.Player = player_1)))))) (aA rfl) (aH hS rfl) rfl)),
      fun S hS => aI rfl (bD rfl rfl (aA rfl) rfl (aA rfl) (aR hS rfl) c11),
      fun S hS => aI rfl (bD rfl rfl (aA rfl) rfl (aA rfl) (aR hS rfl) c11),
      fun S hS => aI rfl (bD rfl rfl (aA rfl) rfl (aA rfl) (aR hS rfl) c11),
      fun S hS => aI rfl (bD rfl rfl (aA rfl) rfl (aA rfl) (aR hS rfl) c11),
      fun S hS => aI rfl (aO rfl (bL (v := .d (.lit (.bool false))) (aA rfl) (aH hS rfl) c11 rfl rfl)),
      fun S hS => aI rfl (aO rfl (aD (v := .d (.lit (.bool (false)))) (aA rfl) (aH hS rfl) rfl)),
      fun S hS => aI rfl (bD rfl rfl (aA rfl) rfl (aA rfl) (aR hS rfl) c14),
      fun S hS => aI rfl (bD rfl rfl (aA rfl) rfl (aA rfl) (aR hS rfl) c14),
      fun S hS => aI rfl (bD rfl rfl (aA rfl) rfl (aA rfl) (aR hS rfl) c14),
      fun S hS => aI rfl (bD rfl rfl (aA rfl) rfl (aA rfl) (aR hS rfl) c14),
      fun S hS => aI rfl (bD rfl rfl (aA rfl) rfl (aA rfl) (aR hS rfl) c14),
      fun S hS => aI rfl (aO rfl (bL (v := .d (.lit (.bool false))) (aA rfl) (aH hS rfl) c14 rfl rfl)),
      fun S hS => aI rfl (aO rfl (aD (v := .d (.lit (.bool (false)))) (aA rfl) (aH hS rfl) rfl)),
      fun S hS => aI rfl (bD rfl rfl (aA rfl) rfl (aA rfl) (aR hS rfl) c19),
      fun S hS => aI rfl (bD rfl rfl (aA rfl) rfl (aA rfl) (aR hS rfl) c19),
      fun S hS => aI rfl (bD rfl rfl (aA rfl) rfl (aA rfl) (aR hS rfl) c19),
      fun S hS => aI rfl (bD rfl rfl (aA rfl) rfl (aA rfl) (aR hS rfl) c19),
      fun S hS => aI rfl (bD rfl rfl (aA rfl) rfl (aA rfl) (aR hS rfl) c19),
      fun S hS => aI rfl (bD rfl rfl (aA rfl) rfl (aA rfl) (aR hS rfl) c19),
      fun S hS => aI rfl (bD rfl rfl (aA rfl) rfl (aA rfl) (aR hS rfl) c19),
      fun S hS => aI rfl (bD rfl rfl (aA rfl) rfl (aA rfl) (aR hS rfl) c19),
      fun S hS => aI rfl (bD rfl rfl (aA rfl) rfl (aA rfl) (aR hS rfl) c19),
      fun S hS => aI rfl (bD rfl rfl (aA rfl) rfl (aA rfl) (aR hS rfl) c19),
      fun S hS => aI rfl (aO rfl (bL (v := .d (.lit (.bool false))) (aA rfl) (aH hS rfl) c19 rfl rfl)), trivial⟩⟩
    · exact eE (aN rfl (aX ⟨rfl, rfl, rfl, rfl, rfl, rfl, rfl, rfl, trivial⟩))
  ·refine aF ?_
   refine bN rfl (fun c22 => ?_) (fun c22 => ?_)
   ·have h := aQ c22 h
    refine aE ?_
    refine tr1 rfl (aD (v := .d (.lit w3)) (aA rfl) rfl rfl) ?_
    refine tr1 rfl (dN (aA rfl) rfl (i := 1) rfl eD (es := (aC x6)) rfl rfl) ?_
    refine tr1 rfl (jX (aA rfl) cA rfl rfl (rows := ([x6]).map aC) rfl (eA (f := aC) fun _ => rfl) rfl (by decide)) ?_
    obtain ⟨x23, h24, h⟩ := bind_some h
    refine bW rfl (pY (i := 0) (aA rfl) cA rfl rfl rfl (fun _ => rfl) h24 rfl) ?_
    rintro _ ⟨v25, rfl⟩
    refine tr1 rfl (aJ (v := .d (.lit v25)) (aA rfl) rfl rfl) ?_
    refine eF ?_
    refine aE ?_
    refine tr1 rfl (aY (aA rfl) rfl rfl rfl) ?_
    refine tr1 rfl (aD (v := .d (.lit (.int .i64 ((w64 (t16_0_2 + 1)))))) (aA rfl) rfl rfl) ?_
    refine aF ?_
    exact ⟨(w64 (t16_0_2 + 1), x23, v25), h, aW [0] rfl rfl (aN rfl (aN rfl (aX ⟨rfl, rfl, rfl, rfl, rfl, trivial⟩)))⟩
   ·have h := aP c22 h
    refine fC ?_
    refine aE ?_
    refine tr1 rfl (aY (aA rfl) rfl rfl rfl) ?_
    refine tr1 rfl (aD (v := .d (.lit (.int .i64 ((w64 (t16_0_2 + 1)))))) (aA rfl) rfl rfl) ?_
    refine aF ?_
    exact ⟨(w64 (t16_0_2 + 1), out_0_2, w3), h, aW [0] rfl rfl (aN rfl (aN rfl (aX ⟨rfl, rfl, rfl, rfl, rfl, trivial⟩)))⟩
 ·have h := aP c5 h
  refine cY ?_
  refine .inl ⟨rfl, ?_⟩
  simp only [oH] at h
  refine aG ?_
  refine aE ?_
  refine tr1 rfl (aD (v := .d (.lit w3)) (aA rfl) rfl rfl) ?_
  refine tr1 rfl (aJ (v := .d (.lit w3)) (aA rfl) rfl rfl) ?_
  refine aF ?_
  have h := Option.some.inj h
  subst h
  refine cU (cH (jH (k := 6) (v := .d (.sl 5 (out_0_2.map aC))) (.d (kI 0 rfl (eA (f := aC) fun _ => rfl))) (zG))) ?_
  exact bO ⟨rfl, _, .one _, rfl, rfl⟩

theorem wF (vals_0 : List Int) {r : Int} (h : oO vals_0 = some r) : Fn Try.prog 99 [.d (.sl 1 (vals_0.map cK))] (.d (.lit (.int .i64 r))) := by
 unfold oO at h
 refine Fn.of_tr Try.func99 rfl (rs := [.tmp 2]) Try.results99 Try.ntmps99 (Nat.le_of_ble_eq_true rfl) ?_
 refine aG ?_
 refine aE ?_
 refine tr1 rfl (aJ (v := .d (.lit (.int .i64 0))) (aA rfl) rfl rfl) ?_
 refine aF ?_
 refine aG ?_
 refine aE ?_
 refine tr1 rfl (aJ (v := .d (.lit (.int .i64 0))) (aA rfl) rfl rfl) ?_
 refine aF ?_
 refine aG ?_
 refine aG ?_
 refine aE ?_
 refine tr1 rfl (aD (v := .d (.sl 1 (vals_0.map cK))) (aA rfl) rfl rfl) ?_
 refine tr1 rfl (eB (aA rfl) rfl fE.of) ?_
 refine tr1 rfl (aD (v := .d (.lit (.int .i64 0))) (aA rfl) rfl rfl) ?_
 refine aF ?_
 refine bT ?_
 refine cO [3, 6, 7] (fun (s1 : Int) => [(8, .d (.lit (.int .i64 s1)))]) (fun (s1 : Int) => []) (fun (k : Nat) (s1 : Int) => kV 0 vals_0 (vals_0.length : Int) k s1) (fun _ => rfl) (0) h (aW [] rfl rfl (aN rfl (aX ⟨rfl, rfl, rfl, trivial⟩))) ?_
 rintro k2 t8_0_1 h
 simp only [kV] at h
 refine aG ?_
 refine aE ?_
 refine tr1 rfl (bC (aA rfl) rfl rfl rfl) ?_
 refine aF ?_
 refine aG ?_
 refine bN rfl (fun c3 => ?_) (fun c3 => ?_)
 ·have h := aQ c3 h
  refine bJ ?_
  refine aG ?_
  refine bT ?_
  refine aG ?_
  refine aE ?_
  obtain ⟨x4, h5, h⟩ := bind_some h
  refine tr1 rfl (cF (aA rfl) rfl rfl fE.of (bP cK h5)) ?_
  refine tr1 rfl (cI (aA rfl) rfl bH) ?_
  refine tr1 rfl (aJ (v := .d (.lit (.int .i64 x4))) (aA rfl) rfl rfl) ?_
  refine aF ?_
  refine aG ?_
  refine aE ?_
  refine tr1 rfl (aD (v := .d (.lit (.int .i64 x4))) (aA rfl) rfl rfl) ?_
  refine tr1 rfl (aD (v := .d (.lit (.int .i64 0))) (aA rfl) rfl rfl) ?_
  refine tr1 rfl (bC (aA rfl) rfl rfl rfl) ?_
  refine aF ?_
  refine bN rfl (fun c6 => ?_) (fun c6 => ?_)
  ·have h := aQ c6 h
   refine aG ?_
   refine aE ?_
   refine tr1 rfl (aD (v := .d (.lit (.int .i64 x4))) (aA rfl) rfl rfl) ?_
   refine tr1 rfl (aJ (v := .d (.lit (.int .i64 x4))) (aA rfl) rfl rfl) ?_
   refine aF ?_
   have h := Option.some.inj h
   subst h
   exact bO ⟨rfl, _, .one _, rfl, rfl⟩
  ·have h := aP c6 h
   refine fC ?_
   refine aE ?_
   refine tr1 rfl (aY (aA rfl) rfl rfl rfl) ?_
   refine tr1 rfl (aD (v := .d (.lit (.int .i64 ((w64 (t8_0_1 + 1)))))) (aA rfl) rfl rfl) ?_
   refine aF ?_
   exact ⟨(w64 (t8_0_1 + 1)), h, aW [] rfl rfl (aN rfl (aX ⟨rfl, rfl, rfl, trivial⟩))⟩
 ·have h := aP c3 h
  refine cY ?_
  refine .inl ⟨rfl, ?_⟩
  simp only [sD] at h
  refine aG ?_
  refine aE ?_
  refine tr1 rfl (aD (v := .d (.lit (.int .i64 0))) (aA rfl) rfl rfl) ?_
  refine tr1 rfl (aJ (v := .d (.lit (.int .i64 0))) (aA rfl) rfl rfl) ?_
  refine aF ?_
  have h := Option.some.inj h
  subst h
  exact bO ⟨rfl, _, .one _, rfl, rfl⟩

theorem vX (x_0 : aB) (y_1 : aB) {r : Int} (h : jL x_0 y_1 = some r) : Fn Try.prog 98 [.agg (aC x_0), .agg (aC y_1)] (.d (.lit (.int .i64 r))) := by
 unfold jL at h
 refine Fn.of_tr Try.func98 rfl (rs := [.tmp 4]) Try.results98 Try.ntmps98 (Nat.le_of_ble_eq_true rfl) ?_
 refine aG ?_
 refine aE ?_
 refine bW rfl (fU (v := .agg (aC x_0)) (aA rfl) rfl rfl rfl) ?_
 rintro _ ⟨b1, rfl⟩
 refine bW rfl (fU (v := .agg (aC y_1)) (aA rfl) rfl rfl rfl) ?_
 rintro _ ⟨b2, rfl⟩
 refine tr1 rfl (aJ (v := .d (.lit (.int .i64 0))) (aA rfl) rfl rfl) ?_
 refine aF ?_
 refine aG ?_
 refine bT ?_
 refine aG ?_
 refine aE ?_
 refine tr1 rfl (aT (aA rfl) rfl oE) ?_
 refine tr1 rfl (aU (aA rfl) rfl (i := 0) rfl rfl rP) ?_
 refine tr1 rfl (aT (aA rfl) rfl oE) ?_
 refine tr1 rfl (aU (aA rfl) rfl (i := 1) rfl rfl rP) ?_
 refine tr1 rfl (aFo (aA rfl) rfl rfl Try.underlying4) ?_
 refine tr1 rfl (aD (v := .d (.lit (.bool ((!decide (x_0.Must = y_1.Must)))))) (aA rfl) rfl rfl) ?_
 obtain ⟨b3, h4, h⟩ := bind_some h
 refine bR 3 [2, 3] 14 b3 ?_ ?_
 ·refine bG (!decide (x_0.Must = y_1.Must)) (fun c9 => ?_) (fun c9 => ?_)
  ·have h4 := aQ c9 h4
   refine aL rfl rfl (aA rfl) rfl c9 (aT (aA rfl) rfl oE) ?_
   refine aL rfl rfl (aA rfl) rfl c9 (aU (aA rfl) rfl (i := 0) rfl rfl rP) ?_
   refine tr1 rfl (bM (v := .d (.lit (.bool x_0.Must))) (aA rfl) rfl c9 rfl rfl) ?_
   have h4 := Option.some.inj h4
   subst h4
   refine aF (aV rfl ⟨rfl, rfl, trivial⟩ rfl)
  ·have h4 := aP c9 h4
   refine aM rfl rfl (aA rfl) rfl (aA rfl) rfl c9 ?_
   refine aM rfl rfl (aA rfl) rfl (aA rfl) rfl c9 ?_
   refine tr1 rfl (bL (v := .d (.lit (.bool false))) (aA rfl) rfl c9 rfl rfl) ?_
   have h4 := Option.some.inj h4
   subst h4
   refine aF (aV rfl ⟨rfl, rfl, trivial⟩ rfl)
 ·refine tr1 rfl (aJ (v := .d (.lit (.bool b3))) (aA rfl) rfl rfl) ?_
  refine aF ?_
  refine bN rfl (fun c5 => ?_) (fun c5 => ?_)
  ·have h := aQ c5 h
   refine aG ?_
   refine aE ?_
   refine tr1 rfl (aJ (v := .d (.lit (.int .i64 (-1)))) (aA rfl) rfl rfl) ?_
   refine aF ?_
   have h := Option.some.inj h
   subst h
   refine cU (cH (cN (l := [4]) ⟨rfl, trivial⟩)) ?_
   exact bO ⟨rfl, _, .one _, rfl, rfl⟩
  ·have h := aP c5 h
   refine aG ?_
   refine aE ?_
   refine tr1 rfl (aT (aA rfl) rfl oE) ?_
   refine tr1 rfl (aU (aA rfl) rfl (i := 0) rfl rfl rP) ?_
   refine tr1 rfl (aT (aA rfl) rfl oE) ?_
   refine tr1 rfl (aU (aA rfl) rfl (i := 1) rfl rfl rP) ?_
   refine tr1 rfl (aFo (aA rfl) rfl rfl Try.underlying4) ?_
   refine tr1 rfl (aJ (v := .d (.lit (.bool ((!decide (x_0.Must = y_1.Must)))))) (aA rfl) rfl rfl) ?_
   refine aF ?_
   refine bN rfl (fun c6 => ?_) (fun c6 => ?_)
   ·have h := aQ c6 h
    refine aG ?_
    refine aE ?_
    refine tr1 rfl (aJ (v := .d (.lit (.int .i64 1))) (aA rfl) rfl rfl) ?_
    refine aF ?_
    have h := Option.some.inj h
    subst h
    refine cU (cH (cN (l := [4]) ⟨rfl, trivial⟩)) ?_
    exact bO ⟨rfl, _, .one _, rfl, rfl⟩
   ·have h := aP c6 h
    refine fC ?_
    refine aG ?_
    refine aE ?_
    refine tr1 rfl (aT (aA rfl) rfl rF) ?_
    refine tr1 rfl (aU (aA rfl) rfl (i := 1) rfl rfl bH) ?_
    refine tr1 rfl (aT (aA rfl) rfl rF) ?_
    refine tr1 rfl (aU (aA rfl) rfl (i := 0) rfl rfl bH) ?_
    refine tr1 rfl (aY (aA rfl) rfl rfl rfl) ?_
    refine tr1 rfl (aT (aA rfl) rfl kW) ?_
    refine tr1 rfl (aU (aA rfl) rfl (i := 0) rfl rfl bH) ?_
    refine tr1 rfl (aT (aA rfl) rfl kW) ?_
    refine tr1 rfl (aU (aA rfl) rfl (i := 1) rfl rfl bH) ?_
    refine tr1 rfl (aY (aA rfl) rfl rfl rfl) ?_
    refine tr1 rfl (jX (aA rfl) fE rfl rfl (rows := ([w64 (y_1.Points - x_0.Points), w64 (x_0.Id - y_1.Id)]).map cK) rfl (eA (f := cK) fun _ => rfl) rfl (by decide)) ?_
    obtain ⟨r7, h8, h⟩ := bind_some h
    refine tr1 rfl (bZ (aA rfl) (.func _ _ Try.call99) rfl rfl (BVs.refl _ _) (wF _ h8) rfl) ?_
    refine tr1 rfl (aJ (v := .d (.lit (.int .i64 r7))) (aA rfl) rfl rfl) ?_
    refine aF ?_
    have h := Option.some.inj h
    subst h
    refine cU (cH (cN (l := [4]) ⟨rfl, trivial⟩)) ?_
    exact bO ⟨rfl, _, .one _, rfl, rfl⟩

theorem sJ (b_0 : bQ) (all_1 : List aB) {r : (List aB)} (h : kT b_0 all_1 = some r) : Fn Try.prog 71 [.cp (cB b_0), .d (.sl 5 (all_1.map aC))] (.d (.sl 5 (r.map aC))) := by
 unfold kT at h
 refine Fn.of_tr Try.func71 rfl (rs := [.tmp 4]) Try.results71 Try.ntmps71 (Nat.le_of_ble_eq_true rfl) ?_
 refine aG ?_
 refine aE ?_
 refine tr1 rfl (vJ 5 (aA rfl)) ?_
 refine aF ?_
 refine aG ?_
 refine aE ?_
 refine tr1 rfl (aD (v := .d (.sl 5 (all_1.map aC))) (aA rfl) rfl rfl) ?_
 obtain ⟨r1, h2, h⟩ := bind_some h
 refine bW rfl (vI (aA rfl) (.func _ _ Try.call91) rfl rfl (nH _ h2)) ?_
 rintro _ ⟨v3, rfl⟩
 refine tr1 rfl (aJ (v := .d (.lit v3)) (aA rfl) rfl rfl) ?_
 refine aF ?_
 refine aG ?_
 refine aE ?_
 refine tr1 rfl (aD (v := .d (.lit v3)) (aA rfl) rfl rfl) ?_
 obtain ⟨r6, h7, h⟩ := bind_some h
 refine bW rfl (dM (passed := [.arr v3 42 5 (r1.map aC)]) (aA rfl) rfl (.func _ _ Try.call92) rfl rfl (kZ r1 (fun y4 y5 => jL y4 y5) 98 [] Try.call98 (fun _ _ _ h => vX _ _ h) h7)) ?_
 rintro _ ⟨_, _, ⟨rfl, rfl⟩, rfl⟩
 refine aF ?_
 refine aG ?_
 refine aE ?_
 refine tr1 rfl (aJ (v := .d (.lit (.int .i64 0))) (aA rfl) rfl rfl) ?_
 refine aF ?_
 refine aG ?_
 refine aG ?_
 refine aE ?_
 refine tr1 rfl (aD (v := .d (.lit v3)) (aA rfl) rfl rfl) ?_
 refine tr1 rfl (lB (m := 0) (aA rfl) rfl rfl cA.of) ?_
 refine tr1 rfl (aD (v := .d (.lit (.int .i64 0))) (aA rfl) rfl rfl) ?_
 refine aF ?_
 refine bT ?_
 refine cO [0, 5, 13, 14] (fun (s8 : Int × Int) => [(6, .d (.lit (.int .i64 s8.1))), (15, .d (.lit (.int .i64 s8.2)))]) (fun (s8 : Int × Int) => [.arr v3 42 5 (r6.map aC)]) (fun (k : Nat) (s8 : Int × Int) => fK b_0 (r6.length : Int) r6 k s8.1 s8.2) (fun _ => rfl) (0, 0) h (aW [0] rfl rfl (aN rfl (aN rfl (aX ⟨rfl, rfl, rfl, rfl, trivial⟩)))) ?_
 rintro k9 ⟨musts_0_8, t15_0_8⟩ h
 simp only [fK] at h
 refine aG ?_
 refine aE ?_
 refine tr1 rfl (bC (aA rfl) rfl rfl rfl) ?_
 refine aF ?_
 refine aG ?_
 refine bN rfl (fun c10 => ?_) (fun c10 => ?_)
 ·have h := aQ c10 h
  refine bJ ?_
  refine aG ?_
  refine bT ?_
  refine aG ?_
  refine aE ?_
  obtain ⟨x11, h12, h⟩ := bind_some h
  refine tr1 rfl (cC (m := 0) (aA rfl) rfl rfl rfl cA.of (bP aC h12)) ?_
  refine tr1 rfl (dC (aA rfl) rfl (l := 0) rfl (dW aC h12) eD (es := (aC x11)) rfl rfl) ?_
  refine bW rfl (iF (zs := [.lit (.int .i64 0), .lit (.int .i64 0), .lit (.int .i64 0), .lit (.int .i64 0), .lit (.bool false)]) (aA rfl) Try.zeroValue42 rfl rfl) ?_
  rintro _ ⟨b13, rfl⟩
  refine tr1 rfl (cJ (i := 1) rfl rfl rfl rfl rfl Try.sizeOf42 rfl (aA rfl) (Nat.le_of_ble_eq_true rfl) (ds' := (aC x11)) rfl) ?_
  refine aF ?_
  refine aG ?_
  refine aE ?_
  refine tr1 rfl (aT (aA rfl) rfl oE) ?_
  refine tr1 rfl (aU (aA rfl) rfl (i := 1) rfl rfl rP) ?_
  refine aF ?_
  refine bN rfl (fun c14 => ?_) (fun c14 => ?_)
  ·have h := aQ c14 h
   refine aE ?_
   refine tr1 rfl (aD (v := .d (.lit (.int .i64 musts_0_8))) (aA rfl) rfl rfl) ?_
   refine tr1 rfl (aY (aA rfl) rfl rfl rfl) ?_
   refine tr1 rfl (aJ (v := .d (.lit (.int .i64 ((w64 (musts_0_8 + 1)))))) (aA rfl) rfl rfl) ?_
   refine eF ?_
   refine aE ?_
   refine tr1 rfl (aY (aA rfl) rfl rfl rfl) ?_
   refine tr1 rfl (aD (v := .d (.lit (.int .i64 ((w64 (t15_0_8 + 1)))))) (aA rfl) rfl rfl) ?_
   refine aF ?_
   exact ⟨(w64 (musts_0_8 + 1), w64 (t15_0_8 + 1)), h, aW [0] rfl rfl (aN rfl (aN rfl (aX ⟨rfl, rfl, rfl, rfl, trivial⟩)))⟩
  ·have h := aP c14 h
   refine fC ?_
   refine aE ?_
   refine tr1 rfl (aY (aA rfl) rfl rfl rfl) ?_
   refine tr1 rfl (aD (v := .d (.lit (.int .i64 ((w64 (t15_0_8 + 1)))))) (aA rfl) rfl rfl) ?_
   refine aF ?_
   exact ⟨(musts_0_8, w64 (t15_0_8 + 1)), h, aW [0] rfl rfl (aN rfl (aN rfl (aX ⟨rfl, rfl, rfl, rfl, trivial⟩)))⟩
 ·have h := aP c10 h
  refine cY ?_
  refine .inl ⟨rfl, ?_⟩
  simp only [kN] at h
  refine aG ?_
  refine aE ?_
  refine tr1 rfl (aD (v := .d (.lit v3)) (aA rfl) rfl rfl) ?_
  refine tr1 rfl (aD (v := .d (.lit v3)) (aA rfl) rfl rfl) ?_
  refine tr1 rfl (lB (m := 0) (aA rfl) rfl rfl cA.of) ?_
  refine tr1 rfl (aD (v := .d (.lit (.int .i64 musts_0_8))) (aA rfl) rfl rfl) ?_
  refine tr1 rfl (aD (v := .cp [.lit (.int .i64 b_0.Ledger.Players), .lit (.int .i64 b_0.Ledger.Counts), .sl 5 (b_0.Ledger.Reports.map aC), .sl 3 (b_0.Ledger.Bans.map aK), .sl 3 (b_0.Ledger.Frozen.map aK)]) (aA rfl) rfl rfl) ?_
  refine tr1 rfl (oS (aA rfl) rfl) ?_
  refine tr1 rfl (cQ (aA rfl) rfl iJ (es := [.lit (.int .i64 b_0.Ledger.Players), .lit (.int .i64 b_0.Ledger.Counts), .sl 5 (b_0.Ledger.Reports.map aC), .sl 3 (b_0.Ledger.Bans.map aK), .sl 3 (b_0.Ledger.Frozen.map aK)]) rfl) ?_
  refine tr1 rfl (cQ (aA rfl) rfl yD (es := [.lit (.int .i64 b_0.Ledger.Counts)]) rfl) ?_
  refine tr1 rfl (cI (aA rfl) rfl bH) ?_
  refine tr1 rfl (aAq (aA rfl) rfl rfl) ?_
  refine tr1 rfl (aDq (aA rfl) rfl rfl) ?_
  refine fZ (zJ [] [.arr v3 42 5 (r6.map aC)] rfl (jH (k := 25) (v := .d (.sl 5 (r6.map aC))) (.d (kI 0 rfl (eA (f := aC) fun _ => rfl))) (jH (k := 24) (v := .d (.sl 5 (r6.map aC))) (.d (kI 0 rfl (eA (f := aC) fun _ => rfl))) (jH (k := 13) (v := .d (.sl 5 (r6.map aC))) (.d (kI 0 rfl (eA (f := aC) fun _ => rfl))) (jH (k := 5) (v := .d (.sl 5 (r6.map aC))) (.d (kI 0 rfl (eA (f := aC) fun _ => rfl))) (sW _ _)))))) ?_
  obtain ⟨x15, h16, h⟩ := bind_some h
  refine tr1 rfl (oT (aA rfl) cA.of rfl rfl rfl (rK aC h16)) ?_
  refine tr1 rfl (aJ (v := .d (.sl 5 (x15.map aC))) (aA rfl) rfl rfl) ?_
  refine aF ?_
  have h := Option.some.inj h
  subst h
  exact bO ⟨rfl, _, .one _, rfl, rfl⟩

theorem yX (l_0 : List aB) {r : Int} (h : rJ l_0 = some r) : Fn Try.prog 86 [.d (.sl 5 (l_0.map aC))] (.d (.lit (.int .i64 r))) := by
 unfold rJ at h
 refine Fn.of_tr Try.func86 rfl (rs := [.tmp 2]) Try.results86 Try.ntmps86 (Nat.le_of_ble_eq_true rfl) ?_
 refine aG ?_
 refine aE ?_
 refine tr1 rfl (aJ (v := .d (.lit (.int .i64 0))) (aA rfl) rfl rfl) ?_
 refine aF ?_
 refine aG ?_
 refine aG ?_
 refine aE ?_
 refine tr1 rfl (aD (v := .d (.sl 5 (l_0.map aC))) (aA rfl) rfl rfl) ?_
 refine tr1 rfl (eB (aA rfl) rfl cA.of) ?_
 refine tr1 rfl (aD (v := .d (.lit (.int .i64 0))) (aA rfl) rfl rfl) ?_
 refine aF ?_
 refine bT ?_
 refine cO [5, 6] (fun (s1 : Int × Int) => [(2, .d (.lit (.int .i64 s1.1))), (7, .d (.lit (.int .i64 s1.2)))]) (fun (s1 : Int × Int) => []) (fun (k : Nat) (s1 : Int × Int) => mO l_0 (l_0.length : Int) k s1.1 s1.2) (fun _ => rfl) (0, 0) h (aW [] rfl rfl (aN rfl (aN rfl (aX ⟨rfl, rfl, trivial⟩)))) ?_
 rintro k2 ⟨n_0_1, t7_0_1⟩ h
 simp only [mO] at h
 refine aG ?_
 refine aE ?_
 refine tr1 rfl (bC (aA rfl) rfl rfl rfl) ?_
 refine aF ?_
 refine aG ?_
 refine bN rfl (fun c3 => ?_) (fun c3 => ?_)
 ·have h := aQ c3 h
  refine bJ ?_
  refine aG ?_
  refine bT ?_
  refine aG ?_
  refine aE ?_
  obtain ⟨x4, h5, h⟩ := bind_some h
  refine tr1 rfl (cF (aA rfl) rfl rfl cA.of (bP aC h5)) ?_
  refine tr1 rfl (iG (aA rfl) rfl eD (es := (aC x4)) rfl rfl) ?_
  refine bW rfl (iF (zs := [.lit (.int .i64 0), .lit (.int .i64 0), .lit (.int .i64 0), .lit (.int .i64 0), .lit (.bool false)]) (aA rfl) Try.zeroValue42 rfl rfl) ?_
  rintro _ ⟨b6, rfl⟩
  refine tr1 rfl (cJ (i := 0) rfl rfl rfl rfl rfl Try.sizeOf42 rfl (aA rfl) (Nat.le_of_ble_eq_true rfl) (ds' := (aC x4)) rfl) ?_
  refine aF ?_
  refine aE ?_
  refine tr1 rfl (aD (v := .d (.lit (.int .i64 n_0_1))) (aA rfl) rfl rfl) ?_
  refine tr1 rfl (aT (aA rfl) rfl rF) ?_
  refine tr1 rfl (aU (aA rfl) rfl (i := 0) rfl rfl bH) ?_
  refine tr1 rfl (aY (aA rfl) rfl rfl rfl) ?_
  refine tr1 rfl (aJ (v := .d (.lit (.int .i64 ((w64 (n_0_1 + x4.Points)))))) (aA rfl) rfl rfl) ?_
  refine eF ?_
  refine aE ?_
  refine tr1 rfl (aY (aA rfl) rfl rfl rfl) ?_
  refine tr1 rfl (aD (v := .d (.lit (.int .i64 ((w64 (t7_0_1 + 1)))))) (aA rfl) rfl rfl) ?_
  refine aF ?_
  exact ⟨(w64 (n_0_1 + x4.Points), w64 (t7_0_1 + 1)), h, aW [] rfl rfl (aN rfl (aN rfl (aX ⟨rfl, rfl, trivial⟩)))⟩
 ·have h := aP c3 h
  refine cY ?_
  refine .inl ⟨rfl, ?_⟩
  simp only [uH] at h
  refine aG ?_
  refine aE ?_
  refine tr1 rfl (aD (v := .d (.lit (.int .i64 n_0_1))) (aA rfl) rfl rfl) ?_
  refine tr1 rfl (aJ (v := .d (.lit (.int .i64 n_0_1))) (aA rfl) rfl rfl) ?_
  refine aF ?_
  have h := Option.some.inj h
  subst h
  exact bO ⟨rfl, _, .one _, rfl, rfl⟩

theorem yS (x : Int) {r : Int} (h : pK x = some r) : Fn Try.prog 101 [.d (.lit (.int .u64 x))] (.d (.lit (.int .i64 r))) := aFu (fun x w => Try.bits_Len x w) h

theorem nI (data_0 : List aZ) (a_1 : Int) (b_2 : Int) (cmp_3 : aZ → aZ → Option Int) {r : (List aZ)} {data_0_v : Value} (cmp_3_f : Nat) (cmp_3_v : List AV) (cmp_3_e : ∀ args w, (callFunc cmp_3_f args).run Try.prog w = .ok (.enter cmp_3_f args) w) (cmp_3_h : ∀ (x0 : aZ) (x1 : aZ) r, cmp_3 x0 x1 = some r → Fn Try.prog cmp_3_f ([.agg (bI x0), .agg (bI x1)] ++ cmp_3_v) (.d (.lit (.int .i64 r)))) (h : dG data_0 a_1 b_2 cmp_3 = some r) : fS Try.prog 118 [.d (.lit data_0_v), .d (.lit (.int .i64 a_1)), .d (.lit (.int .i64 b_2)), .fn cmp_3_f cmp_3_v] [.arr data_0_v 114 4 (data_0.map bI)] (fun r' o' => r' = .tup [] ∧ o' = [.arr data_0_v 114 4 (r.map bI)]) := by
 unfold dG at h
 refine iS Try.func118 rfl (rs := []) Try.results118 Try.ntmps118 (Nat.le_of_ble_eq_true rfl) ?_
 refine aG ?_
 refine aE ?_
 refine tr1 rfl (aD (v := .d (.lit (.int .i64 a_1))) (aA rfl) rfl rfl) ?_
 refine tr1 rfl (aY (aA rfl) rfl rfl rfl) ?_
 refine tr1 rfl (aJ (v := .d (.lit (.int .i64 ((w64 (a_1 + 1)))))) (aA rfl) rfl rfl) ?_
 refine aF ?_
 refine bT ?_
 refine cO [1, 2, 3] (fun (s1 : Int × (List aZ)) => [(0, .d (.lit data_0_v)), (8, .d (.lit (.int .i64 s1.1)))]) (fun (s1 : Int × (List aZ)) => [.arr data_0_v 114 4 (s1.2.map bI)]) (fun (k : Nat) (s1 : Int × (List aZ)) => cG a_1 b_2 cmp_3 k s1.1 s1.2) (fun _ => rfl) (w64 (a_1 + 1), data_0) h (aW [0] rfl rfl (aN rfl (aN rfl (aX ⟨rfl, rfl, rfl, trivial⟩)))) ?_
 rintro k2 ⟨i_0_1, data_0_1⟩ h
 simp only [cG] at h
 refine aG ?_
 refine aG ?_
 refine aE ?_
 refine tr1 rfl (aD (v := .d (.lit (.int .i64 i_0_1))) (aA rfl) rfl rfl) ?_
 refine tr1 rfl (aD (v := .d (.lit (.int .i64 b_2))) (aA rfl) rfl rfl) ?_
 refine tr1 rfl (bC (aA rfl) rfl rfl rfl) ?_
 refine aF ?_
 refine bN rfl (fun c3 => ?_) (fun c3 => ?_)
 ·have h := aQ c3 h
  refine bJ ?_
  refine aG ?_
  refine bT ?_
  refine aG ?_
  refine aE ?_
  refine tr1 rfl (aD (v := .d (.lit (.int .i64 i_0_1))) (aA rfl) rfl rfl) ?_
  refine tr1 rfl (aJ (v := .d (.lit (.int .i64 i_0_1))) (aA rfl) rfl rfl) ?_
  refine aF ?_
  refine xK ?_
  refine cO [1, 2, 3, 8] (fun (s4 : Int × (List aZ)) => [(0, .d (.lit data_0_v)), (9, .d (.lit (.int .i64 s4.1)))]) (fun (s4 : Int × (List aZ)) => [.arr data_0_v 114 4 (s4.2.map bI)]) (fun (k : Nat) (s4 : Int × (List aZ)) => cT (cG a_1 b_2 cmp_3 k2) a_1 b_2 cmp_3 i_0_1 k s4.1 s4.2) (fun _ => rfl) (i_0_1, data_0_1) h (aW [0] rfl rfl (aN rfl (aN rfl (aX ⟨rfl, rfl, rfl, rfl, trivial⟩)))) ?_
  rintro k5 ⟨j_2_4, data_2_4⟩ h
  simp only [cT] at h
  refine aG ?_
  refine aG ?_
  obtain ⟨b6, h7, h⟩ := bind_some h
  refine hZ mix 17 [0, 1, 2, 3, 8, 9] [(34, .d (.lit (.bool b6)))] ?_ ?_
  ·refine bG (decide (a_1 < j_2_4)) (fun c8 => ?_) (fun c8 => ?_)
   ·have h7 := aQ c8 h7
    obtain ⟨x9, h10, h7⟩ := bind_some h7
    obtain ⟨x11, h12, h7⟩ := bind_some h7
    obtain ⟨r13, h14, h7⟩ := bind_some h7
    have h7 := Option.some.inj h7
    subst h7
    refine ⟨[(18, 0, .d (.lit (.int .i64 j_2_4))), (19, 1, .d (.lit (.int .i64 a_1))), (20, 2, .d (.lit (.bool ((decide (a_1 < j_2_4)))))), (21, 3, .d (.lit (.bool ((decide (a_1 < j_2_4)))))), (22, 4, .fn cmp_3_f cmp_3_v), (23, 5, .d (.lit data_0_v)), (24, 6, .d (.lit (.int .i64 j_2_4))), (25, 7, .ep data_0_v 4 j_2_4.toNat 0), (26, 8, .agg (bI x9)), (27, 9, .d (.lit data_0_v)), (28, 10, .d (.lit (.int .i64 j_2_4))), (29, 11, .d (.lit (.int .i64 ((w64 (j_2_4 - 1)))))), (30, 12, .ep data_0_v 4 (w64 (j_2_4 - 1)).toNat 0), (31, 13, .agg (bI x11)), (32, 14, .d (.lit (.int .i64 r13))), (33, 15, .d (.lit (.bool ((decide (r13 < 0)))))), (34, 16, .d (.lit (.bool ((decide (r13 < 0))))))], ?_, ?_⟩
    · exact ⟨by kernel_rfl, by kernel_rfl, by kernel_rfl, by kernel_rfl, by kernel_rfl, [([], []), ([], []), ([0, 1], []), ([2], []), ([3], []), ([3], []), ([3], []), ([3, 5, 6], []), ([3, 7], []), ([3], []), ([3], []), ([3, 10], []), ([3, 9, 11], []), ([3, 12], []), ([3, 4, 8, 13], []), ([3, 14], []), ([3, 15], [])], by kernel_rfl, ⟨fun S hS => aI rfl (aO rfl (aD (v := .d (.lit (.int .i64 j_2_4))) (aA rfl) (aH hS rfl) rfl)),
      fun S hS => aI rfl (aO rfl (aD (v := .d (.lit (.int .i64 a_1))) (aA rfl) (aH hS rfl) rfl)),
      fun S hS => aI rfl (aO rfl (bC (aA rfl) (aH hS rfl) (aH hS rfl) rfl)),
      fun S hS => aI rfl (aO rfl (aD (v := .d (.lit (.bool ((decide (a_1 < j_2_4)))))) (aA rfl) (aH hS rfl) rfl)),
      fun S hS => aI rfl (bE rfl rfl (aA rfl) (aR hS rfl) c8 (aD (v := .fn cmp_3_f cmp_3_v) (aA rfl) (aH hS rfl) rfl)),
      fun S hS => aI rfl (bE rfl rfl (aA rfl) (aR hS rfl) c8 (aD (v := .d (.lit data_0_v)) (aA rfl) (aH hS rfl) rfl)),
      fun S hS => aI rfl (bE rfl rfl (aA rfl) (aR hS rfl) c8 (aD (v := .d (.lit (.int .i64 j_2_4))) (aA rfl) (aH hS rfl) rfl)),
      fun S hS => aI rfl (bE rfl rfl (aA rfl) (aR hS rfl) c8 (cC (m := 0) (aA rfl) (aH hS rfl) rfl (aH hS rfl) oK.of (bP bI h10))),
      fun S hS => aI rfl (bE rfl rfl (aA rfl) (aR hS rfl) c8 (dC (aA rfl) (aH hS rfl) (l := 0) rfl (dW bI h10) sQ (es := (bI x9)) rfl rfl)),
      fun S hS => aI rfl (bE rfl rfl (aA rfl) (aR hS rfl) c8 (aD (v := .d (.lit data_0_v)) (aA rfl) (aH hS rfl) rfl)),
      fun S hS => aI rfl (bE rfl rfl (aA rfl) (aR hS rfl) c8 (aD (v := .d (.lit (.int .i64 j_2_4))) (aA rfl) (aH hS rfl) rfl)),
      fun S hS => aI rfl (bE rfl rfl (aA rfl) (aR hS rfl) c8 (aY (aA rfl) (aH hS rfl) rfl rfl)),
      fun S hS => aI rfl (bE rfl rfl (aA rfl) (aR hS rfl) c8 (cC (m := 0) (aA rfl) (aH hS rfl) rfl (aH hS rfl) oK.of (bP bI h12))),
      fun S hS => aI rfl (bE rfl rfl (aA rfl) (aR hS rfl) c8 (dC (aA rfl) (aH hS rfl) (l := 0) rfl (dW bI h12) sQ (es := (bI x11)) rfl rfl)),
      fun S hS => aI rfl (bE rfl rfl (aA rfl) (aR hS rfl) c8 (bZ (aA rfl) (.clo _ _ _ _ cmp_3_e (aR hS rfl)) (tB (ev2 (aH hS rfl) (ev2 (aH hS rfl) evn))) rfl (BVs.refl _ _) (cmp_3_h _ _ _  h14) rfl)),
      fun S hS => aI rfl (bE rfl rfl (aA rfl) (aR hS rfl) c8 (bC (aA rfl) (aH hS rfl) rfl rfl)),
      fun S hS => aI rfl (aO rfl (bM (v := .d (.lit (.bool ((decide (r13 < 0)))))) (aA rfl) (aH hS rfl) c8 (aH hS rfl) rfl)), trivial⟩⟩
    · exact eE (aN rfl (aX ⟨rfl, rfl, rfl, rfl, rfl, rfl, trivial⟩))
   ·have h7 := aP c8 h7
    have h7 := Option.some.inj h7
    subst h7
    refine ⟨[(18, 0, .d (.lit (.int .i64 j_2_4))), (19, 1, .d (.lit (.int .i64 a_1))), (20, 2, .d (.lit (.bool ((decide (a_1 < j_2_4)))))), (21, 3, .d (.lit (.bool ((decide (a_1 < j_2_4)))))), (22, 4, .tup []), (23, 5, .tup []), (24, 6, .tup []), (25, 7, .tup []), (26, 8, .tup []), (27, 9, .tup []), (28, 10, .tup []), (29, 11, .tup []), (30, 12, .tup []), (31, 13, .tup []), (32, 14, .tup []), (33, 15, .tup []), (34, 16, .d (.lit (.bool false)))], ?_, ?_⟩
    · exact ⟨by kernel_rfl, by kernel_rfl, by kernel_rfl, by kernel_rfl, by kernel_rfl, [([], []), ([], []), ([0, 1], []), ([2], []), ([3], []), ([3], []), ([3], []), ([3, 5, 6], []), ([3, 7], []), ([3], []), ([3], []), ([3, 10], []), ([3, 9, 11], []), ([3, 12], []), ([3, 4, 8, 13], []), ([3, 14], []), ([3, 15], [])], by kernel_rfl, ⟨fun S hS => aI rfl (aO rfl (aD (v := .d (.lit (.int .i64 j_2_4))) (aA rfl) (aH hS rfl) rfl)),
      fun S hS => aI rfl (aO rfl (aD (v := .d (.lit (.int .i64 a_1))) (aA rfl) (aH hS rfl) rfl)),
      fun S hS => aI rfl (aO rfl (bC (aA rfl) (aH hS rfl) (aH hS rfl) rfl)),
      fun S hS => aI rfl (aO rfl (aD (v := .d (.lit (.bool ((decide (a_1 < j_2_4)))))) (aA rfl) (aH hS rfl) rfl)),
      fun S hS => aI rfl (bD rfl rfl (aA rfl) rfl (aA rfl) (aR hS rfl) c8),
      fun S hS => aI rfl (bD rfl rfl (aA rfl) rfl (aA rfl) (aR hS rfl) c8),
      fun S hS => aI rfl (bD rfl rfl (aA rfl) rfl (aA rfl) (aR hS rfl) c8),
      fun S hS => aI rfl (bD rfl rfl (aA rfl) rfl (aA rfl) (aR hS rfl) c8),
      fun S hS => aI rfl (bD rfl rfl (aA rfl) rfl (aA rfl) (aR hS rfl) c8),
      fun S hS => aI rfl (bD rfl rfl (aA rfl) rfl (aA rfl) (aR hS rfl) c8),
      fun S hS => aI rfl (bD rfl rfl (aA rfl) rfl (aA rfl) (aR hS rfl) c8),
      fun S hS => aI rfl (bD rfl rfl (aA rfl) rfl (aA rfl) (aR hS rfl) c8),
      fun S hS => aI rfl (bD rfl rfl (aA rfl) rfl (aA rfl) (aR hS rfl) c8),
      fun S hS => aI rfl (bD rfl rfl (aA rfl) rfl (aA rfl) (aR hS rfl) c8),
      fun S hS => aI rfl (bD rfl rfl (aA rfl) rfl (aA rfl) (aR hS rfl) c8),
      fun S hS => aI rfl (bD rfl rfl (aA rfl) rfl (aA rfl) (aR hS rfl) c8),
      fun S hS => aI rfl (aO rfl (bL (v := .d (.lit (.bool false))) (aA rfl) (aH hS rfl) c8 rfl rfl)), trivial⟩⟩
    · exact eE (aN rfl (aX ⟨rfl, rfl, rfl, rfl, rfl, rfl, trivial⟩))
  ·refine aF ?_
   refine bN rfl (fun c15 => ?_) (fun c15 => ?_)
   ·have h := aQ c15 h
    refine bJ ?_
    refine aG ?_
    refine bT ?_
    obtain ⟨x17, h18, h⟩ := bind_some h
    obtain ⟨x19, h20, h⟩ := bind_some h
    obtain ⟨x21, h22, h⟩ := bind_some h
    refine mG mix 16 [0, 1, 2, 3, 8, 9] (fun X16 => [(39, .d (.lit data_0_v)), (41, .d (.lit (.int .i64 ((w64 (j_2_4 - 1)))))), (50, .agg (bI x19))]) (fun X16 => [.arr data_0_v 114 4 ((data_2_4.set j_2_4.toNat x17).map bI)]) ?_ ?_
    ·refine ⟨0, fun X16 => [(37, 0, .d (.lit data_0_v)), (38, 1, .d (.lit (.int .i64 j_2_4))), (39, 2, .d (.lit data_0_v)), (40, 3, .d (.lit (.int .i64 j_2_4))), (41, 4, .d (.lit (.int .i64 ((w64 (j_2_4 - 1)))))), (42, 5, .d (.lit data_0_v)), (43, 6, .d (.lit (.int .i64 j_2_4))), (44, 7, .d (.lit (.int .i64 ((w64 (j_2_4 - 1)))))), (45, 8, .ep data_0_v 4 (w64 (j_2_4 - 1)).toNat 0), (46, 9, .agg (bI x17)), (47, 10, .d (.lit data_0_v)), (48, 11, .d (.lit (.int .i64 j_2_4))), (49, 12, .ep data_0_v 4 j_2_4.toNat 0), (50, 13, .agg (bI x19)), (51, 14, .ep data_0_v 4 j_2_4.toNat 0)], fun X16 => [([(15, .arr data_0_v 114 4 ((data_2_4.set j_2_4.toNat x17).map bI))], .arr data_0_v 114 4 (data_2_4.map bI))], ?_, ?_⟩
     · exact ⟨by kernel_rfl, by kernel_rfl, by kernel_rfl, fun _ => by kernel_rfl, fun _ => by kernel_rfl, fun _ => by kernel_rfl, fun _ => rfl, [([], [15]), ([], [15]), ([], []), ([], []), ([3], []), ([], [15]), ([], [15]), ([6], [15]), ([5, 7], [15]), ([8], [15]), ([], [15]), ([], [15]), ([10, 11], [15]), ([12], [15]), ([0, 1], [15]), ([9, 14], [])], by kernel_rfl, ⟨fun X16 S hw hi hS => bK (X := X16) rfl (hw X16) rfl (aO rfl (aD (v := .d (.lit data_0_v)) (aA rfl) (aH hS rfl) rfl)),
      fun X16 S hw hi hS => bK (X := X16) rfl (hw X16) rfl (aO rfl (aD (v := .d (.lit (.int .i64 j_2_4))) (aA rfl) (aH hS rfl) rfl)),
      fun X16 S hw hi hS => bK (X := X16) rfl (hw X16) rfl (aO rfl (aD (v := .d (.lit data_0_v)) (aA rfl) (aH hS rfl) rfl)),
      fun X16 S hw hi hS => bK (X := X16) rfl (hw X16) rfl (aO rfl (aD (v := .d (.lit (.int .i64 j_2_4))) (aA rfl) (aH hS rfl) rfl)),
      fun X16 S hw hi hS => bK (X := X16) rfl (hw X16) rfl (aO rfl (aY (aA rfl) (aH hS rfl) rfl rfl)),
      fun X16 S hw hi hS => bK (X := X16) rfl (hw X16) rfl (aO rfl (aD (v := .d (.lit data_0_v)) (aA rfl) (aH hS rfl) rfl)),
      fun X16 S hw hi hS => bK (X := X16) rfl (hw X16) rfl (aO rfl (aD (v := .d (.lit (.int .i64 j_2_4))) (aA rfl) (aH hS rfl) rfl)),
      fun X16 S hw hi hS => bK (X := X16) rfl (hw X16) rfl (aO rfl (aY (aA rfl) (aH hS rfl) rfl rfl)),
      fun X16 S hw hi hS => bK (X := X16) rfl (hw X16) rfl (aO rfl (cC (m := 0) (aA rfl) (aH hS rfl) (og hS rfl rfl) (aH hS rfl) oK.of (bP bI h18))),
      fun X16 S hw hi hS => bK (X := X16) rfl (hw X16) rfl (aO rfl (dC (aA rfl) (aH hS rfl) (l := 0) (og hS rfl rfl) (dW bI h18) sQ (es := (bI x17)) rfl rfl)),
      fun X16 S hw hi hS => bK (X := X16) rfl (hw X16) rfl (aO rfl (aD (v := .d (.lit data_0_v)) (aA rfl) (aH hS rfl) rfl)),
      fun X16 S hw hi hS => bK (X := X16) rfl (hw X16) rfl (aO rfl (aD (v := .d (.lit (.int .i64 j_2_4))) (aA rfl) (aH hS rfl) rfl)),
      fun X16 S hw hi hS => bK (X := X16) rfl (hw X16) rfl (aO rfl (cC (m := 0) (aA rfl) (aH hS rfl) (og hS rfl rfl) (aH hS rfl) oK.of (bP bI h20))),
      fun X16 S hw hi hS => bK (X := X16) rfl (hw X16) rfl (aO rfl (dC (aA rfl) (aH hS rfl) (l := 0) (og hS rfl rfl) (dW bI h20) sQ (es := (bI x19)) rfl rfl)),
      fun X16 S hw hi hS => bK (X := X16) rfl (hw X16) rfl (aO rfl (cC (m := 0) (aA rfl) (aH hS rfl) (og hS rfl rfl) (aH hS rfl) oK.of (bP bI h22))),
      fun X16 S hw hi hS => qA (X := X16) hS rfl rfl rfl (p := 0) rfl rfl (aO rfl (iV (l := 0) (aH hS rfl) (og hS rfl rfl) (dW bI h22) (aH hS rfl) rfl rfl Try.sizeOf114 rfl (aA rfl) (Nat.le_of_ble_eq_true rfl) (rows' := ((data_2_4.set j_2_4.toNat x17)).map bI) (lZ _ _ _ _ rfl))), trivial⟩⟩
     · exact fun X16 => eE (aN rfl (aN rfl (aN rfl (aX ⟨rfl, rfl, rfl, rfl, rfl, rfl, trivial⟩))))
    ·intro X16
     obtain ⟨x23, h24, h⟩ := bind_some h
     refine tr1 rfl (cC (m := 0) (aA rfl) rfl rfl rfl oK.of (bP bI h24)) ?_
     refine tr1 rfl (iV (l := 0) rfl rfl (dW bI h24) rfl rfl rfl Try.sizeOf114 rfl (aA rfl) (Nat.le_of_ble_eq_true rfl) (rows' := (((data_2_4.set j_2_4.toNat x17).set (w64 (j_2_4 - 1)).toNat x19)).map bI) (lZ _ _ _ _ rfl)) ?_
     refine eF ?_
     refine aE ?_
     refine tr1 rfl (aD (v := .d (.lit (.int .i64 j_2_4))) (aA rfl) rfl rfl) ?_
     refine tr1 rfl (aY (aA rfl) rfl rfl rfl) ?_
     refine tr1 rfl (aJ (v := .d (.lit (.int .i64 ((w64 (j_2_4 - 1)))))) (aA rfl) rfl rfl) ?_
     refine aF ?_
     exact ⟨(w64 (j_2_4 - 1), ((data_2_4.set j_2_4.toNat x17).set (w64 (j_2_4 - 1)).toNat x19)), h, aW [0] rfl rfl (aN rfl (aN rfl (aX ⟨rfl, rfl, rfl, rfl, trivial⟩)))⟩
   ·have h := aP c15 h
    refine cY ?_
    refine .inl ⟨rfl, ?_⟩
    simp only [fB] at h
    simp only [fA] at h
    refine aE ?_
    refine tr1 rfl (aD (v := .d (.lit (.int .i64 i_0_1))) (aA rfl) rfl rfl) ?_
    refine tr1 rfl (aY (aA rfl) rfl rfl rfl) ?_
    refine tr1 rfl (aJ (v := .d (.lit (.int .i64 ((w64 (i_0_1 + 1)))))) (aA rfl) rfl rfl) ?_
    refine aF ?_
    exact ⟨(w64 (i_0_1 + 1), data_2_4), h, aW [0] rfl rfl (aN rfl (aN rfl (aX ⟨rfl, rfl, rfl, trivial⟩)))⟩
 ·have h := aP c3 h
  refine cY ?_
  refine .inl ⟨rfl, ?_⟩
  simp only [eZ] at h
  have h := Option.some.inj h
  subst h
  exact ⟨_, [.arr data_0_v 114 4 (data_0_1.map bI)], [], _, .none, .refl _, .same _, rfl, rfl⟩

theorem pH (data_0 : List aZ) (a_1 : Int) (b_2 : Int) (limit_3 : Int) (cmp_4 : aZ → aZ → Option Int) {r : (List aZ)} {data_0_v : Value} (cmp_4_f : Nat) (cmp_4_v : List AV) (cmp_4_e : ∀ args w, (callFunc cmp_4_f args).run Try.prog w = .ok (.enter cmp_4_f args) w) (cmp_4_h : ∀ (x0 : aZ) (x1 : aZ) r, cmp_4 x0 x1 = some r → Fn Try.prog cmp_4_f ([.agg (bI x0), .agg (bI x1)] ++ cmp_4_v) (.d (.lit (.int .i64 r)))) (h : gI data_0 a_1 b_2 limit_3 cmp_4 = some r) : fS Try.prog 103 [.d (.lit data_0_v), .d (.lit (.int .i64 a_1)), .d (.lit (.int .i64 b_2)), .d (.lit (.int .i64 limit_3)), .fn cmp_4_f cmp_4_v] [.arr data_0_v 114 4 (data_0.map bI)] (fun r' o' => r' = .tup [] ∧ o' = [.arr data_0_v 114 4 (r.map bI)]) := by
 unfold gI at h
 refine iS Try.func103 rfl (rs := []) Try.results103 Try.ntmps103 (Nat.le_of_ble_eq_true rfl) ?_
 refine aG ?_
 refine aE ?_
 refine tr1 rfl (aJ (v := .d (.lit (.bool true))) (aA rfl) rfl rfl) ?_
 refine aF ?_
 refine aG ?_
 refine aE ?_
 refine tr1 rfl (aJ (v := .d (.lit (.bool true))) (aA rfl) rfl rfl) ?_
 refine aF ?_
 refine bT ?_
 refine cO [4] (fun (s1 : Int × Int × Int × Bool × Bool × (List aZ)) => [(0, .d (.lit data_0_v)), (1, .d (.lit (.int .i64 s1.1))), (2, .d (.lit (.int .i64 s1.2.1))), (3, .d (.lit (.int .i64 s1.2.2.1))), (10, .d (.lit (.bool s1.2.2.2.1))), (11, .d (.lit (.bool s1.2.2.2.2.1)))]) (fun (s1 : Int × Int × Int × Bool × Bool × (List aZ)) => [.arr data_0_v 114 4 (s1.2.2.2.2.2.map bI)]) (fun (k : Nat) (s1 : Int × Int × Int × Bool × Bool × (List aZ)) => fV cmp_4 k s1.1 s1.2.1 s1.2.2.1 s1.2.2.2.1 s1.2.2.2.2.1 s1.2.2.2.2.2) (fun _ => rfl) (a_1, b_2, limit_3, true, true, data_0) h (aW [0] rfl rfl (aN rfl (aN rfl (aN rfl (aN rfl (aN rfl (aN rfl (aX ⟨rfl, trivial⟩)))))))) ?_
 rintro k2 ⟨a_0_1, b_0_1, limit_0_1, wasBalanced_0_1, wasPartitioned_0_1, data_0_1⟩ h
 simp only [fV] at h
 refine bT ?_
 refine aG ?_
 refine aE ?_
 refine tr1 rfl (aD (v := .d (.lit (.int .i64 b_0_1))) (aA rfl) rfl rfl) ?_
 refine tr1 rfl (aD (v := .d (.lit (.int .i64 a_0_1))) (aA rfl) rfl rfl) ?_
 refine tr1 rfl (aY (aA rfl) rfl rfl rfl) ?_
 refine tr1 rfl (aJ (v := .d (.lit (.int .i64 ((w64 (b_0_1 - a_0_1)))))) (aA rfl) rfl rfl) ?_
 refine aF ?_
 refine aG ?_
 refine aG ?_
 refine aE ?_
 refine tr1 rfl (aD (v := .d (.lit (.int .i64 ((w64 (b_0_1 - a_0_1)))))) (aA rfl) rfl rfl) ?_
 refine tr1 rfl (bC (aA rfl) rfl rfl rfl) ?_
 refine aF ?_
 refine bN rfl (fun c3 => ?_) (fun c3 => ?_)
 ·have h := aQ c3 h
  refine aG ?_
  refine aE ?_
  refine tr1 rfl (aD (v := .d (.lit data_0_v)) (aA rfl) rfl rfl) ?_
  refine tr1 rfl (aD (v := .d (.lit (.int .i64 a_0_1))) (aA rfl) rfl rfl) ?_
  refine tr1 rfl (aD (v := .d (.lit (.int .i64 b_0_1))) (aA rfl) rfl rfl) ?_
  refine tr1 rfl (aD (v := .fn cmp_4_f cmp_4_v) (aA rfl) rfl rfl) ?_
  obtain ⟨r4, h5, h⟩ := bind_some h
  refine bW rfl (dM (passed := [.arr data_0_v 114 4 (data_0_1.map bI)]) (aA rfl) rfl (.func _ _ Try.call118) rfl rfl (nI data_0_1 a_0_1 b_0_1 cmp_4 cmp_4_f cmp_4_v cmp_4_e cmp_4_h h5)) ?_
  rintro _ ⟨_, _, ⟨rfl, rfl⟩, rfl⟩
  refine aF ?_
  have h := Option.some.inj h
  subst h
  exact bO ⟨rfl, _, [.arr data_0_v 114 4 (r4.map bI)], [], _, .none, .refl _, .same _, rfl, rfl⟩
 ·have h := aP c3 h
  refine bJ ?_
  refine aG ?_
  refine aG ?_
  cases h

theorem sB (x_0 : List aZ) (cmp_1 : aZ → aZ → Option Int) {r : (List aZ)} {x_0_v : Value} (cmp_1_f : Nat) (cmp_1_v : List AV) (cmp_1_e : ∀ args w, (callFunc cmp_1_f args).run Try.prog w = .ok (.enter cmp_1_f args) w) (cmp_1_h : ∀ (x0 : aZ) (x1 : aZ) r, cmp_1 x0 x1 = some r → Fn Try.prog cmp_1_f ([.agg (bI x0), .agg (bI x1)] ++ cmp_1_v) (.d (.lit (.int .i64 r)))) (h : gU x_0 cmp_1 = some r) : fS Try.prog 87 [.d (.lit x_0_v), .fn cmp_1_f cmp_1_v] [.arr x_0_v 114 4 (x_0.map bI)] (fun r' o' => r' = .tup [] ∧ o' = [.arr x_0_v 114 4 (r.map bI)]) := by
 unfold gU at h
 refine iS Try.func87 rfl (rs := []) Try.results87 Try.ntmps87 (Nat.le_of_ble_eq_true rfl) ?_
 refine aG ?_
 refine aE ?_
 refine tr1 rfl (aD (v := .d (.lit x_0_v)) (aA rfl) rfl rfl) ?_
 refine tr1 rfl (lB (m := 0) (aA rfl) rfl rfl oK.of) ?_
 refine tr1 rfl (aJ (v := .d (.lit (.int .i64 ((x_0.length : Int))))) (aA rfl) rfl rfl) ?_
 refine aF ?_
 refine aE ?_
 refine tr1 rfl (aD (v := .d (.lit x_0_v)) (aA rfl) rfl rfl) ?_
 refine tr1 rfl (aD (v := .d (.lit (.int .i64 ((x_0.length : Int))))) (aA rfl) rfl rfl) ?_
 refine tr1 rfl (aD (v := .d (.lit (.int .i64 ((x_0.length : Int))))) (aA rfl) rfl rfl) ?_
 refine tr1 rfl (oJ (aA rfl) rfl Try.runUnderlying3 Try.runUnderlying127) ?_
 obtain ⟨r1, h2, h⟩ := bind_some h
 refine tr1 rfl (bZ (aA rfl) (.func _ _ Try.call101) rfl rfl (BVs.refl _ _) (yS _ h2) rfl) ?_
 refine tr1 rfl (aD (v := .fn cmp_1_f cmp_1_v) (aA rfl) rfl rfl) ?_
 obtain ⟨r3, h4, h⟩ := bind_some h
 refine bW rfl (dM (passed := [.arr x_0_v 114 4 (x_0.map bI)]) (aA rfl) rfl (.func _ _ Try.call103) rfl rfl (pH x_0 0 (x_0.length : Int) r1 cmp_1 cmp_1_f cmp_1_v cmp_1_e cmp_1_h h4)) ?_
 rintro _ ⟨_, _, ⟨rfl, rfl⟩, rfl⟩
 refine aF ?_
 have h := Option.some.inj h
 subst h
 exact ⟨_, [.arr x_0_v 114 4 (r3.map bI)], [], _, .none, .refl _, .same _, rfl, rfl⟩

theorem vY (x_0 : aZ) (y_1 : aZ) {r : Int} (h : jM x_0 y_1 = some r) : Fn Try.prog 88 [.agg (bI x_0), .agg (bI y_1)] (.d (.lit (.int .i64 r))) := by
 unfold jM at h
 refine Fn.of_tr Try.func88 rfl (rs := [.tmp 4]) Try.results88 Try.ntmps88 (Nat.le_of_ble_eq_true rfl) ?_
 refine aG ?_
 refine aE ?_
 refine bW rfl (fU (v := .agg (bI x_0)) (aA rfl) rfl rfl rfl) ?_
 rintro _ ⟨b1, rfl⟩
 refine bW rfl (fU (v := .agg (bI y_1)) (aA rfl) rfl rfl rfl) ?_
 rintro _ ⟨b2, rfl⟩
 refine tr1 rfl (aJ (v := .d (.lit (.int .i64 0))) (aA rfl) rfl rfl) ?_
 refine aF ?_
 refine aG ?_
 refine aE ?_
 refine tr1 rfl (aT (aA rfl) rfl zW) ?_
 refine tr1 rfl (aU (aA rfl) rfl (i := 1) rfl rfl bH) ?_
 refine tr1 rfl (aT (aA rfl) rfl zW) ?_
 refine tr1 rfl (aU (aA rfl) rfl (i := 0) rfl rfl bH) ?_
 refine tr1 rfl (aY (aA rfl) rfl rfl rfl) ?_
 refine tr1 rfl (aT (aA rfl) rfl tT) ?_
 refine tr1 rfl (aU (aA rfl) rfl (i := 1) rfl rfl bH) ?_
 refine tr1 rfl (aT (aA rfl) rfl tT) ?_
 refine tr1 rfl (aU (aA rfl) rfl (i := 0) rfl rfl bH) ?_
 refine tr1 rfl (aY (aA rfl) rfl rfl rfl) ?_
 refine tr1 rfl (aT (aA rfl) rfl zX) ?_
 refine tr1 rfl (aU (aA rfl) rfl (i := 0) rfl rfl bH) ?_
 refine tr1 rfl (aT (aA rfl) rfl zX) ?_
 refine tr1 rfl (aU (aA rfl) rfl (i := 1) rfl rfl bH) ?_
 refine tr1 rfl (aY (aA rfl) rfl rfl rfl) ?_
 refine tr1 rfl (aT (aA rfl) rfl wL) ?_
 refine tr1 rfl (aU (aA rfl) rfl (i := 0) rfl rfl bH) ?_
 refine tr1 rfl (aT (aA rfl) rfl wL) ?_
 refine tr1 rfl (aU (aA rfl) rfl (i := 1) rfl rfl bH) ?_
 refine tr1 rfl (aY (aA rfl) rfl rfl rfl) ?_
 refine tr1 rfl (jX (aA rfl) fE rfl rfl (rows := ([w64 (y_1.points - x_0.points), w64 (y_1.musts - x_0.musts), w64 (x_0.many - y_1.many), w64 (x_0.player - y_1.player)]).map cK) rfl (eA (f := cK) fun _ => rfl) rfl (by decide)) ?_
 obtain ⟨r3, h4, h⟩ := bind_some h
 refine tr1 rfl (bZ (aA rfl) (.func _ _ Try.call99) rfl rfl (BVs.refl _ _) (wF _ h4) rfl) ?_
 refine tr1 rfl (aJ (v := .d (.lit (.int .i64 r3))) (aA rfl) rfl rfl) ?_
 refine aF ?_
 have h := Option.some.inj h
 subst h
 refine cU (cH (cN (l := [4]) ⟨rfl, trivial⟩)) ?_
 exact bO ⟨rfl, _, .one _, rfl, rfl⟩

theorem tI (b_0 : bQ) (week_1 : Int) {r : (List Int)} (h : fX b_0 week_1 = some r) : Fn Try.prog 59 [.cp (cB b_0), .d (.lit (.int .i64 week_1))] (.d (.sl 1 (r.map cK))) := by
 unfold fX at h
 refine Fn.of_tr Try.func59 rfl (rs := [.tmp 4]) Try.results59 Try.ntmps59 (Nat.le_of_ble_eq_true rfl) ?_
 refine aG ?_
 refine aE ?_
 refine tr1 rfl (vJ 1 (aA rfl)) ?_
 refine aF ?_
 refine aG ?_
 refine aE ?_
 refine tr1 rfl (jN 114 4 (.inl rfl) (aA rfl)) ?_
 refine aF ?_
 refine aG ?_
 refine aG ?_
 refine aE ?_
 refine tr1 rfl (aD (v := .cp [.lit (.int .i64 b_0.Ledger.Players), .lit (.int .i64 b_0.Ledger.Counts), .sl 5 (b_0.Ledger.Reports.map aC), .sl 3 (b_0.Ledger.Bans.map aK), .sl 3 (b_0.Ledger.Frozen.map aK)]) (aA rfl) rfl rfl) ?_
 refine tr1 rfl (oS (aA rfl) rfl) ?_
 refine tr1 rfl (cQ (aA rfl) rfl iJ (es := [.lit (.int .i64 b_0.Ledger.Players), .lit (.int .i64 b_0.Ledger.Counts), .sl 5 (b_0.Ledger.Reports.map aC), .sl 3 (b_0.Ledger.Bans.map aK), .sl 3 (b_0.Ledger.Frozen.map aK)]) rfl) ?_
 refine tr1 rfl (cQ (aA rfl) rfl jC (es := [.lit (.int .i64 b_0.Ledger.Players)]) rfl) ?_
 refine tr1 rfl (cI (aA rfl) rfl bH) ?_
 refine tr1 rfl (aD (v := .d (.lit (.int .i64 0))) (aA rfl) rfl rfl) ?_
 refine aF ?_
 refine bT ?_
 refine cO [0, 1, 18] (fun (s2 : Int × (List aZ) × Value) => [(5, .d (.lit s2.2.2)), (19, .d (.lit (.int .i64 s2.1)))]) (fun (s2 : Int × (List aZ) × Value) => [.arr s2.2.2 114 4 (s2.2.1.map bI)]) (fun (k : Nat) (s2 : Int × (List aZ) × Value) => eW b_0 week_1 b_0.Ledger.Players k s2.1 s2.2.1) (fun _ => rfl) (0, ([] : List aZ), (.slice none 0 0)) h (aW [0] rfl rfl (aN rfl (aN rfl (aX ⟨rfl, rfl, rfl, trivial⟩)))) ?_
 rintro k4 ⟨t19_0_2, lines_0_2, w3⟩ h
 simp only [eW] at h
 refine aG ?_
 refine aE ?_
 refine tr1 rfl (bC (aA rfl) rfl rfl rfl) ?_
 refine aF ?_
 refine aG ?_
 refine bN rfl (fun c5 => ?_) (fun c5 => ?_)
 ·have h := aQ c5 h
  refine bJ ?_
  refine aG ?_
  refine bT ?_
  refine aG ?_
  refine aE ?_
  refine tr1 rfl (aD (v := .d (.lit (.int .i64 t19_0_2))) (aA rfl) rfl rfl) ?_
  refine tr1 rfl (aJ (v := .d (.lit (.int .i64 t19_0_2))) (aA rfl) rfl rfl) ?_
  refine aF ?_
  refine aG ?_
  refine aE ?_
  refine tr1 rfl (aD (v := .cp [.lit (.int .i64 b_0.Ledger.Players), .lit (.int .i64 b_0.Ledger.Counts), .sl 5 (b_0.Ledger.Reports.map aC), .sl 3 (b_0.Ledger.Bans.map aK), .sl 3 (b_0.Ledger.Frozen.map aK)]) (aA rfl) rfl rfl) ?_
  refine tr1 rfl (aD (v := .d (.lit (.int .i64 t19_0_2))) (aA rfl) rfl rfl) ?_
  refine tr1 rfl (aD (v := .d (.lit (.int .i64 week_1))) (aA rfl) rfl rfl) ?_
  obtain ⟨r6, h7, h⟩ := bind_some h
  refine tr1 rfl (oR (aA rfl) (.func _ _ Try.call72) rfl rfl (sH _ _ _ h7)) ?_
  refine tr1 rfl (aJ (v := .d (.sl 5 (r6.map aC))) (aA rfl) rfl rfl) ?_
  refine aF ?_
  refine aG ?_
  refine aG ?_
  refine aE ?_
  refine tr1 rfl (aD (v := .cp [.lit (.int .i64 b_0.Ledger.Players), .lit (.int .i64 b_0.Ledger.Counts), .sl 5 (b_0.Ledger.Reports.map aC), .sl 3 (b_0.Ledger.Bans.map aK), .sl 3 (b_0.Ledger.Frozen.map aK)]) (aA rfl) rfl rfl) ?_
  refine tr1 rfl (oS (aA rfl) rfl) ?_
  refine tr1 rfl (cQ (aA rfl) rfl iJ (es := [.lit (.int .i64 b_0.Ledger.Players), .lit (.int .i64 b_0.Ledger.Counts), .sl 5 (b_0.Ledger.Reports.map aC), .sl 3 (b_0.Ledger.Bans.map aK), .sl 3 (b_0.Ledger.Frozen.map aK)]) rfl) ?_
  refine tr1 rfl (cQ (aA rfl) rfl rC (es := [.sl 3 (b_0.Ledger.Bans.map aK)]) rfl) ?_
  refine tr1 rfl (cI (aA rfl) rfl lQ) ?_
  refine tr1 rfl (aD (v := .d (.lit (.int .i64 t19_0_2))) (aA rfl) rfl rfl) ?_
  refine tr1 rfl (aD (v := .d (.lit (.int .i64 week_1))) (aA rfl) rfl rfl) ?_
  obtain ⟨r8, h9, h⟩ := bind_some h
  refine tr1 rfl (bZ (aA rfl) (.func _ _ Try.call48) rfl rfl (BVs.refl _ _) (uG _ _ _ h9) rfl) ?_
  refine tr1 rfl (aD (v := .d (.lit (.bool r8))) (aA rfl) rfl rfl) ?_
  obtain ⟨b10, h11, h⟩ := bind_some h
  refine bR 4 [0, 1, 5, 6, 7, 18, 19] 38 b10 ?_ ?_
  ·refine bG (r8) (fun c28 => ?_) (fun c28 => ?_)
   ·have h11 := aQ c28 h11
    refine aM rfl rfl (aA rfl) rfl (aA rfl) rfl c28 ?_
    refine aM rfl rfl (aA rfl) rfl (aA rfl) rfl c28 ?_
    refine aM rfl rfl (aA rfl) rfl (aA rfl) rfl c28 ?_
    refine tr1 rfl (bM (v := .d (.lit (.bool true))) (aA rfl) rfl c28 rfl rfl) ?_
    have h11 := Option.some.inj h11
    subst h11
    refine aF (aV rfl ⟨rfl, rfl, rfl, rfl, rfl, rfl, rfl, trivial⟩ rfl)
   ·have h11 := aP c28 h11
    refine aL rfl rfl (aA rfl) rfl c28 (aD (v := .d (.sl 5 (r6.map aC))) (aA rfl) rfl rfl) ?_
    refine aL rfl rfl (aA rfl) rfl c28 (eB (aA rfl) rfl cA.of) ?_
    refine aL rfl rfl (aA rfl) rfl c28 (bC (aA rfl) rfl rfl rfl) ?_
    refine tr1 rfl (bL (v := .d (.lit (.bool ((decide ((r6.length : Int) = 0)))))) (aA rfl) rfl c28 rfl rfl) ?_
    have h11 := Option.some.inj h11
    subst h11
    refine aF (aV rfl ⟨rfl, rfl, rfl, rfl, rfl, rfl, rfl, trivial⟩ rfl)
  ·refine aF ?_
   refine bN rfl (fun c12 => ?_) (fun c12 => ?_)
   ·have h := aQ c12 h
    refine cY ?_
    refine .inl ⟨rfl, ?_⟩
    simp only [jK] at h
    refine aE ?_
    refine tr1 rfl (aY (aA rfl) rfl rfl rfl) ?_
    refine tr1 rfl (aD (v := .d (.lit (.int .i64 ((w64 (t19_0_2 + 1)))))) (aA rfl) rfl rfl) ?_
    refine aF ?_
    exact ⟨(w64 (t19_0_2 + 1), lines_0_2, w3), h, aW [0] rfl rfl (aN rfl (aN rfl (aX ⟨rfl, rfl, rfl, trivial⟩)))⟩
   ·have h := aP c12 h
    refine bJ ?_
    refine aG ?_
    refine aE ?_
    refine tr1 rfl (aD (v := .d (.lit (.int .i64 t19_0_2))) (aA rfl) rfl rfl) ?_
    refine tr1 rfl (aD (v := .cp [.lit (.int .i64 b_0.Ledger.Players), .lit (.int .i64 b_0.Ledger.Counts), .sl 5 (b_0.Ledger.Reports.map aC), .sl 3 (b_0.Ledger.Bans.map aK), .sl 3 (b_0.Ledger.Frozen.map aK)]) (aA rfl) rfl rfl) ?_
    refine tr1 rfl (aD (v := .d (.sl 5 (r6.map aC))) (aA rfl) rfl rfl) ?_
    obtain ⟨r13, h14, h⟩ := bind_some h
    refine tr1 rfl (oR (aA rfl) (.func _ _ Try.call71) rfl rfl (sJ _ _ h14)) ?_
    obtain ⟨r15, h16, h⟩ := bind_some h
    refine tr1 rfl (bZ (aA rfl) (.func _ _ Try.call86) rfl rfl (BVs.refl _ _) (yX _ h16) rfl) ?_
    refine tr1 rfl (aD (v := .d (.sl 5 (r6.map aC))) (aA rfl) rfl rfl) ?_
    refine tr1 rfl (eB (aA rfl) rfl cA.of) ?_
    refine tr1 rfl (lY (aA rfl) aGq (zs := [.lit (.int .i64 0), .lit (.int .i64 0), .lit (.int .i64 0), .lit (.int .i64 0)]) rfl rfl rfl rfl (es := [.lit (.int .i64 t19_0_2), .lit (.int .i64 r15), .lit (.int .i64 0), .lit (.int .i64 ((r6.length : Int)))]) rfl) ?_
    refine bW rfl (iF (zs := [.lit (.int .i64 0), .lit (.int .i64 0), .lit (.int .i64 0), .lit (.int .i64 0)]) (aA rfl) Try.zeroValue114 rfl rfl) ?_
    rintro _ ⟨b17, rfl⟩
    refine tr1 rfl (cJ (i := 1) rfl rfl rfl rfl rfl Try.sizeOf114 rfl (aA rfl) (Nat.le_of_ble_eq_true rfl) (ds' := (bI (aZ.mk t19_0_2 r15 0 (r6.length : Int)))) rfl) ?_
    refine aF ?_
    refine aG ?_
    refine aG ?_
    refine aE ?_
    refine tr1 rfl (aD (v := .d (.sl 5 (r6.map aC))) (aA rfl) rfl rfl) ?_
    refine tr1 rfl (eB (aA rfl) rfl cA.of) ?_
    refine tr1 rfl (aD (v := .d (.lit (.int .i64 0))) (aA rfl) rfl rfl) ?_
    refine aF ?_
    refine bT ?_
    refine cO [0, 1, 5, 8, 18, 19, 47, 48] (fun (s18 : Int × aZ) => [(49, .d (.lit (.int .i64 s18.1)))]) (fun (s18 : Int × aZ) => [.arr w3 114 4 (lines_0_2.map bI), .box b17 0 (bI s18.2)]) (fun (k : Nat) (s18 : Int × aZ) => gM (eW b_0 week_1 b_0.Ledger.Players k4) b_0 week_1 b_0.Ledger.Players t19_0_2 r6 (r6.length : Int) lines_0_2 k s18.1 s18.2) (fun _ => rfl) (0, (aZ.mk t19_0_2 r15 0 (r6.length : Int))) h (aW [0, 1] rfl rfl (aN rfl (aX ⟨rfl, rfl, rfl, rfl, rfl, rfl, rfl, rfl, trivial⟩))) ?_
    rintro k19 ⟨t49_2_18, x_2_18⟩ h
    simp only [gM] at h
    refine aG ?_
    refine aE ?_
    refine tr1 rfl (bC (aA rfl) rfl rfl rfl) ?_
    refine aF ?_
    refine aG ?_
    refine bN rfl (fun c20 => ?_) (fun c20 => ?_)
    ·have h := aQ c20 h
     refine bJ ?_
     refine aG ?_
     refine bT ?_
     refine aG ?_
     refine aE ?_
     obtain ⟨x21, h22, h⟩ := bind_some h
     refine tr1 rfl (cF (aA rfl) rfl rfl cA.of (bP aC h22)) ?_
     refine tr1 rfl (iG (aA rfl) rfl eD (es := (aC x21)) rfl rfl) ?_
     refine bW rfl (iF (zs := [.lit (.int .i64 0), .lit (.int .i64 0), .lit (.int .i64 0), .lit (.int .i64 0), .lit (.bool false)]) (aA rfl) Try.zeroValue42 rfl rfl) ?_
     rintro _ ⟨b23, rfl⟩
     refine tr1 rfl (cJ (i := 2) rfl rfl rfl rfl rfl Try.sizeOf42 rfl (aA rfl) (Nat.le_of_ble_eq_true rfl) (ds' := (aC x21)) rfl) ?_
     refine aF ?_
     refine aG ?_
     refine aE ?_
     refine tr1 rfl (aT (aA rfl) rfl oE) ?_
     refine tr1 rfl (aU (aA rfl) rfl (i := 2) rfl rfl rP) ?_
     refine aF ?_
     refine bN rfl (fun c24 => ?_) (fun c24 => ?_)
     ·have h := aQ c24 h
      refine aE ?_
      refine tr1 rfl (aT (aA rfl) rfl tT) ?_
      refine tr1 rfl (aU (aA rfl) rfl (i := 1) rfl rfl bH) ?_
      refine tr1 rfl (aT (aA rfl) rfl rF) ?_
      refine tr1 rfl (aU (aA rfl) rfl (i := 2) rfl rfl bH) ?_
      refine tr1 rfl (aY (aA rfl) rfl rfl rfl) ?_
      refine tr1 rfl (aT (aA rfl) rfl tT) ?_
      refine tr1 rfl (cJ (i := 1) rfl rfl rfl rfl rfl Try.sizeOf3 rfl (aA rfl) (Nat.le_of_ble_eq_true rfl) (ds' := (bI (aZ.mk x_2_18.player x_2_18.points (w64 (x_2_18.musts + x21.Points)) x_2_18.many))) rfl) ?_
      refine eF ?_
      refine aE ?_
      refine tr1 rfl (aY (aA rfl) rfl rfl rfl) ?_
      refine tr1 rfl (aD (v := .d (.lit (.int .i64 ((w64 (t49_2_18 + 1)))))) (aA rfl) rfl rfl) ?_
      refine aF ?_
      exact ⟨(w64 (t49_2_18 + 1), (aZ.mk x_2_18.player x_2_18.points (w64 (x_2_18.musts + x21.Points)) x_2_18.many)), h, aW [0, 1] rfl rfl (aN rfl (aX ⟨rfl, rfl, rfl, rfl, rfl, rfl, rfl, rfl, trivial⟩))⟩
     ·have h := aP c24 h
      refine fC ?_
      refine aE ?_
      refine tr1 rfl (aY (aA rfl) rfl rfl rfl) ?_
      refine tr1 rfl (aD (v := .d (.lit (.int .i64 ((w64 (t49_2_18 + 1)))))) (aA rfl) rfl rfl) ?_
      refine aF ?_
      exact ⟨(w64 (t49_2_18 + 1), x_2_18), h, aW [0, 1] rfl rfl (aN rfl (aX ⟨rfl, rfl, rfl, rfl, rfl, rfl, rfl, rfl, trivial⟩))⟩
    ·have h := aP c20 h
     refine cY ?_
     refine .inl ⟨rfl, ?_⟩
     simp only [mR] at h
     refine aE ?_
     refine tr1 rfl (aD (v := .d (.lit w3)) (aA rfl) rfl rfl) ?_
     refine tr1 rfl (dN (aA rfl) rfl (i := 1) rfl sQ (es := (bI x_2_18)) rfl rfl) ?_
     refine tr1 rfl (jX (aA rfl) oK rfl rfl (rows := ([x_2_18]).map bI) rfl (eA (f := bI) fun _ => rfl) rfl (by decide)) ?_
     obtain ⟨x25, h26, h⟩ := bind_some h
     refine bW rfl (pY (i := 0) (aA rfl) oK rfl rfl rfl (fun _ => rfl) h26 rfl) ?_
     rintro _ ⟨v27, rfl⟩
     refine tr1 rfl (aJ (v := .d (.lit v27)) (aA rfl) rfl rfl) ?_
     refine eF ?_
     simp only [jK] at h
     refine aE ?_
     refine tr1 rfl (aY (aA rfl) rfl rfl rfl) ?_
     refine tr1 rfl (aD (v := .d (.lit (.int .i64 ((w64 (t19_0_2 + 1)))))) (aA rfl) rfl rfl) ?_
     refine aF ?_
     exact ⟨(w64 (t19_0_2 + 1), x25, v27), h, aW [0] rfl rfl (aN rfl (aN rfl (aX ⟨rfl, rfl, rfl, trivial⟩)))⟩
 ·have h := aP c5 h
  refine cY ?_
  refine .inl ⟨rfl, ?_⟩
  simp only [kY] at h
  refine aG ?_
  refine aE ?_
  refine tr1 rfl (aD (v := .d (.lit w3)) (aA rfl) rfl rfl) ?_
  obtain ⟨r31, h32, h⟩ := bind_some h
  refine bW rfl (dM (passed := [.arr w3 114 4 (lines_0_2.map bI)]) (aA rfl) rfl (.func _ _ Try.call87) rfl rfl (sB lines_0_2 (fun y29 y30 => jM y29 y30) 88 [] Try.call88 (fun _ _ _ h => vY _ _ h) h32)) ?_
  rintro _ ⟨_, _, ⟨rfl, rfl⟩, rfl⟩
  refine aF ?_
  refine aG ?_
  refine aE ?_
  refine tr1 rfl (jN 3 1 (.inl rfl) (aA rfl)) ?_
  refine aF ?_
  refine aG ?_
  refine aG ?_
  refine aE ?_
  refine tr1 rfl (aD (v := .d (.lit w3)) (aA rfl) rfl rfl) ?_
  refine tr1 rfl (lB (m := 0) (aA rfl) rfl rfl oK.of) ?_
  refine tr1 rfl (aD (v := .d (.lit (.int .i64 0))) (aA rfl) rfl rfl) ?_
  refine aF ?_
  refine bT ?_
  refine cO [69, 70] (fun (s34 : Int × (List Int) × Value) => [(11, .d (.lit s34.2.2)), (71, .d (.lit (.int .i64 s34.1)))]) (fun (s34 : Int × (List Int) × Value) => [.arr w3 114 4 (r31.map bI), .arr s34.2.2 3 1 (s34.2.1.map cK)]) (fun (k : Nat) (s34 : Int × (List Int) × Value) => iK (r31.length : Int) r31 k s34.1 s34.2.1) (fun _ => rfl) (0, ([] : List Int), (.slice none 0 0)) h (aW [0, 1] rfl rfl (aN rfl (aN rfl (aX ⟨rfl, rfl, trivial⟩)))) ?_
  rintro k36 ⟨t71_4_34, out_4_34, w35⟩ h
  simp only [iK] at h
  refine aG ?_
  refine aE ?_
  refine tr1 rfl (bC (aA rfl) rfl rfl rfl) ?_
  refine aF ?_
  refine aG ?_
  refine bN rfl (fun c37 => ?_) (fun c37 => ?_)
  ·have h := aQ c37 h
   refine bJ ?_
   refine aG ?_
   refine bT ?_
   refine aG ?_
   refine aE ?_
   obtain ⟨x38, h39, h⟩ := bind_some h
   refine tr1 rfl (cC (m := 0) (aA rfl) rfl rfl rfl oK.of (bP bI h39)) ?_
   refine tr1 rfl (dC (aA rfl) rfl (l := 0) rfl (dW bI h39) sQ (es := (bI x38)) rfl rfl) ?_
   refine bW rfl (iF (zs := [.lit (.int .i64 0), .lit (.int .i64 0), .lit (.int .i64 0), .lit (.int .i64 0)]) (aA rfl) Try.zeroValue114 rfl rfl) ?_
   rintro _ ⟨b40, rfl⟩
   refine tr1 rfl (cJ (i := 2) rfl rfl rfl rfl rfl Try.sizeOf114 rfl (aA rfl) (Nat.le_of_ble_eq_true rfl) (ds' := (bI x38)) rfl) ?_
   refine aF ?_
   refine aE ?_
   refine tr1 rfl (aD (v := .d (.lit w35)) (aA rfl) rfl rfl) ?_
   refine tr1 rfl (aT (aA rfl) rfl wL) ?_
   refine tr1 rfl (aU (aA rfl) rfl (i := 2) rfl rfl bH) ?_
   refine tr1 rfl (jX (aA rfl) fE rfl rfl (rows := ([x38.player]).map cK) rfl (eA (f := cK) fun _ => rfl) rfl (by decide)) ?_
   obtain ⟨x41, h42, h⟩ := bind_some h
   refine bW rfl (pY (i := 1) (aA rfl) fE rfl rfl rfl (fun _ => rfl) h42 rfl) ?_
   rintro _ ⟨v43, rfl⟩
   refine tr1 rfl (aJ (v := .d (.lit v43)) (aA rfl) rfl rfl) ?_
   refine eF ?_
   refine aE ?_
   refine tr1 rfl (aY (aA rfl) rfl rfl rfl) ?_
   refine tr1 rfl (aD (v := .d (.lit (.int .i64 ((w64 (t71_4_34 + 1)))))) (aA rfl) rfl rfl) ?_
   refine aF ?_
   exact ⟨(w64 (t71_4_34 + 1), x41, v43), h, aW [0, 1] rfl rfl (aN rfl (aN rfl (aX ⟨rfl, rfl, trivial⟩)))⟩
  ·have h := aP c37 h
   refine cY ?_
   refine .inl ⟨rfl, ?_⟩
   simp only [oY] at h
   refine aG ?_
   refine aE ?_
   refine tr1 rfl (aD (v := .d (.lit w35)) (aA rfl) rfl rfl) ?_
   refine tr1 rfl (aJ (v := .d (.lit w35)) (aA rfl) rfl rfl) ?_
   refine aF ?_
   have h := Option.some.inj h
   subst h
   refine cU (cH (jH (k := 4) (v := .d (.sl 1 (out_4_34.map cK))) (.d (kI 1 rfl (eA (f := cK) fun _ => rfl))) (zG))) ?_
   exact bO ⟨rfl, _, .one _, rfl, rfl⟩

theorem aCd (l_0 : aS) (week_1 : Int) {r : (List Int) × Int} (h : wX l_0 week_1 = some r) : Fn Try.prog 27 [.agg (bA l_0), .d (.lit (.int .i64 week_1))] (.tup [.d (.sl 1 (r.1.map cK)), .d (.lit (.int .i64 r.2))]) := by
 unfold wX at h
 refine Fn.of_tr Try.func27 rfl (rs := [.tmp 4, .tmp 5]) Try.results27 Try.ntmps27 (Nat.le_of_ble_eq_true rfl) ?_
 refine aG ?_
 refine aE ?_
 refine bW rfl (fU (v := .agg (bA l_0)) (aA rfl) rfl rfl rfl) ?_
 rintro _ ⟨b1, rfl⟩
 refine tr1 rfl (vJ 1 (aA rfl)) ?_
 refine tr1 rfl (aJ (v := .d (.lit (.int .i64 0))) (aA rfl) rfl rfl) ?_
 refine aF ?_
 refine aG ?_
 refine aE ?_
 refine tr1 rfl (dN (aA rfl) rfl (i := 0) rfl iH (es := (bA l_0)) rfl rfl) ?_
 refine tr1 rfl (aD (v := .d (.lit (.int .i64 week_1))) (aA rfl) rfl rfl) ?_
 obtain ⟨r2, h3, h⟩ := bind_some h
 refine bW rfl (dM (passed := []) (aA rfl) rfl (.func _ _ Try.call44) rfl rfl (sN _ _ _ h3)) ?_
 rintro _ ⟨_, _, ⟨b5, w6, rfl, rfl⟩, rfl⟩
 obtain ⟨_ | y4, e7⟩ := r2
 ·have h := wU h
  refine fZ (aW [0] rfl rfl (le_refl _)) ?_
  refine tr1 rfl (aD (v := .tup [.d (.lit (.pointer none)), .d (.lit (.int .i64 e7))]) (aA rfl) rfl rfl) ?_
  refine tr1 rfl (cV (aA rfl) rfl rfl) ?_
  refine tr1 rfl (cV (aA rfl) rfl rfl) ?_
  refine tr1 rfl (aJ (v := .d (.lit (.pointer none))) (aA rfl) rfl rfl) ?_
  refine tr1 rfl (aJ (v := .d (.lit (.int .i64 e7))) (aA rfl) rfl rfl) ?_
  refine aF ?_
  refine aG ?_
  refine aG ?_
  refine aE ?_
  refine tr1 rfl (aD (v := .d (.lit (.int .i64 e7))) (aA rfl) rfl rfl) ?_
  refine tr1 rfl (bC (aA rfl) rfl rfl rfl) ?_
  refine aF ?_
  refine bN rfl (fun c8 => ?_) (fun c8 => ?_)
  ·have h := aQ c8 h
   refine aG ?_
   refine aE ?_
   refine tr1 rfl (aD (v := .d (.lit (.int .i64 e7))) (aA rfl) rfl rfl) ?_
   refine tr1 rfl (vJ 1 (aA rfl)) ?_
   refine tr1 rfl (aJ (v := .d (.lit (.int .i64 e7))) (aA rfl) rfl rfl) ?_
   refine aF ?_
   have h := Option.some.inj h
   subst h
   refine cU (cH (cN (l := [4, 5]) ⟨rfl, rfl, trivial⟩)) ?_
   exact bO ⟨rfl, _, .two _ _, rfl, rfl⟩
  ·have h := aP c8 h
   refine bJ ?_
   refine aG ?_
   refine aE ?_
   refine tr1 rfl (aD (v := .d (.lit (.pointer none))) (aA rfl) rfl rfl) ?_
   refine tr1 rfl (aD (v := .d (.lit (.int .i64 week_1))) (aA rfl) rfl rfl) ?_
   cases h
 ·have h := wV h
  refine fZ (aW [0, 1, 2] rfl rfl (le_refl _)) ?_
  refine tr1 rfl (aD (v := .tup [.bp b5 0 0, .d (.lit (.int .i64 e7))]) (aA rfl) rfl rfl) ?_
  refine tr1 rfl (cV (aA rfl) rfl rfl) ?_
  refine tr1 rfl (cV (aA rfl) rfl rfl) ?_
  refine tr1 rfl (aJ (v := .bp b5 0 0) (aA rfl) rfl rfl) ?_
  refine tr1 rfl (aJ (v := .d (.lit (.int .i64 e7))) (aA rfl) rfl rfl) ?_
  refine aF ?_
  refine aG ?_
  refine aG ?_
  refine aE ?_
  refine tr1 rfl (aD (v := .d (.lit (.int .i64 e7))) (aA rfl) rfl rfl) ?_
  refine tr1 rfl (bC (aA rfl) rfl rfl rfl) ?_
  refine aF ?_
  refine bN rfl (fun c9 => ?_) (fun c9 => ?_)
  ·have h := aQ c9 h
   refine aG ?_
   refine aE ?_
   refine tr1 rfl (aD (v := .d (.lit (.int .i64 e7))) (aA rfl) rfl rfl) ?_
   refine tr1 rfl (vJ 1 (aA rfl)) ?_
   refine tr1 rfl (aJ (v := .d (.lit (.int .i64 e7))) (aA rfl) rfl rfl) ?_
   refine aF ?_
   have h := Option.some.inj h
   subst h
   refine cU (cH (cN (l := [4, 5]) ⟨rfl, rfl, trivial⟩)) ?_
   exact bO ⟨rfl, _, .two _ _, rfl, rfl⟩
  ·have h := aP c9 h
   refine bJ ?_
   refine aG ?_
   refine aE ?_
   refine tr1 rfl (aD (v := .bp b5 0 0) (aA rfl) rfl rfl) ?_
   refine tr1 rfl (aD (v := .d (.lit (.int .i64 week_1))) (aA rfl) rfl rfl) ?_
   refine fZ (aW [2, 0, 1] rfl rfl (le_refl _)) ?_
   apply aDb [.box b1 0 (bA l_0)] [.box b5 0 [.lit (.int .i64 y4.Ledger.Players), .lit (.int .i64 y4.Ledger.Counts), .lit w6, .sl 3 (y4.Ledger.Bans.map aK), .sl 3 (y4.Ledger.Frozen.map aK)], .arr w6 42 5 (y4.Ledger.Reports.map aC)] rfl
   exact jH (k := 17) (v := .cp [.lit (.int .i64 y4.Ledger.Players), .lit (.int .i64 y4.Ledger.Counts), .sl 5 (y4.Ledger.Reports.map aC), .sl 3 (y4.Ledger.Bans.map aK), .sl 3 (y4.Ledger.Frozen.map aK)]) ((oN 0 rfl rfl (dvc (.same _) (dvc (.same _) (dvc (kI 1 rfl (eA (f := aC) fun _ => rfl)) (dvc (.same _) (dvc (.same _) dvn))))))) (jH (k := 12) (v := .cp [.lit (.int .i64 y4.Ledger.Players), .lit (.int .i64 y4.Ledger.Counts), .sl 5 (y4.Ledger.Reports.map aC), .sl 3 (y4.Ledger.Bans.map aK), .sl 3 (y4.Ledger.Frozen.map aK)]) ((oN 0 rfl rfl (dvc (.same _) (dvc (.same _) (dvc (kI 1 rfl (eA (f := aC) fun _ => rfl)) (dvc (.same _) (dvc (.same _) dvn))))))) (jH (k := 11) (v := .any) (.any _) (jH (k := 8) (v := .any) (.any _) (jH (k := 6) (v := .cp [.lit (.int .i64 y4.Ledger.Players), .lit (.int .i64 y4.Ledger.Counts), .sl 5 (y4.Ledger.Reports.map aC), .sl 3 (y4.Ledger.Bans.map aK), .sl 3 (y4.Ledger.Frozen.map aK)]) ((oN 0 rfl rfl (dvc (.same _) (dvc (.same _) (dvc (kI 1 rfl (eA (f := aC) fun _ => rfl)) (dvc (.same _) (dvc (.same _) dvn))))))) (sW _ _)))))
   obtain ⟨r10, h11, h⟩ := bind_some h
   refine tr1 rfl (oR (aA rfl) (.func _ _ Try.call59) rfl rfl (tI _ _ h11)) ?_
   refine tr1 rfl (aJ (v := .d (.sl 1 (r10.map cK))) (aA rfl) rfl rfl) ?_
   refine tr1 rfl (aJ (v := .d (.lit (.int .i64 0))) (aA rfl) rfl rfl) ?_
   refine aF ?_
   have h := Option.some.inj h
   subst h
   refine cU (cH (cN (l := [4, 5]) ⟨rfl, rfl, trivial⟩)) ?_
   exact bO ⟨rfl, _, .two _ _, rfl, rfl⟩

theorem uJ (s_0 : List Int) (f_1 : Int → Option Bool) {r : Int} (f_1_f : Nat) (f_1_v : List AV) (f_1_e : ∀ args w, (callFunc f_1_f args).run Try.prog w = .ok (.enter f_1_f args) w) (f_1_h : ∀ (x0 : Int) r, f_1 x0 = some r → Fn Try.prog f_1_f ([.d (.lit (.int .i64 x0))] ++ f_1_v) (.d (.lit (.bool r)))) (h : nC s_0 f_1 = some r) : Fn Try.prog 81 [.d (.sl 1 (s_0.map cK)), .fn f_1_f f_1_v] (.d (.lit (.int .i64 r))) := by
 unfold nC at h
 refine Fn.of_tr Try.func81 rfl (rs := [.tmp 4]) Try.results81 Try.ntmps81 (Nat.le_of_ble_eq_true rfl) ?_
 refine aG ?_
 refine aE ?_
 refine tr1 rfl (aJ (v := .d (.lit (.int .i64 0))) (aA rfl) rfl rfl) ?_
 refine aF ?_
 refine aG ?_
 refine aG ?_
 refine aE ?_
 refine tr1 rfl (aD (v := .d (.sl 1 (s_0.map cK))) (aA rfl) rfl rfl) ?_
 refine tr1 rfl (eB (aA rfl) rfl fE.of) ?_
 refine tr1 rfl (aD (v := .d (.lit (.int .i64 0))) (aA rfl) rfl rfl) ?_
 refine aF ?_
 refine bT ?_
 refine cO [0, 1, 7] (fun (s1 : Int) => [(8, .d (.lit (.int .i64 s1)))]) (fun (s1 : Int) => []) (fun (k : Nat) (s1 : Int) => jQ s_0 f_1 (s_0.length : Int) k s1) (fun _ => rfl) (0) h (aW [] rfl rfl (aN rfl (aX ⟨rfl, rfl, rfl, trivial⟩))) ?_
 rintro k2 t8_0_1 h
 simp only [jQ] at h
 refine aG ?_
 refine aE ?_
 refine tr1 rfl (bC (aA rfl) rfl rfl rfl) ?_
 refine aF ?_
 refine aG ?_
 refine bN rfl (fun c3 => ?_) (fun c3 => ?_)
 ·have h := aQ c3 h
  refine bJ ?_
  refine aG ?_
  refine bT ?_
  refine aG ?_
  refine aE ?_
  refine tr1 rfl (aD (v := .d (.lit (.int .i64 t8_0_1))) (aA rfl) rfl rfl) ?_
  refine tr1 rfl (aJ (v := .d (.lit (.int .i64 t8_0_1))) (aA rfl) rfl rfl) ?_
  refine aF ?_
  refine aG ?_
  refine aE ?_
  refine tr1 rfl (aD (v := .fn f_1_f f_1_v) (aA rfl) rfl rfl) ?_
  refine tr1 rfl (aD (v := .d (.sl 1 (s_0.map cK))) (aA rfl) rfl rfl) ?_
  refine tr1 rfl (aD (v := .d (.lit (.int .i64 t8_0_1))) (aA rfl) rfl rfl) ?_
  obtain ⟨x4, h5, h⟩ := bind_some h
  refine tr1 rfl (cF (aA rfl) rfl rfl fE.of (bP cK h5)) ?_
  refine tr1 rfl (cI (aA rfl) rfl bH) ?_
  obtain ⟨r6, h7, h⟩ := bind_some h
  refine tr1 rfl (bZ (aA rfl) (.clo _ _ _ _ f_1_e rfl) (tB rfl) rfl (BVs.refl _ _) (f_1_h _ _  h7) rfl) ?_
  refine aF ?_
  refine bN rfl (fun c8 => ?_) (fun c8 => ?_)
  ·have h := aQ c8 h
   refine aG ?_
   refine aE ?_
   refine tr1 rfl (aD (v := .d (.lit (.int .i64 t8_0_1))) (aA rfl) rfl rfl) ?_
   refine tr1 rfl (aJ (v := .d (.lit (.int .i64 t8_0_1))) (aA rfl) rfl rfl) ?_
   refine aF ?_
   have h := Option.some.inj h
   subst h
   exact bO ⟨rfl, _, .one _, rfl, rfl⟩
  ·have h := aP c8 h
   refine fC ?_
   refine aE ?_
   refine tr1 rfl (aY (aA rfl) rfl rfl rfl) ?_
   refine tr1 rfl (aD (v := .d (.lit (.int .i64 ((w64 (t8_0_1 + 1)))))) (aA rfl) rfl rfl) ?_
   refine aF ?_
   exact ⟨(w64 (t8_0_1 + 1)), h, aW [] rfl rfl (aN rfl (aX ⟨rfl, rfl, rfl, trivial⟩))⟩
 ·have h := aP c3 h
  refine cY ?_
  refine .inl ⟨rfl, ?_⟩
  simp only [oU] at h
  refine aG ?_
  refine aE ?_
  refine tr1 rfl (aJ (v := .d (.lit (.int .i64 (-1)))) (aA rfl) rfl rfl) ?_
  refine aF ?_
  have h := Option.some.inj h
  subst h
  exact bO ⟨rfl, _, .one _, rfl, rfl⟩

theorem oA (s_0 : List Int) (f_1 : Int → Option Bool) {r : Bool} (f_1_f : Nat) (f_1_v : List AV) (f_1_e : ∀ args w, (callFunc f_1_f args).run Try.prog w = .ok (.enter f_1_f args) w) (f_1_h : ∀ (x0 : Int) r, f_1 x0 = some r → Fn Try.prog f_1_f ([.d (.lit (.int .i64 x0))] ++ f_1_v) (.d (.lit (.bool r)))) (h : jP s_0 f_1 = some r) : Fn Try.prog 45 [.d (.sl 1 (s_0.map cK)), .fn f_1_f f_1_v] (.d (.lit (.bool r))) := by
 unfold jP at h
 refine Fn.of_tr Try.func45 rfl (rs := [.tmp 4]) Try.results45 Try.ntmps45 (Nat.le_of_ble_eq_true rfl) ?_
 refine aG ?_
 refine aE ?_
 refine tr1 rfl (aJ (v := .d (.lit (.bool false))) (aA rfl) rfl rfl) ?_
 refine aF ?_
 refine aG ?_
 refine aE ?_
 refine tr1 rfl (aD (v := .d (.sl 1 (s_0.map cK))) (aA rfl) rfl rfl) ?_
 refine tr1 rfl (aD (v := .fn f_1_f f_1_v) (aA rfl) rfl rfl) ?_
 obtain ⟨r1, h2, h⟩ := bind_some h
 refine tr1 rfl (bZ (aA rfl) (.func _ _ Try.call81) rfl rfl (BVs.refl _ _) (uJ _ _ f_1_f f_1_v f_1_e f_1_h h2) rfl) ?_
 refine tr1 rfl (bC (aA rfl) rfl rfl rfl) ?_
 refine tr1 rfl (aJ (v := .d (.lit (.bool ((decide (0 ≤ r1)))))) (aA rfl) rfl rfl) ?_
 refine aF ?_
 have h := Option.some.inj h
 subst h
 exact bO ⟨rfl, _, .one _, rfl, rfl⟩

theorem uT (n_0 : Int) {r : Bool} (h : qK n_0 = some r) : Fn Try.prog 46 [.d (.lit (.int .i64 n_0))] (.d (.lit (.bool r))) := by
 unfold qK at h
 refine Fn.of_tr Try.func46 rfl (rs := [.tmp 2]) Try.results46 Try.ntmps46 (Nat.le_of_ble_eq_true rfl) ?_
 refine aG ?_
 refine aE ?_
 refine tr1 rfl (aJ (v := .d (.lit (.bool false))) (aA rfl) rfl rfl) ?_
 refine aF ?_
 refine aG ?_
 refine aE ?_
 refine tr1 rfl (aD (v := .d (.lit (.int .i64 n_0))) (aA rfl) rfl rfl) ?_
 obtain ⟨r1, h2, h⟩ := bind_some h
 refine tr1 rfl (bZ (aA rfl) (.func _ _ Try.call47) rfl rfl (BVs.refl _ _) (eP _ _ _ h2) rfl) ?_
 refine tr1 rfl (fF (aA rfl) rfl) ?_
 refine tr1 rfl (aJ (v := .d (.lit (.bool (!r1)))) (aA rfl) rfl rfl) ?_
 refine aF ?_
 have h := Option.some.inj h
 subst h
 exact bO ⟨rfl, _, .one _, rfl, rfl⟩

theorem xE (s_0 : List Int) (v_1 : Int) {r : Int} (h : pT s_0 v_1 = some r) : Fn Try.prog 85 [.d (.sl 1 (s_0.map cK)), .d (.lit (.int .i64 v_1))] (.d (.lit (.int .i64 r))) := by
 unfold pT at h
 refine Fn.of_tr Try.func85 rfl (rs := [.tmp 4]) Try.results85 Try.ntmps85 (Nat.le_of_ble_eq_true rfl) ?_
 refine aG ?_
 refine aE ?_
 refine tr1 rfl (aJ (v := .d (.lit (.int .i64 0))) (aA rfl) rfl rfl) ?_
 refine aF ?_
 refine aG ?_
 refine aG ?_
 refine aE ?_
 refine tr1 rfl (aD (v := .d (.sl 1 (s_0.map cK))) (aA rfl) rfl rfl) ?_
 refine tr1 rfl (eB (aA rfl) rfl fE.of) ?_
 refine tr1 rfl (aD (v := .d (.lit (.int .i64 0))) (aA rfl) rfl rfl) ?_
 refine aF ?_
 refine bT ?_
 refine cO [0, 1, 7] (fun (s1 : Int) => [(8, .d (.lit (.int .i64 s1)))]) (fun (s1 : Int) => []) (fun (k : Nat) (s1 : Int) => lU s_0 v_1 (s_0.length : Int) k s1) (fun _ => rfl) (0) h (aW [] rfl rfl (aN rfl (aX ⟨rfl, rfl, rfl, trivial⟩))) ?_
 rintro k2 t8_0_1 h
 simp only [lU] at h
 refine aG ?_
 refine aE ?_
 refine tr1 rfl (bC (aA rfl) rfl rfl rfl) ?_
 refine aF ?_
 refine aG ?_
 refine bN rfl (fun c3 => ?_) (fun c3 => ?_)
 ·have h := aQ c3 h
  refine bJ ?_
  refine aG ?_
  refine bT ?_
  refine aG ?_
  refine aE ?_
  refine tr1 rfl (aD (v := .d (.lit (.int .i64 t8_0_1))) (aA rfl) rfl rfl) ?_
  refine tr1 rfl (aJ (v := .d (.lit (.int .i64 t8_0_1))) (aA rfl) rfl rfl) ?_
  refine aF ?_
  refine aG ?_
  refine aE ?_
  refine tr1 rfl (aD (v := .d (.lit (.int .i64 v_1))) (aA rfl) rfl rfl) ?_
  refine tr1 rfl (aD (v := .d (.sl 1 (s_0.map cK))) (aA rfl) rfl rfl) ?_
  refine tr1 rfl (aD (v := .d (.lit (.int .i64 t8_0_1))) (aA rfl) rfl rfl) ?_
  obtain ⟨x4, h5, h⟩ := bind_some h
  refine tr1 rfl (cF (aA rfl) rfl rfl fE.of (bP cK h5)) ?_
  refine tr1 rfl (cI (aA rfl) rfl bH) ?_
  refine tr1 rfl (bC (aA rfl) rfl rfl rfl) ?_
  refine aF ?_
  refine bN rfl (fun c6 => ?_) (fun c6 => ?_)
  ·have h := aQ c6 h
   refine aG ?_
   refine aE ?_
   refine tr1 rfl (aD (v := .d (.lit (.int .i64 t8_0_1))) (aA rfl) rfl rfl) ?_
   refine tr1 rfl (aJ (v := .d (.lit (.int .i64 t8_0_1))) (aA rfl) rfl rfl) ?_
   refine aF ?_
   have h := Option.some.inj h
   subst h
   exact bO ⟨rfl, _, .one _, rfl, rfl⟩
  ·have h := aP c6 h
   refine fC ?_
   refine aE ?_
   refine tr1 rfl (aY (aA rfl) rfl rfl rfl) ?_
   refine tr1 rfl (aD (v := .d (.lit (.int .i64 ((w64 (t8_0_1 + 1)))))) (aA rfl) rfl rfl) ?_
   refine aF ?_
   exact ⟨(w64 (t8_0_1 + 1)), h, aW [] rfl rfl (aN rfl (aX ⟨rfl, rfl, rfl, trivial⟩))⟩
 ·have h := aP c3 h
  refine cY ?_
  refine .inl ⟨rfl, ?_⟩
  simp only [qZ] at h
  refine aG ?_
  refine aE ?_
  refine tr1 rfl (aJ (v := .d (.lit (.int .i64 (-1)))) (aA rfl) rfl rfl) ?_
  refine aF ?_
  have h := Option.some.inj h
  subst h
  exact bO ⟨rfl, _, .one _, rfl, rfl⟩

theorem xM (b_0 : bQ) (player_1 : Int) (week_2 : Int) {r : Int} (h : qM b_0 player_1 week_2 = some r) : Fn Try.prog 51 [.cp (cB b_0), .d (.lit (.int .i64 player_1)), .d (.lit (.int .i64 week_2))] (.d (.lit (.int .i64 r))) := by
 unfold qM at h
 refine Fn.of_tr Try.func51 rfl (rs := [.tmp 6]) Try.results51 Try.ntmps51 (Nat.le_of_ble_eq_true rfl) ?_
 refine aG ?_
 refine aE ?_
 refine tr1 rfl (aJ (v := .d (.lit (.int .i64 0))) (aA rfl) rfl rfl) ?_
 refine aF ?_
 refine aG ?_
 refine aE ?_
 refine tr1 rfl (aD (v := .cp [.lit (.int .i64 b_0.Ledger.Players), .lit (.int .i64 b_0.Ledger.Counts), .sl 5 (b_0.Ledger.Reports.map aC), .sl 3 (b_0.Ledger.Bans.map aK), .sl 3 (b_0.Ledger.Frozen.map aK)]) (aA rfl) rfl rfl) ?_
 refine tr1 rfl (aD (v := .d (.lit (.int .i64 week_2))) (aA rfl) rfl rfl) ?_
 obtain ⟨r1, h2, h⟩ := bind_some h
 refine tr1 rfl (oR (aA rfl) (.func _ _ Try.call59) rfl rfl (tI _ _ h2)) ?_
 refine tr1 rfl (aD (v := .d (.lit (.int .i64 player_1))) (aA rfl) rfl rfl) ?_
 obtain ⟨r3, h4, h⟩ := bind_some h
 refine tr1 rfl (bZ (aA rfl) (.func _ _ Try.call85) rfl rfl (BVs.refl _ _) (xE _ _ h4) rfl) ?_
 refine tr1 rfl (aY (aA rfl) rfl rfl rfl) ?_
 refine tr1 rfl (aJ (v := .d (.lit (.int .i64 ((w64 (r3 + 1)))))) (aA rfl) rfl rfl) ?_
 refine aF ?_
 have h := Option.some.inj h
 subst h
 exact bO ⟨rfl, _, .one _, rfl, rfl⟩

theorem zN (book : bQ) (pl : Int) (wk : Int) (ms : Bool) (be : Int) (wo : Int) {r : Bool × Int × Int} {book_b book_o : Nat} {bb_b bb_o : Nat} {pl_b pl_o : Nat} {wk_b wk_o : Nat} {ms_b ms_o : Nat} {be_b be_o : Nat} {wo_b wo_o : Nat} (h : tG book pl wk ms be wo = some r) : fS Try.prog 50 [.bp bb_b bb_o 0, .bp pl_b pl_o 0, .bp wk_b wk_o 0, .bp ms_b ms_o 0, .bp be_b be_o 0, .bp wo_b wo_o 0] [.box book_b book_o (cB book), .box bb_b bb_o [gA book_b book_o 0], .box pl_b pl_o [.lit (.int .i64 pl)], .box wk_b wk_o [.lit (.int .i64 wk)], .box ms_b ms_o [.lit (.bool ms)], .box be_b be_o [.lit (.int .i64 be)], .box wo_b wo_o [.lit (.int .i64 wo)]] (fun r' o' => r' = .tup [] ∧ o' = [.box book_b book_o (cB book), .box bb_b bb_o [gA book_b book_o 0], .box pl_b pl_o [.lit (.int .i64 pl)], .box wk_b wk_o [.lit (.int .i64 wk)], .box ms_b ms_o [.lit (.bool r.1)], .box be_b be_o [.lit (.int .i64 r.2.1)], .box wo_b wo_o [.lit (.int .i64 r.2.2)]]) := by
 unfold tG at h
 refine iS Try.func50 rfl (rs := []) Try.results50 Try.ntmps50 (Nat.le_of_ble_eq_true rfl) ?_
 refine aG ?_
 refine aE ?_
 refine tr1 rfl (rZ (i := 1) (aA rfl) rfl rfl rfl uR) ?_
 refine tr1 rfl (aU (aA rfl) rfl (i := 2) rfl rfl bH) ?_
 refine tr1 rfl (aU (aA rfl) rfl (i := 3) rfl rfl bH) ?_
 obtain ⟨r1, h2, h⟩ := bind_some h
 refine tr1 rfl (bZ (aA rfl) (.func _ _ Try.call51) rfl rfl (.cons ((oN 0 rfl rfl (dvc (.same _) (dvc (.same _) (dvc (.same _) (dvc (.same _) (dvc (.same _) dvn))))))) (.cons (.same _) (.cons (.same _) .nil))) (xM _ _ _ h2) rfl) ?_
 refine tr1 rfl (aJ (v := .d (.lit (.int .i64 r1))) (aA rfl) rfl rfl) ?_
 refine aF ?_
 refine aG ?_
 refine aE ?_
 refine tr1 rfl (aU (aA rfl) rfl (i := 4) rfl rfl rP) ?_
 refine tr1 rfl (aD (v := .d (.lit (.bool ms))) (aA rfl) rfl rfl) ?_
 obtain ⟨b3, h4, h⟩ := bind_some h
 refine bR 3 [3, 4, 5, 6] 15 b3 ?_ ?_
 ·refine bG (ms) (fun c6 => ?_) (fun c6 => ?_)
  ·have h4 := aQ c6 h4
   refine aM rfl rfl (aA rfl) rfl (aA rfl) rfl c6 ?_
   refine aM rfl rfl (aA rfl) rfl (aA rfl) rfl c6 ?_
   refine tr1 rfl (bM (v := .d (.lit (.bool true))) (aA rfl) rfl c6 rfl rfl) ?_
   have h4 := Option.some.inj h4
   subst h4
   refine aF (aV rfl ⟨rfl, rfl, rfl, rfl, trivial⟩ rfl)
  ·have h4 := aP c6 h4
   refine aL rfl rfl (aA rfl) rfl c6 (aD (v := .d (.lit (.int .i64 r1))) (aA rfl) rfl rfl) ?_
   refine aL rfl rfl (aA rfl) rfl c6 (bC (aA rfl) rfl rfl rfl) ?_
   refine tr1 rfl (bL (v := .d (.lit (.bool ((decide (r1 = 0)))))) (aA rfl) rfl c6 rfl rfl) ?_
   have h4 := Option.some.inj h4
   subst h4
   refine aF (aV rfl ⟨rfl, rfl, rfl, rfl, trivial⟩ rfl)
 ·refine tr1 rfl (cJ (i := 4) rfl rfl rfl rfl rfl Try.sizeOf4 rfl (aA rfl) (Nat.le_of_ble_eq_true rfl) (ds' := [.lit (.bool b3)]) rfl) ?_
  refine aF ?_
  refine mG mix 7 [5] (fun X5 => [(21, .d (.lit (.int .i64 ((max wo r1)))))]) (fun X5 => [.box book_b book_o (cB book), .box bb_b bb_o [gA book_b book_o 0], .box pl_b pl_o [.lit (.int .i64 pl)], .box wk_b wk_o [.lit (.int .i64 wk)], .box ms_b ms_o [.lit (.bool b3)], .box be_b be_o [.lit (.int .i64 ((min be r1)))], .box wo_b wo_o [.lit (.int .i64 wo)]]) ?_ ?_
  ·refine ⟨0, fun X5 => [(16, 0, .d (.lit (.int .i64 be))), (17, 1, .d (.lit (.int .i64 r1))), (18, 2, .d (.lit (.int .i64 ((min be r1))))), (19, 3, .d (.lit (.int .i64 wo))), (20, 4, .d (.lit (.int .i64 r1))), (21, 5, .d (.lit (.int .i64 ((max wo r1)))))], fun X5 => [([], .box book_b book_o (cB book)), ([], .box bb_b bb_o [gA book_b book_o 0]), ([], .box pl_b pl_o [.lit (.int .i64 pl)]), ([], .box wk_b wk_o [.lit (.int .i64 wk)]), ([], .box ms_b ms_o [.lit (.bool b3)]), ([(6, .box be_b be_o [.lit (.int .i64 ((min be r1)))])], .box be_b be_o [.lit (.int .i64 be)]), ([], .box wo_b wo_o [.lit (.int .i64 wo)])], ?_, ?_⟩
   · exact ⟨by kernel_rfl, by kernel_rfl, by kernel_rfl, fun _ => by kernel_rfl, fun _ => by kernel_rfl, fun _ => by kernel_rfl, fun _ => rfl, [([], [6]), ([], [6]), ([0, 1], [6]), ([], []), ([], []), ([3, 4], []), ([2], [])], by kernel_rfl, ⟨fun X5 S hw hi hS => bK (X := X5) rfl (hw X5) rfl (aO rfl (aU (aA rfl) (aH hS rfl) (i := 5) (og hS rfl rfl) rfl bH)),
      fun X5 S hw hi hS => bK (X := X5) rfl (hw X5) rfl (aO rfl (aD (v := .d (.lit (.int .i64 r1))) (aA rfl) (aH hS rfl) rfl)),
      fun X5 S hw hi hS => bK (X := X5) rfl (hw X5) rfl (aO rfl (aDq (aA rfl) (aH hS rfl) (aH hS rfl))),
      fun X5 S hw hi hS => bK (X := X5) rfl (hw X5) rfl (aO rfl (aU (aA rfl) (aH hS rfl) (i := 6) (og hS rfl rfl) rfl bH)),
      fun X5 S hw hi hS => bK (X := X5) rfl (hw X5) rfl (aO rfl (aD (v := .d (.lit (.int .i64 r1))) (aA rfl) (aH hS rfl) rfl)),
      fun X5 S hw hi hS => bK (X := X5) rfl (hw X5) rfl (aO rfl (aAq (aA rfl) (aH hS rfl) (aH hS rfl))),
      fun X5 S hw hi hS => qA (X := X5) hS rfl rfl rfl (p := 5) rfl rfl (aO rfl (cJ (i := 5) (aH hS rfl) (og hS rfl rfl) (aH hS rfl) rfl rfl Try.sizeOf3 rfl (aA rfl) (Nat.le_of_ble_eq_true rfl) (ds' := [.lit (.int .i64 ((min be r1)))]) rfl)), trivial⟩⟩
   · exact fun X5 => eE (aN rfl (aX ⟨rfl, trivial⟩))
  ·intro X5
   refine tr1 rfl (cJ (i := 6) rfl rfl rfl rfl rfl Try.sizeOf3 rfl (aA rfl) (Nat.le_of_ble_eq_true rfl) (ds' := [.lit (.int .i64 ((max wo r1)))]) rfl) ?_
   refine aF ?_
   have h := Option.some.inj h
   subst h
   exact ⟨_, [.box book_b book_o (cB book), .box bb_b bb_o [gA book_b book_o 0], .box pl_b pl_o [.lit (.int .i64 pl)], .box wk_b wk_o [.lit (.int .i64 wk)], .box ms_b ms_o [.lit (.bool b3)], .box be_b be_o [.lit (.int .i64 ((min be r1)))], .box wo_b wo_o [.lit (.int .i64 ((max wo r1)))]], [], _, .none, .refl _, .same _, rfl, rfl⟩

theorem xD (n_1 : Int) {r : (List Int)} (h : qT n_1 = some r) : fS Try.prog 102 [.d (.lit (.slice none 0 0)), .d (.lit (.int .i64 n_1))] [] (fun r' o' => ∃ (w0 : Value), r' = .d (.lit w0) ∧ o' = [.arr w0 3 1 (r.map cK)]) := by
 unfold qT at h
 refine mA Try.func102 rfl (rs := [.tmp 4]) Try.results102 Try.ntmps102 (Nat.le_of_ble_eq_true rfl) ?_
 refine cU (aDh 3 1) ?_
 refine aG ?_
 refine aE ?_
 refine tr1 rfl (jN 3 1 (.inl rfl) (aA rfl)) ?_
 refine aF ?_
 refine aG ?_
 refine aG ?_
 refine aE ?_
 refine tr1 rfl (aD (v := .d (.lit (.int .i64 n_1))) (aA rfl) rfl rfl) ?_
 refine tr1 rfl (bC (aA rfl) rfl rfl rfl) ?_
 refine aF ?_
 refine bN rfl (fun c2 => ?_) (fun c2 => ?_)
 ·have h := aQ c2 h
  cases h
 ·have h := aP c2 h
  refine bJ ?_
  refine aG ?_
  refine aG ?_
  refine aE ?_
  refine tr1 rfl (aD (v := .d (.lit (.int .i64 n_1))) (aA rfl) rfl rfl) ?_
  refine tr1 rfl (aD (v := .d (.lit (.slice none 0 0))) (aA rfl) rfl rfl) ?_
  refine tr1 rfl (aAf (aA rfl) rfl fE.of) ?_
  refine tr1 rfl (aD (v := .d (.lit (.slice none 0 0))) (aA rfl) rfl rfl) ?_
  refine tr1 rfl (aAg (aA rfl) rfl fE.of) ?_
  refine tr1 rfl (aY (aA rfl) rfl rfl rfl) ?_
  refine tr1 rfl (aY (aA rfl) rfl rfl rfl) ?_
  refine tr1 rfl (aJ (v := .d (.lit (.int .i64 ((w64 (n_1 - (w64 (0 - 0)))))))) (aA rfl) rfl rfl) ?_
  refine aF ?_
  refine aG ?_
  refine aE ?_
  refine tr1 rfl (aD (v := .d (.lit (.int .i64 ((w64 (n_1 - (w64 (0 - 0)))))))) (aA rfl) rfl rfl) ?_
  refine tr1 rfl (bC (aA rfl) rfl rfl rfl) ?_
  refine aF ?_
  refine bN rfl (fun c3 => ?_) (fun c3 => ?_)
  ·have h := aQ c3 h
   refine aE ?_
   refine tr1 rfl (aD (v := .d (.lit (.slice none 0 0))) (aA rfl) rfl rfl) ?_
   refine tr1 rfl (aD (v := .d (.lit (.slice none 0 0))) (aA rfl) rfl rfl) ?_
   refine tr1 rfl (aAf (aA rfl) rfl fE.of) ?_
   obtain ⟨u4, h5, h⟩ := bind_some h
   refine tr1 rfl (qP (m := 0) (q := 0) (v := (.slice none 0 0)) (aA rfl) rfl rfl rfl rfl (yL h5) fE.of) ?_
   refine tr1 rfl (aD (v := .d (.lit (.int .i64 ((w64 (n_1 - (w64 (0 - 0)))))))) (aA rfl) rfl rfl) ?_
   obtain ⟨u6, h7, h⟩ := bind_some h
   refine bW rfl (aFe (i := 0) (aA rfl) fE rfl rfl rfl Try.underlying3 (aAv h7).1 (aAv h7).2 (by decide)) ?_
   rintro _ ⟨v8, rfl⟩
   refine tr1 rfl (aD (v := .d (.lit (.slice none 0 0))) (aA rfl) rfl rfl) ?_
   refine tr1 rfl (aAg (aA rfl) rfl fE.of) ?_
   obtain ⟨u9, h10, h⟩ := bind_some h
   refine tr1 rfl (qP (m := 0) (q := 0) (v := v8) (aA rfl) rfl rfl rfl rfl (yL h10) fE.of) ?_
   refine tr1 rfl (aJ (v := .d (.lit (fT v8 0))) (aA rfl) rfl rfl) ?_
   refine aF ?_
   refine aG ?_
   refine aE ?_
   refine tr1 rfl (aD (v := .d (.lit (fT v8 0))) (aA rfl) rfl rfl) ?_
   refine tr1 rfl (aJ (v := .d (.lit (fT v8 0))) (aA rfl) rfl rfl) ?_
   refine aF ?_
   have h := Option.some.inj h
   subst h
   exact bO ⟨rfl, _, [.arr (fT v8 0) 3 1 (([] : List Int).map cK)], [.arr (.slice none 0 0) 3 1 (([] : List Int).map cK)], _, .one (.tmp 4 (v := .d (.lit (fT v8 0))) rfl), .refl _, .same _, (fT v8 0), rfl, rfl⟩
  ·have h := aP c3 h
   refine bJ ?_
   refine aG ?_
   refine aE ?_
   refine tr1 rfl (aD (v := .d (.lit (.slice none 0 0))) (aA rfl) rfl rfl) ?_
   refine tr1 rfl (aJ (v := .d (.lit (.slice none 0 0))) (aA rfl) rfl rfl) ?_
   refine aF ?_
   have h := Option.some.inj h
   subst h
   exact bO ⟨rfl, _, [.arr (.slice none 0 0) 3 1 (([] : List Int).map cK)], [.arr (.slice none 0 0) 3 1 (([] : List Int).map cK)], _, .one (.tmp 4 (v := .d (.lit (.slice none 0 0))) rfl), .refl _, .same _, (.slice none 0 0), rfl, rfl⟩

theorem vZ (slices_0 : List (List Int)) {r : (List Int)} (h : oZ slices_0 = some r) : Fn Try.prog 84 [.d (.sl 1 (slices_0.map pX))] (.d (.sl 1 (r.map cK))) := by
 unfold oZ at h
 refine Fn.of_tr Try.func84 rfl (rs := [.tmp 2]) Try.results84 Try.ntmps84 (Nat.le_of_ble_eq_true rfl) ?_
 refine aG ?_
 refine aE ?_
 refine tr1 rfl (vJ 1 (aA rfl)) ?_
 refine aF ?_
 refine aG ?_
 refine aE ?_
 refine tr1 rfl (aJ (v := .d (.lit (.int .i64 0))) (aA rfl) rfl rfl) ?_
 refine aF ?_
 refine aG ?_
 refine aG ?_
 refine aE ?_
 refine tr1 rfl (aD (v := .d (.sl 1 (slices_0.map pX))) (aA rfl) rfl rfl) ?_
 refine tr1 rfl (eB (aA rfl) rfl xC.of) ?_
 refine tr1 rfl (aD (v := .d (.lit (.int .i64 0))) (aA rfl) rfl rfl) ?_
 refine aF ?_
 refine bT ?_
 refine cO [0, 9, 10] (fun (s1 : Int × Int) => [(3, .d (.lit (.int .i64 s1.1))), (11, .d (.lit (.int .i64 s1.2)))]) (fun (s1 : Int × Int) => []) (fun (k : Nat) (s1 : Int × Int) => lC slices_0 slices_0 (slices_0.length : Int) k s1.1 s1.2) (fun _ => rfl) (0, 0) h (aW [] rfl rfl (aN rfl (aN rfl (aX ⟨rfl, rfl, rfl, trivial⟩)))) ?_
 rintro k2 ⟨size_0_1, t11_0_1⟩ h
 simp only [lC] at h
 refine aG ?_
 refine aE ?_
 refine tr1 rfl (bC (aA rfl) rfl rfl rfl) ?_
 refine aF ?_
 refine aG ?_
 refine bN rfl (fun c3 => ?_) (fun c3 => ?_)
 ·have h := aQ c3 h
  refine bJ ?_
  refine aG ?_
  refine bT ?_
  refine aG ?_
  refine aE ?_
  obtain ⟨x4, h5, h⟩ := bind_some h
  refine tr1 rfl (cF (aA rfl) rfl rfl xC.of (bP pX h5)) ?_
  refine tr1 rfl (cI (aA rfl) rfl aEg) ?_
  refine tr1 rfl (aJ (v := .d (.sl 1 (x4.map cK))) (aA rfl) rfl rfl) ?_
  refine aF ?_
  refine aG ?_
  refine aE ?_
  refine tr1 rfl (aD (v := .d (.lit (.int .i64 size_0_1))) (aA rfl) rfl rfl) ?_
  refine tr1 rfl (aD (v := .d (.sl 1 (x4.map cK))) (aA rfl) rfl rfl) ?_
  refine tr1 rfl (eB (aA rfl) rfl fE.of) ?_
  refine tr1 rfl (aY (aA rfl) rfl rfl rfl) ?_
  refine tr1 rfl (aJ (v := .d (.lit (.int .i64 ((w64 (size_0_1 + (x4.length : Int))))))) (aA rfl) rfl rfl) ?_
  refine aF ?_
  refine aG ?_
  refine aE ?_
  refine tr1 rfl (aD (v := .d (.lit (.int .i64 ((w64 (size_0_1 + (x4.length : Int))))))) (aA rfl) rfl rfl) ?_
  refine tr1 rfl (bC (aA rfl) rfl rfl rfl) ?_
  refine aF ?_
  refine bN rfl (fun c6 => ?_) (fun c6 => ?_)
  ·have h := aQ c6 h
   cases h
  ·have h := aP c6 h
   refine fC ?_
   refine aE ?_
   refine tr1 rfl (aY (aA rfl) rfl rfl rfl) ?_
   refine tr1 rfl (aD (v := .d (.lit (.int .i64 ((w64 (t11_0_1 + 1)))))) (aA rfl) rfl rfl) ?_
   refine aF ?_
   exact ⟨(w64 (size_0_1 + (x4.length : Int)), w64 (t11_0_1 + 1)), h, aW [] rfl rfl (aN rfl (aN rfl (aX ⟨rfl, rfl, rfl, trivial⟩)))⟩
 ·have h := aP c3 h
  refine cY ?_
  refine .inl ⟨rfl, ?_⟩
  simp only [qQ] at h
  refine aG ?_
  refine aE ?_
  refine tr1 rfl (aD (v := .d (.lit (.int .i64 size_0_1))) (aA rfl) rfl rfl) ?_
  obtain ⟨r7, h8, h⟩ := bind_some h
  refine bW rfl (vI (aA rfl) (.func _ _ Try.call102) rfl rfl (xD _ h8)) ?_
  rintro _ ⟨v9, rfl⟩
  refine tr1 rfl (aJ (v := .d (.lit v9)) (aA rfl) rfl rfl) ?_
  refine aF ?_
  refine aG ?_
  refine aG ?_
  refine aE ?_
  refine tr1 rfl (aD (v := .d (.sl 1 (slices_0.map pX))) (aA rfl) rfl rfl) ?_
  refine tr1 rfl (eB (aA rfl) rfl xC.of) ?_
  refine tr1 rfl (aD (v := .d (.lit (.int .i64 0))) (aA rfl) rfl rfl) ?_
  refine aF ?_
  refine bT ?_
  refine cO [25, 26] (fun (s10 : Int × (List Int) × Value) => [(6, .d (.lit s10.2.2)), (27, .d (.lit (.int .i64 s10.1)))]) (fun (s10 : Int × (List Int) × Value) => [.arr s10.2.2 3 1 (s10.2.1.map cK)]) (fun (k : Nat) (s10 : Int × (List Int) × Value) => lD slices_0 (slices_0.length : Int) k s10.1 s10.2.1) (fun _ => rfl) (0, r7, v9) h (aW [0] rfl rfl (aN rfl (aN rfl (aX ⟨rfl, rfl, trivial⟩)))) ?_
  rintro k12 ⟨t27_2_10, o24_2_10, w11⟩ h
  simp only [lD] at h
  refine aG ?_
  refine aE ?_
  refine tr1 rfl (bC (aA rfl) rfl rfl rfl) ?_
  refine aF ?_
  refine aG ?_
  refine bN rfl (fun c13 => ?_) (fun c13 => ?_)
  ·have h := aQ c13 h
   refine bJ ?_
   refine aG ?_
   refine bT ?_
   refine aG ?_
   refine aE ?_
   obtain ⟨x14, h15, h⟩ := bind_some h
   refine tr1 rfl (cF (aA rfl) rfl rfl xC.of (bP pX h15)) ?_
   refine tr1 rfl (cI (aA rfl) rfl aEg) ?_
   refine tr1 rfl (aJ (v := .d (.sl 1 (x14.map cK))) (aA rfl) rfl rfl) ?_
   refine aF ?_
   refine aE ?_
   refine tr1 rfl (aD (v := .d (.lit w11)) (aA rfl) rfl rfl) ?_
   refine tr1 rfl (aD (v := .d (.sl 1 (x14.map cK))) (aA rfl) rfl rfl) ?_
   obtain ⟨x16, h17, h⟩ := bind_some h
   refine bW rfl (pY (i := 0) (aA rfl) fE rfl rfl rfl (fun _ => rfl) h17 rfl) ?_
   rintro _ ⟨v18, rfl⟩
   refine tr1 rfl (aJ (v := .d (.lit v18)) (aA rfl) rfl rfl) ?_
   refine eF ?_
   refine aE ?_
   refine tr1 rfl (aY (aA rfl) rfl rfl rfl) ?_
   refine tr1 rfl (aD (v := .d (.lit (.int .i64 ((w64 (t27_2_10 + 1)))))) (aA rfl) rfl rfl) ?_
   refine aF ?_
   exact ⟨(w64 (t27_2_10 + 1), x16, v18), h, aW [0] rfl rfl (aN rfl (aN rfl (aX ⟨rfl, rfl, trivial⟩)))⟩
  ·have h := aP c13 h
   refine cY ?_
   refine .inl ⟨rfl, ?_⟩
   simp only [qR] at h
   refine aG ?_
   refine aE ?_
   refine tr1 rfl (aD (v := .d (.lit w11)) (aA rfl) rfl rfl) ?_
   refine tr1 rfl (aJ (v := .d (.lit w11)) (aA rfl) rfl rfl) ?_
   refine aF ?_
   have h := Option.some.inj h
   subst h
   refine cU (cH (jH (k := 2) (v := .d (.sl 1 (o24_2_10.map cK))) (.d (kI 0 rfl (eA (f := cK) fun _ => rfl))) (zG))) ?_
   exact bO ⟨rfl, _, .one _, rfl, rfl⟩

theorem vF (kr : Nat) : ∀ (book : bQ) (pl : Int) (wk : Int) (ms : Bool) (be : Int) (wo : Int) (week_1 : Int) (prizes_2 : List Int) (free_3 : List Int) {r : bQ × Bool × Int × Int} {book_b book_o : Nat} {bb_b bb_o : Nat} {pl_b pl_o : Nat} {wk_b wk_o : Nat} {ms_b ms_o : Nat} {be_b be_o : Nat} {wo_b wo_o : Nat} (_h : jT kr book pl wk ms be wo week_1 prizes_2 free_3 = some r), fS Try.prog 49 [.bp book_b book_o 0, .d (.lit (.int .i64 week_1)), .d (.sl 1 (prizes_2.map cK)), .d (.sl 1 (free_3.map cK)), .fn 50 [.bp bb_b bb_o 0, .bp pl_b pl_o 0, .bp wk_b wk_o 0, .bp ms_b ms_o 0, .bp be_b be_o 0, .bp wo_b wo_o 0]] [.box book_b book_o (cB book), .box bb_b bb_o [gA book_b book_o 0], .box pl_b pl_o [.lit (.int .i64 pl)], .box wk_b wk_o [.lit (.int .i64 wk)], .box ms_b ms_o [.lit (.bool ms)], .box be_b be_o [.lit (.int .i64 be)], .box wo_b wo_o [.lit (.int .i64 wo)]] (fun r' o' => r' = .tup [] ∧ o' = [.box book_b book_o (cB r.1), .box bb_b bb_o [gA book_b book_o 0], .box pl_b pl_o [.lit (.int .i64 pl)], .box wk_b wk_o [.lit (.int .i64 wk)], .box ms_b ms_o [.lit (.bool r.2.1)], .box be_b be_o [.lit (.int .i64 r.2.2.1)], .box wo_b wo_o [.lit (.int .i64 r.2.2.2)]]) := by
  induction kr with
  | zero => intros; rename_i h; cases h
  | succ kr ih =>
    intro book pl wk ms be wo week_1 prizes_2 free_3 r book_b book_o bb_b bb_o pl_b pl_o wk_b wk_o ms_b ms_o be_b be_o wo_b wo_o h
    simp only [jT] at h
    refine iS Try.func49 rfl (rs := []) Try.results49 Try.ntmps49 (Nat.le_of_ble_eq_true rfl) ?_
    refine aG ?_
    refine aG ?_
    refine aE ?_
    refine tr1 rfl (aD (v := .d (.sl 1 (prizes_2.map cK))) (aA rfl) rfl rfl) ?_
    refine tr1 rfl (eB (aA rfl) rfl fE.of) ?_
    refine tr1 rfl (bC (aA rfl) rfl rfl rfl) ?_
    refine tr1 rfl (aD (v := .d (.lit (.bool ((decide ((prizes_2.length : Int) = 0)))))) (aA rfl) rfl rfl) ?_
    obtain ⟨b1, h2, h⟩ := bind_some h
    refine bR 4 [0, 1, 2, 3, 4] 20 b1 ?_ ?_
    ·refine bG (decide ((prizes_2.length : Int) = 0)) (fun c30 => ?_) (fun c30 => ?_)
     ·have h2 := aQ c30 h2
      refine aM rfl rfl (aA rfl) rfl (aA rfl) rfl c30 ?_
      refine aM rfl rfl (aA rfl) rfl (aA rfl) rfl c30 ?_
      refine aM rfl rfl (aA rfl) rfl (aA rfl) rfl c30 ?_
      refine tr1 rfl (bM (v := .d (.lit (.bool true))) (aA rfl) rfl c30 rfl rfl) ?_
      have h2 := Option.some.inj h2
      subst h2
      refine aF (aV rfl ⟨rfl, rfl, rfl, rfl, rfl, trivial⟩ rfl)
     ·have h2 := aP c30 h2
      refine aL rfl rfl (aA rfl) rfl c30 (aD (v := .d (.sl 1 (free_3.map cK))) (aA rfl) rfl rfl) ?_
      refine aL rfl rfl (aA rfl) rfl c30 (eB (aA rfl) rfl fE.of) ?_
      refine aL rfl rfl (aA rfl) rfl c30 (bC (aA rfl) rfl rfl rfl) ?_
      refine tr1 rfl (bL (v := .d (.lit (.bool ((decide ((free_3.length : Int) = 0)))))) (aA rfl) rfl c30 rfl rfl) ?_
      have h2 := Option.some.inj h2
      subst h2
      refine aF (aV rfl ⟨rfl, rfl, rfl, rfl, rfl, trivial⟩ rfl)
    ·refine aF ?_
     refine bN rfl (fun c3 => ?_) (fun c3 => ?_)
     ·have h := aQ c3 h
      refine aG ?_
      refine aE ?_
      refine tr1 rfl (aD (v := .fn 50 [.bp bb_b bb_o 0, .bp pl_b pl_o 0, .bp wk_b wk_o 0, .bp ms_b ms_o 0, .bp be_b be_o 0, .bp wo_b wo_o 0]) (aA rfl) rfl rfl) ?_
      obtain ⟨r4, h5, h⟩ := bind_some h
      refine bW rfl (dM (passed := [.box book_b book_o (cB book), .box bb_b bb_o [gA book_b book_o 0], .box pl_b pl_o [.lit (.int .i64 pl)], .box wk_b wk_o [.lit (.int .i64 wk)], .box ms_b ms_o [.lit (.bool ms)], .box be_b be_o [.lit (.int .i64 be)], .box wo_b wo_o [.lit (.int .i64 wo)]]) (aA rfl) rfl (.clo _ _ _ _ Try.call50 rfl) (tB rfl) rfl (zN book pl wk ms be wo h5)) ?_
      rintro _ ⟨_, _, ⟨rfl, rfl⟩, rfl⟩
      refine aF ?_
      have h := Option.some.inj h
      subst h
      exact bO ⟨rfl, _, [.box book_b book_o (cB book), .box bb_b bb_o [gA book_b book_o 0], .box pl_b pl_o [.lit (.int .i64 pl)], .box wk_b wk_o [.lit (.int .i64 wk)], .box ms_b ms_o [.lit (.bool r4.1)], .box be_b be_o [.lit (.int .i64 r4.2.1)], .box wo_b wo_o [.lit (.int .i64 r4.2.2)]], [], _, .none, .refl _, .same _, rfl, rfl⟩
     ·have h := aP c3 h
      refine bJ ?_
      refine aG ?_
      refine aE ?_
      refine tr1 rfl (aD (v := .bp book_b book_o 0) (aA rfl) rfl rfl) ?_
      refine tr1 rfl (kF (aA rfl) rfl) ?_
      refine tr1 rfl (aT (aA rfl) rfl iJ) ?_
      refine tr1 rfl (aT (aA rfl) rfl eL) ?_
      refine tr1 rfl (aU (aA rfl) rfl (i := 0) rfl rfl iI) ?_
      refine tr1 rfl (eB (aA rfl) rfl cA.of) ?_
      refine tr1 rfl (aJ (v := .d (.lit (.int .i64 ((book.Ledger.Reports.length : Int))))) (aA rfl) rfl rfl) ?_
      refine aF ?_
      refine aG ?_
      refine aG ?_
      refine aE ?_
      refine tr1 rfl (aD (v := .d (.sl 1 (free_3.map cK))) (aA rfl) rfl rfl) ?_
      refine tr1 rfl (eB (aA rfl) rfl fE.of) ?_
      refine tr1 rfl (aD (v := .d (.lit (.int .i64 0))) (aA rfl) rfl rfl) ?_
      refine aF ?_
      refine bT ?_
      refine cO [0, 1, 2, 3, 4, 10, 29, 30] (fun (s6 : Int × bQ × Bool × Int × Int) => [(31, .d (.lit (.int .i64 s6.1)))]) (fun (s6 : Int × bQ × Bool × Int × Int) => [.box book_b book_o (cB s6.2.1), .box bb_b bb_o [gA book_b book_o 0], .box pl_b pl_o [.lit (.int .i64 pl)], .box wk_b wk_o [.lit (.int .i64 wk)], .box ms_b ms_o [.lit (.bool s6.2.2.1)], .box be_b be_o [.lit (.int .i64 s6.2.2.2.1)], .box wo_b wo_o [.lit (.int .i64 s6.2.2.2.2)]]) (fun (k : Nat) (s6 : Int × bQ × Bool × Int × Int) => lA (jT kr) week_1 prizes_2 free_3 (book.Ledger.Reports.length : Int) free_3 (free_3.length : Int) pl wk k s6.1 s6.2.1 s6.2.2.1 s6.2.2.2.1 s6.2.2.2.2) (fun _ => rfl) (0, book, ms, be, wo) h (aW [0, 1, 2, 3, 4, 5, 6] rfl rfl (aN rfl (aX ⟨rfl, rfl, rfl, rfl, rfl, rfl, rfl, rfl, trivial⟩))) ?_
      rintro k7 ⟨t31_0_6, b_0_6, b_0_6_4, b_0_6_5, b_0_6_6⟩ h
      simp only [lA] at h
      refine aG ?_
      refine aE ?_
      refine tr1 rfl (bC (aA rfl) rfl rfl rfl) ?_
      refine aF ?_
      refine aG ?_
      refine bN rfl (fun c8 => ?_) (fun c8 => ?_)
      ·have h := aQ c8 h
       refine bJ ?_
       refine aG ?_
       refine bT ?_
       refine aG ?_
       refine aE ?_
       refine tr1 rfl (aD (v := .d (.lit (.int .i64 t31_0_6))) (aA rfl) rfl rfl) ?_
       obtain ⟨x9, h10, h⟩ := bind_some h
       refine tr1 rfl (cF (aA rfl) rfl rfl fE.of (bP cK h10)) ?_
       refine tr1 rfl (cI (aA rfl) rfl bH) ?_
       refine tr1 rfl (aJ (v := .d (.lit (.int .i64 t31_0_6))) (aA rfl) rfl rfl) ?_
       refine tr1 rfl (aJ (v := .d (.lit (.int .i64 x9))) (aA rfl) rfl rfl) ?_
       refine aF ?_
       refine aG ?_
       obtain ⟨x12, h13, h⟩ := bind_some h
       obtain ⟨x14, h15, h⟩ := bind_some h
       obtain ⟨x16, h17, h⟩ := bind_some h
       refine mG mix 19 [0, 1, 2, 3, 4, 10, 11, 29, 30, 31] (fun X11 => [(36, .bp book_b book_o 0), (54, .d (.sl 5 (x16.map aC)))]) (fun X11 => [.box book_b book_o (cB b_0_6), .box bb_b bb_o [gA book_b book_o 0], .box pl_b pl_o [.lit (.int .i64 pl)], .box wk_b wk_o [.lit (.int .i64 wk)], .box ms_b ms_o [.lit (.bool b_0_6_4)], .box be_b be_o [.lit (.int .i64 b_0_6_5)], .box wo_b wo_o [.lit (.int .i64 b_0_6_6)]]) ?_ ?_
       ·refine ⟨0, fun X11 => [(36, 0, .bp book_b book_o 0), (37, 1, .bp book_b book_o 0), (38, 2, .bp book_b book_o 0), (39, 3, .bp book_b book_o 0), (40, 4, .bp book_b book_o 2), (41, 5, .d (.sl 5 (b_0_6.Ledger.Reports.map aC))), (42, 6, .d (.lit (.int .i64 ((book.Ledger.Reports.length : Int))))), (43, 7, .d (.lit (.int .i64 ((book.Ledger.Reports.length : Int))))), (44, 8, .fl false 5 (x12.map aC)), (45, 9, .d (.lit (.int .i64 ((book.Ledger.Reports.length : Int))))), (46, 10, .d (.lit (.int .i64 ((w64 (100 + (book.Ledger.Reports.length : Int))))))), (47, 11, .d (.lit (.int .i64 x9))), (48, 12, .d (.lit (.int .i64 week_1))), (49, 13, .d (.sl 1 (prizes_2.map cK))), (50, 14, .cp [.lit (.int .i64 x14)]), (51, 15, .d (.lit (.int .i64 x14))), (52, 16, .agg (aC (aB.mk (w64 (100 + (book.Ledger.Reports.length : Int))) x9 week_1 x14 false))), (53, 17, .d (.sl 5 ((([(aB.mk (w64 (100 + (book.Ledger.Reports.length : Int))) x9 week_1 x14 false)])).map aC))), (54, 18, .d (.sl 5 (x16.map aC)))], fun X11 => [([], .box book_b book_o (cB b_0_6)), ([], .box bb_b bb_o [gA book_b book_o 0]), ([], .box pl_b pl_o [.lit (.int .i64 pl)]), ([], .box wk_b wk_o [.lit (.int .i64 wk)]), ([], .box ms_b ms_o [.lit (.bool b_0_6_4)]), ([], .box be_b be_o [.lit (.int .i64 b_0_6_5)]), ([], .box wo_b wo_o [.lit (.int .i64 b_0_6_6)])], ?_, ?_⟩
        · exact ⟨by kernel_rfl, by kernel_rfl, by kernel_rfl, fun _ => by kernel_rfl, fun _ => by kernel_rfl, fun _ => by kernel_rfl, fun _ => rfl, [([], []), ([], [18]), ([1], [18]), ([2], [18]), ([3], [18]), ([4], [18]), ([], [18]), ([], [18]), ([5, 6, 7], [18]), ([], [18]), ([9], [18]), ([], [18]), ([], [18]), ([], [18]), ([13], [18]), ([14], [18]), ([10, 11, 12, 15], [18]), ([16], [18]), ([8, 17], [])], by kernel_rfl, ⟨fun X11 S hw hi hS => bK (X := X11) rfl (hw X11) rfl (aO rfl (aD (v := .bp book_b book_o 0) (aA rfl) (aH hS rfl) rfl)),
      fun X11 S hw hi hS => bK (X := X11) rfl (hw X11) rfl (aO rfl (aD (v := .bp book_b book_o 0) (aA rfl) (aH hS rfl) rfl)),
      fun X11 S hw hi hS => bK (X := X11) rfl (hw X11) rfl (aO rfl (kF (aA rfl) (aH hS rfl))),
      fun X11 S hw hi hS => bK (X := X11) rfl (hw X11) rfl (aO rfl (aT (aA rfl) (aH hS rfl) iJ)),
      fun X11 S hw hi hS => bK (X := X11) rfl (hw X11) rfl (aO rfl (aT (aA rfl) (aH hS rfl) eL)),
      fun X11 S hw hi hS => bK (X := X11) rfl (hw X11) rfl (aO rfl (aU (aA rfl) (aH hS rfl) (i := 0) (og hS rfl rfl) rfl iI)),
      fun X11 S hw hi hS => bK (X := X11) rfl (hw X11) rfl (aO rfl (aD (v := .d (.lit (.int .i64 ((book.Ledger.Reports.length : Int))))) (aA rfl) (aH hS rfl) rfl)),
      fun X11 S hw hi hS => bK (X := X11) rfl (hw X11) rfl (aO rfl (aD (v := .d (.lit (.int .i64 ((book.Ledger.Reports.length : Int))))) (aA rfl) (aH hS rfl) rfl)),
      fun X11 S hw hi hS => bK (X := X11) rfl (hw X11) rfl (aO rfl (aCj (aA rfl) cA.of (aH hS rfl) (aH hS rfl) (aH hS rfl) (rK aC h13))),
      fun X11 S hw hi hS => bK (X := X11) rfl (hw X11) rfl (aO rfl (aD (v := .d (.lit (.int .i64 ((book.Ledger.Reports.length : Int))))) (aA rfl) (aH hS rfl) rfl)),
      fun X11 S hw hi hS => bK (X := X11) rfl (hw X11) rfl (aO rfl (aY (aA rfl) rfl (aH hS rfl) rfl)),
      fun X11 S hw hi hS => bK (X := X11) rfl (hw X11) rfl (aO rfl (aD (v := .d (.lit (.int .i64 x9))) (aA rfl) (aH hS rfl) rfl)),
      fun X11 S hw hi hS => bK (X := X11) rfl (hw X11) rfl (aO rfl (aD (v := .d (.lit (.int .i64 week_1))) (aA rfl) (aH hS rfl) rfl)),
      fun X11 S hw hi hS => bK (X := X11) rfl (hw X11) rfl (aO rfl (aD (v := .d (.sl 1 (prizes_2.map cK))) (aA rfl) (aH hS rfl) rfl)),
      fun X11 S hw hi hS => bK (X := X11) rfl (hw X11) rfl (aO rfl (cF (aA rfl) (aH hS rfl) rfl fE.of (bP cK h15))),
      fun X11 S hw hi hS => bK (X := X11) rfl (hw X11) rfl (aO rfl (cI (aA rfl) (aH hS rfl) bH)),
      fun X11 S hw hi hS => bK (X := X11) rfl (hw X11) rfl (aO rfl (lY (aA rfl) tP (zs := [.lit (.int .i64 0), .lit (.int .i64 0), .lit (.int .i64 0), .lit (.int .i64 0), .lit (.bool false)]) rfl rfl rfl (pa2 (aH hS rfl) (pa2 (aH hS rfl) (pa2 (aH hS rfl) (pa2 (aH hS rfl) pan)))) (es := [.lit (.int .i64 ((w64 (100 + (book.Ledger.Reports.length : Int))))), .lit (.int .i64 x9), .lit (.int .i64 week_1), .lit (.int .i64 x14), .lit (.bool false)]) rfl)),
      fun X11 S hw hi hS => bK (X := X11) rfl (hw X11) rfl (aO rfl (jX (aA rfl) cA rfl (pa2 (aH hS rfl) pan) (rows := ([(aB.mk (w64 (100 + (book.Ledger.Reports.length : Int))) x9 week_1 x14 false)]).map aC) rfl (eA (f := aC) fun _ => rfl) rfl (by decide))),
      fun X11 S hw hi hS => bK (X := X11) rfl (hw X11) rfl (aO rfl (aEj (nn := false) (f := aC) (xs := x12) (ys := [(aB.mk (w64 (100 + (book.Ledger.Reports.length : Int))) x9 week_1 x14 false)]) (aA rfl) cA (aH hS rfl) (aH hS rfl) (fun _ => rfl) h17 rfl)), trivial⟩⟩
        · exact fun X11 => eE (aN rfl (aN rfl (aX ⟨rfl, rfl, rfl, rfl, rfl, rfl, rfl, rfl, rfl, rfl, trivial⟩)))
       ·intro X11
        refine tr1 rfl (kF (aA rfl) rfl) ?_
        refine tr1 rfl (aT (aA rfl) rfl iJ) ?_
        refine tr1 rfl (aT (aA rfl) rfl eL) ?_
        refine tr1 rfl (cJ (i := 0) rfl rfl rfl rfl rfl Try.sizeOf22 rfl (aA rfl) (Nat.le_of_ble_eq_true rfl) (ds' := (cB (bQ.mk (aS.mk b_0_6.Ledger.Players b_0_6.Ledger.Counts x16 b_0_6.Ledger.Bans b_0_6.Ledger.Frozen)))) rfl) ?_
        refine aF ?_
        obtain ⟨x18, h19, h⟩ := bind_some h
        obtain ⟨x20, h21, h⟩ := bind_some h
        obtain ⟨x22, h23, h⟩ := bind_some h
        obtain ⟨r24, h25, h⟩ := bind_some h
        refine hZ mix 14 [0, 1, 2, 3, 4, 10, 29, 30, 31] [(58, .bp book_b book_o 0), (59, .d (.lit (.int .i64 week_1))), (61, .d (.sl 1 (x18.map cK))), (70, .d (.sl 1 (r24.map cK))), (71, .fn 50 [.bp bb_b bb_o 0, .bp pl_b pl_o 0, .bp wk_b wk_o 0, .bp ms_b ms_o 0, .bp be_b be_o 0, .bp wo_b wo_o 0])] ?_ ?_
        ·refine ⟨[(58, 0, .bp book_b book_o 0), (59, 1, .d (.lit (.int .i64 week_1))), (60, 2, .d (.sl 1 (prizes_2.map cK))), (61, 3, .d (.sl 1 (x18.map cK))), (62, 4, .d (.sl 1 (free_3.map cK))), (63, 5, .d (.lit (.int .i64 t31_0_6))), (64, 6, .d (.sl 1 (x20.map cK))), (65, 7, .d (.sl 1 (free_3.map cK))), (66, 8, .d (.lit (.int .i64 t31_0_6))), (67, 9, .d (.lit (.int .i64 ((w64 (t31_0_6 + 1)))))), (68, 10, .d (.sl 1 (x22.map cK))), (69, 11, .d (.sl 1 ((([x20, x22])).map pX))), (70, 12, .d (.sl 1 (r24.map cK))), (71, 13, .fn 50 [.bp bb_b bb_o 0, .bp pl_b pl_o 0, .bp wk_b wk_o 0, .bp ms_b ms_o 0, .bp be_b be_o 0, .bp wo_b wo_o 0])], ?_, ?_⟩
         · exact ⟨by kernel_rfl, by kernel_rfl, by kernel_rfl, by kernel_rfl, by kernel_rfl, [([], []), ([], []), ([], []), ([2], []), ([], []), ([], []), ([4, 5], []), ([], []), ([], []), ([8], []), ([7, 9], []), ([6, 10], []), ([11], []), ([], [])], by kernel_rfl, ⟨fun S hS => aI rfl (aO rfl (aD (v := .bp book_b book_o 0) (aA rfl) (aH hS rfl) rfl)),
      fun S hS => aI rfl (aO rfl (aD (v := .d (.lit (.int .i64 week_1))) (aA rfl) (aH hS rfl) rfl)),
      fun S hS => aI rfl (aO rfl (aD (v := .d (.sl 1 (prizes_2.map cK))) (aA rfl) (aH hS rfl) rfl)),
      fun S hS => aI rfl (aO rfl (oT (aA rfl) fE.of (aH hS rfl) rfl aGx (rK cK h19))),
      fun S hS => aI rfl (aO rfl (aD (v := .d (.sl 1 (free_3.map cK))) (aA rfl) (aH hS rfl) rfl)),
      fun S hS => aI rfl (aO rfl (aD (v := .d (.lit (.int .i64 t31_0_6))) (aA rfl) (aH hS rfl) rfl)),
      fun S hS => aI rfl (aO rfl (oT (aA rfl) fE.of (aH hS rfl) rfl (bo (aH hS rfl)) (rK cK h21))),
      fun S hS => aI rfl (aO rfl (aD (v := .d (.sl 1 (free_3.map cK))) (aA rfl) (aH hS rfl) rfl)),
      fun S hS => aI rfl (aO rfl (aD (v := .d (.lit (.int .i64 t31_0_6))) (aA rfl) (aH hS rfl) rfl)),
      fun S hS => aI rfl (aO rfl (aY (aA rfl) (aH hS rfl) rfl rfl)),
      fun S hS => aI rfl (aO rfl (oT (aA rfl) fE.of (aH hS rfl) (bo (aH hS rfl)) aGx (rK cK h23))),
      fun S hS => aI rfl (aO rfl (jX (aA rfl) xC rfl (pa2 (aH hS rfl) (pa2 (aH hS rfl) pan)) (rows := ([x20, x22]).map pX) rfl (eA (f := pX) fun _ => rfl) rfl (by decide))),
      fun S hS => aI rfl (aO rfl (oR (aA rfl) (.func _ _ Try.call84) (ev2 (aH hS rfl) evn) rfl (vZ _ h25))),
      fun S hS => aI rfl (aO rfl (aD (v := .fn 50 [.bp bb_b bb_o 0, .bp pl_b pl_o 0, .bp wk_b wk_o 0, .bp ms_b ms_o 0, .bp be_b be_o 0, .bp wo_b wo_o 0]) (aA rfl) (aH hS rfl) rfl)), trivial⟩⟩
         · exact eE (aN rfl (aN rfl (aN rfl (aN rfl (aN rfl (aX ⟨rfl, rfl, rfl, rfl, rfl, rfl, rfl, rfl, rfl, trivial⟩))))))
        ·obtain ⟨r26, h27, h⟩ := bind_some h
         refine bW rfl (dM (passed := [.box book_b book_o (cB (bQ.mk (aS.mk b_0_6.Ledger.Players b_0_6.Ledger.Counts x16 b_0_6.Ledger.Bans b_0_6.Ledger.Frozen))), .box bb_b bb_o [gA book_b book_o 0], .box pl_b pl_o [.lit (.int .i64 pl)], .box wk_b wk_o [.lit (.int .i64 wk)], .box ms_b ms_o [.lit (.bool b_0_6_4)], .box be_b be_o [.lit (.int .i64 b_0_6_5)], .box wo_b wo_o [.lit (.int .i64 b_0_6_6)]]) (aA rfl) rfl (.func _ _ Try.call49) rfl rfl (ih (bQ.mk (aS.mk b_0_6.Ledger.Players b_0_6.Ledger.Counts x16 b_0_6.Ledger.Bans b_0_6.Ledger.Frozen)) pl wk b_0_6_4 b_0_6_5 b_0_6_6 week_1 x18 r24 h27)) ?_
         rintro _ ⟨_, _, ⟨rfl, rfl⟩, rfl⟩
         refine eF ?_
         refine aE ?_
         refine tr1 rfl (aY (aA rfl) rfl rfl rfl) ?_
         refine tr1 rfl (aD (v := .d (.lit (.int .i64 ((w64 (t31_0_6 + 1)))))) (aA rfl) rfl rfl) ?_
         refine aF ?_
         exact ⟨(w64 (t31_0_6 + 1), r26.1, r26.2.1, r26.2.2.1, r26.2.2.2), h, aW [0, 1, 2, 3, 4, 5, 6] rfl rfl (aN rfl (aX ⟨rfl, rfl, rfl, rfl, rfl, rfl, rfl, rfl, trivial⟩))⟩
      ·have h := aP c8 h
       refine cY ?_
       refine .inl ⟨rfl, ?_⟩
       simp only [qL] at h
       refine aE ?_
       refine tr1 rfl (aD (v := .bp book_b book_o 0) (aA rfl) rfl rfl) ?_
       refine tr1 rfl (aD (v := .bp book_b book_o 0) (aA rfl) rfl rfl) ?_
       refine tr1 rfl (kF (aA rfl) rfl) ?_
       refine tr1 rfl (aT (aA rfl) rfl iJ) ?_
       refine tr1 rfl (aT (aA rfl) rfl eL) ?_
       refine tr1 rfl (aU (aA rfl) rfl (i := 0) rfl rfl iI) ?_
       refine tr1 rfl (aD (v := .d (.lit (.int .i64 ((book.Ledger.Reports.length : Int))))) (aA rfl) rfl rfl) ?_
       obtain ⟨x28, h29, h⟩ := bind_some h
       refine tr1 rfl (oT (aA rfl) cA.of rfl rfl rfl (rK aC h29)) ?_
       refine tr1 rfl (kF (aA rfl) rfl) ?_
       refine tr1 rfl (aT (aA rfl) rfl iJ) ?_
       refine tr1 rfl (aT (aA rfl) rfl eL) ?_
       refine tr1 rfl (cJ (i := 0) rfl rfl rfl rfl rfl Try.sizeOf22 rfl (aA rfl) (Nat.le_of_ble_eq_true rfl) (ds' := (cB (bQ.mk (aS.mk b_0_6.Ledger.Players b_0_6.Ledger.Counts x28 b_0_6.Ledger.Bans b_0_6.Ledger.Frozen)))) rfl) ?_
       refine aF ?_
       have h := Option.some.inj h
       subst h
       exact ⟨_, [.box book_b book_o (cB (bQ.mk (aS.mk b_0_6.Ledger.Players b_0_6.Ledger.Counts x28 b_0_6.Ledger.Bans b_0_6.Ledger.Frozen))), .box bb_b bb_o [gA book_b book_o 0], .box pl_b pl_o [.lit (.int .i64 pl)], .box wk_b wk_o [.lit (.int .i64 wk)], .box ms_b ms_o [.lit (.bool b_0_6_4)], .box be_b be_o [.lit (.int .i64 b_0_6_5)], .box wo_b wo_o [.lit (.int .i64 b_0_6_6)]], [], _, .none, .refl _, .same _, rfl, rfl⟩
theorem vW (book : bQ) (pl : Int) (wk : Int) (ms : Bool) (be : Int) (wo : Int) (week_1 : Int) (prizes_2 : List Int) (free_3 : List Int) {r : bQ × Bool × Int × Int} {book_b book_o : Nat} {bb_b bb_o : Nat} {pl_b pl_o : Nat} {wk_b wk_o : Nat} {ms_b ms_o : Nat} {be_b be_o : Nat} {wo_b wo_o : Nat} (h : sI book pl wk ms be wo week_1 prizes_2 free_3 = some r) : fS Try.prog 49 [.bp book_b book_o 0, .d (.lit (.int .i64 week_1)), .d (.sl 1 (prizes_2.map cK)), .d (.sl 1 (free_3.map cK)), .fn 50 [.bp bb_b bb_o 0, .bp pl_b pl_o 0, .bp wk_b wk_o 0, .bp ms_b ms_o 0, .bp be_b be_o 0, .bp wo_b wo_o 0]] [.box book_b book_o (cB book), .box bb_b bb_o [gA book_b book_o 0], .box pl_b pl_o [.lit (.int .i64 pl)], .box wk_b wk_o [.lit (.int .i64 wk)], .box ms_b ms_o [.lit (.bool ms)], .box be_b be_o [.lit (.int .i64 be)], .box wo_b wo_o [.lit (.int .i64 wo)]] (fun r' o' => r' = .tup [] ∧ o' = [.box book_b book_o (cB r.1), .box bb_b bb_o [gA book_b book_o 0], .box pl_b pl_o [.lit (.int .i64 pl)], .box wk_b wk_o [.lit (.int .i64 wk)], .box ms_b ms_o [.lit (.bool r.2.1)], .box be_b be_o [.lit (.int .i64 r.2.2.1)], .box wo_b wo_o [.lit (.int .i64 r.2.2.2)]]) := vF BIG _ _ _ _ _ _ _ _ _ h

theorem aBo (l_0 : aS) (player_1 : Int) (week_2 : Int) (prizes_3 : List Int) {r : Int × Int × Int} (h : vE l_0 player_1 week_2 prizes_3 = some r) : Fn Try.prog 17 [.agg (bA l_0), .d (.lit (.int .i64 player_1)), .d (.lit (.int .i64 week_2)), .d (.sl 1 (prizes_3.map cK))] (.tup [.d (.lit (.int .i64 r.1)), .d (.lit (.int .i64 r.2.1)), .d (.lit (.int .i64 r.2.2))]) := by
 unfold vE at h
 refine vO Try.func17 rfl (rs := [.cell 8 3, .cell 9 3, .tmp 10]) Try.results17 Try.ntmps17 (Nat.le_of_ble_eq_true rfl) ?_
 refine aG ?_
 refine aE ?_
 refine bW rfl (fU (v := .agg (bA l_0)) (aA rfl) rfl rfl rfl) ?_
 rintro _ ⟨b1, rfl⟩
 refine bW rfl (fU (v := .d (.lit (.int .i64 player_1))) (aA rfl) rfl rfl rfl) ?_
 rintro _ ⟨b2, rfl⟩
 refine bW rfl (fU (v := .d (.lit (.int .i64 week_2))) (aA rfl) rfl rfl rfl) ?_
 rintro _ ⟨b3, rfl⟩
 refine bW rfl (iF (zs := [.lit (.int .i64 0)]) (aA rfl) Try.zeroValue3 rfl rfl) ?_
 rintro _ ⟨b4, rfl⟩
 refine bW rfl (iF (zs := [.lit (.int .i64 0)]) (aA rfl) Try.zeroValue3 rfl rfl) ?_
 rintro _ ⟨b5, rfl⟩
 refine tr1 rfl (aJ (v := .d (.lit (.int .i64 0))) (aA rfl) rfl rfl) ?_
 refine aF ?_
 refine aG ?_
 refine aE ?_
 refine tr1 rfl (dN (aA rfl) rfl (i := 0) rfl iH (es := (bA l_0)) rfl rfl) ?_
 refine tr1 rfl (aU (aA rfl) rfl (i := 1) rfl rfl bH) ?_
 refine tr1 rfl (aU (aA rfl) rfl (i := 2) rfl rfl bH) ?_
 obtain ⟨r6, h7, h⟩ := bind_some h
 refine bW rfl (dM (passed := []) (aA rfl) rfl (.func _ _ Try.call44) rfl rfl (sN _ _ _ h7)) ?_
 rintro _ ⟨_, _, ⟨b9, w10, rfl, rfl⟩, rfl⟩
 obtain ⟨_ | y8, e11⟩ := r6
 ·have h := wU h
  refine fZ (aW [0, 1, 2, 3, 4] rfl rfl (le_refl _)) ?_
  refine tr1 rfl (aD (v := .tup [.d (.lit (.pointer none)), .d (.lit (.int .i64 e11))]) (aA rfl) rfl rfl) ?_
  refine tr1 rfl (cV (aA rfl) rfl rfl) ?_
  refine tr1 rfl (cV (aA rfl) rfl rfl) ?_
  refine bW rfl (iF (zs := [.lit (.pointer none)]) (aA rfl) Try.zeroValue70 rfl rfl) ?_
  rintro _ ⟨b12, rfl⟩
  refine tr1 rfl (cJ (i := 5) rfl rfl rfl rfl rfl Try.sizeOf70 rfl (aA rfl) (Nat.le_of_ble_eq_true rfl) (ds' := [.lit (.pointer none)]) rfl) ?_
  refine tr1 rfl (aJ (v := .d (.lit (.int .i64 e11))) (aA rfl) rfl rfl) ?_
  refine aF ?_
  refine aG ?_
  refine aG ?_
  refine aE ?_
  refine tr1 rfl (aD (v := .d (.lit (.int .i64 e11))) (aA rfl) rfl rfl) ?_
  refine tr1 rfl (bC (aA rfl) rfl rfl rfl) ?_
  refine aF ?_
  refine bN rfl (fun c13 => ?_) (fun c13 => ?_)
  ·have h := aQ c13 h
   refine aG ?_
   refine aE ?_
   refine tr1 rfl (aD (v := .d (.lit (.int .i64 e11))) (aA rfl) rfl rfl) ?_
   refine tr1 rfl (cJ (i := 3) rfl rfl rfl rfl rfl Try.sizeOf3 rfl (aA rfl) (Nat.le_of_ble_eq_true rfl) (ds' := [.lit (.int .i64 0)]) rfl) ?_
   refine tr1 rfl (cJ (i := 4) rfl rfl rfl rfl rfl Try.sizeOf3 rfl (aA rfl) (Nat.le_of_ble_eq_true rfl) (ds' := [.lit (.int .i64 0)]) rfl) ?_
   refine tr1 rfl (aJ (v := .d (.lit (.int .i64 e11))) (aA rfl) rfl rfl) ?_
   refine aF ?_
   have h := Option.some.inj h
   subst h
   exact bO ⟨rfl, _, [.box b1 0 (bA l_0), .box b2 0 [.lit (.int .i64 player_1)], .box b3 0 [.lit (.int .i64 week_2)], .box b4 0 [.lit (.int .i64 0)], .box b5 0 [.lit (.int .i64 0)], .box b12 0 [.lit (.pointer none)]], .three (.cell1 8 3 rfl (i := 3) rfl bH rfl) (.cell1 9 3 rfl (i := 4) rfl bH rfl) (.tmp 10 (v := .d (.lit (.int .i64 e11))) rfl), .refl _, .same _⟩
  ·have h := aP c13 h
   refine bJ ?_
   refine aG ?_
   refine aG ?_
   refine aE ?_
   refine tr1 rfl (aD (v := .d (.sl 1 (prizes_3.map cK))) (aA rfl) rfl rfl) ?_
   refine tr1 rfl (eB (aA rfl) rfl fE.of) ?_
   refine tr1 rfl (bC (aA rfl) rfl rfl rfl) ?_
   refine tr1 rfl (aD (v := .d (.lit (.bool ((decide (4 < (prizes_3.length : Int))))))) (aA rfl) rfl rfl) ?_
   obtain ⟨b14, h15, h⟩ := bind_some h
   refine bR 3 [3, 5, 6, 8, 9, 11] 31 b14 ?_ ?_
   ·refine bG (decide (4 < (prizes_3.length : Int))) (fun c18 => ?_) (fun c18 => ?_)
    ·have h15 := aQ c18 h15
     refine aM rfl rfl (aA rfl) rfl (aA rfl) rfl c18 ?_
     refine aM rfl rfl (aA rfl) rfl (aA rfl) rfl c18 ?_
     refine tr1 rfl (bM (v := .d (.lit (.bool true))) (aA rfl) rfl c18 rfl rfl) ?_
     have h15 := Option.some.inj h15
     subst h15
     refine aF (aV rfl ⟨rfl, rfl, rfl, rfl, rfl, rfl, trivial⟩ rfl)
    ·have h15 := aP c18 h15
     refine aL rfl rfl (aA rfl) rfl c18 (aD (v := .d (.sl 1 (prizes_3.map cK))) (aA rfl) rfl rfl) ?_
     obtain ⟨r20, h21, h15⟩ := bind_some h15
     refine aL rfl rfl (aA rfl) rfl c18 (bZ (aA rfl) (.func _ _ Try.call45) rfl rfl (BVs.refl _ _) (oA _ _ 46 [] Try.call46 (fun _ _ h15 => uT _ h15) h21) rfl) ?_
     refine tr1 rfl (bL (v := .d (.lit (.bool r20))) (aA rfl) rfl c18 rfl rfl) ?_
     have h15 := Option.some.inj h15
     subst h15
     refine aF (aV rfl ⟨rfl, rfl, rfl, rfl, rfl, rfl, trivial⟩ rfl)
   ·refine aF ?_
    refine bN rfl (fun c16 => ?_) (fun c16 => ?_)
    ·have h := aQ c16 h
     refine aG ?_
     refine aE ?_
     refine tr1 rfl (cJ (i := 3) rfl rfl rfl rfl rfl Try.sizeOf3 rfl (aA rfl) (Nat.le_of_ble_eq_true rfl) (ds' := [.lit (.int .i64 0)]) rfl) ?_
     refine tr1 rfl (cJ (i := 4) rfl rfl rfl rfl rfl Try.sizeOf3 rfl (aA rfl) (Nat.le_of_ble_eq_true rfl) (ds' := [.lit (.int .i64 0)]) rfl) ?_
     refine tr1 rfl (aJ (v := .d (.lit (.int .i64 42))) (aA rfl) rfl rfl) ?_
     refine aF ?_
     have h := Option.some.inj h
     subst h
     exact bO ⟨rfl, _, [.box b1 0 (bA l_0), .box b2 0 [.lit (.int .i64 player_1)], .box b3 0 [.lit (.int .i64 week_2)], .box b4 0 [.lit (.int .i64 0)], .box b5 0 [.lit (.int .i64 0)], .box b12 0 [.lit (.pointer none)]], .three (.cell1 8 3 rfl (i := 3) rfl bH rfl) (.cell1 9 3 rfl (i := 4) rfl bH rfl) (.tmp 10 (v := .d (.lit (.int .i64 42))) rfl), .refl _, .same _⟩
    ·have h := aP c16 h
     refine bJ ?_
     refine aG ?_
     refine aE ?_
     refine tr1 rfl (jN 3 1 (.inl rfl) (aA rfl)) ?_
     refine aF ?_
     refine aG ?_
     refine aG ?_
     refine aE ?_
     refine tr1 rfl (aU (aA rfl) rfl (i := 5) rfl rfl uR) ?_
     cases h
 ·have h := wV h
  refine fZ (aW [0, 1, 2, 3, 4, 5, 6] rfl rfl (le_refl _)) ?_
  refine tr1 rfl (aD (v := .tup [.bp b9 0 0, .d (.lit (.int .i64 e11))]) (aA rfl) rfl rfl) ?_
  refine tr1 rfl (cV (aA rfl) rfl rfl) ?_
  refine tr1 rfl (cV (aA rfl) rfl rfl) ?_
  refine bW rfl (iF (zs := [.lit (.pointer none)]) (aA rfl) Try.zeroValue70 rfl rfl) ?_
  rintro _ ⟨b22, rfl⟩
  refine fZ (aGd 20 rfl) ?_
  refine tr1 rfl (cJ (i := 7) rfl rfl rfl rfl rfl Try.sizeOf70 rfl (aA rfl) (Nat.le_of_ble_eq_true rfl) (ds' := [gA b9 0 0]) rfl) ?_
  refine tr1 rfl (aJ (v := .d (.lit (.int .i64 e11))) (aA rfl) rfl rfl) ?_
  refine aF ?_
  refine aG ?_
  refine aG ?_
  refine aE ?_
  refine tr1 rfl (aD (v := .d (.lit (.int .i64 e11))) (aA rfl) rfl rfl) ?_
  refine tr1 rfl (bC (aA rfl) rfl rfl rfl) ?_
  refine aF ?_
  refine bN rfl (fun c23 => ?_) (fun c23 => ?_)
  ·have h := aQ c23 h
   refine aG ?_
   refine aE ?_
   refine tr1 rfl (aD (v := .d (.lit (.int .i64 e11))) (aA rfl) rfl rfl) ?_
   refine tr1 rfl (cJ (i := 5) rfl rfl rfl rfl rfl Try.sizeOf3 rfl (aA rfl) (Nat.le_of_ble_eq_true rfl) (ds' := [.lit (.int .i64 0)]) rfl) ?_
   refine tr1 rfl (cJ (i := 6) rfl rfl rfl rfl rfl Try.sizeOf3 rfl (aA rfl) (Nat.le_of_ble_eq_true rfl) (ds' := [.lit (.int .i64 0)]) rfl) ?_
   refine tr1 rfl (aJ (v := .d (.lit (.int .i64 e11))) (aA rfl) rfl rfl) ?_
   refine aF ?_
   have h := Option.some.inj h
   subst h
   exact bO ⟨rfl, _, [.box b9 0 [.lit (.int .i64 y8.Ledger.Players), .lit (.int .i64 y8.Ledger.Counts), .lit w10, .sl 3 (y8.Ledger.Bans.map aK), .sl 3 (y8.Ledger.Frozen.map aK)], .arr w10 42 5 (y8.Ledger.Reports.map aC), .box b1 0 (bA l_0), .box b2 0 [.lit (.int .i64 player_1)], .box b3 0 [.lit (.int .i64 week_2)], .box b4 0 [.lit (.int .i64 0)], .box b5 0 [.lit (.int .i64 0)], .box b22 0 [gA b9 0 0]], .three (.cell1 8 3 rfl (i := 5) rfl bH rfl) (.cell1 9 3 rfl (i := 6) rfl bH rfl) (.tmp 10 (v := .d (.lit (.int .i64 e11))) rfl), .refl _, .same _⟩
  ·have h := aP c23 h
   refine bJ ?_
   refine aG ?_
   refine aG ?_
   refine aE ?_
   refine tr1 rfl (aD (v := .d (.sl 1 (prizes_3.map cK))) (aA rfl) rfl rfl) ?_
   refine tr1 rfl (eB (aA rfl) rfl fE.of) ?_
   refine tr1 rfl (bC (aA rfl) rfl rfl rfl) ?_
   refine tr1 rfl (aD (v := .d (.lit (.bool ((decide (4 < (prizes_3.length : Int))))))) (aA rfl) rfl rfl) ?_
   obtain ⟨b24, h25, h⟩ := bind_some h
   refine bR 3 [3, 5, 6, 8, 9, 11] 31 b24 ?_ ?_
   ·refine bG (decide (4 < (prizes_3.length : Int))) (fun c43 => ?_) (fun c43 => ?_)
    ·have h25 := aQ c43 h25
     refine aM rfl rfl (aA rfl) rfl (aA rfl) rfl c43 ?_
     refine aM rfl rfl (aA rfl) rfl (aA rfl) rfl c43 ?_
     refine tr1 rfl (bM (v := .d (.lit (.bool true))) (aA rfl) rfl c43 rfl rfl) ?_
     have h25 := Option.some.inj h25
     subst h25
     refine aF (aV rfl ⟨rfl, rfl, rfl, rfl, rfl, rfl, trivial⟩ rfl)
    ·have h25 := aP c43 h25
     refine aL rfl rfl (aA rfl) rfl c43 (aD (v := .d (.sl 1 (prizes_3.map cK))) (aA rfl) rfl rfl) ?_
     obtain ⟨r45, h46, h25⟩ := bind_some h25
     refine aL rfl rfl (aA rfl) rfl c43 (bZ (aA rfl) (.func _ _ Try.call45) rfl rfl (BVs.refl _ _) (oA _ _ 46 [] Try.call46 (fun _ _ h25 => uT _ h25) h46) rfl) ?_
     refine tr1 rfl (bL (v := .d (.lit (.bool r45))) (aA rfl) rfl c43 rfl rfl) ?_
     have h25 := Option.some.inj h25
     subst h25
     refine aF (aV rfl ⟨rfl, rfl, rfl, rfl, rfl, rfl, trivial⟩ rfl)
   ·refine aF ?_
    refine bN rfl (fun c26 => ?_) (fun c26 => ?_)
    ·have h := aQ c26 h
     refine aG ?_
     refine aE ?_
     refine tr1 rfl (cJ (i := 5) rfl rfl rfl rfl rfl Try.sizeOf3 rfl (aA rfl) (Nat.le_of_ble_eq_true rfl) (ds' := [.lit (.int .i64 0)]) rfl) ?_
     refine tr1 rfl (cJ (i := 6) rfl rfl rfl rfl rfl Try.sizeOf3 rfl (aA rfl) (Nat.le_of_ble_eq_true rfl) (ds' := [.lit (.int .i64 0)]) rfl) ?_
     refine tr1 rfl (aJ (v := .d (.lit (.int .i64 42))) (aA rfl) rfl rfl) ?_
     refine aF ?_
     have h := Option.some.inj h
     subst h
     exact bO ⟨rfl, _, [.box b9 0 [.lit (.int .i64 y8.Ledger.Players), .lit (.int .i64 y8.Ledger.Counts), .lit w10, .sl 3 (y8.Ledger.Bans.map aK), .sl 3 (y8.Ledger.Frozen.map aK)], .arr w10 42 5 (y8.Ledger.Reports.map aC), .box b1 0 (bA l_0), .box b2 0 [.lit (.int .i64 player_1)], .box b3 0 [.lit (.int .i64 week_2)], .box b4 0 [.lit (.int .i64 0)], .box b5 0 [.lit (.int .i64 0)], .box b22 0 [gA b9 0 0]], .three (.cell1 8 3 rfl (i := 5) rfl bH rfl) (.cell1 9 3 rfl (i := 6) rfl bH rfl) (.tmp 10 (v := .d (.lit (.int .i64 42))) rfl), .refl _, .same _⟩
    ·have h := aP c26 h
     refine bJ ?_
     refine aG ?_
     refine aE ?_
     refine tr1 rfl (jN 3 1 (.inl rfl) (aA rfl)) ?_
     refine aF ?_
     refine aG ?_
     refine aG ?_
     refine aE ?_
     refine tr1 rfl (rZ (i := 7) (aA rfl) rfl rfl rfl uR) ?_
     refine tr1 rfl (kF (aA rfl) rfl) ?_
     refine tr1 rfl (aT (aA rfl) rfl iJ) ?_
     refine tr1 rfl (aT (aA rfl) rfl jC) ?_
     refine tr1 rfl (aU (aA rfl) rfl (i := 0) rfl rfl bH) ?_
     refine tr1 rfl (aD (v := .d (.lit (.int .i64 0))) (aA rfl) rfl rfl) ?_
     refine aF ?_
     refine bT ?_
     refine cO [3, 5, 6, 8, 9, 11, 36] (fun (s28 : Int × (List Int) × Value) => [(12, .d (.lit s28.2.2)), (37, .d (.lit (.int .i64 s28.1)))]) (fun (s28 : Int × (List Int) × Value) => [.box b2 0 [.lit (.int .i64 player_1)], .box b3 0 [.lit (.int .i64 week_2)], .box b4 0 [.lit (.int .i64 0)], .box b5 0 [.lit (.int .i64 0)], .box b22 0 [gA b9 0 0], .arr s28.2.2 3 1 (s28.2.1.map cK), .arr w10 42 5 (y8.Ledger.Reports.map aC), .box b9 0 [.lit (.int .i64 y8.Ledger.Players), .lit (.int .i64 y8.Ledger.Counts), .lit w10, .sl 3 (y8.Ledger.Bans.map aK), .sl 3 (y8.Ledger.Frozen.map aK)]]) (fun (k : Nat) (s28 : Int × (List Int) × Value) => nE prizes_3 y8.Ledger.Players player_1 week_2 0 0 y8.Ledger.Reports y8.Ledger.Players y8.Ledger.Counts y8.Ledger.Bans y8.Ledger.Frozen k s28.1 s28.2.1) (fun _ => rfl) (0, ([] : List Int), (.slice none 0 0)) h (aW [3, 4, 5, 6, 7, 8, 1, 0] rfl rfl (aN rfl (aN rfl (aX ⟨rfl, rfl, rfl, rfl, rfl, rfl, rfl, trivial⟩)))) ?_
     rintro k30 ⟨t37_0_28, free_0_28, w29⟩ h
     simp only [nE] at h
     refine aG ?_
     refine aE ?_
     refine tr1 rfl (bC (aA rfl) rfl rfl rfl) ?_
     refine aF ?_
     refine aG ?_
     refine bN rfl (fun c31 => ?_) (fun c31 => ?_)
     ·have h := aQ c31 h
      refine bJ ?_
      refine aG ?_
      refine bT ?_
      refine aG ?_
      refine aE ?_
      refine tr1 rfl (aD (v := .d (.lit (.int .i64 t37_0_28))) (aA rfl) rfl rfl) ?_
      refine tr1 rfl (aJ (v := .d (.lit (.int .i64 t37_0_28))) (aA rfl) rfl rfl) ?_
      refine aF ?_
      refine aG ?_
      refine hZ mix 7 [3, 5, 6, 8, 9, 11, 12, 13, 36, 37] [(44, .d (.sl 3 (y8.Ledger.Bans.map aK))), (45, .d (.lit (.int .i64 t37_0_28))), (46, .d (.lit (.int .i64 week_2)))] ?_ ?_
      ·refine ⟨[(40, 0, .bp b9 0 0), (41, 1, .bp b9 0 0), (42, 2, .bp b9 0 0), (43, 3, .bp b9 0 3), (44, 4, .d (.sl 3 (y8.Ledger.Bans.map aK))), (45, 5, .d (.lit (.int .i64 t37_0_28))), (46, 6, .d (.lit (.int .i64 week_2)))], ?_, ?_⟩
       · exact ⟨by kernel_rfl, by kernel_rfl, by kernel_rfl, by kernel_rfl, by kernel_rfl, [([], []), ([0], []), ([1], []), ([2], []), ([3], []), ([], []), ([], [])], by kernel_rfl, ⟨fun S hS => aI rfl (aO rfl (rZ (i := 4) (aA rfl) (aH hS rfl) rfl rfl uR)),
      fun S hS => aI rfl (aO rfl (kF (aA rfl) (aH hS rfl))),
      fun S hS => aI rfl (aO rfl (aT (aA rfl) (aH hS rfl) iJ)),
      fun S hS => aI rfl (aO rfl (aT (aA rfl) (aH hS rfl) rC)),
      fun S hS => aI rfl (aO rfl (aU (aA rfl) (aH hS rfl) (i := 7) rfl rfl lQ)),
      fun S hS => aI rfl (aO rfl (aD (v := .d (.lit (.int .i64 t37_0_28))) (aA rfl) (aH hS rfl) rfl)),
      fun S hS => aI rfl (aO rfl (aU (aA rfl) (aH hS rfl) (i := 1) rfl rfl bH)), trivial⟩⟩
       · exact eE (aN rfl (aN rfl (aN rfl (aX ⟨rfl, rfl, rfl, rfl, rfl, rfl, rfl, rfl, rfl, rfl, trivial⟩))))
      ·obtain ⟨r32, h33, h⟩ := bind_some h
       refine tr1 rfl (bZ (aA rfl) (.func _ _ Try.call48) rfl rfl (BVs.refl _ _) (uG _ _ _ h33) rfl) ?_
       refine tr1 rfl (fF (aA rfl) rfl) ?_
       refine aF ?_
       refine bN rfl (fun c34 => ?_) (fun c34 => ?_)
       ·have h := aQ c34 h
        refine aE ?_
        refine tr1 rfl (aD (v := .d (.lit w29)) (aA rfl) rfl rfl) ?_
        refine tr1 rfl (aD (v := .d (.lit (.int .i64 t37_0_28))) (aA rfl) rfl rfl) ?_
        refine tr1 rfl (jX (aA rfl) fE rfl rfl (rows := ([t37_0_28]).map cK) rfl (eA (f := cK) fun _ => rfl) rfl (by decide)) ?_
        obtain ⟨x35, h36, h⟩ := bind_some h
        refine bW rfl (pY (i := 5) (aA rfl) fE rfl rfl rfl (fun _ => rfl) h36 rfl) ?_
        rintro _ ⟨v37, rfl⟩
        refine tr1 rfl (aJ (v := .d (.lit v37)) (aA rfl) rfl rfl) ?_
        refine eF ?_
        refine aE ?_
        refine tr1 rfl (aY (aA rfl) rfl rfl rfl) ?_
        refine tr1 rfl (aD (v := .d (.lit (.int .i64 ((w64 (t37_0_28 + 1)))))) (aA rfl) rfl rfl) ?_
        refine aF ?_
        exact ⟨(w64 (t37_0_28 + 1), x35, v37), h, aW [0, 1, 2, 3, 4, 5, 6, 7] rfl rfl (aN rfl (aN rfl (aX ⟨rfl, rfl, rfl, rfl, rfl, rfl, rfl, trivial⟩)))⟩
       ·have h := aP c34 h
        refine fC ?_
        refine aE ?_
        refine tr1 rfl (aY (aA rfl) rfl rfl rfl) ?_
        refine tr1 rfl (aD (v := .d (.lit (.int .i64 ((w64 (t37_0_28 + 1)))))) (aA rfl) rfl rfl) ?_
        refine aF ?_
        exact ⟨(w64 (t37_0_28 + 1), free_0_28, w29), h, aW [0, 1, 2, 3, 4, 5, 6, 7] rfl rfl (aN rfl (aN rfl (aX ⟨rfl, rfl, rfl, rfl, rfl, rfl, rfl, trivial⟩)))⟩
     ·have h := aP c31 h
      refine cY ?_
      refine .inl ⟨rfl, ?_⟩
      simp only [vR] at h
      refine aG ?_
      refine aE ?_
      refine tr1 rfl (rZ (i := 4) (aA rfl) rfl rfl rfl uR) ?_
      refine tr1 rfl (kF (aA rfl) rfl) ?_
      refine tr1 rfl (aT (aA rfl) rfl iJ) ?_
      refine tr1 rfl (aT (aA rfl) rfl jC) ?_
      refine tr1 rfl (aU (aA rfl) rfl (i := 7) rfl rfl bH) ?_
      refine tr1 rfl (aY (aA rfl) rfl rfl rfl) ?_
      refine tr1 rfl (cJ (i := 2) rfl rfl rfl rfl rfl Try.sizeOf3 rfl (aA rfl) (Nat.le_of_ble_eq_true rfl) (ds' := [.lit (.int .i64 ((w64 (y8.Ledger.Players + 1))))]) rfl) ?_
      refine tr1 rfl (cJ (i := 3) rfl rfl rfl rfl rfl Try.sizeOf3 rfl (aA rfl) (Nat.le_of_ble_eq_true rfl) (ds' := [.lit (.int .i64 0)]) rfl) ?_
      refine aF ?_
      refine aG ?_
      refine aE ?_
      refine bW rfl (iF (zs := [.lit (.bool false)]) (aA rfl) Try.zeroValue4 rfl rfl) ?_
      rintro _ ⟨b38, rfl⟩
      refine tr1 rfl (cJ (i := 8) rfl rfl rfl rfl rfl Try.sizeOf4 rfl (aA rfl) (Nat.le_of_ble_eq_true rfl) (ds' := [.lit (.bool false)]) rfl) ?_
      refine aF ?_
      refine aG ?_
      refine aE ?_
      refine tr1 rfl (rZ (i := 4) (aA rfl) rfl rfl rfl uR) ?_
      refine tr1 rfl (aU (aA rfl) rfl (i := 1) rfl rfl bH) ?_
      refine tr1 rfl (aD (v := .d (.sl 1 (prizes_3.map cK))) (aA rfl) rfl rfl) ?_
      refine tr1 rfl (aD (v := .d (.lit w29)) (aA rfl) rfl rfl) ?_
      refine tr1 rfl (wZ (aA rfl) rfl rfl) ?_
      refine fZ (aW [0, 1, 2, 3, 4, 6, 7, 8, 5] rfl rfl (le_refl _)) ?_
      refine fZ (zJ [.box b2 0 [.lit (.int .i64 player_1)], .box b3 0 [.lit (.int .i64 week_2)], .box b4 0 [.lit (.int .i64 ((w64 (y8.Ledger.Players + 1))))], .box b5 0 [.lit (.int .i64 0)], .box b22 0 [gA b9 0 0], .arr w10 42 5 (y8.Ledger.Reports.map aC), .box b9 0 [.lit (.int .i64 y8.Ledger.Players), .lit (.int .i64 y8.Ledger.Counts), .lit w10, .sl 3 (y8.Ledger.Bans.map aK), .sl 3 (y8.Ledger.Frozen.map aK)], .box b38 0 [.lit (.bool false)]] [.arr w29 3 1 (free_0_28.map cK)] rfl (jH (k := 63) (v := .d (.sl 1 (free_0_28.map cK))) (.d (kI 0 rfl (eA (f := cK) fun _ => rfl))) (jH (k := 12) (v := .d (.sl 1 (free_0_28.map cK))) (.d (kI 0 rfl (eA (f := cK) fun _ => rfl))) (sW _ _)))) ?_
      refine fZ (aW [6, 0, 1, 2, 3, 4, 7, 5] rfl rfl (le_refl _)) ?_
      refine fZ (aDg (ds' := (cB y8)) [.box b2 0 [.lit (.int .i64 player_1)], .box b3 0 [.lit (.int .i64 week_2)], .box b4 0 [.lit (.int .i64 ((w64 (y8.Ledger.Players + 1))))], .box b5 0 [.lit (.int .i64 0)], .box b22 0 [gA b9 0 0], .box b38 0 [.lit (.bool false)]] [.arr w10 42 5 (y8.Ledger.Reports.map aC)] rfl (dvc (.same _) (dvc (.same _) (dvc (kI 0 rfl (eA (f := aC) fun _ => rfl)) (dvc (.same _) (dvc (.same _) dvn))))) (sW _ _)) ?_
      obtain ⟨r39, h40, h⟩ := bind_some h
      refine fZ (aW [0, 5, 1, 2, 6, 3, 4] rfl rfl (le_refl _)) ?_
      refine bW rfl (dM (passed := [.box b9 0 (cB y8), .box b22 0 [gA b9 0 0], .box b2 0 [.lit (.int .i64 player_1)], .box b3 0 [.lit (.int .i64 week_2)], .box b38 0 [.lit (.bool false)], .box b4 0 [.lit (.int .i64 ((w64 (y8.Ledger.Players + 1))))], .box b5 0 [.lit (.int .i64 0)]]) (aA rfl) rfl (.func _ _ Try.call49) rfl rfl (vW y8 player_1 week_2 false (w64 (y8.Ledger.Players + 1)) 0 week_2 prizes_3 free_0_28 h40)) ?_
      rintro _ ⟨_, _, ⟨rfl, rfl⟩, rfl⟩
      refine aF ?_
      refine aG ?_
      refine aG ?_
      refine aE ?_
      refine tr1 rfl (aU (aA rfl) rfl (i := 4) rfl rfl rP) ?_
      refine aF ?_
      refine bN rfl (fun c41 => ?_) (fun c41 => ?_)
      ·have h := aQ c41 h
       refine aG ?_
       refine aE ?_
       refine tr1 rfl (cJ (i := 5) rfl rfl rfl rfl rfl Try.sizeOf3 rfl (aA rfl) (Nat.le_of_ble_eq_true rfl) (ds' := [.lit (.int .i64 0)]) rfl) ?_
       refine tr1 rfl (cJ (i := 6) rfl rfl rfl rfl rfl Try.sizeOf3 rfl (aA rfl) (Nat.le_of_ble_eq_true rfl) (ds' := [.lit (.int .i64 0)]) rfl) ?_
       refine tr1 rfl (aJ (v := .d (.lit (.int .i64 3))) (aA rfl) rfl rfl) ?_
       refine aF ?_
       have h := Option.some.inj h
       subst h
       exact bO ⟨rfl, _, [.box b9 0 (cB r39.1), .box b22 0 [gA b9 0 0], .box b2 0 [.lit (.int .i64 player_1)], .box b3 0 [.lit (.int .i64 week_2)], .box b38 0 [.lit (.bool r39.2.1)], .box b4 0 [.lit (.int .i64 0)], .box b5 0 [.lit (.int .i64 0)]], .three (.cell1 8 3 rfl (i := 5) rfl bH rfl) (.cell1 9 3 rfl (i := 6) rfl bH rfl) (.tmp 10 (v := .d (.lit (.int .i64 3))) rfl), .refl _, .same _⟩
      ·have h := aP c41 h
       refine bJ ?_
       refine aG ?_
       refine mG mix 3 [8, 9] (fun X42 => [(68, .d (.lit (.int .i64 r39.2.2.2)))]) (fun X42 => [.box b9 0 (cB r39.1), .box b22 0 [gA b9 0 0], .box b2 0 [.lit (.int .i64 player_1)], .box b3 0 [.lit (.int .i64 week_2)], .box b38 0 [.lit (.bool r39.2.1)], .box b4 0 [.lit (.int .i64 r39.2.2.1)], .box b5 0 [.lit (.int .i64 r39.2.2.2)]]) ?_ ?_
       ·refine ⟨0, fun X42 => [(67, 0, .d (.lit (.int .i64 r39.2.2.1))), (68, 1, .d (.lit (.int .i64 r39.2.2.2)))], fun X42 => [([], .box b9 0 (cB r39.1)), ([], .box b22 0 [gA b9 0 0]), ([], .box b2 0 [.lit (.int .i64 player_1)]), ([], .box b3 0 [.lit (.int .i64 week_2)]), ([], .box b38 0 [.lit (.bool r39.2.1)]), ([(2, .box b4 0 [.lit (.int .i64 r39.2.2.1)])], .box b4 0 [.lit (.int .i64 r39.2.2.1)]), ([], .box b5 0 [.lit (.int .i64 r39.2.2.2)])], ?_, ?_⟩
        · exact ⟨by kernel_rfl, by kernel_rfl, by kernel_rfl, fun _ => by kernel_rfl, fun _ => by kernel_rfl, fun _ => by kernel_rfl, fun _ => rfl, [([], [2]), ([], []), ([0], [])], by kernel_rfl, ⟨fun X42 S hw hi hS => bK (X := X42) rfl (hw X42) rfl (aO rfl (aU (aA rfl) (aH hS rfl) (i := 5) (og hS rfl rfl) rfl bH)),
      fun X42 S hw hi hS => bK (X := X42) rfl (hw X42) rfl (aO rfl (aU (aA rfl) (aH hS rfl) (i := 6) (og hS rfl rfl) rfl bH)),
      fun X42 S hw hi hS => qA (X := X42) hS rfl rfl rfl (p := 5) rfl rfl (aO rfl (cJ (i := 5) (aH hS rfl) (og hS rfl rfl) (aH hS rfl) rfl rfl Try.sizeOf3 rfl (aA rfl) (Nat.le_of_ble_eq_true rfl) (ds' := [.lit (.int .i64 r39.2.2.1)]) rfl)), trivial⟩⟩
        · exact fun X42 => eE (aN rfl (aX ⟨rfl, rfl, trivial⟩))
       ·intro X42
        refine tr1 rfl (cJ (i := 6) rfl rfl rfl rfl rfl Try.sizeOf3 rfl (aA rfl) (Nat.le_of_ble_eq_true rfl) (ds' := [.lit (.int .i64 r39.2.2.2)]) rfl) ?_
        refine tr1 rfl (aJ (v := .d (.lit (.int .i64 0))) (aA rfl) rfl rfl) ?_
        refine aF ?_
        have h := Option.some.inj h
        subst h
        exact bO ⟨rfl, _, [.box b9 0 (cB r39.1), .box b22 0 [gA b9 0 0], .box b2 0 [.lit (.int .i64 player_1)], .box b3 0 [.lit (.int .i64 week_2)], .box b38 0 [.lit (.bool r39.2.1)], .box b4 0 [.lit (.int .i64 r39.2.2.1)], .box b5 0 [.lit (.int .i64 r39.2.2.2)]], .three (.cell1 8 3 rfl (i := 5) rfl bH rfl) (.cell1 9 3 rfl (i := 6) rfl bH rfl) (.tmp 10 (v := .d (.lit (.int .i64 0))) rfl), .refl _, .same _⟩

theorem oI (b_0 : bQ) (player_1 : Int) (week_2 : Int) {r : Int} (h : gF b_0 player_1 week_2 = some r) : Fn Try.prog 55 [.cp (cB b_0), .d (.lit (.int .i64 player_1)), .d (.lit (.int .i64 week_2))] (.d (.lit (.int .i64 r))) := by
 unfold gF at h
 refine Fn.of_tr Try.func55 rfl (rs := [.tmp 6]) Try.results55 Try.ntmps55 (Nat.le_of_ble_eq_true rfl) ?_
 refine aG ?_
 refine aE ?_
 refine tr1 rfl (aJ (v := .d (.lit (.int .i64 0))) (aA rfl) rfl rfl) ?_
 refine aF ?_
 refine aG ?_
 refine aE ?_
 refine tr1 rfl (aD (v := .cp [.lit (.int .i64 b_0.Ledger.Players), .lit (.int .i64 b_0.Ledger.Counts), .sl 5 (b_0.Ledger.Reports.map aC), .sl 3 (b_0.Ledger.Bans.map aK), .sl 3 (b_0.Ledger.Frozen.map aK)]) (aA rfl) rfl rfl) ?_
 refine tr1 rfl (aD (v := .cp [.lit (.int .i64 b_0.Ledger.Players), .lit (.int .i64 b_0.Ledger.Counts), .sl 5 (b_0.Ledger.Reports.map aC), .sl 3 (b_0.Ledger.Bans.map aK), .sl 3 (b_0.Ledger.Frozen.map aK)]) (aA rfl) rfl rfl) ?_
 refine tr1 rfl (aD (v := .d (.lit (.int .i64 player_1))) (aA rfl) rfl rfl) ?_
 refine tr1 rfl (aD (v := .d (.lit (.int .i64 week_2))) (aA rfl) rfl rfl) ?_
 obtain ⟨r1, h2, h⟩ := bind_some h
 refine tr1 rfl (oR (aA rfl) (.func _ _ Try.call72) rfl rfl (sH _ _ _ h2)) ?_
 obtain ⟨r3, h4, h⟩ := bind_some h
 refine tr1 rfl (oR (aA rfl) (.func _ _ Try.call71) rfl rfl (sJ _ _ h4)) ?_
 obtain ⟨r5, h6, h⟩ := bind_some h
 refine tr1 rfl (bZ (aA rfl) (.func _ _ Try.call86) rfl rfl (BVs.refl _ _) (yX _ h6) rfl) ?_
 refine tr1 rfl (aJ (v := .d (.lit (.int .i64 r5))) (aA rfl) rfl rfl) ?_
 refine aF ?_
 have h := Option.some.inj h
 subst h
 exact bO ⟨rfl, _, .one _, rfl, rfl⟩

theorem qW (s_0 : List aB) (f_1 : aB → Option Bool) {r : Int} (f_1_f : Nat) (f_1_v : List AV) (f_1_e : ∀ args w, (callFunc f_1_f args).run Try.prog w = .ok (.enter f_1_f args) w) (f_1_h : ∀ (x0 : aB) r, f_1 x0 = some r → Fn Try.prog f_1_f ([.agg (aC x0)] ++ f_1_v) (.d (.lit (.bool r)))) (h : gE s_0 f_1 = some r) : Fn Try.prog 75 [.d (.sl 5 (s_0.map aC)), .fn f_1_f f_1_v] (.d (.lit (.int .i64 r))) := by
 unfold gE at h
 refine Fn.of_tr Try.func75 rfl (rs := [.tmp 4]) Try.results75 Try.ntmps75 (Nat.le_of_ble_eq_true rfl) ?_
 refine aG ?_
 refine aE ?_
 refine tr1 rfl (aJ (v := .d (.lit (.int .i64 0))) (aA rfl) rfl rfl) ?_
 refine aF ?_
 refine aG ?_
 refine aG ?_
 refine aE ?_
 refine tr1 rfl (aD (v := .d (.sl 5 (s_0.map aC))) (aA rfl) rfl rfl) ?_
 refine tr1 rfl (eB (aA rfl) rfl cA.of) ?_
 refine tr1 rfl (aD (v := .d (.lit (.int .i64 0))) (aA rfl) rfl rfl) ?_
 refine aF ?_
 refine bT ?_
 refine cO [0, 1, 7] (fun (s1 : Int) => [(8, .d (.lit (.int .i64 s1)))]) (fun (s1 : Int) => []) (fun (k : Nat) (s1 : Int) => eC s_0 f_1 (s_0.length : Int) k s1) (fun _ => rfl) (0) h (aW [] rfl rfl (aN rfl (aX ⟨rfl, rfl, rfl, trivial⟩))) ?_
 rintro k2 t8_0_1 h
 simp only [eC] at h
 refine aG ?_
 refine aE ?_
 refine tr1 rfl (bC (aA rfl) rfl rfl rfl) ?_
 refine aF ?_
 refine aG ?_
 refine bN rfl (fun c3 => ?_) (fun c3 => ?_)
 ·have h := aQ c3 h
  refine bJ ?_
  refine aG ?_
  refine bT ?_
  refine aG ?_
  refine aE ?_
  refine tr1 rfl (aD (v := .d (.lit (.int .i64 t8_0_1))) (aA rfl) rfl rfl) ?_
  refine tr1 rfl (aJ (v := .d (.lit (.int .i64 t8_0_1))) (aA rfl) rfl rfl) ?_
  refine aF ?_
  refine aG ?_
  refine aE ?_
  refine tr1 rfl (aD (v := .fn f_1_f f_1_v) (aA rfl) rfl rfl) ?_
  refine tr1 rfl (aD (v := .d (.sl 5 (s_0.map aC))) (aA rfl) rfl rfl) ?_
  refine tr1 rfl (aD (v := .d (.lit (.int .i64 t8_0_1))) (aA rfl) rfl rfl) ?_
  obtain ⟨x4, h5, h⟩ := bind_some h
  refine tr1 rfl (cF (aA rfl) rfl rfl cA.of (bP aC h5)) ?_
  refine tr1 rfl (iG (aA rfl) rfl eD (es := (aC x4)) rfl rfl) ?_
  obtain ⟨r6, h7, h⟩ := bind_some h
  refine tr1 rfl (bZ (aA rfl) (.clo _ _ _ _ f_1_e rfl) (tB rfl) rfl (BVs.refl _ _) (f_1_h _ _  h7) rfl) ?_
  refine aF ?_
  refine bN rfl (fun c8 => ?_) (fun c8 => ?_)
  ·have h := aQ c8 h
   refine aG ?_
   refine aE ?_
   refine tr1 rfl (aD (v := .d (.lit (.int .i64 t8_0_1))) (aA rfl) rfl rfl) ?_
   refine tr1 rfl (aJ (v := .d (.lit (.int .i64 t8_0_1))) (aA rfl) rfl rfl) ?_
   refine aF ?_
   have h := Option.some.inj h
   subst h
   exact bO ⟨rfl, _, .one _, rfl, rfl⟩
  ·have h := aP c8 h
   refine fC ?_
   refine aE ?_
   refine tr1 rfl (aY (aA rfl) rfl rfl rfl) ?_
   refine tr1 rfl (aD (v := .d (.lit (.int .i64 ((w64 (t8_0_1 + 1)))))) (aA rfl) rfl rfl) ?_
   refine aF ?_
   exact ⟨(w64 (t8_0_1 + 1)), h, aW [] rfl rfl (aN rfl (aX ⟨rfl, rfl, rfl, trivial⟩))⟩
 ·have h := aP c3 h
  refine cY ?_
  refine .inl ⟨rfl, ?_⟩
  simp only [jE] at h
  refine aG ?_
  refine aE ?_
  refine tr1 rfl (aJ (v := .d (.lit (.int .i64 (-1)))) (aA rfl) rfl rfl) ?_
  refine aF ?_
  have h := Option.some.inj h
  subst h
  exact bO ⟨rfl, _, .one _, rfl, rfl⟩

theorem qS (s_0 : List aB) (del_1 : aB → Option Bool) {r : (List aB)} {s_0_v : Value} (del_1_f : Nat) (del_1_v : List AV) (del_1_e : ∀ args w, (callFunc del_1_f args).run Try.prog w = .ok (.enter del_1_f args) w) (del_1_h : ∀ (x0 : aB) r, del_1 x0 = some r → Fn Try.prog del_1_f ([.agg (aC x0)] ++ del_1_v) (.d (.lit (.bool r)))) (h : eG s_0 del_1 = some r) : fS Try.prog 56 [.d (.lit s_0_v), .fn del_1_f del_1_v] [.arr s_0_v 42 5 (s_0.map aC)] (fun r' o' => ∃ w0 : Value, r' = .d (.lit w0) ∧ o' = [.arr w0 42 5 (r.map aC)]) := by
 unfold eG at h
 refine mA Try.func56 rfl (rs := [.tmp 4]) Try.results56 Try.ntmps56 (Nat.le_of_ble_eq_true rfl) ?_
 refine aG ?_
 refine aE ?_
 refine tr1 rfl (jN 42 5 (.inl rfl) (aA rfl)) ?_
 refine aF ?_
 refine aG ?_
 refine aE ?_
 refine tr1 rfl (aD (v := .d (.lit s_0_v)) (aA rfl) rfl rfl) ?_
 refine tr1 rfl (aD (v := .fn del_1_f del_1_v) (aA rfl) rfl rfl) ?_
 obtain ⟨r2, h3, h⟩ := bind_some h
 refine tr1 rfl (bZ (aA rfl) (.func _ _ Try.call75) rfl rfl (.cons (.d (kI 0 rfl (eA (f := aC) fun _ => rfl))) (.cons (.same _) .nil)) (qW _ _ del_1_f del_1_v del_1_e del_1_h h3) rfl) ?_
 refine tr1 rfl (aJ (v := .d (.lit (.int .i64 r2))) (aA rfl) rfl rfl) ?_
 refine aF ?_
 refine aG ?_
 refine aG ?_
 refine aE ?_
 refine tr1 rfl (aD (v := .d (.lit (.int .i64 r2))) (aA rfl) rfl rfl) ?_
 refine tr1 rfl (bC (aA rfl) rfl rfl rfl) ?_
 refine aF ?_
 refine bN rfl (fun c4 => ?_) (fun c4 => ?_)
 ·have h := aQ c4 h
  refine aG ?_
  refine aE ?_
  refine tr1 rfl (aD (v := .d (.lit s_0_v)) (aA rfl) rfl rfl) ?_
  refine tr1 rfl (aJ (v := .d (.lit s_0_v)) (aA rfl) rfl rfl) ?_
  refine aF ?_
  have h := Option.some.inj h
  subst h
  exact bO ⟨rfl, _, [.arr s_0_v 42 5 (s_0.map aC)], [.arr (.slice none 0 0) 42 5 (([] : List aB).map aC)], _, .one (.tmp 4 (v := .d (.lit s_0_v)) rfl), .refl _, .same _, s_0_v, rfl, rfl⟩
 ·have h := aP c4 h
  refine bJ ?_
  refine aG ?_
  refine aG ?_
  refine aE ?_
  refine tr1 rfl (aD (v := .d (.lit (.int .i64 r2))) (aA rfl) rfl rfl) ?_
  refine tr1 rfl (aY (aA rfl) rfl rfl rfl) ?_
  refine tr1 rfl (aJ (v := .d (.lit (.int .i64 ((w64 (r2 + 1)))))) (aA rfl) rfl rfl) ?_
  refine aF ?_
  refine bT ?_
  refine cO [1] (fun (s5 : Int × Int × (List aB)) => [(0, .d (.lit s_0_v)), (5, .d (.lit (.int .i64 s5.1))), (6, .d (.lit (.int .i64 s5.2.1)))]) (fun (s5 : Int × Int × (List aB)) => [.arr s_0_v 42 5 (s5.2.2.map aC)]) (fun (k : Nat) (s5 : Int × Int × (List aB)) => dO del_1 k s5.1 s5.2.1 s5.2.2) (fun _ => rfl) (r2, w64 (r2 + 1), s_0) h (aW [0] rfl rfl (aN rfl (aN rfl (aN rfl (aX ⟨rfl, trivial⟩))))) ?_
  rintro k6 ⟨i_0_5, j_0_5, s_0_5⟩ h
  simp only [dO] at h
  refine aG ?_
  refine aG ?_
  refine aE ?_
  refine tr1 rfl (aD (v := .d (.lit (.int .i64 j_0_5))) (aA rfl) rfl rfl) ?_
  refine tr1 rfl (aD (v := .d (.lit s_0_v)) (aA rfl) rfl rfl) ?_
  refine tr1 rfl (lB (m := 0) (aA rfl) rfl rfl cA.of) ?_
  refine tr1 rfl (bC (aA rfl) rfl rfl rfl) ?_
  refine aF ?_
  refine bN rfl (fun c7 => ?_) (fun c7 => ?_)
  ·have h := aQ c7 h
   refine bJ ?_
   refine aG ?_
   refine bT ?_
   refine aG ?_
   refine aE ?_
   refine tr1 rfl (aD (v := .d (.lit s_0_v)) (aA rfl) rfl rfl) ?_
   refine tr1 rfl (aD (v := .d (.lit (.int .i64 j_0_5))) (aA rfl) rfl rfl) ?_
   obtain ⟨x8, h9, h⟩ := bind_some h
   refine tr1 rfl (cC (m := 0) (aA rfl) rfl rfl rfl cA.of (bP aC h9)) ?_
   refine tr1 rfl (dC (aA rfl) rfl (l := 0) rfl (dW aC h9) eD (es := (aC x8)) rfl rfl) ?_
   refine bW rfl (iF (zs := [.lit (.int .i64 0), .lit (.int .i64 0), .lit (.int .i64 0), .lit (.int .i64 0), .lit (.bool false)]) (aA rfl) Try.zeroValue42 rfl rfl) ?_
   rintro _ ⟨b10, rfl⟩
   refine tr1 rfl (cJ (i := 1) rfl rfl rfl rfl rfl Try.sizeOf42 rfl (aA rfl) (Nat.le_of_ble_eq_true rfl) (ds' := (aC x8)) rfl) ?_
   refine aF ?_
   refine aG ?_
   refine aE ?_
   refine tr1 rfl (aD (v := .fn del_1_f del_1_v) (aA rfl) rfl rfl) ?_
   refine tr1 rfl (dN (aA rfl) rfl (i := 1) rfl eD (es := (aC x8)) rfl rfl) ?_
   obtain ⟨r11, h12, h⟩ := bind_some h
   refine tr1 rfl (bZ (aA rfl) (.clo _ _ _ _ del_1_e rfl) (tB rfl) rfl (BVs.refl _ _) (del_1_h _ _  h12) rfl) ?_
   refine tr1 rfl (fF (aA rfl) rfl) ?_
   refine aF ?_
   refine bN rfl (fun c13 => ?_) (fun c13 => ?_)
   ·have h := aQ c13 h
    refine aG ?_
    refine aE ?_
    refine tr1 rfl (aD (v := .d (.lit s_0_v)) (aA rfl) rfl rfl) ?_
    refine tr1 rfl (aD (v := .d (.lit (.int .i64 i_0_5))) (aA rfl) rfl rfl) ?_
    refine tr1 rfl (dN (aA rfl) rfl (i := 1) rfl eD (es := (aC x8)) rfl rfl) ?_
    obtain ⟨x14, h15, h⟩ := bind_some h
    refine tr1 rfl (cC (m := 0) (aA rfl) rfl rfl rfl cA.of (bP aC h15)) ?_
    refine tr1 rfl (iV (l := 0) rfl rfl (dW aC h15) rfl rfl rfl Try.sizeOf42 rfl (aA rfl) (Nat.le_of_ble_eq_true rfl) (rows' := ((s_0_5.set i_0_5.toNat x8)).map aC) (lZ _ _ _ _ rfl)) ?_
    refine aF ?_
    refine aE ?_
    refine tr1 rfl (aD (v := .d (.lit (.int .i64 i_0_5))) (aA rfl) rfl rfl) ?_
    refine tr1 rfl (aY (aA rfl) rfl rfl rfl) ?_
    refine tr1 rfl (aJ (v := .d (.lit (.int .i64 ((w64 (i_0_5 + 1)))))) (aA rfl) rfl rfl) ?_
    refine eF ?_
    refine aE ?_
    refine tr1 rfl (aD (v := .d (.lit (.int .i64 j_0_5))) (aA rfl) rfl rfl) ?_
    refine tr1 rfl (aY (aA rfl) rfl rfl rfl) ?_
    refine tr1 rfl (aJ (v := .d (.lit (.int .i64 ((w64 (j_0_5 + 1)))))) (aA rfl) rfl rfl) ?_
    refine aF ?_
    exact ⟨(w64 (i_0_5 + 1), w64 (j_0_5 + 1), (s_0_5.set i_0_5.toNat x8)), h, aW [0] rfl rfl (aN rfl (aN rfl (aN rfl (aX ⟨rfl, trivial⟩))))⟩
   ·have h := aP c13 h
    refine fC ?_
    refine aE ?_
    refine tr1 rfl (aD (v := .d (.lit (.int .i64 j_0_5))) (aA rfl) rfl rfl) ?_
    refine tr1 rfl (aY (aA rfl) rfl rfl rfl) ?_
    refine tr1 rfl (aJ (v := .d (.lit (.int .i64 ((w64 (j_0_5 + 1)))))) (aA rfl) rfl rfl) ?_
    refine aF ?_
    exact ⟨(i_0_5, w64 (j_0_5 + 1), s_0_5), h, aW [0] rfl rfl (aN rfl (aN rfl (aN rfl (aX ⟨rfl, trivial⟩))))⟩
  ·have h := aP c7 h
   refine cY ?_
   refine .inl ⟨rfl, ?_⟩
   simp only [iZ] at h
   refine aG ?_
   refine aE ?_
   refine tr1 rfl (aD (v := .d (.lit s_0_v)) (aA rfl) rfl rfl) ?_
   refine tr1 rfl (aD (v := .d (.lit (.int .i64 i_0_5))) (aA rfl) rfl rfl) ?_
   obtain ⟨u16, h17, h⟩ := bind_some h
   refine tr1 rfl (tO (m := 0) (aA rfl) rfl rfl rfl cA.of h17) ?_
   obtain ⟨u18, h19, h⟩ := bind_some h
   refine tr1 rfl (aBr (f := aC) (m := 0) cA rfl rfl h19 (by decide)) ?_
   refine aF ?_
   refine aG ?_
   refine aE ?_
   refine tr1 rfl (aD (v := .d (.lit s_0_v)) (aA rfl) rfl rfl) ?_
   refine tr1 rfl (aD (v := .d (.lit (.int .i64 i_0_5))) (aA rfl) rfl rfl) ?_
   obtain ⟨u20, h21, h⟩ := bind_some h
   refine tr1 rfl (qP (m := 0) (q := i_0_5.toNat) (v := s_0_v) (aA rfl) rfl rfl rfl rfl (yL h21) cA.of) ?_
   refine tr1 rfl (aJ (v := .d (.lit (fT s_0_v i_0_5.toNat))) (aA rfl) rfl rfl) ?_
   refine aF ?_
   have h := Option.some.inj h
   subst h
   exact bO ⟨rfl, _, [.arr (fT s_0_v i_0_5.toNat) 42 5 ((s_0_5.take i_0_5.toNat).map aC)], [], _, .one (.tmp 4 (v := .d (.lit (fT s_0_v i_0_5.toNat))) rfl), .refl _, .same _, (fT s_0_v i_0_5.toNat), rfl, rfl⟩

theorem yH (r_0 : aB) (c_1 : Int) {r : Bool} (h : lH r_0 c_1 = some r) : Fn Try.prog 57 [.agg (aC r_0), .cp [.lit (.int .i64 c_1)]] (.d (.lit (.bool r))) := by
 unfold lH at h
 refine Fn.of_tr Try.func57 rfl (rs := [.tmp 3]) Try.results57 Try.ntmps57 (Nat.le_of_ble_eq_true rfl) ?_
 refine aG ?_
 refine aE ?_
 refine bW rfl (fU (v := .agg (aC r_0)) (aA rfl) rfl rfl rfl) ?_
 rintro _ ⟨b1, rfl⟩
 refine tr1 rfl (aJ (v := .d (.lit (.bool false))) (aA rfl) rfl rfl) ?_
 refine aF ?_
 refine aG ?_
 refine aE ?_
 refine tr1 rfl (aT (aA rfl) rfl lM) ?_
 refine tr1 rfl (aU (aA rfl) rfl (i := 0) rfl rfl bH) ?_
 refine tr1 rfl (cI (aA rfl) rfl bH) ?_
 refine tr1 rfl (bC (aA rfl) rfl rfl rfl) ?_
 refine tr1 rfl (aJ (v := .d (.lit (.bool ((decide (c_1 < r_0.Week)))))) (aA rfl) rfl rfl) ?_
 refine aF ?_
 have h := Option.some.inj h
 subst h
 refine cU (cH (cN (l := [3]) ⟨rfl, trivial⟩)) ?_
 exact bO ⟨rfl, _, .one _, rfl, rfl⟩

theorem uS (l_0 : aS) (player_1 : Int) (week_2 : Int) {r : Int × Int} (h : mU l_0 player_1 week_2 = some r) : Fn Try.prog 21 [.agg (bA l_0), .d (.lit (.int .i64 player_1)), .d (.lit (.int .i64 week_2))] (.tup [.d (.lit (.int .i64 r.1)), .d (.lit (.int .i64 r.2))]) := by
 unfold mU at h
 refine Fn.of_tr Try.func21 rfl (rs := [.tmp 6, .tmp 7]) Try.results21 Try.ntmps21 (Nat.le_of_ble_eq_true rfl) ?_
 refine aG ?_
 refine aE ?_
 refine bW rfl (fU (v := .agg (bA l_0)) (aA rfl) rfl rfl rfl) ?_
 rintro _ ⟨b1, rfl⟩
 refine bW rfl (fU (v := .d (.lit (.int .i64 week_2))) (aA rfl) rfl rfl rfl) ?_
 rintro _ ⟨b2, rfl⟩
 refine tr1 rfl (aJ (v := .d (.lit (.int .i64 0))) (aA rfl) rfl rfl) ?_
 refine tr1 rfl (aJ (v := .d (.lit (.int .i64 0))) (aA rfl) rfl rfl) ?_
 refine aF ?_
 refine aG ?_
 refine aE ?_
 refine tr1 rfl (dN (aA rfl) rfl (i := 0) rfl iH (es := (bA l_0)) rfl rfl) ?_
 refine tr1 rfl (aD (v := .d (.lit (.int .i64 player_1))) (aA rfl) rfl rfl) ?_
 refine tr1 rfl (aU (aA rfl) rfl (i := 1) rfl rfl bH) ?_
 obtain ⟨r3, h4, h⟩ := bind_some h
 refine bW rfl (dM (passed := []) (aA rfl) rfl (.func _ _ Try.call44) rfl rfl (sN _ _ _ h4)) ?_
 rintro _ ⟨_, _, ⟨b6, w7, rfl, rfl⟩, rfl⟩
 obtain ⟨_ | y5, e8⟩ := r3
 ·have h := wU h
  refine fZ (aW [0, 1] rfl rfl (le_refl _)) ?_
  refine tr1 rfl (aD (v := .tup [.d (.lit (.pointer none)), .d (.lit (.int .i64 e8))]) (aA rfl) rfl rfl) ?_
  refine tr1 rfl (cV (aA rfl) rfl rfl) ?_
  refine tr1 rfl (cV (aA rfl) rfl rfl) ?_
  refine tr1 rfl (aJ (v := .d (.lit (.pointer none))) (aA rfl) rfl rfl) ?_
  refine tr1 rfl (aJ (v := .d (.lit (.int .i64 e8))) (aA rfl) rfl rfl) ?_
  refine aF ?_
  refine aG ?_
  refine aG ?_
  refine aE ?_
  refine tr1 rfl (aD (v := .d (.lit (.int .i64 e8))) (aA rfl) rfl rfl) ?_
  refine tr1 rfl (bC (aA rfl) rfl rfl rfl) ?_
  refine aF ?_
  refine bN rfl (fun c9 => ?_) (fun c9 => ?_)
  ·have h := aQ c9 h
   refine aG ?_
   refine aE ?_
   refine tr1 rfl (aD (v := .d (.lit (.int .i64 e8))) (aA rfl) rfl rfl) ?_
   refine tr1 rfl (aJ (v := .d (.lit (.int .i64 0))) (aA rfl) rfl rfl) ?_
   refine tr1 rfl (aJ (v := .d (.lit (.int .i64 e8))) (aA rfl) rfl rfl) ?_
   refine aF ?_
   have h := Option.some.inj h
   subst h
   refine cU (cH (cN (l := [6, 7]) ⟨rfl, rfl, trivial⟩)) ?_
   exact bO ⟨rfl, _, .two _ _, rfl, rfl⟩
  ·have h := aP c9 h
   refine bJ ?_
   refine aG ?_
   refine aG ?_
   refine aE ?_
   refine tr1 rfl (aU (aA rfl) rfl (i := 1) rfl rfl bH) ?_
   refine tr1 rfl (bC (aA rfl) rfl rfl rfl) ?_
   refine aF ?_
   refine bN rfl (fun c10 => ?_) (fun c10 => ?_)
   ·have h := aQ c10 h
    refine aG ?_
    refine aE ?_
    refine tr1 rfl (aJ (v := .d (.lit (.int .i64 0))) (aA rfl) rfl rfl) ?_
    refine tr1 rfl (aJ (v := .d (.lit (.int .i64 1))) (aA rfl) rfl rfl) ?_
    refine aF ?_
    have h := Option.some.inj h
    subst h
    refine cU (cH (cN (l := [6, 7]) ⟨rfl, rfl, trivial⟩)) ?_
    exact bO ⟨rfl, _, .two _ _, rfl, rfl⟩
   ·have h := aP c10 h
    refine bJ ?_
    refine aG ?_
    refine aE ?_
    refine tr1 rfl (aD (v := .d (.lit (.pointer none))) (aA rfl) rfl rfl) ?_
    refine tr1 rfl (aD (v := .d (.lit (.int .i64 player_1))) (aA rfl) rfl rfl) ?_
    refine tr1 rfl (aU (aA rfl) rfl (i := 1) rfl rfl bH) ?_
    cases h
 ·have h := wV h
  refine fZ (aW [0, 1, 2, 3] rfl rfl (le_refl _)) ?_
  refine tr1 rfl (aD (v := .tup [.bp b6 0 0, .d (.lit (.int .i64 e8))]) (aA rfl) rfl rfl) ?_
  refine tr1 rfl (cV (aA rfl) rfl rfl) ?_
  refine tr1 rfl (cV (aA rfl) rfl rfl) ?_
  refine tr1 rfl (aJ (v := .bp b6 0 0) (aA rfl) rfl rfl) ?_
  refine tr1 rfl (aJ (v := .d (.lit (.int .i64 e8))) (aA rfl) rfl rfl) ?_
  refine aF ?_
  refine aG ?_
  refine aG ?_
  refine aE ?_
  refine tr1 rfl (aD (v := .d (.lit (.int .i64 e8))) (aA rfl) rfl rfl) ?_
  refine tr1 rfl (bC (aA rfl) rfl rfl rfl) ?_
  refine aF ?_
  refine bN rfl (fun c11 => ?_) (fun c11 => ?_)
  ·have h := aQ c11 h
   refine aG ?_
   refine aE ?_
   refine tr1 rfl (aD (v := .d (.lit (.int .i64 e8))) (aA rfl) rfl rfl) ?_
   refine tr1 rfl (aJ (v := .d (.lit (.int .i64 0))) (aA rfl) rfl rfl) ?_
   refine tr1 rfl (aJ (v := .d (.lit (.int .i64 e8))) (aA rfl) rfl rfl) ?_
   refine aF ?_
   have h := Option.some.inj h
   subst h
   refine cU (cH (cN (l := [6, 7]) ⟨rfl, rfl, trivial⟩)) ?_
   exact bO ⟨rfl, _, .two _ _, rfl, rfl⟩
  ·have h := aP c11 h
   refine bJ ?_
   refine aG ?_
   refine aG ?_
   refine aE ?_
   refine tr1 rfl (aU (aA rfl) rfl (i := 3) rfl rfl bH) ?_
   refine tr1 rfl (bC (aA rfl) rfl rfl rfl) ?_
   refine aF ?_
   refine bN rfl (fun c12 => ?_) (fun c12 => ?_)
   ·have h := aQ c12 h
    refine aG ?_
    refine aE ?_
    refine tr1 rfl (aJ (v := .d (.lit (.int .i64 0))) (aA rfl) rfl rfl) ?_
    refine tr1 rfl (aJ (v := .d (.lit (.int .i64 1))) (aA rfl) rfl rfl) ?_
    refine aF ?_
    have h := Option.some.inj h
    subst h
    refine cU (cH (cN (l := [6, 7]) ⟨rfl, rfl, trivial⟩)) ?_
    exact bO ⟨rfl, _, .two _ _, rfl, rfl⟩
   ·have h := aP c12 h
    refine bJ ?_
    refine aG ?_
    refine aE ?_
    refine tr1 rfl (aD (v := .bp b6 0 0) (aA rfl) rfl rfl) ?_
    refine tr1 rfl (aD (v := .d (.lit (.int .i64 player_1))) (aA rfl) rfl rfl) ?_
    refine tr1 rfl (aU (aA rfl) rfl (i := 3) rfl rfl bH) ?_
    obtain ⟨r13, h14, h⟩ := bind_some h
    refine tr1 rfl (bZ (aA rfl) (.func _ _ Try.call55) rfl rfl (.cons ((oN 0 rfl rfl (dvc (.same _) (dvc (.same _) (dvc (kI 1 rfl (eA (f := aC) fun _ => rfl)) (dvc (.same _) (dvc (.same _) dvn))))))) (.cons (.same _) (.cons (.same _) .nil))) (oI _ _ _ h14) rfl) ?_
    refine tr1 rfl (aJ (v := .d (.lit (.int .i64 r13))) (aA rfl) rfl rfl) ?_
    refine aF ?_
    refine aG ?_
    refine aE ?_
    refine tr1 rfl (aD (v := .bp b6 0 0) (aA rfl) rfl rfl) ?_
    refine tr1 rfl (aD (v := .bp b6 0 0) (aA rfl) rfl rfl) ?_
    refine tr1 rfl (kF (aA rfl) rfl) ?_
    refine tr1 rfl (aT (aA rfl) rfl iJ) ?_
    refine tr1 rfl (aT (aA rfl) rfl eL) ?_
    refine tr1 rfl (aU (aA rfl) rfl (i := 0) rfl rfl iI) ?_
    refine tr1 rfl (wZ (aA rfl) rfl rfl) ?_
    apply aDb [.box b6 0 [.lit (.int .i64 y5.Ledger.Players), .lit (.int .i64 y5.Ledger.Counts), .lit w7, .sl 3 (y5.Ledger.Bans.map aK), .sl 3 (y5.Ledger.Frozen.map aK)], .arr w7 42 5 (y5.Ledger.Reports.map aC), .box b1 0 (bA l_0)] [.box b2 0 [.lit (.int .i64 week_2)]] rfl
    exact jH (k := 33) (v := .fn 57 [.cp [.lit (.int .i64 week_2)]]) ((aAp (.cons ((oN 0 rfl rfl (dvc (.same _) dvn))) .nil))) (jH (k := 5) (v := .cp [.lit (.int .i64 week_2)]) ((oN 0 rfl rfl (dvc (.same _) dvn))) (sW _ _))
    obtain ⟨r16, h17, h⟩ := bind_some h
    refine fZ (aW [1, 0, 2] rfl rfl (le_refl _)) ?_
    refine bW rfl (dM (passed := [.arr w7 42 5 (y5.Ledger.Reports.map aC)]) (aA rfl) rfl (.func _ _ Try.call56) rfl rfl (qS y5.Ledger.Reports (fun y15 => lH y15 week_2) 57 [.cp [.lit (.int .i64 week_2)]] Try.call57 (fun _ _ h => yH _ _ h) h17)) ?_
    rintro _ ⟨_, _, ⟨v18, rfl, rfl⟩, rfl⟩
    refine tr1 rfl (kF (aA rfl) rfl) ?_
    refine tr1 rfl (aT (aA rfl) rfl iJ) ?_
    refine tr1 rfl (aT (aA rfl) rfl eL) ?_
    refine tr1 rfl (cJ (i := 1) rfl rfl rfl rfl rfl Try.sizeOf22 rfl (aA rfl) (Nat.le_of_ble_eq_true rfl) (ds' := [.lit (.int .i64 y5.Ledger.Players), .lit (.int .i64 y5.Ledger.Counts), .lit v18, .sl 3 (y5.Ledger.Bans.map aK), .sl 3 (y5.Ledger.Frozen.map aK)]) rfl) ?_
    refine aF ?_
    refine aG ?_
    refine aE ?_
    refine tr1 rfl (aD (v := .d (.lit (.int .i64 r13))) (aA rfl) rfl rfl) ?_
    refine tr1 rfl (aD (v := .bp b6 0 0) (aA rfl) rfl rfl) ?_
    refine tr1 rfl (aD (v := .d (.lit (.int .i64 player_1))) (aA rfl) rfl rfl) ?_
    refine tr1 rfl (cI (aA rfl) rfl bH) ?_
    refine tr1 rfl (aY (aA rfl) rfl rfl rfl) ?_
    obtain ⟨r19, h20, h⟩ := bind_some h
    refine tr1 rfl (bZ (aA rfl) (.func _ _ Try.call55) rfl rfl (.cons ((oN 1 rfl rfl (dvc (.same _) (dvc (.same _) (dvc (kI 0 rfl (eA (f := aC) fun _ => rfl)) (dvc (.same _) (dvc (.same _) dvn))))))) (.cons (.same _) (.cons (.same _) .nil))) (oI _ _ _ h20) rfl) ?_
    refine tr1 rfl (aY (aA rfl) rfl rfl rfl) ?_
    refine tr1 rfl (aJ (v := .d (.lit (.int .i64 ((w64 (r13 - r19)))))) (aA rfl) rfl rfl) ?_
    refine tr1 rfl (aJ (v := .d (.lit (.int .i64 0))) (aA rfl) rfl rfl) ?_
    refine aF ?_
    have h := Option.some.inj h
    subst h
    refine cU (cH (cN (l := [6, 7]) ⟨rfl, rfl, trivial⟩)) ?_
    exact bO ⟨rfl, _, .two _ _, rfl, rfl⟩

theorem uM (a_0 : List Int) (b_1 : List Int) {r : Bool} (h : nO a_0 b_1 = some r) : Fn Try.prog 32 [.d (.sl 1 (a_0.map cK)), .d (.sl 1 (b_1.map cK))] (.d (.lit (.bool r))) := by
 unfold nO at h
 refine Fn.of_tr Try.func32 rfl (rs := [.tmp 4]) Try.results32 Try.ntmps32 (Nat.le_of_ble_eq_true rfl) ?_
 refine aG ?_
 refine aE ?_
 refine tr1 rfl (aJ (v := .d (.lit (.bool false))) (aA rfl) rfl rfl) ?_
 refine aF ?_
 refine aG ?_
 refine aG ?_
 refine aE ?_
 refine tr1 rfl (aD (v := .d (.sl 1 (a_0.map cK))) (aA rfl) rfl rfl) ?_
 refine tr1 rfl (eB (aA rfl) rfl fE.of) ?_
 refine tr1 rfl (aD (v := .d (.sl 1 (b_1.map cK))) (aA rfl) rfl rfl) ?_
 refine tr1 rfl (eB (aA rfl) rfl fE.of) ?_
 refine tr1 rfl (bC (aA rfl) rfl rfl rfl) ?_
 refine aF ?_
 refine bN rfl (fun c1 => ?_) (fun c1 => ?_)
 ·have h := aQ c1 h
  refine aG ?_
  refine aE ?_
  refine tr1 rfl (aJ (v := .d (.lit (.bool false))) (aA rfl) rfl rfl) ?_
  refine aF ?_
  have h := Option.some.inj h
  subst h
  exact bO ⟨rfl, _, .one _, rfl, rfl⟩
 ·have h := aP c1 h
  refine bJ ?_
  refine aG ?_
  refine aG ?_
  refine aE ?_
  refine tr1 rfl (aJ (v := .d (.lit (.int .i64 0))) (aA rfl) rfl rfl) ?_
  refine aF ?_
  refine bT ?_
  refine cO [0, 1] (fun (s2 : Int) => [(5, .d (.lit (.int .i64 s2)))]) (fun (s2 : Int) => []) (fun (k : Nat) (s2 : Int) => kC a_0 b_1 k s2) (fun _ => rfl) (0) h (aW [] rfl rfl (aN rfl (aX ⟨rfl, rfl, trivial⟩))) ?_
  rintro k3 i_0_2 h
  simp only [kC] at h
  refine aG ?_
  refine aG ?_
  refine aE ?_
  refine tr1 rfl (aD (v := .d (.lit (.int .i64 i_0_2))) (aA rfl) rfl rfl) ?_
  refine tr1 rfl (aD (v := .d (.sl 1 (a_0.map cK))) (aA rfl) rfl rfl) ?_
  refine tr1 rfl (eB (aA rfl) rfl fE.of) ?_
  refine tr1 rfl (bC (aA rfl) rfl rfl rfl) ?_
  refine aF ?_
  refine bN rfl (fun c4 => ?_) (fun c4 => ?_)
  ·have h := aQ c4 h
   refine bJ ?_
   refine aG ?_
   refine bT ?_
   refine aG ?_
   obtain ⟨x5, h6, h⟩ := bind_some h
   obtain ⟨x7, h8, h⟩ := bind_some h
   refine hZ mix 8 [0, 1, 5] [(20, .d (.lit (.int .i64 x5))), (24, .d (.lit (.int .i64 x7)))] ?_ ?_
   ·refine ⟨[(17, 0, .d (.sl 1 (a_0.map cK))), (18, 1, .d (.lit (.int .i64 i_0_2))), (19, 2, .cp [.lit (.int .i64 x5)]), (20, 3, .d (.lit (.int .i64 x5))), (21, 4, .d (.sl 1 (b_1.map cK))), (22, 5, .d (.lit (.int .i64 i_0_2))), (23, 6, .cp [.lit (.int .i64 x7)]), (24, 7, .d (.lit (.int .i64 x7)))], ?_, ?_⟩
    · exact ⟨by kernel_rfl, by kernel_rfl, by kernel_rfl, by kernel_rfl, by kernel_rfl, [([], []), ([], []), ([0, 1], []), ([2], []), ([], []), ([], []), ([4, 5], []), ([6], [])], by kernel_rfl, ⟨fun S hS => aI rfl (aO rfl (aD (v := .d (.sl 1 (a_0.map cK))) (aA rfl) (aH hS rfl) rfl)),
      fun S hS => aI rfl (aO rfl (aD (v := .d (.lit (.int .i64 i_0_2))) (aA rfl) (aH hS rfl) rfl)),
      fun S hS => aI rfl (aO rfl (cF (aA rfl) (aH hS rfl) (aH hS rfl) fE.of (bP cK h6))),
      fun S hS => aI rfl (aO rfl (cI (aA rfl) (aH hS rfl) bH)),
      fun S hS => aI rfl (aO rfl (aD (v := .d (.sl 1 (b_1.map cK))) (aA rfl) (aH hS rfl) rfl)),
      fun S hS => aI rfl (aO rfl (aD (v := .d (.lit (.int .i64 i_0_2))) (aA rfl) (aH hS rfl) rfl)),
      fun S hS => aI rfl (aO rfl (cF (aA rfl) (aH hS rfl) (aH hS rfl) fE.of (bP cK h8))),
      fun S hS => aI rfl (aO rfl (cI (aA rfl) (aH hS rfl) bH)), trivial⟩⟩
    · exact eE (aN rfl (aN rfl (aX ⟨rfl, rfl, rfl, trivial⟩)))
   ·refine tr1 rfl (bC (aA rfl) rfl rfl rfl) ?_
    refine aF ?_
    refine bN rfl (fun c9 => ?_) (fun c9 => ?_)
    ·have h := aQ c9 h
     refine aG ?_
     refine aE ?_
     refine tr1 rfl (aJ (v := .d (.lit (.bool false))) (aA rfl) rfl rfl) ?_
     refine aF ?_
     have h := Option.some.inj h
     subst h
     exact bO ⟨rfl, _, .one _, rfl, rfl⟩
    ·have h := aP c9 h
     refine fC ?_
     refine aE ?_
     refine tr1 rfl (aD (v := .d (.lit (.int .i64 i_0_2))) (aA rfl) rfl rfl) ?_
     refine tr1 rfl (aY (aA rfl) rfl rfl rfl) ?_
     refine tr1 rfl (aJ (v := .d (.lit (.int .i64 ((w64 (i_0_2 + 1)))))) (aA rfl) rfl rfl) ?_
     refine aF ?_
     exact ⟨(w64 (i_0_2 + 1)), h, aW [] rfl rfl (aN rfl (aX ⟨rfl, rfl, trivial⟩))⟩
  ·have h := aP c4 h
   refine cY ?_
   refine .inl ⟨rfl, ?_⟩
   simp only [pB] at h
   refine aG ?_
   refine aE ?_
   refine tr1 rfl (aJ (v := .d (.lit (.bool true))) (aA rfl) rfl rfl) ?_
   refine aF ?_
   have h := Option.some.inj h
   subst h
   exact bO ⟨rfl, _, .one _, rfl, rfl⟩

theorem rS {r : Bool} (h : lJ = some r) : Fn Try.prog 16 [] (.d (.lit (.bool r))) := by
 unfold lJ at h
 refine Fn.of_tr Try.func16 rfl (rs := [.tmp 0]) Try.results16 Try.ntmps16 (Nat.le_of_ble_eq_true rfl) ?_
 refine aG ?_
 refine aE ?_
 refine tr1 rfl (aJ (v := .d (.lit (.bool false))) (aA rfl) rfl rfl) ?_
 refine aF ?_
 refine aG ?_
 refine aE ?_
 obtain ⟨r1, h2, h⟩ := bind_some h
 refine tr1 rfl (oR (aA rfl) (.func _ _ Try.call43) rfl rfl (vB h2)) ?_
 refine bW rfl (iF (zs := [.lit (.int .i64 0), .lit (.int .i64 0), .sl 5 ((([] : List aB)).map aC), .sl 3 ((([] : List bB)).map aK), .sl 3 ((([] : List bB)).map aK)]) (aA rfl) Try.zeroValue25 rfl rfl) ?_
 rintro _ ⟨b3, rfl⟩
 refine tr1 rfl (cJ (i := 0) rfl rfl rfl rfl rfl Try.sizeOf25 rfl (aA rfl) (Nat.le_of_ble_eq_true rfl) (ds' := (bA r1)) rfl) ?_
 refine aF ?_
 refine aG ?_
 refine aE ?_
 refine tr1 rfl (dN (aA rfl) rfl (i := 0) rfl iH (es := (bA r1)) rfl rfl) ?_
 obtain ⟨r4, h5, h⟩ := bind_some h
 refine tr1 rfl (oR (aA rfl) (.func _ _ Try.call27) rfl rfl (aCd _ _ h5)) ?_
 refine tr1 rfl (aD (v := .tup [.d (.sl 1 (r4.1.map cK)), .d (.lit (.int .i64 r4.2))]) (aA rfl) rfl rfl) ?_
 refine tr1 rfl (cV (aA rfl) rfl rfl) ?_
 refine tr1 rfl (cV (aA rfl) rfl rfl) ?_
 refine tr1 rfl (aJ (v := .d (.sl 1 (r4.1.map cK))) (aA rfl) rfl rfl) ?_
 refine tr1 rfl (aJ (v := .d (.lit (.int .i64 r4.2))) (aA rfl) rfl rfl) ?_
 refine aF ?_
 refine aG ?_
 refine aE ?_
 refine tr1 rfl (dN (aA rfl) rfl (i := 0) rfl iH (es := (bA r1)) rfl rfl) ?_
 refine tr1 rfl (jX (aA rfl) fE rfl rfl (rows := ([300]).map cK) rfl (eA (f := cK) fun _ => rfl) rfl (by decide)) ?_
 obtain ⟨r6, h7, h⟩ := bind_some h
 refine tr1 rfl (bZ (aA rfl) (.func _ _ Try.call17) rfl rfl (BVs.refl _ _) (aBo _ _ _ _ h7) rfl) ?_
 refine tr1 rfl (aD (v := .tup [.d (.lit (.int .i64 r6.1)), .d (.lit (.int .i64 r6.2.1)), .d (.lit (.int .i64 r6.2.2))]) (aA rfl) rfl rfl) ?_
 refine tr1 rfl (cV (aA rfl) rfl rfl) ?_
 refine tr1 rfl (cV (aA rfl) rfl rfl) ?_
 refine tr1 rfl (cV (aA rfl) rfl rfl) ?_
 refine tr1 rfl (aJ (v := .d (.lit (.int .i64 r6.1))) (aA rfl) rfl rfl) ?_
 refine tr1 rfl (aJ (v := .d (.lit (.int .i64 r6.2.1))) (aA rfl) rfl rfl) ?_
 refine tr1 rfl (aJ (v := .d (.lit (.int .i64 r6.2.2))) (aA rfl) rfl rfl) ?_
 refine aF ?_
 refine aG ?_
 refine aE ?_
 refine tr1 rfl (dN (aA rfl) rfl (i := 0) rfl iH (es := (bA r1)) rfl rfl) ?_
 obtain ⟨r8, h9, h⟩ := bind_some h
 refine tr1 rfl (bZ (aA rfl) (.func _ _ Try.call21) rfl rfl (BVs.refl _ _) (uS _ _ _ h9) rfl) ?_
 refine tr1 rfl (aD (v := .tup [.d (.lit (.int .i64 r8.1)), .d (.lit (.int .i64 r8.2))]) (aA rfl) rfl rfl) ?_
 refine tr1 rfl (cV (aA rfl) rfl rfl) ?_
 refine tr1 rfl (cV (aA rfl) rfl rfl) ?_
 refine tr1 rfl (aJ (v := .d (.lit (.int .i64 r8.1))) (aA rfl) rfl rfl) ?_
 refine tr1 rfl (aJ (v := .d (.lit (.int .i64 r8.2))) (aA rfl) rfl rfl) ?_
 refine aF ?_
 refine aG ?_
 refine aE ?_
 refine tr1 rfl (aD (v := .d (.lit (.int .i64 r4.2))) (aA rfl) rfl rfl) ?_
 refine tr1 rfl (bC (aA rfl) rfl rfl rfl) ?_
 refine tr1 rfl (aD (v := .d (.lit (.bool ((decide (r4.2 = 0)))))) (aA rfl) rfl rfl) ?_
 obtain ⟨b10, h11, h⟩ := bind_some h
 refine bR 3 [2, 4, 5, 7, 8] 32 b10 ?_ ?_
 ·refine bG (decide (r4.2 = 0)) (fun c29 => ?_) (fun c29 => ?_)
  ·have h11 := aQ c29 h11
   refine aL rfl rfl (aA rfl) rfl c29 (aD (v := .d (.lit (.int .i64 r6.2.2))) (aA rfl) rfl rfl) ?_
   refine aL rfl rfl (aA rfl) rfl c29 (bC (aA rfl) rfl rfl rfl) ?_
   refine tr1 rfl (bM (v := .d (.lit (.bool ((decide (r6.2.2 = 0)))))) (aA rfl) rfl c29 rfl rfl) ?_
   have h11 := Option.some.inj h11
   subst h11
   refine aF (aV rfl ⟨rfl, rfl, rfl, rfl, rfl, trivial⟩ rfl)
  ·have h11 := aP c29 h11
   refine aM rfl rfl (aA rfl) rfl (aA rfl) rfl c29 ?_
   refine aM rfl rfl (aA rfl) rfl (aA rfl) rfl c29 ?_
   refine tr1 rfl (bL (v := .d (.lit (.bool false))) (aA rfl) rfl c29 rfl rfl) ?_
   have h11 := Option.some.inj h11
   subst h11
   refine aF (aV rfl ⟨rfl, rfl, rfl, rfl, rfl, trivial⟩ rfl)
 ·refine tr1 rfl (aD (v := .d (.lit (.bool b10))) (aA rfl) rfl rfl) ?_
  obtain ⟨b12, h13, h⟩ := bind_some h
  refine bR 3 [2, 4, 5, 7] 36 b12 ?_ ?_
  ·refine bG (b10) (fun c28 => ?_) (fun c28 => ?_)
   ·have h13 := aQ c28 h13
    refine aL rfl rfl (aA rfl) rfl c28 (aD (v := .d (.lit (.int .i64 r8.2))) (aA rfl) rfl rfl) ?_
    refine aL rfl rfl (aA rfl) rfl c28 (bC (aA rfl) rfl rfl rfl) ?_
    refine tr1 rfl (bM (v := .d (.lit (.bool ((decide (r8.2 = 0)))))) (aA rfl) rfl c28 rfl rfl) ?_
    have h13 := Option.some.inj h13
    subst h13
    refine aF (aV rfl ⟨rfl, rfl, rfl, rfl, trivial⟩ rfl)
   ·have h13 := aP c28 h13
    refine aM rfl rfl (aA rfl) rfl (aA rfl) rfl c28 ?_
    refine aM rfl rfl (aA rfl) rfl (aA rfl) rfl c28 ?_
    refine tr1 rfl (bL (v := .d (.lit (.bool false))) (aA rfl) rfl c28 rfl rfl) ?_
    have h13 := Option.some.inj h13
    subst h13
    refine aF (aV rfl ⟨rfl, rfl, rfl, rfl, trivial⟩ rfl)
  ·refine tr1 rfl (aD (v := .d (.lit (.bool b12))) (aA rfl) rfl rfl) ?_
   obtain ⟨b14, h15, h⟩ := bind_some h
   refine bR 4 [4, 5, 7] 41 b14 ?_ ?_
   ·refine bG (b12) (fun c25 => ?_) (fun c25 => ?_)
    ·have h15 := aQ c25 h15
     refine aL rfl rfl (aA rfl) rfl c25 (aD (v := .d (.sl 1 (r4.1.map cK))) (aA rfl) rfl rfl) ?_
     refine aL rfl rfl (aA rfl) rfl c25 (jX (aA rfl) fE rfl rfl (rows := ([0, 2, 1]).map cK) rfl (eA (f := cK) fun _ => rfl) rfl (by decide)) ?_
     obtain ⟨r26, h27, h15⟩ := bind_some h15
     refine aL rfl rfl (aA rfl) rfl c25 (bZ (aA rfl) (.func _ _ Try.call32) rfl rfl (BVs.refl _ _) (uM _ _ h27) rfl) ?_
     refine tr1 rfl (bM (v := .d (.lit (.bool r26))) (aA rfl) rfl c25 rfl rfl) ?_
     have h15 := Option.some.inj h15
     subst h15
     refine aF (aV rfl ⟨rfl, rfl, rfl, trivial⟩ rfl)
    ·have h15 := aP c25 h15
     refine aM rfl rfl (aA rfl) rfl (aA rfl) rfl c25 ?_
     refine aM rfl rfl (aA rfl) rfl (aA rfl) rfl c25 ?_
     refine aM rfl rfl (aA rfl) rfl (aA rfl) rfl c25 ?_
     refine tr1 rfl (bL (v := .d (.lit (.bool false))) (aA rfl) rfl c25 rfl rfl) ?_
     have h15 := Option.some.inj h15
     subst h15
     refine aF (aV rfl ⟨rfl, rfl, rfl, trivial⟩ rfl)
   ·refine tr1 rfl (aD (v := .d (.lit (.bool b14))) (aA rfl) rfl rfl) ?_
    obtain ⟨b16, h17, h⟩ := bind_some h
    refine bR 3 [5, 7] 45 b16 ?_ ?_
    ·refine bG (b14) (fun c24 => ?_) (fun c24 => ?_)
     ·have h17 := aQ c24 h17
      refine aL rfl rfl (aA rfl) rfl c24 (aD (v := .d (.lit (.int .i64 r6.1))) (aA rfl) rfl rfl) ?_
      refine aL rfl rfl (aA rfl) rfl c24 (bC (aA rfl) rfl rfl rfl) ?_
      refine tr1 rfl (bM (v := .d (.lit (.bool ((decide (r6.1 = 1)))))) (aA rfl) rfl c24 rfl rfl) ?_
      have h17 := Option.some.inj h17
      subst h17
      refine aF (aV rfl ⟨rfl, rfl, trivial⟩ rfl)
     ·have h17 := aP c24 h17
      refine aM rfl rfl (aA rfl) rfl (aA rfl) rfl c24 ?_
      refine aM rfl rfl (aA rfl) rfl (aA rfl) rfl c24 ?_
      refine tr1 rfl (bL (v := .d (.lit (.bool false))) (aA rfl) rfl c24 rfl rfl) ?_
      have h17 := Option.some.inj h17
      subst h17
      refine aF (aV rfl ⟨rfl, rfl, trivial⟩ rfl)
    ·refine tr1 rfl (aD (v := .d (.lit (.bool b16))) (aA rfl) rfl rfl) ?_
     obtain ⟨b18, h19, h⟩ := bind_some h
     refine bR 3 [7] 49 b18 ?_ ?_
     ·refine bG (b16) (fun c23 => ?_) (fun c23 => ?_)
      ·have h19 := aQ c23 h19
       refine aL rfl rfl (aA rfl) rfl c23 (aD (v := .d (.lit (.int .i64 r6.2.1))) (aA rfl) rfl rfl) ?_
       refine aL rfl rfl (aA rfl) rfl c23 (bC (aA rfl) rfl rfl rfl) ?_
       refine tr1 rfl (bM (v := .d (.lit (.bool ((decide (r6.2.1 = 3)))))) (aA rfl) rfl c23 rfl rfl) ?_
       have h19 := Option.some.inj h19
       subst h19
       refine aF (aV rfl ⟨rfl, trivial⟩ rfl)
      ·have h19 := aP c23 h19
       refine aM rfl rfl (aA rfl) rfl (aA rfl) rfl c23 ?_
       refine aM rfl rfl (aA rfl) rfl (aA rfl) rfl c23 ?_
       refine tr1 rfl (bL (v := .d (.lit (.bool false))) (aA rfl) rfl c23 rfl rfl) ?_
       have h19 := Option.some.inj h19
       subst h19
       refine aF (aV rfl ⟨rfl, trivial⟩ rfl)
     ·refine tr1 rfl (aD (v := .d (.lit (.bool b18))) (aA rfl) rfl rfl) ?_
      obtain ⟨b20, h21, h⟩ := bind_some h
      refine bR 3 [] 53 b20 ?_ ?_
      ·refine bG (b18) (fun c22 => ?_) (fun c22 => ?_)
       ·have h21 := aQ c22 h21
        refine aL rfl rfl (aA rfl) rfl c22 (aD (v := .d (.lit (.int .i64 r8.1))) (aA rfl) rfl rfl) ?_
        refine aL rfl rfl (aA rfl) rfl c22 (bC (aA rfl) rfl rfl rfl) ?_
        refine tr1 rfl (bM (v := .d (.lit (.bool ((decide (r8.1 = 200)))))) (aA rfl) rfl c22 rfl rfl) ?_
        have h21 := Option.some.inj h21
        subst h21
        refine aF (aV rfl trivial rfl)
       ·have h21 := aP c22 h21
        refine aM rfl rfl (aA rfl) rfl (aA rfl) rfl c22 ?_
        refine aM rfl rfl (aA rfl) rfl (aA rfl) rfl c22 ?_
        refine tr1 rfl (bL (v := .d (.lit (.bool false))) (aA rfl) rfl c22 rfl rfl) ?_
        have h21 := Option.some.inj h21
        subst h21
        refine aF (aV rfl trivial rfl)
      ·refine tr1 rfl (aJ (v := .d (.lit (.bool b20))) (aA rfl) rfl rfl) ?_
       refine aF ?_
       have h := Option.some.inj h
       subst h
       refine cU (cH (cN (l := [0]) ⟨rfl, trivial⟩)) ?_
       exact bO ⟨rfl, _, .one _, rfl, rfl⟩

theorem wH (l_0 : aS) (player_1 : Int) (week_2 : Int) {r : Bool} (h : jU l_0 player_1 week_2 = some r) : Fn Try.prog 20 [.agg (bA l_0), .d (.lit (.int .i64 player_1)), .d (.lit (.int .i64 week_2))] (.d (.lit (.bool r))) := by
 unfold jU at h
 refine Fn.of_tr Try.func20 rfl (rs := [.tmp 6]) Try.results20 Try.ntmps20 (Nat.le_of_ble_eq_true rfl) ?_
 refine aG ?_
 refine aE ?_
 refine bW rfl (fU (v := .agg (bA l_0)) (aA rfl) rfl rfl rfl) ?_
 rintro _ ⟨b1, rfl⟩
 refine tr1 rfl (aJ (v := .d (.lit (.bool false))) (aA rfl) rfl rfl) ?_
 refine aF ?_
 refine aG ?_
 refine aE ?_
 refine tr1 rfl (dN (aA rfl) rfl (i := 0) rfl iH (es := (bA l_0)) rfl rfl) ?_
 obtain ⟨r2, h3, h⟩ := bind_some h
 refine tr1 rfl (bZ (aA rfl) (.func _ _ Try.call13) rfl rfl (BVs.refl _ _) (yB _ h3) rfl) ?_
 refine tr1 rfl (fF (aA rfl) rfl) ?_
 refine tr1 rfl (aD (v := .d (.lit (.bool (!r2)))) (aA rfl) rfl rfl) ?_
 obtain ⟨b4, h5, h⟩ := bind_some h
 refine bR 4 [1, 2, 3] 14 b4 ?_ ?_
 ·refine bG (!r2) (fun c18 => ?_) (fun c18 => ?_)
  ·have h5 := aQ c18 h5
   refine aL rfl rfl (aA rfl) rfl c18 (dN (aA rfl) rfl (i := 0) rfl iH (es := (bA l_0)) rfl rfl) ?_
   obtain ⟨r19, h20, h5⟩ := bind_some h5
   refine aL rfl rfl (aA rfl) rfl c18 (bZ (aA rfl) (.func _ _ Try.call15) rfl rfl (BVs.refl _ _) (rU _ h20) rfl) ?_
   refine aL rfl rfl (aA rfl) rfl c18 (bC (aA rfl) rfl rfl rfl) ?_
   refine tr1 rfl (bM (v := .d (.lit (.bool ((decide (r19 = 0)))))) (aA rfl) rfl c18 rfl rfl) ?_
   have h5 := Option.some.inj h5
   subst h5
   refine aF (aV rfl ⟨rfl, rfl, rfl, trivial⟩ rfl)
  ·have h5 := aP c18 h5
   refine aM rfl rfl (aA rfl) rfl (aA rfl) rfl c18 ?_
   refine aM rfl rfl (aA rfl) rfl (aA rfl) rfl c18 ?_
   refine aM rfl rfl (aA rfl) rfl (aA rfl) rfl c18 ?_
   refine tr1 rfl (bL (v := .d (.lit (.bool false))) (aA rfl) rfl c18 rfl rfl) ?_
   have h5 := Option.some.inj h5
   subst h5
   refine aF (aV rfl ⟨rfl, rfl, rfl, trivial⟩ rfl)
 ·refine tr1 rfl (aD (v := .d (.lit (.bool b4))) (aA rfl) rfl rfl) ?_
  obtain ⟨b6, h7, h⟩ := bind_some h
  refine bR 3 [1, 2, 3] 18 b6 ?_ ?_
  ·refine bG (b4) (fun c17 => ?_) (fun c17 => ?_)
   ·have h7 := aQ c17 h7
    refine aL rfl rfl (aA rfl) rfl c17 (aD (v := .d (.lit (.int .i64 player_1))) (aA rfl) rfl rfl) ?_
    refine aL rfl rfl (aA rfl) rfl c17 (bC (aA rfl) rfl rfl rfl) ?_
    refine tr1 rfl (bM (v := .d (.lit (.bool ((decide (0 ≤ player_1)))))) (aA rfl) rfl c17 rfl rfl) ?_
    have h7 := Option.some.inj h7
    subst h7
    refine aF (aV rfl ⟨rfl, rfl, rfl, trivial⟩ rfl)
   ·have h7 := aP c17 h7
    refine aM rfl rfl (aA rfl) rfl (aA rfl) rfl c17 ?_
    refine aM rfl rfl (aA rfl) rfl (aA rfl) rfl c17 ?_
    refine tr1 rfl (bL (v := .d (.lit (.bool false))) (aA rfl) rfl c17 rfl rfl) ?_
    have h7 := Option.some.inj h7
    subst h7
    refine aF (aV rfl ⟨rfl, rfl, rfl, trivial⟩ rfl)
  ·refine tr1 rfl (aD (v := .d (.lit (.bool b6))) (aA rfl) rfl rfl) ?_
   obtain ⟨b8, h9, h⟩ := bind_some h
   refine bR 5 [2] 24 b8 ?_ ?_
   ·refine bG (b6) (fun c16 => ?_) (fun c16 => ?_)
    ·have h9 := aQ c16 h9
     refine aL rfl rfl (aA rfl) rfl c16 (aD (v := .d (.lit (.int .i64 player_1))) (aA rfl) rfl rfl) ?_
     refine aL rfl rfl (aA rfl) rfl c16 (aT (aA rfl) rfl jC) ?_
     refine aL rfl rfl (aA rfl) rfl c16 (aU (aA rfl) rfl (i := 0) rfl rfl bH) ?_
     refine aL rfl rfl (aA rfl) rfl c16 (bC (aA rfl) rfl rfl rfl) ?_
     refine tr1 rfl (bM (v := .d (.lit (.bool ((decide (player_1 < l_0.Players)))))) (aA rfl) rfl c16 rfl rfl) ?_
     have h9 := Option.some.inj h9
     subst h9
     refine aF (aV rfl ⟨rfl, trivial⟩ rfl)
    ·have h9 := aP c16 h9
     refine aM rfl rfl (aA rfl) rfl (aA rfl) rfl c16 ?_
     refine aM rfl rfl (aA rfl) rfl (aA rfl) rfl c16 ?_
     refine aM rfl rfl (aA rfl) rfl (aA rfl) rfl c16 ?_
     refine aM rfl rfl (aA rfl) rfl (aA rfl) rfl c16 ?_
     refine tr1 rfl (bL (v := .d (.lit (.bool false))) (aA rfl) rfl c16 rfl rfl) ?_
     have h9 := Option.some.inj h9
     subst h9
     refine aF (aV rfl ⟨rfl, trivial⟩ rfl)
   ·refine tr1 rfl (aD (v := .d (.lit (.bool b8))) (aA rfl) rfl rfl) ?_
    obtain ⟨b10, h11, h⟩ := bind_some h
    refine bR 3 [2] 28 b10 ?_ ?_
    ·refine bG (b8) (fun c15 => ?_) (fun c15 => ?_)
     ·have h11 := aQ c15 h11
      refine aL rfl rfl (aA rfl) rfl c15 (aD (v := .d (.lit (.int .i64 week_2))) (aA rfl) rfl rfl) ?_
      refine aL rfl rfl (aA rfl) rfl c15 (bC (aA rfl) rfl rfl rfl) ?_
      refine tr1 rfl (bM (v := .d (.lit (.bool ((decide (0 ≤ week_2)))))) (aA rfl) rfl c15 rfl rfl) ?_
      have h11 := Option.some.inj h11
      subst h11
      refine aF (aV rfl ⟨rfl, trivial⟩ rfl)
     ·have h11 := aP c15 h11
      refine aM rfl rfl (aA rfl) rfl (aA rfl) rfl c15 ?_
      refine aM rfl rfl (aA rfl) rfl (aA rfl) rfl c15 ?_
      refine tr1 rfl (bL (v := .d (.lit (.bool false))) (aA rfl) rfl c15 rfl rfl) ?_
      have h11 := Option.some.inj h11
      subst h11
      refine aF (aV rfl ⟨rfl, trivial⟩ rfl)
    ·refine tr1 rfl (aD (v := .d (.lit (.bool b10))) (aA rfl) rfl rfl) ?_
     obtain ⟨b12, h13, h⟩ := bind_some h
     refine bR 3 [] 32 b12 ?_ ?_
     ·refine bG (b10) (fun c14 => ?_) (fun c14 => ?_)
      ·have h13 := aQ c14 h13
       refine aL rfl rfl (aA rfl) rfl c14 (aD (v := .d (.lit (.int .i64 week_2))) (aA rfl) rfl rfl) ?_
       refine aL rfl rfl (aA rfl) rfl c14 (bC (aA rfl) rfl rfl rfl) ?_
       refine tr1 rfl (bM (v := .d (.lit (.bool ((decide (week_2 ≤ 250)))))) (aA rfl) rfl c14 rfl rfl) ?_
       have h13 := Option.some.inj h13
       subst h13
       refine aF (aV rfl trivial rfl)
      ·have h13 := aP c14 h13
       refine aM rfl rfl (aA rfl) rfl (aA rfl) rfl c14 ?_
       refine aM rfl rfl (aA rfl) rfl (aA rfl) rfl c14 ?_
       refine tr1 rfl (bL (v := .d (.lit (.bool false))) (aA rfl) rfl c14 rfl rfl) ?_
       have h13 := Option.some.inj h13
       subst h13
       refine aF (aV rfl trivial rfl)
     ·refine tr1 rfl (aJ (v := .d (.lit (.bool b12))) (aA rfl) rfl rfl) ?_
      refine aF ?_
      have h := Option.some.inj h
      subst h
      refine cU (cH (cN (l := [6]) ⟨rfl, trivial⟩)) ?_
      exact bO ⟨rfl, _, .one _, rfl, rfl⟩

theorem vQ (l_0 : aS) (player_1 : Int) (week_2 : Int) {r : Int × Int} (h : nM l_0 player_1 week_2 = some r) : Fn Try.prog 22 [.agg (bA l_0), .d (.lit (.int .i64 player_1)), .d (.lit (.int .i64 week_2))] (.tup [.d (.lit (.int .i64 r.1)), .d (.lit (.int .i64 r.2))]) := by
 unfold nM at h
 refine Fn.of_tr Try.func22 rfl (rs := [.tmp 6, .tmp 7]) Try.results22 Try.ntmps22 (Nat.le_of_ble_eq_true rfl) ?_
 refine aG ?_
 refine aE ?_
 refine bW rfl (fU (v := .agg (bA l_0)) (aA rfl) rfl rfl rfl) ?_
 rintro _ ⟨b1, rfl⟩
 refine tr1 rfl (aJ (v := .d (.lit (.int .i64 0))) (aA rfl) rfl rfl) ?_
 refine tr1 rfl (aJ (v := .d (.lit (.int .i64 0))) (aA rfl) rfl rfl) ?_
 refine aF ?_
 refine aG ?_
 refine aE ?_
 refine tr1 rfl (dN (aA rfl) rfl (i := 0) rfl iH (es := (bA l_0)) rfl rfl) ?_
 refine tr1 rfl (aD (v := .d (.lit (.int .i64 player_1))) (aA rfl) rfl rfl) ?_
 refine tr1 rfl (aD (v := .d (.lit (.int .i64 week_2))) (aA rfl) rfl rfl) ?_
 obtain ⟨r2, h3, h⟩ := bind_some h
 refine bW rfl (dM (passed := []) (aA rfl) rfl (.func _ _ Try.call44) rfl rfl (sN _ _ _ h3)) ?_
 rintro _ ⟨_, _, ⟨b5, w6, rfl, rfl⟩, rfl⟩
 obtain ⟨_ | y4, e7⟩ := r2
 ·have h := wU h
  refine fZ (aW [0] rfl rfl (le_refl _)) ?_
  refine tr1 rfl (aD (v := .tup [.d (.lit (.pointer none)), .d (.lit (.int .i64 e7))]) (aA rfl) rfl rfl) ?_
  refine tr1 rfl (cV (aA rfl) rfl rfl) ?_
  refine tr1 rfl (cV (aA rfl) rfl rfl) ?_
  refine tr1 rfl (aJ (v := .d (.lit (.pointer none))) (aA rfl) rfl rfl) ?_
  refine tr1 rfl (aJ (v := .d (.lit (.int .i64 e7))) (aA rfl) rfl rfl) ?_
  refine aF ?_
  refine aG ?_
  refine aG ?_
  refine aE ?_
  refine tr1 rfl (aD (v := .d (.lit (.int .i64 e7))) (aA rfl) rfl rfl) ?_
  refine tr1 rfl (bC (aA rfl) rfl rfl rfl) ?_
  refine aF ?_
  refine bN rfl (fun c8 => ?_) (fun c8 => ?_)
  ·have h := aQ c8 h
   refine aG ?_
   refine aE ?_
   refine tr1 rfl (aD (v := .d (.lit (.int .i64 e7))) (aA rfl) rfl rfl) ?_
   refine tr1 rfl (aJ (v := .d (.lit (.int .i64 0))) (aA rfl) rfl rfl) ?_
   refine tr1 rfl (aJ (v := .d (.lit (.int .i64 e7))) (aA rfl) rfl rfl) ?_
   refine aF ?_
   have h := Option.some.inj h
   subst h
   refine cU (cH (cN (l := [6, 7]) ⟨rfl, rfl, trivial⟩)) ?_
   exact bO ⟨rfl, _, .two _ _, rfl, rfl⟩
  ·have h := aP c8 h
   refine bJ ?_
   refine aG ?_
   refine aE ?_
   refine tr1 rfl (aD (v := .d (.lit (.pointer none))) (aA rfl) rfl rfl) ?_
   refine tr1 rfl (aD (v := .d (.lit (.int .i64 player_1))) (aA rfl) rfl rfl) ?_
   refine tr1 rfl (aD (v := .d (.lit (.int .i64 week_2))) (aA rfl) rfl rfl) ?_
   cases h
 ·have h := wV h
  refine fZ (aW [0, 1, 2] rfl rfl (le_refl _)) ?_
  refine tr1 rfl (aD (v := .tup [.bp b5 0 0, .d (.lit (.int .i64 e7))]) (aA rfl) rfl rfl) ?_
  refine tr1 rfl (cV (aA rfl) rfl rfl) ?_
  refine tr1 rfl (cV (aA rfl) rfl rfl) ?_
  refine tr1 rfl (aJ (v := .bp b5 0 0) (aA rfl) rfl rfl) ?_
  refine tr1 rfl (aJ (v := .d (.lit (.int .i64 e7))) (aA rfl) rfl rfl) ?_
  refine aF ?_
  refine aG ?_
  refine aG ?_
  refine aE ?_
  refine tr1 rfl (aD (v := .d (.lit (.int .i64 e7))) (aA rfl) rfl rfl) ?_
  refine tr1 rfl (bC (aA rfl) rfl rfl rfl) ?_
  refine aF ?_
  refine bN rfl (fun c9 => ?_) (fun c9 => ?_)
  ·have h := aQ c9 h
   refine aG ?_
   refine aE ?_
   refine tr1 rfl (aD (v := .d (.lit (.int .i64 e7))) (aA rfl) rfl rfl) ?_
   refine tr1 rfl (aJ (v := .d (.lit (.int .i64 0))) (aA rfl) rfl rfl) ?_
   refine tr1 rfl (aJ (v := .d (.lit (.int .i64 e7))) (aA rfl) rfl rfl) ?_
   refine aF ?_
   have h := Option.some.inj h
   subst h
   refine cU (cH (cN (l := [6, 7]) ⟨rfl, rfl, trivial⟩)) ?_
   exact bO ⟨rfl, _, .two _ _, rfl, rfl⟩
  ·have h := aP c9 h
   refine bJ ?_
   refine aG ?_
   refine aE ?_
   refine tr1 rfl (aD (v := .bp b5 0 0) (aA rfl) rfl rfl) ?_
   refine tr1 rfl (aD (v := .d (.lit (.int .i64 player_1))) (aA rfl) rfl rfl) ?_
   refine tr1 rfl (aD (v := .d (.lit (.int .i64 week_2))) (aA rfl) rfl rfl) ?_
   obtain ⟨r10, h11, h⟩ := bind_some h
   refine tr1 rfl (bZ (aA rfl) (.func _ _ Try.call55) rfl rfl (.cons ((oN 0 rfl rfl (dvc (.same _) (dvc (.same _) (dvc (kI 1 rfl (eA (f := aC) fun _ => rfl)) (dvc (.same _) (dvc (.same _) dvn))))))) (.cons (.same _) (.cons (.same _) .nil))) (oI _ _ _ h11) rfl) ?_
   refine tr1 rfl (aJ (v := .d (.lit (.int .i64 r10))) (aA rfl) rfl rfl) ?_
   refine tr1 rfl (aJ (v := .d (.lit (.int .i64 0))) (aA rfl) rfl rfl) ?_
   refine aF ?_
   have h := Option.some.inj h
   subst h
   refine cU (cH (cN (l := [6, 7]) ⟨rfl, rfl, trivial⟩)) ?_
   exact bO ⟨rfl, _, .two _ _, rfl, rfl⟩

theorem sZ (l_0 : aS) (x_1 : lW) {r : Bool} (h : kB l_0 x_1 = some r) : Fn Try.prog 4 [.agg (bA l_0), .agg (mW x_1)] (.d (.lit (.bool r))) := by
 unfold kB at h
 refine Fn.of_tr Try.func4 rfl (rs := [.tmp 4]) Try.results4 Try.ntmps4 (Nat.le_of_ble_eq_true rfl) ?_
 refine aG ?_
 refine aE ?_
 refine bW rfl (fU (v := .agg (bA l_0)) (aA rfl) rfl rfl rfl) ?_
 rintro _ ⟨b1, rfl⟩
 refine bW rfl (fU (v := .agg (mW x_1)) (aA rfl) rfl rfl rfl) ?_
 rintro _ ⟨b2, rfl⟩
 refine tr1 rfl (aJ (v := .d (.lit (.bool false))) (aA rfl) rfl rfl) ?_
 refine aF ?_
 refine aG ?_
 refine aG ?_
 refine aE ?_
 refine tr1 rfl (dN (aA rfl) rfl (i := 0) rfl iH (es := (bA l_0)) rfl rfl) ?_
 refine tr1 rfl (aT (aA rfl) rfl rD) ?_
 refine tr1 rfl (aU (aA rfl) rfl (i := 1) rfl rfl bH) ?_
 refine tr1 rfl (aT (aA rfl) rfl rE) ?_
 refine tr1 rfl (aU (aA rfl) rfl (i := 1) rfl rfl bH) ?_
 obtain ⟨r3, h4, h⟩ := bind_some h
 refine tr1 rfl (bZ (aA rfl) (.func _ _ Try.call20) rfl rfl (BVs.refl _ _) (wH _ _ _ h4) rfl) ?_
 refine tr1 rfl (fF (aA rfl) rfl) ?_
 refine tr1 rfl (aD (v := .d (.lit (.bool (!r3)))) (aA rfl) rfl rfl) ?_
 obtain ⟨b5, h6, h⟩ := bind_some h
 refine bR 4 [2, 3] 25 b5 ?_ ?_
 ·refine bG (!r3) (fun c58 => ?_) (fun c58 => ?_)
  ·have h6 := aQ c58 h6
   refine aM rfl rfl (aA rfl) rfl (aA rfl) rfl c58 ?_
   refine aM rfl rfl (aA rfl) rfl (aA rfl) rfl c58 ?_
   refine aM rfl rfl (aA rfl) rfl (aA rfl) rfl c58 ?_
   refine tr1 rfl (bM (v := .d (.lit (.bool true))) (aA rfl) rfl c58 rfl rfl) ?_
   have h6 := Option.some.inj h6
   subst h6
   refine aF (aV rfl ⟨rfl, rfl, trivial⟩ rfl)
  ·have h6 := aP c58 h6
   refine aL rfl rfl (aA rfl) rfl c58 (aT (aA rfl) rfl rE) ?_
   refine aL rfl rfl (aA rfl) rfl c58 (aU (aA rfl) rfl (i := 1) rfl rfl bH) ?_
   refine aL rfl rfl (aA rfl) rfl c58 (bC (aA rfl) rfl rfl rfl) ?_
   refine tr1 rfl (bL (v := .d (.lit (.bool ((decide (x_1.Week = 250)))))) (aA rfl) rfl c58 rfl rfl) ?_
   have h6 := Option.some.inj h6
   subst h6
   refine aF (aV rfl ⟨rfl, rfl, trivial⟩ rfl)
 ·refine aF ?_
  refine bN rfl (fun c7 => ?_) (fun c7 => ?_)
  ·have h := aQ c7 h
   refine aG ?_
   refine aE ?_
   obtain ⟨r8, h9, h⟩ := bind_some h
   refine tr1 rfl (bZ (aA rfl) (.func _ _ Try.call16) rfl rfl (BVs.refl _ _) (rS h9) rfl) ?_
   refine tr1 rfl (aJ (v := .d (.lit (.bool r8))) (aA rfl) rfl rfl) ?_
   refine aF ?_
   have h := Option.some.inj h
   subst h
   refine cU (cH (cN (l := [4]) ⟨rfl, trivial⟩)) ?_
   exact bO ⟨rfl, _, .one _, rfl, rfl⟩
  ·have h := aP c7 h
   refine bJ ?_
   refine aG ?_
   refine aE ?_
   refine tr1 rfl (dN (aA rfl) rfl (i := 0) rfl iH (es := (bA l_0)) rfl rfl) ?_
   refine tr1 rfl (aT (aA rfl) rfl rD) ?_
   refine tr1 rfl (aU (aA rfl) rfl (i := 1) rfl rfl bH) ?_
   refine tr1 rfl (aT (aA rfl) rfl rE) ?_
   refine tr1 rfl (aU (aA rfl) rfl (i := 1) rfl rfl bH) ?_
   obtain ⟨r10, h11, h⟩ := bind_some h
   refine tr1 rfl (bZ (aA rfl) (.func _ _ Try.call21) rfl rfl (BVs.refl _ _) (uS _ _ _ h11) rfl) ?_
   refine tr1 rfl (aD (v := .tup [.d (.lit (.int .i64 r10.1)), .d (.lit (.int .i64 r10.2))]) (aA rfl) rfl rfl) ?_
   refine tr1 rfl (cV (aA rfl) rfl rfl) ?_
   refine tr1 rfl (cV (aA rfl) rfl rfl) ?_
   refine tr1 rfl (aJ (v := .d (.lit (.int .i64 r10.1))) (aA rfl) rfl rfl) ?_
   refine tr1 rfl (aJ (v := .d (.lit (.int .i64 r10.2))) (aA rfl) rfl rfl) ?_
   refine aF ?_
   refine aG ?_
   refine aE ?_
   refine tr1 rfl (dN (aA rfl) rfl (i := 0) rfl iH (es := (bA l_0)) rfl rfl) ?_
   refine tr1 rfl (aT (aA rfl) rfl rD) ?_
   refine tr1 rfl (aU (aA rfl) rfl (i := 1) rfl rfl bH) ?_
   refine tr1 rfl (aT (aA rfl) rfl rE) ?_
   refine tr1 rfl (aU (aA rfl) rfl (i := 1) rfl rfl bH) ?_
   obtain ⟨r12, h13, h⟩ := bind_some h
   refine tr1 rfl (bZ (aA rfl) (.func _ _ Try.call22) rfl rfl (BVs.refl _ _) (vQ _ _ _ h13) rfl) ?_
   refine tr1 rfl (aD (v := .tup [.d (.lit (.int .i64 r12.1)), .d (.lit (.int .i64 r12.2))]) (aA rfl) rfl rfl) ?_
   refine tr1 rfl (cV (aA rfl) rfl rfl) ?_
   refine tr1 rfl (cV (aA rfl) rfl rfl) ?_
   refine tr1 rfl (aJ (v := .d (.lit (.int .i64 r12.1))) (aA rfl) rfl rfl) ?_
   refine tr1 rfl (aJ (v := .d (.lit (.int .i64 r12.2))) (aA rfl) rfl rfl) ?_
   refine aF ?_
   refine aG ?_
   refine aE ?_
   refine tr1 rfl (dN (aA rfl) rfl (i := 0) rfl iH (es := (bA l_0)) rfl rfl) ?_
   refine tr1 rfl (aT (aA rfl) rfl rD) ?_
   refine tr1 rfl (aU (aA rfl) rfl (i := 1) rfl rfl bH) ?_
   refine tr1 rfl (aT (aA rfl) rfl rE) ?_
   refine tr1 rfl (aU (aA rfl) rfl (i := 1) rfl rfl bH) ?_
   refine tr1 rfl (aY (aA rfl) rfl rfl rfl) ?_
   obtain ⟨r14, h15, h⟩ := bind_some h
   refine tr1 rfl (bZ (aA rfl) (.func _ _ Try.call22) rfl rfl (BVs.refl _ _) (vQ _ _ _ h15) rfl) ?_
   refine tr1 rfl (aD (v := .tup [.d (.lit (.int .i64 r14.1)), .d (.lit (.int .i64 r14.2))]) (aA rfl) rfl rfl) ?_
   refine tr1 rfl (cV (aA rfl) rfl rfl) ?_
   refine tr1 rfl (cV (aA rfl) rfl rfl) ?_
   refine tr1 rfl (aJ (v := .d (.lit (.int .i64 r14.1))) (aA rfl) rfl rfl) ?_
   refine tr1 rfl (aJ (v := .d (.lit (.int .i64 r14.2))) (aA rfl) rfl rfl) ?_
   refine aF ?_
   refine aG ?_
   refine aG ?_
   refine aE ?_
   refine tr1 rfl (aD (v := .d (.lit (.int .i64 r10.2))) (aA rfl) rfl rfl) ?_
   refine tr1 rfl (bC (aA rfl) rfl rfl rfl) ?_
   refine tr1 rfl (aD (v := .d (.lit (.bool ((!decide (r10.2 = 0)))))) (aA rfl) rfl rfl) ?_
   obtain ⟨b16, h17, h⟩ := bind_some h
   refine bR 3 [2, 3, 5, 7, 9, 10] 60 b16 ?_ ?_
   ·refine bG (!decide (r10.2 = 0)) (fun c57 => ?_) (fun c57 => ?_)
    ·have h17 := aQ c57 h17
     refine aM rfl rfl (aA rfl) rfl (aA rfl) rfl c57 ?_
     refine aM rfl rfl (aA rfl) rfl (aA rfl) rfl c57 ?_
     refine tr1 rfl (bM (v := .d (.lit (.bool true))) (aA rfl) rfl c57 rfl rfl) ?_
     have h17 := Option.some.inj h17
     subst h17
     refine aF (aV rfl ⟨rfl, rfl, rfl, rfl, rfl, rfl, trivial⟩ rfl)
    ·have h17 := aP c57 h17
     refine aL rfl rfl (aA rfl) rfl c57 (aD (v := .d (.lit (.int .i64 r12.2))) (aA rfl) rfl rfl) ?_
     refine aL rfl rfl (aA rfl) rfl c57 (bC (aA rfl) rfl rfl rfl) ?_
     refine tr1 rfl (bL (v := .d (.lit (.bool ((!decide (r12.2 = 0)))))) (aA rfl) rfl c57 rfl rfl) ?_
     have h17 := Option.some.inj h17
     subst h17
     refine aF (aV rfl ⟨rfl, rfl, rfl, rfl, rfl, rfl, trivial⟩ rfl)
   ·refine tr1 rfl (aD (v := .d (.lit (.bool b16))) (aA rfl) rfl rfl) ?_
    obtain ⟨b18, h19, h⟩ := bind_some h
    refine bR 3 [2, 3, 5, 7, 9] 64 b18 ?_ ?_
    ·refine bG (b16) (fun c56 => ?_) (fun c56 => ?_)
     ·have h19 := aQ c56 h19
      refine aM rfl rfl (aA rfl) rfl (aA rfl) rfl c56 ?_
      refine aM rfl rfl (aA rfl) rfl (aA rfl) rfl c56 ?_
      refine tr1 rfl (bM (v := .d (.lit (.bool true))) (aA rfl) rfl c56 rfl rfl) ?_
      have h19 := Option.some.inj h19
      subst h19
      refine aF (aV rfl ⟨rfl, rfl, rfl, rfl, rfl, trivial⟩ rfl)
     ·have h19 := aP c56 h19
      refine aL rfl rfl (aA rfl) rfl c56 (aD (v := .d (.lit (.int .i64 r14.2))) (aA rfl) rfl rfl) ?_
      refine aL rfl rfl (aA rfl) rfl c56 (bC (aA rfl) rfl rfl rfl) ?_
      refine tr1 rfl (bL (v := .d (.lit (.bool ((!decide (r14.2 = 0)))))) (aA rfl) rfl c56 rfl rfl) ?_
      have h19 := Option.some.inj h19
      subst h19
      refine aF (aV rfl ⟨rfl, rfl, rfl, rfl, rfl, trivial⟩ rfl)
    ·refine aF ?_
     refine bN rfl (fun c20 => ?_) (fun c20 => ?_)
     ·have h := aQ c20 h
      refine aG ?_
      refine aE ?_
      refine tr1 rfl (aJ (v := .d (.lit (.bool false))) (aA rfl) rfl rfl) ?_
      refine aF ?_
      have h := Option.some.inj h
      subst h
      refine cU (cH (cN (l := [4]) ⟨rfl, trivial⟩)) ?_
      exact bO ⟨rfl, _, .one _, rfl, rfl⟩
     ·have h := aP c20 h
      refine bJ ?_
      refine aG ?_
      refine aE ?_
      refine tr1 rfl (aJ (v := .d (.lit (.bool false))) (aA rfl) rfl rfl) ?_
      refine tr1 rfl (aJ (v := .d (.lit (.bool false))) (aA rfl) rfl rfl) ?_
      refine aF ?_
      refine aG ?_
      refine aG ?_
      refine aE ?_
      refine tr1 rfl (aJ (v := .d (.lit (.int .i64 0))) (aA rfl) rfl rfl) ?_
      refine aF ?_
      refine bT ?_
      refine cO [2, 3, 5, 7, 9] (fun (s21 : Bool × Bool × Int) => [(11, .d (.lit (.bool s21.1))), (12, .d (.lit (.bool s21.2.1))), (13, .d (.lit (.int .i64 s21.2.2)))]) (fun (s21 : Bool × Bool × Int) => [.box b1 0 (bA l_0), .box b2 0 (mW x_1)]) (fun (k : Nat) (s21 : Bool × Bool × Int) => eY r10.1 r12.1 r14.1 l_0 x_1 k s21.1 s21.2.1 s21.2.2) (fun _ => rfl) (false, false, 0) h (aW [0, 1] rfl rfl (aN rfl (aN rfl (aN rfl (aX ⟨rfl, rfl, rfl, rfl, rfl, trivial⟩))))) ?_
      rintro k22 ⟨must_0_21, comes_0_21, i_0_21⟩ h
      simp only [eY] at h
      refine aG ?_
      refine aG ?_
      refine aE ?_
      refine tr1 rfl (aD (v := .d (.lit (.int .i64 i_0_21))) (aA rfl) rfl rfl) ?_
      refine tr1 rfl (aT (aA rfl) rfl eL) ?_
      refine tr1 rfl (aU (aA rfl) rfl (i := 0) rfl rfl iI) ?_
      refine tr1 rfl (eB (aA rfl) rfl cA.of) ?_
      refine tr1 rfl (bC (aA rfl) rfl rfl rfl) ?_
      refine aF ?_
      refine bN rfl (fun c23 => ?_) (fun c23 => ?_)
      ·have h := aQ c23 h
       refine bJ ?_
       refine aG ?_
       refine bT ?_
       refine aG ?_
       refine aE ?_
       refine tr1 rfl (aD (v := .d (.lit (.bool must_0_21))) (aA rfl) rfl rfl) ?_
       refine tr1 rfl (aD (v := .d (.lit (.bool must_0_21))) (aA rfl) rfl rfl) ?_
       obtain ⟨b24, h25, h⟩ := bind_some h
       refine bR 7 [2, 3, 5, 7, 9, 12, 13] 80 b24 ?_ ?_
       ·refine bG (must_0_21) (fun c36 => ?_) (fun c36 => ?_)
        ·have h25 := aQ c36 h25
         refine aM rfl rfl (aA rfl) rfl (aA rfl) rfl c36 ?_
         refine aM rfl rfl (aA rfl) rfl (aA rfl) rfl c36 ?_
         refine aM rfl rfl (aA rfl) rfl (aA rfl) rfl c36 ?_
         refine aM rfl rfl (aA rfl) rfl (aA rfl) rfl c36 ?_
         refine aM rfl rfl (aA rfl) rfl (aA rfl) rfl c36 ?_
         refine aM rfl rfl (aA rfl) rfl (aA rfl) rfl c36 ?_
         refine tr1 rfl (bM (v := .d (.lit (.bool true))) (aA rfl) rfl c36 rfl rfl) ?_
         have h25 := Option.some.inj h25
         subst h25
         refine aF (aV rfl ⟨rfl, rfl, rfl, rfl, rfl, rfl, rfl, trivial⟩ rfl)
        ·have h25 := aP c36 h25
         refine aL rfl rfl (aA rfl) rfl c36 (aT (aA rfl) rfl eL) ?_
         refine aL rfl rfl (aA rfl) rfl c36 (aU (aA rfl) rfl (i := 0) rfl rfl iI) ?_
         refine aL rfl rfl (aA rfl) rfl c36 (aD (v := .d (.lit (.int .i64 i_0_21))) (aA rfl) rfl rfl) ?_
         obtain ⟨x37, h38, h25⟩ := bind_some h25
         refine aL rfl rfl (aA rfl) rfl c36 (cF (aA rfl) rfl rfl cA.of (bP aC h38)) ?_
         refine aL rfl rfl (aA rfl) rfl c36 (cQ (aA rfl) rfl oE (es := [.lit (.bool x37.Must)]) rfl) ?_
         refine aL rfl rfl (aA rfl) rfl c36 (cI (aA rfl) rfl rP) ?_
         refine tr1 rfl (bL (v := .d (.lit (.bool x37.Must))) (aA rfl) rfl c36 rfl rfl) ?_
         have h25 := Option.some.inj h25
         subst h25
         refine aF (aV rfl ⟨rfl, rfl, rfl, rfl, rfl, rfl, rfl, trivial⟩ rfl)
       ·refine tr1 rfl (aJ (v := .d (.lit (.bool b24))) (aA rfl) rfl rfl) ?_
        refine aF ?_
        obtain ⟨b26, h27, h⟩ := bind_some h
        refine hZ mix 24 [2, 3, 5, 7, 9, 11, 13] [(104, .d (.lit (.bool b26)))] ?_ ?_
        ·refine bG (comes_0_21) (fun c28 => ?_) (fun c28 => ?_)
         ·have h27 := aQ c28 h27
          have h27 := Option.some.inj h27
          subst h27
          refine ⟨[(81, 0, .d (.lit (.bool comes_0_21))), (82, 1, .d (.lit (.bool comes_0_21))), (83, 2, .tup []), (84, 3, .tup []), (85, 4, .tup []), (86, 5, .tup []), (87, 6, .tup []), (88, 7, .tup []), (89, 8, .tup []), (90, 9, .tup []), (91, 10, .tup []), (92, 11, .tup []), (93, 12, .tup []), (94, 13, .tup []), (95, 14, .tup []), (96, 15, .tup []), (97, 16, .tup []), (98, 17, .tup []), (99, 18, .tup []), (100, 19, .tup []), (101, 20, .tup []), (102, 21, .tup []), (103, 22, .tup []), (104, 23, .d (.lit (.bool true)))], ?_, ?_⟩
          · exact ⟨by kernel_rfl, by kernel_rfl, by kernel_rfl, by kernel_rfl, by kernel_rfl, [([], []), ([0], []), ([1], []), ([1, 2], []), ([1], []), ([1, 3, 4], []), ([1, 5], []), ([1, 6], []), ([1], []), ([1, 8], []), ([1, 7, 9], []), ([1, 10], []), ([11], []), ([11, 12], []), ([11], []), ([11, 13, 14], []), ([11, 15], []), ([11, 16], []), ([11], []), ([11, 18], []), ([11, 19], []), ([11, 17, 20], []), ([1, 11, 21], []), ([1, 22], [])], by kernel_rfl, ⟨fun S hS => aI rfl (aO rfl (aD (v := .d (.lit (.bool comes_0_21))) (aA rfl) (aH hS rfl) rfl)),
      fun S hS => aI rfl (aO rfl (aD (v := .d (.lit (.bool comes_0_21))) (aA rfl) (aH hS rfl) rfl)),
      fun S hS => aI rfl (bD rfl rfl (aA rfl) rfl (aA rfl) (aR hS rfl) c28),
      fun S hS => aI rfl (bD rfl rfl (aA rfl) rfl (aA rfl) (aR hS rfl) c28),
      fun S hS => aI rfl (bD rfl rfl (aA rfl) rfl (aA rfl) (aR hS rfl) c28),
      fun S hS => aI rfl (bD rfl rfl (aA rfl) rfl (aA rfl) (aR hS rfl) c28),
      fun S hS => aI rfl (bD rfl rfl (aA rfl) rfl (aA rfl) (aR hS rfl) c28),
      fun S hS => aI rfl (bD rfl rfl (aA rfl) rfl (aA rfl) (aR hS rfl) c28),
      fun S hS => aI rfl (bD rfl rfl (aA rfl) rfl (aA rfl) (aR hS rfl) c28),
      fun S hS => aI rfl (bD rfl rfl (aA rfl) rfl (aA rfl) (aR hS rfl) c28),
      fun S hS => aI rfl (bD rfl rfl (aA rfl) rfl (aA rfl) (aR hS rfl) c28),
      fun S hS => aI rfl (bD rfl rfl (aA rfl) rfl (aA rfl) (aR hS rfl) c28),
      fun S hS => aI rfl (nL rfl rfl (aA rfl) rfl (aA rfl) (aR hS rfl)),
      fun S hS => aI rfl (nL rfl rfl (aA rfl) rfl (aA rfl) (aR hS rfl)),
      fun S hS => aI rfl (nL rfl rfl (aA rfl) rfl (aA rfl) (aR hS rfl)),
      fun S hS => aI rfl (nL rfl rfl (aA rfl) rfl (aA rfl) (aR hS rfl)),
      fun S hS => aI rfl (nL rfl rfl (aA rfl) rfl (aA rfl) (aR hS rfl)),
      fun S hS => aI rfl (nL rfl rfl (aA rfl) rfl (aA rfl) (aR hS rfl)),
      fun S hS => aI rfl (nL rfl rfl (aA rfl) rfl (aA rfl) (aR hS rfl)),
      fun S hS => aI rfl (nL rfl rfl (aA rfl) rfl (aA rfl) (aR hS rfl)),
      fun S hS => aI rfl (nL rfl rfl (aA rfl) rfl (aA rfl) (aR hS rfl)),
      fun S hS => aI rfl (nL rfl rfl (aA rfl) rfl (aA rfl) (aR hS rfl)),
      fun S hS => aI rfl (bD rfl rfl (aA rfl) rfl (aA rfl) (aR hS rfl) c28),
      fun S hS => aI rfl (aO rfl (bM (v := .d (.lit (.bool true))) (aA rfl) (aH hS rfl) c28 rfl rfl)), trivial⟩⟩
          · exact eE (aN rfl (aX ⟨rfl, rfl, rfl, rfl, rfl, rfl, rfl, trivial⟩))
         ·have h27 := aP c28 h27
          obtain ⟨x29, h30, h27⟩ := bind_some h27
          obtain ⟨b31, h32, h27⟩ := bind_some h27
          refine bG (decide (x29.Player = x_1.Player)) (fun c33 => ?_) (fun c33 => ?_)
          ·have h32 := aQ c33 h32
           obtain ⟨x34, h35, h32⟩ := bind_some h32
           have h32 := Option.some.inj h32
           subst h32
           have h27 := Option.some.inj h27
           subst h27
           refine ⟨[(81, 0, .d (.lit (.bool comes_0_21))), (82, 1, .d (.lit (.bool comes_0_21))), (83, 2, .bp b1 0 2), (84, 3, .d (.sl 5 (l_0.Reports.map aC))), (85, 4, .d (.lit (.int .i64 i_0_21))), (86, 5, .cp [.lit (.int .i64 x29.Id), .lit (.int .i64 x29.Player), .lit (.int .i64 x29.Week), .lit (.int .i64 x29.Points), .lit (.bool x29.Must)]), (87, 6, .cp [.lit (.int .i64 x29.Player)]), (88, 7, .d (.lit (.int .i64 x29.Player))), (89, 8, .bp b2 0 0), (90, 9, .d (.lit (.int .i64 x_1.Player))), (91, 10, .d (.lit (.bool ((decide (x29.Player = x_1.Player)))))), (92, 11, .d (.lit (.bool ((decide (x29.Player = x_1.Player)))))), (93, 12, .bp b1 0 2), (94, 13, .d (.sl 5 (l_0.Reports.map aC))), (95, 14, .d (.lit (.int .i64 i_0_21))), (96, 15, .cp [.lit (.int .i64 x34.Id), .lit (.int .i64 x34.Player), .lit (.int .i64 x34.Week), .lit (.int .i64 x34.Points), .lit (.bool x34.Must)]), (97, 16, .cp [.lit (.int .i64 x34.Week)]), (98, 17, .d (.lit (.int .i64 x34.Week))), (99, 18, .bp b2 0 1), (100, 19, .d (.lit (.int .i64 x_1.Week))), (101, 20, .d (.lit (.int .i64 ((w64 (x_1.Week + 1)))))), (102, 21, .d (.lit (.bool ((decide (x34.Week = (w64 (x_1.Week + 1)))))))), (103, 22, .d (.lit (.bool ((decide (x34.Week = (w64 (x_1.Week + 1)))))))), (104, 23, .d (.lit (.bool (decide (x34.Week = (w64 (x_1.Week + 1)))))))], ?_, ?_⟩
           · exact ⟨by kernel_rfl, by kernel_rfl, by kernel_rfl, by kernel_rfl, by kernel_rfl, [([], []), ([0], []), ([1], []), ([1, 2], []), ([1], []), ([1, 3, 4], []), ([1, 5], []), ([1, 6], []), ([1], []), ([1, 8], []), ([1, 7, 9], []), ([1, 10], []), ([11], []), ([11, 12], []), ([11], []), ([11, 13, 14], []), ([11, 15], []), ([11, 16], []), ([11], []), ([11, 18], []), ([11, 19], []), ([11, 17, 20], []), ([1, 11, 21], []), ([1, 22], [])], by kernel_rfl, ⟨fun S hS => aI rfl (aO rfl (aD (v := .d (.lit (.bool comes_0_21))) (aA rfl) (aH hS rfl) rfl)),
      fun S hS => aI rfl (aO rfl (aD (v := .d (.lit (.bool comes_0_21))) (aA rfl) (aH hS rfl) rfl)),
      fun S hS => aI rfl (bE rfl rfl (aA rfl) (aR hS rfl) c28 (aT (aA rfl) (aH hS rfl) eL)),
      fun S hS => aI rfl (bE rfl rfl (aA rfl) (aR hS rfl) c28 (aU (aA rfl) (aH hS rfl) (i := 0) rfl rfl iI)),
      fun S hS => aI rfl (bE rfl rfl (aA rfl) (aR hS rfl) c28 (aD (v := .d (.lit (.int .i64 i_0_21))) (aA rfl) (aH hS rfl) rfl)),
      fun S hS => aI rfl (bE rfl rfl (aA rfl) (aR hS rfl) c28 (cF (aA rfl) (aH hS rfl) (aH hS rfl) cA.of (bP aC h30))),
      fun S hS => aI rfl (bE rfl rfl (aA rfl) (aR hS rfl) c28 (cQ (aA rfl) (aH hS rfl) mY (es := [.lit (.int .i64 x29.Player)]) rfl)),
      fun S hS => aI rfl (bE rfl rfl (aA rfl) (aR hS rfl) c28 (cI (aA rfl) (aH hS rfl) bH)),
      fun S hS => aI rfl (bE rfl rfl (aA rfl) (aR hS rfl) c28 (aT (aA rfl) (aH hS rfl) rD)),
      fun S hS => aI rfl (bE rfl rfl (aA rfl) (aR hS rfl) c28 (aU (aA rfl) (aH hS rfl) (i := 1) rfl rfl bH)),
      fun S hS => aI rfl (bE rfl rfl (aA rfl) (aR hS rfl) c28 (bC (aA rfl) (aH hS rfl) (aH hS rfl) rfl)),
      fun S hS => aI rfl (bE rfl rfl (aA rfl) (aR hS rfl) c28 (aD (v := .d (.lit (.bool ((decide (x29.Player = x_1.Player)))))) (aA rfl) (aH hS rfl) rfl)),
      fun S hS => aI rfl (bE rfl rfl (aA rfl) (aR hS rfl) c33 (aT (aA rfl) (aH hS rfl) eL)),
      fun S hS => aI rfl (bE rfl rfl (aA rfl) (aR hS rfl) c33 (aU (aA rfl) (aH hS rfl) (i := 0) rfl rfl iI)),
      fun S hS => aI rfl (bE rfl rfl (aA rfl) (aR hS rfl) c33 (aD (v := .d (.lit (.int .i64 i_0_21))) (aA rfl) (aH hS rfl) rfl)),
      fun S hS => aI rfl (bE rfl rfl (aA rfl) (aR hS rfl) c33 (cF (aA rfl) (aH hS rfl) (aH hS rfl) cA.of (bP aC h35))),
      fun S hS => aI rfl (bE rfl rfl (aA rfl) (aR hS rfl) c33 (cQ (aA rfl) (aH hS rfl) lM (es := [.lit (.int .i64 x34.Week)]) rfl)),
      fun S hS => aI rfl (bE rfl rfl (aA rfl) (aR hS rfl) c33 (cI (aA rfl) (aH hS rfl) bH)),
      fun S hS => aI rfl (bE rfl rfl (aA rfl) (aR hS rfl) c33 (aT (aA rfl) (aH hS rfl) rE)),
      fun S hS => aI rfl (bE rfl rfl (aA rfl) (aR hS rfl) c33 (aU (aA rfl) (aH hS rfl) (i := 1) rfl rfl bH)),
      fun S hS => aI rfl (bE rfl rfl (aA rfl) (aR hS rfl) c33 (aY (aA rfl) (aH hS rfl) rfl rfl)),
      fun S hS => aI rfl (bE rfl rfl (aA rfl) (aR hS rfl) c33 (bC (aA rfl) (aH hS rfl) (aH hS rfl) rfl)),
      fun S hS => aI rfl (bE rfl rfl (aA rfl) (aR hS rfl) c28 (bM (v := .d (.lit (.bool ((decide (x34.Week = (w64 (x_1.Week + 1)))))))) (aA rfl) (aH hS rfl) c33 (aH hS rfl) rfl)),
      fun S hS => aI rfl (aO rfl (bL (v := .d (.lit (.bool (decide (x34.Week = (w64 (x_1.Week + 1))))))) (aA rfl) (aH hS rfl) c28 (aH hS rfl) rfl)), trivial⟩⟩
           · exact eE (aN rfl (aX ⟨rfl, rfl, rfl, rfl, rfl, rfl, rfl, trivial⟩))
          ·have h32 := aP c33 h32
           have h32 := Option.some.inj h32
           subst h32
           have h27 := Option.some.inj h27
           subst h27
           refine ⟨[(81, 0, .d (.lit (.bool comes_0_21))), (82, 1, .d (.lit (.bool comes_0_21))), (83, 2, .bp b1 0 2), (84, 3, .d (.sl 5 (l_0.Reports.map aC))), (85, 4, .d (.lit (.int .i64 i_0_21))), (86, 5, .cp [.lit (.int .i64 x29.Id), .lit (.int .i64 x29.Player), .lit (.int .i64 x29.Week), .lit (.int .i64 x29.Points), .lit (.bool x29.Must)]), (87, 6, .cp [.lit (.int .i64 x29.Player)]), (88, 7, .d (.lit (.int .i64 x29.Player))), (89, 8, .bp b2 0 0), (90, 9, .d (.lit (.int .i64 x_1.Player))), (91, 10, .d (.lit (.bool ((decide (x29.Player = x_1.Player)))))), (92, 11, .d (.lit (.bool ((decide (x29.Player = x_1.Player)))))), (93, 12, .tup []), (94, 13, .tup []), (95, 14, .tup []), (96, 15, .tup []), (97, 16, .tup []), (98, 17, .tup []), (99, 18, .tup []), (100, 19, .tup []), (101, 20, .tup []), (102, 21, .tup []), (103, 22, .d (.lit (.bool false))), (104, 23, .d (.lit (.bool (false))))], ?_, ?_⟩
           · exact ⟨by kernel_rfl, by kernel_rfl, by kernel_rfl, by kernel_rfl, by kernel_rfl, [([], []), ([0], []), ([1], []), ([1, 2], []), ([1], []), ([1, 3, 4], []), ([1, 5], []), ([1, 6], []), ([1], []), ([1, 8], []), ([1, 7, 9], []), ([1, 10], []), ([11], []), ([11, 12], []), ([11], []), ([11, 13, 14], []), ([11, 15], []), ([11, 16], []), ([11], []), ([11, 18], []), ([11, 19], []), ([11, 17, 20], []), ([1, 11, 21], []), ([1, 22], [])], by kernel_rfl, ⟨fun S hS => aI rfl (aO rfl (aD (v := .d (.lit (.bool comes_0_21))) (aA rfl) (aH hS rfl) rfl)),
      fun S hS => aI rfl (aO rfl (aD (v := .d (.lit (.bool comes_0_21))) (aA rfl) (aH hS rfl) rfl)),
      fun S hS => aI rfl (bE rfl rfl (aA rfl) (aR hS rfl) c28 (aT (aA rfl) (aH hS rfl) eL)),
      fun S hS => aI rfl (bE rfl rfl (aA rfl) (aR hS rfl) c28 (aU (aA rfl) (aH hS rfl) (i := 0) rfl rfl iI)),
      fun S hS => aI rfl (bE rfl rfl (aA rfl) (aR hS rfl) c28 (aD (v := .d (.lit (.int .i64 i_0_21))) (aA rfl) (aH hS rfl) rfl)),
      fun S hS => aI rfl (bE rfl rfl (aA rfl) (aR hS rfl) c28 (cF (aA rfl) (aH hS rfl) (aH hS rfl) cA.of (bP aC h30))),
      fun S hS => aI rfl (bE rfl rfl (aA rfl) (aR hS rfl) c28 (cQ (aA rfl) (aH hS rfl) mY (es := [.lit (.int .i64 x29.Player)]) rfl)),
      fun S hS => aI rfl (bE rfl rfl (aA rfl) (aR hS rfl) c28 (cI (aA rfl) (aH hS rfl) bH)),
      fun S hS => aI rfl (bE rfl rfl (aA rfl) (aR hS rfl) c28 (aT (aA rfl) (aH hS rfl) rD)),
      fun S hS => aI rfl (bE rfl rfl (aA rfl) (aR hS rfl) c28 (aU (aA rfl) (aH hS rfl) (i := 1) rfl rfl bH)),
      fun S hS => aI rfl (bE rfl rfl (aA rfl) (aR hS rfl) c28 (bC (aA rfl) (aH hS rfl) (aH hS rfl) rfl)),
      fun S hS => aI rfl (bE rfl rfl (aA rfl) (aR hS rfl) c28 (aD (v := .d (.lit (.bool ((decide (x29.Player = x_1.Player)))))) (aA rfl) (aH hS rfl) rfl)),
      fun S hS => aI rfl (bD rfl rfl (aA rfl) rfl (aA rfl) (aR hS rfl) c33),
      fun S hS => aI rfl (bD rfl rfl (aA rfl) rfl (aA rfl) (aR hS rfl) c33),
      fun S hS => aI rfl (bD rfl rfl (aA rfl) rfl (aA rfl) (aR hS rfl) c33),
      fun S hS => aI rfl (bD rfl rfl (aA rfl) rfl (aA rfl) (aR hS rfl) c33),
      fun S hS => aI rfl (bD rfl rfl (aA rfl) rfl (aA rfl) (aR hS rfl) c33),
      fun S hS => aI rfl (bD rfl rfl (aA rfl) rfl (aA rfl) (aR hS rfl) c33),
      fun S hS => aI rfl (bD rfl rfl (aA rfl) rfl (aA rfl) (aR hS rfl) c33),
      fun S hS => aI rfl (bD rfl rfl (aA rfl) rfl (aA rfl) (aR hS rfl) c33),
      fun S hS => aI rfl (bD rfl rfl (aA rfl) rfl (aA rfl) (aR hS rfl) c33),
      fun S hS => aI rfl (bD rfl rfl (aA rfl) rfl (aA rfl) (aR hS rfl) c33),
      fun S hS => aI rfl (bE rfl rfl (aA rfl) (aR hS rfl) c28 (bL (v := .d (.lit (.bool false))) (aA rfl) (aH hS rfl) c33 rfl rfl)),
      fun S hS => aI rfl (aO rfl (bL (v := .d (.lit (.bool (false)))) (aA rfl) (aH hS rfl) c28 (aH hS rfl) rfl)), trivial⟩⟩
           · exact eE (aN rfl (aX ⟨rfl, rfl, rfl, rfl, rfl, rfl, rfl, trivial⟩))
        ·refine tr1 rfl (aJ (v := .d (.lit (.bool b26))) (aA rfl) rfl rfl) ?_
         refine eF ?_
         refine aE ?_
         refine tr1 rfl (aD (v := .d (.lit (.int .i64 i_0_21))) (aA rfl) rfl rfl) ?_
         refine tr1 rfl (aY (aA rfl) rfl rfl rfl) ?_
         refine tr1 rfl (aJ (v := .d (.lit (.int .i64 ((w64 (i_0_21 + 1)))))) (aA rfl) rfl rfl) ?_
         refine aF ?_
         exact ⟨(b24, b26, w64 (i_0_21 + 1)), h, aW [0, 1] rfl rfl (aN rfl (aN rfl (aN rfl (aX ⟨rfl, rfl, rfl, rfl, rfl, trivial⟩))))⟩
      ·have h := aP c23 h
       refine cY ?_
       refine .inl ⟨rfl, ?_⟩
       simp only [iY] at h
       refine aG ?_
       refine aE ?_
       refine tr1 rfl (aD (v := .d (.lit (.bool must_0_21))) (aA rfl) rfl rfl) ?_
       refine tr1 rfl (aD (v := .d (.lit (.bool must_0_21))) (aA rfl) rfl rfl) ?_
       obtain ⟨b39, h40, h⟩ := bind_some h
       refine bR 3 [5, 7, 9, 12] 109 b39 ?_ ?_
       ·refine bG (must_0_21) (fun c55 => ?_) (fun c55 => ?_)
        ·have h40 := aQ c55 h40
         refine aM rfl rfl (aA rfl) rfl (aA rfl) rfl c55 ?_
         refine aM rfl rfl (aA rfl) rfl (aA rfl) rfl c55 ?_
         refine tr1 rfl (bM (v := .d (.lit (.bool true))) (aA rfl) rfl c55 rfl rfl) ?_
         have h40 := Option.some.inj h40
         subst h40
         refine aF (aV rfl ⟨rfl, rfl, rfl, rfl, trivial⟩ rfl)
        ·have h40 := aP c55 h40
         refine aL rfl rfl (aA rfl) rfl c55 (aD (v := .d (.lit (.int .i64 r10.1))) (aA rfl) rfl rfl) ?_
         refine aL rfl rfl (aA rfl) rfl c55 (bC (aA rfl) rfl rfl rfl) ?_
         refine tr1 rfl (bL (v := .d (.lit (.bool ((decide (0 ≤ r10.1)))))) (aA rfl) rfl c55 rfl rfl) ?_
         have h40 := Option.some.inj h40
         subst h40
         refine aF (aV rfl ⟨rfl, rfl, rfl, rfl, trivial⟩ rfl)
       ·refine tr1 rfl (aD (v := .d (.lit (.bool b39))) (aA rfl) rfl rfl) ?_
        obtain ⟨b41, h42, h⟩ := bind_some h
        refine bR 9 [5, 7] 119 b41 ?_ ?_
        ·refine bG (b39) (fun c51 => ?_) (fun c51 => ?_)
         ·have h42 := aQ c51 h42
          refine aL rfl rfl (aA rfl) rfl c51 (aD (v := .d (.lit (.bool comes_0_21))) (aA rfl) rfl rfl) ?_
          refine aL rfl rfl (aA rfl) rfl c51 (aD (v := .d (.lit (.bool comes_0_21))) (aA rfl) rfl rfl) ?_
          obtain ⟨b52, h53, h42⟩ := bind_some h42
          refine bR 6 [5, 7, 110] 118 b52 ?_ ?_
          ·refine bG (comes_0_21) (fun c54 => ?_) (fun c54 => ?_)
           ·have h53 := aQ c54 h53
            refine aM rfl rfl (aA rfl) rfl (aA rfl) rfl c54 ?_
            refine aM rfl rfl (aA rfl) rfl (aA rfl) rfl c54 ?_
            refine aM rfl rfl (aA rfl) rfl (aA rfl) rfl c54 ?_
            refine aM rfl rfl (aA rfl) rfl (aA rfl) rfl c54 ?_
            refine aM rfl rfl (aA rfl) rfl (aA rfl) rfl c54 ?_
            refine aL rfl rfl (aA rfl) rfl c51 (bM (v := .d (.lit (.bool true))) (aA rfl) rfl c54 rfl rfl) ?_
            have h53 := Option.some.inj h53
            subst h53
            refine aF (aV rfl ⟨rfl, rfl, rfl, trivial⟩ rfl)
           ·have h53 := aP c54 h53
            refine aL rfl rfl (aA rfl) rfl c54 (aD (v := .d (.lit (.int .i64 r10.1))) (aA rfl) rfl rfl) ?_
            refine aL rfl rfl (aA rfl) rfl c54 (aD (v := .d (.lit (.int .i64 r12.1))) (aA rfl) rfl rfl) ?_
            refine aL rfl rfl (aA rfl) rfl c54 (aD (v := .d (.lit (.int .i64 r14.1))) (aA rfl) rfl rfl) ?_
            refine aL rfl rfl (aA rfl) rfl c54 (aY (aA rfl) rfl rfl rfl) ?_
            refine aL rfl rfl (aA rfl) rfl c54 (bC (aA rfl) rfl rfl rfl) ?_
            refine aL rfl rfl (aA rfl) rfl c51 (bL (v := .d (.lit (.bool ((decide (r10.1 = (w64 (r12.1 - r14.1)))))))) (aA rfl) rfl c54 rfl rfl) ?_
            have h53 := Option.some.inj h53
            subst h53
            refine aF (aV rfl ⟨rfl, rfl, rfl, trivial⟩ rfl)
          ·refine tr1 rfl (bM (v := .d (.lit (.bool b52))) (aA rfl) rfl c51 rfl rfl) ?_
           have h42 := Option.some.inj h42
           subst h42
           refine aF (aV rfl ⟨rfl, rfl, trivial⟩ rfl)
         ·have h42 := aP c51 h42
          refine aM rfl rfl (aA rfl) rfl (aA rfl) rfl c51 ?_
          refine aM rfl rfl (aA rfl) rfl (aA rfl) rfl c51 ?_
          refine tR rfl rfl (aA rfl) rfl (aA rfl) rfl ?_
          refine tR rfl rfl (aA rfl) rfl (aA rfl) rfl ?_
          refine tR rfl rfl (aA rfl) rfl (aA rfl) rfl ?_
          refine tR rfl rfl (aA rfl) rfl (aA rfl) rfl ?_
          refine tR rfl rfl (aA rfl) rfl (aA rfl) rfl ?_
          refine aM rfl rfl (aA rfl) rfl (aA rfl) rfl c51 ?_
          refine tr1 rfl (bL (v := .d (.lit (.bool false))) (aA rfl) rfl c51 rfl rfl) ?_
          have h42 := Option.some.inj h42
          subst h42
          refine aF (aV rfl ⟨rfl, rfl, trivial⟩ rfl)
        ·refine tr1 rfl (aD (v := .d (.lit (.bool b41))) (aA rfl) rfl rfl) ?_
         obtain ⟨b43, h44, h⟩ := bind_some h
         refine bR 4 [] 124 b43 ?_ ?_
         ·refine bG (b41) (fun c50 => ?_) (fun c50 => ?_)
          ·have h44 := aQ c50 h44
           refine aL rfl rfl (aA rfl) rfl c50 (aD (v := .d (.lit (.int .i64 r10.1))) (aA rfl) rfl rfl) ?_
           refine aL rfl rfl (aA rfl) rfl c50 (aD (v := .d (.lit (.int .i64 r12.1))) (aA rfl) rfl rfl) ?_
           refine aL rfl rfl (aA rfl) rfl c50 (bC (aA rfl) rfl rfl rfl) ?_
           refine tr1 rfl (bM (v := .d (.lit (.bool ((decide (r10.1 ≤ r12.1)))))) (aA rfl) rfl c50 rfl rfl) ?_
           have h44 := Option.some.inj h44
           subst h44
           refine aF (aV rfl trivial rfl)
          ·have h44 := aP c50 h44
           refine aM rfl rfl (aA rfl) rfl (aA rfl) rfl c50 ?_
           refine aM rfl rfl (aA rfl) rfl (aA rfl) rfl c50 ?_
           refine aM rfl rfl (aA rfl) rfl (aA rfl) rfl c50 ?_
           refine tr1 rfl (bL (v := .d (.lit (.bool false))) (aA rfl) rfl c50 rfl rfl) ?_
           have h44 := Option.some.inj h44
           subst h44
           refine aF (aV rfl trivial rfl)
         ·refine tr1 rfl (aD (v := .d (.lit (.bool b43))) (aA rfl) rfl rfl) ?_
          obtain ⟨b45, h46, h⟩ := bind_some h
          refine bR 2 [] 127 b45 ?_ ?_
          ·refine bG (b43) (fun c47 => ?_) (fun c47 => ?_)
           ·have h46 := aQ c47 h46
            obtain ⟨r48, h49, h46⟩ := bind_some h46
            refine aL rfl rfl (aA rfl) rfl c47 (bZ (aA rfl) (.func _ _ Try.call16) rfl rfl (BVs.refl _ _) (rS h49) rfl) ?_
            refine tr1 rfl (bM (v := .d (.lit (.bool r48))) (aA rfl) rfl c47 rfl rfl) ?_
            have h46 := Option.some.inj h46
            subst h46
            refine aF (aV rfl trivial rfl)
           ·have h46 := aP c47 h46
            refine aM rfl rfl (aA rfl) rfl (aA rfl) rfl c47 ?_
            refine tr1 rfl (bL (v := .d (.lit (.bool false))) (aA rfl) rfl c47 rfl rfl) ?_
            have h46 := Option.some.inj h46
            subst h46
            refine aF (aV rfl trivial rfl)
          ·refine tr1 rfl (aJ (v := .d (.lit (.bool b45))) (aA rfl) rfl rfl) ?_
           refine aF ?_
           have h := Option.some.inj h
           subst h
           refine cU (cH (cN (l := [4]) ⟨rfl, trivial⟩)) ?_
           exact bO ⟨rfl, _, .one _, rfl, rfl⟩

end Go.Am
