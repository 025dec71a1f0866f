/- The functions compute what the shallow ones say: printed by program. -/
import Derived.Test.YtaocljlhapoieaaRankBoundsSimP1
namespace Go.Am
open Go.Proofs
set_option maxRecDepth 100000
set_option maxHeartbeats 4000000

theorem tV (l_0 : aM) (player_1 : Int) (week_2 : Int) {r : (Option bW) × Int} (h : pG l_0 player_1 week_2 = some r) : fT Try.prog 44 [.agg (aU l_0), .d (.lit (.int .i64 player_1)), .d (.lit (.int .i64 week_2))] [] (fun r' o' => ∃ (b : Nat) (w0 : Value), r' = .tup [(match r.1 with | none => .d (.lit (.pointer none)) | some _ => .bp b 0 0), .d (.lit (.int .i64 r.2))] ∧ o' = (match r.1 with | none => [] | some x => [.box b 0 [.lit (.int .i64 x.Ledger.Players), .lit (.int .i64 x.Ledger.Counts), .lit w0, .sl 3 (x.Ledger.Bans.map aI), .sl 3 (x.Ledger.Frozen.map aI)], .arr w0 42 5 (x.Ledger.Reports.map aD)])) := by
 unfold pG at h
 refine lZ Try.func44 rfl (rs := [.tmp 6, .tmp 7]) Try.results44 Try.ntmps44 (Nat.le_of_ble_eq_true rfl) ?_
 refine aG ?_
 refine aE ?_
 refine bR rfl (fK (v := .agg (aU l_0)) (aA rfl) rfl rfl rfl) ?_
 rintro _ ⟨b1, rfl⟩
 refine tr1 rfl (aJ (v := qT cE (none : Option bW)) (aA rfl) rfl rfl) ?_
 refine tr1 rfl (aJ (v := .d (.lit (.int .i64 0))) (aA rfl) rfl rfl) ?_
 refine aF ?_
 refine aG ?_
 refine aE ?_
 refine tr1 rfl (cT (aA rfl) rfl (i := 0) rfl eQ (es := (aU l_0)) rfl rfl) ?_
 obtain ⟨r2, h3, h⟩ := bind_some h
 refine bR rfl (dP (passed := []) (aA rfl) rfl (.func _ _ Try.call80) rfl rfl (aEo _ h3)) ?_
 rintro _ ⟨_, _, ⟨b5, w6, rfl, rfl⟩, rfl⟩
 obtain ⟨_ | y4, e7⟩ := r2
 ·have h := yJ h
  refine gI (aY [0] rfl rfl (le_refl _)) ?_
  refine tr1 rfl (aC (v := .tup [.d (.lit (.pointer none)), .d (.lit (.int .i64 e7))]) (aA rfl) rfl rfl) ?_
  refine tr1 rfl (cU (aA rfl) rfl rfl) ?_
  refine tr1 rfl (cU (aA rfl) rfl rfl) ?_
  refine tr1 rfl (aJ (v := .d (.lit (.pointer none))) (aA rfl) rfl rfl) ?_
  refine tr1 rfl (aJ (v := .d (.lit (.int .i64 e7))) (aA rfl) rfl rfl) ?_
  refine aF ?_
  refine aG ?_
  refine aG ?_
  refine aE ?_
  refine tr1 rfl (aC (v := .d (.lit (.int .i64 e7))) (aA rfl) rfl rfl) ?_
  refine tr1 rfl (bC (aA rfl) rfl rfl rfl) ?_
  refine aF ?_
  refine bN rfl (fun c8 => ?_) (fun c8 => ?_)
  ·have h := aR c8 h
   refine aG ?_
   refine aE ?_
   refine tr1 rfl (aC (v := .d (.lit (.int .i64 e7))) (aA rfl) rfl rfl) ?_
   refine tr1 rfl (aJ (v := qT cE (none : Option bW)) (aA rfl) rfl rfl) ?_
   refine tr1 rfl (aJ (v := .d (.lit (.int .i64 e7))) (aA rfl) rfl rfl) ?_
   refine aF ?_
   have h := Option.some.inj h
   subst h
   exact bL ⟨rfl, _, [], [.box b1 0 (aU l_0)], _, .two (.tmp 6 (v := qT cE (none : Option bW)) rfl) (.tmp 7 (v := .d (.lit (.int .i64 e7))) rfl), .refl _, .same _, 0, undef, rfl, rfl⟩
  ·have h := aQ c8 h
   refine bH ?_
   refine aG ?_
   refine aG ?_
   refine aE ?_
   refine tr1 rfl (aC (v := .d (.lit (.int .i64 player_1))) (aA rfl) rfl rfl) ?_
   refine tr1 rfl (aP (aA rfl) rfl gZ) ?_
   refine tr1 rfl (aT (aA rfl) rfl (i := 0) rfl rfl bG) ?_
   refine tr1 rfl (bA (aA rfl) rfl rfl rfl) ?_
   obtain ⟨r9, h10, h⟩ := bind_some h
   refine tr1 rfl (bY (aA rfl) (.func _ _ Try.call47) rfl rfl (BVs.refl _ _) (eW _ _ _ h10) rfl) ?_
   refine tr1 rfl (fD (aA rfl) rfl) ?_
   refine tr1 rfl (aC (v := .d (.lit (.bool (!r9)))) (aA rfl) rfl rfl) ?_
   obtain ⟨b11, h12, h⟩ := bind_some h
   refine bQ 4 [8] 28 b11 ?_ ?_
   ·refine bD (!r9) (fun c14 => ?_) (fun c14 => ?_)
    ·have h12 := aR c14 h12
     refine aN rfl rfl (aA rfl) rfl (aA rfl) rfl c14 ?_
     refine aN rfl rfl (aA rfl) rfl (aA rfl) rfl c14 ?_
     refine aN rfl rfl (aA rfl) rfl (aA rfl) rfl c14 ?_
     refine tr1 rfl (bJ (v := .d (.lit (.bool true))) (aA rfl) rfl c14 rfl rfl) ?_
     have h12 := Option.some.inj h12
     subst h12
     refine aF (aW rfl ⟨rfl, trivial⟩ rfl)
    ·have h12 := aQ c14 h12
     refine aL rfl rfl (aA rfl) rfl c14 (aC (v := .d (.lit (.int .i64 week_2))) (aA rfl) rfl rfl) ?_
     obtain ⟨r15, h16, h12⟩ := bind_some h12
     refine aL rfl rfl (aA rfl) rfl c14 (bY (aA rfl) (.func _ _ Try.call47) rfl rfl (BVs.refl _ _) (eW _ _ _ h16) rfl) ?_
     refine aL rfl rfl (aA rfl) rfl c14 (fD (aA rfl) rfl) ?_
     refine tr1 rfl (bI (v := .d (.lit (.bool (!r15)))) (aA rfl) rfl c14 rfl rfl) ?_
     have h12 := Option.some.inj h12
     subst h12
     refine aF (aW rfl ⟨rfl, trivial⟩ rfl)
   ·refine aF ?_
    refine bN rfl (fun c13 => ?_) (fun c13 => ?_)
    ·have h := aR c13 h
     refine aG ?_
     refine aE ?_
     refine tr1 rfl (aJ (v := qT cE (none : Option bW)) (aA rfl) rfl rfl) ?_
     refine tr1 rfl (aJ (v := .d (.lit (.int .i64 1))) (aA rfl) rfl rfl) ?_
     refine aF ?_
     have h := Option.some.inj h
     subst h
     exact bL ⟨rfl, _, [], [.box b1 0 (aU l_0)], _, .two (.tmp 6 (v := qT cE (none : Option bW)) rfl) (.tmp 7 (v := .d (.lit (.int .i64 1))) rfl), .refl _, .same _, 0, undef, rfl, rfl⟩
    ·have h := aQ c13 h
     refine bH ?_
     refine aG ?_
     refine aE ?_
     refine tr1 rfl (aC (v := .d (.lit (.pointer none))) (aA rfl) rfl rfl) ?_
     refine tr1 rfl (aJ (v := .d (.lit (.pointer none))) (aA rfl) rfl rfl) ?_
     refine tr1 rfl (aJ (v := .d (.lit (.int .i64 0))) (aA rfl) rfl rfl) ?_
     refine aF ?_
     have h := Option.some.inj h
     subst h
     exact bL ⟨rfl, _, [], [.box b1 0 (aU l_0)], _, .two (.tmp 6 (v := .d (.lit (.pointer none))) rfl) (.tmp 7 (v := .d (.lit (.int .i64 0))) rfl), .refl _, .same _, 0, undef, rfl, rfl⟩
 ·have h := yK h
  refine gI (aY [0, 1, 2] rfl rfl (le_refl _)) ?_
  refine tr1 rfl (aC (v := .tup [.bp b5 0 0, .d (.lit (.int .i64 e7))]) (aA rfl) rfl rfl) ?_
  refine tr1 rfl (cU (aA rfl) rfl rfl) ?_
  refine tr1 rfl (cU (aA rfl) rfl rfl) ?_
  refine tr1 rfl (aJ (v := .bp b5 0 0) (aA rfl) rfl rfl) ?_
  refine tr1 rfl (aJ (v := .d (.lit (.int .i64 e7))) (aA rfl) rfl rfl) ?_
  refine aF ?_
  refine aG ?_
  refine aG ?_
  refine aE ?_
  refine tr1 rfl (aC (v := .d (.lit (.int .i64 e7))) (aA rfl) rfl rfl) ?_
  refine tr1 rfl (bC (aA rfl) rfl rfl rfl) ?_
  refine aF ?_
  refine bN rfl (fun c17 => ?_) (fun c17 => ?_)
  ·have h := aR c17 h
   refine aG ?_
   refine aE ?_
   refine tr1 rfl (aC (v := .d (.lit (.int .i64 e7))) (aA rfl) rfl rfl) ?_
   refine tr1 rfl (aJ (v := qT cE (none : Option bW)) (aA rfl) rfl rfl) ?_
   refine tr1 rfl (aJ (v := .d (.lit (.int .i64 e7))) (aA rfl) rfl rfl) ?_
   refine aF ?_
   have h := Option.some.inj h
   subst h
   exact bL ⟨rfl, _, [], [.box b5 0 [.lit (.int .i64 y4.Ledger.Players), .lit (.int .i64 y4.Ledger.Counts), .lit w6, .sl 3 (y4.Ledger.Bans.map aI), .sl 3 (y4.Ledger.Frozen.map aI)], .arr w6 42 5 (y4.Ledger.Reports.map aD), .box b1 0 (aU l_0)], _, .two (.tmp 6 (v := qT cE (none : Option bW)) rfl) (.tmp 7 (v := .d (.lit (.int .i64 e7))) rfl), .refl _, .same _, 0, undef, rfl, rfl⟩
  ·have h := aQ c17 h
   refine bH ?_
   refine aG ?_
   refine aG ?_
   refine aE ?_
   refine tr1 rfl (aC (v := .d (.lit (.int .i64 player_1))) (aA rfl) rfl rfl) ?_
   refine tr1 rfl (aP (aA rfl) rfl gZ) ?_
   refine tr1 rfl (aT (aA rfl) rfl (i := 2) rfl rfl bG) ?_
   refine tr1 rfl (bA (aA rfl) rfl rfl rfl) ?_
   obtain ⟨r18, h19, h⟩ := bind_some h
   refine tr1 rfl (bY (aA rfl) (.func _ _ Try.call47) rfl rfl (BVs.refl _ _) (eW _ _ _ h19) rfl) ?_
   refine tr1 rfl (fD (aA rfl) rfl) ?_
   refine tr1 rfl (aC (v := .d (.lit (.bool (!r18)))) (aA rfl) rfl rfl) ?_
   obtain ⟨b20, h21, h⟩ := bind_some h
   refine bQ 4 [8] 28 b20 ?_ ?_
   ·refine bD (!r18) (fun c23 => ?_) (fun c23 => ?_)
    ·have h21 := aR c23 h21
     refine aN rfl rfl (aA rfl) rfl (aA rfl) rfl c23 ?_
     refine aN rfl rfl (aA rfl) rfl (aA rfl) rfl c23 ?_
     refine aN rfl rfl (aA rfl) rfl (aA rfl) rfl c23 ?_
     refine tr1 rfl (bJ (v := .d (.lit (.bool true))) (aA rfl) rfl c23 rfl rfl) ?_
     have h21 := Option.some.inj h21
     subst h21
     refine aF (aW rfl ⟨rfl, trivial⟩ rfl)
    ·have h21 := aQ c23 h21
     refine aL rfl rfl (aA rfl) rfl c23 (aC (v := .d (.lit (.int .i64 week_2))) (aA rfl) rfl rfl) ?_
     obtain ⟨r24, h25, h21⟩ := bind_some h21
     refine aL rfl rfl (aA rfl) rfl c23 (bY (aA rfl) (.func _ _ Try.call47) rfl rfl (BVs.refl _ _) (eW _ _ _ h25) rfl) ?_
     refine aL rfl rfl (aA rfl) rfl c23 (fD (aA rfl) rfl) ?_
     refine tr1 rfl (bI (v := .d (.lit (.bool (!r24)))) (aA rfl) rfl c23 rfl rfl) ?_
     have h21 := Option.some.inj h21
     subst h21
     refine aF (aW rfl ⟨rfl, trivial⟩ rfl)
   ·refine aF ?_
    refine bN rfl (fun c22 => ?_) (fun c22 => ?_)
    ·have h := aR c22 h
     refine aG ?_
     refine aE ?_
     refine tr1 rfl (aJ (v := qT cE (none : Option bW)) (aA rfl) rfl rfl) ?_
     refine tr1 rfl (aJ (v := .d (.lit (.int .i64 1))) (aA rfl) rfl rfl) ?_
     refine aF ?_
     have h := Option.some.inj h
     subst h
     exact bL ⟨rfl, _, [], [.box b5 0 [.lit (.int .i64 y4.Ledger.Players), .lit (.int .i64 y4.Ledger.Counts), .lit w6, .sl 3 (y4.Ledger.Bans.map aI), .sl 3 (y4.Ledger.Frozen.map aI)], .arr w6 42 5 (y4.Ledger.Reports.map aD), .box b1 0 (aU l_0)], _, .two (.tmp 6 (v := qT cE (none : Option bW)) rfl) (.tmp 7 (v := .d (.lit (.int .i64 1))) rfl), .refl _, .same _, 0, undef, rfl, rfl⟩
    ·have h := aQ c22 h
     refine bH ?_
     refine aG ?_
     refine aE ?_
     refine tr1 rfl (aC (v := .bp b5 0 0) (aA rfl) rfl rfl) ?_
     refine tr1 rfl (aJ (v := .bp b5 0 0) (aA rfl) rfl rfl) ?_
     refine tr1 rfl (aJ (v := .d (.lit (.int .i64 0))) (aA rfl) rfl rfl) ?_
     refine aF ?_
     have h := Option.some.inj h
     subst h
     exact bL ⟨rfl, _, [.box b5 0 [.lit (.int .i64 y4.Ledger.Players), .lit (.int .i64 y4.Ledger.Counts), .lit w6, .sl 3 (y4.Ledger.Bans.map aI), .sl 3 (y4.Ledger.Frozen.map aI)], .arr w6 42 5 (y4.Ledger.Reports.map aD)], [.box b1 0 (aU l_0)], _, .two (.tmp 6 (v := .bp b5 0 0) rfl) (.tmp 7 (v := .d (.lit (.int .i64 0))) rfl), .refl _, .same _, b5, w6, rfl, rfl⟩

theorem vL (b_0 : bW) (r_1 : aB) (week_2 : Int) {r : Int} (h : mV b_0 r_1 week_2 = some r) : Fn Try.prog 77 [.cp (cE b_0), .agg (aD r_1), .d (.lit (.int .i64 week_2))] (.d (.lit (.int .i64 r))) := by
 unfold mV at h
 refine Fn.of_tr Try.func77 rfl (rs := [.tmp 6]) Try.results77 Try.ntmps77 (Nat.le_of_ble_eq_true rfl) ?_
 refine aG ?_
 refine aE ?_
 refine bR rfl (fK (v := .agg (aD r_1)) (aA rfl) rfl rfl rfl) ?_
 rintro _ ⟨b1, rfl⟩
 refine tr1 rfl (aJ (v := .d (.lit (.int .i64 0))) (aA rfl) rfl rfl) ?_
 refine aF ?_
 refine aG ?_
 refine aE ?_
 refine tr1 rfl (aC (v := .d (.lit (.int .i64 week_2))) (aA rfl) rfl rfl) ?_
 refine tr1 rfl (aP (aA rfl) rfl nP) ?_
 refine tr1 rfl (aT (aA rfl) rfl (i := 0) rfl rfl bG) ?_
 refine tr1 rfl (bA (aA rfl) rfl rfl rfl) ?_
 refine tr1 rfl (aJ (v := .d (.lit (.int .i64 ((w64 (week_2 - r_1.Week)))))) (aA rfl) rfl rfl) ?_
 refine aF ?_
 refine aG ?_
 refine aG ?_
 refine aE ?_
 refine tr1 rfl (aC (v := .cp [.lit (.int .i64 b_0.Ledger.Players), .lit (.int .i64 b_0.Ledger.Counts), .sl 5 (b_0.Ledger.Reports.map aD), .sl 3 (b_0.Ledger.Bans.map aI), .sl 3 (b_0.Ledger.Frozen.map aI)]) (aA rfl) rfl rfl) ?_
 refine tr1 rfl (pW (aA rfl) rfl) ?_
 refine tr1 rfl (cQ (aA rfl) rfl iU (es := [.lit (.int .i64 b_0.Ledger.Players), .lit (.int .i64 b_0.Ledger.Counts), .sl 5 (b_0.Ledger.Reports.map aD), .sl 3 (b_0.Ledger.Bans.map aI), .sl 3 (b_0.Ledger.Frozen.map aI)]) rfl) ?_
 refine tr1 rfl (cQ (aA rfl) rfl kR (es := [.sl 3 (b_0.Ledger.Frozen.map aI)]) rfl) ?_
 refine tr1 rfl (cI (aA rfl) rfl jM) ?_
 refine tr1 rfl (dM (aA rfl) rfl eS.of) ?_
 refine tr1 rfl (aC (v := .d (.lit (.int .i64 0))) (aA rfl) rfl rfl) ?_
 refine aF ?_
 refine bT ?_
 refine cM [2, 4, 18, 19] (fun (s2 : Int × Int) => [(7, .d (.lit (.int .i64 s2.1))), (20, .d (.lit (.int .i64 s2.2)))]) (fun (s2 : Int × Int) => [.box b1 0 (aD r_1)]) (fun (k : Nat) (s2 : Int × Int) => iH week_2 b_0.Ledger.Frozen (b_0.Ledger.Frozen.length : Int) r_1 k s2.1 s2.2) (fun _ => rfl) (w64 (week_2 - r_1.Week), 0) h (aY [0] rfl rfl (aO rfl (aO rfl (aZ ⟨rfl, rfl, rfl, rfl, trivial⟩)))) ?_
 rintro k3 ⟨n_0_2, t20_0_2⟩ h
 simp only [iH] at h
 refine aG ?_
 refine aE ?_
 refine tr1 rfl (bC (aA rfl) rfl rfl rfl) ?_
 refine aF ?_
 refine aG ?_
 refine bN rfl (fun c4 => ?_) (fun c4 => ?_)
 ·have h := aR c4 h
  refine bH ?_
  refine aG ?_
  refine bT ?_
  refine aG ?_
  refine aE ?_
  obtain ⟨x5, h6, h⟩ := bind_some h
  refine tr1 rfl (cD (aA rfl) rfl rfl eS.of (bP aI h6)) ?_
  refine tr1 rfl (iS (aA rfl) rfl xP (es := (aI x5)) rfl rfl) ?_
  refine bR rfl (fM (zs := [.lit (.int .i64 0), .lit (.int .i64 0), .lit (.int .i64 0)]) (aA rfl) Try.zeroValue66 rfl rfl) ?_
  rintro _ ⟨b7, rfl⟩
  refine tr1 rfl (bX (i := 1) rfl rfl rfl rfl rfl Try.sizeOf66 rfl (aA rfl) (Nat.le_of_ble_eq_true rfl) (ds' := (aI x5)) rfl) ?_
  refine aF ?_
  refine aG ?_
  refine aE ?_
  refine tr1 rfl (aP (aA rfl) rfl kT) ?_
  refine tr1 rfl (aT (aA rfl) rfl (i := 1) rfl rfl bG) ?_
  refine tr1 rfl (aP (aA rfl) rfl qY) ?_
  refine tr1 rfl (aT (aA rfl) rfl (i := 0) rfl rfl bG) ?_
  refine tr1 rfl (bC (aA rfl) rfl rfl rfl) ?_
  refine aF ?_
  refine bN rfl (fun c8 => ?_) (fun c8 => ?_)
  ·have h := aR c8 h
   refine aE ?_
   refine tr1 rfl (aC (v := .d (.lit (.int .i64 n_0_2))) (aA rfl) rfl rfl) ?_
   refine tr1 rfl (aP (aA rfl) rfl lV) ?_
   refine tr1 rfl (aT (aA rfl) rfl (i := 1) rfl rfl bG) ?_
   refine tr1 rfl (aC (v := .d (.lit (.int .i64 week_2))) (aA rfl) rfl rfl) ?_
   refine tr1 rfl (aGg (aA rfl) rfl rfl) ?_
   refine tr1 rfl (aP (aA rfl) rfl jS) ?_
   refine tr1 rfl (aT (aA rfl) rfl (i := 1) rfl rfl bG) ?_
   refine tr1 rfl (aP (aA rfl) rfl nP) ?_
   refine tr1 rfl (aT (aA rfl) rfl (i := 0) rfl rfl bG) ?_
   refine tr1 rfl (bA (aA rfl) rfl rfl rfl) ?_
   refine tr1 rfl (aBe (aA rfl) rfl rfl) ?_
   refine tr1 rfl (bA (aA rfl) rfl rfl rfl) ?_
   refine tr1 rfl (bA (aA rfl) rfl rfl rfl) ?_
   refine tr1 rfl (aBe (aA rfl) rfl rfl) ?_
   refine tr1 rfl (bA (aA rfl) rfl rfl rfl) ?_
   refine tr1 rfl (aJ (v := .d (.lit (.int .i64 ((w64 (n_0_2 - (max 0 (w64 ((w64 ((min x5.To week_2) - (max x5.From (w64 (r_1.Week + 1))))) + 1))))))))) (aA rfl) rfl rfl) ?_
   refine eH ?_
   refine aE ?_
   refine tr1 rfl (bA (aA rfl) rfl rfl rfl) ?_
   refine tr1 rfl (aC (v := .d (.lit (.int .i64 ((w64 (t20_0_2 + 1)))))) (aA rfl) rfl rfl) ?_
   refine aF ?_
   exact ⟨(w64 (n_0_2 - (max 0 (w64 ((w64 ((min x5.To week_2) - (max x5.From (w64 (r_1.Week + 1))))) + 1)))), w64 (t20_0_2 + 1)), h, aY [0] rfl rfl (aO rfl (aO rfl (aZ ⟨rfl, rfl, rfl, rfl, trivial⟩)))⟩
  ·have h := aQ c8 h
   refine eR ?_
   refine aE ?_
   refine tr1 rfl (bA (aA rfl) rfl rfl rfl) ?_
   refine tr1 rfl (aC (v := .d (.lit (.int .i64 ((w64 (t20_0_2 + 1)))))) (aA rfl) rfl rfl) ?_
   refine aF ?_
   exact ⟨(n_0_2, w64 (t20_0_2 + 1)), h, aY [0] rfl rfl (aO rfl (aO rfl (aZ ⟨rfl, rfl, rfl, rfl, trivial⟩)))⟩
 ·have h := aQ c4 h
  refine cX ?_
  refine .inl ⟨rfl, ?_⟩
  simp only [rC] at h
  refine aG ?_
  refine aE ?_
  refine tr1 rfl (aC (v := .d (.lit (.int .i64 n_0_2))) (aA rfl) rfl rfl) ?_
  refine tr1 rfl (aJ (v := .d (.lit (.int .i64 n_0_2))) (aA rfl) rfl rfl) ?_
  refine aF ?_
  have h := Option.some.inj h
  subst h
  refine cR (cG (cL (l := [6]) ⟨rfl, trivial⟩)) ?_
  exact bL ⟨rfl, _, .one _, rfl, rfl⟩

theorem aCn (a_0 : aX) (c_1 : Int) (c_2 : Int) {r : Bool} (h : qL a_0 c_1 c_2 = some r) : Fn Try.prog 83 [.agg (aI a_0), .cp [.lit (.int .i64 c_1)], .cp [.lit (.int .i64 c_2)]] (.d (.lit (.bool r))) := by
 unfold qL at h
 refine Fn.of_tr Try.func83 rfl (rs := [.tmp 4]) Try.results83 Try.ntmps83 (Nat.le_of_ble_eq_true rfl) ?_
 refine aG ?_
 refine aE ?_
 refine bR rfl (fK (v := .agg (aI a_0)) (aA rfl) rfl rfl rfl) ?_
 rintro _ ⟨b1, rfl⟩
 refine tr1 rfl (aJ (v := .d (.lit (.bool false))) (aA rfl) rfl rfl) ?_
 refine aF ?_
 refine aG ?_
 refine aE ?_
 refine tr1 rfl (aP (aA rfl) rfl kT) ?_
 refine tr1 rfl (aT (aA rfl) rfl (i := 0) rfl rfl bG) ?_
 refine tr1 rfl (cI (aA rfl) rfl bG) ?_
 refine tr1 rfl (bC (aA rfl) rfl rfl rfl) ?_
 refine tr1 rfl (aC (v := .d (.lit (.bool ((decide (a_0.Player = c_1)))))) (aA rfl) rfl rfl) ?_
 obtain ⟨b2, h3, h⟩ := bind_some h
 refine bQ 7 [] 16 b2 ?_ ?_
 ·refine bD (decide (a_0.Player = c_1)) (fun c4 => ?_) (fun c4 => ?_)
  ·have h3 := aR c4 h3
   refine aL rfl rfl (aA rfl) rfl c4 (cI (aA rfl) rfl bG) ?_
   refine aL rfl rfl (aA rfl) rfl c4 (aP (aA rfl) rfl jS) ?_
   refine aL rfl rfl (aA rfl) rfl c4 (aT (aA rfl) rfl (i := 0) rfl rfl bG) ?_
   refine aL rfl rfl (aA rfl) rfl c4 (aP (aA rfl) rfl lV) ?_
   refine aL rfl rfl (aA rfl) rfl c4 (aT (aA rfl) rfl (i := 0) rfl rfl bG) ?_
   obtain ⟨r5, h6, h3⟩ := bind_some h3
   refine aL rfl rfl (aA rfl) rfl c4 (bY (aA rfl) (.func _ _ Try.call47) rfl rfl (BVs.refl _ _) (eW _ _ _ h6) rfl) ?_
   refine tr1 rfl (bJ (v := .d (.lit (.bool r5))) (aA rfl) rfl c4 rfl rfl) ?_
   have h3 := Option.some.inj h3
   subst h3
   refine aF (aW rfl trivial rfl)
  ·have h3 := aQ c4 h3
   refine aN rfl rfl (aA rfl) rfl (aA rfl) rfl c4 ?_
   refine aN rfl rfl (aA rfl) rfl (aA rfl) rfl c4 ?_
   refine aN rfl rfl (aA rfl) rfl (aA rfl) rfl c4 ?_
   refine aN rfl rfl (aA rfl) rfl (aA rfl) rfl c4 ?_
   refine aN rfl rfl (aA rfl) rfl (aA rfl) rfl c4 ?_
   refine aN rfl rfl (aA rfl) rfl (aA rfl) rfl c4 ?_
   refine tr1 rfl (bI (v := .d (.lit (.bool false))) (aA rfl) rfl c4 rfl rfl) ?_
   have h3 := Option.some.inj h3
   subst h3
   refine aF (aW rfl trivial rfl)
 ·refine tr1 rfl (aJ (v := .d (.lit (.bool b2))) (aA rfl) rfl rfl) ?_
  refine aF ?_
  have h := Option.some.inj h
  subst h
  refine cR (cG (cL (l := [4]) ⟨rfl, trivial⟩)) ?_
  exact bL ⟨rfl, _, .one _, rfl, rfl⟩

theorem vX (all_0 : List aX) (player_1 : Int) (week_2 : Int) {r : Bool} (h : mC all_0 player_1 week_2 = some r) : Fn Try.prog 48 [.d (.sl 3 (all_0.map aI)), .d (.lit (.int .i64 player_1)), .d (.lit (.int .i64 week_2))] (.d (.lit (.bool r))) := by
 unfold mC at h
 refine Fn.of_tr Try.func48 rfl (rs := [.tmp 6]) Try.results48 Try.ntmps48 (Nat.le_of_ble_eq_true rfl) ?_
 refine aG ?_
 refine aE ?_
 refine bR rfl (fK (v := .d (.lit (.int .i64 player_1))) (aA rfl) rfl rfl rfl) ?_
 rintro _ ⟨b1, rfl⟩
 refine bR rfl (fK (v := .d (.lit (.int .i64 week_2))) (aA rfl) rfl rfl rfl) ?_
 rintro _ ⟨b2, rfl⟩
 refine tr1 rfl (aJ (v := .d (.lit (.bool false))) (aA rfl) rfl rfl) ?_
 refine aF ?_
 refine aG ?_
 refine aE ?_
 refine tr1 rfl (aC (v := .d (.sl 3 (all_0.map aI))) (aA rfl) rfl rfl) ?_
 refine tr1 rfl (yQ (aA rfl) rfl rfl) ?_
 obtain ⟨r4, h5, h⟩ := bind_some h
 refine tr1 rfl (bY (aA rfl) (.func _ _ Try.call82) rfl rfl (.cons (.same _) (.cons ((aCr (.cons ((pN 0 rfl rfl (dvc (.same _) dvn))) (.cons ((pN 1 rfl rfl (dvc (.same _) dvn))) .nil)))) .nil)) (jH _ _ 83 [.cp [.lit (.int .i64 player_1)], .cp [.lit (.int .i64 week_2)]] Try.call83 (fun _ _ h => aCn _ _ _ h) h5) rfl) ?_
 refine tr1 rfl (aJ (v := .d (.lit (.bool r4))) (aA rfl) rfl rfl) ?_
 refine aF ?_
 have h := Option.some.inj h
 subst h
 refine cR (cG (cL (l := [6]) ⟨rfl, trivial⟩)) ?_
 exact bL ⟨rfl, _, .one _, rfl, rfl⟩

theorem tP (b_0 : bW) (player_1 : Int) (week_2 : Int) {r : (List aB)} (h : lQ b_0 player_1 week_2 = some r) : Fn Try.prog 72 [.cp (cE b_0), .d (.lit (.int .i64 player_1)), .d (.lit (.int .i64 week_2))] (.d (.sl 5 (r.map aD))) := by
 unfold lQ at h
 refine Fn.of_tr Try.func72 rfl (rs := [.tmp 6]) Try.results72 Try.ntmps72 (Nat.le_of_ble_eq_true rfl) ?_
 refine aG ?_
 refine aE ?_
 refine tr1 rfl (xA 5 (aA rfl)) ?_
 refine aF ?_
 refine aG ?_
 refine aE ?_
 refine tr1 rfl (kJ 42 5 (.inl rfl) (aA rfl)) ?_
 refine aF ?_
 refine aG ?_
 refine aG ?_
 refine aE ?_
 refine tr1 rfl (aC (v := .cp [.lit (.int .i64 b_0.Ledger.Players), .lit (.int .i64 b_0.Ledger.Counts), .sl 5 (b_0.Ledger.Reports.map aD), .sl 3 (b_0.Ledger.Bans.map aI), .sl 3 (b_0.Ledger.Frozen.map aI)]) (aA rfl) rfl rfl) ?_
 refine tr1 rfl (pW (aA rfl) rfl) ?_
 refine tr1 rfl (cQ (aA rfl) rfl iU (es := [.lit (.int .i64 b_0.Ledger.Players), .lit (.int .i64 b_0.Ledger.Counts), .sl 5 (b_0.Ledger.Reports.map aD), .sl 3 (b_0.Ledger.Bans.map aI), .sl 3 (b_0.Ledger.Frozen.map aI)]) rfl) ?_
 refine tr1 rfl (cQ (aA rfl) rfl dZ (es := [.sl 5 (b_0.Ledger.Reports.map aD)]) rfl) ?_
 refine tr1 rfl (cI (aA rfl) rfl iG) ?_
 refine tr1 rfl (dM (aA rfl) rfl cA.of) ?_
 refine tr1 rfl (aC (v := .d (.lit (.int .i64 0))) (aA rfl) rfl rfl) ?_
 refine aF ?_
 refine bT ?_
 refine cM [0, 1, 2, 14, 15] (fun (s2 : Int × (List aB) × Value) => [(7, .d (.lit s2.2.2)), (16, .d (.lit (.int .i64 s2.1)))]) (fun (s2 : Int × (List aB) × Value) => [.arr s2.2.2 42 5 (s2.2.1.map aD)]) (fun (k : Nat) (s2 : Int × (List aB) × Value) => gM b_0 player_1 week_2 b_0.Ledger.Reports (b_0.Ledger.Reports.length : Int) k s2.1 s2.2.1) (fun _ => rfl) (0, ([] : List aB), (.slice none 0 0)) h (aY [0] rfl rfl (aO rfl (aO rfl (aZ ⟨rfl, rfl, rfl, rfl, rfl, trivial⟩)))) ?_
 rintro k4 ⟨t16_0_2, out_0_2, w3⟩ h
 simp only [gM] at h
 refine aG ?_
 refine aE ?_
 refine tr1 rfl (bC (aA rfl) rfl rfl rfl) ?_
 refine aF ?_
 refine aG ?_
 refine bN rfl (fun c5 => ?_) (fun c5 => ?_)
 ·have h := aR c5 h
  refine bH ?_
  refine aG ?_
  refine bT ?_
  refine aG ?_
  refine aE ?_
  obtain ⟨x6, h7, h⟩ := bind_some h
  refine tr1 rfl (cD (aA rfl) rfl rfl cA.of (bP aD h7)) ?_
  refine tr1 rfl (iS (aA rfl) rfl eI (es := (aD x6)) rfl rfl) ?_
  refine bR rfl (fM (zs := [.lit (.int .i64 0), .lit (.int .i64 0), .lit (.int .i64 0), .lit (.int .i64 0), .lit (.bool false)]) (aA rfl) Try.zeroValue42 rfl rfl) ?_
  rintro _ ⟨b8, rfl⟩
  refine tr1 rfl (bX (i := 1) rfl rfl rfl rfl rfl Try.sizeOf42 rfl (aA rfl) (Nat.le_of_ble_eq_true rfl) (ds' := (aD x6)) rfl) ?_
  refine aF ?_
  refine aG ?_
  obtain ⟨b9, h10, h⟩ := bind_some h
  obtain ⟨b12, h13, h⟩ := bind_some h
  obtain ⟨b17, h18, h⟩ := bind_some h
  refine hH mix 29 [0, 1, 2, 7, 9, 14, 15, 16] [(48, .d (.lit (.bool b17)))] ?_ ?_
  ·refine bD (decide (x6.Player = player_1)) (fun c11 => ?_) (fun c11 => ?_)
   ·have h10 := aR c11 h10
    have h10 := Option.some.inj h10
    subst h10
    refine bD (decide (x6.Week ≤ week_2)) (fun c14 => ?_) (fun c14 => ?_)
    ·have h13 := aR c14 h13
     obtain ⟨r15, h16, h13⟩ := bind_some h13
     have h13 := Option.some.inj h13
     subst h13
     refine bD (decide (r15 < 52)) (fun c19 => ?_) (fun c19 => ?_)
     ·have h18 := aR c19 h18
      obtain ⟨r20, h21, h18⟩ := bind_some h18
      have h18 := Option.some.inj h18
      subst h18
      refine ⟨[(20, 0, .bp b8 0 1), (21, 1, .d (.lit (.int .i64 x6.Player))), (22, 2, .d (.lit (.int .i64 player_1))), (23, 3, .d (.lit (.bool ((decide (x6.Player = player_1)))))), (24, 4, .d (.lit (.bool ((decide (x6.Player = player_1)))))), (25, 5, .bp b8 0 2), (26, 6, .d (.lit (.int .i64 x6.Week))), (27, 7, .d (.lit (.int .i64 week_2))), (28, 8, .d (.lit (.bool ((decide (x6.Week ≤ week_2)))))), (29, 9, .d (.lit (.bool ((decide (x6.Week ≤ week_2)))))), (30, 10, .d (.lit (.bool (decide (x6.Week ≤ week_2))))), (31, 11, .cp [.lit (.int .i64 b_0.Ledger.Players), .lit (.int .i64 b_0.Ledger.Counts), .sl 5 (b_0.Ledger.Reports.map aD), .sl 3 (b_0.Ledger.Bans.map aI), .sl 3 (b_0.Ledger.Frozen.map aI)]), (32, 12, .agg (aD x6)), (33, 13, .d (.lit (.int .i64 week_2))), (34, 14, .d (.lit (.int .i64 r15))), (35, 15, .d (.lit (.bool ((decide (r15 < 52)))))), (36, 16, .d (.lit (.bool ((decide (r15 < 52)))))), (37, 17, .d (.lit (.bool (decide (r15 < 52))))), (38, 18, .cp [.lit (.int .i64 b_0.Ledger.Players), .lit (.int .i64 b_0.Ledger.Counts), .sl 5 (b_0.Ledger.Reports.map aD), .sl 3 (b_0.Ledger.Bans.map aI), .sl 3 (b_0.Ledger.Frozen.map aI)]), (39, 19, .cp [.lit (.int .i64 b_0.Ledger.Players), .lit (.int .i64 b_0.Ledger.Counts), .sl 5 (b_0.Ledger.Reports.map aD), .sl 3 (b_0.Ledger.Bans.map aI), .sl 3 (b_0.Ledger.Frozen.map aI)]), (40, 20, .cp [.lit (.int .i64 b_0.Ledger.Players), .lit (.int .i64 b_0.Ledger.Counts), .sl 5 (b_0.Ledger.Reports.map aD), .sl 3 (b_0.Ledger.Bans.map aI), .sl 3 (b_0.Ledger.Frozen.map aI)]), (41, 21, .cp [.sl 3 (b_0.Ledger.Bans.map aI)]), (42, 22, .d (.sl 3 (b_0.Ledger.Bans.map aI))), (43, 23, .d (.lit (.int .i64 player_1))), (44, 24, .bp b8 0 2), (45, 25, .d (.lit (.int .i64 x6.Week))), (46, 26, .d (.lit (.bool r20))), (47, 27, .d (.lit (.bool (!r20)))), (48, 28, .d (.lit (.bool (!r20))))], ?_, ?_⟩
      · exact ⟨by kernel_rfl, by kernel_rfl, by kernel_rfl, by kernel_rfl, by kernel_rfl, [([], []), ([0], []), ([], []), ([1, 2], []), ([3], []), ([4], []), ([4, 5], []), ([4], []), ([4, 6, 7], []), ([4, 8], []), ([9], []), ([10], []), ([10], []), ([10], []), ([10, 11, 12, 13], []), ([10, 14], []), ([10, 15], []), ([16], []), ([17], []), ([17, 18], []), ([17, 19], []), ([17, 20], []), ([17, 21], []), ([17], []), ([17], []), ([17, 24], []), ([17, 22, 23, 25], []), ([17, 26], []), ([17, 27], [])], by kernel_rfl, ⟨fun S hS => aK rfl (aS rfl (aP (aA rfl) (aH hS rfl) qY)),
      fun S hS => aK rfl (aS rfl (aT (aA rfl) (aH hS rfl) (i := 1) rfl rfl bG)),
      fun S hS => aK rfl (aS rfl (aC (v := .d (.lit (.int .i64 player_1))) (aA rfl) (aH hS rfl) rfl)),
      fun S hS => aK rfl (aS rfl (bC (aA rfl) (aH hS rfl) (aH hS rfl) rfl)),
      fun S hS => aK rfl (aS rfl (aC (v := .d (.lit (.bool ((decide (x6.Player = player_1)))))) (aA rfl) (aH hS rfl) rfl)),
      fun S hS => aK rfl (bK rfl rfl (aA rfl) (aV hS rfl) c11 (aP (aA rfl) (aH hS rfl) nP)),
      fun S hS => aK rfl (bK rfl rfl (aA rfl) (aV hS rfl) c11 (aT (aA rfl) (aH hS rfl) (i := 1) rfl rfl bG)),
      fun S hS => aK rfl (bK rfl rfl (aA rfl) (aV hS rfl) c11 (aC (v := .d (.lit (.int .i64 week_2))) (aA rfl) (aH hS rfl) rfl)),
      fun S hS => aK rfl (bK rfl rfl (aA rfl) (aV hS rfl) c11 (bC (aA rfl) (aH hS rfl) (aH hS rfl) rfl)),
      fun S hS => aK rfl (aS rfl (bJ (v := .d (.lit (.bool ((decide (x6.Week ≤ week_2)))))) (aA rfl) (aH hS rfl) c11 (aH hS rfl) rfl)),
      fun S hS => aK rfl (aS rfl (aC (v := .d (.lit (.bool (decide (x6.Week ≤ week_2))))) (aA rfl) (aH hS rfl) rfl)),
      fun S hS => aK rfl (bK rfl rfl (aA rfl) (aV hS rfl) c14 (aC (v := .cp [.lit (.int .i64 b_0.Ledger.Players), .lit (.int .i64 b_0.Ledger.Counts), .sl 5 (b_0.Ledger.Reports.map aD), .sl 3 (b_0.Ledger.Bans.map aI), .sl 3 (b_0.Ledger.Frozen.map aI)]) (aA rfl) (aH hS rfl) rfl)),
      fun S hS => aK rfl (bK rfl rfl (aA rfl) (aV hS rfl) c14 (cT (aA rfl) (aH hS rfl) (i := 1) rfl eI (es := (aD x6)) rfl rfl)),
      fun S hS => aK rfl (bK rfl rfl (aA rfl) (aV hS rfl) c14 (aC (v := .d (.lit (.int .i64 week_2))) (aA rfl) (aH hS rfl) rfl)),
      fun S hS => aK rfl (bK rfl rfl (aA rfl) (aV hS rfl) c14 (bY (aA rfl) (.func _ _ Try.call77) (ev2 (aH hS rfl) (ev2 (aH hS rfl) (ev2 (aH hS rfl) evn))) rfl (BVs.refl _ _) (vL _ _ _ h16) rfl)),
      fun S hS => aK rfl (bK rfl rfl (aA rfl) (aV hS rfl) c14 (bC (aA rfl) (aH hS rfl) rfl rfl)),
      fun S hS => aK rfl (aS rfl (bJ (v := .d (.lit (.bool ((decide (r15 < 52)))))) (aA rfl) (aH hS rfl) c14 (aH hS rfl) rfl)),
      fun S hS => aK rfl (aS rfl (aC (v := .d (.lit (.bool (decide (r15 < 52))))) (aA rfl) (aH hS rfl) rfl)),
      fun S hS => aK rfl (bK rfl rfl (aA rfl) (aV hS rfl) c19 (aC (v := .cp [.lit (.int .i64 b_0.Ledger.Players), .lit (.int .i64 b_0.Ledger.Counts), .sl 5 (b_0.Ledger.Reports.map aD), .sl 3 (b_0.Ledger.Bans.map aI), .sl 3 (b_0.Ledger.Frozen.map aI)]) (aA rfl) (aH hS rfl) rfl)),
      fun S hS => aK rfl (bK rfl rfl (aA rfl) (aV hS rfl) c19 (pW (aA rfl) (aH hS rfl))),
      fun S hS => aK rfl (bK rfl rfl (aA rfl) (aV hS rfl) c19 (cQ (aA rfl) (aH hS rfl) iU (es := [.lit (.int .i64 b_0.Ledger.Players), .lit (.int .i64 b_0.Ledger.Counts), .sl 5 (b_0.Ledger.Reports.map aD), .sl 3 (b_0.Ledger.Bans.map aI), .sl 3 (b_0.Ledger.Frozen.map aI)]) rfl)),
      fun S hS => aK rfl (bK rfl rfl (aA rfl) (aV hS rfl) c19 (cQ (aA rfl) (aH hS rfl) mL (es := [.sl 3 (b_0.Ledger.Bans.map aI)]) rfl)),
      fun S hS => aK rfl (bK rfl rfl (aA rfl) (aV hS rfl) c19 (cI (aA rfl) (aH hS rfl) jM)),
      fun S hS => aK rfl (bK rfl rfl (aA rfl) (aV hS rfl) c19 (aC (v := .d (.lit (.int .i64 player_1))) (aA rfl) (aH hS rfl) rfl)),
      fun S hS => aK rfl (bK rfl rfl (aA rfl) (aV hS rfl) c19 (aP (aA rfl) (aH hS rfl) nP)),
      fun S hS => aK rfl (bK rfl rfl (aA rfl) (aV hS rfl) c19 (aT (aA rfl) (aH hS rfl) (i := 1) rfl rfl bG)),
      fun S hS => aK rfl (bK rfl rfl (aA rfl) (aV hS rfl) c19 (bY (aA rfl) (.func _ _ Try.call48) (ev2 (aH hS rfl) (ev2 (aH hS rfl) (ev2 (aH hS rfl) evn))) rfl (BVs.refl _ _) (vX _ _ _ h21) rfl)),
      fun S hS => aK rfl (bK rfl rfl (aA rfl) (aV hS rfl) c19 (fD (aA rfl) (aH hS rfl))),
      fun S hS => aK rfl (aS rfl (bJ (v := .d (.lit (.bool (!r20)))) (aA rfl) (aH hS rfl) c19 (aH hS rfl) rfl)), trivial⟩⟩
      · exact eJ (aO rfl (aZ ⟨rfl, rfl, rfl, rfl, rfl, rfl, rfl, rfl, trivial⟩))
     ·have h18 := aQ c19 h18
      have h18 := Option.some.inj h18
      subst h18
      refine ⟨[(20, 0, .bp b8 0 1), (21, 1, .d (.lit (.int .i64 x6.Player))), (22, 2, .d (.lit (.int .i64 player_1))), (23, 3, .d (.lit (.bool ((decide (x6.Player = player_1)))))), (24, 4, .d (.lit (.bool ((decide (x6.Player = player_1)))))), (25, 5, .bp b8 0 2), (26, 6, .d (.lit (.int .i64 x6.Week))), (27, 7, .d (.lit (.int .i64 week_2))), (28, 8, .d (.lit (.bool ((decide (x6.Week ≤ week_2)))))), (29, 9, .d (.lit (.bool ((decide (x6.Week ≤ week_2)))))), (30, 10, .d (.lit (.bool (decide (x6.Week ≤ week_2))))), (31, 11, .cp [.lit (.int .i64 b_0.Ledger.Players), .lit (.int .i64 b_0.Ledger.Counts), .sl 5 (b_0.Ledger.Reports.map aD), .sl 3 (b_0.Ledger.Bans.map aI), .sl 3 (b_0.Ledger.Frozen.map aI)]), (32, 12, .agg (aD x6)), (33, 13, .d (.lit (.int .i64 week_2))), (34, 14, .d (.lit (.int .i64 r15))), (35, 15, .d (.lit (.bool ((decide (r15 < 52)))))), (36, 16, .d (.lit (.bool ((decide (r15 < 52)))))), (37, 17, .d (.lit (.bool (decide (r15 < 52))))), (38, 18, .tup []), (39, 19, .tup []), (40, 20, .tup []), (41, 21, .tup []), (42, 22, .tup []), (43, 23, .tup []), (44, 24, .tup []), (45, 25, .tup []), (46, 26, .tup []), (47, 27, .tup []), (48, 28, .d (.lit (.bool false)))], ?_, ?_⟩
      · exact ⟨by kernel_rfl, by kernel_rfl, by kernel_rfl, by kernel_rfl, by kernel_rfl, [([], []), ([0], []), ([], []), ([1, 2], []), ([3], []), ([4], []), ([4, 5], []), ([4], []), ([4, 6, 7], []), ([4, 8], []), ([9], []), ([10], []), ([10], []), ([10], []), ([10, 11, 12, 13], []), ([10, 14], []), ([10, 15], []), ([16], []), ([17], []), ([17, 18], []), ([17, 19], []), ([17, 20], []), ([17, 21], []), ([17], []), ([17], []), ([17, 24], []), ([17, 22, 23, 25], []), ([17, 26], []), ([17, 27], [])], by kernel_rfl, ⟨fun S hS => aK rfl (aS rfl (aP (aA rfl) (aH hS rfl) qY)),
      fun S hS => aK rfl (aS rfl (aT (aA rfl) (aH hS rfl) (i := 1) rfl rfl bG)),
      fun S hS => aK rfl (aS rfl (aC (v := .d (.lit (.int .i64 player_1))) (aA rfl) (aH hS rfl) rfl)),
      fun S hS => aK rfl (aS rfl (bC (aA rfl) (aH hS rfl) (aH hS rfl) rfl)),
      fun S hS => aK rfl (aS rfl (aC (v := .d (.lit (.bool ((decide (x6.Player = player_1)))))) (aA rfl) (aH hS rfl) rfl)),
      fun S hS => aK rfl (bK rfl rfl (aA rfl) (aV hS rfl) c11 (aP (aA rfl) (aH hS rfl) nP)),
      fun S hS => aK rfl (bK rfl rfl (aA rfl) (aV hS rfl) c11 (aT (aA rfl) (aH hS rfl) (i := 1) rfl rfl bG)),
      fun S hS => aK rfl (bK rfl rfl (aA rfl) (aV hS rfl) c11 (aC (v := .d (.lit (.int .i64 week_2))) (aA rfl) (aH hS rfl) rfl)),
      fun S hS => aK rfl (bK rfl rfl (aA rfl) (aV hS rfl) c11 (bC (aA rfl) (aH hS rfl) (aH hS rfl) rfl)),
      fun S hS => aK rfl (aS rfl (bJ (v := .d (.lit (.bool ((decide (x6.Week ≤ week_2)))))) (aA rfl) (aH hS rfl) c11 (aH hS rfl) rfl)),
      fun S hS => aK rfl (aS rfl (aC (v := .d (.lit (.bool (decide (x6.Week ≤ week_2))))) (aA rfl) (aH hS rfl) rfl)),
      fun S hS => aK rfl (bK rfl rfl (aA rfl) (aV hS rfl) c14 (aC (v := .cp [.lit (.int .i64 b_0.Ledger.Players), .lit (.int .i64 b_0.Ledger.Counts), .sl 5 (b_0.Ledger.Reports.map aD), .sl 3 (b_0.Ledger.Bans.map aI), .sl 3 (b_0.Ledger.Frozen.map aI)]) (aA rfl) (aH hS rfl) rfl)),
      fun S hS => aK rfl (bK rfl rfl (aA rfl) (aV hS rfl) c14 (cT (aA rfl) (aH hS rfl) (i := 1) rfl eI (es := (aD x6)) rfl rfl)),
      fun S hS => aK rfl (bK rfl rfl (aA rfl) (aV hS rfl) c14 (aC (v := .d (.lit (.int .i64 week_2))) (aA rfl) (aH hS rfl) rfl)),
      fun S hS => aK rfl (bK rfl rfl (aA rfl) (aV hS rfl) c14 (bY (aA rfl) (.func _ _ Try.call77) (ev2 (aH hS rfl) (ev2 (aH hS rfl) (ev2 (aH hS rfl) evn))) rfl (BVs.refl _ _) (vL _ _ _ h16) rfl)),
      fun S hS => aK rfl (bK rfl rfl (aA rfl) (aV hS rfl) c14 (bC (aA rfl) (aH hS rfl) rfl rfl)),
      fun S hS => aK rfl (aS rfl (bJ (v := .d (.lit (.bool ((decide (r15 < 52)))))) (aA rfl) (aH hS rfl) c14 (aH hS rfl) rfl)),
      fun S hS => aK rfl (aS rfl (aC (v := .d (.lit (.bool (decide (r15 < 52))))) (aA rfl) (aH hS rfl) rfl)),
      fun S hS => aK rfl (bF rfl rfl (aA rfl) rfl (aA rfl) (aV hS rfl) c19),
      fun S hS => aK rfl (bF rfl rfl (aA rfl) rfl (aA rfl) (aV hS rfl) c19),
      fun S hS => aK rfl (bF rfl rfl (aA rfl) rfl (aA rfl) (aV hS rfl) c19),
      fun S hS => aK rfl (bF rfl rfl (aA rfl) rfl (aA rfl) (aV hS rfl) c19),
      fun S hS => aK rfl (bF rfl rfl (aA rfl) rfl (aA rfl) (aV hS rfl) c19),
      fun S hS => aK rfl (bF rfl rfl (aA rfl) rfl (aA rfl) (aV hS rfl) c19),
      fun S hS => aK rfl (bF rfl rfl (aA rfl) rfl (aA rfl) (aV hS rfl) c19),
      fun S hS => aK rfl (bF rfl rfl (aA rfl) rfl (aA rfl) (aV hS rfl) c19),
      fun S hS => aK rfl (bF rfl rfl (aA rfl) rfl (aA rfl) (aV hS rfl) c19),
      fun S hS => aK rfl (bF rfl rfl (aA rfl) rfl (aA rfl) (aV hS rfl) c19),
      fun S hS => aK rfl (aS rfl (bI (v := .d (.lit (.bool false))) (aA rfl) (aH hS rfl) c19 rfl rfl)), trivial⟩⟩
      · exact eJ (aO rfl (aZ ⟨rfl, rfl, rfl, rfl, rfl, rfl, rfl, rfl, trivial⟩))
    ·have h13 := aQ c14 h13
     have h13 := Option.some.inj h13
     subst h13
     have c19 : false = false := rfl
     have h18 := aQ c19 h18
     have h18 := Option.some.inj h18
     subst h18
     refine ⟨[(20, 0, .bp b8 0 1), (21, 1, .d (.lit (.int .i64 x6.Player))), (22, 2, .d (.lit (.int .i64 player_1))), (23, 3, .d (.lit (.bool ((decide (x6.Player = player_1)))))), (24, 4, .d (.lit (.bool ((decide (x6.Player = player_1)))))), (25, 5, .bp b8 0 2), (26, 6, .d (.lit (.int .i64 x6.Week))), (27, 7, .d (.lit (.int .i64 week_2))), (28, 8, .d (.lit (.bool ((decide (x6.Week ≤ week_2)))))), (29, 9, .d (.lit (.bool ((decide (x6.Week ≤ week_2)))))), (30, 10, .d (.lit (.bool (decide (x6.Week ≤ week_2))))), (31, 11, .tup []), (32, 12, .tup []), (33, 13, .tup []), (34, 14, .tup []), (35, 15, .tup []), (36, 16, .d (.lit (.bool false))), (37, 17, .d (.lit (.bool (false)))), (38, 18, .tup []), (39, 19, .tup []), (40, 20, .tup []), (41, 21, .tup []), (42, 22, .tup []), (43, 23, .tup []), (44, 24, .tup []), (45, 25, .tup []), (46, 26, .tup []), (47, 27, .tup []), (48, 28, .d (.lit (.bool false)))], ?_, ?_⟩
     · exact ⟨by kernel_rfl, by kernel_rfl, by kernel_rfl, by kernel_rfl, by kernel_rfl, [([], []), ([0], []), ([], []), ([1, 2], []), ([3], []), ([4], []), ([4, 5], []), ([4], []), ([4, 6, 7], []), ([4, 8], []), ([9], []), ([10], []), ([10], []), ([10], []), ([10, 11, 12, 13], []), ([10, 14], []), ([10, 15], []), ([16], []), ([17], []), ([17, 18], []), ([17, 19], []), ([17, 20], []), ([17, 21], []), ([17], []), ([17], []), ([17, 24], []), ([17, 22, 23, 25], []), ([17, 26], []), ([17, 27], [])], by kernel_rfl, ⟨fun S hS => aK rfl (aS rfl (aP (aA rfl) (aH hS rfl) qY)),
      fun S hS => aK rfl (aS rfl (aT (aA rfl) (aH hS rfl) (i := 1) rfl rfl bG)),
      fun S hS => aK rfl (aS rfl (aC (v := .d (.lit (.int .i64 player_1))) (aA rfl) (aH hS rfl) rfl)),
      fun S hS => aK rfl (aS rfl (bC (aA rfl) (aH hS rfl) (aH hS rfl) rfl)),
      fun S hS => aK rfl (aS rfl (aC (v := .d (.lit (.bool ((decide (x6.Player = player_1)))))) (aA rfl) (aH hS rfl) rfl)),
      fun S hS => aK rfl (bK rfl rfl (aA rfl) (aV hS rfl) c11 (aP (aA rfl) (aH hS rfl) nP)),
      fun S hS => aK rfl (bK rfl rfl (aA rfl) (aV hS rfl) c11 (aT (aA rfl) (aH hS rfl) (i := 1) rfl rfl bG)),
      fun S hS => aK rfl (bK rfl rfl (aA rfl) (aV hS rfl) c11 (aC (v := .d (.lit (.int .i64 week_2))) (aA rfl) (aH hS rfl) rfl)),
      fun S hS => aK rfl (bK rfl rfl (aA rfl) (aV hS rfl) c11 (bC (aA rfl) (aH hS rfl) (aH hS rfl) rfl)),
      fun S hS => aK rfl (aS rfl (bJ (v := .d (.lit (.bool ((decide (x6.Week ≤ week_2)))))) (aA rfl) (aH hS rfl) c11 (aH hS rfl) rfl)),
      fun S hS => aK rfl (aS rfl (aC (v := .d (.lit (.bool (decide (x6.Week ≤ week_2))))) (aA rfl) (aH hS rfl) rfl)),
      fun S hS => aK rfl (bF rfl rfl (aA rfl) rfl (aA rfl) (aV hS rfl) c14),
      fun S hS => aK rfl (bF rfl rfl (aA rfl) rfl (aA rfl) (aV hS rfl) c14),
      fun S hS => aK rfl (bF rfl rfl (aA rfl) rfl (aA rfl) (aV hS rfl) c14),
      fun S hS => aK rfl (bF rfl rfl (aA rfl) rfl (aA rfl) (aV hS rfl) c14),
      fun S hS => aK rfl (bF rfl rfl (aA rfl) rfl (aA rfl) (aV hS rfl) c14),
      fun S hS => aK rfl (aS rfl (bI (v := .d (.lit (.bool false))) (aA rfl) (aH hS rfl) c14 rfl rfl)),
      fun S hS => aK rfl (aS rfl (aC (v := .d (.lit (.bool (false)))) (aA rfl) (aH hS rfl) rfl)),
      fun S hS => aK rfl (bF rfl rfl (aA rfl) rfl (aA rfl) (aV hS rfl) c19),
      fun S hS => aK rfl (bF rfl rfl (aA rfl) rfl (aA rfl) (aV hS rfl) c19),
      fun S hS => aK rfl (bF rfl rfl (aA rfl) rfl (aA rfl) (aV hS rfl) c19),
      fun S hS => aK rfl (bF rfl rfl (aA rfl) rfl (aA rfl) (aV hS rfl) c19),
      fun S hS => aK rfl (bF rfl rfl (aA rfl) rfl (aA rfl) (aV hS rfl) c19),
      fun S hS => aK rfl (bF rfl rfl (aA rfl) rfl (aA rfl) (aV hS rfl) c19),
      fun S hS => aK rfl (bF rfl rfl (aA rfl) rfl (aA rfl) (aV hS rfl) c19),
      fun S hS => aK rfl (bF rfl rfl (aA rfl) rfl (aA rfl) (aV hS rfl) c19),
      fun S hS => aK rfl (bF rfl rfl (aA rfl) rfl (aA rfl) (aV hS rfl) c19),
      fun S hS => aK rfl (bF rfl rfl (aA rfl) rfl (aA rfl) (aV hS rfl) c19),
      fun S hS => aK rfl (aS rfl (bI (v := .d (.lit (.bool false))) (aA rfl) (aH hS rfl) c19 rfl rfl)), trivial⟩⟩
     · exact eJ (aO rfl (aZ ⟨rfl, rfl, rfl, rfl, rfl, rfl, rfl, rfl, trivial⟩))
   ·have h10 := aQ c11 h10
    have h10 := Option.some.inj h10
    subst h10
    have c14 : false = false := rfl
    have h13 := aQ c14 h13
    have h13 := Option.some.inj h13
    subst h13
    have c19 : false = false := rfl
    have h18 := aQ c19 h18
    have h18 := Option.some.inj h18
    subst h18
    refine ⟨[(20, 0, .bp b8 0 1), (21, 1, .d (.lit (.int .i64 x6.Player))), (22, 2, .d (.lit (.int .i64 player_1))), (23, 3, .d (.lit (.bool ((decide (x6.Player = player_1)))))), (24, 4, .d (.lit (.bool ((decide (x6.Player = player_1)))))), (25, 5, .tup []), (26, 6, .tup []), (27, 7, .tup []), (28, 8, .tup []), (29, 9, .d (.lit (.bool false))), (30, 10, .d (.lit (.bool (false)))), (31, 11, .tup []), (32, 12, .tup []), (33, 13, .tup []), (34, 14, .tup []), (35, 15, .tup []), (36, 16, .d (.lit (.bool false))), (37, 17, .d (.lit (.bool (false)))), (38, 18, .tup []), (39, 19, .tup []), (40, 20, .tup []), (41, 21, .tup []), (42, 22, .tup []), (43, 23, .tup []), (44, 24, .tup []), (45, 25, .tup []), (46, 26, .tup []), (47, 27, .tup []), (48, 28, .d (.lit (.bool false)))], ?_, ?_⟩
    · exact ⟨by kernel_rfl, by kernel_rfl, by kernel_rfl, by kernel_rfl, by kernel_rfl, [([], []), ([0], []), ([], []), ([1, 2], []), ([3], []), ([4], []), ([4, 5], []), ([4], []), ([4, 6, 7], []), ([4, 8], []), ([9], []), ([10], []), ([10], []), ([10], []), ([10, 11, 12, 13], []), ([10, 14], []), ([10, 15], []), ([16], []), ([17], []), ([17, 18], []), ([17, 19], []), ([17, 20], []), ([17, 21], []), ([17], []), ([17], []), ([17, 24], []), ([17, 22, 23, 25], []), ([17, 26], []), ([17, 27], [])], by kernel_rfl, ⟨fun S hS => aK rfl (aS rfl (aP (aA rfl) (aH hS rfl) qY)),
      fun S hS => aK rfl (aS rfl (aT (aA rfl) (aH hS rfl) (i := 1) rfl rfl bG)),
      fun S hS => aK rfl (aS rfl (aC (v := .d (.lit (.int .i64 player_1))) (aA rfl) (aH hS rfl) rfl)),
      fun S hS => aK rfl (aS rfl (bC (aA rfl) (aH hS rfl) (aH hS rfl) rfl)),
      fun S hS => aK rfl (aS rfl (aC (v := .d (.lit (.bool ((decide (x6.Player = player_1)))))) (aA rfl) (aH hS rfl) rfl)),
      fun S hS => aK rfl (bF rfl rfl (aA rfl) rfl (aA rfl) (aV hS rfl) c11),
      fun S hS => aK rfl (bF rfl rfl (aA rfl) rfl (aA rfl) (aV hS rfl) c11),
      fun S hS => aK rfl (bF rfl rfl (aA rfl) rfl (aA rfl) (aV hS rfl) c11),
      fun S hS => aK rfl (bF rfl rfl (aA rfl) rfl (aA rfl) (aV hS rfl) c11),
      fun S hS => aK rfl (aS rfl (bI (v := .d (.lit (.bool false))) (aA rfl) (aH hS rfl) c11 rfl rfl)),
      fun S hS => aK rfl (aS rfl (aC (v := .d (.lit (.bool (false)))) (aA rfl) (aH hS rfl) rfl)),
      fun S hS => aK rfl (bF rfl rfl (aA rfl) rfl (aA rfl) (aV hS rfl) c14),
      fun S hS => aK rfl (bF rfl rfl (aA rfl) rfl (aA rfl) (aV hS rfl) c14),
      fun S hS => aK rfl (bF rfl rfl (aA rfl) rfl (aA rfl) (aV hS rfl) c14),
      fun S hS => aK rfl (bF rfl rfl (aA rfl) rfl (aA rfl) (aV hS rfl) c14),
      fun S hS => aK rfl (bF rfl rfl (aA rfl) rfl (aA rfl) (aV hS rfl) c14),
      fun S hS => aK rfl (aS rfl (bI (v := .d (.lit (.bool false))) (aA rfl) (aH hS rfl) c14 rfl rfl)),
      fun S hS => aK rfl (aS rfl (aC (v := .d (.lit (.bool (false)))) (aA rfl) (aH hS rfl) rfl)),
      fun S hS => aK rfl (bF rfl rfl (aA rfl) rfl (aA rfl) (aV hS rfl) c19),
      fun S hS => aK rfl (bF rfl rfl (aA rfl) rfl (aA rfl) (aV hS rfl) c19),
      fun S hS => aK rfl (bF rfl rfl (aA rfl) rfl (aA rfl) (aV hS rfl) c19),
      fun S hS => aK rfl (bF rfl rfl (aA rfl) rfl (aA rfl) (aV hS rfl) c19),
      fun S hS => aK rfl (bF rfl rfl (aA rfl) rfl (aA rfl) (aV hS rfl) c19),
      fun S hS => aK rfl (bF rfl rfl (aA rfl) rfl (aA rfl) (aV hS rfl) c19),
      fun S hS => aK rfl (bF rfl rfl (aA rfl) rfl (aA rfl) (aV hS rfl) c19),
      fun S hS => aK rfl (bF rfl rfl (aA rfl) rfl (aA rfl) (aV hS rfl) c19),
      fun S hS => aK rfl (bF rfl rfl (aA rfl) rfl (aA rfl) (aV hS rfl) c19),
      fun S hS => aK rfl (bF rfl rfl (aA rfl) rfl (aA rfl) (aV hS rfl) c19),
      fun S hS => aK rfl (aS rfl (bI (v := .d (.lit (.bool false))) (aA rfl) (aH hS rfl) c19 rfl rfl)), trivial⟩⟩
    · exact eJ (aO rfl (aZ ⟨rfl, rfl, rfl, rfl, rfl, rfl, rfl, rfl, trivial⟩))
  ·refine aF ?_
   refine bN rfl (fun c22 => ?_) (fun c22 => ?_)
   ·have h := aR c22 h
    refine aE ?_
    refine tr1 rfl (aC (v := .d (.lit w3)) (aA rfl) rfl rfl) ?_
    refine tr1 rfl (cT (aA rfl) rfl (i := 1) rfl eI (es := (aD x6)) rfl rfl) ?_
    refine tr1 rfl (jU (aA rfl) cA rfl rfl (rows := ([x6]).map aD) rfl (dE (f := aD) fun _ => rfl) rfl (by decide)) ?_
    obtain ⟨x23, h24, h⟩ := bind_some h
    refine bR rfl (mD (i := 0) (aA rfl) cA rfl rfl rfl (fun _ => rfl) h24 rfl) ?_
    rintro _ ⟨v25, rfl⟩
    refine tr1 rfl (aJ (v := .d (.lit v25)) (aA rfl) rfl rfl) ?_
    refine eH ?_
    refine aE ?_
    refine tr1 rfl (bA (aA rfl) rfl rfl rfl) ?_
    refine tr1 rfl (aC (v := .d (.lit (.int .i64 ((w64 (t16_0_2 + 1)))))) (aA rfl) rfl rfl) ?_
    refine aF ?_
    exact ⟨(w64 (t16_0_2 + 1), x23, v25), h, aY [0] rfl rfl (aO rfl (aO rfl (aZ ⟨rfl, rfl, rfl, rfl, rfl, trivial⟩)))⟩
   ·have h := aQ c22 h
    refine eR ?_
    refine aE ?_
    refine tr1 rfl (bA (aA rfl) rfl rfl rfl) ?_
    refine tr1 rfl (aC (v := .d (.lit (.int .i64 ((w64 (t16_0_2 + 1)))))) (aA rfl) rfl rfl) ?_
    refine aF ?_
    exact ⟨(w64 (t16_0_2 + 1), out_0_2, w3), h, aY [0] rfl rfl (aO rfl (aO rfl (aZ ⟨rfl, rfl, rfl, rfl, rfl, trivial⟩)))⟩
 ·have h := aQ c5 h
  refine cX ?_
  refine .inl ⟨rfl, ?_⟩
  simp only [pH] at h
  refine aG ?_
  refine aE ?_
  refine tr1 rfl (aC (v := .d (.lit w3)) (aA rfl) rfl rfl) ?_
  refine tr1 rfl (aJ (v := .d (.lit w3)) (aA rfl) rfl rfl) ?_
  refine aF ?_
  have h := Option.some.inj h
  subst h
  refine cR (cG (jZ (k := 6) (v := .d (.sl 5 (out_0_2.map aD))) (.d (jL 0 rfl (dE (f := aD) fun _ => rfl))) (aBl))) ?_
  exact bL ⟨rfl, _, .one _, rfl, rfl⟩

theorem xT (vals_0 : List Int) {r : Int} (h : pO vals_0 = some r) : Fn Try.prog 99 [.d (.sl 1 (vals_0.map cK))] (.d (.lit (.int .i64 r))) := by
 unfold pO at h
 refine Fn.of_tr Try.func99 rfl (rs := [.tmp 2]) Try.results99 Try.ntmps99 (Nat.le_of_ble_eq_true rfl) ?_
 refine aG ?_
 refine aE ?_
 refine tr1 rfl (aJ (v := .d (.lit (.int .i64 0))) (aA rfl) rfl rfl) ?_
 refine aF ?_
 refine aG ?_
 refine aE ?_
 refine tr1 rfl (aJ (v := .d (.lit (.int .i64 0))) (aA rfl) rfl rfl) ?_
 refine aF ?_
 refine aG ?_
 refine aG ?_
 refine aE ?_
 refine tr1 rfl (aC (v := .d (.sl 1 (vals_0.map cK))) (aA rfl) rfl rfl) ?_
 refine tr1 rfl (dM (aA rfl) rfl eF.of) ?_
 refine tr1 rfl (aC (v := .d (.lit (.int .i64 0))) (aA rfl) rfl rfl) ?_
 refine aF ?_
 refine bT ?_
 refine cM [3, 6, 7] (fun (s1 : Int) => [(8, .d (.lit (.int .i64 s1)))]) (fun (s1 : Int) => []) (fun (k : Nat) (s1 : Int) => lU 0 vals_0 (vals_0.length : Int) k s1) (fun _ => rfl) (0) h (aY [] rfl rfl (aO rfl (aZ ⟨rfl, rfl, rfl, trivial⟩))) ?_
 rintro k2 t8_0_1 h
 simp only [lU] at h
 refine aG ?_
 refine aE ?_
 refine tr1 rfl (bC (aA rfl) rfl rfl rfl) ?_
 refine aF ?_
 refine aG ?_
 refine bN rfl (fun c3 => ?_) (fun c3 => ?_)
 ·have h := aR c3 h
  refine bH ?_
  refine aG ?_
  refine bT ?_
  refine aG ?_
  refine aE ?_
  obtain ⟨x4, h5, h⟩ := bind_some h
  refine tr1 rfl (cD (aA rfl) rfl rfl eF.of (bP cK h5)) ?_
  refine tr1 rfl (cI (aA rfl) rfl bG) ?_
  refine tr1 rfl (aJ (v := .d (.lit (.int .i64 x4))) (aA rfl) rfl rfl) ?_
  refine aF ?_
  refine aG ?_
  refine aE ?_
  refine tr1 rfl (aC (v := .d (.lit (.int .i64 x4))) (aA rfl) rfl rfl) ?_
  refine tr1 rfl (aC (v := .d (.lit (.int .i64 0))) (aA rfl) rfl rfl) ?_
  refine tr1 rfl (bC (aA rfl) rfl rfl rfl) ?_
  refine aF ?_
  refine bN rfl (fun c6 => ?_) (fun c6 => ?_)
  ·have h := aR c6 h
   refine aG ?_
   refine aE ?_
   refine tr1 rfl (aC (v := .d (.lit (.int .i64 x4))) (aA rfl) rfl rfl) ?_
   refine tr1 rfl (aJ (v := .d (.lit (.int .i64 x4))) (aA rfl) rfl rfl) ?_
   refine aF ?_
   have h := Option.some.inj h
   subst h
   exact bL ⟨rfl, _, .one _, rfl, rfl⟩
  ·have h := aQ c6 h
   refine eR ?_
   refine aE ?_
   refine tr1 rfl (bA (aA rfl) rfl rfl rfl) ?_
   refine tr1 rfl (aC (v := .d (.lit (.int .i64 ((w64 (t8_0_1 + 1)))))) (aA rfl) rfl rfl) ?_
   refine aF ?_
   exact ⟨(w64 (t8_0_1 + 1)), h, aY [] rfl rfl (aO rfl (aZ ⟨rfl, rfl, rfl, trivial⟩))⟩
 ·have h := aQ c3 h
  refine cX ?_
  refine .inl ⟨rfl, ?_⟩
  simp only [tL] at h
  refine aG ?_
  refine aE ?_
  refine tr1 rfl (aC (v := .d (.lit (.int .i64 0))) (aA rfl) rfl rfl) ?_
  refine tr1 rfl (aJ (v := .d (.lit (.int .i64 0))) (aA rfl) rfl rfl) ?_
  refine aF ?_
  have h := Option.some.inj h
  subst h
  exact bL ⟨rfl, _, .one _, rfl, rfl⟩

theorem xL (x_0 : aB) (y_1 : aB) {r : Int} (h : kE x_0 y_1 = some r) : Fn Try.prog 98 [.agg (aD x_0), .agg (aD y_1)] (.d (.lit (.int .i64 r))) := by
 unfold kE at h
 refine Fn.of_tr Try.func98 rfl (rs := [.tmp 4]) Try.results98 Try.ntmps98 (Nat.le_of_ble_eq_true rfl) ?_
 refine aG ?_
 refine aE ?_
 refine bR rfl (fK (v := .agg (aD x_0)) (aA rfl) rfl rfl rfl) ?_
 rintro _ ⟨b1, rfl⟩
 refine bR rfl (fK (v := .agg (aD y_1)) (aA rfl) rfl rfl rfl) ?_
 rintro _ ⟨b2, rfl⟩
 refine tr1 rfl (aJ (v := .d (.lit (.int .i64 0))) (aA rfl) rfl rfl) ?_
 refine aF ?_
 refine aG ?_
 refine bT ?_
 refine aG ?_
 refine aE ?_
 refine tr1 rfl (aP (aA rfl) rfl qZ) ?_
 refine tr1 rfl (aT (aA rfl) rfl (i := 0) rfl rfl sT) ?_
 refine tr1 rfl (aP (aA rfl) rfl qZ) ?_
 refine tr1 rfl (aT (aA rfl) rfl (i := 1) rfl rfl sT) ?_
 refine tr1 rfl (aIh (aA rfl) rfl rfl Try.underlying4) ?_
 refine tr1 rfl (aC (v := .d (.lit (.bool ((!decide (x_0.Must = y_1.Must)))))) (aA rfl) rfl rfl) ?_
 obtain ⟨b3, h4, h⟩ := bind_some h
 refine bQ 3 [2, 3] 14 b3 ?_ ?_
 ·refine bD (!decide (x_0.Must = y_1.Must)) (fun c9 => ?_) (fun c9 => ?_)
  ·have h4 := aR c9 h4
   refine aL rfl rfl (aA rfl) rfl c9 (aP (aA rfl) rfl qZ) ?_
   refine aL rfl rfl (aA rfl) rfl c9 (aT (aA rfl) rfl (i := 0) rfl rfl sT) ?_
   refine tr1 rfl (bJ (v := .d (.lit (.bool x_0.Must))) (aA rfl) rfl c9 rfl rfl) ?_
   have h4 := Option.some.inj h4
   subst h4
   refine aF (aW rfl ⟨rfl, rfl, trivial⟩ rfl)
  ·have h4 := aQ c9 h4
   refine aN rfl rfl (aA rfl) rfl (aA rfl) rfl c9 ?_
   refine aN rfl rfl (aA rfl) rfl (aA rfl) rfl c9 ?_
   refine tr1 rfl (bI (v := .d (.lit (.bool false))) (aA rfl) rfl c9 rfl rfl) ?_
   have h4 := Option.some.inj h4
   subst h4
   refine aF (aW rfl ⟨rfl, rfl, trivial⟩ rfl)
 ·refine tr1 rfl (aJ (v := .d (.lit (.bool b3))) (aA rfl) rfl rfl) ?_
  refine aF ?_
  refine bN rfl (fun c5 => ?_) (fun c5 => ?_)
  ·have h := aR c5 h
   refine aG ?_
   refine aE ?_
   refine tr1 rfl (aJ (v := .d (.lit (.int .i64 (-1)))) (aA rfl) rfl rfl) ?_
   refine aF ?_
   have h := Option.some.inj h
   subst h
   refine cR (cG (cL (l := [4]) ⟨rfl, trivial⟩)) ?_
   exact bL ⟨rfl, _, .one _, rfl, rfl⟩
  ·have h := aQ c5 h
   refine aG ?_
   refine aE ?_
   refine tr1 rfl (aP (aA rfl) rfl qZ) ?_
   refine tr1 rfl (aT (aA rfl) rfl (i := 0) rfl rfl sT) ?_
   refine tr1 rfl (aP (aA rfl) rfl qZ) ?_
   refine tr1 rfl (aT (aA rfl) rfl (i := 1) rfl rfl sT) ?_
   refine tr1 rfl (aIh (aA rfl) rfl rfl Try.underlying4) ?_
   refine tr1 rfl (aJ (v := .d (.lit (.bool ((!decide (x_0.Must = y_1.Must)))))) (aA rfl) rfl rfl) ?_
   refine aF ?_
   refine bN rfl (fun c6 => ?_) (fun c6 => ?_)
   ·have h := aR c6 h
    refine aG ?_
    refine aE ?_
    refine tr1 rfl (aJ (v := .d (.lit (.int .i64 1))) (aA rfl) rfl rfl) ?_
    refine aF ?_
    have h := Option.some.inj h
    subst h
    refine cR (cG (cL (l := [4]) ⟨rfl, trivial⟩)) ?_
    exact bL ⟨rfl, _, .one _, rfl, rfl⟩
   ·have h := aQ c6 h
    refine eR ?_
    refine aG ?_
    refine aE ?_
    refine tr1 rfl (aP (aA rfl) rfl sD) ?_
    refine tr1 rfl (aT (aA rfl) rfl (i := 1) rfl rfl bG) ?_
    refine tr1 rfl (aP (aA rfl) rfl sD) ?_
    refine tr1 rfl (aT (aA rfl) rfl (i := 0) rfl rfl bG) ?_
    refine tr1 rfl (bA (aA rfl) rfl rfl rfl) ?_
    refine tr1 rfl (aP (aA rfl) rfl kS) ?_
    refine tr1 rfl (aT (aA rfl) rfl (i := 0) rfl rfl bG) ?_
    refine tr1 rfl (aP (aA rfl) rfl kS) ?_
    refine tr1 rfl (aT (aA rfl) rfl (i := 1) rfl rfl bG) ?_
    refine tr1 rfl (bA (aA rfl) rfl rfl rfl) ?_
    refine tr1 rfl (jU (aA rfl) eF rfl rfl (rows := ([w64 (y_1.Points - x_0.Points), w64 (x_0.Id - y_1.Id)]).map cK) rfl (dE (f := cK) fun _ => rfl) rfl (by decide)) ?_
    obtain ⟨r7, h8, h⟩ := bind_some h
    refine tr1 rfl (bY (aA rfl) (.func _ _ Try.call99) rfl rfl (BVs.refl _ _) (xT _ h8) rfl) ?_
    refine tr1 rfl (aJ (v := .d (.lit (.int .i64 r7))) (aA rfl) rfl rfl) ?_
    refine aF ?_
    have h := Option.some.inj h
    subst h
    refine cR (cG (cL (l := [4]) ⟨rfl, trivial⟩)) ?_
    exact bL ⟨rfl, _, .one _, rfl, rfl⟩

theorem tR (b_0 : bW) (all_1 : List aB) {r : (List aB)} (h : lS b_0 all_1 = some r) : Fn Try.prog 71 [.cp (cE b_0), .d (.sl 5 (all_1.map aD))] (.d (.sl 5 (r.map aD))) := by
 unfold lS at h
 refine Fn.of_tr Try.func71 rfl (rs := [.tmp 4]) Try.results71 Try.ntmps71 (Nat.le_of_ble_eq_true rfl) ?_
 refine aG ?_
 refine aE ?_
 refine tr1 rfl (xA 5 (aA rfl)) ?_
 refine aF ?_
 refine aG ?_
 refine aE ?_
 refine tr1 rfl (aC (v := .d (.sl 5 (all_1.map aD))) (aA rfl) rfl rfl) ?_
 obtain ⟨r1, h2, h⟩ := bind_some h
 refine bR rfl (wZ (aA rfl) (.func _ _ Try.call91) rfl rfl (oJ _ h2)) ?_
 rintro _ ⟨v3, rfl⟩
 refine tr1 rfl (aJ (v := .d (.lit v3)) (aA rfl) rfl rfl) ?_
 refine aF ?_
 refine aG ?_
 refine aE ?_
 refine tr1 rfl (aC (v := .d (.lit v3)) (aA rfl) rfl rfl) ?_
 obtain ⟨r6, h7, h⟩ := bind_some h
 refine bR rfl (dP (passed := [.arr v3 42 5 (r1.map aD)]) (aA rfl) rfl (.func _ _ Try.call92) rfl rfl (lY r1 (fun y4 y5 => kE y4 y5) 98 [] Try.call98 (fun _ _ _ h => xL _ _ h) h7)) ?_
 rintro _ ⟨_, _, ⟨rfl, rfl⟩, rfl⟩
 refine aF ?_
 refine aG ?_
 refine aE ?_
 refine tr1 rfl (aJ (v := .d (.lit (.int .i64 0))) (aA rfl) rfl rfl) ?_
 refine aF ?_
 refine aG ?_
 refine aG ?_
 refine aE ?_
 refine tr1 rfl (aC (v := .d (.lit v3)) (aA rfl) rfl rfl) ?_
 refine tr1 rfl (mA (m := 0) (aA rfl) rfl rfl cA.of) ?_
 refine tr1 rfl (aC (v := .d (.lit (.int .i64 0))) (aA rfl) rfl rfl) ?_
 refine aF ?_
 refine bT ?_
 refine cM [0, 5, 13, 14] (fun (s8 : Int × Int) => [(6, .d (.lit (.int .i64 s8.1))), (15, .d (.lit (.int .i64 s8.2)))]) (fun (s8 : Int × Int) => [.arr v3 42 5 (r6.map aD)]) (fun (k : Nat) (s8 : Int × Int) => fU b_0 (r6.length : Int) r6 k s8.1 s8.2) (fun _ => rfl) (0, 0) h (aY [0] rfl rfl (aO rfl (aO rfl (aZ ⟨rfl, rfl, rfl, rfl, trivial⟩)))) ?_
 rintro k9 ⟨musts_0_8, t15_0_8⟩ h
 simp only [fU] at h
 refine aG ?_
 refine aE ?_
 refine tr1 rfl (bC (aA rfl) rfl rfl rfl) ?_
 refine aF ?_
 refine aG ?_
 refine bN rfl (fun c10 => ?_) (fun c10 => ?_)
 ·have h := aR c10 h
  refine bH ?_
  refine aG ?_
  refine bT ?_
  refine aG ?_
  refine aE ?_
  obtain ⟨x11, h12, h⟩ := bind_some h
  refine tr1 rfl (cC (m := 0) (aA rfl) rfl rfl rfl cA.of (bP aD h12)) ?_
  refine tr1 rfl (dG (aA rfl) rfl (l := 0) rfl (dX aD h12) eI (es := (aD x11)) rfl rfl) ?_
  refine bR rfl (fM (zs := [.lit (.int .i64 0), .lit (.int .i64 0), .lit (.int .i64 0), .lit (.int .i64 0), .lit (.bool false)]) (aA rfl) Try.zeroValue42 rfl rfl) ?_
  rintro _ ⟨b13, rfl⟩
  refine tr1 rfl (bX (i := 1) rfl rfl rfl rfl rfl Try.sizeOf42 rfl (aA rfl) (Nat.le_of_ble_eq_true rfl) (ds' := (aD x11)) rfl) ?_
  refine aF ?_
  refine aG ?_
  refine aE ?_
  refine tr1 rfl (aP (aA rfl) rfl qZ) ?_
  refine tr1 rfl (aT (aA rfl) rfl (i := 1) rfl rfl sT) ?_
  refine aF ?_
  refine bN rfl (fun c14 => ?_) (fun c14 => ?_)
  ·have h := aR c14 h
   refine aE ?_
   refine tr1 rfl (aC (v := .d (.lit (.int .i64 musts_0_8))) (aA rfl) rfl rfl) ?_
   refine tr1 rfl (bA (aA rfl) rfl rfl rfl) ?_
   refine tr1 rfl (aJ (v := .d (.lit (.int .i64 ((w64 (musts_0_8 + 1)))))) (aA rfl) rfl rfl) ?_
   refine eH ?_
   refine aE ?_
   refine tr1 rfl (bA (aA rfl) rfl rfl rfl) ?_
   refine tr1 rfl (aC (v := .d (.lit (.int .i64 ((w64 (t15_0_8 + 1)))))) (aA rfl) rfl rfl) ?_
   refine aF ?_
   exact ⟨(w64 (musts_0_8 + 1), w64 (t15_0_8 + 1)), h, aY [0] rfl rfl (aO rfl (aO rfl (aZ ⟨rfl, rfl, rfl, rfl, trivial⟩)))⟩
  ·have h := aQ c14 h
   refine eR ?_
   refine aE ?_
   refine tr1 rfl (bA (aA rfl) rfl rfl rfl) ?_
   refine tr1 rfl (aC (v := .d (.lit (.int .i64 ((w64 (t15_0_8 + 1)))))) (aA rfl) rfl rfl) ?_
   refine aF ?_
   exact ⟨(musts_0_8, w64 (t15_0_8 + 1)), h, aY [0] rfl rfl (aO rfl (aO rfl (aZ ⟨rfl, rfl, rfl, rfl, trivial⟩)))⟩
 ·have h := aQ c10 h
  refine cX ?_
  refine .inl ⟨rfl, ?_⟩
  simp only [lK] at h
  refine aG ?_
  refine aE ?_
  refine tr1 rfl (aC (v := .d (.lit v3)) (aA rfl) rfl rfl) ?_
  refine tr1 rfl (aC (v := .d (.lit v3)) (aA rfl) rfl rfl) ?_
  refine tr1 rfl (mA (m := 0) (aA rfl) rfl rfl cA.of) ?_
  refine tr1 rfl (aC (v := .d (.lit (.int .i64 musts_0_8))) (aA rfl) rfl rfl) ?_
  refine tr1 rfl (aC (v := .cp [.lit (.int .i64 b_0.Ledger.Players), .lit (.int .i64 b_0.Ledger.Counts), .sl 5 (b_0.Ledger.Reports.map aD), .sl 3 (b_0.Ledger.Bans.map aI), .sl 3 (b_0.Ledger.Frozen.map aI)]) (aA rfl) rfl rfl) ?_
  refine tr1 rfl (pW (aA rfl) rfl) ?_
  refine tr1 rfl (cQ (aA rfl) rfl iU (es := [.lit (.int .i64 b_0.Ledger.Players), .lit (.int .i64 b_0.Ledger.Counts), .sl 5 (b_0.Ledger.Reports.map aD), .sl 3 (b_0.Ledger.Bans.map aI), .sl 3 (b_0.Ledger.Frozen.map aI)]) rfl) ?_
  refine tr1 rfl (cQ (aA rfl) rfl aAc (es := [.lit (.int .i64 b_0.Ledger.Counts)]) rfl) ?_
  refine tr1 rfl (cI (aA rfl) rfl bG) ?_
  refine tr1 rfl (aBe (aA rfl) rfl rfl) ?_
  refine tr1 rfl (aGg (aA rfl) rfl rfl) ?_
  refine gI (aBo [] [.arr v3 42 5 (r6.map aD)] rfl (jZ (k := 25) (v := .d (.sl 5 (r6.map aD))) (.d (jL 0 rfl (dE (f := aD) fun _ => rfl))) (jZ (k := 24) (v := .d (.sl 5 (r6.map aD))) (.d (jL 0 rfl (dE (f := aD) fun _ => rfl))) (jZ (k := 13) (v := .d (.sl 5 (r6.map aD))) (.d (jL 0 rfl (dE (f := aD) fun _ => rfl))) (jZ (k := 5) (v := .d (.sl 5 (r6.map aD))) (.d (jL 0 rfl (dE (f := aD) fun _ => rfl))) (uE _ _)))))) ?_
  obtain ⟨x15, h16, h⟩ := bind_some h
  refine tr1 rfl (pX (aA rfl) cA.of rfl rfl rfl (sO aD h16)) ?_
  refine tr1 rfl (aJ (v := .d (.sl 5 (x15.map aD))) (aA rfl) rfl rfl) ?_
  refine aF ?_
  have h := Option.some.inj h
  subst h
  exact bL ⟨rfl, _, .one _, rfl, rfl⟩

theorem aBb (l_0 : List aB) {r : Int} (h : sK l_0 = some r) : Fn Try.prog 86 [.d (.sl 5 (l_0.map aD))] (.d (.lit (.int .i64 r))) := by
 unfold sK at h
 refine Fn.of_tr Try.func86 rfl (rs := [.tmp 2]) Try.results86 Try.ntmps86 (Nat.le_of_ble_eq_true rfl) ?_
 refine aG ?_
 refine aE ?_
 refine tr1 rfl (aJ (v := .d (.lit (.int .i64 0))) (aA rfl) rfl rfl) ?_
 refine aF ?_
 refine aG ?_
 refine aG ?_
 refine aE ?_
 refine tr1 rfl (aC (v := .d (.sl 5 (l_0.map aD))) (aA rfl) rfl rfl) ?_
 refine tr1 rfl (dM (aA rfl) rfl cA.of) ?_
 refine tr1 rfl (aC (v := .d (.lit (.int .i64 0))) (aA rfl) rfl rfl) ?_
 refine aF ?_
 refine bT ?_
 refine cM [5, 6] (fun (s1 : Int × Int) => [(2, .d (.lit (.int .i64 s1.1))), (7, .d (.lit (.int .i64 s1.2)))]) (fun (s1 : Int × Int) => []) (fun (k : Nat) (s1 : Int × Int) => nQ l_0 (l_0.length : Int) k s1.1 s1.2) (fun _ => rfl) (0, 0) h (aY [] rfl rfl (aO rfl (aO rfl (aZ ⟨rfl, rfl, trivial⟩)))) ?_
 rintro k2 ⟨n_0_1, t7_0_1⟩ h
 simp only [nQ] at h
 refine aG ?_
 refine aE ?_
 refine tr1 rfl (bC (aA rfl) rfl rfl rfl) ?_
 refine aF ?_
 refine aG ?_
 refine bN rfl (fun c3 => ?_) (fun c3 => ?_)
 ·have h := aR c3 h
  refine bH ?_
  refine aG ?_
  refine bT ?_
  refine aG ?_
  refine aE ?_
  obtain ⟨x4, h5, h⟩ := bind_some h
  refine tr1 rfl (cD (aA rfl) rfl rfl cA.of (bP aD h5)) ?_
  refine tr1 rfl (iS (aA rfl) rfl eI (es := (aD x4)) rfl rfl) ?_
  refine bR rfl (fM (zs := [.lit (.int .i64 0), .lit (.int .i64 0), .lit (.int .i64 0), .lit (.int .i64 0), .lit (.bool false)]) (aA rfl) Try.zeroValue42 rfl rfl) ?_
  rintro _ ⟨b6, rfl⟩
  refine tr1 rfl (bX (i := 0) rfl rfl rfl rfl rfl Try.sizeOf42 rfl (aA rfl) (Nat.le_of_ble_eq_true rfl) (ds' := (aD x4)) rfl) ?_
  refine aF ?_
  refine aE ?_
  refine tr1 rfl (aC (v := .d (.lit (.int .i64 n_0_1))) (aA rfl) rfl rfl) ?_
  refine tr1 rfl (aP (aA rfl) rfl sD) ?_
  refine tr1 rfl (aT (aA rfl) rfl (i := 0) rfl rfl bG) ?_
  refine tr1 rfl (bA (aA rfl) rfl rfl rfl) ?_
  refine tr1 rfl (aJ (v := .d (.lit (.int .i64 ((w64 (n_0_1 + x4.Points)))))) (aA rfl) rfl rfl) ?_
  refine eH ?_
  refine aE ?_
  refine tr1 rfl (bA (aA rfl) rfl rfl rfl) ?_
  refine tr1 rfl (aC (v := .d (.lit (.int .i64 ((w64 (t7_0_1 + 1)))))) (aA rfl) rfl rfl) ?_
  refine aF ?_
  exact ⟨(w64 (n_0_1 + x4.Points), w64 (t7_0_1 + 1)), h, aY [] rfl rfl (aO rfl (aO rfl (aZ ⟨rfl, rfl, trivial⟩)))⟩
 ·have h := aQ c3 h
  refine cX ?_
  refine .inl ⟨rfl, ?_⟩
  simp only [vY] at h
  refine aG ?_
  refine aE ?_
  refine tr1 rfl (aC (v := .d (.lit (.int .i64 n_0_1))) (aA rfl) rfl rfl) ?_
  refine tr1 rfl (aJ (v := .d (.lit (.int .i64 n_0_1))) (aA rfl) rfl rfl) ?_
  refine aF ?_
  have h := Option.some.inj h
  subst h
  exact bL ⟨rfl, _, .one _, rfl, rfl⟩

theorem aAu (x : Int) {r : Int} (h : qR x = some r) : Fn Try.prog 101 [.d (.lit (.int .u64 x))] (.d (.lit (.int .i64 r))) := aIm (fun x w => Try.bits_Len x w) h

theorem oK (data_0 : List bB) (a_1 : Int) (b_2 : Int) (cmp_3 : bB → bB → Option Int) {r : (List bB)} {data_0_v : Value} (cmp_3_f : Nat) (cmp_3_v : List AV) (cmp_3_e : ∀ args w, (callFunc cmp_3_f args).run Try.prog w = .ok (.enter cmp_3_f args) w) (cmp_3_h : ∀ (x0 : bB) (x1 : bB) r, cmp_3 x0 x1 = some r → Fn Try.prog cmp_3_f ([.agg (bM x0), .agg (bM x1)] ++ cmp_3_v) (.d (.lit (.int .i64 r)))) (h : dK data_0 a_1 b_2 cmp_3 = some r) : fT Try.prog 118 [.d (.lit data_0_v), .d (.lit (.int .i64 a_1)), .d (.lit (.int .i64 b_2)), .fn cmp_3_f cmp_3_v] [.arr data_0_v 114 4 (data_0.map bM)] (fun r' o' => r' = .tup [] ∧ o' = [.arr data_0_v 114 4 (r.map bM)]) := by
 unfold dK at h
 refine jF Try.func118 rfl (rs := []) Try.results118 Try.ntmps118 (Nat.le_of_ble_eq_true rfl) ?_
 refine aG ?_
 refine aE ?_
 refine tr1 rfl (aC (v := .d (.lit (.int .i64 a_1))) (aA rfl) rfl rfl) ?_
 refine tr1 rfl (bA (aA rfl) rfl rfl rfl) ?_
 refine tr1 rfl (aJ (v := .d (.lit (.int .i64 ((w64 (a_1 + 1)))))) (aA rfl) rfl rfl) ?_
 refine aF ?_
 refine bT ?_
 refine cM [1, 2, 3] (fun (s1 : Int × (List bB)) => [(0, .d (.lit data_0_v)), (8, .d (.lit (.int .i64 s1.1)))]) (fun (s1 : Int × (List bB)) => [.arr data_0_v 114 4 (s1.2.map bM)]) (fun (k : Nat) (s1 : Int × (List bB)) => cJ a_1 b_2 cmp_3 k s1.1 s1.2) (fun _ => rfl) (w64 (a_1 + 1), data_0) h (aY [0] rfl rfl (aO rfl (aO rfl (aZ ⟨rfl, rfl, rfl, trivial⟩)))) ?_
 rintro k2 ⟨i_0_1, data_0_1⟩ h
 simp only [cJ] at h
 refine aG ?_
 refine aG ?_
 refine aE ?_
 refine tr1 rfl (aC (v := .d (.lit (.int .i64 i_0_1))) (aA rfl) rfl rfl) ?_
 refine tr1 rfl (aC (v := .d (.lit (.int .i64 b_2))) (aA rfl) rfl rfl) ?_
 refine tr1 rfl (bC (aA rfl) rfl rfl rfl) ?_
 refine aF ?_
 refine bN rfl (fun c3 => ?_) (fun c3 => ?_)
 ·have h := aR c3 h
  refine bH ?_
  refine aG ?_
  refine bT ?_
  refine aG ?_
  refine aE ?_
  refine tr1 rfl (aC (v := .d (.lit (.int .i64 i_0_1))) (aA rfl) rfl rfl) ?_
  refine tr1 rfl (aJ (v := .d (.lit (.int .i64 i_0_1))) (aA rfl) rfl rfl) ?_
  refine aF ?_
  refine zE ?_
  refine cM [1, 2, 3, 8] (fun (s4 : Int × (List bB)) => [(0, .d (.lit data_0_v)), (9, .d (.lit (.int .i64 s4.1)))]) (fun (s4 : Int × (List bB)) => [.arr data_0_v 114 4 (s4.2.map bM)]) (fun (k : Nat) (s4 : Int × (List bB)) => cW (cJ a_1 b_2 cmp_3 k2) a_1 b_2 cmp_3 i_0_1 k s4.1 s4.2) (fun _ => rfl) (i_0_1, data_0_1) h (aY [0] rfl rfl (aO rfl (aO rfl (aZ ⟨rfl, rfl, rfl, rfl, trivial⟩)))) ?_
  rintro k5 ⟨j_2_4, data_2_4⟩ h
  simp only [cW] at h
  refine aG ?_
  refine aG ?_
  obtain ⟨b6, h7, h⟩ := bind_some h
  refine hH mix 17 [0, 1, 2, 3, 8, 9] [(34, .d (.lit (.bool b6)))] ?_ ?_
  ·refine bD (decide (a_1 < j_2_4)) (fun c8 => ?_) (fun c8 => ?_)
   ·have h7 := aR c8 h7
    obtain ⟨x9, h10, h7⟩ := bind_some h7
    obtain ⟨x11, h12, h7⟩ := bind_some h7
    obtain ⟨r13, h14, h7⟩ := bind_some h7
    have h7 := Option.some.inj h7
    subst h7
    refine ⟨[(18, 0, .d (.lit (.int .i64 j_2_4))), (19, 1, .d (.lit (.int .i64 a_1))), (20, 2, .d (.lit (.bool ((decide (a_1 < j_2_4)))))), (21, 3, .d (.lit (.bool ((decide (a_1 < j_2_4)))))), (22, 4, .fn cmp_3_f cmp_3_v), (23, 5, .d (.lit data_0_v)), (24, 6, .d (.lit (.int .i64 j_2_4))), (25, 7, .ep data_0_v 4 j_2_4.toNat 0), (26, 8, .agg (bM x9)), (27, 9, .d (.lit data_0_v)), (28, 10, .d (.lit (.int .i64 j_2_4))), (29, 11, .d (.lit (.int .i64 ((w64 (j_2_4 - 1)))))), (30, 12, .ep data_0_v 4 (w64 (j_2_4 - 1)).toNat 0), (31, 13, .agg (bM x11)), (32, 14, .d (.lit (.int .i64 r13))), (33, 15, .d (.lit (.bool ((decide (r13 < 0)))))), (34, 16, .d (.lit (.bool ((decide (r13 < 0))))))], ?_, ?_⟩
    · exact ⟨by kernel_rfl, by kernel_rfl, by kernel_rfl, by kernel_rfl, by kernel_rfl, [([], []), ([], []), ([0, 1], []), ([2], []), ([3], []), ([3], []), ([3], []), ([3, 5, 6], []), ([3, 7], []), ([3], []), ([3], []), ([3, 10], []), ([3, 9, 11], []), ([3, 12], []), ([3, 4, 8, 13], []), ([3, 14], []), ([3, 15], [])], by kernel_rfl, ⟨fun S hS => aK rfl (aS rfl (aC (v := .d (.lit (.int .i64 j_2_4))) (aA rfl) (aH hS rfl) rfl)),
      fun S hS => aK rfl (aS rfl (aC (v := .d (.lit (.int .i64 a_1))) (aA rfl) (aH hS rfl) rfl)),
      fun S hS => aK rfl (aS rfl (bC (aA rfl) (aH hS rfl) (aH hS rfl) rfl)),
      fun S hS => aK rfl (aS rfl (aC (v := .d (.lit (.bool ((decide (a_1 < j_2_4)))))) (aA rfl) (aH hS rfl) rfl)),
      fun S hS => aK rfl (bK rfl rfl (aA rfl) (aV hS rfl) c8 (aC (v := .fn cmp_3_f cmp_3_v) (aA rfl) (aH hS rfl) rfl)),
      fun S hS => aK rfl (bK rfl rfl (aA rfl) (aV hS rfl) c8 (aC (v := .d (.lit data_0_v)) (aA rfl) (aH hS rfl) rfl)),
      fun S hS => aK rfl (bK rfl rfl (aA rfl) (aV hS rfl) c8 (aC (v := .d (.lit (.int .i64 j_2_4))) (aA rfl) (aH hS rfl) rfl)),
      fun S hS => aK rfl (bK rfl rfl (aA rfl) (aV hS rfl) c8 (cC (m := 0) (aA rfl) (aH hS rfl) rfl (aH hS rfl) pK.of (bP bM h10))),
      fun S hS => aK rfl (bK rfl rfl (aA rfl) (aV hS rfl) c8 (dG (aA rfl) (aH hS rfl) (l := 0) rfl (dX bM h10) tY (es := (bM x9)) rfl rfl)),
      fun S hS => aK rfl (bK rfl rfl (aA rfl) (aV hS rfl) c8 (aC (v := .d (.lit data_0_v)) (aA rfl) (aH hS rfl) rfl)),
      fun S hS => aK rfl (bK rfl rfl (aA rfl) (aV hS rfl) c8 (aC (v := .d (.lit (.int .i64 j_2_4))) (aA rfl) (aH hS rfl) rfl)),
      fun S hS => aK rfl (bK rfl rfl (aA rfl) (aV hS rfl) c8 (bA (aA rfl) (aH hS rfl) rfl rfl)),
      fun S hS => aK rfl (bK rfl rfl (aA rfl) (aV hS rfl) c8 (cC (m := 0) (aA rfl) (aH hS rfl) rfl (aH hS rfl) pK.of (bP bM h12))),
      fun S hS => aK rfl (bK rfl rfl (aA rfl) (aV hS rfl) c8 (dG (aA rfl) (aH hS rfl) (l := 0) rfl (dX bM h12) tY (es := (bM x11)) rfl rfl)),
      fun S hS => aK rfl (bK rfl rfl (aA rfl) (aV hS rfl) c8 (bY (aA rfl) (.clo _ _ _ _ cmp_3_e (aV hS rfl)) (uI (ev2 (aH hS rfl) (ev2 (aH hS rfl) evn))) rfl (BVs.refl _ _) (cmp_3_h _ _ _  h14) rfl)),
      fun S hS => aK rfl (bK rfl rfl (aA rfl) (aV hS rfl) c8 (bC (aA rfl) (aH hS rfl) rfl rfl)),
      fun S hS => aK rfl (aS rfl (bJ (v := .d (.lit (.bool ((decide (r13 < 0)))))) (aA rfl) (aH hS rfl) c8 (aH hS rfl) rfl)), trivial⟩⟩
    · exact eJ (aO rfl (aZ ⟨rfl, rfl, rfl, rfl, rfl, rfl, trivial⟩))
   ·have h7 := aQ c8 h7
    have h7 := Option.some.inj h7
    subst h7
    refine ⟨[(18, 0, .d (.lit (.int .i64 j_2_4))), (19, 1, .d (.lit (.int .i64 a_1))), (20, 2, .d (.lit (.bool ((decide (a_1 < j_2_4)))))), (21, 3, .d (.lit (.bool ((decide (a_1 < j_2_4)))))), (22, 4, .tup []), (23, 5, .tup []), (24, 6, .tup []), (25, 7, .tup []), (26, 8, .tup []), (27, 9, .tup []), (28, 10, .tup []), (29, 11, .tup []), (30, 12, .tup []), (31, 13, .tup []), (32, 14, .tup []), (33, 15, .tup []), (34, 16, .d (.lit (.bool false)))], ?_, ?_⟩
    · exact ⟨by kernel_rfl, by kernel_rfl, by kernel_rfl, by kernel_rfl, by kernel_rfl, [([], []), ([], []), ([0, 1], []), ([2], []), ([3], []), ([3], []), ([3], []), ([3, 5, 6], []), ([3, 7], []), ([3], []), ([3], []), ([3, 10], []), ([3, 9, 11], []), ([3, 12], []), ([3, 4, 8, 13], []), ([3, 14], []), ([3, 15], [])], by kernel_rfl, ⟨fun S hS => aK rfl (aS rfl (aC (v := .d (.lit (.int .i64 j_2_4))) (aA rfl) (aH hS rfl) rfl)),
      fun S hS => aK rfl (aS rfl (aC (v := .d (.lit (.int .i64 a_1))) (aA rfl) (aH hS rfl) rfl)),
      fun S hS => aK rfl (aS rfl (bC (aA rfl) (aH hS rfl) (aH hS rfl) rfl)),
      fun S hS => aK rfl (aS rfl (aC (v := .d (.lit (.bool ((decide (a_1 < j_2_4)))))) (aA rfl) (aH hS rfl) rfl)),
      fun S hS => aK rfl (bF rfl rfl (aA rfl) rfl (aA rfl) (aV hS rfl) c8),
      fun S hS => aK rfl (bF rfl rfl (aA rfl) rfl (aA rfl) (aV hS rfl) c8),
      fun S hS => aK rfl (bF rfl rfl (aA rfl) rfl (aA rfl) (aV hS rfl) c8),
      fun S hS => aK rfl (bF rfl rfl (aA rfl) rfl (aA rfl) (aV hS rfl) c8),
      fun S hS => aK rfl (bF rfl rfl (aA rfl) rfl (aA rfl) (aV hS rfl) c8),
      fun S hS => aK rfl (bF rfl rfl (aA rfl) rfl (aA rfl) (aV hS rfl) c8),
      fun S hS => aK rfl (bF rfl rfl (aA rfl) rfl (aA rfl) (aV hS rfl) c8),
      fun S hS => aK rfl (bF rfl rfl (aA rfl) rfl (aA rfl) (aV hS rfl) c8),
      fun S hS => aK rfl (bF rfl rfl (aA rfl) rfl (aA rfl) (aV hS rfl) c8),
      fun S hS => aK rfl (bF rfl rfl (aA rfl) rfl (aA rfl) (aV hS rfl) c8),
      fun S hS => aK rfl (bF rfl rfl (aA rfl) rfl (aA rfl) (aV hS rfl) c8),
      fun S hS => aK rfl (bF rfl rfl (aA rfl) rfl (aA rfl) (aV hS rfl) c8),
      fun S hS => aK rfl (aS rfl (bI (v := .d (.lit (.bool false))) (aA rfl) (aH hS rfl) c8 rfl rfl)), trivial⟩⟩
    · exact eJ (aO rfl (aZ ⟨rfl, rfl, rfl, rfl, rfl, rfl, trivial⟩))
  ·refine aF ?_
   refine bN rfl (fun c15 => ?_) (fun c15 => ?_)
   ·have h := aR c15 h
    refine bH ?_
    refine aG ?_
    refine bT ?_
    obtain ⟨x17, h18, h⟩ := bind_some h
    obtain ⟨x19, h20, h⟩ := bind_some h
    obtain ⟨x21, h22, h⟩ := bind_some h
    refine nG mix 16 [0, 1, 2, 3, 8, 9] (fun X16 => [(39, .d (.lit data_0_v)), (41, .d (.lit (.int .i64 ((w64 (j_2_4 - 1)))))), (50, .agg (bM x19))]) (fun X16 => [.arr data_0_v 114 4 ((data_2_4.set j_2_4.toNat x17).map bM)]) ?_ ?_
    ·refine ⟨0, fun X16 => [(37, 0, .d (.lit data_0_v)), (38, 1, .d (.lit (.int .i64 j_2_4))), (39, 2, .d (.lit data_0_v)), (40, 3, .d (.lit (.int .i64 j_2_4))), (41, 4, .d (.lit (.int .i64 ((w64 (j_2_4 - 1)))))), (42, 5, .d (.lit data_0_v)), (43, 6, .d (.lit (.int .i64 j_2_4))), (44, 7, .d (.lit (.int .i64 ((w64 (j_2_4 - 1)))))), (45, 8, .ep data_0_v 4 (w64 (j_2_4 - 1)).toNat 0), (46, 9, .agg (bM x17)), (47, 10, .d (.lit data_0_v)), (48, 11, .d (.lit (.int .i64 j_2_4))), (49, 12, .ep data_0_v 4 j_2_4.toNat 0), (50, 13, .agg (bM x19)), (51, 14, .ep data_0_v 4 j_2_4.toNat 0)], fun X16 => [([(15, .arr data_0_v 114 4 ((data_2_4.set j_2_4.toNat x17).map bM))], .arr data_0_v 114 4 (data_2_4.map bM))], ?_, ?_⟩
     · exact ⟨by kernel_rfl, by kernel_rfl, by kernel_rfl, fun _ => by kernel_rfl, fun _ => by kernel_rfl, fun _ => by kernel_rfl, fun _ => rfl, [([], [15]), ([], [15]), ([], []), ([], []), ([3], []), ([], [15]), ([], [15]), ([6], [15]), ([5, 7], [15]), ([8], [15]), ([], [15]), ([], [15]), ([10, 11], [15]), ([12], [15]), ([0, 1], [15]), ([9, 14], [])], by kernel_rfl, ⟨fun X16 S hw hi hS => bO (X := X16) rfl (hw X16) rfl (aS rfl (aC (v := .d (.lit data_0_v)) (aA rfl) (aH hS rfl) rfl)),
      fun X16 S hw hi hS => bO (X := X16) rfl (hw X16) rfl (aS rfl (aC (v := .d (.lit (.int .i64 j_2_4))) (aA rfl) (aH hS rfl) rfl)),
      fun X16 S hw hi hS => bO (X := X16) rfl (hw X16) rfl (aS rfl (aC (v := .d (.lit data_0_v)) (aA rfl) (aH hS rfl) rfl)),
      fun X16 S hw hi hS => bO (X := X16) rfl (hw X16) rfl (aS rfl (aC (v := .d (.lit (.int .i64 j_2_4))) (aA rfl) (aH hS rfl) rfl)),
      fun X16 S hw hi hS => bO (X := X16) rfl (hw X16) rfl (aS rfl (bA (aA rfl) (aH hS rfl) rfl rfl)),
      fun X16 S hw hi hS => bO (X := X16) rfl (hw X16) rfl (aS rfl (aC (v := .d (.lit data_0_v)) (aA rfl) (aH hS rfl) rfl)),
      fun X16 S hw hi hS => bO (X := X16) rfl (hw X16) rfl (aS rfl (aC (v := .d (.lit (.int .i64 j_2_4))) (aA rfl) (aH hS rfl) rfl)),
      fun X16 S hw hi hS => bO (X := X16) rfl (hw X16) rfl (aS rfl (bA (aA rfl) (aH hS rfl) rfl rfl)),
      fun X16 S hw hi hS => bO (X := X16) rfl (hw X16) rfl (aS rfl (cC (m := 0) (aA rfl) (aH hS rfl) (og hS rfl rfl) (aH hS rfl) pK.of (bP bM h18))),
      fun X16 S hw hi hS => bO (X := X16) rfl (hw X16) rfl (aS rfl (dG (aA rfl) (aH hS rfl) (l := 0) (og hS rfl rfl) (dX bM h18) tY (es := (bM x17)) rfl rfl)),
      fun X16 S hw hi hS => bO (X := X16) rfl (hw X16) rfl (aS rfl (aC (v := .d (.lit data_0_v)) (aA rfl) (aH hS rfl) rfl)),
      fun X16 S hw hi hS => bO (X := X16) rfl (hw X16) rfl (aS rfl (aC (v := .d (.lit (.int .i64 j_2_4))) (aA rfl) (aH hS rfl) rfl)),
      fun X16 S hw hi hS => bO (X := X16) rfl (hw X16) rfl (aS rfl (cC (m := 0) (aA rfl) (aH hS rfl) (og hS rfl rfl) (aH hS rfl) pK.of (bP bM h20))),
      fun X16 S hw hi hS => bO (X := X16) rfl (hw X16) rfl (aS rfl (dG (aA rfl) (aH hS rfl) (l := 0) (og hS rfl rfl) (dX bM h20) tY (es := (bM x19)) rfl rfl)),
      fun X16 S hw hi hS => bO (X := X16) rfl (hw X16) rfl (aS rfl (cC (m := 0) (aA rfl) (aH hS rfl) (og hS rfl rfl) (aH hS rfl) pK.of (bP bM h22))),
      fun X16 S hw hi hS => rJ (X := X16) hS rfl rfl rfl (p := 0) rfl rfl (aS rfl (iT (l := 0) (aH hS rfl) (og hS rfl rfl) (dX bM h22) (aH hS rfl) rfl rfl Try.sizeOf114 rfl (aA rfl) (Nat.le_of_ble_eq_true rfl) (rows' := ((data_2_4.set j_2_4.toNat x17)).map bM) (mH _ _ _ _ rfl))), trivial⟩⟩
     · exact fun X16 => eJ (aO rfl (aO rfl (aO rfl (aZ ⟨rfl, rfl, rfl, rfl, rfl, rfl, trivial⟩))))
    ·intro X16
     obtain ⟨x23, h24, h⟩ := bind_some h
     refine tr1 rfl (cC (m := 0) (aA rfl) rfl rfl rfl pK.of (bP bM h24)) ?_
     refine tr1 rfl (iT (l := 0) rfl rfl (dX bM h24) rfl rfl rfl Try.sizeOf114 rfl (aA rfl) (Nat.le_of_ble_eq_true rfl) (rows' := (((data_2_4.set j_2_4.toNat x17).set (w64 (j_2_4 - 1)).toNat x19)).map bM) (mH _ _ _ _ rfl)) ?_
     refine eH ?_
     refine aE ?_
     refine tr1 rfl (aC (v := .d (.lit (.int .i64 j_2_4))) (aA rfl) rfl rfl) ?_
     refine tr1 rfl (bA (aA rfl) rfl rfl rfl) ?_
     refine tr1 rfl (aJ (v := .d (.lit (.int .i64 ((w64 (j_2_4 - 1)))))) (aA rfl) rfl rfl) ?_
     refine aF ?_
     exact ⟨(w64 (j_2_4 - 1), ((data_2_4.set j_2_4.toNat x17).set (w64 (j_2_4 - 1)).toNat x19)), h, aY [0] rfl rfl (aO rfl (aO rfl (aZ ⟨rfl, rfl, rfl, rfl, trivial⟩)))⟩
   ·have h := aQ c15 h
    refine cX ?_
    refine .inl ⟨rfl, ?_⟩
    simp only [fG] at h
    simp only [fF] at h
    refine aE ?_
    refine tr1 rfl (aC (v := .d (.lit (.int .i64 i_0_1))) (aA rfl) rfl rfl) ?_
    refine tr1 rfl (bA (aA rfl) rfl rfl rfl) ?_
    refine tr1 rfl (aJ (v := .d (.lit (.int .i64 ((w64 (i_0_1 + 1)))))) (aA rfl) rfl rfl) ?_
    refine aF ?_
    exact ⟨(w64 (i_0_1 + 1), data_2_4), h, aY [0] rfl rfl (aO rfl (aO rfl (aZ ⟨rfl, rfl, rfl, trivial⟩)))⟩
 ·have h := aQ c3 h
  refine cX ?_
  refine .inl ⟨rfl, ?_⟩
  simp only [fE] at h
  have h := Option.some.inj h
  subst h
  exact ⟨_, [.arr data_0_v 114 4 (data_0_1.map bM)], [], _, .none, .refl _, .same _, rfl, rfl⟩

theorem qM (data_0 : List bB) (a_1 : Int) (b_2 : Int) (limit_3 : Int) (cmp_4 : bB → bB → Option Int) {r : (List bB)} {data_0_v : Value} (cmp_4_f : Nat) (cmp_4_v : List AV) (cmp_4_e : ∀ args w, (callFunc cmp_4_f args).run Try.prog w = .ok (.enter cmp_4_f args) w) (cmp_4_h : ∀ (x0 : bB) (x1 : bB) r, cmp_4 x0 x1 = some r → Fn Try.prog cmp_4_f ([.agg (bM x0), .agg (bM x1)] ++ cmp_4_v) (.d (.lit (.int .i64 r)))) (h : gR data_0 a_1 b_2 limit_3 cmp_4 = some r) : fT Try.prog 103 [.d (.lit data_0_v), .d (.lit (.int .i64 a_1)), .d (.lit (.int .i64 b_2)), .d (.lit (.int .i64 limit_3)), .fn cmp_4_f cmp_4_v] [.arr data_0_v 114 4 (data_0.map bM)] (fun r' o' => r' = .tup [] ∧ o' = [.arr data_0_v 114 4 (r.map bM)]) := by
 unfold gR at h
 refine jF Try.func103 rfl (rs := []) Try.results103 Try.ntmps103 (Nat.le_of_ble_eq_true rfl) ?_
 refine aG ?_
 refine aE ?_
 refine tr1 rfl (aJ (v := .d (.lit (.bool true))) (aA rfl) rfl rfl) ?_
 refine aF ?_
 refine aG ?_
 refine aE ?_
 refine tr1 rfl (aJ (v := .d (.lit (.bool true))) (aA rfl) rfl rfl) ?_
 refine aF ?_
 refine bT ?_
 refine cM [4] (fun (s1 : Int × Int × Int × Bool × Bool × (List bB)) => [(0, .d (.lit data_0_v)), (1, .d (.lit (.int .i64 s1.1))), (2, .d (.lit (.int .i64 s1.2.1))), (3, .d (.lit (.int .i64 s1.2.2.1))), (10, .d (.lit (.bool s1.2.2.2.1))), (11, .d (.lit (.bool s1.2.2.2.2.1)))]) (fun (s1 : Int × Int × Int × Bool × Bool × (List bB)) => [.arr data_0_v 114 4 (s1.2.2.2.2.2.map bM)]) (fun (k : Nat) (s1 : Int × Int × Int × Bool × Bool × (List bB)) => gE cmp_4 k s1.1 s1.2.1 s1.2.2.1 s1.2.2.2.1 s1.2.2.2.2.1 s1.2.2.2.2.2) (fun _ => rfl) (a_1, b_2, limit_3, true, true, data_0) h (aY [0] rfl rfl (aO rfl (aO rfl (aO rfl (aO rfl (aO rfl (aO rfl (aZ ⟨rfl, trivial⟩)))))))) ?_
 rintro k2 ⟨a_0_1, b_0_1, limit_0_1, wasBalanced_0_1, wasPartitioned_0_1, data_0_1⟩ h
 simp only [gE] at h
 refine bT ?_
 refine aG ?_
 refine aE ?_
 refine tr1 rfl (aC (v := .d (.lit (.int .i64 b_0_1))) (aA rfl) rfl rfl) ?_
 refine tr1 rfl (aC (v := .d (.lit (.int .i64 a_0_1))) (aA rfl) rfl rfl) ?_
 refine tr1 rfl (bA (aA rfl) rfl rfl rfl) ?_
 refine tr1 rfl (aJ (v := .d (.lit (.int .i64 ((w64 (b_0_1 - a_0_1)))))) (aA rfl) rfl rfl) ?_
 refine aF ?_
 refine aG ?_
 refine aG ?_
 refine aE ?_
 refine tr1 rfl (aC (v := .d (.lit (.int .i64 ((w64 (b_0_1 - a_0_1)))))) (aA rfl) rfl rfl) ?_
 refine tr1 rfl (bC (aA rfl) rfl rfl rfl) ?_
 refine aF ?_
 refine bN rfl (fun c3 => ?_) (fun c3 => ?_)
 ·have h := aR c3 h
  refine aG ?_
  refine aE ?_
  refine tr1 rfl (aC (v := .d (.lit data_0_v)) (aA rfl) rfl rfl) ?_
  refine tr1 rfl (aC (v := .d (.lit (.int .i64 a_0_1))) (aA rfl) rfl rfl) ?_
  refine tr1 rfl (aC (v := .d (.lit (.int .i64 b_0_1))) (aA rfl) rfl rfl) ?_
  refine tr1 rfl (aC (v := .fn cmp_4_f cmp_4_v) (aA rfl) rfl rfl) ?_
  obtain ⟨r4, h5, h⟩ := bind_some h
  refine bR rfl (dP (passed := [.arr data_0_v 114 4 (data_0_1.map bM)]) (aA rfl) rfl (.func _ _ Try.call118) rfl rfl (oK data_0_1 a_0_1 b_0_1 cmp_4 cmp_4_f cmp_4_v cmp_4_e cmp_4_h h5)) ?_
  rintro _ ⟨_, _, ⟨rfl, rfl⟩, rfl⟩
  refine aF ?_
  have h := Option.some.inj h
  subst h
  exact bL ⟨rfl, _, [.arr data_0_v 114 4 (r4.map bM)], [], _, .none, .refl _, .same _, rfl, rfl⟩
 ·have h := aQ c3 h
  refine bH ?_
  refine aG ?_
  refine aG ?_
  cases h

theorem tH (x_0 : List bB) (cmp_1 : bB → bB → Option Int) {r : (List bB)} {x_0_v : Value} (cmp_1_f : Nat) (cmp_1_v : List AV) (cmp_1_e : ∀ args w, (callFunc cmp_1_f args).run Try.prog w = .ok (.enter cmp_1_f args) w) (cmp_1_h : ∀ (x0 : bB) (x1 : bB) r, cmp_1 x0 x1 = some r → Fn Try.prog cmp_1_f ([.agg (bM x0), .agg (bM x1)] ++ cmp_1_v) (.d (.lit (.int .i64 r)))) (h : hZ x_0 cmp_1 = some r) : fT Try.prog 87 [.d (.lit x_0_v), .fn cmp_1_f cmp_1_v] [.arr x_0_v 114 4 (x_0.map bM)] (fun r' o' => r' = .tup [] ∧ o' = [.arr x_0_v 114 4 (r.map bM)]) := by
 unfold hZ at h
 refine jF Try.func87 rfl (rs := []) Try.results87 Try.ntmps87 (Nat.le_of_ble_eq_true rfl) ?_
 refine aG ?_
 refine aE ?_
 refine tr1 rfl (aC (v := .d (.lit x_0_v)) (aA rfl) rfl rfl) ?_
 refine tr1 rfl (mA (m := 0) (aA rfl) rfl rfl pK.of) ?_
 refine tr1 rfl (aJ (v := .d (.lit (.int .i64 ((x_0.length : Int))))) (aA rfl) rfl rfl) ?_
 refine aF ?_
 refine aE ?_
 refine tr1 rfl (aC (v := .d (.lit x_0_v)) (aA rfl) rfl rfl) ?_
 refine tr1 rfl (aC (v := .d (.lit (.int .i64 ((x_0.length : Int))))) (aA rfl) rfl rfl) ?_
 refine tr1 rfl (aC (v := .d (.lit (.int .i64 ((x_0.length : Int))))) (aA rfl) rfl rfl) ?_
 refine tr1 rfl (pJ (aA rfl) rfl Try.runUnderlying3 Try.runUnderlying127) ?_
 obtain ⟨r1, h2, h⟩ := bind_some h
 refine tr1 rfl (bY (aA rfl) (.func _ _ Try.call101) rfl rfl (BVs.refl _ _) (aAu _ h2) rfl) ?_
 refine tr1 rfl (aC (v := .fn cmp_1_f cmp_1_v) (aA rfl) rfl rfl) ?_
 obtain ⟨r3, h4, h⟩ := bind_some h
 refine bR rfl (dP (passed := [.arr x_0_v 114 4 (x_0.map bM)]) (aA rfl) rfl (.func _ _ Try.call103) rfl rfl (qM x_0 0 (x_0.length : Int) r1 cmp_1 cmp_1_f cmp_1_v cmp_1_e cmp_1_h h4)) ?_
 rintro _ ⟨_, _, ⟨rfl, rfl⟩, rfl⟩
 refine aF ?_
 have h := Option.some.inj h
 subst h
 exact ⟨_, [.arr x_0_v 114 4 (r3.map bM)], [], _, .none, .refl _, .same _, rfl, rfl⟩

theorem xM (x_0 : bB) (y_1 : bB) {r : Int} (h : kF x_0 y_1 = some r) : Fn Try.prog 88 [.agg (bM x_0), .agg (bM y_1)] (.d (.lit (.int .i64 r))) := by
 unfold kF at h
 refine Fn.of_tr Try.func88 rfl (rs := [.tmp 4]) Try.results88 Try.ntmps88 (Nat.le_of_ble_eq_true rfl) ?_
 refine aG ?_
 refine aE ?_
 refine bR rfl (fK (v := .agg (bM x_0)) (aA rfl) rfl rfl rfl) ?_
 rintro _ ⟨b1, rfl⟩
 refine bR rfl (fK (v := .agg (bM y_1)) (aA rfl) rfl rfl rfl) ?_
 rintro _ ⟨b2, rfl⟩
 refine tr1 rfl (aJ (v := .d (.lit (.int .i64 0))) (aA rfl) rfl rfl) ?_
 refine aF ?_
 refine aG ?_
 refine aE ?_
 refine tr1 rfl (aP (aA rfl) rfl aCc) ?_
 refine tr1 rfl (aT (aA rfl) rfl (i := 1) rfl rfl bG) ?_
 refine tr1 rfl (aP (aA rfl) rfl aCc) ?_
 refine tr1 rfl (aT (aA rfl) rfl (i := 0) rfl rfl bG) ?_
 refine tr1 rfl (bA (aA rfl) rfl rfl rfl) ?_
 refine tr1 rfl (aP (aA rfl) rfl vG) ?_
 refine tr1 rfl (aT (aA rfl) rfl (i := 1) rfl rfl bG) ?_
 refine tr1 rfl (aP (aA rfl) rfl vG) ?_
 refine tr1 rfl (aT (aA rfl) rfl (i := 0) rfl rfl bG) ?_
 refine tr1 rfl (bA (aA rfl) rfl rfl rfl) ?_
 refine tr1 rfl (aP (aA rfl) rfl aCd) ?_
 refine tr1 rfl (aT (aA rfl) rfl (i := 0) rfl rfl bG) ?_
 refine tr1 rfl (aP (aA rfl) rfl aCd) ?_
 refine tr1 rfl (aT (aA rfl) rfl (i := 1) rfl rfl bG) ?_
 refine tr1 rfl (bA (aA rfl) rfl rfl rfl) ?_
 refine tr1 rfl (aP (aA rfl) rfl xZ) ?_
 refine tr1 rfl (aT (aA rfl) rfl (i := 0) rfl rfl bG) ?_
 refine tr1 rfl (aP (aA rfl) rfl xZ) ?_
 refine tr1 rfl (aT (aA rfl) rfl (i := 1) rfl rfl bG) ?_
 refine tr1 rfl (bA (aA rfl) rfl rfl rfl) ?_
 refine tr1 rfl (jU (aA rfl) eF rfl rfl (rows := ([w64 (y_1.points - x_0.points), w64 (y_1.musts - x_0.musts), w64 (x_0.many - y_1.many), w64 (x_0.player - y_1.player)]).map cK) rfl (dE (f := cK) fun _ => rfl) rfl (by decide)) ?_
 obtain ⟨r3, h4, h⟩ := bind_some h
 refine tr1 rfl (bY (aA rfl) (.func _ _ Try.call99) rfl rfl (BVs.refl _ _) (xT _ h4) rfl) ?_
 refine tr1 rfl (aJ (v := .d (.lit (.int .i64 r3))) (aA rfl) rfl rfl) ?_
 refine aF ?_
 have h := Option.some.inj h
 subst h
 refine cR (cG (cL (l := [4]) ⟨rfl, trivial⟩)) ?_
 exact bL ⟨rfl, _, .one _, rfl, rfl⟩

theorem uS (b_0 : bW) (week_1 : Int) {r : (List Int)} (h : gG b_0 week_1 = some r) : Fn Try.prog 59 [.cp (cE b_0), .d (.lit (.int .i64 week_1))] (.d (.sl 1 (r.map cK))) := by
 unfold gG at h
 refine Fn.of_tr Try.func59 rfl (rs := [.tmp 4]) Try.results59 Try.ntmps59 (Nat.le_of_ble_eq_true rfl) ?_
 refine aG ?_
 refine aE ?_
 refine tr1 rfl (xA 1 (aA rfl)) ?_
 refine aF ?_
 refine aG ?_
 refine aE ?_
 refine tr1 rfl (kJ 114 4 (.inl rfl) (aA rfl)) ?_
 refine aF ?_
 refine aG ?_
 refine aG ?_
 refine aE ?_
 refine tr1 rfl (aC (v := .cp [.lit (.int .i64 b_0.Ledger.Players), .lit (.int .i64 b_0.Ledger.Counts), .sl 5 (b_0.Ledger.Reports.map aD), .sl 3 (b_0.Ledger.Bans.map aI), .sl 3 (b_0.Ledger.Frozen.map aI)]) (aA rfl) rfl rfl) ?_
 refine tr1 rfl (pW (aA rfl) rfl) ?_
 refine tr1 rfl (cQ (aA rfl) rfl iU (es := [.lit (.int .i64 b_0.Ledger.Players), .lit (.int .i64 b_0.Ledger.Counts), .sl 5 (b_0.Ledger.Reports.map aD), .sl 3 (b_0.Ledger.Bans.map aI), .sl 3 (b_0.Ledger.Frozen.map aI)]) rfl) ?_
 refine tr1 rfl (cQ (aA rfl) rfl gZ (es := [.lit (.int .i64 b_0.Ledger.Players)]) rfl) ?_
 refine tr1 rfl (cI (aA rfl) rfl bG) ?_
 refine tr1 rfl (aC (v := .d (.lit (.int .i64 0))) (aA rfl) rfl rfl) ?_
 refine aF ?_
 refine bT ?_
 refine cM [0, 1, 18] (fun (s2 : Int × (List bB) × Value) => [(5, .d (.lit s2.2.2)), (19, .d (.lit (.int .i64 s2.1)))]) (fun (s2 : Int × (List bB) × Value) => [.arr s2.2.2 114 4 (s2.2.1.map bM)]) (fun (k : Nat) (s2 : Int × (List bB) × Value) => fB b_0 week_1 b_0.Ledger.Players k s2.1 s2.2.1) (fun _ => rfl) (0, ([] : List bB), (.slice none 0 0)) h (aY [0] rfl rfl (aO rfl (aO rfl (aZ ⟨rfl, rfl, rfl, trivial⟩)))) ?_
 rintro k4 ⟨t19_0_2, lines_0_2, w3⟩ h
 simp only [fB] at h
 refine aG ?_
 refine aE ?_
 refine tr1 rfl (bC (aA rfl) rfl rfl rfl) ?_
 refine aF ?_
 refine aG ?_
 refine bN rfl (fun c5 => ?_) (fun c5 => ?_)
 ·have h := aR c5 h
  refine bH ?_
  refine aG ?_
  refine bT ?_
  refine aG ?_
  refine aE ?_
  refine tr1 rfl (aC (v := .d (.lit (.int .i64 t19_0_2))) (aA rfl) rfl rfl) ?_
  refine tr1 rfl (aJ (v := .d (.lit (.int .i64 t19_0_2))) (aA rfl) rfl rfl) ?_
  refine aF ?_
  refine aG ?_
  refine aE ?_
  refine tr1 rfl (aC (v := .cp [.lit (.int .i64 b_0.Ledger.Players), .lit (.int .i64 b_0.Ledger.Counts), .sl 5 (b_0.Ledger.Reports.map aD), .sl 3 (b_0.Ledger.Bans.map aI), .sl 3 (b_0.Ledger.Frozen.map aI)]) (aA rfl) rfl rfl) ?_
  refine tr1 rfl (aC (v := .d (.lit (.int .i64 t19_0_2))) (aA rfl) rfl rfl) ?_
  refine tr1 rfl (aC (v := .d (.lit (.int .i64 week_1))) (aA rfl) rfl rfl) ?_
  obtain ⟨r6, h7, h⟩ := bind_some h
  refine tr1 rfl (nY (aA rfl) (.func _ _ Try.call72) rfl rfl (tP _ _ _ h7)) ?_
  refine tr1 rfl (aJ (v := .d (.sl 5 (r6.map aD))) (aA rfl) rfl rfl) ?_
  refine aF ?_
  refine aG ?_
  refine aG ?_
  refine aE ?_
  refine tr1 rfl (aC (v := .cp [.lit (.int .i64 b_0.Ledger.Players), .lit (.int .i64 b_0.Ledger.Counts), .sl 5 (b_0.Ledger.Reports.map aD), .sl 3 (b_0.Ledger.Bans.map aI), .sl 3 (b_0.Ledger.Frozen.map aI)]) (aA rfl) rfl rfl) ?_
  refine tr1 rfl (pW (aA rfl) rfl) ?_
  refine tr1 rfl (cQ (aA rfl) rfl iU (es := [.lit (.int .i64 b_0.Ledger.Players), .lit (.int .i64 b_0.Ledger.Counts), .sl 5 (b_0.Ledger.Reports.map aD), .sl 3 (b_0.Ledger.Bans.map aI), .sl 3 (b_0.Ledger.Frozen.map aI)]) rfl) ?_
  refine tr1 rfl (cQ (aA rfl) rfl mL (es := [.sl 3 (b_0.Ledger.Bans.map aI)]) rfl) ?_
  refine tr1 rfl (cI (aA rfl) rfl jM) ?_
  refine tr1 rfl (aC (v := .d (.lit (.int .i64 t19_0_2))) (aA rfl) rfl rfl) ?_
  refine tr1 rfl (aC (v := .d (.lit (.int .i64 week_1))) (aA rfl) rfl rfl) ?_
  obtain ⟨r8, h9, h⟩ := bind_some h
  refine tr1 rfl (bY (aA rfl) (.func _ _ Try.call48) rfl rfl (BVs.refl _ _) (vX _ _ _ h9) rfl) ?_
  refine tr1 rfl (aC (v := .d (.lit (.bool r8))) (aA rfl) rfl rfl) ?_
  obtain ⟨b10, h11, h⟩ := bind_some h
  refine bQ 4 [0, 1, 5, 6, 7, 18, 19] 38 b10 ?_ ?_
  ·refine bD (r8) (fun c28 => ?_) (fun c28 => ?_)
   ·have h11 := aR c28 h11
    refine aN rfl rfl (aA rfl) rfl (aA rfl) rfl c28 ?_
    refine aN rfl rfl (aA rfl) rfl (aA rfl) rfl c28 ?_
    refine aN rfl rfl (aA rfl) rfl (aA rfl) rfl c28 ?_
    refine tr1 rfl (bJ (v := .d (.lit (.bool true))) (aA rfl) rfl c28 rfl rfl) ?_
    have h11 := Option.some.inj h11
    subst h11
    refine aF (aW rfl ⟨rfl, rfl, rfl, rfl, rfl, rfl, rfl, trivial⟩ rfl)
   ·have h11 := aQ c28 h11
    refine aL rfl rfl (aA rfl) rfl c28 (aC (v := .d (.sl 5 (r6.map aD))) (aA rfl) rfl rfl) ?_
    refine aL rfl rfl (aA rfl) rfl c28 (dM (aA rfl) rfl cA.of) ?_
    refine aL rfl rfl (aA rfl) rfl c28 (bC (aA rfl) rfl rfl rfl) ?_
    refine tr1 rfl (bI (v := .d (.lit (.bool ((decide ((r6.length : Int) = 0)))))) (aA rfl) rfl c28 rfl rfl) ?_
    have h11 := Option.some.inj h11
    subst h11
    refine aF (aW rfl ⟨rfl, rfl, rfl, rfl, rfl, rfl, rfl, trivial⟩ rfl)
  ·refine aF ?_
   refine bN rfl (fun c12 => ?_) (fun c12 => ?_)
   ·have h := aR c12 h
    refine cX ?_
    refine .inl ⟨rfl, ?_⟩
    simp only [kD] at h
    refine aE ?_
    refine tr1 rfl (bA (aA rfl) rfl rfl rfl) ?_
    refine tr1 rfl (aC (v := .d (.lit (.int .i64 ((w64 (t19_0_2 + 1)))))) (aA rfl) rfl rfl) ?_
    refine aF ?_
    exact ⟨(w64 (t19_0_2 + 1), lines_0_2, w3), h, aY [0] rfl rfl (aO rfl (aO rfl (aZ ⟨rfl, rfl, rfl, trivial⟩)))⟩
   ·have h := aQ c12 h
    refine bH ?_
    refine aG ?_
    refine aE ?_
    refine tr1 rfl (aC (v := .d (.lit (.int .i64 t19_0_2))) (aA rfl) rfl rfl) ?_
    refine tr1 rfl (aC (v := .cp [.lit (.int .i64 b_0.Ledger.Players), .lit (.int .i64 b_0.Ledger.Counts), .sl 5 (b_0.Ledger.Reports.map aD), .sl 3 (b_0.Ledger.Bans.map aI), .sl 3 (b_0.Ledger.Frozen.map aI)]) (aA rfl) rfl rfl) ?_
    refine tr1 rfl (aC (v := .d (.sl 5 (r6.map aD))) (aA rfl) rfl rfl) ?_
    obtain ⟨r13, h14, h⟩ := bind_some h
    refine tr1 rfl (nY (aA rfl) (.func _ _ Try.call71) rfl rfl (tR _ _ h14)) ?_
    obtain ⟨r15, h16, h⟩ := bind_some h
    refine tr1 rfl (bY (aA rfl) (.func _ _ Try.call86) rfl rfl (BVs.refl _ _) (aBb _ h16) rfl) ?_
    refine tr1 rfl (aC (v := .d (.sl 5 (r6.map aD))) (aA rfl) rfl rfl) ?_
    refine tr1 rfl (dM (aA rfl) rfl cA.of) ?_
    refine tr1 rfl (mG (aA rfl) aJj (zs := [.lit (.int .i64 0), .lit (.int .i64 0), .lit (.int .i64 0), .lit (.int .i64 0)]) rfl rfl rfl rfl (es := [.lit (.int .i64 t19_0_2), .lit (.int .i64 r15), .lit (.int .i64 0), .lit (.int .i64 ((r6.length : Int)))]) rfl) ?_
    refine bR rfl (fM (zs := [.lit (.int .i64 0), .lit (.int .i64 0), .lit (.int .i64 0), .lit (.int .i64 0)]) (aA rfl) Try.zeroValue114 rfl rfl) ?_
    rintro _ ⟨b17, rfl⟩
    refine tr1 rfl (bX (i := 1) rfl rfl rfl rfl rfl Try.sizeOf114 rfl (aA rfl) (Nat.le_of_ble_eq_true rfl) (ds' := (bM (bB.mk t19_0_2 r15 0 (r6.length : Int)))) rfl) ?_
    refine aF ?_
    refine aG ?_
    refine aG ?_
    refine aE ?_
    refine tr1 rfl (aC (v := .d (.sl 5 (r6.map aD))) (aA rfl) rfl rfl) ?_
    refine tr1 rfl (dM (aA rfl) rfl cA.of) ?_
    refine tr1 rfl (aC (v := .d (.lit (.int .i64 0))) (aA rfl) rfl rfl) ?_
    refine aF ?_
    refine bT ?_
    refine cM [0, 1, 5, 8, 18, 19, 47, 48] (fun (s18 : Int × bB) => [(49, .d (.lit (.int .i64 s18.1)))]) (fun (s18 : Int × bB) => [.arr w3 114 4 (lines_0_2.map bM), .box b17 0 (bM s18.2)]) (fun (k : Nat) (s18 : Int × bB) => gU (fB b_0 week_1 b_0.Ledger.Players k4) b_0 week_1 b_0.Ledger.Players t19_0_2 r6 (r6.length : Int) lines_0_2 k s18.1 s18.2) (fun _ => rfl) (0, (bB.mk t19_0_2 r15 0 (r6.length : Int))) h (aY [0, 1] rfl rfl (aO rfl (aZ ⟨rfl, rfl, rfl, rfl, rfl, rfl, rfl, rfl, trivial⟩))) ?_
    rintro k19 ⟨t49_2_18, x_2_18⟩ h
    simp only [gU] at h
    refine aG ?_
    refine aE ?_
    refine tr1 rfl (bC (aA rfl) rfl rfl rfl) ?_
    refine aF ?_
    refine aG ?_
    refine bN rfl (fun c20 => ?_) (fun c20 => ?_)
    ·have h := aR c20 h
     refine bH ?_
     refine aG ?_
     refine bT ?_
     refine aG ?_
     refine aE ?_
     obtain ⟨x21, h22, h⟩ := bind_some h
     refine tr1 rfl (cD (aA rfl) rfl rfl cA.of (bP aD h22)) ?_
     refine tr1 rfl (iS (aA rfl) rfl eI (es := (aD x21)) rfl rfl) ?_
     refine bR rfl (fM (zs := [.lit (.int .i64 0), .lit (.int .i64 0), .lit (.int .i64 0), .lit (.int .i64 0), .lit (.bool false)]) (aA rfl) Try.zeroValue42 rfl rfl) ?_
     rintro _ ⟨b23, rfl⟩
     refine tr1 rfl (bX (i := 2) rfl rfl rfl rfl rfl Try.sizeOf42 rfl (aA rfl) (Nat.le_of_ble_eq_true rfl) (ds' := (aD x21)) rfl) ?_
     refine aF ?_
     refine aG ?_
     refine aE ?_
     refine tr1 rfl (aP (aA rfl) rfl qZ) ?_
     refine tr1 rfl (aT (aA rfl) rfl (i := 2) rfl rfl sT) ?_
     refine aF ?_
     refine bN rfl (fun c24 => ?_) (fun c24 => ?_)
     ·have h := aR c24 h
      refine aE ?_
      refine tr1 rfl (aP (aA rfl) rfl vG) ?_
      refine tr1 rfl (aT (aA rfl) rfl (i := 1) rfl rfl bG) ?_
      refine tr1 rfl (aP (aA rfl) rfl sD) ?_
      refine tr1 rfl (aT (aA rfl) rfl (i := 2) rfl rfl bG) ?_
      refine tr1 rfl (bA (aA rfl) rfl rfl rfl) ?_
      refine tr1 rfl (aP (aA rfl) rfl vG) ?_
      refine tr1 rfl (bX (i := 1) rfl rfl rfl rfl rfl Try.sizeOf3 rfl (aA rfl) (Nat.le_of_ble_eq_true rfl) (ds' := (bM (bB.mk x_2_18.player x_2_18.points (w64 (x_2_18.musts + x21.Points)) x_2_18.many))) rfl) ?_
      refine eH ?_
      refine aE ?_
      refine tr1 rfl (bA (aA rfl) rfl rfl rfl) ?_
      refine tr1 rfl (aC (v := .d (.lit (.int .i64 ((w64 (t49_2_18 + 1)))))) (aA rfl) rfl rfl) ?_
      refine aF ?_
      exact ⟨(w64 (t49_2_18 + 1), (bB.mk x_2_18.player x_2_18.points (w64 (x_2_18.musts + x21.Points)) x_2_18.many)), h, aY [0, 1] rfl rfl (aO rfl (aZ ⟨rfl, rfl, rfl, rfl, rfl, rfl, rfl, rfl, trivial⟩))⟩
     ·have h := aQ c24 h
      refine eR ?_
      refine aE ?_
      refine tr1 rfl (bA (aA rfl) rfl rfl rfl) ?_
      refine tr1 rfl (aC (v := .d (.lit (.int .i64 ((w64 (t49_2_18 + 1)))))) (aA rfl) rfl rfl) ?_
      refine aF ?_
      exact ⟨(w64 (t49_2_18 + 1), x_2_18), h, aY [0, 1] rfl rfl (aO rfl (aZ ⟨rfl, rfl, rfl, rfl, rfl, rfl, rfl, rfl, trivial⟩))⟩
    ·have h := aQ c20 h
     refine cX ?_
     refine .inl ⟨rfl, ?_⟩
     simp only [nT] at h
     refine aE ?_
     refine tr1 rfl (aC (v := .d (.lit w3)) (aA rfl) rfl rfl) ?_
     refine tr1 rfl (cT (aA rfl) rfl (i := 1) rfl tY (es := (bM x_2_18)) rfl rfl) ?_
     refine tr1 rfl (jU (aA rfl) pK rfl rfl (rows := ([x_2_18]).map bM) rfl (dE (f := bM) fun _ => rfl) rfl (by decide)) ?_
     obtain ⟨x25, h26, h⟩ := bind_some h
     refine bR rfl (mD (i := 0) (aA rfl) pK rfl rfl rfl (fun _ => rfl) h26 rfl) ?_
     rintro _ ⟨v27, rfl⟩
     refine tr1 rfl (aJ (v := .d (.lit v27)) (aA rfl) rfl rfl) ?_
     refine eH ?_
     simp only [kD] at h
     refine aE ?_
     refine tr1 rfl (bA (aA rfl) rfl rfl rfl) ?_
     refine tr1 rfl (aC (v := .d (.lit (.int .i64 ((w64 (t19_0_2 + 1)))))) (aA rfl) rfl rfl) ?_
     refine aF ?_
     exact ⟨(w64 (t19_0_2 + 1), x25, v27), h, aY [0] rfl rfl (aO rfl (aO rfl (aZ ⟨rfl, rfl, rfl, trivial⟩)))⟩
 ·have h := aQ c5 h
  refine cX ?_
  refine .inl ⟨rfl, ?_⟩
  simp only [lX] at h
  refine aG ?_
  refine aE ?_
  refine tr1 rfl (aC (v := .d (.lit w3)) (aA rfl) rfl rfl) ?_
  obtain ⟨r31, h32, h⟩ := bind_some h
  refine bR rfl (dP (passed := [.arr w3 114 4 (lines_0_2.map bM)]) (aA rfl) rfl (.func _ _ Try.call87) rfl rfl (tH lines_0_2 (fun y29 y30 => kF y29 y30) 88 [] Try.call88 (fun _ _ _ h => xM _ _ h) h32)) ?_
  rintro _ ⟨_, _, ⟨rfl, rfl⟩, rfl⟩
  refine aF ?_
  refine aG ?_
  refine aE ?_
  refine tr1 rfl (kJ 3 1 (.inl rfl) (aA rfl)) ?_
  refine aF ?_
  refine aG ?_
  refine aG ?_
  refine aE ?_
  refine tr1 rfl (aC (v := .d (.lit w3)) (aA rfl) rfl rfl) ?_
  refine tr1 rfl (mA (m := 0) (aA rfl) rfl rfl pK.of) ?_
  refine tr1 rfl (aC (v := .d (.lit (.int .i64 0))) (aA rfl) rfl rfl) ?_
  refine aF ?_
  refine bT ?_
  refine cM [69, 70] (fun (s34 : Int × (List Int) × Value) => [(11, .d (.lit s34.2.2)), (71, .d (.lit (.int .i64 s34.1)))]) (fun (s34 : Int × (List Int) × Value) => [.arr w3 114 4 (r31.map bM), .arr s34.2.2 3 1 (s34.2.1.map cK)]) (fun (k : Nat) (s34 : Int × (List Int) × Value) => iV (r31.length : Int) r31 k s34.1 s34.2.1) (fun _ => rfl) (0, ([] : List Int), (.slice none 0 0)) h (aY [0, 1] rfl rfl (aO rfl (aO rfl (aZ ⟨rfl, rfl, trivial⟩)))) ?_
  rintro k36 ⟨t71_4_34, out_4_34, w35⟩ h
  simp only [iV] at h
  refine aG ?_
  refine aE ?_
  refine tr1 rfl (bC (aA rfl) rfl rfl rfl) ?_
  refine aF ?_
  refine aG ?_
  refine bN rfl (fun c37 => ?_) (fun c37 => ?_)
  ·have h := aR c37 h
   refine bH ?_
   refine aG ?_
   refine bT ?_
   refine aG ?_
   refine aE ?_
   obtain ⟨x38, h39, h⟩ := bind_some h
   refine tr1 rfl (cC (m := 0) (aA rfl) rfl rfl rfl pK.of (bP bM h39)) ?_
   refine tr1 rfl (dG (aA rfl) rfl (l := 0) rfl (dX bM h39) tY (es := (bM x38)) rfl rfl) ?_
   refine bR rfl (fM (zs := [.lit (.int .i64 0), .lit (.int .i64 0), .lit (.int .i64 0), .lit (.int .i64 0)]) (aA rfl) Try.zeroValue114 rfl rfl) ?_
   rintro _ ⟨b40, rfl⟩
   refine tr1 rfl (bX (i := 2) rfl rfl rfl rfl rfl Try.sizeOf114 rfl (aA rfl) (Nat.le_of_ble_eq_true rfl) (ds' := (bM x38)) rfl) ?_
   refine aF ?_
   refine aE ?_
   refine tr1 rfl (aC (v := .d (.lit w35)) (aA rfl) rfl rfl) ?_
   refine tr1 rfl (aP (aA rfl) rfl xZ) ?_
   refine tr1 rfl (aT (aA rfl) rfl (i := 2) rfl rfl bG) ?_
   refine tr1 rfl (jU (aA rfl) eF rfl rfl (rows := ([x38.player]).map cK) rfl (dE (f := cK) fun _ => rfl) rfl (by decide)) ?_
   obtain ⟨x41, h42, h⟩ := bind_some h
   refine bR rfl (mD (i := 1) (aA rfl) eF rfl rfl rfl (fun _ => rfl) h42 rfl) ?_
   rintro _ ⟨v43, rfl⟩
   refine tr1 rfl (aJ (v := .d (.lit v43)) (aA rfl) rfl rfl) ?_
   refine eH ?_
   refine aE ?_
   refine tr1 rfl (bA (aA rfl) rfl rfl rfl) ?_
   refine tr1 rfl (aC (v := .d (.lit (.int .i64 ((w64 (t71_4_34 + 1)))))) (aA rfl) rfl rfl) ?_
   refine aF ?_
   exact ⟨(w64 (t71_4_34 + 1), x41, v43), h, aY [0, 1] rfl rfl (aO rfl (aO rfl (aZ ⟨rfl, rfl, trivial⟩)))⟩
  ·have h := aQ c37 h
   refine cX ?_
   refine .inl ⟨rfl, ?_⟩
   simp only [qD] at h
   refine aG ?_
   refine aE ?_
   refine tr1 rfl (aC (v := .d (.lit w35)) (aA rfl) rfl rfl) ?_
   refine tr1 rfl (aJ (v := .d (.lit w35)) (aA rfl) rfl rfl) ?_
   refine aF ?_
   have h := Option.some.inj h
   subst h
   refine cR (cG (jZ (k := 4) (v := .d (.sl 1 (out_4_34.map cK))) (.d (jL 1 rfl (dE (f := cK) fun _ => rfl))) (aBl))) ?_
   exact bL ⟨rfl, _, .one _, rfl, rfl⟩

theorem aEn (l_0 : aM) (week_1 : Int) {r : (List Int) × Int} (h : yN l_0 week_1 = some r) : Fn Try.prog 27 [.agg (aU l_0), .d (.lit (.int .i64 week_1))] (.tup [.d (.sl 1 (r.1.map cK)), .d (.lit (.int .i64 r.2))]) := by
 unfold yN at h
 refine Fn.of_tr Try.func27 rfl (rs := [.tmp 4, .tmp 5]) Try.results27 Try.ntmps27 (Nat.le_of_ble_eq_true rfl) ?_
 refine aG ?_
 refine aE ?_
 refine bR rfl (fK (v := .agg (aU l_0)) (aA rfl) rfl rfl rfl) ?_
 rintro _ ⟨b1, rfl⟩
 refine tr1 rfl (xA 1 (aA rfl)) ?_
 refine tr1 rfl (aJ (v := .d (.lit (.int .i64 0))) (aA rfl) rfl rfl) ?_
 refine aF ?_
 refine aG ?_
 refine aE ?_
 refine tr1 rfl (cT (aA rfl) rfl (i := 0) rfl eQ (es := (aU l_0)) rfl rfl) ?_
 refine tr1 rfl (aC (v := .d (.lit (.int .i64 week_1))) (aA rfl) rfl rfl) ?_
 obtain ⟨r2, h3, h⟩ := bind_some h
 refine bR rfl (dP (passed := []) (aA rfl) rfl (.func _ _ Try.call44) rfl rfl (tV _ _ _ h3)) ?_
 rintro _ ⟨_, _, ⟨b5, w6, rfl, rfl⟩, rfl⟩
 obtain ⟨_ | y4, e7⟩ := r2
 ·have h := yJ h
  refine gI (aY [0] rfl rfl (le_refl _)) ?_
  refine tr1 rfl (aC (v := .tup [.d (.lit (.pointer none)), .d (.lit (.int .i64 e7))]) (aA rfl) rfl rfl) ?_
  refine tr1 rfl (cU (aA rfl) rfl rfl) ?_
  refine tr1 rfl (cU (aA rfl) rfl rfl) ?_
  refine tr1 rfl (aJ (v := .d (.lit (.pointer none))) (aA rfl) rfl rfl) ?_
  refine tr1 rfl (aJ (v := .d (.lit (.int .i64 e7))) (aA rfl) rfl rfl) ?_
  refine aF ?_
  refine aG ?_
  refine aG ?_
  refine aE ?_
  refine tr1 rfl (aC (v := .d (.lit (.int .i64 e7))) (aA rfl) rfl rfl) ?_
  refine tr1 rfl (bC (aA rfl) rfl rfl rfl) ?_
  refine aF ?_
  refine bN rfl (fun c8 => ?_) (fun c8 => ?_)
  ·have h := aR c8 h
   refine aG ?_
   refine aE ?_
   refine tr1 rfl (aC (v := .d (.lit (.int .i64 e7))) (aA rfl) rfl rfl) ?_
   refine tr1 rfl (xA 1 (aA rfl)) ?_
   refine tr1 rfl (aJ (v := .d (.lit (.int .i64 e7))) (aA rfl) rfl rfl) ?_
   refine aF ?_
   have h := Option.some.inj h
   subst h
   refine cR (cG (cL (l := [4, 5]) ⟨rfl, rfl, trivial⟩)) ?_
   exact bL ⟨rfl, _, .two _ _, rfl, rfl⟩
  ·have h := aQ c8 h
   refine bH ?_
   refine aG ?_
   refine aE ?_
   refine tr1 rfl (aC (v := .d (.lit (.pointer none))) (aA rfl) rfl rfl) ?_
   refine tr1 rfl (aC (v := .d (.lit (.int .i64 week_1))) (aA rfl) rfl rfl) ?_
   cases h
 ·have h := yK h
  refine gI (aY [0, 1, 2] rfl rfl (le_refl _)) ?_
  refine tr1 rfl (aC (v := .tup [.bp b5 0 0, .d (.lit (.int .i64 e7))]) (aA rfl) rfl rfl) ?_
  refine tr1 rfl (cU (aA rfl) rfl rfl) ?_
  refine tr1 rfl (cU (aA rfl) rfl rfl) ?_
  refine tr1 rfl (aJ (v := .bp b5 0 0) (aA rfl) rfl rfl) ?_
  refine tr1 rfl (aJ (v := .d (.lit (.int .i64 e7))) (aA rfl) rfl rfl) ?_
  refine aF ?_
  refine aG ?_
  refine aG ?_
  refine aE ?_
  refine tr1 rfl (aC (v := .d (.lit (.int .i64 e7))) (aA rfl) rfl rfl) ?_
  refine tr1 rfl (bC (aA rfl) rfl rfl rfl) ?_
  refine aF ?_
  refine bN rfl (fun c9 => ?_) (fun c9 => ?_)
  ·have h := aR c9 h
   refine aG ?_
   refine aE ?_
   refine tr1 rfl (aC (v := .d (.lit (.int .i64 e7))) (aA rfl) rfl rfl) ?_
   refine tr1 rfl (xA 1 (aA rfl)) ?_
   refine tr1 rfl (aJ (v := .d (.lit (.int .i64 e7))) (aA rfl) rfl rfl) ?_
   refine aF ?_
   have h := Option.some.inj h
   subst h
   refine cR (cG (cL (l := [4, 5]) ⟨rfl, rfl, trivial⟩)) ?_
   exact bL ⟨rfl, _, .two _ _, rfl, rfl⟩
  ·have h := aQ c9 h
   refine bH ?_
   refine aG ?_
   refine aE ?_
   refine tr1 rfl (aC (v := .bp b5 0 0) (aA rfl) rfl rfl) ?_
   refine tr1 rfl (aC (v := .d (.lit (.int .i64 week_1))) (aA rfl) rfl rfl) ?_
   refine gI (aY [2, 0, 1] rfl rfl (le_refl _)) ?_
   apply aFp [.box b1 0 (aU l_0)] [.box b5 0 [.lit (.int .i64 y4.Ledger.Players), .lit (.int .i64 y4.Ledger.Counts), .lit w6, .sl 3 (y4.Ledger.Bans.map aI), .sl 3 (y4.Ledger.Frozen.map aI)], .arr w6 42 5 (y4.Ledger.Reports.map aD)] rfl
   exact jZ (k := 17) (v := .cp [.lit (.int .i64 y4.Ledger.Players), .lit (.int .i64 y4.Ledger.Counts), .sl 5 (y4.Ledger.Reports.map aD), .sl 3 (y4.Ledger.Bans.map aI), .sl 3 (y4.Ledger.Frozen.map aI)]) ((pN 0 rfl rfl (dvc (.same _) (dvc (.same _) (dvc (jL 1 rfl (dE (f := aD) fun _ => rfl)) (dvc (.same _) (dvc (.same _) dvn))))))) (jZ (k := 12) (v := .cp [.lit (.int .i64 y4.Ledger.Players), .lit (.int .i64 y4.Ledger.Counts), .sl 5 (y4.Ledger.Reports.map aD), .sl 3 (y4.Ledger.Bans.map aI), .sl 3 (y4.Ledger.Frozen.map aI)]) ((pN 0 rfl rfl (dvc (.same _) (dvc (.same _) (dvc (jL 1 rfl (dE (f := aD) fun _ => rfl)) (dvc (.same _) (dvc (.same _) dvn))))))) (jZ (k := 11) (v := .any) (.any _) (jZ (k := 8) (v := .any) (.any _) (jZ (k := 6) (v := .cp [.lit (.int .i64 y4.Ledger.Players), .lit (.int .i64 y4.Ledger.Counts), .sl 5 (y4.Ledger.Reports.map aD), .sl 3 (y4.Ledger.Bans.map aI), .sl 3 (y4.Ledger.Frozen.map aI)]) ((pN 0 rfl rfl (dvc (.same _) (dvc (.same _) (dvc (jL 1 rfl (dE (f := aD) fun _ => rfl)) (dvc (.same _) (dvc (.same _) dvn))))))) (uE _ _)))))
   obtain ⟨r10, h11, h⟩ := bind_some h
   refine tr1 rfl (nY (aA rfl) (.func _ _ Try.call59) rfl rfl (uS _ _ h11)) ?_
   refine tr1 rfl (aJ (v := .d (.sl 1 (r10.map cK))) (aA rfl) rfl rfl) ?_
   refine tr1 rfl (aJ (v := .d (.lit (.int .i64 0))) (aA rfl) rfl rfl) ?_
   refine aF ?_
   have h := Option.some.inj h
   subst h
   refine cR (cG (cL (l := [4, 5]) ⟨rfl, rfl, trivial⟩)) ?_
   exact bL ⟨rfl, _, .two _ _, rfl, rfl⟩

theorem wA (s_0 : List Int) (f_1 : Int → Option Bool) {r : Int} (f_1_f : Nat) (f_1_v : List AV) (f_1_e : ∀ args w, (callFunc f_1_f args).run Try.prog w = .ok (.enter f_1_f args) w) (f_1_h : ∀ (x0 : Int) r, f_1 x0 = some r → Fn Try.prog f_1_f ([.d (.lit (.int .i64 x0))] ++ f_1_v) (.d (.lit (.bool r)))) (h : jV s_0 f_1 = some r) : Fn Try.prog 81 [.d (.sl 1 (s_0.map cK)), .fn f_1_f f_1_v] (.d (.lit (.int .i64 r))) := by
 unfold jV at h
 refine Fn.of_tr Try.func81 rfl (rs := [.tmp 4]) Try.results81 Try.ntmps81 (Nat.le_of_ble_eq_true rfl) ?_
 refine aG ?_
 refine aE ?_
 refine tr1 rfl (aJ (v := .d (.lit (.int .i64 0))) (aA rfl) rfl rfl) ?_
 refine aF ?_
 refine aG ?_
 refine aG ?_
 refine aE ?_
 refine tr1 rfl (aC (v := .d (.sl 1 (s_0.map cK))) (aA rfl) rfl rfl) ?_
 refine tr1 rfl (dM (aA rfl) rfl eF.of) ?_
 refine tr1 rfl (aC (v := .d (.lit (.int .i64 0))) (aA rfl) rfl rfl) ?_
 refine aF ?_
 refine bT ?_
 refine cM [0, 1, 7] (fun (s1 : Int) => [(8, .d (.lit (.int .i64 s1)))]) (fun (s1 : Int) => []) (fun (k : Nat) (s1 : Int) => fS s_0 f_1 (s_0.length : Int) k s1) (fun _ => rfl) (0) h (aY [] rfl rfl (aO rfl (aZ ⟨rfl, rfl, rfl, trivial⟩))) ?_
 rintro k2 t8_0_1 h
 simp only [fS] at h
 refine aG ?_
 refine aE ?_
 refine tr1 rfl (bC (aA rfl) rfl rfl rfl) ?_
 refine aF ?_
 refine aG ?_
 refine bN rfl (fun c3 => ?_) (fun c3 => ?_)
 ·have h := aR c3 h
  refine bH ?_
  refine aG ?_
  refine bT ?_
  refine aG ?_
  refine aE ?_
  refine tr1 rfl (aC (v := .d (.lit (.int .i64 t8_0_1))) (aA rfl) rfl rfl) ?_
  refine tr1 rfl (aJ (v := .d (.lit (.int .i64 t8_0_1))) (aA rfl) rfl rfl) ?_
  refine aF ?_
  refine aG ?_
  refine aE ?_
  refine tr1 rfl (aC (v := .fn f_1_f f_1_v) (aA rfl) rfl rfl) ?_
  refine tr1 rfl (aC (v := .d (.sl 1 (s_0.map cK))) (aA rfl) rfl rfl) ?_
  refine tr1 rfl (aC (v := .d (.lit (.int .i64 t8_0_1))) (aA rfl) rfl rfl) ?_
  obtain ⟨x4, h5, h⟩ := bind_some h
  refine tr1 rfl (cD (aA rfl) rfl rfl eF.of (bP cK h5)) ?_
  refine tr1 rfl (cI (aA rfl) rfl bG) ?_
  obtain ⟨r6, h7, h⟩ := bind_some h
  refine tr1 rfl (bY (aA rfl) (.clo _ _ _ _ f_1_e rfl) (uI rfl) rfl (BVs.refl _ _) (f_1_h _ _  h7) rfl) ?_
  refine aF ?_
  refine bN rfl (fun c8 => ?_) (fun c8 => ?_)
  ·have h := aR c8 h
   refine aG ?_
   refine aE ?_
   refine tr1 rfl (aC (v := .d (.lit (.int .i64 t8_0_1))) (aA rfl) rfl rfl) ?_
   refine tr1 rfl (aJ (v := .d (.lit (.int .i64 t8_0_1))) (aA rfl) rfl rfl) ?_
   refine aF ?_
   have h := Option.some.inj h
   subst h
   exact bL ⟨rfl, _, .one _, rfl, rfl⟩
  ·have h := aQ c8 h
   refine eR ?_
   refine aE ?_
   refine tr1 rfl (bA (aA rfl) rfl rfl rfl) ?_
   refine tr1 rfl (aC (v := .d (.lit (.int .i64 ((w64 (t8_0_1 + 1)))))) (aA rfl) rfl rfl) ?_
   refine aF ?_
   exact ⟨(w64 (t8_0_1 + 1)), h, aY [] rfl rfl (aO rfl (aZ ⟨rfl, rfl, rfl, trivial⟩))⟩
 ·have h := aQ c3 h
  refine cX ?_
  refine .inl ⟨rfl, ?_⟩
  simp only [mU] at h
  refine aG ?_
  refine aE ?_
  refine tr1 rfl (aJ (v := .d (.lit (.int .i64 (-1)))) (aA rfl) rfl rfl) ?_
  refine aF ?_
  have h := Option.some.inj h
  subst h
  exact bL ⟨rfl, _, .one _, rfl, rfl⟩

theorem oY (s_0 : List Int) (f_1 : Int → Option Bool) {r : Bool} (f_1_f : Nat) (f_1_v : List AV) (f_1_e : ∀ args w, (callFunc f_1_f args).run Try.prog w = .ok (.enter f_1_f args) w) (f_1_h : ∀ (x0 : Int) r, f_1 x0 = some r → Fn Try.prog f_1_f ([.d (.lit (.int .i64 x0))] ++ f_1_v) (.d (.lit (.bool r)))) (h : fR s_0 f_1 = some r) : Fn Try.prog 45 [.d (.sl 1 (s_0.map cK)), .fn f_1_f f_1_v] (.d (.lit (.bool r))) := by
 unfold fR at h
 refine Fn.of_tr Try.func45 rfl (rs := [.tmp 4]) Try.results45 Try.ntmps45 (Nat.le_of_ble_eq_true rfl) ?_
 refine aG ?_
 refine aE ?_
 refine tr1 rfl (aJ (v := .d (.lit (.bool false))) (aA rfl) rfl rfl) ?_
 refine aF ?_
 refine aG ?_
 refine aE ?_
 refine tr1 rfl (aC (v := .d (.sl 1 (s_0.map cK))) (aA rfl) rfl rfl) ?_
 refine tr1 rfl (aC (v := .fn f_1_f f_1_v) (aA rfl) rfl rfl) ?_
 obtain ⟨r1, h2, h⟩ := bind_some h
 refine tr1 rfl (bY (aA rfl) (.func _ _ Try.call81) rfl rfl (BVs.refl _ _) (wA _ _ f_1_f f_1_v f_1_e f_1_h h2) rfl) ?_
 refine tr1 rfl (bC (aA rfl) rfl rfl rfl) ?_
 refine tr1 rfl (aJ (v := .d (.lit (.bool ((decide (0 ≤ r1)))))) (aA rfl) rfl rfl) ?_
 refine aF ?_
 have h := Option.some.inj h
 subst h
 exact bL ⟨rfl, _, .one _, rfl, rfl⟩

theorem wK (n_0 : Int) {r : Bool} (h : mN n_0 = some r) : Fn Try.prog 46 [.d (.lit (.int .i64 n_0))] (.d (.lit (.bool r))) := by
 unfold mN at h
 refine Fn.of_tr Try.func46 rfl (rs := [.tmp 2]) Try.results46 Try.ntmps46 (Nat.le_of_ble_eq_true rfl) ?_
 refine aG ?_
 refine aE ?_
 refine tr1 rfl (aJ (v := .d (.lit (.bool false))) (aA rfl) rfl rfl) ?_
 refine aF ?_
 refine aG ?_
 refine aE ?_
 refine tr1 rfl (aC (v := .d (.lit (.int .i64 n_0))) (aA rfl) rfl rfl) ?_
 obtain ⟨r1, h2, h⟩ := bind_some h
 refine tr1 rfl (bY (aA rfl) (.func _ _ Try.call47) rfl rfl (BVs.refl _ _) (eW _ _ _ h2) rfl) ?_
 refine tr1 rfl (fD (aA rfl) rfl) ?_
 refine tr1 rfl (aJ (v := .d (.lit (.bool (!r1)))) (aA rfl) rfl rfl) ?_
 refine aF ?_
 have h := Option.some.inj h
 subst h
 exact bL ⟨rfl, _, .one _, rfl, rfl⟩

theorem yX (s_0 : List Int) (v_1 : Int) {r : Int} (h : mP s_0 v_1 = some r) : Fn Try.prog 85 [.d (.sl 1 (s_0.map cK)), .d (.lit (.int .i64 v_1))] (.d (.lit (.int .i64 r))) := by
 unfold mP at h
 refine Fn.of_tr Try.func85 rfl (rs := [.tmp 4]) Try.results85 Try.ntmps85 (Nat.le_of_ble_eq_true rfl) ?_
 refine aG ?_
 refine aE ?_
 refine tr1 rfl (aJ (v := .d (.lit (.int .i64 0))) (aA rfl) rfl rfl) ?_
 refine aF ?_
 refine aG ?_
 refine aG ?_
 refine aE ?_
 refine tr1 rfl (aC (v := .d (.sl 1 (s_0.map cK))) (aA rfl) rfl rfl) ?_
 refine tr1 rfl (dM (aA rfl) rfl eF.of) ?_
 refine tr1 rfl (aC (v := .d (.lit (.int .i64 0))) (aA rfl) rfl rfl) ?_
 refine aF ?_
 refine bT ?_
 refine cM [0, 1, 7] (fun (s1 : Int) => [(8, .d (.lit (.int .i64 s1)))]) (fun (s1 : Int) => []) (fun (k : Nat) (s1 : Int) => hG s_0 v_1 (s_0.length : Int) k s1) (fun _ => rfl) (0) h (aY [] rfl rfl (aO rfl (aZ ⟨rfl, rfl, rfl, trivial⟩))) ?_
 rintro k2 t8_0_1 h
 simp only [hG] at h
 refine aG ?_
 refine aE ?_
 refine tr1 rfl (bC (aA rfl) rfl rfl rfl) ?_
 refine aF ?_
 refine aG ?_
 refine bN rfl (fun c3 => ?_) (fun c3 => ?_)
 ·have h := aR c3 h
  refine bH ?_
  refine aG ?_
  refine bT ?_
  refine aG ?_
  refine aE ?_
  refine tr1 rfl (aC (v := .d (.lit (.int .i64 t8_0_1))) (aA rfl) rfl rfl) ?_
  refine tr1 rfl (aJ (v := .d (.lit (.int .i64 t8_0_1))) (aA rfl) rfl rfl) ?_
  refine aF ?_
  refine aG ?_
  refine aE ?_
  refine tr1 rfl (aC (v := .d (.lit (.int .i64 v_1))) (aA rfl) rfl rfl) ?_
  refine tr1 rfl (aC (v := .d (.sl 1 (s_0.map cK))) (aA rfl) rfl rfl) ?_
  refine tr1 rfl (aC (v := .d (.lit (.int .i64 t8_0_1))) (aA rfl) rfl rfl) ?_
  obtain ⟨x4, h5, h⟩ := bind_some h
  refine tr1 rfl (cD (aA rfl) rfl rfl eF.of (bP cK h5)) ?_
  refine tr1 rfl (cI (aA rfl) rfl bG) ?_
  refine tr1 rfl (bC (aA rfl) rfl rfl rfl) ?_
  refine aF ?_
  refine bN rfl (fun c6 => ?_) (fun c6 => ?_)
  ·have h := aR c6 h
   refine aG ?_
   refine aE ?_
   refine tr1 rfl (aC (v := .d (.lit (.int .i64 t8_0_1))) (aA rfl) rfl rfl) ?_
   refine tr1 rfl (aJ (v := .d (.lit (.int .i64 t8_0_1))) (aA rfl) rfl rfl) ?_
   refine aF ?_
   have h := Option.some.inj h
   subst h
   exact bL ⟨rfl, _, .one _, rfl, rfl⟩
  ·have h := aQ c6 h
   refine eR ?_
   refine aE ?_
   refine tr1 rfl (bA (aA rfl) rfl rfl rfl) ?_
   refine tr1 rfl (aC (v := .d (.lit (.int .i64 ((w64 (t8_0_1 + 1)))))) (aA rfl) rfl rfl) ?_
   refine aF ?_
   exact ⟨(w64 (t8_0_1 + 1)), h, aY [] rfl rfl (aO rfl (aZ ⟨rfl, rfl, rfl, trivial⟩))⟩
 ·have h := aQ c3 h
  refine cX ?_
  refine .inl ⟨rfl, ?_⟩
  simp only [oW] at h
  refine aG ?_
  refine aE ?_
  refine tr1 rfl (aJ (v := .d (.lit (.int .i64 (-1)))) (aA rfl) rfl rfl) ?_
  refine aF ?_
  have h := Option.some.inj h
  subst h
  exact bL ⟨rfl, _, .one _, rfl, rfl⟩

theorem tQ (b_0 : bW) (player_1 : Int) (week_2 : Int) {r : Int} (h : lR b_0 player_1 week_2 = some r) : Fn Try.prog 51 [.cp (cE b_0), .d (.lit (.int .i64 player_1)), .d (.lit (.int .i64 week_2))] (.d (.lit (.int .i64 r))) := by
 unfold lR at h
 refine Fn.of_tr Try.func51 rfl (rs := [.tmp 6]) Try.results51 Try.ntmps51 (Nat.le_of_ble_eq_true rfl) ?_
 refine aG ?_
 refine aE ?_
 refine tr1 rfl (aJ (v := .d (.lit (.int .i64 0))) (aA rfl) rfl rfl) ?_
 refine aF ?_
 refine aG ?_
 refine aE ?_
 refine tr1 rfl (aC (v := .cp [.lit (.int .i64 b_0.Ledger.Players), .lit (.int .i64 b_0.Ledger.Counts), .sl 5 (b_0.Ledger.Reports.map aD), .sl 3 (b_0.Ledger.Bans.map aI), .sl 3 (b_0.Ledger.Frozen.map aI)]) (aA rfl) rfl rfl) ?_
 refine tr1 rfl (aC (v := .d (.lit (.int .i64 week_2))) (aA rfl) rfl rfl) ?_
 obtain ⟨r1, h2, h⟩ := bind_some h
 refine tr1 rfl (nY (aA rfl) (.func _ _ Try.call59) rfl rfl (uS _ _ h2)) ?_
 refine tr1 rfl (aC (v := .d (.lit (.int .i64 player_1))) (aA rfl) rfl rfl) ?_
 obtain ⟨r3, h4, h⟩ := bind_some h
 refine tr1 rfl (bY (aA rfl) (.func _ _ Try.call85) rfl rfl (BVs.refl _ _) (yX _ _ h4) rfl) ?_
 refine tr1 rfl (bA (aA rfl) rfl rfl rfl) ?_
 refine tr1 rfl (aJ (v := .d (.lit (.int .i64 ((w64 (r3 + 1)))))) (aA rfl) rfl rfl) ?_
 refine aF ?_
 have h := Option.some.inj h
 subst h
 exact bL ⟨rfl, _, .one _, rfl, rfl⟩

theorem aBt (book : bW) (pl : Int) (wk : Int) (ms : Bool) (be : Int) (wo : Int) {r : Bool × Int × Int} {book_b book_o : Nat} {bb_b bb_o : Nat} {pl_b pl_o : Nat} {wk_b wk_o : Nat} {ms_b ms_o : Nat} {be_b be_o : Nat} {wo_b wo_o : Nat} (h : pF book pl wk ms be wo = some r) : fT Try.prog 50 [.bp bb_b bb_o 0, .bp pl_b pl_o 0, .bp wk_b wk_o 0, .bp ms_b ms_o 0, .bp be_b be_o 0, .bp wo_b wo_o 0] [.box book_b book_o (cE book), .box bb_b bb_o [gK book_b book_o 0], .box pl_b pl_o [.lit (.int .i64 pl)], .box wk_b wk_o [.lit (.int .i64 wk)], .box ms_b ms_o [.lit (.bool ms)], .box be_b be_o [.lit (.int .i64 be)], .box wo_b wo_o [.lit (.int .i64 wo)]] (fun r' o' => r' = .tup [] ∧ o' = [.box book_b book_o (cE book), .box bb_b bb_o [gK book_b book_o 0], .box pl_b pl_o [.lit (.int .i64 pl)], .box wk_b wk_o [.lit (.int .i64 wk)], .box ms_b ms_o [.lit (.bool r.1)], .box be_b be_o [.lit (.int .i64 r.2.1)], .box wo_b wo_o [.lit (.int .i64 r.2.2)]]) := by
 unfold pF at h
 refine jF Try.func50 rfl (rs := []) Try.results50 Try.ntmps50 (Nat.le_of_ble_eq_true rfl) ?_
 refine aG ?_
 refine aE ?_
 refine tr1 rfl (tF (i := 1) (aA rfl) rfl rfl rfl wJ) ?_
 refine tr1 rfl (aT (aA rfl) rfl (i := 2) rfl rfl bG) ?_
 refine tr1 rfl (aT (aA rfl) rfl (i := 3) rfl rfl bG) ?_
 obtain ⟨r1, h2, h⟩ := bind_some h
 refine tr1 rfl (bY (aA rfl) (.func _ _ Try.call51) rfl rfl (.cons ((pN 0 rfl rfl (dvc (.same _) (dvc (.same _) (dvc (.same _) (dvc (.same _) (dvc (.same _) dvn))))))) (.cons (.same _) (.cons (.same _) .nil))) (tQ _ _ _ h2) rfl) ?_
 refine tr1 rfl (aJ (v := .d (.lit (.int .i64 r1))) (aA rfl) rfl rfl) ?_
 refine aF ?_
 refine aG ?_
 refine aE ?_
 refine tr1 rfl (aT (aA rfl) rfl (i := 4) rfl rfl sT) ?_
 refine tr1 rfl (aC (v := .d (.lit (.bool ms))) (aA rfl) rfl rfl) ?_
 obtain ⟨b3, h4, h⟩ := bind_some h
 refine bQ 3 [3, 4, 5, 6] 15 b3 ?_ ?_
 ·refine bD (ms) (fun c6 => ?_) (fun c6 => ?_)
  ·have h4 := aR c6 h4
   refine aN rfl rfl (aA rfl) rfl (aA rfl) rfl c6 ?_
   refine aN rfl rfl (aA rfl) rfl (aA rfl) rfl c6 ?_
   refine tr1 rfl (bJ (v := .d (.lit (.bool true))) (aA rfl) rfl c6 rfl rfl) ?_
   have h4 := Option.some.inj h4
   subst h4
   refine aF (aW rfl ⟨rfl, rfl, rfl, rfl, trivial⟩ rfl)
  ·have h4 := aQ c6 h4
   refine aL rfl rfl (aA rfl) rfl c6 (aC (v := .d (.lit (.int .i64 r1))) (aA rfl) rfl rfl) ?_
   refine aL rfl rfl (aA rfl) rfl c6 (bC (aA rfl) rfl rfl rfl) ?_
   refine tr1 rfl (bI (v := .d (.lit (.bool ((decide (r1 = 0)))))) (aA rfl) rfl c6 rfl rfl) ?_
   have h4 := Option.some.inj h4
   subst h4
   refine aF (aW rfl ⟨rfl, rfl, rfl, rfl, trivial⟩ rfl)
 ·refine tr1 rfl (bX (i := 4) rfl rfl rfl rfl rfl Try.sizeOf4 rfl (aA rfl) (Nat.le_of_ble_eq_true rfl) (ds' := [.lit (.bool b3)]) rfl) ?_
  refine aF ?_
  refine nG mix 7 [5] (fun X5 => [(21, .d (.lit (.int .i64 ((max wo r1)))))]) (fun X5 => [.box book_b book_o (cE book), .box bb_b bb_o [gK book_b book_o 0], .box pl_b pl_o [.lit (.int .i64 pl)], .box wk_b wk_o [.lit (.int .i64 wk)], .box ms_b ms_o [.lit (.bool b3)], .box be_b be_o [.lit (.int .i64 ((min be r1)))], .box wo_b wo_o [.lit (.int .i64 wo)]]) ?_ ?_
  ·refine ⟨0, fun X5 => [(16, 0, .d (.lit (.int .i64 be))), (17, 1, .d (.lit (.int .i64 r1))), (18, 2, .d (.lit (.int .i64 ((min be r1))))), (19, 3, .d (.lit (.int .i64 wo))), (20, 4, .d (.lit (.int .i64 r1))), (21, 5, .d (.lit (.int .i64 ((max wo r1)))))], fun X5 => [([], .box book_b book_o (cE book)), ([], .box bb_b bb_o [gK book_b book_o 0]), ([], .box pl_b pl_o [.lit (.int .i64 pl)]), ([], .box wk_b wk_o [.lit (.int .i64 wk)]), ([], .box ms_b ms_o [.lit (.bool b3)]), ([(6, .box be_b be_o [.lit (.int .i64 ((min be r1)))])], .box be_b be_o [.lit (.int .i64 be)]), ([], .box wo_b wo_o [.lit (.int .i64 wo)])], ?_, ?_⟩
   · exact ⟨by kernel_rfl, by kernel_rfl, by kernel_rfl, fun _ => by kernel_rfl, fun _ => by kernel_rfl, fun _ => by kernel_rfl, fun _ => rfl, [([], [6]), ([], [6]), ([0, 1], [6]), ([], []), ([], []), ([3, 4], []), ([2], [])], by kernel_rfl, ⟨fun X5 S hw hi hS => bO (X := X5) rfl (hw X5) rfl (aS rfl (aT (aA rfl) (aH hS rfl) (i := 5) (og hS rfl rfl) rfl bG)),
      fun X5 S hw hi hS => bO (X := X5) rfl (hw X5) rfl (aS rfl (aC (v := .d (.lit (.int .i64 r1))) (aA rfl) (aH hS rfl) rfl)),
      fun X5 S hw hi hS => bO (X := X5) rfl (hw X5) rfl (aS rfl (aGg (aA rfl) (aH hS rfl) (aH hS rfl))),
      fun X5 S hw hi hS => bO (X := X5) rfl (hw X5) rfl (aS rfl (aT (aA rfl) (aH hS rfl) (i := 6) (og hS rfl rfl) rfl bG)),
      fun X5 S hw hi hS => bO (X := X5) rfl (hw X5) rfl (aS rfl (aC (v := .d (.lit (.int .i64 r1))) (aA rfl) (aH hS rfl) rfl)),
      fun X5 S hw hi hS => bO (X := X5) rfl (hw X5) rfl (aS rfl (aBe (aA rfl) (aH hS rfl) (aH hS rfl))),
      fun X5 S hw hi hS => rJ (X := X5) hS rfl rfl rfl (p := 5) rfl rfl (aS rfl (bX (i := 5) (aH hS rfl) (og hS rfl rfl) (aH hS rfl) rfl rfl Try.sizeOf3 rfl (aA rfl) (Nat.le_of_ble_eq_true rfl) (ds' := [.lit (.int .i64 ((min be r1)))]) rfl)), trivial⟩⟩
   · exact fun X5 => eJ (aO rfl (aZ ⟨rfl, trivial⟩))
  ·intro X5
   refine tr1 rfl (bX (i := 6) rfl rfl rfl rfl rfl Try.sizeOf3 rfl (aA rfl) (Nat.le_of_ble_eq_true rfl) (ds' := [.lit (.int .i64 ((max wo r1)))]) rfl) ?_
   refine aF ?_
   have h := Option.some.inj h
   subst h
   exact ⟨_, [.box book_b book_o (cE book), .box bb_b bb_o [gK book_b book_o 0], .box pl_b pl_o [.lit (.int .i64 pl)], .box wk_b wk_o [.lit (.int .i64 wk)], .box ms_b ms_o [.lit (.bool b3)], .box be_b be_o [.lit (.int .i64 ((min be r1)))], .box wo_b wo_o [.lit (.int .i64 ((max wo r1)))]], [], _, .none, .refl _, .same _, rfl, rfl⟩

theorem yW (n_1 : Int) {r : (List Int)} (h : nC n_1 = some r) : fT Try.prog 102 [.d (.lit (.slice none 0 0)), .d (.lit (.int .i64 n_1))] [] (fun r' o' => ∃ (w0 : Value), r' = .d (.lit w0) ∧ o' = [.arr w0 3 1 (r.map cK)]) := by
 unfold nC at h
 refine lZ Try.func102 rfl (rs := [.tmp 4]) Try.results102 Try.ntmps102 (Nat.le_of_ble_eq_true rfl) ?_
 refine cR (aFu 3 1) ?_
 refine aG ?_
 refine aE ?_
 refine tr1 rfl (kJ 3 1 (.inl rfl) (aA rfl)) ?_
 refine aF ?_
 refine aG ?_
 refine aG ?_
 refine aE ?_
 refine tr1 rfl (aC (v := .d (.lit (.int .i64 n_1))) (aA rfl) rfl rfl) ?_
 refine tr1 rfl (bC (aA rfl) rfl rfl rfl) ?_
 refine aF ?_
 refine bN rfl (fun c2 => ?_) (fun c2 => ?_)
 ·have h := aR c2 h
  cases h
 ·have h := aQ c2 h
  refine bH ?_
  refine aG ?_
  refine aG ?_
  refine aE ?_
  refine tr1 rfl (aC (v := .d (.lit (.int .i64 n_1))) (aA rfl) rfl rfl) ?_
  refine tr1 rfl (aC (v := .d (.lit (.slice none 0 0))) (aA rfl) rfl rfl) ?_
  refine tr1 rfl (aCj (aA rfl) rfl eF.of) ?_
  refine tr1 rfl (aC (v := .d (.lit (.slice none 0 0))) (aA rfl) rfl rfl) ?_
  refine tr1 rfl (aCk (aA rfl) rfl eF.of) ?_
  refine tr1 rfl (bA (aA rfl) rfl rfl rfl) ?_
  refine tr1 rfl (bA (aA rfl) rfl rfl rfl) ?_
  refine tr1 rfl (aJ (v := .d (.lit (.int .i64 ((w64 (n_1 - (w64 (0 - 0)))))))) (aA rfl) rfl rfl) ?_
  refine aF ?_
  refine aG ?_
  refine aE ?_
  refine tr1 rfl (aC (v := .d (.lit (.int .i64 ((w64 (n_1 - (w64 (0 - 0)))))))) (aA rfl) rfl rfl) ?_
  refine tr1 rfl (bC (aA rfl) rfl rfl rfl) ?_
  refine aF ?_
  refine bN rfl (fun c3 => ?_) (fun c3 => ?_)
  ·have h := aR c3 h
   refine aE ?_
   refine tr1 rfl (aC (v := .d (.lit (.slice none 0 0))) (aA rfl) rfl rfl) ?_
   refine tr1 rfl (aC (v := .d (.lit (.slice none 0 0))) (aA rfl) rfl rfl) ?_
   refine tr1 rfl (aCj (aA rfl) rfl eF.of) ?_
   obtain ⟨u4, h5, h⟩ := bind_some h
   refine tr1 rfl (rT (m := 0) (q := 0) (v := (.slice none 0 0)) (aA rfl) rfl rfl rfl rfl (aAm h5) eF.of) ?_
   refine tr1 rfl (aC (v := .d (.lit (.int .i64 ((w64 (n_1 - (w64 (0 - 0)))))))) (aA rfl) rfl rfl) ?_
   obtain ⟨u6, h7, h⟩ := bind_some h
   refine bR rfl (aHx (i := 0) (aA rfl) eF rfl rfl rfl Try.underlying3 (aCy h7).1 (aCy h7).2 (by decide)) ?_
   rintro _ ⟨v8, rfl⟩
   refine tr1 rfl (aC (v := .d (.lit (.slice none 0 0))) (aA rfl) rfl rfl) ?_
   refine tr1 rfl (aCk (aA rfl) rfl eF.of) ?_
   obtain ⟨u9, h10, h⟩ := bind_some h
   refine tr1 rfl (rT (m := 0) (q := 0) (v := v8) (aA rfl) rfl rfl rfl rfl (aAm h10) eF.of) ?_
   refine tr1 rfl (aJ (v := .d (.lit (gD v8 0))) (aA rfl) rfl rfl) ?_
   refine aF ?_
   refine aG ?_
   refine aE ?_
   refine tr1 rfl (aC (v := .d (.lit (gD v8 0))) (aA rfl) rfl rfl) ?_
   refine tr1 rfl (aJ (v := .d (.lit (gD v8 0))) (aA rfl) rfl rfl) ?_
   refine aF ?_
   have h := Option.some.inj h
   subst h
   exact bL ⟨rfl, _, [.arr (gD v8 0) 3 1 (([] : List Int).map cK)], [.arr (.slice none 0 0) 3 1 (([] : List Int).map cK)], _, .one (.tmp 4 (v := .d (.lit (gD v8 0))) rfl), .refl _, .same _, (gD v8 0), rfl, rfl⟩
  ·have h := aQ c3 h
   refine bH ?_
   refine aG ?_
   refine aE ?_
   refine tr1 rfl (aC (v := .d (.lit (.slice none 0 0))) (aA rfl) rfl rfl) ?_
   refine tr1 rfl (aJ (v := .d (.lit (.slice none 0 0))) (aA rfl) rfl rfl) ?_
   refine aF ?_
   have h := Option.some.inj h
   subst h
   exact bL ⟨rfl, _, [.arr (.slice none 0 0) 3 1 (([] : List Int).map cK)], [.arr (.slice none 0 0) 3 1 (([] : List Int).map cK)], _, .one (.tmp 4 (v := .d (.lit (.slice none 0 0))) rfl), .refl _, .same _, (.slice none 0 0), rfl, rfl⟩

theorem xN (slices_0 : List (List Int)) {r : (List Int)} (h : kG slices_0 = some r) : Fn Try.prog 84 [.d (.sl 1 (slices_0.map pQ))] (.d (.sl 1 (r.map cK))) := by
 unfold kG at h
 refine Fn.of_tr Try.func84 rfl (rs := [.tmp 2]) Try.results84 Try.ntmps84 (Nat.le_of_ble_eq_true rfl) ?_
 refine aG ?_
 refine aE ?_
 refine tr1 rfl (xA 1 (aA rfl)) ?_
 refine aF ?_
 refine aG ?_
 refine aE ?_
 refine tr1 rfl (aJ (v := .d (.lit (.int .i64 0))) (aA rfl) rfl rfl) ?_
 refine aF ?_
 refine aG ?_
 refine aG ?_
 refine aE ?_
 refine tr1 rfl (aC (v := .d (.sl 1 (slices_0.map pQ))) (aA rfl) rfl rfl) ?_
 refine tr1 rfl (dM (aA rfl) rfl yV.of) ?_
 refine tr1 rfl (aC (v := .d (.lit (.int .i64 0))) (aA rfl) rfl rfl) ?_
 refine aF ?_
 refine bT ?_
 refine cM [0, 9, 10] (fun (s1 : Int × Int) => [(3, .d (.lit (.int .i64 s1.1))), (11, .d (.lit (.int .i64 s1.2)))]) (fun (s1 : Int × Int) => []) (fun (k : Nat) (s1 : Int × Int) => gP slices_0 slices_0 (slices_0.length : Int) k s1.1 s1.2) (fun _ => rfl) (0, 0) h (aY [] rfl rfl (aO rfl (aO rfl (aZ ⟨rfl, rfl, rfl, trivial⟩)))) ?_
 rintro k2 ⟨size_0_1, t11_0_1⟩ h
 simp only [gP] at h
 refine aG ?_
 refine aE ?_
 refine tr1 rfl (bC (aA rfl) rfl rfl rfl) ?_
 refine aF ?_
 refine aG ?_
 refine bN rfl (fun c3 => ?_) (fun c3 => ?_)
 ·have h := aR c3 h
  refine bH ?_
  refine aG ?_
  refine bT ?_
  refine aG ?_
  refine aE ?_
  obtain ⟨x4, h5, h⟩ := bind_some h
  refine tr1 rfl (cD (aA rfl) rfl rfl yV.of (bP pQ h5)) ?_
  refine tr1 rfl (cI (aA rfl) rfl qK) ?_
  refine tr1 rfl (aJ (v := .d (.sl 1 (x4.map cK))) (aA rfl) rfl rfl) ?_
  refine aF ?_
  refine aG ?_
  refine aE ?_
  refine tr1 rfl (aC (v := .d (.lit (.int .i64 size_0_1))) (aA rfl) rfl rfl) ?_
  refine tr1 rfl (aC (v := .d (.sl 1 (x4.map cK))) (aA rfl) rfl rfl) ?_
  refine tr1 rfl (dM (aA rfl) rfl eF.of) ?_
  refine tr1 rfl (bA (aA rfl) rfl rfl rfl) ?_
  refine tr1 rfl (aJ (v := .d (.lit (.int .i64 ((w64 (size_0_1 + (x4.length : Int))))))) (aA rfl) rfl rfl) ?_
  refine aF ?_
  refine aG ?_
  refine aE ?_
  refine tr1 rfl (aC (v := .d (.lit (.int .i64 ((w64 (size_0_1 + (x4.length : Int))))))) (aA rfl) rfl rfl) ?_
  refine tr1 rfl (bC (aA rfl) rfl rfl rfl) ?_
  refine aF ?_
  refine bN rfl (fun c6 => ?_) (fun c6 => ?_)
  ·have h := aR c6 h
   cases h
  ·have h := aQ c6 h
   refine eR ?_
   refine aE ?_
   refine tr1 rfl (bA (aA rfl) rfl rfl rfl) ?_
   refine tr1 rfl (aC (v := .d (.lit (.int .i64 ((w64 (t11_0_1 + 1)))))) (aA rfl) rfl rfl) ?_
   refine aF ?_
   exact ⟨(w64 (size_0_1 + (x4.length : Int)), w64 (t11_0_1 + 1)), h, aY [] rfl rfl (aO rfl (aO rfl (aZ ⟨rfl, rfl, rfl, trivial⟩)))⟩
 ·have h := aQ c3 h
  refine cX ?_
  refine .inl ⟨rfl, ?_⟩
  simp only [oH] at h
  refine aG ?_
  refine aE ?_
  refine tr1 rfl (aC (v := .d (.lit (.int .i64 size_0_1))) (aA rfl) rfl rfl) ?_
  obtain ⟨r7, h8, h⟩ := bind_some h
  refine bR rfl (wZ (aA rfl) (.func _ _ Try.call102) rfl rfl (yW _ h8)) ?_
  rintro _ ⟨v9, rfl⟩
  refine tr1 rfl (aJ (v := .d (.lit v9)) (aA rfl) rfl rfl) ?_
  refine aF ?_
  refine aG ?_
  refine aG ?_
  refine aE ?_
  refine tr1 rfl (aC (v := .d (.sl 1 (slices_0.map pQ))) (aA rfl) rfl rfl) ?_
  refine tr1 rfl (dM (aA rfl) rfl yV.of) ?_
  refine tr1 rfl (aC (v := .d (.lit (.int .i64 0))) (aA rfl) rfl rfl) ?_
  refine aF ?_
  refine bT ?_
  refine cM [25, 26] (fun (s10 : Int × (List Int) × Value) => [(6, .d (.lit s10.2.2)), (27, .d (.lit (.int .i64 s10.1)))]) (fun (s10 : Int × (List Int) × Value) => [.arr s10.2.2 3 1 (s10.2.1.map cK)]) (fun (k : Nat) (s10 : Int × (List Int) × Value) => fV slices_0 (slices_0.length : Int) k s10.1 s10.2.1) (fun _ => rfl) (0, r7, v9) h (aY [0] rfl rfl (aO rfl (aO rfl (aZ ⟨rfl, rfl, trivial⟩)))) ?_
  rintro k12 ⟨t27_2_10, o24_2_10, w11⟩ h
  simp only [fV] at h
  refine aG ?_
  refine aE ?_
  refine tr1 rfl (bC (aA rfl) rfl rfl rfl) ?_
  refine aF ?_
  refine aG ?_
  refine bN rfl (fun c13 => ?_) (fun c13 => ?_)
  ·have h := aR c13 h
   refine bH ?_
   refine aG ?_
   refine bT ?_
   refine aG ?_
   refine aE ?_
   obtain ⟨x14, h15, h⟩ := bind_some h
   refine tr1 rfl (cD (aA rfl) rfl rfl yV.of (bP pQ h15)) ?_
   refine tr1 rfl (cI (aA rfl) rfl qK) ?_
   refine tr1 rfl (aJ (v := .d (.sl 1 (x14.map cK))) (aA rfl) rfl rfl) ?_
   refine aF ?_
   refine aE ?_
   refine tr1 rfl (aC (v := .d (.lit w11)) (aA rfl) rfl rfl) ?_
   refine tr1 rfl (aC (v := .d (.sl 1 (x14.map cK))) (aA rfl) rfl rfl) ?_
   obtain ⟨x16, h17, h⟩ := bind_some h
   refine bR rfl (mD (i := 0) (aA rfl) eF rfl rfl rfl (fun _ => rfl) h17 rfl) ?_
   rintro _ ⟨v18, rfl⟩
   refine tr1 rfl (aJ (v := .d (.lit v18)) (aA rfl) rfl rfl) ?_
   refine eH ?_
   refine aE ?_
   refine tr1 rfl (bA (aA rfl) rfl rfl rfl) ?_
   refine tr1 rfl (aC (v := .d (.lit (.int .i64 ((w64 (t27_2_10 + 1)))))) (aA rfl) rfl rfl) ?_
   refine aF ?_
   exact ⟨(w64 (t27_2_10 + 1), x16, v18), h, aY [0] rfl rfl (aO rfl (aO rfl (aZ ⟨rfl, rfl, trivial⟩)))⟩
  ·have h := aQ c13 h
   refine cX ?_
   refine .inl ⟨rfl, ?_⟩
   simp only [rU] at h
   refine aG ?_
   refine aE ?_
   refine tr1 rfl (aC (v := .d (.lit w11)) (aA rfl) rfl rfl) ?_
   refine tr1 rfl (aJ (v := .d (.lit w11)) (aA rfl) rfl rfl) ?_
   refine aF ?_
   have h := Option.some.inj h
   subst h
   refine cR (cG (jZ (k := 2) (v := .d (.sl 1 (o24_2_10.map cK))) (.d (jL 0 rfl (dE (f := cK) fun _ => rfl))) (aBl))) ?_
   exact bL ⟨rfl, _, .one _, rfl, rfl⟩

theorem wX (kr : Nat) : ∀ (book : bW) (pl : Int) (wk : Int) (ms : Bool) (be : Int) (wo : Int) (week_1 : Int) (prizes_2 : List Int) (free_3 : List Int) {r : bW × Bool × Int × Int} {book_b book_o : Nat} {bb_b bb_o : Nat} {pl_b pl_o : Nat} {wk_b wk_o : Nat} {ms_b ms_o : Nat} {be_b be_o : Nat} {wo_b wo_o : Nat} (_h : eD kr book pl wk ms be wo week_1 prizes_2 free_3 = some r), fT Try.prog 49 [.bp book_b book_o 0, .d (.lit (.int .i64 week_1)), .d (.sl 1 (prizes_2.map cK)), .d (.sl 1 (free_3.map cK)), .fn 50 [.bp bb_b bb_o 0, .bp pl_b pl_o 0, .bp wk_b wk_o 0, .bp ms_b ms_o 0, .bp be_b be_o 0, .bp wo_b wo_o 0]] [.box book_b book_o (cE book), .box bb_b bb_o [gK book_b book_o 0], .box pl_b pl_o [.lit (.int .i64 pl)], .box wk_b wk_o [.lit (.int .i64 wk)], .box ms_b ms_o [.lit (.bool ms)], .box be_b be_o [.lit (.int .i64 be)], .box wo_b wo_o [.lit (.int .i64 wo)]] (fun r' o' => r' = .tup [] ∧ o' = [.box book_b book_o (cE r.1), .box bb_b bb_o [gK book_b book_o 0], .box pl_b pl_o [.lit (.int .i64 pl)], .box wk_b wk_o [.lit (.int .i64 wk)], .box ms_b ms_o [.lit (.bool r.2.1)], .box be_b be_o [.lit (.int .i64 r.2.2.1)], .box wo_b wo_o [.lit (.int .i64 r.2.2.2)]]) := by
  induction kr with
  | zero => intros; rename_i h; cases h
  | succ kr ih =>
    intro book pl wk ms be wo week_1 prizes_2 free_3 r book_b book_o bb_b bb_o pl_b pl_o wk_b wk_o ms_b ms_o be_b be_o wo_b wo_o h
    simp only [eD] at h
    refine jF Try.func49 rfl (rs := []) Try.results49 Try.ntmps49 (Nat.le_of_ble_eq_true rfl) ?_
    refine aG ?_
    refine aG ?_
    refine aE ?_
    refine tr1 rfl (aC (v := .d (.sl 1 (prizes_2.map cK))) (aA rfl) rfl rfl) ?_
    refine tr1 rfl (dM (aA rfl) rfl eF.of) ?_
    refine tr1 rfl (bC (aA rfl) rfl rfl rfl) ?_
    refine tr1 rfl (aC (v := .d (.lit (.bool ((decide ((prizes_2.length : Int) = 0)))))) (aA rfl) rfl rfl) ?_
    obtain ⟨b1, h2, h⟩ := bind_some h
    refine bQ 4 [0, 1, 2, 3, 4] 20 b1 ?_ ?_
    ·refine bD (decide ((prizes_2.length : Int) = 0)) (fun c30 => ?_) (fun c30 => ?_)
     ·have h2 := aR c30 h2
      refine aN rfl rfl (aA rfl) rfl (aA rfl) rfl c30 ?_
      refine aN rfl rfl (aA rfl) rfl (aA rfl) rfl c30 ?_
      refine aN rfl rfl (aA rfl) rfl (aA rfl) rfl c30 ?_
      refine tr1 rfl (bJ (v := .d (.lit (.bool true))) (aA rfl) rfl c30 rfl rfl) ?_
      have h2 := Option.some.inj h2
      subst h2
      refine aF (aW rfl ⟨rfl, rfl, rfl, rfl, rfl, trivial⟩ rfl)
     ·have h2 := aQ c30 h2
      refine aL rfl rfl (aA rfl) rfl c30 (aC (v := .d (.sl 1 (free_3.map cK))) (aA rfl) rfl rfl) ?_
      refine aL rfl rfl (aA rfl) rfl c30 (dM (aA rfl) rfl eF.of) ?_
      refine aL rfl rfl (aA rfl) rfl c30 (bC (aA rfl) rfl rfl rfl) ?_
      refine tr1 rfl (bI (v := .d (.lit (.bool ((decide ((free_3.length : Int) = 0)))))) (aA rfl) rfl c30 rfl rfl) ?_
      have h2 := Option.some.inj h2
      subst h2
      refine aF (aW rfl ⟨rfl, rfl, rfl, rfl, rfl, trivial⟩ rfl)
    ·refine aF ?_
     refine bN rfl (fun c3 => ?_) (fun c3 => ?_)
     ·have h := aR c3 h
      refine aG ?_
      refine aE ?_
      refine tr1 rfl (aC (v := .fn 50 [.bp bb_b bb_o 0, .bp pl_b pl_o 0, .bp wk_b wk_o 0, .bp ms_b ms_o 0, .bp be_b be_o 0, .bp wo_b wo_o 0]) (aA rfl) rfl rfl) ?_
      obtain ⟨r4, h5, h⟩ := bind_some h
      refine bR rfl (dP (passed := [.box book_b book_o (cE book), .box bb_b bb_o [gK book_b book_o 0], .box pl_b pl_o [.lit (.int .i64 pl)], .box wk_b wk_o [.lit (.int .i64 wk)], .box ms_b ms_o [.lit (.bool ms)], .box be_b be_o [.lit (.int .i64 be)], .box wo_b wo_o [.lit (.int .i64 wo)]]) (aA rfl) rfl (.clo _ _ _ _ Try.call50 rfl) (uI rfl) rfl (aBt book pl wk ms be wo h5)) ?_
      rintro _ ⟨_, _, ⟨rfl, rfl⟩, rfl⟩
      refine aF ?_
      have h := Option.some.inj h
      subst h
      exact bL ⟨rfl, _, [.box book_b book_o (cE book), .box bb_b bb_o [gK book_b book_o 0], .box pl_b pl_o [.lit (.int .i64 pl)], .box wk_b wk_o [.lit (.int .i64 wk)], .box ms_b ms_o [.lit (.bool r4.1)], .box be_b be_o [.lit (.int .i64 r4.2.1)], .box wo_b wo_o [.lit (.int .i64 r4.2.2)]], [], _, .none, .refl _, .same _, rfl, rfl⟩
     ·have h := aQ c3 h
      refine bH ?_
      refine aG ?_
      refine aE ?_
      refine tr1 rfl (aC (v := .bp book_b book_o 0) (aA rfl) rfl rfl) ?_
      refine tr1 rfl (lD (aA rfl) rfl) ?_
      refine tr1 rfl (aP (aA rfl) rfl iU) ?_
      refine tr1 rfl (aP (aA rfl) rfl dZ) ?_
      refine tr1 rfl (aT (aA rfl) rfl (i := 0) rfl rfl iG) ?_
      refine tr1 rfl (dM (aA rfl) rfl cA.of) ?_
      refine tr1 rfl (aJ (v := .d (.lit (.int .i64 ((book.Ledger.Reports.length : Int))))) (aA rfl) rfl rfl) ?_
      refine aF ?_
      refine aG ?_
      refine aG ?_
      refine aE ?_
      refine tr1 rfl (aC (v := .d (.sl 1 (free_3.map cK))) (aA rfl) rfl rfl) ?_
      refine tr1 rfl (dM (aA rfl) rfl eF.of) ?_
      refine tr1 rfl (aC (v := .d (.lit (.int .i64 0))) (aA rfl) rfl rfl) ?_
      refine aF ?_
      refine bT ?_
      refine cM [0, 1, 2, 3, 4, 10, 29, 30] (fun (s6 : Int × bW × Bool × Int × Int) => [(31, .d (.lit (.int .i64 s6.1)))]) (fun (s6 : Int × bW × Bool × Int × Int) => [.box book_b book_o (cE s6.2.1), .box bb_b bb_o [gK book_b book_o 0], .box pl_b pl_o [.lit (.int .i64 pl)], .box wk_b wk_o [.lit (.int .i64 wk)], .box ms_b ms_o [.lit (.bool s6.2.2.1)], .box be_b be_o [.lit (.int .i64 s6.2.2.2.1)], .box wo_b wo_o [.lit (.int .i64 s6.2.2.2.2)]]) (fun (k : Nat) (s6 : Int × bW × Bool × Int × Int) => gO (eD kr) week_1 prizes_2 free_3 (book.Ledger.Reports.length : Int) free_3 (free_3.length : Int) pl wk k s6.1 s6.2.1 s6.2.2.1 s6.2.2.2.1 s6.2.2.2.2) (fun _ => rfl) (0, book, ms, be, wo) h (aY [0, 1, 2, 3, 4, 5, 6] rfl rfl (aO rfl (aZ ⟨rfl, rfl, rfl, rfl, rfl, rfl, rfl, rfl, trivial⟩))) ?_
      rintro k7 ⟨t31_0_6, b_0_6, b_0_6_4, b_0_6_5, b_0_6_6⟩ h
      simp only [gO] at h
      refine aG ?_
      refine aE ?_
      refine tr1 rfl (bC (aA rfl) rfl rfl rfl) ?_
      refine aF ?_
      refine aG ?_
      refine bN rfl (fun c8 => ?_) (fun c8 => ?_)
      ·have h := aR c8 h
       refine bH ?_
       refine aG ?_
       refine bT ?_
       refine aG ?_
       refine aE ?_
       refine tr1 rfl (aC (v := .d (.lit (.int .i64 t31_0_6))) (aA rfl) rfl rfl) ?_
       obtain ⟨x9, h10, h⟩ := bind_some h
       refine tr1 rfl (cD (aA rfl) rfl rfl eF.of (bP cK h10)) ?_
       refine tr1 rfl (cI (aA rfl) rfl bG) ?_
       refine tr1 rfl (aJ (v := .d (.lit (.int .i64 t31_0_6))) (aA rfl) rfl rfl) ?_
       refine tr1 rfl (aJ (v := .d (.lit (.int .i64 x9))) (aA rfl) rfl rfl) ?_
       refine aF ?_
       refine aG ?_
       obtain ⟨x12, h13, h⟩ := bind_some h
       obtain ⟨x14, h15, h⟩ := bind_some h
       obtain ⟨x16, h17, h⟩ := bind_some h
       refine nG mix 19 [0, 1, 2, 3, 4, 10, 11, 29, 30, 31] (fun X11 => [(36, .bp book_b book_o 0), (54, .d (.sl 5 (x16.map aD)))]) (fun X11 => [.box book_b book_o (cE b_0_6), .box bb_b bb_o [gK book_b book_o 0], .box pl_b pl_o [.lit (.int .i64 pl)], .box wk_b wk_o [.lit (.int .i64 wk)], .box ms_b ms_o [.lit (.bool b_0_6_4)], .box be_b be_o [.lit (.int .i64 b_0_6_5)], .box wo_b wo_o [.lit (.int .i64 b_0_6_6)]]) ?_ ?_
       ·refine ⟨0, fun X11 => [(36, 0, .bp book_b book_o 0), (37, 1, .bp book_b book_o 0), (38, 2, .bp book_b book_o 0), (39, 3, .bp book_b book_o 0), (40, 4, .bp book_b book_o 2), (41, 5, .d (.sl 5 (b_0_6.Ledger.Reports.map aD))), (42, 6, .d (.lit (.int .i64 ((book.Ledger.Reports.length : Int))))), (43, 7, .d (.lit (.int .i64 ((book.Ledger.Reports.length : Int))))), (44, 8, .fl false 5 (x12.map aD)), (45, 9, .d (.lit (.int .i64 ((book.Ledger.Reports.length : Int))))), (46, 10, .d (.lit (.int .i64 ((w64 (100 + (book.Ledger.Reports.length : Int))))))), (47, 11, .d (.lit (.int .i64 x9))), (48, 12, .d (.lit (.int .i64 week_1))), (49, 13, .d (.sl 1 (prizes_2.map cK))), (50, 14, .cp [.lit (.int .i64 x14)]), (51, 15, .d (.lit (.int .i64 x14))), (52, 16, .agg (aD (aB.mk (w64 (100 + (book.Ledger.Reports.length : Int))) x9 week_1 x14 false))), (53, 17, .d (.sl 5 ((([(aB.mk (w64 (100 + (book.Ledger.Reports.length : Int))) x9 week_1 x14 false)])).map aD))), (54, 18, .d (.sl 5 (x16.map aD)))], fun X11 => [([], .box book_b book_o (cE b_0_6)), ([], .box bb_b bb_o [gK book_b book_o 0]), ([], .box pl_b pl_o [.lit (.int .i64 pl)]), ([], .box wk_b wk_o [.lit (.int .i64 wk)]), ([], .box ms_b ms_o [.lit (.bool b_0_6_4)]), ([], .box be_b be_o [.lit (.int .i64 b_0_6_5)]), ([], .box wo_b wo_o [.lit (.int .i64 b_0_6_6)])], ?_, ?_⟩
        · exact ⟨by kernel_rfl, by kernel_rfl, by kernel_rfl, fun _ => by kernel_rfl, fun _ => by kernel_rfl, fun _ => by kernel_rfl, fun _ => rfl, [([], []), ([], [18]), ([1], [18]), ([2], [18]), ([3], [18]), ([4], [18]), ([], [18]), ([], [18]), ([5, 6, 7], [18]), ([], [18]), ([9], [18]), ([], [18]), ([], [18]), ([], [18]), ([13], [18]), ([14], [18]), ([10, 11, 12, 15], [18]), ([16], [18]), ([8, 17], [])], by kernel_rfl, ⟨fun X11 S hw hi hS => bO (X := X11) rfl (hw X11) rfl (aS rfl (aC (v := .bp book_b book_o 0) (aA rfl) (aH hS rfl) rfl)),
      fun X11 S hw hi hS => bO (X := X11) rfl (hw X11) rfl (aS rfl (aC (v := .bp book_b book_o 0) (aA rfl) (aH hS rfl) rfl)),
      fun X11 S hw hi hS => bO (X := X11) rfl (hw X11) rfl (aS rfl (lD (aA rfl) (aH hS rfl))),
      fun X11 S hw hi hS => bO (X := X11) rfl (hw X11) rfl (aS rfl (aP (aA rfl) (aH hS rfl) iU)),
      fun X11 S hw hi hS => bO (X := X11) rfl (hw X11) rfl (aS rfl (aP (aA rfl) (aH hS rfl) dZ)),
      fun X11 S hw hi hS => bO (X := X11) rfl (hw X11) rfl (aS rfl (aT (aA rfl) (aH hS rfl) (i := 0) (og hS rfl rfl) rfl iG)),
      fun X11 S hw hi hS => bO (X := X11) rfl (hw X11) rfl (aS rfl (aC (v := .d (.lit (.int .i64 ((book.Ledger.Reports.length : Int))))) (aA rfl) (aH hS rfl) rfl)),
      fun X11 S hw hi hS => bO (X := X11) rfl (hw X11) rfl (aS rfl (aC (v := .d (.lit (.int .i64 ((book.Ledger.Reports.length : Int))))) (aA rfl) (aH hS rfl) rfl)),
      fun X11 S hw hi hS => bO (X := X11) rfl (hw X11) rfl (aS rfl (aEt (aA rfl) cA.of (aH hS rfl) (aH hS rfl) (aH hS rfl) (sO aD h13))),
      fun X11 S hw hi hS => bO (X := X11) rfl (hw X11) rfl (aS rfl (aC (v := .d (.lit (.int .i64 ((book.Ledger.Reports.length : Int))))) (aA rfl) (aH hS rfl) rfl)),
      fun X11 S hw hi hS => bO (X := X11) rfl (hw X11) rfl (aS rfl (bA (aA rfl) rfl (aH hS rfl) rfl)),
      fun X11 S hw hi hS => bO (X := X11) rfl (hw X11) rfl (aS rfl (aC (v := .d (.lit (.int .i64 x9))) (aA rfl) (aH hS rfl) rfl)),
      fun X11 S hw hi hS => bO (X := X11) rfl (hw X11) rfl (aS rfl (aC (v := .d (.lit (.int .i64 week_1))) (aA rfl) (aH hS rfl) rfl)),
      fun X11 S hw hi hS => bO (X := X11) rfl (hw X11) rfl (aS rfl (aC (v := .d (.sl 1 (prizes_2.map cK))) (aA rfl) (aH hS rfl) rfl)),
      fun X11 S hw hi hS => bO (X := X11) rfl (hw X11) rfl (aS rfl (cD (aA rfl) (aH hS rfl) rfl eF.of (bP cK h15))),
      fun X11 S hw hi hS => bO (X := X11) rfl (hw X11) rfl (aS rfl (cI (aA rfl) (aH hS rfl) bG)),
      fun X11 S hw hi hS => bO (X := X11) rfl (hw X11) rfl (aS rfl (mG (aA rfl) tI (zs := [.lit (.int .i64 0), .lit (.int .i64 0), .lit (.int .i64 0), .lit (.int .i64 0), .lit (.bool false)]) rfl rfl rfl (pa2 (aH hS rfl) (pa2 (aH hS rfl) (pa2 (aH hS rfl) (pa2 (aH hS rfl) pan)))) (es := [.lit (.int .i64 ((w64 (100 + (book.Ledger.Reports.length : Int))))), .lit (.int .i64 x9), .lit (.int .i64 week_1), .lit (.int .i64 x14), .lit (.bool false)]) rfl)),
      fun X11 S hw hi hS => bO (X := X11) rfl (hw X11) rfl (aS rfl (jU (aA rfl) cA rfl (pa2 (aH hS rfl) pan) (rows := ([(aB.mk (w64 (100 + (book.Ledger.Reports.length : Int))) x9 week_1 x14 false)]).map aD) rfl (dE (f := aD) fun _ => rfl) rfl (by decide))),
      fun X11 S hw hi hS => bO (X := X11) rfl (hw X11) rfl (aS rfl (vO (nn := false) (f := aD) (xs := x12) (ys := [(aB.mk (w64 (100 + (book.Ledger.Reports.length : Int))) x9 week_1 x14 false)]) (aA rfl) cA (aH hS rfl) (aH hS rfl) (fun _ => rfl) h17 rfl)), trivial⟩⟩
        · exact fun X11 => eJ (aO rfl (aO rfl (aZ ⟨rfl, rfl, rfl, rfl, rfl, rfl, rfl, rfl, rfl, rfl, trivial⟩)))
       ·intro X11
        refine tr1 rfl (lD (aA rfl) rfl) ?_
        refine tr1 rfl (aP (aA rfl) rfl iU) ?_
        refine tr1 rfl (aP (aA rfl) rfl dZ) ?_
        refine tr1 rfl (bX (i := 0) rfl rfl rfl rfl rfl Try.sizeOf22 rfl (aA rfl) (Nat.le_of_ble_eq_true rfl) (ds' := (cE (bW.mk (aM.mk b_0_6.Ledger.Players b_0_6.Ledger.Counts x16 b_0_6.Ledger.Bans b_0_6.Ledger.Frozen)))) rfl) ?_
        refine aF ?_
        obtain ⟨x18, h19, h⟩ := bind_some h
        obtain ⟨x20, h21, h⟩ := bind_some h
        obtain ⟨x22, h23, h⟩ := bind_some h
        obtain ⟨r24, h25, h⟩ := bind_some h
        refine hH mix 14 [0, 1, 2, 3, 4, 10, 29, 30, 31] [(58, .bp book_b book_o 0), (59, .d (.lit (.int .i64 week_1))), (61, .d (.sl 1 (x18.map cK))), (70, .d (.sl 1 (r24.map cK))), (71, .fn 50 [.bp bb_b bb_o 0, .bp pl_b pl_o 0, .bp wk_b wk_o 0, .bp ms_b ms_o 0, .bp be_b be_o 0, .bp wo_b wo_o 0])] ?_ ?_
        ·refine ⟨[(58, 0, .bp book_b book_o 0), (59, 1, .d (.lit (.int .i64 week_1))), (60, 2, .d (.sl 1 (prizes_2.map cK))), (61, 3, .d (.sl 1 (x18.map cK))), (62, 4, .d (.sl 1 (free_3.map cK))), (63, 5, .d (.lit (.int .i64 t31_0_6))), (64, 6, .d (.sl 1 (x20.map cK))), (65, 7, .d (.sl 1 (free_3.map cK))), (66, 8, .d (.lit (.int .i64 t31_0_6))), (67, 9, .d (.lit (.int .i64 ((w64 (t31_0_6 + 1)))))), (68, 10, .d (.sl 1 (x22.map cK))), (69, 11, .d (.sl 1 ((([x20, x22])).map pQ))), (70, 12, .d (.sl 1 (r24.map cK))), (71, 13, .fn 50 [.bp bb_b bb_o 0, .bp pl_b pl_o 0, .bp wk_b wk_o 0, .bp ms_b ms_o 0, .bp be_b be_o 0, .bp wo_b wo_o 0])], ?_, ?_⟩
         · exact ⟨by kernel_rfl, by kernel_rfl, by kernel_rfl, by kernel_rfl, by kernel_rfl, [([], []), ([], []), ([], []), ([2], []), ([], []), ([], []), ([4, 5], []), ([], []), ([], []), ([8], []), ([7, 9], []), ([6, 10], []), ([11], []), ([], [])], by kernel_rfl, ⟨fun S hS => aK rfl (aS rfl (aC (v := .bp book_b book_o 0) (aA rfl) (aH hS rfl) rfl)),
      fun S hS => aK rfl (aS rfl (aC (v := .d (.lit (.int .i64 week_1))) (aA rfl) (aH hS rfl) rfl)),
      fun S hS => aK rfl (aS rfl (aC (v := .d (.sl 1 (prizes_2.map cK))) (aA rfl) (aH hS rfl) rfl)),
      fun S hS => aK rfl (aS rfl (pX (aA rfl) eF.of (aH hS rfl) rfl aJp (sO cK h19))),
      fun S hS => aK rfl (aS rfl (aC (v := .d (.sl 1 (free_3.map cK))) (aA rfl) (aH hS rfl) rfl)),
      fun S hS => aK rfl (aS rfl (aC (v := .d (.lit (.int .i64 t31_0_6))) (aA rfl) (aH hS rfl) rfl)),
      fun S hS => aK rfl (aS rfl (pX (aA rfl) eF.of (aH hS rfl) rfl (bo (aH hS rfl)) (sO cK h21))),
      fun S hS => aK rfl (aS rfl (aC (v := .d (.sl 1 (free_3.map cK))) (aA rfl) (aH hS rfl) rfl)),
      fun S hS => aK rfl (aS rfl (aC (v := .d (.lit (.int .i64 t31_0_6))) (aA rfl) (aH hS rfl) rfl)),
      fun S hS => aK rfl (aS rfl (bA (aA rfl) (aH hS rfl) rfl rfl)),
      fun S hS => aK rfl (aS rfl (pX (aA rfl) eF.of (aH hS rfl) (bo (aH hS rfl)) aJp (sO cK h23))),
      fun S hS => aK rfl (aS rfl (jU (aA rfl) yV rfl (pa2 (aH hS rfl) (pa2 (aH hS rfl) pan)) (rows := ([x20, x22]).map pQ) rfl (dE (f := pQ) fun _ => rfl) rfl (by decide))),
      fun S hS => aK rfl (aS rfl (nY (aA rfl) (.func _ _ Try.call84) (ev2 (aH hS rfl) evn) rfl (xN _ h25))),
      fun S hS => aK rfl (aS rfl (aC (v := .fn 50 [.bp bb_b bb_o 0, .bp pl_b pl_o 0, .bp wk_b wk_o 0, .bp ms_b ms_o 0, .bp be_b be_o 0, .bp wo_b wo_o 0]) (aA rfl) (aH hS rfl) rfl)), trivial⟩⟩
         · exact eJ (aO rfl (aO rfl (aO rfl (aO rfl (aO rfl (aZ ⟨rfl, rfl, rfl, rfl, rfl, rfl, rfl, rfl, rfl, trivial⟩))))))
        ·obtain ⟨r26, h27, h⟩ := bind_some h
         refine bR rfl (dP (passed := [.box book_b book_o (cE (bW.mk (aM.mk b_0_6.Ledger.Players b_0_6.Ledger.Counts x16 b_0_6.Ledger.Bans b_0_6.Ledger.Frozen))), .box bb_b bb_o [gK book_b book_o 0], .box pl_b pl_o [.lit (.int .i64 pl)], .box wk_b wk_o [.lit (.int .i64 wk)], .box ms_b ms_o [.lit (.bool b_0_6_4)], .box be_b be_o [.lit (.int .i64 b_0_6_5)], .box wo_b wo_o [.lit (.int .i64 b_0_6_6)]]) (aA rfl) rfl (.func _ _ Try.call49) rfl rfl (ih (bW.mk (aM.mk b_0_6.Ledger.Players b_0_6.Ledger.Counts x16 b_0_6.Ledger.Bans b_0_6.Ledger.Frozen)) pl wk b_0_6_4 b_0_6_5 b_0_6_6 week_1 x18 r24 h27)) ?_
         rintro _ ⟨_, _, ⟨rfl, rfl⟩, rfl⟩
         refine eH ?_
         refine aE ?_
         refine tr1 rfl (bA (aA rfl) rfl rfl rfl) ?_
         refine tr1 rfl (aC (v := .d (.lit (.int .i64 ((w64 (t31_0_6 + 1)))))) (aA rfl) rfl rfl) ?_
         refine aF ?_
         exact ⟨(w64 (t31_0_6 + 1), r26.1, r26.2.1, r26.2.2.1, r26.2.2.2), h, aY [0, 1, 2, 3, 4, 5, 6] rfl rfl (aO rfl (aZ ⟨rfl, rfl, rfl, rfl, rfl, rfl, rfl, rfl, trivial⟩))⟩
      ·have h := aQ c8 h
       refine cX ?_
       refine .inl ⟨rfl, ?_⟩
       simp only [oF] at h
       refine aE ?_
       refine tr1 rfl (aC (v := .bp book_b book_o 0) (aA rfl) rfl rfl) ?_
       refine tr1 rfl (aC (v := .bp book_b book_o 0) (aA rfl) rfl rfl) ?_
       refine tr1 rfl (lD (aA rfl) rfl) ?_
       refine tr1 rfl (aP (aA rfl) rfl iU) ?_
       refine tr1 rfl (aP (aA rfl) rfl dZ) ?_
       refine tr1 rfl (aT (aA rfl) rfl (i := 0) rfl rfl iG) ?_
       refine tr1 rfl (aC (v := .d (.lit (.int .i64 ((book.Ledger.Reports.length : Int))))) (aA rfl) rfl rfl) ?_
       obtain ⟨x28, h29, h⟩ := bind_some h
       refine tr1 rfl (pX (aA rfl) cA.of rfl rfl rfl (sO aD h29)) ?_
       refine tr1 rfl (lD (aA rfl) rfl) ?_
       refine tr1 rfl (aP (aA rfl) rfl iU) ?_
       refine tr1 rfl (aP (aA rfl) rfl dZ) ?_
       refine tr1 rfl (bX (i := 0) rfl rfl rfl rfl rfl Try.sizeOf22 rfl (aA rfl) (Nat.le_of_ble_eq_true rfl) (ds' := (cE (bW.mk (aM.mk b_0_6.Ledger.Players b_0_6.Ledger.Counts x28 b_0_6.Ledger.Bans b_0_6.Ledger.Frozen)))) rfl) ?_
       refine aF ?_
       have h := Option.some.inj h
       subst h
       exact ⟨_, [.box book_b book_o (cE (bW.mk (aM.mk b_0_6.Ledger.Players b_0_6.Ledger.Counts x28 b_0_6.Ledger.Bans b_0_6.Ledger.Frozen))), .box bb_b bb_o [gK book_b book_o 0], .box pl_b pl_o [.lit (.int .i64 pl)], .box wk_b wk_o [.lit (.int .i64 wk)], .box ms_b ms_o [.lit (.bool b_0_6_4)], .box be_b be_o [.lit (.int .i64 b_0_6_5)], .box wo_b wo_o [.lit (.int .i64 b_0_6_6)]], [], _, .none, .refl _, .same _, rfl, rfl⟩
theorem xK (book : bW) (pl : Int) (wk : Int) (ms : Bool) (be : Int) (wo : Int) (week_1 : Int) (prizes_2 : List Int) (free_3 : List Int) {r : bW × Bool × Int × Int} {book_b book_o : Nat} {bb_b bb_o : Nat} {pl_b pl_o : Nat} {wk_b wk_o : Nat} {ms_b ms_o : Nat} {be_b be_o : Nat} {wo_b wo_o : Nat} (h : qC book pl wk ms be wo week_1 prizes_2 free_3 = some r) : fT Try.prog 49 [.bp book_b book_o 0, .d (.lit (.int .i64 week_1)), .d (.sl 1 (prizes_2.map cK)), .d (.sl 1 (free_3.map cK)), .fn 50 [.bp bb_b bb_o 0, .bp pl_b pl_o 0, .bp wk_b wk_o 0, .bp ms_b ms_o 0, .bp be_b be_o 0, .bp wo_b wo_o 0]] [.box book_b book_o (cE book), .box bb_b bb_o [gK book_b book_o 0], .box pl_b pl_o [.lit (.int .i64 pl)], .box wk_b wk_o [.lit (.int .i64 wk)], .box ms_b ms_o [.lit (.bool ms)], .box be_b be_o [.lit (.int .i64 be)], .box wo_b wo_o [.lit (.int .i64 wo)]] (fun r' o' => r' = .tup [] ∧ o' = [.box book_b book_o (cE r.1), .box bb_b bb_o [gK book_b book_o 0], .box pl_b pl_o [.lit (.int .i64 pl)], .box wk_b wk_o [.lit (.int .i64 wk)], .box ms_b ms_o [.lit (.bool r.2.1)], .box be_b be_o [.lit (.int .i64 r.2.2.1)], .box wo_b wo_o [.lit (.int .i64 r.2.2.2)]]) := wX BIG _ _ _ _ _ _ _ _ _ h

theorem uQ (l_0 : aM) (player_1 : Int) (week_2 : Int) (prizes_3 : List Int) {r : Int × Int × Int} (h : oE l_0 player_1 week_2 prizes_3 = some r) : Fn Try.prog 17 [.agg (aU l_0), .d (.lit (.int .i64 player_1)), .d (.lit (.int .i64 week_2)), .d (.sl 1 (prizes_3.map cK))] (.tup [.d (.lit (.int .i64 r.1)), .d (.lit (.int .i64 r.2.1)), .d (.lit (.int .i64 r.2.2))]) := by
 unfold oE at h
 refine qP Try.func17 rfl (rs := [.cell 8 3, .cell 9 3, .tmp 10]) Try.results17 Try.ntmps17 (Nat.le_of_ble_eq_true rfl) ?_
 refine aG ?_
 refine aE ?_
 refine bR rfl (fK (v := .agg (aU l_0)) (aA rfl) rfl rfl rfl) ?_
 rintro _ ⟨b1, rfl⟩
 refine bR rfl (fK (v := .d (.lit (.int .i64 player_1))) (aA rfl) rfl rfl rfl) ?_
 rintro _ ⟨b2, rfl⟩
 refine bR rfl (fK (v := .d (.lit (.int .i64 week_2))) (aA rfl) rfl rfl rfl) ?_
 rintro _ ⟨b3, rfl⟩
 refine bR rfl (fM (zs := [.lit (.int .i64 0)]) (aA rfl) Try.zeroValue3 rfl rfl) ?_
 rintro _ ⟨b4, rfl⟩
 refine bR rfl (fM (zs := [.lit (.int .i64 0)]) (aA rfl) Try.zeroValue3 rfl rfl) ?_
 rintro _ ⟨b5, rfl⟩
 refine tr1 rfl (aJ (v := .d (.lit (.int .i64 0))) (aA rfl) rfl rfl) ?_
 refine aF ?_
 refine aG ?_
 refine aE ?_
 refine tr1 rfl (cT (aA rfl) rfl (i := 0) rfl eQ (es := (aU l_0)) rfl rfl) ?_
 refine tr1 rfl (aT (aA rfl) rfl (i := 1) rfl rfl bG) ?_
 refine tr1 rfl (aT (aA rfl) rfl (i := 2) rfl rfl bG) ?_
 obtain ⟨r6, h7, h⟩ := bind_some h
 refine bR rfl (dP (passed := []) (aA rfl) rfl (.func _ _ Try.call44) rfl rfl (tV _ _ _ h7)) ?_
 rintro _ ⟨_, _, ⟨b9, w10, rfl, rfl⟩, rfl⟩
 obtain ⟨_ | y8, e11⟩ := r6
 ·have h := yJ h
  refine gI (aY [0, 1, 2, 3, 4] rfl rfl (le_refl _)) ?_
  refine tr1 rfl (aC (v := .tup [.d (.lit (.pointer none)), .d (.lit (.int .i64 e11))]) (aA rfl) rfl rfl) ?_
  refine tr1 rfl (cU (aA rfl) rfl rfl) ?_
  refine tr1 rfl (cU (aA rfl) rfl rfl) ?_
  refine bR rfl (fM (zs := [.lit (.pointer none)]) (aA rfl) Try.zeroValue70 rfl rfl) ?_
  rintro _ ⟨b12, rfl⟩
  refine tr1 rfl (bX (i := 5) rfl rfl rfl rfl rfl Try.sizeOf70 rfl (aA rfl) (Nat.le_of_ble_eq_true rfl) (ds' := [.lit (.pointer none)]) rfl) ?_
  refine tr1 rfl (aJ (v := .d (.lit (.int .i64 e11))) (aA rfl) rfl rfl) ?_
  refine aF ?_
  refine aG ?_
  refine aG ?_
  refine aE ?_
  refine tr1 rfl (aC (v := .d (.lit (.int .i64 e11))) (aA rfl) rfl rfl) ?_
  refine tr1 rfl (bC (aA rfl) rfl rfl rfl) ?_
  refine aF ?_
  refine bN rfl (fun c13 => ?_) (fun c13 => ?_)
  ·have h := aR c13 h
   refine aG ?_
   refine aE ?_
   refine tr1 rfl (aC (v := .d (.lit (.int .i64 e11))) (aA rfl) rfl rfl) ?_
   refine tr1 rfl (bX (i := 3) rfl rfl rfl rfl rfl Try.sizeOf3 rfl (aA rfl) (Nat.le_of_ble_eq_true rfl) (ds' := [.lit (.int .i64 0)]) rfl) ?_
   refine tr1 rfl (bX (i := 4) rfl rfl rfl rfl rfl Try.sizeOf3 rfl (aA rfl) (Nat.le_of_ble_eq_true rfl) (ds' := [.lit (.int .i64 0)]) rfl) ?_
   refine tr1 rfl (aJ (v := .d (.lit (.int .i64 e11))) (aA rfl) rfl rfl) ?_
   refine aF ?_
   have h := Option.some.inj h
   subst h
   exact bL ⟨rfl, _, [.box b1 0 (aU l_0), .box b2 0 [.lit (.int .i64 player_1)], .box b3 0 [.lit (.int .i64 week_2)], .box b4 0 [.lit (.int .i64 0)], .box b5 0 [.lit (.int .i64 0)], .box b12 0 [.lit (.pointer none)]], .three (.cell1 8 3 rfl (i := 3) rfl bG rfl) (.cell1 9 3 rfl (i := 4) rfl bG rfl) (.tmp 10 (v := .d (.lit (.int .i64 e11))) rfl), .refl _, .same _⟩
  ·have h := aQ c13 h
   refine bH ?_
   refine aG ?_
   refine aG ?_
   refine aE ?_
   refine tr1 rfl (aC (v := .d (.sl 1 (prizes_3.map cK))) (aA rfl) rfl rfl) ?_
   refine tr1 rfl (dM (aA rfl) rfl eF.of) ?_
   refine tr1 rfl (bC (aA rfl) rfl rfl rfl) ?_
   refine tr1 rfl (aC (v := .d (.lit (.bool ((decide (4 < (prizes_3.length : Int))))))) (aA rfl) rfl rfl) ?_
   obtain ⟨b14, h15, h⟩ := bind_some h
   refine bQ 3 [3, 5, 6, 8, 9, 11] 31 b14 ?_ ?_
   ·refine bD (decide (4 < (prizes_3.length : Int))) (fun c18 => ?_) (fun c18 => ?_)
    ·have h15 := aR c18 h15
     refine aN rfl rfl (aA rfl) rfl (aA rfl) rfl c18 ?_
     refine aN rfl rfl (aA rfl) rfl (aA rfl) rfl c18 ?_
     refine tr1 rfl (bJ (v := .d (.lit (.bool true))) (aA rfl) rfl c18 rfl rfl) ?_
     have h15 := Option.some.inj h15
     subst h15
     refine aF (aW rfl ⟨rfl, rfl, rfl, rfl, rfl, rfl, trivial⟩ rfl)
    ·have h15 := aQ c18 h15
     refine aL rfl rfl (aA rfl) rfl c18 (aC (v := .d (.sl 1 (prizes_3.map cK))) (aA rfl) rfl rfl) ?_
     obtain ⟨r20, h21, h15⟩ := bind_some h15
     refine aL rfl rfl (aA rfl) rfl c18 (bY (aA rfl) (.func _ _ Try.call45) rfl rfl (BVs.refl _ _) (oY _ _ 46 [] Try.call46 (fun _ _ h15 => wK _ h15) h21) rfl) ?_
     refine tr1 rfl (bI (v := .d (.lit (.bool r20))) (aA rfl) rfl c18 rfl rfl) ?_
     have h15 := Option.some.inj h15
     subst h15
     refine aF (aW rfl ⟨rfl, rfl, rfl, rfl, rfl, rfl, trivial⟩ rfl)
   ·refine aF ?_
    refine bN rfl (fun c16 => ?_) (fun c16 => ?_)
    ·have h := aR c16 h
     refine aG ?_
     refine aE ?_
     refine tr1 rfl (bX (i := 3) rfl rfl rfl rfl rfl Try.sizeOf3 rfl (aA rfl) (Nat.le_of_ble_eq_true rfl) (ds' := [.lit (.int .i64 0)]) rfl) ?_
     refine tr1 rfl (bX (i := 4) rfl rfl rfl rfl rfl Try.sizeOf3 rfl (aA rfl) (Nat.le_of_ble_eq_true rfl) (ds' := [.lit (.int .i64 0)]) rfl) ?_
     refine tr1 rfl (aJ (v := .d (.lit (.int .i64 42))) (aA rfl) rfl rfl) ?_
     refine aF ?_
     have h := Option.some.inj h
     subst h
     exact bL ⟨rfl, _, [.box b1 0 (aU l_0), .box b2 0 [.lit (.int .i64 player_1)], .box b3 0 [.lit (.int .i64 week_2)], .box b4 0 [.lit (.int .i64 0)], .box b5 0 [.lit (.int .i64 0)], .box b12 0 [.lit (.pointer none)]], .three (.cell1 8 3 rfl (i := 3) rfl bG rfl) (.cell1 9 3 rfl (i := 4) rfl bG rfl) (.tmp 10 (v := .d (.lit (.int .i64 42))) rfl), .refl _, .same _⟩
    ·have h := aQ c16 h
     refine bH ?_
     refine aG ?_
     refine aE ?_
     refine tr1 rfl (kJ 3 1 (.inl rfl) (aA rfl)) ?_
     refine aF ?_
     refine aG ?_
     refine aG ?_
     refine aE ?_
     refine tr1 rfl (aT (aA rfl) rfl (i := 5) rfl rfl wJ) ?_
     cases h
 ·have h := yK h
  refine gI (aY [0, 1, 2, 3, 4, 5, 6] rfl rfl (le_refl _)) ?_
  refine tr1 rfl (aC (v := .tup [.bp b9 0 0, .d (.lit (.int .i64 e11))]) (aA rfl) rfl rfl) ?_
  refine tr1 rfl (cU (aA rfl) rfl rfl) ?_
  refine tr1 rfl (cU (aA rfl) rfl rfl) ?_
  refine bR rfl (fM (zs := [.lit (.pointer none)]) (aA rfl) Try.zeroValue70 rfl rfl) ?_
  rintro _ ⟨b22, rfl⟩
  refine gI (aIw 20 rfl) ?_
  refine tr1 rfl (bX (i := 7) rfl rfl rfl rfl rfl Try.sizeOf70 rfl (aA rfl) (Nat.le_of_ble_eq_true rfl) (ds' := [gK b9 0 0]) rfl) ?_
  refine tr1 rfl (aJ (v := .d (.lit (.int .i64 e11))) (aA rfl) rfl rfl) ?_
  refine aF ?_
  refine aG ?_
  refine aG ?_
  refine aE ?_
  refine tr1 rfl (aC (v := .d (.lit (.int .i64 e11))) (aA rfl) rfl rfl) ?_
  refine tr1 rfl (bC (aA rfl) rfl rfl rfl) ?_
  refine aF ?_
  refine bN rfl (fun c23 => ?_) (fun c23 => ?_)
  ·have h := aR c23 h
   refine aG ?_
   refine aE ?_
   refine tr1 rfl (aC (v := .d (.lit (.int .i64 e11))) (aA rfl) rfl rfl) ?_
   refine tr1 rfl (bX (i := 5) rfl rfl rfl rfl rfl Try.sizeOf3 rfl (aA rfl) (Nat.le_of_ble_eq_true rfl) (ds' := [.lit (.int .i64 0)]) rfl) ?_
   refine tr1 rfl (bX (i := 6) rfl rfl rfl rfl rfl Try.sizeOf3 rfl (aA rfl) (Nat.le_of_ble_eq_true rfl) (ds' := [.lit (.int .i64 0)]) rfl) ?_
   refine tr1 rfl (aJ (v := .d (.lit (.int .i64 e11))) (aA rfl) rfl rfl) ?_
   refine aF ?_
   have h := Option.some.inj h
   subst h
   exact bL ⟨rfl, _, [.box b9 0 [.lit (.int .i64 y8.Ledger.Players), .lit (.int .i64 y8.Ledger.Counts), .lit w10, .sl 3 (y8.Ledger.Bans.map aI), .sl 3 (y8.Ledger.Frozen.map aI)], .arr w10 42 5 (y8.Ledger.Reports.map aD), .box b1 0 (aU l_0), .box b2 0 [.lit (.int .i64 player_1)], .box b3 0 [.lit (.int .i64 week_2)], .box b4 0 [.lit (.int .i64 0)], .box b5 0 [.lit (.int .i64 0)], .box b22 0 [gK b9 0 0]], .three (.cell1 8 3 rfl (i := 5) rfl bG rfl) (.cell1 9 3 rfl (i := 6) rfl bG rfl) (.tmp 10 (v := .d (.lit (.int .i64 e11))) rfl), .refl _, .same _⟩
  ·have h := aQ c23 h
   refine bH ?_
   refine aG ?_
   refine aG ?_
   refine aE ?_
   refine tr1 rfl (aC (v := .d (.sl 1 (prizes_3.map cK))) (aA rfl) rfl rfl) ?_
   refine tr1 rfl (dM (aA rfl) rfl eF.of) ?_
   refine tr1 rfl (bC (aA rfl) rfl rfl rfl) ?_
   refine tr1 rfl (aC (v := .d (.lit (.bool ((decide (4 < (prizes_3.length : Int))))))) (aA rfl) rfl rfl) ?_
   obtain ⟨b24, h25, h⟩ := bind_some h
   refine bQ 3 [3, 5, 6, 8, 9, 11] 31 b24 ?_ ?_
   ·refine bD (decide (4 < (prizes_3.length : Int))) (fun c43 => ?_) (fun c43 => ?_)
    ·have h25 := aR c43 h25
     refine aN rfl rfl (aA rfl) rfl (aA rfl) rfl c43 ?_
     refine aN rfl rfl (aA rfl) rfl (aA rfl) rfl c43 ?_
     refine tr1 rfl (bJ (v := .d (.lit (.bool true))) (aA rfl) rfl c43 rfl rfl) ?_
     have h25 := Option.some.inj h25
     subst h25
     refine aF (aW rfl ⟨rfl, rfl, rfl, rfl, rfl, rfl, trivial⟩ rfl)
    ·have h25 := aQ c43 h25
     refine aL rfl rfl (aA rfl) rfl c43 (aC (v := .d (.sl 1 (prizes_3.map cK))) (aA rfl) rfl rfl) ?_
     obtain ⟨r45, h46, h25⟩ := bind_some h25
     refine aL rfl rfl (aA rfl) rfl c43 (bY (aA rfl) (.func _ _ Try.call45) rfl rfl (BVs.refl _ _) (oY _ _ 46 [] Try.call46 (fun _ _ h25 => wK _ h25) h46) rfl) ?_
     refine tr1 rfl (bI (v := .d (.lit (.bool r45))) (aA rfl) rfl c43 rfl rfl) ?_
     have h25 := Option.some.inj h25
     subst h25
     refine aF (aW rfl ⟨rfl, rfl, rfl, rfl, rfl, rfl, trivial⟩ rfl)
   ·refine aF ?_
    refine bN rfl (fun c26 => ?_) (fun c26 => ?_)
    ·have h := aR c26 h
     refine aG ?_
     refine aE ?_
     refine tr1 rfl (bX (i := 5) rfl rfl rfl rfl rfl Try.sizeOf3 rfl (aA rfl) (Nat.le_of_ble_eq_true rfl) (ds' := [.lit (.int .i64 0)]) rfl) ?_
     refine tr1 rfl (bX (i := 6) rfl rfl rfl rfl rfl Try.sizeOf3 rfl (aA rfl) (Nat.le_of_ble_eq_true rfl) (ds' := [.lit (.int .i64 0)]) rfl) ?_
     refine tr1 rfl (aJ (v := .d (.lit (.int .i64 42))) (aA rfl) rfl rfl) ?_
     refine aF ?_
     have h := Option.some.inj h
     subst h
     exact bL ⟨rfl, _, [.box b9 0 [.lit (.int .i64 y8.Ledger.Players), .lit (.int .i64 y8.Ledger.Counts), .lit w10, .sl 3 (y8.Ledger.Bans.map aI), .sl 3 (y8.Ledger.Frozen.map aI)], .arr w10 42 5 (y8.Ledger.Reports.map aD), .box b1 0 (aU l_0), .box b2 0 [.lit (.int .i64 player_1)], .box b3 0 [.lit (.int .i64 week_2)], .box b4 0 [.lit (.int .i64 0)], .box b5 0 [.lit (.int .i64 0)], .box b22 0 [gK b9 0 0]], .three (.cell1 8 3 rfl (i := 5) rfl bG rfl) (.cell1 9 3 rfl (i := 6) rfl bG rfl) (.tmp 10 (v := .d (.lit (.int .i64 42))) rfl), .refl _, .same _⟩
    ·have h := aQ c26 h
     refine bH ?_
     refine aG ?_
     refine aE ?_
     refine tr1 rfl (kJ 3 1 (.inl rfl) (aA rfl)) ?_
     refine aF ?_
     refine aG ?_
     refine aG ?_
     refine aE ?_
     refine tr1 rfl (tF (i := 7) (aA rfl) rfl rfl rfl wJ) ?_
     refine tr1 rfl (lD (aA rfl) rfl) ?_
     refine tr1 rfl (aP (aA rfl) rfl iU) ?_
     refine tr1 rfl (aP (aA rfl) rfl gZ) ?_
     refine tr1 rfl (aT (aA rfl) rfl (i := 0) rfl rfl bG) ?_
     refine tr1 rfl (aC (v := .d (.lit (.int .i64 0))) (aA rfl) rfl rfl) ?_
     refine aF ?_
     refine bT ?_
     refine cM [3, 5, 6, 8, 9, 11, 36] (fun (s28 : Int × (List Int) × Value) => [(12, .d (.lit s28.2.2)), (37, .d (.lit (.int .i64 s28.1)))]) (fun (s28 : Int × (List Int) × Value) => [.box b2 0 [.lit (.int .i64 player_1)], .box b3 0 [.lit (.int .i64 week_2)], .box b4 0 [.lit (.int .i64 0)], .box b5 0 [.lit (.int .i64 0)], .box b22 0 [gK b9 0 0], .arr s28.2.2 3 1 (s28.2.1.map cK), .arr w10 42 5 (y8.Ledger.Reports.map aD), .box b9 0 [.lit (.int .i64 y8.Ledger.Players), .lit (.int .i64 y8.Ledger.Counts), .lit w10, .sl 3 (y8.Ledger.Bans.map aI), .sl 3 (y8.Ledger.Frozen.map aI)]]) (fun (k : Nat) (s28 : Int × (List Int) × Value) => kI prizes_3 y8.Ledger.Players player_1 week_2 0 0 y8.Ledger.Reports y8.Ledger.Players y8.Ledger.Counts y8.Ledger.Bans y8.Ledger.Frozen k s28.1 s28.2.1) (fun _ => rfl) (0, ([] : List Int), (.slice none 0 0)) h (aY [3, 4, 5, 6, 7, 8, 1, 0] rfl rfl (aO rfl (aO rfl (aZ ⟨rfl, rfl, rfl, rfl, rfl, rfl, rfl, trivial⟩)))) ?_
     rintro k30 ⟨t37_0_28, free_0_28, w29⟩ h
     simp only [kI] at h
     refine aG ?_
     refine aE ?_
     refine tr1 rfl (bC (aA rfl) rfl rfl rfl) ?_
     refine aF ?_
     refine aG ?_
     refine bN rfl (fun c31 => ?_) (fun c31 => ?_)
     ·have h := aR c31 h
      refine bH ?_
      refine aG ?_
      refine bT ?_
      refine aG ?_
      refine aE ?_
      refine tr1 rfl (aC (v := .d (.lit (.int .i64 t37_0_28))) (aA rfl) rfl rfl) ?_
      refine tr1 rfl (aJ (v := .d (.lit (.int .i64 t37_0_28))) (aA rfl) rfl rfl) ?_
      refine aF ?_
      refine aG ?_
      refine hH mix 7 [3, 5, 6, 8, 9, 11, 12, 13, 36, 37] [(44, .d (.sl 3 (y8.Ledger.Bans.map aI))), (45, .d (.lit (.int .i64 t37_0_28))), (46, .d (.lit (.int .i64 week_2)))] ?_ ?_
      ·refine ⟨[(40, 0, .bp b9 0 0), (41, 1, .bp b9 0 0), (42, 2, .bp b9 0 0), (43, 3, .bp b9 0 3), (44, 4, .d (.sl 3 (y8.Ledger.Bans.map aI))), (45, 5, .d (.lit (.int .i64 t37_0_28))), (46, 6, .d (.lit (.int .i64 week_2)))], ?_, ?_⟩
       · exact ⟨by kernel_rfl, by kernel_rfl, by kernel_rfl, by kernel_rfl, by kernel_rfl, [([], []), ([0], []), ([1], []), ([2], []), ([3], []), ([], []), ([], [])], by kernel_rfl, ⟨fun S hS => aK rfl (aS rfl (tF (i := 4) (aA rfl) (aH hS rfl) rfl rfl wJ)),
      fun S hS => aK rfl (aS rfl (lD (aA rfl) (aH hS rfl))),
      fun S hS => aK rfl (aS rfl (aP (aA rfl) (aH hS rfl) iU)),
      fun S hS => aK rfl (aS rfl (aP (aA rfl) (aH hS rfl) mL)),
      fun S hS => aK rfl (aS rfl (aT (aA rfl) (aH hS rfl) (i := 7) rfl rfl jM)),
      fun S hS => aK rfl (aS rfl (aC (v := .d (.lit (.int .i64 t37_0_28))) (aA rfl) (aH hS rfl) rfl)),
      fun S hS => aK rfl (aS rfl (aT (aA rfl) (aH hS rfl) (i := 1) rfl rfl bG)), trivial⟩⟩
       · exact eJ (aO rfl (aO rfl (aO rfl (aZ ⟨rfl, rfl, rfl, rfl, rfl, rfl, rfl, rfl, rfl, rfl, trivial⟩))))
      ·obtain ⟨r32, h33, h⟩ := bind_some h
       refine tr1 rfl (bY (aA rfl) (.func _ _ Try.call48) rfl rfl (BVs.refl _ _) (vX _ _ _ h33) rfl) ?_
       refine tr1 rfl (fD (aA rfl) rfl) ?_
       refine aF ?_
       refine bN rfl (fun c34 => ?_) (fun c34 => ?_)
       ·have h := aR c34 h
        refine aE ?_
        refine tr1 rfl (aC (v := .d (.lit w29)) (aA rfl) rfl rfl) ?_
        refine tr1 rfl (aC (v := .d (.lit (.int .i64 t37_0_28))) (aA rfl) rfl rfl) ?_
        refine tr1 rfl (jU (aA rfl) eF rfl rfl (rows := ([t37_0_28]).map cK) rfl (dE (f := cK) fun _ => rfl) rfl (by decide)) ?_
        obtain ⟨x35, h36, h⟩ := bind_some h
        refine bR rfl (mD (i := 5) (aA rfl) eF rfl rfl rfl (fun _ => rfl) h36 rfl) ?_
        rintro _ ⟨v37, rfl⟩
        refine tr1 rfl (aJ (v := .d (.lit v37)) (aA rfl) rfl rfl) ?_
        refine eH ?_
        refine aE ?_
        refine tr1 rfl (bA (aA rfl) rfl rfl rfl) ?_
        refine tr1 rfl (aC (v := .d (.lit (.int .i64 ((w64 (t37_0_28 + 1)))))) (aA rfl) rfl rfl) ?_
        refine aF ?_
        exact ⟨(w64 (t37_0_28 + 1), x35, v37), h, aY [0, 1, 2, 3, 4, 5, 6, 7] rfl rfl (aO rfl (aO rfl (aZ ⟨rfl, rfl, rfl, rfl, rfl, rfl, rfl, trivial⟩)))⟩
       ·have h := aQ c34 h
        refine eR ?_
        refine aE ?_
        refine tr1 rfl (bA (aA rfl) rfl rfl rfl) ?_
        refine tr1 rfl (aC (v := .d (.lit (.int .i64 ((w64 (t37_0_28 + 1)))))) (aA rfl) rfl rfl) ?_
        refine aF ?_
        exact ⟨(w64 (t37_0_28 + 1), free_0_28, w29), h, aY [0, 1, 2, 3, 4, 5, 6, 7] rfl rfl (aO rfl (aO rfl (aZ ⟨rfl, rfl, rfl, rfl, rfl, rfl, rfl, trivial⟩)))⟩
     ·have h := aQ c31 h
      refine cX ?_
      refine .inl ⟨rfl, ?_⟩
      simp only [qU] at h
      refine aG ?_
      refine aE ?_
      refine tr1 rfl (tF (i := 4) (aA rfl) rfl rfl rfl wJ) ?_
      refine tr1 rfl (lD (aA rfl) rfl) ?_
      refine tr1 rfl (aP (aA rfl) rfl iU) ?_
      refine tr1 rfl (aP (aA rfl) rfl gZ) ?_
      refine tr1 rfl (aT (aA rfl) rfl (i := 7) rfl rfl bG) ?_
      refine tr1 rfl (bA (aA rfl) rfl rfl rfl) ?_
      refine tr1 rfl (bX (i := 2) rfl rfl rfl rfl rfl Try.sizeOf3 rfl (aA rfl) (Nat.le_of_ble_eq_true rfl) (ds' := [.lit (.int .i64 ((w64 (y8.Ledger.Players + 1))))]) rfl) ?_
      refine tr1 rfl (bX (i := 3) rfl rfl rfl rfl rfl Try.sizeOf3 rfl (aA rfl) (Nat.le_of_ble_eq_true rfl) (ds' := [.lit (.int .i64 0)]) rfl) ?_
      refine aF ?_
      refine aG ?_
      refine aE ?_
      refine bR rfl (fM (zs := [.lit (.bool false)]) (aA rfl) Try.zeroValue4 rfl rfl) ?_
      rintro _ ⟨b38, rfl⟩
      refine tr1 rfl (bX (i := 8) rfl rfl rfl rfl rfl Try.sizeOf4 rfl (aA rfl) (Nat.le_of_ble_eq_true rfl) (ds' := [.lit (.bool false)]) rfl) ?_
      refine aF ?_
      refine aG ?_
      refine aE ?_
      refine tr1 rfl (tF (i := 4) (aA rfl) rfl rfl rfl wJ) ?_
      refine tr1 rfl (aT (aA rfl) rfl (i := 1) rfl rfl bG) ?_
      refine tr1 rfl (aC (v := .d (.sl 1 (prizes_3.map cK))) (aA rfl) rfl rfl) ?_
      refine tr1 rfl (aC (v := .d (.lit w29)) (aA rfl) rfl rfl) ?_
      refine tr1 rfl (yQ (aA rfl) rfl rfl) ?_
      refine gI (aY [0, 1, 2, 3, 4, 6, 7, 8, 5] rfl rfl (le_refl _)) ?_
      refine gI (aBo [.box b2 0 [.lit (.int .i64 player_1)], .box b3 0 [.lit (.int .i64 week_2)], .box b4 0 [.lit (.int .i64 ((w64 (y8.Ledger.Players + 1))))], .box b5 0 [.lit (.int .i64 0)], .box b22 0 [gK b9 0 0], .arr w10 42 5 (y8.Ledger.Reports.map aD), .box b9 0 [.lit (.int .i64 y8.Ledger.Players), .lit (.int .i64 y8.Ledger.Counts), .lit w10, .sl 3 (y8.Ledger.Bans.map aI), .sl 3 (y8.Ledger.Frozen.map aI)], .box b38 0 [.lit (.bool false)]] [.arr w29 3 1 (free_0_28.map cK)] rfl (jZ (k := 63) (v := .d (.sl 1 (free_0_28.map cK))) (.d (jL 0 rfl (dE (f := cK) fun _ => rfl))) (jZ (k := 12) (v := .d (.sl 1 (free_0_28.map cK))) (.d (jL 0 rfl (dE (f := cK) fun _ => rfl))) (uE _ _)))) ?_
      refine gI (aY [6, 0, 1, 2, 3, 4, 7, 5] rfl rfl (le_refl _)) ?_
      refine gI (aFt (ds' := (cE y8)) [.box b2 0 [.lit (.int .i64 player_1)], .box b3 0 [.lit (.int .i64 week_2)], .box b4 0 [.lit (.int .i64 ((w64 (y8.Ledger.Players + 1))))], .box b5 0 [.lit (.int .i64 0)], .box b22 0 [gK b9 0 0], .box b38 0 [.lit (.bool false)]] [.arr w10 42 5 (y8.Ledger.Reports.map aD)] rfl (dvc (.same _) (dvc (.same _) (dvc (jL 0 rfl (dE (f := aD) fun _ => rfl)) (dvc (.same _) (dvc (.same _) dvn))))) (uE _ _)) ?_
      obtain ⟨r39, h40, h⟩ := bind_some h
      refine gI (aY [0, 5, 1, 2, 6, 3, 4] rfl rfl (le_refl _)) ?_
      refine bR rfl (dP (passed := [.box b9 0 (cE y8), .box b22 0 [gK b9 0 0], .box b2 0 [.lit (.int .i64 player_1)], .box b3 0 [.lit (.int .i64 week_2)], .box b38 0 [.lit (.bool false)], .box b4 0 [.lit (.int .i64 ((w64 (y8.Ledger.Players + 1))))], .box b5 0 [.lit (.int .i64 0)]]) (aA rfl) rfl (.func _ _ Try.call49) rfl rfl (xK y8 player_1 week_2 false (w64 (y8.Ledger.Players + 1)) 0 week_2 prizes_3 free_0_28 h40)) ?_
      rintro _ ⟨_, _, ⟨rfl, rfl⟩, rfl⟩
      refine aF ?_
      refine aG ?_
      refine aG ?_
      refine aE ?_
      refine tr1 rfl (aT (aA rfl) rfl (i := 4) rfl rfl sT) ?_
      refine aF ?_
      refine bN rfl (fun c41 => ?_) (fun c41 => ?_)
      ·have h := aR c41 h
       refine aG ?_
       refine aE ?_
       refine tr1 rfl (bX (i := 5) rfl rfl rfl rfl rfl Try.sizeOf3 rfl (aA rfl) (Nat.le_of_ble_eq_true rfl) (ds' := [.lit (.int .i64 0)]) rfl) ?_
       refine tr1 rfl (bX (i := 6) rfl rfl rfl rfl rfl Try.sizeOf3 rfl (aA rfl) (Nat.le_of_ble_eq_true rfl) (ds' := [.lit (.int .i64 0)]) rfl) ?_
       refine tr1 rfl (aJ (v := .d (.lit (.int .i64 3))) (aA rfl) rfl rfl) ?_
       refine aF ?_
       have h := Option.some.inj h
       subst h
       exact bL ⟨rfl, _, [.box b9 0 (cE r39.1), .box b22 0 [gK b9 0 0], .box b2 0 [.lit (.int .i64 player_1)], .box b3 0 [.lit (.int .i64 week_2)], .box b38 0 [.lit (.bool r39.2.1)], .box b4 0 [.lit (.int .i64 0)], .box b5 0 [.lit (.int .i64 0)]], .three (.cell1 8 3 rfl (i := 5) rfl bG rfl) (.cell1 9 3 rfl (i := 6) rfl bG rfl) (.tmp 10 (v := .d (.lit (.int .i64 3))) rfl), .refl _, .same _⟩
      ·have h := aQ c41 h
       refine bH ?_
       refine aG ?_
       refine nG mix 3 [8, 9] (fun X42 => [(68, .d (.lit (.int .i64 r39.2.2.2)))]) (fun X42 => [.box b9 0 (cE r39.1), .box b22 0 [gK b9 0 0], .box b2 0 [.lit (.int .i64 player_1)], .box b3 0 [.lit (.int .i64 week_2)], .box b38 0 [.lit (.bool r39.2.1)], .box b4 0 [.lit (.int .i64 r39.2.2.1)], .box b5 0 [.lit (.int .i64 r39.2.2.2)]]) ?_ ?_
       ·refine ⟨0, fun X42 => [(67, 0, .d (.lit (.int .i64 r39.2.2.1))), (68, 1, .d (.lit (.int .i64 r39.2.2.2)))], fun X42 => [([], .box b9 0 (cE r39.1)), ([], .box b22 0 [gK b9 0 0]), ([], .box b2 0 [.lit (.int .i64 player_1)]), ([], .box b3 0 [.lit (.int .i64 week_2)]), ([], .box b38 0 [.lit (.bool r39.2.1)]), ([(2, .box b4 0 [.lit (.int .i64 r39.2.2.1)])], .box b4 0 [.lit (.int .i64 r39.2.2.1)]), ([], .box b5 0 [.lit (.int .i64 r39.2.2.2)])], ?_, ?_⟩
        · exact ⟨by kernel_rfl, by kernel_rfl, by kernel_rfl, fun _ => by kernel_rfl, fun _ => by kernel_rfl, fun _ => by kernel_rfl, fun _ => rfl, [([], [2]), ([], []), ([0], [])], by kernel_rfl, ⟨fun X42 S hw hi hS => bO (X := X42) rfl (hw X42) rfl (aS rfl (aT (aA rfl) (aH hS rfl) (i := 5) (og hS rfl rfl) rfl bG)),
      fun X42 S hw hi hS => bO (X := X42) rfl (hw X42) rfl (aS rfl (aT (aA rfl) (aH hS rfl) (i := 6) (og hS rfl rfl) rfl bG)),
      fun X42 S hw hi hS => rJ (X := X42) hS rfl rfl rfl (p := 5) rfl rfl (aS rfl (bX (i := 5) (aH hS rfl) (og hS rfl rfl) (aH hS rfl) rfl rfl Try.sizeOf3 rfl (aA rfl) (Nat.le_of_ble_eq_true rfl) (ds' := [.lit (.int .i64 r39.2.2.1)]) rfl)), trivial⟩⟩
        · exact fun X42 => eJ (aO rfl (aZ ⟨rfl, rfl, trivial⟩))
       ·intro X42
        refine tr1 rfl (bX (i := 6) rfl rfl rfl rfl rfl Try.sizeOf3 rfl (aA rfl) (Nat.le_of_ble_eq_true rfl) (ds' := [.lit (.int .i64 r39.2.2.2)]) rfl) ?_
        refine tr1 rfl (aJ (v := .d (.lit (.int .i64 0))) (aA rfl) rfl rfl) ?_
        refine aF ?_
        have h := Option.some.inj h
        subst h
        exact bL ⟨rfl, _, [.box b9 0 (cE r39.1), .box b22 0 [gK b9 0 0], .box b2 0 [.lit (.int .i64 player_1)], .box b3 0 [.lit (.int .i64 week_2)], .box b38 0 [.lit (.bool r39.2.1)], .box b4 0 [.lit (.int .i64 r39.2.2.1)], .box b5 0 [.lit (.int .i64 r39.2.2.2)]], .three (.cell1 8 3 rfl (i := 5) rfl bG rfl) (.cell1 9 3 rfl (i := 6) rfl bG rfl) (.tmp 10 (v := .d (.lit (.int .i64 0))) rfl), .refl _, .same _⟩

theorem tB (b_0 : bW) (player_1 : Int) (week_2 : Int) {r : Int} (h : oG b_0 player_1 week_2 = some r) : Fn Try.prog 55 [.cp (cE b_0), .d (.lit (.int .i64 player_1)), .d (.lit (.int .i64 week_2))] (.d (.lit (.int .i64 r))) := by
 unfold oG at h
 refine Fn.of_tr Try.func55 rfl (rs := [.tmp 6]) Try.results55 Try.ntmps55 (Nat.le_of_ble_eq_true rfl) ?_
 refine aG ?_
 refine aE ?_
 refine tr1 rfl (aJ (v := .d (.lit (.int .i64 0))) (aA rfl) rfl rfl) ?_
 refine aF ?_
 refine aG ?_
 refine aE ?_
 refine tr1 rfl (aC (v := .cp [.lit (.int .i64 b_0.Ledger.Players), .lit (.int .i64 b_0.Ledger.Counts), .sl 5 (b_0.Ledger.Reports.map aD), .sl 3 (b_0.Ledger.Bans.map aI), .sl 3 (b_0.Ledger.Frozen.map aI)]) (aA rfl) rfl rfl) ?_
 refine tr1 rfl (aC (v := .cp [.lit (.int .i64 b_0.Ledger.Players), .lit (.int .i64 b_0.Ledger.Counts), .sl 5 (b_0.Ledger.Reports.map aD), .sl 3 (b_0.Ledger.Bans.map aI), .sl 3 (b_0.Ledger.Frozen.map aI)]) (aA rfl) rfl rfl) ?_
 refine tr1 rfl (aC (v := .d (.lit (.int .i64 player_1))) (aA rfl) rfl rfl) ?_
 refine tr1 rfl (aC (v := .d (.lit (.int .i64 week_2))) (aA rfl) rfl rfl) ?_
 obtain ⟨r1, h2, h⟩ := bind_some h
 refine tr1 rfl (nY (aA rfl) (.func _ _ Try.call72) rfl rfl (tP _ _ _ h2)) ?_
 obtain ⟨r3, h4, h⟩ := bind_some h
 refine tr1 rfl (nY (aA rfl) (.func _ _ Try.call71) rfl rfl (tR _ _ h4)) ?_
 obtain ⟨r5, h6, h⟩ := bind_some h
 refine tr1 rfl (bY (aA rfl) (.func _ _ Try.call86) rfl rfl (BVs.refl _ _) (aBb _ h6) rfl) ?_
 refine tr1 rfl (aJ (v := .d (.lit (.int .i64 r5))) (aA rfl) rfl rfl) ?_
 refine aF ?_
 have h := Option.some.inj h
 subst h
 exact bL ⟨rfl, _, .one _, rfl, rfl⟩

theorem rY (s_0 : List aB) (f_1 : aB → Option Bool) {r : Int} (f_1_f : Nat) (f_1_v : List AV) (f_1_e : ∀ args w, (callFunc f_1_f args).run Try.prog w = .ok (.enter f_1_f args) w) (f_1_h : ∀ (x0 : aB) r, f_1 x0 = some r → Fn Try.prog f_1_f ([.agg (aD x0)] ++ f_1_v) (.d (.lit (.bool r)))) (h : lL s_0 f_1 = some r) : Fn Try.prog 75 [.d (.sl 5 (s_0.map aD)), .fn f_1_f f_1_v] (.d (.lit (.int .i64 r))) := by
 unfold lL at h
 refine Fn.of_tr Try.func75 rfl (rs := [.tmp 4]) Try.results75 Try.ntmps75 (Nat.le_of_ble_eq_true rfl) ?_
 refine aG ?_
 refine aE ?_
 refine tr1 rfl (aJ (v := .d (.lit (.int .i64 0))) (aA rfl) rfl rfl) ?_
 refine aF ?_
 refine aG ?_
 refine aG ?_
 refine aE ?_
 refine tr1 rfl (aC (v := .d (.sl 5 (s_0.map aD))) (aA rfl) rfl rfl) ?_
 refine tr1 rfl (dM (aA rfl) rfl cA.of) ?_
 refine tr1 rfl (aC (v := .d (.lit (.int .i64 0))) (aA rfl) rfl rfl) ?_
 refine aF ?_
 refine bT ?_
 refine cM [0, 1, 7] (fun (s1 : Int) => [(8, .d (.lit (.int .i64 s1)))]) (fun (s1 : Int) => []) (fun (k : Nat) (s1 : Int) => hY s_0 f_1 (s_0.length : Int) k s1) (fun _ => rfl) (0) h (aY [] rfl rfl (aO rfl (aZ ⟨rfl, rfl, rfl, trivial⟩))) ?_
 rintro k2 t8_0_1 h
 simp only [hY] at h
 refine aG ?_
 refine aE ?_
 refine tr1 rfl (bC (aA rfl) rfl rfl rfl) ?_
 refine aF ?_
 refine aG ?_
 refine bN rfl (fun c3 => ?_) (fun c3 => ?_)
 ·have h := aR c3 h
  refine bH ?_
  refine aG ?_
  refine bT ?_
  refine aG ?_
  refine aE ?_
  refine tr1 rfl (aC (v := .d (.lit (.int .i64 t8_0_1))) (aA rfl) rfl rfl) ?_
  refine tr1 rfl (aJ (v := .d (.lit (.int .i64 t8_0_1))) (aA rfl) rfl rfl) ?_
  refine aF ?_
  refine aG ?_
  refine aE ?_
  refine tr1 rfl (aC (v := .fn f_1_f f_1_v) (aA rfl) rfl rfl) ?_
  refine tr1 rfl (aC (v := .d (.sl 5 (s_0.map aD))) (aA rfl) rfl rfl) ?_
  refine tr1 rfl (aC (v := .d (.lit (.int .i64 t8_0_1))) (aA rfl) rfl rfl) ?_
  obtain ⟨x4, h5, h⟩ := bind_some h
  refine tr1 rfl (cD (aA rfl) rfl rfl cA.of (bP aD h5)) ?_
  refine tr1 rfl (iS (aA rfl) rfl eI (es := (aD x4)) rfl rfl) ?_
  obtain ⟨r6, h7, h⟩ := bind_some h
  refine tr1 rfl (bY (aA rfl) (.clo _ _ _ _ f_1_e rfl) (uI rfl) rfl (BVs.refl _ _) (f_1_h _ _  h7) rfl) ?_
  refine aF ?_
  refine bN rfl (fun c8 => ?_) (fun c8 => ?_)
  ·have h := aR c8 h
   refine aG ?_
   refine aE ?_
   refine tr1 rfl (aC (v := .d (.lit (.int .i64 t8_0_1))) (aA rfl) rfl rfl) ?_
   refine tr1 rfl (aJ (v := .d (.lit (.int .i64 t8_0_1))) (aA rfl) rfl rfl) ?_
   refine aF ?_
   have h := Option.some.inj h
   subst h
   exact bL ⟨rfl, _, .one _, rfl, rfl⟩
  ·have h := aQ c8 h
   refine eR ?_
   refine aE ?_
   refine tr1 rfl (bA (aA rfl) rfl rfl rfl) ?_
   refine tr1 rfl (aC (v := .d (.lit (.int .i64 ((w64 (t8_0_1 + 1)))))) (aA rfl) rfl rfl) ?_
   refine aF ?_
   exact ⟨(w64 (t8_0_1 + 1)), h, aY [] rfl rfl (aO rfl (aZ ⟨rfl, rfl, rfl, trivial⟩))⟩
 ·have h := aQ c3 h
  refine cX ?_
  refine .inl ⟨rfl, ?_⟩
  simp only [nD] at h
  refine aG ?_
  refine aE ?_
  refine tr1 rfl (aJ (v := .d (.lit (.int .i64 (-1)))) (aA rfl) rfl rfl) ?_
  refine aF ?_
  have h := Option.some.inj h
  subst h
  exact bL ⟨rfl, _, .one _, rfl, rfl⟩

theorem rV (s_0 : List aB) (del_1 : aB → Option Bool) {r : (List aB)} {s_0_v : Value} (del_1_f : Nat) (del_1_v : List AV) (del_1_e : ∀ args w, (callFunc del_1_f args).run Try.prog w = .ok (.enter del_1_f args) w) (del_1_h : ∀ (x0 : aB) r, del_1 x0 = some r → Fn Try.prog del_1_f ([.agg (aD x0)] ++ del_1_v) (.d (.lit (.bool r)))) (h : kY s_0 del_1 = some r) : fT Try.prog 56 [.d (.lit s_0_v), .fn del_1_f del_1_v] [.arr s_0_v 42 5 (s_0.map aD)] (fun r' o' => ∃ w0 : Value, r' = .d (.lit w0) ∧ o' = [.arr w0 42 5 (r.map aD)]) := by
 unfold kY at h
 refine lZ Try.func56 rfl (rs := [.tmp 4]) Try.results56 Try.ntmps56 (Nat.le_of_ble_eq_true rfl) ?_
 refine aG ?_
 refine aE ?_
 refine tr1 rfl (kJ 42 5 (.inl rfl) (aA rfl)) ?_
 refine aF ?_
 refine aG ?_
 refine aE ?_
 refine tr1 rfl (aC (v := .d (.lit s_0_v)) (aA rfl) rfl rfl) ?_
 refine tr1 rfl (aC (v := .fn del_1_f del_1_v) (aA rfl) rfl rfl) ?_
 obtain ⟨r2, h3, h⟩ := bind_some h
 refine tr1 rfl (bY (aA rfl) (.func _ _ Try.call75) rfl rfl (.cons (.d (jL 0 rfl (dE (f := aD) fun _ => rfl))) (.cons (.same _) .nil)) (rY _ _ del_1_f del_1_v del_1_e del_1_h h3) rfl) ?_
 refine tr1 rfl (aJ (v := .d (.lit (.int .i64 r2))) (aA rfl) rfl rfl) ?_
 refine aF ?_
 refine aG ?_
 refine aG ?_
 refine aE ?_
 refine tr1 rfl (aC (v := .d (.lit (.int .i64 r2))) (aA rfl) rfl rfl) ?_
 refine tr1 rfl (bC (aA rfl) rfl rfl rfl) ?_
 refine aF ?_
 refine bN rfl (fun c4 => ?_) (fun c4 => ?_)
 ·have h := aR c4 h
  refine aG ?_
  refine aE ?_
  refine tr1 rfl (aC (v := .d (.lit s_0_v)) (aA rfl) rfl rfl) ?_
  refine tr1 rfl (aJ (v := .d (.lit s_0_v)) (aA rfl) rfl rfl) ?_
  refine aF ?_
  have h := Option.some.inj h
  subst h
  exact bL ⟨rfl, _, [.arr s_0_v 42 5 (s_0.map aD)], [.arr (.slice none 0 0) 42 5 (([] : List aB).map aD)], _, .one (.tmp 4 (v := .d (.lit s_0_v)) rfl), .refl _, .same _, s_0_v, rfl, rfl⟩
 ·have h := aQ c4 h
  refine bH ?_
  refine aG ?_
  refine aG ?_
  refine aE ?_
  refine tr1 rfl (aC (v := .d (.lit (.int .i64 r2))) (aA rfl) rfl rfl) ?_
  refine tr1 rfl (bA (aA rfl) rfl rfl rfl) ?_
  refine tr1 rfl (aJ (v := .d (.lit (.int .i64 ((w64 (r2 + 1)))))) (aA rfl) rfl rfl) ?_
  refine aF ?_
  refine bT ?_
  refine cM [1] (fun (s5 : Int × Int × (List aB)) => [(0, .d (.lit s_0_v)), (5, .d (.lit (.int .i64 s5.1))), (6, .d (.lit (.int .i64 s5.2.1)))]) (fun (s5 : Int × Int × (List aB)) => [.arr s_0_v 42 5 (s5.2.2.map aD)]) (fun (k : Nat) (s5 : Int × Int × (List aB)) => fO del_1 k s5.1 s5.2.1 s5.2.2) (fun _ => rfl) (r2, w64 (r2 + 1), s_0) h (aY [0] rfl rfl (aO rfl (aO rfl (aO rfl (aZ ⟨rfl, trivial⟩))))) ?_
  rintro k6 ⟨i_0_5, j_0_5, s_0_5⟩ h
  simp only [fO] at h
  refine aG ?_
  refine aG ?_
  refine aE ?_
  refine tr1 rfl (aC (v := .d (.lit (.int .i64 j_0_5))) (aA rfl) rfl rfl) ?_
  refine tr1 rfl (aC (v := .d (.lit s_0_v)) (aA rfl) rfl rfl) ?_
  refine tr1 rfl (mA (m := 0) (aA rfl) rfl rfl cA.of) ?_
  refine tr1 rfl (bC (aA rfl) rfl rfl rfl) ?_
  refine aF ?_
  refine bN rfl (fun c7 => ?_) (fun c7 => ?_)
  ·have h := aR c7 h
   refine bH ?_
   refine aG ?_
   refine bT ?_
   refine aG ?_
   refine aE ?_
   refine tr1 rfl (aC (v := .d (.lit s_0_v)) (aA rfl) rfl rfl) ?_
   refine tr1 rfl (aC (v := .d (.lit (.int .i64 j_0_5))) (aA rfl) rfl rfl) ?_
   obtain ⟨x8, h9, h⟩ := bind_some h
   refine tr1 rfl (cC (m := 0) (aA rfl) rfl rfl rfl cA.of (bP aD h9)) ?_
   refine tr1 rfl (dG (aA rfl) rfl (l := 0) rfl (dX aD h9) eI (es := (aD x8)) rfl rfl) ?_
   refine bR rfl (fM (zs := [.lit (.int .i64 0), .lit (.int .i64 0), .lit (.int .i64 0), .lit (.int .i64 0), .lit (.bool false)]) (aA rfl) Try.zeroValue42 rfl rfl) ?_
   rintro _ ⟨b10, rfl⟩
   refine tr1 rfl (bX (i := 1) rfl rfl rfl rfl rfl Try.sizeOf42 rfl (aA rfl) (Nat.le_of_ble_eq_true rfl) (ds' := (aD x8)) rfl) ?_
   refine aF ?_
   refine aG ?_
   refine aE ?_
   refine tr1 rfl (aC (v := .fn del_1_f del_1_v) (aA rfl) rfl rfl) ?_
   refine tr1 rfl (cT (aA rfl) rfl (i := 1) rfl eI (es := (aD x8)) rfl rfl) ?_
   obtain ⟨r11, h12, h⟩ := bind_some h
   refine tr1 rfl (bY (aA rfl) (.clo _ _ _ _ del_1_e rfl) (uI rfl) rfl (BVs.refl _ _) (del_1_h _ _  h12) rfl) ?_
   refine tr1 rfl (fD (aA rfl) rfl) ?_
   refine aF ?_
   refine bN rfl (fun c13 => ?_) (fun c13 => ?_)
   ·have h := aR c13 h
    refine aG ?_
    refine aE ?_
    refine tr1 rfl (aC (v := .d (.lit s_0_v)) (aA rfl) rfl rfl) ?_
    refine tr1 rfl (aC (v := .d (.lit (.int .i64 i_0_5))) (aA rfl) rfl rfl) ?_
    refine tr1 rfl (cT (aA rfl) rfl (i := 1) rfl eI (es := (aD x8)) rfl rfl) ?_
    obtain ⟨x14, h15, h⟩ := bind_some h
    refine tr1 rfl (cC (m := 0) (aA rfl) rfl rfl rfl cA.of (bP aD h15)) ?_
    refine tr1 rfl (iT (l := 0) rfl rfl (dX aD h15) rfl rfl rfl Try.sizeOf42 rfl (aA rfl) (Nat.le_of_ble_eq_true rfl) (rows' := ((s_0_5.set i_0_5.toNat x8)).map aD) (mH _ _ _ _ rfl)) ?_
    refine aF ?_
    refine aE ?_
    refine tr1 rfl (aC (v := .d (.lit (.int .i64 i_0_5))) (aA rfl) rfl rfl) ?_
    refine tr1 rfl (bA (aA rfl) rfl rfl rfl) ?_
    refine tr1 rfl (aJ (v := .d (.lit (.int .i64 ((w64 (i_0_5 + 1)))))) (aA rfl) rfl rfl) ?_
    refine eH ?_
    refine aE ?_
    refine tr1 rfl (aC (v := .d (.lit (.int .i64 j_0_5))) (aA rfl) rfl rfl) ?_
    refine tr1 rfl (bA (aA rfl) rfl rfl rfl) ?_
    refine tr1 rfl (aJ (v := .d (.lit (.int .i64 ((w64 (j_0_5 + 1)))))) (aA rfl) rfl rfl) ?_
    refine aF ?_
    exact ⟨(w64 (i_0_5 + 1), w64 (j_0_5 + 1), (s_0_5.set i_0_5.toNat x8)), h, aY [0] rfl rfl (aO rfl (aO rfl (aO rfl (aZ ⟨rfl, trivial⟩))))⟩
   ·have h := aQ c13 h
    refine eR ?_
    refine aE ?_
    refine tr1 rfl (aC (v := .d (.lit (.int .i64 j_0_5))) (aA rfl) rfl rfl) ?_
    refine tr1 rfl (bA (aA rfl) rfl rfl rfl) ?_
    refine tr1 rfl (aJ (v := .d (.lit (.int .i64 ((w64 (j_0_5 + 1)))))) (aA rfl) rfl rfl) ?_
    refine aF ?_
    exact ⟨(i_0_5, w64 (j_0_5 + 1), s_0_5), h, aY [0] rfl rfl (aO rfl (aO rfl (aO rfl (aZ ⟨rfl, trivial⟩))))⟩
  ·have h := aQ c7 h
   refine cX ?_
   refine .inl ⟨rfl, ?_⟩
   simp only [mS] at h
   refine aG ?_
   refine aE ?_
   refine tr1 rfl (aC (v := .d (.lit s_0_v)) (aA rfl) rfl rfl) ?_
   refine tr1 rfl (aC (v := .d (.lit (.int .i64 i_0_5))) (aA rfl) rfl rfl) ?_
   obtain ⟨u16, h17, h⟩ := bind_some h
   refine tr1 rfl (uX (m := 0) (aA rfl) rfl rfl rfl cA.of h17) ?_
   obtain ⟨u18, h19, h⟩ := bind_some h
   refine tr1 rfl (aDy (f := aD) (m := 0) cA rfl rfl h19 (by decide)) ?_
   refine aF ?_
   refine aG ?_
   refine aE ?_
   refine tr1 rfl (aC (v := .d (.lit s_0_v)) (aA rfl) rfl rfl) ?_
   refine tr1 rfl (aC (v := .d (.lit (.int .i64 i_0_5))) (aA rfl) rfl rfl) ?_
   obtain ⟨u20, h21, h⟩ := bind_some h
   refine tr1 rfl (rT (m := 0) (q := i_0_5.toNat) (v := s_0_v) (aA rfl) rfl rfl rfl rfl (aAm h21) cA.of) ?_
   refine tr1 rfl (aJ (v := .d (.lit (gD s_0_v i_0_5.toNat))) (aA rfl) rfl rfl) ?_
   refine aF ?_
   have h := Option.some.inj h
   subst h
   exact bL ⟨rfl, _, [.arr (gD s_0_v i_0_5.toNat) 42 5 ((s_0_5.take i_0_5.toNat).map aD)], [], _, .one (.tmp 4 (v := .d (.lit (gD s_0_v i_0_5.toNat))) rfl), .refl _, .same _, (gD s_0_v i_0_5.toNat), rfl, rfl⟩

theorem aAg (r_0 : aB) (c_1 : Int) {r : Bool} (h : pS r_0 c_1 = some r) : Fn Try.prog 57 [.agg (aD r_0), .cp [.lit (.int .i64 c_1)]] (.d (.lit (.bool r))) := by
 unfold pS at h
 refine Fn.of_tr Try.func57 rfl (rs := [.tmp 3]) Try.results57 Try.ntmps57 (Nat.le_of_ble_eq_true rfl) ?_
 refine aG ?_
 refine aE ?_
 refine bR rfl (fK (v := .agg (aD r_0)) (aA rfl) rfl rfl rfl) ?_
 rintro _ ⟨b1, rfl⟩
 refine tr1 rfl (aJ (v := .d (.lit (.bool false))) (aA rfl) rfl rfl) ?_
 refine aF ?_
 refine aG ?_
 refine aE ?_
 refine tr1 rfl (aP (aA rfl) rfl nP) ?_
 refine tr1 rfl (aT (aA rfl) rfl (i := 0) rfl rfl bG) ?_
 refine tr1 rfl (cI (aA rfl) rfl bG) ?_
 refine tr1 rfl (bC (aA rfl) rfl rfl rfl) ?_
 refine tr1 rfl (aJ (v := .d (.lit (.bool ((decide (c_1 < r_0.Week)))))) (aA rfl) rfl rfl) ?_
 refine aF ?_
 have h := Option.some.inj h
 subst h
 refine cR (cG (cL (l := [3]) ⟨rfl, trivial⟩)) ?_
 exact bL ⟨rfl, _, .one _, rfl, rfl⟩

theorem aBs (l_0 : aM) (player_1 : Int) (week_2 : Int) {r : Int × Int} (h : uP l_0 player_1 week_2 = some r) : Fn Try.prog 21 [.agg (aU l_0), .d (.lit (.int .i64 player_1)), .d (.lit (.int .i64 week_2))] (.tup [.d (.lit (.int .i64 r.1)), .d (.lit (.int .i64 r.2))]) := by
 unfold uP at h
 refine Fn.of_tr Try.func21 rfl (rs := [.tmp 6, .tmp 7]) Try.results21 Try.ntmps21 (Nat.le_of_ble_eq_true rfl) ?_
 refine aG ?_
 refine aE ?_
 refine bR rfl (fK (v := .agg (aU l_0)) (aA rfl) rfl rfl rfl) ?_
 rintro _ ⟨b1, rfl⟩
 refine bR rfl (fK (v := .d (.lit (.int .i64 week_2))) (aA rfl) rfl rfl rfl) ?_
 rintro _ ⟨b2, rfl⟩
 refine tr1 rfl (aJ (v := .d (.lit (.int .i64 0))) (aA rfl) rfl rfl) ?_
 refine tr1 rfl (aJ (v := .d (.lit (.int .i64 0))) (aA rfl) rfl rfl) ?_
 refine aF ?_
 refine aG ?_
 refine aE ?_
 refine tr1 rfl (cT (aA rfl) rfl (i := 0) rfl eQ (es := (aU l_0)) rfl rfl) ?_
 refine tr1 rfl (aC (v := .d (.lit (.int .i64 player_1))) (aA rfl) rfl rfl) ?_
 refine tr1 rfl (aT (aA rfl) rfl (i := 1) rfl rfl bG) ?_
 obtain ⟨r3, h4, h⟩ := bind_some h
 refine bR rfl (dP (passed := []) (aA rfl) rfl (.func _ _ Try.call44) rfl rfl (tV _ _ _ h4)) ?_
 rintro _ ⟨_, _, ⟨b6, w7, rfl, rfl⟩, rfl⟩
 obtain ⟨_ | y5, e8⟩ := r3
 ·have h := yJ h
  refine gI (aY [0, 1] rfl rfl (le_refl _)) ?_
  refine tr1 rfl (aC (v := .tup [.d (.lit (.pointer none)), .d (.lit (.int .i64 e8))]) (aA rfl) rfl rfl) ?_
  refine tr1 rfl (cU (aA rfl) rfl rfl) ?_
  refine tr1 rfl (cU (aA rfl) rfl rfl) ?_
  refine tr1 rfl (aJ (v := .d (.lit (.pointer none))) (aA rfl) rfl rfl) ?_
  refine tr1 rfl (aJ (v := .d (.lit (.int .i64 e8))) (aA rfl) rfl rfl) ?_
  refine aF ?_
  refine aG ?_
  refine aG ?_
  refine aE ?_
  refine tr1 rfl (aC (v := .d (.lit (.int .i64 e8))) (aA rfl) rfl rfl) ?_
  refine tr1 rfl (bC (aA rfl) rfl rfl rfl) ?_
  refine aF ?_
  refine bN rfl (fun c9 => ?_) (fun c9 => ?_)
  ·have h := aR c9 h
   refine aG ?_
   refine aE ?_
   refine tr1 rfl (aC (v := .d (.lit (.int .i64 e8))) (aA rfl) rfl rfl) ?_
   refine tr1 rfl (aJ (v := .d (.lit (.int .i64 0))) (aA rfl) rfl rfl) ?_
   refine tr1 rfl (aJ (v := .d (.lit (.int .i64 e8))) (aA rfl) rfl rfl) ?_
   refine aF ?_
   have h := Option.some.inj h
   subst h
   refine cR (cG (cL (l := [6, 7]) ⟨rfl, rfl, trivial⟩)) ?_
   exact bL ⟨rfl, _, .two _ _, rfl, rfl⟩
  ·have h := aQ c9 h
   refine bH ?_
   refine aG ?_
   refine aG ?_
   refine aE ?_
   refine tr1 rfl (aT (aA rfl) rfl (i := 1) rfl rfl bG) ?_
   refine tr1 rfl (bC (aA rfl) rfl rfl rfl) ?_
   refine aF ?_
   refine bN rfl (fun c10 => ?_) (fun c10 => ?_)
   ·have h := aR c10 h
    refine aG ?_
    refine aE ?_
    refine tr1 rfl (aJ (v := .d (.lit (.int .i64 0))) (aA rfl) rfl rfl) ?_
    refine tr1 rfl (aJ (v := .d (.lit (.int .i64 1))) (aA rfl) rfl rfl) ?_
    refine aF ?_
    have h := Option.some.inj h
    subst h
    refine cR (cG (cL (l := [6, 7]) ⟨rfl, rfl, trivial⟩)) ?_
    exact bL ⟨rfl, _, .two _ _, rfl, rfl⟩
   ·have h := aQ c10 h
    refine bH ?_
    refine aG ?_
    refine aE ?_
    refine tr1 rfl (aC (v := .d (.lit (.pointer none))) (aA rfl) rfl rfl) ?_
    refine tr1 rfl (aC (v := .d (.lit (.int .i64 player_1))) (aA rfl) rfl rfl) ?_
    refine tr1 rfl (aT (aA rfl) rfl (i := 1) rfl rfl bG) ?_
    cases h
 ·have h := yK h
  refine gI (aY [0, 1, 2, 3] rfl rfl (le_refl _)) ?_
  refine tr1 rfl (aC (v := .tup [.bp b6 0 0, .d (.lit (.int .i64 e8))]) (aA rfl) rfl rfl) ?_
  refine tr1 rfl (cU (aA rfl) rfl rfl) ?_
  refine tr1 rfl (cU (aA rfl) rfl rfl) ?_
  refine tr1 rfl (aJ (v := .bp b6 0 0) (aA rfl) rfl rfl) ?_
  refine tr1 rfl (aJ (v := .d (.lit (.int .i64 e8))) (aA rfl) rfl rfl) ?_
  refine aF ?_
  refine aG ?_
  refine aG ?_
  refine aE ?_
  refine tr1 rfl (aC (v := .d (.lit (.int .i64 e8))) (aA rfl) rfl rfl) ?_
  refine tr1 rfl (bC (aA rfl) rfl rfl rfl) ?_
  refine aF ?_
  refine bN rfl (fun c11 => ?_) (fun c11 => ?_)
  ·have h := aR c11 h
   refine aG ?_
   refine aE ?_
   refine tr1 rfl (aC (v := .d (.lit (.int .i64 e8))) (aA rfl) rfl rfl) ?_
   refine tr1 rfl (aJ (v := .d (.lit (.int .i64 0))) (aA rfl) rfl rfl) ?_
   refine tr1 rfl (aJ (v := .d (.lit (.int .i64 e8))) (aA rfl) rfl rfl) ?_
   refine aF ?_
   have h := Option.some.inj h
   subst h
   refine cR (cG (cL (l := [6, 7]) ⟨rfl, rfl, trivial⟩)) ?_
   exact bL ⟨rfl, _, .two _ _, rfl, rfl⟩
  ·have h := aQ c11 h
   refine bH ?_
   refine aG ?_
   refine aG ?_
   refine aE ?_
   refine tr1 rfl (aT (aA rfl) rfl (i := 3) rfl rfl bG) ?_
   refine tr1 rfl (bC (aA rfl) rfl rfl rfl) ?_
   refine aF ?_
   refine bN rfl (fun c12 => ?_) (fun c12 => ?_)
   ·have h := aR c12 h
    refine aG ?_
    refine aE ?_
    refine tr1 rfl (aJ (v := .d (.lit (.int .i64 0))) (aA rfl) rfl rfl) ?_
    refine tr1 rfl (aJ (v := .d (.lit (.int .i64 1))) (aA rfl) rfl rfl) ?_
    refine aF ?_
    have h := Option.some.inj h
    subst h
    refine cR (cG (cL (l := [6, 7]) ⟨rfl, rfl, trivial⟩)) ?_
    exact bL ⟨rfl, _, .two _ _, rfl, rfl⟩
   ·have h := aQ c12 h
    refine bH ?_
    refine aG ?_
    refine aE ?_
    refine tr1 rfl (aC (v := .bp b6 0 0) (aA rfl) rfl rfl) ?_
    refine tr1 rfl (aC (v := .d (.lit (.int .i64 player_1))) (aA rfl) rfl rfl) ?_
    refine tr1 rfl (aT (aA rfl) rfl (i := 3) rfl rfl bG) ?_
    obtain ⟨r13, h14, h⟩ := bind_some h
    refine tr1 rfl (bY (aA rfl) (.func _ _ Try.call55) rfl rfl (.cons ((pN 0 rfl rfl (dvc (.same _) (dvc (.same _) (dvc (jL 1 rfl (dE (f := aD) fun _ => rfl)) (dvc (.same _) (dvc (.same _) dvn))))))) (.cons (.same _) (.cons (.same _) .nil))) (tB _ _ _ h14) rfl) ?_
    refine tr1 rfl (aJ (v := .d (.lit (.int .i64 r13))) (aA rfl) rfl rfl) ?_
    refine aF ?_
    refine aG ?_
    refine aE ?_
    refine tr1 rfl (aC (v := .bp b6 0 0) (aA rfl) rfl rfl) ?_
    refine tr1 rfl (aC (v := .bp b6 0 0) (aA rfl) rfl rfl) ?_
    refine tr1 rfl (lD (aA rfl) rfl) ?_
    refine tr1 rfl (aP (aA rfl) rfl iU) ?_
    refine tr1 rfl (aP (aA rfl) rfl dZ) ?_
    refine tr1 rfl (aT (aA rfl) rfl (i := 0) rfl rfl iG) ?_
    refine tr1 rfl (yQ (aA rfl) rfl rfl) ?_
    apply aFp [.box b6 0 [.lit (.int .i64 y5.Ledger.Players), .lit (.int .i64 y5.Ledger.Counts), .lit w7, .sl 3 (y5.Ledger.Bans.map aI), .sl 3 (y5.Ledger.Frozen.map aI)], .arr w7 42 5 (y5.Ledger.Reports.map aD), .box b1 0 (aU l_0)] [.box b2 0 [.lit (.int .i64 week_2)]] rfl
    exact jZ (k := 33) (v := .fn 57 [.cp [.lit (.int .i64 week_2)]]) ((aCr (.cons ((pN 0 rfl rfl (dvc (.same _) dvn))) .nil))) (jZ (k := 5) (v := .cp [.lit (.int .i64 week_2)]) ((pN 0 rfl rfl (dvc (.same _) dvn))) (uE _ _))
    obtain ⟨r16, h17, h⟩ := bind_some h
    refine gI (aY [1, 0, 2] rfl rfl (le_refl _)) ?_
    refine bR rfl (dP (passed := [.arr w7 42 5 (y5.Ledger.Reports.map aD)]) (aA rfl) rfl (.func _ _ Try.call56) rfl rfl (rV y5.Ledger.Reports (fun y15 => pS y15 week_2) 57 [.cp [.lit (.int .i64 week_2)]] Try.call57 (fun _ _ h => aAg _ _ h) h17)) ?_
    rintro _ ⟨_, _, ⟨v18, rfl, rfl⟩, rfl⟩
    refine tr1 rfl (lD (aA rfl) rfl) ?_
    refine tr1 rfl (aP (aA rfl) rfl iU) ?_
    refine tr1 rfl (aP (aA rfl) rfl dZ) ?_
    refine tr1 rfl (bX (i := 1) rfl rfl rfl rfl rfl Try.sizeOf22 rfl (aA rfl) (Nat.le_of_ble_eq_true rfl) (ds' := [.lit (.int .i64 y5.Ledger.Players), .lit (.int .i64 y5.Ledger.Counts), .lit v18, .sl 3 (y5.Ledger.Bans.map aI), .sl 3 (y5.Ledger.Frozen.map aI)]) rfl) ?_
    refine aF ?_
    refine aG ?_
    refine aE ?_
    refine tr1 rfl (aC (v := .d (.lit (.int .i64 r13))) (aA rfl) rfl rfl) ?_
    refine tr1 rfl (aC (v := .bp b6 0 0) (aA rfl) rfl rfl) ?_
    refine tr1 rfl (aC (v := .d (.lit (.int .i64 player_1))) (aA rfl) rfl rfl) ?_
    refine tr1 rfl (cI (aA rfl) rfl bG) ?_
    refine tr1 rfl (bA (aA rfl) rfl rfl rfl) ?_
    obtain ⟨r19, h20, h⟩ := bind_some h
    refine tr1 rfl (bY (aA rfl) (.func _ _ Try.call55) rfl rfl (.cons ((pN 1 rfl rfl (dvc (.same _) (dvc (.same _) (dvc (jL 0 rfl (dE (f := aD) fun _ => rfl)) (dvc (.same _) (dvc (.same _) dvn))))))) (.cons (.same _) (.cons (.same _) .nil))) (tB _ _ _ h20) rfl) ?_
    refine tr1 rfl (bA (aA rfl) rfl rfl rfl) ?_
    refine tr1 rfl (aJ (v := .d (.lit (.int .i64 ((w64 (r13 - r19)))))) (aA rfl) rfl rfl) ?_
    refine tr1 rfl (aJ (v := .d (.lit (.int .i64 0))) (aA rfl) rfl rfl) ?_
    refine aF ?_
    have h := Option.some.inj h
    subst h
    refine cR (cG (cL (l := [6, 7]) ⟨rfl, rfl, trivial⟩)) ?_
    exact bL ⟨rfl, _, .two _ _, rfl, rfl⟩

theorem wD (a_0 : List Int) (b_1 : List Int) {r : Bool} (h : oN a_0 b_1 = some r) : Fn Try.prog 32 [.d (.sl 1 (a_0.map cK)), .d (.sl 1 (b_1.map cK))] (.d (.lit (.bool r))) := by
 unfold oN at h
 refine Fn.of_tr Try.func32 rfl (rs := [.tmp 4]) Try.results32 Try.ntmps32 (Nat.le_of_ble_eq_true rfl) ?_
 refine aG ?_
 refine aE ?_
 refine tr1 rfl (aJ (v := .d (.lit (.bool false))) (aA rfl) rfl rfl) ?_
 refine aF ?_
 refine aG ?_
 refine aG ?_
 refine aE ?_
 refine tr1 rfl (aC (v := .d (.sl 1 (a_0.map cK))) (aA rfl) rfl rfl) ?_
 refine tr1 rfl (dM (aA rfl) rfl eF.of) ?_
 refine tr1 rfl (aC (v := .d (.sl 1 (b_1.map cK))) (aA rfl) rfl rfl) ?_
 refine tr1 rfl (dM (aA rfl) rfl eF.of) ?_
 refine tr1 rfl (bC (aA rfl) rfl rfl rfl) ?_
 refine aF ?_
 refine bN rfl (fun c1 => ?_) (fun c1 => ?_)
 ·have h := aR c1 h
  refine aG ?_
  refine aE ?_
  refine tr1 rfl (aJ (v := .d (.lit (.bool false))) (aA rfl) rfl rfl) ?_
  refine aF ?_
  have h := Option.some.inj h
  subst h
  exact bL ⟨rfl, _, .one _, rfl, rfl⟩
 ·have h := aQ c1 h
  refine bH ?_
  refine aG ?_
  refine aG ?_
  refine aE ?_
  refine tr1 rfl (aJ (v := .d (.lit (.int .i64 0))) (aA rfl) rfl rfl) ?_
  refine aF ?_
  refine bT ?_
  refine cM [0, 1] (fun (s2 : Int) => [(5, .d (.lit (.int .i64 s2)))]) (fun (s2 : Int) => []) (fun (k : Nat) (s2 : Int) => lA a_0 b_1 k s2) (fun _ => rfl) (0) h (aY [] rfl rfl (aO rfl (aZ ⟨rfl, rfl, trivial⟩))) ?_
  rintro k3 i_0_2 h
  simp only [lA] at h
  refine aG ?_
  refine aG ?_
  refine aE ?_
  refine tr1 rfl (aC (v := .d (.lit (.int .i64 i_0_2))) (aA rfl) rfl rfl) ?_
  refine tr1 rfl (aC (v := .d (.sl 1 (a_0.map cK))) (aA rfl) rfl rfl) ?_
  refine tr1 rfl (dM (aA rfl) rfl eF.of) ?_
  refine tr1 rfl (bC (aA rfl) rfl rfl rfl) ?_
  refine aF ?_
  refine bN rfl (fun c4 => ?_) (fun c4 => ?_)
  ·have h := aR c4 h
   refine bH ?_
   refine aG ?_
   refine bT ?_
   refine aG ?_
   obtain ⟨x5, h6, h⟩ := bind_some h
   obtain ⟨x7, h8, h⟩ := bind_some h
   refine hH mix 8 [0, 1, 5] [(20, .d (.lit (.int .i64 x5))), (24, .d (.lit (.int .i64 x7)))] ?_ ?_
   ·refine ⟨[(17, 0, .d (.sl 1 (a_0.map cK))), (18, 1, .d (.lit (.int .i64 i_0_2))), (19, 2, .cp [.lit (.int .i64 x5)]), (20, 3, .d (.lit (.int .i64 x5))), (21, 4, .d (.sl 1 (b_1.map cK))), (22, 5, .d (.lit (.int .i64 i_0_2))), (23, 6, .cp [.lit (.int .i64 x7)]), (24, 7, .d (.lit (.int .i64 x7)))], ?_, ?_⟩
    · exact ⟨by kernel_rfl, by kernel_rfl, by kernel_rfl, by kernel_rfl, by kernel_rfl, [([], []), ([], []), ([0, 1], []), ([2], []), ([], []), ([], []), ([4, 5], []), ([6], [])], by kernel_rfl, ⟨fun S hS => aK rfl (aS rfl (aC (v := .d (.sl 1 (a_0.map cK))) (aA rfl) (aH hS rfl) rfl)),
      fun S hS => aK rfl (aS rfl (aC (v := .d (.lit (.int .i64 i_0_2))) (aA rfl) (aH hS rfl) rfl)),
      fun S hS => aK rfl (aS rfl (cD (aA rfl) (aH hS rfl) (aH hS rfl) eF.of (bP cK h6))),
      fun S hS => aK rfl (aS rfl (cI (aA rfl) (aH hS rfl) bG)),
      fun S hS => aK rfl (aS rfl (aC (v := .d (.sl 1 (b_1.map cK))) (aA rfl) (aH hS rfl) rfl)),
      fun S hS => aK rfl (aS rfl (aC (v := .d (.lit (.int .i64 i_0_2))) (aA rfl) (aH hS rfl) rfl)),
      fun S hS => aK rfl (aS rfl (cD (aA rfl) (aH hS rfl) (aH hS rfl) eF.of (bP cK h8))),
      fun S hS => aK rfl (aS rfl (cI (aA rfl) (aH hS rfl) bG)), trivial⟩⟩
    · exact eJ (aO rfl (aO rfl (aZ ⟨rfl, rfl, rfl, trivial⟩)))
   ·refine tr1 rfl (bC (aA rfl) rfl rfl rfl) ?_
    refine aF ?_
    refine bN rfl (fun c9 => ?_) (fun c9 => ?_)
    ·have h := aR c9 h
     refine aG ?_
     refine aE ?_
     refine tr1 rfl (aJ (v := .d (.lit (.bool false))) (aA rfl) rfl rfl) ?_
     refine aF ?_
     have h := Option.some.inj h
     subst h
     exact bL ⟨rfl, _, .one _, rfl, rfl⟩
    ·have h := aQ c9 h
     refine eR ?_
     refine aE ?_
     refine tr1 rfl (aC (v := .d (.lit (.int .i64 i_0_2))) (aA rfl) rfl rfl) ?_
     refine tr1 rfl (bA (aA rfl) rfl rfl rfl) ?_
     refine tr1 rfl (aJ (v := .d (.lit (.int .i64 ((w64 (i_0_2 + 1)))))) (aA rfl) rfl rfl) ?_
     refine aF ?_
     exact ⟨(w64 (i_0_2 + 1)), h, aY [] rfl rfl (aO rfl (aZ ⟨rfl, rfl, trivial⟩))⟩
  ·have h := aQ c4 h
   refine cX ?_
   refine .inl ⟨rfl, ?_⟩
   simp only [qF] at h
   refine aG ?_
   refine aE ?_
   refine tr1 rfl (aJ (v := .d (.lit (.bool true))) (aA rfl) rfl rfl) ?_
   refine aF ?_
   have h := Option.some.inj h
   subst h
   exact bL ⟨rfl, _, .one _, rfl, rfl⟩

theorem lF {r : Bool} (h : fI = some r) : Fn Try.prog 16 [] (.d (.lit (.bool r))) := by
 unfold fI at h
 refine Fn.of_tr Try.func16 rfl (rs := [.tmp 0]) Try.results16 Try.ntmps16 (Nat.le_of_ble_eq_true rfl) ?_
 refine aG ?_
 refine aE ?_
 refine tr1 rfl (aJ (v := .d (.lit (.bool false))) (aA rfl) rfl rfl) ?_
 refine aF ?_
 refine aG ?_
 refine aE ?_
 obtain ⟨r1, h2, h⟩ := bind_some h
 refine tr1 rfl (nY (aA rfl) (.func _ _ Try.call43) rfl rfl (wQ h2)) ?_
 refine bR rfl (fM (zs := [.lit (.int .i64 0), .lit (.int .i64 0), .sl 5 ((([] : List aB)).map aD), .sl 3 ((([] : List aX)).map aI), .sl 3 ((([] : List aX)).map aI)]) (aA rfl) Try.zeroValue25 rfl rfl) ?_
 rintro _ ⟨b3, rfl⟩
 refine tr1 rfl (bX (i := 0) rfl rfl rfl rfl rfl Try.sizeOf25 rfl (aA rfl) (Nat.le_of_ble_eq_true rfl) (ds' := (aU r1)) rfl) ?_
 refine aF ?_
 refine aG ?_
 refine aE ?_
 refine tr1 rfl (cT (aA rfl) rfl (i := 0) rfl eQ (es := (aU r1)) rfl rfl) ?_
 obtain ⟨r4, h5, h⟩ := bind_some h
 refine tr1 rfl (nY (aA rfl) (.func _ _ Try.call27) rfl rfl (aEn _ _ h5)) ?_
 refine tr1 rfl (aC (v := .tup [.d (.sl 1 (r4.1.map cK)), .d (.lit (.int .i64 r4.2))]) (aA rfl) rfl rfl) ?_
 refine tr1 rfl (cU (aA rfl) rfl rfl) ?_
 refine tr1 rfl (cU (aA rfl) rfl rfl) ?_
 refine tr1 rfl (aJ (v := .d (.sl 1 (r4.1.map cK))) (aA rfl) rfl rfl) ?_
 refine tr1 rfl (aJ (v := .d (.lit (.int .i64 r4.2))) (aA rfl) rfl rfl) ?_
 refine aF ?_
 refine aG ?_
 refine aE ?_
 refine tr1 rfl (cT (aA rfl) rfl (i := 0) rfl eQ (es := (aU r1)) rfl rfl) ?_
 refine tr1 rfl (jU (aA rfl) eF rfl rfl (rows := ([300]).map cK) rfl (dE (f := cK) fun _ => rfl) rfl (by decide)) ?_
 obtain ⟨r6, h7, h⟩ := bind_some h
 refine tr1 rfl (bY (aA rfl) (.func _ _ Try.call17) rfl rfl (BVs.refl _ _) (uQ _ _ _ _ h7) rfl) ?_
 refine tr1 rfl (aC (v := .tup [.d (.lit (.int .i64 r6.1)), .d (.lit (.int .i64 r6.2.1)), .d (.lit (.int .i64 r6.2.2))]) (aA rfl) rfl rfl) ?_
 refine tr1 rfl (cU (aA rfl) rfl rfl) ?_
 refine tr1 rfl (cU (aA rfl) rfl rfl) ?_
 refine tr1 rfl (cU (aA rfl) rfl rfl) ?_
 refine tr1 rfl (aJ (v := .d (.lit (.int .i64 r6.1))) (aA rfl) rfl rfl) ?_
 refine tr1 rfl (aJ (v := .d (.lit (.int .i64 r6.2.1))) (aA rfl) rfl rfl) ?_
 refine tr1 rfl (aJ (v := .d (.lit (.int .i64 r6.2.2))) (aA rfl) rfl rfl) ?_
 refine aF ?_
 refine aG ?_
 refine aE ?_
 refine tr1 rfl (cT (aA rfl) rfl (i := 0) rfl eQ (es := (aU r1)) rfl rfl) ?_
 obtain ⟨r8, h9, h⟩ := bind_some h
 refine tr1 rfl (bY (aA rfl) (.func _ _ Try.call21) rfl rfl (BVs.refl _ _) (aBs _ _ _ h9) rfl) ?_
 refine tr1 rfl (aC (v := .tup [.d (.lit (.int .i64 r8.1)), .d (.lit (.int .i64 r8.2))]) (aA rfl) rfl rfl) ?_
 refine tr1 rfl (cU (aA rfl) rfl rfl) ?_
 refine tr1 rfl (cU (aA rfl) rfl rfl) ?_
 refine tr1 rfl (aJ (v := .d (.lit (.int .i64 r8.1))) (aA rfl) rfl rfl) ?_
 refine tr1 rfl (aJ (v := .d (.lit (.int .i64 r8.2))) (aA rfl) rfl rfl) ?_
 refine aF ?_
 refine aG ?_
 refine aE ?_
 refine tr1 rfl (aC (v := .d (.lit (.int .i64 r4.2))) (aA rfl) rfl rfl) ?_
 refine tr1 rfl (bC (aA rfl) rfl rfl rfl) ?_
 refine tr1 rfl (aC (v := .d (.lit (.bool ((decide (r4.2 = 0)))))) (aA rfl) rfl rfl) ?_
 obtain ⟨b10, h11, h⟩ := bind_some h
 refine bQ 3 [2, 4, 5, 7, 8] 32 b10 ?_ ?_
 ·refine bD (decide (r4.2 = 0)) (fun c29 => ?_) (fun c29 => ?_)
  ·have h11 := aR c29 h11
   refine aL rfl rfl (aA rfl) rfl c29 (aC (v := .d (.lit (.int .i64 r6.2.2))) (aA rfl) rfl rfl) ?_
   refine aL rfl rfl (aA rfl) rfl c29 (bC (aA rfl) rfl rfl rfl) ?_
   refine tr1 rfl (bJ (v := .d (.lit (.bool ((decide (r6.2.2 = 0)))))) (aA rfl) rfl c29 rfl rfl) ?_
   have h11 := Option.some.inj h11
   subst h11
   refine aF (aW rfl ⟨rfl, rfl, rfl, rfl, rfl, trivial⟩ rfl)
  ·have h11 := aQ c29 h11
   refine aN rfl rfl (aA rfl) rfl (aA rfl) rfl c29 ?_
   refine aN rfl rfl (aA rfl) rfl (aA rfl) rfl c29 ?_
   refine tr1 rfl (bI (v := .d (.lit (.bool false))) (aA rfl) rfl c29 rfl rfl) ?_
   have h11 := Option.some.inj h11
   subst h11
   refine aF (aW rfl ⟨rfl, rfl, rfl, rfl, rfl, trivial⟩ rfl)
 ·refine tr1 rfl (aC (v := .d (.lit (.bool b10))) (aA rfl) rfl rfl) ?_
  obtain ⟨b12, h13, h⟩ := bind_some h
  refine bQ 3 [2, 4, 5, 7] 36 b12 ?_ ?_
  ·refine bD (b10) (fun c28 => ?_) (fun c28 => ?_)
   ·have h13 := aR c28 h13
    refine aL rfl rfl (aA rfl) rfl c28 (aC (v := .d (.lit (.int .i64 r8.2))) (aA rfl) rfl rfl) ?_
    refine aL rfl rfl (aA rfl) rfl c28 (bC (aA rfl) rfl rfl rfl) ?_
    refine tr1 rfl (bJ (v := .d (.lit (.bool ((decide (r8.2 = 0)))))) (aA rfl) rfl c28 rfl rfl) ?_
    have h13 := Option.some.inj h13
    subst h13
    refine aF (aW rfl ⟨rfl, rfl, rfl, rfl, trivial⟩ rfl)
   ·have h13 := aQ c28 h13
    refine aN rfl rfl (aA rfl) rfl (aA rfl) rfl c28 ?_
    refine aN rfl rfl (aA rfl) rfl (aA rfl) rfl c28 ?_
    refine tr1 rfl (bI (v := .d (.lit (.bool false))) (aA rfl) rfl c28 rfl rfl) ?_
    have h13 := Option.some.inj h13
    subst h13
    refine aF (aW rfl ⟨rfl, rfl, rfl, rfl, trivial⟩ rfl)
  ·refine tr1 rfl (aC (v := .d (.lit (.bool b12))) (aA rfl) rfl rfl) ?_
   obtain ⟨b14, h15, h⟩ := bind_some h
   refine bQ 4 [4, 5, 7] 41 b14 ?_ ?_
   ·refine bD (b12) (fun c25 => ?_) (fun c25 => ?_)
    ·have h15 := aR c25 h15
     refine aL rfl rfl (aA rfl) rfl c25 (aC (v := .d (.sl 1 (r4.1.map cK))) (aA rfl) rfl rfl) ?_
     refine aL rfl rfl (aA rfl) rfl c25 (jU (aA rfl) eF rfl rfl (rows := ([0, 2, 1]).map cK) rfl (dE (f := cK) fun _ => rfl) rfl (by decide)) ?_
     obtain ⟨r26, h27, h15⟩ := bind_some h15
     refine aL rfl rfl (aA rfl) rfl c25 (bY (aA rfl) (.func _ _ Try.call32) rfl rfl (BVs.refl _ _) (wD _ _ h27) rfl) ?_
     refine tr1 rfl (bJ (v := .d (.lit (.bool r26))) (aA rfl) rfl c25 rfl rfl) ?_
     have h15 := Option.some.inj h15
     subst h15
     refine aF (aW rfl ⟨rfl, rfl, rfl, trivial⟩ rfl)
    ·have h15 := aQ c25 h15
     refine aN rfl rfl (aA rfl) rfl (aA rfl) rfl c25 ?_
     refine aN rfl rfl (aA rfl) rfl (aA rfl) rfl c25 ?_
     refine aN rfl rfl (aA rfl) rfl (aA rfl) rfl c25 ?_
     refine tr1 rfl (bI (v := .d (.lit (.bool false))) (aA rfl) rfl c25 rfl rfl) ?_
     have h15 := Option.some.inj h15
     subst h15
     refine aF (aW rfl ⟨rfl, rfl, rfl, trivial⟩ rfl)
   ·refine tr1 rfl (aC (v := .d (.lit (.bool b14))) (aA rfl) rfl rfl) ?_
    obtain ⟨b16, h17, h⟩ := bind_some h
    refine bQ 3 [5, 7] 45 b16 ?_ ?_
    ·refine bD (b14) (fun c24 => ?_) (fun c24 => ?_)
     ·have h17 := aR c24 h17
      refine aL rfl rfl (aA rfl) rfl c24 (aC (v := .d (.lit (.int .i64 r6.1))) (aA rfl) rfl rfl) ?_
      refine aL rfl rfl (aA rfl) rfl c24 (bC (aA rfl) rfl rfl rfl) ?_
      refine tr1 rfl (bJ (v := .d (.lit (.bool ((decide (r6.1 = 1)))))) (aA rfl) rfl c24 rfl rfl) ?_
      have h17 := Option.some.inj h17
      subst h17
      refine aF (aW rfl ⟨rfl, rfl, trivial⟩ rfl)
     ·have h17 := aQ c24 h17
      refine aN rfl rfl (aA rfl) rfl (aA rfl) rfl c24 ?_
      refine aN rfl rfl (aA rfl) rfl (aA rfl) rfl c24 ?_
      refine tr1 rfl (bI (v := .d (.lit (.bool false))) (aA rfl) rfl c24 rfl rfl) ?_
      have h17 := Option.some.inj h17
      subst h17
      refine aF (aW rfl ⟨rfl, rfl, trivial⟩ rfl)
    ·refine tr1 rfl (aC (v := .d (.lit (.bool b16))) (aA rfl) rfl rfl) ?_
     obtain ⟨b18, h19, h⟩ := bind_some h
     refine bQ 3 [7] 49 b18 ?_ ?_
     ·refine bD (b16) (fun c23 => ?_) (fun c23 => ?_)
      ·have h19 := aR c23 h19
       refine aL rfl rfl (aA rfl) rfl c23 (aC (v := .d (.lit (.int .i64 r6.2.1))) (aA rfl) rfl rfl) ?_
       refine aL rfl rfl (aA rfl) rfl c23 (bC (aA rfl) rfl rfl rfl) ?_
       refine tr1 rfl (bJ (v := .d (.lit (.bool ((decide (r6.2.1 = 3)))))) (aA rfl) rfl c23 rfl rfl) ?_
       have h19 := Option.some.inj h19
       subst h19
       refine aF (aW rfl ⟨rfl, trivial⟩ rfl)
      ·have h19 := aQ c23 h19
       refine aN rfl rfl (aA rfl) rfl (aA rfl) rfl c23 ?_
       refine aN rfl rfl (aA rfl) rfl (aA rfl) rfl c23 ?_
       refine tr1 rfl (bI (v := .d (.lit (.bool false))) (aA rfl) rfl c23 rfl rfl) ?_
       have h19 := Option.some.inj h19
       subst h19
       refine aF (aW rfl ⟨rfl, trivial⟩ rfl)
     ·refine tr1 rfl (aC (v := .d (.lit (.bool b18))) (aA rfl) rfl rfl) ?_
      obtain ⟨b20, h21, h⟩ := bind_some h
      refine bQ 3 [] 53 b20 ?_ ?_
      ·refine bD (b18) (fun c22 => ?_) (fun c22 => ?_)
       ·have h21 := aR c22 h21
        refine aL rfl rfl (aA rfl) rfl c22 (aC (v := .d (.lit (.int .i64 r8.1))) (aA rfl) rfl rfl) ?_
        refine aL rfl rfl (aA rfl) rfl c22 (bC (aA rfl) rfl rfl rfl) ?_
        refine tr1 rfl (bJ (v := .d (.lit (.bool ((decide (r8.1 = 200)))))) (aA rfl) rfl c22 rfl rfl) ?_
        have h21 := Option.some.inj h21
        subst h21
        refine aF (aW rfl trivial rfl)
       ·have h21 := aQ c22 h21
        refine aN rfl rfl (aA rfl) rfl (aA rfl) rfl c22 ?_
        refine aN rfl rfl (aA rfl) rfl (aA rfl) rfl c22 ?_
        refine tr1 rfl (bI (v := .d (.lit (.bool false))) (aA rfl) rfl c22 rfl rfl) ?_
        have h21 := Option.some.inj h21
        subst h21
        refine aF (aW rfl trivial rfl)
      ·refine tr1 rfl (aJ (v := .d (.lit (.bool b20))) (aA rfl) rfl rfl) ?_
       refine aF ?_
       have h := Option.some.inj h
       subst h
       refine cR (cG (cL (l := [0]) ⟨rfl, trivial⟩)) ?_
       exact bL ⟨rfl, _, .one _, rfl, rfl⟩

theorem zH (l_0 : aM) {r : aM} (h : jB l_0 = some r) : Fn Try.prog 18 [.agg (aU l_0)] (.agg (aU r)) := by
 unfold jB at h
 refine qP Try.func18 rfl (rs := [.cell 2 25]) Try.results18 Try.ntmps18 (Nat.le_of_ble_eq_true rfl) ?_
 refine aG ?_
 refine aE ?_
 refine bR rfl (fK (v := .agg (aU l_0)) (aA rfl) rfl rfl rfl) ?_
 rintro _ ⟨b1, rfl⟩
 refine bR rfl (fM (zs := [.lit (.int .i64 0), .lit (.int .i64 0), .sl 5 ((([] : List aB)).map aD), .sl 3 ((([] : List aX)).map aI), .sl 3 ((([] : List aX)).map aI)]) (aA rfl) Try.zeroValue25 rfl rfl) ?_
 rintro _ ⟨b2, rfl⟩
 refine aF ?_
 refine aG ?_
 refine aE ?_
 refine tr1 rfl (cT (aA rfl) rfl (i := 0) rfl eQ (es := (aU l_0)) rfl rfl) ?_
 refine bR rfl (fM (zs := [.lit (.int .i64 0), .lit (.int .i64 0), .sl 5 ((([] : List aB)).map aD), .sl 3 ((([] : List aX)).map aI), .sl 3 ((([] : List aX)).map aI)]) (aA rfl) Try.zeroValue25 rfl rfl) ?_
 rintro _ ⟨b3, rfl⟩
 refine tr1 rfl (bX (i := 2) rfl rfl rfl rfl rfl Try.sizeOf25 rfl (aA rfl) (Nat.le_of_ble_eq_true rfl) (ds' := (aU l_0)) rfl) ?_
 refine aF ?_
 refine aG ?_
 refine aE ?_
 refine tr1 rfl (aAi (aA rfl) cA rfl rfl (rows := (([] : List aB)).map aD) rfl (dE (f := aD) fun _ => rfl) rfl (by decide)) ?_
 refine tr1 rfl (aP (aA rfl) rfl dZ) ?_
 refine tr1 rfl (aT (aA rfl) rfl (i := 0) rfl rfl iG) ?_
 obtain ⟨x4, h5, h⟩ := bind_some h
 refine tr1 rfl (aDz (.d (.weak _ _)) (vO (nn := true) (f := aD) (xs := ([] : List aB)) (ys := l_0.Reports) (aA rfl) cA rfl rfl (fun _ => rfl) h5 rfl)) ?_
 refine tr1 rfl (aP (aA rfl) rfl dZ) ?_
 refine tr1 rfl (bX (i := 2) rfl rfl rfl rfl rfl Try.sizeOf22 rfl (aA rfl) (Nat.le_of_ble_eq_true rfl) (ds' := (aU (aM.mk l_0.Players l_0.Counts x4 l_0.Bans l_0.Frozen))) rfl) ?_
 refine aF ?_
 refine aG ?_
 refine aE ?_
 refine tr1 rfl (aAi (aA rfl) eS rfl rfl (rows := (([] : List aX)).map aI) rfl (dE (f := aI) fun _ => rfl) rfl (by decide)) ?_
 refine tr1 rfl (aP (aA rfl) rfl mL) ?_
 refine tr1 rfl (aT (aA rfl) rfl (i := 0) rfl rfl jM) ?_
 obtain ⟨x6, h7, h⟩ := bind_some h
 refine tr1 rfl (aDz (.d (.weak _ _)) (vO (nn := true) (f := aI) (xs := ([] : List aX)) (ys := l_0.Bans) (aA rfl) eS rfl rfl (fun _ => rfl) h7 rfl)) ?_
 refine tr1 rfl (aP (aA rfl) rfl mL) ?_
 refine tr1 rfl (bX (i := 2) rfl rfl rfl rfl rfl Try.sizeOf23 rfl (aA rfl) (Nat.le_of_ble_eq_true rfl) (ds' := (aU (aM.mk l_0.Players l_0.Counts x4 x6 l_0.Frozen))) rfl) ?_
 refine aF ?_
 refine aG ?_
 refine aE ?_
 refine tr1 rfl (aAi (aA rfl) eS rfl rfl (rows := (([] : List aX)).map aI) rfl (dE (f := aI) fun _ => rfl) rfl (by decide)) ?_
 refine tr1 rfl (aP (aA rfl) rfl kR) ?_
 refine tr1 rfl (aT (aA rfl) rfl (i := 0) rfl rfl jM) ?_
 obtain ⟨x8, h9, h⟩ := bind_some h
 refine tr1 rfl (aDz (.d (.weak _ _)) (vO (nn := true) (f := aI) (xs := ([] : List aX)) (ys := l_0.Frozen) (aA rfl) eS rfl rfl (fun _ => rfl) h9 rfl)) ?_
 refine tr1 rfl (aP (aA rfl) rfl kR) ?_
 refine tr1 rfl (bX (i := 2) rfl rfl rfl rfl rfl Try.sizeOf23 rfl (aA rfl) (Nat.le_of_ble_eq_true rfl) (ds' := (aU (aM.mk l_0.Players l_0.Counts x4 x6 x8))) rfl) ?_
 refine aF ?_
 refine aG ?_
 refine aE ?_
 refine tr1 rfl (cT (aA rfl) rfl (i := 2) rfl eQ (es := (aU (aM.mk l_0.Players l_0.Counts x4 x6 x8))) rfl rfl) ?_
 refine tr1 rfl (bX (i := 1) rfl rfl rfl rfl rfl Try.sizeOf25 rfl (aA rfl) (Nat.le_of_ble_eq_true rfl) (ds' := (aU (aM.mk l_0.Players l_0.Counts x4 x6 x8))) rfl) ?_
 refine aF ?_
 have h := Option.some.inj h
 subst h
 exact bL ⟨rfl, _, [.box b1 0 (aU l_0), .box b2 0 (aU (aM.mk l_0.Players l_0.Counts x4 x6 x8)), .box b3 0 (aU (aM.mk l_0.Players l_0.Counts x4 x6 x8))], .one (.cell 2 25 rfl (i := 1) rfl eQ (es := (aU (aM.mk l_0.Players l_0.Counts x4 x6 x8))) rfl rfl), .refl _, .same _⟩

theorem vU (prizes_0 : List Int) {r : Bool} (h : jR prizes_0 = some r) : Fn Try.prog 23 [.d (.sl 1 (prizes_0.map cK))] (.d (.lit (.bool r))) := by
 unfold jR at h
 refine Fn.of_tr Try.func23 rfl (rs := [.tmp 2]) Try.results23 Try.ntmps23 (Nat.le_of_ble_eq_true rfl) ?_
 refine aG ?_
 refine aE ?_
 refine tr1 rfl (aJ (v := .d (.lit (.bool false))) (aA rfl) rfl rfl) ?_
 refine aF ?_
 refine aG ?_
 refine aG ?_
 refine aE ?_
 refine tr1 rfl (aJ (v := .d (.lit (.int .i64 0))) (aA rfl) rfl rfl) ?_
 refine aF ?_
 refine bT ?_
 refine cM [0] (fun (s1 : Int) => [(3, .d (.lit (.int .i64 s1)))]) (fun (s1 : Int) => []) (fun (k : Nat) (s1 : Int) => fP prizes_0 k s1) (fun _ => rfl) (0) h (aY [] rfl rfl (aO rfl (aZ ⟨rfl, trivial⟩))) ?_
 rintro k2 i_0_1 h
 simp only [fP] at h
 refine aG ?_
 refine aG ?_
 refine aE ?_
 refine tr1 rfl (aC (v := .d (.lit (.int .i64 i_0_1))) (aA rfl) rfl rfl) ?_
 refine tr1 rfl (aC (v := .d (.sl 1 (prizes_0.map cK))) (aA rfl) rfl rfl) ?_
 refine tr1 rfl (dM (aA rfl) rfl eF.of) ?_
 refine tr1 rfl (bC (aA rfl) rfl rfl rfl) ?_
 refine aF ?_
 refine bN rfl (fun c3 => ?_) (fun c3 => ?_)
 ·have h := aR c3 h
  refine bH ?_
  refine aG ?_
  refine bT ?_
  refine aG ?_
  refine aE ?_
  refine tr1 rfl (aC (v := .d (.sl 1 (prizes_0.map cK))) (aA rfl) rfl rfl) ?_
  refine tr1 rfl (aC (v := .d (.lit (.int .i64 i_0_1))) (aA rfl) rfl rfl) ?_
  obtain ⟨x4, h5, h⟩ := bind_some h
  refine tr1 rfl (cD (aA rfl) rfl rfl eF.of (bP cK h5)) ?_
  refine tr1 rfl (cI (aA rfl) rfl bG) ?_
  obtain ⟨r6, h7, h⟩ := bind_some h
  refine tr1 rfl (bY (aA rfl) (.func _ _ Try.call58) rfl rfl (BVs.refl _ _) (eC _ _ _ h7) rfl) ?_
  refine tr1 rfl (fD (aA rfl) rfl) ?_
  refine aF ?_
  refine bN rfl (fun c8 => ?_) (fun c8 => ?_)
  ·have h := aR c8 h
   refine aG ?_
   refine aE ?_
   refine tr1 rfl (aJ (v := .d (.lit (.bool false))) (aA rfl) rfl rfl) ?_
   refine aF ?_
   have h := Option.some.inj h
   subst h
   exact bL ⟨rfl, _, .one _, rfl, rfl⟩
  ·have h := aQ c8 h
   refine eR ?_
   refine aE ?_
   refine tr1 rfl (aC (v := .d (.lit (.int .i64 i_0_1))) (aA rfl) rfl rfl) ?_
   refine tr1 rfl (bA (aA rfl) rfl rfl rfl) ?_
   refine tr1 rfl (aJ (v := .d (.lit (.int .i64 ((w64 (i_0_1 + 1)))))) (aA rfl) rfl rfl) ?_
   refine aF ?_
   exact ⟨(w64 (i_0_1 + 1)), h, aY [] rfl rfl (aO rfl (aZ ⟨rfl, trivial⟩))⟩
 ·have h := aQ c3 h
  refine cX ?_
  refine .inl ⟨rfl, ?_⟩
  simp only [kL] at h
  refine aG ?_
  refine aE ?_
  refine tr1 rfl (aC (v := .d (.sl 1 (prizes_0.map cK))) (aA rfl) rfl rfl) ?_
  refine tr1 rfl (dM (aA rfl) rfl eF.of) ?_
  refine tr1 rfl (bC (aA rfl) rfl rfl rfl) ?_
  refine tr1 rfl (aJ (v := .d (.lit (.bool ((decide ((prizes_0.length : Int) ≤ 4)))))) (aA rfl) rfl rfl) ?_
  refine aF ?_
  have h := Option.some.inj h
  subst h
  exact bL ⟨rfl, _, .one _, rfl, rfl⟩

theorem zG (l_0 : List aX) (player_1 : Int) (week_2 : Int) {r : Bool} (h : gJ l_0 player_1 week_2 = some r) : Fn Try.prog 25 [.d (.sl 3 (l_0.map aI)), .d (.lit (.int .i64 player_1)), .d (.lit (.int .i64 week_2))] (.d (.lit (.bool r))) := by
 unfold gJ at h
 refine Fn.of_tr Try.func25 rfl (rs := [.tmp 6]) Try.results25 Try.ntmps25 (Nat.le_of_ble_eq_true rfl) ?_
 refine aG ?_
 refine aE ?_
 refine tr1 rfl (aJ (v := .d (.lit (.bool false))) (aA rfl) rfl rfl) ?_
 refine aF ?_
 refine aG ?_
 refine aG ?_
 refine aE ?_
 refine tr1 rfl (aJ (v := .d (.lit (.int .i64 0))) (aA rfl) rfl rfl) ?_
 refine aF ?_
 refine bT ?_
 refine cM [0, 1, 2] (fun (s1 : Int) => [(7, .d (.lit (.int .i64 s1)))]) (fun (s1 : Int) => []) (fun (k : Nat) (s1 : Int) => iD l_0 player_1 week_2 k s1) (fun _ => rfl) (0) h (aY [] rfl rfl (aO rfl (aZ ⟨rfl, rfl, rfl, trivial⟩))) ?_
 rintro k2 i_0_1 h
 simp only [iD] at h
 refine aG ?_
 refine aG ?_
 refine aE ?_
 refine tr1 rfl (aC (v := .d (.lit (.int .i64 i_0_1))) (aA rfl) rfl rfl) ?_
 refine tr1 rfl (aC (v := .d (.sl 3 (l_0.map aI))) (aA rfl) rfl rfl) ?_
 refine tr1 rfl (dM (aA rfl) rfl eS.of) ?_
 refine tr1 rfl (bC (aA rfl) rfl rfl rfl) ?_
 refine aF ?_
 refine bN rfl (fun c3 => ?_) (fun c3 => ?_)
 ·have h := aR c3 h
  refine bH ?_
  refine aG ?_
  refine bT ?_
  refine aG ?_
  obtain ⟨x4, h5, h⟩ := bind_some h
  obtain ⟨b6, h7, h⟩ := bind_some h
  refine hH mix 21 [0, 1, 2, 7] [(34, .d (.lit (.bool b6)))] ?_ ?_
  ·refine bD (decide (x4.Player = player_1)) (fun c8 => ?_) (fun c8 => ?_)
   ·have h7 := aR c8 h7
    obtain ⟨x9, h10, h7⟩ := bind_some h7
    obtain ⟨x11, h12, h7⟩ := bind_some h7
    obtain ⟨r13, h14, h7⟩ := bind_some h7
    have h7 := Option.some.inj h7
    subst h7
    refine ⟨[(14, 0, .d (.sl 3 (l_0.map aI))), (15, 1, .d (.lit (.int .i64 i_0_1))), (16, 2, .cp [.lit (.int .i64 x4.Player), .lit (.int .i64 x4.From), .lit (.int .i64 x4.To)]), (17, 3, .cp [.lit (.int .i64 x4.Player)]), (18, 4, .d (.lit (.int .i64 x4.Player))), (19, 5, .d (.lit (.int .i64 player_1))), (20, 6, .d (.lit (.bool ((decide (x4.Player = player_1)))))), (21, 7, .d (.lit (.bool ((decide (x4.Player = player_1)))))), (22, 8, .d (.lit (.int .i64 week_2))), (23, 9, .d (.sl 3 (l_0.map aI))), (24, 10, .d (.lit (.int .i64 i_0_1))), (25, 11, .cp [.lit (.int .i64 x9.Player), .lit (.int .i64 x9.From), .lit (.int .i64 x9.To)]), (26, 12, .cp [.lit (.int .i64 x9.From)]), (27, 13, .d (.lit (.int .i64 x9.From))), (28, 14, .d (.sl 3 (l_0.map aI))), (29, 15, .d (.lit (.int .i64 i_0_1))), (30, 16, .cp [.lit (.int .i64 x11.Player), .lit (.int .i64 x11.From), .lit (.int .i64 x11.To)]), (31, 17, .cp [.lit (.int .i64 x11.To)]), (32, 18, .d (.lit (.int .i64 x11.To))), (33, 19, .d (.lit (.bool r13))), (34, 20, .d (.lit (.bool r13)))], ?_, ?_⟩
    · exact ⟨by kernel_rfl, by kernel_rfl, by kernel_rfl, by kernel_rfl, by kernel_rfl, [([], []), ([], []), ([0, 1], []), ([2], []), ([3], []), ([], []), ([4, 5], []), ([6], []), ([7], []), ([7], []), ([7], []), ([7, 9, 10], []), ([7, 11], []), ([7, 12], []), ([7], []), ([7], []), ([7, 14, 15], []), ([7, 16], []), ([7, 17], []), ([7, 8, 13, 18], []), ([7, 19], [])], by kernel_rfl, ⟨fun S hS => aK rfl (aS rfl (aC (v := .d (.sl 3 (l_0.map aI))) (aA rfl) (aH hS rfl) rfl)),
      fun S hS => aK rfl (aS rfl (aC (v := .d (.lit (.int .i64 i_0_1))) (aA rfl) (aH hS rfl) rfl)),
      fun S hS => aK rfl (aS rfl (cD (aA rfl) (aH hS rfl) (aH hS rfl) eS.of (bP aI h5))),
      fun S hS => aK rfl (aS rfl (cQ (aA rfl) (aH hS rfl) kT (es := [.lit (.int .i64 x4.Player)]) rfl)),
      fun S hS => aK rfl (aS rfl (cI (aA rfl) (aH hS rfl) bG)),
      fun S hS => aK rfl (aS rfl (aC (v := .d (.lit (.int .i64 player_1))) (aA rfl) (aH hS rfl) rfl)),
      fun S hS => aK rfl (aS rfl (bC (aA rfl) (aH hS rfl) (aH hS rfl) rfl)),
      fun S hS => aK rfl (aS rfl (aC (v := .d (.lit (.bool ((decide (x4.Player = player_1)))))) (aA rfl) (aH hS rfl) rfl)),
      fun S hS => aK rfl (bK rfl rfl (aA rfl) (aV hS rfl) c8 (aC (v := .d (.lit (.int .i64 week_2))) (aA rfl) (aH hS rfl) rfl)),
      fun S hS => aK rfl (bK rfl rfl (aA rfl) (aV hS rfl) c8 (aC (v := .d (.sl 3 (l_0.map aI))) (aA rfl) (aH hS rfl) rfl)),
      fun S hS => aK rfl (bK rfl rfl (aA rfl) (aV hS rfl) c8 (aC (v := .d (.lit (.int .i64 i_0_1))) (aA rfl) (aH hS rfl) rfl)),
      fun S hS => aK rfl (bK rfl rfl (aA rfl) (aV hS rfl) c8 (cD (aA rfl) (aH hS rfl) (aH hS rfl) eS.of (bP aI h10))),
      fun S hS => aK rfl (bK rfl rfl (aA rfl) (aV hS rfl) c8 (cQ (aA rfl) (aH hS rfl) jS (es := [.lit (.int .i64 x9.From)]) rfl)),
      fun S hS => aK rfl (bK rfl rfl (aA rfl) (aV hS rfl) c8 (cI (aA rfl) (aH hS rfl) bG)),
      fun S hS => aK rfl (bK rfl rfl (aA rfl) (aV hS rfl) c8 (aC (v := .d (.sl 3 (l_0.map aI))) (aA rfl) (aH hS rfl) rfl)),
      fun S hS => aK rfl (bK rfl rfl (aA rfl) (aV hS rfl) c8 (aC (v := .d (.lit (.int .i64 i_0_1))) (aA rfl) (aH hS rfl) rfl)),
      fun S hS => aK rfl (bK rfl rfl (aA rfl) (aV hS rfl) c8 (cD (aA rfl) (aH hS rfl) (aH hS rfl) eS.of (bP aI h12))),
      fun S hS => aK rfl (bK rfl rfl (aA rfl) (aV hS rfl) c8 (cQ (aA rfl) (aH hS rfl) lV (es := [.lit (.int .i64 x11.To)]) rfl)),
      fun S hS => aK rfl (bK rfl rfl (aA rfl) (aV hS rfl) c8 (cI (aA rfl) (aH hS rfl) bG)),
      fun S hS => aK rfl (bK rfl rfl (aA rfl) (aV hS rfl) c8 (bY (aA rfl) (.func _ _ Try.call58) (ev2 (aH hS rfl) (ev2 (aH hS rfl) (ev2 (aH hS rfl) evn))) rfl (BVs.refl _ _) (eC _ _ _ h14) rfl)),
      fun S hS => aK rfl (aS rfl (bJ (v := .d (.lit (.bool r13))) (aA rfl) (aH hS rfl) c8 (aH hS rfl) rfl)), trivial⟩⟩
    · exact eJ (aO rfl (aZ ⟨rfl, rfl, rfl, rfl, trivial⟩))
   ·have h7 := aQ c8 h7
    have h7 := Option.some.inj h7
    subst h7
    refine ⟨[(14, 0, .d (.sl 3 (l_0.map aI))), (15, 1, .d (.lit (.int .i64 i_0_1))), (16, 2, .cp [.lit (.int .i64 x4.Player), .lit (.int .i64 x4.From), .lit (.int .i64 x4.To)]), (17, 3, .cp [.lit (.int .i64 x4.Player)]), (18, 4, .d (.lit (.int .i64 x4.Player))), (19, 5, .d (.lit (.int .i64 player_1))), (20, 6, .d (.lit (.bool ((decide (x4.Player = player_1)))))), (21, 7, .d (.lit (.bool ((decide (x4.Player = player_1)))))), (22, 8, .tup []), (23, 9, .tup []), (24, 10, .tup []), (25, 11, .tup []), (26, 12, .tup []), (27, 13, .tup []), (28, 14, .tup []), (29, 15, .tup []), (30, 16, .tup []), (31, 17, .tup []), (32, 18, .tup []), (33, 19, .tup []), (34, 20, .d (.lit (.bool false)))], ?_, ?_⟩
    · exact ⟨by kernel_rfl, by kernel_rfl, by kernel_rfl, by kernel_rfl, by kernel_rfl, [([], []), ([], []), ([0, 1], []), ([2], []), ([3], []), ([], []), ([4, 5], []), ([6], []), ([7], []), ([7], []), ([7], []), ([7, 9, 10], []), ([7, 11], []), ([7, 12], []), ([7], []), ([7], []), ([7, 14, 15], []), ([7, 16], []), ([7, 17], []), ([7, 8, 13, 18], []), ([7, 19], [])], by kernel_rfl, ⟨fun S hS => aK rfl (aS rfl (aC (v := .d (.sl 3 (l_0.map aI))) (aA rfl) (aH hS rfl) rfl)),
      fun S hS => aK rfl (aS rfl (aC (v := .d (.lit (.int .i64 i_0_1))) (aA rfl) (aH hS rfl) rfl)),
      fun S hS => aK rfl (aS rfl (cD (aA rfl) (aH hS rfl) (aH hS rfl) eS.of (bP aI h5))),
      fun S hS => aK rfl (aS rfl (cQ (aA rfl) (aH hS rfl) kT (es := [.lit (.int .i64 x4.Player)]) rfl)),
      fun S hS => aK rfl (aS rfl (cI (aA rfl) (aH hS rfl) bG)),
      fun S hS => aK rfl (aS rfl (aC (v := .d (.lit (.int .i64 player_1))) (aA rfl) (aH hS rfl) rfl)),
      fun S hS => aK rfl (aS rfl (bC (aA rfl) (aH hS rfl) (aH hS rfl) rfl)),
      fun S hS => aK rfl (aS rfl (aC (v := .d (.lit (.bool ((decide (x4.Player = player_1)))))) (aA rfl) (aH hS rfl) rfl)),
      fun S hS => aK rfl (bF rfl rfl (aA rfl) rfl (aA rfl) (aV hS rfl) c8),
      fun S hS => aK rfl (bF rfl rfl (aA rfl) rfl (aA rfl) (aV hS rfl) c8),
      fun S hS => aK rfl (bF rfl rfl (aA rfl) rfl (aA rfl) (aV hS rfl) c8),
      fun S hS => aK rfl (bF rfl rfl (aA rfl) rfl (aA rfl) (aV hS rfl) c8),
      fun S hS => aK rfl (bF rfl rfl (aA rfl) rfl (aA rfl) (aV hS rfl) c8),
      fun S hS => aK rfl (bF rfl rfl (aA rfl) rfl (aA rfl) (aV hS rfl) c8),
      fun S hS => aK rfl (bF rfl rfl (aA rfl) rfl (aA rfl) (aV hS rfl) c8),
      fun S hS => aK rfl (bF rfl rfl (aA rfl) rfl (aA rfl) (aV hS rfl) c8),
      fun S hS => aK rfl (bF rfl rfl (aA rfl) rfl (aA rfl) (aV hS rfl) c8),
      fun S hS => aK rfl (bF rfl rfl (aA rfl) rfl (aA rfl) (aV hS rfl) c8),
      fun S hS => aK rfl (bF rfl rfl (aA rfl) rfl (aA rfl) (aV hS rfl) c8),
      fun S hS => aK rfl (bF rfl rfl (aA rfl) rfl (aA rfl) (aV hS rfl) c8),
      fun S hS => aK rfl (aS rfl (bI (v := .d (.lit (.bool false))) (aA rfl) (aH hS rfl) c8 rfl rfl)), trivial⟩⟩
    · exact eJ (aO rfl (aZ ⟨rfl, rfl, rfl, rfl, trivial⟩))
  ·refine aF ?_
   refine bN rfl (fun c15 => ?_) (fun c15 => ?_)
   ·have h := aR c15 h
    refine aG ?_
    refine aE ?_
    refine tr1 rfl (aJ (v := .d (.lit (.bool true))) (aA rfl) rfl rfl) ?_
    refine aF ?_
    have h := Option.some.inj h
    subst h
    exact bL ⟨rfl, _, .one _, rfl, rfl⟩
   ·have h := aQ c15 h
    refine eR ?_
    refine aE ?_
    refine tr1 rfl (aC (v := .d (.lit (.int .i64 i_0_1))) (aA rfl) rfl rfl) ?_
    refine tr1 rfl (bA (aA rfl) rfl rfl rfl) ?_
    refine tr1 rfl (aJ (v := .d (.lit (.int .i64 ((w64 (i_0_1 + 1)))))) (aA rfl) rfl rfl) ?_
    refine aF ?_
    exact ⟨(w64 (i_0_1 + 1)), h, aY [] rfl rfl (aO rfl (aZ ⟨rfl, rfl, rfl, trivial⟩))⟩
 ·have h := aQ c3 h
  refine cX ?_
  refine .inl ⟨rfl, ?_⟩
  simp only [pA] at h
  refine aG ?_
  refine aE ?_
  refine tr1 rfl (aJ (v := .d (.lit (.bool false))) (aA rfl) rfl rfl) ?_
  refine aF ?_
  have h := Option.some.inj h
  subst h
  exact bL ⟨rfl, _, .one _, rfl, rfl⟩

theorem xV (l_0 : aM) {r : aM} (h : jB l_0 = some r) : fT Try.prog 18 [.agg (aU l_0)] [] (fun r' o' => ∃ (w0 : Value) (w1 : Value) (w2 : Value), r' = .agg [.lit (.int .i64 r.Players), .lit (.int .i64 r.Counts), .lit w0, .lit w1, .lit w2] ∧ o' = [.arr w0 42 5 (r.Reports.map aD), .arr w1 66 3 (r.Bans.map aI), .arr w2 66 3 (r.Frozen.map aI)]) := by
 unfold jB at h
 refine lZ Try.func18 rfl (rs := [.cell 2 25]) Try.results18 Try.ntmps18 (Nat.le_of_ble_eq_true rfl) ?_
 refine aG ?_
 refine aE ?_
 refine bR rfl (fK (v := .agg (aU l_0)) (aA rfl) rfl rfl rfl) ?_
 rintro _ ⟨b1, rfl⟩
 refine bR rfl (fM (zs := [.lit (.int .i64 0), .lit (.int .i64 0), .sl 5 ((([] : List aB)).map aD), .sl 3 ((([] : List aX)).map aI), .sl 3 ((([] : List aX)).map aI)]) (aA rfl) Try.zeroValue25 rfl rfl) ?_
 rintro _ ⟨b2, rfl⟩
 refine aF ?_
 refine aG ?_
 refine aE ?_
 refine tr1 rfl (cT (aA rfl) rfl (i := 0) rfl eQ (es := (aU l_0)) rfl rfl) ?_
 refine bR rfl (fM (zs := [.lit (.int .i64 0), .lit (.int .i64 0), .sl 5 ((([] : List aB)).map aD), .sl 3 ((([] : List aX)).map aI), .sl 3 ((([] : List aX)).map aI)]) (aA rfl) Try.zeroValue25 rfl rfl) ?_
 rintro _ ⟨b3, rfl⟩
 refine tr1 rfl (bX (i := 2) rfl rfl rfl rfl rfl Try.sizeOf25 rfl (aA rfl) (Nat.le_of_ble_eq_true rfl) (ds' := (aU l_0)) rfl) ?_
 refine aF ?_
 refine aG ?_
 refine aE ?_
 refine bR rfl (vP (aA rfl) cA rfl rfl (rows := (([] : List aB)).map aD) rfl (dE (f := aD) fun _ => rfl) rfl (by decide)) ?_
 rintro _ ⟨v4, rfl⟩
 refine tr1 rfl (aP (aA rfl) rfl dZ) ?_
 refine tr1 rfl (aT (aA rfl) rfl (i := 0) rfl rfl iG) ?_
 obtain ⟨x5, h6, h⟩ := bind_some h
 refine bR rfl (mD (i := 3) (aA rfl) cA rfl rfl rfl (fun _ => rfl) h6 rfl) ?_
 rintro _ ⟨v7, rfl⟩
 refine tr1 rfl (aP (aA rfl) rfl dZ) ?_
 refine tr1 rfl (bX (i := 2) rfl rfl rfl rfl rfl Try.sizeOf22 rfl (aA rfl) (Nat.le_of_ble_eq_true rfl) (ds' := [.lit (.int .i64 l_0.Players), .lit (.int .i64 l_0.Counts), .lit v7, .sl 3 (l_0.Bans.map aI), .sl 3 (l_0.Frozen.map aI)]) rfl) ?_
 refine aF ?_
 refine aG ?_
 refine aE ?_
 refine bR rfl (vP (aA rfl) eS rfl rfl (rows := (([] : List aX)).map aI) rfl (dE (f := aI) fun _ => rfl) rfl (by decide)) ?_
 rintro _ ⟨v8, rfl⟩
 refine tr1 rfl (aP (aA rfl) rfl mL) ?_
 refine tr1 rfl (aT (aA rfl) rfl (i := 0) rfl rfl jM) ?_
 obtain ⟨x9, h10, h⟩ := bind_some h
 refine bR rfl (mD (i := 4) (aA rfl) eS rfl rfl rfl (fun _ => rfl) h10 rfl) ?_
 rintro _ ⟨v11, rfl⟩
 refine tr1 rfl (aP (aA rfl) rfl mL) ?_
 refine tr1 rfl (bX (i := 2) rfl rfl rfl rfl rfl Try.sizeOf23 rfl (aA rfl) (Nat.le_of_ble_eq_true rfl) (ds' := [.lit (.int .i64 l_0.Players), .lit (.int .i64 l_0.Counts), .lit v7, .lit v11, .sl 3 (l_0.Frozen.map aI)]) rfl) ?_
 refine aF ?_
 refine aG ?_
 refine aE ?_
 refine bR rfl (vP (aA rfl) eS rfl rfl (rows := (([] : List aX)).map aI) rfl (dE (f := aI) fun _ => rfl) rfl (by decide)) ?_
 rintro _ ⟨v12, rfl⟩
 refine tr1 rfl (aP (aA rfl) rfl kR) ?_
 refine tr1 rfl (aT (aA rfl) rfl (i := 0) rfl rfl jM) ?_
 obtain ⟨x13, h14, h⟩ := bind_some h
 refine bR rfl (mD (i := 5) (aA rfl) eS rfl rfl rfl (fun _ => rfl) h14 rfl) ?_
 rintro _ ⟨v15, rfl⟩
 refine tr1 rfl (aP (aA rfl) rfl kR) ?_
 refine tr1 rfl (bX (i := 2) rfl rfl rfl rfl rfl Try.sizeOf23 rfl (aA rfl) (Nat.le_of_ble_eq_true rfl) (ds' := [.lit (.int .i64 l_0.Players), .lit (.int .i64 l_0.Counts), .lit v7, .lit v11, .lit v15]) rfl) ?_
 refine aF ?_
 refine aG ?_
 refine aE ?_
 refine tr1 rfl (cT (aA rfl) rfl (i := 2) rfl eQ (es := [.lit (.int .i64 l_0.Players), .lit (.int .i64 l_0.Counts), .lit v7, .lit v11, .lit v15]) rfl rfl) ?_
 refine tr1 rfl (bX (i := 1) rfl rfl rfl rfl rfl Try.sizeOf25 rfl (aA rfl) (Nat.le_of_ble_eq_true rfl) (ds' := [.lit (.int .i64 l_0.Players), .lit (.int .i64 l_0.Counts), .lit v7, .lit v11, .lit v15]) rfl) ?_
 refine aF ?_
 have h := Option.some.inj h
 subst h
 refine cR (aY [3, 4, 5, 0, 1, 2] rfl rfl (le_refl _)) ?_
 exact bL ⟨rfl, _, [.arr v7 42 5 (x5.map aD), .arr v11 66 3 (x9.map aI), .arr v15 66 3 (x13.map aI)], [.box b1 0 (aU l_0), .box b2 0 [.lit (.int .i64 l_0.Players), .lit (.int .i64 l_0.Counts), .lit v7, .lit v11, .lit v15], .box b3 0 [.lit (.int .i64 l_0.Players), .lit (.int .i64 l_0.Counts), .lit v7, .lit v11, .lit v15]], _, .one (.cell 2 25 rfl (i := 4) rfl eQ (es := [.lit (.int .i64 l_0.Players), .lit (.int .i64 l_0.Counts), .lit v7, .lit v11, .lit v15]) rfl rfl), .refl _, .same _, v7, v11, v15, rfl, rfl⟩

theorem zI (l_0 : aM) (player_1 : Int) (week_2 : Int) (points_3 : Int) {r : aM} (h : lO l_0 player_1 week_2 points_3 = some r) : Fn Try.prog 26 [.agg (aU l_0), .d (.lit (.int .i64 player_1)), .d (.lit (.int .i64 week_2)), .d (.lit (.int .i64 points_3))] (.agg (aU r)) := by
 unfold lO at h
 refine qP Try.func26 rfl (rs := [.cell 8 25]) Try.results26 Try.ntmps26 (Nat.le_of_ble_eq_true rfl) ?_
 refine aG ?_
 refine aE ?_
 refine bR rfl (fK (v := .agg (aU l_0)) (aA rfl) rfl rfl rfl) ?_
 rintro _ ⟨b1, rfl⟩
 refine bR rfl (fM (zs := [.lit (.int .i64 0), .lit (.int .i64 0), .sl 5 ((([] : List aB)).map aD), .sl 3 ((([] : List aX)).map aI), .sl 3 ((([] : List aX)).map aI)]) (aA rfl) Try.zeroValue25 rfl rfl) ?_
 rintro _ ⟨b2, rfl⟩
 refine aF ?_
 refine aG ?_
 refine aE ?_
 refine tr1 rfl (cT (aA rfl) rfl (i := 0) rfl eQ (es := (aU l_0)) rfl rfl) ?_
 obtain ⟨r3, h4, h⟩ := bind_some h
 refine bR rfl (dP (passed := []) (aA rfl) rfl (.func _ _ Try.call18) rfl rfl (xV _ h4)) ?_
 rintro _ ⟨_, _, ⟨w5, w6, w7, rfl, rfl⟩, rfl⟩
 refine bR rfl (fM (zs := [.lit (.int .i64 0), .lit (.int .i64 0), .lit (.slice none 0 0), .lit (.slice none 0 0), .lit (.slice none 0 0)]) (aA rfl) Try.zeroValue25 rfl rfl) ?_
 rintro _ ⟨b8, rfl⟩
 refine tr1 rfl (bX (i := 5) rfl rfl rfl rfl rfl Try.sizeOf25 rfl (aA rfl) (Nat.le_of_ble_eq_true rfl) (ds' := [.lit (.int .i64 r3.Players), .lit (.int .i64 r3.Counts), .lit w5, .lit w6, .lit w7]) rfl) ?_
 refine aF ?_
 refine aG ?_
 refine aE ?_
 refine tr1 rfl (aJ (v := .d (.lit (.int .i64 0))) (aA rfl) rfl rfl) ?_
 refine aF ?_
 refine aG ?_
 refine aG ?_
 refine aE ?_
 refine tr1 rfl (aJ (v := .d (.lit (.int .i64 0))) (aA rfl) rfl rfl) ?_
 refine aF ?_
 refine bT ?_
 refine cM [1, 2, 3, 4, 8, 9] (fun (s9 : Int × Int) => [(10, .d (.lit (.int .i64 s9.1))), (11, .d (.lit (.int .i64 s9.2)))]) (fun (s9 : Int × Int) => [.box b1 0 (aU l_0), .box b2 0 (aU (aM.mk 0 0 ([] : List aB) ([] : List aX) ([] : List aX))), .box b8 0 [.lit (.int .i64 r3.Players), .lit (.int .i64 r3.Counts), .lit w5, .lit w6, .lit w7], .arr w5 42 5 (r3.Reports.map aD), .arr w6 66 3 (r3.Bans.map aI), .arr w7 66 3 (r3.Frozen.map aI)]) (fun (k : Nat) (s9 : Int × Int) => iE player_1 week_2 points_3 l_0 (aM.mk 0 0 ([] : List aB) ([] : List aX) ([] : List aX)) r3.Players r3.Counts r3.Reports r3.Bans r3.Frozen k s9.1 s9.2) (fun _ => rfl) (0, 0) h (aY [3, 4, 5, 0, 1, 2] rfl rfl (aO rfl (aO rfl (aZ ⟨rfl, rfl, rfl, rfl, rfl, rfl, trivial⟩)))) ?_
 rintro k10 ⟨id_0_9, i_0_9⟩ h
 simp only [iE] at h
 refine aG ?_
 refine aG ?_
 refine aE ?_
 refine tr1 rfl (aC (v := .d (.lit (.int .i64 i_0_9))) (aA rfl) rfl rfl) ?_
 refine tr1 rfl (aP (aA rfl) rfl dZ) ?_
 refine tr1 rfl (aT (aA rfl) rfl (i := 0) rfl rfl iG) ?_
 refine tr1 rfl (dM (aA rfl) rfl cA.of) ?_
 refine tr1 rfl (bC (aA rfl) rfl rfl rfl) ?_
 refine aF ?_
 refine bN rfl (fun c11 => ?_) (fun c11 => ?_)
 ·have h := aR c11 h
  refine bH ?_
  refine aG ?_
  refine bT ?_
  refine aE ?_
  refine tr1 rfl (aC (v := .d (.lit (.int .i64 id_0_9))) (aA rfl) rfl rfl) ?_
  refine tr1 rfl (aP (aA rfl) rfl dZ) ?_
  refine tr1 rfl (aT (aA rfl) rfl (i := 0) rfl rfl iG) ?_
  refine tr1 rfl (aC (v := .d (.lit (.int .i64 i_0_9))) (aA rfl) rfl rfl) ?_
  obtain ⟨x12, h13, h⟩ := bind_some h
  refine tr1 rfl (cD (aA rfl) rfl rfl cA.of (bP aD h13)) ?_
  refine tr1 rfl (cQ (aA rfl) rfl kS (es := [.lit (.int .i64 x12.Id)]) rfl) ?_
  refine tr1 rfl (cI (aA rfl) rfl bG) ?_
  refine tr1 rfl (bA (aA rfl) rfl rfl rfl) ?_
  refine tr1 rfl (aBe (aA rfl) rfl rfl) ?_
  refine tr1 rfl (aJ (v := .d (.lit (.int .i64 ((max id_0_9 (w64 (x12.Id + 1))))))) (aA rfl) rfl rfl) ?_
  refine eH ?_
  refine aE ?_
  refine tr1 rfl (aC (v := .d (.lit (.int .i64 i_0_9))) (aA rfl) rfl rfl) ?_
  refine tr1 rfl (bA (aA rfl) rfl rfl rfl) ?_
  refine tr1 rfl (aJ (v := .d (.lit (.int .i64 ((w64 (i_0_9 + 1)))))) (aA rfl) rfl rfl) ?_
  refine aF ?_
  exact ⟨(max id_0_9 (w64 (x12.Id + 1)), w64 (i_0_9 + 1)), h, aY [0, 1, 2, 3, 4, 5] rfl rfl (aO rfl (aO rfl (aZ ⟨rfl, rfl, rfl, rfl, rfl, rfl, trivial⟩)))⟩
 ·have h := aQ c11 h
  refine cX ?_
  refine .inl ⟨rfl, ?_⟩
  simp only [mW] at h
  refine aG ?_
  refine aE ?_
  refine tr1 rfl (aP (aA rfl) rfl dZ) ?_
  refine tr1 rfl (aT (aA rfl) rfl (i := 2) rfl rfl iG) ?_
  refine tr1 rfl (aC (v := .d (.lit (.int .i64 id_0_9))) (aA rfl) rfl rfl) ?_
  refine tr1 rfl (aC (v := .d (.lit (.int .i64 player_1))) (aA rfl) rfl rfl) ?_
  refine tr1 rfl (aC (v := .d (.lit (.int .i64 week_2))) (aA rfl) rfl rfl) ?_
  refine tr1 rfl (aC (v := .d (.lit (.int .i64 points_3))) (aA rfl) rfl rfl) ?_
  refine tr1 rfl (mG (aA rfl) tI (zs := [.lit (.int .i64 0), .lit (.int .i64 0), .lit (.int .i64 0), .lit (.int .i64 0), .lit (.bool false)]) rfl rfl rfl rfl (es := [.lit (.int .i64 id_0_9), .lit (.int .i64 player_1), .lit (.int .i64 week_2), .lit (.int .i64 points_3), .lit (.bool false)]) rfl) ?_
  refine tr1 rfl (jU (aA rfl) cA rfl rfl (rows := ([(aB.mk id_0_9 player_1 week_2 points_3 false)]).map aD) rfl (dE (f := aD) fun _ => rfl) rfl (by decide)) ?_
  obtain ⟨x14, h15, h⟩ := bind_some h
  refine bR rfl (mD (i := 3) (aA rfl) cA rfl rfl rfl (fun _ => rfl) h15 rfl) ?_
  rintro _ ⟨v16, rfl⟩
  refine tr1 rfl (aP (aA rfl) rfl dZ) ?_
  refine tr1 rfl (bX (i := 2) rfl rfl rfl rfl rfl Try.sizeOf22 rfl (aA rfl) (Nat.le_of_ble_eq_true rfl) (ds' := [.lit (.int .i64 r3.Players), .lit (.int .i64 r3.Counts), .lit v16, .lit w6, .lit w7]) rfl) ?_
  refine aF ?_
  refine aG ?_
  refine aE ?_
  refine tr1 rfl (cT (aA rfl) rfl (i := 2) rfl eQ (es := [.lit (.int .i64 r3.Players), .lit (.int .i64 r3.Counts), .lit v16, .lit w6, .lit w7]) rfl rfl) ?_
  refine tr1 rfl (bX (i := 1) rfl rfl rfl rfl rfl Try.sizeOf25 rfl (aA rfl) (Nat.le_of_ble_eq_true rfl) (ds' := [.lit (.int .i64 r3.Players), .lit (.int .i64 r3.Counts), .lit v16, .lit w6, .lit w7]) rfl) ?_
  refine aF ?_
  have h := Option.some.inj h
  subst h
  exact bL ⟨rfl, _, [.box b1 0 (aU l_0), .box b2 0 [.lit (.int .i64 r3.Players), .lit (.int .i64 r3.Counts), .lit v16, .lit w6, .lit w7], .box b8 0 [.lit (.int .i64 r3.Players), .lit (.int .i64 r3.Counts), .lit v16, .lit w6, .lit w7], .arr v16 42 5 (x14.map aD), .arr w6 66 3 (r3.Bans.map aI), .arr w7 66 3 (r3.Frozen.map aI)], .one (.cell 8 25 rfl (i := 1) rfl eQ (es := [.lit (.int .i64 r3.Players), .lit (.int .i64 r3.Counts), .lit v16, .lit w6, .lit w7]) rfl rfl), .refl _, .agg (dvc (.same _) (dvc (.same _) (dvc (jL 3 rfl (dE (f := aD) fun _ => rfl)) (dvc (jL 4 rfl (dE (f := aI) fun _ => rfl)) (dvc (jL 5 rfl (dE (f := aI) fun _ => rfl)) dvn)))))⟩

theorem xU (l_0 : aM) (player_1 : Int) (week_2 : Int) {r : Bool} (h : kQ l_0 player_1 week_2 = some r) : Fn Try.prog 20 [.agg (aU l_0), .d (.lit (.int .i64 player_1)), .d (.lit (.int .i64 week_2))] (.d (.lit (.bool r))) := by
 unfold kQ at h
 refine Fn.of_tr Try.func20 rfl (rs := [.tmp 6]) Try.results20 Try.ntmps20 (Nat.le_of_ble_eq_true rfl) ?_
 refine aG ?_
 refine aE ?_
 refine bR rfl (fK (v := .agg (aU l_0)) (aA rfl) rfl rfl rfl) ?_
 rintro _ ⟨b1, rfl⟩
 refine tr1 rfl (aJ (v := .d (.lit (.bool false))) (aA rfl) rfl rfl) ?_
 refine aF ?_
 refine aG ?_
 refine aE ?_
 refine tr1 rfl (cT (aA rfl) rfl (i := 0) rfl eQ (es := (aU l_0)) rfl rfl) ?_
 obtain ⟨r2, h3, h⟩ := bind_some h
 refine tr1 rfl (bY (aA rfl) (.func _ _ Try.call13) rfl rfl (BVs.refl _ _) (aAa _ h3) rfl) ?_
 refine tr1 rfl (fD (aA rfl) rfl) ?_
 refine tr1 rfl (aC (v := .d (.lit (.bool (!r2)))) (aA rfl) rfl rfl) ?_
 obtain ⟨b4, h5, h⟩ := bind_some h
 refine bQ 4 [1, 2, 3] 14 b4 ?_ ?_
 ·refine bD (!r2) (fun c18 => ?_) (fun c18 => ?_)
  ·have h5 := aR c18 h5
   refine aL rfl rfl (aA rfl) rfl c18 (cT (aA rfl) rfl (i := 0) rfl eQ (es := (aU l_0)) rfl rfl) ?_
   obtain ⟨r19, h20, h5⟩ := bind_some h5
   refine aL rfl rfl (aA rfl) rfl c18 (bY (aA rfl) (.func _ _ Try.call15) rfl rfl (BVs.refl _ _) (pB _ h20) rfl) ?_
   refine aL rfl rfl (aA rfl) rfl c18 (bC (aA rfl) rfl rfl rfl) ?_
   refine tr1 rfl (bJ (v := .d (.lit (.bool ((decide (r19 = 0)))))) (aA rfl) rfl c18 rfl rfl) ?_
   have h5 := Option.some.inj h5
   subst h5
   refine aF (aW rfl ⟨rfl, rfl, rfl, trivial⟩ rfl)
  ·have h5 := aQ c18 h5
   refine aN rfl rfl (aA rfl) rfl (aA rfl) rfl c18 ?_
   refine aN rfl rfl (aA rfl) rfl (aA rfl) rfl c18 ?_
   refine aN rfl rfl (aA rfl) rfl (aA rfl) rfl c18 ?_
   refine tr1 rfl (bI (v := .d (.lit (.bool false))) (aA rfl) rfl c18 rfl rfl) ?_
   have h5 := Option.some.inj h5
   subst h5
   refine aF (aW rfl ⟨rfl, rfl, rfl, trivial⟩ rfl)
 ·refine tr1 rfl (aC (v := .d (.lit (.bool b4))) (aA rfl) rfl rfl) ?_
  obtain ⟨b6, h7, h⟩ := bind_some h
  refine bQ 3 [1, 2, 3] 18 b6 ?_ ?_
  ·refine bD (b4) (fun c17 => ?_) (fun c17 => ?_)
   ·have h7 := aR c17 h7
    refine aL rfl rfl (aA rfl) rfl c17 (aC (v := .d (.lit (.int .i64 player_1))) (aA rfl) rfl rfl) ?_
    refine aL rfl rfl (aA rfl) rfl c17 (bC (aA rfl) rfl rfl rfl) ?_
    refine tr1 rfl (bJ (v := .d (.lit (.bool ((decide (0 ≤ player_1)))))) (aA rfl) rfl c17 rfl rfl) ?_
    have h7 := Option.some.inj h7
    subst h7
    refine aF (aW rfl ⟨rfl, rfl, rfl, trivial⟩ rfl)
   ·have h7 := aQ c17 h7
    refine aN rfl rfl (aA rfl) rfl (aA rfl) rfl c17 ?_
    refine aN rfl rfl (aA rfl) rfl (aA rfl) rfl c17 ?_
    refine tr1 rfl (bI (v := .d (.lit (.bool false))) (aA rfl) rfl c17 rfl rfl) ?_
    have h7 := Option.some.inj h7
    subst h7
    refine aF (aW rfl ⟨rfl, rfl, rfl, trivial⟩ rfl)
  ·refine tr1 rfl (aC (v := .d (.lit (.bool b6))) (aA rfl) rfl rfl) ?_
   obtain ⟨b8, h9, h⟩ := bind_some h
   refine bQ 5 [2] 24 b8 ?_ ?_
   ·refine bD (b6) (fun c16 => ?_) (fun c16 => ?_)
    ·have h9 := aR c16 h9
     refine aL rfl rfl (aA rfl) rfl c16 (aC (v := .d (.lit (.int .i64 player_1))) (aA rfl) rfl rfl) ?_
     refine aL rfl rfl (aA rfl) rfl c16 (aP (aA rfl) rfl gZ) ?_
     refine aL rfl rfl (aA rfl) rfl c16 (aT (aA rfl) rfl (i := 0) rfl rfl bG) ?_
     refine aL rfl rfl (aA rfl) rfl c16 (bC (aA rfl) rfl rfl rfl) ?_
     refine tr1 rfl (bJ (v := .d (.lit (.bool ((decide (player_1 < l_0.Players)))))) (aA rfl) rfl c16 rfl rfl) ?_
     have h9 := Option.some.inj h9
     subst h9
     refine aF (aW rfl ⟨rfl, trivial⟩ rfl)
    ·have h9 := aQ c16 h9
     refine aN rfl rfl (aA rfl) rfl (aA rfl) rfl c16 ?_
     refine aN rfl rfl (aA rfl) rfl (aA rfl) rfl c16 ?_
     refine aN rfl rfl (aA rfl) rfl (aA rfl) rfl c16 ?_
     refine aN rfl rfl (aA rfl) rfl (aA rfl) rfl c16 ?_
     refine tr1 rfl (bI (v := .d (.lit (.bool false))) (aA rfl) rfl c16 rfl rfl) ?_
     have h9 := Option.some.inj h9
     subst h9
     refine aF (aW rfl ⟨rfl, trivial⟩ rfl)
   ·refine tr1 rfl (aC (v := .d (.lit (.bool b8))) (aA rfl) rfl rfl) ?_
    obtain ⟨b10, h11, h⟩ := bind_some h
    refine bQ 3 [2] 28 b10 ?_ ?_
    ·refine bD (b8) (fun c15 => ?_) (fun c15 => ?_)
     ·have h11 := aR c15 h11
      refine aL rfl rfl (aA rfl) rfl c15 (aC (v := .d (.lit (.int .i64 week_2))) (aA rfl) rfl rfl) ?_
      refine aL rfl rfl (aA rfl) rfl c15 (bC (aA rfl) rfl rfl rfl) ?_
      refine tr1 rfl (bJ (v := .d (.lit (.bool ((decide (0 ≤ week_2)))))) (aA rfl) rfl c15 rfl rfl) ?_
      have h11 := Option.some.inj h11
      subst h11
      refine aF (aW rfl ⟨rfl, trivial⟩ rfl)
     ·have h11 := aQ c15 h11
      refine aN rfl rfl (aA rfl) rfl (aA rfl) rfl c15 ?_
      refine aN rfl rfl (aA rfl) rfl (aA rfl) rfl c15 ?_
      refine tr1 rfl (bI (v := .d (.lit (.bool false))) (aA rfl) rfl c15 rfl rfl) ?_
      have h11 := Option.some.inj h11
      subst h11
      refine aF (aW rfl ⟨rfl, trivial⟩ rfl)
    ·refine tr1 rfl (aC (v := .d (.lit (.bool b10))) (aA rfl) rfl rfl) ?_
     obtain ⟨b12, h13, h⟩ := bind_some h
     refine bQ 3 [] 32 b12 ?_ ?_
     ·refine bD (b10) (fun c14 => ?_) (fun c14 => ?_)
      ·have h13 := aR c14 h13
       refine aL rfl rfl (aA rfl) rfl c14 (aC (v := .d (.lit (.int .i64 week_2))) (aA rfl) rfl rfl) ?_
       refine aL rfl rfl (aA rfl) rfl c14 (bC (aA rfl) rfl rfl rfl) ?_
       refine tr1 rfl (bJ (v := .d (.lit (.bool ((decide (week_2 ≤ 250)))))) (aA rfl) rfl c14 rfl rfl) ?_
       have h13 := Option.some.inj h13
       subst h13
       refine aF (aW rfl trivial rfl)
      ·have h13 := aQ c14 h13
       refine aN rfl rfl (aA rfl) rfl (aA rfl) rfl c14 ?_
       refine aN rfl rfl (aA rfl) rfl (aA rfl) rfl c14 ?_
       refine tr1 rfl (bI (v := .d (.lit (.bool false))) (aA rfl) rfl c14 rfl rfl) ?_
       have h13 := Option.some.inj h13
       subst h13
       refine aF (aW rfl trivial rfl)
     ·refine tr1 rfl (aJ (v := .d (.lit (.bool b12))) (aA rfl) rfl rfl) ?_
      refine aF ?_
      have h := Option.some.inj h
      subst h
      refine cR (cG (cL (l := [6]) ⟨rfl, trivial⟩)) ?_
      exact bL ⟨rfl, _, .one _, rfl, rfl⟩

theorem yO (l_0 : aM) (player_1 : Int) (week_2 : Int) {r : Int × Int} (h : pT l_0 player_1 week_2 = some r) : Fn Try.prog 24 [.agg (aU l_0), .d (.lit (.int .i64 player_1)), .d (.lit (.int .i64 week_2))] (.tup [.d (.lit (.int .i64 r.1)), .d (.lit (.int .i64 r.2))]) := by
 unfold pT at h
 refine Fn.of_tr Try.func24 rfl (rs := [.tmp 6, .tmp 7]) Try.results24 Try.ntmps24 (Nat.le_of_ble_eq_true rfl) ?_
 refine aG ?_
 refine aE ?_
 refine bR rfl (fK (v := .agg (aU l_0)) (aA rfl) rfl rfl rfl) ?_
 rintro _ ⟨b1, rfl⟩
 refine tr1 rfl (aJ (v := .d (.lit (.int .i64 0))) (aA rfl) rfl rfl) ?_
 refine tr1 rfl (aJ (v := .d (.lit (.int .i64 0))) (aA rfl) rfl rfl) ?_
 refine aF ?_
 refine aG ?_
 refine aE ?_
 refine tr1 rfl (cT (aA rfl) rfl (i := 0) rfl eQ (es := (aU l_0)) rfl rfl) ?_
 refine tr1 rfl (aC (v := .d (.lit (.int .i64 player_1))) (aA rfl) rfl rfl) ?_
 refine tr1 rfl (aC (v := .d (.lit (.int .i64 week_2))) (aA rfl) rfl rfl) ?_
 obtain ⟨r2, h3, h⟩ := bind_some h
 refine bR rfl (dP (passed := []) (aA rfl) rfl (.func _ _ Try.call44) rfl rfl (tV _ _ _ h3)) ?_
 rintro _ ⟨_, _, ⟨b5, w6, rfl, rfl⟩, rfl⟩
 obtain ⟨_ | y4, e7⟩ := r2
 ·have h := yJ h
  refine gI (aY [0] rfl rfl (le_refl _)) ?_
  refine tr1 rfl (aC (v := .tup [.d (.lit (.pointer none)), .d (.lit (.int .i64 e7))]) (aA rfl) rfl rfl) ?_
  refine tr1 rfl (cU (aA rfl) rfl rfl) ?_
  refine tr1 rfl (cU (aA rfl) rfl rfl) ?_
  refine tr1 rfl (aJ (v := .d (.lit (.pointer none))) (aA rfl) rfl rfl) ?_
  refine tr1 rfl (aJ (v := .d (.lit (.int .i64 e7))) (aA rfl) rfl rfl) ?_
  refine aF ?_
  refine aG ?_
  refine aG ?_
  refine aE ?_
  refine tr1 rfl (aC (v := .d (.lit (.int .i64 e7))) (aA rfl) rfl rfl) ?_
  refine tr1 rfl (bC (aA rfl) rfl rfl rfl) ?_
  refine aF ?_
  refine bN rfl (fun c8 => ?_) (fun c8 => ?_)
  ·have h := aR c8 h
   refine aG ?_
   refine aE ?_
   refine tr1 rfl (aC (v := .d (.lit (.int .i64 e7))) (aA rfl) rfl rfl) ?_
   refine tr1 rfl (aJ (v := .d (.lit (.int .i64 0))) (aA rfl) rfl rfl) ?_
   refine tr1 rfl (aJ (v := .d (.lit (.int .i64 e7))) (aA rfl) rfl rfl) ?_
   refine aF ?_
   have h := Option.some.inj h
   subst h
   refine cR (cG (cL (l := [6, 7]) ⟨rfl, rfl, trivial⟩)) ?_
   exact bL ⟨rfl, _, .two _ _, rfl, rfl⟩
  ·have h := aQ c8 h
   refine bH ?_
   refine aG ?_
   refine aE ?_
   refine tr1 rfl (aC (v := .d (.lit (.pointer none))) (aA rfl) rfl rfl) ?_
   refine tr1 rfl (aC (v := .d (.lit (.int .i64 player_1))) (aA rfl) rfl rfl) ?_
   refine tr1 rfl (aC (v := .d (.lit (.int .i64 week_2))) (aA rfl) rfl rfl) ?_
   cases h
 ·have h := yK h
  refine gI (aY [0, 1, 2] rfl rfl (le_refl _)) ?_
  refine tr1 rfl (aC (v := .tup [.bp b5 0 0, .d (.lit (.int .i64 e7))]) (aA rfl) rfl rfl) ?_
  refine tr1 rfl (cU (aA rfl) rfl rfl) ?_
  refine tr1 rfl (cU (aA rfl) rfl rfl) ?_
  refine tr1 rfl (aJ (v := .bp b5 0 0) (aA rfl) rfl rfl) ?_
  refine tr1 rfl (aJ (v := .d (.lit (.int .i64 e7))) (aA rfl) rfl rfl) ?_
  refine aF ?_
  refine aG ?_
  refine aG ?_
  refine aE ?_
  refine tr1 rfl (aC (v := .d (.lit (.int .i64 e7))) (aA rfl) rfl rfl) ?_
  refine tr1 rfl (bC (aA rfl) rfl rfl rfl) ?_
  refine aF ?_
  refine bN rfl (fun c9 => ?_) (fun c9 => ?_)
  ·have h := aR c9 h
   refine aG ?_
   refine aE ?_
   refine tr1 rfl (aC (v := .d (.lit (.int .i64 e7))) (aA rfl) rfl rfl) ?_
   refine tr1 rfl (aJ (v := .d (.lit (.int .i64 0))) (aA rfl) rfl rfl) ?_
   refine tr1 rfl (aJ (v := .d (.lit (.int .i64 e7))) (aA rfl) rfl rfl) ?_
   refine aF ?_
   have h := Option.some.inj h
   subst h
   refine cR (cG (cL (l := [6, 7]) ⟨rfl, rfl, trivial⟩)) ?_
   exact bL ⟨rfl, _, .two _ _, rfl, rfl⟩
  ·have h := aQ c9 h
   refine bH ?_
   refine aG ?_
   refine aE ?_
   refine tr1 rfl (aC (v := .bp b5 0 0) (aA rfl) rfl rfl) ?_
   refine tr1 rfl (aC (v := .d (.lit (.int .i64 player_1))) (aA rfl) rfl rfl) ?_
   refine tr1 rfl (aC (v := .d (.lit (.int .i64 week_2))) (aA rfl) rfl rfl) ?_
   obtain ⟨r10, h11, h⟩ := bind_some h
   refine tr1 rfl (bY (aA rfl) (.func _ _ Try.call51) rfl rfl (.cons ((pN 0 rfl rfl (dvc (.same _) (dvc (.same _) (dvc (jL 1 rfl (dE (f := aD) fun _ => rfl)) (dvc (.same _) (dvc (.same _) dvn))))))) (.cons (.same _) (.cons (.same _) .nil))) (tQ _ _ _ h11) rfl) ?_
   refine tr1 rfl (aJ (v := .d (.lit (.int .i64 r10))) (aA rfl) rfl rfl) ?_
   refine aF ?_
   refine aG ?_
   refine aG ?_
   refine aE ?_
   refine tr1 rfl (aC (v := .d (.lit (.int .i64 r10))) (aA rfl) rfl rfl) ?_
   refine tr1 rfl (bC (aA rfl) rfl rfl rfl) ?_
   refine aF ?_
   refine bN rfl (fun c12 => ?_) (fun c12 => ?_)
   ·have h := aR c12 h
    refine aG ?_
    refine aE ?_
    refine tr1 rfl (aJ (v := .d (.lit (.int .i64 0))) (aA rfl) rfl rfl) ?_
    refine tr1 rfl (aJ (v := .d (.lit (.int .i64 3))) (aA rfl) rfl rfl) ?_
    refine aF ?_
    have h := Option.some.inj h
    subst h
    refine cR (cG (cL (l := [6, 7]) ⟨rfl, rfl, trivial⟩)) ?_
    exact bL ⟨rfl, _, .two _ _, rfl, rfl⟩
   ·have h := aQ c12 h
    refine bH ?_
    refine aG ?_
    refine aE ?_
    refine tr1 rfl (aC (v := .d (.lit (.int .i64 r10))) (aA rfl) rfl rfl) ?_
    refine tr1 rfl (aJ (v := .d (.lit (.int .i64 r10))) (aA rfl) rfl rfl) ?_
    refine tr1 rfl (aJ (v := .d (.lit (.int .i64 0))) (aA rfl) rfl rfl) ?_
    refine aF ?_
    have h := Option.some.inj h
    subst h
    refine cR (cG (cL (l := [6, 7]) ⟨rfl, rfl, trivial⟩)) ?_
    exact bL ⟨rfl, _, .two _ _, rfl, rfl⟩

theorem vC (l_0 : aM) (x_1 : kH) (c_2 : jI) {r : Bool} (h : lN l_0 x_1 c_2 = some r) : Fn Try.prog 5 [.agg (aU l_0), .agg (nZ x_1), .agg (mR c_2)] (.d (.lit (.bool r))) := by
 unfold lN at h
 refine Fn.of_tr Try.func5 rfl (rs := [.tmp 6]) Try.results5 Try.ntmps5 (Nat.le_of_ble_eq_true rfl) ?_
 refine aG ?_
 refine aE ?_
 refine bR rfl (fK (v := .agg (aU l_0)) (aA rfl) rfl rfl rfl) ?_
 rintro _ ⟨b1, rfl⟩
 refine bR rfl (fK (v := .agg (nZ x_1)) (aA rfl) rfl rfl rfl) ?_
 rintro _ ⟨b2, rfl⟩
 refine bR rfl (fK (v := .agg (mR c_2)) (aA rfl) rfl rfl rfl) ?_
 rintro _ ⟨b3, rfl⟩
 refine tr1 rfl (aJ (v := .d (.lit (.bool false))) (aA rfl) rfl rfl) ?_
 refine aF ?_
 refine aG ?_
 refine aG ?_
 refine aE ?_
 refine tr1 rfl (cT (aA rfl) rfl (i := 0) rfl eQ (es := (aU l_0)) rfl rfl) ?_
 refine tr1 rfl (aP (aA rfl) rfl uL) ?_
 refine tr1 rfl (aT (aA rfl) rfl (i := 1) rfl rfl bG) ?_
 refine tr1 rfl (aP (aA rfl) rfl qX) ?_
 refine tr1 rfl (aT (aA rfl) rfl (i := 1) rfl rfl bG) ?_
 obtain ⟨r4, h5, h⟩ := bind_some h
 refine tr1 rfl (bY (aA rfl) (.func _ _ Try.call20) rfl rfl (BVs.refl _ _) (xU _ _ _ h5) rfl) ?_
 refine tr1 rfl (fD (aA rfl) rfl) ?_
 refine tr1 rfl (aC (v := .d (.lit (.bool (!r4)))) (aA rfl) rfl rfl) ?_
 obtain ⟨b6, h7, h⟩ := bind_some h
 refine bQ 4 [3, 4, 5] 32 b6 ?_ ?_
 ·refine bD (!r4) (fun c108 => ?_) (fun c108 => ?_)
  ·have h7 := aR c108 h7
   refine aN rfl rfl (aA rfl) rfl (aA rfl) rfl c108 ?_
   refine aN rfl rfl (aA rfl) rfl (aA rfl) rfl c108 ?_
   refine aN rfl rfl (aA rfl) rfl (aA rfl) rfl c108 ?_
   refine tr1 rfl (bJ (v := .d (.lit (.bool true))) (aA rfl) rfl c108 rfl rfl) ?_
   have h7 := Option.some.inj h7
   subst h7
   refine aF (aW rfl ⟨rfl, rfl, rfl, trivial⟩ rfl)
  ·have h7 := aQ c108 h7
   refine aL rfl rfl (aA rfl) rfl c108 (aP (aA rfl) rfl gZ) ?_
   refine aL rfl rfl (aA rfl) rfl c108 (aT (aA rfl) rfl (i := 0) rfl rfl bG) ?_
   refine aL rfl rfl (aA rfl) rfl c108 (bC (aA rfl) rfl rfl rfl) ?_
   refine tr1 rfl (bI (v := .d (.lit (.bool ((decide (4 < l_0.Players)))))) (aA rfl) rfl c108 rfl rfl) ?_
   have h7 := Option.some.inj h7
   subst h7
   refine aF (aW rfl ⟨rfl, rfl, rfl, trivial⟩ rfl)
 ·refine tr1 rfl (aC (v := .d (.lit (.bool b6))) (aA rfl) rfl rfl) ?_
  obtain ⟨b8, h9, h⟩ := bind_some h
  refine bQ 5 [3, 4, 5] 38 b8 ?_ ?_
  ·refine bD (b6) (fun c107 => ?_) (fun c107 => ?_)
   ·have h9 := aR c107 h9
    refine aN rfl rfl (aA rfl) rfl (aA rfl) rfl c107 ?_
    refine aN rfl rfl (aA rfl) rfl (aA rfl) rfl c107 ?_
    refine aN rfl rfl (aA rfl) rfl (aA rfl) rfl c107 ?_
    refine aN rfl rfl (aA rfl) rfl (aA rfl) rfl c107 ?_
    refine tr1 rfl (bJ (v := .d (.lit (.bool true))) (aA rfl) rfl c107 rfl rfl) ?_
    have h9 := Option.some.inj h9
    subst h9
    refine aF (aW rfl ⟨rfl, rfl, rfl, trivial⟩ rfl)
   ·have h9 := aQ c107 h9
    refine aL rfl rfl (aA rfl) rfl c107 (aP (aA rfl) rfl dZ) ?_
    refine aL rfl rfl (aA rfl) rfl c107 (aT (aA rfl) rfl (i := 0) rfl rfl iG) ?_
    refine aL rfl rfl (aA rfl) rfl c107 (dM (aA rfl) rfl cA.of) ?_
    refine aL rfl rfl (aA rfl) rfl c107 (bC (aA rfl) rfl rfl rfl) ?_
    refine tr1 rfl (bI (v := .d (.lit (.bool ((decide (8 < (l_0.Reports.length : Int))))))) (aA rfl) rfl c107 rfl rfl) ?_
    have h9 := Option.some.inj h9
    subst h9
    refine aF (aW rfl ⟨rfl, rfl, rfl, trivial⟩ rfl)
  ·refine tr1 rfl (aC (v := .d (.lit (.bool b8))) (aA rfl) rfl rfl) ?_
   obtain ⟨b10, h11, h⟩ := bind_some h
   refine bQ 5 [3, 4, 5] 44 b10 ?_ ?_
   ·refine bD (b8) (fun c106 => ?_) (fun c106 => ?_)
    ·have h11 := aR c106 h11
     refine aN rfl rfl (aA rfl) rfl (aA rfl) rfl c106 ?_
     refine aN rfl rfl (aA rfl) rfl (aA rfl) rfl c106 ?_
     refine aN rfl rfl (aA rfl) rfl (aA rfl) rfl c106 ?_
     refine aN rfl rfl (aA rfl) rfl (aA rfl) rfl c106 ?_
     refine tr1 rfl (bJ (v := .d (.lit (.bool true))) (aA rfl) rfl c106 rfl rfl) ?_
     have h11 := Option.some.inj h11
     subst h11
     refine aF (aW rfl ⟨rfl, rfl, rfl, trivial⟩ rfl)
    ·have h11 := aQ c106 h11
     refine aL rfl rfl (aA rfl) rfl c106 (aP (aA rfl) rfl sE) ?_
     refine aL rfl rfl (aA rfl) rfl c106 (aT (aA rfl) rfl (i := 2) rfl rfl qK) ?_
     refine aL rfl rfl (aA rfl) rfl c106 (dM (aA rfl) rfl eF.of) ?_
     refine aL rfl rfl (aA rfl) rfl c106 (bC (aA rfl) rfl rfl rfl) ?_
     refine tr1 rfl (bI (v := .d (.lit (.bool ((decide (2 < (c_2.Prizes.length : Int))))))) (aA rfl) rfl c106 rfl rfl) ?_
     have h11 := Option.some.inj h11
     subst h11
     refine aF (aW rfl ⟨rfl, rfl, rfl, trivial⟩ rfl)
   ·refine tr1 rfl (aC (v := .d (.lit (.bool b10))) (aA rfl) rfl rfl) ?_
    obtain ⟨b12, h13, h⟩ := bind_some h
    refine bQ 8 [3, 4, 5] 53 b12 ?_ ?_
    ·refine bD (b10) (fun c105 => ?_) (fun c105 => ?_)
     ·have h13 := aR c105 h13
      refine aN rfl rfl (aA rfl) rfl (aA rfl) rfl c105 ?_
      refine aN rfl rfl (aA rfl) rfl (aA rfl) rfl c105 ?_
      refine aN rfl rfl (aA rfl) rfl (aA rfl) rfl c105 ?_
      refine aN rfl rfl (aA rfl) rfl (aA rfl) rfl c105 ?_
      refine aN rfl rfl (aA rfl) rfl (aA rfl) rfl c105 ?_
      refine aN rfl rfl (aA rfl) rfl (aA rfl) rfl c105 ?_
      refine aN rfl rfl (aA rfl) rfl (aA rfl) rfl c105 ?_
      refine tr1 rfl (bJ (v := .d (.lit (.bool true))) (aA rfl) rfl c105 rfl rfl) ?_
      have h13 := Option.some.inj h13
      subst h13
      refine aF (aW rfl ⟨rfl, rfl, rfl, trivial⟩ rfl)
     ·have h13 := aQ c105 h13
      refine aL rfl rfl (aA rfl) rfl c105 (aP (aA rfl) rfl aDj) ?_
      refine aL rfl rfl (aA rfl) rfl c105 (aT (aA rfl) rfl (i := 2) rfl rfl qK) ?_
      refine aL rfl rfl (aA rfl) rfl c105 (dM (aA rfl) rfl eF.of) ?_
      refine aL rfl rfl (aA rfl) rfl c105 (aP (aA rfl) rfl sE) ?_
      refine aL rfl rfl (aA rfl) rfl c105 (aT (aA rfl) rfl (i := 2) rfl rfl qK) ?_
      refine aL rfl rfl (aA rfl) rfl c105 (dM (aA rfl) rfl eF.of) ?_
      refine aL rfl rfl (aA rfl) rfl c105 (bC (aA rfl) rfl rfl rfl) ?_
      refine tr1 rfl (bI (v := .d (.lit (.bool ((!decide ((c_2.To.length : Int) = (c_2.Prizes.length : Int))))))) (aA rfl) rfl c105 rfl rfl) ?_
      have h13 := Option.some.inj h13
      subst h13
      refine aF (aW rfl ⟨rfl, rfl, rfl, trivial⟩ rfl)
    ·refine tr1 rfl (aC (v := .d (.lit (.bool b12))) (aA rfl) rfl rfl) ?_
     obtain ⟨b14, h15, h⟩ := bind_some h
     refine bQ 5 [3, 4, 5] 59 b14 ?_ ?_
     ·refine bD (b12) (fun c102 => ?_) (fun c102 => ?_)
      ·have h15 := aR c102 h15
       refine aN rfl rfl (aA rfl) rfl (aA rfl) rfl c102 ?_
       refine aN rfl rfl (aA rfl) rfl (aA rfl) rfl c102 ?_
       refine aN rfl rfl (aA rfl) rfl (aA rfl) rfl c102 ?_
       refine aN rfl rfl (aA rfl) rfl (aA rfl) rfl c102 ?_
       refine tr1 rfl (bJ (v := .d (.lit (.bool true))) (aA rfl) rfl c102 rfl rfl) ?_
       have h15 := Option.some.inj h15
       subst h15
       refine aF (aW rfl ⟨rfl, rfl, rfl, trivial⟩ rfl)
      ·have h15 := aQ c102 h15
       refine aL rfl rfl (aA rfl) rfl c102 (aP (aA rfl) rfl sE) ?_
       refine aL rfl rfl (aA rfl) rfl c102 (aT (aA rfl) rfl (i := 2) rfl rfl qK) ?_
       obtain ⟨r103, h104, h15⟩ := bind_some h15
       refine aL rfl rfl (aA rfl) rfl c102 (bY (aA rfl) (.func _ _ Try.call23) rfl rfl (BVs.refl _ _) (vU _ h104) rfl) ?_
       refine aL rfl rfl (aA rfl) rfl c102 (fD (aA rfl) rfl) ?_
       refine tr1 rfl (bI (v := .d (.lit (.bool (!r103)))) (aA rfl) rfl c102 rfl rfl) ?_
       have h15 := Option.some.inj h15
       subst h15
       refine aF (aW rfl ⟨rfl, rfl, rfl, trivial⟩ rfl)
     ·refine aF ?_
      refine bN rfl (fun c16 => ?_) (fun c16 => ?_)
      ·have h := aR c16 h
       refine aG ?_
       refine aE ?_
       obtain ⟨r17, h18, h⟩ := bind_some h
       refine tr1 rfl (bY (aA rfl) (.func _ _ Try.call16) rfl rfl (BVs.refl _ _) (lF h18) rfl) ?_
       refine tr1 rfl (aJ (v := .d (.lit (.bool r17))) (aA rfl) rfl rfl) ?_
       refine aF ?_
       have h := Option.some.inj h
       subst h
       refine cR (cG (cL (l := [6]) ⟨rfl, trivial⟩)) ?_
       exact bL ⟨rfl, _, .one _, rfl, rfl⟩
      ·have h := aQ c16 h
       refine bH ?_
       refine aG ?_
       refine aE ?_
       refine tr1 rfl (cT (aA rfl) rfl (i := 0) rfl eQ (es := (aU l_0)) rfl rfl) ?_
       refine tr1 rfl (aP (aA rfl) rfl uL) ?_
       refine tr1 rfl (aT (aA rfl) rfl (i := 1) rfl rfl bG) ?_
       refine tr1 rfl (aP (aA rfl) rfl qX) ?_
       refine tr1 rfl (aT (aA rfl) rfl (i := 1) rfl rfl bG) ?_
       refine tr1 rfl (aP (aA rfl) rfl sE) ?_
       refine tr1 rfl (aT (aA rfl) rfl (i := 2) rfl rfl qK) ?_
       obtain ⟨r19, h20, h⟩ := bind_some h
       refine tr1 rfl (bY (aA rfl) (.func _ _ Try.call17) rfl rfl (BVs.refl _ _) (uQ _ _ _ _ h20) rfl) ?_
       refine tr1 rfl (aC (v := .tup [.d (.lit (.int .i64 r19.1)), .d (.lit (.int .i64 r19.2.1)), .d (.lit (.int .i64 r19.2.2))]) (aA rfl) rfl rfl) ?_
       refine tr1 rfl (cU (aA rfl) rfl rfl) ?_
       refine tr1 rfl (cU (aA rfl) rfl rfl) ?_
       refine tr1 rfl (cU (aA rfl) rfl rfl) ?_
       refine tr1 rfl (aJ (v := .d (.lit (.int .i64 r19.1))) (aA rfl) rfl rfl) ?_
       refine tr1 rfl (aJ (v := .d (.lit (.int .i64 r19.2.1))) (aA rfl) rfl rfl) ?_
       refine tr1 rfl (aJ (v := .d (.lit (.int .i64 r19.2.2))) (aA rfl) rfl rfl) ?_
       refine aF ?_
       refine aG ?_
       refine aE ?_
       refine tr1 rfl (cT (aA rfl) rfl (i := 0) rfl eQ (es := (aU l_0)) rfl rfl) ?_
       refine tr1 rfl (aP (aA rfl) rfl uL) ?_
       refine tr1 rfl (aT (aA rfl) rfl (i := 1) rfl rfl bG) ?_
       refine tr1 rfl (aP (aA rfl) rfl qX) ?_
       refine tr1 rfl (aT (aA rfl) rfl (i := 1) rfl rfl bG) ?_
       obtain ⟨r21, h22, h⟩ := bind_some h
       refine tr1 rfl (bY (aA rfl) (.func _ _ Try.call17) rfl rfl (.cons (.same _) (.cons (.same _) (.cons (.same _) (.cons (.d (.nil 1)) .nil)))) (uQ _ _ _ _ h22) rfl) ?_
       refine tr1 rfl (aC (v := .tup [.d (.lit (.int .i64 r21.1)), .d (.lit (.int .i64 r21.2.1)), .d (.lit (.int .i64 r21.2.2))]) (aA rfl) rfl rfl) ?_
       refine tr1 rfl (cU (aA rfl) rfl rfl) ?_
       refine tr1 rfl (cU (aA rfl) rfl rfl) ?_
       refine tr1 rfl (cU (aA rfl) rfl rfl) ?_
       refine tr1 rfl (aJ (v := .d (.lit (.int .i64 r21.1))) (aA rfl) rfl rfl) ?_
       refine tr1 rfl (aJ (v := .d (.lit (.int .i64 r21.2.1))) (aA rfl) rfl rfl) ?_
       refine tr1 rfl (aJ (v := .d (.lit (.int .i64 r21.2.2))) (aA rfl) rfl rfl) ?_
       refine aF ?_
       refine aG ?_
       refine aE ?_
       refine tr1 rfl (cT (aA rfl) rfl (i := 0) rfl eQ (es := (aU l_0)) rfl rfl) ?_
       refine tr1 rfl (aP (aA rfl) rfl uL) ?_
       refine tr1 rfl (aT (aA rfl) rfl (i := 1) rfl rfl bG) ?_
       refine tr1 rfl (aP (aA rfl) rfl qX) ?_
       refine tr1 rfl (aT (aA rfl) rfl (i := 1) rfl rfl bG) ?_
       obtain ⟨r23, h24, h⟩ := bind_some h
       refine tr1 rfl (bY (aA rfl) (.func _ _ Try.call24) rfl rfl (BVs.refl _ _) (yO _ _ _ h24) rfl) ?_
       refine tr1 rfl (aC (v := .tup [.d (.lit (.int .i64 r23.1)), .d (.lit (.int .i64 r23.2))]) (aA rfl) rfl rfl) ?_
       refine tr1 rfl (cU (aA rfl) rfl rfl) ?_
       refine tr1 rfl (cU (aA rfl) rfl rfl) ?_
       refine tr1 rfl (aJ (v := .d (.lit (.int .i64 r23.1))) (aA rfl) rfl rfl) ?_
       refine tr1 rfl (aJ (v := .d (.lit (.int .i64 r23.2))) (aA rfl) rfl rfl) ?_
       refine aF ?_
       refine aG ?_
       refine aG ?_
       refine aE ?_
       refine tr1 rfl (aC (v := .d (.lit (.int .i64 r21.2.2))) (aA rfl) rfl rfl) ?_
       refine tr1 rfl (aC (v := .d (.lit (.int .i64 r23.2))) (aA rfl) rfl rfl) ?_
       refine tr1 rfl (bC (aA rfl) rfl rfl rfl) ?_
       refine tr1 rfl (aC (v := .d (.lit (.bool ((!decide (r21.2.2 = r23.2)))))) (aA rfl) rfl rfl) ?_
       obtain ⟨b25, h26, h⟩ := bind_some h
       refine bQ 13 [3, 4, 5, 7, 8, 9] 108 b25 ?_ ?_
       ·refine bD (!decide (r21.2.2 = r23.2)) (fun c95 => ?_) (fun c95 => ?_)
        ·have h26 := aR c95 h26
         refine aN rfl rfl (aA rfl) rfl (aA rfl) rfl c95 ?_
         refine aN rfl rfl (aA rfl) rfl (aA rfl) rfl c95 ?_
         refine aN rfl rfl (aA rfl) rfl (aA rfl) rfl c95 ?_
         refine kZ rfl rfl (aA rfl) rfl (aA rfl) rfl ?_
         refine kZ rfl rfl (aA rfl) rfl (aA rfl) rfl ?_
         refine kZ rfl rfl (aA rfl) rfl (aA rfl) rfl ?_
         refine kZ rfl rfl (aA rfl) rfl (aA rfl) rfl ?_
         refine kZ rfl rfl (aA rfl) rfl (aA rfl) rfl ?_
         refine kZ rfl rfl (aA rfl) rfl (aA rfl) rfl ?_
         refine kZ rfl rfl (aA rfl) rfl (aA rfl) rfl ?_
         refine kZ rfl rfl (aA rfl) rfl (aA rfl) rfl ?_
         refine aN rfl rfl (aA rfl) rfl (aA rfl) rfl c95 ?_
         refine tr1 rfl (bJ (v := .d (.lit (.bool true))) (aA rfl) rfl c95 rfl rfl) ?_
         have h26 := Option.some.inj h26
         subst h26
         refine aF (aW rfl ⟨rfl, rfl, rfl, rfl, rfl, rfl, trivial⟩ rfl)
        ·have h26 := aQ c95 h26
         refine aL rfl rfl (aA rfl) rfl c95 (aC (v := .d (.lit (.int .i64 r21.2.2))) (aA rfl) rfl rfl) ?_
         refine aL rfl rfl (aA rfl) rfl c95 (bC (aA rfl) rfl rfl rfl) ?_
         refine aL rfl rfl (aA rfl) rfl c95 (aC (v := .d (.lit (.bool ((decide (r21.2.2 = 0)))))) (aA rfl) rfl rfl) ?_
         obtain ⟨b96, h97, h26⟩ := bind_some h26
         refine bQ 9 [3, 4, 5, 7, 8, 9, 95] 107 b96 ?_ ?_
         ·refine bD (decide (r21.2.2 = 0)) (fun c98 => ?_) (fun c98 => ?_)
          ·have h97 := aR c98 h97
           refine aL rfl rfl (aA rfl) rfl c98 (aC (v := .d (.lit (.int .i64 r21.1))) (aA rfl) rfl rfl) ?_
           refine aL rfl rfl (aA rfl) rfl c98 (aC (v := .d (.lit (.int .i64 r23.1))) (aA rfl) rfl rfl) ?_
           refine aL rfl rfl (aA rfl) rfl c98 (bC (aA rfl) rfl rfl rfl) ?_
           refine aL rfl rfl (aA rfl) rfl c98 (aC (v := .d (.lit (.bool ((!decide (r21.1 = r23.1)))))) (aA rfl) rfl rfl) ?_
           obtain ⟨b99, h100, h97⟩ := bind_some h97
           refine bQ 4 [3, 4, 5, 7, 8, 9, 95, 98] 106 b99 ?_ ?_
           ·refine bD (!decide (r21.1 = r23.1)) (fun c101 => ?_) (fun c101 => ?_)
            ·have h100 := aR c101 h100
             refine aN rfl rfl (aA rfl) rfl (aA rfl) rfl c101 ?_
             refine aN rfl rfl (aA rfl) rfl (aA rfl) rfl c101 ?_
             refine aN rfl rfl (aA rfl) rfl (aA rfl) rfl c101 ?_
             refine aL rfl rfl (aA rfl) rfl c98 (bJ (v := .d (.lit (.bool true))) (aA rfl) rfl c101 rfl rfl) ?_
             have h100 := Option.some.inj h100
             subst h100
             refine aF (aW rfl ⟨rfl, rfl, rfl, rfl, rfl, rfl, rfl, rfl, trivial⟩ rfl)
            ·have h100 := aQ c101 h100
             refine aL rfl rfl (aA rfl) rfl c101 (aC (v := .d (.lit (.int .i64 r21.2.1))) (aA rfl) rfl rfl) ?_
             refine aL rfl rfl (aA rfl) rfl c101 (aC (v := .d (.lit (.int .i64 r23.1))) (aA rfl) rfl rfl) ?_
             refine aL rfl rfl (aA rfl) rfl c101 (bC (aA rfl) rfl rfl rfl) ?_
             refine aL rfl rfl (aA rfl) rfl c98 (bI (v := .d (.lit (.bool ((!decide (r21.2.1 = r23.1)))))) (aA rfl) rfl c101 rfl rfl) ?_
             have h100 := Option.some.inj h100
             subst h100
             refine aF (aW rfl ⟨rfl, rfl, rfl, rfl, rfl, rfl, rfl, rfl, trivial⟩ rfl)
           ·refine aL rfl rfl (aA rfl) rfl c95 (bJ (v := .d (.lit (.bool b99))) (aA rfl) rfl c98 rfl rfl) ?_
            have h97 := Option.some.inj h97
            subst h97
            refine aF (aW rfl ⟨rfl, rfl, rfl, rfl, rfl, rfl, rfl, trivial⟩ rfl)
          ·have h97 := aQ c98 h97
           refine aN rfl rfl (aA rfl) rfl (aA rfl) rfl c98 ?_
           refine aN rfl rfl (aA rfl) rfl (aA rfl) rfl c98 ?_
           refine aN rfl rfl (aA rfl) rfl (aA rfl) rfl c98 ?_
           refine aN rfl rfl (aA rfl) rfl (aA rfl) rfl c98 ?_
           refine kZ rfl rfl (aA rfl) rfl (aA rfl) rfl ?_
           refine kZ rfl rfl (aA rfl) rfl (aA rfl) rfl ?_
           refine kZ rfl rfl (aA rfl) rfl (aA rfl) rfl ?_
           refine aN rfl rfl (aA rfl) rfl (aA rfl) rfl c98 ?_
           refine aL rfl rfl (aA rfl) rfl c95 (bI (v := .d (.lit (.bool false))) (aA rfl) rfl c98 rfl rfl) ?_
           have h97 := Option.some.inj h97
           subst h97
           refine aF (aW rfl ⟨rfl, rfl, rfl, rfl, rfl, rfl, rfl, trivial⟩ rfl)
         ·refine tr1 rfl (bI (v := .d (.lit (.bool b96))) (aA rfl) rfl c95 rfl rfl) ?_
          have h26 := Option.some.inj h26
          subst h26
          refine aF (aW rfl ⟨rfl, rfl, rfl, rfl, rfl, rfl, trivial⟩ rfl)
       ·refine tr1 rfl (aC (v := .d (.lit (.bool b25))) (aA rfl) rfl rfl) ?_
        obtain ⟨b27, h28, h⟩ := bind_some h
        refine bQ 7 [3, 4, 5, 7, 8, 9] 116 b27 ?_ ?_
        ·refine bD (b25) (fun c91 => ?_) (fun c91 => ?_)
         ·have h28 := aR c91 h28
          refine aN rfl rfl (aA rfl) rfl (aA rfl) rfl c91 ?_
          refine aN rfl rfl (aA rfl) rfl (aA rfl) rfl c91 ?_
          refine aN rfl rfl (aA rfl) rfl (aA rfl) rfl c91 ?_
          refine kZ rfl rfl (aA rfl) rfl (aA rfl) rfl ?_
          refine kZ rfl rfl (aA rfl) rfl (aA rfl) rfl ?_
          refine aN rfl rfl (aA rfl) rfl (aA rfl) rfl c91 ?_
          refine tr1 rfl (bJ (v := .d (.lit (.bool true))) (aA rfl) rfl c91 rfl rfl) ?_
          have h28 := Option.some.inj h28
          subst h28
          refine aF (aW rfl ⟨rfl, rfl, rfl, rfl, rfl, rfl, trivial⟩ rfl)
         ·have h28 := aQ c91 h28
          refine aL rfl rfl (aA rfl) rfl c91 (aC (v := .d (.lit (.int .i64 r19.2.2))) (aA rfl) rfl rfl) ?_
          refine aL rfl rfl (aA rfl) rfl c91 (bC (aA rfl) rfl rfl rfl) ?_
          refine aL rfl rfl (aA rfl) rfl c91 (aC (v := .d (.lit (.bool ((!decide (r19.2.2 = 0)))))) (aA rfl) rfl rfl) ?_
          obtain ⟨b92, h93, h28⟩ := bind_some h28
          refine bQ 3 [3, 4, 5, 7, 8, 9, 109] 115 b92 ?_ ?_
          ·refine bD (!decide (r19.2.2 = 0)) (fun c94 => ?_) (fun c94 => ?_)
           ·have h93 := aR c94 h93
            refine aL rfl rfl (aA rfl) rfl c94 (aC (v := .d (.lit (.int .i64 r19.2.2))) (aA rfl) rfl rfl) ?_
            refine aL rfl rfl (aA rfl) rfl c94 (bC (aA rfl) rfl rfl rfl) ?_
            refine aL rfl rfl (aA rfl) rfl c91 (bJ (v := .d (.lit (.bool ((!decide (r19.2.2 = 3)))))) (aA rfl) rfl c94 rfl rfl) ?_
            have h93 := Option.some.inj h93
            subst h93
            refine aF (aW rfl ⟨rfl, rfl, rfl, rfl, rfl, rfl, rfl, trivial⟩ rfl)
           ·have h93 := aQ c94 h93
            refine aN rfl rfl (aA rfl) rfl (aA rfl) rfl c94 ?_
            refine aN rfl rfl (aA rfl) rfl (aA rfl) rfl c94 ?_
            refine aL rfl rfl (aA rfl) rfl c91 (bI (v := .d (.lit (.bool false))) (aA rfl) rfl c94 rfl rfl) ?_
            have h93 := Option.some.inj h93
            subst h93
            refine aF (aW rfl ⟨rfl, rfl, rfl, rfl, rfl, rfl, rfl, trivial⟩ rfl)
          ·refine tr1 rfl (bI (v := .d (.lit (.bool b92))) (aA rfl) rfl c91 rfl rfl) ?_
           have h28 := Option.some.inj h28
           subst h28
           refine aF (aW rfl ⟨rfl, rfl, rfl, rfl, rfl, rfl, trivial⟩ rfl)
        ·refine aF ?_
         refine bN rfl (fun c29 => ?_) (fun c29 => ?_)
         ·have h := aR c29 h
          refine aG ?_
          refine aE ?_
          refine tr1 rfl (aJ (v := .d (.lit (.bool false))) (aA rfl) rfl rfl) ?_
          refine aF ?_
          have h := Option.some.inj h
          subst h
          refine cR (cG (cL (l := [6]) ⟨rfl, trivial⟩)) ?_
          exact bL ⟨rfl, _, .one _, rfl, rfl⟩
         ·have h := aQ c29 h
          refine bH ?_
          refine aG ?_
          refine aG ?_
          refine aE ?_
          refine tr1 rfl (aC (v := .d (.lit (.int .i64 r19.2.2))) (aA rfl) rfl rfl) ?_
          refine tr1 rfl (bC (aA rfl) rfl rfl rfl) ?_
          refine aF ?_
          refine bN rfl (fun c30 => ?_) (fun c30 => ?_)
          ·have h := aR c30 h
           refine aG ?_
           refine aE ?_
           obtain ⟨r31, h32, h⟩ := bind_some h
           refine tr1 rfl (bY (aA rfl) (.func _ _ Try.call16) rfl rfl (BVs.refl _ _) (lF h32) rfl) ?_
           refine tr1 rfl (aJ (v := .d (.lit (.bool r31))) (aA rfl) rfl rfl) ?_
           refine aF ?_
           have h := Option.some.inj h
           subst h
           refine cR (cG (cL (l := [6]) ⟨rfl, trivial⟩)) ?_
           exact bL ⟨rfl, _, .one _, rfl, rfl⟩
          ·have h := aQ c30 h
           refine bH ?_
           refine aG ?_
           refine aG ?_
           refine aE ?_
           refine tr1 rfl (aC (v := .d (.lit (.int .i64 r19.1))) (aA rfl) rfl rfl) ?_
           refine tr1 rfl (bC (aA rfl) rfl rfl rfl) ?_
           refine tr1 rfl (aC (v := .d (.lit (.bool ((decide (r19.1 < 1)))))) (aA rfl) rfl rfl) ?_
           obtain ⟨b33, h34, h⟩ := bind_some h
           refine bQ 4 [3, 4, 5, 7, 8] 126 b33 ?_ ?_
           ·refine bD (decide (r19.1 < 1)) (fun c90 => ?_) (fun c90 => ?_)
            ·have h34 := aR c90 h34
             refine aN rfl rfl (aA rfl) rfl (aA rfl) rfl c90 ?_
             refine aN rfl rfl (aA rfl) rfl (aA rfl) rfl c90 ?_
             refine aN rfl rfl (aA rfl) rfl (aA rfl) rfl c90 ?_
             refine tr1 rfl (bJ (v := .d (.lit (.bool true))) (aA rfl) rfl c90 rfl rfl) ?_
             have h34 := Option.some.inj h34
             subst h34
             refine aF (aW rfl ⟨rfl, rfl, rfl, rfl, rfl, trivial⟩ rfl)
            ·have h34 := aQ c90 h34
             refine aL rfl rfl (aA rfl) rfl c90 (aC (v := .d (.lit (.int .i64 r19.1))) (aA rfl) rfl rfl) ?_
             refine aL rfl rfl (aA rfl) rfl c90 (aC (v := .d (.lit (.int .i64 r19.2.1))) (aA rfl) rfl rfl) ?_
             refine aL rfl rfl (aA rfl) rfl c90 (bC (aA rfl) rfl rfl rfl) ?_
             refine tr1 rfl (bI (v := .d (.lit (.bool ((decide (r19.2.1 < r19.1)))))) (aA rfl) rfl c90 rfl rfl) ?_
             have h34 := Option.some.inj h34
             subst h34
             refine aF (aW rfl ⟨rfl, rfl, rfl, rfl, rfl, trivial⟩ rfl)
           ·refine tr1 rfl (aC (v := .d (.lit (.bool b33))) (aA rfl) rfl rfl) ?_
            obtain ⟨b35, h36, h⟩ := bind_some h
            refine bQ 5 [3, 4, 5, 7, 8] 132 b35 ?_ ?_
            ·refine bD (b33) (fun c89 => ?_) (fun c89 => ?_)
             ·have h36 := aR c89 h36
              refine aN rfl rfl (aA rfl) rfl (aA rfl) rfl c89 ?_
              refine aN rfl rfl (aA rfl) rfl (aA rfl) rfl c89 ?_
              refine aN rfl rfl (aA rfl) rfl (aA rfl) rfl c89 ?_
              refine aN rfl rfl (aA rfl) rfl (aA rfl) rfl c89 ?_
              refine tr1 rfl (bJ (v := .d (.lit (.bool true))) (aA rfl) rfl c89 rfl rfl) ?_
              have h36 := Option.some.inj h36
              subst h36
              refine aF (aW rfl ⟨rfl, rfl, rfl, rfl, rfl, trivial⟩ rfl)
             ·have h36 := aQ c89 h36
              refine aL rfl rfl (aA rfl) rfl c89 (aC (v := .d (.lit (.int .i64 r19.2.1))) (aA rfl) rfl rfl) ?_
              refine aL rfl rfl (aA rfl) rfl c89 (aP (aA rfl) rfl gZ) ?_
              refine aL rfl rfl (aA rfl) rfl c89 (aT (aA rfl) rfl (i := 0) rfl rfl bG) ?_
              refine aL rfl rfl (aA rfl) rfl c89 (bC (aA rfl) rfl rfl rfl) ?_
              refine tr1 rfl (bI (v := .d (.lit (.bool ((decide (l_0.Players < r19.2.1)))))) (aA rfl) rfl c89 rfl rfl) ?_
              have h36 := Option.some.inj h36
              subst h36
              refine aF (aW rfl ⟨rfl, rfl, rfl, rfl, rfl, trivial⟩ rfl)
            ·refine aF ?_
             refine bN rfl (fun c37 => ?_) (fun c37 => ?_)
             ·have h := aR c37 h
              refine aG ?_
              refine aE ?_
              refine tr1 rfl (aJ (v := .d (.lit (.bool false))) (aA rfl) rfl rfl) ?_
              refine aF ?_
              have h := Option.some.inj h
              subst h
              refine cR (cG (cL (l := [6]) ⟨rfl, trivial⟩)) ?_
              exact bL ⟨rfl, _, .one _, rfl, rfl⟩
             ·have h := aQ c37 h
              refine bH ?_
              refine aG ?_
              refine aE ?_
              refine tr1 rfl (cT (aA rfl) rfl (i := 0) rfl eQ (es := (aU l_0)) rfl rfl) ?_
              obtain ⟨r38, h39, h⟩ := bind_some h
              refine tr1 rfl (nY (aA rfl) (.func _ _ Try.call18) rfl rfl (zH _ h39)) ?_
              refine bR rfl (fM (zs := [.lit (.int .i64 0), .lit (.int .i64 0), .sl 5 ((([] : List aB)).map aD), .sl 3 ((([] : List aX)).map aI), .sl 3 ((([] : List aX)).map aI)]) (aA rfl) Try.zeroValue25 rfl rfl) ?_
              rintro _ ⟨b40, rfl⟩
              refine tr1 rfl (bX (i := 3) rfl rfl rfl rfl rfl Try.sizeOf25 rfl (aA rfl) (Nat.le_of_ble_eq_true rfl) (ds' := (aU r38)) rfl) ?_
              refine aF ?_
              refine aG ?_
              refine aE ?_
              refine tr1 rfl (aP (aA rfl) rfl gZ) ?_
              refine tr1 rfl (aT (aA rfl) rfl (i := 0) rfl rfl bG) ?_
              obtain ⟨x41, h42, h⟩ := bind_some h
              refine bR rfl (aKe (zs := [.lit (.bool false)]) (aA rfl) aGh rfl rfl rfl rfl (aJv xX h42) (aA rfl)) ?_
              rintro _ ⟨v43, rfl⟩
              refine tr1 rfl (aJ (v := .d (.lit v43)) (aA rfl) rfl rfl) ?_
              refine aF ?_
              refine aG ?_
              refine aG ?_
              refine aE ?_
              refine tr1 rfl (aJ (v := .d (.lit (.int .i64 0))) (aA rfl) rfl rfl) ?_
              refine aF ?_
              refine bT ?_
              refine cM [3, 4, 5, 7, 8, 15] (fun (s44 : Int × aM × (List Bool)) => [(16, .d (.lit v43)), (17, .d (.lit (.int .i64 s44.1)))]) (fun (s44 : Int × aM × (List Bool)) => [.box b1 0 (aU l_0), .box b2 0 (nZ x_1), .box b3 0 (mR c_2), .box b40 0 (aU s44.2.1), .arr v43 4 1 (s44.2.2.map xX)]) (fun (k : Nat) (s44 : Int × aM × (List Bool)) => dT r19.1 r19.2.1 l_0 x_1 c_2 k s44.1 s44.2.1 s44.2.2) (fun _ => rfl) (0, r38, x41) h (aY [0, 1, 2, 3, 4] rfl rfl (aO rfl (aO rfl (aZ ⟨rfl, rfl, rfl, rfl, rfl, rfl, trivial⟩)))) ?_
              rintro k45 ⟨i_0_44, o_0_44, o137_0_44⟩ h
              simp only [dT] at h
              refine aG ?_
              refine aG ?_
              refine aE ?_
              refine tr1 rfl (aC (v := .d (.lit (.int .i64 i_0_44))) (aA rfl) rfl rfl) ?_
              refine tr1 rfl (aP (aA rfl) rfl sE) ?_
              refine tr1 rfl (aT (aA rfl) rfl (i := 2) rfl rfl qK) ?_
              refine tr1 rfl (dM (aA rfl) rfl eF.of) ?_
              refine tr1 rfl (bC (aA rfl) rfl rfl rfl) ?_
              refine aF ?_
              refine bN rfl (fun c46 => ?_) (fun c46 => ?_)
              ·have h := aR c46 h
               refine bH ?_
               refine aG ?_
               refine bT ?_
               refine aG ?_
               refine aE ?_
               refine tr1 rfl (aP (aA rfl) rfl aDj) ?_
               refine tr1 rfl (aT (aA rfl) rfl (i := 2) rfl rfl qK) ?_
               refine tr1 rfl (aC (v := .d (.lit (.int .i64 i_0_44))) (aA rfl) rfl rfl) ?_
               obtain ⟨x47, h48, h⟩ := bind_some h
               refine tr1 rfl (cD (aA rfl) rfl rfl eF.of (bP cK h48)) ?_
               refine tr1 rfl (cI (aA rfl) rfl bG) ?_
               refine tr1 rfl (aJ (v := .d (.lit (.int .i64 x47))) (aA rfl) rfl rfl) ?_
               refine aF ?_
               refine aG ?_
               refine aG ?_
               refine aE ?_
               refine tr1 rfl (aC (v := .d (.lit (.int .i64 x47))) (aA rfl) rfl rfl) ?_
               refine tr1 rfl (bC (aA rfl) rfl rfl rfl) ?_
               refine tr1 rfl (aC (v := .d (.lit (.bool ((decide (x47 < 0)))))) (aA rfl) rfl rfl) ?_
               obtain ⟨b49, h50, h⟩ := bind_some h
               refine bQ 5 [3, 4, 5, 7, 8, 15, 16, 17, 18] 157 b49 ?_ ?_
               ·refine bD (decide (x47 < 0)) (fun c70 => ?_) (fun c70 => ?_)
                ·have h50 := aR c70 h50
                 refine aN rfl rfl (aA rfl) rfl (aA rfl) rfl c70 ?_
                 refine aN rfl rfl (aA rfl) rfl (aA rfl) rfl c70 ?_
                 refine aN rfl rfl (aA rfl) rfl (aA rfl) rfl c70 ?_
                 refine aN rfl rfl (aA rfl) rfl (aA rfl) rfl c70 ?_
                 refine tr1 rfl (bJ (v := .d (.lit (.bool true))) (aA rfl) rfl c70 rfl rfl) ?_
                 have h50 := Option.some.inj h50
                 subst h50
                 refine aF (aW rfl ⟨rfl, rfl, rfl, rfl, rfl, rfl, rfl, rfl, rfl, trivial⟩ rfl)
                ·have h50 := aQ c70 h50
                 refine aL rfl rfl (aA rfl) rfl c70 (aC (v := .d (.lit (.int .i64 x47))) (aA rfl) rfl rfl) ?_
                 refine aL rfl rfl (aA rfl) rfl c70 (aP (aA rfl) rfl gZ) ?_
                 refine aL rfl rfl (aA rfl) rfl c70 (aT (aA rfl) rfl (i := 0) rfl rfl bG) ?_
                 refine aL rfl rfl (aA rfl) rfl c70 (bC (aA rfl) rfl rfl rfl) ?_
                 refine tr1 rfl (bI (v := .d (.lit (.bool ((decide (l_0.Players ≤ x47)))))) (aA rfl) rfl c70 rfl rfl) ?_
                 have h50 := Option.some.inj h50
                 subst h50
                 refine aF (aW rfl ⟨rfl, rfl, rfl, rfl, rfl, rfl, rfl, rfl, rfl, trivial⟩ rfl)
               ·refine tr1 rfl (aC (v := .d (.lit (.bool b49))) (aA rfl) rfl rfl) ?_
                obtain ⟨b51, h52, h⟩ := bind_some h
                refine bQ 5 [3, 4, 5, 7, 8, 15, 16, 17, 18] 163 b51 ?_ ?_
                ·refine bD (b49) (fun c67 => ?_) (fun c67 => ?_)
                 ·have h52 := aR c67 h52
                  refine aN rfl rfl (aA rfl) rfl (aA rfl) rfl c67 ?_
                  refine aN rfl rfl (aA rfl) rfl (aA rfl) rfl c67 ?_
                  refine aN rfl rfl (aA rfl) rfl (aA rfl) rfl c67 ?_
                  refine aN rfl rfl (aA rfl) rfl (aA rfl) rfl c67 ?_
                  refine tr1 rfl (bJ (v := .d (.lit (.bool true))) (aA rfl) rfl c67 rfl rfl) ?_
                  have h52 := Option.some.inj h52
                  subst h52
                  refine aF (aW rfl ⟨rfl, rfl, rfl, rfl, rfl, rfl, rfl, rfl, rfl, trivial⟩ rfl)
                 ·have h52 := aQ c67 h52
                  refine aL rfl rfl (aA rfl) rfl c67 (aC (v := .d (.lit v43)) (aA rfl) rfl rfl) ?_
                  refine aL rfl rfl (aA rfl) rfl c67 (aC (v := .d (.lit (.int .i64 x47))) (aA rfl) rfl rfl) ?_
                  obtain ⟨x68, h69, h52⟩ := bind_some h52
                  refine aL rfl rfl (aA rfl) rfl c67 (cC (m := 4) (aA rfl) rfl rfl rfl aGh.of (bP xX h69)) ?_
                  refine aL rfl rfl (aA rfl) rfl c67 (yR (aA rfl) rfl (m := 4) rfl (dX xX h69) rfl sT) ?_
                  refine tr1 rfl (bI (v := .d (.lit (.bool x68))) (aA rfl) rfl c67 rfl rfl) ?_
                  have h52 := Option.some.inj h52
                  subst h52
                  refine aF (aW rfl ⟨rfl, rfl, rfl, rfl, rfl, rfl, rfl, rfl, rfl, trivial⟩ rfl)
                ·refine tr1 rfl (aC (v := .d (.lit (.bool b51))) (aA rfl) rfl rfl) ?_
                 obtain ⟨b53, h54, h⟩ := bind_some h
                 refine bQ 7 [3, 4, 5, 7, 8, 15, 16, 17, 18] 171 b53 ?_ ?_
                 ·refine bD (b51) (fun c64 => ?_) (fun c64 => ?_)
                  ·have h54 := aR c64 h54
                   refine aN rfl rfl (aA rfl) rfl (aA rfl) rfl c64 ?_
                   refine aN rfl rfl (aA rfl) rfl (aA rfl) rfl c64 ?_
                   refine aN rfl rfl (aA rfl) rfl (aA rfl) rfl c64 ?_
                   refine aN rfl rfl (aA rfl) rfl (aA rfl) rfl c64 ?_
                   refine aN rfl rfl (aA rfl) rfl (aA rfl) rfl c64 ?_
                   refine aN rfl rfl (aA rfl) rfl (aA rfl) rfl c64 ?_
                   refine tr1 rfl (bJ (v := .d (.lit (.bool true))) (aA rfl) rfl c64 rfl rfl) ?_
                   have h54 := Option.some.inj h54
                   subst h54
                   refine aF (aW rfl ⟨rfl, rfl, rfl, rfl, rfl, rfl, rfl, rfl, rfl, trivial⟩ rfl)
                  ·have h54 := aQ c64 h54
                   refine aL rfl rfl (aA rfl) rfl c64 (aP (aA rfl) rfl mL) ?_
                   refine aL rfl rfl (aA rfl) rfl c64 (aT (aA rfl) rfl (i := 0) rfl rfl jM) ?_
                   refine aL rfl rfl (aA rfl) rfl c64 (aC (v := .d (.lit (.int .i64 x47))) (aA rfl) rfl rfl) ?_
                   refine aL rfl rfl (aA rfl) rfl c64 (aP (aA rfl) rfl qX) ?_
                   refine aL rfl rfl (aA rfl) rfl c64 (aT (aA rfl) rfl (i := 1) rfl rfl bG) ?_
                   obtain ⟨r65, h66, h54⟩ := bind_some h54
                   refine aL rfl rfl (aA rfl) rfl c64 (bY (aA rfl) (.func _ _ Try.call25) rfl rfl (BVs.refl _ _) (zG _ _ _ h66) rfl) ?_
                   refine tr1 rfl (bI (v := .d (.lit (.bool r65))) (aA rfl) rfl c64 rfl rfl) ?_
                   have h54 := Option.some.inj h54
                   subst h54
                   refine aF (aW rfl ⟨rfl, rfl, rfl, rfl, rfl, rfl, rfl, rfl, rfl, trivial⟩ rfl)
                 ·refine aF ?_
                  refine bN rfl (fun c55 => ?_) (fun c55 => ?_)
                  ·have h := aR c55 h
                   refine aG ?_
                   refine aE ?_
                   obtain ⟨r56, h57, h⟩ := bind_some h
                   refine tr1 rfl (bY (aA rfl) (.func _ _ Try.call16) rfl rfl (BVs.refl _ _) (lF h57) rfl) ?_
                   refine tr1 rfl (aJ (v := .d (.lit (.bool r56))) (aA rfl) rfl rfl) ?_
                   refine aF ?_
                   have h := Option.some.inj h
                   subst h
                   refine cR (cG (cL (l := [6]) ⟨rfl, trivial⟩)) ?_
                   exact bL ⟨rfl, _, .one _, rfl, rfl⟩
                  ·have h := aQ c55 h
                   refine bH ?_
                   refine aG ?_
                   refine aE ?_
                   refine tr1 rfl (aC (v := .d (.lit v43)) (aA rfl) rfl rfl) ?_
                   refine tr1 rfl (aC (v := .d (.lit (.int .i64 x47))) (aA rfl) rfl rfl) ?_
                   obtain ⟨x58, h59, h⟩ := bind_some h
                   refine tr1 rfl (cC (m := 4) (aA rfl) rfl rfl rfl aGh.of (bP xX h59)) ?_
                   refine tr1 rfl (iT (l := 4) rfl rfl (dX xX h59) rfl rfl rfl Try.sizeOf4 rfl (aA rfl) (Nat.le_of_ble_eq_true rfl) (rows' := ((o137_0_44.set x47.toNat true)).map xX) (mH _ _ _ _ rfl)) ?_
                   refine aF ?_
                   obtain ⟨x60, h61, h⟩ := bind_some h
                   refine hH mix 9 [3, 4, 5, 7, 8, 15, 16, 17] [(176, .agg (aU o_0_44)), (177, .d (.lit (.int .i64 x47))), (179, .d (.lit (.int .i64 x_1.Week))), (184, .d (.lit (.int .i64 x60)))] ?_ ?_
                   ·refine ⟨[(176, 0, .agg (aU o_0_44)), (177, 1, .d (.lit (.int .i64 x47))), (178, 2, .bp b2 0 1), (179, 3, .d (.lit (.int .i64 x_1.Week))), (180, 4, .bp b3 0 0), (181, 5, .d (.sl 1 (c_2.Prizes.map cK))), (182, 6, .d (.lit (.int .i64 i_0_44))), (183, 7, .cp [.lit (.int .i64 x60)]), (184, 8, .d (.lit (.int .i64 x60)))], ?_, ?_⟩
                    · exact ⟨by kernel_rfl, by kernel_rfl, by kernel_rfl, by kernel_rfl, by kernel_rfl, [([], []), ([], []), ([], []), ([2], []), ([], []), ([4], []), ([], []), ([5, 6], []), ([7], [])], by kernel_rfl, ⟨fun S hS => aK rfl (aS rfl (cT (aA rfl) (aH hS rfl) (i := 3) rfl eQ (es := (aU o_0_44)) rfl rfl)),
      fun S hS => aK rfl (aS rfl (aC (v := .d (.lit (.int .i64 x47))) (aA rfl) (aH hS rfl) rfl)),
      fun S hS => aK rfl (aS rfl (aP (aA rfl) (aH hS rfl) qX)),
      fun S hS => aK rfl (aS rfl (aT (aA rfl) (aH hS rfl) (i := 1) rfl rfl bG)),
      fun S hS => aK rfl (aS rfl (aP (aA rfl) (aH hS rfl) sE)),
      fun S hS => aK rfl (aS rfl (aT (aA rfl) (aH hS rfl) (i := 2) rfl rfl qK)),
      fun S hS => aK rfl (aS rfl (aC (v := .d (.lit (.int .i64 i_0_44))) (aA rfl) (aH hS rfl) rfl)),
      fun S hS => aK rfl (aS rfl (cD (aA rfl) (aH hS rfl) (aH hS rfl) eF.of (bP cK h61))),
      fun S hS => aK rfl (aS rfl (cI (aA rfl) (aH hS rfl) bG)), trivial⟩⟩
                    · exact eJ (aO rfl (aO rfl (aO rfl (aO rfl (aZ ⟨rfl, rfl, rfl, rfl, rfl, rfl, rfl, rfl, trivial⟩)))))
                   ·obtain ⟨r62, h63, h⟩ := bind_some h
                    refine tr1 rfl (nY (aA rfl) (.func _ _ Try.call26) rfl rfl (zI _ _ _ _ h63)) ?_
                    refine tr1 rfl (bX (i := 3) rfl rfl rfl rfl rfl Try.sizeOf25 rfl (aA rfl) (Nat.le_of_ble_eq_true rfl) (ds' := (aU r62)) rfl) ?_
                    refine eH ?_
                    refine aE ?_
                    refine tr1 rfl (aC (v := .d (.lit (.int .i64 i_0_44))) (aA rfl) rfl rfl) ?_
                    refine tr1 rfl (bA (aA rfl) rfl rfl rfl) ?_
                    refine tr1 rfl (aJ (v := .d (.lit (.int .i64 ((w64 (i_0_44 + 1)))))) (aA rfl) rfl rfl) ?_
                    refine aF ?_
                    exact ⟨(w64 (i_0_44 + 1), r62, (o137_0_44.set x47.toNat true)), h, aY [0, 1, 2, 3, 4] rfl rfl (aO rfl (aO rfl (aZ ⟨rfl, rfl, rfl, rfl, rfl, rfl, trivial⟩)))⟩
              ·have h := aQ c46 h
               refine cX ?_
               refine .inl ⟨rfl, ?_⟩
               simp only [jQ] at h
               refine aG ?_
               refine aG ?_
               refine aE ?_
               refine tr1 rfl (cT (aA rfl) rfl (i := 3) rfl eQ (es := (aU o_0_44)) rfl rfl) ?_
               obtain ⟨r71, h72, h⟩ := bind_some h
               refine tr1 rfl (bY (aA rfl) (.func _ _ Try.call15) rfl rfl (BVs.refl _ _) (pB _ h72) rfl) ?_
               refine tr1 rfl (bC (aA rfl) rfl rfl rfl) ?_
               refine aF ?_
               refine bN rfl (fun c73 => ?_) (fun c73 => ?_)
               ·have h := aR c73 h
                refine aG ?_
                refine aE ?_
                obtain ⟨r74, h75, h⟩ := bind_some h
                refine tr1 rfl (bY (aA rfl) (.func _ _ Try.call16) rfl rfl (BVs.refl _ _) (lF h75) rfl) ?_
                refine tr1 rfl (aJ (v := .d (.lit (.bool r74))) (aA rfl) rfl rfl) ?_
                refine aF ?_
                have h := Option.some.inj h
                subst h
                refine cR (cG (cL (l := [6]) ⟨rfl, trivial⟩)) ?_
                exact bL ⟨rfl, _, .one _, rfl, rfl⟩
               ·have h := aQ c73 h
                refine bH ?_
                refine aG ?_
                refine aE ?_
                refine tr1 rfl (cT (aA rfl) rfl (i := 3) rfl eQ (es := (aU o_0_44)) rfl rfl) ?_
                refine tr1 rfl (aP (aA rfl) rfl uL) ?_
                refine tr1 rfl (aT (aA rfl) rfl (i := 1) rfl rfl bG) ?_
                refine tr1 rfl (aP (aA rfl) rfl qX) ?_
                refine tr1 rfl (aT (aA rfl) rfl (i := 1) rfl rfl bG) ?_
                obtain ⟨r76, h77, h⟩ := bind_some h
                refine tr1 rfl (bY (aA rfl) (.func _ _ Try.call24) rfl rfl (BVs.refl _ _) (yO _ _ _ h77) rfl) ?_
                refine tr1 rfl (aC (v := .tup [.d (.lit (.int .i64 r76.1)), .d (.lit (.int .i64 r76.2))]) (aA rfl) rfl rfl) ?_
                refine tr1 rfl (cU (aA rfl) rfl rfl) ?_
                refine tr1 rfl (cU (aA rfl) rfl rfl) ?_
                refine tr1 rfl (aJ (v := .d (.lit (.int .i64 r76.1))) (aA rfl) rfl rfl) ?_
                refine tr1 rfl (aJ (v := .d (.lit (.int .i64 r76.2))) (aA rfl) rfl rfl) ?_
                refine aF ?_
                refine aG ?_
                refine aE ?_
                refine tr1 rfl (aC (v := .d (.lit (.int .i64 r76.2))) (aA rfl) rfl rfl) ?_
                refine tr1 rfl (bC (aA rfl) rfl rfl rfl) ?_
                refine tr1 rfl (aC (v := .d (.lit (.bool ((decide (r76.2 = 0)))))) (aA rfl) rfl rfl) ?_
                obtain ⟨b78, h79, h⟩ := bind_some h
                refine bQ 4 [8, 19] 205 b78 ?_ ?_
                ·refine bD (decide (r76.2 = 0)) (fun c88 => ?_) (fun c88 => ?_)
                 ·have h79 := aR c88 h79
                  refine aL rfl rfl (aA rfl) rfl c88 (aC (v := .d (.lit (.int .i64 r19.1))) (aA rfl) rfl rfl) ?_
                  refine aL rfl rfl (aA rfl) rfl c88 (aC (v := .d (.lit (.int .i64 r76.1))) (aA rfl) rfl rfl) ?_
                  refine aL rfl rfl (aA rfl) rfl c88 (bC (aA rfl) rfl rfl rfl) ?_
                  refine tr1 rfl (bJ (v := .d (.lit (.bool ((decide (r19.1 ≤ r76.1)))))) (aA rfl) rfl c88 rfl rfl) ?_
                  have h79 := Option.some.inj h79
                  subst h79
                  refine aF (aW rfl ⟨rfl, rfl, trivial⟩ rfl)
                 ·have h79 := aQ c88 h79
                  refine aN rfl rfl (aA rfl) rfl (aA rfl) rfl c88 ?_
                  refine aN rfl rfl (aA rfl) rfl (aA rfl) rfl c88 ?_
                  refine aN rfl rfl (aA rfl) rfl (aA rfl) rfl c88 ?_
                  refine tr1 rfl (bI (v := .d (.lit (.bool false))) (aA rfl) rfl c88 rfl rfl) ?_
                  have h79 := Option.some.inj h79
                  subst h79
                  refine aF (aW rfl ⟨rfl, rfl, trivial⟩ rfl)
                ·refine tr1 rfl (aC (v := .d (.lit (.bool b78))) (aA rfl) rfl rfl) ?_
                 obtain ⟨b80, h81, h⟩ := bind_some h
                 refine bQ 4 [] 210 b80 ?_ ?_
                 ·refine bD (b78) (fun c87 => ?_) (fun c87 => ?_)
                  ·have h81 := aR c87 h81
                   refine aL rfl rfl (aA rfl) rfl c87 (aC (v := .d (.lit (.int .i64 r76.1))) (aA rfl) rfl rfl) ?_
                   refine aL rfl rfl (aA rfl) rfl c87 (aC (v := .d (.lit (.int .i64 r19.2.1))) (aA rfl) rfl rfl) ?_
                   refine aL rfl rfl (aA rfl) rfl c87 (bC (aA rfl) rfl rfl rfl) ?_
                   refine tr1 rfl (bJ (v := .d (.lit (.bool ((decide (r76.1 ≤ r19.2.1)))))) (aA rfl) rfl c87 rfl rfl) ?_
                   have h81 := Option.some.inj h81
                   subst h81
                   refine aF (aW rfl trivial rfl)
                  ·have h81 := aQ c87 h81
                   refine aN rfl rfl (aA rfl) rfl (aA rfl) rfl c87 ?_
                   refine aN rfl rfl (aA rfl) rfl (aA rfl) rfl c87 ?_
                   refine aN rfl rfl (aA rfl) rfl (aA rfl) rfl c87 ?_
                   refine tr1 rfl (bI (v := .d (.lit (.bool false))) (aA rfl) rfl c87 rfl rfl) ?_
                   have h81 := Option.some.inj h81
                   subst h81
                   refine aF (aW rfl trivial rfl)
                 ·refine tr1 rfl (aC (v := .d (.lit (.bool b80))) (aA rfl) rfl rfl) ?_
                  obtain ⟨b82, h83, h⟩ := bind_some h
                  refine bQ 2 [] 213 b82 ?_ ?_
                  ·refine bD (b80) (fun c84 => ?_) (fun c84 => ?_)
                   ·have h83 := aR c84 h83
                    obtain ⟨r85, h86, h83⟩ := bind_some h83
                    refine aL rfl rfl (aA rfl) rfl c84 (bY (aA rfl) (.func _ _ Try.call16) rfl rfl (BVs.refl _ _) (lF h86) rfl) ?_
                    refine tr1 rfl (bJ (v := .d (.lit (.bool r85))) (aA rfl) rfl c84 rfl rfl) ?_
                    have h83 := Option.some.inj h83
                    subst h83
                    refine aF (aW rfl trivial rfl)
                   ·have h83 := aQ c84 h83
                    refine aN rfl rfl (aA rfl) rfl (aA rfl) rfl c84 ?_
                    refine tr1 rfl (bI (v := .d (.lit (.bool false))) (aA rfl) rfl c84 rfl rfl) ?_
                    have h83 := Option.some.inj h83
                    subst h83
                    refine aF (aW rfl trivial rfl)
                  ·refine tr1 rfl (aJ (v := .d (.lit (.bool b82))) (aA rfl) rfl rfl) ?_
                   refine aF ?_
                   have h := Option.some.inj h
                   subst h
                   refine cR (cG (cL (l := [6]) ⟨rfl, trivial⟩)) ?_
                   exact bL ⟨rfl, _, .one _, rfl, rfl⟩

end Go.Am
