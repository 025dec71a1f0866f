/- The functions compute what the shallow ones say: printed by program. -/
import Derived.Test.YtaocljlhapoieaaGreatRankPointsSimP1
namespace Go.Am
open Go.Proofs
set_option maxRecDepth 100000
set_option maxHeartbeats 4000000

theorem aCy (l_0 : aS) {r : (Option cC) × Int} (h : oZ l_0 = some r) : fN Tryz.prog 58 [.agg (aU l_0)] [] (fun r' o' => ∃ (b : Nat) (w0 : Value), r' = .tup [(match r.1 with | none => .d (.lit (.pointer none)) | some _ => .bp b 0 0), .d (.lit (.int .i64 r.2))] ∧ o' = (match r.1 with | none => [] | some x => [.box b 0 [.lit (.int .i64 x.Ledger.Players), .lit (.int .i64 x.Ledger.Counts), .lit w0, .sl 3 (x.Ledger.Bans.map aK), .sl 3 (x.Ledger.Frozen.map aK)], .arr w0 43 5 (x.Ledger.Reports.map aB)])) := by
 unfold oZ at h
 refine mC Tryz.func58 rfl (rs := [.tmp 2, .tmp 3]) Tryz.results58 Tryz.ntmps58 (Nat.le_of_ble_eq_true rfl) ?_
 refine aG ?_
 refine aE ?_
 refine bW rfl (eG (v := .agg (aU l_0)) (aA rfl) rfl rfl rfl) ?_
 rintro _ ⟨b1, rfl⟩
 refine tr1 rfl (aJ (v := qE cN (none : Option cC)) (aA rfl) rfl rfl) ?_
 refine tr1 rfl (aJ (v := .d (.lit (.int .i64 0))) (aA rfl) rfl rfl) ?_
 refine aF ?_
 refine aG ?_
 refine aG ?_
 refine aE ?_
 refine tr1 rfl (cF (aA rfl) rfl (i := 0) rfl eA (es := (aU l_0)) rfl rfl) ?_
 obtain ⟨r2, h3, h⟩ := bind_some h
 refine tr1 rfl (cB (aA rfl) (.func _ _ Tryz.call8) rfl rfl (BVs.refl _ _) (xF _ h3) rfl) ?_
 refine tr1 rfl (aJ (v := .d (.lit (.int .i64 r2))) (aA rfl) rfl rfl) ?_
 refine aF ?_
 refine aG ?_
 refine aE ?_
 refine tr1 rfl (aC (v := .d (.lit (.int .i64 r2))) (aA rfl) rfl rfl) ?_
 refine tr1 rfl (bB (aA rfl) rfl rfl rfl) ?_
 refine aF ?_
 refine bI rfl (fun c4 => ?_) (fun c4 => ?_)
 ·have h := aR c4 h
  refine aG ?_
  refine aE ?_
  refine tr1 rfl (aC (v := .d (.lit (.int .i64 r2))) (aA rfl) rfl rfl) ?_
  refine tr1 rfl (aJ (v := qE cN (none : Option cC)) (aA rfl) rfl rfl) ?_
  refine tr1 rfl (aJ (v := .d (.lit (.int .i64 r2))) (aA rfl) rfl rfl) ?_
  refine aF ?_
  have h := Option.some.inj h
  subst h
  exact bL ⟨rfl, _, [], [.box b1 0 (aU l_0)], _, .two (.tmp 2 (v := qE cN (none : Option cC)) rfl) (.tmp 3 (v := .d (.lit (.int .i64 r2))) rfl), .refl _, .same _, 0, undef, rfl, rfl⟩
 ·have h := aQ c4 h
  refine bG ?_
  refine aG ?_
  refine aE ?_
  refine tr1 rfl (aT (aA rfl) rfl dS) ?_
  refine tr1 rfl (aV (aA rfl) rfl (i := 0) rfl rfl fT) ?_
  obtain ⟨r5, h6, h⟩ := bind_some h
  refine bW rfl (dI (passed := []) (aA rfl) rfl (.func _ _ Tryz.call23) rfl rfl (yI _ h6)) ?_
  rintro _ ⟨_, _, ⟨w7, rfl, rfl⟩, rfl⟩
  refine tr1 rfl (aC (v := .tup [.d (.lit w7), .d (.lit (.bool r5.2))]) (aA rfl) rfl rfl) ?_
  refine tr1 rfl (cL (aA rfl) rfl rfl) ?_
  refine tr1 rfl (cL (aA rfl) rfl rfl) ?_
  refine tr1 rfl (aT (aA rfl) rfl dS) ?_
  refine tr1 rfl (cJ (i := 1) rfl rfl rfl rfl rfl Tryz.sizeOf22 rfl (aA rfl) (Nat.le_of_ble_eq_true rfl) (ds' := [.lit (.int .i64 l_0.Players), .lit (.int .i64 l_0.Counts), .lit w7, .sl 3 (l_0.Bans.map aK), .sl 3 (l_0.Frozen.map aK)]) rfl) ?_
  refine aF ?_
  refine aG ?_
  refine aE ?_
  refine tr1 rfl (cF (aA rfl) rfl (i := 1) rfl eA (es := [.lit (.int .i64 l_0.Players), .lit (.int .i64 l_0.Counts), .lit w7, .sl 3 (l_0.Bans.map aK), .sl 3 (l_0.Frozen.map aK)]) rfl rfl) ?_
  refine tr1 rfl (mA (aA rfl) aIp (zs := [.lit (.int .i64 0), .lit (.int .i64 0), .sl 5 ((([] : List aD)).map aB), .sl 3 ((([] : List bC)).map aK), .sl 3 ((([] : List bC)).map aK)]) rfl rfl rfl rfl (es := [.lit (.int .i64 l_0.Players), .lit (.int .i64 l_0.Counts), .lit w7, .sl 3 (l_0.Bans.map aK), .sl 3 (l_0.Frozen.map aK)]) rfl) ?_
  refine bW rfl (eG (v := .agg [.lit (.int .i64 l_0.Players), .lit (.int .i64 l_0.Counts), .lit w7, .sl 3 (l_0.Bans.map aK), .sl 3 (l_0.Frozen.map aK)]) (aA rfl) rfl rfl rfl) ?_
  rintro _ ⟨b8, rfl⟩
  refine tr1 rfl (aJ (v := .bp b8 0 0) (aA rfl) rfl rfl) ?_
  refine tr1 rfl (aJ (v := .d (.lit (.int .i64 0))) (aA rfl) rfl rfl) ?_
  refine aF ?_
  have h := Option.some.inj h
  subst h
  refine cG (aW [2, 0, 1] rfl rfl (le_refl _)) ?_
  exact bL ⟨rfl, _, [.box b8 0 [.lit (.int .i64 l_0.Players), .lit (.int .i64 l_0.Counts), .lit w7, .sl 3 (l_0.Bans.map aK), .sl 3 (l_0.Frozen.map aK)], .arr w7 43 5 (r5.1.map aB)], [.box b1 0 [.lit (.int .i64 l_0.Players), .lit (.int .i64 l_0.Counts), .lit w7, .sl 3 (l_0.Bans.map aK), .sl 3 (l_0.Frozen.map aK)]], _, .two (.tmp 2 (v := .bp b8 0 0) rfl) (.tmp 3 (v := .d (.lit (.int .i64 0))) rfl), .refl _, .same _, b8, w7, rfl, rfl⟩

theorem pI (l_0 : aS) (player_1 : Int) (week_2 : Int) {r : (Option cC) × Int} (h : lC l_0 player_1 week_2 = some r) : fN Tryz.prog 26 [.agg (aU l_0), .d (.lit (.int .i64 player_1)), .d (.lit (.int .i64 week_2))] [] (fun r' o' => ∃ (b : Nat) (w0 : Value), r' = .tup [(match r.1 with | none => .d (.lit (.pointer none)) | some _ => .bp b 0 0), .d (.lit (.int .i64 r.2))] ∧ o' = (match r.1 with | none => [] | some x => [.box b 0 [.lit (.int .i64 x.Ledger.Players), .lit (.int .i64 x.Ledger.Counts), .lit w0, .sl 3 (x.Ledger.Bans.map aK), .sl 3 (x.Ledger.Frozen.map aK)], .arr w0 43 5 (x.Ledger.Reports.map aB)])) := by
 unfold lC at h
 refine mC Tryz.func26 rfl (rs := [.tmp 6, .tmp 7]) Tryz.results26 Tryz.ntmps26 (Nat.le_of_ble_eq_true rfl) ?_
 refine aG ?_
 refine aE ?_
 refine bW rfl (eG (v := .agg (aU l_0)) (aA rfl) rfl rfl rfl) ?_
 rintro _ ⟨b1, rfl⟩
 refine tr1 rfl (aJ (v := qE cN (none : Option cC)) (aA rfl) rfl rfl) ?_
 refine tr1 rfl (aJ (v := .d (.lit (.int .i64 0))) (aA rfl) rfl rfl) ?_
 refine aF ?_
 refine aG ?_
 refine aE ?_
 refine tr1 rfl (cF (aA rfl) rfl (i := 0) rfl eA (es := (aU l_0)) rfl rfl) ?_
 obtain ⟨r2, h3, h⟩ := bind_some h
 refine bW rfl (dI (passed := []) (aA rfl) rfl (.func _ _ Tryz.call58) rfl rfl (aCy _ h3)) ?_
 rintro _ ⟨_, _, ⟨b5, w6, rfl, rfl⟩, rfl⟩
 obtain ⟨_ | y4, e7⟩ := r2
 ·have h := tV h
  refine eW (aW [0] rfl rfl (le_refl _)) ?_
  refine tr1 rfl (aC (v := .tup [.d (.lit (.pointer none)), .d (.lit (.int .i64 e7))]) (aA rfl) rfl rfl) ?_
  refine tr1 rfl (cL (aA rfl) rfl rfl) ?_
  refine tr1 rfl (cL (aA rfl) rfl rfl) ?_
  refine tr1 rfl (aJ (v := .d (.lit (.pointer none))) (aA rfl) rfl rfl) ?_
  refine tr1 rfl (aJ (v := .d (.lit (.int .i64 e7))) (aA rfl) rfl rfl) ?_
  refine aF ?_
  refine aG ?_
  refine aG ?_
  refine aE ?_
  refine tr1 rfl (aC (v := .d (.lit (.int .i64 e7))) (aA rfl) rfl rfl) ?_
  refine tr1 rfl (bB (aA rfl) rfl rfl rfl) ?_
  refine aF ?_
  refine bI rfl (fun c8 => ?_) (fun c8 => ?_)
  ·have h := aR c8 h
   refine aG ?_
   refine aE ?_
   refine tr1 rfl (aC (v := .d (.lit (.int .i64 e7))) (aA rfl) rfl rfl) ?_
   refine tr1 rfl (aJ (v := qE cN (none : Option cC)) (aA rfl) rfl rfl) ?_
   refine tr1 rfl (aJ (v := .d (.lit (.int .i64 e7))) (aA rfl) rfl rfl) ?_
   refine aF ?_
   have h := Option.some.inj h
   subst h
   exact bL ⟨rfl, _, [], [.box b1 0 (aU l_0)], _, .two (.tmp 6 (v := qE cN (none : Option cC)) rfl) (.tmp 7 (v := .d (.lit (.int .i64 e7))) rfl), .refl _, .same _, 0, undef, rfl, rfl⟩
  ·have h := aQ c8 h
   refine bG ?_
   refine aG ?_
   refine aG ?_
   refine aE ?_
   refine tr1 rfl (aC (v := .d (.lit (.int .i64 player_1))) (aA rfl) rfl rfl) ?_
   refine tr1 rfl (aT (aA rfl) rfl iQ) ?_
   refine tr1 rfl (aV (aA rfl) rfl (i := 0) rfl rfl bE) ?_
   refine tr1 rfl (bA (aA rfl) rfl rfl rfl) ?_
   obtain ⟨r9, h10, h⟩ := bind_some h
   refine tr1 rfl (cB (aA rfl) (.func _ _ Tryz.call42) rfl rfl (BVs.refl _ _) (eZ _ _ _ h10) rfl) ?_
   refine tr1 rfl (eK (aA rfl) rfl) ?_
   refine tr1 rfl (aC (v := .d (.lit (.bool (!r9)))) (aA rfl) rfl rfl) ?_
   obtain ⟨b11, h12, h⟩ := bind_some h
   refine bZ 4 [8] 28 b11 ?_ ?_
   ·refine bF (!r9) (fun c14 => ?_) (fun c14 => ?_)
    ·have h12 := aR c14 h12
     refine aN rfl rfl (aA rfl) rfl (aA rfl) rfl c14 ?_
     refine aN rfl rfl (aA rfl) rfl (aA rfl) rfl c14 ?_
     refine aN rfl rfl (aA rfl) rfl (aA rfl) rfl c14 ?_
     refine tr1 rfl (bN (v := .d (.lit (.bool true))) (aA rfl) rfl c14 rfl rfl) ?_
     have h12 := Option.some.inj h12
     subst h12
     refine aF (aY rfl ⟨rfl, trivial⟩ rfl)
    ·have h12 := aQ c14 h12
     refine aL rfl rfl (aA rfl) rfl c14 (aC (v := .d (.lit (.int .i64 week_2))) (aA rfl) rfl rfl) ?_
     obtain ⟨r15, h16, h12⟩ := bind_some h12
     refine aL rfl rfl (aA rfl) rfl c14 (cB (aA rfl) (.func _ _ Tryz.call42) rfl rfl (BVs.refl _ _) (eZ _ _ _ h16) rfl) ?_
     refine aL rfl rfl (aA rfl) rfl c14 (eK (aA rfl) rfl) ?_
     refine tr1 rfl (bO (v := .d (.lit (.bool (!r15)))) (aA rfl) rfl c14 rfl rfl) ?_
     have h12 := Option.some.inj h12
     subst h12
     refine aF (aY rfl ⟨rfl, trivial⟩ rfl)
   ·refine aF ?_
    refine bI rfl (fun c13 => ?_) (fun c13 => ?_)
    ·have h := aR c13 h
     refine aG ?_
     refine aE ?_
     refine tr1 rfl (aJ (v := qE cN (none : Option cC)) (aA rfl) rfl rfl) ?_
     refine tr1 rfl (aJ (v := .d (.lit (.int .i64 1))) (aA rfl) rfl rfl) ?_
     refine aF ?_
     have h := Option.some.inj h
     subst h
     exact bL ⟨rfl, _, [], [.box b1 0 (aU l_0)], _, .two (.tmp 6 (v := qE cN (none : Option cC)) rfl) (.tmp 7 (v := .d (.lit (.int .i64 1))) rfl), .refl _, .same _, 0, undef, rfl, rfl⟩
    ·have h := aQ c13 h
     refine bG ?_
     refine aG ?_
     refine aE ?_
     refine tr1 rfl (aC (v := .d (.lit (.pointer none))) (aA rfl) rfl rfl) ?_
     refine tr1 rfl (aJ (v := .d (.lit (.pointer none))) (aA rfl) rfl rfl) ?_
     refine tr1 rfl (aJ (v := .d (.lit (.int .i64 0))) (aA rfl) rfl rfl) ?_
     refine aF ?_
     have h := Option.some.inj h
     subst h
     exact bL ⟨rfl, _, [], [.box b1 0 (aU l_0)], _, .two (.tmp 6 (v := .d (.lit (.pointer none))) rfl) (.tmp 7 (v := .d (.lit (.int .i64 0))) rfl), .refl _, .same _, 0, undef, rfl, rfl⟩
 ·have h := tW h
  refine eW (aW [0, 1, 2] rfl rfl (le_refl _)) ?_
  refine tr1 rfl (aC (v := .tup [.bp b5 0 0, .d (.lit (.int .i64 e7))]) (aA rfl) rfl rfl) ?_
  refine tr1 rfl (cL (aA rfl) rfl rfl) ?_
  refine tr1 rfl (cL (aA rfl) rfl rfl) ?_
  refine tr1 rfl (aJ (v := .bp b5 0 0) (aA rfl) rfl rfl) ?_
  refine tr1 rfl (aJ (v := .d (.lit (.int .i64 e7))) (aA rfl) rfl rfl) ?_
  refine aF ?_
  refine aG ?_
  refine aG ?_
  refine aE ?_
  refine tr1 rfl (aC (v := .d (.lit (.int .i64 e7))) (aA rfl) rfl rfl) ?_
  refine tr1 rfl (bB (aA rfl) rfl rfl rfl) ?_
  refine aF ?_
  refine bI rfl (fun c17 => ?_) (fun c17 => ?_)
  ·have h := aR c17 h
   refine aG ?_
   refine aE ?_
   refine tr1 rfl (aC (v := .d (.lit (.int .i64 e7))) (aA rfl) rfl rfl) ?_
   refine tr1 rfl (aJ (v := qE cN (none : Option cC)) (aA rfl) rfl rfl) ?_
   refine tr1 rfl (aJ (v := .d (.lit (.int .i64 e7))) (aA rfl) rfl rfl) ?_
   refine aF ?_
   have h := Option.some.inj h
   subst h
   exact bL ⟨rfl, _, [], [.box b5 0 [.lit (.int .i64 y4.Ledger.Players), .lit (.int .i64 y4.Ledger.Counts), .lit w6, .sl 3 (y4.Ledger.Bans.map aK), .sl 3 (y4.Ledger.Frozen.map aK)], .arr w6 43 5 (y4.Ledger.Reports.map aB), .box b1 0 (aU l_0)], _, .two (.tmp 6 (v := qE cN (none : Option cC)) rfl) (.tmp 7 (v := .d (.lit (.int .i64 e7))) rfl), .refl _, .same _, 0, undef, rfl, rfl⟩
  ·have h := aQ c17 h
   refine bG ?_
   refine aG ?_
   refine aG ?_
   refine aE ?_
   refine tr1 rfl (aC (v := .d (.lit (.int .i64 player_1))) (aA rfl) rfl rfl) ?_
   refine tr1 rfl (aT (aA rfl) rfl iQ) ?_
   refine tr1 rfl (aV (aA rfl) rfl (i := 2) rfl rfl bE) ?_
   refine tr1 rfl (bA (aA rfl) rfl rfl rfl) ?_
   obtain ⟨r18, h19, h⟩ := bind_some h
   refine tr1 rfl (cB (aA rfl) (.func _ _ Tryz.call42) rfl rfl (BVs.refl _ _) (eZ _ _ _ h19) rfl) ?_
   refine tr1 rfl (eK (aA rfl) rfl) ?_
   refine tr1 rfl (aC (v := .d (.lit (.bool (!r18)))) (aA rfl) rfl rfl) ?_
   obtain ⟨b20, h21, h⟩ := bind_some h
   refine bZ 4 [8] 28 b20 ?_ ?_
   ·refine bF (!r18) (fun c23 => ?_) (fun c23 => ?_)
    ·have h21 := aR c23 h21
     refine aN rfl rfl (aA rfl) rfl (aA rfl) rfl c23 ?_
     refine aN rfl rfl (aA rfl) rfl (aA rfl) rfl c23 ?_
     refine aN rfl rfl (aA rfl) rfl (aA rfl) rfl c23 ?_
     refine tr1 rfl (bN (v := .d (.lit (.bool true))) (aA rfl) rfl c23 rfl rfl) ?_
     have h21 := Option.some.inj h21
     subst h21
     refine aF (aY rfl ⟨rfl, trivial⟩ rfl)
    ·have h21 := aQ c23 h21
     refine aL rfl rfl (aA rfl) rfl c23 (aC (v := .d (.lit (.int .i64 week_2))) (aA rfl) rfl rfl) ?_
     obtain ⟨r24, h25, h21⟩ := bind_some h21
     refine aL rfl rfl (aA rfl) rfl c23 (cB (aA rfl) (.func _ _ Tryz.call42) rfl rfl (BVs.refl _ _) (eZ _ _ _ h25) rfl) ?_
     refine aL rfl rfl (aA rfl) rfl c23 (eK (aA rfl) rfl) ?_
     refine tr1 rfl (bO (v := .d (.lit (.bool (!r24)))) (aA rfl) rfl c23 rfl rfl) ?_
     have h21 := Option.some.inj h21
     subst h21
     refine aF (aY rfl ⟨rfl, trivial⟩ rfl)
   ·refine aF ?_
    refine bI rfl (fun c22 => ?_) (fun c22 => ?_)
    ·have h := aR c22 h
     refine aG ?_
     refine aE ?_
     refine tr1 rfl (aJ (v := qE cN (none : Option cC)) (aA rfl) rfl rfl) ?_
     refine tr1 rfl (aJ (v := .d (.lit (.int .i64 1))) (aA rfl) rfl rfl) ?_
     refine aF ?_
     have h := Option.some.inj h
     subst h
     exact bL ⟨rfl, _, [], [.box b5 0 [.lit (.int .i64 y4.Ledger.Players), .lit (.int .i64 y4.Ledger.Counts), .lit w6, .sl 3 (y4.Ledger.Bans.map aK), .sl 3 (y4.Ledger.Frozen.map aK)], .arr w6 43 5 (y4.Ledger.Reports.map aB), .box b1 0 (aU l_0)], _, .two (.tmp 6 (v := qE cN (none : Option cC)) rfl) (.tmp 7 (v := .d (.lit (.int .i64 1))) rfl), .refl _, .same _, 0, undef, rfl, rfl⟩
    ·have h := aQ c22 h
     refine bG ?_
     refine aG ?_
     refine aE ?_
     refine tr1 rfl (aC (v := .bp b5 0 0) (aA rfl) rfl rfl) ?_
     refine tr1 rfl (aJ (v := .bp b5 0 0) (aA rfl) rfl rfl) ?_
     refine tr1 rfl (aJ (v := .d (.lit (.int .i64 0))) (aA rfl) rfl rfl) ?_
     refine aF ?_
     have h := Option.some.inj h
     subst h
     exact bL ⟨rfl, _, [.box b5 0 [.lit (.int .i64 y4.Ledger.Players), .lit (.int .i64 y4.Ledger.Counts), .lit w6, .sl 3 (y4.Ledger.Bans.map aK), .sl 3 (y4.Ledger.Frozen.map aK)], .arr w6 43 5 (y4.Ledger.Reports.map aB)], [.box b1 0 (aU l_0)], _, .two (.tmp 6 (v := .bp b5 0 0) rfl) (.tmp 7 (v := .d (.lit (.int .i64 0))) rfl), .refl _, .same _, b5, w6, rfl, rfl⟩

theorem rE (b_0 : cC) (r_1 : aD) (week_2 : Int) {r : Int} (h : jG b_0 r_1 week_2 = some r) : Fn Tryz.prog 29 [.cp (cN b_0), .agg (aB r_1), .d (.lit (.int .i64 week_2))] (.d (.lit (.int .i64 r))) := by
 unfold jG at h
 refine Fn.of_tr Tryz.func29 rfl (rs := [.tmp 6]) Tryz.results29 Tryz.ntmps29 (Nat.le_of_ble_eq_true rfl) ?_
 refine aG ?_
 refine aE ?_
 refine bW rfl (eG (v := .agg (aB r_1)) (aA rfl) rfl rfl rfl) ?_
 rintro _ ⟨b1, rfl⟩
 refine tr1 rfl (aJ (v := .d (.lit (.int .i64 0))) (aA rfl) rfl rfl) ?_
 refine aF ?_
 refine aG ?_
 refine aE ?_
 refine tr1 rfl (aC (v := .d (.lit (.int .i64 week_2))) (aA rfl) rfl rfl) ?_
 refine tr1 rfl (aT (aA rfl) rfl jJ) ?_
 refine tr1 rfl (aV (aA rfl) rfl (i := 0) rfl rfl bE) ?_
 refine tr1 rfl (bA (aA rfl) rfl rfl rfl) ?_
 refine tr1 rfl (aJ (v := .d (.lit (.int .i64 ((w64 (week_2 - r_1.Week)))))) (aA rfl) rfl rfl) ?_
 refine aF ?_
 refine aG ?_
 refine aG ?_
 refine aE ?_
 refine tr1 rfl (aC (v := .cp [.lit (.int .i64 b_0.Ledger.Players), .lit (.int .i64 b_0.Ledger.Counts), .sl 5 (b_0.Ledger.Reports.map aB), .sl 3 (b_0.Ledger.Bans.map aK), .sl 3 (b_0.Ledger.Frozen.map aK)]) (aA rfl) rfl rfl) ?_
 refine tr1 rfl (pL (aA rfl) rfl) ?_
 refine tr1 rfl (cA (aA rfl) rfl gM (es := [.lit (.int .i64 b_0.Ledger.Players), .lit (.int .i64 b_0.Ledger.Counts), .sl 5 (b_0.Ledger.Reports.map aB), .sl 3 (b_0.Ledger.Bans.map aK), .sl 3 (b_0.Ledger.Frozen.map aK)]) rfl) ?_
 refine tr1 rfl (cA (aA rfl) rfl iD (es := [.sl 3 (b_0.Ledger.Frozen.map aK)]) rfl) ?_
 refine tr1 rfl (bY (aA rfl) rfl fU) ?_
 refine tr1 rfl (cW (aA rfl) rfl eH.of) ?_
 refine tr1 rfl (aC (v := .d (.lit (.int .i64 0))) (aA rfl) rfl rfl) ?_
 refine aF ?_
 refine bQ ?_
 refine cI [2, 4, 18, 19] (fun (s2 : Int × Int) => [(7, .d (.lit (.int .i64 s2.1))), (20, .d (.lit (.int .i64 s2.2)))]) (fun (s2 : Int × Int) => [.box b1 0 (aB r_1)]) (fun (k : Nat) (s2 : Int × Int) => iE week_2 b_0.Ledger.Frozen (b_0.Ledger.Frozen.length : Int) r_1 k s2.1 s2.2) (fun _ => rfl) (w64 (week_2 - r_1.Week), 0) h (aW [0] rfl rfl (aM rfl (aM rfl (aX ⟨rfl, rfl, rfl, rfl, trivial⟩)))) ?_
 rintro k3 ⟨n_0_2, t20_0_2⟩ h
 simp only [iE] at h
 refine aG ?_
 refine aE ?_
 refine tr1 rfl (bB (aA rfl) rfl rfl rfl) ?_
 refine aF ?_
 refine aG ?_
 refine bI rfl (fun c4 => ?_) (fun c4 => ?_)
 ·have h := aR c4 h
  refine bG ?_
  refine aG ?_
  refine bQ ?_
  refine aG ?_
  refine aE ?_
  obtain ⟨x5, h6, h⟩ := bind_some h
  refine tr1 rfl (bM (aA rfl) rfl rfl eH.of (bH aK h6)) ?_
  refine tr1 rfl (dZ (aA rfl) rfl qX (es := (aK x5)) rfl rfl) ?_
  refine bW rfl (fR (zs := [.lit (.int .i64 0), .lit (.int .i64 0), .lit (.int .i64 0)]) (aA rfl) Tryz.zeroValue70 rfl rfl) ?_
  rintro _ ⟨b7, rfl⟩
  refine tr1 rfl (cJ (i := 1) rfl rfl rfl rfl rfl Tryz.sizeOf70 rfl (aA rfl) (Nat.le_of_ble_eq_true rfl) (ds' := (aK x5)) rfl) ?_
  refine aF ?_
  refine aG ?_
  refine aE ?_
  refine tr1 rfl (aT (aA rfl) rfl kN) ?_
  refine tr1 rfl (aV (aA rfl) rfl (i := 1) rfl rfl bE) ?_
  refine tr1 rfl (aT (aA rfl) rfl nT) ?_
  refine tr1 rfl (aV (aA rfl) rfl (i := 0) rfl rfl bE) ?_
  refine tr1 rfl (bB (aA rfl) rfl rfl rfl) ?_
  refine aF ?_
  refine bI rfl (fun c8 => ?_) (fun c8 => ?_)
  ·have h := aR c8 h
   refine aE ?_
   refine tr1 rfl (aC (v := .d (.lit (.int .i64 n_0_2))) (aA rfl) rfl rfl) ?_
   refine tr1 rfl (aT (aA rfl) rfl lA) ?_
   refine tr1 rfl (aV (aA rfl) rfl (i := 1) rfl rfl bE) ?_
   refine tr1 rfl (aC (v := .d (.lit (.int .i64 week_2))) (aA rfl) rfl rfl) ?_
   refine tr1 rfl (aEo (aA rfl) rfl rfl) ?_
   refine tr1 rfl (aT (aA rfl) rfl jQ) ?_
   refine tr1 rfl (aV (aA rfl) rfl (i := 1) rfl rfl bE) ?_
   refine tr1 rfl (aT (aA rfl) rfl jJ) ?_
   refine tr1 rfl (aV (aA rfl) rfl (i := 0) rfl rfl bE) ?_
   refine tr1 rfl (bA (aA rfl) rfl rfl rfl) ?_
   refine tr1 rfl (aBg (aA rfl) rfl rfl) ?_
   refine tr1 rfl (bA (aA rfl) rfl rfl rfl) ?_
   refine tr1 rfl (bA (aA rfl) rfl rfl rfl) ?_
   refine tr1 rfl (aBg (aA rfl) rfl rfl) ?_
   refine tr1 rfl (bA (aA rfl) rfl rfl rfl) ?_
   refine tr1 rfl (aJ (v := .d (.lit (.int .i64 ((w64 (n_0_2 - (max 0 (w64 ((w64 ((min x5.To week_2) - (max x5.From (w64 (r_1.Week + 1))))) + 1))))))))) (aA rfl) rfl rfl) ?_
   refine dN ?_
   refine aE ?_
   refine tr1 rfl (bA (aA rfl) rfl rfl rfl) ?_
   refine tr1 rfl (aC (v := .d (.lit (.int .i64 ((w64 (t20_0_2 + 1)))))) (aA rfl) rfl rfl) ?_
   refine aF ?_
   exact ⟨(w64 (n_0_2 - (max 0 (w64 ((w64 ((min x5.To week_2) - (max x5.From (w64 (r_1.Week + 1))))) + 1)))), w64 (t20_0_2 + 1)), h, aW [0] rfl rfl (aM rfl (aM rfl (aX ⟨rfl, rfl, rfl, rfl, trivial⟩)))⟩
  ·have h := aQ c8 h
   refine dH ?_
   refine aE ?_
   refine tr1 rfl (bA (aA rfl) rfl rfl rfl) ?_
   refine tr1 rfl (aC (v := .d (.lit (.int .i64 ((w64 (t20_0_2 + 1)))))) (aA rfl) rfl rfl) ?_
   refine aF ?_
   exact ⟨(n_0_2, w64 (t20_0_2 + 1)), h, aW [0] rfl rfl (aM rfl (aM rfl (aX ⟨rfl, rfl, rfl, rfl, trivial⟩)))⟩
 ·have h := aQ c4 h
  refine cP ?_
  refine .inl ⟨rfl, ?_⟩
  simp only [qN] at h
  refine aG ?_
  refine aE ?_
  refine tr1 rfl (aC (v := .d (.lit (.int .i64 n_0_2))) (aA rfl) rfl rfl) ?_
  refine tr1 rfl (aJ (v := .d (.lit (.int .i64 n_0_2))) (aA rfl) rfl rfl) ?_
  refine aF ?_
  have h := Option.some.inj h
  subst h
  refine cG (bX (cD (l := [6]) ⟨rfl, trivial⟩)) ?_
  exact bL ⟨rfl, _, .one _, rfl, rfl⟩

theorem aBb (a_0 : bC) (c_1 : Int) (c_2 : Int) {r : Bool} (h : pZ a_0 c_1 c_2 = some r) : Fn Tryz.prog 69 [.agg (aK a_0), .cp [.lit (.int .i64 c_1)], .cp [.lit (.int .i64 c_2)]] (.d (.lit (.bool r))) := by
 unfold pZ at h
 refine Fn.of_tr Tryz.func69 rfl (rs := [.tmp 4]) Tryz.results69 Tryz.ntmps69 (Nat.le_of_ble_eq_true rfl) ?_
 refine aG ?_
 refine aE ?_
 refine bW rfl (eG (v := .agg (aK a_0)) (aA rfl) rfl rfl rfl) ?_
 rintro _ ⟨b1, rfl⟩
 refine tr1 rfl (aJ (v := .d (.lit (.bool false))) (aA rfl) rfl rfl) ?_
 refine aF ?_
 refine aG ?_
 refine aE ?_
 refine tr1 rfl (aT (aA rfl) rfl kN) ?_
 refine tr1 rfl (aV (aA rfl) rfl (i := 0) rfl rfl bE) ?_
 refine tr1 rfl (bY (aA rfl) rfl bE) ?_
 refine tr1 rfl (bB (aA rfl) rfl rfl rfl) ?_
 refine tr1 rfl (aC (v := .d (.lit (.bool ((decide (a_0.Player = c_1)))))) (aA rfl) rfl rfl) ?_
 obtain ⟨b2, h3, h⟩ := bind_some h
 refine bZ 7 [] 16 b2 ?_ ?_
 ·refine bF (decide (a_0.Player = c_1)) (fun c4 => ?_) (fun c4 => ?_)
  ·have h3 := aR c4 h3
   refine aL rfl rfl (aA rfl) rfl c4 (bY (aA rfl) rfl bE) ?_
   refine aL rfl rfl (aA rfl) rfl c4 (aT (aA rfl) rfl jQ) ?_
   refine aL rfl rfl (aA rfl) rfl c4 (aV (aA rfl) rfl (i := 0) rfl rfl bE) ?_
   refine aL rfl rfl (aA rfl) rfl c4 (aT (aA rfl) rfl lA) ?_
   refine aL rfl rfl (aA rfl) rfl c4 (aV (aA rfl) rfl (i := 0) rfl rfl bE) ?_
   obtain ⟨r5, h6, h3⟩ := bind_some h3
   refine aL rfl rfl (aA rfl) rfl c4 (cB (aA rfl) (.func _ _ Tryz.call42) rfl rfl (BVs.refl _ _) (eZ _ _ _ h6) rfl) ?_
   refine tr1 rfl (bN (v := .d (.lit (.bool r5))) (aA rfl) rfl c4 rfl rfl) ?_
   have h3 := Option.some.inj h3
   subst h3
   refine aF (aY rfl trivial rfl)
  ·have h3 := aQ c4 h3
   refine aN rfl rfl (aA rfl) rfl (aA rfl) rfl c4 ?_
   refine aN rfl rfl (aA rfl) rfl (aA rfl) rfl c4 ?_
   refine aN rfl rfl (aA rfl) rfl (aA rfl) rfl c4 ?_
   refine aN rfl rfl (aA rfl) rfl (aA rfl) rfl c4 ?_
   refine aN rfl rfl (aA rfl) rfl (aA rfl) rfl c4 ?_
   refine aN rfl rfl (aA rfl) rfl (aA rfl) rfl c4 ?_
   refine tr1 rfl (bO (v := .d (.lit (.bool false))) (aA rfl) rfl c4 rfl rfl) ?_
   have h3 := Option.some.inj h3
   subst h3
   refine aF (aY rfl trivial rfl)
 ·refine tr1 rfl (aJ (v := .d (.lit (.bool b2))) (aA rfl) rfl rfl) ?_
  refine aF ?_
  have h := Option.some.inj h
  subst h
  refine cG (bX (cD (l := [4]) ⟨rfl, trivial⟩)) ?_
  exact bL ⟨rfl, _, .one _, rfl, rfl⟩

theorem uT (all_0 : List bC) (player_1 : Int) (week_2 : Int) {r : Bool} (h : nR all_0 player_1 week_2 = some r) : Fn Tryz.prog 43 [.d (.sl 3 (all_0.map aK)), .d (.lit (.int .i64 player_1)), .d (.lit (.int .i64 week_2))] (.d (.lit (.bool r))) := by
 unfold nR at h
 refine Fn.of_tr Tryz.func43 rfl (rs := [.tmp 6]) Tryz.results43 Tryz.ntmps43 (Nat.le_of_ble_eq_true rfl) ?_
 refine aG ?_
 refine aE ?_
 refine bW rfl (eG (v := .d (.lit (.int .i64 player_1))) (aA rfl) rfl rfl rfl) ?_
 rintro _ ⟨b1, rfl⟩
 refine bW rfl (eG (v := .d (.lit (.int .i64 week_2))) (aA rfl) rfl rfl rfl) ?_
 rintro _ ⟨b2, rfl⟩
 refine tr1 rfl (aJ (v := .d (.lit (.bool false))) (aA rfl) rfl rfl) ?_
 refine aF ?_
 refine aG ?_
 refine aE ?_
 refine tr1 rfl (aC (v := .d (.sl 3 (all_0.map aK))) (aA rfl) rfl rfl) ?_
 refine tr1 rfl (vH (aA rfl) rfl rfl) ?_
 obtain ⟨r4, h5, h⟩ := bind_some h
 refine tr1 rfl (cB (aA rfl) (.func _ _ Tryz.call50) rfl rfl (.cons (.same _) (.cons ((zC (.cons ((lH 0 rfl rfl (dvc (.same _) dvn))) (.cons ((lH 1 rfl rfl (dvc (.same _) dvn))) .nil)))) .nil)) (jF _ _ 69 [.cp [.lit (.int .i64 player_1)], .cp [.lit (.int .i64 week_2)]] Tryz.call69 (fun _ _ h => aBb _ _ _ h) h5) rfl) ?_
 refine tr1 rfl (aJ (v := .d (.lit (.bool r4))) (aA rfl) rfl rfl) ?_
 refine aF ?_
 have h := Option.some.inj h
 subst h
 refine cG (bX (cD (l := [6]) ⟨rfl, trivial⟩)) ?_
 exact bL ⟨rfl, _, .one _, rfl, rfl⟩

theorem pR (b_0 : cC) (player_1 : Int) (week_2 : Int) {r : (List aD)} (h : jR b_0 player_1 week_2 = some r) : Fn Tryz.prog 33 [.cp (cN b_0), .d (.lit (.int .i64 player_1)), .d (.lit (.int .i64 week_2))] (.d (.sl 5 (r.map aB))) := by
 unfold jR at h
 refine Fn.of_tr Tryz.func33 rfl (rs := [.tmp 6]) Tryz.results33 Tryz.ntmps33 (Nat.le_of_ble_eq_true rfl) ?_
 refine aG ?_
 refine aE ?_
 refine tr1 rfl (nJ 5 (aA rfl)) ?_
 refine aF ?_
 refine aG ?_
 refine aE ?_
 refine tr1 rfl (gK 43 5 (.inl rfl) (aA rfl)) ?_
 refine aF ?_
 refine aG ?_
 refine aG ?_
 refine aE ?_
 refine tr1 rfl (aC (v := .cp [.lit (.int .i64 b_0.Ledger.Players), .lit (.int .i64 b_0.Ledger.Counts), .sl 5 (b_0.Ledger.Reports.map aB), .sl 3 (b_0.Ledger.Bans.map aK), .sl 3 (b_0.Ledger.Frozen.map aK)]) (aA rfl) rfl rfl) ?_
 refine tr1 rfl (pL (aA rfl) rfl) ?_
 refine tr1 rfl (cA (aA rfl) rfl gM (es := [.lit (.int .i64 b_0.Ledger.Players), .lit (.int .i64 b_0.Ledger.Counts), .sl 5 (b_0.Ledger.Reports.map aB), .sl 3 (b_0.Ledger.Bans.map aK), .sl 3 (b_0.Ledger.Frozen.map aK)]) rfl) ?_
 refine tr1 rfl (cA (aA rfl) rfl dS (es := [.sl 5 (b_0.Ledger.Reports.map aB)]) rfl) ?_
 refine tr1 rfl (bY (aA rfl) rfl fT) ?_
 refine tr1 rfl (cW (aA rfl) rfl bP.of) ?_
 refine tr1 rfl (aC (v := .d (.lit (.int .i64 0))) (aA rfl) rfl rfl) ?_
 refine aF ?_
 refine bQ ?_
 refine cI [0, 1, 2, 14, 15] (fun (s2 : Int × (List aD) × Value) => [(7, .d (.lit s2.2.2)), (16, .d (.lit (.int .i64 s2.1)))]) (fun (s2 : Int × (List aD) × Value) => [.arr s2.2.2 43 5 (s2.2.1.map aB)]) (fun (k : Nat) (s2 : Int × (List aD) × Value) => gJ b_0 player_1 week_2 b_0.Ledger.Reports (b_0.Ledger.Reports.length : Int) k s2.1 s2.2.1) (fun _ => rfl) (0, ([] : List aD), (.slice none 0 0)) h (aW [0] rfl rfl (aM rfl (aM rfl (aX ⟨rfl, rfl, rfl, rfl, rfl, trivial⟩)))) ?_
 rintro k4 ⟨t16_0_2, out_0_2, w3⟩ h
 simp only [gJ] at h
 refine aG ?_
 refine aE ?_
 refine tr1 rfl (bB (aA rfl) rfl rfl rfl) ?_
 refine aF ?_
 refine aG ?_
 refine bI rfl (fun c5 => ?_) (fun c5 => ?_)
 ·have h := aR c5 h
  refine bG ?_
  refine aG ?_
  refine bQ ?_
  refine aG ?_
  refine aE ?_
  obtain ⟨x6, h7, h⟩ := bind_some h
  refine tr1 rfl (bM (aA rfl) rfl rfl bP.of (bH aB h7)) ?_
  refine tr1 rfl (dZ (aA rfl) rfl dE (es := (aB x6)) rfl rfl) ?_
  refine bW rfl (fR (zs := [.lit (.int .i64 0), .lit (.int .i64 0), .lit (.int .i64 0), .lit (.int .i64 0), .lit (.bool false)]) (aA rfl) Tryz.zeroValue43 rfl rfl) ?_
  rintro _ ⟨b8, rfl⟩
  refine tr1 rfl (cJ (i := 1) rfl rfl rfl rfl rfl Tryz.sizeOf43 rfl (aA rfl) (Nat.le_of_ble_eq_true rfl) (ds' := (aB x6)) rfl) ?_
  refine aF ?_
  refine aG ?_
  obtain ⟨b9, h10, h⟩ := bind_some h
  obtain ⟨b12, h13, h⟩ := bind_some h
  obtain ⟨b17, h18, h⟩ := bind_some h
  refine fA mix 29 [0, 1, 2, 7, 9, 14, 15, 16] [(48, .d (.lit (.bool b17)))] ?_ ?_
  ·refine bF (decide (x6.Player = player_1)) (fun c11 => ?_) (fun c11 => ?_)
   ·have h10 := aR c11 h10
    have h10 := Option.some.inj h10
    subst h10
    refine bF (decide (x6.Week ≤ week_2)) (fun c14 => ?_) (fun c14 => ?_)
    ·have h13 := aR c14 h13
     obtain ⟨r15, h16, h13⟩ := bind_some h13
     have h13 := Option.some.inj h13
     subst h13
     refine bF (decide (r15 < 52)) (fun c19 => ?_) (fun c19 => ?_)
     ·have h18 := aR c19 h18
      obtain ⟨r20, h21, h18⟩ := bind_some h18
      have h18 := Option.some.inj h18
      subst h18
      refine ⟨[(20, 0, .bp b8 0 1), (21, 1, .d (.lit (.int .i64 x6.Player))), (22, 2, .d (.lit (.int .i64 player_1))), (23, 3, .d (.lit (.bool ((decide (x6.Player = player_1)))))), (24, 4, .d (.lit (.bool ((decide (x6.Player = player_1)))))), (25, 5, .bp b8 0 2), (26, 6, .d (.lit (.int .i64 x6.Week))), (27, 7, .d (.lit (.int .i64 week_2))), (28, 8, .d (.lit (.bool ((decide (x6.Week ≤ week_2)))))), (29, 9, .d (.lit (.bool ((decide (x6.Week ≤ week_2)))))), (30, 10, .d (.lit (.bool (decide (x6.Week ≤ week_2))))), (31, 11, .cp [.lit (.int .i64 b_0.Ledger.Players), .lit (.int .i64 b_0.Ledger.Counts), .sl 5 (b_0.Ledger.Reports.map aB), .sl 3 (b_0.Ledger.Bans.map aK), .sl 3 (b_0.Ledger.Frozen.map aK)]), (32, 12, .agg (aB x6)), (33, 13, .d (.lit (.int .i64 week_2))), (34, 14, .d (.lit (.int .i64 r15))), (35, 15, .d (.lit (.bool ((decide (r15 < 52)))))), (36, 16, .d (.lit (.bool ((decide (r15 < 52)))))), (37, 17, .d (.lit (.bool (decide (r15 < 52))))), (38, 18, .cp [.lit (.int .i64 b_0.Ledger.Players), .lit (.int .i64 b_0.Ledger.Counts), .sl 5 (b_0.Ledger.Reports.map aB), .sl 3 (b_0.Ledger.Bans.map aK), .sl 3 (b_0.Ledger.Frozen.map aK)]), (39, 19, .cp [.lit (.int .i64 b_0.Ledger.Players), .lit (.int .i64 b_0.Ledger.Counts), .sl 5 (b_0.Ledger.Reports.map aB), .sl 3 (b_0.Ledger.Bans.map aK), .sl 3 (b_0.Ledger.Frozen.map aK)]), (40, 20, .cp [.lit (.int .i64 b_0.Ledger.Players), .lit (.int .i64 b_0.Ledger.Counts), .sl 5 (b_0.Ledger.Reports.map aB), .sl 3 (b_0.Ledger.Bans.map aK), .sl 3 (b_0.Ledger.Frozen.map aK)]), (41, 21, .cp [.sl 3 (b_0.Ledger.Bans.map aK)]), (42, 22, .d (.sl 3 (b_0.Ledger.Bans.map aK))), (43, 23, .d (.lit (.int .i64 player_1))), (44, 24, .bp b8 0 2), (45, 25, .d (.lit (.int .i64 x6.Week))), (46, 26, .d (.lit (.bool r20))), (47, 27, .d (.lit (.bool (!r20)))), (48, 28, .d (.lit (.bool (!r20))))], ?_, ?_⟩
      · exact ⟨by kernel_rfl, by kernel_rfl, by kernel_rfl, by kernel_rfl, by kernel_rfl, [([], []), ([0], []), ([], []), ([1, 2], []), ([3], []), ([4], []), ([4, 5], []), ([4], []), ([4, 6, 7], []), ([4, 8], []), ([9], []), ([10], []), ([10], []), ([10], []), ([10, 11, 12, 13], []), ([10, 14], []), ([10, 15], []), ([16], []), ([17], []), ([17, 18], []), ([17, 19], []), ([17, 20], []), ([17, 21], []), ([17], []), ([17], []), ([17, 24], []), ([17, 22, 23, 25], []), ([17, 26], []), ([17, 27], [])], by kernel_rfl, ⟨fun S hS => aI rfl (aP rfl (aT (aA rfl) (aH hS rfl) nT)),
      fun S hS => aI rfl (aP rfl (aV (aA rfl) (aH hS rfl) (i := 1) rfl rfl bE)),
      fun S hS => aI rfl (aP rfl (aC (v := .d (.lit (.int .i64 player_1))) (aA rfl) (aH hS rfl) rfl)),
      fun S hS => aI rfl (aP rfl (bB (aA rfl) (aH hS rfl) (aH hS rfl) rfl)),
      fun S hS => aI rfl (aP rfl (aC (v := .d (.lit (.bool ((decide (x6.Player = player_1)))))) (aA rfl) (aH hS rfl) rfl)),
      fun S hS => aI rfl (aZ rfl rfl (aA rfl) (aO hS rfl) c11 (aT (aA rfl) (aH hS rfl) jJ)),
      fun S hS => aI rfl (aZ rfl rfl (aA rfl) (aO hS rfl) c11 (aV (aA rfl) (aH hS rfl) (i := 1) rfl rfl bE)),
      fun S hS => aI rfl (aZ rfl rfl (aA rfl) (aO hS rfl) c11 (aC (v := .d (.lit (.int .i64 week_2))) (aA rfl) (aH hS rfl) rfl)),
      fun S hS => aI rfl (aZ rfl rfl (aA rfl) (aO hS rfl) c11 (bB (aA rfl) (aH hS rfl) (aH hS rfl) rfl)),
      fun S hS => aI rfl (aP rfl (bN (v := .d (.lit (.bool ((decide (x6.Week ≤ week_2)))))) (aA rfl) (aH hS rfl) c11 (aH hS rfl) rfl)),
      fun S hS => aI rfl (aP rfl (aC (v := .d (.lit (.bool (decide (x6.Week ≤ week_2))))) (aA rfl) (aH hS rfl) rfl)),
      fun S hS => aI rfl (aZ rfl rfl (aA rfl) (aO hS rfl) c14 (aC (v := .cp [.lit (.int .i64 b_0.Ledger.Players), .lit (.int .i64 b_0.Ledger.Counts), .sl 5 (b_0.Ledger.Reports.map aB), .sl 3 (b_0.Ledger.Bans.map aK), .sl 3 (b_0.Ledger.Frozen.map aK)]) (aA rfl) (aH hS rfl) rfl)),
      fun S hS => aI rfl (aZ rfl rfl (aA rfl) (aO hS rfl) c14 (cF (aA rfl) (aH hS rfl) (i := 1) rfl dE (es := (aB x6)) rfl rfl)),
      fun S hS => aI rfl (aZ rfl rfl (aA rfl) (aO hS rfl) c14 (aC (v := .d (.lit (.int .i64 week_2))) (aA rfl) (aH hS rfl) rfl)),
      fun S hS => aI rfl (aZ rfl rfl (aA rfl) (aO hS rfl) c14 (cB (aA rfl) (.func _ _ Tryz.call29) (ev2 (aH hS rfl) (ev2 (aH hS rfl) (ev2 (aH hS rfl) evn))) rfl (BVs.refl _ _) (rE _ _ _ h16) rfl)),
      fun S hS => aI rfl (aZ rfl rfl (aA rfl) (aO hS rfl) c14 (bB (aA rfl) (aH hS rfl) rfl rfl)),
      fun S hS => aI rfl (aP rfl (bN (v := .d (.lit (.bool ((decide (r15 < 52)))))) (aA rfl) (aH hS rfl) c14 (aH hS rfl) rfl)),
      fun S hS => aI rfl (aP rfl (aC (v := .d (.lit (.bool (decide (r15 < 52))))) (aA rfl) (aH hS rfl) rfl)),
      fun S hS => aI rfl (aZ rfl rfl (aA rfl) (aO hS rfl) c19 (aC (v := .cp [.lit (.int .i64 b_0.Ledger.Players), .lit (.int .i64 b_0.Ledger.Counts), .sl 5 (b_0.Ledger.Reports.map aB), .sl 3 (b_0.Ledger.Bans.map aK), .sl 3 (b_0.Ledger.Frozen.map aK)]) (aA rfl) (aH hS rfl) rfl)),
      fun S hS => aI rfl (aZ rfl rfl (aA rfl) (aO hS rfl) c19 (pL (aA rfl) (aH hS rfl))),
      fun S hS => aI rfl (aZ rfl rfl (aA rfl) (aO hS rfl) c19 (cA (aA rfl) (aH hS rfl) gM (es := [.lit (.int .i64 b_0.Ledger.Players), .lit (.int .i64 b_0.Ledger.Counts), .sl 5 (b_0.Ledger.Reports.map aB), .sl 3 (b_0.Ledger.Bans.map aK), .sl 3 (b_0.Ledger.Frozen.map aK)]) rfl)),
      fun S hS => aI rfl (aZ rfl rfl (aA rfl) (aO hS rfl) c19 (cA (aA rfl) (aH hS rfl) jO (es := [.sl 3 (b_0.Ledger.Bans.map aK)]) rfl)),
      fun S hS => aI rfl (aZ rfl rfl (aA rfl) (aO hS rfl) c19 (bY (aA rfl) (aH hS rfl) fU)),
      fun S hS => aI rfl (aZ rfl rfl (aA rfl) (aO hS rfl) c19 (aC (v := .d (.lit (.int .i64 player_1))) (aA rfl) (aH hS rfl) rfl)),
      fun S hS => aI rfl (aZ rfl rfl (aA rfl) (aO hS rfl) c19 (aT (aA rfl) (aH hS rfl) jJ)),
      fun S hS => aI rfl (aZ rfl rfl (aA rfl) (aO hS rfl) c19 (aV (aA rfl) (aH hS rfl) (i := 1) rfl rfl bE)),
      fun S hS => aI rfl (aZ rfl rfl (aA rfl) (aO hS rfl) c19 (cB (aA rfl) (.func _ _ Tryz.call43) (ev2 (aH hS rfl) (ev2 (aH hS rfl) (ev2 (aH hS rfl) evn))) rfl (BVs.refl _ _) (uT _ _ _ h21) rfl)),
      fun S hS => aI rfl (aZ rfl rfl (aA rfl) (aO hS rfl) c19 (eK (aA rfl) (aH hS rfl))),
      fun S hS => aI rfl (aP rfl (bN (v := .d (.lit (.bool (!r20)))) (aA rfl) (aH hS rfl) c19 (aH hS rfl) rfl)), trivial⟩⟩
      · exact dJ (aM rfl (aX ⟨rfl, rfl, rfl, rfl, rfl, rfl, rfl, rfl, trivial⟩))
     ·have h18 := aQ c19 h18
      have h18 := Option.some.inj h18
      subst h18
      refine ⟨[(20, 0, .bp b8 0 1), (21, 1, .d (.lit (.int .i64 x6.Player))), (22, 2, .d (.lit (.int .i64 player_1))), (23, 3, .d (.lit (.bool ((decide (x6.Player = player_1)))))), (24, 4, .d (.lit (.bool ((decide (x6.Player = player_1)))))), (25, 5, .bp b8 0 2), (26, 6, .d (.lit (.int .i64 x6.Week))), (27, 7, .d (.lit (.int .i64 week_2))), (28, 8, .d (.lit (.bool ((decide (x6.Week ≤ week_2)))))), (29, 9, .d (.lit (.bool ((decide (x6.Week ≤ week_2)))))), (30, 10, .d (.lit (.bool (decide (x6.Week ≤ week_2))))), (31, 11, .cp [.lit (.int .i64 b_0.Ledger.Players), .lit (.int .i64 b_0.Ledger.Counts), .sl 5 (b_0.Ledger.Reports.map aB), .sl 3 (b_0.Ledger.Bans.map aK), .sl 3 (b_0.Ledger.Frozen.map aK)]), (32, 12, .agg (aB x6)), (33, 13, .d (.lit (.int .i64 week_2))), (34, 14, .d (.lit (.int .i64 r15))), (35, 15, .d (.lit (.bool ((decide (r15 < 52)))))), (36, 16, .d (.lit (.bool ((decide (r15 < 52)))))), (37, 17, .d (.lit (.bool (decide (r15 < 52))))), (38, 18, .tup []), (39, 19, .tup []), (40, 20, .tup []), (41, 21, .tup []), (42, 22, .tup []), (43, 23, .tup []), (44, 24, .tup []), (45, 25, .tup []), (46, 26, .tup []), (47, 27, .tup []), (48, 28, .d (.lit (.bool false)))], ?_, ?_⟩
      · exact ⟨by kernel_rfl, by kernel_rfl, by kernel_rfl, by kernel_rfl, by kernel_rfl, [([], []), ([0], []), ([], []), ([1, 2], []), ([3], []), ([4], []), ([4, 5], []), ([4], []), ([4, 6, 7], []), ([4, 8], []), ([9], []), ([10], []), ([10], []), ([10], []), ([10, 11, 12, 13], []), ([10, 14], []), ([10, 15], []), ([16], []), ([17], []), ([17, 18], []), ([17, 19], []), ([17, 20], []), ([17, 21], []), ([17], []), ([17], []), ([17, 24], []), ([17, 22, 23, 25], []), ([17, 26], []), ([17, 27], [])], by kernel_rfl, ⟨fun S hS => aI rfl (aP rfl (aT (aA rfl) (aH hS rfl) nT)),
      fun S hS => aI rfl (aP rfl (aV (aA rfl) (aH hS rfl) (i := 1) rfl rfl bE)),
      fun S hS => aI rfl (aP rfl (aC (v := .d (.lit (.int .i64 player_1))) (aA rfl) (aH hS rfl) rfl)),
      fun S hS => aI rfl (aP rfl (bB (aA rfl) (aH hS rfl) (aH hS rfl) rfl)),
      fun S hS => aI rfl (aP rfl (aC (v := .d (.lit (.bool ((decide (x6.Player = player_1)))))) (aA rfl) (aH hS rfl) rfl)),
      fun S hS => aI rfl (aZ rfl rfl (aA rfl) (aO hS rfl) c11 (aT (aA rfl) (aH hS rfl) jJ)),
      fun S hS => aI rfl (aZ rfl rfl (aA rfl) (aO hS rfl) c11 (aV (aA rfl) (aH hS rfl) (i := 1) rfl rfl bE)),
      fun S hS => aI rfl (aZ rfl rfl (aA rfl) (aO hS rfl) c11 (aC (v := .d (.lit (.int .i64 week_2))) (aA rfl) (aH hS rfl) rfl)),
      fun S hS => aI rfl (aZ rfl rfl (aA rfl) (aO hS rfl) c11 (bB (aA rfl) (aH hS rfl) (aH hS rfl) rfl)),
      fun S hS => aI rfl (aP rfl (bN (v := .d (.lit (.bool ((decide (x6.Week ≤ week_2)))))) (aA rfl) (aH hS rfl) c11 (aH hS rfl) rfl)),
      fun S hS => aI rfl (aP rfl (aC (v := .d (.lit (.bool (decide (x6.Week ≤ week_2))))) (aA rfl) (aH hS rfl) rfl)),
      fun S hS => aI rfl (aZ rfl rfl (aA rfl) (aO hS rfl) c14 (aC (v := .cp [.lit (.int .i64 b_0.Ledger.Players), .lit (.int .i64 b_0.Ledger.Counts), .sl 5 (b_0.Ledger.Reports.map aB), .sl 3 (b_0.Ledger.Bans.map aK), .sl 3 (b_0.Ledger.Frozen.map aK)]) (aA rfl) (aH hS rfl) rfl)),
      fun S hS => aI rfl (aZ rfl rfl (aA rfl) (aO hS rfl) c14 (cF (aA rfl) (aH hS rfl) (i := 1) rfl dE (es := (aB x6)) rfl rfl)),
      fun S hS => aI rfl (aZ rfl rfl (aA rfl) (aO hS rfl) c14 (aC (v := .d (.lit (.int .i64 week_2))) (aA rfl) (aH hS rfl) rfl)),
      fun S hS => aI rfl (aZ rfl rfl (aA rfl) (aO hS rfl) c14 (cB (aA rfl) (.func _ _ Tryz.call29) (ev2 (aH hS rfl) (ev2 (aH hS rfl) (ev2 (aH hS rfl) evn))) rfl (BVs.refl _ _) (rE _ _ _ h16) rfl)),
      fun S hS => aI rfl (aZ rfl rfl (aA rfl) (aO hS rfl) c14 (bB (aA rfl) (aH hS rfl) rfl rfl)),
      fun S hS => aI rfl (aP rfl (bN (v := .d (.lit (.bool ((decide (r15 < 52)))))) (aA rfl) (aH hS rfl) c14 (aH hS rfl) rfl)),
      fun S hS => aI rfl (aP rfl (aC (v := .d (.lit (.bool (decide (r15 < 52))))) (aA rfl) (aH hS rfl) rfl)),
      fun S hS => aI rfl (bD rfl rfl (aA rfl) rfl (aA rfl) (aO hS rfl) c19),
      fun S hS => aI rfl (bD rfl rfl (aA rfl) rfl (aA rfl) (aO hS rfl) c19),
      fun S hS => aI rfl (bD rfl rfl (aA rfl) rfl (aA rfl) (aO hS rfl) c19),
      fun S hS => aI rfl (bD rfl rfl (aA rfl) rfl (aA rfl) (aO hS rfl) c19),
      fun S hS => aI rfl (bD rfl rfl (aA rfl) rfl (aA rfl) (aO hS rfl) c19),
      fun S hS => aI rfl (bD rfl rfl (aA rfl) rfl (aA rfl) (aO hS rfl) c19),
      fun S hS => aI rfl (bD rfl rfl (aA rfl) rfl (aA rfl) (aO hS rfl) c19),
      fun S hS => aI rfl (bD rfl rfl (aA rfl) rfl (aA rfl) (aO hS rfl) c19),
      fun S hS => aI rfl (bD rfl rfl (aA rfl) rfl (aA rfl) (aO hS rfl) c19),
      fun S hS => aI rfl (bD rfl rfl (aA rfl) rfl (aA rfl) (aO hS rfl) c19),
      fun S hS => aI rfl (aP rfl (bO (v := .d (.lit (.bool false))) (aA rfl) (aH hS rfl) c19 rfl rfl)), trivial⟩⟩
      · exact dJ (aM rfl (aX ⟨rfl, rfl, rfl, rfl, rfl, rfl, rfl, rfl, trivial⟩))
    ·have h13 := aQ c14 h13
     have h13 := Option.some.inj h13
     subst h13
     have c19 : false = false := rfl
     have h18 := aQ c19 h18
     have h18 := Option.some.inj h18
     subst h18
     refine ⟨[(20, 0, .bp b8 0 1), (21, 1, .d (.lit (.int .i64 x6.Player))), (22, 2, .d (.lit (.int .i64 player_1))), (23, 3, .d (.lit (.bool ((decide (x6.Player = player_1)))))), (24, 4, .d (.lit (.bool ((decide (x6.Player = player_1)))))), (25, 5, .bp b8 0 2), (26, 6, .d (.lit (.int .i64 x6.Week))), (27, 7, .d (.lit (.int .i64 week_2))), (28, 8, .d (.lit (.bool ((decide (x6.Week ≤ week_2)))))), (29, 9, .d (.lit (.bool ((decide (x6.Week ≤ week_2)))))), (30, 10, .d (.lit (.bool (decide (x6.Week ≤ week_2))))), (31, 11, .tup []), (32, 12, .tup []), (33, 13, .tup []), (34, 14, .tup []), (35, 15, .tup []), (36, 16, .d (.lit (.bool false))), (37, 17, .d (.lit (.bool (false)))), (38, 18, .tup []), (39, 19, .tup []), (40, 20, .tup []), (41, 21, .tup []), (42, 22, .tup []), (43, 23, .tup []), (44, 24, .tup []), (45, 25, .tup []), (46, 26, .tup []), (47, 27, .tup []), (48, 28, .d (.lit (.bool false)))], ?_, ?_⟩
     · exact ⟨by kernel_rfl, by kernel_rfl, by kernel_rfl, by kernel_rfl, by kernel_rfl, [([], []), ([0], []), ([], []), ([1, 2], []), ([3], []), ([4], []), ([4, 5], []), ([4], []), ([4, 6, 7], []), ([4, 8], []), ([9], []), ([10], []), ([10], []), ([10], []), ([10, 11, 12, 13], []), ([10, 14], []), ([10, 15], []), ([16], []), ([17], []), ([17, 18], []), ([17, 19], []), ([17, 20], []), ([17, 21], []), ([17], []), ([17], []), ([17, 24], []), ([17, 22, 23, 25], []), ([17, 26], []), ([17, 27], [])], by kernel_rfl, ⟨fun S hS => aI rfl (aP rfl (aT (aA rfl) (aH hS rfl) nT)),
      fun S hS => aI rfl (aP rfl (aV (aA rfl) (aH hS rfl) (i := 1) rfl rfl bE)),
      fun S hS => aI rfl (aP rfl (aC (v := .d (.lit (.int .i64 player_1))) (aA rfl) (aH hS rfl) rfl)),
      fun S hS => aI rfl (aP rfl (bB (aA rfl) (aH hS rfl) (aH hS rfl) rfl)),
      fun S hS => aI rfl (aP rfl (aC (v := .d (.lit (.bool ((decide (x6.Player = player_1)))))) (aA rfl) (aH hS rfl) rfl)),
      fun S hS => aI rfl (aZ rfl rfl (aA rfl) (aO hS rfl) c11 (aT (aA rfl) (aH hS rfl) jJ)),
      fun S hS => aI rfl (aZ rfl rfl (aA rfl) (aO hS rfl) c11 (aV (aA rfl) (aH hS rfl) (i := 1) rfl rfl bE)),
      fun S hS => aI rfl (aZ rfl rfl (aA rfl) (aO hS rfl) c11 (aC (v := .d (.lit (.int .i64 week_2))) (aA rfl) (aH hS rfl) rfl)),
      fun S hS => aI rfl (aZ rfl rfl (aA rfl) (aO hS rfl) c11 (bB (aA rfl) (aH hS rfl) (aH hS rfl) rfl)),
      fun S hS => aI rfl (aP rfl (bN (v := .d (.lit (.bool ((decide (x6.Week ≤ week_2)))))) (aA rfl) (aH hS rfl) c11 (aH hS rfl) rfl)),
      fun S hS => aI rfl (aP rfl (aC (v := .d (.lit (.bool (decide (x6.Week ≤ week_2))))) (aA rfl) (aH hS rfl) rfl)),
      fun S hS => aI rfl (bD rfl rfl (aA rfl) rfl (aA rfl) (aO hS rfl) c14),
      fun S hS => aI rfl (bD rfl rfl (aA rfl) rfl (aA rfl) (aO hS rfl) c14),
      fun S hS => aI rfl (bD rfl rfl (aA rfl) rfl (aA rfl) (aO hS rfl) c14),
      fun S hS => aI rfl (bD rfl rfl (aA rfl) rfl (aA rfl) (aO hS rfl) c14),
      fun S hS => aI rfl (bD rfl rfl (aA rfl) rfl (aA rfl) (aO hS rfl) c14),
      fun S hS => aI rfl (aP rfl (bO (v := .d (.lit (.bool false))) (aA rfl) (aH hS rfl) c14 rfl rfl)),
      fun S hS => aI rfl (aP rfl (aC (v := .d (.lit (.bool (false)))) (aA rfl) (aH hS rfl) rfl)),
      fun S hS => aI rfl (bD rfl rfl (aA rfl) rfl (aA rfl) (aO hS rfl) c19),
      fun S hS => aI rfl (bD rfl rfl (aA rfl) rfl (aA rfl) (aO hS rfl) c19),
      fun S hS => aI rfl (bD rfl rfl (aA rfl) rfl (aA rfl) (aO hS rfl) c19),
      fun S hS => aI rfl (bD rfl rfl (aA rfl) rfl (aA rfl) (aO hS rfl) c19),
      fun S hS => aI rfl (bD rfl rfl (aA rfl) rfl (aA rfl) (aO hS rfl) c19),
      fun S hS => aI rfl (bD rfl rfl (aA rfl) rfl (aA rfl) (aO hS rfl) c19),
      fun S hS => aI rfl (bD rfl rfl (aA rfl) rfl (aA rfl) (aO hS rfl) c19),
      fun S hS => aI rfl (bD rfl rfl (aA rfl) rfl (aA rfl) (aO hS rfl) c19),
      fun S hS => aI rfl (bD rfl rfl (aA rfl) rfl (aA rfl) (aO hS rfl) c19),
      fun S hS => aI rfl (bD rfl rfl (aA rfl) rfl (aA rfl) (aO hS rfl) c19),
      fun S hS => aI rfl (aP rfl (bO (v := .d (.lit (.bool false))) (aA rfl) (aH hS rfl) c19 rfl rfl)), trivial⟩⟩
     · exact dJ (aM rfl (aX ⟨rfl, rfl, rfl, rfl, rfl, rfl, rfl, rfl, trivial⟩))
   ·have h10 := aQ c11 h10
    have h10 := Option.some.inj h10
    subst h10
    have c14 : false = false := rfl
    have h13 := aQ c14 h13
    have h13 := Option.some.inj h13
    subst h13
    have c19 : false = false := rfl
    have h18 := aQ c19 h18
    have h18 := Option.some.inj h18
    subst h18
    refine ⟨[(20, 0, .bp b8 0 1), (21, 1, .d (.lit (.int .i64 x6.Player))), (22, 2, .d (.lit (.int .i64 player_1))), (23, 3, .d (.lit (.bool ((decide (x6.Player = player_1)))))), (24, 4, .d (.lit (.bool ((decide (x6.Player = player_1)))))), (25, 5, .tup []), (26, 6, .tup []), (27, 7, .tup []), (28, 8, .tup []), (29, 9, .d (.lit (.bool false))), (30, 10, .d (.lit (.bool (false)))), (31, 11, .tup []), (32, 12, .tup []), (33, 13, .tup []), (34, 14, .tup []), (35, 15, .tup []), (36, 16, .d (.lit (.bool false))), (37, 17, .d (.lit (.bool (false)))), (38, 18, .tup []), (39, 19, .tup []), (40, 20, .tup []), (41, 21, .tup []), (42, 22, .tup []), (43, 23, .tup []), (44, 24, .tup []), (45, 25, .tup []), (46, 26, .tup []), (47, 27, .tup []), (48, 28, .d (.lit (.bool false)))], ?_, ?_⟩
    · exact ⟨by kernel_rfl, by kernel_rfl, by kernel_rfl, by kernel_rfl, by kernel_rfl, [([], []), ([0], []), ([], []), ([1, 2], []), ([3], []), ([4], []), ([4, 5], []), ([4], []), ([4, 6, 7], []), ([4, 8], []), ([9], []), ([10], []), ([10], []), ([10], []), ([10, 11, 12, 13], []), ([10, 14], []), ([10, 15], []), ([16], []), ([17], []), ([17, 18], []), ([17, 19], []), ([17, 20], []), ([17, 21], []), ([17], []), ([17], []), ([17, 24], []), ([17, 22, 23, 25], []), ([17, 26], []), ([17, 27], [])], by kernel_rfl, ⟨fun S hS => aI rfl (aP rfl (aT (aA rfl) (aH hS rfl) nT)),
      fun S hS => aI rfl (aP rfl (aV (aA rfl) (aH hS rfl) (i := 1) rfl rfl bE)),
      fun S hS => aI rfl (aP rfl (aC (v := .d (.lit (.int .i64 player_1))) (aA rfl) (aH hS rfl) rfl)),
      fun S hS => aI rfl (aP rfl (bB (aA rfl) (aH hS rfl) (aH hS rfl) rfl)),
      fun S hS => aI rfl (aP rfl (aC (v := .d (.lit (.bool ((decide (x6.Player = player_1)))))) (aA rfl) (aH hS rfl) rfl)),
      fun S hS => aI rfl (bD rfl rfl (aA rfl) rfl (aA rfl) (aO hS rfl) c11),
      fun S hS => aI rfl (bD rfl rfl (aA rfl) rfl (aA rfl) (aO hS rfl) c11),
      fun S hS => aI rfl (bD rfl rfl (aA rfl) rfl (aA rfl) (aO hS rfl) c11),
      fun S hS => aI rfl (bD rfl rfl (aA rfl) rfl (aA rfl) (aO hS rfl) c11),
      fun S hS => aI rfl (aP rfl (bO (v := .d (.lit (.bool false))) (aA rfl) (aH hS rfl) c11 rfl rfl)),
      fun S hS => aI rfl (aP rfl (aC (v := .d (.lit (.bool (false)))) (aA rfl) (aH hS rfl) rfl)),
      fun S hS => aI rfl (bD rfl rfl (aA rfl) rfl (aA rfl) (aO hS rfl) c14),
      fun S hS => aI rfl (bD rfl rfl (aA rfl) rfl (aA rfl) (aO hS rfl) c14),
      fun S hS => aI rfl (bD rfl rfl (aA rfl) rfl (aA rfl) (aO hS rfl) c14),
      fun S hS => aI rfl (bD rfl rfl (aA rfl) rfl (aA rfl) (aO hS rfl) c14),
      fun S hS => aI rfl (bD rfl rfl (aA rfl) rfl (aA rfl) (aO hS rfl) c14),
      fun S hS => aI rfl (aP rfl (bO (v := .d (.lit (.bool false))) (aA rfl) (aH hS rfl) c14 rfl rfl)),
      fun S hS => aI rfl (aP rfl (aC (v := .d (.lit (.bool (false)))) (aA rfl) (aH hS rfl) rfl)),
      fun S hS => aI rfl (bD rfl rfl (aA rfl) rfl (aA rfl) (aO hS rfl) c19),
      fun S hS => aI rfl (bD rfl rfl (aA rfl) rfl (aA rfl) (aO hS rfl) c19),
      fun S hS => aI rfl (bD rfl rfl (aA rfl) rfl (aA rfl) (aO hS rfl) c19),
      fun S hS => aI rfl (bD rfl rfl (aA rfl) rfl (aA rfl) (aO hS rfl) c19),
      fun S hS => aI rfl (bD rfl rfl (aA rfl) rfl (aA rfl) (aO hS rfl) c19),
      fun S hS => aI rfl (bD rfl rfl (aA rfl) rfl (aA rfl) (aO hS rfl) c19),
      fun S hS => aI rfl (bD rfl rfl (aA rfl) rfl (aA rfl) (aO hS rfl) c19),
      fun S hS => aI rfl (bD rfl rfl (aA rfl) rfl (aA rfl) (aO hS rfl) c19),
      fun S hS => aI rfl (bD rfl rfl (aA rfl) rfl (aA rfl) (aO hS rfl) c19),
      fun S hS => aI rfl (bD rfl rfl (aA rfl) rfl (aA rfl) (aO hS rfl) c19),
      fun S hS => aI rfl (aP rfl (bO (v := .d (.lit (.bool false))) (aA rfl) (aH hS rfl) c19 rfl rfl)), trivial⟩⟩
    · exact dJ (aM rfl (aX ⟨rfl, rfl, rfl, rfl, rfl, rfl, rfl, rfl, trivial⟩))
  ·refine aF ?_
   refine bI rfl (fun c22 => ?_) (fun c22 => ?_)
   ·have h := aR c22 h
    refine aE ?_
    refine tr1 rfl (aC (v := .d (.lit w3)) (aA rfl) rfl rfl) ?_
    refine tr1 rfl (cF (aA rfl) rfl (i := 1) rfl dE (es := (aB x6)) rfl rfl) ?_
    refine tr1 rfl (iH (aA rfl) bP rfl rfl (rows := ([x6]).map aB) rfl (cT (f := aB) fun _ => rfl) rfl (by decide)) ?_
    obtain ⟨x23, h24, h⟩ := bind_some h
    refine bW rfl (kB (i := 0) (aA rfl) bP rfl rfl rfl (fun _ => rfl) h24 rfl) ?_
    rintro _ ⟨v25, rfl⟩
    refine tr1 rfl (aJ (v := .d (.lit v25)) (aA rfl) rfl rfl) ?_
    refine dN ?_
    refine aE ?_
    refine tr1 rfl (bA (aA rfl) rfl rfl rfl) ?_
    refine tr1 rfl (aC (v := .d (.lit (.int .i64 ((w64 (t16_0_2 + 1)))))) (aA rfl) rfl rfl) ?_
    refine aF ?_
    exact ⟨(w64 (t16_0_2 + 1), x23, v25), h, aW [0] rfl rfl (aM rfl (aM rfl (aX ⟨rfl, rfl, rfl, rfl, rfl, trivial⟩)))⟩
   ·have h := aQ c22 h
    refine dH ?_
    refine aE ?_
    refine tr1 rfl (bA (aA rfl) rfl rfl rfl) ?_
    refine tr1 rfl (aC (v := .d (.lit (.int .i64 ((w64 (t16_0_2 + 1)))))) (aA rfl) rfl rfl) ?_
    refine aF ?_
    exact ⟨(w64 (t16_0_2 + 1), out_0_2, w3), h, aW [0] rfl rfl (aM rfl (aM rfl (aX ⟨rfl, rfl, rfl, rfl, rfl, trivial⟩)))⟩
 ·have h := aQ c5 h
  refine cP ?_
  refine .inl ⟨rfl, ?_⟩
  simp only [oX] at h
  refine aG ?_
  refine aE ?_
  refine tr1 rfl (aC (v := .d (.lit w3)) (aA rfl) rfl rfl) ?_
  refine tr1 rfl (aJ (v := .d (.lit w3)) (aA rfl) rfl rfl) ?_
  refine aF ?_
  have h := Option.some.inj h
  subst h
  refine cG (bX (fH (k := 6) (v := .d (.sl 5 (out_0_2.map aB))) (.d (gE 0 rfl (cT (f := aB) fun _ => rfl))) (rT))) ?_
  exact bL ⟨rfl, _, .one _, rfl, rfl⟩

theorem wS (vals_0 : List Int) {r : Int} (h : pD vals_0 = some r) : Fn Tryz.prog 61 [.d (.sl 1 (vals_0.map cE))] (.d (.lit (.int .i64 r))) := by
 unfold pD at h
 refine Fn.of_tr Tryz.func61 rfl (rs := [.tmp 2]) Tryz.results61 Tryz.ntmps61 (Nat.le_of_ble_eq_true rfl) ?_
 refine aG ?_
 refine aE ?_
 refine tr1 rfl (aJ (v := .d (.lit (.int .i64 0))) (aA rfl) rfl rfl) ?_
 refine aF ?_
 refine aG ?_
 refine aE ?_
 refine tr1 rfl (aJ (v := .d (.lit (.int .i64 0))) (aA rfl) rfl rfl) ?_
 refine aF ?_
 refine aG ?_
 refine aG ?_
 refine aE ?_
 refine tr1 rfl (aC (v := .d (.sl 1 (vals_0.map cE))) (aA rfl) rfl rfl) ?_
 refine tr1 rfl (cW (aA rfl) rfl eT.of) ?_
 refine tr1 rfl (aC (v := .d (.lit (.int .i64 0))) (aA rfl) rfl rfl) ?_
 refine aF ?_
 refine bQ ?_
 refine cI [3, 6, 7] (fun (s1 : Int) => [(8, .d (.lit (.int .i64 s1)))]) (fun (s1 : Int) => []) (fun (k : Nat) (s1 : Int) => kZ 0 vals_0 (vals_0.length : Int) k s1) (fun _ => rfl) (0) h (aW [] rfl rfl (aM rfl (aX ⟨rfl, rfl, rfl, trivial⟩))) ?_
 rintro k2 t8_0_1 h
 simp only [kZ] at h
 refine aG ?_
 refine aE ?_
 refine tr1 rfl (bB (aA rfl) rfl rfl rfl) ?_
 refine aF ?_
 refine aG ?_
 refine bI rfl (fun c3 => ?_) (fun c3 => ?_)
 ·have h := aR c3 h
  refine bG ?_
  refine aG ?_
  refine bQ ?_
  refine aG ?_
  refine aE ?_
  obtain ⟨x4, h5, h⟩ := bind_some h
  refine tr1 rfl (bM (aA rfl) rfl rfl eT.of (bH cE h5)) ?_
  refine tr1 rfl (bY (aA rfl) rfl bE) ?_
  refine tr1 rfl (aJ (v := .d (.lit (.int .i64 x4))) (aA rfl) rfl rfl) ?_
  refine aF ?_
  refine aG ?_
  refine aE ?_
  refine tr1 rfl (aC (v := .d (.lit (.int .i64 x4))) (aA rfl) rfl rfl) ?_
  refine tr1 rfl (aC (v := .d (.lit (.int .i64 0))) (aA rfl) rfl rfl) ?_
  refine tr1 rfl (bB (aA rfl) rfl rfl rfl) ?_
  refine aF ?_
  refine bI rfl (fun c6 => ?_) (fun c6 => ?_)
  ·have h := aR c6 h
   refine aG ?_
   refine aE ?_
   refine tr1 rfl (aC (v := .d (.lit (.int .i64 x4))) (aA rfl) rfl rfl) ?_
   refine tr1 rfl (aJ (v := .d (.lit (.int .i64 x4))) (aA rfl) rfl rfl) ?_
   refine aF ?_
   have h := Option.some.inj h
   subst h
   exact bL ⟨rfl, _, .one _, rfl, rfl⟩
  ·have h := aQ c6 h
   refine dH ?_
   refine aE ?_
   refine tr1 rfl (bA (aA rfl) rfl rfl rfl) ?_
   refine tr1 rfl (aC (v := .d (.lit (.int .i64 ((w64 (t8_0_1 + 1)))))) (aA rfl) rfl rfl) ?_
   refine aF ?_
   exact ⟨(w64 (t8_0_1 + 1)), h, aW [] rfl rfl (aM rfl (aX ⟨rfl, rfl, rfl, trivial⟩))⟩
 ·have h := aQ c3 h
  refine cP ?_
  refine .inl ⟨rfl, ?_⟩
  simp only [sT] at h
  refine aG ?_
  refine aE ?_
  refine tr1 rfl (aC (v := .d (.lit (.int .i64 0))) (aA rfl) rfl rfl) ?_
  refine tr1 rfl (aJ (v := .d (.lit (.int .i64 0))) (aA rfl) rfl rfl) ?_
  refine aF ?_
  have h := Option.some.inj h
  subst h
  exact bL ⟨rfl, _, .one _, rfl, rfl⟩

theorem wL (x_0 : aD) (y_1 : aD) {r : Int} (h : kA x_0 y_1 = some r) : Fn Tryz.prog 60 [.agg (aB x_0), .agg (aB y_1)] (.d (.lit (.int .i64 r))) := by
 unfold kA at h
 refine Fn.of_tr Tryz.func60 rfl (rs := [.tmp 4]) Tryz.results60 Tryz.ntmps60 (Nat.le_of_ble_eq_true rfl) ?_
 refine aG ?_
 refine aE ?_
 refine bW rfl (eG (v := .agg (aB x_0)) (aA rfl) rfl rfl rfl) ?_
 rintro _ ⟨b1, rfl⟩
 refine bW rfl (eG (v := .agg (aB y_1)) (aA rfl) rfl rfl rfl) ?_
 rintro _ ⟨b2, rfl⟩
 refine tr1 rfl (aJ (v := .d (.lit (.int .i64 0))) (aA rfl) rfl rfl) ?_
 refine aF ?_
 refine aG ?_
 refine bQ ?_
 refine aG ?_
 refine aE ?_
 refine tr1 rfl (aT (aA rfl) rfl jP) ?_
 refine tr1 rfl (aV (aA rfl) rfl (i := 0) rfl rfl nF) ?_
 refine tr1 rfl (aT (aA rfl) rfl jP) ?_
 refine tr1 rfl (aV (aA rfl) rfl (i := 1) rfl rfl nF) ?_
 refine tr1 rfl (aGv (aA rfl) rfl rfl Tryz.underlying4) ?_
 refine tr1 rfl (aC (v := .d (.lit (.bool ((!decide (x_0.Must = y_1.Must)))))) (aA rfl) rfl rfl) ?_
 obtain ⟨b3, h4, h⟩ := bind_some h
 refine bZ 3 [2, 3] 14 b3 ?_ ?_
 ·refine bF (!decide (x_0.Must = y_1.Must)) (fun c9 => ?_) (fun c9 => ?_)
  ·have h4 := aR c9 h4
   refine aL rfl rfl (aA rfl) rfl c9 (aT (aA rfl) rfl jP) ?_
   refine aL rfl rfl (aA rfl) rfl c9 (aV (aA rfl) rfl (i := 0) rfl rfl nF) ?_
   refine tr1 rfl (bN (v := .d (.lit (.bool x_0.Must))) (aA rfl) rfl c9 rfl rfl) ?_
   have h4 := Option.some.inj h4
   subst h4
   refine aF (aY rfl ⟨rfl, rfl, trivial⟩ rfl)
  ·have h4 := aQ c9 h4
   refine aN rfl rfl (aA rfl) rfl (aA rfl) rfl c9 ?_
   refine aN rfl rfl (aA rfl) rfl (aA rfl) rfl c9 ?_
   refine tr1 rfl (bO (v := .d (.lit (.bool false))) (aA rfl) rfl c9 rfl rfl) ?_
   have h4 := Option.some.inj h4
   subst h4
   refine aF (aY rfl ⟨rfl, rfl, trivial⟩ rfl)
 ·refine tr1 rfl (aJ (v := .d (.lit (.bool b3))) (aA rfl) rfl rfl) ?_
  refine aF ?_
  refine bI rfl (fun c5 => ?_) (fun c5 => ?_)
  ·have h := aR c5 h
   refine aG ?_
   refine aE ?_
   refine tr1 rfl (aJ (v := .d (.lit (.int .i64 (-1)))) (aA rfl) rfl rfl) ?_
   refine aF ?_
   have h := Option.some.inj h
   subst h
   refine cG (bX (cD (l := [4]) ⟨rfl, trivial⟩)) ?_
   exact bL ⟨rfl, _, .one _, rfl, rfl⟩
  ·have h := aQ c5 h
   refine aG ?_
   refine aE ?_
   refine tr1 rfl (aT (aA rfl) rfl jP) ?_
   refine tr1 rfl (aV (aA rfl) rfl (i := 0) rfl rfl nF) ?_
   refine tr1 rfl (aT (aA rfl) rfl jP) ?_
   refine tr1 rfl (aV (aA rfl) rfl (i := 1) rfl rfl nF) ?_
   refine tr1 rfl (aGv (aA rfl) rfl rfl Tryz.underlying4) ?_
   refine tr1 rfl (aJ (v := .d (.lit (.bool ((!decide (x_0.Must = y_1.Must)))))) (aA rfl) rfl rfl) ?_
   refine aF ?_
   refine bI rfl (fun c6 => ?_) (fun c6 => ?_)
   ·have h := aR c6 h
    refine aG ?_
    refine aE ?_
    refine tr1 rfl (aJ (v := .d (.lit (.int .i64 1))) (aA rfl) rfl rfl) ?_
    refine aF ?_
    have h := Option.some.inj h
    subst h
    refine cG (bX (cD (l := [4]) ⟨rfl, trivial⟩)) ?_
    exact bL ⟨rfl, _, .one _, rfl, rfl⟩
   ·have h := aQ c6 h
    refine dH ?_
    refine aG ?_
    refine aE ?_
    refine tr1 rfl (aT (aA rfl) rfl gW) ?_
    refine tr1 rfl (aV (aA rfl) rfl (i := 1) rfl rfl bE) ?_
    refine tr1 rfl (aT (aA rfl) rfl gW) ?_
    refine tr1 rfl (aV (aA rfl) rfl (i := 0) rfl rfl bE) ?_
    refine tr1 rfl (bA (aA rfl) rfl rfl rfl) ?_
    refine tr1 rfl (aT (aA rfl) rfl gV) ?_
    refine tr1 rfl (aV (aA rfl) rfl (i := 0) rfl rfl bE) ?_
    refine tr1 rfl (aT (aA rfl) rfl gV) ?_
    refine tr1 rfl (aV (aA rfl) rfl (i := 1) rfl rfl bE) ?_
    refine tr1 rfl (bA (aA rfl) rfl rfl rfl) ?_
    refine tr1 rfl (iH (aA rfl) eT rfl rfl (rows := ([w64 (y_1.Points - x_0.Points), w64 (x_0.Id - y_1.Id)]).map cE) rfl (cT (f := cE) fun _ => rfl) rfl (by decide)) ?_
    obtain ⟨r7, h8, h⟩ := bind_some h
    refine tr1 rfl (cB (aA rfl) (.func _ _ Tryz.call61) rfl rfl (BVs.refl _ _) (wS _ h8) rfl) ?_
    refine tr1 rfl (aJ (v := .d (.lit (.int .i64 r7))) (aA rfl) rfl rfl) ?_
    refine aF ?_
    have h := Option.some.inj h
    subst h
    refine cG (bX (cD (l := [4]) ⟨rfl, trivial⟩)) ?_
    exact bL ⟨rfl, _, .one _, rfl, rfl⟩

theorem pS (b_0 : cC) (all_1 : List aD) {r : (List aD)} (h : jS b_0 all_1 = some r) : Fn Tryz.prog 32 [.cp (cN b_0), .d (.sl 5 (all_1.map aB))] (.d (.sl 5 (r.map aB))) := by
 unfold jS at h
 refine Fn.of_tr Tryz.func32 rfl (rs := [.tmp 4]) Tryz.results32 Tryz.ntmps32 (Nat.le_of_ble_eq_true rfl) ?_
 refine aG ?_
 refine aE ?_
 refine tr1 rfl (nJ 5 (aA rfl)) ?_
 refine aF ?_
 refine aG ?_
 refine aE ?_
 refine tr1 rfl (aC (v := .d (.sl 5 (all_1.map aB))) (aA rfl) rfl rfl) ?_
 obtain ⟨r1, h2, h⟩ := bind_some h
 refine bW rfl (vX (aA rfl) (.func _ _ Tryz.call52) rfl rfl (oD _ h2)) ?_
 rintro _ ⟨v3, rfl⟩
 refine tr1 rfl (aJ (v := .d (.lit v3)) (aA rfl) rfl rfl) ?_
 refine aF ?_
 refine aG ?_
 refine aE ?_
 refine tr1 rfl (aC (v := .d (.lit v3)) (aA rfl) rfl rfl) ?_
 obtain ⟨r6, h7, h⟩ := bind_some h
 refine bW rfl (dI (passed := [.arr v3 43 5 (r1.map aB)]) (aA rfl) rfl (.func _ _ Tryz.call53) rfl rfl (lF r1 (fun y4 y5 => kA y4 y5) 60 [] Tryz.call60 (fun _ _ _ h => wL _ _ h) h7)) ?_
 rintro _ ⟨_, _, ⟨rfl, rfl⟩, rfl⟩
 refine aF ?_
 refine aG ?_
 refine aE ?_
 refine tr1 rfl (aJ (v := .d (.lit (.int .i64 0))) (aA rfl) rfl rfl) ?_
 refine aF ?_
 refine aG ?_
 refine aG ?_
 refine aE ?_
 refine tr1 rfl (aC (v := .d (.lit v3)) (aA rfl) rfl rfl) ?_
 refine tr1 rfl (lJ (m := 0) (aA rfl) rfl rfl bP.of) ?_
 refine tr1 rfl (aC (v := .d (.lit (.int .i64 0))) (aA rfl) rfl rfl) ?_
 refine aF ?_
 refine bQ ?_
 refine cI [0, 5, 13, 14] (fun (s8 : Int × Int) => [(6, .d (.lit (.int .i64 s8.1))), (15, .d (.lit (.int .i64 s8.2)))]) (fun (s8 : Int × Int) => [.arr v3 43 5 (r6.map aB)]) (fun (k : Nat) (s8 : Int × Int) => fV b_0 (r6.length : Int) r6 k s8.1 s8.2) (fun _ => rfl) (0, 0) h (aW [0] rfl rfl (aM rfl (aM rfl (aX ⟨rfl, rfl, rfl, rfl, trivial⟩)))) ?_
 rintro k9 ⟨musts_0_8, t15_0_8⟩ h
 simp only [fV] at h
 refine aG ?_
 refine aE ?_
 refine tr1 rfl (bB (aA rfl) rfl rfl rfl) ?_
 refine aF ?_
 refine aG ?_
 refine bI rfl (fun c10 => ?_) (fun c10 => ?_)
 ·have h := aR c10 h
  refine bG ?_
  refine aG ?_
  refine bQ ?_
  refine aG ?_
  refine aE ?_
  obtain ⟨x11, h12, h⟩ := bind_some h
  refine tr1 rfl (cM (m := 0) (aA rfl) rfl rfl rfl bP.of (bH aB h12)) ?_
  refine tr1 rfl (dB (aA rfl) rfl (l := 0) rfl (eC aB h12) dE (es := (aB x11)) rfl rfl) ?_
  refine bW rfl (fR (zs := [.lit (.int .i64 0), .lit (.int .i64 0), .lit (.int .i64 0), .lit (.int .i64 0), .lit (.bool false)]) (aA rfl) Tryz.zeroValue43 rfl rfl) ?_
  rintro _ ⟨b13, rfl⟩
  refine tr1 rfl (cJ (i := 1) rfl rfl rfl rfl rfl Tryz.sizeOf43 rfl (aA rfl) (Nat.le_of_ble_eq_true rfl) (ds' := (aB x11)) rfl) ?_
  refine aF ?_
  refine aG ?_
  refine aE ?_
  refine tr1 rfl (aT (aA rfl) rfl jP) ?_
  refine tr1 rfl (aV (aA rfl) rfl (i := 1) rfl rfl nF) ?_
  refine aF ?_
  refine bI rfl (fun c14 => ?_) (fun c14 => ?_)
  ·have h := aR c14 h
   refine aE ?_
   refine tr1 rfl (aC (v := .d (.lit (.int .i64 musts_0_8))) (aA rfl) rfl rfl) ?_
   refine tr1 rfl (bA (aA rfl) rfl rfl rfl) ?_
   refine tr1 rfl (aJ (v := .d (.lit (.int .i64 ((w64 (musts_0_8 + 1)))))) (aA rfl) rfl rfl) ?_
   refine dN ?_
   refine aE ?_
   refine tr1 rfl (bA (aA rfl) rfl rfl rfl) ?_
   refine tr1 rfl (aC (v := .d (.lit (.int .i64 ((w64 (t15_0_8 + 1)))))) (aA rfl) rfl rfl) ?_
   refine aF ?_
   exact ⟨(w64 (musts_0_8 + 1), w64 (t15_0_8 + 1)), h, aW [0] rfl rfl (aM rfl (aM rfl (aX ⟨rfl, rfl, rfl, rfl, trivial⟩)))⟩
  ·have h := aQ c14 h
   refine dH ?_
   refine aE ?_
   refine tr1 rfl (bA (aA rfl) rfl rfl rfl) ?_
   refine tr1 rfl (aC (v := .d (.lit (.int .i64 ((w64 (t15_0_8 + 1)))))) (aA rfl) rfl rfl) ?_
   refine aF ?_
   exact ⟨(musts_0_8, w64 (t15_0_8 + 1)), h, aW [0] rfl rfl (aM rfl (aM rfl (aX ⟨rfl, rfl, rfl, rfl, trivial⟩)))⟩
 ·have h := aQ c10 h
  refine cP ?_
  refine .inl ⟨rfl, ?_⟩
  simp only [kV] at h
  refine aG ?_
  refine aE ?_
  refine tr1 rfl (aC (v := .d (.lit v3)) (aA rfl) rfl rfl) ?_
  refine tr1 rfl (aC (v := .d (.lit v3)) (aA rfl) rfl rfl) ?_
  refine tr1 rfl (lJ (m := 0) (aA rfl) rfl rfl bP.of) ?_
  refine tr1 rfl (aC (v := .d (.lit (.int .i64 musts_0_8))) (aA rfl) rfl rfl) ?_
  refine tr1 rfl (aC (v := .cp [.lit (.int .i64 b_0.Ledger.Players), .lit (.int .i64 b_0.Ledger.Counts), .sl 5 (b_0.Ledger.Reports.map aB), .sl 3 (b_0.Ledger.Bans.map aK), .sl 3 (b_0.Ledger.Frozen.map aK)]) (aA rfl) rfl rfl) ?_
  refine tr1 rfl (pL (aA rfl) rfl) ?_
  refine tr1 rfl (cA (aA rfl) rfl gM (es := [.lit (.int .i64 b_0.Ledger.Players), .lit (.int .i64 b_0.Ledger.Counts), .sl 5 (b_0.Ledger.Reports.map aB), .sl 3 (b_0.Ledger.Bans.map aK), .sl 3 (b_0.Ledger.Frozen.map aK)]) rfl) ?_
  refine tr1 rfl (cA (aA rfl) rfl rV (es := [.lit (.int .i64 b_0.Ledger.Counts)]) rfl) ?_
  refine tr1 rfl (bY (aA rfl) rfl bE) ?_
  refine tr1 rfl (aBg (aA rfl) rfl rfl) ?_
  refine tr1 rfl (aEo (aA rfl) rfl rfl) ?_
  refine eW (xS [] [.arr v3 43 5 (r6.map aB)] rfl (fH (k := 25) (v := .d (.sl 5 (r6.map aB))) (.d (gE 0 rfl (cT (f := aB) fun _ => rfl))) (fH (k := 24) (v := .d (.sl 5 (r6.map aB))) (.d (gE 0 rfl (cT (f := aB) fun _ => rfl))) (fH (k := 13) (v := .d (.sl 5 (r6.map aB))) (.d (gE 0 rfl (cT (f := aB) fun _ => rfl))) (fH (k := 5) (v := .d (.sl 5 (r6.map aB))) (.d (gE 0 rfl (cT (f := aB) fun _ => rfl))) (qI _ _)))))) ?_
  obtain ⟨x15, h16, h⟩ := bind_some h
  refine tr1 rfl (mO (aA rfl) bP.of rfl rfl rfl (pM aB h16)) ?_
  refine tr1 rfl (aJ (v := .d (.sl 5 (x15.map aB))) (aA rfl) rfl rfl) ?_
  refine aF ?_
  have h := Option.some.inj h
  subst h
  exact bL ⟨rfl, _, .one _, rfl, rfl⟩

theorem zP (l_0 : List aD) {r : Int} (h : sB l_0 = some r) : Fn Tryz.prog 65 [.d (.sl 5 (l_0.map aB))] (.d (.lit (.int .i64 r))) := by
 unfold sB at h
 refine Fn.of_tr Tryz.func65 rfl (rs := [.tmp 2]) Tryz.results65 Tryz.ntmps65 (Nat.le_of_ble_eq_true rfl) ?_
 refine aG ?_
 refine aE ?_
 refine tr1 rfl (aJ (v := .d (.lit (.int .i64 0))) (aA rfl) rfl rfl) ?_
 refine aF ?_
 refine aG ?_
 refine aG ?_
 refine aE ?_
 refine tr1 rfl (aC (v := .d (.sl 5 (l_0.map aB))) (aA rfl) rfl rfl) ?_
 refine tr1 rfl (cW (aA rfl) rfl bP.of) ?_
 refine tr1 rfl (aC (v := .d (.lit (.int .i64 0))) (aA rfl) rfl rfl) ?_
 refine aF ?_
 refine bQ ?_
 refine cI [5, 6] (fun (s1 : Int × Int) => [(2, .d (.lit (.int .i64 s1.1))), (7, .d (.lit (.int .i64 s1.2)))]) (fun (s1 : Int × Int) => []) (fun (k : Nat) (s1 : Int × Int) => nC l_0 (l_0.length : Int) k s1.1 s1.2) (fun _ => rfl) (0, 0) h (aW [] rfl rfl (aM rfl (aM rfl (aX ⟨rfl, rfl, trivial⟩)))) ?_
 rintro k2 ⟨n_0_1, t7_0_1⟩ h
 simp only [nC] at h
 refine aG ?_
 refine aE ?_
 refine tr1 rfl (bB (aA rfl) rfl rfl rfl) ?_
 refine aF ?_
 refine aG ?_
 refine bI rfl (fun c3 => ?_) (fun c3 => ?_)
 ·have h := aR c3 h
  refine bG ?_
  refine aG ?_
  refine bQ ?_
  refine aG ?_
  refine aE ?_
  obtain ⟨x4, h5, h⟩ := bind_some h
  refine tr1 rfl (bM (aA rfl) rfl rfl bP.of (bH aB h5)) ?_
  refine tr1 rfl (dZ (aA rfl) rfl dE (es := (aB x4)) rfl rfl) ?_
  refine bW rfl (fR (zs := [.lit (.int .i64 0), .lit (.int .i64 0), .lit (.int .i64 0), .lit (.int .i64 0), .lit (.bool false)]) (aA rfl) Tryz.zeroValue43 rfl rfl) ?_
  rintro _ ⟨b6, rfl⟩
  refine tr1 rfl (cJ (i := 0) rfl rfl rfl rfl rfl Tryz.sizeOf43 rfl (aA rfl) (Nat.le_of_ble_eq_true rfl) (ds' := (aB x4)) rfl) ?_
  refine aF ?_
  refine aE ?_
  refine tr1 rfl (aC (v := .d (.lit (.int .i64 n_0_1))) (aA rfl) rfl rfl) ?_
  refine tr1 rfl (aT (aA rfl) rfl gW) ?_
  refine tr1 rfl (aV (aA rfl) rfl (i := 0) rfl rfl bE) ?_
  refine tr1 rfl (bA (aA rfl) rfl rfl rfl) ?_
  refine tr1 rfl (aJ (v := .d (.lit (.int .i64 ((w64 (n_0_1 + x4.Points)))))) (aA rfl) rfl rfl) ?_
  refine dN ?_
  refine aE ?_
  refine tr1 rfl (bA (aA rfl) rfl rfl rfl) ?_
  refine tr1 rfl (aC (v := .d (.lit (.int .i64 ((w64 (t7_0_1 + 1)))))) (aA rfl) rfl rfl) ?_
  refine aF ?_
  exact ⟨(w64 (n_0_1 + x4.Points), w64 (t7_0_1 + 1)), h, aW [] rfl rfl (aM rfl (aM rfl (aX ⟨rfl, rfl, trivial⟩)))⟩
 ·have h := aQ c3 h
  refine cP ?_
  refine .inl ⟨rfl, ?_⟩
  simp only [uU] at h
  refine aG ?_
  refine aE ?_
  refine tr1 rfl (aC (v := .d (.lit (.int .i64 n_0_1))) (aA rfl) rfl rfl) ?_
  refine tr1 rfl (aJ (v := .d (.lit (.int .i64 n_0_1))) (aA rfl) rfl rfl) ?_
  refine aF ?_
  have h := Option.some.inj h
  subst h
  exact bL ⟨rfl, _, .one _, rfl, rfl⟩

theorem zK (x : Int) {r : Int} (h : wE x = some r) : Fn Tryz.prog 63 [.d (.lit (.int .u64 x))] (.d (.lit (.int .i64 r))) := aGz (fun x w => Tryz.bits_Len x w) h

theorem oE (data_0 : List bJ) (a_1 : Int) (b_2 : Int) (cmp_3 : bJ → bJ → Option Int) {r : (List bJ)} {data_0_v : Value} (cmp_3_f : Nat) (cmp_3_v : List AV) (cmp_3_e : ∀ args w, (callFunc cmp_3_f args).run Tryz.prog w = .ok (.enter cmp_3_f args) w) (cmp_3_h : ∀ (x0 : bJ) (x1 : bJ) r, cmp_3 x0 x1 = some r → Fn Tryz.prog cmp_3_f ([.agg (bR x0), .agg (bR x1)] ++ cmp_3_v) (.d (.lit (.int .i64 r)))) (h : hB data_0 a_1 b_2 cmp_3 = some r) : fN Tryz.prog 97 [.d (.lit data_0_v), .d (.lit (.int .i64 a_1)), .d (.lit (.int .i64 b_2)), .fn cmp_3_f cmp_3_v] [.arr data_0_v 91 4 (data_0.map bR)] (fun r' o' => r' = .tup [] ∧ o' = [.arr data_0_v 91 4 (r.map bR)]) := by
 unfold hB at h
 refine jB Tryz.func97 rfl (rs := []) Tryz.results97 Tryz.ntmps97 (Nat.le_of_ble_eq_true rfl) ?_
 refine aG ?_
 refine aE ?_
 refine tr1 rfl (aC (v := .d (.lit (.int .i64 a_1))) (aA rfl) rfl rfl) ?_
 refine tr1 rfl (bA (aA rfl) rfl rfl rfl) ?_
 refine tr1 rfl (aJ (v := .d (.lit (.int .i64 ((w64 (a_1 + 1)))))) (aA rfl) rfl rfl) ?_
 refine aF ?_
 refine bQ ?_
 refine cI [1, 2, 3] (fun (s1 : Int × (List bJ)) => [(0, .d (.lit data_0_v)), (8, .d (.lit (.int .i64 s1.1)))]) (fun (s1 : Int × (List bJ)) => [.arr data_0_v 91 4 (s1.2.map bR)]) (fun (k : Nat) (s1 : Int × (List bJ)) => eJ a_1 b_2 cmp_3 k s1.1 s1.2) (fun _ => rfl) (w64 (a_1 + 1), data_0) h (aW [0] rfl rfl (aM rfl (aM rfl (aX ⟨rfl, rfl, rfl, trivial⟩)))) ?_
 rintro k2 ⟨i_0_1, data_0_1⟩ h
 simp only [eJ] at h
 refine aG ?_
 refine aG ?_
 refine aE ?_
 refine tr1 rfl (aC (v := .d (.lit (.int .i64 i_0_1))) (aA rfl) rfl rfl) ?_
 refine tr1 rfl (aC (v := .d (.lit (.int .i64 b_2))) (aA rfl) rfl rfl) ?_
 refine tr1 rfl (bB (aA rfl) rfl rfl rfl) ?_
 refine aF ?_
 refine bI rfl (fun c3 => ?_) (fun c3 => ?_)
 ·have h := aR c3 h
  refine bG ?_
  refine aG ?_
  refine bQ ?_
  refine aG ?_
  refine aE ?_
  refine tr1 rfl (aC (v := .d (.lit (.int .i64 i_0_1))) (aA rfl) rfl rfl) ?_
  refine tr1 rfl (aJ (v := .d (.lit (.int .i64 i_0_1))) (aA rfl) rfl rfl) ?_
  refine aF ?_
  refine xU ?_
  refine cI [1, 2, 3, 8] (fun (s4 : Int × (List bJ)) => [(0, .d (.lit data_0_v)), (9, .d (.lit (.int .i64 s4.1)))]) (fun (s4 : Int × (List bJ)) => [.arr data_0_v 91 4 (s4.2.map bR)]) (fun (k : Nat) (s4 : Int × (List bJ)) => fI (eJ a_1 b_2 cmp_3 k2) a_1 b_2 cmp_3 i_0_1 k s4.1 s4.2) (fun _ => rfl) (i_0_1, data_0_1) h (aW [0] rfl rfl (aM rfl (aM rfl (aX ⟨rfl, rfl, rfl, rfl, trivial⟩)))) ?_
  rintro k5 ⟨j_2_4, data_2_4⟩ h
  simp only [fI] at h
  refine aG ?_
  refine aG ?_
  obtain ⟨b6, h7, h⟩ := bind_some h
  refine fA mix 17 [0, 1, 2, 3, 8, 9] [(34, .d (.lit (.bool b6)))] ?_ ?_
  ·refine bF (decide (a_1 < j_2_4)) (fun c8 => ?_) (fun c8 => ?_)
   ·have h7 := aR c8 h7
    obtain ⟨x9, h10, h7⟩ := bind_some h7
    obtain ⟨x11, h12, h7⟩ := bind_some h7
    obtain ⟨r13, h14, h7⟩ := bind_some h7
    have h7 := Option.some.inj h7
    subst h7
    refine ⟨[(18, 0, .d (.lit (.int .i64 j_2_4))), (19, 1, .d (.lit (.int .i64 a_1))), (20, 2, .d (.lit (.bool ((decide (a_1 < j_2_4)))))), (21, 3, .d (.lit (.bool ((decide (a_1 < j_2_4)))))), (22, 4, .fn cmp_3_f cmp_3_v), (23, 5, .d (.lit data_0_v)), (24, 6, .d (.lit (.int .i64 j_2_4))), (25, 7, .ep data_0_v 4 j_2_4.toNat 0), (26, 8, .agg (bR x9)), (27, 9, .d (.lit data_0_v)), (28, 10, .d (.lit (.int .i64 j_2_4))), (29, 11, .d (.lit (.int .i64 ((w64 (j_2_4 - 1)))))), (30, 12, .ep data_0_v 4 (w64 (j_2_4 - 1)).toNat 0), (31, 13, .agg (bR x11)), (32, 14, .d (.lit (.int .i64 r13))), (33, 15, .d (.lit (.bool ((decide (r13 < 0)))))), (34, 16, .d (.lit (.bool ((decide (r13 < 0))))))], ?_, ?_⟩
    · exact ⟨by kernel_rfl, by kernel_rfl, by kernel_rfl, by kernel_rfl, by kernel_rfl, [([], []), ([], []), ([0, 1], []), ([2], []), ([3], []), ([3], []), ([3], []), ([3, 5, 6], []), ([3, 7], []), ([3], []), ([3], []), ([3, 10], []), ([3, 9, 11], []), ([3, 12], []), ([3, 4, 8, 13], []), ([3, 14], []), ([3, 15], [])], by kernel_rfl, ⟨fun S hS => aI rfl (aP rfl (aC (v := .d (.lit (.int .i64 j_2_4))) (aA rfl) (aH hS rfl) rfl)),
      fun S hS => aI rfl (aP rfl (aC (v := .d (.lit (.int .i64 a_1))) (aA rfl) (aH hS rfl) rfl)),
      fun S hS => aI rfl (aP rfl (bB (aA rfl) (aH hS rfl) (aH hS rfl) rfl)),
      fun S hS => aI rfl (aP rfl (aC (v := .d (.lit (.bool ((decide (a_1 < j_2_4)))))) (aA rfl) (aH hS rfl) rfl)),
      fun S hS => aI rfl (aZ rfl rfl (aA rfl) (aO hS rfl) c8 (aC (v := .fn cmp_3_f cmp_3_v) (aA rfl) (aH hS rfl) rfl)),
      fun S hS => aI rfl (aZ rfl rfl (aA rfl) (aO hS rfl) c8 (aC (v := .d (.lit data_0_v)) (aA rfl) (aH hS rfl) rfl)),
      fun S hS => aI rfl (aZ rfl rfl (aA rfl) (aO hS rfl) c8 (aC (v := .d (.lit (.int .i64 j_2_4))) (aA rfl) (aH hS rfl) rfl)),
      fun S hS => aI rfl (aZ rfl rfl (aA rfl) (aO hS rfl) c8 (cM (m := 0) (aA rfl) (aH hS rfl) rfl (aH hS rfl) rJ.of (bH bR h10))),
      fun S hS => aI rfl (aZ rfl rfl (aA rfl) (aO hS rfl) c8 (dB (aA rfl) (aH hS rfl) (l := 0) rfl (eC bR h10) uY (es := (bR x9)) rfl rfl)),
      fun S hS => aI rfl (aZ rfl rfl (aA rfl) (aO hS rfl) c8 (aC (v := .d (.lit data_0_v)) (aA rfl) (aH hS rfl) rfl)),
      fun S hS => aI rfl (aZ rfl rfl (aA rfl) (aO hS rfl) c8 (aC (v := .d (.lit (.int .i64 j_2_4))) (aA rfl) (aH hS rfl) rfl)),
      fun S hS => aI rfl (aZ rfl rfl (aA rfl) (aO hS rfl) c8 (bA (aA rfl) (aH hS rfl) rfl rfl)),
      fun S hS => aI rfl (aZ rfl rfl (aA rfl) (aO hS rfl) c8 (cM (m := 0) (aA rfl) (aH hS rfl) rfl (aH hS rfl) rJ.of (bH bR h12))),
      fun S hS => aI rfl (aZ rfl rfl (aA rfl) (aO hS rfl) c8 (dB (aA rfl) (aH hS rfl) (l := 0) rfl (eC bR h12) uY (es := (bR x11)) rfl rfl)),
      fun S hS => aI rfl (aZ rfl rfl (aA rfl) (aO hS rfl) c8 (cB (aA rfl) (.clo _ _ _ _ cmp_3_e (aO hS rfl)) (tP (ev2 (aH hS rfl) (ev2 (aH hS rfl) evn))) rfl (BVs.refl _ _) (cmp_3_h _ _ _  h14) rfl)),
      fun S hS => aI rfl (aZ rfl rfl (aA rfl) (aO hS rfl) c8 (bB (aA rfl) (aH hS rfl) rfl rfl)),
      fun S hS => aI rfl (aP rfl (bN (v := .d (.lit (.bool ((decide (r13 < 0)))))) (aA rfl) (aH hS rfl) c8 (aH hS rfl) rfl)), trivial⟩⟩
    · exact dJ (aM rfl (aX ⟨rfl, rfl, rfl, rfl, rfl, rfl, trivial⟩))
   ·have h7 := aQ c8 h7
    have h7 := Option.some.inj h7
    subst h7
    refine ⟨[(18, 0, .d (.lit (.int .i64 j_2_4))), (19, 1, .d (.lit (.int .i64 a_1))), (20, 2, .d (.lit (.bool ((decide (a_1 < j_2_4)))))), (21, 3, .d (.lit (.bool ((decide (a_1 < j_2_4)))))), (22, 4, .tup []), (23, 5, .tup []), (24, 6, .tup []), (25, 7, .tup []), (26, 8, .tup []), (27, 9, .tup []), (28, 10, .tup []), (29, 11, .tup []), (30, 12, .tup []), (31, 13, .tup []), (32, 14, .tup []), (33, 15, .tup []), (34, 16, .d (.lit (.bool false)))], ?_, ?_⟩
    · exact ⟨by kernel_rfl, by kernel_rfl, by kernel_rfl, by kernel_rfl, by kernel_rfl, [([], []), ([], []), ([0, 1], []), ([2], []), ([3], []), ([3], []), ([3], []), ([3, 5, 6], []), ([3, 7], []), ([3], []), ([3], []), ([3, 10], []), ([3, 9, 11], []), ([3, 12], []), ([3, 4, 8, 13], []), ([3, 14], []), ([3, 15], [])], by kernel_rfl, ⟨fun S hS => aI rfl (aP rfl (aC (v := .d (.lit (.int .i64 j_2_4))) (aA rfl) (aH hS rfl) rfl)),
      fun S hS => aI rfl (aP rfl (aC (v := .d (.lit (.int .i64 a_1))) (aA rfl) (aH hS rfl) rfl)),
      fun S hS => aI rfl (aP rfl (bB (aA rfl) (aH hS rfl) (aH hS rfl) rfl)),
      fun S hS => aI rfl (aP rfl (aC (v := .d (.lit (.bool ((decide (a_1 < j_2_4)))))) (aA rfl) (aH hS rfl) rfl)),
      fun S hS => aI rfl (bD rfl rfl (aA rfl) rfl (aA rfl) (aO hS rfl) c8),
      fun S hS => aI rfl (bD rfl rfl (aA rfl) rfl (aA rfl) (aO hS rfl) c8),
      fun S hS => aI rfl (bD rfl rfl (aA rfl) rfl (aA rfl) (aO hS rfl) c8),
      fun S hS => aI rfl (bD rfl rfl (aA rfl) rfl (aA rfl) (aO hS rfl) c8),
      fun S hS => aI rfl (bD rfl rfl (aA rfl) rfl (aA rfl) (aO hS rfl) c8),
      fun S hS => aI rfl (bD rfl rfl (aA rfl) rfl (aA rfl) (aO hS rfl) c8),
      fun S hS => aI rfl (bD rfl rfl (aA rfl) rfl (aA rfl) (aO hS rfl) c8),
      fun S hS => aI rfl (bD rfl rfl (aA rfl) rfl (aA rfl) (aO hS rfl) c8),
      fun S hS => aI rfl (bD rfl rfl (aA rfl) rfl (aA rfl) (aO hS rfl) c8),
      fun S hS => aI rfl (bD rfl rfl (aA rfl) rfl (aA rfl) (aO hS rfl) c8),
      fun S hS => aI rfl (bD rfl rfl (aA rfl) rfl (aA rfl) (aO hS rfl) c8),
      fun S hS => aI rfl (bD rfl rfl (aA rfl) rfl (aA rfl) (aO hS rfl) c8),
      fun S hS => aI rfl (aP rfl (bO (v := .d (.lit (.bool false))) (aA rfl) (aH hS rfl) c8 rfl rfl)), trivial⟩⟩
    · exact dJ (aM rfl (aX ⟨rfl, rfl, rfl, rfl, rfl, rfl, trivial⟩))
  ·refine aF ?_
   refine bI rfl (fun c15 => ?_) (fun c15 => ?_)
   ·have h := aR c15 h
    refine bG ?_
    refine aG ?_
    refine bQ ?_
    obtain ⟨x17, h18, h⟩ := bind_some h
    obtain ⟨x19, h20, h⟩ := bind_some h
    obtain ⟨x21, h22, h⟩ := bind_some h
    refine mQ mix 16 [0, 1, 2, 3, 8, 9] (fun X16 => [(39, .d (.lit data_0_v)), (41, .d (.lit (.int .i64 ((w64 (j_2_4 - 1)))))), (50, .agg (bR x19))]) (fun X16 => [.arr data_0_v 91 4 ((data_2_4.set j_2_4.toNat x17).map bR)]) ?_ ?_
    ·refine ⟨0, fun X16 => [(37, 0, .d (.lit data_0_v)), (38, 1, .d (.lit (.int .i64 j_2_4))), (39, 2, .d (.lit data_0_v)), (40, 3, .d (.lit (.int .i64 j_2_4))), (41, 4, .d (.lit (.int .i64 ((w64 (j_2_4 - 1)))))), (42, 5, .d (.lit data_0_v)), (43, 6, .d (.lit (.int .i64 j_2_4))), (44, 7, .d (.lit (.int .i64 ((w64 (j_2_4 - 1)))))), (45, 8, .ep data_0_v 4 (w64 (j_2_4 - 1)).toNat 0), (46, 9, .agg (bR x17)), (47, 10, .d (.lit data_0_v)), (48, 11, .d (.lit (.int .i64 j_2_4))), (49, 12, .ep data_0_v 4 j_2_4.toNat 0), (50, 13, .agg (bR x19)), (51, 14, .ep data_0_v 4 j_2_4.toNat 0)], fun X16 => [([(15, .arr data_0_v 91 4 ((data_2_4.set j_2_4.toNat x17).map bR))], .arr data_0_v 91 4 (data_2_4.map bR))], ?_, ?_⟩
     · exact ⟨by kernel_rfl, by kernel_rfl, by kernel_rfl, fun _ => by kernel_rfl, fun _ => by kernel_rfl, fun _ => by kernel_rfl, fun _ => rfl, [([], [15]), ([], [15]), ([], []), ([], []), ([3], []), ([], [15]), ([], [15]), ([6], [15]), ([5, 7], [15]), ([8], [15]), ([], [15]), ([], [15]), ([10, 11], [15]), ([12], [15]), ([0, 1], [15]), ([9, 14], [])], by kernel_rfl, ⟨fun X16 S hw hi hS => bT (X := X16) rfl (hw X16) rfl (aP rfl (aC (v := .d (.lit data_0_v)) (aA rfl) (aH hS rfl) rfl)),
      fun X16 S hw hi hS => bT (X := X16) rfl (hw X16) rfl (aP rfl (aC (v := .d (.lit (.int .i64 j_2_4))) (aA rfl) (aH hS rfl) rfl)),
      fun X16 S hw hi hS => bT (X := X16) rfl (hw X16) rfl (aP rfl (aC (v := .d (.lit data_0_v)) (aA rfl) (aH hS rfl) rfl)),
      fun X16 S hw hi hS => bT (X := X16) rfl (hw X16) rfl (aP rfl (aC (v := .d (.lit (.int .i64 j_2_4))) (aA rfl) (aH hS rfl) rfl)),
      fun X16 S hw hi hS => bT (X := X16) rfl (hw X16) rfl (aP rfl (bA (aA rfl) (aH hS rfl) rfl rfl)),
      fun X16 S hw hi hS => bT (X := X16) rfl (hw X16) rfl (aP rfl (aC (v := .d (.lit data_0_v)) (aA rfl) (aH hS rfl) rfl)),
      fun X16 S hw hi hS => bT (X := X16) rfl (hw X16) rfl (aP rfl (aC (v := .d (.lit (.int .i64 j_2_4))) (aA rfl) (aH hS rfl) rfl)),
      fun X16 S hw hi hS => bT (X := X16) rfl (hw X16) rfl (aP rfl (bA (aA rfl) (aH hS rfl) rfl rfl)),
      fun X16 S hw hi hS => bT (X := X16) rfl (hw X16) rfl (aP rfl (cM (m := 0) (aA rfl) (aH hS rfl) (og hS rfl rfl) (aH hS rfl) rJ.of (bH bR h18))),
      fun X16 S hw hi hS => bT (X := X16) rfl (hw X16) rfl (aP rfl (dB (aA rfl) (aH hS rfl) (l := 0) (og hS rfl rfl) (eC bR h18) uY (es := (bR x17)) rfl rfl)),
      fun X16 S hw hi hS => bT (X := X16) rfl (hw X16) rfl (aP rfl (aC (v := .d (.lit data_0_v)) (aA rfl) (aH hS rfl) rfl)),
      fun X16 S hw hi hS => bT (X := X16) rfl (hw X16) rfl (aP rfl (aC (v := .d (.lit (.int .i64 j_2_4))) (aA rfl) (aH hS rfl) rfl)),
      fun X16 S hw hi hS => bT (X := X16) rfl (hw X16) rfl (aP rfl (cM (m := 0) (aA rfl) (aH hS rfl) (og hS rfl rfl) (aH hS rfl) rJ.of (bH bR h20))),
      fun X16 S hw hi hS => bT (X := X16) rfl (hw X16) rfl (aP rfl (dB (aA rfl) (aH hS rfl) (l := 0) (og hS rfl rfl) (eC bR h20) uY (es := (bR x19)) rfl rfl)),
      fun X16 S hw hi hS => bT (X := X16) rfl (hw X16) rfl (aP rfl (cM (m := 0) (aA rfl) (aH hS rfl) (og hS rfl rfl) (aH hS rfl) rJ.of (bH bR h22))),
      fun X16 S hw hi hS => qW (X := X16) hS rfl rfl rfl (p := 0) rfl rfl (aP rfl (jH (l := 0) (aH hS rfl) (og hS rfl rfl) (eC bR h22) (aH hS rfl) rfl rfl Tryz.sizeOf91 rfl (aA rfl) (Nat.le_of_ble_eq_true rfl) (rows' := ((data_2_4.set j_2_4.toNat x17)).map bR) (mB _ _ _ _ rfl))), trivial⟩⟩
     · exact fun X16 => dJ (aM rfl (aM rfl (aM rfl (aX ⟨rfl, rfl, rfl, rfl, rfl, rfl, trivial⟩))))
    ·intro X16
     obtain ⟨x23, h24, h⟩ := bind_some h
     refine tr1 rfl (cM (m := 0) (aA rfl) rfl rfl rfl rJ.of (bH bR h24)) ?_
     refine tr1 rfl (jH (l := 0) rfl rfl (eC bR h24) rfl rfl rfl Tryz.sizeOf91 rfl (aA rfl) (Nat.le_of_ble_eq_true rfl) (rows' := (((data_2_4.set j_2_4.toNat x17).set (w64 (j_2_4 - 1)).toNat x19)).map bR) (mB _ _ _ _ rfl)) ?_
     refine dN ?_
     refine aE ?_
     refine tr1 rfl (aC (v := .d (.lit (.int .i64 j_2_4))) (aA rfl) rfl rfl) ?_
     refine tr1 rfl (bA (aA rfl) rfl rfl rfl) ?_
     refine tr1 rfl (aJ (v := .d (.lit (.int .i64 ((w64 (j_2_4 - 1)))))) (aA rfl) rfl rfl) ?_
     refine aF ?_
     exact ⟨(w64 (j_2_4 - 1), ((data_2_4.set j_2_4.toNat x17).set (w64 (j_2_4 - 1)).toNat x19)), h, aW [0] rfl rfl (aM rfl (aM rfl (aX ⟨rfl, rfl, rfl, rfl, trivial⟩)))⟩
   ·have h := aQ c15 h
    refine cP ?_
    refine .inl ⟨rfl, ?_⟩
    simp only [jX] at h
    simp only [jW] at h
    refine aE ?_
    refine tr1 rfl (aC (v := .d (.lit (.int .i64 i_0_1))) (aA rfl) rfl rfl) ?_
    refine tr1 rfl (bA (aA rfl) rfl rfl rfl) ?_
    refine tr1 rfl (aJ (v := .d (.lit (.int .i64 ((w64 (i_0_1 + 1)))))) (aA rfl) rfl rfl) ?_
    refine aF ?_
    exact ⟨(w64 (i_0_1 + 1), data_2_4), h, aW [0] rfl rfl (aM rfl (aM rfl (aX ⟨rfl, rfl, rfl, trivial⟩)))⟩
 ·have h := aQ c3 h
  refine cP ?_
  refine .inl ⟨rfl, ?_⟩
  simp only [jV] at h
  have h := Option.some.inj h
  subst h
  exact ⟨_, [.arr data_0_v 91 4 (data_0_1.map bR)], [], _, .none, .refl _, .same _, rfl, rfl⟩

theorem qA (data_0 : List bJ) (a_1 : Int) (b_2 : Int) (limit_3 : Int) (cmp_4 : bJ → bJ → Option Int) {r : (List bJ)} {data_0_v : Value} (cmp_4_f : Nat) (cmp_4_v : List AV) (cmp_4_e : ∀ args w, (callFunc cmp_4_f args).run Tryz.prog w = .ok (.enter cmp_4_f args) w) (cmp_4_h : ∀ (x0 : bJ) (x1 : bJ) r, cmp_4 x0 x1 = some r → Fn Tryz.prog cmp_4_f ([.agg (bR x0), .agg (bR x1)] ++ cmp_4_v) (.d (.lit (.int .i64 r)))) (h : jM data_0 a_1 b_2 limit_3 cmp_4 = some r) : fN Tryz.prog 87 [.d (.lit data_0_v), .d (.lit (.int .i64 a_1)), .d (.lit (.int .i64 b_2)), .d (.lit (.int .i64 limit_3)), .fn cmp_4_f cmp_4_v] [.arr data_0_v 91 4 (data_0.map bR)] (fun r' o' => r' = .tup [] ∧ o' = [.arr data_0_v 91 4 (r.map bR)]) := by
 unfold jM at h
 refine jB Tryz.func87 rfl (rs := []) Tryz.results87 Tryz.ntmps87 (Nat.le_of_ble_eq_true rfl) ?_
 refine aG ?_
 refine aE ?_
 refine tr1 rfl (aJ (v := .d (.lit (.bool true))) (aA rfl) rfl rfl) ?_
 refine aF ?_
 refine aG ?_
 refine aE ?_
 refine tr1 rfl (aJ (v := .d (.lit (.bool true))) (aA rfl) rfl rfl) ?_
 refine aF ?_
 refine bQ ?_
 refine cI [4] (fun (s1 : Int × Int × Int × Bool × Bool × (List bJ)) => [(0, .d (.lit data_0_v)), (1, .d (.lit (.int .i64 s1.1))), (2, .d (.lit (.int .i64 s1.2.1))), (3, .d (.lit (.int .i64 s1.2.2.1))), (10, .d (.lit (.bool s1.2.2.2.1))), (11, .d (.lit (.bool s1.2.2.2.2.1)))]) (fun (s1 : Int × Int × Int × Bool × Bool × (List bJ)) => [.arr data_0_v 91 4 (s1.2.2.2.2.2.map bR)]) (fun (k : Nat) (s1 : Int × Int × Int × Bool × Bool × (List bJ)) => iR cmp_4 k s1.1 s1.2.1 s1.2.2.1 s1.2.2.2.1 s1.2.2.2.2.1 s1.2.2.2.2.2) (fun _ => rfl) (a_1, b_2, limit_3, true, true, data_0) h (aW [0] rfl rfl (aM rfl (aM rfl (aM rfl (aM rfl (aM rfl (aM rfl (aX ⟨rfl, trivial⟩)))))))) ?_
 rintro k2 ⟨a_0_1, b_0_1, limit_0_1, wasBalanced_0_1, wasPartitioned_0_1, data_0_1⟩ h
 simp only [iR] at h
 refine bQ ?_
 refine aG ?_
 refine aE ?_
 refine tr1 rfl (aC (v := .d (.lit (.int .i64 b_0_1))) (aA rfl) rfl rfl) ?_
 refine tr1 rfl (aC (v := .d (.lit (.int .i64 a_0_1))) (aA rfl) rfl rfl) ?_
 refine tr1 rfl (bA (aA rfl) rfl rfl rfl) ?_
 refine tr1 rfl (aJ (v := .d (.lit (.int .i64 ((w64 (b_0_1 - a_0_1)))))) (aA rfl) rfl rfl) ?_
 refine aF ?_
 refine aG ?_
 refine aG ?_
 refine aE ?_
 refine tr1 rfl (aC (v := .d (.lit (.int .i64 ((w64 (b_0_1 - a_0_1)))))) (aA rfl) rfl rfl) ?_
 refine tr1 rfl (bB (aA rfl) rfl rfl rfl) ?_
 refine aF ?_
 refine bI rfl (fun c3 => ?_) (fun c3 => ?_)
 ·have h := aR c3 h
  refine aG ?_
  refine aE ?_
  refine tr1 rfl (aC (v := .d (.lit data_0_v)) (aA rfl) rfl rfl) ?_
  refine tr1 rfl (aC (v := .d (.lit (.int .i64 a_0_1))) (aA rfl) rfl rfl) ?_
  refine tr1 rfl (aC (v := .d (.lit (.int .i64 b_0_1))) (aA rfl) rfl rfl) ?_
  refine tr1 rfl (aC (v := .fn cmp_4_f cmp_4_v) (aA rfl) rfl rfl) ?_
  obtain ⟨r4, h5, h⟩ := bind_some h
  refine bW rfl (dI (passed := [.arr data_0_v 91 4 (data_0_1.map bR)]) (aA rfl) rfl (.func _ _ Tryz.call97) rfl rfl (oE data_0_1 a_0_1 b_0_1 cmp_4 cmp_4_f cmp_4_v cmp_4_e cmp_4_h h5)) ?_
  rintro _ ⟨_, _, ⟨rfl, rfl⟩, rfl⟩
  refine aF ?_
  have h := Option.some.inj h
  subst h
  exact bL ⟨rfl, _, [.arr data_0_v 91 4 (r4.map bR)], [], _, .none, .refl _, .same _, rfl, rfl⟩
 ·have h := aQ c3 h
  refine bG ?_
  refine aG ?_
  refine aG ?_
  cases h

theorem sQ (x_0 : List bJ) (cmp_1 : bJ → bJ → Option Int) {r : (List bJ)} {x_0_v : Value} (cmp_1_f : Nat) (cmp_1_v : List AV) (cmp_1_e : ∀ args w, (callFunc cmp_1_f args).run Tryz.prog w = .ok (.enter cmp_1_f args) w) (cmp_1_h : ∀ (x0 : bJ) (x1 : bJ) r, cmp_1 x0 x1 = some r → Fn Tryz.prog cmp_1_f ([.agg (bR x0), .agg (bR x1)] ++ cmp_1_v) (.d (.lit (.int .i64 r)))) (h : lM x_0 cmp_1 = some r) : fN Tryz.prog 66 [.d (.lit x_0_v), .fn cmp_1_f cmp_1_v] [.arr x_0_v 91 4 (x_0.map bR)] (fun r' o' => r' = .tup [] ∧ o' = [.arr x_0_v 91 4 (r.map bR)]) := by
 unfold lM at h
 refine jB Tryz.func66 rfl (rs := []) Tryz.results66 Tryz.ntmps66 (Nat.le_of_ble_eq_true rfl) ?_
 refine aG ?_
 refine aE ?_
 refine tr1 rfl (aC (v := .d (.lit x_0_v)) (aA rfl) rfl rfl) ?_
 refine tr1 rfl (lJ (m := 0) (aA rfl) rfl rfl rJ.of) ?_
 refine tr1 rfl (aJ (v := .d (.lit (.int .i64 ((x_0.length : Int))))) (aA rfl) rfl rfl) ?_
 refine aF ?_
 refine aE ?_
 refine tr1 rfl (aC (v := .d (.lit x_0_v)) (aA rfl) rfl rfl) ?_
 refine tr1 rfl (aC (v := .d (.lit (.int .i64 ((x_0.length : Int))))) (aA rfl) rfl rfl) ?_
 refine tr1 rfl (aC (v := .d (.lit (.int .i64 ((x_0.length : Int))))) (aA rfl) rfl rfl) ?_
 refine tr1 rfl (pA (aA rfl) rfl Tryz.runUnderlying3 Tryz.runUnderlying87) ?_
 obtain ⟨r1, h2, h⟩ := bind_some h
 refine tr1 rfl (cB (aA rfl) (.func _ _ Tryz.call63) rfl rfl (BVs.refl _ _) (zK _ h2) rfl) ?_
 refine tr1 rfl (aC (v := .fn cmp_1_f cmp_1_v) (aA rfl) rfl rfl) ?_
 obtain ⟨r3, h4, h⟩ := bind_some h
 refine bW rfl (dI (passed := [.arr x_0_v 91 4 (x_0.map bR)]) (aA rfl) rfl (.func _ _ Tryz.call87) rfl rfl (qA x_0 0 (x_0.length : Int) r1 cmp_1 cmp_1_f cmp_1_v cmp_1_e cmp_1_h h4)) ?_
 rintro _ ⟨_, _, ⟨rfl, rfl⟩, rfl⟩
 refine aF ?_
 have h := Option.some.inj h
 subst h
 exact ⟨_, [.arr x_0_v 91 4 (r3.map bR)], [], _, .none, .refl _, .same _, rfl, rfl⟩

theorem wM (x_0 : bJ) (y_1 : bJ) {r : Int} (h : nI x_0 y_1 = some r) : Fn Tryz.prog 67 [.agg (bR x_0), .agg (bR y_1)] (.d (.lit (.int .i64 r))) := by
 unfold nI at h
 refine Fn.of_tr Tryz.func67 rfl (rs := [.tmp 4]) Tryz.results67 Tryz.ntmps67 (Nat.le_of_ble_eq_true rfl) ?_
 refine aG ?_
 refine aE ?_
 refine bW rfl (eG (v := .agg (bR x_0)) (aA rfl) rfl rfl rfl) ?_
 rintro _ ⟨b1, rfl⟩
 refine bW rfl (eG (v := .agg (bR y_1)) (aA rfl) rfl rfl rfl) ?_
 rintro _ ⟨b2, rfl⟩
 refine tr1 rfl (aJ (v := .d (.lit (.int .i64 0))) (aA rfl) rfl rfl) ?_
 refine aF ?_
 refine aG ?_
 refine aE ?_
 refine tr1 rfl (aT (aA rfl) rfl aBv) ?_
 refine tr1 rfl (aV (aA rfl) rfl (i := 1) rfl rfl bE) ?_
 refine tr1 rfl (aT (aA rfl) rfl aBv) ?_
 refine tr1 rfl (aV (aA rfl) rfl (i := 0) rfl rfl bE) ?_
 refine tr1 rfl (bA (aA rfl) rfl rfl rfl) ?_
 refine tr1 rfl (aT (aA rfl) rfl vR) ?_
 refine tr1 rfl (aV (aA rfl) rfl (i := 1) rfl rfl bE) ?_
 refine tr1 rfl (aT (aA rfl) rfl vR) ?_
 refine tr1 rfl (aV (aA rfl) rfl (i := 0) rfl rfl bE) ?_
 refine tr1 rfl (bA (aA rfl) rfl rfl rfl) ?_
 refine tr1 rfl (aT (aA rfl) rfl aBw) ?_
 refine tr1 rfl (aV (aA rfl) rfl (i := 0) rfl rfl bE) ?_
 refine tr1 rfl (aT (aA rfl) rfl aBw) ?_
 refine tr1 rfl (aV (aA rfl) rfl (i := 1) rfl rfl bE) ?_
 refine tr1 rfl (bA (aA rfl) rfl rfl rfl) ?_
 refine tr1 rfl (aT (aA rfl) rfl yT) ?_
 refine tr1 rfl (aV (aA rfl) rfl (i := 0) rfl rfl bE) ?_
 refine tr1 rfl (aT (aA rfl) rfl yT) ?_
 refine tr1 rfl (aV (aA rfl) rfl (i := 1) rfl rfl bE) ?_
 refine tr1 rfl (bA (aA rfl) rfl rfl rfl) ?_
 refine tr1 rfl (iH (aA rfl) eT rfl rfl (rows := ([w64 (y_1.points - x_0.points), w64 (y_1.musts - x_0.musts), w64 (x_0.many - y_1.many), w64 (x_0.player - y_1.player)]).map cE) rfl (cT (f := cE) fun _ => rfl) rfl (by decide)) ?_
 obtain ⟨r3, h4, h⟩ := bind_some h
 refine tr1 rfl (cB (aA rfl) (.func _ _ Tryz.call61) rfl rfl (BVs.refl _ _) (wS _ h4) rfl) ?_
 refine tr1 rfl (aJ (v := .d (.lit (.int .i64 r3))) (aA rfl) rfl rfl) ?_
 refine aF ?_
 have h := Option.some.inj h
 subst h
 refine cG (bX (cD (l := [4]) ⟨rfl, trivial⟩)) ?_
 exact bL ⟨rfl, _, .one _, rfl, rfl⟩

theorem uA (b_0 : cC) (week_1 : Int) {r : (List Int)} (h : pJ b_0 week_1 = some r) : Fn Tryz.prog 39 [.cp (cN b_0), .d (.lit (.int .i64 week_1))] (.d (.sl 1 (r.map cE))) := by
 unfold pJ at h
 refine Fn.of_tr Tryz.func39 rfl (rs := [.tmp 4]) Tryz.results39 Tryz.ntmps39 (Nat.le_of_ble_eq_true rfl) ?_
 refine aG ?_
 refine aE ?_
 refine tr1 rfl (nJ 1 (aA rfl)) ?_
 refine aF ?_
 refine aG ?_
 refine aE ?_
 refine tr1 rfl (gK 91 4 (.inl rfl) (aA rfl)) ?_
 refine aF ?_
 refine aG ?_
 refine aG ?_
 refine aE ?_
 refine tr1 rfl (aC (v := .cp [.lit (.int .i64 b_0.Ledger.Players), .lit (.int .i64 b_0.Ledger.Counts), .sl 5 (b_0.Ledger.Reports.map aB), .sl 3 (b_0.Ledger.Bans.map aK), .sl 3 (b_0.Ledger.Frozen.map aK)]) (aA rfl) rfl rfl) ?_
 refine tr1 rfl (pL (aA rfl) rfl) ?_
 refine tr1 rfl (cA (aA rfl) rfl gM (es := [.lit (.int .i64 b_0.Ledger.Players), .lit (.int .i64 b_0.Ledger.Counts), .sl 5 (b_0.Ledger.Reports.map aB), .sl 3 (b_0.Ledger.Bans.map aK), .sl 3 (b_0.Ledger.Frozen.map aK)]) rfl) ?_
 refine tr1 rfl (cA (aA rfl) rfl iQ (es := [.lit (.int .i64 b_0.Ledger.Players)]) rfl) ?_
 refine tr1 rfl (bY (aA rfl) rfl bE) ?_
 refine tr1 rfl (aC (v := .d (.lit (.int .i64 0))) (aA rfl) rfl rfl) ?_
 refine aF ?_
 refine bQ ?_
 refine cI [0, 1, 18] (fun (s2 : Int × (List bJ) × Value) => [(5, .d (.lit s2.2.2)), (19, .d (.lit (.int .i64 s2.1)))]) (fun (s2 : Int × (List bJ) × Value) => [.arr s2.2.2 91 4 (s2.2.1.map bR)]) (fun (k : Nat) (s2 : Int × (List bJ) × Value) => jZ b_0 week_1 b_0.Ledger.Players k s2.1 s2.2.1) (fun _ => rfl) (0, ([] : List bJ), (.slice none 0 0)) h (aW [0] rfl rfl (aM rfl (aM rfl (aX ⟨rfl, rfl, rfl, trivial⟩)))) ?_
 rintro k4 ⟨t19_0_2, lines_0_2, w3⟩ h
 simp only [jZ] at h
 refine aG ?_
 refine aE ?_
 refine tr1 rfl (bB (aA rfl) rfl rfl rfl) ?_
 refine aF ?_
 refine aG ?_
 refine bI rfl (fun c5 => ?_) (fun c5 => ?_)
 ·have h := aR c5 h
  refine bG ?_
  refine aG ?_
  refine bQ ?_
  refine aG ?_
  refine aE ?_
  refine tr1 rfl (aC (v := .d (.lit (.int .i64 t19_0_2))) (aA rfl) rfl rfl) ?_
  refine tr1 rfl (aJ (v := .d (.lit (.int .i64 t19_0_2))) (aA rfl) rfl rfl) ?_
  refine aF ?_
  refine aG ?_
  refine aE ?_
  refine tr1 rfl (aC (v := .cp [.lit (.int .i64 b_0.Ledger.Players), .lit (.int .i64 b_0.Ledger.Counts), .sl 5 (b_0.Ledger.Reports.map aB), .sl 3 (b_0.Ledger.Bans.map aK), .sl 3 (b_0.Ledger.Frozen.map aK)]) (aA rfl) rfl rfl) ?_
  refine tr1 rfl (aC (v := .d (.lit (.int .i64 t19_0_2))) (aA rfl) rfl rfl) ?_
  refine tr1 rfl (aC (v := .d (.lit (.int .i64 week_1))) (aA rfl) rfl rfl) ?_
  obtain ⟨r6, h7, h⟩ := bind_some h
  refine tr1 rfl (jA (aA rfl) (.func _ _ Tryz.call33) rfl rfl (pR _ _ _ h7)) ?_
  refine tr1 rfl (aJ (v := .d (.sl 5 (r6.map aB))) (aA rfl) rfl rfl) ?_
  refine aF ?_
  refine aG ?_
  refine aG ?_
  refine aE ?_
  refine tr1 rfl (aC (v := .cp [.lit (.int .i64 b_0.Ledger.Players), .lit (.int .i64 b_0.Ledger.Counts), .sl 5 (b_0.Ledger.Reports.map aB), .sl 3 (b_0.Ledger.Bans.map aK), .sl 3 (b_0.Ledger.Frozen.map aK)]) (aA rfl) rfl rfl) ?_
  refine tr1 rfl (pL (aA rfl) rfl) ?_
  refine tr1 rfl (cA (aA rfl) rfl gM (es := [.lit (.int .i64 b_0.Ledger.Players), .lit (.int .i64 b_0.Ledger.Counts), .sl 5 (b_0.Ledger.Reports.map aB), .sl 3 (b_0.Ledger.Bans.map aK), .sl 3 (b_0.Ledger.Frozen.map aK)]) rfl) ?_
  refine tr1 rfl (cA (aA rfl) rfl jO (es := [.sl 3 (b_0.Ledger.Bans.map aK)]) rfl) ?_
  refine tr1 rfl (bY (aA rfl) rfl fU) ?_
  refine tr1 rfl (aC (v := .d (.lit (.int .i64 t19_0_2))) (aA rfl) rfl rfl) ?_
  refine tr1 rfl (aC (v := .d (.lit (.int .i64 week_1))) (aA rfl) rfl rfl) ?_
  obtain ⟨r8, h9, h⟩ := bind_some h
  refine tr1 rfl (cB (aA rfl) (.func _ _ Tryz.call43) rfl rfl (BVs.refl _ _) (uT _ _ _ h9) rfl) ?_
  refine tr1 rfl (aC (v := .d (.lit (.bool r8))) (aA rfl) rfl rfl) ?_
  obtain ⟨b10, h11, h⟩ := bind_some h
  refine bZ 4 [0, 1, 5, 6, 7, 18, 19] 38 b10 ?_ ?_
  ·refine bF (r8) (fun c28 => ?_) (fun c28 => ?_)
   ·have h11 := aR c28 h11
    refine aN rfl rfl (aA rfl) rfl (aA rfl) rfl c28 ?_
    refine aN rfl rfl (aA rfl) rfl (aA rfl) rfl c28 ?_
    refine aN rfl rfl (aA rfl) rfl (aA rfl) rfl c28 ?_
    refine tr1 rfl (bN (v := .d (.lit (.bool true))) (aA rfl) rfl c28 rfl rfl) ?_
    have h11 := Option.some.inj h11
    subst h11
    refine aF (aY rfl ⟨rfl, rfl, rfl, rfl, rfl, rfl, rfl, trivial⟩ rfl)
   ·have h11 := aQ c28 h11
    refine aL rfl rfl (aA rfl) rfl c28 (aC (v := .d (.sl 5 (r6.map aB))) (aA rfl) rfl rfl) ?_
    refine aL rfl rfl (aA rfl) rfl c28 (cW (aA rfl) rfl bP.of) ?_
    refine aL rfl rfl (aA rfl) rfl c28 (bB (aA rfl) rfl rfl rfl) ?_
    refine tr1 rfl (bO (v := .d (.lit (.bool ((decide ((r6.length : Int) = 0)))))) (aA rfl) rfl c28 rfl rfl) ?_
    have h11 := Option.some.inj h11
    subst h11
    refine aF (aY rfl ⟨rfl, rfl, rfl, rfl, rfl, rfl, rfl, trivial⟩ rfl)
  ·refine aF ?_
   refine bI rfl (fun c12 => ?_) (fun c12 => ?_)
   ·have h := aR c12 h
    refine cP ?_
    refine .inl ⟨rfl, ?_⟩
    simp only [nG] at h
    refine aE ?_
    refine tr1 rfl (bA (aA rfl) rfl rfl rfl) ?_
    refine tr1 rfl (aC (v := .d (.lit (.int .i64 ((w64 (t19_0_2 + 1)))))) (aA rfl) rfl rfl) ?_
    refine aF ?_
    exact ⟨(w64 (t19_0_2 + 1), lines_0_2, w3), h, aW [0] rfl rfl (aM rfl (aM rfl (aX ⟨rfl, rfl, rfl, trivial⟩)))⟩
   ·have h := aQ c12 h
    refine bG ?_
    refine aG ?_
    refine aE ?_
    refine tr1 rfl (aC (v := .d (.lit (.int .i64 t19_0_2))) (aA rfl) rfl rfl) ?_
    refine tr1 rfl (aC (v := .cp [.lit (.int .i64 b_0.Ledger.Players), .lit (.int .i64 b_0.Ledger.Counts), .sl 5 (b_0.Ledger.Reports.map aB), .sl 3 (b_0.Ledger.Bans.map aK), .sl 3 (b_0.Ledger.Frozen.map aK)]) (aA rfl) rfl rfl) ?_
    refine tr1 rfl (aC (v := .d (.sl 5 (r6.map aB))) (aA rfl) rfl rfl) ?_
    obtain ⟨r13, h14, h⟩ := bind_some h
    refine tr1 rfl (jA (aA rfl) (.func _ _ Tryz.call32) rfl rfl (pS _ _ h14)) ?_
    obtain ⟨r15, h16, h⟩ := bind_some h
    refine tr1 rfl (cB (aA rfl) (.func _ _ Tryz.call65) rfl rfl (BVs.refl _ _) (zP _ h16) rfl) ?_
    refine tr1 rfl (aC (v := .d (.sl 5 (r6.map aB))) (aA rfl) rfl rfl) ?_
    refine tr1 rfl (cW (aA rfl) rfl bP.of) ?_
    refine tr1 rfl (mA (aA rfl) aIq (zs := [.lit (.int .i64 0), .lit (.int .i64 0), .lit (.int .i64 0), .lit (.int .i64 0)]) rfl rfl rfl rfl (es := [.lit (.int .i64 t19_0_2), .lit (.int .i64 r15), .lit (.int .i64 0), .lit (.int .i64 ((r6.length : Int)))]) rfl) ?_
    refine bW rfl (fR (zs := [.lit (.int .i64 0), .lit (.int .i64 0), .lit (.int .i64 0), .lit (.int .i64 0)]) (aA rfl) Tryz.zeroValue91 rfl rfl) ?_
    rintro _ ⟨b17, rfl⟩
    refine tr1 rfl (cJ (i := 1) rfl rfl rfl rfl rfl Tryz.sizeOf91 rfl (aA rfl) (Nat.le_of_ble_eq_true rfl) (ds' := (bR (bJ.mk t19_0_2 r15 0 (r6.length : Int)))) rfl) ?_
    refine aF ?_
    refine aG ?_
    refine aG ?_
    refine aE ?_
    refine tr1 rfl (aC (v := .d (.sl 5 (r6.map aB))) (aA rfl) rfl rfl) ?_
    refine tr1 rfl (cW (aA rfl) rfl bP.of) ?_
    refine tr1 rfl (aC (v := .d (.lit (.int .i64 0))) (aA rfl) rfl rfl) ?_
    refine aF ?_
    refine bQ ?_
    refine cI [0, 1, 5, 8, 18, 19, 47, 48] (fun (s18 : Int × bJ) => [(49, .d (.lit (.int .i64 s18.1)))]) (fun (s18 : Int × bJ) => [.arr w3 91 4 (lines_0_2.map bR), .box b17 0 (bR s18.2)]) (fun (k : Nat) (s18 : Int × bJ) => lE (jZ b_0 week_1 b_0.Ledger.Players k4) b_0 week_1 b_0.Ledger.Players t19_0_2 r6 (r6.length : Int) lines_0_2 k s18.1 s18.2) (fun _ => rfl) (0, (bJ.mk t19_0_2 r15 0 (r6.length : Int))) h (aW [0, 1] rfl rfl (aM rfl (aX ⟨rfl, rfl, rfl, rfl, rfl, rfl, rfl, rfl, trivial⟩))) ?_
    rintro k19 ⟨t49_2_18, x_2_18⟩ h
    simp only [lE] at h
    refine aG ?_
    refine aE ?_
    refine tr1 rfl (bB (aA rfl) rfl rfl rfl) ?_
    refine aF ?_
    refine aG ?_
    refine bI rfl (fun c20 => ?_) (fun c20 => ?_)
    ·have h := aR c20 h
     refine bG ?_
     refine aG ?_
     refine bQ ?_
     refine aG ?_
     refine aE ?_
     obtain ⟨x21, h22, h⟩ := bind_some h
     refine tr1 rfl (bM (aA rfl) rfl rfl bP.of (bH aB h22)) ?_
     refine tr1 rfl (dZ (aA rfl) rfl dE (es := (aB x21)) rfl rfl) ?_
     refine bW rfl (fR (zs := [.lit (.int .i64 0), .lit (.int .i64 0), .lit (.int .i64 0), .lit (.int .i64 0), .lit (.bool false)]) (aA rfl) Tryz.zeroValue43 rfl rfl) ?_
     rintro _ ⟨b23, rfl⟩
     refine tr1 rfl (cJ (i := 2) rfl rfl rfl rfl rfl Tryz.sizeOf43 rfl (aA rfl) (Nat.le_of_ble_eq_true rfl) (ds' := (aB x21)) rfl) ?_
     refine aF ?_
     refine aG ?_
     refine aE ?_
     refine tr1 rfl (aT (aA rfl) rfl jP) ?_
     refine tr1 rfl (aV (aA rfl) rfl (i := 2) rfl rfl nF) ?_
     refine aF ?_
     refine bI rfl (fun c24 => ?_) (fun c24 => ?_)
     ·have h := aR c24 h
      refine aE ?_
      refine tr1 rfl (aT (aA rfl) rfl vR) ?_
      refine tr1 rfl (aV (aA rfl) rfl (i := 1) rfl rfl bE) ?_
      refine tr1 rfl (aT (aA rfl) rfl gW) ?_
      refine tr1 rfl (aV (aA rfl) rfl (i := 2) rfl rfl bE) ?_
      refine tr1 rfl (bA (aA rfl) rfl rfl rfl) ?_
      refine tr1 rfl (aT (aA rfl) rfl vR) ?_
      refine tr1 rfl (cJ (i := 1) rfl rfl rfl rfl rfl Tryz.sizeOf3 rfl (aA rfl) (Nat.le_of_ble_eq_true rfl) (ds' := (bR (bJ.mk x_2_18.player x_2_18.points (w64 (x_2_18.musts + x21.Points)) x_2_18.many))) rfl) ?_
      refine dN ?_
      refine aE ?_
      refine tr1 rfl (bA (aA rfl) rfl rfl rfl) ?_
      refine tr1 rfl (aC (v := .d (.lit (.int .i64 ((w64 (t49_2_18 + 1)))))) (aA rfl) rfl rfl) ?_
      refine aF ?_
      exact ⟨(w64 (t49_2_18 + 1), (bJ.mk x_2_18.player x_2_18.points (w64 (x_2_18.musts + x21.Points)) x_2_18.many)), h, aW [0, 1] rfl rfl (aM rfl (aX ⟨rfl, rfl, rfl, rfl, rfl, rfl, rfl, rfl, trivial⟩))⟩
     ·have h := aQ c24 h
      refine dH ?_
      refine aE ?_
      refine tr1 rfl (bA (aA rfl) rfl rfl rfl) ?_
      refine tr1 rfl (aC (v := .d (.lit (.int .i64 ((w64 (t49_2_18 + 1)))))) (aA rfl) rfl rfl) ?_
      refine aF ?_
      exact ⟨(w64 (t49_2_18 + 1), x_2_18), h, aW [0, 1] rfl rfl (aM rfl (aX ⟨rfl, rfl, rfl, rfl, rfl, rfl, rfl, rfl, trivial⟩))⟩
    ·have h := aQ c20 h
     refine cP ?_
     refine .inl ⟨rfl, ?_⟩
     simp only [tC] at h
     refine aE ?_
     refine tr1 rfl (aC (v := .d (.lit w3)) (aA rfl) rfl rfl) ?_
     refine tr1 rfl (cF (aA rfl) rfl (i := 1) rfl uY (es := (bR x_2_18)) rfl rfl) ?_
     refine tr1 rfl (iH (aA rfl) rJ rfl rfl (rows := ([x_2_18]).map bR) rfl (cT (f := bR) fun _ => rfl) rfl (by decide)) ?_
     obtain ⟨x25, h26, h⟩ := bind_some h
     refine bW rfl (kB (i := 0) (aA rfl) rJ rfl rfl rfl (fun _ => rfl) h26 rfl) ?_
     rintro _ ⟨v27, rfl⟩
     refine tr1 rfl (aJ (v := .d (.lit v27)) (aA rfl) rfl rfl) ?_
     refine dN ?_
     simp only [nG] at h
     refine aE ?_
     refine tr1 rfl (bA (aA rfl) rfl rfl rfl) ?_
     refine tr1 rfl (aC (v := .d (.lit (.int .i64 ((w64 (t19_0_2 + 1)))))) (aA rfl) rfl rfl) ?_
     refine aF ?_
     exact ⟨(w64 (t19_0_2 + 1), x25, v27), h, aW [0] rfl rfl (aM rfl (aM rfl (aX ⟨rfl, rfl, rfl, trivial⟩)))⟩
 ·have h := aQ c5 h
  refine cP ?_
  refine .inl ⟨rfl, ?_⟩
  simp only [tB] at h
  refine aG ?_
  refine aE ?_
  refine tr1 rfl (aC (v := .d (.lit w3)) (aA rfl) rfl rfl) ?_
  obtain ⟨r31, h32, h⟩ := bind_some h
  refine bW rfl (dI (passed := [.arr w3 91 4 (lines_0_2.map bR)]) (aA rfl) rfl (.func _ _ Tryz.call66) rfl rfl (sQ lines_0_2 (fun y29 y30 => nI y29 y30) 67 [] Tryz.call67 (fun _ _ _ h => wM _ _ h) h32)) ?_
  rintro _ ⟨_, _, ⟨rfl, rfl⟩, rfl⟩
  refine aF ?_
  refine aG ?_
  refine aE ?_
  refine tr1 rfl (gK 3 1 (.inl rfl) (aA rfl)) ?_
  refine aF ?_
  refine aG ?_
  refine aG ?_
  refine aE ?_
  refine tr1 rfl (aC (v := .d (.lit w3)) (aA rfl) rfl rfl) ?_
  refine tr1 rfl (lJ (m := 0) (aA rfl) rfl rfl rJ.of) ?_
  refine tr1 rfl (aC (v := .d (.lit (.int .i64 0))) (aA rfl) rfl rfl) ?_
  refine aF ?_
  refine bQ ?_
  refine cI [69, 70] (fun (s34 : Int × (List Int) × Value) => [(11, .d (.lit s34.2.2)), (71, .d (.lit (.int .i64 s34.1)))]) (fun (s34 : Int × (List Int) × Value) => [.arr w3 91 4 (r31.map bR), .arr s34.2.2 3 1 (s34.2.1.map cE)]) (fun (k : Nat) (s34 : Int × (List Int) × Value) => nH (r31.length : Int) r31 k s34.1 s34.2.1) (fun _ => rfl) (0, ([] : List Int), (.slice none 0 0)) h (aW [0, 1] rfl rfl (aM rfl (aM rfl (aX ⟨rfl, rfl, trivial⟩)))) ?_
  rintro k36 ⟨t71_4_34, out_4_34, w35⟩ h
  simp only [nH] at h
  refine aG ?_
  refine aE ?_
  refine tr1 rfl (bB (aA rfl) rfl rfl rfl) ?_
  refine aF ?_
  refine aG ?_
  refine bI rfl (fun c37 => ?_) (fun c37 => ?_)
  ·have h := aR c37 h
   refine bG ?_
   refine aG ?_
   refine bQ ?_
   refine aG ?_
   refine aE ?_
   obtain ⟨x38, h39, h⟩ := bind_some h
   refine tr1 rfl (cM (m := 0) (aA rfl) rfl rfl rfl rJ.of (bH bR h39)) ?_
   refine tr1 rfl (dB (aA rfl) rfl (l := 0) rfl (eC bR h39) uY (es := (bR x38)) rfl rfl) ?_
   refine bW rfl (fR (zs := [.lit (.int .i64 0), .lit (.int .i64 0), .lit (.int .i64 0), .lit (.int .i64 0)]) (aA rfl) Tryz.zeroValue91 rfl rfl) ?_
   rintro _ ⟨b40, rfl⟩
   refine tr1 rfl (cJ (i := 2) rfl rfl rfl rfl rfl Tryz.sizeOf91 rfl (aA rfl) (Nat.le_of_ble_eq_true rfl) (ds' := (bR x38)) rfl) ?_
   refine aF ?_
   refine aE ?_
   refine tr1 rfl (aC (v := .d (.lit w35)) (aA rfl) rfl rfl) ?_
   refine tr1 rfl (aT (aA rfl) rfl yT) ?_
   refine tr1 rfl (aV (aA rfl) rfl (i := 2) rfl rfl bE) ?_
   refine tr1 rfl (iH (aA rfl) eT rfl rfl (rows := ([x38.player]).map cE) rfl (cT (f := cE) fun _ => rfl) rfl (by decide)) ?_
   obtain ⟨x41, h42, h⟩ := bind_some h
   refine bW rfl (kB (i := 1) (aA rfl) eT rfl rfl rfl (fun _ => rfl) h42 rfl) ?_
   rintro _ ⟨v43, rfl⟩
   refine tr1 rfl (aJ (v := .d (.lit v43)) (aA rfl) rfl rfl) ?_
   refine dN ?_
   refine aE ?_
   refine tr1 rfl (bA (aA rfl) rfl rfl rfl) ?_
   refine tr1 rfl (aC (v := .d (.lit (.int .i64 ((w64 (t71_4_34 + 1)))))) (aA rfl) rfl rfl) ?_
   refine aF ?_
   exact ⟨(w64 (t71_4_34 + 1), x41, v43), h, aW [0, 1] rfl rfl (aM rfl (aM rfl (aX ⟨rfl, rfl, trivial⟩)))⟩
  ·have h := aQ c37 h
   refine cP ?_
   refine .inl ⟨rfl, ?_⟩
   simp only [tD] at h
   refine aG ?_
   refine aE ?_
   refine tr1 rfl (aC (v := .d (.lit w35)) (aA rfl) rfl rfl) ?_
   refine tr1 rfl (aJ (v := .d (.lit w35)) (aA rfl) rfl rfl) ?_
   refine aF ?_
   have h := Option.some.inj h
   subst h
   refine cG (bX (fH (k := 4) (v := .d (.sl 1 (out_4_34.map cE))) (.d (gE 1 rfl (cT (f := cE) fun _ => rfl))) (rT))) ?_
   exact bL ⟨rfl, _, .one _, rfl, rfl⟩

theorem aCx (l_0 : aS) (week_1 : Int) {r : (List Int) × Int} (h : xG l_0 week_1 = some r) : Fn Tryz.prog 19 [.agg (aU l_0), .d (.lit (.int .i64 week_1))] (.tup [.d (.sl 1 (r.1.map cE)), .d (.lit (.int .i64 r.2))]) := by
 unfold xG at h
 refine Fn.of_tr Tryz.func19 rfl (rs := [.tmp 4, .tmp 5]) Tryz.results19 Tryz.ntmps19 (Nat.le_of_ble_eq_true rfl) ?_
 refine aG ?_
 refine aE ?_
 refine bW rfl (eG (v := .agg (aU l_0)) (aA rfl) rfl rfl rfl) ?_
 rintro _ ⟨b1, rfl⟩
 refine tr1 rfl (nJ 1 (aA rfl)) ?_
 refine tr1 rfl (aJ (v := .d (.lit (.int .i64 0))) (aA rfl) rfl rfl) ?_
 refine aF ?_
 refine aG ?_
 refine aE ?_
 refine tr1 rfl (cF (aA rfl) rfl (i := 0) rfl eA (es := (aU l_0)) rfl rfl) ?_
 refine tr1 rfl (aC (v := .d (.lit (.int .i64 week_1))) (aA rfl) rfl rfl) ?_
 obtain ⟨r2, h3, h⟩ := bind_some h
 refine bW rfl (dI (passed := []) (aA rfl) rfl (.func _ _ Tryz.call26) rfl rfl (pI _ _ _ h3)) ?_
 rintro _ ⟨_, _, ⟨b5, w6, rfl, rfl⟩, rfl⟩
 obtain ⟨_ | y4, e7⟩ := r2
 ·have h := tV h
  refine eW (aW [0] rfl rfl (le_refl _)) ?_
  refine tr1 rfl (aC (v := .tup [.d (.lit (.pointer none)), .d (.lit (.int .i64 e7))]) (aA rfl) rfl rfl) ?_
  refine tr1 rfl (cL (aA rfl) rfl rfl) ?_
  refine tr1 rfl (cL (aA rfl) rfl rfl) ?_
  refine tr1 rfl (aJ (v := .d (.lit (.pointer none))) (aA rfl) rfl rfl) ?_
  refine tr1 rfl (aJ (v := .d (.lit (.int .i64 e7))) (aA rfl) rfl rfl) ?_
  refine aF ?_
  refine aG ?_
  refine aG ?_
  refine aE ?_
  refine tr1 rfl (aC (v := .d (.lit (.int .i64 e7))) (aA rfl) rfl rfl) ?_
  refine tr1 rfl (bB (aA rfl) rfl rfl rfl) ?_
  refine aF ?_
  refine bI rfl (fun c8 => ?_) (fun c8 => ?_)
  ·have h := aR c8 h
   refine aG ?_
   refine aE ?_
   refine tr1 rfl (aC (v := .d (.lit (.int .i64 e7))) (aA rfl) rfl rfl) ?_
   refine tr1 rfl (nJ 1 (aA rfl)) ?_
   refine tr1 rfl (aJ (v := .d (.lit (.int .i64 e7))) (aA rfl) rfl rfl) ?_
   refine aF ?_
   have h := Option.some.inj h
   subst h
   refine cG (bX (cD (l := [4, 5]) ⟨rfl, rfl, trivial⟩)) ?_
   exact bL ⟨rfl, _, .two _ _, rfl, rfl⟩
  ·have h := aQ c8 h
   refine bG ?_
   refine aG ?_
   refine aE ?_
   refine tr1 rfl (aC (v := .d (.lit (.pointer none))) (aA rfl) rfl rfl) ?_
   refine tr1 rfl (aC (v := .d (.lit (.int .i64 week_1))) (aA rfl) rfl rfl) ?_
   cases h
 ·have h := tW h
  refine eW (aW [0, 1, 2] rfl rfl (le_refl _)) ?_
  refine tr1 rfl (aC (v := .tup [.bp b5 0 0, .d (.lit (.int .i64 e7))]) (aA rfl) rfl rfl) ?_
  refine tr1 rfl (cL (aA rfl) rfl rfl) ?_
  refine tr1 rfl (cL (aA rfl) rfl rfl) ?_
  refine tr1 rfl (aJ (v := .bp b5 0 0) (aA rfl) rfl rfl) ?_
  refine tr1 rfl (aJ (v := .d (.lit (.int .i64 e7))) (aA rfl) rfl rfl) ?_
  refine aF ?_
  refine aG ?_
  refine aG ?_
  refine aE ?_
  refine tr1 rfl (aC (v := .d (.lit (.int .i64 e7))) (aA rfl) rfl rfl) ?_
  refine tr1 rfl (bB (aA rfl) rfl rfl rfl) ?_
  refine aF ?_
  refine bI rfl (fun c9 => ?_) (fun c9 => ?_)
  ·have h := aR c9 h
   refine aG ?_
   refine aE ?_
   refine tr1 rfl (aC (v := .d (.lit (.int .i64 e7))) (aA rfl) rfl rfl) ?_
   refine tr1 rfl (nJ 1 (aA rfl)) ?_
   refine tr1 rfl (aJ (v := .d (.lit (.int .i64 e7))) (aA rfl) rfl rfl) ?_
   refine aF ?_
   have h := Option.some.inj h
   subst h
   refine cG (bX (cD (l := [4, 5]) ⟨rfl, rfl, trivial⟩)) ?_
   exact bL ⟨rfl, _, .two _ _, rfl, rfl⟩
  ·have h := aQ c9 h
   refine bG ?_
   refine aG ?_
   refine aE ?_
   refine tr1 rfl (aC (v := .bp b5 0 0) (aA rfl) rfl rfl) ?_
   refine tr1 rfl (aC (v := .d (.lit (.int .i64 week_1))) (aA rfl) rfl rfl) ?_
   refine eW (aW [2, 0, 1] rfl rfl (le_refl _)) ?_
   apply aAh [.box b1 0 (aU l_0)] [.box b5 0 [.lit (.int .i64 y4.Ledger.Players), .lit (.int .i64 y4.Ledger.Counts), .lit w6, .sl 3 (y4.Ledger.Bans.map aK), .sl 3 (y4.Ledger.Frozen.map aK)], .arr w6 43 5 (y4.Ledger.Reports.map aB)] rfl
   exact fH (k := 17) (v := .cp [.lit (.int .i64 y4.Ledger.Players), .lit (.int .i64 y4.Ledger.Counts), .sl 5 (y4.Ledger.Reports.map aB), .sl 3 (y4.Ledger.Bans.map aK), .sl 3 (y4.Ledger.Frozen.map aK)]) ((lH 0 rfl rfl (dvc (.same _) (dvc (.same _) (dvc (gE 1 rfl (cT (f := aB) fun _ => rfl)) (dvc (.same _) (dvc (.same _) dvn))))))) (fH (k := 12) (v := .cp [.lit (.int .i64 y4.Ledger.Players), .lit (.int .i64 y4.Ledger.Counts), .sl 5 (y4.Ledger.Reports.map aB), .sl 3 (y4.Ledger.Bans.map aK), .sl 3 (y4.Ledger.Frozen.map aK)]) ((lH 0 rfl rfl (dvc (.same _) (dvc (.same _) (dvc (gE 1 rfl (cT (f := aB) fun _ => rfl)) (dvc (.same _) (dvc (.same _) dvn))))))) (fH (k := 11) (v := .any) (.any _) (fH (k := 8) (v := .any) (.any _) (fH (k := 6) (v := .cp [.lit (.int .i64 y4.Ledger.Players), .lit (.int .i64 y4.Ledger.Counts), .sl 5 (y4.Ledger.Reports.map aB), .sl 3 (y4.Ledger.Bans.map aK), .sl 3 (y4.Ledger.Frozen.map aK)]) ((lH 0 rfl rfl (dvc (.same _) (dvc (.same _) (dvc (gE 1 rfl (cT (f := aB) fun _ => rfl)) (dvc (.same _) (dvc (.same _) dvn))))))) (qI _ _)))))
   obtain ⟨r10, h11, h⟩ := bind_some h
   refine tr1 rfl (jA (aA rfl) (.func _ _ Tryz.call39) rfl rfl (uA _ _ h11)) ?_
   refine tr1 rfl (aJ (v := .d (.sl 1 (r10.map cE))) (aA rfl) rfl rfl) ?_
   refine tr1 rfl (aJ (v := .d (.lit (.int .i64 0))) (aA rfl) rfl rfl) ?_
   refine aF ?_
   have h := Option.some.inj h
   subst h
   refine cG (bX (cD (l := [4, 5]) ⟨rfl, rfl, trivial⟩)) ?_
   exact bL ⟨rfl, _, .two _ _, rfl, rfl⟩

theorem uX (s_0 : List Int) (f_1 : Int → Option Bool) {r : Int} (f_1_f : Nat) (f_1_v : List AV) (f_1_e : ∀ args w, (callFunc f_1_f args).run Tryz.prog w = .ok (.enter f_1_f args) w) (f_1_h : ∀ (x0 : Int) r, f_1 x0 = some r → Fn Tryz.prog f_1_f ([.d (.lit (.int .i64 x0))] ++ f_1_v) (.d (.lit (.bool r)))) (h : nY s_0 f_1 = some r) : Fn Tryz.prog 68 [.d (.sl 1 (s_0.map cE)), .fn f_1_f f_1_v] (.d (.lit (.int .i64 r))) := by
 unfold nY at h
 refine Fn.of_tr Tryz.func68 rfl (rs := [.tmp 4]) Tryz.results68 Tryz.ntmps68 (Nat.le_of_ble_eq_true rfl) ?_
 refine aG ?_
 refine aE ?_
 refine tr1 rfl (aJ (v := .d (.lit (.int .i64 0))) (aA rfl) rfl rfl) ?_
 refine aF ?_
 refine aG ?_
 refine aG ?_
 refine aE ?_
 refine tr1 rfl (aC (v := .d (.sl 1 (s_0.map cE))) (aA rfl) rfl rfl) ?_
 refine tr1 rfl (cW (aA rfl) rfl eT.of) ?_
 refine tr1 rfl (aC (v := .d (.lit (.int .i64 0))) (aA rfl) rfl rfl) ?_
 refine aF ?_
 refine bQ ?_
 refine cI [0, 1, 7] (fun (s1 : Int) => [(8, .d (.lit (.int .i64 s1)))]) (fun (s1 : Int) => []) (fun (k : Nat) (s1 : Int) => kE s_0 f_1 (s_0.length : Int) k s1) (fun _ => rfl) (0) h (aW [] rfl rfl (aM rfl (aX ⟨rfl, rfl, rfl, trivial⟩))) ?_
 rintro k2 t8_0_1 h
 simp only [kE] at h
 refine aG ?_
 refine aE ?_
 refine tr1 rfl (bB (aA rfl) rfl rfl rfl) ?_
 refine aF ?_
 refine aG ?_
 refine bI rfl (fun c3 => ?_) (fun c3 => ?_)
 ·have h := aR c3 h
  refine bG ?_
  refine aG ?_
  refine bQ ?_
  refine aG ?_
  refine aE ?_
  refine tr1 rfl (aC (v := .d (.lit (.int .i64 t8_0_1))) (aA rfl) rfl rfl) ?_
  refine tr1 rfl (aJ (v := .d (.lit (.int .i64 t8_0_1))) (aA rfl) rfl rfl) ?_
  refine aF ?_
  refine aG ?_
  refine aE ?_
  refine tr1 rfl (aC (v := .fn f_1_f f_1_v) (aA rfl) rfl rfl) ?_
  refine tr1 rfl (aC (v := .d (.sl 1 (s_0.map cE))) (aA rfl) rfl rfl) ?_
  refine tr1 rfl (aC (v := .d (.lit (.int .i64 t8_0_1))) (aA rfl) rfl rfl) ?_
  obtain ⟨x4, h5, h⟩ := bind_some h
  refine tr1 rfl (bM (aA rfl) rfl rfl eT.of (bH cE h5)) ?_
  refine tr1 rfl (bY (aA rfl) rfl bE) ?_
  obtain ⟨r6, h7, h⟩ := bind_some h
  refine tr1 rfl (cB (aA rfl) (.clo _ _ _ _ f_1_e rfl) (tP rfl) rfl (BVs.refl _ _) (f_1_h _ _  h7) rfl) ?_
  refine aF ?_
  refine bI rfl (fun c8 => ?_) (fun c8 => ?_)
  ·have h := aR c8 h
   refine aG ?_
   refine aE ?_
   refine tr1 rfl (aC (v := .d (.lit (.int .i64 t8_0_1))) (aA rfl) rfl rfl) ?_
   refine tr1 rfl (aJ (v := .d (.lit (.int .i64 t8_0_1))) (aA rfl) rfl rfl) ?_
   refine aF ?_
   have h := Option.some.inj h
   subst h
   exact bL ⟨rfl, _, .one _, rfl, rfl⟩
  ·have h := aQ c8 h
   refine dH ?_
   refine aE ?_
   refine tr1 rfl (bA (aA rfl) rfl rfl rfl) ?_
   refine tr1 rfl (aC (v := .d (.lit (.int .i64 ((w64 (t8_0_1 + 1)))))) (aA rfl) rfl rfl) ?_
   refine aF ?_
   exact ⟨(w64 (t8_0_1 + 1)), h, aW [] rfl rfl (aM rfl (aX ⟨rfl, rfl, rfl, trivial⟩))⟩
 ·have h := aQ c3 h
  refine cP ?_
  refine .inl ⟨rfl, ?_⟩
  simp only [pO] at h
  refine aG ?_
  refine aE ?_
  refine tr1 rfl (aJ (v := .d (.lit (.int .i64 (-1)))) (aA rfl) rfl rfl) ?_
  refine aF ?_
  have h := Option.some.inj h
  subst h
  exact bL ⟨rfl, _, .one _, rfl, rfl⟩

theorem oS (s_0 : List Int) (f_1 : Int → Option Bool) {r : Bool} (f_1_f : Nat) (f_1_v : List AV) (f_1_e : ∀ args w, (callFunc f_1_f args).run Tryz.prog w = .ok (.enter f_1_f args) w) (f_1_h : ∀ (x0 : Int) r, f_1 x0 = some r → Fn Tryz.prog f_1_f ([.d (.lit (.int .i64 x0))] ++ f_1_v) (.d (.lit (.bool r)))) (h : kD s_0 f_1 = some r) : Fn Tryz.prog 40 [.d (.sl 1 (s_0.map cE)), .fn f_1_f f_1_v] (.d (.lit (.bool r))) := by
 unfold kD at h
 refine Fn.of_tr Tryz.func40 rfl (rs := [.tmp 4]) Tryz.results40 Tryz.ntmps40 (Nat.le_of_ble_eq_true rfl) ?_
 refine aG ?_
 refine aE ?_
 refine tr1 rfl (aJ (v := .d (.lit (.bool false))) (aA rfl) rfl rfl) ?_
 refine aF ?_
 refine aG ?_
 refine aE ?_
 refine tr1 rfl (aC (v := .d (.sl 1 (s_0.map cE))) (aA rfl) rfl rfl) ?_
 refine tr1 rfl (aC (v := .fn f_1_f f_1_v) (aA rfl) rfl rfl) ?_
 obtain ⟨r1, h2, h⟩ := bind_some h
 refine tr1 rfl (cB (aA rfl) (.func _ _ Tryz.call68) rfl rfl (BVs.refl _ _) (uX _ _ f_1_f f_1_v f_1_e f_1_h h2) rfl) ?_
 refine tr1 rfl (bB (aA rfl) rfl rfl rfl) ?_
 refine tr1 rfl (aJ (v := .d (.lit (.bool ((decide (0 ≤ r1)))))) (aA rfl) rfl rfl) ?_
 refine aF ?_
 have h := Option.some.inj h
 subst h
 exact bL ⟨rfl, _, .one _, rfl, rfl⟩

theorem vG (n_0 : Int) {r : Bool} (h : rD n_0 = some r) : Fn Tryz.prog 41 [.d (.lit (.int .i64 n_0))] (.d (.lit (.bool r))) := by
 unfold rD at h
 refine Fn.of_tr Tryz.func41 rfl (rs := [.tmp 2]) Tryz.results41 Tryz.ntmps41 (Nat.le_of_ble_eq_true rfl) ?_
 refine aG ?_
 refine aE ?_
 refine tr1 rfl (aJ (v := .d (.lit (.bool false))) (aA rfl) rfl rfl) ?_
 refine aF ?_
 refine aG ?_
 refine aE ?_
 refine tr1 rfl (aC (v := .d (.lit (.int .i64 n_0))) (aA rfl) rfl rfl) ?_
 obtain ⟨r1, h2, h⟩ := bind_some h
 refine tr1 rfl (cB (aA rfl) (.func _ _ Tryz.call42) rfl rfl (BVs.refl _ _) (eZ _ _ _ h2) rfl) ?_
 refine tr1 rfl (eK (aA rfl) rfl) ?_
 refine tr1 rfl (aJ (v := .d (.lit (.bool (!r1)))) (aA rfl) rfl rfl) ?_
 refine aF ?_
 have h := Option.some.inj h
 subst h
 exact bL ⟨rfl, _, .one _, rfl, rfl⟩

theorem xO (s_0 : List Int) (v_1 : Int) {r : Int} (h : qQ s_0 v_1 = some r) : Fn Tryz.prog 71 [.d (.sl 1 (s_0.map cE)), .d (.lit (.int .i64 v_1))] (.d (.lit (.int .i64 r))) := by
 unfold qQ at h
 refine Fn.of_tr Tryz.func71 rfl (rs := [.tmp 4]) Tryz.results71 Tryz.ntmps71 (Nat.le_of_ble_eq_true rfl) ?_
 refine aG ?_
 refine aE ?_
 refine tr1 rfl (aJ (v := .d (.lit (.int .i64 0))) (aA rfl) rfl rfl) ?_
 refine aF ?_
 refine aG ?_
 refine aG ?_
 refine aE ?_
 refine tr1 rfl (aC (v := .d (.sl 1 (s_0.map cE))) (aA rfl) rfl rfl) ?_
 refine tr1 rfl (cW (aA rfl) rfl eT.of) ?_
 refine tr1 rfl (aC (v := .d (.lit (.int .i64 0))) (aA rfl) rfl rfl) ?_
 refine aF ?_
 refine bQ ?_
 refine cI [0, 1, 7] (fun (s1 : Int) => [(8, .d (.lit (.int .i64 s1)))]) (fun (s1 : Int) => []) (fun (k : Nat) (s1 : Int) => lW s_0 v_1 (s_0.length : Int) k s1) (fun _ => rfl) (0) h (aW [] rfl rfl (aM rfl (aX ⟨rfl, rfl, rfl, trivial⟩))) ?_
 rintro k2 t8_0_1 h
 simp only [lW] at h
 refine aG ?_
 refine aE ?_
 refine tr1 rfl (bB (aA rfl) rfl rfl rfl) ?_
 refine aF ?_
 refine aG ?_
 refine bI rfl (fun c3 => ?_) (fun c3 => ?_)
 ·have h := aR c3 h
  refine bG ?_
  refine aG ?_
  refine bQ ?_
  refine aG ?_
  refine aE ?_
  refine tr1 rfl (aC (v := .d (.lit (.int .i64 t8_0_1))) (aA rfl) rfl rfl) ?_
  refine tr1 rfl (aJ (v := .d (.lit (.int .i64 t8_0_1))) (aA rfl) rfl rfl) ?_
  refine aF ?_
  refine aG ?_
  refine aE ?_
  refine tr1 rfl (aC (v := .d (.lit (.int .i64 v_1))) (aA rfl) rfl rfl) ?_
  refine tr1 rfl (aC (v := .d (.sl 1 (s_0.map cE))) (aA rfl) rfl rfl) ?_
  refine tr1 rfl (aC (v := .d (.lit (.int .i64 t8_0_1))) (aA rfl) rfl rfl) ?_
  obtain ⟨x4, h5, h⟩ := bind_some h
  refine tr1 rfl (bM (aA rfl) rfl rfl eT.of (bH cE h5)) ?_
  refine tr1 rfl (bY (aA rfl) rfl bE) ?_
  refine tr1 rfl (bB (aA rfl) rfl rfl rfl) ?_
  refine aF ?_
  refine bI rfl (fun c6 => ?_) (fun c6 => ?_)
  ·have h := aR c6 h
   refine aG ?_
   refine aE ?_
   refine tr1 rfl (aC (v := .d (.lit (.int .i64 t8_0_1))) (aA rfl) rfl rfl) ?_
   refine tr1 rfl (aJ (v := .d (.lit (.int .i64 t8_0_1))) (aA rfl) rfl rfl) ?_
   refine aF ?_
   have h := Option.some.inj h
   subst h
   exact bL ⟨rfl, _, .one _, rfl, rfl⟩
  ·have h := aQ c6 h
   refine dH ?_
   refine aE ?_
   refine tr1 rfl (bA (aA rfl) rfl rfl rfl) ?_
   refine tr1 rfl (aC (v := .d (.lit (.int .i64 ((w64 (t8_0_1 + 1)))))) (aA rfl) rfl rfl) ?_
   refine aF ?_
   exact ⟨(w64 (t8_0_1 + 1)), h, aW [] rfl rfl (aM rfl (aX ⟨rfl, rfl, rfl, trivial⟩))⟩
 ·have h := aQ c3 h
  refine cP ?_
  refine .inl ⟨rfl, ?_⟩
  simp only [rR] at h
  refine aG ?_
  refine aE ?_
  refine tr1 rfl (aJ (v := .d (.lit (.int .i64 (-1)))) (aA rfl) rfl rfl) ?_
  refine aF ?_
  have h := Option.some.inj h
  subst h
  exact bL ⟨rfl, _, .one _, rfl, rfl⟩

theorem xZ (b_0 : cC) (player_1 : Int) (week_2 : Int) {r : Int} (h : rG b_0 player_1 week_2 = some r) : Fn Tryz.prog 46 [.cp (cN b_0), .d (.lit (.int .i64 player_1)), .d (.lit (.int .i64 week_2))] (.d (.lit (.int .i64 r))) := by
 unfold rG at h
 refine Fn.of_tr Tryz.func46 rfl (rs := [.tmp 6]) Tryz.results46 Tryz.ntmps46 (Nat.le_of_ble_eq_true rfl) ?_
 refine aG ?_
 refine aE ?_
 refine tr1 rfl (aJ (v := .d (.lit (.int .i64 0))) (aA rfl) rfl rfl) ?_
 refine aF ?_
 refine aG ?_
 refine aE ?_
 refine tr1 rfl (aC (v := .cp [.lit (.int .i64 b_0.Ledger.Players), .lit (.int .i64 b_0.Ledger.Counts), .sl 5 (b_0.Ledger.Reports.map aB), .sl 3 (b_0.Ledger.Bans.map aK), .sl 3 (b_0.Ledger.Frozen.map aK)]) (aA rfl) rfl rfl) ?_
 refine tr1 rfl (aC (v := .d (.lit (.int .i64 week_2))) (aA rfl) rfl rfl) ?_
 obtain ⟨r1, h2, h⟩ := bind_some h
 refine tr1 rfl (jA (aA rfl) (.func _ _ Tryz.call39) rfl rfl (uA _ _ h2)) ?_
 refine tr1 rfl (aC (v := .d (.lit (.int .i64 player_1))) (aA rfl) rfl rfl) ?_
 obtain ⟨r3, h4, h⟩ := bind_some h
 refine tr1 rfl (cB (aA rfl) (.func _ _ Tryz.call71) rfl rfl (BVs.refl _ _) (xO _ _ h4) rfl) ?_
 refine tr1 rfl (bA (aA rfl) rfl rfl rfl) ?_
 refine tr1 rfl (aJ (v := .d (.lit (.int .i64 ((w64 (r3 + 1)))))) (aA rfl) rfl rfl) ?_
 refine aF ?_
 have h := Option.some.inj h
 subst h
 exact bL ⟨rfl, _, .one _, rfl, rfl⟩

theorem aAe (book : cC) (pl : Int) (wk : Int) (ms : Bool) (be : Int) (wo : Int) {r : Bool × Int × Int} {book_b book_o : Nat} {bb_b bb_o : Nat} {pl_b pl_o : Nat} {wk_b wk_o : Nat} {ms_b ms_o : Nat} {be_b be_o : Nat} {wo_b wo_o : Nat} (h : tY book pl wk ms be wo = some r) : fN Tryz.prog 45 [.bp bb_b bb_o 0, .bp pl_b pl_o 0, .bp wk_b wk_o 0, .bp ms_b ms_o 0, .bp be_b be_o 0, .bp wo_b wo_o 0] [.box book_b book_o (cN book), .box bb_b bb_o [gH book_b book_o 0], .box pl_b pl_o [.lit (.int .i64 pl)], .box wk_b wk_o [.lit (.int .i64 wk)], .box ms_b ms_o [.lit (.bool ms)], .box be_b be_o [.lit (.int .i64 be)], .box wo_b wo_o [.lit (.int .i64 wo)]] (fun r' o' => r' = .tup [] ∧ o' = [.box book_b book_o (cN book), .box bb_b bb_o [gH book_b book_o 0], .box pl_b pl_o [.lit (.int .i64 pl)], .box wk_b wk_o [.lit (.int .i64 wk)], .box ms_b ms_o [.lit (.bool r.1)], .box be_b be_o [.lit (.int .i64 r.2.1)], .box wo_b wo_o [.lit (.int .i64 r.2.2)]]) := by
 unfold tY at h
 refine jB Tryz.func45 rfl (rs := []) Tryz.results45 Tryz.ntmps45 (Nat.le_of_ble_eq_true rfl) ?_
 refine aG ?_
 refine aE ?_
 refine tr1 rfl (sO (i := 1) (aA rfl) rfl rfl rfl vF) ?_
 refine tr1 rfl (aV (aA rfl) rfl (i := 2) rfl rfl bE) ?_
 refine tr1 rfl (aV (aA rfl) rfl (i := 3) rfl rfl bE) ?_
 obtain ⟨r1, h2, h⟩ := bind_some h
 refine tr1 rfl (cB (aA rfl) (.func _ _ Tryz.call46) rfl rfl (.cons ((lH 0 rfl rfl (dvc (.same _) (dvc (.same _) (dvc (.same _) (dvc (.same _) (dvc (.same _) dvn))))))) (.cons (.same _) (.cons (.same _) .nil))) (xZ _ _ _ h2) rfl) ?_
 refine tr1 rfl (aJ (v := .d (.lit (.int .i64 r1))) (aA rfl) rfl rfl) ?_
 refine aF ?_
 refine aG ?_
 refine aE ?_
 refine tr1 rfl (aV (aA rfl) rfl (i := 4) rfl rfl nF) ?_
 refine tr1 rfl (aC (v := .d (.lit (.bool ms))) (aA rfl) rfl rfl) ?_
 obtain ⟨b3, h4, h⟩ := bind_some h
 refine bZ 3 [3, 4, 5, 6] 15 b3 ?_ ?_
 ·refine bF (ms) (fun c6 => ?_) (fun c6 => ?_)
  ·have h4 := aR c6 h4
   refine aN rfl rfl (aA rfl) rfl (aA rfl) rfl c6 ?_
   refine aN rfl rfl (aA rfl) rfl (aA rfl) rfl c6 ?_
   refine tr1 rfl (bN (v := .d (.lit (.bool true))) (aA rfl) rfl c6 rfl rfl) ?_
   have h4 := Option.some.inj h4
   subst h4
   refine aF (aY rfl ⟨rfl, rfl, rfl, rfl, trivial⟩ rfl)
  ·have h4 := aQ c6 h4
   refine aL rfl rfl (aA rfl) rfl c6 (aC (v := .d (.lit (.int .i64 r1))) (aA rfl) rfl rfl) ?_
   refine aL rfl rfl (aA rfl) rfl c6 (bB (aA rfl) rfl rfl rfl) ?_
   refine tr1 rfl (bO (v := .d (.lit (.bool ((decide (r1 = 0)))))) (aA rfl) rfl c6 rfl rfl) ?_
   have h4 := Option.some.inj h4
   subst h4
   refine aF (aY rfl ⟨rfl, rfl, rfl, rfl, trivial⟩ rfl)
 ·refine tr1 rfl (cJ (i := 4) rfl rfl rfl rfl rfl Tryz.sizeOf4 rfl (aA rfl) (Nat.le_of_ble_eq_true rfl) (ds' := [.lit (.bool b3)]) rfl) ?_
  refine aF ?_
  refine mQ mix 7 [5] (fun X5 => [(21, .d (.lit (.int .i64 ((max wo r1)))))]) (fun X5 => [.box book_b book_o (cN book), .box bb_b bb_o [gH book_b book_o 0], .box pl_b pl_o [.lit (.int .i64 pl)], .box wk_b wk_o [.lit (.int .i64 wk)], .box ms_b ms_o [.lit (.bool b3)], .box be_b be_o [.lit (.int .i64 ((min be r1)))], .box wo_b wo_o [.lit (.int .i64 wo)]]) ?_ ?_
  ·refine ⟨0, fun X5 => [(16, 0, .d (.lit (.int .i64 be))), (17, 1, .d (.lit (.int .i64 r1))), (18, 2, .d (.lit (.int .i64 ((min be r1))))), (19, 3, .d (.lit (.int .i64 wo))), (20, 4, .d (.lit (.int .i64 r1))), (21, 5, .d (.lit (.int .i64 ((max wo r1)))))], fun X5 => [([], .box book_b book_o (cN book)), ([], .box bb_b bb_o [gH book_b book_o 0]), ([], .box pl_b pl_o [.lit (.int .i64 pl)]), ([], .box wk_b wk_o [.lit (.int .i64 wk)]), ([], .box ms_b ms_o [.lit (.bool b3)]), ([(6, .box be_b be_o [.lit (.int .i64 ((min be r1)))])], .box be_b be_o [.lit (.int .i64 be)]), ([], .box wo_b wo_o [.lit (.int .i64 wo)])], ?_, ?_⟩
   · exact ⟨by kernel_rfl, by kernel_rfl, by kernel_rfl, fun _ => by kernel_rfl, fun _ => by kernel_rfl, fun _ => by kernel_rfl, fun _ => rfl, [([], [6]), ([], [6]), ([0, 1], [6]), ([], []), ([], []), ([3, 4], []), ([2], [])], by kernel_rfl, ⟨fun X5 S hw hi hS => bT (X := X5) rfl (hw X5) rfl (aP rfl (aV (aA rfl) (aH hS rfl) (i := 5) (og hS rfl rfl) rfl bE)),
      fun X5 S hw hi hS => bT (X := X5) rfl (hw X5) rfl (aP rfl (aC (v := .d (.lit (.int .i64 r1))) (aA rfl) (aH hS rfl) rfl)),
      fun X5 S hw hi hS => bT (X := X5) rfl (hw X5) rfl (aP rfl (aEo (aA rfl) (aH hS rfl) (aH hS rfl))),
      fun X5 S hw hi hS => bT (X := X5) rfl (hw X5) rfl (aP rfl (aV (aA rfl) (aH hS rfl) (i := 6) (og hS rfl rfl) rfl bE)),
      fun X5 S hw hi hS => bT (X := X5) rfl (hw X5) rfl (aP rfl (aC (v := .d (.lit (.int .i64 r1))) (aA rfl) (aH hS rfl) rfl)),
      fun X5 S hw hi hS => bT (X := X5) rfl (hw X5) rfl (aP rfl (aBg (aA rfl) (aH hS rfl) (aH hS rfl))),
      fun X5 S hw hi hS => qW (X := X5) hS rfl rfl rfl (p := 5) rfl rfl (aP rfl (cJ (i := 5) (aH hS rfl) (og hS rfl rfl) (aH hS rfl) rfl rfl Tryz.sizeOf3 rfl (aA rfl) (Nat.le_of_ble_eq_true rfl) (ds' := [.lit (.int .i64 ((min be r1)))]) rfl)), trivial⟩⟩
   · exact fun X5 => dJ (aM rfl (aX ⟨rfl, trivial⟩))
  ·intro X5
   refine tr1 rfl (cJ (i := 6) rfl rfl rfl rfl rfl Tryz.sizeOf3 rfl (aA rfl) (Nat.le_of_ble_eq_true rfl) (ds' := [.lit (.int .i64 ((max wo r1)))]) rfl) ?_
   refine aF ?_
   have h := Option.some.inj h
   subst h
   exact ⟨_, [.box book_b book_o (cN book), .box bb_b bb_o [gH book_b book_o 0], .box pl_b pl_o [.lit (.int .i64 pl)], .box wk_b wk_o [.lit (.int .i64 wk)], .box ms_b ms_o [.lit (.bool b3)], .box be_b be_o [.lit (.int .i64 ((min be r1)))], .box wo_b wo_o [.lit (.int .i64 ((max wo r1)))]], [], _, .none, .refl _, .same _, rfl, rfl⟩

theorem xN (n_1 : Int) {r : (List Int)} (h : rN n_1 = some r) : fN Tryz.prog 88 [.d (.lit (.slice none 0 0)), .d (.lit (.int .i64 n_1))] [] (fun r' o' => ∃ (w0 : Value), r' = .d (.lit w0) ∧ o' = [.arr w0 3 1 (r.map cE)]) := by
 unfold rN at h
 refine mC Tryz.func88 rfl (rs := [.tmp 4]) Tryz.results88 Tryz.ntmps88 (Nat.le_of_ble_eq_true rfl) ?_
 refine cG (aEa 3 1) ?_
 refine aG ?_
 refine aE ?_
 refine tr1 rfl (gK 3 1 (.inl rfl) (aA rfl)) ?_
 refine aF ?_
 refine aG ?_
 refine aG ?_
 refine aE ?_
 refine tr1 rfl (aC (v := .d (.lit (.int .i64 n_1))) (aA rfl) rfl rfl) ?_
 refine tr1 rfl (bB (aA rfl) rfl rfl rfl) ?_
 refine aF ?_
 refine bI rfl (fun c2 => ?_) (fun c2 => ?_)
 ·have h := aR c2 h
  cases h
 ·have h := aQ c2 h
  refine bG ?_
  refine aG ?_
  refine aG ?_
  refine aE ?_
  refine tr1 rfl (aC (v := .d (.lit (.int .i64 n_1))) (aA rfl) rfl rfl) ?_
  refine tr1 rfl (aC (v := .d (.lit (.slice none 0 0))) (aA rfl) rfl rfl) ?_
  refine tr1 rfl (aAv (aA rfl) rfl eT.of) ?_
  refine tr1 rfl (aC (v := .d (.lit (.slice none 0 0))) (aA rfl) rfl rfl) ?_
  refine tr1 rfl (aAw (aA rfl) rfl eT.of) ?_
  refine tr1 rfl (bA (aA rfl) rfl rfl rfl) ?_
  refine tr1 rfl (bA (aA rfl) rfl rfl rfl) ?_
  refine tr1 rfl (aJ (v := .d (.lit (.int .i64 ((w64 (n_1 - (w64 (0 - 0)))))))) (aA rfl) rfl rfl) ?_
  refine aF ?_
  refine aG ?_
  refine aE ?_
  refine tr1 rfl (aC (v := .d (.lit (.int .i64 ((w64 (n_1 - (w64 (0 - 0)))))))) (aA rfl) rfl rfl) ?_
  refine tr1 rfl (bB (aA rfl) rfl rfl rfl) ?_
  refine aF ?_
  refine bI rfl (fun c3 => ?_) (fun c3 => ?_)
  ·have h := aR c3 h
   refine aE ?_
   refine tr1 rfl (aC (v := .d (.lit (.slice none 0 0))) (aA rfl) rfl rfl) ?_
   refine tr1 rfl (aC (v := .d (.lit (.slice none 0 0))) (aA rfl) rfl rfl) ?_
   refine tr1 rfl (aAv (aA rfl) rfl eT.of) ?_
   obtain ⟨u4, h5, h⟩ := bind_some h
   refine tr1 rfl (rI (m := 0) (q := 0) (v := (.slice none 0 0)) (aA rfl) rfl rfl rfl rfl (zD h5) eT.of) ?_
   refine tr1 rfl (aC (v := .d (.lit (.int .i64 ((w64 (n_1 - (w64 (0 - 0)))))))) (aA rfl) rfl rfl) ?_
   obtain ⟨u6, h7, h⟩ := bind_some h
   refine bW rfl (aGi (i := 0) (aA rfl) eT rfl rfl rfl Tryz.underlying3 (aBl h7).1 (aBl h7).2 (by decide)) ?_
   rintro _ ⟨v8, rfl⟩
   refine tr1 rfl (aC (v := .d (.lit (.slice none 0 0))) (aA rfl) rfl rfl) ?_
   refine tr1 rfl (aAw (aA rfl) rfl eT.of) ?_
   obtain ⟨u9, h10, h⟩ := bind_some h
   refine tr1 rfl (rI (m := 0) (q := 0) (v := v8) (aA rfl) rfl rfl rfl rfl (zD h10) eT.of) ?_
   refine tr1 rfl (aJ (v := .d (.lit (gC v8 0))) (aA rfl) rfl rfl) ?_
   refine aF ?_
   refine aG ?_
   refine aE ?_
   refine tr1 rfl (aC (v := .d (.lit (gC v8 0))) (aA rfl) rfl rfl) ?_
   refine tr1 rfl (aJ (v := .d (.lit (gC v8 0))) (aA rfl) rfl rfl) ?_
   refine aF ?_
   have h := Option.some.inj h
   subst h
   exact bL ⟨rfl, _, [.arr (gC v8 0) 3 1 (([] : List Int).map cE)], [.arr (.slice none 0 0) 3 1 (([] : List Int).map cE)], _, .one (.tmp 4 (v := .d (.lit (gC v8 0))) rfl), .refl _, .same _, (gC v8 0), rfl, rfl⟩
  ·have h := aQ c3 h
   refine bG ?_
   refine aG ?_
   refine aE ?_
   refine tr1 rfl (aC (v := .d (.lit (.slice none 0 0))) (aA rfl) rfl rfl) ?_
   refine tr1 rfl (aJ (v := .d (.lit (.slice none 0 0))) (aA rfl) rfl rfl) ?_
   refine aF ?_
   have h := Option.some.inj h
   subst h
   exact bL ⟨rfl, _, [.arr (.slice none 0 0) 3 1 (([] : List Int).map cE)], [.arr (.slice none 0 0) 3 1 (([] : List Int).map cE)], _, .one (.tmp 4 (v := .d (.lit (.slice none 0 0))) rfl), .refl _, .same _, (.slice none 0 0), rfl, rfl⟩

theorem wN (slices_0 : List (List Int)) {r : (List Int)} (h : pT slices_0 = some r) : Fn Tryz.prog 70 [.d (.sl 1 (slices_0.map qV))] (.d (.sl 1 (r.map cE))) := by
 unfold pT at h
 refine Fn.of_tr Tryz.func70 rfl (rs := [.tmp 2]) Tryz.results70 Tryz.ntmps70 (Nat.le_of_ble_eq_true rfl) ?_
 refine aG ?_
 refine aE ?_
 refine tr1 rfl (nJ 1 (aA rfl)) ?_
 refine aF ?_
 refine aG ?_
 refine aE ?_
 refine tr1 rfl (aJ (v := .d (.lit (.int .i64 0))) (aA rfl) rfl rfl) ?_
 refine aF ?_
 refine aG ?_
 refine aG ?_
 refine aE ?_
 refine tr1 rfl (aC (v := .d (.sl 1 (slices_0.map qV))) (aA rfl) rfl rfl) ?_
 refine tr1 rfl (cW (aA rfl) rfl xM.of) ?_
 refine tr1 rfl (aC (v := .d (.lit (.int .i64 0))) (aA rfl) rfl rfl) ?_
 refine aF ?_
 refine bQ ?_
 refine cI [0, 9, 10] (fun (s1 : Int × Int) => [(3, .d (.lit (.int .i64 s1.1))), (11, .d (.lit (.int .i64 s1.2)))]) (fun (s1 : Int × Int) => []) (fun (k : Nat) (s1 : Int × Int) => lK slices_0 slices_0 (slices_0.length : Int) k s1.1 s1.2) (fun _ => rfl) (0, 0) h (aW [] rfl rfl (aM rfl (aM rfl (aX ⟨rfl, rfl, rfl, trivial⟩)))) ?_
 rintro k2 ⟨size_0_1, t11_0_1⟩ h
 simp only [lK] at h
 refine aG ?_
 refine aE ?_
 refine tr1 rfl (bB (aA rfl) rfl rfl rfl) ?_
 refine aF ?_
 refine aG ?_
 refine bI rfl (fun c3 => ?_) (fun c3 => ?_)
 ·have h := aR c3 h
  refine bG ?_
  refine aG ?_
  refine bQ ?_
  refine aG ?_
  refine aE ?_
  obtain ⟨x4, h5, h⟩ := bind_some h
  refine tr1 rfl (bM (aA rfl) rfl rfl xM.of (bH qV h5)) ?_
  refine tr1 rfl (bY (aA rfl) rfl aFg) ?_
  refine tr1 rfl (aJ (v := .d (.sl 1 (x4.map cE))) (aA rfl) rfl rfl) ?_
  refine aF ?_
  refine aG ?_
  refine aE ?_
  refine tr1 rfl (aC (v := .d (.lit (.int .i64 size_0_1))) (aA rfl) rfl rfl) ?_
  refine tr1 rfl (aC (v := .d (.sl 1 (x4.map cE))) (aA rfl) rfl rfl) ?_
  refine tr1 rfl (cW (aA rfl) rfl eT.of) ?_
  refine tr1 rfl (bA (aA rfl) rfl rfl rfl) ?_
  refine tr1 rfl (aJ (v := .d (.lit (.int .i64 ((w64 (size_0_1 + (x4.length : Int))))))) (aA rfl) rfl rfl) ?_
  refine aF ?_
  refine aG ?_
  refine aE ?_
  refine tr1 rfl (aC (v := .d (.lit (.int .i64 ((w64 (size_0_1 + (x4.length : Int))))))) (aA rfl) rfl rfl) ?_
  refine tr1 rfl (bB (aA rfl) rfl rfl rfl) ?_
  refine aF ?_
  refine bI rfl (fun c6 => ?_) (fun c6 => ?_)
  ·have h := aR c6 h
   cases h
  ·have h := aQ c6 h
   refine dH ?_
   refine aE ?_
   refine tr1 rfl (bA (aA rfl) rfl rfl rfl) ?_
   refine tr1 rfl (aC (v := .d (.lit (.int .i64 ((w64 (t11_0_1 + 1)))))) (aA rfl) rfl rfl) ?_
   refine aF ?_
   exact ⟨(w64 (size_0_1 + (x4.length : Int)), w64 (t11_0_1 + 1)), h, aW [] rfl rfl (aM rfl (aM rfl (aX ⟨rfl, rfl, rfl, trivial⟩)))⟩
 ·have h := aQ c3 h
  refine cP ?_
  refine .inl ⟨rfl, ?_⟩
  simp only [rK] at h
  refine aG ?_
  refine aE ?_
  refine tr1 rfl (aC (v := .d (.lit (.int .i64 size_0_1))) (aA rfl) rfl rfl) ?_
  obtain ⟨r7, h8, h⟩ := bind_some h
  refine bW rfl (vX (aA rfl) (.func _ _ Tryz.call88) rfl rfl (xN _ h8)) ?_
  rintro _ ⟨v9, rfl⟩
  refine tr1 rfl (aJ (v := .d (.lit v9)) (aA rfl) rfl rfl) ?_
  refine aF ?_
  refine aG ?_
  refine aG ?_
  refine aE ?_
  refine tr1 rfl (aC (v := .d (.sl 1 (slices_0.map qV))) (aA rfl) rfl rfl) ?_
  refine tr1 rfl (cW (aA rfl) rfl xM.of) ?_
  refine tr1 rfl (aC (v := .d (.lit (.int .i64 0))) (aA rfl) rfl rfl) ?_
  refine aF ?_
  refine bQ ?_
  refine cI [25, 26] (fun (s10 : Int × (List Int) × Value) => [(6, .d (.lit s10.2.2)), (27, .d (.lit (.int .i64 s10.1)))]) (fun (s10 : Int × (List Int) × Value) => [.arr s10.2.2 3 1 (s10.2.1.map cE)]) (fun (k : Nat) (s10 : Int × (List Int) × Value) => lL slices_0 (slices_0.length : Int) k s10.1 s10.2.1) (fun _ => rfl) (0, r7, v9) h (aW [0] rfl rfl (aM rfl (aM rfl (aX ⟨rfl, rfl, trivial⟩)))) ?_
  rintro k12 ⟨t27_2_10, o24_2_10, w11⟩ h
  simp only [lL] at h
  refine aG ?_
  refine aE ?_
  refine tr1 rfl (bB (aA rfl) rfl rfl rfl) ?_
  refine aF ?_
  refine aG ?_
  refine bI rfl (fun c13 => ?_) (fun c13 => ?_)
  ·have h := aR c13 h
   refine bG ?_
   refine aG ?_
   refine bQ ?_
   refine aG ?_
   refine aE ?_
   obtain ⟨x14, h15, h⟩ := bind_some h
   refine tr1 rfl (bM (aA rfl) rfl rfl xM.of (bH qV h15)) ?_
   refine tr1 rfl (bY (aA rfl) rfl aFg) ?_
   refine tr1 rfl (aJ (v := .d (.sl 1 (x14.map cE))) (aA rfl) rfl rfl) ?_
   refine aF ?_
   refine aE ?_
   refine tr1 rfl (aC (v := .d (.lit w11)) (aA rfl) rfl rfl) ?_
   refine tr1 rfl (aC (v := .d (.sl 1 (x14.map cE))) (aA rfl) rfl rfl) ?_
   obtain ⟨x16, h17, h⟩ := bind_some h
   refine bW rfl (kB (i := 0) (aA rfl) eT rfl rfl rfl (fun _ => rfl) h17 rfl) ?_
   rintro _ ⟨v18, rfl⟩
   refine tr1 rfl (aJ (v := .d (.lit v18)) (aA rfl) rfl rfl) ?_
   refine dN ?_
   refine aE ?_
   refine tr1 rfl (bA (aA rfl) rfl rfl rfl) ?_
   refine tr1 rfl (aC (v := .d (.lit (.int .i64 ((w64 (t27_2_10 + 1)))))) (aA rfl) rfl rfl) ?_
   refine aF ?_
   exact ⟨(w64 (t27_2_10 + 1), x16, v18), h, aW [0] rfl rfl (aM rfl (aM rfl (aX ⟨rfl, rfl, trivial⟩)))⟩
  ·have h := aQ c13 h
   refine cP ?_
   refine .inl ⟨rfl, ?_⟩
   simp only [rL] at h
   refine aG ?_
   refine aE ?_
   refine tr1 rfl (aC (v := .d (.lit w11)) (aA rfl) rfl rfl) ?_
   refine tr1 rfl (aJ (v := .d (.lit w11)) (aA rfl) rfl rfl) ?_
   refine aF ?_
   have h := Option.some.inj h
   subst h
   refine cG (bX (fH (k := 2) (v := .d (.sl 1 (o24_2_10.map cE))) (.d (gE 0 rfl (cT (f := cE) fun _ => rfl))) (rT))) ?_
   exact bL ⟨rfl, _, .one _, rfl, rfl⟩

theorem vV (kr : Nat) : ∀ (book : cC) (pl : Int) (wk : Int) (ms : Bool) (be : Int) (wo : Int) (week_1 : Int) (prizes_2 : List Int) (free_3 : List Int) {r : cC × Bool × Int × Int} {book_b book_o : Nat} {bb_b bb_o : Nat} {pl_b pl_o : Nat} {wk_b wk_o : Nat} {ms_b ms_o : Nat} {be_b be_o : Nat} {wo_b wo_o : Nat} (_h : kJ kr book pl wk ms be wo week_1 prizes_2 free_3 = some r), fN Tryz.prog 44 [.bp book_b book_o 0, .d (.lit (.int .i64 week_1)), .d (.sl 1 (prizes_2.map cE)), .d (.sl 1 (free_3.map cE)), .fn 45 [.bp bb_b bb_o 0, .bp pl_b pl_o 0, .bp wk_b wk_o 0, .bp ms_b ms_o 0, .bp be_b be_o 0, .bp wo_b wo_o 0]] [.box book_b book_o (cN book), .box bb_b bb_o [gH book_b book_o 0], .box pl_b pl_o [.lit (.int .i64 pl)], .box wk_b wk_o [.lit (.int .i64 wk)], .box ms_b ms_o [.lit (.bool ms)], .box be_b be_o [.lit (.int .i64 be)], .box wo_b wo_o [.lit (.int .i64 wo)]] (fun r' o' => r' = .tup [] ∧ o' = [.box book_b book_o (cN r.1), .box bb_b bb_o [gH book_b book_o 0], .box pl_b pl_o [.lit (.int .i64 pl)], .box wk_b wk_o [.lit (.int .i64 wk)], .box ms_b ms_o [.lit (.bool r.2.1)], .box be_b be_o [.lit (.int .i64 r.2.2.1)], .box wo_b wo_o [.lit (.int .i64 r.2.2.2)]]) := by
  induction kr with
  | zero => intros; rename_i h; cases h
  | succ kr ih =>
    intro book pl wk ms be wo week_1 prizes_2 free_3 r book_b book_o bb_b bb_o pl_b pl_o wk_b wk_o ms_b ms_o be_b be_o wo_b wo_o h
    simp only [kJ] at h
    refine jB Tryz.func44 rfl (rs := []) Tryz.results44 Tryz.ntmps44 (Nat.le_of_ble_eq_true rfl) ?_
    refine aG ?_
    refine aG ?_
    refine aE ?_
    refine tr1 rfl (aC (v := .d (.sl 1 (prizes_2.map cE))) (aA rfl) rfl rfl) ?_
    refine tr1 rfl (cW (aA rfl) rfl eT.of) ?_
    refine tr1 rfl (bB (aA rfl) rfl rfl rfl) ?_
    refine tr1 rfl (aC (v := .d (.lit (.bool ((decide ((prizes_2.length : Int) = 0)))))) (aA rfl) rfl rfl) ?_
    obtain ⟨b1, h2, h⟩ := bind_some h
    refine bZ 4 [0, 1, 2, 3, 4] 20 b1 ?_ ?_
    ·refine bF (decide ((prizes_2.length : Int) = 0)) (fun c30 => ?_) (fun c30 => ?_)
     ·have h2 := aR c30 h2
      refine aN rfl rfl (aA rfl) rfl (aA rfl) rfl c30 ?_
      refine aN rfl rfl (aA rfl) rfl (aA rfl) rfl c30 ?_
      refine aN rfl rfl (aA rfl) rfl (aA rfl) rfl c30 ?_
      refine tr1 rfl (bN (v := .d (.lit (.bool true))) (aA rfl) rfl c30 rfl rfl) ?_
      have h2 := Option.some.inj h2
      subst h2
      refine aF (aY rfl ⟨rfl, rfl, rfl, rfl, rfl, trivial⟩ rfl)
     ·have h2 := aQ c30 h2
      refine aL rfl rfl (aA rfl) rfl c30 (aC (v := .d (.sl 1 (free_3.map cE))) (aA rfl) rfl rfl) ?_
      refine aL rfl rfl (aA rfl) rfl c30 (cW (aA rfl) rfl eT.of) ?_
      refine aL rfl rfl (aA rfl) rfl c30 (bB (aA rfl) rfl rfl rfl) ?_
      refine tr1 rfl (bO (v := .d (.lit (.bool ((decide ((free_3.length : Int) = 0)))))) (aA rfl) rfl c30 rfl rfl) ?_
      have h2 := Option.some.inj h2
      subst h2
      refine aF (aY rfl ⟨rfl, rfl, rfl, rfl, rfl, trivial⟩ rfl)
    ·refine aF ?_
     refine bI rfl (fun c3 => ?_) (fun c3 => ?_)
     ·have h := aR c3 h
      refine aG ?_
      refine aE ?_
      refine tr1 rfl (aC (v := .fn 45 [.bp bb_b bb_o 0, .bp pl_b pl_o 0, .bp wk_b wk_o 0, .bp ms_b ms_o 0, .bp be_b be_o 0, .bp wo_b wo_o 0]) (aA rfl) rfl rfl) ?_
      obtain ⟨r4, h5, h⟩ := bind_some h
      refine bW rfl (dI (passed := [.box book_b book_o (cN book), .box bb_b bb_o [gH book_b book_o 0], .box pl_b pl_o [.lit (.int .i64 pl)], .box wk_b wk_o [.lit (.int .i64 wk)], .box ms_b ms_o [.lit (.bool ms)], .box be_b be_o [.lit (.int .i64 be)], .box wo_b wo_o [.lit (.int .i64 wo)]]) (aA rfl) rfl (.clo _ _ _ _ Tryz.call45 rfl) (tP rfl) rfl (aAe book pl wk ms be wo h5)) ?_
      rintro _ ⟨_, _, ⟨rfl, rfl⟩, rfl⟩
      refine aF ?_
      have h := Option.some.inj h
      subst h
      exact bL ⟨rfl, _, [.box book_b book_o (cN book), .box bb_b bb_o [gH book_b book_o 0], .box pl_b pl_o [.lit (.int .i64 pl)], .box wk_b wk_o [.lit (.int .i64 wk)], .box ms_b ms_o [.lit (.bool r4.1)], .box be_b be_o [.lit (.int .i64 r4.2.1)], .box wo_b wo_o [.lit (.int .i64 r4.2.2)]], [], _, .none, .refl _, .same _, rfl, rfl⟩
     ·have h := aQ c3 h
      refine bG ?_
      refine aG ?_
      refine aE ?_
      refine tr1 rfl (aC (v := .bp book_b book_o 0) (aA rfl) rfl rfl) ?_
      refine tr1 rfl (iP (aA rfl) rfl) ?_
      refine tr1 rfl (aT (aA rfl) rfl gM) ?_
      refine tr1 rfl (aT (aA rfl) rfl dS) ?_
      refine tr1 rfl (aV (aA rfl) rfl (i := 0) rfl rfl fT) ?_
      refine tr1 rfl (cW (aA rfl) rfl bP.of) ?_
      refine tr1 rfl (aJ (v := .d (.lit (.int .i64 ((book.Ledger.Reports.length : Int))))) (aA rfl) rfl rfl) ?_
      refine aF ?_
      refine aG ?_
      refine aG ?_
      refine aE ?_
      refine tr1 rfl (aC (v := .d (.sl 1 (free_3.map cE))) (aA rfl) rfl rfl) ?_
      refine tr1 rfl (cW (aA rfl) rfl eT.of) ?_
      refine tr1 rfl (aC (v := .d (.lit (.int .i64 0))) (aA rfl) rfl rfl) ?_
      refine aF ?_
      refine bQ ?_
      refine cI [0, 1, 2, 3, 4, 10, 29, 30] (fun (s6 : Int × cC × Bool × Int × Int) => [(31, .d (.lit (.int .i64 s6.1)))]) (fun (s6 : Int × cC × Bool × Int × Int) => [.box book_b book_o (cN s6.2.1), .box bb_b bb_o [gH book_b book_o 0], .box pl_b pl_o [.lit (.int .i64 pl)], .box wk_b wk_o [.lit (.int .i64 wk)], .box ms_b ms_o [.lit (.bool s6.2.2.1)], .box be_b be_o [.lit (.int .i64 s6.2.2.2.1)], .box wo_b wo_o [.lit (.int .i64 s6.2.2.2.2)]]) (fun (k : Nat) (s6 : Int × cC × Bool × Int × Int) => lI (kJ kr) week_1 prizes_2 free_3 (book.Ledger.Reports.length : Int) free_3 (free_3.length : Int) pl wk k s6.1 s6.2.1 s6.2.2.1 s6.2.2.2.1 s6.2.2.2.2) (fun _ => rfl) (0, book, ms, be, wo) h (aW [0, 1, 2, 3, 4, 5, 6] rfl rfl (aM rfl (aX ⟨rfl, rfl, rfl, rfl, rfl, rfl, rfl, rfl, trivial⟩))) ?_
      rintro k7 ⟨t31_0_6, b_0_6, b_0_6_4, b_0_6_5, b_0_6_6⟩ h
      simp only [lI] at h
      refine aG ?_
      refine aE ?_
      refine tr1 rfl (bB (aA rfl) rfl rfl rfl) ?_
      refine aF ?_
      refine aG ?_
      refine bI rfl (fun c8 => ?_) (fun c8 => ?_)
      ·have h := aR c8 h
       refine bG ?_
       refine aG ?_
       refine bQ ?_
       refine aG ?_
       refine aE ?_
       refine tr1 rfl (aC (v := .d (.lit (.int .i64 t31_0_6))) (aA rfl) rfl rfl) ?_
       obtain ⟨x9, h10, h⟩ := bind_some h
       refine tr1 rfl (bM (aA rfl) rfl rfl eT.of (bH cE h10)) ?_
       refine tr1 rfl (bY (aA rfl) rfl bE) ?_
       refine tr1 rfl (aJ (v := .d (.lit (.int .i64 t31_0_6))) (aA rfl) rfl rfl) ?_
       refine tr1 rfl (aJ (v := .d (.lit (.int .i64 x9))) (aA rfl) rfl rfl) ?_
       refine aF ?_
       refine aG ?_
       obtain ⟨x12, h13, h⟩ := bind_some h
       obtain ⟨x14, h15, h⟩ := bind_some h
       obtain ⟨x16, h17, h⟩ := bind_some h
       refine mQ mix 19 [0, 1, 2, 3, 4, 10, 11, 29, 30, 31] (fun X11 => [(36, .bp book_b book_o 0), (54, .d (.sl 5 (x16.map aB)))]) (fun X11 => [.box book_b book_o (cN b_0_6), .box bb_b bb_o [gH book_b book_o 0], .box pl_b pl_o [.lit (.int .i64 pl)], .box wk_b wk_o [.lit (.int .i64 wk)], .box ms_b ms_o [.lit (.bool b_0_6_4)], .box be_b be_o [.lit (.int .i64 b_0_6_5)], .box wo_b wo_o [.lit (.int .i64 b_0_6_6)]]) ?_ ?_
       ·refine ⟨0, fun X11 => [(36, 0, .bp book_b book_o 0), (37, 1, .bp book_b book_o 0), (38, 2, .bp book_b book_o 0), (39, 3, .bp book_b book_o 0), (40, 4, .bp book_b book_o 2), (41, 5, .d (.sl 5 (b_0_6.Ledger.Reports.map aB))), (42, 6, .d (.lit (.int .i64 ((book.Ledger.Reports.length : Int))))), (43, 7, .d (.lit (.int .i64 ((book.Ledger.Reports.length : Int))))), (44, 8, .fl false 5 (x12.map aB)), (45, 9, .d (.lit (.int .i64 ((book.Ledger.Reports.length : Int))))), (46, 10, .d (.lit (.int .i64 ((w64 (100 + (book.Ledger.Reports.length : Int))))))), (47, 11, .d (.lit (.int .i64 x9))), (48, 12, .d (.lit (.int .i64 week_1))), (49, 13, .d (.sl 1 (prizes_2.map cE))), (50, 14, .cp [.lit (.int .i64 x14)]), (51, 15, .d (.lit (.int .i64 x14))), (52, 16, .agg (aB (aD.mk (w64 (100 + (book.Ledger.Reports.length : Int))) x9 week_1 x14 false))), (53, 17, .d (.sl 5 ((([(aD.mk (w64 (100 + (book.Ledger.Reports.length : Int))) x9 week_1 x14 false)])).map aB))), (54, 18, .d (.sl 5 (x16.map aB)))], fun X11 => [([], .box book_b book_o (cN b_0_6)), ([], .box bb_b bb_o [gH book_b book_o 0]), ([], .box pl_b pl_o [.lit (.int .i64 pl)]), ([], .box wk_b wk_o [.lit (.int .i64 wk)]), ([], .box ms_b ms_o [.lit (.bool b_0_6_4)]), ([], .box be_b be_o [.lit (.int .i64 b_0_6_5)]), ([], .box wo_b wo_o [.lit (.int .i64 b_0_6_6)])], ?_, ?_⟩
        · exact ⟨by kernel_rfl, by kernel_rfl, by kernel_rfl, fun _ => by kernel_rfl, fun _ => by kernel_rfl, fun _ => by kernel_rfl, fun _ => rfl, [([], []), ([], [18]), ([1], [18]), ([2], [18]), ([3], [18]), ([4], [18]), ([], [18]), ([], [18]), ([5, 6, 7], [18]), ([], [18]), ([9], [18]), ([], [18]), ([], [18]), ([], [18]), ([13], [18]), ([14], [18]), ([10, 11, 12, 15], [18]), ([16], [18]), ([8, 17], [])], by kernel_rfl, ⟨fun X11 S hw hi hS => bT (X := X11) rfl (hw X11) rfl (aP rfl (aC (v := .bp book_b book_o 0) (aA rfl) (aH hS rfl) rfl)),
      fun X11 S hw hi hS => bT (X := X11) rfl (hw X11) rfl (aP rfl (aC (v := .bp book_b book_o 0) (aA rfl) (aH hS rfl) rfl)),
      fun X11 S hw hi hS => bT (X := X11) rfl (hw X11) rfl (aP rfl (iP (aA rfl) (aH hS rfl))),
      fun X11 S hw hi hS => bT (X := X11) rfl (hw X11) rfl (aP rfl (aT (aA rfl) (aH hS rfl) gM)),
      fun X11 S hw hi hS => bT (X := X11) rfl (hw X11) rfl (aP rfl (aT (aA rfl) (aH hS rfl) dS)),
      fun X11 S hw hi hS => bT (X := X11) rfl (hw X11) rfl (aP rfl (aV (aA rfl) (aH hS rfl) (i := 0) (og hS rfl rfl) rfl fT)),
      fun X11 S hw hi hS => bT (X := X11) rfl (hw X11) rfl (aP rfl (aC (v := .d (.lit (.int .i64 ((book.Ledger.Reports.length : Int))))) (aA rfl) (aH hS rfl) rfl)),
      fun X11 S hw hi hS => bT (X := X11) rfl (hw X11) rfl (aP rfl (aC (v := .d (.lit (.int .i64 ((book.Ledger.Reports.length : Int))))) (aA rfl) (aH hS rfl) rfl)),
      fun X11 S hw hi hS => bT (X := X11) rfl (hw X11) rfl (aP rfl (aDd (aA rfl) bP.of (aH hS rfl) (aH hS rfl) (aH hS rfl) (pM aB h13))),
      fun X11 S hw hi hS => bT (X := X11) rfl (hw X11) rfl (aP rfl (aC (v := .d (.lit (.int .i64 ((book.Ledger.Reports.length : Int))))) (aA rfl) (aH hS rfl) rfl)),
      fun X11 S hw hi hS => bT (X := X11) rfl (hw X11) rfl (aP rfl (bA (aA rfl) rfl (aH hS rfl) rfl)),
      fun X11 S hw hi hS => bT (X := X11) rfl (hw X11) rfl (aP rfl (aC (v := .d (.lit (.int .i64 x9))) (aA rfl) (aH hS rfl) rfl)),
      fun X11 S hw hi hS => bT (X := X11) rfl (hw X11) rfl (aP rfl (aC (v := .d (.lit (.int .i64 week_1))) (aA rfl) (aH hS rfl) rfl)),
      fun X11 S hw hi hS => bT (X := X11) rfl (hw X11) rfl (aP rfl (aC (v := .d (.sl 1 (prizes_2.map cE))) (aA rfl) (aH hS rfl) rfl)),
      fun X11 S hw hi hS => bT (X := X11) rfl (hw X11) rfl (aP rfl (bM (aA rfl) (aH hS rfl) rfl eT.of (bH cE h15))),
      fun X11 S hw hi hS => bT (X := X11) rfl (hw X11) rfl (aP rfl (bY (aA rfl) (aH hS rfl) bE)),
      fun X11 S hw hi hS => bT (X := X11) rfl (hw X11) rfl (aP rfl (mA (aA rfl) uG (zs := [.lit (.int .i64 0), .lit (.int .i64 0), .lit (.int .i64 0), .lit (.int .i64 0), .lit (.bool false)]) rfl rfl rfl (pa2 (aH hS rfl) (pa2 (aH hS rfl) (pa2 (aH hS rfl) (pa2 (aH hS rfl) pan)))) (es := [.lit (.int .i64 ((w64 (100 + (book.Ledger.Reports.length : Int))))), .lit (.int .i64 x9), .lit (.int .i64 week_1), .lit (.int .i64 x14), .lit (.bool false)]) rfl)),
      fun X11 S hw hi hS => bT (X := X11) rfl (hw X11) rfl (aP rfl (iH (aA rfl) bP rfl (pa2 (aH hS rfl) pan) (rows := ([(aD.mk (w64 (100 + (book.Ledger.Reports.length : Int))) x9 week_1 x14 false)]).map aB) rfl (cT (f := aB) fun _ => rfl) rfl (by decide))),
      fun X11 S hw hi hS => bT (X := X11) rfl (hw X11) rfl (aP rfl (sN (nn := false) (f := aB) (xs := x12) (ys := [(aD.mk (w64 (100 + (book.Ledger.Reports.length : Int))) x9 week_1 x14 false)]) (aA rfl) bP (aH hS rfl) (aH hS rfl) (fun _ => rfl) h17 rfl)), trivial⟩⟩
        · exact fun X11 => dJ (aM rfl (aM rfl (aX ⟨rfl, rfl, rfl, rfl, rfl, rfl, rfl, rfl, rfl, rfl, trivial⟩)))
       ·intro X11
        refine tr1 rfl (iP (aA rfl) rfl) ?_
        refine tr1 rfl (aT (aA rfl) rfl gM) ?_
        refine tr1 rfl (aT (aA rfl) rfl dS) ?_
        refine tr1 rfl (cJ (i := 0) rfl rfl rfl rfl rfl Tryz.sizeOf22 rfl (aA rfl) (Nat.le_of_ble_eq_true rfl) (ds' := (cN (cC.mk (aS.mk b_0_6.Ledger.Players b_0_6.Ledger.Counts x16 b_0_6.Ledger.Bans b_0_6.Ledger.Frozen)))) rfl) ?_
        refine aF ?_
        obtain ⟨x18, h19, h⟩ := bind_some h
        obtain ⟨x20, h21, h⟩ := bind_some h
        obtain ⟨x22, h23, h⟩ := bind_some h
        obtain ⟨r24, h25, h⟩ := bind_some h
        refine fA mix 14 [0, 1, 2, 3, 4, 10, 29, 30, 31] [(58, .bp book_b book_o 0), (59, .d (.lit (.int .i64 week_1))), (61, .d (.sl 1 (x18.map cE))), (70, .d (.sl 1 (r24.map cE))), (71, .fn 45 [.bp bb_b bb_o 0, .bp pl_b pl_o 0, .bp wk_b wk_o 0, .bp ms_b ms_o 0, .bp be_b be_o 0, .bp wo_b wo_o 0])] ?_ ?_
        ·refine ⟨[(58, 0, .bp book_b book_o 0), (59, 1, .d (.lit (.int .i64 week_1))), (60, 2, .d (.sl 1 (prizes_2.map cE))), (61, 3, .d (.sl 1 (x18.map cE))), (62, 4, .d (.sl 1 (free_3.map cE))), (63, 5, .d (.lit (.int .i64 t31_0_6))), (64, 6, .d (.sl 1 (x20.map cE))), (65, 7, .d (.sl 1 (free_3.map cE))), (66, 8, .d (.lit (.int .i64 t31_0_6))), (67, 9, .d (.lit (.int .i64 ((w64 (t31_0_6 + 1)))))), (68, 10, .d (.sl 1 (x22.map cE))), (69, 11, .d (.sl 1 ((([x20, x22])).map qV))), (70, 12, .d (.sl 1 (r24.map cE))), (71, 13, .fn 45 [.bp bb_b bb_o 0, .bp pl_b pl_o 0, .bp wk_b wk_o 0, .bp ms_b ms_o 0, .bp be_b be_o 0, .bp wo_b wo_o 0])], ?_, ?_⟩
         · exact ⟨by kernel_rfl, by kernel_rfl, by kernel_rfl, by kernel_rfl, by kernel_rfl, [([], []), ([], []), ([], []), ([2], []), ([], []), ([], []), ([4, 5], []), ([], []), ([], []), ([8], []), ([7, 9], []), ([6, 10], []), ([11], []), ([], [])], by kernel_rfl, ⟨fun S hS => aI rfl (aP rfl (aC (v := .bp book_b book_o 0) (aA rfl) (aH hS rfl) rfl)),
      fun S hS => aI rfl (aP rfl (aC (v := .d (.lit (.int .i64 week_1))) (aA rfl) (aH hS rfl) rfl)),
      fun S hS => aI rfl (aP rfl (aC (v := .d (.sl 1 (prizes_2.map cE))) (aA rfl) (aH hS rfl) rfl)),
      fun S hS => aI rfl (aP rfl (mO (aA rfl) eT.of (aH hS rfl) rfl aFv (pM cE h19))),
      fun S hS => aI rfl (aP rfl (aC (v := .d (.sl 1 (free_3.map cE))) (aA rfl) (aH hS rfl) rfl)),
      fun S hS => aI rfl (aP rfl (aC (v := .d (.lit (.int .i64 t31_0_6))) (aA rfl) (aH hS rfl) rfl)),
      fun S hS => aI rfl (aP rfl (mO (aA rfl) eT.of (aH hS rfl) rfl (bo (aH hS rfl)) (pM cE h21))),
      fun S hS => aI rfl (aP rfl (aC (v := .d (.sl 1 (free_3.map cE))) (aA rfl) (aH hS rfl) rfl)),
      fun S hS => aI rfl (aP rfl (aC (v := .d (.lit (.int .i64 t31_0_6))) (aA rfl) (aH hS rfl) rfl)),
      fun S hS => aI rfl (aP rfl (bA (aA rfl) (aH hS rfl) rfl rfl)),
      fun S hS => aI rfl (aP rfl (mO (aA rfl) eT.of (aH hS rfl) (bo (aH hS rfl)) aFv (pM cE h23))),
      fun S hS => aI rfl (aP rfl (iH (aA rfl) xM rfl (pa2 (aH hS rfl) (pa2 (aH hS rfl) pan)) (rows := ([x20, x22]).map qV) rfl (cT (f := qV) fun _ => rfl) rfl (by decide))),
      fun S hS => aI rfl (aP rfl (jA (aA rfl) (.func _ _ Tryz.call70) (ev2 (aH hS rfl) evn) rfl (wN _ h25))),
      fun S hS => aI rfl (aP rfl (aC (v := .fn 45 [.bp bb_b bb_o 0, .bp pl_b pl_o 0, .bp wk_b wk_o 0, .bp ms_b ms_o 0, .bp be_b be_o 0, .bp wo_b wo_o 0]) (aA rfl) (aH hS rfl) rfl)), trivial⟩⟩
         · exact dJ (aM rfl (aM rfl (aM rfl (aM rfl (aM rfl (aX ⟨rfl, rfl, rfl, rfl, rfl, rfl, rfl, rfl, rfl, trivial⟩))))))
        ·obtain ⟨r26, h27, h⟩ := bind_some h
         refine bW rfl (dI (passed := [.box book_b book_o (cN (cC.mk (aS.mk b_0_6.Ledger.Players b_0_6.Ledger.Counts x16 b_0_6.Ledger.Bans b_0_6.Ledger.Frozen))), .box bb_b bb_o [gH book_b book_o 0], .box pl_b pl_o [.lit (.int .i64 pl)], .box wk_b wk_o [.lit (.int .i64 wk)], .box ms_b ms_o [.lit (.bool b_0_6_4)], .box be_b be_o [.lit (.int .i64 b_0_6_5)], .box wo_b wo_o [.lit (.int .i64 b_0_6_6)]]) (aA rfl) rfl (.func _ _ Tryz.call44) rfl rfl (ih (cC.mk (aS.mk b_0_6.Ledger.Players b_0_6.Ledger.Counts x16 b_0_6.Ledger.Bans b_0_6.Ledger.Frozen)) pl wk b_0_6_4 b_0_6_5 b_0_6_6 week_1 x18 r24 h27)) ?_
         rintro _ ⟨_, _, ⟨rfl, rfl⟩, rfl⟩
         refine dN ?_
         refine aE ?_
         refine tr1 rfl (bA (aA rfl) rfl rfl rfl) ?_
         refine tr1 rfl (aC (v := .d (.lit (.int .i64 ((w64 (t31_0_6 + 1)))))) (aA rfl) rfl rfl) ?_
         refine aF ?_
         exact ⟨(w64 (t31_0_6 + 1), r26.1, r26.2.1, r26.2.2.1, r26.2.2.2), h, aW [0, 1, 2, 3, 4, 5, 6] rfl rfl (aM rfl (aX ⟨rfl, rfl, rfl, rfl, rfl, rfl, rfl, rfl, trivial⟩))⟩
      ·have h := aQ c8 h
       refine cP ?_
       refine .inl ⟨rfl, ?_⟩
       simp only [rF] at h
       refine aE ?_
       refine tr1 rfl (aC (v := .bp book_b book_o 0) (aA rfl) rfl rfl) ?_
       refine tr1 rfl (aC (v := .bp book_b book_o 0) (aA rfl) rfl rfl) ?_
       refine tr1 rfl (iP (aA rfl) rfl) ?_
       refine tr1 rfl (aT (aA rfl) rfl gM) ?_
       refine tr1 rfl (aT (aA rfl) rfl dS) ?_
       refine tr1 rfl (aV (aA rfl) rfl (i := 0) rfl rfl fT) ?_
       refine tr1 rfl (aC (v := .d (.lit (.int .i64 ((book.Ledger.Reports.length : Int))))) (aA rfl) rfl rfl) ?_
       obtain ⟨x28, h29, h⟩ := bind_some h
       refine tr1 rfl (mO (aA rfl) bP.of rfl rfl rfl (pM aB h29)) ?_
       refine tr1 rfl (iP (aA rfl) rfl) ?_
       refine tr1 rfl (aT (aA rfl) rfl gM) ?_
       refine tr1 rfl (aT (aA rfl) rfl dS) ?_
       refine tr1 rfl (cJ (i := 0) rfl rfl rfl rfl rfl Tryz.sizeOf22 rfl (aA rfl) (Nat.le_of_ble_eq_true rfl) (ds' := (cN (cC.mk (aS.mk b_0_6.Ledger.Players b_0_6.Ledger.Counts x28 b_0_6.Ledger.Bans b_0_6.Ledger.Frozen)))) rfl) ?_
       refine aF ?_
       have h := Option.some.inj h
       subst h
       exact ⟨_, [.box book_b book_o (cN (cC.mk (aS.mk b_0_6.Ledger.Players b_0_6.Ledger.Counts x28 b_0_6.Ledger.Bans b_0_6.Ledger.Frozen))), .box bb_b bb_o [gH book_b book_o 0], .box pl_b pl_o [.lit (.int .i64 pl)], .box wk_b wk_o [.lit (.int .i64 wk)], .box ms_b ms_o [.lit (.bool b_0_6_4)], .box be_b be_o [.lit (.int .i64 b_0_6_5)], .box wo_b wo_o [.lit (.int .i64 b_0_6_6)]], [], _, .none, .refl _, .same _, rfl, rfl⟩
theorem wK (book : cC) (pl : Int) (wk : Int) (ms : Bool) (be : Int) (wo : Int) (week_1 : Int) (prizes_2 : List Int) (free_3 : List Int) {r : cC × Bool × Int × Int} {book_b book_o : Nat} {bb_b bb_o : Nat} {pl_b pl_o : Nat} {wk_b wk_o : Nat} {ms_b ms_o : Nat} {be_b be_o : Nat} {wo_b wo_o : Nat} (h : tA book pl wk ms be wo week_1 prizes_2 free_3 = some r) : fN Tryz.prog 44 [.bp book_b book_o 0, .d (.lit (.int .i64 week_1)), .d (.sl 1 (prizes_2.map cE)), .d (.sl 1 (free_3.map cE)), .fn 45 [.bp bb_b bb_o 0, .bp pl_b pl_o 0, .bp wk_b wk_o 0, .bp ms_b ms_o 0, .bp be_b be_o 0, .bp wo_b wo_o 0]] [.box book_b book_o (cN book), .box bb_b bb_o [gH book_b book_o 0], .box pl_b pl_o [.lit (.int .i64 pl)], .box wk_b wk_o [.lit (.int .i64 wk)], .box ms_b ms_o [.lit (.bool ms)], .box be_b be_o [.lit (.int .i64 be)], .box wo_b wo_o [.lit (.int .i64 wo)]] (fun r' o' => r' = .tup [] ∧ o' = [.box book_b book_o (cN r.1), .box bb_b bb_o [gH book_b book_o 0], .box pl_b pl_o [.lit (.int .i64 pl)], .box wk_b wk_o [.lit (.int .i64 wk)], .box ms_b ms_o [.lit (.bool r.2.1)], .box be_b be_o [.lit (.int .i64 r.2.2.1)], .box wo_b wo_o [.lit (.int .i64 r.2.2.2)]]) := vV BIG _ _ _ _ _ _ _ _ _ h

theorem aCf (l_0 : aS) (player_1 : Int) (week_2 : Int) (prizes_3 : List Int) {r : Int × Int × Int} (h : vU l_0 player_1 week_2 prizes_3 = some r) : Fn Tryz.prog 20 [.agg (aU l_0), .d (.lit (.int .i64 player_1)), .d (.lit (.int .i64 week_2)), .d (.sl 1 (prizes_3.map cE))] (.tup [.d (.lit (.int .i64 r.1)), .d (.lit (.int .i64 r.2.1)), .d (.lit (.int .i64 r.2.2))]) := by
 unfold vU at h
 refine sS Tryz.func20 rfl (rs := [.cell 8 3, .cell 9 3, .tmp 10]) Tryz.results20 Tryz.ntmps20 (Nat.le_of_ble_eq_true rfl) ?_
 refine aG ?_
 refine aE ?_
 refine bW rfl (eG (v := .agg (aU l_0)) (aA rfl) rfl rfl rfl) ?_
 rintro _ ⟨b1, rfl⟩
 refine bW rfl (eG (v := .d (.lit (.int .i64 player_1))) (aA rfl) rfl rfl rfl) ?_
 rintro _ ⟨b2, rfl⟩
 refine bW rfl (eG (v := .d (.lit (.int .i64 week_2))) (aA rfl) rfl rfl rfl) ?_
 rintro _ ⟨b3, rfl⟩
 refine bW rfl (fR (zs := [.lit (.int .i64 0)]) (aA rfl) Tryz.zeroValue3 rfl rfl) ?_
 rintro _ ⟨b4, rfl⟩
 refine bW rfl (fR (zs := [.lit (.int .i64 0)]) (aA rfl) Tryz.zeroValue3 rfl rfl) ?_
 rintro _ ⟨b5, rfl⟩
 refine tr1 rfl (aJ (v := .d (.lit (.int .i64 0))) (aA rfl) rfl rfl) ?_
 refine aF ?_
 refine aG ?_
 refine aE ?_
 refine tr1 rfl (cF (aA rfl) rfl (i := 0) rfl eA (es := (aU l_0)) rfl rfl) ?_
 refine tr1 rfl (aV (aA rfl) rfl (i := 1) rfl rfl bE) ?_
 refine tr1 rfl (aV (aA rfl) rfl (i := 2) rfl rfl bE) ?_
 obtain ⟨r6, h7, h⟩ := bind_some h
 refine bW rfl (dI (passed := []) (aA rfl) rfl (.func _ _ Tryz.call26) rfl rfl (pI _ _ _ h7)) ?_
 rintro _ ⟨_, _, ⟨b9, w10, rfl, rfl⟩, rfl⟩
 obtain ⟨_ | y8, e11⟩ := r6
 ·have h := tV h
  refine eW (aW [0, 1, 2, 3, 4] rfl rfl (le_refl _)) ?_
  refine tr1 rfl (aC (v := .tup [.d (.lit (.pointer none)), .d (.lit (.int .i64 e11))]) (aA rfl) rfl rfl) ?_
  refine tr1 rfl (cL (aA rfl) rfl rfl) ?_
  refine tr1 rfl (cL (aA rfl) rfl rfl) ?_
  refine bW rfl (fR (zs := [.lit (.pointer none)]) (aA rfl) Tryz.zeroValue51 rfl rfl) ?_
  rintro _ ⟨b12, rfl⟩
  refine tr1 rfl (cJ (i := 5) rfl rfl rfl rfl rfl Tryz.sizeOf51 rfl (aA rfl) (Nat.le_of_ble_eq_true rfl) (ds' := [.lit (.pointer none)]) rfl) ?_
  refine tr1 rfl (aJ (v := .d (.lit (.int .i64 e11))) (aA rfl) rfl rfl) ?_
  refine aF ?_
  refine aG ?_
  refine aG ?_
  refine aE ?_
  refine tr1 rfl (aC (v := .d (.lit (.int .i64 e11))) (aA rfl) rfl rfl) ?_
  refine tr1 rfl (bB (aA rfl) rfl rfl rfl) ?_
  refine aF ?_
  refine bI rfl (fun c13 => ?_) (fun c13 => ?_)
  ·have h := aR c13 h
   refine aG ?_
   refine aE ?_
   refine tr1 rfl (aC (v := .d (.lit (.int .i64 e11))) (aA rfl) rfl rfl) ?_
   refine tr1 rfl (cJ (i := 3) rfl rfl rfl rfl rfl Tryz.sizeOf3 rfl (aA rfl) (Nat.le_of_ble_eq_true rfl) (ds' := [.lit (.int .i64 0)]) rfl) ?_
   refine tr1 rfl (cJ (i := 4) rfl rfl rfl rfl rfl Tryz.sizeOf3 rfl (aA rfl) (Nat.le_of_ble_eq_true rfl) (ds' := [.lit (.int .i64 0)]) rfl) ?_
   refine tr1 rfl (aJ (v := .d (.lit (.int .i64 e11))) (aA rfl) rfl rfl) ?_
   refine aF ?_
   have h := Option.some.inj h
   subst h
   exact bL ⟨rfl, _, [.box b1 0 (aU l_0), .box b2 0 [.lit (.int .i64 player_1)], .box b3 0 [.lit (.int .i64 week_2)], .box b4 0 [.lit (.int .i64 0)], .box b5 0 [.lit (.int .i64 0)], .box b12 0 [.lit (.pointer none)]], .three (.cell1 8 3 rfl (i := 3) rfl bE rfl) (.cell1 9 3 rfl (i := 4) rfl bE rfl) (.tmp 10 (v := .d (.lit (.int .i64 e11))) rfl), .refl _, .same _⟩
  ·have h := aQ c13 h
   refine bG ?_
   refine aG ?_
   refine aG ?_
   refine aE ?_
   refine tr1 rfl (aC (v := .d (.sl 1 (prizes_3.map cE))) (aA rfl) rfl rfl) ?_
   refine tr1 rfl (cW (aA rfl) rfl eT.of) ?_
   refine tr1 rfl (bB (aA rfl) rfl rfl rfl) ?_
   refine tr1 rfl (aC (v := .d (.lit (.bool ((decide (4 < (prizes_3.length : Int))))))) (aA rfl) rfl rfl) ?_
   obtain ⟨b14, h15, h⟩ := bind_some h
   refine bZ 3 [3, 5, 6, 8, 9, 11] 31 b14 ?_ ?_
   ·refine bF (decide (4 < (prizes_3.length : Int))) (fun c18 => ?_) (fun c18 => ?_)
    ·have h15 := aR c18 h15
     refine aN rfl rfl (aA rfl) rfl (aA rfl) rfl c18 ?_
     refine aN rfl rfl (aA rfl) rfl (aA rfl) rfl c18 ?_
     refine tr1 rfl (bN (v := .d (.lit (.bool true))) (aA rfl) rfl c18 rfl rfl) ?_
     have h15 := Option.some.inj h15
     subst h15
     refine aF (aY rfl ⟨rfl, rfl, rfl, rfl, rfl, rfl, trivial⟩ rfl)
    ·have h15 := aQ c18 h15
     refine aL rfl rfl (aA rfl) rfl c18 (aC (v := .d (.sl 1 (prizes_3.map cE))) (aA rfl) rfl rfl) ?_
     obtain ⟨r20, h21, h15⟩ := bind_some h15
     refine aL rfl rfl (aA rfl) rfl c18 (cB (aA rfl) (.func _ _ Tryz.call40) rfl rfl (BVs.refl _ _) (oS _ _ 41 [] Tryz.call41 (fun _ _ h15 => vG _ h15) h21) rfl) ?_
     refine tr1 rfl (bO (v := .d (.lit (.bool r20))) (aA rfl) rfl c18 rfl rfl) ?_
     have h15 := Option.some.inj h15
     subst h15
     refine aF (aY rfl ⟨rfl, rfl, rfl, rfl, rfl, rfl, trivial⟩ rfl)
   ·refine aF ?_
    refine bI rfl (fun c16 => ?_) (fun c16 => ?_)
    ·have h := aR c16 h
     refine aG ?_
     refine aE ?_
     refine tr1 rfl (cJ (i := 3) rfl rfl rfl rfl rfl Tryz.sizeOf3 rfl (aA rfl) (Nat.le_of_ble_eq_true rfl) (ds' := [.lit (.int .i64 0)]) rfl) ?_
     refine tr1 rfl (cJ (i := 4) rfl rfl rfl rfl rfl Tryz.sizeOf3 rfl (aA rfl) (Nat.le_of_ble_eq_true rfl) (ds' := [.lit (.int .i64 0)]) rfl) ?_
     refine tr1 rfl (aJ (v := .d (.lit (.int .i64 42))) (aA rfl) rfl rfl) ?_
     refine aF ?_
     have h := Option.some.inj h
     subst h
     exact bL ⟨rfl, _, [.box b1 0 (aU l_0), .box b2 0 [.lit (.int .i64 player_1)], .box b3 0 [.lit (.int .i64 week_2)], .box b4 0 [.lit (.int .i64 0)], .box b5 0 [.lit (.int .i64 0)], .box b12 0 [.lit (.pointer none)]], .three (.cell1 8 3 rfl (i := 3) rfl bE rfl) (.cell1 9 3 rfl (i := 4) rfl bE rfl) (.tmp 10 (v := .d (.lit (.int .i64 42))) rfl), .refl _, .same _⟩
    ·have h := aQ c16 h
     refine bG ?_
     refine aG ?_
     refine aE ?_
     refine tr1 rfl (gK 3 1 (.inl rfl) (aA rfl)) ?_
     refine aF ?_
     refine aG ?_
     refine aG ?_
     refine aE ?_
     refine tr1 rfl (aV (aA rfl) rfl (i := 5) rfl rfl vF) ?_
     cases h
 ·have h := tW h
  refine eW (aW [0, 1, 2, 3, 4, 5, 6] rfl rfl (le_refl _)) ?_
  refine tr1 rfl (aC (v := .tup [.bp b9 0 0, .d (.lit (.int .i64 e11))]) (aA rfl) rfl rfl) ?_
  refine tr1 rfl (cL (aA rfl) rfl rfl) ?_
  refine tr1 rfl (cL (aA rfl) rfl rfl) ?_
  refine bW rfl (fR (zs := [.lit (.pointer none)]) (aA rfl) Tryz.zeroValue51 rfl rfl) ?_
  rintro _ ⟨b22, rfl⟩
  refine eW (aHi 20 rfl) ?_
  refine tr1 rfl (cJ (i := 7) rfl rfl rfl rfl rfl Tryz.sizeOf51 rfl (aA rfl) (Nat.le_of_ble_eq_true rfl) (ds' := [gH b9 0 0]) rfl) ?_
  refine tr1 rfl (aJ (v := .d (.lit (.int .i64 e11))) (aA rfl) rfl rfl) ?_
  refine aF ?_
  refine aG ?_
  refine aG ?_
  refine aE ?_
  refine tr1 rfl (aC (v := .d (.lit (.int .i64 e11))) (aA rfl) rfl rfl) ?_
  refine tr1 rfl (bB (aA rfl) rfl rfl rfl) ?_
  refine aF ?_
  refine bI rfl (fun c23 => ?_) (fun c23 => ?_)
  ·have h := aR c23 h
   refine aG ?_
   refine aE ?_
   refine tr1 rfl (aC (v := .d (.lit (.int .i64 e11))) (aA rfl) rfl rfl) ?_
   refine tr1 rfl (cJ (i := 5) rfl rfl rfl rfl rfl Tryz.sizeOf3 rfl (aA rfl) (Nat.le_of_ble_eq_true rfl) (ds' := [.lit (.int .i64 0)]) rfl) ?_
   refine tr1 rfl (cJ (i := 6) rfl rfl rfl rfl rfl Tryz.sizeOf3 rfl (aA rfl) (Nat.le_of_ble_eq_true rfl) (ds' := [.lit (.int .i64 0)]) rfl) ?_
   refine tr1 rfl (aJ (v := .d (.lit (.int .i64 e11))) (aA rfl) rfl rfl) ?_
   refine aF ?_
   have h := Option.some.inj h
   subst h
   exact bL ⟨rfl, _, [.box b9 0 [.lit (.int .i64 y8.Ledger.Players), .lit (.int .i64 y8.Ledger.Counts), .lit w10, .sl 3 (y8.Ledger.Bans.map aK), .sl 3 (y8.Ledger.Frozen.map aK)], .arr w10 43 5 (y8.Ledger.Reports.map aB), .box b1 0 (aU l_0), .box b2 0 [.lit (.int .i64 player_1)], .box b3 0 [.lit (.int .i64 week_2)], .box b4 0 [.lit (.int .i64 0)], .box b5 0 [.lit (.int .i64 0)], .box b22 0 [gH b9 0 0]], .three (.cell1 8 3 rfl (i := 5) rfl bE rfl) (.cell1 9 3 rfl (i := 6) rfl bE rfl) (.tmp 10 (v := .d (.lit (.int .i64 e11))) rfl), .refl _, .same _⟩
  ·have h := aQ c23 h
   refine bG ?_
   refine aG ?_
   refine aG ?_
   refine aE ?_
   refine tr1 rfl (aC (v := .d (.sl 1 (prizes_3.map cE))) (aA rfl) rfl rfl) ?_
   refine tr1 rfl (cW (aA rfl) rfl eT.of) ?_
   refine tr1 rfl (bB (aA rfl) rfl rfl rfl) ?_
   refine tr1 rfl (aC (v := .d (.lit (.bool ((decide (4 < (prizes_3.length : Int))))))) (aA rfl) rfl rfl) ?_
   obtain ⟨b24, h25, h⟩ := bind_some h
   refine bZ 3 [3, 5, 6, 8, 9, 11] 31 b24 ?_ ?_
   ·refine bF (decide (4 < (prizes_3.length : Int))) (fun c43 => ?_) (fun c43 => ?_)
    ·have h25 := aR c43 h25
     refine aN rfl rfl (aA rfl) rfl (aA rfl) rfl c43 ?_
     refine aN rfl rfl (aA rfl) rfl (aA rfl) rfl c43 ?_
     refine tr1 rfl (bN (v := .d (.lit (.bool true))) (aA rfl) rfl c43 rfl rfl) ?_
     have h25 := Option.some.inj h25
     subst h25
     refine aF (aY rfl ⟨rfl, rfl, rfl, rfl, rfl, rfl, trivial⟩ rfl)
    ·have h25 := aQ c43 h25
     refine aL rfl rfl (aA rfl) rfl c43 (aC (v := .d (.sl 1 (prizes_3.map cE))) (aA rfl) rfl rfl) ?_
     obtain ⟨r45, h46, h25⟩ := bind_some h25
     refine aL rfl rfl (aA rfl) rfl c43 (cB (aA rfl) (.func _ _ Tryz.call40) rfl rfl (BVs.refl _ _) (oS _ _ 41 [] Tryz.call41 (fun _ _ h25 => vG _ h25) h46) rfl) ?_
     refine tr1 rfl (bO (v := .d (.lit (.bool r45))) (aA rfl) rfl c43 rfl rfl) ?_
     have h25 := Option.some.inj h25
     subst h25
     refine aF (aY rfl ⟨rfl, rfl, rfl, rfl, rfl, rfl, trivial⟩ rfl)
   ·refine aF ?_
    refine bI rfl (fun c26 => ?_) (fun c26 => ?_)
    ·have h := aR c26 h
     refine aG ?_
     refine aE ?_
     refine tr1 rfl (cJ (i := 5) rfl rfl rfl rfl rfl Tryz.sizeOf3 rfl (aA rfl) (Nat.le_of_ble_eq_true rfl) (ds' := [.lit (.int .i64 0)]) rfl) ?_
     refine tr1 rfl (cJ (i := 6) rfl rfl rfl rfl rfl Tryz.sizeOf3 rfl (aA rfl) (Nat.le_of_ble_eq_true rfl) (ds' := [.lit (.int .i64 0)]) rfl) ?_
     refine tr1 rfl (aJ (v := .d (.lit (.int .i64 42))) (aA rfl) rfl rfl) ?_
     refine aF ?_
     have h := Option.some.inj h
     subst h
     exact bL ⟨rfl, _, [.box b9 0 [.lit (.int .i64 y8.Ledger.Players), .lit (.int .i64 y8.Ledger.Counts), .lit w10, .sl 3 (y8.Ledger.Bans.map aK), .sl 3 (y8.Ledger.Frozen.map aK)], .arr w10 43 5 (y8.Ledger.Reports.map aB), .box b1 0 (aU l_0), .box b2 0 [.lit (.int .i64 player_1)], .box b3 0 [.lit (.int .i64 week_2)], .box b4 0 [.lit (.int .i64 0)], .box b5 0 [.lit (.int .i64 0)], .box b22 0 [gH b9 0 0]], .three (.cell1 8 3 rfl (i := 5) rfl bE rfl) (.cell1 9 3 rfl (i := 6) rfl bE rfl) (.tmp 10 (v := .d (.lit (.int .i64 42))) rfl), .refl _, .same _⟩
    ·have h := aQ c26 h
     refine bG ?_
     refine aG ?_
     refine aE ?_
     refine tr1 rfl (gK 3 1 (.inl rfl) (aA rfl)) ?_
     refine aF ?_
     refine aG ?_
     refine aG ?_
     refine aE ?_
     refine tr1 rfl (sO (i := 7) (aA rfl) rfl rfl rfl vF) ?_
     refine tr1 rfl (iP (aA rfl) rfl) ?_
     refine tr1 rfl (aT (aA rfl) rfl gM) ?_
     refine tr1 rfl (aT (aA rfl) rfl iQ) ?_
     refine tr1 rfl (aV (aA rfl) rfl (i := 0) rfl rfl bE) ?_
     refine tr1 rfl (aC (v := .d (.lit (.int .i64 0))) (aA rfl) rfl rfl) ?_
     refine aF ?_
     refine bQ ?_
     refine cI [3, 5, 6, 8, 9, 11, 36] (fun (s28 : Int × (List Int) × Value) => [(12, .d (.lit s28.2.2)), (37, .d (.lit (.int .i64 s28.1)))]) (fun (s28 : Int × (List Int) × Value) => [.box b2 0 [.lit (.int .i64 player_1)], .box b3 0 [.lit (.int .i64 week_2)], .box b4 0 [.lit (.int .i64 0)], .box b5 0 [.lit (.int .i64 0)], .box b22 0 [gH b9 0 0], .arr s28.2.2 3 1 (s28.2.1.map cE), .arr w10 43 5 (y8.Ledger.Reports.map aB), .box b9 0 [.lit (.int .i64 y8.Ledger.Players), .lit (.int .i64 y8.Ledger.Counts), .lit w10, .sl 3 (y8.Ledger.Bans.map aK), .sl 3 (y8.Ledger.Frozen.map aK)]]) (fun (k : Nat) (s28 : Int × (List Int) × Value) => oA prizes_3 y8.Ledger.Players player_1 week_2 0 0 y8.Ledger.Reports y8.Ledger.Players y8.Ledger.Counts y8.Ledger.Bans y8.Ledger.Frozen k s28.1 s28.2.1) (fun _ => rfl) (0, ([] : List Int), (.slice none 0 0)) h (aW [3, 4, 5, 6, 7, 8, 1, 0] rfl rfl (aM rfl (aM rfl (aX ⟨rfl, rfl, rfl, rfl, rfl, rfl, rfl, trivial⟩)))) ?_
     rintro k30 ⟨t37_0_28, free_0_28, w29⟩ h
     simp only [oA] at h
     refine aG ?_
     refine aE ?_
     refine tr1 rfl (bB (aA rfl) rfl rfl rfl) ?_
     refine aF ?_
     refine aG ?_
     refine bI rfl (fun c31 => ?_) (fun c31 => ?_)
     ·have h := aR c31 h
      refine bG ?_
      refine aG ?_
      refine bQ ?_
      refine aG ?_
      refine aE ?_
      refine tr1 rfl (aC (v := .d (.lit (.int .i64 t37_0_28))) (aA rfl) rfl rfl) ?_
      refine tr1 rfl (aJ (v := .d (.lit (.int .i64 t37_0_28))) (aA rfl) rfl rfl) ?_
      refine aF ?_
      refine aG ?_
      refine fA mix 7 [3, 5, 6, 8, 9, 11, 12, 13, 36, 37] [(44, .d (.sl 3 (y8.Ledger.Bans.map aK))), (45, .d (.lit (.int .i64 t37_0_28))), (46, .d (.lit (.int .i64 week_2)))] ?_ ?_
      ·refine ⟨[(40, 0, .bp b9 0 0), (41, 1, .bp b9 0 0), (42, 2, .bp b9 0 0), (43, 3, .bp b9 0 3), (44, 4, .d (.sl 3 (y8.Ledger.Bans.map aK))), (45, 5, .d (.lit (.int .i64 t37_0_28))), (46, 6, .d (.lit (.int .i64 week_2)))], ?_, ?_⟩
       · exact ⟨by kernel_rfl, by kernel_rfl, by kernel_rfl, by kernel_rfl, by kernel_rfl, [([], []), ([0], []), ([1], []), ([2], []), ([3], []), ([], []), ([], [])], by kernel_rfl, ⟨fun S hS => aI rfl (aP rfl (sO (i := 4) (aA rfl) (aH hS rfl) rfl rfl vF)),
      fun S hS => aI rfl (aP rfl (iP (aA rfl) (aH hS rfl))),
      fun S hS => aI rfl (aP rfl (aT (aA rfl) (aH hS rfl) gM)),
      fun S hS => aI rfl (aP rfl (aT (aA rfl) (aH hS rfl) jO)),
      fun S hS => aI rfl (aP rfl (aV (aA rfl) (aH hS rfl) (i := 7) rfl rfl fU)),
      fun S hS => aI rfl (aP rfl (aC (v := .d (.lit (.int .i64 t37_0_28))) (aA rfl) (aH hS rfl) rfl)),
      fun S hS => aI rfl (aP rfl (aV (aA rfl) (aH hS rfl) (i := 1) rfl rfl bE)), trivial⟩⟩
       · exact dJ (aM rfl (aM rfl (aM rfl (aX ⟨rfl, rfl, rfl, rfl, rfl, rfl, rfl, rfl, rfl, rfl, trivial⟩))))
      ·obtain ⟨r32, h33, h⟩ := bind_some h
       refine tr1 rfl (cB (aA rfl) (.func _ _ Tryz.call43) rfl rfl (BVs.refl _ _) (uT _ _ _ h33) rfl) ?_
       refine tr1 rfl (eK (aA rfl) rfl) ?_
       refine aF ?_
       refine bI rfl (fun c34 => ?_) (fun c34 => ?_)
       ·have h := aR c34 h
        refine aE ?_
        refine tr1 rfl (aC (v := .d (.lit w29)) (aA rfl) rfl rfl) ?_
        refine tr1 rfl (aC (v := .d (.lit (.int .i64 t37_0_28))) (aA rfl) rfl rfl) ?_
        refine tr1 rfl (iH (aA rfl) eT rfl rfl (rows := ([t37_0_28]).map cE) rfl (cT (f := cE) fun _ => rfl) rfl (by decide)) ?_
        obtain ⟨x35, h36, h⟩ := bind_some h
        refine bW rfl (kB (i := 5) (aA rfl) eT rfl rfl rfl (fun _ => rfl) h36 rfl) ?_
        rintro _ ⟨v37, rfl⟩
        refine tr1 rfl (aJ (v := .d (.lit v37)) (aA rfl) rfl rfl) ?_
        refine dN ?_
        refine aE ?_
        refine tr1 rfl (bA (aA rfl) rfl rfl rfl) ?_
        refine tr1 rfl (aC (v := .d (.lit (.int .i64 ((w64 (t37_0_28 + 1)))))) (aA rfl) rfl rfl) ?_
        refine aF ?_
        exact ⟨(w64 (t37_0_28 + 1), x35, v37), h, aW [0, 1, 2, 3, 4, 5, 6, 7] rfl rfl (aM rfl (aM rfl (aX ⟨rfl, rfl, rfl, rfl, rfl, rfl, rfl, trivial⟩)))⟩
       ·have h := aQ c34 h
        refine dH ?_
        refine aE ?_
        refine tr1 rfl (bA (aA rfl) rfl rfl rfl) ?_
        refine tr1 rfl (aC (v := .d (.lit (.int .i64 ((w64 (t37_0_28 + 1)))))) (aA rfl) rfl rfl) ?_
        refine aF ?_
        exact ⟨(w64 (t37_0_28 + 1), free_0_28, w29), h, aW [0, 1, 2, 3, 4, 5, 6, 7] rfl rfl (aM rfl (aM rfl (aX ⟨rfl, rfl, rfl, rfl, rfl, rfl, rfl, trivial⟩)))⟩
     ·have h := aQ c31 h
      refine cP ?_
      refine .inl ⟨rfl, ?_⟩
      simp only [wF] at h
      refine aG ?_
      refine aE ?_
      refine tr1 rfl (sO (i := 4) (aA rfl) rfl rfl rfl vF) ?_
      refine tr1 rfl (iP (aA rfl) rfl) ?_
      refine tr1 rfl (aT (aA rfl) rfl gM) ?_
      refine tr1 rfl (aT (aA rfl) rfl iQ) ?_
      refine tr1 rfl (aV (aA rfl) rfl (i := 7) rfl rfl bE) ?_
      refine tr1 rfl (bA (aA rfl) rfl rfl rfl) ?_
      refine tr1 rfl (cJ (i := 2) rfl rfl rfl rfl rfl Tryz.sizeOf3 rfl (aA rfl) (Nat.le_of_ble_eq_true rfl) (ds' := [.lit (.int .i64 ((w64 (y8.Ledger.Players + 1))))]) rfl) ?_
      refine tr1 rfl (cJ (i := 3) rfl rfl rfl rfl rfl Tryz.sizeOf3 rfl (aA rfl) (Nat.le_of_ble_eq_true rfl) (ds' := [.lit (.int .i64 0)]) rfl) ?_
      refine aF ?_
      refine aG ?_
      refine aE ?_
      refine bW rfl (fR (zs := [.lit (.bool false)]) (aA rfl) Tryz.zeroValue4 rfl rfl) ?_
      rintro _ ⟨b38, rfl⟩
      refine tr1 rfl (cJ (i := 8) rfl rfl rfl rfl rfl Tryz.sizeOf4 rfl (aA rfl) (Nat.le_of_ble_eq_true rfl) (ds' := [.lit (.bool false)]) rfl) ?_
      refine aF ?_
      refine aG ?_
      refine aE ?_
      refine tr1 rfl (sO (i := 4) (aA rfl) rfl rfl rfl vF) ?_
      refine tr1 rfl (aV (aA rfl) rfl (i := 1) rfl rfl bE) ?_
      refine tr1 rfl (aC (v := .d (.sl 1 (prizes_3.map cE))) (aA rfl) rfl rfl) ?_
      refine tr1 rfl (aC (v := .d (.lit w29)) (aA rfl) rfl rfl) ?_
      refine tr1 rfl (vH (aA rfl) rfl rfl) ?_
      refine eW (aW [0, 1, 2, 3, 4, 6, 7, 8, 5] rfl rfl (le_refl _)) ?_
      refine eW (xS [.box b2 0 [.lit (.int .i64 player_1)], .box b3 0 [.lit (.int .i64 week_2)], .box b4 0 [.lit (.int .i64 ((w64 (y8.Ledger.Players + 1))))], .box b5 0 [.lit (.int .i64 0)], .box b22 0 [gH b9 0 0], .arr w10 43 5 (y8.Ledger.Reports.map aB), .box b9 0 [.lit (.int .i64 y8.Ledger.Players), .lit (.int .i64 y8.Ledger.Counts), .lit w10, .sl 3 (y8.Ledger.Bans.map aK), .sl 3 (y8.Ledger.Frozen.map aK)], .box b38 0 [.lit (.bool false)]] [.arr w29 3 1 (free_0_28.map cE)] rfl (fH (k := 63) (v := .d (.sl 1 (free_0_28.map cE))) (.d (gE 0 rfl (cT (f := cE) fun _ => rfl))) (fH (k := 12) (v := .d (.sl 1 (free_0_28.map cE))) (.d (gE 0 rfl (cT (f := cE) fun _ => rfl))) (qI _ _)))) ?_
      refine eW (aW [6, 0, 1, 2, 3, 4, 7, 5] rfl rfl (le_refl _)) ?_
      refine eW (aDz (ds' := (cN y8)) [.box b2 0 [.lit (.int .i64 player_1)], .box b3 0 [.lit (.int .i64 week_2)], .box b4 0 [.lit (.int .i64 ((w64 (y8.Ledger.Players + 1))))], .box b5 0 [.lit (.int .i64 0)], .box b22 0 [gH b9 0 0], .box b38 0 [.lit (.bool false)]] [.arr w10 43 5 (y8.Ledger.Reports.map aB)] rfl (dvc (.same _) (dvc (.same _) (dvc (gE 0 rfl (cT (f := aB) fun _ => rfl)) (dvc (.same _) (dvc (.same _) dvn))))) (qI _ _)) ?_
      obtain ⟨r39, h40, h⟩ := bind_some h
      refine eW (aW [0, 5, 1, 2, 6, 3, 4] rfl rfl (le_refl _)) ?_
      refine bW rfl (dI (passed := [.box b9 0 (cN y8), .box b22 0 [gH b9 0 0], .box b2 0 [.lit (.int .i64 player_1)], .box b3 0 [.lit (.int .i64 week_2)], .box b38 0 [.lit (.bool false)], .box b4 0 [.lit (.int .i64 ((w64 (y8.Ledger.Players + 1))))], .box b5 0 [.lit (.int .i64 0)]]) (aA rfl) rfl (.func _ _ Tryz.call44) rfl rfl (wK y8 player_1 week_2 false (w64 (y8.Ledger.Players + 1)) 0 week_2 prizes_3 free_0_28 h40)) ?_
      rintro _ ⟨_, _, ⟨rfl, rfl⟩, rfl⟩
      refine aF ?_
      refine aG ?_
      refine aG ?_
      refine aE ?_
      refine tr1 rfl (aV (aA rfl) rfl (i := 4) rfl rfl nF) ?_
      refine aF ?_
      refine bI rfl (fun c41 => ?_) (fun c41 => ?_)
      ·have h := aR c41 h
       refine aG ?_
       refine aE ?_
       refine tr1 rfl (cJ (i := 5) rfl rfl rfl rfl rfl Tryz.sizeOf3 rfl (aA rfl) (Nat.le_of_ble_eq_true rfl) (ds' := [.lit (.int .i64 0)]) rfl) ?_
       refine tr1 rfl (cJ (i := 6) rfl rfl rfl rfl rfl Tryz.sizeOf3 rfl (aA rfl) (Nat.le_of_ble_eq_true rfl) (ds' := [.lit (.int .i64 0)]) rfl) ?_
       refine tr1 rfl (aJ (v := .d (.lit (.int .i64 3))) (aA rfl) rfl rfl) ?_
       refine aF ?_
       have h := Option.some.inj h
       subst h
       exact bL ⟨rfl, _, [.box b9 0 (cN r39.1), .box b22 0 [gH b9 0 0], .box b2 0 [.lit (.int .i64 player_1)], .box b3 0 [.lit (.int .i64 week_2)], .box b38 0 [.lit (.bool r39.2.1)], .box b4 0 [.lit (.int .i64 0)], .box b5 0 [.lit (.int .i64 0)]], .three (.cell1 8 3 rfl (i := 5) rfl bE rfl) (.cell1 9 3 rfl (i := 6) rfl bE rfl) (.tmp 10 (v := .d (.lit (.int .i64 3))) rfl), .refl _, .same _⟩
      ·have h := aQ c41 h
       refine bG ?_
       refine aG ?_
       refine mQ mix 3 [8, 9] (fun X42 => [(68, .d (.lit (.int .i64 r39.2.2.2)))]) (fun X42 => [.box b9 0 (cN r39.1), .box b22 0 [gH b9 0 0], .box b2 0 [.lit (.int .i64 player_1)], .box b3 0 [.lit (.int .i64 week_2)], .box b38 0 [.lit (.bool r39.2.1)], .box b4 0 [.lit (.int .i64 r39.2.2.1)], .box b5 0 [.lit (.int .i64 r39.2.2.2)]]) ?_ ?_
       ·refine ⟨0, fun X42 => [(67, 0, .d (.lit (.int .i64 r39.2.2.1))), (68, 1, .d (.lit (.int .i64 r39.2.2.2)))], fun X42 => [([], .box b9 0 (cN r39.1)), ([], .box b22 0 [gH b9 0 0]), ([], .box b2 0 [.lit (.int .i64 player_1)]), ([], .box b3 0 [.lit (.int .i64 week_2)]), ([], .box b38 0 [.lit (.bool r39.2.1)]), ([(2, .box b4 0 [.lit (.int .i64 r39.2.2.1)])], .box b4 0 [.lit (.int .i64 r39.2.2.1)]), ([], .box b5 0 [.lit (.int .i64 r39.2.2.2)])], ?_, ?_⟩
        · exact ⟨by kernel_rfl, by kernel_rfl, by kernel_rfl, fun _ => by kernel_rfl, fun _ => by kernel_rfl, fun _ => by kernel_rfl, fun _ => rfl, [([], [2]), ([], []), ([0], [])], by kernel_rfl, ⟨fun X42 S hw hi hS => bT (X := X42) rfl (hw X42) rfl (aP rfl (aV (aA rfl) (aH hS rfl) (i := 5) (og hS rfl rfl) rfl bE)),
      fun X42 S hw hi hS => bT (X := X42) rfl (hw X42) rfl (aP rfl (aV (aA rfl) (aH hS rfl) (i := 6) (og hS rfl rfl) rfl bE)),
      fun X42 S hw hi hS => qW (X := X42) hS rfl rfl rfl (p := 5) rfl rfl (aP rfl (cJ (i := 5) (aH hS rfl) (og hS rfl rfl) (aH hS rfl) rfl rfl Tryz.sizeOf3 rfl (aA rfl) (Nat.le_of_ble_eq_true rfl) (ds' := [.lit (.int .i64 r39.2.2.1)]) rfl)), trivial⟩⟩
        · exact fun X42 => dJ (aM rfl (aX ⟨rfl, rfl, trivial⟩))
       ·intro X42
        refine tr1 rfl (cJ (i := 6) rfl rfl rfl rfl rfl Tryz.sizeOf3 rfl (aA rfl) (Nat.le_of_ble_eq_true rfl) (ds' := [.lit (.int .i64 r39.2.2.2)]) rfl) ?_
        refine tr1 rfl (aJ (v := .d (.lit (.int .i64 0))) (aA rfl) rfl rfl) ?_
        refine aF ?_
        have h := Option.some.inj h
        subst h
        exact bL ⟨rfl, _, [.box b9 0 (cN r39.1), .box b22 0 [gH b9 0 0], .box b2 0 [.lit (.int .i64 player_1)], .box b3 0 [.lit (.int .i64 week_2)], .box b38 0 [.lit (.bool r39.2.1)], .box b4 0 [.lit (.int .i64 r39.2.2.1)], .box b5 0 [.lit (.int .i64 r39.2.2.2)]], .three (.cell1 8 3 rfl (i := 5) rfl bE rfl) (.cell1 9 3 rfl (i := 6) rfl bE rfl) (.tmp 10 (v := .d (.lit (.int .i64 0))) rfl), .refl _, .same _⟩

theorem oY (b_0 : cC) (player_1 : Int) (week_2 : Int) {r : Int} (h : jK b_0 player_1 week_2 = some r) : Fn Tryz.prog 37 [.cp (cN b_0), .d (.lit (.int .i64 player_1)), .d (.lit (.int .i64 week_2))] (.d (.lit (.int .i64 r))) := by
 unfold jK at h
 refine Fn.of_tr Tryz.func37 rfl (rs := [.tmp 6]) Tryz.results37 Tryz.ntmps37 (Nat.le_of_ble_eq_true rfl) ?_
 refine aG ?_
 refine aE ?_
 refine tr1 rfl (aJ (v := .d (.lit (.int .i64 0))) (aA rfl) rfl rfl) ?_
 refine aF ?_
 refine aG ?_
 refine aE ?_
 refine tr1 rfl (aC (v := .cp [.lit (.int .i64 b_0.Ledger.Players), .lit (.int .i64 b_0.Ledger.Counts), .sl 5 (b_0.Ledger.Reports.map aB), .sl 3 (b_0.Ledger.Bans.map aK), .sl 3 (b_0.Ledger.Frozen.map aK)]) (aA rfl) rfl rfl) ?_
 refine tr1 rfl (aC (v := .cp [.lit (.int .i64 b_0.Ledger.Players), .lit (.int .i64 b_0.Ledger.Counts), .sl 5 (b_0.Ledger.Reports.map aB), .sl 3 (b_0.Ledger.Bans.map aK), .sl 3 (b_0.Ledger.Frozen.map aK)]) (aA rfl) rfl rfl) ?_
 refine tr1 rfl (aC (v := .d (.lit (.int .i64 player_1))) (aA rfl) rfl rfl) ?_
 refine tr1 rfl (aC (v := .d (.lit (.int .i64 week_2))) (aA rfl) rfl rfl) ?_
 obtain ⟨r1, h2, h⟩ := bind_some h
 refine tr1 rfl (jA (aA rfl) (.func _ _ Tryz.call33) rfl rfl (pR _ _ _ h2)) ?_
 obtain ⟨r3, h4, h⟩ := bind_some h
 refine tr1 rfl (jA (aA rfl) (.func _ _ Tryz.call32) rfl rfl (pS _ _ h4)) ?_
 obtain ⟨r5, h6, h⟩ := bind_some h
 refine tr1 rfl (cB (aA rfl) (.func _ _ Tryz.call65) rfl rfl (BVs.refl _ _) (zP _ h6) rfl) ?_
 refine tr1 rfl (aJ (v := .d (.lit (.int .i64 r5))) (aA rfl) rfl rfl) ?_
 refine aF ?_
 have h := Option.some.inj h
 subst h
 exact bL ⟨rfl, _, .one _, rfl, rfl⟩

theorem nE (s_0 : List aD) (f_1 : aD → Option Bool) {r : Int} (f_1_f : Nat) (f_1_v : List AV) (f_1_e : ∀ args w, (callFunc f_1_f args).run Tryz.prog w = .ok (.enter f_1_f args) w) (f_1_h : ∀ (x0 : aD) r, f_1 x0 = some r → Fn Tryz.prog f_1_f ([.agg (aB x0)] ++ f_1_v) (.d (.lit (.bool r)))) (h : dK s_0 f_1 = some r) : Fn Tryz.prog 27 [.d (.sl 5 (s_0.map aB)), .fn f_1_f f_1_v] (.d (.lit (.int .i64 r))) := by
 unfold dK at h
 refine Fn.of_tr Tryz.func27 rfl (rs := [.tmp 4]) Tryz.results27 Tryz.ntmps27 (Nat.le_of_ble_eq_true rfl) ?_
 refine aG ?_
 refine aE ?_
 refine tr1 rfl (aJ (v := .d (.lit (.int .i64 0))) (aA rfl) rfl rfl) ?_
 refine aF ?_
 refine aG ?_
 refine aG ?_
 refine aE ?_
 refine tr1 rfl (aC (v := .d (.sl 5 (s_0.map aB))) (aA rfl) rfl rfl) ?_
 refine tr1 rfl (cW (aA rfl) rfl bP.of) ?_
 refine tr1 rfl (aC (v := .d (.lit (.int .i64 0))) (aA rfl) rfl rfl) ?_
 refine aF ?_
 refine bQ ?_
 refine cI [0, 1, 7] (fun (s1 : Int) => [(8, .d (.lit (.int .i64 s1)))]) (fun (s1 : Int) => []) (fun (k : Nat) (s1 : Int) => eI s_0 f_1 (s_0.length : Int) k s1) (fun _ => rfl) (0) h (aW [] rfl rfl (aM rfl (aX ⟨rfl, rfl, rfl, trivial⟩))) ?_
 rintro k2 t8_0_1 h
 simp only [eI] at h
 refine aG ?_
 refine aE ?_
 refine tr1 rfl (bB (aA rfl) rfl rfl rfl) ?_
 refine aF ?_
 refine aG ?_
 refine bI rfl (fun c3 => ?_) (fun c3 => ?_)
 ·have h := aR c3 h
  refine bG ?_
  refine aG ?_
  refine bQ ?_
  refine aG ?_
  refine aE ?_
  refine tr1 rfl (aC (v := .d (.lit (.int .i64 t8_0_1))) (aA rfl) rfl rfl) ?_
  refine tr1 rfl (aJ (v := .d (.lit (.int .i64 t8_0_1))) (aA rfl) rfl rfl) ?_
  refine aF ?_
  refine aG ?_
  refine aE ?_
  refine tr1 rfl (aC (v := .fn f_1_f f_1_v) (aA rfl) rfl rfl) ?_
  refine tr1 rfl (aC (v := .d (.sl 5 (s_0.map aB))) (aA rfl) rfl rfl) ?_
  refine tr1 rfl (aC (v := .d (.lit (.int .i64 t8_0_1))) (aA rfl) rfl rfl) ?_
  obtain ⟨x4, h5, h⟩ := bind_some h
  refine tr1 rfl (bM (aA rfl) rfl rfl bP.of (bH aB h5)) ?_
  refine tr1 rfl (dZ (aA rfl) rfl dE (es := (aB x4)) rfl rfl) ?_
  obtain ⟨r6, h7, h⟩ := bind_some h
  refine tr1 rfl (cB (aA rfl) (.clo _ _ _ _ f_1_e rfl) (tP rfl) rfl (BVs.refl _ _) (f_1_h _ _  h7) rfl) ?_
  refine aF ?_
  refine bI rfl (fun c8 => ?_) (fun c8 => ?_)
  ·have h := aR c8 h
   refine aG ?_
   refine aE ?_
   refine tr1 rfl (aC (v := .d (.lit (.int .i64 t8_0_1))) (aA rfl) rfl rfl) ?_
   refine tr1 rfl (aJ (v := .d (.lit (.int .i64 t8_0_1))) (aA rfl) rfl rfl) ?_
   refine aF ?_
   have h := Option.some.inj h
   subst h
   exact bL ⟨rfl, _, .one _, rfl, rfl⟩
  ·have h := aQ c8 h
   refine dH ?_
   refine aE ?_
   refine tr1 rfl (bA (aA rfl) rfl rfl rfl) ?_
   refine tr1 rfl (aC (v := .d (.lit (.int .i64 ((w64 (t8_0_1 + 1)))))) (aA rfl) rfl rfl) ?_
   refine aF ?_
   exact ⟨(w64 (t8_0_1 + 1)), h, aW [] rfl rfl (aM rfl (aX ⟨rfl, rfl, rfl, trivial⟩))⟩
 ·have h := aQ c3 h
  refine cP ?_
  refine .inl ⟨rfl, ?_⟩
  simp only [jT] at h
  refine aG ?_
  refine aE ?_
  refine tr1 rfl (aJ (v := .d (.lit (.int .i64 (-1)))) (aA rfl) rfl rfl) ?_
  refine aF ?_
  have h := Option.some.inj h
  subst h
  exact bL ⟨rfl, _, .one _, rfl, rfl⟩

theorem rM (s_0 : List aD) (del_1 : aD → Option Bool) {r : (List aD)} {s_0_v : Value} (del_1_f : Nat) (del_1_v : List AV) (del_1_e : ∀ args w, (callFunc del_1_f args).run Tryz.prog w = .ok (.enter del_1_f args) w) (del_1_h : ∀ (x0 : aD) r, del_1 x0 = some r → Fn Tryz.prog del_1_f ([.agg (aB x0)] ++ del_1_v) (.d (.lit (.bool r)))) (h : kS s_0 del_1 = some r) : fN Tryz.prog 47 [.d (.lit s_0_v), .fn del_1_f del_1_v] [.arr s_0_v 43 5 (s_0.map aB)] (fun r' o' => ∃ w0 : Value, r' = .d (.lit w0) ∧ o' = [.arr w0 43 5 (r.map aB)]) := by
 unfold kS at h
 refine mC Tryz.func47 rfl (rs := [.tmp 4]) Tryz.results47 Tryz.ntmps47 (Nat.le_of_ble_eq_true rfl) ?_
 refine aG ?_
 refine aE ?_
 refine tr1 rfl (gK 43 5 (.inl rfl) (aA rfl)) ?_
 refine aF ?_
 refine aG ?_
 refine aE ?_
 refine tr1 rfl (aC (v := .d (.lit s_0_v)) (aA rfl) rfl rfl) ?_
 refine tr1 rfl (aC (v := .fn del_1_f del_1_v) (aA rfl) rfl rfl) ?_
 obtain ⟨r2, h3, h⟩ := bind_some h
 refine tr1 rfl (cB (aA rfl) (.func _ _ Tryz.call27) rfl rfl (.cons (.d (gE 0 rfl (cT (f := aB) fun _ => rfl))) (.cons (.same _) .nil)) (nE _ _ del_1_f del_1_v del_1_e del_1_h h3) rfl) ?_
 refine tr1 rfl (aJ (v := .d (.lit (.int .i64 r2))) (aA rfl) rfl rfl) ?_
 refine aF ?_
 refine aG ?_
 refine aG ?_
 refine aE ?_
 refine tr1 rfl (aC (v := .d (.lit (.int .i64 r2))) (aA rfl) rfl rfl) ?_
 refine tr1 rfl (bB (aA rfl) rfl rfl rfl) ?_
 refine aF ?_
 refine bI rfl (fun c4 => ?_) (fun c4 => ?_)
 ·have h := aR c4 h
  refine aG ?_
  refine aE ?_
  refine tr1 rfl (aC (v := .d (.lit s_0_v)) (aA rfl) rfl rfl) ?_
  refine tr1 rfl (aJ (v := .d (.lit s_0_v)) (aA rfl) rfl rfl) ?_
  refine aF ?_
  have h := Option.some.inj h
  subst h
  exact bL ⟨rfl, _, [.arr s_0_v 43 5 (s_0.map aB)], [.arr (.slice none 0 0) 43 5 (([] : List aD).map aB)], _, .one (.tmp 4 (v := .d (.lit s_0_v)) rfl), .refl _, .same _, s_0_v, rfl, rfl⟩
 ·have h := aQ c4 h
  refine bG ?_
  refine aG ?_
  refine aG ?_
  refine aE ?_
  refine tr1 rfl (aC (v := .d (.lit (.int .i64 r2))) (aA rfl) rfl rfl) ?_
  refine tr1 rfl (bA (aA rfl) rfl rfl rfl) ?_
  refine tr1 rfl (aJ (v := .d (.lit (.int .i64 ((w64 (r2 + 1)))))) (aA rfl) rfl rfl) ?_
  refine aF ?_
  refine bQ ?_
  refine cI [1] (fun (s5 : Int × Int × (List aD)) => [(0, .d (.lit s_0_v)), (5, .d (.lit (.int .i64 s5.1))), (6, .d (.lit (.int .i64 s5.2.1)))]) (fun (s5 : Int × Int × (List aD)) => [.arr s_0_v 43 5 (s5.2.2.map aB)]) (fun (k : Nat) (s5 : Int × Int × (List aD)) => fO del_1 k s5.1 s5.2.1 s5.2.2) (fun _ => rfl) (r2, w64 (r2 + 1), s_0) h (aW [0] rfl rfl (aM rfl (aM rfl (aM rfl (aX ⟨rfl, trivial⟩))))) ?_
  rintro k6 ⟨i_0_5, j_0_5, s_0_5⟩ h
  simp only [fO] at h
  refine aG ?_
  refine aG ?_
  refine aE ?_
  refine tr1 rfl (aC (v := .d (.lit (.int .i64 j_0_5))) (aA rfl) rfl rfl) ?_
  refine tr1 rfl (aC (v := .d (.lit s_0_v)) (aA rfl) rfl rfl) ?_
  refine tr1 rfl (lJ (m := 0) (aA rfl) rfl rfl bP.of) ?_
  refine tr1 rfl (bB (aA rfl) rfl rfl rfl) ?_
  refine aF ?_
  refine bI rfl (fun c7 => ?_) (fun c7 => ?_)
  ·have h := aR c7 h
   refine bG ?_
   refine aG ?_
   refine bQ ?_
   refine aG ?_
   refine aE ?_
   refine tr1 rfl (aC (v := .d (.lit s_0_v)) (aA rfl) rfl rfl) ?_
   refine tr1 rfl (aC (v := .d (.lit (.int .i64 j_0_5))) (aA rfl) rfl rfl) ?_
   obtain ⟨x8, h9, h⟩ := bind_some h
   refine tr1 rfl (cM (m := 0) (aA rfl) rfl rfl rfl bP.of (bH aB h9)) ?_
   refine tr1 rfl (dB (aA rfl) rfl (l := 0) rfl (eC aB h9) dE (es := (aB x8)) rfl rfl) ?_
   refine bW rfl (fR (zs := [.lit (.int .i64 0), .lit (.int .i64 0), .lit (.int .i64 0), .lit (.int .i64 0), .lit (.bool false)]) (aA rfl) Tryz.zeroValue43 rfl rfl) ?_
   rintro _ ⟨b10, rfl⟩
   refine tr1 rfl (cJ (i := 1) rfl rfl rfl rfl rfl Tryz.sizeOf43 rfl (aA rfl) (Nat.le_of_ble_eq_true rfl) (ds' := (aB x8)) rfl) ?_
   refine aF ?_
   refine aG ?_
   refine aE ?_
   refine tr1 rfl (aC (v := .fn del_1_f del_1_v) (aA rfl) rfl rfl) ?_
   refine tr1 rfl (cF (aA rfl) rfl (i := 1) rfl dE (es := (aB x8)) rfl rfl) ?_
   obtain ⟨r11, h12, h⟩ := bind_some h
   refine tr1 rfl (cB (aA rfl) (.clo _ _ _ _ del_1_e rfl) (tP rfl) rfl (BVs.refl _ _) (del_1_h _ _  h12) rfl) ?_
   refine tr1 rfl (eK (aA rfl) rfl) ?_
   refine aF ?_
   refine bI rfl (fun c13 => ?_) (fun c13 => ?_)
   ·have h := aR c13 h
    refine aG ?_
    refine aE ?_
    refine tr1 rfl (aC (v := .d (.lit s_0_v)) (aA rfl) rfl rfl) ?_
    refine tr1 rfl (aC (v := .d (.lit (.int .i64 i_0_5))) (aA rfl) rfl rfl) ?_
    refine tr1 rfl (cF (aA rfl) rfl (i := 1) rfl dE (es := (aB x8)) rfl rfl) ?_
    obtain ⟨x14, h15, h⟩ := bind_some h
    refine tr1 rfl (cM (m := 0) (aA rfl) rfl rfl rfl bP.of (bH aB h15)) ?_
    refine tr1 rfl (jH (l := 0) rfl rfl (eC aB h15) rfl rfl rfl Tryz.sizeOf43 rfl (aA rfl) (Nat.le_of_ble_eq_true rfl) (rows' := ((s_0_5.set i_0_5.toNat x8)).map aB) (mB _ _ _ _ rfl)) ?_
    refine aF ?_
    refine aE ?_
    refine tr1 rfl (aC (v := .d (.lit (.int .i64 i_0_5))) (aA rfl) rfl rfl) ?_
    refine tr1 rfl (bA (aA rfl) rfl rfl rfl) ?_
    refine tr1 rfl (aJ (v := .d (.lit (.int .i64 ((w64 (i_0_5 + 1)))))) (aA rfl) rfl rfl) ?_
    refine dN ?_
    refine aE ?_
    refine tr1 rfl (aC (v := .d (.lit (.int .i64 j_0_5))) (aA rfl) rfl rfl) ?_
    refine tr1 rfl (bA (aA rfl) rfl rfl rfl) ?_
    refine tr1 rfl (aJ (v := .d (.lit (.int .i64 ((w64 (j_0_5 + 1)))))) (aA rfl) rfl rfl) ?_
    refine aF ?_
    exact ⟨(w64 (i_0_5 + 1), w64 (j_0_5 + 1), (s_0_5.set i_0_5.toNat x8)), h, aW [0] rfl rfl (aM rfl (aM rfl (aM rfl (aX ⟨rfl, trivial⟩))))⟩
   ·have h := aQ c13 h
    refine dH ?_
    refine aE ?_
    refine tr1 rfl (aC (v := .d (.lit (.int .i64 j_0_5))) (aA rfl) rfl rfl) ?_
    refine tr1 rfl (bA (aA rfl) rfl rfl rfl) ?_
    refine tr1 rfl (aJ (v := .d (.lit (.int .i64 ((w64 (j_0_5 + 1)))))) (aA rfl) rfl rfl) ?_
    refine aF ?_
    exact ⟨(i_0_5, w64 (j_0_5 + 1), s_0_5), h, aW [0] rfl rfl (aM rfl (aM rfl (aM rfl (aX ⟨rfl, trivial⟩))))⟩
  ·have h := aQ c7 h
   refine cP ?_
   refine .inl ⟨rfl, ?_⟩
   simp only [lX] at h
   refine aG ?_
   refine aE ?_
   refine tr1 rfl (aC (v := .d (.lit s_0_v)) (aA rfl) rfl rfl) ?_
   refine tr1 rfl (aC (v := .d (.lit (.int .i64 i_0_5))) (aA rfl) rfl rfl) ?_
   obtain ⟨u16, h17, h⟩ := bind_some h
   refine tr1 rfl (uF (m := 0) (aA rfl) rfl rfl rfl bP.of h17) ?_
   obtain ⟨u18, h19, h⟩ := bind_some h
   refine tr1 rfl (aCj (f := aB) (m := 0) bP rfl rfl h19 (by decide)) ?_
   refine aF ?_
   refine aG ?_
   refine aE ?_
   refine tr1 rfl (aC (v := .d (.lit s_0_v)) (aA rfl) rfl rfl) ?_
   refine tr1 rfl (aC (v := .d (.lit (.int .i64 i_0_5))) (aA rfl) rfl rfl) ?_
   obtain ⟨u20, h21, h⟩ := bind_some h
   refine tr1 rfl (rI (m := 0) (q := i_0_5.toNat) (v := s_0_v) (aA rfl) rfl rfl rfl rfl (zD h21) bP.of) ?_
   refine tr1 rfl (aJ (v := .d (.lit (gC s_0_v i_0_5.toNat))) (aA rfl) rfl rfl) ?_
   refine aF ?_
   have h := Option.some.inj h
   subst h
   exact bL ⟨rfl, _, [.arr (gC s_0_v i_0_5.toNat) 43 5 ((s_0_5.take i_0_5.toNat).map aB)], [], _, .one (.tmp 4 (v := .d (.lit (gC s_0_v i_0_5.toNat))) rfl), .refl _, .same _, (gC s_0_v i_0_5.toNat), rfl, rfl⟩

theorem yX (r_0 : aD) (c_1 : Int) {r : Bool} (h : pH r_0 c_1 = some r) : Fn Tryz.prog 48 [.agg (aB r_0), .cp [.lit (.int .i64 c_1)]] (.d (.lit (.bool r))) := by
 unfold pH at h
 refine Fn.of_tr Tryz.func48 rfl (rs := [.tmp 3]) Tryz.results48 Tryz.ntmps48 (Nat.le_of_ble_eq_true rfl) ?_
 refine aG ?_
 refine aE ?_
 refine bW rfl (eG (v := .agg (aB r_0)) (aA rfl) rfl rfl rfl) ?_
 rintro _ ⟨b1, rfl⟩
 refine tr1 rfl (aJ (v := .d (.lit (.bool false))) (aA rfl) rfl rfl) ?_
 refine aF ?_
 refine aG ?_
 refine aE ?_
 refine tr1 rfl (aT (aA rfl) rfl jJ) ?_
 refine tr1 rfl (aV (aA rfl) rfl (i := 0) rfl rfl bE) ?_
 refine tr1 rfl (bY (aA rfl) rfl bE) ?_
 refine tr1 rfl (bB (aA rfl) rfl rfl rfl) ?_
 refine tr1 rfl (aJ (v := .d (.lit (.bool ((decide (c_1 < r_0.Week)))))) (aA rfl) rfl rfl) ?_
 refine aF ?_
 have h := Option.some.inj h
 subst h
 refine cG (bX (cD (l := [3]) ⟨rfl, trivial⟩)) ?_
 exact bL ⟨rfl, _, .one _, rfl, rfl⟩

theorem aAd (l_0 : aS) (player_1 : Int) (week_2 : Int) {r : Int × Int} (h : tX l_0 player_1 week_2 = some r) : Fn Tryz.prog 21 [.agg (aU l_0), .d (.lit (.int .i64 player_1)), .d (.lit (.int .i64 week_2))] (.tup [.d (.lit (.int .i64 r.1)), .d (.lit (.int .i64 r.2))]) := by
 unfold tX at h
 refine Fn.of_tr Tryz.func21 rfl (rs := [.tmp 6, .tmp 7]) Tryz.results21 Tryz.ntmps21 (Nat.le_of_ble_eq_true rfl) ?_
 refine aG ?_
 refine aE ?_
 refine bW rfl (eG (v := .agg (aU l_0)) (aA rfl) rfl rfl rfl) ?_
 rintro _ ⟨b1, rfl⟩
 refine bW rfl (eG (v := .d (.lit (.int .i64 week_2))) (aA rfl) rfl rfl rfl) ?_
 rintro _ ⟨b2, rfl⟩
 refine tr1 rfl (aJ (v := .d (.lit (.int .i64 0))) (aA rfl) rfl rfl) ?_
 refine tr1 rfl (aJ (v := .d (.lit (.int .i64 0))) (aA rfl) rfl rfl) ?_
 refine aF ?_
 refine aG ?_
 refine aE ?_
 refine tr1 rfl (cF (aA rfl) rfl (i := 0) rfl eA (es := (aU l_0)) rfl rfl) ?_
 refine tr1 rfl (aC (v := .d (.lit (.int .i64 player_1))) (aA rfl) rfl rfl) ?_
 refine tr1 rfl (aV (aA rfl) rfl (i := 1) rfl rfl bE) ?_
 obtain ⟨r3, h4, h⟩ := bind_some h
 refine bW rfl (dI (passed := []) (aA rfl) rfl (.func _ _ Tryz.call26) rfl rfl (pI _ _ _ h4)) ?_
 rintro _ ⟨_, _, ⟨b6, w7, rfl, rfl⟩, rfl⟩
 obtain ⟨_ | y5, e8⟩ := r3
 ·have h := tV h
  refine eW (aW [0, 1] rfl rfl (le_refl _)) ?_
  refine tr1 rfl (aC (v := .tup [.d (.lit (.pointer none)), .d (.lit (.int .i64 e8))]) (aA rfl) rfl rfl) ?_
  refine tr1 rfl (cL (aA rfl) rfl rfl) ?_
  refine tr1 rfl (cL (aA rfl) rfl rfl) ?_
  refine tr1 rfl (aJ (v := .d (.lit (.pointer none))) (aA rfl) rfl rfl) ?_
  refine tr1 rfl (aJ (v := .d (.lit (.int .i64 e8))) (aA rfl) rfl rfl) ?_
  refine aF ?_
  refine aG ?_
  refine aG ?_
  refine aE ?_
  refine tr1 rfl (aC (v := .d (.lit (.int .i64 e8))) (aA rfl) rfl rfl) ?_
  refine tr1 rfl (bB (aA rfl) rfl rfl rfl) ?_
  refine aF ?_
  refine bI rfl (fun c9 => ?_) (fun c9 => ?_)
  ·have h := aR c9 h
   refine aG ?_
   refine aE ?_
   refine tr1 rfl (aC (v := .d (.lit (.int .i64 e8))) (aA rfl) rfl rfl) ?_
   refine tr1 rfl (aJ (v := .d (.lit (.int .i64 0))) (aA rfl) rfl rfl) ?_
   refine tr1 rfl (aJ (v := .d (.lit (.int .i64 e8))) (aA rfl) rfl rfl) ?_
   refine aF ?_
   have h := Option.some.inj h
   subst h
   refine cG (bX (cD (l := [6, 7]) ⟨rfl, rfl, trivial⟩)) ?_
   exact bL ⟨rfl, _, .two _ _, rfl, rfl⟩
  ·have h := aQ c9 h
   refine bG ?_
   refine aG ?_
   refine aG ?_
   refine aE ?_
   refine tr1 rfl (aV (aA rfl) rfl (i := 1) rfl rfl bE) ?_
   refine tr1 rfl (bB (aA rfl) rfl rfl rfl) ?_
   refine aF ?_
   refine bI rfl (fun c10 => ?_) (fun c10 => ?_)
   ·have h := aR c10 h
    refine aG ?_
    refine aE ?_
    refine tr1 rfl (aJ (v := .d (.lit (.int .i64 0))) (aA rfl) rfl rfl) ?_
    refine tr1 rfl (aJ (v := .d (.lit (.int .i64 1))) (aA rfl) rfl rfl) ?_
    refine aF ?_
    have h := Option.some.inj h
    subst h
    refine cG (bX (cD (l := [6, 7]) ⟨rfl, rfl, trivial⟩)) ?_
    exact bL ⟨rfl, _, .two _ _, rfl, rfl⟩
   ·have h := aQ c10 h
    refine bG ?_
    refine aG ?_
    refine aE ?_
    refine tr1 rfl (aC (v := .d (.lit (.pointer none))) (aA rfl) rfl rfl) ?_
    refine tr1 rfl (aC (v := .d (.lit (.int .i64 player_1))) (aA rfl) rfl rfl) ?_
    refine tr1 rfl (aV (aA rfl) rfl (i := 1) rfl rfl bE) ?_
    cases h
 ·have h := tW h
  refine eW (aW [0, 1, 2, 3] rfl rfl (le_refl _)) ?_
  refine tr1 rfl (aC (v := .tup [.bp b6 0 0, .d (.lit (.int .i64 e8))]) (aA rfl) rfl rfl) ?_
  refine tr1 rfl (cL (aA rfl) rfl rfl) ?_
  refine tr1 rfl (cL (aA rfl) rfl rfl) ?_
  refine tr1 rfl (aJ (v := .bp b6 0 0) (aA rfl) rfl rfl) ?_
  refine tr1 rfl (aJ (v := .d (.lit (.int .i64 e8))) (aA rfl) rfl rfl) ?_
  refine aF ?_
  refine aG ?_
  refine aG ?_
  refine aE ?_
  refine tr1 rfl (aC (v := .d (.lit (.int .i64 e8))) (aA rfl) rfl rfl) ?_
  refine tr1 rfl (bB (aA rfl) rfl rfl rfl) ?_
  refine aF ?_
  refine bI rfl (fun c11 => ?_) (fun c11 => ?_)
  ·have h := aR c11 h
   refine aG ?_
   refine aE ?_
   refine tr1 rfl (aC (v := .d (.lit (.int .i64 e8))) (aA rfl) rfl rfl) ?_
   refine tr1 rfl (aJ (v := .d (.lit (.int .i64 0))) (aA rfl) rfl rfl) ?_
   refine tr1 rfl (aJ (v := .d (.lit (.int .i64 e8))) (aA rfl) rfl rfl) ?_
   refine aF ?_
   have h := Option.some.inj h
   subst h
   refine cG (bX (cD (l := [6, 7]) ⟨rfl, rfl, trivial⟩)) ?_
   exact bL ⟨rfl, _, .two _ _, rfl, rfl⟩
  ·have h := aQ c11 h
   refine bG ?_
   refine aG ?_
   refine aG ?_
   refine aE ?_
   refine tr1 rfl (aV (aA rfl) rfl (i := 3) rfl rfl bE) ?_
   refine tr1 rfl (bB (aA rfl) rfl rfl rfl) ?_
   refine aF ?_
   refine bI rfl (fun c12 => ?_) (fun c12 => ?_)
   ·have h := aR c12 h
    refine aG ?_
    refine aE ?_
    refine tr1 rfl (aJ (v := .d (.lit (.int .i64 0))) (aA rfl) rfl rfl) ?_
    refine tr1 rfl (aJ (v := .d (.lit (.int .i64 1))) (aA rfl) rfl rfl) ?_
    refine aF ?_
    have h := Option.some.inj h
    subst h
    refine cG (bX (cD (l := [6, 7]) ⟨rfl, rfl, trivial⟩)) ?_
    exact bL ⟨rfl, _, .two _ _, rfl, rfl⟩
   ·have h := aQ c12 h
    refine bG ?_
    refine aG ?_
    refine aE ?_
    refine tr1 rfl (aC (v := .bp b6 0 0) (aA rfl) rfl rfl) ?_
    refine tr1 rfl (aC (v := .d (.lit (.int .i64 player_1))) (aA rfl) rfl rfl) ?_
    refine tr1 rfl (aV (aA rfl) rfl (i := 3) rfl rfl bE) ?_
    obtain ⟨r13, h14, h⟩ := bind_some h
    refine tr1 rfl (cB (aA rfl) (.func _ _ Tryz.call37) rfl rfl (.cons ((lH 0 rfl rfl (dvc (.same _) (dvc (.same _) (dvc (gE 1 rfl (cT (f := aB) fun _ => rfl)) (dvc (.same _) (dvc (.same _) dvn))))))) (.cons (.same _) (.cons (.same _) .nil))) (oY _ _ _ h14) rfl) ?_
    refine tr1 rfl (aJ (v := .d (.lit (.int .i64 r13))) (aA rfl) rfl rfl) ?_
    refine aF ?_
    refine aG ?_
    refine aE ?_
    refine tr1 rfl (aC (v := .bp b6 0 0) (aA rfl) rfl rfl) ?_
    refine tr1 rfl (aC (v := .bp b6 0 0) (aA rfl) rfl rfl) ?_
    refine tr1 rfl (iP (aA rfl) rfl) ?_
    refine tr1 rfl (aT (aA rfl) rfl gM) ?_
    refine tr1 rfl (aT (aA rfl) rfl dS) ?_
    refine tr1 rfl (aV (aA rfl) rfl (i := 0) rfl rfl fT) ?_
    refine tr1 rfl (vH (aA rfl) rfl rfl) ?_
    apply aAh [.box b6 0 [.lit (.int .i64 y5.Ledger.Players), .lit (.int .i64 y5.Ledger.Counts), .lit w7, .sl 3 (y5.Ledger.Bans.map aK), .sl 3 (y5.Ledger.Frozen.map aK)], .arr w7 43 5 (y5.Ledger.Reports.map aB), .box b1 0 (aU l_0)] [.box b2 0 [.lit (.int .i64 week_2)]] rfl
    exact fH (k := 33) (v := .fn 48 [.cp [.lit (.int .i64 week_2)]]) ((zC (.cons ((lH 0 rfl rfl (dvc (.same _) dvn))) .nil))) (fH (k := 5) (v := .cp [.lit (.int .i64 week_2)]) ((lH 0 rfl rfl (dvc (.same _) dvn))) (qI _ _))
    obtain ⟨r16, h17, h⟩ := bind_some h
    refine eW (aW [1, 0, 2] rfl rfl (le_refl _)) ?_
    refine bW rfl (dI (passed := [.arr w7 43 5 (y5.Ledger.Reports.map aB)]) (aA rfl) rfl (.func _ _ Tryz.call47) rfl rfl (rM y5.Ledger.Reports (fun y15 => pH y15 week_2) 48 [.cp [.lit (.int .i64 week_2)]] Tryz.call48 (fun _ _ h => yX _ _ h) h17)) ?_
    rintro _ ⟨_, _, ⟨v18, rfl, rfl⟩, rfl⟩
    refine tr1 rfl (iP (aA rfl) rfl) ?_
    refine tr1 rfl (aT (aA rfl) rfl gM) ?_
    refine tr1 rfl (aT (aA rfl) rfl dS) ?_
    refine tr1 rfl (cJ (i := 1) rfl rfl rfl rfl rfl Tryz.sizeOf22 rfl (aA rfl) (Nat.le_of_ble_eq_true rfl) (ds' := [.lit (.int .i64 y5.Ledger.Players), .lit (.int .i64 y5.Ledger.Counts), .lit v18, .sl 3 (y5.Ledger.Bans.map aK), .sl 3 (y5.Ledger.Frozen.map aK)]) rfl) ?_
    refine aF ?_
    refine aG ?_
    refine aE ?_
    refine tr1 rfl (aC (v := .d (.lit (.int .i64 r13))) (aA rfl) rfl rfl) ?_
    refine tr1 rfl (aC (v := .bp b6 0 0) (aA rfl) rfl rfl) ?_
    refine tr1 rfl (aC (v := .d (.lit (.int .i64 player_1))) (aA rfl) rfl rfl) ?_
    refine tr1 rfl (bY (aA rfl) rfl bE) ?_
    refine tr1 rfl (bA (aA rfl) rfl rfl rfl) ?_
    obtain ⟨r19, h20, h⟩ := bind_some h
    refine tr1 rfl (cB (aA rfl) (.func _ _ Tryz.call37) rfl rfl (.cons ((lH 1 rfl rfl (dvc (.same _) (dvc (.same _) (dvc (gE 0 rfl (cT (f := aB) fun _ => rfl)) (dvc (.same _) (dvc (.same _) dvn))))))) (.cons (.same _) (.cons (.same _) .nil))) (oY _ _ _ h20) rfl) ?_
    refine tr1 rfl (bA (aA rfl) rfl rfl rfl) ?_
    refine tr1 rfl (aJ (v := .d (.lit (.int .i64 ((w64 (r13 - r19)))))) (aA rfl) rfl rfl) ?_
    refine tr1 rfl (aJ (v := .d (.lit (.int .i64 0))) (aA rfl) rfl rfl) ?_
    refine aF ?_
    have h := Option.some.inj h
    subst h
    refine cG (bX (cD (l := [6, 7]) ⟨rfl, rfl, trivial⟩)) ?_
    exact bL ⟨rfl, _, .two _ _, rfl, rfl⟩

theorem qS (a_0 : List Int) (b_1 : List Int) {r : Bool} (h : iW a_0 b_1 = some r) : Fn Tryz.prog 16 [.d (.sl 1 (a_0.map cE)), .d (.sl 1 (b_1.map cE))] (.d (.lit (.bool r))) := by
 unfold iW at h
 refine Fn.of_tr Tryz.func16 rfl (rs := [.tmp 4]) Tryz.results16 Tryz.ntmps16 (Nat.le_of_ble_eq_true rfl) ?_
 refine aG ?_
 refine aE ?_
 refine tr1 rfl (aJ (v := .d (.lit (.bool false))) (aA rfl) rfl rfl) ?_
 refine aF ?_
 refine aG ?_
 refine aG ?_
 refine aE ?_
 refine tr1 rfl (aC (v := .d (.sl 1 (a_0.map cE))) (aA rfl) rfl rfl) ?_
 refine tr1 rfl (cW (aA rfl) rfl eT.of) ?_
 refine tr1 rfl (aC (v := .d (.sl 1 (b_1.map cE))) (aA rfl) rfl rfl) ?_
 refine tr1 rfl (cW (aA rfl) rfl eT.of) ?_
 refine tr1 rfl (bB (aA rfl) rfl rfl rfl) ?_
 refine aF ?_
 refine bI rfl (fun c1 => ?_) (fun c1 => ?_)
 ·have h := aR c1 h
  refine aG ?_
  refine aE ?_
  refine tr1 rfl (aJ (v := .d (.lit (.bool false))) (aA rfl) rfl rfl) ?_
  refine aF ?_
  have h := Option.some.inj h
  subst h
  exact bL ⟨rfl, _, .one _, rfl, rfl⟩
 ·have h := aQ c1 h
  refine bG ?_
  refine aG ?_
  refine aG ?_
  refine aE ?_
  refine tr1 rfl (aJ (v := .d (.lit (.int .i64 0))) (aA rfl) rfl rfl) ?_
  refine aF ?_
  refine bQ ?_
  refine cI [0, 1] (fun (s2 : Int) => [(5, .d (.lit (.int .i64 s2)))]) (fun (s2 : Int) => []) (fun (k : Nat) (s2 : Int) => fY a_0 b_1 k s2) (fun _ => rfl) (0) h (aW [] rfl rfl (aM rfl (aX ⟨rfl, rfl, trivial⟩))) ?_
  rintro k3 i_0_2 h
  simp only [fY] at h
  refine aG ?_
  refine aG ?_
  refine aE ?_
  refine tr1 rfl (aC (v := .d (.lit (.int .i64 i_0_2))) (aA rfl) rfl rfl) ?_
  refine tr1 rfl (aC (v := .d (.sl 1 (a_0.map cE))) (aA rfl) rfl rfl) ?_
  refine tr1 rfl (cW (aA rfl) rfl eT.of) ?_
  refine tr1 rfl (bB (aA rfl) rfl rfl rfl) ?_
  refine aF ?_
  refine bI rfl (fun c4 => ?_) (fun c4 => ?_)
  ·have h := aR c4 h
   refine bG ?_
   refine aG ?_
   refine bQ ?_
   refine aG ?_
   obtain ⟨x5, h6, h⟩ := bind_some h
   obtain ⟨x7, h8, h⟩ := bind_some h
   refine fA mix 8 [0, 1, 5] [(20, .d (.lit (.int .i64 x5))), (24, .d (.lit (.int .i64 x7)))] ?_ ?_
   ·refine ⟨[(17, 0, .d (.sl 1 (a_0.map cE))), (18, 1, .d (.lit (.int .i64 i_0_2))), (19, 2, .cp [.lit (.int .i64 x5)]), (20, 3, .d (.lit (.int .i64 x5))), (21, 4, .d (.sl 1 (b_1.map cE))), (22, 5, .d (.lit (.int .i64 i_0_2))), (23, 6, .cp [.lit (.int .i64 x7)]), (24, 7, .d (.lit (.int .i64 x7)))], ?_, ?_⟩
    · exact ⟨by kernel_rfl, by kernel_rfl, by kernel_rfl, by kernel_rfl, by kernel_rfl, [([], []), ([], []), ([0, 1], []), ([2], []), ([], []), ([], []), ([4, 5], []), ([6], [])], by kernel_rfl, ⟨fun S hS => aI rfl (aP rfl (aC (v := .d (.sl 1 (a_0.map cE))) (aA rfl) (aH hS rfl) rfl)),
      fun S hS => aI rfl (aP rfl (aC (v := .d (.lit (.int .i64 i_0_2))) (aA rfl) (aH hS rfl) rfl)),
      fun S hS => aI rfl (aP rfl (bM (aA rfl) (aH hS rfl) (aH hS rfl) eT.of (bH cE h6))),
      fun S hS => aI rfl (aP rfl (bY (aA rfl) (aH hS rfl) bE)),
      fun S hS => aI rfl (aP rfl (aC (v := .d (.sl 1 (b_1.map cE))) (aA rfl) (aH hS rfl) rfl)),
      fun S hS => aI rfl (aP rfl (aC (v := .d (.lit (.int .i64 i_0_2))) (aA rfl) (aH hS rfl) rfl)),
      fun S hS => aI rfl (aP rfl (bM (aA rfl) (aH hS rfl) (aH hS rfl) eT.of (bH cE h8))),
      fun S hS => aI rfl (aP rfl (bY (aA rfl) (aH hS rfl) bE)), trivial⟩⟩
    · exact dJ (aM rfl (aM rfl (aX ⟨rfl, rfl, rfl, trivial⟩)))
   ·refine tr1 rfl (bB (aA rfl) rfl rfl rfl) ?_
    refine aF ?_
    refine bI rfl (fun c9 => ?_) (fun c9 => ?_)
    ·have h := aR c9 h
     refine aG ?_
     refine aE ?_
     refine tr1 rfl (aJ (v := .d (.lit (.bool false))) (aA rfl) rfl rfl) ?_
     refine aF ?_
     have h := Option.some.inj h
     subst h
     exact bL ⟨rfl, _, .one _, rfl, rfl⟩
    ·have h := aQ c9 h
     refine dH ?_
     refine aE ?_
     refine tr1 rfl (aC (v := .d (.lit (.int .i64 i_0_2))) (aA rfl) rfl rfl) ?_
     refine tr1 rfl (bA (aA rfl) rfl rfl rfl) ?_
     refine tr1 rfl (aJ (v := .d (.lit (.int .i64 ((w64 (i_0_2 + 1)))))) (aA rfl) rfl rfl) ?_
     refine aF ?_
     exact ⟨(w64 (i_0_2 + 1)), h, aW [] rfl rfl (aM rfl (aX ⟨rfl, rfl, trivial⟩))⟩
  ·have h := aQ c4 h
   refine cP ?_
   refine .inl ⟨rfl, ?_⟩
   simp only [mR] at h
   refine aG ?_
   refine aE ?_
   refine tr1 rfl (aJ (v := .d (.lit (.bool true))) (aA rfl) rfl rfl) ?_
   refine aF ?_
   have h := Option.some.inj h
   subst h
   exact bL ⟨rfl, _, .one _, rfl, rfl⟩

theorem sI {r : Bool} (h : kK = some r) : Fn Tryz.prog 6 [] (.d (.lit (.bool r))) := by
 unfold kK at h
 refine Fn.of_tr Tryz.func6 rfl (rs := [.tmp 0]) Tryz.results6 Tryz.ntmps6 (Nat.le_of_ble_eq_true rfl) ?_
 refine aG ?_
 refine aE ?_
 refine tr1 rfl (aJ (v := .d (.lit (.bool false))) (aA rfl) rfl rfl) ?_
 refine aF ?_
 refine aG ?_
 refine aE ?_
 obtain ⟨r1, h2, h⟩ := bind_some h
 refine tr1 rfl (jA (aA rfl) (.func _ _ Tryz.call18) rfl rfl (vO h2)) ?_
 refine bW rfl (fR (zs := [.lit (.int .i64 0), .lit (.int .i64 0), .sl 5 ((([] : List aD)).map aB), .sl 3 ((([] : List bC)).map aK), .sl 3 ((([] : List bC)).map aK)]) (aA rfl) Tryz.zeroValue25 rfl rfl) ?_
 rintro _ ⟨b3, rfl⟩
 refine tr1 rfl (cJ (i := 0) rfl rfl rfl rfl rfl Tryz.sizeOf25 rfl (aA rfl) (Nat.le_of_ble_eq_true rfl) (ds' := (aU r1)) rfl) ?_
 refine aF ?_
 refine aG ?_
 refine aE ?_
 refine tr1 rfl (cF (aA rfl) rfl (i := 0) rfl eA (es := (aU r1)) rfl rfl) ?_
 obtain ⟨r4, h5, h⟩ := bind_some h
 refine tr1 rfl (jA (aA rfl) (.func _ _ Tryz.call19) rfl rfl (aCx _ _ h5)) ?_
 refine tr1 rfl (aC (v := .tup [.d (.sl 1 (r4.1.map cE)), .d (.lit (.int .i64 r4.2))]) (aA rfl) rfl rfl) ?_
 refine tr1 rfl (cL (aA rfl) rfl rfl) ?_
 refine tr1 rfl (cL (aA rfl) rfl rfl) ?_
 refine tr1 rfl (aJ (v := .d (.sl 1 (r4.1.map cE))) (aA rfl) rfl rfl) ?_
 refine tr1 rfl (aJ (v := .d (.lit (.int .i64 r4.2))) (aA rfl) rfl rfl) ?_
 refine aF ?_
 refine aG ?_
 refine aE ?_
 refine tr1 rfl (cF (aA rfl) rfl (i := 0) rfl eA (es := (aU r1)) rfl rfl) ?_
 refine tr1 rfl (iH (aA rfl) eT rfl rfl (rows := ([300]).map cE) rfl (cT (f := cE) fun _ => rfl) rfl (by decide)) ?_
 obtain ⟨r6, h7, h⟩ := bind_some h
 refine tr1 rfl (cB (aA rfl) (.func _ _ Tryz.call20) rfl rfl (BVs.refl _ _) (aCf _ _ _ _ h7) rfl) ?_
 refine tr1 rfl (aC (v := .tup [.d (.lit (.int .i64 r6.1)), .d (.lit (.int .i64 r6.2.1)), .d (.lit (.int .i64 r6.2.2))]) (aA rfl) rfl rfl) ?_
 refine tr1 rfl (cL (aA rfl) rfl rfl) ?_
 refine tr1 rfl (cL (aA rfl) rfl rfl) ?_
 refine tr1 rfl (cL (aA rfl) rfl rfl) ?_
 refine tr1 rfl (aJ (v := .d (.lit (.int .i64 r6.1))) (aA rfl) rfl rfl) ?_
 refine tr1 rfl (aJ (v := .d (.lit (.int .i64 r6.2.1))) (aA rfl) rfl rfl) ?_
 refine tr1 rfl (aJ (v := .d (.lit (.int .i64 r6.2.2))) (aA rfl) rfl rfl) ?_
 refine aF ?_
 refine aG ?_
 refine aE ?_
 refine tr1 rfl (cF (aA rfl) rfl (i := 0) rfl eA (es := (aU r1)) rfl rfl) ?_
 obtain ⟨r8, h9, h⟩ := bind_some h
 refine tr1 rfl (cB (aA rfl) (.func _ _ Tryz.call21) rfl rfl (BVs.refl _ _) (aAd _ _ _ h9) rfl) ?_
 refine tr1 rfl (aC (v := .tup [.d (.lit (.int .i64 r8.1)), .d (.lit (.int .i64 r8.2))]) (aA rfl) rfl rfl) ?_
 refine tr1 rfl (cL (aA rfl) rfl rfl) ?_
 refine tr1 rfl (cL (aA rfl) rfl rfl) ?_
 refine tr1 rfl (aJ (v := .d (.lit (.int .i64 r8.1))) (aA rfl) rfl rfl) ?_
 refine tr1 rfl (aJ (v := .d (.lit (.int .i64 r8.2))) (aA rfl) rfl rfl) ?_
 refine aF ?_
 refine aG ?_
 refine aE ?_
 refine tr1 rfl (aC (v := .d (.lit (.int .i64 r4.2))) (aA rfl) rfl rfl) ?_
 refine tr1 rfl (bB (aA rfl) rfl rfl rfl) ?_
 refine tr1 rfl (aC (v := .d (.lit (.bool ((decide (r4.2 = 0)))))) (aA rfl) rfl rfl) ?_
 obtain ⟨b10, h11, h⟩ := bind_some h
 refine bZ 3 [2, 4, 5, 7, 8] 32 b10 ?_ ?_
 ·refine bF (decide (r4.2 = 0)) (fun c29 => ?_) (fun c29 => ?_)
  ·have h11 := aR c29 h11
   refine aL rfl rfl (aA rfl) rfl c29 (aC (v := .d (.lit (.int .i64 r6.2.2))) (aA rfl) rfl rfl) ?_
   refine aL rfl rfl (aA rfl) rfl c29 (bB (aA rfl) rfl rfl rfl) ?_
   refine tr1 rfl (bN (v := .d (.lit (.bool ((decide (r6.2.2 = 0)))))) (aA rfl) rfl c29 rfl rfl) ?_
   have h11 := Option.some.inj h11
   subst h11
   refine aF (aY rfl ⟨rfl, rfl, rfl, rfl, rfl, trivial⟩ rfl)
  ·have h11 := aQ c29 h11
   refine aN rfl rfl (aA rfl) rfl (aA rfl) rfl c29 ?_
   refine aN rfl rfl (aA rfl) rfl (aA rfl) rfl c29 ?_
   refine tr1 rfl (bO (v := .d (.lit (.bool false))) (aA rfl) rfl c29 rfl rfl) ?_
   have h11 := Option.some.inj h11
   subst h11
   refine aF (aY rfl ⟨rfl, rfl, rfl, rfl, rfl, trivial⟩ rfl)
 ·refine tr1 rfl (aC (v := .d (.lit (.bool b10))) (aA rfl) rfl rfl) ?_
  obtain ⟨b12, h13, h⟩ := bind_some h
  refine bZ 3 [2, 4, 5, 7] 36 b12 ?_ ?_
  ·refine bF (b10) (fun c28 => ?_) (fun c28 => ?_)
   ·have h13 := aR c28 h13
    refine aL rfl rfl (aA rfl) rfl c28 (aC (v := .d (.lit (.int .i64 r8.2))) (aA rfl) rfl rfl) ?_
    refine aL rfl rfl (aA rfl) rfl c28 (bB (aA rfl) rfl rfl rfl) ?_
    refine tr1 rfl (bN (v := .d (.lit (.bool ((decide (r8.2 = 0)))))) (aA rfl) rfl c28 rfl rfl) ?_
    have h13 := Option.some.inj h13
    subst h13
    refine aF (aY rfl ⟨rfl, rfl, rfl, rfl, trivial⟩ rfl)
   ·have h13 := aQ c28 h13
    refine aN rfl rfl (aA rfl) rfl (aA rfl) rfl c28 ?_
    refine aN rfl rfl (aA rfl) rfl (aA rfl) rfl c28 ?_
    refine tr1 rfl (bO (v := .d (.lit (.bool false))) (aA rfl) rfl c28 rfl rfl) ?_
    have h13 := Option.some.inj h13
    subst h13
    refine aF (aY rfl ⟨rfl, rfl, rfl, rfl, trivial⟩ rfl)
  ·refine tr1 rfl (aC (v := .d (.lit (.bool b12))) (aA rfl) rfl rfl) ?_
   obtain ⟨b14, h15, h⟩ := bind_some h
   refine bZ 4 [4, 5, 7] 41 b14 ?_ ?_
   ·refine bF (b12) (fun c25 => ?_) (fun c25 => ?_)
    ·have h15 := aR c25 h15
     refine aL rfl rfl (aA rfl) rfl c25 (aC (v := .d (.sl 1 (r4.1.map cE))) (aA rfl) rfl rfl) ?_
     refine aL rfl rfl (aA rfl) rfl c25 (iH (aA rfl) eT rfl rfl (rows := ([0, 2, 1]).map cE) rfl (cT (f := cE) fun _ => rfl) rfl (by decide)) ?_
     obtain ⟨r26, h27, h15⟩ := bind_some h15
     refine aL rfl rfl (aA rfl) rfl c25 (cB (aA rfl) (.func _ _ Tryz.call16) rfl rfl (BVs.refl _ _) (qS _ _ h27) rfl) ?_
     refine tr1 rfl (bN (v := .d (.lit (.bool r26))) (aA rfl) rfl c25 rfl rfl) ?_
     have h15 := Option.some.inj h15
     subst h15
     refine aF (aY rfl ⟨rfl, rfl, rfl, trivial⟩ rfl)
    ·have h15 := aQ c25 h15
     refine aN rfl rfl (aA rfl) rfl (aA rfl) rfl c25 ?_
     refine aN rfl rfl (aA rfl) rfl (aA rfl) rfl c25 ?_
     refine aN rfl rfl (aA rfl) rfl (aA rfl) rfl c25 ?_
     refine tr1 rfl (bO (v := .d (.lit (.bool false))) (aA rfl) rfl c25 rfl rfl) ?_
     have h15 := Option.some.inj h15
     subst h15
     refine aF (aY rfl ⟨rfl, rfl, rfl, trivial⟩ rfl)
   ·refine tr1 rfl (aC (v := .d (.lit (.bool b14))) (aA rfl) rfl rfl) ?_
    obtain ⟨b16, h17, h⟩ := bind_some h
    refine bZ 3 [5, 7] 45 b16 ?_ ?_
    ·refine bF (b14) (fun c24 => ?_) (fun c24 => ?_)
     ·have h17 := aR c24 h17
      refine aL rfl rfl (aA rfl) rfl c24 (aC (v := .d (.lit (.int .i64 r6.1))) (aA rfl) rfl rfl) ?_
      refine aL rfl rfl (aA rfl) rfl c24 (bB (aA rfl) rfl rfl rfl) ?_
      refine tr1 rfl (bN (v := .d (.lit (.bool ((decide (r6.1 = 1)))))) (aA rfl) rfl c24 rfl rfl) ?_
      have h17 := Option.some.inj h17
      subst h17
      refine aF (aY rfl ⟨rfl, rfl, trivial⟩ rfl)
     ·have h17 := aQ c24 h17
      refine aN rfl rfl (aA rfl) rfl (aA rfl) rfl c24 ?_
      refine aN rfl rfl (aA rfl) rfl (aA rfl) rfl c24 ?_
      refine tr1 rfl (bO (v := .d (.lit (.bool false))) (aA rfl) rfl c24 rfl rfl) ?_
      have h17 := Option.some.inj h17
      subst h17
      refine aF (aY rfl ⟨rfl, rfl, trivial⟩ rfl)
    ·refine tr1 rfl (aC (v := .d (.lit (.bool b16))) (aA rfl) rfl rfl) ?_
     obtain ⟨b18, h19, h⟩ := bind_some h
     refine bZ 3 [7] 49 b18 ?_ ?_
     ·refine bF (b16) (fun c23 => ?_) (fun c23 => ?_)
      ·have h19 := aR c23 h19
       refine aL rfl rfl (aA rfl) rfl c23 (aC (v := .d (.lit (.int .i64 r6.2.1))) (aA rfl) rfl rfl) ?_
       refine aL rfl rfl (aA rfl) rfl c23 (bB (aA rfl) rfl rfl rfl) ?_
       refine tr1 rfl (bN (v := .d (.lit (.bool ((decide (r6.2.1 = 3)))))) (aA rfl) rfl c23 rfl rfl) ?_
       have h19 := Option.some.inj h19
       subst h19
       refine aF (aY rfl ⟨rfl, trivial⟩ rfl)
      ·have h19 := aQ c23 h19
       refine aN rfl rfl (aA rfl) rfl (aA rfl) rfl c23 ?_
       refine aN rfl rfl (aA rfl) rfl (aA rfl) rfl c23 ?_
       refine tr1 rfl (bO (v := .d (.lit (.bool false))) (aA rfl) rfl c23 rfl rfl) ?_
       have h19 := Option.some.inj h19
       subst h19
       refine aF (aY rfl ⟨rfl, trivial⟩ rfl)
     ·refine tr1 rfl (aC (v := .d (.lit (.bool b18))) (aA rfl) rfl rfl) ?_
      obtain ⟨b20, h21, h⟩ := bind_some h
      refine bZ 3 [] 53 b20 ?_ ?_
      ·refine bF (b18) (fun c22 => ?_) (fun c22 => ?_)
       ·have h21 := aR c22 h21
        refine aL rfl rfl (aA rfl) rfl c22 (aC (v := .d (.lit (.int .i64 r8.1))) (aA rfl) rfl rfl) ?_
        refine aL rfl rfl (aA rfl) rfl c22 (bB (aA rfl) rfl rfl rfl) ?_
        refine tr1 rfl (bN (v := .d (.lit (.bool ((decide (r8.1 = 200)))))) (aA rfl) rfl c22 rfl rfl) ?_
        have h21 := Option.some.inj h21
        subst h21
        refine aF (aY rfl trivial rfl)
       ·have h21 := aQ c22 h21
        refine aN rfl rfl (aA rfl) rfl (aA rfl) rfl c22 ?_
        refine aN rfl rfl (aA rfl) rfl (aA rfl) rfl c22 ?_
        refine tr1 rfl (bO (v := .d (.lit (.bool false))) (aA rfl) rfl c22 rfl rfl) ?_
        have h21 := Option.some.inj h21
        subst h21
        refine aF (aY rfl trivial rfl)
      ·refine tr1 rfl (aJ (v := .d (.lit (.bool b20))) (aA rfl) rfl rfl) ?_
       refine aF ?_
       have h := Option.some.inj h
       subst h
       refine cG (bX (cD (l := [0]) ⟨rfl, trivial⟩)) ?_
       exact bL ⟨rfl, _, .one _, rfl, rfl⟩

theorem xY (l_0 : aS) {r : aS} (h : mI l_0 = some r) : Fn Tryz.prog 7 [.agg (aU l_0)] (.agg (aU r)) := by
 unfold mI at h
 refine sS Tryz.func7 rfl (rs := [.cell 2 25]) Tryz.results7 Tryz.ntmps7 (Nat.le_of_ble_eq_true rfl) ?_
 refine aG ?_
 refine aE ?_
 refine bW rfl (eG (v := .agg (aU l_0)) (aA rfl) rfl rfl rfl) ?_
 rintro _ ⟨b1, rfl⟩
 refine bW rfl (fR (zs := [.lit (.int .i64 0), .lit (.int .i64 0), .sl 5 ((([] : List aD)).map aB), .sl 3 ((([] : List bC)).map aK), .sl 3 ((([] : List bC)).map aK)]) (aA rfl) Tryz.zeroValue25 rfl rfl) ?_
 rintro _ ⟨b2, rfl⟩
 refine aF ?_
 refine aG ?_
 refine aE ?_
 refine tr1 rfl (cF (aA rfl) rfl (i := 0) rfl eA (es := (aU l_0)) rfl rfl) ?_
 refine bW rfl (fR (zs := [.lit (.int .i64 0), .lit (.int .i64 0), .sl 5 ((([] : List aD)).map aB), .sl 3 ((([] : List bC)).map aK), .sl 3 ((([] : List bC)).map aK)]) (aA rfl) Tryz.zeroValue25 rfl rfl) ?_
 rintro _ ⟨b3, rfl⟩
 refine tr1 rfl (cJ (i := 2) rfl rfl rfl rfl rfl Tryz.sizeOf25 rfl (aA rfl) (Nat.le_of_ble_eq_true rfl) (ds' := (aU l_0)) rfl) ?_
 refine aF ?_
 refine aG ?_
 refine aE ?_
 refine tr1 rfl (vZ (aA rfl) bP rfl rfl (rows := (([] : List aD)).map aB) rfl (cT (f := aB) fun _ => rfl) rfl (by decide)) ?_
 refine tr1 rfl (aT (aA rfl) rfl dS) ?_
 refine tr1 rfl (aV (aA rfl) rfl (i := 0) rfl rfl fT) ?_
 obtain ⟨x4, h5, h⟩ := bind_some h
 refine tr1 rfl (zT (.d (.weak _ _)) (sN (nn := true) (f := aB) (xs := ([] : List aD)) (ys := l_0.Reports) (aA rfl) bP rfl rfl (fun _ => rfl) h5 rfl)) ?_
 refine tr1 rfl (aT (aA rfl) rfl dS) ?_
 refine tr1 rfl (cJ (i := 2) rfl rfl rfl rfl rfl Tryz.sizeOf22 rfl (aA rfl) (Nat.le_of_ble_eq_true rfl) (ds' := (aU (aS.mk l_0.Players l_0.Counts x4 l_0.Bans l_0.Frozen))) rfl) ?_
 refine aF ?_
 refine aG ?_
 refine aE ?_
 refine tr1 rfl (vZ (aA rfl) eH rfl rfl (rows := (([] : List bC)).map aK) rfl (cT (f := aK) fun _ => rfl) rfl (by decide)) ?_
 refine tr1 rfl (aT (aA rfl) rfl jO) ?_
 refine tr1 rfl (aV (aA rfl) rfl (i := 0) rfl rfl fU) ?_
 obtain ⟨x6, h7, h⟩ := bind_some h
 refine tr1 rfl (zT (.d (.weak _ _)) (sN (nn := true) (f := aK) (xs := ([] : List bC)) (ys := l_0.Bans) (aA rfl) eH rfl rfl (fun _ => rfl) h7 rfl)) ?_
 refine tr1 rfl (aT (aA rfl) rfl jO) ?_
 refine tr1 rfl (cJ (i := 2) rfl rfl rfl rfl rfl Tryz.sizeOf23 rfl (aA rfl) (Nat.le_of_ble_eq_true rfl) (ds' := (aU (aS.mk l_0.Players l_0.Counts x4 x6 l_0.Frozen))) rfl) ?_
 refine aF ?_
 refine aG ?_
 refine aE ?_
 refine tr1 rfl (vZ (aA rfl) eH rfl rfl (rows := (([] : List bC)).map aK) rfl (cT (f := aK) fun _ => rfl) rfl (by decide)) ?_
 refine tr1 rfl (aT (aA rfl) rfl iD) ?_
 refine tr1 rfl (aV (aA rfl) rfl (i := 0) rfl rfl fU) ?_
 obtain ⟨x8, h9, h⟩ := bind_some h
 refine tr1 rfl (zT (.d (.weak _ _)) (sN (nn := true) (f := aK) (xs := ([] : List bC)) (ys := l_0.Frozen) (aA rfl) eH rfl rfl (fun _ => rfl) h9 rfl)) ?_
 refine tr1 rfl (aT (aA rfl) rfl iD) ?_
 refine tr1 rfl (cJ (i := 2) rfl rfl rfl rfl rfl Tryz.sizeOf23 rfl (aA rfl) (Nat.le_of_ble_eq_true rfl) (ds' := (aU (aS.mk l_0.Players l_0.Counts x4 x6 x8))) rfl) ?_
 refine aF ?_
 refine aG ?_
 refine aE ?_
 refine tr1 rfl (cF (aA rfl) rfl (i := 2) rfl eA (es := (aU (aS.mk l_0.Players l_0.Counts x4 x6 x8))) rfl rfl) ?_
 refine tr1 rfl (cJ (i := 1) rfl rfl rfl rfl rfl Tryz.sizeOf25 rfl (aA rfl) (Nat.le_of_ble_eq_true rfl) (ds' := (aU (aS.mk l_0.Players l_0.Counts x4 x6 x8))) rfl) ?_
 refine aF ?_
 have h := Option.some.inj h
 subst h
 exact bL ⟨rfl, _, [.box b1 0 (aU l_0), .box b2 0 (aU (aS.mk l_0.Players l_0.Counts x4 x6 x8)), .box b3 0 (aU (aS.mk l_0.Players l_0.Counts x4 x6 x8))], .one (.cell 2 25 rfl (i := 1) rfl eA (es := (aU (aS.mk l_0.Players l_0.Counts x4 x6 x8))) rfl rfl), .refl _, .same _⟩

theorem aCe (r_0 : aD) (c_1 : Int) {r : Bool} (h : nX r_0 c_1 = some r) : Fn Tryz.prog 28 [.agg (aB r_0), .cp [.lit (.int .i64 c_1)]] (.d (.lit (.bool r))) := by
 unfold nX at h
 refine Fn.of_tr Tryz.func28 rfl (rs := [.tmp 3]) Tryz.results28 Tryz.ntmps28 (Nat.le_of_ble_eq_true rfl) ?_
 refine aG ?_
 refine aE ?_
 refine bW rfl (eG (v := .agg (aB r_0)) (aA rfl) rfl rfl rfl) ?_
 rintro _ ⟨b1, rfl⟩
 refine tr1 rfl (aJ (v := .d (.lit (.bool false))) (aA rfl) rfl rfl) ?_
 refine aF ?_
 refine aG ?_
 refine aE ?_
 refine tr1 rfl (aT (aA rfl) rfl gV) ?_
 refine tr1 rfl (aV (aA rfl) rfl (i := 0) rfl rfl bE) ?_
 refine tr1 rfl (bY (aA rfl) rfl bE) ?_
 refine tr1 rfl (bB (aA rfl) rfl rfl rfl) ?_
 refine tr1 rfl (aJ (v := .d (.lit (.bool ((decide (r_0.Id = c_1)))))) (aA rfl) rfl rfl) ?_
 refine aF ?_
 have h := Option.some.inj h
 subst h
 refine cG (bX (cD (l := [3]) ⟨rfl, trivial⟩)) ?_
 exact bL ⟨rfl, _, .one _, rfl, rfl⟩

theorem aEl (l_0 : aS) (id_1 : Int) (week_2 : Int) {r : Int × Int} (h : nB l_0 id_1 week_2 = some r) : Fn Tryz.prog 10 [.agg (aU l_0), .d (.lit (.int .i64 id_1)), .d (.lit (.int .i64 week_2))] (.tup [.d (.lit (.int .i64 r.1)), .d (.lit (.int .i64 r.2))]) := by
 unfold nB at h
 refine Fn.of_tr Tryz.func10 rfl (rs := [.tmp 6, .tmp 7]) Tryz.results10 Tryz.ntmps10 (Nat.le_of_ble_eq_true rfl) ?_
 refine aG ?_
 refine aE ?_
 refine bW rfl (eG (v := .agg (aU l_0)) (aA rfl) rfl rfl rfl) ?_
 rintro _ ⟨b1, rfl⟩
 refine bW rfl (eG (v := .d (.lit (.int .i64 id_1))) (aA rfl) rfl rfl rfl) ?_
 rintro _ ⟨b2, rfl⟩
 refine tr1 rfl (aJ (v := .d (.lit (.int .i64 0))) (aA rfl) rfl rfl) ?_
 refine tr1 rfl (aJ (v := .d (.lit (.int .i64 0))) (aA rfl) rfl rfl) ?_
 refine aF ?_
 refine aG ?_
 refine aE ?_
 refine tr1 rfl (cF (aA rfl) rfl (i := 0) rfl eA (es := (aU l_0)) rfl rfl) ?_
 refine tr1 rfl (aC (v := .d (.lit (.int .i64 week_2))) (aA rfl) rfl rfl) ?_
 obtain ⟨r3, h4, h⟩ := bind_some h
 refine bW rfl (dI (passed := []) (aA rfl) rfl (.func _ _ Tryz.call26) rfl rfl (pI _ _ _ h4)) ?_
 rintro _ ⟨_, _, ⟨b6, w7, rfl, rfl⟩, rfl⟩
 obtain ⟨_ | y5, e8⟩ := r3
 ·have h := tV h
  refine eW (aW [0, 1] rfl rfl (le_refl _)) ?_
  refine tr1 rfl (aC (v := .tup [.d (.lit (.pointer none)), .d (.lit (.int .i64 e8))]) (aA rfl) rfl rfl) ?_
  refine tr1 rfl (cL (aA rfl) rfl rfl) ?_
  refine tr1 rfl (cL (aA rfl) rfl rfl) ?_
  refine tr1 rfl (aJ (v := .d (.lit (.pointer none))) (aA rfl) rfl rfl) ?_
  refine tr1 rfl (aJ (v := .d (.lit (.int .i64 e8))) (aA rfl) rfl rfl) ?_
  refine aF ?_
  refine aG ?_
  refine aG ?_
  refine aE ?_
  refine tr1 rfl (aC (v := .d (.lit (.int .i64 e8))) (aA rfl) rfl rfl) ?_
  refine tr1 rfl (bB (aA rfl) rfl rfl rfl) ?_
  refine aF ?_
  refine bI rfl (fun c9 => ?_) (fun c9 => ?_)
  ·have h := aR c9 h
   refine aG ?_
   refine aE ?_
   refine tr1 rfl (aC (v := .d (.lit (.int .i64 e8))) (aA rfl) rfl rfl) ?_
   refine tr1 rfl (aJ (v := .d (.lit (.int .i64 0))) (aA rfl) rfl rfl) ?_
   refine tr1 rfl (aJ (v := .d (.lit (.int .i64 e8))) (aA rfl) rfl rfl) ?_
   refine aF ?_
   have h := Option.some.inj h
   subst h
   refine cG (bX (cD (l := [6, 7]) ⟨rfl, rfl, trivial⟩)) ?_
   exact bL ⟨rfl, _, .two _ _, rfl, rfl⟩
  ·have h := aQ c9 h
   refine bG ?_
   refine aG ?_
   refine aE ?_
   refine tr1 rfl (aC (v := .d (.lit (.pointer none))) (aA rfl) rfl rfl) ?_
   cases h
 ·have h := tW h
  refine eW (aW [0, 1, 2, 3] rfl rfl (le_refl _)) ?_
  refine tr1 rfl (aC (v := .tup [.bp b6 0 0, .d (.lit (.int .i64 e8))]) (aA rfl) rfl rfl) ?_
  refine tr1 rfl (cL (aA rfl) rfl rfl) ?_
  refine tr1 rfl (cL (aA rfl) rfl rfl) ?_
  refine tr1 rfl (aJ (v := .bp b6 0 0) (aA rfl) rfl rfl) ?_
  refine tr1 rfl (aJ (v := .d (.lit (.int .i64 e8))) (aA rfl) rfl rfl) ?_
  refine aF ?_
  refine aG ?_
  refine aG ?_
  refine aE ?_
  refine tr1 rfl (aC (v := .d (.lit (.int .i64 e8))) (aA rfl) rfl rfl) ?_
  refine tr1 rfl (bB (aA rfl) rfl rfl rfl) ?_
  refine aF ?_
  refine bI rfl (fun c10 => ?_) (fun c10 => ?_)
  ·have h := aR c10 h
   refine aG ?_
   refine aE ?_
   refine tr1 rfl (aC (v := .d (.lit (.int .i64 e8))) (aA rfl) rfl rfl) ?_
   refine tr1 rfl (aJ (v := .d (.lit (.int .i64 0))) (aA rfl) rfl rfl) ?_
   refine tr1 rfl (aJ (v := .d (.lit (.int .i64 e8))) (aA rfl) rfl rfl) ?_
   refine aF ?_
   have h := Option.some.inj h
   subst h
   refine cG (bX (cD (l := [6, 7]) ⟨rfl, rfl, trivial⟩)) ?_
   exact bL ⟨rfl, _, .two _ _, rfl, rfl⟩
  ·have h := aQ c10 h
   refine bG ?_
   refine aG ?_
   refine aE ?_
   refine tr1 rfl (aC (v := .bp b6 0 0) (aA rfl) rfl rfl) ?_
   refine tr1 rfl (iP (aA rfl) rfl) ?_
   refine tr1 rfl (aT (aA rfl) rfl gM) ?_
   refine tr1 rfl (aT (aA rfl) rfl dS) ?_
   refine tr1 rfl (aV (aA rfl) rfl (i := 0) rfl rfl fT) ?_
   refine tr1 rfl (vH (aA rfl) rfl rfl) ?_
   obtain ⟨r12, h13, h⟩ := bind_some h
   refine tr1 rfl (cB (aA rfl) (.func _ _ Tryz.call27) rfl rfl (.cons (.d (gE 1 rfl (cT (f := aB) fun _ => rfl))) (.cons ((zC (.cons ((lH 3 rfl rfl (dvc (.same _) dvn))) .nil))) .nil)) (nE _ _ 28 [.cp [.lit (.int .i64 id_1)]] Tryz.call28 (fun _ _ h => aCe _ _ h) h13) rfl) ?_
   refine tr1 rfl (aJ (v := .d (.lit (.int .i64 r12))) (aA rfl) rfl rfl) ?_
   refine aF ?_
   refine aG ?_
   refine aG ?_
   refine aE ?_
   refine tr1 rfl (aC (v := .d (.lit (.int .i64 r12))) (aA rfl) rfl rfl) ?_
   refine tr1 rfl (bB (aA rfl) rfl rfl rfl) ?_
   refine tr1 rfl (aC (v := .d (.lit (.bool ((decide (r12 < 0)))))) (aA rfl) rfl rfl) ?_
   obtain ⟨b14, h15, h⟩ := bind_some h
   refine bZ 12 [2, 8, 10] 41 b14 ?_ ?_
   ·refine bF (decide (r12 < 0)) (fun c21 => ?_) (fun c21 => ?_)
    ·have h15 := aR c21 h15
     refine aN rfl rfl (aA rfl) rfl (aA rfl) rfl c21 ?_
     refine aN rfl rfl (aA rfl) rfl (aA rfl) rfl c21 ?_
     refine aN rfl rfl (aA rfl) rfl (aA rfl) rfl c21 ?_
     refine aN rfl rfl (aA rfl) rfl (aA rfl) rfl c21 ?_
     refine aN rfl rfl (aA rfl) rfl (aA rfl) rfl c21 ?_
     refine aN rfl rfl (aA rfl) rfl (aA rfl) rfl c21 ?_
     refine aN rfl rfl (aA rfl) rfl (aA rfl) rfl c21 ?_
     refine aN rfl rfl (aA rfl) rfl (aA rfl) rfl c21 ?_
     refine aN rfl rfl (aA rfl) rfl (aA rfl) rfl c21 ?_
     refine aN rfl rfl (aA rfl) rfl (aA rfl) rfl c21 ?_
     refine aN rfl rfl (aA rfl) rfl (aA rfl) rfl c21 ?_
     refine tr1 rfl (bN (v := .d (.lit (.bool true))) (aA rfl) rfl c21 rfl rfl) ?_
     have h15 := Option.some.inj h15
     subst h15
     refine aF (aY rfl ⟨rfl, rfl, rfl, trivial⟩ rfl)
    ·have h15 := aQ c21 h15
     refine aL rfl rfl (aA rfl) rfl c21 (aC (v := .bp b6 0 0) (aA rfl) rfl rfl) ?_
     refine aL rfl rfl (aA rfl) rfl c21 (iP (aA rfl) rfl) ?_
     refine aL rfl rfl (aA rfl) rfl c21 (aT (aA rfl) rfl gM) ?_
     refine aL rfl rfl (aA rfl) rfl c21 (aT (aA rfl) rfl dS) ?_
     refine aL rfl rfl (aA rfl) rfl c21 (aV (aA rfl) rfl (i := 0) rfl rfl fT) ?_
     refine aL rfl rfl (aA rfl) rfl c21 (aC (v := .d (.lit (.int .i64 r12))) (aA rfl) rfl rfl) ?_
     obtain ⟨x22, h23, h15⟩ := bind_some h15
     refine aL rfl rfl (aA rfl) rfl c21 (cM (m := 1) (aA rfl) rfl rfl rfl bP.of (bH aB h23)) ?_
     refine aL rfl rfl (aA rfl) rfl c21 (vY (aA rfl) rfl jJ) ?_
     refine aL rfl rfl (aA rfl) rfl c21 (xJ (aA rfl) rfl (m := 1) rfl (eC aB h23) rfl bE) ?_
     refine aL rfl rfl (aA rfl) rfl c21 (aC (v := .d (.lit (.int .i64 week_2))) (aA rfl) rfl rfl) ?_
     refine aL rfl rfl (aA rfl) rfl c21 (bB (aA rfl) rfl rfl rfl) ?_
     refine tr1 rfl (bO (v := .d (.lit (.bool ((decide (week_2 < x22.Week)))))) (aA rfl) rfl c21 rfl rfl) ?_
     have h15 := Option.some.inj h15
     subst h15
     refine aF (aY rfl ⟨rfl, rfl, rfl, trivial⟩ rfl)
   ·refine aF ?_
    refine bI rfl (fun c16 => ?_) (fun c16 => ?_)
    ·have h := aR c16 h
     refine aG ?_
     refine aE ?_
     refine tr1 rfl (aJ (v := .d (.lit (.int .i64 0))) (aA rfl) rfl rfl) ?_
     refine tr1 rfl (aJ (v := .d (.lit (.int .i64 3))) (aA rfl) rfl rfl) ?_
     refine aF ?_
     have h := Option.some.inj h
     subst h
     refine cG (bX (cD (l := [6, 7]) ⟨rfl, rfl, trivial⟩)) ?_
     exact bL ⟨rfl, _, .two _ _, rfl, rfl⟩
    ·have h := aQ c16 h
     refine bG ?_
     refine aG ?_
     refine aE ?_
     refine tr1 rfl (aC (v := .bp b6 0 0) (aA rfl) rfl rfl) ?_
     refine tr1 rfl (aC (v := .bp b6 0 0) (aA rfl) rfl rfl) ?_
     refine tr1 rfl (iP (aA rfl) rfl) ?_
     refine tr1 rfl (aT (aA rfl) rfl gM) ?_
     refine tr1 rfl (aT (aA rfl) rfl dS) ?_
     refine tr1 rfl (aV (aA rfl) rfl (i := 0) rfl rfl fT) ?_
     refine tr1 rfl (aC (v := .d (.lit (.int .i64 r12))) (aA rfl) rfl rfl) ?_
     obtain ⟨x17, h18, h⟩ := bind_some h
     refine tr1 rfl (cM (m := 1) (aA rfl) rfl rfl rfl bP.of (bH aB h18)) ?_
     refine tr1 rfl (dB (aA rfl) rfl (l := 1) rfl (eC aB h18) dE (es := (aB x17)) rfl rfl) ?_
     refine tr1 rfl (aC (v := .d (.lit (.int .i64 week_2))) (aA rfl) rfl rfl) ?_
     obtain ⟨r19, h20, h⟩ := bind_some h
     refine tr1 rfl (cB (aA rfl) (.func _ _ Tryz.call29) rfl rfl (.cons ((lH 0 rfl rfl (dvc (.same _) (dvc (.same _) (dvc (gE 1 rfl (cT (f := aB) fun _ => rfl)) (dvc (.same _) (dvc (.same _) dvn))))))) (.cons (.same _) (.cons (.same _) .nil))) (rE _ _ _ h20) rfl) ?_
     refine tr1 rfl (aJ (v := .d (.lit (.int .i64 r19))) (aA rfl) rfl rfl) ?_
     refine tr1 rfl (aJ (v := .d (.lit (.int .i64 0))) (aA rfl) rfl rfl) ?_
     refine aF ?_
     have h := Option.some.inj h
     subst h
     refine cG (bX (cD (l := [6, 7]) ⟨rfl, rfl, trivial⟩)) ?_
     exact bL ⟨rfl, _, .two _ _, rfl, rfl⟩

theorem sZ (l_0 : List bC) (player_1 : Int) (week_2 : Int) {r : Bool} (h : jN l_0 player_1 week_2 = some r) : Fn Tryz.prog 59 [.d (.sl 3 (l_0.map aK)), .d (.lit (.int .i64 player_1)), .d (.lit (.int .i64 week_2))] (.d (.lit (.bool r))) := by
 unfold jN at h
 refine Fn.of_tr Tryz.func59 rfl (rs := [.tmp 6]) Tryz.results59 Tryz.ntmps59 (Nat.le_of_ble_eq_true rfl) ?_
 refine aG ?_
 refine aE ?_
 refine tr1 rfl (aJ (v := .d (.lit (.bool false))) (aA rfl) rfl rfl) ?_
 refine aF ?_
 refine aG ?_
 refine aG ?_
 refine aE ?_
 refine tr1 rfl (aJ (v := .d (.lit (.int .i64 0))) (aA rfl) rfl rfl) ?_
 refine aF ?_
 refine bQ ?_
 refine cI [0, 1, 2] (fun (s1 : Int) => [(7, .d (.lit (.int .i64 s1)))]) (fun (s1 : Int) => []) (fun (k : Nat) (s1 : Int) => iA l_0 player_1 week_2 k s1) (fun _ => rfl) (0) h (aW [] rfl rfl (aM rfl (aX ⟨rfl, rfl, rfl, trivial⟩))) ?_
 rintro k2 i_0_1 h
 simp only [iA] at h
 refine aG ?_
 refine aG ?_
 refine aE ?_
 refine tr1 rfl (aC (v := .d (.lit (.int .i64 i_0_1))) (aA rfl) rfl rfl) ?_
 refine tr1 rfl (aC (v := .d (.sl 3 (l_0.map aK))) (aA rfl) rfl rfl) ?_
 refine tr1 rfl (cW (aA rfl) rfl eH.of) ?_
 refine tr1 rfl (bB (aA rfl) rfl rfl rfl) ?_
 refine aF ?_
 refine bI rfl (fun c3 => ?_) (fun c3 => ?_)
 ·have h := aR c3 h
  refine bG ?_
  refine aG ?_
  refine bQ ?_
  refine aG ?_
  obtain ⟨x4, h5, h⟩ := bind_some h
  obtain ⟨b6, h7, h⟩ := bind_some h
  refine fA mix 21 [0, 1, 2, 7] [(34, .d (.lit (.bool b6)))] ?_ ?_
  ·refine bF (decide (x4.Player = player_1)) (fun c8 => ?_) (fun c8 => ?_)
   ·have h7 := aR c8 h7
    obtain ⟨x9, h10, h7⟩ := bind_some h7
    obtain ⟨x11, h12, h7⟩ := bind_some h7
    obtain ⟨r13, h14, h7⟩ := bind_some h7
    have h7 := Option.some.inj h7
    subst h7
    refine ⟨[(14, 0, .d (.sl 3 (l_0.map aK))), (15, 1, .d (.lit (.int .i64 i_0_1))), (16, 2, .cp [.lit (.int .i64 x4.Player), .lit (.int .i64 x4.From), .lit (.int .i64 x4.To)]), (17, 3, .cp [.lit (.int .i64 x4.Player)]), (18, 4, .d (.lit (.int .i64 x4.Player))), (19, 5, .d (.lit (.int .i64 player_1))), (20, 6, .d (.lit (.bool ((decide (x4.Player = player_1)))))), (21, 7, .d (.lit (.bool ((decide (x4.Player = player_1)))))), (22, 8, .d (.lit (.int .i64 week_2))), (23, 9, .d (.sl 3 (l_0.map aK))), (24, 10, .d (.lit (.int .i64 i_0_1))), (25, 11, .cp [.lit (.int .i64 x9.Player), .lit (.int .i64 x9.From), .lit (.int .i64 x9.To)]), (26, 12, .cp [.lit (.int .i64 x9.From)]), (27, 13, .d (.lit (.int .i64 x9.From))), (28, 14, .d (.sl 3 (l_0.map aK))), (29, 15, .d (.lit (.int .i64 i_0_1))), (30, 16, .cp [.lit (.int .i64 x11.Player), .lit (.int .i64 x11.From), .lit (.int .i64 x11.To)]), (31, 17, .cp [.lit (.int .i64 x11.To)]), (32, 18, .d (.lit (.int .i64 x11.To))), (33, 19, .d (.lit (.bool r13))), (34, 20, .d (.lit (.bool r13)))], ?_, ?_⟩
    · exact ⟨by kernel_rfl, by kernel_rfl, by kernel_rfl, by kernel_rfl, by kernel_rfl, [([], []), ([], []), ([0, 1], []), ([2], []), ([3], []), ([], []), ([4, 5], []), ([6], []), ([7], []), ([7], []), ([7], []), ([7, 9, 10], []), ([7, 11], []), ([7, 12], []), ([7], []), ([7], []), ([7, 14, 15], []), ([7, 16], []), ([7, 17], []), ([7, 8, 13, 18], []), ([7, 19], [])], by kernel_rfl, ⟨fun S hS => aI rfl (aP rfl (aC (v := .d (.sl 3 (l_0.map aK))) (aA rfl) (aH hS rfl) rfl)),
      fun S hS => aI rfl (aP rfl (aC (v := .d (.lit (.int .i64 i_0_1))) (aA rfl) (aH hS rfl) rfl)),
      fun S hS => aI rfl (aP rfl (bM (aA rfl) (aH hS rfl) (aH hS rfl) eH.of (bH aK h5))),
      fun S hS => aI rfl (aP rfl (cA (aA rfl) (aH hS rfl) kN (es := [.lit (.int .i64 x4.Player)]) rfl)),
      fun S hS => aI rfl (aP rfl (bY (aA rfl) (aH hS rfl) bE)),
      fun S hS => aI rfl (aP rfl (aC (v := .d (.lit (.int .i64 player_1))) (aA rfl) (aH hS rfl) rfl)),
      fun S hS => aI rfl (aP rfl (bB (aA rfl) (aH hS rfl) (aH hS rfl) rfl)),
      fun S hS => aI rfl (aP rfl (aC (v := .d (.lit (.bool ((decide (x4.Player = player_1)))))) (aA rfl) (aH hS rfl) rfl)),
      fun S hS => aI rfl (aZ rfl rfl (aA rfl) (aO hS rfl) c8 (aC (v := .d (.lit (.int .i64 week_2))) (aA rfl) (aH hS rfl) rfl)),
      fun S hS => aI rfl (aZ rfl rfl (aA rfl) (aO hS rfl) c8 (aC (v := .d (.sl 3 (l_0.map aK))) (aA rfl) (aH hS rfl) rfl)),
      fun S hS => aI rfl (aZ rfl rfl (aA rfl) (aO hS rfl) c8 (aC (v := .d (.lit (.int .i64 i_0_1))) (aA rfl) (aH hS rfl) rfl)),
      fun S hS => aI rfl (aZ rfl rfl (aA rfl) (aO hS rfl) c8 (bM (aA rfl) (aH hS rfl) (aH hS rfl) eH.of (bH aK h10))),
      fun S hS => aI rfl (aZ rfl rfl (aA rfl) (aO hS rfl) c8 (cA (aA rfl) (aH hS rfl) jQ (es := [.lit (.int .i64 x9.From)]) rfl)),
      fun S hS => aI rfl (aZ rfl rfl (aA rfl) (aO hS rfl) c8 (bY (aA rfl) (aH hS rfl) bE)),
      fun S hS => aI rfl (aZ rfl rfl (aA rfl) (aO hS rfl) c8 (aC (v := .d (.sl 3 (l_0.map aK))) (aA rfl) (aH hS rfl) rfl)),
      fun S hS => aI rfl (aZ rfl rfl (aA rfl) (aO hS rfl) c8 (aC (v := .d (.lit (.int .i64 i_0_1))) (aA rfl) (aH hS rfl) rfl)),
      fun S hS => aI rfl (aZ rfl rfl (aA rfl) (aO hS rfl) c8 (bM (aA rfl) (aH hS rfl) (aH hS rfl) eH.of (bH aK h12))),
      fun S hS => aI rfl (aZ rfl rfl (aA rfl) (aO hS rfl) c8 (cA (aA rfl) (aH hS rfl) lA (es := [.lit (.int .i64 x11.To)]) rfl)),
      fun S hS => aI rfl (aZ rfl rfl (aA rfl) (aO hS rfl) c8 (bY (aA rfl) (aH hS rfl) bE)),
      fun S hS => aI rfl (aZ rfl rfl (aA rfl) (aO hS rfl) c8 (cB (aA rfl) (.func _ _ Tryz.call30) (ev2 (aH hS rfl) (ev2 (aH hS rfl) (ev2 (aH hS rfl) evn))) rfl (BVs.refl _ _) (dR _ _ _ h14) rfl)),
      fun S hS => aI rfl (aP rfl (bN (v := .d (.lit (.bool r13))) (aA rfl) (aH hS rfl) c8 (aH hS rfl) rfl)), trivial⟩⟩
    · exact dJ (aM rfl (aX ⟨rfl, rfl, rfl, rfl, trivial⟩))
   ·have h7 := aQ c8 h7
    have h7 := Option.some.inj h7
    subst h7
    refine ⟨[(14, 0, .d (.sl 3 (l_0.map aK))), (15, 1, .d (.lit (.int .i64 i_0_1))), (16, 2, .cp [.lit (.int .i64 x4.Player), .lit (.int .i64 x4.From), .lit (.int .i64 x4.To)]), (17, 3, .cp [.lit (.int .i64 x4.Player)]), (18, 4, .d (.lit (.int .i64 x4.Player))), (19, 5, .d (.lit (.int .i64 player_1))), (20, 6, .d (.lit (.bool ((decide (x4.Player = player_1)))))), (21, 7, .d (.lit (.bool ((decide (x4.Player = player_1)))))), (22, 8, .tup []), (23, 9, .tup []), (24, 10, .tup []), (25, 11, .tup []), (26, 12, .tup []), (27, 13, .tup []), (28, 14, .tup []), (29, 15, .tup []), (30, 16, .tup []), (31, 17, .tup []), (32, 18, .tup []), (33, 19, .tup []), (34, 20, .d (.lit (.bool false)))], ?_, ?_⟩
    · exact ⟨by kernel_rfl, by kernel_rfl, by kernel_rfl, by kernel_rfl, by kernel_rfl, [([], []), ([], []), ([0, 1], []), ([2], []), ([3], []), ([], []), ([4, 5], []), ([6], []), ([7], []), ([7], []), ([7], []), ([7, 9, 10], []), ([7, 11], []), ([7, 12], []), ([7], []), ([7], []), ([7, 14, 15], []), ([7, 16], []), ([7, 17], []), ([7, 8, 13, 18], []), ([7, 19], [])], by kernel_rfl, ⟨fun S hS => aI rfl (aP rfl (aC (v := .d (.sl 3 (l_0.map aK))) (aA rfl) (aH hS rfl) rfl)),
      fun S hS => aI rfl (aP rfl (aC (v := .d (.lit (.int .i64 i_0_1))) (aA rfl) (aH hS rfl) rfl)),
      fun S hS => aI rfl (aP rfl (bM (aA rfl) (aH hS rfl) (aH hS rfl) eH.of (bH aK h5))),
      fun S hS => aI rfl (aP rfl (cA (aA rfl) (aH hS rfl) kN (es := [.lit (.int .i64 x4.Player)]) rfl)),
      fun S hS => aI rfl (aP rfl (bY (aA rfl) (aH hS rfl) bE)),
      fun S hS => aI rfl (aP rfl (aC (v := .d (.lit (.int .i64 player_1))) (aA rfl) (aH hS rfl) rfl)),
      fun S hS => aI rfl (aP rfl (bB (aA rfl) (aH hS rfl) (aH hS rfl) rfl)),
      fun S hS => aI rfl (aP rfl (aC (v := .d (.lit (.bool ((decide (x4.Player = player_1)))))) (aA rfl) (aH hS rfl) rfl)),
      fun S hS => aI rfl (bD rfl rfl (aA rfl) rfl (aA rfl) (aO hS rfl) c8),
      fun S hS => aI rfl (bD rfl rfl (aA rfl) rfl (aA rfl) (aO hS rfl) c8),
      fun S hS => aI rfl (bD rfl rfl (aA rfl) rfl (aA rfl) (aO hS rfl) c8),
      fun S hS => aI rfl (bD rfl rfl (aA rfl) rfl (aA rfl) (aO hS rfl) c8),
      fun S hS => aI rfl (bD rfl rfl (aA rfl) rfl (aA rfl) (aO hS rfl) c8),
      fun S hS => aI rfl (bD rfl rfl (aA rfl) rfl (aA rfl) (aO hS rfl) c8),
      fun S hS => aI rfl (bD rfl rfl (aA rfl) rfl (aA rfl) (aO hS rfl) c8),
      fun S hS => aI rfl (bD rfl rfl (aA rfl) rfl (aA rfl) (aO hS rfl) c8),
      fun S hS => aI rfl (bD rfl rfl (aA rfl) rfl (aA rfl) (aO hS rfl) c8),
      fun S hS => aI rfl (bD rfl rfl (aA rfl) rfl (aA rfl) (aO hS rfl) c8),
      fun S hS => aI rfl (bD rfl rfl (aA rfl) rfl (aA rfl) (aO hS rfl) c8),
      fun S hS => aI rfl (bD rfl rfl (aA rfl) rfl (aA rfl) (aO hS rfl) c8),
      fun S hS => aI rfl (aP rfl (bO (v := .d (.lit (.bool false))) (aA rfl) (aH hS rfl) c8 rfl rfl)), trivial⟩⟩
    · exact dJ (aM rfl (aX ⟨rfl, rfl, rfl, rfl, trivial⟩))
  ·refine aF ?_
   refine bI rfl (fun c15 => ?_) (fun c15 => ?_)
   ·have h := aR c15 h
    refine aG ?_
    refine aE ?_
    refine tr1 rfl (aJ (v := .d (.lit (.bool true))) (aA rfl) rfl rfl) ?_
    refine aF ?_
    have h := Option.some.inj h
    subst h
    exact bL ⟨rfl, _, .one _, rfl, rfl⟩
   ·have h := aQ c15 h
    refine dH ?_
    refine aE ?_
    refine tr1 rfl (aC (v := .d (.lit (.int .i64 i_0_1))) (aA rfl) rfl rfl) ?_
    refine tr1 rfl (bA (aA rfl) rfl rfl rfl) ?_
    refine tr1 rfl (aJ (v := .d (.lit (.int .i64 ((w64 (i_0_1 + 1)))))) (aA rfl) rfl rfl) ?_
    refine aF ?_
    exact ⟨(w64 (i_0_1 + 1)), h, aW [] rfl rfl (aM rfl (aX ⟨rfl, rfl, rfl, trivial⟩))⟩
 ·have h := aQ c3 h
  refine cP ?_
  refine .inl ⟨rfl, ?_⟩
  simp only [oW] at h
  refine aG ?_
  refine aE ?_
  refine tr1 rfl (aJ (v := .d (.lit (.bool false))) (aA rfl) rfl rfl) ?_
  refine aF ?_
  have h := Option.some.inj h
  subst h
  exact bL ⟨rfl, _, .one _, rfl, rfl⟩

theorem tO (l_0 : aS) (r_1 : aD) (week_2 : Int) {r : Int} (h : kM l_0 r_1 week_2 = some r) : Fn Tryz.prog 31 [.agg (aU l_0), .agg (aB r_1), .d (.lit (.int .i64 week_2))] (.d (.lit (.int .i64 r))) := by
 unfold kM at h
 refine Fn.of_tr Tryz.func31 rfl (rs := [.tmp 6]) Tryz.results31 Tryz.ntmps31 (Nat.le_of_ble_eq_true rfl) ?_
 refine aG ?_
 refine aE ?_
 refine bW rfl (eG (v := .agg (aU l_0)) (aA rfl) rfl rfl rfl) ?_
 rintro _ ⟨b1, rfl⟩
 refine bW rfl (eG (v := .agg (aB r_1)) (aA rfl) rfl rfl rfl) ?_
 rintro _ ⟨b2, rfl⟩
 refine tr1 rfl (aJ (v := .d (.lit (.int .i64 0))) (aA rfl) rfl rfl) ?_
 refine aF ?_
 refine aG ?_
 refine aE ?_
 refine tr1 rfl (aJ (v := .d (.lit (.int .i64 0))) (aA rfl) rfl rfl) ?_
 refine aF ?_
 refine aG ?_
 refine aG ?_
 refine aE ?_
 refine tr1 rfl (aT (aA rfl) rfl jJ) ?_
 refine tr1 rfl (aV (aA rfl) rfl (i := 1) rfl rfl bE) ?_
 refine tr1 rfl (bA (aA rfl) rfl rfl rfl) ?_
 refine tr1 rfl (aJ (v := .d (.lit (.int .i64 ((w64 (r_1.Week + 1)))))) (aA rfl) rfl rfl) ?_
 refine aF ?_
 refine bQ ?_
 refine cI [2, 3, 4] (fun (s3 : Int × Int) => [(7, .d (.lit (.int .i64 s3.1))), (8, .d (.lit (.int .i64 s3.2)))]) (fun (s3 : Int × Int) => [.box b1 0 (aU l_0), .box b2 0 (aB r_1)]) (fun (k : Nat) (s3 : Int × Int) => gR week_2 l_0 r_1 k s3.1 s3.2) (fun _ => rfl) (0, w64 (r_1.Week + 1)) h (aW [0, 1] rfl rfl (aM rfl (aM rfl (aX ⟨rfl, rfl, rfl, trivial⟩)))) ?_
 rintro k4 ⟨n_0_3, w_0_3⟩ h
 simp only [gR] at h
 refine aG ?_
 refine aG ?_
 refine aE ?_
 refine tr1 rfl (aC (v := .d (.lit (.int .i64 w_0_3))) (aA rfl) rfl rfl) ?_
 refine tr1 rfl (aC (v := .d (.lit (.int .i64 week_2))) (aA rfl) rfl rfl) ?_
 refine tr1 rfl (bB (aA rfl) rfl rfl rfl) ?_
 refine aF ?_
 refine bI rfl (fun c5 => ?_) (fun c5 => ?_)
 ·have h := aR c5 h
  refine bG ?_
  refine aG ?_
  refine bQ ?_
  refine aG ?_
  refine aE ?_
  refine tr1 rfl (aT (aA rfl) rfl iD) ?_
  refine tr1 rfl (aV (aA rfl) rfl (i := 0) rfl rfl fU) ?_
  refine tr1 rfl (aT (aA rfl) rfl nT) ?_
  refine tr1 rfl (aV (aA rfl) rfl (i := 1) rfl rfl bE) ?_
  refine tr1 rfl (aC (v := .d (.lit (.int .i64 w_0_3))) (aA rfl) rfl rfl) ?_
  obtain ⟨r6, h7, h⟩ := bind_some h
  refine tr1 rfl (cB (aA rfl) (.func _ _ Tryz.call59) rfl rfl (BVs.refl _ _) (sZ _ _ _ h7) rfl) ?_
  refine tr1 rfl (eK (aA rfl) rfl) ?_
  refine aF ?_
  refine bI rfl (fun c8 => ?_) (fun c8 => ?_)
  ·have h := aR c8 h
   refine aE ?_
   refine tr1 rfl (aC (v := .d (.lit (.int .i64 n_0_3))) (aA rfl) rfl rfl) ?_
   refine tr1 rfl (bA (aA rfl) rfl rfl rfl) ?_
   refine tr1 rfl (aJ (v := .d (.lit (.int .i64 ((w64 (n_0_3 + 1)))))) (aA rfl) rfl rfl) ?_
   refine dN ?_
   refine aE ?_
   refine tr1 rfl (aC (v := .d (.lit (.int .i64 w_0_3))) (aA rfl) rfl rfl) ?_
   refine tr1 rfl (bA (aA rfl) rfl rfl rfl) ?_
   refine tr1 rfl (aJ (v := .d (.lit (.int .i64 ((w64 (w_0_3 + 1)))))) (aA rfl) rfl rfl) ?_
   refine aF ?_
   exact ⟨(w64 (n_0_3 + 1), w64 (w_0_3 + 1)), h, aW [0, 1] rfl rfl (aM rfl (aM rfl (aX ⟨rfl, rfl, rfl, trivial⟩)))⟩
  ·have h := aQ c8 h
   refine dH ?_
   refine aE ?_
   refine tr1 rfl (aC (v := .d (.lit (.int .i64 w_0_3))) (aA rfl) rfl rfl) ?_
   refine tr1 rfl (bA (aA rfl) rfl rfl rfl) ?_
   refine tr1 rfl (aJ (v := .d (.lit (.int .i64 ((w64 (w_0_3 + 1)))))) (aA rfl) rfl rfl) ?_
   refine aF ?_
   exact ⟨(n_0_3, w64 (w_0_3 + 1)), h, aW [0, 1] rfl rfl (aM rfl (aM rfl (aX ⟨rfl, rfl, rfl, trivial⟩)))⟩
 ·have h := aQ c5 h
  refine cP ?_
  refine .inl ⟨rfl, ?_⟩
  simp only [pP] at h
  refine aG ?_
  refine aE ?_
  refine tr1 rfl (aC (v := .d (.lit (.int .i64 n_0_3))) (aA rfl) rfl rfl) ?_
  refine tr1 rfl (aJ (v := .d (.lit (.int .i64 n_0_3))) (aA rfl) rfl rfl) ?_
  refine aF ?_
  have h := Option.some.inj h
  subst h
  refine cG (bX (cD (l := [6]) ⟨rfl, trivial⟩)) ?_
  exact bL ⟨rfl, _, .one _, rfl, rfl⟩

theorem yR (l_0 : aS) (id_1 : Int) (week_2 : Int) {r : Int × Int} (h : kL l_0 id_1 week_2 = some r) : Fn Tryz.prog 11 [.agg (aU l_0), .d (.lit (.int .i64 id_1)), .d (.lit (.int .i64 week_2))] (.tup [.d (.lit (.int .i64 r.1)), .d (.lit (.int .i64 r.2))]) := by
 unfold kL at h
 refine Fn.of_tr Tryz.func11 rfl (rs := [.tmp 6, .tmp 7]) Tryz.results11 Tryz.ntmps11 (Nat.le_of_ble_eq_true rfl) ?_
 refine aG ?_
 refine aE ?_
 refine bW rfl (eG (v := .agg (aU l_0)) (aA rfl) rfl rfl rfl) ?_
 rintro _ ⟨b1, rfl⟩
 refine tr1 rfl (aJ (v := .d (.lit (.int .i64 0))) (aA rfl) rfl rfl) ?_
 refine tr1 rfl (aJ (v := .d (.lit (.int .i64 0))) (aA rfl) rfl rfl) ?_
 refine aF ?_
 refine aG ?_
 refine aG ?_
 refine aE ?_
 refine tr1 rfl (cF (aA rfl) rfl (i := 0) rfl eA (es := (aU l_0)) rfl rfl) ?_
 obtain ⟨r2, h3, h⟩ := bind_some h
 refine tr1 rfl (cB (aA rfl) (.func _ _ Tryz.call9) rfl rfl (BVs.refl _ _) (mH _ h3) rfl) ?_
 refine tr1 rfl (aJ (v := .d (.lit (.int .i64 r2))) (aA rfl) rfl rfl) ?_
 refine aF ?_
 refine aG ?_
 refine aE ?_
 refine tr1 rfl (aC (v := .d (.lit (.int .i64 r2))) (aA rfl) rfl rfl) ?_
 refine tr1 rfl (bB (aA rfl) rfl rfl rfl) ?_
 refine aF ?_
 refine bI rfl (fun c4 => ?_) (fun c4 => ?_)
 ·have h := aR c4 h
  refine aG ?_
  refine aE ?_
  refine tr1 rfl (aC (v := .d (.lit (.int .i64 r2))) (aA rfl) rfl rfl) ?_
  refine tr1 rfl (aJ (v := .d (.lit (.int .i64 0))) (aA rfl) rfl rfl) ?_
  refine tr1 rfl (aJ (v := .d (.lit (.int .i64 r2))) (aA rfl) rfl rfl) ?_
  refine aF ?_
  have h := Option.some.inj h
  subst h
  refine cG (bX (cD (l := [6, 7]) ⟨rfl, rfl, trivial⟩)) ?_
  exact bL ⟨rfl, _, .two _ _, rfl, rfl⟩
 ·have h := aQ c4 h
  refine bG ?_
  refine aG ?_
  refine aG ?_
  refine aE ?_
  refine tr1 rfl (aC (v := .d (.lit (.int .i64 week_2))) (aA rfl) rfl rfl) ?_
  obtain ⟨r5, h6, h⟩ := bind_some h
  refine tr1 rfl (cB (aA rfl) (.func _ _ Tryz.call30) rfl rfl (BVs.refl _ _) (dR _ _ _ h6) rfl) ?_
  refine tr1 rfl (eK (aA rfl) rfl) ?_
  refine aF ?_
  refine bI rfl (fun c7 => ?_) (fun c7 => ?_)
  ·have h := aR c7 h
   refine aG ?_
   refine aE ?_
   refine tr1 rfl (aJ (v := .d (.lit (.int .i64 0))) (aA rfl) rfl rfl) ?_
   refine tr1 rfl (aJ (v := .d (.lit (.int .i64 1))) (aA rfl) rfl rfl) ?_
   refine aF ?_
   have h := Option.some.inj h
   subst h
   refine cG (bX (cD (l := [6, 7]) ⟨rfl, rfl, trivial⟩)) ?_
   exact bL ⟨rfl, _, .two _ _, rfl, rfl⟩
  ·have h := aQ c7 h
   refine bG ?_
   refine aG ?_
   refine aG ?_
   refine aE ?_
   refine tr1 rfl (aJ (v := .d (.lit (.int .i64 0))) (aA rfl) rfl rfl) ?_
   refine aF ?_
   refine bQ ?_
   refine cI [1, 2, 3] (fun (s8 : Int) => [(9, .d (.lit (.int .i64 s8)))]) (fun (s8 : Int) => [.box b1 0 (aU l_0)]) (fun (k : Nat) (s8 : Int) => fF id_1 week_2 l_0 k s8) (fun _ => rfl) (0) h (aW [0] rfl rfl (aM rfl (aX ⟨rfl, rfl, rfl, trivial⟩))) ?_
   rintro k9 i_0_8 h
   simp only [fF] at h
   refine aG ?_
   refine aG ?_
   refine aE ?_
   refine tr1 rfl (aC (v := .d (.lit (.int .i64 i_0_8))) (aA rfl) rfl rfl) ?_
   refine tr1 rfl (aT (aA rfl) rfl dS) ?_
   refine tr1 rfl (aV (aA rfl) rfl (i := 0) rfl rfl fT) ?_
   refine tr1 rfl (cW (aA rfl) rfl bP.of) ?_
   refine tr1 rfl (bB (aA rfl) rfl rfl rfl) ?_
   refine aF ?_
   refine bI rfl (fun c10 => ?_) (fun c10 => ?_)
   ·have h := aR c10 h
    refine bG ?_
    refine aG ?_
    refine bQ ?_
    refine aG ?_
    refine aE ?_
    refine tr1 rfl (aT (aA rfl) rfl dS) ?_
    refine tr1 rfl (aV (aA rfl) rfl (i := 0) rfl rfl fT) ?_
    refine tr1 rfl (aC (v := .d (.lit (.int .i64 i_0_8))) (aA rfl) rfl rfl) ?_
    obtain ⟨x11, h12, h⟩ := bind_some h
    refine tr1 rfl (bM (aA rfl) rfl rfl bP.of (bH aB h12)) ?_
    refine tr1 rfl (dZ (aA rfl) rfl dE (es := (aB x11)) rfl rfl) ?_
    refine bW rfl (fR (zs := [.lit (.int .i64 0), .lit (.int .i64 0), .lit (.int .i64 0), .lit (.int .i64 0), .lit (.bool false)]) (aA rfl) Tryz.zeroValue43 rfl rfl) ?_
    rintro _ ⟨b13, rfl⟩
    refine tr1 rfl (cJ (i := 1) rfl rfl rfl rfl rfl Tryz.sizeOf43 rfl (aA rfl) (Nat.le_of_ble_eq_true rfl) (ds' := (aB x11)) rfl) ?_
    refine aF ?_
    refine aG ?_
    refine aE ?_
    refine tr1 rfl (aT (aA rfl) rfl gV) ?_
    refine tr1 rfl (aV (aA rfl) rfl (i := 1) rfl rfl bE) ?_
    refine tr1 rfl (aC (v := .d (.lit (.int .i64 id_1))) (aA rfl) rfl rfl) ?_
    refine tr1 rfl (bB (aA rfl) rfl rfl rfl) ?_
    refine tr1 rfl (aC (v := .d (.lit (.bool ((decide (x11.Id = id_1)))))) (aA rfl) rfl rfl) ?_
    obtain ⟨b14, h15, h⟩ := bind_some h
    refine bZ 5 [1, 2, 3, 9, 10] 40 b14 ?_ ?_
    ·refine bF (decide (x11.Id = id_1)) (fun c19 => ?_) (fun c19 => ?_)
     ·have h15 := aR c19 h15
      refine aL rfl rfl (aA rfl) rfl c19 (aC (v := .d (.lit (.int .i64 week_2))) (aA rfl) rfl rfl) ?_
      refine aL rfl rfl (aA rfl) rfl c19 (aT (aA rfl) rfl jJ) ?_
      refine aL rfl rfl (aA rfl) rfl c19 (aV (aA rfl) rfl (i := 1) rfl rfl bE) ?_
      refine aL rfl rfl (aA rfl) rfl c19 (bB (aA rfl) rfl rfl rfl) ?_
      refine tr1 rfl (bN (v := .d (.lit (.bool ((decide (x11.Week ≤ week_2)))))) (aA rfl) rfl c19 rfl rfl) ?_
      have h15 := Option.some.inj h15
      subst h15
      refine aF (aY rfl ⟨rfl, rfl, rfl, rfl, rfl, trivial⟩ rfl)
     ·have h15 := aQ c19 h15
      refine aN rfl rfl (aA rfl) rfl (aA rfl) rfl c19 ?_
      refine aN rfl rfl (aA rfl) rfl (aA rfl) rfl c19 ?_
      refine aN rfl rfl (aA rfl) rfl (aA rfl) rfl c19 ?_
      refine aN rfl rfl (aA rfl) rfl (aA rfl) rfl c19 ?_
      refine tr1 rfl (bO (v := .d (.lit (.bool false))) (aA rfl) rfl c19 rfl rfl) ?_
      have h15 := Option.some.inj h15
      subst h15
      refine aF (aY rfl ⟨rfl, rfl, rfl, rfl, rfl, trivial⟩ rfl)
    ·refine aF ?_
     refine bI rfl (fun c16 => ?_) (fun c16 => ?_)
     ·have h := aR c16 h
      refine aG ?_
      refine aE ?_
      refine tr1 rfl (cF (aA rfl) rfl (i := 0) rfl eA (es := (aU l_0)) rfl rfl) ?_
      refine tr1 rfl (cF (aA rfl) rfl (i := 1) rfl dE (es := (aB x11)) rfl rfl) ?_
      refine tr1 rfl (aC (v := .d (.lit (.int .i64 week_2))) (aA rfl) rfl rfl) ?_
      obtain ⟨r17, h18, h⟩ := bind_some h
      refine tr1 rfl (cB (aA rfl) (.func _ _ Tryz.call31) rfl rfl (BVs.refl _ _) (tO _ _ _ h18) rfl) ?_
      refine tr1 rfl (aJ (v := .d (.lit (.int .i64 r17))) (aA rfl) rfl rfl) ?_
      refine tr1 rfl (aJ (v := .d (.lit (.int .i64 0))) (aA rfl) rfl rfl) ?_
      refine aF ?_
      have h := Option.some.inj h
      subst h
      refine cG (bX (cD (l := [6, 7]) ⟨rfl, rfl, trivial⟩)) ?_
      exact bL ⟨rfl, _, .two _ _, rfl, rfl⟩
     ·have h := aQ c16 h
      refine dH ?_
      refine aE ?_
      refine tr1 rfl (aC (v := .d (.lit (.int .i64 i_0_8))) (aA rfl) rfl rfl) ?_
      refine tr1 rfl (bA (aA rfl) rfl rfl rfl) ?_
      refine tr1 rfl (aJ (v := .d (.lit (.int .i64 ((w64 (i_0_8 + 1)))))) (aA rfl) rfl rfl) ?_
      refine aF ?_
      exact ⟨(w64 (i_0_8 + 1)), h, aW [0] rfl rfl (aM rfl (aX ⟨rfl, rfl, rfl, trivial⟩))⟩
   ·have h := aQ c10 h
    refine cP ?_
    refine .inl ⟨rfl, ?_⟩
    simp only [sY] at h
    refine aG ?_
    refine aE ?_
    refine tr1 rfl (aJ (v := .d (.lit (.int .i64 0))) (aA rfl) rfl rfl) ?_
    refine tr1 rfl (aJ (v := .d (.lit (.int .i64 3))) (aA rfl) rfl rfl) ?_
    refine aF ?_
    have h := Option.some.inj h
    subst h
    refine cG (bX (cD (l := [6, 7]) ⟨rfl, rfl, trivial⟩)) ?_
    exact bL ⟨rfl, _, .two _ _, rfl, rfl⟩

theorem yB (x : List Int) {r : List Int} {x_v : Value} {e : TypeId} (h : slices_Sort_int x = some r) : fN Tryz.prog 34 [.d (.lit x_v)] [.arr x_v e 1 (x.map cE)] (fun r' o' => r' = .tup [] ∧ o' = [.arr x_v e 1 (r.map cE)]) := by
 unfold slices_Sort_int at h
 split at h
 ·cases h
  exact aEp (fun blk off cap zs w => Tryz.slices_Sort_int blk off cap zs w) (fun q cap w => Tryz.slices_Sort_int_none q cap w) (by assumption)
 ·cases h

theorem aCg (l_0 : aS) (player_1 : Int) (week_2 : Int) {r : (List Int) × Int} (h : mL l_0 player_1 week_2 = some r) : Fn Tryz.prog 12 [.agg (aU l_0), .d (.lit (.int .i64 player_1)), .d (.lit (.int .i64 week_2))] (.tup [.d (.sl 1 (r.1.map cE)), .d (.lit (.int .i64 r.2))]) := by
 unfold mL at h
 refine Fn.of_tr Tryz.func12 rfl (rs := [.tmp 6, .tmp 7]) Tryz.results12 Tryz.ntmps12 (Nat.le_of_ble_eq_true rfl) ?_
 refine aG ?_
 refine aE ?_
 refine bW rfl (eG (v := .agg (aU l_0)) (aA rfl) rfl rfl rfl) ?_
 rintro _ ⟨b1, rfl⟩
 refine tr1 rfl (nJ 1 (aA rfl)) ?_
 refine tr1 rfl (aJ (v := .d (.lit (.int .i64 0))) (aA rfl) rfl rfl) ?_
 refine aF ?_
 refine aG ?_
 refine aE ?_
 refine tr1 rfl (cF (aA rfl) rfl (i := 0) rfl eA (es := (aU l_0)) rfl rfl) ?_
 refine tr1 rfl (aC (v := .d (.lit (.int .i64 player_1))) (aA rfl) rfl rfl) ?_
 refine tr1 rfl (aC (v := .d (.lit (.int .i64 week_2))) (aA rfl) rfl rfl) ?_
 obtain ⟨r2, h3, h⟩ := bind_some h
 refine bW rfl (dI (passed := []) (aA rfl) rfl (.func _ _ Tryz.call26) rfl rfl (pI _ _ _ h3)) ?_
 rintro _ ⟨_, _, ⟨b5, w6, rfl, rfl⟩, rfl⟩
 obtain ⟨_ | y4, e7⟩ := r2
 ·have h := tV h
  refine eW (aW [0] rfl rfl (le_refl _)) ?_
  refine tr1 rfl (aC (v := .tup [.d (.lit (.pointer none)), .d (.lit (.int .i64 e7))]) (aA rfl) rfl rfl) ?_
  refine tr1 rfl (cL (aA rfl) rfl rfl) ?_
  refine tr1 rfl (cL (aA rfl) rfl rfl) ?_
  refine tr1 rfl (aJ (v := .d (.lit (.pointer none))) (aA rfl) rfl rfl) ?_
  refine tr1 rfl (aJ (v := .d (.lit (.int .i64 e7))) (aA rfl) rfl rfl) ?_
  refine aF ?_
  refine aG ?_
  refine aG ?_
  refine aE ?_
  refine tr1 rfl (aC (v := .d (.lit (.int .i64 e7))) (aA rfl) rfl rfl) ?_
  refine tr1 rfl (bB (aA rfl) rfl rfl rfl) ?_
  refine aF ?_
  refine bI rfl (fun c8 => ?_) (fun c8 => ?_)
  ·have h := aR c8 h
   refine aG ?_
   refine aE ?_
   refine tr1 rfl (aC (v := .d (.lit (.int .i64 e7))) (aA rfl) rfl rfl) ?_
   refine tr1 rfl (nJ 1 (aA rfl)) ?_
   refine tr1 rfl (aJ (v := .d (.lit (.int .i64 e7))) (aA rfl) rfl rfl) ?_
   refine aF ?_
   have h := Option.some.inj h
   subst h
   refine cG (bX (cD (l := [6, 7]) ⟨rfl, rfl, trivial⟩)) ?_
   exact bL ⟨rfl, _, .two _ _, rfl, rfl⟩
  ·have h := aQ c8 h
   refine bG ?_
   refine aG ?_
   refine aE ?_
   refine tr1 rfl (gK 3 1 (.inl rfl) (aA rfl)) ?_
   refine aF ?_
   refine aG ?_
   refine aG ?_
   refine aE ?_
   refine tr1 rfl (aC (v := .d (.lit (.pointer none))) (aA rfl) rfl rfl) ?_
   refine tr1 rfl (aC (v := .d (.lit (.pointer none))) (aA rfl) rfl rfl) ?_
   refine tr1 rfl (aC (v := .d (.lit (.int .i64 player_1))) (aA rfl) rfl rfl) ?_
   refine tr1 rfl (aC (v := .d (.lit (.int .i64 week_2))) (aA rfl) rfl rfl) ?_
   cases h
 ·have h := tW h
  refine eW (aW [0, 1, 2] rfl rfl (le_refl _)) ?_
  refine tr1 rfl (aC (v := .tup [.bp b5 0 0, .d (.lit (.int .i64 e7))]) (aA rfl) rfl rfl) ?_
  refine tr1 rfl (cL (aA rfl) rfl rfl) ?_
  refine tr1 rfl (cL (aA rfl) rfl rfl) ?_
  refine tr1 rfl (aJ (v := .bp b5 0 0) (aA rfl) rfl rfl) ?_
  refine tr1 rfl (aJ (v := .d (.lit (.int .i64 e7))) (aA rfl) rfl rfl) ?_
  refine aF ?_
  refine aG ?_
  refine aG ?_
  refine aE ?_
  refine tr1 rfl (aC (v := .d (.lit (.int .i64 e7))) (aA rfl) rfl rfl) ?_
  refine tr1 rfl (bB (aA rfl) rfl rfl rfl) ?_
  refine aF ?_
  refine bI rfl (fun c10 => ?_) (fun c10 => ?_)
  ·have h := aR c10 h
   refine aG ?_
   refine aE ?_
   refine tr1 rfl (aC (v := .d (.lit (.int .i64 e7))) (aA rfl) rfl rfl) ?_
   refine tr1 rfl (nJ 1 (aA rfl)) ?_
   refine tr1 rfl (aJ (v := .d (.lit (.int .i64 e7))) (aA rfl) rfl rfl) ?_
   refine aF ?_
   have h := Option.some.inj h
   subst h
   refine cG (bX (cD (l := [6, 7]) ⟨rfl, rfl, trivial⟩)) ?_
   exact bL ⟨rfl, _, .two _ _, rfl, rfl⟩
  ·have h := aQ c10 h
   refine bG ?_
   refine aG ?_
   refine aE ?_
   refine tr1 rfl (gK 3 1 (.inl rfl) (aA rfl)) ?_
   refine aF ?_
   refine aG ?_
   refine aG ?_
   refine aE ?_
   refine tr1 rfl (aC (v := .bp b5 0 0) (aA rfl) rfl rfl) ?_
   refine tr1 rfl (aC (v := .bp b5 0 0) (aA rfl) rfl rfl) ?_
   refine tr1 rfl (aC (v := .d (.lit (.int .i64 player_1))) (aA rfl) rfl rfl) ?_
   refine tr1 rfl (aC (v := .d (.lit (.int .i64 week_2))) (aA rfl) rfl rfl) ?_
   refine eW (aW [2, 3, 0, 1] rfl rfl (le_refl _)) ?_
   apply aAh [.box b1 0 (aU l_0), .arr (.slice none 0 0) 3 1 (([] : List Int).map cE)] [.box b5 0 [.lit (.int .i64 y4.Ledger.Players), .lit (.int .i64 y4.Ledger.Counts), .lit w6, .sl 3 (y4.Ledger.Bans.map aK), .sl 3 (y4.Ledger.Frozen.map aK)], .arr w6 43 5 (y4.Ledger.Reports.map aB)] rfl
   exact fH (k := 24) (v := .cp [.lit (.int .i64 y4.Ledger.Players), .lit (.int .i64 y4.Ledger.Counts), .sl 5 (y4.Ledger.Reports.map aB), .sl 3 (y4.Ledger.Bans.map aK), .sl 3 (y4.Ledger.Frozen.map aK)]) ((lH 0 rfl rfl (dvc (.same _) (dvc (.same _) (dvc (gE 1 rfl (cT (f := aB) fun _ => rfl)) (dvc (.same _) (dvc (.same _) dvn))))))) (fH (k := 23) (v := .cp [.lit (.int .i64 y4.Ledger.Players), .lit (.int .i64 y4.Ledger.Counts), .sl 5 (y4.Ledger.Reports.map aB), .sl 3 (y4.Ledger.Bans.map aK), .sl 3 (y4.Ledger.Frozen.map aK)]) ((lH 0 rfl rfl (dvc (.same _) (dvc (.same _) (dvc (gE 1 rfl (cT (f := aB) fun _ => rfl)) (dvc (.same _) (dvc (.same _) dvn))))))) (fH (k := 18) (v := .cp [.lit (.int .i64 y4.Ledger.Players), .lit (.int .i64 y4.Ledger.Counts), .sl 5 (y4.Ledger.Reports.map aB), .sl 3 (y4.Ledger.Bans.map aK), .sl 3 (y4.Ledger.Frozen.map aK)]) ((lH 0 rfl rfl (dvc (.same _) (dvc (.same _) (dvc (gE 1 rfl (cT (f := aB) fun _ => rfl)) (dvc (.same _) (dvc (.same _) dvn))))))) (fH (k := 17) (v := .any) (.any _) (fH (k := 13) (v := .any) (.any _) (fH (k := 8) (v := .cp [.lit (.int .i64 y4.Ledger.Players), .lit (.int .i64 y4.Ledger.Counts), .sl 5 (y4.Ledger.Reports.map aB), .sl 3 (y4.Ledger.Bans.map aK), .sl 3 (y4.Ledger.Frozen.map aK)]) ((lH 0 rfl rfl (dvc (.same _) (dvc (.same _) (dvc (gE 1 rfl (cT (f := aB) fun _ => rfl)) (dvc (.same _) (dvc (.same _) dvn))))))) (qI _ _))))))
   obtain ⟨r12, h13, h⟩ := bind_some h
   refine tr1 rfl (jA (aA rfl) (.func _ _ Tryz.call33) rfl rfl (pR _ _ _ h13)) ?_
   obtain ⟨r14, h15, h⟩ := bind_some h
   refine tr1 rfl (jA (aA rfl) (.func _ _ Tryz.call32) rfl rfl (pS _ _ h15)) ?_
   refine tr1 rfl (cW (aA rfl) rfl bP.of) ?_
   refine tr1 rfl (aC (v := .d (.lit (.int .i64 0))) (aA rfl) rfl rfl) ?_
   refine aF ?_
   refine bQ ?_
   refine cI [28, 29] (fun (s16 : Int × (List Int) × Value) => [(10, .d (.lit s16.2.2)), (30, .d (.lit (.int .i64 s16.1)))]) (fun (s16 : Int × (List Int) × Value) => [.arr s16.2.2 3 1 (s16.2.1.map cE)]) (fun (k : Nat) (s16 : Int × (List Int) × Value) => lB r14 (r14.length : Int) k s16.1 s16.2.1) (fun _ => rfl) (0, ([] : List Int), (.slice none 0 0)) h (aW [1] rfl rfl (aM rfl (aM rfl (aX ⟨rfl, rfl, trivial⟩)))) ?_
   rintro k18 ⟨t30_0_16, out_0_16, w17⟩ h
   simp only [lB] at h
   refine aG ?_
   refine aE ?_
   refine tr1 rfl (bB (aA rfl) rfl rfl rfl) ?_
   refine aF ?_
   refine aG ?_
   refine bI rfl (fun c19 => ?_) (fun c19 => ?_)
   ·have h := aR c19 h
    refine bG ?_
    refine aG ?_
    refine bQ ?_
    refine aG ?_
    refine aE ?_
    obtain ⟨x20, h21, h⟩ := bind_some h
    refine tr1 rfl (bM (aA rfl) rfl rfl bP.of (bH aB h21)) ?_
    refine tr1 rfl (dZ (aA rfl) rfl dE (es := (aB x20)) rfl rfl) ?_
    refine bW rfl (fR (zs := [.lit (.int .i64 0), .lit (.int .i64 0), .lit (.int .i64 0), .lit (.int .i64 0), .lit (.bool false)]) (aA rfl) Tryz.zeroValue43 rfl rfl) ?_
    rintro _ ⟨b22, rfl⟩
    refine tr1 rfl (cJ (i := 1) rfl rfl rfl rfl rfl Tryz.sizeOf43 rfl (aA rfl) (Nat.le_of_ble_eq_true rfl) (ds' := (aB x20)) rfl) ?_
    refine aF ?_
    refine aE ?_
    refine tr1 rfl (aC (v := .d (.lit w17)) (aA rfl) rfl rfl) ?_
    refine tr1 rfl (aT (aA rfl) rfl gV) ?_
    refine tr1 rfl (aV (aA rfl) rfl (i := 1) rfl rfl bE) ?_
    refine tr1 rfl (iH (aA rfl) eT rfl rfl (rows := ([x20.Id]).map cE) rfl (cT (f := cE) fun _ => rfl) rfl (by decide)) ?_
    obtain ⟨x23, h24, h⟩ := bind_some h
    refine bW rfl (kB (i := 0) (aA rfl) eT rfl rfl rfl (fun _ => rfl) h24 rfl) ?_
    rintro _ ⟨v25, rfl⟩
    refine tr1 rfl (aJ (v := .d (.lit v25)) (aA rfl) rfl rfl) ?_
    refine dN ?_
    refine aE ?_
    refine tr1 rfl (bA (aA rfl) rfl rfl rfl) ?_
    refine tr1 rfl (aC (v := .d (.lit (.int .i64 ((w64 (t30_0_16 + 1)))))) (aA rfl) rfl rfl) ?_
    refine aF ?_
    exact ⟨(w64 (t30_0_16 + 1), x23, v25), h, aW [0] rfl rfl (aM rfl (aM rfl (aX ⟨rfl, rfl, trivial⟩)))⟩
   ·have h := aQ c19 h
    refine cP ?_
    refine .inl ⟨rfl, ?_⟩
    simp only [qF] at h
    refine aG ?_
    refine aE ?_
    refine tr1 rfl (aC (v := .d (.lit w17)) (aA rfl) rfl rfl) ?_
    obtain ⟨r26, h27, h⟩ := bind_some h
    refine bW rfl (dI (passed := [.arr w17 3 1 (out_0_16.map cE)]) (aA rfl) rfl (.func _ _ Tryz.call34) rfl rfl (yB out_0_16 h27)) ?_
    rintro _ ⟨_, _, ⟨rfl, rfl⟩, rfl⟩
    refine aF ?_
    refine aG ?_
    refine aE ?_
    refine tr1 rfl (aC (v := .d (.lit w17)) (aA rfl) rfl rfl) ?_
    refine tr1 rfl (aJ (v := .d (.lit w17)) (aA rfl) rfl rfl) ?_
    refine tr1 rfl (aJ (v := .d (.lit (.int .i64 0))) (aA rfl) rfl rfl) ?_
    refine aF ?_
    have h := Option.some.inj h
    subst h
    refine cG (bX (fH (k := 7) (v := .d (.lit (.int .i64 0))) (.same _) (fH (k := 6) (v := .d (.sl 1 (r26.map cE))) (.d (gE 0 rfl (cT (f := cE) fun _ => rfl))) (rT)))) ?_
    exact bL ⟨rfl, _, .two _ _, rfl, rfl⟩

theorem qT (l_0 : aS) (player_1 : Int) (week_2 : Int) {r : Int} (h : iX l_0 player_1 week_2 = some r) : Fn Tryz.prog 35 [.agg (aU l_0), .d (.lit (.int .i64 player_1)), .d (.lit (.int .i64 week_2))] (.d (.lit (.int .i64 r))) := by
 unfold iX at h
 refine Fn.of_tr Tryz.func35 rfl (rs := [.tmp 6]) Tryz.results35 Tryz.ntmps35 (Nat.le_of_ble_eq_true rfl) ?_
 refine aG ?_
 refine aE ?_
 refine bW rfl (eG (v := .agg (aU l_0)) (aA rfl) rfl rfl rfl) ?_
 rintro _ ⟨b1, rfl⟩
 refine tr1 rfl (aJ (v := .d (.lit (.int .i64 0))) (aA rfl) rfl rfl) ?_
 refine aF ?_
 refine aG ?_
 refine aG ?_
 refine aE ?_
 refine tr1 rfl (cF (aA rfl) rfl (i := 0) rfl eA (es := (aU l_0)) rfl rfl) ?_
 obtain ⟨r2, h3, h⟩ := bind_some h
 refine tr1 rfl (cB (aA rfl) (.func _ _ Tryz.call9) rfl rfl (BVs.refl _ _) (mH _ h3) rfl) ?_
 refine tr1 rfl (aJ (v := .d (.lit (.int .i64 r2))) (aA rfl) rfl rfl) ?_
 refine aF ?_
 refine aG ?_
 refine aE ?_
 refine tr1 rfl (aC (v := .d (.lit (.int .i64 r2))) (aA rfl) rfl rfl) ?_
 refine tr1 rfl (bB (aA rfl) rfl rfl rfl) ?_
 refine aF ?_
 refine bI rfl (fun c4 => ?_) (fun c4 => ?_)
 ·have h := aR c4 h
  refine aG ?_
  refine aE ?_
  refine tr1 rfl (aC (v := .d (.lit (.int .i64 r2))) (aA rfl) rfl rfl) ?_
  refine tr1 rfl (aJ (v := .d (.lit (.int .i64 r2))) (aA rfl) rfl rfl) ?_
  refine aF ?_
  have h := Option.some.inj h
  subst h
  refine cG (bX (cD (l := [6]) ⟨rfl, trivial⟩)) ?_
  exact bL ⟨rfl, _, .one _, rfl, rfl⟩
 ·have h := aQ c4 h
  refine bG ?_
  refine aG ?_
  refine aG ?_
  refine aE ?_
  refine tr1 rfl (aC (v := .d (.lit (.int .i64 player_1))) (aA rfl) rfl rfl) ?_
  refine tr1 rfl (aT (aA rfl) rfl iQ) ?_
  refine tr1 rfl (aV (aA rfl) rfl (i := 0) rfl rfl bE) ?_
  refine tr1 rfl (bA (aA rfl) rfl rfl rfl) ?_
  obtain ⟨r5, h6, h⟩ := bind_some h
  refine tr1 rfl (cB (aA rfl) (.func _ _ Tryz.call30) rfl rfl (BVs.refl _ _) (dR _ _ _ h6) rfl) ?_
  refine tr1 rfl (eK (aA rfl) rfl) ?_
  refine tr1 rfl (aC (v := .d (.lit (.bool (!r5)))) (aA rfl) rfl rfl) ?_
  obtain ⟨b7, h8, h⟩ := bind_some h
  refine bZ 4 [] 23 b7 ?_ ?_
  ·refine bF (!r5) (fun c10 => ?_) (fun c10 => ?_)
   ·have h8 := aR c10 h8
    refine aN rfl rfl (aA rfl) rfl (aA rfl) rfl c10 ?_
    refine aN rfl rfl (aA rfl) rfl (aA rfl) rfl c10 ?_
    refine aN rfl rfl (aA rfl) rfl (aA rfl) rfl c10 ?_
    refine tr1 rfl (bN (v := .d (.lit (.bool true))) (aA rfl) rfl c10 rfl rfl) ?_
    have h8 := Option.some.inj h8
    subst h8
    refine aF (aY rfl trivial rfl)
   ·have h8 := aQ c10 h8
    refine aL rfl rfl (aA rfl) rfl c10 (aC (v := .d (.lit (.int .i64 week_2))) (aA rfl) rfl rfl) ?_
    obtain ⟨r11, h12, h8⟩ := bind_some h8
    refine aL rfl rfl (aA rfl) rfl c10 (cB (aA rfl) (.func _ _ Tryz.call30) rfl rfl (BVs.refl _ _) (dR _ _ _ h12) rfl) ?_
    refine aL rfl rfl (aA rfl) rfl c10 (eK (aA rfl) rfl) ?_
    refine tr1 rfl (bO (v := .d (.lit (.bool (!r11)))) (aA rfl) rfl c10 rfl rfl) ?_
    have h8 := Option.some.inj h8
    subst h8
    refine aF (aY rfl trivial rfl)
  ·refine aF ?_
   refine bI rfl (fun c9 => ?_) (fun c9 => ?_)
   ·have h := aR c9 h
    refine aG ?_
    refine aE ?_
    refine tr1 rfl (aJ (v := .d (.lit (.int .i64 1))) (aA rfl) rfl rfl) ?_
    refine aF ?_
    have h := Option.some.inj h
    subst h
    refine cG (bX (cD (l := [6]) ⟨rfl, trivial⟩)) ?_
    exact bL ⟨rfl, _, .one _, rfl, rfl⟩
   ·have h := aQ c9 h
    refine bG ?_
    refine aG ?_
    refine aE ?_
    refine tr1 rfl (aJ (v := .d (.lit (.int .i64 0))) (aA rfl) rfl rfl) ?_
    refine aF ?_
    have h := Option.some.inj h
    subst h
    refine cG (bX (cD (l := [6]) ⟨rfl, trivial⟩)) ?_
    exact bL ⟨rfl, _, .one _, rfl, rfl⟩

theorem vB (l_0 : List aD) {r : (List aD)} (h : iY l_0 = some r) : Fn Tryz.prog 86 [.d (.sl 5 (l_0.map aB))] (.d (.sl 5 (r.map aB))) := by
 unfold iY at h
 refine Fn.of_tr Tryz.func86 rfl (rs := [.tmp 2]) Tryz.results86 Tryz.ntmps86 (Nat.le_of_ble_eq_true rfl) ?_
 refine aG ?_
 refine aE ?_
 refine tr1 rfl (nJ 5 (aA rfl)) ?_
 refine aF ?_
 refine aG ?_
 refine aE ?_
 refine tr1 rfl (nJ 5 (aA rfl)) ?_
 refine aF ?_
 refine aG ?_
 refine aG ?_
 refine aE ?_
 refine tr1 rfl (aJ (v := .d (.lit (.int .i64 0))) (aA rfl) rfl rfl) ?_
 refine aF ?_
 refine bQ ?_
 refine cI [0] (fun (s1 : (List aD) × Int) => [(3, .d (.sl 5 (s1.1.map aB))), (4, .d (.lit (.int .i64 s1.2)))]) (fun (s1 : (List aD) × Int) => []) (fun (k : Nat) (s1 : (List aD) × Int) => eO l_0 k s1.1 s1.2) (fun _ => rfl) (([] : List aD), 0) h (aW [] rfl rfl (aM rfl (aM rfl (aX ⟨rfl, trivial⟩)))) ?_
 rintro k2 ⟨out_0_1, i_0_1⟩ h
 simp only [eO] at h
 refine aG ?_
 refine aG ?_
 refine aE ?_
 refine tr1 rfl (aC (v := .d (.lit (.int .i64 i_0_1))) (aA rfl) rfl rfl) ?_
 refine tr1 rfl (aC (v := .d (.sl 5 (l_0.map aB))) (aA rfl) rfl rfl) ?_
 refine tr1 rfl (cW (aA rfl) rfl bP.of) ?_
 refine tr1 rfl (bB (aA rfl) rfl rfl rfl) ?_
 refine aF ?_
 refine bI rfl (fun c3 => ?_) (fun c3 => ?_)
 ·have h := aR c3 h
  refine bG ?_
  refine aG ?_
  refine bQ ?_
  refine aG ?_
  refine aE ?_
  refine tr1 rfl (aJ (v := .d (.lit (.int .i64 0))) (aA rfl) rfl rfl) ?_
  refine tr1 rfl (aJ (v := .d (.lit (.bool false))) (aA rfl) rfl rfl) ?_
  refine aF ?_
  refine aG ?_
  refine aG ?_
  refine aE ?_
  refine tr1 rfl (aJ (v := .d (.lit (.int .i64 0))) (aA rfl) rfl rfl) ?_
  refine aF ?_
  refine bQ ?_
  refine cI [0, 3, 4] (fun (s4 : Int × Bool × Int) => [(5, .d (.lit (.int .i64 s4.1))), (6, .d (.lit (.bool s4.2.1))), (7, .d (.lit (.int .i64 s4.2.2)))]) (fun (s4 : Int × Bool × Int) => []) (fun (k : Nat) (s4 : Int × Bool × Int) => eP (eO l_0 k2) l_0 out_0_1 i_0_1 k s4.1 s4.2.1 s4.2.2) (fun _ => rfl) (0, false, 0) h (aW [] rfl rfl (aM rfl (aM rfl (aM rfl (aX ⟨rfl, rfl, rfl, trivial⟩))))) ?_
  rintro k5 ⟨atv_2_4, known_2_4, k_2_4⟩ h
  simp only [eP] at h
  refine aG ?_
  refine aG ?_
  refine aE ?_
  refine tr1 rfl (aC (v := .d (.lit (.int .i64 k_2_4))) (aA rfl) rfl rfl) ?_
  refine tr1 rfl (aC (v := .d (.sl 5 (out_0_1.map aB))) (aA rfl) rfl rfl) ?_
  refine tr1 rfl (cW (aA rfl) rfl bP.of) ?_
  refine tr1 rfl (bB (aA rfl) rfl rfl rfl) ?_
  refine aF ?_
  refine bI rfl (fun c6 => ?_) (fun c6 => ?_)
  ·have h := aR c6 h
   refine bG ?_
   refine aG ?_
   refine bQ ?_
   refine aG ?_
   obtain ⟨b7, h8, h⟩ := bind_some h
   refine fA mix 12 [0, 3, 4, 5, 7] [(32, .d (.lit (.bool b7)))] ?_ ?_
   ·refine bF (known_2_4) (fun c9 => ?_) (fun c9 => ?_)
    ·have h8 := aR c9 h8
     have h8 := Option.some.inj h8
     subst h8
     refine ⟨[(21, 0, .d (.lit (.bool known_2_4))), (22, 1, .d (.lit (.bool known_2_4))), (23, 2, .tup []), (24, 3, .tup []), (25, 4, .tup []), (26, 5, .tup []), (27, 6, .tup []), (28, 7, .tup []), (29, 8, .tup []), (30, 9, .tup []), (31, 10, .tup []), (32, 11, .d (.lit (.bool true)))], ?_, ?_⟩
     · exact ⟨by kernel_rfl, by kernel_rfl, by kernel_rfl, by kernel_rfl, by kernel_rfl, [([], []), ([0], []), ([1], []), ([1], []), ([1, 2, 3], []), ([1, 4], []), ([1], []), ([1], []), ([1, 6, 7], []), ([1, 8], []), ([1, 5, 9], []), ([1, 10], [])], by kernel_rfl, ⟨fun S hS => aI rfl (aP rfl (aC (v := .d (.lit (.bool known_2_4))) (aA rfl) (aH hS rfl) rfl)),
      fun S hS => aI rfl (aP rfl (aC (v := .d (.lit (.bool known_2_4))) (aA rfl) (aH hS rfl) rfl)),
      fun S hS => aI rfl (bD rfl rfl (aA rfl) rfl (aA rfl) (aO hS rfl) c9),
      fun S hS => aI rfl (bD rfl rfl (aA rfl) rfl (aA rfl) (aO hS rfl) c9),
      fun S hS => aI rfl (bD rfl rfl (aA rfl) rfl (aA rfl) (aO hS rfl) c9),
      fun S hS => aI rfl (bD rfl rfl (aA rfl) rfl (aA rfl) (aO hS rfl) c9),
      fun S hS => aI rfl (bD rfl rfl (aA rfl) rfl (aA rfl) (aO hS rfl) c9),
      fun S hS => aI rfl (bD rfl rfl (aA rfl) rfl (aA rfl) (aO hS rfl) c9),
      fun S hS => aI rfl (bD rfl rfl (aA rfl) rfl (aA rfl) (aO hS rfl) c9),
      fun S hS => aI rfl (bD rfl rfl (aA rfl) rfl (aA rfl) (aO hS rfl) c9),
      fun S hS => aI rfl (bD rfl rfl (aA rfl) rfl (aA rfl) (aO hS rfl) c9),
      fun S hS => aI rfl (aP rfl (bN (v := .d (.lit (.bool true))) (aA rfl) (aH hS rfl) c9 rfl rfl)), trivial⟩⟩
     · exact dJ (aM rfl (aX ⟨rfl, rfl, rfl, rfl, rfl, trivial⟩))
    ·have h8 := aQ c9 h8
     obtain ⟨x10, h11, h8⟩ := bind_some h8
     obtain ⟨x12, h13, h8⟩ := bind_some h8
     have h8 := Option.some.inj h8
     subst h8
     refine ⟨[(21, 0, .d (.lit (.bool known_2_4))), (22, 1, .d (.lit (.bool known_2_4))), (23, 2, .d (.sl 5 (out_0_1.map aB))), (24, 3, .d (.lit (.int .i64 k_2_4))), (25, 4, .cp [.lit (.int .i64 x10.Id), .lit (.int .i64 x10.Player), .lit (.int .i64 x10.Week), .lit (.int .i64 x10.Points), .lit (.bool x10.Must)]), (26, 5, .agg (aB x10)), (27, 6, .d (.sl 5 (l_0.map aB))), (28, 7, .d (.lit (.int .i64 i_0_1))), (29, 8, .cp [.lit (.int .i64 x12.Id), .lit (.int .i64 x12.Player), .lit (.int .i64 x12.Week), .lit (.int .i64 x12.Points), .lit (.bool x12.Must)]), (30, 9, .agg (aB x12)), (31, 10, .d (.lit (.bool ((decide (x10 = x12)))))), (32, 11, .d (.lit (.bool ((decide (x10 = x12))))))], ?_, ?_⟩
     · exact ⟨by kernel_rfl, by kernel_rfl, by kernel_rfl, by kernel_rfl, by kernel_rfl, [([], []), ([0], []), ([1], []), ([1], []), ([1, 2, 3], []), ([1, 4], []), ([1], []), ([1], []), ([1, 6, 7], []), ([1, 8], []), ([1, 5, 9], []), ([1, 10], [])], by kernel_rfl, ⟨fun S hS => aI rfl (aP rfl (aC (v := .d (.lit (.bool known_2_4))) (aA rfl) (aH hS rfl) rfl)),
      fun S hS => aI rfl (aP rfl (aC (v := .d (.lit (.bool known_2_4))) (aA rfl) (aH hS rfl) rfl)),
      fun S hS => aI rfl (aZ rfl rfl (aA rfl) (aO hS rfl) c9 (aC (v := .d (.sl 5 (out_0_1.map aB))) (aA rfl) (aH hS rfl) rfl)),
      fun S hS => aI rfl (aZ rfl rfl (aA rfl) (aO hS rfl) c9 (aC (v := .d (.lit (.int .i64 k_2_4))) (aA rfl) (aH hS rfl) rfl)),
      fun S hS => aI rfl (aZ rfl rfl (aA rfl) (aO hS rfl) c9 (bM (aA rfl) (aH hS rfl) (aH hS rfl) bP.of (bH aB h11))),
      fun S hS => aI rfl (aZ rfl rfl (aA rfl) (aO hS rfl) c9 (dZ (aA rfl) (aH hS rfl) dE (es := (aB x10)) rfl rfl)),
      fun S hS => aI rfl (aZ rfl rfl (aA rfl) (aO hS rfl) c9 (aC (v := .d (.sl 5 (l_0.map aB))) (aA rfl) (aH hS rfl) rfl)),
      fun S hS => aI rfl (aZ rfl rfl (aA rfl) (aO hS rfl) c9 (aC (v := .d (.lit (.int .i64 i_0_1))) (aA rfl) (aH hS rfl) rfl)),
      fun S hS => aI rfl (aZ rfl rfl (aA rfl) (aO hS rfl) c9 (bM (aA rfl) (aH hS rfl) (aH hS rfl) bP.of (bH aB h13))),
      fun S hS => aI rfl (aZ rfl rfl (aA rfl) (aO hS rfl) c9 (dZ (aA rfl) (aH hS rfl) dE (es := (aB x12)) rfl rfl)),
      fun S hS => aI rfl (aZ rfl rfl (aA rfl) (aO hS rfl) c9 (aGu (a := x10) (b := x12) (aA rfl) (aH hS rfl) (aH hS rfl) rfl rfl Tryz.eqGuardType43 wV)),
      fun S hS => aI rfl (aP rfl (bO (v := .d (.lit (.bool ((decide (x10 = x12)))))) (aA rfl) (aH hS rfl) c9 (aH hS rfl) rfl)), trivial⟩⟩
     · exact dJ (aM rfl (aX ⟨rfl, rfl, rfl, rfl, rfl, trivial⟩))
   ·refine tr1 rfl (aJ (v := .d (.lit (.bool b7))) (aA rfl) rfl rfl) ?_
    refine aF ?_
    refine aG ?_
    obtain ⟨x14, h15, h⟩ := bind_some h
    obtain ⟨x16, h17, h⟩ := bind_some h
    refine fA mix 10 [0, 3, 4, 5, 6, 7] [(37, .d (.lit (.int .i64 x14.Id))), (42, .d (.lit (.int .i64 x16.Id)))] ?_ ?_
    ·refine ⟨[(33, 0, .d (.sl 5 (out_0_1.map aB))), (34, 1, .d (.lit (.int .i64 k_2_4))), (35, 2, .cp [.lit (.int .i64 x14.Id), .lit (.int .i64 x14.Player), .lit (.int .i64 x14.Week), .lit (.int .i64 x14.Points), .lit (.bool x14.Must)]), (36, 3, .cp [.lit (.int .i64 x14.Id)]), (37, 4, .d (.lit (.int .i64 x14.Id))), (38, 5, .d (.sl 5 (l_0.map aB))), (39, 6, .d (.lit (.int .i64 i_0_1))), (40, 7, .cp [.lit (.int .i64 x16.Id), .lit (.int .i64 x16.Player), .lit (.int .i64 x16.Week), .lit (.int .i64 x16.Points), .lit (.bool x16.Must)]), (41, 8, .cp [.lit (.int .i64 x16.Id)]), (42, 9, .d (.lit (.int .i64 x16.Id)))], ?_, ?_⟩
     · exact ⟨by kernel_rfl, by kernel_rfl, by kernel_rfl, by kernel_rfl, by kernel_rfl, [([], []), ([], []), ([0, 1], []), ([2], []), ([3], []), ([], []), ([], []), ([5, 6], []), ([7], []), ([8], [])], by kernel_rfl, ⟨fun S hS => aI rfl (aP rfl (aC (v := .d (.sl 5 (out_0_1.map aB))) (aA rfl) (aH hS rfl) rfl)),
      fun S hS => aI rfl (aP rfl (aC (v := .d (.lit (.int .i64 k_2_4))) (aA rfl) (aH hS rfl) rfl)),
      fun S hS => aI rfl (aP rfl (bM (aA rfl) (aH hS rfl) (aH hS rfl) bP.of (bH aB h15))),
      fun S hS => aI rfl (aP rfl (cA (aA rfl) (aH hS rfl) gV (es := [.lit (.int .i64 x14.Id)]) rfl)),
      fun S hS => aI rfl (aP rfl (bY (aA rfl) (aH hS rfl) bE)),
      fun S hS => aI rfl (aP rfl (aC (v := .d (.sl 5 (l_0.map aB))) (aA rfl) (aH hS rfl) rfl)),
      fun S hS => aI rfl (aP rfl (aC (v := .d (.lit (.int .i64 i_0_1))) (aA rfl) (aH hS rfl) rfl)),
      fun S hS => aI rfl (aP rfl (bM (aA rfl) (aH hS rfl) (aH hS rfl) bP.of (bH aB h17))),
      fun S hS => aI rfl (aP rfl (cA (aA rfl) (aH hS rfl) gV (es := [.lit (.int .i64 x16.Id)]) rfl)),
      fun S hS => aI rfl (aP rfl (bY (aA rfl) (aH hS rfl) bE)), trivial⟩⟩
     · exact dJ (aM rfl (aM rfl (aX ⟨rfl, rfl, rfl, rfl, rfl, rfl, trivial⟩)))
    ·refine tr1 rfl (bB (aA rfl) rfl rfl rfl) ?_
     refine aF ?_
     refine bI rfl (fun c18 => ?_) (fun c18 => ?_)
     ·have h := aR c18 h
      refine aE ?_
      refine tr1 rfl (aC (v := .d (.lit (.int .i64 k_2_4))) (aA rfl) rfl rfl) ?_
      refine tr1 rfl (bA (aA rfl) rfl rfl rfl) ?_
      refine tr1 rfl (aJ (v := .d (.lit (.int .i64 ((w64 (k_2_4 + 1)))))) (aA rfl) rfl rfl) ?_
      refine dN ?_
      refine aE ?_
      refine tr1 rfl (aC (v := .d (.lit (.int .i64 k_2_4))) (aA rfl) rfl rfl) ?_
      refine tr1 rfl (bA (aA rfl) rfl rfl rfl) ?_
      refine tr1 rfl (aJ (v := .d (.lit (.int .i64 ((w64 (k_2_4 + 1)))))) (aA rfl) rfl rfl) ?_
      refine aF ?_
      exact ⟨(w64 (k_2_4 + 1), b7, w64 (k_2_4 + 1)), h, aW [] rfl rfl (aM rfl (aM rfl (aM rfl (aX ⟨rfl, rfl, rfl, trivial⟩))))⟩
     ·have h := aQ c18 h
      refine dH ?_
      refine aE ?_
      refine tr1 rfl (aC (v := .d (.lit (.int .i64 k_2_4))) (aA rfl) rfl rfl) ?_
      refine tr1 rfl (bA (aA rfl) rfl rfl rfl) ?_
      refine tr1 rfl (aJ (v := .d (.lit (.int .i64 ((w64 (k_2_4 + 1)))))) (aA rfl) rfl rfl) ?_
      refine aF ?_
      exact ⟨(atv_2_4, b7, w64 (k_2_4 + 1)), h, aW [] rfl rfl (aM rfl (aM rfl (aM rfl (aX ⟨rfl, rfl, rfl, trivial⟩))))⟩
  ·have h := aQ c6 h
   refine cP ?_
   refine .inl ⟨rfl, ?_⟩
   simp only [jE] at h
   refine aG ?_
   refine aE ?_
   refine tr1 rfl (aC (v := .d (.lit (.bool known_2_4))) (aA rfl) rfl rfl) ?_
   refine tr1 rfl (eK (aA rfl) rfl) ?_
   refine aF ?_
   refine bI rfl (fun c19 => ?_) (fun c19 => ?_)
   ·have h := aR c19 h
    refine aG ?_
    obtain ⟨x20, h21, h⟩ := bind_some h
    obtain ⟨x22, h23, h⟩ := bind_some h
    refine fA mix 8 [0, 3, 4, 5] [(52, .fl true 5 (([x20]).map aB)), (55, .d (.sl 5 (x22.map aB)))] ?_ ?_
    ·refine ⟨[(48, 0, .d (.sl 5 (l_0.map aB))), (49, 1, .d (.lit (.int .i64 i_0_1))), (50, 2, .cp [.lit (.int .i64 x20.Id), .lit (.int .i64 x20.Player), .lit (.int .i64 x20.Week), .lit (.int .i64 x20.Points), .lit (.bool x20.Must)]), (51, 3, .agg (aB x20)), (52, 4, .fl true 5 (([x20]).map aB)), (53, 5, .d (.sl 5 (out_0_1.map aB))), (54, 6, .d (.lit (.int .i64 atv_2_4))), (55, 7, .d (.sl 5 (x22.map aB)))], ?_, ?_⟩
     · exact ⟨by kernel_rfl, by kernel_rfl, by kernel_rfl, by kernel_rfl, by kernel_rfl, [([], []), ([], []), ([0, 1], []), ([2], []), ([3], []), ([], []), ([], []), ([5, 6], [])], by kernel_rfl, ⟨fun S hS => aI rfl (aP rfl (aC (v := .d (.sl 5 (l_0.map aB))) (aA rfl) (aH hS rfl) rfl)),
      fun S hS => aI rfl (aP rfl (aC (v := .d (.lit (.int .i64 i_0_1))) (aA rfl) (aH hS rfl) rfl)),
      fun S hS => aI rfl (aP rfl (bM (aA rfl) (aH hS rfl) (aH hS rfl) bP.of (bH aB h21))),
      fun S hS => aI rfl (aP rfl (dZ (aA rfl) (aH hS rfl) dE (es := (aB x20)) rfl rfl)),
      fun S hS => aI rfl (aP rfl (vZ (aA rfl) bP rfl (pa2 (aH hS rfl) pan) (rows := ([x20]).map aB) rfl (cT (f := aB) fun _ => rfl) rfl (by decide))),
      fun S hS => aI rfl (aP rfl (aC (v := .d (.sl 5 (out_0_1.map aB))) (aA rfl) (aH hS rfl) rfl)),
      fun S hS => aI rfl (aP rfl (aC (v := .d (.lit (.int .i64 atv_2_4))) (aA rfl) (aH hS rfl) rfl)),
      fun S hS => aI rfl (aP rfl (mO (aA rfl) bP.of (aH hS rfl) (bo (aH hS rfl)) aFv (pM aB h23))), trivial⟩⟩
     · exact dJ (aM rfl (aM rfl (aX ⟨rfl, rfl, rfl, rfl, trivial⟩)))
    ·obtain ⟨x24, h25, h⟩ := bind_some h
     refine tr1 rfl (zT (.d (.weak _ _)) (sN (nn := true) (f := aB) (xs := [x20]) (ys := x22) (aA rfl) bP rfl rfl (fun _ => rfl) h25 rfl)) ?_
     refine tr1 rfl (aJ (v := .d (.sl 5 (x24.map aB))) (aA rfl) rfl rfl) ?_
     refine aF ?_
     refine aE ?_
     refine bW rfl (aAx (aA rfl) bP rfl rfl (rows := (([] : List aD)).map aB) rfl (cT (f := aB) fun _ => rfl) rfl (by decide)) ?_
     rintro _ ⟨v26, rfl⟩
     refine tr1 rfl (aC (v := .d (.sl 5 (out_0_1.map aB))) (aA rfl) rfl rfl) ?_
     refine tr1 rfl (aC (v := .d (.lit (.int .i64 atv_2_4))) (aA rfl) rfl rfl) ?_
     obtain ⟨x27, h28, h⟩ := bind_some h
     refine tr1 rfl (mO (aA rfl) bP.of rfl rfl rfl (pM aB h28)) ?_
     obtain ⟨x29, h30, h⟩ := bind_some h
     refine bW rfl (kB (i := 0) (aA rfl) bP rfl rfl rfl (fun _ => rfl) h30 rfl) ?_
     rintro _ ⟨v31, rfl⟩
     refine tr1 rfl (aC (v := .d (.sl 5 (x24.map aB))) (aA rfl) rfl rfl) ?_
     obtain ⟨x32, h33, h⟩ := bind_some h
     refine bW rfl (kB (i := 0) (aA rfl) bP rfl rfl rfl (fun _ => rfl) h33 rfl) ?_
     rintro _ ⟨v34, rfl⟩
     refine eW (xS [] [.arr v34 43 5 (x32.map aB)] rfl (aIc (v' := .d (.sl 5 (x32.map aB))) (.d (aHh (cT (f := aB) fun _ => rfl))) (qI _ _))) ?_
     refine tr1 rfl (aJ (v := .d (.sl 5 (x32.map aB))) (aA rfl) rfl rfl) ?_
     refine dN ?_
     simp only [gP] at h
     refine aE ?_
     refine tr1 rfl (aC (v := .d (.lit (.int .i64 i_0_1))) (aA rfl) rfl rfl) ?_
     refine tr1 rfl (bA (aA rfl) rfl rfl rfl) ?_
     refine tr1 rfl (aJ (v := .d (.lit (.int .i64 ((w64 (i_0_1 + 1)))))) (aA rfl) rfl rfl) ?_
     refine aF ?_
     exact ⟨(x32, w64 (i_0_1 + 1)), h, aW [] rfl rfl (aM rfl (aM rfl (aX ⟨rfl, trivial⟩)))⟩
   ·have h := aQ c19 h
    refine dH ?_
    simp only [gP] at h
    refine aE ?_
    refine tr1 rfl (aC (v := .d (.lit (.int .i64 i_0_1))) (aA rfl) rfl rfl) ?_
    refine tr1 rfl (bA (aA rfl) rfl rfl rfl) ?_
    refine tr1 rfl (aJ (v := .d (.lit (.int .i64 ((w64 (i_0_1 + 1)))))) (aA rfl) rfl rfl) ?_
    refine aF ?_
    exact ⟨(out_0_1, w64 (i_0_1 + 1)), h, aW [] rfl rfl (aM rfl (aM rfl (aX ⟨rfl, trivial⟩)))⟩
 ·have h := aQ c3 h
  refine cP ?_
  refine .inl ⟨rfl, ?_⟩
  simp only [mT] at h
  refine aG ?_
  refine aE ?_
  refine tr1 rfl (aC (v := .d (.sl 5 (out_0_1.map aB))) (aA rfl) rfl rfl) ?_
  refine tr1 rfl (aJ (v := .d (.sl 5 (out_0_1.map aB))) (aA rfl) rfl rfl) ?_
  refine aF ?_
  have h := Option.some.inj h
  subst h
  exact bL ⟨rfl, _, .one _, rfl, rfl⟩

theorem vA (l_0 : aS) (player_1 : Int) (week_2 : Int) {r : (List aD)} (h : kF l_0 player_1 week_2 = some r) : Fn Tryz.prog 64 [.agg (aU l_0), .d (.lit (.int .i64 player_1)), .d (.lit (.int .i64 week_2))] (.d (.sl 5 (r.map aB))) := by
 unfold kF at h
 refine Fn.of_tr Tryz.func64 rfl (rs := [.tmp 6]) Tryz.results64 Tryz.ntmps64 (Nat.le_of_ble_eq_true rfl) ?_
 refine aG ?_
 refine aE ?_
 refine bW rfl (eG (v := .agg (aU l_0)) (aA rfl) rfl rfl rfl) ?_
 rintro _ ⟨b1, rfl⟩
 refine tr1 rfl (nJ 5 (aA rfl)) ?_
 refine aF ?_
 refine aG ?_
 refine aE ?_
 refine tr1 rfl (gK 43 5 (.inl rfl) (aA rfl)) ?_
 refine aF ?_
 refine aG ?_
 refine aE ?_
 refine tr1 rfl (aT (aA rfl) rfl dS) ?_
 refine tr1 rfl (aV (aA rfl) rfl (i := 0) rfl rfl fT) ?_
 obtain ⟨r3, h4, h⟩ := bind_some h
 refine tr1 rfl (jA (aA rfl) (.func _ _ Tryz.call86) rfl rfl (vB _ h4)) ?_
 refine tr1 rfl (aJ (v := .d (.sl 5 (r3.map aB))) (aA rfl) rfl rfl) ?_
 refine aF ?_
 refine aG ?_
 refine aG ?_
 refine aE ?_
 refine tr1 rfl (aJ (v := .d (.lit (.int .i64 0))) (aA rfl) rfl rfl) ?_
 refine aF ?_
 refine bQ ?_
 refine cI [1, 2, 3, 8] (fun (s5 : Int × (List aD) × Value) => [(7, .d (.lit s5.2.2)), (9, .d (.lit (.int .i64 s5.1)))]) (fun (s5 : Int × (List aD) × Value) => [.box b1 0 (aU l_0), .arr s5.2.2 43 5 (s5.2.1.map aB)]) (fun (k : Nat) (s5 : Int × (List aD) × Value) => eN player_1 week_2 r3 l_0 k s5.1 s5.2.1) (fun _ => rfl) (0, ([] : List aD), (.slice none 0 0)) h (aW [0, 1] rfl rfl (aM rfl (aM rfl (aX ⟨rfl, rfl, rfl, rfl, trivial⟩)))) ?_
 rintro k7 ⟨i_0_5, out_0_5, w6⟩ h
 simp only [eN] at h
 refine aG ?_
 refine aG ?_
 refine aE ?_
 refine tr1 rfl (aC (v := .d (.lit (.int .i64 i_0_5))) (aA rfl) rfl rfl) ?_
 refine tr1 rfl (aC (v := .d (.sl 5 (r3.map aB))) (aA rfl) rfl rfl) ?_
 refine tr1 rfl (cW (aA rfl) rfl bP.of) ?_
 refine tr1 rfl (bB (aA rfl) rfl rfl rfl) ?_
 refine aF ?_
 refine bI rfl (fun c8 => ?_) (fun c8 => ?_)
 ·have h := aR c8 h
  refine bG ?_
  refine aG ?_
  refine bQ ?_
  refine aG ?_
  refine aE ?_
  refine tr1 rfl (aC (v := .d (.sl 5 (r3.map aB))) (aA rfl) rfl rfl) ?_
  refine tr1 rfl (aC (v := .d (.lit (.int .i64 i_0_5))) (aA rfl) rfl rfl) ?_
  obtain ⟨x9, h10, h⟩ := bind_some h
  refine tr1 rfl (bM (aA rfl) rfl rfl bP.of (bH aB h10)) ?_
  refine tr1 rfl (dZ (aA rfl) rfl dE (es := (aB x9)) rfl rfl) ?_
  refine bW rfl (fR (zs := [.lit (.int .i64 0), .lit (.int .i64 0), .lit (.int .i64 0), .lit (.int .i64 0), .lit (.bool false)]) (aA rfl) Tryz.zeroValue43 rfl rfl) ?_
  rintro _ ⟨b11, rfl⟩
  refine tr1 rfl (cJ (i := 2) rfl rfl rfl rfl rfl Tryz.sizeOf43 rfl (aA rfl) (Nat.le_of_ble_eq_true rfl) (ds' := (aB x9)) rfl) ?_
  refine aF ?_
  refine aG ?_
  refine aE ?_
  refine tr1 rfl (aT (aA rfl) rfl nT) ?_
  refine tr1 rfl (aV (aA rfl) rfl (i := 2) rfl rfl bE) ?_
  refine tr1 rfl (aC (v := .d (.lit (.int .i64 player_1))) (aA rfl) rfl rfl) ?_
  refine tr1 rfl (bB (aA rfl) rfl rfl rfl) ?_
  refine tr1 rfl (aC (v := .d (.lit (.bool ((decide (x9.Player = player_1)))))) (aA rfl) rfl rfl) ?_
  obtain ⟨b12, h13, h⟩ := bind_some h
  refine bZ 5 [1, 2, 3, 7, 8, 9, 10] 33 b12 ?_ ?_
  ·refine bF (decide (x9.Player = player_1)) (fun c28 => ?_) (fun c28 => ?_)
   ·have h13 := aR c28 h13
    refine aL rfl rfl (aA rfl) rfl c28 (aC (v := .d (.lit (.int .i64 week_2))) (aA rfl) rfl rfl) ?_
    refine aL rfl rfl (aA rfl) rfl c28 (aT (aA rfl) rfl jJ) ?_
    refine aL rfl rfl (aA rfl) rfl c28 (aV (aA rfl) rfl (i := 2) rfl rfl bE) ?_
    refine aL rfl rfl (aA rfl) rfl c28 (bB (aA rfl) rfl rfl rfl) ?_
    refine tr1 rfl (bN (v := .d (.lit (.bool ((decide (x9.Week ≤ week_2)))))) (aA rfl) rfl c28 rfl rfl) ?_
    have h13 := Option.some.inj h13
    subst h13
    refine aF (aY rfl ⟨rfl, rfl, rfl, rfl, rfl, rfl, rfl, trivial⟩ rfl)
   ·have h13 := aQ c28 h13
    refine aN rfl rfl (aA rfl) rfl (aA rfl) rfl c28 ?_
    refine aN rfl rfl (aA rfl) rfl (aA rfl) rfl c28 ?_
    refine aN rfl rfl (aA rfl) rfl (aA rfl) rfl c28 ?_
    refine aN rfl rfl (aA rfl) rfl (aA rfl) rfl c28 ?_
    refine tr1 rfl (bO (v := .d (.lit (.bool false))) (aA rfl) rfl c28 rfl rfl) ?_
    have h13 := Option.some.inj h13
    subst h13
    refine aF (aY rfl ⟨rfl, rfl, rfl, rfl, rfl, rfl, rfl, trivial⟩ rfl)
  ·refine tr1 rfl (aC (v := .d (.lit (.bool b12))) (aA rfl) rfl rfl) ?_
   obtain ⟨b14, h15, h⟩ := bind_some h
   refine bZ 6 [1, 2, 3, 7, 8, 9, 10] 40 b14 ?_ ?_
   ·refine bF (b12) (fun c25 => ?_) (fun c25 => ?_)
    ·have h15 := aR c25 h15
     refine aL rfl rfl (aA rfl) rfl c25 (cF (aA rfl) rfl (i := 0) rfl eA (es := (aU l_0)) rfl rfl) ?_
     refine aL rfl rfl (aA rfl) rfl c25 (cF (aA rfl) rfl (i := 2) rfl dE (es := (aB x9)) rfl rfl) ?_
     refine aL rfl rfl (aA rfl) rfl c25 (aC (v := .d (.lit (.int .i64 week_2))) (aA rfl) rfl rfl) ?_
     obtain ⟨r26, h27, h15⟩ := bind_some h15
     refine aL rfl rfl (aA rfl) rfl c25 (cB (aA rfl) (.func _ _ Tryz.call31) rfl rfl (BVs.refl _ _) (tO _ _ _ h27) rfl) ?_
     refine aL rfl rfl (aA rfl) rfl c25 (bB (aA rfl) rfl rfl rfl) ?_
     refine tr1 rfl (bN (v := .d (.lit (.bool ((decide (r26 < 52)))))) (aA rfl) rfl c25 rfl rfl) ?_
     have h15 := Option.some.inj h15
     subst h15
     refine aF (aY rfl ⟨rfl, rfl, rfl, rfl, rfl, rfl, rfl, trivial⟩ rfl)
    ·have h15 := aQ c25 h15
     refine aN rfl rfl (aA rfl) rfl (aA rfl) rfl c25 ?_
     refine aN rfl rfl (aA rfl) rfl (aA rfl) rfl c25 ?_
     refine aN rfl rfl (aA rfl) rfl (aA rfl) rfl c25 ?_
     refine aN rfl rfl (aA rfl) rfl (aA rfl) rfl c25 ?_
     refine aN rfl rfl (aA rfl) rfl (aA rfl) rfl c25 ?_
     refine tr1 rfl (bO (v := .d (.lit (.bool false))) (aA rfl) rfl c25 rfl rfl) ?_
     have h15 := Option.some.inj h15
     subst h15
     refine aF (aY rfl ⟨rfl, rfl, rfl, rfl, rfl, rfl, rfl, trivial⟩ rfl)
   ·refine tr1 rfl (aC (v := .d (.lit (.bool b14))) (aA rfl) rfl rfl) ?_
    obtain ⟨b16, h17, h⟩ := bind_some h
    refine bZ 8 [1, 2, 3, 7, 8, 9, 10] 49 b16 ?_ ?_
    ·refine bF (b14) (fun c22 => ?_) (fun c22 => ?_)
     ·have h17 := aR c22 h17
      refine aL rfl rfl (aA rfl) rfl c22 (aT (aA rfl) rfl jO) ?_
      refine aL rfl rfl (aA rfl) rfl c22 (aV (aA rfl) rfl (i := 0) rfl rfl fU) ?_
      refine aL rfl rfl (aA rfl) rfl c22 (aC (v := .d (.lit (.int .i64 player_1))) (aA rfl) rfl rfl) ?_
      refine aL rfl rfl (aA rfl) rfl c22 (aT (aA rfl) rfl jJ) ?_
      refine aL rfl rfl (aA rfl) rfl c22 (aV (aA rfl) rfl (i := 2) rfl rfl bE) ?_
      obtain ⟨r23, h24, h17⟩ := bind_some h17
      refine aL rfl rfl (aA rfl) rfl c22 (cB (aA rfl) (.func _ _ Tryz.call59) rfl rfl (BVs.refl _ _) (sZ _ _ _ h24) rfl) ?_
      refine aL rfl rfl (aA rfl) rfl c22 (eK (aA rfl) rfl) ?_
      refine tr1 rfl (bN (v := .d (.lit (.bool (!r23)))) (aA rfl) rfl c22 rfl rfl) ?_
      have h17 := Option.some.inj h17
      subst h17
      refine aF (aY rfl ⟨rfl, rfl, rfl, rfl, rfl, rfl, rfl, trivial⟩ rfl)
     ·have h17 := aQ c22 h17
      refine aN rfl rfl (aA rfl) rfl (aA rfl) rfl c22 ?_
      refine aN rfl rfl (aA rfl) rfl (aA rfl) rfl c22 ?_
      refine aN rfl rfl (aA rfl) rfl (aA rfl) rfl c22 ?_
      refine aN rfl rfl (aA rfl) rfl (aA rfl) rfl c22 ?_
      refine aN rfl rfl (aA rfl) rfl (aA rfl) rfl c22 ?_
      refine aN rfl rfl (aA rfl) rfl (aA rfl) rfl c22 ?_
      refine aN rfl rfl (aA rfl) rfl (aA rfl) rfl c22 ?_
      refine tr1 rfl (bO (v := .d (.lit (.bool false))) (aA rfl) rfl c22 rfl rfl) ?_
      have h17 := Option.some.inj h17
      subst h17
      refine aF (aY rfl ⟨rfl, rfl, rfl, rfl, rfl, rfl, rfl, trivial⟩ rfl)
    ·refine aF ?_
     refine bI rfl (fun c18 => ?_) (fun c18 => ?_)
     ·have h := aR c18 h
      refine aE ?_
      refine tr1 rfl (aC (v := .d (.lit w6)) (aA rfl) rfl rfl) ?_
      refine tr1 rfl (cF (aA rfl) rfl (i := 2) rfl dE (es := (aB x9)) rfl rfl) ?_
      refine tr1 rfl (iH (aA rfl) bP rfl rfl (rows := ([x9]).map aB) rfl (cT (f := aB) fun _ => rfl) rfl (by decide)) ?_
      obtain ⟨x19, h20, h⟩ := bind_some h
      refine bW rfl (kB (i := 1) (aA rfl) bP rfl rfl rfl (fun _ => rfl) h20 rfl) ?_
      rintro _ ⟨v21, rfl⟩
      refine tr1 rfl (aJ (v := .d (.lit v21)) (aA rfl) rfl rfl) ?_
      refine dN ?_
      refine aE ?_
      refine tr1 rfl (aC (v := .d (.lit (.int .i64 i_0_5))) (aA rfl) rfl rfl) ?_
      refine tr1 rfl (bA (aA rfl) rfl rfl rfl) ?_
      refine tr1 rfl (aJ (v := .d (.lit (.int .i64 ((w64 (i_0_5 + 1)))))) (aA rfl) rfl rfl) ?_
      refine aF ?_
      exact ⟨(w64 (i_0_5 + 1), x19, v21), h, aW [0, 1] rfl rfl (aM rfl (aM rfl (aX ⟨rfl, rfl, rfl, rfl, trivial⟩)))⟩
     ·have h := aQ c18 h
      refine dH ?_
      refine aE ?_
      refine tr1 rfl (aC (v := .d (.lit (.int .i64 i_0_5))) (aA rfl) rfl rfl) ?_
      refine tr1 rfl (bA (aA rfl) rfl rfl rfl) ?_
      refine tr1 rfl (aJ (v := .d (.lit (.int .i64 ((w64 (i_0_5 + 1)))))) (aA rfl) rfl rfl) ?_
      refine aF ?_
      exact ⟨(w64 (i_0_5 + 1), out_0_5, w6), h, aW [0, 1] rfl rfl (aM rfl (aM rfl (aX ⟨rfl, rfl, rfl, rfl, trivial⟩)))⟩
 ·have h := aQ c8 h
  refine cP ?_
  refine .inl ⟨rfl, ?_⟩
  simp only [mS] at h
  refine aG ?_
  refine aE ?_
  refine tr1 rfl (aC (v := .d (.lit w6)) (aA rfl) rfl rfl) ?_
  refine tr1 rfl (aJ (v := .d (.lit w6)) (aA rfl) rfl rfl) ?_
  refine aF ?_
  have h := Option.some.inj h
  subst h
  refine cG (bX (fH (k := 6) (v := .d (.sl 5 (out_0_5.map aB))) (.d (gE 1 rfl (cT (f := aB) fun _ => rfl))) (rT))) ?_
  exact bL ⟨rfl, _, .one _, rfl, rfl⟩

end Go.Am
