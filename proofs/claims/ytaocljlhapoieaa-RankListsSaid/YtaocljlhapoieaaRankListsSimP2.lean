/- The functions compute what the shallow ones say: printed by program. -/
import Derived.Test.YtaocljlhapoieaaRankListsSimP1
namespace Go.Am
open Go.Proofs
set_option maxRecDepth 100000
set_option maxHeartbeats 4000000

theorem aFb (l_0 : aN) {r : (Option cE) × Int} (h : qS l_0 = some r) : gE Try.prog 80 [.agg (aT l_0)] [] (fun r' o' => ∃ (b : Nat) (w0 : Value), r' = .tup [(match r.1 with | none => .d (.lit (.pointer none)) | some _ => .bp b 0 0), .d (.lit (.int .i64 r.2))] ∧ o' = (match r.1 with | none => [] | some x => [.box b 0 [.lit (.int .i64 x.Ledger.Players), .lit (.int .i64 x.Ledger.Counts), .lit w0, .sl 3 (x.Ledger.Bans.map aI), .sl 3 (x.Ledger.Frozen.map aI)], .arr w0 42 5 (x.Ledger.Reports.map aC)])) := by
 unfold qS at h
 refine lZ Try.func80 rfl (rs := [.tmp 2, .tmp 3]) Try.results80 Try.ntmps80 (Nat.le_of_ble_eq_true rfl) ?_
 refine aG ?_
 refine aD ?_
 refine bQ rfl (eD (v := .agg (aT l_0)) (aA rfl) rfl rfl rfl) ?_
 rintro _ ⟨b1, rfl⟩
 refine tr1 rfl (aJ (v := rU cP (none : Option cE)) (aA rfl) rfl rfl) ?_
 refine tr1 rfl (aJ (v := .d (.lit (.int .i64 0))) (aA rfl) rfl rfl) ?_
 refine aF ?_
 refine aG ?_
 refine aG ?_
 refine aD ?_
 refine tr1 rfl (cA (aA rfl) rfl (i := 0) rfl dI (es := (aT l_0)) rfl rfl) ?_
 obtain ⟨r2, h3, h⟩ := bind_some h
 refine tr1 rfl (bY (aA rfl) (.func _ _ Try.call60) rfl rfl (BVs.refl _ _) (aEg _ h3) rfl) ?_
 refine tr1 rfl (aJ (v := .d (.lit (.int .i64 r2))) (aA rfl) rfl rfl) ?_
 refine aF ?_
 refine aG ?_
 refine aD ?_
 refine tr1 rfl (aB (v := .d (.lit (.int .i64 r2))) (aA rfl) rfl rfl) ?_
 refine tr1 rfl (bB (aA rfl) rfl rfl rfl) ?_
 refine aF ?_
 refine bH rfl (fun c4 => ?_) (fun c4 => ?_)
 ·have h := aS c4 h
  refine aG ?_
  refine aD ?_
  refine tr1 rfl (aB (v := .d (.lit (.int .i64 r2))) (aA rfl) rfl rfl) ?_
  refine tr1 rfl (aJ (v := rU cP (none : Option cE)) (aA rfl) rfl rfl) ?_
  refine tr1 rfl (aJ (v := .d (.lit (.int .i64 r2))) (aA rfl) rfl rfl) ?_
  refine aF ?_
  have h := Option.some.inj h
  subst h
  exact bI ⟨rfl, _, [], [.box b1 0 (aT l_0)], _, .two (.tmp 2 (v := rU cP (none : Option cE)) rfl) (.tmp 3 (v := .d (.lit (.int .i64 r2))) rfl), .refl _, .same _, 0, undef, rfl, rfl⟩
 ·have h := aR c4 h
  refine bF ?_
  refine aG ?_
  refine aD ?_
  refine tr1 rfl (aV (aA rfl) rfl eK) ?_
  refine tr1 rfl (aW (aA rfl) rfl (i := 0) rfl rfl jB) ?_
  obtain ⟨r5, h6, h⟩ := bind_some h
  refine bQ rfl (dQ (passed := []) (aA rfl) rfl (.func _ _ Try.call62) rfl rfl (zZ _ h6)) ?_
  rintro _ ⟨_, _, ⟨w7, rfl, rfl⟩, rfl⟩
  refine tr1 rfl (aB (v := .tup [.d (.lit w7), .d (.lit (.bool r5.2))]) (aA rfl) rfl rfl) ?_
  refine tr1 rfl (cH (aA rfl) rfl rfl) ?_
  refine tr1 rfl (cH (aA rfl) rfl rfl) ?_
  refine tr1 rfl (aV (aA rfl) rfl eK) ?_
  refine tr1 rfl (cF (i := 1) rfl rfl rfl rfl rfl Try.sizeOf22 rfl (aA rfl) (Nat.le_of_ble_eq_true rfl) (ds' := [.lit (.int .i64 l_0.Players), .lit (.int .i64 l_0.Counts), .lit w7, .sl 3 (l_0.Bans.map aI), .sl 3 (l_0.Frozen.map aI)]) rfl) ?_
  refine aF ?_
  refine aG ?_
  refine aD ?_
  refine tr1 rfl (cA (aA rfl) rfl (i := 1) rfl dI (es := [.lit (.int .i64 l_0.Players), .lit (.int .i64 l_0.Counts), .lit w7, .sl 3 (l_0.Bans.map aI), .sl 3 (l_0.Frozen.map aI)]) rfl rfl) ?_
  refine tr1 rfl (nT (aA rfl) aKy (zs := [.lit (.int .i64 0), .lit (.int .i64 0), .sl 5 ((([] : List aE)).map aC), .sl 3 ((([] : List aP)).map aI), .sl 3 ((([] : List aP)).map aI)]) rfl rfl rfl rfl (es := [.lit (.int .i64 l_0.Players), .lit (.int .i64 l_0.Counts), .lit w7, .sl 3 (l_0.Bans.map aI), .sl 3 (l_0.Frozen.map aI)]) rfl) ?_
  refine bQ rfl (eD (v := .agg [.lit (.int .i64 l_0.Players), .lit (.int .i64 l_0.Counts), .lit w7, .sl 3 (l_0.Bans.map aI), .sl 3 (l_0.Frozen.map aI)]) (aA rfl) rfl rfl rfl) ?_
  rintro _ ⟨b8, rfl⟩
  refine tr1 rfl (aJ (v := .bp b8 0 0) (aA rfl) rfl rfl) ?_
  refine tr1 rfl (aJ (v := .d (.lit (.int .i64 0))) (aA rfl) rfl rfl) ?_
  refine aF ?_
  have h := Option.some.inj h
  subst h
  refine cI (aX [2, 0, 1] rfl rfl (le_refl _)) ?_
  exact bI ⟨rfl, _, [.box b8 0 [.lit (.int .i64 l_0.Players), .lit (.int .i64 l_0.Counts), .lit w7, .sl 3 (l_0.Bans.map aI), .sl 3 (l_0.Frozen.map aI)], .arr w7 42 5 (r5.1.map aC)], [.box b1 0 [.lit (.int .i64 l_0.Players), .lit (.int .i64 l_0.Counts), .lit w7, .sl 3 (l_0.Bans.map aI), .sl 3 (l_0.Frozen.map aI)]], _, .two (.tmp 2 (v := .bp b8 0 0) rfl) (.tmp 3 (v := .d (.lit (.int .i64 0))) rfl), .refl _, .same _, b8, w7, rfl, rfl⟩

theorem sQ (l_0 : aN) (player_1 : Int) (week_2 : Int) {r : (Option cE) × Int} (h : nJ l_0 player_1 week_2 = some r) : gE Try.prog 44 [.agg (aT l_0), .d (.lit (.int .i64 player_1)), .d (.lit (.int .i64 week_2))] [] (fun r' o' => ∃ (b : Nat) (w0 : Value), r' = .tup [(match r.1 with | none => .d (.lit (.pointer none)) | some _ => .bp b 0 0), .d (.lit (.int .i64 r.2))] ∧ o' = (match r.1 with | none => [] | some x => [.box b 0 [.lit (.int .i64 x.Ledger.Players), .lit (.int .i64 x.Ledger.Counts), .lit w0, .sl 3 (x.Ledger.Bans.map aI), .sl 3 (x.Ledger.Frozen.map aI)], .arr w0 42 5 (x.Ledger.Reports.map aC)])) := by
 unfold nJ at h
 refine lZ Try.func44 rfl (rs := [.tmp 6, .tmp 7]) Try.results44 Try.ntmps44 (Nat.le_of_ble_eq_true rfl) ?_
 refine aG ?_
 refine aD ?_
 refine bQ rfl (eD (v := .agg (aT l_0)) (aA rfl) rfl rfl rfl) ?_
 rintro _ ⟨b1, rfl⟩
 refine tr1 rfl (aJ (v := rU cP (none : Option cE)) (aA rfl) rfl rfl) ?_
 refine tr1 rfl (aJ (v := .d (.lit (.int .i64 0))) (aA rfl) rfl rfl) ?_
 refine aF ?_
 refine aG ?_
 refine aD ?_
 refine tr1 rfl (cA (aA rfl) rfl (i := 0) rfl dI (es := (aT l_0)) rfl rfl) ?_
 obtain ⟨r2, h3, h⟩ := bind_some h
 refine bQ rfl (dQ (passed := []) (aA rfl) rfl (.func _ _ Try.call80) rfl rfl (aFb _ h3)) ?_
 rintro _ ⟨_, _, ⟨b5, w6, rfl, rfl⟩, rfl⟩
 obtain ⟨_ | y4, e7⟩ := r2
 ·have h := wT h
  refine eR (aX [0] rfl rfl (le_refl _)) ?_
  refine tr1 rfl (aB (v := .tup [.d (.lit (.pointer none)), .d (.lit (.int .i64 e7))]) (aA rfl) rfl rfl) ?_
  refine tr1 rfl (cH (aA rfl) rfl rfl) ?_
  refine tr1 rfl (cH (aA rfl) rfl rfl) ?_
  refine tr1 rfl (aJ (v := .d (.lit (.pointer none))) (aA rfl) rfl rfl) ?_
  refine tr1 rfl (aJ (v := .d (.lit (.int .i64 e7))) (aA rfl) rfl rfl) ?_
  refine aF ?_
  refine aG ?_
  refine aG ?_
  refine aD ?_
  refine tr1 rfl (aB (v := .d (.lit (.int .i64 e7))) (aA rfl) rfl rfl) ?_
  refine tr1 rfl (bB (aA rfl) rfl rfl rfl) ?_
  refine aF ?_
  refine bH rfl (fun c8 => ?_) (fun c8 => ?_)
  ·have h := aS c8 h
   refine aG ?_
   refine aD ?_
   refine tr1 rfl (aB (v := .d (.lit (.int .i64 e7))) (aA rfl) rfl rfl) ?_
   refine tr1 rfl (aJ (v := rU cP (none : Option cE)) (aA rfl) rfl rfl) ?_
   refine tr1 rfl (aJ (v := .d (.lit (.int .i64 e7))) (aA rfl) rfl rfl) ?_
   refine aF ?_
   have h := Option.some.inj h
   subst h
   exact bI ⟨rfl, _, [], [.box b1 0 (aT l_0)], _, .two (.tmp 6 (v := rU cP (none : Option cE)) rfl) (.tmp 7 (v := .d (.lit (.int .i64 e7))) rfl), .refl _, .same _, 0, undef, rfl, rfl⟩
  ·have h := aR c8 h
   refine bF ?_
   refine aG ?_
   refine aG ?_
   refine aD ?_
   refine tr1 rfl (aB (v := .d (.lit (.int .i64 player_1))) (aA rfl) rfl rfl) ?_
   refine tr1 rfl (aV (aA rfl) rfl jA) ?_
   refine tr1 rfl (aW (aA rfl) rfl (i := 0) rfl rfl bG) ?_
   refine tr1 rfl (aZ (aA rfl) rfl rfl rfl) ?_
   obtain ⟨r9, h10, h⟩ := bind_some h
   refine tr1 rfl (bY (aA rfl) (.func _ _ Try.call47) rfl rfl (BVs.refl _ _) (fI _ _ _ h10) rfl) ?_
   refine tr1 rfl (eN (aA rfl) rfl) ?_
   refine tr1 rfl (aB (v := .d (.lit (.bool (!r9)))) (aA rfl) rfl rfl) ?_
   obtain ⟨b11, h12, h⟩ := bind_some h
   refine cD 4 [8] 28 b11 ?_ ?_
   ·refine bJ (!r9) (fun c14 => ?_) (fun c14 => ?_)
    ·have h12 := aS c14 h12
     refine aU rfl rfl (aA rfl) rfl (aA rfl) rfl c14 ?_
     refine aU rfl rfl (aA rfl) rfl (aA rfl) rfl c14 ?_
     refine aU rfl rfl (aA rfl) rfl (aA rfl) rfl c14 ?_
     refine tr1 rfl (bN (v := .d (.lit (.bool true))) (aA rfl) rfl c14 rfl rfl) ?_
     have h12 := Option.some.inj h12
     subst h12
     refine aF (bC rfl ⟨rfl, trivial⟩ rfl)
    ·have h12 := aR c14 h12
     refine aM rfl rfl (aA rfl) rfl c14 (aB (v := .d (.lit (.int .i64 week_2))) (aA rfl) rfl rfl) ?_
     obtain ⟨r15, h16, h12⟩ := bind_some h12
     refine aM rfl rfl (aA rfl) rfl c14 (bY (aA rfl) (.func _ _ Try.call47) rfl rfl (BVs.refl _ _) (fI _ _ _ h16) rfl) ?_
     refine aM rfl rfl (aA rfl) rfl c14 (eN (aA rfl) rfl) ?_
     refine tr1 rfl (bO (v := .d (.lit (.bool (!r15)))) (aA rfl) rfl c14 rfl rfl) ?_
     have h12 := Option.some.inj h12
     subst h12
     refine aF (bC rfl ⟨rfl, trivial⟩ rfl)
   ·refine aF ?_
    refine bH rfl (fun c13 => ?_) (fun c13 => ?_)
    ·have h := aS c13 h
     refine aG ?_
     refine aD ?_
     refine tr1 rfl (aJ (v := rU cP (none : Option cE)) (aA rfl) rfl rfl) ?_
     refine tr1 rfl (aJ (v := .d (.lit (.int .i64 1))) (aA rfl) rfl rfl) ?_
     refine aF ?_
     have h := Option.some.inj h
     subst h
     exact bI ⟨rfl, _, [], [.box b1 0 (aT l_0)], _, .two (.tmp 6 (v := rU cP (none : Option cE)) rfl) (.tmp 7 (v := .d (.lit (.int .i64 1))) rfl), .refl _, .same _, 0, undef, rfl, rfl⟩
    ·have h := aR c13 h
     refine bF ?_
     refine aG ?_
     refine aD ?_
     refine tr1 rfl (aB (v := .d (.lit (.pointer none))) (aA rfl) rfl rfl) ?_
     refine tr1 rfl (aJ (v := .d (.lit (.pointer none))) (aA rfl) rfl rfl) ?_
     refine tr1 rfl (aJ (v := .d (.lit (.int .i64 0))) (aA rfl) rfl rfl) ?_
     refine aF ?_
     have h := Option.some.inj h
     subst h
     exact bI ⟨rfl, _, [], [.box b1 0 (aT l_0)], _, .two (.tmp 6 (v := .d (.lit (.pointer none))) rfl) (.tmp 7 (v := .d (.lit (.int .i64 0))) rfl), .refl _, .same _, 0, undef, rfl, rfl⟩
 ·have h := wU h
  refine eR (aX [0, 1, 2] rfl rfl (le_refl _)) ?_
  refine tr1 rfl (aB (v := .tup [.bp b5 0 0, .d (.lit (.int .i64 e7))]) (aA rfl) rfl rfl) ?_
  refine tr1 rfl (cH (aA rfl) rfl rfl) ?_
  refine tr1 rfl (cH (aA rfl) rfl rfl) ?_
  refine tr1 rfl (aJ (v := .bp b5 0 0) (aA rfl) rfl rfl) ?_
  refine tr1 rfl (aJ (v := .d (.lit (.int .i64 e7))) (aA rfl) rfl rfl) ?_
  refine aF ?_
  refine aG ?_
  refine aG ?_
  refine aD ?_
  refine tr1 rfl (aB (v := .d (.lit (.int .i64 e7))) (aA rfl) rfl rfl) ?_
  refine tr1 rfl (bB (aA rfl) rfl rfl rfl) ?_
  refine aF ?_
  refine bH rfl (fun c17 => ?_) (fun c17 => ?_)
  ·have h := aS c17 h
   refine aG ?_
   refine aD ?_
   refine tr1 rfl (aB (v := .d (.lit (.int .i64 e7))) (aA rfl) rfl rfl) ?_
   refine tr1 rfl (aJ (v := rU cP (none : Option cE)) (aA rfl) rfl rfl) ?_
   refine tr1 rfl (aJ (v := .d (.lit (.int .i64 e7))) (aA rfl) rfl rfl) ?_
   refine aF ?_
   have h := Option.some.inj h
   subst h
   exact bI ⟨rfl, _, [], [.box b5 0 [.lit (.int .i64 y4.Ledger.Players), .lit (.int .i64 y4.Ledger.Counts), .lit w6, .sl 3 (y4.Ledger.Bans.map aI), .sl 3 (y4.Ledger.Frozen.map aI)], .arr w6 42 5 (y4.Ledger.Reports.map aC), .box b1 0 (aT l_0)], _, .two (.tmp 6 (v := rU cP (none : Option cE)) rfl) (.tmp 7 (v := .d (.lit (.int .i64 e7))) rfl), .refl _, .same _, 0, undef, rfl, rfl⟩
  ·have h := aR c17 h
   refine bF ?_
   refine aG ?_
   refine aG ?_
   refine aD ?_
   refine tr1 rfl (aB (v := .d (.lit (.int .i64 player_1))) (aA rfl) rfl rfl) ?_
   refine tr1 rfl (aV (aA rfl) rfl jA) ?_
   refine tr1 rfl (aW (aA rfl) rfl (i := 2) rfl rfl bG) ?_
   refine tr1 rfl (aZ (aA rfl) rfl rfl rfl) ?_
   obtain ⟨r18, h19, h⟩ := bind_some h
   refine tr1 rfl (bY (aA rfl) (.func _ _ Try.call47) rfl rfl (BVs.refl _ _) (fI _ _ _ h19) rfl) ?_
   refine tr1 rfl (eN (aA rfl) rfl) ?_
   refine tr1 rfl (aB (v := .d (.lit (.bool (!r18)))) (aA rfl) rfl rfl) ?_
   obtain ⟨b20, h21, h⟩ := bind_some h
   refine cD 4 [8] 28 b20 ?_ ?_
   ·refine bJ (!r18) (fun c23 => ?_) (fun c23 => ?_)
    ·have h21 := aS c23 h21
     refine aU rfl rfl (aA rfl) rfl (aA rfl) rfl c23 ?_
     refine aU rfl rfl (aA rfl) rfl (aA rfl) rfl c23 ?_
     refine aU rfl rfl (aA rfl) rfl (aA rfl) rfl c23 ?_
     refine tr1 rfl (bN (v := .d (.lit (.bool true))) (aA rfl) rfl c23 rfl rfl) ?_
     have h21 := Option.some.inj h21
     subst h21
     refine aF (bC rfl ⟨rfl, trivial⟩ rfl)
    ·have h21 := aR c23 h21
     refine aM rfl rfl (aA rfl) rfl c23 (aB (v := .d (.lit (.int .i64 week_2))) (aA rfl) rfl rfl) ?_
     obtain ⟨r24, h25, h21⟩ := bind_some h21
     refine aM rfl rfl (aA rfl) rfl c23 (bY (aA rfl) (.func _ _ Try.call47) rfl rfl (BVs.refl _ _) (fI _ _ _ h25) rfl) ?_
     refine aM rfl rfl (aA rfl) rfl c23 (eN (aA rfl) rfl) ?_
     refine tr1 rfl (bO (v := .d (.lit (.bool (!r24)))) (aA rfl) rfl c23 rfl rfl) ?_
     have h21 := Option.some.inj h21
     subst h21
     refine aF (bC rfl ⟨rfl, trivial⟩ rfl)
   ·refine aF ?_
    refine bH rfl (fun c22 => ?_) (fun c22 => ?_)
    ·have h := aS c22 h
     refine aG ?_
     refine aD ?_
     refine tr1 rfl (aJ (v := rU cP (none : Option cE)) (aA rfl) rfl rfl) ?_
     refine tr1 rfl (aJ (v := .d (.lit (.int .i64 1))) (aA rfl) rfl rfl) ?_
     refine aF ?_
     have h := Option.some.inj h
     subst h
     exact bI ⟨rfl, _, [], [.box b5 0 [.lit (.int .i64 y4.Ledger.Players), .lit (.int .i64 y4.Ledger.Counts), .lit w6, .sl 3 (y4.Ledger.Bans.map aI), .sl 3 (y4.Ledger.Frozen.map aI)], .arr w6 42 5 (y4.Ledger.Reports.map aC), .box b1 0 (aT l_0)], _, .two (.tmp 6 (v := rU cP (none : Option cE)) rfl) (.tmp 7 (v := .d (.lit (.int .i64 1))) rfl), .refl _, .same _, 0, undef, rfl, rfl⟩
    ·have h := aR c22 h
     refine bF ?_
     refine aG ?_
     refine aD ?_
     refine tr1 rfl (aB (v := .bp b5 0 0) (aA rfl) rfl rfl) ?_
     refine tr1 rfl (aJ (v := .bp b5 0 0) (aA rfl) rfl rfl) ?_
     refine tr1 rfl (aJ (v := .d (.lit (.int .i64 0))) (aA rfl) rfl rfl) ?_
     refine aF ?_
     have h := Option.some.inj h
     subst h
     exact bI ⟨rfl, _, [.box b5 0 [.lit (.int .i64 y4.Ledger.Players), .lit (.int .i64 y4.Ledger.Counts), .lit w6, .sl 3 (y4.Ledger.Bans.map aI), .sl 3 (y4.Ledger.Frozen.map aI)], .arr w6 42 5 (y4.Ledger.Reports.map aC)], [.box b1 0 (aT l_0)], _, .two (.tmp 6 (v := .bp b5 0 0) rfl) (.tmp 7 (v := .d (.lit (.int .i64 0))) rfl), .refl _, .same _, b5, w6, rfl, rfl⟩

theorem vZ (b_0 : cE) (r_1 : aE) (week_2 : Int) {r : Int} (h : nS b_0 r_1 week_2 = some r) : Fn Try.prog 77 [.cp (cP b_0), .agg (aC r_1), .d (.lit (.int .i64 week_2))] (.d (.lit (.int .i64 r))) := by
 unfold nS at h
 refine Fn.of_tr Try.func77 rfl (rs := [.tmp 6]) Try.results77 Try.ntmps77 (Nat.le_of_ble_eq_true rfl) ?_
 refine aG ?_
 refine aD ?_
 refine bQ rfl (eD (v := .agg (aC r_1)) (aA rfl) rfl rfl rfl) ?_
 rintro _ ⟨b1, rfl⟩
 refine tr1 rfl (aJ (v := .d (.lit (.int .i64 0))) (aA rfl) rfl rfl) ?_
 refine aF ?_
 refine aG ?_
 refine aD ?_
 refine tr1 rfl (aB (v := .d (.lit (.int .i64 week_2))) (aA rfl) rfl rfl) ?_
 refine tr1 rfl (aV (aA rfl) rfl kY) ?_
 refine tr1 rfl (aW (aA rfl) rfl (i := 0) rfl rfl bG) ?_
 refine tr1 rfl (aZ (aA rfl) rfl rfl rfl) ?_
 refine tr1 rfl (aJ (v := .d (.lit (.int .i64 ((w64 (week_2 - r_1.Week)))))) (aA rfl) rfl rfl) ?_
 refine aF ?_
 refine aG ?_
 refine aG ?_
 refine aD ?_
 refine tr1 rfl (aB (v := .cp [.lit (.int .i64 b_0.Ledger.Players), .lit (.int .i64 b_0.Ledger.Counts), .sl 5 (b_0.Ledger.Reports.map aC), .sl 3 (b_0.Ledger.Bans.map aI), .sl 3 (b_0.Ledger.Frozen.map aI)]) (aA rfl) rfl rfl) ?_
 refine tr1 rfl (rB (aA rfl) rfl) ?_
 refine tr1 rfl (cC (aA rfl) rfl iO (es := [.lit (.int .i64 b_0.Ledger.Players), .lit (.int .i64 b_0.Ledger.Counts), .sl 5 (b_0.Ledger.Reports.map aC), .sl 3 (b_0.Ledger.Bans.map aI), .sl 3 (b_0.Ledger.Frozen.map aI)]) rfl) ?_
 refine tr1 rfl (cC (aA rfl) rfl kP (es := [.sl 3 (b_0.Ledger.Frozen.map aI)]) rfl) ?_
 refine tr1 rfl (bZ (aA rfl) rfl jC) ?_
 refine tr1 rfl (dB (aA rfl) rfl dY.of) ?_
 refine tr1 rfl (aB (v := .d (.lit (.int .i64 0))) (aA rfl) rfl rfl) ?_
 refine aF ?_
 refine bP ?_
 refine cJ [2, 4, 18, 19] (fun (s2 : Int × Int) => [(7, .d (.lit (.int .i64 s2.1))), (20, .d (.lit (.int .i64 s2.2)))]) (fun (s2 : Int × Int) => [.box b1 0 (aC r_1)]) (fun (k : Nat) (s2 : Int × Int) => jD week_2 b_0.Ledger.Frozen (b_0.Ledger.Frozen.length : Int) r_1 k s2.1 s2.2) (fun _ => rfl) (w64 (week_2 - r_1.Week), 0) h (aX [0] rfl rfl (aL rfl (aL rfl (aY ⟨rfl, rfl, rfl, rfl, trivial⟩)))) ?_
 rintro k3 ⟨n_0_2, t20_0_2⟩ h
 simp only [jD] at h
 refine aG ?_
 refine aD ?_
 refine tr1 rfl (bB (aA rfl) rfl rfl rfl) ?_
 refine aF ?_
 refine aG ?_
 refine bH rfl (fun c4 => ?_) (fun c4 => ?_)
 ·have h := aS c4 h
  refine bF ?_
  refine aG ?_
  refine bP ?_
  refine aG ?_
  refine aD ?_
  obtain ⟨x5, h6, h⟩ := bind_some h
  refine tr1 rfl (bM (aA rfl) rfl rfl dY.of (bK aI h6)) ?_
  refine tr1 rfl (eP (aA rfl) rfl nD (es := (aI x5)) rfl rfl) ?_
  refine bQ rfl (fF (zs := [.lit (.int .i64 0), .lit (.int .i64 0), .lit (.int .i64 0)]) (aA rfl) Try.zeroValue66 rfl rfl) ?_
  rintro _ ⟨b7, rfl⟩
  refine tr1 rfl (cF (i := 1) rfl rfl rfl rfl rfl Try.sizeOf66 rfl (aA rfl) (Nat.le_of_ble_eq_true rfl) (ds' := (aI x5)) rfl) ?_
  refine aF ?_
  refine aG ?_
  refine aD ?_
  refine tr1 rfl (aV (aA rfl) rfl kQ) ?_
  refine tr1 rfl (aW (aA rfl) rfl (i := 1) rfl rfl bG) ?_
  refine tr1 rfl (aV (aA rfl) rfl pH) ?_
  refine tr1 rfl (aW (aA rfl) rfl (i := 0) rfl rfl bG) ?_
  refine tr1 rfl (bB (aA rfl) rfl rfl rfl) ?_
  refine aF ?_
  refine bH rfl (fun c8 => ?_) (fun c8 => ?_)
  ·have h := aS c8 h
   refine aD ?_
   refine tr1 rfl (aB (v := .d (.lit (.int .i64 n_0_2))) (aA rfl) rfl rfl) ?_
   refine tr1 rfl (aV (aA rfl) rfl lA) ?_
   refine tr1 rfl (aW (aA rfl) rfl (i := 1) rfl rfl bG) ?_
   refine tr1 rfl (aB (v := .d (.lit (.int .i64 week_2))) (aA rfl) rfl rfl) ?_
   refine tr1 rfl (aDg (aA rfl) rfl rfl) ?_
   refine tr1 rfl (aV (aA rfl) rfl gO) ?_
   refine tr1 rfl (aW (aA rfl) rfl (i := 1) rfl rfl bG) ?_
   refine tr1 rfl (aV (aA rfl) rfl kY) ?_
   refine tr1 rfl (aW (aA rfl) rfl (i := 0) rfl rfl bG) ?_
   refine tr1 rfl (aZ (aA rfl) rfl rfl rfl) ?_
   refine tr1 rfl (aDf (aA rfl) rfl rfl) ?_
   refine tr1 rfl (aZ (aA rfl) rfl rfl rfl) ?_
   refine tr1 rfl (aZ (aA rfl) rfl rfl rfl) ?_
   refine tr1 rfl (aDf (aA rfl) rfl rfl) ?_
   refine tr1 rfl (aZ (aA rfl) rfl rfl rfl) ?_
   refine tr1 rfl (aJ (v := .d (.lit (.int .i64 ((w64 (n_0_2 - (max 0 (w64 ((w64 ((min x5.To week_2) - (max x5.From (w64 (r_1.Week + 1))))) + 1))))))))) (aA rfl) rfl rfl) ?_
   refine dA ?_
   refine aD ?_
   refine tr1 rfl (aZ (aA rfl) rfl rfl rfl) ?_
   refine tr1 rfl (aB (v := .d (.lit (.int .i64 ((w64 (t20_0_2 + 1)))))) (aA rfl) rfl rfl) ?_
   refine aF ?_
   exact ⟨(w64 (n_0_2 - (max 0 (w64 ((w64 ((min x5.To week_2) - (max x5.From (w64 (r_1.Week + 1))))) + 1)))), w64 (t20_0_2 + 1)), h, aX [0] rfl rfl (aL rfl (aL rfl (aY ⟨rfl, rfl, rfl, rfl, trivial⟩)))⟩
  ·have h := aR c8 h
   refine dK ?_
   refine aD ?_
   refine tr1 rfl (aZ (aA rfl) rfl rfl rfl) ?_
   refine tr1 rfl (aB (v := .d (.lit (.int .i64 ((w64 (t20_0_2 + 1)))))) (aA rfl) rfl rfl) ?_
   refine aF ?_
   exact ⟨(n_0_2, w64 (t20_0_2 + 1)), h, aX [0] rfl rfl (aL rfl (aL rfl (aY ⟨rfl, rfl, rfl, rfl, trivial⟩)))⟩
 ·have h := aR c4 h
  refine cQ ?_
  refine .inl ⟨rfl, ?_⟩
  simp only [sA] at h
  refine aG ?_
  refine aD ?_
  refine tr1 rfl (aB (v := .d (.lit (.int .i64 n_0_2))) (aA rfl) rfl rfl) ?_
  refine tr1 rfl (aJ (v := .d (.lit (.int .i64 n_0_2))) (aA rfl) rfl rfl) ?_
  refine aF ?_
  have h := Option.some.inj h
  subst h
  refine cI (bX (cB (l := [6]) ⟨rfl, trivial⟩)) ?_
  exact bI ⟨rfl, _, .one _, rfl, rfl⟩

theorem aCy (a_0 : aP) (c_1 : Int) (c_2 : Int) {r : Bool} (h : rN a_0 c_1 c_2 = some r) : Fn Try.prog 83 [.agg (aI a_0), .cp [.lit (.int .i64 c_1)], .cp [.lit (.int .i64 c_2)]] (.d (.lit (.bool r))) := by
 unfold rN at h
 refine Fn.of_tr Try.func83 rfl (rs := [.tmp 4]) Try.results83 Try.ntmps83 (Nat.le_of_ble_eq_true rfl) ?_
 refine aG ?_
 refine aD ?_
 refine bQ rfl (eD (v := .agg (aI a_0)) (aA rfl) rfl rfl rfl) ?_
 rintro _ ⟨b1, rfl⟩
 refine tr1 rfl (aJ (v := .d (.lit (.bool false))) (aA rfl) rfl rfl) ?_
 refine aF ?_
 refine aG ?_
 refine aD ?_
 refine tr1 rfl (aV (aA rfl) rfl kQ) ?_
 refine tr1 rfl (aW (aA rfl) rfl (i := 0) rfl rfl bG) ?_
 refine tr1 rfl (bZ (aA rfl) rfl bG) ?_
 refine tr1 rfl (bB (aA rfl) rfl rfl rfl) ?_
 refine tr1 rfl (aB (v := .d (.lit (.bool ((decide (a_0.Player = c_1)))))) (aA rfl) rfl rfl) ?_
 obtain ⟨b2, h3, h⟩ := bind_some h
 refine cD 7 [] 16 b2 ?_ ?_
 ·refine bJ (decide (a_0.Player = c_1)) (fun c4 => ?_) (fun c4 => ?_)
  ·have h3 := aS c4 h3
   refine aM rfl rfl (aA rfl) rfl c4 (bZ (aA rfl) rfl bG) ?_
   refine aM rfl rfl (aA rfl) rfl c4 (aV (aA rfl) rfl gO) ?_
   refine aM rfl rfl (aA rfl) rfl c4 (aW (aA rfl) rfl (i := 0) rfl rfl bG) ?_
   refine aM rfl rfl (aA rfl) rfl c4 (aV (aA rfl) rfl lA) ?_
   refine aM rfl rfl (aA rfl) rfl c4 (aW (aA rfl) rfl (i := 0) rfl rfl bG) ?_
   obtain ⟨r5, h6, h3⟩ := bind_some h3
   refine aM rfl rfl (aA rfl) rfl c4 (bY (aA rfl) (.func _ _ Try.call47) rfl rfl (BVs.refl _ _) (fI _ _ _ h6) rfl) ?_
   refine tr1 rfl (bN (v := .d (.lit (.bool r5))) (aA rfl) rfl c4 rfl rfl) ?_
   have h3 := Option.some.inj h3
   subst h3
   refine aF (bC rfl trivial rfl)
  ·have h3 := aR c4 h3
   refine aU rfl rfl (aA rfl) rfl (aA rfl) rfl c4 ?_
   refine aU rfl rfl (aA rfl) rfl (aA rfl) rfl c4 ?_
   refine aU rfl rfl (aA rfl) rfl (aA rfl) rfl c4 ?_
   refine aU rfl rfl (aA rfl) rfl (aA rfl) rfl c4 ?_
   refine aU rfl rfl (aA rfl) rfl (aA rfl) rfl c4 ?_
   refine aU rfl rfl (aA rfl) rfl (aA rfl) rfl c4 ?_
   refine tr1 rfl (bO (v := .d (.lit (.bool false))) (aA rfl) rfl c4 rfl rfl) ?_
   have h3 := Option.some.inj h3
   subst h3
   refine aF (bC rfl trivial rfl)
 ·refine tr1 rfl (aJ (v := .d (.lit (.bool b2))) (aA rfl) rfl rfl) ?_
  refine aF ?_
  have h := Option.some.inj h
  subst h
  refine cI (bX (cB (l := [4]) ⟨rfl, trivial⟩)) ?_
  exact bI ⟨rfl, _, .one _, rfl, rfl⟩

theorem wI (all_0 : List aP) (player_1 : Int) (week_2 : Int) {r : Bool} (h : oB all_0 player_1 week_2 = some r) : Fn Try.prog 48 [.d (.sl 3 (all_0.map aI)), .d (.lit (.int .i64 player_1)), .d (.lit (.int .i64 week_2))] (.d (.lit (.bool r))) := by
 unfold oB at h
 refine Fn.of_tr Try.func48 rfl (rs := [.tmp 6]) Try.results48 Try.ntmps48 (Nat.le_of_ble_eq_true rfl) ?_
 refine aG ?_
 refine aD ?_
 refine bQ rfl (eD (v := .d (.lit (.int .i64 player_1))) (aA rfl) rfl rfl rfl) ?_
 rintro _ ⟨b1, rfl⟩
 refine bQ rfl (eD (v := .d (.lit (.int .i64 week_2))) (aA rfl) rfl rfl rfl) ?_
 rintro _ ⟨b2, rfl⟩
 refine tr1 rfl (aJ (v := .d (.lit (.bool false))) (aA rfl) rfl rfl) ?_
 refine aF ?_
 refine aG ?_
 refine aD ?_
 refine tr1 rfl (aB (v := .d (.sl 3 (all_0.map aI))) (aA rfl) rfl rfl) ?_
 refine tr1 rfl (wX (aA rfl) rfl rfl) ?_
 obtain ⟨r4, h5, h⟩ := bind_some h
 refine tr1 rfl (bY (aA rfl) (.func _ _ Try.call82) rfl rfl (.cons (.same _) (.cons ((aAw (.cons ((oW 0 rfl rfl (dvc (.same _) dvn))) (.cons ((oW 1 rfl rfl (dvc (.same _) dvn))) .nil)))) .nil)) (kL _ _ 83 [.cp [.lit (.int .i64 player_1)], .cp [.lit (.int .i64 week_2)]] Try.call83 (fun _ _ h => aCy _ _ _ h) h5) rfl) ?_
 refine tr1 rfl (aJ (v := .d (.lit (.bool r4))) (aA rfl) rfl rfl) ?_
 refine aF ?_
 have h := Option.some.inj h
 subst h
 refine cI (bX (cB (l := [6]) ⟨rfl, trivial⟩)) ?_
 exact bI ⟨rfl, _, .one _, rfl, rfl⟩

theorem uK (b_0 : cE) (player_1 : Int) (week_2 : Int) {r : (List aE)} (h : mJ b_0 player_1 week_2 = some r) : Fn Try.prog 72 [.cp (cP b_0), .d (.lit (.int .i64 player_1)), .d (.lit (.int .i64 week_2))] (.d (.sl 5 (r.map aC))) := by
 unfold mJ at h
 refine Fn.of_tr Try.func72 rfl (rs := [.tmp 6]) Try.results72 Try.ntmps72 (Nat.le_of_ble_eq_true rfl) ?_
 refine aG ?_
 refine aD ?_
 refine tr1 rfl (pM 5 (aA rfl)) ?_
 refine aF ?_
 refine aG ?_
 refine aD ?_
 refine tr1 rfl (hZ 42 5 (.inl rfl) (aA rfl)) ?_
 refine aF ?_
 refine aG ?_
 refine aG ?_
 refine aD ?_
 refine tr1 rfl (aB (v := .cp [.lit (.int .i64 b_0.Ledger.Players), .lit (.int .i64 b_0.Ledger.Counts), .sl 5 (b_0.Ledger.Reports.map aC), .sl 3 (b_0.Ledger.Bans.map aI), .sl 3 (b_0.Ledger.Frozen.map aI)]) (aA rfl) rfl rfl) ?_
 refine tr1 rfl (rB (aA rfl) rfl) ?_
 refine tr1 rfl (cC (aA rfl) rfl iO (es := [.lit (.int .i64 b_0.Ledger.Players), .lit (.int .i64 b_0.Ledger.Counts), .sl 5 (b_0.Ledger.Reports.map aC), .sl 3 (b_0.Ledger.Bans.map aI), .sl 3 (b_0.Ledger.Frozen.map aI)]) rfl) ?_
 refine tr1 rfl (cC (aA rfl) rfl eK (es := [.sl 5 (b_0.Ledger.Reports.map aC)]) rfl) ?_
 refine tr1 rfl (bZ (aA rfl) rfl jB) ?_
 refine tr1 rfl (dB (aA rfl) rfl bR.of) ?_
 refine tr1 rfl (aB (v := .d (.lit (.int .i64 0))) (aA rfl) rfl rfl) ?_
 refine aF ?_
 refine bP ?_
 refine cJ [0, 1, 2, 14, 15] (fun (s2 : Int × (List aE) × Value) => [(7, .d (.lit s2.2.2)), (16, .d (.lit (.int .i64 s2.1)))]) (fun (s2 : Int × (List aE) × Value) => [.arr s2.2.2 42 5 (s2.2.1.map aC)]) (fun (k : Nat) (s2 : Int × (List aE) × Value) => hY b_0 player_1 week_2 b_0.Ledger.Reports (b_0.Ledger.Reports.length : Int) k s2.1 s2.2.1) (fun _ => rfl) (0, ([] : List aE), (.slice none 0 0)) h (aX [0] rfl rfl (aL rfl (aL rfl (aY ⟨rfl, rfl, rfl, rfl, rfl, trivial⟩)))) ?_
 rintro k4 ⟨t16_0_2, out_0_2, w3⟩ h
 simp only [hY] at h
 refine aG ?_
 refine aD ?_
 refine tr1 rfl (bB (aA rfl) rfl rfl rfl) ?_
 refine aF ?_
 refine aG ?_
 refine bH rfl (fun c5 => ?_) (fun c5 => ?_)
 ·have h := aS c5 h
  refine bF ?_
  refine aG ?_
  refine bP ?_
  refine aG ?_
  refine aD ?_
  obtain ⟨x6, h7, h⟩ := bind_some h
  refine tr1 rfl (bM (aA rfl) rfl rfl bR.of (bK aC h7)) ?_
  refine tr1 rfl (eP (aA rfl) rfl dW (es := (aC x6)) rfl rfl) ?_
  refine bQ rfl (fF (zs := [.lit (.int .i64 0), .lit (.int .i64 0), .lit (.int .i64 0), .lit (.int .i64 0), .lit (.bool false)]) (aA rfl) Try.zeroValue42 rfl rfl) ?_
  rintro _ ⟨b8, rfl⟩
  refine tr1 rfl (cF (i := 1) rfl rfl rfl rfl rfl Try.sizeOf42 rfl (aA rfl) (Nat.le_of_ble_eq_true rfl) (ds' := (aC x6)) rfl) ?_
  refine aF ?_
  refine aG ?_
  obtain ⟨b9, h10, h⟩ := bind_some h
  obtain ⟨b12, h13, h⟩ := bind_some h
  obtain ⟨b17, h18, h⟩ := bind_some h
  refine fD mix 29 [0, 1, 2, 7, 9, 14, 15, 16] [(48, .d (.lit (.bool b17)))] ?_ ?_
  ·refine bJ (decide (x6.Player = player_1)) (fun c11 => ?_) (fun c11 => ?_)
   ·have h10 := aS c11 h10
    have h10 := Option.some.inj h10
    subst h10
    refine bJ (decide (x6.Week ≤ week_2)) (fun c14 => ?_) (fun c14 => ?_)
    ·have h13 := aS c14 h13
     obtain ⟨r15, h16, h13⟩ := bind_some h13
     have h13 := Option.some.inj h13
     subst h13
     refine bJ (decide (r15 < 52)) (fun c19 => ?_) (fun c19 => ?_)
     ·have h18 := aS c19 h18
      obtain ⟨r20, h21, h18⟩ := bind_some h18
      have h18 := Option.some.inj h18
      subst h18
      refine ⟨[(20, 0, .bp b8 0 1), (21, 1, .d (.lit (.int .i64 x6.Player))), (22, 2, .d (.lit (.int .i64 player_1))), (23, 3, .d (.lit (.bool ((decide (x6.Player = player_1)))))), (24, 4, .d (.lit (.bool ((decide (x6.Player = player_1)))))), (25, 5, .bp b8 0 2), (26, 6, .d (.lit (.int .i64 x6.Week))), (27, 7, .d (.lit (.int .i64 week_2))), (28, 8, .d (.lit (.bool ((decide (x6.Week ≤ week_2)))))), (29, 9, .d (.lit (.bool ((decide (x6.Week ≤ week_2)))))), (30, 10, .d (.lit (.bool (decide (x6.Week ≤ week_2))))), (31, 11, .cp [.lit (.int .i64 b_0.Ledger.Players), .lit (.int .i64 b_0.Ledger.Counts), .sl 5 (b_0.Ledger.Reports.map aC), .sl 3 (b_0.Ledger.Bans.map aI), .sl 3 (b_0.Ledger.Frozen.map aI)]), (32, 12, .agg (aC x6)), (33, 13, .d (.lit (.int .i64 week_2))), (34, 14, .d (.lit (.int .i64 r15))), (35, 15, .d (.lit (.bool ((decide (r15 < 52)))))), (36, 16, .d (.lit (.bool ((decide (r15 < 52)))))), (37, 17, .d (.lit (.bool (decide (r15 < 52))))), (38, 18, .cp [.lit (.int .i64 b_0.Ledger.Players), .lit (.int .i64 b_0.Ledger.Counts), .sl 5 (b_0.Ledger.Reports.map aC), .sl 3 (b_0.Ledger.Bans.map aI), .sl 3 (b_0.Ledger.Frozen.map aI)]), (39, 19, .cp [.lit (.int .i64 b_0.Ledger.Players), .lit (.int .i64 b_0.Ledger.Counts), .sl 5 (b_0.Ledger.Reports.map aC), .sl 3 (b_0.Ledger.Bans.map aI), .sl 3 (b_0.Ledger.Frozen.map aI)]), (40, 20, .cp [.lit (.int .i64 b_0.Ledger.Players), .lit (.int .i64 b_0.Ledger.Counts), .sl 5 (b_0.Ledger.Reports.map aC), .sl 3 (b_0.Ledger.Bans.map aI), .sl 3 (b_0.Ledger.Frozen.map aI)]), (41, 21, .cp [.sl 3 (b_0.Ledger.Bans.map aI)]), (42, 22, .d (.sl 3 (b_0.Ledger.Bans.map aI))), (43, 23, .d (.lit (.int .i64 player_1))), (44, 24, .bp b8 0 2), (45, 25, .d (.lit (.int .i64 x6.Week))), (46, 26, .d (.lit (.bool r20))), (47, 27, .d (.lit (.bool (!r20)))), (48, 28, .d (.lit (.bool (!r20))))], ?_, ?_⟩
      · exact ⟨by kernel_rfl, by kernel_rfl, by kernel_rfl, by kernel_rfl, by kernel_rfl, [([], []), ([0], []), ([], []), ([1, 2], []), ([3], []), ([4], []), ([4, 5], []), ([4], []), ([4, 6, 7], []), ([4, 8], []), ([9], []), ([10], []), ([10], []), ([10], []), ([10, 11, 12, 13], []), ([10, 14], []), ([10, 15], []), ([16], []), ([17], []), ([17, 18], []), ([17, 19], []), ([17, 20], []), ([17, 21], []), ([17], []), ([17], []), ([17, 24], []), ([17, 22, 23, 25], []), ([17, 26], []), ([17, 27], [])], by kernel_rfl, ⟨fun S hS => aK rfl (aQ rfl (aV (aA rfl) (aH hS rfl) pH)),
      fun S hS => aK rfl (aQ rfl (aW (aA rfl) (aH hS rfl) (i := 1) rfl rfl bG)),
      fun S hS => aK rfl (aQ rfl (aB (v := .d (.lit (.int .i64 player_1))) (aA rfl) (aH hS rfl) rfl)),
      fun S hS => aK rfl (aQ rfl (bB (aA rfl) (aH hS rfl) (aH hS rfl) rfl)),
      fun S hS => aK rfl (aQ rfl (aB (v := .d (.lit (.bool ((decide (x6.Player = player_1)))))) (aA rfl) (aH hS rfl) rfl)),
      fun S hS => aK rfl (bA rfl rfl (aA rfl) (aO hS rfl) c11 (aV (aA rfl) (aH hS rfl) kY)),
      fun S hS => aK rfl (bA rfl rfl (aA rfl) (aO hS rfl) c11 (aW (aA rfl) (aH hS rfl) (i := 1) rfl rfl bG)),
      fun S hS => aK rfl (bA rfl rfl (aA rfl) (aO hS rfl) c11 (aB (v := .d (.lit (.int .i64 week_2))) (aA rfl) (aH hS rfl) rfl)),
      fun S hS => aK rfl (bA rfl rfl (aA rfl) (aO hS rfl) c11 (bB (aA rfl) (aH hS rfl) (aH hS rfl) rfl)),
      fun S hS => aK rfl (aQ rfl (bN (v := .d (.lit (.bool ((decide (x6.Week ≤ week_2)))))) (aA rfl) (aH hS rfl) c11 (aH hS rfl) rfl)),
      fun S hS => aK rfl (aQ rfl (aB (v := .d (.lit (.bool (decide (x6.Week ≤ week_2))))) (aA rfl) (aH hS rfl) rfl)),
      fun S hS => aK rfl (bA rfl rfl (aA rfl) (aO hS rfl) c14 (aB (v := .cp [.lit (.int .i64 b_0.Ledger.Players), .lit (.int .i64 b_0.Ledger.Counts), .sl 5 (b_0.Ledger.Reports.map aC), .sl 3 (b_0.Ledger.Bans.map aI), .sl 3 (b_0.Ledger.Frozen.map aI)]) (aA rfl) (aH hS rfl) rfl)),
      fun S hS => aK rfl (bA rfl rfl (aA rfl) (aO hS rfl) c14 (cA (aA rfl) (aH hS rfl) (i := 1) rfl dW (es := (aC x6)) rfl rfl)),
      fun S hS => aK rfl (bA rfl rfl (aA rfl) (aO hS rfl) c14 (aB (v := .d (.lit (.int .i64 week_2))) (aA rfl) (aH hS rfl) rfl)),
      fun S hS => aK rfl (bA rfl rfl (aA rfl) (aO hS rfl) c14 (bY (aA rfl) (.func _ _ Try.call77) (ev2 (aH hS rfl) (ev2 (aH hS rfl) (ev2 (aH hS rfl) evn))) rfl (BVs.refl _ _) (vZ _ _ _ h16) rfl)),
      fun S hS => aK rfl (bA rfl rfl (aA rfl) (aO hS rfl) c14 (bB (aA rfl) (aH hS rfl) rfl rfl)),
      fun S hS => aK rfl (aQ rfl (bN (v := .d (.lit (.bool ((decide (r15 < 52)))))) (aA rfl) (aH hS rfl) c14 (aH hS rfl) rfl)),
      fun S hS => aK rfl (aQ rfl (aB (v := .d (.lit (.bool (decide (r15 < 52))))) (aA rfl) (aH hS rfl) rfl)),
      fun S hS => aK rfl (bA rfl rfl (aA rfl) (aO hS rfl) c19 (aB (v := .cp [.lit (.int .i64 b_0.Ledger.Players), .lit (.int .i64 b_0.Ledger.Counts), .sl 5 (b_0.Ledger.Reports.map aC), .sl 3 (b_0.Ledger.Bans.map aI), .sl 3 (b_0.Ledger.Frozen.map aI)]) (aA rfl) (aH hS rfl) rfl)),
      fun S hS => aK rfl (bA rfl rfl (aA rfl) (aO hS rfl) c19 (rB (aA rfl) (aH hS rfl))),
      fun S hS => aK rfl (bA rfl rfl (aA rfl) (aO hS rfl) c19 (cC (aA rfl) (aH hS rfl) iO (es := [.lit (.int .i64 b_0.Ledger.Players), .lit (.int .i64 b_0.Ledger.Counts), .sl 5 (b_0.Ledger.Reports.map aC), .sl 3 (b_0.Ledger.Bans.map aI), .sl 3 (b_0.Ledger.Frozen.map aI)]) rfl)),
      fun S hS => aK rfl (bA rfl rfl (aA rfl) (aO hS rfl) c19 (cC (aA rfl) (aH hS rfl) oR (es := [.sl 3 (b_0.Ledger.Bans.map aI)]) rfl)),
      fun S hS => aK rfl (bA rfl rfl (aA rfl) (aO hS rfl) c19 (bZ (aA rfl) (aH hS rfl) jC)),
      fun S hS => aK rfl (bA rfl rfl (aA rfl) (aO hS rfl) c19 (aB (v := .d (.lit (.int .i64 player_1))) (aA rfl) (aH hS rfl) rfl)),
      fun S hS => aK rfl (bA rfl rfl (aA rfl) (aO hS rfl) c19 (aV (aA rfl) (aH hS rfl) kY)),
      fun S hS => aK rfl (bA rfl rfl (aA rfl) (aO hS rfl) c19 (aW (aA rfl) (aH hS rfl) (i := 1) rfl rfl bG)),
      fun S hS => aK rfl (bA rfl rfl (aA rfl) (aO hS rfl) c19 (bY (aA rfl) (.func _ _ Try.call48) (ev2 (aH hS rfl) (ev2 (aH hS rfl) (ev2 (aH hS rfl) evn))) rfl (BVs.refl _ _) (wI _ _ _ h21) rfl)),
      fun S hS => aK rfl (bA rfl rfl (aA rfl) (aO hS rfl) c19 (eN (aA rfl) (aH hS rfl))),
      fun S hS => aK rfl (aQ rfl (bN (v := .d (.lit (.bool (!r20)))) (aA rfl) (aH hS rfl) c19 (aH hS rfl) rfl)), trivial⟩⟩
      · exact dJ (aL rfl (aY ⟨rfl, rfl, rfl, rfl, rfl, rfl, rfl, rfl, trivial⟩))
     ·have h18 := aR c19 h18
      have h18 := Option.some.inj h18
      subst h18
      refine ⟨[(20, 0, .bp b8 0 1), (21, 1, .d (.lit (.int .i64 x6.Player))), (22, 2, .d (.lit (.int .i64 player_1))), (23, 3, .d (.lit (.bool ((decide (x6.Player = player_1)))))), (24, 4, .d (.lit (.bool ((decide (x6.Player = player_1)))))), (25, 5, .bp b8 0 2), (26, 6, .d (.lit (.int .i64 x6.Week))), (27, 7, .d (.lit (.int .i64 week_2))), (28, 8, .d (.lit (.bool ((decide (x6.Week ≤ week_2)))))), (29, 9, .d (.lit (.bool ((decide (x6.Week ≤ week_2)))))), (30, 10, .d (.lit (.bool (decide (x6.Week ≤ week_2))))), (31, 11, .cp [.lit (.int .i64 b_0.Ledger.Players), .lit (.int .i64 b_0.Ledger.Counts), .sl 5 (b_0.Ledger.Reports.map aC), .sl 3 (b_0.Ledger.Bans.map aI), .sl 3 (b_0.Ledger.Frozen.map aI)]), (32, 12, .agg (aC x6)), (33, 13, .d (.lit (.int .i64 week_2))), (34, 14, .d (.lit (.int .i64 r15))), (35, 15, .d (.lit (.bool ((decide (r15 < 52)))))), (36, 16, .d (.lit (.bool ((decide (r15 < 52)))))), (37, 17, .d (.lit (.bool (decide (r15 < 52))))), (38, 18, .tup []), (39, 19, .tup []), (40, 20, .tup []), (41, 21, .tup []), (42, 22, .tup []), (43, 23, .tup []), (44, 24, .tup []), (45, 25, .tup []), (46, 26, .tup []), (47, 27, .tup []), (48, 28, .d (.lit (.bool false)))], ?_, ?_⟩
      · exact ⟨by kernel_rfl, by kernel_rfl, by kernel_rfl, by kernel_rfl, by kernel_rfl, [([], []), ([0], []), ([], []), ([1, 2], []), ([3], []), ([4], []), ([4, 5], []), ([4], []), ([4, 6, 7], []), ([4, 8], []), ([9], []), ([10], []), ([10], []), ([10], []), ([10, 11, 12, 13], []), ([10, 14], []), ([10, 15], []), ([16], []), ([17], []), ([17, 18], []), ([17, 19], []), ([17, 20], []), ([17, 21], []), ([17], []), ([17], []), ([17, 24], []), ([17, 22, 23, 25], []), ([17, 26], []), ([17, 27], [])], by kernel_rfl, ⟨fun S hS => aK rfl (aQ rfl (aV (aA rfl) (aH hS rfl) pH)),
      fun S hS => aK rfl (aQ rfl (aW (aA rfl) (aH hS rfl) (i := 1) rfl rfl bG)),
      fun S hS => aK rfl (aQ rfl (aB (v := .d (.lit (.int .i64 player_1))) (aA rfl) (aH hS rfl) rfl)),
      fun S hS => aK rfl (aQ rfl (bB (aA rfl) (aH hS rfl) (aH hS rfl) rfl)),
      fun S hS => aK rfl (aQ rfl (aB (v := .d (.lit (.bool ((decide (x6.Player = player_1)))))) (aA rfl) (aH hS rfl) rfl)),
      fun S hS => aK rfl (bA rfl rfl (aA rfl) (aO hS rfl) c11 (aV (aA rfl) (aH hS rfl) kY)),
      fun S hS => aK rfl (bA rfl rfl (aA rfl) (aO hS rfl) c11 (aW (aA rfl) (aH hS rfl) (i := 1) rfl rfl bG)),
      fun S hS => aK rfl (bA rfl rfl (aA rfl) (aO hS rfl) c11 (aB (v := .d (.lit (.int .i64 week_2))) (aA rfl) (aH hS rfl) rfl)),
      fun S hS => aK rfl (bA rfl rfl (aA rfl) (aO hS rfl) c11 (bB (aA rfl) (aH hS rfl) (aH hS rfl) rfl)),
      fun S hS => aK rfl (aQ rfl (bN (v := .d (.lit (.bool ((decide (x6.Week ≤ week_2)))))) (aA rfl) (aH hS rfl) c11 (aH hS rfl) rfl)),
      fun S hS => aK rfl (aQ rfl (aB (v := .d (.lit (.bool (decide (x6.Week ≤ week_2))))) (aA rfl) (aH hS rfl) rfl)),
      fun S hS => aK rfl (bA rfl rfl (aA rfl) (aO hS rfl) c14 (aB (v := .cp [.lit (.int .i64 b_0.Ledger.Players), .lit (.int .i64 b_0.Ledger.Counts), .sl 5 (b_0.Ledger.Reports.map aC), .sl 3 (b_0.Ledger.Bans.map aI), .sl 3 (b_0.Ledger.Frozen.map aI)]) (aA rfl) (aH hS rfl) rfl)),
      fun S hS => aK rfl (bA rfl rfl (aA rfl) (aO hS rfl) c14 (cA (aA rfl) (aH hS rfl) (i := 1) rfl dW (es := (aC x6)) rfl rfl)),
      fun S hS => aK rfl (bA rfl rfl (aA rfl) (aO hS rfl) c14 (aB (v := .d (.lit (.int .i64 week_2))) (aA rfl) (aH hS rfl) rfl)),
      fun S hS => aK rfl (bA rfl rfl (aA rfl) (aO hS rfl) c14 (bY (aA rfl) (.func _ _ Try.call77) (ev2 (aH hS rfl) (ev2 (aH hS rfl) (ev2 (aH hS rfl) evn))) rfl (BVs.refl _ _) (vZ _ _ _ h16) rfl)),
      fun S hS => aK rfl (bA rfl rfl (aA rfl) (aO hS rfl) c14 (bB (aA rfl) (aH hS rfl) rfl rfl)),
      fun S hS => aK rfl (aQ rfl (bN (v := .d (.lit (.bool ((decide (r15 < 52)))))) (aA rfl) (aH hS rfl) c14 (aH hS rfl) rfl)),
      fun S hS => aK rfl (aQ rfl (aB (v := .d (.lit (.bool (decide (r15 < 52))))) (aA rfl) (aH hS rfl) rfl)),
      fun S hS => aK rfl (bD rfl rfl (aA rfl) rfl (aA rfl) (aO hS rfl) c19),
      fun S hS => aK rfl (bD rfl rfl (aA rfl) rfl (aA rfl) (aO hS rfl) c19),
      fun S hS => aK rfl (bD rfl rfl (aA rfl) rfl (aA rfl) (aO hS rfl) c19),
      fun S hS => aK rfl (bD rfl rfl (aA rfl) rfl (aA rfl) (aO hS rfl) c19),
      fun S hS => aK rfl (bD rfl rfl (aA rfl) rfl (aA rfl) (aO hS rfl) c19),
      fun S hS => aK rfl (bD rfl rfl (aA rfl) rfl (aA rfl) (aO hS rfl) c19),
      fun S hS => aK rfl (bD rfl rfl (aA rfl) rfl (aA rfl) (aO hS rfl) c19),
      fun S hS => aK rfl (bD rfl rfl (aA rfl) rfl (aA rfl) (aO hS rfl) c19),
      fun S hS => aK rfl (bD rfl rfl (aA rfl) rfl (aA rfl) (aO hS rfl) c19),
      fun S hS => aK rfl (bD rfl rfl (aA rfl) rfl (aA rfl) (aO hS rfl) c19),
      fun S hS => aK rfl (aQ rfl (bO (v := .d (.lit (.bool false))) (aA rfl) (aH hS rfl) c19 rfl rfl)), trivial⟩⟩
      · exact dJ (aL rfl (aY ⟨rfl, rfl, rfl, rfl, rfl, rfl, rfl, rfl, trivial⟩))
    ·have h13 := aR c14 h13
     have h13 := Option.some.inj h13
     subst h13
     have c19 : false = false := rfl
     have h18 := aR c19 h18
     have h18 := Option.some.inj h18
     subst h18
     refine ⟨[(20, 0, .bp b8 0 1), (21, 1, .d (.lit (.int .i64 x6.Player))), (22, 2, .d (.lit (.int .i64 player_1))), (23, 3, .d (.lit (.bool ((decide (x6.Player = player_1)))))), (24, 4, .d (.lit (.bool ((decide (x6.Player = player_1)))))), (25, 5, .bp b8 0 2), (26, 6, .d (.lit (.int .i64 x6.Week))), (27, 7, .d (.lit (.int .i64 week_2))), (28, 8, .d (.lit (.bool ((decide (x6.Week ≤ week_2)))))), (29, 9, .d (.lit (.bool ((decide (x6.Week ≤ week_2)))))), (30, 10, .d (.lit (.bool (decide (x6.Week ≤ week_2))))), (31, 11, .tup []), (32, 12, .tup []), (33, 13, .tup []), (34, 14, .tup []), (35, 15, .tup []), (36, 16, .d (.lit (.bool false))), (37, 17, .d (.lit (.bool (false)))), (38, 18, .tup []), (39, 19, .tup []), (40, 20, .tup []), (41, 21, .tup []), (42, 22, .tup []), (43, 23, .tup []), (44, 24, .tup []), (45, 25, .tup []), (46, 26, .tup []), (47, 27, .tup []), (48, 28, .d (.lit (.bool false)))], ?_, ?_⟩
     · exact ⟨by kernel_rfl, by kernel_rfl, by kernel_rfl, by kernel_rfl, by kernel_rfl, [([], []), ([0], []), ([], []), ([1, 2], []), ([3], []), ([4], []), ([4, 5], []), ([4], []), ([4, 6, 7], []), ([4, 8], []), ([9], []), ([10], []), ([10], []), ([10], []), ([10, 11, 12, 13], []), ([10, 14], []), ([10, 15], []), ([16], []), ([17], []), ([17, 18], []), ([17, 19], []), ([17, 20], []), ([17, 21], []), ([17], []), ([17], []), ([17, 24], []), ([17, 22, 23, 25], []), ([17, 26], []), ([17, 27], [])], by kernel_rfl, ⟨fun S hS => aK rfl (aQ rfl (aV (aA rfl) (aH hS rfl) pH)),
      fun S hS => aK rfl (aQ rfl (aW (aA rfl) (aH hS rfl) (i := 1) rfl rfl bG)),
      fun S hS => aK rfl (aQ rfl (aB (v := .d (.lit (.int .i64 player_1))) (aA rfl) (aH hS rfl) rfl)),
      fun S hS => aK rfl (aQ rfl (bB (aA rfl) (aH hS rfl) (aH hS rfl) rfl)),
      fun S hS => aK rfl (aQ rfl (aB (v := .d (.lit (.bool ((decide (x6.Player = player_1)))))) (aA rfl) (aH hS rfl) rfl)),
      fun S hS => aK rfl (bA rfl rfl (aA rfl) (aO hS rfl) c11 (aV (aA rfl) (aH hS rfl) kY)),
      fun S hS => aK rfl (bA rfl rfl (aA rfl) (aO hS rfl) c11 (aW (aA rfl) (aH hS rfl) (i := 1) rfl rfl bG)),
      fun S hS => aK rfl (bA rfl rfl (aA rfl) (aO hS rfl) c11 (aB (v := .d (.lit (.int .i64 week_2))) (aA rfl) (aH hS rfl) rfl)),
      fun S hS => aK rfl (bA rfl rfl (aA rfl) (aO hS rfl) c11 (bB (aA rfl) (aH hS rfl) (aH hS rfl) rfl)),
      fun S hS => aK rfl (aQ rfl (bN (v := .d (.lit (.bool ((decide (x6.Week ≤ week_2)))))) (aA rfl) (aH hS rfl) c11 (aH hS rfl) rfl)),
      fun S hS => aK rfl (aQ rfl (aB (v := .d (.lit (.bool (decide (x6.Week ≤ week_2))))) (aA rfl) (aH hS rfl) rfl)),
      fun S hS => aK rfl (bD rfl rfl (aA rfl) rfl (aA rfl) (aO hS rfl) c14),
      fun S hS => aK rfl (bD rfl rfl (aA rfl) rfl (aA rfl) (aO hS rfl) c14),
      fun S hS => aK rfl (bD rfl rfl (aA rfl) rfl (aA rfl) (aO hS rfl) c14),
      fun S hS => aK rfl (bD rfl rfl (aA rfl) rfl (aA rfl) (aO hS rfl) c14),
      fun S hS => aK rfl (bD rfl rfl (aA rfl) rfl (aA rfl) (aO hS rfl) c14),
      fun S hS => aK rfl (aQ rfl (bO (v := .d (.lit (.bool false))) (aA rfl) (aH hS rfl) c14 rfl rfl)),
      fun S hS => aK rfl (aQ rfl (aB (v := .d (.lit (.bool (false)))) (aA rfl) (aH hS rfl) rfl)),
      fun S hS => aK rfl (bD rfl rfl (aA rfl) rfl (aA rfl) (aO hS rfl) c19),
      fun S hS => aK rfl (bD rfl rfl (aA rfl) rfl (aA rfl) (aO hS rfl) c19),
      fun S hS => aK rfl (bD rfl rfl (aA rfl) rfl (aA rfl) (aO hS rfl) c19),
      fun S hS => aK rfl (bD rfl rfl (aA rfl) rfl (aA rfl) (aO hS rfl) c19),
      fun S hS => aK rfl (bD rfl rfl (aA rfl) rfl (aA rfl) (aO hS rfl) c19),
      fun S hS => aK rfl (bD rfl rfl (aA rfl) rfl (aA rfl) (aO hS rfl) c19),
      fun S hS => aK rfl (bD rfl rfl (aA rfl) rfl (aA rfl) (aO hS rfl) c19),
      fun S hS => aK rfl (bD rfl rfl (aA rfl) rfl (aA rfl) (aO hS rfl) c19),
      fun S hS => aK rfl (bD rfl rfl (aA rfl) rfl (aA rfl) (aO hS rfl) c19),
      fun S hS => aK rfl (bD rfl rfl (aA rfl) rfl (aA rfl) (aO hS rfl) c19),
      fun S hS => aK rfl (aQ rfl (bO (v := .d (.lit (.bool false))) (aA rfl) (aH hS rfl) c19 rfl rfl)), trivial⟩⟩
     · exact dJ (aL rfl (aY ⟨rfl, rfl, rfl, rfl, rfl, rfl, rfl, rfl, trivial⟩))
   ·have h10 := aR c11 h10
    have h10 := Option.some.inj h10
    subst h10
    have c14 : false = false := rfl
    have h13 := aR c14 h13
    have h13 := Option.some.inj h13
    subst h13
    have c19 : false = false := rfl
    have h18 := aR c19 h18
    have h18 := Option.some.inj h18
    subst h18
    refine ⟨[(20, 0, .bp b8 0 1), (21, 1, .d (.lit (.int .i64 x6.Player))), (22, 2, .d (.lit (.int .i64 player_1))), (23, 3, .d (.lit (.bool ((decide (x6.Player = player_1)))))), (24, 4, .d (.lit (.bool ((decide (x6.Player = player_1)))))), (25, 5, .tup []), (26, 6, .tup []), (27, 7, .tup []), (28, 8, .tup []), (29, 9, .d (.lit (.bool false))), (30, 10, .d (.lit (.bool (false)))), (31, 11, .tup []), (32, 12, .tup []), (33, 13, .tup []), (34, 14, .tup []), (35, 15, .tup []), (36, 16, .d (.lit (.bool false))), (37, 17, .d (.lit (.bool (false)))), (38, 18, .tup []), (39, 19, .tup []), (40, 20, .tup []), (41, 21, .tup []), (42, 22, .tup []), (43, 23, .tup []), (44, 24, .tup []), (45, 25, .tup []), (46, 26, .tup []), (47, 27, .tup []), (48, 28, .d (.lit (.bool false)))], ?_, ?_⟩
    · exact ⟨by kernel_rfl, by kernel_rfl, by kernel_rfl, by kernel_rfl, by kernel_rfl, [([], []), ([0], []), ([], []), ([1, 2], []), ([3], []), ([4], []), ([4, 5], []), ([4], []), ([4, 6, 7], []), ([4, 8], []), ([9], []), ([10], []), ([10], []), ([10], []), ([10, 11, 12, 13], []), ([10, 14], []), ([10, 15], []), ([16], []), ([17], []), ([17, 18], []), ([17, 19], []), ([17, 20], []), ([17, 21], []), ([17], []), ([17], []), ([17, 24], []), ([17, 22, 23, 25], []), ([17, 26], []), ([17, 27], [])], by kernel_rfl, ⟨fun S hS => aK rfl (aQ rfl (aV (aA rfl) (aH hS rfl) pH)),
      fun S hS => aK rfl (aQ rfl (aW (aA rfl) (aH hS rfl) (i := 1) rfl rfl bG)),
      fun S hS => aK rfl (aQ rfl (aB (v := .d (.lit (.int .i64 player_1))) (aA rfl) (aH hS rfl) rfl)),
      fun S hS => aK rfl (aQ rfl (bB (aA rfl) (aH hS rfl) (aH hS rfl) rfl)),
      fun S hS => aK rfl (aQ rfl (aB (v := .d (.lit (.bool ((decide (x6.Player = player_1)))))) (aA rfl) (aH hS rfl) rfl)),
      fun S hS => aK rfl (bD rfl rfl (aA rfl) rfl (aA rfl) (aO hS rfl) c11),
      fun S hS => aK rfl (bD rfl rfl (aA rfl) rfl (aA rfl) (aO hS rfl) c11),
      fun S hS => aK rfl (bD rfl rfl (aA rfl) rfl (aA rfl) (aO hS rfl) c11),
      fun S hS => aK rfl (bD rfl rfl (aA rfl) rfl (aA rfl) (aO hS rfl) c11),
      fun S hS => aK rfl (aQ rfl (bO (v := .d (.lit (.bool false))) (aA rfl) (aH hS rfl) c11 rfl rfl)),
      fun S hS => aK rfl (aQ rfl (aB (v := .d (.lit (.bool (false)))) (aA rfl) (aH hS rfl) rfl)),
      fun S hS => aK rfl (bD rfl rfl (aA rfl) rfl (aA rfl) (aO hS rfl) c14),
      fun S hS => aK rfl (bD rfl rfl (aA rfl) rfl (aA rfl) (aO hS rfl) c14),
      fun S hS => aK rfl (bD rfl rfl (aA rfl) rfl (aA rfl) (aO hS rfl) c14),
      fun S hS => aK rfl (bD rfl rfl (aA rfl) rfl (aA rfl) (aO hS rfl) c14),
      fun S hS => aK rfl (bD rfl rfl (aA rfl) rfl (aA rfl) (aO hS rfl) c14),
      fun S hS => aK rfl (aQ rfl (bO (v := .d (.lit (.bool false))) (aA rfl) (aH hS rfl) c14 rfl rfl)),
      fun S hS => aK rfl (aQ rfl (aB (v := .d (.lit (.bool (false)))) (aA rfl) (aH hS rfl) rfl)),
      fun S hS => aK rfl (bD rfl rfl (aA rfl) rfl (aA rfl) (aO hS rfl) c19),
      fun S hS => aK rfl (bD rfl rfl (aA rfl) rfl (aA rfl) (aO hS rfl) c19),
      fun S hS => aK rfl (bD rfl rfl (aA rfl) rfl (aA rfl) (aO hS rfl) c19),
      fun S hS => aK rfl (bD rfl rfl (aA rfl) rfl (aA rfl) (aO hS rfl) c19),
      fun S hS => aK rfl (bD rfl rfl (aA rfl) rfl (aA rfl) (aO hS rfl) c19),
      fun S hS => aK rfl (bD rfl rfl (aA rfl) rfl (aA rfl) (aO hS rfl) c19),
      fun S hS => aK rfl (bD rfl rfl (aA rfl) rfl (aA rfl) (aO hS rfl) c19),
      fun S hS => aK rfl (bD rfl rfl (aA rfl) rfl (aA rfl) (aO hS rfl) c19),
      fun S hS => aK rfl (bD rfl rfl (aA rfl) rfl (aA rfl) (aO hS rfl) c19),
      fun S hS => aK rfl (bD rfl rfl (aA rfl) rfl (aA rfl) (aO hS rfl) c19),
      fun S hS => aK rfl (aQ rfl (bO (v := .d (.lit (.bool false))) (aA rfl) (aH hS rfl) c19 rfl rfl)), trivial⟩⟩
    · exact dJ (aL rfl (aY ⟨rfl, rfl, rfl, rfl, rfl, rfl, rfl, rfl, trivial⟩))
  ·refine aF ?_
   refine bH rfl (fun c22 => ?_) (fun c22 => ?_)
   ·have h := aS c22 h
    refine aD ?_
    refine tr1 rfl (aB (v := .d (.lit w3)) (aA rfl) rfl rfl) ?_
    refine tr1 rfl (cA (aA rfl) rfl (i := 1) rfl dW (es := (aC x6)) rfl rfl) ?_
    refine tr1 rfl (jT (aA rfl) bR rfl rfl (rows := ([x6]).map aC) rfl (cT (f := aC) fun _ => rfl) rfl (by decide)) ?_
    obtain ⟨x23, h24, h⟩ := bind_some h
    refine bQ rfl (kC (i := 0) (aA rfl) bR rfl rfl rfl (fun _ => rfl) h24 rfl) ?_
    rintro _ ⟨v25, rfl⟩
    refine tr1 rfl (aJ (v := .d (.lit v25)) (aA rfl) rfl rfl) ?_
    refine dA ?_
    refine aD ?_
    refine tr1 rfl (aZ (aA rfl) rfl rfl rfl) ?_
    refine tr1 rfl (aB (v := .d (.lit (.int .i64 ((w64 (t16_0_2 + 1)))))) (aA rfl) rfl rfl) ?_
    refine aF ?_
    exact ⟨(w64 (t16_0_2 + 1), x23, v25), h, aX [0] rfl rfl (aL rfl (aL rfl (aY ⟨rfl, rfl, rfl, rfl, rfl, trivial⟩)))⟩
   ·have h := aR c22 h
    refine dK ?_
    refine aD ?_
    refine tr1 rfl (aZ (aA rfl) rfl rfl rfl) ?_
    refine tr1 rfl (aB (v := .d (.lit (.int .i64 ((w64 (t16_0_2 + 1)))))) (aA rfl) rfl rfl) ?_
    refine aF ?_
    exact ⟨(w64 (t16_0_2 + 1), out_0_2, w3), h, aX [0] rfl rfl (aL rfl (aL rfl (aY ⟨rfl, rfl, rfl, rfl, rfl, trivial⟩)))⟩
 ·have h := aR c5 h
  refine cQ ?_
  refine .inl ⟨rfl, ?_⟩
  simp only [qR] at h
  refine aG ?_
  refine aD ?_
  refine tr1 rfl (aB (v := .d (.lit w3)) (aA rfl) rfl rfl) ?_
  refine tr1 rfl (aJ (v := .d (.lit w3)) (aA rfl) rfl rfl) ?_
  refine aF ?_
  have h := Option.some.inj h
  subst h
  refine cI (bX (gG (k := 6) (v := .d (.sl 5 (out_0_2.map aC))) (.d (gY 0 rfl (cT (f := aC) fun _ => rfl))) (wM))) ?_
  exact bI ⟨rfl, _, .one _, rfl, rfl⟩

theorem yH (vals_0 : List Int) {r : Int} (h : qY vals_0 = some r) : Fn Try.prog 99 [.d (.sl 1 (vals_0.map cG))] (.d (.lit (.int .i64 r))) := by
 unfold qY at h
 refine Fn.of_tr Try.func99 rfl (rs := [.tmp 2]) Try.results99 Try.ntmps99 (Nat.le_of_ble_eq_true rfl) ?_
 refine aG ?_
 refine aD ?_
 refine tr1 rfl (aJ (v := .d (.lit (.int .i64 0))) (aA rfl) rfl rfl) ?_
 refine aF ?_
 refine aG ?_
 refine aD ?_
 refine tr1 rfl (aJ (v := .d (.lit (.int .i64 0))) (aA rfl) rfl rfl) ?_
 refine aF ?_
 refine aG ?_
 refine aG ?_
 refine aD ?_
 refine tr1 rfl (aB (v := .d (.sl 1 (vals_0.map cG))) (aA rfl) rfl rfl) ?_
 refine tr1 rfl (dB (aA rfl) rfl eI.of) ?_
 refine tr1 rfl (aB (v := .d (.lit (.int .i64 0))) (aA rfl) rfl rfl) ?_
 refine aF ?_
 refine bP ?_
 refine cJ [3, 6, 7] (fun (s1 : Int) => [(8, .d (.lit (.int .i64 s1)))]) (fun (s1 : Int) => []) (fun (k : Nat) (s1 : Int) => mM 0 vals_0 (vals_0.length : Int) k s1) (fun _ => rfl) (0) h (aX [] rfl rfl (aL rfl (aY ⟨rfl, rfl, rfl, trivial⟩))) ?_
 rintro k2 t8_0_1 h
 simp only [mM] at h
 refine aG ?_
 refine aD ?_
 refine tr1 rfl (bB (aA rfl) rfl rfl rfl) ?_
 refine aF ?_
 refine aG ?_
 refine bH rfl (fun c3 => ?_) (fun c3 => ?_)
 ·have h := aS c3 h
  refine bF ?_
  refine aG ?_
  refine bP ?_
  refine aG ?_
  refine aD ?_
  obtain ⟨x4, h5, h⟩ := bind_some h
  refine tr1 rfl (bM (aA rfl) rfl rfl eI.of (bK cG h5)) ?_
  refine tr1 rfl (bZ (aA rfl) rfl bG) ?_
  refine tr1 rfl (aJ (v := .d (.lit (.int .i64 x4))) (aA rfl) rfl rfl) ?_
  refine aF ?_
  refine aG ?_
  refine aD ?_
  refine tr1 rfl (aB (v := .d (.lit (.int .i64 x4))) (aA rfl) rfl rfl) ?_
  refine tr1 rfl (aB (v := .d (.lit (.int .i64 0))) (aA rfl) rfl rfl) ?_
  refine tr1 rfl (bB (aA rfl) rfl rfl rfl) ?_
  refine aF ?_
  refine bH rfl (fun c6 => ?_) (fun c6 => ?_)
  ·have h := aS c6 h
   refine aG ?_
   refine aD ?_
   refine tr1 rfl (aB (v := .d (.lit (.int .i64 x4))) (aA rfl) rfl rfl) ?_
   refine tr1 rfl (aJ (v := .d (.lit (.int .i64 x4))) (aA rfl) rfl rfl) ?_
   refine aF ?_
   have h := Option.some.inj h
   subst h
   exact bI ⟨rfl, _, .one _, rfl, rfl⟩
  ·have h := aR c6 h
   refine dK ?_
   refine aD ?_
   refine tr1 rfl (aZ (aA rfl) rfl rfl rfl) ?_
   refine tr1 rfl (aB (v := .d (.lit (.int .i64 ((w64 (t8_0_1 + 1)))))) (aA rfl) rfl rfl) ?_
   refine aF ?_
   exact ⟨(w64 (t8_0_1 + 1)), h, aX [] rfl rfl (aL rfl (aY ⟨rfl, rfl, rfl, trivial⟩))⟩
 ·have h := aR c3 h
  refine cQ ?_
  refine .inl ⟨rfl, ?_⟩
  simp only [uF] at h
  refine aG ?_
  refine aD ?_
  refine tr1 rfl (aB (v := .d (.lit (.int .i64 0))) (aA rfl) rfl rfl) ?_
  refine tr1 rfl (aJ (v := .d (.lit (.int .i64 0))) (aA rfl) rfl rfl) ?_
  refine aF ?_
  have h := Option.some.inj h
  subst h
  exact bI ⟨rfl, _, .one _, rfl, rfl⟩

theorem yA (x_0 : aE) (y_1 : aE) {r : Int} (h : lI x_0 y_1 = some r) : Fn Try.prog 98 [.agg (aC x_0), .agg (aC y_1)] (.d (.lit (.int .i64 r))) := by
 unfold lI at h
 refine Fn.of_tr Try.func98 rfl (rs := [.tmp 4]) Try.results98 Try.ntmps98 (Nat.le_of_ble_eq_true rfl) ?_
 refine aG ?_
 refine aD ?_
 refine bQ rfl (eD (v := .agg (aC x_0)) (aA rfl) rfl rfl rfl) ?_
 rintro _ ⟨b1, rfl⟩
 refine bQ rfl (eD (v := .agg (aC y_1)) (aA rfl) rfl rfl rfl) ?_
 rintro _ ⟨b2, rfl⟩
 refine tr1 rfl (aJ (v := .d (.lit (.int .i64 0))) (aA rfl) rfl rfl) ?_
 refine aF ?_
 refine aG ?_
 refine bP ?_
 refine aG ?_
 refine aD ?_
 refine tr1 rfl (aV (aA rfl) rfl kZ) ?_
 refine tr1 rfl (aW (aA rfl) rfl (i := 0) rfl rfl oX) ?_
 refine tr1 rfl (aV (aA rfl) rfl kZ) ?_
 refine tr1 rfl (aW (aA rfl) rfl (i := 1) rfl rfl oX) ?_
 refine tr1 rfl (aIy (aA rfl) rfl rfl Try.underlying4) ?_
 refine tr1 rfl (aB (v := .d (.lit (.bool ((!decide (x_0.Must = y_1.Must)))))) (aA rfl) rfl rfl) ?_
 obtain ⟨b3, h4, h⟩ := bind_some h
 refine cD 3 [2, 3] 14 b3 ?_ ?_
 ·refine bJ (!decide (x_0.Must = y_1.Must)) (fun c9 => ?_) (fun c9 => ?_)
  ·have h4 := aS c9 h4
   refine aM rfl rfl (aA rfl) rfl c9 (aV (aA rfl) rfl kZ) ?_
   refine aM rfl rfl (aA rfl) rfl c9 (aW (aA rfl) rfl (i := 0) rfl rfl oX) ?_
   refine tr1 rfl (bN (v := .d (.lit (.bool x_0.Must))) (aA rfl) rfl c9 rfl rfl) ?_
   have h4 := Option.some.inj h4
   subst h4
   refine aF (bC rfl ⟨rfl, rfl, trivial⟩ rfl)
  ·have h4 := aR c9 h4
   refine aU rfl rfl (aA rfl) rfl (aA rfl) rfl c9 ?_
   refine aU rfl rfl (aA rfl) rfl (aA rfl) rfl c9 ?_
   refine tr1 rfl (bO (v := .d (.lit (.bool false))) (aA rfl) rfl c9 rfl rfl) ?_
   have h4 := Option.some.inj h4
   subst h4
   refine aF (bC rfl ⟨rfl, rfl, trivial⟩ rfl)
 ·refine tr1 rfl (aJ (v := .d (.lit (.bool b3))) (aA rfl) rfl rfl) ?_
  refine aF ?_
  refine bH rfl (fun c5 => ?_) (fun c5 => ?_)
  ·have h := aS c5 h
   refine aG ?_
   refine aD ?_
   refine tr1 rfl (aJ (v := .d (.lit (.int .i64 (-1)))) (aA rfl) rfl rfl) ?_
   refine aF ?_
   have h := Option.some.inj h
   subst h
   refine cI (bX (cB (l := [4]) ⟨rfl, trivial⟩)) ?_
   exact bI ⟨rfl, _, .one _, rfl, rfl⟩
  ·have h := aR c5 h
   refine aG ?_
   refine aD ?_
   refine tr1 rfl (aV (aA rfl) rfl kZ) ?_
   refine tr1 rfl (aW (aA rfl) rfl (i := 0) rfl rfl oX) ?_
   refine tr1 rfl (aV (aA rfl) rfl kZ) ?_
   refine tr1 rfl (aW (aA rfl) rfl (i := 1) rfl rfl oX) ?_
   refine tr1 rfl (aIy (aA rfl) rfl rfl Try.underlying4) ?_
   refine tr1 rfl (aJ (v := .d (.lit (.bool ((!decide (x_0.Must = y_1.Must)))))) (aA rfl) rfl rfl) ?_
   refine aF ?_
   refine bH rfl (fun c6 => ?_) (fun c6 => ?_)
   ·have h := aS c6 h
    refine aG ?_
    refine aD ?_
    refine tr1 rfl (aJ (v := .d (.lit (.int .i64 1))) (aA rfl) rfl rfl) ?_
    refine aF ?_
    have h := Option.some.inj h
    subst h
    refine cI (bX (cB (l := [4]) ⟨rfl, trivial⟩)) ?_
    exact bI ⟨rfl, _, .one _, rfl, rfl⟩
   ·have h := aR c6 h
    refine dK ?_
    refine aG ?_
    refine aD ?_
    refine tr1 rfl (aV (aA rfl) rfl iN) ?_
    refine tr1 rfl (aW (aA rfl) rfl (i := 1) rfl rfl bG) ?_
    refine tr1 rfl (aV (aA rfl) rfl iN) ?_
    refine tr1 rfl (aW (aA rfl) rfl (i := 0) rfl rfl bG) ?_
    refine tr1 rfl (aZ (aA rfl) rfl rfl rfl) ?_
    refine tr1 rfl (aV (aA rfl) rfl kX) ?_
    refine tr1 rfl (aW (aA rfl) rfl (i := 0) rfl rfl bG) ?_
    refine tr1 rfl (aV (aA rfl) rfl kX) ?_
    refine tr1 rfl (aW (aA rfl) rfl (i := 1) rfl rfl bG) ?_
    refine tr1 rfl (aZ (aA rfl) rfl rfl rfl) ?_
    refine tr1 rfl (jT (aA rfl) eI rfl rfl (rows := ([w64 (y_1.Points - x_0.Points), w64 (x_0.Id - y_1.Id)]).map cG) rfl (cT (f := cG) fun _ => rfl) rfl (by decide)) ?_
    obtain ⟨r7, h8, h⟩ := bind_some h
    refine tr1 rfl (bY (aA rfl) (.func _ _ Try.call99) rfl rfl (BVs.refl _ _) (yH _ h8) rfl) ?_
    refine tr1 rfl (aJ (v := .d (.lit (.int .i64 r7))) (aA rfl) rfl rfl) ?_
    refine aF ?_
    have h := Option.some.inj h
    subst h
    refine cI (bX (cB (l := [4]) ⟨rfl, trivial⟩)) ?_
    exact bI ⟨rfl, _, .one _, rfl, rfl⟩

theorem uM (b_0 : cE) (all_1 : List aE) {r : (List aE)} (h : mK b_0 all_1 = some r) : Fn Try.prog 71 [.cp (cP b_0), .d (.sl 5 (all_1.map aC))] (.d (.sl 5 (r.map aC))) := by
 unfold mK at h
 refine Fn.of_tr Try.func71 rfl (rs := [.tmp 4]) Try.results71 Try.ntmps71 (Nat.le_of_ble_eq_true rfl) ?_
 refine aG ?_
 refine aD ?_
 refine tr1 rfl (pM 5 (aA rfl)) ?_
 refine aF ?_
 refine aG ?_
 refine aD ?_
 refine tr1 rfl (aB (v := .d (.sl 5 (all_1.map aC))) (aA rfl) rfl rfl) ?_
 obtain ⟨r1, h2, h⟩ := bind_some h
 refine bQ rfl (uR (aA rfl) (.func _ _ Try.call91) rfl rfl (pT _ h2)) ?_
 rintro _ ⟨v3, rfl⟩
 refine tr1 rfl (aJ (v := .d (.lit v3)) (aA rfl) rfl rfl) ?_
 refine aF ?_
 refine aG ?_
 refine aD ?_
 refine tr1 rfl (aB (v := .d (.lit v3)) (aA rfl) rfl rfl) ?_
 obtain ⟨r6, h7, h⟩ := bind_some h
 refine bQ rfl (dQ (passed := [.arr v3 42 5 (r1.map aC)]) (aA rfl) rfl (.func _ _ Try.call92) rfl rfl (mR r1 (fun y4 y5 => lI y4 y5) 98 [] Try.call98 (fun _ _ _ h => yA _ _ h) h7)) ?_
 rintro _ ⟨_, _, ⟨rfl, rfl⟩, rfl⟩
 refine aF ?_
 refine aG ?_
 refine aD ?_
 refine tr1 rfl (aJ (v := .d (.lit (.int .i64 0))) (aA rfl) rfl rfl) ?_
 refine aF ?_
 refine aG ?_
 refine aG ?_
 refine aD ?_
 refine tr1 rfl (aB (v := .d (.lit v3)) (aA rfl) rfl rfl) ?_
 refine tr1 rfl (lD (m := 0) (aA rfl) rfl rfl bR.of) ?_
 refine tr1 rfl (aB (v := .d (.lit (.int .i64 0))) (aA rfl) rfl rfl) ?_
 refine aF ?_
 refine bP ?_
 refine cJ [0, 5, 13, 14] (fun (s8 : Int × Int) => [(6, .d (.lit (.int .i64 s8.1))), (15, .d (.lit (.int .i64 s8.2)))]) (fun (s8 : Int × Int) => [.arr v3 42 5 (r6.map aC)]) (fun (k : Nat) (s8 : Int × Int) => gJ b_0 (r6.length : Int) r6 k s8.1 s8.2) (fun _ => rfl) (0, 0) h (aX [0] rfl rfl (aL rfl (aL rfl (aY ⟨rfl, rfl, rfl, rfl, trivial⟩)))) ?_
 rintro k9 ⟨musts_0_8, t15_0_8⟩ h
 simp only [gJ] at h
 refine aG ?_
 refine aD ?_
 refine tr1 rfl (bB (aA rfl) rfl rfl rfl) ?_
 refine aF ?_
 refine aG ?_
 refine bH rfl (fun c10 => ?_) (fun c10 => ?_)
 ·have h := aS c10 h
  refine bF ?_
  refine aG ?_
  refine bP ?_
  refine aG ?_
  refine aD ?_
  obtain ⟨x11, h12, h⟩ := bind_some h
  refine tr1 rfl (cM (m := 0) (aA rfl) rfl rfl rfl bR.of (bK aC h12)) ?_
  refine tr1 rfl (dH (aA rfl) rfl (l := 0) rfl (eF aC h12) dW (es := (aC x11)) rfl rfl) ?_
  refine bQ rfl (fF (zs := [.lit (.int .i64 0), .lit (.int .i64 0), .lit (.int .i64 0), .lit (.int .i64 0), .lit (.bool false)]) (aA rfl) Try.zeroValue42 rfl rfl) ?_
  rintro _ ⟨b13, rfl⟩
  refine tr1 rfl (cF (i := 1) rfl rfl rfl rfl rfl Try.sizeOf42 rfl (aA rfl) (Nat.le_of_ble_eq_true rfl) (ds' := (aC x11)) rfl) ?_
  refine aF ?_
  refine aG ?_
  refine aD ?_
  refine tr1 rfl (aV (aA rfl) rfl kZ) ?_
  refine tr1 rfl (aW (aA rfl) rfl (i := 1) rfl rfl oX) ?_
  refine aF ?_
  refine bH rfl (fun c14 => ?_) (fun c14 => ?_)
  ·have h := aS c14 h
   refine aD ?_
   refine tr1 rfl (aB (v := .d (.lit (.int .i64 musts_0_8))) (aA rfl) rfl rfl) ?_
   refine tr1 rfl (aZ (aA rfl) rfl rfl rfl) ?_
   refine tr1 rfl (aJ (v := .d (.lit (.int .i64 ((w64 (musts_0_8 + 1)))))) (aA rfl) rfl rfl) ?_
   refine dA ?_
   refine aD ?_
   refine tr1 rfl (aZ (aA rfl) rfl rfl rfl) ?_
   refine tr1 rfl (aB (v := .d (.lit (.int .i64 ((w64 (t15_0_8 + 1)))))) (aA rfl) rfl rfl) ?_
   refine aF ?_
   exact ⟨(w64 (musts_0_8 + 1), w64 (t15_0_8 + 1)), h, aX [0] rfl rfl (aL rfl (aL rfl (aY ⟨rfl, rfl, rfl, rfl, trivial⟩)))⟩
  ·have h := aR c14 h
   refine dK ?_
   refine aD ?_
   refine tr1 rfl (aZ (aA rfl) rfl rfl rfl) ?_
   refine tr1 rfl (aB (v := .d (.lit (.int .i64 ((w64 (t15_0_8 + 1)))))) (aA rfl) rfl rfl) ?_
   refine aF ?_
   exact ⟨(musts_0_8, w64 (t15_0_8 + 1)), h, aX [0] rfl rfl (aL rfl (aL rfl (aY ⟨rfl, rfl, rfl, rfl, trivial⟩)))⟩
 ·have h := aR c10 h
  refine cQ ?_
  refine .inl ⟨rfl, ?_⟩
  simp only [mD] at h
  refine aG ?_
  refine aD ?_
  refine tr1 rfl (aB (v := .d (.lit v3)) (aA rfl) rfl rfl) ?_
  refine tr1 rfl (aB (v := .d (.lit v3)) (aA rfl) rfl rfl) ?_
  refine tr1 rfl (lD (m := 0) (aA rfl) rfl rfl bR.of) ?_
  refine tr1 rfl (aB (v := .d (.lit (.int .i64 musts_0_8))) (aA rfl) rfl rfl) ?_
  refine tr1 rfl (aB (v := .cp [.lit (.int .i64 b_0.Ledger.Players), .lit (.int .i64 b_0.Ledger.Counts), .sl 5 (b_0.Ledger.Reports.map aC), .sl 3 (b_0.Ledger.Bans.map aI), .sl 3 (b_0.Ledger.Frozen.map aI)]) (aA rfl) rfl rfl) ?_
  refine tr1 rfl (rB (aA rfl) rfl) ?_
  refine tr1 rfl (cC (aA rfl) rfl iO (es := [.lit (.int .i64 b_0.Ledger.Players), .lit (.int .i64 b_0.Ledger.Counts), .sl 5 (b_0.Ledger.Reports.map aC), .sl 3 (b_0.Ledger.Bans.map aI), .sl 3 (b_0.Ledger.Frozen.map aI)]) rfl) ?_
  refine tr1 rfl (cC (aA rfl) rfl xG (es := [.lit (.int .i64 b_0.Ledger.Counts)]) rfl) ?_
  refine tr1 rfl (bZ (aA rfl) rfl bG) ?_
  refine tr1 rfl (aDf (aA rfl) rfl rfl) ?_
  refine tr1 rfl (aDg (aA rfl) rfl rfl) ?_
  refine eR (uV [] [.arr v3 42 5 (r6.map aC)] rfl (gG (k := 25) (v := .d (.sl 5 (r6.map aC))) (.d (gY 0 rfl (cT (f := aC) fun _ => rfl))) (gG (k := 24) (v := .d (.sl 5 (r6.map aC))) (.d (gY 0 rfl (cT (f := aC) fun _ => rfl))) (gG (k := 13) (v := .d (.sl 5 (r6.map aC))) (.d (gY 0 rfl (cT (f := aC) fun _ => rfl))) (gG (k := 5) (v := .d (.sl 5 (r6.map aC))) (.d (gY 0 rfl (cT (f := aC) fun _ => rfl))) (pF _ _)))))) ?_
  obtain ⟨x15, h16, h⟩ := bind_some h
  refine tr1 rfl (mA (aA rfl) bR.of rfl rfl rfl (pC aC h16)) ?_
  refine tr1 rfl (aJ (v := .d (.sl 5 (x15.map aC))) (aA rfl) rfl rfl) ?_
  refine aF ?_
  have h := Option.some.inj h
  subst h
  exact bI ⟨rfl, _, .one _, rfl, rfl⟩

theorem aBl (l_0 : List aE) {r : Int} (h : tJ l_0 = some r) : Fn Try.prog 86 [.d (.sl 5 (l_0.map aC))] (.d (.lit (.int .i64 r))) := by
 unfold tJ at h
 refine Fn.of_tr Try.func86 rfl (rs := [.tmp 2]) Try.results86 Try.ntmps86 (Nat.le_of_ble_eq_true rfl) ?_
 refine aG ?_
 refine aD ?_
 refine tr1 rfl (aJ (v := .d (.lit (.int .i64 0))) (aA rfl) rfl rfl) ?_
 refine aF ?_
 refine aG ?_
 refine aG ?_
 refine aD ?_
 refine tr1 rfl (aB (v := .d (.sl 5 (l_0.map aC))) (aA rfl) rfl rfl) ?_
 refine tr1 rfl (dB (aA rfl) rfl bR.of) ?_
 refine tr1 rfl (aB (v := .d (.lit (.int .i64 0))) (aA rfl) rfl rfl) ?_
 refine aF ?_
 refine bP ?_
 refine cJ [5, 6] (fun (s1 : Int × Int) => [(2, .d (.lit (.int .i64 s1.1))), (7, .d (.lit (.int .i64 s1.2)))]) (fun (s1 : Int × Int) => []) (fun (k : Nat) (s1 : Int × Int) => oU l_0 (l_0.length : Int) k s1.1 s1.2) (fun _ => rfl) (0, 0) h (aX [] rfl rfl (aL rfl (aL rfl (aY ⟨rfl, rfl, trivial⟩)))) ?_
 rintro k2 ⟨n_0_1, t7_0_1⟩ h
 simp only [oU] at h
 refine aG ?_
 refine aD ?_
 refine tr1 rfl (bB (aA rfl) rfl rfl rfl) ?_
 refine aF ?_
 refine aG ?_
 refine bH rfl (fun c3 => ?_) (fun c3 => ?_)
 ·have h := aS c3 h
  refine bF ?_
  refine aG ?_
  refine bP ?_
  refine aG ?_
  refine aD ?_
  obtain ⟨x4, h5, h⟩ := bind_some h
  refine tr1 rfl (bM (aA rfl) rfl rfl bR.of (bK aC h5)) ?_
  refine tr1 rfl (eP (aA rfl) rfl dW (es := (aC x4)) rfl rfl) ?_
  refine bQ rfl (fF (zs := [.lit (.int .i64 0), .lit (.int .i64 0), .lit (.int .i64 0), .lit (.int .i64 0), .lit (.bool false)]) (aA rfl) Try.zeroValue42 rfl rfl) ?_
  rintro _ ⟨b6, rfl⟩
  refine tr1 rfl (cF (i := 0) rfl rfl rfl rfl rfl Try.sizeOf42 rfl (aA rfl) (Nat.le_of_ble_eq_true rfl) (ds' := (aC x4)) rfl) ?_
  refine aF ?_
  refine aD ?_
  refine tr1 rfl (aB (v := .d (.lit (.int .i64 n_0_1))) (aA rfl) rfl rfl) ?_
  refine tr1 rfl (aV (aA rfl) rfl iN) ?_
  refine tr1 rfl (aW (aA rfl) rfl (i := 0) rfl rfl bG) ?_
  refine tr1 rfl (aZ (aA rfl) rfl rfl rfl) ?_
  refine tr1 rfl (aJ (v := .d (.lit (.int .i64 ((w64 (n_0_1 + x4.Points)))))) (aA rfl) rfl rfl) ?_
  refine dA ?_
  refine aD ?_
  refine tr1 rfl (aZ (aA rfl) rfl rfl rfl) ?_
  refine tr1 rfl (aB (v := .d (.lit (.int .i64 ((w64 (t7_0_1 + 1)))))) (aA rfl) rfl rfl) ?_
  refine aF ?_
  exact ⟨(w64 (n_0_1 + x4.Points), w64 (t7_0_1 + 1)), h, aX [] rfl rfl (aL rfl (aL rfl (aY ⟨rfl, rfl, trivial⟩)))⟩
 ·have h := aR c3 h
  refine cQ ?_
  refine .inl ⟨rfl, ?_⟩
  simp only [wJ] at h
  refine aG ?_
  refine aD ?_
  refine tr1 rfl (aB (v := .d (.lit (.int .i64 n_0_1))) (aA rfl) rfl rfl) ?_
  refine tr1 rfl (aJ (v := .d (.lit (.int .i64 n_0_1))) (aA rfl) rfl rfl) ?_
  refine aF ?_
  have h := Option.some.inj h
  subst h
  exact bI ⟨rfl, _, .one _, rfl, rfl⟩

theorem aBe (x : Int) {r : Int} (h : rS x = some r) : Fn Try.prog 101 [.d (.lit (.int .u64 x))] (.d (.lit (.int .i64 r))) := aJe (fun x w => Try.bits_Len x w) h

theorem pW (data_0 : List bE) (a_1 : Int) (b_2 : Int) (cmp_3 : bE → bE → Option Int) {r : (List bE)} {data_0_v : Value} (cmp_3_f : Nat) (cmp_3_v : List AV) (cmp_3_e : ∀ args w, (callFunc cmp_3_f args).run Try.prog w = .ok (.enter cmp_3_f args) w) (cmp_3_h : ∀ (x0 : bE) (x1 : bE) r, cmp_3 x0 x1 = some r → Fn Try.prog cmp_3_f ([.agg (bT x0), .agg (bT x1)] ++ cmp_3_v) (.d (.lit (.int .i64 r)))) (h : dO data_0 a_1 b_2 cmp_3 = some r) : gE Try.prog 118 [.d (.lit data_0_v), .d (.lit (.int .i64 a_1)), .d (.lit (.int .i64 b_2)), .fn cmp_3_f cmp_3_v] [.arr data_0_v 114 4 (data_0.map bT)] (fun r' o' => r' = .tup [] ∧ o' = [.arr data_0_v 114 4 (r.map bT)]) := by
 unfold dO at h
 refine kF Try.func118 rfl (rs := []) Try.results118 Try.ntmps118 (Nat.le_of_ble_eq_true rfl) ?_
 refine aG ?_
 refine aD ?_
 refine tr1 rfl (aB (v := .d (.lit (.int .i64 a_1))) (aA rfl) rfl rfl) ?_
 refine tr1 rfl (aZ (aA rfl) rfl rfl rfl) ?_
 refine tr1 rfl (aJ (v := .d (.lit (.int .i64 ((w64 (a_1 + 1)))))) (aA rfl) rfl rfl) ?_
 refine aF ?_
 refine bP ?_
 refine cJ [1, 2, 3] (fun (s1 : Int × (List bE)) => [(0, .d (.lit data_0_v)), (8, .d (.lit (.int .i64 s1.1)))]) (fun (s1 : Int × (List bE)) => [.arr data_0_v 114 4 (s1.2.map bT)]) (fun (k : Nat) (s1 : Int × (List bE)) => cS a_1 b_2 cmp_3 k s1.1 s1.2) (fun _ => rfl) (w64 (a_1 + 1), data_0) h (aX [0] rfl rfl (aL rfl (aL rfl (aY ⟨rfl, rfl, rfl, trivial⟩)))) ?_
 rintro k2 ⟨i_0_1, data_0_1⟩ h
 simp only [cS] at h
 refine aG ?_
 refine aG ?_
 refine aD ?_
 refine tr1 rfl (aB (v := .d (.lit (.int .i64 i_0_1))) (aA rfl) rfl rfl) ?_
 refine tr1 rfl (aB (v := .d (.lit (.int .i64 b_2))) (aA rfl) rfl rfl) ?_
 refine tr1 rfl (bB (aA rfl) rfl rfl rfl) ?_
 refine aF ?_
 refine bH rfl (fun c3 => ?_) (fun c3 => ?_)
 ·have h := aS c3 h
  refine bF ?_
  refine aG ?_
  refine bP ?_
  refine aG ?_
  refine aD ?_
  refine tr1 rfl (aB (v := .d (.lit (.int .i64 i_0_1))) (aA rfl) rfl rfl) ?_
  refine tr1 rfl (aJ (v := .d (.lit (.int .i64 i_0_1))) (aA rfl) rfl rfl) ?_
  refine aF ?_
  refine zM ?_
  refine cJ [1, 2, 3, 8] (fun (s4 : Int × (List bE)) => [(0, .d (.lit data_0_v)), (9, .d (.lit (.int .i64 s4.1)))]) (fun (s4 : Int × (List bE)) => [.arr data_0_v 114 4 (s4.2.map bT)]) (fun (k : Nat) (s4 : Int × (List bE)) => cZ (cS a_1 b_2 cmp_3 k2) a_1 b_2 cmp_3 i_0_1 k s4.1 s4.2) (fun _ => rfl) (i_0_1, data_0_1) h (aX [0] rfl rfl (aL rfl (aL rfl (aY ⟨rfl, rfl, rfl, rfl, trivial⟩)))) ?_
  rintro k5 ⟨j_2_4, data_2_4⟩ h
  simp only [cZ] at h
  refine aG ?_
  refine aG ?_
  obtain ⟨b6, h7, h⟩ := bind_some h
  refine fD mix 17 [0, 1, 2, 3, 8, 9] [(34, .d (.lit (.bool b6)))] ?_ ?_
  ·refine bJ (decide (a_1 < j_2_4)) (fun c8 => ?_) (fun c8 => ?_)
   ·have h7 := aS c8 h7
    obtain ⟨x9, h10, h7⟩ := bind_some h7
    obtain ⟨x11, h12, h7⟩ := bind_some h7
    obtain ⟨r13, h14, h7⟩ := bind_some h7
    have h7 := Option.some.inj h7
    subst h7
    refine ⟨[(18, 0, .d (.lit (.int .i64 j_2_4))), (19, 1, .d (.lit (.int .i64 a_1))), (20, 2, .d (.lit (.bool ((decide (a_1 < j_2_4)))))), (21, 3, .d (.lit (.bool ((decide (a_1 < j_2_4)))))), (22, 4, .fn cmp_3_f cmp_3_v), (23, 5, .d (.lit data_0_v)), (24, 6, .d (.lit (.int .i64 j_2_4))), (25, 7, .ep data_0_v 4 j_2_4.toNat 0), (26, 8, .agg (bT x9)), (27, 9, .d (.lit data_0_v)), (28, 10, .d (.lit (.int .i64 j_2_4))), (29, 11, .d (.lit (.int .i64 ((w64 (j_2_4 - 1)))))), (30, 12, .ep data_0_v 4 (w64 (j_2_4 - 1)).toNat 0), (31, 13, .agg (bT x11)), (32, 14, .d (.lit (.int .i64 r13))), (33, 15, .d (.lit (.bool ((decide (r13 < 0)))))), (34, 16, .d (.lit (.bool ((decide (r13 < 0))))))], ?_, ?_⟩
    · exact ⟨by kernel_rfl, by kernel_rfl, by kernel_rfl, by kernel_rfl, by kernel_rfl, [([], []), ([], []), ([0, 1], []), ([2], []), ([3], []), ([3], []), ([3], []), ([3, 5, 6], []), ([3, 7], []), ([3], []), ([3], []), ([3, 10], []), ([3, 9, 11], []), ([3, 12], []), ([3, 4, 8, 13], []), ([3, 14], []), ([3, 15], [])], by kernel_rfl, ⟨fun S hS => aK rfl (aQ rfl (aB (v := .d (.lit (.int .i64 j_2_4))) (aA rfl) (aH hS rfl) rfl)),
      fun S hS => aK rfl (aQ rfl (aB (v := .d (.lit (.int .i64 a_1))) (aA rfl) (aH hS rfl) rfl)),
      fun S hS => aK rfl (aQ rfl (bB (aA rfl) (aH hS rfl) (aH hS rfl) rfl)),
      fun S hS => aK rfl (aQ rfl (aB (v := .d (.lit (.bool ((decide (a_1 < j_2_4)))))) (aA rfl) (aH hS rfl) rfl)),
      fun S hS => aK rfl (bA rfl rfl (aA rfl) (aO hS rfl) c8 (aB (v := .fn cmp_3_f cmp_3_v) (aA rfl) (aH hS rfl) rfl)),
      fun S hS => aK rfl (bA rfl rfl (aA rfl) (aO hS rfl) c8 (aB (v := .d (.lit data_0_v)) (aA rfl) (aH hS rfl) rfl)),
      fun S hS => aK rfl (bA rfl rfl (aA rfl) (aO hS rfl) c8 (aB (v := .d (.lit (.int .i64 j_2_4))) (aA rfl) (aH hS rfl) rfl)),
      fun S hS => aK rfl (bA rfl rfl (aA rfl) (aO hS rfl) c8 (cM (m := 0) (aA rfl) (aH hS rfl) rfl (aH hS rfl) qV.of (bK bT h10))),
      fun S hS => aK rfl (bA rfl rfl (aA rfl) (aO hS rfl) c8 (dH (aA rfl) (aH hS rfl) (l := 0) rfl (eF bT h10) uT (es := (bT x9)) rfl rfl)),
      fun S hS => aK rfl (bA rfl rfl (aA rfl) (aO hS rfl) c8 (aB (v := .d (.lit data_0_v)) (aA rfl) (aH hS rfl) rfl)),
      fun S hS => aK rfl (bA rfl rfl (aA rfl) (aO hS rfl) c8 (aB (v := .d (.lit (.int .i64 j_2_4))) (aA rfl) (aH hS rfl) rfl)),
      fun S hS => aK rfl (bA rfl rfl (aA rfl) (aO hS rfl) c8 (aZ (aA rfl) (aH hS rfl) rfl rfl)),
      fun S hS => aK rfl (bA rfl rfl (aA rfl) (aO hS rfl) c8 (cM (m := 0) (aA rfl) (aH hS rfl) rfl (aH hS rfl) qV.of (bK bT h12))),
      fun S hS => aK rfl (bA rfl rfl (aA rfl) (aO hS rfl) c8 (dH (aA rfl) (aH hS rfl) (l := 0) rfl (eF bT h12) uT (es := (bT x11)) rfl rfl)),
      fun S hS => aK rfl (bA rfl rfl (aA rfl) (aO hS rfl) c8 (bY (aA rfl) (.clo _ _ _ _ cmp_3_e (aO hS rfl)) (tD (ev2 (aH hS rfl) (ev2 (aH hS rfl) evn))) rfl (BVs.refl _ _) (cmp_3_h _ _ _  h14) rfl)),
      fun S hS => aK rfl (bA rfl rfl (aA rfl) (aO hS rfl) c8 (bB (aA rfl) (aH hS rfl) rfl rfl)),
      fun S hS => aK rfl (aQ rfl (bN (v := .d (.lit (.bool ((decide (r13 < 0)))))) (aA rfl) (aH hS rfl) c8 (aH hS rfl) rfl)), trivial⟩⟩
    · exact dJ (aL rfl (aY ⟨rfl, rfl, rfl, rfl, rfl, rfl, trivial⟩))
   ·have h7 := aR c8 h7
    have h7 := Option.some.inj h7
    subst h7
    refine ⟨[(18, 0, .d (.lit (.int .i64 j_2_4))), (19, 1, .d (.lit (.int .i64 a_1))), (20, 2, .d (.lit (.bool ((decide (a_1 < j_2_4)))))), (21, 3, .d (.lit (.bool ((decide (a_1 < j_2_4)))))), (22, 4, .tup []), (23, 5, .tup []), (24, 6, .tup []), (25, 7, .tup []), (26, 8, .tup []), (27, 9, .tup []), (28, 10, .tup []), (29, 11, .tup []), (30, 12, .tup []), (31, 13, .tup []), (32, 14, .tup []), (33, 15, .tup []), (34, 16, .d (.lit (.bool false)))], ?_, ?_⟩
    · exact ⟨by kernel_rfl, by kernel_rfl, by kernel_rfl, by kernel_rfl, by kernel_rfl, [([], []), ([], []), ([0, 1], []), ([2], []), ([3], []), ([3], []), ([3], []), ([3, 5, 6], []), ([3, 7], []), ([3], []), ([3], []), ([3, 10], []), ([3, 9, 11], []), ([3, 12], []), ([3, 4, 8, 13], []), ([3, 14], []), ([3, 15], [])], by kernel_rfl, ⟨fun S hS => aK rfl (aQ rfl (aB (v := .d (.lit (.int .i64 j_2_4))) (aA rfl) (aH hS rfl) rfl)),
      fun S hS => aK rfl (aQ rfl (aB (v := .d (.lit (.int .i64 a_1))) (aA rfl) (aH hS rfl) rfl)),
      fun S hS => aK rfl (aQ rfl (bB (aA rfl) (aH hS rfl) (aH hS rfl) rfl)),
      fun S hS => aK rfl (aQ rfl (aB (v := .d (.lit (.bool ((decide (a_1 < j_2_4)))))) (aA rfl) (aH hS rfl) rfl)),
      fun S hS => aK rfl (bD rfl rfl (aA rfl) rfl (aA rfl) (aO hS rfl) c8),
      fun S hS => aK rfl (bD rfl rfl (aA rfl) rfl (aA rfl) (aO hS rfl) c8),
      fun S hS => aK rfl (bD rfl rfl (aA rfl) rfl (aA rfl) (aO hS rfl) c8),
      fun S hS => aK rfl (bD rfl rfl (aA rfl) rfl (aA rfl) (aO hS rfl) c8),
      fun S hS => aK rfl (bD rfl rfl (aA rfl) rfl (aA rfl) (aO hS rfl) c8),
      fun S hS => aK rfl (bD rfl rfl (aA rfl) rfl (aA rfl) (aO hS rfl) c8),
      fun S hS => aK rfl (bD rfl rfl (aA rfl) rfl (aA rfl) (aO hS rfl) c8),
      fun S hS => aK rfl (bD rfl rfl (aA rfl) rfl (aA rfl) (aO hS rfl) c8),
      fun S hS => aK rfl (bD rfl rfl (aA rfl) rfl (aA rfl) (aO hS rfl) c8),
      fun S hS => aK rfl (bD rfl rfl (aA rfl) rfl (aA rfl) (aO hS rfl) c8),
      fun S hS => aK rfl (bD rfl rfl (aA rfl) rfl (aA rfl) (aO hS rfl) c8),
      fun S hS => aK rfl (bD rfl rfl (aA rfl) rfl (aA rfl) (aO hS rfl) c8),
      fun S hS => aK rfl (aQ rfl (bO (v := .d (.lit (.bool false))) (aA rfl) (aH hS rfl) c8 rfl rfl)), trivial⟩⟩
    · exact dJ (aL rfl (aY ⟨rfl, rfl, rfl, rfl, rfl, rfl, trivial⟩))
  ·refine aF ?_
   refine bH rfl (fun c15 => ?_) (fun c15 => ?_)
   ·have h := aS c15 h
    refine bF ?_
    refine aG ?_
    refine bP ?_
    obtain ⟨x17, h18, h⟩ := bind_some h
    obtain ⟨x19, h20, h⟩ := bind_some h
    obtain ⟨x21, h22, h⟩ := bind_some h
    refine oG mix 16 [0, 1, 2, 3, 8, 9] (fun X16 => [(39, .d (.lit data_0_v)), (41, .d (.lit (.int .i64 ((w64 (j_2_4 - 1)))))), (50, .agg (bT x19))]) (fun X16 => [.arr data_0_v 114 4 ((data_2_4.set j_2_4.toNat x17).map bT)]) ?_ ?_
    ·refine ⟨0, fun X16 => [(37, 0, .d (.lit data_0_v)), (38, 1, .d (.lit (.int .i64 j_2_4))), (39, 2, .d (.lit data_0_v)), (40, 3, .d (.lit (.int .i64 j_2_4))), (41, 4, .d (.lit (.int .i64 ((w64 (j_2_4 - 1)))))), (42, 5, .d (.lit data_0_v)), (43, 6, .d (.lit (.int .i64 j_2_4))), (44, 7, .d (.lit (.int .i64 ((w64 (j_2_4 - 1)))))), (45, 8, .ep data_0_v 4 (w64 (j_2_4 - 1)).toNat 0), (46, 9, .agg (bT x17)), (47, 10, .d (.lit data_0_v)), (48, 11, .d (.lit (.int .i64 j_2_4))), (49, 12, .ep data_0_v 4 j_2_4.toNat 0), (50, 13, .agg (bT x19)), (51, 14, .ep data_0_v 4 j_2_4.toNat 0)], fun X16 => [([(15, .arr data_0_v 114 4 ((data_2_4.set j_2_4.toNat x17).map bT))], .arr data_0_v 114 4 (data_2_4.map bT))], ?_, ?_⟩
     · exact ⟨by kernel_rfl, by kernel_rfl, by kernel_rfl, fun _ => by kernel_rfl, fun _ => by kernel_rfl, fun _ => by kernel_rfl, fun _ => rfl, [([], [15]), ([], [15]), ([], []), ([], []), ([3], []), ([], [15]), ([], [15]), ([6], [15]), ([5, 7], [15]), ([8], [15]), ([], [15]), ([], [15]), ([10, 11], [15]), ([12], [15]), ([0, 1], [15]), ([9, 14], [])], by kernel_rfl, ⟨fun X16 S hw hi hS => bW (X := X16) rfl (hw X16) rfl (aQ rfl (aB (v := .d (.lit data_0_v)) (aA rfl) (aH hS rfl) rfl)),
      fun X16 S hw hi hS => bW (X := X16) rfl (hw X16) rfl (aQ rfl (aB (v := .d (.lit (.int .i64 j_2_4))) (aA rfl) (aH hS rfl) rfl)),
      fun X16 S hw hi hS => bW (X := X16) rfl (hw X16) rfl (aQ rfl (aB (v := .d (.lit data_0_v)) (aA rfl) (aH hS rfl) rfl)),
      fun X16 S hw hi hS => bW (X := X16) rfl (hw X16) rfl (aQ rfl (aB (v := .d (.lit (.int .i64 j_2_4))) (aA rfl) (aH hS rfl) rfl)),
      fun X16 S hw hi hS => bW (X := X16) rfl (hw X16) rfl (aQ rfl (aZ (aA rfl) (aH hS rfl) rfl rfl)),
      fun X16 S hw hi hS => bW (X := X16) rfl (hw X16) rfl (aQ rfl (aB (v := .d (.lit data_0_v)) (aA rfl) (aH hS rfl) rfl)),
      fun X16 S hw hi hS => bW (X := X16) rfl (hw X16) rfl (aQ rfl (aB (v := .d (.lit (.int .i64 j_2_4))) (aA rfl) (aH hS rfl) rfl)),
      fun X16 S hw hi hS => bW (X := X16) rfl (hw X16) rfl (aQ rfl (aZ (aA rfl) (aH hS rfl) rfl rfl)),
      fun X16 S hw hi hS => bW (X := X16) rfl (hw X16) rfl (aQ rfl (cM (m := 0) (aA rfl) (aH hS rfl) (og hS rfl rfl) (aH hS rfl) qV.of (bK bT h18))),
      fun X16 S hw hi hS => bW (X := X16) rfl (hw X16) rfl (aQ rfl (dH (aA rfl) (aH hS rfl) (l := 0) (og hS rfl rfl) (eF bT h18) uT (es := (bT x17)) rfl rfl)),
      fun X16 S hw hi hS => bW (X := X16) rfl (hw X16) rfl (aQ rfl (aB (v := .d (.lit data_0_v)) (aA rfl) (aH hS rfl) rfl)),
      fun X16 S hw hi hS => bW (X := X16) rfl (hw X16) rfl (aQ rfl (aB (v := .d (.lit (.int .i64 j_2_4))) (aA rfl) (aH hS rfl) rfl)),
      fun X16 S hw hi hS => bW (X := X16) rfl (hw X16) rfl (aQ rfl (cM (m := 0) (aA rfl) (aH hS rfl) (og hS rfl rfl) (aH hS rfl) qV.of (bK bT h20))),
      fun X16 S hw hi hS => bW (X := X16) rfl (hw X16) rfl (aQ rfl (dH (aA rfl) (aH hS rfl) (l := 0) (og hS rfl rfl) (eF bT h20) uT (es := (bT x19)) rfl rfl)),
      fun X16 S hw hi hS => bW (X := X16) rfl (hw X16) rfl (aQ rfl (cM (m := 0) (aA rfl) (aH hS rfl) (og hS rfl rfl) (aH hS rfl) qV.of (bK bT h22))),
      fun X16 S hw hi hS => sH (X := X16) hS rfl rfl rfl (p := 0) rfl rfl (aQ rfl (jQ (l := 0) (aH hS rfl) (og hS rfl rfl) (eF bT h22) (aH hS rfl) rfl rfl Try.sizeOf114 rfl (aA rfl) (Nat.le_of_ble_eq_true rfl) (rows' := ((data_2_4.set j_2_4.toNat x17)).map bT) (nC _ _ _ _ rfl))), trivial⟩⟩
     · exact fun X16 => dJ (aL rfl (aL rfl (aL rfl (aY ⟨rfl, rfl, rfl, rfl, rfl, rfl, trivial⟩))))
    ·intro X16
     obtain ⟨x23, h24, h⟩ := bind_some h
     refine tr1 rfl (cM (m := 0) (aA rfl) rfl rfl rfl qV.of (bK bT h24)) ?_
     refine tr1 rfl (jQ (l := 0) rfl rfl (eF bT h24) rfl rfl rfl Try.sizeOf114 rfl (aA rfl) (Nat.le_of_ble_eq_true rfl) (rows' := (((data_2_4.set j_2_4.toNat x17).set (w64 (j_2_4 - 1)).toNat x19)).map bT) (nC _ _ _ _ rfl)) ?_
     refine dA ?_
     refine aD ?_
     refine tr1 rfl (aB (v := .d (.lit (.int .i64 j_2_4))) (aA rfl) rfl rfl) ?_
     refine tr1 rfl (aZ (aA rfl) rfl rfl rfl) ?_
     refine tr1 rfl (aJ (v := .d (.lit (.int .i64 ((w64 (j_2_4 - 1)))))) (aA rfl) rfl rfl) ?_
     refine aF ?_
     exact ⟨(w64 (j_2_4 - 1), ((data_2_4.set j_2_4.toNat x17).set (w64 (j_2_4 - 1)).toNat x19)), h, aX [0] rfl rfl (aL rfl (aL rfl (aY ⟨rfl, rfl, rfl, rfl, trivial⟩)))⟩
   ·have h := aR c15 h
    refine cQ ?_
    refine .inl ⟨rfl, ?_⟩
    simp only [fT] at h
    simp only [fS] at h
    refine aD ?_
    refine tr1 rfl (aB (v := .d (.lit (.int .i64 i_0_1))) (aA rfl) rfl rfl) ?_
    refine tr1 rfl (aZ (aA rfl) rfl rfl rfl) ?_
    refine tr1 rfl (aJ (v := .d (.lit (.int .i64 ((w64 (i_0_1 + 1)))))) (aA rfl) rfl rfl) ?_
    refine aF ?_
    exact ⟨(w64 (i_0_1 + 1), data_2_4), h, aX [0] rfl rfl (aL rfl (aL rfl (aY ⟨rfl, rfl, rfl, trivial⟩)))⟩
 ·have h := aR c3 h
  refine cQ ?_
  refine .inl ⟨rfl, ?_⟩
  simp only [fR] at h
  have h := Option.some.inj h
  subst h
  exact ⟨_, [.arr data_0_v 114 4 (data_0_1.map bT)], [], _, .none, .refl _, .same _, rfl, rfl⟩

theorem rO (data_0 : List bE) (a_1 : Int) (b_2 : Int) (limit_3 : Int) (cmp_4 : bE → bE → Option Int) {r : (List bE)} {data_0_v : Value} (cmp_4_f : Nat) (cmp_4_v : List AV) (cmp_4_e : ∀ args w, (callFunc cmp_4_f args).run Try.prog w = .ok (.enter cmp_4_f args) w) (cmp_4_h : ∀ (x0 : bE) (x1 : bE) r, cmp_4 x0 x1 = some r → Fn Try.prog cmp_4_f ([.agg (bT x0), .agg (bT x1)] ++ cmp_4_v) (.d (.lit (.int .i64 r)))) (h : iE data_0 a_1 b_2 limit_3 cmp_4 = some r) : gE Try.prog 103 [.d (.lit data_0_v), .d (.lit (.int .i64 a_1)), .d (.lit (.int .i64 b_2)), .d (.lit (.int .i64 limit_3)), .fn cmp_4_f cmp_4_v] [.arr data_0_v 114 4 (data_0.map bT)] (fun r' o' => r' = .tup [] ∧ o' = [.arr data_0_v 114 4 (r.map bT)]) := by
 unfold iE at h
 refine kF Try.func103 rfl (rs := []) Try.results103 Try.ntmps103 (Nat.le_of_ble_eq_true rfl) ?_
 refine aG ?_
 refine aD ?_
 refine tr1 rfl (aJ (v := .d (.lit (.bool true))) (aA rfl) rfl rfl) ?_
 refine aF ?_
 refine aG ?_
 refine aD ?_
 refine tr1 rfl (aJ (v := .d (.lit (.bool true))) (aA rfl) rfl rfl) ?_
 refine aF ?_
 refine bP ?_
 refine cJ [4] (fun (s1 : Int × Int × Int × Bool × Bool × (List bE)) => [(0, .d (.lit data_0_v)), (1, .d (.lit (.int .i64 s1.1))), (2, .d (.lit (.int .i64 s1.2.1))), (3, .d (.lit (.int .i64 s1.2.2.1))), (10, .d (.lit (.bool s1.2.2.2.1))), (11, .d (.lit (.bool s1.2.2.2.2.1)))]) (fun (s1 : Int × Int × Int × Bool × Bool × (List bE)) => [.arr data_0_v 114 4 (s1.2.2.2.2.2.map bT)]) (fun (k : Nat) (s1 : Int × Int × Int × Bool × Bool × (List bE)) => gV cmp_4 k s1.1 s1.2.1 s1.2.2.1 s1.2.2.2.1 s1.2.2.2.2.1 s1.2.2.2.2.2) (fun _ => rfl) (a_1, b_2, limit_3, true, true, data_0) h (aX [0] rfl rfl (aL rfl (aL rfl (aL rfl (aL rfl (aL rfl (aL rfl (aY ⟨rfl, trivial⟩)))))))) ?_
 rintro k2 ⟨a_0_1, b_0_1, limit_0_1, wasBalanced_0_1, wasPartitioned_0_1, data_0_1⟩ h
 simp only [gV] at h
 refine bP ?_
 refine aG ?_
 refine aD ?_
 refine tr1 rfl (aB (v := .d (.lit (.int .i64 b_0_1))) (aA rfl) rfl rfl) ?_
 refine tr1 rfl (aB (v := .d (.lit (.int .i64 a_0_1))) (aA rfl) rfl rfl) ?_
 refine tr1 rfl (aZ (aA rfl) rfl rfl rfl) ?_
 refine tr1 rfl (aJ (v := .d (.lit (.int .i64 ((w64 (b_0_1 - a_0_1)))))) (aA rfl) rfl rfl) ?_
 refine aF ?_
 refine aG ?_
 refine aG ?_
 refine aD ?_
 refine tr1 rfl (aB (v := .d (.lit (.int .i64 ((w64 (b_0_1 - a_0_1)))))) (aA rfl) rfl rfl) ?_
 refine tr1 rfl (bB (aA rfl) rfl rfl rfl) ?_
 refine aF ?_
 refine bH rfl (fun c3 => ?_) (fun c3 => ?_)
 ·have h := aS c3 h
  refine aG ?_
  refine aD ?_
  refine tr1 rfl (aB (v := .d (.lit data_0_v)) (aA rfl) rfl rfl) ?_
  refine tr1 rfl (aB (v := .d (.lit (.int .i64 a_0_1))) (aA rfl) rfl rfl) ?_
  refine tr1 rfl (aB (v := .d (.lit (.int .i64 b_0_1))) (aA rfl) rfl rfl) ?_
  refine tr1 rfl (aB (v := .fn cmp_4_f cmp_4_v) (aA rfl) rfl rfl) ?_
  obtain ⟨r4, h5, h⟩ := bind_some h
  refine bQ rfl (dQ (passed := [.arr data_0_v 114 4 (data_0_1.map bT)]) (aA rfl) rfl (.func _ _ Try.call118) rfl rfl (pW data_0_1 a_0_1 b_0_1 cmp_4 cmp_4_f cmp_4_v cmp_4_e cmp_4_h h5)) ?_
  rintro _ ⟨_, _, ⟨rfl, rfl⟩, rfl⟩
  refine aF ?_
  have h := Option.some.inj h
  subst h
  exact bI ⟨rfl, _, [.arr data_0_v 114 4 (r4.map bT)], [], _, .none, .refl _, .same _, rfl, rfl⟩
 ·have h := aR c3 h
  refine bF ?_
  refine aG ?_
  refine aG ?_
  cases h

theorem uD (x_0 : List bE) (cmp_1 : bE → bE → Option Int) {r : (List bE)} {x_0_v : Value} (cmp_1_f : Nat) (cmp_1_v : List AV) (cmp_1_e : ∀ args w, (callFunc cmp_1_f args).run Try.prog w = .ok (.enter cmp_1_f args) w) (cmp_1_h : ∀ (x0 : bE) (x1 : bE) r, cmp_1 x0 x1 = some r → Fn Try.prog cmp_1_f ([.agg (bT x0), .agg (bT x1)] ++ cmp_1_v) (.d (.lit (.int .i64 r)))) (h : iS x_0 cmp_1 = some r) : gE Try.prog 87 [.d (.lit x_0_v), .fn cmp_1_f cmp_1_v] [.arr x_0_v 114 4 (x_0.map bT)] (fun r' o' => r' = .tup [] ∧ o' = [.arr x_0_v 114 4 (r.map bT)]) := by
 unfold iS at h
 refine kF Try.func87 rfl (rs := []) Try.results87 Try.ntmps87 (Nat.le_of_ble_eq_true rfl) ?_
 refine aG ?_
 refine aD ?_
 refine tr1 rfl (aB (v := .d (.lit x_0_v)) (aA rfl) rfl rfl) ?_
 refine tr1 rfl (lD (m := 0) (aA rfl) rfl rfl qV.of) ?_
 refine tr1 rfl (aJ (v := .d (.lit (.int .i64 ((x_0.length : Int))))) (aA rfl) rfl rfl) ?_
 refine aF ?_
 refine aD ?_
 refine tr1 rfl (aB (v := .d (.lit x_0_v)) (aA rfl) rfl rfl) ?_
 refine tr1 rfl (aB (v := .d (.lit (.int .i64 ((x_0.length : Int))))) (aA rfl) rfl rfl) ?_
 refine tr1 rfl (aB (v := .d (.lit (.int .i64 ((x_0.length : Int))))) (aA rfl) rfl rfl) ?_
 refine tr1 rfl (qT (aA rfl) rfl Try.runUnderlying3 Try.runUnderlying127) ?_
 obtain ⟨r1, h2, h⟩ := bind_some h
 refine tr1 rfl (bY (aA rfl) (.func _ _ Try.call101) rfl rfl (BVs.refl _ _) (aBe _ h2) rfl) ?_
 refine tr1 rfl (aB (v := .fn cmp_1_f cmp_1_v) (aA rfl) rfl rfl) ?_
 obtain ⟨r3, h4, h⟩ := bind_some h
 refine bQ rfl (dQ (passed := [.arr x_0_v 114 4 (x_0.map bT)]) (aA rfl) rfl (.func _ _ Try.call103) rfl rfl (rO x_0 0 (x_0.length : Int) r1 cmp_1 cmp_1_f cmp_1_v cmp_1_e cmp_1_h h4)) ?_
 rintro _ ⟨_, _, ⟨rfl, rfl⟩, rfl⟩
 refine aF ?_
 have h := Option.some.inj h
 subst h
 exact ⟨_, [.arr x_0_v 114 4 (r3.map bT)], [], _, .none, .refl _, .same _, rfl, rfl⟩

theorem yB (x_0 : bE) (y_1 : bE) {r : Int} (h : lJ x_0 y_1 = some r) : Fn Try.prog 88 [.agg (bT x_0), .agg (bT y_1)] (.d (.lit (.int .i64 r))) := by
 unfold lJ at h
 refine Fn.of_tr Try.func88 rfl (rs := [.tmp 4]) Try.results88 Try.ntmps88 (Nat.le_of_ble_eq_true rfl) ?_
 refine aG ?_
 refine aD ?_
 refine bQ rfl (eD (v := .agg (bT x_0)) (aA rfl) rfl rfl rfl) ?_
 rintro _ ⟨b1, rfl⟩
 refine bQ rfl (eD (v := .agg (bT y_1)) (aA rfl) rfl rfl rfl) ?_
 rintro _ ⟨b2, rfl⟩
 refine tr1 rfl (aJ (v := .d (.lit (.int .i64 0))) (aA rfl) rfl rfl) ?_
 refine aF ?_
 refine aG ?_
 refine aD ?_
 refine tr1 rfl (aV (aA rfl) rfl aCk) ?_
 refine tr1 rfl (aW (aA rfl) rfl (i := 1) rfl rfl bG) ?_
 refine tr1 rfl (aV (aA rfl) rfl aCk) ?_
 refine tr1 rfl (aW (aA rfl) rfl (i := 0) rfl rfl bG) ?_
 refine tr1 rfl (aZ (aA rfl) rfl rfl rfl) ?_
 refine tr1 rfl (aV (aA rfl) rfl vU) ?_
 refine tr1 rfl (aW (aA rfl) rfl (i := 1) rfl rfl bG) ?_
 refine tr1 rfl (aV (aA rfl) rfl vU) ?_
 refine tr1 rfl (aW (aA rfl) rfl (i := 0) rfl rfl bG) ?_
 refine tr1 rfl (aZ (aA rfl) rfl rfl rfl) ?_
 refine tr1 rfl (aV (aA rfl) rfl aCl) ?_
 refine tr1 rfl (aW (aA rfl) rfl (i := 0) rfl rfl bG) ?_
 refine tr1 rfl (aV (aA rfl) rfl aCl) ?_
 refine tr1 rfl (aW (aA rfl) rfl (i := 1) rfl rfl bG) ?_
 refine tr1 rfl (aZ (aA rfl) rfl rfl rfl) ?_
 refine tr1 rfl (aV (aA rfl) rfl yN) ?_
 refine tr1 rfl (aW (aA rfl) rfl (i := 0) rfl rfl bG) ?_
 refine tr1 rfl (aV (aA rfl) rfl yN) ?_
 refine tr1 rfl (aW (aA rfl) rfl (i := 1) rfl rfl bG) ?_
 refine tr1 rfl (aZ (aA rfl) rfl rfl rfl) ?_
 refine tr1 rfl (jT (aA rfl) eI rfl rfl (rows := ([w64 (y_1.points - x_0.points), w64 (y_1.musts - x_0.musts), w64 (x_0.many - y_1.many), w64 (x_0.player - y_1.player)]).map cG) rfl (cT (f := cG) fun _ => rfl) rfl (by decide)) ?_
 obtain ⟨r3, h4, h⟩ := bind_some h
 refine tr1 rfl (bY (aA rfl) (.func _ _ Try.call99) rfl rfl (BVs.refl _ _) (yH _ h4) rfl) ?_
 refine tr1 rfl (aJ (v := .d (.lit (.int .i64 r3))) (aA rfl) rfl rfl) ?_
 refine aF ?_
 have h := Option.some.inj h
 subst h
 refine cI (bX (cB (l := [4]) ⟨rfl, trivial⟩)) ?_
 exact bI ⟨rfl, _, .one _, rfl, rfl⟩

theorem vK (b_0 : cE) (week_1 : Int) {r : (List Int)} (h : hB b_0 week_1 = some r) : Fn Try.prog 59 [.cp (cP b_0), .d (.lit (.int .i64 week_1))] (.d (.sl 1 (r.map cG))) := by
 unfold hB at h
 refine Fn.of_tr Try.func59 rfl (rs := [.tmp 4]) Try.results59 Try.ntmps59 (Nat.le_of_ble_eq_true rfl) ?_
 refine aG ?_
 refine aD ?_
 refine tr1 rfl (pM 1 (aA rfl)) ?_
 refine aF ?_
 refine aG ?_
 refine aD ?_
 refine tr1 rfl (hZ 114 4 (.inl rfl) (aA rfl)) ?_
 refine aF ?_
 refine aG ?_
 refine aG ?_
 refine aD ?_
 refine tr1 rfl (aB (v := .cp [.lit (.int .i64 b_0.Ledger.Players), .lit (.int .i64 b_0.Ledger.Counts), .sl 5 (b_0.Ledger.Reports.map aC), .sl 3 (b_0.Ledger.Bans.map aI), .sl 3 (b_0.Ledger.Frozen.map aI)]) (aA rfl) rfl rfl) ?_
 refine tr1 rfl (rB (aA rfl) rfl) ?_
 refine tr1 rfl (cC (aA rfl) rfl iO (es := [.lit (.int .i64 b_0.Ledger.Players), .lit (.int .i64 b_0.Ledger.Counts), .sl 5 (b_0.Ledger.Reports.map aC), .sl 3 (b_0.Ledger.Bans.map aI), .sl 3 (b_0.Ledger.Frozen.map aI)]) rfl) ?_
 refine tr1 rfl (cC (aA rfl) rfl jA (es := [.lit (.int .i64 b_0.Ledger.Players)]) rfl) ?_
 refine tr1 rfl (bZ (aA rfl) rfl bG) ?_
 refine tr1 rfl (aB (v := .d (.lit (.int .i64 0))) (aA rfl) rfl rfl) ?_
 refine aF ?_
 refine bP ?_
 refine cJ [0, 1, 18] (fun (s2 : Int × (List bE) × Value) => [(5, .d (.lit s2.2.2)), (19, .d (.lit (.int .i64 s2.1)))]) (fun (s2 : Int × (List bE) × Value) => [.arr s2.2.2 114 4 (s2.2.1.map bT)]) (fun (k : Nat) (s2 : Int × (List bE) × Value) => fP b_0 week_1 b_0.Ledger.Players k s2.1 s2.2.1) (fun _ => rfl) (0, ([] : List bE), (.slice none 0 0)) h (aX [0] rfl rfl (aL rfl (aL rfl (aY ⟨rfl, rfl, rfl, trivial⟩)))) ?_
 rintro k4 ⟨t19_0_2, lines_0_2, w3⟩ h
 simp only [fP] at h
 refine aG ?_
 refine aD ?_
 refine tr1 rfl (bB (aA rfl) rfl rfl rfl) ?_
 refine aF ?_
 refine aG ?_
 refine bH rfl (fun c5 => ?_) (fun c5 => ?_)
 ·have h := aS c5 h
  refine bF ?_
  refine aG ?_
  refine bP ?_
  refine aG ?_
  refine aD ?_
  refine tr1 rfl (aB (v := .d (.lit (.int .i64 t19_0_2))) (aA rfl) rfl rfl) ?_
  refine tr1 rfl (aJ (v := .d (.lit (.int .i64 t19_0_2))) (aA rfl) rfl rfl) ?_
  refine aF ?_
  refine aG ?_
  refine aD ?_
  refine tr1 rfl (aB (v := .cp [.lit (.int .i64 b_0.Ledger.Players), .lit (.int .i64 b_0.Ledger.Counts), .sl 5 (b_0.Ledger.Reports.map aC), .sl 3 (b_0.Ledger.Bans.map aI), .sl 3 (b_0.Ledger.Frozen.map aI)]) (aA rfl) rfl rfl) ?_
  refine tr1 rfl (aB (v := .d (.lit (.int .i64 t19_0_2))) (aA rfl) rfl rfl) ?_
  refine tr1 rfl (aB (v := .d (.lit (.int .i64 week_1))) (aA rfl) rfl rfl) ?_
  obtain ⟨r6, h7, h⟩ := bind_some h
  refine tr1 rfl (iB (aA rfl) (.func _ _ Try.call72) rfl rfl (uK _ _ _ h7)) ?_
  refine tr1 rfl (aJ (v := .d (.sl 5 (r6.map aC))) (aA rfl) rfl rfl) ?_
  refine aF ?_
  refine aG ?_
  refine aG ?_
  refine aD ?_
  refine tr1 rfl (aB (v := .cp [.lit (.int .i64 b_0.Ledger.Players), .lit (.int .i64 b_0.Ledger.Counts), .sl 5 (b_0.Ledger.Reports.map aC), .sl 3 (b_0.Ledger.Bans.map aI), .sl 3 (b_0.Ledger.Frozen.map aI)]) (aA rfl) rfl rfl) ?_
  refine tr1 rfl (rB (aA rfl) rfl) ?_
  refine tr1 rfl (cC (aA rfl) rfl iO (es := [.lit (.int .i64 b_0.Ledger.Players), .lit (.int .i64 b_0.Ledger.Counts), .sl 5 (b_0.Ledger.Reports.map aC), .sl 3 (b_0.Ledger.Bans.map aI), .sl 3 (b_0.Ledger.Frozen.map aI)]) rfl) ?_
  refine tr1 rfl (cC (aA rfl) rfl oR (es := [.sl 3 (b_0.Ledger.Bans.map aI)]) rfl) ?_
  refine tr1 rfl (bZ (aA rfl) rfl jC) ?_
  refine tr1 rfl (aB (v := .d (.lit (.int .i64 t19_0_2))) (aA rfl) rfl rfl) ?_
  refine tr1 rfl (aB (v := .d (.lit (.int .i64 week_1))) (aA rfl) rfl rfl) ?_
  obtain ⟨r8, h9, h⟩ := bind_some h
  refine tr1 rfl (bY (aA rfl) (.func _ _ Try.call48) rfl rfl (BVs.refl _ _) (wI _ _ _ h9) rfl) ?_
  refine tr1 rfl (aB (v := .d (.lit (.bool r8))) (aA rfl) rfl rfl) ?_
  obtain ⟨b10, h11, h⟩ := bind_some h
  refine cD 4 [0, 1, 5, 6, 7, 18, 19] 38 b10 ?_ ?_
  ·refine bJ (r8) (fun c28 => ?_) (fun c28 => ?_)
   ·have h11 := aS c28 h11
    refine aU rfl rfl (aA rfl) rfl (aA rfl) rfl c28 ?_
    refine aU rfl rfl (aA rfl) rfl (aA rfl) rfl c28 ?_
    refine aU rfl rfl (aA rfl) rfl (aA rfl) rfl c28 ?_
    refine tr1 rfl (bN (v := .d (.lit (.bool true))) (aA rfl) rfl c28 rfl rfl) ?_
    have h11 := Option.some.inj h11
    subst h11
    refine aF (bC rfl ⟨rfl, rfl, rfl, rfl, rfl, rfl, rfl, trivial⟩ rfl)
   ·have h11 := aR c28 h11
    refine aM rfl rfl (aA rfl) rfl c28 (aB (v := .d (.sl 5 (r6.map aC))) (aA rfl) rfl rfl) ?_
    refine aM rfl rfl (aA rfl) rfl c28 (dB (aA rfl) rfl bR.of) ?_
    refine aM rfl rfl (aA rfl) rfl c28 (bB (aA rfl) rfl rfl rfl) ?_
    refine tr1 rfl (bO (v := .d (.lit (.bool ((decide ((r6.length : Int) = 0)))))) (aA rfl) rfl c28 rfl rfl) ?_
    have h11 := Option.some.inj h11
    subst h11
    refine aF (bC rfl ⟨rfl, rfl, rfl, rfl, rfl, rfl, rfl, trivial⟩ rfl)
  ·refine aF ?_
   refine bH rfl (fun c12 => ?_) (fun c12 => ?_)
   ·have h := aS c12 h
    refine cQ ?_
    refine .inl ⟨rfl, ?_⟩
    simp only [lH] at h
    refine aD ?_
    refine tr1 rfl (aZ (aA rfl) rfl rfl rfl) ?_
    refine tr1 rfl (aB (v := .d (.lit (.int .i64 ((w64 (t19_0_2 + 1)))))) (aA rfl) rfl rfl) ?_
    refine aF ?_
    exact ⟨(w64 (t19_0_2 + 1), lines_0_2, w3), h, aX [0] rfl rfl (aL rfl (aL rfl (aY ⟨rfl, rfl, rfl, trivial⟩)))⟩
   ·have h := aR c12 h
    refine bF ?_
    refine aG ?_
    refine aD ?_
    refine tr1 rfl (aB (v := .d (.lit (.int .i64 t19_0_2))) (aA rfl) rfl rfl) ?_
    refine tr1 rfl (aB (v := .cp [.lit (.int .i64 b_0.Ledger.Players), .lit (.int .i64 b_0.Ledger.Counts), .sl 5 (b_0.Ledger.Reports.map aC), .sl 3 (b_0.Ledger.Bans.map aI), .sl 3 (b_0.Ledger.Frozen.map aI)]) (aA rfl) rfl rfl) ?_
    refine tr1 rfl (aB (v := .d (.sl 5 (r6.map aC))) (aA rfl) rfl rfl) ?_
    obtain ⟨r13, h14, h⟩ := bind_some h
    refine tr1 rfl (iB (aA rfl) (.func _ _ Try.call71) rfl rfl (uM _ _ h14)) ?_
    obtain ⟨r15, h16, h⟩ := bind_some h
    refine tr1 rfl (bY (aA rfl) (.func _ _ Try.call86) rfl rfl (BVs.refl _ _) (aBl _ h16) rfl) ?_
    refine tr1 rfl (aB (v := .d (.sl 5 (r6.map aC))) (aA rfl) rfl rfl) ?_
    refine tr1 rfl (dB (aA rfl) rfl bR.of) ?_
    refine tr1 rfl (nT (aA rfl) aKd (zs := [.lit (.int .i64 0), .lit (.int .i64 0), .lit (.int .i64 0), .lit (.int .i64 0)]) rfl rfl rfl rfl (es := [.lit (.int .i64 t19_0_2), .lit (.int .i64 r15), .lit (.int .i64 0), .lit (.int .i64 ((r6.length : Int)))]) rfl) ?_
    refine bQ rfl (fF (zs := [.lit (.int .i64 0), .lit (.int .i64 0), .lit (.int .i64 0), .lit (.int .i64 0)]) (aA rfl) Try.zeroValue114 rfl rfl) ?_
    rintro _ ⟨b17, rfl⟩
    refine tr1 rfl (cF (i := 1) rfl rfl rfl rfl rfl Try.sizeOf114 rfl (aA rfl) (Nat.le_of_ble_eq_true rfl) (ds' := (bT (bE.mk t19_0_2 r15 0 (r6.length : Int)))) rfl) ?_
    refine aF ?_
    refine aG ?_
    refine aG ?_
    refine aD ?_
    refine tr1 rfl (aB (v := .d (.sl 5 (r6.map aC))) (aA rfl) rfl rfl) ?_
    refine tr1 rfl (dB (aA rfl) rfl bR.of) ?_
    refine tr1 rfl (aB (v := .d (.lit (.int .i64 0))) (aA rfl) rfl rfl) ?_
    refine aF ?_
    refine bP ?_
    refine cJ [0, 1, 5, 8, 18, 19, 47, 48] (fun (s18 : Int × bE) => [(49, .d (.lit (.int .i64 s18.1)))]) (fun (s18 : Int × bE) => [.arr w3 114 4 (lines_0_2.map bT), .box b17 0 (bT s18.2)]) (fun (k : Nat) (s18 : Int × bE) => iK (fP b_0 week_1 b_0.Ledger.Players k4) b_0 week_1 b_0.Ledger.Players t19_0_2 r6 (r6.length : Int) lines_0_2 k s18.1 s18.2) (fun _ => rfl) (0, (bE.mk t19_0_2 r15 0 (r6.length : Int))) h (aX [0, 1] rfl rfl (aL rfl (aY ⟨rfl, rfl, rfl, rfl, rfl, rfl, rfl, rfl, trivial⟩))) ?_
    rintro k19 ⟨t49_2_18, x_2_18⟩ h
    simp only [iK] at h
    refine aG ?_
    refine aD ?_
    refine tr1 rfl (bB (aA rfl) rfl rfl rfl) ?_
    refine aF ?_
    refine aG ?_
    refine bH rfl (fun c20 => ?_) (fun c20 => ?_)
    ·have h := aS c20 h
     refine bF ?_
     refine aG ?_
     refine bP ?_
     refine aG ?_
     refine aD ?_
     obtain ⟨x21, h22, h⟩ := bind_some h
     refine tr1 rfl (bM (aA rfl) rfl rfl bR.of (bK aC h22)) ?_
     refine tr1 rfl (eP (aA rfl) rfl dW (es := (aC x21)) rfl rfl) ?_
     refine bQ rfl (fF (zs := [.lit (.int .i64 0), .lit (.int .i64 0), .lit (.int .i64 0), .lit (.int .i64 0), .lit (.bool false)]) (aA rfl) Try.zeroValue42 rfl rfl) ?_
     rintro _ ⟨b23, rfl⟩
     refine tr1 rfl (cF (i := 2) rfl rfl rfl rfl rfl Try.sizeOf42 rfl (aA rfl) (Nat.le_of_ble_eq_true rfl) (ds' := (aC x21)) rfl) ?_
     refine aF ?_
     refine aG ?_
     refine aD ?_
     refine tr1 rfl (aV (aA rfl) rfl kZ) ?_
     refine tr1 rfl (aW (aA rfl) rfl (i := 2) rfl rfl oX) ?_
     refine aF ?_
     refine bH rfl (fun c24 => ?_) (fun c24 => ?_)
     ·have h := aS c24 h
      refine aD ?_
      refine tr1 rfl (aV (aA rfl) rfl vU) ?_
      refine tr1 rfl (aW (aA rfl) rfl (i := 1) rfl rfl bG) ?_
      refine tr1 rfl (aV (aA rfl) rfl iN) ?_
      refine tr1 rfl (aW (aA rfl) rfl (i := 2) rfl rfl bG) ?_
      refine tr1 rfl (aZ (aA rfl) rfl rfl rfl) ?_
      refine tr1 rfl (aV (aA rfl) rfl vU) ?_
      refine tr1 rfl (cF (i := 1) rfl rfl rfl rfl rfl Try.sizeOf3 rfl (aA rfl) (Nat.le_of_ble_eq_true rfl) (ds' := (bT (bE.mk x_2_18.player x_2_18.points (w64 (x_2_18.musts + x21.Points)) x_2_18.many))) rfl) ?_
      refine dA ?_
      refine aD ?_
      refine tr1 rfl (aZ (aA rfl) rfl rfl rfl) ?_
      refine tr1 rfl (aB (v := .d (.lit (.int .i64 ((w64 (t49_2_18 + 1)))))) (aA rfl) rfl rfl) ?_
      refine aF ?_
      exact ⟨(w64 (t49_2_18 + 1), (bE.mk x_2_18.player x_2_18.points (w64 (x_2_18.musts + x21.Points)) x_2_18.many)), h, aX [0, 1] rfl rfl (aL rfl (aY ⟨rfl, rfl, rfl, rfl, rfl, rfl, rfl, rfl, trivial⟩))⟩
     ·have h := aR c24 h
      refine dK ?_
      refine aD ?_
      refine tr1 rfl (aZ (aA rfl) rfl rfl rfl) ?_
      refine tr1 rfl (aB (v := .d (.lit (.int .i64 ((w64 (t49_2_18 + 1)))))) (aA rfl) rfl rfl) ?_
      refine aF ?_
      exact ⟨(w64 (t49_2_18 + 1), x_2_18), h, aX [0, 1] rfl rfl (aL rfl (aY ⟨rfl, rfl, rfl, rfl, rfl, rfl, rfl, rfl, trivial⟩))⟩
    ·have h := aR c20 h
     refine cQ ?_
     refine .inl ⟨rfl, ?_⟩
     simp only [oZ] at h
     refine aD ?_
     refine tr1 rfl (aB (v := .d (.lit w3)) (aA rfl) rfl rfl) ?_
     refine tr1 rfl (cA (aA rfl) rfl (i := 1) rfl uT (es := (bT x_2_18)) rfl rfl) ?_
     refine tr1 rfl (jT (aA rfl) qV rfl rfl (rows := ([x_2_18]).map bT) rfl (cT (f := bT) fun _ => rfl) rfl (by decide)) ?_
     obtain ⟨x25, h26, h⟩ := bind_some h
     refine bQ rfl (kC (i := 0) (aA rfl) qV rfl rfl rfl (fun _ => rfl) h26 rfl) ?_
     rintro _ ⟨v27, rfl⟩
     refine tr1 rfl (aJ (v := .d (.lit v27)) (aA rfl) rfl rfl) ?_
     refine dA ?_
     simp only [lH] at h
     refine aD ?_
     refine tr1 rfl (aZ (aA rfl) rfl rfl rfl) ?_
     refine tr1 rfl (aB (v := .d (.lit (.int .i64 ((w64 (t19_0_2 + 1)))))) (aA rfl) rfl rfl) ?_
     refine aF ?_
     exact ⟨(w64 (t19_0_2 + 1), x25, v27), h, aX [0] rfl rfl (aL rfl (aL rfl (aY ⟨rfl, rfl, rfl, trivial⟩)))⟩
 ·have h := aR c5 h
  refine cQ ?_
  refine .inl ⟨rfl, ?_⟩
  simp only [mQ] at h
  refine aG ?_
  refine aD ?_
  refine tr1 rfl (aB (v := .d (.lit w3)) (aA rfl) rfl rfl) ?_
  obtain ⟨r31, h32, h⟩ := bind_some h
  refine bQ rfl (dQ (passed := [.arr w3 114 4 (lines_0_2.map bT)]) (aA rfl) rfl (.func _ _ Try.call87) rfl rfl (uD lines_0_2 (fun y29 y30 => lJ y29 y30) 88 [] Try.call88 (fun _ _ _ h => yB _ _ h) h32)) ?_
  rintro _ ⟨_, _, ⟨rfl, rfl⟩, rfl⟩
  refine aF ?_
  refine aG ?_
  refine aD ?_
  refine tr1 rfl (hZ 3 1 (.inl rfl) (aA rfl)) ?_
  refine aF ?_
  refine aG ?_
  refine aG ?_
  refine aD ?_
  refine tr1 rfl (aB (v := .d (.lit w3)) (aA rfl) rfl rfl) ?_
  refine tr1 rfl (lD (m := 0) (aA rfl) rfl rfl qV.of) ?_
  refine tr1 rfl (aB (v := .d (.lit (.int .i64 0))) (aA rfl) rfl rfl) ?_
  refine aF ?_
  refine bP ?_
  refine cJ [69, 70] (fun (s34 : Int × (List Int) × Value) => [(11, .d (.lit s34.2.2)), (71, .d (.lit (.int .i64 s34.1)))]) (fun (s34 : Int × (List Int) × Value) => [.arr w3 114 4 (r31.map bT), .arr s34.2.2 3 1 (s34.2.1.map cG)]) (fun (k : Nat) (s34 : Int × (List Int) × Value) => jS (r31.length : Int) r31 k s34.1 s34.2.1) (fun _ => rfl) (0, ([] : List Int), (.slice none 0 0)) h (aX [0, 1] rfl rfl (aL rfl (aL rfl (aY ⟨rfl, rfl, trivial⟩)))) ?_
  rintro k36 ⟨t71_4_34, out_4_34, w35⟩ h
  simp only [jS] at h
  refine aG ?_
  refine aD ?_
  refine tr1 rfl (bB (aA rfl) rfl rfl rfl) ?_
  refine aF ?_
  refine aG ?_
  refine bH rfl (fun c37 => ?_) (fun c37 => ?_)
  ·have h := aS c37 h
   refine bF ?_
   refine aG ?_
   refine bP ?_
   refine aG ?_
   refine aD ?_
   obtain ⟨x38, h39, h⟩ := bind_some h
   refine tr1 rfl (cM (m := 0) (aA rfl) rfl rfl rfl qV.of (bK bT h39)) ?_
   refine tr1 rfl (dH (aA rfl) rfl (l := 0) rfl (eF bT h39) uT (es := (bT x38)) rfl rfl) ?_
   refine bQ rfl (fF (zs := [.lit (.int .i64 0), .lit (.int .i64 0), .lit (.int .i64 0), .lit (.int .i64 0)]) (aA rfl) Try.zeroValue114 rfl rfl) ?_
   rintro _ ⟨b40, rfl⟩
   refine tr1 rfl (cF (i := 2) rfl rfl rfl rfl rfl Try.sizeOf114 rfl (aA rfl) (Nat.le_of_ble_eq_true rfl) (ds' := (bT x38)) rfl) ?_
   refine aF ?_
   refine aD ?_
   refine tr1 rfl (aB (v := .d (.lit w35)) (aA rfl) rfl rfl) ?_
   refine tr1 rfl (aV (aA rfl) rfl yN) ?_
   refine tr1 rfl (aW (aA rfl) rfl (i := 2) rfl rfl bG) ?_
   refine tr1 rfl (jT (aA rfl) eI rfl rfl (rows := ([x38.player]).map cG) rfl (cT (f := cG) fun _ => rfl) rfl (by decide)) ?_
   obtain ⟨x41, h42, h⟩ := bind_some h
   refine bQ rfl (kC (i := 1) (aA rfl) eI rfl rfl rfl (fun _ => rfl) h42 rfl) ?_
   rintro _ ⟨v43, rfl⟩
   refine tr1 rfl (aJ (v := .d (.lit v43)) (aA rfl) rfl rfl) ?_
   refine dA ?_
   refine aD ?_
   refine tr1 rfl (aZ (aA rfl) rfl rfl rfl) ?_
   refine tr1 rfl (aB (v := .d (.lit (.int .i64 ((w64 (t71_4_34 + 1)))))) (aA rfl) rfl rfl) ?_
   refine aF ?_
   exact ⟨(w64 (t71_4_34 + 1), x41, v43), h, aX [0, 1] rfl rfl (aL rfl (aL rfl (aY ⟨rfl, rfl, trivial⟩)))⟩
  ·have h := aR c37 h
   refine cQ ?_
   refine .inl ⟨rfl, ?_⟩
   simp only [rH] at h
   refine aG ?_
   refine aD ?_
   refine tr1 rfl (aB (v := .d (.lit w35)) (aA rfl) rfl rfl) ?_
   refine tr1 rfl (aJ (v := .d (.lit w35)) (aA rfl) rfl rfl) ?_
   refine aF ?_
   have h := Option.some.inj h
   subst h
   refine cI (bX (gG (k := 4) (v := .d (.sl 1 (out_4_34.map cG))) (.d (gY 1 rfl (cT (f := cG) fun _ => rfl))) (wM))) ?_
   exact bI ⟨rfl, _, .one _, rfl, rfl⟩

theorem zY (l_0 : aN) (week_1 : Int) {r : (List Int) × Int} (h : nZ l_0 week_1 = some r) : Fn Try.prog 27 [.agg (aT l_0), .d (.lit (.int .i64 week_1))] (.tup [.d (.sl 1 (r.1.map cG)), .d (.lit (.int .i64 r.2))]) := by
 unfold nZ at h
 refine Fn.of_tr Try.func27 rfl (rs := [.tmp 4, .tmp 5]) Try.results27 Try.ntmps27 (Nat.le_of_ble_eq_true rfl) ?_
 refine aG ?_
 refine aD ?_
 refine bQ rfl (eD (v := .agg (aT l_0)) (aA rfl) rfl rfl rfl) ?_
 rintro _ ⟨b1, rfl⟩
 refine tr1 rfl (pM 1 (aA rfl)) ?_
 refine tr1 rfl (aJ (v := .d (.lit (.int .i64 0))) (aA rfl) rfl rfl) ?_
 refine aF ?_
 refine aG ?_
 refine aD ?_
 refine tr1 rfl (cA (aA rfl) rfl (i := 0) rfl dI (es := (aT l_0)) rfl rfl) ?_
 refine tr1 rfl (aB (v := .d (.lit (.int .i64 week_1))) (aA rfl) rfl rfl) ?_
 obtain ⟨r2, h3, h⟩ := bind_some h
 refine bQ rfl (dQ (passed := []) (aA rfl) rfl (.func _ _ Try.call44) rfl rfl (sQ _ _ _ h3)) ?_
 rintro _ ⟨_, _, ⟨b5, w6, rfl, rfl⟩, rfl⟩
 obtain ⟨_ | y4, e7⟩ := r2
 ·have h := wT h
  refine eR (aX [0] rfl rfl (le_refl _)) ?_
  refine tr1 rfl (aB (v := .tup [.d (.lit (.pointer none)), .d (.lit (.int .i64 e7))]) (aA rfl) rfl rfl) ?_
  refine tr1 rfl (cH (aA rfl) rfl rfl) ?_
  refine tr1 rfl (cH (aA rfl) rfl rfl) ?_
  refine tr1 rfl (aJ (v := .d (.lit (.pointer none))) (aA rfl) rfl rfl) ?_
  refine tr1 rfl (aJ (v := .d (.lit (.int .i64 e7))) (aA rfl) rfl rfl) ?_
  refine aF ?_
  refine aG ?_
  refine aG ?_
  refine aD ?_
  refine tr1 rfl (aB (v := .d (.lit (.int .i64 e7))) (aA rfl) rfl rfl) ?_
  refine tr1 rfl (bB (aA rfl) rfl rfl rfl) ?_
  refine aF ?_
  refine bH rfl (fun c8 => ?_) (fun c8 => ?_)
  ·have h := aS c8 h
   refine aG ?_
   refine aD ?_
   refine tr1 rfl (aB (v := .d (.lit (.int .i64 e7))) (aA rfl) rfl rfl) ?_
   refine tr1 rfl (pM 1 (aA rfl)) ?_
   refine tr1 rfl (aJ (v := .d (.lit (.int .i64 e7))) (aA rfl) rfl rfl) ?_
   refine aF ?_
   have h := Option.some.inj h
   subst h
   refine cI (bX (cB (l := [4, 5]) ⟨rfl, rfl, trivial⟩)) ?_
   exact bI ⟨rfl, _, .two _ _, rfl, rfl⟩
  ·have h := aR c8 h
   refine bF ?_
   refine aG ?_
   refine aD ?_
   refine tr1 rfl (aB (v := .d (.lit (.pointer none))) (aA rfl) rfl rfl) ?_
   refine tr1 rfl (aB (v := .d (.lit (.int .i64 week_1))) (aA rfl) rfl rfl) ?_
   cases h
 ·have h := wU h
  refine eR (aX [0, 1, 2] rfl rfl (le_refl _)) ?_
  refine tr1 rfl (aB (v := .tup [.bp b5 0 0, .d (.lit (.int .i64 e7))]) (aA rfl) rfl rfl) ?_
  refine tr1 rfl (cH (aA rfl) rfl rfl) ?_
  refine tr1 rfl (cH (aA rfl) rfl rfl) ?_
  refine tr1 rfl (aJ (v := .bp b5 0 0) (aA rfl) rfl rfl) ?_
  refine tr1 rfl (aJ (v := .d (.lit (.int .i64 e7))) (aA rfl) rfl rfl) ?_
  refine aF ?_
  refine aG ?_
  refine aG ?_
  refine aD ?_
  refine tr1 rfl (aB (v := .d (.lit (.int .i64 e7))) (aA rfl) rfl rfl) ?_
  refine tr1 rfl (bB (aA rfl) rfl rfl rfl) ?_
  refine aF ?_
  refine bH rfl (fun c9 => ?_) (fun c9 => ?_)
  ·have h := aS c9 h
   refine aG ?_
   refine aD ?_
   refine tr1 rfl (aB (v := .d (.lit (.int .i64 e7))) (aA rfl) rfl rfl) ?_
   refine tr1 rfl (pM 1 (aA rfl)) ?_
   refine tr1 rfl (aJ (v := .d (.lit (.int .i64 e7))) (aA rfl) rfl rfl) ?_
   refine aF ?_
   have h := Option.some.inj h
   subst h
   refine cI (bX (cB (l := [4, 5]) ⟨rfl, rfl, trivial⟩)) ?_
   exact bI ⟨rfl, _, .two _ _, rfl, rfl⟩
  ·have h := aR c9 h
   refine bF ?_
   refine aG ?_
   refine aD ?_
   refine tr1 rfl (aB (v := .bp b5 0 0) (aA rfl) rfl rfl) ?_
   refine tr1 rfl (aB (v := .d (.lit (.int .i64 week_1))) (aA rfl) rfl rfl) ?_
   refine eR (aX [2, 0, 1] rfl rfl (le_refl _)) ?_
   apply aCc [.box b1 0 (aT l_0)] [.box b5 0 [.lit (.int .i64 y4.Ledger.Players), .lit (.int .i64 y4.Ledger.Counts), .lit w6, .sl 3 (y4.Ledger.Bans.map aI), .sl 3 (y4.Ledger.Frozen.map aI)], .arr w6 42 5 (y4.Ledger.Reports.map aC)] rfl
   exact gG (k := 17) (v := .cp [.lit (.int .i64 y4.Ledger.Players), .lit (.int .i64 y4.Ledger.Counts), .sl 5 (y4.Ledger.Reports.map aC), .sl 3 (y4.Ledger.Bans.map aI), .sl 3 (y4.Ledger.Frozen.map aI)]) ((oW 0 rfl rfl (dvc (.same _) (dvc (.same _) (dvc (gY 1 rfl (cT (f := aC) fun _ => rfl)) (dvc (.same _) (dvc (.same _) dvn))))))) (gG (k := 12) (v := .cp [.lit (.int .i64 y4.Ledger.Players), .lit (.int .i64 y4.Ledger.Counts), .sl 5 (y4.Ledger.Reports.map aC), .sl 3 (y4.Ledger.Bans.map aI), .sl 3 (y4.Ledger.Frozen.map aI)]) ((oW 0 rfl rfl (dvc (.same _) (dvc (.same _) (dvc (gY 1 rfl (cT (f := aC) fun _ => rfl)) (dvc (.same _) (dvc (.same _) dvn))))))) (gG (k := 11) (v := .any) (.any _) (gG (k := 8) (v := .any) (.any _) (gG (k := 6) (v := .cp [.lit (.int .i64 y4.Ledger.Players), .lit (.int .i64 y4.Ledger.Counts), .sl 5 (y4.Ledger.Reports.map aC), .sl 3 (y4.Ledger.Bans.map aI), .sl 3 (y4.Ledger.Frozen.map aI)]) ((oW 0 rfl rfl (dvc (.same _) (dvc (.same _) (dvc (gY 1 rfl (cT (f := aC) fun _ => rfl)) (dvc (.same _) (dvc (.same _) dvn))))))) (pF _ _)))))
   obtain ⟨r10, h11, h⟩ := bind_some h
   refine tr1 rfl (iB (aA rfl) (.func _ _ Try.call59) rfl rfl (vK _ _ h11)) ?_
   refine tr1 rfl (aJ (v := .d (.sl 1 (r10.map cG))) (aA rfl) rfl rfl) ?_
   refine tr1 rfl (aJ (v := .d (.lit (.int .i64 0))) (aA rfl) rfl rfl) ?_
   refine aF ?_
   have h := Option.some.inj h
   subst h
   refine cI (bX (cB (l := [4, 5]) ⟨rfl, rfl, trivial⟩)) ?_
   exact bI ⟨rfl, _, .two _ _, rfl, rfl⟩

theorem wL (s_0 : List Int) (f_1 : Int → Option Bool) {r : Int} (f_1_f : Nat) (f_1_v : List AV) (f_1_e : ∀ args w, (callFunc f_1_f args).run Try.prog w = .ok (.enter f_1_f args) w) (f_1_h : ∀ (x0 : Int) r, f_1 x0 = some r → Fn Try.prog f_1_f ([.d (.lit (.int .i64 x0))] ++ f_1_v) (.d (.lit (.bool r)))) (h : pN s_0 f_1 = some r) : Fn Try.prog 81 [.d (.sl 1 (s_0.map cG)), .fn f_1_f f_1_v] (.d (.lit (.int .i64 r))) := by
 unfold pN at h
 refine Fn.of_tr Try.func81 rfl (rs := [.tmp 4]) Try.results81 Try.ntmps81 (Nat.le_of_ble_eq_true rfl) ?_
 refine aG ?_
 refine aD ?_
 refine tr1 rfl (aJ (v := .d (.lit (.int .i64 0))) (aA rfl) rfl rfl) ?_
 refine aF ?_
 refine aG ?_
 refine aG ?_
 refine aD ?_
 refine tr1 rfl (aB (v := .d (.sl 1 (s_0.map cG))) (aA rfl) rfl rfl) ?_
 refine tr1 rfl (dB (aA rfl) rfl eI.of) ?_
 refine tr1 rfl (aB (v := .d (.lit (.int .i64 0))) (aA rfl) rfl rfl) ?_
 refine aF ?_
 refine bP ?_
 refine cJ [0, 1, 7] (fun (s1 : Int) => [(8, .d (.lit (.int .i64 s1)))]) (fun (s1 : Int) => []) (fun (k : Nat) (s1 : Int) => lO s_0 f_1 (s_0.length : Int) k s1) (fun _ => rfl) (0) h (aX [] rfl rfl (aL rfl (aY ⟨rfl, rfl, rfl, trivial⟩))) ?_
 rintro k2 t8_0_1 h
 simp only [lO] at h
 refine aG ?_
 refine aD ?_
 refine tr1 rfl (bB (aA rfl) rfl rfl rfl) ?_
 refine aF ?_
 refine aG ?_
 refine bH rfl (fun c3 => ?_) (fun c3 => ?_)
 ·have h := aS c3 h
  refine bF ?_
  refine aG ?_
  refine bP ?_
  refine aG ?_
  refine aD ?_
  refine tr1 rfl (aB (v := .d (.lit (.int .i64 t8_0_1))) (aA rfl) rfl rfl) ?_
  refine tr1 rfl (aJ (v := .d (.lit (.int .i64 t8_0_1))) (aA rfl) rfl rfl) ?_
  refine aF ?_
  refine aG ?_
  refine aD ?_
  refine tr1 rfl (aB (v := .fn f_1_f f_1_v) (aA rfl) rfl rfl) ?_
  refine tr1 rfl (aB (v := .d (.sl 1 (s_0.map cG))) (aA rfl) rfl rfl) ?_
  refine tr1 rfl (aB (v := .d (.lit (.int .i64 t8_0_1))) (aA rfl) rfl rfl) ?_
  obtain ⟨x4, h5, h⟩ := bind_some h
  refine tr1 rfl (bM (aA rfl) rfl rfl eI.of (bK cG h5)) ?_
  refine tr1 rfl (bZ (aA rfl) rfl bG) ?_
  obtain ⟨r6, h7, h⟩ := bind_some h
  refine tr1 rfl (bY (aA rfl) (.clo _ _ _ _ f_1_e rfl) (tD rfl) rfl (BVs.refl _ _) (f_1_h _ _  h7) rfl) ?_
  refine aF ?_
  refine bH rfl (fun c8 => ?_) (fun c8 => ?_)
  ·have h := aS c8 h
   refine aG ?_
   refine aD ?_
   refine tr1 rfl (aB (v := .d (.lit (.int .i64 t8_0_1))) (aA rfl) rfl rfl) ?_
   refine tr1 rfl (aJ (v := .d (.lit (.int .i64 t8_0_1))) (aA rfl) rfl rfl) ?_
   refine aF ?_
   have h := Option.some.inj h
   subst h
   exact bI ⟨rfl, _, .one _, rfl, rfl⟩
  ·have h := aR c8 h
   refine dK ?_
   refine aD ?_
   refine tr1 rfl (aZ (aA rfl) rfl rfl rfl) ?_
   refine tr1 rfl (aB (v := .d (.lit (.int .i64 ((w64 (t8_0_1 + 1)))))) (aA rfl) rfl rfl) ?_
   refine aF ?_
   exact ⟨(w64 (t8_0_1 + 1)), h, aX [] rfl rfl (aL rfl (aY ⟨rfl, rfl, rfl, trivial⟩))⟩
 ·have h := aR c3 h
  refine cQ ?_
  refine .inl ⟨rfl, ?_⟩
  simp only [rD] at h
  refine aG ?_
  refine aD ?_
  refine tr1 rfl (aJ (v := .d (.lit (.int .i64 (-1)))) (aA rfl) rfl rfl) ?_
  refine aF ?_
  have h := Option.some.inj h
  subst h
  exact bI ⟨rfl, _, .one _, rfl, rfl⟩

theorem qJ (s_0 : List Int) (f_1 : Int → Option Bool) {r : Bool} (f_1_f : Nat) (f_1_v : List AV) (f_1_e : ∀ args w, (callFunc f_1_f args).run Try.prog w = .ok (.enter f_1_f args) w) (f_1_h : ∀ (x0 : Int) r, f_1 x0 = some r → Fn Try.prog f_1_f ([.d (.lit (.int .i64 x0))] ++ f_1_v) (.d (.lit (.bool r)))) (h : lN s_0 f_1 = some r) : Fn Try.prog 45 [.d (.sl 1 (s_0.map cG)), .fn f_1_f f_1_v] (.d (.lit (.bool r))) := by
 unfold lN at h
 refine Fn.of_tr Try.func45 rfl (rs := [.tmp 4]) Try.results45 Try.ntmps45 (Nat.le_of_ble_eq_true rfl) ?_
 refine aG ?_
 refine aD ?_
 refine tr1 rfl (aJ (v := .d (.lit (.bool false))) (aA rfl) rfl rfl) ?_
 refine aF ?_
 refine aG ?_
 refine aD ?_
 refine tr1 rfl (aB (v := .d (.sl 1 (s_0.map cG))) (aA rfl) rfl rfl) ?_
 refine tr1 rfl (aB (v := .fn f_1_f f_1_v) (aA rfl) rfl rfl) ?_
 obtain ⟨r1, h2, h⟩ := bind_some h
 refine tr1 rfl (bY (aA rfl) (.func _ _ Try.call81) rfl rfl (BVs.refl _ _) (wL _ _ f_1_f f_1_v f_1_e f_1_h h2) rfl) ?_
 refine tr1 rfl (bB (aA rfl) rfl rfl rfl) ?_
 refine tr1 rfl (aJ (v := .d (.lit (.bool ((decide (0 ≤ r1)))))) (aA rfl) rfl rfl) ?_
 refine aF ?_
 have h := Option.some.inj h
 subst h
 exact bI ⟨rfl, _, .one _, rfl, rfl⟩

theorem wW (n_0 : Int) {r : Bool} (h : sP n_0 = some r) : Fn Try.prog 46 [.d (.lit (.int .i64 n_0))] (.d (.lit (.bool r))) := by
 unfold sP at h
 refine Fn.of_tr Try.func46 rfl (rs := [.tmp 2]) Try.results46 Try.ntmps46 (Nat.le_of_ble_eq_true rfl) ?_
 refine aG ?_
 refine aD ?_
 refine tr1 rfl (aJ (v := .d (.lit (.bool false))) (aA rfl) rfl rfl) ?_
 refine aF ?_
 refine aG ?_
 refine aD ?_
 refine tr1 rfl (aB (v := .d (.lit (.int .i64 n_0))) (aA rfl) rfl rfl) ?_
 obtain ⟨r1, h2, h⟩ := bind_some h
 refine tr1 rfl (bY (aA rfl) (.func _ _ Try.call47) rfl rfl (BVs.refl _ _) (fI _ _ _ h2) rfl) ?_
 refine tr1 rfl (eN (aA rfl) rfl) ?_
 refine tr1 rfl (aJ (v := .d (.lit (.bool (!r1)))) (aA rfl) rfl rfl) ?_
 refine aF ?_
 have h := Option.some.inj h
 subst h
 exact bI ⟨rfl, _, .one _, rfl, rfl⟩

theorem zF (s_0 : List Int) (v_1 : Int) {r : Int} (h : nK s_0 v_1 = some r) : Fn Try.prog 85 [.d (.sl 1 (s_0.map cG)), .d (.lit (.int .i64 v_1))] (.d (.lit (.int .i64 r))) := by
 unfold nK at h
 refine Fn.of_tr Try.func85 rfl (rs := [.tmp 4]) Try.results85 Try.ntmps85 (Nat.le_of_ble_eq_true rfl) ?_
 refine aG ?_
 refine aD ?_
 refine tr1 rfl (aJ (v := .d (.lit (.int .i64 0))) (aA rfl) rfl rfl) ?_
 refine aF ?_
 refine aG ?_
 refine aG ?_
 refine aD ?_
 refine tr1 rfl (aB (v := .d (.sl 1 (s_0.map cG))) (aA rfl) rfl rfl) ?_
 refine tr1 rfl (dB (aA rfl) rfl eI.of) ?_
 refine tr1 rfl (aB (v := .d (.lit (.int .i64 0))) (aA rfl) rfl rfl) ?_
 refine aF ?_
 refine bP ?_
 refine cJ [0, 1, 7] (fun (s1 : Int) => [(8, .d (.lit (.int .i64 s1)))]) (fun (s1 : Int) => []) (fun (k : Nat) (s1 : Int) => iP s_0 v_1 (s_0.length : Int) k s1) (fun _ => rfl) (0) h (aX [] rfl rfl (aL rfl (aY ⟨rfl, rfl, rfl, trivial⟩))) ?_
 rintro k2 t8_0_1 h
 simp only [iP] at h
 refine aG ?_
 refine aD ?_
 refine tr1 rfl (bB (aA rfl) rfl rfl rfl) ?_
 refine aF ?_
 refine aG ?_
 refine bH rfl (fun c3 => ?_) (fun c3 => ?_)
 ·have h := aS c3 h
  refine bF ?_
  refine aG ?_
  refine bP ?_
  refine aG ?_
  refine aD ?_
  refine tr1 rfl (aB (v := .d (.lit (.int .i64 t8_0_1))) (aA rfl) rfl rfl) ?_
  refine tr1 rfl (aJ (v := .d (.lit (.int .i64 t8_0_1))) (aA rfl) rfl rfl) ?_
  refine aF ?_
  refine aG ?_
  refine aD ?_
  refine tr1 rfl (aB (v := .d (.lit (.int .i64 v_1))) (aA rfl) rfl rfl) ?_
  refine tr1 rfl (aB (v := .d (.sl 1 (s_0.map cG))) (aA rfl) rfl rfl) ?_
  refine tr1 rfl (aB (v := .d (.lit (.int .i64 t8_0_1))) (aA rfl) rfl rfl) ?_
  obtain ⟨x4, h5, h⟩ := bind_some h
  refine tr1 rfl (bM (aA rfl) rfl rfl eI.of (bK cG h5)) ?_
  refine tr1 rfl (bZ (aA rfl) rfl bG) ?_
  refine tr1 rfl (bB (aA rfl) rfl rfl rfl) ?_
  refine aF ?_
  refine bH rfl (fun c6 => ?_) (fun c6 => ?_)
  ·have h := aS c6 h
   refine aG ?_
   refine aD ?_
   refine tr1 rfl (aB (v := .d (.lit (.int .i64 t8_0_1))) (aA rfl) rfl rfl) ?_
   refine tr1 rfl (aJ (v := .d (.lit (.int .i64 t8_0_1))) (aA rfl) rfl rfl) ?_
   refine aF ?_
   have h := Option.some.inj h
   subst h
   exact bI ⟨rfl, _, .one _, rfl, rfl⟩
  ·have h := aR c6 h
   refine dK ?_
   refine aD ?_
   refine tr1 rfl (aZ (aA rfl) rfl rfl rfl) ?_
   refine tr1 rfl (aB (v := .d (.lit (.int .i64 ((w64 (t8_0_1 + 1)))))) (aA rfl) rfl rfl) ?_
   refine aF ?_
   exact ⟨(w64 (t8_0_1 + 1)), h, aX [] rfl rfl (aL rfl (aY ⟨rfl, rfl, rfl, trivial⟩))⟩
 ·have h := aR c3 h
  refine cQ ?_
  refine .inl ⟨rfl, ?_⟩
  simp only [qH] at h
  refine aG ?_
  refine aD ?_
  refine tr1 rfl (aJ (v := .d (.lit (.int .i64 (-1)))) (aA rfl) rfl rfl) ?_
  refine aF ?_
  have h := Option.some.inj h
  subst h
  exact bI ⟨rfl, _, .one _, rfl, rfl⟩

theorem rI (b_0 : cE) (player_1 : Int) (week_2 : Int) {r : Int} (h : kB b_0 player_1 week_2 = some r) : Fn Try.prog 51 [.cp (cP b_0), .d (.lit (.int .i64 player_1)), .d (.lit (.int .i64 week_2))] (.d (.lit (.int .i64 r))) := by
 unfold kB at h
 refine Fn.of_tr Try.func51 rfl (rs := [.tmp 6]) Try.results51 Try.ntmps51 (Nat.le_of_ble_eq_true rfl) ?_
 refine aG ?_
 refine aD ?_
 refine tr1 rfl (aJ (v := .d (.lit (.int .i64 0))) (aA rfl) rfl rfl) ?_
 refine aF ?_
 refine aG ?_
 refine aD ?_
 refine tr1 rfl (aB (v := .cp [.lit (.int .i64 b_0.Ledger.Players), .lit (.int .i64 b_0.Ledger.Counts), .sl 5 (b_0.Ledger.Reports.map aC), .sl 3 (b_0.Ledger.Bans.map aI), .sl 3 (b_0.Ledger.Frozen.map aI)]) (aA rfl) rfl rfl) ?_
 refine tr1 rfl (aB (v := .d (.lit (.int .i64 week_2))) (aA rfl) rfl rfl) ?_
 obtain ⟨r1, h2, h⟩ := bind_some h
 refine tr1 rfl (iB (aA rfl) (.func _ _ Try.call59) rfl rfl (vK _ _ h2)) ?_
 refine tr1 rfl (aB (v := .d (.lit (.int .i64 player_1))) (aA rfl) rfl rfl) ?_
 obtain ⟨r3, h4, h⟩ := bind_some h
 refine tr1 rfl (bY (aA rfl) (.func _ _ Try.call85) rfl rfl (BVs.refl _ _) (zF _ _ h4) rfl) ?_
 refine tr1 rfl (aZ (aA rfl) rfl rfl rfl) ?_
 refine tr1 rfl (aJ (v := .d (.lit (.int .i64 ((w64 (r3 + 1)))))) (aA rfl) rfl rfl) ?_
 refine aF ?_
 have h := Option.some.inj h
 subst h
 exact bI ⟨rfl, _, .one _, rfl, rfl⟩

theorem aCa (book : cE) (pl : Int) (wk : Int) (ms : Bool) (be : Int) (wo : Int) {r : Bool × Int × Int} {book_b book_o : Nat} {bb_b bb_o : Nat} {pl_b pl_o : Nat} {wk_b wk_o : Nat} {ms_b ms_o : Nat} {be_b be_o : Nat} {wo_b wo_o : Nat} (h : vI book pl wk ms be wo = some r) : gE Try.prog 50 [.bp bb_b bb_o 0, .bp pl_b pl_o 0, .bp wk_b wk_o 0, .bp ms_b ms_o 0, .bp be_b be_o 0, .bp wo_b wo_o 0] [.box book_b book_o (cP book), .box bb_b bb_o [hH book_b book_o 0], .box pl_b pl_o [.lit (.int .i64 pl)], .box wk_b wk_o [.lit (.int .i64 wk)], .box ms_b ms_o [.lit (.bool ms)], .box be_b be_o [.lit (.int .i64 be)], .box wo_b wo_o [.lit (.int .i64 wo)]] (fun r' o' => r' = .tup [] ∧ o' = [.box book_b book_o (cP book), .box bb_b bb_o [hH book_b book_o 0], .box pl_b pl_o [.lit (.int .i64 pl)], .box wk_b wk_o [.lit (.int .i64 wk)], .box ms_b ms_o [.lit (.bool r.1)], .box be_b be_o [.lit (.int .i64 r.2.1)], .box wo_b wo_o [.lit (.int .i64 r.2.2)]]) := by
 unfold vI at h
 refine kF Try.func50 rfl (rs := []) Try.results50 Try.ntmps50 (Nat.le_of_ble_eq_true rfl) ?_
 refine aG ?_
 refine aD ?_
 refine tr1 rfl (uA (i := 1) (aA rfl) rfl rfl rfl wS) ?_
 refine tr1 rfl (aW (aA rfl) rfl (i := 2) rfl rfl bG) ?_
 refine tr1 rfl (aW (aA rfl) rfl (i := 3) rfl rfl bG) ?_
 obtain ⟨r1, h2, h⟩ := bind_some h
 refine tr1 rfl (bY (aA rfl) (.func _ _ Try.call51) rfl rfl (.cons ((oW 0 rfl rfl (dvc (.same _) (dvc (.same _) (dvc (.same _) (dvc (.same _) (dvc (.same _) dvn))))))) (.cons (.same _) (.cons (.same _) .nil))) (rI _ _ _ h2) rfl) ?_
 refine tr1 rfl (aJ (v := .d (.lit (.int .i64 r1))) (aA rfl) rfl rfl) ?_
 refine aF ?_
 refine aG ?_
 refine aD ?_
 refine tr1 rfl (aW (aA rfl) rfl (i := 4) rfl rfl oX) ?_
 refine tr1 rfl (aB (v := .d (.lit (.bool ms))) (aA rfl) rfl rfl) ?_
 obtain ⟨b3, h4, h⟩ := bind_some h
 refine cD 3 [3, 4, 5, 6] 15 b3 ?_ ?_
 ·refine bJ (ms) (fun c6 => ?_) (fun c6 => ?_)
  ·have h4 := aS c6 h4
   refine aU rfl rfl (aA rfl) rfl (aA rfl) rfl c6 ?_
   refine aU rfl rfl (aA rfl) rfl (aA rfl) rfl c6 ?_
   refine tr1 rfl (bN (v := .d (.lit (.bool true))) (aA rfl) rfl c6 rfl rfl) ?_
   have h4 := Option.some.inj h4
   subst h4
   refine aF (bC rfl ⟨rfl, rfl, rfl, rfl, trivial⟩ rfl)
  ·have h4 := aR c6 h4
   refine aM rfl rfl (aA rfl) rfl c6 (aB (v := .d (.lit (.int .i64 r1))) (aA rfl) rfl rfl) ?_
   refine aM rfl rfl (aA rfl) rfl c6 (bB (aA rfl) rfl rfl rfl) ?_
   refine tr1 rfl (bO (v := .d (.lit (.bool ((decide (r1 = 0)))))) (aA rfl) rfl c6 rfl rfl) ?_
   have h4 := Option.some.inj h4
   subst h4
   refine aF (bC rfl ⟨rfl, rfl, rfl, rfl, trivial⟩ rfl)
 ·refine tr1 rfl (cF (i := 4) rfl rfl rfl rfl rfl Try.sizeOf4 rfl (aA rfl) (Nat.le_of_ble_eq_true rfl) (ds' := [.lit (.bool b3)]) rfl) ?_
  refine aF ?_
  refine oG mix 7 [5] (fun X5 => [(21, .d (.lit (.int .i64 ((max wo r1)))))]) (fun X5 => [.box book_b book_o (cP book), .box bb_b bb_o [hH book_b book_o 0], .box pl_b pl_o [.lit (.int .i64 pl)], .box wk_b wk_o [.lit (.int .i64 wk)], .box ms_b ms_o [.lit (.bool b3)], .box be_b be_o [.lit (.int .i64 ((min be r1)))], .box wo_b wo_o [.lit (.int .i64 wo)]]) ?_ ?_
  ·refine ⟨0, fun X5 => [(16, 0, .d (.lit (.int .i64 be))), (17, 1, .d (.lit (.int .i64 r1))), (18, 2, .d (.lit (.int .i64 ((min be r1))))), (19, 3, .d (.lit (.int .i64 wo))), (20, 4, .d (.lit (.int .i64 r1))), (21, 5, .d (.lit (.int .i64 ((max wo r1)))))], fun X5 => [([], .box book_b book_o (cP book)), ([], .box bb_b bb_o [hH book_b book_o 0]), ([], .box pl_b pl_o [.lit (.int .i64 pl)]), ([], .box wk_b wk_o [.lit (.int .i64 wk)]), ([], .box ms_b ms_o [.lit (.bool b3)]), ([(6, .box be_b be_o [.lit (.int .i64 ((min be r1)))])], .box be_b be_o [.lit (.int .i64 be)]), ([], .box wo_b wo_o [.lit (.int .i64 wo)])], ?_, ?_⟩
   · exact ⟨by kernel_rfl, by kernel_rfl, by kernel_rfl, fun _ => by kernel_rfl, fun _ => by kernel_rfl, fun _ => by kernel_rfl, fun _ => rfl, [([], [6]), ([], [6]), ([0, 1], [6]), ([], []), ([], []), ([3, 4], []), ([2], [])], by kernel_rfl, ⟨fun X5 S hw hi hS => bW (X := X5) rfl (hw X5) rfl (aQ rfl (aW (aA rfl) (aH hS rfl) (i := 5) (og hS rfl rfl) rfl bG)),
      fun X5 S hw hi hS => bW (X := X5) rfl (hw X5) rfl (aQ rfl (aB (v := .d (.lit (.int .i64 r1))) (aA rfl) (aH hS rfl) rfl)),
      fun X5 S hw hi hS => bW (X := X5) rfl (hw X5) rfl (aQ rfl (aDg (aA rfl) (aH hS rfl) (aH hS rfl))),
      fun X5 S hw hi hS => bW (X := X5) rfl (hw X5) rfl (aQ rfl (aW (aA rfl) (aH hS rfl) (i := 6) (og hS rfl rfl) rfl bG)),
      fun X5 S hw hi hS => bW (X := X5) rfl (hw X5) rfl (aQ rfl (aB (v := .d (.lit (.int .i64 r1))) (aA rfl) (aH hS rfl) rfl)),
      fun X5 S hw hi hS => bW (X := X5) rfl (hw X5) rfl (aQ rfl (aDf (aA rfl) (aH hS rfl) (aH hS rfl))),
      fun X5 S hw hi hS => sH (X := X5) hS rfl rfl rfl (p := 5) rfl rfl (aQ rfl (cF (i := 5) (aH hS rfl) (og hS rfl rfl) (aH hS rfl) rfl rfl Try.sizeOf3 rfl (aA rfl) (Nat.le_of_ble_eq_true rfl) (ds' := [.lit (.int .i64 ((min be r1)))]) rfl)), trivial⟩⟩
   · exact fun X5 => dJ (aL rfl (aY ⟨rfl, trivial⟩))
  ·intro X5
   refine tr1 rfl (cF (i := 6) rfl rfl rfl rfl rfl Try.sizeOf3 rfl (aA rfl) (Nat.le_of_ble_eq_true rfl) (ds' := [.lit (.int .i64 ((max wo r1)))]) rfl) ?_
   refine aF ?_
   have h := Option.some.inj h
   subst h
   exact ⟨_, [.box book_b book_o (cP book), .box bb_b bb_o [hH book_b book_o 0], .box pl_b pl_o [.lit (.int .i64 pl)], .box wk_b wk_o [.lit (.int .i64 wk)], .box ms_b ms_o [.lit (.bool b3)], .box be_b be_o [.lit (.int .i64 ((min be r1)))], .box wo_b wo_o [.lit (.int .i64 ((max wo r1)))]], [], _, .none, .refl _, .same _, rfl, rfl⟩

theorem zE (n_1 : Int) {r : (List Int)} (h : sY n_1 = some r) : gE Try.prog 102 [.d (.lit (.slice none 0 0)), .d (.lit (.int .i64 n_1))] [] (fun r' o' => ∃ (w0 : Value), r' = .d (.lit w0) ∧ o' = [.arr w0 3 1 (r.map cG)]) := by
 unfold sY at h
 refine lZ Try.func102 rfl (rs := [.tmp 4]) Try.results102 Try.ntmps102 (Nat.le_of_ble_eq_true rfl) ?_
 refine cI (xE 3 1) ?_
 refine aG ?_
 refine aD ?_
 refine tr1 rfl (hZ 3 1 (.inl rfl) (aA rfl)) ?_
 refine aF ?_
 refine aG ?_
 refine aG ?_
 refine aD ?_
 refine tr1 rfl (aB (v := .d (.lit (.int .i64 n_1))) (aA rfl) rfl rfl) ?_
 refine tr1 rfl (bB (aA rfl) rfl rfl rfl) ?_
 refine aF ?_
 refine bH rfl (fun c2 => ?_) (fun c2 => ?_)
 ·have h := aS c2 h
  cases h
 ·have h := aR c2 h
  refine bF ?_
  refine aG ?_
  refine aG ?_
  refine aD ?_
  refine tr1 rfl (aB (v := .d (.lit (.int .i64 n_1))) (aA rfl) rfl rfl) ?_
  refine tr1 rfl (aB (v := .d (.lit (.slice none 0 0))) (aA rfl) rfl rfl) ?_
  refine tr1 rfl (aCt (aA rfl) rfl eI.of) ?_
  refine tr1 rfl (aB (v := .d (.lit (.slice none 0 0))) (aA rfl) rfl rfl) ?_
  refine tr1 rfl (aCu (aA rfl) rfl eI.of) ?_
  refine tr1 rfl (aZ (aA rfl) rfl rfl rfl) ?_
  refine tr1 rfl (aZ (aA rfl) rfl rfl rfl) ?_
  refine tr1 rfl (aJ (v := .d (.lit (.int .i64 ((w64 (n_1 - (w64 (0 - 0)))))))) (aA rfl) rfl rfl) ?_
  refine aF ?_
  refine aG ?_
  refine aD ?_
  refine tr1 rfl (aB (v := .d (.lit (.int .i64 ((w64 (n_1 - (w64 (0 - 0)))))))) (aA rfl) rfl rfl) ?_
  refine tr1 rfl (bB (aA rfl) rfl rfl rfl) ?_
  refine aF ?_
  refine bH rfl (fun c3 => ?_) (fun c3 => ?_)
  ·have h := aS c3 h
   refine aD ?_
   refine tr1 rfl (aB (v := .d (.lit (.slice none 0 0))) (aA rfl) rfl rfl) ?_
   refine tr1 rfl (aB (v := .d (.lit (.slice none 0 0))) (aA rfl) rfl rfl) ?_
   refine tr1 rfl (aCt (aA rfl) rfl eI.of) ?_
   obtain ⟨u4, h5, h⟩ := bind_some h
   refine tr1 rfl (qU (m := 0) (q := 0) (v := (.slice none 0 0)) (aA rfl) rfl rfl rfl rfl (yG h5) eI.of) ?_
   refine tr1 rfl (aB (v := .d (.lit (.int .i64 ((w64 (n_1 - (w64 (0 - 0)))))))) (aA rfl) rfl rfl) ?_
   obtain ⟨u6, h7, h⟩ := bind_some h
   refine bQ rfl (aIn (i := 0) (aA rfl) eI rfl rfl rfl Try.underlying3 (aDn h7).1 (aDn h7).2 (by decide)) ?_
   rintro _ ⟨v8, rfl⟩
   refine tr1 rfl (aB (v := .d (.lit (.slice none 0 0))) (aA rfl) rfl rfl) ?_
   refine tr1 rfl (aCu (aA rfl) rfl eI.of) ?_
   obtain ⟨u9, h10, h⟩ := bind_some h
   refine tr1 rfl (qU (m := 0) (q := 0) (v := v8) (aA rfl) rfl rfl rfl rfl (yG h10) eI.of) ?_
   refine tr1 rfl (aJ (v := .d (.lit (fZ v8 0))) (aA rfl) rfl rfl) ?_
   refine aF ?_
   refine aG ?_
   refine aD ?_
   refine tr1 rfl (aB (v := .d (.lit (fZ v8 0))) (aA rfl) rfl rfl) ?_
   refine tr1 rfl (aJ (v := .d (.lit (fZ v8 0))) (aA rfl) rfl rfl) ?_
   refine aF ?_
   have h := Option.some.inj h
   subst h
   exact bI ⟨rfl, _, [.arr (fZ v8 0) 3 1 (([] : List Int).map cG)], [.arr (.slice none 0 0) 3 1 (([] : List Int).map cG)], _, .one (.tmp 4 (v := .d (.lit (fZ v8 0))) rfl), .refl _, .same _, (fZ v8 0), rfl, rfl⟩
  ·have h := aR c3 h
   refine bF ?_
   refine aG ?_
   refine aD ?_
   refine tr1 rfl (aB (v := .d (.lit (.slice none 0 0))) (aA rfl) rfl rfl) ?_
   refine tr1 rfl (aJ (v := .d (.lit (.slice none 0 0))) (aA rfl) rfl rfl) ?_
   refine aF ?_
   have h := Option.some.inj h
   subst h
   exact bI ⟨rfl, _, [.arr (.slice none 0 0) 3 1 (([] : List Int).map cG)], [.arr (.slice none 0 0) 3 1 (([] : List Int).map cG)], _, .one (.tmp 4 (v := .d (.lit (.slice none 0 0))) rfl), .refl _, .same _, (.slice none 0 0), rfl, rfl⟩

theorem yC (slices_0 : List (List Int)) {r : (List Int)} (h : rJ slices_0 = some r) : Fn Try.prog 84 [.d (.sl 1 (slices_0.map sF))] (.d (.sl 1 (r.map cG))) := by
 unfold rJ at h
 refine Fn.of_tr Try.func84 rfl (rs := [.tmp 2]) Try.results84 Try.ntmps84 (Nat.le_of_ble_eq_true rfl) ?_
 refine aG ?_
 refine aD ?_
 refine tr1 rfl (pM 1 (aA rfl)) ?_
 refine aF ?_
 refine aG ?_
 refine aD ?_
 refine tr1 rfl (aJ (v := .d (.lit (.int .i64 0))) (aA rfl) rfl rfl) ?_
 refine aF ?_
 refine aG ?_
 refine aG ?_
 refine aD ?_
 refine tr1 rfl (aB (v := .d (.sl 1 (slices_0.map sF))) (aA rfl) rfl rfl) ?_
 refine tr1 rfl (dB (aA rfl) rfl zD.of) ?_
 refine tr1 rfl (aB (v := .d (.lit (.int .i64 0))) (aA rfl) rfl rfl) ?_
 refine aF ?_
 refine bP ?_
 refine cJ [0, 9, 10] (fun (s1 : Int × Int) => [(3, .d (.lit (.int .i64 s1.1))), (11, .d (.lit (.int .i64 s1.2)))]) (fun (s1 : Int × Int) => []) (fun (k : Nat) (s1 : Int × Int) => mV slices_0 slices_0 (slices_0.length : Int) k s1.1 s1.2) (fun _ => rfl) (0, 0) h (aX [] rfl rfl (aL rfl (aL rfl (aY ⟨rfl, rfl, rfl, trivial⟩)))) ?_
 rintro k2 ⟨size_0_1, t11_0_1⟩ h
 simp only [mV] at h
 refine aG ?_
 refine aD ?_
 refine tr1 rfl (bB (aA rfl) rfl rfl rfl) ?_
 refine aF ?_
 refine aG ?_
 refine bH rfl (fun c3 => ?_) (fun c3 => ?_)
 ·have h := aS c3 h
  refine bF ?_
  refine aG ?_
  refine bP ?_
  refine aG ?_
  refine aD ?_
  obtain ⟨x4, h5, h⟩ := bind_some h
  refine tr1 rfl (bM (aA rfl) rfl rfl zD.of (bK sF h5)) ?_
  refine tr1 rfl (bZ (aA rfl) rfl aHn) ?_
  refine tr1 rfl (aJ (v := .d (.sl 1 (x4.map cG))) (aA rfl) rfl rfl) ?_
  refine aF ?_
  refine aG ?_
  refine aD ?_
  refine tr1 rfl (aB (v := .d (.lit (.int .i64 size_0_1))) (aA rfl) rfl rfl) ?_
  refine tr1 rfl (aB (v := .d (.sl 1 (x4.map cG))) (aA rfl) rfl rfl) ?_
  refine tr1 rfl (dB (aA rfl) rfl eI.of) ?_
  refine tr1 rfl (aZ (aA rfl) rfl rfl rfl) ?_
  refine tr1 rfl (aJ (v := .d (.lit (.int .i64 ((w64 (size_0_1 + (x4.length : Int))))))) (aA rfl) rfl rfl) ?_
  refine aF ?_
  refine aG ?_
  refine aD ?_
  refine tr1 rfl (aB (v := .d (.lit (.int .i64 ((w64 (size_0_1 + (x4.length : Int))))))) (aA rfl) rfl rfl) ?_
  refine tr1 rfl (bB (aA rfl) rfl rfl rfl) ?_
  refine aF ?_
  refine bH rfl (fun c6 => ?_) (fun c6 => ?_)
  ·have h := aS c6 h
   cases h
  ·have h := aR c6 h
   refine dK ?_
   refine aD ?_
   refine tr1 rfl (aZ (aA rfl) rfl rfl rfl) ?_
   refine tr1 rfl (aB (v := .d (.lit (.int .i64 ((w64 (t11_0_1 + 1)))))) (aA rfl) rfl rfl) ?_
   refine aF ?_
   exact ⟨(w64 (size_0_1 + (x4.length : Int)), w64 (t11_0_1 + 1)), h, aX [] rfl rfl (aL rfl (aL rfl (aY ⟨rfl, rfl, rfl, trivial⟩)))⟩
 ·have h := aR c3 h
  refine cQ ?_
  refine .inl ⟨rfl, ?_⟩
  simp only [sV] at h
  refine aG ?_
  refine aD ?_
  refine tr1 rfl (aB (v := .d (.lit (.int .i64 size_0_1))) (aA rfl) rfl rfl) ?_
  obtain ⟨r7, h8, h⟩ := bind_some h
  refine bQ rfl (uR (aA rfl) (.func _ _ Try.call102) rfl rfl (zE _ h8)) ?_
  rintro _ ⟨v9, rfl⟩
  refine tr1 rfl (aJ (v := .d (.lit v9)) (aA rfl) rfl rfl) ?_
  refine aF ?_
  refine aG ?_
  refine aG ?_
  refine aD ?_
  refine tr1 rfl (aB (v := .d (.sl 1 (slices_0.map sF))) (aA rfl) rfl rfl) ?_
  refine tr1 rfl (dB (aA rfl) rfl zD.of) ?_
  refine tr1 rfl (aB (v := .d (.lit (.int .i64 0))) (aA rfl) rfl rfl) ?_
  refine aF ?_
  refine bP ?_
  refine cJ [25, 26] (fun (s10 : Int × (List Int) × Value) => [(6, .d (.lit s10.2.2)), (27, .d (.lit (.int .i64 s10.1)))]) (fun (s10 : Int × (List Int) × Value) => [.arr s10.2.2 3 1 (s10.2.1.map cG)]) (fun (k : Nat) (s10 : Int × (List Int) × Value) => mW slices_0 (slices_0.length : Int) k s10.1 s10.2.1) (fun _ => rfl) (0, r7, v9) h (aX [0] rfl rfl (aL rfl (aL rfl (aY ⟨rfl, rfl, trivial⟩)))) ?_
  rintro k12 ⟨t27_2_10, o24_2_10, w11⟩ h
  simp only [mW] at h
  refine aG ?_
  refine aD ?_
  refine tr1 rfl (bB (aA rfl) rfl rfl rfl) ?_
  refine aF ?_
  refine aG ?_
  refine bH rfl (fun c13 => ?_) (fun c13 => ?_)
  ·have h := aS c13 h
   refine bF ?_
   refine aG ?_
   refine bP ?_
   refine aG ?_
   refine aD ?_
   obtain ⟨x14, h15, h⟩ := bind_some h
   refine tr1 rfl (bM (aA rfl) rfl rfl zD.of (bK sF h15)) ?_
   refine tr1 rfl (bZ (aA rfl) rfl aHn) ?_
   refine tr1 rfl (aJ (v := .d (.sl 1 (x14.map cG))) (aA rfl) rfl rfl) ?_
   refine aF ?_
   refine aD ?_
   refine tr1 rfl (aB (v := .d (.lit w11)) (aA rfl) rfl rfl) ?_
   refine tr1 rfl (aB (v := .d (.sl 1 (x14.map cG))) (aA rfl) rfl rfl) ?_
   obtain ⟨x16, h17, h⟩ := bind_some h
   refine bQ rfl (kC (i := 0) (aA rfl) eI rfl rfl rfl (fun _ => rfl) h17 rfl) ?_
   rintro _ ⟨v18, rfl⟩
   refine tr1 rfl (aJ (v := .d (.lit v18)) (aA rfl) rfl rfl) ?_
   refine dA ?_
   refine aD ?_
   refine tr1 rfl (aZ (aA rfl) rfl rfl rfl) ?_
   refine tr1 rfl (aB (v := .d (.lit (.int .i64 ((w64 (t27_2_10 + 1)))))) (aA rfl) rfl rfl) ?_
   refine aF ?_
   exact ⟨(w64 (t27_2_10 + 1), x16, v18), h, aX [0] rfl rfl (aL rfl (aL rfl (aY ⟨rfl, rfl, trivial⟩)))⟩
  ·have h := aR c13 h
   refine cQ ?_
   refine .inl ⟨rfl, ?_⟩
   simp only [sW] at h
   refine aG ?_
   refine aD ?_
   refine tr1 rfl (aB (v := .d (.lit w11)) (aA rfl) rfl rfl) ?_
   refine tr1 rfl (aJ (v := .d (.lit w11)) (aA rfl) rfl rfl) ?_
   refine aF ?_
   have h := Option.some.inj h
   subst h
   refine cI (bX (gG (k := 2) (v := .d (.sl 1 (o24_2_10.map cG))) (.d (gY 0 rfl (cT (f := cG) fun _ => rfl))) (wM))) ?_
   exact bI ⟨rfl, _, .one _, rfl, rfl⟩

theorem xJ (kr : Nat) : ∀ (book : cE) (pl : Int) (wk : Int) (ms : Bool) (be : Int) (wo : Int) (week_1 : Int) (prizes_2 : List Int) (free_3 : List Int) {r : cE × Bool × Int × Int} {book_b book_o : Nat} {bb_b bb_o : Nat} {pl_b pl_o : Nat} {wk_b wk_o : Nat} {ms_b ms_o : Nat} {be_b be_o : Nat} {wo_b wo_o : Nat} (_h : lS kr book pl wk ms be wo week_1 prizes_2 free_3 = some r), gE Try.prog 49 [.bp book_b book_o 0, .d (.lit (.int .i64 week_1)), .d (.sl 1 (prizes_2.map cG)), .d (.sl 1 (free_3.map cG)), .fn 50 [.bp bb_b bb_o 0, .bp pl_b pl_o 0, .bp wk_b wk_o 0, .bp ms_b ms_o 0, .bp be_b be_o 0, .bp wo_b wo_o 0]] [.box book_b book_o (cP book), .box bb_b bb_o [hH book_b book_o 0], .box pl_b pl_o [.lit (.int .i64 pl)], .box wk_b wk_o [.lit (.int .i64 wk)], .box ms_b ms_o [.lit (.bool ms)], .box be_b be_o [.lit (.int .i64 be)], .box wo_b wo_o [.lit (.int .i64 wo)]] (fun r' o' => r' = .tup [] ∧ o' = [.box book_b book_o (cP r.1), .box bb_b bb_o [hH book_b book_o 0], .box pl_b pl_o [.lit (.int .i64 pl)], .box wk_b wk_o [.lit (.int .i64 wk)], .box ms_b ms_o [.lit (.bool r.2.1)], .box be_b be_o [.lit (.int .i64 r.2.2.1)], .box wo_b wo_o [.lit (.int .i64 r.2.2.2)]]) := by
  induction kr with
  | zero => intros; rename_i h; cases h
  | succ kr ih =>
    intro book pl wk ms be wo week_1 prizes_2 free_3 r book_b book_o bb_b bb_o pl_b pl_o wk_b wk_o ms_b ms_o be_b be_o wo_b wo_o h
    simp only [lS] at h
    refine kF Try.func49 rfl (rs := []) Try.results49 Try.ntmps49 (Nat.le_of_ble_eq_true rfl) ?_
    refine aG ?_
    refine aG ?_
    refine aD ?_
    refine tr1 rfl (aB (v := .d (.sl 1 (prizes_2.map cG))) (aA rfl) rfl rfl) ?_
    refine tr1 rfl (dB (aA rfl) rfl eI.of) ?_
    refine tr1 rfl (bB (aA rfl) rfl rfl rfl) ?_
    refine tr1 rfl (aB (v := .d (.lit (.bool ((decide ((prizes_2.length : Int) = 0)))))) (aA rfl) rfl rfl) ?_
    obtain ⟨b1, h2, h⟩ := bind_some h
    refine cD 4 [0, 1, 2, 3, 4] 20 b1 ?_ ?_
    ·refine bJ (decide ((prizes_2.length : Int) = 0)) (fun c30 => ?_) (fun c30 => ?_)
     ·have h2 := aS c30 h2
      refine aU rfl rfl (aA rfl) rfl (aA rfl) rfl c30 ?_
      refine aU rfl rfl (aA rfl) rfl (aA rfl) rfl c30 ?_
      refine aU rfl rfl (aA rfl) rfl (aA rfl) rfl c30 ?_
      refine tr1 rfl (bN (v := .d (.lit (.bool true))) (aA rfl) rfl c30 rfl rfl) ?_
      have h2 := Option.some.inj h2
      subst h2
      refine aF (bC rfl ⟨rfl, rfl, rfl, rfl, rfl, trivial⟩ rfl)
     ·have h2 := aR c30 h2
      refine aM rfl rfl (aA rfl) rfl c30 (aB (v := .d (.sl 1 (free_3.map cG))) (aA rfl) rfl rfl) ?_
      refine aM rfl rfl (aA rfl) rfl c30 (dB (aA rfl) rfl eI.of) ?_
      refine aM rfl rfl (aA rfl) rfl c30 (bB (aA rfl) rfl rfl rfl) ?_
      refine tr1 rfl (bO (v := .d (.lit (.bool ((decide ((free_3.length : Int) = 0)))))) (aA rfl) rfl c30 rfl rfl) ?_
      have h2 := Option.some.inj h2
      subst h2
      refine aF (bC rfl ⟨rfl, rfl, rfl, rfl, rfl, trivial⟩ rfl)
    ·refine aF ?_
     refine bH rfl (fun c3 => ?_) (fun c3 => ?_)
     ·have h := aS c3 h
      refine aG ?_
      refine aD ?_
      refine tr1 rfl (aB (v := .fn 50 [.bp bb_b bb_o 0, .bp pl_b pl_o 0, .bp wk_b wk_o 0, .bp ms_b ms_o 0, .bp be_b be_o 0, .bp wo_b wo_o 0]) (aA rfl) rfl rfl) ?_
      obtain ⟨r4, h5, h⟩ := bind_some h
      refine bQ rfl (dQ (passed := [.box book_b book_o (cP book), .box bb_b bb_o [hH book_b book_o 0], .box pl_b pl_o [.lit (.int .i64 pl)], .box wk_b wk_o [.lit (.int .i64 wk)], .box ms_b ms_o [.lit (.bool ms)], .box be_b be_o [.lit (.int .i64 be)], .box wo_b wo_o [.lit (.int .i64 wo)]]) (aA rfl) rfl (.clo _ _ _ _ Try.call50 rfl) (tD rfl) rfl (aCa book pl wk ms be wo h5)) ?_
      rintro _ ⟨_, _, ⟨rfl, rfl⟩, rfl⟩
      refine aF ?_
      have h := Option.some.inj h
      subst h
      exact bI ⟨rfl, _, [.box book_b book_o (cP book), .box bb_b bb_o [hH book_b book_o 0], .box pl_b pl_o [.lit (.int .i64 pl)], .box wk_b wk_o [.lit (.int .i64 wk)], .box ms_b ms_o [.lit (.bool r4.1)], .box be_b be_o [.lit (.int .i64 r4.2.1)], .box wo_b wo_o [.lit (.int .i64 r4.2.2)]], [], _, .none, .refl _, .same _, rfl, rfl⟩
     ·have h := aR c3 h
      refine bF ?_
      refine aG ?_
      refine aD ?_
      refine tr1 rfl (aB (v := .bp book_b book_o 0) (aA rfl) rfl rfl) ?_
      refine tr1 rfl (kN (aA rfl) rfl) ?_
      refine tr1 rfl (aV (aA rfl) rfl iO) ?_
      refine tr1 rfl (aV (aA rfl) rfl eK) ?_
      refine tr1 rfl (aW (aA rfl) rfl (i := 0) rfl rfl jB) ?_
      refine tr1 rfl (dB (aA rfl) rfl bR.of) ?_
      refine tr1 rfl (aJ (v := .d (.lit (.int .i64 ((book.Ledger.Reports.length : Int))))) (aA rfl) rfl rfl) ?_
      refine aF ?_
      refine aG ?_
      refine aG ?_
      refine aD ?_
      refine tr1 rfl (aB (v := .d (.sl 1 (free_3.map cG))) (aA rfl) rfl rfl) ?_
      refine tr1 rfl (dB (aA rfl) rfl eI.of) ?_
      refine tr1 rfl (aB (v := .d (.lit (.int .i64 0))) (aA rfl) rfl rfl) ?_
      refine aF ?_
      refine bP ?_
      refine cJ [0, 1, 2, 3, 4, 10, 29, 30] (fun (s6 : Int × cE × Bool × Int × Int) => [(31, .d (.lit (.int .i64 s6.1)))]) (fun (s6 : Int × cE × Bool × Int × Int) => [.box book_b book_o (cP s6.2.1), .box bb_b bb_o [hH book_b book_o 0], .box pl_b pl_o [.lit (.int .i64 pl)], .box wk_b wk_o [.lit (.int .i64 wk)], .box ms_b ms_o [.lit (.bool s6.2.2.1)], .box be_b be_o [.lit (.int .i64 s6.2.2.2.1)], .box wo_b wo_o [.lit (.int .i64 s6.2.2.2.2)]]) (fun (k : Nat) (s6 : Int × cE × Bool × Int × Int) => mU (lS kr) week_1 prizes_2 free_3 (book.Ledger.Reports.length : Int) free_3 (free_3.length : Int) pl wk k s6.1 s6.2.1 s6.2.2.1 s6.2.2.2.1 s6.2.2.2.2) (fun _ => rfl) (0, book, ms, be, wo) h (aX [0, 1, 2, 3, 4, 5, 6] rfl rfl (aL rfl (aY ⟨rfl, rfl, rfl, rfl, rfl, rfl, rfl, rfl, trivial⟩))) ?_
      rintro k7 ⟨t31_0_6, b_0_6, b_0_6_4, b_0_6_5, b_0_6_6⟩ h
      simp only [mU] at h
      refine aG ?_
      refine aD ?_
      refine tr1 rfl (bB (aA rfl) rfl rfl rfl) ?_
      refine aF ?_
      refine aG ?_
      refine bH rfl (fun c8 => ?_) (fun c8 => ?_)
      ·have h := aS c8 h
       refine bF ?_
       refine aG ?_
       refine bP ?_
       refine aG ?_
       refine aD ?_
       refine tr1 rfl (aB (v := .d (.lit (.int .i64 t31_0_6))) (aA rfl) rfl rfl) ?_
       obtain ⟨x9, h10, h⟩ := bind_some h
       refine tr1 rfl (bM (aA rfl) rfl rfl eI.of (bK cG h10)) ?_
       refine tr1 rfl (bZ (aA rfl) rfl bG) ?_
       refine tr1 rfl (aJ (v := .d (.lit (.int .i64 t31_0_6))) (aA rfl) rfl rfl) ?_
       refine tr1 rfl (aJ (v := .d (.lit (.int .i64 x9))) (aA rfl) rfl rfl) ?_
       refine aF ?_
       refine aG ?_
       obtain ⟨x12, h13, h⟩ := bind_some h
       obtain ⟨x14, h15, h⟩ := bind_some h
       obtain ⟨x16, h17, h⟩ := bind_some h
       refine oG mix 19 [0, 1, 2, 3, 4, 10, 11, 29, 30, 31] (fun X11 => [(36, .bp book_b book_o 0), (54, .d (.sl 5 (x16.map aC)))]) (fun X11 => [.box book_b book_o (cP b_0_6), .box bb_b bb_o [hH book_b book_o 0], .box pl_b pl_o [.lit (.int .i64 pl)], .box wk_b wk_o [.lit (.int .i64 wk)], .box ms_b ms_o [.lit (.bool b_0_6_4)], .box be_b be_o [.lit (.int .i64 b_0_6_5)], .box wo_b wo_o [.lit (.int .i64 b_0_6_6)]]) ?_ ?_
       ·refine ⟨0, fun X11 => [(36, 0, .bp book_b book_o 0), (37, 1, .bp book_b book_o 0), (38, 2, .bp book_b book_o 0), (39, 3, .bp book_b book_o 0), (40, 4, .bp book_b book_o 2), (41, 5, .d (.sl 5 (b_0_6.Ledger.Reports.map aC))), (42, 6, .d (.lit (.int .i64 ((book.Ledger.Reports.length : Int))))), (43, 7, .d (.lit (.int .i64 ((book.Ledger.Reports.length : Int))))), (44, 8, .fl false 5 (x12.map aC)), (45, 9, .d (.lit (.int .i64 ((book.Ledger.Reports.length : Int))))), (46, 10, .d (.lit (.int .i64 ((w64 (100 + (book.Ledger.Reports.length : Int))))))), (47, 11, .d (.lit (.int .i64 x9))), (48, 12, .d (.lit (.int .i64 week_1))), (49, 13, .d (.sl 1 (prizes_2.map cG))), (50, 14, .cp [.lit (.int .i64 x14)]), (51, 15, .d (.lit (.int .i64 x14))), (52, 16, .agg (aC (aE.mk (w64 (100 + (book.Ledger.Reports.length : Int))) x9 week_1 x14 false))), (53, 17, .d (.sl 5 ((([(aE.mk (w64 (100 + (book.Ledger.Reports.length : Int))) x9 week_1 x14 false)])).map aC))), (54, 18, .d (.sl 5 (x16.map aC)))], fun X11 => [([], .box book_b book_o (cP b_0_6)), ([], .box bb_b bb_o [hH book_b book_o 0]), ([], .box pl_b pl_o [.lit (.int .i64 pl)]), ([], .box wk_b wk_o [.lit (.int .i64 wk)]), ([], .box ms_b ms_o [.lit (.bool b_0_6_4)]), ([], .box be_b be_o [.lit (.int .i64 b_0_6_5)]), ([], .box wo_b wo_o [.lit (.int .i64 b_0_6_6)])], ?_, ?_⟩
        · exact ⟨by kernel_rfl, by kernel_rfl, by kernel_rfl, fun _ => by kernel_rfl, fun _ => by kernel_rfl, fun _ => by kernel_rfl, fun _ => rfl, [([], []), ([], [18]), ([1], [18]), ([2], [18]), ([3], [18]), ([4], [18]), ([], [18]), ([], [18]), ([5, 6, 7], [18]), ([], [18]), ([9], [18]), ([], [18]), ([], [18]), ([], [18]), ([13], [18]), ([14], [18]), ([10, 11, 12, 15], [18]), ([16], [18]), ([8, 17], [])], by kernel_rfl, ⟨fun X11 S hw hi hS => bW (X := X11) rfl (hw X11) rfl (aQ rfl (aB (v := .bp book_b book_o 0) (aA rfl) (aH hS rfl) rfl)),
      fun X11 S hw hi hS => bW (X := X11) rfl (hw X11) rfl (aQ rfl (aB (v := .bp book_b book_o 0) (aA rfl) (aH hS rfl) rfl)),
      fun X11 S hw hi hS => bW (X := X11) rfl (hw X11) rfl (aQ rfl (kN (aA rfl) (aH hS rfl))),
      fun X11 S hw hi hS => bW (X := X11) rfl (hw X11) rfl (aQ rfl (aV (aA rfl) (aH hS rfl) iO)),
      fun X11 S hw hi hS => bW (X := X11) rfl (hw X11) rfl (aQ rfl (aV (aA rfl) (aH hS rfl) eK)),
      fun X11 S hw hi hS => bW (X := X11) rfl (hw X11) rfl (aQ rfl (aW (aA rfl) (aH hS rfl) (i := 0) (og hS rfl rfl) rfl jB)),
      fun X11 S hw hi hS => bW (X := X11) rfl (hw X11) rfl (aQ rfl (aB (v := .d (.lit (.int .i64 ((book.Ledger.Reports.length : Int))))) (aA rfl) (aH hS rfl) rfl)),
      fun X11 S hw hi hS => bW (X := X11) rfl (hw X11) rfl (aQ rfl (aB (v := .d (.lit (.int .i64 ((book.Ledger.Reports.length : Int))))) (aA rfl) (aH hS rfl) rfl)),
      fun X11 S hw hi hS => bW (X := X11) rfl (hw X11) rfl (aQ rfl (aFg (aA rfl) bR.of (aH hS rfl) (aH hS rfl) (aH hS rfl) (pC aC h13))),
      fun X11 S hw hi hS => bW (X := X11) rfl (hw X11) rfl (aQ rfl (aB (v := .d (.lit (.int .i64 ((book.Ledger.Reports.length : Int))))) (aA rfl) (aH hS rfl) rfl)),
      fun X11 S hw hi hS => bW (X := X11) rfl (hw X11) rfl (aQ rfl (aZ (aA rfl) rfl (aH hS rfl) rfl)),
      fun X11 S hw hi hS => bW (X := X11) rfl (hw X11) rfl (aQ rfl (aB (v := .d (.lit (.int .i64 x9))) (aA rfl) (aH hS rfl) rfl)),
      fun X11 S hw hi hS => bW (X := X11) rfl (hw X11) rfl (aQ rfl (aB (v := .d (.lit (.int .i64 week_1))) (aA rfl) (aH hS rfl) rfl)),
      fun X11 S hw hi hS => bW (X := X11) rfl (hw X11) rfl (aQ rfl (aB (v := .d (.sl 1 (prizes_2.map cG))) (aA rfl) (aH hS rfl) rfl)),
      fun X11 S hw hi hS => bW (X := X11) rfl (hw X11) rfl (aQ rfl (bM (aA rfl) (aH hS rfl) rfl eI.of (bK cG h15))),
      fun X11 S hw hi hS => bW (X := X11) rfl (hw X11) rfl (aQ rfl (bZ (aA rfl) (aH hS rfl) bG)),
      fun X11 S hw hi hS => bW (X := X11) rfl (hw X11) rfl (aQ rfl (nT (aA rfl) vQ (zs := [.lit (.int .i64 0), .lit (.int .i64 0), .lit (.int .i64 0), .lit (.int .i64 0), .lit (.bool false)]) rfl rfl rfl (pa2 (aH hS rfl) (pa2 (aH hS rfl) (pa2 (aH hS rfl) (pa2 (aH hS rfl) pan)))) (es := [.lit (.int .i64 ((w64 (100 + (book.Ledger.Reports.length : Int))))), .lit (.int .i64 x9), .lit (.int .i64 week_1), .lit (.int .i64 x14), .lit (.bool false)]) rfl)),
      fun X11 S hw hi hS => bW (X := X11) rfl (hw X11) rfl (aQ rfl (jT (aA rfl) bR rfl (pa2 (aH hS rfl) pan) (rows := ([(aE.mk (w64 (100 + (book.Ledger.Reports.length : Int))) x9 week_1 x14 false)]).map aC) rfl (cT (f := aC) fun _ => rfl) rfl (by decide))),
      fun X11 S hw hi hS => bW (X := X11) rfl (hw X11) rfl (aQ rfl (sG (nn := false) (f := aC) (xs := x12) (ys := [(aE.mk (w64 (100 + (book.Ledger.Reports.length : Int))) x9 week_1 x14 false)]) (aA rfl) bR (aH hS rfl) (aH hS rfl) (fun _ => rfl) h17 rfl)), trivial⟩⟩
        · exact fun X11 => dJ (aL rfl (aL rfl (aY ⟨rfl, rfl, rfl, rfl, rfl, rfl, rfl, rfl, rfl, rfl, trivial⟩)))
       ·intro X11
        refine tr1 rfl (kN (aA rfl) rfl) ?_
        refine tr1 rfl (aV (aA rfl) rfl iO) ?_
        refine tr1 rfl (aV (aA rfl) rfl eK) ?_
        refine tr1 rfl (cF (i := 0) rfl rfl rfl rfl rfl Try.sizeOf22 rfl (aA rfl) (Nat.le_of_ble_eq_true rfl) (ds' := (cP (cE.mk (aN.mk b_0_6.Ledger.Players b_0_6.Ledger.Counts x16 b_0_6.Ledger.Bans b_0_6.Ledger.Frozen)))) rfl) ?_
        refine aF ?_
        obtain ⟨x18, h19, h⟩ := bind_some h
        obtain ⟨x20, h21, h⟩ := bind_some h
        obtain ⟨x22, h23, h⟩ := bind_some h
        obtain ⟨r24, h25, h⟩ := bind_some h
        refine fD mix 14 [0, 1, 2, 3, 4, 10, 29, 30, 31] [(58, .bp book_b book_o 0), (59, .d (.lit (.int .i64 week_1))), (61, .d (.sl 1 (x18.map cG))), (70, .d (.sl 1 (r24.map cG))), (71, .fn 50 [.bp bb_b bb_o 0, .bp pl_b pl_o 0, .bp wk_b wk_o 0, .bp ms_b ms_o 0, .bp be_b be_o 0, .bp wo_b wo_o 0])] ?_ ?_
        ·refine ⟨[(58, 0, .bp book_b book_o 0), (59, 1, .d (.lit (.int .i64 week_1))), (60, 2, .d (.sl 1 (prizes_2.map cG))), (61, 3, .d (.sl 1 (x18.map cG))), (62, 4, .d (.sl 1 (free_3.map cG))), (63, 5, .d (.lit (.int .i64 t31_0_6))), (64, 6, .d (.sl 1 (x20.map cG))), (65, 7, .d (.sl 1 (free_3.map cG))), (66, 8, .d (.lit (.int .i64 t31_0_6))), (67, 9, .d (.lit (.int .i64 ((w64 (t31_0_6 + 1)))))), (68, 10, .d (.sl 1 (x22.map cG))), (69, 11, .d (.sl 1 ((([x20, x22])).map sF))), (70, 12, .d (.sl 1 (r24.map cG))), (71, 13, .fn 50 [.bp bb_b bb_o 0, .bp pl_b pl_o 0, .bp wk_b wk_o 0, .bp ms_b ms_o 0, .bp be_b be_o 0, .bp wo_b wo_o 0])], ?_, ?_⟩
         · exact ⟨by kernel_rfl, by kernel_rfl, by kernel_rfl, by kernel_rfl, by kernel_rfl, [([], []), ([], []), ([], []), ([2], []), ([], []), ([], []), ([4, 5], []), ([], []), ([], []), ([8], []), ([7, 9], []), ([6, 10], []), ([11], []), ([], [])], by kernel_rfl, ⟨fun S hS => aK rfl (aQ rfl (aB (v := .bp book_b book_o 0) (aA rfl) (aH hS rfl) rfl)),
      fun S hS => aK rfl (aQ rfl (aB (v := .d (.lit (.int .i64 week_1))) (aA rfl) (aH hS rfl) rfl)),
      fun S hS => aK rfl (aQ rfl (aB (v := .d (.sl 1 (prizes_2.map cG))) (aA rfl) (aH hS rfl) rfl)),
      fun S hS => aK rfl (aQ rfl (mA (aA rfl) eI.of (aH hS rfl) rfl aGg (pC cG h19))),
      fun S hS => aK rfl (aQ rfl (aB (v := .d (.sl 1 (free_3.map cG))) (aA rfl) (aH hS rfl) rfl)),
      fun S hS => aK rfl (aQ rfl (aB (v := .d (.lit (.int .i64 t31_0_6))) (aA rfl) (aH hS rfl) rfl)),
      fun S hS => aK rfl (aQ rfl (mA (aA rfl) eI.of (aH hS rfl) rfl (bo (aH hS rfl)) (pC cG h21))),
      fun S hS => aK rfl (aQ rfl (aB (v := .d (.sl 1 (free_3.map cG))) (aA rfl) (aH hS rfl) rfl)),
      fun S hS => aK rfl (aQ rfl (aB (v := .d (.lit (.int .i64 t31_0_6))) (aA rfl) (aH hS rfl) rfl)),
      fun S hS => aK rfl (aQ rfl (aZ (aA rfl) (aH hS rfl) rfl rfl)),
      fun S hS => aK rfl (aQ rfl (mA (aA rfl) eI.of (aH hS rfl) (bo (aH hS rfl)) aGg (pC cG h23))),
      fun S hS => aK rfl (aQ rfl (jT (aA rfl) zD rfl (pa2 (aH hS rfl) (pa2 (aH hS rfl) pan)) (rows := ([x20, x22]).map sF) rfl (cT (f := sF) fun _ => rfl) rfl (by decide))),
      fun S hS => aK rfl (aQ rfl (iB (aA rfl) (.func _ _ Try.call84) (ev2 (aH hS rfl) evn) rfl (yC _ h25))),
      fun S hS => aK rfl (aQ rfl (aB (v := .fn 50 [.bp bb_b bb_o 0, .bp pl_b pl_o 0, .bp wk_b wk_o 0, .bp ms_b ms_o 0, .bp be_b be_o 0, .bp wo_b wo_o 0]) (aA rfl) (aH hS rfl) rfl)), trivial⟩⟩
         · exact dJ (aL rfl (aL rfl (aL rfl (aL rfl (aL rfl (aY ⟨rfl, rfl, rfl, rfl, rfl, rfl, rfl, rfl, rfl, trivial⟩))))))
        ·obtain ⟨r26, h27, h⟩ := bind_some h
         refine bQ rfl (dQ (passed := [.box book_b book_o (cP (cE.mk (aN.mk b_0_6.Ledger.Players b_0_6.Ledger.Counts x16 b_0_6.Ledger.Bans b_0_6.Ledger.Frozen))), .box bb_b bb_o [hH book_b book_o 0], .box pl_b pl_o [.lit (.int .i64 pl)], .box wk_b wk_o [.lit (.int .i64 wk)], .box ms_b ms_o [.lit (.bool b_0_6_4)], .box be_b be_o [.lit (.int .i64 b_0_6_5)], .box wo_b wo_o [.lit (.int .i64 b_0_6_6)]]) (aA rfl) rfl (.func _ _ Try.call49) rfl rfl (ih (cE.mk (aN.mk b_0_6.Ledger.Players b_0_6.Ledger.Counts x16 b_0_6.Ledger.Bans b_0_6.Ledger.Frozen)) pl wk b_0_6_4 b_0_6_5 b_0_6_6 week_1 x18 r24 h27)) ?_
         rintro _ ⟨_, _, ⟨rfl, rfl⟩, rfl⟩
         refine dA ?_
         refine aD ?_
         refine tr1 rfl (aZ (aA rfl) rfl rfl rfl) ?_
         refine tr1 rfl (aB (v := .d (.lit (.int .i64 ((w64 (t31_0_6 + 1)))))) (aA rfl) rfl rfl) ?_
         refine aF ?_
         exact ⟨(w64 (t31_0_6 + 1), r26.1, r26.2.1, r26.2.2.1, r26.2.2.2), h, aX [0, 1, 2, 3, 4, 5, 6] rfl rfl (aL rfl (aY ⟨rfl, rfl, rfl, rfl, rfl, rfl, rfl, rfl, trivial⟩))⟩
      ·have h := aR c8 h
       refine cQ ?_
       refine .inl ⟨rfl, ?_⟩
       simp only [sR] at h
       refine aD ?_
       refine tr1 rfl (aB (v := .bp book_b book_o 0) (aA rfl) rfl rfl) ?_
       refine tr1 rfl (aB (v := .bp book_b book_o 0) (aA rfl) rfl rfl) ?_
       refine tr1 rfl (kN (aA rfl) rfl) ?_
       refine tr1 rfl (aV (aA rfl) rfl iO) ?_
       refine tr1 rfl (aV (aA rfl) rfl eK) ?_
       refine tr1 rfl (aW (aA rfl) rfl (i := 0) rfl rfl jB) ?_
       refine tr1 rfl (aB (v := .d (.lit (.int .i64 ((book.Ledger.Reports.length : Int))))) (aA rfl) rfl rfl) ?_
       obtain ⟨x28, h29, h⟩ := bind_some h
       refine tr1 rfl (mA (aA rfl) bR.of rfl rfl rfl (pC aC h29)) ?_
       refine tr1 rfl (kN (aA rfl) rfl) ?_
       refine tr1 rfl (aV (aA rfl) rfl iO) ?_
       refine tr1 rfl (aV (aA rfl) rfl eK) ?_
       refine tr1 rfl (cF (i := 0) rfl rfl rfl rfl rfl Try.sizeOf22 rfl (aA rfl) (Nat.le_of_ble_eq_true rfl) (ds' := (cP (cE.mk (aN.mk b_0_6.Ledger.Players b_0_6.Ledger.Counts x28 b_0_6.Ledger.Bans b_0_6.Ledger.Frozen)))) rfl) ?_
       refine aF ?_
       have h := Option.some.inj h
       subst h
       exact ⟨_, [.box book_b book_o (cP (cE.mk (aN.mk b_0_6.Ledger.Players b_0_6.Ledger.Counts x28 b_0_6.Ledger.Bans b_0_6.Ledger.Frozen))), .box bb_b bb_o [hH book_b book_o 0], .box pl_b pl_o [.lit (.int .i64 pl)], .box wk_b wk_o [.lit (.int .i64 wk)], .box ms_b ms_o [.lit (.bool b_0_6_4)], .box be_b be_o [.lit (.int .i64 b_0_6_5)], .box wo_b wo_o [.lit (.int .i64 b_0_6_6)]], [], _, .none, .refl _, .same _, rfl, rfl⟩
theorem xZ (book : cE) (pl : Int) (wk : Int) (ms : Bool) (be : Int) (wo : Int) (week_1 : Int) (prizes_2 : List Int) (free_3 : List Int) {r : cE × Bool × Int × Int} {book_b book_o : Nat} {bb_b bb_o : Nat} {pl_b pl_o : Nat} {wk_b wk_o : Nat} {ms_b ms_o : Nat} {be_b be_o : Nat} {wo_b wo_o : Nat} (h : uL book pl wk ms be wo week_1 prizes_2 free_3 = some r) : gE Try.prog 49 [.bp book_b book_o 0, .d (.lit (.int .i64 week_1)), .d (.sl 1 (prizes_2.map cG)), .d (.sl 1 (free_3.map cG)), .fn 50 [.bp bb_b bb_o 0, .bp pl_b pl_o 0, .bp wk_b wk_o 0, .bp ms_b ms_o 0, .bp be_b be_o 0, .bp wo_b wo_o 0]] [.box book_b book_o (cP book), .box bb_b bb_o [hH book_b book_o 0], .box pl_b pl_o [.lit (.int .i64 pl)], .box wk_b wk_o [.lit (.int .i64 wk)], .box ms_b ms_o [.lit (.bool ms)], .box be_b be_o [.lit (.int .i64 be)], .box wo_b wo_o [.lit (.int .i64 wo)]] (fun r' o' => r' = .tup [] ∧ o' = [.box book_b book_o (cP r.1), .box bb_b bb_o [hH book_b book_o 0], .box pl_b pl_o [.lit (.int .i64 pl)], .box wk_b wk_o [.lit (.int .i64 wk)], .box ms_b ms_o [.lit (.bool r.2.1)], .box be_b be_o [.lit (.int .i64 r.2.2.1)], .box wo_b wo_o [.lit (.int .i64 r.2.2.2)]]) := xJ BIG _ _ _ _ _ _ _ _ _ h

theorem aEi (l_0 : aN) (player_1 : Int) (week_2 : Int) (prizes_3 : List Int) {r : Int × Int × Int} (h : xI l_0 player_1 week_2 prizes_3 = some r) : Fn Try.prog 17 [.agg (aT l_0), .d (.lit (.int .i64 player_1)), .d (.lit (.int .i64 week_2)), .d (.sl 1 (prizes_3.map cG))] (.tup [.d (.lit (.int .i64 r.1)), .d (.lit (.int .i64 r.2.1)), .d (.lit (.int .i64 r.2.2))]) := by
 unfold xI at h
 refine rR Try.func17 rfl (rs := [.cell 8 3, .cell 9 3, .tmp 10]) Try.results17 Try.ntmps17 (Nat.le_of_ble_eq_true rfl) ?_
 refine aG ?_
 refine aD ?_
 refine bQ rfl (eD (v := .agg (aT l_0)) (aA rfl) rfl rfl rfl) ?_
 rintro _ ⟨b1, rfl⟩
 refine bQ rfl (eD (v := .d (.lit (.int .i64 player_1))) (aA rfl) rfl rfl rfl) ?_
 rintro _ ⟨b2, rfl⟩
 refine bQ rfl (eD (v := .d (.lit (.int .i64 week_2))) (aA rfl) rfl rfl rfl) ?_
 rintro _ ⟨b3, rfl⟩
 refine bQ rfl (fF (zs := [.lit (.int .i64 0)]) (aA rfl) Try.zeroValue3 rfl rfl) ?_
 rintro _ ⟨b4, rfl⟩
 refine bQ rfl (fF (zs := [.lit (.int .i64 0)]) (aA rfl) Try.zeroValue3 rfl rfl) ?_
 rintro _ ⟨b5, rfl⟩
 refine tr1 rfl (aJ (v := .d (.lit (.int .i64 0))) (aA rfl) rfl rfl) ?_
 refine aF ?_
 refine aG ?_
 refine aD ?_
 refine tr1 rfl (cA (aA rfl) rfl (i := 0) rfl dI (es := (aT l_0)) rfl rfl) ?_
 refine tr1 rfl (aW (aA rfl) rfl (i := 1) rfl rfl bG) ?_
 refine tr1 rfl (aW (aA rfl) rfl (i := 2) rfl rfl bG) ?_
 obtain ⟨r6, h7, h⟩ := bind_some h
 refine bQ rfl (dQ (passed := []) (aA rfl) rfl (.func _ _ Try.call44) rfl rfl (sQ _ _ _ h7)) ?_
 rintro _ ⟨_, _, ⟨b9, w10, rfl, rfl⟩, rfl⟩
 obtain ⟨_ | y8, e11⟩ := r6
 ·have h := wT h
  refine eR (aX [0, 1, 2, 3, 4] rfl rfl (le_refl _)) ?_
  refine tr1 rfl (aB (v := .tup [.d (.lit (.pointer none)), .d (.lit (.int .i64 e11))]) (aA rfl) rfl rfl) ?_
  refine tr1 rfl (cH (aA rfl) rfl rfl) ?_
  refine tr1 rfl (cH (aA rfl) rfl rfl) ?_
  refine bQ rfl (fF (zs := [.lit (.pointer none)]) (aA rfl) Try.zeroValue70 rfl rfl) ?_
  rintro _ ⟨b12, rfl⟩
  refine tr1 rfl (cF (i := 5) rfl rfl rfl rfl rfl Try.sizeOf70 rfl (aA rfl) (Nat.le_of_ble_eq_true rfl) (ds' := [.lit (.pointer none)]) rfl) ?_
  refine tr1 rfl (aJ (v := .d (.lit (.int .i64 e11))) (aA rfl) rfl rfl) ?_
  refine aF ?_
  refine aG ?_
  refine aG ?_
  refine aD ?_
  refine tr1 rfl (aB (v := .d (.lit (.int .i64 e11))) (aA rfl) rfl rfl) ?_
  refine tr1 rfl (bB (aA rfl) rfl rfl rfl) ?_
  refine aF ?_
  refine bH rfl (fun c13 => ?_) (fun c13 => ?_)
  ·have h := aS c13 h
   refine aG ?_
   refine aD ?_
   refine tr1 rfl (aB (v := .d (.lit (.int .i64 e11))) (aA rfl) rfl rfl) ?_
   refine tr1 rfl (cF (i := 3) rfl rfl rfl rfl rfl Try.sizeOf3 rfl (aA rfl) (Nat.le_of_ble_eq_true rfl) (ds' := [.lit (.int .i64 0)]) rfl) ?_
   refine tr1 rfl (cF (i := 4) rfl rfl rfl rfl rfl Try.sizeOf3 rfl (aA rfl) (Nat.le_of_ble_eq_true rfl) (ds' := [.lit (.int .i64 0)]) rfl) ?_
   refine tr1 rfl (aJ (v := .d (.lit (.int .i64 e11))) (aA rfl) rfl rfl) ?_
   refine aF ?_
   have h := Option.some.inj h
   subst h
   exact bI ⟨rfl, _, [.box b1 0 (aT l_0), .box b2 0 [.lit (.int .i64 player_1)], .box b3 0 [.lit (.int .i64 week_2)], .box b4 0 [.lit (.int .i64 0)], .box b5 0 [.lit (.int .i64 0)], .box b12 0 [.lit (.pointer none)]], .three (.cell1 8 3 rfl (i := 3) rfl bG rfl) (.cell1 9 3 rfl (i := 4) rfl bG rfl) (.tmp 10 (v := .d (.lit (.int .i64 e11))) rfl), .refl _, .same _⟩
  ·have h := aR c13 h
   refine bF ?_
   refine aG ?_
   refine aG ?_
   refine aD ?_
   refine tr1 rfl (aB (v := .d (.sl 1 (prizes_3.map cG))) (aA rfl) rfl rfl) ?_
   refine tr1 rfl (dB (aA rfl) rfl eI.of) ?_
   refine tr1 rfl (bB (aA rfl) rfl rfl rfl) ?_
   refine tr1 rfl (aB (v := .d (.lit (.bool ((decide (4 < (prizes_3.length : Int))))))) (aA rfl) rfl rfl) ?_
   obtain ⟨b14, h15, h⟩ := bind_some h
   refine cD 3 [3, 5, 6, 8, 9, 11] 31 b14 ?_ ?_
   ·refine bJ (decide (4 < (prizes_3.length : Int))) (fun c18 => ?_) (fun c18 => ?_)
    ·have h15 := aS c18 h15
     refine aU rfl rfl (aA rfl) rfl (aA rfl) rfl c18 ?_
     refine aU rfl rfl (aA rfl) rfl (aA rfl) rfl c18 ?_
     refine tr1 rfl (bN (v := .d (.lit (.bool true))) (aA rfl) rfl c18 rfl rfl) ?_
     have h15 := Option.some.inj h15
     subst h15
     refine aF (bC rfl ⟨rfl, rfl, rfl, rfl, rfl, rfl, trivial⟩ rfl)
    ·have h15 := aR c18 h15
     refine aM rfl rfl (aA rfl) rfl c18 (aB (v := .d (.sl 1 (prizes_3.map cG))) (aA rfl) rfl rfl) ?_
     obtain ⟨r20, h21, h15⟩ := bind_some h15
     refine aM rfl rfl (aA rfl) rfl c18 (bY (aA rfl) (.func _ _ Try.call45) rfl rfl (BVs.refl _ _) (qJ _ _ 46 [] Try.call46 (fun _ _ h15 => wW _ h15) h21) rfl) ?_
     refine tr1 rfl (bO (v := .d (.lit (.bool r20))) (aA rfl) rfl c18 rfl rfl) ?_
     have h15 := Option.some.inj h15
     subst h15
     refine aF (bC rfl ⟨rfl, rfl, rfl, rfl, rfl, rfl, trivial⟩ rfl)
   ·refine aF ?_
    refine bH rfl (fun c16 => ?_) (fun c16 => ?_)
    ·have h := aS c16 h
     refine aG ?_
     refine aD ?_
     refine tr1 rfl (cF (i := 3) rfl rfl rfl rfl rfl Try.sizeOf3 rfl (aA rfl) (Nat.le_of_ble_eq_true rfl) (ds' := [.lit (.int .i64 0)]) rfl) ?_
     refine tr1 rfl (cF (i := 4) rfl rfl rfl rfl rfl Try.sizeOf3 rfl (aA rfl) (Nat.le_of_ble_eq_true rfl) (ds' := [.lit (.int .i64 0)]) rfl) ?_
     refine tr1 rfl (aJ (v := .d (.lit (.int .i64 42))) (aA rfl) rfl rfl) ?_
     refine aF ?_
     have h := Option.some.inj h
     subst h
     exact bI ⟨rfl, _, [.box b1 0 (aT l_0), .box b2 0 [.lit (.int .i64 player_1)], .box b3 0 [.lit (.int .i64 week_2)], .box b4 0 [.lit (.int .i64 0)], .box b5 0 [.lit (.int .i64 0)], .box b12 0 [.lit (.pointer none)]], .three (.cell1 8 3 rfl (i := 3) rfl bG rfl) (.cell1 9 3 rfl (i := 4) rfl bG rfl) (.tmp 10 (v := .d (.lit (.int .i64 42))) rfl), .refl _, .same _⟩
    ·have h := aR c16 h
     refine bF ?_
     refine aG ?_
     refine aD ?_
     refine tr1 rfl (hZ 3 1 (.inl rfl) (aA rfl)) ?_
     refine aF ?_
     refine aG ?_
     refine aG ?_
     refine aD ?_
     refine tr1 rfl (aW (aA rfl) rfl (i := 5) rfl rfl wS) ?_
     cases h
 ·have h := wU h
  refine eR (aX [0, 1, 2, 3, 4, 5, 6] rfl rfl (le_refl _)) ?_
  refine tr1 rfl (aB (v := .tup [.bp b9 0 0, .d (.lit (.int .i64 e11))]) (aA rfl) rfl rfl) ?_
  refine tr1 rfl (cH (aA rfl) rfl rfl) ?_
  refine tr1 rfl (cH (aA rfl) rfl rfl) ?_
  refine bQ rfl (fF (zs := [.lit (.pointer none)]) (aA rfl) Try.zeroValue70 rfl rfl) ?_
  rintro _ ⟨b22, rfl⟩
  refine eR (aJp 20 rfl) ?_
  refine tr1 rfl (cF (i := 7) rfl rfl rfl rfl rfl Try.sizeOf70 rfl (aA rfl) (Nat.le_of_ble_eq_true rfl) (ds' := [hH b9 0 0]) rfl) ?_
  refine tr1 rfl (aJ (v := .d (.lit (.int .i64 e11))) (aA rfl) rfl rfl) ?_
  refine aF ?_
  refine aG ?_
  refine aG ?_
  refine aD ?_
  refine tr1 rfl (aB (v := .d (.lit (.int .i64 e11))) (aA rfl) rfl rfl) ?_
  refine tr1 rfl (bB (aA rfl) rfl rfl rfl) ?_
  refine aF ?_
  refine bH rfl (fun c23 => ?_) (fun c23 => ?_)
  ·have h := aS c23 h
   refine aG ?_
   refine aD ?_
   refine tr1 rfl (aB (v := .d (.lit (.int .i64 e11))) (aA rfl) rfl rfl) ?_
   refine tr1 rfl (cF (i := 5) rfl rfl rfl rfl rfl Try.sizeOf3 rfl (aA rfl) (Nat.le_of_ble_eq_true rfl) (ds' := [.lit (.int .i64 0)]) rfl) ?_
   refine tr1 rfl (cF (i := 6) rfl rfl rfl rfl rfl Try.sizeOf3 rfl (aA rfl) (Nat.le_of_ble_eq_true rfl) (ds' := [.lit (.int .i64 0)]) rfl) ?_
   refine tr1 rfl (aJ (v := .d (.lit (.int .i64 e11))) (aA rfl) rfl rfl) ?_
   refine aF ?_
   have h := Option.some.inj h
   subst h
   exact bI ⟨rfl, _, [.box b9 0 [.lit (.int .i64 y8.Ledger.Players), .lit (.int .i64 y8.Ledger.Counts), .lit w10, .sl 3 (y8.Ledger.Bans.map aI), .sl 3 (y8.Ledger.Frozen.map aI)], .arr w10 42 5 (y8.Ledger.Reports.map aC), .box b1 0 (aT l_0), .box b2 0 [.lit (.int .i64 player_1)], .box b3 0 [.lit (.int .i64 week_2)], .box b4 0 [.lit (.int .i64 0)], .box b5 0 [.lit (.int .i64 0)], .box b22 0 [hH b9 0 0]], .three (.cell1 8 3 rfl (i := 5) rfl bG rfl) (.cell1 9 3 rfl (i := 6) rfl bG rfl) (.tmp 10 (v := .d (.lit (.int .i64 e11))) rfl), .refl _, .same _⟩
  ·have h := aR c23 h
   refine bF ?_
   refine aG ?_
   refine aG ?_
   refine aD ?_
   refine tr1 rfl (aB (v := .d (.sl 1 (prizes_3.map cG))) (aA rfl) rfl rfl) ?_
   refine tr1 rfl (dB (aA rfl) rfl eI.of) ?_
   refine tr1 rfl (bB (aA rfl) rfl rfl rfl) ?_
   refine tr1 rfl (aB (v := .d (.lit (.bool ((decide (4 < (prizes_3.length : Int))))))) (aA rfl) rfl rfl) ?_
   obtain ⟨b24, h25, h⟩ := bind_some h
   refine cD 3 [3, 5, 6, 8, 9, 11] 31 b24 ?_ ?_
   ·refine bJ (decide (4 < (prizes_3.length : Int))) (fun c43 => ?_) (fun c43 => ?_)
    ·have h25 := aS c43 h25
     refine aU rfl rfl (aA rfl) rfl (aA rfl) rfl c43 ?_
     refine aU rfl rfl (aA rfl) rfl (aA rfl) rfl c43 ?_
     refine tr1 rfl (bN (v := .d (.lit (.bool true))) (aA rfl) rfl c43 rfl rfl) ?_
     have h25 := Option.some.inj h25
     subst h25
     refine aF (bC rfl ⟨rfl, rfl, rfl, rfl, rfl, rfl, trivial⟩ rfl)
    ·have h25 := aR c43 h25
     refine aM rfl rfl (aA rfl) rfl c43 (aB (v := .d (.sl 1 (prizes_3.map cG))) (aA rfl) rfl rfl) ?_
     obtain ⟨r45, h46, h25⟩ := bind_some h25
     refine aM rfl rfl (aA rfl) rfl c43 (bY (aA rfl) (.func _ _ Try.call45) rfl rfl (BVs.refl _ _) (qJ _ _ 46 [] Try.call46 (fun _ _ h25 => wW _ h25) h46) rfl) ?_
     refine tr1 rfl (bO (v := .d (.lit (.bool r45))) (aA rfl) rfl c43 rfl rfl) ?_
     have h25 := Option.some.inj h25
     subst h25
     refine aF (bC rfl ⟨rfl, rfl, rfl, rfl, rfl, rfl, trivial⟩ rfl)
   ·refine aF ?_
    refine bH rfl (fun c26 => ?_) (fun c26 => ?_)
    ·have h := aS c26 h
     refine aG ?_
     refine aD ?_
     refine tr1 rfl (cF (i := 5) rfl rfl rfl rfl rfl Try.sizeOf3 rfl (aA rfl) (Nat.le_of_ble_eq_true rfl) (ds' := [.lit (.int .i64 0)]) rfl) ?_
     refine tr1 rfl (cF (i := 6) rfl rfl rfl rfl rfl Try.sizeOf3 rfl (aA rfl) (Nat.le_of_ble_eq_true rfl) (ds' := [.lit (.int .i64 0)]) rfl) ?_
     refine tr1 rfl (aJ (v := .d (.lit (.int .i64 42))) (aA rfl) rfl rfl) ?_
     refine aF ?_
     have h := Option.some.inj h
     subst h
     exact bI ⟨rfl, _, [.box b9 0 [.lit (.int .i64 y8.Ledger.Players), .lit (.int .i64 y8.Ledger.Counts), .lit w10, .sl 3 (y8.Ledger.Bans.map aI), .sl 3 (y8.Ledger.Frozen.map aI)], .arr w10 42 5 (y8.Ledger.Reports.map aC), .box b1 0 (aT l_0), .box b2 0 [.lit (.int .i64 player_1)], .box b3 0 [.lit (.int .i64 week_2)], .box b4 0 [.lit (.int .i64 0)], .box b5 0 [.lit (.int .i64 0)], .box b22 0 [hH b9 0 0]], .three (.cell1 8 3 rfl (i := 5) rfl bG rfl) (.cell1 9 3 rfl (i := 6) rfl bG rfl) (.tmp 10 (v := .d (.lit (.int .i64 42))) rfl), .refl _, .same _⟩
    ·have h := aR c26 h
     refine bF ?_
     refine aG ?_
     refine aD ?_
     refine tr1 rfl (hZ 3 1 (.inl rfl) (aA rfl)) ?_
     refine aF ?_
     refine aG ?_
     refine aG ?_
     refine aD ?_
     refine tr1 rfl (uA (i := 7) (aA rfl) rfl rfl rfl wS) ?_
     refine tr1 rfl (kN (aA rfl) rfl) ?_
     refine tr1 rfl (aV (aA rfl) rfl iO) ?_
     refine tr1 rfl (aV (aA rfl) rfl jA) ?_
     refine tr1 rfl (aW (aA rfl) rfl (i := 0) rfl rfl bG) ?_
     refine tr1 rfl (aB (v := .d (.lit (.int .i64 0))) (aA rfl) rfl rfl) ?_
     refine aF ?_
     refine bP ?_
     refine cJ [3, 5, 6, 8, 9, 11, 36] (fun (s28 : Int × (List Int) × Value) => [(12, .d (.lit s28.2.2)), (37, .d (.lit (.int .i64 s28.1)))]) (fun (s28 : Int × (List Int) × Value) => [.box b2 0 [.lit (.int .i64 player_1)], .box b3 0 [.lit (.int .i64 week_2)], .box b4 0 [.lit (.int .i64 0)], .box b5 0 [.lit (.int .i64 0)], .box b22 0 [hH b9 0 0], .arr s28.2.2 3 1 (s28.2.1.map cG), .arr w10 42 5 (y8.Ledger.Reports.map aC), .box b9 0 [.lit (.int .i64 y8.Ledger.Players), .lit (.int .i64 y8.Ledger.Counts), .lit w10, .sl 3 (y8.Ledger.Bans.map aI), .sl 3 (y8.Ledger.Frozen.map aI)]]) (fun (k : Nat) (s28 : Int × (List Int) × Value) => pQ prizes_3 y8.Ledger.Players player_1 week_2 0 0 y8.Ledger.Reports y8.Ledger.Players y8.Ledger.Counts y8.Ledger.Bans y8.Ledger.Frozen k s28.1 s28.2.1) (fun _ => rfl) (0, ([] : List Int), (.slice none 0 0)) h (aX [3, 4, 5, 6, 7, 8, 1, 0] rfl rfl (aL rfl (aL rfl (aY ⟨rfl, rfl, rfl, rfl, rfl, rfl, rfl, trivial⟩)))) ?_
     rintro k30 ⟨t37_0_28, free_0_28, w29⟩ h
     simp only [pQ] at h
     refine aG ?_
     refine aD ?_
     refine tr1 rfl (bB (aA rfl) rfl rfl rfl) ?_
     refine aF ?_
     refine aG ?_
     refine bH rfl (fun c31 => ?_) (fun c31 => ?_)
     ·have h := aS c31 h
      refine bF ?_
      refine aG ?_
      refine bP ?_
      refine aG ?_
      refine aD ?_
      refine tr1 rfl (aB (v := .d (.lit (.int .i64 t37_0_28))) (aA rfl) rfl rfl) ?_
      refine tr1 rfl (aJ (v := .d (.lit (.int .i64 t37_0_28))) (aA rfl) rfl rfl) ?_
      refine aF ?_
      refine aG ?_
      refine fD mix 7 [3, 5, 6, 8, 9, 11, 12, 13, 36, 37] [(44, .d (.sl 3 (y8.Ledger.Bans.map aI))), (45, .d (.lit (.int .i64 t37_0_28))), (46, .d (.lit (.int .i64 week_2)))] ?_ ?_
      ·refine ⟨[(40, 0, .bp b9 0 0), (41, 1, .bp b9 0 0), (42, 2, .bp b9 0 0), (43, 3, .bp b9 0 3), (44, 4, .d (.sl 3 (y8.Ledger.Bans.map aI))), (45, 5, .d (.lit (.int .i64 t37_0_28))), (46, 6, .d (.lit (.int .i64 week_2)))], ?_, ?_⟩
       · exact ⟨by kernel_rfl, by kernel_rfl, by kernel_rfl, by kernel_rfl, by kernel_rfl, [([], []), ([0], []), ([1], []), ([2], []), ([3], []), ([], []), ([], [])], by kernel_rfl, ⟨fun S hS => aK rfl (aQ rfl (uA (i := 4) (aA rfl) (aH hS rfl) rfl rfl wS)),
      fun S hS => aK rfl (aQ rfl (kN (aA rfl) (aH hS rfl))),
      fun S hS => aK rfl (aQ rfl (aV (aA rfl) (aH hS rfl) iO)),
      fun S hS => aK rfl (aQ rfl (aV (aA rfl) (aH hS rfl) oR)),
      fun S hS => aK rfl (aQ rfl (aW (aA rfl) (aH hS rfl) (i := 7) rfl rfl jC)),
      fun S hS => aK rfl (aQ rfl (aB (v := .d (.lit (.int .i64 t37_0_28))) (aA rfl) (aH hS rfl) rfl)),
      fun S hS => aK rfl (aQ rfl (aW (aA rfl) (aH hS rfl) (i := 1) rfl rfl bG)), trivial⟩⟩
       · exact dJ (aL rfl (aL rfl (aL rfl (aY ⟨rfl, rfl, rfl, rfl, rfl, rfl, rfl, rfl, rfl, rfl, trivial⟩))))
      ·obtain ⟨r32, h33, h⟩ := bind_some h
       refine tr1 rfl (bY (aA rfl) (.func _ _ Try.call48) rfl rfl (BVs.refl _ _) (wI _ _ _ h33) rfl) ?_
       refine tr1 rfl (eN (aA rfl) rfl) ?_
       refine aF ?_
       refine bH rfl (fun c34 => ?_) (fun c34 => ?_)
       ·have h := aS c34 h
        refine aD ?_
        refine tr1 rfl (aB (v := .d (.lit w29)) (aA rfl) rfl rfl) ?_
        refine tr1 rfl (aB (v := .d (.lit (.int .i64 t37_0_28))) (aA rfl) rfl rfl) ?_
        refine tr1 rfl (jT (aA rfl) eI rfl rfl (rows := ([t37_0_28]).map cG) rfl (cT (f := cG) fun _ => rfl) rfl (by decide)) ?_
        obtain ⟨x35, h36, h⟩ := bind_some h
        refine bQ rfl (kC (i := 5) (aA rfl) eI rfl rfl rfl (fun _ => rfl) h36 rfl) ?_
        rintro _ ⟨v37, rfl⟩
        refine tr1 rfl (aJ (v := .d (.lit v37)) (aA rfl) rfl rfl) ?_
        refine dA ?_
        refine aD ?_
        refine tr1 rfl (aZ (aA rfl) rfl rfl rfl) ?_
        refine tr1 rfl (aB (v := .d (.lit (.int .i64 ((w64 (t37_0_28 + 1)))))) (aA rfl) rfl rfl) ?_
        refine aF ?_
        exact ⟨(w64 (t37_0_28 + 1), x35, v37), h, aX [0, 1, 2, 3, 4, 5, 6, 7] rfl rfl (aL rfl (aL rfl (aY ⟨rfl, rfl, rfl, rfl, rfl, rfl, rfl, trivial⟩)))⟩
       ·have h := aR c34 h
        refine dK ?_
        refine aD ?_
        refine tr1 rfl (aZ (aA rfl) rfl rfl rfl) ?_
        refine tr1 rfl (aB (v := .d (.lit (.int .i64 ((w64 (t37_0_28 + 1)))))) (aA rfl) rfl rfl) ?_
        refine aF ?_
        exact ⟨(w64 (t37_0_28 + 1), free_0_28, w29), h, aX [0, 1, 2, 3, 4, 5, 6, 7] rfl rfl (aL rfl (aL rfl (aY ⟨rfl, rfl, rfl, rfl, rfl, rfl, rfl, trivial⟩)))⟩
     ·have h := aR c31 h
      refine cQ ?_
      refine .inl ⟨rfl, ?_⟩
      simp only [xT] at h
      refine aG ?_
      refine aD ?_
      refine tr1 rfl (uA (i := 4) (aA rfl) rfl rfl rfl wS) ?_
      refine tr1 rfl (kN (aA rfl) rfl) ?_
      refine tr1 rfl (aV (aA rfl) rfl iO) ?_
      refine tr1 rfl (aV (aA rfl) rfl jA) ?_
      refine tr1 rfl (aW (aA rfl) rfl (i := 7) rfl rfl bG) ?_
      refine tr1 rfl (aZ (aA rfl) rfl rfl rfl) ?_
      refine tr1 rfl (cF (i := 2) rfl rfl rfl rfl rfl Try.sizeOf3 rfl (aA rfl) (Nat.le_of_ble_eq_true rfl) (ds' := [.lit (.int .i64 ((w64 (y8.Ledger.Players + 1))))]) rfl) ?_
      refine tr1 rfl (cF (i := 3) rfl rfl rfl rfl rfl Try.sizeOf3 rfl (aA rfl) (Nat.le_of_ble_eq_true rfl) (ds' := [.lit (.int .i64 0)]) rfl) ?_
      refine aF ?_
      refine aG ?_
      refine aD ?_
      refine bQ rfl (fF (zs := [.lit (.bool false)]) (aA rfl) Try.zeroValue4 rfl rfl) ?_
      rintro _ ⟨b38, rfl⟩
      refine tr1 rfl (cF (i := 8) rfl rfl rfl rfl rfl Try.sizeOf4 rfl (aA rfl) (Nat.le_of_ble_eq_true rfl) (ds' := [.lit (.bool false)]) rfl) ?_
      refine aF ?_
      refine aG ?_
      refine aD ?_
      refine tr1 rfl (uA (i := 4) (aA rfl) rfl rfl rfl wS) ?_
      refine tr1 rfl (aW (aA rfl) rfl (i := 1) rfl rfl bG) ?_
      refine tr1 rfl (aB (v := .d (.sl 1 (prizes_3.map cG))) (aA rfl) rfl rfl) ?_
      refine tr1 rfl (aB (v := .d (.lit w29)) (aA rfl) rfl rfl) ?_
      refine tr1 rfl (wX (aA rfl) rfl rfl) ?_
      refine eR (aX [0, 1, 2, 3, 4, 6, 7, 8, 5] rfl rfl (le_refl _)) ?_
      refine eR (uV [.box b2 0 [.lit (.int .i64 player_1)], .box b3 0 [.lit (.int .i64 week_2)], .box b4 0 [.lit (.int .i64 ((w64 (y8.Ledger.Players + 1))))], .box b5 0 [.lit (.int .i64 0)], .box b22 0 [hH b9 0 0], .arr w10 42 5 (y8.Ledger.Reports.map aC), .box b9 0 [.lit (.int .i64 y8.Ledger.Players), .lit (.int .i64 y8.Ledger.Counts), .lit w10, .sl 3 (y8.Ledger.Bans.map aI), .sl 3 (y8.Ledger.Frozen.map aI)], .box b38 0 [.lit (.bool false)]] [.arr w29 3 1 (free_0_28.map cG)] rfl (gG (k := 63) (v := .d (.sl 1 (free_0_28.map cG))) (.d (gY 0 rfl (cT (f := cG) fun _ => rfl))) (gG (k := 12) (v := .d (.sl 1 (free_0_28.map cG))) (.d (gY 0 rfl (cT (f := cG) fun _ => rfl))) (pF _ _)))) ?_
      refine eR (aX [6, 0, 1, 2, 3, 4, 7, 5] rfl rfl (le_refl _)) ?_
      refine eR (aGk (ds' := (cP y8)) [.box b2 0 [.lit (.int .i64 player_1)], .box b3 0 [.lit (.int .i64 week_2)], .box b4 0 [.lit (.int .i64 ((w64 (y8.Ledger.Players + 1))))], .box b5 0 [.lit (.int .i64 0)], .box b22 0 [hH b9 0 0], .box b38 0 [.lit (.bool false)]] [.arr w10 42 5 (y8.Ledger.Reports.map aC)] rfl (dvc (.same _) (dvc (.same _) (dvc (gY 0 rfl (cT (f := aC) fun _ => rfl)) (dvc (.same _) (dvc (.same _) dvn))))) (pF _ _)) ?_
      obtain ⟨r39, h40, h⟩ := bind_some h
      refine eR (aX [0, 5, 1, 2, 6, 3, 4] rfl rfl (le_refl _)) ?_
      refine bQ rfl (dQ (passed := [.box b9 0 (cP y8), .box b22 0 [hH b9 0 0], .box b2 0 [.lit (.int .i64 player_1)], .box b3 0 [.lit (.int .i64 week_2)], .box b38 0 [.lit (.bool false)], .box b4 0 [.lit (.int .i64 ((w64 (y8.Ledger.Players + 1))))], .box b5 0 [.lit (.int .i64 0)]]) (aA rfl) rfl (.func _ _ Try.call49) rfl rfl (xZ y8 player_1 week_2 false (w64 (y8.Ledger.Players + 1)) 0 week_2 prizes_3 free_0_28 h40)) ?_
      rintro _ ⟨_, _, ⟨rfl, rfl⟩, rfl⟩
      refine aF ?_
      refine aG ?_
      refine aG ?_
      refine aD ?_
      refine tr1 rfl (aW (aA rfl) rfl (i := 4) rfl rfl oX) ?_
      refine aF ?_
      refine bH rfl (fun c41 => ?_) (fun c41 => ?_)
      ·have h := aS c41 h
       refine aG ?_
       refine aD ?_
       refine tr1 rfl (cF (i := 5) rfl rfl rfl rfl rfl Try.sizeOf3 rfl (aA rfl) (Nat.le_of_ble_eq_true rfl) (ds' := [.lit (.int .i64 0)]) rfl) ?_
       refine tr1 rfl (cF (i := 6) rfl rfl rfl rfl rfl Try.sizeOf3 rfl (aA rfl) (Nat.le_of_ble_eq_true rfl) (ds' := [.lit (.int .i64 0)]) rfl) ?_
       refine tr1 rfl (aJ (v := .d (.lit (.int .i64 3))) (aA rfl) rfl rfl) ?_
       refine aF ?_
       have h := Option.some.inj h
       subst h
       exact bI ⟨rfl, _, [.box b9 0 (cP r39.1), .box b22 0 [hH b9 0 0], .box b2 0 [.lit (.int .i64 player_1)], .box b3 0 [.lit (.int .i64 week_2)], .box b38 0 [.lit (.bool r39.2.1)], .box b4 0 [.lit (.int .i64 0)], .box b5 0 [.lit (.int .i64 0)]], .three (.cell1 8 3 rfl (i := 5) rfl bG rfl) (.cell1 9 3 rfl (i := 6) rfl bG rfl) (.tmp 10 (v := .d (.lit (.int .i64 3))) rfl), .refl _, .same _⟩
      ·have h := aR c41 h
       refine bF ?_
       refine aG ?_
       refine oG mix 3 [8, 9] (fun X42 => [(68, .d (.lit (.int .i64 r39.2.2.2)))]) (fun X42 => [.box b9 0 (cP r39.1), .box b22 0 [hH b9 0 0], .box b2 0 [.lit (.int .i64 player_1)], .box b3 0 [.lit (.int .i64 week_2)], .box b38 0 [.lit (.bool r39.2.1)], .box b4 0 [.lit (.int .i64 r39.2.2.1)], .box b5 0 [.lit (.int .i64 r39.2.2.2)]]) ?_ ?_
       ·refine ⟨0, fun X42 => [(67, 0, .d (.lit (.int .i64 r39.2.2.1))), (68, 1, .d (.lit (.int .i64 r39.2.2.2)))], fun X42 => [([], .box b9 0 (cP r39.1)), ([], .box b22 0 [hH b9 0 0]), ([], .box b2 0 [.lit (.int .i64 player_1)]), ([], .box b3 0 [.lit (.int .i64 week_2)]), ([], .box b38 0 [.lit (.bool r39.2.1)]), ([(2, .box b4 0 [.lit (.int .i64 r39.2.2.1)])], .box b4 0 [.lit (.int .i64 r39.2.2.1)]), ([], .box b5 0 [.lit (.int .i64 r39.2.2.2)])], ?_, ?_⟩
        · exact ⟨by kernel_rfl, by kernel_rfl, by kernel_rfl, fun _ => by kernel_rfl, fun _ => by kernel_rfl, fun _ => by kernel_rfl, fun _ => rfl, [([], [2]), ([], []), ([0], [])], by kernel_rfl, ⟨fun X42 S hw hi hS => bW (X := X42) rfl (hw X42) rfl (aQ rfl (aW (aA rfl) (aH hS rfl) (i := 5) (og hS rfl rfl) rfl bG)),
      fun X42 S hw hi hS => bW (X := X42) rfl (hw X42) rfl (aQ rfl (aW (aA rfl) (aH hS rfl) (i := 6) (og hS rfl rfl) rfl bG)),
      fun X42 S hw hi hS => sH (X := X42) hS rfl rfl rfl (p := 5) rfl rfl (aQ rfl (cF (i := 5) (aH hS rfl) (og hS rfl rfl) (aH hS rfl) rfl rfl Try.sizeOf3 rfl (aA rfl) (Nat.le_of_ble_eq_true rfl) (ds' := [.lit (.int .i64 r39.2.2.1)]) rfl)), trivial⟩⟩
        · exact fun X42 => dJ (aL rfl (aY ⟨rfl, rfl, trivial⟩))
       ·intro X42
        refine tr1 rfl (cF (i := 6) rfl rfl rfl rfl rfl Try.sizeOf3 rfl (aA rfl) (Nat.le_of_ble_eq_true rfl) (ds' := [.lit (.int .i64 r39.2.2.2)]) rfl) ?_
        refine tr1 rfl (aJ (v := .d (.lit (.int .i64 0))) (aA rfl) rfl rfl) ?_
        refine aF ?_
        have h := Option.some.inj h
        subst h
        exact bI ⟨rfl, _, [.box b9 0 (cP r39.1), .box b22 0 [hH b9 0 0], .box b2 0 [.lit (.int .i64 player_1)], .box b3 0 [.lit (.int .i64 week_2)], .box b38 0 [.lit (.bool r39.2.1)], .box b4 0 [.lit (.int .i64 r39.2.2.1)], .box b5 0 [.lit (.int .i64 r39.2.2.2)]], .three (.cell1 8 3 rfl (i := 5) rfl bG rfl) (.cell1 9 3 rfl (i := 6) rfl bG rfl) (.tmp 10 (v := .d (.lit (.int .i64 0))) rfl), .refl _, .same _⟩

theorem tX (b_0 : cE) (player_1 : Int) (week_2 : Int) {r : Int} (h : jE b_0 player_1 week_2 = some r) : Fn Try.prog 55 [.cp (cP b_0), .d (.lit (.int .i64 player_1)), .d (.lit (.int .i64 week_2))] (.d (.lit (.int .i64 r))) := by
 unfold jE at h
 refine Fn.of_tr Try.func55 rfl (rs := [.tmp 6]) Try.results55 Try.ntmps55 (Nat.le_of_ble_eq_true rfl) ?_
 refine aG ?_
 refine aD ?_
 refine tr1 rfl (aJ (v := .d (.lit (.int .i64 0))) (aA rfl) rfl rfl) ?_
 refine aF ?_
 refine aG ?_
 refine aD ?_
 refine tr1 rfl (aB (v := .cp [.lit (.int .i64 b_0.Ledger.Players), .lit (.int .i64 b_0.Ledger.Counts), .sl 5 (b_0.Ledger.Reports.map aC), .sl 3 (b_0.Ledger.Bans.map aI), .sl 3 (b_0.Ledger.Frozen.map aI)]) (aA rfl) rfl rfl) ?_
 refine tr1 rfl (aB (v := .cp [.lit (.int .i64 b_0.Ledger.Players), .lit (.int .i64 b_0.Ledger.Counts), .sl 5 (b_0.Ledger.Reports.map aC), .sl 3 (b_0.Ledger.Bans.map aI), .sl 3 (b_0.Ledger.Frozen.map aI)]) (aA rfl) rfl rfl) ?_
 refine tr1 rfl (aB (v := .d (.lit (.int .i64 player_1))) (aA rfl) rfl rfl) ?_
 refine tr1 rfl (aB (v := .d (.lit (.int .i64 week_2))) (aA rfl) rfl rfl) ?_
 obtain ⟨r1, h2, h⟩ := bind_some h
 refine tr1 rfl (iB (aA rfl) (.func _ _ Try.call72) rfl rfl (uK _ _ _ h2)) ?_
 obtain ⟨r3, h4, h⟩ := bind_some h
 refine tr1 rfl (iB (aA rfl) (.func _ _ Try.call71) rfl rfl (uM _ _ h4)) ?_
 obtain ⟨r5, h6, h⟩ := bind_some h
 refine tr1 rfl (bY (aA rfl) (.func _ _ Try.call86) rfl rfl (BVs.refl _ _) (aBl _ h6) rfl) ?_
 refine tr1 rfl (aJ (v := .d (.lit (.int .i64 r5))) (aA rfl) rfl rfl) ?_
 refine aF ?_
 have h := Option.some.inj h
 subst h
 exact bI ⟨rfl, _, .one _, rfl, rfl⟩

theorem tA (s_0 : List aE) (f_1 : aE → Option Bool) {r : Int} (f_1_f : Nat) (f_1_v : List AV) (f_1_e : ∀ args w, (callFunc f_1_f args).run Try.prog w = .ok (.enter f_1_f args) w) (f_1_h : ∀ (x0 : aE) r, f_1 x0 = some r → Fn Try.prog f_1_f ([.agg (aC x0)] ++ f_1_v) (.d (.lit (.bool r)))) (h : iA s_0 f_1 = some r) : Fn Try.prog 75 [.d (.sl 5 (s_0.map aC)), .fn f_1_f f_1_v] (.d (.lit (.int .i64 r))) := by
 unfold iA at h
 refine Fn.of_tr Try.func75 rfl (rs := [.tmp 4]) Try.results75 Try.ntmps75 (Nat.le_of_ble_eq_true rfl) ?_
 refine aG ?_
 refine aD ?_
 refine tr1 rfl (aJ (v := .d (.lit (.int .i64 0))) (aA rfl) rfl rfl) ?_
 refine aF ?_
 refine aG ?_
 refine aG ?_
 refine aD ?_
 refine tr1 rfl (aB (v := .d (.sl 5 (s_0.map aC))) (aA rfl) rfl rfl) ?_
 refine tr1 rfl (dB (aA rfl) rfl bR.of) ?_
 refine tr1 rfl (aB (v := .d (.lit (.int .i64 0))) (aA rfl) rfl rfl) ?_
 refine aF ?_
 refine bP ?_
 refine cJ [0, 1, 7] (fun (s1 : Int) => [(8, .d (.lit (.int .i64 s1)))]) (fun (s1 : Int) => []) (fun (k : Nat) (s1 : Int) => eQ s_0 f_1 (s_0.length : Int) k s1) (fun _ => rfl) (0) h (aX [] rfl rfl (aL rfl (aY ⟨rfl, rfl, rfl, trivial⟩))) ?_
 rintro k2 t8_0_1 h
 simp only [eQ] at h
 refine aG ?_
 refine aD ?_
 refine tr1 rfl (bB (aA rfl) rfl rfl rfl) ?_
 refine aF ?_
 refine aG ?_
 refine bH rfl (fun c3 => ?_) (fun c3 => ?_)
 ·have h := aS c3 h
  refine bF ?_
  refine aG ?_
  refine bP ?_
  refine aG ?_
  refine aD ?_
  refine tr1 rfl (aB (v := .d (.lit (.int .i64 t8_0_1))) (aA rfl) rfl rfl) ?_
  refine tr1 rfl (aJ (v := .d (.lit (.int .i64 t8_0_1))) (aA rfl) rfl rfl) ?_
  refine aF ?_
  refine aG ?_
  refine aD ?_
  refine tr1 rfl (aB (v := .fn f_1_f f_1_v) (aA rfl) rfl rfl) ?_
  refine tr1 rfl (aB (v := .d (.sl 5 (s_0.map aC))) (aA rfl) rfl rfl) ?_
  refine tr1 rfl (aB (v := .d (.lit (.int .i64 t8_0_1))) (aA rfl) rfl rfl) ?_
  obtain ⟨x4, h5, h⟩ := bind_some h
  refine tr1 rfl (bM (aA rfl) rfl rfl bR.of (bK aC h5)) ?_
  refine tr1 rfl (eP (aA rfl) rfl dW (es := (aC x4)) rfl rfl) ?_
  obtain ⟨r6, h7, h⟩ := bind_some h
  refine tr1 rfl (bY (aA rfl) (.clo _ _ _ _ f_1_e rfl) (tD rfl) rfl (BVs.refl _ _) (f_1_h _ _  h7) rfl) ?_
  refine aF ?_
  refine bH rfl (fun c8 => ?_) (fun c8 => ?_)
  ·have h := aS c8 h
   refine aG ?_
   refine aD ?_
   refine tr1 rfl (aB (v := .d (.lit (.int .i64 t8_0_1))) (aA rfl) rfl rfl) ?_
   refine tr1 rfl (aJ (v := .d (.lit (.int .i64 t8_0_1))) (aA rfl) rfl rfl) ?_
   refine aF ?_
   have h := Option.some.inj h
   subst h
   exact bI ⟨rfl, _, .one _, rfl, rfl⟩
  ·have h := aR c8 h
   refine dK ?_
   refine aD ?_
   refine tr1 rfl (aZ (aA rfl) rfl rfl rfl) ?_
   refine tr1 rfl (aB (v := .d (.lit (.int .i64 ((w64 (t8_0_1 + 1)))))) (aA rfl) rfl rfl) ?_
   refine aF ?_
   exact ⟨(w64 (t8_0_1 + 1)), h, aX [] rfl rfl (aL rfl (aY ⟨rfl, rfl, rfl, trivial⟩))⟩
 ·have h := aR c3 h
  refine cQ ?_
  refine .inl ⟨rfl, ?_⟩
  simp only [lE] at h
  refine aG ?_
  refine aD ?_
  refine tr1 rfl (aJ (v := .d (.lit (.int .i64 (-1)))) (aA rfl) rfl rfl) ?_
  refine aF ?_
  have h := Option.some.inj h
  subst h
  exact bI ⟨rfl, _, .one _, rfl, rfl⟩

theorem sX (s_0 : List aE) (del_1 : aE → Option Bool) {r : (List aE)} {s_0_v : Value} (del_1_f : Nat) (del_1_v : List AV) (del_1_e : ∀ args w, (callFunc del_1_f args).run Try.prog w = .ok (.enter del_1_f args) w) (del_1_h : ∀ (x0 : aE) r, del_1 x0 = some r → Fn Try.prog del_1_f ([.agg (aC x0)] ++ del_1_v) (.d (.lit (.bool r)))) (h : eT s_0 del_1 = some r) : gE Try.prog 56 [.d (.lit s_0_v), .fn del_1_f del_1_v] [.arr s_0_v 42 5 (s_0.map aC)] (fun r' o' => ∃ w0 : Value, r' = .d (.lit w0) ∧ o' = [.arr w0 42 5 (r.map aC)]) := by
 unfold eT at h
 refine lZ Try.func56 rfl (rs := [.tmp 4]) Try.results56 Try.ntmps56 (Nat.le_of_ble_eq_true rfl) ?_
 refine aG ?_
 refine aD ?_
 refine tr1 rfl (hZ 42 5 (.inl rfl) (aA rfl)) ?_
 refine aF ?_
 refine aG ?_
 refine aD ?_
 refine tr1 rfl (aB (v := .d (.lit s_0_v)) (aA rfl) rfl rfl) ?_
 refine tr1 rfl (aB (v := .fn del_1_f del_1_v) (aA rfl) rfl rfl) ?_
 obtain ⟨r2, h3, h⟩ := bind_some h
 refine tr1 rfl (bY (aA rfl) (.func _ _ Try.call75) rfl rfl (.cons (.d (gY 0 rfl (cT (f := aC) fun _ => rfl))) (.cons (.same _) .nil)) (tA _ _ del_1_f del_1_v del_1_e del_1_h h3) rfl) ?_
 refine tr1 rfl (aJ (v := .d (.lit (.int .i64 r2))) (aA rfl) rfl rfl) ?_
 refine aF ?_
 refine aG ?_
 refine aG ?_
 refine aD ?_
 refine tr1 rfl (aB (v := .d (.lit (.int .i64 r2))) (aA rfl) rfl rfl) ?_
 refine tr1 rfl (bB (aA rfl) rfl rfl rfl) ?_
 refine aF ?_
 refine bH rfl (fun c4 => ?_) (fun c4 => ?_)
 ·have h := aS c4 h
  refine aG ?_
  refine aD ?_
  refine tr1 rfl (aB (v := .d (.lit s_0_v)) (aA rfl) rfl rfl) ?_
  refine tr1 rfl (aJ (v := .d (.lit s_0_v)) (aA rfl) rfl rfl) ?_
  refine aF ?_
  have h := Option.some.inj h
  subst h
  exact bI ⟨rfl, _, [.arr s_0_v 42 5 (s_0.map aC)], [.arr (.slice none 0 0) 42 5 (([] : List aE).map aC)], _, .one (.tmp 4 (v := .d (.lit s_0_v)) rfl), .refl _, .same _, s_0_v, rfl, rfl⟩
 ·have h := aR c4 h
  refine bF ?_
  refine aG ?_
  refine aG ?_
  refine aD ?_
  refine tr1 rfl (aB (v := .d (.lit (.int .i64 r2))) (aA rfl) rfl rfl) ?_
  refine tr1 rfl (aZ (aA rfl) rfl rfl rfl) ?_
  refine tr1 rfl (aJ (v := .d (.lit (.int .i64 ((w64 (r2 + 1)))))) (aA rfl) rfl rfl) ?_
  refine aF ?_
  refine bP ?_
  refine cJ [1] (fun (s5 : Int × Int × (List aE)) => [(0, .d (.lit s_0_v)), (5, .d (.lit (.int .i64 s5.1))), (6, .d (.lit (.int .i64 s5.2.1)))]) (fun (s5 : Int × Int × (List aE)) => [.arr s_0_v 42 5 (s5.2.2.map aC)]) (fun (k : Nat) (s5 : Int × Int × (List aE)) => dX del_1 k s5.1 s5.2.1 s5.2.2) (fun _ => rfl) (r2, w64 (r2 + 1), s_0) h (aX [0] rfl rfl (aL rfl (aL rfl (aL rfl (aY ⟨rfl, trivial⟩))))) ?_
  rintro k6 ⟨i_0_5, j_0_5, s_0_5⟩ h
  simp only [dX] at h
  refine aG ?_
  refine aG ?_
  refine aD ?_
  refine tr1 rfl (aB (v := .d (.lit (.int .i64 j_0_5))) (aA rfl) rfl rfl) ?_
  refine tr1 rfl (aB (v := .d (.lit s_0_v)) (aA rfl) rfl rfl) ?_
  refine tr1 rfl (lD (m := 0) (aA rfl) rfl rfl bR.of) ?_
  refine tr1 rfl (bB (aA rfl) rfl rfl rfl) ?_
  refine aF ?_
  refine bH rfl (fun c7 => ?_) (fun c7 => ?_)
  ·have h := aS c7 h
   refine bF ?_
   refine aG ?_
   refine bP ?_
   refine aG ?_
   refine aD ?_
   refine tr1 rfl (aB (v := .d (.lit s_0_v)) (aA rfl) rfl rfl) ?_
   refine tr1 rfl (aB (v := .d (.lit (.int .i64 j_0_5))) (aA rfl) rfl rfl) ?_
   obtain ⟨x8, h9, h⟩ := bind_some h
   refine tr1 rfl (cM (m := 0) (aA rfl) rfl rfl rfl bR.of (bK aC h9)) ?_
   refine tr1 rfl (dH (aA rfl) rfl (l := 0) rfl (eF aC h9) dW (es := (aC x8)) rfl rfl) ?_
   refine bQ rfl (fF (zs := [.lit (.int .i64 0), .lit (.int .i64 0), .lit (.int .i64 0), .lit (.int .i64 0), .lit (.bool false)]) (aA rfl) Try.zeroValue42 rfl rfl) ?_
   rintro _ ⟨b10, rfl⟩
   refine tr1 rfl (cF (i := 1) rfl rfl rfl rfl rfl Try.sizeOf42 rfl (aA rfl) (Nat.le_of_ble_eq_true rfl) (ds' := (aC x8)) rfl) ?_
   refine aF ?_
   refine aG ?_
   refine aD ?_
   refine tr1 rfl (aB (v := .fn del_1_f del_1_v) (aA rfl) rfl rfl) ?_
   refine tr1 rfl (cA (aA rfl) rfl (i := 1) rfl dW (es := (aC x8)) rfl rfl) ?_
   obtain ⟨r11, h12, h⟩ := bind_some h
   refine tr1 rfl (bY (aA rfl) (.clo _ _ _ _ del_1_e rfl) (tD rfl) rfl (BVs.refl _ _) (del_1_h _ _  h12) rfl) ?_
   refine tr1 rfl (eN (aA rfl) rfl) ?_
   refine aF ?_
   refine bH rfl (fun c13 => ?_) (fun c13 => ?_)
   ·have h := aS c13 h
    refine aG ?_
    refine aD ?_
    refine tr1 rfl (aB (v := .d (.lit s_0_v)) (aA rfl) rfl rfl) ?_
    refine tr1 rfl (aB (v := .d (.lit (.int .i64 i_0_5))) (aA rfl) rfl rfl) ?_
    refine tr1 rfl (cA (aA rfl) rfl (i := 1) rfl dW (es := (aC x8)) rfl rfl) ?_
    obtain ⟨x14, h15, h⟩ := bind_some h
    refine tr1 rfl (cM (m := 0) (aA rfl) rfl rfl rfl bR.of (bK aC h15)) ?_
    refine tr1 rfl (jQ (l := 0) rfl rfl (eF aC h15) rfl rfl rfl Try.sizeOf42 rfl (aA rfl) (Nat.le_of_ble_eq_true rfl) (rows' := ((s_0_5.set i_0_5.toNat x8)).map aC) (nC _ _ _ _ rfl)) ?_
    refine aF ?_
    refine aD ?_
    refine tr1 rfl (aB (v := .d (.lit (.int .i64 i_0_5))) (aA rfl) rfl rfl) ?_
    refine tr1 rfl (aZ (aA rfl) rfl rfl rfl) ?_
    refine tr1 rfl (aJ (v := .d (.lit (.int .i64 ((w64 (i_0_5 + 1)))))) (aA rfl) rfl rfl) ?_
    refine dA ?_
    refine aD ?_
    refine tr1 rfl (aB (v := .d (.lit (.int .i64 j_0_5))) (aA rfl) rfl rfl) ?_
    refine tr1 rfl (aZ (aA rfl) rfl rfl rfl) ?_
    refine tr1 rfl (aJ (v := .d (.lit (.int .i64 ((w64 (j_0_5 + 1)))))) (aA rfl) rfl rfl) ?_
    refine aF ?_
    exact ⟨(w64 (i_0_5 + 1), w64 (j_0_5 + 1), (s_0_5.set i_0_5.toNat x8)), h, aX [0] rfl rfl (aL rfl (aL rfl (aL rfl (aY ⟨rfl, trivial⟩))))⟩
   ·have h := aR c13 h
    refine dK ?_
    refine aD ?_
    refine tr1 rfl (aB (v := .d (.lit (.int .i64 j_0_5))) (aA rfl) rfl rfl) ?_
    refine tr1 rfl (aZ (aA rfl) rfl rfl rfl) ?_
    refine tr1 rfl (aJ (v := .d (.lit (.int .i64 ((w64 (j_0_5 + 1)))))) (aA rfl) rfl rfl) ?_
    refine aF ?_
    exact ⟨(i_0_5, w64 (j_0_5 + 1), s_0_5), h, aX [0] rfl rfl (aL rfl (aL rfl (aL rfl (aY ⟨rfl, trivial⟩))))⟩
  ·have h := aR c7 h
   refine cQ ?_
   refine .inl ⟨rfl, ?_⟩
   simp only [kU] at h
   refine aG ?_
   refine aD ?_
   refine tr1 rfl (aB (v := .d (.lit s_0_v)) (aA rfl) rfl rfl) ?_
   refine tr1 rfl (aB (v := .d (.lit (.int .i64 i_0_5))) (aA rfl) rfl rfl) ?_
   obtain ⟨u16, h17, h⟩ := bind_some h
   refine tr1 rfl (sU (m := 0) (aA rfl) rfl rfl rfl bR.of h17) ?_
   obtain ⟨u18, h19, h⟩ := bind_some h
   refine tr1 rfl (aAr (f := aC) (m := 0) bR rfl rfl h19 (by decide)) ?_
   refine aF ?_
   refine aG ?_
   refine aD ?_
   refine tr1 rfl (aB (v := .d (.lit s_0_v)) (aA rfl) rfl rfl) ?_
   refine tr1 rfl (aB (v := .d (.lit (.int .i64 i_0_5))) (aA rfl) rfl rfl) ?_
   obtain ⟨u20, h21, h⟩ := bind_some h
   refine tr1 rfl (qU (m := 0) (q := i_0_5.toNat) (v := s_0_v) (aA rfl) rfl rfl rfl rfl (yG h21) bR.of) ?_
   refine tr1 rfl (aJ (v := .d (.lit (fZ s_0_v i_0_5.toNat))) (aA rfl) rfl rfl) ?_
   refine aF ?_
   have h := Option.some.inj h
   subst h
   exact bI ⟨rfl, _, [.arr (fZ s_0_v i_0_5.toNat) 42 5 ((s_0_5.take i_0_5.toNat).map aC)], [], _, .one (.tmp 4 (v := .d (.lit (fZ s_0_v i_0_5.toNat))) rfl), .refl _, .same _, (fZ s_0_v i_0_5.toNat), rfl, rfl⟩

theorem aAp (r_0 : aE) (c_1 : Int) {r : Bool} (h : nA r_0 c_1 = some r) : Fn Try.prog 57 [.agg (aC r_0), .cp [.lit (.int .i64 c_1)]] (.d (.lit (.bool r))) := by
 unfold nA at h
 refine Fn.of_tr Try.func57 rfl (rs := [.tmp 3]) Try.results57 Try.ntmps57 (Nat.le_of_ble_eq_true rfl) ?_
 refine aG ?_
 refine aD ?_
 refine bQ rfl (eD (v := .agg (aC r_0)) (aA rfl) rfl rfl rfl) ?_
 rintro _ ⟨b1, rfl⟩
 refine tr1 rfl (aJ (v := .d (.lit (.bool false))) (aA rfl) rfl rfl) ?_
 refine aF ?_
 refine aG ?_
 refine aD ?_
 refine tr1 rfl (aV (aA rfl) rfl kY) ?_
 refine tr1 rfl (aW (aA rfl) rfl (i := 0) rfl rfl bG) ?_
 refine tr1 rfl (bZ (aA rfl) rfl bG) ?_
 refine tr1 rfl (bB (aA rfl) rfl rfl rfl) ?_
 refine tr1 rfl (aJ (v := .d (.lit (.bool ((decide (c_1 < r_0.Week)))))) (aA rfl) rfl rfl) ?_
 refine aF ?_
 have h := Option.some.inj h
 subst h
 refine cI (bX (cB (l := [3]) ⟨rfl, trivial⟩)) ?_
 exact bI ⟨rfl, _, .one _, rfl, rfl⟩

theorem wV (l_0 : aN) (player_1 : Int) (week_2 : Int) {r : Int × Int} (h : lC l_0 player_1 week_2 = some r) : Fn Try.prog 21 [.agg (aT l_0), .d (.lit (.int .i64 player_1)), .d (.lit (.int .i64 week_2))] (.tup [.d (.lit (.int .i64 r.1)), .d (.lit (.int .i64 r.2))]) := by
 unfold lC at h
 refine Fn.of_tr Try.func21 rfl (rs := [.tmp 6, .tmp 7]) Try.results21 Try.ntmps21 (Nat.le_of_ble_eq_true rfl) ?_
 refine aG ?_
 refine aD ?_
 refine bQ rfl (eD (v := .agg (aT l_0)) (aA rfl) rfl rfl rfl) ?_
 rintro _ ⟨b1, rfl⟩
 refine bQ rfl (eD (v := .d (.lit (.int .i64 week_2))) (aA rfl) rfl rfl rfl) ?_
 rintro _ ⟨b2, rfl⟩
 refine tr1 rfl (aJ (v := .d (.lit (.int .i64 0))) (aA rfl) rfl rfl) ?_
 refine tr1 rfl (aJ (v := .d (.lit (.int .i64 0))) (aA rfl) rfl rfl) ?_
 refine aF ?_
 refine aG ?_
 refine aD ?_
 refine tr1 rfl (cA (aA rfl) rfl (i := 0) rfl dI (es := (aT l_0)) rfl rfl) ?_
 refine tr1 rfl (aB (v := .d (.lit (.int .i64 player_1))) (aA rfl) rfl rfl) ?_
 refine tr1 rfl (aW (aA rfl) rfl (i := 1) rfl rfl bG) ?_
 obtain ⟨r3, h4, h⟩ := bind_some h
 refine bQ rfl (dQ (passed := []) (aA rfl) rfl (.func _ _ Try.call44) rfl rfl (sQ _ _ _ h4)) ?_
 rintro _ ⟨_, _, ⟨b6, w7, rfl, rfl⟩, rfl⟩
 obtain ⟨_ | y5, e8⟩ := r3
 ·have h := wT h
  refine eR (aX [0, 1] rfl rfl (le_refl _)) ?_
  refine tr1 rfl (aB (v := .tup [.d (.lit (.pointer none)), .d (.lit (.int .i64 e8))]) (aA rfl) rfl rfl) ?_
  refine tr1 rfl (cH (aA rfl) rfl rfl) ?_
  refine tr1 rfl (cH (aA rfl) rfl rfl) ?_
  refine tr1 rfl (aJ (v := .d (.lit (.pointer none))) (aA rfl) rfl rfl) ?_
  refine tr1 rfl (aJ (v := .d (.lit (.int .i64 e8))) (aA rfl) rfl rfl) ?_
  refine aF ?_
  refine aG ?_
  refine aG ?_
  refine aD ?_
  refine tr1 rfl (aB (v := .d (.lit (.int .i64 e8))) (aA rfl) rfl rfl) ?_
  refine tr1 rfl (bB (aA rfl) rfl rfl rfl) ?_
  refine aF ?_
  refine bH rfl (fun c9 => ?_) (fun c9 => ?_)
  ·have h := aS c9 h
   refine aG ?_
   refine aD ?_
   refine tr1 rfl (aB (v := .d (.lit (.int .i64 e8))) (aA rfl) rfl rfl) ?_
   refine tr1 rfl (aJ (v := .d (.lit (.int .i64 0))) (aA rfl) rfl rfl) ?_
   refine tr1 rfl (aJ (v := .d (.lit (.int .i64 e8))) (aA rfl) rfl rfl) ?_
   refine aF ?_
   have h := Option.some.inj h
   subst h
   refine cI (bX (cB (l := [6, 7]) ⟨rfl, rfl, trivial⟩)) ?_
   exact bI ⟨rfl, _, .two _ _, rfl, rfl⟩
  ·have h := aR c9 h
   refine bF ?_
   refine aG ?_
   refine aG ?_
   refine aD ?_
   refine tr1 rfl (aW (aA rfl) rfl (i := 1) rfl rfl bG) ?_
   refine tr1 rfl (bB (aA rfl) rfl rfl rfl) ?_
   refine aF ?_
   refine bH rfl (fun c10 => ?_) (fun c10 => ?_)
   ·have h := aS c10 h
    refine aG ?_
    refine aD ?_
    refine tr1 rfl (aJ (v := .d (.lit (.int .i64 0))) (aA rfl) rfl rfl) ?_
    refine tr1 rfl (aJ (v := .d (.lit (.int .i64 1))) (aA rfl) rfl rfl) ?_
    refine aF ?_
    have h := Option.some.inj h
    subst h
    refine cI (bX (cB (l := [6, 7]) ⟨rfl, rfl, trivial⟩)) ?_
    exact bI ⟨rfl, _, .two _ _, rfl, rfl⟩
   ·have h := aR c10 h
    refine bF ?_
    refine aG ?_
    refine aD ?_
    refine tr1 rfl (aB (v := .d (.lit (.pointer none))) (aA rfl) rfl rfl) ?_
    refine tr1 rfl (aB (v := .d (.lit (.int .i64 player_1))) (aA rfl) rfl rfl) ?_
    refine tr1 rfl (aW (aA rfl) rfl (i := 1) rfl rfl bG) ?_
    cases h
 ·have h := wU h
  refine eR (aX [0, 1, 2, 3] rfl rfl (le_refl _)) ?_
  refine tr1 rfl (aB (v := .tup [.bp b6 0 0, .d (.lit (.int .i64 e8))]) (aA rfl) rfl rfl) ?_
  refine tr1 rfl (cH (aA rfl) rfl rfl) ?_
  refine tr1 rfl (cH (aA rfl) rfl rfl) ?_
  refine tr1 rfl (aJ (v := .bp b6 0 0) (aA rfl) rfl rfl) ?_
  refine tr1 rfl (aJ (v := .d (.lit (.int .i64 e8))) (aA rfl) rfl rfl) ?_
  refine aF ?_
  refine aG ?_
  refine aG ?_
  refine aD ?_
  refine tr1 rfl (aB (v := .d (.lit (.int .i64 e8))) (aA rfl) rfl rfl) ?_
  refine tr1 rfl (bB (aA rfl) rfl rfl rfl) ?_
  refine aF ?_
  refine bH rfl (fun c11 => ?_) (fun c11 => ?_)
  ·have h := aS c11 h
   refine aG ?_
   refine aD ?_
   refine tr1 rfl (aB (v := .d (.lit (.int .i64 e8))) (aA rfl) rfl rfl) ?_
   refine tr1 rfl (aJ (v := .d (.lit (.int .i64 0))) (aA rfl) rfl rfl) ?_
   refine tr1 rfl (aJ (v := .d (.lit (.int .i64 e8))) (aA rfl) rfl rfl) ?_
   refine aF ?_
   have h := Option.some.inj h
   subst h
   refine cI (bX (cB (l := [6, 7]) ⟨rfl, rfl, trivial⟩)) ?_
   exact bI ⟨rfl, _, .two _ _, rfl, rfl⟩
  ·have h := aR c11 h
   refine bF ?_
   refine aG ?_
   refine aG ?_
   refine aD ?_
   refine tr1 rfl (aW (aA rfl) rfl (i := 3) rfl rfl bG) ?_
   refine tr1 rfl (bB (aA rfl) rfl rfl rfl) ?_
   refine aF ?_
   refine bH rfl (fun c12 => ?_) (fun c12 => ?_)
   ·have h := aS c12 h
    refine aG ?_
    refine aD ?_
    refine tr1 rfl (aJ (v := .d (.lit (.int .i64 0))) (aA rfl) rfl rfl) ?_
    refine tr1 rfl (aJ (v := .d (.lit (.int .i64 1))) (aA rfl) rfl rfl) ?_
    refine aF ?_
    have h := Option.some.inj h
    subst h
    refine cI (bX (cB (l := [6, 7]) ⟨rfl, rfl, trivial⟩)) ?_
    exact bI ⟨rfl, _, .two _ _, rfl, rfl⟩
   ·have h := aR c12 h
    refine bF ?_
    refine aG ?_
    refine aD ?_
    refine tr1 rfl (aB (v := .bp b6 0 0) (aA rfl) rfl rfl) ?_
    refine tr1 rfl (aB (v := .d (.lit (.int .i64 player_1))) (aA rfl) rfl rfl) ?_
    refine tr1 rfl (aW (aA rfl) rfl (i := 3) rfl rfl bG) ?_
    obtain ⟨r13, h14, h⟩ := bind_some h
    refine tr1 rfl (bY (aA rfl) (.func _ _ Try.call55) rfl rfl (.cons ((oW 0 rfl rfl (dvc (.same _) (dvc (.same _) (dvc (gY 1 rfl (cT (f := aC) fun _ => rfl)) (dvc (.same _) (dvc (.same _) dvn))))))) (.cons (.same _) (.cons (.same _) .nil))) (tX _ _ _ h14) rfl) ?_
    refine tr1 rfl (aJ (v := .d (.lit (.int .i64 r13))) (aA rfl) rfl rfl) ?_
    refine aF ?_
    refine aG ?_
    refine aD ?_
    refine tr1 rfl (aB (v := .bp b6 0 0) (aA rfl) rfl rfl) ?_
    refine tr1 rfl (aB (v := .bp b6 0 0) (aA rfl) rfl rfl) ?_
    refine tr1 rfl (kN (aA rfl) rfl) ?_
    refine tr1 rfl (aV (aA rfl) rfl iO) ?_
    refine tr1 rfl (aV (aA rfl) rfl eK) ?_
    refine tr1 rfl (aW (aA rfl) rfl (i := 0) rfl rfl jB) ?_
    refine tr1 rfl (wX (aA rfl) rfl rfl) ?_
    apply aCc [.box b6 0 [.lit (.int .i64 y5.Ledger.Players), .lit (.int .i64 y5.Ledger.Counts), .lit w7, .sl 3 (y5.Ledger.Bans.map aI), .sl 3 (y5.Ledger.Frozen.map aI)], .arr w7 42 5 (y5.Ledger.Reports.map aC), .box b1 0 (aT l_0)] [.box b2 0 [.lit (.int .i64 week_2)]] rfl
    exact gG (k := 33) (v := .fn 57 [.cp [.lit (.int .i64 week_2)]]) ((aAw (.cons ((oW 0 rfl rfl (dvc (.same _) dvn))) .nil))) (gG (k := 5) (v := .cp [.lit (.int .i64 week_2)]) ((oW 0 rfl rfl (dvc (.same _) dvn))) (pF _ _))
    obtain ⟨r16, h17, h⟩ := bind_some h
    refine eR (aX [1, 0, 2] rfl rfl (le_refl _)) ?_
    refine bQ rfl (dQ (passed := [.arr w7 42 5 (y5.Ledger.Reports.map aC)]) (aA rfl) rfl (.func _ _ Try.call56) rfl rfl (sX y5.Ledger.Reports (fun y15 => nA y15 week_2) 57 [.cp [.lit (.int .i64 week_2)]] Try.call57 (fun _ _ h => aAp _ _ h) h17)) ?_
    rintro _ ⟨_, _, ⟨v18, rfl, rfl⟩, rfl⟩
    refine tr1 rfl (kN (aA rfl) rfl) ?_
    refine tr1 rfl (aV (aA rfl) rfl iO) ?_
    refine tr1 rfl (aV (aA rfl) rfl eK) ?_
    refine tr1 rfl (cF (i := 1) rfl rfl rfl rfl rfl Try.sizeOf22 rfl (aA rfl) (Nat.le_of_ble_eq_true rfl) (ds' := [.lit (.int .i64 y5.Ledger.Players), .lit (.int .i64 y5.Ledger.Counts), .lit v18, .sl 3 (y5.Ledger.Bans.map aI), .sl 3 (y5.Ledger.Frozen.map aI)]) rfl) ?_
    refine aF ?_
    refine aG ?_
    refine aD ?_
    refine tr1 rfl (aB (v := .d (.lit (.int .i64 r13))) (aA rfl) rfl rfl) ?_
    refine tr1 rfl (aB (v := .bp b6 0 0) (aA rfl) rfl rfl) ?_
    refine tr1 rfl (aB (v := .d (.lit (.int .i64 player_1))) (aA rfl) rfl rfl) ?_
    refine tr1 rfl (bZ (aA rfl) rfl bG) ?_
    refine tr1 rfl (aZ (aA rfl) rfl rfl rfl) ?_
    obtain ⟨r19, h20, h⟩ := bind_some h
    refine tr1 rfl (bY (aA rfl) (.func _ _ Try.call55) rfl rfl (.cons ((oW 1 rfl rfl (dvc (.same _) (dvc (.same _) (dvc (gY 0 rfl (cT (f := aC) fun _ => rfl)) (dvc (.same _) (dvc (.same _) dvn))))))) (.cons (.same _) (.cons (.same _) .nil))) (tX _ _ _ h20) rfl) ?_
    refine tr1 rfl (aZ (aA rfl) rfl rfl rfl) ?_
    refine tr1 rfl (aJ (v := .d (.lit (.int .i64 ((w64 (r13 - r19)))))) (aA rfl) rfl rfl) ?_
    refine tr1 rfl (aJ (v := .d (.lit (.int .i64 0))) (aA rfl) rfl rfl) ?_
    refine aF ?_
    have h := Option.some.inj h
    subst h
    refine cI (bX (cB (l := [6, 7]) ⟨rfl, rfl, trivial⟩)) ?_
    exact bI ⟨rfl, _, .two _ _, rfl, rfl⟩

theorem sE (a_0 : List Int) (b_1 : List Int) {r : Bool} (h : kD a_0 b_1 = some r) : Fn Try.prog 32 [.d (.sl 1 (a_0.map cG)), .d (.sl 1 (b_1.map cG))] (.d (.lit (.bool r))) := by
 unfold kD at h
 refine Fn.of_tr Try.func32 rfl (rs := [.tmp 4]) Try.results32 Try.ntmps32 (Nat.le_of_ble_eq_true rfl) ?_
 refine aG ?_
 refine aD ?_
 refine tr1 rfl (aJ (v := .d (.lit (.bool false))) (aA rfl) rfl rfl) ?_
 refine aF ?_
 refine aG ?_
 refine aG ?_
 refine aD ?_
 refine tr1 rfl (aB (v := .d (.sl 1 (a_0.map cG))) (aA rfl) rfl rfl) ?_
 refine tr1 rfl (dB (aA rfl) rfl eI.of) ?_
 refine tr1 rfl (aB (v := .d (.sl 1 (b_1.map cG))) (aA rfl) rfl rfl) ?_
 refine tr1 rfl (dB (aA rfl) rfl eI.of) ?_
 refine tr1 rfl (bB (aA rfl) rfl rfl rfl) ?_
 refine aF ?_
 refine bH rfl (fun c1 => ?_) (fun c1 => ?_)
 ·have h := aS c1 h
  refine aG ?_
  refine aD ?_
  refine tr1 rfl (aJ (v := .d (.lit (.bool false))) (aA rfl) rfl rfl) ?_
  refine aF ?_
  have h := Option.some.inj h
  subst h
  exact bI ⟨rfl, _, .one _, rfl, rfl⟩
 ·have h := aR c1 h
  refine bF ?_
  refine aG ?_
  refine aG ?_
  refine aD ?_
  refine tr1 rfl (aJ (v := .d (.lit (.int .i64 0))) (aA rfl) rfl rfl) ?_
  refine aF ?_
  refine bP ?_
  refine cJ [0, 1] (fun (s2 : Int) => [(5, .d (.lit (.int .i64 s2)))]) (fun (s2 : Int) => []) (fun (k : Nat) (s2 : Int) => gM a_0 b_1 k s2) (fun _ => rfl) (0) h (aX [] rfl rfl (aL rfl (aY ⟨rfl, rfl, trivial⟩))) ?_
  rintro k3 i_0_2 h
  simp only [gM] at h
  refine aG ?_
  refine aG ?_
  refine aD ?_
  refine tr1 rfl (aB (v := .d (.lit (.int .i64 i_0_2))) (aA rfl) rfl rfl) ?_
  refine tr1 rfl (aB (v := .d (.sl 1 (a_0.map cG))) (aA rfl) rfl rfl) ?_
  refine tr1 rfl (dB (aA rfl) rfl eI.of) ?_
  refine tr1 rfl (bB (aA rfl) rfl rfl rfl) ?_
  refine aF ?_
  refine bH rfl (fun c4 => ?_) (fun c4 => ?_)
  ·have h := aS c4 h
   refine bF ?_
   refine aG ?_
   refine bP ?_
   refine aG ?_
   obtain ⟨x5, h6, h⟩ := bind_some h
   obtain ⟨x7, h8, h⟩ := bind_some h
   refine fD mix 8 [0, 1, 5] [(20, .d (.lit (.int .i64 x5))), (24, .d (.lit (.int .i64 x7)))] ?_ ?_
   ·refine ⟨[(17, 0, .d (.sl 1 (a_0.map cG))), (18, 1, .d (.lit (.int .i64 i_0_2))), (19, 2, .cp [.lit (.int .i64 x5)]), (20, 3, .d (.lit (.int .i64 x5))), (21, 4, .d (.sl 1 (b_1.map cG))), (22, 5, .d (.lit (.int .i64 i_0_2))), (23, 6, .cp [.lit (.int .i64 x7)]), (24, 7, .d (.lit (.int .i64 x7)))], ?_, ?_⟩
    · exact ⟨by kernel_rfl, by kernel_rfl, by kernel_rfl, by kernel_rfl, by kernel_rfl, [([], []), ([], []), ([0, 1], []), ([2], []), ([], []), ([], []), ([4, 5], []), ([6], [])], by kernel_rfl, ⟨fun S hS => aK rfl (aQ rfl (aB (v := .d (.sl 1 (a_0.map cG))) (aA rfl) (aH hS rfl) rfl)),
      fun S hS => aK rfl (aQ rfl (aB (v := .d (.lit (.int .i64 i_0_2))) (aA rfl) (aH hS rfl) rfl)),
      fun S hS => aK rfl (aQ rfl (bM (aA rfl) (aH hS rfl) (aH hS rfl) eI.of (bK cG h6))),
      fun S hS => aK rfl (aQ rfl (bZ (aA rfl) (aH hS rfl) bG)),
      fun S hS => aK rfl (aQ rfl (aB (v := .d (.sl 1 (b_1.map cG))) (aA rfl) (aH hS rfl) rfl)),
      fun S hS => aK rfl (aQ rfl (aB (v := .d (.lit (.int .i64 i_0_2))) (aA rfl) (aH hS rfl) rfl)),
      fun S hS => aK rfl (aQ rfl (bM (aA rfl) (aH hS rfl) (aH hS rfl) eI.of (bK cG h8))),
      fun S hS => aK rfl (aQ rfl (bZ (aA rfl) (aH hS rfl) bG)), trivial⟩⟩
    · exact dJ (aL rfl (aL rfl (aY ⟨rfl, rfl, rfl, trivial⟩)))
   ·refine tr1 rfl (bB (aA rfl) rfl rfl rfl) ?_
    refine aF ?_
    refine bH rfl (fun c9 => ?_) (fun c9 => ?_)
    ·have h := aS c9 h
     refine aG ?_
     refine aD ?_
     refine tr1 rfl (aJ (v := .d (.lit (.bool false))) (aA rfl) rfl rfl) ?_
     refine aF ?_
     have h := Option.some.inj h
     subst h
     exact bI ⟨rfl, _, .one _, rfl, rfl⟩
    ·have h := aR c9 h
     refine dK ?_
     refine aD ?_
     refine tr1 rfl (aB (v := .d (.lit (.int .i64 i_0_2))) (aA rfl) rfl rfl) ?_
     refine tr1 rfl (aZ (aA rfl) rfl rfl rfl) ?_
     refine tr1 rfl (aJ (v := .d (.lit (.int .i64 ((w64 (i_0_2 + 1)))))) (aA rfl) rfl rfl) ?_
     refine aF ?_
     exact ⟨(w64 (i_0_2 + 1)), h, aX [] rfl rfl (aL rfl (aY ⟨rfl, rfl, trivial⟩))⟩
  ·have h := aR c4 h
   refine cQ ?_
   refine .inl ⟨rfl, ?_⟩
   simp only [oH] at h
   refine aG ?_
   refine aD ?_
   refine tr1 rfl (aJ (v := .d (.lit (.bool true))) (aA rfl) rfl rfl) ?_
   refine aF ?_
   have h := Option.some.inj h
   subst h
   exact bI ⟨rfl, _, .one _, rfl, rfl⟩

theorem tT {r : Bool} (h : lT = some r) : Fn Try.prog 16 [] (.d (.lit (.bool r))) := by
 unfold lT at h
 refine Fn.of_tr Try.func16 rfl (rs := [.tmp 0]) Try.results16 Try.ntmps16 (Nat.le_of_ble_eq_true rfl) ?_
 refine aG ?_
 refine aD ?_
 refine tr1 rfl (aJ (v := .d (.lit (.bool false))) (aA rfl) rfl rfl) ?_
 refine aF ?_
 refine aG ?_
 refine aD ?_
 obtain ⟨r1, h2, h⟩ := bind_some h
 refine tr1 rfl (iB (aA rfl) (.func _ _ Try.call43) rfl rfl (xC h2)) ?_
 refine bQ rfl (fF (zs := [.lit (.int .i64 0), .lit (.int .i64 0), .sl 5 ((([] : List aE)).map aC), .sl 3 ((([] : List aP)).map aI), .sl 3 ((([] : List aP)).map aI)]) (aA rfl) Try.zeroValue25 rfl rfl) ?_
 rintro _ ⟨b3, rfl⟩
 refine tr1 rfl (cF (i := 0) rfl rfl rfl rfl rfl Try.sizeOf25 rfl (aA rfl) (Nat.le_of_ble_eq_true rfl) (ds' := (aT r1)) rfl) ?_
 refine aF ?_
 refine aG ?_
 refine aD ?_
 refine tr1 rfl (cA (aA rfl) rfl (i := 0) rfl dI (es := (aT r1)) rfl rfl) ?_
 obtain ⟨r4, h5, h⟩ := bind_some h
 refine tr1 rfl (iB (aA rfl) (.func _ _ Try.call27) rfl rfl (zY _ _ h5)) ?_
 refine tr1 rfl (aB (v := .tup [.d (.sl 1 (r4.1.map cG)), .d (.lit (.int .i64 r4.2))]) (aA rfl) rfl rfl) ?_
 refine tr1 rfl (cH (aA rfl) rfl rfl) ?_
 refine tr1 rfl (cH (aA rfl) rfl rfl) ?_
 refine tr1 rfl (aJ (v := .d (.sl 1 (r4.1.map cG))) (aA rfl) rfl rfl) ?_
 refine tr1 rfl (aJ (v := .d (.lit (.int .i64 r4.2))) (aA rfl) rfl rfl) ?_
 refine aF ?_
 refine aG ?_
 refine aD ?_
 refine tr1 rfl (cA (aA rfl) rfl (i := 0) rfl dI (es := (aT r1)) rfl rfl) ?_
 refine tr1 rfl (jT (aA rfl) eI rfl rfl (rows := ([300]).map cG) rfl (cT (f := cG) fun _ => rfl) rfl (by decide)) ?_
 obtain ⟨r6, h7, h⟩ := bind_some h
 refine tr1 rfl (bY (aA rfl) (.func _ _ Try.call17) rfl rfl (BVs.refl _ _) (aEi _ _ _ _ h7) rfl) ?_
 refine tr1 rfl (aB (v := .tup [.d (.lit (.int .i64 r6.1)), .d (.lit (.int .i64 r6.2.1)), .d (.lit (.int .i64 r6.2.2))]) (aA rfl) rfl rfl) ?_
 refine tr1 rfl (cH (aA rfl) rfl rfl) ?_
 refine tr1 rfl (cH (aA rfl) rfl rfl) ?_
 refine tr1 rfl (cH (aA rfl) rfl rfl) ?_
 refine tr1 rfl (aJ (v := .d (.lit (.int .i64 r6.1))) (aA rfl) rfl rfl) ?_
 refine tr1 rfl (aJ (v := .d (.lit (.int .i64 r6.2.1))) (aA rfl) rfl rfl) ?_
 refine tr1 rfl (aJ (v := .d (.lit (.int .i64 r6.2.2))) (aA rfl) rfl rfl) ?_
 refine aF ?_
 refine aG ?_
 refine aD ?_
 refine tr1 rfl (cA (aA rfl) rfl (i := 0) rfl dI (es := (aT r1)) rfl rfl) ?_
 obtain ⟨r8, h9, h⟩ := bind_some h
 refine tr1 rfl (bY (aA rfl) (.func _ _ Try.call21) rfl rfl (BVs.refl _ _) (wV _ _ _ h9) rfl) ?_
 refine tr1 rfl (aB (v := .tup [.d (.lit (.int .i64 r8.1)), .d (.lit (.int .i64 r8.2))]) (aA rfl) rfl rfl) ?_
 refine tr1 rfl (cH (aA rfl) rfl rfl) ?_
 refine tr1 rfl (cH (aA rfl) rfl rfl) ?_
 refine tr1 rfl (aJ (v := .d (.lit (.int .i64 r8.1))) (aA rfl) rfl rfl) ?_
 refine tr1 rfl (aJ (v := .d (.lit (.int .i64 r8.2))) (aA rfl) rfl rfl) ?_
 refine aF ?_
 refine aG ?_
 refine aD ?_
 refine tr1 rfl (aB (v := .d (.lit (.int .i64 r4.2))) (aA rfl) rfl rfl) ?_
 refine tr1 rfl (bB (aA rfl) rfl rfl rfl) ?_
 refine tr1 rfl (aB (v := .d (.lit (.bool ((decide (r4.2 = 0)))))) (aA rfl) rfl rfl) ?_
 obtain ⟨b10, h11, h⟩ := bind_some h
 refine cD 3 [2, 4, 5, 7, 8] 32 b10 ?_ ?_
 ·refine bJ (decide (r4.2 = 0)) (fun c29 => ?_) (fun c29 => ?_)
  ·have h11 := aS c29 h11
   refine aM rfl rfl (aA rfl) rfl c29 (aB (v := .d (.lit (.int .i64 r6.2.2))) (aA rfl) rfl rfl) ?_
   refine aM rfl rfl (aA rfl) rfl c29 (bB (aA rfl) rfl rfl rfl) ?_
   refine tr1 rfl (bN (v := .d (.lit (.bool ((decide (r6.2.2 = 0)))))) (aA rfl) rfl c29 rfl rfl) ?_
   have h11 := Option.some.inj h11
   subst h11
   refine aF (bC rfl ⟨rfl, rfl, rfl, rfl, rfl, trivial⟩ rfl)
  ·have h11 := aR c29 h11
   refine aU rfl rfl (aA rfl) rfl (aA rfl) rfl c29 ?_
   refine aU rfl rfl (aA rfl) rfl (aA rfl) rfl c29 ?_
   refine tr1 rfl (bO (v := .d (.lit (.bool false))) (aA rfl) rfl c29 rfl rfl) ?_
   have h11 := Option.some.inj h11
   subst h11
   refine aF (bC rfl ⟨rfl, rfl, rfl, rfl, rfl, trivial⟩ rfl)
 ·refine tr1 rfl (aB (v := .d (.lit (.bool b10))) (aA rfl) rfl rfl) ?_
  obtain ⟨b12, h13, h⟩ := bind_some h
  refine cD 3 [2, 4, 5, 7] 36 b12 ?_ ?_
  ·refine bJ (b10) (fun c28 => ?_) (fun c28 => ?_)
   ·have h13 := aS c28 h13
    refine aM rfl rfl (aA rfl) rfl c28 (aB (v := .d (.lit (.int .i64 r8.2))) (aA rfl) rfl rfl) ?_
    refine aM rfl rfl (aA rfl) rfl c28 (bB (aA rfl) rfl rfl rfl) ?_
    refine tr1 rfl (bN (v := .d (.lit (.bool ((decide (r8.2 = 0)))))) (aA rfl) rfl c28 rfl rfl) ?_
    have h13 := Option.some.inj h13
    subst h13
    refine aF (bC rfl ⟨rfl, rfl, rfl, rfl, trivial⟩ rfl)
   ·have h13 := aR c28 h13
    refine aU rfl rfl (aA rfl) rfl (aA rfl) rfl c28 ?_
    refine aU rfl rfl (aA rfl) rfl (aA rfl) rfl c28 ?_
    refine tr1 rfl (bO (v := .d (.lit (.bool false))) (aA rfl) rfl c28 rfl rfl) ?_
    have h13 := Option.some.inj h13
    subst h13
    refine aF (bC rfl ⟨rfl, rfl, rfl, rfl, trivial⟩ rfl)
  ·refine tr1 rfl (aB (v := .d (.lit (.bool b12))) (aA rfl) rfl rfl) ?_
   obtain ⟨b14, h15, h⟩ := bind_some h
   refine cD 4 [4, 5, 7] 41 b14 ?_ ?_
   ·refine bJ (b12) (fun c25 => ?_) (fun c25 => ?_)
    ·have h15 := aS c25 h15
     refine aM rfl rfl (aA rfl) rfl c25 (aB (v := .d (.sl 1 (r4.1.map cG))) (aA rfl) rfl rfl) ?_
     refine aM rfl rfl (aA rfl) rfl c25 (jT (aA rfl) eI rfl rfl (rows := ([0, 2, 1]).map cG) rfl (cT (f := cG) fun _ => rfl) rfl (by decide)) ?_
     obtain ⟨r26, h27, h15⟩ := bind_some h15
     refine aM rfl rfl (aA rfl) rfl c25 (bY (aA rfl) (.func _ _ Try.call32) rfl rfl (BVs.refl _ _) (sE _ _ h27) rfl) ?_
     refine tr1 rfl (bN (v := .d (.lit (.bool r26))) (aA rfl) rfl c25 rfl rfl) ?_
     have h15 := Option.some.inj h15
     subst h15
     refine aF (bC rfl ⟨rfl, rfl, rfl, trivial⟩ rfl)
    ·have h15 := aR c25 h15
     refine aU rfl rfl (aA rfl) rfl (aA rfl) rfl c25 ?_
     refine aU rfl rfl (aA rfl) rfl (aA rfl) rfl c25 ?_
     refine aU rfl rfl (aA rfl) rfl (aA rfl) rfl c25 ?_
     refine tr1 rfl (bO (v := .d (.lit (.bool false))) (aA rfl) rfl c25 rfl rfl) ?_
     have h15 := Option.some.inj h15
     subst h15
     refine aF (bC rfl ⟨rfl, rfl, rfl, trivial⟩ rfl)
   ·refine tr1 rfl (aB (v := .d (.lit (.bool b14))) (aA rfl) rfl rfl) ?_
    obtain ⟨b16, h17, h⟩ := bind_some h
    refine cD 3 [5, 7] 45 b16 ?_ ?_
    ·refine bJ (b14) (fun c24 => ?_) (fun c24 => ?_)
     ·have h17 := aS c24 h17
      refine aM rfl rfl (aA rfl) rfl c24 (aB (v := .d (.lit (.int .i64 r6.1))) (aA rfl) rfl rfl) ?_
      refine aM rfl rfl (aA rfl) rfl c24 (bB (aA rfl) rfl rfl rfl) ?_
      refine tr1 rfl (bN (v := .d (.lit (.bool ((decide (r6.1 = 1)))))) (aA rfl) rfl c24 rfl rfl) ?_
      have h17 := Option.some.inj h17
      subst h17
      refine aF (bC rfl ⟨rfl, rfl, trivial⟩ rfl)
     ·have h17 := aR c24 h17
      refine aU rfl rfl (aA rfl) rfl (aA rfl) rfl c24 ?_
      refine aU rfl rfl (aA rfl) rfl (aA rfl) rfl c24 ?_
      refine tr1 rfl (bO (v := .d (.lit (.bool false))) (aA rfl) rfl c24 rfl rfl) ?_
      have h17 := Option.some.inj h17
      subst h17
      refine aF (bC rfl ⟨rfl, rfl, trivial⟩ rfl)
    ·refine tr1 rfl (aB (v := .d (.lit (.bool b16))) (aA rfl) rfl rfl) ?_
     obtain ⟨b18, h19, h⟩ := bind_some h
     refine cD 3 [7] 49 b18 ?_ ?_
     ·refine bJ (b16) (fun c23 => ?_) (fun c23 => ?_)
      ·have h19 := aS c23 h19
       refine aM rfl rfl (aA rfl) rfl c23 (aB (v := .d (.lit (.int .i64 r6.2.1))) (aA rfl) rfl rfl) ?_
       refine aM rfl rfl (aA rfl) rfl c23 (bB (aA rfl) rfl rfl rfl) ?_
       refine tr1 rfl (bN (v := .d (.lit (.bool ((decide (r6.2.1 = 3)))))) (aA rfl) rfl c23 rfl rfl) ?_
       have h19 := Option.some.inj h19
       subst h19
       refine aF (bC rfl ⟨rfl, trivial⟩ rfl)
      ·have h19 := aR c23 h19
       refine aU rfl rfl (aA rfl) rfl (aA rfl) rfl c23 ?_
       refine aU rfl rfl (aA rfl) rfl (aA rfl) rfl c23 ?_
       refine tr1 rfl (bO (v := .d (.lit (.bool false))) (aA rfl) rfl c23 rfl rfl) ?_
       have h19 := Option.some.inj h19
       subst h19
       refine aF (bC rfl ⟨rfl, trivial⟩ rfl)
     ·refine tr1 rfl (aB (v := .d (.lit (.bool b18))) (aA rfl) rfl rfl) ?_
      obtain ⟨b20, h21, h⟩ := bind_some h
      refine cD 3 [] 53 b20 ?_ ?_
      ·refine bJ (b18) (fun c22 => ?_) (fun c22 => ?_)
       ·have h21 := aS c22 h21
        refine aM rfl rfl (aA rfl) rfl c22 (aB (v := .d (.lit (.int .i64 r8.1))) (aA rfl) rfl rfl) ?_
        refine aM rfl rfl (aA rfl) rfl c22 (bB (aA rfl) rfl rfl rfl) ?_
        refine tr1 rfl (bN (v := .d (.lit (.bool ((decide (r8.1 = 200)))))) (aA rfl) rfl c22 rfl rfl) ?_
        have h21 := Option.some.inj h21
        subst h21
        refine aF (bC rfl trivial rfl)
       ·have h21 := aR c22 h21
        refine aU rfl rfl (aA rfl) rfl (aA rfl) rfl c22 ?_
        refine aU rfl rfl (aA rfl) rfl (aA rfl) rfl c22 ?_
        refine tr1 rfl (bO (v := .d (.lit (.bool false))) (aA rfl) rfl c22 rfl rfl) ?_
        have h21 := Option.some.inj h21
        subst h21
        refine aF (bC rfl trivial rfl)
      ·refine tr1 rfl (aJ (v := .d (.lit (.bool b20))) (aA rfl) rfl rfl) ?_
       refine aF ?_
       have h := Option.some.inj h
       subst h
       refine cI (bX (cB (l := [0]) ⟨rfl, trivial⟩)) ?_
       exact bI ⟨rfl, _, .one _, rfl, rfl⟩

theorem uI (l_0 : aN) {r : aN} (h : mF l_0 = some r) : Fn Try.prog 18 [.agg (aT l_0)] (.agg (aT r)) := by
 unfold mF at h
 refine rR Try.func18 rfl (rs := [.cell 2 25]) Try.results18 Try.ntmps18 (Nat.le_of_ble_eq_true rfl) ?_
 refine aG ?_
 refine aD ?_
 refine bQ rfl (eD (v := .agg (aT l_0)) (aA rfl) rfl rfl rfl) ?_
 rintro _ ⟨b1, rfl⟩
 refine bQ rfl (fF (zs := [.lit (.int .i64 0), .lit (.int .i64 0), .sl 5 ((([] : List aE)).map aC), .sl 3 ((([] : List aP)).map aI), .sl 3 ((([] : List aP)).map aI)]) (aA rfl) Try.zeroValue25 rfl rfl) ?_
 rintro _ ⟨b2, rfl⟩
 refine aF ?_
 refine aG ?_
 refine aD ?_
 refine tr1 rfl (cA (aA rfl) rfl (i := 0) rfl dI (es := (aT l_0)) rfl rfl) ?_
 refine bQ rfl (fF (zs := [.lit (.int .i64 0), .lit (.int .i64 0), .sl 5 ((([] : List aE)).map aC), .sl 3 ((([] : List aP)).map aI), .sl 3 ((([] : List aP)).map aI)]) (aA rfl) Try.zeroValue25 rfl rfl) ?_
 rintro _ ⟨b3, rfl⟩
 refine tr1 rfl (cF (i := 2) rfl rfl rfl rfl rfl Try.sizeOf25 rfl (aA rfl) (Nat.le_of_ble_eq_true rfl) (ds' := (aT l_0)) rfl) ?_
 refine aF ?_
 refine aG ?_
 refine aD ?_
 refine tr1 rfl (vP (aA rfl) bR rfl rfl (rows := (([] : List aE)).map aC) rfl (cT (f := aC) fun _ => rfl) rfl (by decide)) ?_
 refine tr1 rfl (aV (aA rfl) rfl eK) ?_
 refine tr1 rfl (aW (aA rfl) rfl (i := 0) rfl rfl jB) ?_
 obtain ⟨x4, h5, h⟩ := bind_some h
 refine tr1 rfl (zA (.d (.weak _ _)) (sG (nn := true) (f := aC) (xs := ([] : List aE)) (ys := l_0.Reports) (aA rfl) bR rfl rfl (fun _ => rfl) h5 rfl)) ?_
 refine tr1 rfl (aV (aA rfl) rfl eK) ?_
 refine tr1 rfl (cF (i := 2) rfl rfl rfl rfl rfl Try.sizeOf22 rfl (aA rfl) (Nat.le_of_ble_eq_true rfl) (ds' := (aT (aN.mk l_0.Players l_0.Counts x4 l_0.Bans l_0.Frozen))) rfl) ?_
 refine aF ?_
 refine aG ?_
 refine aD ?_
 refine tr1 rfl (vP (aA rfl) dY rfl rfl (rows := (([] : List aP)).map aI) rfl (cT (f := aI) fun _ => rfl) rfl (by decide)) ?_
 refine tr1 rfl (aV (aA rfl) rfl oR) ?_
 refine tr1 rfl (aW (aA rfl) rfl (i := 0) rfl rfl jC) ?_
 obtain ⟨x6, h7, h⟩ := bind_some h
 refine tr1 rfl (zA (.d (.weak _ _)) (sG (nn := true) (f := aI) (xs := ([] : List aP)) (ys := l_0.Bans) (aA rfl) dY rfl rfl (fun _ => rfl) h7 rfl)) ?_
 refine tr1 rfl (aV (aA rfl) rfl oR) ?_
 refine tr1 rfl (cF (i := 2) rfl rfl rfl rfl rfl Try.sizeOf23 rfl (aA rfl) (Nat.le_of_ble_eq_true rfl) (ds' := (aT (aN.mk l_0.Players l_0.Counts x4 x6 l_0.Frozen))) rfl) ?_
 refine aF ?_
 refine aG ?_
 refine aD ?_
 refine tr1 rfl (vP (aA rfl) dY rfl rfl (rows := (([] : List aP)).map aI) rfl (cT (f := aI) fun _ => rfl) rfl (by decide)) ?_
 refine tr1 rfl (aV (aA rfl) rfl kP) ?_
 refine tr1 rfl (aW (aA rfl) rfl (i := 0) rfl rfl jC) ?_
 obtain ⟨x8, h9, h⟩ := bind_some h
 refine tr1 rfl (zA (.d (.weak _ _)) (sG (nn := true) (f := aI) (xs := ([] : List aP)) (ys := l_0.Frozen) (aA rfl) dY rfl rfl (fun _ => rfl) h9 rfl)) ?_
 refine tr1 rfl (aV (aA rfl) rfl kP) ?_
 refine tr1 rfl (cF (i := 2) rfl rfl rfl rfl rfl Try.sizeOf23 rfl (aA rfl) (Nat.le_of_ble_eq_true rfl) (ds' := (aT (aN.mk l_0.Players l_0.Counts x4 x6 x8))) rfl) ?_
 refine aF ?_
 refine aG ?_
 refine aD ?_
 refine tr1 rfl (cA (aA rfl) rfl (i := 2) rfl dI (es := (aT (aN.mk l_0.Players l_0.Counts x4 x6 x8))) rfl rfl) ?_
 refine tr1 rfl (cF (i := 1) rfl rfl rfl rfl rfl Try.sizeOf25 rfl (aA rfl) (Nat.le_of_ble_eq_true rfl) (ds' := (aT (aN.mk l_0.Players l_0.Counts x4 x6 x8))) rfl) ?_
 refine aF ?_
 have h := Option.some.inj h
 subst h
 exact bI ⟨rfl, _, [.box b1 0 (aT l_0), .box b2 0 (aT (aN.mk l_0.Players l_0.Counts x4 x6 x8)), .box b3 0 (aT (aN.mk l_0.Players l_0.Counts x4 x6 x8))], .one (.cell 2 25 rfl (i := 1) rfl dI (es := (aT (aN.mk l_0.Players l_0.Counts x4 x6 x8))) rfl rfl), .refl _, .same _⟩

theorem mI (l_0 : aN) (player_1 : Int) (week_2 : Int) {r : Int} (h : gS l_0 player_1 week_2 = some r) : Fn Try.prog 52 [.agg (aT l_0), .d (.lit (.int .i64 player_1)), .d (.lit (.int .i64 week_2))] (.d (.lit (.int .i64 r))) := by
 unfold gS at h
 refine Fn.of_tr Try.func52 rfl (rs := [.tmp 6]) Try.results52 Try.ntmps52 (Nat.le_of_ble_eq_true rfl) ?_
 refine aG ?_
 refine aD ?_
 refine bQ rfl (eD (v := .agg (aT l_0)) (aA rfl) rfl rfl rfl) ?_
 rintro _ ⟨b1, rfl⟩
 refine tr1 rfl (aJ (v := .d (.lit (.int .i64 0))) (aA rfl) rfl rfl) ?_
 refine aF ?_
 refine aG ?_
 refine aG ?_
 refine aD ?_
 refine tr1 rfl (cA (aA rfl) rfl (i := 0) rfl dI (es := (aT l_0)) rfl rfl) ?_
 obtain ⟨r2, h3, h⟩ := bind_some h
 refine tr1 rfl (bY (aA rfl) (.func _ _ Try.call15) rfl rfl (BVs.refl _ _) (tU _ h3) rfl) ?_
 refine tr1 rfl (aJ (v := .d (.lit (.int .i64 r2))) (aA rfl) rfl rfl) ?_
 refine aF ?_
 refine aG ?_
 refine aD ?_
 refine tr1 rfl (aB (v := .d (.lit (.int .i64 r2))) (aA rfl) rfl rfl) ?_
 refine tr1 rfl (bB (aA rfl) rfl rfl rfl) ?_
 refine aF ?_
 refine bH rfl (fun c4 => ?_) (fun c4 => ?_)
 ·have h := aS c4 h
  refine aG ?_
  refine aD ?_
  refine tr1 rfl (aB (v := .d (.lit (.int .i64 r2))) (aA rfl) rfl rfl) ?_
  refine tr1 rfl (aJ (v := .d (.lit (.int .i64 r2))) (aA rfl) rfl rfl) ?_
  refine aF ?_
  have h := Option.some.inj h
  subst h
  refine cI (bX (cB (l := [6]) ⟨rfl, trivial⟩)) ?_
  exact bI ⟨rfl, _, .one _, rfl, rfl⟩
 ·have h := aR c4 h
  refine bF ?_
  refine aG ?_
  refine aG ?_
  refine aD ?_
  refine tr1 rfl (aB (v := .d (.lit (.int .i64 player_1))) (aA rfl) rfl rfl) ?_
  refine tr1 rfl (aV (aA rfl) rfl jA) ?_
  refine tr1 rfl (aW (aA rfl) rfl (i := 0) rfl rfl bG) ?_
  refine tr1 rfl (aZ (aA rfl) rfl rfl rfl) ?_
  obtain ⟨r5, h6, h⟩ := bind_some h
  refine tr1 rfl (bY (aA rfl) (.func _ _ Try.call58) rfl rfl (BVs.refl _ _) (eC _ _ _ h6) rfl) ?_
  refine tr1 rfl (eN (aA rfl) rfl) ?_
  refine tr1 rfl (aB (v := .d (.lit (.bool (!r5)))) (aA rfl) rfl rfl) ?_
  obtain ⟨b7, h8, h⟩ := bind_some h
  refine cD 4 [] 23 b7 ?_ ?_
  ·refine bJ (!r5) (fun c10 => ?_) (fun c10 => ?_)
   ·have h8 := aS c10 h8
    refine aU rfl rfl (aA rfl) rfl (aA rfl) rfl c10 ?_
    refine aU rfl rfl (aA rfl) rfl (aA rfl) rfl c10 ?_
    refine aU rfl rfl (aA rfl) rfl (aA rfl) rfl c10 ?_
    refine tr1 rfl (bN (v := .d (.lit (.bool true))) (aA rfl) rfl c10 rfl rfl) ?_
    have h8 := Option.some.inj h8
    subst h8
    refine aF (bC rfl trivial rfl)
   ·have h8 := aR c10 h8
    refine aM rfl rfl (aA rfl) rfl c10 (aB (v := .d (.lit (.int .i64 week_2))) (aA rfl) rfl rfl) ?_
    obtain ⟨r11, h12, h8⟩ := bind_some h8
    refine aM rfl rfl (aA rfl) rfl c10 (bY (aA rfl) (.func _ _ Try.call58) rfl rfl (BVs.refl _ _) (eC _ _ _ h12) rfl) ?_
    refine aM rfl rfl (aA rfl) rfl c10 (eN (aA rfl) rfl) ?_
    refine tr1 rfl (bO (v := .d (.lit (.bool (!r11)))) (aA rfl) rfl c10 rfl rfl) ?_
    have h8 := Option.some.inj h8
    subst h8
    refine aF (bC rfl trivial rfl)
  ·refine aF ?_
   refine bH rfl (fun c9 => ?_) (fun c9 => ?_)
   ·have h := aS c9 h
    refine aG ?_
    refine aD ?_
    refine tr1 rfl (aJ (v := .d (.lit (.int .i64 1))) (aA rfl) rfl rfl) ?_
    refine aF ?_
    have h := Option.some.inj h
    subst h
    refine cI (bX (cB (l := [6]) ⟨rfl, trivial⟩)) ?_
    exact bI ⟨rfl, _, .one _, rfl, rfl⟩
   ·have h := aR c9 h
    refine bF ?_
    refine aG ?_
    refine aD ?_
    refine tr1 rfl (aJ (v := .d (.lit (.int .i64 0))) (aA rfl) rfl rfl) ?_
    refine aF ?_
    have h := Option.some.inj h
    subst h
    refine cI (bX (cB (l := [6]) ⟨rfl, trivial⟩)) ?_
    exact bI ⟨rfl, _, .one _, rfl, rfl⟩

theorem rE (l_0 : List aP) (player_1 : Int) (week_2 : Int) {r : Bool} (h : jY l_0 player_1 week_2 = some r) : Fn Try.prog 25 [.d (.sl 3 (l_0.map aI)), .d (.lit (.int .i64 player_1)), .d (.lit (.int .i64 week_2))] (.d (.lit (.bool r))) := by
 unfold jY at h
 refine Fn.of_tr Try.func25 rfl (rs := [.tmp 6]) Try.results25 Try.ntmps25 (Nat.le_of_ble_eq_true rfl) ?_
 refine aG ?_
 refine aD ?_
 refine tr1 rfl (aJ (v := .d (.lit (.bool false))) (aA rfl) rfl rfl) ?_
 refine aF ?_
 refine aG ?_
 refine aG ?_
 refine aD ?_
 refine tr1 rfl (aJ (v := .d (.lit (.int .i64 0))) (aA rfl) rfl rfl) ?_
 refine aF ?_
 refine bP ?_
 refine cJ [0, 1, 2] (fun (s1 : Int) => [(7, .d (.lit (.int .i64 s1)))]) (fun (s1 : Int) => []) (fun (k : Nat) (s1 : Int) => iX l_0 player_1 week_2 k s1) (fun _ => rfl) (0) h (aX [] rfl rfl (aL rfl (aY ⟨rfl, rfl, rfl, trivial⟩))) ?_
 rintro k2 i_0_1 h
 simp only [iX] at h
 refine aG ?_
 refine aG ?_
 refine aD ?_
 refine tr1 rfl (aB (v := .d (.lit (.int .i64 i_0_1))) (aA rfl) rfl rfl) ?_
 refine tr1 rfl (aB (v := .d (.sl 3 (l_0.map aI))) (aA rfl) rfl rfl) ?_
 refine tr1 rfl (dB (aA rfl) rfl dY.of) ?_
 refine tr1 rfl (bB (aA rfl) rfl rfl rfl) ?_
 refine aF ?_
 refine bH rfl (fun c3 => ?_) (fun c3 => ?_)
 ·have h := aS c3 h
  refine bF ?_
  refine aG ?_
  refine bP ?_
  refine aG ?_
  obtain ⟨x4, h5, h⟩ := bind_some h
  obtain ⟨b6, h7, h⟩ := bind_some h
  refine fD mix 21 [0, 1, 2, 7] [(34, .d (.lit (.bool b6)))] ?_ ?_
  ·refine bJ (decide (x4.Player = player_1)) (fun c8 => ?_) (fun c8 => ?_)
   ·have h7 := aS c8 h7
    obtain ⟨x9, h10, h7⟩ := bind_some h7
    obtain ⟨x11, h12, h7⟩ := bind_some h7
    obtain ⟨r13, h14, h7⟩ := bind_some h7
    have h7 := Option.some.inj h7
    subst h7
    refine ⟨[(14, 0, .d (.sl 3 (l_0.map aI))), (15, 1, .d (.lit (.int .i64 i_0_1))), (16, 2, .cp [.lit (.int .i64 x4.Player), .lit (.int .i64 x4.From), .lit (.int .i64 x4.To)]), (17, 3, .cp [.lit (.int .i64 x4.Player)]), (18, 4, .d (.lit (.int .i64 x4.Player))), (19, 5, .d (.lit (.int .i64 player_1))), (20, 6, .d (.lit (.bool ((decide (x4.Player = player_1)))))), (21, 7, .d (.lit (.bool ((decide (x4.Player = player_1)))))), (22, 8, .d (.lit (.int .i64 week_2))), (23, 9, .d (.sl 3 (l_0.map aI))), (24, 10, .d (.lit (.int .i64 i_0_1))), (25, 11, .cp [.lit (.int .i64 x9.Player), .lit (.int .i64 x9.From), .lit (.int .i64 x9.To)]), (26, 12, .cp [.lit (.int .i64 x9.From)]), (27, 13, .d (.lit (.int .i64 x9.From))), (28, 14, .d (.sl 3 (l_0.map aI))), (29, 15, .d (.lit (.int .i64 i_0_1))), (30, 16, .cp [.lit (.int .i64 x11.Player), .lit (.int .i64 x11.From), .lit (.int .i64 x11.To)]), (31, 17, .cp [.lit (.int .i64 x11.To)]), (32, 18, .d (.lit (.int .i64 x11.To))), (33, 19, .d (.lit (.bool r13))), (34, 20, .d (.lit (.bool r13)))], ?_, ?_⟩
    · exact ⟨by kernel_rfl, by kernel_rfl, by kernel_rfl, by kernel_rfl, by kernel_rfl, [([], []), ([], []), ([0, 1], []), ([2], []), ([3], []), ([], []), ([4, 5], []), ([6], []), ([7], []), ([7], []), ([7], []), ([7, 9, 10], []), ([7, 11], []), ([7, 12], []), ([7], []), ([7], []), ([7, 14, 15], []), ([7, 16], []), ([7, 17], []), ([7, 8, 13, 18], []), ([7, 19], [])], by kernel_rfl, ⟨fun S hS => aK rfl (aQ rfl (aB (v := .d (.sl 3 (l_0.map aI))) (aA rfl) (aH hS rfl) rfl)),
      fun S hS => aK rfl (aQ rfl (aB (v := .d (.lit (.int .i64 i_0_1))) (aA rfl) (aH hS rfl) rfl)),
      fun S hS => aK rfl (aQ rfl (bM (aA rfl) (aH hS rfl) (aH hS rfl) dY.of (bK aI h5))),
      fun S hS => aK rfl (aQ rfl (cC (aA rfl) (aH hS rfl) kQ (es := [.lit (.int .i64 x4.Player)]) rfl)),
      fun S hS => aK rfl (aQ rfl (bZ (aA rfl) (aH hS rfl) bG)),
      fun S hS => aK rfl (aQ rfl (aB (v := .d (.lit (.int .i64 player_1))) (aA rfl) (aH hS rfl) rfl)),
      fun S hS => aK rfl (aQ rfl (bB (aA rfl) (aH hS rfl) (aH hS rfl) rfl)),
      fun S hS => aK rfl (aQ rfl (aB (v := .d (.lit (.bool ((decide (x4.Player = player_1)))))) (aA rfl) (aH hS rfl) rfl)),
      fun S hS => aK rfl (bA rfl rfl (aA rfl) (aO hS rfl) c8 (aB (v := .d (.lit (.int .i64 week_2))) (aA rfl) (aH hS rfl) rfl)),
      fun S hS => aK rfl (bA rfl rfl (aA rfl) (aO hS rfl) c8 (aB (v := .d (.sl 3 (l_0.map aI))) (aA rfl) (aH hS rfl) rfl)),
      fun S hS => aK rfl (bA rfl rfl (aA rfl) (aO hS rfl) c8 (aB (v := .d (.lit (.int .i64 i_0_1))) (aA rfl) (aH hS rfl) rfl)),
      fun S hS => aK rfl (bA rfl rfl (aA rfl) (aO hS rfl) c8 (bM (aA rfl) (aH hS rfl) (aH hS rfl) dY.of (bK aI h10))),
      fun S hS => aK rfl (bA rfl rfl (aA rfl) (aO hS rfl) c8 (cC (aA rfl) (aH hS rfl) gO (es := [.lit (.int .i64 x9.From)]) rfl)),
      fun S hS => aK rfl (bA rfl rfl (aA rfl) (aO hS rfl) c8 (bZ (aA rfl) (aH hS rfl) bG)),
      fun S hS => aK rfl (bA rfl rfl (aA rfl) (aO hS rfl) c8 (aB (v := .d (.sl 3 (l_0.map aI))) (aA rfl) (aH hS rfl) rfl)),
      fun S hS => aK rfl (bA rfl rfl (aA rfl) (aO hS rfl) c8 (aB (v := .d (.lit (.int .i64 i_0_1))) (aA rfl) (aH hS rfl) rfl)),
      fun S hS => aK rfl (bA rfl rfl (aA rfl) (aO hS rfl) c8 (bM (aA rfl) (aH hS rfl) (aH hS rfl) dY.of (bK aI h12))),
      fun S hS => aK rfl (bA rfl rfl (aA rfl) (aO hS rfl) c8 (cC (aA rfl) (aH hS rfl) lA (es := [.lit (.int .i64 x11.To)]) rfl)),
      fun S hS => aK rfl (bA rfl rfl (aA rfl) (aO hS rfl) c8 (bZ (aA rfl) (aH hS rfl) bG)),
      fun S hS => aK rfl (bA rfl rfl (aA rfl) (aO hS rfl) c8 (bY (aA rfl) (.func _ _ Try.call58) (ev2 (aH hS rfl) (ev2 (aH hS rfl) (ev2 (aH hS rfl) evn))) rfl (BVs.refl _ _) (eC _ _ _ h14) rfl)),
      fun S hS => aK rfl (aQ rfl (bN (v := .d (.lit (.bool r13))) (aA rfl) (aH hS rfl) c8 (aH hS rfl) rfl)), trivial⟩⟩
    · exact dJ (aL rfl (aY ⟨rfl, rfl, rfl, rfl, trivial⟩))
   ·have h7 := aR c8 h7
    have h7 := Option.some.inj h7
    subst h7
    refine ⟨[(14, 0, .d (.sl 3 (l_0.map aI))), (15, 1, .d (.lit (.int .i64 i_0_1))), (16, 2, .cp [.lit (.int .i64 x4.Player), .lit (.int .i64 x4.From), .lit (.int .i64 x4.To)]), (17, 3, .cp [.lit (.int .i64 x4.Player)]), (18, 4, .d (.lit (.int .i64 x4.Player))), (19, 5, .d (.lit (.int .i64 player_1))), (20, 6, .d (.lit (.bool ((decide (x4.Player = player_1)))))), (21, 7, .d (.lit (.bool ((decide (x4.Player = player_1)))))), (22, 8, .tup []), (23, 9, .tup []), (24, 10, .tup []), (25, 11, .tup []), (26, 12, .tup []), (27, 13, .tup []), (28, 14, .tup []), (29, 15, .tup []), (30, 16, .tup []), (31, 17, .tup []), (32, 18, .tup []), (33, 19, .tup []), (34, 20, .d (.lit (.bool false)))], ?_, ?_⟩
    · exact ⟨by kernel_rfl, by kernel_rfl, by kernel_rfl, by kernel_rfl, by kernel_rfl, [([], []), ([], []), ([0, 1], []), ([2], []), ([3], []), ([], []), ([4, 5], []), ([6], []), ([7], []), ([7], []), ([7], []), ([7, 9, 10], []), ([7, 11], []), ([7, 12], []), ([7], []), ([7], []), ([7, 14, 15], []), ([7, 16], []), ([7, 17], []), ([7, 8, 13, 18], []), ([7, 19], [])], by kernel_rfl, ⟨fun S hS => aK rfl (aQ rfl (aB (v := .d (.sl 3 (l_0.map aI))) (aA rfl) (aH hS rfl) rfl)),
      fun S hS => aK rfl (aQ rfl (aB (v := .d (.lit (.int .i64 i_0_1))) (aA rfl) (aH hS rfl) rfl)),
      fun S hS => aK rfl (aQ rfl (bM (aA rfl) (aH hS rfl) (aH hS rfl) dY.of (bK aI h5))),
      fun S hS => aK rfl (aQ rfl (cC (aA rfl) (aH hS rfl) kQ (es := [.lit (.int .i64 x4.Player)]) rfl)),
      fun S hS => aK rfl (aQ rfl (bZ (aA rfl) (aH hS rfl) bG)),
      fun S hS => aK rfl (aQ rfl (aB (v := .d (.lit (.int .i64 player_1))) (aA rfl) (aH hS rfl) rfl)),
      fun S hS => aK rfl (aQ rfl (bB (aA rfl) (aH hS rfl) (aH hS rfl) rfl)),
      fun S hS => aK rfl (aQ rfl (aB (v := .d (.lit (.bool ((decide (x4.Player = player_1)))))) (aA rfl) (aH hS rfl) rfl)),
      fun S hS => aK rfl (bD rfl rfl (aA rfl) rfl (aA rfl) (aO hS rfl) c8),
      fun S hS => aK rfl (bD rfl rfl (aA rfl) rfl (aA rfl) (aO hS rfl) c8),
      fun S hS => aK rfl (bD rfl rfl (aA rfl) rfl (aA rfl) (aO hS rfl) c8),
      fun S hS => aK rfl (bD rfl rfl (aA rfl) rfl (aA rfl) (aO hS rfl) c8),
      fun S hS => aK rfl (bD rfl rfl (aA rfl) rfl (aA rfl) (aO hS rfl) c8),
      fun S hS => aK rfl (bD rfl rfl (aA rfl) rfl (aA rfl) (aO hS rfl) c8),
      fun S hS => aK rfl (bD rfl rfl (aA rfl) rfl (aA rfl) (aO hS rfl) c8),
      fun S hS => aK rfl (bD rfl rfl (aA rfl) rfl (aA rfl) (aO hS rfl) c8),
      fun S hS => aK rfl (bD rfl rfl (aA rfl) rfl (aA rfl) (aO hS rfl) c8),
      fun S hS => aK rfl (bD rfl rfl (aA rfl) rfl (aA rfl) (aO hS rfl) c8),
      fun S hS => aK rfl (bD rfl rfl (aA rfl) rfl (aA rfl) (aO hS rfl) c8),
      fun S hS => aK rfl (bD rfl rfl (aA rfl) rfl (aA rfl) (aO hS rfl) c8),
      fun S hS => aK rfl (aQ rfl (bO (v := .d (.lit (.bool false))) (aA rfl) (aH hS rfl) c8 rfl rfl)), trivial⟩⟩
    · exact dJ (aL rfl (aY ⟨rfl, rfl, rfl, rfl, trivial⟩))
  ·refine aF ?_
   refine bH rfl (fun c15 => ?_) (fun c15 => ?_)
   ·have h := aS c15 h
    refine aG ?_
    refine aD ?_
    refine tr1 rfl (aJ (v := .d (.lit (.bool true))) (aA rfl) rfl rfl) ?_
    refine aF ?_
    have h := Option.some.inj h
    subst h
    exact bI ⟨rfl, _, .one _, rfl, rfl⟩
   ·have h := aR c15 h
    refine dK ?_
    refine aD ?_
    refine tr1 rfl (aB (v := .d (.lit (.int .i64 i_0_1))) (aA rfl) rfl rfl) ?_
    refine tr1 rfl (aZ (aA rfl) rfl rfl rfl) ?_
    refine tr1 rfl (aJ (v := .d (.lit (.int .i64 ((w64 (i_0_1 + 1)))))) (aA rfl) rfl rfl) ?_
    refine aF ?_
    exact ⟨(w64 (i_0_1 + 1)), h, aX [] rfl rfl (aL rfl (aY ⟨rfl, rfl, rfl, trivial⟩))⟩
 ·have h := aR c3 h
  refine cQ ?_
  refine .inl ⟨rfl, ?_⟩
  simp only [qN] at h
  refine aG ?_
  refine aD ?_
  refine tr1 rfl (aJ (v := .d (.lit (.bool false))) (aA rfl) rfl rfl) ?_
  refine aF ?_
  have h := Option.some.inj h
  subst h
  exact bI ⟨rfl, _, .one _, rfl, rfl⟩

theorem wN (l_0 : List aE) {r : (List aE)} (h : iM l_0 = some r) : Fn Try.prog 64 [.d (.sl 5 (l_0.map aC))] (.d (.sl 5 (r.map aC))) := by
 unfold iM at h
 refine Fn.of_tr Try.func64 rfl (rs := [.tmp 2]) Try.results64 Try.ntmps64 (Nat.le_of_ble_eq_true rfl) ?_
 refine aG ?_
 refine aD ?_
 refine tr1 rfl (pM 5 (aA rfl)) ?_
 refine aF ?_
 refine aG ?_
 refine aD ?_
 refine tr1 rfl (pM 5 (aA rfl)) ?_
 refine aF ?_
 refine aG ?_
 refine aG ?_
 refine aD ?_
 refine tr1 rfl (aJ (v := .d (.lit (.int .i64 0))) (aA rfl) rfl rfl) ?_
 refine aF ?_
 refine bP ?_
 refine cJ [0] (fun (s1 : (List aE) × Int) => [(3, .d (.sl 5 (s1.1.map aC))), (4, .d (.lit (.int .i64 s1.2)))]) (fun (s1 : (List aE) × Int) => []) (fun (k : Nat) (s1 : (List aE) × Int) => eZ l_0 k s1.1 s1.2) (fun _ => rfl) (([] : List aE), 0) h (aX [] rfl rfl (aL rfl (aL rfl (aY ⟨rfl, trivial⟩)))) ?_
 rintro k2 ⟨out_0_1, i_0_1⟩ h
 simp only [eZ] at h
 refine aG ?_
 refine aG ?_
 refine aD ?_
 refine tr1 rfl (aB (v := .d (.lit (.int .i64 i_0_1))) (aA rfl) rfl rfl) ?_
 refine tr1 rfl (aB (v := .d (.sl 5 (l_0.map aC))) (aA rfl) rfl rfl) ?_
 refine tr1 rfl (dB (aA rfl) rfl bR.of) ?_
 refine tr1 rfl (bB (aA rfl) rfl rfl rfl) ?_
 refine aF ?_
 refine bH rfl (fun c3 => ?_) (fun c3 => ?_)
 ·have h := aS c3 h
  refine bF ?_
  refine aG ?_
  refine bP ?_
  refine aG ?_
  refine aD ?_
  refine tr1 rfl (aJ (v := .d (.lit (.int .i64 0))) (aA rfl) rfl rfl) ?_
  refine tr1 rfl (aJ (v := .d (.lit (.bool false))) (aA rfl) rfl rfl) ?_
  refine aF ?_
  refine aG ?_
  refine aG ?_
  refine aD ?_
  refine tr1 rfl (aJ (v := .d (.lit (.int .i64 0))) (aA rfl) rfl rfl) ?_
  refine aF ?_
  refine bP ?_
  refine cJ [0, 3, 4] (fun (s4 : Int × Bool × Int) => [(5, .d (.lit (.int .i64 s4.1))), (6, .d (.lit (.bool s4.2.1))), (7, .d (.lit (.int .i64 s4.2.2)))]) (fun (s4 : Int × Bool × Int) => []) (fun (k : Nat) (s4 : Int × Bool × Int) => fA (eZ l_0 k2) l_0 out_0_1 i_0_1 k s4.1 s4.2.1 s4.2.2) (fun _ => rfl) (0, false, 0) h (aX [] rfl rfl (aL rfl (aL rfl (aL rfl (aY ⟨rfl, rfl, rfl, trivial⟩))))) ?_
  rintro k5 ⟨atv_2_4, known_2_4, k_2_4⟩ h
  simp only [fA] at h
  refine aG ?_
  refine aG ?_
  refine aD ?_
  refine tr1 rfl (aB (v := .d (.lit (.int .i64 k_2_4))) (aA rfl) rfl rfl) ?_
  refine tr1 rfl (aB (v := .d (.sl 5 (out_0_1.map aC))) (aA rfl) rfl rfl) ?_
  refine tr1 rfl (dB (aA rfl) rfl bR.of) ?_
  refine tr1 rfl (bB (aA rfl) rfl rfl rfl) ?_
  refine aF ?_
  refine bH rfl (fun c6 => ?_) (fun c6 => ?_)
  ·have h := aS c6 h
   refine bF ?_
   refine aG ?_
   refine bP ?_
   refine aG ?_
   obtain ⟨b7, h8, h⟩ := bind_some h
   refine fD mix 12 [0, 3, 4, 5, 7] [(32, .d (.lit (.bool b7)))] ?_ ?_
   ·refine bJ (known_2_4) (fun c9 => ?_) (fun c9 => ?_)
    ·have h8 := aS c9 h8
     have h8 := Option.some.inj h8
     subst h8
     refine ⟨[(21, 0, .d (.lit (.bool known_2_4))), (22, 1, .d (.lit (.bool known_2_4))), (23, 2, .tup []), (24, 3, .tup []), (25, 4, .tup []), (26, 5, .tup []), (27, 6, .tup []), (28, 7, .tup []), (29, 8, .tup []), (30, 9, .tup []), (31, 10, .tup []), (32, 11, .d (.lit (.bool true)))], ?_, ?_⟩
     · exact ⟨by kernel_rfl, by kernel_rfl, by kernel_rfl, by kernel_rfl, by kernel_rfl, [([], []), ([0], []), ([1], []), ([1], []), ([1, 2, 3], []), ([1, 4], []), ([1], []), ([1], []), ([1, 6, 7], []), ([1, 8], []), ([1, 5, 9], []), ([1, 10], [])], by kernel_rfl, ⟨fun S hS => aK rfl (aQ rfl (aB (v := .d (.lit (.bool known_2_4))) (aA rfl) (aH hS rfl) rfl)),
      fun S hS => aK rfl (aQ rfl (aB (v := .d (.lit (.bool known_2_4))) (aA rfl) (aH hS rfl) rfl)),
      fun S hS => aK rfl (bD rfl rfl (aA rfl) rfl (aA rfl) (aO hS rfl) c9),
      fun S hS => aK rfl (bD rfl rfl (aA rfl) rfl (aA rfl) (aO hS rfl) c9),
      fun S hS => aK rfl (bD rfl rfl (aA rfl) rfl (aA rfl) (aO hS rfl) c9),
      fun S hS => aK rfl (bD rfl rfl (aA rfl) rfl (aA rfl) (aO hS rfl) c9),
      fun S hS => aK rfl (bD rfl rfl (aA rfl) rfl (aA rfl) (aO hS rfl) c9),
      fun S hS => aK rfl (bD rfl rfl (aA rfl) rfl (aA rfl) (aO hS rfl) c9),
      fun S hS => aK rfl (bD rfl rfl (aA rfl) rfl (aA rfl) (aO hS rfl) c9),
      fun S hS => aK rfl (bD rfl rfl (aA rfl) rfl (aA rfl) (aO hS rfl) c9),
      fun S hS => aK rfl (bD rfl rfl (aA rfl) rfl (aA rfl) (aO hS rfl) c9),
      fun S hS => aK rfl (aQ rfl (bN (v := .d (.lit (.bool true))) (aA rfl) (aH hS rfl) c9 rfl rfl)), trivial⟩⟩
     · exact dJ (aL rfl (aY ⟨rfl, rfl, rfl, rfl, rfl, trivial⟩))
    ·have h8 := aR c9 h8
     obtain ⟨x10, h11, h8⟩ := bind_some h8
     obtain ⟨x12, h13, h8⟩ := bind_some h8
     have h8 := Option.some.inj h8
     subst h8
     refine ⟨[(21, 0, .d (.lit (.bool known_2_4))), (22, 1, .d (.lit (.bool known_2_4))), (23, 2, .d (.sl 5 (out_0_1.map aC))), (24, 3, .d (.lit (.int .i64 k_2_4))), (25, 4, .cp [.lit (.int .i64 x10.Id), .lit (.int .i64 x10.Player), .lit (.int .i64 x10.Week), .lit (.int .i64 x10.Points), .lit (.bool x10.Must)]), (26, 5, .agg (aC x10)), (27, 6, .d (.sl 5 (l_0.map aC))), (28, 7, .d (.lit (.int .i64 i_0_1))), (29, 8, .cp [.lit (.int .i64 x12.Id), .lit (.int .i64 x12.Player), .lit (.int .i64 x12.Week), .lit (.int .i64 x12.Points), .lit (.bool x12.Must)]), (30, 9, .agg (aC x12)), (31, 10, .d (.lit (.bool ((decide (x10 = x12)))))), (32, 11, .d (.lit (.bool ((decide (x10 = x12))))))], ?_, ?_⟩
     · exact ⟨by kernel_rfl, by kernel_rfl, by kernel_rfl, by kernel_rfl, by kernel_rfl, [([], []), ([0], []), ([1], []), ([1], []), ([1, 2, 3], []), ([1, 4], []), ([1], []), ([1], []), ([1, 6, 7], []), ([1, 8], []), ([1, 5, 9], []), ([1, 10], [])], by kernel_rfl, ⟨fun S hS => aK rfl (aQ rfl (aB (v := .d (.lit (.bool known_2_4))) (aA rfl) (aH hS rfl) rfl)),
      fun S hS => aK rfl (aQ rfl (aB (v := .d (.lit (.bool known_2_4))) (aA rfl) (aH hS rfl) rfl)),
      fun S hS => aK rfl (bA rfl rfl (aA rfl) (aO hS rfl) c9 (aB (v := .d (.sl 5 (out_0_1.map aC))) (aA rfl) (aH hS rfl) rfl)),
      fun S hS => aK rfl (bA rfl rfl (aA rfl) (aO hS rfl) c9 (aB (v := .d (.lit (.int .i64 k_2_4))) (aA rfl) (aH hS rfl) rfl)),
      fun S hS => aK rfl (bA rfl rfl (aA rfl) (aO hS rfl) c9 (bM (aA rfl) (aH hS rfl) (aH hS rfl) bR.of (bK aC h11))),
      fun S hS => aK rfl (bA rfl rfl (aA rfl) (aO hS rfl) c9 (eP (aA rfl) (aH hS rfl) dW (es := (aC x10)) rfl rfl)),
      fun S hS => aK rfl (bA rfl rfl (aA rfl) (aO hS rfl) c9 (aB (v := .d (.sl 5 (l_0.map aC))) (aA rfl) (aH hS rfl) rfl)),
      fun S hS => aK rfl (bA rfl rfl (aA rfl) (aO hS rfl) c9 (aB (v := .d (.lit (.int .i64 i_0_1))) (aA rfl) (aH hS rfl) rfl)),
      fun S hS => aK rfl (bA rfl rfl (aA rfl) (aO hS rfl) c9 (bM (aA rfl) (aH hS rfl) (aH hS rfl) bR.of (bK aC h13))),
      fun S hS => aK rfl (bA rfl rfl (aA rfl) (aO hS rfl) c9 (eP (aA rfl) (aH hS rfl) dW (es := (aC x12)) rfl rfl)),
      fun S hS => aK rfl (bA rfl rfl (aA rfl) (aO hS rfl) c9 (aIx (a := x10) (b := x12) (aA rfl) (aH hS rfl) (aH hS rfl) rfl rfl Try.eqGuardType42 aAy)),
      fun S hS => aK rfl (aQ rfl (bO (v := .d (.lit (.bool ((decide (x10 = x12)))))) (aA rfl) (aH hS rfl) c9 (aH hS rfl) rfl)), trivial⟩⟩
     · exact dJ (aL rfl (aY ⟨rfl, rfl, rfl, rfl, rfl, trivial⟩))
   ·refine tr1 rfl (aJ (v := .d (.lit (.bool b7))) (aA rfl) rfl rfl) ?_
    refine aF ?_
    refine aG ?_
    obtain ⟨x14, h15, h⟩ := bind_some h
    obtain ⟨x16, h17, h⟩ := bind_some h
    refine fD mix 10 [0, 3, 4, 5, 6, 7] [(37, .d (.lit (.int .i64 x14.Id))), (42, .d (.lit (.int .i64 x16.Id)))] ?_ ?_
    ·refine ⟨[(33, 0, .d (.sl 5 (out_0_1.map aC))), (34, 1, .d (.lit (.int .i64 k_2_4))), (35, 2, .cp [.lit (.int .i64 x14.Id), .lit (.int .i64 x14.Player), .lit (.int .i64 x14.Week), .lit (.int .i64 x14.Points), .lit (.bool x14.Must)]), (36, 3, .cp [.lit (.int .i64 x14.Id)]), (37, 4, .d (.lit (.int .i64 x14.Id))), (38, 5, .d (.sl 5 (l_0.map aC))), (39, 6, .d (.lit (.int .i64 i_0_1))), (40, 7, .cp [.lit (.int .i64 x16.Id), .lit (.int .i64 x16.Player), .lit (.int .i64 x16.Week), .lit (.int .i64 x16.Points), .lit (.bool x16.Must)]), (41, 8, .cp [.lit (.int .i64 x16.Id)]), (42, 9, .d (.lit (.int .i64 x16.Id)))], ?_, ?_⟩
     · exact ⟨by kernel_rfl, by kernel_rfl, by kernel_rfl, by kernel_rfl, by kernel_rfl, [([], []), ([], []), ([0, 1], []), ([2], []), ([3], []), ([], []), ([], []), ([5, 6], []), ([7], []), ([8], [])], by kernel_rfl, ⟨fun S hS => aK rfl (aQ rfl (aB (v := .d (.sl 5 (out_0_1.map aC))) (aA rfl) (aH hS rfl) rfl)),
      fun S hS => aK rfl (aQ rfl (aB (v := .d (.lit (.int .i64 k_2_4))) (aA rfl) (aH hS rfl) rfl)),
      fun S hS => aK rfl (aQ rfl (bM (aA rfl) (aH hS rfl) (aH hS rfl) bR.of (bK aC h15))),
      fun S hS => aK rfl (aQ rfl (cC (aA rfl) (aH hS rfl) kX (es := [.lit (.int .i64 x14.Id)]) rfl)),
      fun S hS => aK rfl (aQ rfl (bZ (aA rfl) (aH hS rfl) bG)),
      fun S hS => aK rfl (aQ rfl (aB (v := .d (.sl 5 (l_0.map aC))) (aA rfl) (aH hS rfl) rfl)),
      fun S hS => aK rfl (aQ rfl (aB (v := .d (.lit (.int .i64 i_0_1))) (aA rfl) (aH hS rfl) rfl)),
      fun S hS => aK rfl (aQ rfl (bM (aA rfl) (aH hS rfl) (aH hS rfl) bR.of (bK aC h17))),
      fun S hS => aK rfl (aQ rfl (cC (aA rfl) (aH hS rfl) kX (es := [.lit (.int .i64 x16.Id)]) rfl)),
      fun S hS => aK rfl (aQ rfl (bZ (aA rfl) (aH hS rfl) bG)), trivial⟩⟩
     · exact dJ (aL rfl (aL rfl (aY ⟨rfl, rfl, rfl, rfl, rfl, rfl, trivial⟩)))
    ·refine tr1 rfl (bB (aA rfl) rfl rfl rfl) ?_
     refine aF ?_
     refine bH rfl (fun c18 => ?_) (fun c18 => ?_)
     ·have h := aS c18 h
      refine aD ?_
      refine tr1 rfl (aB (v := .d (.lit (.int .i64 k_2_4))) (aA rfl) rfl rfl) ?_
      refine tr1 rfl (aZ (aA rfl) rfl rfl rfl) ?_
      refine tr1 rfl (aJ (v := .d (.lit (.int .i64 ((w64 (k_2_4 + 1)))))) (aA rfl) rfl rfl) ?_
      refine dA ?_
      refine aD ?_
      refine tr1 rfl (aB (v := .d (.lit (.int .i64 k_2_4))) (aA rfl) rfl rfl) ?_
      refine tr1 rfl (aZ (aA rfl) rfl rfl rfl) ?_
      refine tr1 rfl (aJ (v := .d (.lit (.int .i64 ((w64 (k_2_4 + 1)))))) (aA rfl) rfl rfl) ?_
      refine aF ?_
      exact ⟨(w64 (k_2_4 + 1), b7, w64 (k_2_4 + 1)), h, aX [] rfl rfl (aL rfl (aL rfl (aL rfl (aY ⟨rfl, rfl, rfl, trivial⟩))))⟩
     ·have h := aR c18 h
      refine dK ?_
      refine aD ?_
      refine tr1 rfl (aB (v := .d (.lit (.int .i64 k_2_4))) (aA rfl) rfl rfl) ?_
      refine tr1 rfl (aZ (aA rfl) rfl rfl rfl) ?_
      refine tr1 rfl (aJ (v := .d (.lit (.int .i64 ((w64 (k_2_4 + 1)))))) (aA rfl) rfl rfl) ?_
      refine aF ?_
      exact ⟨(atv_2_4, b7, w64 (k_2_4 + 1)), h, aX [] rfl rfl (aL rfl (aL rfl (aL rfl (aY ⟨rfl, rfl, rfl, trivial⟩))))⟩
  ·have h := aR c6 h
   refine cQ ?_
   refine .inl ⟨rfl, ?_⟩
   simp only [kI] at h
   refine aG ?_
   refine aD ?_
   refine tr1 rfl (aB (v := .d (.lit (.bool known_2_4))) (aA rfl) rfl rfl) ?_
   refine tr1 rfl (eN (aA rfl) rfl) ?_
   refine aF ?_
   refine bH rfl (fun c19 => ?_) (fun c19 => ?_)
   ·have h := aS c19 h
    refine aG ?_
    obtain ⟨x20, h21, h⟩ := bind_some h
    obtain ⟨x22, h23, h⟩ := bind_some h
    refine fD mix 8 [0, 3, 4, 5] [(52, .fl true 5 (([x20]).map aC)), (55, .d (.sl 5 (x22.map aC)))] ?_ ?_
    ·refine ⟨[(48, 0, .d (.sl 5 (l_0.map aC))), (49, 1, .d (.lit (.int .i64 i_0_1))), (50, 2, .cp [.lit (.int .i64 x20.Id), .lit (.int .i64 x20.Player), .lit (.int .i64 x20.Week), .lit (.int .i64 x20.Points), .lit (.bool x20.Must)]), (51, 3, .agg (aC x20)), (52, 4, .fl true 5 (([x20]).map aC)), (53, 5, .d (.sl 5 (out_0_1.map aC))), (54, 6, .d (.lit (.int .i64 atv_2_4))), (55, 7, .d (.sl 5 (x22.map aC)))], ?_, ?_⟩
     · exact ⟨by kernel_rfl, by kernel_rfl, by kernel_rfl, by kernel_rfl, by kernel_rfl, [([], []), ([], []), ([0, 1], []), ([2], []), ([3], []), ([], []), ([], []), ([5, 6], [])], by kernel_rfl, ⟨fun S hS => aK rfl (aQ rfl (aB (v := .d (.sl 5 (l_0.map aC))) (aA rfl) (aH hS rfl) rfl)),
      fun S hS => aK rfl (aQ rfl (aB (v := .d (.lit (.int .i64 i_0_1))) (aA rfl) (aH hS rfl) rfl)),
      fun S hS => aK rfl (aQ rfl (bM (aA rfl) (aH hS rfl) (aH hS rfl) bR.of (bK aC h21))),
      fun S hS => aK rfl (aQ rfl (eP (aA rfl) (aH hS rfl) dW (es := (aC x20)) rfl rfl)),
      fun S hS => aK rfl (aQ rfl (vP (aA rfl) bR rfl (pa2 (aH hS rfl) pan) (rows := ([x20]).map aC) rfl (cT (f := aC) fun _ => rfl) rfl (by decide))),
      fun S hS => aK rfl (aQ rfl (aB (v := .d (.sl 5 (out_0_1.map aC))) (aA rfl) (aH hS rfl) rfl)),
      fun S hS => aK rfl (aQ rfl (aB (v := .d (.lit (.int .i64 atv_2_4))) (aA rfl) (aH hS rfl) rfl)),
      fun S hS => aK rfl (aQ rfl (mA (aA rfl) bR.of (aH hS rfl) (bo (aH hS rfl)) aGg (pC aC h23))), trivial⟩⟩
     · exact dJ (aL rfl (aL rfl (aY ⟨rfl, rfl, rfl, rfl, trivial⟩)))
    ·obtain ⟨x24, h25, h⟩ := bind_some h
     refine tr1 rfl (zA (.d (.weak _ _)) (sG (nn := true) (f := aC) (xs := [x20]) (ys := x22) (aA rfl) bR rfl rfl (fun _ => rfl) h25 rfl)) ?_
     refine tr1 rfl (aJ (v := .d (.sl 5 (x24.map aC))) (aA rfl) rfl rfl) ?_
     refine aF ?_
     refine aD ?_
     refine bQ rfl (wB (aA rfl) bR rfl rfl (rows := (([] : List aE)).map aC) rfl (cT (f := aC) fun _ => rfl) rfl (by decide)) ?_
     rintro _ ⟨v26, rfl⟩
     refine tr1 rfl (aB (v := .d (.sl 5 (out_0_1.map aC))) (aA rfl) rfl rfl) ?_
     refine tr1 rfl (aB (v := .d (.lit (.int .i64 atv_2_4))) (aA rfl) rfl rfl) ?_
     obtain ⟨x27, h28, h⟩ := bind_some h
     refine tr1 rfl (mA (aA rfl) bR.of rfl rfl rfl (pC aC h28)) ?_
     obtain ⟨x29, h30, h⟩ := bind_some h
     refine bQ rfl (kC (i := 0) (aA rfl) bR rfl rfl rfl (fun _ => rfl) h30 rfl) ?_
     rintro _ ⟨v31, rfl⟩
     refine tr1 rfl (aB (v := .d (.sl 5 (x24.map aC))) (aA rfl) rfl rfl) ?_
     obtain ⟨x32, h33, h⟩ := bind_some h
     refine bQ rfl (kC (i := 0) (aA rfl) bR rfl rfl rfl (fun _ => rfl) h33 rfl) ?_
     rintro _ ⟨v34, rfl⟩
     refine eR (uV [] [.arr v34 42 5 (x32.map aC)] rfl (aGz (v' := .d (.sl 5 (x32.map aC))) (.d (aFr (cT (f := aC) fun _ => rfl))) (pF _ _))) ?_
     refine tr1 rfl (aJ (v := .d (.sl 5 (x32.map aC))) (aA rfl) rfl rfl) ?_
     refine dA ?_
     simp only [iG] at h
     refine aD ?_
     refine tr1 rfl (aB (v := .d (.lit (.int .i64 i_0_1))) (aA rfl) rfl rfl) ?_
     refine tr1 rfl (aZ (aA rfl) rfl rfl rfl) ?_
     refine tr1 rfl (aJ (v := .d (.lit (.int .i64 ((w64 (i_0_1 + 1)))))) (aA rfl) rfl rfl) ?_
     refine aF ?_
     exact ⟨(x32, w64 (i_0_1 + 1)), h, aX [] rfl rfl (aL rfl (aL rfl (aY ⟨rfl, trivial⟩)))⟩
   ·have h := aR c19 h
    refine dK ?_
    simp only [iG] at h
    refine aD ?_
    refine tr1 rfl (aB (v := .d (.lit (.int .i64 i_0_1))) (aA rfl) rfl rfl) ?_
    refine tr1 rfl (aZ (aA rfl) rfl rfl rfl) ?_
    refine tr1 rfl (aJ (v := .d (.lit (.int .i64 ((w64 (i_0_1 + 1)))))) (aA rfl) rfl rfl) ?_
    refine aF ?_
    exact ⟨(out_0_1, w64 (i_0_1 + 1)), h, aX [] rfl rfl (aL rfl (aL rfl (aY ⟨rfl, trivial⟩)))⟩
 ·have h := aR c3 h
  refine cQ ?_
  refine .inl ⟨rfl, ?_⟩
  simp only [oJ] at h
  refine aG ?_
  refine aD ?_
  refine tr1 rfl (aB (v := .d (.sl 5 (out_0_1.map aC))) (aA rfl) rfl rfl) ?_
  refine tr1 rfl (aJ (v := .d (.sl 5 (out_0_1.map aC))) (aA rfl) rfl rfl) ?_
  refine aF ?_
  have h := Option.some.inj h
  subst h
  exact bI ⟨rfl, _, .one _, rfl, rfl⟩

theorem aAi (l_0 : aN) (r_1 : aE) (week_2 : Int) {r : Int} (h : mY l_0 r_1 week_2 = some r) : Fn Try.prog 74 [.agg (aT l_0), .agg (aC r_1), .d (.lit (.int .i64 week_2))] (.d (.lit (.int .i64 r))) := by
 unfold mY at h
 refine Fn.of_tr Try.func74 rfl (rs := [.tmp 6]) Try.results74 Try.ntmps74 (Nat.le_of_ble_eq_true rfl) ?_
 refine aG ?_
 refine aD ?_
 refine bQ rfl (eD (v := .agg (aT l_0)) (aA rfl) rfl rfl rfl) ?_
 rintro _ ⟨b1, rfl⟩
 refine bQ rfl (eD (v := .agg (aC r_1)) (aA rfl) rfl rfl rfl) ?_
 rintro _ ⟨b2, rfl⟩
 refine tr1 rfl (aJ (v := .d (.lit (.int .i64 0))) (aA rfl) rfl rfl) ?_
 refine aF ?_
 refine aG ?_
 refine aD ?_
 refine tr1 rfl (aJ (v := .d (.lit (.int .i64 0))) (aA rfl) rfl rfl) ?_
 refine aF ?_
 refine aG ?_
 refine aG ?_
 refine aD ?_
 refine tr1 rfl (aV (aA rfl) rfl kY) ?_
 refine tr1 rfl (aW (aA rfl) rfl (i := 1) rfl rfl bG) ?_
 refine tr1 rfl (aZ (aA rfl) rfl rfl rfl) ?_
 refine tr1 rfl (aJ (v := .d (.lit (.int .i64 ((w64 (r_1.Week + 1)))))) (aA rfl) rfl rfl) ?_
 refine aF ?_
 refine bP ?_
 refine cJ [2, 3, 4] (fun (s3 : Int × Int) => [(7, .d (.lit (.int .i64 s3.1))), (8, .d (.lit (.int .i64 s3.2)))]) (fun (s3 : Int × Int) => [.box b1 0 (aT l_0), .box b2 0 (aC r_1)]) (fun (k : Nat) (s3 : Int × Int) => iH week_2 l_0 r_1 k s3.1 s3.2) (fun _ => rfl) (0, w64 (r_1.Week + 1)) h (aX [0, 1] rfl rfl (aL rfl (aL rfl (aY ⟨rfl, rfl, rfl, trivial⟩)))) ?_
 rintro k4 ⟨n_0_3, w_0_3⟩ h
 simp only [iH] at h
 refine aG ?_
 refine aG ?_
 refine aD ?_
 refine tr1 rfl (aB (v := .d (.lit (.int .i64 w_0_3))) (aA rfl) rfl rfl) ?_
 refine tr1 rfl (aB (v := .d (.lit (.int .i64 week_2))) (aA rfl) rfl rfl) ?_
 refine tr1 rfl (bB (aA rfl) rfl rfl rfl) ?_
 refine aF ?_
 refine bH rfl (fun c5 => ?_) (fun c5 => ?_)
 ·have h := aS c5 h
  refine bF ?_
  refine aG ?_
  refine bP ?_
  refine aG ?_
  refine aD ?_
  refine tr1 rfl (aV (aA rfl) rfl kP) ?_
  refine tr1 rfl (aW (aA rfl) rfl (i := 0) rfl rfl jC) ?_
  refine tr1 rfl (aV (aA rfl) rfl pH) ?_
  refine tr1 rfl (aW (aA rfl) rfl (i := 1) rfl rfl bG) ?_
  refine tr1 rfl (aB (v := .d (.lit (.int .i64 w_0_3))) (aA rfl) rfl rfl) ?_
  obtain ⟨r6, h7, h⟩ := bind_some h
  refine tr1 rfl (bY (aA rfl) (.func _ _ Try.call25) rfl rfl (BVs.refl _ _) (rE _ _ _ h7) rfl) ?_
  refine tr1 rfl (eN (aA rfl) rfl) ?_
  refine aF ?_
  refine bH rfl (fun c8 => ?_) (fun c8 => ?_)
  ·have h := aS c8 h
   refine aD ?_
   refine tr1 rfl (aB (v := .d (.lit (.int .i64 n_0_3))) (aA rfl) rfl rfl) ?_
   refine tr1 rfl (aZ (aA rfl) rfl rfl rfl) ?_
   refine tr1 rfl (aJ (v := .d (.lit (.int .i64 ((w64 (n_0_3 + 1)))))) (aA rfl) rfl rfl) ?_
   refine dA ?_
   refine aD ?_
   refine tr1 rfl (aB (v := .d (.lit (.int .i64 w_0_3))) (aA rfl) rfl rfl) ?_
   refine tr1 rfl (aZ (aA rfl) rfl rfl rfl) ?_
   refine tr1 rfl (aJ (v := .d (.lit (.int .i64 ((w64 (w_0_3 + 1)))))) (aA rfl) rfl rfl) ?_
   refine aF ?_
   exact ⟨(w64 (n_0_3 + 1), w64 (w_0_3 + 1)), h, aX [0, 1] rfl rfl (aL rfl (aL rfl (aY ⟨rfl, rfl, rfl, trivial⟩)))⟩
  ·have h := aR c8 h
   refine dK ?_
   refine aD ?_
   refine tr1 rfl (aB (v := .d (.lit (.int .i64 w_0_3))) (aA rfl) rfl rfl) ?_
   refine tr1 rfl (aZ (aA rfl) rfl rfl rfl) ?_
   refine tr1 rfl (aJ (v := .d (.lit (.int .i64 ((w64 (w_0_3 + 1)))))) (aA rfl) rfl rfl) ?_
   refine aF ?_
   exact ⟨(n_0_3, w64 (w_0_3 + 1)), h, aX [0, 1] rfl rfl (aL rfl (aL rfl (aY ⟨rfl, rfl, rfl, trivial⟩)))⟩
 ·have h := aR c5 h
  refine cQ ?_
  refine .inl ⟨rfl, ?_⟩
  simp only [rF] at h
  refine aG ?_
  refine aD ?_
  refine tr1 rfl (aB (v := .d (.lit (.int .i64 n_0_3))) (aA rfl) rfl rfl) ?_
  refine tr1 rfl (aJ (v := .d (.lit (.int .i64 n_0_3))) (aA rfl) rfl rfl) ?_
  refine aF ?_
  have h := Option.some.inj h
  subst h
  refine cI (bX (cB (l := [6]) ⟨rfl, trivial⟩)) ?_
  exact bI ⟨rfl, _, .one _, rfl, rfl⟩

theorem mG (l_0 : aN) (player_1 : Int) (week_2 : Int) {r : (List aE)} (h : gR l_0 player_1 week_2 = some r) : Fn Try.prog 39 [.agg (aT l_0), .d (.lit (.int .i64 player_1)), .d (.lit (.int .i64 week_2))] (.d (.sl 5 (r.map aC))) := by
 unfold gR at h
 refine Fn.of_tr Try.func39 rfl (rs := [.tmp 6]) Try.results39 Try.ntmps39 (Nat.le_of_ble_eq_true rfl) ?_
 refine aG ?_
 refine aD ?_
 refine bQ rfl (eD (v := .agg (aT l_0)) (aA rfl) rfl rfl rfl) ?_
 rintro _ ⟨b1, rfl⟩
 refine tr1 rfl (pM 5 (aA rfl)) ?_
 refine aF ?_
 refine aG ?_
 refine aD ?_
 refine tr1 rfl (hZ 42 5 (.inl rfl) (aA rfl)) ?_
 refine aF ?_
 refine aG ?_
 refine aD ?_
 refine tr1 rfl (aV (aA rfl) rfl eK) ?_
 refine tr1 rfl (aW (aA rfl) rfl (i := 0) rfl rfl jB) ?_
 obtain ⟨r3, h4, h⟩ := bind_some h
 refine tr1 rfl (iB (aA rfl) (.func _ _ Try.call64) rfl rfl (wN _ h4)) ?_
 refine tr1 rfl (aJ (v := .d (.sl 5 (r3.map aC))) (aA rfl) rfl rfl) ?_
 refine aF ?_
 refine aG ?_
 refine aG ?_
 refine aD ?_
 refine tr1 rfl (aJ (v := .d (.lit (.int .i64 0))) (aA rfl) rfl rfl) ?_
 refine aF ?_
 refine bP ?_
 refine cJ [1, 2, 3, 8] (fun (s5 : Int × (List aE) × Value) => [(7, .d (.lit s5.2.2)), (9, .d (.lit (.int .i64 s5.1)))]) (fun (s5 : Int × (List aE) × Value) => [.box b1 0 (aT l_0), .arr s5.2.2 42 5 (s5.2.1.map aC)]) (fun (k : Nat) (s5 : Int × (List aE) × Value) => eY player_1 week_2 r3 l_0 k s5.1 s5.2.1) (fun _ => rfl) (0, ([] : List aE), (.slice none 0 0)) h (aX [0, 1] rfl rfl (aL rfl (aL rfl (aY ⟨rfl, rfl, rfl, rfl, trivial⟩)))) ?_
 rintro k7 ⟨i_0_5, out_0_5, w6⟩ h
 simp only [eY] at h
 refine aG ?_
 refine aG ?_
 refine aD ?_
 refine tr1 rfl (aB (v := .d (.lit (.int .i64 i_0_5))) (aA rfl) rfl rfl) ?_
 refine tr1 rfl (aB (v := .d (.sl 5 (r3.map aC))) (aA rfl) rfl rfl) ?_
 refine tr1 rfl (dB (aA rfl) rfl bR.of) ?_
 refine tr1 rfl (bB (aA rfl) rfl rfl rfl) ?_
 refine aF ?_
 refine bH rfl (fun c8 => ?_) (fun c8 => ?_)
 ·have h := aS c8 h
  refine bF ?_
  refine aG ?_
  refine bP ?_
  refine aG ?_
  refine aD ?_
  refine tr1 rfl (aB (v := .d (.sl 5 (r3.map aC))) (aA rfl) rfl rfl) ?_
  refine tr1 rfl (aB (v := .d (.lit (.int .i64 i_0_5))) (aA rfl) rfl rfl) ?_
  obtain ⟨x9, h10, h⟩ := bind_some h
  refine tr1 rfl (bM (aA rfl) rfl rfl bR.of (bK aC h10)) ?_
  refine tr1 rfl (eP (aA rfl) rfl dW (es := (aC x9)) rfl rfl) ?_
  refine bQ rfl (fF (zs := [.lit (.int .i64 0), .lit (.int .i64 0), .lit (.int .i64 0), .lit (.int .i64 0), .lit (.bool false)]) (aA rfl) Try.zeroValue42 rfl rfl) ?_
  rintro _ ⟨b11, rfl⟩
  refine tr1 rfl (cF (i := 2) rfl rfl rfl rfl rfl Try.sizeOf42 rfl (aA rfl) (Nat.le_of_ble_eq_true rfl) (ds' := (aC x9)) rfl) ?_
  refine aF ?_
  refine aG ?_
  refine aD ?_
  refine tr1 rfl (aV (aA rfl) rfl pH) ?_
  refine tr1 rfl (aW (aA rfl) rfl (i := 2) rfl rfl bG) ?_
  refine tr1 rfl (aB (v := .d (.lit (.int .i64 player_1))) (aA rfl) rfl rfl) ?_
  refine tr1 rfl (bB (aA rfl) rfl rfl rfl) ?_
  refine tr1 rfl (aB (v := .d (.lit (.bool ((decide (x9.Player = player_1)))))) (aA rfl) rfl rfl) ?_
  obtain ⟨b12, h13, h⟩ := bind_some h
  refine cD 5 [1, 2, 3, 7, 8, 9, 10] 33 b12 ?_ ?_
  ·refine bJ (decide (x9.Player = player_1)) (fun c28 => ?_) (fun c28 => ?_)
   ·have h13 := aS c28 h13
    refine aM rfl rfl (aA rfl) rfl c28 (aB (v := .d (.lit (.int .i64 week_2))) (aA rfl) rfl rfl) ?_
    refine aM rfl rfl (aA rfl) rfl c28 (aV (aA rfl) rfl kY) ?_
    refine aM rfl rfl (aA rfl) rfl c28 (aW (aA rfl) rfl (i := 2) rfl rfl bG) ?_
    refine aM rfl rfl (aA rfl) rfl c28 (bB (aA rfl) rfl rfl rfl) ?_
    refine tr1 rfl (bN (v := .d (.lit (.bool ((decide (x9.Week ≤ week_2)))))) (aA rfl) rfl c28 rfl rfl) ?_
    have h13 := Option.some.inj h13
    subst h13
    refine aF (bC rfl ⟨rfl, rfl, rfl, rfl, rfl, rfl, rfl, trivial⟩ rfl)
   ·have h13 := aR c28 h13
    refine aU rfl rfl (aA rfl) rfl (aA rfl) rfl c28 ?_
    refine aU rfl rfl (aA rfl) rfl (aA rfl) rfl c28 ?_
    refine aU rfl rfl (aA rfl) rfl (aA rfl) rfl c28 ?_
    refine aU rfl rfl (aA rfl) rfl (aA rfl) rfl c28 ?_
    refine tr1 rfl (bO (v := .d (.lit (.bool false))) (aA rfl) rfl c28 rfl rfl) ?_
    have h13 := Option.some.inj h13
    subst h13
    refine aF (bC rfl ⟨rfl, rfl, rfl, rfl, rfl, rfl, rfl, trivial⟩ rfl)
  ·refine tr1 rfl (aB (v := .d (.lit (.bool b12))) (aA rfl) rfl rfl) ?_
   obtain ⟨b14, h15, h⟩ := bind_some h
   refine cD 6 [1, 2, 3, 7, 8, 9, 10] 40 b14 ?_ ?_
   ·refine bJ (b12) (fun c25 => ?_) (fun c25 => ?_)
    ·have h15 := aS c25 h15
     refine aM rfl rfl (aA rfl) rfl c25 (cA (aA rfl) rfl (i := 0) rfl dI (es := (aT l_0)) rfl rfl) ?_
     refine aM rfl rfl (aA rfl) rfl c25 (cA (aA rfl) rfl (i := 2) rfl dW (es := (aC x9)) rfl rfl) ?_
     refine aM rfl rfl (aA rfl) rfl c25 (aB (v := .d (.lit (.int .i64 week_2))) (aA rfl) rfl rfl) ?_
     obtain ⟨r26, h27, h15⟩ := bind_some h15
     refine aM rfl rfl (aA rfl) rfl c25 (bY (aA rfl) (.func _ _ Try.call74) rfl rfl (BVs.refl _ _) (aAi _ _ _ h27) rfl) ?_
     refine aM rfl rfl (aA rfl) rfl c25 (bB (aA rfl) rfl rfl rfl) ?_
     refine tr1 rfl (bN (v := .d (.lit (.bool ((decide (r26 < 52)))))) (aA rfl) rfl c25 rfl rfl) ?_
     have h15 := Option.some.inj h15
     subst h15
     refine aF (bC rfl ⟨rfl, rfl, rfl, rfl, rfl, rfl, rfl, trivial⟩ rfl)
    ·have h15 := aR c25 h15
     refine aU rfl rfl (aA rfl) rfl (aA rfl) rfl c25 ?_
     refine aU rfl rfl (aA rfl) rfl (aA rfl) rfl c25 ?_
     refine aU rfl rfl (aA rfl) rfl (aA rfl) rfl c25 ?_
     refine aU rfl rfl (aA rfl) rfl (aA rfl) rfl c25 ?_
     refine aU rfl rfl (aA rfl) rfl (aA rfl) rfl c25 ?_
     refine tr1 rfl (bO (v := .d (.lit (.bool false))) (aA rfl) rfl c25 rfl rfl) ?_
     have h15 := Option.some.inj h15
     subst h15
     refine aF (bC rfl ⟨rfl, rfl, rfl, rfl, rfl, rfl, rfl, trivial⟩ rfl)
   ·refine tr1 rfl (aB (v := .d (.lit (.bool b14))) (aA rfl) rfl rfl) ?_
    obtain ⟨b16, h17, h⟩ := bind_some h
    refine cD 8 [1, 2, 3, 7, 8, 9, 10] 49 b16 ?_ ?_
    ·refine bJ (b14) (fun c22 => ?_) (fun c22 => ?_)
     ·have h17 := aS c22 h17
      refine aM rfl rfl (aA rfl) rfl c22 (aV (aA rfl) rfl oR) ?_
      refine aM rfl rfl (aA rfl) rfl c22 (aW (aA rfl) rfl (i := 0) rfl rfl jC) ?_
      refine aM rfl rfl (aA rfl) rfl c22 (aB (v := .d (.lit (.int .i64 player_1))) (aA rfl) rfl rfl) ?_
      refine aM rfl rfl (aA rfl) rfl c22 (aV (aA rfl) rfl kY) ?_
      refine aM rfl rfl (aA rfl) rfl c22 (aW (aA rfl) rfl (i := 2) rfl rfl bG) ?_
      obtain ⟨r23, h24, h17⟩ := bind_some h17
      refine aM rfl rfl (aA rfl) rfl c22 (bY (aA rfl) (.func _ _ Try.call25) rfl rfl (BVs.refl _ _) (rE _ _ _ h24) rfl) ?_
      refine aM rfl rfl (aA rfl) rfl c22 (eN (aA rfl) rfl) ?_
      refine tr1 rfl (bN (v := .d (.lit (.bool (!r23)))) (aA rfl) rfl c22 rfl rfl) ?_
      have h17 := Option.some.inj h17
      subst h17
      refine aF (bC rfl ⟨rfl, rfl, rfl, rfl, rfl, rfl, rfl, trivial⟩ rfl)
     ·have h17 := aR c22 h17
      refine aU rfl rfl (aA rfl) rfl (aA rfl) rfl c22 ?_
      refine aU rfl rfl (aA rfl) rfl (aA rfl) rfl c22 ?_
      refine aU rfl rfl (aA rfl) rfl (aA rfl) rfl c22 ?_
      refine aU rfl rfl (aA rfl) rfl (aA rfl) rfl c22 ?_
      refine aU rfl rfl (aA rfl) rfl (aA rfl) rfl c22 ?_
      refine aU rfl rfl (aA rfl) rfl (aA rfl) rfl c22 ?_
      refine aU rfl rfl (aA rfl) rfl (aA rfl) rfl c22 ?_
      refine tr1 rfl (bO (v := .d (.lit (.bool false))) (aA rfl) rfl c22 rfl rfl) ?_
      have h17 := Option.some.inj h17
      subst h17
      refine aF (bC rfl ⟨rfl, rfl, rfl, rfl, rfl, rfl, rfl, trivial⟩ rfl)
    ·refine aF ?_
     refine bH rfl (fun c18 => ?_) (fun c18 => ?_)
     ·have h := aS c18 h
      refine aD ?_
      refine tr1 rfl (aB (v := .d (.lit w6)) (aA rfl) rfl rfl) ?_
      refine tr1 rfl (cA (aA rfl) rfl (i := 2) rfl dW (es := (aC x9)) rfl rfl) ?_
      refine tr1 rfl (jT (aA rfl) bR rfl rfl (rows := ([x9]).map aC) rfl (cT (f := aC) fun _ => rfl) rfl (by decide)) ?_
      obtain ⟨x19, h20, h⟩ := bind_some h
      refine bQ rfl (kC (i := 1) (aA rfl) bR rfl rfl rfl (fun _ => rfl) h20 rfl) ?_
      rintro _ ⟨v21, rfl⟩
      refine tr1 rfl (aJ (v := .d (.lit v21)) (aA rfl) rfl rfl) ?_
      refine dA ?_
      refine aD ?_
      refine tr1 rfl (aB (v := .d (.lit (.int .i64 i_0_5))) (aA rfl) rfl rfl) ?_
      refine tr1 rfl (aZ (aA rfl) rfl rfl rfl) ?_
      refine tr1 rfl (aJ (v := .d (.lit (.int .i64 ((w64 (i_0_5 + 1)))))) (aA rfl) rfl rfl) ?_
      refine aF ?_
      exact ⟨(w64 (i_0_5 + 1), x19, v21), h, aX [0, 1] rfl rfl (aL rfl (aL rfl (aY ⟨rfl, rfl, rfl, rfl, trivial⟩)))⟩
     ·have h := aR c18 h
      refine dK ?_
      refine aD ?_
      refine tr1 rfl (aB (v := .d (.lit (.int .i64 i_0_5))) (aA rfl) rfl rfl) ?_
      refine tr1 rfl (aZ (aA rfl) rfl rfl rfl) ?_
      refine tr1 rfl (aJ (v := .d (.lit (.int .i64 ((w64 (i_0_5 + 1)))))) (aA rfl) rfl rfl) ?_
      refine aF ?_
      exact ⟨(w64 (i_0_5 + 1), out_0_5, w6), h, aX [0, 1] rfl rfl (aL rfl (aL rfl (aY ⟨rfl, rfl, rfl, rfl, trivial⟩)))⟩
 ·have h := aR c8 h
  refine cQ ?_
  refine .inl ⟨rfl, ?_⟩
  simp only [oI] at h
  refine aG ?_
  refine aD ?_
  refine tr1 rfl (aB (v := .d (.lit w6)) (aA rfl) rfl rfl) ?_
  refine tr1 rfl (aJ (v := .d (.lit w6)) (aA rfl) rfl rfl) ?_
  refine aF ?_
  have h := Option.some.inj h
  subst h
  refine cI (bX (gG (k := 6) (v := .d (.sl 5 (out_0_5.map aC))) (.d (gY 1 rfl (cT (f := aC) fun _ => rfl))) (wM))) ?_
  exact bI ⟨rfl, _, .one _, rfl, rfl⟩

theorem xX (l_0 : aN) (player_1 : Int) (week_2 : Int) {r : Bool} (h : mO l_0 player_1 week_2 = some r) : Fn Try.prog 28 [.agg (aT l_0), .d (.lit (.int .i64 player_1)), .d (.lit (.int .i64 week_2))] (.d (.lit (.bool r))) := by
 unfold mO at h
 refine Fn.of_tr Try.func28 rfl (rs := [.tmp 6]) Try.results28 Try.ntmps28 (Nat.le_of_ble_eq_true rfl) ?_
 refine aG ?_
 refine aD ?_
 refine bQ rfl (eD (v := .agg (aT l_0)) (aA rfl) rfl rfl rfl) ?_
 rintro _ ⟨b1, rfl⟩
 refine tr1 rfl (aJ (v := .d (.lit (.bool false))) (aA rfl) rfl rfl) ?_
 refine aF ?_
 refine aG ?_
 refine aD ?_
 refine tr1 rfl (aV (aA rfl) rfl oR) ?_
 refine tr1 rfl (aW (aA rfl) rfl (i := 0) rfl rfl jC) ?_
 refine tr1 rfl (aB (v := .d (.lit (.int .i64 player_1))) (aA rfl) rfl rfl) ?_
 refine tr1 rfl (aB (v := .d (.lit (.int .i64 week_2))) (aA rfl) rfl rfl) ?_
 obtain ⟨r2, h3, h⟩ := bind_some h
 refine tr1 rfl (bY (aA rfl) (.func _ _ Try.call25) rfl rfl (BVs.refl _ _) (rE _ _ _ h3) rfl) ?_
 refine tr1 rfl (eN (aA rfl) rfl) ?_
 refine tr1 rfl (aB (v := .d (.lit (.bool (!r2)))) (aA rfl) rfl rfl) ?_
 obtain ⟨b4, h5, h⟩ := bind_some h
 refine cD 7 [] 20 b4 ?_ ?_
 ·refine bJ (!r2) (fun c6 => ?_) (fun c6 => ?_)
  ·have h5 := aS c6 h5
   refine aM rfl rfl (aA rfl) rfl c6 (cA (aA rfl) rfl (i := 0) rfl dI (es := (aT l_0)) rfl rfl) ?_
   refine aM rfl rfl (aA rfl) rfl c6 (aB (v := .d (.lit (.int .i64 player_1))) (aA rfl) rfl rfl) ?_
   refine aM rfl rfl (aA rfl) rfl c6 (aB (v := .d (.lit (.int .i64 week_2))) (aA rfl) rfl rfl) ?_
   obtain ⟨r7, h8, h5⟩ := bind_some h5
   refine aM rfl rfl (aA rfl) rfl c6 (iB (aA rfl) (.func _ _ Try.call39) rfl rfl (mG _ _ _ h8)) ?_
   refine aM rfl rfl (aA rfl) rfl c6 (dB (aA rfl) rfl bR.of) ?_
   refine aM rfl rfl (aA rfl) rfl c6 (bB (aA rfl) rfl rfl rfl) ?_
   refine tr1 rfl (bN (v := .d (.lit (.bool ((decide (0 < (r7.length : Int))))))) (aA rfl) rfl c6 rfl rfl) ?_
   have h5 := Option.some.inj h5
   subst h5
   refine aF (bC rfl trivial rfl)
  ·have h5 := aR c6 h5
   refine aU rfl rfl (aA rfl) rfl (aA rfl) rfl c6 ?_
   refine aU rfl rfl (aA rfl) rfl (aA rfl) rfl c6 ?_
   refine aU rfl rfl (aA rfl) rfl (aA rfl) rfl c6 ?_
   refine aU rfl rfl (aA rfl) rfl (aA rfl) rfl c6 ?_
   refine aU rfl rfl (aA rfl) rfl (aA rfl) rfl c6 ?_
   refine aU rfl rfl (aA rfl) rfl (aA rfl) rfl c6 ?_
   refine tr1 rfl (bO (v := .d (.lit (.bool false))) (aA rfl) rfl c6 rfl rfl) ?_
   have h5 := Option.some.inj h5
   subst h5
   refine aF (bC rfl trivial rfl)
 ·refine tr1 rfl (aJ (v := .d (.lit (.bool b4))) (aA rfl) rfl rfl) ?_
  refine aF ?_
  have h := Option.some.inj h
  subst h
  refine cI (bX (cB (l := [6]) ⟨rfl, trivial⟩)) ?_
  exact bI ⟨rfl, _, .one _, rfl, rfl⟩

end Go.Am
