/- The functions compute what the shallow ones say: printed by program. -/
import Derived.Test.YtaocljlhapoieaaRankReachSimP1
namespace Go.Am
open Go.Proofs
set_option maxRecDepth 100000
set_option maxHeartbeats 4000000

theorem aFg (l_0 : aL) {r : (Option cB) × Int} (h : qL l_0 = some r) : gC Try.prog 80 [.agg (aN l_0)] [] (fun r' o' => ∃ (b : Nat) (w0 : Value), r' = .tup [(match r.1 with | none => .d (.lit (.pointer none)) | some _ => .bp b 0 0), .d (.lit (.int .i64 r.2))] ∧ o' = (match r.1 with | none => [] | some x => [.box b 0 [.lit (.int .i64 x.Ledger.Players), .lit (.int .i64 x.Ledger.Counts), .lit w0, .sl 3 (x.Ledger.Bans.map aK), .sl 3 (x.Ledger.Frozen.map aK)], .arr w0 42 5 (x.Ledger.Reports.map aB)])) := by
 unfold qL at h
 refine mP Try.func80 rfl (rs := [.tmp 2, .tmp 3]) Try.results80 Try.ntmps80 (Nat.le_of_ble_eq_true rfl) ?_
 refine aG ?_
 refine aE ?_
 refine bW rfl (eN (v := .agg (aN l_0)) (aA rfl) rfl rfl rfl) ?_
 rintro _ ⟨b1, rfl⟩
 refine tr1 rfl (aJ (v := rP cK (none : Option cB)) (aA rfl) rfl rfl) ?_
 refine tr1 rfl (aJ (v := .d (.lit (.int .i64 0))) (aA rfl) rfl rfl) ?_
 refine aF ?_
 refine aG ?_
 refine aG ?_
 refine aE ?_
 refine tr1 rfl (cH (aA rfl) rfl (i := 0) rfl dW (es := (aN l_0)) rfl rfl) ?_
 obtain ⟨r2, h3, h⟩ := bind_some h
 refine tr1 rfl (cC (aA rfl) (.func _ _ Try.call60) rfl rfl (BVs.refl _ _) (aEp _ h3) rfl) ?_
 refine tr1 rfl (aJ (v := .d (.lit (.int .i64 r2))) (aA rfl) rfl rfl) ?_
 refine aF ?_
 refine aG ?_
 refine aE ?_
 refine tr1 rfl (aC (v := .d (.lit (.int .i64 r2))) (aA rfl) rfl rfl) ?_
 refine tr1 rfl (bC (aA rfl) rfl rfl rfl) ?_
 refine aF ?_
 refine bJ rfl (fun c4 => ?_) (fun c4 => ?_)
 ·have h := aT c4 h
  refine aG ?_
  refine aE ?_
  refine tr1 rfl (aC (v := .d (.lit (.int .i64 r2))) (aA rfl) rfl rfl) ?_
  refine tr1 rfl (aJ (v := rP cK (none : Option cB)) (aA rfl) rfl rfl) ?_
  refine tr1 rfl (aJ (v := .d (.lit (.int .i64 r2))) (aA rfl) rfl rfl) ?_
  refine aF ?_
  have h := Option.some.inj h
  subst h
  exact bM ⟨rfl, _, [], [.box b1 0 (aN l_0)], _, .two (.tmp 2 (v := rP cK (none : Option cB)) rfl) (.tmp 3 (v := .d (.lit (.int .i64 r2))) rfl), .refl _, .same _, 0, undef, rfl, rfl⟩
 ·have h := aS c4 h
  refine bG ?_
  refine aG ?_
  refine aE ?_
  refine tr1 rfl (aU (aA rfl) rfl eH) ?_
  refine tr1 rfl (aW (aA rfl) rfl (i := 0) rfl rfl iZ) ?_
  obtain ⟨r5, h6, h⟩ := bind_some h
  refine bW rfl (dX (passed := []) (aA rfl) rfl (.func _ _ Try.call62) rfl rfl (aAi _ h6)) ?_
  rintro _ ⟨_, _, ⟨w7, rfl, rfl⟩, rfl⟩
  refine tr1 rfl (aC (v := .tup [.d (.lit w7), .d (.lit (.bool r5.2))]) (aA rfl) rfl rfl) ?_
  refine tr1 rfl (dA (aA rfl) rfl rfl) ?_
  refine tr1 rfl (dA (aA rfl) rfl rfl) ?_
  refine tr1 rfl (aU (aA rfl) rfl eH) ?_
  refine tr1 rfl (cD (i := 1) rfl rfl rfl rfl rfl Try.sizeOf22 rfl (aA rfl) (Nat.le_of_ble_eq_true rfl) (ds' := [.lit (.int .i64 l_0.Players), .lit (.int .i64 l_0.Counts), .lit w7, .sl 3 (l_0.Bans.map aK), .sl 3 (l_0.Frozen.map aK)]) rfl) ?_
  refine aF ?_
  refine aG ?_
  refine aE ?_
  refine tr1 rfl (cH (aA rfl) rfl (i := 1) rfl dW (es := [.lit (.int .i64 l_0.Players), .lit (.int .i64 l_0.Counts), .lit w7, .sl 3 (l_0.Bans.map aK), .sl 3 (l_0.Frozen.map aK)]) rfl rfl) ?_
  refine tr1 rfl (mY (aA rfl) aLe (zs := [.lit (.int .i64 0), .lit (.int .i64 0), .sl 5 ((([] : List aD)).map aB), .sl 3 ((([] : List bA)).map aK), .sl 3 ((([] : List bA)).map aK)]) rfl rfl rfl rfl (es := [.lit (.int .i64 l_0.Players), .lit (.int .i64 l_0.Counts), .lit w7, .sl 3 (l_0.Bans.map aK), .sl 3 (l_0.Frozen.map aK)]) rfl) ?_
  refine bW rfl (eN (v := .agg [.lit (.int .i64 l_0.Players), .lit (.int .i64 l_0.Counts), .lit w7, .sl 3 (l_0.Bans.map aK), .sl 3 (l_0.Frozen.map aK)]) (aA rfl) rfl rfl rfl) ?_
  rintro _ ⟨b8, rfl⟩
  refine tr1 rfl (aJ (v := .bp b8 0 0) (aA rfl) rfl rfl) ?_
  refine tr1 rfl (aJ (v := .d (.lit (.int .i64 0))) (aA rfl) rfl rfl) ?_
  refine aF ?_
  have h := Option.some.inj h
  subst h
  refine cR (aX [2, 0, 1] rfl rfl (le_refl _)) ?_
  exact bM ⟨rfl, _, [.box b8 0 [.lit (.int .i64 l_0.Players), .lit (.int .i64 l_0.Counts), .lit w7, .sl 3 (l_0.Bans.map aK), .sl 3 (l_0.Frozen.map aK)], .arr w7 42 5 (r5.1.map aB)], [.box b1 0 [.lit (.int .i64 l_0.Players), .lit (.int .i64 l_0.Counts), .lit w7, .sl 3 (l_0.Bans.map aK), .sl 3 (l_0.Frozen.map aK)]], _, .two (.tmp 2 (v := .bp b8 0 0) rfl) (.tmp 3 (v := .d (.lit (.int .i64 0))) rfl), .refl _, .same _, b8, w7, rfl, rfl⟩

theorem xE (l_0 : aL) (player_1 : Int) (week_2 : Int) {r : (Option cB) × Int} (h : pE l_0 player_1 week_2 = some r) : gC Try.prog 44 [.agg (aN l_0), .d (.lit (.int .i64 player_1)), .d (.lit (.int .i64 week_2))] [] (fun r' o' => ∃ (b : Nat) (w0 : Value), r' = .tup [(match r.1 with | none => .d (.lit (.pointer none)) | some _ => .bp b 0 0), .d (.lit (.int .i64 r.2))] ∧ o' = (match r.1 with | none => [] | some x => [.box b 0 [.lit (.int .i64 x.Ledger.Players), .lit (.int .i64 x.Ledger.Counts), .lit w0, .sl 3 (x.Ledger.Bans.map aK), .sl 3 (x.Ledger.Frozen.map aK)], .arr w0 42 5 (x.Ledger.Reports.map aB)])) := by
 unfold pE at h
 refine mP Try.func44 rfl (rs := [.tmp 6, .tmp 7]) Try.results44 Try.ntmps44 (Nat.le_of_ble_eq_true rfl) ?_
 refine aG ?_
 refine aE ?_
 refine bW rfl (eN (v := .agg (aN l_0)) (aA rfl) rfl rfl rfl) ?_
 rintro _ ⟨b1, rfl⟩
 refine tr1 rfl (aJ (v := rP cK (none : Option cB)) (aA rfl) rfl rfl) ?_
 refine tr1 rfl (aJ (v := .d (.lit (.int .i64 0))) (aA rfl) rfl rfl) ?_
 refine aF ?_
 refine aG ?_
 refine aE ?_
 refine tr1 rfl (cH (aA rfl) rfl (i := 0) rfl dW (es := (aN l_0)) rfl rfl) ?_
 obtain ⟨r2, h3, h⟩ := bind_some h
 refine bW rfl (dX (passed := []) (aA rfl) rfl (.func _ _ Try.call80) rfl rfl (aFg _ h3)) ?_
 rintro _ ⟨_, _, ⟨b5, w6, rfl, rfl⟩, rfl⟩
 obtain ⟨_ | y4, e7⟩ := r2
 ·have h := aBp h
  refine gN (aX [0] rfl rfl (le_refl _)) ?_
  refine tr1 rfl (aC (v := .tup [.d (.lit (.pointer none)), .d (.lit (.int .i64 e7))]) (aA rfl) rfl rfl) ?_
  refine tr1 rfl (dA (aA rfl) rfl rfl) ?_
  refine tr1 rfl (dA (aA rfl) rfl rfl) ?_
  refine tr1 rfl (aJ (v := .d (.lit (.pointer none))) (aA rfl) rfl rfl) ?_
  refine tr1 rfl (aJ (v := .d (.lit (.int .i64 e7))) (aA rfl) rfl rfl) ?_
  refine aF ?_
  refine aG ?_
  refine aG ?_
  refine aE ?_
  refine tr1 rfl (aC (v := .d (.lit (.int .i64 e7))) (aA rfl) rfl rfl) ?_
  refine tr1 rfl (bC (aA rfl) rfl rfl rfl) ?_
  refine aF ?_
  refine bJ rfl (fun c8 => ?_) (fun c8 => ?_)
  ·have h := aT c8 h
   refine aG ?_
   refine aE ?_
   refine tr1 rfl (aC (v := .d (.lit (.int .i64 e7))) (aA rfl) rfl rfl) ?_
   refine tr1 rfl (aJ (v := rP cK (none : Option cB)) (aA rfl) rfl rfl) ?_
   refine tr1 rfl (aJ (v := .d (.lit (.int .i64 e7))) (aA rfl) rfl rfl) ?_
   refine aF ?_
   have h := Option.some.inj h
   subst h
   exact bM ⟨rfl, _, [], [.box b1 0 (aN l_0)], _, .two (.tmp 6 (v := rP cK (none : Option cB)) rfl) (.tmp 7 (v := .d (.lit (.int .i64 e7))) rfl), .refl _, .same _, 0, undef, rfl, rfl⟩
  ·have h := aS c8 h
   refine bG ?_
   refine aG ?_
   refine aG ?_
   refine aE ?_
   refine tr1 rfl (aC (v := .d (.lit (.int .i64 player_1))) (aA rfl) rfl rfl) ?_
   refine tr1 rfl (aU (aA rfl) rfl iJ) ?_
   refine tr1 rfl (aW (aA rfl) rfl (i := 0) rfl rfl bH) ?_
   refine tr1 rfl (aZ (aA rfl) rfl rfl rfl) ?_
   obtain ⟨r9, h10, h⟩ := bind_some h
   refine tr1 rfl (cC (aA rfl) (.func _ _ Try.call47) rfl rfl (BVs.refl _ _) (fC _ _ _ h10) rfl) ?_
   refine tr1 rfl (eM (aA rfl) rfl) ?_
   refine tr1 rfl (aC (v := .d (.lit (.bool (!r9)))) (aA rfl) rfl rfl) ?_
   obtain ⟨b11, h12, h⟩ := bind_some h
   refine cA 4 [8] 28 b11 ?_ ?_
   ·refine bF (!r9) (fun c14 => ?_) (fun c14 => ?_)
    ·have h12 := aT c14 h12
     refine aR rfl rfl (aA rfl) rfl (aA rfl) rfl c14 ?_
     refine aR rfl rfl (aA rfl) rfl (aA rfl) rfl c14 ?_
     refine aR rfl rfl (aA rfl) rfl (aA rfl) rfl c14 ?_
     refine tr1 rfl (bN (v := .d (.lit (.bool true))) (aA rfl) rfl c14 rfl rfl) ?_
     have h12 := Option.some.inj h12
     subst h12
     refine aF (bB rfl ⟨rfl, trivial⟩ rfl)
    ·have h12 := aS c14 h12
     refine aO rfl rfl (aA rfl) rfl c14 (aC (v := .d (.lit (.int .i64 week_2))) (aA rfl) rfl rfl) ?_
     obtain ⟨r15, h16, h12⟩ := bind_some h12
     refine aO rfl rfl (aA rfl) rfl c14 (cC (aA rfl) (.func _ _ Try.call47) rfl rfl (BVs.refl _ _) (fC _ _ _ h16) rfl) ?_
     refine aO rfl rfl (aA rfl) rfl c14 (eM (aA rfl) rfl) ?_
     refine tr1 rfl (bP (v := .d (.lit (.bool (!r15)))) (aA rfl) rfl c14 rfl rfl) ?_
     have h12 := Option.some.inj h12
     subst h12
     refine aF (bB rfl ⟨rfl, trivial⟩ rfl)
   ·refine aF ?_
    refine bJ rfl (fun c13 => ?_) (fun c13 => ?_)
    ·have h := aT c13 h
     refine aG ?_
     refine aE ?_
     refine tr1 rfl (aJ (v := rP cK (none : Option cB)) (aA rfl) rfl rfl) ?_
     refine tr1 rfl (aJ (v := .d (.lit (.int .i64 1))) (aA rfl) rfl rfl) ?_
     refine aF ?_
     have h := Option.some.inj h
     subst h
     exact bM ⟨rfl, _, [], [.box b1 0 (aN l_0)], _, .two (.tmp 6 (v := rP cK (none : Option cB)) rfl) (.tmp 7 (v := .d (.lit (.int .i64 1))) rfl), .refl _, .same _, 0, undef, rfl, rfl⟩
    ·have h := aS c13 h
     refine bG ?_
     refine aG ?_
     refine aE ?_
     refine tr1 rfl (aC (v := .d (.lit (.pointer none))) (aA rfl) rfl rfl) ?_
     refine tr1 rfl (aJ (v := .d (.lit (.pointer none))) (aA rfl) rfl rfl) ?_
     refine tr1 rfl (aJ (v := .d (.lit (.int .i64 0))) (aA rfl) rfl rfl) ?_
     refine aF ?_
     have h := Option.some.inj h
     subst h
     exact bM ⟨rfl, _, [], [.box b1 0 (aN l_0)], _, .two (.tmp 6 (v := .d (.lit (.pointer none))) rfl) (.tmp 7 (v := .d (.lit (.int .i64 0))) rfl), .refl _, .same _, 0, undef, rfl, rfl⟩
 ·have h := aBq h
  refine gN (aX [0, 1, 2] rfl rfl (le_refl _)) ?_
  refine tr1 rfl (aC (v := .tup [.bp b5 0 0, .d (.lit (.int .i64 e7))]) (aA rfl) rfl rfl) ?_
  refine tr1 rfl (dA (aA rfl) rfl rfl) ?_
  refine tr1 rfl (dA (aA rfl) rfl rfl) ?_
  refine tr1 rfl (aJ (v := .bp b5 0 0) (aA rfl) rfl rfl) ?_
  refine tr1 rfl (aJ (v := .d (.lit (.int .i64 e7))) (aA rfl) rfl rfl) ?_
  refine aF ?_
  refine aG ?_
  refine aG ?_
  refine aE ?_
  refine tr1 rfl (aC (v := .d (.lit (.int .i64 e7))) (aA rfl) rfl rfl) ?_
  refine tr1 rfl (bC (aA rfl) rfl rfl rfl) ?_
  refine aF ?_
  refine bJ rfl (fun c17 => ?_) (fun c17 => ?_)
  ·have h := aT c17 h
   refine aG ?_
   refine aE ?_
   refine tr1 rfl (aC (v := .d (.lit (.int .i64 e7))) (aA rfl) rfl rfl) ?_
   refine tr1 rfl (aJ (v := rP cK (none : Option cB)) (aA rfl) rfl rfl) ?_
   refine tr1 rfl (aJ (v := .d (.lit (.int .i64 e7))) (aA rfl) rfl rfl) ?_
   refine aF ?_
   have h := Option.some.inj h
   subst h
   exact bM ⟨rfl, _, [], [.box b5 0 [.lit (.int .i64 y4.Ledger.Players), .lit (.int .i64 y4.Ledger.Counts), .lit w6, .sl 3 (y4.Ledger.Bans.map aK), .sl 3 (y4.Ledger.Frozen.map aK)], .arr w6 42 5 (y4.Ledger.Reports.map aB), .box b1 0 (aN l_0)], _, .two (.tmp 6 (v := rP cK (none : Option cB)) rfl) (.tmp 7 (v := .d (.lit (.int .i64 e7))) rfl), .refl _, .same _, 0, undef, rfl, rfl⟩
  ·have h := aS c17 h
   refine bG ?_
   refine aG ?_
   refine aG ?_
   refine aE ?_
   refine tr1 rfl (aC (v := .d (.lit (.int .i64 player_1))) (aA rfl) rfl rfl) ?_
   refine tr1 rfl (aU (aA rfl) rfl iJ) ?_
   refine tr1 rfl (aW (aA rfl) rfl (i := 2) rfl rfl bH) ?_
   refine tr1 rfl (aZ (aA rfl) rfl rfl rfl) ?_
   obtain ⟨r18, h19, h⟩ := bind_some h
   refine tr1 rfl (cC (aA rfl) (.func _ _ Try.call47) rfl rfl (BVs.refl _ _) (fC _ _ _ h19) rfl) ?_
   refine tr1 rfl (eM (aA rfl) rfl) ?_
   refine tr1 rfl (aC (v := .d (.lit (.bool (!r18)))) (aA rfl) rfl rfl) ?_
   obtain ⟨b20, h21, h⟩ := bind_some h
   refine cA 4 [8] 28 b20 ?_ ?_
   ·refine bF (!r18) (fun c23 => ?_) (fun c23 => ?_)
    ·have h21 := aT c23 h21
     refine aR rfl rfl (aA rfl) rfl (aA rfl) rfl c23 ?_
     refine aR rfl rfl (aA rfl) rfl (aA rfl) rfl c23 ?_
     refine aR rfl rfl (aA rfl) rfl (aA rfl) rfl c23 ?_
     refine tr1 rfl (bN (v := .d (.lit (.bool true))) (aA rfl) rfl c23 rfl rfl) ?_
     have h21 := Option.some.inj h21
     subst h21
     refine aF (bB rfl ⟨rfl, trivial⟩ rfl)
    ·have h21 := aS c23 h21
     refine aO rfl rfl (aA rfl) rfl c23 (aC (v := .d (.lit (.int .i64 week_2))) (aA rfl) rfl rfl) ?_
     obtain ⟨r24, h25, h21⟩ := bind_some h21
     refine aO rfl rfl (aA rfl) rfl c23 (cC (aA rfl) (.func _ _ Try.call47) rfl rfl (BVs.refl _ _) (fC _ _ _ h25) rfl) ?_
     refine aO rfl rfl (aA rfl) rfl c23 (eM (aA rfl) rfl) ?_
     refine tr1 rfl (bP (v := .d (.lit (.bool (!r24)))) (aA rfl) rfl c23 rfl rfl) ?_
     have h21 := Option.some.inj h21
     subst h21
     refine aF (bB rfl ⟨rfl, trivial⟩ rfl)
   ·refine aF ?_
    refine bJ rfl (fun c22 => ?_) (fun c22 => ?_)
    ·have h := aT c22 h
     refine aG ?_
     refine aE ?_
     refine tr1 rfl (aJ (v := rP cK (none : Option cB)) (aA rfl) rfl rfl) ?_
     refine tr1 rfl (aJ (v := .d (.lit (.int .i64 1))) (aA rfl) rfl rfl) ?_
     refine aF ?_
     have h := Option.some.inj h
     subst h
     exact bM ⟨rfl, _, [], [.box b5 0 [.lit (.int .i64 y4.Ledger.Players), .lit (.int .i64 y4.Ledger.Counts), .lit w6, .sl 3 (y4.Ledger.Bans.map aK), .sl 3 (y4.Ledger.Frozen.map aK)], .arr w6 42 5 (y4.Ledger.Reports.map aB), .box b1 0 (aN l_0)], _, .two (.tmp 6 (v := rP cK (none : Option cB)) rfl) (.tmp 7 (v := .d (.lit (.int .i64 1))) rfl), .refl _, .same _, 0, undef, rfl, rfl⟩
    ·have h := aS c22 h
     refine bG ?_
     refine aG ?_
     refine aE ?_
     refine tr1 rfl (aC (v := .bp b5 0 0) (aA rfl) rfl rfl) ?_
     refine tr1 rfl (aJ (v := .bp b5 0 0) (aA rfl) rfl rfl) ?_
     refine tr1 rfl (aJ (v := .d (.lit (.int .i64 0))) (aA rfl) rfl rfl) ?_
     refine aF ?_
     have h := Option.some.inj h
     subst h
     exact bM ⟨rfl, _, [.box b5 0 [.lit (.int .i64 y4.Ledger.Players), .lit (.int .i64 y4.Ledger.Counts), .lit w6, .sl 3 (y4.Ledger.Bans.map aK), .sl 3 (y4.Ledger.Frozen.map aK)], .arr w6 42 5 (y4.Ledger.Reports.map aB)], [.box b1 0 (aN l_0)], _, .two (.tmp 6 (v := .bp b5 0 0) rfl) (.tmp 7 (v := .d (.lit (.int .i64 0))) rfl), .refl _, .same _, b5, w6, rfl, rfl⟩

theorem vT (b_0 : cB) (r_1 : aD) (week_2 : Int) {r : Int} (h : nQ b_0 r_1 week_2 = some r) : Fn Try.prog 77 [.cp (cK b_0), .agg (aB r_1), .d (.lit (.int .i64 week_2))] (.d (.lit (.int .i64 r))) := by
 unfold nQ at h
 refine Fn.of_tr Try.func77 rfl (rs := [.tmp 6]) Try.results77 Try.ntmps77 (Nat.le_of_ble_eq_true rfl) ?_
 refine aG ?_
 refine aE ?_
 refine bW rfl (eN (v := .agg (aB r_1)) (aA rfl) rfl rfl rfl) ?_
 rintro _ ⟨b1, rfl⟩
 refine tr1 rfl (aJ (v := .d (.lit (.int .i64 0))) (aA rfl) rfl rfl) ?_
 refine aF ?_
 refine aG ?_
 refine aE ?_
 refine tr1 rfl (aC (v := .d (.lit (.int .i64 week_2))) (aA rfl) rfl rfl) ?_
 refine tr1 rfl (aU (aA rfl) rfl lI) ?_
 refine tr1 rfl (aW (aA rfl) rfl (i := 0) rfl rfl bH) ?_
 refine tr1 rfl (aZ (aA rfl) rfl rfl rfl) ?_
 refine tr1 rfl (aJ (v := .d (.lit (.int .i64 ((w64 (week_2 - r_1.Week)))))) (aA rfl) rfl rfl) ?_
 refine aF ?_
 refine aG ?_
 refine aG ?_
 refine aE ?_
 refine tr1 rfl (aC (v := .cp [.lit (.int .i64 b_0.Ledger.Players), .lit (.int .i64 b_0.Ledger.Counts), .sl 5 (b_0.Ledger.Reports.map aB), .sl 3 (b_0.Ledger.Bans.map aK), .sl 3 (b_0.Ledger.Frozen.map aK)]) (aA rfl) rfl rfl) ?_
 refine tr1 rfl (qW (aA rfl) rfl) ?_
 refine tr1 rfl (bZ (aA rfl) rfl jO (es := [.lit (.int .i64 b_0.Ledger.Players), .lit (.int .i64 b_0.Ledger.Counts), .sl 5 (b_0.Ledger.Reports.map aB), .sl 3 (b_0.Ledger.Bans.map aK), .sl 3 (b_0.Ledger.Frozen.map aK)]) rfl) ?_
 refine tr1 rfl (bZ (aA rfl) rfl kG (es := [.sl 3 (b_0.Ledger.Frozen.map aK)]) rfl) ?_
 refine tr1 rfl (bX (aA rfl) rfl jA) ?_
 refine tr1 rfl (cX (aA rfl) rfl eY.of) ?_
 refine tr1 rfl (aC (v := .d (.lit (.int .i64 0))) (aA rfl) rfl rfl) ?_
 refine aF ?_
 refine bQ ?_
 refine cG [2, 4, 18, 19] (fun (s2 : Int × Int) => [(7, .d (.lit (.int .i64 s2.1))), (20, .d (.lit (.int .i64 s2.2)))]) (fun (s2 : Int × Int) => [.box b1 0 (aB r_1)]) (fun (k : Nat) (s2 : Int × Int) => jB week_2 b_0.Ledger.Frozen (b_0.Ledger.Frozen.length : Int) r_1 k s2.1 s2.2) (fun _ => rfl) (w64 (week_2 - r_1.Week), 0) h (aX [0] rfl rfl (aM rfl (aM rfl (aV ⟨rfl, rfl, rfl, rfl, trivial⟩)))) ?_
 rintro k3 ⟨n_0_2, t20_0_2⟩ h
 simp only [jB] at h
 refine aG ?_
 refine aE ?_
 refine tr1 rfl (bC (aA rfl) rfl rfl rfl) ?_
 refine aF ?_
 refine aG ?_
 refine bJ rfl (fun c4 => ?_) (fun c4 => ?_)
 ·have h := aT c4 h
  refine bG ?_
  refine aG ?_
  refine bQ ?_
  refine aG ?_
  refine aE ?_
  obtain ⟨x5, h6, h⟩ := bind_some h
  refine tr1 rfl (bO (aA rfl) rfl rfl eY.of (bI aK h6)) ?_
  refine tr1 rfl (fJ (aA rfl) rfl yA (es := (aK x5)) rfl rfl) ?_
  refine bW rfl (fV (zs := [.lit (.int .i64 0), .lit (.int .i64 0), .lit (.int .i64 0)]) (aA rfl) Try.zeroValue66 rfl rfl) ?_
  rintro _ ⟨b7, rfl⟩
  refine tr1 rfl (cD (i := 1) rfl rfl rfl rfl rfl Try.sizeOf66 rfl (aA rfl) (Nat.le_of_ble_eq_true rfl) (ds' := (aK x5)) rfl) ?_
  refine aF ?_
  refine aG ?_
  refine aE ?_
  refine tr1 rfl (aU (aA rfl) rfl lJ) ?_
  refine tr1 rfl (aW (aA rfl) rfl (i := 1) rfl rfl bH) ?_
  refine tr1 rfl (aU (aA rfl) rfl pA) ?_
  refine tr1 rfl (aW (aA rfl) rfl (i := 0) rfl rfl bH) ?_
  refine tr1 rfl (bC (aA rfl) rfl rfl rfl) ?_
  refine aF ?_
  refine bJ rfl (fun c8 => ?_) (fun c8 => ?_)
  ·have h := aT c8 h
   refine aE ?_
   refine tr1 rfl (aC (v := .d (.lit (.int .i64 n_0_2))) (aA rfl) rfl rfl) ?_
   refine tr1 rfl (aU (aA rfl) rfl mI) ?_
   refine tr1 rfl (aW (aA rfl) rfl (i := 1) rfl rfl bH) ?_
   refine tr1 rfl (aC (v := .d (.lit (.int .i64 week_2))) (aA rfl) rfl rfl) ?_
   refine tr1 rfl (aHc (aA rfl) rfl rfl) ?_
   refine tr1 rfl (aU (aA rfl) rfl kI) ?_
   refine tr1 rfl (aW (aA rfl) rfl (i := 1) rfl rfl bH) ?_
   refine tr1 rfl (aU (aA rfl) rfl lI) ?_
   refine tr1 rfl (aW (aA rfl) rfl (i := 0) rfl rfl bH) ?_
   refine tr1 rfl (aZ (aA rfl) rfl rfl rfl) ?_
   refine tr1 rfl (xJ (aA rfl) rfl rfl) ?_
   refine tr1 rfl (aZ (aA rfl) rfl rfl rfl) ?_
   refine tr1 rfl (aZ (aA rfl) rfl rfl rfl) ?_
   refine tr1 rfl (xJ (aA rfl) rfl rfl) ?_
   refine tr1 rfl (aZ (aA rfl) rfl rfl rfl) ?_
   refine tr1 rfl (aJ (v := .d (.lit (.int .i64 ((w64 (n_0_2 - (max 0 (w64 ((w64 ((min x5.To week_2) - (max x5.From (w64 (r_1.Week + 1))))) + 1))))))))) (aA rfl) rfl rfl) ?_
   refine dG ?_
   refine aE ?_
   refine tr1 rfl (aZ (aA rfl) rfl rfl rfl) ?_
   refine tr1 rfl (aC (v := .d (.lit (.int .i64 ((w64 (t20_0_2 + 1)))))) (aA rfl) rfl rfl) ?_
   refine aF ?_
   exact ⟨(w64 (n_0_2 - (max 0 (w64 ((w64 ((min x5.To week_2) - (max x5.From (w64 (r_1.Week + 1))))) + 1)))), w64 (t20_0_2 + 1)), h, aX [0] rfl rfl (aM rfl (aM rfl (aV ⟨rfl, rfl, rfl, rfl, trivial⟩)))⟩
  ·have h := aS c8 h
   refine dS ?_
   refine aE ?_
   refine tr1 rfl (aZ (aA rfl) rfl rfl rfl) ?_
   refine tr1 rfl (aC (v := .d (.lit (.int .i64 ((w64 (t20_0_2 + 1)))))) (aA rfl) rfl rfl) ?_
   refine aF ?_
   exact ⟨(n_0_2, w64 (t20_0_2 + 1)), h, aX [0] rfl rfl (aM rfl (aM rfl (aV ⟨rfl, rfl, rfl, rfl, trivial⟩)))⟩
 ·have h := aS c4 h
  refine cN ?_
  refine .inl ⟨rfl, ?_⟩
  simp only [rU] at h
  refine aG ?_
  refine aE ?_
  refine tr1 rfl (aC (v := .d (.lit (.int .i64 n_0_2))) (aA rfl) rfl rfl) ?_
  refine tr1 rfl (aJ (v := .d (.lit (.int .i64 n_0_2))) (aA rfl) rfl rfl) ?_
  refine aF ?_
  have h := Option.some.inj h
  subst h
  refine cR (cE (cM (l := [6]) ⟨rfl, trivial⟩)) ?_
  exact bM ⟨rfl, _, .one _, rfl, rfl⟩

theorem aDg (a_0 : bA) (c_1 : Int) (c_2 : Int) {r : Bool} (h : rH a_0 c_1 c_2 = some r) : Fn Try.prog 83 [.agg (aK a_0), .cp [.lit (.int .i64 c_1)], .cp [.lit (.int .i64 c_2)]] (.d (.lit (.bool r))) := by
 unfold rH at h
 refine Fn.of_tr Try.func83 rfl (rs := [.tmp 4]) Try.results83 Try.ntmps83 (Nat.le_of_ble_eq_true rfl) ?_
 refine aG ?_
 refine aE ?_
 refine bW rfl (eN (v := .agg (aK a_0)) (aA rfl) rfl rfl rfl) ?_
 rintro _ ⟨b1, rfl⟩
 refine tr1 rfl (aJ (v := .d (.lit (.bool false))) (aA rfl) rfl rfl) ?_
 refine aF ?_
 refine aG ?_
 refine aE ?_
 refine tr1 rfl (aU (aA rfl) rfl lJ) ?_
 refine tr1 rfl (aW (aA rfl) rfl (i := 0) rfl rfl bH) ?_
 refine tr1 rfl (bX (aA rfl) rfl bH) ?_
 refine tr1 rfl (bC (aA rfl) rfl rfl rfl) ?_
 refine tr1 rfl (aC (v := .d (.lit (.bool ((decide (a_0.Player = c_1)))))) (aA rfl) rfl rfl) ?_
 obtain ⟨b2, h3, h⟩ := bind_some h
 refine cA 7 [] 16 b2 ?_ ?_
 ·refine bF (decide (a_0.Player = c_1)) (fun c4 => ?_) (fun c4 => ?_)
  ·have h3 := aT c4 h3
   refine aO rfl rfl (aA rfl) rfl c4 (bX (aA rfl) rfl bH) ?_
   refine aO rfl rfl (aA rfl) rfl c4 (aU (aA rfl) rfl kI) ?_
   refine aO rfl rfl (aA rfl) rfl c4 (aW (aA rfl) rfl (i := 0) rfl rfl bH) ?_
   refine aO rfl rfl (aA rfl) rfl c4 (aU (aA rfl) rfl mI) ?_
   refine aO rfl rfl (aA rfl) rfl c4 (aW (aA rfl) rfl (i := 0) rfl rfl bH) ?_
   obtain ⟨r5, h6, h3⟩ := bind_some h3
   refine aO rfl rfl (aA rfl) rfl c4 (cC (aA rfl) (.func _ _ Try.call47) rfl rfl (BVs.refl _ _) (fC _ _ _ h6) rfl) ?_
   refine tr1 rfl (bN (v := .d (.lit (.bool r5))) (aA rfl) rfl c4 rfl rfl) ?_
   have h3 := Option.some.inj h3
   subst h3
   refine aF (bB rfl trivial rfl)
  ·have h3 := aS c4 h3
   refine aR rfl rfl (aA rfl) rfl (aA rfl) rfl c4 ?_
   refine aR rfl rfl (aA rfl) rfl (aA rfl) rfl c4 ?_
   refine aR rfl rfl (aA rfl) rfl (aA rfl) rfl c4 ?_
   refine aR rfl rfl (aA rfl) rfl (aA rfl) rfl c4 ?_
   refine aR rfl rfl (aA rfl) rfl (aA rfl) rfl c4 ?_
   refine aR rfl rfl (aA rfl) rfl (aA rfl) rfl c4 ?_
   refine tr1 rfl (bP (v := .d (.lit (.bool false))) (aA rfl) rfl c4 rfl rfl) ?_
   have h3 := Option.some.inj h3
   subst h3
   refine aF (bB rfl trivial rfl)
 ·refine tr1 rfl (aJ (v := .d (.lit (.bool b2))) (aA rfl) rfl rfl) ?_
  refine aF ?_
  have h := Option.some.inj h
  subst h
  refine cR (cE (cM (l := [4]) ⟨rfl, trivial⟩)) ?_
  exact bM ⟨rfl, _, .one _, rfl, rfl⟩

theorem wB (all_0 : List bA) (player_1 : Int) (week_2 : Int) {r : Bool} (h : mU all_0 player_1 week_2 = some r) : Fn Try.prog 48 [.d (.sl 3 (all_0.map aK)), .d (.lit (.int .i64 player_1)), .d (.lit (.int .i64 week_2))] (.d (.lit (.bool r))) := by
 unfold mU at h
 refine Fn.of_tr Try.func48 rfl (rs := [.tmp 6]) Try.results48 Try.ntmps48 (Nat.le_of_ble_eq_true rfl) ?_
 refine aG ?_
 refine aE ?_
 refine bW rfl (eN (v := .d (.lit (.int .i64 player_1))) (aA rfl) rfl rfl rfl) ?_
 rintro _ ⟨b1, rfl⟩
 refine bW rfl (eN (v := .d (.lit (.int .i64 week_2))) (aA rfl) rfl rfl rfl) ?_
 rintro _ ⟨b2, rfl⟩
 refine tr1 rfl (aJ (v := .d (.lit (.bool false))) (aA rfl) rfl rfl) ?_
 refine aF ?_
 refine aG ?_
 refine aE ?_
 refine tr1 rfl (aC (v := .d (.sl 3 (all_0.map aK))) (aA rfl) rfl rfl) ?_
 refine tr1 rfl (yZ (aA rfl) rfl rfl) ?_
 obtain ⟨r4, h5, h⟩ := bind_some h
 refine tr1 rfl (cC (aA rfl) (.func _ _ Try.call82) rfl rfl (.cons (.same _) (.cons ((aDk (.cons ((rM 0 rfl rfl (dvc (.same _) dvn))) (.cons ((rM 1 rfl rfl (dvc (.same _) dvn))) .nil)))) .nil)) (jY _ _ 83 [.cp [.lit (.int .i64 player_1)], .cp [.lit (.int .i64 week_2)]] Try.call83 (fun _ _ h => aDg _ _ _ h) h5) rfl) ?_
 refine tr1 rfl (aJ (v := .d (.lit (.bool r4))) (aA rfl) rfl rfl) ?_
 refine aF ?_
 have h := Option.some.inj h
 subst h
 refine cR (cE (cM (l := [6]) ⟨rfl, trivial⟩)) ?_
 exact bM ⟨rfl, _, .one _, rfl, rfl⟩

theorem uD (b_0 : cB) (player_1 : Int) (week_2 : Int) {r : (List aD)} (h : mE b_0 player_1 week_2 = some r) : Fn Try.prog 72 [.cp (cK b_0), .d (.lit (.int .i64 player_1)), .d (.lit (.int .i64 week_2))] (.d (.sl 5 (r.map aB))) := by
 unfold mE at h
 refine Fn.of_tr Try.func72 rfl (rs := [.tmp 6]) Try.results72 Try.ntmps72 (Nat.le_of_ble_eq_true rfl) ?_
 refine aG ?_
 refine aE ?_
 refine tr1 rfl (qB 5 (aA rfl)) ?_
 refine aF ?_
 refine aG ?_
 refine aE ?_
 refine tr1 rfl (jE 42 5 (.inl rfl) (aA rfl)) ?_
 refine aF ?_
 refine aG ?_
 refine aG ?_
 refine aE ?_
 refine tr1 rfl (aC (v := .cp [.lit (.int .i64 b_0.Ledger.Players), .lit (.int .i64 b_0.Ledger.Counts), .sl 5 (b_0.Ledger.Reports.map aB), .sl 3 (b_0.Ledger.Bans.map aK), .sl 3 (b_0.Ledger.Frozen.map aK)]) (aA rfl) rfl rfl) ?_
 refine tr1 rfl (qW (aA rfl) rfl) ?_
 refine tr1 rfl (bZ (aA rfl) rfl jO (es := [.lit (.int .i64 b_0.Ledger.Players), .lit (.int .i64 b_0.Ledger.Counts), .sl 5 (b_0.Ledger.Reports.map aB), .sl 3 (b_0.Ledger.Bans.map aK), .sl 3 (b_0.Ledger.Frozen.map aK)]) rfl) ?_
 refine tr1 rfl (bZ (aA rfl) rfl eH (es := [.sl 5 (b_0.Ledger.Reports.map aB)]) rfl) ?_
 refine tr1 rfl (bX (aA rfl) rfl iZ) ?_
 refine tr1 rfl (cX (aA rfl) rfl bR.of) ?_
 refine tr1 rfl (aC (v := .d (.lit (.int .i64 0))) (aA rfl) rfl rfl) ?_
 refine aF ?_
 refine bQ ?_
 refine cG [0, 1, 2, 14, 15] (fun (s2 : Int × (List aD) × Value) => [(7, .d (.lit s2.2.2)), (16, .d (.lit (.int .i64 s2.1)))]) (fun (s2 : Int × (List aD) × Value) => [.arr s2.2.2 42 5 (s2.2.1.map aB)]) (fun (k : Nat) (s2 : Int × (List aD) × Value) => hT b_0 player_1 week_2 b_0.Ledger.Reports (b_0.Ledger.Reports.length : Int) k s2.1 s2.2.1) (fun _ => rfl) (0, ([] : List aD), (.slice none 0 0)) h (aX [0] rfl rfl (aM rfl (aM rfl (aV ⟨rfl, rfl, rfl, rfl, rfl, trivial⟩)))) ?_
 rintro k4 ⟨t16_0_2, out_0_2, w3⟩ h
 simp only [hT] at h
 refine aG ?_
 refine aE ?_
 refine tr1 rfl (bC (aA rfl) rfl rfl rfl) ?_
 refine aF ?_
 refine aG ?_
 refine bJ rfl (fun c5 => ?_) (fun c5 => ?_)
 ·have h := aT c5 h
  refine bG ?_
  refine aG ?_
  refine bQ ?_
  refine aG ?_
  refine aE ?_
  obtain ⟨x6, h7, h⟩ := bind_some h
  refine tr1 rfl (bO (aA rfl) rfl rfl bR.of (bI aB h7)) ?_
  refine tr1 rfl (fJ (aA rfl) rfl dY (es := (aB x6)) rfl rfl) ?_
  refine bW rfl (fV (zs := [.lit (.int .i64 0), .lit (.int .i64 0), .lit (.int .i64 0), .lit (.int .i64 0), .lit (.bool false)]) (aA rfl) Try.zeroValue42 rfl rfl) ?_
  rintro _ ⟨b8, rfl⟩
  refine tr1 rfl (cD (i := 1) rfl rfl rfl rfl rfl Try.sizeOf42 rfl (aA rfl) (Nat.le_of_ble_eq_true rfl) (ds' := (aB x6)) rfl) ?_
  refine aF ?_
  refine aG ?_
  obtain ⟨b9, h10, h⟩ := bind_some h
  obtain ⟨b12, h13, h⟩ := bind_some h
  obtain ⟨b17, h18, h⟩ := bind_some h
  refine fN mix 29 [0, 1, 2, 7, 9, 14, 15, 16] [(48, .d (.lit (.bool b17)))] ?_ ?_
  ·refine bF (decide (x6.Player = player_1)) (fun c11 => ?_) (fun c11 => ?_)
   ·have h10 := aT c11 h10
    have h10 := Option.some.inj h10
    subst h10
    refine bF (decide (x6.Week ≤ week_2)) (fun c14 => ?_) (fun c14 => ?_)
    ·have h13 := aT c14 h13
     obtain ⟨r15, h16, h13⟩ := bind_some h13
     have h13 := Option.some.inj h13
     subst h13
     refine bF (decide (r15 < 52)) (fun c19 => ?_) (fun c19 => ?_)
     ·have h18 := aT c19 h18
      obtain ⟨r20, h21, h18⟩ := bind_some h18
      have h18 := Option.some.inj h18
      subst h18
      refine ⟨[(20, 0, .bp b8 0 1), (21, 1, .d (.lit (.int .i64 x6.Player))), (22, 2, .d (.lit (.int .i64 player_1))), (23, 3, .d (.lit (.bool ((decide (x6.Player = player_1)))))), (24, 4, .d (.lit (.bool ((decide (x6.Player = player_1)))))), (25, 5, .bp b8 0 2), (26, 6, .d (.lit (.int .i64 x6.Week))), (27, 7, .d (.lit (.int .i64 week_2))), (28, 8, .d (.lit (.bool ((decide (x6.Week ≤ week_2)))))), (29, 9, .d (.lit (.bool ((decide (x6.Week ≤ week_2)))))), (30, 10, .d (.lit (.bool (decide (x6.Week ≤ week_2))))), (31, 11, .cp [.lit (.int .i64 b_0.Ledger.Players), .lit (.int .i64 b_0.Ledger.Counts), .sl 5 (b_0.Ledger.Reports.map aB), .sl 3 (b_0.Ledger.Bans.map aK), .sl 3 (b_0.Ledger.Frozen.map aK)]), (32, 12, .agg (aB x6)), (33, 13, .d (.lit (.int .i64 week_2))), (34, 14, .d (.lit (.int .i64 r15))), (35, 15, .d (.lit (.bool ((decide (r15 < 52)))))), (36, 16, .d (.lit (.bool ((decide (r15 < 52)))))), (37, 17, .d (.lit (.bool (decide (r15 < 52))))), (38, 18, .cp [.lit (.int .i64 b_0.Ledger.Players), .lit (.int .i64 b_0.Ledger.Counts), .sl 5 (b_0.Ledger.Reports.map aB), .sl 3 (b_0.Ledger.Bans.map aK), .sl 3 (b_0.Ledger.Frozen.map aK)]), (39, 19, .cp [.lit (.int .i64 b_0.Ledger.Players), .lit (.int .i64 b_0.Ledger.Counts), .sl 5 (b_0.Ledger.Reports.map aB), .sl 3 (b_0.Ledger.Bans.map aK), .sl 3 (b_0.Ledger.Frozen.map aK)]), (40, 20, .cp [.lit (.int .i64 b_0.Ledger.Players), .lit (.int .i64 b_0.Ledger.Counts), .sl 5 (b_0.Ledger.Reports.map aB), .sl 3 (b_0.Ledger.Bans.map aK), .sl 3 (b_0.Ledger.Frozen.map aK)]), (41, 21, .cp [.sl 3 (b_0.Ledger.Bans.map aK)]), (42, 22, .d (.sl 3 (b_0.Ledger.Bans.map aK))), (43, 23, .d (.lit (.int .i64 player_1))), (44, 24, .bp b8 0 2), (45, 25, .d (.lit (.int .i64 x6.Week))), (46, 26, .d (.lit (.bool r20))), (47, 27, .d (.lit (.bool (!r20)))), (48, 28, .d (.lit (.bool (!r20))))], ?_, ?_⟩
      · exact ⟨by kernel_rfl, by kernel_rfl, by kernel_rfl, by kernel_rfl, by kernel_rfl, [([], []), ([0], []), ([], []), ([1, 2], []), ([3], []), ([4], []), ([4, 5], []), ([4], []), ([4, 6, 7], []), ([4, 8], []), ([9], []), ([10], []), ([10], []), ([10], []), ([10, 11, 12, 13], []), ([10, 14], []), ([10, 15], []), ([16], []), ([17], []), ([17, 18], []), ([17, 19], []), ([17, 20], []), ([17, 21], []), ([17], []), ([17], []), ([17, 24], []), ([17, 22, 23, 25], []), ([17, 26], []), ([17, 27], [])], by kernel_rfl, ⟨fun S hS => aI rfl (aQ rfl (aU (aA rfl) (aH hS rfl) pA)),
      fun S hS => aI rfl (aQ rfl (aW (aA rfl) (aH hS rfl) (i := 1) rfl rfl bH)),
      fun S hS => aI rfl (aQ rfl (aC (v := .d (.lit (.int .i64 player_1))) (aA rfl) (aH hS rfl) rfl)),
      fun S hS => aI rfl (aQ rfl (bC (aA rfl) (aH hS rfl) (aH hS rfl) rfl)),
      fun S hS => aI rfl (aQ rfl (aC (v := .d (.lit (.bool ((decide (x6.Player = player_1)))))) (aA rfl) (aH hS rfl) rfl)),
      fun S hS => aI rfl (aY rfl rfl (aA rfl) (aP hS rfl) c11 (aU (aA rfl) (aH hS rfl) lI)),
      fun S hS => aI rfl (aY rfl rfl (aA rfl) (aP hS rfl) c11 (aW (aA rfl) (aH hS rfl) (i := 1) rfl rfl bH)),
      fun S hS => aI rfl (aY rfl rfl (aA rfl) (aP hS rfl) c11 (aC (v := .d (.lit (.int .i64 week_2))) (aA rfl) (aH hS rfl) rfl)),
      fun S hS => aI rfl (aY rfl rfl (aA rfl) (aP hS rfl) c11 (bC (aA rfl) (aH hS rfl) (aH hS rfl) rfl)),
      fun S hS => aI rfl (aQ rfl (bN (v := .d (.lit (.bool ((decide (x6.Week ≤ week_2)))))) (aA rfl) (aH hS rfl) c11 (aH hS rfl) rfl)),
      fun S hS => aI rfl (aQ rfl (aC (v := .d (.lit (.bool (decide (x6.Week ≤ week_2))))) (aA rfl) (aH hS rfl) rfl)),
      fun S hS => aI rfl (aY rfl rfl (aA rfl) (aP hS rfl) c14 (aC (v := .cp [.lit (.int .i64 b_0.Ledger.Players), .lit (.int .i64 b_0.Ledger.Counts), .sl 5 (b_0.Ledger.Reports.map aB), .sl 3 (b_0.Ledger.Bans.map aK), .sl 3 (b_0.Ledger.Frozen.map aK)]) (aA rfl) (aH hS rfl) rfl)),
      fun S hS => aI rfl (aY rfl rfl (aA rfl) (aP hS rfl) c14 (cH (aA rfl) (aH hS rfl) (i := 1) rfl dY (es := (aB x6)) rfl rfl)),
      fun S hS => aI rfl (aY rfl rfl (aA rfl) (aP hS rfl) c14 (aC (v := .d (.lit (.int .i64 week_2))) (aA rfl) (aH hS rfl) rfl)),
      fun S hS => aI rfl (aY rfl rfl (aA rfl) (aP hS rfl) c14 (cC (aA rfl) (.func _ _ Try.call77) (ev2 (aH hS rfl) (ev2 (aH hS rfl) (ev2 (aH hS rfl) evn))) rfl (BVs.refl _ _) (vT _ _ _ h16) rfl)),
      fun S hS => aI rfl (aY rfl rfl (aA rfl) (aP hS rfl) c14 (bC (aA rfl) (aH hS rfl) rfl rfl)),
      fun S hS => aI rfl (aQ rfl (bN (v := .d (.lit (.bool ((decide (r15 < 52)))))) (aA rfl) (aH hS rfl) c14 (aH hS rfl) rfl)),
      fun S hS => aI rfl (aQ rfl (aC (v := .d (.lit (.bool (decide (r15 < 52))))) (aA rfl) (aH hS rfl) rfl)),
      fun S hS => aI rfl (aY rfl rfl (aA rfl) (aP hS rfl) c19 (aC (v := .cp [.lit (.int .i64 b_0.Ledger.Players), .lit (.int .i64 b_0.Ledger.Counts), .sl 5 (b_0.Ledger.Reports.map aB), .sl 3 (b_0.Ledger.Bans.map aK), .sl 3 (b_0.Ledger.Frozen.map aK)]) (aA rfl) (aH hS rfl) rfl)),
      fun S hS => aI rfl (aY rfl rfl (aA rfl) (aP hS rfl) c19 (qW (aA rfl) (aH hS rfl))),
      fun S hS => aI rfl (aY rfl rfl (aA rfl) (aP hS rfl) c19 (bZ (aA rfl) (aH hS rfl) jO (es := [.lit (.int .i64 b_0.Ledger.Players), .lit (.int .i64 b_0.Ledger.Counts), .sl 5 (b_0.Ledger.Reports.map aB), .sl 3 (b_0.Ledger.Bans.map aK), .sl 3 (b_0.Ledger.Frozen.map aK)]) rfl)),
      fun S hS => aI rfl (aY rfl rfl (aA rfl) (aP hS rfl) c19 (bZ (aA rfl) (aH hS rfl) lH (es := [.sl 3 (b_0.Ledger.Bans.map aK)]) rfl)),
      fun S hS => aI rfl (aY rfl rfl (aA rfl) (aP hS rfl) c19 (bX (aA rfl) (aH hS rfl) jA)),
      fun S hS => aI rfl (aY rfl rfl (aA rfl) (aP hS rfl) c19 (aC (v := .d (.lit (.int .i64 player_1))) (aA rfl) (aH hS rfl) rfl)),
      fun S hS => aI rfl (aY rfl rfl (aA rfl) (aP hS rfl) c19 (aU (aA rfl) (aH hS rfl) lI)),
      fun S hS => aI rfl (aY rfl rfl (aA rfl) (aP hS rfl) c19 (aW (aA rfl) (aH hS rfl) (i := 1) rfl rfl bH)),
      fun S hS => aI rfl (aY rfl rfl (aA rfl) (aP hS rfl) c19 (cC (aA rfl) (.func _ _ Try.call48) (ev2 (aH hS rfl) (ev2 (aH hS rfl) (ev2 (aH hS rfl) evn))) rfl (BVs.refl _ _) (wB _ _ _ h21) rfl)),
      fun S hS => aI rfl (aY rfl rfl (aA rfl) (aP hS rfl) c19 (eM (aA rfl) (aH hS rfl))),
      fun S hS => aI rfl (aQ rfl (bN (v := .d (.lit (.bool (!r20)))) (aA rfl) (aH hS rfl) c19 (aH hS rfl) rfl)), trivial⟩⟩
      · exact dI (aM rfl (aV ⟨rfl, rfl, rfl, rfl, rfl, rfl, rfl, rfl, trivial⟩))
     ·have h18 := aS c19 h18
      have h18 := Option.some.inj h18
      subst h18
      refine ⟨[(20, 0, .bp b8 0 1), (21, 1, .d (.lit (.int .i64 x6.Player))), (22, 2, .d (.lit (.int .i64 player_1))), (23, 3, .d (.lit (.bool ((decide (x6.Player = player_1)))))), (24, 4, .d (.lit (.bool ((decide (x6.Player = player_1)))))), (25, 5, .bp b8 0 2), (26, 6, .d (.lit (.int .i64 x6.Week))), (27, 7, .d (.lit (.int .i64 week_2))), (28, 8, .d (.lit (.bool ((decide (x6.Week ≤ week_2)))))), (29, 9, .d (.lit (.bool ((decide (x6.Week ≤ week_2)))))), (30, 10, .d (.lit (.bool (decide (x6.Week ≤ week_2))))), (31, 11, .cp [.lit (.int .i64 b_0.Ledger.Players), .lit (.int .i64 b_0.Ledger.Counts), .sl 5 (b_0.Ledger.Reports.map aB), .sl 3 (b_0.Ledger.Bans.map aK), .sl 3 (b_0.Ledger.Frozen.map aK)]), (32, 12, .agg (aB x6)), (33, 13, .d (.lit (.int .i64 week_2))), (34, 14, .d (.lit (.int .i64 r15))), (35, 15, .d (.lit (.bool ((decide (r15 < 52)))))), (36, 16, .d (.lit (.bool ((decide (r15 < 52)))))), (37, 17, .d (.lit (.bool (decide (r15 < 52))))), (38, 18, .tup []), (39, 19, .tup []), (40, 20, .tup []), (41, 21, .tup []), (42, 22, .tup []), (43, 23, .tup []), (44, 24, .tup []), (45, 25, .tup []), (46, 26, .tup []), (47, 27, .tup []), (48, 28, .d (.lit (.bool false)))], ?_, ?_⟩
      · exact ⟨by kernel_rfl, by kernel_rfl, by kernel_rfl, by kernel_rfl, by kernel_rfl, [([], []), ([0], []), ([], []), ([1, 2], []), ([3], []), ([4], []), ([4, 5], []), ([4], []), ([4, 6, 7], []), ([4, 8], []), ([9], []), ([10], []), ([10], []), ([10], []), ([10, 11, 12, 13], []), ([10, 14], []), ([10, 15], []), ([16], []), ([17], []), ([17, 18], []), ([17, 19], []), ([17, 20], []), ([17, 21], []), ([17], []), ([17], []), ([17, 24], []), ([17, 22, 23, 25], []), ([17, 26], []), ([17, 27], [])], by kernel_rfl, ⟨fun S hS => aI rfl (aQ rfl (aU (aA rfl) (aH hS rfl) pA)),
      fun S hS => aI rfl (aQ rfl (aW (aA rfl) (aH hS rfl) (i := 1) rfl rfl bH)),
      fun S hS => aI rfl (aQ rfl (aC (v := .d (.lit (.int .i64 player_1))) (aA rfl) (aH hS rfl) rfl)),
      fun S hS => aI rfl (aQ rfl (bC (aA rfl) (aH hS rfl) (aH hS rfl) rfl)),
      fun S hS => aI rfl (aQ rfl (aC (v := .d (.lit (.bool ((decide (x6.Player = player_1)))))) (aA rfl) (aH hS rfl) rfl)),
      fun S hS => aI rfl (aY rfl rfl (aA rfl) (aP hS rfl) c11 (aU (aA rfl) (aH hS rfl) lI)),
      fun S hS => aI rfl (aY rfl rfl (aA rfl) (aP hS rfl) c11 (aW (aA rfl) (aH hS rfl) (i := 1) rfl rfl bH)),
      fun S hS => aI rfl (aY rfl rfl (aA rfl) (aP hS rfl) c11 (aC (v := .d (.lit (.int .i64 week_2))) (aA rfl) (aH hS rfl) rfl)),
      fun S hS => aI rfl (aY rfl rfl (aA rfl) (aP hS rfl) c11 (bC (aA rfl) (aH hS rfl) (aH hS rfl) rfl)),
      fun S hS => aI rfl (aQ rfl (bN (v := .d (.lit (.bool ((decide (x6.Week ≤ week_2)))))) (aA rfl) (aH hS rfl) c11 (aH hS rfl) rfl)),
      fun S hS => aI rfl (aQ rfl (aC (v := .d (.lit (.bool (decide (x6.Week ≤ week_2))))) (aA rfl) (aH hS rfl) rfl)),
      fun S hS => aI rfl (aY rfl rfl (aA rfl) (aP hS rfl) c14 (aC (v := .cp [.lit (.int .i64 b_0.Ledger.Players), .lit (.int .i64 b_0.Ledger.Counts), .sl 5 (b_0.Ledger.Reports.map aB), .sl 3 (b_0.Ledger.Bans.map aK), .sl 3 (b_0.Ledger.Frozen.map aK)]) (aA rfl) (aH hS rfl) rfl)),
      fun S hS => aI rfl (aY rfl rfl (aA rfl) (aP hS rfl) c14 (cH (aA rfl) (aH hS rfl) (i := 1) rfl dY (es := (aB x6)) rfl rfl)),
      fun S hS => aI rfl (aY rfl rfl (aA rfl) (aP hS rfl) c14 (aC (v := .d (.lit (.int .i64 week_2))) (aA rfl) (aH hS rfl) rfl)),
      fun S hS => aI rfl (aY rfl rfl (aA rfl) (aP hS rfl) c14 (cC (aA rfl) (.func _ _ Try.call77) (ev2 (aH hS rfl) (ev2 (aH hS rfl) (ev2 (aH hS rfl) evn))) rfl (BVs.refl _ _) (vT _ _ _ h16) rfl)),
      fun S hS => aI rfl (aY rfl rfl (aA rfl) (aP hS rfl) c14 (bC (aA rfl) (aH hS rfl) rfl rfl)),
      fun S hS => aI rfl (aQ rfl (bN (v := .d (.lit (.bool ((decide (r15 < 52)))))) (aA rfl) (aH hS rfl) c14 (aH hS rfl) rfl)),
      fun S hS => aI rfl (aQ rfl (aC (v := .d (.lit (.bool (decide (r15 < 52))))) (aA rfl) (aH hS rfl) rfl)),
      fun S hS => aI rfl (bD rfl rfl (aA rfl) rfl (aA rfl) (aP hS rfl) c19),
      fun S hS => aI rfl (bD rfl rfl (aA rfl) rfl (aA rfl) (aP hS rfl) c19),
      fun S hS => aI rfl (bD rfl rfl (aA rfl) rfl (aA rfl) (aP hS rfl) c19),
      fun S hS => aI rfl (bD rfl rfl (aA rfl) rfl (aA rfl) (aP hS rfl) c19),
      fun S hS => aI rfl (bD rfl rfl (aA rfl) rfl (aA rfl) (aP hS rfl) c19),
      fun S hS => aI rfl (bD rfl rfl (aA rfl) rfl (aA rfl) (aP hS rfl) c19),
      fun S hS => aI rfl (bD rfl rfl (aA rfl) rfl (aA rfl) (aP hS rfl) c19),
      fun S hS => aI rfl (bD rfl rfl (aA rfl) rfl (aA rfl) (aP hS rfl) c19),
      fun S hS => aI rfl (bD rfl rfl (aA rfl) rfl (aA rfl) (aP hS rfl) c19),
      fun S hS => aI rfl (bD rfl rfl (aA rfl) rfl (aA rfl) (aP hS rfl) c19),
      fun S hS => aI rfl (aQ rfl (bP (v := .d (.lit (.bool false))) (aA rfl) (aH hS rfl) c19 rfl rfl)), trivial⟩⟩
      · exact dI (aM rfl (aV ⟨rfl, rfl, rfl, rfl, rfl, rfl, rfl, rfl, trivial⟩))
    ·have h13 := aS c14 h13
     have h13 := Option.some.inj h13
     subst h13
     have c19 : false = false := rfl
     have h18 := aS c19 h18
     have h18 := Option.some.inj h18
     subst h18
     refine ⟨[(20, 0, .bp b8 0 1), (21, 1, .d (.lit (.int .i64 x6.Player))), (22, 2, .d (.lit (.int .i64 player_1))), (23, 3, .d (.lit (.bool ((decide (x6.Player = player_1)))))), (24, 4, .d (.lit (.bool ((decide (x6.Player = player_1)))))), (25, 5, .bp b8 0 2), (26, 6, .d (.lit (.int .i64 x6.Week))), (27, 7, .d (.lit (.int .i64 week_2))), (28, 8, .d (.lit (.bool ((decide (x6.Week ≤ week_2)))))), (29, 9, .d (.lit (.bool ((decide (x6.Week ≤ week_2)))))), (30, 10, .d (.lit (.bool (decide (x6.Week ≤ week_2))))), (31, 11, .tup []), (32, 12, .tup []), (33, 13, .tup []), (34, 14, .tup []), (35, 15, .tup []), (36, 16, .d (.lit (.bool false))), (37, 17, .d (.lit (.bool (false)))), (38, 18, .tup []), (39, 19, .tup []), (40, 20, .tup []), (41, 21, .tup []), (42, 22, .tup []), (43, 23, .tup []), (44, 24, .tup []), (45, 25, .tup []), (46, 26, .tup []), (47, 27, .tup []), (48, 28, .d (.lit (.bool false)))], ?_, ?_⟩
     · exact ⟨by kernel_rfl, by kernel_rfl, by kernel_rfl, by kernel_rfl, by kernel_rfl, [([], []), ([0], []), ([], []), ([1, 2], []), ([3], []), ([4], []), ([4, 5], []), ([4], []), ([4, 6, 7], []), ([4, 8], []), ([9], []), ([10], []), ([10], []), ([10], []), ([10, 11, 12, 13], []), ([10, 14], []), ([10, 15], []), ([16], []), ([17], []), ([17, 18], []), ([17, 19], []), ([17, 20], []), ([17, 21], []), ([17], []), ([17], []), ([17, 24], []), ([17, 22, 23, 25], []), ([17, 26], []), ([17, 27], [])], by kernel_rfl, ⟨fun S hS => aI rfl (aQ rfl (aU (aA rfl) (aH hS rfl) pA)),
      fun S hS => aI rfl (aQ rfl (aW (aA rfl) (aH hS rfl) (i := 1) rfl rfl bH)),
      fun S hS => aI rfl (aQ rfl (aC (v := .d (.lit (.int .i64 player_1))) (aA rfl) (aH hS rfl) rfl)),
      fun S hS => aI rfl (aQ rfl (bC (aA rfl) (aH hS rfl) (aH hS rfl) rfl)),
      fun S hS => aI rfl (aQ rfl (aC (v := .d (.lit (.bool ((decide (x6.Player = player_1)))))) (aA rfl) (aH hS rfl) rfl)),
      fun S hS => aI rfl (aY rfl rfl (aA rfl) (aP hS rfl) c11 (aU (aA rfl) (aH hS rfl) lI)),
      fun S hS => aI rfl (aY rfl rfl (aA rfl) (aP hS rfl) c11 (aW (aA rfl) (aH hS rfl) (i := 1) rfl rfl bH)),
      fun S hS => aI rfl (aY rfl rfl (aA rfl) (aP hS rfl) c11 (aC (v := .d (.lit (.int .i64 week_2))) (aA rfl) (aH hS rfl) rfl)),
      fun S hS => aI rfl (aY rfl rfl (aA rfl) (aP hS rfl) c11 (bC (aA rfl) (aH hS rfl) (aH hS rfl) rfl)),
      fun S hS => aI rfl (aQ rfl (bN (v := .d (.lit (.bool ((decide (x6.Week ≤ week_2)))))) (aA rfl) (aH hS rfl) c11 (aH hS rfl) rfl)),
      fun S hS => aI rfl (aQ rfl (aC (v := .d (.lit (.bool (decide (x6.Week ≤ week_2))))) (aA rfl) (aH hS rfl) rfl)),
      fun S hS => aI rfl (bD rfl rfl (aA rfl) rfl (aA rfl) (aP hS rfl) c14),
      fun S hS => aI rfl (bD rfl rfl (aA rfl) rfl (aA rfl) (aP hS rfl) c14),
      fun S hS => aI rfl (bD rfl rfl (aA rfl) rfl (aA rfl) (aP hS rfl) c14),
      fun S hS => aI rfl (bD rfl rfl (aA rfl) rfl (aA rfl) (aP hS rfl) c14),
      fun S hS => aI rfl (bD rfl rfl (aA rfl) rfl (aA rfl) (aP hS rfl) c14),
      fun S hS => aI rfl (aQ rfl (bP (v := .d (.lit (.bool false))) (aA rfl) (aH hS rfl) c14 rfl rfl)),
      fun S hS => aI rfl (aQ rfl (aC (v := .d (.lit (.bool (false)))) (aA rfl) (aH hS rfl) rfl)),
      fun S hS => aI rfl (bD rfl rfl (aA rfl) rfl (aA rfl) (aP hS rfl) c19),
      fun S hS => aI rfl (bD rfl rfl (aA rfl) rfl (aA rfl) (aP hS rfl) c19),
      fun S hS => aI rfl (bD rfl rfl (aA rfl) rfl (aA rfl) (aP hS rfl) c19),
      fun S hS => aI rfl (bD rfl rfl (aA rfl) rfl (aA rfl) (aP hS rfl) c19),
      fun S hS => aI rfl (bD rfl rfl (aA rfl) rfl (aA rfl) (aP hS rfl) c19),
      fun S hS => aI rfl (bD rfl rfl (aA rfl) rfl (aA rfl) (aP hS rfl) c19),
      fun S hS => aI rfl (bD rfl rfl (aA rfl) rfl (aA rfl) (aP hS rfl) c19),
      fun S hS => aI rfl (bD rfl rfl (aA rfl) rfl (aA rfl) (aP hS rfl) c19),
      fun S hS => aI rfl (bD rfl rfl (aA rfl) rfl (aA rfl) (aP hS rfl) c19),
      fun S hS => aI rfl (bD rfl rfl (aA rfl) rfl (aA rfl) (aP hS rfl) c19),
      fun S hS => aI rfl (aQ rfl (bP (v := .d (.lit (.bool false))) (aA rfl) (aH hS rfl) c19 rfl rfl)), trivial⟩⟩
     · exact dI (aM rfl (aV ⟨rfl, rfl, rfl, rfl, rfl, rfl, rfl, rfl, trivial⟩))
   ·have h10 := aS c11 h10
    have h10 := Option.some.inj h10
    subst h10
    have c14 : false = false := rfl
    have h13 := aS c14 h13
    have h13 := Option.some.inj h13
    subst h13
    have c19 : false = false := rfl
    have h18 := aS c19 h18
    have h18 := Option.some.inj h18
    subst h18
    refine ⟨[(20, 0, .bp b8 0 1), (21, 1, .d (.lit (.int .i64 x6.Player))), (22, 2, .d (.lit (.int .i64 player_1))), (23, 3, .d (.lit (.bool ((decide (x6.Player = player_1)))))), (24, 4, .d (.lit (.bool ((decide (x6.Player = player_1)))))), (25, 5, .tup []), (26, 6, .tup []), (27, 7, .tup []), (28, 8, .tup []), (29, 9, .d (.lit (.bool false))), (30, 10, .d (.lit (.bool (false)))), (31, 11, .tup []), (32, 12, .tup []), (33, 13, .tup []), (34, 14, .tup []), (35, 15, .tup []), (36, 16, .d (.lit (.bool false))), (37, 17, .d (.lit (.bool (false)))), (38, 18, .tup []), (39, 19, .tup []), (40, 20, .tup []), (41, 21, .tup []), (42, 22, .tup []), (43, 23, .tup []), (44, 24, .tup []), (45, 25, .tup []), (46, 26, .tup []), (47, 27, .tup []), (48, 28, .d (.lit (.bool false)))], ?_, ?_⟩
    · exact ⟨by kernel_rfl, by kernel_rfl, by kernel_rfl, by kernel_rfl, by kernel_rfl, [([], []), ([0], []), ([], []), ([1, 2], []), ([3], []), ([4], []), ([4, 5], []), ([4], []), ([4, 6, 7], []), ([4, 8], []), ([9], []), ([10], []), ([10], []), ([10], []), ([10, 11, 12, 13], []), ([10, 14], []), ([10, 15], []), ([16], []), ([17], []), ([17, 18], []), ([17, 19], []), ([17, 20], []), ([17, 21], []), ([17], []), ([17], []), ([17, 24], []), ([17, 22, 23, 25], []), ([17, 26], []), ([17, 27], [])], by kernel_rfl, ⟨fun S hS => aI rfl (aQ rfl (aU (aA rfl) (aH hS rfl) pA)),
      fun S hS => aI rfl (aQ rfl (aW (aA rfl) (aH hS rfl) (i := 1) rfl rfl bH)),
      fun S hS => aI rfl (aQ rfl (aC (v := .d (.lit (.int .i64 player_1))) (aA rfl) (aH hS rfl) rfl)),
      fun S hS => aI rfl (aQ rfl (bC (aA rfl) (aH hS rfl) (aH hS rfl) rfl)),
      fun S hS => aI rfl (aQ rfl (aC (v := .d (.lit (.bool ((decide (x6.Player = player_1)))))) (aA rfl) (aH hS rfl) rfl)),
      fun S hS => aI rfl (bD rfl rfl (aA rfl) rfl (aA rfl) (aP hS rfl) c11),
      fun S hS => aI rfl (bD rfl rfl (aA rfl) rfl (aA rfl) (aP hS rfl) c11),
      fun S hS => aI rfl (bD rfl rfl (aA rfl) rfl (aA rfl) (aP hS rfl) c11),
      fun S hS => aI rfl (bD rfl rfl (aA rfl) rfl (aA rfl) (aP hS rfl) c11),
      fun S hS => aI rfl (aQ rfl (bP (v := .d (.lit (.bool false))) (aA rfl) (aH hS rfl) c11 rfl rfl)),
      fun S hS => aI rfl (aQ rfl (aC (v := .d (.lit (.bool (false)))) (aA rfl) (aH hS rfl) rfl)),
      fun S hS => aI rfl (bD rfl rfl (aA rfl) rfl (aA rfl) (aP hS rfl) c14),
      fun S hS => aI rfl (bD rfl rfl (aA rfl) rfl (aA rfl) (aP hS rfl) c14),
      fun S hS => aI rfl (bD rfl rfl (aA rfl) rfl (aA rfl) (aP hS rfl) c14),
      fun S hS => aI rfl (bD rfl rfl (aA rfl) rfl (aA rfl) (aP hS rfl) c14),
      fun S hS => aI rfl (bD rfl rfl (aA rfl) rfl (aA rfl) (aP hS rfl) c14),
      fun S hS => aI rfl (aQ rfl (bP (v := .d (.lit (.bool false))) (aA rfl) (aH hS rfl) c14 rfl rfl)),
      fun S hS => aI rfl (aQ rfl (aC (v := .d (.lit (.bool (false)))) (aA rfl) (aH hS rfl) rfl)),
      fun S hS => aI rfl (bD rfl rfl (aA rfl) rfl (aA rfl) (aP hS rfl) c19),
      fun S hS => aI rfl (bD rfl rfl (aA rfl) rfl (aA rfl) (aP hS rfl) c19),
      fun S hS => aI rfl (bD rfl rfl (aA rfl) rfl (aA rfl) (aP hS rfl) c19),
      fun S hS => aI rfl (bD rfl rfl (aA rfl) rfl (aA rfl) (aP hS rfl) c19),
      fun S hS => aI rfl (bD rfl rfl (aA rfl) rfl (aA rfl) (aP hS rfl) c19),
      fun S hS => aI rfl (bD rfl rfl (aA rfl) rfl (aA rfl) (aP hS rfl) c19),
      fun S hS => aI rfl (bD rfl rfl (aA rfl) rfl (aA rfl) (aP hS rfl) c19),
      fun S hS => aI rfl (bD rfl rfl (aA rfl) rfl (aA rfl) (aP hS rfl) c19),
      fun S hS => aI rfl (bD rfl rfl (aA rfl) rfl (aA rfl) (aP hS rfl) c19),
      fun S hS => aI rfl (bD rfl rfl (aA rfl) rfl (aA rfl) (aP hS rfl) c19),
      fun S hS => aI rfl (aQ rfl (bP (v := .d (.lit (.bool false))) (aA rfl) (aH hS rfl) c19 rfl rfl)), trivial⟩⟩
    · exact dI (aM rfl (aV ⟨rfl, rfl, rfl, rfl, rfl, rfl, rfl, rfl, trivial⟩))
  ·refine aF ?_
   refine bJ rfl (fun c22 => ?_) (fun c22 => ?_)
   ·have h := aT c22 h
    refine aE ?_
    refine tr1 rfl (aC (v := .d (.lit w3)) (aA rfl) rfl rfl) ?_
    refine tr1 rfl (cH (aA rfl) rfl (i := 1) rfl dY (es := (aB x6)) rfl rfl) ?_
    refine tr1 rfl (iL (aA rfl) bR rfl rfl (rows := ([x6]).map aB) rfl (cP (f := aB) fun _ => rfl) rfl (by decide)) ?_
    obtain ⟨x23, h24, h⟩ := bind_some h
    refine bW rfl (gQ (i := 0) (aA rfl) bR rfl rfl rfl (fun _ => rfl) h24 rfl) ?_
    rintro _ ⟨v25, rfl⟩
    refine tr1 rfl (aJ (v := .d (.lit v25)) (aA rfl) rfl rfl) ?_
    refine dG ?_
    refine aE ?_
    refine tr1 rfl (aZ (aA rfl) rfl rfl rfl) ?_
    refine tr1 rfl (aC (v := .d (.lit (.int .i64 ((w64 (t16_0_2 + 1)))))) (aA rfl) rfl rfl) ?_
    refine aF ?_
    exact ⟨(w64 (t16_0_2 + 1), x23, v25), h, aX [0] rfl rfl (aM rfl (aM rfl (aV ⟨rfl, rfl, rfl, rfl, rfl, trivial⟩)))⟩
   ·have h := aS c22 h
    refine dS ?_
    refine aE ?_
    refine tr1 rfl (aZ (aA rfl) rfl rfl rfl) ?_
    refine tr1 rfl (aC (v := .d (.lit (.int .i64 ((w64 (t16_0_2 + 1)))))) (aA rfl) rfl rfl) ?_
    refine aF ?_
    exact ⟨(w64 (t16_0_2 + 1), out_0_2, w3), h, aX [0] rfl rfl (aM rfl (aM rfl (aV ⟨rfl, rfl, rfl, rfl, rfl, trivial⟩)))⟩
 ·have h := aS c5 h
  refine cN ?_
  refine .inl ⟨rfl, ?_⟩
  simp only [qK] at h
  refine aG ?_
  refine aE ?_
  refine tr1 rfl (aC (v := .d (.lit w3)) (aA rfl) rfl rfl) ?_
  refine tr1 rfl (aJ (v := .d (.lit w3)) (aA rfl) rfl rfl) ?_
  refine aF ?_
  have h := Option.some.inj h
  subst h
  refine cR (cE (gM (k := 6) (v := .d (.sl 5 (out_0_2.map aB))) (.d (hO 0 rfl (cP (f := aB) fun _ => rfl))) (uL))) ?_
  exact bM ⟨rfl, _, .one _, rfl, rfl⟩

theorem yE (vals_0 : List Int) {r : Int} (h : qS vals_0 = some r) : Fn Try.prog 99 [.d (.sl 1 (vals_0.map bY))] (.d (.lit (.int .i64 r))) := by
 unfold qS at h
 refine Fn.of_tr Try.func99 rfl (rs := [.tmp 2]) Try.results99 Try.ntmps99 (Nat.le_of_ble_eq_true rfl) ?_
 refine aG ?_
 refine aE ?_
 refine tr1 rfl (aJ (v := .d (.lit (.int .i64 0))) (aA rfl) rfl rfl) ?_
 refine aF ?_
 refine aG ?_
 refine aE ?_
 refine tr1 rfl (aJ (v := .d (.lit (.int .i64 0))) (aA rfl) rfl rfl) ?_
 refine aF ?_
 refine aG ?_
 refine aG ?_
 refine aE ?_
 refine tr1 rfl (aC (v := .d (.sl 1 (vals_0.map bY))) (aA rfl) rfl rfl) ?_
 refine tr1 rfl (cX (aA rfl) rfl dK.of) ?_
 refine tr1 rfl (aC (v := .d (.lit (.int .i64 0))) (aA rfl) rfl rfl) ?_
 refine aF ?_
 refine bQ ?_
 refine cG [3, 6, 7] (fun (s1 : Int) => [(8, .d (.lit (.int .i64 s1)))]) (fun (s1 : Int) => []) (fun (k : Nat) (s1 : Int) => mH 0 vals_0 (vals_0.length : Int) k s1) (fun _ => rfl) (0) h (aX [] rfl rfl (aM rfl (aV ⟨rfl, rfl, rfl, trivial⟩))) ?_
 rintro k2 t8_0_1 h
 simp only [mH] at h
 refine aG ?_
 refine aE ?_
 refine tr1 rfl (bC (aA rfl) rfl rfl rfl) ?_
 refine aF ?_
 refine aG ?_
 refine bJ rfl (fun c3 => ?_) (fun c3 => ?_)
 ·have h := aT c3 h
  refine bG ?_
  refine aG ?_
  refine bQ ?_
  refine aG ?_
  refine aE ?_
  obtain ⟨x4, h5, h⟩ := bind_some h
  refine tr1 rfl (bO (aA rfl) rfl rfl dK.of (bI bY h5)) ?_
  refine tr1 rfl (bX (aA rfl) rfl bH) ?_
  refine tr1 rfl (aJ (v := .d (.lit (.int .i64 x4))) (aA rfl) rfl rfl) ?_
  refine aF ?_
  refine aG ?_
  refine aE ?_
  refine tr1 rfl (aC (v := .d (.lit (.int .i64 x4))) (aA rfl) rfl rfl) ?_
  refine tr1 rfl (aC (v := .d (.lit (.int .i64 0))) (aA rfl) rfl rfl) ?_
  refine tr1 rfl (bC (aA rfl) rfl rfl rfl) ?_
  refine aF ?_
  refine bJ rfl (fun c6 => ?_) (fun c6 => ?_)
  ·have h := aT c6 h
   refine aG ?_
   refine aE ?_
   refine tr1 rfl (aC (v := .d (.lit (.int .i64 x4))) (aA rfl) rfl rfl) ?_
   refine tr1 rfl (aJ (v := .d (.lit (.int .i64 x4))) (aA rfl) rfl rfl) ?_
   refine aF ?_
   have h := Option.some.inj h
   subst h
   exact bM ⟨rfl, _, .one _, rfl, rfl⟩
  ·have h := aS c6 h
   refine dS ?_
   refine aE ?_
   refine tr1 rfl (aZ (aA rfl) rfl rfl rfl) ?_
   refine tr1 rfl (aC (v := .d (.lit (.int .i64 ((w64 (t8_0_1 + 1)))))) (aA rfl) rfl rfl) ?_
   refine aF ?_
   exact ⟨(w64 (t8_0_1 + 1)), h, aX [] rfl rfl (aM rfl (aV ⟨rfl, rfl, rfl, trivial⟩))⟩
 ·have h := aS c3 h
  refine cN ?_
  refine .inl ⟨rfl, ?_⟩
  simp only [uA] at h
  refine aG ?_
  refine aE ?_
  refine tr1 rfl (aC (v := .d (.lit (.int .i64 0))) (aA rfl) rfl rfl) ?_
  refine tr1 rfl (aJ (v := .d (.lit (.int .i64 0))) (aA rfl) rfl rfl) ?_
  refine aF ?_
  have h := Option.some.inj h
  subst h
  exact bM ⟨rfl, _, .one _, rfl, rfl⟩

theorem xW (x_0 : aD) (y_1 : aD) {r : Int} (h : kT x_0 y_1 = some r) : Fn Try.prog 98 [.agg (aB x_0), .agg (aB y_1)] (.d (.lit (.int .i64 r))) := by
 unfold kT at h
 refine Fn.of_tr Try.func98 rfl (rs := [.tmp 4]) Try.results98 Try.ntmps98 (Nat.le_of_ble_eq_true rfl) ?_
 refine aG ?_
 refine aE ?_
 refine bW rfl (eN (v := .agg (aB x_0)) (aA rfl) rfl rfl rfl) ?_
 rintro _ ⟨b1, rfl⟩
 refine bW rfl (eN (v := .agg (aB y_1)) (aA rfl) rfl rfl rfl) ?_
 rintro _ ⟨b2, rfl⟩
 refine tr1 rfl (aJ (v := .d (.lit (.int .i64 0))) (aA rfl) rfl rfl) ?_
 refine aF ?_
 refine aG ?_
 refine bQ ?_
 refine aG ?_
 refine aE ?_
 refine tr1 rfl (aU (aA rfl) rfl kH) ?_
 refine tr1 rfl (aW (aA rfl) rfl (i := 0) rfl rfl nW) ?_
 refine tr1 rfl (aU (aA rfl) rfl kH) ?_
 refine tr1 rfl (aW (aA rfl) rfl (i := 1) rfl rfl nW) ?_
 refine tr1 rfl (aJa (aA rfl) rfl rfl Try.underlying4) ?_
 refine tr1 rfl (aC (v := .d (.lit (.bool ((!decide (x_0.Must = y_1.Must)))))) (aA rfl) rfl rfl) ?_
 obtain ⟨b3, h4, h⟩ := bind_some h
 refine cA 3 [2, 3] 14 b3 ?_ ?_
 ·refine bF (!decide (x_0.Must = y_1.Must)) (fun c9 => ?_) (fun c9 => ?_)
  ·have h4 := aT c9 h4
   refine aO rfl rfl (aA rfl) rfl c9 (aU (aA rfl) rfl kH) ?_
   refine aO rfl rfl (aA rfl) rfl c9 (aW (aA rfl) rfl (i := 0) rfl rfl nW) ?_
   refine tr1 rfl (bN (v := .d (.lit (.bool x_0.Must))) (aA rfl) rfl c9 rfl rfl) ?_
   have h4 := Option.some.inj h4
   subst h4
   refine aF (bB rfl ⟨rfl, rfl, trivial⟩ rfl)
  ·have h4 := aS c9 h4
   refine aR rfl rfl (aA rfl) rfl (aA rfl) rfl c9 ?_
   refine aR rfl rfl (aA rfl) rfl (aA rfl) rfl c9 ?_
   refine tr1 rfl (bP (v := .d (.lit (.bool false))) (aA rfl) rfl c9 rfl rfl) ?_
   have h4 := Option.some.inj h4
   subst h4
   refine aF (bB rfl ⟨rfl, rfl, trivial⟩ rfl)
 ·refine tr1 rfl (aJ (v := .d (.lit (.bool b3))) (aA rfl) rfl rfl) ?_
  refine aF ?_
  refine bJ rfl (fun c5 => ?_) (fun c5 => ?_)
  ·have h := aT c5 h
   refine aG ?_
   refine aE ?_
   refine tr1 rfl (aJ (v := .d (.lit (.int .i64 (-1)))) (aA rfl) rfl rfl) ?_
   refine aF ?_
   have h := Option.some.inj h
   subst h
   refine cR (cE (cM (l := [4]) ⟨rfl, trivial⟩)) ?_
   exact bM ⟨rfl, _, .one _, rfl, rfl⟩
  ·have h := aS c5 h
   refine aG ?_
   refine aE ?_
   refine tr1 rfl (aU (aA rfl) rfl kH) ?_
   refine tr1 rfl (aW (aA rfl) rfl (i := 0) rfl rfl nW) ?_
   refine tr1 rfl (aU (aA rfl) rfl kH) ?_
   refine tr1 rfl (aW (aA rfl) rfl (i := 1) rfl rfl nW) ?_
   refine tr1 rfl (aJa (aA rfl) rfl rfl Try.underlying4) ?_
   refine tr1 rfl (aJ (v := .d (.lit (.bool ((!decide (x_0.Must = y_1.Must)))))) (aA rfl) rfl rfl) ?_
   refine aF ?_
   refine bJ rfl (fun c6 => ?_) (fun c6 => ?_)
   ·have h := aT c6 h
    refine aG ?_
    refine aE ?_
    refine tr1 rfl (aJ (v := .d (.lit (.int .i64 1))) (aA rfl) rfl rfl) ?_
    refine aF ?_
    have h := Option.some.inj h
    subst h
    refine cR (cE (cM (l := [4]) ⟨rfl, trivial⟩)) ?_
    exact bM ⟨rfl, _, .one _, rfl, rfl⟩
   ·have h := aS c6 h
    refine dS ?_
    refine aG ?_
    refine aE ?_
    refine tr1 rfl (aU (aA rfl) rfl iK) ?_
    refine tr1 rfl (aW (aA rfl) rfl (i := 1) rfl rfl bH) ?_
    refine tr1 rfl (aU (aA rfl) rfl iK) ?_
    refine tr1 rfl (aW (aA rfl) rfl (i := 0) rfl rfl bH) ?_
    refine tr1 rfl (aZ (aA rfl) rfl rfl rfl) ?_
    refine tr1 rfl (aU (aA rfl) rfl kA) ?_
    refine tr1 rfl (aW (aA rfl) rfl (i := 0) rfl rfl bH) ?_
    refine tr1 rfl (aU (aA rfl) rfl kA) ?_
    refine tr1 rfl (aW (aA rfl) rfl (i := 1) rfl rfl bH) ?_
    refine tr1 rfl (aZ (aA rfl) rfl rfl rfl) ?_
    refine tr1 rfl (iL (aA rfl) dK rfl rfl (rows := ([w64 (y_1.Points - x_0.Points), w64 (x_0.Id - y_1.Id)]).map bY) rfl (cP (f := bY) fun _ => rfl) rfl (by decide)) ?_
    obtain ⟨r7, h8, h⟩ := bind_some h
    refine tr1 rfl (cC (aA rfl) (.func _ _ Try.call99) rfl rfl (BVs.refl _ _) (yE _ h8) rfl) ?_
    refine tr1 rfl (aJ (v := .d (.lit (.int .i64 r7))) (aA rfl) rfl rfl) ?_
    refine aF ?_
    have h := Option.some.inj h
    subst h
    refine cR (cE (cM (l := [4]) ⟨rfl, trivial⟩)) ?_
    exact bM ⟨rfl, _, .one _, rfl, rfl⟩

theorem uE (b_0 : cB) (all_1 : List aD) {r : (List aD)} (h : mF b_0 all_1 = some r) : Fn Try.prog 71 [.cp (cK b_0), .d (.sl 5 (all_1.map aB))] (.d (.sl 5 (r.map aB))) := by
 unfold mF at h
 refine Fn.of_tr Try.func71 rfl (rs := [.tmp 4]) Try.results71 Try.ntmps71 (Nat.le_of_ble_eq_true rfl) ?_
 refine aG ?_
 refine aE ?_
 refine tr1 rfl (qB 5 (aA rfl)) ?_
 refine aF ?_
 refine aG ?_
 refine aE ?_
 refine tr1 rfl (aC (v := .d (.sl 5 (all_1.map aB))) (aA rfl) rfl rfl) ?_
 obtain ⟨r1, h2, h⟩ := bind_some h
 refine bW rfl (xI (aA rfl) (.func _ _ Try.call91) rfl rfl (pL _ h2)) ?_
 rintro _ ⟨v3, rfl⟩
 refine tr1 rfl (aJ (v := .d (.lit v3)) (aA rfl) rfl rfl) ?_
 refine aF ?_
 refine aG ?_
 refine aE ?_
 refine tr1 rfl (aC (v := .d (.lit v3)) (aA rfl) rfl rfl) ?_
 obtain ⟨r6, h7, h⟩ := bind_some h
 refine bW rfl (dX (passed := [.arr v3 42 5 (r1.map aB)]) (aA rfl) rfl (.func _ _ Try.call92) rfl rfl (mN r1 (fun y4 y5 => kT y4 y5) 98 [] Try.call98 (fun _ _ _ h => xW _ _ h) h7)) ?_
 rintro _ ⟨_, _, ⟨rfl, rfl⟩, rfl⟩
 refine aF ?_
 refine aG ?_
 refine aE ?_
 refine tr1 rfl (aJ (v := .d (.lit (.int .i64 0))) (aA rfl) rfl rfl) ?_
 refine aF ?_
 refine aG ?_
 refine aG ?_
 refine aE ?_
 refine tr1 rfl (aC (v := .d (.lit v3)) (aA rfl) rfl rfl) ?_
 refine tr1 rfl (lR (m := 0) (aA rfl) rfl rfl bR.of) ?_
 refine tr1 rfl (aC (v := .d (.lit (.int .i64 0))) (aA rfl) rfl rfl) ?_
 refine aF ?_
 refine bQ ?_
 refine cG [0, 5, 13, 14] (fun (s8 : Int × Int) => [(6, .d (.lit (.int .i64 s8.1))), (15, .d (.lit (.int .i64 s8.2)))]) (fun (s8 : Int × Int) => [.arr v3 42 5 (r6.map aB)]) (fun (k : Nat) (s8 : Int × Int) => gE b_0 (r6.length : Int) r6 k s8.1 s8.2) (fun _ => rfl) (0, 0) h (aX [0] rfl rfl (aM rfl (aM rfl (aV ⟨rfl, rfl, rfl, rfl, trivial⟩)))) ?_
 rintro k9 ⟨musts_0_8, t15_0_8⟩ h
 simp only [gE] at h
 refine aG ?_
 refine aE ?_
 refine tr1 rfl (bC (aA rfl) rfl rfl rfl) ?_
 refine aF ?_
 refine aG ?_
 refine bJ rfl (fun c10 => ?_) (fun c10 => ?_)
 ·have h := aT c10 h
  refine bG ?_
  refine aG ?_
  refine bQ ?_
  refine aG ?_
  refine aE ?_
  obtain ⟨x11, h12, h⟩ := bind_some h
  refine tr1 rfl (cL (m := 0) (aA rfl) rfl rfl rfl bR.of (bI aB h12)) ?_
  refine tr1 rfl (dJ (aA rfl) rfl (l := 0) rfl (eF aB h12) dY (es := (aB x11)) rfl rfl) ?_
  refine bW rfl (fV (zs := [.lit (.int .i64 0), .lit (.int .i64 0), .lit (.int .i64 0), .lit (.int .i64 0), .lit (.bool false)]) (aA rfl) Try.zeroValue42 rfl rfl) ?_
  rintro _ ⟨b13, rfl⟩
  refine tr1 rfl (cD (i := 1) rfl rfl rfl rfl rfl Try.sizeOf42 rfl (aA rfl) (Nat.le_of_ble_eq_true rfl) (ds' := (aB x11)) rfl) ?_
  refine aF ?_
  refine aG ?_
  refine aE ?_
  refine tr1 rfl (aU (aA rfl) rfl kH) ?_
  refine tr1 rfl (aW (aA rfl) rfl (i := 1) rfl rfl nW) ?_
  refine aF ?_
  refine bJ rfl (fun c14 => ?_) (fun c14 => ?_)
  ·have h := aT c14 h
   refine aE ?_
   refine tr1 rfl (aC (v := .d (.lit (.int .i64 musts_0_8))) (aA rfl) rfl rfl) ?_
   refine tr1 rfl (aZ (aA rfl) rfl rfl rfl) ?_
   refine tr1 rfl (aJ (v := .d (.lit (.int .i64 ((w64 (musts_0_8 + 1)))))) (aA rfl) rfl rfl) ?_
   refine dG ?_
   refine aE ?_
   refine tr1 rfl (aZ (aA rfl) rfl rfl rfl) ?_
   refine tr1 rfl (aC (v := .d (.lit (.int .i64 ((w64 (t15_0_8 + 1)))))) (aA rfl) rfl rfl) ?_
   refine aF ?_
   exact ⟨(w64 (musts_0_8 + 1), w64 (t15_0_8 + 1)), h, aX [0] rfl rfl (aM rfl (aM rfl (aV ⟨rfl, rfl, rfl, rfl, trivial⟩)))⟩
  ·have h := aS c14 h
   refine dS ?_
   refine aE ?_
   refine tr1 rfl (aZ (aA rfl) rfl rfl rfl) ?_
   refine tr1 rfl (aC (v := .d (.lit (.int .i64 ((w64 (t15_0_8 + 1)))))) (aA rfl) rfl rfl) ?_
   refine aF ?_
   exact ⟨(musts_0_8, w64 (t15_0_8 + 1)), h, aX [0] rfl rfl (aM rfl (aM rfl (aV ⟨rfl, rfl, rfl, rfl, trivial⟩)))⟩
 ·have h := aS c10 h
  refine cN ?_
  refine .inl ⟨rfl, ?_⟩
  simp only [lW] at h
  refine aG ?_
  refine aE ?_
  refine tr1 rfl (aC (v := .d (.lit v3)) (aA rfl) rfl rfl) ?_
  refine tr1 rfl (aC (v := .d (.lit v3)) (aA rfl) rfl rfl) ?_
  refine tr1 rfl (lR (m := 0) (aA rfl) rfl rfl bR.of) ?_
  refine tr1 rfl (aC (v := .d (.lit (.int .i64 musts_0_8))) (aA rfl) rfl rfl) ?_
  refine tr1 rfl (aC (v := .cp [.lit (.int .i64 b_0.Ledger.Players), .lit (.int .i64 b_0.Ledger.Counts), .sl 5 (b_0.Ledger.Reports.map aB), .sl 3 (b_0.Ledger.Bans.map aK), .sl 3 (b_0.Ledger.Frozen.map aK)]) (aA rfl) rfl rfl) ?_
  refine tr1 rfl (qW (aA rfl) rfl) ?_
  refine tr1 rfl (bZ (aA rfl) rfl jO (es := [.lit (.int .i64 b_0.Ledger.Players), .lit (.int .i64 b_0.Ledger.Counts), .sl 5 (b_0.Ledger.Reports.map aB), .sl 3 (b_0.Ledger.Bans.map aK), .sl 3 (b_0.Ledger.Frozen.map aK)]) rfl) ?_
  refine tr1 rfl (bZ (aA rfl) rfl wZ (es := [.lit (.int .i64 b_0.Ledger.Counts)]) rfl) ?_
  refine tr1 rfl (bX (aA rfl) rfl bH) ?_
  refine tr1 rfl (xJ (aA rfl) rfl rfl) ?_
  refine tr1 rfl (aHc (aA rfl) rfl rfl) ?_
  refine gN (sY [] [.arr v3 42 5 (r6.map aB)] rfl (gM (k := 25) (v := .d (.sl 5 (r6.map aB))) (.d (hO 0 rfl (cP (f := aB) fun _ => rfl))) (gM (k := 24) (v := .d (.sl 5 (r6.map aB))) (.d (hO 0 rfl (cP (f := aB) fun _ => rfl))) (gM (k := 13) (v := .d (.sl 5 (r6.map aB))) (.d (hO 0 rfl (cP (f := aB) fun _ => rfl))) (gM (k := 5) (v := .d (.sl 5 (r6.map aB))) (.d (hO 0 rfl (cP (f := aB) fun _ => rfl))) (oX _ _)))))) ?_
  obtain ⟨x15, h16, h⟩ := bind_some h
  refine tr1 rfl (kK (aA rfl) bR.of rfl rfl rfl (nR aB h16)) ?_
  refine tr1 rfl (aJ (v := .d (.sl 5 (x15.map aB))) (aA rfl) rfl rfl) ?_
  refine aF ?_
  have h := Option.some.inj h
  subst h
  exact bM ⟨rfl, _, .one _, rfl, rfl⟩

theorem aBu (l_0 : List aD) {r : Int} (h : tD l_0 = some r) : Fn Try.prog 86 [.d (.sl 5 (l_0.map aB))] (.d (.lit (.int .i64 r))) := by
 unfold tD at h
 refine Fn.of_tr Try.func86 rfl (rs := [.tmp 2]) Try.results86 Try.ntmps86 (Nat.le_of_ble_eq_true rfl) ?_
 refine aG ?_
 refine aE ?_
 refine tr1 rfl (aJ (v := .d (.lit (.int .i64 0))) (aA rfl) rfl rfl) ?_
 refine aF ?_
 refine aG ?_
 refine aG ?_
 refine aE ?_
 refine tr1 rfl (aC (v := .d (.sl 5 (l_0.map aB))) (aA rfl) rfl rfl) ?_
 refine tr1 rfl (cX (aA rfl) rfl bR.of) ?_
 refine tr1 rfl (aC (v := .d (.lit (.int .i64 0))) (aA rfl) rfl rfl) ?_
 refine aF ?_
 refine bQ ?_
 refine cG [5, 6] (fun (s1 : Int × Int) => [(2, .d (.lit (.int .i64 s1.1))), (7, .d (.lit (.int .i64 s1.2)))]) (fun (s1 : Int × Int) => []) (fun (k : Nat) (s1 : Int × Int) => oP l_0 (l_0.length : Int) k s1.1 s1.2) (fun _ => rfl) (0, 0) h (aX [] rfl rfl (aM rfl (aM rfl (aV ⟨rfl, rfl, trivial⟩)))) ?_
 rintro k2 ⟨n_0_1, t7_0_1⟩ h
 simp only [oP] at h
 refine aG ?_
 refine aE ?_
 refine tr1 rfl (bC (aA rfl) rfl rfl rfl) ?_
 refine aF ?_
 refine aG ?_
 refine bJ rfl (fun c3 => ?_) (fun c3 => ?_)
 ·have h := aT c3 h
  refine bG ?_
  refine aG ?_
  refine bQ ?_
  refine aG ?_
  refine aE ?_
  obtain ⟨x4, h5, h⟩ := bind_some h
  refine tr1 rfl (bO (aA rfl) rfl rfl bR.of (bI aB h5)) ?_
  refine tr1 rfl (fJ (aA rfl) rfl dY (es := (aB x4)) rfl rfl) ?_
  refine bW rfl (fV (zs := [.lit (.int .i64 0), .lit (.int .i64 0), .lit (.int .i64 0), .lit (.int .i64 0), .lit (.bool false)]) (aA rfl) Try.zeroValue42 rfl rfl) ?_
  rintro _ ⟨b6, rfl⟩
  refine tr1 rfl (cD (i := 0) rfl rfl rfl rfl rfl Try.sizeOf42 rfl (aA rfl) (Nat.le_of_ble_eq_true rfl) (ds' := (aB x4)) rfl) ?_
  refine aF ?_
  refine aE ?_
  refine tr1 rfl (aC (v := .d (.lit (.int .i64 n_0_1))) (aA rfl) rfl rfl) ?_
  refine tr1 rfl (aU (aA rfl) rfl iK) ?_
  refine tr1 rfl (aW (aA rfl) rfl (i := 0) rfl rfl bH) ?_
  refine tr1 rfl (aZ (aA rfl) rfl rfl rfl) ?_
  refine tr1 rfl (aJ (v := .d (.lit (.int .i64 ((w64 (n_0_1 + x4.Points)))))) (aA rfl) rfl rfl) ?_
  refine dG ?_
  refine aE ?_
  refine tr1 rfl (aZ (aA rfl) rfl rfl rfl) ?_
  refine tr1 rfl (aC (v := .d (.lit (.int .i64 ((w64 (t7_0_1 + 1)))))) (aA rfl) rfl rfl) ?_
  refine aF ?_
  exact ⟨(w64 (n_0_1 + x4.Points), w64 (t7_0_1 + 1)), h, aX [] rfl rfl (aM rfl (aM rfl (aV ⟨rfl, rfl, trivial⟩)))⟩
 ·have h := aS c3 h
  refine cN ?_
  refine .inl ⟨rfl, ?_⟩
  simp only [wC] at h
  refine aG ?_
  refine aE ?_
  refine tr1 rfl (aC (v := .d (.lit (.int .i64 n_0_1))) (aA rfl) rfl rfl) ?_
  refine tr1 rfl (aJ (v := .d (.lit (.int .i64 n_0_1))) (aA rfl) rfl rfl) ?_
  refine aF ?_
  have h := Option.some.inj h
  subst h
  exact bM ⟨rfl, _, .one _, rfl, rfl⟩

theorem aBn (x : Int) {r : Int} (h : rN x = some r) : Fn Try.prog 101 [.d (.lit (.int .u64 x))] (.d (.lit (.int .i64 r))) := aJf (fun x w => Try.bits_Len x w) h

theorem pM (data_0 : List bE) (a_1 : Int) (b_2 : Int) (cmp_3 : bE → bE → Option Int) {r : (List bE)} {data_0_v : Value} (cmp_3_f : Nat) (cmp_3_v : List AV) (cmp_3_e : ∀ args w, (callFunc cmp_3_f args).run Try.prog w = .ok (.enter cmp_3_f args) w) (cmp_3_h : ∀ (x0 : bE) (x1 : bE) r, cmp_3 x0 x1 = some r → Fn Try.prog cmp_3_f ([.agg (bT x0), .agg (bT x1)] ++ cmp_3_v) (.d (.lit (.int .i64 r)))) (h : dO data_0 a_1 b_2 cmp_3 = some r) : gC Try.prog 118 [.d (.lit data_0_v), .d (.lit (.int .i64 a_1)), .d (.lit (.int .i64 b_2)), .fn cmp_3_f cmp_3_v] [.arr data_0_v 114 4 (data_0.map bT)] (fun r' o' => r' = .tup [] ∧ o' = [.arr data_0_v 114 4 (r.map bT)]) := by
 unfold dO at h
 refine jW Try.func118 rfl (rs := []) Try.results118 Try.ntmps118 (Nat.le_of_ble_eq_true rfl) ?_
 refine aG ?_
 refine aE ?_
 refine tr1 rfl (aC (v := .d (.lit (.int .i64 a_1))) (aA rfl) rfl rfl) ?_
 refine tr1 rfl (aZ (aA rfl) rfl rfl rfl) ?_
 refine tr1 rfl (aJ (v := .d (.lit (.int .i64 ((w64 (a_1 + 1)))))) (aA rfl) rfl rfl) ?_
 refine aF ?_
 refine bQ ?_
 refine cG [1, 2, 3] (fun (s1 : Int × (List bE)) => [(0, .d (.lit data_0_v)), (8, .d (.lit (.int .i64 s1.1)))]) (fun (s1 : Int × (List bE)) => [.arr data_0_v 114 4 (s1.2.map bT)]) (fun (k : Nat) (s1 : Int × (List bE)) => cQ a_1 b_2 cmp_3 k s1.1 s1.2) (fun _ => rfl) (w64 (a_1 + 1), data_0) h (aX [0] rfl rfl (aM rfl (aM rfl (aV ⟨rfl, rfl, rfl, trivial⟩)))) ?_
 rintro k2 ⟨i_0_1, data_0_1⟩ h
 simp only [cQ] at h
 refine aG ?_
 refine aG ?_
 refine aE ?_
 refine tr1 rfl (aC (v := .d (.lit (.int .i64 i_0_1))) (aA rfl) rfl rfl) ?_
 refine tr1 rfl (aC (v := .d (.lit (.int .i64 b_2))) (aA rfl) rfl rfl) ?_
 refine tr1 rfl (bC (aA rfl) rfl rfl rfl) ?_
 refine aF ?_
 refine bJ rfl (fun c3 => ?_) (fun c3 => ?_)
 ·have h := aT c3 h
  refine bG ?_
  refine aG ?_
  refine bQ ?_
  refine aG ?_
  refine aE ?_
  refine tr1 rfl (aC (v := .d (.lit (.int .i64 i_0_1))) (aA rfl) rfl rfl) ?_
  refine tr1 rfl (aJ (v := .d (.lit (.int .i64 i_0_1))) (aA rfl) rfl rfl) ?_
  refine aF ?_
  refine zP ?_
  refine cG [1, 2, 3, 8] (fun (s4 : Int × (List bE)) => [(0, .d (.lit data_0_v)), (9, .d (.lit (.int .i64 s4.1)))]) (fun (s4 : Int × (List bE)) => [.arr data_0_v 114 4 (s4.2.map bT)]) (fun (k : Nat) (s4 : Int × (List bE)) => cZ (cQ a_1 b_2 cmp_3 k2) a_1 b_2 cmp_3 i_0_1 k s4.1 s4.2) (fun _ => rfl) (i_0_1, data_0_1) h (aX [0] rfl rfl (aM rfl (aM rfl (aV ⟨rfl, rfl, rfl, rfl, trivial⟩)))) ?_
  rintro k5 ⟨j_2_4, data_2_4⟩ h
  simp only [cZ] at h
  refine aG ?_
  refine aG ?_
  obtain ⟨b6, h7, h⟩ := bind_some h
  refine fN mix 17 [0, 1, 2, 3, 8, 9] [(34, .d (.lit (.bool b6)))] ?_ ?_
  ·refine bF (decide (a_1 < j_2_4)) (fun c8 => ?_) (fun c8 => ?_)
   ·have h7 := aT c8 h7
    obtain ⟨x9, h10, h7⟩ := bind_some h7
    obtain ⟨x11, h12, h7⟩ := bind_some h7
    obtain ⟨r13, h14, h7⟩ := bind_some h7
    have h7 := Option.some.inj h7
    subst h7
    refine ⟨[(18, 0, .d (.lit (.int .i64 j_2_4))), (19, 1, .d (.lit (.int .i64 a_1))), (20, 2, .d (.lit (.bool ((decide (a_1 < j_2_4)))))), (21, 3, .d (.lit (.bool ((decide (a_1 < j_2_4)))))), (22, 4, .fn cmp_3_f cmp_3_v), (23, 5, .d (.lit data_0_v)), (24, 6, .d (.lit (.int .i64 j_2_4))), (25, 7, .ep data_0_v 4 j_2_4.toNat 0), (26, 8, .agg (bT x9)), (27, 9, .d (.lit data_0_v)), (28, 10, .d (.lit (.int .i64 j_2_4))), (29, 11, .d (.lit (.int .i64 ((w64 (j_2_4 - 1)))))), (30, 12, .ep data_0_v 4 (w64 (j_2_4 - 1)).toNat 0), (31, 13, .agg (bT x11)), (32, 14, .d (.lit (.int .i64 r13))), (33, 15, .d (.lit (.bool ((decide (r13 < 0)))))), (34, 16, .d (.lit (.bool ((decide (r13 < 0))))))], ?_, ?_⟩
    · exact ⟨by kernel_rfl, by kernel_rfl, by kernel_rfl, by kernel_rfl, by kernel_rfl, [([], []), ([], []), ([0, 1], []), ([2], []), ([3], []), ([3], []), ([3], []), ([3, 5, 6], []), ([3, 7], []), ([3], []), ([3], []), ([3, 10], []), ([3, 9, 11], []), ([3, 12], []), ([3, 4, 8, 13], []), ([3, 14], []), ([3, 15], [])], by kernel_rfl, ⟨fun S hS => aI rfl (aQ rfl (aC (v := .d (.lit (.int .i64 j_2_4))) (aA rfl) (aH hS rfl) rfl)),
      fun S hS => aI rfl (aQ rfl (aC (v := .d (.lit (.int .i64 a_1))) (aA rfl) (aH hS rfl) rfl)),
      fun S hS => aI rfl (aQ rfl (bC (aA rfl) (aH hS rfl) (aH hS rfl) rfl)),
      fun S hS => aI rfl (aQ rfl (aC (v := .d (.lit (.bool ((decide (a_1 < j_2_4)))))) (aA rfl) (aH hS rfl) rfl)),
      fun S hS => aI rfl (aY rfl rfl (aA rfl) (aP hS rfl) c8 (aC (v := .fn cmp_3_f cmp_3_v) (aA rfl) (aH hS rfl) rfl)),
      fun S hS => aI rfl (aY rfl rfl (aA rfl) (aP hS rfl) c8 (aC (v := .d (.lit data_0_v)) (aA rfl) (aH hS rfl) rfl)),
      fun S hS => aI rfl (aY rfl rfl (aA rfl) (aP hS rfl) c8 (aC (v := .d (.lit (.int .i64 j_2_4))) (aA rfl) (aH hS rfl) rfl)),
      fun S hS => aI rfl (aY rfl rfl (aA rfl) (aP hS rfl) c8 (cL (m := 0) (aA rfl) (aH hS rfl) rfl (aH hS rfl) qP.of (bI bT h10))),
      fun S hS => aI rfl (aY rfl rfl (aA rfl) (aP hS rfl) c8 (dJ (aA rfl) (aH hS rfl) (l := 0) rfl (eF bT h10) uK (es := (bT x9)) rfl rfl)),
      fun S hS => aI rfl (aY rfl rfl (aA rfl) (aP hS rfl) c8 (aC (v := .d (.lit data_0_v)) (aA rfl) (aH hS rfl) rfl)),
      fun S hS => aI rfl (aY rfl rfl (aA rfl) (aP hS rfl) c8 (aC (v := .d (.lit (.int .i64 j_2_4))) (aA rfl) (aH hS rfl) rfl)),
      fun S hS => aI rfl (aY rfl rfl (aA rfl) (aP hS rfl) c8 (aZ (aA rfl) (aH hS rfl) rfl rfl)),
      fun S hS => aI rfl (aY rfl rfl (aA rfl) (aP hS rfl) c8 (cL (m := 0) (aA rfl) (aH hS rfl) rfl (aH hS rfl) qP.of (bI bT h12))),
      fun S hS => aI rfl (aY rfl rfl (aA rfl) (aP hS rfl) c8 (dJ (aA rfl) (aH hS rfl) (l := 0) rfl (eF bT h12) uK (es := (bT x11)) rfl rfl)),
      fun S hS => aI rfl (aY rfl rfl (aA rfl) (aP hS rfl) c8 (cC (aA rfl) (.clo _ _ _ _ cmp_3_e (aP hS rfl)) (uS (ev2 (aH hS rfl) (ev2 (aH hS rfl) evn))) rfl (BVs.refl _ _) (cmp_3_h _ _ _  h14) rfl)),
      fun S hS => aI rfl (aY rfl rfl (aA rfl) (aP hS rfl) c8 (bC (aA rfl) (aH hS rfl) rfl rfl)),
      fun S hS => aI rfl (aQ rfl (bN (v := .d (.lit (.bool ((decide (r13 < 0)))))) (aA rfl) (aH hS rfl) c8 (aH hS rfl) rfl)), trivial⟩⟩
    · exact dI (aM rfl (aV ⟨rfl, rfl, rfl, rfl, rfl, rfl, trivial⟩))
   ·have h7 := aS c8 h7
    have h7 := Option.some.inj h7
    subst h7
    refine ⟨[(18, 0, .d (.lit (.int .i64 j_2_4))), (19, 1, .d (.lit (.int .i64 a_1))), (20, 2, .d (.lit (.bool ((decide (a_1 < j_2_4)))))), (21, 3, .d (.lit (.bool ((decide (a_1 < j_2_4)))))), (22, 4, .tup []), (23, 5, .tup []), (24, 6, .tup []), (25, 7, .tup []), (26, 8, .tup []), (27, 9, .tup []), (28, 10, .tup []), (29, 11, .tup []), (30, 12, .tup []), (31, 13, .tup []), (32, 14, .tup []), (33, 15, .tup []), (34, 16, .d (.lit (.bool false)))], ?_, ?_⟩
    · exact ⟨by kernel_rfl, by kernel_rfl, by kernel_rfl, by kernel_rfl, by kernel_rfl, [([], []), ([], []), ([0, 1], []), ([2], []), ([3], []), ([3], []), ([3], []), ([3, 5, 6], []), ([3, 7], []), ([3], []), ([3], []), ([3, 10], []), ([3, 9, 11], []), ([3, 12], []), ([3, 4, 8, 13], []), ([3, 14], []), ([3, 15], [])], by kernel_rfl, ⟨fun S hS => aI rfl (aQ rfl (aC (v := .d (.lit (.int .i64 j_2_4))) (aA rfl) (aH hS rfl) rfl)),
      fun S hS => aI rfl (aQ rfl (aC (v := .d (.lit (.int .i64 a_1))) (aA rfl) (aH hS rfl) rfl)),
      fun S hS => aI rfl (aQ rfl (bC (aA rfl) (aH hS rfl) (aH hS rfl) rfl)),
      fun S hS => aI rfl (aQ rfl (aC (v := .d (.lit (.bool ((decide (a_1 < j_2_4)))))) (aA rfl) (aH hS rfl) rfl)),
      fun S hS => aI rfl (bD rfl rfl (aA rfl) rfl (aA rfl) (aP hS rfl) c8),
      fun S hS => aI rfl (bD rfl rfl (aA rfl) rfl (aA rfl) (aP hS rfl) c8),
      fun S hS => aI rfl (bD rfl rfl (aA rfl) rfl (aA rfl) (aP hS rfl) c8),
      fun S hS => aI rfl (bD rfl rfl (aA rfl) rfl (aA rfl) (aP hS rfl) c8),
      fun S hS => aI rfl (bD rfl rfl (aA rfl) rfl (aA rfl) (aP hS rfl) c8),
      fun S hS => aI rfl (bD rfl rfl (aA rfl) rfl (aA rfl) (aP hS rfl) c8),
      fun S hS => aI rfl (bD rfl rfl (aA rfl) rfl (aA rfl) (aP hS rfl) c8),
      fun S hS => aI rfl (bD rfl rfl (aA rfl) rfl (aA rfl) (aP hS rfl) c8),
      fun S hS => aI rfl (bD rfl rfl (aA rfl) rfl (aA rfl) (aP hS rfl) c8),
      fun S hS => aI rfl (bD rfl rfl (aA rfl) rfl (aA rfl) (aP hS rfl) c8),
      fun S hS => aI rfl (bD rfl rfl (aA rfl) rfl (aA rfl) (aP hS rfl) c8),
      fun S hS => aI rfl (bD rfl rfl (aA rfl) rfl (aA rfl) (aP hS rfl) c8),
      fun S hS => aI rfl (aQ rfl (bP (v := .d (.lit (.bool false))) (aA rfl) (aH hS rfl) c8 rfl rfl)), trivial⟩⟩
    · exact dI (aM rfl (aV ⟨rfl, rfl, rfl, rfl, rfl, rfl, trivial⟩))
  ·refine aF ?_
   refine bJ rfl (fun c15 => ?_) (fun c15 => ?_)
   ·have h := aT c15 h
    refine bG ?_
    refine aG ?_
    refine bQ ?_
    obtain ⟨x17, h18, h⟩ := bind_some h
    obtain ⟨x19, h20, h⟩ := bind_some h
    obtain ⟨x21, h22, h⟩ := bind_some h
    refine lZ mix 16 [0, 1, 2, 3, 8, 9] (fun X16 => [(39, .d (.lit data_0_v)), (41, .d (.lit (.int .i64 ((w64 (j_2_4 - 1)))))), (50, .agg (bT x19))]) (fun X16 => [.arr data_0_v 114 4 ((data_2_4.set j_2_4.toNat x17).map bT)]) ?_ ?_
    ·refine ⟨0, fun X16 => [(37, 0, .d (.lit data_0_v)), (38, 1, .d (.lit (.int .i64 j_2_4))), (39, 2, .d (.lit data_0_v)), (40, 3, .d (.lit (.int .i64 j_2_4))), (41, 4, .d (.lit (.int .i64 ((w64 (j_2_4 - 1)))))), (42, 5, .d (.lit data_0_v)), (43, 6, .d (.lit (.int .i64 j_2_4))), (44, 7, .d (.lit (.int .i64 ((w64 (j_2_4 - 1)))))), (45, 8, .ep data_0_v 4 (w64 (j_2_4 - 1)).toNat 0), (46, 9, .agg (bT x17)), (47, 10, .d (.lit data_0_v)), (48, 11, .d (.lit (.int .i64 j_2_4))), (49, 12, .ep data_0_v 4 j_2_4.toNat 0), (50, 13, .agg (bT x19)), (51, 14, .ep data_0_v 4 j_2_4.toNat 0)], fun X16 => [([(15, .arr data_0_v 114 4 ((data_2_4.set j_2_4.toNat x17).map bT))], .arr data_0_v 114 4 (data_2_4.map bT))], ?_, ?_⟩
     · exact ⟨by kernel_rfl, by kernel_rfl, by kernel_rfl, fun _ => by kernel_rfl, fun _ => by kernel_rfl, fun _ => by kernel_rfl, fun _ => rfl, [([], [15]), ([], [15]), ([], []), ([], []), ([3], []), ([], [15]), ([], [15]), ([6], [15]), ([5, 7], [15]), ([8], [15]), ([], [15]), ([], [15]), ([10, 11], [15]), ([12], [15]), ([0, 1], [15]), ([9, 14], [])], by kernel_rfl, ⟨fun X16 S hw hi hS => bL (X := X16) rfl (hw X16) rfl (aQ rfl (aC (v := .d (.lit data_0_v)) (aA rfl) (aH hS rfl) rfl)),
      fun X16 S hw hi hS => bL (X := X16) rfl (hw X16) rfl (aQ rfl (aC (v := .d (.lit (.int .i64 j_2_4))) (aA rfl) (aH hS rfl) rfl)),
      fun X16 S hw hi hS => bL (X := X16) rfl (hw X16) rfl (aQ rfl (aC (v := .d (.lit data_0_v)) (aA rfl) (aH hS rfl) rfl)),
      fun X16 S hw hi hS => bL (X := X16) rfl (hw X16) rfl (aQ rfl (aC (v := .d (.lit (.int .i64 j_2_4))) (aA rfl) (aH hS rfl) rfl)),
      fun X16 S hw hi hS => bL (X := X16) rfl (hw X16) rfl (aQ rfl (aZ (aA rfl) (aH hS rfl) rfl rfl)),
      fun X16 S hw hi hS => bL (X := X16) rfl (hw X16) rfl (aQ rfl (aC (v := .d (.lit data_0_v)) (aA rfl) (aH hS rfl) rfl)),
      fun X16 S hw hi hS => bL (X := X16) rfl (hw X16) rfl (aQ rfl (aC (v := .d (.lit (.int .i64 j_2_4))) (aA rfl) (aH hS rfl) rfl)),
      fun X16 S hw hi hS => bL (X := X16) rfl (hw X16) rfl (aQ rfl (aZ (aA rfl) (aH hS rfl) rfl rfl)),
      fun X16 S hw hi hS => bL (X := X16) rfl (hw X16) rfl (aQ rfl (cL (m := 0) (aA rfl) (aH hS rfl) (og hS rfl rfl) (aH hS rfl) qP.of (bI bT h18))),
      fun X16 S hw hi hS => bL (X := X16) rfl (hw X16) rfl (aQ rfl (dJ (aA rfl) (aH hS rfl) (l := 0) (og hS rfl rfl) (eF bT h18) uK (es := (bT x17)) rfl rfl)),
      fun X16 S hw hi hS => bL (X := X16) rfl (hw X16) rfl (aQ rfl (aC (v := .d (.lit data_0_v)) (aA rfl) (aH hS rfl) rfl)),
      fun X16 S hw hi hS => bL (X := X16) rfl (hw X16) rfl (aQ rfl (aC (v := .d (.lit (.int .i64 j_2_4))) (aA rfl) (aH hS rfl) rfl)),
      fun X16 S hw hi hS => bL (X := X16) rfl (hw X16) rfl (aQ rfl (cL (m := 0) (aA rfl) (aH hS rfl) (og hS rfl rfl) (aH hS rfl) qP.of (bI bT h20))),
      fun X16 S hw hi hS => bL (X := X16) rfl (hw X16) rfl (aQ rfl (dJ (aA rfl) (aH hS rfl) (l := 0) (og hS rfl rfl) (eF bT h20) uK (es := (bT x19)) rfl rfl)),
      fun X16 S hw hi hS => bL (X := X16) rfl (hw X16) rfl (aQ rfl (cL (m := 0) (aA rfl) (aH hS rfl) (og hS rfl rfl) (aH hS rfl) qP.of (bI bT h22))),
      fun X16 S hw hi hS => sC (X := X16) hS rfl rfl rfl (p := 0) rfl rfl (aQ rfl (jM (l := 0) (aH hS rfl) (og hS rfl rfl) (eF bT h22) (aH hS rfl) rfl rfl Try.sizeOf114 rfl (aA rfl) (Nat.le_of_ble_eq_true rfl) (rows' := ((data_2_4.set j_2_4.toNat x17)).map bT) (mZ _ _ _ _ rfl))), trivial⟩⟩
     · exact fun X16 => dI (aM rfl (aM rfl (aM rfl (aV ⟨rfl, rfl, rfl, rfl, rfl, rfl, trivial⟩))))
    ·intro X16
     obtain ⟨x23, h24, h⟩ := bind_some h
     refine tr1 rfl (cL (m := 0) (aA rfl) rfl rfl rfl qP.of (bI bT h24)) ?_
     refine tr1 rfl (jM (l := 0) rfl rfl (eF bT h24) rfl rfl rfl Try.sizeOf114 rfl (aA rfl) (Nat.le_of_ble_eq_true rfl) (rows' := (((data_2_4.set j_2_4.toNat x17).set (w64 (j_2_4 - 1)).toNat x19)).map bT) (mZ _ _ _ _ rfl)) ?_
     refine dG ?_
     refine aE ?_
     refine tr1 rfl (aC (v := .d (.lit (.int .i64 j_2_4))) (aA rfl) rfl rfl) ?_
     refine tr1 rfl (aZ (aA rfl) rfl rfl rfl) ?_
     refine tr1 rfl (aJ (v := .d (.lit (.int .i64 ((w64 (j_2_4 - 1)))))) (aA rfl) rfl rfl) ?_
     refine aF ?_
     exact ⟨(w64 (j_2_4 - 1), ((data_2_4.set j_2_4.toNat x17).set (w64 (j_2_4 - 1)).toNat x19)), h, aX [0] rfl rfl (aM rfl (aM rfl (aV ⟨rfl, rfl, rfl, rfl, trivial⟩)))⟩
   ·have h := aS c15 h
    refine cN ?_
    refine .inl ⟨rfl, ?_⟩
    simp only [fM] at h
    simp only [fL] at h
    refine aE ?_
    refine tr1 rfl (aC (v := .d (.lit (.int .i64 i_0_1))) (aA rfl) rfl rfl) ?_
    refine tr1 rfl (aZ (aA rfl) rfl rfl rfl) ?_
    refine tr1 rfl (aJ (v := .d (.lit (.int .i64 ((w64 (i_0_1 + 1)))))) (aA rfl) rfl rfl) ?_
    refine aF ?_
    exact ⟨(w64 (i_0_1 + 1), data_2_4), h, aX [0] rfl rfl (aM rfl (aM rfl (aV ⟨rfl, rfl, rfl, trivial⟩)))⟩
 ·have h := aS c3 h
  refine cN ?_
  refine .inl ⟨rfl, ?_⟩
  simp only [fK] at h
  have h := Option.some.inj h
  subst h
  exact ⟨_, [.arr data_0_v 114 4 (data_0_1.map bT)], [], _, .none, .refl _, .same _, rfl, rfl⟩

theorem rI (data_0 : List bE) (a_1 : Int) (b_2 : Int) (limit_3 : Int) (cmp_4 : bE → bE → Option Int) {r : (List bE)} {data_0_v : Value} (cmp_4_f : Nat) (cmp_4_v : List AV) (cmp_4_e : ∀ args w, (callFunc cmp_4_f args).run Try.prog w = .ok (.enter cmp_4_f args) w) (cmp_4_h : ∀ (x0 : bE) (x1 : bE) r, cmp_4 x0 x1 = some r → Fn Try.prog cmp_4_f ([.agg (bT x0), .agg (bT x1)] ++ cmp_4_v) (.d (.lit (.int .i64 r)))) (h : iB data_0 a_1 b_2 limit_3 cmp_4 = some r) : gC Try.prog 103 [.d (.lit data_0_v), .d (.lit (.int .i64 a_1)), .d (.lit (.int .i64 b_2)), .d (.lit (.int .i64 limit_3)), .fn cmp_4_f cmp_4_v] [.arr data_0_v 114 4 (data_0.map bT)] (fun r' o' => r' = .tup [] ∧ o' = [.arr data_0_v 114 4 (r.map bT)]) := by
 unfold iB at h
 refine jW Try.func103 rfl (rs := []) Try.results103 Try.ntmps103 (Nat.le_of_ble_eq_true rfl) ?_
 refine aG ?_
 refine aE ?_
 refine tr1 rfl (aJ (v := .d (.lit (.bool true))) (aA rfl) rfl rfl) ?_
 refine aF ?_
 refine aG ?_
 refine aE ?_
 refine tr1 rfl (aJ (v := .d (.lit (.bool true))) (aA rfl) rfl rfl) ?_
 refine aF ?_
 refine bQ ?_
 refine cG [4] (fun (s1 : Int × Int × Int × Bool × Bool × (List bE)) => [(0, .d (.lit data_0_v)), (1, .d (.lit (.int .i64 s1.1))), (2, .d (.lit (.int .i64 s1.2.1))), (3, .d (.lit (.int .i64 s1.2.2.1))), (10, .d (.lit (.bool s1.2.2.2.1))), (11, .d (.lit (.bool s1.2.2.2.2.1)))]) (fun (s1 : Int × Int × Int × Bool × Bool × (List bE)) => [.arr data_0_v 114 4 (s1.2.2.2.2.2.map bT)]) (fun (k : Nat) (s1 : Int × Int × Int × Bool × Bool × (List bE)) => gT cmp_4 k s1.1 s1.2.1 s1.2.2.1 s1.2.2.2.1 s1.2.2.2.2.1 s1.2.2.2.2.2) (fun _ => rfl) (a_1, b_2, limit_3, true, true, data_0) h (aX [0] rfl rfl (aM rfl (aM rfl (aM rfl (aM rfl (aM rfl (aM rfl (aV ⟨rfl, trivial⟩)))))))) ?_
 rintro k2 ⟨a_0_1, b_0_1, limit_0_1, wasBalanced_0_1, wasPartitioned_0_1, data_0_1⟩ h
 simp only [gT] at h
 refine bQ ?_
 refine aG ?_
 refine aE ?_
 refine tr1 rfl (aC (v := .d (.lit (.int .i64 b_0_1))) (aA rfl) rfl rfl) ?_
 refine tr1 rfl (aC (v := .d (.lit (.int .i64 a_0_1))) (aA rfl) rfl rfl) ?_
 refine tr1 rfl (aZ (aA rfl) rfl rfl rfl) ?_
 refine tr1 rfl (aJ (v := .d (.lit (.int .i64 ((w64 (b_0_1 - a_0_1)))))) (aA rfl) rfl rfl) ?_
 refine aF ?_
 refine aG ?_
 refine aG ?_
 refine aE ?_
 refine tr1 rfl (aC (v := .d (.lit (.int .i64 ((w64 (b_0_1 - a_0_1)))))) (aA rfl) rfl rfl) ?_
 refine tr1 rfl (bC (aA rfl) rfl rfl rfl) ?_
 refine aF ?_
 refine bJ rfl (fun c3 => ?_) (fun c3 => ?_)
 ·have h := aT c3 h
  refine aG ?_
  refine aE ?_
  refine tr1 rfl (aC (v := .d (.lit data_0_v)) (aA rfl) rfl rfl) ?_
  refine tr1 rfl (aC (v := .d (.lit (.int .i64 a_0_1))) (aA rfl) rfl rfl) ?_
  refine tr1 rfl (aC (v := .d (.lit (.int .i64 b_0_1))) (aA rfl) rfl rfl) ?_
  refine tr1 rfl (aC (v := .fn cmp_4_f cmp_4_v) (aA rfl) rfl rfl) ?_
  obtain ⟨r4, h5, h⟩ := bind_some h
  refine bW rfl (dX (passed := [.arr data_0_v 114 4 (data_0_1.map bT)]) (aA rfl) rfl (.func _ _ Try.call118) rfl rfl (pM data_0_1 a_0_1 b_0_1 cmp_4 cmp_4_f cmp_4_v cmp_4_e cmp_4_h h5)) ?_
  rintro _ ⟨_, _, ⟨rfl, rfl⟩, rfl⟩
  refine aF ?_
  have h := Option.some.inj h
  subst h
  exact bM ⟨rfl, _, [.arr data_0_v 114 4 (r4.map bT)], [], _, .none, .refl _, .same _, rfl, rfl⟩
 ·have h := aS c3 h
  refine bG ?_
  refine aG ?_
  refine aG ?_
  cases h

theorem tX (x_0 : List bE) (cmp_1 : bE → bE → Option Int) {r : (List bE)} {x_0_v : Value} (cmp_1_f : Nat) (cmp_1_v : List AV) (cmp_1_e : ∀ args w, (callFunc cmp_1_f args).run Try.prog w = .ok (.enter cmp_1_f args) w) (cmp_1_h : ∀ (x0 : bE) (x1 : bE) r, cmp_1 x0 x1 = some r → Fn Try.prog cmp_1_f ([.agg (bT x0), .agg (bT x1)] ++ cmp_1_v) (.d (.lit (.int .i64 r)))) (h : iQ x_0 cmp_1 = some r) : gC Try.prog 87 [.d (.lit x_0_v), .fn cmp_1_f cmp_1_v] [.arr x_0_v 114 4 (x_0.map bT)] (fun r' o' => r' = .tup [] ∧ o' = [.arr x_0_v 114 4 (r.map bT)]) := by
 unfold iQ at h
 refine jW Try.func87 rfl (rs := []) Try.results87 Try.ntmps87 (Nat.le_of_ble_eq_true rfl) ?_
 refine aG ?_
 refine aE ?_
 refine tr1 rfl (aC (v := .d (.lit x_0_v)) (aA rfl) rfl rfl) ?_
 refine tr1 rfl (lR (m := 0) (aA rfl) rfl rfl qP.of) ?_
 refine tr1 rfl (aJ (v := .d (.lit (.int .i64 ((x_0.length : Int))))) (aA rfl) rfl rfl) ?_
 refine aF ?_
 refine aE ?_
 refine tr1 rfl (aC (v := .d (.lit x_0_v)) (aA rfl) rfl rfl) ?_
 refine tr1 rfl (aC (v := .d (.lit (.int .i64 ((x_0.length : Int))))) (aA rfl) rfl rfl) ?_
 refine tr1 rfl (aC (v := .d (.lit (.int .i64 ((x_0.length : Int))))) (aA rfl) rfl rfl) ?_
 refine tr1 rfl (qN (aA rfl) rfl Try.runUnderlying3 Try.runUnderlying127) ?_
 obtain ⟨r1, h2, h⟩ := bind_some h
 refine tr1 rfl (cC (aA rfl) (.func _ _ Try.call101) rfl rfl (BVs.refl _ _) (aBn _ h2) rfl) ?_
 refine tr1 rfl (aC (v := .fn cmp_1_f cmp_1_v) (aA rfl) rfl rfl) ?_
 obtain ⟨r3, h4, h⟩ := bind_some h
 refine bW rfl (dX (passed := [.arr x_0_v 114 4 (x_0.map bT)]) (aA rfl) rfl (.func _ _ Try.call103) rfl rfl (rI x_0 0 (x_0.length : Int) r1 cmp_1 cmp_1_f cmp_1_v cmp_1_e cmp_1_h h4)) ?_
 rintro _ ⟨_, _, ⟨rfl, rfl⟩, rfl⟩
 refine aF ?_
 have h := Option.some.inj h
 subst h
 exact ⟨_, [.arr x_0_v 114 4 (r3.map bT)], [], _, .none, .refl _, .same _, rfl, rfl⟩

theorem xX (x_0 : bE) (y_1 : bE) {r : Int} (h : kU x_0 y_1 = some r) : Fn Try.prog 88 [.agg (bT x_0), .agg (bT y_1)] (.d (.lit (.int .i64 r))) := by
 unfold kU at h
 refine Fn.of_tr Try.func88 rfl (rs := [.tmp 4]) Try.results88 Try.ntmps88 (Nat.le_of_ble_eq_true rfl) ?_
 refine aG ?_
 refine aE ?_
 refine bW rfl (eN (v := .agg (bT x_0)) (aA rfl) rfl rfl rfl) ?_
 rintro _ ⟨b1, rfl⟩
 refine bW rfl (eN (v := .agg (bT y_1)) (aA rfl) rfl rfl rfl) ?_
 rintro _ ⟨b2, rfl⟩
 refine tr1 rfl (aJ (v := .d (.lit (.int .i64 0))) (aA rfl) rfl rfl) ?_
 refine aF ?_
 refine aG ?_
 refine aE ?_
 refine tr1 rfl (aU (aA rfl) rfl aCw) ?_
 refine tr1 rfl (aW (aA rfl) rfl (i := 1) rfl rfl bH) ?_
 refine tr1 rfl (aU (aA rfl) rfl aCw) ?_
 refine tr1 rfl (aW (aA rfl) rfl (i := 0) rfl rfl bH) ?_
 refine tr1 rfl (aZ (aA rfl) rfl rfl rfl) ?_
 refine tr1 rfl (aU (aA rfl) rfl vM) ?_
 refine tr1 rfl (aW (aA rfl) rfl (i := 1) rfl rfl bH) ?_
 refine tr1 rfl (aU (aA rfl) rfl vM) ?_
 refine tr1 rfl (aW (aA rfl) rfl (i := 0) rfl rfl bH) ?_
 refine tr1 rfl (aZ (aA rfl) rfl rfl rfl) ?_
 refine tr1 rfl (aU (aA rfl) rfl aCx) ?_
 refine tr1 rfl (aW (aA rfl) rfl (i := 0) rfl rfl bH) ?_
 refine tr1 rfl (aU (aA rfl) rfl aCx) ?_
 refine tr1 rfl (aW (aA rfl) rfl (i := 1) rfl rfl bH) ?_
 refine tr1 rfl (aZ (aA rfl) rfl rfl rfl) ?_
 refine tr1 rfl (aU (aA rfl) rfl yM) ?_
 refine tr1 rfl (aW (aA rfl) rfl (i := 0) rfl rfl bH) ?_
 refine tr1 rfl (aU (aA rfl) rfl yM) ?_
 refine tr1 rfl (aW (aA rfl) rfl (i := 1) rfl rfl bH) ?_
 refine tr1 rfl (aZ (aA rfl) rfl rfl rfl) ?_
 refine tr1 rfl (iL (aA rfl) dK rfl rfl (rows := ([w64 (y_1.points - x_0.points), w64 (y_1.musts - x_0.musts), w64 (x_0.many - y_1.many), w64 (x_0.player - y_1.player)]).map bY) rfl (cP (f := bY) fun _ => rfl) rfl (by decide)) ?_
 obtain ⟨r3, h4, h⟩ := bind_some h
 refine tr1 rfl (cC (aA rfl) (.func _ _ Try.call99) rfl rfl (BVs.refl _ _) (yE _ h4) rfl) ?_
 refine tr1 rfl (aJ (v := .d (.lit (.int .i64 r3))) (aA rfl) rfl rfl) ?_
 refine aF ?_
 have h := Option.some.inj h
 subst h
 refine cR (cE (cM (l := [4]) ⟨rfl, trivial⟩)) ?_
 exact bM ⟨rfl, _, .one _, rfl, rfl⟩

theorem vB (b_0 : cB) (week_1 : Int) {r : (List Int)} (h : gX b_0 week_1 = some r) : Fn Try.prog 59 [.cp (cK b_0), .d (.lit (.int .i64 week_1))] (.d (.sl 1 (r.map bY))) := by
 unfold gX at h
 refine Fn.of_tr Try.func59 rfl (rs := [.tmp 4]) Try.results59 Try.ntmps59 (Nat.le_of_ble_eq_true rfl) ?_
 refine aG ?_
 refine aE ?_
 refine tr1 rfl (qB 1 (aA rfl)) ?_
 refine aF ?_
 refine aG ?_
 refine aE ?_
 refine tr1 rfl (jE 114 4 (.inl rfl) (aA rfl)) ?_
 refine aF ?_
 refine aG ?_
 refine aG ?_
 refine aE ?_
 refine tr1 rfl (aC (v := .cp [.lit (.int .i64 b_0.Ledger.Players), .lit (.int .i64 b_0.Ledger.Counts), .sl 5 (b_0.Ledger.Reports.map aB), .sl 3 (b_0.Ledger.Bans.map aK), .sl 3 (b_0.Ledger.Frozen.map aK)]) (aA rfl) rfl rfl) ?_
 refine tr1 rfl (qW (aA rfl) rfl) ?_
 refine tr1 rfl (bZ (aA rfl) rfl jO (es := [.lit (.int .i64 b_0.Ledger.Players), .lit (.int .i64 b_0.Ledger.Counts), .sl 5 (b_0.Ledger.Reports.map aB), .sl 3 (b_0.Ledger.Bans.map aK), .sl 3 (b_0.Ledger.Frozen.map aK)]) rfl) ?_
 refine tr1 rfl (bZ (aA rfl) rfl iJ (es := [.lit (.int .i64 b_0.Ledger.Players)]) rfl) ?_
 refine tr1 rfl (bX (aA rfl) rfl bH) ?_
 refine tr1 rfl (aC (v := .d (.lit (.int .i64 0))) (aA rfl) rfl rfl) ?_
 refine aF ?_
 refine bQ ?_
 refine cG [0, 1, 18] (fun (s2 : Int × (List bE) × Value) => [(5, .d (.lit s2.2.2)), (19, .d (.lit (.int .i64 s2.1)))]) (fun (s2 : Int × (List bE) × Value) => [.arr s2.2.2 114 4 (s2.2.1.map bT)]) (fun (k : Nat) (s2 : Int × (List bE) × Value) => fH b_0 week_1 b_0.Ledger.Players k s2.1 s2.2.1) (fun _ => rfl) (0, ([] : List bE), (.slice none 0 0)) h (aX [0] rfl rfl (aM rfl (aM rfl (aV ⟨rfl, rfl, rfl, trivial⟩)))) ?_
 rintro k4 ⟨t19_0_2, lines_0_2, w3⟩ h
 simp only [fH] at h
 refine aG ?_
 refine aE ?_
 refine tr1 rfl (bC (aA rfl) rfl rfl rfl) ?_
 refine aF ?_
 refine aG ?_
 refine bJ rfl (fun c5 => ?_) (fun c5 => ?_)
 ·have h := aT c5 h
  refine bG ?_
  refine aG ?_
  refine bQ ?_
  refine aG ?_
  refine aE ?_
  refine tr1 rfl (aC (v := .d (.lit (.int .i64 t19_0_2))) (aA rfl) rfl rfl) ?_
  refine tr1 rfl (aJ (v := .d (.lit (.int .i64 t19_0_2))) (aA rfl) rfl rfl) ?_
  refine aF ?_
  refine aG ?_
  refine aE ?_
  refine tr1 rfl (aC (v := .cp [.lit (.int .i64 b_0.Ledger.Players), .lit (.int .i64 b_0.Ledger.Counts), .sl 5 (b_0.Ledger.Reports.map aB), .sl 3 (b_0.Ledger.Bans.map aK), .sl 3 (b_0.Ledger.Frozen.map aK)]) (aA rfl) rfl rfl) ?_
  refine tr1 rfl (aC (v := .d (.lit (.int .i64 t19_0_2))) (aA rfl) rfl rfl) ?_
  refine tr1 rfl (aC (v := .d (.lit (.int .i64 week_1))) (aA rfl) rfl rfl) ?_
  obtain ⟨r6, h7, h⟩ := bind_some h
  refine tr1 rfl (iT (aA rfl) (.func _ _ Try.call72) rfl rfl (uD _ _ _ h7)) ?_
  refine tr1 rfl (aJ (v := .d (.sl 5 (r6.map aB))) (aA rfl) rfl rfl) ?_
  refine aF ?_
  refine aG ?_
  refine aG ?_
  refine aE ?_
  refine tr1 rfl (aC (v := .cp [.lit (.int .i64 b_0.Ledger.Players), .lit (.int .i64 b_0.Ledger.Counts), .sl 5 (b_0.Ledger.Reports.map aB), .sl 3 (b_0.Ledger.Bans.map aK), .sl 3 (b_0.Ledger.Frozen.map aK)]) (aA rfl) rfl rfl) ?_
  refine tr1 rfl (qW (aA rfl) rfl) ?_
  refine tr1 rfl (bZ (aA rfl) rfl jO (es := [.lit (.int .i64 b_0.Ledger.Players), .lit (.int .i64 b_0.Ledger.Counts), .sl 5 (b_0.Ledger.Reports.map aB), .sl 3 (b_0.Ledger.Bans.map aK), .sl 3 (b_0.Ledger.Frozen.map aK)]) rfl) ?_
  refine tr1 rfl (bZ (aA rfl) rfl lH (es := [.sl 3 (b_0.Ledger.Bans.map aK)]) rfl) ?_
  refine tr1 rfl (bX (aA rfl) rfl jA) ?_
  refine tr1 rfl (aC (v := .d (.lit (.int .i64 t19_0_2))) (aA rfl) rfl rfl) ?_
  refine tr1 rfl (aC (v := .d (.lit (.int .i64 week_1))) (aA rfl) rfl rfl) ?_
  obtain ⟨r8, h9, h⟩ := bind_some h
  refine tr1 rfl (cC (aA rfl) (.func _ _ Try.call48) rfl rfl (BVs.refl _ _) (wB _ _ _ h9) rfl) ?_
  refine tr1 rfl (aC (v := .d (.lit (.bool r8))) (aA rfl) rfl rfl) ?_
  obtain ⟨b10, h11, h⟩ := bind_some h
  refine cA 4 [0, 1, 5, 6, 7, 18, 19] 38 b10 ?_ ?_
  ·refine bF (r8) (fun c28 => ?_) (fun c28 => ?_)
   ·have h11 := aT c28 h11
    refine aR rfl rfl (aA rfl) rfl (aA rfl) rfl c28 ?_
    refine aR rfl rfl (aA rfl) rfl (aA rfl) rfl c28 ?_
    refine aR rfl rfl (aA rfl) rfl (aA rfl) rfl c28 ?_
    refine tr1 rfl (bN (v := .d (.lit (.bool true))) (aA rfl) rfl c28 rfl rfl) ?_
    have h11 := Option.some.inj h11
    subst h11
    refine aF (bB rfl ⟨rfl, rfl, rfl, rfl, rfl, rfl, rfl, trivial⟩ rfl)
   ·have h11 := aS c28 h11
    refine aO rfl rfl (aA rfl) rfl c28 (aC (v := .d (.sl 5 (r6.map aB))) (aA rfl) rfl rfl) ?_
    refine aO rfl rfl (aA rfl) rfl c28 (cX (aA rfl) rfl bR.of) ?_
    refine aO rfl rfl (aA rfl) rfl c28 (bC (aA rfl) rfl rfl rfl) ?_
    refine tr1 rfl (bP (v := .d (.lit (.bool ((decide ((r6.length : Int) = 0)))))) (aA rfl) rfl c28 rfl rfl) ?_
    have h11 := Option.some.inj h11
    subst h11
    refine aF (bB rfl ⟨rfl, rfl, rfl, rfl, rfl, rfl, rfl, trivial⟩ rfl)
  ·refine aF ?_
   refine bJ rfl (fun c12 => ?_) (fun c12 => ?_)
   ·have h := aT c12 h
    refine cN ?_
    refine .inl ⟨rfl, ?_⟩
    simp only [kS] at h
    refine aE ?_
    refine tr1 rfl (aZ (aA rfl) rfl rfl rfl) ?_
    refine tr1 rfl (aC (v := .d (.lit (.int .i64 ((w64 (t19_0_2 + 1)))))) (aA rfl) rfl rfl) ?_
    refine aF ?_
    exact ⟨(w64 (t19_0_2 + 1), lines_0_2, w3), h, aX [0] rfl rfl (aM rfl (aM rfl (aV ⟨rfl, rfl, rfl, trivial⟩)))⟩
   ·have h := aS c12 h
    refine bG ?_
    refine aG ?_
    refine aE ?_
    refine tr1 rfl (aC (v := .d (.lit (.int .i64 t19_0_2))) (aA rfl) rfl rfl) ?_
    refine tr1 rfl (aC (v := .cp [.lit (.int .i64 b_0.Ledger.Players), .lit (.int .i64 b_0.Ledger.Counts), .sl 5 (b_0.Ledger.Reports.map aB), .sl 3 (b_0.Ledger.Bans.map aK), .sl 3 (b_0.Ledger.Frozen.map aK)]) (aA rfl) rfl rfl) ?_
    refine tr1 rfl (aC (v := .d (.sl 5 (r6.map aB))) (aA rfl) rfl rfl) ?_
    obtain ⟨r13, h14, h⟩ := bind_some h
    refine tr1 rfl (iT (aA rfl) (.func _ _ Try.call71) rfl rfl (uE _ _ h14)) ?_
    obtain ⟨r15, h16, h⟩ := bind_some h
    refine tr1 rfl (cC (aA rfl) (.func _ _ Try.call86) rfl rfl (BVs.refl _ _) (aBu _ h16) rfl) ?_
    refine tr1 rfl (aC (v := .d (.sl 5 (r6.map aB))) (aA rfl) rfl rfl) ?_
    refine tr1 rfl (cX (aA rfl) rfl bR.of) ?_
    refine tr1 rfl (mY (aA rfl) aKh (zs := [.lit (.int .i64 0), .lit (.int .i64 0), .lit (.int .i64 0), .lit (.int .i64 0)]) rfl rfl rfl rfl (es := [.lit (.int .i64 t19_0_2), .lit (.int .i64 r15), .lit (.int .i64 0), .lit (.int .i64 ((r6.length : Int)))]) rfl) ?_
    refine bW rfl (fV (zs := [.lit (.int .i64 0), .lit (.int .i64 0), .lit (.int .i64 0), .lit (.int .i64 0)]) (aA rfl) Try.zeroValue114 rfl rfl) ?_
    rintro _ ⟨b17, rfl⟩
    refine tr1 rfl (cD (i := 1) rfl rfl rfl rfl rfl Try.sizeOf114 rfl (aA rfl) (Nat.le_of_ble_eq_true rfl) (ds' := (bT (bE.mk t19_0_2 r15 0 (r6.length : Int)))) rfl) ?_
    refine aF ?_
    refine aG ?_
    refine aG ?_
    refine aE ?_
    refine tr1 rfl (aC (v := .d (.sl 5 (r6.map aB))) (aA rfl) rfl rfl) ?_
    refine tr1 rfl (cX (aA rfl) rfl bR.of) ?_
    refine tr1 rfl (aC (v := .d (.lit (.int .i64 0))) (aA rfl) rfl rfl) ?_
    refine aF ?_
    refine bQ ?_
    refine cG [0, 1, 5, 8, 18, 19, 47, 48] (fun (s18 : Int × bE) => [(49, .d (.lit (.int .i64 s18.1)))]) (fun (s18 : Int × bE) => [.arr w3 114 4 (lines_0_2.map bT), .box b17 0 (bT s18.2)]) (fun (k : Nat) (s18 : Int × bE) => iG (fH b_0 week_1 b_0.Ledger.Players k4) b_0 week_1 b_0.Ledger.Players t19_0_2 r6 (r6.length : Int) lines_0_2 k s18.1 s18.2) (fun _ => rfl) (0, (bE.mk t19_0_2 r15 0 (r6.length : Int))) h (aX [0, 1] rfl rfl (aM rfl (aV ⟨rfl, rfl, rfl, rfl, rfl, rfl, rfl, rfl, trivial⟩))) ?_
    rintro k19 ⟨t49_2_18, x_2_18⟩ h
    simp only [iG] at h
    refine aG ?_
    refine aE ?_
    refine tr1 rfl (bC (aA rfl) rfl rfl rfl) ?_
    refine aF ?_
    refine aG ?_
    refine bJ rfl (fun c20 => ?_) (fun c20 => ?_)
    ·have h := aT c20 h
     refine bG ?_
     refine aG ?_
     refine bQ ?_
     refine aG ?_
     refine aE ?_
     obtain ⟨x21, h22, h⟩ := bind_some h
     refine tr1 rfl (bO (aA rfl) rfl rfl bR.of (bI aB h22)) ?_
     refine tr1 rfl (fJ (aA rfl) rfl dY (es := (aB x21)) rfl rfl) ?_
     refine bW rfl (fV (zs := [.lit (.int .i64 0), .lit (.int .i64 0), .lit (.int .i64 0), .lit (.int .i64 0), .lit (.bool false)]) (aA rfl) Try.zeroValue42 rfl rfl) ?_
     rintro _ ⟨b23, rfl⟩
     refine tr1 rfl (cD (i := 2) rfl rfl rfl rfl rfl Try.sizeOf42 rfl (aA rfl) (Nat.le_of_ble_eq_true rfl) (ds' := (aB x21)) rfl) ?_
     refine aF ?_
     refine aG ?_
     refine aE ?_
     refine tr1 rfl (aU (aA rfl) rfl kH) ?_
     refine tr1 rfl (aW (aA rfl) rfl (i := 2) rfl rfl nW) ?_
     refine aF ?_
     refine bJ rfl (fun c24 => ?_) (fun c24 => ?_)
     ·have h := aT c24 h
      refine aE ?_
      refine tr1 rfl (aU (aA rfl) rfl vM) ?_
      refine tr1 rfl (aW (aA rfl) rfl (i := 1) rfl rfl bH) ?_
      refine tr1 rfl (aU (aA rfl) rfl iK) ?_
      refine tr1 rfl (aW (aA rfl) rfl (i := 2) rfl rfl bH) ?_
      refine tr1 rfl (aZ (aA rfl) rfl rfl rfl) ?_
      refine tr1 rfl (aU (aA rfl) rfl vM) ?_
      refine tr1 rfl (cD (i := 1) rfl rfl rfl rfl rfl Try.sizeOf3 rfl (aA rfl) (Nat.le_of_ble_eq_true rfl) (ds' := (bT (bE.mk x_2_18.player x_2_18.points (w64 (x_2_18.musts + x21.Points)) x_2_18.many))) rfl) ?_
      refine dG ?_
      refine aE ?_
      refine tr1 rfl (aZ (aA rfl) rfl rfl rfl) ?_
      refine tr1 rfl (aC (v := .d (.lit (.int .i64 ((w64 (t49_2_18 + 1)))))) (aA rfl) rfl rfl) ?_
      refine aF ?_
      exact ⟨(w64 (t49_2_18 + 1), (bE.mk x_2_18.player x_2_18.points (w64 (x_2_18.musts + x21.Points)) x_2_18.many)), h, aX [0, 1] rfl rfl (aM rfl (aV ⟨rfl, rfl, rfl, rfl, rfl, rfl, rfl, rfl, trivial⟩))⟩
     ·have h := aS c24 h
      refine dS ?_
      refine aE ?_
      refine tr1 rfl (aZ (aA rfl) rfl rfl rfl) ?_
      refine tr1 rfl (aC (v := .d (.lit (.int .i64 ((w64 (t49_2_18 + 1)))))) (aA rfl) rfl rfl) ?_
      refine aF ?_
      exact ⟨(w64 (t49_2_18 + 1), x_2_18), h, aX [0, 1] rfl rfl (aM rfl (aV ⟨rfl, rfl, rfl, rfl, rfl, rfl, rfl, rfl, trivial⟩))⟩
    ·have h := aS c20 h
     refine cN ?_
     refine .inl ⟨rfl, ?_⟩
     simp only [oS] at h
     refine aE ?_
     refine tr1 rfl (aC (v := .d (.lit w3)) (aA rfl) rfl rfl) ?_
     refine tr1 rfl (cH (aA rfl) rfl (i := 1) rfl uK (es := (bT x_2_18)) rfl rfl) ?_
     refine tr1 rfl (iL (aA rfl) qP rfl rfl (rows := ([x_2_18]).map bT) rfl (cP (f := bT) fun _ => rfl) rfl (by decide)) ?_
     obtain ⟨x25, h26, h⟩ := bind_some h
     refine bW rfl (gQ (i := 0) (aA rfl) qP rfl rfl rfl (fun _ => rfl) h26 rfl) ?_
     rintro _ ⟨v27, rfl⟩
     refine tr1 rfl (aJ (v := .d (.lit v27)) (aA rfl) rfl rfl) ?_
     refine dG ?_
     simp only [kS] at h
     refine aE ?_
     refine tr1 rfl (aZ (aA rfl) rfl rfl rfl) ?_
     refine tr1 rfl (aC (v := .d (.lit (.int .i64 ((w64 (t19_0_2 + 1)))))) (aA rfl) rfl rfl) ?_
     refine aF ?_
     exact ⟨(w64 (t19_0_2 + 1), x25, v27), h, aX [0] rfl rfl (aM rfl (aM rfl (aV ⟨rfl, rfl, rfl, trivial⟩)))⟩
 ·have h := aS c5 h
  refine cN ?_
  refine .inl ⟨rfl, ?_⟩
  simp only [mM] at h
  refine aG ?_
  refine aE ?_
  refine tr1 rfl (aC (v := .d (.lit w3)) (aA rfl) rfl rfl) ?_
  obtain ⟨r31, h32, h⟩ := bind_some h
  refine bW rfl (dX (passed := [.arr w3 114 4 (lines_0_2.map bT)]) (aA rfl) rfl (.func _ _ Try.call87) rfl rfl (tX lines_0_2 (fun y29 y30 => kU y29 y30) 88 [] Try.call88 (fun _ _ _ h => xX _ _ h) h32)) ?_
  rintro _ ⟨_, _, ⟨rfl, rfl⟩, rfl⟩
  refine aF ?_
  refine aG ?_
  refine aE ?_
  refine tr1 rfl (jE 3 1 (.inl rfl) (aA rfl)) ?_
  refine aF ?_
  refine aG ?_
  refine aG ?_
  refine aE ?_
  refine tr1 rfl (aC (v := .d (.lit w3)) (aA rfl) rfl rfl) ?_
  refine tr1 rfl (lR (m := 0) (aA rfl) rfl rfl qP.of) ?_
  refine tr1 rfl (aC (v := .d (.lit (.int .i64 0))) (aA rfl) rfl rfl) ?_
  refine aF ?_
  refine bQ ?_
  refine cG [69, 70] (fun (s34 : Int × (List Int) × Value) => [(11, .d (.lit s34.2.2)), (71, .d (.lit (.int .i64 s34.1)))]) (fun (s34 : Int × (List Int) × Value) => [.arr w3 114 4 (r31.map bT), .arr s34.2.2 3 1 (s34.2.1.map bY)]) (fun (k : Nat) (s34 : Int × (List Int) × Value) => jP (r31.length : Int) r31 k s34.1 s34.2.1) (fun _ => rfl) (0, ([] : List Int), (.slice none 0 0)) h (aX [0, 1] rfl rfl (aM rfl (aM rfl (aV ⟨rfl, rfl, trivial⟩)))) ?_
  rintro k36 ⟨t71_4_34, out_4_34, w35⟩ h
  simp only [jP] at h
  refine aG ?_
  refine aE ?_
  refine tr1 rfl (bC (aA rfl) rfl rfl rfl) ?_
  refine aF ?_
  refine aG ?_
  refine bJ rfl (fun c37 => ?_) (fun c37 => ?_)
  ·have h := aT c37 h
   refine bG ?_
   refine aG ?_
   refine bQ ?_
   refine aG ?_
   refine aE ?_
   obtain ⟨x38, h39, h⟩ := bind_some h
   refine tr1 rfl (cL (m := 0) (aA rfl) rfl rfl rfl qP.of (bI bT h39)) ?_
   refine tr1 rfl (dJ (aA rfl) rfl (l := 0) rfl (eF bT h39) uK (es := (bT x38)) rfl rfl) ?_
   refine bW rfl (fV (zs := [.lit (.int .i64 0), .lit (.int .i64 0), .lit (.int .i64 0), .lit (.int .i64 0)]) (aA rfl) Try.zeroValue114 rfl rfl) ?_
   rintro _ ⟨b40, rfl⟩
   refine tr1 rfl (cD (i := 2) rfl rfl rfl rfl rfl Try.sizeOf114 rfl (aA rfl) (Nat.le_of_ble_eq_true rfl) (ds' := (bT x38)) rfl) ?_
   refine aF ?_
   refine aE ?_
   refine tr1 rfl (aC (v := .d (.lit w35)) (aA rfl) rfl rfl) ?_
   refine tr1 rfl (aU (aA rfl) rfl yM) ?_
   refine tr1 rfl (aW (aA rfl) rfl (i := 2) rfl rfl bH) ?_
   refine tr1 rfl (iL (aA rfl) dK rfl rfl (rows := ([x38.player]).map bY) rfl (cP (f := bY) fun _ => rfl) rfl (by decide)) ?_
   obtain ⟨x41, h42, h⟩ := bind_some h
   refine bW rfl (gQ (i := 1) (aA rfl) dK rfl rfl rfl (fun _ => rfl) h42 rfl) ?_
   rintro _ ⟨v43, rfl⟩
   refine tr1 rfl (aJ (v := .d (.lit v43)) (aA rfl) rfl rfl) ?_
   refine dG ?_
   refine aE ?_
   refine tr1 rfl (aZ (aA rfl) rfl rfl rfl) ?_
   refine tr1 rfl (aC (v := .d (.lit (.int .i64 ((w64 (t71_4_34 + 1)))))) (aA rfl) rfl rfl) ?_
   refine aF ?_
   exact ⟨(w64 (t71_4_34 + 1), x41, v43), h, aX [0, 1] rfl rfl (aM rfl (aM rfl (aV ⟨rfl, rfl, trivial⟩)))⟩
  ·have h := aS c37 h
   refine cN ?_
   refine .inl ⟨rfl, ?_⟩
   simp only [rC] at h
   refine aG ?_
   refine aE ?_
   refine tr1 rfl (aC (v := .d (.lit w35)) (aA rfl) rfl rfl) ?_
   refine tr1 rfl (aJ (v := .d (.lit w35)) (aA rfl) rfl rfl) ?_
   refine aF ?_
   have h := Option.some.inj h
   subst h
   refine cR (cE (gM (k := 4) (v := .d (.sl 1 (out_4_34.map bY))) (.d (hO 1 rfl (cP (f := bY) fun _ => rfl))) (uL))) ?_
   exact bM ⟨rfl, _, .one _, rfl, rfl⟩

theorem aFf (l_0 : aL) (week_1 : Int) {r : (List Int) × Int} (h : yW l_0 week_1 = some r) : Fn Try.prog 27 [.agg (aN l_0), .d (.lit (.int .i64 week_1))] (.tup [.d (.sl 1 (r.1.map bY)), .d (.lit (.int .i64 r.2))]) := by
 unfold yW at h
 refine Fn.of_tr Try.func27 rfl (rs := [.tmp 4, .tmp 5]) Try.results27 Try.ntmps27 (Nat.le_of_ble_eq_true rfl) ?_
 refine aG ?_
 refine aE ?_
 refine bW rfl (eN (v := .agg (aN l_0)) (aA rfl) rfl rfl rfl) ?_
 rintro _ ⟨b1, rfl⟩
 refine tr1 rfl (qB 1 (aA rfl)) ?_
 refine tr1 rfl (aJ (v := .d (.lit (.int .i64 0))) (aA rfl) rfl rfl) ?_
 refine aF ?_
 refine aG ?_
 refine aE ?_
 refine tr1 rfl (cH (aA rfl) rfl (i := 0) rfl dW (es := (aN l_0)) rfl rfl) ?_
 refine tr1 rfl (aC (v := .d (.lit (.int .i64 week_1))) (aA rfl) rfl rfl) ?_
 obtain ⟨r2, h3, h⟩ := bind_some h
 refine bW rfl (dX (passed := []) (aA rfl) rfl (.func _ _ Try.call44) rfl rfl (xE _ _ _ h3)) ?_
 rintro _ ⟨_, _, ⟨b5, w6, rfl, rfl⟩, rfl⟩
 obtain ⟨_ | y4, e7⟩ := r2
 ·have h := aBp h
  refine gN (aX [0] rfl rfl (le_refl _)) ?_
  refine tr1 rfl (aC (v := .tup [.d (.lit (.pointer none)), .d (.lit (.int .i64 e7))]) (aA rfl) rfl rfl) ?_
  refine tr1 rfl (dA (aA rfl) rfl rfl) ?_
  refine tr1 rfl (dA (aA rfl) rfl rfl) ?_
  refine tr1 rfl (aJ (v := .d (.lit (.pointer none))) (aA rfl) rfl rfl) ?_
  refine tr1 rfl (aJ (v := .d (.lit (.int .i64 e7))) (aA rfl) rfl rfl) ?_
  refine aF ?_
  refine aG ?_
  refine aG ?_
  refine aE ?_
  refine tr1 rfl (aC (v := .d (.lit (.int .i64 e7))) (aA rfl) rfl rfl) ?_
  refine tr1 rfl (bC (aA rfl) rfl rfl rfl) ?_
  refine aF ?_
  refine bJ rfl (fun c8 => ?_) (fun c8 => ?_)
  ·have h := aT c8 h
   refine aG ?_
   refine aE ?_
   refine tr1 rfl (aC (v := .d (.lit (.int .i64 e7))) (aA rfl) rfl rfl) ?_
   refine tr1 rfl (qB 1 (aA rfl)) ?_
   refine tr1 rfl (aJ (v := .d (.lit (.int .i64 e7))) (aA rfl) rfl rfl) ?_
   refine aF ?_
   have h := Option.some.inj h
   subst h
   refine cR (cE (cM (l := [4, 5]) ⟨rfl, rfl, trivial⟩)) ?_
   exact bM ⟨rfl, _, .two _ _, rfl, rfl⟩
  ·have h := aS c8 h
   refine bG ?_
   refine aG ?_
   refine aE ?_
   refine tr1 rfl (aC (v := .d (.lit (.pointer none))) (aA rfl) rfl rfl) ?_
   refine tr1 rfl (aC (v := .d (.lit (.int .i64 week_1))) (aA rfl) rfl rfl) ?_
   cases h
 ·have h := aBq h
  refine gN (aX [0, 1, 2] rfl rfl (le_refl _)) ?_
  refine tr1 rfl (aC (v := .tup [.bp b5 0 0, .d (.lit (.int .i64 e7))]) (aA rfl) rfl rfl) ?_
  refine tr1 rfl (dA (aA rfl) rfl rfl) ?_
  refine tr1 rfl (dA (aA rfl) rfl rfl) ?_
  refine tr1 rfl (aJ (v := .bp b5 0 0) (aA rfl) rfl rfl) ?_
  refine tr1 rfl (aJ (v := .d (.lit (.int .i64 e7))) (aA rfl) rfl rfl) ?_
  refine aF ?_
  refine aG ?_
  refine aG ?_
  refine aE ?_
  refine tr1 rfl (aC (v := .d (.lit (.int .i64 e7))) (aA rfl) rfl rfl) ?_
  refine tr1 rfl (bC (aA rfl) rfl rfl rfl) ?_
  refine aF ?_
  refine bJ rfl (fun c9 => ?_) (fun c9 => ?_)
  ·have h := aT c9 h
   refine aG ?_
   refine aE ?_
   refine tr1 rfl (aC (v := .d (.lit (.int .i64 e7))) (aA rfl) rfl rfl) ?_
   refine tr1 rfl (qB 1 (aA rfl)) ?_
   refine tr1 rfl (aJ (v := .d (.lit (.int .i64 e7))) (aA rfl) rfl rfl) ?_
   refine aF ?_
   have h := Option.some.inj h
   subst h
   refine cR (cE (cM (l := [4, 5]) ⟨rfl, rfl, trivial⟩)) ?_
   exact bM ⟨rfl, _, .two _ _, rfl, rfl⟩
  ·have h := aS c9 h
   refine bG ?_
   refine aG ?_
   refine aE ?_
   refine tr1 rfl (aC (v := .bp b5 0 0) (aA rfl) rfl rfl) ?_
   refine tr1 rfl (aC (v := .d (.lit (.int .i64 week_1))) (aA rfl) rfl rfl) ?_
   refine gN (aX [2, 0, 1] rfl rfl (le_refl _)) ?_
   apply aGh [.box b1 0 (aN l_0)] [.box b5 0 [.lit (.int .i64 y4.Ledger.Players), .lit (.int .i64 y4.Ledger.Counts), .lit w6, .sl 3 (y4.Ledger.Bans.map aK), .sl 3 (y4.Ledger.Frozen.map aK)], .arr w6 42 5 (y4.Ledger.Reports.map aB)] rfl
   exact gM (k := 17) (v := .cp [.lit (.int .i64 y4.Ledger.Players), .lit (.int .i64 y4.Ledger.Counts), .sl 5 (y4.Ledger.Reports.map aB), .sl 3 (y4.Ledger.Bans.map aK), .sl 3 (y4.Ledger.Frozen.map aK)]) ((rM 0 rfl rfl (dvc (.same _) (dvc (.same _) (dvc (hO 1 rfl (cP (f := aB) fun _ => rfl)) (dvc (.same _) (dvc (.same _) dvn))))))) (gM (k := 12) (v := .cp [.lit (.int .i64 y4.Ledger.Players), .lit (.int .i64 y4.Ledger.Counts), .sl 5 (y4.Ledger.Reports.map aB), .sl 3 (y4.Ledger.Bans.map aK), .sl 3 (y4.Ledger.Frozen.map aK)]) ((rM 0 rfl rfl (dvc (.same _) (dvc (.same _) (dvc (hO 1 rfl (cP (f := aB) fun _ => rfl)) (dvc (.same _) (dvc (.same _) dvn))))))) (gM (k := 11) (v := .any) (.any _) (gM (k := 8) (v := .any) (.any _) (gM (k := 6) (v := .cp [.lit (.int .i64 y4.Ledger.Players), .lit (.int .i64 y4.Ledger.Counts), .sl 5 (y4.Ledger.Reports.map aB), .sl 3 (y4.Ledger.Bans.map aK), .sl 3 (y4.Ledger.Frozen.map aK)]) ((rM 0 rfl rfl (dvc (.same _) (dvc (.same _) (dvc (hO 1 rfl (cP (f := aB) fun _ => rfl)) (dvc (.same _) (dvc (.same _) dvn))))))) (oX _ _)))))
   obtain ⟨r10, h11, h⟩ := bind_some h
   refine tr1 rfl (iT (aA rfl) (.func _ _ Try.call59) rfl rfl (vB _ _ h11)) ?_
   refine tr1 rfl (aJ (v := .d (.sl 1 (r10.map bY))) (aA rfl) rfl rfl) ?_
   refine tr1 rfl (aJ (v := .d (.lit (.int .i64 0))) (aA rfl) rfl rfl) ?_
   refine aF ?_
   have h := Option.some.inj h
   subst h
   refine cR (cE (cM (l := [4, 5]) ⟨rfl, rfl, trivial⟩)) ?_
   exact bM ⟨rfl, _, .two _ _, rfl, rfl⟩

theorem wE (s_0 : List Int) (f_1 : Int → Option Bool) {r : Int} (f_1_f : Nat) (f_1_v : List AV) (f_1_e : ∀ args w, (callFunc f_1_f args).run Try.prog w = .ok (.enter f_1_f args) w) (f_1_h : ∀ (x0 : Int) r, f_1 x0 = some r → Fn Try.prog f_1_f ([.d (.lit (.int .i64 x0))] ++ f_1_v) (.d (.lit (.bool r)))) (h : kL s_0 f_1 = some r) : Fn Try.prog 81 [.d (.sl 1 (s_0.map bY)), .fn f_1_f f_1_v] (.d (.lit (.int .i64 r))) := by
 unfold kL at h
 refine Fn.of_tr Try.func81 rfl (rs := [.tmp 4]) Try.results81 Try.ntmps81 (Nat.le_of_ble_eq_true rfl) ?_
 refine aG ?_
 refine aE ?_
 refine tr1 rfl (aJ (v := .d (.lit (.int .i64 0))) (aA rfl) rfl rfl) ?_
 refine aF ?_
 refine aG ?_
 refine aG ?_
 refine aE ?_
 refine tr1 rfl (aC (v := .d (.sl 1 (s_0.map bY))) (aA rfl) rfl rfl) ?_
 refine tr1 rfl (cX (aA rfl) rfl dK.of) ?_
 refine tr1 rfl (aC (v := .d (.lit (.int .i64 0))) (aA rfl) rfl rfl) ?_
 refine aF ?_
 refine bQ ?_
 refine cG [0, 1, 7] (fun (s1 : Int) => [(8, .d (.lit (.int .i64 s1)))]) (fun (s1 : Int) => []) (fun (k : Nat) (s1 : Int) => gB s_0 f_1 (s_0.length : Int) k s1) (fun _ => rfl) (0) h (aX [] rfl rfl (aM rfl (aV ⟨rfl, rfl, rfl, trivial⟩))) ?_
 rintro k2 t8_0_1 h
 simp only [gB] at h
 refine aG ?_
 refine aE ?_
 refine tr1 rfl (bC (aA rfl) rfl rfl rfl) ?_
 refine aF ?_
 refine aG ?_
 refine bJ rfl (fun c3 => ?_) (fun c3 => ?_)
 ·have h := aT c3 h
  refine bG ?_
  refine aG ?_
  refine bQ ?_
  refine aG ?_
  refine aE ?_
  refine tr1 rfl (aC (v := .d (.lit (.int .i64 t8_0_1))) (aA rfl) rfl rfl) ?_
  refine tr1 rfl (aJ (v := .d (.lit (.int .i64 t8_0_1))) (aA rfl) rfl rfl) ?_
  refine aF ?_
  refine aG ?_
  refine aE ?_
  refine tr1 rfl (aC (v := .fn f_1_f f_1_v) (aA rfl) rfl rfl) ?_
  refine tr1 rfl (aC (v := .d (.sl 1 (s_0.map bY))) (aA rfl) rfl rfl) ?_
  refine tr1 rfl (aC (v := .d (.lit (.int .i64 t8_0_1))) (aA rfl) rfl rfl) ?_
  obtain ⟨x4, h5, h⟩ := bind_some h
  refine tr1 rfl (bO (aA rfl) rfl rfl dK.of (bI bY h5)) ?_
  refine tr1 rfl (bX (aA rfl) rfl bH) ?_
  obtain ⟨r6, h7, h⟩ := bind_some h
  refine tr1 rfl (cC (aA rfl) (.clo _ _ _ _ f_1_e rfl) (uS rfl) rfl (BVs.refl _ _) (f_1_h _ _  h7) rfl) ?_
  refine aF ?_
  refine bJ rfl (fun c8 => ?_) (fun c8 => ?_)
  ·have h := aT c8 h
   refine aG ?_
   refine aE ?_
   refine tr1 rfl (aC (v := .d (.lit (.int .i64 t8_0_1))) (aA rfl) rfl rfl) ?_
   refine tr1 rfl (aJ (v := .d (.lit (.int .i64 t8_0_1))) (aA rfl) rfl rfl) ?_
   refine aF ?_
   have h := Option.some.inj h
   subst h
   exact bM ⟨rfl, _, .one _, rfl, rfl⟩
  ·have h := aS c8 h
   refine dS ?_
   refine aE ?_
   refine tr1 rfl (aZ (aA rfl) rfl rfl rfl) ?_
   refine tr1 rfl (aC (v := .d (.lit (.int .i64 ((w64 (t8_0_1 + 1)))))) (aA rfl) rfl rfl) ?_
   refine aF ?_
   exact ⟨(w64 (t8_0_1 + 1)), h, aX [] rfl rfl (aM rfl (aV ⟨rfl, rfl, rfl, trivial⟩))⟩
 ·have h := aS c3 h
  refine cN ?_
  refine .inl ⟨rfl, ?_⟩
  simp only [nP] at h
  refine aG ?_
  refine aE ?_
  refine tr1 rfl (aJ (v := .d (.lit (.int .i64 (-1)))) (aA rfl) rfl rfl) ?_
  refine aF ?_
  have h := Option.some.inj h
  subst h
  exact bM ⟨rfl, _, .one _, rfl, rfl⟩

theorem qC (s_0 : List Int) (f_1 : Int → Option Bool) {r : Bool} (f_1_f : Nat) (f_1_v : List AV) (f_1_e : ∀ args w, (callFunc f_1_f args).run Try.prog w = .ok (.enter f_1_f args) w) (f_1_h : ∀ (x0 : Int) r, f_1 x0 = some r → Fn Try.prog f_1_f ([.d (.lit (.int .i64 x0))] ++ f_1_v) (.d (.lit (.bool r)))) (h : gA s_0 f_1 = some r) : Fn Try.prog 45 [.d (.sl 1 (s_0.map bY)), .fn f_1_f f_1_v] (.d (.lit (.bool r))) := by
 unfold gA at h
 refine Fn.of_tr Try.func45 rfl (rs := [.tmp 4]) Try.results45 Try.ntmps45 (Nat.le_of_ble_eq_true rfl) ?_
 refine aG ?_
 refine aE ?_
 refine tr1 rfl (aJ (v := .d (.lit (.bool false))) (aA rfl) rfl rfl) ?_
 refine aF ?_
 refine aG ?_
 refine aE ?_
 refine tr1 rfl (aC (v := .d (.sl 1 (s_0.map bY))) (aA rfl) rfl rfl) ?_
 refine tr1 rfl (aC (v := .fn f_1_f f_1_v) (aA rfl) rfl rfl) ?_
 obtain ⟨r1, h2, h⟩ := bind_some h
 refine tr1 rfl (cC (aA rfl) (.func _ _ Try.call81) rfl rfl (BVs.refl _ _) (wE _ _ f_1_f f_1_v f_1_e f_1_h h2) rfl) ?_
 refine tr1 rfl (bC (aA rfl) rfl rfl rfl) ?_
 refine tr1 rfl (aJ (v := .d (.lit (.bool ((decide (0 ≤ r1)))))) (aA rfl) rfl rfl) ?_
 refine aF ?_
 have h := Option.some.inj h
 subst h
 exact bM ⟨rfl, _, .one _, rfl, rfl⟩

theorem wQ (n_0 : Int) {r : Bool} (h : nF n_0 = some r) : Fn Try.prog 46 [.d (.lit (.int .i64 n_0))] (.d (.lit (.bool r))) := by
 unfold nF at h
 refine Fn.of_tr Try.func46 rfl (rs := [.tmp 2]) Try.results46 Try.ntmps46 (Nat.le_of_ble_eq_true rfl) ?_
 refine aG ?_
 refine aE ?_
 refine tr1 rfl (aJ (v := .d (.lit (.bool false))) (aA rfl) rfl rfl) ?_
 refine aF ?_
 refine aG ?_
 refine aE ?_
 refine tr1 rfl (aC (v := .d (.lit (.int .i64 n_0))) (aA rfl) rfl rfl) ?_
 obtain ⟨r1, h2, h⟩ := bind_some h
 refine tr1 rfl (cC (aA rfl) (.func _ _ Try.call47) rfl rfl (BVs.refl _ _) (fC _ _ _ h2) rfl) ?_
 refine tr1 rfl (eM (aA rfl) rfl) ?_
 refine tr1 rfl (aJ (v := .d (.lit (.bool (!r1)))) (aA rfl) rfl rfl) ?_
 refine aF ?_
 have h := Option.some.inj h
 subst h
 exact bM ⟨rfl, _, .one _, rfl, rfl⟩

theorem zF (s_0 : List Int) (v_1 : Int) {r : Int} (h : nH s_0 v_1 = some r) : Fn Try.prog 85 [.d (.sl 1 (s_0.map bY)), .d (.lit (.int .i64 v_1))] (.d (.lit (.int .i64 r))) := by
 unfold nH at h
 refine Fn.of_tr Try.func85 rfl (rs := [.tmp 4]) Try.results85 Try.ntmps85 (Nat.le_of_ble_eq_true rfl) ?_
 refine aG ?_
 refine aE ?_
 refine tr1 rfl (aJ (v := .d (.lit (.int .i64 0))) (aA rfl) rfl rfl) ?_
 refine aF ?_
 refine aG ?_
 refine aG ?_
 refine aE ?_
 refine tr1 rfl (aC (v := .d (.sl 1 (s_0.map bY))) (aA rfl) rfl rfl) ?_
 refine tr1 rfl (cX (aA rfl) rfl dK.of) ?_
 refine tr1 rfl (aC (v := .d (.lit (.int .i64 0))) (aA rfl) rfl rfl) ?_
 refine aF ?_
 refine bQ ?_
 refine cG [0, 1, 7] (fun (s1 : Int) => [(8, .d (.lit (.int .i64 s1)))]) (fun (s1 : Int) => []) (fun (k : Nat) (s1 : Int) => iM s_0 v_1 (s_0.length : Int) k s1) (fun _ => rfl) (0) h (aX [] rfl rfl (aM rfl (aV ⟨rfl, rfl, rfl, trivial⟩))) ?_
 rintro k2 t8_0_1 h
 simp only [iM] at h
 refine aG ?_
 refine aE ?_
 refine tr1 rfl (bC (aA rfl) rfl rfl rfl) ?_
 refine aF ?_
 refine aG ?_
 refine bJ rfl (fun c3 => ?_) (fun c3 => ?_)
 ·have h := aT c3 h
  refine bG ?_
  refine aG ?_
  refine bQ ?_
  refine aG ?_
  refine aE ?_
  refine tr1 rfl (aC (v := .d (.lit (.int .i64 t8_0_1))) (aA rfl) rfl rfl) ?_
  refine tr1 rfl (aJ (v := .d (.lit (.int .i64 t8_0_1))) (aA rfl) rfl rfl) ?_
  refine aF ?_
  refine aG ?_
  refine aE ?_
  refine tr1 rfl (aC (v := .d (.lit (.int .i64 v_1))) (aA rfl) rfl rfl) ?_
  refine tr1 rfl (aC (v := .d (.sl 1 (s_0.map bY))) (aA rfl) rfl rfl) ?_
  refine tr1 rfl (aC (v := .d (.lit (.int .i64 t8_0_1))) (aA rfl) rfl rfl) ?_
  obtain ⟨x4, h5, h⟩ := bind_some h
  refine tr1 rfl (bO (aA rfl) rfl rfl dK.of (bI bY h5)) ?_
  refine tr1 rfl (bX (aA rfl) rfl bH) ?_
  refine tr1 rfl (bC (aA rfl) rfl rfl rfl) ?_
  refine aF ?_
  refine bJ rfl (fun c6 => ?_) (fun c6 => ?_)
  ·have h := aT c6 h
   refine aG ?_
   refine aE ?_
   refine tr1 rfl (aC (v := .d (.lit (.int .i64 t8_0_1))) (aA rfl) rfl rfl) ?_
   refine tr1 rfl (aJ (v := .d (.lit (.int .i64 t8_0_1))) (aA rfl) rfl rfl) ?_
   refine aF ?_
   have h := Option.some.inj h
   subst h
   exact bM ⟨rfl, _, .one _, rfl, rfl⟩
  ·have h := aS c6 h
   refine dS ?_
   refine aE ?_
   refine tr1 rfl (aZ (aA rfl) rfl rfl rfl) ?_
   refine tr1 rfl (aC (v := .d (.lit (.int .i64 ((w64 (t8_0_1 + 1)))))) (aA rfl) rfl rfl) ?_
   refine aF ?_
   exact ⟨(w64 (t8_0_1 + 1)), h, aX [] rfl rfl (aM rfl (aV ⟨rfl, rfl, rfl, trivial⟩))⟩
 ·have h := aS c3 h
  refine cN ?_
  refine .inl ⟨rfl, ?_⟩
  simp only [pZ] at h
  refine aG ?_
  refine aE ?_
  refine tr1 rfl (aJ (v := .d (.lit (.int .i64 (-1)))) (aA rfl) rfl rfl) ?_
  refine aF ?_
  have h := Option.some.inj h
  subst h
  exact bM ⟨rfl, _, .one _, rfl, rfl⟩

theorem zV (b_0 : cB) (player_1 : Int) (week_2 : Int) {r : Int} (h : nY b_0 player_1 week_2 = some r) : Fn Try.prog 51 [.cp (cK b_0), .d (.lit (.int .i64 player_1)), .d (.lit (.int .i64 week_2))] (.d (.lit (.int .i64 r))) := by
 unfold nY at h
 refine Fn.of_tr Try.func51 rfl (rs := [.tmp 6]) Try.results51 Try.ntmps51 (Nat.le_of_ble_eq_true rfl) ?_
 refine aG ?_
 refine aE ?_
 refine tr1 rfl (aJ (v := .d (.lit (.int .i64 0))) (aA rfl) rfl rfl) ?_
 refine aF ?_
 refine aG ?_
 refine aE ?_
 refine tr1 rfl (aC (v := .cp [.lit (.int .i64 b_0.Ledger.Players), .lit (.int .i64 b_0.Ledger.Counts), .sl 5 (b_0.Ledger.Reports.map aB), .sl 3 (b_0.Ledger.Bans.map aK), .sl 3 (b_0.Ledger.Frozen.map aK)]) (aA rfl) rfl rfl) ?_
 refine tr1 rfl (aC (v := .d (.lit (.int .i64 week_2))) (aA rfl) rfl rfl) ?_
 obtain ⟨r1, h2, h⟩ := bind_some h
 refine tr1 rfl (iT (aA rfl) (.func _ _ Try.call59) rfl rfl (vB _ _ h2)) ?_
 refine tr1 rfl (aC (v := .d (.lit (.int .i64 player_1))) (aA rfl) rfl rfl) ?_
 obtain ⟨r3, h4, h⟩ := bind_some h
 refine tr1 rfl (cC (aA rfl) (.func _ _ Try.call85) rfl rfl (BVs.refl _ _) (zF _ _ h4) rfl) ?_
 refine tr1 rfl (aZ (aA rfl) rfl rfl rfl) ?_
 refine tr1 rfl (aJ (v := .d (.lit (.int .i64 ((w64 (r3 + 1)))))) (aA rfl) rfl rfl) ?_
 refine aF ?_
 have h := Option.some.inj h
 subst h
 exact bM ⟨rfl, _, .one _, rfl, rfl⟩

theorem aCl (book : cB) (pl : Int) (wk : Int) (ms : Bool) (be : Int) (wo : Int) {r : Bool × Int × Int} {book_b book_o : Nat} {bb_b bb_o : Nat} {pl_b pl_o : Nat} {wk_b wk_o : Nat} {ms_b ms_o : Nat} {be_b be_o : Nat} {wo_b wo_o : Nat} (h : qJ book pl wk ms be wo = some r) : gC Try.prog 50 [.bp bb_b bb_o 0, .bp pl_b pl_o 0, .bp wk_b wk_o 0, .bp ms_b ms_o 0, .bp be_b be_o 0, .bp wo_b wo_o 0] [.box book_b book_o (cK book), .box bb_b bb_o [hG book_b book_o 0], .box pl_b pl_o [.lit (.int .i64 pl)], .box wk_b wk_o [.lit (.int .i64 wk)], .box ms_b ms_o [.lit (.bool ms)], .box be_b be_o [.lit (.int .i64 be)], .box wo_b wo_o [.lit (.int .i64 wo)]] (fun r' o' => r' = .tup [] ∧ o' = [.box book_b book_o (cK book), .box bb_b bb_o [hG book_b book_o 0], .box pl_b pl_o [.lit (.int .i64 pl)], .box wk_b wk_o [.lit (.int .i64 wk)], .box ms_b ms_o [.lit (.bool r.1)], .box be_b be_o [.lit (.int .i64 r.2.1)], .box wo_b wo_o [.lit (.int .i64 r.2.2)]]) := by
 unfold qJ at h
 refine jW Try.func50 rfl (rs := []) Try.results50 Try.ntmps50 (Nat.le_of_ble_eq_true rfl) ?_
 refine aG ?_
 refine aE ?_
 refine tr1 rfl (tV (i := 1) (aA rfl) rfl rfl rfl wO) ?_
 refine tr1 rfl (aW (aA rfl) rfl (i := 2) rfl rfl bH) ?_
 refine tr1 rfl (aW (aA rfl) rfl (i := 3) rfl rfl bH) ?_
 obtain ⟨r1, h2, h⟩ := bind_some h
 refine tr1 rfl (cC (aA rfl) (.func _ _ Try.call51) rfl rfl (.cons ((rM 0 rfl rfl (dvc (.same _) (dvc (.same _) (dvc (.same _) (dvc (.same _) (dvc (.same _) dvn))))))) (.cons (.same _) (.cons (.same _) .nil))) (zV _ _ _ h2) rfl) ?_
 refine tr1 rfl (aJ (v := .d (.lit (.int .i64 r1))) (aA rfl) rfl rfl) ?_
 refine aF ?_
 refine aG ?_
 refine aE ?_
 refine tr1 rfl (aW (aA rfl) rfl (i := 4) rfl rfl nW) ?_
 refine tr1 rfl (aC (v := .d (.lit (.bool ms))) (aA rfl) rfl rfl) ?_
 obtain ⟨b3, h4, h⟩ := bind_some h
 refine cA 3 [3, 4, 5, 6] 15 b3 ?_ ?_
 ·refine bF (ms) (fun c6 => ?_) (fun c6 => ?_)
  ·have h4 := aT c6 h4
   refine aR rfl rfl (aA rfl) rfl (aA rfl) rfl c6 ?_
   refine aR rfl rfl (aA rfl) rfl (aA rfl) rfl c6 ?_
   refine tr1 rfl (bN (v := .d (.lit (.bool true))) (aA rfl) rfl c6 rfl rfl) ?_
   have h4 := Option.some.inj h4
   subst h4
   refine aF (bB rfl ⟨rfl, rfl, rfl, rfl, trivial⟩ rfl)
  ·have h4 := aS c6 h4
   refine aO rfl rfl (aA rfl) rfl c6 (aC (v := .d (.lit (.int .i64 r1))) (aA rfl) rfl rfl) ?_
   refine aO rfl rfl (aA rfl) rfl c6 (bC (aA rfl) rfl rfl rfl) ?_
   refine tr1 rfl (bP (v := .d (.lit (.bool ((decide (r1 = 0)))))) (aA rfl) rfl c6 rfl rfl) ?_
   have h4 := Option.some.inj h4
   subst h4
   refine aF (bB rfl ⟨rfl, rfl, rfl, rfl, trivial⟩ rfl)
 ·refine tr1 rfl (cD (i := 4) rfl rfl rfl rfl rfl Try.sizeOf4 rfl (aA rfl) (Nat.le_of_ble_eq_true rfl) (ds' := [.lit (.bool b3)]) rfl) ?_
  refine aF ?_
  refine lZ mix 7 [5] (fun X5 => [(21, .d (.lit (.int .i64 ((max wo r1)))))]) (fun X5 => [.box book_b book_o (cK book), .box bb_b bb_o [hG book_b book_o 0], .box pl_b pl_o [.lit (.int .i64 pl)], .box wk_b wk_o [.lit (.int .i64 wk)], .box ms_b ms_o [.lit (.bool b3)], .box be_b be_o [.lit (.int .i64 ((min be r1)))], .box wo_b wo_o [.lit (.int .i64 wo)]]) ?_ ?_
  ·refine ⟨0, fun X5 => [(16, 0, .d (.lit (.int .i64 be))), (17, 1, .d (.lit (.int .i64 r1))), (18, 2, .d (.lit (.int .i64 ((min be r1))))), (19, 3, .d (.lit (.int .i64 wo))), (20, 4, .d (.lit (.int .i64 r1))), (21, 5, .d (.lit (.int .i64 ((max wo r1)))))], fun X5 => [([], .box book_b book_o (cK book)), ([], .box bb_b bb_o [hG book_b book_o 0]), ([], .box pl_b pl_o [.lit (.int .i64 pl)]), ([], .box wk_b wk_o [.lit (.int .i64 wk)]), ([], .box ms_b ms_o [.lit (.bool b3)]), ([(6, .box be_b be_o [.lit (.int .i64 ((min be r1)))])], .box be_b be_o [.lit (.int .i64 be)]), ([], .box wo_b wo_o [.lit (.int .i64 wo)])], ?_, ?_⟩
   · exact ⟨by kernel_rfl, by kernel_rfl, by kernel_rfl, fun _ => by kernel_rfl, fun _ => by kernel_rfl, fun _ => by kernel_rfl, fun _ => rfl, [([], [6]), ([], [6]), ([0, 1], [6]), ([], []), ([], []), ([3, 4], []), ([2], [])], by kernel_rfl, ⟨fun X5 S hw hi hS => bL (X := X5) rfl (hw X5) rfl (aQ rfl (aW (aA rfl) (aH hS rfl) (i := 5) (og hS rfl rfl) rfl bH)),
      fun X5 S hw hi hS => bL (X := X5) rfl (hw X5) rfl (aQ rfl (aC (v := .d (.lit (.int .i64 r1))) (aA rfl) (aH hS rfl) rfl)),
      fun X5 S hw hi hS => bL (X := X5) rfl (hw X5) rfl (aQ rfl (aHc (aA rfl) (aH hS rfl) (aH hS rfl))),
      fun X5 S hw hi hS => bL (X := X5) rfl (hw X5) rfl (aQ rfl (aW (aA rfl) (aH hS rfl) (i := 6) (og hS rfl rfl) rfl bH)),
      fun X5 S hw hi hS => bL (X := X5) rfl (hw X5) rfl (aQ rfl (aC (v := .d (.lit (.int .i64 r1))) (aA rfl) (aH hS rfl) rfl)),
      fun X5 S hw hi hS => bL (X := X5) rfl (hw X5) rfl (aQ rfl (xJ (aA rfl) (aH hS rfl) (aH hS rfl))),
      fun X5 S hw hi hS => sC (X := X5) hS rfl rfl rfl (p := 5) rfl rfl (aQ rfl (cD (i := 5) (aH hS rfl) (og hS rfl rfl) (aH hS rfl) rfl rfl Try.sizeOf3 rfl (aA rfl) (Nat.le_of_ble_eq_true rfl) (ds' := [.lit (.int .i64 ((min be r1)))]) rfl)), trivial⟩⟩
   · exact fun X5 => dI (aM rfl (aV ⟨rfl, trivial⟩))
  ·intro X5
   refine tr1 rfl (cD (i := 6) rfl rfl rfl rfl rfl Try.sizeOf3 rfl (aA rfl) (Nat.le_of_ble_eq_true rfl) (ds' := [.lit (.int .i64 ((max wo r1)))]) rfl) ?_
   refine aF ?_
   have h := Option.some.inj h
   subst h
   exact ⟨_, [.box book_b book_o (cK book), .box bb_b bb_o [hG book_b book_o 0], .box pl_b pl_o [.lit (.int .i64 pl)], .box wk_b wk_o [.lit (.int .i64 wk)], .box ms_b ms_o [.lit (.bool b3)], .box be_b be_o [.lit (.int .i64 ((min be r1)))], .box wo_b wo_o [.lit (.int .i64 ((max wo r1)))]], [], _, .none, .refl _, .same _, rfl, rfl⟩

theorem zE (n_1 : Int) {r : (List Int)} (h : oB n_1 = some r) : gC Try.prog 102 [.d (.lit (.slice none 0 0)), .d (.lit (.int .i64 n_1))] [] (fun r' o' => ∃ (w0 : Value), r' = .d (.lit w0) ∧ o' = [.arr w0 3 1 (r.map bY)]) := by
 unfold oB at h
 refine mP Try.func102 rfl (rs := [.tmp 4]) Try.results102 Try.ntmps102 (Nat.le_of_ble_eq_true rfl) ?_
 refine cR (aGn 3 1) ?_
 refine aG ?_
 refine aE ?_
 refine tr1 rfl (jE 3 1 (.inl rfl) (aA rfl)) ?_
 refine aF ?_
 refine aG ?_
 refine aG ?_
 refine aE ?_
 refine tr1 rfl (aC (v := .d (.lit (.int .i64 n_1))) (aA rfl) rfl rfl) ?_
 refine tr1 rfl (bC (aA rfl) rfl rfl rfl) ?_
 refine aF ?_
 refine bJ rfl (fun c2 => ?_) (fun c2 => ?_)
 ·have h := aT c2 h
  cases h
 ·have h := aS c2 h
  refine bG ?_
  refine aG ?_
  refine aG ?_
  refine aE ?_
  refine tr1 rfl (aC (v := .d (.lit (.int .i64 n_1))) (aA rfl) rfl rfl) ?_
  refine tr1 rfl (aC (v := .d (.lit (.slice none 0 0))) (aA rfl) rfl rfl) ?_
  refine tr1 rfl (aDc (aA rfl) rfl dK.of) ?_
  refine tr1 rfl (aC (v := .d (.lit (.slice none 0 0))) (aA rfl) rfl rfl) ?_
  refine tr1 rfl (aDd (aA rfl) rfl dK.of) ?_
  refine tr1 rfl (aZ (aA rfl) rfl rfl rfl) ?_
  refine tr1 rfl (aZ (aA rfl) rfl rfl rfl) ?_
  refine tr1 rfl (aJ (v := .d (.lit (.int .i64 ((w64 (n_1 - (w64 (0 - 0)))))))) (aA rfl) rfl rfl) ?_
  refine aF ?_
  refine aG ?_
  refine aE ?_
  refine tr1 rfl (aC (v := .d (.lit (.int .i64 ((w64 (n_1 - (w64 (0 - 0)))))))) (aA rfl) rfl rfl) ?_
  refine tr1 rfl (bC (aA rfl) rfl rfl rfl) ?_
  refine aF ?_
  refine bJ rfl (fun c3 => ?_) (fun c3 => ?_)
  ·have h := aT c3 h
   refine aE ?_
   refine tr1 rfl (aC (v := .d (.lit (.slice none 0 0))) (aA rfl) rfl rfl) ?_
   refine tr1 rfl (aC (v := .d (.lit (.slice none 0 0))) (aA rfl) rfl rfl) ?_
   refine tr1 rfl (aDc (aA rfl) rfl dK.of) ?_
   obtain ⟨u4, h5, h⟩ := bind_some h
   refine tr1 rfl (sN (m := 0) (q := 0) (v := (.slice none 0 0)) (aA rfl) rfl rfl rfl rfl (aBd h5) dK.of) ?_
   refine tr1 rfl (aC (v := .d (.lit (.int .i64 ((w64 (n_1 - (w64 (0 - 0)))))))) (aA rfl) rfl rfl) ?_
   obtain ⟨u6, h7, h⟩ := bind_some h
   refine bW rfl (aIq (i := 0) (aA rfl) dK rfl rfl rfl Try.underlying3 (aDu h7).1 (aDu h7).2 (by decide)) ?_
   rintro _ ⟨v8, rfl⟩
   refine tr1 rfl (aC (v := .d (.lit (.slice none 0 0))) (aA rfl) rfl rfl) ?_
   refine tr1 rfl (aDd (aA rfl) rfl dK.of) ?_
   obtain ⟨u9, h10, h⟩ := bind_some h
   refine tr1 rfl (sN (m := 0) (q := 0) (v := v8) (aA rfl) rfl rfl rfl rfl (aBd h10) dK.of) ?_
   refine tr1 rfl (aJ (v := .d (.lit (gS v8 0))) (aA rfl) rfl rfl) ?_
   refine aF ?_
   refine aG ?_
   refine aE ?_
   refine tr1 rfl (aC (v := .d (.lit (gS v8 0))) (aA rfl) rfl rfl) ?_
   refine tr1 rfl (aJ (v := .d (.lit (gS v8 0))) (aA rfl) rfl rfl) ?_
   refine aF ?_
   have h := Option.some.inj h
   subst h
   exact bM ⟨rfl, _, [.arr (gS v8 0) 3 1 (([] : List Int).map bY)], [.arr (.slice none 0 0) 3 1 (([] : List Int).map bY)], _, .one (.tmp 4 (v := .d (.lit (gS v8 0))) rfl), .refl _, .same _, (gS v8 0), rfl, rfl⟩
  ·have h := aS c3 h
   refine bG ?_
   refine aG ?_
   refine aE ?_
   refine tr1 rfl (aC (v := .d (.lit (.slice none 0 0))) (aA rfl) rfl rfl) ?_
   refine tr1 rfl (aJ (v := .d (.lit (.slice none 0 0))) (aA rfl) rfl rfl) ?_
   refine aF ?_
   have h := Option.some.inj h
   subst h
   exact bM ⟨rfl, _, [.arr (.slice none 0 0) 3 1 (([] : List Int).map bY)], [.arr (.slice none 0 0) 3 1 (([] : List Int).map bY)], _, .one (.tmp 4 (v := .d (.lit (.slice none 0 0))) rfl), .refl _, .same _, (.slice none 0 0), rfl, rfl⟩

theorem xY (slices_0 : List (List Int)) {r : (List Int)} (h : kV slices_0 = some r) : Fn Try.prog 84 [.d (.sl 1 (slices_0.map qT))] (.d (.sl 1 (r.map bY))) := by
 unfold kV at h
 refine Fn.of_tr Try.func84 rfl (rs := [.tmp 2]) Try.results84 Try.ntmps84 (Nat.le_of_ble_eq_true rfl) ?_
 refine aG ?_
 refine aE ?_
 refine tr1 rfl (qB 1 (aA rfl)) ?_
 refine aF ?_
 refine aG ?_
 refine aE ?_
 refine tr1 rfl (aJ (v := .d (.lit (.int .i64 0))) (aA rfl) rfl rfl) ?_
 refine aF ?_
 refine aG ?_
 refine aG ?_
 refine aE ?_
 refine tr1 rfl (aC (v := .d (.sl 1 (slices_0.map qT))) (aA rfl) rfl rfl) ?_
 refine tr1 rfl (cX (aA rfl) rfl zD.of) ?_
 refine tr1 rfl (aC (v := .d (.lit (.int .i64 0))) (aA rfl) rfl rfl) ?_
 refine aF ?_
 refine bQ ?_
 refine cG [0, 9, 10] (fun (s1 : Int × Int) => [(3, .d (.lit (.int .i64 s1.1))), (11, .d (.lit (.int .i64 s1.2)))]) (fun (s1 : Int × Int) => []) (fun (k : Nat) (s1 : Int × Int) => hZ slices_0 slices_0 (slices_0.length : Int) k s1.1 s1.2) (fun _ => rfl) (0, 0) h (aX [] rfl rfl (aM rfl (aM rfl (aV ⟨rfl, rfl, rfl, trivial⟩)))) ?_
 rintro k2 ⟨size_0_1, t11_0_1⟩ h
 simp only [hZ] at h
 refine aG ?_
 refine aE ?_
 refine tr1 rfl (bC (aA rfl) rfl rfl rfl) ?_
 refine aF ?_
 refine aG ?_
 refine bJ rfl (fun c3 => ?_) (fun c3 => ?_)
 ·have h := aT c3 h
  refine bG ?_
  refine aG ?_
  refine bQ ?_
  refine aG ?_
  refine aE ?_
  obtain ⟨x4, h5, h⟩ := bind_some h
  refine tr1 rfl (bO (aA rfl) rfl rfl zD.of (bI qT h5)) ?_
  refine tr1 rfl (bX (aA rfl) rfl aHs) ?_
  refine tr1 rfl (aJ (v := .d (.sl 1 (x4.map bY))) (aA rfl) rfl rfl) ?_
  refine aF ?_
  refine aG ?_
  refine aE ?_
  refine tr1 rfl (aC (v := .d (.lit (.int .i64 size_0_1))) (aA rfl) rfl rfl) ?_
  refine tr1 rfl (aC (v := .d (.sl 1 (x4.map bY))) (aA rfl) rfl rfl) ?_
  refine tr1 rfl (cX (aA rfl) rfl dK.of) ?_
  refine tr1 rfl (aZ (aA rfl) rfl rfl rfl) ?_
  refine tr1 rfl (aJ (v := .d (.lit (.int .i64 ((w64 (size_0_1 + (x4.length : Int))))))) (aA rfl) rfl rfl) ?_
  refine aF ?_
  refine aG ?_
  refine aE ?_
  refine tr1 rfl (aC (v := .d (.lit (.int .i64 ((w64 (size_0_1 + (x4.length : Int))))))) (aA rfl) rfl rfl) ?_
  refine tr1 rfl (bC (aA rfl) rfl rfl rfl) ?_
  refine aF ?_
  refine bJ rfl (fun c6 => ?_) (fun c6 => ?_)
  ·have h := aT c6 h
   cases h
  ·have h := aS c6 h
   refine dS ?_
   refine aE ?_
   refine tr1 rfl (aZ (aA rfl) rfl rfl rfl) ?_
   refine tr1 rfl (aC (v := .d (.lit (.int .i64 ((w64 (t11_0_1 + 1)))))) (aA rfl) rfl rfl) ?_
   refine aF ?_
   exact ⟨(w64 (size_0_1 + (x4.length : Int)), w64 (t11_0_1 + 1)), h, aX [] rfl rfl (aM rfl (aM rfl (aV ⟨rfl, rfl, rfl, trivial⟩)))⟩
 ·have h := aS c3 h
  refine cN ?_
  refine .inl ⟨rfl, ?_⟩
  simp only [pH] at h
  refine aG ?_
  refine aE ?_
  refine tr1 rfl (aC (v := .d (.lit (.int .i64 size_0_1))) (aA rfl) rfl rfl) ?_
  obtain ⟨r7, h8, h⟩ := bind_some h
  refine bW rfl (xI (aA rfl) (.func _ _ Try.call102) rfl rfl (zE _ h8)) ?_
  rintro _ ⟨v9, rfl⟩
  refine tr1 rfl (aJ (v := .d (.lit v9)) (aA rfl) rfl rfl) ?_
  refine aF ?_
  refine aG ?_
  refine aG ?_
  refine aE ?_
  refine tr1 rfl (aC (v := .d (.sl 1 (slices_0.map qT))) (aA rfl) rfl rfl) ?_
  refine tr1 rfl (cX (aA rfl) rfl zD.of) ?_
  refine tr1 rfl (aC (v := .d (.lit (.int .i64 0))) (aA rfl) rfl rfl) ?_
  refine aF ?_
  refine bQ ?_
  refine cG [25, 26] (fun (s10 : Int × (List Int) × Value) => [(6, .d (.lit s10.2.2)), (27, .d (.lit (.int .i64 s10.1)))]) (fun (s10 : Int × (List Int) × Value) => [.arr s10.2.2 3 1 (s10.2.1.map bY)]) (fun (k : Nat) (s10 : Int × (List Int) × Value) => gF slices_0 (slices_0.length : Int) k s10.1 s10.2.1) (fun _ => rfl) (0, r7, v9) h (aX [0] rfl rfl (aM rfl (aM rfl (aV ⟨rfl, rfl, trivial⟩)))) ?_
  rintro k12 ⟨t27_2_10, o24_2_10, w11⟩ h
  simp only [gF] at h
  refine aG ?_
  refine aE ?_
  refine tr1 rfl (bC (aA rfl) rfl rfl rfl) ?_
  refine aF ?_
  refine aG ?_
  refine bJ rfl (fun c13 => ?_) (fun c13 => ?_)
  ·have h := aT c13 h
   refine bG ?_
   refine aG ?_
   refine bQ ?_
   refine aG ?_
   refine aE ?_
   obtain ⟨x14, h15, h⟩ := bind_some h
   refine tr1 rfl (bO (aA rfl) rfl rfl zD.of (bI qT h15)) ?_
   refine tr1 rfl (bX (aA rfl) rfl aHs) ?_
   refine tr1 rfl (aJ (v := .d (.sl 1 (x14.map bY))) (aA rfl) rfl rfl) ?_
   refine aF ?_
   refine aE ?_
   refine tr1 rfl (aC (v := .d (.lit w11)) (aA rfl) rfl rfl) ?_
   refine tr1 rfl (aC (v := .d (.sl 1 (x14.map bY))) (aA rfl) rfl rfl) ?_
   obtain ⟨x16, h17, h⟩ := bind_some h
   refine bW rfl (gQ (i := 0) (aA rfl) dK rfl rfl rfl (fun _ => rfl) h17 rfl) ?_
   rintro _ ⟨v18, rfl⟩
   refine tr1 rfl (aJ (v := .d (.lit v18)) (aA rfl) rfl rfl) ?_
   refine dG ?_
   refine aE ?_
   refine tr1 rfl (aZ (aA rfl) rfl rfl rfl) ?_
   refine tr1 rfl (aC (v := .d (.lit (.int .i64 ((w64 (t27_2_10 + 1)))))) (aA rfl) rfl rfl) ?_
   refine aF ?_
   exact ⟨(w64 (t27_2_10 + 1), x16, v18), h, aX [0] rfl rfl (aM rfl (aM rfl (aV ⟨rfl, rfl, trivial⟩)))⟩
  ·have h := aS c13 h
   refine cN ?_
   refine .inl ⟨rfl, ?_⟩
   simp only [sO] at h
   refine aG ?_
   refine aE ?_
   refine tr1 rfl (aC (v := .d (.lit w11)) (aA rfl) rfl rfl) ?_
   refine tr1 rfl (aJ (v := .d (.lit w11)) (aA rfl) rfl rfl) ?_
   refine aF ?_
   have h := Option.some.inj h
   subst h
   refine cR (cE (gM (k := 2) (v := .d (.sl 1 (o24_2_10.map bY))) (.d (hO 0 rfl (cP (f := bY) fun _ => rfl))) (uL))) ?_
   exact bM ⟨rfl, _, .one _, rfl, rfl⟩

theorem xF (kr : Nat) : ∀ (book : cB) (pl : Int) (wk : Int) (ms : Bool) (be : Int) (wo : Int) (week_1 : Int) (prizes_2 : List Int) (free_3 : List Int) {r : cB × Bool × Int × Int} {book_b book_o : Nat} {bb_b bb_o : Nat} {pl_b pl_o : Nat} {wk_b wk_o : Nat} {ms_b ms_o : Nat} {be_b be_o : Nat} {wo_b wo_o : Nat} (_h : eK kr book pl wk ms be wo week_1 prizes_2 free_3 = some r), gC Try.prog 49 [.bp book_b book_o 0, .d (.lit (.int .i64 week_1)), .d (.sl 1 (prizes_2.map bY)), .d (.sl 1 (free_3.map bY)), .fn 50 [.bp bb_b bb_o 0, .bp pl_b pl_o 0, .bp wk_b wk_o 0, .bp ms_b ms_o 0, .bp be_b be_o 0, .bp wo_b wo_o 0]] [.box book_b book_o (cK book), .box bb_b bb_o [hG book_b book_o 0], .box pl_b pl_o [.lit (.int .i64 pl)], .box wk_b wk_o [.lit (.int .i64 wk)], .box ms_b ms_o [.lit (.bool ms)], .box be_b be_o [.lit (.int .i64 be)], .box wo_b wo_o [.lit (.int .i64 wo)]] (fun r' o' => r' = .tup [] ∧ o' = [.box book_b book_o (cK r.1), .box bb_b bb_o [hG book_b book_o 0], .box pl_b pl_o [.lit (.int .i64 pl)], .box wk_b wk_o [.lit (.int .i64 wk)], .box ms_b ms_o [.lit (.bool r.2.1)], .box be_b be_o [.lit (.int .i64 r.2.2.1)], .box wo_b wo_o [.lit (.int .i64 r.2.2.2)]]) := by
  induction kr with
  | zero => intros; rename_i h; cases h
  | succ kr ih =>
    intro book pl wk ms be wo week_1 prizes_2 free_3 r book_b book_o bb_b bb_o pl_b pl_o wk_b wk_o ms_b ms_o be_b be_o wo_b wo_o h
    simp only [eK] at h
    refine jW Try.func49 rfl (rs := []) Try.results49 Try.ntmps49 (Nat.le_of_ble_eq_true rfl) ?_
    refine aG ?_
    refine aG ?_
    refine aE ?_
    refine tr1 rfl (aC (v := .d (.sl 1 (prizes_2.map bY))) (aA rfl) rfl rfl) ?_
    refine tr1 rfl (cX (aA rfl) rfl dK.of) ?_
    refine tr1 rfl (bC (aA rfl) rfl rfl rfl) ?_
    refine tr1 rfl (aC (v := .d (.lit (.bool ((decide ((prizes_2.length : Int) = 0)))))) (aA rfl) rfl rfl) ?_
    obtain ⟨b1, h2, h⟩ := bind_some h
    refine cA 4 [0, 1, 2, 3, 4] 20 b1 ?_ ?_
    ·refine bF (decide ((prizes_2.length : Int) = 0)) (fun c30 => ?_) (fun c30 => ?_)
     ·have h2 := aT c30 h2
      refine aR rfl rfl (aA rfl) rfl (aA rfl) rfl c30 ?_
      refine aR rfl rfl (aA rfl) rfl (aA rfl) rfl c30 ?_
      refine aR rfl rfl (aA rfl) rfl (aA rfl) rfl c30 ?_
      refine tr1 rfl (bN (v := .d (.lit (.bool true))) (aA rfl) rfl c30 rfl rfl) ?_
      have h2 := Option.some.inj h2
      subst h2
      refine aF (bB rfl ⟨rfl, rfl, rfl, rfl, rfl, trivial⟩ rfl)
     ·have h2 := aS c30 h2
      refine aO rfl rfl (aA rfl) rfl c30 (aC (v := .d (.sl 1 (free_3.map bY))) (aA rfl) rfl rfl) ?_
      refine aO rfl rfl (aA rfl) rfl c30 (cX (aA rfl) rfl dK.of) ?_
      refine aO rfl rfl (aA rfl) rfl c30 (bC (aA rfl) rfl rfl rfl) ?_
      refine tr1 rfl (bP (v := .d (.lit (.bool ((decide ((free_3.length : Int) = 0)))))) (aA rfl) rfl c30 rfl rfl) ?_
      have h2 := Option.some.inj h2
      subst h2
      refine aF (bB rfl ⟨rfl, rfl, rfl, rfl, rfl, trivial⟩ rfl)
    ·refine aF ?_
     refine bJ rfl (fun c3 => ?_) (fun c3 => ?_)
     ·have h := aT c3 h
      refine aG ?_
      refine aE ?_
      refine tr1 rfl (aC (v := .fn 50 [.bp bb_b bb_o 0, .bp pl_b pl_o 0, .bp wk_b wk_o 0, .bp ms_b ms_o 0, .bp be_b be_o 0, .bp wo_b wo_o 0]) (aA rfl) rfl rfl) ?_
      obtain ⟨r4, h5, h⟩ := bind_some h
      refine bW rfl (dX (passed := [.box book_b book_o (cK book), .box bb_b bb_o [hG book_b book_o 0], .box pl_b pl_o [.lit (.int .i64 pl)], .box wk_b wk_o [.lit (.int .i64 wk)], .box ms_b ms_o [.lit (.bool ms)], .box be_b be_o [.lit (.int .i64 be)], .box wo_b wo_o [.lit (.int .i64 wo)]]) (aA rfl) rfl (.clo _ _ _ _ Try.call50 rfl) (uS rfl) rfl (aCl book pl wk ms be wo h5)) ?_
      rintro _ ⟨_, _, ⟨rfl, rfl⟩, rfl⟩
      refine aF ?_
      have h := Option.some.inj h
      subst h
      exact bM ⟨rfl, _, [.box book_b book_o (cK book), .box bb_b bb_o [hG book_b book_o 0], .box pl_b pl_o [.lit (.int .i64 pl)], .box wk_b wk_o [.lit (.int .i64 wk)], .box ms_b ms_o [.lit (.bool r4.1)], .box be_b be_o [.lit (.int .i64 r4.2.1)], .box wo_b wo_o [.lit (.int .i64 r4.2.2)]], [], _, .none, .refl _, .same _, rfl, rfl⟩
     ·have h := aS c3 h
      refine bG ?_
      refine aG ?_
      refine aE ?_
      refine tr1 rfl (aC (v := .bp book_b book_o 0) (aA rfl) rfl rfl) ?_
      refine tr1 rfl (lS (aA rfl) rfl) ?_
      refine tr1 rfl (aU (aA rfl) rfl jO) ?_
      refine tr1 rfl (aU (aA rfl) rfl eH) ?_
      refine tr1 rfl (aW (aA rfl) rfl (i := 0) rfl rfl iZ) ?_
      refine tr1 rfl (cX (aA rfl) rfl bR.of) ?_
      refine tr1 rfl (aJ (v := .d (.lit (.int .i64 ((book.Ledger.Reports.length : Int))))) (aA rfl) rfl rfl) ?_
      refine aF ?_
      refine aG ?_
      refine aG ?_
      refine aE ?_
      refine tr1 rfl (aC (v := .d (.sl 1 (free_3.map bY))) (aA rfl) rfl rfl) ?_
      refine tr1 rfl (cX (aA rfl) rfl dK.of) ?_
      refine tr1 rfl (aC (v := .d (.lit (.int .i64 0))) (aA rfl) rfl rfl) ?_
      refine aF ?_
      refine bQ ?_
      refine cG [0, 1, 2, 3, 4, 10, 29, 30] (fun (s6 : Int × cB × Bool × Int × Int) => [(31, .d (.lit (.int .i64 s6.1)))]) (fun (s6 : Int × cB × Bool × Int × Int) => [.box book_b book_o (cK s6.2.1), .box bb_b bb_o [hG book_b book_o 0], .box pl_b pl_o [.lit (.int .i64 pl)], .box wk_b wk_o [.lit (.int .i64 wk)], .box ms_b ms_o [.lit (.bool s6.2.2.1)], .box be_b be_o [.lit (.int .i64 s6.2.2.2.1)], .box wo_b wo_o [.lit (.int .i64 s6.2.2.2.2)]]) (fun (k : Nat) (s6 : Int × cB × Bool × Int × Int) => hY (eK kr) week_1 prizes_2 free_3 (book.Ledger.Reports.length : Int) free_3 (free_3.length : Int) pl wk k s6.1 s6.2.1 s6.2.2.1 s6.2.2.2.1 s6.2.2.2.2) (fun _ => rfl) (0, book, ms, be, wo) h (aX [0, 1, 2, 3, 4, 5, 6] rfl rfl (aM rfl (aV ⟨rfl, rfl, rfl, rfl, rfl, rfl, rfl, rfl, trivial⟩))) ?_
      rintro k7 ⟨t31_0_6, b_0_6, b_0_6_4, b_0_6_5, b_0_6_6⟩ h
      simp only [hY] at h
      refine aG ?_
      refine aE ?_
      refine tr1 rfl (bC (aA rfl) rfl rfl rfl) ?_
      refine aF ?_
      refine aG ?_
      refine bJ rfl (fun c8 => ?_) (fun c8 => ?_)
      ·have h := aT c8 h
       refine bG ?_
       refine aG ?_
       refine bQ ?_
       refine aG ?_
       refine aE ?_
       refine tr1 rfl (aC (v := .d (.lit (.int .i64 t31_0_6))) (aA rfl) rfl rfl) ?_
       obtain ⟨x9, h10, h⟩ := bind_some h
       refine tr1 rfl (bO (aA rfl) rfl rfl dK.of (bI bY h10)) ?_
       refine tr1 rfl (bX (aA rfl) rfl bH) ?_
       refine tr1 rfl (aJ (v := .d (.lit (.int .i64 t31_0_6))) (aA rfl) rfl rfl) ?_
       refine tr1 rfl (aJ (v := .d (.lit (.int .i64 x9))) (aA rfl) rfl rfl) ?_
       refine aF ?_
       refine aG ?_
       obtain ⟨x12, h13, h⟩ := bind_some h
       obtain ⟨x14, h15, h⟩ := bind_some h
       obtain ⟨x16, h17, h⟩ := bind_some h
       refine lZ mix 19 [0, 1, 2, 3, 4, 10, 11, 29, 30, 31] (fun X11 => [(36, .bp book_b book_o 0), (54, .d (.sl 5 (x16.map aB)))]) (fun X11 => [.box book_b book_o (cK b_0_6), .box bb_b bb_o [hG book_b book_o 0], .box pl_b pl_o [.lit (.int .i64 pl)], .box wk_b wk_o [.lit (.int .i64 wk)], .box ms_b ms_o [.lit (.bool b_0_6_4)], .box be_b be_o [.lit (.int .i64 b_0_6_5)], .box wo_b wo_o [.lit (.int .i64 b_0_6_6)]]) ?_ ?_
       ·refine ⟨0, fun X11 => [(36, 0, .bp book_b book_o 0), (37, 1, .bp book_b book_o 0), (38, 2, .bp book_b book_o 0), (39, 3, .bp book_b book_o 0), (40, 4, .bp book_b book_o 2), (41, 5, .d (.sl 5 (b_0_6.Ledger.Reports.map aB))), (42, 6, .d (.lit (.int .i64 ((book.Ledger.Reports.length : Int))))), (43, 7, .d (.lit (.int .i64 ((book.Ledger.Reports.length : Int))))), (44, 8, .fl false 5 (x12.map aB)), (45, 9, .d (.lit (.int .i64 ((book.Ledger.Reports.length : Int))))), (46, 10, .d (.lit (.int .i64 ((w64 (100 + (book.Ledger.Reports.length : Int))))))), (47, 11, .d (.lit (.int .i64 x9))), (48, 12, .d (.lit (.int .i64 week_1))), (49, 13, .d (.sl 1 (prizes_2.map bY))), (50, 14, .cp [.lit (.int .i64 x14)]), (51, 15, .d (.lit (.int .i64 x14))), (52, 16, .agg (aB (aD.mk (w64 (100 + (book.Ledger.Reports.length : Int))) x9 week_1 x14 false))), (53, 17, .d (.sl 5 ((([(aD.mk (w64 (100 + (book.Ledger.Reports.length : Int))) x9 week_1 x14 false)])).map aB))), (54, 18, .d (.sl 5 (x16.map aB)))], fun X11 => [([], .box book_b book_o (cK b_0_6)), ([], .box bb_b bb_o [hG book_b book_o 0]), ([], .box pl_b pl_o [.lit (.int .i64 pl)]), ([], .box wk_b wk_o [.lit (.int .i64 wk)]), ([], .box ms_b ms_o [.lit (.bool b_0_6_4)]), ([], .box be_b be_o [.lit (.int .i64 b_0_6_5)]), ([], .box wo_b wo_o [.lit (.int .i64 b_0_6_6)])], ?_, ?_⟩
        · exact ⟨by kernel_rfl, by kernel_rfl, by kernel_rfl, fun _ => by kernel_rfl, fun _ => by kernel_rfl, fun _ => by kernel_rfl, fun _ => rfl, [([], []), ([], [18]), ([1], [18]), ([2], [18]), ([3], [18]), ([4], [18]), ([], [18]), ([], [18]), ([5, 6, 7], [18]), ([], [18]), ([9], [18]), ([], [18]), ([], [18]), ([], [18]), ([13], [18]), ([14], [18]), ([10, 11, 12, 15], [18]), ([16], [18]), ([8, 17], [])], by kernel_rfl, ⟨fun X11 S hw hi hS => bL (X := X11) rfl (hw X11) rfl (aQ rfl (aC (v := .bp book_b book_o 0) (aA rfl) (aH hS rfl) rfl)),
      fun X11 S hw hi hS => bL (X := X11) rfl (hw X11) rfl (aQ rfl (aC (v := .bp book_b book_o 0) (aA rfl) (aH hS rfl) rfl)),
      fun X11 S hw hi hS => bL (X := X11) rfl (hw X11) rfl (aQ rfl (lS (aA rfl) (aH hS rfl))),
      fun X11 S hw hi hS => bL (X := X11) rfl (hw X11) rfl (aQ rfl (aU (aA rfl) (aH hS rfl) jO)),
      fun X11 S hw hi hS => bL (X := X11) rfl (hw X11) rfl (aQ rfl (aU (aA rfl) (aH hS rfl) eH)),
      fun X11 S hw hi hS => bL (X := X11) rfl (hw X11) rfl (aQ rfl (aW (aA rfl) (aH hS rfl) (i := 0) (og hS rfl rfl) rfl iZ)),
      fun X11 S hw hi hS => bL (X := X11) rfl (hw X11) rfl (aQ rfl (aC (v := .d (.lit (.int .i64 ((book.Ledger.Reports.length : Int))))) (aA rfl) (aH hS rfl) rfl)),
      fun X11 S hw hi hS => bL (X := X11) rfl (hw X11) rfl (aQ rfl (aC (v := .d (.lit (.int .i64 ((book.Ledger.Reports.length : Int))))) (aA rfl) (aH hS rfl) rfl)),
      fun X11 S hw hi hS => bL (X := X11) rfl (hw X11) rfl (aQ rfl (aFl (aA rfl) bR.of (aH hS rfl) (aH hS rfl) (aH hS rfl) (nR aB h13))),
      fun X11 S hw hi hS => bL (X := X11) rfl (hw X11) rfl (aQ rfl (aC (v := .d (.lit (.int .i64 ((book.Ledger.Reports.length : Int))))) (aA rfl) (aH hS rfl) rfl)),
      fun X11 S hw hi hS => bL (X := X11) rfl (hw X11) rfl (aQ rfl (aZ (aA rfl) rfl (aH hS rfl) rfl)),
      fun X11 S hw hi hS => bL (X := X11) rfl (hw X11) rfl (aQ rfl (aC (v := .d (.lit (.int .i64 x9))) (aA rfl) (aH hS rfl) rfl)),
      fun X11 S hw hi hS => bL (X := X11) rfl (hw X11) rfl (aQ rfl (aC (v := .d (.lit (.int .i64 week_1))) (aA rfl) (aH hS rfl) rfl)),
      fun X11 S hw hi hS => bL (X := X11) rfl (hw X11) rfl (aQ rfl (aC (v := .d (.sl 1 (prizes_2.map bY))) (aA rfl) (aH hS rfl) rfl)),
      fun X11 S hw hi hS => bL (X := X11) rfl (hw X11) rfl (aQ rfl (bO (aA rfl) (aH hS rfl) rfl dK.of (bI bY h15))),
      fun X11 S hw hi hS => bL (X := X11) rfl (hw X11) rfl (aQ rfl (bX (aA rfl) (aH hS rfl) bH)),
      fun X11 S hw hi hS => bL (X := X11) rfl (hw X11) rfl (aQ rfl (mY (aA rfl) tY (zs := [.lit (.int .i64 0), .lit (.int .i64 0), .lit (.int .i64 0), .lit (.int .i64 0), .lit (.bool false)]) rfl rfl rfl (pa2 (aH hS rfl) (pa2 (aH hS rfl) (pa2 (aH hS rfl) (pa2 (aH hS rfl) pan)))) (es := [.lit (.int .i64 ((w64 (100 + (book.Ledger.Reports.length : Int))))), .lit (.int .i64 x9), .lit (.int .i64 week_1), .lit (.int .i64 x14), .lit (.bool false)]) rfl)),
      fun X11 S hw hi hS => bL (X := X11) rfl (hw X11) rfl (aQ rfl (iL (aA rfl) bR rfl (pa2 (aH hS rfl) pan) (rows := ([(aD.mk (w64 (100 + (book.Ledger.Reports.length : Int))) x9 week_1 x14 false)]).map aB) rfl (cP (f := aB) fun _ => rfl) rfl (by decide))),
      fun X11 S hw hi hS => bL (X := X11) rfl (hw X11) rfl (aQ rfl (qM (nn := false) (f := aB) (xs := x12) (ys := [(aD.mk (w64 (100 + (book.Ledger.Reports.length : Int))) x9 week_1 x14 false)]) (aA rfl) bR (aH hS rfl) (aH hS rfl) (fun _ => rfl) h17 rfl)), trivial⟩⟩
        · exact fun X11 => dI (aM rfl (aM rfl (aV ⟨rfl, rfl, rfl, rfl, rfl, rfl, rfl, rfl, rfl, rfl, trivial⟩)))
       ·intro X11
        refine tr1 rfl (lS (aA rfl) rfl) ?_
        refine tr1 rfl (aU (aA rfl) rfl jO) ?_
        refine tr1 rfl (aU (aA rfl) rfl eH) ?_
        refine tr1 rfl (cD (i := 0) rfl rfl rfl rfl rfl Try.sizeOf22 rfl (aA rfl) (Nat.le_of_ble_eq_true rfl) (ds' := (cK (cB.mk (aL.mk b_0_6.Ledger.Players b_0_6.Ledger.Counts x16 b_0_6.Ledger.Bans b_0_6.Ledger.Frozen)))) rfl) ?_
        refine aF ?_
        obtain ⟨x18, h19, h⟩ := bind_some h
        obtain ⟨x20, h21, h⟩ := bind_some h
        obtain ⟨x22, h23, h⟩ := bind_some h
        obtain ⟨r24, h25, h⟩ := bind_some h
        refine fN mix 14 [0, 1, 2, 3, 4, 10, 29, 30, 31] [(58, .bp book_b book_o 0), (59, .d (.lit (.int .i64 week_1))), (61, .d (.sl 1 (x18.map bY))), (70, .d (.sl 1 (r24.map bY))), (71, .fn 50 [.bp bb_b bb_o 0, .bp pl_b pl_o 0, .bp wk_b wk_o 0, .bp ms_b ms_o 0, .bp be_b be_o 0, .bp wo_b wo_o 0])] ?_ ?_
        ·refine ⟨[(58, 0, .bp book_b book_o 0), (59, 1, .d (.lit (.int .i64 week_1))), (60, 2, .d (.sl 1 (prizes_2.map bY))), (61, 3, .d (.sl 1 (x18.map bY))), (62, 4, .d (.sl 1 (free_3.map bY))), (63, 5, .d (.lit (.int .i64 t31_0_6))), (64, 6, .d (.sl 1 (x20.map bY))), (65, 7, .d (.sl 1 (free_3.map bY))), (66, 8, .d (.lit (.int .i64 t31_0_6))), (67, 9, .d (.lit (.int .i64 ((w64 (t31_0_6 + 1)))))), (68, 10, .d (.sl 1 (x22.map bY))), (69, 11, .d (.sl 1 ((([x20, x22])).map qT))), (70, 12, .d (.sl 1 (r24.map bY))), (71, 13, .fn 50 [.bp bb_b bb_o 0, .bp pl_b pl_o 0, .bp wk_b wk_o 0, .bp ms_b ms_o 0, .bp be_b be_o 0, .bp wo_b wo_o 0])], ?_, ?_⟩
         · exact ⟨by kernel_rfl, by kernel_rfl, by kernel_rfl, by kernel_rfl, by kernel_rfl, [([], []), ([], []), ([], []), ([2], []), ([], []), ([], []), ([4, 5], []), ([], []), ([], []), ([8], []), ([7, 9], []), ([6, 10], []), ([11], []), ([], [])], by kernel_rfl, ⟨fun S hS => aI rfl (aQ rfl (aC (v := .bp book_b book_o 0) (aA rfl) (aH hS rfl) rfl)),
      fun S hS => aI rfl (aQ rfl (aC (v := .d (.lit (.int .i64 week_1))) (aA rfl) (aH hS rfl) rfl)),
      fun S hS => aI rfl (aQ rfl (aC (v := .d (.sl 1 (prizes_2.map bY))) (aA rfl) (aH hS rfl) rfl)),
      fun S hS => aI rfl (aQ rfl (kK (aA rfl) dK.of (aH hS rfl) rfl aDs (nR bY h19))),
      fun S hS => aI rfl (aQ rfl (aC (v := .d (.sl 1 (free_3.map bY))) (aA rfl) (aH hS rfl) rfl)),
      fun S hS => aI rfl (aQ rfl (aC (v := .d (.lit (.int .i64 t31_0_6))) (aA rfl) (aH hS rfl) rfl)),
      fun S hS => aI rfl (aQ rfl (kK (aA rfl) dK.of (aH hS rfl) rfl (bo (aH hS rfl)) (nR bY h21))),
      fun S hS => aI rfl (aQ rfl (aC (v := .d (.sl 1 (free_3.map bY))) (aA rfl) (aH hS rfl) rfl)),
      fun S hS => aI rfl (aQ rfl (aC (v := .d (.lit (.int .i64 t31_0_6))) (aA rfl) (aH hS rfl) rfl)),
      fun S hS => aI rfl (aQ rfl (aZ (aA rfl) (aH hS rfl) rfl rfl)),
      fun S hS => aI rfl (aQ rfl (kK (aA rfl) dK.of (aH hS rfl) (bo (aH hS rfl)) aDs (nR bY h23))),
      fun S hS => aI rfl (aQ rfl (iL (aA rfl) zD rfl (pa2 (aH hS rfl) (pa2 (aH hS rfl) pan)) (rows := ([x20, x22]).map qT) rfl (cP (f := qT) fun _ => rfl) rfl (by decide))),
      fun S hS => aI rfl (aQ rfl (iT (aA rfl) (.func _ _ Try.call84) (ev2 (aH hS rfl) evn) rfl (xY _ h25))),
      fun S hS => aI rfl (aQ rfl (aC (v := .fn 50 [.bp bb_b bb_o 0, .bp pl_b pl_o 0, .bp wk_b wk_o 0, .bp ms_b ms_o 0, .bp be_b be_o 0, .bp wo_b wo_o 0]) (aA rfl) (aH hS rfl) rfl)), trivial⟩⟩
         · exact dI (aM rfl (aM rfl (aM rfl (aM rfl (aM rfl (aV ⟨rfl, rfl, rfl, rfl, rfl, rfl, rfl, rfl, rfl, trivial⟩))))))
        ·obtain ⟨r26, h27, h⟩ := bind_some h
         refine bW rfl (dX (passed := [.box book_b book_o (cK (cB.mk (aL.mk b_0_6.Ledger.Players b_0_6.Ledger.Counts x16 b_0_6.Ledger.Bans b_0_6.Ledger.Frozen))), .box bb_b bb_o [hG book_b book_o 0], .box pl_b pl_o [.lit (.int .i64 pl)], .box wk_b wk_o [.lit (.int .i64 wk)], .box ms_b ms_o [.lit (.bool b_0_6_4)], .box be_b be_o [.lit (.int .i64 b_0_6_5)], .box wo_b wo_o [.lit (.int .i64 b_0_6_6)]]) (aA rfl) rfl (.func _ _ Try.call49) rfl rfl (ih (cB.mk (aL.mk b_0_6.Ledger.Players b_0_6.Ledger.Counts x16 b_0_6.Ledger.Bans b_0_6.Ledger.Frozen)) pl wk b_0_6_4 b_0_6_5 b_0_6_6 week_1 x18 r24 h27)) ?_
         rintro _ ⟨_, _, ⟨rfl, rfl⟩, rfl⟩
         refine dG ?_
         refine aE ?_
         refine tr1 rfl (aZ (aA rfl) rfl rfl rfl) ?_
         refine tr1 rfl (aC (v := .d (.lit (.int .i64 ((w64 (t31_0_6 + 1)))))) (aA rfl) rfl rfl) ?_
         refine aF ?_
         exact ⟨(w64 (t31_0_6 + 1), r26.1, r26.2.1, r26.2.2.1, r26.2.2.2), h, aX [0, 1, 2, 3, 4, 5, 6] rfl rfl (aM rfl (aV ⟨rfl, rfl, rfl, rfl, rfl, rfl, rfl, rfl, trivial⟩))⟩
      ·have h := aS c8 h
       refine cN ?_
       refine .inl ⟨rfl, ?_⟩
       simp only [pF] at h
       refine aE ?_
       refine tr1 rfl (aC (v := .bp book_b book_o 0) (aA rfl) rfl rfl) ?_
       refine tr1 rfl (aC (v := .bp book_b book_o 0) (aA rfl) rfl rfl) ?_
       refine tr1 rfl (lS (aA rfl) rfl) ?_
       refine tr1 rfl (aU (aA rfl) rfl jO) ?_
       refine tr1 rfl (aU (aA rfl) rfl eH) ?_
       refine tr1 rfl (aW (aA rfl) rfl (i := 0) rfl rfl iZ) ?_
       refine tr1 rfl (aC (v := .d (.lit (.int .i64 ((book.Ledger.Reports.length : Int))))) (aA rfl) rfl rfl) ?_
       obtain ⟨x28, h29, h⟩ := bind_some h
       refine tr1 rfl (kK (aA rfl) bR.of rfl rfl rfl (nR aB h29)) ?_
       refine tr1 rfl (lS (aA rfl) rfl) ?_
       refine tr1 rfl (aU (aA rfl) rfl jO) ?_
       refine tr1 rfl (aU (aA rfl) rfl eH) ?_
       refine tr1 rfl (cD (i := 0) rfl rfl rfl rfl rfl Try.sizeOf22 rfl (aA rfl) (Nat.le_of_ble_eq_true rfl) (ds' := (cK (cB.mk (aL.mk b_0_6.Ledger.Players b_0_6.Ledger.Counts x28 b_0_6.Ledger.Bans b_0_6.Ledger.Frozen)))) rfl) ?_
       refine aF ?_
       have h := Option.some.inj h
       subst h
       exact ⟨_, [.box book_b book_o (cK (cB.mk (aL.mk b_0_6.Ledger.Players b_0_6.Ledger.Counts x28 b_0_6.Ledger.Bans b_0_6.Ledger.Frozen))), .box bb_b bb_o [hG book_b book_o 0], .box pl_b pl_o [.lit (.int .i64 pl)], .box wk_b wk_o [.lit (.int .i64 wk)], .box ms_b ms_o [.lit (.bool b_0_6_4)], .box be_b be_o [.lit (.int .i64 b_0_6_5)], .box wo_b wo_o [.lit (.int .i64 b_0_6_6)]], [], _, .none, .refl _, .same _, rfl, rfl⟩
theorem xV (book : cB) (pl : Int) (wk : Int) (ms : Bool) (be : Int) (wo : Int) (week_1 : Int) (prizes_2 : List Int) (free_3 : List Int) {r : cB × Bool × Int × Int} {book_b book_o : Nat} {bb_b bb_o : Nat} {pl_b pl_o : Nat} {wk_b wk_o : Nat} {ms_b ms_o : Nat} {be_b be_o : Nat} {wo_b wo_o : Nat} (h : rB book pl wk ms be wo week_1 prizes_2 free_3 = some r) : gC Try.prog 49 [.bp book_b book_o 0, .d (.lit (.int .i64 week_1)), .d (.sl 1 (prizes_2.map bY)), .d (.sl 1 (free_3.map bY)), .fn 50 [.bp bb_b bb_o 0, .bp pl_b pl_o 0, .bp wk_b wk_o 0, .bp ms_b ms_o 0, .bp be_b be_o 0, .bp wo_b wo_o 0]] [.box book_b book_o (cK book), .box bb_b bb_o [hG book_b book_o 0], .box pl_b pl_o [.lit (.int .i64 pl)], .box wk_b wk_o [.lit (.int .i64 wk)], .box ms_b ms_o [.lit (.bool ms)], .box be_b be_o [.lit (.int .i64 be)], .box wo_b wo_o [.lit (.int .i64 wo)]] (fun r' o' => r' = .tup [] ∧ o' = [.box book_b book_o (cK r.1), .box bb_b bb_o [hG book_b book_o 0], .box pl_b pl_o [.lit (.int .i64 pl)], .box wk_b wk_o [.lit (.int .i64 wk)], .box ms_b ms_o [.lit (.bool r.2.1)], .box be_b be_o [.lit (.int .i64 r.2.2.1)], .box wo_b wo_o [.lit (.int .i64 r.2.2.2)]]) := xF BIG _ _ _ _ _ _ _ _ _ h

theorem yX (l_0 : aL) (player_1 : Int) (week_2 : Int) (prizes_3 : List Int) {r : Int × Int × Int} (h : mR l_0 player_1 week_2 prizes_3 = some r) : Fn Try.prog 17 [.agg (aN l_0), .d (.lit (.int .i64 player_1)), .d (.lit (.int .i64 week_2)), .d (.sl 1 (prizes_3.map bY))] (.tup [.d (.lit (.int .i64 r.1)), .d (.lit (.int .i64 r.2.1)), .d (.lit (.int .i64 r.2.2))]) := by
 unfold mR at h
 refine rL Try.func17 rfl (rs := [.cell 8 3, .cell 9 3, .tmp 10]) Try.results17 Try.ntmps17 (Nat.le_of_ble_eq_true rfl) ?_
 refine aG ?_
 refine aE ?_
 refine bW rfl (eN (v := .agg (aN l_0)) (aA rfl) rfl rfl rfl) ?_
 rintro _ ⟨b1, rfl⟩
 refine bW rfl (eN (v := .d (.lit (.int .i64 player_1))) (aA rfl) rfl rfl rfl) ?_
 rintro _ ⟨b2, rfl⟩
 refine bW rfl (eN (v := .d (.lit (.int .i64 week_2))) (aA rfl) rfl rfl rfl) ?_
 rintro _ ⟨b3, rfl⟩
 refine bW rfl (fV (zs := [.lit (.int .i64 0)]) (aA rfl) Try.zeroValue3 rfl rfl) ?_
 rintro _ ⟨b4, rfl⟩
 refine bW rfl (fV (zs := [.lit (.int .i64 0)]) (aA rfl) Try.zeroValue3 rfl rfl) ?_
 rintro _ ⟨b5, rfl⟩
 refine tr1 rfl (aJ (v := .d (.lit (.int .i64 0))) (aA rfl) rfl rfl) ?_
 refine aF ?_
 refine aG ?_
 refine aE ?_
 refine tr1 rfl (cH (aA rfl) rfl (i := 0) rfl dW (es := (aN l_0)) rfl rfl) ?_
 refine tr1 rfl (aW (aA rfl) rfl (i := 1) rfl rfl bH) ?_
 refine tr1 rfl (aW (aA rfl) rfl (i := 2) rfl rfl bH) ?_
 obtain ⟨r6, h7, h⟩ := bind_some h
 refine bW rfl (dX (passed := []) (aA rfl) rfl (.func _ _ Try.call44) rfl rfl (xE _ _ _ h7)) ?_
 rintro _ ⟨_, _, ⟨b9, w10, rfl, rfl⟩, rfl⟩
 obtain ⟨_ | y8, e11⟩ := r6
 ·have h := aBp h
  refine gN (aX [0, 1, 2, 3, 4] rfl rfl (le_refl _)) ?_
  refine tr1 rfl (aC (v := .tup [.d (.lit (.pointer none)), .d (.lit (.int .i64 e11))]) (aA rfl) rfl rfl) ?_
  refine tr1 rfl (dA (aA rfl) rfl rfl) ?_
  refine tr1 rfl (dA (aA rfl) rfl rfl) ?_
  refine bW rfl (fV (zs := [.lit (.pointer none)]) (aA rfl) Try.zeroValue70 rfl rfl) ?_
  rintro _ ⟨b12, rfl⟩
  refine tr1 rfl (cD (i := 5) rfl rfl rfl rfl rfl Try.sizeOf70 rfl (aA rfl) (Nat.le_of_ble_eq_true rfl) (ds' := [.lit (.pointer none)]) rfl) ?_
  refine tr1 rfl (aJ (v := .d (.lit (.int .i64 e11))) (aA rfl) rfl rfl) ?_
  refine aF ?_
  refine aG ?_
  refine aG ?_
  refine aE ?_
  refine tr1 rfl (aC (v := .d (.lit (.int .i64 e11))) (aA rfl) rfl rfl) ?_
  refine tr1 rfl (bC (aA rfl) rfl rfl rfl) ?_
  refine aF ?_
  refine bJ rfl (fun c13 => ?_) (fun c13 => ?_)
  ·have h := aT c13 h
   refine aG ?_
   refine aE ?_
   refine tr1 rfl (aC (v := .d (.lit (.int .i64 e11))) (aA rfl) rfl rfl) ?_
   refine tr1 rfl (cD (i := 3) rfl rfl rfl rfl rfl Try.sizeOf3 rfl (aA rfl) (Nat.le_of_ble_eq_true rfl) (ds' := [.lit (.int .i64 0)]) rfl) ?_
   refine tr1 rfl (cD (i := 4) rfl rfl rfl rfl rfl Try.sizeOf3 rfl (aA rfl) (Nat.le_of_ble_eq_true rfl) (ds' := [.lit (.int .i64 0)]) rfl) ?_
   refine tr1 rfl (aJ (v := .d (.lit (.int .i64 e11))) (aA rfl) rfl rfl) ?_
   refine aF ?_
   have h := Option.some.inj h
   subst h
   exact bM ⟨rfl, _, [.box b1 0 (aN l_0), .box b2 0 [.lit (.int .i64 player_1)], .box b3 0 [.lit (.int .i64 week_2)], .box b4 0 [.lit (.int .i64 0)], .box b5 0 [.lit (.int .i64 0)], .box b12 0 [.lit (.pointer none)]], .three (.cell1 8 3 rfl (i := 3) rfl bH rfl) (.cell1 9 3 rfl (i := 4) rfl bH rfl) (.tmp 10 (v := .d (.lit (.int .i64 e11))) rfl), .refl _, .same _⟩
  ·have h := aS c13 h
   refine bG ?_
   refine aG ?_
   refine aG ?_
   refine aE ?_
   refine tr1 rfl (aC (v := .d (.sl 1 (prizes_3.map bY))) (aA rfl) rfl rfl) ?_
   refine tr1 rfl (cX (aA rfl) rfl dK.of) ?_
   refine tr1 rfl (bC (aA rfl) rfl rfl rfl) ?_
   refine tr1 rfl (aC (v := .d (.lit (.bool ((decide (4 < (prizes_3.length : Int))))))) (aA rfl) rfl rfl) ?_
   obtain ⟨b14, h15, h⟩ := bind_some h
   refine cA 3 [3, 5, 6, 8, 9, 11] 31 b14 ?_ ?_
   ·refine bF (decide (4 < (prizes_3.length : Int))) (fun c18 => ?_) (fun c18 => ?_)
    ·have h15 := aT c18 h15
     refine aR rfl rfl (aA rfl) rfl (aA rfl) rfl c18 ?_
     refine aR rfl rfl (aA rfl) rfl (aA rfl) rfl c18 ?_
     refine tr1 rfl (bN (v := .d (.lit (.bool true))) (aA rfl) rfl c18 rfl rfl) ?_
     have h15 := Option.some.inj h15
     subst h15
     refine aF (bB rfl ⟨rfl, rfl, rfl, rfl, rfl, rfl, trivial⟩ rfl)
    ·have h15 := aS c18 h15
     refine aO rfl rfl (aA rfl) rfl c18 (aC (v := .d (.sl 1 (prizes_3.map bY))) (aA rfl) rfl rfl) ?_
     obtain ⟨r20, h21, h15⟩ := bind_some h15
     refine aO rfl rfl (aA rfl) rfl c18 (cC (aA rfl) (.func _ _ Try.call45) rfl rfl (BVs.refl _ _) (qC _ _ 46 [] Try.call46 (fun _ _ h15 => wQ _ h15) h21) rfl) ?_
     refine tr1 rfl (bP (v := .d (.lit (.bool r20))) (aA rfl) rfl c18 rfl rfl) ?_
     have h15 := Option.some.inj h15
     subst h15
     refine aF (bB rfl ⟨rfl, rfl, rfl, rfl, rfl, rfl, trivial⟩ rfl)
   ·refine aF ?_
    refine bJ rfl (fun c16 => ?_) (fun c16 => ?_)
    ·have h := aT c16 h
     refine aG ?_
     refine aE ?_
     refine tr1 rfl (cD (i := 3) rfl rfl rfl rfl rfl Try.sizeOf3 rfl (aA rfl) (Nat.le_of_ble_eq_true rfl) (ds' := [.lit (.int .i64 0)]) rfl) ?_
     refine tr1 rfl (cD (i := 4) rfl rfl rfl rfl rfl Try.sizeOf3 rfl (aA rfl) (Nat.le_of_ble_eq_true rfl) (ds' := [.lit (.int .i64 0)]) rfl) ?_
     refine tr1 rfl (aJ (v := .d (.lit (.int .i64 42))) (aA rfl) rfl rfl) ?_
     refine aF ?_
     have h := Option.some.inj h
     subst h
     exact bM ⟨rfl, _, [.box b1 0 (aN l_0), .box b2 0 [.lit (.int .i64 player_1)], .box b3 0 [.lit (.int .i64 week_2)], .box b4 0 [.lit (.int .i64 0)], .box b5 0 [.lit (.int .i64 0)], .box b12 0 [.lit (.pointer none)]], .three (.cell1 8 3 rfl (i := 3) rfl bH rfl) (.cell1 9 3 rfl (i := 4) rfl bH rfl) (.tmp 10 (v := .d (.lit (.int .i64 42))) rfl), .refl _, .same _⟩
    ·have h := aS c16 h
     refine bG ?_
     refine aG ?_
     refine aE ?_
     refine tr1 rfl (jE 3 1 (.inl rfl) (aA rfl)) ?_
     refine aF ?_
     refine aG ?_
     refine aG ?_
     refine aE ?_
     refine tr1 rfl (aW (aA rfl) rfl (i := 5) rfl rfl wO) ?_
     cases h
 ·have h := aBq h
  refine gN (aX [0, 1, 2, 3, 4, 5, 6] rfl rfl (le_refl _)) ?_
  refine tr1 rfl (aC (v := .tup [.bp b9 0 0, .d (.lit (.int .i64 e11))]) (aA rfl) rfl rfl) ?_
  refine tr1 rfl (dA (aA rfl) rfl rfl) ?_
  refine tr1 rfl (dA (aA rfl) rfl rfl) ?_
  refine bW rfl (fV (zs := [.lit (.pointer none)]) (aA rfl) Try.zeroValue70 rfl rfl) ?_
  rintro _ ⟨b22, rfl⟩
  refine gN (aJs 20 rfl) ?_
  refine tr1 rfl (cD (i := 7) rfl rfl rfl rfl rfl Try.sizeOf70 rfl (aA rfl) (Nat.le_of_ble_eq_true rfl) (ds' := [hG b9 0 0]) rfl) ?_
  refine tr1 rfl (aJ (v := .d (.lit (.int .i64 e11))) (aA rfl) rfl rfl) ?_
  refine aF ?_
  refine aG ?_
  refine aG ?_
  refine aE ?_
  refine tr1 rfl (aC (v := .d (.lit (.int .i64 e11))) (aA rfl) rfl rfl) ?_
  refine tr1 rfl (bC (aA rfl) rfl rfl rfl) ?_
  refine aF ?_
  refine bJ rfl (fun c23 => ?_) (fun c23 => ?_)
  ·have h := aT c23 h
   refine aG ?_
   refine aE ?_
   refine tr1 rfl (aC (v := .d (.lit (.int .i64 e11))) (aA rfl) rfl rfl) ?_
   refine tr1 rfl (cD (i := 5) rfl rfl rfl rfl rfl Try.sizeOf3 rfl (aA rfl) (Nat.le_of_ble_eq_true rfl) (ds' := [.lit (.int .i64 0)]) rfl) ?_
   refine tr1 rfl (cD (i := 6) rfl rfl rfl rfl rfl Try.sizeOf3 rfl (aA rfl) (Nat.le_of_ble_eq_true rfl) (ds' := [.lit (.int .i64 0)]) rfl) ?_
   refine tr1 rfl (aJ (v := .d (.lit (.int .i64 e11))) (aA rfl) rfl rfl) ?_
   refine aF ?_
   have h := Option.some.inj h
   subst h
   exact bM ⟨rfl, _, [.box b9 0 [.lit (.int .i64 y8.Ledger.Players), .lit (.int .i64 y8.Ledger.Counts), .lit w10, .sl 3 (y8.Ledger.Bans.map aK), .sl 3 (y8.Ledger.Frozen.map aK)], .arr w10 42 5 (y8.Ledger.Reports.map aB), .box b1 0 (aN l_0), .box b2 0 [.lit (.int .i64 player_1)], .box b3 0 [.lit (.int .i64 week_2)], .box b4 0 [.lit (.int .i64 0)], .box b5 0 [.lit (.int .i64 0)], .box b22 0 [hG b9 0 0]], .three (.cell1 8 3 rfl (i := 5) rfl bH rfl) (.cell1 9 3 rfl (i := 6) rfl bH rfl) (.tmp 10 (v := .d (.lit (.int .i64 e11))) rfl), .refl _, .same _⟩
  ·have h := aS c23 h
   refine bG ?_
   refine aG ?_
   refine aG ?_
   refine aE ?_
   refine tr1 rfl (aC (v := .d (.sl 1 (prizes_3.map bY))) (aA rfl) rfl rfl) ?_
   refine tr1 rfl (cX (aA rfl) rfl dK.of) ?_
   refine tr1 rfl (bC (aA rfl) rfl rfl rfl) ?_
   refine tr1 rfl (aC (v := .d (.lit (.bool ((decide (4 < (prizes_3.length : Int))))))) (aA rfl) rfl rfl) ?_
   obtain ⟨b24, h25, h⟩ := bind_some h
   refine cA 3 [3, 5, 6, 8, 9, 11] 31 b24 ?_ ?_
   ·refine bF (decide (4 < (prizes_3.length : Int))) (fun c43 => ?_) (fun c43 => ?_)
    ·have h25 := aT c43 h25
     refine aR rfl rfl (aA rfl) rfl (aA rfl) rfl c43 ?_
     refine aR rfl rfl (aA rfl) rfl (aA rfl) rfl c43 ?_
     refine tr1 rfl (bN (v := .d (.lit (.bool true))) (aA rfl) rfl c43 rfl rfl) ?_
     have h25 := Option.some.inj h25
     subst h25
     refine aF (bB rfl ⟨rfl, rfl, rfl, rfl, rfl, rfl, trivial⟩ rfl)
    ·have h25 := aS c43 h25
     refine aO rfl rfl (aA rfl) rfl c43 (aC (v := .d (.sl 1 (prizes_3.map bY))) (aA rfl) rfl rfl) ?_
     obtain ⟨r45, h46, h25⟩ := bind_some h25
     refine aO rfl rfl (aA rfl) rfl c43 (cC (aA rfl) (.func _ _ Try.call45) rfl rfl (BVs.refl _ _) (qC _ _ 46 [] Try.call46 (fun _ _ h25 => wQ _ h25) h46) rfl) ?_
     refine tr1 rfl (bP (v := .d (.lit (.bool r45))) (aA rfl) rfl c43 rfl rfl) ?_
     have h25 := Option.some.inj h25
     subst h25
     refine aF (bB rfl ⟨rfl, rfl, rfl, rfl, rfl, rfl, trivial⟩ rfl)
   ·refine aF ?_
    refine bJ rfl (fun c26 => ?_) (fun c26 => ?_)
    ·have h := aT c26 h
     refine aG ?_
     refine aE ?_
     refine tr1 rfl (cD (i := 5) rfl rfl rfl rfl rfl Try.sizeOf3 rfl (aA rfl) (Nat.le_of_ble_eq_true rfl) (ds' := [.lit (.int .i64 0)]) rfl) ?_
     refine tr1 rfl (cD (i := 6) rfl rfl rfl rfl rfl Try.sizeOf3 rfl (aA rfl) (Nat.le_of_ble_eq_true rfl) (ds' := [.lit (.int .i64 0)]) rfl) ?_
     refine tr1 rfl (aJ (v := .d (.lit (.int .i64 42))) (aA rfl) rfl rfl) ?_
     refine aF ?_
     have h := Option.some.inj h
     subst h
     exact bM ⟨rfl, _, [.box b9 0 [.lit (.int .i64 y8.Ledger.Players), .lit (.int .i64 y8.Ledger.Counts), .lit w10, .sl 3 (y8.Ledger.Bans.map aK), .sl 3 (y8.Ledger.Frozen.map aK)], .arr w10 42 5 (y8.Ledger.Reports.map aB), .box b1 0 (aN l_0), .box b2 0 [.lit (.int .i64 player_1)], .box b3 0 [.lit (.int .i64 week_2)], .box b4 0 [.lit (.int .i64 0)], .box b5 0 [.lit (.int .i64 0)], .box b22 0 [hG b9 0 0]], .three (.cell1 8 3 rfl (i := 5) rfl bH rfl) (.cell1 9 3 rfl (i := 6) rfl bH rfl) (.tmp 10 (v := .d (.lit (.int .i64 42))) rfl), .refl _, .same _⟩
    ·have h := aS c26 h
     refine bG ?_
     refine aG ?_
     refine aE ?_
     refine tr1 rfl (jE 3 1 (.inl rfl) (aA rfl)) ?_
     refine aF ?_
     refine aG ?_
     refine aG ?_
     refine aE ?_
     refine tr1 rfl (tV (i := 7) (aA rfl) rfl rfl rfl wO) ?_
     refine tr1 rfl (lS (aA rfl) rfl) ?_
     refine tr1 rfl (aU (aA rfl) rfl jO) ?_
     refine tr1 rfl (aU (aA rfl) rfl iJ) ?_
     refine tr1 rfl (aW (aA rfl) rfl (i := 0) rfl rfl bH) ?_
     refine tr1 rfl (aC (v := .d (.lit (.int .i64 0))) (aA rfl) rfl rfl) ?_
     refine aF ?_
     refine bQ ?_
     refine cG [3, 5, 6, 8, 9, 11, 36] (fun (s28 : Int × (List Int) × Value) => [(12, .d (.lit s28.2.2)), (37, .d (.lit (.int .i64 s28.1)))]) (fun (s28 : Int × (List Int) × Value) => [.box b2 0 [.lit (.int .i64 player_1)], .box b3 0 [.lit (.int .i64 week_2)], .box b4 0 [.lit (.int .i64 0)], .box b5 0 [.lit (.int .i64 0)], .box b22 0 [hG b9 0 0], .arr s28.2.2 3 1 (s28.2.1.map bY), .arr w10 42 5 (y8.Ledger.Reports.map aB), .box b9 0 [.lit (.int .i64 y8.Ledger.Players), .lit (.int .i64 y8.Ledger.Counts), .lit w10, .sl 3 (y8.Ledger.Bans.map aK), .sl 3 (y8.Ledger.Frozen.map aK)]]) (fun (k : Nat) (s28 : Int × (List Int) × Value) => kX prizes_3 y8.Ledger.Players player_1 week_2 0 0 y8.Ledger.Reports y8.Ledger.Players y8.Ledger.Counts y8.Ledger.Bans y8.Ledger.Frozen k s28.1 s28.2.1) (fun _ => rfl) (0, ([] : List Int), (.slice none 0 0)) h (aX [3, 4, 5, 6, 7, 8, 1, 0] rfl rfl (aM rfl (aM rfl (aV ⟨rfl, rfl, rfl, rfl, rfl, rfl, rfl, trivial⟩)))) ?_
     rintro k30 ⟨t37_0_28, free_0_28, w29⟩ h
     simp only [kX] at h
     refine aG ?_
     refine aE ?_
     refine tr1 rfl (bC (aA rfl) rfl rfl rfl) ?_
     refine aF ?_
     refine aG ?_
     refine bJ rfl (fun c31 => ?_) (fun c31 => ?_)
     ·have h := aT c31 h
      refine bG ?_
      refine aG ?_
      refine bQ ?_
      refine aG ?_
      refine aE ?_
      refine tr1 rfl (aC (v := .d (.lit (.int .i64 t37_0_28))) (aA rfl) rfl rfl) ?_
      refine tr1 rfl (aJ (v := .d (.lit (.int .i64 t37_0_28))) (aA rfl) rfl rfl) ?_
      refine aF ?_
      refine aG ?_
      refine fN mix 7 [3, 5, 6, 8, 9, 11, 12, 13, 36, 37] [(44, .d (.sl 3 (y8.Ledger.Bans.map aK))), (45, .d (.lit (.int .i64 t37_0_28))), (46, .d (.lit (.int .i64 week_2)))] ?_ ?_
      ·refine ⟨[(40, 0, .bp b9 0 0), (41, 1, .bp b9 0 0), (42, 2, .bp b9 0 0), (43, 3, .bp b9 0 3), (44, 4, .d (.sl 3 (y8.Ledger.Bans.map aK))), (45, 5, .d (.lit (.int .i64 t37_0_28))), (46, 6, .d (.lit (.int .i64 week_2)))], ?_, ?_⟩
       · exact ⟨by kernel_rfl, by kernel_rfl, by kernel_rfl, by kernel_rfl, by kernel_rfl, [([], []), ([0], []), ([1], []), ([2], []), ([3], []), ([], []), ([], [])], by kernel_rfl, ⟨fun S hS => aI rfl (aQ rfl (tV (i := 4) (aA rfl) (aH hS rfl) rfl rfl wO)),
      fun S hS => aI rfl (aQ rfl (lS (aA rfl) (aH hS rfl))),
      fun S hS => aI rfl (aQ rfl (aU (aA rfl) (aH hS rfl) jO)),
      fun S hS => aI rfl (aQ rfl (aU (aA rfl) (aH hS rfl) lH)),
      fun S hS => aI rfl (aQ rfl (aW (aA rfl) (aH hS rfl) (i := 7) rfl rfl jA)),
      fun S hS => aI rfl (aQ rfl (aC (v := .d (.lit (.int .i64 t37_0_28))) (aA rfl) (aH hS rfl) rfl)),
      fun S hS => aI rfl (aQ rfl (aW (aA rfl) (aH hS rfl) (i := 1) rfl rfl bH)), trivial⟩⟩
       · exact dI (aM rfl (aM rfl (aM rfl (aV ⟨rfl, rfl, rfl, rfl, rfl, rfl, rfl, rfl, rfl, rfl, trivial⟩))))
      ·obtain ⟨r32, h33, h⟩ := bind_some h
       refine tr1 rfl (cC (aA rfl) (.func _ _ Try.call48) rfl rfl (BVs.refl _ _) (wB _ _ _ h33) rfl) ?_
       refine tr1 rfl (eM (aA rfl) rfl) ?_
       refine aF ?_
       refine bJ rfl (fun c34 => ?_) (fun c34 => ?_)
       ·have h := aT c34 h
        refine aE ?_
        refine tr1 rfl (aC (v := .d (.lit w29)) (aA rfl) rfl rfl) ?_
        refine tr1 rfl (aC (v := .d (.lit (.int .i64 t37_0_28))) (aA rfl) rfl rfl) ?_
        refine tr1 rfl (iL (aA rfl) dK rfl rfl (rows := ([t37_0_28]).map bY) rfl (cP (f := bY) fun _ => rfl) rfl (by decide)) ?_
        obtain ⟨x35, h36, h⟩ := bind_some h
        refine bW rfl (gQ (i := 5) (aA rfl) dK rfl rfl rfl (fun _ => rfl) h36 rfl) ?_
        rintro _ ⟨v37, rfl⟩
        refine tr1 rfl (aJ (v := .d (.lit v37)) (aA rfl) rfl rfl) ?_
        refine dG ?_
        refine aE ?_
        refine tr1 rfl (aZ (aA rfl) rfl rfl rfl) ?_
        refine tr1 rfl (aC (v := .d (.lit (.int .i64 ((w64 (t37_0_28 + 1)))))) (aA rfl) rfl rfl) ?_
        refine aF ?_
        exact ⟨(w64 (t37_0_28 + 1), x35, v37), h, aX [0, 1, 2, 3, 4, 5, 6, 7] rfl rfl (aM rfl (aM rfl (aV ⟨rfl, rfl, rfl, rfl, rfl, rfl, rfl, trivial⟩)))⟩
       ·have h := aS c34 h
        refine dS ?_
        refine aE ?_
        refine tr1 rfl (aZ (aA rfl) rfl rfl rfl) ?_
        refine tr1 rfl (aC (v := .d (.lit (.int .i64 ((w64 (t37_0_28 + 1)))))) (aA rfl) rfl rfl) ?_
        refine aF ?_
        exact ⟨(w64 (t37_0_28 + 1), free_0_28, w29), h, aX [0, 1, 2, 3, 4, 5, 6, 7] rfl rfl (aM rfl (aM rfl (aV ⟨rfl, rfl, rfl, rfl, rfl, rfl, rfl, trivial⟩)))⟩
     ·have h := aS c31 h
      refine cN ?_
      refine .inl ⟨rfl, ?_⟩
      simp only [rQ] at h
      refine aG ?_
      refine aE ?_
      refine tr1 rfl (tV (i := 4) (aA rfl) rfl rfl rfl wO) ?_
      refine tr1 rfl (lS (aA rfl) rfl) ?_
      refine tr1 rfl (aU (aA rfl) rfl jO) ?_
      refine tr1 rfl (aU (aA rfl) rfl iJ) ?_
      refine tr1 rfl (aW (aA rfl) rfl (i := 7) rfl rfl bH) ?_
      refine tr1 rfl (aZ (aA rfl) rfl rfl rfl) ?_
      refine tr1 rfl (cD (i := 2) rfl rfl rfl rfl rfl Try.sizeOf3 rfl (aA rfl) (Nat.le_of_ble_eq_true rfl) (ds' := [.lit (.int .i64 ((w64 (y8.Ledger.Players + 1))))]) rfl) ?_
      refine tr1 rfl (cD (i := 3) rfl rfl rfl rfl rfl Try.sizeOf3 rfl (aA rfl) (Nat.le_of_ble_eq_true rfl) (ds' := [.lit (.int .i64 0)]) rfl) ?_
      refine aF ?_
      refine aG ?_
      refine aE ?_
      refine bW rfl (fV (zs := [.lit (.bool false)]) (aA rfl) Try.zeroValue4 rfl rfl) ?_
      rintro _ ⟨b38, rfl⟩
      refine tr1 rfl (cD (i := 8) rfl rfl rfl rfl rfl Try.sizeOf4 rfl (aA rfl) (Nat.le_of_ble_eq_true rfl) (ds' := [.lit (.bool false)]) rfl) ?_
      refine aF ?_
      refine aG ?_
      refine aE ?_
      refine tr1 rfl (tV (i := 4) (aA rfl) rfl rfl rfl wO) ?_
      refine tr1 rfl (aW (aA rfl) rfl (i := 1) rfl rfl bH) ?_
      refine tr1 rfl (aC (v := .d (.sl 1 (prizes_3.map bY))) (aA rfl) rfl rfl) ?_
      refine tr1 rfl (aC (v := .d (.lit w29)) (aA rfl) rfl rfl) ?_
      refine tr1 rfl (yZ (aA rfl) rfl rfl) ?_
      refine gN (aX [0, 1, 2, 3, 4, 6, 7, 8, 5] rfl rfl (le_refl _)) ?_
      refine gN (sY [.box b2 0 [.lit (.int .i64 player_1)], .box b3 0 [.lit (.int .i64 week_2)], .box b4 0 [.lit (.int .i64 ((w64 (y8.Ledger.Players + 1))))], .box b5 0 [.lit (.int .i64 0)], .box b22 0 [hG b9 0 0], .arr w10 42 5 (y8.Ledger.Reports.map aB), .box b9 0 [.lit (.int .i64 y8.Ledger.Players), .lit (.int .i64 y8.Ledger.Counts), .lit w10, .sl 3 (y8.Ledger.Bans.map aK), .sl 3 (y8.Ledger.Frozen.map aK)], .box b38 0 [.lit (.bool false)]] [.arr w29 3 1 (free_0_28.map bY)] rfl (gM (k := 63) (v := .d (.sl 1 (free_0_28.map bY))) (.d (hO 0 rfl (cP (f := bY) fun _ => rfl))) (gM (k := 12) (v := .d (.sl 1 (free_0_28.map bY))) (.d (hO 0 rfl (cP (f := bY) fun _ => rfl))) (oX _ _)))) ?_
      refine gN (aX [6, 0, 1, 2, 3, 4, 7, 5] rfl rfl (le_refl _)) ?_
      refine gN (aGm (ds' := (cK y8)) [.box b2 0 [.lit (.int .i64 player_1)], .box b3 0 [.lit (.int .i64 week_2)], .box b4 0 [.lit (.int .i64 ((w64 (y8.Ledger.Players + 1))))], .box b5 0 [.lit (.int .i64 0)], .box b22 0 [hG b9 0 0], .box b38 0 [.lit (.bool false)]] [.arr w10 42 5 (y8.Ledger.Reports.map aB)] rfl (dvc (.same _) (dvc (.same _) (dvc (hO 0 rfl (cP (f := aB) fun _ => rfl)) (dvc (.same _) (dvc (.same _) dvn))))) (oX _ _)) ?_
      obtain ⟨r39, h40, h⟩ := bind_some h
      refine gN (aX [0, 5, 1, 2, 6, 3, 4] rfl rfl (le_refl _)) ?_
      refine bW rfl (dX (passed := [.box b9 0 (cK y8), .box b22 0 [hG b9 0 0], .box b2 0 [.lit (.int .i64 player_1)], .box b3 0 [.lit (.int .i64 week_2)], .box b38 0 [.lit (.bool false)], .box b4 0 [.lit (.int .i64 ((w64 (y8.Ledger.Players + 1))))], .box b5 0 [.lit (.int .i64 0)]]) (aA rfl) rfl (.func _ _ Try.call49) rfl rfl (xV y8 player_1 week_2 false (w64 (y8.Ledger.Players + 1)) 0 week_2 prizes_3 free_0_28 h40)) ?_
      rintro _ ⟨_, _, ⟨rfl, rfl⟩, rfl⟩
      refine aF ?_
      refine aG ?_
      refine aG ?_
      refine aE ?_
      refine tr1 rfl (aW (aA rfl) rfl (i := 4) rfl rfl nW) ?_
      refine aF ?_
      refine bJ rfl (fun c41 => ?_) (fun c41 => ?_)
      ·have h := aT c41 h
       refine aG ?_
       refine aE ?_
       refine tr1 rfl (cD (i := 5) rfl rfl rfl rfl rfl Try.sizeOf3 rfl (aA rfl) (Nat.le_of_ble_eq_true rfl) (ds' := [.lit (.int .i64 0)]) rfl) ?_
       refine tr1 rfl (cD (i := 6) rfl rfl rfl rfl rfl Try.sizeOf3 rfl (aA rfl) (Nat.le_of_ble_eq_true rfl) (ds' := [.lit (.int .i64 0)]) rfl) ?_
       refine tr1 rfl (aJ (v := .d (.lit (.int .i64 3))) (aA rfl) rfl rfl) ?_
       refine aF ?_
       have h := Option.some.inj h
       subst h
       exact bM ⟨rfl, _, [.box b9 0 (cK r39.1), .box b22 0 [hG b9 0 0], .box b2 0 [.lit (.int .i64 player_1)], .box b3 0 [.lit (.int .i64 week_2)], .box b38 0 [.lit (.bool r39.2.1)], .box b4 0 [.lit (.int .i64 0)], .box b5 0 [.lit (.int .i64 0)]], .three (.cell1 8 3 rfl (i := 5) rfl bH rfl) (.cell1 9 3 rfl (i := 6) rfl bH rfl) (.tmp 10 (v := .d (.lit (.int .i64 3))) rfl), .refl _, .same _⟩
      ·have h := aS c41 h
       refine bG ?_
       refine aG ?_
       refine lZ mix 3 [8, 9] (fun X42 => [(68, .d (.lit (.int .i64 r39.2.2.2)))]) (fun X42 => [.box b9 0 (cK r39.1), .box b22 0 [hG b9 0 0], .box b2 0 [.lit (.int .i64 player_1)], .box b3 0 [.lit (.int .i64 week_2)], .box b38 0 [.lit (.bool r39.2.1)], .box b4 0 [.lit (.int .i64 r39.2.2.1)], .box b5 0 [.lit (.int .i64 r39.2.2.2)]]) ?_ ?_
       ·refine ⟨0, fun X42 => [(67, 0, .d (.lit (.int .i64 r39.2.2.1))), (68, 1, .d (.lit (.int .i64 r39.2.2.2)))], fun X42 => [([], .box b9 0 (cK r39.1)), ([], .box b22 0 [hG b9 0 0]), ([], .box b2 0 [.lit (.int .i64 player_1)]), ([], .box b3 0 [.lit (.int .i64 week_2)]), ([], .box b38 0 [.lit (.bool r39.2.1)]), ([(2, .box b4 0 [.lit (.int .i64 r39.2.2.1)])], .box b4 0 [.lit (.int .i64 r39.2.2.1)]), ([], .box b5 0 [.lit (.int .i64 r39.2.2.2)])], ?_, ?_⟩
        · exact ⟨by kernel_rfl, by kernel_rfl, by kernel_rfl, fun _ => by kernel_rfl, fun _ => by kernel_rfl, fun _ => by kernel_rfl, fun _ => rfl, [([], [2]), ([], []), ([0], [])], by kernel_rfl, ⟨fun X42 S hw hi hS => bL (X := X42) rfl (hw X42) rfl (aQ rfl (aW (aA rfl) (aH hS rfl) (i := 5) (og hS rfl rfl) rfl bH)),
      fun X42 S hw hi hS => bL (X := X42) rfl (hw X42) rfl (aQ rfl (aW (aA rfl) (aH hS rfl) (i := 6) (og hS rfl rfl) rfl bH)),
      fun X42 S hw hi hS => sC (X := X42) hS rfl rfl rfl (p := 5) rfl rfl (aQ rfl (cD (i := 5) (aH hS rfl) (og hS rfl rfl) (aH hS rfl) rfl rfl Try.sizeOf3 rfl (aA rfl) (Nat.le_of_ble_eq_true rfl) (ds' := [.lit (.int .i64 r39.2.2.1)]) rfl)), trivial⟩⟩
        · exact fun X42 => dI (aM rfl (aV ⟨rfl, rfl, trivial⟩))
       ·intro X42
        refine tr1 rfl (cD (i := 6) rfl rfl rfl rfl rfl Try.sizeOf3 rfl (aA rfl) (Nat.le_of_ble_eq_true rfl) (ds' := [.lit (.int .i64 r39.2.2.2)]) rfl) ?_
        refine tr1 rfl (aJ (v := .d (.lit (.int .i64 0))) (aA rfl) rfl rfl) ?_
        refine aF ?_
        have h := Option.some.inj h
        subst h
        exact bM ⟨rfl, _, [.box b9 0 (cK r39.1), .box b22 0 [hG b9 0 0], .box b2 0 [.lit (.int .i64 player_1)], .box b3 0 [.lit (.int .i64 week_2)], .box b38 0 [.lit (.bool r39.2.1)], .box b4 0 [.lit (.int .i64 r39.2.2.1)], .box b5 0 [.lit (.int .i64 r39.2.2.2)]], .three (.cell1 8 3 rfl (i := 5) rfl bH rfl) (.cell1 9 3 rfl (i := 6) rfl bH rfl) (.tmp 10 (v := .d (.lit (.int .i64 0))) rfl), .refl _, .same _⟩

theorem tR (b_0 : cB) (player_1 : Int) (week_2 : Int) {r : Int} (h : pG b_0 player_1 week_2 = some r) : Fn Try.prog 55 [.cp (cK b_0), .d (.lit (.int .i64 player_1)), .d (.lit (.int .i64 week_2))] (.d (.lit (.int .i64 r))) := by
 unfold pG at h
 refine Fn.of_tr Try.func55 rfl (rs := [.tmp 6]) Try.results55 Try.ntmps55 (Nat.le_of_ble_eq_true rfl) ?_
 refine aG ?_
 refine aE ?_
 refine tr1 rfl (aJ (v := .d (.lit (.int .i64 0))) (aA rfl) rfl rfl) ?_
 refine aF ?_
 refine aG ?_
 refine aE ?_
 refine tr1 rfl (aC (v := .cp [.lit (.int .i64 b_0.Ledger.Players), .lit (.int .i64 b_0.Ledger.Counts), .sl 5 (b_0.Ledger.Reports.map aB), .sl 3 (b_0.Ledger.Bans.map aK), .sl 3 (b_0.Ledger.Frozen.map aK)]) (aA rfl) rfl rfl) ?_
 refine tr1 rfl (aC (v := .cp [.lit (.int .i64 b_0.Ledger.Players), .lit (.int .i64 b_0.Ledger.Counts), .sl 5 (b_0.Ledger.Reports.map aB), .sl 3 (b_0.Ledger.Bans.map aK), .sl 3 (b_0.Ledger.Frozen.map aK)]) (aA rfl) rfl rfl) ?_
 refine tr1 rfl (aC (v := .d (.lit (.int .i64 player_1))) (aA rfl) rfl rfl) ?_
 refine tr1 rfl (aC (v := .d (.lit (.int .i64 week_2))) (aA rfl) rfl rfl) ?_
 obtain ⟨r1, h2, h⟩ := bind_some h
 refine tr1 rfl (iT (aA rfl) (.func _ _ Try.call72) rfl rfl (uD _ _ _ h2)) ?_
 obtain ⟨r3, h4, h⟩ := bind_some h
 refine tr1 rfl (iT (aA rfl) (.func _ _ Try.call71) rfl rfl (uE _ _ h4)) ?_
 obtain ⟨r5, h6, h⟩ := bind_some h
 refine tr1 rfl (cC (aA rfl) (.func _ _ Try.call86) rfl rfl (BVs.refl _ _) (aBu _ h6) rfl) ?_
 refine tr1 rfl (aJ (v := .d (.lit (.int .i64 r5))) (aA rfl) rfl rfl) ?_
 refine aF ?_
 have h := Option.some.inj h
 subst h
 exact bM ⟨rfl, _, .one _, rfl, rfl⟩

theorem sS (s_0 : List aD) (f_1 : aD → Option Bool) {r : Int} (f_1_f : Nat) (f_1_v : List AV) (f_1_e : ∀ args w, (callFunc f_1_f args).run Try.prog w = .ok (.enter f_1_f args) w) (f_1_h : ∀ (x0 : aD) r, f_1 x0 = some r → Fn Try.prog f_1_f ([.agg (aB x0)] ++ f_1_v) (.d (.lit (.bool r)))) (h : lX s_0 f_1 = some r) : Fn Try.prog 75 [.d (.sl 5 (s_0.map aB)), .fn f_1_f f_1_v] (.d (.lit (.int .i64 r))) := by
 unfold lX at h
 refine Fn.of_tr Try.func75 rfl (rs := [.tmp 4]) Try.results75 Try.ntmps75 (Nat.le_of_ble_eq_true rfl) ?_
 refine aG ?_
 refine aE ?_
 refine tr1 rfl (aJ (v := .d (.lit (.int .i64 0))) (aA rfl) rfl rfl) ?_
 refine aF ?_
 refine aG ?_
 refine aG ?_
 refine aE ?_
 refine tr1 rfl (aC (v := .d (.sl 5 (s_0.map aB))) (aA rfl) rfl rfl) ?_
 refine tr1 rfl (cX (aA rfl) rfl bR.of) ?_
 refine tr1 rfl (aC (v := .d (.lit (.int .i64 0))) (aA rfl) rfl rfl) ?_
 refine aF ?_
 refine bQ ?_
 refine cG [0, 1, 7] (fun (s1 : Int) => [(8, .d (.lit (.int .i64 s1)))]) (fun (s1 : Int) => []) (fun (k : Nat) (s1 : Int) => iP s_0 f_1 (s_0.length : Int) k s1) (fun _ => rfl) (0) h (aX [] rfl rfl (aM rfl (aV ⟨rfl, rfl, rfl, trivial⟩))) ?_
 rintro k2 t8_0_1 h
 simp only [iP] at h
 refine aG ?_
 refine aE ?_
 refine tr1 rfl (bC (aA rfl) rfl rfl rfl) ?_
 refine aF ?_
 refine aG ?_
 refine bJ rfl (fun c3 => ?_) (fun c3 => ?_)
 ·have h := aT c3 h
  refine bG ?_
  refine aG ?_
  refine bQ ?_
  refine aG ?_
  refine aE ?_
  refine tr1 rfl (aC (v := .d (.lit (.int .i64 t8_0_1))) (aA rfl) rfl rfl) ?_
  refine tr1 rfl (aJ (v := .d (.lit (.int .i64 t8_0_1))) (aA rfl) rfl rfl) ?_
  refine aF ?_
  refine aG ?_
  refine aE ?_
  refine tr1 rfl (aC (v := .fn f_1_f f_1_v) (aA rfl) rfl rfl) ?_
  refine tr1 rfl (aC (v := .d (.sl 5 (s_0.map aB))) (aA rfl) rfl rfl) ?_
  refine tr1 rfl (aC (v := .d (.lit (.int .i64 t8_0_1))) (aA rfl) rfl rfl) ?_
  obtain ⟨x4, h5, h⟩ := bind_some h
  refine tr1 rfl (bO (aA rfl) rfl rfl bR.of (bI aB h5)) ?_
  refine tr1 rfl (fJ (aA rfl) rfl dY (es := (aB x4)) rfl rfl) ?_
  obtain ⟨r6, h7, h⟩ := bind_some h
  refine tr1 rfl (cC (aA rfl) (.clo _ _ _ _ f_1_e rfl) (uS rfl) rfl (BVs.refl _ _) (f_1_h _ _  h7) rfl) ?_
  refine aF ?_
  refine bJ rfl (fun c8 => ?_) (fun c8 => ?_)
  ·have h := aT c8 h
   refine aG ?_
   refine aE ?_
   refine tr1 rfl (aC (v := .d (.lit (.int .i64 t8_0_1))) (aA rfl) rfl rfl) ?_
   refine tr1 rfl (aJ (v := .d (.lit (.int .i64 t8_0_1))) (aA rfl) rfl rfl) ?_
   refine aF ?_
   have h := Option.some.inj h
   subst h
   exact bM ⟨rfl, _, .one _, rfl, rfl⟩
  ·have h := aS c8 h
   refine dS ?_
   refine aE ?_
   refine tr1 rfl (aZ (aA rfl) rfl rfl rfl) ?_
   refine tr1 rfl (aC (v := .d (.lit (.int .i64 ((w64 (t8_0_1 + 1)))))) (aA rfl) rfl rfl) ?_
   refine aF ?_
   exact ⟨(w64 (t8_0_1 + 1)), h, aX [] rfl rfl (aM rfl (aV ⟨rfl, rfl, rfl, trivial⟩))⟩
 ·have h := aS c3 h
  refine cN ?_
  refine .inl ⟨rfl, ?_⟩
  simp only [oC] at h
  refine aG ?_
  refine aE ?_
  refine tr1 rfl (aJ (v := .d (.lit (.int .i64 (-1)))) (aA rfl) rfl rfl) ?_
  refine aF ?_
  have h := Option.some.inj h
  subst h
  exact bM ⟨rfl, _, .one _, rfl, rfl⟩

theorem sP (s_0 : List aD) (del_1 : aD → Option Bool) {r : (List aD)} {s_0_v : Value} (del_1_f : Nat) (del_1_v : List AV) (del_1_e : ∀ args w, (callFunc del_1_f args).run Try.prog w = .ok (.enter del_1_f args) w) (del_1_h : ∀ (x0 : aD) r, del_1 x0 = some r → Fn Try.prog del_1_f ([.agg (aB x0)] ++ del_1_v) (.d (.lit (.bool r)))) (h : lO s_0 del_1 = some r) : gC Try.prog 56 [.d (.lit s_0_v), .fn del_1_f del_1_v] [.arr s_0_v 42 5 (s_0.map aB)] (fun r' o' => ∃ w0 : Value, r' = .d (.lit w0) ∧ o' = [.arr w0 42 5 (r.map aB)]) := by
 unfold lO at h
 refine mP Try.func56 rfl (rs := [.tmp 4]) Try.results56 Try.ntmps56 (Nat.le_of_ble_eq_true rfl) ?_
 refine aG ?_
 refine aE ?_
 refine tr1 rfl (jE 42 5 (.inl rfl) (aA rfl)) ?_
 refine aF ?_
 refine aG ?_
 refine aE ?_
 refine tr1 rfl (aC (v := .d (.lit s_0_v)) (aA rfl) rfl rfl) ?_
 refine tr1 rfl (aC (v := .fn del_1_f del_1_v) (aA rfl) rfl rfl) ?_
 obtain ⟨r2, h3, h⟩ := bind_some h
 refine tr1 rfl (cC (aA rfl) (.func _ _ Try.call75) rfl rfl (.cons (.d (hO 0 rfl (cP (f := aB) fun _ => rfl))) (.cons (.same _) .nil)) (sS _ _ del_1_f del_1_v del_1_e del_1_h h3) rfl) ?_
 refine tr1 rfl (aJ (v := .d (.lit (.int .i64 r2))) (aA rfl) rfl rfl) ?_
 refine aF ?_
 refine aG ?_
 refine aG ?_
 refine aE ?_
 refine tr1 rfl (aC (v := .d (.lit (.int .i64 r2))) (aA rfl) rfl rfl) ?_
 refine tr1 rfl (bC (aA rfl) rfl rfl rfl) ?_
 refine aF ?_
 refine bJ rfl (fun c4 => ?_) (fun c4 => ?_)
 ·have h := aT c4 h
  refine aG ?_
  refine aE ?_
  refine tr1 rfl (aC (v := .d (.lit s_0_v)) (aA rfl) rfl rfl) ?_
  refine tr1 rfl (aJ (v := .d (.lit s_0_v)) (aA rfl) rfl rfl) ?_
  refine aF ?_
  have h := Option.some.inj h
  subst h
  exact bM ⟨rfl, _, [.arr s_0_v 42 5 (s_0.map aB)], [.arr (.slice none 0 0) 42 5 (([] : List aD).map aB)], _, .one (.tmp 4 (v := .d (.lit s_0_v)) rfl), .refl _, .same _, s_0_v, rfl, rfl⟩
 ·have h := aS c4 h
  refine bG ?_
  refine aG ?_
  refine aG ?_
  refine aE ?_
  refine tr1 rfl (aC (v := .d (.lit (.int .i64 r2))) (aA rfl) rfl rfl) ?_
  refine tr1 rfl (aZ (aA rfl) rfl rfl rfl) ?_
  refine tr1 rfl (aJ (v := .d (.lit (.int .i64 ((w64 (r2 + 1)))))) (aA rfl) rfl rfl) ?_
  refine aF ?_
  refine bQ ?_
  refine cG [1] (fun (s5 : Int × Int × (List aD)) => [(0, .d (.lit s_0_v)), (5, .d (.lit (.int .i64 s5.1))), (6, .d (.lit (.int .i64 s5.2.1)))]) (fun (s5 : Int × Int × (List aD)) => [.arr s_0_v 42 5 (s5.2.2.map aB)]) (fun (k : Nat) (s5 : Int × Int × (List aD)) => fX del_1 k s5.1 s5.2.1 s5.2.2) (fun _ => rfl) (r2, w64 (r2 + 1), s_0) h (aX [0] rfl rfl (aM rfl (aM rfl (aM rfl (aV ⟨rfl, trivial⟩))))) ?_
  rintro k6 ⟨i_0_5, j_0_5, s_0_5⟩ h
  simp only [fX] at h
  refine aG ?_
  refine aG ?_
  refine aE ?_
  refine tr1 rfl (aC (v := .d (.lit (.int .i64 j_0_5))) (aA rfl) rfl rfl) ?_
  refine tr1 rfl (aC (v := .d (.lit s_0_v)) (aA rfl) rfl rfl) ?_
  refine tr1 rfl (lR (m := 0) (aA rfl) rfl rfl bR.of) ?_
  refine tr1 rfl (bC (aA rfl) rfl rfl rfl) ?_
  refine aF ?_
  refine bJ rfl (fun c7 => ?_) (fun c7 => ?_)
  ·have h := aT c7 h
   refine bG ?_
   refine aG ?_
   refine bQ ?_
   refine aG ?_
   refine aE ?_
   refine tr1 rfl (aC (v := .d (.lit s_0_v)) (aA rfl) rfl rfl) ?_
   refine tr1 rfl (aC (v := .d (.lit (.int .i64 j_0_5))) (aA rfl) rfl rfl) ?_
   obtain ⟨x8, h9, h⟩ := bind_some h
   refine tr1 rfl (cL (m := 0) (aA rfl) rfl rfl rfl bR.of (bI aB h9)) ?_
   refine tr1 rfl (dJ (aA rfl) rfl (l := 0) rfl (eF aB h9) dY (es := (aB x8)) rfl rfl) ?_
   refine bW rfl (fV (zs := [.lit (.int .i64 0), .lit (.int .i64 0), .lit (.int .i64 0), .lit (.int .i64 0), .lit (.bool false)]) (aA rfl) Try.zeroValue42 rfl rfl) ?_
   rintro _ ⟨b10, rfl⟩
   refine tr1 rfl (cD (i := 1) rfl rfl rfl rfl rfl Try.sizeOf42 rfl (aA rfl) (Nat.le_of_ble_eq_true rfl) (ds' := (aB x8)) rfl) ?_
   refine aF ?_
   refine aG ?_
   refine aE ?_
   refine tr1 rfl (aC (v := .fn del_1_f del_1_v) (aA rfl) rfl rfl) ?_
   refine tr1 rfl (cH (aA rfl) rfl (i := 1) rfl dY (es := (aB x8)) rfl rfl) ?_
   obtain ⟨r11, h12, h⟩ := bind_some h
   refine tr1 rfl (cC (aA rfl) (.clo _ _ _ _ del_1_e rfl) (uS rfl) rfl (BVs.refl _ _) (del_1_h _ _  h12) rfl) ?_
   refine tr1 rfl (eM (aA rfl) rfl) ?_
   refine aF ?_
   refine bJ rfl (fun c13 => ?_) (fun c13 => ?_)
   ·have h := aT c13 h
    refine aG ?_
    refine aE ?_
    refine tr1 rfl (aC (v := .d (.lit s_0_v)) (aA rfl) rfl rfl) ?_
    refine tr1 rfl (aC (v := .d (.lit (.int .i64 i_0_5))) (aA rfl) rfl rfl) ?_
    refine tr1 rfl (cH (aA rfl) rfl (i := 1) rfl dY (es := (aB x8)) rfl rfl) ?_
    obtain ⟨x14, h15, h⟩ := bind_some h
    refine tr1 rfl (cL (m := 0) (aA rfl) rfl rfl rfl bR.of (bI aB h15)) ?_
    refine tr1 rfl (jM (l := 0) rfl rfl (eF aB h15) rfl rfl rfl Try.sizeOf42 rfl (aA rfl) (Nat.le_of_ble_eq_true rfl) (rows' := ((s_0_5.set i_0_5.toNat x8)).map aB) (mZ _ _ _ _ rfl)) ?_
    refine aF ?_
    refine aE ?_
    refine tr1 rfl (aC (v := .d (.lit (.int .i64 i_0_5))) (aA rfl) rfl rfl) ?_
    refine tr1 rfl (aZ (aA rfl) rfl rfl rfl) ?_
    refine tr1 rfl (aJ (v := .d (.lit (.int .i64 ((w64 (i_0_5 + 1)))))) (aA rfl) rfl rfl) ?_
    refine dG ?_
    refine aE ?_
    refine tr1 rfl (aC (v := .d (.lit (.int .i64 j_0_5))) (aA rfl) rfl rfl) ?_
    refine tr1 rfl (aZ (aA rfl) rfl rfl rfl) ?_
    refine tr1 rfl (aJ (v := .d (.lit (.int .i64 ((w64 (j_0_5 + 1)))))) (aA rfl) rfl rfl) ?_
    refine aF ?_
    exact ⟨(w64 (i_0_5 + 1), w64 (j_0_5 + 1), (s_0_5.set i_0_5.toNat x8)), h, aX [0] rfl rfl (aM rfl (aM rfl (aM rfl (aV ⟨rfl, trivial⟩))))⟩
   ·have h := aS c13 h
    refine dS ?_
    refine aE ?_
    refine tr1 rfl (aC (v := .d (.lit (.int .i64 j_0_5))) (aA rfl) rfl rfl) ?_
    refine tr1 rfl (aZ (aA rfl) rfl rfl rfl) ?_
    refine tr1 rfl (aJ (v := .d (.lit (.int .i64 ((w64 (j_0_5 + 1)))))) (aA rfl) rfl rfl) ?_
    refine aF ?_
    exact ⟨(i_0_5, w64 (j_0_5 + 1), s_0_5), h, aX [0] rfl rfl (aM rfl (aM rfl (aM rfl (aV ⟨rfl, trivial⟩))))⟩
  ·have h := aS c7 h
   refine cN ?_
   refine .inl ⟨rfl, ?_⟩
   simp only [nN] at h
   refine aG ?_
   refine aE ?_
   refine tr1 rfl (aC (v := .d (.lit s_0_v)) (aA rfl) rfl rfl) ?_
   refine tr1 rfl (aC (v := .d (.lit (.int .i64 i_0_5))) (aA rfl) rfl rfl) ?_
   obtain ⟨u16, h17, h⟩ := bind_some h
   refine tr1 rfl (vG (m := 0) (aA rfl) rfl rfl rfl bR.of h17) ?_
   obtain ⟨u18, h19, h⟩ := bind_some h
   refine tr1 rfl (aEr (f := aB) (m := 0) bR rfl rfl h19 (by decide)) ?_
   refine aF ?_
   refine aG ?_
   refine aE ?_
   refine tr1 rfl (aC (v := .d (.lit s_0_v)) (aA rfl) rfl rfl) ?_
   refine tr1 rfl (aC (v := .d (.lit (.int .i64 i_0_5))) (aA rfl) rfl rfl) ?_
   obtain ⟨u20, h21, h⟩ := bind_some h
   refine tr1 rfl (sN (m := 0) (q := i_0_5.toNat) (v := s_0_v) (aA rfl) rfl rfl rfl rfl (aBd h21) bR.of) ?_
   refine tr1 rfl (aJ (v := .d (.lit (gS s_0_v i_0_5.toNat))) (aA rfl) rfl rfl) ?_
   refine aF ?_
   have h := Option.some.inj h
   subst h
   exact bM ⟨rfl, _, [.arr (gS s_0_v i_0_5.toNat) 42 5 ((s_0_5.take i_0_5.toNat).map aB)], [], _, .one (.tmp 4 (v := .d (.lit (gS s_0_v i_0_5.toNat))) rfl), .refl _, .same _, (gS s_0_v i_0_5.toNat), rfl, rfl⟩

theorem aAz (r_0 : aD) (c_1 : Int) {r : Bool} (h : qV r_0 c_1 = some r) : Fn Try.prog 57 [.agg (aB r_0), .cp [.lit (.int .i64 c_1)]] (.d (.lit (.bool r))) := by
 unfold qV at h
 refine Fn.of_tr Try.func57 rfl (rs := [.tmp 3]) Try.results57 Try.ntmps57 (Nat.le_of_ble_eq_true rfl) ?_
 refine aG ?_
 refine aE ?_
 refine bW rfl (eN (v := .agg (aB r_0)) (aA rfl) rfl rfl rfl) ?_
 rintro _ ⟨b1, rfl⟩
 refine tr1 rfl (aJ (v := .d (.lit (.bool false))) (aA rfl) rfl rfl) ?_
 refine aF ?_
 refine aG ?_
 refine aE ?_
 refine tr1 rfl (aU (aA rfl) rfl lI) ?_
 refine tr1 rfl (aW (aA rfl) rfl (i := 0) rfl rfl bH) ?_
 refine tr1 rfl (bX (aA rfl) rfl bH) ?_
 refine tr1 rfl (bC (aA rfl) rfl rfl rfl) ?_
 refine tr1 rfl (aJ (v := .d (.lit (.bool ((decide (c_1 < r_0.Week)))))) (aA rfl) rfl rfl) ?_
 refine aF ?_
 have h := Option.some.inj h
 subst h
 refine cR (cE (cM (l := [3]) ⟨rfl, trivial⟩)) ?_
 exact bM ⟨rfl, _, .one _, rfl, rfl⟩

theorem aCk (l_0 : aL) (player_1 : Int) (week_2 : Int) {r : Int × Int} (h : uZ l_0 player_1 week_2 = some r) : Fn Try.prog 21 [.agg (aN l_0), .d (.lit (.int .i64 player_1)), .d (.lit (.int .i64 week_2))] (.tup [.d (.lit (.int .i64 r.1)), .d (.lit (.int .i64 r.2))]) := by
 unfold uZ at h
 refine Fn.of_tr Try.func21 rfl (rs := [.tmp 6, .tmp 7]) Try.results21 Try.ntmps21 (Nat.le_of_ble_eq_true rfl) ?_
 refine aG ?_
 refine aE ?_
 refine bW rfl (eN (v := .agg (aN l_0)) (aA rfl) rfl rfl rfl) ?_
 rintro _ ⟨b1, rfl⟩
 refine bW rfl (eN (v := .d (.lit (.int .i64 week_2))) (aA rfl) rfl rfl rfl) ?_
 rintro _ ⟨b2, rfl⟩
 refine tr1 rfl (aJ (v := .d (.lit (.int .i64 0))) (aA rfl) rfl rfl) ?_
 refine tr1 rfl (aJ (v := .d (.lit (.int .i64 0))) (aA rfl) rfl rfl) ?_
 refine aF ?_
 refine aG ?_
 refine aE ?_
 refine tr1 rfl (cH (aA rfl) rfl (i := 0) rfl dW (es := (aN l_0)) rfl rfl) ?_
 refine tr1 rfl (aC (v := .d (.lit (.int .i64 player_1))) (aA rfl) rfl rfl) ?_
 refine tr1 rfl (aW (aA rfl) rfl (i := 1) rfl rfl bH) ?_
 obtain ⟨r3, h4, h⟩ := bind_some h
 refine bW rfl (dX (passed := []) (aA rfl) rfl (.func _ _ Try.call44) rfl rfl (xE _ _ _ h4)) ?_
 rintro _ ⟨_, _, ⟨b6, w7, rfl, rfl⟩, rfl⟩
 obtain ⟨_ | y5, e8⟩ := r3
 ·have h := aBp h
  refine gN (aX [0, 1] rfl rfl (le_refl _)) ?_
  refine tr1 rfl (aC (v := .tup [.d (.lit (.pointer none)), .d (.lit (.int .i64 e8))]) (aA rfl) rfl rfl) ?_
  refine tr1 rfl (dA (aA rfl) rfl rfl) ?_
  refine tr1 rfl (dA (aA rfl) rfl rfl) ?_
  refine tr1 rfl (aJ (v := .d (.lit (.pointer none))) (aA rfl) rfl rfl) ?_
  refine tr1 rfl (aJ (v := .d (.lit (.int .i64 e8))) (aA rfl) rfl rfl) ?_
  refine aF ?_
  refine aG ?_
  refine aG ?_
  refine aE ?_
  refine tr1 rfl (aC (v := .d (.lit (.int .i64 e8))) (aA rfl) rfl rfl) ?_
  refine tr1 rfl (bC (aA rfl) rfl rfl rfl) ?_
  refine aF ?_
  refine bJ rfl (fun c9 => ?_) (fun c9 => ?_)
  ·have h := aT c9 h
   refine aG ?_
   refine aE ?_
   refine tr1 rfl (aC (v := .d (.lit (.int .i64 e8))) (aA rfl) rfl rfl) ?_
   refine tr1 rfl (aJ (v := .d (.lit (.int .i64 0))) (aA rfl) rfl rfl) ?_
   refine tr1 rfl (aJ (v := .d (.lit (.int .i64 e8))) (aA rfl) rfl rfl) ?_
   refine aF ?_
   have h := Option.some.inj h
   subst h
   refine cR (cE (cM (l := [6, 7]) ⟨rfl, rfl, trivial⟩)) ?_
   exact bM ⟨rfl, _, .two _ _, rfl, rfl⟩
  ·have h := aS c9 h
   refine bG ?_
   refine aG ?_
   refine aG ?_
   refine aE ?_
   refine tr1 rfl (aW (aA rfl) rfl (i := 1) rfl rfl bH) ?_
   refine tr1 rfl (bC (aA rfl) rfl rfl rfl) ?_
   refine aF ?_
   refine bJ rfl (fun c10 => ?_) (fun c10 => ?_)
   ·have h := aT c10 h
    refine aG ?_
    refine aE ?_
    refine tr1 rfl (aJ (v := .d (.lit (.int .i64 0))) (aA rfl) rfl rfl) ?_
    refine tr1 rfl (aJ (v := .d (.lit (.int .i64 1))) (aA rfl) rfl rfl) ?_
    refine aF ?_
    have h := Option.some.inj h
    subst h
    refine cR (cE (cM (l := [6, 7]) ⟨rfl, rfl, trivial⟩)) ?_
    exact bM ⟨rfl, _, .two _ _, rfl, rfl⟩
   ·have h := aS c10 h
    refine bG ?_
    refine aG ?_
    refine aE ?_
    refine tr1 rfl (aC (v := .d (.lit (.pointer none))) (aA rfl) rfl rfl) ?_
    refine tr1 rfl (aC (v := .d (.lit (.int .i64 player_1))) (aA rfl) rfl rfl) ?_
    refine tr1 rfl (aW (aA rfl) rfl (i := 1) rfl rfl bH) ?_
    cases h
 ·have h := aBq h
  refine gN (aX [0, 1, 2, 3] rfl rfl (le_refl _)) ?_
  refine tr1 rfl (aC (v := .tup [.bp b6 0 0, .d (.lit (.int .i64 e8))]) (aA rfl) rfl rfl) ?_
  refine tr1 rfl (dA (aA rfl) rfl rfl) ?_
  refine tr1 rfl (dA (aA rfl) rfl rfl) ?_
  refine tr1 rfl (aJ (v := .bp b6 0 0) (aA rfl) rfl rfl) ?_
  refine tr1 rfl (aJ (v := .d (.lit (.int .i64 e8))) (aA rfl) rfl rfl) ?_
  refine aF ?_
  refine aG ?_
  refine aG ?_
  refine aE ?_
  refine tr1 rfl (aC (v := .d (.lit (.int .i64 e8))) (aA rfl) rfl rfl) ?_
  refine tr1 rfl (bC (aA rfl) rfl rfl rfl) ?_
  refine aF ?_
  refine bJ rfl (fun c11 => ?_) (fun c11 => ?_)
  ·have h := aT c11 h
   refine aG ?_
   refine aE ?_
   refine tr1 rfl (aC (v := .d (.lit (.int .i64 e8))) (aA rfl) rfl rfl) ?_
   refine tr1 rfl (aJ (v := .d (.lit (.int .i64 0))) (aA rfl) rfl rfl) ?_
   refine tr1 rfl (aJ (v := .d (.lit (.int .i64 e8))) (aA rfl) rfl rfl) ?_
   refine aF ?_
   have h := Option.some.inj h
   subst h
   refine cR (cE (cM (l := [6, 7]) ⟨rfl, rfl, trivial⟩)) ?_
   exact bM ⟨rfl, _, .two _ _, rfl, rfl⟩
  ·have h := aS c11 h
   refine bG ?_
   refine aG ?_
   refine aG ?_
   refine aE ?_
   refine tr1 rfl (aW (aA rfl) rfl (i := 3) rfl rfl bH) ?_
   refine tr1 rfl (bC (aA rfl) rfl rfl rfl) ?_
   refine aF ?_
   refine bJ rfl (fun c12 => ?_) (fun c12 => ?_)
   ·have h := aT c12 h
    refine aG ?_
    refine aE ?_
    refine tr1 rfl (aJ (v := .d (.lit (.int .i64 0))) (aA rfl) rfl rfl) ?_
    refine tr1 rfl (aJ (v := .d (.lit (.int .i64 1))) (aA rfl) rfl rfl) ?_
    refine aF ?_
    have h := Option.some.inj h
    subst h
    refine cR (cE (cM (l := [6, 7]) ⟨rfl, rfl, trivial⟩)) ?_
    exact bM ⟨rfl, _, .two _ _, rfl, rfl⟩
   ·have h := aS c12 h
    refine bG ?_
    refine aG ?_
    refine aE ?_
    refine tr1 rfl (aC (v := .bp b6 0 0) (aA rfl) rfl rfl) ?_
    refine tr1 rfl (aC (v := .d (.lit (.int .i64 player_1))) (aA rfl) rfl rfl) ?_
    refine tr1 rfl (aW (aA rfl) rfl (i := 3) rfl rfl bH) ?_
    obtain ⟨r13, h14, h⟩ := bind_some h
    refine tr1 rfl (cC (aA rfl) (.func _ _ Try.call55) rfl rfl (.cons ((rM 0 rfl rfl (dvc (.same _) (dvc (.same _) (dvc (hO 1 rfl (cP (f := aB) fun _ => rfl)) (dvc (.same _) (dvc (.same _) dvn))))))) (.cons (.same _) (.cons (.same _) .nil))) (tR _ _ _ h14) rfl) ?_
    refine tr1 rfl (aJ (v := .d (.lit (.int .i64 r13))) (aA rfl) rfl rfl) ?_
    refine aF ?_
    refine aG ?_
    refine aE ?_
    refine tr1 rfl (aC (v := .bp b6 0 0) (aA rfl) rfl rfl) ?_
    refine tr1 rfl (aC (v := .bp b6 0 0) (aA rfl) rfl rfl) ?_
    refine tr1 rfl (lS (aA rfl) rfl) ?_
    refine tr1 rfl (aU (aA rfl) rfl jO) ?_
    refine tr1 rfl (aU (aA rfl) rfl eH) ?_
    refine tr1 rfl (aW (aA rfl) rfl (i := 0) rfl rfl iZ) ?_
    refine tr1 rfl (yZ (aA rfl) rfl rfl) ?_
    apply aGh [.box b6 0 [.lit (.int .i64 y5.Ledger.Players), .lit (.int .i64 y5.Ledger.Counts), .lit w7, .sl 3 (y5.Ledger.Bans.map aK), .sl 3 (y5.Ledger.Frozen.map aK)], .arr w7 42 5 (y5.Ledger.Reports.map aB), .box b1 0 (aN l_0)] [.box b2 0 [.lit (.int .i64 week_2)]] rfl
    exact gM (k := 33) (v := .fn 57 [.cp [.lit (.int .i64 week_2)]]) ((aDk (.cons ((rM 0 rfl rfl (dvc (.same _) dvn))) .nil))) (gM (k := 5) (v := .cp [.lit (.int .i64 week_2)]) ((rM 0 rfl rfl (dvc (.same _) dvn))) (oX _ _))
    obtain ⟨r16, h17, h⟩ := bind_some h
    refine gN (aX [1, 0, 2] rfl rfl (le_refl _)) ?_
    refine bW rfl (dX (passed := [.arr w7 42 5 (y5.Ledger.Reports.map aB)]) (aA rfl) rfl (.func _ _ Try.call56) rfl rfl (sP y5.Ledger.Reports (fun y15 => qV y15 week_2) 57 [.cp [.lit (.int .i64 week_2)]] Try.call57 (fun _ _ h => aAz _ _ h) h17)) ?_
    rintro _ ⟨_, _, ⟨v18, rfl, rfl⟩, rfl⟩
    refine tr1 rfl (lS (aA rfl) rfl) ?_
    refine tr1 rfl (aU (aA rfl) rfl jO) ?_
    refine tr1 rfl (aU (aA rfl) rfl eH) ?_
    refine tr1 rfl (cD (i := 1) rfl rfl rfl rfl rfl Try.sizeOf22 rfl (aA rfl) (Nat.le_of_ble_eq_true rfl) (ds' := [.lit (.int .i64 y5.Ledger.Players), .lit (.int .i64 y5.Ledger.Counts), .lit v18, .sl 3 (y5.Ledger.Bans.map aK), .sl 3 (y5.Ledger.Frozen.map aK)]) rfl) ?_
    refine aF ?_
    refine aG ?_
    refine aE ?_
    refine tr1 rfl (aC (v := .d (.lit (.int .i64 r13))) (aA rfl) rfl rfl) ?_
    refine tr1 rfl (aC (v := .bp b6 0 0) (aA rfl) rfl rfl) ?_
    refine tr1 rfl (aC (v := .d (.lit (.int .i64 player_1))) (aA rfl) rfl rfl) ?_
    refine tr1 rfl (bX (aA rfl) rfl bH) ?_
    refine tr1 rfl (aZ (aA rfl) rfl rfl rfl) ?_
    obtain ⟨r19, h20, h⟩ := bind_some h
    refine tr1 rfl (cC (aA rfl) (.func _ _ Try.call55) rfl rfl (.cons ((rM 1 rfl rfl (dvc (.same _) (dvc (.same _) (dvc (hO 0 rfl (cP (f := aB) fun _ => rfl)) (dvc (.same _) (dvc (.same _) dvn))))))) (.cons (.same _) (.cons (.same _) .nil))) (tR _ _ _ h20) rfl) ?_
    refine tr1 rfl (aZ (aA rfl) rfl rfl rfl) ?_
    refine tr1 rfl (aJ (v := .d (.lit (.int .i64 ((w64 (r13 - r19)))))) (aA rfl) rfl rfl) ?_
    refine tr1 rfl (aJ (v := .d (.lit (.int .i64 0))) (aA rfl) rfl rfl) ?_
    refine aF ?_
    have h := Option.some.inj h
    subst h
    refine cR (cE (cM (l := [6, 7]) ⟨rfl, rfl, trivial⟩)) ?_
    exact bM ⟨rfl, _, .two _ _, rfl, rfl⟩

theorem wG (a_0 : List Int) (b_1 : List Int) {r : Bool} (h : pP a_0 b_1 = some r) : Fn Try.prog 32 [.d (.sl 1 (a_0.map bY)), .d (.sl 1 (b_1.map bY))] (.d (.lit (.bool r))) := by
 unfold pP at h
 refine Fn.of_tr Try.func32 rfl (rs := [.tmp 4]) Try.results32 Try.ntmps32 (Nat.le_of_ble_eq_true rfl) ?_
 refine aG ?_
 refine aE ?_
 refine tr1 rfl (aJ (v := .d (.lit (.bool false))) (aA rfl) rfl rfl) ?_
 refine aF ?_
 refine aG ?_
 refine aG ?_
 refine aE ?_
 refine tr1 rfl (aC (v := .d (.sl 1 (a_0.map bY))) (aA rfl) rfl rfl) ?_
 refine tr1 rfl (cX (aA rfl) rfl dK.of) ?_
 refine tr1 rfl (aC (v := .d (.sl 1 (b_1.map bY))) (aA rfl) rfl rfl) ?_
 refine tr1 rfl (cX (aA rfl) rfl dK.of) ?_
 refine tr1 rfl (bC (aA rfl) rfl rfl rfl) ?_
 refine aF ?_
 refine bJ rfl (fun c1 => ?_) (fun c1 => ?_)
 ·have h := aT c1 h
  refine aG ?_
  refine aE ?_
  refine tr1 rfl (aJ (v := .d (.lit (.bool false))) (aA rfl) rfl rfl) ?_
  refine aF ?_
  have h := Option.some.inj h
  subst h
  exact bM ⟨rfl, _, .one _, rfl, rfl⟩
 ·have h := aS c1 h
  refine bG ?_
  refine aG ?_
  refine aG ?_
  refine aE ?_
  refine tr1 rfl (aJ (v := .d (.lit (.int .i64 0))) (aA rfl) rfl rfl) ?_
  refine aF ?_
  refine bQ ?_
  refine cG [0, 1] (fun (s2 : Int) => [(5, .d (.lit (.int .i64 s2)))]) (fun (s2 : Int) => []) (fun (k : Nat) (s2 : Int) => lQ a_0 b_1 k s2) (fun _ => rfl) (0) h (aX [] rfl rfl (aM rfl (aV ⟨rfl, rfl, trivial⟩))) ?_
  rintro k3 i_0_2 h
  simp only [lQ] at h
  refine aG ?_
  refine aG ?_
  refine aE ?_
  refine tr1 rfl (aC (v := .d (.lit (.int .i64 i_0_2))) (aA rfl) rfl rfl) ?_
  refine tr1 rfl (aC (v := .d (.sl 1 (a_0.map bY))) (aA rfl) rfl rfl) ?_
  refine tr1 rfl (cX (aA rfl) rfl dK.of) ?_
  refine tr1 rfl (bC (aA rfl) rfl rfl rfl) ?_
  refine aF ?_
  refine bJ rfl (fun c4 => ?_) (fun c4 => ?_)
  ·have h := aT c4 h
   refine bG ?_
   refine aG ?_
   refine bQ ?_
   refine aG ?_
   obtain ⟨x5, h6, h⟩ := bind_some h
   obtain ⟨x7, h8, h⟩ := bind_some h
   refine fN mix 8 [0, 1, 5] [(20, .d (.lit (.int .i64 x5))), (24, .d (.lit (.int .i64 x7)))] ?_ ?_
   ·refine ⟨[(17, 0, .d (.sl 1 (a_0.map bY))), (18, 1, .d (.lit (.int .i64 i_0_2))), (19, 2, .cp [.lit (.int .i64 x5)]), (20, 3, .d (.lit (.int .i64 x5))), (21, 4, .d (.sl 1 (b_1.map bY))), (22, 5, .d (.lit (.int .i64 i_0_2))), (23, 6, .cp [.lit (.int .i64 x7)]), (24, 7, .d (.lit (.int .i64 x7)))], ?_, ?_⟩
    · exact ⟨by kernel_rfl, by kernel_rfl, by kernel_rfl, by kernel_rfl, by kernel_rfl, [([], []), ([], []), ([0, 1], []), ([2], []), ([], []), ([], []), ([4, 5], []), ([6], [])], by kernel_rfl, ⟨fun S hS => aI rfl (aQ rfl (aC (v := .d (.sl 1 (a_0.map bY))) (aA rfl) (aH hS rfl) rfl)),
      fun S hS => aI rfl (aQ rfl (aC (v := .d (.lit (.int .i64 i_0_2))) (aA rfl) (aH hS rfl) rfl)),
      fun S hS => aI rfl (aQ rfl (bO (aA rfl) (aH hS rfl) (aH hS rfl) dK.of (bI bY h6))),
      fun S hS => aI rfl (aQ rfl (bX (aA rfl) (aH hS rfl) bH)),
      fun S hS => aI rfl (aQ rfl (aC (v := .d (.sl 1 (b_1.map bY))) (aA rfl) (aH hS rfl) rfl)),
      fun S hS => aI rfl (aQ rfl (aC (v := .d (.lit (.int .i64 i_0_2))) (aA rfl) (aH hS rfl) rfl)),
      fun S hS => aI rfl (aQ rfl (bO (aA rfl) (aH hS rfl) (aH hS rfl) dK.of (bI bY h8))),
      fun S hS => aI rfl (aQ rfl (bX (aA rfl) (aH hS rfl) bH)), trivial⟩⟩
    · exact dI (aM rfl (aM rfl (aV ⟨rfl, rfl, rfl, trivial⟩)))
   ·refine tr1 rfl (bC (aA rfl) rfl rfl rfl) ?_
    refine aF ?_
    refine bJ rfl (fun c9 => ?_) (fun c9 => ?_)
    ·have h := aT c9 h
     refine aG ?_
     refine aE ?_
     refine tr1 rfl (aJ (v := .d (.lit (.bool false))) (aA rfl) rfl rfl) ?_
     refine aF ?_
     have h := Option.some.inj h
     subst h
     exact bM ⟨rfl, _, .one _, rfl, rfl⟩
    ·have h := aS c9 h
     refine dS ?_
     refine aE ?_
     refine tr1 rfl (aC (v := .d (.lit (.int .i64 i_0_2))) (aA rfl) rfl rfl) ?_
     refine tr1 rfl (aZ (aA rfl) rfl rfl rfl) ?_
     refine tr1 rfl (aJ (v := .d (.lit (.int .i64 ((w64 (i_0_2 + 1)))))) (aA rfl) rfl rfl) ?_
     refine aF ?_
     exact ⟨(w64 (i_0_2 + 1)), h, aX [] rfl rfl (aM rfl (aV ⟨rfl, rfl, trivial⟩))⟩
  ·have h := aS c4 h
   refine cN ?_
   refine .inl ⟨rfl, ?_⟩
   simp only [rE] at h
   refine aG ?_
   refine aE ?_
   refine tr1 rfl (aJ (v := .d (.lit (.bool true))) (aA rfl) rfl rfl) ?_
   refine aF ?_
   have h := Option.some.inj h
   subst h
   exact bM ⟨rfl, _, .one _, rfl, rfl⟩

theorem tO {r : Bool} (h : lF = some r) : Fn Try.prog 16 [] (.d (.lit (.bool r))) := by
 unfold lF at h
 refine Fn.of_tr Try.func16 rfl (rs := [.tmp 0]) Try.results16 Try.ntmps16 (Nat.le_of_ble_eq_true rfl) ?_
 refine aG ?_
 refine aE ?_
 refine tr1 rfl (aJ (v := .d (.lit (.bool false))) (aA rfl) rfl rfl) ?_
 refine aF ?_
 refine aG ?_
 refine aE ?_
 obtain ⟨r1, h2, h⟩ := bind_some h
 refine tr1 rfl (iT (aA rfl) (.func _ _ Try.call43) rfl rfl (wW h2)) ?_
 refine bW rfl (fV (zs := [.lit (.int .i64 0), .lit (.int .i64 0), .sl 5 ((([] : List aD)).map aB), .sl 3 ((([] : List bA)).map aK), .sl 3 ((([] : List bA)).map aK)]) (aA rfl) Try.zeroValue25 rfl rfl) ?_
 rintro _ ⟨b3, rfl⟩
 refine tr1 rfl (cD (i := 0) rfl rfl rfl rfl rfl Try.sizeOf25 rfl (aA rfl) (Nat.le_of_ble_eq_true rfl) (ds' := (aN r1)) rfl) ?_
 refine aF ?_
 refine aG ?_
 refine aE ?_
 refine tr1 rfl (cH (aA rfl) rfl (i := 0) rfl dW (es := (aN r1)) rfl rfl) ?_
 obtain ⟨r4, h5, h⟩ := bind_some h
 refine tr1 rfl (iT (aA rfl) (.func _ _ Try.call27) rfl rfl (aFf _ _ h5)) ?_
 refine tr1 rfl (aC (v := .tup [.d (.sl 1 (r4.1.map bY)), .d (.lit (.int .i64 r4.2))]) (aA rfl) rfl rfl) ?_
 refine tr1 rfl (dA (aA rfl) rfl rfl) ?_
 refine tr1 rfl (dA (aA rfl) rfl rfl) ?_
 refine tr1 rfl (aJ (v := .d (.sl 1 (r4.1.map bY))) (aA rfl) rfl rfl) ?_
 refine tr1 rfl (aJ (v := .d (.lit (.int .i64 r4.2))) (aA rfl) rfl rfl) ?_
 refine aF ?_
 refine aG ?_
 refine aE ?_
 refine tr1 rfl (cH (aA rfl) rfl (i := 0) rfl dW (es := (aN r1)) rfl rfl) ?_
 refine tr1 rfl (iL (aA rfl) dK rfl rfl (rows := ([300]).map bY) rfl (cP (f := bY) fun _ => rfl) rfl (by decide)) ?_
 obtain ⟨r6, h7, h⟩ := bind_some h
 refine tr1 rfl (cC (aA rfl) (.func _ _ Try.call17) rfl rfl (BVs.refl _ _) (yX _ _ _ _ h7) rfl) ?_
 refine tr1 rfl (aC (v := .tup [.d (.lit (.int .i64 r6.1)), .d (.lit (.int .i64 r6.2.1)), .d (.lit (.int .i64 r6.2.2))]) (aA rfl) rfl rfl) ?_
 refine tr1 rfl (dA (aA rfl) rfl rfl) ?_
 refine tr1 rfl (dA (aA rfl) rfl rfl) ?_
 refine tr1 rfl (dA (aA rfl) rfl rfl) ?_
 refine tr1 rfl (aJ (v := .d (.lit (.int .i64 r6.1))) (aA rfl) rfl rfl) ?_
 refine tr1 rfl (aJ (v := .d (.lit (.int .i64 r6.2.1))) (aA rfl) rfl rfl) ?_
 refine tr1 rfl (aJ (v := .d (.lit (.int .i64 r6.2.2))) (aA rfl) rfl rfl) ?_
 refine aF ?_
 refine aG ?_
 refine aE ?_
 refine tr1 rfl (cH (aA rfl) rfl (i := 0) rfl dW (es := (aN r1)) rfl rfl) ?_
 obtain ⟨r8, h9, h⟩ := bind_some h
 refine tr1 rfl (cC (aA rfl) (.func _ _ Try.call21) rfl rfl (BVs.refl _ _) (aCk _ _ _ h9) rfl) ?_
 refine tr1 rfl (aC (v := .tup [.d (.lit (.int .i64 r8.1)), .d (.lit (.int .i64 r8.2))]) (aA rfl) rfl rfl) ?_
 refine tr1 rfl (dA (aA rfl) rfl rfl) ?_
 refine tr1 rfl (dA (aA rfl) rfl rfl) ?_
 refine tr1 rfl (aJ (v := .d (.lit (.int .i64 r8.1))) (aA rfl) rfl rfl) ?_
 refine tr1 rfl (aJ (v := .d (.lit (.int .i64 r8.2))) (aA rfl) rfl rfl) ?_
 refine aF ?_
 refine aG ?_
 refine aE ?_
 refine tr1 rfl (aC (v := .d (.lit (.int .i64 r4.2))) (aA rfl) rfl rfl) ?_
 refine tr1 rfl (bC (aA rfl) rfl rfl rfl) ?_
 refine tr1 rfl (aC (v := .d (.lit (.bool ((decide (r4.2 = 0)))))) (aA rfl) rfl rfl) ?_
 obtain ⟨b10, h11, h⟩ := bind_some h
 refine cA 3 [2, 4, 5, 7, 8] 32 b10 ?_ ?_
 ·refine bF (decide (r4.2 = 0)) (fun c29 => ?_) (fun c29 => ?_)
  ·have h11 := aT c29 h11
   refine aO rfl rfl (aA rfl) rfl c29 (aC (v := .d (.lit (.int .i64 r6.2.2))) (aA rfl) rfl rfl) ?_
   refine aO rfl rfl (aA rfl) rfl c29 (bC (aA rfl) rfl rfl rfl) ?_
   refine tr1 rfl (bN (v := .d (.lit (.bool ((decide (r6.2.2 = 0)))))) (aA rfl) rfl c29 rfl rfl) ?_
   have h11 := Option.some.inj h11
   subst h11
   refine aF (bB rfl ⟨rfl, rfl, rfl, rfl, rfl, trivial⟩ rfl)
  ·have h11 := aS c29 h11
   refine aR rfl rfl (aA rfl) rfl (aA rfl) rfl c29 ?_
   refine aR rfl rfl (aA rfl) rfl (aA rfl) rfl c29 ?_
   refine tr1 rfl (bP (v := .d (.lit (.bool false))) (aA rfl) rfl c29 rfl rfl) ?_
   have h11 := Option.some.inj h11
   subst h11
   refine aF (bB rfl ⟨rfl, rfl, rfl, rfl, rfl, trivial⟩ rfl)
 ·refine tr1 rfl (aC (v := .d (.lit (.bool b10))) (aA rfl) rfl rfl) ?_
  obtain ⟨b12, h13, h⟩ := bind_some h
  refine cA 3 [2, 4, 5, 7] 36 b12 ?_ ?_
  ·refine bF (b10) (fun c28 => ?_) (fun c28 => ?_)
   ·have h13 := aT c28 h13
    refine aO rfl rfl (aA rfl) rfl c28 (aC (v := .d (.lit (.int .i64 r8.2))) (aA rfl) rfl rfl) ?_
    refine aO rfl rfl (aA rfl) rfl c28 (bC (aA rfl) rfl rfl rfl) ?_
    refine tr1 rfl (bN (v := .d (.lit (.bool ((decide (r8.2 = 0)))))) (aA rfl) rfl c28 rfl rfl) ?_
    have h13 := Option.some.inj h13
    subst h13
    refine aF (bB rfl ⟨rfl, rfl, rfl, rfl, trivial⟩ rfl)
   ·have h13 := aS c28 h13
    refine aR rfl rfl (aA rfl) rfl (aA rfl) rfl c28 ?_
    refine aR rfl rfl (aA rfl) rfl (aA rfl) rfl c28 ?_
    refine tr1 rfl (bP (v := .d (.lit (.bool false))) (aA rfl) rfl c28 rfl rfl) ?_
    have h13 := Option.some.inj h13
    subst h13
    refine aF (bB rfl ⟨rfl, rfl, rfl, rfl, trivial⟩ rfl)
  ·refine tr1 rfl (aC (v := .d (.lit (.bool b12))) (aA rfl) rfl rfl) ?_
   obtain ⟨b14, h15, h⟩ := bind_some h
   refine cA 4 [4, 5, 7] 41 b14 ?_ ?_
   ·refine bF (b12) (fun c25 => ?_) (fun c25 => ?_)
    ·have h15 := aT c25 h15
     refine aO rfl rfl (aA rfl) rfl c25 (aC (v := .d (.sl 1 (r4.1.map bY))) (aA rfl) rfl rfl) ?_
     refine aO rfl rfl (aA rfl) rfl c25 (iL (aA rfl) dK rfl rfl (rows := ([0, 2, 1]).map bY) rfl (cP (f := bY) fun _ => rfl) rfl (by decide)) ?_
     obtain ⟨r26, h27, h15⟩ := bind_some h15
     refine aO rfl rfl (aA rfl) rfl c25 (cC (aA rfl) (.func _ _ Try.call32) rfl rfl (BVs.refl _ _) (wG _ _ h27) rfl) ?_
     refine tr1 rfl (bN (v := .d (.lit (.bool r26))) (aA rfl) rfl c25 rfl rfl) ?_
     have h15 := Option.some.inj h15
     subst h15
     refine aF (bB rfl ⟨rfl, rfl, rfl, trivial⟩ rfl)
    ·have h15 := aS c25 h15
     refine aR rfl rfl (aA rfl) rfl (aA rfl) rfl c25 ?_
     refine aR rfl rfl (aA rfl) rfl (aA rfl) rfl c25 ?_
     refine aR rfl rfl (aA rfl) rfl (aA rfl) rfl c25 ?_
     refine tr1 rfl (bP (v := .d (.lit (.bool false))) (aA rfl) rfl c25 rfl rfl) ?_
     have h15 := Option.some.inj h15
     subst h15
     refine aF (bB rfl ⟨rfl, rfl, rfl, trivial⟩ rfl)
   ·refine tr1 rfl (aC (v := .d (.lit (.bool b14))) (aA rfl) rfl rfl) ?_
    obtain ⟨b16, h17, h⟩ := bind_some h
    refine cA 3 [5, 7] 45 b16 ?_ ?_
    ·refine bF (b14) (fun c24 => ?_) (fun c24 => ?_)
     ·have h17 := aT c24 h17
      refine aO rfl rfl (aA rfl) rfl c24 (aC (v := .d (.lit (.int .i64 r6.1))) (aA rfl) rfl rfl) ?_
      refine aO rfl rfl (aA rfl) rfl c24 (bC (aA rfl) rfl rfl rfl) ?_
      refine tr1 rfl (bN (v := .d (.lit (.bool ((decide (r6.1 = 1)))))) (aA rfl) rfl c24 rfl rfl) ?_
      have h17 := Option.some.inj h17
      subst h17
      refine aF (bB rfl ⟨rfl, rfl, trivial⟩ rfl)
     ·have h17 := aS c24 h17
      refine aR rfl rfl (aA rfl) rfl (aA rfl) rfl c24 ?_
      refine aR rfl rfl (aA rfl) rfl (aA rfl) rfl c24 ?_
      refine tr1 rfl (bP (v := .d (.lit (.bool false))) (aA rfl) rfl c24 rfl rfl) ?_
      have h17 := Option.some.inj h17
      subst h17
      refine aF (bB rfl ⟨rfl, rfl, trivial⟩ rfl)
    ·refine tr1 rfl (aC (v := .d (.lit (.bool b16))) (aA rfl) rfl rfl) ?_
     obtain ⟨b18, h19, h⟩ := bind_some h
     refine cA 3 [7] 49 b18 ?_ ?_
     ·refine bF (b16) (fun c23 => ?_) (fun c23 => ?_)
      ·have h19 := aT c23 h19
       refine aO rfl rfl (aA rfl) rfl c23 (aC (v := .d (.lit (.int .i64 r6.2.1))) (aA rfl) rfl rfl) ?_
       refine aO rfl rfl (aA rfl) rfl c23 (bC (aA rfl) rfl rfl rfl) ?_
       refine tr1 rfl (bN (v := .d (.lit (.bool ((decide (r6.2.1 = 3)))))) (aA rfl) rfl c23 rfl rfl) ?_
       have h19 := Option.some.inj h19
       subst h19
       refine aF (bB rfl ⟨rfl, trivial⟩ rfl)
      ·have h19 := aS c23 h19
       refine aR rfl rfl (aA rfl) rfl (aA rfl) rfl c23 ?_
       refine aR rfl rfl (aA rfl) rfl (aA rfl) rfl c23 ?_
       refine tr1 rfl (bP (v := .d (.lit (.bool false))) (aA rfl) rfl c23 rfl rfl) ?_
       have h19 := Option.some.inj h19
       subst h19
       refine aF (bB rfl ⟨rfl, trivial⟩ rfl)
     ·refine tr1 rfl (aC (v := .d (.lit (.bool b18))) (aA rfl) rfl rfl) ?_
      obtain ⟨b20, h21, h⟩ := bind_some h
      refine cA 3 [] 53 b20 ?_ ?_
      ·refine bF (b18) (fun c22 => ?_) (fun c22 => ?_)
       ·have h21 := aT c22 h21
        refine aO rfl rfl (aA rfl) rfl c22 (aC (v := .d (.lit (.int .i64 r8.1))) (aA rfl) rfl rfl) ?_
        refine aO rfl rfl (aA rfl) rfl c22 (bC (aA rfl) rfl rfl rfl) ?_
        refine tr1 rfl (bN (v := .d (.lit (.bool ((decide (r8.1 = 200)))))) (aA rfl) rfl c22 rfl rfl) ?_
        have h21 := Option.some.inj h21
        subst h21
        refine aF (bB rfl trivial rfl)
       ·have h21 := aS c22 h21
        refine aR rfl rfl (aA rfl) rfl (aA rfl) rfl c22 ?_
        refine aR rfl rfl (aA rfl) rfl (aA rfl) rfl c22 ?_
        refine tr1 rfl (bP (v := .d (.lit (.bool false))) (aA rfl) rfl c22 rfl rfl) ?_
        have h21 := Option.some.inj h21
        subst h21
        refine aF (bB rfl trivial rfl)
      ·refine tr1 rfl (aJ (v := .d (.lit (.bool b20))) (aA rfl) rfl rfl) ?_
       refine aF ?_
       have h := Option.some.inj h
       subst h
       refine cR (cE (cM (l := [0]) ⟨rfl, trivial⟩)) ?_
       exact bM ⟨rfl, _, .one _, rfl, rfl⟩

theorem zS (l_0 : aL) {r : aL} (h : jU l_0 = some r) : Fn Try.prog 18 [.agg (aN l_0)] (.agg (aN r)) := by
 unfold jU at h
 refine rL Try.func18 rfl (rs := [.cell 2 25]) Try.results18 Try.ntmps18 (Nat.le_of_ble_eq_true rfl) ?_
 refine aG ?_
 refine aE ?_
 refine bW rfl (eN (v := .agg (aN l_0)) (aA rfl) rfl rfl rfl) ?_
 rintro _ ⟨b1, rfl⟩
 refine bW rfl (fV (zs := [.lit (.int .i64 0), .lit (.int .i64 0), .sl 5 ((([] : List aD)).map aB), .sl 3 ((([] : List bA)).map aK), .sl 3 ((([] : List bA)).map aK)]) (aA rfl) Try.zeroValue25 rfl rfl) ?_
 rintro _ ⟨b2, rfl⟩
 refine aF ?_
 refine aG ?_
 refine aE ?_
 refine tr1 rfl (cH (aA rfl) rfl (i := 0) rfl dW (es := (aN l_0)) rfl rfl) ?_
 refine bW rfl (fV (zs := [.lit (.int .i64 0), .lit (.int .i64 0), .sl 5 ((([] : List aD)).map aB), .sl 3 ((([] : List bA)).map aK), .sl 3 ((([] : List bA)).map aK)]) (aA rfl) Try.zeroValue25 rfl rfl) ?_
 rintro _ ⟨b3, rfl⟩
 refine tr1 rfl (cD (i := 2) rfl rfl rfl rfl rfl Try.sizeOf25 rfl (aA rfl) (Nat.le_of_ble_eq_true rfl) (ds' := (aN l_0)) rfl) ?_
 refine aF ?_
 refine aG ?_
 refine aE ?_
 refine tr1 rfl (tF (aA rfl) bR rfl rfl (rows := (([] : List aD)).map aB) rfl (cP (f := aB) fun _ => rfl) rfl (by decide)) ?_
 refine tr1 rfl (aU (aA rfl) rfl eH) ?_
 refine tr1 rfl (aW (aA rfl) rfl (i := 0) rfl rfl iZ) ?_
 obtain ⟨x4, h5, h⟩ := bind_some h
 refine tr1 rfl (wR (.d (.weak _ _)) (qM (nn := true) (f := aB) (xs := ([] : List aD)) (ys := l_0.Reports) (aA rfl) bR rfl rfl (fun _ => rfl) h5 rfl)) ?_
 refine tr1 rfl (aU (aA rfl) rfl eH) ?_
 refine tr1 rfl (cD (i := 2) rfl rfl rfl rfl rfl Try.sizeOf22 rfl (aA rfl) (Nat.le_of_ble_eq_true rfl) (ds' := (aN (aL.mk l_0.Players l_0.Counts x4 l_0.Bans l_0.Frozen))) rfl) ?_
 refine aF ?_
 refine aG ?_
 refine aE ?_
 refine tr1 rfl (tF (aA rfl) eY rfl rfl (rows := (([] : List bA)).map aK) rfl (cP (f := aK) fun _ => rfl) rfl (by decide)) ?_
 refine tr1 rfl (aU (aA rfl) rfl lH) ?_
 refine tr1 rfl (aW (aA rfl) rfl (i := 0) rfl rfl jA) ?_
 obtain ⟨x6, h7, h⟩ := bind_some h
 refine tr1 rfl (wR (.d (.weak _ _)) (qM (nn := true) (f := aK) (xs := ([] : List bA)) (ys := l_0.Bans) (aA rfl) eY rfl rfl (fun _ => rfl) h7 rfl)) ?_
 refine tr1 rfl (aU (aA rfl) rfl lH) ?_
 refine tr1 rfl (cD (i := 2) rfl rfl rfl rfl rfl Try.sizeOf23 rfl (aA rfl) (Nat.le_of_ble_eq_true rfl) (ds' := (aN (aL.mk l_0.Players l_0.Counts x4 x6 l_0.Frozen))) rfl) ?_
 refine aF ?_
 refine aG ?_
 refine aE ?_
 refine tr1 rfl (tF (aA rfl) eY rfl rfl (rows := (([] : List bA)).map aK) rfl (cP (f := aK) fun _ => rfl) rfl (by decide)) ?_
 refine tr1 rfl (aU (aA rfl) rfl kG) ?_
 refine tr1 rfl (aW (aA rfl) rfl (i := 0) rfl rfl jA) ?_
 obtain ⟨x8, h9, h⟩ := bind_some h
 refine tr1 rfl (wR (.d (.weak _ _)) (qM (nn := true) (f := aK) (xs := ([] : List bA)) (ys := l_0.Frozen) (aA rfl) eY rfl rfl (fun _ => rfl) h9 rfl)) ?_
 refine tr1 rfl (aU (aA rfl) rfl kG) ?_
 refine tr1 rfl (cD (i := 2) rfl rfl rfl rfl rfl Try.sizeOf23 rfl (aA rfl) (Nat.le_of_ble_eq_true rfl) (ds' := (aN (aL.mk l_0.Players l_0.Counts x4 x6 x8))) rfl) ?_
 refine aF ?_
 refine aG ?_
 refine aE ?_
 refine tr1 rfl (cH (aA rfl) rfl (i := 2) rfl dW (es := (aN (aL.mk l_0.Players l_0.Counts x4 x6 x8))) rfl rfl) ?_
 refine tr1 rfl (cD (i := 1) rfl rfl rfl rfl rfl Try.sizeOf25 rfl (aA rfl) (Nat.le_of_ble_eq_true rfl) (ds' := (aN (aL.mk l_0.Players l_0.Counts x4 x6 x8))) rfl) ?_
 refine aF ?_
 have h := Option.some.inj h
 subst h
 exact bM ⟨rfl, _, [.box b1 0 (aN l_0), .box b2 0 (aN (aL.mk l_0.Players l_0.Counts x4 x6 x8)), .box b3 0 (aN (aL.mk l_0.Players l_0.Counts x4 x6 x8))], .one (.cell 2 25 rfl (i := 1) rfl dW (es := (aN (aL.mk l_0.Players l_0.Counts x4 x6 x8))) rfl rfl), .refl _, .same _⟩

theorem wI (l_0 : aL) (player_1 : Int) (week_2 : Int) {r : Int} (h : lA l_0 player_1 week_2 = some r) : Fn Try.prog 52 [.agg (aN l_0), .d (.lit (.int .i64 player_1)), .d (.lit (.int .i64 week_2))] (.d (.lit (.int .i64 r))) := by
 unfold lA at h
 refine Fn.of_tr Try.func52 rfl (rs := [.tmp 6]) Try.results52 Try.ntmps52 (Nat.le_of_ble_eq_true rfl) ?_
 refine aG ?_
 refine aE ?_
 refine bW rfl (eN (v := .agg (aN l_0)) (aA rfl) rfl rfl rfl) ?_
 rintro _ ⟨b1, rfl⟩
 refine tr1 rfl (aJ (v := .d (.lit (.int .i64 0))) (aA rfl) rfl rfl) ?_
 refine aF ?_
 refine aG ?_
 refine aG ?_
 refine aE ?_
 refine tr1 rfl (cH (aA rfl) rfl (i := 0) rfl dW (es := (aN l_0)) rfl rfl) ?_
 obtain ⟨r2, h3, h⟩ := bind_some h
 refine tr1 rfl (cC (aA rfl) (.func _ _ Try.call15) rfl rfl (BVs.refl _ _) (qF _ h3) rfl) ?_
 refine tr1 rfl (aJ (v := .d (.lit (.int .i64 r2))) (aA rfl) rfl rfl) ?_
 refine aF ?_
 refine aG ?_
 refine aE ?_
 refine tr1 rfl (aC (v := .d (.lit (.int .i64 r2))) (aA rfl) rfl rfl) ?_
 refine tr1 rfl (bC (aA rfl) rfl rfl rfl) ?_
 refine aF ?_
 refine bJ rfl (fun c4 => ?_) (fun c4 => ?_)
 ·have h := aT c4 h
  refine aG ?_
  refine aE ?_
  refine tr1 rfl (aC (v := .d (.lit (.int .i64 r2))) (aA rfl) rfl rfl) ?_
  refine tr1 rfl (aJ (v := .d (.lit (.int .i64 r2))) (aA rfl) rfl rfl) ?_
  refine aF ?_
  have h := Option.some.inj h
  subst h
  refine cR (cE (cM (l := [6]) ⟨rfl, trivial⟩)) ?_
  exact bM ⟨rfl, _, .one _, rfl, rfl⟩
 ·have h := aS c4 h
  refine bG ?_
  refine aG ?_
  refine aG ?_
  refine aE ?_
  refine tr1 rfl (aC (v := .d (.lit (.int .i64 player_1))) (aA rfl) rfl rfl) ?_
  refine tr1 rfl (aU (aA rfl) rfl iJ) ?_
  refine tr1 rfl (aW (aA rfl) rfl (i := 0) rfl rfl bH) ?_
  refine tr1 rfl (aZ (aA rfl) rfl rfl rfl) ?_
  obtain ⟨r5, h6, h⟩ := bind_some h
  refine tr1 rfl (cC (aA rfl) (.func _ _ Try.call58) rfl rfl (BVs.refl _ _) (dT _ _ _ h6) rfl) ?_
  refine tr1 rfl (eM (aA rfl) rfl) ?_
  refine tr1 rfl (aC (v := .d (.lit (.bool (!r5)))) (aA rfl) rfl rfl) ?_
  obtain ⟨b7, h8, h⟩ := bind_some h
  refine cA 4 [] 23 b7 ?_ ?_
  ·refine bF (!r5) (fun c10 => ?_) (fun c10 => ?_)
   ·have h8 := aT c10 h8
    refine aR rfl rfl (aA rfl) rfl (aA rfl) rfl c10 ?_
    refine aR rfl rfl (aA rfl) rfl (aA rfl) rfl c10 ?_
    refine aR rfl rfl (aA rfl) rfl (aA rfl) rfl c10 ?_
    refine tr1 rfl (bN (v := .d (.lit (.bool true))) (aA rfl) rfl c10 rfl rfl) ?_
    have h8 := Option.some.inj h8
    subst h8
    refine aF (bB rfl trivial rfl)
   ·have h8 := aS c10 h8
    refine aO rfl rfl (aA rfl) rfl c10 (aC (v := .d (.lit (.int .i64 week_2))) (aA rfl) rfl rfl) ?_
    obtain ⟨r11, h12, h8⟩ := bind_some h8
    refine aO rfl rfl (aA rfl) rfl c10 (cC (aA rfl) (.func _ _ Try.call58) rfl rfl (BVs.refl _ _) (dT _ _ _ h12) rfl) ?_
    refine aO rfl rfl (aA rfl) rfl c10 (eM (aA rfl) rfl) ?_
    refine tr1 rfl (bP (v := .d (.lit (.bool (!r11)))) (aA rfl) rfl c10 rfl rfl) ?_
    have h8 := Option.some.inj h8
    subst h8
    refine aF (bB rfl trivial rfl)
  ·refine aF ?_
   refine bJ rfl (fun c9 => ?_) (fun c9 => ?_)
   ·have h := aT c9 h
    refine aG ?_
    refine aE ?_
    refine tr1 rfl (aJ (v := .d (.lit (.int .i64 1))) (aA rfl) rfl rfl) ?_
    refine aF ?_
    have h := Option.some.inj h
    subst h
    refine cR (cE (cM (l := [6]) ⟨rfl, trivial⟩)) ?_
    exact bM ⟨rfl, _, .one _, rfl, rfl⟩
   ·have h := aS c9 h
    refine bG ?_
    refine aG ?_
    refine aE ?_
    refine tr1 rfl (aJ (v := .d (.lit (.int .i64 0))) (aA rfl) rfl rfl) ?_
    refine aF ?_
    have h := Option.some.inj h
    subst h
    refine cR (cE (cM (l := [6]) ⟨rfl, trivial⟩)) ?_
    exact bM ⟨rfl, _, .one _, rfl, rfl⟩

theorem vY (prizes_0 : List Int) {r : Bool} (h : kF prizes_0 = some r) : Fn Try.prog 23 [.d (.sl 1 (prizes_0.map bY))] (.d (.lit (.bool r))) := by
 unfold kF at h
 refine Fn.of_tr Try.func23 rfl (rs := [.tmp 2]) Try.results23 Try.ntmps23 (Nat.le_of_ble_eq_true rfl) ?_
 refine aG ?_
 refine aE ?_
 refine tr1 rfl (aJ (v := .d (.lit (.bool false))) (aA rfl) rfl rfl) ?_
 refine aF ?_
 refine aG ?_
 refine aG ?_
 refine aE ?_
 refine tr1 rfl (aJ (v := .d (.lit (.int .i64 0))) (aA rfl) rfl rfl) ?_
 refine aF ?_
 refine bQ ?_
 refine cG [0] (fun (s1 : Int) => [(3, .d (.lit (.int .i64 s1)))]) (fun (s1 : Int) => []) (fun (k : Nat) (s1 : Int) => fY prizes_0 k s1) (fun _ => rfl) (0) h (aX [] rfl rfl (aM rfl (aV ⟨rfl, trivial⟩))) ?_
 rintro k2 i_0_1 h
 simp only [fY] at h
 refine aG ?_
 refine aG ?_
 refine aE ?_
 refine tr1 rfl (aC (v := .d (.lit (.int .i64 i_0_1))) (aA rfl) rfl rfl) ?_
 refine tr1 rfl (aC (v := .d (.sl 1 (prizes_0.map bY))) (aA rfl) rfl rfl) ?_
 refine tr1 rfl (cX (aA rfl) rfl dK.of) ?_
 refine tr1 rfl (bC (aA rfl) rfl rfl rfl) ?_
 refine aF ?_
 refine bJ rfl (fun c3 => ?_) (fun c3 => ?_)
 ·have h := aT c3 h
  refine bG ?_
  refine aG ?_
  refine bQ ?_
  refine aG ?_
  refine aE ?_
  refine tr1 rfl (aC (v := .d (.sl 1 (prizes_0.map bY))) (aA rfl) rfl rfl) ?_
  refine tr1 rfl (aC (v := .d (.lit (.int .i64 i_0_1))) (aA rfl) rfl rfl) ?_
  obtain ⟨x4, h5, h⟩ := bind_some h
  refine tr1 rfl (bO (aA rfl) rfl rfl dK.of (bI bY h5)) ?_
  refine tr1 rfl (bX (aA rfl) rfl bH) ?_
  obtain ⟨r6, h7, h⟩ := bind_some h
  refine tr1 rfl (cC (aA rfl) (.func _ _ Try.call58) rfl rfl (BVs.refl _ _) (dT _ _ _ h7) rfl) ?_
  refine tr1 rfl (eM (aA rfl) rfl) ?_
  refine aF ?_
  refine bJ rfl (fun c8 => ?_) (fun c8 => ?_)
  ·have h := aT c8 h
   refine aG ?_
   refine aE ?_
   refine tr1 rfl (aJ (v := .d (.lit (.bool false))) (aA rfl) rfl rfl) ?_
   refine aF ?_
   have h := Option.some.inj h
   subst h
   exact bM ⟨rfl, _, .one _, rfl, rfl⟩
  ·have h := aS c8 h
   refine dS ?_
   refine aE ?_
   refine tr1 rfl (aC (v := .d (.lit (.int .i64 i_0_1))) (aA rfl) rfl rfl) ?_
   refine tr1 rfl (aZ (aA rfl) rfl rfl rfl) ?_
   refine tr1 rfl (aJ (v := .d (.lit (.int .i64 ((w64 (i_0_1 + 1)))))) (aA rfl) rfl rfl) ?_
   refine aF ?_
   exact ⟨(w64 (i_0_1 + 1)), h, aX [] rfl rfl (aM rfl (aV ⟨rfl, trivial⟩))⟩
 ·have h := aS c3 h
  refine cN ?_
  refine .inl ⟨rfl, ?_⟩
  simp only [kZ] at h
  refine aG ?_
  refine aE ?_
  refine tr1 rfl (aC (v := .d (.sl 1 (prizes_0.map bY))) (aA rfl) rfl rfl) ?_
  refine tr1 rfl (cX (aA rfl) rfl dK.of) ?_
  refine tr1 rfl (bC (aA rfl) rfl rfl rfl) ?_
  refine tr1 rfl (aJ (v := .d (.lit (.bool ((decide ((prizes_0.length : Int) ≤ 4)))))) (aA rfl) rfl rfl) ?_
  refine aF ?_
  have h := Option.some.inj h
  subst h
  exact bM ⟨rfl, _, .one _, rfl, rfl⟩

theorem oR (l_0 : List bA) (player_1 : Int) (week_2 : Int) {r : Bool} (h : gZ l_0 player_1 week_2 = some r) : Fn Try.prog 25 [.d (.sl 3 (l_0.map aK)), .d (.lit (.int .i64 player_1)), .d (.lit (.int .i64 week_2))] (.d (.lit (.bool r))) := by
 unfold gZ at h
 refine Fn.of_tr Try.func25 rfl (rs := [.tmp 6]) Try.results25 Try.ntmps25 (Nat.le_of_ble_eq_true rfl) ?_
 refine aG ?_
 refine aE ?_
 refine tr1 rfl (aJ (v := .d (.lit (.bool false))) (aA rfl) rfl rfl) ?_
 refine aF ?_
 refine aG ?_
 refine aG ?_
 refine aE ?_
 refine tr1 rfl (aJ (v := .d (.lit (.int .i64 0))) (aA rfl) rfl rfl) ?_
 refine aF ?_
 refine bQ ?_
 refine cG [0, 1, 2] (fun (s1 : Int) => [(7, .d (.lit (.int .i64 s1)))]) (fun (s1 : Int) => []) (fun (k : Nat) (s1 : Int) => iV l_0 player_1 week_2 k s1) (fun _ => rfl) (0) h (aX [] rfl rfl (aM rfl (aV ⟨rfl, rfl, rfl, trivial⟩))) ?_
 rintro k2 i_0_1 h
 simp only [iV] at h
 refine aG ?_
 refine aG ?_
 refine aE ?_
 refine tr1 rfl (aC (v := .d (.lit (.int .i64 i_0_1))) (aA rfl) rfl rfl) ?_
 refine tr1 rfl (aC (v := .d (.sl 3 (l_0.map aK))) (aA rfl) rfl rfl) ?_
 refine tr1 rfl (cX (aA rfl) rfl eY.of) ?_
 refine tr1 rfl (bC (aA rfl) rfl rfl rfl) ?_
 refine aF ?_
 refine bJ rfl (fun c3 => ?_) (fun c3 => ?_)
 ·have h := aT c3 h
  refine bG ?_
  refine aG ?_
  refine bQ ?_
  refine aG ?_
  obtain ⟨x4, h5, h⟩ := bind_some h
  obtain ⟨b6, h7, h⟩ := bind_some h
  refine fN mix 21 [0, 1, 2, 7] [(34, .d (.lit (.bool b6)))] ?_ ?_
  ·refine bF (decide (x4.Player = player_1)) (fun c8 => ?_) (fun c8 => ?_)
   ·have h7 := aT c8 h7
    obtain ⟨x9, h10, h7⟩ := bind_some h7
    obtain ⟨x11, h12, h7⟩ := bind_some h7
    obtain ⟨r13, h14, h7⟩ := bind_some h7
    have h7 := Option.some.inj h7
    subst h7
    refine ⟨[(14, 0, .d (.sl 3 (l_0.map aK))), (15, 1, .d (.lit (.int .i64 i_0_1))), (16, 2, .cp [.lit (.int .i64 x4.Player), .lit (.int .i64 x4.From), .lit (.int .i64 x4.To)]), (17, 3, .cp [.lit (.int .i64 x4.Player)]), (18, 4, .d (.lit (.int .i64 x4.Player))), (19, 5, .d (.lit (.int .i64 player_1))), (20, 6, .d (.lit (.bool ((decide (x4.Player = player_1)))))), (21, 7, .d (.lit (.bool ((decide (x4.Player = player_1)))))), (22, 8, .d (.lit (.int .i64 week_2))), (23, 9, .d (.sl 3 (l_0.map aK))), (24, 10, .d (.lit (.int .i64 i_0_1))), (25, 11, .cp [.lit (.int .i64 x9.Player), .lit (.int .i64 x9.From), .lit (.int .i64 x9.To)]), (26, 12, .cp [.lit (.int .i64 x9.From)]), (27, 13, .d (.lit (.int .i64 x9.From))), (28, 14, .d (.sl 3 (l_0.map aK))), (29, 15, .d (.lit (.int .i64 i_0_1))), (30, 16, .cp [.lit (.int .i64 x11.Player), .lit (.int .i64 x11.From), .lit (.int .i64 x11.To)]), (31, 17, .cp [.lit (.int .i64 x11.To)]), (32, 18, .d (.lit (.int .i64 x11.To))), (33, 19, .d (.lit (.bool r13))), (34, 20, .d (.lit (.bool r13)))], ?_, ?_⟩
    · exact ⟨by kernel_rfl, by kernel_rfl, by kernel_rfl, by kernel_rfl, by kernel_rfl, [([], []), ([], []), ([0, 1], []), ([2], []), ([3], []), ([], []), ([4, 5], []), ([6], []), ([7], []), ([7], []), ([7], []), ([7, 9, 10], []), ([7, 11], []), ([7, 12], []), ([7], []), ([7], []), ([7, 14, 15], []), ([7, 16], []), ([7, 17], []), ([7, 8, 13, 18], []), ([7, 19], [])], by kernel_rfl, ⟨fun S hS => aI rfl (aQ rfl (aC (v := .d (.sl 3 (l_0.map aK))) (aA rfl) (aH hS rfl) rfl)),
      fun S hS => aI rfl (aQ rfl (aC (v := .d (.lit (.int .i64 i_0_1))) (aA rfl) (aH hS rfl) rfl)),
      fun S hS => aI rfl (aQ rfl (bO (aA rfl) (aH hS rfl) (aH hS rfl) eY.of (bI aK h5))),
      fun S hS => aI rfl (aQ rfl (bZ (aA rfl) (aH hS rfl) lJ (es := [.lit (.int .i64 x4.Player)]) rfl)),
      fun S hS => aI rfl (aQ rfl (bX (aA rfl) (aH hS rfl) bH)),
      fun S hS => aI rfl (aQ rfl (aC (v := .d (.lit (.int .i64 player_1))) (aA rfl) (aH hS rfl) rfl)),
      fun S hS => aI rfl (aQ rfl (bC (aA rfl) (aH hS rfl) (aH hS rfl) rfl)),
      fun S hS => aI rfl (aQ rfl (aC (v := .d (.lit (.bool ((decide (x4.Player = player_1)))))) (aA rfl) (aH hS rfl) rfl)),
      fun S hS => aI rfl (aY rfl rfl (aA rfl) (aP hS rfl) c8 (aC (v := .d (.lit (.int .i64 week_2))) (aA rfl) (aH hS rfl) rfl)),
      fun S hS => aI rfl (aY rfl rfl (aA rfl) (aP hS rfl) c8 (aC (v := .d (.sl 3 (l_0.map aK))) (aA rfl) (aH hS rfl) rfl)),
      fun S hS => aI rfl (aY rfl rfl (aA rfl) (aP hS rfl) c8 (aC (v := .d (.lit (.int .i64 i_0_1))) (aA rfl) (aH hS rfl) rfl)),
      fun S hS => aI rfl (aY rfl rfl (aA rfl) (aP hS rfl) c8 (bO (aA rfl) (aH hS rfl) (aH hS rfl) eY.of (bI aK h10))),
      fun S hS => aI rfl (aY rfl rfl (aA rfl) (aP hS rfl) c8 (bZ (aA rfl) (aH hS rfl) kI (es := [.lit (.int .i64 x9.From)]) rfl)),
      fun S hS => aI rfl (aY rfl rfl (aA rfl) (aP hS rfl) c8 (bX (aA rfl) (aH hS rfl) bH)),
      fun S hS => aI rfl (aY rfl rfl (aA rfl) (aP hS rfl) c8 (aC (v := .d (.sl 3 (l_0.map aK))) (aA rfl) (aH hS rfl) rfl)),
      fun S hS => aI rfl (aY rfl rfl (aA rfl) (aP hS rfl) c8 (aC (v := .d (.lit (.int .i64 i_0_1))) (aA rfl) (aH hS rfl) rfl)),
      fun S hS => aI rfl (aY rfl rfl (aA rfl) (aP hS rfl) c8 (bO (aA rfl) (aH hS rfl) (aH hS rfl) eY.of (bI aK h12))),
      fun S hS => aI rfl (aY rfl rfl (aA rfl) (aP hS rfl) c8 (bZ (aA rfl) (aH hS rfl) mI (es := [.lit (.int .i64 x11.To)]) rfl)),
      fun S hS => aI rfl (aY rfl rfl (aA rfl) (aP hS rfl) c8 (bX (aA rfl) (aH hS rfl) bH)),
      fun S hS => aI rfl (aY rfl rfl (aA rfl) (aP hS rfl) c8 (cC (aA rfl) (.func _ _ Try.call58) (ev2 (aH hS rfl) (ev2 (aH hS rfl) (ev2 (aH hS rfl) evn))) rfl (BVs.refl _ _) (dT _ _ _ h14) rfl)),
      fun S hS => aI rfl (aQ rfl (bN (v := .d (.lit (.bool r13))) (aA rfl) (aH hS rfl) c8 (aH hS rfl) rfl)), trivial⟩⟩
    · exact dI (aM rfl (aV ⟨rfl, rfl, rfl, rfl, trivial⟩))
   ·have h7 := aS c8 h7
    have h7 := Option.some.inj h7
    subst h7
    refine ⟨[(14, 0, .d (.sl 3 (l_0.map aK))), (15, 1, .d (.lit (.int .i64 i_0_1))), (16, 2, .cp [.lit (.int .i64 x4.Player), .lit (.int .i64 x4.From), .lit (.int .i64 x4.To)]), (17, 3, .cp [.lit (.int .i64 x4.Player)]), (18, 4, .d (.lit (.int .i64 x4.Player))), (19, 5, .d (.lit (.int .i64 player_1))), (20, 6, .d (.lit (.bool ((decide (x4.Player = player_1)))))), (21, 7, .d (.lit (.bool ((decide (x4.Player = player_1)))))), (22, 8, .tup []), (23, 9, .tup []), (24, 10, .tup []), (25, 11, .tup []), (26, 12, .tup []), (27, 13, .tup []), (28, 14, .tup []), (29, 15, .tup []), (30, 16, .tup []), (31, 17, .tup []), (32, 18, .tup []), (33, 19, .tup []), (34, 20, .d (.lit (.bool false)))], ?_, ?_⟩
    · exact ⟨by kernel_rfl, by kernel_rfl, by kernel_rfl, by kernel_rfl, by kernel_rfl, [([], []), ([], []), ([0, 1], []), ([2], []), ([3], []), ([], []), ([4, 5], []), ([6], []), ([7], []), ([7], []), ([7], []), ([7, 9, 10], []), ([7, 11], []), ([7, 12], []), ([7], []), ([7], []), ([7, 14, 15], []), ([7, 16], []), ([7, 17], []), ([7, 8, 13, 18], []), ([7, 19], [])], by kernel_rfl, ⟨fun S hS => aI rfl (aQ rfl (aC (v := .d (.sl 3 (l_0.map aK))) (aA rfl) (aH hS rfl) rfl)),
      fun S hS => aI rfl (aQ rfl (aC (v := .d (.lit (.int .i64 i_0_1))) (aA rfl) (aH hS rfl) rfl)),
      fun S hS => aI rfl (aQ rfl (bO (aA rfl) (aH hS rfl) (aH hS rfl) eY.of (bI aK h5))),
      fun S hS => aI rfl (aQ rfl (bZ (aA rfl) (aH hS rfl) lJ (es := [.lit (.int .i64 x4.Player)]) rfl)),
      fun S hS => aI rfl (aQ rfl (bX (aA rfl) (aH hS rfl) bH)),
      fun S hS => aI rfl (aQ rfl (aC (v := .d (.lit (.int .i64 player_1))) (aA rfl) (aH hS rfl) rfl)),
      fun S hS => aI rfl (aQ rfl (bC (aA rfl) (aH hS rfl) (aH hS rfl) rfl)),
      fun S hS => aI rfl (aQ rfl (aC (v := .d (.lit (.bool ((decide (x4.Player = player_1)))))) (aA rfl) (aH hS rfl) rfl)),
      fun S hS => aI rfl (bD rfl rfl (aA rfl) rfl (aA rfl) (aP hS rfl) c8),
      fun S hS => aI rfl (bD rfl rfl (aA rfl) rfl (aA rfl) (aP hS rfl) c8),
      fun S hS => aI rfl (bD rfl rfl (aA rfl) rfl (aA rfl) (aP hS rfl) c8),
      fun S hS => aI rfl (bD rfl rfl (aA rfl) rfl (aA rfl) (aP hS rfl) c8),
      fun S hS => aI rfl (bD rfl rfl (aA rfl) rfl (aA rfl) (aP hS rfl) c8),
      fun S hS => aI rfl (bD rfl rfl (aA rfl) rfl (aA rfl) (aP hS rfl) c8),
      fun S hS => aI rfl (bD rfl rfl (aA rfl) rfl (aA rfl) (aP hS rfl) c8),
      fun S hS => aI rfl (bD rfl rfl (aA rfl) rfl (aA rfl) (aP hS rfl) c8),
      fun S hS => aI rfl (bD rfl rfl (aA rfl) rfl (aA rfl) (aP hS rfl) c8),
      fun S hS => aI rfl (bD rfl rfl (aA rfl) rfl (aA rfl) (aP hS rfl) c8),
      fun S hS => aI rfl (bD rfl rfl (aA rfl) rfl (aA rfl) (aP hS rfl) c8),
      fun S hS => aI rfl (bD rfl rfl (aA rfl) rfl (aA rfl) (aP hS rfl) c8),
      fun S hS => aI rfl (aQ rfl (bP (v := .d (.lit (.bool false))) (aA rfl) (aH hS rfl) c8 rfl rfl)), trivial⟩⟩
    · exact dI (aM rfl (aV ⟨rfl, rfl, rfl, rfl, trivial⟩))
  ·refine aF ?_
   refine bJ rfl (fun c15 => ?_) (fun c15 => ?_)
   ·have h := aT c15 h
    refine aG ?_
    refine aE ?_
    refine tr1 rfl (aJ (v := .d (.lit (.bool true))) (aA rfl) rfl rfl) ?_
    refine aF ?_
    have h := Option.some.inj h
    subst h
    exact bM ⟨rfl, _, .one _, rfl, rfl⟩
   ·have h := aS c15 h
    refine dS ?_
    refine aE ?_
    refine tr1 rfl (aC (v := .d (.lit (.int .i64 i_0_1))) (aA rfl) rfl rfl) ?_
    refine tr1 rfl (aZ (aA rfl) rfl rfl rfl) ?_
    refine tr1 rfl (aJ (v := .d (.lit (.int .i64 ((w64 (i_0_1 + 1)))))) (aA rfl) rfl rfl) ?_
    refine aF ?_
    exact ⟨(w64 (i_0_1 + 1)), h, aX [] rfl rfl (aM rfl (aV ⟨rfl, rfl, rfl, trivial⟩))⟩
 ·have h := aS c3 h
  refine cN ?_
  refine .inl ⟨rfl, ?_⟩
  simp only [qE] at h
  refine aG ?_
  refine aE ?_
  refine tr1 rfl (aJ (v := .d (.lit (.bool false))) (aA rfl) rfl rfl) ?_
  refine aF ?_
  have h := Option.some.inj h
  subst h
  exact bM ⟨rfl, _, .one _, rfl, rfl⟩

theorem yF (l_0 : aL) {r : aL} (h : jU l_0 = some r) : gC Try.prog 18 [.agg (aN l_0)] [] (fun r' o' => ∃ (w0 : Value) (w1 : Value) (w2 : Value), r' = .agg [.lit (.int .i64 r.Players), .lit (.int .i64 r.Counts), .lit w0, .lit w1, .lit w2] ∧ o' = [.arr w0 42 5 (r.Reports.map aB), .arr w1 66 3 (r.Bans.map aK), .arr w2 66 3 (r.Frozen.map aK)]) := by
 unfold jU at h
 refine mP Try.func18 rfl (rs := [.cell 2 25]) Try.results18 Try.ntmps18 (Nat.le_of_ble_eq_true rfl) ?_
 refine aG ?_
 refine aE ?_
 refine bW rfl (eN (v := .agg (aN l_0)) (aA rfl) rfl rfl rfl) ?_
 rintro _ ⟨b1, rfl⟩
 refine bW rfl (fV (zs := [.lit (.int .i64 0), .lit (.int .i64 0), .sl 5 ((([] : List aD)).map aB), .sl 3 ((([] : List bA)).map aK), .sl 3 ((([] : List bA)).map aK)]) (aA rfl) Try.zeroValue25 rfl rfl) ?_
 rintro _ ⟨b2, rfl⟩
 refine aF ?_
 refine aG ?_
 refine aE ?_
 refine tr1 rfl (cH (aA rfl) rfl (i := 0) rfl dW (es := (aN l_0)) rfl rfl) ?_
 refine bW rfl (fV (zs := [.lit (.int .i64 0), .lit (.int .i64 0), .sl 5 ((([] : List aD)).map aB), .sl 3 ((([] : List bA)).map aK), .sl 3 ((([] : List bA)).map aK)]) (aA rfl) Try.zeroValue25 rfl rfl) ?_
 rintro _ ⟨b3, rfl⟩
 refine tr1 rfl (cD (i := 2) rfl rfl rfl rfl rfl Try.sizeOf25 rfl (aA rfl) (Nat.le_of_ble_eq_true rfl) (ds' := (aN l_0)) rfl) ?_
 refine aF ?_
 refine aG ?_
 refine aE ?_
 refine bW rfl (qO (aA rfl) bR rfl rfl (rows := (([] : List aD)).map aB) rfl (cP (f := aB) fun _ => rfl) rfl (by decide)) ?_
 rintro _ ⟨v4, rfl⟩
 refine tr1 rfl (aU (aA rfl) rfl eH) ?_
 refine tr1 rfl (aW (aA rfl) rfl (i := 0) rfl rfl iZ) ?_
 obtain ⟨x5, h6, h⟩ := bind_some h
 refine bW rfl (gQ (i := 3) (aA rfl) bR rfl rfl rfl (fun _ => rfl) h6 rfl) ?_
 rintro _ ⟨v7, rfl⟩
 refine tr1 rfl (aU (aA rfl) rfl eH) ?_
 refine tr1 rfl (cD (i := 2) rfl rfl rfl rfl rfl Try.sizeOf22 rfl (aA rfl) (Nat.le_of_ble_eq_true rfl) (ds' := [.lit (.int .i64 l_0.Players), .lit (.int .i64 l_0.Counts), .lit v7, .sl 3 (l_0.Bans.map aK), .sl 3 (l_0.Frozen.map aK)]) rfl) ?_
 refine aF ?_
 refine aG ?_
 refine aE ?_
 refine bW rfl (qO (aA rfl) eY rfl rfl (rows := (([] : List bA)).map aK) rfl (cP (f := aK) fun _ => rfl) rfl (by decide)) ?_
 rintro _ ⟨v8, rfl⟩
 refine tr1 rfl (aU (aA rfl) rfl lH) ?_
 refine tr1 rfl (aW (aA rfl) rfl (i := 0) rfl rfl jA) ?_
 obtain ⟨x9, h10, h⟩ := bind_some h
 refine bW rfl (gQ (i := 4) (aA rfl) eY rfl rfl rfl (fun _ => rfl) h10 rfl) ?_
 rintro _ ⟨v11, rfl⟩
 refine tr1 rfl (aU (aA rfl) rfl lH) ?_
 refine tr1 rfl (cD (i := 2) rfl rfl rfl rfl rfl Try.sizeOf23 rfl (aA rfl) (Nat.le_of_ble_eq_true rfl) (ds' := [.lit (.int .i64 l_0.Players), .lit (.int .i64 l_0.Counts), .lit v7, .lit v11, .sl 3 (l_0.Frozen.map aK)]) rfl) ?_
 refine aF ?_
 refine aG ?_
 refine aE ?_
 refine bW rfl (qO (aA rfl) eY rfl rfl (rows := (([] : List bA)).map aK) rfl (cP (f := aK) fun _ => rfl) rfl (by decide)) ?_
 rintro _ ⟨v12, rfl⟩
 refine tr1 rfl (aU (aA rfl) rfl kG) ?_
 refine tr1 rfl (aW (aA rfl) rfl (i := 0) rfl rfl jA) ?_
 obtain ⟨x13, h14, h⟩ := bind_some h
 refine bW rfl (gQ (i := 5) (aA rfl) eY rfl rfl rfl (fun _ => rfl) h14 rfl) ?_
 rintro _ ⟨v15, rfl⟩
 refine tr1 rfl (aU (aA rfl) rfl kG) ?_
 refine tr1 rfl (cD (i := 2) rfl rfl rfl rfl rfl Try.sizeOf23 rfl (aA rfl) (Nat.le_of_ble_eq_true rfl) (ds' := [.lit (.int .i64 l_0.Players), .lit (.int .i64 l_0.Counts), .lit v7, .lit v11, .lit v15]) rfl) ?_
 refine aF ?_
 refine aG ?_
 refine aE ?_
 refine tr1 rfl (cH (aA rfl) rfl (i := 2) rfl dW (es := [.lit (.int .i64 l_0.Players), .lit (.int .i64 l_0.Counts), .lit v7, .lit v11, .lit v15]) rfl rfl) ?_
 refine tr1 rfl (cD (i := 1) rfl rfl rfl rfl rfl Try.sizeOf25 rfl (aA rfl) (Nat.le_of_ble_eq_true rfl) (ds' := [.lit (.int .i64 l_0.Players), .lit (.int .i64 l_0.Counts), .lit v7, .lit v11, .lit v15]) rfl) ?_
 refine aF ?_
 have h := Option.some.inj h
 subst h
 refine cR (aX [3, 4, 5, 0, 1, 2] rfl rfl (le_refl _)) ?_
 exact bM ⟨rfl, _, [.arr v7 42 5 (x5.map aB), .arr v11 66 3 (x9.map aK), .arr v15 66 3 (x13.map aK)], [.box b1 0 (aN l_0), .box b2 0 [.lit (.int .i64 l_0.Players), .lit (.int .i64 l_0.Counts), .lit v7, .lit v11, .lit v15], .box b3 0 [.lit (.int .i64 l_0.Players), .lit (.int .i64 l_0.Counts), .lit v7, .lit v11, .lit v15]], _, .one (.cell 2 25 rfl (i := 4) rfl dW (es := [.lit (.int .i64 l_0.Players), .lit (.int .i64 l_0.Counts), .lit v7, .lit v11, .lit v15]) rfl rfl), .refl _, .same _, v7, v11, v15, rfl, rfl⟩

theorem zT (l_0 : aL) (player_1 : Int) (week_2 : Int) (points_3 : Int) {r : aL} (h : mC l_0 player_1 week_2 points_3 = some r) : Fn Try.prog 26 [.agg (aN l_0), .d (.lit (.int .i64 player_1)), .d (.lit (.int .i64 week_2)), .d (.lit (.int .i64 points_3))] (.agg (aN r)) := by
 unfold mC at h
 refine rL Try.func26 rfl (rs := [.cell 8 25]) Try.results26 Try.ntmps26 (Nat.le_of_ble_eq_true rfl) ?_
 refine aG ?_
 refine aE ?_
 refine bW rfl (eN (v := .agg (aN l_0)) (aA rfl) rfl rfl rfl) ?_
 rintro _ ⟨b1, rfl⟩
 refine bW rfl (fV (zs := [.lit (.int .i64 0), .lit (.int .i64 0), .sl 5 ((([] : List aD)).map aB), .sl 3 ((([] : List bA)).map aK), .sl 3 ((([] : List bA)).map aK)]) (aA rfl) Try.zeroValue25 rfl rfl) ?_
 rintro _ ⟨b2, rfl⟩
 refine aF ?_
 refine aG ?_
 refine aE ?_
 refine tr1 rfl (cH (aA rfl) rfl (i := 0) rfl dW (es := (aN l_0)) rfl rfl) ?_
 obtain ⟨r3, h4, h⟩ := bind_some h
 refine bW rfl (dX (passed := []) (aA rfl) rfl (.func _ _ Try.call18) rfl rfl (yF _ h4)) ?_
 rintro _ ⟨_, _, ⟨w5, w6, w7, rfl, rfl⟩, rfl⟩
 refine bW rfl (fV (zs := [.lit (.int .i64 0), .lit (.int .i64 0), .lit (.slice none 0 0), .lit (.slice none 0 0), .lit (.slice none 0 0)]) (aA rfl) Try.zeroValue25 rfl rfl) ?_
 rintro _ ⟨b8, rfl⟩
 refine tr1 rfl (cD (i := 5) rfl rfl rfl rfl rfl Try.sizeOf25 rfl (aA rfl) (Nat.le_of_ble_eq_true rfl) (ds' := [.lit (.int .i64 r3.Players), .lit (.int .i64 r3.Counts), .lit w5, .lit w6, .lit w7]) rfl) ?_
 refine aF ?_
 refine aG ?_
 refine aE ?_
 refine tr1 rfl (aJ (v := .d (.lit (.int .i64 0))) (aA rfl) rfl rfl) ?_
 refine aF ?_
 refine aG ?_
 refine aG ?_
 refine aE ?_
 refine tr1 rfl (aJ (v := .d (.lit (.int .i64 0))) (aA rfl) rfl rfl) ?_
 refine aF ?_
 refine bQ ?_
 refine cG [1, 2, 3, 4, 8, 9] (fun (s9 : Int × Int) => [(10, .d (.lit (.int .i64 s9.1))), (11, .d (.lit (.int .i64 s9.2)))]) (fun (s9 : Int × Int) => [.box b1 0 (aN l_0), .box b2 0 (aN (aL.mk 0 0 ([] : List aD) ([] : List bA) ([] : List bA))), .box b8 0 [.lit (.int .i64 r3.Players), .lit (.int .i64 r3.Counts), .lit w5, .lit w6, .lit w7], .arr w5 42 5 (r3.Reports.map aB), .arr w6 66 3 (r3.Bans.map aK), .arr w7 66 3 (r3.Frozen.map aK)]) (fun (k : Nat) (s9 : Int × Int) => iX player_1 week_2 points_3 l_0 (aL.mk 0 0 ([] : List aD) ([] : List bA) ([] : List bA)) r3.Players r3.Counts r3.Reports r3.Bans r3.Frozen k s9.1 s9.2) (fun _ => rfl) (0, 0) h (aX [3, 4, 5, 0, 1, 2] rfl rfl (aM rfl (aM rfl (aV ⟨rfl, rfl, rfl, rfl, rfl, rfl, trivial⟩)))) ?_
 rintro k10 ⟨id_0_9, i_0_9⟩ h
 simp only [iX] at h
 refine aG ?_
 refine aG ?_
 refine aE ?_
 refine tr1 rfl (aC (v := .d (.lit (.int .i64 i_0_9))) (aA rfl) rfl rfl) ?_
 refine tr1 rfl (aU (aA rfl) rfl eH) ?_
 refine tr1 rfl (aW (aA rfl) rfl (i := 0) rfl rfl iZ) ?_
 refine tr1 rfl (cX (aA rfl) rfl bR.of) ?_
 refine tr1 rfl (bC (aA rfl) rfl rfl rfl) ?_
 refine aF ?_
 refine bJ rfl (fun c11 => ?_) (fun c11 => ?_)
 ·have h := aT c11 h
  refine bG ?_
  refine aG ?_
  refine bQ ?_
  refine aE ?_
  refine tr1 rfl (aC (v := .d (.lit (.int .i64 id_0_9))) (aA rfl) rfl rfl) ?_
  refine tr1 rfl (aU (aA rfl) rfl eH) ?_
  refine tr1 rfl (aW (aA rfl) rfl (i := 0) rfl rfl iZ) ?_
  refine tr1 rfl (aC (v := .d (.lit (.int .i64 i_0_9))) (aA rfl) rfl rfl) ?_
  obtain ⟨x12, h13, h⟩ := bind_some h
  refine tr1 rfl (bO (aA rfl) rfl rfl bR.of (bI aB h13)) ?_
  refine tr1 rfl (bZ (aA rfl) rfl kA (es := [.lit (.int .i64 x12.Id)]) rfl) ?_
  refine tr1 rfl (bX (aA rfl) rfl bH) ?_
  refine tr1 rfl (aZ (aA rfl) rfl rfl rfl) ?_
  refine tr1 rfl (xJ (aA rfl) rfl rfl) ?_
  refine tr1 rfl (aJ (v := .d (.lit (.int .i64 ((max id_0_9 (w64 (x12.Id + 1))))))) (aA rfl) rfl rfl) ?_
  refine dG ?_
  refine aE ?_
  refine tr1 rfl (aC (v := .d (.lit (.int .i64 i_0_9))) (aA rfl) rfl rfl) ?_
  refine tr1 rfl (aZ (aA rfl) rfl rfl rfl) ?_
  refine tr1 rfl (aJ (v := .d (.lit (.int .i64 ((w64 (i_0_9 + 1)))))) (aA rfl) rfl rfl) ?_
  refine aF ?_
  exact ⟨(max id_0_9 (w64 (x12.Id + 1)), w64 (i_0_9 + 1)), h, aX [0, 1, 2, 3, 4, 5] rfl rfl (aM rfl (aM rfl (aV ⟨rfl, rfl, rfl, rfl, rfl, rfl, trivial⟩)))⟩
 ·have h := aS c11 h
  refine cN ?_
  refine .inl ⟨rfl, ?_⟩
  simp only [nT] at h
  refine aG ?_
  refine aE ?_
  refine tr1 rfl (aU (aA rfl) rfl eH) ?_
  refine tr1 rfl (aW (aA rfl) rfl (i := 2) rfl rfl iZ) ?_
  refine tr1 rfl (aC (v := .d (.lit (.int .i64 id_0_9))) (aA rfl) rfl rfl) ?_
  refine tr1 rfl (aC (v := .d (.lit (.int .i64 player_1))) (aA rfl) rfl rfl) ?_
  refine tr1 rfl (aC (v := .d (.lit (.int .i64 week_2))) (aA rfl) rfl rfl) ?_
  refine tr1 rfl (aC (v := .d (.lit (.int .i64 points_3))) (aA rfl) rfl rfl) ?_
  refine tr1 rfl (mY (aA rfl) tY (zs := [.lit (.int .i64 0), .lit (.int .i64 0), .lit (.int .i64 0), .lit (.int .i64 0), .lit (.bool false)]) rfl rfl rfl rfl (es := [.lit (.int .i64 id_0_9), .lit (.int .i64 player_1), .lit (.int .i64 week_2), .lit (.int .i64 points_3), .lit (.bool false)]) rfl) ?_
  refine tr1 rfl (iL (aA rfl) bR rfl rfl (rows := ([(aD.mk id_0_9 player_1 week_2 points_3 false)]).map aB) rfl (cP (f := aB) fun _ => rfl) rfl (by decide)) ?_
  obtain ⟨x14, h15, h⟩ := bind_some h
  refine bW rfl (gQ (i := 3) (aA rfl) bR rfl rfl rfl (fun _ => rfl) h15 rfl) ?_
  rintro _ ⟨v16, rfl⟩
  refine tr1 rfl (aU (aA rfl) rfl eH) ?_
  refine tr1 rfl (cD (i := 2) rfl rfl rfl rfl rfl Try.sizeOf22 rfl (aA rfl) (Nat.le_of_ble_eq_true rfl) (ds' := [.lit (.int .i64 r3.Players), .lit (.int .i64 r3.Counts), .lit v16, .lit w6, .lit w7]) rfl) ?_
  refine aF ?_
  refine aG ?_
  refine aE ?_
  refine tr1 rfl (cH (aA rfl) rfl (i := 2) rfl dW (es := [.lit (.int .i64 r3.Players), .lit (.int .i64 r3.Counts), .lit v16, .lit w6, .lit w7]) rfl rfl) ?_
  refine tr1 rfl (cD (i := 1) rfl rfl rfl rfl rfl Try.sizeOf25 rfl (aA rfl) (Nat.le_of_ble_eq_true rfl) (ds' := [.lit (.int .i64 r3.Players), .lit (.int .i64 r3.Counts), .lit v16, .lit w6, .lit w7]) rfl) ?_
  refine aF ?_
  have h := Option.some.inj h
  subst h
  exact bM ⟨rfl, _, [.box b1 0 (aN l_0), .box b2 0 [.lit (.int .i64 r3.Players), .lit (.int .i64 r3.Counts), .lit v16, .lit w6, .lit w7], .box b8 0 [.lit (.int .i64 r3.Players), .lit (.int .i64 r3.Counts), .lit v16, .lit w6, .lit w7], .arr v16 42 5 (x14.map aB), .arr w6 66 3 (r3.Bans.map aK), .arr w7 66 3 (r3.Frozen.map aK)], .one (.cell 8 25 rfl (i := 1) rfl dW (es := [.lit (.int .i64 r3.Players), .lit (.int .i64 r3.Counts), .lit v16, .lit w6, .lit w7]) rfl rfl), .refl _, .agg (dvc (.same _) (dvc (.same _) (dvc (hO 3 rfl (cP (f := aB) fun _ => rfl)) (dvc (hO 4 rfl (cP (f := aK) fun _ => rfl)) (dvc (hO 5 rfl (cP (f := aK) fun _ => rfl)) dvn)))))⟩

theorem wH (kr : Nat) : ∀ (l_0 : aL) (week_1 : Int) (prizes_2 : List Int) (used_3 : List Bool) {r : (List aL)} (_h : eE kr l_0 week_1 prizes_2 used_3 = some r), Fn Try.prog 53 [.agg (aN l_0), .d (.lit (.int .i64 week_1)), .d (.sl 1 (prizes_2.map bY)), .d (.sl 1 (used_3.map lG))] (.d (.sl 5 (r.map aN))) := by
  induction kr with
  | zero => intros; rename_i h; cases h
  | succ kr ih =>
    intro l_0 week_1 prizes_2 used_3 r h
    simp only [eE] at h
    refine Fn.of_tr Try.func53 rfl (rs := [.tmp 8]) Try.results53 Try.ntmps53 (Nat.le_of_ble_eq_true rfl) ?_
    refine aG ?_
    refine aE ?_
    refine bW rfl (eN (v := .agg (aN l_0)) (aA rfl) rfl rfl rfl) ?_
    rintro _ ⟨b1, rfl⟩
    refine tr1 rfl (qB 5 (aA rfl)) ?_
    refine aF ?_
    refine aG ?_
    refine aG ?_
    refine aE ?_
    refine tr1 rfl (aC (v := .d (.sl 1 (prizes_2.map bY))) (aA rfl) rfl rfl) ?_
    refine tr1 rfl (cX (aA rfl) rfl dK.of) ?_
    refine tr1 rfl (bC (aA rfl) rfl rfl rfl) ?_
    refine aF ?_
    refine bJ rfl (fun c2 => ?_) (fun c2 => ?_)
    ·have h := aT c2 h
     refine aG ?_
     refine aE ?_
     refine tr1 rfl (cH (aA rfl) rfl (i := 0) rfl dW (es := (aN l_0)) rfl rfl) ?_
     refine tr1 rfl (iL (aA rfl) zO rfl rfl (rows := ([l_0]).map aN) rfl (cP (f := aN) fun _ => rfl) rfl (by decide)) ?_
     refine tr1 rfl (aJ (v := .d (.sl 5 (([l_0]).map aN))) (aA rfl) rfl rfl) ?_
     refine aF ?_
     have h := Option.some.inj h
     subst h
     refine cR (cE (cM (l := [8]) ⟨rfl, trivial⟩)) ?_
     exact bM ⟨rfl, _, .one _, rfl, rfl⟩
    ·have h := aS c2 h
     refine bG ?_
     refine aG ?_
     refine aE ?_
     refine tr1 rfl (jE 25 5 (.inl rfl) (aA rfl)) ?_
     refine aF ?_
     refine aG ?_
     refine aG ?_
     refine aE ?_
     refine tr1 rfl (aJ (v := .d (.lit (.int .i64 0))) (aA rfl) rfl rfl) ?_
     refine aF ?_
     refine bQ ?_
     refine cG [1, 2, 3, 4] (fun (s4 : Int × (List aL) × Value) => [(9, .d (.lit s4.2.2)), (10, .d (.lit (.int .i64 s4.1)))]) (fun (s4 : Int × (List aL) × Value) => [.box b1 0 (aN l_0), .arr s4.2.2 25 5 (s4.2.1.map aN)]) (fun (k : Nat) (s4 : Int × (List aL) × Value) => fU (eE kr) week_1 prizes_2 used_3 l_0 k s4.1 s4.2.1) (fun _ => rfl) (0, ([] : List aL), (.slice none 0 0)) h (aX [0, 1] rfl rfl (aM rfl (aM rfl (aV ⟨rfl, rfl, rfl, rfl, trivial⟩)))) ?_
     rintro k6 ⟨p_0_4, out_0_4, w5⟩ h
     simp only [fU] at h
     refine aG ?_
     refine aG ?_
     refine aE ?_
     refine tr1 rfl (aC (v := .d (.lit (.int .i64 p_0_4))) (aA rfl) rfl rfl) ?_
     refine tr1 rfl (aU (aA rfl) rfl iJ) ?_
     refine tr1 rfl (aW (aA rfl) rfl (i := 0) rfl rfl bH) ?_
     refine tr1 rfl (bC (aA rfl) rfl rfl rfl) ?_
     refine aF ?_
     refine bJ rfl (fun c7 => ?_) (fun c7 => ?_)
     ·have h := aT c7 h
      refine bG ?_
      refine aG ?_
      refine bQ ?_
      refine aG ?_
      refine aG ?_
      refine aE ?_
      refine tr1 rfl (aC (v := .d (.sl 1 (used_3.map lG))) (aA rfl) rfl rfl) ?_
      refine tr1 rfl (aC (v := .d (.lit (.int .i64 p_0_4))) (aA rfl) rfl rfl) ?_
      obtain ⟨x8, h9, h⟩ := bind_some h
      refine tr1 rfl (bO (aA rfl) rfl rfl aBz.of (bI lG h9)) ?_
      refine tr1 rfl (bX (aA rfl) rfl nW) ?_
      refine tr1 rfl (aC (v := .d (.lit (.bool x8))) (aA rfl) rfl rfl) ?_
      obtain ⟨b10, h11, h⟩ := bind_some h
      refine cA 6 [1, 2, 3, 4, 9, 10] 33 b10 ?_ ?_
      ·refine bF (x8) (fun c30 => ?_) (fun c30 => ?_)
       ·have h11 := aT c30 h11
        refine aR rfl rfl (aA rfl) rfl (aA rfl) rfl c30 ?_
        refine aR rfl rfl (aA rfl) rfl (aA rfl) rfl c30 ?_
        refine aR rfl rfl (aA rfl) rfl (aA rfl) rfl c30 ?_
        refine aR rfl rfl (aA rfl) rfl (aA rfl) rfl c30 ?_
        refine aR rfl rfl (aA rfl) rfl (aA rfl) rfl c30 ?_
        refine tr1 rfl (bN (v := .d (.lit (.bool true))) (aA rfl) rfl c30 rfl rfl) ?_
        have h11 := Option.some.inj h11
        subst h11
        refine aF (bB rfl ⟨rfl, rfl, rfl, rfl, rfl, rfl, trivial⟩ rfl)
       ·have h11 := aS c30 h11
        refine aO rfl rfl (aA rfl) rfl c30 (aU (aA rfl) rfl lH) ?_
        refine aO rfl rfl (aA rfl) rfl c30 (aW (aA rfl) rfl (i := 0) rfl rfl jA) ?_
        refine aO rfl rfl (aA rfl) rfl c30 (aC (v := .d (.lit (.int .i64 p_0_4))) (aA rfl) rfl rfl) ?_
        refine aO rfl rfl (aA rfl) rfl c30 (aC (v := .d (.lit (.int .i64 week_1))) (aA rfl) rfl rfl) ?_
        obtain ⟨r31, h32, h11⟩ := bind_some h11
        refine aO rfl rfl (aA rfl) rfl c30 (cC (aA rfl) (.func _ _ Try.call25) rfl rfl (BVs.refl _ _) (oR _ _ _ h32) rfl) ?_
        refine tr1 rfl (bP (v := .d (.lit (.bool r31))) (aA rfl) rfl c30 rfl rfl) ?_
        have h11 := Option.some.inj h11
        subst h11
        refine aF (bB rfl ⟨rfl, rfl, rfl, rfl, rfl, rfl, trivial⟩ rfl)
      ·refine aF ?_
       refine bJ rfl (fun c12 => ?_) (fun c12 => ?_)
       ·have h := aT c12 h
        refine cN ?_
        refine .inl ⟨rfl, ?_⟩
        refine aE ?_
        refine tr1 rfl (aC (v := .d (.lit (.int .i64 p_0_4))) (aA rfl) rfl rfl) ?_
        refine tr1 rfl (aZ (aA rfl) rfl rfl rfl) ?_
        refine tr1 rfl (aJ (v := .d (.lit (.int .i64 ((w64 (p_0_4 + 1)))))) (aA rfl) rfl rfl) ?_
        refine aF ?_
        exact ⟨(w64 (p_0_4 + 1), out_0_4, w5), h, aX [0, 1] rfl rfl (aM rfl (aM rfl (aV ⟨rfl, rfl, rfl, rfl, trivial⟩)))⟩
       ·have h := aS c12 h
        refine bG ?_
        refine aG ?_
        refine aE ?_
        refine bW rfl (qO (aA rfl) aBz rfl rfl (rows := (([] : List Bool)).map lG) rfl (cP (f := lG) fun _ => rfl) rfl (by decide)) ?_
        rintro _ ⟨v13, rfl⟩
        refine tr1 rfl (aC (v := .d (.sl 1 (used_3.map lG))) (aA rfl) rfl rfl) ?_
        obtain ⟨x14, h15, h⟩ := bind_some h
        refine bW rfl (gQ (i := 2) (aA rfl) aBz rfl rfl rfl (fun _ => rfl) h15 rfl) ?_
        rintro _ ⟨v16, rfl⟩
        refine tr1 rfl (aJ (v := .d (.lit v16)) (aA rfl) rfl rfl) ?_
        refine aF ?_
        refine aG ?_
        refine aE ?_
        refine tr1 rfl (aC (v := .d (.lit v16)) (aA rfl) rfl rfl) ?_
        refine tr1 rfl (aC (v := .d (.lit (.int .i64 p_0_4))) (aA rfl) rfl rfl) ?_
        obtain ⟨x17, h18, h⟩ := bind_some h
        refine tr1 rfl (cL (m := 2) (aA rfl) rfl rfl rfl aBz.of (bI lG h18)) ?_
        refine tr1 rfl (jM (l := 2) rfl rfl (eF lG h18) rfl rfl rfl Try.sizeOf4 rfl (aA rfl) (Nat.le_of_ble_eq_true rfl) (rows' := ((x14.set p_0_4.toNat true)).map lG) (mZ _ _ _ _ rfl)) ?_
        refine aF ?_
        refine cR (sY [.box b1 0 (aN l_0), .arr w5 25 5 (out_0_4.map aN)] [.arr v16 4 1 ((x14.set p_0_4.toNat true).map lG)] rfl (gM (k := 37) (v := .d (.sl 1 (((x14.set p_0_4.toNat true)).map lG))) (.d (hO 0 rfl (cP (f := lG) fun _ => rfl))) (gM (k := 36) (v := .d (.sl 1 (((x14.set p_0_4.toNat true)).map lG))) (.d (hO 0 rfl (cP (f := lG) fun _ => rfl))) (gM (k := 34) (v := .any) (.any _) (gM (k := 11) (v := .d (.sl 1 (((x14.set p_0_4.toNat true)).map lG))) (.d (hO 0 rfl (cP (f := lG) fun _ => rfl))) (oX _ _)))))) ?_
        obtain ⟨x19, h20, h⟩ := bind_some h
        obtain ⟨r21, h22, h⟩ := bind_some h
        obtain ⟨x23, h24, h⟩ := bind_some h
        obtain ⟨r25, h26, h⟩ := bind_some h
        refine fN mix 13 [1, 2, 3, 4, 10] [(40, .d (.lit w5)), (52, .d (.sl 5 (r25.map aN)))] ?_ ?_
        ·refine ⟨[(40, 0, .d (.lit w5)), (41, 1, .agg (aN l_0)), (42, 2, .d (.lit (.int .i64 p_0_4))), (43, 3, .d (.lit (.int .i64 week_1))), (44, 4, .d (.sl 1 (prizes_2.map bY))), (45, 5, .cp [.lit (.int .i64 x19)]), (46, 6, .d (.lit (.int .i64 x19))), (47, 7, .agg (aN r21)), (48, 8, .d (.lit (.int .i64 week_1))), (49, 9, .d (.sl 1 (prizes_2.map bY))), (50, 10, .d (.sl 1 (x23.map bY))), (51, 11, .d (.sl 1 (((x14.set p_0_4.toNat true)).map lG))), (52, 12, .d (.sl 5 (r25.map aN)))], ?_, ?_⟩
         · exact ⟨by kernel_rfl, by kernel_rfl, by kernel_rfl, by kernel_rfl, by kernel_rfl, [([], []), ([], []), ([], []), ([], []), ([], []), ([4], []), ([5], []), ([1, 2, 3, 6], []), ([], []), ([], []), ([9], []), ([], []), ([7, 8, 10, 11], [])], by kernel_rfl, ⟨fun S hS => aI rfl (aQ rfl (aC (v := .d (.lit w5)) (aA rfl) (aH hS rfl) rfl)),
      fun S hS => aI rfl (aQ rfl (cH (aA rfl) (aH hS rfl) (i := 0) rfl dW (es := (aN l_0)) rfl rfl)),
      fun S hS => aI rfl (aQ rfl (aC (v := .d (.lit (.int .i64 p_0_4))) (aA rfl) (aH hS rfl) rfl)),
      fun S hS => aI rfl (aQ rfl (aC (v := .d (.lit (.int .i64 week_1))) (aA rfl) (aH hS rfl) rfl)),
      fun S hS => aI rfl (aQ rfl (aC (v := .d (.sl 1 (prizes_2.map bY))) (aA rfl) (aH hS rfl) rfl)),
      fun S hS => aI rfl (aQ rfl (bO (aA rfl) (aH hS rfl) rfl dK.of (bI bY h20))),
      fun S hS => aI rfl (aQ rfl (bX (aA rfl) (aH hS rfl) bH)),
      fun S hS => aI rfl (aQ rfl (iT (aA rfl) (.func _ _ Try.call26) (ev2 (aH hS rfl) (ev2 (aH hS rfl) (ev2 (aH hS rfl) (ev2 (aH hS rfl) evn)))) rfl (zT _ _ _ _ h22))),
      fun S hS => aI rfl (aQ rfl (aC (v := .d (.lit (.int .i64 week_1))) (aA rfl) (aH hS rfl) rfl)),
      fun S hS => aI rfl (aQ rfl (aC (v := .d (.sl 1 (prizes_2.map bY))) (aA rfl) (aH hS rfl) rfl)),
      fun S hS => aI rfl (aQ rfl (kK (aA rfl) dK.of (aH hS rfl) rfl aDs (nR bY h24))),
      fun S hS => aI rfl (aQ rfl (aC (v := .d (.sl 1 (((x14.set p_0_4.toNat true)).map lG))) (aA rfl) (aH hS rfl) rfl)),
      fun S hS => aI rfl (aQ rfl (iT (aA rfl) (.func _ _ Try.call53) (ev2 (aH hS rfl) (ev2 (aH hS rfl) (ev2 (aH hS rfl) (ev2 (aH hS rfl) evn)))) rfl (ih _ _ _ _ h26))), trivial⟩⟩
         · exact dI (aM rfl (aM rfl (aV ⟨rfl, rfl, rfl, rfl, rfl, trivial⟩)))
        ·obtain ⟨x27, h28, h⟩ := bind_some h
         refine bW rfl (gQ (i := 1) (aA rfl) zO rfl rfl rfl (fun _ => rfl) h28 rfl) ?_
         rintro _ ⟨v29, rfl⟩
         refine tr1 rfl (aJ (v := .d (.lit v29)) (aA rfl) rfl rfl) ?_
         refine dG ?_
         refine aE ?_
         refine tr1 rfl (aC (v := .d (.lit (.int .i64 p_0_4))) (aA rfl) rfl rfl) ?_
         refine tr1 rfl (aZ (aA rfl) rfl rfl rfl) ?_
         refine tr1 rfl (aJ (v := .d (.lit (.int .i64 ((w64 (p_0_4 + 1)))))) (aA rfl) rfl rfl) ?_
         refine aF ?_
         exact ⟨(w64 (p_0_4 + 1), x27, v29), h, aX [0, 1] rfl rfl (aM rfl (aM rfl (aV ⟨rfl, rfl, rfl, rfl, trivial⟩)))⟩
     ·have h := aS c7 h
      refine cN ?_
      refine .inl ⟨rfl, ?_⟩
      simp only [mB] at h
      refine aG ?_
      refine aG ?_
      refine aE ?_
      refine tr1 rfl (aC (v := .d (.lit w5)) (aA rfl) rfl rfl) ?_
      refine tr1 rfl (lR (m := 1) (aA rfl) rfl rfl zO.of) ?_
      refine tr1 rfl (bC (aA rfl) rfl rfl rfl) ?_
      refine aF ?_
      refine bJ rfl (fun c33 => ?_) (fun c33 => ?_)
      ·have h := aT c33 h
       refine aG ?_
       refine aE ?_
       refine tr1 rfl (cH (aA rfl) rfl (i := 0) rfl dW (es := (aN l_0)) rfl rfl) ?_
       refine tr1 rfl (iL (aA rfl) zO rfl rfl (rows := ([l_0]).map aN) rfl (cP (f := aN) fun _ => rfl) rfl (by decide)) ?_
       refine tr1 rfl (aJ (v := .d (.sl 5 (([l_0]).map aN))) (aA rfl) rfl rfl) ?_
       refine aF ?_
       have h := Option.some.inj h
       subst h
       refine cR (cE (cM (l := [8]) ⟨rfl, trivial⟩)) ?_
       exact bM ⟨rfl, _, .one _, rfl, rfl⟩
      ·have h := aS c33 h
       refine bG ?_
       refine aG ?_
       refine aE ?_
       refine tr1 rfl (aC (v := .d (.lit w5)) (aA rfl) rfl rfl) ?_
       refine tr1 rfl (aJ (v := .d (.lit w5)) (aA rfl) rfl rfl) ?_
       refine aF ?_
       have h := Option.some.inj h
       subst h
       refine cR (cE (gM (k := 8) (v := .d (.sl 5 (out_0_4.map aN))) (.d (hO 1 rfl (cP (f := aN) fun _ => rfl))) (uL))) ?_
       exact bM ⟨rfl, _, .one _, rfl, rfl⟩
theorem wX (l_0 : aL) (week_1 : Int) (prizes_2 : List Int) (used_3 : List Bool) {r : (List aL)} (h : tP l_0 week_1 prizes_2 used_3 = some r) : Fn Try.prog 53 [.agg (aN l_0), .d (.lit (.int .i64 week_1)), .d (.sl 1 (prizes_2.map bY)), .d (.sl 1 (used_3.map lG))] (.d (.sl 5 (r.map aN))) := wH BIG _ _ _ _ h

theorem wJ (l_0 : List aD) {r : (List aD)} (h : iI l_0 = some r) : Fn Try.prog 64 [.d (.sl 5 (l_0.map aB))] (.d (.sl 5 (r.map aB))) := by
 unfold iI at h
 refine Fn.of_tr Try.func64 rfl (rs := [.tmp 2]) Try.results64 Try.ntmps64 (Nat.le_of_ble_eq_true rfl) ?_
 refine aG ?_
 refine aE ?_
 refine tr1 rfl (qB 5 (aA rfl)) ?_
 refine aF ?_
 refine aG ?_
 refine aE ?_
 refine tr1 rfl (qB 5 (aA rfl)) ?_
 refine aF ?_
 refine aG ?_
 refine aG ?_
 refine aE ?_
 refine tr1 rfl (aJ (v := .d (.lit (.int .i64 0))) (aA rfl) rfl rfl) ?_
 refine aF ?_
 refine bQ ?_
 refine cG [0] (fun (s1 : (List aD) × Int) => [(3, .d (.sl 5 (s1.1.map aB))), (4, .d (.lit (.int .i64 s1.2)))]) (fun (s1 : (List aD) × Int) => []) (fun (k : Nat) (s1 : (List aD) × Int) => eS l_0 k s1.1 s1.2) (fun _ => rfl) (([] : List aD), 0) h (aX [] rfl rfl (aM rfl (aM rfl (aV ⟨rfl, trivial⟩)))) ?_
 rintro k2 ⟨out_0_1, i_0_1⟩ h
 simp only [eS] at h
 refine aG ?_
 refine aG ?_
 refine aE ?_
 refine tr1 rfl (aC (v := .d (.lit (.int .i64 i_0_1))) (aA rfl) rfl rfl) ?_
 refine tr1 rfl (aC (v := .d (.sl 5 (l_0.map aB))) (aA rfl) rfl rfl) ?_
 refine tr1 rfl (cX (aA rfl) rfl bR.of) ?_
 refine tr1 rfl (bC (aA rfl) rfl rfl rfl) ?_
 refine aF ?_
 refine bJ rfl (fun c3 => ?_) (fun c3 => ?_)
 ·have h := aT c3 h
  refine bG ?_
  refine aG ?_
  refine bQ ?_
  refine aG ?_
  refine aE ?_
  refine tr1 rfl (aJ (v := .d (.lit (.int .i64 0))) (aA rfl) rfl rfl) ?_
  refine tr1 rfl (aJ (v := .d (.lit (.bool false))) (aA rfl) rfl rfl) ?_
  refine aF ?_
  refine aG ?_
  refine aG ?_
  refine aE ?_
  refine tr1 rfl (aJ (v := .d (.lit (.int .i64 0))) (aA rfl) rfl rfl) ?_
  refine aF ?_
  refine bQ ?_
  refine cG [0, 3, 4] (fun (s4 : Int × Bool × Int) => [(5, .d (.lit (.int .i64 s4.1))), (6, .d (.lit (.bool s4.2.1))), (7, .d (.lit (.int .i64 s4.2.2)))]) (fun (s4 : Int × Bool × Int) => []) (fun (k : Nat) (s4 : Int × Bool × Int) => eT (eS l_0 k2) l_0 out_0_1 i_0_1 k s4.1 s4.2.1 s4.2.2) (fun _ => rfl) (0, false, 0) h (aX [] rfl rfl (aM rfl (aM rfl (aM rfl (aV ⟨rfl, rfl, rfl, trivial⟩))))) ?_
  rintro k5 ⟨atv_2_4, known_2_4, k_2_4⟩ h
  simp only [eT] at h
  refine aG ?_
  refine aG ?_
  refine aE ?_
  refine tr1 rfl (aC (v := .d (.lit (.int .i64 k_2_4))) (aA rfl) rfl rfl) ?_
  refine tr1 rfl (aC (v := .d (.sl 5 (out_0_1.map aB))) (aA rfl) rfl rfl) ?_
  refine tr1 rfl (cX (aA rfl) rfl bR.of) ?_
  refine tr1 rfl (bC (aA rfl) rfl rfl rfl) ?_
  refine aF ?_
  refine bJ rfl (fun c6 => ?_) (fun c6 => ?_)
  ·have h := aT c6 h
   refine bG ?_
   refine aG ?_
   refine bQ ?_
   refine aG ?_
   obtain ⟨b7, h8, h⟩ := bind_some h
   refine fN mix 12 [0, 3, 4, 5, 7] [(32, .d (.lit (.bool b7)))] ?_ ?_
   ·refine bF (known_2_4) (fun c9 => ?_) (fun c9 => ?_)
    ·have h8 := aT c9 h8
     have h8 := Option.some.inj h8
     subst h8
     refine ⟨[(21, 0, .d (.lit (.bool known_2_4))), (22, 1, .d (.lit (.bool known_2_4))), (23, 2, .tup []), (24, 3, .tup []), (25, 4, .tup []), (26, 5, .tup []), (27, 6, .tup []), (28, 7, .tup []), (29, 8, .tup []), (30, 9, .tup []), (31, 10, .tup []), (32, 11, .d (.lit (.bool true)))], ?_, ?_⟩
     · exact ⟨by kernel_rfl, by kernel_rfl, by kernel_rfl, by kernel_rfl, by kernel_rfl, [([], []), ([0], []), ([1], []), ([1], []), ([1, 2, 3], []), ([1, 4], []), ([1], []), ([1], []), ([1, 6, 7], []), ([1, 8], []), ([1, 5, 9], []), ([1, 10], [])], by kernel_rfl, ⟨fun S hS => aI rfl (aQ rfl (aC (v := .d (.lit (.bool known_2_4))) (aA rfl) (aH hS rfl) rfl)),
      fun S hS => aI rfl (aQ rfl (aC (v := .d (.lit (.bool known_2_4))) (aA rfl) (aH hS rfl) rfl)),
      fun S hS => aI rfl (bD rfl rfl (aA rfl) rfl (aA rfl) (aP hS rfl) c9),
      fun S hS => aI rfl (bD rfl rfl (aA rfl) rfl (aA rfl) (aP hS rfl) c9),
      fun S hS => aI rfl (bD rfl rfl (aA rfl) rfl (aA rfl) (aP hS rfl) c9),
      fun S hS => aI rfl (bD rfl rfl (aA rfl) rfl (aA rfl) (aP hS rfl) c9),
      fun S hS => aI rfl (bD rfl rfl (aA rfl) rfl (aA rfl) (aP hS rfl) c9),
      fun S hS => aI rfl (bD rfl rfl (aA rfl) rfl (aA rfl) (aP hS rfl) c9),
      fun S hS => aI rfl (bD rfl rfl (aA rfl) rfl (aA rfl) (aP hS rfl) c9),
      fun S hS => aI rfl (bD rfl rfl (aA rfl) rfl (aA rfl) (aP hS rfl) c9),
      fun S hS => aI rfl (bD rfl rfl (aA rfl) rfl (aA rfl) (aP hS rfl) c9),
      fun S hS => aI rfl (aQ rfl (bN (v := .d (.lit (.bool true))) (aA rfl) (aH hS rfl) c9 rfl rfl)), trivial⟩⟩
     · exact dI (aM rfl (aV ⟨rfl, rfl, rfl, rfl, rfl, trivial⟩))
    ·have h8 := aS c9 h8
     obtain ⟨x10, h11, h8⟩ := bind_some h8
     obtain ⟨x12, h13, h8⟩ := bind_some h8
     have h8 := Option.some.inj h8
     subst h8
     refine ⟨[(21, 0, .d (.lit (.bool known_2_4))), (22, 1, .d (.lit (.bool known_2_4))), (23, 2, .d (.sl 5 (out_0_1.map aB))), (24, 3, .d (.lit (.int .i64 k_2_4))), (25, 4, .cp [.lit (.int .i64 x10.Id), .lit (.int .i64 x10.Player), .lit (.int .i64 x10.Week), .lit (.int .i64 x10.Points), .lit (.bool x10.Must)]), (26, 5, .agg (aB x10)), (27, 6, .d (.sl 5 (l_0.map aB))), (28, 7, .d (.lit (.int .i64 i_0_1))), (29, 8, .cp [.lit (.int .i64 x12.Id), .lit (.int .i64 x12.Player), .lit (.int .i64 x12.Week), .lit (.int .i64 x12.Points), .lit (.bool x12.Must)]), (30, 9, .agg (aB x12)), (31, 10, .d (.lit (.bool ((decide (x10 = x12)))))), (32, 11, .d (.lit (.bool ((decide (x10 = x12))))))], ?_, ?_⟩
     · exact ⟨by kernel_rfl, by kernel_rfl, by kernel_rfl, by kernel_rfl, by kernel_rfl, [([], []), ([0], []), ([1], []), ([1], []), ([1, 2, 3], []), ([1, 4], []), ([1], []), ([1], []), ([1, 6, 7], []), ([1, 8], []), ([1, 5, 9], []), ([1, 10], [])], by kernel_rfl, ⟨fun S hS => aI rfl (aQ rfl (aC (v := .d (.lit (.bool known_2_4))) (aA rfl) (aH hS rfl) rfl)),
      fun S hS => aI rfl (aQ rfl (aC (v := .d (.lit (.bool known_2_4))) (aA rfl) (aH hS rfl) rfl)),
      fun S hS => aI rfl (aY rfl rfl (aA rfl) (aP hS rfl) c9 (aC (v := .d (.sl 5 (out_0_1.map aB))) (aA rfl) (aH hS rfl) rfl)),
      fun S hS => aI rfl (aY rfl rfl (aA rfl) (aP hS rfl) c9 (aC (v := .d (.lit (.int .i64 k_2_4))) (aA rfl) (aH hS rfl) rfl)),
      fun S hS => aI rfl (aY rfl rfl (aA rfl) (aP hS rfl) c9 (bO (aA rfl) (aH hS rfl) (aH hS rfl) bR.of (bI aB h11))),
      fun S hS => aI rfl (aY rfl rfl (aA rfl) (aP hS rfl) c9 (fJ (aA rfl) (aH hS rfl) dY (es := (aB x10)) rfl rfl)),
      fun S hS => aI rfl (aY rfl rfl (aA rfl) (aP hS rfl) c9 (aC (v := .d (.sl 5 (l_0.map aB))) (aA rfl) (aH hS rfl) rfl)),
      fun S hS => aI rfl (aY rfl rfl (aA rfl) (aP hS rfl) c9 (aC (v := .d (.lit (.int .i64 i_0_1))) (aA rfl) (aH hS rfl) rfl)),
      fun S hS => aI rfl (aY rfl rfl (aA rfl) (aP hS rfl) c9 (bO (aA rfl) (aH hS rfl) (aH hS rfl) bR.of (bI aB h13))),
      fun S hS => aI rfl (aY rfl rfl (aA rfl) (aP hS rfl) c9 (fJ (aA rfl) (aH hS rfl) dY (es := (aB x12)) rfl rfl)),
      fun S hS => aI rfl (aY rfl rfl (aA rfl) (aP hS rfl) c9 (aIz (a := x10) (b := x12) (aA rfl) (aH hS rfl) (aH hS rfl) rfl rfl Try.eqGuardType42 aBg)),
      fun S hS => aI rfl (aQ rfl (bP (v := .d (.lit (.bool ((decide (x10 = x12)))))) (aA rfl) (aH hS rfl) c9 (aH hS rfl) rfl)), trivial⟩⟩
     · exact dI (aM rfl (aV ⟨rfl, rfl, rfl, rfl, rfl, trivial⟩))
   ·refine tr1 rfl (aJ (v := .d (.lit (.bool b7))) (aA rfl) rfl rfl) ?_
    refine aF ?_
    refine aG ?_
    obtain ⟨x14, h15, h⟩ := bind_some h
    obtain ⟨x16, h17, h⟩ := bind_some h
    refine fN mix 10 [0, 3, 4, 5, 6, 7] [(37, .d (.lit (.int .i64 x14.Id))), (42, .d (.lit (.int .i64 x16.Id)))] ?_ ?_
    ·refine ⟨[(33, 0, .d (.sl 5 (out_0_1.map aB))), (34, 1, .d (.lit (.int .i64 k_2_4))), (35, 2, .cp [.lit (.int .i64 x14.Id), .lit (.int .i64 x14.Player), .lit (.int .i64 x14.Week), .lit (.int .i64 x14.Points), .lit (.bool x14.Must)]), (36, 3, .cp [.lit (.int .i64 x14.Id)]), (37, 4, .d (.lit (.int .i64 x14.Id))), (38, 5, .d (.sl 5 (l_0.map aB))), (39, 6, .d (.lit (.int .i64 i_0_1))), (40, 7, .cp [.lit (.int .i64 x16.Id), .lit (.int .i64 x16.Player), .lit (.int .i64 x16.Week), .lit (.int .i64 x16.Points), .lit (.bool x16.Must)]), (41, 8, .cp [.lit (.int .i64 x16.Id)]), (42, 9, .d (.lit (.int .i64 x16.Id)))], ?_, ?_⟩
     · exact ⟨by kernel_rfl, by kernel_rfl, by kernel_rfl, by kernel_rfl, by kernel_rfl, [([], []), ([], []), ([0, 1], []), ([2], []), ([3], []), ([], []), ([], []), ([5, 6], []), ([7], []), ([8], [])], by kernel_rfl, ⟨fun S hS => aI rfl (aQ rfl (aC (v := .d (.sl 5 (out_0_1.map aB))) (aA rfl) (aH hS rfl) rfl)),
      fun S hS => aI rfl (aQ rfl (aC (v := .d (.lit (.int .i64 k_2_4))) (aA rfl) (aH hS rfl) rfl)),
      fun S hS => aI rfl (aQ rfl (bO (aA rfl) (aH hS rfl) (aH hS rfl) bR.of (bI aB h15))),
      fun S hS => aI rfl (aQ rfl (bZ (aA rfl) (aH hS rfl) kA (es := [.lit (.int .i64 x14.Id)]) rfl)),
      fun S hS => aI rfl (aQ rfl (bX (aA rfl) (aH hS rfl) bH)),
      fun S hS => aI rfl (aQ rfl (aC (v := .d (.sl 5 (l_0.map aB))) (aA rfl) (aH hS rfl) rfl)),
      fun S hS => aI rfl (aQ rfl (aC (v := .d (.lit (.int .i64 i_0_1))) (aA rfl) (aH hS rfl) rfl)),
      fun S hS => aI rfl (aQ rfl (bO (aA rfl) (aH hS rfl) (aH hS rfl) bR.of (bI aB h17))),
      fun S hS => aI rfl (aQ rfl (bZ (aA rfl) (aH hS rfl) kA (es := [.lit (.int .i64 x16.Id)]) rfl)),
      fun S hS => aI rfl (aQ rfl (bX (aA rfl) (aH hS rfl) bH)), trivial⟩⟩
     · exact dI (aM rfl (aM rfl (aV ⟨rfl, rfl, rfl, rfl, rfl, rfl, trivial⟩)))
    ·refine tr1 rfl (bC (aA rfl) rfl rfl rfl) ?_
     refine aF ?_
     refine bJ rfl (fun c18 => ?_) (fun c18 => ?_)
     ·have h := aT c18 h
      refine aE ?_
      refine tr1 rfl (aC (v := .d (.lit (.int .i64 k_2_4))) (aA rfl) rfl rfl) ?_
      refine tr1 rfl (aZ (aA rfl) rfl rfl rfl) ?_
      refine tr1 rfl (aJ (v := .d (.lit (.int .i64 ((w64 (k_2_4 + 1)))))) (aA rfl) rfl rfl) ?_
      refine dG ?_
      refine aE ?_
      refine tr1 rfl (aC (v := .d (.lit (.int .i64 k_2_4))) (aA rfl) rfl rfl) ?_
      refine tr1 rfl (aZ (aA rfl) rfl rfl rfl) ?_
      refine tr1 rfl (aJ (v := .d (.lit (.int .i64 ((w64 (k_2_4 + 1)))))) (aA rfl) rfl rfl) ?_
      refine aF ?_
      exact ⟨(w64 (k_2_4 + 1), b7, w64 (k_2_4 + 1)), h, aX [] rfl rfl (aM rfl (aM rfl (aM rfl (aV ⟨rfl, rfl, rfl, trivial⟩))))⟩
     ·have h := aS c18 h
      refine dS ?_
      refine aE ?_
      refine tr1 rfl (aC (v := .d (.lit (.int .i64 k_2_4))) (aA rfl) rfl rfl) ?_
      refine tr1 rfl (aZ (aA rfl) rfl rfl rfl) ?_
      refine tr1 rfl (aJ (v := .d (.lit (.int .i64 ((w64 (k_2_4 + 1)))))) (aA rfl) rfl rfl) ?_
      refine aF ?_
      exact ⟨(atv_2_4, b7, w64 (k_2_4 + 1)), h, aX [] rfl rfl (aM rfl (aM rfl (aM rfl (aV ⟨rfl, rfl, rfl, trivial⟩))))⟩
  ·have h := aS c6 h
   refine cN ?_
   refine .inl ⟨rfl, ?_⟩
   simp only [jX] at h
   refine aG ?_
   refine aE ?_
   refine tr1 rfl (aC (v := .d (.lit (.bool known_2_4))) (aA rfl) rfl rfl) ?_
   refine tr1 rfl (eM (aA rfl) rfl) ?_
   refine aF ?_
   refine bJ rfl (fun c19 => ?_) (fun c19 => ?_)
   ·have h := aT c19 h
    refine aG ?_
    obtain ⟨x20, h21, h⟩ := bind_some h
    obtain ⟨x22, h23, h⟩ := bind_some h
    refine fN mix 8 [0, 3, 4, 5] [(52, .fl true 5 (([x20]).map aB)), (55, .d (.sl 5 (x22.map aB)))] ?_ ?_
    ·refine ⟨[(48, 0, .d (.sl 5 (l_0.map aB))), (49, 1, .d (.lit (.int .i64 i_0_1))), (50, 2, .cp [.lit (.int .i64 x20.Id), .lit (.int .i64 x20.Player), .lit (.int .i64 x20.Week), .lit (.int .i64 x20.Points), .lit (.bool x20.Must)]), (51, 3, .agg (aB x20)), (52, 4, .fl true 5 (([x20]).map aB)), (53, 5, .d (.sl 5 (out_0_1.map aB))), (54, 6, .d (.lit (.int .i64 atv_2_4))), (55, 7, .d (.sl 5 (x22.map aB)))], ?_, ?_⟩
     · exact ⟨by kernel_rfl, by kernel_rfl, by kernel_rfl, by kernel_rfl, by kernel_rfl, [([], []), ([], []), ([0, 1], []), ([2], []), ([3], []), ([], []), ([], []), ([5, 6], [])], by kernel_rfl, ⟨fun S hS => aI rfl (aQ rfl (aC (v := .d (.sl 5 (l_0.map aB))) (aA rfl) (aH hS rfl) rfl)),
      fun S hS => aI rfl (aQ rfl (aC (v := .d (.lit (.int .i64 i_0_1))) (aA rfl) (aH hS rfl) rfl)),
      fun S hS => aI rfl (aQ rfl (bO (aA rfl) (aH hS rfl) (aH hS rfl) bR.of (bI aB h21))),
      fun S hS => aI rfl (aQ rfl (fJ (aA rfl) (aH hS rfl) dY (es := (aB x20)) rfl rfl)),
      fun S hS => aI rfl (aQ rfl (tF (aA rfl) bR rfl (pa2 (aH hS rfl) pan) (rows := ([x20]).map aB) rfl (cP (f := aB) fun _ => rfl) rfl (by decide))),
      fun S hS => aI rfl (aQ rfl (aC (v := .d (.sl 5 (out_0_1.map aB))) (aA rfl) (aH hS rfl) rfl)),
      fun S hS => aI rfl (aQ rfl (aC (v := .d (.lit (.int .i64 atv_2_4))) (aA rfl) (aH hS rfl) rfl)),
      fun S hS => aI rfl (aQ rfl (kK (aA rfl) bR.of (aH hS rfl) (bo (aH hS rfl)) aDs (nR aB h23))), trivial⟩⟩
     · exact dI (aM rfl (aM rfl (aV ⟨rfl, rfl, rfl, rfl, trivial⟩)))
    ·obtain ⟨x24, h25, h⟩ := bind_some h
     refine tr1 rfl (wR (.d (.weak _ _)) (qM (nn := true) (f := aB) (xs := [x20]) (ys := x22) (aA rfl) bR rfl rfl (fun _ => rfl) h25 rfl)) ?_
     refine tr1 rfl (aJ (v := .d (.sl 5 (x24.map aB))) (aA rfl) rfl rfl) ?_
     refine aF ?_
     refine aE ?_
     refine bW rfl (qO (aA rfl) bR rfl rfl (rows := (([] : List aD)).map aB) rfl (cP (f := aB) fun _ => rfl) rfl (by decide)) ?_
     rintro _ ⟨v26, rfl⟩
     refine tr1 rfl (aC (v := .d (.sl 5 (out_0_1.map aB))) (aA rfl) rfl rfl) ?_
     refine tr1 rfl (aC (v := .d (.lit (.int .i64 atv_2_4))) (aA rfl) rfl rfl) ?_
     obtain ⟨x27, h28, h⟩ := bind_some h
     refine tr1 rfl (kK (aA rfl) bR.of rfl rfl rfl (nR aB h28)) ?_
     obtain ⟨x29, h30, h⟩ := bind_some h
     refine bW rfl (gQ (i := 0) (aA rfl) bR rfl rfl rfl (fun _ => rfl) h30 rfl) ?_
     rintro _ ⟨v31, rfl⟩
     refine tr1 rfl (aC (v := .d (.sl 5 (x24.map aB))) (aA rfl) rfl rfl) ?_
     obtain ⟨x32, h33, h⟩ := bind_some h
     refine bW rfl (gQ (i := 0) (aA rfl) bR rfl rfl rfl (fun _ => rfl) h33 rfl) ?_
     rintro _ ⟨v34, rfl⟩
     refine gN (sY [] [.arr v34 42 5 (x32.map aB)] rfl (aHi (v' := .d (.sl 5 (x32.map aB))) (.d (aFv (cP (f := aB) fun _ => rfl))) (oX _ _))) ?_
     refine tr1 rfl (aJ (v := .d (.sl 5 (x32.map aB))) (aA rfl) rfl rfl) ?_
     refine dG ?_
     simp only [iD] at h
     refine aE ?_
     refine tr1 rfl (aC (v := .d (.lit (.int .i64 i_0_1))) (aA rfl) rfl rfl) ?_
     refine tr1 rfl (aZ (aA rfl) rfl rfl rfl) ?_
     refine tr1 rfl (aJ (v := .d (.lit (.int .i64 ((w64 (i_0_1 + 1)))))) (aA rfl) rfl rfl) ?_
     refine aF ?_
     exact ⟨(x32, w64 (i_0_1 + 1)), h, aX [] rfl rfl (aM rfl (aM rfl (aV ⟨rfl, trivial⟩)))⟩
   ·have h := aS c19 h
    refine dS ?_
    simp only [iD] at h
    refine aE ?_
    refine tr1 rfl (aC (v := .d (.lit (.int .i64 i_0_1))) (aA rfl) rfl rfl) ?_
    refine tr1 rfl (aZ (aA rfl) rfl rfl rfl) ?_
    refine tr1 rfl (aJ (v := .d (.lit (.int .i64 ((w64 (i_0_1 + 1)))))) (aA rfl) rfl rfl) ?_
    refine aF ?_
    exact ⟨(out_0_1, w64 (i_0_1 + 1)), h, aX [] rfl rfl (aM rfl (aM rfl (aV ⟨rfl, trivial⟩)))⟩
 ·have h := aS c3 h
  refine cN ?_
  refine .inl ⟨rfl, ?_⟩
  simp only [oH] at h
  refine aG ?_
  refine aE ?_
  refine tr1 rfl (aC (v := .d (.sl 5 (out_0_1.map aB))) (aA rfl) rfl rfl) ?_
  refine tr1 rfl (aJ (v := .d (.sl 5 (out_0_1.map aB))) (aA rfl) rfl rfl) ?_
  refine aF ?_
  have h := Option.some.inj h
  subst h
  exact bM ⟨rfl, _, .one _, rfl, rfl⟩

theorem aAq (l_0 : aL) (r_1 : aD) (week_2 : Int) {r : Int} (h : mW l_0 r_1 week_2 = some r) : Fn Try.prog 74 [.agg (aN l_0), .agg (aB r_1), .d (.lit (.int .i64 week_2))] (.d (.lit (.int .i64 r))) := by
 unfold mW at h
 refine Fn.of_tr Try.func74 rfl (rs := [.tmp 6]) Try.results74 Try.ntmps74 (Nat.le_of_ble_eq_true rfl) ?_
 refine aG ?_
 refine aE ?_
 refine bW rfl (eN (v := .agg (aN l_0)) (aA rfl) rfl rfl rfl) ?_
 rintro _ ⟨b1, rfl⟩
 refine bW rfl (eN (v := .agg (aB r_1)) (aA rfl) rfl rfl rfl) ?_
 rintro _ ⟨b2, rfl⟩
 refine tr1 rfl (aJ (v := .d (.lit (.int .i64 0))) (aA rfl) rfl rfl) ?_
 refine aF ?_
 refine aG ?_
 refine aE ?_
 refine tr1 rfl (aJ (v := .d (.lit (.int .i64 0))) (aA rfl) rfl rfl) ?_
 refine aF ?_
 refine aG ?_
 refine aG ?_
 refine aE ?_
 refine tr1 rfl (aU (aA rfl) rfl lI) ?_
 refine tr1 rfl (aW (aA rfl) rfl (i := 1) rfl rfl bH) ?_
 refine tr1 rfl (aZ (aA rfl) rfl rfl rfl) ?_
 refine tr1 rfl (aJ (v := .d (.lit (.int .i64 ((w64 (r_1.Week + 1)))))) (aA rfl) rfl rfl) ?_
 refine aF ?_
 refine bQ ?_
 refine cG [2, 3, 4] (fun (s3 : Int × Int) => [(7, .d (.lit (.int .i64 s3.1))), (8, .d (.lit (.int .i64 s3.2)))]) (fun (s3 : Int × Int) => [.box b1 0 (aN l_0), .box b2 0 (aB r_1)]) (fun (k : Nat) (s3 : Int × Int) => iE week_2 l_0 r_1 k s3.1 s3.2) (fun _ => rfl) (0, w64 (r_1.Week + 1)) h (aX [0, 1] rfl rfl (aM rfl (aM rfl (aV ⟨rfl, rfl, rfl, trivial⟩)))) ?_
 rintro k4 ⟨n_0_3, w_0_3⟩ h
 simp only [iE] at h
 refine aG ?_
 refine aG ?_
 refine aE ?_
 refine tr1 rfl (aC (v := .d (.lit (.int .i64 w_0_3))) (aA rfl) rfl rfl) ?_
 refine tr1 rfl (aC (v := .d (.lit (.int .i64 week_2))) (aA rfl) rfl rfl) ?_
 refine tr1 rfl (bC (aA rfl) rfl rfl rfl) ?_
 refine aF ?_
 refine bJ rfl (fun c5 => ?_) (fun c5 => ?_)
 ·have h := aT c5 h
  refine bG ?_
  refine aG ?_
  refine bQ ?_
  refine aG ?_
  refine aE ?_
  refine tr1 rfl (aU (aA rfl) rfl kG) ?_
  refine tr1 rfl (aW (aA rfl) rfl (i := 0) rfl rfl jA) ?_
  refine tr1 rfl (aU (aA rfl) rfl pA) ?_
  refine tr1 rfl (aW (aA rfl) rfl (i := 1) rfl rfl bH) ?_
  refine tr1 rfl (aC (v := .d (.lit (.int .i64 w_0_3))) (aA rfl) rfl rfl) ?_
  obtain ⟨r6, h7, h⟩ := bind_some h
  refine tr1 rfl (cC (aA rfl) (.func _ _ Try.call25) rfl rfl (BVs.refl _ _) (oR _ _ _ h7) rfl) ?_
  refine tr1 rfl (eM (aA rfl) rfl) ?_
  refine aF ?_
  refine bJ rfl (fun c8 => ?_) (fun c8 => ?_)
  ·have h := aT c8 h
   refine aE ?_
   refine tr1 rfl (aC (v := .d (.lit (.int .i64 n_0_3))) (aA rfl) rfl rfl) ?_
   refine tr1 rfl (aZ (aA rfl) rfl rfl rfl) ?_
   refine tr1 rfl (aJ (v := .d (.lit (.int .i64 ((w64 (n_0_3 + 1)))))) (aA rfl) rfl rfl) ?_
   refine dG ?_
   refine aE ?_
   refine tr1 rfl (aC (v := .d (.lit (.int .i64 w_0_3))) (aA rfl) rfl rfl) ?_
   refine tr1 rfl (aZ (aA rfl) rfl rfl rfl) ?_
   refine tr1 rfl (aJ (v := .d (.lit (.int .i64 ((w64 (w_0_3 + 1)))))) (aA rfl) rfl rfl) ?_
   refine aF ?_
   exact ⟨(w64 (n_0_3 + 1), w64 (w_0_3 + 1)), h, aX [0, 1] rfl rfl (aM rfl (aM rfl (aV ⟨rfl, rfl, rfl, trivial⟩)))⟩
  ·have h := aS c8 h
   refine dS ?_
   refine aE ?_
   refine tr1 rfl (aC (v := .d (.lit (.int .i64 w_0_3))) (aA rfl) rfl rfl) ?_
   refine tr1 rfl (aZ (aA rfl) rfl rfl rfl) ?_
   refine tr1 rfl (aJ (v := .d (.lit (.int .i64 ((w64 (w_0_3 + 1)))))) (aA rfl) rfl rfl) ?_
   refine aF ?_
   exact ⟨(n_0_3, w64 (w_0_3 + 1)), h, aX [0, 1] rfl rfl (aM rfl (aM rfl (aV ⟨rfl, rfl, rfl, trivial⟩)))⟩
 ·have h := aS c5 h
  refine cN ?_
  refine .inl ⟨rfl, ?_⟩
  simp only [qY] at h
  refine aG ?_
  refine aE ?_
  refine tr1 rfl (aC (v := .d (.lit (.int .i64 n_0_3))) (aA rfl) rfl rfl) ?_
  refine tr1 rfl (aJ (v := .d (.lit (.int .i64 n_0_3))) (aA rfl) rfl rfl) ?_
  refine aF ?_
  have h := Option.some.inj h
  subst h
  refine cR (cE (cM (l := [6]) ⟨rfl, trivial⟩)) ?_
  exact bM ⟨rfl, _, .one _, rfl, rfl⟩

theorem mA (l_0 : aL) (player_1 : Int) (week_2 : Int) {r : (List aD)} (h : gO l_0 player_1 week_2 = some r) : Fn Try.prog 39 [.agg (aN l_0), .d (.lit (.int .i64 player_1)), .d (.lit (.int .i64 week_2))] (.d (.sl 5 (r.map aB))) := by
 unfold gO at h
 refine Fn.of_tr Try.func39 rfl (rs := [.tmp 6]) Try.results39 Try.ntmps39 (Nat.le_of_ble_eq_true rfl) ?_
 refine aG ?_
 refine aE ?_
 refine bW rfl (eN (v := .agg (aN l_0)) (aA rfl) rfl rfl rfl) ?_
 rintro _ ⟨b1, rfl⟩
 refine tr1 rfl (qB 5 (aA rfl)) ?_
 refine aF ?_
 refine aG ?_
 refine aE ?_
 refine tr1 rfl (jE 42 5 (.inl rfl) (aA rfl)) ?_
 refine aF ?_
 refine aG ?_
 refine aE ?_
 refine tr1 rfl (aU (aA rfl) rfl eH) ?_
 refine tr1 rfl (aW (aA rfl) rfl (i := 0) rfl rfl iZ) ?_
 obtain ⟨r3, h4, h⟩ := bind_some h
 refine tr1 rfl (iT (aA rfl) (.func _ _ Try.call64) rfl rfl (wJ _ h4)) ?_
 refine tr1 rfl (aJ (v := .d (.sl 5 (r3.map aB))) (aA rfl) rfl rfl) ?_
 refine aF ?_
 refine aG ?_
 refine aG ?_
 refine aE ?_
 refine tr1 rfl (aJ (v := .d (.lit (.int .i64 0))) (aA rfl) rfl rfl) ?_
 refine aF ?_
 refine bQ ?_
 refine cG [1, 2, 3, 8] (fun (s5 : Int × (List aD) × Value) => [(7, .d (.lit s5.2.2)), (9, .d (.lit (.int .i64 s5.1)))]) (fun (s5 : Int × (List aD) × Value) => [.box b1 0 (aN l_0), .arr s5.2.2 42 5 (s5.2.1.map aB)]) (fun (k : Nat) (s5 : Int × (List aD) × Value) => eR player_1 week_2 r3 l_0 k s5.1 s5.2.1) (fun _ => rfl) (0, ([] : List aD), (.slice none 0 0)) h (aX [0, 1] rfl rfl (aM rfl (aM rfl (aV ⟨rfl, rfl, rfl, rfl, trivial⟩)))) ?_
 rintro k7 ⟨i_0_5, out_0_5, w6⟩ h
 simp only [eR] at h
 refine aG ?_
 refine aG ?_
 refine aE ?_
 refine tr1 rfl (aC (v := .d (.lit (.int .i64 i_0_5))) (aA rfl) rfl rfl) ?_
 refine tr1 rfl (aC (v := .d (.sl 5 (r3.map aB))) (aA rfl) rfl rfl) ?_
 refine tr1 rfl (cX (aA rfl) rfl bR.of) ?_
 refine tr1 rfl (bC (aA rfl) rfl rfl rfl) ?_
 refine aF ?_
 refine bJ rfl (fun c8 => ?_) (fun c8 => ?_)
 ·have h := aT c8 h
  refine bG ?_
  refine aG ?_
  refine bQ ?_
  refine aG ?_
  refine aE ?_
  refine tr1 rfl (aC (v := .d (.sl 5 (r3.map aB))) (aA rfl) rfl rfl) ?_
  refine tr1 rfl (aC (v := .d (.lit (.int .i64 i_0_5))) (aA rfl) rfl rfl) ?_
  obtain ⟨x9, h10, h⟩ := bind_some h
  refine tr1 rfl (bO (aA rfl) rfl rfl bR.of (bI aB h10)) ?_
  refine tr1 rfl (fJ (aA rfl) rfl dY (es := (aB x9)) rfl rfl) ?_
  refine bW rfl (fV (zs := [.lit (.int .i64 0), .lit (.int .i64 0), .lit (.int .i64 0), .lit (.int .i64 0), .lit (.bool false)]) (aA rfl) Try.zeroValue42 rfl rfl) ?_
  rintro _ ⟨b11, rfl⟩
  refine tr1 rfl (cD (i := 2) rfl rfl rfl rfl rfl Try.sizeOf42 rfl (aA rfl) (Nat.le_of_ble_eq_true rfl) (ds' := (aB x9)) rfl) ?_
  refine aF ?_
  refine aG ?_
  refine aE ?_
  refine tr1 rfl (aU (aA rfl) rfl pA) ?_
  refine tr1 rfl (aW (aA rfl) rfl (i := 2) rfl rfl bH) ?_
  refine tr1 rfl (aC (v := .d (.lit (.int .i64 player_1))) (aA rfl) rfl rfl) ?_
  refine tr1 rfl (bC (aA rfl) rfl rfl rfl) ?_
  refine tr1 rfl (aC (v := .d (.lit (.bool ((decide (x9.Player = player_1)))))) (aA rfl) rfl rfl) ?_
  obtain ⟨b12, h13, h⟩ := bind_some h
  refine cA 5 [1, 2, 3, 7, 8, 9, 10] 33 b12 ?_ ?_
  ·refine bF (decide (x9.Player = player_1)) (fun c28 => ?_) (fun c28 => ?_)
   ·have h13 := aT c28 h13
    refine aO rfl rfl (aA rfl) rfl c28 (aC (v := .d (.lit (.int .i64 week_2))) (aA rfl) rfl rfl) ?_
    refine aO rfl rfl (aA rfl) rfl c28 (aU (aA rfl) rfl lI) ?_
    refine aO rfl rfl (aA rfl) rfl c28 (aW (aA rfl) rfl (i := 2) rfl rfl bH) ?_
    refine aO rfl rfl (aA rfl) rfl c28 (bC (aA rfl) rfl rfl rfl) ?_
    refine tr1 rfl (bN (v := .d (.lit (.bool ((decide (x9.Week ≤ week_2)))))) (aA rfl) rfl c28 rfl rfl) ?_
    have h13 := Option.some.inj h13
    subst h13
    refine aF (bB rfl ⟨rfl, rfl, rfl, rfl, rfl, rfl, rfl, trivial⟩ rfl)
   ·have h13 := aS c28 h13
    refine aR rfl rfl (aA rfl) rfl (aA rfl) rfl c28 ?_
    refine aR rfl rfl (aA rfl) rfl (aA rfl) rfl c28 ?_
    refine aR rfl rfl (aA rfl) rfl (aA rfl) rfl c28 ?_
    refine aR rfl rfl (aA rfl) rfl (aA rfl) rfl c28 ?_
    refine tr1 rfl (bP (v := .d (.lit (.bool false))) (aA rfl) rfl c28 rfl rfl) ?_
    have h13 := Option.some.inj h13
    subst h13
    refine aF (bB rfl ⟨rfl, rfl, rfl, rfl, rfl, rfl, rfl, trivial⟩ rfl)
  ·refine tr1 rfl (aC (v := .d (.lit (.bool b12))) (aA rfl) rfl rfl) ?_
   obtain ⟨b14, h15, h⟩ := bind_some h
   refine cA 6 [1, 2, 3, 7, 8, 9, 10] 40 b14 ?_ ?_
   ·refine bF (b12) (fun c25 => ?_) (fun c25 => ?_)
    ·have h15 := aT c25 h15
     refine aO rfl rfl (aA rfl) rfl c25 (cH (aA rfl) rfl (i := 0) rfl dW (es := (aN l_0)) rfl rfl) ?_
     refine aO rfl rfl (aA rfl) rfl c25 (cH (aA rfl) rfl (i := 2) rfl dY (es := (aB x9)) rfl rfl) ?_
     refine aO rfl rfl (aA rfl) rfl c25 (aC (v := .d (.lit (.int .i64 week_2))) (aA rfl) rfl rfl) ?_
     obtain ⟨r26, h27, h15⟩ := bind_some h15
     refine aO rfl rfl (aA rfl) rfl c25 (cC (aA rfl) (.func _ _ Try.call74) rfl rfl (BVs.refl _ _) (aAq _ _ _ h27) rfl) ?_
     refine aO rfl rfl (aA rfl) rfl c25 (bC (aA rfl) rfl rfl rfl) ?_
     refine tr1 rfl (bN (v := .d (.lit (.bool ((decide (r26 < 52)))))) (aA rfl) rfl c25 rfl rfl) ?_
     have h15 := Option.some.inj h15
     subst h15
     refine aF (bB rfl ⟨rfl, rfl, rfl, rfl, rfl, rfl, rfl, trivial⟩ rfl)
    ·have h15 := aS c25 h15
     refine aR rfl rfl (aA rfl) rfl (aA rfl) rfl c25 ?_
     refine aR rfl rfl (aA rfl) rfl (aA rfl) rfl c25 ?_
     refine aR rfl rfl (aA rfl) rfl (aA rfl) rfl c25 ?_
     refine aR rfl rfl (aA rfl) rfl (aA rfl) rfl c25 ?_
     refine aR rfl rfl (aA rfl) rfl (aA rfl) rfl c25 ?_
     refine tr1 rfl (bP (v := .d (.lit (.bool false))) (aA rfl) rfl c25 rfl rfl) ?_
     have h15 := Option.some.inj h15
     subst h15
     refine aF (bB rfl ⟨rfl, rfl, rfl, rfl, rfl, rfl, rfl, trivial⟩ rfl)
   ·refine tr1 rfl (aC (v := .d (.lit (.bool b14))) (aA rfl) rfl rfl) ?_
    obtain ⟨b16, h17, h⟩ := bind_some h
    refine cA 8 [1, 2, 3, 7, 8, 9, 10] 49 b16 ?_ ?_
    ·refine bF (b14) (fun c22 => ?_) (fun c22 => ?_)
     ·have h17 := aT c22 h17
      refine aO rfl rfl (aA rfl) rfl c22 (aU (aA rfl) rfl lH) ?_
      refine aO rfl rfl (aA rfl) rfl c22 (aW (aA rfl) rfl (i := 0) rfl rfl jA) ?_
      refine aO rfl rfl (aA rfl) rfl c22 (aC (v := .d (.lit (.int .i64 player_1))) (aA rfl) rfl rfl) ?_
      refine aO rfl rfl (aA rfl) rfl c22 (aU (aA rfl) rfl lI) ?_
      refine aO rfl rfl (aA rfl) rfl c22 (aW (aA rfl) rfl (i := 2) rfl rfl bH) ?_
      obtain ⟨r23, h24, h17⟩ := bind_some h17
      refine aO rfl rfl (aA rfl) rfl c22 (cC (aA rfl) (.func _ _ Try.call25) rfl rfl (BVs.refl _ _) (oR _ _ _ h24) rfl) ?_
      refine aO rfl rfl (aA rfl) rfl c22 (eM (aA rfl) rfl) ?_
      refine tr1 rfl (bN (v := .d (.lit (.bool (!r23)))) (aA rfl) rfl c22 rfl rfl) ?_
      have h17 := Option.some.inj h17
      subst h17
      refine aF (bB rfl ⟨rfl, rfl, rfl, rfl, rfl, rfl, rfl, trivial⟩ rfl)
     ·have h17 := aS c22 h17
      refine aR rfl rfl (aA rfl) rfl (aA rfl) rfl c22 ?_
      refine aR rfl rfl (aA rfl) rfl (aA rfl) rfl c22 ?_
      refine aR rfl rfl (aA rfl) rfl (aA rfl) rfl c22 ?_
      refine aR rfl rfl (aA rfl) rfl (aA rfl) rfl c22 ?_
      refine aR rfl rfl (aA rfl) rfl (aA rfl) rfl c22 ?_
      refine aR rfl rfl (aA rfl) rfl (aA rfl) rfl c22 ?_
      refine aR rfl rfl (aA rfl) rfl (aA rfl) rfl c22 ?_
      refine tr1 rfl (bP (v := .d (.lit (.bool false))) (aA rfl) rfl c22 rfl rfl) ?_
      have h17 := Option.some.inj h17
      subst h17
      refine aF (bB rfl ⟨rfl, rfl, rfl, rfl, rfl, rfl, rfl, trivial⟩ rfl)
    ·refine aF ?_
     refine bJ rfl (fun c18 => ?_) (fun c18 => ?_)
     ·have h := aT c18 h
      refine aE ?_
      refine tr1 rfl (aC (v := .d (.lit w6)) (aA rfl) rfl rfl) ?_
      refine tr1 rfl (cH (aA rfl) rfl (i := 2) rfl dY (es := (aB x9)) rfl rfl) ?_
      refine tr1 rfl (iL (aA rfl) bR rfl rfl (rows := ([x9]).map aB) rfl (cP (f := aB) fun _ => rfl) rfl (by decide)) ?_
      obtain ⟨x19, h20, h⟩ := bind_some h
      refine bW rfl (gQ (i := 1) (aA rfl) bR rfl rfl rfl (fun _ => rfl) h20 rfl) ?_
      rintro _ ⟨v21, rfl⟩
      refine tr1 rfl (aJ (v := .d (.lit v21)) (aA rfl) rfl rfl) ?_
      refine dG ?_
      refine aE ?_
      refine tr1 rfl (aC (v := .d (.lit (.int .i64 i_0_5))) (aA rfl) rfl rfl) ?_
      refine tr1 rfl (aZ (aA rfl) rfl rfl rfl) ?_
      refine tr1 rfl (aJ (v := .d (.lit (.int .i64 ((w64 (i_0_5 + 1)))))) (aA rfl) rfl rfl) ?_
      refine aF ?_
      exact ⟨(w64 (i_0_5 + 1), x19, v21), h, aX [0, 1] rfl rfl (aM rfl (aM rfl (aV ⟨rfl, rfl, rfl, rfl, trivial⟩)))⟩
     ·have h := aS c18 h
      refine dS ?_
      refine aE ?_
      refine tr1 rfl (aC (v := .d (.lit (.int .i64 i_0_5))) (aA rfl) rfl rfl) ?_
      refine tr1 rfl (aZ (aA rfl) rfl rfl rfl) ?_
      refine tr1 rfl (aJ (v := .d (.lit (.int .i64 ((w64 (i_0_5 + 1)))))) (aA rfl) rfl rfl) ?_
      refine aF ?_
      exact ⟨(w64 (i_0_5 + 1), out_0_5, w6), h, aX [0, 1] rfl rfl (aM rfl (aM rfl (aV ⟨rfl, rfl, rfl, rfl, trivial⟩)))⟩
 ·have h := aS c8 h
  refine cN ?_
  refine .inl ⟨rfl, ?_⟩
  simp only [oG] at h
  refine aG ?_
  refine aE ?_
  refine tr1 rfl (aC (v := .d (.lit w6)) (aA rfl) rfl rfl) ?_
  refine tr1 rfl (aJ (v := .d (.lit w6)) (aA rfl) rfl rfl) ?_
  refine aF ?_
  have h := Option.some.inj h
  subst h
  refine cR (cE (gM (k := 6) (v := .d (.sl 5 (out_0_5.map aB))) (.d (hO 1 rfl (cP (f := aB) fun _ => rfl))) (uL))) ?_
  exact bM ⟨rfl, _, .one _, rfl, rfl⟩

theorem xT (l_0 : aL) (player_1 : Int) (week_2 : Int) {r : Bool} (h : mK l_0 player_1 week_2 = some r) : Fn Try.prog 28 [.agg (aN l_0), .d (.lit (.int .i64 player_1)), .d (.lit (.int .i64 week_2))] (.d (.lit (.bool r))) := by
 unfold mK at h
 refine Fn.of_tr Try.func28 rfl (rs := [.tmp 6]) Try.results28 Try.ntmps28 (Nat.le_of_ble_eq_true rfl) ?_
 refine aG ?_
 refine aE ?_
 refine bW rfl (eN (v := .agg (aN l_0)) (aA rfl) rfl rfl rfl) ?_
 rintro _ ⟨b1, rfl⟩
 refine tr1 rfl (aJ (v := .d (.lit (.bool false))) (aA rfl) rfl rfl) ?_
 refine aF ?_
 refine aG ?_
 refine aE ?_
 refine tr1 rfl (aU (aA rfl) rfl lH) ?_
 refine tr1 rfl (aW (aA rfl) rfl (i := 0) rfl rfl jA) ?_
 refine tr1 rfl (aC (v := .d (.lit (.int .i64 player_1))) (aA rfl) rfl rfl) ?_
 refine tr1 rfl (aC (v := .d (.lit (.int .i64 week_2))) (aA rfl) rfl rfl) ?_
 obtain ⟨r2, h3, h⟩ := bind_some h
 refine tr1 rfl (cC (aA rfl) (.func _ _ Try.call25) rfl rfl (BVs.refl _ _) (oR _ _ _ h3) rfl) ?_
 refine tr1 rfl (eM (aA rfl) rfl) ?_
 refine tr1 rfl (aC (v := .d (.lit (.bool (!r2)))) (aA rfl) rfl rfl) ?_
 obtain ⟨b4, h5, h⟩ := bind_some h
 refine cA 7 [] 20 b4 ?_ ?_
 ·refine bF (!r2) (fun c6 => ?_) (fun c6 => ?_)
  ·have h5 := aT c6 h5
   refine aO rfl rfl (aA rfl) rfl c6 (cH (aA rfl) rfl (i := 0) rfl dW (es := (aN l_0)) rfl rfl) ?_
   refine aO rfl rfl (aA rfl) rfl c6 (aC (v := .d (.lit (.int .i64 player_1))) (aA rfl) rfl rfl) ?_
   refine aO rfl rfl (aA rfl) rfl c6 (aC (v := .d (.lit (.int .i64 week_2))) (aA rfl) rfl rfl) ?_
   obtain ⟨r7, h8, h5⟩ := bind_some h5
   refine aO rfl rfl (aA rfl) rfl c6 (iT (aA rfl) (.func _ _ Try.call39) rfl rfl (mA _ _ _ h8)) ?_
   refine aO rfl rfl (aA rfl) rfl c6 (cX (aA rfl) rfl bR.of) ?_
   refine aO rfl rfl (aA rfl) rfl c6 (bC (aA rfl) rfl rfl rfl) ?_
   refine tr1 rfl (bN (v := .d (.lit (.bool ((decide (0 < (r7.length : Int))))))) (aA rfl) rfl c6 rfl rfl) ?_
   have h5 := Option.some.inj h5
   subst h5
   refine aF (bB rfl trivial rfl)
  ·have h5 := aS c6 h5
   refine aR rfl rfl (aA rfl) rfl (aA rfl) rfl c6 ?_
   refine aR rfl rfl (aA rfl) rfl (aA rfl) rfl c6 ?_
   refine aR rfl rfl (aA rfl) rfl (aA rfl) rfl c6 ?_
   refine aR rfl rfl (aA rfl) rfl (aA rfl) rfl c6 ?_
   refine aR rfl rfl (aA rfl) rfl (aA rfl) rfl c6 ?_
   refine aR rfl rfl (aA rfl) rfl (aA rfl) rfl c6 ?_
   refine tr1 rfl (bP (v := .d (.lit (.bool false))) (aA rfl) rfl c6 rfl rfl) ?_
   have h5 := Option.some.inj h5
   subst h5
   refine aF (bB rfl trivial rfl)
 ·refine tr1 rfl (aJ (v := .d (.lit (.bool b4))) (aA rfl) rfl rfl) ?_
  refine aF ?_
  have h := Option.some.inj h
  subst h
  refine cR (cE (cM (l := [6]) ⟨rfl, trivial⟩)) ?_
  exact bM ⟨rfl, _, .one _, rfl, rfl⟩

end Go.Am
