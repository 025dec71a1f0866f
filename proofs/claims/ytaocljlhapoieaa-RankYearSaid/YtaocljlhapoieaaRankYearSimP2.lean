/- The functions compute what the shallow ones say: printed by program. -/
import Derived.Test.YtaocljlhapoieaaRankYearSimP1
namespace Go.Am
open Go.Proofs
set_option maxRecDepth 100000
set_option maxHeartbeats 4000000

theorem qY (l_0 : aM) (player_1 : Int) (week_2 : Int) {r : (Option bT) × Int} (h : nK l_0 player_1 week_2 = some r) : fM Try.prog 44 [.agg (aV l_0), .d (.lit (.int .i64 player_1)), .d (.lit (.int .i64 week_2))] [] (fun r' o' => ∃ (b : Nat) (w0 : Value), r' = .tup [(match r.1 with | none => .d (.lit (.pointer none)) | some _ => .bp b 0 0), .d (.lit (.int .i64 r.2))] ∧ o' = (match r.1 with | none => [] | some x => [.box b 0 [.lit (.int .i64 x.Ledger.Players), .lit (.int .i64 x.Ledger.Counts), .lit w0, .sl 3 (x.Ledger.Bans.map aI), .sl 3 (x.Ledger.Frozen.map aI)], .arr w0 42 5 (x.Ledger.Reports.map aC)])) := by
 unfold nK at h
 refine mF Try.func44 rfl (rs := [.tmp 6, .tmp 7]) Try.results44 Try.ntmps44 (Nat.le_of_ble_eq_true rfl) ?_
 refine aG ?_
 refine aE ?_
 refine bR rfl (fJ (v := .agg (aV l_0)) (aA rfl) rfl rfl rfl) ?_
 rintro _ ⟨b1, rfl⟩
 refine tr1 rfl (aJ (v := pZ cF (none : Option bT)) (aA rfl) rfl rfl) ?_
 refine tr1 rfl (aJ (v := .d (.lit (.int .i64 0))) (aA rfl) rfl rfl) ?_
 refine aF ?_
 refine aG ?_
 refine aE ?_
 refine tr1 rfl (dE (aA rfl) rfl (i := 0) rfl gJ (es := (aV l_0)) rfl rfl) ?_
 obtain ⟨r2, h3, h⟩ := bind_some h
 refine bR rfl (dM (passed := []) (aA rfl) rfl (.func _ _ Try.call80) rfl rfl (aCy _ h3)) ?_
 rintro _ ⟨_, _, ⟨b5, w6, rfl, rfl⟩, rfl⟩
 obtain ⟨_ | y4, e7⟩ := r2
 ·have h := vE h
  refine fK (aW [0] rfl rfl (le_refl _)) ?_
  refine tr1 rfl (aD (v := .tup [.d (.lit (.pointer none)), .d (.lit (.int .i64 e7))]) (aA rfl) rfl rfl) ?_
  refine tr1 rfl (cV (aA rfl) rfl rfl) ?_
  refine tr1 rfl (cV (aA rfl) rfl rfl) ?_
  refine tr1 rfl (aJ (v := .d (.lit (.pointer none))) (aA rfl) rfl rfl) ?_
  refine tr1 rfl (aJ (v := .d (.lit (.int .i64 e7))) (aA rfl) rfl rfl) ?_
  refine aF ?_
  refine aG ?_
  refine aG ?_
  refine aE ?_
  refine tr1 rfl (aD (v := .d (.lit (.int .i64 e7))) (aA rfl) rfl rfl) ?_
  refine tr1 rfl (bC (aA rfl) rfl rfl rfl) ?_
  refine aF ?_
  refine bJ rfl (fun c8 => ?_) (fun c8 => ?_)
  ·have h := aS c8 h
   refine aG ?_
   refine aE ?_
   refine tr1 rfl (aD (v := .d (.lit (.int .i64 e7))) (aA rfl) rfl rfl) ?_
   refine tr1 rfl (aJ (v := pZ cF (none : Option bT)) (aA rfl) rfl rfl) ?_
   refine tr1 rfl (aJ (v := .d (.lit (.int .i64 e7))) (aA rfl) rfl rfl) ?_
   refine aF ?_
   have h := Option.some.inj h
   subst h
   exact bM ⟨rfl, _, [], [.box b1 0 (aV l_0)], _, .two (.tmp 6 (v := pZ cF (none : Option bT)) rfl) (.tmp 7 (v := .d (.lit (.int .i64 e7))) rfl), .refl _, .same _, 0, undef, rfl, rfl⟩
  ·have h := aR c8 h
   refine bI ?_
   refine aG ?_
   refine aG ?_
   refine aE ?_
   refine tr1 rfl (aD (v := .d (.lit (.int .i64 player_1))) (aA rfl) rfl rfl) ?_
   refine tr1 rfl (aQ (aA rfl) rfl jJ) ?_
   refine tr1 rfl (aT (aA rfl) rfl (i := 0) rfl rfl bF) ?_
   refine tr1 rfl (aZ (aA rfl) rfl rfl rfl) ?_
   obtain ⟨r9, h10, h⟩ := bind_some h
   refine tr1 rfl (bZ (aA rfl) (.func _ _ Try.call47) rfl rfl (BVs.refl _ _) (eQ _ _ _ h10) rfl) ?_
   refine tr1 rfl (eZ (aA rfl) rfl) ?_
   refine tr1 rfl (aD (v := .d (.lit (.bool (!r9)))) (aA rfl) rfl rfl) ?_
   obtain ⟨b11, h12, h⟩ := bind_some h
   refine bW 4 [8] 28 b11 ?_ ?_
   ·refine bG (!r9) (fun c14 => ?_) (fun c14 => ?_)
    ·have h12 := aS c14 h12
     refine aO rfl rfl (aA rfl) rfl (aA rfl) rfl c14 ?_
     refine aO rfl rfl (aA rfl) rfl (aA rfl) rfl c14 ?_
     refine aO rfl rfl (aA rfl) rfl (aA rfl) rfl c14 ?_
     refine tr1 rfl (bO (v := .d (.lit (.bool true))) (aA rfl) rfl c14 rfl rfl) ?_
     have h12 := Option.some.inj h12
     subst h12
     refine aF (aY rfl ⟨rfl, trivial⟩ rfl)
    ·have h12 := aR c14 h12
     refine aL rfl rfl (aA rfl) rfl c14 (aD (v := .d (.lit (.int .i64 week_2))) (aA rfl) rfl rfl) ?_
     obtain ⟨r15, h16, h12⟩ := bind_some h12
     refine aL rfl rfl (aA rfl) rfl c14 (bZ (aA rfl) (.func _ _ Try.call47) rfl rfl (BVs.refl _ _) (eQ _ _ _ h16) rfl) ?_
     refine aL rfl rfl (aA rfl) rfl c14 (eZ (aA rfl) rfl) ?_
     refine tr1 rfl (bN (v := .d (.lit (.bool (!r15)))) (aA rfl) rfl c14 rfl rfl) ?_
     have h12 := Option.some.inj h12
     subst h12
     refine aF (aY rfl ⟨rfl, trivial⟩ rfl)
   ·refine aF ?_
    refine bJ rfl (fun c13 => ?_) (fun c13 => ?_)
    ·have h := aS c13 h
     refine aG ?_
     refine aE ?_
     refine tr1 rfl (aJ (v := pZ cF (none : Option bT)) (aA rfl) rfl rfl) ?_
     refine tr1 rfl (aJ (v := .d (.lit (.int .i64 1))) (aA rfl) rfl rfl) ?_
     refine aF ?_
     have h := Option.some.inj h
     subst h
     exact bM ⟨rfl, _, [], [.box b1 0 (aV l_0)], _, .two (.tmp 6 (v := pZ cF (none : Option bT)) rfl) (.tmp 7 (v := .d (.lit (.int .i64 1))) rfl), .refl _, .same _, 0, undef, rfl, rfl⟩
    ·have h := aR c13 h
     refine bI ?_
     refine aG ?_
     refine aE ?_
     refine tr1 rfl (aD (v := .d (.lit (.pointer none))) (aA rfl) rfl rfl) ?_
     refine tr1 rfl (aJ (v := .d (.lit (.pointer none))) (aA rfl) rfl rfl) ?_
     refine tr1 rfl (aJ (v := .d (.lit (.int .i64 0))) (aA rfl) rfl rfl) ?_
     refine aF ?_
     have h := Option.some.inj h
     subst h
     exact bM ⟨rfl, _, [], [.box b1 0 (aV l_0)], _, .two (.tmp 6 (v := .d (.lit (.pointer none))) rfl) (.tmp 7 (v := .d (.lit (.int .i64 0))) rfl), .refl _, .same _, 0, undef, rfl, rfl⟩
 ·have h := vF h
  refine fK (aW [0, 1, 2] rfl rfl (le_refl _)) ?_
  refine tr1 rfl (aD (v := .tup [.bp b5 0 0, .d (.lit (.int .i64 e7))]) (aA rfl) rfl rfl) ?_
  refine tr1 rfl (cV (aA rfl) rfl rfl) ?_
  refine tr1 rfl (cV (aA rfl) rfl rfl) ?_
  refine tr1 rfl (aJ (v := .bp b5 0 0) (aA rfl) rfl rfl) ?_
  refine tr1 rfl (aJ (v := .d (.lit (.int .i64 e7))) (aA rfl) rfl rfl) ?_
  refine aF ?_
  refine aG ?_
  refine aG ?_
  refine aE ?_
  refine tr1 rfl (aD (v := .d (.lit (.int .i64 e7))) (aA rfl) rfl rfl) ?_
  refine tr1 rfl (bC (aA rfl) rfl rfl rfl) ?_
  refine aF ?_
  refine bJ rfl (fun c17 => ?_) (fun c17 => ?_)
  ·have h := aS c17 h
   refine aG ?_
   refine aE ?_
   refine tr1 rfl (aD (v := .d (.lit (.int .i64 e7))) (aA rfl) rfl rfl) ?_
   refine tr1 rfl (aJ (v := pZ cF (none : Option bT)) (aA rfl) rfl rfl) ?_
   refine tr1 rfl (aJ (v := .d (.lit (.int .i64 e7))) (aA rfl) rfl rfl) ?_
   refine aF ?_
   have h := Option.some.inj h
   subst h
   exact bM ⟨rfl, _, [], [.box b5 0 [.lit (.int .i64 y4.Ledger.Players), .lit (.int .i64 y4.Ledger.Counts), .lit w6, .sl 3 (y4.Ledger.Bans.map aI), .sl 3 (y4.Ledger.Frozen.map aI)], .arr w6 42 5 (y4.Ledger.Reports.map aC), .box b1 0 (aV l_0)], _, .two (.tmp 6 (v := pZ cF (none : Option bT)) rfl) (.tmp 7 (v := .d (.lit (.int .i64 e7))) rfl), .refl _, .same _, 0, undef, rfl, rfl⟩
  ·have h := aR c17 h
   refine bI ?_
   refine aG ?_
   refine aG ?_
   refine aE ?_
   refine tr1 rfl (aD (v := .d (.lit (.int .i64 player_1))) (aA rfl) rfl rfl) ?_
   refine tr1 rfl (aQ (aA rfl) rfl jJ) ?_
   refine tr1 rfl (aT (aA rfl) rfl (i := 2) rfl rfl bF) ?_
   refine tr1 rfl (aZ (aA rfl) rfl rfl rfl) ?_
   obtain ⟨r18, h19, h⟩ := bind_some h
   refine tr1 rfl (bZ (aA rfl) (.func _ _ Try.call47) rfl rfl (BVs.refl _ _) (eQ _ _ _ h19) rfl) ?_
   refine tr1 rfl (eZ (aA rfl) rfl) ?_
   refine tr1 rfl (aD (v := .d (.lit (.bool (!r18)))) (aA rfl) rfl rfl) ?_
   obtain ⟨b20, h21, h⟩ := bind_some h
   refine bW 4 [8] 28 b20 ?_ ?_
   ·refine bG (!r18) (fun c23 => ?_) (fun c23 => ?_)
    ·have h21 := aS c23 h21
     refine aO rfl rfl (aA rfl) rfl (aA rfl) rfl c23 ?_
     refine aO rfl rfl (aA rfl) rfl (aA rfl) rfl c23 ?_
     refine aO rfl rfl (aA rfl) rfl (aA rfl) rfl c23 ?_
     refine tr1 rfl (bO (v := .d (.lit (.bool true))) (aA rfl) rfl c23 rfl rfl) ?_
     have h21 := Option.some.inj h21
     subst h21
     refine aF (aY rfl ⟨rfl, trivial⟩ rfl)
    ·have h21 := aR c23 h21
     refine aL rfl rfl (aA rfl) rfl c23 (aD (v := .d (.lit (.int .i64 week_2))) (aA rfl) rfl rfl) ?_
     obtain ⟨r24, h25, h21⟩ := bind_some h21
     refine aL rfl rfl (aA rfl) rfl c23 (bZ (aA rfl) (.func _ _ Try.call47) rfl rfl (BVs.refl _ _) (eQ _ _ _ h25) rfl) ?_
     refine aL rfl rfl (aA rfl) rfl c23 (eZ (aA rfl) rfl) ?_
     refine tr1 rfl (bN (v := .d (.lit (.bool (!r24)))) (aA rfl) rfl c23 rfl rfl) ?_
     have h21 := Option.some.inj h21
     subst h21
     refine aF (aY rfl ⟨rfl, trivial⟩ rfl)
   ·refine aF ?_
    refine bJ rfl (fun c22 => ?_) (fun c22 => ?_)
    ·have h := aS c22 h
     refine aG ?_
     refine aE ?_
     refine tr1 rfl (aJ (v := pZ cF (none : Option bT)) (aA rfl) rfl rfl) ?_
     refine tr1 rfl (aJ (v := .d (.lit (.int .i64 1))) (aA rfl) rfl rfl) ?_
     refine aF ?_
     have h := Option.some.inj h
     subst h
     exact bM ⟨rfl, _, [], [.box b5 0 [.lit (.int .i64 y4.Ledger.Players), .lit (.int .i64 y4.Ledger.Counts), .lit w6, .sl 3 (y4.Ledger.Bans.map aI), .sl 3 (y4.Ledger.Frozen.map aI)], .arr w6 42 5 (y4.Ledger.Reports.map aC), .box b1 0 (aV l_0)], _, .two (.tmp 6 (v := pZ cF (none : Option bT)) rfl) (.tmp 7 (v := .d (.lit (.int .i64 1))) rfl), .refl _, .same _, 0, undef, rfl, rfl⟩
    ·have h := aR c22 h
     refine bI ?_
     refine aG ?_
     refine aE ?_
     refine tr1 rfl (aD (v := .bp b5 0 0) (aA rfl) rfl rfl) ?_
     refine tr1 rfl (aJ (v := .bp b5 0 0) (aA rfl) rfl rfl) ?_
     refine tr1 rfl (aJ (v := .d (.lit (.int .i64 0))) (aA rfl) rfl rfl) ?_
     refine aF ?_
     have h := Option.some.inj h
     subst h
     exact bM ⟨rfl, _, [.box b5 0 [.lit (.int .i64 y4.Ledger.Players), .lit (.int .i64 y4.Ledger.Counts), .lit w6, .sl 3 (y4.Ledger.Bans.map aI), .sl 3 (y4.Ledger.Frozen.map aI)], .arr w6 42 5 (y4.Ledger.Reports.map aC)], [.box b1 0 (aV l_0)], _, .two (.tmp 6 (v := .bp b5 0 0) rfl) (.tmp 7 (v := .d (.lit (.int .i64 0))) rfl), .refl _, .same _, b5, w6, rfl, rfl⟩

theorem qZ (b_0 : bT) (r_1 : aB) (week_2 : Int) {r : Int} (h : jE b_0 r_1 week_2 = some r) : Fn Try.prog 77 [.cp (cF b_0), .agg (aC r_1), .d (.lit (.int .i64 week_2))] (.d (.lit (.int .i64 r))) := by
 unfold jE at h
 refine Fn.of_tr Try.func77 rfl (rs := [.tmp 6]) Try.results77 Try.ntmps77 (Nat.le_of_ble_eq_true rfl) ?_
 refine aG ?_
 refine aE ?_
 refine bR rfl (fJ (v := .agg (aC r_1)) (aA rfl) rfl rfl rfl) ?_
 rintro _ ⟨b1, rfl⟩
 refine tr1 rfl (aJ (v := .d (.lit (.int .i64 0))) (aA rfl) rfl rfl) ?_
 refine aF ?_
 refine aG ?_
 refine aE ?_
 refine tr1 rfl (aD (v := .d (.lit (.int .i64 week_2))) (aA rfl) rfl rfl) ?_
 refine tr1 rfl (aQ (aA rfl) rfl iQ) ?_
 refine tr1 rfl (aT (aA rfl) rfl (i := 0) rfl rfl bF) ?_
 refine tr1 rfl (aZ (aA rfl) rfl rfl rfl) ?_
 refine tr1 rfl (aJ (v := .d (.lit (.int .i64 ((w64 (week_2 - r_1.Week)))))) (aA rfl) rfl rfl) ?_
 refine aF ?_
 refine aG ?_
 refine aG ?_
 refine aE ?_
 refine tr1 rfl (aD (v := .cp [.lit (.int .i64 b_0.Ledger.Players), .lit (.int .i64 b_0.Ledger.Counts), .sl 5 (b_0.Ledger.Reports.map aC), .sl 3 (b_0.Ledger.Bans.map aI), .sl 3 (b_0.Ledger.Frozen.map aI)]) (aA rfl) rfl rfl) ?_
 refine tr1 rfl (oZ (aA rfl) rfl) ?_
 refine tr1 rfl (cP (aA rfl) rfl gM (es := [.lit (.int .i64 b_0.Ledger.Players), .lit (.int .i64 b_0.Ledger.Counts), .sl 5 (b_0.Ledger.Reports.map aC), .sl 3 (b_0.Ledger.Bans.map aI), .sl 3 (b_0.Ledger.Frozen.map aI)]) rfl) ?_
 refine tr1 rfl (cP (aA rfl) rfl lA (es := [.sl 3 (b_0.Ledger.Frozen.map aI)]) rfl) ?_
 refine tr1 rfl (cL (aA rfl) rfl jM) ?_
 refine tr1 rfl (dX (aA rfl) rfl fH.of) ?_
 refine tr1 rfl (aD (v := .d (.lit (.int .i64 0))) (aA rfl) rfl rfl) ?_
 refine aF ?_
 refine bQ ?_
 refine cM [2, 4, 18, 19] (fun (s2 : Int × Int) => [(7, .d (.lit (.int .i64 s2.1))), (20, .d (.lit (.int .i64 s2.2)))]) (fun (s2 : Int × Int) => [.box b1 0 (aC r_1)]) (fun (k : Nat) (s2 : Int × Int) => iC week_2 b_0.Ledger.Frozen (b_0.Ledger.Frozen.length : Int) r_1 k s2.1 s2.2) (fun _ => rfl) (w64 (week_2 - r_1.Week), 0) h (aW [0] rfl rfl (aN rfl (aN rfl (aX ⟨rfl, rfl, rfl, rfl, trivial⟩)))) ?_
 rintro k3 ⟨n_0_2, t20_0_2⟩ h
 simp only [iC] at h
 refine aG ?_
 refine aE ?_
 refine tr1 rfl (bC (aA rfl) rfl rfl rfl) ?_
 refine aF ?_
 refine aG ?_
 refine bJ rfl (fun c4 => ?_) (fun c4 => ?_)
 ·have h := aS c4 h
  refine bI ?_
  refine aG ?_
  refine bQ ?_
  refine aG ?_
  refine aE ?_
  obtain ⟨x5, h6, h⟩ := bind_some h
  refine tr1 rfl (cE (aA rfl) rfl rfl fH.of (bP aI h6)) ?_
  refine tr1 rfl (gN (aA rfl) rfl wN (es := (aI x5)) rfl rfl) ?_
  refine bR rfl (fY (zs := [.lit (.int .i64 0), .lit (.int .i64 0), .lit (.int .i64 0)]) (aA rfl) Try.zeroValue66 rfl rfl) ?_
  rintro _ ⟨b7, rfl⟩
  refine tr1 rfl (cA (i := 1) rfl rfl rfl rfl rfl Try.sizeOf66 rfl (aA rfl) (Nat.le_of_ble_eq_true rfl) (ds' := (aI x5)) rfl) ?_
  refine aF ?_
  refine aG ?_
  refine aE ?_
  refine tr1 rfl (aQ (aA rfl) rfl kI) ?_
  refine tr1 rfl (aT (aA rfl) rfl (i := 1) rfl rfl bF) ?_
  refine tr1 rfl (aQ (aA rfl) rfl mY) ?_
  refine tr1 rfl (aT (aA rfl) rfl (i := 0) rfl rfl bF) ?_
  refine tr1 rfl (bC (aA rfl) rfl rfl rfl) ?_
  refine aF ?_
  refine bJ rfl (fun c8 => ?_) (fun c8 => ?_)
  ·have h := aS c8 h
   refine aE ?_
   refine tr1 rfl (aD (v := .d (.lit (.int .i64 n_0_2))) (aA rfl) rfl rfl) ?_
   refine tr1 rfl (aQ (aA rfl) rfl lB) ?_
   refine tr1 rfl (aT (aA rfl) rfl (i := 1) rfl rfl bF) ?_
   refine tr1 rfl (aD (v := .d (.lit (.int .i64 week_2))) (aA rfl) rfl rfl) ?_
   refine tr1 rfl (aEl (aA rfl) rfl rfl) ?_
   refine tr1 rfl (aQ (aA rfl) rfl jK) ?_
   refine tr1 rfl (aT (aA rfl) rfl (i := 1) rfl rfl bF) ?_
   refine tr1 rfl (aQ (aA rfl) rfl iQ) ?_
   refine tr1 rfl (aT (aA rfl) rfl (i := 0) rfl rfl bF) ?_
   refine tr1 rfl (aZ (aA rfl) rfl rfl rfl) ?_
   refine tr1 rfl (aBe (aA rfl) rfl rfl) ?_
   refine tr1 rfl (aZ (aA rfl) rfl rfl rfl) ?_
   refine tr1 rfl (aZ (aA rfl) rfl rfl rfl) ?_
   refine tr1 rfl (aBe (aA rfl) rfl rfl) ?_
   refine tr1 rfl (aZ (aA rfl) rfl rfl rfl) ?_
   refine tr1 rfl (aJ (v := .d (.lit (.int .i64 ((w64 (n_0_2 - (max 0 (w64 ((w64 ((min x5.To week_2) - (max x5.From (w64 (r_1.Week + 1))))) + 1))))))))) (aA rfl) rfl rfl) ?_
   refine eB ?_
   refine aE ?_
   refine tr1 rfl (aZ (aA rfl) rfl rfl rfl) ?_
   refine tr1 rfl (aD (v := .d (.lit (.int .i64 ((w64 (t20_0_2 + 1)))))) (aA rfl) rfl rfl) ?_
   refine aF ?_
   exact ⟨(w64 (n_0_2 - (max 0 (w64 ((w64 ((min x5.To week_2) - (max x5.From (w64 (r_1.Week + 1))))) + 1)))), w64 (t20_0_2 + 1)), h, aW [0] rfl rfl (aN rfl (aN rfl (aX ⟨rfl, rfl, rfl, rfl, trivial⟩)))⟩
  ·have h := aR c8 h
   refine eJ ?_
   refine aE ?_
   refine tr1 rfl (aZ (aA rfl) rfl rfl rfl) ?_
   refine tr1 rfl (aD (v := .d (.lit (.int .i64 ((w64 (t20_0_2 + 1)))))) (aA rfl) rfl rfl) ?_
   refine aF ?_
   exact ⟨(n_0_2, w64 (t20_0_2 + 1)), h, aW [0] rfl rfl (aN rfl (aN rfl (aX ⟨rfl, rfl, rfl, rfl, trivial⟩)))⟩
 ·have h := aR c4 h
  refine cU ?_
  refine .inl ⟨rfl, ?_⟩
  simp only [qK] at h
  refine aG ?_
  refine aE ?_
  refine tr1 rfl (aD (v := .d (.lit (.int .i64 n_0_2))) (aA rfl) rfl rfl) ?_
  refine tr1 rfl (aJ (v := .d (.lit (.int .i64 n_0_2))) (aA rfl) rfl rfl) ?_
  refine aF ?_
  have h := Option.some.inj h
  subst h
  refine cQ (cG (cK (l := [6]) ⟨rfl, trivial⟩)) ?_
  exact bM ⟨rfl, _, .one _, rfl, rfl⟩

theorem aAz (a_0 : bA) (c_1 : Int) (c_2 : Int) {r : Bool} (h : pR a_0 c_1 c_2 = some r) : Fn Try.prog 83 [.agg (aI a_0), .cp [.lit (.int .i64 c_1)], .cp [.lit (.int .i64 c_2)]] (.d (.lit (.bool r))) := by
 unfold pR at h
 refine Fn.of_tr Try.func83 rfl (rs := [.tmp 4]) Try.results83 Try.ntmps83 (Nat.le_of_ble_eq_true rfl) ?_
 refine aG ?_
 refine aE ?_
 refine bR rfl (fJ (v := .agg (aI a_0)) (aA rfl) rfl rfl rfl) ?_
 rintro _ ⟨b1, rfl⟩
 refine tr1 rfl (aJ (v := .d (.lit (.bool false))) (aA rfl) rfl rfl) ?_
 refine aF ?_
 refine aG ?_
 refine aE ?_
 refine tr1 rfl (aQ (aA rfl) rfl kI) ?_
 refine tr1 rfl (aT (aA rfl) rfl (i := 0) rfl rfl bF) ?_
 refine tr1 rfl (cL (aA rfl) rfl bF) ?_
 refine tr1 rfl (bC (aA rfl) rfl rfl rfl) ?_
 refine tr1 rfl (aD (v := .d (.lit (.bool ((decide (a_0.Player = c_1)))))) (aA rfl) rfl rfl) ?_
 obtain ⟨b2, h3, h⟩ := bind_some h
 refine bW 7 [] 16 b2 ?_ ?_
 ·refine bG (decide (a_0.Player = c_1)) (fun c4 => ?_) (fun c4 => ?_)
  ·have h3 := aS c4 h3
   refine aL rfl rfl (aA rfl) rfl c4 (cL (aA rfl) rfl bF) ?_
   refine aL rfl rfl (aA rfl) rfl c4 (aQ (aA rfl) rfl jK) ?_
   refine aL rfl rfl (aA rfl) rfl c4 (aT (aA rfl) rfl (i := 0) rfl rfl bF) ?_
   refine aL rfl rfl (aA rfl) rfl c4 (aQ (aA rfl) rfl lB) ?_
   refine aL rfl rfl (aA rfl) rfl c4 (aT (aA rfl) rfl (i := 0) rfl rfl bF) ?_
   obtain ⟨r5, h6, h3⟩ := bind_some h3
   refine aL rfl rfl (aA rfl) rfl c4 (bZ (aA rfl) (.func _ _ Try.call47) rfl rfl (BVs.refl _ _) (eQ _ _ _ h6) rfl) ?_
   refine tr1 rfl (bO (v := .d (.lit (.bool r5))) (aA rfl) rfl c4 rfl rfl) ?_
   have h3 := Option.some.inj h3
   subst h3
   refine aF (aY rfl trivial rfl)
  ·have h3 := aR c4 h3
   refine aO rfl rfl (aA rfl) rfl (aA rfl) rfl c4 ?_
   refine aO rfl rfl (aA rfl) rfl (aA rfl) rfl c4 ?_
   refine aO rfl rfl (aA rfl) rfl (aA rfl) rfl c4 ?_
   refine aO rfl rfl (aA rfl) rfl (aA rfl) rfl c4 ?_
   refine aO rfl rfl (aA rfl) rfl (aA rfl) rfl c4 ?_
   refine aO rfl rfl (aA rfl) rfl (aA rfl) rfl c4 ?_
   refine tr1 rfl (bN (v := .d (.lit (.bool false))) (aA rfl) rfl c4 rfl rfl) ?_
   have h3 := Option.some.inj h3
   subst h3
   refine aF (aY rfl trivial rfl)
 ·refine tr1 rfl (aJ (v := .d (.lit (.bool b2))) (aA rfl) rfl rfl) ?_
  refine aF ?_
  have h := Option.some.inj h
  subst h
  refine cQ (cG (cK (l := [4]) ⟨rfl, trivial⟩)) ?_
  exact bM ⟨rfl, _, .one _, rfl, rfl⟩

theorem uR (all_0 : List bA) (player_1 : Int) (week_2 : Int) {r : Bool} (h : mK all_0 player_1 week_2 = some r) : Fn Try.prog 48 [.d (.sl 3 (all_0.map aI)), .d (.lit (.int .i64 player_1)), .d (.lit (.int .i64 week_2))] (.d (.lit (.bool r))) := by
 unfold mK at h
 refine Fn.of_tr Try.func48 rfl (rs := [.tmp 6]) Try.results48 Try.ntmps48 (Nat.le_of_ble_eq_true rfl) ?_
 refine aG ?_
 refine aE ?_
 refine bR rfl (fJ (v := .d (.lit (.int .i64 player_1))) (aA rfl) rfl rfl rfl) ?_
 rintro _ ⟨b1, rfl⟩
 refine bR rfl (fJ (v := .d (.lit (.int .i64 week_2))) (aA rfl) rfl rfl rfl) ?_
 rintro _ ⟨b2, rfl⟩
 refine tr1 rfl (aJ (v := .d (.lit (.bool false))) (aA rfl) rfl rfl) ?_
 refine aF ?_
 refine aG ?_
 refine aE ?_
 refine tr1 rfl (aD (v := .d (.sl 3 (all_0.map aI))) (aA rfl) rfl rfl) ?_
 refine tr1 rfl (vI (aA rfl) rfl rfl) ?_
 obtain ⟨r4, h5, h⟩ := bind_some h
 refine tr1 rfl (bZ (aA rfl) (.func _ _ Try.call82) rfl rfl (.cons (.same _) (.cons ((zA (.cons ((lX 0 rfl rfl (dvc (.same _) dvn))) (.cons ((lX 1 rfl rfl (dvc (.same _) dvn))) .nil)))) .nil)) (jD _ _ 83 [.cp [.lit (.int .i64 player_1)], .cp [.lit (.int .i64 week_2)]] Try.call83 (fun _ _ h => aAz _ _ _ h) h5) rfl) ?_
 refine tr1 rfl (aJ (v := .d (.lit (.bool r4))) (aA rfl) rfl rfl) ?_
 refine aF ?_
 have h := Option.some.inj h
 subst h
 refine cQ (cG (cK (l := [6]) ⟨rfl, trivial⟩)) ?_
 exact bM ⟨rfl, _, .one _, rfl, rfl⟩

theorem pH (b_0 : bT) (player_1 : Int) (week_2 : Int) {r : (List aB)} (h : jN b_0 player_1 week_2 = some r) : Fn Try.prog 72 [.cp (cF b_0), .d (.lit (.int .i64 player_1)), .d (.lit (.int .i64 week_2))] (.d (.sl 5 (r.map aC))) := by
 unfold jN at h
 refine Fn.of_tr Try.func72 rfl (rs := [.tmp 6]) Try.results72 Try.ntmps72 (Nat.le_of_ble_eq_true rfl) ?_
 refine aG ?_
 refine aE ?_
 refine tr1 rfl (sF 5 (aA rfl)) ?_
 refine aF ?_
 refine aG ?_
 refine aE ?_
 refine tr1 rfl (iY 42 5 (.inl rfl) (aA rfl)) ?_
 refine aF ?_
 refine aG ?_
 refine aG ?_
 refine aE ?_
 refine tr1 rfl (aD (v := .cp [.lit (.int .i64 b_0.Ledger.Players), .lit (.int .i64 b_0.Ledger.Counts), .sl 5 (b_0.Ledger.Reports.map aC), .sl 3 (b_0.Ledger.Bans.map aI), .sl 3 (b_0.Ledger.Frozen.map aI)]) (aA rfl) rfl rfl) ?_
 refine tr1 rfl (oZ (aA rfl) rfl) ?_
 refine tr1 rfl (cP (aA rfl) rfl gM (es := [.lit (.int .i64 b_0.Ledger.Players), .lit (.int .i64 b_0.Ledger.Counts), .sl 5 (b_0.Ledger.Reports.map aC), .sl 3 (b_0.Ledger.Bans.map aI), .sl 3 (b_0.Ledger.Frozen.map aI)]) rfl) ?_
 refine tr1 rfl (cP (aA rfl) rfl eF (es := [.sl 5 (b_0.Ledger.Reports.map aC)]) rfl) ?_
 refine tr1 rfl (cL (aA rfl) rfl hB) ?_
 refine tr1 rfl (dX (aA rfl) rfl bY.of) ?_
 refine tr1 rfl (aD (v := .d (.lit (.int .i64 0))) (aA rfl) rfl rfl) ?_
 refine aF ?_
 refine bQ ?_
 refine cM [0, 1, 2, 14, 15] (fun (s2 : Int × (List aB) × Value) => [(7, .d (.lit s2.2.2)), (16, .d (.lit (.int .i64 s2.1)))]) (fun (s2 : Int × (List aB) × Value) => [.arr s2.2.2 42 5 (s2.2.1.map aC)]) (fun (k : Nat) (s2 : Int × (List aB) × Value) => gL b_0 player_1 week_2 b_0.Ledger.Reports (b_0.Ledger.Reports.length : Int) k s2.1 s2.2.1) (fun _ => rfl) (0, ([] : List aB), (.slice none 0 0)) h (aW [0] rfl rfl (aN rfl (aN rfl (aX ⟨rfl, rfl, rfl, rfl, rfl, trivial⟩)))) ?_
 rintro k4 ⟨t16_0_2, out_0_2, w3⟩ h
 simp only [gL] at h
 refine aG ?_
 refine aE ?_
 refine tr1 rfl (bC (aA rfl) rfl rfl rfl) ?_
 refine aF ?_
 refine aG ?_
 refine bJ rfl (fun c5 => ?_) (fun c5 => ?_)
 ·have h := aS c5 h
  refine bI ?_
  refine aG ?_
  refine bQ ?_
  refine aG ?_
  refine aE ?_
  obtain ⟨x6, h7, h⟩ := bind_some h
  refine tr1 rfl (cE (aA rfl) rfl rfl bY.of (bP aC h7)) ?_
  refine tr1 rfl (gN (aA rfl) rfl dY (es := (aC x6)) rfl rfl) ?_
  refine bR rfl (fY (zs := [.lit (.int .i64 0), .lit (.int .i64 0), .lit (.int .i64 0), .lit (.int .i64 0), .lit (.bool false)]) (aA rfl) Try.zeroValue42 rfl rfl) ?_
  rintro _ ⟨b8, rfl⟩
  refine tr1 rfl (cA (i := 1) rfl rfl rfl rfl rfl Try.sizeOf42 rfl (aA rfl) (Nat.le_of_ble_eq_true rfl) (ds' := (aC x6)) rfl) ?_
  refine aF ?_
  refine aG ?_
  obtain ⟨b9, h10, h⟩ := bind_some h
  obtain ⟨b12, h13, h⟩ := bind_some h
  obtain ⟨b17, h18, h⟩ := bind_some h
  refine gO mix 29 [0, 1, 2, 7, 9, 14, 15, 16] [(48, .d (.lit (.bool b17)))] ?_ ?_
  ·refine bG (decide (x6.Player = player_1)) (fun c11 => ?_) (fun c11 => ?_)
   ·have h10 := aS c11 h10
    have h10 := Option.some.inj h10
    subst h10
    refine bG (decide (x6.Week ≤ week_2)) (fun c14 => ?_) (fun c14 => ?_)
    ·have h13 := aS c14 h13
     obtain ⟨r15, h16, h13⟩ := bind_some h13
     have h13 := Option.some.inj h13
     subst h13
     refine bG (decide (r15 < 52)) (fun c19 => ?_) (fun c19 => ?_)
     ·have h18 := aS c19 h18
      obtain ⟨r20, h21, h18⟩ := bind_some h18
      have h18 := Option.some.inj h18
      subst h18
      refine ⟨[(20, 0, .bp b8 0 1), (21, 1, .d (.lit (.int .i64 x6.Player))), (22, 2, .d (.lit (.int .i64 player_1))), (23, 3, .d (.lit (.bool ((decide (x6.Player = player_1)))))), (24, 4, .d (.lit (.bool ((decide (x6.Player = player_1)))))), (25, 5, .bp b8 0 2), (26, 6, .d (.lit (.int .i64 x6.Week))), (27, 7, .d (.lit (.int .i64 week_2))), (28, 8, .d (.lit (.bool ((decide (x6.Week ≤ week_2)))))), (29, 9, .d (.lit (.bool ((decide (x6.Week ≤ week_2)))))), (30, 10, .d (.lit (.bool (decide (x6.Week ≤ week_2))))), (31, 11, .cp [.lit (.int .i64 b_0.Ledger.Players), .lit (.int .i64 b_0.Ledger.Counts), .sl 5 (b_0.Ledger.Reports.map aC), .sl 3 (b_0.Ledger.Bans.map aI), .sl 3 (b_0.Ledger.Frozen.map aI)]), (32, 12, .agg (aC x6)), (33, 13, .d (.lit (.int .i64 week_2))), (34, 14, .d (.lit (.int .i64 r15))), (35, 15, .d (.lit (.bool ((decide (r15 < 52)))))), (36, 16, .d (.lit (.bool ((decide (r15 < 52)))))), (37, 17, .d (.lit (.bool (decide (r15 < 52))))), (38, 18, .cp [.lit (.int .i64 b_0.Ledger.Players), .lit (.int .i64 b_0.Ledger.Counts), .sl 5 (b_0.Ledger.Reports.map aC), .sl 3 (b_0.Ledger.Bans.map aI), .sl 3 (b_0.Ledger.Frozen.map aI)]), (39, 19, .cp [.lit (.int .i64 b_0.Ledger.Players), .lit (.int .i64 b_0.Ledger.Counts), .sl 5 (b_0.Ledger.Reports.map aC), .sl 3 (b_0.Ledger.Bans.map aI), .sl 3 (b_0.Ledger.Frozen.map aI)]), (40, 20, .cp [.lit (.int .i64 b_0.Ledger.Players), .lit (.int .i64 b_0.Ledger.Counts), .sl 5 (b_0.Ledger.Reports.map aC), .sl 3 (b_0.Ledger.Bans.map aI), .sl 3 (b_0.Ledger.Frozen.map aI)]), (41, 21, .cp [.sl 3 (b_0.Ledger.Bans.map aI)]), (42, 22, .d (.sl 3 (b_0.Ledger.Bans.map aI))), (43, 23, .d (.lit (.int .i64 player_1))), (44, 24, .bp b8 0 2), (45, 25, .d (.lit (.int .i64 x6.Week))), (46, 26, .d (.lit (.bool r20))), (47, 27, .d (.lit (.bool (!r20)))), (48, 28, .d (.lit (.bool (!r20))))], ?_, ?_⟩
      · exact ⟨by kernel_rfl, by kernel_rfl, by kernel_rfl, by kernel_rfl, by kernel_rfl, [([], []), ([0], []), ([], []), ([1, 2], []), ([3], []), ([4], []), ([4, 5], []), ([4], []), ([4, 6, 7], []), ([4, 8], []), ([9], []), ([10], []), ([10], []), ([10], []), ([10, 11, 12, 13], []), ([10, 14], []), ([10, 15], []), ([16], []), ([17], []), ([17, 18], []), ([17, 19], []), ([17, 20], []), ([17, 21], []), ([17], []), ([17], []), ([17, 24], []), ([17, 22, 23, 25], []), ([17, 26], []), ([17, 27], [])], by kernel_rfl, ⟨fun S hS => aK rfl (aP rfl (aQ (aA rfl) (aH hS rfl) mY)),
      fun S hS => aK rfl (aP rfl (aT (aA rfl) (aH hS rfl) (i := 1) rfl rfl bF)),
      fun S hS => aK rfl (aP rfl (aD (v := .d (.lit (.int .i64 player_1))) (aA rfl) (aH hS rfl) rfl)),
      fun S hS => aK rfl (aP rfl (bC (aA rfl) (aH hS rfl) (aH hS rfl) rfl)),
      fun S hS => aK rfl (aP rfl (aD (v := .d (.lit (.bool ((decide (x6.Player = player_1)))))) (aA rfl) (aH hS rfl) rfl)),
      fun S hS => aK rfl (bH rfl rfl (aA rfl) (aU hS rfl) c11 (aQ (aA rfl) (aH hS rfl) iQ)),
      fun S hS => aK rfl (bH rfl rfl (aA rfl) (aU hS rfl) c11 (aT (aA rfl) (aH hS rfl) (i := 1) rfl rfl bF)),
      fun S hS => aK rfl (bH rfl rfl (aA rfl) (aU hS rfl) c11 (aD (v := .d (.lit (.int .i64 week_2))) (aA rfl) (aH hS rfl) rfl)),
      fun S hS => aK rfl (bH rfl rfl (aA rfl) (aU hS rfl) c11 (bC (aA rfl) (aH hS rfl) (aH hS rfl) rfl)),
      fun S hS => aK rfl (aP rfl (bO (v := .d (.lit (.bool ((decide (x6.Week ≤ week_2)))))) (aA rfl) (aH hS rfl) c11 (aH hS rfl) rfl)),
      fun S hS => aK rfl (aP rfl (aD (v := .d (.lit (.bool (decide (x6.Week ≤ week_2))))) (aA rfl) (aH hS rfl) rfl)),
      fun S hS => aK rfl (bH rfl rfl (aA rfl) (aU hS rfl) c14 (aD (v := .cp [.lit (.int .i64 b_0.Ledger.Players), .lit (.int .i64 b_0.Ledger.Counts), .sl 5 (b_0.Ledger.Reports.map aC), .sl 3 (b_0.Ledger.Bans.map aI), .sl 3 (b_0.Ledger.Frozen.map aI)]) (aA rfl) (aH hS rfl) rfl)),
      fun S hS => aK rfl (bH rfl rfl (aA rfl) (aU hS rfl) c14 (dE (aA rfl) (aH hS rfl) (i := 1) rfl dY (es := (aC x6)) rfl rfl)),
      fun S hS => aK rfl (bH rfl rfl (aA rfl) (aU hS rfl) c14 (aD (v := .d (.lit (.int .i64 week_2))) (aA rfl) (aH hS rfl) rfl)),
      fun S hS => aK rfl (bH rfl rfl (aA rfl) (aU hS rfl) c14 (bZ (aA rfl) (.func _ _ Try.call77) (ev2 (aH hS rfl) (ev2 (aH hS rfl) (ev2 (aH hS rfl) evn))) rfl (BVs.refl _ _) (qZ _ _ _ h16) rfl)),
      fun S hS => aK rfl (bH rfl rfl (aA rfl) (aU hS rfl) c14 (bC (aA rfl) (aH hS rfl) rfl rfl)),
      fun S hS => aK rfl (aP rfl (bO (v := .d (.lit (.bool ((decide (r15 < 52)))))) (aA rfl) (aH hS rfl) c14 (aH hS rfl) rfl)),
      fun S hS => aK rfl (aP rfl (aD (v := .d (.lit (.bool (decide (r15 < 52))))) (aA rfl) (aH hS rfl) rfl)),
      fun S hS => aK rfl (bH rfl rfl (aA rfl) (aU hS rfl) c19 (aD (v := .cp [.lit (.int .i64 b_0.Ledger.Players), .lit (.int .i64 b_0.Ledger.Counts), .sl 5 (b_0.Ledger.Reports.map aC), .sl 3 (b_0.Ledger.Bans.map aI), .sl 3 (b_0.Ledger.Frozen.map aI)]) (aA rfl) (aH hS rfl) rfl)),
      fun S hS => aK rfl (bH rfl rfl (aA rfl) (aU hS rfl) c19 (oZ (aA rfl) (aH hS rfl))),
      fun S hS => aK rfl (bH rfl rfl (aA rfl) (aU hS rfl) c19 (cP (aA rfl) (aH hS rfl) gM (es := [.lit (.int .i64 b_0.Ledger.Players), .lit (.int .i64 b_0.Ledger.Counts), .sl 5 (b_0.Ledger.Reports.map aC), .sl 3 (b_0.Ledger.Bans.map aI), .sl 3 (b_0.Ledger.Frozen.map aI)]) rfl)),
      fun S hS => aK rfl (bH rfl rfl (aA rfl) (aU hS rfl) c19 (cP (aA rfl) (aH hS rfl) nG (es := [.sl 3 (b_0.Ledger.Bans.map aI)]) rfl)),
      fun S hS => aK rfl (bH rfl rfl (aA rfl) (aU hS rfl) c19 (cL (aA rfl) (aH hS rfl) jM)),
      fun S hS => aK rfl (bH rfl rfl (aA rfl) (aU hS rfl) c19 (aD (v := .d (.lit (.int .i64 player_1))) (aA rfl) (aH hS rfl) rfl)),
      fun S hS => aK rfl (bH rfl rfl (aA rfl) (aU hS rfl) c19 (aQ (aA rfl) (aH hS rfl) iQ)),
      fun S hS => aK rfl (bH rfl rfl (aA rfl) (aU hS rfl) c19 (aT (aA rfl) (aH hS rfl) (i := 1) rfl rfl bF)),
      fun S hS => aK rfl (bH rfl rfl (aA rfl) (aU hS rfl) c19 (bZ (aA rfl) (.func _ _ Try.call48) (ev2 (aH hS rfl) (ev2 (aH hS rfl) (ev2 (aH hS rfl) evn))) rfl (BVs.refl _ _) (uR _ _ _ h21) rfl)),
      fun S hS => aK rfl (bH rfl rfl (aA rfl) (aU hS rfl) c19 (eZ (aA rfl) (aH hS rfl))),
      fun S hS => aK rfl (aP rfl (bO (v := .d (.lit (.bool (!r20)))) (aA rfl) (aH hS rfl) c19 (aH hS rfl) rfl)), trivial⟩⟩
      · exact eE (aN rfl (aX ⟨rfl, rfl, rfl, rfl, rfl, rfl, rfl, rfl, trivial⟩))
     ·have h18 := aR c19 h18
      have h18 := Option.some.inj h18
      subst h18
      refine ⟨[(20, 0, .bp b8 0 1), (21, 1, .d (.lit (.int .i64 x6.Player))), (22, 2, .d (.lit (.int .i64 player_1))), (23, 3, .d (.lit (.bool ((decide (x6.Player = player_1)))))), (24, 4, .d (.lit (.bool ((decide (x6.Player = player_1)))))), (25, 5, .bp b8 0 2), (26, 6, .d (.lit (.int .i64 x6.Week))), (27, 7, .d (.lit (.int .i64 week_2))), (28, 8, .d (.lit (.bool ((decide (x6.Week ≤ week_2)))))), (29, 9, .d (.lit (.bool ((decide (x6.Week ≤ week_2)))))), (30, 10, .d (.lit (.bool (decide (x6.Week ≤ week_2))))), (31, 11, .cp [.lit (.int .i64 b_0.Ledger.Players), .lit (.int .i64 b_0.Ledger.Counts), .sl 5 (b_0.Ledger.Reports.map aC), .sl 3 (b_0.Ledger.Bans.map aI), .sl 3 (b_0.Ledger.Frozen.map aI)]), (32, 12, .agg (aC x6)), (33, 13, .d (.lit (.int .i64 week_2))), (34, 14, .d (.lit (.int .i64 r15))), (35, 15, .d (.lit (.bool ((decide (r15 < 52)))))), (36, 16, .d (.lit (.bool ((decide (r15 < 52)))))), (37, 17, .d (.lit (.bool (decide (r15 < 52))))), (38, 18, .tup []), (39, 19, .tup []), (40, 20, .tup []), (41, 21, .tup []), (42, 22, .tup []), (43, 23, .tup []), (44, 24, .tup []), (45, 25, .tup []), (46, 26, .tup []), (47, 27, .tup []), (48, 28, .d (.lit (.bool false)))], ?_, ?_⟩
      · exact ⟨by kernel_rfl, by kernel_rfl, by kernel_rfl, by kernel_rfl, by kernel_rfl, [([], []), ([0], []), ([], []), ([1, 2], []), ([3], []), ([4], []), ([4, 5], []), ([4], []), ([4, 6, 7], []), ([4, 8], []), ([9], []), ([10], []), ([10], []), ([10], []), ([10, 11, 12, 13], []), ([10, 14], []), ([10, 15], []), ([16], []), ([17], []), ([17, 18], []), ([17, 19], []), ([17, 20], []), ([17, 21], []), ([17], []), ([17], []), ([17, 24], []), ([17, 22, 23, 25], []), ([17, 26], []), ([17, 27], [])], by kernel_rfl, ⟨fun S hS => aK rfl (aP rfl (aQ (aA rfl) (aH hS rfl) mY)),
      fun S hS => aK rfl (aP rfl (aT (aA rfl) (aH hS rfl) (i := 1) rfl rfl bF)),
      fun S hS => aK rfl (aP rfl (aD (v := .d (.lit (.int .i64 player_1))) (aA rfl) (aH hS rfl) rfl)),
      fun S hS => aK rfl (aP rfl (bC (aA rfl) (aH hS rfl) (aH hS rfl) rfl)),
      fun S hS => aK rfl (aP rfl (aD (v := .d (.lit (.bool ((decide (x6.Player = player_1)))))) (aA rfl) (aH hS rfl) rfl)),
      fun S hS => aK rfl (bH rfl rfl (aA rfl) (aU hS rfl) c11 (aQ (aA rfl) (aH hS rfl) iQ)),
      fun S hS => aK rfl (bH rfl rfl (aA rfl) (aU hS rfl) c11 (aT (aA rfl) (aH hS rfl) (i := 1) rfl rfl bF)),
      fun S hS => aK rfl (bH rfl rfl (aA rfl) (aU hS rfl) c11 (aD (v := .d (.lit (.int .i64 week_2))) (aA rfl) (aH hS rfl) rfl)),
      fun S hS => aK rfl (bH rfl rfl (aA rfl) (aU hS rfl) c11 (bC (aA rfl) (aH hS rfl) (aH hS rfl) rfl)),
      fun S hS => aK rfl (aP rfl (bO (v := .d (.lit (.bool ((decide (x6.Week ≤ week_2)))))) (aA rfl) (aH hS rfl) c11 (aH hS rfl) rfl)),
      fun S hS => aK rfl (aP rfl (aD (v := .d (.lit (.bool (decide (x6.Week ≤ week_2))))) (aA rfl) (aH hS rfl) rfl)),
      fun S hS => aK rfl (bH rfl rfl (aA rfl) (aU hS rfl) c14 (aD (v := .cp [.lit (.int .i64 b_0.Ledger.Players), .lit (.int .i64 b_0.Ledger.Counts), .sl 5 (b_0.Ledger.Reports.map aC), .sl 3 (b_0.Ledger.Bans.map aI), .sl 3 (b_0.Ledger.Frozen.map aI)]) (aA rfl) (aH hS rfl) rfl)),
      fun S hS => aK rfl (bH rfl rfl (aA rfl) (aU hS rfl) c14 (dE (aA rfl) (aH hS rfl) (i := 1) rfl dY (es := (aC x6)) rfl rfl)),
      fun S hS => aK rfl (bH rfl rfl (aA rfl) (aU hS rfl) c14 (aD (v := .d (.lit (.int .i64 week_2))) (aA rfl) (aH hS rfl) rfl)),
      fun S hS => aK rfl (bH rfl rfl (aA rfl) (aU hS rfl) c14 (bZ (aA rfl) (.func _ _ Try.call77) (ev2 (aH hS rfl) (ev2 (aH hS rfl) (ev2 (aH hS rfl) evn))) rfl (BVs.refl _ _) (qZ _ _ _ h16) rfl)),
      fun S hS => aK rfl (bH rfl rfl (aA rfl) (aU hS rfl) c14 (bC (aA rfl) (aH hS rfl) rfl rfl)),
      fun S hS => aK rfl (aP rfl (bO (v := .d (.lit (.bool ((decide (r15 < 52)))))) (aA rfl) (aH hS rfl) c14 (aH hS rfl) rfl)),
      fun S hS => aK rfl (aP rfl (aD (v := .d (.lit (.bool (decide (r15 < 52))))) (aA rfl) (aH hS rfl) rfl)),
      fun S hS => aK rfl (bD rfl rfl (aA rfl) rfl (aA rfl) (aU hS rfl) c19),
      fun S hS => aK rfl (bD rfl rfl (aA rfl) rfl (aA rfl) (aU hS rfl) c19),
      fun S hS => aK rfl (bD rfl rfl (aA rfl) rfl (aA rfl) (aU hS rfl) c19),
      fun S hS => aK rfl (bD rfl rfl (aA rfl) rfl (aA rfl) (aU hS rfl) c19),
      fun S hS => aK rfl (bD rfl rfl (aA rfl) rfl (aA rfl) (aU hS rfl) c19),
      fun S hS => aK rfl (bD rfl rfl (aA rfl) rfl (aA rfl) (aU hS rfl) c19),
      fun S hS => aK rfl (bD rfl rfl (aA rfl) rfl (aA rfl) (aU hS rfl) c19),
      fun S hS => aK rfl (bD rfl rfl (aA rfl) rfl (aA rfl) (aU hS rfl) c19),
      fun S hS => aK rfl (bD rfl rfl (aA rfl) rfl (aA rfl) (aU hS rfl) c19),
      fun S hS => aK rfl (bD rfl rfl (aA rfl) rfl (aA rfl) (aU hS rfl) c19),
      fun S hS => aK rfl (aP rfl (bN (v := .d (.lit (.bool false))) (aA rfl) (aH hS rfl) c19 rfl rfl)), trivial⟩⟩
      · exact eE (aN rfl (aX ⟨rfl, rfl, rfl, rfl, rfl, rfl, rfl, rfl, trivial⟩))
    ·have h13 := aR c14 h13
     have h13 := Option.some.inj h13
     subst h13
     have c19 : false = false := rfl
     have h18 := aR c19 h18
     have h18 := Option.some.inj h18
     subst h18
     refine ⟨[(20, 0, .bp b8 0 1), (21, 1, .d (.lit (.int .i64 x6.Player))), (22, 2, .d (.lit (.int .i64 player_1))), (23, 3, .d (.lit (.bool ((decide (x6.Player = player_1)))))), (24, 4, .d (.lit (.bool ((decide (x6.Player = player_1)))))), (25, 5, .bp b8 0 2), (26, 6, .d (.lit (.int .i64 x6.Week))), (27, 7, .d (.lit (.int .i64 week_2))), (28, 8, .d (.lit (.bool ((decide (x6.Week ≤ week_2)))))), (29, 9, .d (.lit (.bool ((decide (x6.Week ≤ week_2)))))), (30, 10, .d (.lit (.bool (decide (x6.Week ≤ week_2))))), (31, 11, .tup []), (32, 12, .tup []), (33, 13, .tup []), (34, 14, .tup []), (35, 15, .tup []), (36, 16, .d (.lit (.bool false))), (37, 17, .d (.lit (.bool (false)))), (38, 18, .tup []), (39, 19, .tup []), (40, 20, .tup []), (41, 21, .tup []), (42, 22, .tup []), (43, 23, .tup []), (44, 24, .tup []), (45, 25, .tup []), (46, 26, .tup []), (47, 27, .tup []), (48, 28, .d (.lit (.bool false)))], ?_, ?_⟩
     · exact ⟨by kernel_rfl, by kernel_rfl, by kernel_rfl, by kernel_rfl, by kernel_rfl, [([], []), ([0], []), ([], []), ([1, 2], []), ([3], []), ([4], []), ([4, 5], []), ([4], []), ([4, 6, 7], []), ([4, 8], []), ([9], []), ([10], []), ([10], []), ([10], []), ([10, 11, 12, 13], []), ([10, 14], []), ([10, 15], []), ([16], []), ([17], []), ([17, 18], []), ([17, 19], []), ([17, 20], []), ([17, 21], []), ([17], []), ([17], []), ([17, 24], []), ([17, 22, 23, 25], []), ([17, 26], []), ([17, 27], [])], by kernel_rfl, ⟨fun S hS => aK rfl (aP rfl (aQ (aA rfl) (aH hS rfl) mY)),
      fun S hS => aK rfl (aP rfl (aT (aA rfl) (aH hS rfl) (i := 1) rfl rfl bF)),
      fun S hS => aK rfl (aP rfl (aD (v := .d (.lit (.int .i64 player_1))) (aA rfl) (aH hS rfl) rfl)),
      fun S hS => aK rfl (aP rfl (bC (aA rfl) (aH hS rfl) (aH hS rfl) rfl)),
      fun S hS => aK rfl (aP rfl (aD (v := .d (.lit (.bool ((decide (x6.Player = player_1)))))) (aA rfl) (aH hS rfl) rfl)),
      fun S hS => aK rfl (bH rfl rfl (aA rfl) (aU hS rfl) c11 (aQ (aA rfl) (aH hS rfl) iQ)),
      fun S hS => aK rfl (bH rfl rfl (aA rfl) (aU hS rfl) c11 (aT (aA rfl) (aH hS rfl) (i := 1) rfl rfl bF)),
      fun S hS => aK rfl (bH rfl rfl (aA rfl) (aU hS rfl) c11 (aD (v := .d (.lit (.int .i64 week_2))) (aA rfl) (aH hS rfl) rfl)),
      fun S hS => aK rfl (bH rfl rfl (aA rfl) (aU hS rfl) c11 (bC (aA rfl) (aH hS rfl) (aH hS rfl) rfl)),
      fun S hS => aK rfl (aP rfl (bO (v := .d (.lit (.bool ((decide (x6.Week ≤ week_2)))))) (aA rfl) (aH hS rfl) c11 (aH hS rfl) rfl)),
      fun S hS => aK rfl (aP rfl (aD (v := .d (.lit (.bool (decide (x6.Week ≤ week_2))))) (aA rfl) (aH hS rfl) rfl)),
      fun S hS => aK rfl (bD rfl rfl (aA rfl) rfl (aA rfl) (aU hS rfl) c14),
      fun S hS => aK rfl (bD rfl rfl (aA rfl) rfl (aA rfl) (aU hS rfl) c14),
      fun S hS => aK rfl (bD rfl rfl (aA rfl) rfl (aA rfl) (aU hS rfl) c14),
      fun S hS => aK rfl (bD rfl rfl (aA rfl) rfl (aA rfl) (aU hS rfl) c14),
      fun S hS => aK rfl (bD rfl rfl (aA rfl) rfl (aA rfl) (aU hS rfl) c14),
      fun S hS => aK rfl (aP rfl (bN (v := .d (.lit (.bool false))) (aA rfl) (aH hS rfl) c14 rfl rfl)),
      fun S hS => aK rfl (aP rfl (aD (v := .d (.lit (.bool (false)))) (aA rfl) (aH hS rfl) rfl)),
      fun S hS => aK rfl (bD rfl rfl (aA rfl) rfl (aA rfl) (aU hS rfl) c19),
      fun S hS => aK rfl (bD rfl rfl (aA rfl) rfl (aA rfl) (aU hS rfl) c19),
      fun S hS => aK rfl (bD rfl rfl (aA rfl) rfl (aA rfl) (aU hS rfl) c19),
      fun S hS => aK rfl (bD rfl rfl (aA rfl) rfl (aA rfl) (aU hS rfl) c19),
      fun S hS => aK rfl (bD rfl rfl (aA rfl) rfl (aA rfl) (aU hS rfl) c19),
      fun S hS => aK rfl (bD rfl rfl (aA rfl) rfl (aA rfl) (aU hS rfl) c19),
      fun S hS => aK rfl (bD rfl rfl (aA rfl) rfl (aA rfl) (aU hS rfl) c19),
      fun S hS => aK rfl (bD rfl rfl (aA rfl) rfl (aA rfl) (aU hS rfl) c19),
      fun S hS => aK rfl (bD rfl rfl (aA rfl) rfl (aA rfl) (aU hS rfl) c19),
      fun S hS => aK rfl (bD rfl rfl (aA rfl) rfl (aA rfl) (aU hS rfl) c19),
      fun S hS => aK rfl (aP rfl (bN (v := .d (.lit (.bool false))) (aA rfl) (aH hS rfl) c19 rfl rfl)), trivial⟩⟩
     · exact eE (aN rfl (aX ⟨rfl, rfl, rfl, rfl, rfl, rfl, rfl, rfl, trivial⟩))
   ·have h10 := aR c11 h10
    have h10 := Option.some.inj h10
    subst h10
    have c14 : false = false := rfl
    have h13 := aR c14 h13
    have h13 := Option.some.inj h13
    subst h13
    have c19 : false = false := rfl
    have h18 := aR c19 h18
    have h18 := Option.some.inj h18
    subst h18
    refine ⟨[(20, 0, .bp b8 0 1), (21, 1, .d (.lit (.int .i64 x6.Player))), (22, 2, .d (.lit (.int .i64 player_1))), (23, 3, .d (.lit (.bool ((decide (x6.Player = player_1)))))), (24, 4, .d (.lit (.bool ((decide (x6.Player = player_1)))))), (25, 5, .tup []), (26, 6, .tup []), (27, 7, .tup []), (28, 8, .tup []), (29, 9, .d (.lit (.bool false))), (30, 10, .d (.lit (.bool (false)))), (31, 11, .tup []), (32, 12, .tup []), (33, 13, .tup []), (34, 14, .tup []), (35, 15, .tup []), (36, 16, .d (.lit (.bool false))), (37, 17, .d (.lit (.bool (false)))), (38, 18, .tup []), (39, 19, .tup []), (40, 20, .tup []), (41, 21, .tup []), (42, 22, .tup []), (43, 23, .tup []), (44, 24, .tup []), (45, 25, .tup []), (46, 26, .tup []), (47, 27, .tup []), (48, 28, .d (.lit (.bool false)))], ?_, ?_⟩
    · exact ⟨by kernel_rfl, by kernel_rfl, by kernel_rfl, by kernel_rfl, by kernel_rfl, [([], []), ([0], []), ([], []), ([1, 2], []), ([3], []), ([4], []), ([4, 5], []), ([4], []), ([4, 6, 7], []), ([4, 8], []), ([9], []), ([10], []), ([10], []), ([10], []), ([10, 11, 12, 13], []), ([10, 14], []), ([10, 15], []), ([16], []), ([17], []), ([17, 18], []), ([17, 19], []), ([17, 20], []), ([17, 21], []), ([17], []), ([17], []), ([17, 24], []), ([17, 22, 23, 25], []), ([17, 26], []), ([17, 27], [])], by kernel_rfl, ⟨fun S hS => aK rfl (aP rfl (aQ (aA rfl) (aH hS rfl) mY)),
      fun S hS => aK rfl (aP rfl (aT (aA rfl) (aH hS rfl) (i := 1) rfl rfl bF)),
      fun S hS => aK rfl (aP rfl (aD (v := .d (.lit (.int .i64 player_1))) (aA rfl) (aH hS rfl) rfl)),
      fun S hS => aK rfl (aP rfl (bC (aA rfl) (aH hS rfl) (aH hS rfl) rfl)),
      fun S hS => aK rfl (aP rfl (aD (v := .d (.lit (.bool ((decide (x6.Player = player_1)))))) (aA rfl) (aH hS rfl) rfl)),
      fun S hS => aK rfl (bD rfl rfl (aA rfl) rfl (aA rfl) (aU hS rfl) c11),
      fun S hS => aK rfl (bD rfl rfl (aA rfl) rfl (aA rfl) (aU hS rfl) c11),
      fun S hS => aK rfl (bD rfl rfl (aA rfl) rfl (aA rfl) (aU hS rfl) c11),
      fun S hS => aK rfl (bD rfl rfl (aA rfl) rfl (aA rfl) (aU hS rfl) c11),
      fun S hS => aK rfl (aP rfl (bN (v := .d (.lit (.bool false))) (aA rfl) (aH hS rfl) c11 rfl rfl)),
      fun S hS => aK rfl (aP rfl (aD (v := .d (.lit (.bool (false)))) (aA rfl) (aH hS rfl) rfl)),
      fun S hS => aK rfl (bD rfl rfl (aA rfl) rfl (aA rfl) (aU hS rfl) c14),
      fun S hS => aK rfl (bD rfl rfl (aA rfl) rfl (aA rfl) (aU hS rfl) c14),
      fun S hS => aK rfl (bD rfl rfl (aA rfl) rfl (aA rfl) (aU hS rfl) c14),
      fun S hS => aK rfl (bD rfl rfl (aA rfl) rfl (aA rfl) (aU hS rfl) c14),
      fun S hS => aK rfl (bD rfl rfl (aA rfl) rfl (aA rfl) (aU hS rfl) c14),
      fun S hS => aK rfl (aP rfl (bN (v := .d (.lit (.bool false))) (aA rfl) (aH hS rfl) c14 rfl rfl)),
      fun S hS => aK rfl (aP rfl (aD (v := .d (.lit (.bool (false)))) (aA rfl) (aH hS rfl) rfl)),
      fun S hS => aK rfl (bD rfl rfl (aA rfl) rfl (aA rfl) (aU hS rfl) c19),
      fun S hS => aK rfl (bD rfl rfl (aA rfl) rfl (aA rfl) (aU hS rfl) c19),
      fun S hS => aK rfl (bD rfl rfl (aA rfl) rfl (aA rfl) (aU hS rfl) c19),
      fun S hS => aK rfl (bD rfl rfl (aA rfl) rfl (aA rfl) (aU hS rfl) c19),
      fun S hS => aK rfl (bD rfl rfl (aA rfl) rfl (aA rfl) (aU hS rfl) c19),
      fun S hS => aK rfl (bD rfl rfl (aA rfl) rfl (aA rfl) (aU hS rfl) c19),
      fun S hS => aK rfl (bD rfl rfl (aA rfl) rfl (aA rfl) (aU hS rfl) c19),
      fun S hS => aK rfl (bD rfl rfl (aA rfl) rfl (aA rfl) (aU hS rfl) c19),
      fun S hS => aK rfl (bD rfl rfl (aA rfl) rfl (aA rfl) (aU hS rfl) c19),
      fun S hS => aK rfl (bD rfl rfl (aA rfl) rfl (aA rfl) (aU hS rfl) c19),
      fun S hS => aK rfl (aP rfl (bN (v := .d (.lit (.bool false))) (aA rfl) (aH hS rfl) c19 rfl rfl)), trivial⟩⟩
    · exact eE (aN rfl (aX ⟨rfl, rfl, rfl, rfl, rfl, rfl, rfl, rfl, trivial⟩))
  ·refine aF ?_
   refine bJ rfl (fun c22 => ?_) (fun c22 => ?_)
   ·have h := aS c22 h
    refine aE ?_
    refine tr1 rfl (aD (v := .d (.lit w3)) (aA rfl) rfl rfl) ?_
    refine tr1 rfl (dE (aA rfl) rfl (i := 1) rfl dY (es := (aC x6)) rfl rfl) ?_
    refine tr1 rfl (jP (aA rfl) bY rfl rfl (rows := ([x6]).map aC) rfl (dD (f := aC) fun _ => rfl) rfl (by decide)) ?_
    obtain ⟨x23, h24, h⟩ := bind_some h
    refine bR rfl (oO (i := 0) (aA rfl) bY rfl rfl rfl (fun _ => rfl) h24 rfl) ?_
    rintro _ ⟨v25, rfl⟩
    refine tr1 rfl (aJ (v := .d (.lit v25)) (aA rfl) rfl rfl) ?_
    refine eB ?_
    refine aE ?_
    refine tr1 rfl (aZ (aA rfl) rfl rfl rfl) ?_
    refine tr1 rfl (aD (v := .d (.lit (.int .i64 ((w64 (t16_0_2 + 1)))))) (aA rfl) rfl rfl) ?_
    refine aF ?_
    exact ⟨(w64 (t16_0_2 + 1), x23, v25), h, aW [0] rfl rfl (aN rfl (aN rfl (aX ⟨rfl, rfl, rfl, rfl, rfl, trivial⟩)))⟩
   ·have h := aR c22 h
    refine eJ ?_
    refine aE ?_
    refine tr1 rfl (aZ (aA rfl) rfl rfl rfl) ?_
    refine tr1 rfl (aD (v := .d (.lit (.int .i64 ((w64 (t16_0_2 + 1)))))) (aA rfl) rfl rfl) ?_
    refine aF ?_
    exact ⟨(w64 (t16_0_2 + 1), out_0_2, w3), h, aW [0] rfl rfl (aN rfl (aN rfl (aX ⟨rfl, rfl, rfl, rfl, rfl, trivial⟩)))⟩
 ·have h := aR c5 h
  refine cU ?_
  refine .inl ⟨rfl, ?_⟩
  simp only [oN] at h
  refine aG ?_
  refine aE ?_
  refine tr1 rfl (aD (v := .d (.lit w3)) (aA rfl) rfl rfl) ?_
  refine tr1 rfl (aJ (v := .d (.lit w3)) (aA rfl) rfl rfl) ?_
  refine aF ?_
  have h := Option.some.inj h
  subst h
  refine cQ (cG (fW (k := 6) (v := .d (.sl 5 (out_0_2.map aC))) (.d (iB 0 rfl (dD (f := aC) fun _ => rfl))) (xR))) ?_
  exact bM ⟨rfl, _, .one _, rfl, rfl⟩

theorem wS (vals_0 : List Int) {r : Int} (h : oT vals_0 = some r) : Fn Try.prog 99 [.d (.sl 1 (vals_0.map cC))] (.d (.lit (.int .i64 r))) := by
 unfold oT at h
 refine Fn.of_tr Try.func99 rfl (rs := [.tmp 2]) Try.results99 Try.ntmps99 (Nat.le_of_ble_eq_true rfl) ?_
 refine aG ?_
 refine aE ?_
 refine tr1 rfl (aJ (v := .d (.lit (.int .i64 0))) (aA rfl) rfl rfl) ?_
 refine aF ?_
 refine aG ?_
 refine aE ?_
 refine tr1 rfl (aJ (v := .d (.lit (.int .i64 0))) (aA rfl) rfl rfl) ?_
 refine aF ?_
 refine aG ?_
 refine aG ?_
 refine aE ?_
 refine tr1 rfl (aD (v := .d (.sl 1 (vals_0.map cC))) (aA rfl) rfl rfl) ?_
 refine tr1 rfl (dX (aA rfl) rfl eO.of) ?_
 refine tr1 rfl (aD (v := .d (.lit (.int .i64 0))) (aA rfl) rfl rfl) ?_
 refine aF ?_
 refine bQ ?_
 refine cM [3, 6, 7] (fun (s1 : Int) => [(8, .d (.lit (.int .i64 s1)))]) (fun (s1 : Int) => []) (fun (k : Nat) (s1 : Int) => kZ 0 vals_0 (vals_0.length : Int) k s1) (fun _ => rfl) (0) h (aW [] rfl rfl (aN rfl (aX ⟨rfl, rfl, rfl, trivial⟩))) ?_
 rintro k2 t8_0_1 h
 simp only [kZ] at h
 refine aG ?_
 refine aE ?_
 refine tr1 rfl (bC (aA rfl) rfl rfl rfl) ?_
 refine aF ?_
 refine aG ?_
 refine bJ rfl (fun c3 => ?_) (fun c3 => ?_)
 ·have h := aS c3 h
  refine bI ?_
  refine aG ?_
  refine bQ ?_
  refine aG ?_
  refine aE ?_
  obtain ⟨x4, h5, h⟩ := bind_some h
  refine tr1 rfl (cE (aA rfl) rfl rfl eO.of (bP cC h5)) ?_
  refine tr1 rfl (cL (aA rfl) rfl bF) ?_
  refine tr1 rfl (aJ (v := .d (.lit (.int .i64 x4))) (aA rfl) rfl rfl) ?_
  refine aF ?_
  refine aG ?_
  refine aE ?_
  refine tr1 rfl (aD (v := .d (.lit (.int .i64 x4))) (aA rfl) rfl rfl) ?_
  refine tr1 rfl (aD (v := .d (.lit (.int .i64 0))) (aA rfl) rfl rfl) ?_
  refine tr1 rfl (bC (aA rfl) rfl rfl rfl) ?_
  refine aF ?_
  refine bJ rfl (fun c6 => ?_) (fun c6 => ?_)
  ·have h := aS c6 h
   refine aG ?_
   refine aE ?_
   refine tr1 rfl (aD (v := .d (.lit (.int .i64 x4))) (aA rfl) rfl rfl) ?_
   refine tr1 rfl (aJ (v := .d (.lit (.int .i64 x4))) (aA rfl) rfl rfl) ?_
   refine aF ?_
   have h := Option.some.inj h
   subst h
   exact bM ⟨rfl, _, .one _, rfl, rfl⟩
  ·have h := aR c6 h
   refine eJ ?_
   refine aE ?_
   refine tr1 rfl (aZ (aA rfl) rfl rfl rfl) ?_
   refine tr1 rfl (aD (v := .d (.lit (.int .i64 ((w64 (t8_0_1 + 1)))))) (aA rfl) rfl rfl) ?_
   refine aF ?_
   exact ⟨(w64 (t8_0_1 + 1)), h, aW [] rfl rfl (aN rfl (aX ⟨rfl, rfl, rfl, trivial⟩))⟩
 ·have h := aR c3 h
  refine cU ?_
  refine .inl ⟨rfl, ?_⟩
  simp only [sT] at h
  refine aG ?_
  refine aE ?_
  refine tr1 rfl (aD (v := .d (.lit (.int .i64 0))) (aA rfl) rfl rfl) ?_
  refine tr1 rfl (aJ (v := .d (.lit (.int .i64 0))) (aA rfl) rfl rfl) ?_
  refine aF ?_
  have h := Option.some.inj h
  subst h
  exact bM ⟨rfl, _, .one _, rfl, rfl⟩

theorem wJ (x_0 : aB) (y_1 : aB) {r : Int} (h : jV x_0 y_1 = some r) : Fn Try.prog 98 [.agg (aC x_0), .agg (aC y_1)] (.d (.lit (.int .i64 r))) := by
 unfold jV at h
 refine Fn.of_tr Try.func98 rfl (rs := [.tmp 4]) Try.results98 Try.ntmps98 (Nat.le_of_ble_eq_true rfl) ?_
 refine aG ?_
 refine aE ?_
 refine bR rfl (fJ (v := .agg (aC x_0)) (aA rfl) rfl rfl rfl) ?_
 rintro _ ⟨b1, rfl⟩
 refine bR rfl (fJ (v := .agg (aC y_1)) (aA rfl) rfl rfl rfl) ?_
 rintro _ ⟨b2, rfl⟩
 refine tr1 rfl (aJ (v := .d (.lit (.int .i64 0))) (aA rfl) rfl rfl) ?_
 refine aF ?_
 refine aG ?_
 refine bQ ?_
 refine aG ?_
 refine aE ?_
 refine tr1 rfl (aQ (aA rfl) rfl qG) ?_
 refine tr1 rfl (aT (aA rfl) rfl (i := 0) rfl rfl tE) ?_
 refine tr1 rfl (aQ (aA rfl) rfl qG) ?_
 refine tr1 rfl (aT (aA rfl) rfl (i := 1) rfl rfl tE) ?_
 refine tr1 rfl (aGm (aA rfl) rfl rfl Try.underlying4) ?_
 refine tr1 rfl (aD (v := .d (.lit (.bool ((!decide (x_0.Must = y_1.Must)))))) (aA rfl) rfl rfl) ?_
 obtain ⟨b3, h4, h⟩ := bind_some h
 refine bW 3 [2, 3] 14 b3 ?_ ?_
 ·refine bG (!decide (x_0.Must = y_1.Must)) (fun c9 => ?_) (fun c9 => ?_)
  ·have h4 := aS c9 h4
   refine aL rfl rfl (aA rfl) rfl c9 (aQ (aA rfl) rfl qG) ?_
   refine aL rfl rfl (aA rfl) rfl c9 (aT (aA rfl) rfl (i := 0) rfl rfl tE) ?_
   refine tr1 rfl (bO (v := .d (.lit (.bool x_0.Must))) (aA rfl) rfl c9 rfl rfl) ?_
   have h4 := Option.some.inj h4
   subst h4
   refine aF (aY rfl ⟨rfl, rfl, trivial⟩ rfl)
  ·have h4 := aR c9 h4
   refine aO rfl rfl (aA rfl) rfl (aA rfl) rfl c9 ?_
   refine aO rfl rfl (aA rfl) rfl (aA rfl) rfl c9 ?_
   refine tr1 rfl (bN (v := .d (.lit (.bool false))) (aA rfl) rfl c9 rfl rfl) ?_
   have h4 := Option.some.inj h4
   subst h4
   refine aF (aY rfl ⟨rfl, rfl, trivial⟩ rfl)
 ·refine tr1 rfl (aJ (v := .d (.lit (.bool b3))) (aA rfl) rfl rfl) ?_
  refine aF ?_
  refine bJ rfl (fun c5 => ?_) (fun c5 => ?_)
  ·have h := aS c5 h
   refine aG ?_
   refine aE ?_
   refine tr1 rfl (aJ (v := .d (.lit (.int .i64 (-1)))) (aA rfl) rfl rfl) ?_
   refine aF ?_
   have h := Option.some.inj h
   subst h
   refine cQ (cG (cK (l := [4]) ⟨rfl, trivial⟩)) ?_
   exact bM ⟨rfl, _, .one _, rfl, rfl⟩
  ·have h := aR c5 h
   refine aG ?_
   refine aE ?_
   refine tr1 rfl (aQ (aA rfl) rfl qG) ?_
   refine tr1 rfl (aT (aA rfl) rfl (i := 0) rfl rfl tE) ?_
   refine tr1 rfl (aQ (aA rfl) rfl qG) ?_
   refine tr1 rfl (aT (aA rfl) rfl (i := 1) rfl rfl tE) ?_
   refine tr1 rfl (aGm (aA rfl) rfl rfl Try.underlying4) ?_
   refine tr1 rfl (aJ (v := .d (.lit (.bool ((!decide (x_0.Must = y_1.Must)))))) (aA rfl) rfl rfl) ?_
   refine aF ?_
   refine bJ rfl (fun c6 => ?_) (fun c6 => ?_)
   ·have h := aS c6 h
    refine aG ?_
    refine aE ?_
    refine tr1 rfl (aJ (v := .d (.lit (.int .i64 1))) (aA rfl) rfl rfl) ?_
    refine aF ?_
    have h := Option.some.inj h
    subst h
    refine cQ (cG (cK (l := [4]) ⟨rfl, trivial⟩)) ?_
    exact bM ⟨rfl, _, .one _, rfl, rfl⟩
   ·have h := aR c6 h
    refine eJ ?_
    refine aG ?_
    refine aE ?_
    refine tr1 rfl (aQ (aA rfl) rfl rR) ?_
    refine tr1 rfl (aT (aA rfl) rfl (i := 1) rfl rfl bF) ?_
    refine tr1 rfl (aQ (aA rfl) rfl rR) ?_
    refine tr1 rfl (aT (aA rfl) rfl (i := 0) rfl rfl bF) ?_
    refine tr1 rfl (aZ (aA rfl) rfl rfl rfl) ?_
    refine tr1 rfl (aQ (aA rfl) rfl iP) ?_
    refine tr1 rfl (aT (aA rfl) rfl (i := 0) rfl rfl bF) ?_
    refine tr1 rfl (aQ (aA rfl) rfl iP) ?_
    refine tr1 rfl (aT (aA rfl) rfl (i := 1) rfl rfl bF) ?_
    refine tr1 rfl (aZ (aA rfl) rfl rfl rfl) ?_
    refine tr1 rfl (jP (aA rfl) eO rfl rfl (rows := ([w64 (y_1.Points - x_0.Points), w64 (x_0.Id - y_1.Id)]).map cC) rfl (dD (f := cC) fun _ => rfl) rfl (by decide)) ?_
    obtain ⟨r7, h8, h⟩ := bind_some h
    refine tr1 rfl (bZ (aA rfl) (.func _ _ Try.call99) rfl rfl (BVs.refl _ _) (wS _ h8) rfl) ?_
    refine tr1 rfl (aJ (v := .d (.lit (.int .i64 r7))) (aA rfl) rfl rfl) ?_
    refine aF ?_
    have h := Option.some.inj h
    subst h
    refine cQ (cG (cK (l := [4]) ⟨rfl, trivial⟩)) ?_
    exact bM ⟨rfl, _, .one _, rfl, rfl⟩

theorem pJ (b_0 : bT) (all_1 : List aB) {r : (List aB)} (h : jO b_0 all_1 = some r) : Fn Try.prog 71 [.cp (cF b_0), .d (.sl 5 (all_1.map aC))] (.d (.sl 5 (r.map aC))) := by
 unfold jO at h
 refine Fn.of_tr Try.func71 rfl (rs := [.tmp 4]) Try.results71 Try.ntmps71 (Nat.le_of_ble_eq_true rfl) ?_
 refine aG ?_
 refine aE ?_
 refine tr1 rfl (sF 5 (aA rfl)) ?_
 refine aF ?_
 refine aG ?_
 refine aE ?_
 refine tr1 rfl (aD (v := .d (.sl 5 (all_1.map aC))) (aA rfl) rfl rfl) ?_
 obtain ⟨r1, h2, h⟩ := bind_some h
 refine bR rfl (vW (aA rfl) (.func _ _ Try.call91) rfl rfl (nQ _ h2)) ?_
 rintro _ ⟨v3, rfl⟩
 refine tr1 rfl (aJ (v := .d (.lit v3)) (aA rfl) rfl rfl) ?_
 refine aF ?_
 refine aG ?_
 refine aE ?_
 refine tr1 rfl (aD (v := .d (.lit v3)) (aA rfl) rfl rfl) ?_
 obtain ⟨r6, h7, h⟩ := bind_some h
 refine bR rfl (dM (passed := [.arr v3 42 5 (r1.map aC)]) (aA rfl) rfl (.func _ _ Try.call92) rfl rfl (lF r1 (fun y4 y5 => jV y4 y5) 98 [] Try.call98 (fun _ _ _ h => wJ _ _ h) h7)) ?_
 rintro _ ⟨_, _, ⟨rfl, rfl⟩, rfl⟩
 refine aF ?_
 refine aG ?_
 refine aE ?_
 refine tr1 rfl (aJ (v := .d (.lit (.int .i64 0))) (aA rfl) rfl rfl) ?_
 refine aF ?_
 refine aG ?_
 refine aG ?_
 refine aE ?_
 refine tr1 rfl (aD (v := .d (.lit v3)) (aA rfl) rfl rfl) ?_
 refine tr1 rfl (lI (m := 0) (aA rfl) rfl rfl bY.of) ?_
 refine tr1 rfl (aD (v := .d (.lit (.int .i64 0))) (aA rfl) rfl rfl) ?_
 refine aF ?_
 refine bQ ?_
 refine cM [0, 5, 13, 14] (fun (s8 : Int × Int) => [(6, .d (.lit (.int .i64 s8.1))), (15, .d (.lit (.int .i64 s8.2)))]) (fun (s8 : Int × Int) => [.arr v3 42 5 (r6.map aC)]) (fun (k : Nat) (s8 : Int × Int) => fQ b_0 (r6.length : Int) r6 k s8.1 s8.2) (fun _ => rfl) (0, 0) h (aW [0] rfl rfl (aN rfl (aN rfl (aX ⟨rfl, rfl, rfl, rfl, trivial⟩)))) ?_
 rintro k9 ⟨musts_0_8, t15_0_8⟩ h
 simp only [fQ] at h
 refine aG ?_
 refine aE ?_
 refine tr1 rfl (bC (aA rfl) rfl rfl rfl) ?_
 refine aF ?_
 refine aG ?_
 refine bJ rfl (fun c10 => ?_) (fun c10 => ?_)
 ·have h := aS c10 h
  refine bI ?_
  refine aG ?_
  refine bQ ?_
  refine aG ?_
  refine aE ?_
  obtain ⟨x11, h12, h⟩ := bind_some h
  refine tr1 rfl (cD (m := 0) (aA rfl) rfl rfl rfl bY.of (bP aC h12)) ?_
  refine tr1 rfl (dC (aA rfl) rfl (l := 0) rfl (dW aC h12) dY (es := (aC x11)) rfl rfl) ?_
  refine bR rfl (fY (zs := [.lit (.int .i64 0), .lit (.int .i64 0), .lit (.int .i64 0), .lit (.int .i64 0), .lit (.bool false)]) (aA rfl) Try.zeroValue42 rfl rfl) ?_
  rintro _ ⟨b13, rfl⟩
  refine tr1 rfl (cA (i := 1) rfl rfl rfl rfl rfl Try.sizeOf42 rfl (aA rfl) (Nat.le_of_ble_eq_true rfl) (ds' := (aC x11)) rfl) ?_
  refine aF ?_
  refine aG ?_
  refine aE ?_
  refine tr1 rfl (aQ (aA rfl) rfl qG) ?_
  refine tr1 rfl (aT (aA rfl) rfl (i := 1) rfl rfl tE) ?_
  refine aF ?_
  refine bJ rfl (fun c14 => ?_) (fun c14 => ?_)
  ·have h := aS c14 h
   refine aE ?_
   refine tr1 rfl (aD (v := .d (.lit (.int .i64 musts_0_8))) (aA rfl) rfl rfl) ?_
   refine tr1 rfl (aZ (aA rfl) rfl rfl rfl) ?_
   refine tr1 rfl (aJ (v := .d (.lit (.int .i64 ((w64 (musts_0_8 + 1)))))) (aA rfl) rfl rfl) ?_
   refine eB ?_
   refine aE ?_
   refine tr1 rfl (aZ (aA rfl) rfl rfl rfl) ?_
   refine tr1 rfl (aD (v := .d (.lit (.int .i64 ((w64 (t15_0_8 + 1)))))) (aA rfl) rfl rfl) ?_
   refine aF ?_
   exact ⟨(w64 (musts_0_8 + 1), w64 (t15_0_8 + 1)), h, aW [0] rfl rfl (aN rfl (aN rfl (aX ⟨rfl, rfl, rfl, rfl, trivial⟩)))⟩
  ·have h := aR c14 h
   refine eJ ?_
   refine aE ?_
   refine tr1 rfl (aZ (aA rfl) rfl rfl rfl) ?_
   refine tr1 rfl (aD (v := .d (.lit (.int .i64 ((w64 (t15_0_8 + 1)))))) (aA rfl) rfl rfl) ?_
   refine aF ?_
   exact ⟨(musts_0_8, w64 (t15_0_8 + 1)), h, aW [0] rfl rfl (aN rfl (aN rfl (aX ⟨rfl, rfl, rfl, rfl, trivial⟩)))⟩
 ·have h := aR c10 h
  refine cU ?_
  refine .inl ⟨rfl, ?_⟩
  simp only [kW] at h
  refine aG ?_
  refine aE ?_
  refine tr1 rfl (aD (v := .d (.lit v3)) (aA rfl) rfl rfl) ?_
  refine tr1 rfl (aD (v := .d (.lit v3)) (aA rfl) rfl rfl) ?_
  refine tr1 rfl (lI (m := 0) (aA rfl) rfl rfl bY.of) ?_
  refine tr1 rfl (aD (v := .d (.lit (.int .i64 musts_0_8))) (aA rfl) rfl rfl) ?_
  refine tr1 rfl (aD (v := .cp [.lit (.int .i64 b_0.Ledger.Players), .lit (.int .i64 b_0.Ledger.Counts), .sl 5 (b_0.Ledger.Reports.map aC), .sl 3 (b_0.Ledger.Bans.map aI), .sl 3 (b_0.Ledger.Frozen.map aI)]) (aA rfl) rfl rfl) ?_
  refine tr1 rfl (oZ (aA rfl) rfl) ?_
  refine tr1 rfl (cP (aA rfl) rfl gM (es := [.lit (.int .i64 b_0.Ledger.Players), .lit (.int .i64 b_0.Ledger.Counts), .sl 5 (b_0.Ledger.Reports.map aC), .sl 3 (b_0.Ledger.Bans.map aI), .sl 3 (b_0.Ledger.Frozen.map aI)]) rfl) ?_
  refine tr1 rfl (cP (aA rfl) rfl vR (es := [.lit (.int .i64 b_0.Ledger.Counts)]) rfl) ?_
  refine tr1 rfl (cL (aA rfl) rfl bF) ?_
  refine tr1 rfl (aBe (aA rfl) rfl rfl) ?_
  refine tr1 rfl (aEl (aA rfl) rfl rfl) ?_
  refine fK (zY [] [.arr v3 42 5 (r6.map aC)] rfl (fW (k := 25) (v := .d (.sl 5 (r6.map aC))) (.d (iB 0 rfl (dD (f := aC) fun _ => rfl))) (fW (k := 24) (v := .d (.sl 5 (r6.map aC))) (.d (iB 0 rfl (dD (f := aC) fun _ => rfl))) (fW (k := 13) (v := .d (.sl 5 (r6.map aC))) (.d (iB 0 rfl (dD (f := aC) fun _ => rfl))) (fW (k := 5) (v := .d (.sl 5 (r6.map aC))) (.d (iB 0 rfl (dD (f := aC) fun _ => rfl))) (rP _ _)))))) ?_
  obtain ⟨x15, h16, h⟩ := bind_some h
  refine tr1 rfl (pA (aA rfl) bY.of rfl rfl rfl (rZ aC h16)) ?_
  refine tr1 rfl (aJ (v := .d (.sl 5 (x15.map aC))) (aA rfl) rfl rfl) ?_
  refine aF ?_
  have h := Option.some.inj h
  subst h
  exact bM ⟨rfl, _, .one _, rfl, rfl⟩

theorem zO (l_0 : List aB) {r : Int} (h : rW l_0 = some r) : Fn Try.prog 86 [.d (.sl 5 (l_0.map aC))] (.d (.lit (.int .i64 r))) := by
 unfold rW at h
 refine Fn.of_tr Try.func86 rfl (rs := [.tmp 2]) Try.results86 Try.ntmps86 (Nat.le_of_ble_eq_true rfl) ?_
 refine aG ?_
 refine aE ?_
 refine tr1 rfl (aJ (v := .d (.lit (.int .i64 0))) (aA rfl) rfl rfl) ?_
 refine aF ?_
 refine aG ?_
 refine aG ?_
 refine aE ?_
 refine tr1 rfl (aD (v := .d (.sl 5 (l_0.map aC))) (aA rfl) rfl rfl) ?_
 refine tr1 rfl (dX (aA rfl) rfl bY.of) ?_
 refine tr1 rfl (aD (v := .d (.lit (.int .i64 0))) (aA rfl) rfl rfl) ?_
 refine aF ?_
 refine bQ ?_
 refine cM [5, 6] (fun (s1 : Int × Int) => [(2, .d (.lit (.int .i64 s1.1))), (7, .d (.lit (.int .i64 s1.2)))]) (fun (s1 : Int × Int) => []) (fun (k : Nat) (s1 : Int × Int) => mZ l_0 (l_0.length : Int) k s1.1 s1.2) (fun _ => rfl) (0, 0) h (aW [] rfl rfl (aN rfl (aN rfl (aX ⟨rfl, rfl, trivial⟩)))) ?_
 rintro k2 ⟨n_0_1, t7_0_1⟩ h
 simp only [mZ] at h
 refine aG ?_
 refine aE ?_
 refine tr1 rfl (bC (aA rfl) rfl rfl rfl) ?_
 refine aF ?_
 refine aG ?_
 refine bJ rfl (fun c3 => ?_) (fun c3 => ?_)
 ·have h := aS c3 h
  refine bI ?_
  refine aG ?_
  refine bQ ?_
  refine aG ?_
  refine aE ?_
  obtain ⟨x4, h5, h⟩ := bind_some h
  refine tr1 rfl (cE (aA rfl) rfl rfl bY.of (bP aC h5)) ?_
  refine tr1 rfl (gN (aA rfl) rfl dY (es := (aC x4)) rfl rfl) ?_
  refine bR rfl (fY (zs := [.lit (.int .i64 0), .lit (.int .i64 0), .lit (.int .i64 0), .lit (.int .i64 0), .lit (.bool false)]) (aA rfl) Try.zeroValue42 rfl rfl) ?_
  rintro _ ⟨b6, rfl⟩
  refine tr1 rfl (cA (i := 0) rfl rfl rfl rfl rfl Try.sizeOf42 rfl (aA rfl) (Nat.le_of_ble_eq_true rfl) (ds' := (aC x4)) rfl) ?_
  refine aF ?_
  refine aE ?_
  refine tr1 rfl (aD (v := .d (.lit (.int .i64 n_0_1))) (aA rfl) rfl rfl) ?_
  refine tr1 rfl (aQ (aA rfl) rfl rR) ?_
  refine tr1 rfl (aT (aA rfl) rfl (i := 0) rfl rfl bF) ?_
  refine tr1 rfl (aZ (aA rfl) rfl rfl rfl) ?_
  refine tr1 rfl (aJ (v := .d (.lit (.int .i64 ((w64 (n_0_1 + x4.Points)))))) (aA rfl) rfl rfl) ?_
  refine eB ?_
  refine aE ?_
  refine tr1 rfl (aZ (aA rfl) rfl rfl rfl) ?_
  refine tr1 rfl (aD (v := .d (.lit (.int .i64 ((w64 (t7_0_1 + 1)))))) (aA rfl) rfl rfl) ?_
  refine aF ?_
  exact ⟨(w64 (n_0_1 + x4.Points), w64 (t7_0_1 + 1)), h, aW [] rfl rfl (aN rfl (aN rfl (aX ⟨rfl, rfl, trivial⟩)))⟩
 ·have h := aR c3 h
  refine cU ?_
  refine .inl ⟨rfl, ?_⟩
  simp only [uS] at h
  refine aG ?_
  refine aE ?_
  refine tr1 rfl (aD (v := .d (.lit (.int .i64 n_0_1))) (aA rfl) rfl rfl) ?_
  refine tr1 rfl (aJ (v := .d (.lit (.int .i64 n_0_1))) (aA rfl) rfl rfl) ?_
  refine aF ?_
  have h := Option.some.inj h
  subst h
  exact bM ⟨rfl, _, .one _, rfl, rfl⟩

theorem zJ (x : Int) {r : Int} (h : pX x = some r) : Fn Try.prog 101 [.d (.lit (.int .u64 x))] (.d (.lit (.int .i64 r))) := aGs (fun x w => Try.bits_Len x w) h

theorem nR (data_0 : List bB) (a_1 : Int) (b_2 : Int) (cmp_3 : bB → bB → Option Int) {r : (List bB)} {data_0_v : Value} (cmp_3_f : Nat) (cmp_3_v : List AV) (cmp_3_e : ∀ args w, (callFunc cmp_3_f args).run Try.prog w = .ok (.enter cmp_3_f args) w) (cmp_3_h : ∀ (x0 : bB) (x1 : bB) r, cmp_3 x0 x1 = some r → Fn Try.prog cmp_3_f ([.agg (bK x0), .agg (bK x1)] ++ cmp_3_v) (.d (.lit (.int .i64 r)))) (h : dK data_0 a_1 b_2 cmp_3 = some r) : fM Try.prog 118 [.d (.lit data_0_v), .d (.lit (.int .i64 a_1)), .d (.lit (.int .i64 b_2)), .fn cmp_3_f cmp_3_v] [.arr data_0_v 114 4 (data_0.map bK)] (fun r' o' => r' = .tup [] ∧ o' = [.arr data_0_v 114 4 (r.map bK)]) := by
 unfold dK at h
 refine jB Try.func118 rfl (rs := []) Try.results118 Try.ntmps118 (Nat.le_of_ble_eq_true rfl) ?_
 refine aG ?_
 refine aE ?_
 refine tr1 rfl (aD (v := .d (.lit (.int .i64 a_1))) (aA rfl) rfl rfl) ?_
 refine tr1 rfl (aZ (aA rfl) rfl rfl rfl) ?_
 refine tr1 rfl (aJ (v := .d (.lit (.int .i64 ((w64 (a_1 + 1)))))) (aA rfl) rfl rfl) ?_
 refine aF ?_
 refine bQ ?_
 refine cM [1, 2, 3] (fun (s1 : Int × (List bB)) => [(0, .d (.lit data_0_v)), (8, .d (.lit (.int .i64 s1.1)))]) (fun (s1 : Int × (List bB)) => [.arr data_0_v 114 4 (s1.2.map bK)]) (fun (k : Nat) (s1 : Int × (List bB)) => cI a_1 b_2 cmp_3 k s1.1 s1.2) (fun _ => rfl) (w64 (a_1 + 1), data_0) h (aW [0] rfl rfl (aN rfl (aN rfl (aX ⟨rfl, rfl, rfl, trivial⟩)))) ?_
 rintro k2 ⟨i_0_1, data_0_1⟩ h
 simp only [cI] at h
 refine aG ?_
 refine aG ?_
 refine aE ?_
 refine tr1 rfl (aD (v := .d (.lit (.int .i64 i_0_1))) (aA rfl) rfl rfl) ?_
 refine tr1 rfl (aD (v := .d (.lit (.int .i64 b_2))) (aA rfl) rfl rfl) ?_
 refine tr1 rfl (bC (aA rfl) rfl rfl rfl) ?_
 refine aF ?_
 refine bJ rfl (fun c3 => ?_) (fun c3 => ?_)
 ·have h := aS c3 h
  refine bI ?_
  refine aG ?_
  refine bQ ?_
  refine aG ?_
  refine aE ?_
  refine tr1 rfl (aD (v := .d (.lit (.int .i64 i_0_1))) (aA rfl) rfl rfl) ?_
  refine tr1 rfl (aJ (v := .d (.lit (.int .i64 i_0_1))) (aA rfl) rfl rfl) ?_
  refine aF ?_
  refine xU ?_
  refine cM [1, 2, 3, 8] (fun (s4 : Int × (List bB)) => [(0, .d (.lit data_0_v)), (9, .d (.lit (.int .i64 s4.1)))]) (fun (s4 : Int × (List bB)) => [.arr data_0_v 114 4 (s4.2.map bK)]) (fun (k : Nat) (s4 : Int × (List bB)) => cW (cI a_1 b_2 cmp_3 k2) a_1 b_2 cmp_3 i_0_1 k s4.1 s4.2) (fun _ => rfl) (i_0_1, data_0_1) h (aW [0] rfl rfl (aN rfl (aN rfl (aX ⟨rfl, rfl, rfl, rfl, trivial⟩)))) ?_
  rintro k5 ⟨j_2_4, data_2_4⟩ h
  simp only [cW] at h
  refine aG ?_
  refine aG ?_
  obtain ⟨b6, h7, h⟩ := bind_some h
  refine gO mix 17 [0, 1, 2, 3, 8, 9] [(34, .d (.lit (.bool b6)))] ?_ ?_
  ·refine bG (decide (a_1 < j_2_4)) (fun c8 => ?_) (fun c8 => ?_)
   ·have h7 := aS c8 h7
    obtain ⟨x9, h10, h7⟩ := bind_some h7
    obtain ⟨x11, h12, h7⟩ := bind_some h7
    obtain ⟨r13, h14, h7⟩ := bind_some h7
    have h7 := Option.some.inj h7
    subst h7
    refine ⟨[(18, 0, .d (.lit (.int .i64 j_2_4))), (19, 1, .d (.lit (.int .i64 a_1))), (20, 2, .d (.lit (.bool ((decide (a_1 < j_2_4)))))), (21, 3, .d (.lit (.bool ((decide (a_1 < j_2_4)))))), (22, 4, .fn cmp_3_f cmp_3_v), (23, 5, .d (.lit data_0_v)), (24, 6, .d (.lit (.int .i64 j_2_4))), (25, 7, .ep data_0_v 4 j_2_4.toNat 0), (26, 8, .agg (bK x9)), (27, 9, .d (.lit data_0_v)), (28, 10, .d (.lit (.int .i64 j_2_4))), (29, 11, .d (.lit (.int .i64 ((w64 (j_2_4 - 1)))))), (30, 12, .ep data_0_v 4 (w64 (j_2_4 - 1)).toNat 0), (31, 13, .agg (bK x11)), (32, 14, .d (.lit (.int .i64 r13))), (33, 15, .d (.lit (.bool ((decide (r13 < 0)))))), (34, 16, .d (.lit (.bool ((decide (r13 < 0))))))], ?_, ?_⟩
    · exact ⟨by kernel_rfl, by kernel_rfl, by kernel_rfl, by kernel_rfl, by kernel_rfl, [([], []), ([], []), ([0, 1], []), ([2], []), ([3], []), ([3], []), ([3], []), ([3, 5, 6], []), ([3, 7], []), ([3], []), ([3], []), ([3, 10], []), ([3, 9, 11], []), ([3, 12], []), ([3, 4, 8, 13], []), ([3, 14], []), ([3, 15], [])], by kernel_rfl, ⟨fun S hS => aK rfl (aP rfl (aD (v := .d (.lit (.int .i64 j_2_4))) (aA rfl) (aH hS rfl) rfl)),
      fun S hS => aK rfl (aP rfl (aD (v := .d (.lit (.int .i64 a_1))) (aA rfl) (aH hS rfl) rfl)),
      fun S hS => aK rfl (aP rfl (bC (aA rfl) (aH hS rfl) (aH hS rfl) rfl)),
      fun S hS => aK rfl (aP rfl (aD (v := .d (.lit (.bool ((decide (a_1 < j_2_4)))))) (aA rfl) (aH hS rfl) rfl)),
      fun S hS => aK rfl (bH rfl rfl (aA rfl) (aU hS rfl) c8 (aD (v := .fn cmp_3_f cmp_3_v) (aA rfl) (aH hS rfl) rfl)),
      fun S hS => aK rfl (bH rfl rfl (aA rfl) (aU hS rfl) c8 (aD (v := .d (.lit data_0_v)) (aA rfl) (aH hS rfl) rfl)),
      fun S hS => aK rfl (bH rfl rfl (aA rfl) (aU hS rfl) c8 (aD (v := .d (.lit (.int .i64 j_2_4))) (aA rfl) (aH hS rfl) rfl)),
      fun S hS => aK rfl (bH rfl rfl (aA rfl) (aU hS rfl) c8 (cD (m := 0) (aA rfl) (aH hS rfl) rfl (aH hS rfl) oQ.of (bP bK h10))),
      fun S hS => aK rfl (bH rfl rfl (aA rfl) (aU hS rfl) c8 (dC (aA rfl) (aH hS rfl) (l := 0) rfl (dW bK h10) tG (es := (bK x9)) rfl rfl)),
      fun S hS => aK rfl (bH rfl rfl (aA rfl) (aU hS rfl) c8 (aD (v := .d (.lit data_0_v)) (aA rfl) (aH hS rfl) rfl)),
      fun S hS => aK rfl (bH rfl rfl (aA rfl) (aU hS rfl) c8 (aD (v := .d (.lit (.int .i64 j_2_4))) (aA rfl) (aH hS rfl) rfl)),
      fun S hS => aK rfl (bH rfl rfl (aA rfl) (aU hS rfl) c8 (aZ (aA rfl) (aH hS rfl) rfl rfl)),
      fun S hS => aK rfl (bH rfl rfl (aA rfl) (aU hS rfl) c8 (cD (m := 0) (aA rfl) (aH hS rfl) rfl (aH hS rfl) oQ.of (bP bK h12))),
      fun S hS => aK rfl (bH rfl rfl (aA rfl) (aU hS rfl) c8 (dC (aA rfl) (aH hS rfl) (l := 0) rfl (dW bK h12) tG (es := (bK x11)) rfl rfl)),
      fun S hS => aK rfl (bH rfl rfl (aA rfl) (aU hS rfl) c8 (bZ (aA rfl) (.clo _ _ _ _ cmp_3_e (aU hS rfl)) (tP (ev2 (aH hS rfl) (ev2 (aH hS rfl) evn))) rfl (BVs.refl _ _) (cmp_3_h _ _ _  h14) rfl)),
      fun S hS => aK rfl (bH rfl rfl (aA rfl) (aU hS rfl) c8 (bC (aA rfl) (aH hS rfl) rfl rfl)),
      fun S hS => aK rfl (aP rfl (bO (v := .d (.lit (.bool ((decide (r13 < 0)))))) (aA rfl) (aH hS rfl) c8 (aH hS rfl) rfl)), trivial⟩⟩
    · exact eE (aN rfl (aX ⟨rfl, rfl, rfl, rfl, rfl, rfl, trivial⟩))
   ·have h7 := aR c8 h7
    have h7 := Option.some.inj h7
    subst h7
    refine ⟨[(18, 0, .d (.lit (.int .i64 j_2_4))), (19, 1, .d (.lit (.int .i64 a_1))), (20, 2, .d (.lit (.bool ((decide (a_1 < j_2_4)))))), (21, 3, .d (.lit (.bool ((decide (a_1 < j_2_4)))))), (22, 4, .tup []), (23, 5, .tup []), (24, 6, .tup []), (25, 7, .tup []), (26, 8, .tup []), (27, 9, .tup []), (28, 10, .tup []), (29, 11, .tup []), (30, 12, .tup []), (31, 13, .tup []), (32, 14, .tup []), (33, 15, .tup []), (34, 16, .d (.lit (.bool false)))], ?_, ?_⟩
    · exact ⟨by kernel_rfl, by kernel_rfl, by kernel_rfl, by kernel_rfl, by kernel_rfl, [([], []), ([], []), ([0, 1], []), ([2], []), ([3], []), ([3], []), ([3], []), ([3, 5, 6], []), ([3, 7], []), ([3], []), ([3], []), ([3, 10], []), ([3, 9, 11], []), ([3, 12], []), ([3, 4, 8, 13], []), ([3, 14], []), ([3, 15], [])], by kernel_rfl, ⟨fun S hS => aK rfl (aP rfl (aD (v := .d (.lit (.int .i64 j_2_4))) (aA rfl) (aH hS rfl) rfl)),
      fun S hS => aK rfl (aP rfl (aD (v := .d (.lit (.int .i64 a_1))) (aA rfl) (aH hS rfl) rfl)),
      fun S hS => aK rfl (aP rfl (bC (aA rfl) (aH hS rfl) (aH hS rfl) rfl)),
      fun S hS => aK rfl (aP rfl (aD (v := .d (.lit (.bool ((decide (a_1 < j_2_4)))))) (aA rfl) (aH hS rfl) rfl)),
      fun S hS => aK rfl (bD rfl rfl (aA rfl) rfl (aA rfl) (aU hS rfl) c8),
      fun S hS => aK rfl (bD rfl rfl (aA rfl) rfl (aA rfl) (aU hS rfl) c8),
      fun S hS => aK rfl (bD rfl rfl (aA rfl) rfl (aA rfl) (aU hS rfl) c8),
      fun S hS => aK rfl (bD rfl rfl (aA rfl) rfl (aA rfl) (aU hS rfl) c8),
      fun S hS => aK rfl (bD rfl rfl (aA rfl) rfl (aA rfl) (aU hS rfl) c8),
      fun S hS => aK rfl (bD rfl rfl (aA rfl) rfl (aA rfl) (aU hS rfl) c8),
      fun S hS => aK rfl (bD rfl rfl (aA rfl) rfl (aA rfl) (aU hS rfl) c8),
      fun S hS => aK rfl (bD rfl rfl (aA rfl) rfl (aA rfl) (aU hS rfl) c8),
      fun S hS => aK rfl (bD rfl rfl (aA rfl) rfl (aA rfl) (aU hS rfl) c8),
      fun S hS => aK rfl (bD rfl rfl (aA rfl) rfl (aA rfl) (aU hS rfl) c8),
      fun S hS => aK rfl (bD rfl rfl (aA rfl) rfl (aA rfl) (aU hS rfl) c8),
      fun S hS => aK rfl (bD rfl rfl (aA rfl) rfl (aA rfl) (aU hS rfl) c8),
      fun S hS => aK rfl (aP rfl (bN (v := .d (.lit (.bool false))) (aA rfl) (aH hS rfl) c8 rfl rfl)), trivial⟩⟩
    · exact eE (aN rfl (aX ⟨rfl, rfl, rfl, rfl, rfl, rfl, trivial⟩))
  ·refine aF ?_
   refine bJ rfl (fun c15 => ?_) (fun c15 => ?_)
   ·have h := aS c15 h
    refine bI ?_
    refine aG ?_
    refine bQ ?_
    obtain ⟨x17, h18, h⟩ := bind_some h
    obtain ⟨x19, h20, h⟩ := bind_some h
    obtain ⟨x21, h22, h⟩ := bind_some h
    refine mP mix 16 [0, 1, 2, 3, 8, 9] (fun X16 => [(39, .d (.lit data_0_v)), (41, .d (.lit (.int .i64 ((w64 (j_2_4 - 1)))))), (50, .agg (bK x19))]) (fun X16 => [.arr data_0_v 114 4 ((data_2_4.set j_2_4.toNat x17).map bK)]) ?_ ?_
    ·refine ⟨0, fun X16 => [(37, 0, .d (.lit data_0_v)), (38, 1, .d (.lit (.int .i64 j_2_4))), (39, 2, .d (.lit data_0_v)), (40, 3, .d (.lit (.int .i64 j_2_4))), (41, 4, .d (.lit (.int .i64 ((w64 (j_2_4 - 1)))))), (42, 5, .d (.lit data_0_v)), (43, 6, .d (.lit (.int .i64 j_2_4))), (44, 7, .d (.lit (.int .i64 ((w64 (j_2_4 - 1)))))), (45, 8, .ep data_0_v 4 (w64 (j_2_4 - 1)).toNat 0), (46, 9, .agg (bK x17)), (47, 10, .d (.lit data_0_v)), (48, 11, .d (.lit (.int .i64 j_2_4))), (49, 12, .ep data_0_v 4 j_2_4.toNat 0), (50, 13, .agg (bK x19)), (51, 14, .ep data_0_v 4 j_2_4.toNat 0)], fun X16 => [([(15, .arr data_0_v 114 4 ((data_2_4.set j_2_4.toNat x17).map bK))], .arr data_0_v 114 4 (data_2_4.map bK))], ?_, ?_⟩
     · exact ⟨by kernel_rfl, by kernel_rfl, by kernel_rfl, fun _ => by kernel_rfl, fun _ => by kernel_rfl, fun _ => by kernel_rfl, fun _ => rfl, [([], [15]), ([], [15]), ([], []), ([], []), ([3], []), ([], [15]), ([], [15]), ([6], [15]), ([5, 7], [15]), ([8], [15]), ([], [15]), ([], [15]), ([10, 11], [15]), ([12], [15]), ([0, 1], [15]), ([9, 14], [])], by kernel_rfl, ⟨fun X16 S hw hi hS => bL (X := X16) rfl (hw X16) rfl (aP rfl (aD (v := .d (.lit data_0_v)) (aA rfl) (aH hS rfl) rfl)),
      fun X16 S hw hi hS => bL (X := X16) rfl (hw X16) rfl (aP rfl (aD (v := .d (.lit (.int .i64 j_2_4))) (aA rfl) (aH hS rfl) rfl)),
      fun X16 S hw hi hS => bL (X := X16) rfl (hw X16) rfl (aP rfl (aD (v := .d (.lit data_0_v)) (aA rfl) (aH hS rfl) rfl)),
      fun X16 S hw hi hS => bL (X := X16) rfl (hw X16) rfl (aP rfl (aD (v := .d (.lit (.int .i64 j_2_4))) (aA rfl) (aH hS rfl) rfl)),
      fun X16 S hw hi hS => bL (X := X16) rfl (hw X16) rfl (aP rfl (aZ (aA rfl) (aH hS rfl) rfl rfl)),
      fun X16 S hw hi hS => bL (X := X16) rfl (hw X16) rfl (aP rfl (aD (v := .d (.lit data_0_v)) (aA rfl) (aH hS rfl) rfl)),
      fun X16 S hw hi hS => bL (X := X16) rfl (hw X16) rfl (aP rfl (aD (v := .d (.lit (.int .i64 j_2_4))) (aA rfl) (aH hS rfl) rfl)),
      fun X16 S hw hi hS => bL (X := X16) rfl (hw X16) rfl (aP rfl (aZ (aA rfl) (aH hS rfl) rfl rfl)),
      fun X16 S hw hi hS => bL (X := X16) rfl (hw X16) rfl (aP rfl (cD (m := 0) (aA rfl) (aH hS rfl) (og hS rfl rfl) (aH hS rfl) oQ.of (bP bK h18))),
      fun X16 S hw hi hS => bL (X := X16) rfl (hw X16) rfl (aP rfl (dC (aA rfl) (aH hS rfl) (l := 0) (og hS rfl rfl) (dW bK h18) tG (es := (bK x17)) rfl rfl)),
      fun X16 S hw hi hS => bL (X := X16) rfl (hw X16) rfl (aP rfl (aD (v := .d (.lit data_0_v)) (aA rfl) (aH hS rfl) rfl)),
      fun X16 S hw hi hS => bL (X := X16) rfl (hw X16) rfl (aP rfl (aD (v := .d (.lit (.int .i64 j_2_4))) (aA rfl) (aH hS rfl) rfl)),
      fun X16 S hw hi hS => bL (X := X16) rfl (hw X16) rfl (aP rfl (cD (m := 0) (aA rfl) (aH hS rfl) (og hS rfl rfl) (aH hS rfl) oQ.of (bP bK h20))),
      fun X16 S hw hi hS => bL (X := X16) rfl (hw X16) rfl (aP rfl (dC (aA rfl) (aH hS rfl) (l := 0) (og hS rfl rfl) (dW bK h20) tG (es := (bK x19)) rfl rfl)),
      fun X16 S hw hi hS => bL (X := X16) rfl (hw X16) rfl (aP rfl (cD (m := 0) (aA rfl) (aH hS rfl) (og hS rfl rfl) (aH hS rfl) oQ.of (bP bK h22))),
      fun X16 S hw hi hS => qQ (X := X16) hS rfl rfl rfl (p := 0) rfl rfl (aP rfl (jF (l := 0) (aH hS rfl) (og hS rfl rfl) (dW bK h22) (aH hS rfl) rfl rfl Try.sizeOf114 rfl (aA rfl) (Nat.le_of_ble_eq_true rfl) (rows' := ((data_2_4.set j_2_4.toNat x17)).map bK) (mE _ _ _ _ rfl))), trivial⟩⟩
     · exact fun X16 => eE (aN rfl (aN rfl (aN rfl (aX ⟨rfl, rfl, rfl, rfl, rfl, rfl, trivial⟩))))
    ·intro X16
     obtain ⟨x23, h24, h⟩ := bind_some h
     refine tr1 rfl (cD (m := 0) (aA rfl) rfl rfl rfl oQ.of (bP bK h24)) ?_
     refine tr1 rfl (jF (l := 0) rfl rfl (dW bK h24) rfl rfl rfl Try.sizeOf114 rfl (aA rfl) (Nat.le_of_ble_eq_true rfl) (rows' := (((data_2_4.set j_2_4.toNat x17).set (w64 (j_2_4 - 1)).toNat x19)).map bK) (mE _ _ _ _ rfl)) ?_
     refine eB ?_
     refine aE ?_
     refine tr1 rfl (aD (v := .d (.lit (.int .i64 j_2_4))) (aA rfl) rfl rfl) ?_
     refine tr1 rfl (aZ (aA rfl) rfl rfl rfl) ?_
     refine tr1 rfl (aJ (v := .d (.lit (.int .i64 ((w64 (j_2_4 - 1)))))) (aA rfl) rfl rfl) ?_
     refine aF ?_
     exact ⟨(w64 (j_2_4 - 1), ((data_2_4.set j_2_4.toNat x17).set (w64 (j_2_4 - 1)).toNat x19)), h, aW [0] rfl rfl (aN rfl (aN rfl (aX ⟨rfl, rfl, rfl, rfl, trivial⟩)))⟩
   ·have h := aR c15 h
    refine cU ?_
    refine .inl ⟨rfl, ?_⟩
    simp only [fC] at h
    simp only [fB] at h
    refine aE ?_
    refine tr1 rfl (aD (v := .d (.lit (.int .i64 i_0_1))) (aA rfl) rfl rfl) ?_
    refine tr1 rfl (aZ (aA rfl) rfl rfl rfl) ?_
    refine tr1 rfl (aJ (v := .d (.lit (.int .i64 ((w64 (i_0_1 + 1)))))) (aA rfl) rfl rfl) ?_
    refine aF ?_
    exact ⟨(w64 (i_0_1 + 1), data_2_4), h, aW [0] rfl rfl (aN rfl (aN rfl (aX ⟨rfl, rfl, rfl, trivial⟩)))⟩
 ·have h := aR c3 h
  refine cU ?_
  refine .inl ⟨rfl, ?_⟩
  simp only [fA] at h
  have h := Option.some.inj h
  subst h
  exact ⟨_, [.arr data_0_v 114 4 (data_0_1.map bK)], [], _, .none, .refl _, .same _, rfl, rfl⟩

theorem pS (data_0 : List bB) (a_1 : Int) (b_2 : Int) (limit_3 : Int) (cmp_4 : bB → bB → Option Int) {r : (List bB)} {data_0_v : Value} (cmp_4_f : Nat) (cmp_4_v : List AV) (cmp_4_e : ∀ args w, (callFunc cmp_4_f args).run Try.prog w = .ok (.enter cmp_4_f args) w) (cmp_4_h : ∀ (x0 : bB) (x1 : bB) r, cmp_4 x0 x1 = some r → Fn Try.prog cmp_4_f ([.agg (bK x0), .agg (bK x1)] ++ cmp_4_v) (.d (.lit (.int .i64 r)))) (h : gR data_0 a_1 b_2 limit_3 cmp_4 = some r) : fM Try.prog 103 [.d (.lit data_0_v), .d (.lit (.int .i64 a_1)), .d (.lit (.int .i64 b_2)), .d (.lit (.int .i64 limit_3)), .fn cmp_4_f cmp_4_v] [.arr data_0_v 114 4 (data_0.map bK)] (fun r' o' => r' = .tup [] ∧ o' = [.arr data_0_v 114 4 (r.map bK)]) := by
 unfold gR at h
 refine jB Try.func103 rfl (rs := []) Try.results103 Try.ntmps103 (Nat.le_of_ble_eq_true rfl) ?_
 refine aG ?_
 refine aE ?_
 refine tr1 rfl (aJ (v := .d (.lit (.bool true))) (aA rfl) rfl rfl) ?_
 refine aF ?_
 refine aG ?_
 refine aE ?_
 refine tr1 rfl (aJ (v := .d (.lit (.bool true))) (aA rfl) rfl rfl) ?_
 refine aF ?_
 refine bQ ?_
 refine cM [4] (fun (s1 : Int × Int × Int × Bool × Bool × (List bB)) => [(0, .d (.lit data_0_v)), (1, .d (.lit (.int .i64 s1.1))), (2, .d (.lit (.int .i64 s1.2.1))), (3, .d (.lit (.int .i64 s1.2.2.1))), (10, .d (.lit (.bool s1.2.2.2.1))), (11, .d (.lit (.bool s1.2.2.2.2.1)))]) (fun (s1 : Int × Int × Int × Bool × Bool × (List bB)) => [.arr data_0_v 114 4 (s1.2.2.2.2.2.map bK)]) (fun (k : Nat) (s1 : Int × Int × Int × Bool × Bool × (List bB)) => gA cmp_4 k s1.1 s1.2.1 s1.2.2.1 s1.2.2.2.1 s1.2.2.2.2.1 s1.2.2.2.2.2) (fun _ => rfl) (a_1, b_2, limit_3, true, true, data_0) h (aW [0] rfl rfl (aN rfl (aN rfl (aN rfl (aN rfl (aN rfl (aN rfl (aX ⟨rfl, trivial⟩)))))))) ?_
 rintro k2 ⟨a_0_1, b_0_1, limit_0_1, wasBalanced_0_1, wasPartitioned_0_1, data_0_1⟩ h
 simp only [gA] at h
 refine bQ ?_
 refine aG ?_
 refine aE ?_
 refine tr1 rfl (aD (v := .d (.lit (.int .i64 b_0_1))) (aA rfl) rfl rfl) ?_
 refine tr1 rfl (aD (v := .d (.lit (.int .i64 a_0_1))) (aA rfl) rfl rfl) ?_
 refine tr1 rfl (aZ (aA rfl) rfl rfl rfl) ?_
 refine tr1 rfl (aJ (v := .d (.lit (.int .i64 ((w64 (b_0_1 - a_0_1)))))) (aA rfl) rfl rfl) ?_
 refine aF ?_
 refine aG ?_
 refine aG ?_
 refine aE ?_
 refine tr1 rfl (aD (v := .d (.lit (.int .i64 ((w64 (b_0_1 - a_0_1)))))) (aA rfl) rfl rfl) ?_
 refine tr1 rfl (bC (aA rfl) rfl rfl rfl) ?_
 refine aF ?_
 refine bJ rfl (fun c3 => ?_) (fun c3 => ?_)
 ·have h := aS c3 h
  refine aG ?_
  refine aE ?_
  refine tr1 rfl (aD (v := .d (.lit data_0_v)) (aA rfl) rfl rfl) ?_
  refine tr1 rfl (aD (v := .d (.lit (.int .i64 a_0_1))) (aA rfl) rfl rfl) ?_
  refine tr1 rfl (aD (v := .d (.lit (.int .i64 b_0_1))) (aA rfl) rfl rfl) ?_
  refine tr1 rfl (aD (v := .fn cmp_4_f cmp_4_v) (aA rfl) rfl rfl) ?_
  obtain ⟨r4, h5, h⟩ := bind_some h
  refine bR rfl (dM (passed := [.arr data_0_v 114 4 (data_0_1.map bK)]) (aA rfl) rfl (.func _ _ Try.call118) rfl rfl (nR data_0_1 a_0_1 b_0_1 cmp_4 cmp_4_f cmp_4_v cmp_4_e cmp_4_h h5)) ?_
  rintro _ ⟨_, _, ⟨rfl, rfl⟩, rfl⟩
  refine aF ?_
  have h := Option.some.inj h
  subst h
  exact bM ⟨rfl, _, [.arr data_0_v 114 4 (r4.map bK)], [], _, .none, .refl _, .same _, rfl, rfl⟩
 ·have h := aR c3 h
  refine bI ?_
  refine aG ?_
  refine aG ?_
  cases h

theorem sQ (x_0 : List bB) (cmp_1 : bB → bB → Option Int) {r : (List bB)} {x_0_v : Value} (cmp_1_f : Nat) (cmp_1_v : List AV) (cmp_1_e : ∀ args w, (callFunc cmp_1_f args).run Try.prog w = .ok (.enter cmp_1_f args) w) (cmp_1_h : ∀ (x0 : bB) (x1 : bB) r, cmp_1 x0 x1 = some r → Fn Try.prog cmp_1_f ([.agg (bK x0), .agg (bK x1)] ++ cmp_1_v) (.d (.lit (.int .i64 r)))) (h : hJ x_0 cmp_1 = some r) : fM Try.prog 87 [.d (.lit x_0_v), .fn cmp_1_f cmp_1_v] [.arr x_0_v 114 4 (x_0.map bK)] (fun r' o' => r' = .tup [] ∧ o' = [.arr x_0_v 114 4 (r.map bK)]) := by
 unfold hJ at h
 refine jB Try.func87 rfl (rs := []) Try.results87 Try.ntmps87 (Nat.le_of_ble_eq_true rfl) ?_
 refine aG ?_
 refine aE ?_
 refine tr1 rfl (aD (v := .d (.lit x_0_v)) (aA rfl) rfl rfl) ?_
 refine tr1 rfl (lI (m := 0) (aA rfl) rfl rfl oQ.of) ?_
 refine tr1 rfl (aJ (v := .d (.lit (.int .i64 ((x_0.length : Int))))) (aA rfl) rfl rfl) ?_
 refine aF ?_
 refine aE ?_
 refine tr1 rfl (aD (v := .d (.lit x_0_v)) (aA rfl) rfl rfl) ?_
 refine tr1 rfl (aD (v := .d (.lit (.int .i64 ((x_0.length : Int))))) (aA rfl) rfl rfl) ?_
 refine tr1 rfl (aD (v := .d (.lit (.int .i64 ((x_0.length : Int))))) (aA rfl) rfl rfl) ?_
 refine tr1 rfl (oP (aA rfl) rfl Try.runUnderlying3 Try.runUnderlying127) ?_
 obtain ⟨r1, h2, h⟩ := bind_some h
 refine tr1 rfl (bZ (aA rfl) (.func _ _ Try.call101) rfl rfl (BVs.refl _ _) (zJ _ h2) rfl) ?_
 refine tr1 rfl (aD (v := .fn cmp_1_f cmp_1_v) (aA rfl) rfl rfl) ?_
 obtain ⟨r3, h4, h⟩ := bind_some h
 refine bR rfl (dM (passed := [.arr x_0_v 114 4 (x_0.map bK)]) (aA rfl) rfl (.func _ _ Try.call103) rfl rfl (pS x_0 0 (x_0.length : Int) r1 cmp_1 cmp_1_f cmp_1_v cmp_1_e cmp_1_h h4)) ?_
 rintro _ ⟨_, _, ⟨rfl, rfl⟩, rfl⟩
 refine aF ?_
 have h := Option.some.inj h
 subst h
 exact ⟨_, [.arr x_0_v 114 4 (r3.map bK)], [], _, .none, .refl _, .same _, rfl, rfl⟩

theorem wK (x_0 : bB) (y_1 : bB) {r : Int} (h : jW x_0 y_1 = some r) : Fn Try.prog 88 [.agg (bK x_0), .agg (bK y_1)] (.d (.lit (.int .i64 r))) := by
 unfold jW at h
 refine Fn.of_tr Try.func88 rfl (rs := [.tmp 4]) Try.results88 Try.ntmps88 (Nat.le_of_ble_eq_true rfl) ?_
 refine aG ?_
 refine aE ?_
 refine bR rfl (fJ (v := .agg (bK x_0)) (aA rfl) rfl rfl rfl) ?_
 rintro _ ⟨b1, rfl⟩
 refine bR rfl (fJ (v := .agg (bK y_1)) (aA rfl) rfl rfl rfl) ?_
 rintro _ ⟨b2, rfl⟩
 refine tr1 rfl (aJ (v := .d (.lit (.int .i64 0))) (aA rfl) rfl rfl) ?_
 refine aF ?_
 refine aG ?_
 refine aE ?_
 refine tr1 rfl (aQ (aA rfl) rfl aAo) ?_
 refine tr1 rfl (aT (aA rfl) rfl (i := 1) rfl rfl bF) ?_
 refine tr1 rfl (aQ (aA rfl) rfl aAo) ?_
 refine tr1 rfl (aT (aA rfl) rfl (i := 0) rfl rfl bF) ?_
 refine tr1 rfl (aZ (aA rfl) rfl rfl rfl) ?_
 refine tr1 rfl (aQ (aA rfl) rfl uG) ?_
 refine tr1 rfl (aT (aA rfl) rfl (i := 1) rfl rfl bF) ?_
 refine tr1 rfl (aQ (aA rfl) rfl uG) ?_
 refine tr1 rfl (aT (aA rfl) rfl (i := 0) rfl rfl bF) ?_
 refine tr1 rfl (aZ (aA rfl) rfl rfl rfl) ?_
 refine tr1 rfl (aQ (aA rfl) rfl aAp) ?_
 refine tr1 rfl (aT (aA rfl) rfl (i := 0) rfl rfl bF) ?_
 refine tr1 rfl (aQ (aA rfl) rfl aAp) ?_
 refine tr1 rfl (aT (aA rfl) rfl (i := 1) rfl rfl bF) ?_
 refine tr1 rfl (aZ (aA rfl) rfl rfl rfl) ?_
 refine tr1 rfl (aQ (aA rfl) rfl wX) ?_
 refine tr1 rfl (aT (aA rfl) rfl (i := 0) rfl rfl bF) ?_
 refine tr1 rfl (aQ (aA rfl) rfl wX) ?_
 refine tr1 rfl (aT (aA rfl) rfl (i := 1) rfl rfl bF) ?_
 refine tr1 rfl (aZ (aA rfl) rfl rfl rfl) ?_
 refine tr1 rfl (jP (aA rfl) eO rfl rfl (rows := ([w64 (y_1.points - x_0.points), w64 (y_1.musts - x_0.musts), w64 (x_0.many - y_1.many), w64 (x_0.player - y_1.player)]).map cC) rfl (dD (f := cC) fun _ => rfl) rfl (by decide)) ?_
 obtain ⟨r3, h4, h⟩ := bind_some h
 refine tr1 rfl (bZ (aA rfl) (.func _ _ Try.call99) rfl rfl (BVs.refl _ _) (wS _ h4) rfl) ?_
 refine tr1 rfl (aJ (v := .d (.lit (.int .i64 r3))) (aA rfl) rfl rfl) ?_
 refine aF ?_
 have h := Option.some.inj h
 subst h
 refine cQ (cG (cK (l := [4]) ⟨rfl, trivial⟩)) ?_
 exact bM ⟨rfl, _, .one _, rfl, rfl⟩

theorem tX (b_0 : bT) (week_1 : Int) {r : (List Int)} (h : gE b_0 week_1 = some r) : Fn Try.prog 59 [.cp (cF b_0), .d (.lit (.int .i64 week_1))] (.d (.sl 1 (r.map cC))) := by
 unfold gE at h
 refine Fn.of_tr Try.func59 rfl (rs := [.tmp 4]) Try.results59 Try.ntmps59 (Nat.le_of_ble_eq_true rfl) ?_
 refine aG ?_
 refine aE ?_
 refine tr1 rfl (sF 1 (aA rfl)) ?_
 refine aF ?_
 refine aG ?_
 refine aE ?_
 refine tr1 rfl (iY 114 4 (.inl rfl) (aA rfl)) ?_
 refine aF ?_
 refine aG ?_
 refine aG ?_
 refine aE ?_
 refine tr1 rfl (aD (v := .cp [.lit (.int .i64 b_0.Ledger.Players), .lit (.int .i64 b_0.Ledger.Counts), .sl 5 (b_0.Ledger.Reports.map aC), .sl 3 (b_0.Ledger.Bans.map aI), .sl 3 (b_0.Ledger.Frozen.map aI)]) (aA rfl) rfl rfl) ?_
 refine tr1 rfl (oZ (aA rfl) rfl) ?_
 refine tr1 rfl (cP (aA rfl) rfl gM (es := [.lit (.int .i64 b_0.Ledger.Players), .lit (.int .i64 b_0.Ledger.Counts), .sl 5 (b_0.Ledger.Reports.map aC), .sl 3 (b_0.Ledger.Bans.map aI), .sl 3 (b_0.Ledger.Frozen.map aI)]) rfl) ?_
 refine tr1 rfl (cP (aA rfl) rfl jJ (es := [.lit (.int .i64 b_0.Ledger.Players)]) rfl) ?_
 refine tr1 rfl (cL (aA rfl) rfl bF) ?_
 refine tr1 rfl (aD (v := .d (.lit (.int .i64 0))) (aA rfl) rfl rfl) ?_
 refine aF ?_
 refine bQ ?_
 refine cM [0, 1, 18] (fun (s2 : Int × (List bB) × Value) => [(5, .d (.lit s2.2.2)), (19, .d (.lit (.int .i64 s2.1)))]) (fun (s2 : Int × (List bB) × Value) => [.arr s2.2.2 114 4 (s2.2.1.map bK)]) (fun (k : Nat) (s2 : Int × (List bB) × Value) => eX b_0 week_1 b_0.Ledger.Players k s2.1 s2.2.1) (fun _ => rfl) (0, ([] : List bB), (.slice none 0 0)) h (aW [0] rfl rfl (aN rfl (aN rfl (aX ⟨rfl, rfl, rfl, trivial⟩)))) ?_
 rintro k4 ⟨t19_0_2, lines_0_2, w3⟩ h
 simp only [eX] at h
 refine aG ?_
 refine aE ?_
 refine tr1 rfl (bC (aA rfl) rfl rfl rfl) ?_
 refine aF ?_
 refine aG ?_
 refine bJ rfl (fun c5 => ?_) (fun c5 => ?_)
 ·have h := aS c5 h
  refine bI ?_
  refine aG ?_
  refine bQ ?_
  refine aG ?_
  refine aE ?_
  refine tr1 rfl (aD (v := .d (.lit (.int .i64 t19_0_2))) (aA rfl) rfl rfl) ?_
  refine tr1 rfl (aJ (v := .d (.lit (.int .i64 t19_0_2))) (aA rfl) rfl rfl) ?_
  refine aF ?_
  refine aG ?_
  refine aE ?_
  refine tr1 rfl (aD (v := .cp [.lit (.int .i64 b_0.Ledger.Players), .lit (.int .i64 b_0.Ledger.Counts), .sl 5 (b_0.Ledger.Reports.map aC), .sl 3 (b_0.Ledger.Bans.map aI), .sl 3 (b_0.Ledger.Frozen.map aI)]) (aA rfl) rfl rfl) ?_
  refine tr1 rfl (aD (v := .d (.lit (.int .i64 t19_0_2))) (aA rfl) rfl rfl) ?_
  refine tr1 rfl (aD (v := .d (.lit (.int .i64 week_1))) (aA rfl) rfl rfl) ?_
  obtain ⟨r6, h7, h⟩ := bind_some h
  refine tr1 rfl (lO (aA rfl) (.func _ _ Try.call72) rfl rfl (pH _ _ _ h7)) ?_
  refine tr1 rfl (aJ (v := .d (.sl 5 (r6.map aC))) (aA rfl) rfl rfl) ?_
  refine aF ?_
  refine aG ?_
  refine aG ?_
  refine aE ?_
  refine tr1 rfl (aD (v := .cp [.lit (.int .i64 b_0.Ledger.Players), .lit (.int .i64 b_0.Ledger.Counts), .sl 5 (b_0.Ledger.Reports.map aC), .sl 3 (b_0.Ledger.Bans.map aI), .sl 3 (b_0.Ledger.Frozen.map aI)]) (aA rfl) rfl rfl) ?_
  refine tr1 rfl (oZ (aA rfl) rfl) ?_
  refine tr1 rfl (cP (aA rfl) rfl gM (es := [.lit (.int .i64 b_0.Ledger.Players), .lit (.int .i64 b_0.Ledger.Counts), .sl 5 (b_0.Ledger.Reports.map aC), .sl 3 (b_0.Ledger.Bans.map aI), .sl 3 (b_0.Ledger.Frozen.map aI)]) rfl) ?_
  refine tr1 rfl (cP (aA rfl) rfl nG (es := [.sl 3 (b_0.Ledger.Bans.map aI)]) rfl) ?_
  refine tr1 rfl (cL (aA rfl) rfl jM) ?_
  refine tr1 rfl (aD (v := .d (.lit (.int .i64 t19_0_2))) (aA rfl) rfl rfl) ?_
  refine tr1 rfl (aD (v := .d (.lit (.int .i64 week_1))) (aA rfl) rfl rfl) ?_
  obtain ⟨r8, h9, h⟩ := bind_some h
  refine tr1 rfl (bZ (aA rfl) (.func _ _ Try.call48) rfl rfl (BVs.refl _ _) (uR _ _ _ h9) rfl) ?_
  refine tr1 rfl (aD (v := .d (.lit (.bool r8))) (aA rfl) rfl rfl) ?_
  obtain ⟨b10, h11, h⟩ := bind_some h
  refine bW 4 [0, 1, 5, 6, 7, 18, 19] 38 b10 ?_ ?_
  ·refine bG (r8) (fun c28 => ?_) (fun c28 => ?_)
   ·have h11 := aS c28 h11
    refine aO rfl rfl (aA rfl) rfl (aA rfl) rfl c28 ?_
    refine aO rfl rfl (aA rfl) rfl (aA rfl) rfl c28 ?_
    refine aO rfl rfl (aA rfl) rfl (aA rfl) rfl c28 ?_
    refine tr1 rfl (bO (v := .d (.lit (.bool true))) (aA rfl) rfl c28 rfl rfl) ?_
    have h11 := Option.some.inj h11
    subst h11
    refine aF (aY rfl ⟨rfl, rfl, rfl, rfl, rfl, rfl, rfl, trivial⟩ rfl)
   ·have h11 := aR c28 h11
    refine aL rfl rfl (aA rfl) rfl c28 (aD (v := .d (.sl 5 (r6.map aC))) (aA rfl) rfl rfl) ?_
    refine aL rfl rfl (aA rfl) rfl c28 (dX (aA rfl) rfl bY.of) ?_
    refine aL rfl rfl (aA rfl) rfl c28 (bC (aA rfl) rfl rfl rfl) ?_
    refine tr1 rfl (bN (v := .d (.lit (.bool ((decide ((r6.length : Int) = 0)))))) (aA rfl) rfl c28 rfl rfl) ?_
    have h11 := Option.some.inj h11
    subst h11
    refine aF (aY rfl ⟨rfl, rfl, rfl, rfl, rfl, rfl, rfl, trivial⟩ rfl)
  ·refine aF ?_
   refine bJ rfl (fun c12 => ?_) (fun c12 => ?_)
   ·have h := aS c12 h
    refine cU ?_
    refine .inl ⟨rfl, ?_⟩
    simp only [jU] at h
    refine aE ?_
    refine tr1 rfl (aZ (aA rfl) rfl rfl rfl) ?_
    refine tr1 rfl (aD (v := .d (.lit (.int .i64 ((w64 (t19_0_2 + 1)))))) (aA rfl) rfl rfl) ?_
    refine aF ?_
    exact ⟨(w64 (t19_0_2 + 1), lines_0_2, w3), h, aW [0] rfl rfl (aN rfl (aN rfl (aX ⟨rfl, rfl, rfl, trivial⟩)))⟩
   ·have h := aR c12 h
    refine bI ?_
    refine aG ?_
    refine aE ?_
    refine tr1 rfl (aD (v := .d (.lit (.int .i64 t19_0_2))) (aA rfl) rfl rfl) ?_
    refine tr1 rfl (aD (v := .cp [.lit (.int .i64 b_0.Ledger.Players), .lit (.int .i64 b_0.Ledger.Counts), .sl 5 (b_0.Ledger.Reports.map aC), .sl 3 (b_0.Ledger.Bans.map aI), .sl 3 (b_0.Ledger.Frozen.map aI)]) (aA rfl) rfl rfl) ?_
    refine tr1 rfl (aD (v := .d (.sl 5 (r6.map aC))) (aA rfl) rfl rfl) ?_
    obtain ⟨r13, h14, h⟩ := bind_some h
    refine tr1 rfl (lO (aA rfl) (.func _ _ Try.call71) rfl rfl (pJ _ _ h14)) ?_
    obtain ⟨r15, h16, h⟩ := bind_some h
    refine tr1 rfl (bZ (aA rfl) (.func _ _ Try.call86) rfl rfl (BVs.refl _ _) (zO _ h16) rfl) ?_
    refine tr1 rfl (aD (v := .d (.sl 5 (r6.map aC))) (aA rfl) rfl rfl) ?_
    refine tr1 rfl (dX (aA rfl) rfl bY.of) ?_
    refine tr1 rfl (mD (aA rfl) aHq (zs := [.lit (.int .i64 0), .lit (.int .i64 0), .lit (.int .i64 0), .lit (.int .i64 0)]) rfl rfl rfl rfl (es := [.lit (.int .i64 t19_0_2), .lit (.int .i64 r15), .lit (.int .i64 0), .lit (.int .i64 ((r6.length : Int)))]) rfl) ?_
    refine bR rfl (fY (zs := [.lit (.int .i64 0), .lit (.int .i64 0), .lit (.int .i64 0), .lit (.int .i64 0)]) (aA rfl) Try.zeroValue114 rfl rfl) ?_
    rintro _ ⟨b17, rfl⟩
    refine tr1 rfl (cA (i := 1) rfl rfl rfl rfl rfl Try.sizeOf114 rfl (aA rfl) (Nat.le_of_ble_eq_true rfl) (ds' := (bK (bB.mk t19_0_2 r15 0 (r6.length : Int)))) rfl) ?_
    refine aF ?_
    refine aG ?_
    refine aG ?_
    refine aE ?_
    refine tr1 rfl (aD (v := .d (.sl 5 (r6.map aC))) (aA rfl) rfl rfl) ?_
    refine tr1 rfl (dX (aA rfl) rfl bY.of) ?_
    refine tr1 rfl (aD (v := .d (.lit (.int .i64 0))) (aA rfl) rfl rfl) ?_
    refine aF ?_
    refine bQ ?_
    refine cM [0, 1, 5, 8, 18, 19, 47, 48] (fun (s18 : Int × bB) => [(49, .d (.lit (.int .i64 s18.1)))]) (fun (s18 : Int × bB) => [.arr w3 114 4 (lines_0_2.map bK), .box b17 0 (bK s18.2)]) (fun (k : Nat) (s18 : Int × bB) => gV (eX b_0 week_1 b_0.Ledger.Players k4) b_0 week_1 b_0.Ledger.Players t19_0_2 r6 (r6.length : Int) lines_0_2 k s18.1 s18.2) (fun _ => rfl) (0, (bB.mk t19_0_2 r15 0 (r6.length : Int))) h (aW [0, 1] rfl rfl (aN rfl (aX ⟨rfl, rfl, rfl, rfl, rfl, rfl, rfl, rfl, trivial⟩))) ?_
    rintro k19 ⟨t49_2_18, x_2_18⟩ h
    simp only [gV] at h
    refine aG ?_
    refine aE ?_
    refine tr1 rfl (bC (aA rfl) rfl rfl rfl) ?_
    refine aF ?_
    refine aG ?_
    refine bJ rfl (fun c20 => ?_) (fun c20 => ?_)
    ·have h := aS c20 h
     refine bI ?_
     refine aG ?_
     refine bQ ?_
     refine aG ?_
     refine aE ?_
     obtain ⟨x21, h22, h⟩ := bind_some h
     refine tr1 rfl (cE (aA rfl) rfl rfl bY.of (bP aC h22)) ?_
     refine tr1 rfl (gN (aA rfl) rfl dY (es := (aC x21)) rfl rfl) ?_
     refine bR rfl (fY (zs := [.lit (.int .i64 0), .lit (.int .i64 0), .lit (.int .i64 0), .lit (.int .i64 0), .lit (.bool false)]) (aA rfl) Try.zeroValue42 rfl rfl) ?_
     rintro _ ⟨b23, rfl⟩
     refine tr1 rfl (cA (i := 2) rfl rfl rfl rfl rfl Try.sizeOf42 rfl (aA rfl) (Nat.le_of_ble_eq_true rfl) (ds' := (aC x21)) rfl) ?_
     refine aF ?_
     refine aG ?_
     refine aE ?_
     refine tr1 rfl (aQ (aA rfl) rfl qG) ?_
     refine tr1 rfl (aT (aA rfl) rfl (i := 2) rfl rfl tE) ?_
     refine aF ?_
     refine bJ rfl (fun c24 => ?_) (fun c24 => ?_)
     ·have h := aS c24 h
      refine aE ?_
      refine tr1 rfl (aQ (aA rfl) rfl uG) ?_
      refine tr1 rfl (aT (aA rfl) rfl (i := 1) rfl rfl bF) ?_
      refine tr1 rfl (aQ (aA rfl) rfl rR) ?_
      refine tr1 rfl (aT (aA rfl) rfl (i := 2) rfl rfl bF) ?_
      refine tr1 rfl (aZ (aA rfl) rfl rfl rfl) ?_
      refine tr1 rfl (aQ (aA rfl) rfl uG) ?_
      refine tr1 rfl (cA (i := 1) rfl rfl rfl rfl rfl Try.sizeOf3 rfl (aA rfl) (Nat.le_of_ble_eq_true rfl) (ds' := (bK (bB.mk x_2_18.player x_2_18.points (w64 (x_2_18.musts + x21.Points)) x_2_18.many))) rfl) ?_
      refine eB ?_
      refine aE ?_
      refine tr1 rfl (aZ (aA rfl) rfl rfl rfl) ?_
      refine tr1 rfl (aD (v := .d (.lit (.int .i64 ((w64 (t49_2_18 + 1)))))) (aA rfl) rfl rfl) ?_
      refine aF ?_
      exact ⟨(w64 (t49_2_18 + 1), (bB.mk x_2_18.player x_2_18.points (w64 (x_2_18.musts + x21.Points)) x_2_18.many)), h, aW [0, 1] rfl rfl (aN rfl (aX ⟨rfl, rfl, rfl, rfl, rfl, rfl, rfl, rfl, trivial⟩))⟩
     ·have h := aR c24 h
      refine eJ ?_
      refine aE ?_
      refine tr1 rfl (aZ (aA rfl) rfl rfl rfl) ?_
      refine tr1 rfl (aD (v := .d (.lit (.int .i64 ((w64 (t49_2_18 + 1)))))) (aA rfl) rfl rfl) ?_
      refine aF ?_
      exact ⟨(w64 (t49_2_18 + 1), x_2_18), h, aW [0, 1] rfl rfl (aN rfl (aX ⟨rfl, rfl, rfl, rfl, rfl, rfl, rfl, rfl, trivial⟩))⟩
    ·have h := aR c20 h
     refine cU ?_
     refine .inl ⟨rfl, ?_⟩
     simp only [nC] at h
     refine aE ?_
     refine tr1 rfl (aD (v := .d (.lit w3)) (aA rfl) rfl rfl) ?_
     refine tr1 rfl (dE (aA rfl) rfl (i := 1) rfl tG (es := (bK x_2_18)) rfl rfl) ?_
     refine tr1 rfl (jP (aA rfl) oQ rfl rfl (rows := ([x_2_18]).map bK) rfl (dD (f := bK) fun _ => rfl) rfl (by decide)) ?_
     obtain ⟨x25, h26, h⟩ := bind_some h
     refine bR rfl (oO (i := 0) (aA rfl) oQ rfl rfl rfl (fun _ => rfl) h26 rfl) ?_
     rintro _ ⟨v27, rfl⟩
     refine tr1 rfl (aJ (v := .d (.lit v27)) (aA rfl) rfl rfl) ?_
     refine eB ?_
     simp only [jU] at h
     refine aE ?_
     refine tr1 rfl (aZ (aA rfl) rfl rfl rfl) ?_
     refine tr1 rfl (aD (v := .d (.lit (.int .i64 ((w64 (t19_0_2 + 1)))))) (aA rfl) rfl rfl) ?_
     refine aF ?_
     exact ⟨(w64 (t19_0_2 + 1), x25, v27), h, aW [0] rfl rfl (aN rfl (aN rfl (aX ⟨rfl, rfl, rfl, trivial⟩)))⟩
 ·have h := aR c5 h
  refine cU ?_
  refine .inl ⟨rfl, ?_⟩
  simp only [lE] at h
  refine aG ?_
  refine aE ?_
  refine tr1 rfl (aD (v := .d (.lit w3)) (aA rfl) rfl rfl) ?_
  obtain ⟨r31, h32, h⟩ := bind_some h
  refine bR rfl (dM (passed := [.arr w3 114 4 (lines_0_2.map bK)]) (aA rfl) rfl (.func _ _ Try.call87) rfl rfl (sQ lines_0_2 (fun y29 y30 => jW y29 y30) 88 [] Try.call88 (fun _ _ _ h => wK _ _ h) h32)) ?_
  rintro _ ⟨_, _, ⟨rfl, rfl⟩, rfl⟩
  refine aF ?_
  refine aG ?_
  refine aE ?_
  refine tr1 rfl (iY 3 1 (.inl rfl) (aA rfl)) ?_
  refine aF ?_
  refine aG ?_
  refine aG ?_
  refine aE ?_
  refine tr1 rfl (aD (v := .d (.lit w3)) (aA rfl) rfl rfl) ?_
  refine tr1 rfl (lI (m := 0) (aA rfl) rfl rfl oQ.of) ?_
  refine tr1 rfl (aD (v := .d (.lit (.int .i64 0))) (aA rfl) rfl rfl) ?_
  refine aF ?_
  refine bQ ?_
  refine cM [69, 70] (fun (s34 : Int × (List Int) × Value) => [(11, .d (.lit s34.2.2)), (71, .d (.lit (.int .i64 s34.1)))]) (fun (s34 : Int × (List Int) × Value) => [.arr w3 114 4 (r31.map bK), .arr s34.2.2 3 1 (s34.2.1.map cC)]) (fun (k : Nat) (s34 : Int × (List Int) × Value) => iR (r31.length : Int) r31 k s34.1 s34.2.1) (fun _ => rfl) (0, ([] : List Int), (.slice none 0 0)) h (aW [0, 1] rfl rfl (aN rfl (aN rfl (aX ⟨rfl, rfl, trivial⟩)))) ?_
  rintro k36 ⟨t71_4_34, out_4_34, w35⟩ h
  simp only [iR] at h
  refine aG ?_
  refine aE ?_
  refine tr1 rfl (bC (aA rfl) rfl rfl rfl) ?_
  refine aF ?_
  refine aG ?_
  refine bJ rfl (fun c37 => ?_) (fun c37 => ?_)
  ·have h := aS c37 h
   refine bI ?_
   refine aG ?_
   refine bQ ?_
   refine aG ?_
   refine aE ?_
   obtain ⟨x38, h39, h⟩ := bind_some h
   refine tr1 rfl (cD (m := 0) (aA rfl) rfl rfl rfl oQ.of (bP bK h39)) ?_
   refine tr1 rfl (dC (aA rfl) rfl (l := 0) rfl (dW bK h39) tG (es := (bK x38)) rfl rfl) ?_
   refine bR rfl (fY (zs := [.lit (.int .i64 0), .lit (.int .i64 0), .lit (.int .i64 0), .lit (.int .i64 0)]) (aA rfl) Try.zeroValue114 rfl rfl) ?_
   rintro _ ⟨b40, rfl⟩
   refine tr1 rfl (cA (i := 2) rfl rfl rfl rfl rfl Try.sizeOf114 rfl (aA rfl) (Nat.le_of_ble_eq_true rfl) (ds' := (bK x38)) rfl) ?_
   refine aF ?_
   refine aE ?_
   refine tr1 rfl (aD (v := .d (.lit w35)) (aA rfl) rfl rfl) ?_
   refine tr1 rfl (aQ (aA rfl) rfl wX) ?_
   refine tr1 rfl (aT (aA rfl) rfl (i := 2) rfl rfl bF) ?_
   refine tr1 rfl (jP (aA rfl) eO rfl rfl (rows := ([x38.player]).map cC) rfl (dD (f := cC) fun _ => rfl) rfl (by decide)) ?_
   obtain ⟨x41, h42, h⟩ := bind_some h
   refine bR rfl (oO (i := 1) (aA rfl) eO rfl rfl rfl (fun _ => rfl) h42 rfl) ?_
   rintro _ ⟨v43, rfl⟩
   refine tr1 rfl (aJ (v := .d (.lit v43)) (aA rfl) rfl rfl) ?_
   refine eB ?_
   refine aE ?_
   refine tr1 rfl (aZ (aA rfl) rfl rfl rfl) ?_
   refine tr1 rfl (aD (v := .d (.lit (.int .i64 ((w64 (t71_4_34 + 1)))))) (aA rfl) rfl rfl) ?_
   refine aF ?_
   exact ⟨(w64 (t71_4_34 + 1), x41, v43), h, aW [0, 1] rfl rfl (aN rfl (aN rfl (aX ⟨rfl, rfl, trivial⟩)))⟩
  ·have h := aR c37 h
   refine cU ?_
   refine .inl ⟨rfl, ?_⟩
   simp only [pI] at h
   refine aG ?_
   refine aE ?_
   refine tr1 rfl (aD (v := .d (.lit w35)) (aA rfl) rfl rfl) ?_
   refine tr1 rfl (aJ (v := .d (.lit w35)) (aA rfl) rfl rfl) ?_
   refine aF ?_
   have h := Option.some.inj h
   subst h
   refine cQ (cG (fW (k := 4) (v := .d (.sl 1 (out_4_34.map cC))) (.d (iB 1 rfl (dD (f := cC) fun _ => rfl))) (xR))) ?_
   exact bM ⟨rfl, _, .one _, rfl, rfl⟩

theorem aCx (l_0 : aM) (week_1 : Int) {r : (List Int) × Int} (h : xF l_0 week_1 = some r) : Fn Try.prog 27 [.agg (aV l_0), .d (.lit (.int .i64 week_1))] (.tup [.d (.sl 1 (r.1.map cC)), .d (.lit (.int .i64 r.2))]) := by
 unfold xF at h
 refine Fn.of_tr Try.func27 rfl (rs := [.tmp 4, .tmp 5]) Try.results27 Try.ntmps27 (Nat.le_of_ble_eq_true rfl) ?_
 refine aG ?_
 refine aE ?_
 refine bR rfl (fJ (v := .agg (aV l_0)) (aA rfl) rfl rfl rfl) ?_
 rintro _ ⟨b1, rfl⟩
 refine tr1 rfl (sF 1 (aA rfl)) ?_
 refine tr1 rfl (aJ (v := .d (.lit (.int .i64 0))) (aA rfl) rfl rfl) ?_
 refine aF ?_
 refine aG ?_
 refine aE ?_
 refine tr1 rfl (dE (aA rfl) rfl (i := 0) rfl gJ (es := (aV l_0)) rfl rfl) ?_
 refine tr1 rfl (aD (v := .d (.lit (.int .i64 week_1))) (aA rfl) rfl rfl) ?_
 obtain ⟨r2, h3, h⟩ := bind_some h
 refine bR rfl (dM (passed := []) (aA rfl) rfl (.func _ _ Try.call44) rfl rfl (qY _ _ _ h3)) ?_
 rintro _ ⟨_, _, ⟨b5, w6, rfl, rfl⟩, rfl⟩
 obtain ⟨_ | y4, e7⟩ := r2
 ·have h := vE h
  refine fK (aW [0] rfl rfl (le_refl _)) ?_
  refine tr1 rfl (aD (v := .tup [.d (.lit (.pointer none)), .d (.lit (.int .i64 e7))]) (aA rfl) rfl rfl) ?_
  refine tr1 rfl (cV (aA rfl) rfl rfl) ?_
  refine tr1 rfl (cV (aA rfl) rfl rfl) ?_
  refine tr1 rfl (aJ (v := .d (.lit (.pointer none))) (aA rfl) rfl rfl) ?_
  refine tr1 rfl (aJ (v := .d (.lit (.int .i64 e7))) (aA rfl) rfl rfl) ?_
  refine aF ?_
  refine aG ?_
  refine aG ?_
  refine aE ?_
  refine tr1 rfl (aD (v := .d (.lit (.int .i64 e7))) (aA rfl) rfl rfl) ?_
  refine tr1 rfl (bC (aA rfl) rfl rfl rfl) ?_
  refine aF ?_
  refine bJ rfl (fun c8 => ?_) (fun c8 => ?_)
  ·have h := aS c8 h
   refine aG ?_
   refine aE ?_
   refine tr1 rfl (aD (v := .d (.lit (.int .i64 e7))) (aA rfl) rfl rfl) ?_
   refine tr1 rfl (sF 1 (aA rfl)) ?_
   refine tr1 rfl (aJ (v := .d (.lit (.int .i64 e7))) (aA rfl) rfl rfl) ?_
   refine aF ?_
   have h := Option.some.inj h
   subst h
   refine cQ (cG (cK (l := [4, 5]) ⟨rfl, rfl, trivial⟩)) ?_
   exact bM ⟨rfl, _, .two _ _, rfl, rfl⟩
  ·have h := aR c8 h
   refine bI ?_
   refine aG ?_
   refine aE ?_
   refine tr1 rfl (aD (v := .d (.lit (.pointer none))) (aA rfl) rfl rfl) ?_
   refine tr1 rfl (aD (v := .d (.lit (.int .i64 week_1))) (aA rfl) rfl rfl) ?_
   cases h
 ·have h := vF h
  refine fK (aW [0, 1, 2] rfl rfl (le_refl _)) ?_
  refine tr1 rfl (aD (v := .tup [.bp b5 0 0, .d (.lit (.int .i64 e7))]) (aA rfl) rfl rfl) ?_
  refine tr1 rfl (cV (aA rfl) rfl rfl) ?_
  refine tr1 rfl (cV (aA rfl) rfl rfl) ?_
  refine tr1 rfl (aJ (v := .bp b5 0 0) (aA rfl) rfl rfl) ?_
  refine tr1 rfl (aJ (v := .d (.lit (.int .i64 e7))) (aA rfl) rfl rfl) ?_
  refine aF ?_
  refine aG ?_
  refine aG ?_
  refine aE ?_
  refine tr1 rfl (aD (v := .d (.lit (.int .i64 e7))) (aA rfl) rfl rfl) ?_
  refine tr1 rfl (bC (aA rfl) rfl rfl rfl) ?_
  refine aF ?_
  refine bJ rfl (fun c9 => ?_) (fun c9 => ?_)
  ·have h := aS c9 h
   refine aG ?_
   refine aE ?_
   refine tr1 rfl (aD (v := .d (.lit (.int .i64 e7))) (aA rfl) rfl rfl) ?_
   refine tr1 rfl (sF 1 (aA rfl)) ?_
   refine tr1 rfl (aJ (v := .d (.lit (.int .i64 e7))) (aA rfl) rfl rfl) ?_
   refine aF ?_
   have h := Option.some.inj h
   subst h
   refine cQ (cG (cK (l := [4, 5]) ⟨rfl, rfl, trivial⟩)) ?_
   exact bM ⟨rfl, _, .two _ _, rfl, rfl⟩
  ·have h := aR c9 h
   refine bI ?_
   refine aG ?_
   refine aE ?_
   refine tr1 rfl (aD (v := .bp b5 0 0) (aA rfl) rfl rfl) ?_
   refine tr1 rfl (aD (v := .d (.lit (.int .i64 week_1))) (aA rfl) rfl rfl) ?_
   refine fK (aW [2, 0, 1] rfl rfl (le_refl _)) ?_
   apply aAe [.box b1 0 (aV l_0)] [.box b5 0 [.lit (.int .i64 y4.Ledger.Players), .lit (.int .i64 y4.Ledger.Counts), .lit w6, .sl 3 (y4.Ledger.Bans.map aI), .sl 3 (y4.Ledger.Frozen.map aI)], .arr w6 42 5 (y4.Ledger.Reports.map aC)] rfl
   exact fW (k := 17) (v := .cp [.lit (.int .i64 y4.Ledger.Players), .lit (.int .i64 y4.Ledger.Counts), .sl 5 (y4.Ledger.Reports.map aC), .sl 3 (y4.Ledger.Bans.map aI), .sl 3 (y4.Ledger.Frozen.map aI)]) ((lX 0 rfl rfl (dvc (.same _) (dvc (.same _) (dvc (iB 1 rfl (dD (f := aC) fun _ => rfl)) (dvc (.same _) (dvc (.same _) dvn))))))) (fW (k := 12) (v := .cp [.lit (.int .i64 y4.Ledger.Players), .lit (.int .i64 y4.Ledger.Counts), .sl 5 (y4.Ledger.Reports.map aC), .sl 3 (y4.Ledger.Bans.map aI), .sl 3 (y4.Ledger.Frozen.map aI)]) ((lX 0 rfl rfl (dvc (.same _) (dvc (.same _) (dvc (iB 1 rfl (dD (f := aC) fun _ => rfl)) (dvc (.same _) (dvc (.same _) dvn))))))) (fW (k := 11) (v := .any) (.any _) (fW (k := 8) (v := .any) (.any _) (fW (k := 6) (v := .cp [.lit (.int .i64 y4.Ledger.Players), .lit (.int .i64 y4.Ledger.Counts), .sl 5 (y4.Ledger.Reports.map aC), .sl 3 (y4.Ledger.Bans.map aI), .sl 3 (y4.Ledger.Frozen.map aI)]) ((lX 0 rfl rfl (dvc (.same _) (dvc (.same _) (dvc (iB 1 rfl (dD (f := aC) fun _ => rfl)) (dvc (.same _) (dvc (.same _) dvn))))))) (rP _ _)))))
   obtain ⟨r10, h11, h⟩ := bind_some h
   refine tr1 rfl (lO (aA rfl) (.func _ _ Try.call59) rfl rfl (tX _ _ h11)) ?_
   refine tr1 rfl (aJ (v := .d (.sl 1 (r10.map cC))) (aA rfl) rfl rfl) ?_
   refine tr1 rfl (aJ (v := .d (.lit (.int .i64 0))) (aA rfl) rfl rfl) ?_
   refine aF ?_
   have h := Option.some.inj h
   subst h
   refine cQ (cG (cK (l := [4, 5]) ⟨rfl, rfl, trivial⟩)) ?_
   exact bM ⟨rfl, _, .two _ _, rfl, rfl⟩

theorem uV (s_0 : List Int) (f_1 : Int → Option Bool) {r : Int} (f_1_f : Nat) (f_1_v : List AV) (f_1_e : ∀ args w, (callFunc f_1_f args).run Try.prog w = .ok (.enter f_1_f args) w) (f_1_h : ∀ (x0 : Int) r, f_1 x0 = some r → Fn Try.prog f_1_f ([.d (.lit (.int .i64 x0))] ++ f_1_v) (.d (.lit (.bool r)))) (h : nM s_0 f_1 = some r) : Fn Try.prog 81 [.d (.sl 1 (s_0.map cC)), .fn f_1_f f_1_v] (.d (.lit (.int .i64 r))) := by
 unfold nM at h
 refine Fn.of_tr Try.func81 rfl (rs := [.tmp 4]) Try.results81 Try.ntmps81 (Nat.le_of_ble_eq_true rfl) ?_
 refine aG ?_
 refine aE ?_
 refine tr1 rfl (aJ (v := .d (.lit (.int .i64 0))) (aA rfl) rfl rfl) ?_
 refine aF ?_
 refine aG ?_
 refine aG ?_
 refine aE ?_
 refine tr1 rfl (aD (v := .d (.sl 1 (s_0.map cC))) (aA rfl) rfl rfl) ?_
 refine tr1 rfl (dX (aA rfl) rfl eO.of) ?_
 refine tr1 rfl (aD (v := .d (.lit (.int .i64 0))) (aA rfl) rfl rfl) ?_
 refine aF ?_
 refine bQ ?_
 refine cM [0, 1, 7] (fun (s1 : Int) => [(8, .d (.lit (.int .i64 s1)))]) (fun (s1 : Int) => []) (fun (k : Nat) (s1 : Int) => jZ s_0 f_1 (s_0.length : Int) k s1) (fun _ => rfl) (0) h (aW [] rfl rfl (aN rfl (aX ⟨rfl, rfl, rfl, trivial⟩))) ?_
 rintro k2 t8_0_1 h
 simp only [jZ] at h
 refine aG ?_
 refine aE ?_
 refine tr1 rfl (bC (aA rfl) rfl rfl rfl) ?_
 refine aF ?_
 refine aG ?_
 refine bJ rfl (fun c3 => ?_) (fun c3 => ?_)
 ·have h := aS c3 h
  refine bI ?_
  refine aG ?_
  refine bQ ?_
  refine aG ?_
  refine aE ?_
  refine tr1 rfl (aD (v := .d (.lit (.int .i64 t8_0_1))) (aA rfl) rfl rfl) ?_
  refine tr1 rfl (aJ (v := .d (.lit (.int .i64 t8_0_1))) (aA rfl) rfl rfl) ?_
  refine aF ?_
  refine aG ?_
  refine aE ?_
  refine tr1 rfl (aD (v := .fn f_1_f f_1_v) (aA rfl) rfl rfl) ?_
  refine tr1 rfl (aD (v := .d (.sl 1 (s_0.map cC))) (aA rfl) rfl rfl) ?_
  refine tr1 rfl (aD (v := .d (.lit (.int .i64 t8_0_1))) (aA rfl) rfl rfl) ?_
  obtain ⟨x4, h5, h⟩ := bind_some h
  refine tr1 rfl (cE (aA rfl) rfl rfl eO.of (bP cC h5)) ?_
  refine tr1 rfl (cL (aA rfl) rfl bF) ?_
  obtain ⟨r6, h7, h⟩ := bind_some h
  refine tr1 rfl (bZ (aA rfl) (.clo _ _ _ _ f_1_e rfl) (tP rfl) rfl (BVs.refl _ _) (f_1_h _ _  h7) rfl) ?_
  refine aF ?_
  refine bJ rfl (fun c8 => ?_) (fun c8 => ?_)
  ·have h := aS c8 h
   refine aG ?_
   refine aE ?_
   refine tr1 rfl (aD (v := .d (.lit (.int .i64 t8_0_1))) (aA rfl) rfl rfl) ?_
   refine tr1 rfl (aJ (v := .d (.lit (.int .i64 t8_0_1))) (aA rfl) rfl rfl) ?_
   refine aF ?_
   have h := Option.some.inj h
   subst h
   exact bM ⟨rfl, _, .one _, rfl, rfl⟩
  ·have h := aR c8 h
   refine eJ ?_
   refine aE ?_
   refine tr1 rfl (aZ (aA rfl) rfl rfl rfl) ?_
   refine tr1 rfl (aD (v := .d (.lit (.int .i64 ((w64 (t8_0_1 + 1)))))) (aA rfl) rfl rfl) ?_
   refine aF ?_
   exact ⟨(w64 (t8_0_1 + 1)), h, aW [] rfl rfl (aN rfl (aX ⟨rfl, rfl, rfl, trivial⟩))⟩
 ·have h := aR c3 h
  refine cU ?_
  refine .inl ⟨rfl, ?_⟩
  simp only [pC] at h
  refine aG ?_
  refine aE ?_
  refine tr1 rfl (aJ (v := .d (.lit (.int .i64 (-1)))) (aA rfl) rfl rfl) ?_
  refine aF ?_
  have h := Option.some.inj h
  subst h
  exact bM ⟨rfl, _, .one _, rfl, rfl⟩

theorem oH (s_0 : List Int) (f_1 : Int → Option Bool) {r : Bool} (f_1_f : Nat) (f_1_v : List AV) (f_1_e : ∀ args w, (callFunc f_1_f args).run Try.prog w = .ok (.enter f_1_f args) w) (f_1_h : ∀ (x0 : Int) r, f_1 x0 = some r → Fn Try.prog f_1_f ([.d (.lit (.int .i64 x0))] ++ f_1_v) (.d (.lit (.bool r)))) (h : jY s_0 f_1 = some r) : Fn Try.prog 45 [.d (.sl 1 (s_0.map cC)), .fn f_1_f f_1_v] (.d (.lit (.bool r))) := by
 unfold jY at h
 refine Fn.of_tr Try.func45 rfl (rs := [.tmp 4]) Try.results45 Try.ntmps45 (Nat.le_of_ble_eq_true rfl) ?_
 refine aG ?_
 refine aE ?_
 refine tr1 rfl (aJ (v := .d (.lit (.bool false))) (aA rfl) rfl rfl) ?_
 refine aF ?_
 refine aG ?_
 refine aE ?_
 refine tr1 rfl (aD (v := .d (.sl 1 (s_0.map cC))) (aA rfl) rfl rfl) ?_
 refine tr1 rfl (aD (v := .fn f_1_f f_1_v) (aA rfl) rfl rfl) ?_
 obtain ⟨r1, h2, h⟩ := bind_some h
 refine tr1 rfl (bZ (aA rfl) (.func _ _ Try.call81) rfl rfl (BVs.refl _ _) (uV _ _ f_1_f f_1_v f_1_e f_1_h h2) rfl) ?_
 refine tr1 rfl (bC (aA rfl) rfl rfl rfl) ?_
 refine tr1 rfl (aJ (v := .d (.lit (.bool ((decide (0 ≤ r1)))))) (aA rfl) rfl rfl) ?_
 refine aF ?_
 have h := Option.some.inj h
 subst h
 exact bM ⟨rfl, _, .one _, rfl, rfl⟩

theorem vH (n_0 : Int) {r : Bool} (h : qX n_0 = some r) : Fn Try.prog 46 [.d (.lit (.int .i64 n_0))] (.d (.lit (.bool r))) := by
 unfold qX at h
 refine Fn.of_tr Try.func46 rfl (rs := [.tmp 2]) Try.results46 Try.ntmps46 (Nat.le_of_ble_eq_true rfl) ?_
 refine aG ?_
 refine aE ?_
 refine tr1 rfl (aJ (v := .d (.lit (.bool false))) (aA rfl) rfl rfl) ?_
 refine aF ?_
 refine aG ?_
 refine aE ?_
 refine tr1 rfl (aD (v := .d (.lit (.int .i64 n_0))) (aA rfl) rfl rfl) ?_
 obtain ⟨r1, h2, h⟩ := bind_some h
 refine tr1 rfl (bZ (aA rfl) (.func _ _ Try.call47) rfl rfl (BVs.refl _ _) (eQ _ _ _ h2) rfl) ?_
 refine tr1 rfl (eZ (aA rfl) rfl) ?_
 refine tr1 rfl (aJ (v := .d (.lit (.bool (!r1)))) (aA rfl) rfl rfl) ?_
 refine aF ?_
 have h := Option.some.inj h
 subst h
 exact bM ⟨rfl, _, .one _, rfl, rfl⟩

theorem xM (s_0 : List Int) (v_1 : Int) {r : Int} (h : qN s_0 v_1 = some r) : Fn Try.prog 85 [.d (.sl 1 (s_0.map cC)), .d (.lit (.int .i64 v_1))] (.d (.lit (.int .i64 r))) := by
 unfold qN at h
 refine Fn.of_tr Try.func85 rfl (rs := [.tmp 4]) Try.results85 Try.ntmps85 (Nat.le_of_ble_eq_true rfl) ?_
 refine aG ?_
 refine aE ?_
 refine tr1 rfl (aJ (v := .d (.lit (.int .i64 0))) (aA rfl) rfl rfl) ?_
 refine aF ?_
 refine aG ?_
 refine aG ?_
 refine aE ?_
 refine tr1 rfl (aD (v := .d (.sl 1 (s_0.map cC))) (aA rfl) rfl rfl) ?_
 refine tr1 rfl (dX (aA rfl) rfl eO.of) ?_
 refine tr1 rfl (aD (v := .d (.lit (.int .i64 0))) (aA rfl) rfl rfl) ?_
 refine aF ?_
 refine bQ ?_
 refine cM [0, 1, 7] (fun (s1 : Int) => [(8, .d (.lit (.int .i64 s1)))]) (fun (s1 : Int) => []) (fun (k : Nat) (s1 : Int) => mA s_0 v_1 (s_0.length : Int) k s1) (fun _ => rfl) (0) h (aW [] rfl rfl (aN rfl (aX ⟨rfl, rfl, rfl, trivial⟩))) ?_
 rintro k2 t8_0_1 h
 simp only [mA] at h
 refine aG ?_
 refine aE ?_
 refine tr1 rfl (bC (aA rfl) rfl rfl rfl) ?_
 refine aF ?_
 refine aG ?_
 refine bJ rfl (fun c3 => ?_) (fun c3 => ?_)
 ·have h := aS c3 h
  refine bI ?_
  refine aG ?_
  refine bQ ?_
  refine aG ?_
  refine aE ?_
  refine tr1 rfl (aD (v := .d (.lit (.int .i64 t8_0_1))) (aA rfl) rfl rfl) ?_
  refine tr1 rfl (aJ (v := .d (.lit (.int .i64 t8_0_1))) (aA rfl) rfl rfl) ?_
  refine aF ?_
  refine aG ?_
  refine aE ?_
  refine tr1 rfl (aD (v := .d (.lit (.int .i64 v_1))) (aA rfl) rfl rfl) ?_
  refine tr1 rfl (aD (v := .d (.sl 1 (s_0.map cC))) (aA rfl) rfl rfl) ?_
  refine tr1 rfl (aD (v := .d (.lit (.int .i64 t8_0_1))) (aA rfl) rfl rfl) ?_
  obtain ⟨x4, h5, h⟩ := bind_some h
  refine tr1 rfl (cE (aA rfl) rfl rfl eO.of (bP cC h5)) ?_
  refine tr1 rfl (cL (aA rfl) rfl bF) ?_
  refine tr1 rfl (bC (aA rfl) rfl rfl rfl) ?_
  refine aF ?_
  refine bJ rfl (fun c6 => ?_) (fun c6 => ?_)
  ·have h := aS c6 h
   refine aG ?_
   refine aE ?_
   refine tr1 rfl (aD (v := .d (.lit (.int .i64 t8_0_1))) (aA rfl) rfl rfl) ?_
   refine tr1 rfl (aJ (v := .d (.lit (.int .i64 t8_0_1))) (aA rfl) rfl rfl) ?_
   refine aF ?_
   have h := Option.some.inj h
   subst h
   exact bM ⟨rfl, _, .one _, rfl, rfl⟩
  ·have h := aR c6 h
   refine eJ ?_
   refine aE ?_
   refine tr1 rfl (aZ (aA rfl) rfl rfl rfl) ?_
   refine tr1 rfl (aD (v := .d (.lit (.int .i64 ((w64 (t8_0_1 + 1)))))) (aA rfl) rfl rfl) ?_
   refine aF ?_
   exact ⟨(w64 (t8_0_1 + 1)), h, aW [] rfl rfl (aN rfl (aX ⟨rfl, rfl, rfl, trivial⟩))⟩
 ·have h := aR c3 h
  refine cU ?_
  refine .inl ⟨rfl, ?_⟩
  simp only [rN] at h
  refine aG ?_
  refine aE ?_
  refine tr1 rfl (aJ (v := .d (.lit (.int .i64 (-1)))) (aA rfl) rfl rfl) ?_
  refine aF ?_
  have h := Option.some.inj h
  subst h
  exact bM ⟨rfl, _, .one _, rfl, rfl⟩

theorem xX (b_0 : bT) (player_1 : Int) (week_2 : Int) {r : Int} (h : rB b_0 player_1 week_2 = some r) : Fn Try.prog 51 [.cp (cF b_0), .d (.lit (.int .i64 player_1)), .d (.lit (.int .i64 week_2))] (.d (.lit (.int .i64 r))) := by
 unfold rB at h
 refine Fn.of_tr Try.func51 rfl (rs := [.tmp 6]) Try.results51 Try.ntmps51 (Nat.le_of_ble_eq_true rfl) ?_
 refine aG ?_
 refine aE ?_
 refine tr1 rfl (aJ (v := .d (.lit (.int .i64 0))) (aA rfl) rfl rfl) ?_
 refine aF ?_
 refine aG ?_
 refine aE ?_
 refine tr1 rfl (aD (v := .cp [.lit (.int .i64 b_0.Ledger.Players), .lit (.int .i64 b_0.Ledger.Counts), .sl 5 (b_0.Ledger.Reports.map aC), .sl 3 (b_0.Ledger.Bans.map aI), .sl 3 (b_0.Ledger.Frozen.map aI)]) (aA rfl) rfl rfl) ?_
 refine tr1 rfl (aD (v := .d (.lit (.int .i64 week_2))) (aA rfl) rfl rfl) ?_
 obtain ⟨r1, h2, h⟩ := bind_some h
 refine tr1 rfl (lO (aA rfl) (.func _ _ Try.call59) rfl rfl (tX _ _ h2)) ?_
 refine tr1 rfl (aD (v := .d (.lit (.int .i64 player_1))) (aA rfl) rfl rfl) ?_
 obtain ⟨r3, h4, h⟩ := bind_some h
 refine tr1 rfl (bZ (aA rfl) (.func _ _ Try.call85) rfl rfl (BVs.refl _ _) (xM _ _ h4) rfl) ?_
 refine tr1 rfl (aZ (aA rfl) rfl rfl rfl) ?_
 refine tr1 rfl (aJ (v := .d (.lit (.int .i64 ((w64 (r3 + 1)))))) (aA rfl) rfl rfl) ?_
 refine aF ?_
 have h := Option.some.inj h
 subst h
 exact bM ⟨rfl, _, .one _, rfl, rfl⟩

theorem aAc (book : bT) (pl : Int) (wk : Int) (ms : Bool) (be : Int) (wo : Int) {r : Bool × Int × Int} {book_b book_o : Nat} {bb_b bb_o : Nat} {pl_b pl_o : Nat} {wk_b wk_o : Nat} {ms_b ms_o : Nat} {be_b be_o : Nat} {wo_b wo_o : Nat} (h : tV book pl wk ms be wo = some r) : fM Try.prog 50 [.bp bb_b bb_o 0, .bp pl_b pl_o 0, .bp wk_b wk_o 0, .bp ms_b ms_o 0, .bp be_b be_o 0, .bp wo_b wo_o 0] [.box book_b book_o (cF book), .box bb_b bb_o [gH book_b book_o 0], .box pl_b pl_o [.lit (.int .i64 pl)], .box wk_b wk_o [.lit (.int .i64 wk)], .box ms_b ms_o [.lit (.bool ms)], .box be_b be_o [.lit (.int .i64 be)], .box wo_b wo_o [.lit (.int .i64 wo)]] (fun r' o' => r' = .tup [] ∧ o' = [.box book_b book_o (cF book), .box bb_b bb_o [gH book_b book_o 0], .box pl_b pl_o [.lit (.int .i64 pl)], .box wk_b wk_o [.lit (.int .i64 wk)], .box ms_b ms_o [.lit (.bool r.1)], .box be_b be_o [.lit (.int .i64 r.2.1)], .box wo_b wo_o [.lit (.int .i64 r.2.2)]]) := by
 unfold tV at h
 refine jB Try.func50 rfl (rs := []) Try.results50 Try.ntmps50 (Nat.le_of_ble_eq_true rfl) ?_
 refine aG ?_
 refine aE ?_
 refine tr1 rfl (sO (i := 1) (aA rfl) rfl rfl rfl vD) ?_
 refine tr1 rfl (aT (aA rfl) rfl (i := 2) rfl rfl bF) ?_
 refine tr1 rfl (aT (aA rfl) rfl (i := 3) rfl rfl bF) ?_
 obtain ⟨r1, h2, h⟩ := bind_some h
 refine tr1 rfl (bZ (aA rfl) (.func _ _ Try.call51) rfl rfl (.cons ((lX 0 rfl rfl (dvc (.same _) (dvc (.same _) (dvc (.same _) (dvc (.same _) (dvc (.same _) dvn))))))) (.cons (.same _) (.cons (.same _) .nil))) (xX _ _ _ h2) rfl) ?_
 refine tr1 rfl (aJ (v := .d (.lit (.int .i64 r1))) (aA rfl) rfl rfl) ?_
 refine aF ?_
 refine aG ?_
 refine aE ?_
 refine tr1 rfl (aT (aA rfl) rfl (i := 4) rfl rfl tE) ?_
 refine tr1 rfl (aD (v := .d (.lit (.bool ms))) (aA rfl) rfl rfl) ?_
 obtain ⟨b3, h4, h⟩ := bind_some h
 refine bW 3 [3, 4, 5, 6] 15 b3 ?_ ?_
 ·refine bG (ms) (fun c6 => ?_) (fun c6 => ?_)
  ·have h4 := aS c6 h4
   refine aO rfl rfl (aA rfl) rfl (aA rfl) rfl c6 ?_
   refine aO rfl rfl (aA rfl) rfl (aA rfl) rfl c6 ?_
   refine tr1 rfl (bO (v := .d (.lit (.bool true))) (aA rfl) rfl c6 rfl rfl) ?_
   have h4 := Option.some.inj h4
   subst h4
   refine aF (aY rfl ⟨rfl, rfl, rfl, rfl, trivial⟩ rfl)
  ·have h4 := aR c6 h4
   refine aL rfl rfl (aA rfl) rfl c6 (aD (v := .d (.lit (.int .i64 r1))) (aA rfl) rfl rfl) ?_
   refine aL rfl rfl (aA rfl) rfl c6 (bC (aA rfl) rfl rfl rfl) ?_
   refine tr1 rfl (bN (v := .d (.lit (.bool ((decide (r1 = 0)))))) (aA rfl) rfl c6 rfl rfl) ?_
   have h4 := Option.some.inj h4
   subst h4
   refine aF (aY rfl ⟨rfl, rfl, rfl, rfl, trivial⟩ rfl)
 ·refine tr1 rfl (cA (i := 4) rfl rfl rfl rfl rfl Try.sizeOf4 rfl (aA rfl) (Nat.le_of_ble_eq_true rfl) (ds' := [.lit (.bool b3)]) rfl) ?_
  refine aF ?_
  refine mP mix 7 [5] (fun X5 => [(21, .d (.lit (.int .i64 ((max wo r1)))))]) (fun X5 => [.box book_b book_o (cF book), .box bb_b bb_o [gH book_b book_o 0], .box pl_b pl_o [.lit (.int .i64 pl)], .box wk_b wk_o [.lit (.int .i64 wk)], .box ms_b ms_o [.lit (.bool b3)], .box be_b be_o [.lit (.int .i64 ((min be r1)))], .box wo_b wo_o [.lit (.int .i64 wo)]]) ?_ ?_
  ·refine ⟨0, fun X5 => [(16, 0, .d (.lit (.int .i64 be))), (17, 1, .d (.lit (.int .i64 r1))), (18, 2, .d (.lit (.int .i64 ((min be r1))))), (19, 3, .d (.lit (.int .i64 wo))), (20, 4, .d (.lit (.int .i64 r1))), (21, 5, .d (.lit (.int .i64 ((max wo r1)))))], fun X5 => [([], .box book_b book_o (cF book)), ([], .box bb_b bb_o [gH book_b book_o 0]), ([], .box pl_b pl_o [.lit (.int .i64 pl)]), ([], .box wk_b wk_o [.lit (.int .i64 wk)]), ([], .box ms_b ms_o [.lit (.bool b3)]), ([(6, .box be_b be_o [.lit (.int .i64 ((min be r1)))])], .box be_b be_o [.lit (.int .i64 be)]), ([], .box wo_b wo_o [.lit (.int .i64 wo)])], ?_, ?_⟩
   · exact ⟨by kernel_rfl, by kernel_rfl, by kernel_rfl, fun _ => by kernel_rfl, fun _ => by kernel_rfl, fun _ => by kernel_rfl, fun _ => rfl, [([], [6]), ([], [6]), ([0, 1], [6]), ([], []), ([], []), ([3, 4], []), ([2], [])], by kernel_rfl, ⟨fun X5 S hw hi hS => bL (X := X5) rfl (hw X5) rfl (aP rfl (aT (aA rfl) (aH hS rfl) (i := 5) (og hS rfl rfl) rfl bF)),
      fun X5 S hw hi hS => bL (X := X5) rfl (hw X5) rfl (aP rfl (aD (v := .d (.lit (.int .i64 r1))) (aA rfl) (aH hS rfl) rfl)),
      fun X5 S hw hi hS => bL (X := X5) rfl (hw X5) rfl (aP rfl (aEl (aA rfl) (aH hS rfl) (aH hS rfl))),
      fun X5 S hw hi hS => bL (X := X5) rfl (hw X5) rfl (aP rfl (aT (aA rfl) (aH hS rfl) (i := 6) (og hS rfl rfl) rfl bF)),
      fun X5 S hw hi hS => bL (X := X5) rfl (hw X5) rfl (aP rfl (aD (v := .d (.lit (.int .i64 r1))) (aA rfl) (aH hS rfl) rfl)),
      fun X5 S hw hi hS => bL (X := X5) rfl (hw X5) rfl (aP rfl (aBe (aA rfl) (aH hS rfl) (aH hS rfl))),
      fun X5 S hw hi hS => qQ (X := X5) hS rfl rfl rfl (p := 5) rfl rfl (aP rfl (cA (i := 5) (aH hS rfl) (og hS rfl rfl) (aH hS rfl) rfl rfl Try.sizeOf3 rfl (aA rfl) (Nat.le_of_ble_eq_true rfl) (ds' := [.lit (.int .i64 ((min be r1)))]) rfl)), trivial⟩⟩
   · exact fun X5 => eE (aN rfl (aX ⟨rfl, trivial⟩))
  ·intro X5
   refine tr1 rfl (cA (i := 6) rfl rfl rfl rfl rfl Try.sizeOf3 rfl (aA rfl) (Nat.le_of_ble_eq_true rfl) (ds' := [.lit (.int .i64 ((max wo r1)))]) rfl) ?_
   refine aF ?_
   have h := Option.some.inj h
   subst h
   exact ⟨_, [.box book_b book_o (cF book), .box bb_b bb_o [gH book_b book_o 0], .box pl_b pl_o [.lit (.int .i64 pl)], .box wk_b wk_o [.lit (.int .i64 wk)], .box ms_b ms_o [.lit (.bool b3)], .box be_b be_o [.lit (.int .i64 ((min be r1)))], .box wo_b wo_o [.lit (.int .i64 ((max wo r1)))]], [], _, .none, .refl _, .same _, rfl, rfl⟩

theorem xL (n_1 : Int) {r : (List Int)} (h : rI n_1 = some r) : fM Try.prog 102 [.d (.lit (.slice none 0 0)), .d (.lit (.int .i64 n_1))] [] (fun r' o' => ∃ (w0 : Value), r' = .d (.lit w0) ∧ o' = [.arr w0 3 1 (r.map cC)]) := by
 unfold rI at h
 refine mF Try.func102 rfl (rs := [.tmp 4]) Try.results102 Try.ntmps102 (Nat.le_of_ble_eq_true rfl) ?_
 refine cQ (aDz 3 1) ?_
 refine aG ?_
 refine aE ?_
 refine tr1 rfl (iY 3 1 (.inl rfl) (aA rfl)) ?_
 refine aF ?_
 refine aG ?_
 refine aG ?_
 refine aE ?_
 refine tr1 rfl (aD (v := .d (.lit (.int .i64 n_1))) (aA rfl) rfl rfl) ?_
 refine tr1 rfl (bC (aA rfl) rfl rfl rfl) ?_
 refine aF ?_
 refine bJ rfl (fun c2 => ?_) (fun c2 => ?_)
 ·have h := aS c2 h
  cases h
 ·have h := aR c2 h
  refine bI ?_
  refine aG ?_
  refine aG ?_
  refine aE ?_
  refine tr1 rfl (aD (v := .d (.lit (.int .i64 n_1))) (aA rfl) rfl rfl) ?_
  refine tr1 rfl (aD (v := .d (.lit (.slice none 0 0))) (aA rfl) rfl rfl) ?_
  refine tr1 rfl (aAv (aA rfl) rfl eO.of) ?_
  refine tr1 rfl (aD (v := .d (.lit (.slice none 0 0))) (aA rfl) rfl rfl) ?_
  refine tr1 rfl (aAw (aA rfl) rfl eO.of) ?_
  refine tr1 rfl (aZ (aA rfl) rfl rfl rfl) ?_
  refine tr1 rfl (aZ (aA rfl) rfl rfl rfl) ?_
  refine tr1 rfl (aJ (v := .d (.lit (.int .i64 ((w64 (n_1 - (w64 (0 - 0)))))))) (aA rfl) rfl rfl) ?_
  refine aF ?_
  refine aG ?_
  refine aE ?_
  refine tr1 rfl (aD (v := .d (.lit (.int .i64 ((w64 (n_1 - (w64 (0 - 0)))))))) (aA rfl) rfl rfl) ?_
  refine tr1 rfl (bC (aA rfl) rfl rfl rfl) ?_
  refine aF ?_
  refine bJ rfl (fun c3 => ?_) (fun c3 => ?_)
  ·have h := aS c3 h
   refine aE ?_
   refine tr1 rfl (aD (v := .d (.lit (.slice none 0 0))) (aA rfl) rfl rfl) ?_
   refine tr1 rfl (aD (v := .d (.lit (.slice none 0 0))) (aA rfl) rfl rfl) ?_
   refine tr1 rfl (aAv (aA rfl) rfl eO.of) ?_
   obtain ⟨u4, h5, h⟩ := bind_some h
   refine tr1 rfl (rE (m := 0) (q := 0) (v := (.slice none 0 0)) (aA rfl) rfl rfl rfl rfl (zB h5) eO.of) ?_
   refine tr1 rfl (aD (v := .d (.lit (.int .i64 ((w64 (n_1 - (w64 (0 - 0)))))))) (aA rfl) rfl rfl) ?_
   obtain ⟨u6, h7, h⟩ := bind_some h
   refine bR rfl (aGb (i := 0) (aA rfl) eO rfl rfl rfl Try.underlying3 (aBk h7).1 (aBk h7).2 (by decide)) ?_
   rintro _ ⟨v8, rfl⟩
   refine tr1 rfl (aD (v := .d (.lit (.slice none 0 0))) (aA rfl) rfl rfl) ?_
   refine tr1 rfl (aAw (aA rfl) rfl eO.of) ?_
   obtain ⟨u9, h10, h⟩ := bind_some h
   refine tr1 rfl (rE (m := 0) (q := 0) (v := v8) (aA rfl) rfl rfl rfl rfl (zB h10) eO.of) ?_
   refine tr1 rfl (aJ (v := .d (.lit (fZ v8 0))) (aA rfl) rfl rfl) ?_
   refine aF ?_
   refine aG ?_
   refine aE ?_
   refine tr1 rfl (aD (v := .d (.lit (fZ v8 0))) (aA rfl) rfl rfl) ?_
   refine tr1 rfl (aJ (v := .d (.lit (fZ v8 0))) (aA rfl) rfl rfl) ?_
   refine aF ?_
   have h := Option.some.inj h
   subst h
   exact bM ⟨rfl, _, [.arr (fZ v8 0) 3 1 (([] : List Int).map cC)], [.arr (.slice none 0 0) 3 1 (([] : List Int).map cC)], _, .one (.tmp 4 (v := .d (.lit (fZ v8 0))) rfl), .refl _, .same _, (fZ v8 0), rfl, rfl⟩
  ·have h := aR c3 h
   refine bI ?_
   refine aG ?_
   refine aE ?_
   refine tr1 rfl (aD (v := .d (.lit (.slice none 0 0))) (aA rfl) rfl rfl) ?_
   refine tr1 rfl (aJ (v := .d (.lit (.slice none 0 0))) (aA rfl) rfl rfl) ?_
   refine aF ?_
   have h := Option.some.inj h
   subst h
   exact bM ⟨rfl, _, [.arr (.slice none 0 0) 3 1 (([] : List Int).map cC)], [.arr (.slice none 0 0) 3 1 (([] : List Int).map cC)], _, .one (.tmp 4 (v := .d (.lit (.slice none 0 0))) rfl), .refl _, .same _, (.slice none 0 0), rfl, rfl⟩

theorem wL (slices_0 : List (List Int)) {r : (List Int)} (h : pK slices_0 = some r) : Fn Try.prog 84 [.d (.sl 1 (slices_0.map qP))] (.d (.sl 1 (r.map cC))) := by
 unfold pK at h
 refine Fn.of_tr Try.func84 rfl (rs := [.tmp 2]) Try.results84 Try.ntmps84 (Nat.le_of_ble_eq_true rfl) ?_
 refine aG ?_
 refine aE ?_
 refine tr1 rfl (sF 1 (aA rfl)) ?_
 refine aF ?_
 refine aG ?_
 refine aE ?_
 refine tr1 rfl (aJ (v := .d (.lit (.int .i64 0))) (aA rfl) rfl rfl) ?_
 refine aF ?_
 refine aG ?_
 refine aG ?_
 refine aE ?_
 refine tr1 rfl (aD (v := .d (.sl 1 (slices_0.map qP))) (aA rfl) rfl rfl) ?_
 refine tr1 rfl (dX (aA rfl) rfl xK.of) ?_
 refine tr1 rfl (aD (v := .d (.lit (.int .i64 0))) (aA rfl) rfl rfl) ?_
 refine aF ?_
 refine bQ ?_
 refine cM [0, 9, 10] (fun (s1 : Int × Int) => [(3, .d (.lit (.int .i64 s1.1))), (11, .d (.lit (.int .i64 s1.2)))]) (fun (s1 : Int × Int) => []) (fun (k : Nat) (s1 : Int × Int) => lJ slices_0 slices_0 (slices_0.length : Int) k s1.1 s1.2) (fun _ => rfl) (0, 0) h (aW [] rfl rfl (aN rfl (aN rfl (aX ⟨rfl, rfl, rfl, trivial⟩)))) ?_
 rintro k2 ⟨size_0_1, t11_0_1⟩ h
 simp only [lJ] at h
 refine aG ?_
 refine aE ?_
 refine tr1 rfl (bC (aA rfl) rfl rfl rfl) ?_
 refine aF ?_
 refine aG ?_
 refine bJ rfl (fun c3 => ?_) (fun c3 => ?_)
 ·have h := aS c3 h
  refine bI ?_
  refine aG ?_
  refine bQ ?_
  refine aG ?_
  refine aE ?_
  obtain ⟨x4, h5, h⟩ := bind_some h
  refine tr1 rfl (cE (aA rfl) rfl rfl xK.of (bP qP h5)) ?_
  refine tr1 rfl (cL (aA rfl) rfl aFa) ?_
  refine tr1 rfl (aJ (v := .d (.sl 1 (x4.map cC))) (aA rfl) rfl rfl) ?_
  refine aF ?_
  refine aG ?_
  refine aE ?_
  refine tr1 rfl (aD (v := .d (.lit (.int .i64 size_0_1))) (aA rfl) rfl rfl) ?_
  refine tr1 rfl (aD (v := .d (.sl 1 (x4.map cC))) (aA rfl) rfl rfl) ?_
  refine tr1 rfl (dX (aA rfl) rfl eO.of) ?_
  refine tr1 rfl (aZ (aA rfl) rfl rfl rfl) ?_
  refine tr1 rfl (aJ (v := .d (.lit (.int .i64 ((w64 (size_0_1 + (x4.length : Int))))))) (aA rfl) rfl rfl) ?_
  refine aF ?_
  refine aG ?_
  refine aE ?_
  refine tr1 rfl (aD (v := .d (.lit (.int .i64 ((w64 (size_0_1 + (x4.length : Int))))))) (aA rfl) rfl rfl) ?_
  refine tr1 rfl (bC (aA rfl) rfl rfl rfl) ?_
  refine aF ?_
  refine bJ rfl (fun c6 => ?_) (fun c6 => ?_)
  ·have h := aS c6 h
   cases h
  ·have h := aR c6 h
   refine eJ ?_
   refine aE ?_
   refine tr1 rfl (aZ (aA rfl) rfl rfl rfl) ?_
   refine tr1 rfl (aD (v := .d (.lit (.int .i64 ((w64 (t11_0_1 + 1)))))) (aA rfl) rfl rfl) ?_
   refine aF ?_
   exact ⟨(w64 (size_0_1 + (x4.length : Int)), w64 (t11_0_1 + 1)), h, aW [] rfl rfl (aN rfl (aN rfl (aX ⟨rfl, rfl, rfl, trivial⟩)))⟩
 ·have h := aR c3 h
  refine cU ?_
  refine .inl ⟨rfl, ?_⟩
  simp only [rF] at h
  refine aG ?_
  refine aE ?_
  refine tr1 rfl (aD (v := .d (.lit (.int .i64 size_0_1))) (aA rfl) rfl rfl) ?_
  obtain ⟨r7, h8, h⟩ := bind_some h
  refine bR rfl (vW (aA rfl) (.func _ _ Try.call102) rfl rfl (xL _ h8)) ?_
  rintro _ ⟨v9, rfl⟩
  refine tr1 rfl (aJ (v := .d (.lit v9)) (aA rfl) rfl rfl) ?_
  refine aF ?_
  refine aG ?_
  refine aG ?_
  refine aE ?_
  refine tr1 rfl (aD (v := .d (.sl 1 (slices_0.map qP))) (aA rfl) rfl rfl) ?_
  refine tr1 rfl (dX (aA rfl) rfl xK.of) ?_
  refine tr1 rfl (aD (v := .d (.lit (.int .i64 0))) (aA rfl) rfl rfl) ?_
  refine aF ?_
  refine bQ ?_
  refine cM [25, 26] (fun (s10 : Int × (List Int) × Value) => [(6, .d (.lit s10.2.2)), (27, .d (.lit (.int .i64 s10.1)))]) (fun (s10 : Int × (List Int) × Value) => [.arr s10.2.2 3 1 (s10.2.1.map cC)]) (fun (k : Nat) (s10 : Int × (List Int) × Value) => lK slices_0 (slices_0.length : Int) k s10.1 s10.2.1) (fun _ => rfl) (0, r7, v9) h (aW [0] rfl rfl (aN rfl (aN rfl (aX ⟨rfl, rfl, trivial⟩)))) ?_
  rintro k12 ⟨t27_2_10, o24_2_10, w11⟩ h
  simp only [lK] at h
  refine aG ?_
  refine aE ?_
  refine tr1 rfl (bC (aA rfl) rfl rfl rfl) ?_
  refine aF ?_
  refine aG ?_
  refine bJ rfl (fun c13 => ?_) (fun c13 => ?_)
  ·have h := aS c13 h
   refine bI ?_
   refine aG ?_
   refine bQ ?_
   refine aG ?_
   refine aE ?_
   obtain ⟨x14, h15, h⟩ := bind_some h
   refine tr1 rfl (cE (aA rfl) rfl rfl xK.of (bP qP h15)) ?_
   refine tr1 rfl (cL (aA rfl) rfl aFa) ?_
   refine tr1 rfl (aJ (v := .d (.sl 1 (x14.map cC))) (aA rfl) rfl rfl) ?_
   refine aF ?_
   refine aE ?_
   refine tr1 rfl (aD (v := .d (.lit w11)) (aA rfl) rfl rfl) ?_
   refine tr1 rfl (aD (v := .d (.sl 1 (x14.map cC))) (aA rfl) rfl rfl) ?_
   obtain ⟨x16, h17, h⟩ := bind_some h
   refine bR rfl (oO (i := 0) (aA rfl) eO rfl rfl rfl (fun _ => rfl) h17 rfl) ?_
   rintro _ ⟨v18, rfl⟩
   refine tr1 rfl (aJ (v := .d (.lit v18)) (aA rfl) rfl rfl) ?_
   refine eB ?_
   refine aE ?_
   refine tr1 rfl (aZ (aA rfl) rfl rfl rfl) ?_
   refine tr1 rfl (aD (v := .d (.lit (.int .i64 ((w64 (t27_2_10 + 1)))))) (aA rfl) rfl rfl) ?_
   refine aF ?_
   exact ⟨(w64 (t27_2_10 + 1), x16, v18), h, aW [0] rfl rfl (aN rfl (aN rfl (aX ⟨rfl, rfl, trivial⟩)))⟩
  ·have h := aR c13 h
   refine cU ?_
   refine .inl ⟨rfl, ?_⟩
   simp only [rG] at h
   refine aG ?_
   refine aE ?_
   refine tr1 rfl (aD (v := .d (.lit w11)) (aA rfl) rfl rfl) ?_
   refine tr1 rfl (aJ (v := .d (.lit w11)) (aA rfl) rfl rfl) ?_
   refine aF ?_
   have h := Option.some.inj h
   subst h
   refine cQ (cG (fW (k := 2) (v := .d (.sl 1 (o24_2_10.map cC))) (.d (iB 0 rfl (dD (f := cC) fun _ => rfl))) (xR))) ?_
   exact bM ⟨rfl, _, .one _, rfl, rfl⟩

theorem vU (kr : Nat) : ∀ (book : bT) (pl : Int) (wk : Int) (ms : Bool) (be : Int) (wo : Int) (week_1 : Int) (prizes_2 : List Int) (free_3 : List Int) {r : bT × Bool × Int × Int} {book_b book_o : Nat} {bb_b bb_o : Nat} {pl_b pl_o : Nat} {wk_b wk_o : Nat} {ms_b ms_o : Nat} {be_b be_o : Nat} {wo_b wo_o : Nat} (_h : kC kr book pl wk ms be wo week_1 prizes_2 free_3 = some r), fM Try.prog 49 [.bp book_b book_o 0, .d (.lit (.int .i64 week_1)), .d (.sl 1 (prizes_2.map cC)), .d (.sl 1 (free_3.map cC)), .fn 50 [.bp bb_b bb_o 0, .bp pl_b pl_o 0, .bp wk_b wk_o 0, .bp ms_b ms_o 0, .bp be_b be_o 0, .bp wo_b wo_o 0]] [.box book_b book_o (cF book), .box bb_b bb_o [gH book_b book_o 0], .box pl_b pl_o [.lit (.int .i64 pl)], .box wk_b wk_o [.lit (.int .i64 wk)], .box ms_b ms_o [.lit (.bool ms)], .box be_b be_o [.lit (.int .i64 be)], .box wo_b wo_o [.lit (.int .i64 wo)]] (fun r' o' => r' = .tup [] ∧ o' = [.box book_b book_o (cF r.1), .box bb_b bb_o [gH book_b book_o 0], .box pl_b pl_o [.lit (.int .i64 pl)], .box wk_b wk_o [.lit (.int .i64 wk)], .box ms_b ms_o [.lit (.bool r.2.1)], .box be_b be_o [.lit (.int .i64 r.2.2.1)], .box wo_b wo_o [.lit (.int .i64 r.2.2.2)]]) := by
  induction kr with
  | zero => intros; rename_i h; cases h
  | succ kr ih =>
    intro book pl wk ms be wo week_1 prizes_2 free_3 r book_b book_o bb_b bb_o pl_b pl_o wk_b wk_o ms_b ms_o be_b be_o wo_b wo_o h
    simp only [kC] at h
    refine jB Try.func49 rfl (rs := []) Try.results49 Try.ntmps49 (Nat.le_of_ble_eq_true rfl) ?_
    refine aG ?_
    refine aG ?_
    refine aE ?_
    refine tr1 rfl (aD (v := .d (.sl 1 (prizes_2.map cC))) (aA rfl) rfl rfl) ?_
    refine tr1 rfl (dX (aA rfl) rfl eO.of) ?_
    refine tr1 rfl (bC (aA rfl) rfl rfl rfl) ?_
    refine tr1 rfl (aD (v := .d (.lit (.bool ((decide ((prizes_2.length : Int) = 0)))))) (aA rfl) rfl rfl) ?_
    obtain ⟨b1, h2, h⟩ := bind_some h
    refine bW 4 [0, 1, 2, 3, 4] 20 b1 ?_ ?_
    ·refine bG (decide ((prizes_2.length : Int) = 0)) (fun c30 => ?_) (fun c30 => ?_)
     ·have h2 := aS c30 h2
      refine aO rfl rfl (aA rfl) rfl (aA rfl) rfl c30 ?_
      refine aO rfl rfl (aA rfl) rfl (aA rfl) rfl c30 ?_
      refine aO rfl rfl (aA rfl) rfl (aA rfl) rfl c30 ?_
      refine tr1 rfl (bO (v := .d (.lit (.bool true))) (aA rfl) rfl c30 rfl rfl) ?_
      have h2 := Option.some.inj h2
      subst h2
      refine aF (aY rfl ⟨rfl, rfl, rfl, rfl, rfl, trivial⟩ rfl)
     ·have h2 := aR c30 h2
      refine aL rfl rfl (aA rfl) rfl c30 (aD (v := .d (.sl 1 (free_3.map cC))) (aA rfl) rfl rfl) ?_
      refine aL rfl rfl (aA rfl) rfl c30 (dX (aA rfl) rfl eO.of) ?_
      refine aL rfl rfl (aA rfl) rfl c30 (bC (aA rfl) rfl rfl rfl) ?_
      refine tr1 rfl (bN (v := .d (.lit (.bool ((decide ((free_3.length : Int) = 0)))))) (aA rfl) rfl c30 rfl rfl) ?_
      have h2 := Option.some.inj h2
      subst h2
      refine aF (aY rfl ⟨rfl, rfl, rfl, rfl, rfl, trivial⟩ rfl)
    ·refine aF ?_
     refine bJ rfl (fun c3 => ?_) (fun c3 => ?_)
     ·have h := aS c3 h
      refine aG ?_
      refine aE ?_
      refine tr1 rfl (aD (v := .fn 50 [.bp bb_b bb_o 0, .bp pl_b pl_o 0, .bp wk_b wk_o 0, .bp ms_b ms_o 0, .bp be_b be_o 0, .bp wo_b wo_o 0]) (aA rfl) rfl rfl) ?_
      obtain ⟨r4, h5, h⟩ := bind_some h
      refine bR rfl (dM (passed := [.box book_b book_o (cF book), .box bb_b bb_o [gH book_b book_o 0], .box pl_b pl_o [.lit (.int .i64 pl)], .box wk_b wk_o [.lit (.int .i64 wk)], .box ms_b ms_o [.lit (.bool ms)], .box be_b be_o [.lit (.int .i64 be)], .box wo_b wo_o [.lit (.int .i64 wo)]]) (aA rfl) rfl (.clo _ _ _ _ Try.call50 rfl) (tP rfl) rfl (aAc book pl wk ms be wo h5)) ?_
      rintro _ ⟨_, _, ⟨rfl, rfl⟩, rfl⟩
      refine aF ?_
      have h := Option.some.inj h
      subst h
      exact bM ⟨rfl, _, [.box book_b book_o (cF book), .box bb_b bb_o [gH book_b book_o 0], .box pl_b pl_o [.lit (.int .i64 pl)], .box wk_b wk_o [.lit (.int .i64 wk)], .box ms_b ms_o [.lit (.bool r4.1)], .box be_b be_o [.lit (.int .i64 r4.2.1)], .box wo_b wo_o [.lit (.int .i64 r4.2.2)]], [], _, .none, .refl _, .same _, rfl, rfl⟩
     ·have h := aR c3 h
      refine bI ?_
      refine aG ?_
      refine aE ?_
      refine tr1 rfl (aD (v := .bp book_b book_o 0) (aA rfl) rfl rfl) ?_
      refine tr1 rfl (iO (aA rfl) rfl) ?_
      refine tr1 rfl (aQ (aA rfl) rfl gM) ?_
      refine tr1 rfl (aQ (aA rfl) rfl eF) ?_
      refine tr1 rfl (aT (aA rfl) rfl (i := 0) rfl rfl hB) ?_
      refine tr1 rfl (dX (aA rfl) rfl bY.of) ?_
      refine tr1 rfl (aJ (v := .d (.lit (.int .i64 ((book.Ledger.Reports.length : Int))))) (aA rfl) rfl rfl) ?_
      refine aF ?_
      refine aG ?_
      refine aG ?_
      refine aE ?_
      refine tr1 rfl (aD (v := .d (.sl 1 (free_3.map cC))) (aA rfl) rfl rfl) ?_
      refine tr1 rfl (dX (aA rfl) rfl eO.of) ?_
      refine tr1 rfl (aD (v := .d (.lit (.int .i64 0))) (aA rfl) rfl rfl) ?_
      refine aF ?_
      refine bQ ?_
      refine cM [0, 1, 2, 3, 4, 10, 29, 30] (fun (s6 : Int × bT × Bool × Int × Int) => [(31, .d (.lit (.int .i64 s6.1)))]) (fun (s6 : Int × bT × Bool × Int × Int) => [.box book_b book_o (cF s6.2.1), .box bb_b bb_o [gH book_b book_o 0], .box pl_b pl_o [.lit (.int .i64 pl)], .box wk_b wk_o [.lit (.int .i64 wk)], .box ms_b ms_o [.lit (.bool s6.2.2.1)], .box be_b be_o [.lit (.int .i64 s6.2.2.2.1)], .box wo_b wo_o [.lit (.int .i64 s6.2.2.2.2)]]) (fun (k : Nat) (s6 : Int × bT × Bool × Int × Int) => lH (kC kr) week_1 prizes_2 free_3 (book.Ledger.Reports.length : Int) free_3 (free_3.length : Int) pl wk k s6.1 s6.2.1 s6.2.2.1 s6.2.2.2.1 s6.2.2.2.2) (fun _ => rfl) (0, book, ms, be, wo) h (aW [0, 1, 2, 3, 4, 5, 6] rfl rfl (aN rfl (aX ⟨rfl, rfl, rfl, rfl, rfl, rfl, rfl, rfl, trivial⟩))) ?_
      rintro k7 ⟨t31_0_6, b_0_6, b_0_6_4, b_0_6_5, b_0_6_6⟩ h
      simp only [lH] at h
      refine aG ?_
      refine aE ?_
      refine tr1 rfl (bC (aA rfl) rfl rfl rfl) ?_
      refine aF ?_
      refine aG ?_
      refine bJ rfl (fun c8 => ?_) (fun c8 => ?_)
      ·have h := aS c8 h
       refine bI ?_
       refine aG ?_
       refine bQ ?_
       refine aG ?_
       refine aE ?_
       refine tr1 rfl (aD (v := .d (.lit (.int .i64 t31_0_6))) (aA rfl) rfl rfl) ?_
       obtain ⟨x9, h10, h⟩ := bind_some h
       refine tr1 rfl (cE (aA rfl) rfl rfl eO.of (bP cC h10)) ?_
       refine tr1 rfl (cL (aA rfl) rfl bF) ?_
       refine tr1 rfl (aJ (v := .d (.lit (.int .i64 t31_0_6))) (aA rfl) rfl rfl) ?_
       refine tr1 rfl (aJ (v := .d (.lit (.int .i64 x9))) (aA rfl) rfl rfl) ?_
       refine aF ?_
       refine aG ?_
       obtain ⟨x12, h13, h⟩ := bind_some h
       obtain ⟨x14, h15, h⟩ := bind_some h
       obtain ⟨x16, h17, h⟩ := bind_some h
       refine mP mix 19 [0, 1, 2, 3, 4, 10, 11, 29, 30, 31] (fun X11 => [(36, .bp book_b book_o 0), (54, .d (.sl 5 (x16.map aC)))]) (fun X11 => [.box book_b book_o (cF b_0_6), .box bb_b bb_o [gH book_b book_o 0], .box pl_b pl_o [.lit (.int .i64 pl)], .box wk_b wk_o [.lit (.int .i64 wk)], .box ms_b ms_o [.lit (.bool b_0_6_4)], .box be_b be_o [.lit (.int .i64 b_0_6_5)], .box wo_b wo_o [.lit (.int .i64 b_0_6_6)]]) ?_ ?_
       ·refine ⟨0, fun X11 => [(36, 0, .bp book_b book_o 0), (37, 1, .bp book_b book_o 0), (38, 2, .bp book_b book_o 0), (39, 3, .bp book_b book_o 0), (40, 4, .bp book_b book_o 2), (41, 5, .d (.sl 5 (b_0_6.Ledger.Reports.map aC))), (42, 6, .d (.lit (.int .i64 ((book.Ledger.Reports.length : Int))))), (43, 7, .d (.lit (.int .i64 ((book.Ledger.Reports.length : Int))))), (44, 8, .fl false 5 (x12.map aC)), (45, 9, .d (.lit (.int .i64 ((book.Ledger.Reports.length : Int))))), (46, 10, .d (.lit (.int .i64 ((w64 (100 + (book.Ledger.Reports.length : Int))))))), (47, 11, .d (.lit (.int .i64 x9))), (48, 12, .d (.lit (.int .i64 week_1))), (49, 13, .d (.sl 1 (prizes_2.map cC))), (50, 14, .cp [.lit (.int .i64 x14)]), (51, 15, .d (.lit (.int .i64 x14))), (52, 16, .agg (aC (aB.mk (w64 (100 + (book.Ledger.Reports.length : Int))) x9 week_1 x14 false))), (53, 17, .d (.sl 5 ((([(aB.mk (w64 (100 + (book.Ledger.Reports.length : Int))) x9 week_1 x14 false)])).map aC))), (54, 18, .d (.sl 5 (x16.map aC)))], fun X11 => [([], .box book_b book_o (cF b_0_6)), ([], .box bb_b bb_o [gH book_b book_o 0]), ([], .box pl_b pl_o [.lit (.int .i64 pl)]), ([], .box wk_b wk_o [.lit (.int .i64 wk)]), ([], .box ms_b ms_o [.lit (.bool b_0_6_4)]), ([], .box be_b be_o [.lit (.int .i64 b_0_6_5)]), ([], .box wo_b wo_o [.lit (.int .i64 b_0_6_6)])], ?_, ?_⟩
        · exact ⟨by kernel_rfl, by kernel_rfl, by kernel_rfl, fun _ => by kernel_rfl, fun _ => by kernel_rfl, fun _ => by kernel_rfl, fun _ => rfl, [([], []), ([], [18]), ([1], [18]), ([2], [18]), ([3], [18]), ([4], [18]), ([], [18]), ([], [18]), ([5, 6, 7], [18]), ([], [18]), ([9], [18]), ([], [18]), ([], [18]), ([], [18]), ([13], [18]), ([14], [18]), ([10, 11, 12, 15], [18]), ([16], [18]), ([8, 17], [])], by kernel_rfl, ⟨fun X11 S hw hi hS => bL (X := X11) rfl (hw X11) rfl (aP rfl (aD (v := .bp book_b book_o 0) (aA rfl) (aH hS rfl) rfl)),
      fun X11 S hw hi hS => bL (X := X11) rfl (hw X11) rfl (aP rfl (aD (v := .bp book_b book_o 0) (aA rfl) (aH hS rfl) rfl)),
      fun X11 S hw hi hS => bL (X := X11) rfl (hw X11) rfl (aP rfl (iO (aA rfl) (aH hS rfl))),
      fun X11 S hw hi hS => bL (X := X11) rfl (hw X11) rfl (aP rfl (aQ (aA rfl) (aH hS rfl) gM)),
      fun X11 S hw hi hS => bL (X := X11) rfl (hw X11) rfl (aP rfl (aQ (aA rfl) (aH hS rfl) eF)),
      fun X11 S hw hi hS => bL (X := X11) rfl (hw X11) rfl (aP rfl (aT (aA rfl) (aH hS rfl) (i := 0) (og hS rfl rfl) rfl hB)),
      fun X11 S hw hi hS => bL (X := X11) rfl (hw X11) rfl (aP rfl (aD (v := .d (.lit (.int .i64 ((book.Ledger.Reports.length : Int))))) (aA rfl) (aH hS rfl) rfl)),
      fun X11 S hw hi hS => bL (X := X11) rfl (hw X11) rfl (aP rfl (aD (v := .d (.lit (.int .i64 ((book.Ledger.Reports.length : Int))))) (aA rfl) (aH hS rfl) rfl)),
      fun X11 S hw hi hS => bL (X := X11) rfl (hw X11) rfl (aP rfl (aDd (aA rfl) bY.of (aH hS rfl) (aH hS rfl) (aH hS rfl) (rZ aC h13))),
      fun X11 S hw hi hS => bL (X := X11) rfl (hw X11) rfl (aP rfl (aD (v := .d (.lit (.int .i64 ((book.Ledger.Reports.length : Int))))) (aA rfl) (aH hS rfl) rfl)),
      fun X11 S hw hi hS => bL (X := X11) rfl (hw X11) rfl (aP rfl (aZ (aA rfl) rfl (aH hS rfl) rfl)),
      fun X11 S hw hi hS => bL (X := X11) rfl (hw X11) rfl (aP rfl (aD (v := .d (.lit (.int .i64 x9))) (aA rfl) (aH hS rfl) rfl)),
      fun X11 S hw hi hS => bL (X := X11) rfl (hw X11) rfl (aP rfl (aD (v := .d (.lit (.int .i64 week_1))) (aA rfl) (aH hS rfl) rfl)),
      fun X11 S hw hi hS => bL (X := X11) rfl (hw X11) rfl (aP rfl (aD (v := .d (.sl 1 (prizes_2.map cC))) (aA rfl) (aH hS rfl) rfl)),
      fun X11 S hw hi hS => bL (X := X11) rfl (hw X11) rfl (aP rfl (cE (aA rfl) (aH hS rfl) rfl eO.of (bP cC h15))),
      fun X11 S hw hi hS => bL (X := X11) rfl (hw X11) rfl (aP rfl (cL (aA rfl) (aH hS rfl) bF)),
      fun X11 S hw hi hS => bL (X := X11) rfl (hw X11) rfl (aP rfl (mD (aA rfl) uD (zs := [.lit (.int .i64 0), .lit (.int .i64 0), .lit (.int .i64 0), .lit (.int .i64 0), .lit (.bool false)]) rfl rfl rfl (pa2 (aH hS rfl) (pa2 (aH hS rfl) (pa2 (aH hS rfl) (pa2 (aH hS rfl) pan)))) (es := [.lit (.int .i64 ((w64 (100 + (book.Ledger.Reports.length : Int))))), .lit (.int .i64 x9), .lit (.int .i64 week_1), .lit (.int .i64 x14), .lit (.bool false)]) rfl)),
      fun X11 S hw hi hS => bL (X := X11) rfl (hw X11) rfl (aP rfl (jP (aA rfl) bY rfl (pa2 (aH hS rfl) pan) (rows := ([(aB.mk (w64 (100 + (book.Ledger.Reports.length : Int))) x9 week_1 x14 false)]).map aC) rfl (dD (f := aC) fun _ => rfl) rfl (by decide))),
      fun X11 S hw hi hS => bL (X := X11) rfl (hw X11) rfl (aP rfl (uM (nn := false) (f := aC) (xs := x12) (ys := [(aB.mk (w64 (100 + (book.Ledger.Reports.length : Int))) x9 week_1 x14 false)]) (aA rfl) bY (aH hS rfl) (aH hS rfl) (fun _ => rfl) h17 rfl)), trivial⟩⟩
        · exact fun X11 => eE (aN rfl (aN rfl (aX ⟨rfl, rfl, rfl, rfl, rfl, rfl, rfl, rfl, rfl, rfl, trivial⟩)))
       ·intro X11
        refine tr1 rfl (iO (aA rfl) rfl) ?_
        refine tr1 rfl (aQ (aA rfl) rfl gM) ?_
        refine tr1 rfl (aQ (aA rfl) rfl eF) ?_
        refine tr1 rfl (cA (i := 0) rfl rfl rfl rfl rfl Try.sizeOf22 rfl (aA rfl) (Nat.le_of_ble_eq_true rfl) (ds' := (cF (bT.mk (aM.mk b_0_6.Ledger.Players b_0_6.Ledger.Counts x16 b_0_6.Ledger.Bans b_0_6.Ledger.Frozen)))) rfl) ?_
        refine aF ?_
        obtain ⟨x18, h19, h⟩ := bind_some h
        obtain ⟨x20, h21, h⟩ := bind_some h
        obtain ⟨x22, h23, h⟩ := bind_some h
        obtain ⟨r24, h25, h⟩ := bind_some h
        refine gO mix 14 [0, 1, 2, 3, 4, 10, 29, 30, 31] [(58, .bp book_b book_o 0), (59, .d (.lit (.int .i64 week_1))), (61, .d (.sl 1 (x18.map cC))), (70, .d (.sl 1 (r24.map cC))), (71, .fn 50 [.bp bb_b bb_o 0, .bp pl_b pl_o 0, .bp wk_b wk_o 0, .bp ms_b ms_o 0, .bp be_b be_o 0, .bp wo_b wo_o 0])] ?_ ?_
        ·refine ⟨[(58, 0, .bp book_b book_o 0), (59, 1, .d (.lit (.int .i64 week_1))), (60, 2, .d (.sl 1 (prizes_2.map cC))), (61, 3, .d (.sl 1 (x18.map cC))), (62, 4, .d (.sl 1 (free_3.map cC))), (63, 5, .d (.lit (.int .i64 t31_0_6))), (64, 6, .d (.sl 1 (x20.map cC))), (65, 7, .d (.sl 1 (free_3.map cC))), (66, 8, .d (.lit (.int .i64 t31_0_6))), (67, 9, .d (.lit (.int .i64 ((w64 (t31_0_6 + 1)))))), (68, 10, .d (.sl 1 (x22.map cC))), (69, 11, .d (.sl 1 ((([x20, x22])).map qP))), (70, 12, .d (.sl 1 (r24.map cC))), (71, 13, .fn 50 [.bp bb_b bb_o 0, .bp pl_b pl_o 0, .bp wk_b wk_o 0, .bp ms_b ms_o 0, .bp be_b be_o 0, .bp wo_b wo_o 0])], ?_, ?_⟩
         · exact ⟨by kernel_rfl, by kernel_rfl, by kernel_rfl, by kernel_rfl, by kernel_rfl, [([], []), ([], []), ([], []), ([2], []), ([], []), ([], []), ([4, 5], []), ([], []), ([], []), ([8], []), ([7, 9], []), ([6, 10], []), ([11], []), ([], [])], by kernel_rfl, ⟨fun S hS => aK rfl (aP rfl (aD (v := .bp book_b book_o 0) (aA rfl) (aH hS rfl) rfl)),
      fun S hS => aK rfl (aP rfl (aD (v := .d (.lit (.int .i64 week_1))) (aA rfl) (aH hS rfl) rfl)),
      fun S hS => aK rfl (aP rfl (aD (v := .d (.sl 1 (prizes_2.map cC))) (aA rfl) (aH hS rfl) rfl)),
      fun S hS => aK rfl (aP rfl (pA (aA rfl) eO.of (aH hS rfl) rfl aHw (rZ cC h19))),
      fun S hS => aK rfl (aP rfl (aD (v := .d (.sl 1 (free_3.map cC))) (aA rfl) (aH hS rfl) rfl)),
      fun S hS => aK rfl (aP rfl (aD (v := .d (.lit (.int .i64 t31_0_6))) (aA rfl) (aH hS rfl) rfl)),
      fun S hS => aK rfl (aP rfl (pA (aA rfl) eO.of (aH hS rfl) rfl (bo (aH hS rfl)) (rZ cC h21))),
      fun S hS => aK rfl (aP rfl (aD (v := .d (.sl 1 (free_3.map cC))) (aA rfl) (aH hS rfl) rfl)),
      fun S hS => aK rfl (aP rfl (aD (v := .d (.lit (.int .i64 t31_0_6))) (aA rfl) (aH hS rfl) rfl)),
      fun S hS => aK rfl (aP rfl (aZ (aA rfl) (aH hS rfl) rfl rfl)),
      fun S hS => aK rfl (aP rfl (pA (aA rfl) eO.of (aH hS rfl) (bo (aH hS rfl)) aHw (rZ cC h23))),
      fun S hS => aK rfl (aP rfl (jP (aA rfl) xK rfl (pa2 (aH hS rfl) (pa2 (aH hS rfl) pan)) (rows := ([x20, x22]).map qP) rfl (dD (f := qP) fun _ => rfl) rfl (by decide))),
      fun S hS => aK rfl (aP rfl (lO (aA rfl) (.func _ _ Try.call84) (ev2 (aH hS rfl) evn) rfl (wL _ h25))),
      fun S hS => aK rfl (aP rfl (aD (v := .fn 50 [.bp bb_b bb_o 0, .bp pl_b pl_o 0, .bp wk_b wk_o 0, .bp ms_b ms_o 0, .bp be_b be_o 0, .bp wo_b wo_o 0]) (aA rfl) (aH hS rfl) rfl)), trivial⟩⟩
         · exact eE (aN rfl (aN rfl (aN rfl (aN rfl (aN rfl (aX ⟨rfl, rfl, rfl, rfl, rfl, rfl, rfl, rfl, rfl, trivial⟩))))))
        ·obtain ⟨r26, h27, h⟩ := bind_some h
         refine bR rfl (dM (passed := [.box book_b book_o (cF (bT.mk (aM.mk b_0_6.Ledger.Players b_0_6.Ledger.Counts x16 b_0_6.Ledger.Bans b_0_6.Ledger.Frozen))), .box bb_b bb_o [gH book_b book_o 0], .box pl_b pl_o [.lit (.int .i64 pl)], .box wk_b wk_o [.lit (.int .i64 wk)], .box ms_b ms_o [.lit (.bool b_0_6_4)], .box be_b be_o [.lit (.int .i64 b_0_6_5)], .box wo_b wo_o [.lit (.int .i64 b_0_6_6)]]) (aA rfl) rfl (.func _ _ Try.call49) rfl rfl (ih (bT.mk (aM.mk b_0_6.Ledger.Players b_0_6.Ledger.Counts x16 b_0_6.Ledger.Bans b_0_6.Ledger.Frozen)) pl wk b_0_6_4 b_0_6_5 b_0_6_6 week_1 x18 r24 h27)) ?_
         rintro _ ⟨_, _, ⟨rfl, rfl⟩, rfl⟩
         refine eB ?_
         refine aE ?_
         refine tr1 rfl (aZ (aA rfl) rfl rfl rfl) ?_
         refine tr1 rfl (aD (v := .d (.lit (.int .i64 ((w64 (t31_0_6 + 1)))))) (aA rfl) rfl rfl) ?_
         refine aF ?_
         exact ⟨(w64 (t31_0_6 + 1), r26.1, r26.2.1, r26.2.2.1, r26.2.2.2), h, aW [0, 1, 2, 3, 4, 5, 6] rfl rfl (aN rfl (aX ⟨rfl, rfl, rfl, rfl, rfl, rfl, rfl, rfl, trivial⟩))⟩
      ·have h := aR c8 h
       refine cU ?_
       refine .inl ⟨rfl, ?_⟩
       simp only [rA] at h
       refine aE ?_
       refine tr1 rfl (aD (v := .bp book_b book_o 0) (aA rfl) rfl rfl) ?_
       refine tr1 rfl (aD (v := .bp book_b book_o 0) (aA rfl) rfl rfl) ?_
       refine tr1 rfl (iO (aA rfl) rfl) ?_
       refine tr1 rfl (aQ (aA rfl) rfl gM) ?_
       refine tr1 rfl (aQ (aA rfl) rfl eF) ?_
       refine tr1 rfl (aT (aA rfl) rfl (i := 0) rfl rfl hB) ?_
       refine tr1 rfl (aD (v := .d (.lit (.int .i64 ((book.Ledger.Reports.length : Int))))) (aA rfl) rfl rfl) ?_
       obtain ⟨x28, h29, h⟩ := bind_some h
       refine tr1 rfl (pA (aA rfl) bY.of rfl rfl rfl (rZ aC h29)) ?_
       refine tr1 rfl (iO (aA rfl) rfl) ?_
       refine tr1 rfl (aQ (aA rfl) rfl gM) ?_
       refine tr1 rfl (aQ (aA rfl) rfl eF) ?_
       refine tr1 rfl (cA (i := 0) rfl rfl rfl rfl rfl Try.sizeOf22 rfl (aA rfl) (Nat.le_of_ble_eq_true rfl) (ds' := (cF (bT.mk (aM.mk b_0_6.Ledger.Players b_0_6.Ledger.Counts x28 b_0_6.Ledger.Bans b_0_6.Ledger.Frozen)))) rfl) ?_
       refine aF ?_
       have h := Option.some.inj h
       subst h
       exact ⟨_, [.box book_b book_o (cF (bT.mk (aM.mk b_0_6.Ledger.Players b_0_6.Ledger.Counts x28 b_0_6.Ledger.Bans b_0_6.Ledger.Frozen))), .box bb_b bb_o [gH book_b book_o 0], .box pl_b pl_o [.lit (.int .i64 pl)], .box wk_b wk_o [.lit (.int .i64 wk)], .box ms_b ms_o [.lit (.bool b_0_6_4)], .box be_b be_o [.lit (.int .i64 b_0_6_5)], .box wo_b wo_o [.lit (.int .i64 b_0_6_6)]], [], _, .none, .refl _, .same _, rfl, rfl⟩
theorem wI (book : bT) (pl : Int) (wk : Int) (ms : Bool) (be : Int) (wo : Int) (week_1 : Int) (prizes_2 : List Int) (free_3 : List Int) {r : bT × Bool × Int × Int} {book_b book_o : Nat} {bb_b bb_o : Nat} {pl_b pl_o : Nat} {wk_b wk_o : Nat} {ms_b ms_o : Nat} {be_b be_o : Nat} {wo_b wo_o : Nat} (h : tA book pl wk ms be wo week_1 prizes_2 free_3 = some r) : fM Try.prog 49 [.bp book_b book_o 0, .d (.lit (.int .i64 week_1)), .d (.sl 1 (prizes_2.map cC)), .d (.sl 1 (free_3.map cC)), .fn 50 [.bp bb_b bb_o 0, .bp pl_b pl_o 0, .bp wk_b wk_o 0, .bp ms_b ms_o 0, .bp be_b be_o 0, .bp wo_b wo_o 0]] [.box book_b book_o (cF book), .box bb_b bb_o [gH book_b book_o 0], .box pl_b pl_o [.lit (.int .i64 pl)], .box wk_b wk_o [.lit (.int .i64 wk)], .box ms_b ms_o [.lit (.bool ms)], .box be_b be_o [.lit (.int .i64 be)], .box wo_b wo_o [.lit (.int .i64 wo)]] (fun r' o' => r' = .tup [] ∧ o' = [.box book_b book_o (cF r.1), .box bb_b bb_o [gH book_b book_o 0], .box pl_b pl_o [.lit (.int .i64 pl)], .box wk_b wk_o [.lit (.int .i64 wk)], .box ms_b ms_o [.lit (.bool r.2.1)], .box be_b be_o [.lit (.int .i64 r.2.2.1)], .box wo_b wo_o [.lit (.int .i64 r.2.2.2)]]) := vU BIG _ _ _ _ _ _ _ _ _ h

theorem aCg (l_0 : aM) (player_1 : Int) (week_2 : Int) (prizes_3 : List Int) {r : Int × Int × Int} (h : vT l_0 player_1 week_2 prizes_3 = some r) : Fn Try.prog 17 [.agg (aV l_0), .d (.lit (.int .i64 player_1)), .d (.lit (.int .i64 week_2)), .d (.sl 1 (prizes_3.map cC))] (.tup [.d (.lit (.int .i64 r.1)), .d (.lit (.int .i64 r.2.1)), .d (.lit (.int .i64 r.2.2))]) := by
 unfold vT at h
 refine sS Try.func17 rfl (rs := [.cell 8 3, .cell 9 3, .tmp 10]) Try.results17 Try.ntmps17 (Nat.le_of_ble_eq_true rfl) ?_
 refine aG ?_
 refine aE ?_
 refine bR rfl (fJ (v := .agg (aV l_0)) (aA rfl) rfl rfl rfl) ?_
 rintro _ ⟨b1, rfl⟩
 refine bR rfl (fJ (v := .d (.lit (.int .i64 player_1))) (aA rfl) rfl rfl rfl) ?_
 rintro _ ⟨b2, rfl⟩
 refine bR rfl (fJ (v := .d (.lit (.int .i64 week_2))) (aA rfl) rfl rfl rfl) ?_
 rintro _ ⟨b3, rfl⟩
 refine bR rfl (fY (zs := [.lit (.int .i64 0)]) (aA rfl) Try.zeroValue3 rfl rfl) ?_
 rintro _ ⟨b4, rfl⟩
 refine bR rfl (fY (zs := [.lit (.int .i64 0)]) (aA rfl) Try.zeroValue3 rfl rfl) ?_
 rintro _ ⟨b5, rfl⟩
 refine tr1 rfl (aJ (v := .d (.lit (.int .i64 0))) (aA rfl) rfl rfl) ?_
 refine aF ?_
 refine aG ?_
 refine aE ?_
 refine tr1 rfl (dE (aA rfl) rfl (i := 0) rfl gJ (es := (aV l_0)) rfl rfl) ?_
 refine tr1 rfl (aT (aA rfl) rfl (i := 1) rfl rfl bF) ?_
 refine tr1 rfl (aT (aA rfl) rfl (i := 2) rfl rfl bF) ?_
 obtain ⟨r6, h7, h⟩ := bind_some h
 refine bR rfl (dM (passed := []) (aA rfl) rfl (.func _ _ Try.call44) rfl rfl (qY _ _ _ h7)) ?_
 rintro _ ⟨_, _, ⟨b9, w10, rfl, rfl⟩, rfl⟩
 obtain ⟨_ | y8, e11⟩ := r6
 ·have h := vE h
  refine fK (aW [0, 1, 2, 3, 4] rfl rfl (le_refl _)) ?_
  refine tr1 rfl (aD (v := .tup [.d (.lit (.pointer none)), .d (.lit (.int .i64 e11))]) (aA rfl) rfl rfl) ?_
  refine tr1 rfl (cV (aA rfl) rfl rfl) ?_
  refine tr1 rfl (cV (aA rfl) rfl rfl) ?_
  refine bR rfl (fY (zs := [.lit (.pointer none)]) (aA rfl) Try.zeroValue70 rfl rfl) ?_
  rintro _ ⟨b12, rfl⟩
  refine tr1 rfl (cA (i := 5) rfl rfl rfl rfl rfl Try.sizeOf70 rfl (aA rfl) (Nat.le_of_ble_eq_true rfl) (ds' := [.lit (.pointer none)]) rfl) ?_
  refine tr1 rfl (aJ (v := .d (.lit (.int .i64 e11))) (aA rfl) rfl rfl) ?_
  refine aF ?_
  refine aG ?_
  refine aG ?_
  refine aE ?_
  refine tr1 rfl (aD (v := .d (.lit (.int .i64 e11))) (aA rfl) rfl rfl) ?_
  refine tr1 rfl (bC (aA rfl) rfl rfl rfl) ?_
  refine aF ?_
  refine bJ rfl (fun c13 => ?_) (fun c13 => ?_)
  ·have h := aS c13 h
   refine aG ?_
   refine aE ?_
   refine tr1 rfl (aD (v := .d (.lit (.int .i64 e11))) (aA rfl) rfl rfl) ?_
   refine tr1 rfl (cA (i := 3) rfl rfl rfl rfl rfl Try.sizeOf3 rfl (aA rfl) (Nat.le_of_ble_eq_true rfl) (ds' := [.lit (.int .i64 0)]) rfl) ?_
   refine tr1 rfl (cA (i := 4) rfl rfl rfl rfl rfl Try.sizeOf3 rfl (aA rfl) (Nat.le_of_ble_eq_true rfl) (ds' := [.lit (.int .i64 0)]) rfl) ?_
   refine tr1 rfl (aJ (v := .d (.lit (.int .i64 e11))) (aA rfl) rfl rfl) ?_
   refine aF ?_
   have h := Option.some.inj h
   subst h
   exact bM ⟨rfl, _, [.box b1 0 (aV l_0), .box b2 0 [.lit (.int .i64 player_1)], .box b3 0 [.lit (.int .i64 week_2)], .box b4 0 [.lit (.int .i64 0)], .box b5 0 [.lit (.int .i64 0)], .box b12 0 [.lit (.pointer none)]], .three (.cell1 8 3 rfl (i := 3) rfl bF rfl) (.cell1 9 3 rfl (i := 4) rfl bF rfl) (.tmp 10 (v := .d (.lit (.int .i64 e11))) rfl), .refl _, .same _⟩
  ·have h := aR c13 h
   refine bI ?_
   refine aG ?_
   refine aG ?_
   refine aE ?_
   refine tr1 rfl (aD (v := .d (.sl 1 (prizes_3.map cC))) (aA rfl) rfl rfl) ?_
   refine tr1 rfl (dX (aA rfl) rfl eO.of) ?_
   refine tr1 rfl (bC (aA rfl) rfl rfl rfl) ?_
   refine tr1 rfl (aD (v := .d (.lit (.bool ((decide (4 < (prizes_3.length : Int))))))) (aA rfl) rfl rfl) ?_
   obtain ⟨b14, h15, h⟩ := bind_some h
   refine bW 3 [3, 5, 6, 8, 9, 11] 31 b14 ?_ ?_
   ·refine bG (decide (4 < (prizes_3.length : Int))) (fun c18 => ?_) (fun c18 => ?_)
    ·have h15 := aS c18 h15
     refine aO rfl rfl (aA rfl) rfl (aA rfl) rfl c18 ?_
     refine aO rfl rfl (aA rfl) rfl (aA rfl) rfl c18 ?_
     refine tr1 rfl (bO (v := .d (.lit (.bool true))) (aA rfl) rfl c18 rfl rfl) ?_
     have h15 := Option.some.inj h15
     subst h15
     refine aF (aY rfl ⟨rfl, rfl, rfl, rfl, rfl, rfl, trivial⟩ rfl)
    ·have h15 := aR c18 h15
     refine aL rfl rfl (aA rfl) rfl c18 (aD (v := .d (.sl 1 (prizes_3.map cC))) (aA rfl) rfl rfl) ?_
     obtain ⟨r20, h21, h15⟩ := bind_some h15
     refine aL rfl rfl (aA rfl) rfl c18 (bZ (aA rfl) (.func _ _ Try.call45) rfl rfl (BVs.refl _ _) (oH _ _ 46 [] Try.call46 (fun _ _ h15 => vH _ h15) h21) rfl) ?_
     refine tr1 rfl (bN (v := .d (.lit (.bool r20))) (aA rfl) rfl c18 rfl rfl) ?_
     have h15 := Option.some.inj h15
     subst h15
     refine aF (aY rfl ⟨rfl, rfl, rfl, rfl, rfl, rfl, trivial⟩ rfl)
   ·refine aF ?_
    refine bJ rfl (fun c16 => ?_) (fun c16 => ?_)
    ·have h := aS c16 h
     refine aG ?_
     refine aE ?_
     refine tr1 rfl (cA (i := 3) rfl rfl rfl rfl rfl Try.sizeOf3 rfl (aA rfl) (Nat.le_of_ble_eq_true rfl) (ds' := [.lit (.int .i64 0)]) rfl) ?_
     refine tr1 rfl (cA (i := 4) rfl rfl rfl rfl rfl Try.sizeOf3 rfl (aA rfl) (Nat.le_of_ble_eq_true rfl) (ds' := [.lit (.int .i64 0)]) rfl) ?_
     refine tr1 rfl (aJ (v := .d (.lit (.int .i64 42))) (aA rfl) rfl rfl) ?_
     refine aF ?_
     have h := Option.some.inj h
     subst h
     exact bM ⟨rfl, _, [.box b1 0 (aV l_0), .box b2 0 [.lit (.int .i64 player_1)], .box b3 0 [.lit (.int .i64 week_2)], .box b4 0 [.lit (.int .i64 0)], .box b5 0 [.lit (.int .i64 0)], .box b12 0 [.lit (.pointer none)]], .three (.cell1 8 3 rfl (i := 3) rfl bF rfl) (.cell1 9 3 rfl (i := 4) rfl bF rfl) (.tmp 10 (v := .d (.lit (.int .i64 42))) rfl), .refl _, .same _⟩
    ·have h := aR c16 h
     refine bI ?_
     refine aG ?_
     refine aE ?_
     refine tr1 rfl (iY 3 1 (.inl rfl) (aA rfl)) ?_
     refine aF ?_
     refine aG ?_
     refine aG ?_
     refine aE ?_
     refine tr1 rfl (aT (aA rfl) rfl (i := 5) rfl rfl vD) ?_
     cases h
 ·have h := vF h
  refine fK (aW [0, 1, 2, 3, 4, 5, 6] rfl rfl (le_refl _)) ?_
  refine tr1 rfl (aD (v := .tup [.bp b9 0 0, .d (.lit (.int .i64 e11))]) (aA rfl) rfl rfl) ?_
  refine tr1 rfl (cV (aA rfl) rfl rfl) ?_
  refine tr1 rfl (cV (aA rfl) rfl rfl) ?_
  refine bR rfl (fY (zs := [.lit (.pointer none)]) (aA rfl) Try.zeroValue70 rfl rfl) ?_
  rintro _ ⟨b22, rfl⟩
  refine fK (aHc 20 rfl) ?_
  refine tr1 rfl (cA (i := 7) rfl rfl rfl rfl rfl Try.sizeOf70 rfl (aA rfl) (Nat.le_of_ble_eq_true rfl) (ds' := [gH b9 0 0]) rfl) ?_
  refine tr1 rfl (aJ (v := .d (.lit (.int .i64 e11))) (aA rfl) rfl rfl) ?_
  refine aF ?_
  refine aG ?_
  refine aG ?_
  refine aE ?_
  refine tr1 rfl (aD (v := .d (.lit (.int .i64 e11))) (aA rfl) rfl rfl) ?_
  refine tr1 rfl (bC (aA rfl) rfl rfl rfl) ?_
  refine aF ?_
  refine bJ rfl (fun c23 => ?_) (fun c23 => ?_)
  ·have h := aS c23 h
   refine aG ?_
   refine aE ?_
   refine tr1 rfl (aD (v := .d (.lit (.int .i64 e11))) (aA rfl) rfl rfl) ?_
   refine tr1 rfl (cA (i := 5) rfl rfl rfl rfl rfl Try.sizeOf3 rfl (aA rfl) (Nat.le_of_ble_eq_true rfl) (ds' := [.lit (.int .i64 0)]) rfl) ?_
   refine tr1 rfl (cA (i := 6) rfl rfl rfl rfl rfl Try.sizeOf3 rfl (aA rfl) (Nat.le_of_ble_eq_true rfl) (ds' := [.lit (.int .i64 0)]) rfl) ?_
   refine tr1 rfl (aJ (v := .d (.lit (.int .i64 e11))) (aA rfl) rfl rfl) ?_
   refine aF ?_
   have h := Option.some.inj h
   subst h
   exact bM ⟨rfl, _, [.box b9 0 [.lit (.int .i64 y8.Ledger.Players), .lit (.int .i64 y8.Ledger.Counts), .lit w10, .sl 3 (y8.Ledger.Bans.map aI), .sl 3 (y8.Ledger.Frozen.map aI)], .arr w10 42 5 (y8.Ledger.Reports.map aC), .box b1 0 (aV l_0), .box b2 0 [.lit (.int .i64 player_1)], .box b3 0 [.lit (.int .i64 week_2)], .box b4 0 [.lit (.int .i64 0)], .box b5 0 [.lit (.int .i64 0)], .box b22 0 [gH b9 0 0]], .three (.cell1 8 3 rfl (i := 5) rfl bF rfl) (.cell1 9 3 rfl (i := 6) rfl bF rfl) (.tmp 10 (v := .d (.lit (.int .i64 e11))) rfl), .refl _, .same _⟩
  ·have h := aR c23 h
   refine bI ?_
   refine aG ?_
   refine aG ?_
   refine aE ?_
   refine tr1 rfl (aD (v := .d (.sl 1 (prizes_3.map cC))) (aA rfl) rfl rfl) ?_
   refine tr1 rfl (dX (aA rfl) rfl eO.of) ?_
   refine tr1 rfl (bC (aA rfl) rfl rfl rfl) ?_
   refine tr1 rfl (aD (v := .d (.lit (.bool ((decide (4 < (prizes_3.length : Int))))))) (aA rfl) rfl rfl) ?_
   obtain ⟨b24, h25, h⟩ := bind_some h
   refine bW 3 [3, 5, 6, 8, 9, 11] 31 b24 ?_ ?_
   ·refine bG (decide (4 < (prizes_3.length : Int))) (fun c43 => ?_) (fun c43 => ?_)
    ·have h25 := aS c43 h25
     refine aO rfl rfl (aA rfl) rfl (aA rfl) rfl c43 ?_
     refine aO rfl rfl (aA rfl) rfl (aA rfl) rfl c43 ?_
     refine tr1 rfl (bO (v := .d (.lit (.bool true))) (aA rfl) rfl c43 rfl rfl) ?_
     have h25 := Option.some.inj h25
     subst h25
     refine aF (aY rfl ⟨rfl, rfl, rfl, rfl, rfl, rfl, trivial⟩ rfl)
    ·have h25 := aR c43 h25
     refine aL rfl rfl (aA rfl) rfl c43 (aD (v := .d (.sl 1 (prizes_3.map cC))) (aA rfl) rfl rfl) ?_
     obtain ⟨r45, h46, h25⟩ := bind_some h25
     refine aL rfl rfl (aA rfl) rfl c43 (bZ (aA rfl) (.func _ _ Try.call45) rfl rfl (BVs.refl _ _) (oH _ _ 46 [] Try.call46 (fun _ _ h25 => vH _ h25) h46) rfl) ?_
     refine tr1 rfl (bN (v := .d (.lit (.bool r45))) (aA rfl) rfl c43 rfl rfl) ?_
     have h25 := Option.some.inj h25
     subst h25
     refine aF (aY rfl ⟨rfl, rfl, rfl, rfl, rfl, rfl, trivial⟩ rfl)
   ·refine aF ?_
    refine bJ rfl (fun c26 => ?_) (fun c26 => ?_)
    ·have h := aS c26 h
     refine aG ?_
     refine aE ?_
     refine tr1 rfl (cA (i := 5) rfl rfl rfl rfl rfl Try.sizeOf3 rfl (aA rfl) (Nat.le_of_ble_eq_true rfl) (ds' := [.lit (.int .i64 0)]) rfl) ?_
     refine tr1 rfl (cA (i := 6) rfl rfl rfl rfl rfl Try.sizeOf3 rfl (aA rfl) (Nat.le_of_ble_eq_true rfl) (ds' := [.lit (.int .i64 0)]) rfl) ?_
     refine tr1 rfl (aJ (v := .d (.lit (.int .i64 42))) (aA rfl) rfl rfl) ?_
     refine aF ?_
     have h := Option.some.inj h
     subst h
     exact bM ⟨rfl, _, [.box b9 0 [.lit (.int .i64 y8.Ledger.Players), .lit (.int .i64 y8.Ledger.Counts), .lit w10, .sl 3 (y8.Ledger.Bans.map aI), .sl 3 (y8.Ledger.Frozen.map aI)], .arr w10 42 5 (y8.Ledger.Reports.map aC), .box b1 0 (aV l_0), .box b2 0 [.lit (.int .i64 player_1)], .box b3 0 [.lit (.int .i64 week_2)], .box b4 0 [.lit (.int .i64 0)], .box b5 0 [.lit (.int .i64 0)], .box b22 0 [gH b9 0 0]], .three (.cell1 8 3 rfl (i := 5) rfl bF rfl) (.cell1 9 3 rfl (i := 6) rfl bF rfl) (.tmp 10 (v := .d (.lit (.int .i64 42))) rfl), .refl _, .same _⟩
    ·have h := aR c26 h
     refine bI ?_
     refine aG ?_
     refine aE ?_
     refine tr1 rfl (iY 3 1 (.inl rfl) (aA rfl)) ?_
     refine aF ?_
     refine aG ?_
     refine aG ?_
     refine aE ?_
     refine tr1 rfl (sO (i := 7) (aA rfl) rfl rfl rfl vD) ?_
     refine tr1 rfl (iO (aA rfl) rfl) ?_
     refine tr1 rfl (aQ (aA rfl) rfl gM) ?_
     refine tr1 rfl (aQ (aA rfl) rfl jJ) ?_
     refine tr1 rfl (aT (aA rfl) rfl (i := 0) rfl rfl bF) ?_
     refine tr1 rfl (aD (v := .d (.lit (.int .i64 0))) (aA rfl) rfl rfl) ?_
     refine aF ?_
     refine bQ ?_
     refine cM [3, 5, 6, 8, 9, 11, 36] (fun (s28 : Int × (List Int) × Value) => [(12, .d (.lit s28.2.2)), (37, .d (.lit (.int .i64 s28.1)))]) (fun (s28 : Int × (List Int) × Value) => [.box b2 0 [.lit (.int .i64 player_1)], .box b3 0 [.lit (.int .i64 week_2)], .box b4 0 [.lit (.int .i64 0)], .box b5 0 [.lit (.int .i64 0)], .box b22 0 [gH b9 0 0], .arr s28.2.2 3 1 (s28.2.1.map cC), .arr w10 42 5 (y8.Ledger.Reports.map aC), .box b9 0 [.lit (.int .i64 y8.Ledger.Players), .lit (.int .i64 y8.Ledger.Counts), .lit w10, .sl 3 (y8.Ledger.Bans.map aI), .sl 3 (y8.Ledger.Frozen.map aI)]]) (fun (k : Nat) (s28 : Int × (List Int) × Value) => nN prizes_3 y8.Ledger.Players player_1 week_2 0 0 y8.Ledger.Reports y8.Ledger.Players y8.Ledger.Counts y8.Ledger.Bans y8.Ledger.Frozen k s28.1 s28.2.1) (fun _ => rfl) (0, ([] : List Int), (.slice none 0 0)) h (aW [3, 4, 5, 6, 7, 8, 1, 0] rfl rfl (aN rfl (aN rfl (aX ⟨rfl, rfl, rfl, rfl, rfl, rfl, rfl, trivial⟩)))) ?_
     rintro k30 ⟨t37_0_28, free_0_28, w29⟩ h
     simp only [nN] at h
     refine aG ?_
     refine aE ?_
     refine tr1 rfl (bC (aA rfl) rfl rfl rfl) ?_
     refine aF ?_
     refine aG ?_
     refine bJ rfl (fun c31 => ?_) (fun c31 => ?_)
     ·have h := aS c31 h
      refine bI ?_
      refine aG ?_
      refine bQ ?_
      refine aG ?_
      refine aE ?_
      refine tr1 rfl (aD (v := .d (.lit (.int .i64 t37_0_28))) (aA rfl) rfl rfl) ?_
      refine tr1 rfl (aJ (v := .d (.lit (.int .i64 t37_0_28))) (aA rfl) rfl rfl) ?_
      refine aF ?_
      refine aG ?_
      refine gO mix 7 [3, 5, 6, 8, 9, 11, 12, 13, 36, 37] [(44, .d (.sl 3 (y8.Ledger.Bans.map aI))), (45, .d (.lit (.int .i64 t37_0_28))), (46, .d (.lit (.int .i64 week_2)))] ?_ ?_
      ·refine ⟨[(40, 0, .bp b9 0 0), (41, 1, .bp b9 0 0), (42, 2, .bp b9 0 0), (43, 3, .bp b9 0 3), (44, 4, .d (.sl 3 (y8.Ledger.Bans.map aI))), (45, 5, .d (.lit (.int .i64 t37_0_28))), (46, 6, .d (.lit (.int .i64 week_2)))], ?_, ?_⟩
       · exact ⟨by kernel_rfl, by kernel_rfl, by kernel_rfl, by kernel_rfl, by kernel_rfl, [([], []), ([0], []), ([1], []), ([2], []), ([3], []), ([], []), ([], [])], by kernel_rfl, ⟨fun S hS => aK rfl (aP rfl (sO (i := 4) (aA rfl) (aH hS rfl) rfl rfl vD)),
      fun S hS => aK rfl (aP rfl (iO (aA rfl) (aH hS rfl))),
      fun S hS => aK rfl (aP rfl (aQ (aA rfl) (aH hS rfl) gM)),
      fun S hS => aK rfl (aP rfl (aQ (aA rfl) (aH hS rfl) nG)),
      fun S hS => aK rfl (aP rfl (aT (aA rfl) (aH hS rfl) (i := 7) rfl rfl jM)),
      fun S hS => aK rfl (aP rfl (aD (v := .d (.lit (.int .i64 t37_0_28))) (aA rfl) (aH hS rfl) rfl)),
      fun S hS => aK rfl (aP rfl (aT (aA rfl) (aH hS rfl) (i := 1) rfl rfl bF)), trivial⟩⟩
       · exact eE (aN rfl (aN rfl (aN rfl (aX ⟨rfl, rfl, rfl, rfl, rfl, rfl, rfl, rfl, rfl, rfl, trivial⟩))))
      ·obtain ⟨r32, h33, h⟩ := bind_some h
       refine tr1 rfl (bZ (aA rfl) (.func _ _ Try.call48) rfl rfl (BVs.refl _ _) (uR _ _ _ h33) rfl) ?_
       refine tr1 rfl (eZ (aA rfl) rfl) ?_
       refine aF ?_
       refine bJ rfl (fun c34 => ?_) (fun c34 => ?_)
       ·have h := aS c34 h
        refine aE ?_
        refine tr1 rfl (aD (v := .d (.lit w29)) (aA rfl) rfl rfl) ?_
        refine tr1 rfl (aD (v := .d (.lit (.int .i64 t37_0_28))) (aA rfl) rfl rfl) ?_
        refine tr1 rfl (jP (aA rfl) eO rfl rfl (rows := ([t37_0_28]).map cC) rfl (dD (f := cC) fun _ => rfl) rfl (by decide)) ?_
        obtain ⟨x35, h36, h⟩ := bind_some h
        refine bR rfl (oO (i := 5) (aA rfl) eO rfl rfl rfl (fun _ => rfl) h36 rfl) ?_
        rintro _ ⟨v37, rfl⟩
        refine tr1 rfl (aJ (v := .d (.lit v37)) (aA rfl) rfl rfl) ?_
        refine eB ?_
        refine aE ?_
        refine tr1 rfl (aZ (aA rfl) rfl rfl rfl) ?_
        refine tr1 rfl (aD (v := .d (.lit (.int .i64 ((w64 (t37_0_28 + 1)))))) (aA rfl) rfl rfl) ?_
        refine aF ?_
        exact ⟨(w64 (t37_0_28 + 1), x35, v37), h, aW [0, 1, 2, 3, 4, 5, 6, 7] rfl rfl (aN rfl (aN rfl (aX ⟨rfl, rfl, rfl, rfl, rfl, rfl, rfl, trivial⟩)))⟩
       ·have h := aR c34 h
        refine eJ ?_
        refine aE ?_
        refine tr1 rfl (aZ (aA rfl) rfl rfl rfl) ?_
        refine tr1 rfl (aD (v := .d (.lit (.int .i64 ((w64 (t37_0_28 + 1)))))) (aA rfl) rfl rfl) ?_
        refine aF ?_
        exact ⟨(w64 (t37_0_28 + 1), free_0_28, w29), h, aW [0, 1, 2, 3, 4, 5, 6, 7] rfl rfl (aN rfl (aN rfl (aX ⟨rfl, rfl, rfl, rfl, rfl, rfl, rfl, trivial⟩)))⟩
     ·have h := aR c31 h
      refine cU ?_
      refine .inl ⟨rfl, ?_⟩
      simp only [wE] at h
      refine aG ?_
      refine aE ?_
      refine tr1 rfl (sO (i := 4) (aA rfl) rfl rfl rfl vD) ?_
      refine tr1 rfl (iO (aA rfl) rfl) ?_
      refine tr1 rfl (aQ (aA rfl) rfl gM) ?_
      refine tr1 rfl (aQ (aA rfl) rfl jJ) ?_
      refine tr1 rfl (aT (aA rfl) rfl (i := 7) rfl rfl bF) ?_
      refine tr1 rfl (aZ (aA rfl) rfl rfl rfl) ?_
      refine tr1 rfl (cA (i := 2) rfl rfl rfl rfl rfl Try.sizeOf3 rfl (aA rfl) (Nat.le_of_ble_eq_true rfl) (ds' := [.lit (.int .i64 ((w64 (y8.Ledger.Players + 1))))]) rfl) ?_
      refine tr1 rfl (cA (i := 3) rfl rfl rfl rfl rfl Try.sizeOf3 rfl (aA rfl) (Nat.le_of_ble_eq_true rfl) (ds' := [.lit (.int .i64 0)]) rfl) ?_
      refine aF ?_
      refine aG ?_
      refine aE ?_
      refine bR rfl (fY (zs := [.lit (.bool false)]) (aA rfl) Try.zeroValue4 rfl rfl) ?_
      rintro _ ⟨b38, rfl⟩
      refine tr1 rfl (cA (i := 8) rfl rfl rfl rfl rfl Try.sizeOf4 rfl (aA rfl) (Nat.le_of_ble_eq_true rfl) (ds' := [.lit (.bool false)]) rfl) ?_
      refine aF ?_
      refine aG ?_
      refine aE ?_
      refine tr1 rfl (sO (i := 4) (aA rfl) rfl rfl rfl vD) ?_
      refine tr1 rfl (aT (aA rfl) rfl (i := 1) rfl rfl bF) ?_
      refine tr1 rfl (aD (v := .d (.sl 1 (prizes_3.map cC))) (aA rfl) rfl rfl) ?_
      refine tr1 rfl (aD (v := .d (.lit w29)) (aA rfl) rfl rfl) ?_
      refine tr1 rfl (vI (aA rfl) rfl rfl) ?_
      refine fK (aW [0, 1, 2, 3, 4, 6, 7, 8, 5] rfl rfl (le_refl _)) ?_
      refine fK (zY [.box b2 0 [.lit (.int .i64 player_1)], .box b3 0 [.lit (.int .i64 week_2)], .box b4 0 [.lit (.int .i64 ((w64 (y8.Ledger.Players + 1))))], .box b5 0 [.lit (.int .i64 0)], .box b22 0 [gH b9 0 0], .arr w10 42 5 (y8.Ledger.Reports.map aC), .box b9 0 [.lit (.int .i64 y8.Ledger.Players), .lit (.int .i64 y8.Ledger.Counts), .lit w10, .sl 3 (y8.Ledger.Bans.map aI), .sl 3 (y8.Ledger.Frozen.map aI)], .box b38 0 [.lit (.bool false)]] [.arr w29 3 1 (free_0_28.map cC)] rfl (fW (k := 63) (v := .d (.sl 1 (free_0_28.map cC))) (.d (iB 0 rfl (dD (f := cC) fun _ => rfl))) (fW (k := 12) (v := .d (.sl 1 (free_0_28.map cC))) (.d (iB 0 rfl (dD (f := cC) fun _ => rfl))) (rP _ _)))) ?_
      refine fK (aW [6, 0, 1, 2, 3, 4, 7, 5] rfl rfl (le_refl _)) ?_
      refine fK (aDy (ds' := (cF y8)) [.box b2 0 [.lit (.int .i64 player_1)], .box b3 0 [.lit (.int .i64 week_2)], .box b4 0 [.lit (.int .i64 ((w64 (y8.Ledger.Players + 1))))], .box b5 0 [.lit (.int .i64 0)], .box b22 0 [gH b9 0 0], .box b38 0 [.lit (.bool false)]] [.arr w10 42 5 (y8.Ledger.Reports.map aC)] rfl (dvc (.same _) (dvc (.same _) (dvc (iB 0 rfl (dD (f := aC) fun _ => rfl)) (dvc (.same _) (dvc (.same _) dvn))))) (rP _ _)) ?_
      obtain ⟨r39, h40, h⟩ := bind_some h
      refine fK (aW [0, 5, 1, 2, 6, 3, 4] rfl rfl (le_refl _)) ?_
      refine bR rfl (dM (passed := [.box b9 0 (cF y8), .box b22 0 [gH b9 0 0], .box b2 0 [.lit (.int .i64 player_1)], .box b3 0 [.lit (.int .i64 week_2)], .box b38 0 [.lit (.bool false)], .box b4 0 [.lit (.int .i64 ((w64 (y8.Ledger.Players + 1))))], .box b5 0 [.lit (.int .i64 0)]]) (aA rfl) rfl (.func _ _ Try.call49) rfl rfl (wI y8 player_1 week_2 false (w64 (y8.Ledger.Players + 1)) 0 week_2 prizes_3 free_0_28 h40)) ?_
      rintro _ ⟨_, _, ⟨rfl, rfl⟩, rfl⟩
      refine aF ?_
      refine aG ?_
      refine aG ?_
      refine aE ?_
      refine tr1 rfl (aT (aA rfl) rfl (i := 4) rfl rfl tE) ?_
      refine aF ?_
      refine bJ rfl (fun c41 => ?_) (fun c41 => ?_)
      ·have h := aS c41 h
       refine aG ?_
       refine aE ?_
       refine tr1 rfl (cA (i := 5) rfl rfl rfl rfl rfl Try.sizeOf3 rfl (aA rfl) (Nat.le_of_ble_eq_true rfl) (ds' := [.lit (.int .i64 0)]) rfl) ?_
       refine tr1 rfl (cA (i := 6) rfl rfl rfl rfl rfl Try.sizeOf3 rfl (aA rfl) (Nat.le_of_ble_eq_true rfl) (ds' := [.lit (.int .i64 0)]) rfl) ?_
       refine tr1 rfl (aJ (v := .d (.lit (.int .i64 3))) (aA rfl) rfl rfl) ?_
       refine aF ?_
       have h := Option.some.inj h
       subst h
       exact bM ⟨rfl, _, [.box b9 0 (cF r39.1), .box b22 0 [gH b9 0 0], .box b2 0 [.lit (.int .i64 player_1)], .box b3 0 [.lit (.int .i64 week_2)], .box b38 0 [.lit (.bool r39.2.1)], .box b4 0 [.lit (.int .i64 0)], .box b5 0 [.lit (.int .i64 0)]], .three (.cell1 8 3 rfl (i := 5) rfl bF rfl) (.cell1 9 3 rfl (i := 6) rfl bF rfl) (.tmp 10 (v := .d (.lit (.int .i64 3))) rfl), .refl _, .same _⟩
      ·have h := aR c41 h
       refine bI ?_
       refine aG ?_
       refine mP mix 3 [8, 9] (fun X42 => [(68, .d (.lit (.int .i64 r39.2.2.2)))]) (fun X42 => [.box b9 0 (cF r39.1), .box b22 0 [gH b9 0 0], .box b2 0 [.lit (.int .i64 player_1)], .box b3 0 [.lit (.int .i64 week_2)], .box b38 0 [.lit (.bool r39.2.1)], .box b4 0 [.lit (.int .i64 r39.2.2.1)], .box b5 0 [.lit (.int .i64 r39.2.2.2)]]) ?_ ?_
       ·refine ⟨0, fun X42 => [(67, 0, .d (.lit (.int .i64 r39.2.2.1))), (68, 1, .d (.lit (.int .i64 r39.2.2.2)))], fun X42 => [([], .box b9 0 (cF r39.1)), ([], .box b22 0 [gH b9 0 0]), ([], .box b2 0 [.lit (.int .i64 player_1)]), ([], .box b3 0 [.lit (.int .i64 week_2)]), ([], .box b38 0 [.lit (.bool r39.2.1)]), ([(2, .box b4 0 [.lit (.int .i64 r39.2.2.1)])], .box b4 0 [.lit (.int .i64 r39.2.2.1)]), ([], .box b5 0 [.lit (.int .i64 r39.2.2.2)])], ?_, ?_⟩
        · exact ⟨by kernel_rfl, by kernel_rfl, by kernel_rfl, fun _ => by kernel_rfl, fun _ => by kernel_rfl, fun _ => by kernel_rfl, fun _ => rfl, [([], [2]), ([], []), ([0], [])], by kernel_rfl, ⟨fun X42 S hw hi hS => bL (X := X42) rfl (hw X42) rfl (aP rfl (aT (aA rfl) (aH hS rfl) (i := 5) (og hS rfl rfl) rfl bF)),
      fun X42 S hw hi hS => bL (X := X42) rfl (hw X42) rfl (aP rfl (aT (aA rfl) (aH hS rfl) (i := 6) (og hS rfl rfl) rfl bF)),
      fun X42 S hw hi hS => qQ (X := X42) hS rfl rfl rfl (p := 5) rfl rfl (aP rfl (cA (i := 5) (aH hS rfl) (og hS rfl rfl) (aH hS rfl) rfl rfl Try.sizeOf3 rfl (aA rfl) (Nat.le_of_ble_eq_true rfl) (ds' := [.lit (.int .i64 r39.2.2.1)]) rfl)), trivial⟩⟩
        · exact fun X42 => eE (aN rfl (aX ⟨rfl, rfl, trivial⟩))
       ·intro X42
        refine tr1 rfl (cA (i := 6) rfl rfl rfl rfl rfl Try.sizeOf3 rfl (aA rfl) (Nat.le_of_ble_eq_true rfl) (ds' := [.lit (.int .i64 r39.2.2.2)]) rfl) ?_
        refine tr1 rfl (aJ (v := .d (.lit (.int .i64 0))) (aA rfl) rfl rfl) ?_
        refine aF ?_
        have h := Option.some.inj h
        subst h
        exact bM ⟨rfl, _, [.box b9 0 (cF r39.1), .box b22 0 [gH b9 0 0], .box b2 0 [.lit (.int .i64 player_1)], .box b3 0 [.lit (.int .i64 week_2)], .box b38 0 [.lit (.bool r39.2.1)], .box b4 0 [.lit (.int .i64 r39.2.2.1)], .box b5 0 [.lit (.int .i64 r39.2.2.2)]], .three (.cell1 8 3 rfl (i := 5) rfl bF rfl) (.cell1 9 3 rfl (i := 6) rfl bF rfl) (.tmp 10 (v := .d (.lit (.int .i64 0))) rfl), .refl _, .same _⟩

theorem sK (b_0 : bT) (player_1 : Int) (week_2 : Int) {r : Int} (h : nL b_0 player_1 week_2 = some r) : Fn Try.prog 55 [.cp (cF b_0), .d (.lit (.int .i64 player_1)), .d (.lit (.int .i64 week_2))] (.d (.lit (.int .i64 r))) := by
 unfold nL at h
 refine Fn.of_tr Try.func55 rfl (rs := [.tmp 6]) Try.results55 Try.ntmps55 (Nat.le_of_ble_eq_true rfl) ?_
 refine aG ?_
 refine aE ?_
 refine tr1 rfl (aJ (v := .d (.lit (.int .i64 0))) (aA rfl) rfl rfl) ?_
 refine aF ?_
 refine aG ?_
 refine aE ?_
 refine tr1 rfl (aD (v := .cp [.lit (.int .i64 b_0.Ledger.Players), .lit (.int .i64 b_0.Ledger.Counts), .sl 5 (b_0.Ledger.Reports.map aC), .sl 3 (b_0.Ledger.Bans.map aI), .sl 3 (b_0.Ledger.Frozen.map aI)]) (aA rfl) rfl rfl) ?_
 refine tr1 rfl (aD (v := .cp [.lit (.int .i64 b_0.Ledger.Players), .lit (.int .i64 b_0.Ledger.Counts), .sl 5 (b_0.Ledger.Reports.map aC), .sl 3 (b_0.Ledger.Bans.map aI), .sl 3 (b_0.Ledger.Frozen.map aI)]) (aA rfl) rfl rfl) ?_
 refine tr1 rfl (aD (v := .d (.lit (.int .i64 player_1))) (aA rfl) rfl rfl) ?_
 refine tr1 rfl (aD (v := .d (.lit (.int .i64 week_2))) (aA rfl) rfl rfl) ?_
 obtain ⟨r1, h2, h⟩ := bind_some h
 refine tr1 rfl (lO (aA rfl) (.func _ _ Try.call72) rfl rfl (pH _ _ _ h2)) ?_
 obtain ⟨r3, h4, h⟩ := bind_some h
 refine tr1 rfl (lO (aA rfl) (.func _ _ Try.call71) rfl rfl (pJ _ _ h4)) ?_
 obtain ⟨r5, h6, h⟩ := bind_some h
 refine tr1 rfl (bZ (aA rfl) (.func _ _ Try.call86) rfl rfl (BVs.refl _ _) (zO _ h6) rfl) ?_
 refine tr1 rfl (aJ (v := .d (.lit (.int .i64 r5))) (aA rfl) rfl rfl) ?_
 refine aF ?_
 have h := Option.some.inj h
 subst h
 exact bM ⟨rfl, _, .one _, rfl, rfl⟩

theorem nA (s_0 : List aB) (f_1 : aB → Option Bool) {r : Int} (f_1_f : Nat) (f_1_v : List AV) (f_1_e : ∀ args w, (callFunc f_1_f args).run Try.prog w = .ok (.enter f_1_f args) w) (f_1_h : ∀ (x0 : aB) r, f_1 x0 = some r → Fn Try.prog f_1_f ([.agg (aC x0)] ++ f_1_v) (.d (.lit (.bool r)))) (h : dI s_0 f_1 = some r) : Fn Try.prog 75 [.d (.sl 5 (s_0.map aC)), .fn f_1_f f_1_v] (.d (.lit (.int .i64 r))) := by
 unfold dI at h
 refine Fn.of_tr Try.func75 rfl (rs := [.tmp 4]) Try.results75 Try.ntmps75 (Nat.le_of_ble_eq_true rfl) ?_
 refine aG ?_
 refine aE ?_
 refine tr1 rfl (aJ (v := .d (.lit (.int .i64 0))) (aA rfl) rfl rfl) ?_
 refine aF ?_
 refine aG ?_
 refine aG ?_
 refine aE ?_
 refine tr1 rfl (aD (v := .d (.sl 5 (s_0.map aC))) (aA rfl) rfl rfl) ?_
 refine tr1 rfl (dX (aA rfl) rfl bY.of) ?_
 refine tr1 rfl (aD (v := .d (.lit (.int .i64 0))) (aA rfl) rfl rfl) ?_
 refine aF ?_
 refine bQ ?_
 refine cM [0, 1, 7] (fun (s1 : Int) => [(8, .d (.lit (.int .i64 s1)))]) (fun (s1 : Int) => []) (fun (k : Nat) (s1 : Int) => eG s_0 f_1 (s_0.length : Int) k s1) (fun _ => rfl) (0) h (aW [] rfl rfl (aN rfl (aX ⟨rfl, rfl, rfl, trivial⟩))) ?_
 rintro k2 t8_0_1 h
 simp only [eG] at h
 refine aG ?_
 refine aE ?_
 refine tr1 rfl (bC (aA rfl) rfl rfl rfl) ?_
 refine aF ?_
 refine aG ?_
 refine bJ rfl (fun c3 => ?_) (fun c3 => ?_)
 ·have h := aS c3 h
  refine bI ?_
  refine aG ?_
  refine bQ ?_
  refine aG ?_
  refine aE ?_
  refine tr1 rfl (aD (v := .d (.lit (.int .i64 t8_0_1))) (aA rfl) rfl rfl) ?_
  refine tr1 rfl (aJ (v := .d (.lit (.int .i64 t8_0_1))) (aA rfl) rfl rfl) ?_
  refine aF ?_
  refine aG ?_
  refine aE ?_
  refine tr1 rfl (aD (v := .fn f_1_f f_1_v) (aA rfl) rfl rfl) ?_
  refine tr1 rfl (aD (v := .d (.sl 5 (s_0.map aC))) (aA rfl) rfl rfl) ?_
  refine tr1 rfl (aD (v := .d (.lit (.int .i64 t8_0_1))) (aA rfl) rfl rfl) ?_
  obtain ⟨x4, h5, h⟩ := bind_some h
  refine tr1 rfl (cE (aA rfl) rfl rfl bY.of (bP aC h5)) ?_
  refine tr1 rfl (gN (aA rfl) rfl dY (es := (aC x4)) rfl rfl) ?_
  obtain ⟨r6, h7, h⟩ := bind_some h
  refine tr1 rfl (bZ (aA rfl) (.clo _ _ _ _ f_1_e rfl) (tP rfl) rfl (BVs.refl _ _) (f_1_h _ _  h7) rfl) ?_
  refine aF ?_
  refine bJ rfl (fun c8 => ?_) (fun c8 => ?_)
  ·have h := aS c8 h
   refine aG ?_
   refine aE ?_
   refine tr1 rfl (aD (v := .d (.lit (.int .i64 t8_0_1))) (aA rfl) rfl rfl) ?_
   refine tr1 rfl (aJ (v := .d (.lit (.int .i64 t8_0_1))) (aA rfl) rfl rfl) ?_
   refine aF ?_
   have h := Option.some.inj h
   subst h
   exact bM ⟨rfl, _, .one _, rfl, rfl⟩
  ·have h := aR c8 h
   refine eJ ?_
   refine aE ?_
   refine tr1 rfl (aZ (aA rfl) rfl rfl rfl) ?_
   refine tr1 rfl (aD (v := .d (.lit (.int .i64 ((w64 (t8_0_1 + 1)))))) (aA rfl) rfl rfl) ?_
   refine aF ?_
   exact ⟨(w64 (t8_0_1 + 1)), h, aW [] rfl rfl (aN rfl (aX ⟨rfl, rfl, rfl, trivial⟩))⟩
 ·have h := aR c3 h
  refine cU ?_
  refine .inl ⟨rfl, ?_⟩
  simp only [jQ] at h
  refine aG ?_
  refine aE ?_
  refine tr1 rfl (aJ (v := .d (.lit (.int .i64 (-1)))) (aA rfl) rfl rfl) ?_
  refine aF ?_
  have h := Option.some.inj h
  subst h
  exact bM ⟨rfl, _, .one _, rfl, rfl⟩

theorem rH (s_0 : List aB) (del_1 : aB → Option Bool) {r : (List aB)} {s_0_v : Value} (del_1_f : Nat) (del_1_v : List AV) (del_1_e : ∀ args w, (callFunc del_1_f args).run Try.prog w = .ok (.enter del_1_f args) w) (del_1_h : ∀ (x0 : aB) r, del_1 x0 = some r → Fn Try.prog del_1_f ([.agg (aC x0)] ++ del_1_v) (.d (.lit (.bool r)))) (h : kN s_0 del_1 = some r) : fM Try.prog 56 [.d (.lit s_0_v), .fn del_1_f del_1_v] [.arr s_0_v 42 5 (s_0.map aC)] (fun r' o' => ∃ w0 : Value, r' = .d (.lit w0) ∧ o' = [.arr w0 42 5 (r.map aC)]) := by
 unfold kN at h
 refine mF Try.func56 rfl (rs := [.tmp 4]) Try.results56 Try.ntmps56 (Nat.le_of_ble_eq_true rfl) ?_
 refine aG ?_
 refine aE ?_
 refine tr1 rfl (iY 42 5 (.inl rfl) (aA rfl)) ?_
 refine aF ?_
 refine aG ?_
 refine aE ?_
 refine tr1 rfl (aD (v := .d (.lit s_0_v)) (aA rfl) rfl rfl) ?_
 refine tr1 rfl (aD (v := .fn del_1_f del_1_v) (aA rfl) rfl rfl) ?_
 obtain ⟨r2, h3, h⟩ := bind_some h
 refine tr1 rfl (bZ (aA rfl) (.func _ _ Try.call75) rfl rfl (.cons (.d (iB 0 rfl (dD (f := aC) fun _ => rfl))) (.cons (.same _) .nil)) (nA _ _ del_1_f del_1_v del_1_e del_1_h h3) rfl) ?_
 refine tr1 rfl (aJ (v := .d (.lit (.int .i64 r2))) (aA rfl) rfl rfl) ?_
 refine aF ?_
 refine aG ?_
 refine aG ?_
 refine aE ?_
 refine tr1 rfl (aD (v := .d (.lit (.int .i64 r2))) (aA rfl) rfl rfl) ?_
 refine tr1 rfl (bC (aA rfl) rfl rfl rfl) ?_
 refine aF ?_
 refine bJ rfl (fun c4 => ?_) (fun c4 => ?_)
 ·have h := aS c4 h
  refine aG ?_
  refine aE ?_
  refine tr1 rfl (aD (v := .d (.lit s_0_v)) (aA rfl) rfl rfl) ?_
  refine tr1 rfl (aJ (v := .d (.lit s_0_v)) (aA rfl) rfl rfl) ?_
  refine aF ?_
  have h := Option.some.inj h
  subst h
  exact bM ⟨rfl, _, [.arr s_0_v 42 5 (s_0.map aC)], [.arr (.slice none 0 0) 42 5 (([] : List aB).map aC)], _, .one (.tmp 4 (v := .d (.lit s_0_v)) rfl), .refl _, .same _, s_0_v, rfl, rfl⟩
 ·have h := aR c4 h
  refine bI ?_
  refine aG ?_
  refine aG ?_
  refine aE ?_
  refine tr1 rfl (aD (v := .d (.lit (.int .i64 r2))) (aA rfl) rfl rfl) ?_
  refine tr1 rfl (aZ (aA rfl) rfl rfl rfl) ?_
  refine tr1 rfl (aJ (v := .d (.lit (.int .i64 ((w64 (r2 + 1)))))) (aA rfl) rfl rfl) ?_
  refine aF ?_
  refine bQ ?_
  refine cM [1] (fun (s5 : Int × Int × (List aB)) => [(0, .d (.lit s_0_v)), (5, .d (.lit (.int .i64 s5.1))), (6, .d (.lit (.int .i64 s5.2.1)))]) (fun (s5 : Int × Int × (List aB)) => [.arr s_0_v 42 5 (s5.2.2.map aC)]) (fun (k : Nat) (s5 : Int × Int × (List aB)) => fN del_1 k s5.1 s5.2.1 s5.2.2) (fun _ => rfl) (r2, w64 (r2 + 1), s_0) h (aW [0] rfl rfl (aN rfl (aN rfl (aN rfl (aX ⟨rfl, trivial⟩))))) ?_
  rintro k6 ⟨i_0_5, j_0_5, s_0_5⟩ h
  simp only [fN] at h
  refine aG ?_
  refine aG ?_
  refine aE ?_
  refine tr1 rfl (aD (v := .d (.lit (.int .i64 j_0_5))) (aA rfl) rfl rfl) ?_
  refine tr1 rfl (aD (v := .d (.lit s_0_v)) (aA rfl) rfl rfl) ?_
  refine tr1 rfl (lI (m := 0) (aA rfl) rfl rfl bY.of) ?_
  refine tr1 rfl (bC (aA rfl) rfl rfl rfl) ?_
  refine aF ?_
  refine bJ rfl (fun c7 => ?_) (fun c7 => ?_)
  ·have h := aS c7 h
   refine bI ?_
   refine aG ?_
   refine bQ ?_
   refine aG ?_
   refine aE ?_
   refine tr1 rfl (aD (v := .d (.lit s_0_v)) (aA rfl) rfl rfl) ?_
   refine tr1 rfl (aD (v := .d (.lit (.int .i64 j_0_5))) (aA rfl) rfl rfl) ?_
   obtain ⟨x8, h9, h⟩ := bind_some h
   refine tr1 rfl (cD (m := 0) (aA rfl) rfl rfl rfl bY.of (bP aC h9)) ?_
   refine tr1 rfl (dC (aA rfl) rfl (l := 0) rfl (dW aC h9) dY (es := (aC x8)) rfl rfl) ?_
   refine bR rfl (fY (zs := [.lit (.int .i64 0), .lit (.int .i64 0), .lit (.int .i64 0), .lit (.int .i64 0), .lit (.bool false)]) (aA rfl) Try.zeroValue42 rfl rfl) ?_
   rintro _ ⟨b10, rfl⟩
   refine tr1 rfl (cA (i := 1) rfl rfl rfl rfl rfl Try.sizeOf42 rfl (aA rfl) (Nat.le_of_ble_eq_true rfl) (ds' := (aC x8)) rfl) ?_
   refine aF ?_
   refine aG ?_
   refine aE ?_
   refine tr1 rfl (aD (v := .fn del_1_f del_1_v) (aA rfl) rfl rfl) ?_
   refine tr1 rfl (dE (aA rfl) rfl (i := 1) rfl dY (es := (aC x8)) rfl rfl) ?_
   obtain ⟨r11, h12, h⟩ := bind_some h
   refine tr1 rfl (bZ (aA rfl) (.clo _ _ _ _ del_1_e rfl) (tP rfl) rfl (BVs.refl _ _) (del_1_h _ _  h12) rfl) ?_
   refine tr1 rfl (eZ (aA rfl) rfl) ?_
   refine aF ?_
   refine bJ rfl (fun c13 => ?_) (fun c13 => ?_)
   ·have h := aS c13 h
    refine aG ?_
    refine aE ?_
    refine tr1 rfl (aD (v := .d (.lit s_0_v)) (aA rfl) rfl rfl) ?_
    refine tr1 rfl (aD (v := .d (.lit (.int .i64 i_0_5))) (aA rfl) rfl rfl) ?_
    refine tr1 rfl (dE (aA rfl) rfl (i := 1) rfl dY (es := (aC x8)) rfl rfl) ?_
    obtain ⟨x14, h15, h⟩ := bind_some h
    refine tr1 rfl (cD (m := 0) (aA rfl) rfl rfl rfl bY.of (bP aC h15)) ?_
    refine tr1 rfl (jF (l := 0) rfl rfl (dW aC h15) rfl rfl rfl Try.sizeOf42 rfl (aA rfl) (Nat.le_of_ble_eq_true rfl) (rows' := ((s_0_5.set i_0_5.toNat x8)).map aC) (mE _ _ _ _ rfl)) ?_
    refine aF ?_
    refine aE ?_
    refine tr1 rfl (aD (v := .d (.lit (.int .i64 i_0_5))) (aA rfl) rfl rfl) ?_
    refine tr1 rfl (aZ (aA rfl) rfl rfl rfl) ?_
    refine tr1 rfl (aJ (v := .d (.lit (.int .i64 ((w64 (i_0_5 + 1)))))) (aA rfl) rfl rfl) ?_
    refine eB ?_
    refine aE ?_
    refine tr1 rfl (aD (v := .d (.lit (.int .i64 j_0_5))) (aA rfl) rfl rfl) ?_
    refine tr1 rfl (aZ (aA rfl) rfl rfl rfl) ?_
    refine tr1 rfl (aJ (v := .d (.lit (.int .i64 ((w64 (j_0_5 + 1)))))) (aA rfl) rfl rfl) ?_
    refine aF ?_
    exact ⟨(w64 (i_0_5 + 1), w64 (j_0_5 + 1), (s_0_5.set i_0_5.toNat x8)), h, aW [0] rfl rfl (aN rfl (aN rfl (aN rfl (aX ⟨rfl, trivial⟩))))⟩
   ·have h := aR c13 h
    refine eJ ?_
    refine aE ?_
    refine tr1 rfl (aD (v := .d (.lit (.int .i64 j_0_5))) (aA rfl) rfl rfl) ?_
    refine tr1 rfl (aZ (aA rfl) rfl rfl rfl) ?_
    refine tr1 rfl (aJ (v := .d (.lit (.int .i64 ((w64 (j_0_5 + 1)))))) (aA rfl) rfl rfl) ?_
    refine aF ?_
    exact ⟨(i_0_5, w64 (j_0_5 + 1), s_0_5), h, aW [0] rfl rfl (aN rfl (aN rfl (aN rfl (aX ⟨rfl, trivial⟩))))⟩
  ·have h := aR c7 h
   refine cU ?_
   refine .inl ⟨rfl, ?_⟩
   simp only [mB] at h
   refine aG ?_
   refine aE ?_
   refine tr1 rfl (aD (v := .d (.lit s_0_v)) (aA rfl) rfl rfl) ?_
   refine tr1 rfl (aD (v := .d (.lit (.int .i64 i_0_5))) (aA rfl) rfl rfl) ?_
   obtain ⟨u16, h17, h⟩ := bind_some h
   refine tr1 rfl (uC (m := 0) (aA rfl) rfl rfl rfl bY.of h17) ?_
   obtain ⟨u18, h19, h⟩ := bind_some h
   refine tr1 rfl (aCk (f := aC) (m := 0) bY rfl rfl h19 (by decide)) ?_
   refine aF ?_
   refine aG ?_
   refine aE ?_
   refine tr1 rfl (aD (v := .d (.lit s_0_v)) (aA rfl) rfl rfl) ?_
   refine tr1 rfl (aD (v := .d (.lit (.int .i64 i_0_5))) (aA rfl) rfl rfl) ?_
   obtain ⟨u20, h21, h⟩ := bind_some h
   refine tr1 rfl (rE (m := 0) (q := i_0_5.toNat) (v := s_0_v) (aA rfl) rfl rfl rfl rfl (zB h21) bY.of) ?_
   refine tr1 rfl (aJ (v := .d (.lit (fZ s_0_v i_0_5.toNat))) (aA rfl) rfl rfl) ?_
   refine aF ?_
   have h := Option.some.inj h
   subst h
   exact bM ⟨rfl, _, [.arr (fZ s_0_v i_0_5.toNat) 42 5 ((s_0_5.take i_0_5.toNat).map aC)], [], _, .one (.tmp 4 (v := .d (.lit (fZ s_0_v i_0_5.toNat))) rfl), .refl _, .same _, (fZ s_0_v i_0_5.toNat), rfl, rfl⟩

theorem yU (r_0 : aB) (c_1 : Int) {r : Bool} (h : oX r_0 c_1 = some r) : Fn Try.prog 57 [.agg (aC r_0), .cp [.lit (.int .i64 c_1)]] (.d (.lit (.bool r))) := by
 unfold oX at h
 refine Fn.of_tr Try.func57 rfl (rs := [.tmp 3]) Try.results57 Try.ntmps57 (Nat.le_of_ble_eq_true rfl) ?_
 refine aG ?_
 refine aE ?_
 refine bR rfl (fJ (v := .agg (aC r_0)) (aA rfl) rfl rfl rfl) ?_
 rintro _ ⟨b1, rfl⟩
 refine tr1 rfl (aJ (v := .d (.lit (.bool false))) (aA rfl) rfl rfl) ?_
 refine aF ?_
 refine aG ?_
 refine aE ?_
 refine tr1 rfl (aQ (aA rfl) rfl iQ) ?_
 refine tr1 rfl (aT (aA rfl) rfl (i := 0) rfl rfl bF) ?_
 refine tr1 rfl (cL (aA rfl) rfl bF) ?_
 refine tr1 rfl (bC (aA rfl) rfl rfl rfl) ?_
 refine tr1 rfl (aJ (v := .d (.lit (.bool ((decide (c_1 < r_0.Week)))))) (aA rfl) rfl rfl) ?_
 refine aF ?_
 have h := Option.some.inj h
 subst h
 refine cQ (cG (cK (l := [3]) ⟨rfl, trivial⟩)) ?_
 exact bM ⟨rfl, _, .one _, rfl, rfl⟩

theorem aAb (l_0 : aM) (player_1 : Int) (week_2 : Int) {r : Int × Int} (h : tU l_0 player_1 week_2 = some r) : Fn Try.prog 21 [.agg (aV l_0), .d (.lit (.int .i64 player_1)), .d (.lit (.int .i64 week_2))] (.tup [.d (.lit (.int .i64 r.1)), .d (.lit (.int .i64 r.2))]) := by
 unfold tU at h
 refine Fn.of_tr Try.func21 rfl (rs := [.tmp 6, .tmp 7]) Try.results21 Try.ntmps21 (Nat.le_of_ble_eq_true rfl) ?_
 refine aG ?_
 refine aE ?_
 refine bR rfl (fJ (v := .agg (aV l_0)) (aA rfl) rfl rfl rfl) ?_
 rintro _ ⟨b1, rfl⟩
 refine bR rfl (fJ (v := .d (.lit (.int .i64 week_2))) (aA rfl) rfl rfl rfl) ?_
 rintro _ ⟨b2, rfl⟩
 refine tr1 rfl (aJ (v := .d (.lit (.int .i64 0))) (aA rfl) rfl rfl) ?_
 refine tr1 rfl (aJ (v := .d (.lit (.int .i64 0))) (aA rfl) rfl rfl) ?_
 refine aF ?_
 refine aG ?_
 refine aE ?_
 refine tr1 rfl (dE (aA rfl) rfl (i := 0) rfl gJ (es := (aV l_0)) rfl rfl) ?_
 refine tr1 rfl (aD (v := .d (.lit (.int .i64 player_1))) (aA rfl) rfl rfl) ?_
 refine tr1 rfl (aT (aA rfl) rfl (i := 1) rfl rfl bF) ?_
 obtain ⟨r3, h4, h⟩ := bind_some h
 refine bR rfl (dM (passed := []) (aA rfl) rfl (.func _ _ Try.call44) rfl rfl (qY _ _ _ h4)) ?_
 rintro _ ⟨_, _, ⟨b6, w7, rfl, rfl⟩, rfl⟩
 obtain ⟨_ | y5, e8⟩ := r3
 ·have h := vE h
  refine fK (aW [0, 1] rfl rfl (le_refl _)) ?_
  refine tr1 rfl (aD (v := .tup [.d (.lit (.pointer none)), .d (.lit (.int .i64 e8))]) (aA rfl) rfl rfl) ?_
  refine tr1 rfl (cV (aA rfl) rfl rfl) ?_
  refine tr1 rfl (cV (aA rfl) rfl rfl) ?_
  refine tr1 rfl (aJ (v := .d (.lit (.pointer none))) (aA rfl) rfl rfl) ?_
  refine tr1 rfl (aJ (v := .d (.lit (.int .i64 e8))) (aA rfl) rfl rfl) ?_
  refine aF ?_
  refine aG ?_
  refine aG ?_
  refine aE ?_
  refine tr1 rfl (aD (v := .d (.lit (.int .i64 e8))) (aA rfl) rfl rfl) ?_
  refine tr1 rfl (bC (aA rfl) rfl rfl rfl) ?_
  refine aF ?_
  refine bJ rfl (fun c9 => ?_) (fun c9 => ?_)
  ·have h := aS c9 h
   refine aG ?_
   refine aE ?_
   refine tr1 rfl (aD (v := .d (.lit (.int .i64 e8))) (aA rfl) rfl rfl) ?_
   refine tr1 rfl (aJ (v := .d (.lit (.int .i64 0))) (aA rfl) rfl rfl) ?_
   refine tr1 rfl (aJ (v := .d (.lit (.int .i64 e8))) (aA rfl) rfl rfl) ?_
   refine aF ?_
   have h := Option.some.inj h
   subst h
   refine cQ (cG (cK (l := [6, 7]) ⟨rfl, rfl, trivial⟩)) ?_
   exact bM ⟨rfl, _, .two _ _, rfl, rfl⟩
  ·have h := aR c9 h
   refine bI ?_
   refine aG ?_
   refine aG ?_
   refine aE ?_
   refine tr1 rfl (aT (aA rfl) rfl (i := 1) rfl rfl bF) ?_
   refine tr1 rfl (bC (aA rfl) rfl rfl rfl) ?_
   refine aF ?_
   refine bJ rfl (fun c10 => ?_) (fun c10 => ?_)
   ·have h := aS c10 h
    refine aG ?_
    refine aE ?_
    refine tr1 rfl (aJ (v := .d (.lit (.int .i64 0))) (aA rfl) rfl rfl) ?_
    refine tr1 rfl (aJ (v := .d (.lit (.int .i64 1))) (aA rfl) rfl rfl) ?_
    refine aF ?_
    have h := Option.some.inj h
    subst h
    refine cQ (cG (cK (l := [6, 7]) ⟨rfl, rfl, trivial⟩)) ?_
    exact bM ⟨rfl, _, .two _ _, rfl, rfl⟩
   ·have h := aR c10 h
    refine bI ?_
    refine aG ?_
    refine aE ?_
    refine tr1 rfl (aD (v := .d (.lit (.pointer none))) (aA rfl) rfl rfl) ?_
    refine tr1 rfl (aD (v := .d (.lit (.int .i64 player_1))) (aA rfl) rfl rfl) ?_
    refine tr1 rfl (aT (aA rfl) rfl (i := 1) rfl rfl bF) ?_
    cases h
 ·have h := vF h
  refine fK (aW [0, 1, 2, 3] rfl rfl (le_refl _)) ?_
  refine tr1 rfl (aD (v := .tup [.bp b6 0 0, .d (.lit (.int .i64 e8))]) (aA rfl) rfl rfl) ?_
  refine tr1 rfl (cV (aA rfl) rfl rfl) ?_
  refine tr1 rfl (cV (aA rfl) rfl rfl) ?_
  refine tr1 rfl (aJ (v := .bp b6 0 0) (aA rfl) rfl rfl) ?_
  refine tr1 rfl (aJ (v := .d (.lit (.int .i64 e8))) (aA rfl) rfl rfl) ?_
  refine aF ?_
  refine aG ?_
  refine aG ?_
  refine aE ?_
  refine tr1 rfl (aD (v := .d (.lit (.int .i64 e8))) (aA rfl) rfl rfl) ?_
  refine tr1 rfl (bC (aA rfl) rfl rfl rfl) ?_
  refine aF ?_
  refine bJ rfl (fun c11 => ?_) (fun c11 => ?_)
  ·have h := aS c11 h
   refine aG ?_
   refine aE ?_
   refine tr1 rfl (aD (v := .d (.lit (.int .i64 e8))) (aA rfl) rfl rfl) ?_
   refine tr1 rfl (aJ (v := .d (.lit (.int .i64 0))) (aA rfl) rfl rfl) ?_
   refine tr1 rfl (aJ (v := .d (.lit (.int .i64 e8))) (aA rfl) rfl rfl) ?_
   refine aF ?_
   have h := Option.some.inj h
   subst h
   refine cQ (cG (cK (l := [6, 7]) ⟨rfl, rfl, trivial⟩)) ?_
   exact bM ⟨rfl, _, .two _ _, rfl, rfl⟩
  ·have h := aR c11 h
   refine bI ?_
   refine aG ?_
   refine aG ?_
   refine aE ?_
   refine tr1 rfl (aT (aA rfl) rfl (i := 3) rfl rfl bF) ?_
   refine tr1 rfl (bC (aA rfl) rfl rfl rfl) ?_
   refine aF ?_
   refine bJ rfl (fun c12 => ?_) (fun c12 => ?_)
   ·have h := aS c12 h
    refine aG ?_
    refine aE ?_
    refine tr1 rfl (aJ (v := .d (.lit (.int .i64 0))) (aA rfl) rfl rfl) ?_
    refine tr1 rfl (aJ (v := .d (.lit (.int .i64 1))) (aA rfl) rfl rfl) ?_
    refine aF ?_
    have h := Option.some.inj h
    subst h
    refine cQ (cG (cK (l := [6, 7]) ⟨rfl, rfl, trivial⟩)) ?_
    exact bM ⟨rfl, _, .two _ _, rfl, rfl⟩
   ·have h := aR c12 h
    refine bI ?_
    refine aG ?_
    refine aE ?_
    refine tr1 rfl (aD (v := .bp b6 0 0) (aA rfl) rfl rfl) ?_
    refine tr1 rfl (aD (v := .d (.lit (.int .i64 player_1))) (aA rfl) rfl rfl) ?_
    refine tr1 rfl (aT (aA rfl) rfl (i := 3) rfl rfl bF) ?_
    obtain ⟨r13, h14, h⟩ := bind_some h
    refine tr1 rfl (bZ (aA rfl) (.func _ _ Try.call55) rfl rfl (.cons ((lX 0 rfl rfl (dvc (.same _) (dvc (.same _) (dvc (iB 1 rfl (dD (f := aC) fun _ => rfl)) (dvc (.same _) (dvc (.same _) dvn))))))) (.cons (.same _) (.cons (.same _) .nil))) (sK _ _ _ h14) rfl) ?_
    refine tr1 rfl (aJ (v := .d (.lit (.int .i64 r13))) (aA rfl) rfl rfl) ?_
    refine aF ?_
    refine aG ?_
    refine aE ?_
    refine tr1 rfl (aD (v := .bp b6 0 0) (aA rfl) rfl rfl) ?_
    refine tr1 rfl (aD (v := .bp b6 0 0) (aA rfl) rfl rfl) ?_
    refine tr1 rfl (iO (aA rfl) rfl) ?_
    refine tr1 rfl (aQ (aA rfl) rfl gM) ?_
    refine tr1 rfl (aQ (aA rfl) rfl eF) ?_
    refine tr1 rfl (aT (aA rfl) rfl (i := 0) rfl rfl hB) ?_
    refine tr1 rfl (vI (aA rfl) rfl rfl) ?_
    apply aAe [.box b6 0 [.lit (.int .i64 y5.Ledger.Players), .lit (.int .i64 y5.Ledger.Counts), .lit w7, .sl 3 (y5.Ledger.Bans.map aI), .sl 3 (y5.Ledger.Frozen.map aI)], .arr w7 42 5 (y5.Ledger.Reports.map aC), .box b1 0 (aV l_0)] [.box b2 0 [.lit (.int .i64 week_2)]] rfl
    exact fW (k := 33) (v := .fn 57 [.cp [.lit (.int .i64 week_2)]]) ((zA (.cons ((lX 0 rfl rfl (dvc (.same _) dvn))) .nil))) (fW (k := 5) (v := .cp [.lit (.int .i64 week_2)]) ((lX 0 rfl rfl (dvc (.same _) dvn))) (rP _ _))
    obtain ⟨r16, h17, h⟩ := bind_some h
    refine fK (aW [1, 0, 2] rfl rfl (le_refl _)) ?_
    refine bR rfl (dM (passed := [.arr w7 42 5 (y5.Ledger.Reports.map aC)]) (aA rfl) rfl (.func _ _ Try.call56) rfl rfl (rH y5.Ledger.Reports (fun y15 => oX y15 week_2) 57 [.cp [.lit (.int .i64 week_2)]] Try.call57 (fun _ _ h => yU _ _ h) h17)) ?_
    rintro _ ⟨_, _, ⟨v18, rfl, rfl⟩, rfl⟩
    refine tr1 rfl (iO (aA rfl) rfl) ?_
    refine tr1 rfl (aQ (aA rfl) rfl gM) ?_
    refine tr1 rfl (aQ (aA rfl) rfl eF) ?_
    refine tr1 rfl (cA (i := 1) rfl rfl rfl rfl rfl Try.sizeOf22 rfl (aA rfl) (Nat.le_of_ble_eq_true rfl) (ds' := [.lit (.int .i64 y5.Ledger.Players), .lit (.int .i64 y5.Ledger.Counts), .lit v18, .sl 3 (y5.Ledger.Bans.map aI), .sl 3 (y5.Ledger.Frozen.map aI)]) rfl) ?_
    refine aF ?_
    refine aG ?_
    refine aE ?_
    refine tr1 rfl (aD (v := .d (.lit (.int .i64 r13))) (aA rfl) rfl rfl) ?_
    refine tr1 rfl (aD (v := .bp b6 0 0) (aA rfl) rfl rfl) ?_
    refine tr1 rfl (aD (v := .d (.lit (.int .i64 player_1))) (aA rfl) rfl rfl) ?_
    refine tr1 rfl (cL (aA rfl) rfl bF) ?_
    refine tr1 rfl (aZ (aA rfl) rfl rfl rfl) ?_
    obtain ⟨r19, h20, h⟩ := bind_some h
    refine tr1 rfl (bZ (aA rfl) (.func _ _ Try.call55) rfl rfl (.cons ((lX 1 rfl rfl (dvc (.same _) (dvc (.same _) (dvc (iB 0 rfl (dD (f := aC) fun _ => rfl)) (dvc (.same _) (dvc (.same _) dvn))))))) (.cons (.same _) (.cons (.same _) .nil))) (sK _ _ _ h20) rfl) ?_
    refine tr1 rfl (aZ (aA rfl) rfl rfl rfl) ?_
    refine tr1 rfl (aJ (v := .d (.lit (.int .i64 ((w64 (r13 - r19)))))) (aA rfl) rfl rfl) ?_
    refine tr1 rfl (aJ (v := .d (.lit (.int .i64 0))) (aA rfl) rfl rfl) ?_
    refine aF ?_
    have h := Option.some.inj h
    subst h
    refine cQ (cG (cK (l := [6, 7]) ⟨rfl, rfl, trivial⟩)) ?_
    exact bM ⟨rfl, _, .two _ _, rfl, rfl⟩

theorem uY (a_0 : List Int) (b_1 : List Int) {r : Bool} (h : nV a_0 b_1 = some r) : Fn Try.prog 32 [.d (.sl 1 (a_0.map cC)), .d (.sl 1 (b_1.map cC))] (.d (.lit (.bool r))) := by
 unfold nV at h
 refine Fn.of_tr Try.func32 rfl (rs := [.tmp 4]) Try.results32 Try.ntmps32 (Nat.le_of_ble_eq_true rfl) ?_
 refine aG ?_
 refine aE ?_
 refine tr1 rfl (aJ (v := .d (.lit (.bool false))) (aA rfl) rfl rfl) ?_
 refine aF ?_
 refine aG ?_
 refine aG ?_
 refine aE ?_
 refine tr1 rfl (aD (v := .d (.sl 1 (a_0.map cC))) (aA rfl) rfl rfl) ?_
 refine tr1 rfl (dX (aA rfl) rfl eO.of) ?_
 refine tr1 rfl (aD (v := .d (.sl 1 (b_1.map cC))) (aA rfl) rfl rfl) ?_
 refine tr1 rfl (dX (aA rfl) rfl eO.of) ?_
 refine tr1 rfl (bC (aA rfl) rfl rfl rfl) ?_
 refine aF ?_
 refine bJ rfl (fun c1 => ?_) (fun c1 => ?_)
 ·have h := aS c1 h
  refine aG ?_
  refine aE ?_
  refine tr1 rfl (aJ (v := .d (.lit (.bool false))) (aA rfl) rfl rfl) ?_
  refine aF ?_
  have h := Option.some.inj h
  subst h
  exact bM ⟨rfl, _, .one _, rfl, rfl⟩
 ·have h := aR c1 h
  refine bI ?_
  refine aG ?_
  refine aG ?_
  refine aE ?_
  refine tr1 rfl (aJ (v := .d (.lit (.int .i64 0))) (aA rfl) rfl rfl) ?_
  refine aF ?_
  refine bQ ?_
  refine cM [0, 1] (fun (s2 : Int) => [(5, .d (.lit (.int .i64 s2)))]) (fun (s2 : Int) => []) (fun (k : Nat) (s2 : Int) => kQ a_0 b_1 k s2) (fun _ => rfl) (0) h (aW [] rfl rfl (aN rfl (aX ⟨rfl, rfl, trivial⟩))) ?_
  rintro k3 i_0_2 h
  simp only [kQ] at h
  refine aG ?_
  refine aG ?_
  refine aE ?_
  refine tr1 rfl (aD (v := .d (.lit (.int .i64 i_0_2))) (aA rfl) rfl rfl) ?_
  refine tr1 rfl (aD (v := .d (.sl 1 (a_0.map cC))) (aA rfl) rfl rfl) ?_
  refine tr1 rfl (dX (aA rfl) rfl eO.of) ?_
  refine tr1 rfl (bC (aA rfl) rfl rfl rfl) ?_
  refine aF ?_
  refine bJ rfl (fun c4 => ?_) (fun c4 => ?_)
  ·have h := aS c4 h
   refine bI ?_
   refine aG ?_
   refine bQ ?_
   refine aG ?_
   obtain ⟨x5, h6, h⟩ := bind_some h
   obtain ⟨x7, h8, h⟩ := bind_some h
   refine gO mix 8 [0, 1, 5] [(20, .d (.lit (.int .i64 x5))), (24, .d (.lit (.int .i64 x7)))] ?_ ?_
   ·refine ⟨[(17, 0, .d (.sl 1 (a_0.map cC))), (18, 1, .d (.lit (.int .i64 i_0_2))), (19, 2, .cp [.lit (.int .i64 x5)]), (20, 3, .d (.lit (.int .i64 x5))), (21, 4, .d (.sl 1 (b_1.map cC))), (22, 5, .d (.lit (.int .i64 i_0_2))), (23, 6, .cp [.lit (.int .i64 x7)]), (24, 7, .d (.lit (.int .i64 x7)))], ?_, ?_⟩
    · exact ⟨by kernel_rfl, by kernel_rfl, by kernel_rfl, by kernel_rfl, by kernel_rfl, [([], []), ([], []), ([0, 1], []), ([2], []), ([], []), ([], []), ([4, 5], []), ([6], [])], by kernel_rfl, ⟨fun S hS => aK rfl (aP rfl (aD (v := .d (.sl 1 (a_0.map cC))) (aA rfl) (aH hS rfl) rfl)),
      fun S hS => aK rfl (aP rfl (aD (v := .d (.lit (.int .i64 i_0_2))) (aA rfl) (aH hS rfl) rfl)),
      fun S hS => aK rfl (aP rfl (cE (aA rfl) (aH hS rfl) (aH hS rfl) eO.of (bP cC h6))),
      fun S hS => aK rfl (aP rfl (cL (aA rfl) (aH hS rfl) bF)),
      fun S hS => aK rfl (aP rfl (aD (v := .d (.sl 1 (b_1.map cC))) (aA rfl) (aH hS rfl) rfl)),
      fun S hS => aK rfl (aP rfl (aD (v := .d (.lit (.int .i64 i_0_2))) (aA rfl) (aH hS rfl) rfl)),
      fun S hS => aK rfl (aP rfl (cE (aA rfl) (aH hS rfl) (aH hS rfl) eO.of (bP cC h8))),
      fun S hS => aK rfl (aP rfl (cL (aA rfl) (aH hS rfl) bF)), trivial⟩⟩
    · exact eE (aN rfl (aN rfl (aX ⟨rfl, rfl, rfl, trivial⟩)))
   ·refine tr1 rfl (bC (aA rfl) rfl rfl rfl) ?_
    refine aF ?_
    refine bJ rfl (fun c9 => ?_) (fun c9 => ?_)
    ·have h := aS c9 h
     refine aG ?_
     refine aE ?_
     refine tr1 rfl (aJ (v := .d (.lit (.bool false))) (aA rfl) rfl rfl) ?_
     refine aF ?_
     have h := Option.some.inj h
     subst h
     exact bM ⟨rfl, _, .one _, rfl, rfl⟩
    ·have h := aR c9 h
     refine eJ ?_
     refine aE ?_
     refine tr1 rfl (aD (v := .d (.lit (.int .i64 i_0_2))) (aA rfl) rfl rfl) ?_
     refine tr1 rfl (aZ (aA rfl) rfl rfl rfl) ?_
     refine tr1 rfl (aJ (v := .d (.lit (.int .i64 ((w64 (i_0_2 + 1)))))) (aA rfl) rfl rfl) ?_
     refine aF ?_
     exact ⟨(w64 (i_0_2 + 1)), h, aW [] rfl rfl (aN rfl (aX ⟨rfl, rfl, trivial⟩))⟩
  ·have h := aR c4 h
   refine cU ?_
   refine .inl ⟨rfl, ?_⟩
   simp only [pM] at h
   refine aG ?_
   refine aE ?_
   refine tr1 rfl (aJ (v := .d (.lit (.bool true))) (aA rfl) rfl rfl) ?_
   refine aF ?_
   have h := Option.some.inj h
   subst h
   exact bM ⟨rfl, _, .one _, rfl, rfl⟩

theorem oJ {r : Bool} (h : kF = some r) : Fn Try.prog 16 [] (.d (.lit (.bool r))) := by
 unfold kF at h
 refine Fn.of_tr Try.func16 rfl (rs := [.tmp 0]) Try.results16 Try.ntmps16 (Nat.le_of_ble_eq_true rfl) ?_
 refine aG ?_
 refine aE ?_
 refine tr1 rfl (aJ (v := .d (.lit (.bool false))) (aA rfl) rfl rfl) ?_
 refine aF ?_
 refine aG ?_
 refine aE ?_
 obtain ⟨r1, h2, h⟩ := bind_some h
 refine tr1 rfl (lO (aA rfl) (.func _ _ Try.call43) rfl rfl (vP h2)) ?_
 refine bR rfl (fY (zs := [.lit (.int .i64 0), .lit (.int .i64 0), .sl 5 ((([] : List aB)).map aC), .sl 3 ((([] : List bA)).map aI), .sl 3 ((([] : List bA)).map aI)]) (aA rfl) Try.zeroValue25 rfl rfl) ?_
 rintro _ ⟨b3, rfl⟩
 refine tr1 rfl (cA (i := 0) rfl rfl rfl rfl rfl Try.sizeOf25 rfl (aA rfl) (Nat.le_of_ble_eq_true rfl) (ds' := (aV r1)) rfl) ?_
 refine aF ?_
 refine aG ?_
 refine aE ?_
 refine tr1 rfl (dE (aA rfl) rfl (i := 0) rfl gJ (es := (aV r1)) rfl rfl) ?_
 obtain ⟨r4, h5, h⟩ := bind_some h
 refine tr1 rfl (lO (aA rfl) (.func _ _ Try.call27) rfl rfl (aCx _ _ h5)) ?_
 refine tr1 rfl (aD (v := .tup [.d (.sl 1 (r4.1.map cC)), .d (.lit (.int .i64 r4.2))]) (aA rfl) rfl rfl) ?_
 refine tr1 rfl (cV (aA rfl) rfl rfl) ?_
 refine tr1 rfl (cV (aA rfl) rfl rfl) ?_
 refine tr1 rfl (aJ (v := .d (.sl 1 (r4.1.map cC))) (aA rfl) rfl rfl) ?_
 refine tr1 rfl (aJ (v := .d (.lit (.int .i64 r4.2))) (aA rfl) rfl rfl) ?_
 refine aF ?_
 refine aG ?_
 refine aE ?_
 refine tr1 rfl (dE (aA rfl) rfl (i := 0) rfl gJ (es := (aV r1)) rfl rfl) ?_
 refine tr1 rfl (jP (aA rfl) eO rfl rfl (rows := ([300]).map cC) rfl (dD (f := cC) fun _ => rfl) rfl (by decide)) ?_
 obtain ⟨r6, h7, h⟩ := bind_some h
 refine tr1 rfl (bZ (aA rfl) (.func _ _ Try.call17) rfl rfl (BVs.refl _ _) (aCg _ _ _ _ h7) rfl) ?_
 refine tr1 rfl (aD (v := .tup [.d (.lit (.int .i64 r6.1)), .d (.lit (.int .i64 r6.2.1)), .d (.lit (.int .i64 r6.2.2))]) (aA rfl) rfl rfl) ?_
 refine tr1 rfl (cV (aA rfl) rfl rfl) ?_
 refine tr1 rfl (cV (aA rfl) rfl rfl) ?_
 refine tr1 rfl (cV (aA rfl) rfl rfl) ?_
 refine tr1 rfl (aJ (v := .d (.lit (.int .i64 r6.1))) (aA rfl) rfl rfl) ?_
 refine tr1 rfl (aJ (v := .d (.lit (.int .i64 r6.2.1))) (aA rfl) rfl rfl) ?_
 refine tr1 rfl (aJ (v := .d (.lit (.int .i64 r6.2.2))) (aA rfl) rfl rfl) ?_
 refine aF ?_
 refine aG ?_
 refine aE ?_
 refine tr1 rfl (dE (aA rfl) rfl (i := 0) rfl gJ (es := (aV r1)) rfl rfl) ?_
 obtain ⟨r8, h9, h⟩ := bind_some h
 refine tr1 rfl (bZ (aA rfl) (.func _ _ Try.call21) rfl rfl (BVs.refl _ _) (aAb _ _ _ h9) rfl) ?_
 refine tr1 rfl (aD (v := .tup [.d (.lit (.int .i64 r8.1)), .d (.lit (.int .i64 r8.2))]) (aA rfl) rfl rfl) ?_
 refine tr1 rfl (cV (aA rfl) rfl rfl) ?_
 refine tr1 rfl (cV (aA rfl) rfl rfl) ?_
 refine tr1 rfl (aJ (v := .d (.lit (.int .i64 r8.1))) (aA rfl) rfl rfl) ?_
 refine tr1 rfl (aJ (v := .d (.lit (.int .i64 r8.2))) (aA rfl) rfl rfl) ?_
 refine aF ?_
 refine aG ?_
 refine aE ?_
 refine tr1 rfl (aD (v := .d (.lit (.int .i64 r4.2))) (aA rfl) rfl rfl) ?_
 refine tr1 rfl (bC (aA rfl) rfl rfl rfl) ?_
 refine tr1 rfl (aD (v := .d (.lit (.bool ((decide (r4.2 = 0)))))) (aA rfl) rfl rfl) ?_
 obtain ⟨b10, h11, h⟩ := bind_some h
 refine bW 3 [2, 4, 5, 7, 8] 32 b10 ?_ ?_
 ·refine bG (decide (r4.2 = 0)) (fun c29 => ?_) (fun c29 => ?_)
  ·have h11 := aS c29 h11
   refine aL rfl rfl (aA rfl) rfl c29 (aD (v := .d (.lit (.int .i64 r6.2.2))) (aA rfl) rfl rfl) ?_
   refine aL rfl rfl (aA rfl) rfl c29 (bC (aA rfl) rfl rfl rfl) ?_
   refine tr1 rfl (bO (v := .d (.lit (.bool ((decide (r6.2.2 = 0)))))) (aA rfl) rfl c29 rfl rfl) ?_
   have h11 := Option.some.inj h11
   subst h11
   refine aF (aY rfl ⟨rfl, rfl, rfl, rfl, rfl, trivial⟩ rfl)
  ·have h11 := aR c29 h11
   refine aO rfl rfl (aA rfl) rfl (aA rfl) rfl c29 ?_
   refine aO rfl rfl (aA rfl) rfl (aA rfl) rfl c29 ?_
   refine tr1 rfl (bN (v := .d (.lit (.bool false))) (aA rfl) rfl c29 rfl rfl) ?_
   have h11 := Option.some.inj h11
   subst h11
   refine aF (aY rfl ⟨rfl, rfl, rfl, rfl, rfl, trivial⟩ rfl)
 ·refine tr1 rfl (aD (v := .d (.lit (.bool b10))) (aA rfl) rfl rfl) ?_
  obtain ⟨b12, h13, h⟩ := bind_some h
  refine bW 3 [2, 4, 5, 7] 36 b12 ?_ ?_
  ·refine bG (b10) (fun c28 => ?_) (fun c28 => ?_)
   ·have h13 := aS c28 h13
    refine aL rfl rfl (aA rfl) rfl c28 (aD (v := .d (.lit (.int .i64 r8.2))) (aA rfl) rfl rfl) ?_
    refine aL rfl rfl (aA rfl) rfl c28 (bC (aA rfl) rfl rfl rfl) ?_
    refine tr1 rfl (bO (v := .d (.lit (.bool ((decide (r8.2 = 0)))))) (aA rfl) rfl c28 rfl rfl) ?_
    have h13 := Option.some.inj h13
    subst h13
    refine aF (aY rfl ⟨rfl, rfl, rfl, rfl, trivial⟩ rfl)
   ·have h13 := aR c28 h13
    refine aO rfl rfl (aA rfl) rfl (aA rfl) rfl c28 ?_
    refine aO rfl rfl (aA rfl) rfl (aA rfl) rfl c28 ?_
    refine tr1 rfl (bN (v := .d (.lit (.bool false))) (aA rfl) rfl c28 rfl rfl) ?_
    have h13 := Option.some.inj h13
    subst h13
    refine aF (aY rfl ⟨rfl, rfl, rfl, rfl, trivial⟩ rfl)
  ·refine tr1 rfl (aD (v := .d (.lit (.bool b12))) (aA rfl) rfl rfl) ?_
   obtain ⟨b14, h15, h⟩ := bind_some h
   refine bW 4 [4, 5, 7] 41 b14 ?_ ?_
   ·refine bG (b12) (fun c25 => ?_) (fun c25 => ?_)
    ·have h15 := aS c25 h15
     refine aL rfl rfl (aA rfl) rfl c25 (aD (v := .d (.sl 1 (r4.1.map cC))) (aA rfl) rfl rfl) ?_
     refine aL rfl rfl (aA rfl) rfl c25 (jP (aA rfl) eO rfl rfl (rows := ([0, 2, 1]).map cC) rfl (dD (f := cC) fun _ => rfl) rfl (by decide)) ?_
     obtain ⟨r26, h27, h15⟩ := bind_some h15
     refine aL rfl rfl (aA rfl) rfl c25 (bZ (aA rfl) (.func _ _ Try.call32) rfl rfl (BVs.refl _ _) (uY _ _ h27) rfl) ?_
     refine tr1 rfl (bO (v := .d (.lit (.bool r26))) (aA rfl) rfl c25 rfl rfl) ?_
     have h15 := Option.some.inj h15
     subst h15
     refine aF (aY rfl ⟨rfl, rfl, rfl, trivial⟩ rfl)
    ·have h15 := aR c25 h15
     refine aO rfl rfl (aA rfl) rfl (aA rfl) rfl c25 ?_
     refine aO rfl rfl (aA rfl) rfl (aA rfl) rfl c25 ?_
     refine aO rfl rfl (aA rfl) rfl (aA rfl) rfl c25 ?_
     refine tr1 rfl (bN (v := .d (.lit (.bool false))) (aA rfl) rfl c25 rfl rfl) ?_
     have h15 := Option.some.inj h15
     subst h15
     refine aF (aY rfl ⟨rfl, rfl, rfl, trivial⟩ rfl)
   ·refine tr1 rfl (aD (v := .d (.lit (.bool b14))) (aA rfl) rfl rfl) ?_
    obtain ⟨b16, h17, h⟩ := bind_some h
    refine bW 3 [5, 7] 45 b16 ?_ ?_
    ·refine bG (b14) (fun c24 => ?_) (fun c24 => ?_)
     ·have h17 := aS c24 h17
      refine aL rfl rfl (aA rfl) rfl c24 (aD (v := .d (.lit (.int .i64 r6.1))) (aA rfl) rfl rfl) ?_
      refine aL rfl rfl (aA rfl) rfl c24 (bC (aA rfl) rfl rfl rfl) ?_
      refine tr1 rfl (bO (v := .d (.lit (.bool ((decide (r6.1 = 1)))))) (aA rfl) rfl c24 rfl rfl) ?_
      have h17 := Option.some.inj h17
      subst h17
      refine aF (aY rfl ⟨rfl, rfl, trivial⟩ rfl)
     ·have h17 := aR c24 h17
      refine aO rfl rfl (aA rfl) rfl (aA rfl) rfl c24 ?_
      refine aO rfl rfl (aA rfl) rfl (aA rfl) rfl c24 ?_
      refine tr1 rfl (bN (v := .d (.lit (.bool false))) (aA rfl) rfl c24 rfl rfl) ?_
      have h17 := Option.some.inj h17
      subst h17
      refine aF (aY rfl ⟨rfl, rfl, trivial⟩ rfl)
    ·refine tr1 rfl (aD (v := .d (.lit (.bool b16))) (aA rfl) rfl rfl) ?_
     obtain ⟨b18, h19, h⟩ := bind_some h
     refine bW 3 [7] 49 b18 ?_ ?_
     ·refine bG (b16) (fun c23 => ?_) (fun c23 => ?_)
      ·have h19 := aS c23 h19
       refine aL rfl rfl (aA rfl) rfl c23 (aD (v := .d (.lit (.int .i64 r6.2.1))) (aA rfl) rfl rfl) ?_
       refine aL rfl rfl (aA rfl) rfl c23 (bC (aA rfl) rfl rfl rfl) ?_
       refine tr1 rfl (bO (v := .d (.lit (.bool ((decide (r6.2.1 = 3)))))) (aA rfl) rfl c23 rfl rfl) ?_
       have h19 := Option.some.inj h19
       subst h19
       refine aF (aY rfl ⟨rfl, trivial⟩ rfl)
      ·have h19 := aR c23 h19
       refine aO rfl rfl (aA rfl) rfl (aA rfl) rfl c23 ?_
       refine aO rfl rfl (aA rfl) rfl (aA rfl) rfl c23 ?_
       refine tr1 rfl (bN (v := .d (.lit (.bool false))) (aA rfl) rfl c23 rfl rfl) ?_
       have h19 := Option.some.inj h19
       subst h19
       refine aF (aY rfl ⟨rfl, trivial⟩ rfl)
     ·refine tr1 rfl (aD (v := .d (.lit (.bool b18))) (aA rfl) rfl rfl) ?_
      obtain ⟨b20, h21, h⟩ := bind_some h
      refine bW 3 [] 53 b20 ?_ ?_
      ·refine bG (b18) (fun c22 => ?_) (fun c22 => ?_)
       ·have h21 := aS c22 h21
        refine aL rfl rfl (aA rfl) rfl c22 (aD (v := .d (.lit (.int .i64 r8.1))) (aA rfl) rfl rfl) ?_
        refine aL rfl rfl (aA rfl) rfl c22 (bC (aA rfl) rfl rfl rfl) ?_
        refine tr1 rfl (bO (v := .d (.lit (.bool ((decide (r8.1 = 200)))))) (aA rfl) rfl c22 rfl rfl) ?_
        have h21 := Option.some.inj h21
        subst h21
        refine aF (aY rfl trivial rfl)
       ·have h21 := aR c22 h21
        refine aO rfl rfl (aA rfl) rfl (aA rfl) rfl c22 ?_
        refine aO rfl rfl (aA rfl) rfl (aA rfl) rfl c22 ?_
        refine tr1 rfl (bN (v := .d (.lit (.bool false))) (aA rfl) rfl c22 rfl rfl) ?_
        have h21 := Option.some.inj h21
        subst h21
        refine aF (aY rfl trivial rfl)
      ·refine tr1 rfl (aJ (v := .d (.lit (.bool b20))) (aA rfl) rfl rfl) ?_
       refine aF ?_
       have h := Option.some.inj h
       subst h
       refine cQ (cG (cK (l := [0]) ⟨rfl, trivial⟩)) ?_
       exact bM ⟨rfl, _, .one _, rfl, rfl⟩

theorem xW (l_0 : aM) {r : aM} (h : mH l_0 = some r) : Fn Try.prog 18 [.agg (aV l_0)] (.agg (aV r)) := by
 unfold mH at h
 refine sS Try.func18 rfl (rs := [.cell 2 25]) Try.results18 Try.ntmps18 (Nat.le_of_ble_eq_true rfl) ?_
 refine aG ?_
 refine aE ?_
 refine bR rfl (fJ (v := .agg (aV l_0)) (aA rfl) rfl rfl rfl) ?_
 rintro _ ⟨b1, rfl⟩
 refine bR rfl (fY (zs := [.lit (.int .i64 0), .lit (.int .i64 0), .sl 5 ((([] : List aB)).map aC), .sl 3 ((([] : List bA)).map aI), .sl 3 ((([] : List bA)).map aI)]) (aA rfl) Try.zeroValue25 rfl rfl) ?_
 rintro _ ⟨b2, rfl⟩
 refine aF ?_
 refine aG ?_
 refine aE ?_
 refine tr1 rfl (dE (aA rfl) rfl (i := 0) rfl gJ (es := (aV l_0)) rfl rfl) ?_
 refine bR rfl (fY (zs := [.lit (.int .i64 0), .lit (.int .i64 0), .sl 5 ((([] : List aB)).map aC), .sl 3 ((([] : List bA)).map aI), .sl 3 ((([] : List bA)).map aI)]) (aA rfl) Try.zeroValue25 rfl rfl) ?_
 rintro _ ⟨b3, rfl⟩
 refine tr1 rfl (cA (i := 2) rfl rfl rfl rfl rfl Try.sizeOf25 rfl (aA rfl) (Nat.le_of_ble_eq_true rfl) (ds' := (aV l_0)) rfl) ?_
 refine aF ?_
 refine aG ?_
 refine aE ?_
 refine tr1 rfl (yV (aA rfl) bY rfl rfl (rows := (([] : List aB)).map aC) rfl (dD (f := aC) fun _ => rfl) rfl (by decide)) ?_
 refine tr1 rfl (aQ (aA rfl) rfl eF) ?_
 refine tr1 rfl (aT (aA rfl) rfl (i := 0) rfl rfl hB) ?_
 obtain ⟨x4, h5, h⟩ := bind_some h
 refine tr1 rfl (aCl (.d (.weak _ _)) (uM (nn := true) (f := aC) (xs := ([] : List aB)) (ys := l_0.Reports) (aA rfl) bY rfl rfl (fun _ => rfl) h5 rfl)) ?_
 refine tr1 rfl (aQ (aA rfl) rfl eF) ?_
 refine tr1 rfl (cA (i := 2) rfl rfl rfl rfl rfl Try.sizeOf22 rfl (aA rfl) (Nat.le_of_ble_eq_true rfl) (ds' := (aV (aM.mk l_0.Players l_0.Counts x4 l_0.Bans l_0.Frozen))) rfl) ?_
 refine aF ?_
 refine aG ?_
 refine aE ?_
 refine tr1 rfl (yV (aA rfl) fH rfl rfl (rows := (([] : List bA)).map aI) rfl (dD (f := aI) fun _ => rfl) rfl (by decide)) ?_
 refine tr1 rfl (aQ (aA rfl) rfl nG) ?_
 refine tr1 rfl (aT (aA rfl) rfl (i := 0) rfl rfl jM) ?_
 obtain ⟨x6, h7, h⟩ := bind_some h
 refine tr1 rfl (aCl (.d (.weak _ _)) (uM (nn := true) (f := aI) (xs := ([] : List bA)) (ys := l_0.Bans) (aA rfl) fH rfl rfl (fun _ => rfl) h7 rfl)) ?_
 refine tr1 rfl (aQ (aA rfl) rfl nG) ?_
 refine tr1 rfl (cA (i := 2) rfl rfl rfl rfl rfl Try.sizeOf23 rfl (aA rfl) (Nat.le_of_ble_eq_true rfl) (ds' := (aV (aM.mk l_0.Players l_0.Counts x4 x6 l_0.Frozen))) rfl) ?_
 refine aF ?_
 refine aG ?_
 refine aE ?_
 refine tr1 rfl (yV (aA rfl) fH rfl rfl (rows := (([] : List bA)).map aI) rfl (dD (f := aI) fun _ => rfl) rfl (by decide)) ?_
 refine tr1 rfl (aQ (aA rfl) rfl lA) ?_
 refine tr1 rfl (aT (aA rfl) rfl (i := 0) rfl rfl jM) ?_
 obtain ⟨x8, h9, h⟩ := bind_some h
 refine tr1 rfl (aCl (.d (.weak _ _)) (uM (nn := true) (f := aI) (xs := ([] : List bA)) (ys := l_0.Frozen) (aA rfl) fH rfl rfl (fun _ => rfl) h9 rfl)) ?_
 refine tr1 rfl (aQ (aA rfl) rfl lA) ?_
 refine tr1 rfl (cA (i := 2) rfl rfl rfl rfl rfl Try.sizeOf23 rfl (aA rfl) (Nat.le_of_ble_eq_true rfl) (ds' := (aV (aM.mk l_0.Players l_0.Counts x4 x6 x8))) rfl) ?_
 refine aF ?_
 refine aG ?_
 refine aE ?_
 refine tr1 rfl (dE (aA rfl) rfl (i := 2) rfl gJ (es := (aV (aM.mk l_0.Players l_0.Counts x4 x6 x8))) rfl rfl) ?_
 refine tr1 rfl (cA (i := 1) rfl rfl rfl rfl rfl Try.sizeOf25 rfl (aA rfl) (Nat.le_of_ble_eq_true rfl) (ds' := (aV (aM.mk l_0.Players l_0.Counts x4 x6 x8))) rfl) ?_
 refine aF ?_
 have h := Option.some.inj h
 subst h
 exact bM ⟨rfl, _, [.box b1 0 (aV l_0), .box b2 0 (aV (aM.mk l_0.Players l_0.Counts x4 x6 x8)), .box b3 0 (aV (aM.mk l_0.Players l_0.Counts x4 x6 x8))], .one (.cell 2 25 rfl (i := 1) rfl gJ (es := (aV (aM.mk l_0.Players l_0.Counts x4 x6 x8))) rfl rfl), .refl _, .same _⟩

theorem sY (l_0 : List bA) (player_1 : Int) (week_2 : Int) {r : Bool} (h : gG l_0 player_1 week_2 = some r) : Fn Try.prog 25 [.d (.sl 3 (l_0.map aI)), .d (.lit (.int .i64 player_1)), .d (.lit (.int .i64 week_2))] (.d (.lit (.bool r))) := by
 unfold gG at h
 refine Fn.of_tr Try.func25 rfl (rs := [.tmp 6]) Try.results25 Try.ntmps25 (Nat.le_of_ble_eq_true rfl) ?_
 refine aG ?_
 refine aE ?_
 refine tr1 rfl (aJ (v := .d (.lit (.bool false))) (aA rfl) rfl rfl) ?_
 refine aF ?_
 refine aG ?_
 refine aG ?_
 refine aE ?_
 refine tr1 rfl (aJ (v := .d (.lit (.int .i64 0))) (aA rfl) rfl rfl) ?_
 refine aF ?_
 refine bQ ?_
 refine cM [0, 1, 2] (fun (s1 : Int) => [(7, .d (.lit (.int .i64 s1)))]) (fun (s1 : Int) => []) (fun (k : Nat) (s1 : Int) => hZ l_0 player_1 week_2 k s1) (fun _ => rfl) (0) h (aW [] rfl rfl (aN rfl (aX ⟨rfl, rfl, rfl, trivial⟩))) ?_
 rintro k2 i_0_1 h
 simp only [hZ] at h
 refine aG ?_
 refine aG ?_
 refine aE ?_
 refine tr1 rfl (aD (v := .d (.lit (.int .i64 i_0_1))) (aA rfl) rfl rfl) ?_
 refine tr1 rfl (aD (v := .d (.sl 3 (l_0.map aI))) (aA rfl) rfl rfl) ?_
 refine tr1 rfl (dX (aA rfl) rfl fH.of) ?_
 refine tr1 rfl (bC (aA rfl) rfl rfl rfl) ?_
 refine aF ?_
 refine bJ rfl (fun c3 => ?_) (fun c3 => ?_)
 ·have h := aS c3 h
  refine bI ?_
  refine aG ?_
  refine bQ ?_
  refine aG ?_
  obtain ⟨x4, h5, h⟩ := bind_some h
  obtain ⟨b6, h7, h⟩ := bind_some h
  refine gO mix 21 [0, 1, 2, 7] [(34, .d (.lit (.bool b6)))] ?_ ?_
  ·refine bG (decide (x4.Player = player_1)) (fun c8 => ?_) (fun c8 => ?_)
   ·have h7 := aS c8 h7
    obtain ⟨x9, h10, h7⟩ := bind_some h7
    obtain ⟨x11, h12, h7⟩ := bind_some h7
    obtain ⟨r13, h14, h7⟩ := bind_some h7
    have h7 := Option.some.inj h7
    subst h7
    refine ⟨[(14, 0, .d (.sl 3 (l_0.map aI))), (15, 1, .d (.lit (.int .i64 i_0_1))), (16, 2, .cp [.lit (.int .i64 x4.Player), .lit (.int .i64 x4.From), .lit (.int .i64 x4.To)]), (17, 3, .cp [.lit (.int .i64 x4.Player)]), (18, 4, .d (.lit (.int .i64 x4.Player))), (19, 5, .d (.lit (.int .i64 player_1))), (20, 6, .d (.lit (.bool ((decide (x4.Player = player_1)))))), (21, 7, .d (.lit (.bool ((decide (x4.Player = player_1)))))), (22, 8, .d (.lit (.int .i64 week_2))), (23, 9, .d (.sl 3 (l_0.map aI))), (24, 10, .d (.lit (.int .i64 i_0_1))), (25, 11, .cp [.lit (.int .i64 x9.Player), .lit (.int .i64 x9.From), .lit (.int .i64 x9.To)]), (26, 12, .cp [.lit (.int .i64 x9.From)]), (27, 13, .d (.lit (.int .i64 x9.From))), (28, 14, .d (.sl 3 (l_0.map aI))), (29, 15, .d (.lit (.int .i64 i_0_1))), (30, 16, .cp [.lit (.int .i64 x11.Player), .lit (.int .i64 x11.From), .lit (.int .i64 x11.To)]), (31, 17, .cp [.lit (.int .i64 x11.To)]), (32, 18, .d (.lit (.int .i64 x11.To))), (33, 19, .d (.lit (.bool r13))), (34, 20, .d (.lit (.bool r13)))], ?_, ?_⟩
    · exact ⟨by kernel_rfl, by kernel_rfl, by kernel_rfl, by kernel_rfl, by kernel_rfl, [([], []), ([], []), ([0, 1], []), ([2], []), ([3], []), ([], []), ([4, 5], []), ([6], []), ([7], []), ([7], []), ([7], []), ([7, 9, 10], []), ([7, 11], []), ([7, 12], []), ([7], []), ([7], []), ([7, 14, 15], []), ([7, 16], []), ([7, 17], []), ([7, 8, 13, 18], []), ([7, 19], [])], by kernel_rfl, ⟨fun S hS => aK rfl (aP rfl (aD (v := .d (.sl 3 (l_0.map aI))) (aA rfl) (aH hS rfl) rfl)),
      fun S hS => aK rfl (aP rfl (aD (v := .d (.lit (.int .i64 i_0_1))) (aA rfl) (aH hS rfl) rfl)),
      fun S hS => aK rfl (aP rfl (cE (aA rfl) (aH hS rfl) (aH hS rfl) fH.of (bP aI h5))),
      fun S hS => aK rfl (aP rfl (cP (aA rfl) (aH hS rfl) kI (es := [.lit (.int .i64 x4.Player)]) rfl)),
      fun S hS => aK rfl (aP rfl (cL (aA rfl) (aH hS rfl) bF)),
      fun S hS => aK rfl (aP rfl (aD (v := .d (.lit (.int .i64 player_1))) (aA rfl) (aH hS rfl) rfl)),
      fun S hS => aK rfl (aP rfl (bC (aA rfl) (aH hS rfl) (aH hS rfl) rfl)),
      fun S hS => aK rfl (aP rfl (aD (v := .d (.lit (.bool ((decide (x4.Player = player_1)))))) (aA rfl) (aH hS rfl) rfl)),
      fun S hS => aK rfl (bH rfl rfl (aA rfl) (aU hS rfl) c8 (aD (v := .d (.lit (.int .i64 week_2))) (aA rfl) (aH hS rfl) rfl)),
      fun S hS => aK rfl (bH rfl rfl (aA rfl) (aU hS rfl) c8 (aD (v := .d (.sl 3 (l_0.map aI))) (aA rfl) (aH hS rfl) rfl)),
      fun S hS => aK rfl (bH rfl rfl (aA rfl) (aU hS rfl) c8 (aD (v := .d (.lit (.int .i64 i_0_1))) (aA rfl) (aH hS rfl) rfl)),
      fun S hS => aK rfl (bH rfl rfl (aA rfl) (aU hS rfl) c8 (cE (aA rfl) (aH hS rfl) (aH hS rfl) fH.of (bP aI h10))),
      fun S hS => aK rfl (bH rfl rfl (aA rfl) (aU hS rfl) c8 (cP (aA rfl) (aH hS rfl) jK (es := [.lit (.int .i64 x9.From)]) rfl)),
      fun S hS => aK rfl (bH rfl rfl (aA rfl) (aU hS rfl) c8 (cL (aA rfl) (aH hS rfl) bF)),
      fun S hS => aK rfl (bH rfl rfl (aA rfl) (aU hS rfl) c8 (aD (v := .d (.sl 3 (l_0.map aI))) (aA rfl) (aH hS rfl) rfl)),
      fun S hS => aK rfl (bH rfl rfl (aA rfl) (aU hS rfl) c8 (aD (v := .d (.lit (.int .i64 i_0_1))) (aA rfl) (aH hS rfl) rfl)),
      fun S hS => aK rfl (bH rfl rfl (aA rfl) (aU hS rfl) c8 (cE (aA rfl) (aH hS rfl) (aH hS rfl) fH.of (bP aI h12))),
      fun S hS => aK rfl (bH rfl rfl (aA rfl) (aU hS rfl) c8 (cP (aA rfl) (aH hS rfl) lB (es := [.lit (.int .i64 x11.To)]) rfl)),
      fun S hS => aK rfl (bH rfl rfl (aA rfl) (aU hS rfl) c8 (cL (aA rfl) (aH hS rfl) bF)),
      fun S hS => aK rfl (bH rfl rfl (aA rfl) (aU hS rfl) c8 (bZ (aA rfl) (.func _ _ Try.call58) (ev2 (aH hS rfl) (ev2 (aH hS rfl) (ev2 (aH hS rfl) evn))) rfl (BVs.refl _ _) (eH _ _ _ h14) rfl)),
      fun S hS => aK rfl (aP rfl (bO (v := .d (.lit (.bool r13))) (aA rfl) (aH hS rfl) c8 (aH hS rfl) rfl)), trivial⟩⟩
    · exact eE (aN rfl (aX ⟨rfl, rfl, rfl, rfl, trivial⟩))
   ·have h7 := aR c8 h7
    have h7 := Option.some.inj h7
    subst h7
    refine ⟨[(14, 0, .d (.sl 3 (l_0.map aI))), (15, 1, .d (.lit (.int .i64 i_0_1))), (16, 2, .cp [.lit (.int .i64 x4.Player), .lit (.int .i64 x4.From), .lit (.int .i64 x4.To)]), (17, 3, .cp [.lit (.int .i64 x4.Player)]), (18, 4, .d (.lit (.int .i64 x4.Player))), (19, 5, .d (.lit (.int .i64 player_1))), (20, 6, .d (.lit (.bool ((decide (x4.Player = player_1)))))), (21, 7, .d (.lit (.bool ((decide (x4.Player = player_1)))))), (22, 8, .tup []), (23, 9, .tup []), (24, 10, .tup []), (25, 11, .tup []), (26, 12, .tup []), (27, 13, .tup []), (28, 14, .tup []), (29, 15, .tup []), (30, 16, .tup []), (31, 17, .tup []), (32, 18, .tup []), (33, 19, .tup []), (34, 20, .d (.lit (.bool false)))], ?_, ?_⟩
    · exact ⟨by kernel_rfl, by kernel_rfl, by kernel_rfl, by kernel_rfl, by kernel_rfl, [([], []), ([], []), ([0, 1], []), ([2], []), ([3], []), ([], []), ([4, 5], []), ([6], []), ([7], []), ([7], []), ([7], []), ([7, 9, 10], []), ([7, 11], []), ([7, 12], []), ([7], []), ([7], []), ([7, 14, 15], []), ([7, 16], []), ([7, 17], []), ([7, 8, 13, 18], []), ([7, 19], [])], by kernel_rfl, ⟨fun S hS => aK rfl (aP rfl (aD (v := .d (.sl 3 (l_0.map aI))) (aA rfl) (aH hS rfl) rfl)),
      fun S hS => aK rfl (aP rfl (aD (v := .d (.lit (.int .i64 i_0_1))) (aA rfl) (aH hS rfl) rfl)),
      fun S hS => aK rfl (aP rfl (cE (aA rfl) (aH hS rfl) (aH hS rfl) fH.of (bP aI h5))),
      fun S hS => aK rfl (aP rfl (cP (aA rfl) (aH hS rfl) kI (es := [.lit (.int .i64 x4.Player)]) rfl)),
      fun S hS => aK rfl (aP rfl (cL (aA rfl) (aH hS rfl) bF)),
      fun S hS => aK rfl (aP rfl (aD (v := .d (.lit (.int .i64 player_1))) (aA rfl) (aH hS rfl) rfl)),
      fun S hS => aK rfl (aP rfl (bC (aA rfl) (aH hS rfl) (aH hS rfl) rfl)),
      fun S hS => aK rfl (aP rfl (aD (v := .d (.lit (.bool ((decide (x4.Player = player_1)))))) (aA rfl) (aH hS rfl) rfl)),
      fun S hS => aK rfl (bD rfl rfl (aA rfl) rfl (aA rfl) (aU hS rfl) c8),
      fun S hS => aK rfl (bD rfl rfl (aA rfl) rfl (aA rfl) (aU hS rfl) c8),
      fun S hS => aK rfl (bD rfl rfl (aA rfl) rfl (aA rfl) (aU hS rfl) c8),
      fun S hS => aK rfl (bD rfl rfl (aA rfl) rfl (aA rfl) (aU hS rfl) c8),
      fun S hS => aK rfl (bD rfl rfl (aA rfl) rfl (aA rfl) (aU hS rfl) c8),
      fun S hS => aK rfl (bD rfl rfl (aA rfl) rfl (aA rfl) (aU hS rfl) c8),
      fun S hS => aK rfl (bD rfl rfl (aA rfl) rfl (aA rfl) (aU hS rfl) c8),
      fun S hS => aK rfl (bD rfl rfl (aA rfl) rfl (aA rfl) (aU hS rfl) c8),
      fun S hS => aK rfl (bD rfl rfl (aA rfl) rfl (aA rfl) (aU hS rfl) c8),
      fun S hS => aK rfl (bD rfl rfl (aA rfl) rfl (aA rfl) (aU hS rfl) c8),
      fun S hS => aK rfl (bD rfl rfl (aA rfl) rfl (aA rfl) (aU hS rfl) c8),
      fun S hS => aK rfl (bD rfl rfl (aA rfl) rfl (aA rfl) (aU hS rfl) c8),
      fun S hS => aK rfl (aP rfl (bN (v := .d (.lit (.bool false))) (aA rfl) (aH hS rfl) c8 rfl rfl)), trivial⟩⟩
    · exact eE (aN rfl (aX ⟨rfl, rfl, rfl, rfl, trivial⟩))
  ·refine aF ?_
   refine bJ rfl (fun c15 => ?_) (fun c15 => ?_)
   ·have h := aS c15 h
    refine aG ?_
    refine aE ?_
    refine tr1 rfl (aJ (v := .d (.lit (.bool true))) (aA rfl) rfl rfl) ?_
    refine aF ?_
    have h := Option.some.inj h
    subst h
    exact bM ⟨rfl, _, .one _, rfl, rfl⟩
   ·have h := aR c15 h
    refine eJ ?_
    refine aE ?_
    refine tr1 rfl (aD (v := .d (.lit (.int .i64 i_0_1))) (aA rfl) rfl rfl) ?_
    refine tr1 rfl (aZ (aA rfl) rfl rfl rfl) ?_
    refine tr1 rfl (aJ (v := .d (.lit (.int .i64 ((w64 (i_0_1 + 1)))))) (aA rfl) rfl rfl) ?_
    refine aF ?_
    exact ⟨(w64 (i_0_1 + 1)), h, aW [] rfl rfl (aN rfl (aX ⟨rfl, rfl, rfl, trivial⟩))⟩
 ·have h := aR c3 h
  refine cU ?_
  refine .inl ⟨rfl, ?_⟩
  simp only [oK] at h
  refine aG ?_
  refine aE ?_
  refine tr1 rfl (aJ (v := .d (.lit (.bool false))) (aA rfl) rfl rfl) ?_
  refine aF ?_
  have h := Option.some.inj h
  subst h
  exact bM ⟨rfl, _, .one _, rfl, rfl⟩

theorem wT (l_0 : aM) (player_1 : Int) (week_2 : Int) {r : Bool} (h : kE l_0 player_1 week_2 = some r) : Fn Try.prog 20 [.agg (aV l_0), .d (.lit (.int .i64 player_1)), .d (.lit (.int .i64 week_2))] (.d (.lit (.bool r))) := by
 unfold kE at h
 refine Fn.of_tr Try.func20 rfl (rs := [.tmp 6]) Try.results20 Try.ntmps20 (Nat.le_of_ble_eq_true rfl) ?_
 refine aG ?_
 refine aE ?_
 refine bR rfl (fJ (v := .agg (aV l_0)) (aA rfl) rfl rfl rfl) ?_
 rintro _ ⟨b1, rfl⟩
 refine tr1 rfl (aJ (v := .d (.lit (.bool false))) (aA rfl) rfl rfl) ?_
 refine aF ?_
 refine aG ?_
 refine aE ?_
 refine tr1 rfl (dE (aA rfl) rfl (i := 0) rfl gJ (es := (aV l_0)) rfl rfl) ?_
 obtain ⟨r2, h3, h⟩ := bind_some h
 refine tr1 rfl (bZ (aA rfl) (.func _ _ Try.call13) rfl rfl (BVs.refl _ _) (yM _ h3) rfl) ?_
 refine tr1 rfl (eZ (aA rfl) rfl) ?_
 refine tr1 rfl (aD (v := .d (.lit (.bool (!r2)))) (aA rfl) rfl rfl) ?_
 obtain ⟨b4, h5, h⟩ := bind_some h
 refine bW 4 [1, 2, 3] 14 b4 ?_ ?_
 ·refine bG (!r2) (fun c18 => ?_) (fun c18 => ?_)
  ·have h5 := aS c18 h5
   refine aL rfl rfl (aA rfl) rfl c18 (dE (aA rfl) rfl (i := 0) rfl gJ (es := (aV l_0)) rfl rfl) ?_
   obtain ⟨r19, h20, h5⟩ := bind_some h5
   refine aL rfl rfl (aA rfl) rfl c18 (bZ (aA rfl) (.func _ _ Try.call15) rfl rfl (BVs.refl _ _) (sH _ h20) rfl) ?_
   refine aL rfl rfl (aA rfl) rfl c18 (bC (aA rfl) rfl rfl rfl) ?_
   refine tr1 rfl (bO (v := .d (.lit (.bool ((decide (r19 = 0)))))) (aA rfl) rfl c18 rfl rfl) ?_
   have h5 := Option.some.inj h5
   subst h5
   refine aF (aY rfl ⟨rfl, rfl, rfl, trivial⟩ rfl)
  ·have h5 := aR c18 h5
   refine aO rfl rfl (aA rfl) rfl (aA rfl) rfl c18 ?_
   refine aO rfl rfl (aA rfl) rfl (aA rfl) rfl c18 ?_
   refine aO rfl rfl (aA rfl) rfl (aA rfl) rfl c18 ?_
   refine tr1 rfl (bN (v := .d (.lit (.bool false))) (aA rfl) rfl c18 rfl rfl) ?_
   have h5 := Option.some.inj h5
   subst h5
   refine aF (aY rfl ⟨rfl, rfl, rfl, trivial⟩ rfl)
 ·refine tr1 rfl (aD (v := .d (.lit (.bool b4))) (aA rfl) rfl rfl) ?_
  obtain ⟨b6, h7, h⟩ := bind_some h
  refine bW 3 [1, 2, 3] 18 b6 ?_ ?_
  ·refine bG (b4) (fun c17 => ?_) (fun c17 => ?_)
   ·have h7 := aS c17 h7
    refine aL rfl rfl (aA rfl) rfl c17 (aD (v := .d (.lit (.int .i64 player_1))) (aA rfl) rfl rfl) ?_
    refine aL rfl rfl (aA rfl) rfl c17 (bC (aA rfl) rfl rfl rfl) ?_
    refine tr1 rfl (bO (v := .d (.lit (.bool ((decide (0 ≤ player_1)))))) (aA rfl) rfl c17 rfl rfl) ?_
    have h7 := Option.some.inj h7
    subst h7
    refine aF (aY rfl ⟨rfl, rfl, rfl, trivial⟩ rfl)
   ·have h7 := aR c17 h7
    refine aO rfl rfl (aA rfl) rfl (aA rfl) rfl c17 ?_
    refine aO rfl rfl (aA rfl) rfl (aA rfl) rfl c17 ?_
    refine tr1 rfl (bN (v := .d (.lit (.bool false))) (aA rfl) rfl c17 rfl rfl) ?_
    have h7 := Option.some.inj h7
    subst h7
    refine aF (aY rfl ⟨rfl, rfl, rfl, trivial⟩ rfl)
  ·refine tr1 rfl (aD (v := .d (.lit (.bool b6))) (aA rfl) rfl rfl) ?_
   obtain ⟨b8, h9, h⟩ := bind_some h
   refine bW 5 [2] 24 b8 ?_ ?_
   ·refine bG (b6) (fun c16 => ?_) (fun c16 => ?_)
    ·have h9 := aS c16 h9
     refine aL rfl rfl (aA rfl) rfl c16 (aD (v := .d (.lit (.int .i64 player_1))) (aA rfl) rfl rfl) ?_
     refine aL rfl rfl (aA rfl) rfl c16 (aQ (aA rfl) rfl jJ) ?_
     refine aL rfl rfl (aA rfl) rfl c16 (aT (aA rfl) rfl (i := 0) rfl rfl bF) ?_
     refine aL rfl rfl (aA rfl) rfl c16 (bC (aA rfl) rfl rfl rfl) ?_
     refine tr1 rfl (bO (v := .d (.lit (.bool ((decide (player_1 < l_0.Players)))))) (aA rfl) rfl c16 rfl rfl) ?_
     have h9 := Option.some.inj h9
     subst h9
     refine aF (aY rfl ⟨rfl, trivial⟩ rfl)
    ·have h9 := aR c16 h9
     refine aO rfl rfl (aA rfl) rfl (aA rfl) rfl c16 ?_
     refine aO rfl rfl (aA rfl) rfl (aA rfl) rfl c16 ?_
     refine aO rfl rfl (aA rfl) rfl (aA rfl) rfl c16 ?_
     refine aO rfl rfl (aA rfl) rfl (aA rfl) rfl c16 ?_
     refine tr1 rfl (bN (v := .d (.lit (.bool false))) (aA rfl) rfl c16 rfl rfl) ?_
     have h9 := Option.some.inj h9
     subst h9
     refine aF (aY rfl ⟨rfl, trivial⟩ rfl)
   ·refine tr1 rfl (aD (v := .d (.lit (.bool b8))) (aA rfl) rfl rfl) ?_
    obtain ⟨b10, h11, h⟩ := bind_some h
    refine bW 3 [2] 28 b10 ?_ ?_
    ·refine bG (b8) (fun c15 => ?_) (fun c15 => ?_)
     ·have h11 := aS c15 h11
      refine aL rfl rfl (aA rfl) rfl c15 (aD (v := .d (.lit (.int .i64 week_2))) (aA rfl) rfl rfl) ?_
      refine aL rfl rfl (aA rfl) rfl c15 (bC (aA rfl) rfl rfl rfl) ?_
      refine tr1 rfl (bO (v := .d (.lit (.bool ((decide (0 ≤ week_2)))))) (aA rfl) rfl c15 rfl rfl) ?_
      have h11 := Option.some.inj h11
      subst h11
      refine aF (aY rfl ⟨rfl, trivial⟩ rfl)
     ·have h11 := aR c15 h11
      refine aO rfl rfl (aA rfl) rfl (aA rfl) rfl c15 ?_
      refine aO rfl rfl (aA rfl) rfl (aA rfl) rfl c15 ?_
      refine tr1 rfl (bN (v := .d (.lit (.bool false))) (aA rfl) rfl c15 rfl rfl) ?_
      have h11 := Option.some.inj h11
      subst h11
      refine aF (aY rfl ⟨rfl, trivial⟩ rfl)
    ·refine tr1 rfl (aD (v := .d (.lit (.bool b10))) (aA rfl) rfl rfl) ?_
     obtain ⟨b12, h13, h⟩ := bind_some h
     refine bW 3 [] 32 b12 ?_ ?_
     ·refine bG (b10) (fun c14 => ?_) (fun c14 => ?_)
      ·have h13 := aS c14 h13
       refine aL rfl rfl (aA rfl) rfl c14 (aD (v := .d (.lit (.int .i64 week_2))) (aA rfl) rfl rfl) ?_
       refine aL rfl rfl (aA rfl) rfl c14 (bC (aA rfl) rfl rfl rfl) ?_
       refine tr1 rfl (bO (v := .d (.lit (.bool ((decide (week_2 ≤ 250)))))) (aA rfl) rfl c14 rfl rfl) ?_
       have h13 := Option.some.inj h13
       subst h13
       refine aF (aY rfl trivial rfl)
      ·have h13 := aR c14 h13
       refine aO rfl rfl (aA rfl) rfl (aA rfl) rfl c14 ?_
       refine aO rfl rfl (aA rfl) rfl (aA rfl) rfl c14 ?_
       refine tr1 rfl (bN (v := .d (.lit (.bool false))) (aA rfl) rfl c14 rfl rfl) ?_
       have h13 := Option.some.inj h13
       subst h13
       refine aF (aY rfl trivial rfl)
     ·refine tr1 rfl (aJ (v := .d (.lit (.bool b12))) (aA rfl) rfl rfl) ?_
      refine aF ?_
      have h := Option.some.inj h
      subst h
      refine cQ (cG (cK (l := [6]) ⟨rfl, trivial⟩)) ?_
      exact bM ⟨rfl, _, .one _, rfl, rfl⟩

theorem xZ (x : List Int) {r : List Int} {x_v : Value} {e : TypeId} (h : slices_Sort_int x = some r) : fM Try.prog 73 [.d (.lit x_v)] [.arr x_v e 1 (x.map cC)] (fun r' o' => r' = .tup [] ∧ o' = [.arr x_v e 1 (r.map cC)]) := by
 unfold slices_Sort_int at h
 split at h
 ·cases h
  exact aEm (fun blk off cap zs w => Try.slices_Sort_int blk off cap zs w) (fun q cap w => Try.slices_Sort_int_none q cap w) (by assumption)
 ·cases h

theorem aCh (l_0 : aM) (player_1 : Int) (week_2 : Int) {r : (List Int) × Int} (h : oY l_0 player_1 week_2 = some r) : Fn Try.prog 38 [.agg (aV l_0), .d (.lit (.int .i64 player_1)), .d (.lit (.int .i64 week_2))] (.tup [.d (.sl 1 (r.1.map cC)), .d (.lit (.int .i64 r.2))]) := by
 unfold oY at h
 refine Fn.of_tr Try.func38 rfl (rs := [.tmp 6, .tmp 7]) Try.results38 Try.ntmps38 (Nat.le_of_ble_eq_true rfl) ?_
 refine aG ?_
 refine aE ?_
 refine bR rfl (fJ (v := .agg (aV l_0)) (aA rfl) rfl rfl rfl) ?_
 rintro _ ⟨b1, rfl⟩
 refine tr1 rfl (sF 1 (aA rfl)) ?_
 refine tr1 rfl (aJ (v := .d (.lit (.int .i64 0))) (aA rfl) rfl rfl) ?_
 refine aF ?_
 refine aG ?_
 refine aE ?_
 refine tr1 rfl (dE (aA rfl) rfl (i := 0) rfl gJ (es := (aV l_0)) rfl rfl) ?_
 refine tr1 rfl (aD (v := .d (.lit (.int .i64 player_1))) (aA rfl) rfl rfl) ?_
 refine tr1 rfl (aD (v := .d (.lit (.int .i64 week_2))) (aA rfl) rfl rfl) ?_
 obtain ⟨r2, h3, h⟩ := bind_some h
 refine bR rfl (dM (passed := []) (aA rfl) rfl (.func _ _ Try.call44) rfl rfl (qY _ _ _ h3)) ?_
 rintro _ ⟨_, _, ⟨b5, w6, rfl, rfl⟩, rfl⟩
 obtain ⟨_ | y4, e7⟩ := r2
 ·have h := vE h
  refine fK (aW [0] rfl rfl (le_refl _)) ?_
  refine tr1 rfl (aD (v := .tup [.d (.lit (.pointer none)), .d (.lit (.int .i64 e7))]) (aA rfl) rfl rfl) ?_
  refine tr1 rfl (cV (aA rfl) rfl rfl) ?_
  refine tr1 rfl (cV (aA rfl) rfl rfl) ?_
  refine tr1 rfl (aJ (v := .d (.lit (.pointer none))) (aA rfl) rfl rfl) ?_
  refine tr1 rfl (aJ (v := .d (.lit (.int .i64 e7))) (aA rfl) rfl rfl) ?_
  refine aF ?_
  refine aG ?_
  refine aG ?_
  refine aE ?_
  refine tr1 rfl (aD (v := .d (.lit (.int .i64 e7))) (aA rfl) rfl rfl) ?_
  refine tr1 rfl (bC (aA rfl) rfl rfl rfl) ?_
  refine aF ?_
  refine bJ rfl (fun c8 => ?_) (fun c8 => ?_)
  ·have h := aS c8 h
   refine aG ?_
   refine aE ?_
   refine tr1 rfl (aD (v := .d (.lit (.int .i64 e7))) (aA rfl) rfl rfl) ?_
   refine tr1 rfl (sF 1 (aA rfl)) ?_
   refine tr1 rfl (aJ (v := .d (.lit (.int .i64 e7))) (aA rfl) rfl rfl) ?_
   refine aF ?_
   have h := Option.some.inj h
   subst h
   refine cQ (cG (cK (l := [6, 7]) ⟨rfl, rfl, trivial⟩)) ?_
   exact bM ⟨rfl, _, .two _ _, rfl, rfl⟩
  ·have h := aR c8 h
   refine bI ?_
   refine aG ?_
   refine aE ?_
   refine tr1 rfl (iY 3 1 (.inl rfl) (aA rfl)) ?_
   refine aF ?_
   refine aG ?_
   refine aG ?_
   refine aE ?_
   refine tr1 rfl (aD (v := .d (.lit (.pointer none))) (aA rfl) rfl rfl) ?_
   refine tr1 rfl (aD (v := .d (.lit (.pointer none))) (aA rfl) rfl rfl) ?_
   refine tr1 rfl (aD (v := .d (.lit (.int .i64 player_1))) (aA rfl) rfl rfl) ?_
   refine tr1 rfl (aD (v := .d (.lit (.int .i64 week_2))) (aA rfl) rfl rfl) ?_
   cases h
 ·have h := vF h
  refine fK (aW [0, 1, 2] rfl rfl (le_refl _)) ?_
  refine tr1 rfl (aD (v := .tup [.bp b5 0 0, .d (.lit (.int .i64 e7))]) (aA rfl) rfl rfl) ?_
  refine tr1 rfl (cV (aA rfl) rfl rfl) ?_
  refine tr1 rfl (cV (aA rfl) rfl rfl) ?_
  refine tr1 rfl (aJ (v := .bp b5 0 0) (aA rfl) rfl rfl) ?_
  refine tr1 rfl (aJ (v := .d (.lit (.int .i64 e7))) (aA rfl) rfl rfl) ?_
  refine aF ?_
  refine aG ?_
  refine aG ?_
  refine aE ?_
  refine tr1 rfl (aD (v := .d (.lit (.int .i64 e7))) (aA rfl) rfl rfl) ?_
  refine tr1 rfl (bC (aA rfl) rfl rfl rfl) ?_
  refine aF ?_
  refine bJ rfl (fun c10 => ?_) (fun c10 => ?_)
  ·have h := aS c10 h
   refine aG ?_
   refine aE ?_
   refine tr1 rfl (aD (v := .d (.lit (.int .i64 e7))) (aA rfl) rfl rfl) ?_
   refine tr1 rfl (sF 1 (aA rfl)) ?_
   refine tr1 rfl (aJ (v := .d (.lit (.int .i64 e7))) (aA rfl) rfl rfl) ?_
   refine aF ?_
   have h := Option.some.inj h
   subst h
   refine cQ (cG (cK (l := [6, 7]) ⟨rfl, rfl, trivial⟩)) ?_
   exact bM ⟨rfl, _, .two _ _, rfl, rfl⟩
  ·have h := aR c10 h
   refine bI ?_
   refine aG ?_
   refine aE ?_
   refine tr1 rfl (iY 3 1 (.inl rfl) (aA rfl)) ?_
   refine aF ?_
   refine aG ?_
   refine aG ?_
   refine aE ?_
   refine tr1 rfl (aD (v := .bp b5 0 0) (aA rfl) rfl rfl) ?_
   refine tr1 rfl (aD (v := .bp b5 0 0) (aA rfl) rfl rfl) ?_
   refine tr1 rfl (aD (v := .d (.lit (.int .i64 player_1))) (aA rfl) rfl rfl) ?_
   refine tr1 rfl (aD (v := .d (.lit (.int .i64 week_2))) (aA rfl) rfl rfl) ?_
   refine fK (aW [2, 3, 0, 1] rfl rfl (le_refl _)) ?_
   apply aAe [.box b1 0 (aV l_0), .arr (.slice none 0 0) 3 1 (([] : List Int).map cC)] [.box b5 0 [.lit (.int .i64 y4.Ledger.Players), .lit (.int .i64 y4.Ledger.Counts), .lit w6, .sl 3 (y4.Ledger.Bans.map aI), .sl 3 (y4.Ledger.Frozen.map aI)], .arr w6 42 5 (y4.Ledger.Reports.map aC)] rfl
   exact fW (k := 24) (v := .cp [.lit (.int .i64 y4.Ledger.Players), .lit (.int .i64 y4.Ledger.Counts), .sl 5 (y4.Ledger.Reports.map aC), .sl 3 (y4.Ledger.Bans.map aI), .sl 3 (y4.Ledger.Frozen.map aI)]) ((lX 0 rfl rfl (dvc (.same _) (dvc (.same _) (dvc (iB 1 rfl (dD (f := aC) fun _ => rfl)) (dvc (.same _) (dvc (.same _) dvn))))))) (fW (k := 23) (v := .cp [.lit (.int .i64 y4.Ledger.Players), .lit (.int .i64 y4.Ledger.Counts), .sl 5 (y4.Ledger.Reports.map aC), .sl 3 (y4.Ledger.Bans.map aI), .sl 3 (y4.Ledger.Frozen.map aI)]) ((lX 0 rfl rfl (dvc (.same _) (dvc (.same _) (dvc (iB 1 rfl (dD (f := aC) fun _ => rfl)) (dvc (.same _) (dvc (.same _) dvn))))))) (fW (k := 18) (v := .cp [.lit (.int .i64 y4.Ledger.Players), .lit (.int .i64 y4.Ledger.Counts), .sl 5 (y4.Ledger.Reports.map aC), .sl 3 (y4.Ledger.Bans.map aI), .sl 3 (y4.Ledger.Frozen.map aI)]) ((lX 0 rfl rfl (dvc (.same _) (dvc (.same _) (dvc (iB 1 rfl (dD (f := aC) fun _ => rfl)) (dvc (.same _) (dvc (.same _) dvn))))))) (fW (k := 17) (v := .any) (.any _) (fW (k := 13) (v := .any) (.any _) (fW (k := 8) (v := .cp [.lit (.int .i64 y4.Ledger.Players), .lit (.int .i64 y4.Ledger.Counts), .sl 5 (y4.Ledger.Reports.map aC), .sl 3 (y4.Ledger.Bans.map aI), .sl 3 (y4.Ledger.Frozen.map aI)]) ((lX 0 rfl rfl (dvc (.same _) (dvc (.same _) (dvc (iB 1 rfl (dD (f := aC) fun _ => rfl)) (dvc (.same _) (dvc (.same _) dvn))))))) (rP _ _))))))
   obtain ⟨r12, h13, h⟩ := bind_some h
   refine tr1 rfl (lO (aA rfl) (.func _ _ Try.call72) rfl rfl (pH _ _ _ h13)) ?_
   obtain ⟨r14, h15, h⟩ := bind_some h
   refine tr1 rfl (lO (aA rfl) (.func _ _ Try.call71) rfl rfl (pJ _ _ h15)) ?_
   refine tr1 rfl (dX (aA rfl) rfl bY.of) ?_
   refine tr1 rfl (aD (v := .d (.lit (.int .i64 0))) (aA rfl) rfl rfl) ?_
   refine aF ?_
   refine bQ ?_
   refine cM [28, 29] (fun (s16 : Int × (List Int) × Value) => [(10, .d (.lit s16.2.2)), (30, .d (.lit (.int .i64 s16.1)))]) (fun (s16 : Int × (List Int) × Value) => [.arr s16.2.2 3 1 (s16.2.1.map cC)]) (fun (k : Nat) (s16 : Int × (List Int) × Value) => lC r14 (r14.length : Int) k s16.1 s16.2.1) (fun _ => rfl) (0, ([] : List Int), (.slice none 0 0)) h (aW [1] rfl rfl (aN rfl (aN rfl (aX ⟨rfl, rfl, trivial⟩)))) ?_
   rintro k18 ⟨t30_0_16, out_0_16, w17⟩ h
   simp only [lC] at h
   refine aG ?_
   refine aE ?_
   refine tr1 rfl (bC (aA rfl) rfl rfl rfl) ?_
   refine aF ?_
   refine aG ?_
   refine bJ rfl (fun c19 => ?_) (fun c19 => ?_)
   ·have h := aS c19 h
    refine bI ?_
    refine aG ?_
    refine bQ ?_
    refine aG ?_
    refine aE ?_
    obtain ⟨x20, h21, h⟩ := bind_some h
    refine tr1 rfl (cE (aA rfl) rfl rfl bY.of (bP aC h21)) ?_
    refine tr1 rfl (gN (aA rfl) rfl dY (es := (aC x20)) rfl rfl) ?_
    refine bR rfl (fY (zs := [.lit (.int .i64 0), .lit (.int .i64 0), .lit (.int .i64 0), .lit (.int .i64 0), .lit (.bool false)]) (aA rfl) Try.zeroValue42 rfl rfl) ?_
    rintro _ ⟨b22, rfl⟩
    refine tr1 rfl (cA (i := 1) rfl rfl rfl rfl rfl Try.sizeOf42 rfl (aA rfl) (Nat.le_of_ble_eq_true rfl) (ds' := (aC x20)) rfl) ?_
    refine aF ?_
    refine aE ?_
    refine tr1 rfl (aD (v := .d (.lit w17)) (aA rfl) rfl rfl) ?_
    refine tr1 rfl (aQ (aA rfl) rfl iP) ?_
    refine tr1 rfl (aT (aA rfl) rfl (i := 1) rfl rfl bF) ?_
    refine tr1 rfl (jP (aA rfl) eO rfl rfl (rows := ([x20.Id]).map cC) rfl (dD (f := cC) fun _ => rfl) rfl (by decide)) ?_
    obtain ⟨x23, h24, h⟩ := bind_some h
    refine bR rfl (oO (i := 0) (aA rfl) eO rfl rfl rfl (fun _ => rfl) h24 rfl) ?_
    rintro _ ⟨v25, rfl⟩
    refine tr1 rfl (aJ (v := .d (.lit v25)) (aA rfl) rfl rfl) ?_
    refine eB ?_
    refine aE ?_
    refine tr1 rfl (aZ (aA rfl) rfl rfl rfl) ?_
    refine tr1 rfl (aD (v := .d (.lit (.int .i64 ((w64 (t30_0_16 + 1)))))) (aA rfl) rfl rfl) ?_
    refine aF ?_
    exact ⟨(w64 (t30_0_16 + 1), x23, v25), h, aW [0] rfl rfl (aN rfl (aN rfl (aX ⟨rfl, rfl, trivial⟩)))⟩
   ·have h := aR c19 h
    refine cU ?_
    refine .inl ⟨rfl, ?_⟩
    simp only [qA] at h
    refine aG ?_
    refine aE ?_
    refine tr1 rfl (aD (v := .d (.lit w17)) (aA rfl) rfl rfl) ?_
    obtain ⟨r26, h27, h⟩ := bind_some h
    refine bR rfl (dM (passed := [.arr w17 3 1 (out_0_16.map cC)]) (aA rfl) rfl (.func _ _ Try.call73) rfl rfl (xZ out_0_16 h27)) ?_
    rintro _ ⟨_, _, ⟨rfl, rfl⟩, rfl⟩
    refine aF ?_
    refine aG ?_
    refine aE ?_
    refine tr1 rfl (aD (v := .d (.lit w17)) (aA rfl) rfl rfl) ?_
    refine tr1 rfl (aJ (v := .d (.lit w17)) (aA rfl) rfl rfl) ?_
    refine tr1 rfl (aJ (v := .d (.lit (.int .i64 0))) (aA rfl) rfl rfl) ?_
    refine aF ?_
    have h := Option.some.inj h
    subst h
    refine cQ (cG (fW (k := 7) (v := .d (.lit (.int .i64 0))) (.same _) (fW (k := 6) (v := .d (.sl 1 (r26.map cC))) (.d (iB 0 rfl (dD (f := cC) fun _ => rfl))) (xR)))) ?_
    exact bM ⟨rfl, _, .two _ _, rfl, rfl⟩

theorem aCe (r_0 : aB) (c_1 : Int) {r : Bool} (h : nJ r_0 c_1 = some r) : Fn Try.prog 76 [.agg (aC r_0), .cp [.lit (.int .i64 c_1)]] (.d (.lit (.bool r))) := by
 unfold nJ at h
 refine Fn.of_tr Try.func76 rfl (rs := [.tmp 3]) Try.results76 Try.ntmps76 (Nat.le_of_ble_eq_true rfl) ?_
 refine aG ?_
 refine aE ?_
 refine bR rfl (fJ (v := .agg (aC r_0)) (aA rfl) rfl rfl rfl) ?_
 rintro _ ⟨b1, rfl⟩
 refine tr1 rfl (aJ (v := .d (.lit (.bool false))) (aA rfl) rfl rfl) ?_
 refine aF ?_
 refine aG ?_
 refine aE ?_
 refine tr1 rfl (aQ (aA rfl) rfl iP) ?_
 refine tr1 rfl (aT (aA rfl) rfl (i := 0) rfl rfl bF) ?_
 refine tr1 rfl (cL (aA rfl) rfl bF) ?_
 refine tr1 rfl (bC (aA rfl) rfl rfl rfl) ?_
 refine tr1 rfl (aJ (v := .d (.lit (.bool ((decide (r_0.Id = c_1)))))) (aA rfl) rfl rfl) ?_
 refine aF ?_
 have h := Option.some.inj h
 subst h
 refine cQ (cG (cK (l := [3]) ⟨rfl, trivial⟩)) ?_
 exact bM ⟨rfl, _, .one _, rfl, rfl⟩

theorem aEi (l_0 : aM) (id_1 : Int) (week_2 : Int) {r : Int × Int} (h : qJ l_0 id_1 week_2 = some r) : Fn Try.prog 40 [.agg (aV l_0), .d (.lit (.int .i64 id_1)), .d (.lit (.int .i64 week_2))] (.tup [.d (.lit (.int .i64 r.1)), .d (.lit (.int .i64 r.2))]) := by
 unfold qJ at h
 refine Fn.of_tr Try.func40 rfl (rs := [.tmp 6, .tmp 7]) Try.results40 Try.ntmps40 (Nat.le_of_ble_eq_true rfl) ?_
 refine aG ?_
 refine aE ?_
 refine bR rfl (fJ (v := .agg (aV l_0)) (aA rfl) rfl rfl rfl) ?_
 rintro _ ⟨b1, rfl⟩
 refine bR rfl (fJ (v := .d (.lit (.int .i64 id_1))) (aA rfl) rfl rfl rfl) ?_
 rintro _ ⟨b2, rfl⟩
 refine tr1 rfl (aJ (v := .d (.lit (.int .i64 0))) (aA rfl) rfl rfl) ?_
 refine tr1 rfl (aJ (v := .d (.lit (.int .i64 0))) (aA rfl) rfl rfl) ?_
 refine aF ?_
 refine aG ?_
 refine aE ?_
 refine tr1 rfl (dE (aA rfl) rfl (i := 0) rfl gJ (es := (aV l_0)) rfl rfl) ?_
 refine tr1 rfl (aD (v := .d (.lit (.int .i64 week_2))) (aA rfl) rfl rfl) ?_
 obtain ⟨r3, h4, h⟩ := bind_some h
 refine bR rfl (dM (passed := []) (aA rfl) rfl (.func _ _ Try.call44) rfl rfl (qY _ _ _ h4)) ?_
 rintro _ ⟨_, _, ⟨b6, w7, rfl, rfl⟩, rfl⟩
 obtain ⟨_ | y5, e8⟩ := r3
 ·have h := vE h
  refine fK (aW [0, 1] rfl rfl (le_refl _)) ?_
  refine tr1 rfl (aD (v := .tup [.d (.lit (.pointer none)), .d (.lit (.int .i64 e8))]) (aA rfl) rfl rfl) ?_
  refine tr1 rfl (cV (aA rfl) rfl rfl) ?_
  refine tr1 rfl (cV (aA rfl) rfl rfl) ?_
  refine tr1 rfl (aJ (v := .d (.lit (.pointer none))) (aA rfl) rfl rfl) ?_
  refine tr1 rfl (aJ (v := .d (.lit (.int .i64 e8))) (aA rfl) rfl rfl) ?_
  refine aF ?_
  refine aG ?_
  refine aG ?_
  refine aE ?_
  refine tr1 rfl (aD (v := .d (.lit (.int .i64 e8))) (aA rfl) rfl rfl) ?_
  refine tr1 rfl (bC (aA rfl) rfl rfl rfl) ?_
  refine aF ?_
  refine bJ rfl (fun c9 => ?_) (fun c9 => ?_)
  ·have h := aS c9 h
   refine aG ?_
   refine aE ?_
   refine tr1 rfl (aD (v := .d (.lit (.int .i64 e8))) (aA rfl) rfl rfl) ?_
   refine tr1 rfl (aJ (v := .d (.lit (.int .i64 0))) (aA rfl) rfl rfl) ?_
   refine tr1 rfl (aJ (v := .d (.lit (.int .i64 e8))) (aA rfl) rfl rfl) ?_
   refine aF ?_
   have h := Option.some.inj h
   subst h
   refine cQ (cG (cK (l := [6, 7]) ⟨rfl, rfl, trivial⟩)) ?_
   exact bM ⟨rfl, _, .two _ _, rfl, rfl⟩
  ·have h := aR c9 h
   refine bI ?_
   refine aG ?_
   refine aE ?_
   refine tr1 rfl (aD (v := .d (.lit (.pointer none))) (aA rfl) rfl rfl) ?_
   cases h
 ·have h := vF h
  refine fK (aW [0, 1, 2, 3] rfl rfl (le_refl _)) ?_
  refine tr1 rfl (aD (v := .tup [.bp b6 0 0, .d (.lit (.int .i64 e8))]) (aA rfl) rfl rfl) ?_
  refine tr1 rfl (cV (aA rfl) rfl rfl) ?_
  refine tr1 rfl (cV (aA rfl) rfl rfl) ?_
  refine tr1 rfl (aJ (v := .bp b6 0 0) (aA rfl) rfl rfl) ?_
  refine tr1 rfl (aJ (v := .d (.lit (.int .i64 e8))) (aA rfl) rfl rfl) ?_
  refine aF ?_
  refine aG ?_
  refine aG ?_
  refine aE ?_
  refine tr1 rfl (aD (v := .d (.lit (.int .i64 e8))) (aA rfl) rfl rfl) ?_
  refine tr1 rfl (bC (aA rfl) rfl rfl rfl) ?_
  refine aF ?_
  refine bJ rfl (fun c10 => ?_) (fun c10 => ?_)
  ·have h := aS c10 h
   refine aG ?_
   refine aE ?_
   refine tr1 rfl (aD (v := .d (.lit (.int .i64 e8))) (aA rfl) rfl rfl) ?_
   refine tr1 rfl (aJ (v := .d (.lit (.int .i64 0))) (aA rfl) rfl rfl) ?_
   refine tr1 rfl (aJ (v := .d (.lit (.int .i64 e8))) (aA rfl) rfl rfl) ?_
   refine aF ?_
   have h := Option.some.inj h
   subst h
   refine cQ (cG (cK (l := [6, 7]) ⟨rfl, rfl, trivial⟩)) ?_
   exact bM ⟨rfl, _, .two _ _, rfl, rfl⟩
  ·have h := aR c10 h
   refine bI ?_
   refine aG ?_
   refine aE ?_
   refine tr1 rfl (aD (v := .bp b6 0 0) (aA rfl) rfl rfl) ?_
   refine tr1 rfl (iO (aA rfl) rfl) ?_
   refine tr1 rfl (aQ (aA rfl) rfl gM) ?_
   refine tr1 rfl (aQ (aA rfl) rfl eF) ?_
   refine tr1 rfl (aT (aA rfl) rfl (i := 0) rfl rfl hB) ?_
   refine tr1 rfl (vI (aA rfl) rfl rfl) ?_
   obtain ⟨r12, h13, h⟩ := bind_some h
   refine tr1 rfl (bZ (aA rfl) (.func _ _ Try.call75) rfl rfl (.cons (.d (iB 1 rfl (dD (f := aC) fun _ => rfl))) (.cons ((zA (.cons ((lX 3 rfl rfl (dvc (.same _) dvn))) .nil))) .nil)) (nA _ _ 76 [.cp [.lit (.int .i64 id_1)]] Try.call76 (fun _ _ h => aCe _ _ h) h13) rfl) ?_
   refine tr1 rfl (aJ (v := .d (.lit (.int .i64 r12))) (aA rfl) rfl rfl) ?_
   refine aF ?_
   refine aG ?_
   refine aG ?_
   refine aE ?_
   refine tr1 rfl (aD (v := .d (.lit (.int .i64 r12))) (aA rfl) rfl rfl) ?_
   refine tr1 rfl (bC (aA rfl) rfl rfl rfl) ?_
   refine tr1 rfl (aD (v := .d (.lit (.bool ((decide (r12 < 0)))))) (aA rfl) rfl rfl) ?_
   obtain ⟨b14, h15, h⟩ := bind_some h
   refine bW 12 [2, 8, 10] 41 b14 ?_ ?_
   ·refine bG (decide (r12 < 0)) (fun c21 => ?_) (fun c21 => ?_)
    ·have h15 := aS c21 h15
     refine aO rfl rfl (aA rfl) rfl (aA rfl) rfl c21 ?_
     refine aO rfl rfl (aA rfl) rfl (aA rfl) rfl c21 ?_
     refine aO rfl rfl (aA rfl) rfl (aA rfl) rfl c21 ?_
     refine aO rfl rfl (aA rfl) rfl (aA rfl) rfl c21 ?_
     refine aO rfl rfl (aA rfl) rfl (aA rfl) rfl c21 ?_
     refine aO rfl rfl (aA rfl) rfl (aA rfl) rfl c21 ?_
     refine aO rfl rfl (aA rfl) rfl (aA rfl) rfl c21 ?_
     refine aO rfl rfl (aA rfl) rfl (aA rfl) rfl c21 ?_
     refine aO rfl rfl (aA rfl) rfl (aA rfl) rfl c21 ?_
     refine aO rfl rfl (aA rfl) rfl (aA rfl) rfl c21 ?_
     refine aO rfl rfl (aA rfl) rfl (aA rfl) rfl c21 ?_
     refine tr1 rfl (bO (v := .d (.lit (.bool true))) (aA rfl) rfl c21 rfl rfl) ?_
     have h15 := Option.some.inj h15
     subst h15
     refine aF (aY rfl ⟨rfl, rfl, rfl, trivial⟩ rfl)
    ·have h15 := aR c21 h15
     refine aL rfl rfl (aA rfl) rfl c21 (aD (v := .bp b6 0 0) (aA rfl) rfl rfl) ?_
     refine aL rfl rfl (aA rfl) rfl c21 (iO (aA rfl) rfl) ?_
     refine aL rfl rfl (aA rfl) rfl c21 (aQ (aA rfl) rfl gM) ?_
     refine aL rfl rfl (aA rfl) rfl c21 (aQ (aA rfl) rfl eF) ?_
     refine aL rfl rfl (aA rfl) rfl c21 (aT (aA rfl) rfl (i := 0) rfl rfl hB) ?_
     refine aL rfl rfl (aA rfl) rfl c21 (aD (v := .d (.lit (.int .i64 r12))) (aA rfl) rfl rfl) ?_
     obtain ⟨x22, h23, h15⟩ := bind_some h15
     refine aL rfl rfl (aA rfl) rfl c21 (cD (m := 1) (aA rfl) rfl rfl rfl bY.of (bP aC h23)) ?_
     refine aL rfl rfl (aA rfl) rfl c21 (vX (aA rfl) rfl iQ) ?_
     refine aL rfl rfl (aA rfl) rfl c21 (xH (aA rfl) rfl (m := 1) rfl (dW aC h23) rfl bF) ?_
     refine aL rfl rfl (aA rfl) rfl c21 (aD (v := .d (.lit (.int .i64 week_2))) (aA rfl) rfl rfl) ?_
     refine aL rfl rfl (aA rfl) rfl c21 (bC (aA rfl) rfl rfl rfl) ?_
     refine tr1 rfl (bN (v := .d (.lit (.bool ((decide (week_2 < x22.Week)))))) (aA rfl) rfl c21 rfl rfl) ?_
     have h15 := Option.some.inj h15
     subst h15
     refine aF (aY rfl ⟨rfl, rfl, rfl, trivial⟩ rfl)
   ·refine aF ?_
    refine bJ rfl (fun c16 => ?_) (fun c16 => ?_)
    ·have h := aS c16 h
     refine aG ?_
     refine aE ?_
     refine tr1 rfl (aJ (v := .d (.lit (.int .i64 0))) (aA rfl) rfl rfl) ?_
     refine tr1 rfl (aJ (v := .d (.lit (.int .i64 3))) (aA rfl) rfl rfl) ?_
     refine aF ?_
     have h := Option.some.inj h
     subst h
     refine cQ (cG (cK (l := [6, 7]) ⟨rfl, rfl, trivial⟩)) ?_
     exact bM ⟨rfl, _, .two _ _, rfl, rfl⟩
    ·have h := aR c16 h
     refine bI ?_
     refine aG ?_
     refine aE ?_
     refine tr1 rfl (aD (v := .bp b6 0 0) (aA rfl) rfl rfl) ?_
     refine tr1 rfl (aD (v := .bp b6 0 0) (aA rfl) rfl rfl) ?_
     refine tr1 rfl (iO (aA rfl) rfl) ?_
     refine tr1 rfl (aQ (aA rfl) rfl gM) ?_
     refine tr1 rfl (aQ (aA rfl) rfl eF) ?_
     refine tr1 rfl (aT (aA rfl) rfl (i := 0) rfl rfl hB) ?_
     refine tr1 rfl (aD (v := .d (.lit (.int .i64 r12))) (aA rfl) rfl rfl) ?_
     obtain ⟨x17, h18, h⟩ := bind_some h
     refine tr1 rfl (cD (m := 1) (aA rfl) rfl rfl rfl bY.of (bP aC h18)) ?_
     refine tr1 rfl (dC (aA rfl) rfl (l := 1) rfl (dW aC h18) dY (es := (aC x17)) rfl rfl) ?_
     refine tr1 rfl (aD (v := .d (.lit (.int .i64 week_2))) (aA rfl) rfl rfl) ?_
     obtain ⟨r19, h20, h⟩ := bind_some h
     refine tr1 rfl (bZ (aA rfl) (.func _ _ Try.call77) rfl rfl (.cons ((lX 0 rfl rfl (dvc (.same _) (dvc (.same _) (dvc (iB 1 rfl (dD (f := aC) fun _ => rfl)) (dvc (.same _) (dvc (.same _) dvn))))))) (.cons (.same _) (.cons (.same _) .nil))) (qZ _ _ _ h20) rfl) ?_
     refine tr1 rfl (aJ (v := .d (.lit (.int .i64 r19))) (aA rfl) rfl rfl) ?_
     refine tr1 rfl (aJ (v := .d (.lit (.int .i64 0))) (aA rfl) rfl rfl) ?_
     refine aF ?_
     have h := Option.some.inj h
     subst h
     refine cQ (cG (cK (l := [6, 7]) ⟨rfl, rfl, trivial⟩)) ?_
     exact bM ⟨rfl, _, .two _ _, rfl, rfl⟩

theorem uX (l_0 : aM) (x_1 : gB) {r : Bool} (h : lY l_0 x_1 = some r) : Fn Try.prog 12 [.agg (aV l_0), .agg (kH x_1)] (.d (.lit (.bool r))) := by
 unfold lY at h
 refine Fn.of_tr Try.func12 rfl (rs := [.tmp 4]) Try.results12 Try.ntmps12 (Nat.le_of_ble_eq_true rfl) ?_
 refine aG ?_
 refine aE ?_
 refine bR rfl (fJ (v := .agg (aV l_0)) (aA rfl) rfl rfl rfl) ?_
 rintro _ ⟨b1, rfl⟩
 refine bR rfl (fJ (v := .agg (kH x_1)) (aA rfl) rfl rfl rfl) ?_
 rintro _ ⟨b2, rfl⟩
 refine tr1 rfl (aJ (v := .d (.lit (.bool false))) (aA rfl) rfl rfl) ?_
 refine aF ?_
 refine aG ?_
 refine aG ?_
 refine aE ?_
 refine tr1 rfl (dE (aA rfl) rfl (i := 0) rfl gJ (es := (aV l_0)) rfl rfl) ?_
 refine tr1 rfl (aQ (aA rfl) rfl aFu) ?_
 refine tr1 rfl (aT (aA rfl) rfl (i := 1) rfl rfl bF) ?_
 refine tr1 rfl (aQ (aA rfl) rfl qF) ?_
 refine tr1 rfl (aT (aA rfl) rfl (i := 1) rfl rfl bF) ?_
 obtain ⟨r3, h4, h⟩ := bind_some h
 refine tr1 rfl (bZ (aA rfl) (.func _ _ Try.call20) rfl rfl (BVs.refl _ _) (wT _ _ _ h4) rfl) ?_
 refine tr1 rfl (eZ (aA rfl) rfl) ?_
 refine aF ?_
 refine bJ rfl (fun c5 => ?_) (fun c5 => ?_)
 ·have h := aS c5 h
  refine aG ?_
  refine aE ?_
  obtain ⟨r6, h7, h⟩ := bind_some h
  refine tr1 rfl (bZ (aA rfl) (.func _ _ Try.call16) rfl rfl (BVs.refl _ _) (oJ h7) rfl) ?_
  refine tr1 rfl (aJ (v := .d (.lit (.bool r6))) (aA rfl) rfl rfl) ?_
  refine aF ?_
  have h := Option.some.inj h
  subst h
  refine cQ (cG (cK (l := [4]) ⟨rfl, trivial⟩)) ?_
  exact bM ⟨rfl, _, .one _, rfl, rfl⟩
 ·have h := aR c5 h
  refine bI ?_
  refine aG ?_
  refine aE ?_
  refine bR rfl (fY (zs := [.lit (.int .i64 0), .lit (.int .i64 0), .lit (.int .i64 0), .lit (.int .i64 0), .lit (.bool false)]) (aA rfl) Try.zeroValue42 rfl rfl) ?_
  rintro _ ⟨b8, rfl⟩
  refine aF ?_
  refine aG ?_
  refine aE ?_
  refine tr1 rfl (aJ (v := .d (.lit (.bool false))) (aA rfl) rfl rfl) ?_
  refine aF ?_
  refine aG ?_
  refine aG ?_
  refine aE ?_
  refine tr1 rfl (aJ (v := .d (.lit (.int .i64 0))) (aA rfl) rfl rfl) ?_
  refine aF ?_
  refine bQ ?_
  refine cM [2, 3, 5] (fun (s9 : Bool × Int × aB) => [(6, .d (.lit (.bool s9.1))), (7, .d (.lit (.int .i64 s9.2.1)))]) (fun (s9 : Bool × Int × aB) => [.box b1 0 (aV l_0), .box b2 0 (kH x_1), .box b8 0 (aC s9.2.2)]) (fun (k : Nat) (s9 : Bool × Int × aB) => fD l_0 x_1 k s9.1 s9.2.1 s9.2.2) (fun _ => rfl) (false, 0, (aB.mk 0 0 0 0 false)) h (aW [0, 1, 2] rfl rfl (aN rfl (aN rfl (aX ⟨rfl, rfl, rfl, trivial⟩)))) ?_
  rintro k10 ⟨found_0_9, i_0_9, r_0_9⟩ h
  simp only [fD] at h
  refine aG ?_
  refine aG ?_
  refine aE ?_
  refine tr1 rfl (aD (v := .d (.lit (.int .i64 i_0_9))) (aA rfl) rfl rfl) ?_
  refine tr1 rfl (aQ (aA rfl) rfl eF) ?_
  refine tr1 rfl (aT (aA rfl) rfl (i := 0) rfl rfl hB) ?_
  refine tr1 rfl (dX (aA rfl) rfl bY.of) ?_
  refine tr1 rfl (bC (aA rfl) rfl rfl rfl) ?_
  refine aF ?_
  refine bJ rfl (fun c11 => ?_) (fun c11 => ?_)
  ·have h := aS c11 h
   refine bI ?_
   refine aG ?_
   refine bQ ?_
   refine aG ?_
   obtain ⟨x12, h13, h⟩ := bind_some h
   refine gO mix 8 [2, 3, 5, 6, 7] [(38, .d (.lit (.int .i64 x12.Id))), (40, .d (.lit (.int .i64 x_1.Id)))] ?_ ?_
   ·refine ⟨[(33, 0, .bp b1 0 2), (34, 1, .d (.sl 5 (l_0.Reports.map aC))), (35, 2, .d (.lit (.int .i64 i_0_9))), (36, 3, .cp [.lit (.int .i64 x12.Id), .lit (.int .i64 x12.Player), .lit (.int .i64 x12.Week), .lit (.int .i64 x12.Points), .lit (.bool x12.Must)]), (37, 4, .cp [.lit (.int .i64 x12.Id)]), (38, 5, .d (.lit (.int .i64 x12.Id))), (39, 6, .bp b2 0 2), (40, 7, .d (.lit (.int .i64 x_1.Id)))], ?_, ?_⟩
    · exact ⟨by kernel_rfl, by kernel_rfl, by kernel_rfl, by kernel_rfl, by kernel_rfl, [([], []), ([0], []), ([], []), ([1, 2], []), ([3], []), ([4], []), ([], []), ([6], [])], by kernel_rfl, ⟨fun S hS => aK rfl (aP rfl (aQ (aA rfl) (aH hS rfl) eF)),
      fun S hS => aK rfl (aP rfl (aT (aA rfl) (aH hS rfl) (i := 0) rfl rfl hB)),
      fun S hS => aK rfl (aP rfl (aD (v := .d (.lit (.int .i64 i_0_9))) (aA rfl) (aH hS rfl) rfl)),
      fun S hS => aK rfl (aP rfl (cE (aA rfl) (aH hS rfl) (aH hS rfl) bY.of (bP aC h13))),
      fun S hS => aK rfl (aP rfl (cP (aA rfl) (aH hS rfl) iP (es := [.lit (.int .i64 x12.Id)]) rfl)),
      fun S hS => aK rfl (aP rfl (cL (aA rfl) (aH hS rfl) bF)),
      fun S hS => aK rfl (aP rfl (aQ (aA rfl) (aH hS rfl) aBu)),
      fun S hS => aK rfl (aP rfl (aT (aA rfl) (aH hS rfl) (i := 1) rfl rfl bF)), trivial⟩⟩
    · exact eE (aN rfl (aN rfl (aX ⟨rfl, rfl, rfl, rfl, rfl, trivial⟩)))
   ·refine tr1 rfl (bC (aA rfl) rfl rfl rfl) ?_
    refine aF ?_
    refine bJ rfl (fun c14 => ?_) (fun c14 => ?_)
    ·have h := aS c14 h
     refine aE ?_
     refine tr1 rfl (aQ (aA rfl) rfl eF) ?_
     refine tr1 rfl (aT (aA rfl) rfl (i := 0) rfl rfl hB) ?_
     refine tr1 rfl (aD (v := .d (.lit (.int .i64 i_0_9))) (aA rfl) rfl rfl) ?_
     obtain ⟨x15, h16, h⟩ := bind_some h
     refine tr1 rfl (cE (aA rfl) rfl rfl bY.of (bP aC h16)) ?_
     refine tr1 rfl (gN (aA rfl) rfl dY (es := (aC x15)) rfl rfl) ?_
     refine tr1 rfl (cA (i := 2) rfl rfl rfl rfl rfl Try.sizeOf42 rfl (aA rfl) (Nat.le_of_ble_eq_true rfl) (ds' := (aC x15)) rfl) ?_
     refine tr1 rfl (aJ (v := .d (.lit (.bool true))) (aA rfl) rfl rfl) ?_
     refine eB ?_
     refine aE ?_
     refine tr1 rfl (aD (v := .d (.lit (.int .i64 i_0_9))) (aA rfl) rfl rfl) ?_
     refine tr1 rfl (aZ (aA rfl) rfl rfl rfl) ?_
     refine tr1 rfl (aJ (v := .d (.lit (.int .i64 ((w64 (i_0_9 + 1)))))) (aA rfl) rfl rfl) ?_
     refine aF ?_
     exact ⟨(true, w64 (i_0_9 + 1), x15), h, aW [0, 1, 2] rfl rfl (aN rfl (aN rfl (aX ⟨rfl, rfl, rfl, trivial⟩)))⟩
    ·have h := aR c14 h
     refine eJ ?_
     refine aE ?_
     refine tr1 rfl (aD (v := .d (.lit (.int .i64 i_0_9))) (aA rfl) rfl rfl) ?_
     refine tr1 rfl (aZ (aA rfl) rfl rfl rfl) ?_
     refine tr1 rfl (aJ (v := .d (.lit (.int .i64 ((w64 (i_0_9 + 1)))))) (aA rfl) rfl rfl) ?_
     refine aF ?_
     exact ⟨(found_0_9, w64 (i_0_9 + 1), r_0_9), h, aW [0, 1, 2] rfl rfl (aN rfl (aN rfl (aX ⟨rfl, rfl, rfl, trivial⟩)))⟩
  ·have h := aR c11 h
   refine cU ?_
   refine .inl ⟨rfl, ?_⟩
   simp only [kO] at h
   refine aG ?_
   refine aE ?_
   refine tr1 rfl (dE (aA rfl) rfl (i := 0) rfl gJ (es := (aV l_0)) rfl rfl) ?_
   refine tr1 rfl (aQ (aA rfl) rfl aBu) ?_
   refine tr1 rfl (aT (aA rfl) rfl (i := 1) rfl rfl bF) ?_
   refine tr1 rfl (aQ (aA rfl) rfl qF) ?_
   refine tr1 rfl (aT (aA rfl) rfl (i := 1) rfl rfl bF) ?_
   obtain ⟨r17, h18, h⟩ := bind_some h
   refine tr1 rfl (bZ (aA rfl) (.func _ _ Try.call40) rfl rfl (BVs.refl _ _) (aEi _ _ _ h18) rfl) ?_
   refine tr1 rfl (aD (v := .tup [.d (.lit (.int .i64 r17.1)), .d (.lit (.int .i64 r17.2))]) (aA rfl) rfl rfl) ?_
   refine tr1 rfl (cV (aA rfl) rfl rfl) ?_
   refine tr1 rfl (cV (aA rfl) rfl rfl) ?_
   refine tr1 rfl (aJ (v := .d (.lit (.int .i64 r17.1))) (aA rfl) rfl rfl) ?_
   refine tr1 rfl (aJ (v := .d (.lit (.int .i64 r17.2))) (aA rfl) rfl rfl) ?_
   refine aF ?_
   refine aG ?_
   refine aG ?_
   refine aE ?_
   refine tr1 rfl (aD (v := .d (.lit (.bool found_0_9))) (aA rfl) rfl rfl) ?_
   refine tr1 rfl (eZ (aA rfl) rfl) ?_
   refine tr1 rfl (aD (v := .d (.lit (.bool (!found_0_9)))) (aA rfl) rfl rfl) ?_
   obtain ⟨b19, h20, h⟩ := bind_some h
   refine bW 6 [2, 3, 5, 8, 9] 64 b19 ?_ ?_
   ·refine bG (!found_0_9) (fun c63 => ?_) (fun c63 => ?_)
    ·have h20 := aS c63 h20
     refine aO rfl rfl (aA rfl) rfl (aA rfl) rfl c63 ?_
     refine aO rfl rfl (aA rfl) rfl (aA rfl) rfl c63 ?_
     refine aO rfl rfl (aA rfl) rfl (aA rfl) rfl c63 ?_
     refine aO rfl rfl (aA rfl) rfl (aA rfl) rfl c63 ?_
     refine aO rfl rfl (aA rfl) rfl (aA rfl) rfl c63 ?_
     refine tr1 rfl (bO (v := .d (.lit (.bool true))) (aA rfl) rfl c63 rfl rfl) ?_
     have h20 := Option.some.inj h20
     subst h20
     refine aF (aY rfl ⟨rfl, rfl, rfl, rfl, rfl, trivial⟩ rfl)
    ·have h20 := aR c63 h20
     refine aL rfl rfl (aA rfl) rfl c63 (aQ (aA rfl) rfl qF) ?_
     refine aL rfl rfl (aA rfl) rfl c63 (aT (aA rfl) rfl (i := 1) rfl rfl bF) ?_
     refine aL rfl rfl (aA rfl) rfl c63 (aQ (aA rfl) rfl iQ) ?_
     refine aL rfl rfl (aA rfl) rfl c63 (aT (aA rfl) rfl (i := 2) rfl rfl bF) ?_
     refine aL rfl rfl (aA rfl) rfl c63 (bC (aA rfl) rfl rfl rfl) ?_
     refine tr1 rfl (bN (v := .d (.lit (.bool ((decide (x_1.Week < r_0_9.Week)))))) (aA rfl) rfl c63 rfl rfl) ?_
     have h20 := Option.some.inj h20
     subst h20
     refine aF (aY rfl ⟨rfl, rfl, rfl, rfl, rfl, trivial⟩ rfl)
   ·refine aF ?_
    refine bJ rfl (fun c21 => ?_) (fun c21 => ?_)
    ·have h := aS c21 h
     refine aG ?_
     refine aE ?_
     refine tr1 rfl (aD (v := .d (.lit (.int .i64 r17.2))) (aA rfl) rfl rfl) ?_
     refine tr1 rfl (bC (aA rfl) rfl rfl rfl) ?_
     refine tr1 rfl (aD (v := .d (.lit (.bool ((decide (r17.2 = 3)))))) (aA rfl) rfl rfl) ?_
     obtain ⟨b22, h23, h⟩ := bind_some h
     refine bW 2 [] 69 b22 ?_ ?_
     ·refine bG (decide (r17.2 = 3)) (fun c24 => ?_) (fun c24 => ?_)
      ·have h23 := aS c24 h23
       obtain ⟨r25, h26, h23⟩ := bind_some h23
       refine aL rfl rfl (aA rfl) rfl c24 (bZ (aA rfl) (.func _ _ Try.call16) rfl rfl (BVs.refl _ _) (oJ h26) rfl) ?_
       refine tr1 rfl (bO (v := .d (.lit (.bool r25))) (aA rfl) rfl c24 rfl rfl) ?_
       have h23 := Option.some.inj h23
       subst h23
       refine aF (aY rfl trivial rfl)
      ·have h23 := aR c24 h23
       refine aO rfl rfl (aA rfl) rfl (aA rfl) rfl c24 ?_
       refine tr1 rfl (bN (v := .d (.lit (.bool false))) (aA rfl) rfl c24 rfl rfl) ?_
       have h23 := Option.some.inj h23
       subst h23
       refine aF (aY rfl trivial rfl)
     ·refine tr1 rfl (aJ (v := .d (.lit (.bool b22))) (aA rfl) rfl rfl) ?_
      refine aF ?_
      have h := Option.some.inj h
      subst h
      refine cQ (cG (cK (l := [4]) ⟨rfl, trivial⟩)) ?_
      exact bM ⟨rfl, _, .one _, rfl, rfl⟩
    ·have h := aR c21 h
     refine bI ?_
     refine aG ?_
     refine aE ?_
     refine tr1 rfl (aJ (v := .d (.lit (.int .i64 0))) (aA rfl) rfl rfl) ?_
     refine aF ?_
     refine aG ?_
     refine aG ?_
     refine aE ?_
     refine tr1 rfl (aQ (aA rfl) rfl iQ) ?_
     refine tr1 rfl (aT (aA rfl) rfl (i := 2) rfl rfl bF) ?_
     refine tr1 rfl (aZ (aA rfl) rfl rfl rfl) ?_
     refine tr1 rfl (aJ (v := .d (.lit (.int .i64 ((w64 (r_0_9.Week + 1)))))) (aA rfl) rfl rfl) ?_
     refine aF ?_
     refine bQ ?_
     refine cM [2, 3, 5, 8, 9] (fun (s27 : Int × Int) => [(10, .d (.lit (.int .i64 s27.1))), (11, .d (.lit (.int .i64 s27.2)))]) (fun (s27 : Int × Int) => [.box b1 0 (aV l_0), .box b2 0 (kH x_1), .box b8 0 (aC r_0_9)]) (fun (k : Nat) (s27 : Int × Int) => fE r17.1 r17.2 l_0 x_1 r_0_9 k s27.1 s27.2) (fun _ => rfl) (0, w64 (r_0_9.Week + 1)) h (aW [0, 1, 2] rfl rfl (aN rfl (aN rfl (aX ⟨rfl, rfl, rfl, rfl, rfl, trivial⟩)))) ?_
     rintro k28 ⟨frozen_2_27, w_2_27⟩ h
     simp only [fE] at h
     refine aG ?_
     refine aG ?_
     refine aE ?_
     refine tr1 rfl (aD (v := .d (.lit (.int .i64 w_2_27))) (aA rfl) rfl rfl) ?_
     refine tr1 rfl (aQ (aA rfl) rfl qF) ?_
     refine tr1 rfl (aT (aA rfl) rfl (i := 1) rfl rfl bF) ?_
     refine tr1 rfl (bC (aA rfl) rfl rfl rfl) ?_
     refine aF ?_
     refine bJ rfl (fun c29 => ?_) (fun c29 => ?_)
     ·have h := aS c29 h
      refine bI ?_
      refine aG ?_
      refine bQ ?_
      refine aG ?_
      refine aE ?_
      refine tr1 rfl (aQ (aA rfl) rfl lA) ?_
      refine tr1 rfl (aT (aA rfl) rfl (i := 0) rfl rfl jM) ?_
      refine tr1 rfl (aQ (aA rfl) rfl mY) ?_
      refine tr1 rfl (aT (aA rfl) rfl (i := 2) rfl rfl bF) ?_
      refine tr1 rfl (aD (v := .d (.lit (.int .i64 w_2_27))) (aA rfl) rfl rfl) ?_
      obtain ⟨r30, h31, h⟩ := bind_some h
      refine tr1 rfl (bZ (aA rfl) (.func _ _ Try.call25) rfl rfl (BVs.refl _ _) (sY _ _ _ h31) rfl) ?_
      refine aF ?_
      refine bJ rfl (fun c32 => ?_) (fun c32 => ?_)
      ·have h := aS c32 h
       refine aE ?_
       refine tr1 rfl (aD (v := .d (.lit (.int .i64 frozen_2_27))) (aA rfl) rfl rfl) ?_
       refine tr1 rfl (aZ (aA rfl) rfl rfl rfl) ?_
       refine tr1 rfl (aJ (v := .d (.lit (.int .i64 ((w64 (frozen_2_27 + 1)))))) (aA rfl) rfl rfl) ?_
       refine eB ?_
       refine aE ?_
       refine tr1 rfl (aD (v := .d (.lit (.int .i64 w_2_27))) (aA rfl) rfl rfl) ?_
       refine tr1 rfl (aZ (aA rfl) rfl rfl rfl) ?_
       refine tr1 rfl (aJ (v := .d (.lit (.int .i64 ((w64 (w_2_27 + 1)))))) (aA rfl) rfl rfl) ?_
       refine aF ?_
       exact ⟨(w64 (frozen_2_27 + 1), w64 (w_2_27 + 1)), h, aW [0, 1, 2] rfl rfl (aN rfl (aN rfl (aX ⟨rfl, rfl, rfl, rfl, rfl, trivial⟩)))⟩
      ·have h := aR c32 h
       refine eJ ?_
       refine aE ?_
       refine tr1 rfl (aD (v := .d (.lit (.int .i64 w_2_27))) (aA rfl) rfl rfl) ?_
       refine tr1 rfl (aZ (aA rfl) rfl rfl rfl) ?_
       refine tr1 rfl (aJ (v := .d (.lit (.int .i64 ((w64 (w_2_27 + 1)))))) (aA rfl) rfl rfl) ?_
       refine aF ?_
       exact ⟨(frozen_2_27, w64 (w_2_27 + 1)), h, aW [0, 1, 2] rfl rfl (aN rfl (aN rfl (aX ⟨rfl, rfl, rfl, rfl, rfl, trivial⟩)))⟩
     ·have h := aR c29 h
      refine cU ?_
      refine .inl ⟨rfl, ?_⟩
      simp only [kP] at h
      refine aG ?_
      refine aG ?_
      refine aE ?_
      refine tr1 rfl (aD (v := .d (.lit (.int .i64 r17.2))) (aA rfl) rfl rfl) ?_
      refine tr1 rfl (bC (aA rfl) rfl rfl rfl) ?_
      refine tr1 rfl (aD (v := .d (.lit (.bool ((!decide (r17.2 = 0)))))) (aA rfl) rfl rfl) ?_
      obtain ⟨b33, h34, h⟩ := bind_some h
      refine bW 10 [2, 3, 5, 10] 99 b33 ?_ ?_
      ·refine bG (!decide (r17.2 = 0)) (fun c62 => ?_) (fun c62 => ?_)
       ·have h34 := aS c62 h34
        refine aO rfl rfl (aA rfl) rfl (aA rfl) rfl c62 ?_
        refine aO rfl rfl (aA rfl) rfl (aA rfl) rfl c62 ?_
        refine aO rfl rfl (aA rfl) rfl (aA rfl) rfl c62 ?_
        refine aO rfl rfl (aA rfl) rfl (aA rfl) rfl c62 ?_
        refine aO rfl rfl (aA rfl) rfl (aA rfl) rfl c62 ?_
        refine aO rfl rfl (aA rfl) rfl (aA rfl) rfl c62 ?_
        refine aO rfl rfl (aA rfl) rfl (aA rfl) rfl c62 ?_
        refine aO rfl rfl (aA rfl) rfl (aA rfl) rfl c62 ?_
        refine aO rfl rfl (aA rfl) rfl (aA rfl) rfl c62 ?_
        refine tr1 rfl (bO (v := .d (.lit (.bool true))) (aA rfl) rfl c62 rfl rfl) ?_
        have h34 := Option.some.inj h34
        subst h34
        refine aF (aY rfl ⟨rfl, rfl, rfl, rfl, trivial⟩ rfl)
       ·have h34 := aR c62 h34
        refine aL rfl rfl (aA rfl) rfl c62 (aD (v := .d (.lit (.int .i64 r17.1))) (aA rfl) rfl rfl) ?_
        refine aL rfl rfl (aA rfl) rfl c62 (aQ (aA rfl) rfl qF) ?_
        refine aL rfl rfl (aA rfl) rfl c62 (aT (aA rfl) rfl (i := 1) rfl rfl bF) ?_
        refine aL rfl rfl (aA rfl) rfl c62 (aQ (aA rfl) rfl iQ) ?_
        refine aL rfl rfl (aA rfl) rfl c62 (aT (aA rfl) rfl (i := 2) rfl rfl bF) ?_
        refine aL rfl rfl (aA rfl) rfl c62 (aZ (aA rfl) rfl rfl rfl) ?_
        refine aL rfl rfl (aA rfl) rfl c62 (aD (v := .d (.lit (.int .i64 frozen_2_27))) (aA rfl) rfl rfl) ?_
        refine aL rfl rfl (aA rfl) rfl c62 (aZ (aA rfl) rfl rfl rfl) ?_
        refine aL rfl rfl (aA rfl) rfl c62 (bC (aA rfl) rfl rfl rfl) ?_
        refine tr1 rfl (bN (v := .d (.lit (.bool ((!decide (r17.1 = (w64 ((w64 (x_1.Week - r_0_9.Week)) - frozen_2_27)))))))) (aA rfl) rfl c62 rfl rfl) ?_
        have h34 := Option.some.inj h34
        subst h34
        refine aF (aY rfl ⟨rfl, rfl, rfl, rfl, trivial⟩ rfl)
      ·refine aF ?_
       refine bJ rfl (fun c35 => ?_) (fun c35 => ?_)
       ·have h := aS c35 h
        refine aG ?_
        refine aE ?_
        refine tr1 rfl (aJ (v := .d (.lit (.bool false))) (aA rfl) rfl rfl) ?_
        refine aF ?_
        have h := Option.some.inj h
        subst h
        refine cQ (cG (cK (l := [4]) ⟨rfl, trivial⟩)) ?_
        exact bM ⟨rfl, _, .one _, rfl, rfl⟩
       ·have h := aR c35 h
        refine bI ?_
        refine aG ?_
        refine aE ?_
        refine tr1 rfl (dE (aA rfl) rfl (i := 0) rfl gJ (es := (aV l_0)) rfl rfl) ?_
        obtain ⟨r36, h37, h⟩ := bind_some h
        refine tr1 rfl (lO (aA rfl) (.func _ _ Try.call18) rfl rfl (xW _ h37)) ?_
        refine bR rfl (fY (zs := [.lit (.int .i64 0), .lit (.int .i64 0), .sl 5 ((([] : List aB)).map aC), .sl 3 ((([] : List bA)).map aI), .sl 3 ((([] : List bA)).map aI)]) (aA rfl) Try.zeroValue25 rfl rfl) ?_
        rintro _ ⟨b38, rfl⟩
        refine tr1 rfl (cA (i := 3) rfl rfl rfl rfl rfl Try.sizeOf25 rfl (aA rfl) (Nat.le_of_ble_eq_true rfl) (ds' := (aV r36)) rfl) ?_
        refine aF ?_
        refine aG ?_
        refine aE ?_
        refine tr1 rfl (aQ (aA rfl) rfl vR) ?_
        refine tr1 rfl (cA (i := 3) rfl rfl rfl rfl rfl Try.sizeOf3 rfl (aA rfl) (Nat.le_of_ble_eq_true rfl) (ds' := (aV (aM.mk r36.Players 20 r36.Reports r36.Bans r36.Frozen))) rfl) ?_
        refine aF ?_
        refine aG ?_
        refine aE ?_
        refine tr1 rfl (dE (aA rfl) rfl (i := 3) rfl gJ (es := (aV (aM.mk r36.Players 20 r36.Reports r36.Bans r36.Frozen))) rfl rfl) ?_
        refine tr1 rfl (aQ (aA rfl) rfl mY) ?_
        refine tr1 rfl (aT (aA rfl) rfl (i := 2) rfl rfl bF) ?_
        refine tr1 rfl (aQ (aA rfl) rfl qF) ?_
        refine tr1 rfl (aT (aA rfl) rfl (i := 1) rfl rfl bF) ?_
        obtain ⟨r39, h40, h⟩ := bind_some h
        refine tr1 rfl (lO (aA rfl) (.func _ _ Try.call38) rfl rfl (aCh _ _ _ h40)) ?_
        refine tr1 rfl (aD (v := .tup [.d (.sl 1 (r39.1.map cC)), .d (.lit (.int .i64 r39.2))]) (aA rfl) rfl rfl) ?_
        refine tr1 rfl (cV (aA rfl) rfl rfl) ?_
        refine tr1 rfl (cV (aA rfl) rfl rfl) ?_
        refine tr1 rfl (aJ (v := .d (.sl 1 (r39.1.map cC))) (aA rfl) rfl rfl) ?_
        refine tr1 rfl (aJ (v := .d (.lit (.int .i64 r39.2))) (aA rfl) rfl rfl) ?_
        refine aF ?_
        refine aG ?_
        refine aE ?_
        refine tr1 rfl (aJ (v := .d (.lit (.bool false))) (aA rfl) rfl rfl) ?_
        refine aF ?_
        refine aG ?_
        refine aG ?_
        refine aE ?_
        refine tr1 rfl (aJ (v := .d (.lit (.int .i64 0))) (aA rfl) rfl rfl) ?_
        refine aF ?_
        refine bQ ?_
        refine cM [2, 3, 5, 10, 13, 14] (fun (s41 : Bool × Int) => [(15, .d (.lit (.bool s41.1))), (16, .d (.lit (.int .i64 s41.2)))]) (fun (s41 : Bool × Int) => [.box b1 0 (aV l_0), .box b2 0 (kH x_1), .box b8 0 (aC r_0_9)]) (fun (k : Nat) (s41 : Bool × Int) => fF frozen_2_27 r39.1 r39.2 l_0 x_1 r_0_9 k s41.1 s41.2) (fun _ => rfl) (false, 0) h (aW [0, 1, 2] rfl rfl (aN rfl (aN rfl (aX ⟨rfl, rfl, rfl, rfl, rfl, rfl, trivial⟩)))) ?_
        rintro k42 ⟨isv_4_41, k_4_41⟩ h
        simp only [fF] at h
        refine aG ?_
        refine aG ?_
        refine aE ?_
        refine tr1 rfl (aD (v := .d (.lit (.int .i64 k_4_41))) (aA rfl) rfl rfl) ?_
        refine tr1 rfl (aD (v := .d (.sl 1 (r39.1.map cC))) (aA rfl) rfl rfl) ?_
        refine tr1 rfl (dX (aA rfl) rfl eO.of) ?_
        refine tr1 rfl (bC (aA rfl) rfl rfl rfl) ?_
        refine aF ?_
        refine bJ rfl (fun c43 => ?_) (fun c43 => ?_)
        ·have h := aS c43 h
         refine bI ?_
         refine aG ?_
         refine bQ ?_
         obtain ⟨b44, h45, h⟩ := bind_some h
         refine gO mix 10 [2, 3, 5, 10, 13, 14, 16] [(127, .d (.lit (.bool b44)))] ?_ ?_
         ·refine bG (isv_4_41) (fun c46 => ?_) (fun c46 => ?_)
          ·have h45 := aS c46 h45
           have h45 := Option.some.inj h45
           subst h45
           refine ⟨[(118, 0, .d (.lit (.bool isv_4_41))), (119, 1, .d (.lit (.bool isv_4_41))), (120, 2, .tup []), (121, 3, .tup []), (122, 4, .tup []), (123, 5, .tup []), (124, 6, .tup []), (125, 7, .tup []), (126, 8, .tup []), (127, 9, .d (.lit (.bool true)))], ?_, ?_⟩
           · exact ⟨by kernel_rfl, by kernel_rfl, by kernel_rfl, by kernel_rfl, by kernel_rfl, [([], []), ([0], []), ([1], []), ([1], []), ([1, 2, 3], []), ([1, 4], []), ([1], []), ([1, 6], []), ([1, 5, 7], []), ([1, 8], [])], by kernel_rfl, ⟨fun S hS => aK rfl (aP rfl (aD (v := .d (.lit (.bool isv_4_41))) (aA rfl) (aH hS rfl) rfl)),
      fun S hS => aK rfl (aP rfl (aD (v := .d (.lit (.bool isv_4_41))) (aA rfl) (aH hS rfl) rfl)),
      fun S hS => aK rfl (bD rfl rfl (aA rfl) rfl (aA rfl) (aU hS rfl) c46),
      fun S hS => aK rfl (bD rfl rfl (aA rfl) rfl (aA rfl) (aU hS rfl) c46),
      fun S hS => aK rfl (bD rfl rfl (aA rfl) rfl (aA rfl) (aU hS rfl) c46),
      fun S hS => aK rfl (bD rfl rfl (aA rfl) rfl (aA rfl) (aU hS rfl) c46),
      fun S hS => aK rfl (bD rfl rfl (aA rfl) rfl (aA rfl) (aU hS rfl) c46),
      fun S hS => aK rfl (bD rfl rfl (aA rfl) rfl (aA rfl) (aU hS rfl) c46),
      fun S hS => aK rfl (bD rfl rfl (aA rfl) rfl (aA rfl) (aU hS rfl) c46),
      fun S hS => aK rfl (aP rfl (bO (v := .d (.lit (.bool true))) (aA rfl) (aH hS rfl) c46 rfl rfl)), trivial⟩⟩
           · exact eE (aN rfl (aX ⟨rfl, rfl, rfl, rfl, rfl, rfl, rfl, trivial⟩))
          ·have h45 := aR c46 h45
           obtain ⟨x47, h48, h45⟩ := bind_some h45
           have h45 := Option.some.inj h45
           subst h45
           refine ⟨[(118, 0, .d (.lit (.bool isv_4_41))), (119, 1, .d (.lit (.bool isv_4_41))), (120, 2, .d (.sl 1 (r39.1.map cC))), (121, 3, .d (.lit (.int .i64 k_4_41))), (122, 4, .cp [.lit (.int .i64 x47)]), (123, 5, .d (.lit (.int .i64 x47))), (124, 6, .bp b8 0 0), (125, 7, .d (.lit (.int .i64 r_0_9.Id))), (126, 8, .d (.lit (.bool ((decide (x47 = r_0_9.Id)))))), (127, 9, .d (.lit (.bool ((decide (x47 = r_0_9.Id))))))], ?_, ?_⟩
           · exact ⟨by kernel_rfl, by kernel_rfl, by kernel_rfl, by kernel_rfl, by kernel_rfl, [([], []), ([0], []), ([1], []), ([1], []), ([1, 2, 3], []), ([1, 4], []), ([1], []), ([1, 6], []), ([1, 5, 7], []), ([1, 8], [])], by kernel_rfl, ⟨fun S hS => aK rfl (aP rfl (aD (v := .d (.lit (.bool isv_4_41))) (aA rfl) (aH hS rfl) rfl)),
      fun S hS => aK rfl (aP rfl (aD (v := .d (.lit (.bool isv_4_41))) (aA rfl) (aH hS rfl) rfl)),
      fun S hS => aK rfl (bH rfl rfl (aA rfl) (aU hS rfl) c46 (aD (v := .d (.sl 1 (r39.1.map cC))) (aA rfl) (aH hS rfl) rfl)),
      fun S hS => aK rfl (bH rfl rfl (aA rfl) (aU hS rfl) c46 (aD (v := .d (.lit (.int .i64 k_4_41))) (aA rfl) (aH hS rfl) rfl)),
      fun S hS => aK rfl (bH rfl rfl (aA rfl) (aU hS rfl) c46 (cE (aA rfl) (aH hS rfl) (aH hS rfl) eO.of (bP cC h48))),
      fun S hS => aK rfl (bH rfl rfl (aA rfl) (aU hS rfl) c46 (cL (aA rfl) (aH hS rfl) bF)),
      fun S hS => aK rfl (bH rfl rfl (aA rfl) (aU hS rfl) c46 (aQ (aA rfl) (aH hS rfl) iP)),
      fun S hS => aK rfl (bH rfl rfl (aA rfl) (aU hS rfl) c46 (aT (aA rfl) (aH hS rfl) (i := 2) rfl rfl bF)),
      fun S hS => aK rfl (bH rfl rfl (aA rfl) (aU hS rfl) c46 (bC (aA rfl) (aH hS rfl) (aH hS rfl) rfl)),
      fun S hS => aK rfl (aP rfl (bN (v := .d (.lit (.bool ((decide (x47 = r_0_9.Id)))))) (aA rfl) (aH hS rfl) c46 (aH hS rfl) rfl)), trivial⟩⟩
           · exact eE (aN rfl (aX ⟨rfl, rfl, rfl, rfl, rfl, rfl, rfl, trivial⟩))
         ·refine tr1 rfl (aJ (v := .d (.lit (.bool b44))) (aA rfl) rfl rfl) ?_
          refine eB ?_
          refine aE ?_
          refine tr1 rfl (aD (v := .d (.lit (.int .i64 k_4_41))) (aA rfl) rfl rfl) ?_
          refine tr1 rfl (aZ (aA rfl) rfl rfl rfl) ?_
          refine tr1 rfl (aJ (v := .d (.lit (.int .i64 ((w64 (k_4_41 + 1)))))) (aA rfl) rfl rfl) ?_
          refine aF ?_
          exact ⟨(b44, w64 (k_4_41 + 1)), h, aW [0, 1, 2] rfl rfl (aN rfl (aN rfl (aX ⟨rfl, rfl, rfl, rfl, rfl, rfl, trivial⟩)))⟩
        ·have h := aR c43 h
         refine cU ?_
         refine .inl ⟨rfl, ?_⟩
         simp only [jC] at h
         refine aG ?_
         refine aE ?_
         refine tr1 rfl (aQ (aA rfl) rfl qF) ?_
         refine tr1 rfl (aT (aA rfl) rfl (i := 1) rfl rfl bF) ?_
         refine tr1 rfl (aQ (aA rfl) rfl iQ) ?_
         refine tr1 rfl (aT (aA rfl) rfl (i := 2) rfl rfl bF) ?_
         refine tr1 rfl (aZ (aA rfl) rfl rfl rfl) ?_
         refine tr1 rfl (aD (v := .d (.lit (.int .i64 frozen_2_27))) (aA rfl) rfl rfl) ?_
         refine tr1 rfl (aZ (aA rfl) rfl rfl rfl) ?_
         refine tr1 rfl (bC (aA rfl) rfl rfl rfl) ?_
         refine tr1 rfl (aD (v := .d (.lit (.bool ((decide (x_1.Week < (w64 ((w64 (r_0_9.Week + 52)) + frozen_2_27)))))))) (aA rfl) rfl rfl) ?_
         obtain ⟨b49, h50, h⟩ := bind_some h
         refine bW 9 [14, 15] 145 b49 ?_ ?_
         ·refine bG (decide (x_1.Week < (w64 ((w64 (r_0_9.Week + 52)) + frozen_2_27)))) (fun c59 => ?_) (fun c59 => ?_)
          ·have h50 := aS c59 h50
           refine aL rfl rfl (aA rfl) rfl c59 (aQ (aA rfl) rfl nG) ?_
           refine aL rfl rfl (aA rfl) rfl c59 (aT (aA rfl) rfl (i := 0) rfl rfl jM) ?_
           refine aL rfl rfl (aA rfl) rfl c59 (aQ (aA rfl) rfl mY) ?_
           refine aL rfl rfl (aA rfl) rfl c59 (aT (aA rfl) rfl (i := 2) rfl rfl bF) ?_
           refine aL rfl rfl (aA rfl) rfl c59 (aQ (aA rfl) rfl iQ) ?_
           refine aL rfl rfl (aA rfl) rfl c59 (aT (aA rfl) rfl (i := 2) rfl rfl bF) ?_
           obtain ⟨r60, h61, h50⟩ := bind_some h50
           refine aL rfl rfl (aA rfl) rfl c59 (bZ (aA rfl) (.func _ _ Try.call25) rfl rfl (BVs.refl _ _) (sY _ _ _ h61) rfl) ?_
           refine aL rfl rfl (aA rfl) rfl c59 (eZ (aA rfl) rfl) ?_
           refine tr1 rfl (bO (v := .d (.lit (.bool (!r60)))) (aA rfl) rfl c59 rfl rfl) ?_
           have h50 := Option.some.inj h50
           subst h50
           refine aF (aY rfl ⟨rfl, rfl, trivial⟩ rfl)
          ·have h50 := aR c59 h50
           refine aO rfl rfl (aA rfl) rfl (aA rfl) rfl c59 ?_
           refine aO rfl rfl (aA rfl) rfl (aA rfl) rfl c59 ?_
           refine aO rfl rfl (aA rfl) rfl (aA rfl) rfl c59 ?_
           refine aO rfl rfl (aA rfl) rfl (aA rfl) rfl c59 ?_
           refine aO rfl rfl (aA rfl) rfl (aA rfl) rfl c59 ?_
           refine aO rfl rfl (aA rfl) rfl (aA rfl) rfl c59 ?_
           refine aO rfl rfl (aA rfl) rfl (aA rfl) rfl c59 ?_
           refine aO rfl rfl (aA rfl) rfl (aA rfl) rfl c59 ?_
           refine tr1 rfl (bN (v := .d (.lit (.bool false))) (aA rfl) rfl c59 rfl rfl) ?_
           have h50 := Option.some.inj h50
           subst h50
           refine aF (aY rfl ⟨rfl, rfl, trivial⟩ rfl)
         ·refine tr1 rfl (aJ (v := .d (.lit (.bool b49))) (aA rfl) rfl rfl) ?_
          refine aF ?_
          refine aG ?_
          refine aE ?_
          refine tr1 rfl (aD (v := .d (.lit (.int .i64 r39.2))) (aA rfl) rfl rfl) ?_
          refine tr1 rfl (bC (aA rfl) rfl rfl rfl) ?_
          refine tr1 rfl (aD (v := .d (.lit (.bool ((decide (r39.2 = 0)))))) (aA rfl) rfl rfl) ?_
          obtain ⟨b51, h52, h⟩ := bind_some h
          refine bW 4 [] 152 b51 ?_ ?_
          ·refine bG (decide (r39.2 = 0)) (fun c58 => ?_) (fun c58 => ?_)
           ·have h52 := aS c58 h52
            refine aL rfl rfl (aA rfl) rfl c58 (aD (v := .d (.lit (.bool isv_4_41))) (aA rfl) rfl rfl) ?_
            refine aL rfl rfl (aA rfl) rfl c58 (aD (v := .d (.lit (.bool b49))) (aA rfl) rfl rfl) ?_
            refine aL rfl rfl (aA rfl) rfl c58 (aIn (aA rfl) rfl rfl Try.underlying4) ?_
            refine tr1 rfl (bO (v := .d (.lit (.bool ((decide (isv_4_41 = b49)))))) (aA rfl) rfl c58 rfl rfl) ?_
            have h52 := Option.some.inj h52
            subst h52
            refine aF (aY rfl trivial rfl)
           ·have h52 := aR c58 h52
            refine aO rfl rfl (aA rfl) rfl (aA rfl) rfl c58 ?_
            refine aO rfl rfl (aA rfl) rfl (aA rfl) rfl c58 ?_
            refine aO rfl rfl (aA rfl) rfl (aA rfl) rfl c58 ?_
            refine tr1 rfl (bN (v := .d (.lit (.bool false))) (aA rfl) rfl c58 rfl rfl) ?_
            have h52 := Option.some.inj h52
            subst h52
            refine aF (aY rfl trivial rfl)
          ·refine tr1 rfl (aD (v := .d (.lit (.bool b51))) (aA rfl) rfl rfl) ?_
           obtain ⟨b53, h54, h⟩ := bind_some h
           refine bW 2 [] 155 b53 ?_ ?_
           ·refine bG (b51) (fun c55 => ?_) (fun c55 => ?_)
            ·have h54 := aS c55 h54
             obtain ⟨r56, h57, h54⟩ := bind_some h54
             refine aL rfl rfl (aA rfl) rfl c55 (bZ (aA rfl) (.func _ _ Try.call16) rfl rfl (BVs.refl _ _) (oJ h57) rfl) ?_
             refine tr1 rfl (bO (v := .d (.lit (.bool r56))) (aA rfl) rfl c55 rfl rfl) ?_
             have h54 := Option.some.inj h54
             subst h54
             refine aF (aY rfl trivial rfl)
            ·have h54 := aR c55 h54
             refine aO rfl rfl (aA rfl) rfl (aA rfl) rfl c55 ?_
             refine tr1 rfl (bN (v := .d (.lit (.bool false))) (aA rfl) rfl c55 rfl rfl) ?_
             have h54 := Option.some.inj h54
             subst h54
             refine aF (aY rfl trivial rfl)
           ·refine tr1 rfl (aJ (v := .d (.lit (.bool b53))) (aA rfl) rfl rfl) ?_
            refine aF ?_
            have h := Option.some.inj h
            subst h
            refine cQ (cG (cK (l := [4]) ⟨rfl, trivial⟩)) ?_
            exact bM ⟨rfl, _, .one _, rfl, rfl⟩

end Go.Am
