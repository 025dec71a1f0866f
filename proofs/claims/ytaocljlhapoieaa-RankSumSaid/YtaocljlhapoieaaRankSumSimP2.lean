/- The functions compute what the shallow ones say: printed by program. -/
import Derived.Test.YtaocljlhapoieaaRankSumSimP1
namespace Go.Am
open Go.Proofs
set_option maxRecDepth 100000
set_option maxHeartbeats 4000000

theorem rA (l_0 : aR) (player_1 : Int) (week_2 : Int) {r : (Option cB) × Int} (h : nM l_0 player_1 week_2 = some r) : fR Try.prog 44 [.agg (aZ l_0), .d (.lit (.int .i64 player_1)), .d (.lit (.int .i64 week_2))] [] (fun r' o' => ∃ (b : Nat) (w0 : Value), r' = .tup [(match r.1 with | none => .d (.lit (.pointer none)) | some _ => .bp b 0 0), .d (.lit (.int .i64 r.2))] ∧ o' = (match r.1 with | none => [] | some x => [.box b 0 [.lit (.int .i64 x.Ledger.Players), .lit (.int .i64 x.Ledger.Counts), .lit w0, .sl 3 (x.Ledger.Bans.map aK), .sl 3 (x.Ledger.Frozen.map aK)], .arr w0 42 5 (x.Ledger.Reports.map aB)])) := by
 unfold nM at h
 refine mG Try.func44 rfl (rs := [.tmp 6, .tmp 7]) Try.results44 Try.ntmps44 (Nat.le_of_ble_eq_true rfl) ?_
 refine aG ?_
 refine aE ?_
 refine cA rfl (fM (v := .agg (aZ l_0)) (aA rfl) rfl rfl rfl) ?_
 rintro _ ⟨b1, rfl⟩
 refine tr1 rfl (aI (v := qA cH (none : Option cB)) (aA rfl) rfl rfl) ?_
 refine tr1 rfl (aI (v := .d (.lit (.int .i64 0))) (aA rfl) rfl rfl) ?_
 refine aF ?_
 refine aG ?_
 refine aE ?_
 refine tr1 rfl (dF (aA rfl) rfl (i := 0) rfl hB (es := (aZ l_0)) rfl rfl) ?_
 obtain ⟨r2, h3, h⟩ := bind_some h
 refine cA rfl (dQ (passed := []) (aA rfl) rfl (.func _ _ Try.call80) rfl rfl (aDa _ h3)) ?_
 rintro _ ⟨_, _, ⟨b5, w6, rfl, rfl⟩, rfl⟩
 obtain ⟨_ | y4, e7⟩ := r2
 ·have h := vD h
  refine fJ (aV [0] rfl rfl (le_refl _)) ?_
  refine tr1 rfl (aC (v := .tup [.d (.lit (.pointer none)), .d (.lit (.int .i64 e7))]) (aA rfl) rfl rfl) ?_
  refine tr1 rfl (cW (aA rfl) rfl rfl) ?_
  refine tr1 rfl (cW (aA rfl) rfl rfl) ?_
  refine tr1 rfl (aI (v := .d (.lit (.pointer none))) (aA rfl) rfl rfl) ?_
  refine tr1 rfl (aI (v := .d (.lit (.int .i64 e7))) (aA rfl) rfl rfl) ?_
  refine aF ?_
  refine aG ?_
  refine aG ?_
  refine aE ?_
  refine tr1 rfl (aC (v := .d (.lit (.int .i64 e7))) (aA rfl) rfl rfl) ?_
  refine tr1 rfl (bB (aA rfl) rfl rfl rfl) ?_
  refine aF ?_
  refine bN rfl (fun c8 => ?_) (fun c8 => ?_)
  ·have h := aP c8 h
   refine aG ?_
   refine aE ?_
   refine tr1 rfl (aC (v := .d (.lit (.int .i64 e7))) (aA rfl) rfl rfl) ?_
   refine tr1 rfl (aI (v := qA cH (none : Option cB)) (aA rfl) rfl rfl) ?_
   refine tr1 rfl (aI (v := .d (.lit (.int .i64 e7))) (aA rfl) rfl rfl) ?_
   refine aF ?_
   have h := Option.some.inj h
   subst h
   exact bT ⟨rfl, _, [], [.box b1 0 (aZ l_0)], _, .two (.tmp 6 (v := qA cH (none : Option cB)) rfl) (.tmp 7 (v := .d (.lit (.int .i64 e7))) rfl), .refl _, .same _, 0, undef, rfl, rfl⟩
  ·have h := aO c8 h
   refine bK ?_
   refine aG ?_
   refine aG ?_
   refine aE ?_
   refine tr1 rfl (aC (v := .d (.lit (.int .i64 player_1))) (aA rfl) rfl rfl) ?_
   refine tr1 rfl (aU (aA rfl) rfl jP) ?_
   refine tr1 rfl (aW (aA rfl) rfl (i := 0) rfl rfl bI) ?_
   refine tr1 rfl (aY (aA rfl) rfl rfl rfl) ?_
   obtain ⟨r9, h10, h⟩ := bind_some h
   refine tr1 rfl (cF (aA rfl) (.func _ _ Try.call47) rfl rfl (BVs.refl _ _) (eY _ _ _ h10) rfl) ?_
   refine tr1 rfl (dB (aA rfl) rfl) ?_
   refine tr1 rfl (aC (v := .d (.lit (.bool (!r9)))) (aA rfl) rfl rfl) ?_
   obtain ⟨b11, h12, h⟩ := bind_some h
   refine bR 4 [8] 28 b11 ?_ ?_
   ·refine bA (!r9) (fun c14 => ?_) (fun c14 => ?_)
    ·have h12 := aP c14 h12
     refine aN rfl rfl (aA rfl) rfl (aA rfl) rfl c14 ?_
     refine aN rfl rfl (aA rfl) rfl (aA rfl) rfl c14 ?_
     refine aN rfl rfl (aA rfl) rfl (aA rfl) rfl c14 ?_
     refine tr1 rfl (bH (v := .d (.lit (.bool true))) (aA rfl) rfl c14 rfl rfl) ?_
     have h12 := Option.some.inj h12
     subst h12
     refine aF (aT rfl ⟨rfl, trivial⟩ rfl)
    ·have h12 := aO c14 h12
     refine aL rfl rfl (aA rfl) rfl c14 (aC (v := .d (.lit (.int .i64 week_2))) (aA rfl) rfl rfl) ?_
     obtain ⟨r15, h16, h12⟩ := bind_some h12
     refine aL rfl rfl (aA rfl) rfl c14 (cF (aA rfl) (.func _ _ Try.call47) rfl rfl (BVs.refl _ _) (eY _ _ _ h16) rfl) ?_
     refine aL rfl rfl (aA rfl) rfl c14 (dB (aA rfl) rfl) ?_
     refine tr1 rfl (bG (v := .d (.lit (.bool (!r15)))) (aA rfl) rfl c14 rfl rfl) ?_
     have h12 := Option.some.inj h12
     subst h12
     refine aF (aT rfl ⟨rfl, trivial⟩ rfl)
   ·refine aF ?_
    refine bN rfl (fun c13 => ?_) (fun c13 => ?_)
    ·have h := aP c13 h
     refine aG ?_
     refine aE ?_
     refine tr1 rfl (aI (v := qA cH (none : Option cB)) (aA rfl) rfl rfl) ?_
     refine tr1 rfl (aI (v := .d (.lit (.int .i64 1))) (aA rfl) rfl rfl) ?_
     refine aF ?_
     have h := Option.some.inj h
     subst h
     exact bT ⟨rfl, _, [], [.box b1 0 (aZ l_0)], _, .two (.tmp 6 (v := qA cH (none : Option cB)) rfl) (.tmp 7 (v := .d (.lit (.int .i64 1))) rfl), .refl _, .same _, 0, undef, rfl, rfl⟩
    ·have h := aO c13 h
     refine bK ?_
     refine aG ?_
     refine aE ?_
     refine tr1 rfl (aC (v := .d (.lit (.pointer none))) (aA rfl) rfl rfl) ?_
     refine tr1 rfl (aI (v := .d (.lit (.pointer none))) (aA rfl) rfl rfl) ?_
     refine tr1 rfl (aI (v := .d (.lit (.int .i64 0))) (aA rfl) rfl rfl) ?_
     refine aF ?_
     have h := Option.some.inj h
     subst h
     exact bT ⟨rfl, _, [], [.box b1 0 (aZ l_0)], _, .two (.tmp 6 (v := .d (.lit (.pointer none))) rfl) (.tmp 7 (v := .d (.lit (.int .i64 0))) rfl), .refl _, .same _, 0, undef, rfl, rfl⟩
 ·have h := vE h
  refine fJ (aV [0, 1, 2] rfl rfl (le_refl _)) ?_
  refine tr1 rfl (aC (v := .tup [.bp b5 0 0, .d (.lit (.int .i64 e7))]) (aA rfl) rfl rfl) ?_
  refine tr1 rfl (cW (aA rfl) rfl rfl) ?_
  refine tr1 rfl (cW (aA rfl) rfl rfl) ?_
  refine tr1 rfl (aI (v := .bp b5 0 0) (aA rfl) rfl rfl) ?_
  refine tr1 rfl (aI (v := .d (.lit (.int .i64 e7))) (aA rfl) rfl rfl) ?_
  refine aF ?_
  refine aG ?_
  refine aG ?_
  refine aE ?_
  refine tr1 rfl (aC (v := .d (.lit (.int .i64 e7))) (aA rfl) rfl rfl) ?_
  refine tr1 rfl (bB (aA rfl) rfl rfl rfl) ?_
  refine aF ?_
  refine bN rfl (fun c17 => ?_) (fun c17 => ?_)
  ·have h := aP c17 h
   refine aG ?_
   refine aE ?_
   refine tr1 rfl (aC (v := .d (.lit (.int .i64 e7))) (aA rfl) rfl rfl) ?_
   refine tr1 rfl (aI (v := qA cH (none : Option cB)) (aA rfl) rfl rfl) ?_
   refine tr1 rfl (aI (v := .d (.lit (.int .i64 e7))) (aA rfl) rfl rfl) ?_
   refine aF ?_
   have h := Option.some.inj h
   subst h
   exact bT ⟨rfl, _, [], [.box b5 0 [.lit (.int .i64 y4.Ledger.Players), .lit (.int .i64 y4.Ledger.Counts), .lit w6, .sl 3 (y4.Ledger.Bans.map aK), .sl 3 (y4.Ledger.Frozen.map aK)], .arr w6 42 5 (y4.Ledger.Reports.map aB), .box b1 0 (aZ l_0)], _, .two (.tmp 6 (v := qA cH (none : Option cB)) rfl) (.tmp 7 (v := .d (.lit (.int .i64 e7))) rfl), .refl _, .same _, 0, undef, rfl, rfl⟩
  ·have h := aO c17 h
   refine bK ?_
   refine aG ?_
   refine aG ?_
   refine aE ?_
   refine tr1 rfl (aC (v := .d (.lit (.int .i64 player_1))) (aA rfl) rfl rfl) ?_
   refine tr1 rfl (aU (aA rfl) rfl jP) ?_
   refine tr1 rfl (aW (aA rfl) rfl (i := 2) rfl rfl bI) ?_
   refine tr1 rfl (aY (aA rfl) rfl rfl rfl) ?_
   obtain ⟨r18, h19, h⟩ := bind_some h
   refine tr1 rfl (cF (aA rfl) (.func _ _ Try.call47) rfl rfl (BVs.refl _ _) (eY _ _ _ h19) rfl) ?_
   refine tr1 rfl (dB (aA rfl) rfl) ?_
   refine tr1 rfl (aC (v := .d (.lit (.bool (!r18)))) (aA rfl) rfl rfl) ?_
   obtain ⟨b20, h21, h⟩ := bind_some h
   refine bR 4 [8] 28 b20 ?_ ?_
   ·refine bA (!r18) (fun c23 => ?_) (fun c23 => ?_)
    ·have h21 := aP c23 h21
     refine aN rfl rfl (aA rfl) rfl (aA rfl) rfl c23 ?_
     refine aN rfl rfl (aA rfl) rfl (aA rfl) rfl c23 ?_
     refine aN rfl rfl (aA rfl) rfl (aA rfl) rfl c23 ?_
     refine tr1 rfl (bH (v := .d (.lit (.bool true))) (aA rfl) rfl c23 rfl rfl) ?_
     have h21 := Option.some.inj h21
     subst h21
     refine aF (aT rfl ⟨rfl, trivial⟩ rfl)
    ·have h21 := aO c23 h21
     refine aL rfl rfl (aA rfl) rfl c23 (aC (v := .d (.lit (.int .i64 week_2))) (aA rfl) rfl rfl) ?_
     obtain ⟨r24, h25, h21⟩ := bind_some h21
     refine aL rfl rfl (aA rfl) rfl c23 (cF (aA rfl) (.func _ _ Try.call47) rfl rfl (BVs.refl _ _) (eY _ _ _ h25) rfl) ?_
     refine aL rfl rfl (aA rfl) rfl c23 (dB (aA rfl) rfl) ?_
     refine tr1 rfl (bG (v := .d (.lit (.bool (!r24)))) (aA rfl) rfl c23 rfl rfl) ?_
     have h21 := Option.some.inj h21
     subst h21
     refine aF (aT rfl ⟨rfl, trivial⟩ rfl)
   ·refine aF ?_
    refine bN rfl (fun c22 => ?_) (fun c22 => ?_)
    ·have h := aP c22 h
     refine aG ?_
     refine aE ?_
     refine tr1 rfl (aI (v := qA cH (none : Option cB)) (aA rfl) rfl rfl) ?_
     refine tr1 rfl (aI (v := .d (.lit (.int .i64 1))) (aA rfl) rfl rfl) ?_
     refine aF ?_
     have h := Option.some.inj h
     subst h
     exact bT ⟨rfl, _, [], [.box b5 0 [.lit (.int .i64 y4.Ledger.Players), .lit (.int .i64 y4.Ledger.Counts), .lit w6, .sl 3 (y4.Ledger.Bans.map aK), .sl 3 (y4.Ledger.Frozen.map aK)], .arr w6 42 5 (y4.Ledger.Reports.map aB), .box b1 0 (aZ l_0)], _, .two (.tmp 6 (v := qA cH (none : Option cB)) rfl) (.tmp 7 (v := .d (.lit (.int .i64 1))) rfl), .refl _, .same _, 0, undef, rfl, rfl⟩
    ·have h := aO c22 h
     refine bK ?_
     refine aG ?_
     refine aE ?_
     refine tr1 rfl (aC (v := .bp b5 0 0) (aA rfl) rfl rfl) ?_
     refine tr1 rfl (aI (v := .bp b5 0 0) (aA rfl) rfl rfl) ?_
     refine tr1 rfl (aI (v := .d (.lit (.int .i64 0))) (aA rfl) rfl rfl) ?_
     refine aF ?_
     have h := Option.some.inj h
     subst h
     exact bT ⟨rfl, _, [.box b5 0 [.lit (.int .i64 y4.Ledger.Players), .lit (.int .i64 y4.Ledger.Counts), .lit w6, .sl 3 (y4.Ledger.Bans.map aK), .sl 3 (y4.Ledger.Frozen.map aK)], .arr w6 42 5 (y4.Ledger.Reports.map aB)], [.box b1 0 (aZ l_0)], _, .two (.tmp 6 (v := .bp b5 0 0) rfl) (.tmp 7 (v := .d (.lit (.int .i64 0))) rfl), .refl _, .same _, b5, w6, rfl, rfl⟩

theorem uI (b_0 : cB) (r_1 : aD) (week_2 : Int) {r : Int} (h : mD b_0 r_1 week_2 = some r) : Fn Try.prog 77 [.cp (cH b_0), .agg (aB r_1), .d (.lit (.int .i64 week_2))] (.d (.lit (.int .i64 r))) := by
 unfold mD at h
 refine Fn.of_tr Try.func77 rfl (rs := [.tmp 6]) Try.results77 Try.ntmps77 (Nat.le_of_ble_eq_true rfl) ?_
 refine aG ?_
 refine aE ?_
 refine cA rfl (fM (v := .agg (aB r_1)) (aA rfl) rfl rfl rfl) ?_
 rintro _ ⟨b1, rfl⟩
 refine tr1 rfl (aI (v := .d (.lit (.int .i64 0))) (aA rfl) rfl rfl) ?_
 refine aF ?_
 refine aG ?_
 refine aE ?_
 refine tr1 rfl (aC (v := .d (.lit (.int .i64 week_2))) (aA rfl) rfl rfl) ?_
 refine tr1 rfl (aU (aA rfl) rfl kJ) ?_
 refine tr1 rfl (aW (aA rfl) rfl (i := 0) rfl rfl bI) ?_
 refine tr1 rfl (aY (aA rfl) rfl rfl rfl) ?_
 refine tr1 rfl (aI (v := .d (.lit (.int .i64 ((w64 (week_2 - r_1.Week)))))) (aA rfl) rfl rfl) ?_
 refine aF ?_
 refine aG ?_
 refine aG ?_
 refine aE ?_
 refine tr1 rfl (aC (v := .cp [.lit (.int .i64 b_0.Ledger.Players), .lit (.int .i64 b_0.Ledger.Counts), .sl 5 (b_0.Ledger.Reports.map aB), .sl 3 (b_0.Ledger.Bans.map aK), .sl 3 (b_0.Ledger.Frozen.map aK)]) (aA rfl) rfl rfl) ?_
 refine tr1 rfl (pB (aA rfl) rfl) ?_
 refine tr1 rfl (bO (aA rfl) rfl iV (es := [.lit (.int .i64 b_0.Ledger.Players), .lit (.int .i64 b_0.Ledger.Counts), .sl 5 (b_0.Ledger.Reports.map aB), .sl 3 (b_0.Ledger.Bans.map aK), .sl 3 (b_0.Ledger.Frozen.map aK)]) rfl) ?_
 refine tr1 rfl (bO (aA rfl) rfl nB (es := [.sl 3 (b_0.Ledger.Frozen.map aK)]) rfl) ?_
 refine tr1 rfl (bP (aA rfl) rfl kX) ?_
 refine tr1 rfl (dR (aA rfl) rfl gC.of) ?_
 refine tr1 rfl (aC (v := .d (.lit (.int .i64 0))) (aA rfl) rfl rfl) ?_
 refine aF ?_
 refine bZ ?_
 refine cM [2, 4, 18, 19] (fun (s2 : Int × Int) => [(7, .d (.lit (.int .i64 s2.1))), (20, .d (.lit (.int .i64 s2.2)))]) (fun (s2 : Int × Int) => [.box b1 0 (aB r_1)]) (fun (k : Nat) (s2 : Int × Int) => iF week_2 b_0.Ledger.Frozen (b_0.Ledger.Frozen.length : Int) r_1 k s2.1 s2.2) (fun _ => rfl) (w64 (week_2 - r_1.Week), 0) h (aV [0] rfl rfl (aM rfl (aM rfl (aX ⟨rfl, rfl, rfl, rfl, trivial⟩)))) ?_
 rintro k3 ⟨n_0_2, t20_0_2⟩ h
 simp only [iF] at h
 refine aG ?_
 refine aE ?_
 refine tr1 rfl (bB (aA rfl) rfl rfl rfl) ?_
 refine aF ?_
 refine aG ?_
 refine bN rfl (fun c4 => ?_) (fun c4 => ?_)
 ·have h := aP c4 h
  refine bK ?_
  refine aG ?_
  refine bZ ?_
  refine aG ?_
  refine aE ?_
  obtain ⟨x5, h6, h⟩ := bind_some h
  refine tr1 rfl (bJ (aA rfl) rfl rfl gC.of (bF aK h6)) ?_
  refine tr1 rfl (fN (aA rfl) rfl wN (es := (aK x5)) rfl rfl) ?_
  refine cA rfl (gR (zs := [.lit (.int .i64 0), .lit (.int .i64 0), .lit (.int .i64 0)]) (aA rfl) Try.zeroValue66 rfl rfl) ?_
  rintro _ ⟨b7, rfl⟩
  refine tr1 rfl (cO (i := 1) rfl rfl rfl rfl rfl Try.sizeOf66 rfl (aA rfl) (Nat.le_of_ble_eq_true rfl) (ds' := (aK x5)) rfl) ?_
  refine aF ?_
  refine aG ?_
  refine aE ?_
  refine tr1 rfl (aU (aA rfl) rfl kK) ?_
  refine tr1 rfl (aW (aA rfl) rfl (i := 1) rfl rfl bI) ?_
  refine tr1 rfl (aU (aA rfl) rfl nJ) ?_
  refine tr1 rfl (aW (aA rfl) rfl (i := 0) rfl rfl bI) ?_
  refine tr1 rfl (bB (aA rfl) rfl rfl rfl) ?_
  refine aF ?_
  refine bN rfl (fun c8 => ?_) (fun c8 => ?_)
  ·have h := aP c8 h
   refine aE ?_
   refine tr1 rfl (aC (v := .d (.lit (.int .i64 n_0_2))) (aA rfl) rfl rfl) ?_
   refine tr1 rfl (aU (aA rfl) rfl lG) ?_
   refine tr1 rfl (aW (aA rfl) rfl (i := 1) rfl rfl bI) ?_
   refine tr1 rfl (aC (v := .d (.lit (.int .i64 week_2))) (aA rfl) rfl rfl) ?_
   refine tr1 rfl (aBk (aA rfl) rfl rfl) ?_
   refine tr1 rfl (aU (aA rfl) rfl jQ) ?_
   refine tr1 rfl (aW (aA rfl) rfl (i := 1) rfl rfl bI) ?_
   refine tr1 rfl (aU (aA rfl) rfl kJ) ?_
   refine tr1 rfl (aW (aA rfl) rfl (i := 0) rfl rfl bI) ?_
   refine tr1 rfl (aY (aA rfl) rfl rfl rfl) ?_
   refine tr1 rfl (oZ (aA rfl) rfl rfl) ?_
   refine tr1 rfl (aY (aA rfl) rfl rfl rfl) ?_
   refine tr1 rfl (aY (aA rfl) rfl rfl rfl) ?_
   refine tr1 rfl (oZ (aA rfl) rfl rfl) ?_
   refine tr1 rfl (aY (aA rfl) rfl rfl rfl) ?_
   refine tr1 rfl (aI (v := .d (.lit (.int .i64 ((w64 (n_0_2 - (max 0 (w64 ((w64 ((min x5.To week_2) - (max x5.From (w64 (r_1.Week + 1))))) + 1))))))))) (aA rfl) rfl rfl) ?_
   refine dE ?_
   refine aE ?_
   refine tr1 rfl (aY (aA rfl) rfl rfl rfl) ?_
   refine tr1 rfl (aC (v := .d (.lit (.int .i64 ((w64 (t20_0_2 + 1)))))) (aA rfl) rfl rfl) ?_
   refine aF ?_
   exact ⟨(w64 (n_0_2 - (max 0 (w64 ((w64 ((min x5.To week_2) - (max x5.From (w64 (r_1.Week + 1))))) + 1)))), w64 (t20_0_2 + 1)), h, aV [0] rfl rfl (aM rfl (aM rfl (aX ⟨rfl, rfl, rfl, rfl, trivial⟩)))⟩
  ·have h := aO c8 h
   refine dK ?_
   refine aE ?_
   refine tr1 rfl (aY (aA rfl) rfl rfl rfl) ?_
   refine tr1 rfl (aC (v := .d (.lit (.int .i64 ((w64 (t20_0_2 + 1)))))) (aA rfl) rfl rfl) ?_
   refine aF ?_
   exact ⟨(n_0_2, w64 (t20_0_2 + 1)), h, aV [0] rfl rfl (aM rfl (aM rfl (aX ⟨rfl, rfl, rfl, rfl, trivial⟩)))⟩
 ·have h := aO c4 h
  refine cT ?_
  refine .inl ⟨rfl, ?_⟩
  simp only [qK] at h
  refine aG ?_
  refine aE ?_
  refine tr1 rfl (aC (v := .d (.lit (.int .i64 n_0_2))) (aA rfl) rfl rfl) ?_
  refine tr1 rfl (aI (v := .d (.lit (.int .i64 n_0_2))) (aA rfl) rfl rfl) ?_
  refine aF ?_
  have h := Option.some.inj h
  subst h
  refine cP (cD (cJ (l := [6]) ⟨rfl, trivial⟩)) ?_
  exact bT ⟨rfl, _, .one _, rfl, rfl⟩

theorem aBe (a_0 : bD) (c_1 : Int) (c_2 : Int) {r : Bool} (h : pS a_0 c_1 c_2 = some r) : Fn Try.prog 83 [.agg (aK a_0), .cp [.lit (.int .i64 c_1)], .cp [.lit (.int .i64 c_2)]] (.d (.lit (.bool r))) := by
 unfold pS at h
 refine Fn.of_tr Try.func83 rfl (rs := [.tmp 4]) Try.results83 Try.ntmps83 (Nat.le_of_ble_eq_true rfl) ?_
 refine aG ?_
 refine aE ?_
 refine cA rfl (fM (v := .agg (aK a_0)) (aA rfl) rfl rfl rfl) ?_
 rintro _ ⟨b1, rfl⟩
 refine tr1 rfl (aI (v := .d (.lit (.bool false))) (aA rfl) rfl rfl) ?_
 refine aF ?_
 refine aG ?_
 refine aE ?_
 refine tr1 rfl (aU (aA rfl) rfl kK) ?_
 refine tr1 rfl (aW (aA rfl) rfl (i := 0) rfl rfl bI) ?_
 refine tr1 rfl (bP (aA rfl) rfl bI) ?_
 refine tr1 rfl (bB (aA rfl) rfl rfl rfl) ?_
 refine tr1 rfl (aC (v := .d (.lit (.bool ((decide (a_0.Player = c_1)))))) (aA rfl) rfl rfl) ?_
 obtain ⟨b2, h3, h⟩ := bind_some h
 refine bR 7 [] 16 b2 ?_ ?_
 ·refine bA (decide (a_0.Player = c_1)) (fun c4 => ?_) (fun c4 => ?_)
  ·have h3 := aP c4 h3
   refine aL rfl rfl (aA rfl) rfl c4 (bP (aA rfl) rfl bI) ?_
   refine aL rfl rfl (aA rfl) rfl c4 (aU (aA rfl) rfl jQ) ?_
   refine aL rfl rfl (aA rfl) rfl c4 (aW (aA rfl) rfl (i := 0) rfl rfl bI) ?_
   refine aL rfl rfl (aA rfl) rfl c4 (aU (aA rfl) rfl lG) ?_
   refine aL rfl rfl (aA rfl) rfl c4 (aW (aA rfl) rfl (i := 0) rfl rfl bI) ?_
   obtain ⟨r5, h6, h3⟩ := bind_some h3
   refine aL rfl rfl (aA rfl) rfl c4 (cF (aA rfl) (.func _ _ Try.call47) rfl rfl (BVs.refl _ _) (eY _ _ _ h6) rfl) ?_
   refine tr1 rfl (bH (v := .d (.lit (.bool r5))) (aA rfl) rfl c4 rfl rfl) ?_
   have h3 := Option.some.inj h3
   subst h3
   refine aF (aT rfl trivial rfl)
  ·have h3 := aO c4 h3
   refine aN rfl rfl (aA rfl) rfl (aA rfl) rfl c4 ?_
   refine aN rfl rfl (aA rfl) rfl (aA rfl) rfl c4 ?_
   refine aN rfl rfl (aA rfl) rfl (aA rfl) rfl c4 ?_
   refine aN rfl rfl (aA rfl) rfl (aA rfl) rfl c4 ?_
   refine aN rfl rfl (aA rfl) rfl (aA rfl) rfl c4 ?_
   refine aN rfl rfl (aA rfl) rfl (aA rfl) rfl c4 ?_
   refine tr1 rfl (bG (v := .d (.lit (.bool false))) (aA rfl) rfl c4 rfl rfl) ?_
   have h3 := Option.some.inj h3
   subst h3
   refine aF (aT rfl trivial rfl)
 ·refine tr1 rfl (aI (v := .d (.lit (.bool b2))) (aA rfl) rfl rfl) ?_
  refine aF ?_
  have h := Option.some.inj h
  subst h
  refine cP (cD (cJ (l := [4]) ⟨rfl, trivial⟩)) ?_
  exact bT ⟨rfl, _, .one _, rfl, rfl⟩

theorem uP (all_0 : List bD) (player_1 : Int) (week_2 : Int) {r : Bool} (h : mK all_0 player_1 week_2 = some r) : Fn Try.prog 48 [.d (.sl 3 (all_0.map aK)), .d (.lit (.int .i64 player_1)), .d (.lit (.int .i64 week_2))] (.d (.lit (.bool r))) := by
 unfold mK at h
 refine Fn.of_tr Try.func48 rfl (rs := [.tmp 6]) Try.results48 Try.ntmps48 (Nat.le_of_ble_eq_true rfl) ?_
 refine aG ?_
 refine aE ?_
 refine cA rfl (fM (v := .d (.lit (.int .i64 player_1))) (aA rfl) rfl rfl rfl) ?_
 rintro _ ⟨b1, rfl⟩
 refine cA rfl (fM (v := .d (.lit (.int .i64 week_2))) (aA rfl) rfl rfl rfl) ?_
 rintro _ ⟨b2, rfl⟩
 refine tr1 rfl (aI (v := .d (.lit (.bool false))) (aA rfl) rfl rfl) ?_
 refine aF ?_
 refine aG ?_
 refine aE ?_
 refine tr1 rfl (aC (v := .d (.sl 3 (all_0.map aK))) (aA rfl) rfl rfl) ?_
 refine tr1 rfl (xG (aA rfl) rfl rfl) ?_
 obtain ⟨r4, h5, h⟩ := bind_some h
 refine tr1 rfl (cF (aA rfl) (.func _ _ Try.call82) rfl rfl (.cons (.same _) (.cons ((aBj (.cons ((mH 0 rfl rfl (dvc (.same _) dvn))) (.cons ((mH 1 rfl rfl (dvc (.same _) dvn))) .nil)))) .nil)) (jH _ _ 83 [.cp [.lit (.int .i64 player_1)], .cp [.lit (.int .i64 week_2)]] Try.call83 (fun _ _ h => aBe _ _ _ h) h5) rfl) ?_
 refine tr1 rfl (aI (v := .d (.lit (.bool r4))) (aA rfl) rfl rfl) ?_
 refine aF ?_
 have h := Option.some.inj h
 subst h
 refine cP (cD (cJ (l := [6]) ⟨rfl, trivial⟩)) ?_
 exact bT ⟨rfl, _, .one _, rfl, rfl⟩

theorem pJ (b_0 : cB) (player_1 : Int) (week_2 : Int) {r : (List aD)} (h : jS b_0 player_1 week_2 = some r) : Fn Try.prog 72 [.cp (cH b_0), .d (.lit (.int .i64 player_1)), .d (.lit (.int .i64 week_2))] (.d (.sl 5 (r.map aB))) := by
 unfold jS at h
 refine Fn.of_tr Try.func72 rfl (rs := [.tmp 6]) Try.results72 Try.ntmps72 (Nat.le_of_ble_eq_true rfl) ?_
 refine aG ?_
 refine aE ?_
 refine tr1 rfl (pA 5 (aA rfl)) ?_
 refine aF ?_
 refine aG ?_
 refine aE ?_
 refine tr1 rfl (iI 42 5 (.inl rfl) (aA rfl)) ?_
 refine aF ?_
 refine aG ?_
 refine aG ?_
 refine aE ?_
 refine tr1 rfl (aC (v := .cp [.lit (.int .i64 b_0.Ledger.Players), .lit (.int .i64 b_0.Ledger.Counts), .sl 5 (b_0.Ledger.Reports.map aB), .sl 3 (b_0.Ledger.Bans.map aK), .sl 3 (b_0.Ledger.Frozen.map aK)]) (aA rfl) rfl rfl) ?_
 refine tr1 rfl (pB (aA rfl) rfl) ?_
 refine tr1 rfl (bO (aA rfl) rfl iV (es := [.lit (.int .i64 b_0.Ledger.Players), .lit (.int .i64 b_0.Ledger.Counts), .sl 5 (b_0.Ledger.Reports.map aB), .sl 3 (b_0.Ledger.Bans.map aK), .sl 3 (b_0.Ledger.Frozen.map aK)]) rfl) ?_
 refine tr1 rfl (bO (aA rfl) rfl fU (es := [.sl 5 (b_0.Ledger.Reports.map aB)]) rfl) ?_
 refine tr1 rfl (bP (aA rfl) rfl kF) ?_
 refine tr1 rfl (dR (aA rfl) rfl bQ.of) ?_
 refine tr1 rfl (aC (v := .d (.lit (.int .i64 0))) (aA rfl) rfl rfl) ?_
 refine aF ?_
 refine bZ ?_
 refine cM [0, 1, 2, 14, 15] (fun (s2 : Int × (List aD) × Value) => [(7, .d (.lit s2.2.2)), (16, .d (.lit (.int .i64 s2.1)))]) (fun (s2 : Int × (List aD) × Value) => [.arr s2.2.2 42 5 (s2.2.1.map aB)]) (fun (k : Nat) (s2 : Int × (List aD) × Value) => gK b_0 player_1 week_2 b_0.Ledger.Reports (b_0.Ledger.Reports.length : Int) k s2.1 s2.2.1) (fun _ => rfl) (0, ([] : List aD), (.slice none 0 0)) h (aV [0] rfl rfl (aM rfl (aM rfl (aX ⟨rfl, rfl, rfl, rfl, rfl, trivial⟩)))) ?_
 rintro k4 ⟨t16_0_2, out_0_2, w3⟩ h
 simp only [gK] at h
 refine aG ?_
 refine aE ?_
 refine tr1 rfl (bB (aA rfl) rfl rfl rfl) ?_
 refine aF ?_
 refine aG ?_
 refine bN rfl (fun c5 => ?_) (fun c5 => ?_)
 ·have h := aP c5 h
  refine bK ?_
  refine aG ?_
  refine bZ ?_
  refine aG ?_
  refine aE ?_
  obtain ⟨x6, h7, h⟩ := bind_some h
  refine tr1 rfl (bJ (aA rfl) rfl rfl bQ.of (bF aB h7)) ?_
  refine tr1 rfl (fN (aA rfl) rfl dW (es := (aB x6)) rfl rfl) ?_
  refine cA rfl (gR (zs := [.lit (.int .i64 0), .lit (.int .i64 0), .lit (.int .i64 0), .lit (.int .i64 0), .lit (.bool false)]) (aA rfl) Try.zeroValue42 rfl rfl) ?_
  rintro _ ⟨b8, rfl⟩
  refine tr1 rfl (cO (i := 1) rfl rfl rfl rfl rfl Try.sizeOf42 rfl (aA rfl) (Nat.le_of_ble_eq_true rfl) (ds' := (aB x6)) rfl) ?_
  refine aF ?_
  refine aG ?_
  obtain ⟨b9, h10, h⟩ := bind_some h
  obtain ⟨b12, h13, h⟩ := bind_some h
  obtain ⟨b17, h18, h⟩ := bind_some h
  refine gA mix 29 [0, 1, 2, 7, 9, 14, 15, 16] [(48, .d (.lit (.bool b17)))] ?_ ?_
  ·refine bA (decide (x6.Player = player_1)) (fun c11 => ?_) (fun c11 => ?_)
   ·have h10 := aP c11 h10
    have h10 := Option.some.inj h10
    subst h10
    refine bA (decide (x6.Week ≤ week_2)) (fun c14 => ?_) (fun c14 => ?_)
    ·have h13 := aP c14 h13
     obtain ⟨r15, h16, h13⟩ := bind_some h13
     have h13 := Option.some.inj h13
     subst h13
     refine bA (decide (r15 < 52)) (fun c19 => ?_) (fun c19 => ?_)
     ·have h18 := aP c19 h18
      obtain ⟨r20, h21, h18⟩ := bind_some h18
      have h18 := Option.some.inj h18
      subst h18
      refine ⟨[(20, 0, .bp b8 0 1), (21, 1, .d (.lit (.int .i64 x6.Player))), (22, 2, .d (.lit (.int .i64 player_1))), (23, 3, .d (.lit (.bool ((decide (x6.Player = player_1)))))), (24, 4, .d (.lit (.bool ((decide (x6.Player = player_1)))))), (25, 5, .bp b8 0 2), (26, 6, .d (.lit (.int .i64 x6.Week))), (27, 7, .d (.lit (.int .i64 week_2))), (28, 8, .d (.lit (.bool ((decide (x6.Week ≤ week_2)))))), (29, 9, .d (.lit (.bool ((decide (x6.Week ≤ week_2)))))), (30, 10, .d (.lit (.bool (decide (x6.Week ≤ week_2))))), (31, 11, .cp [.lit (.int .i64 b_0.Ledger.Players), .lit (.int .i64 b_0.Ledger.Counts), .sl 5 (b_0.Ledger.Reports.map aB), .sl 3 (b_0.Ledger.Bans.map aK), .sl 3 (b_0.Ledger.Frozen.map aK)]), (32, 12, .agg (aB x6)), (33, 13, .d (.lit (.int .i64 week_2))), (34, 14, .d (.lit (.int .i64 r15))), (35, 15, .d (.lit (.bool ((decide (r15 < 52)))))), (36, 16, .d (.lit (.bool ((decide (r15 < 52)))))), (37, 17, .d (.lit (.bool (decide (r15 < 52))))), (38, 18, .cp [.lit (.int .i64 b_0.Ledger.Players), .lit (.int .i64 b_0.Ledger.Counts), .sl 5 (b_0.Ledger.Reports.map aB), .sl 3 (b_0.Ledger.Bans.map aK), .sl 3 (b_0.Ledger.Frozen.map aK)]), (39, 19, .cp [.lit (.int .i64 b_0.Ledger.Players), .lit (.int .i64 b_0.Ledger.Counts), .sl 5 (b_0.Ledger.Reports.map aB), .sl 3 (b_0.Ledger.Bans.map aK), .sl 3 (b_0.Ledger.Frozen.map aK)]), (40, 20, .cp [.lit (.int .i64 b_0.Ledger.Players), .lit (.int .i64 b_0.Ledger.Counts), .sl 5 (b_0.Ledger.Reports.map aB), .sl 3 (b_0.Ledger.Bans.map aK), .sl 3 (b_0.Ledger.Frozen.map aK)]), (41, 21, .cp [.sl 3 (b_0.Ledger.Bans.map aK)]), (42, 22, .d (.sl 3 (b_0.Ledger.Bans.map aK))), (43, 23, .d (.lit (.int .i64 player_1))), (44, 24, .bp b8 0 2), (45, 25, .d (.lit (.int .i64 x6.Week))), (46, 26, .d (.lit (.bool r20))), (47, 27, .d (.lit (.bool (!r20)))), (48, 28, .d (.lit (.bool (!r20))))], ?_, ?_⟩
      · exact ⟨by kernel_rfl, by kernel_rfl, by kernel_rfl, by kernel_rfl, by kernel_rfl, [([], []), ([0], []), ([], []), ([1, 2], []), ([3], []), ([4], []), ([4, 5], []), ([4], []), ([4, 6, 7], []), ([4, 8], []), ([9], []), ([10], []), ([10], []), ([10], []), ([10, 11, 12, 13], []), ([10, 14], []), ([10, 15], []), ([16], []), ([17], []), ([17, 18], []), ([17, 19], []), ([17, 20], []), ([17, 21], []), ([17], []), ([17], []), ([17, 24], []), ([17, 22, 23, 25], []), ([17, 26], []), ([17, 27], [])], by kernel_rfl, ⟨fun S hS => aJ rfl (aQ rfl (aU (aA rfl) (aH hS rfl) nJ)),
      fun S hS => aJ rfl (aQ rfl (aW (aA rfl) (aH hS rfl) (i := 1) rfl rfl bI)),
      fun S hS => aJ rfl (aQ rfl (aC (v := .d (.lit (.int .i64 player_1))) (aA rfl) (aH hS rfl) rfl)),
      fun S hS => aJ rfl (aQ rfl (bB (aA rfl) (aH hS rfl) (aH hS rfl) rfl)),
      fun S hS => aJ rfl (aQ rfl (aC (v := .d (.lit (.bool ((decide (x6.Player = player_1)))))) (aA rfl) (aH hS rfl) rfl)),
      fun S hS => aJ rfl (bL rfl rfl (aA rfl) (aS hS rfl) c11 (aU (aA rfl) (aH hS rfl) kJ)),
      fun S hS => aJ rfl (bL rfl rfl (aA rfl) (aS hS rfl) c11 (aW (aA rfl) (aH hS rfl) (i := 1) rfl rfl bI)),
      fun S hS => aJ rfl (bL rfl rfl (aA rfl) (aS hS rfl) c11 (aC (v := .d (.lit (.int .i64 week_2))) (aA rfl) (aH hS rfl) rfl)),
      fun S hS => aJ rfl (bL rfl rfl (aA rfl) (aS hS rfl) c11 (bB (aA rfl) (aH hS rfl) (aH hS rfl) rfl)),
      fun S hS => aJ rfl (aQ rfl (bH (v := .d (.lit (.bool ((decide (x6.Week ≤ week_2)))))) (aA rfl) (aH hS rfl) c11 (aH hS rfl) rfl)),
      fun S hS => aJ rfl (aQ rfl (aC (v := .d (.lit (.bool (decide (x6.Week ≤ week_2))))) (aA rfl) (aH hS rfl) rfl)),
      fun S hS => aJ rfl (bL rfl rfl (aA rfl) (aS hS rfl) c14 (aC (v := .cp [.lit (.int .i64 b_0.Ledger.Players), .lit (.int .i64 b_0.Ledger.Counts), .sl 5 (b_0.Ledger.Reports.map aB), .sl 3 (b_0.Ledger.Bans.map aK), .sl 3 (b_0.Ledger.Frozen.map aK)]) (aA rfl) (aH hS rfl) rfl)),
      fun S hS => aJ rfl (bL rfl rfl (aA rfl) (aS hS rfl) c14 (dF (aA rfl) (aH hS rfl) (i := 1) rfl dW (es := (aB x6)) rfl rfl)),
      fun S hS => aJ rfl (bL rfl rfl (aA rfl) (aS hS rfl) c14 (aC (v := .d (.lit (.int .i64 week_2))) (aA rfl) (aH hS rfl) rfl)),
      fun S hS => aJ rfl (bL rfl rfl (aA rfl) (aS hS rfl) c14 (cF (aA rfl) (.func _ _ Try.call77) (ev2 (aH hS rfl) (ev2 (aH hS rfl) (ev2 (aH hS rfl) evn))) rfl (BVs.refl _ _) (uI _ _ _ h16) rfl)),
      fun S hS => aJ rfl (bL rfl rfl (aA rfl) (aS hS rfl) c14 (bB (aA rfl) (aH hS rfl) rfl rfl)),
      fun S hS => aJ rfl (aQ rfl (bH (v := .d (.lit (.bool ((decide (r15 < 52)))))) (aA rfl) (aH hS rfl) c14 (aH hS rfl) rfl)),
      fun S hS => aJ rfl (aQ rfl (aC (v := .d (.lit (.bool (decide (r15 < 52))))) (aA rfl) (aH hS rfl) rfl)),
      fun S hS => aJ rfl (bL rfl rfl (aA rfl) (aS hS rfl) c19 (aC (v := .cp [.lit (.int .i64 b_0.Ledger.Players), .lit (.int .i64 b_0.Ledger.Counts), .sl 5 (b_0.Ledger.Reports.map aB), .sl 3 (b_0.Ledger.Bans.map aK), .sl 3 (b_0.Ledger.Frozen.map aK)]) (aA rfl) (aH hS rfl) rfl)),
      fun S hS => aJ rfl (bL rfl rfl (aA rfl) (aS hS rfl) c19 (pB (aA rfl) (aH hS rfl))),
      fun S hS => aJ rfl (bL rfl rfl (aA rfl) (aS hS rfl) c19 (bO (aA rfl) (aH hS rfl) iV (es := [.lit (.int .i64 b_0.Ledger.Players), .lit (.int .i64 b_0.Ledger.Counts), .sl 5 (b_0.Ledger.Reports.map aB), .sl 3 (b_0.Ledger.Bans.map aK), .sl 3 (b_0.Ledger.Frozen.map aK)]) rfl)),
      fun S hS => aJ rfl (bL rfl rfl (aA rfl) (aS hS rfl) c19 (bO (aA rfl) (aH hS rfl) qH (es := [.sl 3 (b_0.Ledger.Bans.map aK)]) rfl)),
      fun S hS => aJ rfl (bL rfl rfl (aA rfl) (aS hS rfl) c19 (bP (aA rfl) (aH hS rfl) kX)),
      fun S hS => aJ rfl (bL rfl rfl (aA rfl) (aS hS rfl) c19 (aC (v := .d (.lit (.int .i64 player_1))) (aA rfl) (aH hS rfl) rfl)),
      fun S hS => aJ rfl (bL rfl rfl (aA rfl) (aS hS rfl) c19 (aU (aA rfl) (aH hS rfl) kJ)),
      fun S hS => aJ rfl (bL rfl rfl (aA rfl) (aS hS rfl) c19 (aW (aA rfl) (aH hS rfl) (i := 1) rfl rfl bI)),
      fun S hS => aJ rfl (bL rfl rfl (aA rfl) (aS hS rfl) c19 (cF (aA rfl) (.func _ _ Try.call48) (ev2 (aH hS rfl) (ev2 (aH hS rfl) (ev2 (aH hS rfl) evn))) rfl (BVs.refl _ _) (uP _ _ _ h21) rfl)),
      fun S hS => aJ rfl (bL rfl rfl (aA rfl) (aS hS rfl) c19 (dB (aA rfl) (aH hS rfl))),
      fun S hS => aJ rfl (aQ rfl (bH (v := .d (.lit (.bool (!r20)))) (aA rfl) (aH hS rfl) c19 (aH hS rfl) rfl)), trivial⟩⟩
      · exact eC (aM rfl (aX ⟨rfl, rfl, rfl, rfl, rfl, rfl, rfl, rfl, trivial⟩))
     ·have h18 := aO c19 h18
      have h18 := Option.some.inj h18
      subst h18
      refine ⟨[(20, 0, .bp b8 0 1), (21, 1, .d (.lit (.int .i64 x6.Player))), (22, 2, .d (.lit (.int .i64 player_1))), (23, 3, .d (.lit (.bool ((decide (x6.Player = player_1)))))), (24, 4, .d (.lit (.bool ((decide (x6.Player = player_1)))))), (25, 5, .bp b8 0 2), (26, 6, .d (.lit (.int .i64 x6.Week))), (27, 7, .d (.lit (.int .i64 week_2))), (28, 8, .d (.lit (.bool ((decide (x6.Week ≤ week_2)))))), (29, 9, .d (.lit (.bool ((decide (x6.Week ≤ week_2)))))), (30, 10, .d (.lit (.bool (decide (x6.Week ≤ week_2))))), (31, 11, .cp [.lit (.int .i64 b_0.Ledger.Players), .lit (.int .i64 b_0.Ledger.Counts), .sl 5 (b_0.Ledger.Reports.map aB), .sl 3 (b_0.Ledger.Bans.map aK), .sl 3 (b_0.Ledger.Frozen.map aK)]), (32, 12, .agg (aB x6)), (33, 13, .d (.lit (.int .i64 week_2))), (34, 14, .d (.lit (.int .i64 r15))), (35, 15, .d (.lit (.bool ((decide (r15 < 52)))))), (36, 16, .d (.lit (.bool ((decide (r15 < 52)))))), (37, 17, .d (.lit (.bool (decide (r15 < 52))))), (38, 18, .tup []), (39, 19, .tup []), (40, 20, .tup []), (41, 21, .tup []), (42, 22, .tup []), (43, 23, .tup []), (44, 24, .tup []), (45, 25, .tup []), (46, 26, .tup []), (47, 27, .tup []), (48, 28, .d (.lit (.bool false)))], ?_, ?_⟩
      · exact ⟨by kernel_rfl, by kernel_rfl, by kernel_rfl, by kernel_rfl, by kernel_rfl, [([], []), ([0], []), ([], []), ([1, 2], []), ([3], []), ([4], []), ([4, 5], []), ([4], []), ([4, 6, 7], []), ([4, 8], []), ([9], []), ([10], []), ([10], []), ([10], []), ([10, 11, 12, 13], []), ([10, 14], []), ([10, 15], []), ([16], []), ([17], []), ([17, 18], []), ([17, 19], []), ([17, 20], []), ([17, 21], []), ([17], []), ([17], []), ([17, 24], []), ([17, 22, 23, 25], []), ([17, 26], []), ([17, 27], [])], by kernel_rfl, ⟨fun S hS => aJ rfl (aQ rfl (aU (aA rfl) (aH hS rfl) nJ)),
      fun S hS => aJ rfl (aQ rfl (aW (aA rfl) (aH hS rfl) (i := 1) rfl rfl bI)),
      fun S hS => aJ rfl (aQ rfl (aC (v := .d (.lit (.int .i64 player_1))) (aA rfl) (aH hS rfl) rfl)),
      fun S hS => aJ rfl (aQ rfl (bB (aA rfl) (aH hS rfl) (aH hS rfl) rfl)),
      fun S hS => aJ rfl (aQ rfl (aC (v := .d (.lit (.bool ((decide (x6.Player = player_1)))))) (aA rfl) (aH hS rfl) rfl)),
      fun S hS => aJ rfl (bL rfl rfl (aA rfl) (aS hS rfl) c11 (aU (aA rfl) (aH hS rfl) kJ)),
      fun S hS => aJ rfl (bL rfl rfl (aA rfl) (aS hS rfl) c11 (aW (aA rfl) (aH hS rfl) (i := 1) rfl rfl bI)),
      fun S hS => aJ rfl (bL rfl rfl (aA rfl) (aS hS rfl) c11 (aC (v := .d (.lit (.int .i64 week_2))) (aA rfl) (aH hS rfl) rfl)),
      fun S hS => aJ rfl (bL rfl rfl (aA rfl) (aS hS rfl) c11 (bB (aA rfl) (aH hS rfl) (aH hS rfl) rfl)),
      fun S hS => aJ rfl (aQ rfl (bH (v := .d (.lit (.bool ((decide (x6.Week ≤ week_2)))))) (aA rfl) (aH hS rfl) c11 (aH hS rfl) rfl)),
      fun S hS => aJ rfl (aQ rfl (aC (v := .d (.lit (.bool (decide (x6.Week ≤ week_2))))) (aA rfl) (aH hS rfl) rfl)),
      fun S hS => aJ rfl (bL rfl rfl (aA rfl) (aS hS rfl) c14 (aC (v := .cp [.lit (.int .i64 b_0.Ledger.Players), .lit (.int .i64 b_0.Ledger.Counts), .sl 5 (b_0.Ledger.Reports.map aB), .sl 3 (b_0.Ledger.Bans.map aK), .sl 3 (b_0.Ledger.Frozen.map aK)]) (aA rfl) (aH hS rfl) rfl)),
      fun S hS => aJ rfl (bL rfl rfl (aA rfl) (aS hS rfl) c14 (dF (aA rfl) (aH hS rfl) (i := 1) rfl dW (es := (aB x6)) rfl rfl)),
      fun S hS => aJ rfl (bL rfl rfl (aA rfl) (aS hS rfl) c14 (aC (v := .d (.lit (.int .i64 week_2))) (aA rfl) (aH hS rfl) rfl)),
      fun S hS => aJ rfl (bL rfl rfl (aA rfl) (aS hS rfl) c14 (cF (aA rfl) (.func _ _ Try.call77) (ev2 (aH hS rfl) (ev2 (aH hS rfl) (ev2 (aH hS rfl) evn))) rfl (BVs.refl _ _) (uI _ _ _ h16) rfl)),
      fun S hS => aJ rfl (bL rfl rfl (aA rfl) (aS hS rfl) c14 (bB (aA rfl) (aH hS rfl) rfl rfl)),
      fun S hS => aJ rfl (aQ rfl (bH (v := .d (.lit (.bool ((decide (r15 < 52)))))) (aA rfl) (aH hS rfl) c14 (aH hS rfl) rfl)),
      fun S hS => aJ rfl (aQ rfl (aC (v := .d (.lit (.bool (decide (r15 < 52))))) (aA rfl) (aH hS rfl) rfl)),
      fun S hS => aJ rfl (bE rfl rfl (aA rfl) rfl (aA rfl) (aS hS rfl) c19),
      fun S hS => aJ rfl (bE rfl rfl (aA rfl) rfl (aA rfl) (aS hS rfl) c19),
      fun S hS => aJ rfl (bE rfl rfl (aA rfl) rfl (aA rfl) (aS hS rfl) c19),
      fun S hS => aJ rfl (bE rfl rfl (aA rfl) rfl (aA rfl) (aS hS rfl) c19),
      fun S hS => aJ rfl (bE rfl rfl (aA rfl) rfl (aA rfl) (aS hS rfl) c19),
      fun S hS => aJ rfl (bE rfl rfl (aA rfl) rfl (aA rfl) (aS hS rfl) c19),
      fun S hS => aJ rfl (bE rfl rfl (aA rfl) rfl (aA rfl) (aS hS rfl) c19),
      fun S hS => aJ rfl (bE rfl rfl (aA rfl) rfl (aA rfl) (aS hS rfl) c19),
      fun S hS => aJ rfl (bE rfl rfl (aA rfl) rfl (aA rfl) (aS hS rfl) c19),
      fun S hS => aJ rfl (bE rfl rfl (aA rfl) rfl (aA rfl) (aS hS rfl) c19),
      fun S hS => aJ rfl (aQ rfl (bG (v := .d (.lit (.bool false))) (aA rfl) (aH hS rfl) c19 rfl rfl)), trivial⟩⟩
      · exact eC (aM rfl (aX ⟨rfl, rfl, rfl, rfl, rfl, rfl, rfl, rfl, trivial⟩))
    ·have h13 := aO c14 h13
     have h13 := Option.some.inj h13
     subst h13
     have c19 : false = false := rfl
     have h18 := aO c19 h18
     have h18 := Option.some.inj h18
     subst h18
     refine ⟨[(20, 0, .bp b8 0 1), (21, 1, .d (.lit (.int .i64 x6.Player))), (22, 2, .d (.lit (.int .i64 player_1))), (23, 3, .d (.lit (.bool ((decide (x6.Player = player_1)))))), (24, 4, .d (.lit (.bool ((decide (x6.Player = player_1)))))), (25, 5, .bp b8 0 2), (26, 6, .d (.lit (.int .i64 x6.Week))), (27, 7, .d (.lit (.int .i64 week_2))), (28, 8, .d (.lit (.bool ((decide (x6.Week ≤ week_2)))))), (29, 9, .d (.lit (.bool ((decide (x6.Week ≤ week_2)))))), (30, 10, .d (.lit (.bool (decide (x6.Week ≤ week_2))))), (31, 11, .tup []), (32, 12, .tup []), (33, 13, .tup []), (34, 14, .tup []), (35, 15, .tup []), (36, 16, .d (.lit (.bool false))), (37, 17, .d (.lit (.bool (false)))), (38, 18, .tup []), (39, 19, .tup []), (40, 20, .tup []), (41, 21, .tup []), (42, 22, .tup []), (43, 23, .tup []), (44, 24, .tup []), (45, 25, .tup []), (46, 26, .tup []), (47, 27, .tup []), (48, 28, .d (.lit (.bool false)))], ?_, ?_⟩
     · exact ⟨by kernel_rfl, by kernel_rfl, by kernel_rfl, by kernel_rfl, by kernel_rfl, [([], []), ([0], []), ([], []), ([1, 2], []), ([3], []), ([4], []), ([4, 5], []), ([4], []), ([4, 6, 7], []), ([4, 8], []), ([9], []), ([10], []), ([10], []), ([10], []), ([10, 11, 12, 13], []), ([10, 14], []), ([10, 15], []), ([16], []), ([17], []), ([17, 18], []), ([17, 19], []), ([17, 20], []), ([17, 21], []), ([17], []), ([17], []), ([17, 24], []), ([17, 22, 23, 25], []), ([17, 26], []), ([17, 27], [])], by kernel_rfl, ⟨fun S hS => aJ rfl (aQ rfl (aU (aA rfl) (aH hS rfl) nJ)),
      fun S hS => aJ rfl (aQ rfl (aW (aA rfl) (aH hS rfl) (i := 1) rfl rfl bI)),
      fun S hS => aJ rfl (aQ rfl (aC (v := .d (.lit (.int .i64 player_1))) (aA rfl) (aH hS rfl) rfl)),
      fun S hS => aJ rfl (aQ rfl (bB (aA rfl) (aH hS rfl) (aH hS rfl) rfl)),
      fun S hS => aJ rfl (aQ rfl (aC (v := .d (.lit (.bool ((decide (x6.Player = player_1)))))) (aA rfl) (aH hS rfl) rfl)),
      fun S hS => aJ rfl (bL rfl rfl (aA rfl) (aS hS rfl) c11 (aU (aA rfl) (aH hS rfl) kJ)),
      fun S hS => aJ rfl (bL rfl rfl (aA rfl) (aS hS rfl) c11 (aW (aA rfl) (aH hS rfl) (i := 1) rfl rfl bI)),
      fun S hS => aJ rfl (bL rfl rfl (aA rfl) (aS hS rfl) c11 (aC (v := .d (.lit (.int .i64 week_2))) (aA rfl) (aH hS rfl) rfl)),
      fun S hS => aJ rfl (bL rfl rfl (aA rfl) (aS hS rfl) c11 (bB (aA rfl) (aH hS rfl) (aH hS rfl) rfl)),
      fun S hS => aJ rfl (aQ rfl (bH (v := .d (.lit (.bool ((decide (x6.Week ≤ week_2)))))) (aA rfl) (aH hS rfl) c11 (aH hS rfl) rfl)),
      fun S hS => aJ rfl (aQ rfl (aC (v := .d (.lit (.bool (decide (x6.Week ≤ week_2))))) (aA rfl) (aH hS rfl) rfl)),
      fun S hS => aJ rfl (bE rfl rfl (aA rfl) rfl (aA rfl) (aS hS rfl) c14),
      fun S hS => aJ rfl (bE rfl rfl (aA rfl) rfl (aA rfl) (aS hS rfl) c14),
      fun S hS => aJ rfl (bE rfl rfl (aA rfl) rfl (aA rfl) (aS hS rfl) c14),
      fun S hS => aJ rfl (bE rfl rfl (aA rfl) rfl (aA rfl) (aS hS rfl) c14),
      fun S hS => aJ rfl (bE rfl rfl (aA rfl) rfl (aA rfl) (aS hS rfl) c14),
      fun S hS => aJ rfl (aQ rfl (bG (v := .d (.lit (.bool false))) (aA rfl) (aH hS rfl) c14 rfl rfl)),
      fun S hS => aJ rfl (aQ rfl (aC (v := .d (.lit (.bool (false)))) (aA rfl) (aH hS rfl) rfl)),
      fun S hS => aJ rfl (bE rfl rfl (aA rfl) rfl (aA rfl) (aS hS rfl) c19),
      fun S hS => aJ rfl (bE rfl rfl (aA rfl) rfl (aA rfl) (aS hS rfl) c19),
      fun S hS => aJ rfl (bE rfl rfl (aA rfl) rfl (aA rfl) (aS hS rfl) c19),
      fun S hS => aJ rfl (bE rfl rfl (aA rfl) rfl (aA rfl) (aS hS rfl) c19),
      fun S hS => aJ rfl (bE rfl rfl (aA rfl) rfl (aA rfl) (aS hS rfl) c19),
      fun S hS => aJ rfl (bE rfl rfl (aA rfl) rfl (aA rfl) (aS hS rfl) c19),
      fun S hS => aJ rfl (bE rfl rfl (aA rfl) rfl (aA rfl) (aS hS rfl) c19),
      fun S hS => aJ rfl (bE rfl rfl (aA rfl) rfl (aA rfl) (aS hS rfl) c19),
      fun S hS => aJ rfl (bE rfl rfl (aA rfl) rfl (aA rfl) (aS hS rfl) c19),
      fun S hS => aJ rfl (bE rfl rfl (aA rfl) rfl (aA rfl) (aS hS rfl) c19),
      fun S hS => aJ rfl (aQ rfl (bG (v := .d (.lit (.bool false))) (aA rfl) (aH hS rfl) c19 rfl rfl)), trivial⟩⟩
     · exact eC (aM rfl (aX ⟨rfl, rfl, rfl, rfl, rfl, rfl, rfl, rfl, trivial⟩))
   ·have h10 := aO c11 h10
    have h10 := Option.some.inj h10
    subst h10
    have c14 : false = false := rfl
    have h13 := aO c14 h13
    have h13 := Option.some.inj h13
    subst h13
    have c19 : false = false := rfl
    have h18 := aO c19 h18
    have h18 := Option.some.inj h18
    subst h18
    refine ⟨[(20, 0, .bp b8 0 1), (21, 1, .d (.lit (.int .i64 x6.Player))), (22, 2, .d (.lit (.int .i64 player_1))), (23, 3, .d (.lit (.bool ((decide (x6.Player = player_1)))))), (24, 4, .d (.lit (.bool ((decide (x6.Player = player_1)))))), (25, 5, .tup []), (26, 6, .tup []), (27, 7, .tup []), (28, 8, .tup []), (29, 9, .d (.lit (.bool false))), (30, 10, .d (.lit (.bool (false)))), (31, 11, .tup []), (32, 12, .tup []), (33, 13, .tup []), (34, 14, .tup []), (35, 15, .tup []), (36, 16, .d (.lit (.bool false))), (37, 17, .d (.lit (.bool (false)))), (38, 18, .tup []), (39, 19, .tup []), (40, 20, .tup []), (41, 21, .tup []), (42, 22, .tup []), (43, 23, .tup []), (44, 24, .tup []), (45, 25, .tup []), (46, 26, .tup []), (47, 27, .tup []), (48, 28, .d (.lit (.bool false)))], ?_, ?_⟩
    · exact ⟨by kernel_rfl, by kernel_rfl, by kernel_rfl, by kernel_rfl, by kernel_rfl, [([], []), ([0], []), ([], []), ([1, 2], []), ([3], []), ([4], []), ([4, 5], []), ([4], []), ([4, 6, 7], []), ([4, 8], []), ([9], []), ([10], []), ([10], []), ([10], []), ([10, 11, 12, 13], []), ([10, 14], []), ([10, 15], []), ([16], []), ([17], []), ([17, 18], []), ([17, 19], []), ([17, 20], []), ([17, 21], []), ([17], []), ([17], []), ([17, 24], []), ([17, 22, 23, 25], []), ([17, 26], []), ([17, 27], [])], by kernel_rfl, ⟨fun S hS => aJ rfl (aQ rfl (aU (aA rfl) (aH hS rfl) nJ)),
      fun S hS => aJ rfl (aQ rfl (aW (aA rfl) (aH hS rfl) (i := 1) rfl rfl bI)),
      fun S hS => aJ rfl (aQ rfl (aC (v := .d (.lit (.int .i64 player_1))) (aA rfl) (aH hS rfl) rfl)),
      fun S hS => aJ rfl (aQ rfl (bB (aA rfl) (aH hS rfl) (aH hS rfl) rfl)),
      fun S hS => aJ rfl (aQ rfl (aC (v := .d (.lit (.bool ((decide (x6.Player = player_1)))))) (aA rfl) (aH hS rfl) rfl)),
      fun S hS => aJ rfl (bE rfl rfl (aA rfl) rfl (aA rfl) (aS hS rfl) c11),
      fun S hS => aJ rfl (bE rfl rfl (aA rfl) rfl (aA rfl) (aS hS rfl) c11),
      fun S hS => aJ rfl (bE rfl rfl (aA rfl) rfl (aA rfl) (aS hS rfl) c11),
      fun S hS => aJ rfl (bE rfl rfl (aA rfl) rfl (aA rfl) (aS hS rfl) c11),
      fun S hS => aJ rfl (aQ rfl (bG (v := .d (.lit (.bool false))) (aA rfl) (aH hS rfl) c11 rfl rfl)),
      fun S hS => aJ rfl (aQ rfl (aC (v := .d (.lit (.bool (false)))) (aA rfl) (aH hS rfl) rfl)),
      fun S hS => aJ rfl (bE rfl rfl (aA rfl) rfl (aA rfl) (aS hS rfl) c14),
      fun S hS => aJ rfl (bE rfl rfl (aA rfl) rfl (aA rfl) (aS hS rfl) c14),
      fun S hS => aJ rfl (bE rfl rfl (aA rfl) rfl (aA rfl) (aS hS rfl) c14),
      fun S hS => aJ rfl (bE rfl rfl (aA rfl) rfl (aA rfl) (aS hS rfl) c14),
      fun S hS => aJ rfl (bE rfl rfl (aA rfl) rfl (aA rfl) (aS hS rfl) c14),
      fun S hS => aJ rfl (aQ rfl (bG (v := .d (.lit (.bool false))) (aA rfl) (aH hS rfl) c14 rfl rfl)),
      fun S hS => aJ rfl (aQ rfl (aC (v := .d (.lit (.bool (false)))) (aA rfl) (aH hS rfl) rfl)),
      fun S hS => aJ rfl (bE rfl rfl (aA rfl) rfl (aA rfl) (aS hS rfl) c19),
      fun S hS => aJ rfl (bE rfl rfl (aA rfl) rfl (aA rfl) (aS hS rfl) c19),
      fun S hS => aJ rfl (bE rfl rfl (aA rfl) rfl (aA rfl) (aS hS rfl) c19),
      fun S hS => aJ rfl (bE rfl rfl (aA rfl) rfl (aA rfl) (aS hS rfl) c19),
      fun S hS => aJ rfl (bE rfl rfl (aA rfl) rfl (aA rfl) (aS hS rfl) c19),
      fun S hS => aJ rfl (bE rfl rfl (aA rfl) rfl (aA rfl) (aS hS rfl) c19),
      fun S hS => aJ rfl (bE rfl rfl (aA rfl) rfl (aA rfl) (aS hS rfl) c19),
      fun S hS => aJ rfl (bE rfl rfl (aA rfl) rfl (aA rfl) (aS hS rfl) c19),
      fun S hS => aJ rfl (bE rfl rfl (aA rfl) rfl (aA rfl) (aS hS rfl) c19),
      fun S hS => aJ rfl (bE rfl rfl (aA rfl) rfl (aA rfl) (aS hS rfl) c19),
      fun S hS => aJ rfl (aQ rfl (bG (v := .d (.lit (.bool false))) (aA rfl) (aH hS rfl) c19 rfl rfl)), trivial⟩⟩
    · exact eC (aM rfl (aX ⟨rfl, rfl, rfl, rfl, rfl, rfl, rfl, rfl, trivial⟩))
  ·refine aF ?_
   refine bN rfl (fun c22 => ?_) (fun c22 => ?_)
   ·have h := aP c22 h
    refine aE ?_
    refine tr1 rfl (aC (v := .d (.lit w3)) (aA rfl) rfl rfl) ?_
    refine tr1 rfl (dF (aA rfl) rfl (i := 1) rfl dW (es := (aB x6)) rfl rfl) ?_
    refine tr1 rfl (jL (aA rfl) bQ rfl rfl (rows := ([x6]).map aB) rfl (dD (f := aB) fun _ => rfl) rfl (by decide)) ?_
    obtain ⟨x23, h24, h⟩ := bind_some h
    refine cA rfl (lP (i := 0) (aA rfl) bQ rfl rfl rfl (fun _ => rfl) h24 rfl) ?_
    rintro _ ⟨v25, rfl⟩
    refine tr1 rfl (aI (v := .d (.lit v25)) (aA rfl) rfl rfl) ?_
    refine dE ?_
    refine aE ?_
    refine tr1 rfl (aY (aA rfl) rfl rfl rfl) ?_
    refine tr1 rfl (aC (v := .d (.lit (.int .i64 ((w64 (t16_0_2 + 1)))))) (aA rfl) rfl rfl) ?_
    refine aF ?_
    exact ⟨(w64 (t16_0_2 + 1), x23, v25), h, aV [0] rfl rfl (aM rfl (aM rfl (aX ⟨rfl, rfl, rfl, rfl, rfl, trivial⟩)))⟩
   ·have h := aO c22 h
    refine dK ?_
    refine aE ?_
    refine tr1 rfl (aY (aA rfl) rfl rfl rfl) ?_
    refine tr1 rfl (aC (v := .d (.lit (.int .i64 ((w64 (t16_0_2 + 1)))))) (aA rfl) rfl rfl) ?_
    refine aF ?_
    exact ⟨(w64 (t16_0_2 + 1), out_0_2, w3), h, aV [0] rfl rfl (aM rfl (aM rfl (aX ⟨rfl, rfl, rfl, rfl, rfl, trivial⟩)))⟩
 ·have h := aO c5 h
  refine cT ?_
  refine .inl ⟨rfl, ?_⟩
  simp only [oP] at h
  refine aG ?_
  refine aE ?_
  refine tr1 rfl (aC (v := .d (.lit w3)) (aA rfl) rfl rfl) ?_
  refine tr1 rfl (aI (v := .d (.lit w3)) (aA rfl) rfl rfl) ?_
  refine aF ?_
  have h := Option.some.inj h
  subst h
  refine cP (cD (fV (k := 6) (v := .d (.sl 5 (out_0_2.map aB))) (.d (iE 0 rfl (dD (f := aB) fun _ => rfl))) (uU))) ?_
  exact bT ⟨rfl, _, .one _, rfl, rfl⟩

theorem wS (vals_0 : List Int) {r : Int} (h : oV vals_0 = some r) : Fn Try.prog 99 [.d (.sl 1 (vals_0.map cE))] (.d (.lit (.int .i64 r))) := by
 unfold oV at h
 refine Fn.of_tr Try.func99 rfl (rs := [.tmp 2]) Try.results99 Try.ntmps99 (Nat.le_of_ble_eq_true rfl) ?_
 refine aG ?_
 refine aE ?_
 refine tr1 rfl (aI (v := .d (.lit (.int .i64 0))) (aA rfl) rfl rfl) ?_
 refine aF ?_
 refine aG ?_
 refine aE ?_
 refine tr1 rfl (aI (v := .d (.lit (.int .i64 0))) (aA rfl) rfl rfl) ?_
 refine aF ?_
 refine aG ?_
 refine aG ?_
 refine aE ?_
 refine tr1 rfl (aC (v := .d (.sl 1 (vals_0.map cE))) (aA rfl) rfl rfl) ?_
 refine tr1 rfl (dR (aA rfl) rfl eP.of) ?_
 refine tr1 rfl (aC (v := .d (.lit (.int .i64 0))) (aA rfl) rfl rfl) ?_
 refine aF ?_
 refine bZ ?_
 refine cM [3, 6, 7] (fun (s1 : Int) => [(8, .d (.lit (.int .i64 s1)))]) (fun (s1 : Int) => []) (fun (k : Nat) (s1 : Int) => lF 0 vals_0 (vals_0.length : Int) k s1) (fun _ => rfl) (0) h (aV [] rfl rfl (aM rfl (aX ⟨rfl, rfl, rfl, trivial⟩))) ?_
 rintro k2 t8_0_1 h
 simp only [lF] at h
 refine aG ?_
 refine aE ?_
 refine tr1 rfl (bB (aA rfl) rfl rfl rfl) ?_
 refine aF ?_
 refine aG ?_
 refine bN rfl (fun c3 => ?_) (fun c3 => ?_)
 ·have h := aP c3 h
  refine bK ?_
  refine aG ?_
  refine bZ ?_
  refine aG ?_
  refine aE ?_
  obtain ⟨x4, h5, h⟩ := bind_some h
  refine tr1 rfl (bJ (aA rfl) rfl rfl eP.of (bF cE h5)) ?_
  refine tr1 rfl (bP (aA rfl) rfl bI) ?_
  refine tr1 rfl (aI (v := .d (.lit (.int .i64 x4))) (aA rfl) rfl rfl) ?_
  refine aF ?_
  refine aG ?_
  refine aE ?_
  refine tr1 rfl (aC (v := .d (.lit (.int .i64 x4))) (aA rfl) rfl rfl) ?_
  refine tr1 rfl (aC (v := .d (.lit (.int .i64 0))) (aA rfl) rfl rfl) ?_
  refine tr1 rfl (bB (aA rfl) rfl rfl rfl) ?_
  refine aF ?_
  refine bN rfl (fun c6 => ?_) (fun c6 => ?_)
  ·have h := aP c6 h
   refine aG ?_
   refine aE ?_
   refine tr1 rfl (aC (v := .d (.lit (.int .i64 x4))) (aA rfl) rfl rfl) ?_
   refine tr1 rfl (aI (v := .d (.lit (.int .i64 x4))) (aA rfl) rfl rfl) ?_
   refine aF ?_
   have h := Option.some.inj h
   subst h
   exact bT ⟨rfl, _, .one _, rfl, rfl⟩
  ·have h := aO c6 h
   refine dK ?_
   refine aE ?_
   refine tr1 rfl (aY (aA rfl) rfl rfl rfl) ?_
   refine tr1 rfl (aC (v := .d (.lit (.int .i64 ((w64 (t8_0_1 + 1)))))) (aA rfl) rfl rfl) ?_
   refine aF ?_
   exact ⟨(w64 (t8_0_1 + 1)), h, aV [] rfl rfl (aM rfl (aX ⟨rfl, rfl, rfl, trivial⟩))⟩
 ·have h := aO c3 h
  refine cT ?_
  refine .inl ⟨rfl, ?_⟩
  simp only [sQ] at h
  refine aG ?_
  refine aE ?_
  refine tr1 rfl (aC (v := .d (.lit (.int .i64 0))) (aA rfl) rfl rfl) ?_
  refine tr1 rfl (aI (v := .d (.lit (.int .i64 0))) (aA rfl) rfl rfl) ?_
  refine aF ?_
  have h := Option.some.inj h
  subst h
  exact bT ⟨rfl, _, .one _, rfl, rfl⟩

theorem wJ (x_0 : aD) (y_1 : aD) {r : Int} (h : jX x_0 y_1 = some r) : Fn Try.prog 98 [.agg (aB x_0), .agg (aB y_1)] (.d (.lit (.int .i64 r))) := by
 unfold jX at h
 refine Fn.of_tr Try.func98 rfl (rs := [.tmp 4]) Try.results98 Try.ntmps98 (Nat.le_of_ble_eq_true rfl) ?_
 refine aG ?_
 refine aE ?_
 refine cA rfl (fM (v := .agg (aB x_0)) (aA rfl) rfl rfl rfl) ?_
 rintro _ ⟨b1, rfl⟩
 refine cA rfl (fM (v := .agg (aB y_1)) (aA rfl) rfl rfl rfl) ?_
 rintro _ ⟨b2, rfl⟩
 refine tr1 rfl (aI (v := .d (.lit (.int .i64 0))) (aA rfl) rfl rfl) ?_
 refine aF ?_
 refine aG ?_
 refine bZ ?_
 refine aG ?_
 refine aE ?_
 refine tr1 rfl (aU (aA rfl) rfl eX) ?_
 refine tr1 rfl (aW (aA rfl) rfl (i := 0) rfl rfl iR) ?_
 refine tr1 rfl (aU (aA rfl) rfl eX) ?_
 refine tr1 rfl (aW (aA rfl) rfl (i := 1) rfl rfl iR) ?_
 refine tr1 rfl (aGl (aA rfl) rfl rfl Try.underlying4) ?_
 refine tr1 rfl (aC (v := .d (.lit (.bool ((!decide (x_0.Must = y_1.Must)))))) (aA rfl) rfl rfl) ?_
 obtain ⟨b3, h4, h⟩ := bind_some h
 refine bR 3 [2, 3] 14 b3 ?_ ?_
 ·refine bA (!decide (x_0.Must = y_1.Must)) (fun c9 => ?_) (fun c9 => ?_)
  ·have h4 := aP c9 h4
   refine aL rfl rfl (aA rfl) rfl c9 (aU (aA rfl) rfl eX) ?_
   refine aL rfl rfl (aA rfl) rfl c9 (aW (aA rfl) rfl (i := 0) rfl rfl iR) ?_
   refine tr1 rfl (bH (v := .d (.lit (.bool x_0.Must))) (aA rfl) rfl c9 rfl rfl) ?_
   have h4 := Option.some.inj h4
   subst h4
   refine aF (aT rfl ⟨rfl, rfl, trivial⟩ rfl)
  ·have h4 := aO c9 h4
   refine aN rfl rfl (aA rfl) rfl (aA rfl) rfl c9 ?_
   refine aN rfl rfl (aA rfl) rfl (aA rfl) rfl c9 ?_
   refine tr1 rfl (bG (v := .d (.lit (.bool false))) (aA rfl) rfl c9 rfl rfl) ?_
   have h4 := Option.some.inj h4
   subst h4
   refine aF (aT rfl ⟨rfl, rfl, trivial⟩ rfl)
 ·refine tr1 rfl (aI (v := .d (.lit (.bool b3))) (aA rfl) rfl rfl) ?_
  refine aF ?_
  refine bN rfl (fun c5 => ?_) (fun c5 => ?_)
  ·have h := aP c5 h
   refine aG ?_
   refine aE ?_
   refine tr1 rfl (aI (v := .d (.lit (.int .i64 (-1)))) (aA rfl) rfl rfl) ?_
   refine aF ?_
   have h := Option.some.inj h
   subst h
   refine cP (cD (cJ (l := [4]) ⟨rfl, trivial⟩)) ?_
   exact bT ⟨rfl, _, .one _, rfl, rfl⟩
  ·have h := aO c5 h
   refine aG ?_
   refine aE ?_
   refine tr1 rfl (aU (aA rfl) rfl eX) ?_
   refine tr1 rfl (aW (aA rfl) rfl (i := 0) rfl rfl iR) ?_
   refine tr1 rfl (aU (aA rfl) rfl eX) ?_
   refine tr1 rfl (aW (aA rfl) rfl (i := 1) rfl rfl iR) ?_
   refine tr1 rfl (aGl (aA rfl) rfl rfl Try.underlying4) ?_
   refine tr1 rfl (aI (v := .d (.lit (.bool ((!decide (x_0.Must = y_1.Must)))))) (aA rfl) rfl rfl) ?_
   refine aF ?_
   refine bN rfl (fun c6 => ?_) (fun c6 => ?_)
   ·have h := aP c6 h
    refine aG ?_
    refine aE ?_
    refine tr1 rfl (aI (v := .d (.lit (.int .i64 1))) (aA rfl) rfl rfl) ?_
    refine aF ?_
    have h := Option.some.inj h
    subst h
    refine cP (cD (cJ (l := [4]) ⟨rfl, trivial⟩)) ?_
    exact bT ⟨rfl, _, .one _, rfl, rfl⟩
   ·have h := aO c6 h
    refine dK ?_
    refine aG ?_
    refine aE ?_
    refine tr1 rfl (aU (aA rfl) rfl fK) ?_
    refine tr1 rfl (aW (aA rfl) rfl (i := 1) rfl rfl bI) ?_
    refine tr1 rfl (aU (aA rfl) rfl fK) ?_
    refine tr1 rfl (aW (aA rfl) rfl (i := 0) rfl rfl bI) ?_
    refine tr1 rfl (aY (aA rfl) rfl rfl rfl) ?_
    refine tr1 rfl (aU (aA rfl) rfl iU) ?_
    refine tr1 rfl (aW (aA rfl) rfl (i := 0) rfl rfl bI) ?_
    refine tr1 rfl (aU (aA rfl) rfl iU) ?_
    refine tr1 rfl (aW (aA rfl) rfl (i := 1) rfl rfl bI) ?_
    refine tr1 rfl (aY (aA rfl) rfl rfl rfl) ?_
    refine tr1 rfl (jL (aA rfl) eP rfl rfl (rows := ([w64 (y_1.Points - x_0.Points), w64 (x_0.Id - y_1.Id)]).map cE) rfl (dD (f := cE) fun _ => rfl) rfl (by decide)) ?_
    obtain ⟨r7, h8, h⟩ := bind_some h
    refine tr1 rfl (cF (aA rfl) (.func _ _ Try.call99) rfl rfl (BVs.refl _ _) (wS _ h8) rfl) ?_
    refine tr1 rfl (aI (v := .d (.lit (.int .i64 r7))) (aA rfl) rfl rfl) ?_
    refine aF ?_
    have h := Option.some.inj h
    subst h
    refine cP (cD (cJ (l := [4]) ⟨rfl, trivial⟩)) ?_
    exact bT ⟨rfl, _, .one _, rfl, rfl⟩

theorem pL (b_0 : cB) (all_1 : List aD) {r : (List aD)} (h : jT b_0 all_1 = some r) : Fn Try.prog 71 [.cp (cH b_0), .d (.sl 5 (all_1.map aB))] (.d (.sl 5 (r.map aB))) := by
 unfold jT at h
 refine Fn.of_tr Try.func71 rfl (rs := [.tmp 4]) Try.results71 Try.ntmps71 (Nat.le_of_ble_eq_true rfl) ?_
 refine aG ?_
 refine aE ?_
 refine tr1 rfl (pA 5 (aA rfl)) ?_
 refine aF ?_
 refine aG ?_
 refine aE ?_
 refine tr1 rfl (aC (v := .d (.sl 5 (all_1.map aB))) (aA rfl) rfl rfl) ?_
 obtain ⟨r1, h2, h⟩ := bind_some h
 refine cA rfl (vX (aA rfl) (.func _ _ Try.call91) rfl rfl (nT _ h2)) ?_
 rintro _ ⟨v3, rfl⟩
 refine tr1 rfl (aI (v := .d (.lit v3)) (aA rfl) rfl rfl) ?_
 refine aF ?_
 refine aG ?_
 refine aE ?_
 refine tr1 rfl (aC (v := .d (.lit v3)) (aA rfl) rfl rfl) ?_
 obtain ⟨r6, h7, h⟩ := bind_some h
 refine cA rfl (dQ (passed := [.arr v3 42 5 (r1.map aB)]) (aA rfl) rfl (.func _ _ Try.call92) rfl rfl (lJ r1 (fun y4 y5 => jX y4 y5) 98 [] Try.call98 (fun _ _ _ h => wJ _ _ h) h7)) ?_
 rintro _ ⟨_, _, ⟨rfl, rfl⟩, rfl⟩
 refine aF ?_
 refine aG ?_
 refine aE ?_
 refine tr1 rfl (aI (v := .d (.lit (.int .i64 0))) (aA rfl) rfl rfl) ?_
 refine aF ?_
 refine aG ?_
 refine aG ?_
 refine aE ?_
 refine tr1 rfl (aC (v := .d (.lit v3)) (aA rfl) rfl rfl) ?_
 refine tr1 rfl (lM (m := 0) (aA rfl) rfl rfl bQ.of) ?_
 refine tr1 rfl (aC (v := .d (.lit (.int .i64 0))) (aA rfl) rfl rfl) ?_
 refine aF ?_
 refine bZ ?_
 refine cM [0, 5, 13, 14] (fun (s8 : Int × Int) => [(6, .d (.lit (.int .i64 s8.1))), (15, .d (.lit (.int .i64 s8.2)))]) (fun (s8 : Int × Int) => [.arr v3 42 5 (r6.map aB)]) (fun (k : Nat) (s8 : Int × Int) => fW b_0 (r6.length : Int) r6 k s8.1 s8.2) (fun _ => rfl) (0, 0) h (aV [0] rfl rfl (aM rfl (aM rfl (aX ⟨rfl, rfl, rfl, rfl, trivial⟩)))) ?_
 rintro k9 ⟨musts_0_8, t15_0_8⟩ h
 simp only [fW] at h
 refine aG ?_
 refine aE ?_
 refine tr1 rfl (bB (aA rfl) rfl rfl rfl) ?_
 refine aF ?_
 refine aG ?_
 refine bN rfl (fun c10 => ?_) (fun c10 => ?_)
 ·have h := aP c10 h
  refine bK ?_
  refine aG ?_
  refine bZ ?_
  refine aG ?_
  refine aE ?_
  obtain ⟨x11, h12, h⟩ := bind_some h
  refine tr1 rfl (cI (m := 0) (aA rfl) rfl rfl rfl bQ.of (bF aB h12)) ?_
  refine tr1 rfl (dH (aA rfl) rfl (l := 0) rfl (eD aB h12) dW (es := (aB x11)) rfl rfl) ?_
  refine cA rfl (gR (zs := [.lit (.int .i64 0), .lit (.int .i64 0), .lit (.int .i64 0), .lit (.int .i64 0), .lit (.bool false)]) (aA rfl) Try.zeroValue42 rfl rfl) ?_
  rintro _ ⟨b13, rfl⟩
  refine tr1 rfl (cO (i := 1) rfl rfl rfl rfl rfl Try.sizeOf42 rfl (aA rfl) (Nat.le_of_ble_eq_true rfl) (ds' := (aB x11)) rfl) ?_
  refine aF ?_
  refine aG ?_
  refine aE ?_
  refine tr1 rfl (aU (aA rfl) rfl eX) ?_
  refine tr1 rfl (aW (aA rfl) rfl (i := 1) rfl rfl iR) ?_
  refine aF ?_
  refine bN rfl (fun c14 => ?_) (fun c14 => ?_)
  ·have h := aP c14 h
   refine aE ?_
   refine tr1 rfl (aC (v := .d (.lit (.int .i64 musts_0_8))) (aA rfl) rfl rfl) ?_
   refine tr1 rfl (aY (aA rfl) rfl rfl rfl) ?_
   refine tr1 rfl (aI (v := .d (.lit (.int .i64 ((w64 (musts_0_8 + 1)))))) (aA rfl) rfl rfl) ?_
   refine dE ?_
   refine aE ?_
   refine tr1 rfl (aY (aA rfl) rfl rfl rfl) ?_
   refine tr1 rfl (aC (v := .d (.lit (.int .i64 ((w64 (t15_0_8 + 1)))))) (aA rfl) rfl rfl) ?_
   refine aF ?_
   exact ⟨(w64 (musts_0_8 + 1), w64 (t15_0_8 + 1)), h, aV [0] rfl rfl (aM rfl (aM rfl (aX ⟨rfl, rfl, rfl, rfl, trivial⟩)))⟩
  ·have h := aO c14 h
   refine dK ?_
   refine aE ?_
   refine tr1 rfl (aY (aA rfl) rfl rfl rfl) ?_
   refine tr1 rfl (aC (v := .d (.lit (.int .i64 ((w64 (t15_0_8 + 1)))))) (aA rfl) rfl rfl) ?_
   refine aF ?_
   exact ⟨(musts_0_8, w64 (t15_0_8 + 1)), h, aV [0] rfl rfl (aM rfl (aM rfl (aX ⟨rfl, rfl, rfl, rfl, trivial⟩)))⟩
 ·have h := aO c10 h
  refine cT ?_
  refine .inl ⟨rfl, ?_⟩
  simp only [kY] at h
  refine aG ?_
  refine aE ?_
  refine tr1 rfl (aC (v := .d (.lit v3)) (aA rfl) rfl rfl) ?_
  refine tr1 rfl (aC (v := .d (.lit v3)) (aA rfl) rfl rfl) ?_
  refine tr1 rfl (lM (m := 0) (aA rfl) rfl rfl bQ.of) ?_
  refine tr1 rfl (aC (v := .d (.lit (.int .i64 musts_0_8))) (aA rfl) rfl rfl) ?_
  refine tr1 rfl (aC (v := .cp [.lit (.int .i64 b_0.Ledger.Players), .lit (.int .i64 b_0.Ledger.Counts), .sl 5 (b_0.Ledger.Reports.map aB), .sl 3 (b_0.Ledger.Bans.map aK), .sl 3 (b_0.Ledger.Frozen.map aK)]) (aA rfl) rfl rfl) ?_
  refine tr1 rfl (pB (aA rfl) rfl) ?_
  refine tr1 rfl (bO (aA rfl) rfl iV (es := [.lit (.int .i64 b_0.Ledger.Players), .lit (.int .i64 b_0.Ledger.Counts), .sl 5 (b_0.Ledger.Reports.map aB), .sl 3 (b_0.Ledger.Bans.map aK), .sl 3 (b_0.Ledger.Frozen.map aK)]) rfl) ?_
  refine tr1 rfl (bO (aA rfl) rfl vP (es := [.lit (.int .i64 b_0.Ledger.Counts)]) rfl) ?_
  refine tr1 rfl (bP (aA rfl) rfl bI) ?_
  refine tr1 rfl (oZ (aA rfl) rfl rfl) ?_
  refine tr1 rfl (aBk (aA rfl) rfl rfl) ?_
  refine fJ (xR [] [.arr v3 42 5 (r6.map aB)] rfl (fV (k := 25) (v := .d (.sl 5 (r6.map aB))) (.d (iE 0 rfl (dD (f := aB) fun _ => rfl))) (fV (k := 24) (v := .d (.sl 5 (r6.map aB))) (.d (iE 0 rfl (dD (f := aB) fun _ => rfl))) (fV (k := 13) (v := .d (.sl 5 (r6.map aB))) (.d (iE 0 rfl (dD (f := aB) fun _ => rfl))) (fV (k := 5) (v := .d (.sl 5 (r6.map aB))) (.d (iE 0 rfl (dD (f := aB) fun _ => rfl))) (qE _ _)))))) ?_
  obtain ⟨x15, h16, h⟩ := bind_some h
  refine tr1 rfl (mO (aA rfl) bQ.of rfl rfl rfl (pC aB h16)) ?_
  refine tr1 rfl (aI (v := .d (.sl 5 (x15.map aB))) (aA rfl) rfl rfl) ?_
  refine aF ?_
  have h := Option.some.inj h
  subst h
  exact bT ⟨rfl, _, .one _, rfl, rfl⟩

theorem zN (l_0 : List aD) {r : Int} (h : rW l_0 = some r) : Fn Try.prog 86 [.d (.sl 5 (l_0.map aB))] (.d (.lit (.int .i64 r))) := by
 unfold rW at h
 refine Fn.of_tr Try.func86 rfl (rs := [.tmp 2]) Try.results86 Try.ntmps86 (Nat.le_of_ble_eq_true rfl) ?_
 refine aG ?_
 refine aE ?_
 refine tr1 rfl (aI (v := .d (.lit (.int .i64 0))) (aA rfl) rfl rfl) ?_
 refine aF ?_
 refine aG ?_
 refine aG ?_
 refine aE ?_
 refine tr1 rfl (aC (v := .d (.sl 5 (l_0.map aB))) (aA rfl) rfl rfl) ?_
 refine tr1 rfl (dR (aA rfl) rfl bQ.of) ?_
 refine tr1 rfl (aC (v := .d (.lit (.int .i64 0))) (aA rfl) rfl rfl) ?_
 refine aF ?_
 refine bZ ?_
 refine cM [5, 6] (fun (s1 : Int × Int) => [(2, .d (.lit (.int .i64 s1.1))), (7, .d (.lit (.int .i64 s1.2)))]) (fun (s1 : Int × Int) => []) (fun (k : Nat) (s1 : Int × Int) => nC l_0 (l_0.length : Int) k s1.1 s1.2) (fun _ => rfl) (0, 0) h (aV [] rfl rfl (aM rfl (aM rfl (aX ⟨rfl, rfl, trivial⟩)))) ?_
 rintro k2 ⟨n_0_1, t7_0_1⟩ h
 simp only [nC] at h
 refine aG ?_
 refine aE ?_
 refine tr1 rfl (bB (aA rfl) rfl rfl rfl) ?_
 refine aF ?_
 refine aG ?_
 refine bN rfl (fun c3 => ?_) (fun c3 => ?_)
 ·have h := aP c3 h
  refine bK ?_
  refine aG ?_
  refine bZ ?_
  refine aG ?_
  refine aE ?_
  obtain ⟨x4, h5, h⟩ := bind_some h
  refine tr1 rfl (bJ (aA rfl) rfl rfl bQ.of (bF aB h5)) ?_
  refine tr1 rfl (fN (aA rfl) rfl dW (es := (aB x4)) rfl rfl) ?_
  refine cA rfl (gR (zs := [.lit (.int .i64 0), .lit (.int .i64 0), .lit (.int .i64 0), .lit (.int .i64 0), .lit (.bool false)]) (aA rfl) Try.zeroValue42 rfl rfl) ?_
  rintro _ ⟨b6, rfl⟩
  refine tr1 rfl (cO (i := 0) rfl rfl rfl rfl rfl Try.sizeOf42 rfl (aA rfl) (Nat.le_of_ble_eq_true rfl) (ds' := (aB x4)) rfl) ?_
  refine aF ?_
  refine aE ?_
  refine tr1 rfl (aC (v := .d (.lit (.int .i64 n_0_1))) (aA rfl) rfl rfl) ?_
  refine tr1 rfl (aU (aA rfl) rfl fK) ?_
  refine tr1 rfl (aW (aA rfl) rfl (i := 0) rfl rfl bI) ?_
  refine tr1 rfl (aY (aA rfl) rfl rfl rfl) ?_
  refine tr1 rfl (aI (v := .d (.lit (.int .i64 ((w64 (n_0_1 + x4.Points)))))) (aA rfl) rfl rfl) ?_
  refine dE ?_
  refine aE ?_
  refine tr1 rfl (aY (aA rfl) rfl rfl rfl) ?_
  refine tr1 rfl (aC (v := .d (.lit (.int .i64 ((w64 (t7_0_1 + 1)))))) (aA rfl) rfl rfl) ?_
  refine aF ?_
  exact ⟨(w64 (n_0_1 + x4.Points), w64 (t7_0_1 + 1)), h, aV [] rfl rfl (aM rfl (aM rfl (aX ⟨rfl, rfl, trivial⟩)))⟩
 ·have h := aO c3 h
  refine cT ?_
  refine .inl ⟨rfl, ?_⟩
  simp only [uQ] at h
  refine aG ?_
  refine aE ?_
  refine tr1 rfl (aC (v := .d (.lit (.int .i64 n_0_1))) (aA rfl) rfl rfl) ?_
  refine tr1 rfl (aI (v := .d (.lit (.int .i64 n_0_1))) (aA rfl) rfl rfl) ?_
  refine aF ?_
  have h := Option.some.inj h
  subst h
  exact bT ⟨rfl, _, .one _, rfl, rfl⟩

theorem zI (x : Int) {r : Int} (h : pY x = some r) : Fn Try.prog 101 [.d (.lit (.int .u64 x))] (.d (.lit (.int .i64 r))) := aGr (fun x w => Try.bits_Len x w) h

theorem nU (data_0 : List bC) (a_1 : Int) (b_2 : Int) (cmp_3 : bC → bC → Option Int) {r : (List bC)} {data_0_v : Value} (cmp_3_f : Nat) (cmp_3_v : List AV) (cmp_3_e : ∀ args w, (callFunc cmp_3_f args).run Try.prog w = .ok (.enter cmp_3_f args) w) (cmp_3_h : ∀ (x0 : bC) (x1 : bC) r, cmp_3 x0 x1 = some r → Fn Try.prog cmp_3_f ([.agg (bW x0), .agg (bW x1)] ++ cmp_3_v) (.d (.lit (.int .i64 r)))) (h : dN data_0 a_1 b_2 cmp_3 = some r) : fR Try.prog 118 [.d (.lit data_0_v), .d (.lit (.int .i64 a_1)), .d (.lit (.int .i64 b_2)), .fn cmp_3_f cmp_3_v] [.arr data_0_v 114 4 (data_0.map bW)] (fun r' o' => r' = .tup [] ∧ o' = [.arr data_0_v 114 4 (r.map bW)]) := by
 unfold dN at h
 refine jF Try.func118 rfl (rs := []) Try.results118 Try.ntmps118 (Nat.le_of_ble_eq_true rfl) ?_
 refine aG ?_
 refine aE ?_
 refine tr1 rfl (aC (v := .d (.lit (.int .i64 a_1))) (aA rfl) rfl rfl) ?_
 refine tr1 rfl (aY (aA rfl) rfl rfl rfl) ?_
 refine tr1 rfl (aI (v := .d (.lit (.int .i64 ((w64 (a_1 + 1)))))) (aA rfl) rfl rfl) ?_
 refine aF ?_
 refine bZ ?_
 refine cM [1, 2, 3] (fun (s1 : Int × (List bC)) => [(0, .d (.lit data_0_v)), (8, .d (.lit (.int .i64 s1.1)))]) (fun (s1 : Int × (List bC)) => [.arr data_0_v 114 4 (s1.2.map bW)]) (fun (k : Nat) (s1 : Int × (List bC)) => cL a_1 b_2 cmp_3 k s1.1 s1.2) (fun _ => rfl) (w64 (a_1 + 1), data_0) h (aV [0] rfl rfl (aM rfl (aM rfl (aX ⟨rfl, rfl, rfl, trivial⟩)))) ?_
 rintro k2 ⟨i_0_1, data_0_1⟩ h
 simp only [cL] at h
 refine aG ?_
 refine aG ?_
 refine aE ?_
 refine tr1 rfl (aC (v := .d (.lit (.int .i64 i_0_1))) (aA rfl) rfl rfl) ?_
 refine tr1 rfl (aC (v := .d (.lit (.int .i64 b_2))) (aA rfl) rfl rfl) ?_
 refine tr1 rfl (bB (aA rfl) rfl rfl rfl) ?_
 refine aF ?_
 refine bN rfl (fun c3 => ?_) (fun c3 => ?_)
 ·have h := aP c3 h
  refine bK ?_
  refine aG ?_
  refine bZ ?_
  refine aG ?_
  refine aE ?_
  refine tr1 rfl (aC (v := .d (.lit (.int .i64 i_0_1))) (aA rfl) rfl rfl) ?_
  refine tr1 rfl (aI (v := .d (.lit (.int .i64 i_0_1))) (aA rfl) rfl rfl) ?_
  refine aF ?_
  refine xT ?_
  refine cM [1, 2, 3, 8] (fun (s4 : Int × (List bC)) => [(0, .d (.lit data_0_v)), (9, .d (.lit (.int .i64 s4.1)))]) (fun (s4 : Int × (List bC)) => [.arr data_0_v 114 4 (s4.2.map bW)]) (fun (k : Nat) (s4 : Int × (List bC)) => cX (cL a_1 b_2 cmp_3 k2) a_1 b_2 cmp_3 i_0_1 k s4.1 s4.2) (fun _ => rfl) (i_0_1, data_0_1) h (aV [0] rfl rfl (aM rfl (aM rfl (aX ⟨rfl, rfl, rfl, rfl, trivial⟩)))) ?_
  rintro k5 ⟨j_2_4, data_2_4⟩ h
  simp only [cX] at h
  refine aG ?_
  refine aG ?_
  obtain ⟨b6, h7, h⟩ := bind_some h
  refine gA mix 17 [0, 1, 2, 3, 8, 9] [(34, .d (.lit (.bool b6)))] ?_ ?_
  ·refine bA (decide (a_1 < j_2_4)) (fun c8 => ?_) (fun c8 => ?_)
   ·have h7 := aP c8 h7
    obtain ⟨x9, h10, h7⟩ := bind_some h7
    obtain ⟨x11, h12, h7⟩ := bind_some h7
    obtain ⟨r13, h14, h7⟩ := bind_some h7
    have h7 := Option.some.inj h7
    subst h7
    refine ⟨[(18, 0, .d (.lit (.int .i64 j_2_4))), (19, 1, .d (.lit (.int .i64 a_1))), (20, 2, .d (.lit (.bool ((decide (a_1 < j_2_4)))))), (21, 3, .d (.lit (.bool ((decide (a_1 < j_2_4)))))), (22, 4, .fn cmp_3_f cmp_3_v), (23, 5, .d (.lit data_0_v)), (24, 6, .d (.lit (.int .i64 j_2_4))), (25, 7, .ep data_0_v 4 j_2_4.toNat 0), (26, 8, .agg (bW x9)), (27, 9, .d (.lit data_0_v)), (28, 10, .d (.lit (.int .i64 j_2_4))), (29, 11, .d (.lit (.int .i64 ((w64 (j_2_4 - 1)))))), (30, 12, .ep data_0_v 4 (w64 (j_2_4 - 1)).toNat 0), (31, 13, .agg (bW x11)), (32, 14, .d (.lit (.int .i64 r13))), (33, 15, .d (.lit (.bool ((decide (r13 < 0)))))), (34, 16, .d (.lit (.bool ((decide (r13 < 0))))))], ?_, ?_⟩
    · exact ⟨by kernel_rfl, by kernel_rfl, by kernel_rfl, by kernel_rfl, by kernel_rfl, [([], []), ([], []), ([0, 1], []), ([2], []), ([3], []), ([3], []), ([3], []), ([3, 5, 6], []), ([3, 7], []), ([3], []), ([3], []), ([3, 10], []), ([3, 9, 11], []), ([3, 12], []), ([3, 4, 8, 13], []), ([3, 14], []), ([3, 15], [])], by kernel_rfl, ⟨fun S hS => aJ rfl (aQ rfl (aC (v := .d (.lit (.int .i64 j_2_4))) (aA rfl) (aH hS rfl) rfl)),
      fun S hS => aJ rfl (aQ rfl (aC (v := .d (.lit (.int .i64 a_1))) (aA rfl) (aH hS rfl) rfl)),
      fun S hS => aJ rfl (aQ rfl (bB (aA rfl) (aH hS rfl) (aH hS rfl) rfl)),
      fun S hS => aJ rfl (aQ rfl (aC (v := .d (.lit (.bool ((decide (a_1 < j_2_4)))))) (aA rfl) (aH hS rfl) rfl)),
      fun S hS => aJ rfl (bL rfl rfl (aA rfl) (aS hS rfl) c8 (aC (v := .fn cmp_3_f cmp_3_v) (aA rfl) (aH hS rfl) rfl)),
      fun S hS => aJ rfl (bL rfl rfl (aA rfl) (aS hS rfl) c8 (aC (v := .d (.lit data_0_v)) (aA rfl) (aH hS rfl) rfl)),
      fun S hS => aJ rfl (bL rfl rfl (aA rfl) (aS hS rfl) c8 (aC (v := .d (.lit (.int .i64 j_2_4))) (aA rfl) (aH hS rfl) rfl)),
      fun S hS => aJ rfl (bL rfl rfl (aA rfl) (aS hS rfl) c8 (cI (m := 0) (aA rfl) (aH hS rfl) rfl (aH hS rfl) oS.of (bF bW h10))),
      fun S hS => aJ rfl (bL rfl rfl (aA rfl) (aS hS rfl) c8 (dH (aA rfl) (aH hS rfl) (l := 0) rfl (eD bW h10) tB (es := (bW x9)) rfl rfl)),
      fun S hS => aJ rfl (bL rfl rfl (aA rfl) (aS hS rfl) c8 (aC (v := .d (.lit data_0_v)) (aA rfl) (aH hS rfl) rfl)),
      fun S hS => aJ rfl (bL rfl rfl (aA rfl) (aS hS rfl) c8 (aC (v := .d (.lit (.int .i64 j_2_4))) (aA rfl) (aH hS rfl) rfl)),
      fun S hS => aJ rfl (bL rfl rfl (aA rfl) (aS hS rfl) c8 (aY (aA rfl) (aH hS rfl) rfl rfl)),
      fun S hS => aJ rfl (bL rfl rfl (aA rfl) (aS hS rfl) c8 (cI (m := 0) (aA rfl) (aH hS rfl) rfl (aH hS rfl) oS.of (bF bW h12))),
      fun S hS => aJ rfl (bL rfl rfl (aA rfl) (aS hS rfl) c8 (dH (aA rfl) (aH hS rfl) (l := 0) rfl (eD bW h12) tB (es := (bW x11)) rfl rfl)),
      fun S hS => aJ rfl (bL rfl rfl (aA rfl) (aS hS rfl) c8 (cF (aA rfl) (.clo _ _ _ _ cmp_3_e (aS hS rfl)) (tJ (ev2 (aH hS rfl) (ev2 (aH hS rfl) evn))) rfl (BVs.refl _ _) (cmp_3_h _ _ _  h14) rfl)),
      fun S hS => aJ rfl (bL rfl rfl (aA rfl) (aS hS rfl) c8 (bB (aA rfl) (aH hS rfl) rfl rfl)),
      fun S hS => aJ rfl (aQ rfl (bH (v := .d (.lit (.bool ((decide (r13 < 0)))))) (aA rfl) (aH hS rfl) c8 (aH hS rfl) rfl)), trivial⟩⟩
    · exact eC (aM rfl (aX ⟨rfl, rfl, rfl, rfl, rfl, rfl, trivial⟩))
   ·have h7 := aO c8 h7
    have h7 := Option.some.inj h7
    subst h7
    refine ⟨[(18, 0, .d (.lit (.int .i64 j_2_4))), (19, 1, .d (.lit (.int .i64 a_1))), (20, 2, .d (.lit (.bool ((decide (a_1 < j_2_4)))))), (21, 3, .d (.lit (.bool ((decide (a_1 < j_2_4)))))), (22, 4, .tup []), (23, 5, .tup []), (24, 6, .tup []), (25, 7, .tup []), (26, 8, .tup []), (27, 9, .tup []), (28, 10, .tup []), (29, 11, .tup []), (30, 12, .tup []), (31, 13, .tup []), (32, 14, .tup []), (33, 15, .tup []), (34, 16, .d (.lit (.bool false)))], ?_, ?_⟩
    · exact ⟨by kernel_rfl, by kernel_rfl, by kernel_rfl, by kernel_rfl, by kernel_rfl, [([], []), ([], []), ([0, 1], []), ([2], []), ([3], []), ([3], []), ([3], []), ([3, 5, 6], []), ([3, 7], []), ([3], []), ([3], []), ([3, 10], []), ([3, 9, 11], []), ([3, 12], []), ([3, 4, 8, 13], []), ([3, 14], []), ([3, 15], [])], by kernel_rfl, ⟨fun S hS => aJ rfl (aQ rfl (aC (v := .d (.lit (.int .i64 j_2_4))) (aA rfl) (aH hS rfl) rfl)),
      fun S hS => aJ rfl (aQ rfl (aC (v := .d (.lit (.int .i64 a_1))) (aA rfl) (aH hS rfl) rfl)),
      fun S hS => aJ rfl (aQ rfl (bB (aA rfl) (aH hS rfl) (aH hS rfl) rfl)),
      fun S hS => aJ rfl (aQ rfl (aC (v := .d (.lit (.bool ((decide (a_1 < j_2_4)))))) (aA rfl) (aH hS rfl) rfl)),
      fun S hS => aJ rfl (bE rfl rfl (aA rfl) rfl (aA rfl) (aS hS rfl) c8),
      fun S hS => aJ rfl (bE rfl rfl (aA rfl) rfl (aA rfl) (aS hS rfl) c8),
      fun S hS => aJ rfl (bE rfl rfl (aA rfl) rfl (aA rfl) (aS hS rfl) c8),
      fun S hS => aJ rfl (bE rfl rfl (aA rfl) rfl (aA rfl) (aS hS rfl) c8),
      fun S hS => aJ rfl (bE rfl rfl (aA rfl) rfl (aA rfl) (aS hS rfl) c8),
      fun S hS => aJ rfl (bE rfl rfl (aA rfl) rfl (aA rfl) (aS hS rfl) c8),
      fun S hS => aJ rfl (bE rfl rfl (aA rfl) rfl (aA rfl) (aS hS rfl) c8),
      fun S hS => aJ rfl (bE rfl rfl (aA rfl) rfl (aA rfl) (aS hS rfl) c8),
      fun S hS => aJ rfl (bE rfl rfl (aA rfl) rfl (aA rfl) (aS hS rfl) c8),
      fun S hS => aJ rfl (bE rfl rfl (aA rfl) rfl (aA rfl) (aS hS rfl) c8),
      fun S hS => aJ rfl (bE rfl rfl (aA rfl) rfl (aA rfl) (aS hS rfl) c8),
      fun S hS => aJ rfl (bE rfl rfl (aA rfl) rfl (aA rfl) (aS hS rfl) c8),
      fun S hS => aJ rfl (aQ rfl (bG (v := .d (.lit (.bool false))) (aA rfl) (aH hS rfl) c8 rfl rfl)), trivial⟩⟩
    · exact eC (aM rfl (aX ⟨rfl, rfl, rfl, rfl, rfl, rfl, trivial⟩))
  ·refine aF ?_
   refine bN rfl (fun c15 => ?_) (fun c15 => ?_)
   ·have h := aP c15 h
    refine bK ?_
    refine aG ?_
    refine bZ ?_
    obtain ⟨x17, h18, h⟩ := bind_some h
    obtain ⟨x19, h20, h⟩ := bind_some h
    obtain ⟨x21, h22, h⟩ := bind_some h
    refine mR mix 16 [0, 1, 2, 3, 8, 9] (fun X16 => [(39, .d (.lit data_0_v)), (41, .d (.lit (.int .i64 ((w64 (j_2_4 - 1)))))), (50, .agg (bW x19))]) (fun X16 => [.arr data_0_v 114 4 ((data_2_4.set j_2_4.toNat x17).map bW)]) ?_ ?_
    ·refine ⟨0, fun X16 => [(37, 0, .d (.lit data_0_v)), (38, 1, .d (.lit (.int .i64 j_2_4))), (39, 2, .d (.lit data_0_v)), (40, 3, .d (.lit (.int .i64 j_2_4))), (41, 4, .d (.lit (.int .i64 ((w64 (j_2_4 - 1)))))), (42, 5, .d (.lit data_0_v)), (43, 6, .d (.lit (.int .i64 j_2_4))), (44, 7, .d (.lit (.int .i64 ((w64 (j_2_4 - 1)))))), (45, 8, .ep data_0_v 4 (w64 (j_2_4 - 1)).toNat 0), (46, 9, .agg (bW x17)), (47, 10, .d (.lit data_0_v)), (48, 11, .d (.lit (.int .i64 j_2_4))), (49, 12, .ep data_0_v 4 j_2_4.toNat 0), (50, 13, .agg (bW x19)), (51, 14, .ep data_0_v 4 j_2_4.toNat 0)], fun X16 => [([(15, .arr data_0_v 114 4 ((data_2_4.set j_2_4.toNat x17).map bW))], .arr data_0_v 114 4 (data_2_4.map bW))], ?_, ?_⟩
     · exact ⟨by kernel_rfl, by kernel_rfl, by kernel_rfl, fun _ => by kernel_rfl, fun _ => by kernel_rfl, fun _ => by kernel_rfl, fun _ => rfl, [([], [15]), ([], [15]), ([], []), ([], []), ([3], []), ([], [15]), ([], [15]), ([6], [15]), ([5, 7], [15]), ([8], [15]), ([], [15]), ([], [15]), ([10, 11], [15]), ([12], [15]), ([0, 1], [15]), ([9, 14], [])], by kernel_rfl, ⟨fun X16 S hw hi hS => bY (X := X16) rfl (hw X16) rfl (aQ rfl (aC (v := .d (.lit data_0_v)) (aA rfl) (aH hS rfl) rfl)),
      fun X16 S hw hi hS => bY (X := X16) rfl (hw X16) rfl (aQ rfl (aC (v := .d (.lit (.int .i64 j_2_4))) (aA rfl) (aH hS rfl) rfl)),
      fun X16 S hw hi hS => bY (X := X16) rfl (hw X16) rfl (aQ rfl (aC (v := .d (.lit data_0_v)) (aA rfl) (aH hS rfl) rfl)),
      fun X16 S hw hi hS => bY (X := X16) rfl (hw X16) rfl (aQ rfl (aC (v := .d (.lit (.int .i64 j_2_4))) (aA rfl) (aH hS rfl) rfl)),
      fun X16 S hw hi hS => bY (X := X16) rfl (hw X16) rfl (aQ rfl (aY (aA rfl) (aH hS rfl) rfl rfl)),
      fun X16 S hw hi hS => bY (X := X16) rfl (hw X16) rfl (aQ rfl (aC (v := .d (.lit data_0_v)) (aA rfl) (aH hS rfl) rfl)),
      fun X16 S hw hi hS => bY (X := X16) rfl (hw X16) rfl (aQ rfl (aC (v := .d (.lit (.int .i64 j_2_4))) (aA rfl) (aH hS rfl) rfl)),
      fun X16 S hw hi hS => bY (X := X16) rfl (hw X16) rfl (aQ rfl (aY (aA rfl) (aH hS rfl) rfl rfl)),
      fun X16 S hw hi hS => bY (X := X16) rfl (hw X16) rfl (aQ rfl (cI (m := 0) (aA rfl) (aH hS rfl) (og hS rfl rfl) (aH hS rfl) oS.of (bF bW h18))),
      fun X16 S hw hi hS => bY (X := X16) rfl (hw X16) rfl (aQ rfl (dH (aA rfl) (aH hS rfl) (l := 0) (og hS rfl rfl) (eD bW h18) tB (es := (bW x17)) rfl rfl)),
      fun X16 S hw hi hS => bY (X := X16) rfl (hw X16) rfl (aQ rfl (aC (v := .d (.lit data_0_v)) (aA rfl) (aH hS rfl) rfl)),
      fun X16 S hw hi hS => bY (X := X16) rfl (hw X16) rfl (aQ rfl (aC (v := .d (.lit (.int .i64 j_2_4))) (aA rfl) (aH hS rfl) rfl)),
      fun X16 S hw hi hS => bY (X := X16) rfl (hw X16) rfl (aQ rfl (cI (m := 0) (aA rfl) (aH hS rfl) (og hS rfl rfl) (aH hS rfl) oS.of (bF bW h20))),
      fun X16 S hw hi hS => bY (X := X16) rfl (hw X16) rfl (aQ rfl (dH (aA rfl) (aH hS rfl) (l := 0) (og hS rfl rfl) (eD bW h20) tB (es := (bW x19)) rfl rfl)),
      fun X16 S hw hi hS => bY (X := X16) rfl (hw X16) rfl (aQ rfl (cI (m := 0) (aA rfl) (aH hS rfl) (og hS rfl rfl) (aH hS rfl) oS.of (bF bW h22))),
      fun X16 S hw hi hS => qQ (X := X16) hS rfl rfl rfl (p := 0) rfl rfl (aQ rfl (jJ (l := 0) (aH hS rfl) (og hS rfl rfl) (eD bW h22) (aH hS rfl) rfl rfl Try.sizeOf114 rfl (aA rfl) (Nat.le_of_ble_eq_true rfl) (rows' := ((data_2_4.set j_2_4.toNat x17)).map bW) (mF _ _ _ _ rfl))), trivial⟩⟩
     · exact fun X16 => eC (aM rfl (aM rfl (aM rfl (aX ⟨rfl, rfl, rfl, rfl, rfl, rfl, trivial⟩))))
    ·intro X16
     obtain ⟨x23, h24, h⟩ := bind_some h
     refine tr1 rfl (cI (m := 0) (aA rfl) rfl rfl rfl oS.of (bF bW h24)) ?_
     refine tr1 rfl (jJ (l := 0) rfl rfl (eD bW h24) rfl rfl rfl Try.sizeOf114 rfl (aA rfl) (Nat.le_of_ble_eq_true rfl) (rows' := (((data_2_4.set j_2_4.toNat x17).set (w64 (j_2_4 - 1)).toNat x19)).map bW) (mF _ _ _ _ rfl)) ?_
     refine dE ?_
     refine aE ?_
     refine tr1 rfl (aC (v := .d (.lit (.int .i64 j_2_4))) (aA rfl) rfl rfl) ?_
     refine tr1 rfl (aY (aA rfl) rfl rfl rfl) ?_
     refine tr1 rfl (aI (v := .d (.lit (.int .i64 ((w64 (j_2_4 - 1)))))) (aA rfl) rfl rfl) ?_
     refine aF ?_
     exact ⟨(w64 (j_2_4 - 1), ((data_2_4.set j_2_4.toNat x17).set (w64 (j_2_4 - 1)).toNat x19)), h, aV [0] rfl rfl (aM rfl (aM rfl (aX ⟨rfl, rfl, rfl, rfl, trivial⟩)))⟩
   ·have h := aO c15 h
    refine cT ?_
    refine .inl ⟨rfl, ?_⟩
    simp only [fH] at h
    simp only [fG] at h
    refine aE ?_
    refine tr1 rfl (aC (v := .d (.lit (.int .i64 i_0_1))) (aA rfl) rfl rfl) ?_
    refine tr1 rfl (aY (aA rfl) rfl rfl rfl) ?_
    refine tr1 rfl (aI (v := .d (.lit (.int .i64 ((w64 (i_0_1 + 1)))))) (aA rfl) rfl rfl) ?_
    refine aF ?_
    exact ⟨(w64 (i_0_1 + 1), data_2_4), h, aV [0] rfl rfl (aM rfl (aM rfl (aX ⟨rfl, rfl, rfl, trivial⟩)))⟩
 ·have h := aO c3 h
  refine cT ?_
  refine .inl ⟨rfl, ?_⟩
  simp only [fF] at h
  have h := Option.some.inj h
  subst h
  exact ⟨_, [.arr data_0_v 114 4 (data_0_1.map bW)], [], _, .none, .refl _, .same _, rfl, rfl⟩

theorem pT (data_0 : List bC) (a_1 : Int) (b_2 : Int) (limit_3 : Int) (cmp_4 : bC → bC → Option Int) {r : (List bC)} {data_0_v : Value} (cmp_4_f : Nat) (cmp_4_v : List AV) (cmp_4_e : ∀ args w, (callFunc cmp_4_f args).run Try.prog w = .ok (.enter cmp_4_f args) w) (cmp_4_h : ∀ (x0 : bC) (x1 : bC) r, cmp_4 x0 x1 = some r → Fn Try.prog cmp_4_f ([.agg (bW x0), .agg (bW x1)] ++ cmp_4_v) (.d (.lit (.int .i64 r)))) (h : gO data_0 a_1 b_2 limit_3 cmp_4 = some r) : fR Try.prog 103 [.d (.lit data_0_v), .d (.lit (.int .i64 a_1)), .d (.lit (.int .i64 b_2)), .d (.lit (.int .i64 limit_3)), .fn cmp_4_f cmp_4_v] [.arr data_0_v 114 4 (data_0.map bW)] (fun r' o' => r' = .tup [] ∧ o' = [.arr data_0_v 114 4 (r.map bW)]) := by
 unfold gO at h
 refine jF Try.func103 rfl (rs := []) Try.results103 Try.ntmps103 (Nat.le_of_ble_eq_true rfl) ?_
 refine aG ?_
 refine aE ?_
 refine tr1 rfl (aI (v := .d (.lit (.bool true))) (aA rfl) rfl rfl) ?_
 refine aF ?_
 refine aG ?_
 refine aE ?_
 refine tr1 rfl (aI (v := .d (.lit (.bool true))) (aA rfl) rfl rfl) ?_
 refine aF ?_
 refine bZ ?_
 refine cM [4] (fun (s1 : Int × Int × Int × Bool × Bool × (List bC)) => [(0, .d (.lit data_0_v)), (1, .d (.lit (.int .i64 s1.1))), (2, .d (.lit (.int .i64 s1.2.1))), (3, .d (.lit (.int .i64 s1.2.2.1))), (10, .d (.lit (.bool s1.2.2.2.1))), (11, .d (.lit (.bool s1.2.2.2.2.1)))]) (fun (s1 : Int × Int × Int × Bool × Bool × (List bC)) => [.arr data_0_v 114 4 (s1.2.2.2.2.2.map bW)]) (fun (k : Nat) (s1 : Int × Int × Int × Bool × Bool × (List bC)) => gE cmp_4 k s1.1 s1.2.1 s1.2.2.1 s1.2.2.2.1 s1.2.2.2.2.1 s1.2.2.2.2.2) (fun _ => rfl) (a_1, b_2, limit_3, true, true, data_0) h (aV [0] rfl rfl (aM rfl (aM rfl (aM rfl (aM rfl (aM rfl (aM rfl (aX ⟨rfl, trivial⟩)))))))) ?_
 rintro k2 ⟨a_0_1, b_0_1, limit_0_1, wasBalanced_0_1, wasPartitioned_0_1, data_0_1⟩ h
 simp only [gE] at h
 refine bZ ?_
 refine aG ?_
 refine aE ?_
 refine tr1 rfl (aC (v := .d (.lit (.int .i64 b_0_1))) (aA rfl) rfl rfl) ?_
 refine tr1 rfl (aC (v := .d (.lit (.int .i64 a_0_1))) (aA rfl) rfl rfl) ?_
 refine tr1 rfl (aY (aA rfl) rfl rfl rfl) ?_
 refine tr1 rfl (aI (v := .d (.lit (.int .i64 ((w64 (b_0_1 - a_0_1)))))) (aA rfl) rfl rfl) ?_
 refine aF ?_
 refine aG ?_
 refine aG ?_
 refine aE ?_
 refine tr1 rfl (aC (v := .d (.lit (.int .i64 ((w64 (b_0_1 - a_0_1)))))) (aA rfl) rfl rfl) ?_
 refine tr1 rfl (bB (aA rfl) rfl rfl rfl) ?_
 refine aF ?_
 refine bN rfl (fun c3 => ?_) (fun c3 => ?_)
 ·have h := aP c3 h
  refine aG ?_
  refine aE ?_
  refine tr1 rfl (aC (v := .d (.lit data_0_v)) (aA rfl) rfl rfl) ?_
  refine tr1 rfl (aC (v := .d (.lit (.int .i64 a_0_1))) (aA rfl) rfl rfl) ?_
  refine tr1 rfl (aC (v := .d (.lit (.int .i64 b_0_1))) (aA rfl) rfl rfl) ?_
  refine tr1 rfl (aC (v := .fn cmp_4_f cmp_4_v) (aA rfl) rfl rfl) ?_
  obtain ⟨r4, h5, h⟩ := bind_some h
  refine cA rfl (dQ (passed := [.arr data_0_v 114 4 (data_0_1.map bW)]) (aA rfl) rfl (.func _ _ Try.call118) rfl rfl (nU data_0_1 a_0_1 b_0_1 cmp_4 cmp_4_f cmp_4_v cmp_4_e cmp_4_h h5)) ?_
  rintro _ ⟨_, _, ⟨rfl, rfl⟩, rfl⟩
  refine aF ?_
  have h := Option.some.inj h
  subst h
  exact bT ⟨rfl, _, [.arr data_0_v 114 4 (r4.map bW)], [], _, .none, .refl _, .same _, rfl, rfl⟩
 ·have h := aO c3 h
  refine bK ?_
  refine aG ?_
  refine aG ?_
  cases h

theorem sO (x_0 : List bC) (cmp_1 : bC → bC → Option Int) {r : (List bC)} {x_0_v : Value} (cmp_1_f : Nat) (cmp_1_v : List AV) (cmp_1_e : ∀ args w, (callFunc cmp_1_f args).run Try.prog w = .ok (.enter cmp_1_f args) w) (cmp_1_h : ∀ (x0 : bC) (x1 : bC) r, cmp_1 x0 x1 = some r → Fn Try.prog cmp_1_f ([.agg (bW x0), .agg (bW x1)] ++ cmp_1_v) (.d (.lit (.int .i64 r)))) (h : hO x_0 cmp_1 = some r) : fR Try.prog 87 [.d (.lit x_0_v), .fn cmp_1_f cmp_1_v] [.arr x_0_v 114 4 (x_0.map bW)] (fun r' o' => r' = .tup [] ∧ o' = [.arr x_0_v 114 4 (r.map bW)]) := by
 unfold hO at h
 refine jF Try.func87 rfl (rs := []) Try.results87 Try.ntmps87 (Nat.le_of_ble_eq_true rfl) ?_
 refine aG ?_
 refine aE ?_
 refine tr1 rfl (aC (v := .d (.lit x_0_v)) (aA rfl) rfl rfl) ?_
 refine tr1 rfl (lM (m := 0) (aA rfl) rfl rfl oS.of) ?_
 refine tr1 rfl (aI (v := .d (.lit (.int .i64 ((x_0.length : Int))))) (aA rfl) rfl rfl) ?_
 refine aF ?_
 refine aE ?_
 refine tr1 rfl (aC (v := .d (.lit x_0_v)) (aA rfl) rfl rfl) ?_
 refine tr1 rfl (aC (v := .d (.lit (.int .i64 ((x_0.length : Int))))) (aA rfl) rfl rfl) ?_
 refine tr1 rfl (aC (v := .d (.lit (.int .i64 ((x_0.length : Int))))) (aA rfl) rfl rfl) ?_
 refine tr1 rfl (oR (aA rfl) rfl Try.runUnderlying3 Try.runUnderlying127) ?_
 obtain ⟨r1, h2, h⟩ := bind_some h
 refine tr1 rfl (cF (aA rfl) (.func _ _ Try.call101) rfl rfl (BVs.refl _ _) (zI _ h2) rfl) ?_
 refine tr1 rfl (aC (v := .fn cmp_1_f cmp_1_v) (aA rfl) rfl rfl) ?_
 obtain ⟨r3, h4, h⟩ := bind_some h
 refine cA rfl (dQ (passed := [.arr x_0_v 114 4 (x_0.map bW)]) (aA rfl) rfl (.func _ _ Try.call103) rfl rfl (pT x_0 0 (x_0.length : Int) r1 cmp_1 cmp_1_f cmp_1_v cmp_1_e cmp_1_h h4)) ?_
 rintro _ ⟨_, _, ⟨rfl, rfl⟩, rfl⟩
 refine aF ?_
 have h := Option.some.inj h
 subst h
 exact ⟨_, [.arr x_0_v 114 4 (r3.map bW)], [], _, .none, .refl _, .same _, rfl, rfl⟩

theorem wK (x_0 : bC) (y_1 : bC) {r : Int} (h : jY x_0 y_1 = some r) : Fn Try.prog 88 [.agg (bW x_0), .agg (bW y_1)] (.d (.lit (.int .i64 r))) := by
 unfold jY at h
 refine Fn.of_tr Try.func88 rfl (rs := [.tmp 4]) Try.results88 Try.ntmps88 (Nat.le_of_ble_eq_true rfl) ?_
 refine aG ?_
 refine aE ?_
 refine cA rfl (fM (v := .agg (bW x_0)) (aA rfl) rfl rfl rfl) ?_
 rintro _ ⟨b1, rfl⟩
 refine cA rfl (fM (v := .agg (bW y_1)) (aA rfl) rfl rfl rfl) ?_
 rintro _ ⟨b2, rfl⟩
 refine tr1 rfl (aI (v := .d (.lit (.int .i64 0))) (aA rfl) rfl rfl) ?_
 refine aF ?_
 refine aG ?_
 refine aE ?_
 refine tr1 rfl (aU (aA rfl) rfl aAo) ?_
 refine tr1 rfl (aW (aA rfl) rfl (i := 1) rfl rfl bI) ?_
 refine tr1 rfl (aU (aA rfl) rfl aAo) ?_
 refine tr1 rfl (aW (aA rfl) rfl (i := 0) rfl rfl bI) ?_
 refine tr1 rfl (aY (aA rfl) rfl rfl rfl) ?_
 refine tr1 rfl (aU (aA rfl) rfl uD) ?_
 refine tr1 rfl (aW (aA rfl) rfl (i := 1) rfl rfl bI) ?_
 refine tr1 rfl (aU (aA rfl) rfl uD) ?_
 refine tr1 rfl (aW (aA rfl) rfl (i := 0) rfl rfl bI) ?_
 refine tr1 rfl (aY (aA rfl) rfl rfl rfl) ?_
 refine tr1 rfl (aU (aA rfl) rfl aAp) ?_
 refine tr1 rfl (aW (aA rfl) rfl (i := 0) rfl rfl bI) ?_
 refine tr1 rfl (aU (aA rfl) rfl aAp) ?_
 refine tr1 rfl (aW (aA rfl) rfl (i := 1) rfl rfl bI) ?_
 refine tr1 rfl (aY (aA rfl) rfl rfl rfl) ?_
 refine tr1 rfl (aU (aA rfl) rfl wW) ?_
 refine tr1 rfl (aW (aA rfl) rfl (i := 0) rfl rfl bI) ?_
 refine tr1 rfl (aU (aA rfl) rfl wW) ?_
 refine tr1 rfl (aW (aA rfl) rfl (i := 1) rfl rfl bI) ?_
 refine tr1 rfl (aY (aA rfl) rfl rfl rfl) ?_
 refine tr1 rfl (jL (aA rfl) eP rfl rfl (rows := ([w64 (y_1.points - x_0.points), w64 (y_1.musts - x_0.musts), w64 (x_0.many - y_1.many), w64 (x_0.player - y_1.player)]).map cE) rfl (dD (f := cE) fun _ => rfl) rfl (by decide)) ?_
 obtain ⟨r3, h4, h⟩ := bind_some h
 refine tr1 rfl (cF (aA rfl) (.func _ _ Try.call99) rfl rfl (BVs.refl _ _) (wS _ h4) rfl) ?_
 refine tr1 rfl (aI (v := .d (.lit (.int .i64 r3))) (aA rfl) rfl rfl) ?_
 refine aF ?_
 have h := Option.some.inj h
 subst h
 refine cP (cD (cJ (l := [4]) ⟨rfl, trivial⟩)) ?_
 exact bT ⟨rfl, _, .one _, rfl, rfl⟩

theorem tS (b_0 : cB) (week_1 : Int) {r : (List Int)} (h : gG b_0 week_1 = some r) : Fn Try.prog 59 [.cp (cH b_0), .d (.lit (.int .i64 week_1))] (.d (.sl 1 (r.map cE))) := by
 unfold gG at h
 refine Fn.of_tr Try.func59 rfl (rs := [.tmp 4]) Try.results59 Try.ntmps59 (Nat.le_of_ble_eq_true rfl) ?_
 refine aG ?_
 refine aE ?_
 refine tr1 rfl (pA 1 (aA rfl)) ?_
 refine aF ?_
 refine aG ?_
 refine aE ?_
 refine tr1 rfl (iI 114 4 (.inl rfl) (aA rfl)) ?_
 refine aF ?_
 refine aG ?_
 refine aG ?_
 refine aE ?_
 refine tr1 rfl (aC (v := .cp [.lit (.int .i64 b_0.Ledger.Players), .lit (.int .i64 b_0.Ledger.Counts), .sl 5 (b_0.Ledger.Reports.map aB), .sl 3 (b_0.Ledger.Bans.map aK), .sl 3 (b_0.Ledger.Frozen.map aK)]) (aA rfl) rfl rfl) ?_
 refine tr1 rfl (pB (aA rfl) rfl) ?_
 refine tr1 rfl (bO (aA rfl) rfl iV (es := [.lit (.int .i64 b_0.Ledger.Players), .lit (.int .i64 b_0.Ledger.Counts), .sl 5 (b_0.Ledger.Reports.map aB), .sl 3 (b_0.Ledger.Bans.map aK), .sl 3 (b_0.Ledger.Frozen.map aK)]) rfl) ?_
 refine tr1 rfl (bO (aA rfl) rfl jP (es := [.lit (.int .i64 b_0.Ledger.Players)]) rfl) ?_
 refine tr1 rfl (bP (aA rfl) rfl bI) ?_
 refine tr1 rfl (aC (v := .d (.lit (.int .i64 0))) (aA rfl) rfl rfl) ?_
 refine aF ?_
 refine bZ ?_
 refine cM [0, 1, 18] (fun (s2 : Int × (List bC) × Value) => [(5, .d (.lit s2.2.2)), (19, .d (.lit (.int .i64 s2.1)))]) (fun (s2 : Int × (List bC) × Value) => [.arr s2.2.2 114 4 (s2.2.1.map bW)]) (fun (k : Nat) (s2 : Int × (List bC) × Value) => fD b_0 week_1 b_0.Ledger.Players k s2.1 s2.2.1) (fun _ => rfl) (0, ([] : List bC), (.slice none 0 0)) h (aV [0] rfl rfl (aM rfl (aM rfl (aX ⟨rfl, rfl, rfl, trivial⟩)))) ?_
 rintro k4 ⟨t19_0_2, lines_0_2, w3⟩ h
 simp only [fD] at h
 refine aG ?_
 refine aE ?_
 refine tr1 rfl (bB (aA rfl) rfl rfl rfl) ?_
 refine aF ?_
 refine aG ?_
 refine bN rfl (fun c5 => ?_) (fun c5 => ?_)
 ·have h := aP c5 h
  refine bK ?_
  refine aG ?_
  refine bZ ?_
  refine aG ?_
  refine aE ?_
  refine tr1 rfl (aC (v := .d (.lit (.int .i64 t19_0_2))) (aA rfl) rfl rfl) ?_
  refine tr1 rfl (aI (v := .d (.lit (.int .i64 t19_0_2))) (aA rfl) rfl rfl) ?_
  refine aF ?_
  refine aG ?_
  refine aE ?_
  refine tr1 rfl (aC (v := .cp [.lit (.int .i64 b_0.Ledger.Players), .lit (.int .i64 b_0.Ledger.Counts), .sl 5 (b_0.Ledger.Reports.map aB), .sl 3 (b_0.Ledger.Bans.map aK), .sl 3 (b_0.Ledger.Frozen.map aK)]) (aA rfl) rfl rfl) ?_
  refine tr1 rfl (aC (v := .d (.lit (.int .i64 t19_0_2))) (aA rfl) rfl rfl) ?_
  refine tr1 rfl (aC (v := .d (.lit (.int .i64 week_1))) (aA rfl) rfl rfl) ?_
  obtain ⟨r6, h7, h⟩ := bind_some h
  refine tr1 rfl (lD (aA rfl) (.func _ _ Try.call72) rfl rfl (pJ _ _ _ h7)) ?_
  refine tr1 rfl (aI (v := .d (.sl 5 (r6.map aB))) (aA rfl) rfl rfl) ?_
  refine aF ?_
  refine aG ?_
  refine aG ?_
  refine aE ?_
  refine tr1 rfl (aC (v := .cp [.lit (.int .i64 b_0.Ledger.Players), .lit (.int .i64 b_0.Ledger.Counts), .sl 5 (b_0.Ledger.Reports.map aB), .sl 3 (b_0.Ledger.Bans.map aK), .sl 3 (b_0.Ledger.Frozen.map aK)]) (aA rfl) rfl rfl) ?_
  refine tr1 rfl (pB (aA rfl) rfl) ?_
  refine tr1 rfl (bO (aA rfl) rfl iV (es := [.lit (.int .i64 b_0.Ledger.Players), .lit (.int .i64 b_0.Ledger.Counts), .sl 5 (b_0.Ledger.Reports.map aB), .sl 3 (b_0.Ledger.Bans.map aK), .sl 3 (b_0.Ledger.Frozen.map aK)]) rfl) ?_
  refine tr1 rfl (bO (aA rfl) rfl qH (es := [.sl 3 (b_0.Ledger.Bans.map aK)]) rfl) ?_
  refine tr1 rfl (bP (aA rfl) rfl kX) ?_
  refine tr1 rfl (aC (v := .d (.lit (.int .i64 t19_0_2))) (aA rfl) rfl rfl) ?_
  refine tr1 rfl (aC (v := .d (.lit (.int .i64 week_1))) (aA rfl) rfl rfl) ?_
  obtain ⟨r8, h9, h⟩ := bind_some h
  refine tr1 rfl (cF (aA rfl) (.func _ _ Try.call48) rfl rfl (BVs.refl _ _) (uP _ _ _ h9) rfl) ?_
  refine tr1 rfl (aC (v := .d (.lit (.bool r8))) (aA rfl) rfl rfl) ?_
  obtain ⟨b10, h11, h⟩ := bind_some h
  refine bR 4 [0, 1, 5, 6, 7, 18, 19] 38 b10 ?_ ?_
  ·refine bA (r8) (fun c28 => ?_) (fun c28 => ?_)
   ·have h11 := aP c28 h11
    refine aN rfl rfl (aA rfl) rfl (aA rfl) rfl c28 ?_
    refine aN rfl rfl (aA rfl) rfl (aA rfl) rfl c28 ?_
    refine aN rfl rfl (aA rfl) rfl (aA rfl) rfl c28 ?_
    refine tr1 rfl (bH (v := .d (.lit (.bool true))) (aA rfl) rfl c28 rfl rfl) ?_
    have h11 := Option.some.inj h11
    subst h11
    refine aF (aT rfl ⟨rfl, rfl, rfl, rfl, rfl, rfl, rfl, trivial⟩ rfl)
   ·have h11 := aO c28 h11
    refine aL rfl rfl (aA rfl) rfl c28 (aC (v := .d (.sl 5 (r6.map aB))) (aA rfl) rfl rfl) ?_
    refine aL rfl rfl (aA rfl) rfl c28 (dR (aA rfl) rfl bQ.of) ?_
    refine aL rfl rfl (aA rfl) rfl c28 (bB (aA rfl) rfl rfl rfl) ?_
    refine tr1 rfl (bG (v := .d (.lit (.bool ((decide ((r6.length : Int) = 0)))))) (aA rfl) rfl c28 rfl rfl) ?_
    have h11 := Option.some.inj h11
    subst h11
    refine aF (aT rfl ⟨rfl, rfl, rfl, rfl, rfl, rfl, rfl, trivial⟩ rfl)
  ·refine aF ?_
   refine bN rfl (fun c12 => ?_) (fun c12 => ?_)
   ·have h := aP c12 h
    refine cT ?_
    refine .inl ⟨rfl, ?_⟩
    simp only [jW] at h
    refine aE ?_
    refine tr1 rfl (aY (aA rfl) rfl rfl rfl) ?_
    refine tr1 rfl (aC (v := .d (.lit (.int .i64 ((w64 (t19_0_2 + 1)))))) (aA rfl) rfl rfl) ?_
    refine aF ?_
    exact ⟨(w64 (t19_0_2 + 1), lines_0_2, w3), h, aV [0] rfl rfl (aM rfl (aM rfl (aX ⟨rfl, rfl, rfl, trivial⟩)))⟩
   ·have h := aO c12 h
    refine bK ?_
    refine aG ?_
    refine aE ?_
    refine tr1 rfl (aC (v := .d (.lit (.int .i64 t19_0_2))) (aA rfl) rfl rfl) ?_
    refine tr1 rfl (aC (v := .cp [.lit (.int .i64 b_0.Ledger.Players), .lit (.int .i64 b_0.Ledger.Counts), .sl 5 (b_0.Ledger.Reports.map aB), .sl 3 (b_0.Ledger.Bans.map aK), .sl 3 (b_0.Ledger.Frozen.map aK)]) (aA rfl) rfl rfl) ?_
    refine tr1 rfl (aC (v := .d (.sl 5 (r6.map aB))) (aA rfl) rfl rfl) ?_
    obtain ⟨r13, h14, h⟩ := bind_some h
    refine tr1 rfl (lD (aA rfl) (.func _ _ Try.call71) rfl rfl (pL _ _ h14)) ?_
    obtain ⟨r15, h16, h⟩ := bind_some h
    refine tr1 rfl (cF (aA rfl) (.func _ _ Try.call86) rfl rfl (BVs.refl _ _) (zN _ h16) rfl) ?_
    refine tr1 rfl (aC (v := .d (.sl 5 (r6.map aB))) (aA rfl) rfl rfl) ?_
    refine tr1 rfl (dR (aA rfl) rfl bQ.of) ?_
    refine tr1 rfl (mE (aA rfl) aHq (zs := [.lit (.int .i64 0), .lit (.int .i64 0), .lit (.int .i64 0), .lit (.int .i64 0)]) rfl rfl rfl rfl (es := [.lit (.int .i64 t19_0_2), .lit (.int .i64 r15), .lit (.int .i64 0), .lit (.int .i64 ((r6.length : Int)))]) rfl) ?_
    refine cA rfl (gR (zs := [.lit (.int .i64 0), .lit (.int .i64 0), .lit (.int .i64 0), .lit (.int .i64 0)]) (aA rfl) Try.zeroValue114 rfl rfl) ?_
    rintro _ ⟨b17, rfl⟩
    refine tr1 rfl (cO (i := 1) rfl rfl rfl rfl rfl Try.sizeOf114 rfl (aA rfl) (Nat.le_of_ble_eq_true rfl) (ds' := (bW (bC.mk t19_0_2 r15 0 (r6.length : Int)))) rfl) ?_
    refine aF ?_
    refine aG ?_
    refine aG ?_
    refine aE ?_
    refine tr1 rfl (aC (v := .d (.sl 5 (r6.map aB))) (aA rfl) rfl rfl) ?_
    refine tr1 rfl (dR (aA rfl) rfl bQ.of) ?_
    refine tr1 rfl (aC (v := .d (.lit (.int .i64 0))) (aA rfl) rfl rfl) ?_
    refine aF ?_
    refine bZ ?_
    refine cM [0, 1, 5, 8, 18, 19, 47, 48] (fun (s18 : Int × bC) => [(49, .d (.lit (.int .i64 s18.1)))]) (fun (s18 : Int × bC) => [.arr w3 114 4 (lines_0_2.map bW), .box b17 0 (bW s18.2)]) (fun (k : Nat) (s18 : Int × bC) => gU (fD b_0 week_1 b_0.Ledger.Players k4) b_0 week_1 b_0.Ledger.Players t19_0_2 r6 (r6.length : Int) lines_0_2 k s18.1 s18.2) (fun _ => rfl) (0, (bC.mk t19_0_2 r15 0 (r6.length : Int))) h (aV [0, 1] rfl rfl (aM rfl (aX ⟨rfl, rfl, rfl, rfl, rfl, rfl, rfl, rfl, trivial⟩))) ?_
    rintro k19 ⟨t49_2_18, x_2_18⟩ h
    simp only [gU] at h
    refine aG ?_
    refine aE ?_
    refine tr1 rfl (bB (aA rfl) rfl rfl rfl) ?_
    refine aF ?_
    refine aG ?_
    refine bN rfl (fun c20 => ?_) (fun c20 => ?_)
    ·have h := aP c20 h
     refine bK ?_
     refine aG ?_
     refine bZ ?_
     refine aG ?_
     refine aE ?_
     obtain ⟨x21, h22, h⟩ := bind_some h
     refine tr1 rfl (bJ (aA rfl) rfl rfl bQ.of (bF aB h22)) ?_
     refine tr1 rfl (fN (aA rfl) rfl dW (es := (aB x21)) rfl rfl) ?_
     refine cA rfl (gR (zs := [.lit (.int .i64 0), .lit (.int .i64 0), .lit (.int .i64 0), .lit (.int .i64 0), .lit (.bool false)]) (aA rfl) Try.zeroValue42 rfl rfl) ?_
     rintro _ ⟨b23, rfl⟩
     refine tr1 rfl (cO (i := 2) rfl rfl rfl rfl rfl Try.sizeOf42 rfl (aA rfl) (Nat.le_of_ble_eq_true rfl) (ds' := (aB x21)) rfl) ?_
     refine aF ?_
     refine aG ?_
     refine aE ?_
     refine tr1 rfl (aU (aA rfl) rfl eX) ?_
     refine tr1 rfl (aW (aA rfl) rfl (i := 2) rfl rfl iR) ?_
     refine aF ?_
     refine bN rfl (fun c24 => ?_) (fun c24 => ?_)
     ·have h := aP c24 h
      refine aE ?_
      refine tr1 rfl (aU (aA rfl) rfl uD) ?_
      refine tr1 rfl (aW (aA rfl) rfl (i := 1) rfl rfl bI) ?_
      refine tr1 rfl (aU (aA rfl) rfl fK) ?_
      refine tr1 rfl (aW (aA rfl) rfl (i := 2) rfl rfl bI) ?_
      refine tr1 rfl (aY (aA rfl) rfl rfl rfl) ?_
      refine tr1 rfl (aU (aA rfl) rfl uD) ?_
      refine tr1 rfl (cO (i := 1) rfl rfl rfl rfl rfl Try.sizeOf3 rfl (aA rfl) (Nat.le_of_ble_eq_true rfl) (ds' := (bW (bC.mk x_2_18.player x_2_18.points (w64 (x_2_18.musts + x21.Points)) x_2_18.many))) rfl) ?_
      refine dE ?_
      refine aE ?_
      refine tr1 rfl (aY (aA rfl) rfl rfl rfl) ?_
      refine tr1 rfl (aC (v := .d (.lit (.int .i64 ((w64 (t49_2_18 + 1)))))) (aA rfl) rfl rfl) ?_
      refine aF ?_
      exact ⟨(w64 (t49_2_18 + 1), (bC.mk x_2_18.player x_2_18.points (w64 (x_2_18.musts + x21.Points)) x_2_18.many)), h, aV [0, 1] rfl rfl (aM rfl (aX ⟨rfl, rfl, rfl, rfl, rfl, rfl, rfl, rfl, trivial⟩))⟩
     ·have h := aO c24 h
      refine dK ?_
      refine aE ?_
      refine tr1 rfl (aY (aA rfl) rfl rfl rfl) ?_
      refine tr1 rfl (aC (v := .d (.lit (.int .i64 ((w64 (t49_2_18 + 1)))))) (aA rfl) rfl rfl) ?_
      refine aF ?_
      exact ⟨(w64 (t49_2_18 + 1), x_2_18), h, aV [0, 1] rfl rfl (aM rfl (aX ⟨rfl, rfl, rfl, rfl, rfl, rfl, rfl, rfl, trivial⟩))⟩
    ·have h := aO c20 h
     refine cT ?_
     refine .inl ⟨rfl, ?_⟩
     simp only [nF] at h
     refine aE ?_
     refine tr1 rfl (aC (v := .d (.lit w3)) (aA rfl) rfl rfl) ?_
     refine tr1 rfl (dF (aA rfl) rfl (i := 1) rfl tB (es := (bW x_2_18)) rfl rfl) ?_
     refine tr1 rfl (jL (aA rfl) oS rfl rfl (rows := ([x_2_18]).map bW) rfl (dD (f := bW) fun _ => rfl) rfl (by decide)) ?_
     obtain ⟨x25, h26, h⟩ := bind_some h
     refine cA rfl (lP (i := 0) (aA rfl) oS rfl rfl rfl (fun _ => rfl) h26 rfl) ?_
     rintro _ ⟨v27, rfl⟩
     refine tr1 rfl (aI (v := .d (.lit v27)) (aA rfl) rfl rfl) ?_
     refine dE ?_
     simp only [jW] at h
     refine aE ?_
     refine tr1 rfl (aY (aA rfl) rfl rfl rfl) ?_
     refine tr1 rfl (aC (v := .d (.lit (.int .i64 ((w64 (t19_0_2 + 1)))))) (aA rfl) rfl rfl) ?_
     refine aF ?_
     exact ⟨(w64 (t19_0_2 + 1), x25, v27), h, aV [0] rfl rfl (aM rfl (aM rfl (aX ⟨rfl, rfl, rfl, trivial⟩)))⟩
 ·have h := aO c5 h
  refine cT ?_
  refine .inl ⟨rfl, ?_⟩
  simp only [lI] at h
  refine aG ?_
  refine aE ?_
  refine tr1 rfl (aC (v := .d (.lit w3)) (aA rfl) rfl rfl) ?_
  obtain ⟨r31, h32, h⟩ := bind_some h
  refine cA rfl (dQ (passed := [.arr w3 114 4 (lines_0_2.map bW)]) (aA rfl) rfl (.func _ _ Try.call87) rfl rfl (sO lines_0_2 (fun y29 y30 => jY y29 y30) 88 [] Try.call88 (fun _ _ _ h => wK _ _ h) h32)) ?_
  rintro _ ⟨_, _, ⟨rfl, rfl⟩, rfl⟩
  refine aF ?_
  refine aG ?_
  refine aE ?_
  refine tr1 rfl (iI 3 1 (.inl rfl) (aA rfl)) ?_
  refine aF ?_
  refine aG ?_
  refine aG ?_
  refine aE ?_
  refine tr1 rfl (aC (v := .d (.lit w3)) (aA rfl) rfl rfl) ?_
  refine tr1 rfl (lM (m := 0) (aA rfl) rfl rfl oS.of) ?_
  refine tr1 rfl (aC (v := .d (.lit (.int .i64 0))) (aA rfl) rfl rfl) ?_
  refine aF ?_
  refine bZ ?_
  refine cM [69, 70] (fun (s34 : Int × (List Int) × Value) => [(11, .d (.lit s34.2.2)), (71, .d (.lit (.int .i64 s34.1)))]) (fun (s34 : Int × (List Int) × Value) => [.arr w3 114 4 (r31.map bW), .arr s34.2.2 3 1 (s34.2.1.map cE)]) (fun (k : Nat) (s34 : Int × (List Int) × Value) => iW (r31.length : Int) r31 k s34.1 s34.2.1) (fun _ => rfl) (0, ([] : List Int), (.slice none 0 0)) h (aV [0, 1] rfl rfl (aM rfl (aM rfl (aX ⟨rfl, rfl, trivial⟩)))) ?_
  rintro k36 ⟨t71_4_34, out_4_34, w35⟩ h
  simp only [iW] at h
  refine aG ?_
  refine aE ?_
  refine tr1 rfl (bB (aA rfl) rfl rfl rfl) ?_
  refine aF ?_
  refine aG ?_
  refine bN rfl (fun c37 => ?_) (fun c37 => ?_)
  ·have h := aP c37 h
   refine bK ?_
   refine aG ?_
   refine bZ ?_
   refine aG ?_
   refine aE ?_
   obtain ⟨x38, h39, h⟩ := bind_some h
   refine tr1 rfl (cI (m := 0) (aA rfl) rfl rfl rfl oS.of (bF bW h39)) ?_
   refine tr1 rfl (dH (aA rfl) rfl (l := 0) rfl (eD bW h39) tB (es := (bW x38)) rfl rfl) ?_
   refine cA rfl (gR (zs := [.lit (.int .i64 0), .lit (.int .i64 0), .lit (.int .i64 0), .lit (.int .i64 0)]) (aA rfl) Try.zeroValue114 rfl rfl) ?_
   rintro _ ⟨b40, rfl⟩
   refine tr1 rfl (cO (i := 2) rfl rfl rfl rfl rfl Try.sizeOf114 rfl (aA rfl) (Nat.le_of_ble_eq_true rfl) (ds' := (bW x38)) rfl) ?_
   refine aF ?_
   refine aE ?_
   refine tr1 rfl (aC (v := .d (.lit w35)) (aA rfl) rfl rfl) ?_
   refine tr1 rfl (aU (aA rfl) rfl wW) ?_
   refine tr1 rfl (aW (aA rfl) rfl (i := 2) rfl rfl bI) ?_
   refine tr1 rfl (jL (aA rfl) eP rfl rfl (rows := ([x38.player]).map cE) rfl (dD (f := cE) fun _ => rfl) rfl (by decide)) ?_
   obtain ⟨x41, h42, h⟩ := bind_some h
   refine cA rfl (lP (i := 1) (aA rfl) eP rfl rfl rfl (fun _ => rfl) h42 rfl) ?_
   rintro _ ⟨v43, rfl⟩
   refine tr1 rfl (aI (v := .d (.lit v43)) (aA rfl) rfl rfl) ?_
   refine dE ?_
   refine aE ?_
   refine tr1 rfl (aY (aA rfl) rfl rfl rfl) ?_
   refine tr1 rfl (aC (v := .d (.lit (.int .i64 ((w64 (t71_4_34 + 1)))))) (aA rfl) rfl rfl) ?_
   refine aF ?_
   exact ⟨(w64 (t71_4_34 + 1), x41, v43), h, aV [0, 1] rfl rfl (aM rfl (aM rfl (aX ⟨rfl, rfl, trivial⟩)))⟩
  ·have h := aO c37 h
   refine cT ?_
   refine .inl ⟨rfl, ?_⟩
   simp only [pK] at h
   refine aG ?_
   refine aE ?_
   refine tr1 rfl (aC (v := .d (.lit w35)) (aA rfl) rfl rfl) ?_
   refine tr1 rfl (aI (v := .d (.lit w35)) (aA rfl) rfl rfl) ?_
   refine aF ?_
   have h := Option.some.inj h
   subst h
   refine cP (cD (fV (k := 4) (v := .d (.sl 1 (out_4_34.map cE))) (.d (iE 1 rfl (dD (f := cE) fun _ => rfl))) (uU))) ?_
   exact bT ⟨rfl, _, .one _, rfl, rfl⟩

theorem aCz (l_0 : aR) (week_1 : Int) {r : (List Int) × Int} (h : xE l_0 week_1 = some r) : Fn Try.prog 27 [.agg (aZ l_0), .d (.lit (.int .i64 week_1))] (.tup [.d (.sl 1 (r.1.map cE)), .d (.lit (.int .i64 r.2))]) := by
 unfold xE at h
 refine Fn.of_tr Try.func27 rfl (rs := [.tmp 4, .tmp 5]) Try.results27 Try.ntmps27 (Nat.le_of_ble_eq_true rfl) ?_
 refine aG ?_
 refine aE ?_
 refine cA rfl (fM (v := .agg (aZ l_0)) (aA rfl) rfl rfl rfl) ?_
 rintro _ ⟨b1, rfl⟩
 refine tr1 rfl (pA 1 (aA rfl)) ?_
 refine tr1 rfl (aI (v := .d (.lit (.int .i64 0))) (aA rfl) rfl rfl) ?_
 refine aF ?_
 refine aG ?_
 refine aE ?_
 refine tr1 rfl (dF (aA rfl) rfl (i := 0) rfl hB (es := (aZ l_0)) rfl rfl) ?_
 refine tr1 rfl (aC (v := .d (.lit (.int .i64 week_1))) (aA rfl) rfl rfl) ?_
 obtain ⟨r2, h3, h⟩ := bind_some h
 refine cA rfl (dQ (passed := []) (aA rfl) rfl (.func _ _ Try.call44) rfl rfl (rA _ _ _ h3)) ?_
 rintro _ ⟨_, _, ⟨b5, w6, rfl, rfl⟩, rfl⟩
 obtain ⟨_ | y4, e7⟩ := r2
 ·have h := vD h
  refine fJ (aV [0] rfl rfl (le_refl _)) ?_
  refine tr1 rfl (aC (v := .tup [.d (.lit (.pointer none)), .d (.lit (.int .i64 e7))]) (aA rfl) rfl rfl) ?_
  refine tr1 rfl (cW (aA rfl) rfl rfl) ?_
  refine tr1 rfl (cW (aA rfl) rfl rfl) ?_
  refine tr1 rfl (aI (v := .d (.lit (.pointer none))) (aA rfl) rfl rfl) ?_
  refine tr1 rfl (aI (v := .d (.lit (.int .i64 e7))) (aA rfl) rfl rfl) ?_
  refine aF ?_
  refine aG ?_
  refine aG ?_
  refine aE ?_
  refine tr1 rfl (aC (v := .d (.lit (.int .i64 e7))) (aA rfl) rfl rfl) ?_
  refine tr1 rfl (bB (aA rfl) rfl rfl rfl) ?_
  refine aF ?_
  refine bN rfl (fun c8 => ?_) (fun c8 => ?_)
  ·have h := aP c8 h
   refine aG ?_
   refine aE ?_
   refine tr1 rfl (aC (v := .d (.lit (.int .i64 e7))) (aA rfl) rfl rfl) ?_
   refine tr1 rfl (pA 1 (aA rfl)) ?_
   refine tr1 rfl (aI (v := .d (.lit (.int .i64 e7))) (aA rfl) rfl rfl) ?_
   refine aF ?_
   have h := Option.some.inj h
   subst h
   refine cP (cD (cJ (l := [4, 5]) ⟨rfl, rfl, trivial⟩)) ?_
   exact bT ⟨rfl, _, .two _ _, rfl, rfl⟩
  ·have h := aO c8 h
   refine bK ?_
   refine aG ?_
   refine aE ?_
   refine tr1 rfl (aC (v := .d (.lit (.pointer none))) (aA rfl) rfl rfl) ?_
   refine tr1 rfl (aC (v := .d (.lit (.int .i64 week_1))) (aA rfl) rfl rfl) ?_
   cases h
 ·have h := vE h
  refine fJ (aV [0, 1, 2] rfl rfl (le_refl _)) ?_
  refine tr1 rfl (aC (v := .tup [.bp b5 0 0, .d (.lit (.int .i64 e7))]) (aA rfl) rfl rfl) ?_
  refine tr1 rfl (cW (aA rfl) rfl rfl) ?_
  refine tr1 rfl (cW (aA rfl) rfl rfl) ?_
  refine tr1 rfl (aI (v := .bp b5 0 0) (aA rfl) rfl rfl) ?_
  refine tr1 rfl (aI (v := .d (.lit (.int .i64 e7))) (aA rfl) rfl rfl) ?_
  refine aF ?_
  refine aG ?_
  refine aG ?_
  refine aE ?_
  refine tr1 rfl (aC (v := .d (.lit (.int .i64 e7))) (aA rfl) rfl rfl) ?_
  refine tr1 rfl (bB (aA rfl) rfl rfl rfl) ?_
  refine aF ?_
  refine bN rfl (fun c9 => ?_) (fun c9 => ?_)
  ·have h := aP c9 h
   refine aG ?_
   refine aE ?_
   refine tr1 rfl (aC (v := .d (.lit (.int .i64 e7))) (aA rfl) rfl rfl) ?_
   refine tr1 rfl (pA 1 (aA rfl)) ?_
   refine tr1 rfl (aI (v := .d (.lit (.int .i64 e7))) (aA rfl) rfl rfl) ?_
   refine aF ?_
   have h := Option.some.inj h
   subst h
   refine cP (cD (cJ (l := [4, 5]) ⟨rfl, rfl, trivial⟩)) ?_
   exact bT ⟨rfl, _, .two _ _, rfl, rfl⟩
  ·have h := aO c9 h
   refine bK ?_
   refine aG ?_
   refine aE ?_
   refine tr1 rfl (aC (v := .bp b5 0 0) (aA rfl) rfl rfl) ?_
   refine tr1 rfl (aC (v := .d (.lit (.int .i64 week_1))) (aA rfl) rfl rfl) ?_
   refine fJ (aV [2, 0, 1] rfl rfl (le_refl _)) ?_
   apply aAf [.box b1 0 (aZ l_0)] [.box b5 0 [.lit (.int .i64 y4.Ledger.Players), .lit (.int .i64 y4.Ledger.Counts), .lit w6, .sl 3 (y4.Ledger.Bans.map aK), .sl 3 (y4.Ledger.Frozen.map aK)], .arr w6 42 5 (y4.Ledger.Reports.map aB)] rfl
   exact fV (k := 17) (v := .cp [.lit (.int .i64 y4.Ledger.Players), .lit (.int .i64 y4.Ledger.Counts), .sl 5 (y4.Ledger.Reports.map aB), .sl 3 (y4.Ledger.Bans.map aK), .sl 3 (y4.Ledger.Frozen.map aK)]) ((mH 0 rfl rfl (dvc (.same _) (dvc (.same _) (dvc (iE 1 rfl (dD (f := aB) fun _ => rfl)) (dvc (.same _) (dvc (.same _) dvn))))))) (fV (k := 12) (v := .cp [.lit (.int .i64 y4.Ledger.Players), .lit (.int .i64 y4.Ledger.Counts), .sl 5 (y4.Ledger.Reports.map aB), .sl 3 (y4.Ledger.Bans.map aK), .sl 3 (y4.Ledger.Frozen.map aK)]) ((mH 0 rfl rfl (dvc (.same _) (dvc (.same _) (dvc (iE 1 rfl (dD (f := aB) fun _ => rfl)) (dvc (.same _) (dvc (.same _) dvn))))))) (fV (k := 11) (v := .any) (.any _) (fV (k := 8) (v := .any) (.any _) (fV (k := 6) (v := .cp [.lit (.int .i64 y4.Ledger.Players), .lit (.int .i64 y4.Ledger.Counts), .sl 5 (y4.Ledger.Reports.map aB), .sl 3 (y4.Ledger.Bans.map aK), .sl 3 (y4.Ledger.Frozen.map aK)]) ((mH 0 rfl rfl (dvc (.same _) (dvc (.same _) (dvc (iE 1 rfl (dD (f := aB) fun _ => rfl)) (dvc (.same _) (dvc (.same _) dvn))))))) (qE _ _)))))
   obtain ⟨r10, h11, h⟩ := bind_some h
   refine tr1 rfl (lD (aA rfl) (.func _ _ Try.call59) rfl rfl (tS _ _ h11)) ?_
   refine tr1 rfl (aI (v := .d (.sl 1 (r10.map cE))) (aA rfl) rfl rfl) ?_
   refine tr1 rfl (aI (v := .d (.lit (.int .i64 0))) (aA rfl) rfl rfl) ?_
   refine aF ?_
   have h := Option.some.inj h
   subst h
   refine cP (cD (cJ (l := [4, 5]) ⟨rfl, rfl, trivial⟩)) ?_
   exact bT ⟨rfl, _, .two _ _, rfl, rfl⟩

theorem uS (s_0 : List Int) (f_1 : Int → Option Bool) {r : Int} (f_1_f : Nat) (f_1_v : List AV) (f_1_e : ∀ args w, (callFunc f_1_f args).run Try.prog w = .ok (.enter f_1_f args) w) (f_1_h : ∀ (x0 : Int) r, f_1 x0 = some r → Fn Try.prog f_1_f ([.d (.lit (.int .i64 x0))] ++ f_1_v) (.d (.lit (.bool r)))) (h : nN s_0 f_1 = some r) : Fn Try.prog 81 [.d (.sl 1 (s_0.map cE)), .fn f_1_f f_1_v] (.d (.lit (.int .i64 r))) := by
 unfold nN at h
 refine Fn.of_tr Try.func81 rfl (rs := [.tmp 4]) Try.results81 Try.ntmps81 (Nat.le_of_ble_eq_true rfl) ?_
 refine aG ?_
 refine aE ?_
 refine tr1 rfl (aI (v := .d (.lit (.int .i64 0))) (aA rfl) rfl rfl) ?_
 refine aF ?_
 refine aG ?_
 refine aG ?_
 refine aE ?_
 refine tr1 rfl (aC (v := .d (.sl 1 (s_0.map cE))) (aA rfl) rfl rfl) ?_
 refine tr1 rfl (dR (aA rfl) rfl eP.of) ?_
 refine tr1 rfl (aC (v := .d (.lit (.int .i64 0))) (aA rfl) rfl rfl) ?_
 refine aF ?_
 refine bZ ?_
 refine cM [0, 1, 7] (fun (s1 : Int) => [(8, .d (.lit (.int .i64 s1)))]) (fun (s1 : Int) => []) (fun (k : Nat) (s1 : Int) => kC s_0 f_1 (s_0.length : Int) k s1) (fun _ => rfl) (0) h (aV [] rfl rfl (aM rfl (aX ⟨rfl, rfl, rfl, trivial⟩))) ?_
 rintro k2 t8_0_1 h
 simp only [kC] at h
 refine aG ?_
 refine aE ?_
 refine tr1 rfl (bB (aA rfl) rfl rfl rfl) ?_
 refine aF ?_
 refine aG ?_
 refine bN rfl (fun c3 => ?_) (fun c3 => ?_)
 ·have h := aP c3 h
  refine bK ?_
  refine aG ?_
  refine bZ ?_
  refine aG ?_
  refine aE ?_
  refine tr1 rfl (aC (v := .d (.lit (.int .i64 t8_0_1))) (aA rfl) rfl rfl) ?_
  refine tr1 rfl (aI (v := .d (.lit (.int .i64 t8_0_1))) (aA rfl) rfl rfl) ?_
  refine aF ?_
  refine aG ?_
  refine aE ?_
  refine tr1 rfl (aC (v := .fn f_1_f f_1_v) (aA rfl) rfl rfl) ?_
  refine tr1 rfl (aC (v := .d (.sl 1 (s_0.map cE))) (aA rfl) rfl rfl) ?_
  refine tr1 rfl (aC (v := .d (.lit (.int .i64 t8_0_1))) (aA rfl) rfl rfl) ?_
  obtain ⟨x4, h5, h⟩ := bind_some h
  refine tr1 rfl (bJ (aA rfl) rfl rfl eP.of (bF cE h5)) ?_
  refine tr1 rfl (bP (aA rfl) rfl bI) ?_
  obtain ⟨r6, h7, h⟩ := bind_some h
  refine tr1 rfl (cF (aA rfl) (.clo _ _ _ _ f_1_e rfl) (tJ rfl) rfl (BVs.refl _ _) (f_1_h _ _  h7) rfl) ?_
  refine aF ?_
  refine bN rfl (fun c8 => ?_) (fun c8 => ?_)
  ·have h := aP c8 h
   refine aG ?_
   refine aE ?_
   refine tr1 rfl (aC (v := .d (.lit (.int .i64 t8_0_1))) (aA rfl) rfl rfl) ?_
   refine tr1 rfl (aI (v := .d (.lit (.int .i64 t8_0_1))) (aA rfl) rfl rfl) ?_
   refine aF ?_
   have h := Option.some.inj h
   subst h
   exact bT ⟨rfl, _, .one _, rfl, rfl⟩
  ·have h := aO c8 h
   refine dK ?_
   refine aE ?_
   refine tr1 rfl (aY (aA rfl) rfl rfl rfl) ?_
   refine tr1 rfl (aC (v := .d (.lit (.int .i64 ((w64 (t8_0_1 + 1)))))) (aA rfl) rfl rfl) ?_
   refine aF ?_
   exact ⟨(w64 (t8_0_1 + 1)), h, aV [] rfl rfl (aM rfl (aX ⟨rfl, rfl, rfl, trivial⟩))⟩
 ·have h := aO c3 h
  refine cT ?_
  refine .inl ⟨rfl, ?_⟩
  simp only [pE] at h
  refine aG ?_
  refine aE ?_
  refine tr1 rfl (aI (v := .d (.lit (.int .i64 (-1)))) (aA rfl) rfl rfl) ?_
  refine aF ?_
  have h := Option.some.inj h
  subst h
  exact bT ⟨rfl, _, .one _, rfl, rfl⟩

theorem oJ (s_0 : List Int) (f_1 : Int → Option Bool) {r : Bool} (f_1_f : Nat) (f_1_v : List AV) (f_1_e : ∀ args w, (callFunc f_1_f args).run Try.prog w = .ok (.enter f_1_f args) w) (f_1_h : ∀ (x0 : Int) r, f_1 x0 = some r → Fn Try.prog f_1_f ([.d (.lit (.int .i64 x0))] ++ f_1_v) (.d (.lit (.bool r)))) (h : kB s_0 f_1 = some r) : Fn Try.prog 45 [.d (.sl 1 (s_0.map cE)), .fn f_1_f f_1_v] (.d (.lit (.bool r))) := by
 unfold kB at h
 refine Fn.of_tr Try.func45 rfl (rs := [.tmp 4]) Try.results45 Try.ntmps45 (Nat.le_of_ble_eq_true rfl) ?_
 refine aG ?_
 refine aE ?_
 refine tr1 rfl (aI (v := .d (.lit (.bool false))) (aA rfl) rfl rfl) ?_
 refine aF ?_
 refine aG ?_
 refine aE ?_
 refine tr1 rfl (aC (v := .d (.sl 1 (s_0.map cE))) (aA rfl) rfl rfl) ?_
 refine tr1 rfl (aC (v := .fn f_1_f f_1_v) (aA rfl) rfl rfl) ?_
 obtain ⟨r1, h2, h⟩ := bind_some h
 refine tr1 rfl (cF (aA rfl) (.func _ _ Try.call81) rfl rfl (BVs.refl _ _) (uS _ _ f_1_f f_1_v f_1_e f_1_h h2) rfl) ?_
 refine tr1 rfl (bB (aA rfl) rfl rfl rfl) ?_
 refine tr1 rfl (aI (v := .d (.lit (.bool ((decide (0 ≤ r1)))))) (aA rfl) rfl rfl) ?_
 refine aF ?_
 have h := Option.some.inj h
 subst h
 exact bT ⟨rfl, _, .one _, rfl, rfl⟩

theorem vG (n_0 : Int) {r : Bool} (h : qY n_0 = some r) : Fn Try.prog 46 [.d (.lit (.int .i64 n_0))] (.d (.lit (.bool r))) := by
 unfold qY at h
 refine Fn.of_tr Try.func46 rfl (rs := [.tmp 2]) Try.results46 Try.ntmps46 (Nat.le_of_ble_eq_true rfl) ?_
 refine aG ?_
 refine aE ?_
 refine tr1 rfl (aI (v := .d (.lit (.bool false))) (aA rfl) rfl rfl) ?_
 refine aF ?_
 refine aG ?_
 refine aE ?_
 refine tr1 rfl (aC (v := .d (.lit (.int .i64 n_0))) (aA rfl) rfl rfl) ?_
 obtain ⟨r1, h2, h⟩ := bind_some h
 refine tr1 rfl (cF (aA rfl) (.func _ _ Try.call47) rfl rfl (BVs.refl _ _) (eY _ _ _ h2) rfl) ?_
 refine tr1 rfl (dB (aA rfl) rfl) ?_
 refine tr1 rfl (aI (v := .d (.lit (.bool (!r1)))) (aA rfl) rfl rfl) ?_
 refine aF ?_
 have h := Option.some.inj h
 subst h
 exact bT ⟨rfl, _, .one _, rfl, rfl⟩

theorem xL (s_0 : List Int) (v_1 : Int) {r : Int} (h : qN s_0 v_1 = some r) : Fn Try.prog 85 [.d (.sl 1 (s_0.map cE)), .d (.lit (.int .i64 v_1))] (.d (.lit (.int .i64 r))) := by
 unfold qN at h
 refine Fn.of_tr Try.func85 rfl (rs := [.tmp 4]) Try.results85 Try.ntmps85 (Nat.le_of_ble_eq_true rfl) ?_
 refine aG ?_
 refine aE ?_
 refine tr1 rfl (aI (v := .d (.lit (.int .i64 0))) (aA rfl) rfl rfl) ?_
 refine aF ?_
 refine aG ?_
 refine aG ?_
 refine aE ?_
 refine tr1 rfl (aC (v := .d (.sl 1 (s_0.map cE))) (aA rfl) rfl rfl) ?_
 refine tr1 rfl (dR (aA rfl) rfl eP.of) ?_
 refine tr1 rfl (aC (v := .d (.lit (.int .i64 0))) (aA rfl) rfl rfl) ?_
 refine aF ?_
 refine bZ ?_
 refine cM [0, 1, 7] (fun (s1 : Int) => [(8, .d (.lit (.int .i64 s1)))]) (fun (s1 : Int) => []) (fun (k : Nat) (s1 : Int) => mA s_0 v_1 (s_0.length : Int) k s1) (fun _ => rfl) (0) h (aV [] rfl rfl (aM rfl (aX ⟨rfl, rfl, rfl, trivial⟩))) ?_
 rintro k2 t8_0_1 h
 simp only [mA] at h
 refine aG ?_
 refine aE ?_
 refine tr1 rfl (bB (aA rfl) rfl rfl rfl) ?_
 refine aF ?_
 refine aG ?_
 refine bN rfl (fun c3 => ?_) (fun c3 => ?_)
 ·have h := aP c3 h
  refine bK ?_
  refine aG ?_
  refine bZ ?_
  refine aG ?_
  refine aE ?_
  refine tr1 rfl (aC (v := .d (.lit (.int .i64 t8_0_1))) (aA rfl) rfl rfl) ?_
  refine tr1 rfl (aI (v := .d (.lit (.int .i64 t8_0_1))) (aA rfl) rfl rfl) ?_
  refine aF ?_
  refine aG ?_
  refine aE ?_
  refine tr1 rfl (aC (v := .d (.lit (.int .i64 v_1))) (aA rfl) rfl rfl) ?_
  refine tr1 rfl (aC (v := .d (.sl 1 (s_0.map cE))) (aA rfl) rfl rfl) ?_
  refine tr1 rfl (aC (v := .d (.lit (.int .i64 t8_0_1))) (aA rfl) rfl rfl) ?_
  obtain ⟨x4, h5, h⟩ := bind_some h
  refine tr1 rfl (bJ (aA rfl) rfl rfl eP.of (bF cE h5)) ?_
  refine tr1 rfl (bP (aA rfl) rfl bI) ?_
  refine tr1 rfl (bB (aA rfl) rfl rfl rfl) ?_
  refine aF ?_
  refine bN rfl (fun c6 => ?_) (fun c6 => ?_)
  ·have h := aP c6 h
   refine aG ?_
   refine aE ?_
   refine tr1 rfl (aC (v := .d (.lit (.int .i64 t8_0_1))) (aA rfl) rfl rfl) ?_
   refine tr1 rfl (aI (v := .d (.lit (.int .i64 t8_0_1))) (aA rfl) rfl rfl) ?_
   refine aF ?_
   have h := Option.some.inj h
   subst h
   exact bT ⟨rfl, _, .one _, rfl, rfl⟩
  ·have h := aO c6 h
   refine dK ?_
   refine aE ?_
   refine tr1 rfl (aY (aA rfl) rfl rfl rfl) ?_
   refine tr1 rfl (aC (v := .d (.lit (.int .i64 ((w64 (t8_0_1 + 1)))))) (aA rfl) rfl rfl) ?_
   refine aF ?_
   exact ⟨(w64 (t8_0_1 + 1)), h, aV [] rfl rfl (aM rfl (aX ⟨rfl, rfl, rfl, trivial⟩))⟩
 ·have h := aO c3 h
  refine cT ?_
  refine .inl ⟨rfl, ?_⟩
  simp only [rO] at h
  refine aG ?_
  refine aE ?_
  refine tr1 rfl (aI (v := .d (.lit (.int .i64 (-1)))) (aA rfl) rfl rfl) ?_
  refine aF ?_
  have h := Option.some.inj h
  subst h
  exact bT ⟨rfl, _, .one _, rfl, rfl⟩

theorem xV (b_0 : cB) (player_1 : Int) (week_2 : Int) {r : Int} (h : rC b_0 player_1 week_2 = some r) : Fn Try.prog 51 [.cp (cH b_0), .d (.lit (.int .i64 player_1)), .d (.lit (.int .i64 week_2))] (.d (.lit (.int .i64 r))) := by
 unfold rC at h
 refine Fn.of_tr Try.func51 rfl (rs := [.tmp 6]) Try.results51 Try.ntmps51 (Nat.le_of_ble_eq_true rfl) ?_
 refine aG ?_
 refine aE ?_
 refine tr1 rfl (aI (v := .d (.lit (.int .i64 0))) (aA rfl) rfl rfl) ?_
 refine aF ?_
 refine aG ?_
 refine aE ?_
 refine tr1 rfl (aC (v := .cp [.lit (.int .i64 b_0.Ledger.Players), .lit (.int .i64 b_0.Ledger.Counts), .sl 5 (b_0.Ledger.Reports.map aB), .sl 3 (b_0.Ledger.Bans.map aK), .sl 3 (b_0.Ledger.Frozen.map aK)]) (aA rfl) rfl rfl) ?_
 refine tr1 rfl (aC (v := .d (.lit (.int .i64 week_2))) (aA rfl) rfl rfl) ?_
 obtain ⟨r1, h2, h⟩ := bind_some h
 refine tr1 rfl (lD (aA rfl) (.func _ _ Try.call59) rfl rfl (tS _ _ h2)) ?_
 refine tr1 rfl (aC (v := .d (.lit (.int .i64 player_1))) (aA rfl) rfl rfl) ?_
 obtain ⟨r3, h4, h⟩ := bind_some h
 refine tr1 rfl (cF (aA rfl) (.func _ _ Try.call85) rfl rfl (BVs.refl _ _) (xL _ _ h4) rfl) ?_
 refine tr1 rfl (aY (aA rfl) rfl rfl rfl) ?_
 refine tr1 rfl (aI (v := .d (.lit (.int .i64 ((w64 (r3 + 1)))))) (aA rfl) rfl rfl) ?_
 refine aF ?_
 have h := Option.some.inj h
 subst h
 exact bT ⟨rfl, _, .one _, rfl, rfl⟩

theorem aAd (book : cB) (pl : Int) (wk : Int) (ms : Bool) (be : Int) (wo : Int) {r : Bool × Int × Int} {book_b book_o : Nat} {bb_b bb_o : Nat} {pl_b pl_o : Nat} {wk_b wk_o : Nat} {ms_b ms_o : Nat} {be_b be_o : Nat} {wo_b wo_o : Nat} (h : tQ book pl wk ms be wo = some r) : fR Try.prog 50 [.bp bb_b bb_o 0, .bp pl_b pl_o 0, .bp wk_b wk_o 0, .bp ms_b ms_o 0, .bp be_b be_o 0, .bp wo_b wo_o 0] [.box book_b book_o (cH book), .box bb_b bb_o [gI book_b book_o 0], .box pl_b pl_o [.lit (.int .i64 pl)], .box wk_b wk_o [.lit (.int .i64 wk)], .box ms_b ms_o [.lit (.bool ms)], .box be_b be_o [.lit (.int .i64 be)], .box wo_b wo_o [.lit (.int .i64 wo)]] (fun r' o' => r' = .tup [] ∧ o' = [.box book_b book_o (cH book), .box bb_b bb_o [gI book_b book_o 0], .box pl_b pl_o [.lit (.int .i64 pl)], .box wk_b wk_o [.lit (.int .i64 wk)], .box ms_b ms_o [.lit (.bool r.1)], .box be_b be_o [.lit (.int .i64 r.2.1)], .box wo_b wo_o [.lit (.int .i64 r.2.2)]]) := by
 unfold tQ at h
 refine jF Try.func50 rfl (rs := []) Try.results50 Try.ntmps50 (Nat.le_of_ble_eq_true rfl) ?_
 refine aG ?_
 refine aE ?_
 refine tr1 rfl (sM (i := 1) (aA rfl) rfl rfl rfl vC) ?_
 refine tr1 rfl (aW (aA rfl) rfl (i := 2) rfl rfl bI) ?_
 refine tr1 rfl (aW (aA rfl) rfl (i := 3) rfl rfl bI) ?_
 obtain ⟨r1, h2, h⟩ := bind_some h
 refine tr1 rfl (cF (aA rfl) (.func _ _ Try.call51) rfl rfl (.cons ((mH 0 rfl rfl (dvc (.same _) (dvc (.same _) (dvc (.same _) (dvc (.same _) (dvc (.same _) dvn))))))) (.cons (.same _) (.cons (.same _) .nil))) (xV _ _ _ h2) rfl) ?_
 refine tr1 rfl (aI (v := .d (.lit (.int .i64 r1))) (aA rfl) rfl rfl) ?_
 refine aF ?_
 refine aG ?_
 refine aE ?_
 refine tr1 rfl (aW (aA rfl) rfl (i := 4) rfl rfl iR) ?_
 refine tr1 rfl (aC (v := .d (.lit (.bool ms))) (aA rfl) rfl rfl) ?_
 obtain ⟨b3, h4, h⟩ := bind_some h
 refine bR 3 [3, 4, 5, 6] 15 b3 ?_ ?_
 ·refine bA (ms) (fun c6 => ?_) (fun c6 => ?_)
  ·have h4 := aP c6 h4
   refine aN rfl rfl (aA rfl) rfl (aA rfl) rfl c6 ?_
   refine aN rfl rfl (aA rfl) rfl (aA rfl) rfl c6 ?_
   refine tr1 rfl (bH (v := .d (.lit (.bool true))) (aA rfl) rfl c6 rfl rfl) ?_
   have h4 := Option.some.inj h4
   subst h4
   refine aF (aT rfl ⟨rfl, rfl, rfl, rfl, trivial⟩ rfl)
  ·have h4 := aO c6 h4
   refine aL rfl rfl (aA rfl) rfl c6 (aC (v := .d (.lit (.int .i64 r1))) (aA rfl) rfl rfl) ?_
   refine aL rfl rfl (aA rfl) rfl c6 (bB (aA rfl) rfl rfl rfl) ?_
   refine tr1 rfl (bG (v := .d (.lit (.bool ((decide (r1 = 0)))))) (aA rfl) rfl c6 rfl rfl) ?_
   have h4 := Option.some.inj h4
   subst h4
   refine aF (aT rfl ⟨rfl, rfl, rfl, rfl, trivial⟩ rfl)
 ·refine tr1 rfl (cO (i := 4) rfl rfl rfl rfl rfl Try.sizeOf4 rfl (aA rfl) (Nat.le_of_ble_eq_true rfl) (ds' := [.lit (.bool b3)]) rfl) ?_
  refine aF ?_
  refine mR mix 7 [5] (fun X5 => [(21, .d (.lit (.int .i64 ((max wo r1)))))]) (fun X5 => [.box book_b book_o (cH book), .box bb_b bb_o [gI book_b book_o 0], .box pl_b pl_o [.lit (.int .i64 pl)], .box wk_b wk_o [.lit (.int .i64 wk)], .box ms_b ms_o [.lit (.bool b3)], .box be_b be_o [.lit (.int .i64 ((min be r1)))], .box wo_b wo_o [.lit (.int .i64 wo)]]) ?_ ?_
  ·refine ⟨0, fun X5 => [(16, 0, .d (.lit (.int .i64 be))), (17, 1, .d (.lit (.int .i64 r1))), (18, 2, .d (.lit (.int .i64 ((min be r1))))), (19, 3, .d (.lit (.int .i64 wo))), (20, 4, .d (.lit (.int .i64 r1))), (21, 5, .d (.lit (.int .i64 ((max wo r1)))))], fun X5 => [([], .box book_b book_o (cH book)), ([], .box bb_b bb_o [gI book_b book_o 0]), ([], .box pl_b pl_o [.lit (.int .i64 pl)]), ([], .box wk_b wk_o [.lit (.int .i64 wk)]), ([], .box ms_b ms_o [.lit (.bool b3)]), ([(6, .box be_b be_o [.lit (.int .i64 ((min be r1)))])], .box be_b be_o [.lit (.int .i64 be)]), ([], .box wo_b wo_o [.lit (.int .i64 wo)])], ?_, ?_⟩
   · exact ⟨by kernel_rfl, by kernel_rfl, by kernel_rfl, fun _ => by kernel_rfl, fun _ => by kernel_rfl, fun _ => by kernel_rfl, fun _ => rfl, [([], [6]), ([], [6]), ([0, 1], [6]), ([], []), ([], []), ([3, 4], []), ([2], [])], by kernel_rfl, ⟨fun X5 S hw hi hS => bY (X := X5) rfl (hw X5) rfl (aQ rfl (aW (aA rfl) (aH hS rfl) (i := 5) (og hS rfl rfl) rfl bI)),
      fun X5 S hw hi hS => bY (X := X5) rfl (hw X5) rfl (aQ rfl (aC (v := .d (.lit (.int .i64 r1))) (aA rfl) (aH hS rfl) rfl)),
      fun X5 S hw hi hS => bY (X := X5) rfl (hw X5) rfl (aQ rfl (aBk (aA rfl) (aH hS rfl) (aH hS rfl))),
      fun X5 S hw hi hS => bY (X := X5) rfl (hw X5) rfl (aQ rfl (aW (aA rfl) (aH hS rfl) (i := 6) (og hS rfl rfl) rfl bI)),
      fun X5 S hw hi hS => bY (X := X5) rfl (hw X5) rfl (aQ rfl (aC (v := .d (.lit (.int .i64 r1))) (aA rfl) (aH hS rfl) rfl)),
      fun X5 S hw hi hS => bY (X := X5) rfl (hw X5) rfl (aQ rfl (oZ (aA rfl) (aH hS rfl) (aH hS rfl))),
      fun X5 S hw hi hS => qQ (X := X5) hS rfl rfl rfl (p := 5) rfl rfl (aQ rfl (cO (i := 5) (aH hS rfl) (og hS rfl rfl) (aH hS rfl) rfl rfl Try.sizeOf3 rfl (aA rfl) (Nat.le_of_ble_eq_true rfl) (ds' := [.lit (.int .i64 ((min be r1)))]) rfl)), trivial⟩⟩
   · exact fun X5 => eC (aM rfl (aX ⟨rfl, trivial⟩))
  ·intro X5
   refine tr1 rfl (cO (i := 6) rfl rfl rfl rfl rfl Try.sizeOf3 rfl (aA rfl) (Nat.le_of_ble_eq_true rfl) (ds' := [.lit (.int .i64 ((max wo r1)))]) rfl) ?_
   refine aF ?_
   have h := Option.some.inj h
   subst h
   exact ⟨_, [.box book_b book_o (cH book), .box bb_b bb_o [gI book_b book_o 0], .box pl_b pl_o [.lit (.int .i64 pl)], .box wk_b wk_o [.lit (.int .i64 wk)], .box ms_b ms_o [.lit (.bool b3)], .box be_b be_o [.lit (.int .i64 ((min be r1)))], .box wo_b wo_o [.lit (.int .i64 ((max wo r1)))]], [], _, .none, .refl _, .same _, rfl, rfl⟩

theorem xK (n_1 : Int) {r : (List Int)} (h : rI n_1 = some r) : fR Try.prog 102 [.d (.lit (.slice none 0 0)), .d (.lit (.int .i64 n_1))] [] (fun r' o' => ∃ (w0 : Value), r' = .d (.lit w0) ∧ o' = [.arr w0 3 1 (r.map cE)]) := by
 unfold rI at h
 refine mG Try.func102 rfl (rs := [.tmp 4]) Try.results102 Try.ntmps102 (Nat.le_of_ble_eq_true rfl) ?_
 refine cP (aEc 3 1) ?_
 refine aG ?_
 refine aE ?_
 refine tr1 rfl (iI 3 1 (.inl rfl) (aA rfl)) ?_
 refine aF ?_
 refine aG ?_
 refine aG ?_
 refine aE ?_
 refine tr1 rfl (aC (v := .d (.lit (.int .i64 n_1))) (aA rfl) rfl rfl) ?_
 refine tr1 rfl (bB (aA rfl) rfl rfl rfl) ?_
 refine aF ?_
 refine bN rfl (fun c2 => ?_) (fun c2 => ?_)
 ·have h := aP c2 h
  cases h
 ·have h := aO c2 h
  refine bK ?_
  refine aG ?_
  refine aG ?_
  refine aE ?_
  refine tr1 rfl (aC (v := .d (.lit (.int .i64 n_1))) (aA rfl) rfl rfl) ?_
  refine tr1 rfl (aC (v := .d (.lit (.slice none 0 0))) (aA rfl) rfl rfl) ?_
  refine tr1 rfl (aAw (aA rfl) rfl eP.of) ?_
  refine tr1 rfl (aC (v := .d (.lit (.slice none 0 0))) (aA rfl) rfl rfl) ?_
  refine tr1 rfl (aAx (aA rfl) rfl eP.of) ?_
  refine tr1 rfl (aY (aA rfl) rfl rfl rfl) ?_
  refine tr1 rfl (aY (aA rfl) rfl rfl rfl) ?_
  refine tr1 rfl (aI (v := .d (.lit (.int .i64 ((w64 (n_1 - (w64 (0 - 0)))))))) (aA rfl) rfl rfl) ?_
  refine aF ?_
  refine aG ?_
  refine aE ?_
  refine tr1 rfl (aC (v := .d (.lit (.int .i64 ((w64 (n_1 - (w64 (0 - 0)))))))) (aA rfl) rfl rfl) ?_
  refine tr1 rfl (bB (aA rfl) rfl rfl rfl) ?_
  refine aF ?_
  refine bN rfl (fun c3 => ?_) (fun c3 => ?_)
  ·have h := aP c3 h
   refine aE ?_
   refine tr1 rfl (aC (v := .d (.lit (.slice none 0 0))) (aA rfl) rfl rfl) ?_
   refine tr1 rfl (aC (v := .d (.lit (.slice none 0 0))) (aA rfl) rfl rfl) ?_
   refine tr1 rfl (aAw (aA rfl) rfl eP.of) ?_
   obtain ⟨u4, h5, h⟩ := bind_some h
   refine tr1 rfl (rE (m := 0) (q := 0) (v := (.slice none 0 0)) (aA rfl) rfl rfl rfl rfl (zA h5) eP.of) ?_
   refine tr1 rfl (aC (v := .d (.lit (.int .i64 ((w64 (n_1 - (w64 (0 - 0)))))))) (aA rfl) rfl rfl) ?_
   obtain ⟨u6, h7, h⟩ := bind_some h
   refine cA rfl (aFy (i := 0) (aA rfl) eP rfl rfl rfl Try.underlying3 (aBq h7).1 (aBq h7).2 (by decide)) ?_
   rintro _ ⟨v8, rfl⟩
   refine tr1 rfl (aC (v := .d (.lit (.slice none 0 0))) (aA rfl) rfl rfl) ?_
   refine tr1 rfl (aAx (aA rfl) rfl eP.of) ?_
   obtain ⟨u9, h10, h⟩ := bind_some h
   refine tr1 rfl (rE (m := 0) (q := 0) (v := v8) (aA rfl) rfl rfl rfl rfl (zA h10) eP.of) ?_
   refine tr1 rfl (aI (v := .d (.lit (gD v8 0))) (aA rfl) rfl rfl) ?_
   refine aF ?_
   refine aG ?_
   refine aE ?_
   refine tr1 rfl (aC (v := .d (.lit (gD v8 0))) (aA rfl) rfl rfl) ?_
   refine tr1 rfl (aI (v := .d (.lit (gD v8 0))) (aA rfl) rfl rfl) ?_
   refine aF ?_
   have h := Option.some.inj h
   subst h
   exact bT ⟨rfl, _, [.arr (gD v8 0) 3 1 (([] : List Int).map cE)], [.arr (.slice none 0 0) 3 1 (([] : List Int).map cE)], _, .one (.tmp 4 (v := .d (.lit (gD v8 0))) rfl), .refl _, .same _, (gD v8 0), rfl, rfl⟩
  ·have h := aO c3 h
   refine bK ?_
   refine aG ?_
   refine aE ?_
   refine tr1 rfl (aC (v := .d (.lit (.slice none 0 0))) (aA rfl) rfl rfl) ?_
   refine tr1 rfl (aI (v := .d (.lit (.slice none 0 0))) (aA rfl) rfl rfl) ?_
   refine aF ?_
   have h := Option.some.inj h
   subst h
   exact bT ⟨rfl, _, [.arr (.slice none 0 0) 3 1 (([] : List Int).map cE)], [.arr (.slice none 0 0) 3 1 (([] : List Int).map cE)], _, .one (.tmp 4 (v := .d (.lit (.slice none 0 0))) rfl), .refl _, .same _, (.slice none 0 0), rfl, rfl⟩

theorem wL (slices_0 : List (List Int)) {r : (List Int)} (h : pM slices_0 = some r) : Fn Try.prog 84 [.d (.sl 1 (slices_0.map qP))] (.d (.sl 1 (r.map cE))) := by
 unfold pM at h
 refine Fn.of_tr Try.func84 rfl (rs := [.tmp 2]) Try.results84 Try.ntmps84 (Nat.le_of_ble_eq_true rfl) ?_
 refine aG ?_
 refine aE ?_
 refine tr1 rfl (pA 1 (aA rfl)) ?_
 refine aF ?_
 refine aG ?_
 refine aE ?_
 refine tr1 rfl (aI (v := .d (.lit (.int .i64 0))) (aA rfl) rfl rfl) ?_
 refine aF ?_
 refine aG ?_
 refine aG ?_
 refine aE ?_
 refine tr1 rfl (aC (v := .d (.sl 1 (slices_0.map qP))) (aA rfl) rfl rfl) ?_
 refine tr1 rfl (dR (aA rfl) rfl xJ.of) ?_
 refine tr1 rfl (aC (v := .d (.lit (.int .i64 0))) (aA rfl) rfl rfl) ?_
 refine aF ?_
 refine bZ ?_
 refine cM [0, 9, 10] (fun (s1 : Int × Int) => [(3, .d (.lit (.int .i64 s1.1))), (11, .d (.lit (.int .i64 s1.2)))]) (fun (s1 : Int × Int) => []) (fun (k : Nat) (s1 : Int × Int) => lN slices_0 slices_0 (slices_0.length : Int) k s1.1 s1.2) (fun _ => rfl) (0, 0) h (aV [] rfl rfl (aM rfl (aM rfl (aX ⟨rfl, rfl, rfl, trivial⟩)))) ?_
 rintro k2 ⟨size_0_1, t11_0_1⟩ h
 simp only [lN] at h
 refine aG ?_
 refine aE ?_
 refine tr1 rfl (bB (aA rfl) rfl rfl rfl) ?_
 refine aF ?_
 refine aG ?_
 refine bN rfl (fun c3 => ?_) (fun c3 => ?_)
 ·have h := aP c3 h
  refine bK ?_
  refine aG ?_
  refine bZ ?_
  refine aG ?_
  refine aE ?_
  obtain ⟨x4, h5, h⟩ := bind_some h
  refine tr1 rfl (bJ (aA rfl) rfl rfl xJ.of (bF qP h5)) ?_
  refine tr1 rfl (bP (aA rfl) rfl aFd) ?_
  refine tr1 rfl (aI (v := .d (.sl 1 (x4.map cE))) (aA rfl) rfl rfl) ?_
  refine aF ?_
  refine aG ?_
  refine aE ?_
  refine tr1 rfl (aC (v := .d (.lit (.int .i64 size_0_1))) (aA rfl) rfl rfl) ?_
  refine tr1 rfl (aC (v := .d (.sl 1 (x4.map cE))) (aA rfl) rfl rfl) ?_
  refine tr1 rfl (dR (aA rfl) rfl eP.of) ?_
  refine tr1 rfl (aY (aA rfl) rfl rfl rfl) ?_
  refine tr1 rfl (aI (v := .d (.lit (.int .i64 ((w64 (size_0_1 + (x4.length : Int))))))) (aA rfl) rfl rfl) ?_
  refine aF ?_
  refine aG ?_
  refine aE ?_
  refine tr1 rfl (aC (v := .d (.lit (.int .i64 ((w64 (size_0_1 + (x4.length : Int))))))) (aA rfl) rfl rfl) ?_
  refine tr1 rfl (bB (aA rfl) rfl rfl rfl) ?_
  refine aF ?_
  refine bN rfl (fun c6 => ?_) (fun c6 => ?_)
  ·have h := aP c6 h
   cases h
  ·have h := aO c6 h
   refine dK ?_
   refine aE ?_
   refine tr1 rfl (aY (aA rfl) rfl rfl rfl) ?_
   refine tr1 rfl (aC (v := .d (.lit (.int .i64 ((w64 (t11_0_1 + 1)))))) (aA rfl) rfl rfl) ?_
   refine aF ?_
   exact ⟨(w64 (size_0_1 + (x4.length : Int)), w64 (t11_0_1 + 1)), h, aV [] rfl rfl (aM rfl (aM rfl (aX ⟨rfl, rfl, rfl, trivial⟩)))⟩
 ·have h := aO c3 h
  refine cT ?_
  refine .inl ⟨rfl, ?_⟩
  simp only [rF] at h
  refine aG ?_
  refine aE ?_
  refine tr1 rfl (aC (v := .d (.lit (.int .i64 size_0_1))) (aA rfl) rfl rfl) ?_
  obtain ⟨r7, h8, h⟩ := bind_some h
  refine cA rfl (vX (aA rfl) (.func _ _ Try.call102) rfl rfl (xK _ h8)) ?_
  rintro _ ⟨v9, rfl⟩
  refine tr1 rfl (aI (v := .d (.lit v9)) (aA rfl) rfl rfl) ?_
  refine aF ?_
  refine aG ?_
  refine aG ?_
  refine aE ?_
  refine tr1 rfl (aC (v := .d (.sl 1 (slices_0.map qP))) (aA rfl) rfl rfl) ?_
  refine tr1 rfl (dR (aA rfl) rfl xJ.of) ?_
  refine tr1 rfl (aC (v := .d (.lit (.int .i64 0))) (aA rfl) rfl rfl) ?_
  refine aF ?_
  refine bZ ?_
  refine cM [25, 26] (fun (s10 : Int × (List Int) × Value) => [(6, .d (.lit s10.2.2)), (27, .d (.lit (.int .i64 s10.1)))]) (fun (s10 : Int × (List Int) × Value) => [.arr s10.2.2 3 1 (s10.2.1.map cE)]) (fun (k : Nat) (s10 : Int × (List Int) × Value) => lO slices_0 (slices_0.length : Int) k s10.1 s10.2.1) (fun _ => rfl) (0, r7, v9) h (aV [0] rfl rfl (aM rfl (aM rfl (aX ⟨rfl, rfl, trivial⟩)))) ?_
  rintro k12 ⟨t27_2_10, o24_2_10, w11⟩ h
  simp only [lO] at h
  refine aG ?_
  refine aE ?_
  refine tr1 rfl (bB (aA rfl) rfl rfl rfl) ?_
  refine aF ?_
  refine aG ?_
  refine bN rfl (fun c13 => ?_) (fun c13 => ?_)
  ·have h := aP c13 h
   refine bK ?_
   refine aG ?_
   refine bZ ?_
   refine aG ?_
   refine aE ?_
   obtain ⟨x14, h15, h⟩ := bind_some h
   refine tr1 rfl (bJ (aA rfl) rfl rfl xJ.of (bF qP h15)) ?_
   refine tr1 rfl (bP (aA rfl) rfl aFd) ?_
   refine tr1 rfl (aI (v := .d (.sl 1 (x14.map cE))) (aA rfl) rfl rfl) ?_
   refine aF ?_
   refine aE ?_
   refine tr1 rfl (aC (v := .d (.lit w11)) (aA rfl) rfl rfl) ?_
   refine tr1 rfl (aC (v := .d (.sl 1 (x14.map cE))) (aA rfl) rfl rfl) ?_
   obtain ⟨x16, h17, h⟩ := bind_some h
   refine cA rfl (lP (i := 0) (aA rfl) eP rfl rfl rfl (fun _ => rfl) h17 rfl) ?_
   rintro _ ⟨v18, rfl⟩
   refine tr1 rfl (aI (v := .d (.lit v18)) (aA rfl) rfl rfl) ?_
   refine dE ?_
   refine aE ?_
   refine tr1 rfl (aY (aA rfl) rfl rfl rfl) ?_
   refine tr1 rfl (aC (v := .d (.lit (.int .i64 ((w64 (t27_2_10 + 1)))))) (aA rfl) rfl rfl) ?_
   refine aF ?_
   exact ⟨(w64 (t27_2_10 + 1), x16, v18), h, aV [0] rfl rfl (aM rfl (aM rfl (aX ⟨rfl, rfl, trivial⟩)))⟩
  ·have h := aO c13 h
   refine cT ?_
   refine .inl ⟨rfl, ?_⟩
   simp only [rG] at h
   refine aG ?_
   refine aE ?_
   refine tr1 rfl (aC (v := .d (.lit w11)) (aA rfl) rfl rfl) ?_
   refine tr1 rfl (aI (v := .d (.lit w11)) (aA rfl) rfl rfl) ?_
   refine aF ?_
   have h := Option.some.inj h
   subst h
   refine cP (cD (fV (k := 2) (v := .d (.sl 1 (o24_2_10.map cE))) (.d (iE 0 rfl (dD (f := cE) fun _ => rfl))) (uU))) ?_
   exact bT ⟨rfl, _, .one _, rfl, rfl⟩

theorem vU (kr : Nat) : ∀ (book : cB) (pl : Int) (wk : Int) (ms : Bool) (be : Int) (wo : Int) (week_1 : Int) (prizes_2 : List Int) (free_3 : List Int) {r : cB × Bool × Int × Int} {book_b book_o : Nat} {bb_b bb_o : Nat} {pl_b pl_o : Nat} {wk_b wk_o : Nat} {ms_b ms_o : Nat} {be_b be_o : Nat} {wo_b wo_o : Nat} (_h : kG kr book pl wk ms be wo week_1 prizes_2 free_3 = some r), fR Try.prog 49 [.bp book_b book_o 0, .d (.lit (.int .i64 week_1)), .d (.sl 1 (prizes_2.map cE)), .d (.sl 1 (free_3.map cE)), .fn 50 [.bp bb_b bb_o 0, .bp pl_b pl_o 0, .bp wk_b wk_o 0, .bp ms_b ms_o 0, .bp be_b be_o 0, .bp wo_b wo_o 0]] [.box book_b book_o (cH book), .box bb_b bb_o [gI book_b book_o 0], .box pl_b pl_o [.lit (.int .i64 pl)], .box wk_b wk_o [.lit (.int .i64 wk)], .box ms_b ms_o [.lit (.bool ms)], .box be_b be_o [.lit (.int .i64 be)], .box wo_b wo_o [.lit (.int .i64 wo)]] (fun r' o' => r' = .tup [] ∧ o' = [.box book_b book_o (cH r.1), .box bb_b bb_o [gI book_b book_o 0], .box pl_b pl_o [.lit (.int .i64 pl)], .box wk_b wk_o [.lit (.int .i64 wk)], .box ms_b ms_o [.lit (.bool r.2.1)], .box be_b be_o [.lit (.int .i64 r.2.2.1)], .box wo_b wo_o [.lit (.int .i64 r.2.2.2)]]) := by
  induction kr with
  | zero => intros; rename_i h; cases h
  | succ kr ih =>
    intro book pl wk ms be wo week_1 prizes_2 free_3 r book_b book_o bb_b bb_o pl_b pl_o wk_b wk_o ms_b ms_o be_b be_o wo_b wo_o h
    simp only [kG] at h
    refine jF Try.func49 rfl (rs := []) Try.results49 Try.ntmps49 (Nat.le_of_ble_eq_true rfl) ?_
    refine aG ?_
    refine aG ?_
    refine aE ?_
    refine tr1 rfl (aC (v := .d (.sl 1 (prizes_2.map cE))) (aA rfl) rfl rfl) ?_
    refine tr1 rfl (dR (aA rfl) rfl eP.of) ?_
    refine tr1 rfl (bB (aA rfl) rfl rfl rfl) ?_
    refine tr1 rfl (aC (v := .d (.lit (.bool ((decide ((prizes_2.length : Int) = 0)))))) (aA rfl) rfl rfl) ?_
    obtain ⟨b1, h2, h⟩ := bind_some h
    refine bR 4 [0, 1, 2, 3, 4] 20 b1 ?_ ?_
    ·refine bA (decide ((prizes_2.length : Int) = 0)) (fun c30 => ?_) (fun c30 => ?_)
     ·have h2 := aP c30 h2
      refine aN rfl rfl (aA rfl) rfl (aA rfl) rfl c30 ?_
      refine aN rfl rfl (aA rfl) rfl (aA rfl) rfl c30 ?_
      refine aN rfl rfl (aA rfl) rfl (aA rfl) rfl c30 ?_
      refine tr1 rfl (bH (v := .d (.lit (.bool true))) (aA rfl) rfl c30 rfl rfl) ?_
      have h2 := Option.some.inj h2
      subst h2
      refine aF (aT rfl ⟨rfl, rfl, rfl, rfl, rfl, trivial⟩ rfl)
     ·have h2 := aO c30 h2
      refine aL rfl rfl (aA rfl) rfl c30 (aC (v := .d (.sl 1 (free_3.map cE))) (aA rfl) rfl rfl) ?_
      refine aL rfl rfl (aA rfl) rfl c30 (dR (aA rfl) rfl eP.of) ?_
      refine aL rfl rfl (aA rfl) rfl c30 (bB (aA rfl) rfl rfl rfl) ?_
      refine tr1 rfl (bG (v := .d (.lit (.bool ((decide ((free_3.length : Int) = 0)))))) (aA rfl) rfl c30 rfl rfl) ?_
      have h2 := Option.some.inj h2
      subst h2
      refine aF (aT rfl ⟨rfl, rfl, rfl, rfl, rfl, trivial⟩ rfl)
    ·refine aF ?_
     refine bN rfl (fun c3 => ?_) (fun c3 => ?_)
     ·have h := aP c3 h
      refine aG ?_
      refine aE ?_
      refine tr1 rfl (aC (v := .fn 50 [.bp bb_b bb_o 0, .bp pl_b pl_o 0, .bp wk_b wk_o 0, .bp ms_b ms_o 0, .bp be_b be_o 0, .bp wo_b wo_o 0]) (aA rfl) rfl rfl) ?_
      obtain ⟨r4, h5, h⟩ := bind_some h
      refine cA rfl (dQ (passed := [.box book_b book_o (cH book), .box bb_b bb_o [gI book_b book_o 0], .box pl_b pl_o [.lit (.int .i64 pl)], .box wk_b wk_o [.lit (.int .i64 wk)], .box ms_b ms_o [.lit (.bool ms)], .box be_b be_o [.lit (.int .i64 be)], .box wo_b wo_o [.lit (.int .i64 wo)]]) (aA rfl) rfl (.clo _ _ _ _ Try.call50 rfl) (tJ rfl) rfl (aAd book pl wk ms be wo h5)) ?_
      rintro _ ⟨_, _, ⟨rfl, rfl⟩, rfl⟩
      refine aF ?_
      have h := Option.some.inj h
      subst h
      exact bT ⟨rfl, _, [.box book_b book_o (cH book), .box bb_b bb_o [gI book_b book_o 0], .box pl_b pl_o [.lit (.int .i64 pl)], .box wk_b wk_o [.lit (.int .i64 wk)], .box ms_b ms_o [.lit (.bool r4.1)], .box be_b be_o [.lit (.int .i64 r4.2.1)], .box wo_b wo_o [.lit (.int .i64 r4.2.2)]], [], _, .none, .refl _, .same _, rfl, rfl⟩
     ·have h := aO c3 h
      refine bK ?_
      refine aG ?_
      refine aE ?_
      refine tr1 rfl (aC (v := .bp book_b book_o 0) (aA rfl) rfl rfl) ?_
      refine tr1 rfl (kR (aA rfl) rfl) ?_
      refine tr1 rfl (aU (aA rfl) rfl iV) ?_
      refine tr1 rfl (aU (aA rfl) rfl fU) ?_
      refine tr1 rfl (aW (aA rfl) rfl (i := 0) rfl rfl kF) ?_
      refine tr1 rfl (dR (aA rfl) rfl bQ.of) ?_
      refine tr1 rfl (aI (v := .d (.lit (.int .i64 ((book.Ledger.Reports.length : Int))))) (aA rfl) rfl rfl) ?_
      refine aF ?_
      refine aG ?_
      refine aG ?_
      refine aE ?_
      refine tr1 rfl (aC (v := .d (.sl 1 (free_3.map cE))) (aA rfl) rfl rfl) ?_
      refine tr1 rfl (dR (aA rfl) rfl eP.of) ?_
      refine tr1 rfl (aC (v := .d (.lit (.int .i64 0))) (aA rfl) rfl rfl) ?_
      refine aF ?_
      refine bZ ?_
      refine cM [0, 1, 2, 3, 4, 10, 29, 30] (fun (s6 : Int × cB × Bool × Int × Int) => [(31, .d (.lit (.int .i64 s6.1)))]) (fun (s6 : Int × cB × Bool × Int × Int) => [.box book_b book_o (cH s6.2.1), .box bb_b bb_o [gI book_b book_o 0], .box pl_b pl_o [.lit (.int .i64 pl)], .box wk_b wk_o [.lit (.int .i64 wk)], .box ms_b ms_o [.lit (.bool s6.2.2.1)], .box be_b be_o [.lit (.int .i64 s6.2.2.2.1)], .box wo_b wo_o [.lit (.int .i64 s6.2.2.2.2)]]) (fun (k : Nat) (s6 : Int × cB × Bool × Int × Int) => lL (kG kr) week_1 prizes_2 free_3 (book.Ledger.Reports.length : Int) free_3 (free_3.length : Int) pl wk k s6.1 s6.2.1 s6.2.2.1 s6.2.2.2.1 s6.2.2.2.2) (fun _ => rfl) (0, book, ms, be, wo) h (aV [0, 1, 2, 3, 4, 5, 6] rfl rfl (aM rfl (aX ⟨rfl, rfl, rfl, rfl, rfl, rfl, rfl, rfl, trivial⟩))) ?_
      rintro k7 ⟨t31_0_6, b_0_6, b_0_6_4, b_0_6_5, b_0_6_6⟩ h
      simp only [lL] at h
      refine aG ?_
      refine aE ?_
      refine tr1 rfl (bB (aA rfl) rfl rfl rfl) ?_
      refine aF ?_
      refine aG ?_
      refine bN rfl (fun c8 => ?_) (fun c8 => ?_)
      ·have h := aP c8 h
       refine bK ?_
       refine aG ?_
       refine bZ ?_
       refine aG ?_
       refine aE ?_
       refine tr1 rfl (aC (v := .d (.lit (.int .i64 t31_0_6))) (aA rfl) rfl rfl) ?_
       obtain ⟨x9, h10, h⟩ := bind_some h
       refine tr1 rfl (bJ (aA rfl) rfl rfl eP.of (bF cE h10)) ?_
       refine tr1 rfl (bP (aA rfl) rfl bI) ?_
       refine tr1 rfl (aI (v := .d (.lit (.int .i64 t31_0_6))) (aA rfl) rfl rfl) ?_
       refine tr1 rfl (aI (v := .d (.lit (.int .i64 x9))) (aA rfl) rfl rfl) ?_
       refine aF ?_
       refine aG ?_
       obtain ⟨x12, h13, h⟩ := bind_some h
       obtain ⟨x14, h15, h⟩ := bind_some h
       obtain ⟨x16, h17, h⟩ := bind_some h
       refine mR mix 19 [0, 1, 2, 3, 4, 10, 11, 29, 30, 31] (fun X11 => [(36, .bp book_b book_o 0), (54, .d (.sl 5 (x16.map aB)))]) (fun X11 => [.box book_b book_o (cH b_0_6), .box bb_b bb_o [gI book_b book_o 0], .box pl_b pl_o [.lit (.int .i64 pl)], .box wk_b wk_o [.lit (.int .i64 wk)], .box ms_b ms_o [.lit (.bool b_0_6_4)], .box be_b be_o [.lit (.int .i64 b_0_6_5)], .box wo_b wo_o [.lit (.int .i64 b_0_6_6)]]) ?_ ?_
       ·refine ⟨0, fun X11 => [(36, 0, .bp book_b book_o 0), (37, 1, .bp book_b book_o 0), (38, 2, .bp book_b book_o 0), (39, 3, .bp book_b book_o 0), (40, 4, .bp book_b book_o 2), (41, 5, .d (.sl 5 (b_0_6.Ledger.Reports.map aB))), (42, 6, .d (.lit (.int .i64 ((book.Ledger.Reports.length : Int))))), (43, 7, .d (.lit (.int .i64 ((book.Ledger.Reports.length : Int))))), (44, 8, .fl false 5 (x12.map aB)), (45, 9, .d (.lit (.int .i64 ((book.Ledger.Reports.length : Int))))), (46, 10, .d (.lit (.int .i64 ((w64 (100 + (book.Ledger.Reports.length : Int))))))), (47, 11, .d (.lit (.int .i64 x9))), (48, 12, .d (.lit (.int .i64 week_1))), (49, 13, .d (.sl 1 (prizes_2.map cE))), (50, 14, .cp [.lit (.int .i64 x14)]), (51, 15, .d (.lit (.int .i64 x14))), (52, 16, .agg (aB (aD.mk (w64 (100 + (book.Ledger.Reports.length : Int))) x9 week_1 x14 false))), (53, 17, .d (.sl 5 ((([(aD.mk (w64 (100 + (book.Ledger.Reports.length : Int))) x9 week_1 x14 false)])).map aB))), (54, 18, .d (.sl 5 (x16.map aB)))], fun X11 => [([], .box book_b book_o (cH b_0_6)), ([], .box bb_b bb_o [gI book_b book_o 0]), ([], .box pl_b pl_o [.lit (.int .i64 pl)]), ([], .box wk_b wk_o [.lit (.int .i64 wk)]), ([], .box ms_b ms_o [.lit (.bool b_0_6_4)]), ([], .box be_b be_o [.lit (.int .i64 b_0_6_5)]), ([], .box wo_b wo_o [.lit (.int .i64 b_0_6_6)])], ?_, ?_⟩
        · exact ⟨by kernel_rfl, by kernel_rfl, by kernel_rfl, fun _ => by kernel_rfl, fun _ => by kernel_rfl, fun _ => by kernel_rfl, fun _ => rfl, [([], []), ([], [18]), ([1], [18]), ([2], [18]), ([3], [18]), ([4], [18]), ([], [18]), ([], [18]), ([5, 6, 7], [18]), ([], [18]), ([9], [18]), ([], [18]), ([], [18]), ([], [18]), ([13], [18]), ([14], [18]), ([10, 11, 12, 15], [18]), ([16], [18]), ([8, 17], [])], by kernel_rfl, ⟨fun X11 S hw hi hS => bY (X := X11) rfl (hw X11) rfl (aQ rfl (aC (v := .bp book_b book_o 0) (aA rfl) (aH hS rfl) rfl)),
      fun X11 S hw hi hS => bY (X := X11) rfl (hw X11) rfl (aQ rfl (aC (v := .bp book_b book_o 0) (aA rfl) (aH hS rfl) rfl)),
      fun X11 S hw hi hS => bY (X := X11) rfl (hw X11) rfl (aQ rfl (kR (aA rfl) (aH hS rfl))),
      fun X11 S hw hi hS => bY (X := X11) rfl (hw X11) rfl (aQ rfl (aU (aA rfl) (aH hS rfl) iV)),
      fun X11 S hw hi hS => bY (X := X11) rfl (hw X11) rfl (aQ rfl (aU (aA rfl) (aH hS rfl) fU)),
      fun X11 S hw hi hS => bY (X := X11) rfl (hw X11) rfl (aQ rfl (aW (aA rfl) (aH hS rfl) (i := 0) (og hS rfl rfl) rfl kF)),
      fun X11 S hw hi hS => bY (X := X11) rfl (hw X11) rfl (aQ rfl (aC (v := .d (.lit (.int .i64 ((book.Ledger.Reports.length : Int))))) (aA rfl) (aH hS rfl) rfl)),
      fun X11 S hw hi hS => bY (X := X11) rfl (hw X11) rfl (aQ rfl (aC (v := .d (.lit (.int .i64 ((book.Ledger.Reports.length : Int))))) (aA rfl) (aH hS rfl) rfl)),
      fun X11 S hw hi hS => bY (X := X11) rfl (hw X11) rfl (aQ rfl (aDf (aA rfl) bQ.of (aH hS rfl) (aH hS rfl) (aH hS rfl) (pC aB h13))),
      fun X11 S hw hi hS => bY (X := X11) rfl (hw X11) rfl (aQ rfl (aC (v := .d (.lit (.int .i64 ((book.Ledger.Reports.length : Int))))) (aA rfl) (aH hS rfl) rfl)),
      fun X11 S hw hi hS => bY (X := X11) rfl (hw X11) rfl (aQ rfl (aY (aA rfl) rfl (aH hS rfl) rfl)),
      fun X11 S hw hi hS => bY (X := X11) rfl (hw X11) rfl (aQ rfl (aC (v := .d (.lit (.int .i64 x9))) (aA rfl) (aH hS rfl) rfl)),
      fun X11 S hw hi hS => bY (X := X11) rfl (hw X11) rfl (aQ rfl (aC (v := .d (.lit (.int .i64 week_1))) (aA rfl) (aH hS rfl) rfl)),
      fun X11 S hw hi hS => bY (X := X11) rfl (hw X11) rfl (aQ rfl (aC (v := .d (.sl 1 (prizes_2.map cE))) (aA rfl) (aH hS rfl) rfl)),
      fun X11 S hw hi hS => bY (X := X11) rfl (hw X11) rfl (aQ rfl (bJ (aA rfl) (aH hS rfl) rfl eP.of (bF cE h15))),
      fun X11 S hw hi hS => bY (X := X11) rfl (hw X11) rfl (aQ rfl (bP (aA rfl) (aH hS rfl) bI)),
      fun X11 S hw hi hS => bY (X := X11) rfl (hw X11) rfl (aQ rfl (mE (aA rfl) tZ (zs := [.lit (.int .i64 0), .lit (.int .i64 0), .lit (.int .i64 0), .lit (.int .i64 0), .lit (.bool false)]) rfl rfl rfl (pa2 (aH hS rfl) (pa2 (aH hS rfl) (pa2 (aH hS rfl) (pa2 (aH hS rfl) pan)))) (es := [.lit (.int .i64 ((w64 (100 + (book.Ledger.Reports.length : Int))))), .lit (.int .i64 x9), .lit (.int .i64 week_1), .lit (.int .i64 x14), .lit (.bool false)]) rfl)),
      fun X11 S hw hi hS => bY (X := X11) rfl (hw X11) rfl (aQ rfl (jL (aA rfl) bQ rfl (pa2 (aH hS rfl) pan) (rows := ([(aD.mk (w64 (100 + (book.Ledger.Reports.length : Int))) x9 week_1 x14 false)]).map aB) rfl (dD (f := aB) fun _ => rfl) rfl (by decide))),
      fun X11 S hw hi hS => bY (X := X11) rfl (hw X11) rfl (aQ rfl (aAv (nn := false) (f := aB) (xs := x12) (ys := [(aD.mk (w64 (100 + (book.Ledger.Reports.length : Int))) x9 week_1 x14 false)]) (aA rfl) bQ (aH hS rfl) (aH hS rfl) (fun _ => rfl) h17 rfl)), trivial⟩⟩
        · exact fun X11 => eC (aM rfl (aM rfl (aX ⟨rfl, rfl, rfl, rfl, rfl, rfl, rfl, rfl, rfl, rfl, trivial⟩)))
       ·intro X11
        refine tr1 rfl (kR (aA rfl) rfl) ?_
        refine tr1 rfl (aU (aA rfl) rfl iV) ?_
        refine tr1 rfl (aU (aA rfl) rfl fU) ?_
        refine tr1 rfl (cO (i := 0) rfl rfl rfl rfl rfl Try.sizeOf22 rfl (aA rfl) (Nat.le_of_ble_eq_true rfl) (ds' := (cH (cB.mk (aR.mk b_0_6.Ledger.Players b_0_6.Ledger.Counts x16 b_0_6.Ledger.Bans b_0_6.Ledger.Frozen)))) rfl) ?_
        refine aF ?_
        obtain ⟨x18, h19, h⟩ := bind_some h
        obtain ⟨x20, h21, h⟩ := bind_some h
        obtain ⟨x22, h23, h⟩ := bind_some h
        obtain ⟨r24, h25, h⟩ := bind_some h
        refine gA mix 14 [0, 1, 2, 3, 4, 10, 29, 30, 31] [(58, .bp book_b book_o 0), (59, .d (.lit (.int .i64 week_1))), (61, .d (.sl 1 (x18.map cE))), (70, .d (.sl 1 (r24.map cE))), (71, .fn 50 [.bp bb_b bb_o 0, .bp pl_b pl_o 0, .bp wk_b wk_o 0, .bp ms_b ms_o 0, .bp be_b be_o 0, .bp wo_b wo_o 0])] ?_ ?_
        ·refine ⟨[(58, 0, .bp book_b book_o 0), (59, 1, .d (.lit (.int .i64 week_1))), (60, 2, .d (.sl 1 (prizes_2.map cE))), (61, 3, .d (.sl 1 (x18.map cE))), (62, 4, .d (.sl 1 (free_3.map cE))), (63, 5, .d (.lit (.int .i64 t31_0_6))), (64, 6, .d (.sl 1 (x20.map cE))), (65, 7, .d (.sl 1 (free_3.map cE))), (66, 8, .d (.lit (.int .i64 t31_0_6))), (67, 9, .d (.lit (.int .i64 ((w64 (t31_0_6 + 1)))))), (68, 10, .d (.sl 1 (x22.map cE))), (69, 11, .d (.sl 1 ((([x20, x22])).map qP))), (70, 12, .d (.sl 1 (r24.map cE))), (71, 13, .fn 50 [.bp bb_b bb_o 0, .bp pl_b pl_o 0, .bp wk_b wk_o 0, .bp ms_b ms_o 0, .bp be_b be_o 0, .bp wo_b wo_o 0])], ?_, ?_⟩
         · exact ⟨by kernel_rfl, by kernel_rfl, by kernel_rfl, by kernel_rfl, by kernel_rfl, [([], []), ([], []), ([], []), ([2], []), ([], []), ([], []), ([4, 5], []), ([], []), ([], []), ([8], []), ([7, 9], []), ([6, 10], []), ([11], []), ([], [])], by kernel_rfl, ⟨fun S hS => aJ rfl (aQ rfl (aC (v := .bp book_b book_o 0) (aA rfl) (aH hS rfl) rfl)),
      fun S hS => aJ rfl (aQ rfl (aC (v := .d (.lit (.int .i64 week_1))) (aA rfl) (aH hS rfl) rfl)),
      fun S hS => aJ rfl (aQ rfl (aC (v := .d (.sl 1 (prizes_2.map cE))) (aA rfl) (aH hS rfl) rfl)),
      fun S hS => aJ rfl (aQ rfl (mO (aA rfl) eP.of (aH hS rfl) rfl aFn (pC cE h19))),
      fun S hS => aJ rfl (aQ rfl (aC (v := .d (.sl 1 (free_3.map cE))) (aA rfl) (aH hS rfl) rfl)),
      fun S hS => aJ rfl (aQ rfl (aC (v := .d (.lit (.int .i64 t31_0_6))) (aA rfl) (aH hS rfl) rfl)),
      fun S hS => aJ rfl (aQ rfl (mO (aA rfl) eP.of (aH hS rfl) rfl (bo (aH hS rfl)) (pC cE h21))),
      fun S hS => aJ rfl (aQ rfl (aC (v := .d (.sl 1 (free_3.map cE))) (aA rfl) (aH hS rfl) rfl)),
      fun S hS => aJ rfl (aQ rfl (aC (v := .d (.lit (.int .i64 t31_0_6))) (aA rfl) (aH hS rfl) rfl)),
      fun S hS => aJ rfl (aQ rfl (aY (aA rfl) (aH hS rfl) rfl rfl)),
      fun S hS => aJ rfl (aQ rfl (mO (aA rfl) eP.of (aH hS rfl) (bo (aH hS rfl)) aFn (pC cE h23))),
      fun S hS => aJ rfl (aQ rfl (jL (aA rfl) xJ rfl (pa2 (aH hS rfl) (pa2 (aH hS rfl) pan)) (rows := ([x20, x22]).map qP) rfl (dD (f := qP) fun _ => rfl) rfl (by decide))),
      fun S hS => aJ rfl (aQ rfl (lD (aA rfl) (.func _ _ Try.call84) (ev2 (aH hS rfl) evn) rfl (wL _ h25))),
      fun S hS => aJ rfl (aQ rfl (aC (v := .fn 50 [.bp bb_b bb_o 0, .bp pl_b pl_o 0, .bp wk_b wk_o 0, .bp ms_b ms_o 0, .bp be_b be_o 0, .bp wo_b wo_o 0]) (aA rfl) (aH hS rfl) rfl)), trivial⟩⟩
         · exact eC (aM rfl (aM rfl (aM rfl (aM rfl (aM rfl (aX ⟨rfl, rfl, rfl, rfl, rfl, rfl, rfl, rfl, rfl, trivial⟩))))))
        ·obtain ⟨r26, h27, h⟩ := bind_some h
         refine cA rfl (dQ (passed := [.box book_b book_o (cH (cB.mk (aR.mk b_0_6.Ledger.Players b_0_6.Ledger.Counts x16 b_0_6.Ledger.Bans b_0_6.Ledger.Frozen))), .box bb_b bb_o [gI book_b book_o 0], .box pl_b pl_o [.lit (.int .i64 pl)], .box wk_b wk_o [.lit (.int .i64 wk)], .box ms_b ms_o [.lit (.bool b_0_6_4)], .box be_b be_o [.lit (.int .i64 b_0_6_5)], .box wo_b wo_o [.lit (.int .i64 b_0_6_6)]]) (aA rfl) rfl (.func _ _ Try.call49) rfl rfl (ih (cB.mk (aR.mk b_0_6.Ledger.Players b_0_6.Ledger.Counts x16 b_0_6.Ledger.Bans b_0_6.Ledger.Frozen)) pl wk b_0_6_4 b_0_6_5 b_0_6_6 week_1 x18 r24 h27)) ?_
         rintro _ ⟨_, _, ⟨rfl, rfl⟩, rfl⟩
         refine dE ?_
         refine aE ?_
         refine tr1 rfl (aY (aA rfl) rfl rfl rfl) ?_
         refine tr1 rfl (aC (v := .d (.lit (.int .i64 ((w64 (t31_0_6 + 1)))))) (aA rfl) rfl rfl) ?_
         refine aF ?_
         exact ⟨(w64 (t31_0_6 + 1), r26.1, r26.2.1, r26.2.2.1, r26.2.2.2), h, aV [0, 1, 2, 3, 4, 5, 6] rfl rfl (aM rfl (aX ⟨rfl, rfl, rfl, rfl, rfl, rfl, rfl, rfl, trivial⟩))⟩
      ·have h := aO c8 h
       refine cT ?_
       refine .inl ⟨rfl, ?_⟩
       simp only [rB] at h
       refine aE ?_
       refine tr1 rfl (aC (v := .bp book_b book_o 0) (aA rfl) rfl rfl) ?_
       refine tr1 rfl (aC (v := .bp book_b book_o 0) (aA rfl) rfl rfl) ?_
       refine tr1 rfl (kR (aA rfl) rfl) ?_
       refine tr1 rfl (aU (aA rfl) rfl iV) ?_
       refine tr1 rfl (aU (aA rfl) rfl fU) ?_
       refine tr1 rfl (aW (aA rfl) rfl (i := 0) rfl rfl kF) ?_
       refine tr1 rfl (aC (v := .d (.lit (.int .i64 ((book.Ledger.Reports.length : Int))))) (aA rfl) rfl rfl) ?_
       obtain ⟨x28, h29, h⟩ := bind_some h
       refine tr1 rfl (mO (aA rfl) bQ.of rfl rfl rfl (pC aB h29)) ?_
       refine tr1 rfl (kR (aA rfl) rfl) ?_
       refine tr1 rfl (aU (aA rfl) rfl iV) ?_
       refine tr1 rfl (aU (aA rfl) rfl fU) ?_
       refine tr1 rfl (cO (i := 0) rfl rfl rfl rfl rfl Try.sizeOf22 rfl (aA rfl) (Nat.le_of_ble_eq_true rfl) (ds' := (cH (cB.mk (aR.mk b_0_6.Ledger.Players b_0_6.Ledger.Counts x28 b_0_6.Ledger.Bans b_0_6.Ledger.Frozen)))) rfl) ?_
       refine aF ?_
       have h := Option.some.inj h
       subst h
       exact ⟨_, [.box book_b book_o (cH (cB.mk (aR.mk b_0_6.Ledger.Players b_0_6.Ledger.Counts x28 b_0_6.Ledger.Bans b_0_6.Ledger.Frozen))), .box bb_b bb_o [gI book_b book_o 0], .box pl_b pl_o [.lit (.int .i64 pl)], .box wk_b wk_o [.lit (.int .i64 wk)], .box ms_b ms_o [.lit (.bool b_0_6_4)], .box be_b be_o [.lit (.int .i64 b_0_6_5)], .box wo_b wo_o [.lit (.int .i64 b_0_6_6)]], [], _, .none, .refl _, .same _, rfl, rfl⟩
theorem wI (book : cB) (pl : Int) (wk : Int) (ms : Bool) (be : Int) (wo : Int) (week_1 : Int) (prizes_2 : List Int) (free_3 : List Int) {r : cB × Bool × Int × Int} {book_b book_o : Nat} {bb_b bb_o : Nat} {pl_b pl_o : Nat} {wk_b wk_o : Nat} {ms_b ms_o : Nat} {be_b be_o : Nat} {wo_b wo_o : Nat} (h : sV book pl wk ms be wo week_1 prizes_2 free_3 = some r) : fR Try.prog 49 [.bp book_b book_o 0, .d (.lit (.int .i64 week_1)), .d (.sl 1 (prizes_2.map cE)), .d (.sl 1 (free_3.map cE)), .fn 50 [.bp bb_b bb_o 0, .bp pl_b pl_o 0, .bp wk_b wk_o 0, .bp ms_b ms_o 0, .bp be_b be_o 0, .bp wo_b wo_o 0]] [.box book_b book_o (cH book), .box bb_b bb_o [gI book_b book_o 0], .box pl_b pl_o [.lit (.int .i64 pl)], .box wk_b wk_o [.lit (.int .i64 wk)], .box ms_b ms_o [.lit (.bool ms)], .box be_b be_o [.lit (.int .i64 be)], .box wo_b wo_o [.lit (.int .i64 wo)]] (fun r' o' => r' = .tup [] ∧ o' = [.box book_b book_o (cH r.1), .box bb_b bb_o [gI book_b book_o 0], .box pl_b pl_o [.lit (.int .i64 pl)], .box wk_b wk_o [.lit (.int .i64 wk)], .box ms_b ms_o [.lit (.bool r.2.1)], .box be_b be_o [.lit (.int .i64 r.2.2.1)], .box wo_b wo_o [.lit (.int .i64 r.2.2.2)]]) := vU BIG _ _ _ _ _ _ _ _ _ h

theorem aCi (l_0 : aR) (player_1 : Int) (week_2 : Int) (prizes_3 : List Int) {r : Int × Int × Int} (h : vT l_0 player_1 week_2 prizes_3 = some r) : Fn Try.prog 17 [.agg (aZ l_0), .d (.lit (.int .i64 player_1)), .d (.lit (.int .i64 week_2)), .d (.sl 1 (prizes_3.map cE))] (.tup [.d (.lit (.int .i64 r.1)), .d (.lit (.int .i64 r.2.1)), .d (.lit (.int .i64 r.2.2))]) := by
 unfold vT at h
 refine wC Try.func17 rfl (rs := [.cell 8 3, .cell 9 3, .tmp 10]) Try.results17 Try.ntmps17 (Nat.le_of_ble_eq_true rfl) ?_
 refine aG ?_
 refine aE ?_
 refine cA rfl (fM (v := .agg (aZ l_0)) (aA rfl) rfl rfl rfl) ?_
 rintro _ ⟨b1, rfl⟩
 refine cA rfl (fM (v := .d (.lit (.int .i64 player_1))) (aA rfl) rfl rfl rfl) ?_
 rintro _ ⟨b2, rfl⟩
 refine cA rfl (fM (v := .d (.lit (.int .i64 week_2))) (aA rfl) rfl rfl rfl) ?_
 rintro _ ⟨b3, rfl⟩
 refine cA rfl (gR (zs := [.lit (.int .i64 0)]) (aA rfl) Try.zeroValue3 rfl rfl) ?_
 rintro _ ⟨b4, rfl⟩
 refine cA rfl (gR (zs := [.lit (.int .i64 0)]) (aA rfl) Try.zeroValue3 rfl rfl) ?_
 rintro _ ⟨b5, rfl⟩
 refine tr1 rfl (aI (v := .d (.lit (.int .i64 0))) (aA rfl) rfl rfl) ?_
 refine aF ?_
 refine aG ?_
 refine aE ?_
 refine tr1 rfl (dF (aA rfl) rfl (i := 0) rfl hB (es := (aZ l_0)) rfl rfl) ?_
 refine tr1 rfl (aW (aA rfl) rfl (i := 1) rfl rfl bI) ?_
 refine tr1 rfl (aW (aA rfl) rfl (i := 2) rfl rfl bI) ?_
 obtain ⟨r6, h7, h⟩ := bind_some h
 refine cA rfl (dQ (passed := []) (aA rfl) rfl (.func _ _ Try.call44) rfl rfl (rA _ _ _ h7)) ?_
 rintro _ ⟨_, _, ⟨b9, w10, rfl, rfl⟩, rfl⟩
 obtain ⟨_ | y8, e11⟩ := r6
 ·have h := vD h
  refine fJ (aV [0, 1, 2, 3, 4] rfl rfl (le_refl _)) ?_
  refine tr1 rfl (aC (v := .tup [.d (.lit (.pointer none)), .d (.lit (.int .i64 e11))]) (aA rfl) rfl rfl) ?_
  refine tr1 rfl (cW (aA rfl) rfl rfl) ?_
  refine tr1 rfl (cW (aA rfl) rfl rfl) ?_
  refine cA rfl (gR (zs := [.lit (.pointer none)]) (aA rfl) Try.zeroValue70 rfl rfl) ?_
  rintro _ ⟨b12, rfl⟩
  refine tr1 rfl (cO (i := 5) rfl rfl rfl rfl rfl Try.sizeOf70 rfl (aA rfl) (Nat.le_of_ble_eq_true rfl) (ds' := [.lit (.pointer none)]) rfl) ?_
  refine tr1 rfl (aI (v := .d (.lit (.int .i64 e11))) (aA rfl) rfl rfl) ?_
  refine aF ?_
  refine aG ?_
  refine aG ?_
  refine aE ?_
  refine tr1 rfl (aC (v := .d (.lit (.int .i64 e11))) (aA rfl) rfl rfl) ?_
  refine tr1 rfl (bB (aA rfl) rfl rfl rfl) ?_
  refine aF ?_
  refine bN rfl (fun c13 => ?_) (fun c13 => ?_)
  ·have h := aP c13 h
   refine aG ?_
   refine aE ?_
   refine tr1 rfl (aC (v := .d (.lit (.int .i64 e11))) (aA rfl) rfl rfl) ?_
   refine tr1 rfl (cO (i := 3) rfl rfl rfl rfl rfl Try.sizeOf3 rfl (aA rfl) (Nat.le_of_ble_eq_true rfl) (ds' := [.lit (.int .i64 0)]) rfl) ?_
   refine tr1 rfl (cO (i := 4) rfl rfl rfl rfl rfl Try.sizeOf3 rfl (aA rfl) (Nat.le_of_ble_eq_true rfl) (ds' := [.lit (.int .i64 0)]) rfl) ?_
   refine tr1 rfl (aI (v := .d (.lit (.int .i64 e11))) (aA rfl) rfl rfl) ?_
   refine aF ?_
   have h := Option.some.inj h
   subst h
   exact bT ⟨rfl, _, [.box b1 0 (aZ l_0), .box b2 0 [.lit (.int .i64 player_1)], .box b3 0 [.lit (.int .i64 week_2)], .box b4 0 [.lit (.int .i64 0)], .box b5 0 [.lit (.int .i64 0)], .box b12 0 [.lit (.pointer none)]], .three (.cell1 8 3 rfl (i := 3) rfl bI rfl) (.cell1 9 3 rfl (i := 4) rfl bI rfl) (.tmp 10 (v := .d (.lit (.int .i64 e11))) rfl), .refl _, .same _⟩
  ·have h := aO c13 h
   refine bK ?_
   refine aG ?_
   refine aG ?_
   refine aE ?_
   refine tr1 rfl (aC (v := .d (.sl 1 (prizes_3.map cE))) (aA rfl) rfl rfl) ?_
   refine tr1 rfl (dR (aA rfl) rfl eP.of) ?_
   refine tr1 rfl (bB (aA rfl) rfl rfl rfl) ?_
   refine tr1 rfl (aC (v := .d (.lit (.bool ((decide (4 < (prizes_3.length : Int))))))) (aA rfl) rfl rfl) ?_
   obtain ⟨b14, h15, h⟩ := bind_some h
   refine bR 3 [3, 5, 6, 8, 9, 11] 31 b14 ?_ ?_
   ·refine bA (decide (4 < (prizes_3.length : Int))) (fun c18 => ?_) (fun c18 => ?_)
    ·have h15 := aP c18 h15
     refine aN rfl rfl (aA rfl) rfl (aA rfl) rfl c18 ?_
     refine aN rfl rfl (aA rfl) rfl (aA rfl) rfl c18 ?_
     refine tr1 rfl (bH (v := .d (.lit (.bool true))) (aA rfl) rfl c18 rfl rfl) ?_
     have h15 := Option.some.inj h15
     subst h15
     refine aF (aT rfl ⟨rfl, rfl, rfl, rfl, rfl, rfl, trivial⟩ rfl)
    ·have h15 := aO c18 h15
     refine aL rfl rfl (aA rfl) rfl c18 (aC (v := .d (.sl 1 (prizes_3.map cE))) (aA rfl) rfl rfl) ?_
     obtain ⟨r20, h21, h15⟩ := bind_some h15
     refine aL rfl rfl (aA rfl) rfl c18 (cF (aA rfl) (.func _ _ Try.call45) rfl rfl (BVs.refl _ _) (oJ _ _ 46 [] Try.call46 (fun _ _ h15 => vG _ h15) h21) rfl) ?_
     refine tr1 rfl (bG (v := .d (.lit (.bool r20))) (aA rfl) rfl c18 rfl rfl) ?_
     have h15 := Option.some.inj h15
     subst h15
     refine aF (aT rfl ⟨rfl, rfl, rfl, rfl, rfl, rfl, trivial⟩ rfl)
   ·refine aF ?_
    refine bN rfl (fun c16 => ?_) (fun c16 => ?_)
    ·have h := aP c16 h
     refine aG ?_
     refine aE ?_
     refine tr1 rfl (cO (i := 3) rfl rfl rfl rfl rfl Try.sizeOf3 rfl (aA rfl) (Nat.le_of_ble_eq_true rfl) (ds' := [.lit (.int .i64 0)]) rfl) ?_
     refine tr1 rfl (cO (i := 4) rfl rfl rfl rfl rfl Try.sizeOf3 rfl (aA rfl) (Nat.le_of_ble_eq_true rfl) (ds' := [.lit (.int .i64 0)]) rfl) ?_
     refine tr1 rfl (aI (v := .d (.lit (.int .i64 42))) (aA rfl) rfl rfl) ?_
     refine aF ?_
     have h := Option.some.inj h
     subst h
     exact bT ⟨rfl, _, [.box b1 0 (aZ l_0), .box b2 0 [.lit (.int .i64 player_1)], .box b3 0 [.lit (.int .i64 week_2)], .box b4 0 [.lit (.int .i64 0)], .box b5 0 [.lit (.int .i64 0)], .box b12 0 [.lit (.pointer none)]], .three (.cell1 8 3 rfl (i := 3) rfl bI rfl) (.cell1 9 3 rfl (i := 4) rfl bI rfl) (.tmp 10 (v := .d (.lit (.int .i64 42))) rfl), .refl _, .same _⟩
    ·have h := aO c16 h
     refine bK ?_
     refine aG ?_
     refine aE ?_
     refine tr1 rfl (iI 3 1 (.inl rfl) (aA rfl)) ?_
     refine aF ?_
     refine aG ?_
     refine aG ?_
     refine aE ?_
     refine tr1 rfl (aW (aA rfl) rfl (i := 5) rfl rfl vC) ?_
     cases h
 ·have h := vE h
  refine fJ (aV [0, 1, 2, 3, 4, 5, 6] rfl rfl (le_refl _)) ?_
  refine tr1 rfl (aC (v := .tup [.bp b9 0 0, .d (.lit (.int .i64 e11))]) (aA rfl) rfl rfl) ?_
  refine tr1 rfl (cW (aA rfl) rfl rfl) ?_
  refine tr1 rfl (cW (aA rfl) rfl rfl) ?_
  refine cA rfl (gR (zs := [.lit (.pointer none)]) (aA rfl) Try.zeroValue70 rfl rfl) ?_
  rintro _ ⟨b22, rfl⟩
  refine fJ (aHb 20 rfl) ?_
  refine tr1 rfl (cO (i := 7) rfl rfl rfl rfl rfl Try.sizeOf70 rfl (aA rfl) (Nat.le_of_ble_eq_true rfl) (ds' := [gI b9 0 0]) rfl) ?_
  refine tr1 rfl (aI (v := .d (.lit (.int .i64 e11))) (aA rfl) rfl rfl) ?_
  refine aF ?_
  refine aG ?_
  refine aG ?_
  refine aE ?_
  refine tr1 rfl (aC (v := .d (.lit (.int .i64 e11))) (aA rfl) rfl rfl) ?_
  refine tr1 rfl (bB (aA rfl) rfl rfl rfl) ?_
  refine aF ?_
  refine bN rfl (fun c23 => ?_) (fun c23 => ?_)
  ·have h := aP c23 h
   refine aG ?_
   refine aE ?_
   refine tr1 rfl (aC (v := .d (.lit (.int .i64 e11))) (aA rfl) rfl rfl) ?_
   refine tr1 rfl (cO (i := 5) rfl rfl rfl rfl rfl Try.sizeOf3 rfl (aA rfl) (Nat.le_of_ble_eq_true rfl) (ds' := [.lit (.int .i64 0)]) rfl) ?_
   refine tr1 rfl (cO (i := 6) rfl rfl rfl rfl rfl Try.sizeOf3 rfl (aA rfl) (Nat.le_of_ble_eq_true rfl) (ds' := [.lit (.int .i64 0)]) rfl) ?_
   refine tr1 rfl (aI (v := .d (.lit (.int .i64 e11))) (aA rfl) rfl rfl) ?_
   refine aF ?_
   have h := Option.some.inj h
   subst h
   exact bT ⟨rfl, _, [.box b9 0 [.lit (.int .i64 y8.Ledger.Players), .lit (.int .i64 y8.Ledger.Counts), .lit w10, .sl 3 (y8.Ledger.Bans.map aK), .sl 3 (y8.Ledger.Frozen.map aK)], .arr w10 42 5 (y8.Ledger.Reports.map aB), .box b1 0 (aZ l_0), .box b2 0 [.lit (.int .i64 player_1)], .box b3 0 [.lit (.int .i64 week_2)], .box b4 0 [.lit (.int .i64 0)], .box b5 0 [.lit (.int .i64 0)], .box b22 0 [gI b9 0 0]], .three (.cell1 8 3 rfl (i := 5) rfl bI rfl) (.cell1 9 3 rfl (i := 6) rfl bI rfl) (.tmp 10 (v := .d (.lit (.int .i64 e11))) rfl), .refl _, .same _⟩
  ·have h := aO c23 h
   refine bK ?_
   refine aG ?_
   refine aG ?_
   refine aE ?_
   refine tr1 rfl (aC (v := .d (.sl 1 (prizes_3.map cE))) (aA rfl) rfl rfl) ?_
   refine tr1 rfl (dR (aA rfl) rfl eP.of) ?_
   refine tr1 rfl (bB (aA rfl) rfl rfl rfl) ?_
   refine tr1 rfl (aC (v := .d (.lit (.bool ((decide (4 < (prizes_3.length : Int))))))) (aA rfl) rfl rfl) ?_
   obtain ⟨b24, h25, h⟩ := bind_some h
   refine bR 3 [3, 5, 6, 8, 9, 11] 31 b24 ?_ ?_
   ·refine bA (decide (4 < (prizes_3.length : Int))) (fun c43 => ?_) (fun c43 => ?_)
    ·have h25 := aP c43 h25
     refine aN rfl rfl (aA rfl) rfl (aA rfl) rfl c43 ?_
     refine aN rfl rfl (aA rfl) rfl (aA rfl) rfl c43 ?_
     refine tr1 rfl (bH (v := .d (.lit (.bool true))) (aA rfl) rfl c43 rfl rfl) ?_
     have h25 := Option.some.inj h25
     subst h25
     refine aF (aT rfl ⟨rfl, rfl, rfl, rfl, rfl, rfl, trivial⟩ rfl)
    ·have h25 := aO c43 h25
     refine aL rfl rfl (aA rfl) rfl c43 (aC (v := .d (.sl 1 (prizes_3.map cE))) (aA rfl) rfl rfl) ?_
     obtain ⟨r45, h46, h25⟩ := bind_some h25
     refine aL rfl rfl (aA rfl) rfl c43 (cF (aA rfl) (.func _ _ Try.call45) rfl rfl (BVs.refl _ _) (oJ _ _ 46 [] Try.call46 (fun _ _ h25 => vG _ h25) h46) rfl) ?_
     refine tr1 rfl (bG (v := .d (.lit (.bool r45))) (aA rfl) rfl c43 rfl rfl) ?_
     have h25 := Option.some.inj h25
     subst h25
     refine aF (aT rfl ⟨rfl, rfl, rfl, rfl, rfl, rfl, trivial⟩ rfl)
   ·refine aF ?_
    refine bN rfl (fun c26 => ?_) (fun c26 => ?_)
    ·have h := aP c26 h
     refine aG ?_
     refine aE ?_
     refine tr1 rfl (cO (i := 5) rfl rfl rfl rfl rfl Try.sizeOf3 rfl (aA rfl) (Nat.le_of_ble_eq_true rfl) (ds' := [.lit (.int .i64 0)]) rfl) ?_
     refine tr1 rfl (cO (i := 6) rfl rfl rfl rfl rfl Try.sizeOf3 rfl (aA rfl) (Nat.le_of_ble_eq_true rfl) (ds' := [.lit (.int .i64 0)]) rfl) ?_
     refine tr1 rfl (aI (v := .d (.lit (.int .i64 42))) (aA rfl) rfl rfl) ?_
     refine aF ?_
     have h := Option.some.inj h
     subst h
     exact bT ⟨rfl, _, [.box b9 0 [.lit (.int .i64 y8.Ledger.Players), .lit (.int .i64 y8.Ledger.Counts), .lit w10, .sl 3 (y8.Ledger.Bans.map aK), .sl 3 (y8.Ledger.Frozen.map aK)], .arr w10 42 5 (y8.Ledger.Reports.map aB), .box b1 0 (aZ l_0), .box b2 0 [.lit (.int .i64 player_1)], .box b3 0 [.lit (.int .i64 week_2)], .box b4 0 [.lit (.int .i64 0)], .box b5 0 [.lit (.int .i64 0)], .box b22 0 [gI b9 0 0]], .three (.cell1 8 3 rfl (i := 5) rfl bI rfl) (.cell1 9 3 rfl (i := 6) rfl bI rfl) (.tmp 10 (v := .d (.lit (.int .i64 42))) rfl), .refl _, .same _⟩
    ·have h := aO c26 h
     refine bK ?_
     refine aG ?_
     refine aE ?_
     refine tr1 rfl (iI 3 1 (.inl rfl) (aA rfl)) ?_
     refine aF ?_
     refine aG ?_
     refine aG ?_
     refine aE ?_
     refine tr1 rfl (sM (i := 7) (aA rfl) rfl rfl rfl vC) ?_
     refine tr1 rfl (kR (aA rfl) rfl) ?_
     refine tr1 rfl (aU (aA rfl) rfl iV) ?_
     refine tr1 rfl (aU (aA rfl) rfl jP) ?_
     refine tr1 rfl (aW (aA rfl) rfl (i := 0) rfl rfl bI) ?_
     refine tr1 rfl (aC (v := .d (.lit (.int .i64 0))) (aA rfl) rfl rfl) ?_
     refine aF ?_
     refine bZ ?_
     refine cM [3, 5, 6, 8, 9, 11, 36] (fun (s28 : Int × (List Int) × Value) => [(12, .d (.lit s28.2.2)), (37, .d (.lit (.int .i64 s28.1)))]) (fun (s28 : Int × (List Int) × Value) => [.box b2 0 [.lit (.int .i64 player_1)], .box b3 0 [.lit (.int .i64 week_2)], .box b4 0 [.lit (.int .i64 0)], .box b5 0 [.lit (.int .i64 0)], .box b22 0 [gI b9 0 0], .arr s28.2.2 3 1 (s28.2.1.map cE), .arr w10 42 5 (y8.Ledger.Reports.map aB), .box b9 0 [.lit (.int .i64 y8.Ledger.Players), .lit (.int .i64 y8.Ledger.Counts), .lit w10, .sl 3 (y8.Ledger.Bans.map aK), .sl 3 (y8.Ledger.Frozen.map aK)]]) (fun (k : Nat) (s28 : Int × (List Int) × Value) => nQ prizes_3 y8.Ledger.Players player_1 week_2 0 0 y8.Ledger.Reports y8.Ledger.Players y8.Ledger.Counts y8.Ledger.Bans y8.Ledger.Frozen k s28.1 s28.2.1) (fun _ => rfl) (0, ([] : List Int), (.slice none 0 0)) h (aV [3, 4, 5, 6, 7, 8, 1, 0] rfl rfl (aM rfl (aM rfl (aX ⟨rfl, rfl, rfl, rfl, rfl, rfl, rfl, trivial⟩)))) ?_
     rintro k30 ⟨t37_0_28, free_0_28, w29⟩ h
     simp only [nQ] at h
     refine aG ?_
     refine aE ?_
     refine tr1 rfl (bB (aA rfl) rfl rfl rfl) ?_
     refine aF ?_
     refine aG ?_
     refine bN rfl (fun c31 => ?_) (fun c31 => ?_)
     ·have h := aP c31 h
      refine bK ?_
      refine aG ?_
      refine bZ ?_
      refine aG ?_
      refine aE ?_
      refine tr1 rfl (aC (v := .d (.lit (.int .i64 t37_0_28))) (aA rfl) rfl rfl) ?_
      refine tr1 rfl (aI (v := .d (.lit (.int .i64 t37_0_28))) (aA rfl) rfl rfl) ?_
      refine aF ?_
      refine aG ?_
      refine gA mix 7 [3, 5, 6, 8, 9, 11, 12, 13, 36, 37] [(44, .d (.sl 3 (y8.Ledger.Bans.map aK))), (45, .d (.lit (.int .i64 t37_0_28))), (46, .d (.lit (.int .i64 week_2)))] ?_ ?_
      ·refine ⟨[(40, 0, .bp b9 0 0), (41, 1, .bp b9 0 0), (42, 2, .bp b9 0 0), (43, 3, .bp b9 0 3), (44, 4, .d (.sl 3 (y8.Ledger.Bans.map aK))), (45, 5, .d (.lit (.int .i64 t37_0_28))), (46, 6, .d (.lit (.int .i64 week_2)))], ?_, ?_⟩
       · exact ⟨by kernel_rfl, by kernel_rfl, by kernel_rfl, by kernel_rfl, by kernel_rfl, [([], []), ([0], []), ([1], []), ([2], []), ([3], []), ([], []), ([], [])], by kernel_rfl, ⟨fun S hS => aJ rfl (aQ rfl (sM (i := 4) (aA rfl) (aH hS rfl) rfl rfl vC)),
      fun S hS => aJ rfl (aQ rfl (kR (aA rfl) (aH hS rfl))),
      fun S hS => aJ rfl (aQ rfl (aU (aA rfl) (aH hS rfl) iV)),
      fun S hS => aJ rfl (aQ rfl (aU (aA rfl) (aH hS rfl) qH)),
      fun S hS => aJ rfl (aQ rfl (aW (aA rfl) (aH hS rfl) (i := 7) rfl rfl kX)),
      fun S hS => aJ rfl (aQ rfl (aC (v := .d (.lit (.int .i64 t37_0_28))) (aA rfl) (aH hS rfl) rfl)),
      fun S hS => aJ rfl (aQ rfl (aW (aA rfl) (aH hS rfl) (i := 1) rfl rfl bI)), trivial⟩⟩
       · exact eC (aM rfl (aM rfl (aM rfl (aX ⟨rfl, rfl, rfl, rfl, rfl, rfl, rfl, rfl, rfl, rfl, trivial⟩))))
      ·obtain ⟨r32, h33, h⟩ := bind_some h
       refine tr1 rfl (cF (aA rfl) (.func _ _ Try.call48) rfl rfl (BVs.refl _ _) (uP _ _ _ h33) rfl) ?_
       refine tr1 rfl (dB (aA rfl) rfl) ?_
       refine aF ?_
       refine bN rfl (fun c34 => ?_) (fun c34 => ?_)
       ·have h := aP c34 h
        refine aE ?_
        refine tr1 rfl (aC (v := .d (.lit w29)) (aA rfl) rfl rfl) ?_
        refine tr1 rfl (aC (v := .d (.lit (.int .i64 t37_0_28))) (aA rfl) rfl rfl) ?_
        refine tr1 rfl (jL (aA rfl) eP rfl rfl (rows := ([t37_0_28]).map cE) rfl (dD (f := cE) fun _ => rfl) rfl (by decide)) ?_
        obtain ⟨x35, h36, h⟩ := bind_some h
        refine cA rfl (lP (i := 5) (aA rfl) eP rfl rfl rfl (fun _ => rfl) h36 rfl) ?_
        rintro _ ⟨v37, rfl⟩
        refine tr1 rfl (aI (v := .d (.lit v37)) (aA rfl) rfl rfl) ?_
        refine dE ?_
        refine aE ?_
        refine tr1 rfl (aY (aA rfl) rfl rfl rfl) ?_
        refine tr1 rfl (aC (v := .d (.lit (.int .i64 ((w64 (t37_0_28 + 1)))))) (aA rfl) rfl rfl) ?_
        refine aF ?_
        exact ⟨(w64 (t37_0_28 + 1), x35, v37), h, aV [0, 1, 2, 3, 4, 5, 6, 7] rfl rfl (aM rfl (aM rfl (aX ⟨rfl, rfl, rfl, rfl, rfl, rfl, rfl, trivial⟩)))⟩
       ·have h := aO c34 h
        refine dK ?_
        refine aE ?_
        refine tr1 rfl (aY (aA rfl) rfl rfl rfl) ?_
        refine tr1 rfl (aC (v := .d (.lit (.int .i64 ((w64 (t37_0_28 + 1)))))) (aA rfl) rfl rfl) ?_
        refine aF ?_
        exact ⟨(w64 (t37_0_28 + 1), free_0_28, w29), h, aV [0, 1, 2, 3, 4, 5, 6, 7] rfl rfl (aM rfl (aM rfl (aX ⟨rfl, rfl, rfl, rfl, rfl, rfl, rfl, trivial⟩)))⟩
     ·have h := aO c31 h
      refine cT ?_
      refine .inl ⟨rfl, ?_⟩
      simp only [wE] at h
      refine aG ?_
      refine aE ?_
      refine tr1 rfl (sM (i := 4) (aA rfl) rfl rfl rfl vC) ?_
      refine tr1 rfl (kR (aA rfl) rfl) ?_
      refine tr1 rfl (aU (aA rfl) rfl iV) ?_
      refine tr1 rfl (aU (aA rfl) rfl jP) ?_
      refine tr1 rfl (aW (aA rfl) rfl (i := 7) rfl rfl bI) ?_
      refine tr1 rfl (aY (aA rfl) rfl rfl rfl) ?_
      refine tr1 rfl (cO (i := 2) rfl rfl rfl rfl rfl Try.sizeOf3 rfl (aA rfl) (Nat.le_of_ble_eq_true rfl) (ds' := [.lit (.int .i64 ((w64 (y8.Ledger.Players + 1))))]) rfl) ?_
      refine tr1 rfl (cO (i := 3) rfl rfl rfl rfl rfl Try.sizeOf3 rfl (aA rfl) (Nat.le_of_ble_eq_true rfl) (ds' := [.lit (.int .i64 0)]) rfl) ?_
      refine aF ?_
      refine aG ?_
      refine aE ?_
      refine cA rfl (gR (zs := [.lit (.bool false)]) (aA rfl) Try.zeroValue4 rfl rfl) ?_
      rintro _ ⟨b38, rfl⟩
      refine tr1 rfl (cO (i := 8) rfl rfl rfl rfl rfl Try.sizeOf4 rfl (aA rfl) (Nat.le_of_ble_eq_true rfl) (ds' := [.lit (.bool false)]) rfl) ?_
      refine aF ?_
      refine aG ?_
      refine aE ?_
      refine tr1 rfl (sM (i := 4) (aA rfl) rfl rfl rfl vC) ?_
      refine tr1 rfl (aW (aA rfl) rfl (i := 1) rfl rfl bI) ?_
      refine tr1 rfl (aC (v := .d (.sl 1 (prizes_3.map cE))) (aA rfl) rfl rfl) ?_
      refine tr1 rfl (aC (v := .d (.lit w29)) (aA rfl) rfl rfl) ?_
      refine tr1 rfl (xG (aA rfl) rfl rfl) ?_
      refine fJ (aV [0, 1, 2, 3, 4, 6, 7, 8, 5] rfl rfl (le_refl _)) ?_
      refine fJ (xR [.box b2 0 [.lit (.int .i64 player_1)], .box b3 0 [.lit (.int .i64 week_2)], .box b4 0 [.lit (.int .i64 ((w64 (y8.Ledger.Players + 1))))], .box b5 0 [.lit (.int .i64 0)], .box b22 0 [gI b9 0 0], .arr w10 42 5 (y8.Ledger.Reports.map aB), .box b9 0 [.lit (.int .i64 y8.Ledger.Players), .lit (.int .i64 y8.Ledger.Counts), .lit w10, .sl 3 (y8.Ledger.Bans.map aK), .sl 3 (y8.Ledger.Frozen.map aK)], .box b38 0 [.lit (.bool false)]] [.arr w29 3 1 (free_0_28.map cE)] rfl (fV (k := 63) (v := .d (.sl 1 (free_0_28.map cE))) (.d (iE 0 rfl (dD (f := cE) fun _ => rfl))) (fV (k := 12) (v := .d (.sl 1 (free_0_28.map cE))) (.d (iE 0 rfl (dD (f := cE) fun _ => rfl))) (qE _ _)))) ?_
      refine fJ (aV [6, 0, 1, 2, 3, 4, 7, 5] rfl rfl (le_refl _)) ?_
      refine fJ (aEb (ds' := (cH y8)) [.box b2 0 [.lit (.int .i64 player_1)], .box b3 0 [.lit (.int .i64 week_2)], .box b4 0 [.lit (.int .i64 ((w64 (y8.Ledger.Players + 1))))], .box b5 0 [.lit (.int .i64 0)], .box b22 0 [gI b9 0 0], .box b38 0 [.lit (.bool false)]] [.arr w10 42 5 (y8.Ledger.Reports.map aB)] rfl (dvc (.same _) (dvc (.same _) (dvc (iE 0 rfl (dD (f := aB) fun _ => rfl)) (dvc (.same _) (dvc (.same _) dvn))))) (qE _ _)) ?_
      obtain ⟨r39, h40, h⟩ := bind_some h
      refine fJ (aV [0, 5, 1, 2, 6, 3, 4] rfl rfl (le_refl _)) ?_
      refine cA rfl (dQ (passed := [.box b9 0 (cH y8), .box b22 0 [gI b9 0 0], .box b2 0 [.lit (.int .i64 player_1)], .box b3 0 [.lit (.int .i64 week_2)], .box b38 0 [.lit (.bool false)], .box b4 0 [.lit (.int .i64 ((w64 (y8.Ledger.Players + 1))))], .box b5 0 [.lit (.int .i64 0)]]) (aA rfl) rfl (.func _ _ Try.call49) rfl rfl (wI y8 player_1 week_2 false (w64 (y8.Ledger.Players + 1)) 0 week_2 prizes_3 free_0_28 h40)) ?_
      rintro _ ⟨_, _, ⟨rfl, rfl⟩, rfl⟩
      refine aF ?_
      refine aG ?_
      refine aG ?_
      refine aE ?_
      refine tr1 rfl (aW (aA rfl) rfl (i := 4) rfl rfl iR) ?_
      refine aF ?_
      refine bN rfl (fun c41 => ?_) (fun c41 => ?_)
      ·have h := aP c41 h
       refine aG ?_
       refine aE ?_
       refine tr1 rfl (cO (i := 5) rfl rfl rfl rfl rfl Try.sizeOf3 rfl (aA rfl) (Nat.le_of_ble_eq_true rfl) (ds' := [.lit (.int .i64 0)]) rfl) ?_
       refine tr1 rfl (cO (i := 6) rfl rfl rfl rfl rfl Try.sizeOf3 rfl (aA rfl) (Nat.le_of_ble_eq_true rfl) (ds' := [.lit (.int .i64 0)]) rfl) ?_
       refine tr1 rfl (aI (v := .d (.lit (.int .i64 3))) (aA rfl) rfl rfl) ?_
       refine aF ?_
       have h := Option.some.inj h
       subst h
       exact bT ⟨rfl, _, [.box b9 0 (cH r39.1), .box b22 0 [gI b9 0 0], .box b2 0 [.lit (.int .i64 player_1)], .box b3 0 [.lit (.int .i64 week_2)], .box b38 0 [.lit (.bool r39.2.1)], .box b4 0 [.lit (.int .i64 0)], .box b5 0 [.lit (.int .i64 0)]], .three (.cell1 8 3 rfl (i := 5) rfl bI rfl) (.cell1 9 3 rfl (i := 6) rfl bI rfl) (.tmp 10 (v := .d (.lit (.int .i64 3))) rfl), .refl _, .same _⟩
      ·have h := aO c41 h
       refine bK ?_
       refine aG ?_
       refine mR mix 3 [8, 9] (fun X42 => [(68, .d (.lit (.int .i64 r39.2.2.2)))]) (fun X42 => [.box b9 0 (cH r39.1), .box b22 0 [gI b9 0 0], .box b2 0 [.lit (.int .i64 player_1)], .box b3 0 [.lit (.int .i64 week_2)], .box b38 0 [.lit (.bool r39.2.1)], .box b4 0 [.lit (.int .i64 r39.2.2.1)], .box b5 0 [.lit (.int .i64 r39.2.2.2)]]) ?_ ?_
       ·refine ⟨0, fun X42 => [(67, 0, .d (.lit (.int .i64 r39.2.2.1))), (68, 1, .d (.lit (.int .i64 r39.2.2.2)))], fun X42 => [([], .box b9 0 (cH r39.1)), ([], .box b22 0 [gI b9 0 0]), ([], .box b2 0 [.lit (.int .i64 player_1)]), ([], .box b3 0 [.lit (.int .i64 week_2)]), ([], .box b38 0 [.lit (.bool r39.2.1)]), ([(2, .box b4 0 [.lit (.int .i64 r39.2.2.1)])], .box b4 0 [.lit (.int .i64 r39.2.2.1)]), ([], .box b5 0 [.lit (.int .i64 r39.2.2.2)])], ?_, ?_⟩
        · exact ⟨by kernel_rfl, by kernel_rfl, by kernel_rfl, fun _ => by kernel_rfl, fun _ => by kernel_rfl, fun _ => by kernel_rfl, fun _ => rfl, [([], [2]), ([], []), ([0], [])], by kernel_rfl, ⟨fun X42 S hw hi hS => bY (X := X42) rfl (hw X42) rfl (aQ rfl (aW (aA rfl) (aH hS rfl) (i := 5) (og hS rfl rfl) rfl bI)),
      fun X42 S hw hi hS => bY (X := X42) rfl (hw X42) rfl (aQ rfl (aW (aA rfl) (aH hS rfl) (i := 6) (og hS rfl rfl) rfl bI)),
      fun X42 S hw hi hS => qQ (X := X42) hS rfl rfl rfl (p := 5) rfl rfl (aQ rfl (cO (i := 5) (aH hS rfl) (og hS rfl rfl) (aH hS rfl) rfl rfl Try.sizeOf3 rfl (aA rfl) (Nat.le_of_ble_eq_true rfl) (ds' := [.lit (.int .i64 r39.2.2.1)]) rfl)), trivial⟩⟩
        · exact fun X42 => eC (aM rfl (aX ⟨rfl, rfl, trivial⟩))
       ·intro X42
        refine tr1 rfl (cO (i := 6) rfl rfl rfl rfl rfl Try.sizeOf3 rfl (aA rfl) (Nat.le_of_ble_eq_true rfl) (ds' := [.lit (.int .i64 r39.2.2.2)]) rfl) ?_
        refine tr1 rfl (aI (v := .d (.lit (.int .i64 0))) (aA rfl) rfl rfl) ?_
        refine aF ?_
        have h := Option.some.inj h
        subst h
        exact bT ⟨rfl, _, [.box b9 0 (cH r39.1), .box b22 0 [gI b9 0 0], .box b2 0 [.lit (.int .i64 player_1)], .box b3 0 [.lit (.int .i64 week_2)], .box b38 0 [.lit (.bool r39.2.1)], .box b4 0 [.lit (.int .i64 r39.2.2.1)], .box b5 0 [.lit (.int .i64 r39.2.2.2)]], .three (.cell1 8 3 rfl (i := 5) rfl bI rfl) (.cell1 9 3 rfl (i := 6) rfl bI rfl) (.tmp 10 (v := .d (.lit (.int .i64 0))) rfl), .refl _, .same _⟩

theorem oQ (b_0 : cB) (player_1 : Int) (week_2 : Int) {r : Int} (h : jK b_0 player_1 week_2 = some r) : Fn Try.prog 55 [.cp (cH b_0), .d (.lit (.int .i64 player_1)), .d (.lit (.int .i64 week_2))] (.d (.lit (.int .i64 r))) := by
 unfold jK at h
 refine Fn.of_tr Try.func55 rfl (rs := [.tmp 6]) Try.results55 Try.ntmps55 (Nat.le_of_ble_eq_true rfl) ?_
 refine aG ?_
 refine aE ?_
 refine tr1 rfl (aI (v := .d (.lit (.int .i64 0))) (aA rfl) rfl rfl) ?_
 refine aF ?_
 refine aG ?_
 refine aE ?_
 refine tr1 rfl (aC (v := .cp [.lit (.int .i64 b_0.Ledger.Players), .lit (.int .i64 b_0.Ledger.Counts), .sl 5 (b_0.Ledger.Reports.map aB), .sl 3 (b_0.Ledger.Bans.map aK), .sl 3 (b_0.Ledger.Frozen.map aK)]) (aA rfl) rfl rfl) ?_
 refine tr1 rfl (aC (v := .cp [.lit (.int .i64 b_0.Ledger.Players), .lit (.int .i64 b_0.Ledger.Counts), .sl 5 (b_0.Ledger.Reports.map aB), .sl 3 (b_0.Ledger.Bans.map aK), .sl 3 (b_0.Ledger.Frozen.map aK)]) (aA rfl) rfl rfl) ?_
 refine tr1 rfl (aC (v := .d (.lit (.int .i64 player_1))) (aA rfl) rfl rfl) ?_
 refine tr1 rfl (aC (v := .d (.lit (.int .i64 week_2))) (aA rfl) rfl rfl) ?_
 obtain ⟨r1, h2, h⟩ := bind_some h
 refine tr1 rfl (lD (aA rfl) (.func _ _ Try.call72) rfl rfl (pJ _ _ _ h2)) ?_
 obtain ⟨r3, h4, h⟩ := bind_some h
 refine tr1 rfl (lD (aA rfl) (.func _ _ Try.call71) rfl rfl (pL _ _ h4)) ?_
 obtain ⟨r5, h6, h⟩ := bind_some h
 refine tr1 rfl (cF (aA rfl) (.func _ _ Try.call86) rfl rfl (BVs.refl _ _) (zN _ h6) rfl) ?_
 refine tr1 rfl (aI (v := .d (.lit (.int .i64 r5))) (aA rfl) rfl rfl) ?_
 refine aF ?_
 have h := Option.some.inj h
 subst h
 exact bT ⟨rfl, _, .one _, rfl, rfl⟩

theorem rL (s_0 : List aD) (f_1 : aD → Option Bool) {r : Int} (f_1_f : Nat) (f_1_v : List AV) (f_1_e : ∀ args w, (callFunc f_1_f args).run Try.prog w = .ok (.enter f_1_f args) w) (f_1_h : ∀ (x0 : aD) r, f_1 x0 = some r → Fn Try.prog f_1_f ([.agg (aB x0)] ++ f_1_v) (.d (.lit (.bool r)))) (h : kZ s_0 f_1 = some r) : Fn Try.prog 75 [.d (.sl 5 (s_0.map aB)), .fn f_1_f f_1_v] (.d (.lit (.int .i64 r))) := by
 unfold kZ at h
 refine Fn.of_tr Try.func75 rfl (rs := [.tmp 4]) Try.results75 Try.ntmps75 (Nat.le_of_ble_eq_true rfl) ?_
 refine aG ?_
 refine aE ?_
 refine tr1 rfl (aI (v := .d (.lit (.int .i64 0))) (aA rfl) rfl rfl) ?_
 refine aF ?_
 refine aG ?_
 refine aG ?_
 refine aE ?_
 refine tr1 rfl (aC (v := .d (.sl 5 (s_0.map aB))) (aA rfl) rfl rfl) ?_
 refine tr1 rfl (dR (aA rfl) rfl bQ.of) ?_
 refine tr1 rfl (aC (v := .d (.lit (.int .i64 0))) (aA rfl) rfl rfl) ?_
 refine aF ?_
 refine bZ ?_
 refine cM [0, 1, 7] (fun (s1 : Int) => [(8, .d (.lit (.int .i64 s1)))]) (fun (s1 : Int) => []) (fun (k : Nat) (s1 : Int) => hJ s_0 f_1 (s_0.length : Int) k s1) (fun _ => rfl) (0) h (aV [] rfl rfl (aM rfl (aX ⟨rfl, rfl, rfl, trivial⟩))) ?_
 rintro k2 t8_0_1 h
 simp only [hJ] at h
 refine aG ?_
 refine aE ?_
 refine tr1 rfl (bB (aA rfl) rfl rfl rfl) ?_
 refine aF ?_
 refine aG ?_
 refine bN rfl (fun c3 => ?_) (fun c3 => ?_)
 ·have h := aP c3 h
  refine bK ?_
  refine aG ?_
  refine bZ ?_
  refine aG ?_
  refine aE ?_
  refine tr1 rfl (aC (v := .d (.lit (.int .i64 t8_0_1))) (aA rfl) rfl rfl) ?_
  refine tr1 rfl (aI (v := .d (.lit (.int .i64 t8_0_1))) (aA rfl) rfl rfl) ?_
  refine aF ?_
  refine aG ?_
  refine aE ?_
  refine tr1 rfl (aC (v := .fn f_1_f f_1_v) (aA rfl) rfl rfl) ?_
  refine tr1 rfl (aC (v := .d (.sl 5 (s_0.map aB))) (aA rfl) rfl rfl) ?_
  refine tr1 rfl (aC (v := .d (.lit (.int .i64 t8_0_1))) (aA rfl) rfl rfl) ?_
  obtain ⟨x4, h5, h⟩ := bind_some h
  refine tr1 rfl (bJ (aA rfl) rfl rfl bQ.of (bF aB h5)) ?_
  refine tr1 rfl (fN (aA rfl) rfl dW (es := (aB x4)) rfl rfl) ?_
  obtain ⟨r6, h7, h⟩ := bind_some h
  refine tr1 rfl (cF (aA rfl) (.clo _ _ _ _ f_1_e rfl) (tJ rfl) rfl (BVs.refl _ _) (f_1_h _ _  h7) rfl) ?_
  refine aF ?_
  refine bN rfl (fun c8 => ?_) (fun c8 => ?_)
  ·have h := aP c8 h
   refine aG ?_
   refine aE ?_
   refine tr1 rfl (aC (v := .d (.lit (.int .i64 t8_0_1))) (aA rfl) rfl rfl) ?_
   refine tr1 rfl (aI (v := .d (.lit (.int .i64 t8_0_1))) (aA rfl) rfl rfl) ?_
   refine aF ?_
   have h := Option.some.inj h
   subst h
   exact bT ⟨rfl, _, .one _, rfl, rfl⟩
  ·have h := aO c8 h
   refine dK ?_
   refine aE ?_
   refine tr1 rfl (aY (aA rfl) rfl rfl rfl) ?_
   refine tr1 rfl (aC (v := .d (.lit (.int .i64 ((w64 (t8_0_1 + 1)))))) (aA rfl) rfl rfl) ?_
   refine aF ?_
   exact ⟨(w64 (t8_0_1 + 1)), h, aV [] rfl rfl (aM rfl (aX ⟨rfl, rfl, rfl, trivial⟩))⟩
 ·have h := aO c3 h
  refine cT ?_
  refine .inl ⟨rfl, ?_⟩
  simp only [mP] at h
  refine aG ?_
  refine aE ?_
  refine tr1 rfl (aI (v := .d (.lit (.int .i64 (-1)))) (aA rfl) rfl rfl) ?_
  refine aF ?_
  have h := Option.some.inj h
  subst h
  exact bT ⟨rfl, _, .one _, rfl, rfl⟩

theorem rH (s_0 : List aD) (del_1 : aD → Option Bool) {r : (List aD)} {s_0_v : Value} (del_1_f : Nat) (del_1_v : List AV) (del_1_e : ∀ args w, (callFunc del_1_f args).run Try.prog w = .ok (.enter del_1_f args) w) (del_1_h : ∀ (x0 : aD) r, del_1 x0 = some r → Fn Try.prog del_1_f ([.agg (aB x0)] ++ del_1_v) (.d (.lit (.bool r)))) (h : kP s_0 del_1 = some r) : fR Try.prog 56 [.d (.lit s_0_v), .fn del_1_f del_1_v] [.arr s_0_v 42 5 (s_0.map aB)] (fun r' o' => ∃ w0 : Value, r' = .d (.lit w0) ∧ o' = [.arr w0 42 5 (r.map aB)]) := by
 unfold kP at h
 refine mG Try.func56 rfl (rs := [.tmp 4]) Try.results56 Try.ntmps56 (Nat.le_of_ble_eq_true rfl) ?_
 refine aG ?_
 refine aE ?_
 refine tr1 rfl (iI 42 5 (.inl rfl) (aA rfl)) ?_
 refine aF ?_
 refine aG ?_
 refine aE ?_
 refine tr1 rfl (aC (v := .d (.lit s_0_v)) (aA rfl) rfl rfl) ?_
 refine tr1 rfl (aC (v := .fn del_1_f del_1_v) (aA rfl) rfl rfl) ?_
 obtain ⟨r2, h3, h⟩ := bind_some h
 refine tr1 rfl (cF (aA rfl) (.func _ _ Try.call75) rfl rfl (.cons (.d (iE 0 rfl (dD (f := aB) fun _ => rfl))) (.cons (.same _) .nil)) (rL _ _ del_1_f del_1_v del_1_e del_1_h h3) rfl) ?_
 refine tr1 rfl (aI (v := .d (.lit (.int .i64 r2))) (aA rfl) rfl rfl) ?_
 refine aF ?_
 refine aG ?_
 refine aG ?_
 refine aE ?_
 refine tr1 rfl (aC (v := .d (.lit (.int .i64 r2))) (aA rfl) rfl rfl) ?_
 refine tr1 rfl (bB (aA rfl) rfl rfl rfl) ?_
 refine aF ?_
 refine bN rfl (fun c4 => ?_) (fun c4 => ?_)
 ·have h := aP c4 h
  refine aG ?_
  refine aE ?_
  refine tr1 rfl (aC (v := .d (.lit s_0_v)) (aA rfl) rfl rfl) ?_
  refine tr1 rfl (aI (v := .d (.lit s_0_v)) (aA rfl) rfl rfl) ?_
  refine aF ?_
  have h := Option.some.inj h
  subst h
  exact bT ⟨rfl, _, [.arr s_0_v 42 5 (s_0.map aB)], [.arr (.slice none 0 0) 42 5 (([] : List aD).map aB)], _, .one (.tmp 4 (v := .d (.lit s_0_v)) rfl), .refl _, .same _, s_0_v, rfl, rfl⟩
 ·have h := aO c4 h
  refine bK ?_
  refine aG ?_
  refine aG ?_
  refine aE ?_
  refine tr1 rfl (aC (v := .d (.lit (.int .i64 r2))) (aA rfl) rfl rfl) ?_
  refine tr1 rfl (aY (aA rfl) rfl rfl rfl) ?_
  refine tr1 rfl (aI (v := .d (.lit (.int .i64 ((w64 (r2 + 1)))))) (aA rfl) rfl rfl) ?_
  refine aF ?_
  refine bZ ?_
  refine cM [1] (fun (s5 : Int × Int × (List aD)) => [(0, .d (.lit s_0_v)), (5, .d (.lit (.int .i64 s5.1))), (6, .d (.lit (.int .i64 s5.2.1)))]) (fun (s5 : Int × Int × (List aD)) => [.arr s_0_v 42 5 (s5.2.2.map aB)]) (fun (k : Nat) (s5 : Int × Int × (List aD)) => fS del_1 k s5.1 s5.2.1 s5.2.2) (fun _ => rfl) (r2, w64 (r2 + 1), s_0) h (aV [0] rfl rfl (aM rfl (aM rfl (aM rfl (aX ⟨rfl, trivial⟩))))) ?_
  rintro k6 ⟨i_0_5, j_0_5, s_0_5⟩ h
  simp only [fS] at h
  refine aG ?_
  refine aG ?_
  refine aE ?_
  refine tr1 rfl (aC (v := .d (.lit (.int .i64 j_0_5))) (aA rfl) rfl rfl) ?_
  refine tr1 rfl (aC (v := .d (.lit s_0_v)) (aA rfl) rfl rfl) ?_
  refine tr1 rfl (lM (m := 0) (aA rfl) rfl rfl bQ.of) ?_
  refine tr1 rfl (bB (aA rfl) rfl rfl rfl) ?_
  refine aF ?_
  refine bN rfl (fun c7 => ?_) (fun c7 => ?_)
  ·have h := aP c7 h
   refine bK ?_
   refine aG ?_
   refine bZ ?_
   refine aG ?_
   refine aE ?_
   refine tr1 rfl (aC (v := .d (.lit s_0_v)) (aA rfl) rfl rfl) ?_
   refine tr1 rfl (aC (v := .d (.lit (.int .i64 j_0_5))) (aA rfl) rfl rfl) ?_
   obtain ⟨x8, h9, h⟩ := bind_some h
   refine tr1 rfl (cI (m := 0) (aA rfl) rfl rfl rfl bQ.of (bF aB h9)) ?_
   refine tr1 rfl (dH (aA rfl) rfl (l := 0) rfl (eD aB h9) dW (es := (aB x8)) rfl rfl) ?_
   refine cA rfl (gR (zs := [.lit (.int .i64 0), .lit (.int .i64 0), .lit (.int .i64 0), .lit (.int .i64 0), .lit (.bool false)]) (aA rfl) Try.zeroValue42 rfl rfl) ?_
   rintro _ ⟨b10, rfl⟩
   refine tr1 rfl (cO (i := 1) rfl rfl rfl rfl rfl Try.sizeOf42 rfl (aA rfl) (Nat.le_of_ble_eq_true rfl) (ds' := (aB x8)) rfl) ?_
   refine aF ?_
   refine aG ?_
   refine aE ?_
   refine tr1 rfl (aC (v := .fn del_1_f del_1_v) (aA rfl) rfl rfl) ?_
   refine tr1 rfl (dF (aA rfl) rfl (i := 1) rfl dW (es := (aB x8)) rfl rfl) ?_
   obtain ⟨r11, h12, h⟩ := bind_some h
   refine tr1 rfl (cF (aA rfl) (.clo _ _ _ _ del_1_e rfl) (tJ rfl) rfl (BVs.refl _ _) (del_1_h _ _  h12) rfl) ?_
   refine tr1 rfl (dB (aA rfl) rfl) ?_
   refine aF ?_
   refine bN rfl (fun c13 => ?_) (fun c13 => ?_)
   ·have h := aP c13 h
    refine aG ?_
    refine aE ?_
    refine tr1 rfl (aC (v := .d (.lit s_0_v)) (aA rfl) rfl rfl) ?_
    refine tr1 rfl (aC (v := .d (.lit (.int .i64 i_0_5))) (aA rfl) rfl rfl) ?_
    refine tr1 rfl (dF (aA rfl) rfl (i := 1) rfl dW (es := (aB x8)) rfl rfl) ?_
    obtain ⟨x14, h15, h⟩ := bind_some h
    refine tr1 rfl (cI (m := 0) (aA rfl) rfl rfl rfl bQ.of (bF aB h15)) ?_
    refine tr1 rfl (jJ (l := 0) rfl rfl (eD aB h15) rfl rfl rfl Try.sizeOf42 rfl (aA rfl) (Nat.le_of_ble_eq_true rfl) (rows' := ((s_0_5.set i_0_5.toNat x8)).map aB) (mF _ _ _ _ rfl)) ?_
    refine aF ?_
    refine aE ?_
    refine tr1 rfl (aC (v := .d (.lit (.int .i64 i_0_5))) (aA rfl) rfl rfl) ?_
    refine tr1 rfl (aY (aA rfl) rfl rfl rfl) ?_
    refine tr1 rfl (aI (v := .d (.lit (.int .i64 ((w64 (i_0_5 + 1)))))) (aA rfl) rfl rfl) ?_
    refine dE ?_
    refine aE ?_
    refine tr1 rfl (aC (v := .d (.lit (.int .i64 j_0_5))) (aA rfl) rfl rfl) ?_
    refine tr1 rfl (aY (aA rfl) rfl rfl rfl) ?_
    refine tr1 rfl (aI (v := .d (.lit (.int .i64 ((w64 (j_0_5 + 1)))))) (aA rfl) rfl rfl) ?_
    refine aF ?_
    exact ⟨(w64 (i_0_5 + 1), w64 (j_0_5 + 1), (s_0_5.set i_0_5.toNat x8)), h, aV [0] rfl rfl (aM rfl (aM rfl (aM rfl (aX ⟨rfl, trivial⟩))))⟩
   ·have h := aO c13 h
    refine dK ?_
    refine aE ?_
    refine tr1 rfl (aC (v := .d (.lit (.int .i64 j_0_5))) (aA rfl) rfl rfl) ?_
    refine tr1 rfl (aY (aA rfl) rfl rfl rfl) ?_
    refine tr1 rfl (aI (v := .d (.lit (.int .i64 ((w64 (j_0_5 + 1)))))) (aA rfl) rfl rfl) ?_
    refine aF ?_
    exact ⟨(i_0_5, w64 (j_0_5 + 1), s_0_5), h, aV [0] rfl rfl (aM rfl (aM rfl (aM rfl (aX ⟨rfl, trivial⟩))))⟩
  ·have h := aO c7 h
   refine cT ?_
   refine .inl ⟨rfl, ?_⟩
   simp only [mB] at h
   refine aG ?_
   refine aE ?_
   refine tr1 rfl (aC (v := .d (.lit s_0_v)) (aA rfl) rfl rfl) ?_
   refine tr1 rfl (aC (v := .d (.lit (.int .i64 i_0_5))) (aA rfl) rfl rfl) ?_
   obtain ⟨u16, h17, h⟩ := bind_some h
   refine tr1 rfl (tY (m := 0) (aA rfl) rfl rfl rfl bQ.of h17) ?_
   obtain ⟨u18, h19, h⟩ := bind_some h
   refine tr1 rfl (aCm (f := aB) (m := 0) bQ rfl rfl h19 (by decide)) ?_
   refine aF ?_
   refine aG ?_
   refine aE ?_
   refine tr1 rfl (aC (v := .d (.lit s_0_v)) (aA rfl) rfl rfl) ?_
   refine tr1 rfl (aC (v := .d (.lit (.int .i64 i_0_5))) (aA rfl) rfl rfl) ?_
   obtain ⟨u20, h21, h⟩ := bind_some h
   refine tr1 rfl (rE (m := 0) (q := i_0_5.toNat) (v := s_0_v) (aA rfl) rfl rfl rfl rfl (zA h21) bQ.of) ?_
   refine tr1 rfl (aI (v := .d (.lit (gD s_0_v i_0_5.toNat))) (aA rfl) rfl rfl) ?_
   refine aF ?_
   have h := Option.some.inj h
   subst h
   exact bT ⟨rfl, _, [.arr (gD s_0_v i_0_5.toNat) 42 5 ((s_0_5.take i_0_5.toNat).map aB)], [], _, .one (.tmp 4 (v := .d (.lit (gD s_0_v i_0_5.toNat))) rfl), .refl _, .same _, (gD s_0_v i_0_5.toNat), rfl, rfl⟩

theorem yV (r_0 : aD) (c_1 : Int) {r : Bool} (h : oY r_0 c_1 = some r) : Fn Try.prog 57 [.agg (aB r_0), .cp [.lit (.int .i64 c_1)]] (.d (.lit (.bool r))) := by
 unfold oY at h
 refine Fn.of_tr Try.func57 rfl (rs := [.tmp 3]) Try.results57 Try.ntmps57 (Nat.le_of_ble_eq_true rfl) ?_
 refine aG ?_
 refine aE ?_
 refine cA rfl (fM (v := .agg (aB r_0)) (aA rfl) rfl rfl rfl) ?_
 rintro _ ⟨b1, rfl⟩
 refine tr1 rfl (aI (v := .d (.lit (.bool false))) (aA rfl) rfl rfl) ?_
 refine aF ?_
 refine aG ?_
 refine aE ?_
 refine tr1 rfl (aU (aA rfl) rfl kJ) ?_
 refine tr1 rfl (aW (aA rfl) rfl (i := 0) rfl rfl bI) ?_
 refine tr1 rfl (bP (aA rfl) rfl bI) ?_
 refine tr1 rfl (bB (aA rfl) rfl rfl rfl) ?_
 refine tr1 rfl (aI (v := .d (.lit (.bool ((decide (c_1 < r_0.Week)))))) (aA rfl) rfl rfl) ?_
 refine aF ?_
 have h := Option.some.inj h
 subst h
 refine cP (cD (cJ (l := [3]) ⟨rfl, trivial⟩)) ?_
 exact bT ⟨rfl, _, .one _, rfl, rfl⟩

theorem aAc (l_0 : aR) (player_1 : Int) (week_2 : Int) {r : Int × Int} (h : tP l_0 player_1 week_2 = some r) : Fn Try.prog 21 [.agg (aZ l_0), .d (.lit (.int .i64 player_1)), .d (.lit (.int .i64 week_2))] (.tup [.d (.lit (.int .i64 r.1)), .d (.lit (.int .i64 r.2))]) := by
 unfold tP at h
 refine Fn.of_tr Try.func21 rfl (rs := [.tmp 6, .tmp 7]) Try.results21 Try.ntmps21 (Nat.le_of_ble_eq_true rfl) ?_
 refine aG ?_
 refine aE ?_
 refine cA rfl (fM (v := .agg (aZ l_0)) (aA rfl) rfl rfl rfl) ?_
 rintro _ ⟨b1, rfl⟩
 refine cA rfl (fM (v := .d (.lit (.int .i64 week_2))) (aA rfl) rfl rfl rfl) ?_
 rintro _ ⟨b2, rfl⟩
 refine tr1 rfl (aI (v := .d (.lit (.int .i64 0))) (aA rfl) rfl rfl) ?_
 refine tr1 rfl (aI (v := .d (.lit (.int .i64 0))) (aA rfl) rfl rfl) ?_
 refine aF ?_
 refine aG ?_
 refine aE ?_
 refine tr1 rfl (dF (aA rfl) rfl (i := 0) rfl hB (es := (aZ l_0)) rfl rfl) ?_
 refine tr1 rfl (aC (v := .d (.lit (.int .i64 player_1))) (aA rfl) rfl rfl) ?_
 refine tr1 rfl (aW (aA rfl) rfl (i := 1) rfl rfl bI) ?_
 obtain ⟨r3, h4, h⟩ := bind_some h
 refine cA rfl (dQ (passed := []) (aA rfl) rfl (.func _ _ Try.call44) rfl rfl (rA _ _ _ h4)) ?_
 rintro _ ⟨_, _, ⟨b6, w7, rfl, rfl⟩, rfl⟩
 obtain ⟨_ | y5, e8⟩ := r3
 ·have h := vD h
  refine fJ (aV [0, 1] rfl rfl (le_refl _)) ?_
  refine tr1 rfl (aC (v := .tup [.d (.lit (.pointer none)), .d (.lit (.int .i64 e8))]) (aA rfl) rfl rfl) ?_
  refine tr1 rfl (cW (aA rfl) rfl rfl) ?_
  refine tr1 rfl (cW (aA rfl) rfl rfl) ?_
  refine tr1 rfl (aI (v := .d (.lit (.pointer none))) (aA rfl) rfl rfl) ?_
  refine tr1 rfl (aI (v := .d (.lit (.int .i64 e8))) (aA rfl) rfl rfl) ?_
  refine aF ?_
  refine aG ?_
  refine aG ?_
  refine aE ?_
  refine tr1 rfl (aC (v := .d (.lit (.int .i64 e8))) (aA rfl) rfl rfl) ?_
  refine tr1 rfl (bB (aA rfl) rfl rfl rfl) ?_
  refine aF ?_
  refine bN rfl (fun c9 => ?_) (fun c9 => ?_)
  ·have h := aP c9 h
   refine aG ?_
   refine aE ?_
   refine tr1 rfl (aC (v := .d (.lit (.int .i64 e8))) (aA rfl) rfl rfl) ?_
   refine tr1 rfl (aI (v := .d (.lit (.int .i64 0))) (aA rfl) rfl rfl) ?_
   refine tr1 rfl (aI (v := .d (.lit (.int .i64 e8))) (aA rfl) rfl rfl) ?_
   refine aF ?_
   have h := Option.some.inj h
   subst h
   refine cP (cD (cJ (l := [6, 7]) ⟨rfl, rfl, trivial⟩)) ?_
   exact bT ⟨rfl, _, .two _ _, rfl, rfl⟩
  ·have h := aO c9 h
   refine bK ?_
   refine aG ?_
   refine aG ?_
   refine aE ?_
   refine tr1 rfl (aW (aA rfl) rfl (i := 1) rfl rfl bI) ?_
   refine tr1 rfl (bB (aA rfl) rfl rfl rfl) ?_
   refine aF ?_
   refine bN rfl (fun c10 => ?_) (fun c10 => ?_)
   ·have h := aP c10 h
    refine aG ?_
    refine aE ?_
    refine tr1 rfl (aI (v := .d (.lit (.int .i64 0))) (aA rfl) rfl rfl) ?_
    refine tr1 rfl (aI (v := .d (.lit (.int .i64 1))) (aA rfl) rfl rfl) ?_
    refine aF ?_
    have h := Option.some.inj h
    subst h
    refine cP (cD (cJ (l := [6, 7]) ⟨rfl, rfl, trivial⟩)) ?_
    exact bT ⟨rfl, _, .two _ _, rfl, rfl⟩
   ·have h := aO c10 h
    refine bK ?_
    refine aG ?_
    refine aE ?_
    refine tr1 rfl (aC (v := .d (.lit (.pointer none))) (aA rfl) rfl rfl) ?_
    refine tr1 rfl (aC (v := .d (.lit (.int .i64 player_1))) (aA rfl) rfl rfl) ?_
    refine tr1 rfl (aW (aA rfl) rfl (i := 1) rfl rfl bI) ?_
    cases h
 ·have h := vE h
  refine fJ (aV [0, 1, 2, 3] rfl rfl (le_refl _)) ?_
  refine tr1 rfl (aC (v := .tup [.bp b6 0 0, .d (.lit (.int .i64 e8))]) (aA rfl) rfl rfl) ?_
  refine tr1 rfl (cW (aA rfl) rfl rfl) ?_
  refine tr1 rfl (cW (aA rfl) rfl rfl) ?_
  refine tr1 rfl (aI (v := .bp b6 0 0) (aA rfl) rfl rfl) ?_
  refine tr1 rfl (aI (v := .d (.lit (.int .i64 e8))) (aA rfl) rfl rfl) ?_
  refine aF ?_
  refine aG ?_
  refine aG ?_
  refine aE ?_
  refine tr1 rfl (aC (v := .d (.lit (.int .i64 e8))) (aA rfl) rfl rfl) ?_
  refine tr1 rfl (bB (aA rfl) rfl rfl rfl) ?_
  refine aF ?_
  refine bN rfl (fun c11 => ?_) (fun c11 => ?_)
  ·have h := aP c11 h
   refine aG ?_
   refine aE ?_
   refine tr1 rfl (aC (v := .d (.lit (.int .i64 e8))) (aA rfl) rfl rfl) ?_
   refine tr1 rfl (aI (v := .d (.lit (.int .i64 0))) (aA rfl) rfl rfl) ?_
   refine tr1 rfl (aI (v := .d (.lit (.int .i64 e8))) (aA rfl) rfl rfl) ?_
   refine aF ?_
   have h := Option.some.inj h
   subst h
   refine cP (cD (cJ (l := [6, 7]) ⟨rfl, rfl, trivial⟩)) ?_
   exact bT ⟨rfl, _, .two _ _, rfl, rfl⟩
  ·have h := aO c11 h
   refine bK ?_
   refine aG ?_
   refine aG ?_
   refine aE ?_
   refine tr1 rfl (aW (aA rfl) rfl (i := 3) rfl rfl bI) ?_
   refine tr1 rfl (bB (aA rfl) rfl rfl rfl) ?_
   refine aF ?_
   refine bN rfl (fun c12 => ?_) (fun c12 => ?_)
   ·have h := aP c12 h
    refine aG ?_
    refine aE ?_
    refine tr1 rfl (aI (v := .d (.lit (.int .i64 0))) (aA rfl) rfl rfl) ?_
    refine tr1 rfl (aI (v := .d (.lit (.int .i64 1))) (aA rfl) rfl rfl) ?_
    refine aF ?_
    have h := Option.some.inj h
    subst h
    refine cP (cD (cJ (l := [6, 7]) ⟨rfl, rfl, trivial⟩)) ?_
    exact bT ⟨rfl, _, .two _ _, rfl, rfl⟩
   ·have h := aO c12 h
    refine bK ?_
    refine aG ?_
    refine aE ?_
    refine tr1 rfl (aC (v := .bp b6 0 0) (aA rfl) rfl rfl) ?_
    refine tr1 rfl (aC (v := .d (.lit (.int .i64 player_1))) (aA rfl) rfl rfl) ?_
    refine tr1 rfl (aW (aA rfl) rfl (i := 3) rfl rfl bI) ?_
    obtain ⟨r13, h14, h⟩ := bind_some h
    refine tr1 rfl (cF (aA rfl) (.func _ _ Try.call55) rfl rfl (.cons ((mH 0 rfl rfl (dvc (.same _) (dvc (.same _) (dvc (iE 1 rfl (dD (f := aB) fun _ => rfl)) (dvc (.same _) (dvc (.same _) dvn))))))) (.cons (.same _) (.cons (.same _) .nil))) (oQ _ _ _ h14) rfl) ?_
    refine tr1 rfl (aI (v := .d (.lit (.int .i64 r13))) (aA rfl) rfl rfl) ?_
    refine aF ?_
    refine aG ?_
    refine aE ?_
    refine tr1 rfl (aC (v := .bp b6 0 0) (aA rfl) rfl rfl) ?_
    refine tr1 rfl (aC (v := .bp b6 0 0) (aA rfl) rfl rfl) ?_
    refine tr1 rfl (kR (aA rfl) rfl) ?_
    refine tr1 rfl (aU (aA rfl) rfl iV) ?_
    refine tr1 rfl (aU (aA rfl) rfl fU) ?_
    refine tr1 rfl (aW (aA rfl) rfl (i := 0) rfl rfl kF) ?_
    refine tr1 rfl (xG (aA rfl) rfl rfl) ?_
    apply aAf [.box b6 0 [.lit (.int .i64 y5.Ledger.Players), .lit (.int .i64 y5.Ledger.Counts), .lit w7, .sl 3 (y5.Ledger.Bans.map aK), .sl 3 (y5.Ledger.Frozen.map aK)], .arr w7 42 5 (y5.Ledger.Reports.map aB), .box b1 0 (aZ l_0)] [.box b2 0 [.lit (.int .i64 week_2)]] rfl
    exact fV (k := 33) (v := .fn 57 [.cp [.lit (.int .i64 week_2)]]) ((aBj (.cons ((mH 0 rfl rfl (dvc (.same _) dvn))) .nil))) (fV (k := 5) (v := .cp [.lit (.int .i64 week_2)]) ((mH 0 rfl rfl (dvc (.same _) dvn))) (qE _ _))
    obtain ⟨r16, h17, h⟩ := bind_some h
    refine fJ (aV [1, 0, 2] rfl rfl (le_refl _)) ?_
    refine cA rfl (dQ (passed := [.arr w7 42 5 (y5.Ledger.Reports.map aB)]) (aA rfl) rfl (.func _ _ Try.call56) rfl rfl (rH y5.Ledger.Reports (fun y15 => oY y15 week_2) 57 [.cp [.lit (.int .i64 week_2)]] Try.call57 (fun _ _ h => yV _ _ h) h17)) ?_
    rintro _ ⟨_, _, ⟨v18, rfl, rfl⟩, rfl⟩
    refine tr1 rfl (kR (aA rfl) rfl) ?_
    refine tr1 rfl (aU (aA rfl) rfl iV) ?_
    refine tr1 rfl (aU (aA rfl) rfl fU) ?_
    refine tr1 rfl (cO (i := 1) rfl rfl rfl rfl rfl Try.sizeOf22 rfl (aA rfl) (Nat.le_of_ble_eq_true rfl) (ds' := [.lit (.int .i64 y5.Ledger.Players), .lit (.int .i64 y5.Ledger.Counts), .lit v18, .sl 3 (y5.Ledger.Bans.map aK), .sl 3 (y5.Ledger.Frozen.map aK)]) rfl) ?_
    refine aF ?_
    refine aG ?_
    refine aE ?_
    refine tr1 rfl (aC (v := .d (.lit (.int .i64 r13))) (aA rfl) rfl rfl) ?_
    refine tr1 rfl (aC (v := .bp b6 0 0) (aA rfl) rfl rfl) ?_
    refine tr1 rfl (aC (v := .d (.lit (.int .i64 player_1))) (aA rfl) rfl rfl) ?_
    refine tr1 rfl (bP (aA rfl) rfl bI) ?_
    refine tr1 rfl (aY (aA rfl) rfl rfl rfl) ?_
    obtain ⟨r19, h20, h⟩ := bind_some h
    refine tr1 rfl (cF (aA rfl) (.func _ _ Try.call55) rfl rfl (.cons ((mH 1 rfl rfl (dvc (.same _) (dvc (.same _) (dvc (iE 0 rfl (dD (f := aB) fun _ => rfl)) (dvc (.same _) (dvc (.same _) dvn))))))) (.cons (.same _) (.cons (.same _) .nil))) (oQ _ _ _ h20) rfl) ?_
    refine tr1 rfl (aY (aA rfl) rfl rfl rfl) ?_
    refine tr1 rfl (aI (v := .d (.lit (.int .i64 ((w64 (r13 - r19)))))) (aA rfl) rfl rfl) ?_
    refine tr1 rfl (aI (v := .d (.lit (.int .i64 0))) (aA rfl) rfl rfl) ?_
    refine aF ?_
    have h := Option.some.inj h
    subst h
    refine cP (cD (cJ (l := [6, 7]) ⟨rfl, rfl, trivial⟩)) ?_
    exact bT ⟨rfl, _, .two _ _, rfl, rfl⟩

theorem uV (a_0 : List Int) (b_1 : List Int) {r : Bool} (h : nX a_0 b_1 = some r) : Fn Try.prog 32 [.d (.sl 1 (a_0.map cE)), .d (.sl 1 (b_1.map cE))] (.d (.lit (.bool r))) := by
 unfold nX at h
 refine Fn.of_tr Try.func32 rfl (rs := [.tmp 4]) Try.results32 Try.ntmps32 (Nat.le_of_ble_eq_true rfl) ?_
 refine aG ?_
 refine aE ?_
 refine tr1 rfl (aI (v := .d (.lit (.bool false))) (aA rfl) rfl rfl) ?_
 refine aF ?_
 refine aG ?_
 refine aG ?_
 refine aE ?_
 refine tr1 rfl (aC (v := .d (.sl 1 (a_0.map cE))) (aA rfl) rfl rfl) ?_
 refine tr1 rfl (dR (aA rfl) rfl eP.of) ?_
 refine tr1 rfl (aC (v := .d (.sl 1 (b_1.map cE))) (aA rfl) rfl rfl) ?_
 refine tr1 rfl (dR (aA rfl) rfl eP.of) ?_
 refine tr1 rfl (bB (aA rfl) rfl rfl rfl) ?_
 refine aF ?_
 refine bN rfl (fun c1 => ?_) (fun c1 => ?_)
 ·have h := aP c1 h
  refine aG ?_
  refine aE ?_
  refine tr1 rfl (aI (v := .d (.lit (.bool false))) (aA rfl) rfl rfl) ?_
  refine aF ?_
  have h := Option.some.inj h
  subst h
  exact bT ⟨rfl, _, .one _, rfl, rfl⟩
 ·have h := aO c1 h
  refine bK ?_
  refine aG ?_
  refine aG ?_
  refine aE ?_
  refine tr1 rfl (aI (v := .d (.lit (.int .i64 0))) (aA rfl) rfl rfl) ?_
  refine aF ?_
  refine bZ ?_
  refine cM [0, 1] (fun (s2 : Int) => [(5, .d (.lit (.int .i64 s2)))]) (fun (s2 : Int) => []) (fun (k : Nat) (s2 : Int) => kQ a_0 b_1 k s2) (fun _ => rfl) (0) h (aV [] rfl rfl (aM rfl (aX ⟨rfl, rfl, trivial⟩))) ?_
  rintro k3 i_0_2 h
  simp only [kQ] at h
  refine aG ?_
  refine aG ?_
  refine aE ?_
  refine tr1 rfl (aC (v := .d (.lit (.int .i64 i_0_2))) (aA rfl) rfl rfl) ?_
  refine tr1 rfl (aC (v := .d (.sl 1 (a_0.map cE))) (aA rfl) rfl rfl) ?_
  refine tr1 rfl (dR (aA rfl) rfl eP.of) ?_
  refine tr1 rfl (bB (aA rfl) rfl rfl rfl) ?_
  refine aF ?_
  refine bN rfl (fun c4 => ?_) (fun c4 => ?_)
  ·have h := aP c4 h
   refine bK ?_
   refine aG ?_
   refine bZ ?_
   refine aG ?_
   obtain ⟨x5, h6, h⟩ := bind_some h
   obtain ⟨x7, h8, h⟩ := bind_some h
   refine gA mix 8 [0, 1, 5] [(20, .d (.lit (.int .i64 x5))), (24, .d (.lit (.int .i64 x7)))] ?_ ?_
   ·refine ⟨[(17, 0, .d (.sl 1 (a_0.map cE))), (18, 1, .d (.lit (.int .i64 i_0_2))), (19, 2, .cp [.lit (.int .i64 x5)]), (20, 3, .d (.lit (.int .i64 x5))), (21, 4, .d (.sl 1 (b_1.map cE))), (22, 5, .d (.lit (.int .i64 i_0_2))), (23, 6, .cp [.lit (.int .i64 x7)]), (24, 7, .d (.lit (.int .i64 x7)))], ?_, ?_⟩
    · exact ⟨by kernel_rfl, by kernel_rfl, by kernel_rfl, by kernel_rfl, by kernel_rfl, [([], []), ([], []), ([0, 1], []), ([2], []), ([], []), ([], []), ([4, 5], []), ([6], [])], by kernel_rfl, ⟨fun S hS => aJ rfl (aQ rfl (aC (v := .d (.sl 1 (a_0.map cE))) (aA rfl) (aH hS rfl) rfl)),
      fun S hS => aJ rfl (aQ rfl (aC (v := .d (.lit (.int .i64 i_0_2))) (aA rfl) (aH hS rfl) rfl)),
      fun S hS => aJ rfl (aQ rfl (bJ (aA rfl) (aH hS rfl) (aH hS rfl) eP.of (bF cE h6))),
      fun S hS => aJ rfl (aQ rfl (bP (aA rfl) (aH hS rfl) bI)),
      fun S hS => aJ rfl (aQ rfl (aC (v := .d (.sl 1 (b_1.map cE))) (aA rfl) (aH hS rfl) rfl)),
      fun S hS => aJ rfl (aQ rfl (aC (v := .d (.lit (.int .i64 i_0_2))) (aA rfl) (aH hS rfl) rfl)),
      fun S hS => aJ rfl (aQ rfl (bJ (aA rfl) (aH hS rfl) (aH hS rfl) eP.of (bF cE h8))),
      fun S hS => aJ rfl (aQ rfl (bP (aA rfl) (aH hS rfl) bI)), trivial⟩⟩
    · exact eC (aM rfl (aM rfl (aX ⟨rfl, rfl, rfl, trivial⟩)))
   ·refine tr1 rfl (bB (aA rfl) rfl rfl rfl) ?_
    refine aF ?_
    refine bN rfl (fun c9 => ?_) (fun c9 => ?_)
    ·have h := aP c9 h
     refine aG ?_
     refine aE ?_
     refine tr1 rfl (aI (v := .d (.lit (.bool false))) (aA rfl) rfl rfl) ?_
     refine aF ?_
     have h := Option.some.inj h
     subst h
     exact bT ⟨rfl, _, .one _, rfl, rfl⟩
    ·have h := aO c9 h
     refine dK ?_
     refine aE ?_
     refine tr1 rfl (aC (v := .d (.lit (.int .i64 i_0_2))) (aA rfl) rfl rfl) ?_
     refine tr1 rfl (aY (aA rfl) rfl rfl rfl) ?_
     refine tr1 rfl (aI (v := .d (.lit (.int .i64 ((w64 (i_0_2 + 1)))))) (aA rfl) rfl rfl) ?_
     refine aF ?_
     exact ⟨(w64 (i_0_2 + 1)), h, aV [] rfl rfl (aM rfl (aX ⟨rfl, rfl, trivial⟩))⟩
  ·have h := aO c4 h
   refine cT ?_
   refine .inl ⟨rfl, ?_⟩
   simp only [pO] at h
   refine aG ?_
   refine aE ?_
   refine tr1 rfl (aI (v := .d (.lit (.bool true))) (aA rfl) rfl rfl) ?_
   refine aF ?_
   have h := Option.some.inj h
   subst h
   exact bT ⟨rfl, _, .one _, rfl, rfl⟩

theorem sF {r : Bool} (h : lU = some r) : Fn Try.prog 16 [] (.d (.lit (.bool r))) := by
 unfold lU at h
 refine Fn.of_tr Try.func16 rfl (rs := [.tmp 0]) Try.results16 Try.ntmps16 (Nat.le_of_ble_eq_true rfl) ?_
 refine aG ?_
 refine aE ?_
 refine tr1 rfl (aI (v := .d (.lit (.bool false))) (aA rfl) rfl rfl) ?_
 refine aF ?_
 refine aG ?_
 refine aE ?_
 obtain ⟨r1, h2, h⟩ := bind_some h
 refine tr1 rfl (lD (aA rfl) (.func _ _ Try.call43) rfl rfl (vM h2)) ?_
 refine cA rfl (gR (zs := [.lit (.int .i64 0), .lit (.int .i64 0), .sl 5 ((([] : List aD)).map aB), .sl 3 ((([] : List bD)).map aK), .sl 3 ((([] : List bD)).map aK)]) (aA rfl) Try.zeroValue25 rfl rfl) ?_
 rintro _ ⟨b3, rfl⟩
 refine tr1 rfl (cO (i := 0) rfl rfl rfl rfl rfl Try.sizeOf25 rfl (aA rfl) (Nat.le_of_ble_eq_true rfl) (ds' := (aZ r1)) rfl) ?_
 refine aF ?_
 refine aG ?_
 refine aE ?_
 refine tr1 rfl (dF (aA rfl) rfl (i := 0) rfl hB (es := (aZ r1)) rfl rfl) ?_
 obtain ⟨r4, h5, h⟩ := bind_some h
 refine tr1 rfl (lD (aA rfl) (.func _ _ Try.call27) rfl rfl (aCz _ _ h5)) ?_
 refine tr1 rfl (aC (v := .tup [.d (.sl 1 (r4.1.map cE)), .d (.lit (.int .i64 r4.2))]) (aA rfl) rfl rfl) ?_
 refine tr1 rfl (cW (aA rfl) rfl rfl) ?_
 refine tr1 rfl (cW (aA rfl) rfl rfl) ?_
 refine tr1 rfl (aI (v := .d (.sl 1 (r4.1.map cE))) (aA rfl) rfl rfl) ?_
 refine tr1 rfl (aI (v := .d (.lit (.int .i64 r4.2))) (aA rfl) rfl rfl) ?_
 refine aF ?_
 refine aG ?_
 refine aE ?_
 refine tr1 rfl (dF (aA rfl) rfl (i := 0) rfl hB (es := (aZ r1)) rfl rfl) ?_
 refine tr1 rfl (jL (aA rfl) eP rfl rfl (rows := ([300]).map cE) rfl (dD (f := cE) fun _ => rfl) rfl (by decide)) ?_
 obtain ⟨r6, h7, h⟩ := bind_some h
 refine tr1 rfl (cF (aA rfl) (.func _ _ Try.call17) rfl rfl (BVs.refl _ _) (aCi _ _ _ _ h7) rfl) ?_
 refine tr1 rfl (aC (v := .tup [.d (.lit (.int .i64 r6.1)), .d (.lit (.int .i64 r6.2.1)), .d (.lit (.int .i64 r6.2.2))]) (aA rfl) rfl rfl) ?_
 refine tr1 rfl (cW (aA rfl) rfl rfl) ?_
 refine tr1 rfl (cW (aA rfl) rfl rfl) ?_
 refine tr1 rfl (cW (aA rfl) rfl rfl) ?_
 refine tr1 rfl (aI (v := .d (.lit (.int .i64 r6.1))) (aA rfl) rfl rfl) ?_
 refine tr1 rfl (aI (v := .d (.lit (.int .i64 r6.2.1))) (aA rfl) rfl rfl) ?_
 refine tr1 rfl (aI (v := .d (.lit (.int .i64 r6.2.2))) (aA rfl) rfl rfl) ?_
 refine aF ?_
 refine aG ?_
 refine aE ?_
 refine tr1 rfl (dF (aA rfl) rfl (i := 0) rfl hB (es := (aZ r1)) rfl rfl) ?_
 obtain ⟨r8, h9, h⟩ := bind_some h
 refine tr1 rfl (cF (aA rfl) (.func _ _ Try.call21) rfl rfl (BVs.refl _ _) (aAc _ _ _ h9) rfl) ?_
 refine tr1 rfl (aC (v := .tup [.d (.lit (.int .i64 r8.1)), .d (.lit (.int .i64 r8.2))]) (aA rfl) rfl rfl) ?_
 refine tr1 rfl (cW (aA rfl) rfl rfl) ?_
 refine tr1 rfl (cW (aA rfl) rfl rfl) ?_
 refine tr1 rfl (aI (v := .d (.lit (.int .i64 r8.1))) (aA rfl) rfl rfl) ?_
 refine tr1 rfl (aI (v := .d (.lit (.int .i64 r8.2))) (aA rfl) rfl rfl) ?_
 refine aF ?_
 refine aG ?_
 refine aE ?_
 refine tr1 rfl (aC (v := .d (.lit (.int .i64 r4.2))) (aA rfl) rfl rfl) ?_
 refine tr1 rfl (bB (aA rfl) rfl rfl rfl) ?_
 refine tr1 rfl (aC (v := .d (.lit (.bool ((decide (r4.2 = 0)))))) (aA rfl) rfl rfl) ?_
 obtain ⟨b10, h11, h⟩ := bind_some h
 refine bR 3 [2, 4, 5, 7, 8] 32 b10 ?_ ?_
 ·refine bA (decide (r4.2 = 0)) (fun c29 => ?_) (fun c29 => ?_)
  ·have h11 := aP c29 h11
   refine aL rfl rfl (aA rfl) rfl c29 (aC (v := .d (.lit (.int .i64 r6.2.2))) (aA rfl) rfl rfl) ?_
   refine aL rfl rfl (aA rfl) rfl c29 (bB (aA rfl) rfl rfl rfl) ?_
   refine tr1 rfl (bH (v := .d (.lit (.bool ((decide (r6.2.2 = 0)))))) (aA rfl) rfl c29 rfl rfl) ?_
   have h11 := Option.some.inj h11
   subst h11
   refine aF (aT rfl ⟨rfl, rfl, rfl, rfl, rfl, trivial⟩ rfl)
  ·have h11 := aO c29 h11
   refine aN rfl rfl (aA rfl) rfl (aA rfl) rfl c29 ?_
   refine aN rfl rfl (aA rfl) rfl (aA rfl) rfl c29 ?_
   refine tr1 rfl (bG (v := .d (.lit (.bool false))) (aA rfl) rfl c29 rfl rfl) ?_
   have h11 := Option.some.inj h11
   subst h11
   refine aF (aT rfl ⟨rfl, rfl, rfl, rfl, rfl, trivial⟩ rfl)
 ·refine tr1 rfl (aC (v := .d (.lit (.bool b10))) (aA rfl) rfl rfl) ?_
  obtain ⟨b12, h13, h⟩ := bind_some h
  refine bR 3 [2, 4, 5, 7] 36 b12 ?_ ?_
  ·refine bA (b10) (fun c28 => ?_) (fun c28 => ?_)
   ·have h13 := aP c28 h13
    refine aL rfl rfl (aA rfl) rfl c28 (aC (v := .d (.lit (.int .i64 r8.2))) (aA rfl) rfl rfl) ?_
    refine aL rfl rfl (aA rfl) rfl c28 (bB (aA rfl) rfl rfl rfl) ?_
    refine tr1 rfl (bH (v := .d (.lit (.bool ((decide (r8.2 = 0)))))) (aA rfl) rfl c28 rfl rfl) ?_
    have h13 := Option.some.inj h13
    subst h13
    refine aF (aT rfl ⟨rfl, rfl, rfl, rfl, trivial⟩ rfl)
   ·have h13 := aO c28 h13
    refine aN rfl rfl (aA rfl) rfl (aA rfl) rfl c28 ?_
    refine aN rfl rfl (aA rfl) rfl (aA rfl) rfl c28 ?_
    refine tr1 rfl (bG (v := .d (.lit (.bool false))) (aA rfl) rfl c28 rfl rfl) ?_
    have h13 := Option.some.inj h13
    subst h13
    refine aF (aT rfl ⟨rfl, rfl, rfl, rfl, trivial⟩ rfl)
  ·refine tr1 rfl (aC (v := .d (.lit (.bool b12))) (aA rfl) rfl rfl) ?_
   obtain ⟨b14, h15, h⟩ := bind_some h
   refine bR 4 [4, 5, 7] 41 b14 ?_ ?_
   ·refine bA (b12) (fun c25 => ?_) (fun c25 => ?_)
    ·have h15 := aP c25 h15
     refine aL rfl rfl (aA rfl) rfl c25 (aC (v := .d (.sl 1 (r4.1.map cE))) (aA rfl) rfl rfl) ?_
     refine aL rfl rfl (aA rfl) rfl c25 (jL (aA rfl) eP rfl rfl (rows := ([0, 2, 1]).map cE) rfl (dD (f := cE) fun _ => rfl) rfl (by decide)) ?_
     obtain ⟨r26, h27, h15⟩ := bind_some h15
     refine aL rfl rfl (aA rfl) rfl c25 (cF (aA rfl) (.func _ _ Try.call32) rfl rfl (BVs.refl _ _) (uV _ _ h27) rfl) ?_
     refine tr1 rfl (bH (v := .d (.lit (.bool r26))) (aA rfl) rfl c25 rfl rfl) ?_
     have h15 := Option.some.inj h15
     subst h15
     refine aF (aT rfl ⟨rfl, rfl, rfl, trivial⟩ rfl)
    ·have h15 := aO c25 h15
     refine aN rfl rfl (aA rfl) rfl (aA rfl) rfl c25 ?_
     refine aN rfl rfl (aA rfl) rfl (aA rfl) rfl c25 ?_
     refine aN rfl rfl (aA rfl) rfl (aA rfl) rfl c25 ?_
     refine tr1 rfl (bG (v := .d (.lit (.bool false))) (aA rfl) rfl c25 rfl rfl) ?_
     have h15 := Option.some.inj h15
     subst h15
     refine aF (aT rfl ⟨rfl, rfl, rfl, trivial⟩ rfl)
   ·refine tr1 rfl (aC (v := .d (.lit (.bool b14))) (aA rfl) rfl rfl) ?_
    obtain ⟨b16, h17, h⟩ := bind_some h
    refine bR 3 [5, 7] 45 b16 ?_ ?_
    ·refine bA (b14) (fun c24 => ?_) (fun c24 => ?_)
     ·have h17 := aP c24 h17
      refine aL rfl rfl (aA rfl) rfl c24 (aC (v := .d (.lit (.int .i64 r6.1))) (aA rfl) rfl rfl) ?_
      refine aL rfl rfl (aA rfl) rfl c24 (bB (aA rfl) rfl rfl rfl) ?_
      refine tr1 rfl (bH (v := .d (.lit (.bool ((decide (r6.1 = 1)))))) (aA rfl) rfl c24 rfl rfl) ?_
      have h17 := Option.some.inj h17
      subst h17
      refine aF (aT rfl ⟨rfl, rfl, trivial⟩ rfl)
     ·have h17 := aO c24 h17
      refine aN rfl rfl (aA rfl) rfl (aA rfl) rfl c24 ?_
      refine aN rfl rfl (aA rfl) rfl (aA rfl) rfl c24 ?_
      refine tr1 rfl (bG (v := .d (.lit (.bool false))) (aA rfl) rfl c24 rfl rfl) ?_
      have h17 := Option.some.inj h17
      subst h17
      refine aF (aT rfl ⟨rfl, rfl, trivial⟩ rfl)
    ·refine tr1 rfl (aC (v := .d (.lit (.bool b16))) (aA rfl) rfl rfl) ?_
     obtain ⟨b18, h19, h⟩ := bind_some h
     refine bR 3 [7] 49 b18 ?_ ?_
     ·refine bA (b16) (fun c23 => ?_) (fun c23 => ?_)
      ·have h19 := aP c23 h19
       refine aL rfl rfl (aA rfl) rfl c23 (aC (v := .d (.lit (.int .i64 r6.2.1))) (aA rfl) rfl rfl) ?_
       refine aL rfl rfl (aA rfl) rfl c23 (bB (aA rfl) rfl rfl rfl) ?_
       refine tr1 rfl (bH (v := .d (.lit (.bool ((decide (r6.2.1 = 3)))))) (aA rfl) rfl c23 rfl rfl) ?_
       have h19 := Option.some.inj h19
       subst h19
       refine aF (aT rfl ⟨rfl, trivial⟩ rfl)
      ·have h19 := aO c23 h19
       refine aN rfl rfl (aA rfl) rfl (aA rfl) rfl c23 ?_
       refine aN rfl rfl (aA rfl) rfl (aA rfl) rfl c23 ?_
       refine tr1 rfl (bG (v := .d (.lit (.bool false))) (aA rfl) rfl c23 rfl rfl) ?_
       have h19 := Option.some.inj h19
       subst h19
       refine aF (aT rfl ⟨rfl, trivial⟩ rfl)
     ·refine tr1 rfl (aC (v := .d (.lit (.bool b18))) (aA rfl) rfl rfl) ?_
      obtain ⟨b20, h21, h⟩ := bind_some h
      refine bR 3 [] 53 b20 ?_ ?_
      ·refine bA (b18) (fun c22 => ?_) (fun c22 => ?_)
       ·have h21 := aP c22 h21
        refine aL rfl rfl (aA rfl) rfl c22 (aC (v := .d (.lit (.int .i64 r8.1))) (aA rfl) rfl rfl) ?_
        refine aL rfl rfl (aA rfl) rfl c22 (bB (aA rfl) rfl rfl rfl) ?_
        refine tr1 rfl (bH (v := .d (.lit (.bool ((decide (r8.1 = 200)))))) (aA rfl) rfl c22 rfl rfl) ?_
        have h21 := Option.some.inj h21
        subst h21
        refine aF (aT rfl trivial rfl)
       ·have h21 := aO c22 h21
        refine aN rfl rfl (aA rfl) rfl (aA rfl) rfl c22 ?_
        refine aN rfl rfl (aA rfl) rfl (aA rfl) rfl c22 ?_
        refine tr1 rfl (bG (v := .d (.lit (.bool false))) (aA rfl) rfl c22 rfl rfl) ?_
        have h21 := Option.some.inj h21
        subst h21
        refine aF (aT rfl trivial rfl)
      ·refine tr1 rfl (aI (v := .d (.lit (.bool b20))) (aA rfl) rfl rfl) ?_
       refine aF ?_
       have h := Option.some.inj h
       subst h
       refine cP (cD (cJ (l := [0]) ⟨rfl, trivial⟩)) ?_
       exact bT ⟨rfl, _, .one _, rfl, rfl⟩

theorem sU (l_0 : List bD) (player_1 : Int) (week_2 : Int) {r : Bool} (h : jB l_0 player_1 week_2 = some r) : Fn Try.prog 25 [.d (.sl 3 (l_0.map aK)), .d (.lit (.int .i64 player_1)), .d (.lit (.int .i64 week_2))] (.d (.lit (.bool r))) := by
 unfold jB at h
 refine Fn.of_tr Try.func25 rfl (rs := [.tmp 6]) Try.results25 Try.ntmps25 (Nat.le_of_ble_eq_true rfl) ?_
 refine aG ?_
 refine aE ?_
 refine tr1 rfl (aI (v := .d (.lit (.bool false))) (aA rfl) rfl rfl) ?_
 refine aF ?_
 refine aG ?_
 refine aG ?_
 refine aE ?_
 refine tr1 rfl (aI (v := .d (.lit (.int .i64 0))) (aA rfl) rfl rfl) ?_
 refine aF ?_
 refine bZ ?_
 refine cM [0, 1, 2] (fun (s1 : Int) => [(7, .d (.lit (.int .i64 s1)))]) (fun (s1 : Int) => []) (fun (k : Nat) (s1 : Int) => iC l_0 player_1 week_2 k s1) (fun _ => rfl) (0) h (aV [] rfl rfl (aM rfl (aX ⟨rfl, rfl, rfl, trivial⟩))) ?_
 rintro k2 i_0_1 h
 simp only [iC] at h
 refine aG ?_
 refine aG ?_
 refine aE ?_
 refine tr1 rfl (aC (v := .d (.lit (.int .i64 i_0_1))) (aA rfl) rfl rfl) ?_
 refine tr1 rfl (aC (v := .d (.sl 3 (l_0.map aK))) (aA rfl) rfl rfl) ?_
 refine tr1 rfl (dR (aA rfl) rfl gC.of) ?_
 refine tr1 rfl (bB (aA rfl) rfl rfl rfl) ?_
 refine aF ?_
 refine bN rfl (fun c3 => ?_) (fun c3 => ?_)
 ·have h := aP c3 h
  refine bK ?_
  refine aG ?_
  refine bZ ?_
  refine aG ?_
  obtain ⟨x4, h5, h⟩ := bind_some h
  obtain ⟨b6, h7, h⟩ := bind_some h
  refine gA mix 21 [0, 1, 2, 7] [(34, .d (.lit (.bool b6)))] ?_ ?_
  ·refine bA (decide (x4.Player = player_1)) (fun c8 => ?_) (fun c8 => ?_)
   ·have h7 := aP c8 h7
    obtain ⟨x9, h10, h7⟩ := bind_some h7
    obtain ⟨x11, h12, h7⟩ := bind_some h7
    obtain ⟨r13, h14, h7⟩ := bind_some h7
    have h7 := Option.some.inj h7
    subst h7
    refine ⟨[(14, 0, .d (.sl 3 (l_0.map aK))), (15, 1, .d (.lit (.int .i64 i_0_1))), (16, 2, .cp [.lit (.int .i64 x4.Player), .lit (.int .i64 x4.From), .lit (.int .i64 x4.To)]), (17, 3, .cp [.lit (.int .i64 x4.Player)]), (18, 4, .d (.lit (.int .i64 x4.Player))), (19, 5, .d (.lit (.int .i64 player_1))), (20, 6, .d (.lit (.bool ((decide (x4.Player = player_1)))))), (21, 7, .d (.lit (.bool ((decide (x4.Player = player_1)))))), (22, 8, .d (.lit (.int .i64 week_2))), (23, 9, .d (.sl 3 (l_0.map aK))), (24, 10, .d (.lit (.int .i64 i_0_1))), (25, 11, .cp [.lit (.int .i64 x9.Player), .lit (.int .i64 x9.From), .lit (.int .i64 x9.To)]), (26, 12, .cp [.lit (.int .i64 x9.From)]), (27, 13, .d (.lit (.int .i64 x9.From))), (28, 14, .d (.sl 3 (l_0.map aK))), (29, 15, .d (.lit (.int .i64 i_0_1))), (30, 16, .cp [.lit (.int .i64 x11.Player), .lit (.int .i64 x11.From), .lit (.int .i64 x11.To)]), (31, 17, .cp [.lit (.int .i64 x11.To)]), (32, 18, .d (.lit (.int .i64 x11.To))), (33, 19, .d (.lit (.bool r13))), (34, 20, .d (.lit (.bool r13)))], ?_, ?_⟩
    · exact ⟨by kernel_rfl, by kernel_rfl, by kernel_rfl, by kernel_rfl, by kernel_rfl, [([], []), ([], []), ([0, 1], []), ([2], []), ([3], []), ([], []), ([4, 5], []), ([6], []), ([7], []), ([7], []), ([7], []), ([7, 9, 10], []), ([7, 11], []), ([7, 12], []), ([7], []), ([7], []), ([7, 14, 15], []), ([7, 16], []), ([7, 17], []), ([7, 8, 13, 18], []), ([7, 19], [])], by kernel_rfl, ⟨fun S hS => aJ rfl (aQ rfl (aC (v := .d (.sl 3 (l_0.map aK))) (aA rfl) (aH hS rfl) rfl)),
      fun S hS => aJ rfl (aQ rfl (aC (v := .d (.lit (.int .i64 i_0_1))) (aA rfl) (aH hS rfl) rfl)),
      fun S hS => aJ rfl (aQ rfl (bJ (aA rfl) (aH hS rfl) (aH hS rfl) gC.of (bF aK h5))),
      fun S hS => aJ rfl (aQ rfl (bO (aA rfl) (aH hS rfl) kK (es := [.lit (.int .i64 x4.Player)]) rfl)),
      fun S hS => aJ rfl (aQ rfl (bP (aA rfl) (aH hS rfl) bI)),
      fun S hS => aJ rfl (aQ rfl (aC (v := .d (.lit (.int .i64 player_1))) (aA rfl) (aH hS rfl) rfl)),
      fun S hS => aJ rfl (aQ rfl (bB (aA rfl) (aH hS rfl) (aH hS rfl) rfl)),
      fun S hS => aJ rfl (aQ rfl (aC (v := .d (.lit (.bool ((decide (x4.Player = player_1)))))) (aA rfl) (aH hS rfl) rfl)),
      fun S hS => aJ rfl (bL rfl rfl (aA rfl) (aS hS rfl) c8 (aC (v := .d (.lit (.int .i64 week_2))) (aA rfl) (aH hS rfl) rfl)),
      fun S hS => aJ rfl (bL rfl rfl (aA rfl) (aS hS rfl) c8 (aC (v := .d (.sl 3 (l_0.map aK))) (aA rfl) (aH hS rfl) rfl)),
      fun S hS => aJ rfl (bL rfl rfl (aA rfl) (aS hS rfl) c8 (aC (v := .d (.lit (.int .i64 i_0_1))) (aA rfl) (aH hS rfl) rfl)),
      fun S hS => aJ rfl (bL rfl rfl (aA rfl) (aS hS rfl) c8 (bJ (aA rfl) (aH hS rfl) (aH hS rfl) gC.of (bF aK h10))),
      fun S hS => aJ rfl (bL rfl rfl (aA rfl) (aS hS rfl) c8 (bO (aA rfl) (aH hS rfl) jQ (es := [.lit (.int .i64 x9.From)]) rfl)),
      fun S hS => aJ rfl (bL rfl rfl (aA rfl) (aS hS rfl) c8 (bP (aA rfl) (aH hS rfl) bI)),
      fun S hS => aJ rfl (bL rfl rfl (aA rfl) (aS hS rfl) c8 (aC (v := .d (.sl 3 (l_0.map aK))) (aA rfl) (aH hS rfl) rfl)),
      fun S hS => aJ rfl (bL rfl rfl (aA rfl) (aS hS rfl) c8 (aC (v := .d (.lit (.int .i64 i_0_1))) (aA rfl) (aH hS rfl) rfl)),
      fun S hS => aJ rfl (bL rfl rfl (aA rfl) (aS hS rfl) c8 (bJ (aA rfl) (aH hS rfl) (aH hS rfl) gC.of (bF aK h12))),
      fun S hS => aJ rfl (bL rfl rfl (aA rfl) (aS hS rfl) c8 (bO (aA rfl) (aH hS rfl) lG (es := [.lit (.int .i64 x11.To)]) rfl)),
      fun S hS => aJ rfl (bL rfl rfl (aA rfl) (aS hS rfl) c8 (bP (aA rfl) (aH hS rfl) bI)),
      fun S hS => aJ rfl (bL rfl rfl (aA rfl) (aS hS rfl) c8 (cF (aA rfl) (.func _ _ Try.call58) (ev2 (aH hS rfl) (ev2 (aH hS rfl) (ev2 (aH hS rfl) evn))) rfl (BVs.refl _ _) (eI _ _ _ h14) rfl)),
      fun S hS => aJ rfl (aQ rfl (bH (v := .d (.lit (.bool r13))) (aA rfl) (aH hS rfl) c8 (aH hS rfl) rfl)), trivial⟩⟩
    · exact eC (aM rfl (aX ⟨rfl, rfl, rfl, rfl, trivial⟩))
   ·have h7 := aO c8 h7
    have h7 := Option.some.inj h7
    subst h7
    refine ⟨[(14, 0, .d (.sl 3 (l_0.map aK))), (15, 1, .d (.lit (.int .i64 i_0_1))), (16, 2, .cp [.lit (.int .i64 x4.Player), .lit (.int .i64 x4.From), .lit (.int .i64 x4.To)]), (17, 3, .cp [.lit (.int .i64 x4.Player)]), (18, 4, .d (.lit (.int .i64 x4.Player))), (19, 5, .d (.lit (.int .i64 player_1))), (20, 6, .d (.lit (.bool ((decide (x4.Player = player_1)))))), (21, 7, .d (.lit (.bool ((decide (x4.Player = player_1)))))), (22, 8, .tup []), (23, 9, .tup []), (24, 10, .tup []), (25, 11, .tup []), (26, 12, .tup []), (27, 13, .tup []), (28, 14, .tup []), (29, 15, .tup []), (30, 16, .tup []), (31, 17, .tup []), (32, 18, .tup []), (33, 19, .tup []), (34, 20, .d (.lit (.bool false)))], ?_, ?_⟩
    · exact ⟨by kernel_rfl, by kernel_rfl, by kernel_rfl, by kernel_rfl, by kernel_rfl, [([], []), ([], []), ([0, 1], []), ([2], []), ([3], []), ([], []), ([4, 5], []), ([6], []), ([7], []), ([7], []), ([7], []), ([7, 9, 10], []), ([7, 11], []), ([7, 12], []), ([7], []), ([7], []), ([7, 14, 15], []), ([7, 16], []), ([7, 17], []), ([7, 8, 13, 18], []), ([7, 19], [])], by kernel_rfl, ⟨fun S hS => aJ rfl (aQ rfl (aC (v := .d (.sl 3 (l_0.map aK))) (aA rfl) (aH hS rfl) rfl)),
      fun S hS => aJ rfl (aQ rfl (aC (v := .d (.lit (.int .i64 i_0_1))) (aA rfl) (aH hS rfl) rfl)),
      fun S hS => aJ rfl (aQ rfl (bJ (aA rfl) (aH hS rfl) (aH hS rfl) gC.of (bF aK h5))),
      fun S hS => aJ rfl (aQ rfl (bO (aA rfl) (aH hS rfl) kK (es := [.lit (.int .i64 x4.Player)]) rfl)),
      fun S hS => aJ rfl (aQ rfl (bP (aA rfl) (aH hS rfl) bI)),
      fun S hS => aJ rfl (aQ rfl (aC (v := .d (.lit (.int .i64 player_1))) (aA rfl) (aH hS rfl) rfl)),
      fun S hS => aJ rfl (aQ rfl (bB (aA rfl) (aH hS rfl) (aH hS rfl) rfl)),
      fun S hS => aJ rfl (aQ rfl (aC (v := .d (.lit (.bool ((decide (x4.Player = player_1)))))) (aA rfl) (aH hS rfl) rfl)),
      fun S hS => aJ rfl (bE rfl rfl (aA rfl) rfl (aA rfl) (aS hS rfl) c8),
      fun S hS => aJ rfl (bE rfl rfl (aA rfl) rfl (aA rfl) (aS hS rfl) c8),
      fun S hS => aJ rfl (bE rfl rfl (aA rfl) rfl (aA rfl) (aS hS rfl) c8),
      fun S hS => aJ rfl (bE rfl rfl (aA rfl) rfl (aA rfl) (aS hS rfl) c8),
      fun S hS => aJ rfl (bE rfl rfl (aA rfl) rfl (aA rfl) (aS hS rfl) c8),
      fun S hS => aJ rfl (bE rfl rfl (aA rfl) rfl (aA rfl) (aS hS rfl) c8),
      fun S hS => aJ rfl (bE rfl rfl (aA rfl) rfl (aA rfl) (aS hS rfl) c8),
      fun S hS => aJ rfl (bE rfl rfl (aA rfl) rfl (aA rfl) (aS hS rfl) c8),
      fun S hS => aJ rfl (bE rfl rfl (aA rfl) rfl (aA rfl) (aS hS rfl) c8),
      fun S hS => aJ rfl (bE rfl rfl (aA rfl) rfl (aA rfl) (aS hS rfl) c8),
      fun S hS => aJ rfl (bE rfl rfl (aA rfl) rfl (aA rfl) (aS hS rfl) c8),
      fun S hS => aJ rfl (bE rfl rfl (aA rfl) rfl (aA rfl) (aS hS rfl) c8),
      fun S hS => aJ rfl (aQ rfl (bG (v := .d (.lit (.bool false))) (aA rfl) (aH hS rfl) c8 rfl rfl)), trivial⟩⟩
    · exact eC (aM rfl (aX ⟨rfl, rfl, rfl, rfl, trivial⟩))
  ·refine aF ?_
   refine bN rfl (fun c15 => ?_) (fun c15 => ?_)
   ·have h := aP c15 h
    refine aG ?_
    refine aE ?_
    refine tr1 rfl (aI (v := .d (.lit (.bool true))) (aA rfl) rfl rfl) ?_
    refine aF ?_
    have h := Option.some.inj h
    subst h
    exact bT ⟨rfl, _, .one _, rfl, rfl⟩
   ·have h := aO c15 h
    refine dK ?_
    refine aE ?_
    refine tr1 rfl (aC (v := .d (.lit (.int .i64 i_0_1))) (aA rfl) rfl rfl) ?_
    refine tr1 rfl (aY (aA rfl) rfl rfl rfl) ?_
    refine tr1 rfl (aI (v := .d (.lit (.int .i64 ((w64 (i_0_1 + 1)))))) (aA rfl) rfl rfl) ?_
    refine aF ?_
    exact ⟨(w64 (i_0_1 + 1)), h, aV [] rfl rfl (aM rfl (aX ⟨rfl, rfl, rfl, trivial⟩))⟩
 ·have h := aO c3 h
  refine cT ?_
  refine .inl ⟨rfl, ?_⟩
  simp only [oM] at h
  refine aG ?_
  refine aE ?_
  refine tr1 rfl (aI (v := .d (.lit (.bool false))) (aA rfl) rfl rfl) ?_
  refine aF ?_
  have h := Option.some.inj h
  subst h
  exact bT ⟨rfl, _, .one _, rfl, rfl⟩

theorem uX (l_0 : List aD) {r : (List aD)} (h : jC l_0 = some r) : Fn Try.prog 64 [.d (.sl 5 (l_0.map aB))] (.d (.sl 5 (r.map aB))) := by
 unfold jC at h
 refine Fn.of_tr Try.func64 rfl (rs := [.tmp 2]) Try.results64 Try.ntmps64 (Nat.le_of_ble_eq_true rfl) ?_
 refine aG ?_
 refine aE ?_
 refine tr1 rfl (pA 5 (aA rfl)) ?_
 refine aF ?_
 refine aG ?_
 refine aE ?_
 refine tr1 rfl (pA 5 (aA rfl)) ?_
 refine aF ?_
 refine aG ?_
 refine aG ?_
 refine aE ?_
 refine tr1 rfl (aI (v := .d (.lit (.int .i64 0))) (aA rfl) rfl rfl) ?_
 refine aF ?_
 refine bZ ?_
 refine cM [0] (fun (s1 : (List aD) × Int) => [(3, .d (.sl 5 (s1.1.map aB))), (4, .d (.lit (.int .i64 s1.2)))]) (fun (s1 : (List aD) × Int) => []) (fun (k : Nat) (s1 : (List aD) × Int) => eM l_0 k s1.1 s1.2) (fun _ => rfl) (([] : List aD), 0) h (aV [] rfl rfl (aM rfl (aM rfl (aX ⟨rfl, trivial⟩)))) ?_
 rintro k2 ⟨out_0_1, i_0_1⟩ h
 simp only [eM] at h
 refine aG ?_
 refine aG ?_
 refine aE ?_
 refine tr1 rfl (aC (v := .d (.lit (.int .i64 i_0_1))) (aA rfl) rfl rfl) ?_
 refine tr1 rfl (aC (v := .d (.sl 5 (l_0.map aB))) (aA rfl) rfl rfl) ?_
 refine tr1 rfl (dR (aA rfl) rfl bQ.of) ?_
 refine tr1 rfl (bB (aA rfl) rfl rfl rfl) ?_
 refine aF ?_
 refine bN rfl (fun c3 => ?_) (fun c3 => ?_)
 ·have h := aP c3 h
  refine bK ?_
  refine aG ?_
  refine bZ ?_
  refine aG ?_
  refine aE ?_
  refine tr1 rfl (aI (v := .d (.lit (.int .i64 0))) (aA rfl) rfl rfl) ?_
  refine tr1 rfl (aI (v := .d (.lit (.bool false))) (aA rfl) rfl rfl) ?_
  refine aF ?_
  refine aG ?_
  refine aG ?_
  refine aE ?_
  refine tr1 rfl (aI (v := .d (.lit (.int .i64 0))) (aA rfl) rfl rfl) ?_
  refine aF ?_
  refine bZ ?_
  refine cM [0, 3, 4] (fun (s4 : Int × Bool × Int) => [(5, .d (.lit (.int .i64 s4.1))), (6, .d (.lit (.bool s4.2.1))), (7, .d (.lit (.int .i64 s4.2.2)))]) (fun (s4 : Int × Bool × Int) => []) (fun (k : Nat) (s4 : Int × Bool × Int) => eN (eM l_0 k2) l_0 out_0_1 i_0_1 k s4.1 s4.2.1 s4.2.2) (fun _ => rfl) (0, false, 0) h (aV [] rfl rfl (aM rfl (aM rfl (aM rfl (aX ⟨rfl, rfl, rfl, trivial⟩))))) ?_
  rintro k5 ⟨atv_2_4, known_2_4, k_2_4⟩ h
  simp only [eN] at h
  refine aG ?_
  refine aG ?_
  refine aE ?_
  refine tr1 rfl (aC (v := .d (.lit (.int .i64 k_2_4))) (aA rfl) rfl rfl) ?_
  refine tr1 rfl (aC (v := .d (.sl 5 (out_0_1.map aB))) (aA rfl) rfl rfl) ?_
  refine tr1 rfl (dR (aA rfl) rfl bQ.of) ?_
  refine tr1 rfl (bB (aA rfl) rfl rfl rfl) ?_
  refine aF ?_
  refine bN rfl (fun c6 => ?_) (fun c6 => ?_)
  ·have h := aP c6 h
   refine bK ?_
   refine aG ?_
   refine bZ ?_
   refine aG ?_
   obtain ⟨b7, h8, h⟩ := bind_some h
   refine gA mix 12 [0, 3, 4, 5, 7] [(32, .d (.lit (.bool b7)))] ?_ ?_
   ·refine bA (known_2_4) (fun c9 => ?_) (fun c9 => ?_)
    ·have h8 := aP c9 h8
     have h8 := Option.some.inj h8
     subst h8
     refine ⟨[(21, 0, .d (.lit (.bool known_2_4))), (22, 1, .d (.lit (.bool known_2_4))), (23, 2, .tup []), (24, 3, .tup []), (25, 4, .tup []), (26, 5, .tup []), (27, 6, .tup []), (28, 7, .tup []), (29, 8, .tup []), (30, 9, .tup []), (31, 10, .tup []), (32, 11, .d (.lit (.bool true)))], ?_, ?_⟩
     · exact ⟨by kernel_rfl, by kernel_rfl, by kernel_rfl, by kernel_rfl, by kernel_rfl, [([], []), ([0], []), ([1], []), ([1], []), ([1, 2, 3], []), ([1, 4], []), ([1], []), ([1], []), ([1, 6, 7], []), ([1, 8], []), ([1, 5, 9], []), ([1, 10], [])], by kernel_rfl, ⟨fun S hS => aJ rfl (aQ rfl (aC (v := .d (.lit (.bool known_2_4))) (aA rfl) (aH hS rfl) rfl)),
      fun S hS => aJ rfl (aQ rfl (aC (v := .d (.lit (.bool known_2_4))) (aA rfl) (aH hS rfl) rfl)),
      fun S hS => aJ rfl (bE rfl rfl (aA rfl) rfl (aA rfl) (aS hS rfl) c9),
      fun S hS => aJ rfl (bE rfl rfl (aA rfl) rfl (aA rfl) (aS hS rfl) c9),
      fun S hS => aJ rfl (bE rfl rfl (aA rfl) rfl (aA rfl) (aS hS rfl) c9),
      fun S hS => aJ rfl (bE rfl rfl (aA rfl) rfl (aA rfl) (aS hS rfl) c9),
      fun S hS => aJ rfl (bE rfl rfl (aA rfl) rfl (aA rfl) (aS hS rfl) c9),
      fun S hS => aJ rfl (bE rfl rfl (aA rfl) rfl (aA rfl) (aS hS rfl) c9),
      fun S hS => aJ rfl (bE rfl rfl (aA rfl) rfl (aA rfl) (aS hS rfl) c9),
      fun S hS => aJ rfl (bE rfl rfl (aA rfl) rfl (aA rfl) (aS hS rfl) c9),
      fun S hS => aJ rfl (bE rfl rfl (aA rfl) rfl (aA rfl) (aS hS rfl) c9),
      fun S hS => aJ rfl (aQ rfl (bH (v := .d (.lit (.bool true))) (aA rfl) (aH hS rfl) c9 rfl rfl)), trivial⟩⟩
     · exact eC (aM rfl (aX ⟨rfl, rfl, rfl, rfl, rfl, trivial⟩))
    ·have h8 := aO c9 h8
     obtain ⟨x10, h11, h8⟩ := bind_some h8
     obtain ⟨x12, h13, h8⟩ := bind_some h8
     have h8 := Option.some.inj h8
     subst h8
     refine ⟨[(21, 0, .d (.lit (.bool known_2_4))), (22, 1, .d (.lit (.bool known_2_4))), (23, 2, .d (.sl 5 (out_0_1.map aB))), (24, 3, .d (.lit (.int .i64 k_2_4))), (25, 4, .cp [.lit (.int .i64 x10.Id), .lit (.int .i64 x10.Player), .lit (.int .i64 x10.Week), .lit (.int .i64 x10.Points), .lit (.bool x10.Must)]), (26, 5, .agg (aB x10)), (27, 6, .d (.sl 5 (l_0.map aB))), (28, 7, .d (.lit (.int .i64 i_0_1))), (29, 8, .cp [.lit (.int .i64 x12.Id), .lit (.int .i64 x12.Player), .lit (.int .i64 x12.Week), .lit (.int .i64 x12.Points), .lit (.bool x12.Must)]), (30, 9, .agg (aB x12)), (31, 10, .d (.lit (.bool ((decide (x10 = x12)))))), (32, 11, .d (.lit (.bool ((decide (x10 = x12))))))], ?_, ?_⟩
     · exact ⟨by kernel_rfl, by kernel_rfl, by kernel_rfl, by kernel_rfl, by kernel_rfl, [([], []), ([0], []), ([1], []), ([1], []), ([1, 2, 3], []), ([1, 4], []), ([1], []), ([1], []), ([1, 6, 7], []), ([1, 8], []), ([1, 5, 9], []), ([1, 10], [])], by kernel_rfl, ⟨fun S hS => aJ rfl (aQ rfl (aC (v := .d (.lit (.bool known_2_4))) (aA rfl) (aH hS rfl) rfl)),
      fun S hS => aJ rfl (aQ rfl (aC (v := .d (.lit (.bool known_2_4))) (aA rfl) (aH hS rfl) rfl)),
      fun S hS => aJ rfl (bL rfl rfl (aA rfl) (aS hS rfl) c9 (aC (v := .d (.sl 5 (out_0_1.map aB))) (aA rfl) (aH hS rfl) rfl)),
      fun S hS => aJ rfl (bL rfl rfl (aA rfl) (aS hS rfl) c9 (aC (v := .d (.lit (.int .i64 k_2_4))) (aA rfl) (aH hS rfl) rfl)),
      fun S hS => aJ rfl (bL rfl rfl (aA rfl) (aS hS rfl) c9 (bJ (aA rfl) (aH hS rfl) (aH hS rfl) bQ.of (bF aB h11))),
      fun S hS => aJ rfl (bL rfl rfl (aA rfl) (aS hS rfl) c9 (fN (aA rfl) (aH hS rfl) dW (es := (aB x10)) rfl rfl)),
      fun S hS => aJ rfl (bL rfl rfl (aA rfl) (aS hS rfl) c9 (aC (v := .d (.sl 5 (l_0.map aB))) (aA rfl) (aH hS rfl) rfl)),
      fun S hS => aJ rfl (bL rfl rfl (aA rfl) (aS hS rfl) c9 (aC (v := .d (.lit (.int .i64 i_0_1))) (aA rfl) (aH hS rfl) rfl)),
      fun S hS => aJ rfl (bL rfl rfl (aA rfl) (aS hS rfl) c9 (bJ (aA rfl) (aH hS rfl) (aH hS rfl) bQ.of (bF aB h13))),
      fun S hS => aJ rfl (bL rfl rfl (aA rfl) (aS hS rfl) c9 (fN (aA rfl) (aH hS rfl) dW (es := (aB x12)) rfl rfl)),
      fun S hS => aJ rfl (bL rfl rfl (aA rfl) (aS hS rfl) c9 (aGk (a := x10) (b := x12) (aA rfl) (aH hS rfl) (aH hS rfl) rfl rfl Try.eqGuardType42 zC)),
      fun S hS => aJ rfl (aQ rfl (bG (v := .d (.lit (.bool ((decide (x10 = x12)))))) (aA rfl) (aH hS rfl) c9 (aH hS rfl) rfl)), trivial⟩⟩
     · exact eC (aM rfl (aX ⟨rfl, rfl, rfl, rfl, rfl, trivial⟩))
   ·refine tr1 rfl (aI (v := .d (.lit (.bool b7))) (aA rfl) rfl rfl) ?_
    refine aF ?_
    refine aG ?_
    obtain ⟨x14, h15, h⟩ := bind_some h
    obtain ⟨x16, h17, h⟩ := bind_some h
    refine gA mix 10 [0, 3, 4, 5, 6, 7] [(37, .d (.lit (.int .i64 x14.Id))), (42, .d (.lit (.int .i64 x16.Id)))] ?_ ?_
    ·refine ⟨[(33, 0, .d (.sl 5 (out_0_1.map aB))), (34, 1, .d (.lit (.int .i64 k_2_4))), (35, 2, .cp [.lit (.int .i64 x14.Id), .lit (.int .i64 x14.Player), .lit (.int .i64 x14.Week), .lit (.int .i64 x14.Points), .lit (.bool x14.Must)]), (36, 3, .cp [.lit (.int .i64 x14.Id)]), (37, 4, .d (.lit (.int .i64 x14.Id))), (38, 5, .d (.sl 5 (l_0.map aB))), (39, 6, .d (.lit (.int .i64 i_0_1))), (40, 7, .cp [.lit (.int .i64 x16.Id), .lit (.int .i64 x16.Player), .lit (.int .i64 x16.Week), .lit (.int .i64 x16.Points), .lit (.bool x16.Must)]), (41, 8, .cp [.lit (.int .i64 x16.Id)]), (42, 9, .d (.lit (.int .i64 x16.Id)))], ?_, ?_⟩
     · exact ⟨by kernel_rfl, by kernel_rfl, by kernel_rfl, by kernel_rfl, by kernel_rfl, [([], []), ([], []), ([0, 1], []), ([2], []), ([3], []), ([], []), ([], []), ([5, 6], []), ([7], []), ([8], [])], by kernel_rfl, ⟨fun S hS => aJ rfl (aQ rfl (aC (v := .d (.sl 5 (out_0_1.map aB))) (aA rfl) (aH hS rfl) rfl)),
      fun S hS => aJ rfl (aQ rfl (aC (v := .d (.lit (.int .i64 k_2_4))) (aA rfl) (aH hS rfl) rfl)),
      fun S hS => aJ rfl (aQ rfl (bJ (aA rfl) (aH hS rfl) (aH hS rfl) bQ.of (bF aB h15))),
      fun S hS => aJ rfl (aQ rfl (bO (aA rfl) (aH hS rfl) iU (es := [.lit (.int .i64 x14.Id)]) rfl)),
      fun S hS => aJ rfl (aQ rfl (bP (aA rfl) (aH hS rfl) bI)),
      fun S hS => aJ rfl (aQ rfl (aC (v := .d (.sl 5 (l_0.map aB))) (aA rfl) (aH hS rfl) rfl)),
      fun S hS => aJ rfl (aQ rfl (aC (v := .d (.lit (.int .i64 i_0_1))) (aA rfl) (aH hS rfl) rfl)),
      fun S hS => aJ rfl (aQ rfl (bJ (aA rfl) (aH hS rfl) (aH hS rfl) bQ.of (bF aB h17))),
      fun S hS => aJ rfl (aQ rfl (bO (aA rfl) (aH hS rfl) iU (es := [.lit (.int .i64 x16.Id)]) rfl)),
      fun S hS => aJ rfl (aQ rfl (bP (aA rfl) (aH hS rfl) bI)), trivial⟩⟩
     · exact eC (aM rfl (aM rfl (aX ⟨rfl, rfl, rfl, rfl, rfl, rfl, trivial⟩)))
    ·refine tr1 rfl (bB (aA rfl) rfl rfl rfl) ?_
     refine aF ?_
     refine bN rfl (fun c18 => ?_) (fun c18 => ?_)
     ·have h := aP c18 h
      refine aE ?_
      refine tr1 rfl (aC (v := .d (.lit (.int .i64 k_2_4))) (aA rfl) rfl rfl) ?_
      refine tr1 rfl (aY (aA rfl) rfl rfl rfl) ?_
      refine tr1 rfl (aI (v := .d (.lit (.int .i64 ((w64 (k_2_4 + 1)))))) (aA rfl) rfl rfl) ?_
      refine dE ?_
      refine aE ?_
      refine tr1 rfl (aC (v := .d (.lit (.int .i64 k_2_4))) (aA rfl) rfl rfl) ?_
      refine tr1 rfl (aY (aA rfl) rfl rfl rfl) ?_
      refine tr1 rfl (aI (v := .d (.lit (.int .i64 ((w64 (k_2_4 + 1)))))) (aA rfl) rfl rfl) ?_
      refine aF ?_
      exact ⟨(w64 (k_2_4 + 1), b7, w64 (k_2_4 + 1)), h, aV [] rfl rfl (aM rfl (aM rfl (aM rfl (aX ⟨rfl, rfl, rfl, trivial⟩))))⟩
     ·have h := aO c18 h
      refine dK ?_
      refine aE ?_
      refine tr1 rfl (aC (v := .d (.lit (.int .i64 k_2_4))) (aA rfl) rfl rfl) ?_
      refine tr1 rfl (aY (aA rfl) rfl rfl rfl) ?_
      refine tr1 rfl (aI (v := .d (.lit (.int .i64 ((w64 (k_2_4 + 1)))))) (aA rfl) rfl rfl) ?_
      refine aF ?_
      exact ⟨(atv_2_4, b7, w64 (k_2_4 + 1)), h, aV [] rfl rfl (aM rfl (aM rfl (aM rfl (aX ⟨rfl, rfl, rfl, trivial⟩))))⟩
  ·have h := aO c6 h
   refine cT ?_
   refine .inl ⟨rfl, ?_⟩
   simp only [jG] at h
   refine aG ?_
   refine aE ?_
   refine tr1 rfl (aC (v := .d (.lit (.bool known_2_4))) (aA rfl) rfl rfl) ?_
   refine tr1 rfl (dB (aA rfl) rfl) ?_
   refine aF ?_
   refine bN rfl (fun c19 => ?_) (fun c19 => ?_)
   ·have h := aP c19 h
    refine aG ?_
    obtain ⟨x20, h21, h⟩ := bind_some h
    obtain ⟨x22, h23, h⟩ := bind_some h
    refine gA mix 8 [0, 3, 4, 5] [(52, .fl true 5 (([x20]).map aB)), (55, .d (.sl 5 (x22.map aB)))] ?_ ?_
    ·refine ⟨[(48, 0, .d (.sl 5 (l_0.map aB))), (49, 1, .d (.lit (.int .i64 i_0_1))), (50, 2, .cp [.lit (.int .i64 x20.Id), .lit (.int .i64 x20.Player), .lit (.int .i64 x20.Week), .lit (.int .i64 x20.Points), .lit (.bool x20.Must)]), (51, 3, .agg (aB x20)), (52, 4, .fl true 5 (([x20]).map aB)), (53, 5, .d (.sl 5 (out_0_1.map aB))), (54, 6, .d (.lit (.int .i64 atv_2_4))), (55, 7, .d (.sl 5 (x22.map aB)))], ?_, ?_⟩
     · exact ⟨by kernel_rfl, by kernel_rfl, by kernel_rfl, by kernel_rfl, by kernel_rfl, [([], []), ([], []), ([0, 1], []), ([2], []), ([3], []), ([], []), ([], []), ([5, 6], [])], by kernel_rfl, ⟨fun S hS => aJ rfl (aQ rfl (aC (v := .d (.sl 5 (l_0.map aB))) (aA rfl) (aH hS rfl) rfl)),
      fun S hS => aJ rfl (aQ rfl (aC (v := .d (.lit (.int .i64 i_0_1))) (aA rfl) (aH hS rfl) rfl)),
      fun S hS => aJ rfl (aQ rfl (bJ (aA rfl) (aH hS rfl) (aH hS rfl) bQ.of (bF aB h21))),
      fun S hS => aJ rfl (aQ rfl (fN (aA rfl) (aH hS rfl) dW (es := (aB x20)) rfl rfl)),
      fun S hS => aJ rfl (aQ rfl (aGa (aA rfl) bQ rfl (pa2 (aH hS rfl) pan) (rows := ([x20]).map aB) rfl (dD (f := aB) fun _ => rfl) rfl (by decide))),
      fun S hS => aJ rfl (aQ rfl (aC (v := .d (.sl 5 (out_0_1.map aB))) (aA rfl) (aH hS rfl) rfl)),
      fun S hS => aJ rfl (aQ rfl (aC (v := .d (.lit (.int .i64 atv_2_4))) (aA rfl) (aH hS rfl) rfl)),
      fun S hS => aJ rfl (aQ rfl (mO (aA rfl) bQ.of (aH hS rfl) (bo (aH hS rfl)) aFn (pC aB h23))), trivial⟩⟩
     · exact eC (aM rfl (aM rfl (aX ⟨rfl, rfl, rfl, rfl, trivial⟩)))
    ·obtain ⟨x24, h25, h⟩ := bind_some h
     refine tr1 rfl (aIi (.d (.weak _ _)) (aAv (nn := true) (f := aB) (xs := [x20]) (ys := x22) (aA rfl) bQ rfl rfl (fun _ => rfl) h25 rfl)) ?_
     refine tr1 rfl (aI (v := .d (.sl 5 (x24.map aB))) (aA rfl) rfl rfl) ?_
     refine aF ?_
     refine aE ?_
     refine cA rfl (aAy (aA rfl) bQ rfl rfl (rows := (([] : List aD)).map aB) rfl (dD (f := aB) fun _ => rfl) rfl (by decide)) ?_
     rintro _ ⟨v26, rfl⟩
     refine tr1 rfl (aC (v := .d (.sl 5 (out_0_1.map aB))) (aA rfl) rfl rfl) ?_
     refine tr1 rfl (aC (v := .d (.lit (.int .i64 atv_2_4))) (aA rfl) rfl rfl) ?_
     obtain ⟨x27, h28, h⟩ := bind_some h
     refine tr1 rfl (mO (aA rfl) bQ.of rfl rfl rfl (pC aB h28)) ?_
     obtain ⟨x29, h30, h⟩ := bind_some h
     refine cA rfl (lP (i := 0) (aA rfl) bQ rfl rfl rfl (fun _ => rfl) h30 rfl) ?_
     rintro _ ⟨v31, rfl⟩
     refine tr1 rfl (aC (v := .d (.sl 5 (x24.map aB))) (aA rfl) rfl rfl) ?_
     obtain ⟨x32, h33, h⟩ := bind_some h
     refine cA rfl (lP (i := 0) (aA rfl) bQ rfl rfl rfl (fun _ => rfl) h33 rfl) ?_
     rintro _ ⟨v34, rfl⟩
     refine fJ (xR [] [.arr v34 42 5 (x32.map aB)] rfl (aHw (v' := .d (.sl 5 (x32.map aB))) (.d (aHa (dD (f := aB) fun _ => rfl))) (qE _ _))) ?_
     refine tr1 rfl (aI (v := .d (.sl 5 (x32.map aB))) (aA rfl) rfl rfl) ?_
     refine dE ?_
     simp only [gQ] at h
     refine aE ?_
     refine tr1 rfl (aC (v := .d (.lit (.int .i64 i_0_1))) (aA rfl) rfl rfl) ?_
     refine tr1 rfl (aY (aA rfl) rfl rfl rfl) ?_
     refine tr1 rfl (aI (v := .d (.lit (.int .i64 ((w64 (i_0_1 + 1)))))) (aA rfl) rfl rfl) ?_
     refine aF ?_
     exact ⟨(x32, w64 (i_0_1 + 1)), h, aV [] rfl rfl (aM rfl (aM rfl (aX ⟨rfl, trivial⟩)))⟩
   ·have h := aO c19 h
    refine dK ?_
    simp only [gQ] at h
    refine aE ?_
    refine tr1 rfl (aC (v := .d (.lit (.int .i64 i_0_1))) (aA rfl) rfl rfl) ?_
    refine tr1 rfl (aY (aA rfl) rfl rfl rfl) ?_
    refine tr1 rfl (aI (v := .d (.lit (.int .i64 ((w64 (i_0_1 + 1)))))) (aA rfl) rfl rfl) ?_
    refine aF ?_
    exact ⟨(out_0_1, w64 (i_0_1 + 1)), h, aV [] rfl rfl (aM rfl (aM rfl (aX ⟨rfl, trivial⟩)))⟩
 ·have h := aO c3 h
  refine cT ?_
  refine .inl ⟨rfl, ?_⟩
  simp only [mT] at h
  refine aG ?_
  refine aE ?_
  refine tr1 rfl (aC (v := .d (.sl 5 (out_0_1.map aB))) (aA rfl) rfl rfl) ?_
  refine tr1 rfl (aI (v := .d (.sl 5 (out_0_1.map aB))) (aA rfl) rfl rfl) ?_
  refine aF ?_
  have h := Option.some.inj h
  subst h
  exact bT ⟨rfl, _, .one _, rfl, rfl⟩

theorem yN (l_0 : aR) (r_1 : aD) (week_2 : Int) {r : Int} (h : lR l_0 r_1 week_2 = some r) : Fn Try.prog 74 [.agg (aZ l_0), .agg (aB r_1), .d (.lit (.int .i64 week_2))] (.d (.lit (.int .i64 r))) := by
 unfold lR at h
 refine Fn.of_tr Try.func74 rfl (rs := [.tmp 6]) Try.results74 Try.ntmps74 (Nat.le_of_ble_eq_true rfl) ?_
 refine aG ?_
 refine aE ?_
 refine cA rfl (fM (v := .agg (aZ l_0)) (aA rfl) rfl rfl rfl) ?_
 rintro _ ⟨b1, rfl⟩
 refine cA rfl (fM (v := .agg (aB r_1)) (aA rfl) rfl rfl rfl) ?_
 rintro _ ⟨b2, rfl⟩
 refine tr1 rfl (aI (v := .d (.lit (.int .i64 0))) (aA rfl) rfl rfl) ?_
 refine aF ?_
 refine aG ?_
 refine aE ?_
 refine tr1 rfl (aI (v := .d (.lit (.int .i64 0))) (aA rfl) rfl rfl) ?_
 refine aF ?_
 refine aG ?_
 refine aG ?_
 refine aE ?_
 refine tr1 rfl (aU (aA rfl) rfl kJ) ?_
 refine tr1 rfl (aW (aA rfl) rfl (i := 1) rfl rfl bI) ?_
 refine tr1 rfl (aY (aA rfl) rfl rfl rfl) ?_
 refine tr1 rfl (aI (v := .d (.lit (.int .i64 ((w64 (r_1.Week + 1)))))) (aA rfl) rfl rfl) ?_
 refine aF ?_
 refine bZ ?_
 refine cM [2, 3, 4] (fun (s3 : Int × Int) => [(7, .d (.lit (.int .i64 s3.1))), (8, .d (.lit (.int .i64 s3.2)))]) (fun (s3 : Int × Int) => [.box b1 0 (aZ l_0), .box b2 0 (aB r_1)]) (fun (k : Nat) (s3 : Int × Int) => gS week_2 l_0 r_1 k s3.1 s3.2) (fun _ => rfl) (0, w64 (r_1.Week + 1)) h (aV [0, 1] rfl rfl (aM rfl (aM rfl (aX ⟨rfl, rfl, rfl, trivial⟩)))) ?_
 rintro k4 ⟨n_0_3, w_0_3⟩ h
 simp only [gS] at h
 refine aG ?_
 refine aG ?_
 refine aE ?_
 refine tr1 rfl (aC (v := .d (.lit (.int .i64 w_0_3))) (aA rfl) rfl rfl) ?_
 refine tr1 rfl (aC (v := .d (.lit (.int .i64 week_2))) (aA rfl) rfl rfl) ?_
 refine tr1 rfl (bB (aA rfl) rfl rfl rfl) ?_
 refine aF ?_
 refine bN rfl (fun c5 => ?_) (fun c5 => ?_)
 ·have h := aP c5 h
  refine bK ?_
  refine aG ?_
  refine bZ ?_
  refine aG ?_
  refine aE ?_
  refine tr1 rfl (aU (aA rfl) rfl nB) ?_
  refine tr1 rfl (aW (aA rfl) rfl (i := 0) rfl rfl kX) ?_
  refine tr1 rfl (aU (aA rfl) rfl nJ) ?_
  refine tr1 rfl (aW (aA rfl) rfl (i := 1) rfl rfl bI) ?_
  refine tr1 rfl (aC (v := .d (.lit (.int .i64 w_0_3))) (aA rfl) rfl rfl) ?_
  obtain ⟨r6, h7, h⟩ := bind_some h
  refine tr1 rfl (cF (aA rfl) (.func _ _ Try.call25) rfl rfl (BVs.refl _ _) (sU _ _ _ h7) rfl) ?_
  refine tr1 rfl (dB (aA rfl) rfl) ?_
  refine aF ?_
  refine bN rfl (fun c8 => ?_) (fun c8 => ?_)
  ·have h := aP c8 h
   refine aE ?_
   refine tr1 rfl (aC (v := .d (.lit (.int .i64 n_0_3))) (aA rfl) rfl rfl) ?_
   refine tr1 rfl (aY (aA rfl) rfl rfl rfl) ?_
   refine tr1 rfl (aI (v := .d (.lit (.int .i64 ((w64 (n_0_3 + 1)))))) (aA rfl) rfl rfl) ?_
   refine dE ?_
   refine aE ?_
   refine tr1 rfl (aC (v := .d (.lit (.int .i64 w_0_3))) (aA rfl) rfl rfl) ?_
   refine tr1 rfl (aY (aA rfl) rfl rfl rfl) ?_
   refine tr1 rfl (aI (v := .d (.lit (.int .i64 ((w64 (w_0_3 + 1)))))) (aA rfl) rfl rfl) ?_
   refine aF ?_
   exact ⟨(w64 (n_0_3 + 1), w64 (w_0_3 + 1)), h, aV [0, 1] rfl rfl (aM rfl (aM rfl (aX ⟨rfl, rfl, rfl, trivial⟩)))⟩
  ·have h := aO c8 h
   refine dK ?_
   refine aE ?_
   refine tr1 rfl (aC (v := .d (.lit (.int .i64 w_0_3))) (aA rfl) rfl rfl) ?_
   refine tr1 rfl (aY (aA rfl) rfl rfl rfl) ?_
   refine tr1 rfl (aI (v := .d (.lit (.int .i64 ((w64 (w_0_3 + 1)))))) (aA rfl) rfl rfl) ?_
   refine aF ?_
   exact ⟨(n_0_3, w64 (w_0_3 + 1)), h, aV [0, 1] rfl rfl (aM rfl (aM rfl (aX ⟨rfl, rfl, rfl, trivial⟩)))⟩
 ·have h := aO c5 h
  refine cT ?_
  refine .inl ⟨rfl, ?_⟩
  simp only [pG] at h
  refine aG ?_
  refine aE ?_
  refine tr1 rfl (aC (v := .d (.lit (.int .i64 n_0_3))) (aA rfl) rfl rfl) ?_
  refine tr1 rfl (aI (v := .d (.lit (.int .i64 n_0_3))) (aA rfl) rfl rfl) ?_
  refine aF ?_
  have h := Option.some.inj h
  subst h
  refine cP (cD (cJ (l := [6]) ⟨rfl, trivial⟩)) ?_
  exact bT ⟨rfl, _, .one _, rfl, rfl⟩

theorem uW (l_0 : aR) (player_1 : Int) (week_2 : Int) {r : (List aD)} (h : eT l_0 player_1 week_2 = some r) : Fn Try.prog 39 [.agg (aZ l_0), .d (.lit (.int .i64 player_1)), .d (.lit (.int .i64 week_2))] (.d (.sl 5 (r.map aB))) := by
 unfold eT at h
 refine Fn.of_tr Try.func39 rfl (rs := [.tmp 6]) Try.results39 Try.ntmps39 (Nat.le_of_ble_eq_true rfl) ?_
 refine aG ?_
 refine aE ?_
 refine cA rfl (fM (v := .agg (aZ l_0)) (aA rfl) rfl rfl rfl) ?_
 rintro _ ⟨b1, rfl⟩
 refine tr1 rfl (pA 5 (aA rfl)) ?_
 refine aF ?_
 refine aG ?_
 refine aE ?_
 refine tr1 rfl (iI 42 5 (.inl rfl) (aA rfl)) ?_
 refine aF ?_
 refine aG ?_
 refine aE ?_
 refine tr1 rfl (aU (aA rfl) rfl fU) ?_
 refine tr1 rfl (aW (aA rfl) rfl (i := 0) rfl rfl kF) ?_
 obtain ⟨r3, h4, h⟩ := bind_some h
 refine tr1 rfl (lD (aA rfl) (.func _ _ Try.call64) rfl rfl (uX _ h4)) ?_
 refine tr1 rfl (aI (v := .d (.sl 5 (r3.map aB))) (aA rfl) rfl rfl) ?_
 refine aF ?_
 refine aG ?_
 refine aG ?_
 refine aE ?_
 refine tr1 rfl (aI (v := .d (.lit (.int .i64 0))) (aA rfl) rfl rfl) ?_
 refine aF ?_
 refine bZ ?_
 refine cM [1, 2, 3, 8] (fun (s5 : Int × (List aD) × Value) => [(7, .d (.lit s5.2.2)), (9, .d (.lit (.int .i64 s5.1)))]) (fun (s5 : Int × (List aD) × Value) => [.box b1 0 (aZ l_0), .arr s5.2.2 42 5 (s5.2.1.map aB)]) (fun (k : Nat) (s5 : Int × (List aD) × Value) => eL player_1 week_2 r3 l_0 k s5.1 s5.2.1) (fun _ => rfl) (0, ([] : List aD), (.slice none 0 0)) h (aV [0, 1] rfl rfl (aM rfl (aM rfl (aX ⟨rfl, rfl, rfl, rfl, trivial⟩)))) ?_
 rintro k7 ⟨i_0_5, out_0_5, w6⟩ h
 simp only [eL] at h
 refine aG ?_
 refine aG ?_
 refine aE ?_
 refine tr1 rfl (aC (v := .d (.lit (.int .i64 i_0_5))) (aA rfl) rfl rfl) ?_
 refine tr1 rfl (aC (v := .d (.sl 5 (r3.map aB))) (aA rfl) rfl rfl) ?_
 refine tr1 rfl (dR (aA rfl) rfl bQ.of) ?_
 refine tr1 rfl (bB (aA rfl) rfl rfl rfl) ?_
 refine aF ?_
 refine bN rfl (fun c8 => ?_) (fun c8 => ?_)
 ·have h := aP c8 h
  refine bK ?_
  refine aG ?_
  refine bZ ?_
  refine aG ?_
  refine aE ?_
  refine tr1 rfl (aC (v := .d (.sl 5 (r3.map aB))) (aA rfl) rfl rfl) ?_
  refine tr1 rfl (aC (v := .d (.lit (.int .i64 i_0_5))) (aA rfl) rfl rfl) ?_
  obtain ⟨x9, h10, h⟩ := bind_some h
  refine tr1 rfl (bJ (aA rfl) rfl rfl bQ.of (bF aB h10)) ?_
  refine tr1 rfl (fN (aA rfl) rfl dW (es := (aB x9)) rfl rfl) ?_
  refine cA rfl (gR (zs := [.lit (.int .i64 0), .lit (.int .i64 0), .lit (.int .i64 0), .lit (.int .i64 0), .lit (.bool false)]) (aA rfl) Try.zeroValue42 rfl rfl) ?_
  rintro _ ⟨b11, rfl⟩
  refine tr1 rfl (cO (i := 2) rfl rfl rfl rfl rfl Try.sizeOf42 rfl (aA rfl) (Nat.le_of_ble_eq_true rfl) (ds' := (aB x9)) rfl) ?_
  refine aF ?_
  refine aG ?_
  refine aE ?_
  refine tr1 rfl (aU (aA rfl) rfl nJ) ?_
  refine tr1 rfl (aW (aA rfl) rfl (i := 2) rfl rfl bI) ?_
  refine tr1 rfl (aC (v := .d (.lit (.int .i64 player_1))) (aA rfl) rfl rfl) ?_
  refine tr1 rfl (bB (aA rfl) rfl rfl rfl) ?_
  refine tr1 rfl (aC (v := .d (.lit (.bool ((decide (x9.Player = player_1)))))) (aA rfl) rfl rfl) ?_
  obtain ⟨b12, h13, h⟩ := bind_some h
  refine bR 5 [1, 2, 3, 7, 8, 9, 10] 33 b12 ?_ ?_
  ·refine bA (decide (x9.Player = player_1)) (fun c28 => ?_) (fun c28 => ?_)
   ·have h13 := aP c28 h13
    refine aL rfl rfl (aA rfl) rfl c28 (aC (v := .d (.lit (.int .i64 week_2))) (aA rfl) rfl rfl) ?_
    refine aL rfl rfl (aA rfl) rfl c28 (aU (aA rfl) rfl kJ) ?_
    refine aL rfl rfl (aA rfl) rfl c28 (aW (aA rfl) rfl (i := 2) rfl rfl bI) ?_
    refine aL rfl rfl (aA rfl) rfl c28 (bB (aA rfl) rfl rfl rfl) ?_
    refine tr1 rfl (bH (v := .d (.lit (.bool ((decide (x9.Week ≤ week_2)))))) (aA rfl) rfl c28 rfl rfl) ?_
    have h13 := Option.some.inj h13
    subst h13
    refine aF (aT rfl ⟨rfl, rfl, rfl, rfl, rfl, rfl, rfl, trivial⟩ rfl)
   ·have h13 := aO c28 h13
    refine aN rfl rfl (aA rfl) rfl (aA rfl) rfl c28 ?_
    refine aN rfl rfl (aA rfl) rfl (aA rfl) rfl c28 ?_
    refine aN rfl rfl (aA rfl) rfl (aA rfl) rfl c28 ?_
    refine aN rfl rfl (aA rfl) rfl (aA rfl) rfl c28 ?_
    refine tr1 rfl (bG (v := .d (.lit (.bool false))) (aA rfl) rfl c28 rfl rfl) ?_
    have h13 := Option.some.inj h13
    subst h13
    refine aF (aT rfl ⟨rfl, rfl, rfl, rfl, rfl, rfl, rfl, trivial⟩ rfl)
  ·refine tr1 rfl (aC (v := .d (.lit (.bool b12))) (aA rfl) rfl rfl) ?_
   obtain ⟨b14, h15, h⟩ := bind_some h
   refine bR 6 [1, 2, 3, 7, 8, 9, 10] 40 b14 ?_ ?_
   ·refine bA (b12) (fun c25 => ?_) (fun c25 => ?_)
    ·have h15 := aP c25 h15
     refine aL rfl rfl (aA rfl) rfl c25 (dF (aA rfl) rfl (i := 0) rfl hB (es := (aZ l_0)) rfl rfl) ?_
     refine aL rfl rfl (aA rfl) rfl c25 (dF (aA rfl) rfl (i := 2) rfl dW (es := (aB x9)) rfl rfl) ?_
     refine aL rfl rfl (aA rfl) rfl c25 (aC (v := .d (.lit (.int .i64 week_2))) (aA rfl) rfl rfl) ?_
     obtain ⟨r26, h27, h15⟩ := bind_some h15
     refine aL rfl rfl (aA rfl) rfl c25 (cF (aA rfl) (.func _ _ Try.call74) rfl rfl (BVs.refl _ _) (yN _ _ _ h27) rfl) ?_
     refine aL rfl rfl (aA rfl) rfl c25 (bB (aA rfl) rfl rfl rfl) ?_
     refine tr1 rfl (bH (v := .d (.lit (.bool ((decide (r26 < 52)))))) (aA rfl) rfl c25 rfl rfl) ?_
     have h15 := Option.some.inj h15
     subst h15
     refine aF (aT rfl ⟨rfl, rfl, rfl, rfl, rfl, rfl, rfl, trivial⟩ rfl)
    ·have h15 := aO c25 h15
     refine aN rfl rfl (aA rfl) rfl (aA rfl) rfl c25 ?_
     refine aN rfl rfl (aA rfl) rfl (aA rfl) rfl c25 ?_
     refine aN rfl rfl (aA rfl) rfl (aA rfl) rfl c25 ?_
     refine aN rfl rfl (aA rfl) rfl (aA rfl) rfl c25 ?_
     refine aN rfl rfl (aA rfl) rfl (aA rfl) rfl c25 ?_
     refine tr1 rfl (bG (v := .d (.lit (.bool false))) (aA rfl) rfl c25 rfl rfl) ?_
     have h15 := Option.some.inj h15
     subst h15
     refine aF (aT rfl ⟨rfl, rfl, rfl, rfl, rfl, rfl, rfl, trivial⟩ rfl)
   ·refine tr1 rfl (aC (v := .d (.lit (.bool b14))) (aA rfl) rfl rfl) ?_
    obtain ⟨b16, h17, h⟩ := bind_some h
    refine bR 8 [1, 2, 3, 7, 8, 9, 10] 49 b16 ?_ ?_
    ·refine bA (b14) (fun c22 => ?_) (fun c22 => ?_)
     ·have h17 := aP c22 h17
      refine aL rfl rfl (aA rfl) rfl c22 (aU (aA rfl) rfl qH) ?_
      refine aL rfl rfl (aA rfl) rfl c22 (aW (aA rfl) rfl (i := 0) rfl rfl kX) ?_
      refine aL rfl rfl (aA rfl) rfl c22 (aC (v := .d (.lit (.int .i64 player_1))) (aA rfl) rfl rfl) ?_
      refine aL rfl rfl (aA rfl) rfl c22 (aU (aA rfl) rfl kJ) ?_
      refine aL rfl rfl (aA rfl) rfl c22 (aW (aA rfl) rfl (i := 2) rfl rfl bI) ?_
      obtain ⟨r23, h24, h17⟩ := bind_some h17
      refine aL rfl rfl (aA rfl) rfl c22 (cF (aA rfl) (.func _ _ Try.call25) rfl rfl (BVs.refl _ _) (sU _ _ _ h24) rfl) ?_
      refine aL rfl rfl (aA rfl) rfl c22 (dB (aA rfl) rfl) ?_
      refine tr1 rfl (bH (v := .d (.lit (.bool (!r23)))) (aA rfl) rfl c22 rfl rfl) ?_
      have h17 := Option.some.inj h17
      subst h17
      refine aF (aT rfl ⟨rfl, rfl, rfl, rfl, rfl, rfl, rfl, trivial⟩ rfl)
     ·have h17 := aO c22 h17
      refine aN rfl rfl (aA rfl) rfl (aA rfl) rfl c22 ?_
      refine aN rfl rfl (aA rfl) rfl (aA rfl) rfl c22 ?_
      refine aN rfl rfl (aA rfl) rfl (aA rfl) rfl c22 ?_
      refine aN rfl rfl (aA rfl) rfl (aA rfl) rfl c22 ?_
      refine aN rfl rfl (aA rfl) rfl (aA rfl) rfl c22 ?_
      refine aN rfl rfl (aA rfl) rfl (aA rfl) rfl c22 ?_
      refine aN rfl rfl (aA rfl) rfl (aA rfl) rfl c22 ?_
      refine tr1 rfl (bG (v := .d (.lit (.bool false))) (aA rfl) rfl c22 rfl rfl) ?_
      have h17 := Option.some.inj h17
      subst h17
      refine aF (aT rfl ⟨rfl, rfl, rfl, rfl, rfl, rfl, rfl, trivial⟩ rfl)
    ·refine aF ?_
     refine bN rfl (fun c18 => ?_) (fun c18 => ?_)
     ·have h := aP c18 h
      refine aE ?_
      refine tr1 rfl (aC (v := .d (.lit w6)) (aA rfl) rfl rfl) ?_
      refine tr1 rfl (dF (aA rfl) rfl (i := 2) rfl dW (es := (aB x9)) rfl rfl) ?_
      refine tr1 rfl (jL (aA rfl) bQ rfl rfl (rows := ([x9]).map aB) rfl (dD (f := aB) fun _ => rfl) rfl (by decide)) ?_
      obtain ⟨x19, h20, h⟩ := bind_some h
      refine cA rfl (lP (i := 1) (aA rfl) bQ rfl rfl rfl (fun _ => rfl) h20 rfl) ?_
      rintro _ ⟨v21, rfl⟩
      refine tr1 rfl (aI (v := .d (.lit v21)) (aA rfl) rfl rfl) ?_
      refine dE ?_
      refine aE ?_
      refine tr1 rfl (aC (v := .d (.lit (.int .i64 i_0_5))) (aA rfl) rfl rfl) ?_
      refine tr1 rfl (aY (aA rfl) rfl rfl rfl) ?_
      refine tr1 rfl (aI (v := .d (.lit (.int .i64 ((w64 (i_0_5 + 1)))))) (aA rfl) rfl rfl) ?_
      refine aF ?_
      exact ⟨(w64 (i_0_5 + 1), x19, v21), h, aV [0, 1] rfl rfl (aM rfl (aM rfl (aX ⟨rfl, rfl, rfl, rfl, trivial⟩)))⟩
     ·have h := aO c18 h
      refine dK ?_
      refine aE ?_
      refine tr1 rfl (aC (v := .d (.lit (.int .i64 i_0_5))) (aA rfl) rfl rfl) ?_
      refine tr1 rfl (aY (aA rfl) rfl rfl rfl) ?_
      refine tr1 rfl (aI (v := .d (.lit (.int .i64 ((w64 (i_0_5 + 1)))))) (aA rfl) rfl rfl) ?_
      refine aF ?_
      exact ⟨(w64 (i_0_5 + 1), out_0_5, w6), h, aV [0, 1] rfl rfl (aM rfl (aM rfl (aX ⟨rfl, rfl, rfl, rfl, trivial⟩)))⟩
 ·have h := aO c8 h
  refine cT ?_
  refine .inl ⟨rfl, ?_⟩
  simp only [mS] at h
  refine aG ?_
  refine aE ?_
  refine tr1 rfl (aC (v := .d (.lit w6)) (aA rfl) rfl rfl) ?_
  refine tr1 rfl (aI (v := .d (.lit w6)) (aA rfl) rfl rfl) ?_
  refine aF ?_
  have h := Option.some.inj h
  subst h
  refine cP (cD (fV (k := 6) (v := .d (.sl 5 (out_0_5.map aB))) (.d (iE 1 rfl (dD (f := aB) fun _ => rfl))) (uU))) ?_
  exact bT ⟨rfl, _, .one _, rfl, rfl⟩

theorem wT (l_0 : aR) (player_1 : Int) (week_2 : Int) {r : Bool} (h : kH l_0 player_1 week_2 = some r) : Fn Try.prog 20 [.agg (aZ l_0), .d (.lit (.int .i64 player_1)), .d (.lit (.int .i64 week_2))] (.d (.lit (.bool r))) := by
 unfold kH at h
 refine Fn.of_tr Try.func20 rfl (rs := [.tmp 6]) Try.results20 Try.ntmps20 (Nat.le_of_ble_eq_true rfl) ?_
 refine aG ?_
 refine aE ?_
 refine cA rfl (fM (v := .agg (aZ l_0)) (aA rfl) rfl rfl rfl) ?_
 rintro _ ⟨b1, rfl⟩
 refine tr1 rfl (aI (v := .d (.lit (.bool false))) (aA rfl) rfl rfl) ?_
 refine aF ?_
 refine aG ?_
 refine aE ?_
 refine tr1 rfl (dF (aA rfl) rfl (i := 0) rfl hB (es := (aZ l_0)) rfl rfl) ?_
 obtain ⟨r2, h3, h⟩ := bind_some h
 refine tr1 rfl (cF (aA rfl) (.func _ _ Try.call13) rfl rfl (BVs.refl _ _) (yM _ h3) rfl) ?_
 refine tr1 rfl (dB (aA rfl) rfl) ?_
 refine tr1 rfl (aC (v := .d (.lit (.bool (!r2)))) (aA rfl) rfl rfl) ?_
 obtain ⟨b4, h5, h⟩ := bind_some h
 refine bR 4 [1, 2, 3] 14 b4 ?_ ?_
 ·refine bA (!r2) (fun c18 => ?_) (fun c18 => ?_)
  ·have h5 := aP c18 h5
   refine aL rfl rfl (aA rfl) rfl c18 (dF (aA rfl) rfl (i := 0) rfl hB (es := (aZ l_0)) rfl rfl) ?_
   obtain ⟨r19, h20, h5⟩ := bind_some h5
   refine aL rfl rfl (aA rfl) rfl c18 (cF (aA rfl) (.func _ _ Try.call15) rfl rfl (BVs.refl _ _) (sG _ h20) rfl) ?_
   refine aL rfl rfl (aA rfl) rfl c18 (bB (aA rfl) rfl rfl rfl) ?_
   refine tr1 rfl (bH (v := .d (.lit (.bool ((decide (r19 = 0)))))) (aA rfl) rfl c18 rfl rfl) ?_
   have h5 := Option.some.inj h5
   subst h5
   refine aF (aT rfl ⟨rfl, rfl, rfl, trivial⟩ rfl)
  ·have h5 := aO c18 h5
   refine aN rfl rfl (aA rfl) rfl (aA rfl) rfl c18 ?_
   refine aN rfl rfl (aA rfl) rfl (aA rfl) rfl c18 ?_
   refine aN rfl rfl (aA rfl) rfl (aA rfl) rfl c18 ?_
   refine tr1 rfl (bG (v := .d (.lit (.bool false))) (aA rfl) rfl c18 rfl rfl) ?_
   have h5 := Option.some.inj h5
   subst h5
   refine aF (aT rfl ⟨rfl, rfl, rfl, trivial⟩ rfl)
 ·refine tr1 rfl (aC (v := .d (.lit (.bool b4))) (aA rfl) rfl rfl) ?_
  obtain ⟨b6, h7, h⟩ := bind_some h
  refine bR 3 [1, 2, 3] 18 b6 ?_ ?_
  ·refine bA (b4) (fun c17 => ?_) (fun c17 => ?_)
   ·have h7 := aP c17 h7
    refine aL rfl rfl (aA rfl) rfl c17 (aC (v := .d (.lit (.int .i64 player_1))) (aA rfl) rfl rfl) ?_
    refine aL rfl rfl (aA rfl) rfl c17 (bB (aA rfl) rfl rfl rfl) ?_
    refine tr1 rfl (bH (v := .d (.lit (.bool ((decide (0 ≤ player_1)))))) (aA rfl) rfl c17 rfl rfl) ?_
    have h7 := Option.some.inj h7
    subst h7
    refine aF (aT rfl ⟨rfl, rfl, rfl, trivial⟩ rfl)
   ·have h7 := aO c17 h7
    refine aN rfl rfl (aA rfl) rfl (aA rfl) rfl c17 ?_
    refine aN rfl rfl (aA rfl) rfl (aA rfl) rfl c17 ?_
    refine tr1 rfl (bG (v := .d (.lit (.bool false))) (aA rfl) rfl c17 rfl rfl) ?_
    have h7 := Option.some.inj h7
    subst h7
    refine aF (aT rfl ⟨rfl, rfl, rfl, trivial⟩ rfl)
  ·refine tr1 rfl (aC (v := .d (.lit (.bool b6))) (aA rfl) rfl rfl) ?_
   obtain ⟨b8, h9, h⟩ := bind_some h
   refine bR 5 [2] 24 b8 ?_ ?_
   ·refine bA (b6) (fun c16 => ?_) (fun c16 => ?_)
    ·have h9 := aP c16 h9
     refine aL rfl rfl (aA rfl) rfl c16 (aC (v := .d (.lit (.int .i64 player_1))) (aA rfl) rfl rfl) ?_
     refine aL rfl rfl (aA rfl) rfl c16 (aU (aA rfl) rfl jP) ?_
     refine aL rfl rfl (aA rfl) rfl c16 (aW (aA rfl) rfl (i := 0) rfl rfl bI) ?_
     refine aL rfl rfl (aA rfl) rfl c16 (bB (aA rfl) rfl rfl rfl) ?_
     refine tr1 rfl (bH (v := .d (.lit (.bool ((decide (player_1 < l_0.Players)))))) (aA rfl) rfl c16 rfl rfl) ?_
     have h9 := Option.some.inj h9
     subst h9
     refine aF (aT rfl ⟨rfl, trivial⟩ rfl)
    ·have h9 := aO c16 h9
     refine aN rfl rfl (aA rfl) rfl (aA rfl) rfl c16 ?_
     refine aN rfl rfl (aA rfl) rfl (aA rfl) rfl c16 ?_
     refine aN rfl rfl (aA rfl) rfl (aA rfl) rfl c16 ?_
     refine aN rfl rfl (aA rfl) rfl (aA rfl) rfl c16 ?_
     refine tr1 rfl (bG (v := .d (.lit (.bool false))) (aA rfl) rfl c16 rfl rfl) ?_
     have h9 := Option.some.inj h9
     subst h9
     refine aF (aT rfl ⟨rfl, trivial⟩ rfl)
   ·refine tr1 rfl (aC (v := .d (.lit (.bool b8))) (aA rfl) rfl rfl) ?_
    obtain ⟨b10, h11, h⟩ := bind_some h
    refine bR 3 [2] 28 b10 ?_ ?_
    ·refine bA (b8) (fun c15 => ?_) (fun c15 => ?_)
     ·have h11 := aP c15 h11
      refine aL rfl rfl (aA rfl) rfl c15 (aC (v := .d (.lit (.int .i64 week_2))) (aA rfl) rfl rfl) ?_
      refine aL rfl rfl (aA rfl) rfl c15 (bB (aA rfl) rfl rfl rfl) ?_
      refine tr1 rfl (bH (v := .d (.lit (.bool ((decide (0 ≤ week_2)))))) (aA rfl) rfl c15 rfl rfl) ?_
      have h11 := Option.some.inj h11
      subst h11
      refine aF (aT rfl ⟨rfl, trivial⟩ rfl)
     ·have h11 := aO c15 h11
      refine aN rfl rfl (aA rfl) rfl (aA rfl) rfl c15 ?_
      refine aN rfl rfl (aA rfl) rfl (aA rfl) rfl c15 ?_
      refine tr1 rfl (bG (v := .d (.lit (.bool false))) (aA rfl) rfl c15 rfl rfl) ?_
      have h11 := Option.some.inj h11
      subst h11
      refine aF (aT rfl ⟨rfl, trivial⟩ rfl)
    ·refine tr1 rfl (aC (v := .d (.lit (.bool b10))) (aA rfl) rfl rfl) ?_
     obtain ⟨b12, h13, h⟩ := bind_some h
     refine bR 3 [] 32 b12 ?_ ?_
     ·refine bA (b10) (fun c14 => ?_) (fun c14 => ?_)
      ·have h13 := aP c14 h13
       refine aL rfl rfl (aA rfl) rfl c14 (aC (v := .d (.lit (.int .i64 week_2))) (aA rfl) rfl rfl) ?_
       refine aL rfl rfl (aA rfl) rfl c14 (bB (aA rfl) rfl rfl rfl) ?_
       refine tr1 rfl (bH (v := .d (.lit (.bool ((decide (week_2 ≤ 250)))))) (aA rfl) rfl c14 rfl rfl) ?_
       have h13 := Option.some.inj h13
       subst h13
       refine aF (aT rfl trivial rfl)
      ·have h13 := aO c14 h13
       refine aN rfl rfl (aA rfl) rfl (aA rfl) rfl c14 ?_
       refine aN rfl rfl (aA rfl) rfl (aA rfl) rfl c14 ?_
       refine tr1 rfl (bG (v := .d (.lit (.bool false))) (aA rfl) rfl c14 rfl rfl) ?_
       have h13 := Option.some.inj h13
       subst h13
       refine aF (aT rfl trivial rfl)
     ·refine tr1 rfl (aI (v := .d (.lit (.bool b12))) (aA rfl) rfl rfl) ?_
      refine aF ?_
      have h := Option.some.inj h
      subst h
      refine cP (cD (cJ (l := [6]) ⟨rfl, trivial⟩)) ?_
      exact bT ⟨rfl, _, .one _, rfl, rfl⟩

theorem aBd (l_0 : aR) (player_1 : Int) (week_2 : Int) {r : Int × Int} (h : pR l_0 player_1 week_2 = some r) : Fn Try.prog 22 [.agg (aZ l_0), .d (.lit (.int .i64 player_1)), .d (.lit (.int .i64 week_2))] (.tup [.d (.lit (.int .i64 r.1)), .d (.lit (.int .i64 r.2))]) := by
 unfold pR at h
 refine Fn.of_tr Try.func22 rfl (rs := [.tmp 6, .tmp 7]) Try.results22 Try.ntmps22 (Nat.le_of_ble_eq_true rfl) ?_
 refine aG ?_
 refine aE ?_
 refine cA rfl (fM (v := .agg (aZ l_0)) (aA rfl) rfl rfl rfl) ?_
 rintro _ ⟨b1, rfl⟩
 refine tr1 rfl (aI (v := .d (.lit (.int .i64 0))) (aA rfl) rfl rfl) ?_
 refine tr1 rfl (aI (v := .d (.lit (.int .i64 0))) (aA rfl) rfl rfl) ?_
 refine aF ?_
 refine aG ?_
 refine aE ?_
 refine tr1 rfl (dF (aA rfl) rfl (i := 0) rfl hB (es := (aZ l_0)) rfl rfl) ?_
 refine tr1 rfl (aC (v := .d (.lit (.int .i64 player_1))) (aA rfl) rfl rfl) ?_
 refine tr1 rfl (aC (v := .d (.lit (.int .i64 week_2))) (aA rfl) rfl rfl) ?_
 obtain ⟨r2, h3, h⟩ := bind_some h
 refine cA rfl (dQ (passed := []) (aA rfl) rfl (.func _ _ Try.call44) rfl rfl (rA _ _ _ h3)) ?_
 rintro _ ⟨_, _, ⟨b5, w6, rfl, rfl⟩, rfl⟩
 obtain ⟨_ | y4, e7⟩ := r2
 ·have h := vD h
  refine fJ (aV [0] rfl rfl (le_refl _)) ?_
  refine tr1 rfl (aC (v := .tup [.d (.lit (.pointer none)), .d (.lit (.int .i64 e7))]) (aA rfl) rfl rfl) ?_
  refine tr1 rfl (cW (aA rfl) rfl rfl) ?_
  refine tr1 rfl (cW (aA rfl) rfl rfl) ?_
  refine tr1 rfl (aI (v := .d (.lit (.pointer none))) (aA rfl) rfl rfl) ?_
  refine tr1 rfl (aI (v := .d (.lit (.int .i64 e7))) (aA rfl) rfl rfl) ?_
  refine aF ?_
  refine aG ?_
  refine aG ?_
  refine aE ?_
  refine tr1 rfl (aC (v := .d (.lit (.int .i64 e7))) (aA rfl) rfl rfl) ?_
  refine tr1 rfl (bB (aA rfl) rfl rfl rfl) ?_
  refine aF ?_
  refine bN rfl (fun c8 => ?_) (fun c8 => ?_)
  ·have h := aP c8 h
   refine aG ?_
   refine aE ?_
   refine tr1 rfl (aC (v := .d (.lit (.int .i64 e7))) (aA rfl) rfl rfl) ?_
   refine tr1 rfl (aI (v := .d (.lit (.int .i64 0))) (aA rfl) rfl rfl) ?_
   refine tr1 rfl (aI (v := .d (.lit (.int .i64 e7))) (aA rfl) rfl rfl) ?_
   refine aF ?_
   have h := Option.some.inj h
   subst h
   refine cP (cD (cJ (l := [6, 7]) ⟨rfl, rfl, trivial⟩)) ?_
   exact bT ⟨rfl, _, .two _ _, rfl, rfl⟩
  ·have h := aO c8 h
   refine bK ?_
   refine aG ?_
   refine aE ?_
   refine tr1 rfl (aC (v := .d (.lit (.pointer none))) (aA rfl) rfl rfl) ?_
   refine tr1 rfl (aC (v := .d (.lit (.int .i64 player_1))) (aA rfl) rfl rfl) ?_
   refine tr1 rfl (aC (v := .d (.lit (.int .i64 week_2))) (aA rfl) rfl rfl) ?_
   cases h
 ·have h := vE h
  refine fJ (aV [0, 1, 2] rfl rfl (le_refl _)) ?_
  refine tr1 rfl (aC (v := .tup [.bp b5 0 0, .d (.lit (.int .i64 e7))]) (aA rfl) rfl rfl) ?_
  refine tr1 rfl (cW (aA rfl) rfl rfl) ?_
  refine tr1 rfl (cW (aA rfl) rfl rfl) ?_
  refine tr1 rfl (aI (v := .bp b5 0 0) (aA rfl) rfl rfl) ?_
  refine tr1 rfl (aI (v := .d (.lit (.int .i64 e7))) (aA rfl) rfl rfl) ?_
  refine aF ?_
  refine aG ?_
  refine aG ?_
  refine aE ?_
  refine tr1 rfl (aC (v := .d (.lit (.int .i64 e7))) (aA rfl) rfl rfl) ?_
  refine tr1 rfl (bB (aA rfl) rfl rfl rfl) ?_
  refine aF ?_
  refine bN rfl (fun c9 => ?_) (fun c9 => ?_)
  ·have h := aP c9 h
   refine aG ?_
   refine aE ?_
   refine tr1 rfl (aC (v := .d (.lit (.int .i64 e7))) (aA rfl) rfl rfl) ?_
   refine tr1 rfl (aI (v := .d (.lit (.int .i64 0))) (aA rfl) rfl rfl) ?_
   refine tr1 rfl (aI (v := .d (.lit (.int .i64 e7))) (aA rfl) rfl rfl) ?_
   refine aF ?_
   have h := Option.some.inj h
   subst h
   refine cP (cD (cJ (l := [6, 7]) ⟨rfl, rfl, trivial⟩)) ?_
   exact bT ⟨rfl, _, .two _ _, rfl, rfl⟩
  ·have h := aO c9 h
   refine bK ?_
   refine aG ?_
   refine aE ?_
   refine tr1 rfl (aC (v := .bp b5 0 0) (aA rfl) rfl rfl) ?_
   refine tr1 rfl (aC (v := .d (.lit (.int .i64 player_1))) (aA rfl) rfl rfl) ?_
   refine tr1 rfl (aC (v := .d (.lit (.int .i64 week_2))) (aA rfl) rfl rfl) ?_
   obtain ⟨r10, h11, h⟩ := bind_some h
   refine tr1 rfl (cF (aA rfl) (.func _ _ Try.call55) rfl rfl (.cons ((mH 0 rfl rfl (dvc (.same _) (dvc (.same _) (dvc (iE 1 rfl (dD (f := aB) fun _ => rfl)) (dvc (.same _) (dvc (.same _) dvn))))))) (.cons (.same _) (.cons (.same _) .nil))) (oQ _ _ _ h11) rfl) ?_
   refine tr1 rfl (aI (v := .d (.lit (.int .i64 r10))) (aA rfl) rfl rfl) ?_
   refine tr1 rfl (aI (v := .d (.lit (.int .i64 0))) (aA rfl) rfl rfl) ?_
   refine aF ?_
   have h := Option.some.inj h
   subst h
   refine cP (cD (cJ (l := [6, 7]) ⟨rfl, rfl, trivial⟩)) ?_
   exact bT ⟨rfl, _, .two _ _, rfl, rfl⟩

theorem xX (x : List Int) {r : List Int} {x_v : Value} {e : TypeId} (h : slices_Sort_int x = some r) : fR Try.prog 73 [.d (.lit x_v)] [.arr x_v e 1 (x.map cE)] (fun r' o' => r' = .tup [] ∧ o' = [.arr x_v e 1 (r.map cE)]) := by
 unfold slices_Sort_int at h
 split at h
 ·cases h
  exact aEm (fun blk off cap zs w => Try.slices_Sort_int blk off cap zs w) (fun q cap w => Try.slices_Sort_int_none q cap w) (by assumption)
 ·cases h

theorem aCj (l_0 : aR) (player_1 : Int) (week_2 : Int) {r : (List Int) × Int} (h : qZ l_0 player_1 week_2 = some r) : Fn Try.prog 38 [.agg (aZ l_0), .d (.lit (.int .i64 player_1)), .d (.lit (.int .i64 week_2))] (.tup [.d (.sl 1 (r.1.map cE)), .d (.lit (.int .i64 r.2))]) := by
 unfold qZ at h
 refine Fn.of_tr Try.func38 rfl (rs := [.tmp 6, .tmp 7]) Try.results38 Try.ntmps38 (Nat.le_of_ble_eq_true rfl) ?_
 refine aG ?_
 refine aE ?_
 refine cA rfl (fM (v := .agg (aZ l_0)) (aA rfl) rfl rfl rfl) ?_
 rintro _ ⟨b1, rfl⟩
 refine tr1 rfl (pA 1 (aA rfl)) ?_
 refine tr1 rfl (aI (v := .d (.lit (.int .i64 0))) (aA rfl) rfl rfl) ?_
 refine aF ?_
 refine aG ?_
 refine aE ?_
 refine tr1 rfl (dF (aA rfl) rfl (i := 0) rfl hB (es := (aZ l_0)) rfl rfl) ?_
 refine tr1 rfl (aC (v := .d (.lit (.int .i64 player_1))) (aA rfl) rfl rfl) ?_
 refine tr1 rfl (aC (v := .d (.lit (.int .i64 week_2))) (aA rfl) rfl rfl) ?_
 obtain ⟨r2, h3, h⟩ := bind_some h
 refine cA rfl (dQ (passed := []) (aA rfl) rfl (.func _ _ Try.call44) rfl rfl (rA _ _ _ h3)) ?_
 rintro _ ⟨_, _, ⟨b5, w6, rfl, rfl⟩, rfl⟩
 obtain ⟨_ | y4, e7⟩ := r2
 ·have h := vD h
  refine fJ (aV [0] rfl rfl (le_refl _)) ?_
  refine tr1 rfl (aC (v := .tup [.d (.lit (.pointer none)), .d (.lit (.int .i64 e7))]) (aA rfl) rfl rfl) ?_
  refine tr1 rfl (cW (aA rfl) rfl rfl) ?_
  refine tr1 rfl (cW (aA rfl) rfl rfl) ?_
  refine tr1 rfl (aI (v := .d (.lit (.pointer none))) (aA rfl) rfl rfl) ?_
  refine tr1 rfl (aI (v := .d (.lit (.int .i64 e7))) (aA rfl) rfl rfl) ?_
  refine aF ?_
  refine aG ?_
  refine aG ?_
  refine aE ?_
  refine tr1 rfl (aC (v := .d (.lit (.int .i64 e7))) (aA rfl) rfl rfl) ?_
  refine tr1 rfl (bB (aA rfl) rfl rfl rfl) ?_
  refine aF ?_
  refine bN rfl (fun c8 => ?_) (fun c8 => ?_)
  ·have h := aP c8 h
   refine aG ?_
   refine aE ?_
   refine tr1 rfl (aC (v := .d (.lit (.int .i64 e7))) (aA rfl) rfl rfl) ?_
   refine tr1 rfl (pA 1 (aA rfl)) ?_
   refine tr1 rfl (aI (v := .d (.lit (.int .i64 e7))) (aA rfl) rfl rfl) ?_
   refine aF ?_
   have h := Option.some.inj h
   subst h
   refine cP (cD (cJ (l := [6, 7]) ⟨rfl, rfl, trivial⟩)) ?_
   exact bT ⟨rfl, _, .two _ _, rfl, rfl⟩
  ·have h := aO c8 h
   refine bK ?_
   refine aG ?_
   refine aE ?_
   refine tr1 rfl (iI 3 1 (.inl rfl) (aA rfl)) ?_
   refine aF ?_
   refine aG ?_
   refine aG ?_
   refine aE ?_
   refine tr1 rfl (aC (v := .d (.lit (.pointer none))) (aA rfl) rfl rfl) ?_
   refine tr1 rfl (aC (v := .d (.lit (.pointer none))) (aA rfl) rfl rfl) ?_
   refine tr1 rfl (aC (v := .d (.lit (.int .i64 player_1))) (aA rfl) rfl rfl) ?_
   refine tr1 rfl (aC (v := .d (.lit (.int .i64 week_2))) (aA rfl) rfl rfl) ?_
   cases h
 ·have h := vE h
  refine fJ (aV [0, 1, 2] rfl rfl (le_refl _)) ?_
  refine tr1 rfl (aC (v := .tup [.bp b5 0 0, .d (.lit (.int .i64 e7))]) (aA rfl) rfl rfl) ?_
  refine tr1 rfl (cW (aA rfl) rfl rfl) ?_
  refine tr1 rfl (cW (aA rfl) rfl rfl) ?_
  refine tr1 rfl (aI (v := .bp b5 0 0) (aA rfl) rfl rfl) ?_
  refine tr1 rfl (aI (v := .d (.lit (.int .i64 e7))) (aA rfl) rfl rfl) ?_
  refine aF ?_
  refine aG ?_
  refine aG ?_
  refine aE ?_
  refine tr1 rfl (aC (v := .d (.lit (.int .i64 e7))) (aA rfl) rfl rfl) ?_
  refine tr1 rfl (bB (aA rfl) rfl rfl rfl) ?_
  refine aF ?_
  refine bN rfl (fun c10 => ?_) (fun c10 => ?_)
  ·have h := aP c10 h
   refine aG ?_
   refine aE ?_
   refine tr1 rfl (aC (v := .d (.lit (.int .i64 e7))) (aA rfl) rfl rfl) ?_
   refine tr1 rfl (pA 1 (aA rfl)) ?_
   refine tr1 rfl (aI (v := .d (.lit (.int .i64 e7))) (aA rfl) rfl rfl) ?_
   refine aF ?_
   have h := Option.some.inj h
   subst h
   refine cP (cD (cJ (l := [6, 7]) ⟨rfl, rfl, trivial⟩)) ?_
   exact bT ⟨rfl, _, .two _ _, rfl, rfl⟩
  ·have h := aO c10 h
   refine bK ?_
   refine aG ?_
   refine aE ?_
   refine tr1 rfl (iI 3 1 (.inl rfl) (aA rfl)) ?_
   refine aF ?_
   refine aG ?_
   refine aG ?_
   refine aE ?_
   refine tr1 rfl (aC (v := .bp b5 0 0) (aA rfl) rfl rfl) ?_
   refine tr1 rfl (aC (v := .bp b5 0 0) (aA rfl) rfl rfl) ?_
   refine tr1 rfl (aC (v := .d (.lit (.int .i64 player_1))) (aA rfl) rfl rfl) ?_
   refine tr1 rfl (aC (v := .d (.lit (.int .i64 week_2))) (aA rfl) rfl rfl) ?_
   refine fJ (aV [2, 3, 0, 1] rfl rfl (le_refl _)) ?_
   apply aAf [.box b1 0 (aZ l_0), .arr (.slice none 0 0) 3 1 (([] : List Int).map cE)] [.box b5 0 [.lit (.int .i64 y4.Ledger.Players), .lit (.int .i64 y4.Ledger.Counts), .lit w6, .sl 3 (y4.Ledger.Bans.map aK), .sl 3 (y4.Ledger.Frozen.map aK)], .arr w6 42 5 (y4.Ledger.Reports.map aB)] rfl
   exact fV (k := 24) (v := .cp [.lit (.int .i64 y4.Ledger.Players), .lit (.int .i64 y4.Ledger.Counts), .sl 5 (y4.Ledger.Reports.map aB), .sl 3 (y4.Ledger.Bans.map aK), .sl 3 (y4.Ledger.Frozen.map aK)]) ((mH 0 rfl rfl (dvc (.same _) (dvc (.same _) (dvc (iE 1 rfl (dD (f := aB) fun _ => rfl)) (dvc (.same _) (dvc (.same _) dvn))))))) (fV (k := 23) (v := .cp [.lit (.int .i64 y4.Ledger.Players), .lit (.int .i64 y4.Ledger.Counts), .sl 5 (y4.Ledger.Reports.map aB), .sl 3 (y4.Ledger.Bans.map aK), .sl 3 (y4.Ledger.Frozen.map aK)]) ((mH 0 rfl rfl (dvc (.same _) (dvc (.same _) (dvc (iE 1 rfl (dD (f := aB) fun _ => rfl)) (dvc (.same _) (dvc (.same _) dvn))))))) (fV (k := 18) (v := .cp [.lit (.int .i64 y4.Ledger.Players), .lit (.int .i64 y4.Ledger.Counts), .sl 5 (y4.Ledger.Reports.map aB), .sl 3 (y4.Ledger.Bans.map aK), .sl 3 (y4.Ledger.Frozen.map aK)]) ((mH 0 rfl rfl (dvc (.same _) (dvc (.same _) (dvc (iE 1 rfl (dD (f := aB) fun _ => rfl)) (dvc (.same _) (dvc (.same _) dvn))))))) (fV (k := 17) (v := .any) (.any _) (fV (k := 13) (v := .any) (.any _) (fV (k := 8) (v := .cp [.lit (.int .i64 y4.Ledger.Players), .lit (.int .i64 y4.Ledger.Counts), .sl 5 (y4.Ledger.Reports.map aB), .sl 3 (y4.Ledger.Bans.map aK), .sl 3 (y4.Ledger.Frozen.map aK)]) ((mH 0 rfl rfl (dvc (.same _) (dvc (.same _) (dvc (iE 1 rfl (dD (f := aB) fun _ => rfl)) (dvc (.same _) (dvc (.same _) dvn))))))) (qE _ _))))))
   obtain ⟨r12, h13, h⟩ := bind_some h
   refine tr1 rfl (lD (aA rfl) (.func _ _ Try.call72) rfl rfl (pJ _ _ _ h13)) ?_
   obtain ⟨r14, h15, h⟩ := bind_some h
   refine tr1 rfl (lD (aA rfl) (.func _ _ Try.call71) rfl rfl (pL _ _ h15)) ?_
   refine tr1 rfl (dR (aA rfl) rfl bQ.of) ?_
   refine tr1 rfl (aC (v := .d (.lit (.int .i64 0))) (aA rfl) rfl rfl) ?_
   refine aF ?_
   refine bZ ?_
   refine cM [28, 29] (fun (s16 : Int × (List Int) × Value) => [(10, .d (.lit s16.2.2)), (30, .d (.lit (.int .i64 s16.1)))]) (fun (s16 : Int × (List Int) × Value) => [.arr s16.2.2 3 1 (s16.2.1.map cE)]) (fun (k : Nat) (s16 : Int × (List Int) × Value) => lH r14 (r14.length : Int) k s16.1 s16.2.1) (fun _ => rfl) (0, ([] : List Int), (.slice none 0 0)) h (aV [1] rfl rfl (aM rfl (aM rfl (aX ⟨rfl, rfl, trivial⟩)))) ?_
   rintro k18 ⟨t30_0_16, out_0_16, w17⟩ h
   simp only [lH] at h
   refine aG ?_
   refine aE ?_
   refine tr1 rfl (bB (aA rfl) rfl rfl rfl) ?_
   refine aF ?_
   refine aG ?_
   refine bN rfl (fun c19 => ?_) (fun c19 => ?_)
   ·have h := aP c19 h
    refine bK ?_
    refine aG ?_
    refine bZ ?_
    refine aG ?_
    refine aE ?_
    obtain ⟨x20, h21, h⟩ := bind_some h
    refine tr1 rfl (bJ (aA rfl) rfl rfl bQ.of (bF aB h21)) ?_
    refine tr1 rfl (fN (aA rfl) rfl dW (es := (aB x20)) rfl rfl) ?_
    refine cA rfl (gR (zs := [.lit (.int .i64 0), .lit (.int .i64 0), .lit (.int .i64 0), .lit (.int .i64 0), .lit (.bool false)]) (aA rfl) Try.zeroValue42 rfl rfl) ?_
    rintro _ ⟨b22, rfl⟩
    refine tr1 rfl (cO (i := 1) rfl rfl rfl rfl rfl Try.sizeOf42 rfl (aA rfl) (Nat.le_of_ble_eq_true rfl) (ds' := (aB x20)) rfl) ?_
    refine aF ?_
    refine aE ?_
    refine tr1 rfl (aC (v := .d (.lit w17)) (aA rfl) rfl rfl) ?_
    refine tr1 rfl (aU (aA rfl) rfl iU) ?_
    refine tr1 rfl (aW (aA rfl) rfl (i := 1) rfl rfl bI) ?_
    refine tr1 rfl (jL (aA rfl) eP rfl rfl (rows := ([x20.Id]).map cE) rfl (dD (f := cE) fun _ => rfl) rfl (by decide)) ?_
    obtain ⟨x23, h24, h⟩ := bind_some h
    refine cA rfl (lP (i := 0) (aA rfl) eP rfl rfl rfl (fun _ => rfl) h24 rfl) ?_
    rintro _ ⟨v25, rfl⟩
    refine tr1 rfl (aI (v := .d (.lit v25)) (aA rfl) rfl rfl) ?_
    refine dE ?_
    refine aE ?_
    refine tr1 rfl (aY (aA rfl) rfl rfl rfl) ?_
    refine tr1 rfl (aC (v := .d (.lit (.int .i64 ((w64 (t30_0_16 + 1)))))) (aA rfl) rfl rfl) ?_
    refine aF ?_
    exact ⟨(w64 (t30_0_16 + 1), x23, v25), h, aV [0] rfl rfl (aM rfl (aM rfl (aX ⟨rfl, rfl, trivial⟩)))⟩
   ·have h := aO c19 h
    refine cT ?_
    refine .inl ⟨rfl, ?_⟩
    simp only [qB] at h
    refine aG ?_
    refine aE ?_
    refine tr1 rfl (aC (v := .d (.lit w17)) (aA rfl) rfl rfl) ?_
    obtain ⟨r26, h27, h⟩ := bind_some h
    refine cA rfl (dQ (passed := [.arr w17 3 1 (out_0_16.map cE)]) (aA rfl) rfl (.func _ _ Try.call73) rfl rfl (xX out_0_16 h27)) ?_
    rintro _ ⟨_, _, ⟨rfl, rfl⟩, rfl⟩
    refine aF ?_
    refine aG ?_
    refine aE ?_
    refine tr1 rfl (aC (v := .d (.lit w17)) (aA rfl) rfl rfl) ?_
    refine tr1 rfl (aI (v := .d (.lit w17)) (aA rfl) rfl rfl) ?_
    refine tr1 rfl (aI (v := .d (.lit (.int .i64 0))) (aA rfl) rfl rfl) ?_
    refine aF ?_
    have h := Option.some.inj h
    subst h
    refine cP (cD (fV (k := 7) (v := .d (.lit (.int .i64 0))) (.same _) (fV (k := 6) (v := .d (.sl 1 (r26.map cE))) (.d (iE 0 rfl (dD (f := cE) fun _ => rfl))) (uU)))) ?_
    exact bT ⟨rfl, _, .two _ _, rfl, rfl⟩

end Go.Am
