/- The functions compute what the shallow ones say: printed by program. -/
import Derived.Test.YtaocljlhapoieaaRankLeavesSimP1
namespace Go.Am
open Go.Proofs
set_option maxRecDepth 100000
set_option maxHeartbeats 4000000

theorem rC (l_0 : aM) (player_1 : Int) (week_2 : Int) {r : (Option bW) × Int} (h : nQ l_0 player_1 week_2 = some r) : fI Try.prog 44 [.agg (aX l_0), .d (.lit (.int .i64 player_1)), .d (.lit (.int .i64 week_2))] [] (fun r' o' => ∃ (b : Nat) (w0 : Value), r' = .tup [(match r.1 with | none => .d (.lit (.pointer none)) | some _ => .bp b 0 0), .d (.lit (.int .i64 r.2))] ∧ o' = (match r.1 with | none => [] | some x => [.box b 0 [.lit (.int .i64 x.Ledger.Players), .lit (.int .i64 x.Ledger.Counts), .lit w0, .sl 3 (x.Ledger.Bans.map aI), .sl 3 (x.Ledger.Frozen.map aI)], .arr w0 42 5 (x.Ledger.Reports.map aC)])) := by
 unfold nQ at h
 refine lM Try.func44 rfl (rs := [.tmp 6, .tmp 7]) Try.results44 Try.ntmps44 (Nat.le_of_ble_eq_true rfl) ?_
 refine aG ?_
 refine aE ?_
 refine bQ rfl (fN (v := .agg (aX l_0)) (aA rfl) rfl rfl rfl) ?_
 rintro _ ⟨b1, rfl⟩
 refine tr1 rfl (aJ (v := pX cE (none : Option bW)) (aA rfl) rfl rfl) ?_
 refine tr1 rfl (aJ (v := .d (.lit (.int .i64 0))) (aA rfl) rfl rfl) ?_
 refine aF ?_
 refine aG ?_
 refine aE ?_
 refine tr1 rfl (cY (aA rfl) rfl (i := 0) rfl fL (es := (aX l_0)) rfl rfl) ?_
 obtain ⟨r2, h3, h⟩ := bind_some h
 refine bQ rfl (dI (passed := []) (aA rfl) rfl (.func _ _ Try.call80) rfl rfl (aDe _ h3)) ?_
 rintro _ ⟨_, _, ⟨b5, w6, rfl, rfl⟩, rfl⟩
 obtain ⟨_ | y4, e7⟩ := r2
 ·have h := vH h
  refine fH (aV [0] rfl rfl (le_refl _)) ?_
  refine tr1 rfl (aD (v := .tup [.d (.lit (.pointer none)), .d (.lit (.int .i64 e7))]) (aA rfl) rfl rfl) ?_
  refine tr1 rfl (cN (aA rfl) rfl rfl) ?_
  refine tr1 rfl (cN (aA rfl) rfl rfl) ?_
  refine tr1 rfl (aJ (v := .d (.lit (.pointer none))) (aA rfl) rfl rfl) ?_
  refine tr1 rfl (aJ (v := .d (.lit (.int .i64 e7))) (aA rfl) rfl rfl) ?_
  refine aF ?_
  refine aG ?_
  refine aG ?_
  refine aE ?_
  refine tr1 rfl (aD (v := .d (.lit (.int .i64 e7))) (aA rfl) rfl rfl) ?_
  refine tr1 rfl (bC (aA rfl) rfl rfl rfl) ?_
  refine aF ?_
  refine bJ rfl (fun c8 => ?_) (fun c8 => ?_)
  ·have h := aS c8 h
   refine aG ?_
   refine aE ?_
   refine tr1 rfl (aD (v := .d (.lit (.int .i64 e7))) (aA rfl) rfl rfl) ?_
   refine tr1 rfl (aJ (v := pX cE (none : Option bW)) (aA rfl) rfl rfl) ?_
   refine tr1 rfl (aJ (v := .d (.lit (.int .i64 e7))) (aA rfl) rfl rfl) ?_
   refine aF ?_
   have h := Option.some.inj h
   subst h
   exact bO ⟨rfl, _, [], [.box b1 0 (aX l_0)], _, .two (.tmp 6 (v := pX cE (none : Option bW)) rfl) (.tmp 7 (v := .d (.lit (.int .i64 e7))) rfl), .refl _, .same _, 0, undef, rfl, rfl⟩
  ·have h := aR c8 h
   refine bH ?_
   refine aG ?_
   refine aG ?_
   refine aE ?_
   refine tr1 rfl (aD (v := .d (.lit (.int .i64 player_1))) (aA rfl) rfl rfl) ?_
   refine tr1 rfl (aQ (aA rfl) rfl jN) ?_
   refine tr1 rfl (aT (aA rfl) rfl (i := 0) rfl rfl bD) ?_
   refine tr1 rfl (bA (aA rfl) rfl rfl rfl) ?_
   obtain ⟨r9, h10, h⟩ := bind_some h
   refine tr1 rfl (cC (aA rfl) (.func _ _ Try.call47) rfl rfl (BVs.refl _ _) (eS _ _ _ h10) rfl) ?_
   refine tr1 rfl (fC (aA rfl) rfl) ?_
   refine tr1 rfl (aD (v := .d (.lit (.bool (!r9)))) (aA rfl) rfl rfl) ?_
   obtain ⟨b11, h12, h⟩ := bind_some h
   refine bX 4 [8] 28 b11 ?_ ?_
   ·refine bG (!r9) (fun c14 => ?_) (fun c14 => ?_)
    ·have h12 := aS c14 h12
     refine aP rfl rfl (aA rfl) rfl (aA rfl) rfl c14 ?_
     refine aP rfl rfl (aA rfl) rfl (aA rfl) rfl c14 ?_
     refine aP rfl rfl (aA rfl) rfl (aA rfl) rfl c14 ?_
     refine tr1 rfl (bN (v := .d (.lit (.bool true))) (aA rfl) rfl c14 rfl rfl) ?_
     have h12 := Option.some.inj h12
     subst h12
     refine aF (aZ rfl ⟨rfl, trivial⟩ rfl)
    ·have h12 := aR c14 h12
     refine aL rfl rfl (aA rfl) rfl c14 (aD (v := .d (.lit (.int .i64 week_2))) (aA rfl) rfl rfl) ?_
     obtain ⟨r15, h16, h12⟩ := bind_some h12
     refine aL rfl rfl (aA rfl) rfl c14 (cC (aA rfl) (.func _ _ Try.call47) rfl rfl (BVs.refl _ _) (eS _ _ _ h16) rfl) ?_
     refine aL rfl rfl (aA rfl) rfl c14 (fC (aA rfl) rfl) ?_
     refine tr1 rfl (bM (v := .d (.lit (.bool (!r15)))) (aA rfl) rfl c14 rfl rfl) ?_
     have h12 := Option.some.inj h12
     subst h12
     refine aF (aZ rfl ⟨rfl, trivial⟩ rfl)
   ·refine aF ?_
    refine bJ rfl (fun c13 => ?_) (fun c13 => ?_)
    ·have h := aS c13 h
     refine aG ?_
     refine aE ?_
     refine tr1 rfl (aJ (v := pX cE (none : Option bW)) (aA rfl) rfl rfl) ?_
     refine tr1 rfl (aJ (v := .d (.lit (.int .i64 1))) (aA rfl) rfl rfl) ?_
     refine aF ?_
     have h := Option.some.inj h
     subst h
     exact bO ⟨rfl, _, [], [.box b1 0 (aX l_0)], _, .two (.tmp 6 (v := pX cE (none : Option bW)) rfl) (.tmp 7 (v := .d (.lit (.int .i64 1))) rfl), .refl _, .same _, 0, undef, rfl, rfl⟩
    ·have h := aR c13 h
     refine bH ?_
     refine aG ?_
     refine aE ?_
     refine tr1 rfl (aD (v := .d (.lit (.pointer none))) (aA rfl) rfl rfl) ?_
     refine tr1 rfl (aJ (v := .d (.lit (.pointer none))) (aA rfl) rfl rfl) ?_
     refine tr1 rfl (aJ (v := .d (.lit (.int .i64 0))) (aA rfl) rfl rfl) ?_
     refine aF ?_
     have h := Option.some.inj h
     subst h
     exact bO ⟨rfl, _, [], [.box b1 0 (aX l_0)], _, .two (.tmp 6 (v := .d (.lit (.pointer none))) rfl) (.tmp 7 (v := .d (.lit (.int .i64 0))) rfl), .refl _, .same _, 0, undef, rfl, rfl⟩
 ·have h := vI h
  refine fH (aV [0, 1, 2] rfl rfl (le_refl _)) ?_
  refine tr1 rfl (aD (v := .tup [.bp b5 0 0, .d (.lit (.int .i64 e7))]) (aA rfl) rfl rfl) ?_
  refine tr1 rfl (cN (aA rfl) rfl rfl) ?_
  refine tr1 rfl (cN (aA rfl) rfl rfl) ?_
  refine tr1 rfl (aJ (v := .bp b5 0 0) (aA rfl) rfl rfl) ?_
  refine tr1 rfl (aJ (v := .d (.lit (.int .i64 e7))) (aA rfl) rfl rfl) ?_
  refine aF ?_
  refine aG ?_
  refine aG ?_
  refine aE ?_
  refine tr1 rfl (aD (v := .d (.lit (.int .i64 e7))) (aA rfl) rfl rfl) ?_
  refine tr1 rfl (bC (aA rfl) rfl rfl rfl) ?_
  refine aF ?_
  refine bJ rfl (fun c17 => ?_) (fun c17 => ?_)
  ·have h := aS c17 h
   refine aG ?_
   refine aE ?_
   refine tr1 rfl (aD (v := .d (.lit (.int .i64 e7))) (aA rfl) rfl rfl) ?_
   refine tr1 rfl (aJ (v := pX cE (none : Option bW)) (aA rfl) rfl rfl) ?_
   refine tr1 rfl (aJ (v := .d (.lit (.int .i64 e7))) (aA rfl) rfl rfl) ?_
   refine aF ?_
   have h := Option.some.inj h
   subst h
   exact bO ⟨rfl, _, [], [.box b5 0 [.lit (.int .i64 y4.Ledger.Players), .lit (.int .i64 y4.Ledger.Counts), .lit w6, .sl 3 (y4.Ledger.Bans.map aI), .sl 3 (y4.Ledger.Frozen.map aI)], .arr w6 42 5 (y4.Ledger.Reports.map aC), .box b1 0 (aX l_0)], _, .two (.tmp 6 (v := pX cE (none : Option bW)) rfl) (.tmp 7 (v := .d (.lit (.int .i64 e7))) rfl), .refl _, .same _, 0, undef, rfl, rfl⟩
  ·have h := aR c17 h
   refine bH ?_
   refine aG ?_
   refine aG ?_
   refine aE ?_
   refine tr1 rfl (aD (v := .d (.lit (.int .i64 player_1))) (aA rfl) rfl rfl) ?_
   refine tr1 rfl (aQ (aA rfl) rfl jN) ?_
   refine tr1 rfl (aT (aA rfl) rfl (i := 2) rfl rfl bD) ?_
   refine tr1 rfl (bA (aA rfl) rfl rfl rfl) ?_
   obtain ⟨r18, h19, h⟩ := bind_some h
   refine tr1 rfl (cC (aA rfl) (.func _ _ Try.call47) rfl rfl (BVs.refl _ _) (eS _ _ _ h19) rfl) ?_
   refine tr1 rfl (fC (aA rfl) rfl) ?_
   refine tr1 rfl (aD (v := .d (.lit (.bool (!r18)))) (aA rfl) rfl rfl) ?_
   obtain ⟨b20, h21, h⟩ := bind_some h
   refine bX 4 [8] 28 b20 ?_ ?_
   ·refine bG (!r18) (fun c23 => ?_) (fun c23 => ?_)
    ·have h21 := aS c23 h21
     refine aP rfl rfl (aA rfl) rfl (aA rfl) rfl c23 ?_
     refine aP rfl rfl (aA rfl) rfl (aA rfl) rfl c23 ?_
     refine aP rfl rfl (aA rfl) rfl (aA rfl) rfl c23 ?_
     refine tr1 rfl (bN (v := .d (.lit (.bool true))) (aA rfl) rfl c23 rfl rfl) ?_
     have h21 := Option.some.inj h21
     subst h21
     refine aF (aZ rfl ⟨rfl, trivial⟩ rfl)
    ·have h21 := aR c23 h21
     refine aL rfl rfl (aA rfl) rfl c23 (aD (v := .d (.lit (.int .i64 week_2))) (aA rfl) rfl rfl) ?_
     obtain ⟨r24, h25, h21⟩ := bind_some h21
     refine aL rfl rfl (aA rfl) rfl c23 (cC (aA rfl) (.func _ _ Try.call47) rfl rfl (BVs.refl _ _) (eS _ _ _ h25) rfl) ?_
     refine aL rfl rfl (aA rfl) rfl c23 (fC (aA rfl) rfl) ?_
     refine tr1 rfl (bM (v := .d (.lit (.bool (!r24)))) (aA rfl) rfl c23 rfl rfl) ?_
     have h21 := Option.some.inj h21
     subst h21
     refine aF (aZ rfl ⟨rfl, trivial⟩ rfl)
   ·refine aF ?_
    refine bJ rfl (fun c22 => ?_) (fun c22 => ?_)
    ·have h := aS c22 h
     refine aG ?_
     refine aE ?_
     refine tr1 rfl (aJ (v := pX cE (none : Option bW)) (aA rfl) rfl rfl) ?_
     refine tr1 rfl (aJ (v := .d (.lit (.int .i64 1))) (aA rfl) rfl rfl) ?_
     refine aF ?_
     have h := Option.some.inj h
     subst h
     exact bO ⟨rfl, _, [], [.box b5 0 [.lit (.int .i64 y4.Ledger.Players), .lit (.int .i64 y4.Ledger.Counts), .lit w6, .sl 3 (y4.Ledger.Bans.map aI), .sl 3 (y4.Ledger.Frozen.map aI)], .arr w6 42 5 (y4.Ledger.Reports.map aC), .box b1 0 (aX l_0)], _, .two (.tmp 6 (v := pX cE (none : Option bW)) rfl) (.tmp 7 (v := .d (.lit (.int .i64 1))) rfl), .refl _, .same _, 0, undef, rfl, rfl⟩
    ·have h := aR c22 h
     refine bH ?_
     refine aG ?_
     refine aE ?_
     refine tr1 rfl (aD (v := .bp b5 0 0) (aA rfl) rfl rfl) ?_
     refine tr1 rfl (aJ (v := .bp b5 0 0) (aA rfl) rfl rfl) ?_
     refine tr1 rfl (aJ (v := .d (.lit (.int .i64 0))) (aA rfl) rfl rfl) ?_
     refine aF ?_
     have h := Option.some.inj h
     subst h
     exact bO ⟨rfl, _, [.box b5 0 [.lit (.int .i64 y4.Ledger.Players), .lit (.int .i64 y4.Ledger.Counts), .lit w6, .sl 3 (y4.Ledger.Bans.map aI), .sl 3 (y4.Ledger.Frozen.map aI)], .arr w6 42 5 (y4.Ledger.Reports.map aC)], [.box b1 0 (aX l_0)], _, .two (.tmp 6 (v := .bp b5 0 0) rfl) (.tmp 7 (v := .d (.lit (.int .i64 0))) rfl), .refl _, .same _, b5, w6, rfl, rfl⟩

theorem uP (b_0 : bW) (r_1 : aB) (week_2 : Int) {r : Int} (h : mH b_0 r_1 week_2 = some r) : Fn Try.prog 77 [.cp (cE b_0), .agg (aC r_1), .d (.lit (.int .i64 week_2))] (.d (.lit (.int .i64 r))) := by
 unfold mH at h
 refine Fn.of_tr Try.func77 rfl (rs := [.tmp 6]) Try.results77 Try.ntmps77 (Nat.le_of_ble_eq_true rfl) ?_
 refine aG ?_
 refine aE ?_
 refine bQ rfl (fN (v := .agg (aC r_1)) (aA rfl) rfl rfl rfl) ?_
 rintro _ ⟨b1, rfl⟩
 refine tr1 rfl (aJ (v := .d (.lit (.int .i64 0))) (aA rfl) rfl rfl) ?_
 refine aF ?_
 refine aG ?_
 refine aE ?_
 refine tr1 rfl (aD (v := .d (.lit (.int .i64 week_2))) (aA rfl) rfl rfl) ?_
 refine tr1 rfl (aQ (aA rfl) rfl kJ) ?_
 refine tr1 rfl (aT (aA rfl) rfl (i := 0) rfl rfl bD) ?_
 refine tr1 rfl (bA (aA rfl) rfl rfl rfl) ?_
 refine tr1 rfl (aJ (v := .d (.lit (.int .i64 ((w64 (week_2 - r_1.Week)))))) (aA rfl) rfl rfl) ?_
 refine aF ?_
 refine aG ?_
 refine aG ?_
 refine aE ?_
 refine tr1 rfl (aD (v := .cp [.lit (.int .i64 b_0.Ledger.Players), .lit (.int .i64 b_0.Ledger.Counts), .sl 5 (b_0.Ledger.Reports.map aC), .sl 3 (b_0.Ledger.Bans.map aI), .sl 3 (b_0.Ledger.Frozen.map aI)]) (aA rfl) rfl rfl) ?_
 refine tr1 rfl (oZ (aA rfl) rfl) ?_
 refine tr1 rfl (cX (aA rfl) rfl iP (es := [.lit (.int .i64 b_0.Ledger.Players), .lit (.int .i64 b_0.Ledger.Counts), .sl 5 (b_0.Ledger.Reports.map aC), .sl 3 (b_0.Ledger.Bans.map aI), .sl 3 (b_0.Ledger.Frozen.map aI)]) rfl) ?_
 refine tr1 rfl (cX (aA rfl) rfl lY (es := [.sl 3 (b_0.Ledger.Frozen.map aI)]) rfl) ?_
 refine tr1 rfl (cL (aA rfl) rfl kE) ?_
 refine tr1 rfl (dW (aA rfl) rfl fT.of) ?_
 refine tr1 rfl (aD (v := .d (.lit (.int .i64 0))) (aA rfl) rfl rfl) ?_
 refine aF ?_
 refine bT ?_
 refine cM [2, 4, 18, 19] (fun (s2 : Int × Int) => [(7, .d (.lit (.int .i64 s2.1))), (20, .d (.lit (.int .i64 s2.2)))]) (fun (s2 : Int × Int) => [.box b1 0 (aC r_1)]) (fun (k : Nat) (s2 : Int × Int) => iB week_2 b_0.Ledger.Frozen (b_0.Ledger.Frozen.length : Int) r_1 k s2.1 s2.2) (fun _ => rfl) (w64 (week_2 - r_1.Week), 0) h (aV [0] rfl rfl (aN rfl (aN rfl (aY ⟨rfl, rfl, rfl, rfl, trivial⟩)))) ?_
 rintro k3 ⟨n_0_2, t20_0_2⟩ h
 simp only [iB] at h
 refine aG ?_
 refine aE ?_
 refine tr1 rfl (bC (aA rfl) rfl rfl rfl) ?_
 refine aF ?_
 refine aG ?_
 refine bJ rfl (fun c4 => ?_) (fun c4 => ?_)
 ·have h := aS c4 h
  refine bH ?_
  refine aG ?_
  refine bT ?_
  refine aG ?_
  refine aE ?_
  obtain ⟨x5, h6, h⟩ := bind_some h
  refine tr1 rfl (cA (aA rfl) rfl rfl fT.of (bP aI h6)) ?_
  refine tr1 rfl (fS (aA rfl) rfl vA (es := (aI x5)) rfl rfl) ?_
  refine bQ rfl (gB (zs := [.lit (.int .i64 0), .lit (.int .i64 0), .lit (.int .i64 0)]) (aA rfl) Try.zeroValue66 rfl rfl) ?_
  rintro _ ⟨b7, rfl⟩
  refine tr1 rfl (cB (i := 1) rfl rfl rfl rfl rfl Try.sizeOf66 rfl (aA rfl) (Nat.le_of_ble_eq_true rfl) (ds' := (aI x5)) rfl) ?_
  refine aF ?_
  refine aG ?_
  refine aE ?_
  refine tr1 rfl (aQ (aA rfl) rfl jE) ?_
  refine tr1 rfl (aT (aA rfl) rfl (i := 1) rfl rfl bD) ?_
  refine tr1 rfl (aQ (aA rfl) rfl qE) ?_
  refine tr1 rfl (aT (aA rfl) rfl (i := 0) rfl rfl bD) ?_
  refine tr1 rfl (bC (aA rfl) rfl rfl rfl) ?_
  refine aF ?_
  refine bJ rfl (fun c8 => ?_) (fun c8 => ?_)
  ·have h := aS c8 h
   refine aE ?_
   refine tr1 rfl (aD (v := .d (.lit (.int .i64 n_0_2))) (aA rfl) rfl rfl) ?_
   refine tr1 rfl (aQ (aA rfl) rfl kK) ?_
   refine tr1 rfl (aT (aA rfl) rfl (i := 1) rfl rfl bD) ?_
   refine tr1 rfl (aD (v := .d (.lit (.int .i64 week_2))) (aA rfl) rfl rfl) ?_
   refine tr1 rfl (aEs (aA rfl) rfl rfl) ?_
   refine tr1 rfl (aQ (aA rfl) rfl iO) ?_
   refine tr1 rfl (aT (aA rfl) rfl (i := 1) rfl rfl bD) ?_
   refine tr1 rfl (aQ (aA rfl) rfl kJ) ?_
   refine tr1 rfl (aT (aA rfl) rfl (i := 0) rfl rfl bD) ?_
   refine tr1 rfl (bA (aA rfl) rfl rfl rfl) ?_
   refine tr1 rfl (aBn (aA rfl) rfl rfl) ?_
   refine tr1 rfl (bA (aA rfl) rfl rfl rfl) ?_
   refine tr1 rfl (bA (aA rfl) rfl rfl rfl) ?_
   refine tr1 rfl (aBn (aA rfl) rfl rfl) ?_
   refine tr1 rfl (bA (aA rfl) rfl rfl rfl) ?_
   refine tr1 rfl (aJ (v := .d (.lit (.int .i64 ((w64 (n_0_2 - (max 0 (w64 ((w64 ((min x5.To week_2) - (max x5.From (w64 (r_1.Week + 1))))) + 1))))))))) (aA rfl) rfl rfl) ?_
   refine eD ?_
   refine aE ?_
   refine tr1 rfl (bA (aA rfl) rfl rfl rfl) ?_
   refine tr1 rfl (aD (v := .d (.lit (.int .i64 ((w64 (t20_0_2 + 1)))))) (aA rfl) rfl rfl) ?_
   refine aF ?_
   exact ⟨(w64 (n_0_2 - (max 0 (w64 ((w64 ((min x5.To week_2) - (max x5.From (w64 (r_1.Week + 1))))) + 1)))), w64 (t20_0_2 + 1)), h, aV [0] rfl rfl (aN rfl (aN rfl (aY ⟨rfl, rfl, rfl, rfl, trivial⟩)))⟩
  ·have h := aR c8 h
   refine eG ?_
   refine aE ?_
   refine tr1 rfl (bA (aA rfl) rfl rfl rfl) ?_
   refine tr1 rfl (aD (v := .d (.lit (.int .i64 ((w64 (t20_0_2 + 1)))))) (aA rfl) rfl rfl) ?_
   refine aF ?_
   exact ⟨(n_0_2, w64 (t20_0_2 + 1)), h, aV [0] rfl rfl (aN rfl (aN rfl (aY ⟨rfl, rfl, rfl, rfl, trivial⟩)))⟩
 ·have h := aR c4 h
  refine cU ?_
  refine .inl ⟨rfl, ?_⟩
  simp only [qI] at h
  refine aG ?_
  refine aE ?_
  refine tr1 rfl (aD (v := .d (.lit (.int .i64 n_0_2))) (aA rfl) rfl rfl) ?_
  refine tr1 rfl (aJ (v := .d (.lit (.int .i64 n_0_2))) (aA rfl) rfl rfl) ?_
  refine aF ?_
  have h := Option.some.inj h
  subst h
  refine cR (cG (cK (l := [6]) ⟨rfl, trivial⟩)) ?_
  exact bO ⟨rfl, _, .one _, rfl, rfl⟩

theorem aBi (a_0 : aW) (c_1 : Int) (c_2 : Int) {r : Bool} (h : pQ a_0 c_1 c_2 = some r) : Fn Try.prog 83 [.agg (aI a_0), .cp [.lit (.int .i64 c_1)], .cp [.lit (.int .i64 c_2)]] (.d (.lit (.bool r))) := by
 unfold pQ at h
 refine Fn.of_tr Try.func83 rfl (rs := [.tmp 4]) Try.results83 Try.ntmps83 (Nat.le_of_ble_eq_true rfl) ?_
 refine aG ?_
 refine aE ?_
 refine bQ rfl (fN (v := .agg (aI a_0)) (aA rfl) rfl rfl rfl) ?_
 rintro _ ⟨b1, rfl⟩
 refine tr1 rfl (aJ (v := .d (.lit (.bool false))) (aA rfl) rfl rfl) ?_
 refine aF ?_
 refine aG ?_
 refine aE ?_
 refine tr1 rfl (aQ (aA rfl) rfl jE) ?_
 refine tr1 rfl (aT (aA rfl) rfl (i := 0) rfl rfl bD) ?_
 refine tr1 rfl (cL (aA rfl) rfl bD) ?_
 refine tr1 rfl (bC (aA rfl) rfl rfl rfl) ?_
 refine tr1 rfl (aD (v := .d (.lit (.bool ((decide (a_0.Player = c_1)))))) (aA rfl) rfl rfl) ?_
 obtain ⟨b2, h3, h⟩ := bind_some h
 refine bX 7 [] 16 b2 ?_ ?_
 ·refine bG (decide (a_0.Player = c_1)) (fun c4 => ?_) (fun c4 => ?_)
  ·have h3 := aS c4 h3
   refine aL rfl rfl (aA rfl) rfl c4 (cL (aA rfl) rfl bD) ?_
   refine aL rfl rfl (aA rfl) rfl c4 (aQ (aA rfl) rfl iO) ?_
   refine aL rfl rfl (aA rfl) rfl c4 (aT (aA rfl) rfl (i := 0) rfl rfl bD) ?_
   refine aL rfl rfl (aA rfl) rfl c4 (aQ (aA rfl) rfl kK) ?_
   refine aL rfl rfl (aA rfl) rfl c4 (aT (aA rfl) rfl (i := 0) rfl rfl bD) ?_
   obtain ⟨r5, h6, h3⟩ := bind_some h3
   refine aL rfl rfl (aA rfl) rfl c4 (cC (aA rfl) (.func _ _ Try.call47) rfl rfl (BVs.refl _ _) (eS _ _ _ h6) rfl) ?_
   refine tr1 rfl (bN (v := .d (.lit (.bool r5))) (aA rfl) rfl c4 rfl rfl) ?_
   have h3 := Option.some.inj h3
   subst h3
   refine aF (aZ rfl trivial rfl)
  ·have h3 := aR c4 h3
   refine aP rfl rfl (aA rfl) rfl (aA rfl) rfl c4 ?_
   refine aP rfl rfl (aA rfl) rfl (aA rfl) rfl c4 ?_
   refine aP rfl rfl (aA rfl) rfl (aA rfl) rfl c4 ?_
   refine aP rfl rfl (aA rfl) rfl (aA rfl) rfl c4 ?_
   refine aP rfl rfl (aA rfl) rfl (aA rfl) rfl c4 ?_
   refine aP rfl rfl (aA rfl) rfl (aA rfl) rfl c4 ?_
   refine tr1 rfl (bM (v := .d (.lit (.bool false))) (aA rfl) rfl c4 rfl rfl) ?_
   have h3 := Option.some.inj h3
   subst h3
   refine aF (aZ rfl trivial rfl)
 ·refine tr1 rfl (aJ (v := .d (.lit (.bool b2))) (aA rfl) rfl rfl) ?_
  refine aF ?_
  have h := Option.some.inj h
  subst h
  refine cR (cG (cK (l := [4]) ⟨rfl, trivial⟩)) ?_
  exact bO ⟨rfl, _, .one _, rfl, rfl⟩

theorem uW (all_0 : List aW) (player_1 : Int) (week_2 : Int) {r : Bool} (h : mN all_0 player_1 week_2 = some r) : Fn Try.prog 48 [.d (.sl 3 (all_0.map aI)), .d (.lit (.int .i64 player_1)), .d (.lit (.int .i64 week_2))] (.d (.lit (.bool r))) := by
 unfold mN at h
 refine Fn.of_tr Try.func48 rfl (rs := [.tmp 6]) Try.results48 Try.ntmps48 (Nat.le_of_ble_eq_true rfl) ?_
 refine aG ?_
 refine aE ?_
 refine bQ rfl (fN (v := .d (.lit (.int .i64 player_1))) (aA rfl) rfl rfl rfl) ?_
 rintro _ ⟨b1, rfl⟩
 refine bQ rfl (fN (v := .d (.lit (.int .i64 week_2))) (aA rfl) rfl rfl rfl) ?_
 rintro _ ⟨b2, rfl⟩
 refine tr1 rfl (aJ (v := .d (.lit (.bool false))) (aA rfl) rfl rfl) ?_
 refine aF ?_
 refine aG ?_
 refine aE ?_
 refine tr1 rfl (aD (v := .d (.sl 3 (all_0.map aI))) (aA rfl) rfl rfl) ?_
 refine tr1 rfl (xK (aA rfl) rfl rfl) ?_
 obtain ⟨r4, h5, h⟩ := bind_some h
 refine tr1 rfl (cC (aA rfl) (.func _ _ Try.call82) rfl rfl (.cons (.same _) (.cons ((aBm (.cons ((mC 0 rfl rfl (dvc (.same _) dvn))) (.cons ((mC 1 rfl rfl (dvc (.same _) dvn))) .nil)))) .nil)) (jA _ _ 83 [.cp [.lit (.int .i64 player_1)], .cp [.lit (.int .i64 week_2)]] Try.call83 (fun _ _ h => aBi _ _ _ h) h5) rfl) ?_
 refine tr1 rfl (aJ (v := .d (.lit (.bool r4))) (aA rfl) rfl rfl) ?_
 refine aF ?_
 have h := Option.some.inj h
 subst h
 refine cR (cG (cK (l := [6]) ⟨rfl, trivial⟩)) ?_
 exact bO ⟨rfl, _, .one _, rfl, rfl⟩

theorem pG (b_0 : bW) (player_1 : Int) (week_2 : Int) {r : (List aB)} (h : jQ b_0 player_1 week_2 = some r) : Fn Try.prog 72 [.cp (cE b_0), .d (.lit (.int .i64 player_1)), .d (.lit (.int .i64 week_2))] (.d (.sl 5 (r.map aC))) := by
 unfold jQ at h
 refine Fn.of_tr Try.func72 rfl (rs := [.tmp 6]) Try.results72 Try.ntmps72 (Nat.le_of_ble_eq_true rfl) ?_
 refine aG ?_
 refine aE ?_
 refine tr1 rfl (sG 5 (aA rfl)) ?_
 refine aF ?_
 refine aG ?_
 refine aE ?_
 refine tr1 rfl (gV 42 5 (.inl rfl) (aA rfl)) ?_
 refine aF ?_
 refine aG ?_
 refine aG ?_
 refine aE ?_
 refine tr1 rfl (aD (v := .cp [.lit (.int .i64 b_0.Ledger.Players), .lit (.int .i64 b_0.Ledger.Counts), .sl 5 (b_0.Ledger.Reports.map aC), .sl 3 (b_0.Ledger.Bans.map aI), .sl 3 (b_0.Ledger.Frozen.map aI)]) (aA rfl) rfl rfl) ?_
 refine tr1 rfl (oZ (aA rfl) rfl) ?_
 refine tr1 rfl (cX (aA rfl) rfl iP (es := [.lit (.int .i64 b_0.Ledger.Players), .lit (.int .i64 b_0.Ledger.Counts), .sl 5 (b_0.Ledger.Reports.map aC), .sl 3 (b_0.Ledger.Bans.map aI), .sl 3 (b_0.Ledger.Frozen.map aI)]) rfl) ?_
 refine tr1 rfl (cX (aA rfl) rfl eR (es := [.sl 5 (b_0.Ledger.Reports.map aC)]) rfl) ?_
 refine tr1 rfl (cL (aA rfl) rfl jI) ?_
 refine tr1 rfl (dW (aA rfl) rfl cD.of) ?_
 refine tr1 rfl (aD (v := .d (.lit (.int .i64 0))) (aA rfl) rfl rfl) ?_
 refine aF ?_
 refine bT ?_
 refine cM [0, 1, 2, 14, 15] (fun (s2 : Int × (List aB) × Value) => [(7, .d (.lit s2.2.2)), (16, .d (.lit (.int .i64 s2.1)))]) (fun (s2 : Int × (List aB) × Value) => [.arr s2.2.2 42 5 (s2.2.1.map aC)]) (fun (k : Nat) (s2 : Int × (List aB) × Value) => gL b_0 player_1 week_2 b_0.Ledger.Reports (b_0.Ledger.Reports.length : Int) k s2.1 s2.2.1) (fun _ => rfl) (0, ([] : List aB), (.slice none 0 0)) h (aV [0] rfl rfl (aN rfl (aN rfl (aY ⟨rfl, rfl, rfl, rfl, rfl, trivial⟩)))) ?_
 rintro k4 ⟨t16_0_2, out_0_2, w3⟩ h
 simp only [gL] at h
 refine aG ?_
 refine aE ?_
 refine tr1 rfl (bC (aA rfl) rfl rfl rfl) ?_
 refine aF ?_
 refine aG ?_
 refine bJ rfl (fun c5 => ?_) (fun c5 => ?_)
 ·have h := aS c5 h
  refine bH ?_
  refine aG ?_
  refine bT ?_
  refine aG ?_
  refine aE ?_
  obtain ⟨x6, h7, h⟩ := bind_some h
  refine tr1 rfl (cA (aA rfl) rfl rfl cD.of (bP aC h7)) ?_
  refine tr1 rfl (fS (aA rfl) rfl eB (es := (aC x6)) rfl rfl) ?_
  refine bQ rfl (gB (zs := [.lit (.int .i64 0), .lit (.int .i64 0), .lit (.int .i64 0), .lit (.int .i64 0), .lit (.bool false)]) (aA rfl) Try.zeroValue42 rfl rfl) ?_
  rintro _ ⟨b8, rfl⟩
  refine tr1 rfl (cB (i := 1) rfl rfl rfl rfl rfl Try.sizeOf42 rfl (aA rfl) (Nat.le_of_ble_eq_true rfl) (ds' := (aC x6)) rfl) ?_
  refine aF ?_
  refine aG ?_
  obtain ⟨b9, h10, h⟩ := bind_some h
  obtain ⟨b12, h13, h⟩ := bind_some h
  obtain ⟨b17, h18, h⟩ := bind_some h
  refine gN mix 29 [0, 1, 2, 7, 9, 14, 15, 16] [(48, .d (.lit (.bool b17)))] ?_ ?_
  ·refine bG (decide (x6.Player = player_1)) (fun c11 => ?_) (fun c11 => ?_)
   ·have h10 := aS c11 h10
    have h10 := Option.some.inj h10
    subst h10
    refine bG (decide (x6.Week ≤ week_2)) (fun c14 => ?_) (fun c14 => ?_)
    ·have h13 := aS c14 h13
     obtain ⟨r15, h16, h13⟩ := bind_some h13
     have h13 := Option.some.inj h13
     subst h13
     refine bG (decide (r15 < 52)) (fun c19 => ?_) (fun c19 => ?_)
     ·have h18 := aS c19 h18
      obtain ⟨r20, h21, h18⟩ := bind_some h18
      have h18 := Option.some.inj h18
      subst h18
      refine ⟨[(20, 0, .bp b8 0 1), (21, 1, .d (.lit (.int .i64 x6.Player))), (22, 2, .d (.lit (.int .i64 player_1))), (23, 3, .d (.lit (.bool ((decide (x6.Player = player_1)))))), (24, 4, .d (.lit (.bool ((decide (x6.Player = player_1)))))), (25, 5, .bp b8 0 2), (26, 6, .d (.lit (.int .i64 x6.Week))), (27, 7, .d (.lit (.int .i64 week_2))), (28, 8, .d (.lit (.bool ((decide (x6.Week ≤ week_2)))))), (29, 9, .d (.lit (.bool ((decide (x6.Week ≤ week_2)))))), (30, 10, .d (.lit (.bool (decide (x6.Week ≤ week_2))))), (31, 11, .cp [.lit (.int .i64 b_0.Ledger.Players), .lit (.int .i64 b_0.Ledger.Counts), .sl 5 (b_0.Ledger.Reports.map aC), .sl 3 (b_0.Ledger.Bans.map aI), .sl 3 (b_0.Ledger.Frozen.map aI)]), (32, 12, .agg (aC x6)), (33, 13, .d (.lit (.int .i64 week_2))), (34, 14, .d (.lit (.int .i64 r15))), (35, 15, .d (.lit (.bool ((decide (r15 < 52)))))), (36, 16, .d (.lit (.bool ((decide (r15 < 52)))))), (37, 17, .d (.lit (.bool (decide (r15 < 52))))), (38, 18, .cp [.lit (.int .i64 b_0.Ledger.Players), .lit (.int .i64 b_0.Ledger.Counts), .sl 5 (b_0.Ledger.Reports.map aC), .sl 3 (b_0.Ledger.Bans.map aI), .sl 3 (b_0.Ledger.Frozen.map aI)]), (39, 19, .cp [.lit (.int .i64 b_0.Ledger.Players), .lit (.int .i64 b_0.Ledger.Counts), .sl 5 (b_0.Ledger.Reports.map aC), .sl 3 (b_0.Ledger.Bans.map aI), .sl 3 (b_0.Ledger.Frozen.map aI)]), (40, 20, .cp [.lit (.int .i64 b_0.Ledger.Players), .lit (.int .i64 b_0.Ledger.Counts), .sl 5 (b_0.Ledger.Reports.map aC), .sl 3 (b_0.Ledger.Bans.map aI), .sl 3 (b_0.Ledger.Frozen.map aI)]), (41, 21, .cp [.sl 3 (b_0.Ledger.Bans.map aI)]), (42, 22, .d (.sl 3 (b_0.Ledger.Bans.map aI))), (43, 23, .d (.lit (.int .i64 player_1))), (44, 24, .bp b8 0 2), (45, 25, .d (.lit (.int .i64 x6.Week))), (46, 26, .d (.lit (.bool r20))), (47, 27, .d (.lit (.bool (!r20)))), (48, 28, .d (.lit (.bool (!r20))))], ?_, ?_⟩
      · exact ⟨by kernel_rfl, by kernel_rfl, by kernel_rfl, by kernel_rfl, by kernel_rfl, [([], []), ([0], []), ([], []), ([1, 2], []), ([3], []), ([4], []), ([4, 5], []), ([4], []), ([4, 6, 7], []), ([4, 8], []), ([9], []), ([10], []), ([10], []), ([10], []), ([10, 11, 12, 13], []), ([10, 14], []), ([10, 15], []), ([16], []), ([17], []), ([17, 18], []), ([17, 19], []), ([17, 20], []), ([17, 21], []), ([17], []), ([17], []), ([17, 24], []), ([17, 22, 23, 25], []), ([17, 26], []), ([17, 27], [])], by kernel_rfl, ⟨fun S hS => aK rfl (aO rfl (aQ (aA rfl) (aH hS rfl) qE)),
      fun S hS => aK rfl (aO rfl (aT (aA rfl) (aH hS rfl) (i := 1) rfl rfl bD)),
      fun S hS => aK rfl (aO rfl (aD (v := .d (.lit (.int .i64 player_1))) (aA rfl) (aH hS rfl) rfl)),
      fun S hS => aK rfl (aO rfl (bC (aA rfl) (aH hS rfl) (aH hS rfl) rfl)),
      fun S hS => aK rfl (aO rfl (aD (v := .d (.lit (.bool ((decide (x6.Player = player_1)))))) (aA rfl) (aH hS rfl) rfl)),
      fun S hS => aK rfl (bI rfl rfl (aA rfl) (aU hS rfl) c11 (aQ (aA rfl) (aH hS rfl) kJ)),
      fun S hS => aK rfl (bI rfl rfl (aA rfl) (aU hS rfl) c11 (aT (aA rfl) (aH hS rfl) (i := 1) rfl rfl bD)),
      fun S hS => aK rfl (bI rfl rfl (aA rfl) (aU hS rfl) c11 (aD (v := .d (.lit (.int .i64 week_2))) (aA rfl) (aH hS rfl) rfl)),
      fun S hS => aK rfl (bI rfl rfl (aA rfl) (aU hS rfl) c11 (bC (aA rfl) (aH hS rfl) (aH hS rfl) rfl)),
      fun S hS => aK rfl (aO rfl (bN (v := .d (.lit (.bool ((decide (x6.Week ≤ week_2)))))) (aA rfl) (aH hS rfl) c11 (aH hS rfl) rfl)),
      fun S hS => aK rfl (aO rfl (aD (v := .d (.lit (.bool (decide (x6.Week ≤ week_2))))) (aA rfl) (aH hS rfl) rfl)),
      fun S hS => aK rfl (bI rfl rfl (aA rfl) (aU hS rfl) c14 (aD (v := .cp [.lit (.int .i64 b_0.Ledger.Players), .lit (.int .i64 b_0.Ledger.Counts), .sl 5 (b_0.Ledger.Reports.map aC), .sl 3 (b_0.Ledger.Bans.map aI), .sl 3 (b_0.Ledger.Frozen.map aI)]) (aA rfl) (aH hS rfl) rfl)),
      fun S hS => aK rfl (bI rfl rfl (aA rfl) (aU hS rfl) c14 (cY (aA rfl) (aH hS rfl) (i := 1) rfl eB (es := (aC x6)) rfl rfl)),
      fun S hS => aK rfl (bI rfl rfl (aA rfl) (aU hS rfl) c14 (aD (v := .d (.lit (.int .i64 week_2))) (aA rfl) (aH hS rfl) rfl)),
      fun S hS => aK rfl (bI rfl rfl (aA rfl) (aU hS rfl) c14 (cC (aA rfl) (.func _ _ Try.call77) (ev2 (aH hS rfl) (ev2 (aH hS rfl) (ev2 (aH hS rfl) evn))) rfl (BVs.refl _ _) (uP _ _ _ h16) rfl)),
      fun S hS => aK rfl (bI rfl rfl (aA rfl) (aU hS rfl) c14 (bC (aA rfl) (aH hS rfl) rfl rfl)),
      fun S hS => aK rfl (aO rfl (bN (v := .d (.lit (.bool ((decide (r15 < 52)))))) (aA rfl) (aH hS rfl) c14 (aH hS rfl) rfl)),
      fun S hS => aK rfl (aO rfl (aD (v := .d (.lit (.bool (decide (r15 < 52))))) (aA rfl) (aH hS rfl) rfl)),
      fun S hS => aK rfl (bI rfl rfl (aA rfl) (aU hS rfl) c19 (aD (v := .cp [.lit (.int .i64 b_0.Ledger.Players), .lit (.int .i64 b_0.Ledger.Counts), .sl 5 (b_0.Ledger.Reports.map aC), .sl 3 (b_0.Ledger.Bans.map aI), .sl 3 (b_0.Ledger.Frozen.map aI)]) (aA rfl) (aH hS rfl) rfl)),
      fun S hS => aK rfl (bI rfl rfl (aA rfl) (aU hS rfl) c19 (oZ (aA rfl) (aH hS rfl))),
      fun S hS => aK rfl (bI rfl rfl (aA rfl) (aU hS rfl) c19 (cX (aA rfl) (aH hS rfl) iP (es := [.lit (.int .i64 b_0.Ledger.Players), .lit (.int .i64 b_0.Ledger.Counts), .sl 5 (b_0.Ledger.Reports.map aC), .sl 3 (b_0.Ledger.Bans.map aI), .sl 3 (b_0.Ledger.Frozen.map aI)]) rfl)),
      fun S hS => aK rfl (bI rfl rfl (aA rfl) (aU hS rfl) c19 (cX (aA rfl) (aH hS rfl) nC (es := [.sl 3 (b_0.Ledger.Bans.map aI)]) rfl)),
      fun S hS => aK rfl (bI rfl rfl (aA rfl) (aU hS rfl) c19 (cL (aA rfl) (aH hS rfl) kE)),
      fun S hS => aK rfl (bI rfl rfl (aA rfl) (aU hS rfl) c19 (aD (v := .d (.lit (.int .i64 player_1))) (aA rfl) (aH hS rfl) rfl)),
      fun S hS => aK rfl (bI rfl rfl (aA rfl) (aU hS rfl) c19 (aQ (aA rfl) (aH hS rfl) kJ)),
      fun S hS => aK rfl (bI rfl rfl (aA rfl) (aU hS rfl) c19 (aT (aA rfl) (aH hS rfl) (i := 1) rfl rfl bD)),
      fun S hS => aK rfl (bI rfl rfl (aA rfl) (aU hS rfl) c19 (cC (aA rfl) (.func _ _ Try.call48) (ev2 (aH hS rfl) (ev2 (aH hS rfl) (ev2 (aH hS rfl) evn))) rfl (BVs.refl _ _) (uW _ _ _ h21) rfl)),
      fun S hS => aK rfl (bI rfl rfl (aA rfl) (aU hS rfl) c19 (fC (aA rfl) (aH hS rfl))),
      fun S hS => aK rfl (aO rfl (bN (v := .d (.lit (.bool (!r20)))) (aA rfl) (aH hS rfl) c19 (aH hS rfl) rfl)), trivial⟩⟩
      · exact eC (aN rfl (aY ⟨rfl, rfl, rfl, rfl, rfl, rfl, rfl, rfl, trivial⟩))
     ·have h18 := aR c19 h18
      have h18 := Option.some.inj h18
      subst h18
      refine ⟨[(20, 0, .bp b8 0 1), (21, 1, .d (.lit (.int .i64 x6.Player))), (22, 2, .d (.lit (.int .i64 player_1))), (23, 3, .d (.lit (.bool ((decide (x6.Player = player_1)))))), (24, 4, .d (.lit (.bool ((decide (x6.Player = player_1)))))), (25, 5, .bp b8 0 2), (26, 6, .d (.lit (.int .i64 x6.Week))), (27, 7, .d (.lit (.int .i64 week_2))), (28, 8, .d (.lit (.bool ((decide (x6.Week ≤ week_2)))))), (29, 9, .d (.lit (.bool ((decide (x6.Week ≤ week_2)))))), (30, 10, .d (.lit (.bool (decide (x6.Week ≤ week_2))))), (31, 11, .cp [.lit (.int .i64 b_0.Ledger.Players), .lit (.int .i64 b_0.Ledger.Counts), .sl 5 (b_0.Ledger.Reports.map aC), .sl 3 (b_0.Ledger.Bans.map aI), .sl 3 (b_0.Ledger.Frozen.map aI)]), (32, 12, .agg (aC x6)), (33, 13, .d (.lit (.int .i64 week_2))), (34, 14, .d (.lit (.int .i64 r15))), (35, 15, .d (.lit (.bool ((decide (r15 < 52)))))), (36, 16, .d (.lit (.bool ((decide (r15 < 52)))))), (37, 17, .d (.lit (.bool (decide (r15 < 52))))), (38, 18, .tup []), (39, 19, .tup []), (40, 20, .tup []), (41, 21, .tup []), (42, 22, .tup []), (43, 23, .tup []), (44, 24, .tup []), (45, 25, .tup []), (46, 26, .tup []), (47, 27, .tup []), (48, 28, .d (.lit (.bool false)))], ?_, ?_⟩
      · exact ⟨by kernel_rfl, by kernel_rfl, by kernel_rfl, by kernel_rfl, by kernel_rfl, [([], []), ([0], []), ([], []), ([1, 2], []), ([3], []), ([4], []), ([4, 5], []), ([4], []), ([4, 6, 7], []), ([4, 8], []), ([9], []), ([10], []), ([10], []), ([10], []), ([10, 11, 12, 13], []), ([10, 14], []), ([10, 15], []), ([16], []), ([17], []), ([17, 18], []), ([17, 19], []), ([17, 20], []), ([17, 21], []), ([17], []), ([17], []), ([17, 24], []), ([17, 22, 23, 25], []), ([17, 26], []), ([17, 27], [])], by kernel_rfl, ⟨fun S hS => aK rfl (aO rfl (aQ (aA rfl) (aH hS rfl) qE)),
      fun S hS => aK rfl (aO rfl (aT (aA rfl) (aH hS rfl) (i := 1) rfl rfl bD)),
      fun S hS => aK rfl (aO rfl (aD (v := .d (.lit (.int .i64 player_1))) (aA rfl) (aH hS rfl) rfl)),
      fun S hS => aK rfl (aO rfl (bC (aA rfl) (aH hS rfl) (aH hS rfl) rfl)),
      fun S hS => aK rfl (aO rfl (aD (v := .d (.lit (.bool ((decide (x6.Player = player_1)))))) (aA rfl) (aH hS rfl) rfl)),
      fun S hS => aK rfl (bI rfl rfl (aA rfl) (aU hS rfl) c11 (aQ (aA rfl) (aH hS rfl) kJ)),
      fun S hS => aK rfl (bI rfl rfl (aA rfl) (aU hS rfl) c11 (aT (aA rfl) (aH hS rfl) (i := 1) rfl rfl bD)),
      fun S hS => aK rfl (bI rfl rfl (aA rfl) (aU hS rfl) c11 (aD (v := .d (.lit (.int .i64 week_2))) (aA rfl) (aH hS rfl) rfl)),
      fun S hS => aK rfl (bI rfl rfl (aA rfl) (aU hS rfl) c11 (bC (aA rfl) (aH hS rfl) (aH hS rfl) rfl)),
      fun S hS => aK rfl (aO rfl (bN (v := .d (.lit (.bool ((decide (x6.Week ≤ week_2)))))) (aA rfl) (aH hS rfl) c11 (aH hS rfl) rfl)),
      fun S hS => aK rfl (aO rfl (aD (v := .d (.lit (.bool (decide (x6.Week ≤ week_2))))) (aA rfl) (aH hS rfl) rfl)),
      fun S hS => aK rfl (bI rfl rfl (aA rfl) (aU hS rfl) c14 (aD (v := .cp [.lit (.int .i64 b_0.Ledger.Players), .lit (.int .i64 b_0.Ledger.Counts), .sl 5 (b_0.Ledger.Reports.map aC), .sl 3 (b_0.Ledger.Bans.map aI), .sl 3 (b_0.Ledger.Frozen.map aI)]) (aA rfl) (aH hS rfl) rfl)),
      fun S hS => aK rfl (bI rfl rfl (aA rfl) (aU hS rfl) c14 (cY (aA rfl) (aH hS rfl) (i := 1) rfl eB (es := (aC x6)) rfl rfl)),
      fun S hS => aK rfl (bI rfl rfl (aA rfl) (aU hS rfl) c14 (aD (v := .d (.lit (.int .i64 week_2))) (aA rfl) (aH hS rfl) rfl)),
      fun S hS => aK rfl (bI rfl rfl (aA rfl) (aU hS rfl) c14 (cC (aA rfl) (.func _ _ Try.call77) (ev2 (aH hS rfl) (ev2 (aH hS rfl) (ev2 (aH hS rfl) evn))) rfl (BVs.refl _ _) (uP _ _ _ h16) rfl)),
      fun S hS => aK rfl (bI rfl rfl (aA rfl) (aU hS rfl) c14 (bC (aA rfl) (aH hS rfl) rfl rfl)),
      fun S hS => aK rfl (aO rfl (bN (v := .d (.lit (.bool ((decide (r15 < 52)))))) (aA rfl) (aH hS rfl) c14 (aH hS rfl) rfl)),
      fun S hS => aK rfl (aO rfl (aD (v := .d (.lit (.bool (decide (r15 < 52))))) (aA rfl) (aH hS rfl) rfl)),
      fun S hS => aK rfl (bF rfl rfl (aA rfl) rfl (aA rfl) (aU hS rfl) c19),
      fun S hS => aK rfl (bF rfl rfl (aA rfl) rfl (aA rfl) (aU hS rfl) c19),
      fun S hS => aK rfl (bF rfl rfl (aA rfl) rfl (aA rfl) (aU hS rfl) c19),
      fun S hS => aK rfl (bF rfl rfl (aA rfl) rfl (aA rfl) (aU hS rfl) c19),
      fun S hS => aK rfl (bF rfl rfl (aA rfl) rfl (aA rfl) (aU hS rfl) c19),
      fun S hS => aK rfl (bF rfl rfl (aA rfl) rfl (aA rfl) (aU hS rfl) c19),
      fun S hS => aK rfl (bF rfl rfl (aA rfl) rfl (aA rfl) (aU hS rfl) c19),
      fun S hS => aK rfl (bF rfl rfl (aA rfl) rfl (aA rfl) (aU hS rfl) c19),
      fun S hS => aK rfl (bF rfl rfl (aA rfl) rfl (aA rfl) (aU hS rfl) c19),
      fun S hS => aK rfl (bF rfl rfl (aA rfl) rfl (aA rfl) (aU hS rfl) c19),
      fun S hS => aK rfl (aO rfl (bM (v := .d (.lit (.bool false))) (aA rfl) (aH hS rfl) c19 rfl rfl)), trivial⟩⟩
      · exact eC (aN rfl (aY ⟨rfl, rfl, rfl, rfl, rfl, rfl, rfl, rfl, trivial⟩))
    ·have h13 := aR c14 h13
     have h13 := Option.some.inj h13
     subst h13
     have c19 : false = false := rfl
     have h18 := aR c19 h18
     have h18 := Option.some.inj h18
     subst h18
     refine ⟨[(20, 0, .bp b8 0 1), (21, 1, .d (.lit (.int .i64 x6.Player))), (22, 2, .d (.lit (.int .i64 player_1))), (23, 3, .d (.lit (.bool ((decide (x6.Player = player_1)))))), (24, 4, .d (.lit (.bool ((decide (x6.Player = player_1)))))), (25, 5, .bp b8 0 2), (26, 6, .d (.lit (.int .i64 x6.Week))), (27, 7, .d (.lit (.int .i64 week_2))), (28, 8, .d (.lit (.bool ((decide (x6.Week ≤ week_2)))))), (29, 9, .d (.lit (.bool ((decide (x6.Week ≤ week_2)))))), (30, 10, .d (.lit (.bool (decide (x6.Week ≤ week_2))))), (31, 11, .tup []), (32, 12, .tup []), (33, 13, .tup []), (34, 14, .tup []), (35, 15, .tup []), (36, 16, .d (.lit (.bool false))), (37, 17, .d (.lit (.bool (false)))), (38, 18, .tup []), (39, 19, .tup []), (40, 20, .tup []), (41, 21, .tup []), (42, 22, .tup []), (43, 23, .tup []), (44, 24, .tup []), (45, 25, .tup []), (46, 26, .tup []), (47, 27, .tup []), (48, 28, .d (.lit (.bool false)))], ?_, ?_⟩
     · exact ⟨by kernel_rfl, by kernel_rfl, by kernel_rfl, by kernel_rfl, by kernel_rfl, [([], []), ([0], []), ([], []), ([1, 2], []), ([3], []), ([4], []), ([4, 5], []), ([4], []), ([4, 6, 7], []), ([4, 8], []), ([9], []), ([10], []), ([10], []), ([10], []), ([10, 11, 12, 13], []), ([10, 14], []), ([10, 15], []), ([16], []), ([17], []), ([17, 18], []), ([17, 19], []), ([17, 20], []), ([17, 21], []), ([17], []), ([17], []), ([17, 24], []), ([17, 22, 23, 25], []), ([17, 26], []), ([17, 27], [])], by kernel_rfl, ⟨fun S hS => aK rfl (aO rfl (aQ (aA rfl) (aH hS rfl) qE)),
      fun S hS => aK rfl (aO rfl (aT (aA rfl) (aH hS rfl) (i := 1) rfl rfl bD)),
      fun S hS => aK rfl (aO rfl (aD (v := .d (.lit (.int .i64 player_1))) (aA rfl) (aH hS rfl) rfl)),
      fun S hS => aK rfl (aO rfl (bC (aA rfl) (aH hS rfl) (aH hS rfl) rfl)),
      fun S hS => aK rfl (aO rfl (aD (v := .d (.lit (.bool ((decide (x6.Player = player_1)))))) (aA rfl) (aH hS rfl) rfl)),
      fun S hS => aK rfl (bI rfl rfl (aA rfl) (aU hS rfl) c11 (aQ (aA rfl) (aH hS rfl) kJ)),
      fun S hS => aK rfl (bI rfl rfl (aA rfl) (aU hS rfl) c11 (aT (aA rfl) (aH hS rfl) (i := 1) rfl rfl bD)),
      fun S hS => aK rfl (bI rfl rfl (aA rfl) (aU hS rfl) c11 (aD (v := .d (.lit (.int .i64 week_2))) (aA rfl) (aH hS rfl) rfl)),
      fun S hS => aK rfl (bI rfl rfl (aA rfl) (aU hS rfl) c11 (bC (aA rfl) (aH hS rfl) (aH hS rfl) rfl)),
      fun S hS => aK rfl (aO rfl (bN (v := .d (.lit (.bool ((decide (x6.Week ≤ week_2)))))) (aA rfl) (aH hS rfl) c11 (aH hS rfl) rfl)),
      fun S hS => aK rfl (aO rfl (aD (v := .d (.lit (.bool (decide (x6.Week ≤ week_2))))) (aA rfl) (aH hS rfl) rfl)),
      fun S hS => aK rfl (bF rfl rfl (aA rfl) rfl (aA rfl) (aU hS rfl) c14),
      fun S hS => aK rfl (bF rfl rfl (aA rfl) rfl (aA rfl) (aU hS rfl) c14),
      fun S hS => aK rfl (bF rfl rfl (aA rfl) rfl (aA rfl) (aU hS rfl) c14),
      fun S hS => aK rfl (bF rfl rfl (aA rfl) rfl (aA rfl) (aU hS rfl) c14),
      fun S hS => aK rfl (bF rfl rfl (aA rfl) rfl (aA rfl) (aU hS rfl) c14),
      fun S hS => aK rfl (aO rfl (bM (v := .d (.lit (.bool false))) (aA rfl) (aH hS rfl) c14 rfl rfl)),
      fun S hS => aK rfl (aO rfl (aD (v := .d (.lit (.bool (false)))) (aA rfl) (aH hS rfl) rfl)),
      fun S hS => aK rfl (bF rfl rfl (aA rfl) rfl (aA rfl) (aU hS rfl) c19),
      fun S hS => aK rfl (bF rfl rfl (aA rfl) rfl (aA rfl) (aU hS rfl) c19),
      fun S hS => aK rfl (bF rfl rfl (aA rfl) rfl (aA rfl) (aU hS rfl) c19),
      fun S hS => aK rfl (bF rfl rfl (aA rfl) rfl (aA rfl) (aU hS rfl) c19),
      fun S hS => aK rfl (bF rfl rfl (aA rfl) rfl (aA rfl) (aU hS rfl) c19),
      fun S hS => aK rfl (bF rfl rfl (aA rfl) rfl (aA rfl) (aU hS rfl) c19),
      fun S hS => aK rfl (bF rfl rfl (aA rfl) rfl (aA rfl) (aU hS rfl) c19),
      fun S hS => aK rfl (bF rfl rfl (aA rfl) rfl (aA rfl) (aU hS rfl) c19),
      fun S hS => aK rfl (bF rfl rfl (aA rfl) rfl (aA rfl) (aU hS rfl) c19),
      fun S hS => aK rfl (bF rfl rfl (aA rfl) rfl (aA rfl) (aU hS rfl) c19),
      fun S hS => aK rfl (aO rfl (bM (v := .d (.lit (.bool false))) (aA rfl) (aH hS rfl) c19 rfl rfl)), trivial⟩⟩
     · exact eC (aN rfl (aY ⟨rfl, rfl, rfl, rfl, rfl, rfl, rfl, rfl, trivial⟩))
   ·have h10 := aR c11 h10
    have h10 := Option.some.inj h10
    subst h10
    have c14 : false = false := rfl
    have h13 := aR c14 h13
    have h13 := Option.some.inj h13
    subst h13
    have c19 : false = false := rfl
    have h18 := aR c19 h18
    have h18 := Option.some.inj h18
    subst h18
    refine ⟨[(20, 0, .bp b8 0 1), (21, 1, .d (.lit (.int .i64 x6.Player))), (22, 2, .d (.lit (.int .i64 player_1))), (23, 3, .d (.lit (.bool ((decide (x6.Player = player_1)))))), (24, 4, .d (.lit (.bool ((decide (x6.Player = player_1)))))), (25, 5, .tup []), (26, 6, .tup []), (27, 7, .tup []), (28, 8, .tup []), (29, 9, .d (.lit (.bool false))), (30, 10, .d (.lit (.bool (false)))), (31, 11, .tup []), (32, 12, .tup []), (33, 13, .tup []), (34, 14, .tup []), (35, 15, .tup []), (36, 16, .d (.lit (.bool false))), (37, 17, .d (.lit (.bool (false)))), (38, 18, .tup []), (39, 19, .tup []), (40, 20, .tup []), (41, 21, .tup []), (42, 22, .tup []), (43, 23, .tup []), (44, 24, .tup []), (45, 25, .tup []), (46, 26, .tup []), (47, 27, .tup []), (48, 28, .d (.lit (.bool false)))], ?_, ?_⟩
    · exact ⟨by kernel_rfl, by kernel_rfl, by kernel_rfl, by kernel_rfl, by kernel_rfl, [([], []), ([0], []), ([], []), ([1, 2], []), ([3], []), ([4], []), ([4, 5], []), ([4], []), ([4, 6, 7], []), ([4, 8], []), ([9], []), ([10], []), ([10], []), ([10], []), ([10, 11, 12, 13], []), ([10, 14], []), ([10, 15], []), ([16], []), ([17], []), ([17, 18], []), ([17, 19], []), ([17, 20], []), ([17, 21], []), ([17], []), ([17], []), ([17, 24], []), ([17, 22, 23, 25], []), ([17, 26], []), ([17, 27], [])], by kernel_rfl, ⟨fun S hS => aK rfl (aO rfl (aQ (aA rfl) (aH hS rfl) qE)),
      fun S hS => aK rfl (aO rfl (aT (aA rfl) (aH hS rfl) (i := 1) rfl rfl bD)),
      fun S hS => aK rfl (aO rfl (aD (v := .d (.lit (.int .i64 player_1))) (aA rfl) (aH hS rfl) rfl)),
      fun S hS => aK rfl (aO rfl (bC (aA rfl) (aH hS rfl) (aH hS rfl) rfl)),
      fun S hS => aK rfl (aO rfl (aD (v := .d (.lit (.bool ((decide (x6.Player = player_1)))))) (aA rfl) (aH hS rfl) rfl)),
      fun S hS => aK rfl (bF rfl rfl (aA rfl) rfl (aA rfl) (aU hS rfl) c11),
      fun S hS => aK rfl (bF rfl rfl (aA rfl) rfl (aA rfl) (aU hS rfl) c11),
      fun S hS => aK rfl (bF rfl rfl (aA rfl) rfl (aA rfl) (aU hS rfl) c11),
      fun S hS => aK rfl (bF rfl rfl (aA rfl) rfl (aA rfl) (aU hS rfl) c11),
      fun S hS => aK rfl (aO rfl (bM (v := .d (.lit (.bool false))) (aA rfl) (aH hS rfl) c11 rfl rfl)),
      fun S hS => aK rfl (aO rfl (aD (v := .d (.lit (.bool (false)))) (aA rfl) (aH hS rfl) rfl)),
      fun S hS => aK rfl (bF rfl rfl (aA rfl) rfl (aA rfl) (aU hS rfl) c14),
      fun S hS => aK rfl (bF rfl rfl (aA rfl) rfl (aA rfl) (aU hS rfl) c14),
      fun S hS => aK rfl (bF rfl rfl (aA rfl) rfl (aA rfl) (aU hS rfl) c14),
      fun S hS => aK rfl (bF rfl rfl (aA rfl) rfl (aA rfl) (aU hS rfl) c14),
      fun S hS => aK rfl (bF rfl rfl (aA rfl) rfl (aA rfl) (aU hS rfl) c14),
      fun S hS => aK rfl (aO rfl (bM (v := .d (.lit (.bool false))) (aA rfl) (aH hS rfl) c14 rfl rfl)),
      fun S hS => aK rfl (aO rfl (aD (v := .d (.lit (.bool (false)))) (aA rfl) (aH hS rfl) rfl)),
      fun S hS => aK rfl (bF rfl rfl (aA rfl) rfl (aA rfl) (aU hS rfl) c19),
      fun S hS => aK rfl (bF rfl rfl (aA rfl) rfl (aA rfl) (aU hS rfl) c19),
      fun S hS => aK rfl (bF rfl rfl (aA rfl) rfl (aA rfl) (aU hS rfl) c19),
      fun S hS => aK rfl (bF rfl rfl (aA rfl) rfl (aA rfl) (aU hS rfl) c19),
      fun S hS => aK rfl (bF rfl rfl (aA rfl) rfl (aA rfl) (aU hS rfl) c19),
      fun S hS => aK rfl (bF rfl rfl (aA rfl) rfl (aA rfl) (aU hS rfl) c19),
      fun S hS => aK rfl (bF rfl rfl (aA rfl) rfl (aA rfl) (aU hS rfl) c19),
      fun S hS => aK rfl (bF rfl rfl (aA rfl) rfl (aA rfl) (aU hS rfl) c19),
      fun S hS => aK rfl (bF rfl rfl (aA rfl) rfl (aA rfl) (aU hS rfl) c19),
      fun S hS => aK rfl (bF rfl rfl (aA rfl) rfl (aA rfl) (aU hS rfl) c19),
      fun S hS => aK rfl (aO rfl (bM (v := .d (.lit (.bool false))) (aA rfl) (aH hS rfl) c19 rfl rfl)), trivial⟩⟩
    · exact eC (aN rfl (aY ⟨rfl, rfl, rfl, rfl, rfl, rfl, rfl, rfl, trivial⟩))
  ·refine aF ?_
   refine bJ rfl (fun c22 => ?_) (fun c22 => ?_)
   ·have h := aS c22 h
    refine aE ?_
    refine tr1 rfl (aD (v := .d (.lit w3)) (aA rfl) rfl rfl) ?_
    refine tr1 rfl (cY (aA rfl) rfl (i := 1) rfl eB (es := (aC x6)) rfl rfl) ?_
    refine tr1 rfl (iE (aA rfl) cD rfl rfl (rows := ([x6]).map aC) rfl (cO (f := aC) fun _ => rfl) rfl (by decide)) ?_
    obtain ⟨x23, h24, h⟩ := bind_some h
    refine bQ rfl (jJ (i := 0) (aA rfl) cD rfl rfl rfl (fun _ => rfl) h24 rfl) ?_
    rintro _ ⟨v25, rfl⟩
    refine tr1 rfl (aJ (v := .d (.lit v25)) (aA rfl) rfl rfl) ?_
    refine eD ?_
    refine aE ?_
    refine tr1 rfl (bA (aA rfl) rfl rfl rfl) ?_
    refine tr1 rfl (aD (v := .d (.lit (.int .i64 ((w64 (t16_0_2 + 1)))))) (aA rfl) rfl rfl) ?_
    refine aF ?_
    exact ⟨(w64 (t16_0_2 + 1), x23, v25), h, aV [0] rfl rfl (aN rfl (aN rfl (aY ⟨rfl, rfl, rfl, rfl, rfl, trivial⟩)))⟩
   ·have h := aR c22 h
    refine eG ?_
    refine aE ?_
    refine tr1 rfl (bA (aA rfl) rfl rfl rfl) ?_
    refine tr1 rfl (aD (v := .d (.lit (.int .i64 ((w64 (t16_0_2 + 1)))))) (aA rfl) rfl rfl) ?_
    refine aF ?_
    exact ⟨(w64 (t16_0_2 + 1), out_0_2, w3), h, aV [0] rfl rfl (aN rfl (aN rfl (aY ⟨rfl, rfl, rfl, rfl, rfl, trivial⟩)))⟩
 ·have h := aR c5 h
  refine cU ?_
  refine .inl ⟨rfl, ?_⟩
  simp only [oP] at h
  refine aG ?_
  refine aE ?_
  refine tr1 rfl (aD (v := .d (.lit w3)) (aA rfl) rfl rfl) ?_
  refine tr1 rfl (aJ (v := .d (.lit w3)) (aA rfl) rfl rfl) ?_
  refine aF ?_
  have h := Option.some.inj h
  subst h
  refine cR (cG (fJ (k := 6) (v := .d (.sl 5 (out_0_2.map aC))) (.d (eZ 0 rfl (cO (f := aC) fun _ => rfl))) (xT))) ?_
  exact bO ⟨rfl, _, .one _, rfl, rfl⟩

theorem wV (vals_0 : List Int) {r : Int} (h : oV vals_0 = some r) : Fn Try.prog 99 [.d (.sl 1 (vals_0.map bR))] (.d (.lit (.int .i64 r))) := by
 unfold oV at h
 refine Fn.of_tr Try.func99 rfl (rs := [.tmp 2]) Try.results99 Try.ntmps99 (Nat.le_of_ble_eq_true rfl) ?_
 refine aG ?_
 refine aE ?_
 refine tr1 rfl (aJ (v := .d (.lit (.int .i64 0))) (aA rfl) rfl rfl) ?_
 refine aF ?_
 refine aG ?_
 refine aE ?_
 refine tr1 rfl (aJ (v := .d (.lit (.int .i64 0))) (aA rfl) rfl rfl) ?_
 refine aF ?_
 refine aG ?_
 refine aG ?_
 refine aE ?_
 refine tr1 rfl (aD (v := .d (.sl 1 (vals_0.map bR))) (aA rfl) rfl rfl) ?_
 refine tr1 rfl (dW (aA rfl) rfl dO.of) ?_
 refine tr1 rfl (aD (v := .d (.lit (.int .i64 0))) (aA rfl) rfl rfl) ?_
 refine aF ?_
 refine bT ?_
 refine cM [3, 6, 7] (fun (s1 : Int) => [(8, .d (.lit (.int .i64 s1)))]) (fun (s1 : Int) => []) (fun (k : Nat) (s1 : Int) => lH 0 vals_0 (vals_0.length : Int) k s1) (fun _ => rfl) (0) h (aV [] rfl rfl (aN rfl (aY ⟨rfl, rfl, rfl, trivial⟩))) ?_
 rintro k2 t8_0_1 h
 simp only [lH] at h
 refine aG ?_
 refine aE ?_
 refine tr1 rfl (bC (aA rfl) rfl rfl rfl) ?_
 refine aF ?_
 refine aG ?_
 refine bJ rfl (fun c3 => ?_) (fun c3 => ?_)
 ·have h := aS c3 h
  refine bH ?_
  refine aG ?_
  refine bT ?_
  refine aG ?_
  refine aE ?_
  obtain ⟨x4, h5, h⟩ := bind_some h
  refine tr1 rfl (cA (aA rfl) rfl rfl dO.of (bP bR h5)) ?_
  refine tr1 rfl (cL (aA rfl) rfl bD) ?_
  refine tr1 rfl (aJ (v := .d (.lit (.int .i64 x4))) (aA rfl) rfl rfl) ?_
  refine aF ?_
  refine aG ?_
  refine aE ?_
  refine tr1 rfl (aD (v := .d (.lit (.int .i64 x4))) (aA rfl) rfl rfl) ?_
  refine tr1 rfl (aD (v := .d (.lit (.int .i64 0))) (aA rfl) rfl rfl) ?_
  refine tr1 rfl (bC (aA rfl) rfl rfl rfl) ?_
  refine aF ?_
  refine bJ rfl (fun c6 => ?_) (fun c6 => ?_)
  ·have h := aS c6 h
   refine aG ?_
   refine aE ?_
   refine tr1 rfl (aD (v := .d (.lit (.int .i64 x4))) (aA rfl) rfl rfl) ?_
   refine tr1 rfl (aJ (v := .d (.lit (.int .i64 x4))) (aA rfl) rfl rfl) ?_
   refine aF ?_
   have h := Option.some.inj h
   subst h
   exact bO ⟨rfl, _, .one _, rfl, rfl⟩
  ·have h := aR c6 h
   refine eG ?_
   refine aE ?_
   refine tr1 rfl (bA (aA rfl) rfl rfl rfl) ?_
   refine tr1 rfl (aD (v := .d (.lit (.int .i64 ((w64 (t8_0_1 + 1)))))) (aA rfl) rfl rfl) ?_
   refine aF ?_
   exact ⟨(w64 (t8_0_1 + 1)), h, aV [] rfl rfl (aN rfl (aY ⟨rfl, rfl, rfl, trivial⟩))⟩
 ·have h := aR c3 h
  refine cU ?_
  refine .inl ⟨rfl, ?_⟩
  simp only [sS] at h
  refine aG ?_
  refine aE ?_
  refine tr1 rfl (aD (v := .d (.lit (.int .i64 0))) (aA rfl) rfl rfl) ?_
  refine tr1 rfl (aJ (v := .d (.lit (.int .i64 0))) (aA rfl) rfl rfl) ?_
  refine aF ?_
  have h := Option.some.inj h
  subst h
  exact bO ⟨rfl, _, .one _, rfl, rfl⟩

theorem wM (x_0 : aB) (y_1 : aB) {r : Int} (h : jX x_0 y_1 = some r) : Fn Try.prog 98 [.agg (aC x_0), .agg (aC y_1)] (.d (.lit (.int .i64 r))) := by
 unfold jX at h
 refine Fn.of_tr Try.func98 rfl (rs := [.tmp 4]) Try.results98 Try.ntmps98 (Nat.le_of_ble_eq_true rfl) ?_
 refine aG ?_
 refine aE ?_
 refine bQ rfl (fN (v := .agg (aC x_0)) (aA rfl) rfl rfl rfl) ?_
 rintro _ ⟨b1, rfl⟩
 refine bQ rfl (fN (v := .agg (aC y_1)) (aA rfl) rfl rfl rfl) ?_
 rintro _ ⟨b2, rfl⟩
 refine tr1 rfl (aJ (v := .d (.lit (.int .i64 0))) (aA rfl) rfl rfl) ?_
 refine aF ?_
 refine aG ?_
 refine bT ?_
 refine aG ?_
 refine aE ?_
 refine tr1 rfl (aQ (aA rfl) rfl qF) ?_
 refine tr1 rfl (aT (aA rfl) rfl (i := 0) rfl rfl tE) ?_
 refine tr1 rfl (aQ (aA rfl) rfl qF) ?_
 refine tr1 rfl (aT (aA rfl) rfl (i := 1) rfl rfl tE) ?_
 refine tr1 rfl (aGs (aA rfl) rfl rfl Try.underlying4) ?_
 refine tr1 rfl (aD (v := .d (.lit (.bool ((!decide (x_0.Must = y_1.Must)))))) (aA rfl) rfl rfl) ?_
 obtain ⟨b3, h4, h⟩ := bind_some h
 refine bX 3 [2, 3] 14 b3 ?_ ?_
 ·refine bG (!decide (x_0.Must = y_1.Must)) (fun c9 => ?_) (fun c9 => ?_)
  ·have h4 := aS c9 h4
   refine aL rfl rfl (aA rfl) rfl c9 (aQ (aA rfl) rfl qF) ?_
   refine aL rfl rfl (aA rfl) rfl c9 (aT (aA rfl) rfl (i := 0) rfl rfl tE) ?_
   refine tr1 rfl (bN (v := .d (.lit (.bool x_0.Must))) (aA rfl) rfl c9 rfl rfl) ?_
   have h4 := Option.some.inj h4
   subst h4
   refine aF (aZ rfl ⟨rfl, rfl, trivial⟩ rfl)
  ·have h4 := aR c9 h4
   refine aP rfl rfl (aA rfl) rfl (aA rfl) rfl c9 ?_
   refine aP rfl rfl (aA rfl) rfl (aA rfl) rfl c9 ?_
   refine tr1 rfl (bM (v := .d (.lit (.bool false))) (aA rfl) rfl c9 rfl rfl) ?_
   have h4 := Option.some.inj h4
   subst h4
   refine aF (aZ rfl ⟨rfl, rfl, trivial⟩ rfl)
 ·refine tr1 rfl (aJ (v := .d (.lit (.bool b3))) (aA rfl) rfl rfl) ?_
  refine aF ?_
  refine bJ rfl (fun c5 => ?_) (fun c5 => ?_)
  ·have h := aS c5 h
   refine aG ?_
   refine aE ?_
   refine tr1 rfl (aJ (v := .d (.lit (.int .i64 (-1)))) (aA rfl) rfl rfl) ?_
   refine aF ?_
   have h := Option.some.inj h
   subst h
   refine cR (cG (cK (l := [4]) ⟨rfl, trivial⟩)) ?_
   exact bO ⟨rfl, _, .one _, rfl, rfl⟩
  ·have h := aR c5 h
   refine aG ?_
   refine aE ?_
   refine tr1 rfl (aQ (aA rfl) rfl qF) ?_
   refine tr1 rfl (aT (aA rfl) rfl (i := 0) rfl rfl tE) ?_
   refine tr1 rfl (aQ (aA rfl) rfl qF) ?_
   refine tr1 rfl (aT (aA rfl) rfl (i := 1) rfl rfl tE) ?_
   refine tr1 rfl (aGs (aA rfl) rfl rfl Try.underlying4) ?_
   refine tr1 rfl (aJ (v := .d (.lit (.bool ((!decide (x_0.Must = y_1.Must)))))) (aA rfl) rfl rfl) ?_
   refine aF ?_
   refine bJ rfl (fun c6 => ?_) (fun c6 => ?_)
   ·have h := aS c6 h
    refine aG ?_
    refine aE ?_
    refine tr1 rfl (aJ (v := .d (.lit (.int .i64 1))) (aA rfl) rfl rfl) ?_
    refine aF ?_
    have h := Option.some.inj h
    subst h
    refine cR (cG (cK (l := [4]) ⟨rfl, trivial⟩)) ?_
    exact bO ⟨rfl, _, .one _, rfl, rfl⟩
   ·have h := aR c6 h
    refine eG ?_
    refine aG ?_
    refine aE ?_
    refine tr1 rfl (aQ (aA rfl) rfl rT) ?_
    refine tr1 rfl (aT (aA rfl) rfl (i := 1) rfl rfl bD) ?_
    refine tr1 rfl (aQ (aA rfl) rfl rT) ?_
    refine tr1 rfl (aT (aA rfl) rfl (i := 0) rfl rfl bD) ?_
    refine tr1 rfl (bA (aA rfl) rfl rfl rfl) ?_
    refine tr1 rfl (aQ (aA rfl) rfl iN) ?_
    refine tr1 rfl (aT (aA rfl) rfl (i := 0) rfl rfl bD) ?_
    refine tr1 rfl (aQ (aA rfl) rfl iN) ?_
    refine tr1 rfl (aT (aA rfl) rfl (i := 1) rfl rfl bD) ?_
    refine tr1 rfl (bA (aA rfl) rfl rfl rfl) ?_
    refine tr1 rfl (iE (aA rfl) dO rfl rfl (rows := ([w64 (y_1.Points - x_0.Points), w64 (x_0.Id - y_1.Id)]).map bR) rfl (cO (f := bR) fun _ => rfl) rfl (by decide)) ?_
    obtain ⟨r7, h8, h⟩ := bind_some h
    refine tr1 rfl (cC (aA rfl) (.func _ _ Try.call99) rfl rfl (BVs.refl _ _) (wV _ h8) rfl) ?_
    refine tr1 rfl (aJ (v := .d (.lit (.int .i64 r7))) (aA rfl) rfl rfl) ?_
    refine aF ?_
    have h := Option.some.inj h
    subst h
    refine cR (cG (cK (l := [4]) ⟨rfl, trivial⟩)) ?_
    exact bO ⟨rfl, _, .one _, rfl, rfl⟩

theorem pI (b_0 : bW) (all_1 : List aB) {r : (List aB)} (h : jR b_0 all_1 = some r) : Fn Try.prog 71 [.cp (cE b_0), .d (.sl 5 (all_1.map aC))] (.d (.sl 5 (r.map aC))) := by
 unfold jR at h
 refine Fn.of_tr Try.func71 rfl (rs := [.tmp 4]) Try.results71 Try.ntmps71 (Nat.le_of_ble_eq_true rfl) ?_
 refine aG ?_
 refine aE ?_
 refine tr1 rfl (sG 5 (aA rfl)) ?_
 refine aF ?_
 refine aG ?_
 refine aE ?_
 refine tr1 rfl (aD (v := .d (.sl 5 (all_1.map aC))) (aA rfl) rfl rfl) ?_
 obtain ⟨r1, h2, h⟩ := bind_some h
 refine bQ rfl (wA (aA rfl) (.func _ _ Try.call91) rfl rfl (nV _ h2)) ?_
 rintro _ ⟨v3, rfl⟩
 refine tr1 rfl (aJ (v := .d (.lit v3)) (aA rfl) rfl rfl) ?_
 refine aF ?_
 refine aG ?_
 refine aE ?_
 refine tr1 rfl (aD (v := .d (.lit v3)) (aA rfl) rfl rfl) ?_
 obtain ⟨r6, h7, h⟩ := bind_some h
 refine bQ rfl (dI (passed := [.arr v3 42 5 (r1.map aC)]) (aA rfl) rfl (.func _ _ Try.call92) rfl rfl (lL r1 (fun y4 y5 => jX y4 y5) 98 [] Try.call98 (fun _ _ _ h => wM _ _ h) h7)) ?_
 rintro _ ⟨_, _, ⟨rfl, rfl⟩, rfl⟩
 refine aF ?_
 refine aG ?_
 refine aE ?_
 refine tr1 rfl (aJ (v := .d (.lit (.int .i64 0))) (aA rfl) rfl rfl) ?_
 refine aF ?_
 refine aG ?_
 refine aG ?_
 refine aE ?_
 refine tr1 rfl (aD (v := .d (.lit v3)) (aA rfl) rfl rfl) ?_
 refine tr1 rfl (lO (m := 0) (aA rfl) rfl rfl cD.of) ?_
 refine tr1 rfl (aD (v := .d (.lit (.int .i64 0))) (aA rfl) rfl rfl) ?_
 refine aF ?_
 refine bT ?_
 refine cM [0, 5, 13, 14] (fun (s8 : Int × Int) => [(6, .d (.lit (.int .i64 s8.1))), (15, .d (.lit (.int .i64 s8.2)))]) (fun (s8 : Int × Int) => [.arr v3 42 5 (r6.map aC)]) (fun (k : Nat) (s8 : Int × Int) => fR b_0 (r6.length : Int) r6 k s8.1 s8.2) (fun _ => rfl) (0, 0) h (aV [0] rfl rfl (aN rfl (aN rfl (aY ⟨rfl, rfl, rfl, rfl, trivial⟩)))) ?_
 rintro k9 ⟨musts_0_8, t15_0_8⟩ h
 simp only [fR] at h
 refine aG ?_
 refine aE ?_
 refine tr1 rfl (bC (aA rfl) rfl rfl rfl) ?_
 refine aF ?_
 refine aG ?_
 refine bJ rfl (fun c10 => ?_) (fun c10 => ?_)
 ·have h := aS c10 h
  refine bH ?_
  refine aG ?_
  refine bT ?_
  refine aG ?_
  refine aE ?_
  obtain ⟨x11, h12, h⟩ := bind_some h
  refine tr1 rfl (cH (m := 0) (aA rfl) rfl rfl rfl cD.of (bP aC h12)) ?_
  refine tr1 rfl (dF (aA rfl) rfl (l := 0) rfl (dX aC h12) eB (es := (aC x11)) rfl rfl) ?_
  refine bQ rfl (gB (zs := [.lit (.int .i64 0), .lit (.int .i64 0), .lit (.int .i64 0), .lit (.int .i64 0), .lit (.bool false)]) (aA rfl) Try.zeroValue42 rfl rfl) ?_
  rintro _ ⟨b13, rfl⟩
  refine tr1 rfl (cB (i := 1) rfl rfl rfl rfl rfl Try.sizeOf42 rfl (aA rfl) (Nat.le_of_ble_eq_true rfl) (ds' := (aC x11)) rfl) ?_
  refine aF ?_
  refine aG ?_
  refine aE ?_
  refine tr1 rfl (aQ (aA rfl) rfl qF) ?_
  refine tr1 rfl (aT (aA rfl) rfl (i := 1) rfl rfl tE) ?_
  refine aF ?_
  refine bJ rfl (fun c14 => ?_) (fun c14 => ?_)
  ·have h := aS c14 h
   refine aE ?_
   refine tr1 rfl (aD (v := .d (.lit (.int .i64 musts_0_8))) (aA rfl) rfl rfl) ?_
   refine tr1 rfl (bA (aA rfl) rfl rfl rfl) ?_
   refine tr1 rfl (aJ (v := .d (.lit (.int .i64 ((w64 (musts_0_8 + 1)))))) (aA rfl) rfl rfl) ?_
   refine eD ?_
   refine aE ?_
   refine tr1 rfl (bA (aA rfl) rfl rfl rfl) ?_
   refine tr1 rfl (aD (v := .d (.lit (.int .i64 ((w64 (t15_0_8 + 1)))))) (aA rfl) rfl rfl) ?_
   refine aF ?_
   exact ⟨(w64 (musts_0_8 + 1), w64 (t15_0_8 + 1)), h, aV [0] rfl rfl (aN rfl (aN rfl (aY ⟨rfl, rfl, rfl, rfl, trivial⟩)))⟩
  ·have h := aR c14 h
   refine eG ?_
   refine aE ?_
   refine tr1 rfl (bA (aA rfl) rfl rfl rfl) ?_
   refine tr1 rfl (aD (v := .d (.lit (.int .i64 ((w64 (t15_0_8 + 1)))))) (aA rfl) rfl rfl) ?_
   refine aF ?_
   exact ⟨(musts_0_8, w64 (t15_0_8 + 1)), h, aV [0] rfl rfl (aN rfl (aN rfl (aY ⟨rfl, rfl, rfl, rfl, trivial⟩)))⟩
 ·have h := aR c10 h
  refine cU ?_
  refine .inl ⟨rfl, ?_⟩
  simp only [lA] at h
  refine aG ?_
  refine aE ?_
  refine tr1 rfl (aD (v := .d (.lit v3)) (aA rfl) rfl rfl) ?_
  refine tr1 rfl (aD (v := .d (.lit v3)) (aA rfl) rfl rfl) ?_
  refine tr1 rfl (lO (m := 0) (aA rfl) rfl rfl cD.of) ?_
  refine tr1 rfl (aD (v := .d (.lit (.int .i64 musts_0_8))) (aA rfl) rfl rfl) ?_
  refine tr1 rfl (aD (v := .cp [.lit (.int .i64 b_0.Ledger.Players), .lit (.int .i64 b_0.Ledger.Counts), .sl 5 (b_0.Ledger.Reports.map aC), .sl 3 (b_0.Ledger.Bans.map aI), .sl 3 (b_0.Ledger.Frozen.map aI)]) (aA rfl) rfl rfl) ?_
  refine tr1 rfl (oZ (aA rfl) rfl) ?_
  refine tr1 rfl (cX (aA rfl) rfl iP (es := [.lit (.int .i64 b_0.Ledger.Players), .lit (.int .i64 b_0.Ledger.Counts), .sl 5 (b_0.Ledger.Reports.map aC), .sl 3 (b_0.Ledger.Bans.map aI), .sl 3 (b_0.Ledger.Frozen.map aI)]) rfl) ?_
  refine tr1 rfl (cX (aA rfl) rfl yU (es := [.lit (.int .i64 b_0.Ledger.Counts)]) rfl) ?_
  refine tr1 rfl (cL (aA rfl) rfl bD) ?_
  refine tr1 rfl (aBn (aA rfl) rfl rfl) ?_
  refine tr1 rfl (aEs (aA rfl) rfl rfl) ?_
  refine fH (aAe [] [.arr v3 42 5 (r6.map aC)] rfl (fJ (k := 25) (v := .d (.sl 5 (r6.map aC))) (.d (eZ 0 rfl (cO (f := aC) fun _ => rfl))) (fJ (k := 24) (v := .d (.sl 5 (r6.map aC))) (.d (eZ 0 rfl (cO (f := aC) fun _ => rfl))) (fJ (k := 13) (v := .d (.sl 5 (r6.map aC))) (.d (eZ 0 rfl (cO (f := aC) fun _ => rfl))) (fJ (k := 5) (v := .d (.sl 5 (r6.map aC))) (.d (eZ 0 rfl (cO (f := aC) fun _ => rfl))) (qC _ _)))))) ?_
  obtain ⟨x15, h16, h⟩ := bind_some h
  refine tr1 rfl (pA (aA rfl) cD.of rfl rfl rfl (rZ aC h16)) ?_
  refine tr1 rfl (aJ (v := .d (.sl 5 (x15.map aC))) (aA rfl) rfl rfl) ?_
  refine aF ?_
  have h := Option.some.inj h
  subst h
  exact bO ⟨rfl, _, .one _, rfl, rfl⟩

theorem zT (l_0 : List aB) {r : Int} (h : rX l_0 = some r) : Fn Try.prog 86 [.d (.sl 5 (l_0.map aC))] (.d (.lit (.int .i64 r))) := by
 unfold rX at h
 refine Fn.of_tr Try.func86 rfl (rs := [.tmp 2]) Try.results86 Try.ntmps86 (Nat.le_of_ble_eq_true rfl) ?_
 refine aG ?_
 refine aE ?_
 refine tr1 rfl (aJ (v := .d (.lit (.int .i64 0))) (aA rfl) rfl rfl) ?_
 refine aF ?_
 refine aG ?_
 refine aG ?_
 refine aE ?_
 refine tr1 rfl (aD (v := .d (.sl 5 (l_0.map aC))) (aA rfl) rfl rfl) ?_
 refine tr1 rfl (dW (aA rfl) rfl cD.of) ?_
 refine tr1 rfl (aD (v := .d (.lit (.int .i64 0))) (aA rfl) rfl rfl) ?_
 refine aF ?_
 refine bT ?_
 refine cM [5, 6] (fun (s1 : Int × Int) => [(2, .d (.lit (.int .i64 s1.1))), (7, .d (.lit (.int .i64 s1.2)))]) (fun (s1 : Int × Int) => []) (fun (k : Nat) (s1 : Int × Int) => nE l_0 (l_0.length : Int) k s1.1 s1.2) (fun _ => rfl) (0, 0) h (aV [] rfl rfl (aN rfl (aN rfl (aY ⟨rfl, rfl, trivial⟩)))) ?_
 rintro k2 ⟨n_0_1, t7_0_1⟩ h
 simp only [nE] at h
 refine aG ?_
 refine aE ?_
 refine tr1 rfl (bC (aA rfl) rfl rfl rfl) ?_
 refine aF ?_
 refine aG ?_
 refine bJ rfl (fun c3 => ?_) (fun c3 => ?_)
 ·have h := aS c3 h
  refine bH ?_
  refine aG ?_
  refine bT ?_
  refine aG ?_
  refine aE ?_
  obtain ⟨x4, h5, h⟩ := bind_some h
  refine tr1 rfl (cA (aA rfl) rfl rfl cD.of (bP aC h5)) ?_
  refine tr1 rfl (fS (aA rfl) rfl eB (es := (aC x4)) rfl rfl) ?_
  refine bQ rfl (gB (zs := [.lit (.int .i64 0), .lit (.int .i64 0), .lit (.int .i64 0), .lit (.int .i64 0), .lit (.bool false)]) (aA rfl) Try.zeroValue42 rfl rfl) ?_
  rintro _ ⟨b6, rfl⟩
  refine tr1 rfl (cB (i := 0) rfl rfl rfl rfl rfl Try.sizeOf42 rfl (aA rfl) (Nat.le_of_ble_eq_true rfl) (ds' := (aC x4)) rfl) ?_
  refine aF ?_
  refine aE ?_
  refine tr1 rfl (aD (v := .d (.lit (.int .i64 n_0_1))) (aA rfl) rfl rfl) ?_
  refine tr1 rfl (aQ (aA rfl) rfl rT) ?_
  refine tr1 rfl (aT (aA rfl) rfl (i := 0) rfl rfl bD) ?_
  refine tr1 rfl (bA (aA rfl) rfl rfl rfl) ?_
  refine tr1 rfl (aJ (v := .d (.lit (.int .i64 ((w64 (n_0_1 + x4.Points)))))) (aA rfl) rfl rfl) ?_
  refine eD ?_
  refine aE ?_
  refine tr1 rfl (bA (aA rfl) rfl rfl rfl) ?_
  refine tr1 rfl (aD (v := .d (.lit (.int .i64 ((w64 (t7_0_1 + 1)))))) (aA rfl) rfl rfl) ?_
  refine aF ?_
  exact ⟨(w64 (n_0_1 + x4.Points), w64 (t7_0_1 + 1)), h, aV [] rfl rfl (aN rfl (aN rfl (aY ⟨rfl, rfl, trivial⟩)))⟩
 ·have h := aR c3 h
  refine cU ?_
  refine .inl ⟨rfl, ?_⟩
  simp only [uX] at h
  refine aG ?_
  refine aE ?_
  refine tr1 rfl (aD (v := .d (.lit (.int .i64 n_0_1))) (aA rfl) rfl rfl) ?_
  refine tr1 rfl (aJ (v := .d (.lit (.int .i64 n_0_1))) (aA rfl) rfl rfl) ?_
  refine aF ?_
  have h := Option.some.inj h
  subst h
  exact bO ⟨rfl, _, .one _, rfl, rfl⟩

theorem zN (x : Int) {r : Int} (h : pW x = some r) : Fn Try.prog 101 [.d (.lit (.int .u64 x))] (.d (.lit (.int .i64 r))) := aGy (fun x w => Try.bits_Len x w) h

theorem nW (data_0 : List bB) (a_1 : Int) (b_2 : Int) (cmp_3 : bB → bB → Option Int) {r : (List bB)} {data_0_v : Value} (cmp_3_f : Nat) (cmp_3_v : List AV) (cmp_3_e : ∀ args w, (callFunc cmp_3_f args).run Try.prog w = .ok (.enter cmp_3_f args) w) (cmp_3_h : ∀ (x0 : bB) (x1 : bB) r, cmp_3 x0 x1 = some r → Fn Try.prog cmp_3_f ([.agg (bK x0), .agg (bK x1)] ++ cmp_3_v) (.d (.lit (.int .i64 r)))) (h : dK data_0 a_1 b_2 cmp_3 = some r) : fI Try.prog 118 [.d (.lit data_0_v), .d (.lit (.int .i64 a_1)), .d (.lit (.int .i64 b_2)), .fn cmp_3_f cmp_3_v] [.arr data_0_v 114 4 (data_0.map bK)] (fun r' o' => r' = .tup [] ∧ o' = [.arr data_0_v 114 4 (r.map bK)]) := by
 unfold dK at h
 refine iZ Try.func118 rfl (rs := []) Try.results118 Try.ntmps118 (Nat.le_of_ble_eq_true rfl) ?_
 refine aG ?_
 refine aE ?_
 refine tr1 rfl (aD (v := .d (.lit (.int .i64 a_1))) (aA rfl) rfl rfl) ?_
 refine tr1 rfl (bA (aA rfl) rfl rfl rfl) ?_
 refine tr1 rfl (aJ (v := .d (.lit (.int .i64 ((w64 (a_1 + 1)))))) (aA rfl) rfl rfl) ?_
 refine aF ?_
 refine bT ?_
 refine cM [1, 2, 3] (fun (s1 : Int × (List bB)) => [(0, .d (.lit data_0_v)), (8, .d (.lit (.int .i64 s1.1)))]) (fun (s1 : Int × (List bB)) => [.arr data_0_v 114 4 (s1.2.map bK)]) (fun (k : Nat) (s1 : Int × (List bB)) => cJ a_1 b_2 cmp_3 k s1.1 s1.2) (fun _ => rfl) (w64 (a_1 + 1), data_0) h (aV [0] rfl rfl (aN rfl (aN rfl (aY ⟨rfl, rfl, rfl, trivial⟩)))) ?_
 rintro k2 ⟨i_0_1, data_0_1⟩ h
 simp only [cJ] at h
 refine aG ?_
 refine aG ?_
 refine aE ?_
 refine tr1 rfl (aD (v := .d (.lit (.int .i64 i_0_1))) (aA rfl) rfl rfl) ?_
 refine tr1 rfl (aD (v := .d (.lit (.int .i64 b_2))) (aA rfl) rfl rfl) ?_
 refine tr1 rfl (bC (aA rfl) rfl rfl rfl) ?_
 refine aF ?_
 refine bJ rfl (fun c3 => ?_) (fun c3 => ?_)
 ·have h := aS c3 h
  refine bH ?_
  refine aG ?_
  refine bT ?_
  refine aG ?_
  refine aE ?_
  refine tr1 rfl (aD (v := .d (.lit (.int .i64 i_0_1))) (aA rfl) rfl rfl) ?_
  refine tr1 rfl (aJ (v := .d (.lit (.int .i64 i_0_1))) (aA rfl) rfl rfl) ?_
  refine aF ?_
  refine vN ?_
  refine cM [1, 2, 3, 8] (fun (s4 : Int × (List bB)) => [(0, .d (.lit data_0_v)), (9, .d (.lit (.int .i64 s4.1)))]) (fun (s4 : Int × (List bB)) => [.arr data_0_v 114 4 (s4.2.map bK)]) (fun (k : Nat) (s4 : Int × (List bB)) => cV (cJ a_1 b_2 cmp_3 k2) a_1 b_2 cmp_3 i_0_1 k s4.1 s4.2) (fun _ => rfl) (i_0_1, data_0_1) h (aV [0] rfl rfl (aN rfl (aN rfl (aY ⟨rfl, rfl, rfl, rfl, trivial⟩)))) ?_
  rintro k5 ⟨j_2_4, data_2_4⟩ h
  simp only [cV] at h
  refine aG ?_
  refine aG ?_
  obtain ⟨b6, h7, h⟩ := bind_some h
  refine gN mix 17 [0, 1, 2, 3, 8, 9] [(34, .d (.lit (.bool b6)))] ?_ ?_
  ·refine bG (decide (a_1 < j_2_4)) (fun c8 => ?_) (fun c8 => ?_)
   ·have h7 := aS c8 h7
    obtain ⟨x9, h10, h7⟩ := bind_some h7
    obtain ⟨x11, h12, h7⟩ := bind_some h7
    obtain ⟨r13, h14, h7⟩ := bind_some h7
    have h7 := Option.some.inj h7
    subst h7
    refine ⟨[(18, 0, .d (.lit (.int .i64 j_2_4))), (19, 1, .d (.lit (.int .i64 a_1))), (20, 2, .d (.lit (.bool ((decide (a_1 < j_2_4)))))), (21, 3, .d (.lit (.bool ((decide (a_1 < j_2_4)))))), (22, 4, .fn cmp_3_f cmp_3_v), (23, 5, .d (.lit data_0_v)), (24, 6, .d (.lit (.int .i64 j_2_4))), (25, 7, .ep data_0_v 4 j_2_4.toNat 0), (26, 8, .agg (bK x9)), (27, 9, .d (.lit data_0_v)), (28, 10, .d (.lit (.int .i64 j_2_4))), (29, 11, .d (.lit (.int .i64 ((w64 (j_2_4 - 1)))))), (30, 12, .ep data_0_v 4 (w64 (j_2_4 - 1)).toNat 0), (31, 13, .agg (bK x11)), (32, 14, .d (.lit (.int .i64 r13))), (33, 15, .d (.lit (.bool ((decide (r13 < 0)))))), (34, 16, .d (.lit (.bool ((decide (r13 < 0))))))], ?_, ?_⟩
    · exact ⟨by kernel_rfl, by kernel_rfl, by kernel_rfl, by kernel_rfl, by kernel_rfl, [([], []), ([], []), ([0, 1], []), ([2], []), ([3], []), ([3], []), ([3], []), ([3, 5, 6], []), ([3, 7], []), ([3], []), ([3], []), ([3, 10], []), ([3, 9, 11], []), ([3, 12], []), ([3, 4, 8, 13], []), ([3, 14], []), ([3, 15], [])], by kernel_rfl, ⟨fun S hS => aK rfl (aO rfl (aD (v := .d (.lit (.int .i64 j_2_4))) (aA rfl) (aH hS rfl) rfl)),
      fun S hS => aK rfl (aO rfl (aD (v := .d (.lit (.int .i64 a_1))) (aA rfl) (aH hS rfl) rfl)),
      fun S hS => aK rfl (aO rfl (bC (aA rfl) (aH hS rfl) (aH hS rfl) rfl)),
      fun S hS => aK rfl (aO rfl (aD (v := .d (.lit (.bool ((decide (a_1 < j_2_4)))))) (aA rfl) (aH hS rfl) rfl)),
      fun S hS => aK rfl (bI rfl rfl (aA rfl) (aU hS rfl) c8 (aD (v := .fn cmp_3_f cmp_3_v) (aA rfl) (aH hS rfl) rfl)),
      fun S hS => aK rfl (bI rfl rfl (aA rfl) (aU hS rfl) c8 (aD (v := .d (.lit data_0_v)) (aA rfl) (aH hS rfl) rfl)),
      fun S hS => aK rfl (bI rfl rfl (aA rfl) (aU hS rfl) c8 (aD (v := .d (.lit (.int .i64 j_2_4))) (aA rfl) (aH hS rfl) rfl)),
      fun S hS => aK rfl (bI rfl rfl (aA rfl) (aU hS rfl) c8 (cH (m := 0) (aA rfl) (aH hS rfl) rfl (aH hS rfl) oS.of (bP bK h10))),
      fun S hS => aK rfl (bI rfl rfl (aA rfl) (aU hS rfl) c8 (dF (aA rfl) (aH hS rfl) (l := 0) rfl (dX bK h10) tH (es := (bK x9)) rfl rfl)),
      fun S hS => aK rfl (bI rfl rfl (aA rfl) (aU hS rfl) c8 (aD (v := .d (.lit data_0_v)) (aA rfl) (aH hS rfl) rfl)),
      fun S hS => aK rfl (bI rfl rfl (aA rfl) (aU hS rfl) c8 (aD (v := .d (.lit (.int .i64 j_2_4))) (aA rfl) (aH hS rfl) rfl)),
      fun S hS => aK rfl (bI rfl rfl (aA rfl) (aU hS rfl) c8 (bA (aA rfl) (aH hS rfl) rfl rfl)),
      fun S hS => aK rfl (bI rfl rfl (aA rfl) (aU hS rfl) c8 (cH (m := 0) (aA rfl) (aH hS rfl) rfl (aH hS rfl) oS.of (bP bK h12))),
      fun S hS => aK rfl (bI rfl rfl (aA rfl) (aU hS rfl) c8 (dF (aA rfl) (aH hS rfl) (l := 0) rfl (dX bK h12) tH (es := (bK x11)) rfl rfl)),
      fun S hS => aK rfl (bI rfl rfl (aA rfl) (aU hS rfl) c8 (cC (aA rfl) (.clo _ _ _ _ cmp_3_e (aU hS rfl)) (tR (ev2 (aH hS rfl) (ev2 (aH hS rfl) evn))) rfl (BVs.refl _ _) (cmp_3_h _ _ _  h14) rfl)),
      fun S hS => aK rfl (bI rfl rfl (aA rfl) (aU hS rfl) c8 (bC (aA rfl) (aH hS rfl) rfl rfl)),
      fun S hS => aK rfl (aO rfl (bN (v := .d (.lit (.bool ((decide (r13 < 0)))))) (aA rfl) (aH hS rfl) c8 (aH hS rfl) rfl)), trivial⟩⟩
    · exact eC (aN rfl (aY ⟨rfl, rfl, rfl, rfl, rfl, rfl, trivial⟩))
   ·have h7 := aR c8 h7
    have h7 := Option.some.inj h7
    subst h7
    refine ⟨[(18, 0, .d (.lit (.int .i64 j_2_4))), (19, 1, .d (.lit (.int .i64 a_1))), (20, 2, .d (.lit (.bool ((decide (a_1 < j_2_4)))))), (21, 3, .d (.lit (.bool ((decide (a_1 < j_2_4)))))), (22, 4, .tup []), (23, 5, .tup []), (24, 6, .tup []), (25, 7, .tup []), (26, 8, .tup []), (27, 9, .tup []), (28, 10, .tup []), (29, 11, .tup []), (30, 12, .tup []), (31, 13, .tup []), (32, 14, .tup []), (33, 15, .tup []), (34, 16, .d (.lit (.bool false)))], ?_, ?_⟩
    · exact ⟨by kernel_rfl, by kernel_rfl, by kernel_rfl, by kernel_rfl, by kernel_rfl, [([], []), ([], []), ([0, 1], []), ([2], []), ([3], []), ([3], []), ([3], []), ([3, 5, 6], []), ([3, 7], []), ([3], []), ([3], []), ([3, 10], []), ([3, 9, 11], []), ([3, 12], []), ([3, 4, 8, 13], []), ([3, 14], []), ([3, 15], [])], by kernel_rfl, ⟨fun S hS => aK rfl (aO rfl (aD (v := .d (.lit (.int .i64 j_2_4))) (aA rfl) (aH hS rfl) rfl)),
      fun S hS => aK rfl (aO rfl (aD (v := .d (.lit (.int .i64 a_1))) (aA rfl) (aH hS rfl) rfl)),
      fun S hS => aK rfl (aO rfl (bC (aA rfl) (aH hS rfl) (aH hS rfl) rfl)),
      fun S hS => aK rfl (aO rfl (aD (v := .d (.lit (.bool ((decide (a_1 < j_2_4)))))) (aA rfl) (aH hS rfl) rfl)),
      fun S hS => aK rfl (bF rfl rfl (aA rfl) rfl (aA rfl) (aU hS rfl) c8),
      fun S hS => aK rfl (bF rfl rfl (aA rfl) rfl (aA rfl) (aU hS rfl) c8),
      fun S hS => aK rfl (bF rfl rfl (aA rfl) rfl (aA rfl) (aU hS rfl) c8),
      fun S hS => aK rfl (bF rfl rfl (aA rfl) rfl (aA rfl) (aU hS rfl) c8),
      fun S hS => aK rfl (bF rfl rfl (aA rfl) rfl (aA rfl) (aU hS rfl) c8),
      fun S hS => aK rfl (bF rfl rfl (aA rfl) rfl (aA rfl) (aU hS rfl) c8),
      fun S hS => aK rfl (bF rfl rfl (aA rfl) rfl (aA rfl) (aU hS rfl) c8),
      fun S hS => aK rfl (bF rfl rfl (aA rfl) rfl (aA rfl) (aU hS rfl) c8),
      fun S hS => aK rfl (bF rfl rfl (aA rfl) rfl (aA rfl) (aU hS rfl) c8),
      fun S hS => aK rfl (bF rfl rfl (aA rfl) rfl (aA rfl) (aU hS rfl) c8),
      fun S hS => aK rfl (bF rfl rfl (aA rfl) rfl (aA rfl) (aU hS rfl) c8),
      fun S hS => aK rfl (bF rfl rfl (aA rfl) rfl (aA rfl) (aU hS rfl) c8),
      fun S hS => aK rfl (aO rfl (bM (v := .d (.lit (.bool false))) (aA rfl) (aH hS rfl) c8 rfl rfl)), trivial⟩⟩
    · exact eC (aN rfl (aY ⟨rfl, rfl, rfl, rfl, rfl, rfl, trivial⟩))
  ·refine aF ?_
   refine bJ rfl (fun c15 => ?_) (fun c15 => ?_)
   ·have h := aS c15 h
    refine bH ?_
    refine aG ?_
    refine bT ?_
    obtain ⟨x17, h18, h⟩ := bind_some h
    obtain ⟨x19, h20, h⟩ := bind_some h
    obtain ⟨x21, h22, h⟩ := bind_some h
    refine mT mix 16 [0, 1, 2, 3, 8, 9] (fun X16 => [(39, .d (.lit data_0_v)), (41, .d (.lit (.int .i64 ((w64 (j_2_4 - 1)))))), (50, .agg (bK x19))]) (fun X16 => [.arr data_0_v 114 4 ((data_2_4.set j_2_4.toNat x17).map bK)]) ?_ ?_
    ·refine ⟨0, fun X16 => [(37, 0, .d (.lit data_0_v)), (38, 1, .d (.lit (.int .i64 j_2_4))), (39, 2, .d (.lit data_0_v)), (40, 3, .d (.lit (.int .i64 j_2_4))), (41, 4, .d (.lit (.int .i64 ((w64 (j_2_4 - 1)))))), (42, 5, .d (.lit data_0_v)), (43, 6, .d (.lit (.int .i64 j_2_4))), (44, 7, .d (.lit (.int .i64 ((w64 (j_2_4 - 1)))))), (45, 8, .ep data_0_v 4 (w64 (j_2_4 - 1)).toNat 0), (46, 9, .agg (bK x17)), (47, 10, .d (.lit data_0_v)), (48, 11, .d (.lit (.int .i64 j_2_4))), (49, 12, .ep data_0_v 4 j_2_4.toNat 0), (50, 13, .agg (bK x19)), (51, 14, .ep data_0_v 4 j_2_4.toNat 0)], fun X16 => [([(15, .arr data_0_v 114 4 ((data_2_4.set j_2_4.toNat x17).map bK))], .arr data_0_v 114 4 (data_2_4.map bK))], ?_, ?_⟩
     · exact ⟨by kernel_rfl, by kernel_rfl, by kernel_rfl, fun _ => by kernel_rfl, fun _ => by kernel_rfl, fun _ => by kernel_rfl, fun _ => rfl, [([], [15]), ([], [15]), ([], []), ([], []), ([3], []), ([], [15]), ([], [15]), ([6], [15]), ([5, 7], [15]), ([8], [15]), ([], [15]), ([], [15]), ([10, 11], [15]), ([12], [15]), ([0, 1], [15]), ([9, 14], [])], by kernel_rfl, ⟨fun X16 S hw hi hS => bL (X := X16) rfl (hw X16) rfl (aO rfl (aD (v := .d (.lit data_0_v)) (aA rfl) (aH hS rfl) rfl)),
      fun X16 S hw hi hS => bL (X := X16) rfl (hw X16) rfl (aO rfl (aD (v := .d (.lit (.int .i64 j_2_4))) (aA rfl) (aH hS rfl) rfl)),
      fun X16 S hw hi hS => bL (X := X16) rfl (hw X16) rfl (aO rfl (aD (v := .d (.lit data_0_v)) (aA rfl) (aH hS rfl) rfl)),
      fun X16 S hw hi hS => bL (X := X16) rfl (hw X16) rfl (aO rfl (aD (v := .d (.lit (.int .i64 j_2_4))) (aA rfl) (aH hS rfl) rfl)),
      fun X16 S hw hi hS => bL (X := X16) rfl (hw X16) rfl (aO rfl (bA (aA rfl) (aH hS rfl) rfl rfl)),
      fun X16 S hw hi hS => bL (X := X16) rfl (hw X16) rfl (aO rfl (aD (v := .d (.lit data_0_v)) (aA rfl) (aH hS rfl) rfl)),
      fun X16 S hw hi hS => bL (X := X16) rfl (hw X16) rfl (aO rfl (aD (v := .d (.lit (.int .i64 j_2_4))) (aA rfl) (aH hS rfl) rfl)),
      fun X16 S hw hi hS => bL (X := X16) rfl (hw X16) rfl (aO rfl (bA (aA rfl) (aH hS rfl) rfl rfl)),
      fun X16 S hw hi hS => bL (X := X16) rfl (hw X16) rfl (aO rfl (cH (m := 0) (aA rfl) (aH hS rfl) (og hS rfl rfl) (aH hS rfl) oS.of (bP bK h18))),
      fun X16 S hw hi hS => bL (X := X16) rfl (hw X16) rfl (aO rfl (dF (aA rfl) (aH hS rfl) (l := 0) (og hS rfl rfl) (dX bK h18) tH (es := (bK x17)) rfl rfl)),
      fun X16 S hw hi hS => bL (X := X16) rfl (hw X16) rfl (aO rfl (aD (v := .d (.lit data_0_v)) (aA rfl) (aH hS rfl) rfl)),
      fun X16 S hw hi hS => bL (X := X16) rfl (hw X16) rfl (aO rfl (aD (v := .d (.lit (.int .i64 j_2_4))) (aA rfl) (aH hS rfl) rfl)),
      fun X16 S hw hi hS => bL (X := X16) rfl (hw X16) rfl (aO rfl (cH (m := 0) (aA rfl) (aH hS rfl) (og hS rfl rfl) (aH hS rfl) oS.of (bP bK h20))),
      fun X16 S hw hi hS => bL (X := X16) rfl (hw X16) rfl (aO rfl (dF (aA rfl) (aH hS rfl) (l := 0) (og hS rfl rfl) (dX bK h20) tH (es := (bK x19)) rfl rfl)),
      fun X16 S hw hi hS => bL (X := X16) rfl (hw X16) rfl (aO rfl (cH (m := 0) (aA rfl) (aH hS rfl) (og hS rfl rfl) (aH hS rfl) oS.of (bP bK h22))),
      fun X16 S hw hi hS => qP (X := X16) hS rfl rfl rfl (p := 0) rfl rfl (aO rfl (jD (l := 0) (aH hS rfl) (og hS rfl rfl) (dX bK h22) (aH hS rfl) rfl rfl Try.sizeOf114 rfl (aA rfl) (Nat.le_of_ble_eq_true rfl) (rows' := ((data_2_4.set j_2_4.toNat x17)).map bK) (mJ _ _ _ _ rfl))), trivial⟩⟩
     · exact fun X16 => eC (aN rfl (aN rfl (aN rfl (aY ⟨rfl, rfl, rfl, rfl, rfl, rfl, trivial⟩))))
    ·intro X16
     obtain ⟨x23, h24, h⟩ := bind_some h
     refine tr1 rfl (cH (m := 0) (aA rfl) rfl rfl rfl oS.of (bP bK h24)) ?_
     refine tr1 rfl (jD (l := 0) rfl rfl (dX bK h24) rfl rfl rfl Try.sizeOf114 rfl (aA rfl) (Nat.le_of_ble_eq_true rfl) (rows' := (((data_2_4.set j_2_4.toNat x17).set (w64 (j_2_4 - 1)).toNat x19)).map bK) (mJ _ _ _ _ rfl)) ?_
     refine eD ?_
     refine aE ?_
     refine tr1 rfl (aD (v := .d (.lit (.int .i64 j_2_4))) (aA rfl) rfl rfl) ?_
     refine tr1 rfl (bA (aA rfl) rfl rfl rfl) ?_
     refine tr1 rfl (aJ (v := .d (.lit (.int .i64 ((w64 (j_2_4 - 1)))))) (aA rfl) rfl rfl) ?_
     refine aF ?_
     exact ⟨(w64 (j_2_4 - 1), ((data_2_4.set j_2_4.toNat x17).set (w64 (j_2_4 - 1)).toNat x19)), h, aV [0] rfl rfl (aN rfl (aN rfl (aY ⟨rfl, rfl, rfl, rfl, trivial⟩)))⟩
   ·have h := aR c15 h
    refine cU ?_
    refine .inl ⟨rfl, ?_⟩
    simp only [fF] at h
    simp only [fE] at h
    refine aE ?_
    refine tr1 rfl (aD (v := .d (.lit (.int .i64 i_0_1))) (aA rfl) rfl rfl) ?_
    refine tr1 rfl (bA (aA rfl) rfl rfl rfl) ?_
    refine tr1 rfl (aJ (v := .d (.lit (.int .i64 ((w64 (i_0_1 + 1)))))) (aA rfl) rfl rfl) ?_
    refine aF ?_
    exact ⟨(w64 (i_0_1 + 1), data_2_4), h, aV [0] rfl rfl (aN rfl (aN rfl (aY ⟨rfl, rfl, rfl, trivial⟩)))⟩
 ·have h := aR c3 h
  refine cU ?_
  refine .inl ⟨rfl, ?_⟩
  simp only [fD] at h
  have h := Option.some.inj h
  subst h
  exact ⟨_, [.arr data_0_v 114 4 (data_0_1.map bK)], [], _, .none, .refl _, .same _, rfl, rfl⟩

theorem pR (data_0 : List bB) (a_1 : Int) (b_2 : Int) (limit_3 : Int) (cmp_4 : bB → bB → Option Int) {r : (List bB)} {data_0_v : Value} (cmp_4_f : Nat) (cmp_4_v : List AV) (cmp_4_e : ∀ args w, (callFunc cmp_4_f args).run Try.prog w = .ok (.enter cmp_4_f args) w) (cmp_4_h : ∀ (x0 : bB) (x1 : bB) r, cmp_4 x0 x1 = some r → Fn Try.prog cmp_4_f ([.agg (bK x0), .agg (bK x1)] ++ cmp_4_v) (.d (.lit (.int .i64 r)))) (h : gQ data_0 a_1 b_2 limit_3 cmp_4 = some r) : fI Try.prog 103 [.d (.lit data_0_v), .d (.lit (.int .i64 a_1)), .d (.lit (.int .i64 b_2)), .d (.lit (.int .i64 limit_3)), .fn cmp_4_f cmp_4_v] [.arr data_0_v 114 4 (data_0.map bK)] (fun r' o' => r' = .tup [] ∧ o' = [.arr data_0_v 114 4 (r.map bK)]) := by
 unfold gQ at h
 refine iZ Try.func103 rfl (rs := []) Try.results103 Try.ntmps103 (Nat.le_of_ble_eq_true rfl) ?_
 refine aG ?_
 refine aE ?_
 refine tr1 rfl (aJ (v := .d (.lit (.bool true))) (aA rfl) rfl rfl) ?_
 refine aF ?_
 refine aG ?_
 refine aE ?_
 refine tr1 rfl (aJ (v := .d (.lit (.bool true))) (aA rfl) rfl rfl) ?_
 refine aF ?_
 refine bT ?_
 refine cM [4] (fun (s1 : Int × Int × Int × Bool × Bool × (List bB)) => [(0, .d (.lit data_0_v)), (1, .d (.lit (.int .i64 s1.1))), (2, .d (.lit (.int .i64 s1.2.1))), (3, .d (.lit (.int .i64 s1.2.2.1))), (10, .d (.lit (.bool s1.2.2.2.1))), (11, .d (.lit (.bool s1.2.2.2.2.1)))]) (fun (s1 : Int × Int × Int × Bool × Bool × (List bB)) => [.arr data_0_v 114 4 (s1.2.2.2.2.2.map bK)]) (fun (k : Nat) (s1 : Int × Int × Int × Bool × Bool × (List bB)) => gD cmp_4 k s1.1 s1.2.1 s1.2.2.1 s1.2.2.2.1 s1.2.2.2.2.1 s1.2.2.2.2.2) (fun _ => rfl) (a_1, b_2, limit_3, true, true, data_0) h (aV [0] rfl rfl (aN rfl (aN rfl (aN rfl (aN rfl (aN rfl (aN rfl (aY ⟨rfl, trivial⟩)))))))) ?_
 rintro k2 ⟨a_0_1, b_0_1, limit_0_1, wasBalanced_0_1, wasPartitioned_0_1, data_0_1⟩ h
 simp only [gD] at h
 refine bT ?_
 refine aG ?_
 refine aE ?_
 refine tr1 rfl (aD (v := .d (.lit (.int .i64 b_0_1))) (aA rfl) rfl rfl) ?_
 refine tr1 rfl (aD (v := .d (.lit (.int .i64 a_0_1))) (aA rfl) rfl rfl) ?_
 refine tr1 rfl (bA (aA rfl) rfl rfl rfl) ?_
 refine tr1 rfl (aJ (v := .d (.lit (.int .i64 ((w64 (b_0_1 - a_0_1)))))) (aA rfl) rfl rfl) ?_
 refine aF ?_
 refine aG ?_
 refine aG ?_
 refine aE ?_
 refine tr1 rfl (aD (v := .d (.lit (.int .i64 ((w64 (b_0_1 - a_0_1)))))) (aA rfl) rfl rfl) ?_
 refine tr1 rfl (bC (aA rfl) rfl rfl rfl) ?_
 refine aF ?_
 refine bJ rfl (fun c3 => ?_) (fun c3 => ?_)
 ·have h := aS c3 h
  refine aG ?_
  refine aE ?_
  refine tr1 rfl (aD (v := .d (.lit data_0_v)) (aA rfl) rfl rfl) ?_
  refine tr1 rfl (aD (v := .d (.lit (.int .i64 a_0_1))) (aA rfl) rfl rfl) ?_
  refine tr1 rfl (aD (v := .d (.lit (.int .i64 b_0_1))) (aA rfl) rfl rfl) ?_
  refine tr1 rfl (aD (v := .fn cmp_4_f cmp_4_v) (aA rfl) rfl rfl) ?_
  obtain ⟨r4, h5, h⟩ := bind_some h
  refine bQ rfl (dI (passed := [.arr data_0_v 114 4 (data_0_1.map bK)]) (aA rfl) rfl (.func _ _ Try.call118) rfl rfl (nW data_0_1 a_0_1 b_0_1 cmp_4 cmp_4_f cmp_4_v cmp_4_e cmp_4_h h5)) ?_
  rintro _ ⟨_, _, ⟨rfl, rfl⟩, rfl⟩
  refine aF ?_
  have h := Option.some.inj h
  subst h
  exact bO ⟨rfl, _, [.arr data_0_v 114 4 (r4.map bK)], [], _, .none, .refl _, .same _, rfl, rfl⟩
 ·have h := aR c3 h
  refine bH ?_
  refine aG ?_
  refine aG ?_
  cases h

theorem sQ (x_0 : List bB) (cmp_1 : bB → bB → Option Int) {r : (List bB)} {x_0_v : Value} (cmp_1_f : Nat) (cmp_1_v : List AV) (cmp_1_e : ∀ args w, (callFunc cmp_1_f args).run Try.prog w = .ok (.enter cmp_1_f args) w) (cmp_1_h : ∀ (x0 : bB) (x1 : bB) r, cmp_1 x0 x1 = some r → Fn Try.prog cmp_1_f ([.agg (bK x0), .agg (bK x1)] ++ cmp_1_v) (.d (.lit (.int .i64 r)))) (h : hJ x_0 cmp_1 = some r) : fI Try.prog 87 [.d (.lit x_0_v), .fn cmp_1_f cmp_1_v] [.arr x_0_v 114 4 (x_0.map bK)] (fun r' o' => r' = .tup [] ∧ o' = [.arr x_0_v 114 4 (r.map bK)]) := by
 unfold hJ at h
 refine iZ Try.func87 rfl (rs := []) Try.results87 Try.ntmps87 (Nat.le_of_ble_eq_true rfl) ?_
 refine aG ?_
 refine aE ?_
 refine tr1 rfl (aD (v := .d (.lit x_0_v)) (aA rfl) rfl rfl) ?_
 refine tr1 rfl (lO (m := 0) (aA rfl) rfl rfl oS.of) ?_
 refine tr1 rfl (aJ (v := .d (.lit (.int .i64 ((x_0.length : Int))))) (aA rfl) rfl rfl) ?_
 refine aF ?_
 refine aE ?_
 refine tr1 rfl (aD (v := .d (.lit x_0_v)) (aA rfl) rfl rfl) ?_
 refine tr1 rfl (aD (v := .d (.lit (.int .i64 ((x_0.length : Int))))) (aA rfl) rfl rfl) ?_
 refine tr1 rfl (aD (v := .d (.lit (.int .i64 ((x_0.length : Int))))) (aA rfl) rfl rfl) ?_
 refine tr1 rfl (oR (aA rfl) rfl Try.runUnderlying3 Try.runUnderlying127) ?_
 obtain ⟨r1, h2, h⟩ := bind_some h
 refine tr1 rfl (cC (aA rfl) (.func _ _ Try.call101) rfl rfl (BVs.refl _ _) (zN _ h2) rfl) ?_
 refine tr1 rfl (aD (v := .fn cmp_1_f cmp_1_v) (aA rfl) rfl rfl) ?_
 obtain ⟨r3, h4, h⟩ := bind_some h
 refine bQ rfl (dI (passed := [.arr x_0_v 114 4 (x_0.map bK)]) (aA rfl) rfl (.func _ _ Try.call103) rfl rfl (pR x_0 0 (x_0.length : Int) r1 cmp_1 cmp_1_f cmp_1_v cmp_1_e cmp_1_h h4)) ?_
 rintro _ ⟨_, _, ⟨rfl, rfl⟩, rfl⟩
 refine aF ?_
 have h := Option.some.inj h
 subst h
 exact ⟨_, [.arr x_0_v 114 4 (r3.map bK)], [], _, .none, .refl _, .same _, rfl, rfl⟩

theorem wN (x_0 : bB) (y_1 : bB) {r : Int} (h : jY x_0 y_1 = some r) : Fn Try.prog 88 [.agg (bK x_0), .agg (bK y_1)] (.d (.lit (.int .i64 r))) := by
 unfold jY at h
 refine Fn.of_tr Try.func88 rfl (rs := [.tmp 4]) Try.results88 Try.ntmps88 (Nat.le_of_ble_eq_true rfl) ?_
 refine aG ?_
 refine aE ?_
 refine bQ rfl (fN (v := .agg (bK x_0)) (aA rfl) rfl rfl rfl) ?_
 rintro _ ⟨b1, rfl⟩
 refine bQ rfl (fN (v := .agg (bK y_1)) (aA rfl) rfl rfl rfl) ?_
 rintro _ ⟨b2, rfl⟩
 refine tr1 rfl (aJ (v := .d (.lit (.int .i64 0))) (aA rfl) rfl rfl) ?_
 refine aF ?_
 refine aG ?_
 refine aE ?_
 refine tr1 rfl (aQ (aA rfl) rfl aAu) ?_
 refine tr1 rfl (aT (aA rfl) rfl (i := 1) rfl rfl bD) ?_
 refine tr1 rfl (aQ (aA rfl) rfl aAu) ?_
 refine tr1 rfl (aT (aA rfl) rfl (i := 0) rfl rfl bD) ?_
 refine tr1 rfl (bA (aA rfl) rfl rfl rfl) ?_
 refine tr1 rfl (aQ (aA rfl) rfl uL) ?_
 refine tr1 rfl (aT (aA rfl) rfl (i := 1) rfl rfl bD) ?_
 refine tr1 rfl (aQ (aA rfl) rfl uL) ?_
 refine tr1 rfl (aT (aA rfl) rfl (i := 0) rfl rfl bD) ?_
 refine tr1 rfl (bA (aA rfl) rfl rfl rfl) ?_
 refine tr1 rfl (aQ (aA rfl) rfl aAv) ?_
 refine tr1 rfl (aT (aA rfl) rfl (i := 0) rfl rfl bD) ?_
 refine tr1 rfl (aQ (aA rfl) rfl aAv) ?_
 refine tr1 rfl (aT (aA rfl) rfl (i := 1) rfl rfl bD) ?_
 refine tr1 rfl (bA (aA rfl) rfl rfl rfl) ?_
 refine tr1 rfl (aQ (aA rfl) rfl wZ) ?_
 refine tr1 rfl (aT (aA rfl) rfl (i := 0) rfl rfl bD) ?_
 refine tr1 rfl (aQ (aA rfl) rfl wZ) ?_
 refine tr1 rfl (aT (aA rfl) rfl (i := 1) rfl rfl bD) ?_
 refine tr1 rfl (bA (aA rfl) rfl rfl rfl) ?_
 refine tr1 rfl (iE (aA rfl) dO rfl rfl (rows := ([w64 (y_1.points - x_0.points), w64 (y_1.musts - x_0.musts), w64 (x_0.many - y_1.many), w64 (x_0.player - y_1.player)]).map bR) rfl (cO (f := bR) fun _ => rfl) rfl (by decide)) ?_
 obtain ⟨r3, h4, h⟩ := bind_some h
 refine tr1 rfl (cC (aA rfl) (.func _ _ Try.call99) rfl rfl (BVs.refl _ _) (wV _ h4) rfl) ?_
 refine tr1 rfl (aJ (v := .d (.lit (.int .i64 r3))) (aA rfl) rfl rfl) ?_
 refine aF ?_
 have h := Option.some.inj h
 subst h
 refine cR (cG (cK (l := [4]) ⟨rfl, trivial⟩)) ?_
 exact bO ⟨rfl, _, .one _, rfl, rfl⟩

theorem tZ (b_0 : bW) (week_1 : Int) {r : (List Int)} (h : gH b_0 week_1 = some r) : Fn Try.prog 59 [.cp (cE b_0), .d (.lit (.int .i64 week_1))] (.d (.sl 1 (r.map bR))) := by
 unfold gH at h
 refine Fn.of_tr Try.func59 rfl (rs := [.tmp 4]) Try.results59 Try.ntmps59 (Nat.le_of_ble_eq_true rfl) ?_
 refine aG ?_
 refine aE ?_
 refine tr1 rfl (sG 1 (aA rfl)) ?_
 refine aF ?_
 refine aG ?_
 refine aE ?_
 refine tr1 rfl (gV 114 4 (.inl rfl) (aA rfl)) ?_
 refine aF ?_
 refine aG ?_
 refine aG ?_
 refine aE ?_
 refine tr1 rfl (aD (v := .cp [.lit (.int .i64 b_0.Ledger.Players), .lit (.int .i64 b_0.Ledger.Counts), .sl 5 (b_0.Ledger.Reports.map aC), .sl 3 (b_0.Ledger.Bans.map aI), .sl 3 (b_0.Ledger.Frozen.map aI)]) (aA rfl) rfl rfl) ?_
 refine tr1 rfl (oZ (aA rfl) rfl) ?_
 refine tr1 rfl (cX (aA rfl) rfl iP (es := [.lit (.int .i64 b_0.Ledger.Players), .lit (.int .i64 b_0.Ledger.Counts), .sl 5 (b_0.Ledger.Reports.map aC), .sl 3 (b_0.Ledger.Bans.map aI), .sl 3 (b_0.Ledger.Frozen.map aI)]) rfl) ?_
 refine tr1 rfl (cX (aA rfl) rfl jN (es := [.lit (.int .i64 b_0.Ledger.Players)]) rfl) ?_
 refine tr1 rfl (cL (aA rfl) rfl bD) ?_
 refine tr1 rfl (aD (v := .d (.lit (.int .i64 0))) (aA rfl) rfl rfl) ?_
 refine aF ?_
 refine bT ?_
 refine cM [0, 1, 18] (fun (s2 : Int × (List bB) × Value) => [(5, .d (.lit s2.2.2)), (19, .d (.lit (.int .i64 s2.1)))]) (fun (s2 : Int × (List bB) × Value) => [.arr s2.2.2 114 4 (s2.2.1.map bK)]) (fun (k : Nat) (s2 : Int × (List bB) × Value) => fA b_0 week_1 b_0.Ledger.Players k s2.1 s2.2.1) (fun _ => rfl) (0, ([] : List bB), (.slice none 0 0)) h (aV [0] rfl rfl (aN rfl (aN rfl (aY ⟨rfl, rfl, rfl, trivial⟩)))) ?_
 rintro k4 ⟨t19_0_2, lines_0_2, w3⟩ h
 simp only [fA] at h
 refine aG ?_
 refine aE ?_
 refine tr1 rfl (bC (aA rfl) rfl rfl rfl) ?_
 refine aF ?_
 refine aG ?_
 refine bJ rfl (fun c5 => ?_) (fun c5 => ?_)
 ·have h := aS c5 h
  refine bH ?_
  refine aG ?_
  refine bT ?_
  refine aG ?_
  refine aE ?_
  refine tr1 rfl (aD (v := .d (.lit (.int .i64 t19_0_2))) (aA rfl) rfl rfl) ?_
  refine tr1 rfl (aJ (v := .d (.lit (.int .i64 t19_0_2))) (aA rfl) rfl rfl) ?_
  refine aF ?_
  refine aG ?_
  refine aE ?_
  refine tr1 rfl (aD (v := .cp [.lit (.int .i64 b_0.Ledger.Players), .lit (.int .i64 b_0.Ledger.Counts), .sl 5 (b_0.Ledger.Reports.map aC), .sl 3 (b_0.Ledger.Bans.map aI), .sl 3 (b_0.Ledger.Frozen.map aI)]) (aA rfl) rfl rfl) ?_
  refine tr1 rfl (aD (v := .d (.lit (.int .i64 t19_0_2))) (aA rfl) rfl rfl) ?_
  refine tr1 rfl (aD (v := .d (.lit (.int .i64 week_1))) (aA rfl) rfl rfl) ?_
  obtain ⟨r6, h7, h⟩ := bind_some h
  refine tr1 rfl (lF (aA rfl) (.func _ _ Try.call72) rfl rfl (pG _ _ _ h7)) ?_
  refine tr1 rfl (aJ (v := .d (.sl 5 (r6.map aC))) (aA rfl) rfl rfl) ?_
  refine aF ?_
  refine aG ?_
  refine aG ?_
  refine aE ?_
  refine tr1 rfl (aD (v := .cp [.lit (.int .i64 b_0.Ledger.Players), .lit (.int .i64 b_0.Ledger.Counts), .sl 5 (b_0.Ledger.Reports.map aC), .sl 3 (b_0.Ledger.Bans.map aI), .sl 3 (b_0.Ledger.Frozen.map aI)]) (aA rfl) rfl rfl) ?_
  refine tr1 rfl (oZ (aA rfl) rfl) ?_
  refine tr1 rfl (cX (aA rfl) rfl iP (es := [.lit (.int .i64 b_0.Ledger.Players), .lit (.int .i64 b_0.Ledger.Counts), .sl 5 (b_0.Ledger.Reports.map aC), .sl 3 (b_0.Ledger.Bans.map aI), .sl 3 (b_0.Ledger.Frozen.map aI)]) rfl) ?_
  refine tr1 rfl (cX (aA rfl) rfl nC (es := [.sl 3 (b_0.Ledger.Bans.map aI)]) rfl) ?_
  refine tr1 rfl (cL (aA rfl) rfl kE) ?_
  refine tr1 rfl (aD (v := .d (.lit (.int .i64 t19_0_2))) (aA rfl) rfl rfl) ?_
  refine tr1 rfl (aD (v := .d (.lit (.int .i64 week_1))) (aA rfl) rfl rfl) ?_
  obtain ⟨r8, h9, h⟩ := bind_some h
  refine tr1 rfl (cC (aA rfl) (.func _ _ Try.call48) rfl rfl (BVs.refl _ _) (uW _ _ _ h9) rfl) ?_
  refine tr1 rfl (aD (v := .d (.lit (.bool r8))) (aA rfl) rfl rfl) ?_
  obtain ⟨b10, h11, h⟩ := bind_some h
  refine bX 4 [0, 1, 5, 6, 7, 18, 19] 38 b10 ?_ ?_
  ·refine bG (r8) (fun c28 => ?_) (fun c28 => ?_)
   ·have h11 := aS c28 h11
    refine aP rfl rfl (aA rfl) rfl (aA rfl) rfl c28 ?_
    refine aP rfl rfl (aA rfl) rfl (aA rfl) rfl c28 ?_
    refine aP rfl rfl (aA rfl) rfl (aA rfl) rfl c28 ?_
    refine tr1 rfl (bN (v := .d (.lit (.bool true))) (aA rfl) rfl c28 rfl rfl) ?_
    have h11 := Option.some.inj h11
    subst h11
    refine aF (aZ rfl ⟨rfl, rfl, rfl, rfl, rfl, rfl, rfl, trivial⟩ rfl)
   ·have h11 := aR c28 h11
    refine aL rfl rfl (aA rfl) rfl c28 (aD (v := .d (.sl 5 (r6.map aC))) (aA rfl) rfl rfl) ?_
    refine aL rfl rfl (aA rfl) rfl c28 (dW (aA rfl) rfl cD.of) ?_
    refine aL rfl rfl (aA rfl) rfl c28 (bC (aA rfl) rfl rfl rfl) ?_
    refine tr1 rfl (bM (v := .d (.lit (.bool ((decide ((r6.length : Int) = 0)))))) (aA rfl) rfl c28 rfl rfl) ?_
    have h11 := Option.some.inj h11
    subst h11
    refine aF (aZ rfl ⟨rfl, rfl, rfl, rfl, rfl, rfl, rfl, trivial⟩ rfl)
  ·refine aF ?_
   refine bJ rfl (fun c12 => ?_) (fun c12 => ?_)
   ·have h := aS c12 h
    refine cU ?_
    refine .inl ⟨rfl, ?_⟩
    simp only [jW] at h
    refine aE ?_
    refine tr1 rfl (bA (aA rfl) rfl rfl rfl) ?_
    refine tr1 rfl (aD (v := .d (.lit (.int .i64 ((w64 (t19_0_2 + 1)))))) (aA rfl) rfl rfl) ?_
    refine aF ?_
    exact ⟨(w64 (t19_0_2 + 1), lines_0_2, w3), h, aV [0] rfl rfl (aN rfl (aN rfl (aY ⟨rfl, rfl, rfl, trivial⟩)))⟩
   ·have h := aR c12 h
    refine bH ?_
    refine aG ?_
    refine aE ?_
    refine tr1 rfl (aD (v := .d (.lit (.int .i64 t19_0_2))) (aA rfl) rfl rfl) ?_
    refine tr1 rfl (aD (v := .cp [.lit (.int .i64 b_0.Ledger.Players), .lit (.int .i64 b_0.Ledger.Counts), .sl 5 (b_0.Ledger.Reports.map aC), .sl 3 (b_0.Ledger.Bans.map aI), .sl 3 (b_0.Ledger.Frozen.map aI)]) (aA rfl) rfl rfl) ?_
    refine tr1 rfl (aD (v := .d (.sl 5 (r6.map aC))) (aA rfl) rfl rfl) ?_
    obtain ⟨r13, h14, h⟩ := bind_some h
    refine tr1 rfl (lF (aA rfl) (.func _ _ Try.call71) rfl rfl (pI _ _ h14)) ?_
    obtain ⟨r15, h16, h⟩ := bind_some h
    refine tr1 rfl (cC (aA rfl) (.func _ _ Try.call86) rfl rfl (BVs.refl _ _) (zT _ h16) rfl) ?_
    refine tr1 rfl (aD (v := .d (.sl 5 (r6.map aC))) (aA rfl) rfl rfl) ?_
    refine tr1 rfl (dW (aA rfl) rfl cD.of) ?_
    refine tr1 rfl (mI (aA rfl) aHw (zs := [.lit (.int .i64 0), .lit (.int .i64 0), .lit (.int .i64 0), .lit (.int .i64 0)]) rfl rfl rfl rfl (es := [.lit (.int .i64 t19_0_2), .lit (.int .i64 r15), .lit (.int .i64 0), .lit (.int .i64 ((r6.length : Int)))]) rfl) ?_
    refine bQ rfl (gB (zs := [.lit (.int .i64 0), .lit (.int .i64 0), .lit (.int .i64 0), .lit (.int .i64 0)]) (aA rfl) Try.zeroValue114 rfl rfl) ?_
    rintro _ ⟨b17, rfl⟩
    refine tr1 rfl (cB (i := 1) rfl rfl rfl rfl rfl Try.sizeOf114 rfl (aA rfl) (Nat.le_of_ble_eq_true rfl) (ds' := (bK (bB.mk t19_0_2 r15 0 (r6.length : Int)))) rfl) ?_
    refine aF ?_
    refine aG ?_
    refine aG ?_
    refine aE ?_
    refine tr1 rfl (aD (v := .d (.sl 5 (r6.map aC))) (aA rfl) rfl rfl) ?_
    refine tr1 rfl (dW (aA rfl) rfl cD.of) ?_
    refine tr1 rfl (aD (v := .d (.lit (.int .i64 0))) (aA rfl) rfl rfl) ?_
    refine aF ?_
    refine bT ?_
    refine cM [0, 1, 5, 8, 18, 19, 47, 48] (fun (s18 : Int × bB) => [(49, .d (.lit (.int .i64 s18.1)))]) (fun (s18 : Int × bB) => [.arr w3 114 4 (lines_0_2.map bK), .box b17 0 (bK s18.2)]) (fun (k : Nat) (s18 : Int × bB) => gU (fA b_0 week_1 b_0.Ledger.Players k4) b_0 week_1 b_0.Ledger.Players t19_0_2 r6 (r6.length : Int) lines_0_2 k s18.1 s18.2) (fun _ => rfl) (0, (bB.mk t19_0_2 r15 0 (r6.length : Int))) h (aV [0, 1] rfl rfl (aN rfl (aY ⟨rfl, rfl, rfl, rfl, rfl, rfl, rfl, rfl, trivial⟩))) ?_
    rintro k19 ⟨t49_2_18, x_2_18⟩ h
    simp only [gU] at h
    refine aG ?_
    refine aE ?_
    refine tr1 rfl (bC (aA rfl) rfl rfl rfl) ?_
    refine aF ?_
    refine aG ?_
    refine bJ rfl (fun c20 => ?_) (fun c20 => ?_)
    ·have h := aS c20 h
     refine bH ?_
     refine aG ?_
     refine bT ?_
     refine aG ?_
     refine aE ?_
     obtain ⟨x21, h22, h⟩ := bind_some h
     refine tr1 rfl (cA (aA rfl) rfl rfl cD.of (bP aC h22)) ?_
     refine tr1 rfl (fS (aA rfl) rfl eB (es := (aC x21)) rfl rfl) ?_
     refine bQ rfl (gB (zs := [.lit (.int .i64 0), .lit (.int .i64 0), .lit (.int .i64 0), .lit (.int .i64 0), .lit (.bool false)]) (aA rfl) Try.zeroValue42 rfl rfl) ?_
     rintro _ ⟨b23, rfl⟩
     refine tr1 rfl (cB (i := 2) rfl rfl rfl rfl rfl Try.sizeOf42 rfl (aA rfl) (Nat.le_of_ble_eq_true rfl) (ds' := (aC x21)) rfl) ?_
     refine aF ?_
     refine aG ?_
     refine aE ?_
     refine tr1 rfl (aQ (aA rfl) rfl qF) ?_
     refine tr1 rfl (aT (aA rfl) rfl (i := 2) rfl rfl tE) ?_
     refine aF ?_
     refine bJ rfl (fun c24 => ?_) (fun c24 => ?_)
     ·have h := aS c24 h
      refine aE ?_
      refine tr1 rfl (aQ (aA rfl) rfl uL) ?_
      refine tr1 rfl (aT (aA rfl) rfl (i := 1) rfl rfl bD) ?_
      refine tr1 rfl (aQ (aA rfl) rfl rT) ?_
      refine tr1 rfl (aT (aA rfl) rfl (i := 2) rfl rfl bD) ?_
      refine tr1 rfl (bA (aA rfl) rfl rfl rfl) ?_
      refine tr1 rfl (aQ (aA rfl) rfl uL) ?_
      refine tr1 rfl (cB (i := 1) rfl rfl rfl rfl rfl Try.sizeOf3 rfl (aA rfl) (Nat.le_of_ble_eq_true rfl) (ds' := (bK (bB.mk x_2_18.player x_2_18.points (w64 (x_2_18.musts + x21.Points)) x_2_18.many))) rfl) ?_
      refine eD ?_
      refine aE ?_
      refine tr1 rfl (bA (aA rfl) rfl rfl rfl) ?_
      refine tr1 rfl (aD (v := .d (.lit (.int .i64 ((w64 (t49_2_18 + 1)))))) (aA rfl) rfl rfl) ?_
      refine aF ?_
      exact ⟨(w64 (t49_2_18 + 1), (bB.mk x_2_18.player x_2_18.points (w64 (x_2_18.musts + x21.Points)) x_2_18.many)), h, aV [0, 1] rfl rfl (aN rfl (aY ⟨rfl, rfl, rfl, rfl, rfl, rfl, rfl, rfl, trivial⟩))⟩
     ·have h := aR c24 h
      refine eG ?_
      refine aE ?_
      refine tr1 rfl (bA (aA rfl) rfl rfl rfl) ?_
      refine tr1 rfl (aD (v := .d (.lit (.int .i64 ((w64 (t49_2_18 + 1)))))) (aA rfl) rfl rfl) ?_
      refine aF ?_
      exact ⟨(w64 (t49_2_18 + 1), x_2_18), h, aV [0, 1] rfl rfl (aN rfl (aY ⟨rfl, rfl, rfl, rfl, rfl, rfl, rfl, rfl, trivial⟩))⟩
    ·have h := aR c20 h
     refine cU ?_
     refine .inl ⟨rfl, ?_⟩
     simp only [nH] at h
     refine aE ?_
     refine tr1 rfl (aD (v := .d (.lit w3)) (aA rfl) rfl rfl) ?_
     refine tr1 rfl (cY (aA rfl) rfl (i := 1) rfl tH (es := (bK x_2_18)) rfl rfl) ?_
     refine tr1 rfl (iE (aA rfl) oS rfl rfl (rows := ([x_2_18]).map bK) rfl (cO (f := bK) fun _ => rfl) rfl (by decide)) ?_
     obtain ⟨x25, h26, h⟩ := bind_some h
     refine bQ rfl (jJ (i := 0) (aA rfl) oS rfl rfl rfl (fun _ => rfl) h26 rfl) ?_
     rintro _ ⟨v27, rfl⟩
     refine tr1 rfl (aJ (v := .d (.lit v27)) (aA rfl) rfl rfl) ?_
     refine eD ?_
     simp only [jW] at h
     refine aE ?_
     refine tr1 rfl (bA (aA rfl) rfl rfl rfl) ?_
     refine tr1 rfl (aD (v := .d (.lit (.int .i64 ((w64 (t19_0_2 + 1)))))) (aA rfl) rfl rfl) ?_
     refine aF ?_
     exact ⟨(w64 (t19_0_2 + 1), x25, v27), h, aV [0] rfl rfl (aN rfl (aN rfl (aY ⟨rfl, rfl, rfl, trivial⟩)))⟩
 ·have h := aR c5 h
  refine cU ?_
  refine .inl ⟨rfl, ?_⟩
  simp only [lK] at h
  refine aG ?_
  refine aE ?_
  refine tr1 rfl (aD (v := .d (.lit w3)) (aA rfl) rfl rfl) ?_
  obtain ⟨r31, h32, h⟩ := bind_some h
  refine bQ rfl (dI (passed := [.arr w3 114 4 (lines_0_2.map bK)]) (aA rfl) rfl (.func _ _ Try.call87) rfl rfl (sQ lines_0_2 (fun y29 y30 => jY y29 y30) 88 [] Try.call88 (fun _ _ _ h => wN _ _ h) h32)) ?_
  rintro _ ⟨_, _, ⟨rfl, rfl⟩, rfl⟩
  refine aF ?_
  refine aG ?_
  refine aE ?_
  refine tr1 rfl (gV 3 1 (.inl rfl) (aA rfl)) ?_
  refine aF ?_
  refine aG ?_
  refine aG ?_
  refine aE ?_
  refine tr1 rfl (aD (v := .d (.lit w3)) (aA rfl) rfl rfl) ?_
  refine tr1 rfl (lO (m := 0) (aA rfl) rfl rfl oS.of) ?_
  refine tr1 rfl (aD (v := .d (.lit (.int .i64 0))) (aA rfl) rfl rfl) ?_
  refine aF ?_
  refine bT ?_
  refine cM [69, 70] (fun (s34 : Int × (List Int) × Value) => [(11, .d (.lit s34.2.2)), (71, .d (.lit (.int .i64 s34.1)))]) (fun (s34 : Int × (List Int) × Value) => [.arr w3 114 4 (r31.map bK), .arr s34.2.2 3 1 (s34.2.1.map bR)]) (fun (k : Nat) (s34 : Int × (List Int) × Value) => iQ (r31.length : Int) r31 k s34.1 s34.2.1) (fun _ => rfl) (0, ([] : List Int), (.slice none 0 0)) h (aV [0, 1] rfl rfl (aN rfl (aN rfl (aY ⟨rfl, rfl, trivial⟩)))) ?_
  rintro k36 ⟨t71_4_34, out_4_34, w35⟩ h
  simp only [iQ] at h
  refine aG ?_
  refine aE ?_
  refine tr1 rfl (bC (aA rfl) rfl rfl rfl) ?_
  refine aF ?_
  refine aG ?_
  refine bJ rfl (fun c37 => ?_) (fun c37 => ?_)
  ·have h := aS c37 h
   refine bH ?_
   refine aG ?_
   refine bT ?_
   refine aG ?_
   refine aE ?_
   obtain ⟨x38, h39, h⟩ := bind_some h
   refine tr1 rfl (cH (m := 0) (aA rfl) rfl rfl rfl oS.of (bP bK h39)) ?_
   refine tr1 rfl (dF (aA rfl) rfl (l := 0) rfl (dX bK h39) tH (es := (bK x38)) rfl rfl) ?_
   refine bQ rfl (gB (zs := [.lit (.int .i64 0), .lit (.int .i64 0), .lit (.int .i64 0), .lit (.int .i64 0)]) (aA rfl) Try.zeroValue114 rfl rfl) ?_
   rintro _ ⟨b40, rfl⟩
   refine tr1 rfl (cB (i := 2) rfl rfl rfl rfl rfl Try.sizeOf114 rfl (aA rfl) (Nat.le_of_ble_eq_true rfl) (ds' := (bK x38)) rfl) ?_
   refine aF ?_
   refine aE ?_
   refine tr1 rfl (aD (v := .d (.lit w35)) (aA rfl) rfl rfl) ?_
   refine tr1 rfl (aQ (aA rfl) rfl wZ) ?_
   refine tr1 rfl (aT (aA rfl) rfl (i := 2) rfl rfl bD) ?_
   refine tr1 rfl (iE (aA rfl) dO rfl rfl (rows := ([x38.player]).map bR) rfl (cO (f := bR) fun _ => rfl) rfl (by decide)) ?_
   obtain ⟨x41, h42, h⟩ := bind_some h
   refine bQ rfl (jJ (i := 1) (aA rfl) dO rfl rfl rfl (fun _ => rfl) h42 rfl) ?_
   rintro _ ⟨v43, rfl⟩
   refine tr1 rfl (aJ (v := .d (.lit v43)) (aA rfl) rfl rfl) ?_
   refine eD ?_
   refine aE ?_
   refine tr1 rfl (bA (aA rfl) rfl rfl rfl) ?_
   refine tr1 rfl (aD (v := .d (.lit (.int .i64 ((w64 (t71_4_34 + 1)))))) (aA rfl) rfl rfl) ?_
   refine aF ?_
   exact ⟨(w64 (t71_4_34 + 1), x41, v43), h, aV [0, 1] rfl rfl (aN rfl (aN rfl (aY ⟨rfl, rfl, trivial⟩)))⟩
  ·have h := aR c37 h
   refine cU ?_
   refine .inl ⟨rfl, ?_⟩
   simp only [pH] at h
   refine aG ?_
   refine aE ?_
   refine tr1 rfl (aD (v := .d (.lit w35)) (aA rfl) rfl rfl) ?_
   refine tr1 rfl (aJ (v := .d (.lit w35)) (aA rfl) rfl rfl) ?_
   refine aF ?_
   have h := Option.some.inj h
   subst h
   refine cR (cG (fJ (k := 4) (v := .d (.sl 1 (out_4_34.map bR))) (.d (eZ 1 rfl (cO (f := bR) fun _ => rfl))) (xT))) ?_
   exact bO ⟨rfl, _, .one _, rfl, rfl⟩

theorem uV (l_0 : aM) (week_1 : Int) {r : (List Int) × Int} (h : nM l_0 week_1 = some r) : Fn Try.prog 27 [.agg (aX l_0), .d (.lit (.int .i64 week_1))] (.tup [.d (.sl 1 (r.1.map bR)), .d (.lit (.int .i64 r.2))]) := by
 unfold nM at h
 refine Fn.of_tr Try.func27 rfl (rs := [.tmp 4, .tmp 5]) Try.results27 Try.ntmps27 (Nat.le_of_ble_eq_true rfl) ?_
 refine aG ?_
 refine aE ?_
 refine bQ rfl (fN (v := .agg (aX l_0)) (aA rfl) rfl rfl rfl) ?_
 rintro _ ⟨b1, rfl⟩
 refine tr1 rfl (sG 1 (aA rfl)) ?_
 refine tr1 rfl (aJ (v := .d (.lit (.int .i64 0))) (aA rfl) rfl rfl) ?_
 refine aF ?_
 refine aG ?_
 refine aE ?_
 refine tr1 rfl (cY (aA rfl) rfl (i := 0) rfl fL (es := (aX l_0)) rfl rfl) ?_
 refine tr1 rfl (aD (v := .d (.lit (.int .i64 week_1))) (aA rfl) rfl rfl) ?_
 obtain ⟨r2, h3, h⟩ := bind_some h
 refine bQ rfl (dI (passed := []) (aA rfl) rfl (.func _ _ Try.call44) rfl rfl (rC _ _ _ h3)) ?_
 rintro _ ⟨_, _, ⟨b5, w6, rfl, rfl⟩, rfl⟩
 obtain ⟨_ | y4, e7⟩ := r2
 ·have h := vH h
  refine fH (aV [0] rfl rfl (le_refl _)) ?_
  refine tr1 rfl (aD (v := .tup [.d (.lit (.pointer none)), .d (.lit (.int .i64 e7))]) (aA rfl) rfl rfl) ?_
  refine tr1 rfl (cN (aA rfl) rfl rfl) ?_
  refine tr1 rfl (cN (aA rfl) rfl rfl) ?_
  refine tr1 rfl (aJ (v := .d (.lit (.pointer none))) (aA rfl) rfl rfl) ?_
  refine tr1 rfl (aJ (v := .d (.lit (.int .i64 e7))) (aA rfl) rfl rfl) ?_
  refine aF ?_
  refine aG ?_
  refine aG ?_
  refine aE ?_
  refine tr1 rfl (aD (v := .d (.lit (.int .i64 e7))) (aA rfl) rfl rfl) ?_
  refine tr1 rfl (bC (aA rfl) rfl rfl rfl) ?_
  refine aF ?_
  refine bJ rfl (fun c8 => ?_) (fun c8 => ?_)
  ·have h := aS c8 h
   refine aG ?_
   refine aE ?_
   refine tr1 rfl (aD (v := .d (.lit (.int .i64 e7))) (aA rfl) rfl rfl) ?_
   refine tr1 rfl (sG 1 (aA rfl)) ?_
   refine tr1 rfl (aJ (v := .d (.lit (.int .i64 e7))) (aA rfl) rfl rfl) ?_
   refine aF ?_
   have h := Option.some.inj h
   subst h
   refine cR (cG (cK (l := [4, 5]) ⟨rfl, rfl, trivial⟩)) ?_
   exact bO ⟨rfl, _, .two _ _, rfl, rfl⟩
  ·have h := aR c8 h
   refine bH ?_
   refine aG ?_
   refine aE ?_
   refine tr1 rfl (aD (v := .d (.lit (.pointer none))) (aA rfl) rfl rfl) ?_
   refine tr1 rfl (aD (v := .d (.lit (.int .i64 week_1))) (aA rfl) rfl rfl) ?_
   cases h
 ·have h := vI h
  refine fH (aV [0, 1, 2] rfl rfl (le_refl _)) ?_
  refine tr1 rfl (aD (v := .tup [.bp b5 0 0, .d (.lit (.int .i64 e7))]) (aA rfl) rfl rfl) ?_
  refine tr1 rfl (cN (aA rfl) rfl rfl) ?_
  refine tr1 rfl (cN (aA rfl) rfl rfl) ?_
  refine tr1 rfl (aJ (v := .bp b5 0 0) (aA rfl) rfl rfl) ?_
  refine tr1 rfl (aJ (v := .d (.lit (.int .i64 e7))) (aA rfl) rfl rfl) ?_
  refine aF ?_
  refine aG ?_
  refine aG ?_
  refine aE ?_
  refine tr1 rfl (aD (v := .d (.lit (.int .i64 e7))) (aA rfl) rfl rfl) ?_
  refine tr1 rfl (bC (aA rfl) rfl rfl rfl) ?_
  refine aF ?_
  refine bJ rfl (fun c9 => ?_) (fun c9 => ?_)
  ·have h := aS c9 h
   refine aG ?_
   refine aE ?_
   refine tr1 rfl (aD (v := .d (.lit (.int .i64 e7))) (aA rfl) rfl rfl) ?_
   refine tr1 rfl (sG 1 (aA rfl)) ?_
   refine tr1 rfl (aJ (v := .d (.lit (.int .i64 e7))) (aA rfl) rfl rfl) ?_
   refine aF ?_
   have h := Option.some.inj h
   subst h
   refine cR (cG (cK (l := [4, 5]) ⟨rfl, rfl, trivial⟩)) ?_
   exact bO ⟨rfl, _, .two _ _, rfl, rfl⟩
  ·have h := aR c9 h
   refine bH ?_
   refine aG ?_
   refine aE ?_
   refine tr1 rfl (aD (v := .bp b5 0 0) (aA rfl) rfl rfl) ?_
   refine tr1 rfl (aD (v := .d (.lit (.int .i64 week_1))) (aA rfl) rfl rfl) ?_
   refine fH (aV [2, 0, 1] rfl rfl (le_refl _)) ?_
   apply xW [.box b1 0 (aX l_0)] [.box b5 0 [.lit (.int .i64 y4.Ledger.Players), .lit (.int .i64 y4.Ledger.Counts), .lit w6, .sl 3 (y4.Ledger.Bans.map aI), .sl 3 (y4.Ledger.Frozen.map aI)], .arr w6 42 5 (y4.Ledger.Reports.map aC)] rfl
   exact fJ (k := 17) (v := .cp [.lit (.int .i64 y4.Ledger.Players), .lit (.int .i64 y4.Ledger.Counts), .sl 5 (y4.Ledger.Reports.map aC), .sl 3 (y4.Ledger.Bans.map aI), .sl 3 (y4.Ledger.Frozen.map aI)]) ((mC 0 rfl rfl (dvc (.same _) (dvc (.same _) (dvc (eZ 1 rfl (cO (f := aC) fun _ => rfl)) (dvc (.same _) (dvc (.same _) dvn))))))) (fJ (k := 12) (v := .cp [.lit (.int .i64 y4.Ledger.Players), .lit (.int .i64 y4.Ledger.Counts), .sl 5 (y4.Ledger.Reports.map aC), .sl 3 (y4.Ledger.Bans.map aI), .sl 3 (y4.Ledger.Frozen.map aI)]) ((mC 0 rfl rfl (dvc (.same _) (dvc (.same _) (dvc (eZ 1 rfl (cO (f := aC) fun _ => rfl)) (dvc (.same _) (dvc (.same _) dvn))))))) (fJ (k := 11) (v := .any) (.any _) (fJ (k := 8) (v := .any) (.any _) (fJ (k := 6) (v := .cp [.lit (.int .i64 y4.Ledger.Players), .lit (.int .i64 y4.Ledger.Counts), .sl 5 (y4.Ledger.Reports.map aC), .sl 3 (y4.Ledger.Bans.map aI), .sl 3 (y4.Ledger.Frozen.map aI)]) ((mC 0 rfl rfl (dvc (.same _) (dvc (.same _) (dvc (eZ 1 rfl (cO (f := aC) fun _ => rfl)) (dvc (.same _) (dvc (.same _) dvn))))))) (qC _ _)))))
   obtain ⟨r10, h11, h⟩ := bind_some h
   refine tr1 rfl (lF (aA rfl) (.func _ _ Try.call59) rfl rfl (tZ _ _ h11)) ?_
   refine tr1 rfl (aJ (v := .d (.sl 1 (r10.map bR))) (aA rfl) rfl rfl) ?_
   refine tr1 rfl (aJ (v := .d (.lit (.int .i64 0))) (aA rfl) rfl rfl) ?_
   refine aF ?_
   have h := Option.some.inj h
   subst h
   refine cR (cG (cK (l := [4, 5]) ⟨rfl, rfl, trivial⟩)) ?_
   exact bO ⟨rfl, _, .two _ _, rfl, rfl⟩

theorem uZ (s_0 : List Int) (f_1 : Int → Option Bool) {r : Int} (f_1_f : Nat) (f_1_v : List AV) (f_1_e : ∀ args w, (callFunc f_1_f args).run Try.prog w = .ok (.enter f_1_f args) w) (f_1_h : ∀ (x0 : Int) r, f_1 x0 = some r → Fn Try.prog f_1_f ([.d (.lit (.int .i64 x0))] ++ f_1_v) (.d (.lit (.bool r)))) (h : nR s_0 f_1 = some r) : Fn Try.prog 81 [.d (.sl 1 (s_0.map bR)), .fn f_1_f f_1_v] (.d (.lit (.int .i64 r))) := by
 unfold nR at h
 refine Fn.of_tr Try.func81 rfl (rs := [.tmp 4]) Try.results81 Try.ntmps81 (Nat.le_of_ble_eq_true rfl) ?_
 refine aG ?_
 refine aE ?_
 refine tr1 rfl (aJ (v := .d (.lit (.int .i64 0))) (aA rfl) rfl rfl) ?_
 refine aF ?_
 refine aG ?_
 refine aG ?_
 refine aE ?_
 refine tr1 rfl (aD (v := .d (.sl 1 (s_0.map bR))) (aA rfl) rfl rfl) ?_
 refine tr1 rfl (dW (aA rfl) rfl dO.of) ?_
 refine tr1 rfl (aD (v := .d (.lit (.int .i64 0))) (aA rfl) rfl rfl) ?_
 refine aF ?_
 refine bT ?_
 refine cM [0, 1, 7] (fun (s1 : Int) => [(8, .d (.lit (.int .i64 s1)))]) (fun (s1 : Int) => []) (fun (k : Nat) (s1 : Int) => kB s_0 f_1 (s_0.length : Int) k s1) (fun _ => rfl) (0) h (aV [] rfl rfl (aN rfl (aY ⟨rfl, rfl, rfl, trivial⟩))) ?_
 rintro k2 t8_0_1 h
 simp only [kB] at h
 refine aG ?_
 refine aE ?_
 refine tr1 rfl (bC (aA rfl) rfl rfl rfl) ?_
 refine aF ?_
 refine aG ?_
 refine bJ rfl (fun c3 => ?_) (fun c3 => ?_)
 ·have h := aS c3 h
  refine bH ?_
  refine aG ?_
  refine bT ?_
  refine aG ?_
  refine aE ?_
  refine tr1 rfl (aD (v := .d (.lit (.int .i64 t8_0_1))) (aA rfl) rfl rfl) ?_
  refine tr1 rfl (aJ (v := .d (.lit (.int .i64 t8_0_1))) (aA rfl) rfl rfl) ?_
  refine aF ?_
  refine aG ?_
  refine aE ?_
  refine tr1 rfl (aD (v := .fn f_1_f f_1_v) (aA rfl) rfl rfl) ?_
  refine tr1 rfl (aD (v := .d (.sl 1 (s_0.map bR))) (aA rfl) rfl rfl) ?_
  refine tr1 rfl (aD (v := .d (.lit (.int .i64 t8_0_1))) (aA rfl) rfl rfl) ?_
  obtain ⟨x4, h5, h⟩ := bind_some h
  refine tr1 rfl (cA (aA rfl) rfl rfl dO.of (bP bR h5)) ?_
  refine tr1 rfl (cL (aA rfl) rfl bD) ?_
  obtain ⟨r6, h7, h⟩ := bind_some h
  refine tr1 rfl (cC (aA rfl) (.clo _ _ _ _ f_1_e rfl) (tR rfl) rfl (BVs.refl _ _) (f_1_h _ _  h7) rfl) ?_
  refine aF ?_
  refine bJ rfl (fun c8 => ?_) (fun c8 => ?_)
  ·have h := aS c8 h
   refine aG ?_
   refine aE ?_
   refine tr1 rfl (aD (v := .d (.lit (.int .i64 t8_0_1))) (aA rfl) rfl rfl) ?_
   refine tr1 rfl (aJ (v := .d (.lit (.int .i64 t8_0_1))) (aA rfl) rfl rfl) ?_
   refine aF ?_
   have h := Option.some.inj h
   subst h
   exact bO ⟨rfl, _, .one _, rfl, rfl⟩
  ·have h := aR c8 h
   refine eG ?_
   refine aE ?_
   refine tr1 rfl (bA (aA rfl) rfl rfl rfl) ?_
   refine tr1 rfl (aD (v := .d (.lit (.int .i64 ((w64 (t8_0_1 + 1)))))) (aA rfl) rfl rfl) ?_
   refine aF ?_
   exact ⟨(w64 (t8_0_1 + 1)), h, aV [] rfl rfl (aN rfl (aY ⟨rfl, rfl, rfl, trivial⟩))⟩
 ·have h := aR c3 h
  refine cU ?_
  refine .inl ⟨rfl, ?_⟩
  simp only [pC] at h
  refine aG ?_
  refine aE ?_
  refine tr1 rfl (aJ (v := .d (.lit (.int .i64 (-1)))) (aA rfl) rfl rfl) ?_
  refine aF ?_
  have h := Option.some.inj h
  subst h
  exact bO ⟨rfl, _, .one _, rfl, rfl⟩

theorem oK (s_0 : List Int) (f_1 : Int → Option Bool) {r : Bool} (f_1_f : Nat) (f_1_v : List AV) (f_1_e : ∀ args w, (callFunc f_1_f args).run Try.prog w = .ok (.enter f_1_f args) w) (f_1_h : ∀ (x0 : Int) r, f_1 x0 = some r → Fn Try.prog f_1_f ([.d (.lit (.int .i64 x0))] ++ f_1_v) (.d (.lit (.bool r)))) (h : kA s_0 f_1 = some r) : Fn Try.prog 45 [.d (.sl 1 (s_0.map bR)), .fn f_1_f f_1_v] (.d (.lit (.bool r))) := by
 unfold kA at h
 refine Fn.of_tr Try.func45 rfl (rs := [.tmp 4]) Try.results45 Try.ntmps45 (Nat.le_of_ble_eq_true rfl) ?_
 refine aG ?_
 refine aE ?_
 refine tr1 rfl (aJ (v := .d (.lit (.bool false))) (aA rfl) rfl rfl) ?_
 refine aF ?_
 refine aG ?_
 refine aE ?_
 refine tr1 rfl (aD (v := .d (.sl 1 (s_0.map bR))) (aA rfl) rfl rfl) ?_
 refine tr1 rfl (aD (v := .fn f_1_f f_1_v) (aA rfl) rfl rfl) ?_
 obtain ⟨r1, h2, h⟩ := bind_some h
 refine tr1 rfl (cC (aA rfl) (.func _ _ Try.call81) rfl rfl (BVs.refl _ _) (uZ _ _ f_1_f f_1_v f_1_e f_1_h h2) rfl) ?_
 refine tr1 rfl (bC (aA rfl) rfl rfl rfl) ?_
 refine tr1 rfl (aJ (v := .d (.lit (.bool ((decide (0 ≤ r1)))))) (aA rfl) rfl rfl) ?_
 refine aF ?_
 have h := Option.some.inj h
 subst h
 exact bO ⟨rfl, _, .one _, rfl, rfl⟩

theorem vK (n_0 : Int) {r : Bool} (h : rA n_0 = some r) : Fn Try.prog 46 [.d (.lit (.int .i64 n_0))] (.d (.lit (.bool r))) := by
 unfold rA at h
 refine Fn.of_tr Try.func46 rfl (rs := [.tmp 2]) Try.results46 Try.ntmps46 (Nat.le_of_ble_eq_true rfl) ?_
 refine aG ?_
 refine aE ?_
 refine tr1 rfl (aJ (v := .d (.lit (.bool false))) (aA rfl) rfl rfl) ?_
 refine aF ?_
 refine aG ?_
 refine aE ?_
 refine tr1 rfl (aD (v := .d (.lit (.int .i64 n_0))) (aA rfl) rfl rfl) ?_
 obtain ⟨r1, h2, h⟩ := bind_some h
 refine tr1 rfl (cC (aA rfl) (.func _ _ Try.call47) rfl rfl (BVs.refl _ _) (eS _ _ _ h2) rfl) ?_
 refine tr1 rfl (fC (aA rfl) rfl) ?_
 refine tr1 rfl (aJ (v := .d (.lit (.bool (!r1)))) (aA rfl) rfl rfl) ?_
 refine aF ?_
 have h := Option.some.inj h
 subst h
 exact bO ⟨rfl, _, .one _, rfl, rfl⟩

theorem xP (s_0 : List Int) (v_1 : Int) {r : Int} (h : qL s_0 v_1 = some r) : Fn Try.prog 85 [.d (.sl 1 (s_0.map bR)), .d (.lit (.int .i64 v_1))] (.d (.lit (.int .i64 r))) := by
 unfold qL at h
 refine Fn.of_tr Try.func85 rfl (rs := [.tmp 4]) Try.results85 Try.ntmps85 (Nat.le_of_ble_eq_true rfl) ?_
 refine aG ?_
 refine aE ?_
 refine tr1 rfl (aJ (v := .d (.lit (.int .i64 0))) (aA rfl) rfl rfl) ?_
 refine aF ?_
 refine aG ?_
 refine aG ?_
 refine aE ?_
 refine tr1 rfl (aD (v := .d (.sl 1 (s_0.map bR))) (aA rfl) rfl rfl) ?_
 refine tr1 rfl (dW (aA rfl) rfl dO.of) ?_
 refine tr1 rfl (aD (v := .d (.lit (.int .i64 0))) (aA rfl) rfl rfl) ?_
 refine aF ?_
 refine bT ?_
 refine cM [0, 1, 7] (fun (s1 : Int) => [(8, .d (.lit (.int .i64 s1)))]) (fun (s1 : Int) => []) (fun (k : Nat) (s1 : Int) => mE s_0 v_1 (s_0.length : Int) k s1) (fun _ => rfl) (0) h (aV [] rfl rfl (aN rfl (aY ⟨rfl, rfl, rfl, trivial⟩))) ?_
 rintro k2 t8_0_1 h
 simp only [mE] at h
 refine aG ?_
 refine aE ?_
 refine tr1 rfl (bC (aA rfl) rfl rfl rfl) ?_
 refine aF ?_
 refine aG ?_
 refine bJ rfl (fun c3 => ?_) (fun c3 => ?_)
 ·have h := aS c3 h
  refine bH ?_
  refine aG ?_
  refine bT ?_
  refine aG ?_
  refine aE ?_
  refine tr1 rfl (aD (v := .d (.lit (.int .i64 t8_0_1))) (aA rfl) rfl rfl) ?_
  refine tr1 rfl (aJ (v := .d (.lit (.int .i64 t8_0_1))) (aA rfl) rfl rfl) ?_
  refine aF ?_
  refine aG ?_
  refine aE ?_
  refine tr1 rfl (aD (v := .d (.lit (.int .i64 v_1))) (aA rfl) rfl rfl) ?_
  refine tr1 rfl (aD (v := .d (.sl 1 (s_0.map bR))) (aA rfl) rfl rfl) ?_
  refine tr1 rfl (aD (v := .d (.lit (.int .i64 t8_0_1))) (aA rfl) rfl rfl) ?_
  obtain ⟨x4, h5, h⟩ := bind_some h
  refine tr1 rfl (cA (aA rfl) rfl rfl dO.of (bP bR h5)) ?_
  refine tr1 rfl (cL (aA rfl) rfl bD) ?_
  refine tr1 rfl (bC (aA rfl) rfl rfl rfl) ?_
  refine aF ?_
  refine bJ rfl (fun c6 => ?_) (fun c6 => ?_)
  ·have h := aS c6 h
   refine aG ?_
   refine aE ?_
   refine tr1 rfl (aD (v := .d (.lit (.int .i64 t8_0_1))) (aA rfl) rfl rfl) ?_
   refine tr1 rfl (aJ (v := .d (.lit (.int .i64 t8_0_1))) (aA rfl) rfl rfl) ?_
   refine aF ?_
   have h := Option.some.inj h
   subst h
   exact bO ⟨rfl, _, .one _, rfl, rfl⟩
  ·have h := aR c6 h
   refine eG ?_
   refine aE ?_
   refine tr1 rfl (bA (aA rfl) rfl rfl rfl) ?_
   refine tr1 rfl (aD (v := .d (.lit (.int .i64 ((w64 (t8_0_1 + 1)))))) (aA rfl) rfl rfl) ?_
   refine aF ?_
   exact ⟨(w64 (t8_0_1 + 1)), h, aV [] rfl rfl (aN rfl (aY ⟨rfl, rfl, rfl, trivial⟩))⟩
 ·have h := aR c3 h
  refine cU ?_
  refine .inl ⟨rfl, ?_⟩
  simp only [rQ] at h
  refine aG ?_
  refine aE ?_
  refine tr1 rfl (aJ (v := .d (.lit (.int .i64 (-1)))) (aA rfl) rfl rfl) ?_
  refine aF ?_
  have h := Option.some.inj h
  subst h
  exact bO ⟨rfl, _, .one _, rfl, rfl⟩

theorem xY (b_0 : bW) (player_1 : Int) (week_2 : Int) {r : Int} (h : rE b_0 player_1 week_2 = some r) : Fn Try.prog 51 [.cp (cE b_0), .d (.lit (.int .i64 player_1)), .d (.lit (.int .i64 week_2))] (.d (.lit (.int .i64 r))) := by
 unfold rE at h
 refine Fn.of_tr Try.func51 rfl (rs := [.tmp 6]) Try.results51 Try.ntmps51 (Nat.le_of_ble_eq_true rfl) ?_
 refine aG ?_
 refine aE ?_
 refine tr1 rfl (aJ (v := .d (.lit (.int .i64 0))) (aA rfl) rfl rfl) ?_
 refine aF ?_
 refine aG ?_
 refine aE ?_
 refine tr1 rfl (aD (v := .cp [.lit (.int .i64 b_0.Ledger.Players), .lit (.int .i64 b_0.Ledger.Counts), .sl 5 (b_0.Ledger.Reports.map aC), .sl 3 (b_0.Ledger.Bans.map aI), .sl 3 (b_0.Ledger.Frozen.map aI)]) (aA rfl) rfl rfl) ?_
 refine tr1 rfl (aD (v := .d (.lit (.int .i64 week_2))) (aA rfl) rfl rfl) ?_
 obtain ⟨r1, h2, h⟩ := bind_some h
 refine tr1 rfl (lF (aA rfl) (.func _ _ Try.call59) rfl rfl (tZ _ _ h2)) ?_
 refine tr1 rfl (aD (v := .d (.lit (.int .i64 player_1))) (aA rfl) rfl rfl) ?_
 obtain ⟨r3, h4, h⟩ := bind_some h
 refine tr1 rfl (cC (aA rfl) (.func _ _ Try.call85) rfl rfl (BVs.refl _ _) (xP _ _ h4) rfl) ?_
 refine tr1 rfl (bA (aA rfl) rfl rfl rfl) ?_
 refine tr1 rfl (aJ (v := .d (.lit (.int .i64 ((w64 (r3 + 1)))))) (aA rfl) rfl rfl) ?_
 refine aF ?_
 have h := Option.some.inj h
 subst h
 exact bO ⟨rfl, _, .one _, rfl, rfl⟩

theorem aAj (book : bW) (pl : Int) (wk : Int) (ms : Bool) (be : Int) (wo : Int) {r : Bool × Int × Int} {book_b book_o : Nat} {bb_b bb_o : Nat} {pl_b pl_o : Nat} {wk_b wk_o : Nat} {ms_b ms_o : Nat} {be_b be_o : Nat} {wo_b wo_o : Nat} (h : tX book pl wk ms be wo = some r) : fI Try.prog 50 [.bp bb_b bb_o 0, .bp pl_b pl_o 0, .bp wk_b wk_o 0, .bp ms_b ms_o 0, .bp be_b be_o 0, .bp wo_b wo_o 0] [.box book_b book_o (cE book), .box bb_b bb_o [gJ book_b book_o 0], .box pl_b pl_o [.lit (.int .i64 pl)], .box wk_b wk_o [.lit (.int .i64 wk)], .box ms_b ms_o [.lit (.bool ms)], .box be_b be_o [.lit (.int .i64 be)], .box wo_b wo_o [.lit (.int .i64 wo)]] (fun r' o' => r' = .tup [] ∧ o' = [.box book_b book_o (cE book), .box bb_b bb_o [gJ book_b book_o 0], .box pl_b pl_o [.lit (.int .i64 pl)], .box wk_b wk_o [.lit (.int .i64 wk)], .box ms_b ms_o [.lit (.bool r.1)], .box be_b be_o [.lit (.int .i64 r.2.1)], .box wo_b wo_o [.lit (.int .i64 r.2.2)]]) := by
 unfold tX at h
 refine iZ Try.func50 rfl (rs := []) Try.results50 Try.ntmps50 (Nat.le_of_ble_eq_true rfl) ?_
 refine aG ?_
 refine aE ?_
 refine tr1 rfl (sO (i := 1) (aA rfl) rfl rfl rfl vG) ?_
 refine tr1 rfl (aT (aA rfl) rfl (i := 2) rfl rfl bD) ?_
 refine tr1 rfl (aT (aA rfl) rfl (i := 3) rfl rfl bD) ?_
 obtain ⟨r1, h2, h⟩ := bind_some h
 refine tr1 rfl (cC (aA rfl) (.func _ _ Try.call51) rfl rfl (.cons ((mC 0 rfl rfl (dvc (.same _) (dvc (.same _) (dvc (.same _) (dvc (.same _) (dvc (.same _) dvn))))))) (.cons (.same _) (.cons (.same _) .nil))) (xY _ _ _ h2) rfl) ?_
 refine tr1 rfl (aJ (v := .d (.lit (.int .i64 r1))) (aA rfl) rfl rfl) ?_
 refine aF ?_
 refine aG ?_
 refine aE ?_
 refine tr1 rfl (aT (aA rfl) rfl (i := 4) rfl rfl tE) ?_
 refine tr1 rfl (aD (v := .d (.lit (.bool ms))) (aA rfl) rfl rfl) ?_
 obtain ⟨b3, h4, h⟩ := bind_some h
 refine bX 3 [3, 4, 5, 6] 15 b3 ?_ ?_
 ·refine bG (ms) (fun c6 => ?_) (fun c6 => ?_)
  ·have h4 := aS c6 h4
   refine aP rfl rfl (aA rfl) rfl (aA rfl) rfl c6 ?_
   refine aP rfl rfl (aA rfl) rfl (aA rfl) rfl c6 ?_
   refine tr1 rfl (bN (v := .d (.lit (.bool true))) (aA rfl) rfl c6 rfl rfl) ?_
   have h4 := Option.some.inj h4
   subst h4
   refine aF (aZ rfl ⟨rfl, rfl, rfl, rfl, trivial⟩ rfl)
  ·have h4 := aR c6 h4
   refine aL rfl rfl (aA rfl) rfl c6 (aD (v := .d (.lit (.int .i64 r1))) (aA rfl) rfl rfl) ?_
   refine aL rfl rfl (aA rfl) rfl c6 (bC (aA rfl) rfl rfl rfl) ?_
   refine tr1 rfl (bM (v := .d (.lit (.bool ((decide (r1 = 0)))))) (aA rfl) rfl c6 rfl rfl) ?_
   have h4 := Option.some.inj h4
   subst h4
   refine aF (aZ rfl ⟨rfl, rfl, rfl, rfl, trivial⟩ rfl)
 ·refine tr1 rfl (cB (i := 4) rfl rfl rfl rfl rfl Try.sizeOf4 rfl (aA rfl) (Nat.le_of_ble_eq_true rfl) (ds' := [.lit (.bool b3)]) rfl) ?_
  refine aF ?_
  refine mT mix 7 [5] (fun X5 => [(21, .d (.lit (.int .i64 ((max wo r1)))))]) (fun X5 => [.box book_b book_o (cE book), .box bb_b bb_o [gJ book_b book_o 0], .box pl_b pl_o [.lit (.int .i64 pl)], .box wk_b wk_o [.lit (.int .i64 wk)], .box ms_b ms_o [.lit (.bool b3)], .box be_b be_o [.lit (.int .i64 ((min be r1)))], .box wo_b wo_o [.lit (.int .i64 wo)]]) ?_ ?_
  ·refine ⟨0, fun X5 => [(16, 0, .d (.lit (.int .i64 be))), (17, 1, .d (.lit (.int .i64 r1))), (18, 2, .d (.lit (.int .i64 ((min be r1))))), (19, 3, .d (.lit (.int .i64 wo))), (20, 4, .d (.lit (.int .i64 r1))), (21, 5, .d (.lit (.int .i64 ((max wo r1)))))], fun X5 => [([], .box book_b book_o (cE book)), ([], .box bb_b bb_o [gJ book_b book_o 0]), ([], .box pl_b pl_o [.lit (.int .i64 pl)]), ([], .box wk_b wk_o [.lit (.int .i64 wk)]), ([], .box ms_b ms_o [.lit (.bool b3)]), ([(6, .box be_b be_o [.lit (.int .i64 ((min be r1)))])], .box be_b be_o [.lit (.int .i64 be)]), ([], .box wo_b wo_o [.lit (.int .i64 wo)])], ?_, ?_⟩
   · exact ⟨by kernel_rfl, by kernel_rfl, by kernel_rfl, fun _ => by kernel_rfl, fun _ => by kernel_rfl, fun _ => by kernel_rfl, fun _ => rfl, [([], [6]), ([], [6]), ([0, 1], [6]), ([], []), ([], []), ([3, 4], []), ([2], [])], by kernel_rfl, ⟨fun X5 S hw hi hS => bL (X := X5) rfl (hw X5) rfl (aO rfl (aT (aA rfl) (aH hS rfl) (i := 5) (og hS rfl rfl) rfl bD)),
      fun X5 S hw hi hS => bL (X := X5) rfl (hw X5) rfl (aO rfl (aD (v := .d (.lit (.int .i64 r1))) (aA rfl) (aH hS rfl) rfl)),
      fun X5 S hw hi hS => bL (X := X5) rfl (hw X5) rfl (aO rfl (aEs (aA rfl) (aH hS rfl) (aH hS rfl))),
      fun X5 S hw hi hS => bL (X := X5) rfl (hw X5) rfl (aO rfl (aT (aA rfl) (aH hS rfl) (i := 6) (og hS rfl rfl) rfl bD)),
      fun X5 S hw hi hS => bL (X := X5) rfl (hw X5) rfl (aO rfl (aD (v := .d (.lit (.int .i64 r1))) (aA rfl) (aH hS rfl) rfl)),
      fun X5 S hw hi hS => bL (X := X5) rfl (hw X5) rfl (aO rfl (aBn (aA rfl) (aH hS rfl) (aH hS rfl))),
      fun X5 S hw hi hS => qP (X := X5) hS rfl rfl rfl (p := 5) rfl rfl (aO rfl (cB (i := 5) (aH hS rfl) (og hS rfl rfl) (aH hS rfl) rfl rfl Try.sizeOf3 rfl (aA rfl) (Nat.le_of_ble_eq_true rfl) (ds' := [.lit (.int .i64 ((min be r1)))]) rfl)), trivial⟩⟩
   · exact fun X5 => eC (aN rfl (aY ⟨rfl, trivial⟩))
  ·intro X5
   refine tr1 rfl (cB (i := 6) rfl rfl rfl rfl rfl Try.sizeOf3 rfl (aA rfl) (Nat.le_of_ble_eq_true rfl) (ds' := [.lit (.int .i64 ((max wo r1)))]) rfl) ?_
   refine aF ?_
   have h := Option.some.inj h
   subst h
   exact ⟨_, [.box book_b book_o (cE book), .box bb_b bb_o [gJ book_b book_o 0], .box pl_b pl_o [.lit (.int .i64 pl)], .box wk_b wk_o [.lit (.int .i64 wk)], .box ms_b ms_o [.lit (.bool b3)], .box be_b be_o [.lit (.int .i64 ((min be r1)))], .box wo_b wo_o [.lit (.int .i64 ((max wo r1)))]], [], _, .none, .refl _, .same _, rfl, rfl⟩

theorem xO (n_1 : Int) {r : (List Int)} (h : rK n_1 = some r) : fI Try.prog 102 [.d (.lit (.slice none 0 0)), .d (.lit (.int .i64 n_1))] [] (fun r' o' => ∃ (w0 : Value), r' = .d (.lit w0) ∧ o' = [.arr w0 3 1 (r.map bR)]) := by
 unfold rK at h
 refine lM Try.func102 rfl (rs := [.tmp 4]) Try.results102 Try.ntmps102 (Nat.le_of_ble_eq_true rfl) ?_
 refine cR (aEg 3 1) ?_
 refine aG ?_
 refine aE ?_
 refine tr1 rfl (gV 3 1 (.inl rfl) (aA rfl)) ?_
 refine aF ?_
 refine aG ?_
 refine aG ?_
 refine aE ?_
 refine tr1 rfl (aD (v := .d (.lit (.int .i64 n_1))) (aA rfl) rfl rfl) ?_
 refine tr1 rfl (bC (aA rfl) rfl rfl rfl) ?_
 refine aF ?_
 refine bJ rfl (fun c2 => ?_) (fun c2 => ?_)
 ·have h := aS c2 h
  cases h
 ·have h := aR c2 h
  refine bH ?_
  refine aG ?_
  refine aG ?_
  refine aE ?_
  refine tr1 rfl (aD (v := .d (.lit (.int .i64 n_1))) (aA rfl) rfl rfl) ?_
  refine tr1 rfl (aD (v := .d (.lit (.slice none 0 0))) (aA rfl) rfl rfl) ?_
  refine tr1 rfl (aBc (aA rfl) rfl dO.of) ?_
  refine tr1 rfl (aD (v := .d (.lit (.slice none 0 0))) (aA rfl) rfl rfl) ?_
  refine tr1 rfl (aBd (aA rfl) rfl dO.of) ?_
  refine tr1 rfl (bA (aA rfl) rfl rfl rfl) ?_
  refine tr1 rfl (bA (aA rfl) rfl rfl rfl) ?_
  refine tr1 rfl (aJ (v := .d (.lit (.int .i64 ((w64 (n_1 - (w64 (0 - 0)))))))) (aA rfl) rfl rfl) ?_
  refine aF ?_
  refine aG ?_
  refine aE ?_
  refine tr1 rfl (aD (v := .d (.lit (.int .i64 ((w64 (n_1 - (w64 (0 - 0)))))))) (aA rfl) rfl rfl) ?_
  refine tr1 rfl (bC (aA rfl) rfl rfl rfl) ?_
  refine aF ?_
  refine bJ rfl (fun c3 => ?_) (fun c3 => ?_)
  ·have h := aS c3 h
   refine aE ?_
   refine tr1 rfl (aD (v := .d (.lit (.slice none 0 0))) (aA rfl) rfl rfl) ?_
   refine tr1 rfl (aD (v := .d (.lit (.slice none 0 0))) (aA rfl) rfl rfl) ?_
   refine tr1 rfl (aBc (aA rfl) rfl dO.of) ?_
   obtain ⟨u4, h5, h⟩ := bind_some h
   refine tr1 rfl (rG (m := 0) (q := 0) (v := (.slice none 0 0)) (aA rfl) rfl rfl rfl rfl (zG h5) dO.of) ?_
   refine tr1 rfl (aD (v := .d (.lit (.int .i64 ((w64 (n_1 - (w64 (0 - 0)))))))) (aA rfl) rfl rfl) ?_
   obtain ⟨u6, h7, h⟩ := bind_some h
   refine bQ rfl (aGh (i := 0) (aA rfl) dO rfl rfl rfl Try.underlying3 (aBt h7).1 (aBt h7).2 (by decide)) ?_
   rintro _ ⟨v8, rfl⟩
   refine tr1 rfl (aD (v := .d (.lit (.slice none 0 0))) (aA rfl) rfl rfl) ?_
   refine tr1 rfl (aBd (aA rfl) rfl dO.of) ?_
   obtain ⟨u9, h10, h⟩ := bind_some h
   refine tr1 rfl (rG (m := 0) (q := 0) (v := v8) (aA rfl) rfl rfl rfl rfl (zG h10) dO.of) ?_
   refine tr1 rfl (aJ (v := .d (.lit (gC v8 0))) (aA rfl) rfl rfl) ?_
   refine aF ?_
   refine aG ?_
   refine aE ?_
   refine tr1 rfl (aD (v := .d (.lit (gC v8 0))) (aA rfl) rfl rfl) ?_
   refine tr1 rfl (aJ (v := .d (.lit (gC v8 0))) (aA rfl) rfl rfl) ?_
   refine aF ?_
   have h := Option.some.inj h
   subst h
   exact bO ⟨rfl, _, [.arr (gC v8 0) 3 1 (([] : List Int).map bR)], [.arr (.slice none 0 0) 3 1 (([] : List Int).map bR)], _, .one (.tmp 4 (v := .d (.lit (gC v8 0))) rfl), .refl _, .same _, (gC v8 0), rfl, rfl⟩
  ·have h := aR c3 h
   refine bH ?_
   refine aG ?_
   refine aE ?_
   refine tr1 rfl (aD (v := .d (.lit (.slice none 0 0))) (aA rfl) rfl rfl) ?_
   refine tr1 rfl (aJ (v := .d (.lit (.slice none 0 0))) (aA rfl) rfl rfl) ?_
   refine aF ?_
   have h := Option.some.inj h
   subst h
   exact bO ⟨rfl, _, [.arr (.slice none 0 0) 3 1 (([] : List Int).map bR)], [.arr (.slice none 0 0) 3 1 (([] : List Int).map bR)], _, .one (.tmp 4 (v := .d (.lit (.slice none 0 0))) rfl), .refl _, .same _, (.slice none 0 0), rfl, rfl⟩

theorem wO (slices_0 : List (List Int)) {r : (List Int)} (h : pJ slices_0 = some r) : Fn Try.prog 84 [.d (.sl 1 (slices_0.map qO))] (.d (.sl 1 (r.map bR))) := by
 unfold pJ at h
 refine Fn.of_tr Try.func84 rfl (rs := [.tmp 2]) Try.results84 Try.ntmps84 (Nat.le_of_ble_eq_true rfl) ?_
 refine aG ?_
 refine aE ?_
 refine tr1 rfl (sG 1 (aA rfl)) ?_
 refine aF ?_
 refine aG ?_
 refine aE ?_
 refine tr1 rfl (aJ (v := .d (.lit (.int .i64 0))) (aA rfl) rfl rfl) ?_
 refine aF ?_
 refine aG ?_
 refine aG ?_
 refine aE ?_
 refine tr1 rfl (aD (v := .d (.sl 1 (slices_0.map qO))) (aA rfl) rfl rfl) ?_
 refine tr1 rfl (dW (aA rfl) rfl xN.of) ?_
 refine tr1 rfl (aD (v := .d (.lit (.int .i64 0))) (aA rfl) rfl rfl) ?_
 refine aF ?_
 refine bT ?_
 refine cM [0, 9, 10] (fun (s1 : Int × Int) => [(3, .d (.lit (.int .i64 s1.1))), (11, .d (.lit (.int .i64 s1.2)))]) (fun (s1 : Int × Int) => []) (fun (k : Nat) (s1 : Int × Int) => lP slices_0 slices_0 (slices_0.length : Int) k s1.1 s1.2) (fun _ => rfl) (0, 0) h (aV [] rfl rfl (aN rfl (aN rfl (aY ⟨rfl, rfl, rfl, trivial⟩)))) ?_
 rintro k2 ⟨size_0_1, t11_0_1⟩ h
 simp only [lP] at h
 refine aG ?_
 refine aE ?_
 refine tr1 rfl (bC (aA rfl) rfl rfl rfl) ?_
 refine aF ?_
 refine aG ?_
 refine bJ rfl (fun c3 => ?_) (fun c3 => ?_)
 ·have h := aS c3 h
  refine bH ?_
  refine aG ?_
  refine bT ?_
  refine aG ?_
  refine aE ?_
  obtain ⟨x4, h5, h⟩ := bind_some h
  refine tr1 rfl (cA (aA rfl) rfl rfl xN.of (bP qO h5)) ?_
  refine tr1 rfl (cL (aA rfl) rfl aFj) ?_
  refine tr1 rfl (aJ (v := .d (.sl 1 (x4.map bR))) (aA rfl) rfl rfl) ?_
  refine aF ?_
  refine aG ?_
  refine aE ?_
  refine tr1 rfl (aD (v := .d (.lit (.int .i64 size_0_1))) (aA rfl) rfl rfl) ?_
  refine tr1 rfl (aD (v := .d (.sl 1 (x4.map bR))) (aA rfl) rfl rfl) ?_
  refine tr1 rfl (dW (aA rfl) rfl dO.of) ?_
  refine tr1 rfl (bA (aA rfl) rfl rfl rfl) ?_
  refine tr1 rfl (aJ (v := .d (.lit (.int .i64 ((w64 (size_0_1 + (x4.length : Int))))))) (aA rfl) rfl rfl) ?_
  refine aF ?_
  refine aG ?_
  refine aE ?_
  refine tr1 rfl (aD (v := .d (.lit (.int .i64 ((w64 (size_0_1 + (x4.length : Int))))))) (aA rfl) rfl rfl) ?_
  refine tr1 rfl (bC (aA rfl) rfl rfl rfl) ?_
  refine aF ?_
  refine bJ rfl (fun c6 => ?_) (fun c6 => ?_)
  ·have h := aS c6 h
   cases h
  ·have h := aR c6 h
   refine eG ?_
   refine aE ?_
   refine tr1 rfl (bA (aA rfl) rfl rfl rfl) ?_
   refine tr1 rfl (aD (v := .d (.lit (.int .i64 ((w64 (t11_0_1 + 1)))))) (aA rfl) rfl rfl) ?_
   refine aF ?_
   exact ⟨(w64 (size_0_1 + (x4.length : Int)), w64 (t11_0_1 + 1)), h, aV [] rfl rfl (aN rfl (aN rfl (aY ⟨rfl, rfl, rfl, trivial⟩)))⟩
 ·have h := aR c3 h
  refine cU ?_
  refine .inl ⟨rfl, ?_⟩
  simp only [rH] at h
  refine aG ?_
  refine aE ?_
  refine tr1 rfl (aD (v := .d (.lit (.int .i64 size_0_1))) (aA rfl) rfl rfl) ?_
  obtain ⟨r7, h8, h⟩ := bind_some h
  refine bQ rfl (wA (aA rfl) (.func _ _ Try.call102) rfl rfl (xO _ h8)) ?_
  rintro _ ⟨v9, rfl⟩
  refine tr1 rfl (aJ (v := .d (.lit v9)) (aA rfl) rfl rfl) ?_
  refine aF ?_
  refine aG ?_
  refine aG ?_
  refine aE ?_
  refine tr1 rfl (aD (v := .d (.sl 1 (slices_0.map qO))) (aA rfl) rfl rfl) ?_
  refine tr1 rfl (dW (aA rfl) rfl xN.of) ?_
  refine tr1 rfl (aD (v := .d (.lit (.int .i64 0))) (aA rfl) rfl rfl) ?_
  refine aF ?_
  refine bT ?_
  refine cM [25, 26] (fun (s10 : Int × (List Int) × Value) => [(6, .d (.lit s10.2.2)), (27, .d (.lit (.int .i64 s10.1)))]) (fun (s10 : Int × (List Int) × Value) => [.arr s10.2.2 3 1 (s10.2.1.map bR)]) (fun (k : Nat) (s10 : Int × (List Int) × Value) => lQ slices_0 (slices_0.length : Int) k s10.1 s10.2.1) (fun _ => rfl) (0, r7, v9) h (aV [0] rfl rfl (aN rfl (aN rfl (aY ⟨rfl, rfl, trivial⟩)))) ?_
  rintro k12 ⟨t27_2_10, o24_2_10, w11⟩ h
  simp only [lQ] at h
  refine aG ?_
  refine aE ?_
  refine tr1 rfl (bC (aA rfl) rfl rfl rfl) ?_
  refine aF ?_
  refine aG ?_
  refine bJ rfl (fun c13 => ?_) (fun c13 => ?_)
  ·have h := aS c13 h
   refine bH ?_
   refine aG ?_
   refine bT ?_
   refine aG ?_
   refine aE ?_
   obtain ⟨x14, h15, h⟩ := bind_some h
   refine tr1 rfl (cA (aA rfl) rfl rfl xN.of (bP qO h15)) ?_
   refine tr1 rfl (cL (aA rfl) rfl aFj) ?_
   refine tr1 rfl (aJ (v := .d (.sl 1 (x14.map bR))) (aA rfl) rfl rfl) ?_
   refine aF ?_
   refine aE ?_
   refine tr1 rfl (aD (v := .d (.lit w11)) (aA rfl) rfl rfl) ?_
   refine tr1 rfl (aD (v := .d (.sl 1 (x14.map bR))) (aA rfl) rfl rfl) ?_
   obtain ⟨x16, h17, h⟩ := bind_some h
   refine bQ rfl (jJ (i := 0) (aA rfl) dO rfl rfl rfl (fun _ => rfl) h17 rfl) ?_
   rintro _ ⟨v18, rfl⟩
   refine tr1 rfl (aJ (v := .d (.lit v18)) (aA rfl) rfl rfl) ?_
   refine eD ?_
   refine aE ?_
   refine tr1 rfl (bA (aA rfl) rfl rfl rfl) ?_
   refine tr1 rfl (aD (v := .d (.lit (.int .i64 ((w64 (t27_2_10 + 1)))))) (aA rfl) rfl rfl) ?_
   refine aF ?_
   exact ⟨(w64 (t27_2_10 + 1), x16, v18), h, aV [0] rfl rfl (aN rfl (aN rfl (aY ⟨rfl, rfl, trivial⟩)))⟩
  ·have h := aR c13 h
   refine cU ?_
   refine .inl ⟨rfl, ?_⟩
   simp only [rI] at h
   refine aG ?_
   refine aE ?_
   refine tr1 rfl (aD (v := .d (.lit w11)) (aA rfl) rfl rfl) ?_
   refine tr1 rfl (aJ (v := .d (.lit w11)) (aA rfl) rfl rfl) ?_
   refine aF ?_
   have h := Option.some.inj h
   subst h
   refine cR (cG (fJ (k := 2) (v := .d (.sl 1 (o24_2_10.map bR))) (.d (eZ 0 rfl (cO (f := bR) fun _ => rfl))) (xT))) ?_
   exact bO ⟨rfl, _, .one _, rfl, rfl⟩

theorem vX (kr : Nat) : ∀ (book : bW) (pl : Int) (wk : Int) (ms : Bool) (be : Int) (wo : Int) (week_1 : Int) (prizes_2 : List Int) (free_3 : List Int) {r : bW × Bool × Int × Int} {book_b book_o : Nat} {bb_b bb_o : Nat} {pl_b pl_o : Nat} {wk_b wk_o : Nat} {ms_b ms_o : Nat} {be_b be_o : Nat} {wo_b wo_o : Nat} (_h : kF kr book pl wk ms be wo week_1 prizes_2 free_3 = some r), fI Try.prog 49 [.bp book_b book_o 0, .d (.lit (.int .i64 week_1)), .d (.sl 1 (prizes_2.map bR)), .d (.sl 1 (free_3.map bR)), .fn 50 [.bp bb_b bb_o 0, .bp pl_b pl_o 0, .bp wk_b wk_o 0, .bp ms_b ms_o 0, .bp be_b be_o 0, .bp wo_b wo_o 0]] [.box book_b book_o (cE book), .box bb_b bb_o [gJ book_b book_o 0], .box pl_b pl_o [.lit (.int .i64 pl)], .box wk_b wk_o [.lit (.int .i64 wk)], .box ms_b ms_o [.lit (.bool ms)], .box be_b be_o [.lit (.int .i64 be)], .box wo_b wo_o [.lit (.int .i64 wo)]] (fun r' o' => r' = .tup [] ∧ o' = [.box book_b book_o (cE r.1), .box bb_b bb_o [gJ book_b book_o 0], .box pl_b pl_o [.lit (.int .i64 pl)], .box wk_b wk_o [.lit (.int .i64 wk)], .box ms_b ms_o [.lit (.bool r.2.1)], .box be_b be_o [.lit (.int .i64 r.2.2.1)], .box wo_b wo_o [.lit (.int .i64 r.2.2.2)]]) := by
  induction kr with
  | zero => intros; rename_i h; cases h
  | succ kr ih =>
    intro book pl wk ms be wo week_1 prizes_2 free_3 r book_b book_o bb_b bb_o pl_b pl_o wk_b wk_o ms_b ms_o be_b be_o wo_b wo_o h
    simp only [kF] at h
    refine iZ Try.func49 rfl (rs := []) Try.results49 Try.ntmps49 (Nat.le_of_ble_eq_true rfl) ?_
    refine aG ?_
    refine aG ?_
    refine aE ?_
    refine tr1 rfl (aD (v := .d (.sl 1 (prizes_2.map bR))) (aA rfl) rfl rfl) ?_
    refine tr1 rfl (dW (aA rfl) rfl dO.of) ?_
    refine tr1 rfl (bC (aA rfl) rfl rfl rfl) ?_
    refine tr1 rfl (aD (v := .d (.lit (.bool ((decide ((prizes_2.length : Int) = 0)))))) (aA rfl) rfl rfl) ?_
    obtain ⟨b1, h2, h⟩ := bind_some h
    refine bX 4 [0, 1, 2, 3, 4] 20 b1 ?_ ?_
    ·refine bG (decide ((prizes_2.length : Int) = 0)) (fun c30 => ?_) (fun c30 => ?_)
     ·have h2 := aS c30 h2
      refine aP rfl rfl (aA rfl) rfl (aA rfl) rfl c30 ?_
      refine aP rfl rfl (aA rfl) rfl (aA rfl) rfl c30 ?_
      refine aP rfl rfl (aA rfl) rfl (aA rfl) rfl c30 ?_
      refine tr1 rfl (bN (v := .d (.lit (.bool true))) (aA rfl) rfl c30 rfl rfl) ?_
      have h2 := Option.some.inj h2
      subst h2
      refine aF (aZ rfl ⟨rfl, rfl, rfl, rfl, rfl, trivial⟩ rfl)
     ·have h2 := aR c30 h2
      refine aL rfl rfl (aA rfl) rfl c30 (aD (v := .d (.sl 1 (free_3.map bR))) (aA rfl) rfl rfl) ?_
      refine aL rfl rfl (aA rfl) rfl c30 (dW (aA rfl) rfl dO.of) ?_
      refine aL rfl rfl (aA rfl) rfl c30 (bC (aA rfl) rfl rfl rfl) ?_
      refine tr1 rfl (bM (v := .d (.lit (.bool ((decide ((free_3.length : Int) = 0)))))) (aA rfl) rfl c30 rfl rfl) ?_
      have h2 := Option.some.inj h2
      subst h2
      refine aF (aZ rfl ⟨rfl, rfl, rfl, rfl, rfl, trivial⟩ rfl)
    ·refine aF ?_
     refine bJ rfl (fun c3 => ?_) (fun c3 => ?_)
     ·have h := aS c3 h
      refine aG ?_
      refine aE ?_
      refine tr1 rfl (aD (v := .fn 50 [.bp bb_b bb_o 0, .bp pl_b pl_o 0, .bp wk_b wk_o 0, .bp ms_b ms_o 0, .bp be_b be_o 0, .bp wo_b wo_o 0]) (aA rfl) rfl rfl) ?_
      obtain ⟨r4, h5, h⟩ := bind_some h
      refine bQ rfl (dI (passed := [.box book_b book_o (cE book), .box bb_b bb_o [gJ book_b book_o 0], .box pl_b pl_o [.lit (.int .i64 pl)], .box wk_b wk_o [.lit (.int .i64 wk)], .box ms_b ms_o [.lit (.bool ms)], .box be_b be_o [.lit (.int .i64 be)], .box wo_b wo_o [.lit (.int .i64 wo)]]) (aA rfl) rfl (.clo _ _ _ _ Try.call50 rfl) (tR rfl) rfl (aAj book pl wk ms be wo h5)) ?_
      rintro _ ⟨_, _, ⟨rfl, rfl⟩, rfl⟩
      refine aF ?_
      have h := Option.some.inj h
      subst h
      exact bO ⟨rfl, _, [.box book_b book_o (cE book), .box bb_b bb_o [gJ book_b book_o 0], .box pl_b pl_o [.lit (.int .i64 pl)], .box wk_b wk_o [.lit (.int .i64 wk)], .box ms_b ms_o [.lit (.bool r4.1)], .box be_b be_o [.lit (.int .i64 r4.2.1)], .box wo_b wo_o [.lit (.int .i64 r4.2.2)]], [], _, .none, .refl _, .same _, rfl, rfl⟩
     ·have h := aR c3 h
      refine bH ?_
      refine aG ?_
      refine aE ?_
      refine tr1 rfl (aD (v := .bp book_b book_o 0) (aA rfl) rfl rfl) ?_
      refine tr1 rfl (kT (aA rfl) rfl) ?_
      refine tr1 rfl (aQ (aA rfl) rfl iP) ?_
      refine tr1 rfl (aQ (aA rfl) rfl eR) ?_
      refine tr1 rfl (aT (aA rfl) rfl (i := 0) rfl rfl jI) ?_
      refine tr1 rfl (dW (aA rfl) rfl cD.of) ?_
      refine tr1 rfl (aJ (v := .d (.lit (.int .i64 ((book.Ledger.Reports.length : Int))))) (aA rfl) rfl rfl) ?_
      refine aF ?_
      refine aG ?_
      refine aG ?_
      refine aE ?_
      refine tr1 rfl (aD (v := .d (.sl 1 (free_3.map bR))) (aA rfl) rfl rfl) ?_
      refine tr1 rfl (dW (aA rfl) rfl dO.of) ?_
      refine tr1 rfl (aD (v := .d (.lit (.int .i64 0))) (aA rfl) rfl rfl) ?_
      refine aF ?_
      refine bT ?_
      refine cM [0, 1, 2, 3, 4, 10, 29, 30] (fun (s6 : Int × bW × Bool × Int × Int) => [(31, .d (.lit (.int .i64 s6.1)))]) (fun (s6 : Int × bW × Bool × Int × Int) => [.box book_b book_o (cE s6.2.1), .box bb_b bb_o [gJ book_b book_o 0], .box pl_b pl_o [.lit (.int .i64 pl)], .box wk_b wk_o [.lit (.int .i64 wk)], .box ms_b ms_o [.lit (.bool s6.2.2.1)], .box be_b be_o [.lit (.int .i64 s6.2.2.2.1)], .box wo_b wo_o [.lit (.int .i64 s6.2.2.2.2)]]) (fun (k : Nat) (s6 : Int × bW × Bool × Int × Int) => lN (kF kr) week_1 prizes_2 free_3 (book.Ledger.Reports.length : Int) free_3 (free_3.length : Int) pl wk k s6.1 s6.2.1 s6.2.2.1 s6.2.2.2.1 s6.2.2.2.2) (fun _ => rfl) (0, book, ms, be, wo) h (aV [0, 1, 2, 3, 4, 5, 6] rfl rfl (aN rfl (aY ⟨rfl, rfl, rfl, rfl, rfl, rfl, rfl, rfl, trivial⟩))) ?_
      rintro k7 ⟨t31_0_6, b_0_6, b_0_6_4, b_0_6_5, b_0_6_6⟩ h
      simp only [lN] at h
      refine aG ?_
      refine aE ?_
      refine tr1 rfl (bC (aA rfl) rfl rfl rfl) ?_
      refine aF ?_
      refine aG ?_
      refine bJ rfl (fun c8 => ?_) (fun c8 => ?_)
      ·have h := aS c8 h
       refine bH ?_
       refine aG ?_
       refine bT ?_
       refine aG ?_
       refine aE ?_
       refine tr1 rfl (aD (v := .d (.lit (.int .i64 t31_0_6))) (aA rfl) rfl rfl) ?_
       obtain ⟨x9, h10, h⟩ := bind_some h
       refine tr1 rfl (cA (aA rfl) rfl rfl dO.of (bP bR h10)) ?_
       refine tr1 rfl (cL (aA rfl) rfl bD) ?_
       refine tr1 rfl (aJ (v := .d (.lit (.int .i64 t31_0_6))) (aA rfl) rfl rfl) ?_
       refine tr1 rfl (aJ (v := .d (.lit (.int .i64 x9))) (aA rfl) rfl rfl) ?_
       refine aF ?_
       refine aG ?_
       obtain ⟨x12, h13, h⟩ := bind_some h
       obtain ⟨x14, h15, h⟩ := bind_some h
       obtain ⟨x16, h17, h⟩ := bind_some h
       refine mT mix 19 [0, 1, 2, 3, 4, 10, 11, 29, 30, 31] (fun X11 => [(36, .bp book_b book_o 0), (54, .d (.sl 5 (x16.map aC)))]) (fun X11 => [.box book_b book_o (cE b_0_6), .box bb_b bb_o [gJ book_b book_o 0], .box pl_b pl_o [.lit (.int .i64 pl)], .box wk_b wk_o [.lit (.int .i64 wk)], .box ms_b ms_o [.lit (.bool b_0_6_4)], .box be_b be_o [.lit (.int .i64 b_0_6_5)], .box wo_b wo_o [.lit (.int .i64 b_0_6_6)]]) ?_ ?_
       ·refine ⟨0, fun X11 => [(36, 0, .bp book_b book_o 0), (37, 1, .bp book_b book_o 0), (38, 2, .bp book_b book_o 0), (39, 3, .bp book_b book_o 0), (40, 4, .bp book_b book_o 2), (41, 5, .d (.sl 5 (b_0_6.Ledger.Reports.map aC))), (42, 6, .d (.lit (.int .i64 ((book.Ledger.Reports.length : Int))))), (43, 7, .d (.lit (.int .i64 ((book.Ledger.Reports.length : Int))))), (44, 8, .fl false 5 (x12.map aC)), (45, 9, .d (.lit (.int .i64 ((book.Ledger.Reports.length : Int))))), (46, 10, .d (.lit (.int .i64 ((w64 (100 + (book.Ledger.Reports.length : Int))))))), (47, 11, .d (.lit (.int .i64 x9))), (48, 12, .d (.lit (.int .i64 week_1))), (49, 13, .d (.sl 1 (prizes_2.map bR))), (50, 14, .cp [.lit (.int .i64 x14)]), (51, 15, .d (.lit (.int .i64 x14))), (52, 16, .agg (aC (aB.mk (w64 (100 + (book.Ledger.Reports.length : Int))) x9 week_1 x14 false))), (53, 17, .d (.sl 5 ((([(aB.mk (w64 (100 + (book.Ledger.Reports.length : Int))) x9 week_1 x14 false)])).map aC))), (54, 18, .d (.sl 5 (x16.map aC)))], fun X11 => [([], .box book_b book_o (cE b_0_6)), ([], .box bb_b bb_o [gJ book_b book_o 0]), ([], .box pl_b pl_o [.lit (.int .i64 pl)]), ([], .box wk_b wk_o [.lit (.int .i64 wk)]), ([], .box ms_b ms_o [.lit (.bool b_0_6_4)]), ([], .box be_b be_o [.lit (.int .i64 b_0_6_5)]), ([], .box wo_b wo_o [.lit (.int .i64 b_0_6_6)])], ?_, ?_⟩
        · exact ⟨by kernel_rfl, by kernel_rfl, by kernel_rfl, fun _ => by kernel_rfl, fun _ => by kernel_rfl, fun _ => by kernel_rfl, fun _ => rfl, [([], []), ([], [18]), ([1], [18]), ([2], [18]), ([3], [18]), ([4], [18]), ([], [18]), ([], [18]), ([5, 6, 7], [18]), ([], [18]), ([9], [18]), ([], [18]), ([], [18]), ([], [18]), ([13], [18]), ([14], [18]), ([10, 11, 12, 15], [18]), ([16], [18]), ([8, 17], [])], by kernel_rfl, ⟨fun X11 S hw hi hS => bL (X := X11) rfl (hw X11) rfl (aO rfl (aD (v := .bp book_b book_o 0) (aA rfl) (aH hS rfl) rfl)),
      fun X11 S hw hi hS => bL (X := X11) rfl (hw X11) rfl (aO rfl (aD (v := .bp book_b book_o 0) (aA rfl) (aH hS rfl) rfl)),
      fun X11 S hw hi hS => bL (X := X11) rfl (hw X11) rfl (aO rfl (kT (aA rfl) (aH hS rfl))),
      fun X11 S hw hi hS => bL (X := X11) rfl (hw X11) rfl (aO rfl (aQ (aA rfl) (aH hS rfl) iP)),
      fun X11 S hw hi hS => bL (X := X11) rfl (hw X11) rfl (aO rfl (aQ (aA rfl) (aH hS rfl) eR)),
      fun X11 S hw hi hS => bL (X := X11) rfl (hw X11) rfl (aO rfl (aT (aA rfl) (aH hS rfl) (i := 0) (og hS rfl rfl) rfl jI)),
      fun X11 S hw hi hS => bL (X := X11) rfl (hw X11) rfl (aO rfl (aD (v := .d (.lit (.int .i64 ((book.Ledger.Reports.length : Int))))) (aA rfl) (aH hS rfl) rfl)),
      fun X11 S hw hi hS => bL (X := X11) rfl (hw X11) rfl (aO rfl (aD (v := .d (.lit (.int .i64 ((book.Ledger.Reports.length : Int))))) (aA rfl) (aH hS rfl) rfl)),
      fun X11 S hw hi hS => bL (X := X11) rfl (hw X11) rfl (aO rfl (aDj (aA rfl) cD.of (aH hS rfl) (aH hS rfl) (aH hS rfl) (rZ aC h13))),
      fun X11 S hw hi hS => bL (X := X11) rfl (hw X11) rfl (aO rfl (aD (v := .d (.lit (.int .i64 ((book.Ledger.Reports.length : Int))))) (aA rfl) (aH hS rfl) rfl)),
      fun X11 S hw hi hS => bL (X := X11) rfl (hw X11) rfl (aO rfl (bA (aA rfl) rfl (aH hS rfl) rfl)),
      fun X11 S hw hi hS => bL (X := X11) rfl (hw X11) rfl (aO rfl (aD (v := .d (.lit (.int .i64 x9))) (aA rfl) (aH hS rfl) rfl)),
      fun X11 S hw hi hS => bL (X := X11) rfl (hw X11) rfl (aO rfl (aD (v := .d (.lit (.int .i64 week_1))) (aA rfl) (aH hS rfl) rfl)),
      fun X11 S hw hi hS => bL (X := X11) rfl (hw X11) rfl (aO rfl (aD (v := .d (.sl 1 (prizes_2.map bR))) (aA rfl) (aH hS rfl) rfl)),
      fun X11 S hw hi hS => bL (X := X11) rfl (hw X11) rfl (aO rfl (cA (aA rfl) (aH hS rfl) rfl dO.of (bP bR h15))),
      fun X11 S hw hi hS => bL (X := X11) rfl (hw X11) rfl (aO rfl (cL (aA rfl) (aH hS rfl) bD)),
      fun X11 S hw hi hS => bL (X := X11) rfl (hw X11) rfl (aO rfl (mI (aA rfl) uH (zs := [.lit (.int .i64 0), .lit (.int .i64 0), .lit (.int .i64 0), .lit (.int .i64 0), .lit (.bool false)]) rfl rfl rfl (pa2 (aH hS rfl) (pa2 (aH hS rfl) (pa2 (aH hS rfl) (pa2 (aH hS rfl) pan)))) (es := [.lit (.int .i64 ((w64 (100 + (book.Ledger.Reports.length : Int))))), .lit (.int .i64 x9), .lit (.int .i64 week_1), .lit (.int .i64 x14), .lit (.bool false)]) rfl)),
      fun X11 S hw hi hS => bL (X := X11) rfl (hw X11) rfl (aO rfl (iE (aA rfl) cD rfl (pa2 (aH hS rfl) pan) (rows := ([(aB.mk (w64 (100 + (book.Ledger.Reports.length : Int))) x9 week_1 x14 false)]).map aC) rfl (cO (f := aC) fun _ => rfl) rfl (by decide))),
      fun X11 S hw hi hS => bL (X := X11) rfl (hw X11) rfl (aO rfl (aFl (nn := false) (f := aC) (xs := x12) (ys := [(aB.mk (w64 (100 + (book.Ledger.Reports.length : Int))) x9 week_1 x14 false)]) (aA rfl) cD (aH hS rfl) (aH hS rfl) (fun _ => rfl) h17 rfl)), trivial⟩⟩
        · exact fun X11 => eC (aN rfl (aN rfl (aY ⟨rfl, rfl, rfl, rfl, rfl, rfl, rfl, rfl, rfl, rfl, trivial⟩)))
       ·intro X11
        refine tr1 rfl (kT (aA rfl) rfl) ?_
        refine tr1 rfl (aQ (aA rfl) rfl iP) ?_
        refine tr1 rfl (aQ (aA rfl) rfl eR) ?_
        refine tr1 rfl (cB (i := 0) rfl rfl rfl rfl rfl Try.sizeOf22 rfl (aA rfl) (Nat.le_of_ble_eq_true rfl) (ds' := (cE (bW.mk (aM.mk b_0_6.Ledger.Players b_0_6.Ledger.Counts x16 b_0_6.Ledger.Bans b_0_6.Ledger.Frozen)))) rfl) ?_
        refine aF ?_
        obtain ⟨x18, h19, h⟩ := bind_some h
        obtain ⟨x20, h21, h⟩ := bind_some h
        obtain ⟨x22, h23, h⟩ := bind_some h
        obtain ⟨r24, h25, h⟩ := bind_some h
        refine gN mix 14 [0, 1, 2, 3, 4, 10, 29, 30, 31] [(58, .bp book_b book_o 0), (59, .d (.lit (.int .i64 week_1))), (61, .d (.sl 1 (x18.map bR))), (70, .d (.sl 1 (r24.map bR))), (71, .fn 50 [.bp bb_b bb_o 0, .bp pl_b pl_o 0, .bp wk_b wk_o 0, .bp ms_b ms_o 0, .bp be_b be_o 0, .bp wo_b wo_o 0])] ?_ ?_
        ·refine ⟨[(58, 0, .bp book_b book_o 0), (59, 1, .d (.lit (.int .i64 week_1))), (60, 2, .d (.sl 1 (prizes_2.map bR))), (61, 3, .d (.sl 1 (x18.map bR))), (62, 4, .d (.sl 1 (free_3.map bR))), (63, 5, .d (.lit (.int .i64 t31_0_6))), (64, 6, .d (.sl 1 (x20.map bR))), (65, 7, .d (.sl 1 (free_3.map bR))), (66, 8, .d (.lit (.int .i64 t31_0_6))), (67, 9, .d (.lit (.int .i64 ((w64 (t31_0_6 + 1)))))), (68, 10, .d (.sl 1 (x22.map bR))), (69, 11, .d (.sl 1 ((([x20, x22])).map qO))), (70, 12, .d (.sl 1 (r24.map bR))), (71, 13, .fn 50 [.bp bb_b bb_o 0, .bp pl_b pl_o 0, .bp wk_b wk_o 0, .bp ms_b ms_o 0, .bp be_b be_o 0, .bp wo_b wo_o 0])], ?_, ?_⟩
         · exact ⟨by kernel_rfl, by kernel_rfl, by kernel_rfl, by kernel_rfl, by kernel_rfl, [([], []), ([], []), ([], []), ([2], []), ([], []), ([], []), ([4, 5], []), ([], []), ([], []), ([8], []), ([7, 9], []), ([6, 10], []), ([11], []), ([], [])], by kernel_rfl, ⟨fun S hS => aK rfl (aO rfl (aD (v := .bp book_b book_o 0) (aA rfl) (aH hS rfl) rfl)),
      fun S hS => aK rfl (aO rfl (aD (v := .d (.lit (.int .i64 week_1))) (aA rfl) (aH hS rfl) rfl)),
      fun S hS => aK rfl (aO rfl (aD (v := .d (.sl 1 (prizes_2.map bR))) (aA rfl) (aH hS rfl) rfl)),
      fun S hS => aK rfl (aO rfl (pA (aA rfl) dO.of (aH hS rfl) rfl aId (rZ bR h19))),
      fun S hS => aK rfl (aO rfl (aD (v := .d (.sl 1 (free_3.map bR))) (aA rfl) (aH hS rfl) rfl)),
      fun S hS => aK rfl (aO rfl (aD (v := .d (.lit (.int .i64 t31_0_6))) (aA rfl) (aH hS rfl) rfl)),
      fun S hS => aK rfl (aO rfl (pA (aA rfl) dO.of (aH hS rfl) rfl (bo (aH hS rfl)) (rZ bR h21))),
      fun S hS => aK rfl (aO rfl (aD (v := .d (.sl 1 (free_3.map bR))) (aA rfl) (aH hS rfl) rfl)),
      fun S hS => aK rfl (aO rfl (aD (v := .d (.lit (.int .i64 t31_0_6))) (aA rfl) (aH hS rfl) rfl)),
      fun S hS => aK rfl (aO rfl (bA (aA rfl) (aH hS rfl) rfl rfl)),
      fun S hS => aK rfl (aO rfl (pA (aA rfl) dO.of (aH hS rfl) (bo (aH hS rfl)) aId (rZ bR h23))),
      fun S hS => aK rfl (aO rfl (iE (aA rfl) xN rfl (pa2 (aH hS rfl) (pa2 (aH hS rfl) pan)) (rows := ([x20, x22]).map qO) rfl (cO (f := qO) fun _ => rfl) rfl (by decide))),
      fun S hS => aK rfl (aO rfl (lF (aA rfl) (.func _ _ Try.call84) (ev2 (aH hS rfl) evn) rfl (wO _ h25))),
      fun S hS => aK rfl (aO rfl (aD (v := .fn 50 [.bp bb_b bb_o 0, .bp pl_b pl_o 0, .bp wk_b wk_o 0, .bp ms_b ms_o 0, .bp be_b be_o 0, .bp wo_b wo_o 0]) (aA rfl) (aH hS rfl) rfl)), trivial⟩⟩
         · exact eC (aN rfl (aN rfl (aN rfl (aN rfl (aN rfl (aY ⟨rfl, rfl, rfl, rfl, rfl, rfl, rfl, rfl, rfl, trivial⟩))))))
        ·obtain ⟨r26, h27, h⟩ := bind_some h
         refine bQ rfl (dI (passed := [.box book_b book_o (cE (bW.mk (aM.mk b_0_6.Ledger.Players b_0_6.Ledger.Counts x16 b_0_6.Ledger.Bans b_0_6.Ledger.Frozen))), .box bb_b bb_o [gJ book_b book_o 0], .box pl_b pl_o [.lit (.int .i64 pl)], .box wk_b wk_o [.lit (.int .i64 wk)], .box ms_b ms_o [.lit (.bool b_0_6_4)], .box be_b be_o [.lit (.int .i64 b_0_6_5)], .box wo_b wo_o [.lit (.int .i64 b_0_6_6)]]) (aA rfl) rfl (.func _ _ Try.call49) rfl rfl (ih (bW.mk (aM.mk b_0_6.Ledger.Players b_0_6.Ledger.Counts x16 b_0_6.Ledger.Bans b_0_6.Ledger.Frozen)) pl wk b_0_6_4 b_0_6_5 b_0_6_6 week_1 x18 r24 h27)) ?_
         rintro _ ⟨_, _, ⟨rfl, rfl⟩, rfl⟩
         refine eD ?_
         refine aE ?_
         refine tr1 rfl (bA (aA rfl) rfl rfl rfl) ?_
         refine tr1 rfl (aD (v := .d (.lit (.int .i64 ((w64 (t31_0_6 + 1)))))) (aA rfl) rfl rfl) ?_
         refine aF ?_
         exact ⟨(w64 (t31_0_6 + 1), r26.1, r26.2.1, r26.2.2.1, r26.2.2.2), h, aV [0, 1, 2, 3, 4, 5, 6] rfl rfl (aN rfl (aY ⟨rfl, rfl, rfl, rfl, rfl, rfl, rfl, rfl, trivial⟩))⟩
      ·have h := aR c8 h
       refine cU ?_
       refine .inl ⟨rfl, ?_⟩
       simp only [rD] at h
       refine aE ?_
       refine tr1 rfl (aD (v := .bp book_b book_o 0) (aA rfl) rfl rfl) ?_
       refine tr1 rfl (aD (v := .bp book_b book_o 0) (aA rfl) rfl rfl) ?_
       refine tr1 rfl (kT (aA rfl) rfl) ?_
       refine tr1 rfl (aQ (aA rfl) rfl iP) ?_
       refine tr1 rfl (aQ (aA rfl) rfl eR) ?_
       refine tr1 rfl (aT (aA rfl) rfl (i := 0) rfl rfl jI) ?_
       refine tr1 rfl (aD (v := .d (.lit (.int .i64 ((book.Ledger.Reports.length : Int))))) (aA rfl) rfl rfl) ?_
       obtain ⟨x28, h29, h⟩ := bind_some h
       refine tr1 rfl (pA (aA rfl) cD.of rfl rfl rfl (rZ aC h29)) ?_
       refine tr1 rfl (kT (aA rfl) rfl) ?_
       refine tr1 rfl (aQ (aA rfl) rfl iP) ?_
       refine tr1 rfl (aQ (aA rfl) rfl eR) ?_
       refine tr1 rfl (cB (i := 0) rfl rfl rfl rfl rfl Try.sizeOf22 rfl (aA rfl) (Nat.le_of_ble_eq_true rfl) (ds' := (cE (bW.mk (aM.mk b_0_6.Ledger.Players b_0_6.Ledger.Counts x28 b_0_6.Ledger.Bans b_0_6.Ledger.Frozen)))) rfl) ?_
       refine aF ?_
       have h := Option.some.inj h
       subst h
       exact ⟨_, [.box book_b book_o (cE (bW.mk (aM.mk b_0_6.Ledger.Players b_0_6.Ledger.Counts x28 b_0_6.Ledger.Bans b_0_6.Ledger.Frozen))), .box bb_b bb_o [gJ book_b book_o 0], .box pl_b pl_o [.lit (.int .i64 pl)], .box wk_b wk_o [.lit (.int .i64 wk)], .box ms_b ms_o [.lit (.bool b_0_6_4)], .box be_b be_o [.lit (.int .i64 b_0_6_5)], .box wo_b wo_o [.lit (.int .i64 b_0_6_6)]], [], _, .none, .refl _, .same _, rfl, rfl⟩
theorem wL (book : bW) (pl : Int) (wk : Int) (ms : Bool) (be : Int) (wo : Int) (week_1 : Int) (prizes_2 : List Int) (free_3 : List Int) {r : bW × Bool × Int × Int} {book_b book_o : Nat} {bb_b bb_o : Nat} {pl_b pl_o : Nat} {wk_b wk_o : Nat} {ms_b ms_o : Nat} {be_b be_o : Nat} {wo_b wo_o : Nat} (h : tA book pl wk ms be wo week_1 prizes_2 free_3 = some r) : fI Try.prog 49 [.bp book_b book_o 0, .d (.lit (.int .i64 week_1)), .d (.sl 1 (prizes_2.map bR)), .d (.sl 1 (free_3.map bR)), .fn 50 [.bp bb_b bb_o 0, .bp pl_b pl_o 0, .bp wk_b wk_o 0, .bp ms_b ms_o 0, .bp be_b be_o 0, .bp wo_b wo_o 0]] [.box book_b book_o (cE book), .box bb_b bb_o [gJ book_b book_o 0], .box pl_b pl_o [.lit (.int .i64 pl)], .box wk_b wk_o [.lit (.int .i64 wk)], .box ms_b ms_o [.lit (.bool ms)], .box be_b be_o [.lit (.int .i64 be)], .box wo_b wo_o [.lit (.int .i64 wo)]] (fun r' o' => r' = .tup [] ∧ o' = [.box book_b book_o (cE r.1), .box bb_b bb_o [gJ book_b book_o 0], .box pl_b pl_o [.lit (.int .i64 pl)], .box wk_b wk_o [.lit (.int .i64 wk)], .box ms_b ms_o [.lit (.bool r.2.1)], .box be_b be_o [.lit (.int .i64 r.2.2.1)], .box wo_b wo_o [.lit (.int .i64 r.2.2.2)]]) := vX BIG _ _ _ _ _ _ _ _ _ h

theorem aCo (l_0 : aM) (player_1 : Int) (week_2 : Int) (prizes_3 : List Int) {r : Int × Int × Int} (h : vW l_0 player_1 week_2 prizes_3 = some r) : Fn Try.prog 17 [.agg (aX l_0), .d (.lit (.int .i64 player_1)), .d (.lit (.int .i64 week_2)), .d (.sl 1 (prizes_3.map bR))] (.tup [.d (.lit (.int .i64 r.1)), .d (.lit (.int .i64 r.2.1)), .d (.lit (.int .i64 r.2.2))]) := by
 unfold vW at h
 refine wF Try.func17 rfl (rs := [.cell 8 3, .cell 9 3, .tmp 10]) Try.results17 Try.ntmps17 (Nat.le_of_ble_eq_true rfl) ?_
 refine aG ?_
 refine aE ?_
 refine bQ rfl (fN (v := .agg (aX l_0)) (aA rfl) rfl rfl rfl) ?_
 rintro _ ⟨b1, rfl⟩
 refine bQ rfl (fN (v := .d (.lit (.int .i64 player_1))) (aA rfl) rfl rfl rfl) ?_
 rintro _ ⟨b2, rfl⟩
 refine bQ rfl (fN (v := .d (.lit (.int .i64 week_2))) (aA rfl) rfl rfl rfl) ?_
 rintro _ ⟨b3, rfl⟩
 refine bQ rfl (gB (zs := [.lit (.int .i64 0)]) (aA rfl) Try.zeroValue3 rfl rfl) ?_
 rintro _ ⟨b4, rfl⟩
 refine bQ rfl (gB (zs := [.lit (.int .i64 0)]) (aA rfl) Try.zeroValue3 rfl rfl) ?_
 rintro _ ⟨b5, rfl⟩
 refine tr1 rfl (aJ (v := .d (.lit (.int .i64 0))) (aA rfl) rfl rfl) ?_
 refine aF ?_
 refine aG ?_
 refine aE ?_
 refine tr1 rfl (cY (aA rfl) rfl (i := 0) rfl fL (es := (aX l_0)) rfl rfl) ?_
 refine tr1 rfl (aT (aA rfl) rfl (i := 1) rfl rfl bD) ?_
 refine tr1 rfl (aT (aA rfl) rfl (i := 2) rfl rfl bD) ?_
 obtain ⟨r6, h7, h⟩ := bind_some h
 refine bQ rfl (dI (passed := []) (aA rfl) rfl (.func _ _ Try.call44) rfl rfl (rC _ _ _ h7)) ?_
 rintro _ ⟨_, _, ⟨b9, w10, rfl, rfl⟩, rfl⟩
 obtain ⟨_ | y8, e11⟩ := r6
 ·have h := vH h
  refine fH (aV [0, 1, 2, 3, 4] rfl rfl (le_refl _)) ?_
  refine tr1 rfl (aD (v := .tup [.d (.lit (.pointer none)), .d (.lit (.int .i64 e11))]) (aA rfl) rfl rfl) ?_
  refine tr1 rfl (cN (aA rfl) rfl rfl) ?_
  refine tr1 rfl (cN (aA rfl) rfl rfl) ?_
  refine bQ rfl (gB (zs := [.lit (.pointer none)]) (aA rfl) Try.zeroValue70 rfl rfl) ?_
  rintro _ ⟨b12, rfl⟩
  refine tr1 rfl (cB (i := 5) rfl rfl rfl rfl rfl Try.sizeOf70 rfl (aA rfl) (Nat.le_of_ble_eq_true rfl) (ds' := [.lit (.pointer none)]) rfl) ?_
  refine tr1 rfl (aJ (v := .d (.lit (.int .i64 e11))) (aA rfl) rfl rfl) ?_
  refine aF ?_
  refine aG ?_
  refine aG ?_
  refine aE ?_
  refine tr1 rfl (aD (v := .d (.lit (.int .i64 e11))) (aA rfl) rfl rfl) ?_
  refine tr1 rfl (bC (aA rfl) rfl rfl rfl) ?_
  refine aF ?_
  refine bJ rfl (fun c13 => ?_) (fun c13 => ?_)
  ·have h := aS c13 h
   refine aG ?_
   refine aE ?_
   refine tr1 rfl (aD (v := .d (.lit (.int .i64 e11))) (aA rfl) rfl rfl) ?_
   refine tr1 rfl (cB (i := 3) rfl rfl rfl rfl rfl Try.sizeOf3 rfl (aA rfl) (Nat.le_of_ble_eq_true rfl) (ds' := [.lit (.int .i64 0)]) rfl) ?_
   refine tr1 rfl (cB (i := 4) rfl rfl rfl rfl rfl Try.sizeOf3 rfl (aA rfl) (Nat.le_of_ble_eq_true rfl) (ds' := [.lit (.int .i64 0)]) rfl) ?_
   refine tr1 rfl (aJ (v := .d (.lit (.int .i64 e11))) (aA rfl) rfl rfl) ?_
   refine aF ?_
   have h := Option.some.inj h
   subst h
   exact bO ⟨rfl, _, [.box b1 0 (aX l_0), .box b2 0 [.lit (.int .i64 player_1)], .box b3 0 [.lit (.int .i64 week_2)], .box b4 0 [.lit (.int .i64 0)], .box b5 0 [.lit (.int .i64 0)], .box b12 0 [.lit (.pointer none)]], .three (.cell1 8 3 rfl (i := 3) rfl bD rfl) (.cell1 9 3 rfl (i := 4) rfl bD rfl) (.tmp 10 (v := .d (.lit (.int .i64 e11))) rfl), .refl _, .same _⟩
  ·have h := aR c13 h
   refine bH ?_
   refine aG ?_
   refine aG ?_
   refine aE ?_
   refine tr1 rfl (aD (v := .d (.sl 1 (prizes_3.map bR))) (aA rfl) rfl rfl) ?_
   refine tr1 rfl (dW (aA rfl) rfl dO.of) ?_
   refine tr1 rfl (bC (aA rfl) rfl rfl rfl) ?_
   refine tr1 rfl (aD (v := .d (.lit (.bool ((decide (4 < (prizes_3.length : Int))))))) (aA rfl) rfl rfl) ?_
   obtain ⟨b14, h15, h⟩ := bind_some h
   refine bX 3 [3, 5, 6, 8, 9, 11] 31 b14 ?_ ?_
   ·refine bG (decide (4 < (prizes_3.length : Int))) (fun c18 => ?_) (fun c18 => ?_)
    ·have h15 := aS c18 h15
     refine aP rfl rfl (aA rfl) rfl (aA rfl) rfl c18 ?_
     refine aP rfl rfl (aA rfl) rfl (aA rfl) rfl c18 ?_
     refine tr1 rfl (bN (v := .d (.lit (.bool true))) (aA rfl) rfl c18 rfl rfl) ?_
     have h15 := Option.some.inj h15
     subst h15
     refine aF (aZ rfl ⟨rfl, rfl, rfl, rfl, rfl, rfl, trivial⟩ rfl)
    ·have h15 := aR c18 h15
     refine aL rfl rfl (aA rfl) rfl c18 (aD (v := .d (.sl 1 (prizes_3.map bR))) (aA rfl) rfl rfl) ?_
     obtain ⟨r20, h21, h15⟩ := bind_some h15
     refine aL rfl rfl (aA rfl) rfl c18 (cC (aA rfl) (.func _ _ Try.call45) rfl rfl (BVs.refl _ _) (oK _ _ 46 [] Try.call46 (fun _ _ h15 => vK _ h15) h21) rfl) ?_
     refine tr1 rfl (bM (v := .d (.lit (.bool r20))) (aA rfl) rfl c18 rfl rfl) ?_
     have h15 := Option.some.inj h15
     subst h15
     refine aF (aZ rfl ⟨rfl, rfl, rfl, rfl, rfl, rfl, trivial⟩ rfl)
   ·refine aF ?_
    refine bJ rfl (fun c16 => ?_) (fun c16 => ?_)
    ·have h := aS c16 h
     refine aG ?_
     refine aE ?_
     refine tr1 rfl (cB (i := 3) rfl rfl rfl rfl rfl Try.sizeOf3 rfl (aA rfl) (Nat.le_of_ble_eq_true rfl) (ds' := [.lit (.int .i64 0)]) rfl) ?_
     refine tr1 rfl (cB (i := 4) rfl rfl rfl rfl rfl Try.sizeOf3 rfl (aA rfl) (Nat.le_of_ble_eq_true rfl) (ds' := [.lit (.int .i64 0)]) rfl) ?_
     refine tr1 rfl (aJ (v := .d (.lit (.int .i64 42))) (aA rfl) rfl rfl) ?_
     refine aF ?_
     have h := Option.some.inj h
     subst h
     exact bO ⟨rfl, _, [.box b1 0 (aX l_0), .box b2 0 [.lit (.int .i64 player_1)], .box b3 0 [.lit (.int .i64 week_2)], .box b4 0 [.lit (.int .i64 0)], .box b5 0 [.lit (.int .i64 0)], .box b12 0 [.lit (.pointer none)]], .three (.cell1 8 3 rfl (i := 3) rfl bD rfl) (.cell1 9 3 rfl (i := 4) rfl bD rfl) (.tmp 10 (v := .d (.lit (.int .i64 42))) rfl), .refl _, .same _⟩
    ·have h := aR c16 h
     refine bH ?_
     refine aG ?_
     refine aE ?_
     refine tr1 rfl (gV 3 1 (.inl rfl) (aA rfl)) ?_
     refine aF ?_
     refine aG ?_
     refine aG ?_
     refine aE ?_
     refine tr1 rfl (aT (aA rfl) rfl (i := 5) rfl rfl vG) ?_
     cases h
 ·have h := vI h
  refine fH (aV [0, 1, 2, 3, 4, 5, 6] rfl rfl (le_refl _)) ?_
  refine tr1 rfl (aD (v := .tup [.bp b9 0 0, .d (.lit (.int .i64 e11))]) (aA rfl) rfl rfl) ?_
  refine tr1 rfl (cN (aA rfl) rfl rfl) ?_
  refine tr1 rfl (cN (aA rfl) rfl rfl) ?_
  refine bQ rfl (gB (zs := [.lit (.pointer none)]) (aA rfl) Try.zeroValue70 rfl rfl) ?_
  rintro _ ⟨b22, rfl⟩
  refine fH (aHh 20 rfl) ?_
  refine tr1 rfl (cB (i := 7) rfl rfl rfl rfl rfl Try.sizeOf70 rfl (aA rfl) (Nat.le_of_ble_eq_true rfl) (ds' := [gJ b9 0 0]) rfl) ?_
  refine tr1 rfl (aJ (v := .d (.lit (.int .i64 e11))) (aA rfl) rfl rfl) ?_
  refine aF ?_
  refine aG ?_
  refine aG ?_
  refine aE ?_
  refine tr1 rfl (aD (v := .d (.lit (.int .i64 e11))) (aA rfl) rfl rfl) ?_
  refine tr1 rfl (bC (aA rfl) rfl rfl rfl) ?_
  refine aF ?_
  refine bJ rfl (fun c23 => ?_) (fun c23 => ?_)
  ·have h := aS c23 h
   refine aG ?_
   refine aE ?_
   refine tr1 rfl (aD (v := .d (.lit (.int .i64 e11))) (aA rfl) rfl rfl) ?_
   refine tr1 rfl (cB (i := 5) rfl rfl rfl rfl rfl Try.sizeOf3 rfl (aA rfl) (Nat.le_of_ble_eq_true rfl) (ds' := [.lit (.int .i64 0)]) rfl) ?_
   refine tr1 rfl (cB (i := 6) rfl rfl rfl rfl rfl Try.sizeOf3 rfl (aA rfl) (Nat.le_of_ble_eq_true rfl) (ds' := [.lit (.int .i64 0)]) rfl) ?_
   refine tr1 rfl (aJ (v := .d (.lit (.int .i64 e11))) (aA rfl) rfl rfl) ?_
   refine aF ?_
   have h := Option.some.inj h
   subst h
   exact bO ⟨rfl, _, [.box b9 0 [.lit (.int .i64 y8.Ledger.Players), .lit (.int .i64 y8.Ledger.Counts), .lit w10, .sl 3 (y8.Ledger.Bans.map aI), .sl 3 (y8.Ledger.Frozen.map aI)], .arr w10 42 5 (y8.Ledger.Reports.map aC), .box b1 0 (aX l_0), .box b2 0 [.lit (.int .i64 player_1)], .box b3 0 [.lit (.int .i64 week_2)], .box b4 0 [.lit (.int .i64 0)], .box b5 0 [.lit (.int .i64 0)], .box b22 0 [gJ b9 0 0]], .three (.cell1 8 3 rfl (i := 5) rfl bD rfl) (.cell1 9 3 rfl (i := 6) rfl bD rfl) (.tmp 10 (v := .d (.lit (.int .i64 e11))) rfl), .refl _, .same _⟩
  ·have h := aR c23 h
   refine bH ?_
   refine aG ?_
   refine aG ?_
   refine aE ?_
   refine tr1 rfl (aD (v := .d (.sl 1 (prizes_3.map bR))) (aA rfl) rfl rfl) ?_
   refine tr1 rfl (dW (aA rfl) rfl dO.of) ?_
   refine tr1 rfl (bC (aA rfl) rfl rfl rfl) ?_
   refine tr1 rfl (aD (v := .d (.lit (.bool ((decide (4 < (prizes_3.length : Int))))))) (aA rfl) rfl rfl) ?_
   obtain ⟨b24, h25, h⟩ := bind_some h
   refine bX 3 [3, 5, 6, 8, 9, 11] 31 b24 ?_ ?_
   ·refine bG (decide (4 < (prizes_3.length : Int))) (fun c43 => ?_) (fun c43 => ?_)
    ·have h25 := aS c43 h25
     refine aP rfl rfl (aA rfl) rfl (aA rfl) rfl c43 ?_
     refine aP rfl rfl (aA rfl) rfl (aA rfl) rfl c43 ?_
     refine tr1 rfl (bN (v := .d (.lit (.bool true))) (aA rfl) rfl c43 rfl rfl) ?_
     have h25 := Option.some.inj h25
     subst h25
     refine aF (aZ rfl ⟨rfl, rfl, rfl, rfl, rfl, rfl, trivial⟩ rfl)
    ·have h25 := aR c43 h25
     refine aL rfl rfl (aA rfl) rfl c43 (aD (v := .d (.sl 1 (prizes_3.map bR))) (aA rfl) rfl rfl) ?_
     obtain ⟨r45, h46, h25⟩ := bind_some h25
     refine aL rfl rfl (aA rfl) rfl c43 (cC (aA rfl) (.func _ _ Try.call45) rfl rfl (BVs.refl _ _) (oK _ _ 46 [] Try.call46 (fun _ _ h25 => vK _ h25) h46) rfl) ?_
     refine tr1 rfl (bM (v := .d (.lit (.bool r45))) (aA rfl) rfl c43 rfl rfl) ?_
     have h25 := Option.some.inj h25
     subst h25
     refine aF (aZ rfl ⟨rfl, rfl, rfl, rfl, rfl, rfl, trivial⟩ rfl)
   ·refine aF ?_
    refine bJ rfl (fun c26 => ?_) (fun c26 => ?_)
    ·have h := aS c26 h
     refine aG ?_
     refine aE ?_
     refine tr1 rfl (cB (i := 5) rfl rfl rfl rfl rfl Try.sizeOf3 rfl (aA rfl) (Nat.le_of_ble_eq_true rfl) (ds' := [.lit (.int .i64 0)]) rfl) ?_
     refine tr1 rfl (cB (i := 6) rfl rfl rfl rfl rfl Try.sizeOf3 rfl (aA rfl) (Nat.le_of_ble_eq_true rfl) (ds' := [.lit (.int .i64 0)]) rfl) ?_
     refine tr1 rfl (aJ (v := .d (.lit (.int .i64 42))) (aA rfl) rfl rfl) ?_
     refine aF ?_
     have h := Option.some.inj h
     subst h
     exact bO ⟨rfl, _, [.box b9 0 [.lit (.int .i64 y8.Ledger.Players), .lit (.int .i64 y8.Ledger.Counts), .lit w10, .sl 3 (y8.Ledger.Bans.map aI), .sl 3 (y8.Ledger.Frozen.map aI)], .arr w10 42 5 (y8.Ledger.Reports.map aC), .box b1 0 (aX l_0), .box b2 0 [.lit (.int .i64 player_1)], .box b3 0 [.lit (.int .i64 week_2)], .box b4 0 [.lit (.int .i64 0)], .box b5 0 [.lit (.int .i64 0)], .box b22 0 [gJ b9 0 0]], .three (.cell1 8 3 rfl (i := 5) rfl bD rfl) (.cell1 9 3 rfl (i := 6) rfl bD rfl) (.tmp 10 (v := .d (.lit (.int .i64 42))) rfl), .refl _, .same _⟩
    ·have h := aR c26 h
     refine bH ?_
     refine aG ?_
     refine aE ?_
     refine tr1 rfl (gV 3 1 (.inl rfl) (aA rfl)) ?_
     refine aF ?_
     refine aG ?_
     refine aG ?_
     refine aE ?_
     refine tr1 rfl (sO (i := 7) (aA rfl) rfl rfl rfl vG) ?_
     refine tr1 rfl (kT (aA rfl) rfl) ?_
     refine tr1 rfl (aQ (aA rfl) rfl iP) ?_
     refine tr1 rfl (aQ (aA rfl) rfl jN) ?_
     refine tr1 rfl (aT (aA rfl) rfl (i := 0) rfl rfl bD) ?_
     refine tr1 rfl (aD (v := .d (.lit (.int .i64 0))) (aA rfl) rfl rfl) ?_
     refine aF ?_
     refine bT ?_
     refine cM [3, 5, 6, 8, 9, 11, 36] (fun (s28 : Int × (List Int) × Value) => [(12, .d (.lit s28.2.2)), (37, .d (.lit (.int .i64 s28.1)))]) (fun (s28 : Int × (List Int) × Value) => [.box b2 0 [.lit (.int .i64 player_1)], .box b3 0 [.lit (.int .i64 week_2)], .box b4 0 [.lit (.int .i64 0)], .box b5 0 [.lit (.int .i64 0)], .box b22 0 [gJ b9 0 0], .arr s28.2.2 3 1 (s28.2.1.map bR), .arr w10 42 5 (y8.Ledger.Reports.map aC), .box b9 0 [.lit (.int .i64 y8.Ledger.Players), .lit (.int .i64 y8.Ledger.Counts), .lit w10, .sl 3 (y8.Ledger.Bans.map aI), .sl 3 (y8.Ledger.Frozen.map aI)]]) (fun (k : Nat) (s28 : Int × (List Int) × Value) => nS prizes_3 y8.Ledger.Players player_1 week_2 0 0 y8.Ledger.Reports y8.Ledger.Players y8.Ledger.Counts y8.Ledger.Bans y8.Ledger.Frozen k s28.1 s28.2.1) (fun _ => rfl) (0, ([] : List Int), (.slice none 0 0)) h (aV [3, 4, 5, 6, 7, 8, 1, 0] rfl rfl (aN rfl (aN rfl (aY ⟨rfl, rfl, rfl, rfl, rfl, rfl, rfl, trivial⟩)))) ?_
     rintro k30 ⟨t37_0_28, free_0_28, w29⟩ h
     simp only [nS] at h
     refine aG ?_
     refine aE ?_
     refine tr1 rfl (bC (aA rfl) rfl rfl rfl) ?_
     refine aF ?_
     refine aG ?_
     refine bJ rfl (fun c31 => ?_) (fun c31 => ?_)
     ·have h := aS c31 h
      refine bH ?_
      refine aG ?_
      refine bT ?_
      refine aG ?_
      refine aE ?_
      refine tr1 rfl (aD (v := .d (.lit (.int .i64 t37_0_28))) (aA rfl) rfl rfl) ?_
      refine tr1 rfl (aJ (v := .d (.lit (.int .i64 t37_0_28))) (aA rfl) rfl rfl) ?_
      refine aF ?_
      refine aG ?_
      refine gN mix 7 [3, 5, 6, 8, 9, 11, 12, 13, 36, 37] [(44, .d (.sl 3 (y8.Ledger.Bans.map aI))), (45, .d (.lit (.int .i64 t37_0_28))), (46, .d (.lit (.int .i64 week_2)))] ?_ ?_
      ·refine ⟨[(40, 0, .bp b9 0 0), (41, 1, .bp b9 0 0), (42, 2, .bp b9 0 0), (43, 3, .bp b9 0 3), (44, 4, .d (.sl 3 (y8.Ledger.Bans.map aI))), (45, 5, .d (.lit (.int .i64 t37_0_28))), (46, 6, .d (.lit (.int .i64 week_2)))], ?_, ?_⟩
       · exact ⟨by kernel_rfl, by kernel_rfl, by kernel_rfl, by kernel_rfl, by kernel_rfl, [([], []), ([0], []), ([1], []), ([2], []), ([3], []), ([], []), ([], [])], by kernel_rfl, ⟨fun S hS => aK rfl (aO rfl (sO (i := 4) (aA rfl) (aH hS rfl) rfl rfl vG)),
      fun S hS => aK rfl (aO rfl (kT (aA rfl) (aH hS rfl))),
      fun S hS => aK rfl (aO rfl (aQ (aA rfl) (aH hS rfl) iP)),
      fun S hS => aK rfl (aO rfl (aQ (aA rfl) (aH hS rfl) nC)),
      fun S hS => aK rfl (aO rfl (aT (aA rfl) (aH hS rfl) (i := 7) rfl rfl kE)),
      fun S hS => aK rfl (aO rfl (aD (v := .d (.lit (.int .i64 t37_0_28))) (aA rfl) (aH hS rfl) rfl)),
      fun S hS => aK rfl (aO rfl (aT (aA rfl) (aH hS rfl) (i := 1) rfl rfl bD)), trivial⟩⟩
       · exact eC (aN rfl (aN rfl (aN rfl (aY ⟨rfl, rfl, rfl, rfl, rfl, rfl, rfl, rfl, rfl, rfl, trivial⟩))))
      ·obtain ⟨r32, h33, h⟩ := bind_some h
       refine tr1 rfl (cC (aA rfl) (.func _ _ Try.call48) rfl rfl (BVs.refl _ _) (uW _ _ _ h33) rfl) ?_
       refine tr1 rfl (fC (aA rfl) rfl) ?_
       refine aF ?_
       refine bJ rfl (fun c34 => ?_) (fun c34 => ?_)
       ·have h := aS c34 h
        refine aE ?_
        refine tr1 rfl (aD (v := .d (.lit w29)) (aA rfl) rfl rfl) ?_
        refine tr1 rfl (aD (v := .d (.lit (.int .i64 t37_0_28))) (aA rfl) rfl rfl) ?_
        refine tr1 rfl (iE (aA rfl) dO rfl rfl (rows := ([t37_0_28]).map bR) rfl (cO (f := bR) fun _ => rfl) rfl (by decide)) ?_
        obtain ⟨x35, h36, h⟩ := bind_some h
        refine bQ rfl (jJ (i := 5) (aA rfl) dO rfl rfl rfl (fun _ => rfl) h36 rfl) ?_
        rintro _ ⟨v37, rfl⟩
        refine tr1 rfl (aJ (v := .d (.lit v37)) (aA rfl) rfl rfl) ?_
        refine eD ?_
        refine aE ?_
        refine tr1 rfl (bA (aA rfl) rfl rfl rfl) ?_
        refine tr1 rfl (aD (v := .d (.lit (.int .i64 ((w64 (t37_0_28 + 1)))))) (aA rfl) rfl rfl) ?_
        refine aF ?_
        exact ⟨(w64 (t37_0_28 + 1), x35, v37), h, aV [0, 1, 2, 3, 4, 5, 6, 7] rfl rfl (aN rfl (aN rfl (aY ⟨rfl, rfl, rfl, rfl, rfl, rfl, rfl, trivial⟩)))⟩
       ·have h := aR c34 h
        refine eG ?_
        refine aE ?_
        refine tr1 rfl (bA (aA rfl) rfl rfl rfl) ?_
        refine tr1 rfl (aD (v := .d (.lit (.int .i64 ((w64 (t37_0_28 + 1)))))) (aA rfl) rfl rfl) ?_
        refine aF ?_
        exact ⟨(w64 (t37_0_28 + 1), free_0_28, w29), h, aV [0, 1, 2, 3, 4, 5, 6, 7] rfl rfl (aN rfl (aN rfl (aY ⟨rfl, rfl, rfl, rfl, rfl, rfl, rfl, trivial⟩)))⟩
     ·have h := aR c31 h
      refine cU ?_
      refine .inl ⟨rfl, ?_⟩
      simp only [wI] at h
      refine aG ?_
      refine aE ?_
      refine tr1 rfl (sO (i := 4) (aA rfl) rfl rfl rfl vG) ?_
      refine tr1 rfl (kT (aA rfl) rfl) ?_
      refine tr1 rfl (aQ (aA rfl) rfl iP) ?_
      refine tr1 rfl (aQ (aA rfl) rfl jN) ?_
      refine tr1 rfl (aT (aA rfl) rfl (i := 7) rfl rfl bD) ?_
      refine tr1 rfl (bA (aA rfl) rfl rfl rfl) ?_
      refine tr1 rfl (cB (i := 2) rfl rfl rfl rfl rfl Try.sizeOf3 rfl (aA rfl) (Nat.le_of_ble_eq_true rfl) (ds' := [.lit (.int .i64 ((w64 (y8.Ledger.Players + 1))))]) rfl) ?_
      refine tr1 rfl (cB (i := 3) rfl rfl rfl rfl rfl Try.sizeOf3 rfl (aA rfl) (Nat.le_of_ble_eq_true rfl) (ds' := [.lit (.int .i64 0)]) rfl) ?_
      refine aF ?_
      refine aG ?_
      refine aE ?_
      refine bQ rfl (gB (zs := [.lit (.bool false)]) (aA rfl) Try.zeroValue4 rfl rfl) ?_
      rintro _ ⟨b38, rfl⟩
      refine tr1 rfl (cB (i := 8) rfl rfl rfl rfl rfl Try.sizeOf4 rfl (aA rfl) (Nat.le_of_ble_eq_true rfl) (ds' := [.lit (.bool false)]) rfl) ?_
      refine aF ?_
      refine aG ?_
      refine aE ?_
      refine tr1 rfl (sO (i := 4) (aA rfl) rfl rfl rfl vG) ?_
      refine tr1 rfl (aT (aA rfl) rfl (i := 1) rfl rfl bD) ?_
      refine tr1 rfl (aD (v := .d (.sl 1 (prizes_3.map bR))) (aA rfl) rfl rfl) ?_
      refine tr1 rfl (aD (v := .d (.lit w29)) (aA rfl) rfl rfl) ?_
      refine tr1 rfl (xK (aA rfl) rfl rfl) ?_
      refine fH (aV [0, 1, 2, 3, 4, 6, 7, 8, 5] rfl rfl (le_refl _)) ?_
      refine fH (aAe [.box b2 0 [.lit (.int .i64 player_1)], .box b3 0 [.lit (.int .i64 week_2)], .box b4 0 [.lit (.int .i64 ((w64 (y8.Ledger.Players + 1))))], .box b5 0 [.lit (.int .i64 0)], .box b22 0 [gJ b9 0 0], .arr w10 42 5 (y8.Ledger.Reports.map aC), .box b9 0 [.lit (.int .i64 y8.Ledger.Players), .lit (.int .i64 y8.Ledger.Counts), .lit w10, .sl 3 (y8.Ledger.Bans.map aI), .sl 3 (y8.Ledger.Frozen.map aI)], .box b38 0 [.lit (.bool false)]] [.arr w29 3 1 (free_0_28.map bR)] rfl (fJ (k := 63) (v := .d (.sl 1 (free_0_28.map bR))) (.d (eZ 0 rfl (cO (f := bR) fun _ => rfl))) (fJ (k := 12) (v := .d (.sl 1 (free_0_28.map bR))) (.d (eZ 0 rfl (cO (f := bR) fun _ => rfl))) (qC _ _)))) ?_
      refine fH (aV [6, 0, 1, 2, 3, 4, 7, 5] rfl rfl (le_refl _)) ?_
      refine fH (aEf (ds' := (cE y8)) [.box b2 0 [.lit (.int .i64 player_1)], .box b3 0 [.lit (.int .i64 week_2)], .box b4 0 [.lit (.int .i64 ((w64 (y8.Ledger.Players + 1))))], .box b5 0 [.lit (.int .i64 0)], .box b22 0 [gJ b9 0 0], .box b38 0 [.lit (.bool false)]] [.arr w10 42 5 (y8.Ledger.Reports.map aC)] rfl (dvc (.same _) (dvc (.same _) (dvc (eZ 0 rfl (cO (f := aC) fun _ => rfl)) (dvc (.same _) (dvc (.same _) dvn))))) (qC _ _)) ?_
      obtain ⟨r39, h40, h⟩ := bind_some h
      refine fH (aV [0, 5, 1, 2, 6, 3, 4] rfl rfl (le_refl _)) ?_
      refine bQ rfl (dI (passed := [.box b9 0 (cE y8), .box b22 0 [gJ b9 0 0], .box b2 0 [.lit (.int .i64 player_1)], .box b3 0 [.lit (.int .i64 week_2)], .box b38 0 [.lit (.bool false)], .box b4 0 [.lit (.int .i64 ((w64 (y8.Ledger.Players + 1))))], .box b5 0 [.lit (.int .i64 0)]]) (aA rfl) rfl (.func _ _ Try.call49) rfl rfl (wL y8 player_1 week_2 false (w64 (y8.Ledger.Players + 1)) 0 week_2 prizes_3 free_0_28 h40)) ?_
      rintro _ ⟨_, _, ⟨rfl, rfl⟩, rfl⟩
      refine aF ?_
      refine aG ?_
      refine aG ?_
      refine aE ?_
      refine tr1 rfl (aT (aA rfl) rfl (i := 4) rfl rfl tE) ?_
      refine aF ?_
      refine bJ rfl (fun c41 => ?_) (fun c41 => ?_)
      ·have h := aS c41 h
       refine aG ?_
       refine aE ?_
       refine tr1 rfl (cB (i := 5) rfl rfl rfl rfl rfl Try.sizeOf3 rfl (aA rfl) (Nat.le_of_ble_eq_true rfl) (ds' := [.lit (.int .i64 0)]) rfl) ?_
       refine tr1 rfl (cB (i := 6) rfl rfl rfl rfl rfl Try.sizeOf3 rfl (aA rfl) (Nat.le_of_ble_eq_true rfl) (ds' := [.lit (.int .i64 0)]) rfl) ?_
       refine tr1 rfl (aJ (v := .d (.lit (.int .i64 3))) (aA rfl) rfl rfl) ?_
       refine aF ?_
       have h := Option.some.inj h
       subst h
       exact bO ⟨rfl, _, [.box b9 0 (cE r39.1), .box b22 0 [gJ b9 0 0], .box b2 0 [.lit (.int .i64 player_1)], .box b3 0 [.lit (.int .i64 week_2)], .box b38 0 [.lit (.bool r39.2.1)], .box b4 0 [.lit (.int .i64 0)], .box b5 0 [.lit (.int .i64 0)]], .three (.cell1 8 3 rfl (i := 5) rfl bD rfl) (.cell1 9 3 rfl (i := 6) rfl bD rfl) (.tmp 10 (v := .d (.lit (.int .i64 3))) rfl), .refl _, .same _⟩
      ·have h := aR c41 h
       refine bH ?_
       refine aG ?_
       refine mT mix 3 [8, 9] (fun X42 => [(68, .d (.lit (.int .i64 r39.2.2.2)))]) (fun X42 => [.box b9 0 (cE r39.1), .box b22 0 [gJ b9 0 0], .box b2 0 [.lit (.int .i64 player_1)], .box b3 0 [.lit (.int .i64 week_2)], .box b38 0 [.lit (.bool r39.2.1)], .box b4 0 [.lit (.int .i64 r39.2.2.1)], .box b5 0 [.lit (.int .i64 r39.2.2.2)]]) ?_ ?_
       ·refine ⟨0, fun X42 => [(67, 0, .d (.lit (.int .i64 r39.2.2.1))), (68, 1, .d (.lit (.int .i64 r39.2.2.2)))], fun X42 => [([], .box b9 0 (cE r39.1)), ([], .box b22 0 [gJ b9 0 0]), ([], .box b2 0 [.lit (.int .i64 player_1)]), ([], .box b3 0 [.lit (.int .i64 week_2)]), ([], .box b38 0 [.lit (.bool r39.2.1)]), ([(2, .box b4 0 [.lit (.int .i64 r39.2.2.1)])], .box b4 0 [.lit (.int .i64 r39.2.2.1)]), ([], .box b5 0 [.lit (.int .i64 r39.2.2.2)])], ?_, ?_⟩
        · exact ⟨by kernel_rfl, by kernel_rfl, by kernel_rfl, fun _ => by kernel_rfl, fun _ => by kernel_rfl, fun _ => by kernel_rfl, fun _ => rfl, [([], [2]), ([], []), ([0], [])], by kernel_rfl, ⟨fun X42 S hw hi hS => bL (X := X42) rfl (hw X42) rfl (aO rfl (aT (aA rfl) (aH hS rfl) (i := 5) (og hS rfl rfl) rfl bD)),
      fun X42 S hw hi hS => bL (X := X42) rfl (hw X42) rfl (aO rfl (aT (aA rfl) (aH hS rfl) (i := 6) (og hS rfl rfl) rfl bD)),
      fun X42 S hw hi hS => qP (X := X42) hS rfl rfl rfl (p := 5) rfl rfl (aO rfl (cB (i := 5) (aH hS rfl) (og hS rfl rfl) (aH hS rfl) rfl rfl Try.sizeOf3 rfl (aA rfl) (Nat.le_of_ble_eq_true rfl) (ds' := [.lit (.int .i64 r39.2.2.1)]) rfl)), trivial⟩⟩
        · exact fun X42 => eC (aN rfl (aY ⟨rfl, rfl, trivial⟩))
       ·intro X42
        refine tr1 rfl (cB (i := 6) rfl rfl rfl rfl rfl Try.sizeOf3 rfl (aA rfl) (Nat.le_of_ble_eq_true rfl) (ds' := [.lit (.int .i64 r39.2.2.2)]) rfl) ?_
        refine tr1 rfl (aJ (v := .d (.lit (.int .i64 0))) (aA rfl) rfl rfl) ?_
        refine aF ?_
        have h := Option.some.inj h
        subst h
        exact bO ⟨rfl, _, [.box b9 0 (cE r39.1), .box b22 0 [gJ b9 0 0], .box b2 0 [.lit (.int .i64 player_1)], .box b3 0 [.lit (.int .i64 week_2)], .box b38 0 [.lit (.bool r39.2.1)], .box b4 0 [.lit (.int .i64 r39.2.2.1)], .box b5 0 [.lit (.int .i64 r39.2.2.2)]], .three (.cell1 8 3 rfl (i := 5) rfl bD rfl) (.cell1 9 3 rfl (i := 6) rfl bD rfl) (.tmp 10 (v := .d (.lit (.int .i64 0))) rfl), .refl _, .same _⟩

theorem oQ (b_0 : bW) (player_1 : Int) (week_2 : Int) {r : Int} (h : jF b_0 player_1 week_2 = some r) : Fn Try.prog 55 [.cp (cE b_0), .d (.lit (.int .i64 player_1)), .d (.lit (.int .i64 week_2))] (.d (.lit (.int .i64 r))) := by
 unfold jF at h
 refine Fn.of_tr Try.func55 rfl (rs := [.tmp 6]) Try.results55 Try.ntmps55 (Nat.le_of_ble_eq_true rfl) ?_
 refine aG ?_
 refine aE ?_
 refine tr1 rfl (aJ (v := .d (.lit (.int .i64 0))) (aA rfl) rfl rfl) ?_
 refine aF ?_
 refine aG ?_
 refine aE ?_
 refine tr1 rfl (aD (v := .cp [.lit (.int .i64 b_0.Ledger.Players), .lit (.int .i64 b_0.Ledger.Counts), .sl 5 (b_0.Ledger.Reports.map aC), .sl 3 (b_0.Ledger.Bans.map aI), .sl 3 (b_0.Ledger.Frozen.map aI)]) (aA rfl) rfl rfl) ?_
 refine tr1 rfl (aD (v := .cp [.lit (.int .i64 b_0.Ledger.Players), .lit (.int .i64 b_0.Ledger.Counts), .sl 5 (b_0.Ledger.Reports.map aC), .sl 3 (b_0.Ledger.Bans.map aI), .sl 3 (b_0.Ledger.Frozen.map aI)]) (aA rfl) rfl rfl) ?_
 refine tr1 rfl (aD (v := .d (.lit (.int .i64 player_1))) (aA rfl) rfl rfl) ?_
 refine tr1 rfl (aD (v := .d (.lit (.int .i64 week_2))) (aA rfl) rfl rfl) ?_
 obtain ⟨r1, h2, h⟩ := bind_some h
 refine tr1 rfl (lF (aA rfl) (.func _ _ Try.call72) rfl rfl (pG _ _ _ h2)) ?_
 obtain ⟨r3, h4, h⟩ := bind_some h
 refine tr1 rfl (lF (aA rfl) (.func _ _ Try.call71) rfl rfl (pI _ _ h4)) ?_
 obtain ⟨r5, h6, h⟩ := bind_some h
 refine tr1 rfl (cC (aA rfl) (.func _ _ Try.call86) rfl rfl (BVs.refl _ _) (zT _ h6) rfl) ?_
 refine tr1 rfl (aJ (v := .d (.lit (.int .i64 r5))) (aA rfl) rfl rfl) ?_
 refine aF ?_
 have h := Option.some.inj h
 subst h
 exact bO ⟨rfl, _, .one _, rfl, rfl⟩

theorem rN (s_0 : List aB) (f_1 : aB → Option Bool) {r : Int} (f_1_f : Nat) (f_1_v : List AV) (f_1_e : ∀ args w, (callFunc f_1_f args).run Try.prog w = .ok (.enter f_1_f args) w) (f_1_h : ∀ (x0 : aB) r, f_1 x0 = some r → Fn Try.prog f_1_f ([.agg (aC x0)] ++ f_1_v) (.d (.lit (.bool r)))) (h : lB s_0 f_1 = some r) : Fn Try.prog 75 [.d (.sl 5 (s_0.map aC)), .fn f_1_f f_1_v] (.d (.lit (.int .i64 r))) := by
 unfold lB at h
 refine Fn.of_tr Try.func75 rfl (rs := [.tmp 4]) Try.results75 Try.ntmps75 (Nat.le_of_ble_eq_true rfl) ?_
 refine aG ?_
 refine aE ?_
 refine tr1 rfl (aJ (v := .d (.lit (.int .i64 0))) (aA rfl) rfl rfl) ?_
 refine aF ?_
 refine aG ?_
 refine aG ?_
 refine aE ?_
 refine tr1 rfl (aD (v := .d (.sl 5 (s_0.map aC))) (aA rfl) rfl rfl) ?_
 refine tr1 rfl (dW (aA rfl) rfl cD.of) ?_
 refine tr1 rfl (aD (v := .d (.lit (.int .i64 0))) (aA rfl) rfl rfl) ?_
 refine aF ?_
 refine bT ?_
 refine cM [0, 1, 7] (fun (s1 : Int) => [(8, .d (.lit (.int .i64 s1)))]) (fun (s1 : Int) => []) (fun (k : Nat) (s1 : Int) => hG s_0 f_1 (s_0.length : Int) k s1) (fun _ => rfl) (0) h (aV [] rfl rfl (aN rfl (aY ⟨rfl, rfl, rfl, trivial⟩))) ?_
 rintro k2 t8_0_1 h
 simp only [hG] at h
 refine aG ?_
 refine aE ?_
 refine tr1 rfl (bC (aA rfl) rfl rfl rfl) ?_
 refine aF ?_
 refine aG ?_
 refine bJ rfl (fun c3 => ?_) (fun c3 => ?_)
 ·have h := aS c3 h
  refine bH ?_
  refine aG ?_
  refine bT ?_
  refine aG ?_
  refine aE ?_
  refine tr1 rfl (aD (v := .d (.lit (.int .i64 t8_0_1))) (aA rfl) rfl rfl) ?_
  refine tr1 rfl (aJ (v := .d (.lit (.int .i64 t8_0_1))) (aA rfl) rfl rfl) ?_
  refine aF ?_
  refine aG ?_
  refine aE ?_
  refine tr1 rfl (aD (v := .fn f_1_f f_1_v) (aA rfl) rfl rfl) ?_
  refine tr1 rfl (aD (v := .d (.sl 5 (s_0.map aC))) (aA rfl) rfl rfl) ?_
  refine tr1 rfl (aD (v := .d (.lit (.int .i64 t8_0_1))) (aA rfl) rfl rfl) ?_
  obtain ⟨x4, h5, h⟩ := bind_some h
  refine tr1 rfl (cA (aA rfl) rfl rfl cD.of (bP aC h5)) ?_
  refine tr1 rfl (fS (aA rfl) rfl eB (es := (aC x4)) rfl rfl) ?_
  obtain ⟨r6, h7, h⟩ := bind_some h
  refine tr1 rfl (cC (aA rfl) (.clo _ _ _ _ f_1_e rfl) (tR rfl) rfl (BVs.refl _ _) (f_1_h _ _  h7) rfl) ?_
  refine aF ?_
  refine bJ rfl (fun c8 => ?_) (fun c8 => ?_)
  ·have h := aS c8 h
   refine aG ?_
   refine aE ?_
   refine tr1 rfl (aD (v := .d (.lit (.int .i64 t8_0_1))) (aA rfl) rfl rfl) ?_
   refine tr1 rfl (aJ (v := .d (.lit (.int .i64 t8_0_1))) (aA rfl) rfl rfl) ?_
   refine aF ?_
   have h := Option.some.inj h
   subst h
   exact bO ⟨rfl, _, .one _, rfl, rfl⟩
  ·have h := aR c8 h
   refine eG ?_
   refine aE ?_
   refine tr1 rfl (bA (aA rfl) rfl rfl rfl) ?_
   refine tr1 rfl (aD (v := .d (.lit (.int .i64 ((w64 (t8_0_1 + 1)))))) (aA rfl) rfl rfl) ?_
   refine aF ?_
   exact ⟨(w64 (t8_0_1 + 1)), h, aV [] rfl rfl (aN rfl (aY ⟨rfl, rfl, rfl, trivial⟩))⟩
 ·have h := aR c3 h
  refine cU ?_
  refine .inl ⟨rfl, ?_⟩
  simp only [mR] at h
  refine aG ?_
  refine aE ?_
  refine tr1 rfl (aJ (v := .d (.lit (.int .i64 (-1)))) (aA rfl) rfl rfl) ?_
  refine aF ?_
  have h := Option.some.inj h
  subst h
  exact bO ⟨rfl, _, .one _, rfl, rfl⟩

theorem rJ (s_0 : List aB) (del_1 : aB → Option Bool) {r : (List aB)} {s_0_v : Value} (del_1_f : Nat) (del_1_v : List AV) (del_1_e : ∀ args w, (callFunc del_1_f args).run Try.prog w = .ok (.enter del_1_f args) w) (del_1_h : ∀ (x0 : aB) r, del_1 x0 = some r → Fn Try.prog del_1_f ([.agg (aC x0)] ++ del_1_v) (.d (.lit (.bool r)))) (h : kP s_0 del_1 = some r) : fI Try.prog 56 [.d (.lit s_0_v), .fn del_1_f del_1_v] [.arr s_0_v 42 5 (s_0.map aC)] (fun r' o' => ∃ w0 : Value, r' = .d (.lit w0) ∧ o' = [.arr w0 42 5 (r.map aC)]) := by
 unfold kP at h
 refine lM Try.func56 rfl (rs := [.tmp 4]) Try.results56 Try.ntmps56 (Nat.le_of_ble_eq_true rfl) ?_
 refine aG ?_
 refine aE ?_
 refine tr1 rfl (gV 42 5 (.inl rfl) (aA rfl)) ?_
 refine aF ?_
 refine aG ?_
 refine aE ?_
 refine tr1 rfl (aD (v := .d (.lit s_0_v)) (aA rfl) rfl rfl) ?_
 refine tr1 rfl (aD (v := .fn del_1_f del_1_v) (aA rfl) rfl rfl) ?_
 obtain ⟨r2, h3, h⟩ := bind_some h
 refine tr1 rfl (cC (aA rfl) (.func _ _ Try.call75) rfl rfl (.cons (.d (eZ 0 rfl (cO (f := aC) fun _ => rfl))) (.cons (.same _) .nil)) (rN _ _ del_1_f del_1_v del_1_e del_1_h h3) rfl) ?_
 refine tr1 rfl (aJ (v := .d (.lit (.int .i64 r2))) (aA rfl) rfl rfl) ?_
 refine aF ?_
 refine aG ?_
 refine aG ?_
 refine aE ?_
 refine tr1 rfl (aD (v := .d (.lit (.int .i64 r2))) (aA rfl) rfl rfl) ?_
 refine tr1 rfl (bC (aA rfl) rfl rfl rfl) ?_
 refine aF ?_
 refine bJ rfl (fun c4 => ?_) (fun c4 => ?_)
 ·have h := aS c4 h
  refine aG ?_
  refine aE ?_
  refine tr1 rfl (aD (v := .d (.lit s_0_v)) (aA rfl) rfl rfl) ?_
  refine tr1 rfl (aJ (v := .d (.lit s_0_v)) (aA rfl) rfl rfl) ?_
  refine aF ?_
  have h := Option.some.inj h
  subst h
  exact bO ⟨rfl, _, [.arr s_0_v 42 5 (s_0.map aC)], [.arr (.slice none 0 0) 42 5 (([] : List aB).map aC)], _, .one (.tmp 4 (v := .d (.lit s_0_v)) rfl), .refl _, .same _, s_0_v, rfl, rfl⟩
 ·have h := aR c4 h
  refine bH ?_
  refine aG ?_
  refine aG ?_
  refine aE ?_
  refine tr1 rfl (aD (v := .d (.lit (.int .i64 r2))) (aA rfl) rfl rfl) ?_
  refine tr1 rfl (bA (aA rfl) rfl rfl rfl) ?_
  refine tr1 rfl (aJ (v := .d (.lit (.int .i64 ((w64 (r2 + 1)))))) (aA rfl) rfl rfl) ?_
  refine aF ?_
  refine bT ?_
  refine cM [1] (fun (s5 : Int × Int × (List aB)) => [(0, .d (.lit s_0_v)), (5, .d (.lit (.int .i64 s5.1))), (6, .d (.lit (.int .i64 s5.2.1)))]) (fun (s5 : Int × Int × (List aB)) => [.arr s_0_v 42 5 (s5.2.2.map aC)]) (fun (k : Nat) (s5 : Int × Int × (List aB)) => fM del_1 k s5.1 s5.2.1 s5.2.2) (fun _ => rfl) (r2, w64 (r2 + 1), s_0) h (aV [0] rfl rfl (aN rfl (aN rfl (aN rfl (aY ⟨rfl, trivial⟩))))) ?_
  rintro k6 ⟨i_0_5, j_0_5, s_0_5⟩ h
  simp only [fM] at h
  refine aG ?_
  refine aG ?_
  refine aE ?_
  refine tr1 rfl (aD (v := .d (.lit (.int .i64 j_0_5))) (aA rfl) rfl rfl) ?_
  refine tr1 rfl (aD (v := .d (.lit s_0_v)) (aA rfl) rfl rfl) ?_
  refine tr1 rfl (lO (m := 0) (aA rfl) rfl rfl cD.of) ?_
  refine tr1 rfl (bC (aA rfl) rfl rfl rfl) ?_
  refine aF ?_
  refine bJ rfl (fun c7 => ?_) (fun c7 => ?_)
  ·have h := aS c7 h
   refine bH ?_
   refine aG ?_
   refine bT ?_
   refine aG ?_
   refine aE ?_
   refine tr1 rfl (aD (v := .d (.lit s_0_v)) (aA rfl) rfl rfl) ?_
   refine tr1 rfl (aD (v := .d (.lit (.int .i64 j_0_5))) (aA rfl) rfl rfl) ?_
   obtain ⟨x8, h9, h⟩ := bind_some h
   refine tr1 rfl (cH (m := 0) (aA rfl) rfl rfl rfl cD.of (bP aC h9)) ?_
   refine tr1 rfl (dF (aA rfl) rfl (l := 0) rfl (dX aC h9) eB (es := (aC x8)) rfl rfl) ?_
   refine bQ rfl (gB (zs := [.lit (.int .i64 0), .lit (.int .i64 0), .lit (.int .i64 0), .lit (.int .i64 0), .lit (.bool false)]) (aA rfl) Try.zeroValue42 rfl rfl) ?_
   rintro _ ⟨b10, rfl⟩
   refine tr1 rfl (cB (i := 1) rfl rfl rfl rfl rfl Try.sizeOf42 rfl (aA rfl) (Nat.le_of_ble_eq_true rfl) (ds' := (aC x8)) rfl) ?_
   refine aF ?_
   refine aG ?_
   refine aE ?_
   refine tr1 rfl (aD (v := .fn del_1_f del_1_v) (aA rfl) rfl rfl) ?_
   refine tr1 rfl (cY (aA rfl) rfl (i := 1) rfl eB (es := (aC x8)) rfl rfl) ?_
   obtain ⟨r11, h12, h⟩ := bind_some h
   refine tr1 rfl (cC (aA rfl) (.clo _ _ _ _ del_1_e rfl) (tR rfl) rfl (BVs.refl _ _) (del_1_h _ _  h12) rfl) ?_
   refine tr1 rfl (fC (aA rfl) rfl) ?_
   refine aF ?_
   refine bJ rfl (fun c13 => ?_) (fun c13 => ?_)
   ·have h := aS c13 h
    refine aG ?_
    refine aE ?_
    refine tr1 rfl (aD (v := .d (.lit s_0_v)) (aA rfl) rfl rfl) ?_
    refine tr1 rfl (aD (v := .d (.lit (.int .i64 i_0_5))) (aA rfl) rfl rfl) ?_
    refine tr1 rfl (cY (aA rfl) rfl (i := 1) rfl eB (es := (aC x8)) rfl rfl) ?_
    obtain ⟨x14, h15, h⟩ := bind_some h
    refine tr1 rfl (cH (m := 0) (aA rfl) rfl rfl rfl cD.of (bP aC h15)) ?_
    refine tr1 rfl (jD (l := 0) rfl rfl (dX aC h15) rfl rfl rfl Try.sizeOf42 rfl (aA rfl) (Nat.le_of_ble_eq_true rfl) (rows' := ((s_0_5.set i_0_5.toNat x8)).map aC) (mJ _ _ _ _ rfl)) ?_
    refine aF ?_
    refine aE ?_
    refine tr1 rfl (aD (v := .d (.lit (.int .i64 i_0_5))) (aA rfl) rfl rfl) ?_
    refine tr1 rfl (bA (aA rfl) rfl rfl rfl) ?_
    refine tr1 rfl (aJ (v := .d (.lit (.int .i64 ((w64 (i_0_5 + 1)))))) (aA rfl) rfl rfl) ?_
    refine eD ?_
    refine aE ?_
    refine tr1 rfl (aD (v := .d (.lit (.int .i64 j_0_5))) (aA rfl) rfl rfl) ?_
    refine tr1 rfl (bA (aA rfl) rfl rfl rfl) ?_
    refine tr1 rfl (aJ (v := .d (.lit (.int .i64 ((w64 (j_0_5 + 1)))))) (aA rfl) rfl rfl) ?_
    refine aF ?_
    exact ⟨(w64 (i_0_5 + 1), w64 (j_0_5 + 1), (s_0_5.set i_0_5.toNat x8)), h, aV [0] rfl rfl (aN rfl (aN rfl (aN rfl (aY ⟨rfl, trivial⟩))))⟩
   ·have h := aR c13 h
    refine eG ?_
    refine aE ?_
    refine tr1 rfl (aD (v := .d (.lit (.int .i64 j_0_5))) (aA rfl) rfl rfl) ?_
    refine tr1 rfl (bA (aA rfl) rfl rfl rfl) ?_
    refine tr1 rfl (aJ (v := .d (.lit (.int .i64 ((w64 (j_0_5 + 1)))))) (aA rfl) rfl rfl) ?_
    refine aF ?_
    exact ⟨(i_0_5, w64 (j_0_5 + 1), s_0_5), h, aV [0] rfl rfl (aN rfl (aN rfl (aN rfl (aY ⟨rfl, trivial⟩))))⟩
  ·have h := aR c7 h
   refine cU ?_
   refine .inl ⟨rfl, ?_⟩
   simp only [mF] at h
   refine aG ?_
   refine aE ?_
   refine tr1 rfl (aD (v := .d (.lit s_0_v)) (aA rfl) rfl rfl) ?_
   refine tr1 rfl (aD (v := .d (.lit (.int .i64 i_0_5))) (aA rfl) rfl rfl) ?_
   obtain ⟨u16, h17, h⟩ := bind_some h
   refine tr1 rfl (uG (m := 0) (aA rfl) rfl rfl rfl cD.of h17) ?_
   obtain ⟨u18, h19, h⟩ := bind_some h
   refine tr1 rfl (aCs (f := aC) (m := 0) cD rfl rfl h19 (by decide)) ?_
   refine aF ?_
   refine aG ?_
   refine aE ?_
   refine tr1 rfl (aD (v := .d (.lit s_0_v)) (aA rfl) rfl rfl) ?_
   refine tr1 rfl (aD (v := .d (.lit (.int .i64 i_0_5))) (aA rfl) rfl rfl) ?_
   obtain ⟨u20, h21, h⟩ := bind_some h
   refine tr1 rfl (rG (m := 0) (q := i_0_5.toNat) (v := s_0_v) (aA rfl) rfl rfl rfl rfl (zG h21) cD.of) ?_
   refine tr1 rfl (aJ (v := .d (.lit (gC s_0_v i_0_5.toNat))) (aA rfl) rfl rfl) ?_
   refine aF ?_
   have h := Option.some.inj h
   subst h
   exact bO ⟨rfl, _, [.arr (gC s_0_v i_0_5.toNat) 42 5 ((s_0_5.take i_0_5.toNat).map aC)], [], _, .one (.tmp 4 (v := .d (.lit (gC s_0_v i_0_5.toNat))) rfl), .refl _, .same _, (gC s_0_v i_0_5.toNat), rfl, rfl⟩

theorem zA (r_0 : aB) (c_1 : Int) {r : Bool} (h : oY r_0 c_1 = some r) : Fn Try.prog 57 [.agg (aC r_0), .cp [.lit (.int .i64 c_1)]] (.d (.lit (.bool r))) := by
 unfold oY at h
 refine Fn.of_tr Try.func57 rfl (rs := [.tmp 3]) Try.results57 Try.ntmps57 (Nat.le_of_ble_eq_true rfl) ?_
 refine aG ?_
 refine aE ?_
 refine bQ rfl (fN (v := .agg (aC r_0)) (aA rfl) rfl rfl rfl) ?_
 rintro _ ⟨b1, rfl⟩
 refine tr1 rfl (aJ (v := .d (.lit (.bool false))) (aA rfl) rfl rfl) ?_
 refine aF ?_
 refine aG ?_
 refine aE ?_
 refine tr1 rfl (aQ (aA rfl) rfl kJ) ?_
 refine tr1 rfl (aT (aA rfl) rfl (i := 0) rfl rfl bD) ?_
 refine tr1 rfl (cL (aA rfl) rfl bD) ?_
 refine tr1 rfl (bC (aA rfl) rfl rfl rfl) ?_
 refine tr1 rfl (aJ (v := .d (.lit (.bool ((decide (c_1 < r_0.Week)))))) (aA rfl) rfl rfl) ?_
 refine aF ?_
 have h := Option.some.inj h
 subst h
 refine cR (cG (cK (l := [3]) ⟨rfl, trivial⟩)) ?_
 exact bO ⟨rfl, _, .one _, rfl, rfl⟩

theorem aAi (l_0 : aM) (player_1 : Int) (week_2 : Int) {r : Int × Int} (h : tW l_0 player_1 week_2 = some r) : Fn Try.prog 21 [.agg (aX l_0), .d (.lit (.int .i64 player_1)), .d (.lit (.int .i64 week_2))] (.tup [.d (.lit (.int .i64 r.1)), .d (.lit (.int .i64 r.2))]) := by
 unfold tW at h
 refine Fn.of_tr Try.func21 rfl (rs := [.tmp 6, .tmp 7]) Try.results21 Try.ntmps21 (Nat.le_of_ble_eq_true rfl) ?_
 refine aG ?_
 refine aE ?_
 refine bQ rfl (fN (v := .agg (aX l_0)) (aA rfl) rfl rfl rfl) ?_
 rintro _ ⟨b1, rfl⟩
 refine bQ rfl (fN (v := .d (.lit (.int .i64 week_2))) (aA rfl) rfl rfl rfl) ?_
 rintro _ ⟨b2, rfl⟩
 refine tr1 rfl (aJ (v := .d (.lit (.int .i64 0))) (aA rfl) rfl rfl) ?_
 refine tr1 rfl (aJ (v := .d (.lit (.int .i64 0))) (aA rfl) rfl rfl) ?_
 refine aF ?_
 refine aG ?_
 refine aE ?_
 refine tr1 rfl (cY (aA rfl) rfl (i := 0) rfl fL (es := (aX l_0)) rfl rfl) ?_
 refine tr1 rfl (aD (v := .d (.lit (.int .i64 player_1))) (aA rfl) rfl rfl) ?_
 refine tr1 rfl (aT (aA rfl) rfl (i := 1) rfl rfl bD) ?_
 obtain ⟨r3, h4, h⟩ := bind_some h
 refine bQ rfl (dI (passed := []) (aA rfl) rfl (.func _ _ Try.call44) rfl rfl (rC _ _ _ h4)) ?_
 rintro _ ⟨_, _, ⟨b6, w7, rfl, rfl⟩, rfl⟩
 obtain ⟨_ | y5, e8⟩ := r3
 ·have h := vH h
  refine fH (aV [0, 1] rfl rfl (le_refl _)) ?_
  refine tr1 rfl (aD (v := .tup [.d (.lit (.pointer none)), .d (.lit (.int .i64 e8))]) (aA rfl) rfl rfl) ?_
  refine tr1 rfl (cN (aA rfl) rfl rfl) ?_
  refine tr1 rfl (cN (aA rfl) rfl rfl) ?_
  refine tr1 rfl (aJ (v := .d (.lit (.pointer none))) (aA rfl) rfl rfl) ?_
  refine tr1 rfl (aJ (v := .d (.lit (.int .i64 e8))) (aA rfl) rfl rfl) ?_
  refine aF ?_
  refine aG ?_
  refine aG ?_
  refine aE ?_
  refine tr1 rfl (aD (v := .d (.lit (.int .i64 e8))) (aA rfl) rfl rfl) ?_
  refine tr1 rfl (bC (aA rfl) rfl rfl rfl) ?_
  refine aF ?_
  refine bJ rfl (fun c9 => ?_) (fun c9 => ?_)
  ·have h := aS c9 h
   refine aG ?_
   refine aE ?_
   refine tr1 rfl (aD (v := .d (.lit (.int .i64 e8))) (aA rfl) rfl rfl) ?_
   refine tr1 rfl (aJ (v := .d (.lit (.int .i64 0))) (aA rfl) rfl rfl) ?_
   refine tr1 rfl (aJ (v := .d (.lit (.int .i64 e8))) (aA rfl) rfl rfl) ?_
   refine aF ?_
   have h := Option.some.inj h
   subst h
   refine cR (cG (cK (l := [6, 7]) ⟨rfl, rfl, trivial⟩)) ?_
   exact bO ⟨rfl, _, .two _ _, rfl, rfl⟩
  ·have h := aR c9 h
   refine bH ?_
   refine aG ?_
   refine aG ?_
   refine aE ?_
   refine tr1 rfl (aT (aA rfl) rfl (i := 1) rfl rfl bD) ?_
   refine tr1 rfl (bC (aA rfl) rfl rfl rfl) ?_
   refine aF ?_
   refine bJ rfl (fun c10 => ?_) (fun c10 => ?_)
   ·have h := aS c10 h
    refine aG ?_
    refine aE ?_
    refine tr1 rfl (aJ (v := .d (.lit (.int .i64 0))) (aA rfl) rfl rfl) ?_
    refine tr1 rfl (aJ (v := .d (.lit (.int .i64 1))) (aA rfl) rfl rfl) ?_
    refine aF ?_
    have h := Option.some.inj h
    subst h
    refine cR (cG (cK (l := [6, 7]) ⟨rfl, rfl, trivial⟩)) ?_
    exact bO ⟨rfl, _, .two _ _, rfl, rfl⟩
   ·have h := aR c10 h
    refine bH ?_
    refine aG ?_
    refine aE ?_
    refine tr1 rfl (aD (v := .d (.lit (.pointer none))) (aA rfl) rfl rfl) ?_
    refine tr1 rfl (aD (v := .d (.lit (.int .i64 player_1))) (aA rfl) rfl rfl) ?_
    refine tr1 rfl (aT (aA rfl) rfl (i := 1) rfl rfl bD) ?_
    cases h
 ·have h := vI h
  refine fH (aV [0, 1, 2, 3] rfl rfl (le_refl _)) ?_
  refine tr1 rfl (aD (v := .tup [.bp b6 0 0, .d (.lit (.int .i64 e8))]) (aA rfl) rfl rfl) ?_
  refine tr1 rfl (cN (aA rfl) rfl rfl) ?_
  refine tr1 rfl (cN (aA rfl) rfl rfl) ?_
  refine tr1 rfl (aJ (v := .bp b6 0 0) (aA rfl) rfl rfl) ?_
  refine tr1 rfl (aJ (v := .d (.lit (.int .i64 e8))) (aA rfl) rfl rfl) ?_
  refine aF ?_
  refine aG ?_
  refine aG ?_
  refine aE ?_
  refine tr1 rfl (aD (v := .d (.lit (.int .i64 e8))) (aA rfl) rfl rfl) ?_
  refine tr1 rfl (bC (aA rfl) rfl rfl rfl) ?_
  refine aF ?_
  refine bJ rfl (fun c11 => ?_) (fun c11 => ?_)
  ·have h := aS c11 h
   refine aG ?_
   refine aE ?_
   refine tr1 rfl (aD (v := .d (.lit (.int .i64 e8))) (aA rfl) rfl rfl) ?_
   refine tr1 rfl (aJ (v := .d (.lit (.int .i64 0))) (aA rfl) rfl rfl) ?_
   refine tr1 rfl (aJ (v := .d (.lit (.int .i64 e8))) (aA rfl) rfl rfl) ?_
   refine aF ?_
   have h := Option.some.inj h
   subst h
   refine cR (cG (cK (l := [6, 7]) ⟨rfl, rfl, trivial⟩)) ?_
   exact bO ⟨rfl, _, .two _ _, rfl, rfl⟩
  ·have h := aR c11 h
   refine bH ?_
   refine aG ?_
   refine aG ?_
   refine aE ?_
   refine tr1 rfl (aT (aA rfl) rfl (i := 3) rfl rfl bD) ?_
   refine tr1 rfl (bC (aA rfl) rfl rfl rfl) ?_
   refine aF ?_
   refine bJ rfl (fun c12 => ?_) (fun c12 => ?_)
   ·have h := aS c12 h
    refine aG ?_
    refine aE ?_
    refine tr1 rfl (aJ (v := .d (.lit (.int .i64 0))) (aA rfl) rfl rfl) ?_
    refine tr1 rfl (aJ (v := .d (.lit (.int .i64 1))) (aA rfl) rfl rfl) ?_
    refine aF ?_
    have h := Option.some.inj h
    subst h
    refine cR (cG (cK (l := [6, 7]) ⟨rfl, rfl, trivial⟩)) ?_
    exact bO ⟨rfl, _, .two _ _, rfl, rfl⟩
   ·have h := aR c12 h
    refine bH ?_
    refine aG ?_
    refine aE ?_
    refine tr1 rfl (aD (v := .bp b6 0 0) (aA rfl) rfl rfl) ?_
    refine tr1 rfl (aD (v := .d (.lit (.int .i64 player_1))) (aA rfl) rfl rfl) ?_
    refine tr1 rfl (aT (aA rfl) rfl (i := 3) rfl rfl bD) ?_
    obtain ⟨r13, h14, h⟩ := bind_some h
    refine tr1 rfl (cC (aA rfl) (.func _ _ Try.call55) rfl rfl (.cons ((mC 0 rfl rfl (dvc (.same _) (dvc (.same _) (dvc (eZ 1 rfl (cO (f := aC) fun _ => rfl)) (dvc (.same _) (dvc (.same _) dvn))))))) (.cons (.same _) (.cons (.same _) .nil))) (oQ _ _ _ h14) rfl) ?_
    refine tr1 rfl (aJ (v := .d (.lit (.int .i64 r13))) (aA rfl) rfl rfl) ?_
    refine aF ?_
    refine aG ?_
    refine aE ?_
    refine tr1 rfl (aD (v := .bp b6 0 0) (aA rfl) rfl rfl) ?_
    refine tr1 rfl (aD (v := .bp b6 0 0) (aA rfl) rfl rfl) ?_
    refine tr1 rfl (kT (aA rfl) rfl) ?_
    refine tr1 rfl (aQ (aA rfl) rfl iP) ?_
    refine tr1 rfl (aQ (aA rfl) rfl eR) ?_
    refine tr1 rfl (aT (aA rfl) rfl (i := 0) rfl rfl jI) ?_
    refine tr1 rfl (xK (aA rfl) rfl rfl) ?_
    apply xW [.box b6 0 [.lit (.int .i64 y5.Ledger.Players), .lit (.int .i64 y5.Ledger.Counts), .lit w7, .sl 3 (y5.Ledger.Bans.map aI), .sl 3 (y5.Ledger.Frozen.map aI)], .arr w7 42 5 (y5.Ledger.Reports.map aC), .box b1 0 (aX l_0)] [.box b2 0 [.lit (.int .i64 week_2)]] rfl
    exact fJ (k := 33) (v := .fn 57 [.cp [.lit (.int .i64 week_2)]]) ((aBm (.cons ((mC 0 rfl rfl (dvc (.same _) dvn))) .nil))) (fJ (k := 5) (v := .cp [.lit (.int .i64 week_2)]) ((mC 0 rfl rfl (dvc (.same _) dvn))) (qC _ _))
    obtain ⟨r16, h17, h⟩ := bind_some h
    refine fH (aV [1, 0, 2] rfl rfl (le_refl _)) ?_
    refine bQ rfl (dI (passed := [.arr w7 42 5 (y5.Ledger.Reports.map aC)]) (aA rfl) rfl (.func _ _ Try.call56) rfl rfl (rJ y5.Ledger.Reports (fun y15 => oY y15 week_2) 57 [.cp [.lit (.int .i64 week_2)]] Try.call57 (fun _ _ h => zA _ _ h) h17)) ?_
    rintro _ ⟨_, _, ⟨v18, rfl, rfl⟩, rfl⟩
    refine tr1 rfl (kT (aA rfl) rfl) ?_
    refine tr1 rfl (aQ (aA rfl) rfl iP) ?_
    refine tr1 rfl (aQ (aA rfl) rfl eR) ?_
    refine tr1 rfl (cB (i := 1) rfl rfl rfl rfl rfl Try.sizeOf22 rfl (aA rfl) (Nat.le_of_ble_eq_true rfl) (ds' := [.lit (.int .i64 y5.Ledger.Players), .lit (.int .i64 y5.Ledger.Counts), .lit v18, .sl 3 (y5.Ledger.Bans.map aI), .sl 3 (y5.Ledger.Frozen.map aI)]) rfl) ?_
    refine aF ?_
    refine aG ?_
    refine aE ?_
    refine tr1 rfl (aD (v := .d (.lit (.int .i64 r13))) (aA rfl) rfl rfl) ?_
    refine tr1 rfl (aD (v := .bp b6 0 0) (aA rfl) rfl rfl) ?_
    refine tr1 rfl (aD (v := .d (.lit (.int .i64 player_1))) (aA rfl) rfl rfl) ?_
    refine tr1 rfl (cL (aA rfl) rfl bD) ?_
    refine tr1 rfl (bA (aA rfl) rfl rfl rfl) ?_
    obtain ⟨r19, h20, h⟩ := bind_some h
    refine tr1 rfl (cC (aA rfl) (.func _ _ Try.call55) rfl rfl (.cons ((mC 1 rfl rfl (dvc (.same _) (dvc (.same _) (dvc (eZ 0 rfl (cO (f := aC) fun _ => rfl)) (dvc (.same _) (dvc (.same _) dvn))))))) (.cons (.same _) (.cons (.same _) .nil))) (oQ _ _ _ h20) rfl) ?_
    refine tr1 rfl (bA (aA rfl) rfl rfl rfl) ?_
    refine tr1 rfl (aJ (v := .d (.lit (.int .i64 ((w64 (r13 - r19)))))) (aA rfl) rfl rfl) ?_
    refine tr1 rfl (aJ (v := .d (.lit (.int .i64 0))) (aA rfl) rfl rfl) ?_
    refine aF ?_
    have h := Option.some.inj h
    subst h
    refine cR (cG (cK (l := [6, 7]) ⟨rfl, rfl, trivial⟩)) ?_
    exact bO ⟨rfl, _, .two _ _, rfl, rfl⟩

theorem qN (a_0 : List Int) (b_1 : List Int) {r : Bool} (h : iV a_0 b_1 = some r) : Fn Try.prog 32 [.d (.sl 1 (a_0.map bR)), .d (.sl 1 (b_1.map bR))] (.d (.lit (.bool r))) := by
 unfold iV at h
 refine Fn.of_tr Try.func32 rfl (rs := [.tmp 4]) Try.results32 Try.ntmps32 (Nat.le_of_ble_eq_true rfl) ?_
 refine aG ?_
 refine aE ?_
 refine tr1 rfl (aJ (v := .d (.lit (.bool false))) (aA rfl) rfl rfl) ?_
 refine aF ?_
 refine aG ?_
 refine aG ?_
 refine aE ?_
 refine tr1 rfl (aD (v := .d (.sl 1 (a_0.map bR))) (aA rfl) rfl rfl) ?_
 refine tr1 rfl (dW (aA rfl) rfl dO.of) ?_
 refine tr1 rfl (aD (v := .d (.sl 1 (b_1.map bR))) (aA rfl) rfl rfl) ?_
 refine tr1 rfl (dW (aA rfl) rfl dO.of) ?_
 refine tr1 rfl (bC (aA rfl) rfl rfl rfl) ?_
 refine aF ?_
 refine bJ rfl (fun c1 => ?_) (fun c1 => ?_)
 ·have h := aS c1 h
  refine aG ?_
  refine aE ?_
  refine tr1 rfl (aJ (v := .d (.lit (.bool false))) (aA rfl) rfl rfl) ?_
  refine aF ?_
  have h := Option.some.inj h
  subst h
  exact bO ⟨rfl, _, .one _, rfl, rfl⟩
 ·have h := aR c1 h
  refine bH ?_
  refine aG ?_
  refine aG ?_
  refine aE ?_
  refine tr1 rfl (aJ (v := .d (.lit (.int .i64 0))) (aA rfl) rfl rfl) ?_
  refine aF ?_
  refine bT ?_
  refine cM [0, 1] (fun (s2 : Int) => [(5, .d (.lit (.int .i64 s2)))]) (fun (s2 : Int) => []) (fun (k : Nat) (s2 : Int) => fW a_0 b_1 k s2) (fun _ => rfl) (0) h (aV [] rfl rfl (aN rfl (aY ⟨rfl, rfl, trivial⟩))) ?_
  rintro k3 i_0_2 h
  simp only [fW] at h
  refine aG ?_
  refine aG ?_
  refine aE ?_
  refine tr1 rfl (aD (v := .d (.lit (.int .i64 i_0_2))) (aA rfl) rfl rfl) ?_
  refine tr1 rfl (aD (v := .d (.sl 1 (a_0.map bR))) (aA rfl) rfl rfl) ?_
  refine tr1 rfl (dW (aA rfl) rfl dO.of) ?_
  refine tr1 rfl (bC (aA rfl) rfl rfl rfl) ?_
  refine aF ?_
  refine bJ rfl (fun c4 => ?_) (fun c4 => ?_)
  ·have h := aS c4 h
   refine bH ?_
   refine aG ?_
   refine bT ?_
   refine aG ?_
   obtain ⟨x5, h6, h⟩ := bind_some h
   obtain ⟨x7, h8, h⟩ := bind_some h
   refine gN mix 8 [0, 1, 5] [(20, .d (.lit (.int .i64 x5))), (24, .d (.lit (.int .i64 x7)))] ?_ ?_
   ·refine ⟨[(17, 0, .d (.sl 1 (a_0.map bR))), (18, 1, .d (.lit (.int .i64 i_0_2))), (19, 2, .cp [.lit (.int .i64 x5)]), (20, 3, .d (.lit (.int .i64 x5))), (21, 4, .d (.sl 1 (b_1.map bR))), (22, 5, .d (.lit (.int .i64 i_0_2))), (23, 6, .cp [.lit (.int .i64 x7)]), (24, 7, .d (.lit (.int .i64 x7)))], ?_, ?_⟩
    · exact ⟨by kernel_rfl, by kernel_rfl, by kernel_rfl, by kernel_rfl, by kernel_rfl, [([], []), ([], []), ([0, 1], []), ([2], []), ([], []), ([], []), ([4, 5], []), ([6], [])], by kernel_rfl, ⟨fun S hS => aK rfl (aO rfl (aD (v := .d (.sl 1 (a_0.map bR))) (aA rfl) (aH hS rfl) rfl)),
      fun S hS => aK rfl (aO rfl (aD (v := .d (.lit (.int .i64 i_0_2))) (aA rfl) (aH hS rfl) rfl)),
      fun S hS => aK rfl (aO rfl (cA (aA rfl) (aH hS rfl) (aH hS rfl) dO.of (bP bR h6))),
      fun S hS => aK rfl (aO rfl (cL (aA rfl) (aH hS rfl) bD)),
      fun S hS => aK rfl (aO rfl (aD (v := .d (.sl 1 (b_1.map bR))) (aA rfl) (aH hS rfl) rfl)),
      fun S hS => aK rfl (aO rfl (aD (v := .d (.lit (.int .i64 i_0_2))) (aA rfl) (aH hS rfl) rfl)),
      fun S hS => aK rfl (aO rfl (cA (aA rfl) (aH hS rfl) (aH hS rfl) dO.of (bP bR h8))),
      fun S hS => aK rfl (aO rfl (cL (aA rfl) (aH hS rfl) bD)), trivial⟩⟩
    · exact eC (aN rfl (aN rfl (aY ⟨rfl, rfl, rfl, trivial⟩)))
   ·refine tr1 rfl (bC (aA rfl) rfl rfl rfl) ?_
    refine aF ?_
    refine bJ rfl (fun c9 => ?_) (fun c9 => ?_)
    ·have h := aS c9 h
     refine aG ?_
     refine aE ?_
     refine tr1 rfl (aJ (v := .d (.lit (.bool false))) (aA rfl) rfl rfl) ?_
     refine aF ?_
     have h := Option.some.inj h
     subst h
     exact bO ⟨rfl, _, .one _, rfl, rfl⟩
    ·have h := aR c9 h
     refine eG ?_
     refine aE ?_
     refine tr1 rfl (aD (v := .d (.lit (.int .i64 i_0_2))) (aA rfl) rfl rfl) ?_
     refine tr1 rfl (bA (aA rfl) rfl rfl rfl) ?_
     refine tr1 rfl (aJ (v := .d (.lit (.int .i64 ((w64 (i_0_2 + 1)))))) (aA rfl) rfl rfl) ?_
     refine aF ?_
     exact ⟨(w64 (i_0_2 + 1)), h, aV [] rfl rfl (aN rfl (aY ⟨rfl, rfl, trivial⟩))⟩
  ·have h := aR c4 h
   refine cU ?_
   refine .inl ⟨rfl, ?_⟩
   simp only [mU] at h
   refine aG ?_
   refine aE ?_
   refine tr1 rfl (aJ (v := .d (.lit (.bool true))) (aA rfl) rfl rfl) ?_
   refine aF ?_
   have h := Option.some.inj h
   subst h
   exact bO ⟨rfl, _, .one _, rfl, rfl⟩

theorem sI {r : Bool} (h : kG = some r) : Fn Try.prog 16 [] (.d (.lit (.bool r))) := by
 unfold kG at h
 refine Fn.of_tr Try.func16 rfl (rs := [.tmp 0]) Try.results16 Try.ntmps16 (Nat.le_of_ble_eq_true rfl) ?_
 refine aG ?_
 refine aE ?_
 refine tr1 rfl (aJ (v := .d (.lit (.bool false))) (aA rfl) rfl rfl) ?_
 refine aF ?_
 refine aG ?_
 refine aE ?_
 obtain ⟨r1, h2, h⟩ := bind_some h
 refine tr1 rfl (lF (aA rfl) (.func _ _ Try.call43) rfl rfl (vT h2)) ?_
 refine bQ rfl (gB (zs := [.lit (.int .i64 0), .lit (.int .i64 0), .sl 5 ((([] : List aB)).map aC), .sl 3 ((([] : List aW)).map aI), .sl 3 ((([] : List aW)).map aI)]) (aA rfl) Try.zeroValue25 rfl rfl) ?_
 rintro _ ⟨b3, rfl⟩
 refine tr1 rfl (cB (i := 0) rfl rfl rfl rfl rfl Try.sizeOf25 rfl (aA rfl) (Nat.le_of_ble_eq_true rfl) (ds' := (aX r1)) rfl) ?_
 refine aF ?_
 refine aG ?_
 refine aE ?_
 refine tr1 rfl (cY (aA rfl) rfl (i := 0) rfl fL (es := (aX r1)) rfl rfl) ?_
 obtain ⟨r4, h5, h⟩ := bind_some h
 refine tr1 rfl (lF (aA rfl) (.func _ _ Try.call27) rfl rfl (uV _ _ h5)) ?_
 refine tr1 rfl (aD (v := .tup [.d (.sl 1 (r4.1.map bR)), .d (.lit (.int .i64 r4.2))]) (aA rfl) rfl rfl) ?_
 refine tr1 rfl (cN (aA rfl) rfl rfl) ?_
 refine tr1 rfl (cN (aA rfl) rfl rfl) ?_
 refine tr1 rfl (aJ (v := .d (.sl 1 (r4.1.map bR))) (aA rfl) rfl rfl) ?_
 refine tr1 rfl (aJ (v := .d (.lit (.int .i64 r4.2))) (aA rfl) rfl rfl) ?_
 refine aF ?_
 refine aG ?_
 refine aE ?_
 refine tr1 rfl (cY (aA rfl) rfl (i := 0) rfl fL (es := (aX r1)) rfl rfl) ?_
 refine tr1 rfl (iE (aA rfl) dO rfl rfl (rows := ([300]).map bR) rfl (cO (f := bR) fun _ => rfl) rfl (by decide)) ?_
 obtain ⟨r6, h7, h⟩ := bind_some h
 refine tr1 rfl (cC (aA rfl) (.func _ _ Try.call17) rfl rfl (BVs.refl _ _) (aCo _ _ _ _ h7) rfl) ?_
 refine tr1 rfl (aD (v := .tup [.d (.lit (.int .i64 r6.1)), .d (.lit (.int .i64 r6.2.1)), .d (.lit (.int .i64 r6.2.2))]) (aA rfl) rfl rfl) ?_
 refine tr1 rfl (cN (aA rfl) rfl rfl) ?_
 refine tr1 rfl (cN (aA rfl) rfl rfl) ?_
 refine tr1 rfl (cN (aA rfl) rfl rfl) ?_
 refine tr1 rfl (aJ (v := .d (.lit (.int .i64 r6.1))) (aA rfl) rfl rfl) ?_
 refine tr1 rfl (aJ (v := .d (.lit (.int .i64 r6.2.1))) (aA rfl) rfl rfl) ?_
 refine tr1 rfl (aJ (v := .d (.lit (.int .i64 r6.2.2))) (aA rfl) rfl rfl) ?_
 refine aF ?_
 refine aG ?_
 refine aE ?_
 refine tr1 rfl (cY (aA rfl) rfl (i := 0) rfl fL (es := (aX r1)) rfl rfl) ?_
 obtain ⟨r8, h9, h⟩ := bind_some h
 refine tr1 rfl (cC (aA rfl) (.func _ _ Try.call21) rfl rfl (BVs.refl _ _) (aAi _ _ _ h9) rfl) ?_
 refine tr1 rfl (aD (v := .tup [.d (.lit (.int .i64 r8.1)), .d (.lit (.int .i64 r8.2))]) (aA rfl) rfl rfl) ?_
 refine tr1 rfl (cN (aA rfl) rfl rfl) ?_
 refine tr1 rfl (cN (aA rfl) rfl rfl) ?_
 refine tr1 rfl (aJ (v := .d (.lit (.int .i64 r8.1))) (aA rfl) rfl rfl) ?_
 refine tr1 rfl (aJ (v := .d (.lit (.int .i64 r8.2))) (aA rfl) rfl rfl) ?_
 refine aF ?_
 refine aG ?_
 refine aE ?_
 refine tr1 rfl (aD (v := .d (.lit (.int .i64 r4.2))) (aA rfl) rfl rfl) ?_
 refine tr1 rfl (bC (aA rfl) rfl rfl rfl) ?_
 refine tr1 rfl (aD (v := .d (.lit (.bool ((decide (r4.2 = 0)))))) (aA rfl) rfl rfl) ?_
 obtain ⟨b10, h11, h⟩ := bind_some h
 refine bX 3 [2, 4, 5, 7, 8] 32 b10 ?_ ?_
 ·refine bG (decide (r4.2 = 0)) (fun c29 => ?_) (fun c29 => ?_)
  ·have h11 := aS c29 h11
   refine aL rfl rfl (aA rfl) rfl c29 (aD (v := .d (.lit (.int .i64 r6.2.2))) (aA rfl) rfl rfl) ?_
   refine aL rfl rfl (aA rfl) rfl c29 (bC (aA rfl) rfl rfl rfl) ?_
   refine tr1 rfl (bN (v := .d (.lit (.bool ((decide (r6.2.2 = 0)))))) (aA rfl) rfl c29 rfl rfl) ?_
   have h11 := Option.some.inj h11
   subst h11
   refine aF (aZ rfl ⟨rfl, rfl, rfl, rfl, rfl, trivial⟩ rfl)
  ·have h11 := aR c29 h11
   refine aP rfl rfl (aA rfl) rfl (aA rfl) rfl c29 ?_
   refine aP rfl rfl (aA rfl) rfl (aA rfl) rfl c29 ?_
   refine tr1 rfl (bM (v := .d (.lit (.bool false))) (aA rfl) rfl c29 rfl rfl) ?_
   have h11 := Option.some.inj h11
   subst h11
   refine aF (aZ rfl ⟨rfl, rfl, rfl, rfl, rfl, trivial⟩ rfl)
 ·refine tr1 rfl (aD (v := .d (.lit (.bool b10))) (aA rfl) rfl rfl) ?_
  obtain ⟨b12, h13, h⟩ := bind_some h
  refine bX 3 [2, 4, 5, 7] 36 b12 ?_ ?_
  ·refine bG (b10) (fun c28 => ?_) (fun c28 => ?_)
   ·have h13 := aS c28 h13
    refine aL rfl rfl (aA rfl) rfl c28 (aD (v := .d (.lit (.int .i64 r8.2))) (aA rfl) rfl rfl) ?_
    refine aL rfl rfl (aA rfl) rfl c28 (bC (aA rfl) rfl rfl rfl) ?_
    refine tr1 rfl (bN (v := .d (.lit (.bool ((decide (r8.2 = 0)))))) (aA rfl) rfl c28 rfl rfl) ?_
    have h13 := Option.some.inj h13
    subst h13
    refine aF (aZ rfl ⟨rfl, rfl, rfl, rfl, trivial⟩ rfl)
   ·have h13 := aR c28 h13
    refine aP rfl rfl (aA rfl) rfl (aA rfl) rfl c28 ?_
    refine aP rfl rfl (aA rfl) rfl (aA rfl) rfl c28 ?_
    refine tr1 rfl (bM (v := .d (.lit (.bool false))) (aA rfl) rfl c28 rfl rfl) ?_
    have h13 := Option.some.inj h13
    subst h13
    refine aF (aZ rfl ⟨rfl, rfl, rfl, rfl, trivial⟩ rfl)
  ·refine tr1 rfl (aD (v := .d (.lit (.bool b12))) (aA rfl) rfl rfl) ?_
   obtain ⟨b14, h15, h⟩ := bind_some h
   refine bX 4 [4, 5, 7] 41 b14 ?_ ?_
   ·refine bG (b12) (fun c25 => ?_) (fun c25 => ?_)
    ·have h15 := aS c25 h15
     refine aL rfl rfl (aA rfl) rfl c25 (aD (v := .d (.sl 1 (r4.1.map bR))) (aA rfl) rfl rfl) ?_
     refine aL rfl rfl (aA rfl) rfl c25 (iE (aA rfl) dO rfl rfl (rows := ([0, 2, 1]).map bR) rfl (cO (f := bR) fun _ => rfl) rfl (by decide)) ?_
     obtain ⟨r26, h27, h15⟩ := bind_some h15
     refine aL rfl rfl (aA rfl) rfl c25 (cC (aA rfl) (.func _ _ Try.call32) rfl rfl (BVs.refl _ _) (qN _ _ h27) rfl) ?_
     refine tr1 rfl (bN (v := .d (.lit (.bool r26))) (aA rfl) rfl c25 rfl rfl) ?_
     have h15 := Option.some.inj h15
     subst h15
     refine aF (aZ rfl ⟨rfl, rfl, rfl, trivial⟩ rfl)
    ·have h15 := aR c25 h15
     refine aP rfl rfl (aA rfl) rfl (aA rfl) rfl c25 ?_
     refine aP rfl rfl (aA rfl) rfl (aA rfl) rfl c25 ?_
     refine aP rfl rfl (aA rfl) rfl (aA rfl) rfl c25 ?_
     refine tr1 rfl (bM (v := .d (.lit (.bool false))) (aA rfl) rfl c25 rfl rfl) ?_
     have h15 := Option.some.inj h15
     subst h15
     refine aF (aZ rfl ⟨rfl, rfl, rfl, trivial⟩ rfl)
   ·refine tr1 rfl (aD (v := .d (.lit (.bool b14))) (aA rfl) rfl rfl) ?_
    obtain ⟨b16, h17, h⟩ := bind_some h
    refine bX 3 [5, 7] 45 b16 ?_ ?_
    ·refine bG (b14) (fun c24 => ?_) (fun c24 => ?_)
     ·have h17 := aS c24 h17
      refine aL rfl rfl (aA rfl) rfl c24 (aD (v := .d (.lit (.int .i64 r6.1))) (aA rfl) rfl rfl) ?_
      refine aL rfl rfl (aA rfl) rfl c24 (bC (aA rfl) rfl rfl rfl) ?_
      refine tr1 rfl (bN (v := .d (.lit (.bool ((decide (r6.1 = 1)))))) (aA rfl) rfl c24 rfl rfl) ?_
      have h17 := Option.some.inj h17
      subst h17
      refine aF (aZ rfl ⟨rfl, rfl, trivial⟩ rfl)
     ·have h17 := aR c24 h17
      refine aP rfl rfl (aA rfl) rfl (aA rfl) rfl c24 ?_
      refine aP rfl rfl (aA rfl) rfl (aA rfl) rfl c24 ?_
      refine tr1 rfl (bM (v := .d (.lit (.bool false))) (aA rfl) rfl c24 rfl rfl) ?_
      have h17 := Option.some.inj h17
      subst h17
      refine aF (aZ rfl ⟨rfl, rfl, trivial⟩ rfl)
    ·refine tr1 rfl (aD (v := .d (.lit (.bool b16))) (aA rfl) rfl rfl) ?_
     obtain ⟨b18, h19, h⟩ := bind_some h
     refine bX 3 [7] 49 b18 ?_ ?_
     ·refine bG (b16) (fun c23 => ?_) (fun c23 => ?_)
      ·have h19 := aS c23 h19
       refine aL rfl rfl (aA rfl) rfl c23 (aD (v := .d (.lit (.int .i64 r6.2.1))) (aA rfl) rfl rfl) ?_
       refine aL rfl rfl (aA rfl) rfl c23 (bC (aA rfl) rfl rfl rfl) ?_
       refine tr1 rfl (bN (v := .d (.lit (.bool ((decide (r6.2.1 = 3)))))) (aA rfl) rfl c23 rfl rfl) ?_
       have h19 := Option.some.inj h19
       subst h19
       refine aF (aZ rfl ⟨rfl, trivial⟩ rfl)
      ·have h19 := aR c23 h19
       refine aP rfl rfl (aA rfl) rfl (aA rfl) rfl c23 ?_
       refine aP rfl rfl (aA rfl) rfl (aA rfl) rfl c23 ?_
       refine tr1 rfl (bM (v := .d (.lit (.bool false))) (aA rfl) rfl c23 rfl rfl) ?_
       have h19 := Option.some.inj h19
       subst h19
       refine aF (aZ rfl ⟨rfl, trivial⟩ rfl)
     ·refine tr1 rfl (aD (v := .d (.lit (.bool b18))) (aA rfl) rfl rfl) ?_
      obtain ⟨b20, h21, h⟩ := bind_some h
      refine bX 3 [] 53 b20 ?_ ?_
      ·refine bG (b18) (fun c22 => ?_) (fun c22 => ?_)
       ·have h21 := aS c22 h21
        refine aL rfl rfl (aA rfl) rfl c22 (aD (v := .d (.lit (.int .i64 r8.1))) (aA rfl) rfl rfl) ?_
        refine aL rfl rfl (aA rfl) rfl c22 (bC (aA rfl) rfl rfl rfl) ?_
        refine tr1 rfl (bN (v := .d (.lit (.bool ((decide (r8.1 = 200)))))) (aA rfl) rfl c22 rfl rfl) ?_
        have h21 := Option.some.inj h21
        subst h21
        refine aF (aZ rfl trivial rfl)
       ·have h21 := aR c22 h21
        refine aP rfl rfl (aA rfl) rfl (aA rfl) rfl c22 ?_
        refine aP rfl rfl (aA rfl) rfl (aA rfl) rfl c22 ?_
        refine tr1 rfl (bM (v := .d (.lit (.bool false))) (aA rfl) rfl c22 rfl rfl) ?_
        have h21 := Option.some.inj h21
        subst h21
        refine aF (aZ rfl trivial rfl)
      ·refine tr1 rfl (aJ (v := .d (.lit (.bool b20))) (aA rfl) rfl rfl) ?_
       refine aF ?_
       have h := Option.some.inj h
       subst h
       refine cR (cG (cK (l := [0]) ⟨rfl, trivial⟩)) ?_
       exact bO ⟨rfl, _, .one _, rfl, rfl⟩

theorem wW (l_0 : aM) {r : aM} (h : mK l_0 = some r) : fI Try.prog 18 [.agg (aX l_0)] [] (fun r' o' => ∃ (w0 : Value) (w1 : Value) (w2 : Value), r' = .agg [.lit (.int .i64 r.Players), .lit (.int .i64 r.Counts), .lit w0, .lit w1, .lit w2] ∧ o' = [.arr w0 42 5 (r.Reports.map aC), .arr w1 66 3 (r.Bans.map aI), .arr w2 66 3 (r.Frozen.map aI)]) := by
 unfold mK at h
 refine lM Try.func18 rfl (rs := [.cell 2 25]) Try.results18 Try.ntmps18 (Nat.le_of_ble_eq_true rfl) ?_
 refine aG ?_
 refine aE ?_
 refine bQ rfl (fN (v := .agg (aX l_0)) (aA rfl) rfl rfl rfl) ?_
 rintro _ ⟨b1, rfl⟩
 refine bQ rfl (gB (zs := [.lit (.int .i64 0), .lit (.int .i64 0), .sl 5 ((([] : List aB)).map aC), .sl 3 ((([] : List aW)).map aI), .sl 3 ((([] : List aW)).map aI)]) (aA rfl) Try.zeroValue25 rfl rfl) ?_
 rintro _ ⟨b2, rfl⟩
 refine aF ?_
 refine aG ?_
 refine aE ?_
 refine tr1 rfl (cY (aA rfl) rfl (i := 0) rfl fL (es := (aX l_0)) rfl rfl) ?_
 refine bQ rfl (gB (zs := [.lit (.int .i64 0), .lit (.int .i64 0), .sl 5 ((([] : List aB)).map aC), .sl 3 ((([] : List aW)).map aI), .sl 3 ((([] : List aW)).map aI)]) (aA rfl) Try.zeroValue25 rfl rfl) ?_
 rintro _ ⟨b3, rfl⟩
 refine tr1 rfl (cB (i := 2) rfl rfl rfl rfl rfl Try.sizeOf25 rfl (aA rfl) (Nat.le_of_ble_eq_true rfl) (ds' := (aX l_0)) rfl) ?_
 refine aF ?_
 refine aG ?_
 refine aE ?_
 refine bQ rfl (uR (aA rfl) cD rfl rfl (rows := (([] : List aB)).map aC) rfl (cO (f := aC) fun _ => rfl) rfl (by decide)) ?_
 rintro _ ⟨v4, rfl⟩
 refine tr1 rfl (aQ (aA rfl) rfl eR) ?_
 refine tr1 rfl (aT (aA rfl) rfl (i := 0) rfl rfl jI) ?_
 obtain ⟨x5, h6, h⟩ := bind_some h
 refine bQ rfl (jJ (i := 3) (aA rfl) cD rfl rfl rfl (fun _ => rfl) h6 rfl) ?_
 rintro _ ⟨v7, rfl⟩
 refine tr1 rfl (aQ (aA rfl) rfl eR) ?_
 refine tr1 rfl (cB (i := 2) rfl rfl rfl rfl rfl Try.sizeOf22 rfl (aA rfl) (Nat.le_of_ble_eq_true rfl) (ds' := [.lit (.int .i64 l_0.Players), .lit (.int .i64 l_0.Counts), .lit v7, .sl 3 (l_0.Bans.map aI), .sl 3 (l_0.Frozen.map aI)]) rfl) ?_
 refine aF ?_
 refine aG ?_
 refine aE ?_
 refine bQ rfl (uR (aA rfl) fT rfl rfl (rows := (([] : List aW)).map aI) rfl (cO (f := aI) fun _ => rfl) rfl (by decide)) ?_
 rintro _ ⟨v8, rfl⟩
 refine tr1 rfl (aQ (aA rfl) rfl nC) ?_
 refine tr1 rfl (aT (aA rfl) rfl (i := 0) rfl rfl kE) ?_
 obtain ⟨x9, h10, h⟩ := bind_some h
 refine bQ rfl (jJ (i := 4) (aA rfl) fT rfl rfl rfl (fun _ => rfl) h10 rfl) ?_
 rintro _ ⟨v11, rfl⟩
 refine tr1 rfl (aQ (aA rfl) rfl nC) ?_
 refine tr1 rfl (cB (i := 2) rfl rfl rfl rfl rfl Try.sizeOf23 rfl (aA rfl) (Nat.le_of_ble_eq_true rfl) (ds' := [.lit (.int .i64 l_0.Players), .lit (.int .i64 l_0.Counts), .lit v7, .lit v11, .sl 3 (l_0.Frozen.map aI)]) rfl) ?_
 refine aF ?_
 refine aG ?_
 refine aE ?_
 refine bQ rfl (uR (aA rfl) fT rfl rfl (rows := (([] : List aW)).map aI) rfl (cO (f := aI) fun _ => rfl) rfl (by decide)) ?_
 rintro _ ⟨v12, rfl⟩
 refine tr1 rfl (aQ (aA rfl) rfl lY) ?_
 refine tr1 rfl (aT (aA rfl) rfl (i := 0) rfl rfl kE) ?_
 obtain ⟨x13, h14, h⟩ := bind_some h
 refine bQ rfl (jJ (i := 5) (aA rfl) fT rfl rfl rfl (fun _ => rfl) h14 rfl) ?_
 rintro _ ⟨v15, rfl⟩
 refine tr1 rfl (aQ (aA rfl) rfl lY) ?_
 refine tr1 rfl (cB (i := 2) rfl rfl rfl rfl rfl Try.sizeOf23 rfl (aA rfl) (Nat.le_of_ble_eq_true rfl) (ds' := [.lit (.int .i64 l_0.Players), .lit (.int .i64 l_0.Counts), .lit v7, .lit v11, .lit v15]) rfl) ?_
 refine aF ?_
 refine aG ?_
 refine aE ?_
 refine tr1 rfl (cY (aA rfl) rfl (i := 2) rfl fL (es := [.lit (.int .i64 l_0.Players), .lit (.int .i64 l_0.Counts), .lit v7, .lit v11, .lit v15]) rfl rfl) ?_
 refine tr1 rfl (cB (i := 1) rfl rfl rfl rfl rfl Try.sizeOf25 rfl (aA rfl) (Nat.le_of_ble_eq_true rfl) (ds' := [.lit (.int .i64 l_0.Players), .lit (.int .i64 l_0.Counts), .lit v7, .lit v11, .lit v15]) rfl) ?_
 refine aF ?_
 have h := Option.some.inj h
 subst h
 refine cR (aV [3, 4, 5, 0, 1, 2] rfl rfl (le_refl _)) ?_
 exact bO ⟨rfl, _, [.arr v7 42 5 (x5.map aC), .arr v11 66 3 (x9.map aI), .arr v15 66 3 (x13.map aI)], [.box b1 0 (aX l_0), .box b2 0 [.lit (.int .i64 l_0.Players), .lit (.int .i64 l_0.Counts), .lit v7, .lit v11, .lit v15], .box b3 0 [.lit (.int .i64 l_0.Players), .lit (.int .i64 l_0.Counts), .lit v7, .lit v11, .lit v15]], _, .one (.cell 2 25 rfl (i := 4) rfl fL (es := [.lit (.int .i64 l_0.Players), .lit (.int .i64 l_0.Counts), .lit v7, .lit v11, .lit v15]) rfl rfl), .refl _, .same _, v7, v11, v15, rfl, rfl⟩

theorem sH (l_0 : aM) (player_1 : Int) (week_2 : Int) {r : Bool} (h : gM l_0 player_1 week_2 = some r) : Fn Try.prog 20 [.agg (aX l_0), .d (.lit (.int .i64 player_1)), .d (.lit (.int .i64 week_2))] (.d (.lit (.bool r))) := by
 unfold gM at h
 refine Fn.of_tr Try.func20 rfl (rs := [.tmp 6]) Try.results20 Try.ntmps20 (Nat.le_of_ble_eq_true rfl) ?_
 refine aG ?_
 refine aE ?_
 refine bQ rfl (fN (v := .agg (aX l_0)) (aA rfl) rfl rfl rfl) ?_
 rintro _ ⟨b1, rfl⟩
 refine tr1 rfl (aJ (v := .d (.lit (.bool false))) (aA rfl) rfl rfl) ?_
 refine aF ?_
 refine aG ?_
 refine aE ?_
 refine tr1 rfl (cY (aA rfl) rfl (i := 0) rfl fL (es := (aX l_0)) rfl rfl) ?_
 obtain ⟨r2, h3, h⟩ := bind_some h
 refine tr1 rfl (cC (aA rfl) (.func _ _ Try.call13) rfl rfl (BVs.refl _ _) (yS _ h3) rfl) ?_
 refine tr1 rfl (fC (aA rfl) rfl) ?_
 refine tr1 rfl (aD (v := .d (.lit (.bool (!r2)))) (aA rfl) rfl rfl) ?_
 obtain ⟨b4, h5, h⟩ := bind_some h
 refine bX 4 [1, 2, 3] 14 b4 ?_ ?_
 ·refine bG (!r2) (fun c18 => ?_) (fun c18 => ?_)
  ·have h5 := aS c18 h5
   refine aL rfl rfl (aA rfl) rfl c18 (cY (aA rfl) rfl (i := 0) rfl fL (es := (aX l_0)) rfl rfl) ?_
   obtain ⟨r19, h20, h5⟩ := bind_some h5
   refine aL rfl rfl (aA rfl) rfl c18 (cC (aA rfl) (.func _ _ Try.call15) rfl rfl (BVs.refl _ _) (sK _ h20) rfl) ?_
   refine aL rfl rfl (aA rfl) rfl c18 (bC (aA rfl) rfl rfl rfl) ?_
   refine tr1 rfl (bN (v := .d (.lit (.bool ((decide (r19 = 0)))))) (aA rfl) rfl c18 rfl rfl) ?_
   have h5 := Option.some.inj h5
   subst h5
   refine aF (aZ rfl ⟨rfl, rfl, rfl, trivial⟩ rfl)
  ·have h5 := aR c18 h5
   refine aP rfl rfl (aA rfl) rfl (aA rfl) rfl c18 ?_
   refine aP rfl rfl (aA rfl) rfl (aA rfl) rfl c18 ?_
   refine aP rfl rfl (aA rfl) rfl (aA rfl) rfl c18 ?_
   refine tr1 rfl (bM (v := .d (.lit (.bool false))) (aA rfl) rfl c18 rfl rfl) ?_
   have h5 := Option.some.inj h5
   subst h5
   refine aF (aZ rfl ⟨rfl, rfl, rfl, trivial⟩ rfl)
 ·refine tr1 rfl (aD (v := .d (.lit (.bool b4))) (aA rfl) rfl rfl) ?_
  obtain ⟨b6, h7, h⟩ := bind_some h
  refine bX 3 [1, 2, 3] 18 b6 ?_ ?_
  ·refine bG (b4) (fun c17 => ?_) (fun c17 => ?_)
   ·have h7 := aS c17 h7
    refine aL rfl rfl (aA rfl) rfl c17 (aD (v := .d (.lit (.int .i64 player_1))) (aA rfl) rfl rfl) ?_
    refine aL rfl rfl (aA rfl) rfl c17 (bC (aA rfl) rfl rfl rfl) ?_
    refine tr1 rfl (bN (v := .d (.lit (.bool ((decide (0 ≤ player_1)))))) (aA rfl) rfl c17 rfl rfl) ?_
    have h7 := Option.some.inj h7
    subst h7
    refine aF (aZ rfl ⟨rfl, rfl, rfl, trivial⟩ rfl)
   ·have h7 := aR c17 h7
    refine aP rfl rfl (aA rfl) rfl (aA rfl) rfl c17 ?_
    refine aP rfl rfl (aA rfl) rfl (aA rfl) rfl c17 ?_
    refine tr1 rfl (bM (v := .d (.lit (.bool false))) (aA rfl) rfl c17 rfl rfl) ?_
    have h7 := Option.some.inj h7
    subst h7
    refine aF (aZ rfl ⟨rfl, rfl, rfl, trivial⟩ rfl)
  ·refine tr1 rfl (aD (v := .d (.lit (.bool b6))) (aA rfl) rfl rfl) ?_
   obtain ⟨b8, h9, h⟩ := bind_some h
   refine bX 5 [2] 24 b8 ?_ ?_
   ·refine bG (b6) (fun c16 => ?_) (fun c16 => ?_)
    ·have h9 := aS c16 h9
     refine aL rfl rfl (aA rfl) rfl c16 (aD (v := .d (.lit (.int .i64 player_1))) (aA rfl) rfl rfl) ?_
     refine aL rfl rfl (aA rfl) rfl c16 (aQ (aA rfl) rfl jN) ?_
     refine aL rfl rfl (aA rfl) rfl c16 (aT (aA rfl) rfl (i := 0) rfl rfl bD) ?_
     refine aL rfl rfl (aA rfl) rfl c16 (bC (aA rfl) rfl rfl rfl) ?_
     refine tr1 rfl (bN (v := .d (.lit (.bool ((decide (player_1 < l_0.Players)))))) (aA rfl) rfl c16 rfl rfl) ?_
     have h9 := Option.some.inj h9
     subst h9
     refine aF (aZ rfl ⟨rfl, trivial⟩ rfl)
    ·have h9 := aR c16 h9
     refine aP rfl rfl (aA rfl) rfl (aA rfl) rfl c16 ?_
     refine aP rfl rfl (aA rfl) rfl (aA rfl) rfl c16 ?_
     refine aP rfl rfl (aA rfl) rfl (aA rfl) rfl c16 ?_
     refine aP rfl rfl (aA rfl) rfl (aA rfl) rfl c16 ?_
     refine tr1 rfl (bM (v := .d (.lit (.bool false))) (aA rfl) rfl c16 rfl rfl) ?_
     have h9 := Option.some.inj h9
     subst h9
     refine aF (aZ rfl ⟨rfl, trivial⟩ rfl)
   ·refine tr1 rfl (aD (v := .d (.lit (.bool b8))) (aA rfl) rfl rfl) ?_
    obtain ⟨b10, h11, h⟩ := bind_some h
    refine bX 3 [2] 28 b10 ?_ ?_
    ·refine bG (b8) (fun c15 => ?_) (fun c15 => ?_)
     ·have h11 := aS c15 h11
      refine aL rfl rfl (aA rfl) rfl c15 (aD (v := .d (.lit (.int .i64 week_2))) (aA rfl) rfl rfl) ?_
      refine aL rfl rfl (aA rfl) rfl c15 (bC (aA rfl) rfl rfl rfl) ?_
      refine tr1 rfl (bN (v := .d (.lit (.bool ((decide (0 ≤ week_2)))))) (aA rfl) rfl c15 rfl rfl) ?_
      have h11 := Option.some.inj h11
      subst h11
      refine aF (aZ rfl ⟨rfl, trivial⟩ rfl)
     ·have h11 := aR c15 h11
      refine aP rfl rfl (aA rfl) rfl (aA rfl) rfl c15 ?_
      refine aP rfl rfl (aA rfl) rfl (aA rfl) rfl c15 ?_
      refine tr1 rfl (bM (v := .d (.lit (.bool false))) (aA rfl) rfl c15 rfl rfl) ?_
      have h11 := Option.some.inj h11
      subst h11
      refine aF (aZ rfl ⟨rfl, trivial⟩ rfl)
    ·refine tr1 rfl (aD (v := .d (.lit (.bool b10))) (aA rfl) rfl rfl) ?_
     obtain ⟨b12, h13, h⟩ := bind_some h
     refine bX 3 [] 32 b12 ?_ ?_
     ·refine bG (b10) (fun c14 => ?_) (fun c14 => ?_)
      ·have h13 := aS c14 h13
       refine aL rfl rfl (aA rfl) rfl c14 (aD (v := .d (.lit (.int .i64 week_2))) (aA rfl) rfl rfl) ?_
       refine aL rfl rfl (aA rfl) rfl c14 (bC (aA rfl) rfl rfl rfl) ?_
       refine tr1 rfl (bN (v := .d (.lit (.bool ((decide (week_2 ≤ 250)))))) (aA rfl) rfl c14 rfl rfl) ?_
       have h13 := Option.some.inj h13
       subst h13
       refine aF (aZ rfl trivial rfl)
      ·have h13 := aR c14 h13
       refine aP rfl rfl (aA rfl) rfl (aA rfl) rfl c14 ?_
       refine aP rfl rfl (aA rfl) rfl (aA rfl) rfl c14 ?_
       refine tr1 rfl (bM (v := .d (.lit (.bool false))) (aA rfl) rfl c14 rfl rfl) ?_
       have h13 := Option.some.inj h13
       subst h13
       refine aF (aZ rfl trivial rfl)
     ·refine tr1 rfl (aJ (v := .d (.lit (.bool b12))) (aA rfl) rfl rfl) ?_
      refine aF ?_
      have h := Option.some.inj h
      subst h
      refine cR (cG (cK (l := [6]) ⟨rfl, trivial⟩)) ?_
      exact bO ⟨rfl, _, .one _, rfl, rfl⟩

theorem wH (l_0 : aM) (player_1 : Int) (week_2 : Int) {r : Int × Int} (h : nD l_0 player_1 week_2 = some r) : Fn Try.prog 22 [.agg (aX l_0), .d (.lit (.int .i64 player_1)), .d (.lit (.int .i64 week_2))] (.tup [.d (.lit (.int .i64 r.1)), .d (.lit (.int .i64 r.2))]) := by
 unfold nD at h
 refine Fn.of_tr Try.func22 rfl (rs := [.tmp 6, .tmp 7]) Try.results22 Try.ntmps22 (Nat.le_of_ble_eq_true rfl) ?_
 refine aG ?_
 refine aE ?_
 refine bQ rfl (fN (v := .agg (aX l_0)) (aA rfl) rfl rfl rfl) ?_
 rintro _ ⟨b1, rfl⟩
 refine tr1 rfl (aJ (v := .d (.lit (.int .i64 0))) (aA rfl) rfl rfl) ?_
 refine tr1 rfl (aJ (v := .d (.lit (.int .i64 0))) (aA rfl) rfl rfl) ?_
 refine aF ?_
 refine aG ?_
 refine aE ?_
 refine tr1 rfl (cY (aA rfl) rfl (i := 0) rfl fL (es := (aX l_0)) rfl rfl) ?_
 refine tr1 rfl (aD (v := .d (.lit (.int .i64 player_1))) (aA rfl) rfl rfl) ?_
 refine tr1 rfl (aD (v := .d (.lit (.int .i64 week_2))) (aA rfl) rfl rfl) ?_
 obtain ⟨r2, h3, h⟩ := bind_some h
 refine bQ rfl (dI (passed := []) (aA rfl) rfl (.func _ _ Try.call44) rfl rfl (rC _ _ _ h3)) ?_
 rintro _ ⟨_, _, ⟨b5, w6, rfl, rfl⟩, rfl⟩
 obtain ⟨_ | y4, e7⟩ := r2
 ·have h := vH h
  refine fH (aV [0] rfl rfl (le_refl _)) ?_
  refine tr1 rfl (aD (v := .tup [.d (.lit (.pointer none)), .d (.lit (.int .i64 e7))]) (aA rfl) rfl rfl) ?_
  refine tr1 rfl (cN (aA rfl) rfl rfl) ?_
  refine tr1 rfl (cN (aA rfl) rfl rfl) ?_
  refine tr1 rfl (aJ (v := .d (.lit (.pointer none))) (aA rfl) rfl rfl) ?_
  refine tr1 rfl (aJ (v := .d (.lit (.int .i64 e7))) (aA rfl) rfl rfl) ?_
  refine aF ?_
  refine aG ?_
  refine aG ?_
  refine aE ?_
  refine tr1 rfl (aD (v := .d (.lit (.int .i64 e7))) (aA rfl) rfl rfl) ?_
  refine tr1 rfl (bC (aA rfl) rfl rfl rfl) ?_
  refine aF ?_
  refine bJ rfl (fun c8 => ?_) (fun c8 => ?_)
  ·have h := aS c8 h
   refine aG ?_
   refine aE ?_
   refine tr1 rfl (aD (v := .d (.lit (.int .i64 e7))) (aA rfl) rfl rfl) ?_
   refine tr1 rfl (aJ (v := .d (.lit (.int .i64 0))) (aA rfl) rfl rfl) ?_
   refine tr1 rfl (aJ (v := .d (.lit (.int .i64 e7))) (aA rfl) rfl rfl) ?_
   refine aF ?_
   have h := Option.some.inj h
   subst h
   refine cR (cG (cK (l := [6, 7]) ⟨rfl, rfl, trivial⟩)) ?_
   exact bO ⟨rfl, _, .two _ _, rfl, rfl⟩
  ·have h := aR c8 h
   refine bH ?_
   refine aG ?_
   refine aE ?_
   refine tr1 rfl (aD (v := .d (.lit (.pointer none))) (aA rfl) rfl rfl) ?_
   refine tr1 rfl (aD (v := .d (.lit (.int .i64 player_1))) (aA rfl) rfl rfl) ?_
   refine tr1 rfl (aD (v := .d (.lit (.int .i64 week_2))) (aA rfl) rfl rfl) ?_
   cases h
 ·have h := vI h
  refine fH (aV [0, 1, 2] rfl rfl (le_refl _)) ?_
  refine tr1 rfl (aD (v := .tup [.bp b5 0 0, .d (.lit (.int .i64 e7))]) (aA rfl) rfl rfl) ?_
  refine tr1 rfl (cN (aA rfl) rfl rfl) ?_
  refine tr1 rfl (cN (aA rfl) rfl rfl) ?_
  refine tr1 rfl (aJ (v := .bp b5 0 0) (aA rfl) rfl rfl) ?_
  refine tr1 rfl (aJ (v := .d (.lit (.int .i64 e7))) (aA rfl) rfl rfl) ?_
  refine aF ?_
  refine aG ?_
  refine aG ?_
  refine aE ?_
  refine tr1 rfl (aD (v := .d (.lit (.int .i64 e7))) (aA rfl) rfl rfl) ?_
  refine tr1 rfl (bC (aA rfl) rfl rfl rfl) ?_
  refine aF ?_
  refine bJ rfl (fun c9 => ?_) (fun c9 => ?_)
  ·have h := aS c9 h
   refine aG ?_
   refine aE ?_
   refine tr1 rfl (aD (v := .d (.lit (.int .i64 e7))) (aA rfl) rfl rfl) ?_
   refine tr1 rfl (aJ (v := .d (.lit (.int .i64 0))) (aA rfl) rfl rfl) ?_
   refine tr1 rfl (aJ (v := .d (.lit (.int .i64 e7))) (aA rfl) rfl rfl) ?_
   refine aF ?_
   have h := Option.some.inj h
   subst h
   refine cR (cG (cK (l := [6, 7]) ⟨rfl, rfl, trivial⟩)) ?_
   exact bO ⟨rfl, _, .two _ _, rfl, rfl⟩
  ·have h := aR c9 h
   refine bH ?_
   refine aG ?_
   refine aE ?_
   refine tr1 rfl (aD (v := .bp b5 0 0) (aA rfl) rfl rfl) ?_
   refine tr1 rfl (aD (v := .d (.lit (.int .i64 player_1))) (aA rfl) rfl rfl) ?_
   refine tr1 rfl (aD (v := .d (.lit (.int .i64 week_2))) (aA rfl) rfl rfl) ?_
   obtain ⟨r10, h11, h⟩ := bind_some h
   refine tr1 rfl (cC (aA rfl) (.func _ _ Try.call55) rfl rfl (.cons ((mC 0 rfl rfl (dvc (.same _) (dvc (.same _) (dvc (eZ 1 rfl (cO (f := aC) fun _ => rfl)) (dvc (.same _) (dvc (.same _) dvn))))))) (.cons (.same _) (.cons (.same _) .nil))) (oQ _ _ _ h11) rfl) ?_
   refine tr1 rfl (aJ (v := .d (.lit (.int .i64 r10))) (aA rfl) rfl rfl) ?_
   refine tr1 rfl (aJ (v := .d (.lit (.int .i64 0))) (aA rfl) rfl rfl) ?_
   refine aF ?_
   have h := Option.some.inj h
   subst h
   refine cR (cG (cK (l := [6, 7]) ⟨rfl, rfl, trivial⟩)) ?_
   exact bO ⟨rfl, _, .two _ _, rfl, rfl⟩

theorem yA (x : List Int) {r : List Int} {x_v : Value} {e : TypeId} (h : slices_Sort_int x = some r) : fI Try.prog 73 [.d (.lit x_v)] [.arr x_v e 1 (x.map bR)] (fun r' o' => r' = .tup [] ∧ o' = [.arr x_v e 1 (r.map bR)]) := by
 unfold slices_Sort_int at h
 split at h
 ·cases h
  exact aEt (fun blk off cap zs w => Try.slices_Sort_int blk off cap zs w) (fun q cap w => Try.slices_Sort_int_none q cap w) (by assumption)
 ·cases h

theorem aCp (l_0 : aM) (player_1 : Int) (week_2 : Int) {r : (List Int) × Int} (h : rB l_0 player_1 week_2 = some r) : Fn Try.prog 38 [.agg (aX l_0), .d (.lit (.int .i64 player_1)), .d (.lit (.int .i64 week_2))] (.tup [.d (.sl 1 (r.1.map bR)), .d (.lit (.int .i64 r.2))]) := by
 unfold rB at h
 refine Fn.of_tr Try.func38 rfl (rs := [.tmp 6, .tmp 7]) Try.results38 Try.ntmps38 (Nat.le_of_ble_eq_true rfl) ?_
 refine aG ?_
 refine aE ?_
 refine bQ rfl (fN (v := .agg (aX l_0)) (aA rfl) rfl rfl rfl) ?_
 rintro _ ⟨b1, rfl⟩
 refine tr1 rfl (sG 1 (aA rfl)) ?_
 refine tr1 rfl (aJ (v := .d (.lit (.int .i64 0))) (aA rfl) rfl rfl) ?_
 refine aF ?_
 refine aG ?_
 refine aE ?_
 refine tr1 rfl (cY (aA rfl) rfl (i := 0) rfl fL (es := (aX l_0)) rfl rfl) ?_
 refine tr1 rfl (aD (v := .d (.lit (.int .i64 player_1))) (aA rfl) rfl rfl) ?_
 refine tr1 rfl (aD (v := .d (.lit (.int .i64 week_2))) (aA rfl) rfl rfl) ?_
 obtain ⟨r2, h3, h⟩ := bind_some h
 refine bQ rfl (dI (passed := []) (aA rfl) rfl (.func _ _ Try.call44) rfl rfl (rC _ _ _ h3)) ?_
 rintro _ ⟨_, _, ⟨b5, w6, rfl, rfl⟩, rfl⟩
 obtain ⟨_ | y4, e7⟩ := r2
 ·have h := vH h
  refine fH (aV [0] rfl rfl (le_refl _)) ?_
  refine tr1 rfl (aD (v := .tup [.d (.lit (.pointer none)), .d (.lit (.int .i64 e7))]) (aA rfl) rfl rfl) ?_
  refine tr1 rfl (cN (aA rfl) rfl rfl) ?_
  refine tr1 rfl (cN (aA rfl) rfl rfl) ?_
  refine tr1 rfl (aJ (v := .d (.lit (.pointer none))) (aA rfl) rfl rfl) ?_
  refine tr1 rfl (aJ (v := .d (.lit (.int .i64 e7))) (aA rfl) rfl rfl) ?_
  refine aF ?_
  refine aG ?_
  refine aG ?_
  refine aE ?_
  refine tr1 rfl (aD (v := .d (.lit (.int .i64 e7))) (aA rfl) rfl rfl) ?_
  refine tr1 rfl (bC (aA rfl) rfl rfl rfl) ?_
  refine aF ?_
  refine bJ rfl (fun c8 => ?_) (fun c8 => ?_)
  ·have h := aS c8 h
   refine aG ?_
   refine aE ?_
   refine tr1 rfl (aD (v := .d (.lit (.int .i64 e7))) (aA rfl) rfl rfl) ?_
   refine tr1 rfl (sG 1 (aA rfl)) ?_
   refine tr1 rfl (aJ (v := .d (.lit (.int .i64 e7))) (aA rfl) rfl rfl) ?_
   refine aF ?_
   have h := Option.some.inj h
   subst h
   refine cR (cG (cK (l := [6, 7]) ⟨rfl, rfl, trivial⟩)) ?_
   exact bO ⟨rfl, _, .two _ _, rfl, rfl⟩
  ·have h := aR c8 h
   refine bH ?_
   refine aG ?_
   refine aE ?_
   refine tr1 rfl (gV 3 1 (.inl rfl) (aA rfl)) ?_
   refine aF ?_
   refine aG ?_
   refine aG ?_
   refine aE ?_
   refine tr1 rfl (aD (v := .d (.lit (.pointer none))) (aA rfl) rfl rfl) ?_
   refine tr1 rfl (aD (v := .d (.lit (.pointer none))) (aA rfl) rfl rfl) ?_
   refine tr1 rfl (aD (v := .d (.lit (.int .i64 player_1))) (aA rfl) rfl rfl) ?_
   refine tr1 rfl (aD (v := .d (.lit (.int .i64 week_2))) (aA rfl) rfl rfl) ?_
   cases h
 ·have h := vI h
  refine fH (aV [0, 1, 2] rfl rfl (le_refl _)) ?_
  refine tr1 rfl (aD (v := .tup [.bp b5 0 0, .d (.lit (.int .i64 e7))]) (aA rfl) rfl rfl) ?_
  refine tr1 rfl (cN (aA rfl) rfl rfl) ?_
  refine tr1 rfl (cN (aA rfl) rfl rfl) ?_
  refine tr1 rfl (aJ (v := .bp b5 0 0) (aA rfl) rfl rfl) ?_
  refine tr1 rfl (aJ (v := .d (.lit (.int .i64 e7))) (aA rfl) rfl rfl) ?_
  refine aF ?_
  refine aG ?_
  refine aG ?_
  refine aE ?_
  refine tr1 rfl (aD (v := .d (.lit (.int .i64 e7))) (aA rfl) rfl rfl) ?_
  refine tr1 rfl (bC (aA rfl) rfl rfl rfl) ?_
  refine aF ?_
  refine bJ rfl (fun c10 => ?_) (fun c10 => ?_)
  ·have h := aS c10 h
   refine aG ?_
   refine aE ?_
   refine tr1 rfl (aD (v := .d (.lit (.int .i64 e7))) (aA rfl) rfl rfl) ?_
   refine tr1 rfl (sG 1 (aA rfl)) ?_
   refine tr1 rfl (aJ (v := .d (.lit (.int .i64 e7))) (aA rfl) rfl rfl) ?_
   refine aF ?_
   have h := Option.some.inj h
   subst h
   refine cR (cG (cK (l := [6, 7]) ⟨rfl, rfl, trivial⟩)) ?_
   exact bO ⟨rfl, _, .two _ _, rfl, rfl⟩
  ·have h := aR c10 h
   refine bH ?_
   refine aG ?_
   refine aE ?_
   refine tr1 rfl (gV 3 1 (.inl rfl) (aA rfl)) ?_
   refine aF ?_
   refine aG ?_
   refine aG ?_
   refine aE ?_
   refine tr1 rfl (aD (v := .bp b5 0 0) (aA rfl) rfl rfl) ?_
   refine tr1 rfl (aD (v := .bp b5 0 0) (aA rfl) rfl rfl) ?_
   refine tr1 rfl (aD (v := .d (.lit (.int .i64 player_1))) (aA rfl) rfl rfl) ?_
   refine tr1 rfl (aD (v := .d (.lit (.int .i64 week_2))) (aA rfl) rfl rfl) ?_
   refine fH (aV [2, 3, 0, 1] rfl rfl (le_refl _)) ?_
   apply xW [.box b1 0 (aX l_0), .arr (.slice none 0 0) 3 1 (([] : List Int).map bR)] [.box b5 0 [.lit (.int .i64 y4.Ledger.Players), .lit (.int .i64 y4.Ledger.Counts), .lit w6, .sl 3 (y4.Ledger.Bans.map aI), .sl 3 (y4.Ledger.Frozen.map aI)], .arr w6 42 5 (y4.Ledger.Reports.map aC)] rfl
   exact fJ (k := 24) (v := .cp [.lit (.int .i64 y4.Ledger.Players), .lit (.int .i64 y4.Ledger.Counts), .sl 5 (y4.Ledger.Reports.map aC), .sl 3 (y4.Ledger.Bans.map aI), .sl 3 (y4.Ledger.Frozen.map aI)]) ((mC 0 rfl rfl (dvc (.same _) (dvc (.same _) (dvc (eZ 1 rfl (cO (f := aC) fun _ => rfl)) (dvc (.same _) (dvc (.same _) dvn))))))) (fJ (k := 23) (v := .cp [.lit (.int .i64 y4.Ledger.Players), .lit (.int .i64 y4.Ledger.Counts), .sl 5 (y4.Ledger.Reports.map aC), .sl 3 (y4.Ledger.Bans.map aI), .sl 3 (y4.Ledger.Frozen.map aI)]) ((mC 0 rfl rfl (dvc (.same _) (dvc (.same _) (dvc (eZ 1 rfl (cO (f := aC) fun _ => rfl)) (dvc (.same _) (dvc (.same _) dvn))))))) (fJ (k := 18) (v := .cp [.lit (.int .i64 y4.Ledger.Players), .lit (.int .i64 y4.Ledger.Counts), .sl 5 (y4.Ledger.Reports.map aC), .sl 3 (y4.Ledger.Bans.map aI), .sl 3 (y4.Ledger.Frozen.map aI)]) ((mC 0 rfl rfl (dvc (.same _) (dvc (.same _) (dvc (eZ 1 rfl (cO (f := aC) fun _ => rfl)) (dvc (.same _) (dvc (.same _) dvn))))))) (fJ (k := 17) (v := .any) (.any _) (fJ (k := 13) (v := .any) (.any _) (fJ (k := 8) (v := .cp [.lit (.int .i64 y4.Ledger.Players), .lit (.int .i64 y4.Ledger.Counts), .sl 5 (y4.Ledger.Reports.map aC), .sl 3 (y4.Ledger.Bans.map aI), .sl 3 (y4.Ledger.Frozen.map aI)]) ((mC 0 rfl rfl (dvc (.same _) (dvc (.same _) (dvc (eZ 1 rfl (cO (f := aC) fun _ => rfl)) (dvc (.same _) (dvc (.same _) dvn))))))) (qC _ _))))))
   obtain ⟨r12, h13, h⟩ := bind_some h
   refine tr1 rfl (lF (aA rfl) (.func _ _ Try.call72) rfl rfl (pG _ _ _ h13)) ?_
   obtain ⟨r14, h15, h⟩ := bind_some h
   refine tr1 rfl (lF (aA rfl) (.func _ _ Try.call71) rfl rfl (pI _ _ h15)) ?_
   refine tr1 rfl (dW (aA rfl) rfl cD.of) ?_
   refine tr1 rfl (aD (v := .d (.lit (.int .i64 0))) (aA rfl) rfl rfl) ?_
   refine aF ?_
   refine bT ?_
   refine cM [28, 29] (fun (s16 : Int × (List Int) × Value) => [(10, .d (.lit s16.2.2)), (30, .d (.lit (.int .i64 s16.1)))]) (fun (s16 : Int × (List Int) × Value) => [.arr s16.2.2 3 1 (s16.2.1.map bR)]) (fun (k : Nat) (s16 : Int × (List Int) × Value) => lI r14 (r14.length : Int) k s16.1 s16.2.1) (fun _ => rfl) (0, ([] : List Int), (.slice none 0 0)) h (aV [1] rfl rfl (aN rfl (aN rfl (aY ⟨rfl, rfl, trivial⟩)))) ?_
   rintro k18 ⟨t30_0_16, out_0_16, w17⟩ h
   simp only [lI] at h
   refine aG ?_
   refine aE ?_
   refine tr1 rfl (bC (aA rfl) rfl rfl rfl) ?_
   refine aF ?_
   refine aG ?_
   refine bJ rfl (fun c19 => ?_) (fun c19 => ?_)
   ·have h := aS c19 h
    refine bH ?_
    refine aG ?_
    refine bT ?_
    refine aG ?_
    refine aE ?_
    obtain ⟨x20, h21, h⟩ := bind_some h
    refine tr1 rfl (cA (aA rfl) rfl rfl cD.of (bP aC h21)) ?_
    refine tr1 rfl (fS (aA rfl) rfl eB (es := (aC x20)) rfl rfl) ?_
    refine bQ rfl (gB (zs := [.lit (.int .i64 0), .lit (.int .i64 0), .lit (.int .i64 0), .lit (.int .i64 0), .lit (.bool false)]) (aA rfl) Try.zeroValue42 rfl rfl) ?_
    rintro _ ⟨b22, rfl⟩
    refine tr1 rfl (cB (i := 1) rfl rfl rfl rfl rfl Try.sizeOf42 rfl (aA rfl) (Nat.le_of_ble_eq_true rfl) (ds' := (aC x20)) rfl) ?_
    refine aF ?_
    refine aE ?_
    refine tr1 rfl (aD (v := .d (.lit w17)) (aA rfl) rfl rfl) ?_
    refine tr1 rfl (aQ (aA rfl) rfl iN) ?_
    refine tr1 rfl (aT (aA rfl) rfl (i := 1) rfl rfl bD) ?_
    refine tr1 rfl (iE (aA rfl) dO rfl rfl (rows := ([x20.Id]).map bR) rfl (cO (f := bR) fun _ => rfl) rfl (by decide)) ?_
    obtain ⟨x23, h24, h⟩ := bind_some h
    refine bQ rfl (jJ (i := 0) (aA rfl) dO rfl rfl rfl (fun _ => rfl) h24 rfl) ?_
    rintro _ ⟨v25, rfl⟩
    refine tr1 rfl (aJ (v := .d (.lit v25)) (aA rfl) rfl rfl) ?_
    refine eD ?_
    refine aE ?_
    refine tr1 rfl (bA (aA rfl) rfl rfl rfl) ?_
    refine tr1 rfl (aD (v := .d (.lit (.int .i64 ((w64 (t30_0_16 + 1)))))) (aA rfl) rfl rfl) ?_
    refine aF ?_
    exact ⟨(w64 (t30_0_16 + 1), x23, v25), h, aV [0] rfl rfl (aN rfl (aN rfl (aY ⟨rfl, rfl, trivial⟩)))⟩
   ·have h := aR c19 h
    refine cU ?_
    refine .inl ⟨rfl, ?_⟩
    simp only [pY] at h
    refine aG ?_
    refine aE ?_
    refine tr1 rfl (aD (v := .d (.lit w17)) (aA rfl) rfl rfl) ?_
    obtain ⟨r26, h27, h⟩ := bind_some h
    refine bQ rfl (dI (passed := [.arr w17 3 1 (out_0_16.map bR)]) (aA rfl) rfl (.func _ _ Try.call73) rfl rfl (yA out_0_16 h27)) ?_
    rintro _ ⟨_, _, ⟨rfl, rfl⟩, rfl⟩
    refine aF ?_
    refine aG ?_
    refine aE ?_
    refine tr1 rfl (aD (v := .d (.lit w17)) (aA rfl) rfl rfl) ?_
    refine tr1 rfl (aJ (v := .d (.lit w17)) (aA rfl) rfl rfl) ?_
    refine tr1 rfl (aJ (v := .d (.lit (.int .i64 0))) (aA rfl) rfl rfl) ?_
    refine aF ?_
    have h := Option.some.inj h
    subst h
    refine cR (cG (fJ (k := 7) (v := .d (.lit (.int .i64 0))) (.same _) (fJ (k := 6) (v := .d (.sl 1 (r26.map bR))) (.d (eZ 0 rfl (cO (f := bR) fun _ => rfl))) (xT)))) ?_
    exact bO ⟨rfl, _, .two _ _, rfl, rfl⟩

theorem uK (l_0 : aM) (ban_1 : aW) (x_2 : jB) {r : Bool} (h : lD l_0 ban_1 x_2 = some r) : Fn Try.prog 11 [.agg (aX l_0), .agg (aI ban_1), .agg (kI x_2)] (.d (.lit (.bool r))) := by
 unfold lD at h
 refine Fn.of_tr Try.func11 rfl (rs := [.tmp 6]) Try.results11 Try.ntmps11 (Nat.le_of_ble_eq_true rfl) ?_
 refine aG ?_
 refine aE ?_
 refine bQ rfl (fN (v := .agg (aX l_0)) (aA rfl) rfl rfl rfl) ?_
 rintro _ ⟨b1, rfl⟩
 refine bQ rfl (fN (v := .agg (aI ban_1)) (aA rfl) rfl rfl rfl) ?_
 rintro _ ⟨b2, rfl⟩
 refine bQ rfl (fN (v := .agg (kI x_2)) (aA rfl) rfl rfl rfl) ?_
 rintro _ ⟨b3, rfl⟩
 refine tr1 rfl (aJ (v := .d (.lit (.bool false))) (aA rfl) rfl rfl) ?_
 refine aF ?_
 refine aG ?_
 refine aE ?_
 refine tr1 rfl (cY (aA rfl) rfl (i := 0) rfl fL (es := (aX l_0)) rfl rfl) ?_
 obtain ⟨r4, h5, h⟩ := bind_some h
 refine bQ rfl (dI (passed := []) (aA rfl) rfl (.func _ _ Try.call18) rfl rfl (wW _ h5)) ?_
 rintro _ ⟨_, _, ⟨w6, w7, w8, rfl, rfl⟩, rfl⟩
 refine bQ rfl (gB (zs := [.lit (.int .i64 0), .lit (.int .i64 0), .lit (.slice none 0 0), .lit (.slice none 0 0), .lit (.slice none 0 0)]) (aA rfl) Try.zeroValue25 rfl rfl) ?_
 rintro _ ⟨b9, rfl⟩
 refine tr1 rfl (cB (i := 6) rfl rfl rfl rfl rfl Try.sizeOf25 rfl (aA rfl) (Nat.le_of_ble_eq_true rfl) (ds' := [.lit (.int .i64 r4.Players), .lit (.int .i64 r4.Counts), .lit w6, .lit w7, .lit w8]) rfl) ?_
 refine aF ?_
 refine aG ?_
 refine aE ?_
 refine tr1 rfl (aQ (aA rfl) rfl nC) ?_
 refine tr1 rfl (aT (aA rfl) rfl (i := 6) rfl rfl kE) ?_
 refine tr1 rfl (cY (aA rfl) rfl (i := 4) rfl vA (es := (aI ban_1)) rfl rfl) ?_
 refine tr1 rfl (iE (aA rfl) fT rfl rfl (rows := ([ban_1]).map aI) rfl (cO (f := aI) fun _ => rfl) rfl (by decide)) ?_
 obtain ⟨x10, h11, h⟩ := bind_some h
 refine bQ rfl (jJ (i := 1) (aA rfl) fT rfl rfl rfl (fun _ => rfl) h11 rfl) ?_
 rintro _ ⟨v12, rfl⟩
 refine tr1 rfl (aQ (aA rfl) rfl nC) ?_
 refine tr1 rfl (cB (i := 6) rfl rfl rfl rfl rfl Try.sizeOf23 rfl (aA rfl) (Nat.le_of_ble_eq_true rfl) (ds' := [.lit (.int .i64 r4.Players), .lit (.int .i64 r4.Counts), .lit w6, .lit v12, .lit w8]) rfl) ?_
 refine aF ?_
 refine aG ?_
 refine aG ?_
 refine aE ?_
 refine tr1 rfl (cY (aA rfl) rfl (i := 3) rfl fL (es := (aX l_0)) rfl rfl) ?_
 refine tr1 rfl (aQ (aA rfl) rfl tU) ?_
 refine tr1 rfl (aT (aA rfl) rfl (i := 5) rfl rfl bD) ?_
 refine tr1 rfl (aQ (aA rfl) rfl nN) ?_
 refine tr1 rfl (aT (aA rfl) rfl (i := 5) rfl rfl bD) ?_
 obtain ⟨r13, h14, h⟩ := bind_some h
 refine tr1 rfl (cC (aA rfl) (.func _ _ Try.call20) rfl rfl (BVs.refl _ _) (sH _ _ _ h14) rfl) ?_
 refine tr1 rfl (fC (aA rfl) rfl) ?_
 refine tr1 rfl (aD (v := .d (.lit (.bool (!r13)))) (aA rfl) rfl rfl) ?_
 obtain ⟨b15, h16, h⟩ := bind_some h
 refine bX 8 [3, 4, 5, 7] 48 b15 ?_ ?_
 ·refine bG (!r13) (fun c102 => ?_) (fun c102 => ?_)
  ·have h16 := aS c102 h16
   refine aP rfl rfl (aA rfl) rfl (aA rfl) rfl c102 ?_
   refine aP rfl rfl (aA rfl) rfl (aA rfl) rfl c102 ?_
   refine aP rfl rfl (aA rfl) rfl (aA rfl) rfl c102 ?_
   refine aP rfl rfl (aA rfl) rfl (aA rfl) rfl c102 ?_
   refine aP rfl rfl (aA rfl) rfl (aA rfl) rfl c102 ?_
   refine aP rfl rfl (aA rfl) rfl (aA rfl) rfl c102 ?_
   refine aP rfl rfl (aA rfl) rfl (aA rfl) rfl c102 ?_
   refine tr1 rfl (bN (v := .d (.lit (.bool true))) (aA rfl) rfl c102 rfl rfl) ?_
   have h16 := Option.some.inj h16
   subst h16
   refine aF (aZ rfl ⟨rfl, rfl, rfl, rfl, trivial⟩ rfl)
  ·have h16 := aR c102 h16
   refine aL rfl rfl (aA rfl) rfl c102 (cY (aA rfl) rfl (i := 6) rfl fL (es := [.lit (.int .i64 r4.Players), .lit (.int .i64 r4.Counts), .lit w6, .lit v12, .lit w8]) rfl rfl) ?_
   refine aL rfl rfl (aA rfl) rfl c102 (aQ (aA rfl) rfl tU) ?_
   refine aL rfl rfl (aA rfl) rfl c102 (aT (aA rfl) rfl (i := 5) rfl rfl bD) ?_
   refine aL rfl rfl (aA rfl) rfl c102 (aQ (aA rfl) rfl nN) ?_
   refine aL rfl rfl (aA rfl) rfl c102 (aT (aA rfl) rfl (i := 5) rfl rfl bD) ?_
   obtain ⟨r103, h104, h16⟩ := bind_some h16
   refine aL rfl rfl (aA rfl) rfl c102 (cC (aA rfl) (.func _ _ Try.call20) rfl rfl (.cons (.agg (dvc (.same _) (dvc (.same _) (dvc (eZ 0 rfl (cO (f := aC) fun _ => rfl)) (dvc (eZ 1 rfl (cO (f := aI) fun _ => rfl)) (dvc (eZ 2 rfl (cO (f := aI) fun _ => rfl)) dvn)))))) (.cons (.same _) (.cons (.same _) .nil))) (sH _ _ _ h104) rfl) ?_
   refine aL rfl rfl (aA rfl) rfl c102 (fC (aA rfl) rfl) ?_
   refine tr1 rfl (bM (v := .d (.lit (.bool (!r103)))) (aA rfl) rfl c102 rfl rfl) ?_
   have h16 := Option.some.inj h16
   subst h16
   refine aF (aZ rfl ⟨rfl, rfl, rfl, rfl, trivial⟩ rfl)
 ·refine aF ?_
  refine bJ rfl (fun c17 => ?_) (fun c17 => ?_)
  ·have h := aS c17 h
   refine aG ?_
   refine aE ?_
   obtain ⟨r18, h19, h⟩ := bind_some h
   refine tr1 rfl (cC (aA rfl) (.func _ _ Try.call16) rfl rfl (BVs.refl _ _) (sI h19) rfl) ?_
   refine tr1 rfl (aJ (v := .d (.lit (.bool r18))) (aA rfl) rfl rfl) ?_
   refine aF ?_
   have h := Option.some.inj h
   subst h
   refine cR (cG (cK (l := [6]) ⟨rfl, trivial⟩)) ?_
   exact bO ⟨rfl, _, .one _, rfl, rfl⟩
  ·have h := aR c17 h
   refine bH ?_
   refine aG ?_
   refine aE ?_
   refine tr1 rfl (cY (aA rfl) rfl (i := 3) rfl fL (es := (aX l_0)) rfl rfl) ?_
   refine tr1 rfl (aQ (aA rfl) rfl nN) ?_
   refine tr1 rfl (aT (aA rfl) rfl (i := 5) rfl rfl bD) ?_
   obtain ⟨r20, h21, h⟩ := bind_some h
   refine tr1 rfl (lF (aA rfl) (.func _ _ Try.call27) rfl rfl (uV _ _ h21)) ?_
   refine tr1 rfl (aD (v := .tup [.d (.sl 1 (r20.1.map bR)), .d (.lit (.int .i64 r20.2))]) (aA rfl) rfl rfl) ?_
   refine tr1 rfl (cN (aA rfl) rfl rfl) ?_
   refine tr1 rfl (cN (aA rfl) rfl rfl) ?_
   refine tr1 rfl (aJ (v := .d (.sl 1 (r20.1.map bR))) (aA rfl) rfl rfl) ?_
   refine tr1 rfl (aJ (v := .d (.lit (.int .i64 r20.2))) (aA rfl) rfl rfl) ?_
   refine aF ?_
   refine aG ?_
   refine aE ?_
   refine tr1 rfl (cY (aA rfl) rfl (i := 6) rfl fL (es := [.lit (.int .i64 r4.Players), .lit (.int .i64 r4.Counts), .lit w6, .lit v12, .lit w8]) rfl rfl) ?_
   refine tr1 rfl (aQ (aA rfl) rfl nN) ?_
   refine tr1 rfl (aT (aA rfl) rfl (i := 5) rfl rfl bD) ?_
   refine fH (aV [3, 4, 5, 0, 1, 2, 6] rfl rfl (le_refl _)) ?_
   apply xW [.box b1 0 (aX l_0), .box b2 0 (aI ban_1), .box b3 0 (kI x_2)] [.arr w6 42 5 (r4.Reports.map aC), .arr v12 66 3 (x10.map aI), .arr w8 66 3 (r4.Frozen.map aI), .box b9 0 [.lit (.int .i64 r4.Players), .lit (.int .i64 r4.Counts), .lit w6, .lit v12, .lit w8]] rfl
   exact fJ (k := 58) (v := .agg (aX (aM.mk r4.Players r4.Counts r4.Reports x10 r4.Frozen))) (.agg (dvc (.same _) (dvc (.same _) (dvc (eZ 0 rfl (cO (f := aC) fun _ => rfl)) (dvc (eZ 1 rfl (cO (f := aI) fun _ => rfl)) (dvc (eZ 2 rfl (cO (f := aI) fun _ => rfl)) dvn)))))) (fJ (k := 7) (v := .cp [.lit (.int .i64 r4.Players), .lit (.int .i64 r4.Counts), .sl 5 (r4.Reports.map aC), .sl 3 (x10.map aI), .sl 3 (r4.Frozen.map aI)]) ((mC 3 rfl rfl (dvc (.same _) (dvc (.same _) (dvc (eZ 0 rfl (cO (f := aC) fun _ => rfl)) (dvc (eZ 1 rfl (cO (f := aI) fun _ => rfl)) (dvc (eZ 2 rfl (cO (f := aI) fun _ => rfl)) dvn))))))) (qC _ _))
   obtain ⟨r22, h23, h⟩ := bind_some h
   refine tr1 rfl (lF (aA rfl) (.func _ _ Try.call27) rfl rfl (uV _ _ h23)) ?_
   refine tr1 rfl (aD (v := .tup [.d (.sl 1 (r22.1.map bR)), .d (.lit (.int .i64 r22.2))]) (aA rfl) rfl rfl) ?_
   refine tr1 rfl (cN (aA rfl) rfl rfl) ?_
   refine tr1 rfl (cN (aA rfl) rfl rfl) ?_
   refine tr1 rfl (aJ (v := .d (.sl 1 (r22.1.map bR))) (aA rfl) rfl rfl) ?_
   refine tr1 rfl (aJ (v := .d (.lit (.int .i64 r22.2))) (aA rfl) rfl rfl) ?_
   refine aF ?_
   refine aG ?_
   refine aE ?_
   refine tr1 rfl (cY (aA rfl) rfl (i := 0) rfl fL (es := (aX l_0)) rfl rfl) ?_
   refine tr1 rfl (aQ (aA rfl) rfl tU) ?_
   refine tr1 rfl (aT (aA rfl) rfl (i := 2) rfl rfl bD) ?_
   refine tr1 rfl (aQ (aA rfl) rfl nN) ?_
   refine tr1 rfl (aT (aA rfl) rfl (i := 2) rfl rfl bD) ?_
   obtain ⟨r24, h25, h⟩ := bind_some h
   refine tr1 rfl (cC (aA rfl) (.func _ _ Try.call22) rfl rfl (BVs.refl _ _) (wH _ _ _ h25) rfl) ?_
   refine tr1 rfl (aD (v := .tup [.d (.lit (.int .i64 r24.1)), .d (.lit (.int .i64 r24.2))]) (aA rfl) rfl rfl) ?_
   refine tr1 rfl (cN (aA rfl) rfl rfl) ?_
   refine tr1 rfl (cN (aA rfl) rfl rfl) ?_
   refine tr1 rfl (aJ (v := .d (.lit (.int .i64 r24.1))) (aA rfl) rfl rfl) ?_
   refine tr1 rfl (aJ (v := .d (.lit (.int .i64 r24.2))) (aA rfl) rfl rfl) ?_
   refine aF ?_
   refine aG ?_
   refine aE ?_
   refine tr1 rfl (fS (aA rfl) rfl fL (es := (aX (aM.mk r4.Players r4.Counts r4.Reports x10 r4.Frozen))) rfl rfl) ?_
   refine tr1 rfl (aQ (aA rfl) rfl tU) ?_
   refine tr1 rfl (aT (aA rfl) rfl (i := 2) rfl rfl bD) ?_
   refine tr1 rfl (aQ (aA rfl) rfl nN) ?_
   refine tr1 rfl (aT (aA rfl) rfl (i := 2) rfl rfl bD) ?_
   obtain ⟨r26, h27, h⟩ := bind_some h
   refine tr1 rfl (cC (aA rfl) (.func _ _ Try.call22) rfl rfl (BVs.refl _ _) (wH _ _ _ h27) rfl) ?_
   refine tr1 rfl (aD (v := .tup [.d (.lit (.int .i64 r26.1)), .d (.lit (.int .i64 r26.2))]) (aA rfl) rfl rfl) ?_
   refine tr1 rfl (cN (aA rfl) rfl rfl) ?_
   refine tr1 rfl (cN (aA rfl) rfl rfl) ?_
   refine tr1 rfl (aJ (v := .d (.lit (.int .i64 r26.1))) (aA rfl) rfl rfl) ?_
   refine tr1 rfl (aJ (v := .d (.lit (.int .i64 r26.2))) (aA rfl) rfl rfl) ?_
   refine aF ?_
   refine aG ?_
   refine aG ?_
   refine aE ?_
   refine tr1 rfl (aD (v := .d (.lit (.int .i64 r20.2))) (aA rfl) rfl rfl) ?_
   refine tr1 rfl (bC (aA rfl) rfl rfl rfl) ?_
   refine tr1 rfl (aD (v := .d (.lit (.bool ((!decide (r20.2 = 0)))))) (aA rfl) rfl rfl) ?_
   obtain ⟨b28, h29, h⟩ := bind_some h
   refine bX 3 [3, 4, 5, 7, 8, 10, 12, 13, 14, 15] 87 b28 ?_ ?_
   ·refine bG (!decide (r20.2 = 0)) (fun c101 => ?_) (fun c101 => ?_)
    ·have h29 := aS c101 h29
     refine aP rfl rfl (aA rfl) rfl (aA rfl) rfl c101 ?_
     refine aP rfl rfl (aA rfl) rfl (aA rfl) rfl c101 ?_
     refine tr1 rfl (bN (v := .d (.lit (.bool true))) (aA rfl) rfl c101 rfl rfl) ?_
     have h29 := Option.some.inj h29
     subst h29
     refine aF (aZ rfl ⟨rfl, rfl, rfl, rfl, rfl, rfl, rfl, rfl, rfl, rfl, trivial⟩ rfl)
    ·have h29 := aR c101 h29
     refine aL rfl rfl (aA rfl) rfl c101 (aD (v := .d (.lit (.int .i64 r22.2))) (aA rfl) rfl rfl) ?_
     refine aL rfl rfl (aA rfl) rfl c101 (bC (aA rfl) rfl rfl rfl) ?_
     refine tr1 rfl (bM (v := .d (.lit (.bool ((!decide (r22.2 = 0)))))) (aA rfl) rfl c101 rfl rfl) ?_
     have h29 := Option.some.inj h29
     subst h29
     refine aF (aZ rfl ⟨rfl, rfl, rfl, rfl, rfl, rfl, rfl, rfl, rfl, rfl, trivial⟩ rfl)
   ·refine tr1 rfl (aD (v := .d (.lit (.bool b28))) (aA rfl) rfl rfl) ?_
    obtain ⟨b30, h31, h⟩ := bind_some h
    refine bX 3 [3, 4, 5, 7, 8, 10, 12, 14, 15] 91 b30 ?_ ?_
    ·refine bG (b28) (fun c100 => ?_) (fun c100 => ?_)
     ·have h31 := aS c100 h31
      refine aP rfl rfl (aA rfl) rfl (aA rfl) rfl c100 ?_
      refine aP rfl rfl (aA rfl) rfl (aA rfl) rfl c100 ?_
      refine tr1 rfl (bN (v := .d (.lit (.bool true))) (aA rfl) rfl c100 rfl rfl) ?_
      have h31 := Option.some.inj h31
      subst h31
      refine aF (aZ rfl ⟨rfl, rfl, rfl, rfl, rfl, rfl, rfl, rfl, rfl, trivial⟩ rfl)
     ·have h31 := aR c100 h31
      refine aL rfl rfl (aA rfl) rfl c100 (aD (v := .d (.lit (.int .i64 r24.2))) (aA rfl) rfl rfl) ?_
      refine aL rfl rfl (aA rfl) rfl c100 (bC (aA rfl) rfl rfl rfl) ?_
      refine tr1 rfl (bM (v := .d (.lit (.bool ((!decide (r24.2 = 0)))))) (aA rfl) rfl c100 rfl rfl) ?_
      have h31 := Option.some.inj h31
      subst h31
      refine aF (aZ rfl ⟨rfl, rfl, rfl, rfl, rfl, rfl, rfl, rfl, rfl, trivial⟩ rfl)
    ·refine tr1 rfl (aD (v := .d (.lit (.bool b30))) (aA rfl) rfl rfl) ?_
     obtain ⟨b32, h33, h⟩ := bind_some h
     refine bX 3 [3, 4, 5, 7, 8, 10, 12, 14] 95 b32 ?_ ?_
     ·refine bG (b30) (fun c99 => ?_) (fun c99 => ?_)
      ·have h33 := aS c99 h33
       refine aP rfl rfl (aA rfl) rfl (aA rfl) rfl c99 ?_
       refine aP rfl rfl (aA rfl) rfl (aA rfl) rfl c99 ?_
       refine tr1 rfl (bN (v := .d (.lit (.bool true))) (aA rfl) rfl c99 rfl rfl) ?_
       have h33 := Option.some.inj h33
       subst h33
       refine aF (aZ rfl ⟨rfl, rfl, rfl, rfl, rfl, rfl, rfl, rfl, trivial⟩ rfl)
      ·have h33 := aR c99 h33
       refine aL rfl rfl (aA rfl) rfl c99 (aD (v := .d (.lit (.int .i64 r26.2))) (aA rfl) rfl rfl) ?_
       refine aL rfl rfl (aA rfl) rfl c99 (bC (aA rfl) rfl rfl rfl) ?_
       refine tr1 rfl (bM (v := .d (.lit (.bool ((!decide (r26.2 = 0)))))) (aA rfl) rfl c99 rfl rfl) ?_
       have h33 := Option.some.inj h33
       subst h33
       refine aF (aZ rfl ⟨rfl, rfl, rfl, rfl, rfl, rfl, rfl, rfl, trivial⟩ rfl)
     ·refine tr1 rfl (aD (v := .d (.lit (.bool b32))) (aA rfl) rfl rfl) ?_
      obtain ⟨b34, h35, h⟩ := bind_some h
      refine bX 11 [3, 4, 5, 7, 8, 10] 107 b34 ?_ ?_
      ·refine bG (b32) (fun c95 => ?_) (fun c95 => ?_)
       ·have h35 := aS c95 h35
        refine aP rfl rfl (aA rfl) rfl (aA rfl) rfl c95 ?_
        refine aP rfl rfl (aA rfl) rfl (aA rfl) rfl c95 ?_
        refine aP rfl rfl (aA rfl) rfl (aA rfl) rfl c95 ?_
        refine aP rfl rfl (aA rfl) rfl (aA rfl) rfl c95 ?_
        refine aP rfl rfl (aA rfl) rfl (aA rfl) rfl c95 ?_
        refine aP rfl rfl (aA rfl) rfl (aA rfl) rfl c95 ?_
        refine zD rfl rfl (aA rfl) rfl (aA rfl) rfl ?_
        refine zD rfl rfl (aA rfl) rfl (aA rfl) rfl ?_
        refine zD rfl rfl (aA rfl) rfl (aA rfl) rfl ?_
        refine aP rfl rfl (aA rfl) rfl (aA rfl) rfl c95 ?_
        refine tr1 rfl (bN (v := .d (.lit (.bool true))) (aA rfl) rfl c95 rfl rfl) ?_
        have h35 := Option.some.inj h35
        subst h35
        refine aF (aZ rfl ⟨rfl, rfl, rfl, rfl, rfl, rfl, trivial⟩ rfl)
       ·have h35 := aR c95 h35
        refine aL rfl rfl (aA rfl) rfl c95 (aQ (aA rfl) rfl tU) ?_
        refine aL rfl rfl (aA rfl) rfl c95 (aT (aA rfl) rfl (i := 2) rfl rfl bD) ?_
        refine aL rfl rfl (aA rfl) rfl c95 (aQ (aA rfl) rfl jE) ?_
        refine aL rfl rfl (aA rfl) rfl c95 (aT (aA rfl) rfl (i := 1) rfl rfl bD) ?_
        refine aL rfl rfl (aA rfl) rfl c95 (bC (aA rfl) rfl rfl rfl) ?_
        refine aL rfl rfl (aA rfl) rfl c95 (aD (v := .d (.lit (.bool ((!decide (x_2.Player = ban_1.Player)))))) (aA rfl) rfl rfl) ?_
        obtain ⟨b96, h97, h35⟩ := bind_some h35
        refine bX 4 [3, 4, 5, 7, 8, 10, 96] 106 b96 ?_ ?_
        ·refine bG (!decide (x_2.Player = ban_1.Player)) (fun c98 => ?_) (fun c98 => ?_)
         ·have h97 := aS c98 h97
          refine aL rfl rfl (aA rfl) rfl c98 (aD (v := .d (.lit (.int .i64 r24.1))) (aA rfl) rfl rfl) ?_
          refine aL rfl rfl (aA rfl) rfl c98 (aD (v := .d (.lit (.int .i64 r26.1))) (aA rfl) rfl rfl) ?_
          refine aL rfl rfl (aA rfl) rfl c98 (bC (aA rfl) rfl rfl rfl) ?_
          refine aL rfl rfl (aA rfl) rfl c95 (bN (v := .d (.lit (.bool ((!decide (r24.1 = r26.1)))))) (aA rfl) rfl c98 rfl rfl) ?_
          have h97 := Option.some.inj h97
          subst h97
          refine aF (aZ rfl ⟨rfl, rfl, rfl, rfl, rfl, rfl, rfl, trivial⟩ rfl)
         ·have h97 := aR c98 h97
          refine aP rfl rfl (aA rfl) rfl (aA rfl) rfl c98 ?_
          refine aP rfl rfl (aA rfl) rfl (aA rfl) rfl c98 ?_
          refine aP rfl rfl (aA rfl) rfl (aA rfl) rfl c98 ?_
          refine aL rfl rfl (aA rfl) rfl c95 (bM (v := .d (.lit (.bool false))) (aA rfl) rfl c98 rfl rfl) ?_
          have h97 := Option.some.inj h97
          subst h97
          refine aF (aZ rfl ⟨rfl, rfl, rfl, rfl, rfl, rfl, rfl, trivial⟩ rfl)
        ·refine tr1 rfl (bM (v := .d (.lit (.bool b96))) (aA rfl) rfl c95 rfl rfl) ?_
         have h35 := Option.some.inj h35
         subst h35
         refine aF (aZ rfl ⟨rfl, rfl, rfl, rfl, rfl, rfl, trivial⟩ rfl)
      ·refine aF ?_
       refine bJ rfl (fun c36 => ?_) (fun c36 => ?_)
       ·have h := aS c36 h
        refine aG ?_
        refine aE ?_
        refine tr1 rfl (aJ (v := .d (.lit (.bool false))) (aA rfl) rfl rfl) ?_
        refine aF ?_
        have h := Option.some.inj h
        subst h
        refine cR (cG (cK (l := [6]) ⟨rfl, trivial⟩)) ?_
        exact bO ⟨rfl, _, .one _, rfl, rfl⟩
       ·have h := aR c36 h
        refine bH ?_
        refine aG ?_
        refine aE ?_
        refine tr1 rfl (gV 3 1 (.inl rfl) (aA rfl)) ?_
        refine tr1 rfl (gV 3 1 (.inl rfl) (aA rfl)) ?_
        refine aF ?_
        refine aG ?_
        refine aG ?_
        refine aE ?_
        refine tr1 rfl (aJ (v := .d (.lit (.int .i64 0))) (aA rfl) rfl rfl) ?_
        refine aF ?_
        refine bT ?_
        refine cM [3, 4, 5, 7, 8, 10, 17] (fun (s39 : Int × (List Int) × Value) => [(16, .d (.lit s39.2.2)), (18, .d (.lit (.int .i64 s39.1)))]) (fun (s39 : Int × (List Int) × Value) => [.box b1 0 (aX l_0), .box b2 0 (aI ban_1), .box b3 0 (kI x_2), .arr s39.2.2 3 1 (s39.2.1.map bR), .arr (.slice none 0 0) 3 1 (([] : List Int).map bR)]) (fun (k : Nat) (s39 : Int × (List Int) × Value) => eL (aM.mk r4.Players r4.Counts r4.Reports x10 r4.Frozen) r20.1 r22.1 l_0 ban_1 x_2 ([] : List Int) k s39.1 s39.2.1) (fun _ => rfl) (0, ([] : List Int), (.slice none 0 0)) h (aV [0, 1, 2, 3, 4] rfl rfl (aN rfl (aN rfl (aY ⟨rfl, rfl, rfl, rfl, rfl, rfl, rfl, trivial⟩)))) ?_
        rintro k41 ⟨i_0_39, others_0_39, w40⟩ h
        simp only [eL] at h
        refine aG ?_
        refine aG ?_
        refine aE ?_
        refine tr1 rfl (aD (v := .d (.lit (.int .i64 i_0_39))) (aA rfl) rfl rfl) ?_
        refine tr1 rfl (aD (v := .d (.sl 1 (r20.1.map bR))) (aA rfl) rfl rfl) ?_
        refine tr1 rfl (dW (aA rfl) rfl dO.of) ?_
        refine tr1 rfl (bC (aA rfl) rfl rfl rfl) ?_
        refine aF ?_
        refine bJ rfl (fun c42 => ?_) (fun c42 => ?_)
        ·have h := aS c42 h
         refine bH ?_
         refine aG ?_
         refine bT ?_
         refine aG ?_
         obtain ⟨x43, h44, h⟩ := bind_some h
         refine gN mix 6 [3, 4, 5, 7, 8, 10, 16, 17, 18] [(117, .d (.lit (.int .i64 x43))), (119, .d (.lit (.int .i64 ban_1.Player)))] ?_ ?_
         ·refine ⟨[(114, 0, .d (.sl 1 (r20.1.map bR))), (115, 1, .d (.lit (.int .i64 i_0_39))), (116, 2, .cp [.lit (.int .i64 x43)]), (117, 3, .d (.lit (.int .i64 x43))), (118, 4, .bp b2 0 0), (119, 5, .d (.lit (.int .i64 ban_1.Player)))], ?_, ?_⟩
          · exact ⟨by kernel_rfl, by kernel_rfl, by kernel_rfl, by kernel_rfl, by kernel_rfl, [([], []), ([], []), ([0, 1], []), ([2], []), ([], []), ([4], [])], by kernel_rfl, ⟨fun S hS => aK rfl (aO rfl (aD (v := .d (.sl 1 (r20.1.map bR))) (aA rfl) (aH hS rfl) rfl)),
      fun S hS => aK rfl (aO rfl (aD (v := .d (.lit (.int .i64 i_0_39))) (aA rfl) (aH hS rfl) rfl)),
      fun S hS => aK rfl (aO rfl (cA (aA rfl) (aH hS rfl) (aH hS rfl) dO.of (bP bR h44))),
      fun S hS => aK rfl (aO rfl (cL (aA rfl) (aH hS rfl) bD)),
      fun S hS => aK rfl (aO rfl (aQ (aA rfl) (aH hS rfl) jE)),
      fun S hS => aK rfl (aO rfl (aT (aA rfl) (aH hS rfl) (i := 1) rfl rfl bD)), trivial⟩⟩
          · exact eC (aN rfl (aN rfl (aY ⟨rfl, rfl, rfl, rfl, rfl, rfl, rfl, rfl, rfl, trivial⟩)))
         ·refine tr1 rfl (bC (aA rfl) rfl rfl rfl) ?_
          refine aF ?_
          refine bJ rfl (fun c45 => ?_) (fun c45 => ?_)
          ·have h := aS c45 h
           refine aE ?_
           refine tr1 rfl (aD (v := .d (.lit w40)) (aA rfl) rfl rfl) ?_
           refine tr1 rfl (aD (v := .d (.sl 1 (r20.1.map bR))) (aA rfl) rfl rfl) ?_
           refine tr1 rfl (aD (v := .d (.lit (.int .i64 i_0_39))) (aA rfl) rfl rfl) ?_
           obtain ⟨x46, h47, h⟩ := bind_some h
           refine tr1 rfl (cA (aA rfl) rfl rfl dO.of (bP bR h47)) ?_
           refine tr1 rfl (cL (aA rfl) rfl bD) ?_
           refine tr1 rfl (iE (aA rfl) dO rfl rfl (rows := ([x46]).map bR) rfl (cO (f := bR) fun _ => rfl) rfl (by decide)) ?_
           obtain ⟨x48, h49, h⟩ := bind_some h
           refine bQ rfl (jJ (i := 3) (aA rfl) dO rfl rfl rfl (fun _ => rfl) h49 rfl) ?_
           rintro _ ⟨v50, rfl⟩
           refine tr1 rfl (aJ (v := .d (.lit v50)) (aA rfl) rfl rfl) ?_
           refine eD ?_
           refine aE ?_
           refine tr1 rfl (aD (v := .d (.lit (.int .i64 i_0_39))) (aA rfl) rfl rfl) ?_
           refine tr1 rfl (bA (aA rfl) rfl rfl rfl) ?_
           refine tr1 rfl (aJ (v := .d (.lit (.int .i64 ((w64 (i_0_39 + 1)))))) (aA rfl) rfl rfl) ?_
           refine aF ?_
           exact ⟨(w64 (i_0_39 + 1), x48, v50), h, aV [0, 1, 2, 3, 4] rfl rfl (aN rfl (aN rfl (aY ⟨rfl, rfl, rfl, rfl, rfl, rfl, rfl, trivial⟩)))⟩
          ·have h := aR c45 h
           refine eG ?_
           refine aE ?_
           refine tr1 rfl (aD (v := .d (.lit (.int .i64 i_0_39))) (aA rfl) rfl rfl) ?_
           refine tr1 rfl (bA (aA rfl) rfl rfl rfl) ?_
           refine tr1 rfl (aJ (v := .d (.lit (.int .i64 ((w64 (i_0_39 + 1)))))) (aA rfl) rfl rfl) ?_
           refine aF ?_
           exact ⟨(w64 (i_0_39 + 1), others_0_39, w40), h, aV [0, 1, 2, 3, 4] rfl rfl (aN rfl (aN rfl (aY ⟨rfl, rfl, rfl, rfl, rfl, rfl, rfl, trivial⟩)))⟩
        ·have h := aR c42 h
         refine cU ?_
         refine .inl ⟨rfl, ?_⟩
         simp only [jL] at h
         refine aG ?_
         refine aG ?_
         refine aE ?_
         refine tr1 rfl (aJ (v := .d (.lit (.int .i64 0))) (aA rfl) rfl rfl) ?_
         refine aF ?_
         refine bT ?_
         refine cM [3, 4, 5, 7, 10, 16] (fun (s51 : Int × (List Int) × Value) => [(17, .d (.lit s51.2.2)), (19, .d (.lit (.int .i64 s51.1)))]) (fun (s51 : Int × (List Int) × Value) => [.box b1 0 (aX l_0), .box b2 0 (aI ban_1), .box b3 0 (kI x_2), .arr w40 3 1 (others_0_39.map bR), .arr s51.2.2 3 1 (s51.2.1.map bR)]) (fun (k : Nat) (s51 : Int × (List Int) × Value) => eM (aM.mk r4.Players r4.Counts r4.Reports x10 r4.Frozen) r22.1 l_0 ban_1 x_2 others_0_39 k s51.1 s51.2.1) (fun _ => rfl) (0, ([] : List Int), (.slice none 0 0)) h (aV [0, 1, 2, 3, 4] rfl rfl (aN rfl (aN rfl (aY ⟨rfl, rfl, rfl, rfl, rfl, rfl, trivial⟩)))) ?_
         rintro k53 ⟨i_2_51, same_2_51, w52⟩ h
         simp only [eM] at h
         refine aG ?_
         refine aG ?_
         refine aE ?_
         refine tr1 rfl (aD (v := .d (.lit (.int .i64 i_2_51))) (aA rfl) rfl rfl) ?_
         refine tr1 rfl (aD (v := .d (.sl 1 (r22.1.map bR))) (aA rfl) rfl rfl) ?_
         refine tr1 rfl (dW (aA rfl) rfl dO.of) ?_
         refine tr1 rfl (bC (aA rfl) rfl rfl rfl) ?_
         refine aF ?_
         refine bJ rfl (fun c54 => ?_) (fun c54 => ?_)
         ·have h := aS c54 h
          refine bH ?_
          refine aG ?_
          refine bT ?_
          refine aG ?_
          obtain ⟨x55, h56, h⟩ := bind_some h
          refine gN mix 6 [3, 4, 5, 7, 10, 16, 17, 19] [(137, .d (.lit (.int .i64 x55))), (139, .d (.lit (.int .i64 ban_1.Player)))] ?_ ?_
          ·refine ⟨[(134, 0, .d (.sl 1 (r22.1.map bR))), (135, 1, .d (.lit (.int .i64 i_2_51))), (136, 2, .cp [.lit (.int .i64 x55)]), (137, 3, .d (.lit (.int .i64 x55))), (138, 4, .bp b2 0 0), (139, 5, .d (.lit (.int .i64 ban_1.Player)))], ?_, ?_⟩
           · exact ⟨by kernel_rfl, by kernel_rfl, by kernel_rfl, by kernel_rfl, by kernel_rfl, [([], []), ([], []), ([0, 1], []), ([2], []), ([], []), ([4], [])], by kernel_rfl, ⟨fun S hS => aK rfl (aO rfl (aD (v := .d (.sl 1 (r22.1.map bR))) (aA rfl) (aH hS rfl) rfl)),
      fun S hS => aK rfl (aO rfl (aD (v := .d (.lit (.int .i64 i_2_51))) (aA rfl) (aH hS rfl) rfl)),
      fun S hS => aK rfl (aO rfl (cA (aA rfl) (aH hS rfl) (aH hS rfl) dO.of (bP bR h56))),
      fun S hS => aK rfl (aO rfl (cL (aA rfl) (aH hS rfl) bD)),
      fun S hS => aK rfl (aO rfl (aQ (aA rfl) (aH hS rfl) jE)),
      fun S hS => aK rfl (aO rfl (aT (aA rfl) (aH hS rfl) (i := 1) rfl rfl bD)), trivial⟩⟩
           · exact eC (aN rfl (aN rfl (aY ⟨rfl, rfl, rfl, rfl, rfl, rfl, rfl, rfl, trivial⟩)))
          ·refine tr1 rfl (bC (aA rfl) rfl rfl rfl) ?_
           refine aF ?_
           refine bJ rfl (fun c57 => ?_) (fun c57 => ?_)
           ·have h := aS c57 h
            refine aE ?_
            refine tr1 rfl (aD (v := .d (.lit w52)) (aA rfl) rfl rfl) ?_
            refine tr1 rfl (aD (v := .d (.sl 1 (r22.1.map bR))) (aA rfl) rfl rfl) ?_
            refine tr1 rfl (aD (v := .d (.lit (.int .i64 i_2_51))) (aA rfl) rfl rfl) ?_
            obtain ⟨x58, h59, h⟩ := bind_some h
            refine tr1 rfl (cA (aA rfl) rfl rfl dO.of (bP bR h59)) ?_
            refine tr1 rfl (cL (aA rfl) rfl bD) ?_
            refine tr1 rfl (iE (aA rfl) dO rfl rfl (rows := ([x58]).map bR) rfl (cO (f := bR) fun _ => rfl) rfl (by decide)) ?_
            obtain ⟨x60, h61, h⟩ := bind_some h
            refine bQ rfl (jJ (i := 4) (aA rfl) dO rfl rfl rfl (fun _ => rfl) h61 rfl) ?_
            rintro _ ⟨v62, rfl⟩
            refine tr1 rfl (aJ (v := .d (.lit v62)) (aA rfl) rfl rfl) ?_
            refine eD ?_
            refine aE ?_
            refine tr1 rfl (aD (v := .d (.lit (.int .i64 i_2_51))) (aA rfl) rfl rfl) ?_
            refine tr1 rfl (bA (aA rfl) rfl rfl rfl) ?_
            refine tr1 rfl (aJ (v := .d (.lit (.int .i64 ((w64 (i_2_51 + 1)))))) (aA rfl) rfl rfl) ?_
            refine aF ?_
            exact ⟨(w64 (i_2_51 + 1), x60, v62), h, aV [0, 1, 2, 3, 4] rfl rfl (aN rfl (aN rfl (aY ⟨rfl, rfl, rfl, rfl, rfl, rfl, trivial⟩)))⟩
           ·have h := aR c57 h
            refine aG ?_
            refine aE ?_
            refine tr1 rfl (aQ (aA rfl) rfl nN) ?_
            refine tr1 rfl (aT (aA rfl) rfl (i := 2) rfl rfl bD) ?_
            refine tr1 rfl (aQ (aA rfl) rfl iO) ?_
            refine tr1 rfl (aT (aA rfl) rfl (i := 1) rfl rfl bD) ?_
            refine tr1 rfl (bC (aA rfl) rfl rfl rfl) ?_
            refine tr1 rfl (aD (v := .d (.lit (.bool ((decide (ban_1.From ≤ x_2.Week)))))) (aA rfl) rfl rfl) ?_
            obtain ⟨b63, h64, h⟩ := bind_some h
            refine bX 6 [3, 4, 5, 7, 10, 16, 17, 19] 159 b63 ?_ ?_
            ·refine bG (decide (ban_1.From ≤ x_2.Week)) (fun c66 => ?_) (fun c66 => ?_)
             ·have h64 := aS c66 h64
              refine aL rfl rfl (aA rfl) rfl c66 (aQ (aA rfl) rfl nN) ?_
              refine aL rfl rfl (aA rfl) rfl c66 (aT (aA rfl) rfl (i := 2) rfl rfl bD) ?_
              refine aL rfl rfl (aA rfl) rfl c66 (aQ (aA rfl) rfl kK) ?_
              refine aL rfl rfl (aA rfl) rfl c66 (aT (aA rfl) rfl (i := 1) rfl rfl bD) ?_
              refine aL rfl rfl (aA rfl) rfl c66 (bC (aA rfl) rfl rfl rfl) ?_
              refine tr1 rfl (bN (v := .d (.lit (.bool ((decide (x_2.Week ≤ ban_1.To)))))) (aA rfl) rfl c66 rfl rfl) ?_
              have h64 := Option.some.inj h64
              subst h64
              refine aF (aZ rfl ⟨rfl, rfl, rfl, rfl, rfl, rfl, rfl, rfl, trivial⟩ rfl)
             ·have h64 := aR c66 h64
              refine aP rfl rfl (aA rfl) rfl (aA rfl) rfl c66 ?_
              refine aP rfl rfl (aA rfl) rfl (aA rfl) rfl c66 ?_
              refine aP rfl rfl (aA rfl) rfl (aA rfl) rfl c66 ?_
              refine aP rfl rfl (aA rfl) rfl (aA rfl) rfl c66 ?_
              refine aP rfl rfl (aA rfl) rfl (aA rfl) rfl c66 ?_
              refine tr1 rfl (bM (v := .d (.lit (.bool false))) (aA rfl) rfl c66 rfl rfl) ?_
              have h64 := Option.some.inj h64
              subst h64
              refine aF (aZ rfl ⟨rfl, rfl, rfl, rfl, rfl, rfl, rfl, rfl, trivial⟩ rfl)
            ·refine aF ?_
             refine bJ rfl (fun c65 => ?_) (fun c65 => ?_)
             ·have h := aS c65 h
              refine aG ?_
              refine aE ?_
              refine tr1 rfl (aJ (v := .d (.lit (.bool false))) (aA rfl) rfl rfl) ?_
              refine aF ?_
              have h := Option.some.inj h
              subst h
              refine cR (cG (cK (l := [6]) ⟨rfl, trivial⟩)) ?_
              exact bO ⟨rfl, _, .one _, rfl, rfl⟩
             ·have h := aR c65 h
              refine eG ?_
              refine aE ?_
              refine tr1 rfl (aD (v := .d (.lit (.int .i64 i_2_51))) (aA rfl) rfl rfl) ?_
              refine tr1 rfl (bA (aA rfl) rfl rfl rfl) ?_
              refine tr1 rfl (aJ (v := .d (.lit (.int .i64 ((w64 (i_2_51 + 1)))))) (aA rfl) rfl rfl) ?_
              refine aF ?_
              exact ⟨(w64 (i_2_51 + 1), same_2_51, w52), h, aV [0, 1, 2, 3, 4] rfl rfl (aN rfl (aN rfl (aY ⟨rfl, rfl, rfl, rfl, rfl, rfl, trivial⟩)))⟩
         ·have h := aR c54 h
          refine cU ?_
          refine .inl ⟨rfl, ?_⟩
          simp only [jM] at h
          refine aG ?_
          refine aG ?_
          refine aE ?_
          refine tr1 rfl (aD (v := .d (.lit w40)) (aA rfl) rfl rfl) ?_
          refine tr1 rfl (aD (v := .d (.lit w52)) (aA rfl) rfl rfl) ?_
          obtain ⟨r67, h68, h⟩ := bind_some h
          refine tr1 rfl (cC (aA rfl) (.func _ _ Try.call32) rfl rfl (.cons (.d (eZ 3 rfl (cO (f := bR) fun _ => rfl))) (.cons (.d (eZ 4 rfl (cO (f := bR) fun _ => rfl))) .nil)) (qN _ _ h68) rfl) ?_
          refine tr1 rfl (fC (aA rfl) rfl) ?_
          refine aF ?_
          refine bJ rfl (fun c69 => ?_) (fun c69 => ?_)
          ·have h := aS c69 h
           refine aG ?_
           refine aE ?_
           refine tr1 rfl (aJ (v := .d (.lit (.bool false))) (aA rfl) rfl rfl) ?_
           refine aF ?_
           have h := Option.some.inj h
           subst h
           refine cR (cG (cK (l := [6]) ⟨rfl, trivial⟩)) ?_
           exact bO ⟨rfl, _, .one _, rfl, rfl⟩
          ·have h := aR c69 h
           refine bH ?_
           refine aG ?_
           refine aE ?_
           refine tr1 rfl (fS (aA rfl) rfl fL (es := (aX (aM.mk r4.Players r4.Counts r4.Reports x10 r4.Frozen))) rfl rfl) ?_
           refine tr1 rfl (aQ (aA rfl) rfl jE) ?_
           refine tr1 rfl (aT (aA rfl) rfl (i := 1) rfl rfl bD) ?_
           refine tr1 rfl (aQ (aA rfl) rfl nN) ?_
           refine tr1 rfl (aT (aA rfl) rfl (i := 2) rfl rfl bD) ?_
           obtain ⟨r70, h71, h⟩ := bind_some h
           refine tr1 rfl (lF (aA rfl) (.func _ _ Try.call38) rfl rfl (aCp _ _ _ h71)) ?_
           refine tr1 rfl (aD (v := .tup [.d (.sl 1 (r70.1.map bR)), .d (.lit (.int .i64 r70.2))]) (aA rfl) rfl rfl) ?_
           refine tr1 rfl (cN (aA rfl) rfl rfl) ?_
           refine tr1 rfl (cN (aA rfl) rfl rfl) ?_
           refine tr1 rfl (aJ (v := .d (.sl 1 (r70.1.map bR))) (aA rfl) rfl rfl) ?_
           refine tr1 rfl (aJ (v := .d (.lit (.int .i64 r70.2))) (aA rfl) rfl rfl) ?_
           refine aF ?_
           refine aG ?_
           refine aG ?_
           refine aE ?_
           refine tr1 rfl (aJ (v := .d (.lit (.int .i64 0))) (aA rfl) rfl rfl) ?_
           refine aF ?_
           refine bT ?_
           refine cM [3, 4, 20, 21] (fun (s72 : Int) => [(22, .d (.lit (.int .i64 s72)))]) (fun (s72 : Int) => [.box b1 0 (aX l_0), .box b2 0 (aI ban_1)]) (fun (k : Nat) (s72 : Int) => eE r70.1 r70.2 l_0 ban_1 k s72) (fun _ => rfl) (0) h (aV [0, 1] rfl rfl (aN rfl (aY ⟨rfl, rfl, rfl, rfl, trivial⟩))) ?_
           rintro k73 k_4_72 h
           simp only [eE] at h
           refine aG ?_
           refine aG ?_
           refine aE ?_
           refine tr1 rfl (aD (v := .d (.lit (.int .i64 k_4_72))) (aA rfl) rfl rfl) ?_
           refine tr1 rfl (aD (v := .d (.sl 1 (r70.1.map bR))) (aA rfl) rfl rfl) ?_
           refine tr1 rfl (dW (aA rfl) rfl dO.of) ?_
           refine tr1 rfl (bC (aA rfl) rfl rfl rfl) ?_
           refine aF ?_
           refine bJ rfl (fun c74 => ?_) (fun c74 => ?_)
           ·have h := aS c74 h
            refine bH ?_
            refine aG ?_
            refine bT ?_
            refine aG ?_
            refine aE ?_
            refine tr1 rfl (aJ (v := .d (.lit (.int .i64 0))) (aA rfl) rfl rfl) ?_
            refine aF ?_
            refine vN ?_
            refine cM [3, 4, 20, 21, 22] (fun (s75 : Int) => [(23, .d (.lit (.int .i64 s75)))]) (fun (s75 : Int) => [.box b1 0 (aX l_0), .box b2 0 (aI ban_1)]) (fun (k : Nat) (s75 : Int) => eN (eE r70.1 r70.2 l_0 ban_1 k73) r70.1 r70.2 k_4_72 l_0 ban_1 k s75) (fun _ => rfl) (0) h (aV [0, 1] rfl rfl (aN rfl (aY ⟨rfl, rfl, rfl, rfl, rfl, trivial⟩))) ?_
            rintro k76 j_6_75 h
            simp only [eN] at h
            refine aG ?_
            refine aG ?_
            refine aE ?_
            refine tr1 rfl (aD (v := .d (.lit (.int .i64 j_6_75))) (aA rfl) rfl rfl) ?_
            refine tr1 rfl (aQ (aA rfl) rfl eR) ?_
            refine tr1 rfl (aT (aA rfl) rfl (i := 0) rfl rfl jI) ?_
            refine tr1 rfl (dW (aA rfl) rfl cD.of) ?_
            refine tr1 rfl (bC (aA rfl) rfl rfl rfl) ?_
            refine aF ?_
            refine bJ rfl (fun c77 => ?_) (fun c77 => ?_)
            ·have h := aS c77 h
             refine bH ?_
             refine aG ?_
             refine bT ?_
             refine aG ?_
             refine aE ?_
             refine tr1 rfl (aQ (aA rfl) rfl eR) ?_
             refine tr1 rfl (aT (aA rfl) rfl (i := 0) rfl rfl jI) ?_
             refine tr1 rfl (aD (v := .d (.lit (.int .i64 j_6_75))) (aA rfl) rfl rfl) ?_
             obtain ⟨x78, h79, h⟩ := bind_some h
             refine tr1 rfl (cA (aA rfl) rfl rfl cD.of (bP aC h79)) ?_
             refine tr1 rfl (fS (aA rfl) rfl eB (es := (aC x78)) rfl rfl) ?_
             refine bQ rfl (gB (zs := [.lit (.int .i64 0), .lit (.int .i64 0), .lit (.int .i64 0), .lit (.int .i64 0), .lit (.bool false)]) (aA rfl) Try.zeroValue42 rfl rfl) ?_
             rintro _ ⟨b80, rfl⟩
             refine tr1 rfl (cB (i := 2) rfl rfl rfl rfl rfl Try.sizeOf42 rfl (aA rfl) (Nat.le_of_ble_eq_true rfl) (ds' := (aC x78)) rfl) ?_
             refine aF ?_
             refine aG ?_
             obtain ⟨x81, h82, h⟩ := bind_some h
             obtain ⟨b83, h84, h⟩ := bind_some h
             obtain ⟨b86, h87, h⟩ := bind_some h
             refine gN mix 21 [3, 4, 20, 21, 22, 23] [(211, .d (.lit (.bool b86)))] ?_ ?_
             ·refine bG (decide (x78.Id = x81)) (fun c85 => ?_) (fun c85 => ?_)
              ·have h84 := aS c85 h84
               have h84 := Option.some.inj h84
               subst h84
               refine bG (decide (ban_1.From ≤ x78.Week)) (fun c88 => ?_) (fun c88 => ?_)
               ·have h87 := aS c88 h87
                have h87 := Option.some.inj h87
                subst h87
                refine ⟨[(191, 0, .bp b80 0 0), (192, 1, .d (.lit (.int .i64 x78.Id))), (193, 2, .d (.sl 1 (r70.1.map bR))), (194, 3, .d (.lit (.int .i64 k_4_72))), (195, 4, .cp [.lit (.int .i64 x81)]), (196, 5, .d (.lit (.int .i64 x81))), (197, 6, .d (.lit (.bool ((decide (x78.Id = x81)))))), (198, 7, .d (.lit (.bool ((decide (x78.Id = x81)))))), (199, 8, .bp b80 0 2), (200, 9, .d (.lit (.int .i64 x78.Week))), (201, 10, .bp b2 0 1), (202, 11, .d (.lit (.int .i64 ban_1.From))), (203, 12, .d (.lit (.bool ((decide (ban_1.From ≤ x78.Week)))))), (204, 13, .d (.lit (.bool ((decide (ban_1.From ≤ x78.Week)))))), (205, 14, .d (.lit (.bool (decide (ban_1.From ≤ x78.Week))))), (206, 15, .bp b80 0 2), (207, 16, .d (.lit (.int .i64 x78.Week))), (208, 17, .bp b2 0 2), (209, 18, .d (.lit (.int .i64 ban_1.To))), (210, 19, .d (.lit (.bool ((decide (x78.Week ≤ ban_1.To)))))), (211, 20, .d (.lit (.bool ((decide (x78.Week ≤ ban_1.To))))))], ?_, ?_⟩
                · exact ⟨by kernel_rfl, by kernel_rfl, by kernel_rfl, by kernel_rfl, by kernel_rfl, [([], []), ([0], []), ([], []), ([], []), ([2, 3], []), ([4], []), ([1, 5], []), ([6], []), ([7], []), ([7, 8], []), ([7], []), ([7, 10], []), ([7, 9, 11], []), ([7, 12], []), ([13], []), ([14], []), ([14, 15], []), ([14], []), ([14, 17], []), ([14, 16, 18], []), ([14, 19], [])], by kernel_rfl, ⟨fun S hS => aK rfl (aO rfl (aQ (aA rfl) (aH hS rfl) iN)),
      fun S hS => aK rfl (aO rfl (aT (aA rfl) (aH hS rfl) (i := 2) rfl rfl bD)),
      fun S hS => aK rfl (aO rfl (aD (v := .d (.sl 1 (r70.1.map bR))) (aA rfl) (aH hS rfl) rfl)),
      fun S hS => aK rfl (aO rfl (aD (v := .d (.lit (.int .i64 k_4_72))) (aA rfl) (aH hS rfl) rfl)),
      fun S hS => aK rfl (aO rfl (cA (aA rfl) (aH hS rfl) (aH hS rfl) dO.of (bP bR h82))),
      fun S hS => aK rfl (aO rfl (cL (aA rfl) (aH hS rfl) bD)),
      fun S hS => aK rfl (aO rfl (bC (aA rfl) (aH hS rfl) (aH hS rfl) rfl)),
      fun S hS => aK rfl (aO rfl (aD (v := .d (.lit (.bool ((decide (x78.Id = x81)))))) (aA rfl) (aH hS rfl) rfl)),
      fun S hS => aK rfl (bI rfl rfl (aA rfl) (aU hS rfl) c85 (aQ (aA rfl) (aH hS rfl) kJ)),
      fun S hS => aK rfl (bI rfl rfl (aA rfl) (aU hS rfl) c85 (aT (aA rfl) (aH hS rfl) (i := 2) rfl rfl bD)),
      fun S hS => aK rfl (bI rfl rfl (aA rfl) (aU hS rfl) c85 (aQ (aA rfl) (aH hS rfl) iO)),
      fun S hS => aK rfl (bI rfl rfl (aA rfl) (aU hS rfl) c85 (aT (aA rfl) (aH hS rfl) (i := 1) rfl rfl bD)),
      fun S hS => aK rfl (bI rfl rfl (aA rfl) (aU hS rfl) c85 (bC (aA rfl) (aH hS rfl) (aH hS rfl) rfl)),
      fun S hS => aK rfl (aO rfl (bN (v := .d (.lit (.bool ((decide (ban_1.From ≤ x78.Week)))))) (aA rfl) (aH hS rfl) c85 (aH hS rfl) rfl)),
      fun S hS => aK rfl (aO rfl (aD (v := .d (.lit (.bool (decide (ban_1.From ≤ x78.Week))))) (aA rfl) (aH hS rfl) rfl)),
      fun S hS => aK rfl (bI rfl rfl (aA rfl) (aU hS rfl) c88 (aQ (aA rfl) (aH hS rfl) kJ)),
      fun S hS => aK rfl (bI rfl rfl (aA rfl) (aU hS rfl) c88 (aT (aA rfl) (aH hS rfl) (i := 2) rfl rfl bD)),
      fun S hS => aK rfl (bI rfl rfl (aA rfl) (aU hS rfl) c88 (aQ (aA rfl) (aH hS rfl) kK)),
      fun S hS => aK rfl (bI rfl rfl (aA rfl) (aU hS rfl) c88 (aT (aA rfl) (aH hS rfl) (i := 1) rfl rfl bD)),
      fun S hS => aK rfl (bI rfl rfl (aA rfl) (aU hS rfl) c88 (bC (aA rfl) (aH hS rfl) (aH hS rfl) rfl)),
      fun S hS => aK rfl (aO rfl (bN (v := .d (.lit (.bool ((decide (x78.Week ≤ ban_1.To)))))) (aA rfl) (aH hS rfl) c88 (aH hS rfl) rfl)), trivial⟩⟩
                · exact eC (aN rfl (aY ⟨rfl, rfl, rfl, rfl, rfl, rfl, trivial⟩))
               ·have h87 := aR c88 h87
                have h87 := Option.some.inj h87
                subst h87
                refine ⟨[(191, 0, .bp b80 0 0), (192, 1, .d (.lit (.int .i64 x78.Id))), (193, 2, .d (.sl 1 (r70.1.map bR))), (194, 3, .d (.lit (.int .i64 k_4_72))), (195, 4, .cp [.lit (.int .i64 x81)]), (196, 5, .d (.lit (.int .i64 x81))), (197, 6, .d (.lit (.bool ((decide (x78.Id = x81)))))), (198, 7, .d (.lit (.bool ((decide (x78.Id = x81)))))), (199, 8, .bp b80 0 2), (200, 9, .d (.lit (.int .i64 x78.Week))), (201, 10, .bp b2 0 1), (202, 11, .d (.lit (.int .i64 ban_1.From))), (203, 12, .d (.lit (.bool ((decide (ban_1.From ≤ x78.Week)))))), (204, 13, .d (.lit (.bool ((decide (ban_1.From ≤ x78.Week)))))), (205, 14, .d (.lit (.bool (decide (ban_1.From ≤ x78.Week))))), (206, 15, .tup []), (207, 16, .tup []), (208, 17, .tup []), (209, 18, .tup []), (210, 19, .tup []), (211, 20, .d (.lit (.bool false)))], ?_, ?_⟩
                · exact ⟨by kernel_rfl, by kernel_rfl, by kernel_rfl, by kernel_rfl, by kernel_rfl, [([], []), ([0], []), ([], []), ([], []), ([2, 3], []), ([4], []), ([1, 5], []), ([6], []), ([7], []), ([7, 8], []), ([7], []), ([7, 10], []), ([7, 9, 11], []), ([7, 12], []), ([13], []), ([14], []), ([14, 15], []), ([14], []), ([14, 17], []), ([14, 16, 18], []), ([14, 19], [])], by kernel_rfl, ⟨fun S hS => aK rfl (aO rfl (aQ (aA rfl) (aH hS rfl) iN)),
      fun S hS => aK rfl (aO rfl (aT (aA rfl) (aH hS rfl) (i := 2) rfl rfl bD)),
      fun S hS => aK rfl (aO rfl (aD (v := .d (.sl 1 (r70.1.map bR))) (aA rfl) (aH hS rfl) rfl)),
      fun S hS => aK rfl (aO rfl (aD (v := .d (.lit (.int .i64 k_4_72))) (aA rfl) (aH hS rfl) rfl)),
      fun S hS => aK rfl (aO rfl (cA (aA rfl) (aH hS rfl) (aH hS rfl) dO.of (bP bR h82))),
      fun S hS => aK rfl (aO rfl (cL (aA rfl) (aH hS rfl) bD)),
      fun S hS => aK rfl (aO rfl (bC (aA rfl) (aH hS rfl) (aH hS rfl) rfl)),
      fun S hS => aK rfl (aO rfl (aD (v := .d (.lit (.bool ((decide (x78.Id = x81)))))) (aA rfl) (aH hS rfl) rfl)),
      fun S hS => aK rfl (bI rfl rfl (aA rfl) (aU hS rfl) c85 (aQ (aA rfl) (aH hS rfl) kJ)),
      fun S hS => aK rfl (bI rfl rfl (aA rfl) (aU hS rfl) c85 (aT (aA rfl) (aH hS rfl) (i := 2) rfl rfl bD)),
      fun S hS => aK rfl (bI rfl rfl (aA rfl) (aU hS rfl) c85 (aQ (aA rfl) (aH hS rfl) iO)),
      fun S hS => aK rfl (bI rfl rfl (aA rfl) (aU hS rfl) c85 (aT (aA rfl) (aH hS rfl) (i := 1) rfl rfl bD)),
      fun S hS => aK rfl (bI rfl rfl (aA rfl) (aU hS rfl) c85 (bC (aA rfl) (aH hS rfl) (aH hS rfl) rfl)),
      fun S hS => aK rfl (aO rfl (bN (v := .d (.lit (.bool ((decide (ban_1.From ≤ x78.Week)))))) (aA rfl) (aH hS rfl) c85 (aH hS rfl) rfl)),
      fun S hS => aK rfl (aO rfl (aD (v := .d (.lit (.bool (decide (ban_1.From ≤ x78.Week))))) (aA rfl) (aH hS rfl) rfl)),
      fun S hS => aK rfl (bF rfl rfl (aA rfl) rfl (aA rfl) (aU hS rfl) c88),
      fun S hS => aK rfl (bF rfl rfl (aA rfl) rfl (aA rfl) (aU hS rfl) c88),
      fun S hS => aK rfl (bF rfl rfl (aA rfl) rfl (aA rfl) (aU hS rfl) c88),
      fun S hS => aK rfl (bF rfl rfl (aA rfl) rfl (aA rfl) (aU hS rfl) c88),
      fun S hS => aK rfl (bF rfl rfl (aA rfl) rfl (aA rfl) (aU hS rfl) c88),
      fun S hS => aK rfl (aO rfl (bM (v := .d (.lit (.bool false))) (aA rfl) (aH hS rfl) c88 rfl rfl)), trivial⟩⟩
                · exact eC (aN rfl (aY ⟨rfl, rfl, rfl, rfl, rfl, rfl, trivial⟩))
              ·have h84 := aR c85 h84
               have h84 := Option.some.inj h84
               subst h84
               have c88 : false = false := rfl
               have h87 := aR c88 h87
               have h87 := Option.some.inj h87
               subst h87
               refine ⟨[(191, 0, .bp b80 0 0), (192, 1, .d (.lit (.int .i64 x78.Id))), (193, 2, .d (.sl 1 (r70.1.map bR))), (194, 3, .d (.lit (.int .i64 k_4_72))), (195, 4, .cp [.lit (.int .i64 x81)]), (196, 5, .d (.lit (.int .i64 x81))), (197, 6, .d (.lit (.bool ((decide (x78.Id = x81)))))), (198, 7, .d (.lit (.bool ((decide (x78.Id = x81)))))), (199, 8, .tup []), (200, 9, .tup []), (201, 10, .tup []), (202, 11, .tup []), (203, 12, .tup []), (204, 13, .d (.lit (.bool false))), (205, 14, .d (.lit (.bool (false)))), (206, 15, .tup []), (207, 16, .tup []), (208, 17, .tup []), (209, 18, .tup []), (210, 19, .tup []), (211, 20, .d (.lit (.bool false)))], ?_, ?_⟩
               · exact ⟨by kernel_rfl, by kernel_rfl, by kernel_rfl, by kernel_rfl, by kernel_rfl, [([], []), ([0], []), ([], []), ([], []), ([2, 3], []), ([4], []), ([1, 5], []), ([6], []), ([7], []), ([7, 8], []), ([7], []), ([7, 10], []), ([7, 9, 11], []), ([7, 12], []), ([13], []), ([14], []), ([14, 15], []), ([14], []), ([14, 17], []), ([14, 16, 18], []), ([14, 19], [])], by kernel_rfl, ⟨fun S hS => aK rfl (aO rfl (aQ (aA rfl) (aH hS rfl) iN)),
      fun S hS => aK rfl (aO rfl (aT (aA rfl) (aH hS rfl) (i := 2) rfl rfl bD)),
      fun S hS => aK rfl (aO rfl (aD (v := .d (.sl 1 (r70.1.map bR))) (aA rfl) (aH hS rfl) rfl)),
      fun S hS => aK rfl (aO rfl (aD (v := .d (.lit (.int .i64 k_4_72))) (aA rfl) (aH hS rfl) rfl)),
      fun S hS => aK rfl (aO rfl (cA (aA rfl) (aH hS rfl) (aH hS rfl) dO.of (bP bR h82))),
      fun S hS => aK rfl (aO rfl (cL (aA rfl) (aH hS rfl) bD)),
      fun S hS => aK rfl (aO rfl (bC (aA rfl) (aH hS rfl) (aH hS rfl) rfl)),
      fun S hS => aK rfl (aO rfl (aD (v := .d (.lit (.bool ((decide (x78.Id = x81)))))) (aA rfl) (aH hS rfl) rfl)),
      fun S hS => aK rfl (bF rfl rfl (aA rfl) rfl (aA rfl) (aU hS rfl) c85),
      fun S hS => aK rfl (bF rfl rfl (aA rfl) rfl (aA rfl) (aU hS rfl) c85),
      fun S hS => aK rfl (bF rfl rfl (aA rfl) rfl (aA rfl) (aU hS rfl) c85),
      fun S hS => aK rfl (bF rfl rfl (aA rfl) rfl (aA rfl) (aU hS rfl) c85),
      fun S hS => aK rfl (bF rfl rfl (aA rfl) rfl (aA rfl) (aU hS rfl) c85),
      fun S hS => aK rfl (aO rfl (bM (v := .d (.lit (.bool false))) (aA rfl) (aH hS rfl) c85 rfl rfl)),
      fun S hS => aK rfl (aO rfl (aD (v := .d (.lit (.bool (false)))) (aA rfl) (aH hS rfl) rfl)),
      fun S hS => aK rfl (bF rfl rfl (aA rfl) rfl (aA rfl) (aU hS rfl) c88),
      fun S hS => aK rfl (bF rfl rfl (aA rfl) rfl (aA rfl) (aU hS rfl) c88),
      fun S hS => aK rfl (bF rfl rfl (aA rfl) rfl (aA rfl) (aU hS rfl) c88),
      fun S hS => aK rfl (bF rfl rfl (aA rfl) rfl (aA rfl) (aU hS rfl) c88),
      fun S hS => aK rfl (bF rfl rfl (aA rfl) rfl (aA rfl) (aU hS rfl) c88),
      fun S hS => aK rfl (aO rfl (bM (v := .d (.lit (.bool false))) (aA rfl) (aH hS rfl) c88 rfl rfl)), trivial⟩⟩
               · exact eC (aN rfl (aY ⟨rfl, rfl, rfl, rfl, rfl, rfl, trivial⟩))
             ·refine aF ?_
              refine bJ rfl (fun c89 => ?_) (fun c89 => ?_)
              ·have h := aS c89 h
               refine aG ?_
               refine aE ?_
               refine tr1 rfl (aJ (v := .d (.lit (.bool false))) (aA rfl) rfl rfl) ?_
               refine aF ?_
               have h := Option.some.inj h
               subst h
               refine cR (cG (cK (l := [6]) ⟨rfl, trivial⟩)) ?_
               exact bO ⟨rfl, _, .one _, rfl, rfl⟩
              ·have h := aR c89 h
               refine eG ?_
               refine aE ?_
               refine tr1 rfl (aD (v := .d (.lit (.int .i64 j_6_75))) (aA rfl) rfl rfl) ?_
               refine tr1 rfl (bA (aA rfl) rfl rfl rfl) ?_
               refine tr1 rfl (aJ (v := .d (.lit (.int .i64 ((w64 (j_6_75 + 1)))))) (aA rfl) rfl rfl) ?_
               refine aF ?_
               exact ⟨(w64 (j_6_75 + 1)), h, aV [0, 1] rfl rfl (aN rfl (aY ⟨rfl, rfl, rfl, rfl, rfl, trivial⟩))⟩
            ·have h := aR c77 h
             refine cU ?_
             refine .inl ⟨rfl, ?_⟩
             simp only [lV] at h
             simp only [lU] at h
             refine aE ?_
             refine tr1 rfl (aD (v := .d (.lit (.int .i64 k_4_72))) (aA rfl) rfl rfl) ?_
             refine tr1 rfl (bA (aA rfl) rfl rfl rfl) ?_
             refine tr1 rfl (aJ (v := .d (.lit (.int .i64 ((w64 (k_4_72 + 1)))))) (aA rfl) rfl rfl) ?_
             refine aF ?_
             exact ⟨(w64 (k_4_72 + 1)), h, aV [0, 1] rfl rfl (aN rfl (aY ⟨rfl, rfl, rfl, rfl, trivial⟩))⟩
           ·have h := aR c74 h
            refine cU ?_
            refine .inl ⟨rfl, ?_⟩
            simp only [lT] at h
            refine aG ?_
            refine aE ?_
            refine tr1 rfl (aD (v := .d (.lit (.int .i64 r70.2))) (aA rfl) rfl rfl) ?_
            refine tr1 rfl (bC (aA rfl) rfl rfl rfl) ?_
            refine tr1 rfl (aD (v := .d (.lit (.bool ((decide (r70.2 = 0)))))) (aA rfl) rfl rfl) ?_
            obtain ⟨b90, h91, h⟩ := bind_some h
            refine bX 2 [] 216 b90 ?_ ?_
            ·refine bG (decide (r70.2 = 0)) (fun c92 => ?_) (fun c92 => ?_)
             ·have h91 := aS c92 h91
              obtain ⟨r93, h94, h91⟩ := bind_some h91
              refine aL rfl rfl (aA rfl) rfl c92 (cC (aA rfl) (.func _ _ Try.call16) rfl rfl (BVs.refl _ _) (sI h94) rfl) ?_
              refine tr1 rfl (bN (v := .d (.lit (.bool r93))) (aA rfl) rfl c92 rfl rfl) ?_
              have h91 := Option.some.inj h91
              subst h91
              refine aF (aZ rfl trivial rfl)
             ·have h91 := aR c92 h91
              refine aP rfl rfl (aA rfl) rfl (aA rfl) rfl c92 ?_
              refine tr1 rfl (bM (v := .d (.lit (.bool false))) (aA rfl) rfl c92 rfl rfl) ?_
              have h91 := Option.some.inj h91
              subst h91
              refine aF (aZ rfl trivial rfl)
            ·refine tr1 rfl (aJ (v := .d (.lit (.bool b90))) (aA rfl) rfl rfl) ?_
             refine aF ?_
             have h := Option.some.inj h
             subst h
             refine cR (cG (cK (l := [6]) ⟨rfl, trivial⟩)) ?_
             exact bO ⟨rfl, _, .one _, rfl, rfl⟩

end Go.Am
