/- The functions compute what the shallow ones say: printed by program. -/
import Derived.Test.YtaocljlhapoieaaRankMergesSimP2
namespace Go.Am
open Go.Proofs
set_option maxRecDepth 100000
set_option maxHeartbeats 4000000

theorem uW (l_0 : aM) (more_1 : List aC) {r : Bool} (h : lD l_0 more_1 = some r) : Fn Try.prog 7 [.agg (aN l_0), .d (.sl 5 (more_1.map aB))] (.d (.lit (.bool r))) := by
 unfold lD at h
 refine Fn.of_tr Try.func7 rfl (rs := [.tmp 4]) Try.results7 Try.ntmps7 (Nat.le_of_ble_eq_true rfl) ?_
 refine aG ?_
 refine aE ?_
 refine bR rfl (fX (v := .agg (aN l_0)) (aA rfl) rfl rfl rfl) ?_
 rintro _ ⟨b1, rfl⟩
 refine tr1 rfl (aJ (v := .d (.lit (.bool false))) (aA rfl) rfl rfl) ?_
 refine aF ?_
 refine aG ?_
 refine aG ?_
 refine aE ?_
 refine tr1 rfl (cS (aA rfl) rfl (i := 0) rfl dZ (es := (aN l_0)) rfl rfl) ?_
 obtain ⟨r2, h3, h⟩ := bind_some h
 refine tr1 rfl (cC (aA rfl) (.func _ _ Try.call13) rfl rfl (BVs.refl _ _) (zJ _ h3) rfl) ?_
 refine tr1 rfl (aD (v := .d (.lit (.bool r2))) (aA rfl) rfl rfl) ?_
 obtain ⟨b4, h5, h⟩ := bind_some h
 refine cA 4 [1, 2] 15 b4 ?_ ?_
 ·refine bJ (r2) (fun c29 => ?_) (fun c29 => ?_)
  ·have h5 := aU c29 h5
   refine aR rfl rfl (aA rfl) rfl (aA rfl) rfl c29 ?_
   refine aR rfl rfl (aA rfl) rfl (aA rfl) rfl c29 ?_
   refine aR rfl rfl (aA rfl) rfl (aA rfl) rfl c29 ?_
   refine tr1 rfl (bW (v := .d (.lit (.bool true))) (aA rfl) rfl c29 rfl rfl) ?_
   have h5 := Option.some.inj h5
   subst h5
   refine aF (bB rfl ⟨rfl, rfl, trivial⟩ rfl)
  ·have h5 := aT c29 h5
   refine aP rfl rfl (aA rfl) rfl c29 (aD (v := .d (.sl 5 (more_1.map aB))) (aA rfl) rfl rfl) ?_
   refine aP rfl rfl (aA rfl) rfl c29 (dB (aA rfl) rfl bP.of) ?_
   refine aP rfl rfl (aA rfl) rfl c29 (bC (aA rfl) rfl rfl rfl) ?_
   refine tr1 rfl (bT (v := .d (.lit (.bool ((decide (60 < (more_1.length : Int))))))) (aA rfl) rfl c29 rfl rfl) ?_
   have h5 := Option.some.inj h5
   subst h5
   refine aF (bB rfl ⟨rfl, rfl, trivial⟩ rfl)
 ·refine aF ?_
  refine bH rfl (fun c6 => ?_) (fun c6 => ?_)
  ·have h := aU c6 h
   refine aG ?_
   refine aE ?_
   obtain ⟨r7, h8, h⟩ := bind_some h
   refine tr1 rfl (cC (aA rfl) (.func _ _ Try.call16) rfl rfl (BVs.refl _ _) (sQ h8) rfl) ?_
   refine tr1 rfl (aJ (v := .d (.lit (.bool r7))) (aA rfl) rfl rfl) ?_
   refine aF ?_
   have h := Option.some.inj h
   subst h
   refine cR (cJ (cP (l := [4]) ⟨rfl, trivial⟩)) ?_
   exact bI ⟨rfl, _, .one _, rfl, rfl⟩
  ·have h := aT c6 h
   refine bE ?_
   refine aG ?_
   refine aE ?_
   refine tr1 rfl (cS (aA rfl) rfl (i := 0) rfl dZ (es := (aN l_0)) rfl rfl) ?_
   obtain ⟨r9, h10, h⟩ := bind_some h
   refine tr1 rfl (jZ (aA rfl) (.func _ _ Try.call18) rfl rfl (tJ _ h10)) ?_
   refine tr1 rfl (uR (aA rfl) bP rfl rfl (rows := (([] : List aC)).map aB) rfl (cY (f := aB) fun _ => rfl) rfl (by decide)) ?_
   refine tr1 rfl (aD (v := .d (.sl 5 (more_1.map aB))) (aA rfl) rfl rfl) ?_
   obtain ⟨x11, h12, h⟩ := bind_some h
   refine tr1 rfl (yD (.d (.weak _ _)) (qX (nn := true) (f := aB) (xs := ([] : List aC)) (ys := more_1) (aA rfl) bP rfl rfl (fun _ => rfl) h12 rfl)) ?_
   obtain ⟨r13, h14, h⟩ := bind_some h
   refine tr1 rfl (jZ (aA rfl) (.func _ _ Try.call29) rfl rfl (aCz _ _ h14)) ?_
   refine tr1 rfl (aD (v := .tup [.agg (aN r13.1), .d (.lit (.int .i64 r13.2))]) (aA rfl) rfl rfl) ?_
   refine tr1 rfl (dD (aA rfl) rfl rfl) ?_
   refine tr1 rfl (dD (aA rfl) rfl rfl) ?_
   refine bR rfl (fF (zs := [.lit (.int .i64 0), .lit (.int .i64 0), .sl 5 ((([] : List aC)).map aB), .sl 3 ((([] : List aL)).map aH), .sl 3 ((([] : List aL)).map aH)]) (aA rfl) Try.zeroValue25 rfl rfl) ?_
   rintro _ ⟨b15, rfl⟩
   refine tr1 rfl (bO (i := 1) rfl rfl rfl rfl rfl Try.sizeOf25 rfl (aA rfl) (Nat.le_of_ble_eq_true rfl) (ds' := (aN r13.1)) rfl) ?_
   refine tr1 rfl (aJ (v := .d (.lit (.int .i64 r13.2))) (aA rfl) rfl rfl) ?_
   refine aF ?_
   refine aG ?_
   refine aE ?_
   refine tr1 rfl (cS (aA rfl) rfl (i := 0) rfl dZ (es := (aN l_0)) rfl rfl) ?_
   refine tr1 rfl (aD (v := .d (.sl 5 (more_1.map aB))) (aA rfl) rfl rfl) ?_
   obtain ⟨r16, h17, h⟩ := bind_some h
   refine tr1 rfl (jZ (aA rfl) (.func _ _ Try.call30) rfl rfl (xP _ _ h17)) ?_
   refine tr1 rfl (aD (v := .tup [.agg (aN r16.1), .d (.lit (.int .i64 r16.2))]) (aA rfl) rfl rfl) ?_
   refine tr1 rfl (dD (aA rfl) rfl rfl) ?_
   refine tr1 rfl (dD (aA rfl) rfl rfl) ?_
   refine bR rfl (fF (zs := [.lit (.int .i64 0), .lit (.int .i64 0), .sl 5 ((([] : List aC)).map aB), .sl 3 ((([] : List aL)).map aH), .sl 3 ((([] : List aL)).map aH)]) (aA rfl) Try.zeroValue25 rfl rfl) ?_
   rintro _ ⟨b18, rfl⟩
   refine tr1 rfl (bO (i := 2) rfl rfl rfl rfl rfl Try.sizeOf25 rfl (aA rfl) (Nat.le_of_ble_eq_true rfl) (ds' := (aN r16.1)) rfl) ?_
   refine tr1 rfl (aJ (v := .d (.lit (.int .i64 r16.2))) (aA rfl) rfl rfl) ?_
   refine aF ?_
   refine aG ?_
   refine aE ?_
   refine tr1 rfl (cS (aA rfl) rfl (i := 1) rfl dZ (es := (aN r13.1)) rfl rfl) ?_
   refine tr1 rfl (cS (aA rfl) rfl (i := 2) rfl dZ (es := (aN r16.1)) rfl rfl) ?_
   obtain ⟨r19, h20, h⟩ := bind_some h
   refine tr1 rfl (cC (aA rfl) (.func _ _ Try.call31) rfl rfl (BVs.refl _ _) (yS _ _ h20) rfl) ?_
   refine tr1 rfl (aD (v := .d (.lit (.bool r19))) (aA rfl) rfl rfl) ?_
   obtain ⟨b21, h22, h⟩ := bind_some h
   refine cA 4 [] 39 b21 ?_ ?_
   ·refine bJ (r19) (fun c28 => ?_) (fun c28 => ?_)
    ·have h22 := aU c28 h22
     refine aP rfl rfl (aA rfl) rfl c28 (aD (v := .d (.lit (.int .i64 r13.2))) (aA rfl) rfl rfl) ?_
     refine aP rfl rfl (aA rfl) rfl c28 (aD (v := .d (.lit (.int .i64 r16.2))) (aA rfl) rfl rfl) ?_
     refine aP rfl rfl (aA rfl) rfl c28 (bC (aA rfl) rfl rfl rfl) ?_
     refine tr1 rfl (bW (v := .d (.lit (.bool ((decide (r13.2 = r16.2)))))) (aA rfl) rfl c28 rfl rfl) ?_
     have h22 := Option.some.inj h22
     subst h22
     refine aF (bB rfl trivial rfl)
    ·have h22 := aT c28 h22
     refine aR rfl rfl (aA rfl) rfl (aA rfl) rfl c28 ?_
     refine aR rfl rfl (aA rfl) rfl (aA rfl) rfl c28 ?_
     refine aR rfl rfl (aA rfl) rfl (aA rfl) rfl c28 ?_
     refine tr1 rfl (bT (v := .d (.lit (.bool false))) (aA rfl) rfl c28 rfl rfl) ?_
     have h22 := Option.some.inj h22
     subst h22
     refine aF (bB rfl trivial rfl)
   ·refine tr1 rfl (aD (v := .d (.lit (.bool b21))) (aA rfl) rfl rfl) ?_
    obtain ⟨b23, h24, h⟩ := bind_some h
    refine cA 2 [] 42 b23 ?_ ?_
    ·refine bJ (b21) (fun c25 => ?_) (fun c25 => ?_)
     ·have h24 := aU c25 h24
      obtain ⟨r26, h27, h24⟩ := bind_some h24
      refine aP rfl rfl (aA rfl) rfl c25 (cC (aA rfl) (.func _ _ Try.call16) rfl rfl (BVs.refl _ _) (sQ h27) rfl) ?_
      refine tr1 rfl (bW (v := .d (.lit (.bool r26))) (aA rfl) rfl c25 rfl rfl) ?_
      have h24 := Option.some.inj h24
      subst h24
      refine aF (bB rfl trivial rfl)
     ·have h24 := aT c25 h24
      refine aR rfl rfl (aA rfl) rfl (aA rfl) rfl c25 ?_
      refine tr1 rfl (bT (v := .d (.lit (.bool false))) (aA rfl) rfl c25 rfl rfl) ?_
      have h24 := Option.some.inj h24
      subst h24
      refine aF (bB rfl trivial rfl)
    ·refine tr1 rfl (aJ (v := .d (.lit (.bool b23))) (aA rfl) rfl rfl) ?_
     refine aF ?_
     have h := Option.some.inj h
     subst h
     refine cR (cJ (cP (l := [4]) ⟨rfl, trivial⟩)) ?_
     exact bI ⟨rfl, _, .one _, rfl, rfl⟩

end Go.Am
