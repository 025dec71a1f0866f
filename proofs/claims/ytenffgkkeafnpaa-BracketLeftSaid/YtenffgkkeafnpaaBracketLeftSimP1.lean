/- The functions compute what the shallow ones say: printed by program. -/
import Derived.Test.YtenffgkkeafnpaaBbSh
import Derived.Test.YtenffgkkeafnpaaAmFam2
import Derived.Test.YtenffgkkeafnpaaAmRange
import Derived.Test.YtenffgkkeafnpaaAmSort
import Derived.Test.YtenffgkkeafnpaaTryShelf
import Derived.Test.YtenffgkkeafnpaaAmPtr
import Derived.Test.YtenffgkkeafnpaaBbDet
import Derived.Test.YtenffgkkeafnpaaChecked
import Derived.KernelRfl
namespace Go.Am
open Go.Proofs
set_option maxRecDepth 100000
set_option maxHeartbeats 4000000

theorem mix : Try.prog.follows .mixedOrders = true := Checked.mixed Try.checked

theorem dY : pG Try.prog 24 2 := ⟨Try.isAgg24, Try.sizeOf24⟩
theorem fM : SliceTy Try.prog 25 32 5 40 (.agg #[.int .i64 0, .int .i64 0, .int .i64 0, .int .i64 0, .int .i64 0]) := ⟨Try.underlying25, ⟨Try.t32, by kernel_rfl, rfl, rfl, rfl⟩, rfl, by decide⟩
theorem dV : gT Try.prog 24 1 1 := fD Try.runUnderlying24 rfl rfl Try.sizeOf22
theorem dH : mG Try.prog 22 := ⟨Try.isAgg22, Try.sizeOf22⟩
theorem jM : pG Try.prog 32 5 := ⟨Try.isAgg32, Try.sizeOf32⟩
theorem aDn : zA Try.prog 32 aL := by
  rintro ⟨a0, a1, a2, a3, a4⟩ ⟨b0, b1, b2, b3, b4⟩ w
  simp [aL, bG, go_sem, Op.eqFields, Program.fieldsOf] <;> (repeat' split) <;> simp_all
theorem cB : SliceTy Try.prog 22 3 1 8 (.int .i64 0) := ⟨Try.underlying22, ⟨Try.t3, by kernel_rfl, rfl, rfl, rfl⟩, rfl, by decide⟩
theorem iC : SliceTy Try.prog 48 57 4 32 (.agg #[.int .i64 0, .int .i64 0, .int .i64 0, .int .i64 0]) := ⟨Try.underlying48, ⟨Try.t57, by kernel_rfl, rfl, rfl, rfl⟩, rfl, by decide⟩
theorem rQ : pG Try.prog 57 4 := ⟨Try.isAgg57, Try.sizeOf57⟩
theorem aEp : oA Try.prog 57 (.agg #[.int .i64 0, .int .i64 0, .int .i64 0, .int .i64 0]) [(0, 1), (1, 1), (2, 1), (3, 1)] := ⟨Try.zeroValue57, _, Try.runUnderlying57, fun w => by simp [Try.sizeOf3]⟩
theorem aDo : zA Try.prog 57 bB := by
  rintro ⟨a0, a1, a2, a3⟩ ⟨b0, b1, b2, b3⟩ w
  simp [bB, bG, go_sem, Op.eqFields, Program.fieldsOf] <;> (repeat' split) <;> simp_all
theorem aAa : pG Try.prog 39 2 := ⟨Try.isAgg39, Try.sizeOf39⟩
theorem aBi : oA Try.prog 39 (.agg #[.int .i64 0, .int .i64 0]) [(0, 1), (1, 1)] := ⟨Try.zeroValue39, _, Try.runUnderlying39, fun w => by simp [Try.sizeOf3]⟩
theorem aMg : zA Try.prog 39 fC := by
  rintro ⟨a0, a1⟩ ⟨b0, b1⟩ w
  simp [fC, bG, go_sem, Op.eqFields, Program.fieldsOf] <;> (repeat' split) <;> simp_all
theorem aMn : oA Try.prog 24 (.agg #[.int .i64 0, .slice none 0 0]) [(0, 1), (1, 1)] := ⟨Try.zeroValue24, _, Try.runUnderlying24, fun w => by simp [Try.sizeOf22, Try.sizeOf3]⟩
theorem xX : oA Try.prog 32 (.agg #[.int .i64 0, .int .i64 0, .int .i64 0, .int .i64 0, .int .i64 0]) [(0, 1), (1, 1), (2, 1), (3, 1), (4, 1)] := ⟨Try.zeroValue32, _, Try.runUnderlying32, fun w => by simp [Try.sizeOf3]⟩
theorem aAw : mG Try.prog 48 := ⟨Try.isAgg48, Try.sizeOf48⟩
theorem iJ : gT Try.prog 24 0 0 := fD Try.runUnderlying24 rfl rfl Try.sizeOf3
theorem bK : mG Try.prog 3 := ⟨Try.isAgg3, Try.sizeOf3⟩
theorem aGs : oU Try.prog 3 (fun n : Int => Value.int .i64 n) := aId Try.underlying3
theorem mB : gT Try.prog 32 3 3 := fD Try.runUnderlying32 rfl rfl Try.sizeOf3
theorem nF : gT Try.prog 32 0 0 := fD Try.runUnderlying32 rfl rfl Try.sizeOf3
theorem lF : gT Try.prog 32 1 1 := fD Try.runUnderlying32 rfl rfl Try.sizeOf3
theorem iK : gT Try.prog 32 2 2 := fD Try.runUnderlying32 rfl rfl Try.sizeOf3
theorem rC : gT Try.prog 32 4 4 := fD Try.runUnderlying32 rfl rfl Try.sizeOf3
theorem vC : oA Try.prog 70 (.agg #[.int .i64 0, .int .i64 0]) [(0, 1), (1, 1)] := ⟨Try.zeroValue70, _, Try.runUnderlying70, fun w => by simp [Try.sizeOf3]⟩
theorem iL : pG Try.prog 70 2 := ⟨Try.isAgg70, Try.sizeOf70⟩
theorem nG : gT Try.prog 70 0 0 := fD Try.runUnderlying70 rfl rfl Try.sizeOf3
theorem aDv : gT Try.prog 70 1 1 := fD Try.runUnderlying70 rfl rfl Try.sizeOf3
theorem aMo : oA Try.prog 75 (.agg #[.int .i64 0, .slice none 0 0, .slice none 0 0, .map none]) [(0, 2), (2, 1), (3, 1)] := ⟨Try.zeroValue75, _, Try.runUnderlying75, fun w => by simp [Try.sizeOf22, Try.sizeOf24, Try.sizeOf73]⟩
theorem aMd (b : Bool) (a : aE) (w : World) : (Instr.checkKey b 10000 32 (.agg ((aL a).map bG).toArray)).run Try.prog w = .ok () w := by
  obtain ⟨a1, a2, a3, a4, a5⟩ := a
  rw [show (10000 : Nat) = 9990 + 10 from rfl]
  generalize (9990 : Nat) = m
  simp [Instr.checkKey, aL, bG, go_sem, Std.Legacy.Range.forIn_eq_forIn_range', Std.Legacy.Range.size]
theorem aDx : oU Try.prog 32 (fun a : aE => Value.agg ((aL a).map bG).toArray) :=
  xF Try.underlying32 aDn aMd (fun a w => aDw _ rfl _ _) (by
    rintro ⟨a1, a2, a3, a4, a5⟩ ⟨b1, b2, b3, b4, b5⟩ h
    simp [aL] at h ⊢
    simp_all) (fun _ => rfl)
theorem wZ : zA Try.prog 70 aH := by
  rintro ⟨a0, a1⟩ ⟨b0, b1⟩ w
  simp [aH, bG, go_sem, Op.eqFields, Program.fieldsOf] <;> (repeat' split) <;> simp_all
theorem aMe (b : Bool) (a : aB) (w : World) : (Instr.checkKey b 10000 70 (.agg ((aH a).map bG).toArray)).run Try.prog w = .ok () w := by
  obtain ⟨a1, a2⟩ := a
  rw [show (10000 : Nat) = 9990 + 10 from rfl]
  generalize (9990 : Nat) = m
  simp [Instr.checkKey, aH, bG, go_sem, Std.Legacy.Range.forIn_eq_forIn_range', Std.Legacy.Range.size]
theorem qH : oU Try.prog 70 (fun a : aB => Value.agg ((aH a).map bG).toArray) :=
  xF Try.underlying70 wZ aMe (fun a w => aDw _ rfl _ _) (by
    rintro ⟨a1, a2⟩ ⟨b1, b2⟩ h
    simp [aH] at h ⊢
    simp_all) (fun _ => rfl)
theorem kO : gT Try.prog 75 1 2 := fD Try.runUnderlying75 rfl rfl Try.sizeOf22
theorem oM : gT Try.prog 75 0 0 := fD Try.runUnderlying75 rfl rfl Try.sizeOf24
theorem oN : gT Try.prog 75 2 3 := fD Try.runUnderlying75 rfl rfl Try.sizeOf73
theorem sC : mG Try.prog 73 := ⟨Try.isAgg73, Try.sizeOf73⟩
theorem uQ : pG Try.prog 89 2 := ⟨Try.isAgg89, Try.sizeOf89⟩
theorem xY : oA Try.prog 89 (.agg #[.slice none 0 0, .slice none 0 0]) [(0, 1), (1, 1)] := ⟨Try.zeroValue89, _, Try.runUnderlying89, fun w => by simp [Try.sizeOf22, Try.sizeOf53]⟩
theorem rD : gT Try.prog 89 1 1 := fD Try.runUnderlying89 rfl rfl Try.sizeOf53
theorem xP : mG Try.prog 53 := ⟨Try.isAgg53, Try.sizeOf53⟩
theorem yG : SliceTy Try.prog 53 22 1 24 (.slice none 0 0) := ⟨Try.underlying53, ⟨Try.t22, by kernel_rfl, rfl, rfl, rfl⟩, rfl, by decide⟩
theorem aIq : mG Try.prog 68 := ⟨Try.isAgg68, Try.sizeOf68⟩
theorem aDu : gT Try.prog 57 2 2 := fD Try.runUnderlying57 rfl rfl Try.sizeOf3
theorem zK : gT Try.prog 57 3 3 := fD Try.runUnderlying57 rfl rfl Try.sizeOf3
theorem aDs : gT Try.prog 57 0 0 := fD Try.runUnderlying57 rfl rfl Try.sizeOf3
theorem aDt : gT Try.prog 57 1 1 := fD Try.runUnderlying57 rfl rfl Try.sizeOf3

theorem zH (t_0 : aO) (l_1 : List aE) {r : Bool} (h : mK t_0 l_1 = some r) : Fn Try.prog 27 [.agg (aR t_0), .d (.sl 5 (l_1.map aL))] (.d (.lit (.bool r))) := by
 unfold mK at h
 refine Fn.of_tr Try.func27 rfl (rs := [.tmp 4]) Try.results27 Try.ntmps27 (Nat.le_of_ble_eq_true rfl) ?_
 refine aG ?_
 refine aC ?_
 refine bU rfl (gD (v := .agg (aR t_0)) (aA rfl) rfl rfl rfl) ?_
 rintro _ ⟨b1, rfl⟩
 refine tr1 rfl (aI (v := .d (.lit (.bool false))) (aA rfl) rfl rfl) ?_
 refine aF ?_
 refine aG ?_
 refine aC ?_
 refine tr1 rfl (aV (aA rfl) rfl dV) ?_
 refine tr1 rfl (aZ (aA rfl) rfl (i := 0) rfl rfl dH) ?_
 refine tr1 rfl (dL (aA rfl) rfl cB.of) ?_
 refine tr1 rfl (bH (aA rfl) rfl rfl rfl) ?_
 refine tr1 rfl (aD (v := .d (.lit (.bool ((decide (100 < (t_0.Slots.length : Int))))))) (aA rfl) rfl rfl) ?_
 obtain ⟨b2, h3, h⟩ := bind_some h
 refine cC 4 [] 13 b2 ?_ ?_
 ·refine bI (decide (100 < (t_0.Slots.length : Int))) (fun c4 => ?_) (fun c4 => ?_)
  ·have h3 := aY c4 h3
   refine aN rfl rfl (aA rfl) rfl (aA rfl) rfl c4 ?_
   refine aN rfl rfl (aA rfl) rfl (aA rfl) rfl c4 ?_
   refine aN rfl rfl (aA rfl) rfl (aA rfl) rfl c4 ?_
   refine tr1 rfl (bS (v := .d (.lit (.bool true))) (aA rfl) rfl c4 rfl rfl) ?_
   have h3 := Option.some.inj h3
   subst h3
   refine aF (bC rfl trivial rfl)
  ·have h3 := aX c4 h3
   refine aM rfl rfl (aA rfl) rfl c4 (aD (v := .d (.sl 5 (l_1.map aL))) (aA rfl) rfl rfl) ?_
   refine aM rfl rfl (aA rfl) rfl c4 (dL (aA rfl) rfl fM.of) ?_
   refine aM rfl rfl (aA rfl) rfl c4 (bH (aA rfl) rfl rfl rfl) ?_
   refine tr1 rfl (bR (v := .d (.lit (.bool ((decide (100 < (l_1.length : Int))))))) (aA rfl) rfl c4 rfl rfl) ?_
   have h3 := Option.some.inj h3
   subst h3
   refine aF (bC rfl trivial rfl)
 ·refine tr1 rfl (aI (v := .d (.lit (.bool b2))) (aA rfl) rfl rfl) ?_
  refine aF ?_
  have h := Option.some.inj h
  subst h
  refine cP (cR (cU (l := [4]) ⟨rfl, trivial⟩)) ?_
  exact bN ⟨rfl, _, .one _, rfl, rfl⟩

theorem vI {r : aO × (List aE)} (h : oE = some r) : Fn Try.prog 43 [] (.tup [.agg (aR r.1), .d (.sl 5 (r.2.map aL))]) := by
 unfold oE at h
 refine sL Try.func43 rfl (rs := [.cell 0 24, .tmp 1]) Try.results43 Try.ntmps43 (Nat.le_of_ble_eq_true rfl) ?_
 refine aG ?_
 refine aC ?_
 refine bU rfl (dQ (zs := [.lit (.int .i64 0), .sl 1 ((([] : List Int)).map aP)]) (aA rfl) Try.zeroValue24 rfl rfl) ?_
 rintro _ ⟨b1, rfl⟩
 refine tr1 rfl (oW 5 (aA rfl)) ?_
 refine aF ?_
 refine aG ?_
 refine aC ?_
 refine tr1 rfl (eW (aA rfl) cB rfl rfl (rows := ([1, (-1), 2, 3, 4, 5, 6, 7]).map aP) rfl (cV (f := aP) fun _ => rfl) rfl (by decide)) ?_
 refine tr1 rfl (eX (aA rfl) aMn (zs := [.lit (.int .i64 0), .sl 1 ((([] : List Int)).map aP)]) rfl rfl rfl rfl (es := [.lit (.int .i64 3), .sl 1 ((([1, (-1), 2, 3, 4, 5, 6, 7])).map aP)]) rfl) ?_
 refine bU rfl (dQ (zs := [.lit (.int .i64 0), .sl 1 ((([] : List Int)).map aP)]) (aA rfl) Try.zeroValue24 rfl rfl) ?_
 rintro _ ⟨b2, rfl⟩
 refine tr1 rfl (cG (i := 1) rfl rfl rfl rfl rfl Try.sizeOf24 rfl (aA rfl) (Nat.le_of_ble_eq_true rfl) (ds' := (aR (aO.mk 3 ([1, (-1), 2, 3, 4, 5, 6, 7])))) rfl) ?_
 refine aF ?_
 refine aG ?_
 refine aC ?_
 refine tr1 rfl (bL (aA rfl) rfl (i := 1) rfl dY (es := (aR (aO.mk 3 ([1, (-1), 2, 3, 4, 5, 6, 7])))) rfl rfl) ?_
 refine tr1 rfl (eX (aA rfl) xX (zs := [.lit (.int .i64 0), .lit (.int .i64 0), .lit (.int .i64 0), .lit (.int .i64 0), .lit (.int .i64 0)]) rfl rfl rfl rfl (es := [.lit (.int .i64 1), .lit (.int .i64 1), .lit (.int .i64 0), .lit (.int .i64 2), .lit (.int .i64 0)]) rfl) ?_
 refine tr1 rfl (eX (aA rfl) xX (zs := [.lit (.int .i64 0), .lit (.int .i64 0), .lit (.int .i64 0), .lit (.int .i64 0), .lit (.int .i64 0)]) rfl rfl rfl rfl (es := [.lit (.int .i64 3), .lit (.int .i64 0), .lit (.int .i64 3), .lit (.int .i64 7), .lit (.int .i64 0)]) rfl) ?_
 refine tr1 rfl (eX (aA rfl) xX (zs := [.lit (.int .i64 0), .lit (.int .i64 0), .lit (.int .i64 0), .lit (.int .i64 0), .lit (.int .i64 0)]) rfl rfl rfl rfl (es := [.lit (.int .i64 5), .lit (.int .i64 0), .lit (.int .i64 4), .lit (.int .i64 8), .lit (.int .i64 4)]) rfl) ?_
 refine tr1 rfl (eW (aA rfl) fM rfl rfl (rows := ([(aE.mk 1 1 0 2 0), (aE.mk 3 0 3 7 0), (aE.mk 5 0 4 8 4)]).map aL) rfl (cV (f := aL) fun _ => rfl) rfl (by decide)) ?_
 refine tr1 rfl (cG (i := 0) rfl rfl rfl rfl rfl Try.sizeOf24 rfl (aA rfl) (Nat.le_of_ble_eq_true rfl) (ds' := (aR (aO.mk 3 ([1, (-1), 2, 3, 4, 5, 6, 7])))) rfl) ?_
 refine tr1 rfl (aI (v := .d (.sl 5 ((([(aE.mk 1 1 0 2 0), (aE.mk 3 0 3 7 0), (aE.mk 5 0 4 8 4)])).map aL))) (aA rfl) rfl rfl) ?_
 refine aF ?_
 have h := Option.some.inj h
 subst h
 exact bN ⟨rfl, _, [.box b1 0 (aR (aO.mk 3 ([1, (-1), 2, 3, 4, 5, 6, 7]))), .box b2 0 (aR (aO.mk 3 ([1, (-1), 2, 3, 4, 5, 6, 7])))], .two (.cell 0 24 rfl (i := 0) rfl dY (es := (aR (aO.mk 3 ([1, (-1), 2, 3, 4, 5, 6, 7])))) rfl rfl) (.tmp 1 (v := .d (.sl 5 ((([(aE.mk 1 1 0 2 0), (aE.mk 3 0 3 7 0), (aE.mk 5 0 4 8 4)])).map aL))) rfl), .refl _, .same _⟩

theorem eM (n_0 : Int) (low_1 : Int) (high_2 : Int) {r : Bool} (h : eJ n_0 low_1 high_2 = some r) : Fn Try.prog 72 [.d (.lit (.int .i64 n_0)), .d (.lit (.int .i64 low_1)), .d (.lit (.int .i64 high_2))] (.d (.lit (.bool r))) := by
 unfold eJ at h
 refine Fn.of_tr Try.func72 rfl (rs := [.tmp 6]) Try.results72 Try.ntmps72 (Nat.le_of_ble_eq_true rfl) ?_
 refine aG ?_
 refine aC ?_
 refine tr1 rfl (aI (v := .d (.lit (.bool false))) (aA rfl) rfl rfl) ?_
 refine aF ?_
 refine aG ?_
 refine aC ?_
 refine tr1 rfl (aD (v := .d (.lit (.int .i64 low_1))) (aA rfl) rfl rfl) ?_
 refine tr1 rfl (aD (v := .d (.lit (.int .i64 n_0))) (aA rfl) rfl rfl) ?_
 refine tr1 rfl (bH (aA rfl) rfl rfl rfl) ?_
 refine tr1 rfl (aD (v := .d (.lit (.bool ((decide (low_1 ≤ n_0)))))) (aA rfl) rfl rfl) ?_
 obtain ⟨b1, h2, h⟩ := bind_some h
 refine cC 4 [] 14 b1 ?_ ?_
 ·refine bI (decide (low_1 ≤ n_0)) (fun c3 => ?_) (fun c3 => ?_)
  ·have h2 := aY c3 h2
   refine aM rfl rfl (aA rfl) rfl c3 (aD (v := .d (.lit (.int .i64 n_0))) (aA rfl) rfl rfl) ?_
   refine aM rfl rfl (aA rfl) rfl c3 (aD (v := .d (.lit (.int .i64 high_2))) (aA rfl) rfl rfl) ?_
   refine aM rfl rfl (aA rfl) rfl c3 (bH (aA rfl) rfl rfl rfl) ?_
   refine tr1 rfl (bS (v := .d (.lit (.bool ((decide (n_0 ≤ high_2)))))) (aA rfl) rfl c3 rfl rfl) ?_
   have h2 := Option.some.inj h2
   subst h2
   refine aF (bC rfl trivial rfl)
  ·have h2 := aX c3 h2
   refine aN rfl rfl (aA rfl) rfl (aA rfl) rfl c3 ?_
   refine aN rfl rfl (aA rfl) rfl (aA rfl) rfl c3 ?_
   refine aN rfl rfl (aA rfl) rfl (aA rfl) rfl c3 ?_
   refine tr1 rfl (bR (v := .d (.lit (.bool false))) (aA rfl) rfl c3 rfl rfl) ?_
   have h2 := Option.some.inj h2
   subst h2
   refine aF (bC rfl trivial rfl)
 ·refine tr1 rfl (aI (v := .d (.lit (.bool b1))) (aA rfl) rfl rfl) ?_
  refine aF ?_
  have h := Option.some.inj h
  subst h
  exact bN ⟨rfl, _, .one _, rfl, rfl⟩

theorem zF (t_0 : aO) {r : Bool} (h : kY t_0 = some r) : Fn Try.prog 67 [.agg (aR t_0)] (.d (.lit (.bool r))) := by
 unfold kY at h
 refine Fn.of_tr Try.func67 rfl (rs := [.tmp 2]) Try.results67 Try.ntmps67 (Nat.le_of_ble_eq_true rfl) ?_
 refine aG ?_
 refine aC ?_
 refine bU rfl (gD (v := .agg (aR t_0)) (aA rfl) rfl rfl rfl) ?_
 rintro _ ⟨b1, rfl⟩
 refine tr1 rfl (aI (v := .d (.lit (.bool false))) (aA rfl) rfl rfl) ?_
 refine aF ?_
 refine aG ?_
 refine aG ?_
 obtain ⟨r2, h3, h⟩ := bind_some h
 obtain ⟨b4, h5, h⟩ := bind_some h
 refine dX mix 13 [1] [(18, .d (.lit (.bool b4)))] ?_ ?_
 ·refine bI (!r2) (fun c6 => ?_) (fun c6 => ?_)
  ·have h5 := aY c6 h5
   have h5 := Option.some.inj h5
   subst h5
   refine ⟨[(6, 0, .bp b1 0 0), (7, 1, .d (.lit (.int .i64 t_0.Rounds))), (8, 2, .d (.lit (.bool r2))), (9, 3, .d (.lit (.bool (!r2)))), (10, 4, .d (.lit (.bool (!r2)))), (11, 5, .tup []), (12, 6, .tup []), (13, 7, .tup []), (14, 8, .tup []), (15, 9, .tup []), (16, 10, .tup []), (17, 11, .tup []), (18, 12, .d (.lit (.bool true)))], ?_, ?_⟩
   · exact ⟨by kernel_rfl, by kernel_rfl, by kernel_rfl, by kernel_rfl, by kernel_rfl, [([], []), ([0], []), ([1], []), ([2], []), ([3], []), ([4], []), ([4, 5], []), ([4, 6], []), ([4], []), ([4, 8], []), ([4, 9], []), ([4, 7, 10], []), ([4, 11], [])], by kernel_rfl, ⟨fun S hS => aK rfl (aT rfl (aV (aA rfl) (aJ hS rfl) iJ)),
      fun S hS => aK rfl (aT rfl (aZ (aA rfl) (aJ hS rfl) (i := 0) rfl rfl bK)),
      fun S hS => aK rfl (aT rfl (cS (aA rfl) (.func _ _ Try.call72) (ev2 (aJ hS rfl) (ev2 rfl (ev2 rfl evn))) rfl (BVs.refl _ _) (eM _ _ _ h3) rfl)),
      fun S hS => aK rfl (aT rfl (fQ (aA rfl) (aJ hS rfl))),
      fun S hS => aK rfl (aT rfl (aD (v := .d (.lit (.bool (!r2)))) (aA rfl) (aJ hS rfl) rfl)),
      fun S hS => aK rfl (bX rfl rfl (aA rfl) rfl (aA rfl) (bE hS rfl) c6),
      fun S hS => aK rfl (bX rfl rfl (aA rfl) rfl (aA rfl) (bE hS rfl) c6),
      fun S hS => aK rfl (bX rfl rfl (aA rfl) rfl (aA rfl) (bE hS rfl) c6),
      fun S hS => aK rfl (bX rfl rfl (aA rfl) rfl (aA rfl) (bE hS rfl) c6),
      fun S hS => aK rfl (bX rfl rfl (aA rfl) rfl (aA rfl) (bE hS rfl) c6),
      fun S hS => aK rfl (bX rfl rfl (aA rfl) rfl (aA rfl) (bE hS rfl) c6),
      fun S hS => aK rfl (bX rfl rfl (aA rfl) rfl (aA rfl) (bE hS rfl) c6),
      fun S hS => aK rfl (aT rfl (bS (v := .d (.lit (.bool true))) (aA rfl) (aJ hS rfl) c6 rfl rfl)), trivial⟩⟩
   · exact dI (aS rfl (bD ⟨rfl, trivial⟩))
  ·have h5 := aX c6 h5
   obtain ⟨u7, h8, h5⟩ := bind_some h5
   have h5 := Option.some.inj h5
   subst h5
   refine ⟨[(6, 0, .bp b1 0 0), (7, 1, .d (.lit (.int .i64 t_0.Rounds))), (8, 2, .d (.lit (.bool r2))), (9, 3, .d (.lit (.bool (!r2)))), (10, 4, .d (.lit (.bool (!r2)))), (11, 5, .bp b1 0 1), (12, 6, .d (.sl 1 (t_0.Slots.map aP))), (13, 7, .d (.lit (.int .i64 ((t_0.Slots.length : Int))))), (14, 8, .bp b1 0 0), (15, 9, .d (.lit (.int .i64 t_0.Rounds))), (16, 10, .d (.lit (.int .i64 ((w64 (1 * 2 ^ (min t_0.Rounds.toNat 64))))))), (17, 11, .d (.lit (.bool ((!decide ((t_0.Slots.length : Int) = (w64 (1 * 2 ^ (min t_0.Rounds.toNat 64))))))))), (18, 12, .d (.lit (.bool ((!decide ((t_0.Slots.length : Int) = (w64 (1 * 2 ^ (min t_0.Rounds.toNat 64)))))))))], ?_, ?_⟩
   · exact ⟨by kernel_rfl, by kernel_rfl, by kernel_rfl, by kernel_rfl, by kernel_rfl, [([], []), ([0], []), ([1], []), ([2], []), ([3], []), ([4], []), ([4, 5], []), ([4, 6], []), ([4], []), ([4, 8], []), ([4, 9], []), ([4, 7, 10], []), ([4, 11], [])], by kernel_rfl, ⟨fun S hS => aK rfl (aT rfl (aV (aA rfl) (aJ hS rfl) iJ)),
      fun S hS => aK rfl (aT rfl (aZ (aA rfl) (aJ hS rfl) (i := 0) rfl rfl bK)),
      fun S hS => aK rfl (aT rfl (cS (aA rfl) (.func _ _ Try.call72) (ev2 (aJ hS rfl) (ev2 rfl (ev2 rfl evn))) rfl (BVs.refl _ _) (eM _ _ _ h3) rfl)),
      fun S hS => aK rfl (aT rfl (fQ (aA rfl) (aJ hS rfl))),
      fun S hS => aK rfl (aT rfl (aD (v := .d (.lit (.bool (!r2)))) (aA rfl) (aJ hS rfl) rfl)),
      fun S hS => aK rfl (bY rfl rfl (aA rfl) (bE hS rfl) c6 (aV (aA rfl) (aJ hS rfl) dV)),
      fun S hS => aK rfl (bY rfl rfl (aA rfl) (bE hS rfl) c6 (aZ (aA rfl) (aJ hS rfl) (i := 0) rfl rfl dH)),
      fun S hS => aK rfl (bY rfl rfl (aA rfl) (bE hS rfl) c6 (dL (aA rfl) (aJ hS rfl) cB.of)),
      fun S hS => aK rfl (bY rfl rfl (aA rfl) (bE hS rfl) c6 (aV (aA rfl) (aJ hS rfl) iJ)),
      fun S hS => aK rfl (bY rfl rfl (aA rfl) (bE hS rfl) c6 (aZ (aA rfl) (aJ hS rfl) (i := 0) rfl rfl bK)),
      fun S hS => aK rfl (bY rfl rfl (aA rfl) (bE hS rfl) c6 (aHg (aA rfl) rfl (aJ hS rfl) (tZ h8))),
      fun S hS => aK rfl (bY rfl rfl (aA rfl) (bE hS rfl) c6 (bH (aA rfl) (aJ hS rfl) (aJ hS rfl) rfl)),
      fun S hS => aK rfl (aT rfl (bR (v := .d (.lit (.bool ((!decide ((t_0.Slots.length : Int) = (w64 (1 * 2 ^ (min t_0.Rounds.toNat 64))))))))) (aA rfl) (aJ hS rfl) c6 (aJ hS rfl) rfl)), trivial⟩⟩
   · exact dI (aS rfl (bD ⟨rfl, trivial⟩))
 ·refine aF ?_
  refine bQ rfl (fun c9 => ?_) (fun c9 => ?_)
  ·have h := aY c9 h
   refine aG ?_
   refine aC ?_
   refine tr1 rfl (aI (v := .d (.lit (.bool false))) (aA rfl) rfl rfl) ?_
   refine aF ?_
   have h := Option.some.inj h
   subst h
   refine cP (cR (cU (l := [2]) ⟨rfl, trivial⟩)) ?_
   exact bN ⟨rfl, _, .one _, rfl, rfl⟩
  ·have h := aX c9 h
   refine bO ?_
   refine aG ?_
   refine aC ?_
   refine bU rfl (uH (aA rfl)) ?_
   rintro _ ⟨r10, rfl⟩
   refine tr1 rfl (aI (v := .d (.lit (.map (some r10)))) (aA rfl) rfl rfl) ?_
   refine aF ?_
   refine aG ?_
   refine aG ?_
   refine aC ?_
   refine tr1 rfl (aV (aA rfl) rfl dV) ?_
   refine tr1 rfl (aZ (aA rfl) rfl (i := 0) rfl rfl dH) ?_
   refine tr1 rfl (dL (aA rfl) rfl cB.of) ?_
   refine tr1 rfl (aD (v := .d (.lit (.int .i64 0))) (aA rfl) rfl rfl) ?_
   refine aF ?_
   refine cH ?_
   refine dR [1, 3, 21, 22] (fun (s11 : Int × (List (Int × Int)) × (List Nat) × Nat) => [(23, .d (.lit (.int .i64 s11.1)))]) (fun (s11 : Int × (List (Int × Int)) × (List Nat) × Nat) => [.box b1 0 (aR t_0), .map r10 (s11.2.1.map fun p : Int × Int => ((fun n : Int => Value.int .i64 n) p.1, (fun v : Int => AV.d (.lit (.int .i64 v))) p.2)) s11.2.2.1 s11.2.2.2]) (fun (k : Nat) (s11 : Int × (List (Int × Int)) × (List Nat) × Nat) => gF t_0.Slots (t_0.Slots.length : Int) t_0 k s11.1 s11.2.1) (fun _ => rfl) (0, ([] : List (Int × Int)), [], 0) h (bF [0, 1] rfl rfl (aS rfl (bD ⟨rfl, rfl, rfl, rfl, trivial⟩))) ?_
   rintro k14 ⟨t23_0_11, o19_0_11, bs12, ck13⟩ h
   simp only [gF] at h
   refine aG ?_
   refine aC ?_
   refine tr1 rfl (bH (aA rfl) rfl rfl rfl) ?_
   refine aF ?_
   refine aG ?_
   refine bQ rfl (fun c15 => ?_) (fun c15 => ?_)
   ·have h := aY c15 h
    refine bO ?_
    refine aG ?_
    refine cH ?_
    refine aG ?_
    refine aC ?_
    refine tr1 rfl (aD (v := .d (.lit (.int .i64 t23_0_11))) (aA rfl) rfl rfl) ?_
    obtain ⟨x16, h17, h⟩ := bind_some h
    refine tr1 rfl (bT (aA rfl) rfl rfl cB.of (cE aP h17)) ?_
    refine tr1 rfl (bV (aA rfl) rfl bK) ?_
    refine tr1 rfl (aI (v := .d (.lit (.int .i64 t23_0_11))) (aA rfl) rfl rfl) ?_
    refine tr1 rfl (aI (v := .d (.lit (.int .i64 x16))) (aA rfl) rfl rfl) ?_
    refine aF ?_
    refine aG ?_
    refine aG ?_
    refine aC ?_
    refine tr1 rfl (aD (v := .d (.lit (.int .i64 x16))) (aA rfl) rfl rfl) ?_
    refine tr1 rfl (bH (aA rfl) rfl rfl rfl) ?_
    refine aF ?_
    refine bQ rfl (fun c18 => ?_) (fun c18 => ?_)
    ·have h := aY c18 h
     refine aG ?_
     refine aG ?_
     refine aC ?_
     refine tr1 rfl (aV (aA rfl) rfl dV) ?_
     refine tr1 rfl (aZ (aA rfl) rfl (i := 0) rfl rfl dH) ?_
     refine tr1 rfl (aD (v := .d (.lit (.int .i64 t23_0_11))) (aA rfl) rfl rfl) ?_
     refine tr1 rfl (aIu (aA rfl) rfl rfl (.inr (.inr ⟨rfl, rfl⟩))) ?_
     obtain ⟨x19, h20, h⟩ := bind_some h
     refine tr1 rfl (bT (aA rfl) rfl rfl cB.of (cE aP h20)) ?_
     refine tr1 rfl (bV (aA rfl) rfl bK) ?_
     refine tr1 rfl (bH (aA rfl) rfl rfl rfl) ?_
     refine aF ?_
     refine bQ rfl (fun c21 => ?_) (fun c21 => ?_)
     ·have h := aY c21 h
      refine aG ?_
      refine aC ?_
      refine tr1 rfl (aI (v := .d (.lit (.bool false))) (aA rfl) rfl rfl) ?_
      refine aF ?_
      have h := Option.some.inj h
      subst h
      refine cP (cR (cU (l := [2]) ⟨rfl, trivial⟩)) ?_
      exact bN ⟨rfl, _, .one _, rfl, rfl⟩
     ·have h := aX c21 h
      refine bO ?_
      refine dF ?_
      refine .inl ⟨rfl, ?_⟩
      refine aC ?_
      refine tr1 rfl (bM (aA rfl) rfl rfl rfl) ?_
      refine tr1 rfl (aD (v := .d (.lit (.int .i64 ((w64 (t23_0_11 + 1)))))) (aA rfl) rfl rfl) ?_
      refine aF ?_
      exact ⟨(w64 (t23_0_11 + 1), o19_0_11, bs12, ck13), h, bF [0, 1] rfl rfl (aS rfl (bD ⟨rfl, rfl, rfl, rfl, trivial⟩))⟩
    ·have h := aX c18 h
     refine bO ?_
     refine aG ?_
     refine aC ?_
     refine tr1 rfl (aD (v := .d (.lit (.map (some r10)))) (aA rfl) rfl rfl) ?_
     refine tr1 rfl (aD (v := .d (.lit (.int .i64 x16))) (aA rfl) rfl rfl) ?_
     refine tr1 rfl (wG (av := (fun v : Int => AV.d (.lit (.int .i64 v)))) (l := o19_0_11) (z := 0) (a := x16) (m := 1) (aA rfl) aGs Try.underlying121 Try.zeroValue3 (fun _ _ => .d (.lit _ rfl)) rfl rfl rfl rfl (xE (kv := (fun n : Int => Value.int .i64 n)) x16)) ?_
     refine tr1 rfl (bM (aA rfl) rfl rfl rfl) ?_
     refine tr1 rfl (uP (av := (fun v : Int => AV.d (.lit (.int .i64 v)))) (l := o19_0_11) (v := w64 ((cF x16 0 o19_0_11) + 1)) (a := x16) (m := 1) aGs Try.underlying121 rfl rfl rfl rfl (xE (kv := (fun n : Int => Value.int .i64 n)) x16) rfl rfl) ?_
     refine aF ?_
     refine aG ?_
     refine aC ?_
     refine tr1 rfl (aD (v := .d (.lit (.map (some r10)))) (aA rfl) rfl rfl) ?_
     refine tr1 rfl (aD (v := .d (.lit (.int .i64 x16))) (aA rfl) rfl rfl) ?_
     refine tr1 rfl (wG (av := (fun v : Int => AV.d (.lit (.int .i64 v)))) (l := (eR x16 (w64 ((cF x16 0 o19_0_11) + 1)) o19_0_11)) (z := 0) (a := x16) (m := 1) (aA rfl) aGs Try.underlying121 Try.zeroValue3 (fun _ _ => .d (.lit _ rfl)) rfl rfl rfl rfl (xE (kv := (fun n : Int => Value.int .i64 n)) x16)) ?_
     refine tr1 rfl (bH (aA rfl) rfl rfl rfl) ?_
     refine tr1 rfl (aD (v := .d (.lit (.bool ((decide (1 < (cF x16 0 (eR x16 (w64 ((cF x16 0 o19_0_11) + 1)) o19_0_11)))))))) (aA rfl) rfl rfl) ?_
     obtain ⟨b22, h23, h⟩ := bind_some h
     refine cC 4 [1, 3, 21, 22, 23] 49 b22 ?_ ?_
     ·refine bI (decide (1 < (cF x16 0 (eR x16 (w64 ((cF x16 0 o19_0_11) + 1)) o19_0_11)))) (fun c25 => ?_) (fun c25 => ?_)
      ·have h23 := aY c25 h23
       refine aN rfl rfl (aA rfl) rfl (aA rfl) rfl c25 ?_
       refine aN rfl rfl (aA rfl) rfl (aA rfl) rfl c25 ?_
       refine aN rfl rfl (aA rfl) rfl (aA rfl) rfl c25 ?_
       refine tr1 rfl (bS (v := .d (.lit (.bool true))) (aA rfl) rfl c25 rfl rfl) ?_
       have h23 := Option.some.inj h23
       subst h23
       refine aF (bC rfl ⟨rfl, rfl, rfl, rfl, rfl, trivial⟩ rfl)
      ·have h23 := aX c25 h23
       refine aM rfl rfl (aA rfl) rfl c25 (aD (v := .d (.lit (.int .i64 x16))) (aA rfl) rfl rfl) ?_
       obtain ⟨r26, h27, h23⟩ := bind_some h23
       refine aM rfl rfl (aA rfl) rfl c25 (cS (aA rfl) (.func _ _ Try.call72) rfl rfl (BVs.refl _ _) (eM _ _ _ h27) rfl) ?_
       refine aM rfl rfl (aA rfl) rfl c25 (fQ (aA rfl) rfl) ?_
       refine tr1 rfl (bR (v := .d (.lit (.bool (!r26)))) (aA rfl) rfl c25 rfl rfl) ?_
       have h23 := Option.some.inj h23
       subst h23
       refine aF (bC rfl ⟨rfl, rfl, rfl, rfl, rfl, trivial⟩ rfl)
     ·refine aF ?_
      refine bQ rfl (fun c24 => ?_) (fun c24 => ?_)
      ·have h := aY c24 h
       refine aG ?_
       refine aC ?_
       refine tr1 rfl (aI (v := .d (.lit (.bool false))) (aA rfl) rfl rfl) ?_
       refine aF ?_
       have h := Option.some.inj h
       subst h
       refine cP (cR (cU (l := [2]) ⟨rfl, trivial⟩)) ?_
       exact bN ⟨rfl, _, .one _, rfl, rfl⟩
      ·have h := aX c24 h
       refine eG ?_
       refine aC ?_
       refine tr1 rfl (bM (aA rfl) rfl rfl rfl) ?_
       refine tr1 rfl (aD (v := .d (.lit (.int .i64 ((w64 (t23_0_11 + 1)))))) (aA rfl) rfl rfl) ?_
       refine aF ?_
       exact ⟨(w64 (t23_0_11 + 1), (eR x16 (w64 ((cF x16 0 o19_0_11) + 1)) o19_0_11), (mbs x16 o19_0_11 bs12 ck13), (mck x16 o19_0_11 ck13)), h, bF [0, 1] rfl rfl (aS rfl (bD ⟨rfl, rfl, rfl, rfl, trivial⟩))⟩
   ·have h := aX c15 h
    refine dF ?_
    refine .inl ⟨rfl, ?_⟩
    simp only [oX] at h
    refine aG ?_
    refine aC ?_
    refine tr1 rfl (aI (v := .d (.lit (.bool true))) (aA rfl) rfl rfl) ?_
    refine aF ?_
    have h := Option.some.inj h
    subst h
    refine cP (cR (cU (l := [2]) ⟨rfl, trivial⟩)) ?_
    exact bN ⟨rfl, _, .one _, rfl, rfl⟩

theorem sH (s_0 : List aE) (f_1 : aE → Option Bool) {r : Int} (f_1_f : Nat) (f_1_v : List AV) (f_1_e : ∀ args w, (callFunc f_1_f args).run Try.prog w = .ok (.enter f_1_f args) w) (f_1_h : ∀ (x0 : aE) r, f_1 x0 = some r → Fn Try.prog f_1_f ([.agg (aL x0)] ++ f_1_v) (.d (.lit (.bool r)))) (h : gR s_0 f_1 = some r) : Fn Try.prog 87 [.d (.sl 5 (s_0.map aL)), .fn f_1_f f_1_v] (.d (.lit (.int .i64 r))) := by
 unfold gR at h
 refine Fn.of_tr Try.func87 rfl (rs := [.tmp 4]) Try.results87 Try.ntmps87 (Nat.le_of_ble_eq_true rfl) ?_
 refine aG ?_
 refine aC ?_
 refine tr1 rfl (aI (v := .d (.lit (.int .i64 0))) (aA rfl) rfl rfl) ?_
 refine aF ?_
 refine aG ?_
 refine aG ?_
 refine aC ?_
 refine tr1 rfl (aD (v := .d (.sl 5 (s_0.map aL))) (aA rfl) rfl rfl) ?_
 refine tr1 rfl (dL (aA rfl) rfl fM.of) ?_
 refine tr1 rfl (aD (v := .d (.lit (.int .i64 0))) (aA rfl) rfl rfl) ?_
 refine aF ?_
 refine cH ?_
 refine dR [0, 1, 7] (fun (s1 : Int) => [(8, .d (.lit (.int .i64 s1)))]) (fun (s1 : Int) => []) (fun (k : Nat) (s1 : Int) => dW s_0 f_1 (s_0.length : Int) k s1) (fun _ => rfl) (0) h (bF [] rfl rfl (aS rfl (bD ⟨rfl, rfl, rfl, trivial⟩))) ?_
 rintro k2 t8_0_1 h
 simp only [dW] at h
 refine aG ?_
 refine aC ?_
 refine tr1 rfl (bH (aA rfl) rfl rfl rfl) ?_
 refine aF ?_
 refine aG ?_
 refine bQ rfl (fun c3 => ?_) (fun c3 => ?_)
 ·have h := aY c3 h
  refine bO ?_
  refine aG ?_
  refine cH ?_
  refine aG ?_
  refine aC ?_
  refine tr1 rfl (aD (v := .d (.lit (.int .i64 t8_0_1))) (aA rfl) rfl rfl) ?_
  refine tr1 rfl (aI (v := .d (.lit (.int .i64 t8_0_1))) (aA rfl) rfl rfl) ?_
  refine aF ?_
  refine aG ?_
  refine aC ?_
  refine tr1 rfl (aD (v := .fn f_1_f f_1_v) (aA rfl) rfl rfl) ?_
  refine tr1 rfl (aD (v := .d (.sl 5 (s_0.map aL))) (aA rfl) rfl rfl) ?_
  refine tr1 rfl (aD (v := .d (.lit (.int .i64 t8_0_1))) (aA rfl) rfl rfl) ?_
  obtain ⟨x4, h5, h⟩ := bind_some h
  refine tr1 rfl (bT (aA rfl) rfl rfl fM.of (cE aL h5)) ?_
  refine tr1 rfl (gP (aA rfl) rfl jM (es := (aL x4)) rfl rfl) ?_
  obtain ⟨r6, h7, h⟩ := bind_some h
  refine tr1 rfl (cS (aA rfl) (.clo _ _ _ _ f_1_e rfl) (aMz rfl) rfl (BVs.refl _ _) (f_1_h _ _  h7) rfl) ?_
  refine aF ?_
  refine bQ rfl (fun c8 => ?_) (fun c8 => ?_)
  ·have h := aY c8 h
   refine aG ?_
   refine aC ?_
   refine tr1 rfl (aD (v := .d (.lit (.int .i64 t8_0_1))) (aA rfl) rfl rfl) ?_
   refine tr1 rfl (aI (v := .d (.lit (.int .i64 t8_0_1))) (aA rfl) rfl rfl) ?_
   refine aF ?_
   have h := Option.some.inj h
   subst h
   exact bN ⟨rfl, _, .one _, rfl, rfl⟩
  ·have h := aX c8 h
   refine eG ?_
   refine aC ?_
   refine tr1 rfl (bM (aA rfl) rfl rfl rfl) ?_
   refine tr1 rfl (aD (v := .d (.lit (.int .i64 ((w64 (t8_0_1 + 1)))))) (aA rfl) rfl rfl) ?_
   refine aF ?_
   exact ⟨(w64 (t8_0_1 + 1)), h, bF [] rfl rfl (aS rfl (bD ⟨rfl, rfl, rfl, trivial⟩))⟩
 ·have h := aX c3 h
  refine dF ?_
  refine .inl ⟨rfl, ?_⟩
  simp only [jW] at h
  refine aG ?_
  refine aC ?_
  refine tr1 rfl (aI (v := .d (.lit (.int .i64 (-1)))) (aA rfl) rfl rfl) ?_
  refine aF ?_
  have h := Option.some.inj h
  subst h
  exact bN ⟨rfl, _, .one _, rfl, rfl⟩

theorem qN (s_0 : List aE) (f_1 : aE → Option Bool) {r : Bool} (f_1_f : Nat) (f_1_v : List AV) (f_1_e : ∀ args w, (callFunc f_1_f args).run Try.prog w = .ok (.enter f_1_f args) w) (f_1_h : ∀ (x0 : aE) r, f_1 x0 = some r → Fn Try.prog f_1_f ([.agg (aL x0)] ++ f_1_v) (.d (.lit (.bool r)))) (h : fO s_0 f_1 = some r) : Fn Try.prog 68 [.d (.sl 5 (s_0.map aL)), .fn f_1_f f_1_v] (.d (.lit (.bool r))) := by
 unfold fO at h
 refine Fn.of_tr Try.func68 rfl (rs := [.tmp 4]) Try.results68 Try.ntmps68 (Nat.le_of_ble_eq_true rfl) ?_
 refine aG ?_
 refine aC ?_
 refine tr1 rfl (aI (v := .d (.lit (.bool false))) (aA rfl) rfl rfl) ?_
 refine aF ?_
 refine aG ?_
 refine aC ?_
 refine tr1 rfl (aD (v := .d (.sl 5 (s_0.map aL))) (aA rfl) rfl rfl) ?_
 refine tr1 rfl (aD (v := .fn f_1_f f_1_v) (aA rfl) rfl rfl) ?_
 obtain ⟨r1, h2, h⟩ := bind_some h
 refine tr1 rfl (cS (aA rfl) (.func _ _ Try.call87) rfl rfl (BVs.refl _ _) (sH _ _ f_1_f f_1_v f_1_e f_1_h h2) rfl) ?_
 refine tr1 rfl (bH (aA rfl) rfl rfl rfl) ?_
 refine tr1 rfl (aI (v := .d (.lit (.bool ((decide (0 ≤ r1)))))) (aA rfl) rfl rfl) ?_
 refine aF ?_
 have h := Option.some.inj h
 subst h
 exact bN ⟨rfl, _, .one _, rfl, rfl⟩

theorem rT (m_0 : aB) (t_1 : aO) {r : Bool} (h : jP m_0 t_1 = some r) : Fn Try.prog 64 [.agg (aH m_0), .agg (aR t_1)] (.d (.lit (.bool r))) := by
 unfold jP at h
 refine Fn.of_tr Try.func64 rfl (rs := [.tmp 4]) Try.results64 Try.ntmps64 (Nat.le_of_ble_eq_true rfl) ?_
 refine aG ?_
 refine aC ?_
 refine bU rfl (gD (v := .agg (aH m_0)) (aA rfl) rfl rfl rfl) ?_
 rintro _ ⟨b1, rfl⟩
 refine bU rfl (gD (v := .agg (aR t_1)) (aA rfl) rfl rfl rfl) ?_
 rintro _ ⟨b2, rfl⟩
 refine tr1 rfl (aI (v := .d (.lit (.bool false))) (aA rfl) rfl rfl) ?_
 refine aF ?_
 refine aG ?_
 obtain ⟨r3, h4, h⟩ := bind_some h
 obtain ⟨b5, h6, h⟩ := bind_some h
 refine dX mix 19 [] [(23, .d (.lit (.bool b5)))] ?_ ?_
 ·refine bI (r3) (fun c7 => ?_) (fun c7 => ?_)
  ·have h6 := aY c7 h6
   obtain ⟨u8, h9, h6⟩ := bind_some h6
   obtain ⟨r10, h11, h6⟩ := bind_some h6
   have h6 := Option.some.inj h6
   subst h6
   refine ⟨[(5, 0, .bp b1 0 0), (6, 1, .d (.lit (.int .i64 m_0.round))), (7, 2, .bp b2 0 0), (8, 3, .d (.lit (.int .i64 t_1.Rounds))), (9, 4, .d (.lit (.int .i64 ((w64 (t_1.Rounds - 1)))))), (10, 5, .d (.lit (.bool r3))), (11, 6, .d (.lit (.bool r3))), (12, 7, .bp b1 0 1), (13, 8, .d (.lit (.int .i64 m_0.place))), (14, 9, .bp b2 0 1), (15, 10, .d (.sl 1 (t_1.Slots.map aP))), (16, 11, .d (.lit (.int .i64 ((t_1.Slots.length : Int))))), (17, 12, .bp b1 0 0), (18, 13, .d (.lit (.int .i64 m_0.round))), (19, 14, .d (.lit (.int .i64 ((w64 (m_0.round + 1)))))), (20, 15, .d (.lit (.int .i64 (((t_1.Slots.length : Int).fdiv (2 ^ (min (w64 (m_0.round + 1)).toNat 64))))))), (21, 16, .d (.lit (.int .i64 ((w64 (((t_1.Slots.length : Int).fdiv (2 ^ (min (w64 (m_0.round + 1)).toNat 64))) - 1)))))), (22, 17, .d (.lit (.bool r10))), (23, 18, .d (.lit (.bool r10)))], ?_, ?_⟩
   · exact ⟨by kernel_rfl, by kernel_rfl, by kernel_rfl, by kernel_rfl, by kernel_rfl, [([], []), ([0], []), ([], []), ([2], []), ([3], []), ([1, 4], []), ([5], []), ([6], []), ([6, 7], []), ([6], []), ([6, 9], []), ([6, 10], []), ([6], []), ([6, 12], []), ([6, 13], []), ([6, 11, 14], []), ([6, 15], []), ([6, 8, 16], []), ([6, 17], [])], by kernel_rfl, ⟨fun S hS => aK rfl (aT rfl (aV (aA rfl) (aJ hS rfl) nG)),
      fun S hS => aK rfl (aT rfl (aZ (aA rfl) (aJ hS rfl) (i := 0) rfl rfl bK)),
      fun S hS => aK rfl (aT rfl (aV (aA rfl) (aJ hS rfl) iJ)),
      fun S hS => aK rfl (aT rfl (aZ (aA rfl) (aJ hS rfl) (i := 1) rfl rfl bK)),
      fun S hS => aK rfl (aT rfl (bM (aA rfl) (aJ hS rfl) rfl rfl)),
      fun S hS => aK rfl (aT rfl (cS (aA rfl) (.func _ _ Try.call72) (ev2 (aJ hS rfl) (ev2 rfl (ev2 (aJ hS rfl) evn))) rfl (BVs.refl _ _) (eM _ _ _ h4) rfl)),
      fun S hS => aK rfl (aT rfl (aD (v := .d (.lit (.bool r3))) (aA rfl) (aJ hS rfl) rfl)),
      fun S hS => aK rfl (bY rfl rfl (aA rfl) (bE hS rfl) c7 (aV (aA rfl) (aJ hS rfl) aDv)),
      fun S hS => aK rfl (bY rfl rfl (aA rfl) (bE hS rfl) c7 (aZ (aA rfl) (aJ hS rfl) (i := 0) rfl rfl bK)),
      fun S hS => aK rfl (bY rfl rfl (aA rfl) (bE hS rfl) c7 (aV (aA rfl) (aJ hS rfl) dV)),
      fun S hS => aK rfl (bY rfl rfl (aA rfl) (bE hS rfl) c7 (aZ (aA rfl) (aJ hS rfl) (i := 1) rfl rfl dH)),
      fun S hS => aK rfl (bY rfl rfl (aA rfl) (bE hS rfl) c7 (dL (aA rfl) (aJ hS rfl) cB.of)),
      fun S hS => aK rfl (bY rfl rfl (aA rfl) (bE hS rfl) c7 (aV (aA rfl) (aJ hS rfl) nG)),
      fun S hS => aK rfl (bY rfl rfl (aA rfl) (bE hS rfl) c7 (aZ (aA rfl) (aJ hS rfl) (i := 0) rfl rfl bK)),
      fun S hS => aK rfl (bY rfl rfl (aA rfl) (bE hS rfl) c7 (bM (aA rfl) (aJ hS rfl) rfl rfl)),
      fun S hS => aK rfl (bY rfl rfl (aA rfl) (bE hS rfl) c7 (aBf (aA rfl) (aJ hS rfl) (aJ hS rfl) (tZ h9))),
      fun S hS => aK rfl (bY rfl rfl (aA rfl) (bE hS rfl) c7 (bM (aA rfl) (aJ hS rfl) rfl rfl)),
      fun S hS => aK rfl (bY rfl rfl (aA rfl) (bE hS rfl) c7 (cS (aA rfl) (.func _ _ Try.call72) (ev2 (aJ hS rfl) (ev2 rfl (ev2 (aJ hS rfl) evn))) rfl (BVs.refl _ _) (eM _ _ _ h11) rfl)),
      fun S hS => aK rfl (aT rfl (bS (v := .d (.lit (.bool r10))) (aA rfl) (aJ hS rfl) c7 (aJ hS rfl) rfl)), trivial⟩⟩
   · exact dI (aS rfl (bD trivial))
  ·have h6 := aX c7 h6
   have h6 := Option.some.inj h6
   subst h6
   refine ⟨[(5, 0, .bp b1 0 0), (6, 1, .d (.lit (.int .i64 m_0.round))), (7, 2, .bp b2 0 0), (8, 3, .d (.lit (.int .i64 t_1.Rounds))), (9, 4, .d (.lit (.int .i64 ((w64 (t_1.Rounds - 1)))))), (10, 5, .d (.lit (.bool r3))), (11, 6, .d (.lit (.bool r3))), (12, 7, .tup []), (13, 8, .tup []), (14, 9, .tup []), (15, 10, .tup []), (16, 11, .tup []), (17, 12, .tup []), (18, 13, .tup []), (19, 14, .tup []), (20, 15, .tup []), (21, 16, .tup []), (22, 17, .tup []), (23, 18, .d (.lit (.bool false)))], ?_, ?_⟩
   · exact ⟨by kernel_rfl, by kernel_rfl, by kernel_rfl, by kernel_rfl, by kernel_rfl, [([], []), ([0], []), ([], []), ([2], []), ([3], []), ([1, 4], []), ([5], []), ([6], []), ([6, 7], []), ([6], []), ([6, 9], []), ([6, 10], []), ([6], []), ([6, 12], []), ([6, 13], []), ([6, 11, 14], []), ([6, 15], []), ([6, 8, 16], []), ([6, 17], [])], by kernel_rfl, ⟨fun S hS => aK rfl (aT rfl (aV (aA rfl) (aJ hS rfl) nG)),
      fun S hS => aK rfl (aT rfl (aZ (aA rfl) (aJ hS rfl) (i := 0) rfl rfl bK)),
      fun S hS => aK rfl (aT rfl (aV (aA rfl) (aJ hS rfl) iJ)),
      fun S hS => aK rfl (aT rfl (aZ (aA rfl) (aJ hS rfl) (i := 1) rfl rfl bK)),
      fun S hS => aK rfl (aT rfl (bM (aA rfl) (aJ hS rfl) rfl rfl)),
      fun S hS => aK rfl (aT rfl (cS (aA rfl) (.func _ _ Try.call72) (ev2 (aJ hS rfl) (ev2 rfl (ev2 (aJ hS rfl) evn))) rfl (BVs.refl _ _) (eM _ _ _ h4) rfl)),
      fun S hS => aK rfl (aT rfl (aD (v := .d (.lit (.bool r3))) (aA rfl) (aJ hS rfl) rfl)),
      fun S hS => aK rfl (bX rfl rfl (aA rfl) rfl (aA rfl) (bE hS rfl) c7),
      fun S hS => aK rfl (bX rfl rfl (aA rfl) rfl (aA rfl) (bE hS rfl) c7),
      fun S hS => aK rfl (bX rfl rfl (aA rfl) rfl (aA rfl) (bE hS rfl) c7),
      fun S hS => aK rfl (bX rfl rfl (aA rfl) rfl (aA rfl) (bE hS rfl) c7),
      fun S hS => aK rfl (bX rfl rfl (aA rfl) rfl (aA rfl) (bE hS rfl) c7),
      fun S hS => aK rfl (bX rfl rfl (aA rfl) rfl (aA rfl) (bE hS rfl) c7),
      fun S hS => aK rfl (bX rfl rfl (aA rfl) rfl (aA rfl) (bE hS rfl) c7),
      fun S hS => aK rfl (bX rfl rfl (aA rfl) rfl (aA rfl) (bE hS rfl) c7),
      fun S hS => aK rfl (bX rfl rfl (aA rfl) rfl (aA rfl) (bE hS rfl) c7),
      fun S hS => aK rfl (bX rfl rfl (aA rfl) rfl (aA rfl) (bE hS rfl) c7),
      fun S hS => aK rfl (bX rfl rfl (aA rfl) rfl (aA rfl) (bE hS rfl) c7),
      fun S hS => aK rfl (aT rfl (bR (v := .d (.lit (.bool false))) (aA rfl) (aJ hS rfl) c7 rfl rfl)), trivial⟩⟩
   · exact dI (aS rfl (bD trivial))
 ·refine tr1 rfl (aI (v := .d (.lit (.bool b5))) (aA rfl) rfl rfl) ?_
  refine aF ?_
  have h := Option.some.inj h
  subst h
  refine cP (cR (cU (l := [4]) ⟨rfl, trivial⟩)) ?_
  exact bN ⟨rfl, _, .one _, rfl, rfl⟩

theorem oQ (s_0 : List Int) (v_1 : Int) {r : Int} (h : fE s_0 v_1 = some r) : Fn Try.prog 73 [.d (.sl 1 (s_0.map aP)), .d (.lit (.int .i64 v_1))] (.d (.lit (.int .i64 r))) := by
 unfold fE at h
 refine Fn.of_tr Try.func73 rfl (rs := [.tmp 4]) Try.results73 Try.ntmps73 (Nat.le_of_ble_eq_true rfl) ?_
 refine aG ?_
 refine aC ?_
 refine tr1 rfl (aI (v := .d (.lit (.int .i64 0))) (aA rfl) rfl rfl) ?_
 refine aF ?_
 refine aG ?_
 refine aG ?_
 refine aC ?_
 refine tr1 rfl (aD (v := .d (.sl 1 (s_0.map aP))) (aA rfl) rfl rfl) ?_
 refine tr1 rfl (dL (aA rfl) rfl cB.of) ?_
 refine tr1 rfl (aD (v := .d (.lit (.int .i64 0))) (aA rfl) rfl rfl) ?_
 refine aF ?_
 refine cH ?_
 refine dR [0, 1, 7] (fun (s1 : Int) => [(8, .d (.lit (.int .i64 s1)))]) (fun (s1 : Int) => []) (fun (k : Nat) (s1 : Int) => gM s_0 v_1 (s_0.length : Int) k s1) (fun _ => rfl) (0) h (bF [] rfl rfl (aS rfl (bD ⟨rfl, rfl, rfl, trivial⟩))) ?_
 rintro k2 t8_0_1 h
 simp only [gM] at h
 refine aG ?_
 refine aC ?_
 refine tr1 rfl (bH (aA rfl) rfl rfl rfl) ?_
 refine aF ?_
 refine aG ?_
 refine bQ rfl (fun c3 => ?_) (fun c3 => ?_)
 ·have h := aY c3 h
  refine bO ?_
  refine aG ?_
  refine cH ?_
  refine aG ?_
  refine aC ?_
  refine tr1 rfl (aD (v := .d (.lit (.int .i64 t8_0_1))) (aA rfl) rfl rfl) ?_
  refine tr1 rfl (aI (v := .d (.lit (.int .i64 t8_0_1))) (aA rfl) rfl rfl) ?_
  refine aF ?_
  refine aG ?_
  refine aC ?_
  refine tr1 rfl (aD (v := .d (.lit (.int .i64 v_1))) (aA rfl) rfl rfl) ?_
  refine tr1 rfl (aD (v := .d (.sl 1 (s_0.map aP))) (aA rfl) rfl rfl) ?_
  refine tr1 rfl (aD (v := .d (.lit (.int .i64 t8_0_1))) (aA rfl) rfl rfl) ?_
  obtain ⟨x4, h5, h⟩ := bind_some h
  refine tr1 rfl (bT (aA rfl) rfl rfl cB.of (cE aP h5)) ?_
  refine tr1 rfl (bV (aA rfl) rfl bK) ?_
  refine tr1 rfl (bH (aA rfl) rfl rfl rfl) ?_
  refine aF ?_
  refine bQ rfl (fun c6 => ?_) (fun c6 => ?_)
  ·have h := aY c6 h
   refine aG ?_
   refine aC ?_
   refine tr1 rfl (aD (v := .d (.lit (.int .i64 t8_0_1))) (aA rfl) rfl rfl) ?_
   refine tr1 rfl (aI (v := .d (.lit (.int .i64 t8_0_1))) (aA rfl) rfl rfl) ?_
   refine aF ?_
   have h := Option.some.inj h
   subst h
   exact bN ⟨rfl, _, .one _, rfl, rfl⟩
  ·have h := aX c6 h
   refine eG ?_
   refine aC ?_
   refine tr1 rfl (bM (aA rfl) rfl rfl rfl) ?_
   refine tr1 rfl (aD (v := .d (.lit (.int .i64 ((w64 (t8_0_1 + 1)))))) (aA rfl) rfl rfl) ?_
   refine aF ?_
   exact ⟨(w64 (t8_0_1 + 1)), h, bF [] rfl rfl (aS rfl (bD ⟨rfl, rfl, rfl, trivial⟩))⟩
 ·have h := aX c3 h
  refine dF ?_
  refine .inl ⟨rfl, ?_⟩
  simp only [nW] at h
  refine aG ?_
  refine aC ?_
  refine tr1 rfl (aI (v := .d (.lit (.int .i64 (-1)))) (aA rfl) rfl rfl) ?_
  refine aF ?_
  have h := Option.some.inj h
  subst h
  exact bN ⟨rfl, _, .one _, rfl, rfl⟩

theorem pX (s_0 : List Int) (v_1 : Int) {r : Bool} (h : gL s_0 v_1 = some r) : Fn Try.prog 88 [.d (.sl 1 (s_0.map aP)), .d (.lit (.int .i64 v_1))] (.d (.lit (.bool r))) := by
 unfold gL at h
 refine Fn.of_tr Try.func88 rfl (rs := [.tmp 4]) Try.results88 Try.ntmps88 (Nat.le_of_ble_eq_true rfl) ?_
 refine aG ?_
 refine aC ?_
 refine tr1 rfl (aI (v := .d (.lit (.bool false))) (aA rfl) rfl rfl) ?_
 refine aF ?_
 refine aG ?_
 refine aC ?_
 refine tr1 rfl (aD (v := .d (.sl 1 (s_0.map aP))) (aA rfl) rfl rfl) ?_
 refine tr1 rfl (aD (v := .d (.lit (.int .i64 v_1))) (aA rfl) rfl rfl) ?_
 obtain ⟨r1, h2, h⟩ := bind_some h
 refine tr1 rfl (cS (aA rfl) (.func _ _ Try.call73) rfl rfl (BVs.refl _ _) (oQ _ _ h2) rfl) ?_
 refine tr1 rfl (bH (aA rfl) rfl rfl rfl) ?_
 refine tr1 rfl (aI (v := .d (.lit (.bool ((decide (0 ≤ r1)))))) (aA rfl) rfl rfl) ?_
 refine aF ?_
 have h := Option.some.inj h
 subst h
 exact bN ⟨rfl, _, .one _, rfl, rfl⟩

theorem zE (t_0 : aO) (s_1 : aE) {r : Bool} (h : mI t_0 s_1 = some r) : Fn Try.prog 70 [.agg (aR t_0), .agg (aL s_1)] (.d (.lit (.bool r))) := by
 unfold mI at h
 refine Fn.of_tr Try.func70 rfl (rs := [.tmp 4]) Try.results70 Try.ntmps70 (Nat.le_of_ble_eq_true rfl) ?_
 refine aG ?_
 refine aC ?_
 refine bU rfl (gD (v := .agg (aR t_0)) (aA rfl) rfl rfl rfl) ?_
 rintro _ ⟨b1, rfl⟩
 refine bU rfl (gD (v := .agg (aL s_1)) (aA rfl) rfl rfl rfl) ?_
 rintro _ ⟨b2, rfl⟩
 refine tr1 rfl (aI (v := .d (.lit (.bool false))) (aA rfl) rfl rfl) ?_
 refine aF ?_
 refine aG ?_
 refine aG ?_
 refine aC ?_
 refine tr1 rfl (aV (aA rfl) rfl mB) ?_
 refine tr1 rfl (aZ (aA rfl) rfl (i := 1) rfl rfl bK) ?_
 obtain ⟨r3, h4, h⟩ := bind_some h
 refine tr1 rfl (cS (aA rfl) (.func _ _ Try.call72) rfl rfl (BVs.refl _ _) (eM _ _ _ h4) rfl) ?_
 refine tr1 rfl (fQ (aA rfl) rfl) ?_
 refine aF ?_
 refine bQ rfl (fun c5 => ?_) (fun c5 => ?_)
 ·have h := aY c5 h
  refine aG ?_
  refine aC ?_
  refine tr1 rfl (aI (v := .d (.lit (.bool false))) (aA rfl) rfl rfl) ?_
  refine aF ?_
  have h := Option.some.inj h
  subst h
  refine cP (cR (cU (l := [4]) ⟨rfl, trivial⟩)) ?_
  exact bN ⟨rfl, _, .one _, rfl, rfl⟩
 ·have h := aX c5 h
  refine bO ?_
  refine aG ?_
  refine aG ?_
  refine aC ?_
  refine tr1 rfl (aV (aA rfl) rfl nF) ?_
  refine tr1 rfl (aZ (aA rfl) rfl (i := 1) rfl rfl bK) ?_
  refine tr1 rfl (bH (aA rfl) rfl rfl rfl) ?_
  refine aF ?_
  refine bQ rfl (fun c6 => ?_) (fun c6 => ?_)
  ·have h := aY c6 h
   refine aG ?_
   refine aC ?_
   refine tr1 rfl (aV (aA rfl) rfl lF) ?_
   refine tr1 rfl (aZ (aA rfl) rfl (i := 1) rfl rfl bK) ?_
   refine tr1 rfl (bH (aA rfl) rfl rfl rfl) ?_
   refine tr1 rfl (aD (v := .d (.lit (.bool ((decide (s_1.Round = 0)))))) (aA rfl) rfl rfl) ?_
   obtain ⟨b7, h8, h⟩ := bind_some h
   refine cC 8 [3] 24 b7 ?_ ?_
   ·refine bI (decide (s_1.Round = 0)) (fun c14 => ?_) (fun c14 => ?_)
    ·have h8 := aY c14 h8
     refine aM rfl rfl (aA rfl) rfl c14 (aV (aA rfl) rfl iK) ?_
     refine aM rfl rfl (aA rfl) rfl c14 (aZ (aA rfl) rfl (i := 1) rfl rfl bK) ?_
     refine aM rfl rfl (aA rfl) rfl c14 (aV (aA rfl) rfl dV) ?_
     refine aM rfl rfl (aA rfl) rfl c14 (aZ (aA rfl) rfl (i := 0) rfl rfl dH) ?_
     refine aM rfl rfl (aA rfl) rfl c14 (dL (aA rfl) rfl cB.of) ?_
     refine aM rfl rfl (aA rfl) rfl c14 (bM (aA rfl) rfl rfl rfl) ?_
     obtain ⟨r15, h16, h8⟩ := bind_some h8
     refine aM rfl rfl (aA rfl) rfl c14 (cS (aA rfl) (.func _ _ Try.call72) rfl rfl (BVs.refl _ _) (eM _ _ _ h16) rfl) ?_
     refine tr1 rfl (bS (v := .d (.lit (.bool r15))) (aA rfl) rfl c14 rfl rfl) ?_
     have h8 := Option.some.inj h8
     subst h8
     refine aF (bC rfl ⟨rfl, trivial⟩ rfl)
    ·have h8 := aX c14 h8
     refine aN rfl rfl (aA rfl) rfl (aA rfl) rfl c14 ?_
     refine aN rfl rfl (aA rfl) rfl (aA rfl) rfl c14 ?_
     refine aN rfl rfl (aA rfl) rfl (aA rfl) rfl c14 ?_
     refine aN rfl rfl (aA rfl) rfl (aA rfl) rfl c14 ?_
     refine aN rfl rfl (aA rfl) rfl (aA rfl) rfl c14 ?_
     refine aN rfl rfl (aA rfl) rfl (aA rfl) rfl c14 ?_
     refine aN rfl rfl (aA rfl) rfl (aA rfl) rfl c14 ?_
     refine tr1 rfl (bR (v := .d (.lit (.bool false))) (aA rfl) rfl c14 rfl rfl) ?_
     have h8 := Option.some.inj h8
     subst h8
     refine aF (bC rfl ⟨rfl, trivial⟩ rfl)
   ·refine tr1 rfl (aD (v := .d (.lit (.bool b7))) (aA rfl) rfl rfl) ?_
    obtain ⟨b9, h10, h⟩ := bind_some h
    refine cC 4 [] 29 b9 ?_ ?_
    ·refine bI (b7) (fun c11 => ?_) (fun c11 => ?_)
     ·have h10 := aY c11 h10
      refine aM rfl rfl (aA rfl) rfl c11 (aV (aA rfl) rfl rC) ?_
      refine aM rfl rfl (aA rfl) rfl c11 (aZ (aA rfl) rfl (i := 1) rfl rfl bK) ?_
      obtain ⟨r12, h13, h10⟩ := bind_some h10
      refine aM rfl rfl (aA rfl) rfl c11 (cS (aA rfl) (.func _ _ Try.call72) rfl rfl (BVs.refl _ _) (eM _ _ _ h13) rfl) ?_
      refine tr1 rfl (bS (v := .d (.lit (.bool r12))) (aA rfl) rfl c11 rfl rfl) ?_
      have h10 := Option.some.inj h10
      subst h10
      refine aF (bC rfl trivial rfl)
     ·have h10 := aX c11 h10
      refine aN rfl rfl (aA rfl) rfl (aA rfl) rfl c11 ?_
      refine aN rfl rfl (aA rfl) rfl (aA rfl) rfl c11 ?_
      refine aN rfl rfl (aA rfl) rfl (aA rfl) rfl c11 ?_
      refine tr1 rfl (bR (v := .d (.lit (.bool false))) (aA rfl) rfl c11 rfl rfl) ?_
      have h10 := Option.some.inj h10
      subst h10
      refine aF (bC rfl trivial rfl)
    ·refine tr1 rfl (aI (v := .d (.lit (.bool b9))) (aA rfl) rfl rfl) ?_
     refine aF ?_
     have h := Option.some.inj h
     subst h
     refine cP (cR (cU (l := [4]) ⟨rfl, trivial⟩)) ?_
     exact bN ⟨rfl, _, .one _, rfl, rfl⟩
  ·have h := aX c6 h
   refine bO ?_
   refine aG ?_
   refine aC ?_
   refine tr1 rfl (aV (aA rfl) rfl lF) ?_
   refine tr1 rfl (aZ (aA rfl) rfl (i := 1) rfl rfl bK) ?_
   refine tr1 rfl (aV (aA rfl) rfl iK) ?_
   refine tr1 rfl (aZ (aA rfl) rfl (i := 1) rfl rfl bK) ?_
   refine tr1 rfl (eX (aA rfl) vC (zs := [.lit (.int .i64 0), .lit (.int .i64 0)]) rfl rfl rfl rfl (es := [.lit (.int .i64 s_1.Round), .lit (.int .i64 s_1.Place)]) rfl) ?_
   refine bU rfl (dQ (zs := [.lit (.int .i64 0), .lit (.int .i64 0)]) (aA rfl) Try.zeroValue70 rfl rfl) ?_
   rintro _ ⟨b17, rfl⟩
   refine tr1 rfl (cG (i := 2) rfl rfl rfl rfl rfl Try.sizeOf70 rfl (aA rfl) (Nat.le_of_ble_eq_true rfl) (ds' := (aH (aB.mk s_1.Round s_1.Place))) rfl) ?_
   refine aF ?_
   refine aG ?_
   refine aG ?_
   refine aC ?_
   refine tr1 rfl (aV (aA rfl) rfl nF) ?_
   refine tr1 rfl (aZ (aA rfl) rfl (i := 1) rfl rfl bK) ?_
   obtain ⟨r18, h19, h⟩ := bind_some h
   refine tr1 rfl (cS (aA rfl) (.func _ _ Try.call72) rfl rfl (BVs.refl _ _) (eM _ _ _ h19) rfl) ?_
   refine tr1 rfl (fQ (aA rfl) rfl) ?_
   refine tr1 rfl (aD (v := .d (.lit (.bool (!r18)))) (aA rfl) rfl rfl) ?_
   obtain ⟨b20, h21, h⟩ := bind_some h
   refine cC 4 [2, 3, 5] 43 b20 ?_ ?_
   ·refine bI (!r18) (fun c35 => ?_) (fun c35 => ?_)
    ·have h21 := aY c35 h21
     refine aN rfl rfl (aA rfl) rfl (aA rfl) rfl c35 ?_
     refine aN rfl rfl (aA rfl) rfl (aA rfl) rfl c35 ?_
     refine aN rfl rfl (aA rfl) rfl (aA rfl) rfl c35 ?_
     refine tr1 rfl (bS (v := .d (.lit (.bool true))) (aA rfl) rfl c35 rfl rfl) ?_
     have h21 := Option.some.inj h21
     subst h21
     refine aF (bC rfl ⟨rfl, rfl, rfl, trivial⟩ rfl)
    ·have h21 := aX c35 h21
     refine aM rfl rfl (aA rfl) rfl c35 (aV (aA rfl) rfl rC) ?_
     refine aM rfl rfl (aA rfl) rfl c35 (aZ (aA rfl) rfl (i := 1) rfl rfl bK) ?_
     refine aM rfl rfl (aA rfl) rfl c35 (bH (aA rfl) rfl rfl rfl) ?_
     refine tr1 rfl (bR (v := .d (.lit (.bool ((!decide (s_1.Old = 0)))))) (aA rfl) rfl c35 rfl rfl) ?_
     have h21 := Option.some.inj h21
     subst h21
     refine aF (bC rfl ⟨rfl, rfl, rfl, trivial⟩ rfl)
   ·refine tr1 rfl (aD (v := .d (.lit (.bool b20))) (aA rfl) rfl rfl) ?_
    obtain ⟨b22, h23, h⟩ := bind_some h
    refine cC 5 [2, 3] 49 b22 ?_ ?_
    ·refine bI (b20) (fun c32 => ?_) (fun c32 => ?_)
     ·have h23 := aY c32 h23
      refine aN rfl rfl (aA rfl) rfl (aA rfl) rfl c32 ?_
      refine aN rfl rfl (aA rfl) rfl (aA rfl) rfl c32 ?_
      refine aN rfl rfl (aA rfl) rfl (aA rfl) rfl c32 ?_
      refine aN rfl rfl (aA rfl) rfl (aA rfl) rfl c32 ?_
      refine tr1 rfl (bS (v := .d (.lit (.bool true))) (aA rfl) rfl c32 rfl rfl) ?_
      have h23 := Option.some.inj h23
      subst h23
      refine aF (bC rfl ⟨rfl, rfl, trivial⟩ rfl)
     ·have h23 := aX c32 h23
      refine aM rfl rfl (aA rfl) rfl c32 (bL (aA rfl) rfl (i := 2) rfl iL (es := (aH (aB.mk s_1.Round s_1.Place))) rfl rfl) ?_
      refine aM rfl rfl (aA rfl) rfl c32 (bL (aA rfl) rfl (i := 0) rfl dY (es := (aR t_0)) rfl rfl) ?_
      obtain ⟨r33, h34, h23⟩ := bind_some h23
      refine aM rfl rfl (aA rfl) rfl c32 (cS (aA rfl) (.func _ _ Try.call64) rfl rfl (BVs.refl _ _) (rT _ _ h34) rfl) ?_
      refine aM rfl rfl (aA rfl) rfl c32 (fQ (aA rfl) rfl) ?_
      refine tr1 rfl (bR (v := .d (.lit (.bool (!r33)))) (aA rfl) rfl c32 rfl rfl) ?_
      have h23 := Option.some.inj h23
      subst h23
      refine aF (bC rfl ⟨rfl, rfl, trivial⟩ rfl)
    ·refine aF ?_
     refine bQ rfl (fun c24 => ?_) (fun c24 => ?_)
     ·have h := aY c24 h
      refine aG ?_
      refine aC ?_
      refine tr1 rfl (aI (v := .d (.lit (.bool false))) (aA rfl) rfl rfl) ?_
      refine aF ?_
      have h := Option.some.inj h
      subst h
      refine cP (cR (cU (l := [4]) ⟨rfl, trivial⟩)) ?_
      exact bN ⟨rfl, _, .one _, rfl, rfl⟩
     ·have h := aX c24 h
      refine bO ?_
      refine aG ?_
      refine aC ?_
      refine tr1 rfl (aV (aA rfl) rfl lF) ?_
      refine tr1 rfl (aZ (aA rfl) rfl (i := 1) rfl rfl bK) ?_
      refine tr1 rfl (bH (aA rfl) rfl rfl rfl) ?_
      refine tr1 rfl (aD (v := .d (.lit (.bool ((decide (0 < s_1.Round)))))) (aA rfl) rfl rfl) ?_
      obtain ⟨b25, h26, h⟩ := bind_some h
      refine cC 13 [] 66 b25 ?_ ?_
      ·refine bI (decide (0 < s_1.Round)) (fun c27 => ?_) (fun c27 => ?_)
       ·have h26 := aY c27 h26
        refine aN rfl rfl (aA rfl) rfl (aA rfl) rfl c27 ?_
        refine aN rfl rfl (aA rfl) rfl (aA rfl) rfl c27 ?_
        refine aN rfl rfl (aA rfl) rfl (aA rfl) rfl c27 ?_
        refine aN rfl rfl (aA rfl) rfl (aA rfl) rfl c27 ?_
        refine aN rfl rfl (aA rfl) rfl (aA rfl) rfl c27 ?_
        refine aN rfl rfl (aA rfl) rfl (aA rfl) rfl c27 ?_
        refine aN rfl rfl (aA rfl) rfl (aA rfl) rfl c27 ?_
        refine aN rfl rfl (aA rfl) rfl (aA rfl) rfl c27 ?_
        refine aN rfl rfl (aA rfl) rfl (aA rfl) rfl c27 ?_
        refine aN rfl rfl (aA rfl) rfl (aA rfl) rfl c27 ?_
        refine aN rfl rfl (aA rfl) rfl (aA rfl) rfl c27 ?_
        refine aN rfl rfl (aA rfl) rfl (aA rfl) rfl c27 ?_
        refine tr1 rfl (bS (v := .d (.lit (.bool true))) (aA rfl) rfl c27 rfl rfl) ?_
        have h26 := Option.some.inj h26
        subst h26
        refine aF (bC rfl trivial rfl)
       ·have h26 := aX c27 h26
        refine aM rfl rfl (aA rfl) rfl c27 (aV (aA rfl) rfl dV) ?_
        refine aM rfl rfl (aA rfl) rfl c27 (aZ (aA rfl) rfl (i := 0) rfl rfl dH) ?_
        refine aM rfl rfl (aA rfl) rfl c27 (aV (aA rfl) rfl iK) ?_
        refine aM rfl rfl (aA rfl) rfl c27 (aZ (aA rfl) rfl (i := 1) rfl rfl bK) ?_
        refine aM rfl rfl (aA rfl) rfl c27 (bM (aA rfl) rfl rfl rfl) ?_
        refine aM rfl rfl (aA rfl) rfl c27 (aV (aA rfl) rfl iK) ?_
        refine aM rfl rfl (aA rfl) rfl c27 (aZ (aA rfl) rfl (i := 1) rfl rfl bK) ?_
        refine aM rfl rfl (aA rfl) rfl c27 (bM (aA rfl) rfl rfl rfl) ?_
        refine aM rfl rfl (aA rfl) rfl c27 (bM (aA rfl) rfl rfl rfl) ?_
        obtain ⟨x28, h29, h26⟩ := bind_some h26
        refine aM rfl rfl (aA rfl) rfl c27 (aHh (aA rfl) cB.of rfl rfl rfl (aLv aP h29)) ?_
        obtain ⟨r30, h31, h26⟩ := bind_some h26
        refine aM rfl rfl (aA rfl) rfl c27 (cS (aA rfl) (.func _ _ Try.call88) rfl rfl (BVs.refl _ _) (pX _ _ h31) rfl) ?_
        refine aM rfl rfl (aA rfl) rfl c27 (fQ (aA rfl) rfl) ?_
        refine tr1 rfl (bR (v := .d (.lit (.bool (!r30)))) (aA rfl) rfl c27 rfl rfl) ?_
        have h26 := Option.some.inj h26
        subst h26
        refine aF (bC rfl trivial rfl)
      ·refine tr1 rfl (aI (v := .d (.lit (.bool b25))) (aA rfl) rfl rfl) ?_
       refine aF ?_
       have h := Option.some.inj h
       subst h
       refine cP (cR (cU (l := [4]) ⟨rfl, trivial⟩)) ?_
       exact bN ⟨rfl, _, .one _, rfl, rfl⟩

theorem zG (s_0 : aE) (c_1 : aO) {r : Bool} (h : kZ s_0 c_1 = some r) : Fn Try.prog 69 [.agg (aL s_0), .cp (aR c_1)] (.d (.lit (.bool r))) := by
 unfold kZ at h
 refine Fn.of_tr Try.func69 rfl (rs := [.tmp 3]) Try.results69 Try.ntmps69 (Nat.le_of_ble_eq_true rfl) ?_
 refine aG ?_
 refine aC ?_
 refine bU rfl (gD (v := .agg (aL s_0)) (aA rfl) rfl rfl rfl) ?_
 rintro _ ⟨b1, rfl⟩
 refine tr1 rfl (aI (v := .d (.lit (.bool false))) (aA rfl) rfl rfl) ?_
 refine aF ?_
 refine aG ?_
 refine aC ?_
 refine tr1 rfl (gP (aA rfl) rfl dY (es := (aR c_1)) rfl rfl) ?_
 refine tr1 rfl (bL (aA rfl) rfl (i := 0) rfl jM (es := (aL s_0)) rfl rfl) ?_
 obtain ⟨r2, h3, h⟩ := bind_some h
 refine tr1 rfl (cS (aA rfl) (.func _ _ Try.call70) rfl rfl (BVs.refl _ _) (zE _ _ h3) rfl) ?_
 refine tr1 rfl (fQ (aA rfl) rfl) ?_
 refine tr1 rfl (aI (v := .d (.lit (.bool (!r2)))) (aA rfl) rfl rfl) ?_
 refine aF ?_
 have h := Option.some.inj h
 subst h
 refine cP (cR (cU (l := [3]) ⟨rfl, trivial⟩)) ?_
 exact bN ⟨rfl, _, .one _, rfl, rfl⟩

theorem qX (s_0 : List Int) {r : (List Int)} (h : jV s_0 = some r) : eS Try.prog 89 [.d (.sl 1 (s_0.map aP))] [] (fun r' o' => ∃ (w0 : Value), r' = .d (.lit w0) ∧ o' = [.arr w0 3 1 (r.map aP)]) := by
 unfold jV at h
 refine fV Try.func89 rfl (rs := [.tmp 2]) Try.results89 Try.ntmps89 (Nat.le_of_ble_eq_true rfl) ?_
 refine aG ?_
 refine aC ?_
 refine tr1 rfl (iB 3 1 (.inl rfl) (aA rfl)) ?_
 refine aF ?_
 refine aG ?_
 refine aG ?_
 refine aC ?_
 refine tr1 rfl (aD (v := .d (.sl 1 (s_0.map aP))) (aA rfl) rfl rfl) ?_
 refine bU rfl (aHc (aA rfl) rfl rfl Try.underlying22) ?_
 rintro _ ⟨b2, h3, rfl⟩
 refine aF ?_
 refine bQ rfl (fun c4 => ?_) (fun c4 => ?_)
 ·obtain rfl := aGu (h3 c4)
  simp [app] at h
  subst h
  refine aG ?_
  refine aC ?_
  refine tr1 rfl (iB 3 1 (.inl rfl) (aA rfl)) ?_
  refine aF ?_
  refine cP (bF [1, 0] rfl rfl (le_refl _)) ?_
  exact bN ⟨rfl, _, [.arr (.slice none 0 0) 3 1 (([] : List Int).map aP)], [.arr (.slice none 0 0) 3 1 (([] : List Int).map aP)], _, .one (.tmp 2 (v := .d (.lit (.slice none 0 0))) rfl), .refl _, .same _, (.slice none 0 0), rfl, rfl⟩
 ·refine bO ?_
  refine aG ?_
  refine aC ?_
  refine bU rfl (xS (aA rfl) cB rfl rfl (rows := (([] : List Int)).map aP) rfl (cV (f := aP) fun _ => rfl) rfl (by decide)) ?_
  rintro _ ⟨v5, rfl⟩
  refine tr1 rfl (aD (v := .d (.sl 1 (s_0.map aP))) (aA rfl) rfl rfl) ?_
  obtain ⟨x6, h7, h⟩ := bind_some h
  refine bU rfl (eI (i := 1) (aA rfl) cB rfl rfl rfl (fun _ => rfl) h7 rfl) ?_
  rintro _ ⟨v8, rfl⟩
  refine tr1 rfl (aI (v := .d (.lit v8)) (aA rfl) rfl rfl) ?_
  refine aF ?_
  have h := Option.some.inj h
  subst h
  refine cP (bF [1, 0] rfl rfl (le_refl _)) ?_
  exact bN ⟨rfl, _, [.arr v8 3 1 (x6.map aP)], [.arr (.slice none 0 0) 3 1 (([] : List Int).map aP)], _, .one (.tmp 2 (v := .d (.lit v8)) rfl), .refl _, .same _, v8, rfl, rfl⟩

theorem qQ (d_0_Tree : aO) (d_0_players : List Int) (lucky_1 : List (aE × Int)) (slot_2 : Int) {Q : (aE × Bool) → Prop} {d_0_b d_0_o : Nat} {d_0_players_v : Value} {d_0_won_r : Nat} {lucky_1_r : Nat} {lucky_1_bs : List Nat} {lucky_1_ck : Nat} (h : gE d_0_Tree d_0_players lucky_1 slot_2 Q) : eS Try.prog 98 [.bp d_0_b d_0_o 0, .d (.lit (.map (some lucky_1_r))), .d (.lit (.int .i64 slot_2))] [.box d_0_b d_0_o [.lit (.int .i64 d_0_Tree.Rounds), .sl 1 (d_0_Tree.Slots.map aP), .lit d_0_players_v, .lit (.map (some d_0_won_r))], .arr d_0_players_v 3 1 (d_0_players.map aP), .map lucky_1_r (lucky_1.map fun p : aE × Int => ((fun a : aE => Value.agg ((aL a).map bG).toArray) p.1, (fun v : Int => AV.d (.lit (.int .i64 v))) p.2)) lucky_1_bs lucky_1_ck] (fun r' o' => ∃ (r : aE × Bool), Q r ∧ r' = .tup [.agg (aL r.1), .d (.lit (.bool r.2))] ∧ o' = [.box d_0_b d_0_o [.lit (.int .i64 d_0_Tree.Rounds), .sl 1 (d_0_Tree.Slots.map aP), .lit d_0_players_v, .lit (.map (some d_0_won_r))], .arr d_0_players_v 3 1 (d_0_players.map aP), .map lucky_1_r (lucky_1.map fun p : aE × Int => ((fun a : aE => Value.agg ((aL a).map bG).toArray) p.1, (fun v : Int => AV.d (.lit (.int .i64 v))) p.2)) lucky_1_bs lucky_1_ck]) := by
 unfold gE at h
 refine fV Try.func98 rfl (rs := [.cell 6 32, .tmp 7]) Try.results98 Try.ntmps98 (Nat.le_of_ble_eq_true rfl) ?_
 refine aG ?_
 refine aC ?_
 refine bU rfl (dQ (zs := [.lit (.int .i64 0), .lit (.int .i64 0), .lit (.int .i64 0), .lit (.int .i64 0), .lit (.int .i64 0)]) (aA rfl) Try.zeroValue32 rfl rfl) ?_
 rintro _ ⟨b1, rfl⟩
 refine tr1 rfl (aI (v := .d (.lit (.bool false))) (aA rfl) rfl rfl) ?_
 refine aF ?_
 refine aG ?_
 refine aG ?_
 refine aC ?_
 refine tr1 rfl (aD (v := .d (.lit (.map (some lucky_1_r)))) (aA rfl) rfl rfl) ?_
 refine bU rfl (aFz (m := 2) (aA rfl) Try.underlying123 rfl rfl) ?_
 rintro _ ⟨q2, h4, rfl⟩
 have h := xL h h4
 refine aF ?_
 refine cH ?_
 refine oR [0, 2, 6, 10] (fun (s5 : aE × (List Nat)) => []) (fun (s5 : aE × (List Nat)) => [.arr d_0_players_v 3 1 (d_0_players.map aP), .box d_0_b d_0_o [.lit (.int .i64 d_0_Tree.Rounds), .sl 1 (d_0_Tree.Slots.map aP), .lit d_0_players_v, .lit (.map (some d_0_won_r))], .map lucky_1_r (lucky_1.map fun p : aE × Int => ((fun a : aE => Value.agg ((aL a).map bG).toArray) p.1, (fun v : Int => AV.d (.lit (.int .i64 v))) p.2)) lucky_1_bs lucky_1_ck, .box b1 0 (aL s5.1), .iter q2 lucky_1_r lucky_1_ck s5.2 lucky_1_ck]) (fun (k : Nat) (s5 : aE × (List Nat)) => fZ Q slot_2 d_0_players d_0_Tree lucky_1 k s5.1 (kM lucky_1 lucky_1_bs s5.2)) (fun _ h => h) ((aE.mk 0 0 0 0 0), []) h (bF [1, 0, 2, 3, 4] rfl rfl (bD ⟨rfl, rfl, rfl, rfl, trivial⟩)) ?_
 rintro k7 ⟨o6_0_5, seen6⟩ h
 simp only [fZ] at h
 refine aG ?_
 refine aC ?_
 refine bU rfl (aJa (kv := (fun a : aE => Value.agg ((aL a).map bG).toArray)) (av := (fun v : Int => AV.d (.lit (.int .i64 v)))) (l := lucky_1) (mi := 4) (mm := 2) (aA rfl) rfl rfl rfl) ?_
 rintro _ (⟨h12, rfl⟩ | ⟨j9, b10, p8, h11, rfl⟩)
 ·have h := h.1 h12
  refine tr1 rfl (bJ (aA rfl) rfl rfl) ?_
  refine aF ?_
  refine aG ?_
  refine bQ rfl (fun c13 => ?_) (fun c13 => ?_)
  ·exact absurd c13 (by decide)
  ·refine dF ?_
   refine .inl ⟨rfl, ?_⟩
   simp only [kU] at h
   refine aG ?_
   refine aC ?_
   refine tr1 rfl (eX (aA rfl) xX (zs := [.lit (.int .i64 0), .lit (.int .i64 0), .lit (.int .i64 0), .lit (.int .i64 0), .lit (.int .i64 0)]) rfl rfl rfl rfl (es := [.lit (.int .i64 0), .lit (.int .i64 0), .lit (.int .i64 0), .lit (.int .i64 0), .lit (.int .i64 0)]) rfl) ?_
   refine tr1 rfl (cG (i := 3) rfl rfl rfl rfl rfl Try.sizeOf32 rfl (aA rfl) (Nat.le_of_ble_eq_true rfl) (ds' := (aL (aE.mk 0 0 0 0 0))) rfl) ?_
   refine tr1 rfl (aI (v := .d (.lit (.bool false))) (aA rfl) rfl rfl) ?_
   refine aF ?_
   refine cP (bF [1, 0, 2, 3, 4] rfl rfl (le_refl _)) ?_
   exact bN ⟨rfl, _, [.box d_0_b d_0_o [.lit (.int .i64 d_0_Tree.Rounds), .sl 1 (d_0_Tree.Slots.map aP), .lit d_0_players_v, .lit (.map (some d_0_won_r))], .arr d_0_players_v 3 1 (d_0_players.map aP), .map lucky_1_r (lucky_1.map fun p : aE × Int => ((fun a : aE => Value.agg ((aL a).map bG).toArray) p.1, (fun v : Int => AV.d (.lit (.int .i64 v))) p.2)) lucky_1_bs lucky_1_ck], [.box b1 0 (aL (aE.mk 0 0 0 0 0)), .iter q2 lucky_1_r lucky_1_ck seen6 lucky_1_ck], _, .two (.cell 6 32 rfl (i := 3) rfl jM (es := (aL (aE.mk 0 0 0 0 0))) rfl rfl) (.tmp 7 (v := .d (.lit (.bool false))) rfl), .refl _, .same _, ((aE.mk 0 0 0 0 0), false), h, rfl, rfl⟩
 ·have h := yU h h11
  refine tr1 rfl (bJ (aA rfl) rfl rfl) ?_
  refine aF ?_
  refine aG ?_
  refine bQ rfl (fun c21 => ?_) (fun c21 => ?_)
  ·refine bO ?_
   refine cH ?_
   refine aG ?_
   refine aC ?_
   refine tr1 rfl (aFy (kv := (fun a : aE => Value.agg ((aL a).map bG).toArray)) (av := (fun v : Int => AV.d (.lit (.int .i64 v)))) (l := lucky_1) (mi := 4) (mm := 2) (ka := .agg (aL p8.1)) (aA rfl) rfl rfl rfl h11 (fun _ _ => .agg (xG rfl))) ?_
   refine tr1 rfl (bJ (aA rfl) rfl rfl) ?_
   refine bU rfl (dQ (zs := [.lit (.int .i64 0), .lit (.int .i64 0), .lit (.int .i64 0), .lit (.int .i64 0), .lit (.int .i64 0)]) (aA rfl) Try.zeroValue32 rfl rfl) ?_
   rintro _ ⟨b14, rfl⟩
   refine tr1 rfl (cG (i := 5) rfl rfl rfl rfl rfl Try.sizeOf32 rfl (aA rfl) (Nat.le_of_ble_eq_true rfl) (ds' := (aL p8.1)) rfl) ?_
   refine aF ?_
   refine aG ?_
   obtain ⟨b15, h16, h⟩ := dA h
   refine dX mix 16 [0, 2, 6, 8, 10] [(30, .d (.lit (.bool b15)))] ?_ ?_
   ·refine bI (decide (p8.1.Place = slot_2)) (fun c17 => ?_) (fun c17 => ?_)
    ·have h16 := aY c17 h16
     obtain ⟨x18, h19, h16⟩ := bind_some h16
     have h16 := Option.some.inj h16
     subst h16
     refine ⟨[(15, 0, .bp b14 0 2), (16, 1, .d (.lit (.int .i64 p8.1.Place))), (17, 2, .d (.lit (.int .i64 slot_2))), (18, 3, .d (.lit (.bool ((decide (p8.1.Place = slot_2)))))), (19, 4, .d (.lit (.bool ((decide (p8.1.Place = slot_2)))))), (20, 5, .bp b14 0 4), (21, 6, .d (.lit (.int .i64 p8.1.Old))), (22, 7, .bp d_0_b d_0_o 0), (23, 8, .bp d_0_b d_0_o 0), (24, 9, .bp d_0_b d_0_o 2), (25, 10, .d (.lit d_0_players_v)), (26, 11, .d (.lit (.int .i64 slot_2))), (27, 12, .ep d_0_players_v 1 slot_2.toNat 0), (28, 13, .d (.lit (.int .i64 x18))), (29, 14, .d (.lit (.bool ((decide (p8.1.Old = x18)))))), (30, 15, .d (.lit (.bool ((decide (p8.1.Old = x18))))))], ?_, ?_⟩
     · exact ⟨by kernel_rfl, by kernel_rfl, by kernel_rfl, by kernel_rfl, by kernel_rfl, [([], []), ([0], []), ([], []), ([1, 2], []), ([3], []), ([4], []), ([4, 5], []), ([4], []), ([4, 7], []), ([4, 8], []), ([4, 9], []), ([4], []), ([4, 10, 11], []), ([4, 12], []), ([4, 6, 13], []), ([4, 14], [])], by kernel_rfl, ⟨fun S hS => aK rfl (aT rfl (aV (aA rfl) (aJ hS rfl) iK)),
      fun S hS => aK rfl (aT rfl (aZ (aA rfl) (aJ hS rfl) (i := 5) rfl rfl bK)),
      fun S hS => aK rfl (aT rfl (aD (v := .d (.lit (.int .i64 slot_2))) (aA rfl) (aJ hS rfl) rfl)),
      fun S hS => aK rfl (aT rfl (bH (aA rfl) (aJ hS rfl) (aJ hS rfl) rfl)),
      fun S hS => aK rfl (aT rfl (aD (v := .d (.lit (.bool ((decide (p8.1.Place = slot_2)))))) (aA rfl) (aJ hS rfl) rfl)),
      fun S hS => aK rfl (bY rfl rfl (aA rfl) (bE hS rfl) c17 (aV (aA rfl) (aJ hS rfl) rC)),
      fun S hS => aK rfl (bY rfl rfl (aA rfl) (bE hS rfl) c17 (aZ (aA rfl) (aJ hS rfl) (i := 5) rfl rfl bK)),
      fun S hS => aK rfl (bY rfl rfl (aA rfl) (bE hS rfl) c17 (aD (v := .bp d_0_b d_0_o 0) (aA rfl) (aJ hS rfl) rfl)),
      fun S hS => aK rfl (bY rfl rfl (aA rfl) (bE hS rfl) c17 (kA (aA rfl) (aJ hS rfl))),
      fun S hS => aK rfl (bY rfl rfl (aA rfl) (bE hS rfl) c17 (aV (aA rfl) (aJ hS rfl) kO)),
      fun S hS => aK rfl (bY rfl rfl (aA rfl) (bE hS rfl) c17 (aZ (aA rfl) (aJ hS rfl) (i := 1) rfl rfl dH)),
      fun S hS => aK rfl (bY rfl rfl (aA rfl) (bE hS rfl) c17 (aD (v := .d (.lit (.int .i64 slot_2))) (aA rfl) (aJ hS rfl) rfl)),
      fun S hS => aK rfl (bY rfl rfl (aA rfl) (bE hS rfl) c17 (iX (m := 0) (aA rfl) (aJ hS rfl) rfl (aJ hS rfl) cB.of (cE aP h19))),
      fun S hS => aK rfl (bY rfl rfl (aA rfl) (bE hS rfl) c17 (mV (aA rfl) (aJ hS rfl) (m := 0) rfl (sG aP h19) rfl bK)),
      fun S hS => aK rfl (bY rfl rfl (aA rfl) (bE hS rfl) c17 (bH (aA rfl) (aJ hS rfl) (aJ hS rfl) rfl)),
      fun S hS => aK rfl (aT rfl (bS (v := .d (.lit (.bool ((decide (p8.1.Old = x18)))))) (aA rfl) (aJ hS rfl) c17 (aJ hS rfl) rfl)), trivial⟩⟩
     · exact dI (aS rfl (bD ⟨rfl, rfl, rfl, rfl, rfl, trivial⟩))
    ·have h16 := aX c17 h16
     have h16 := Option.some.inj h16
     subst h16
     refine ⟨[(15, 0, .bp b14 0 2), (16, 1, .d (.lit (.int .i64 p8.1.Place))), (17, 2, .d (.lit (.int .i64 slot_2))), (18, 3, .d (.lit (.bool ((decide (p8.1.Place = slot_2)))))), (19, 4, .d (.lit (.bool ((decide (p8.1.Place = slot_2)))))), (20, 5, .tup []), (21, 6, .tup []), (22, 7, .tup []), (23, 8, .tup []), (24, 9, .tup []), (25, 10, .tup []), (26, 11, .tup []), (27, 12, .tup []), (28, 13, .tup []), (29, 14, .tup []), (30, 15, .d (.lit (.bool false)))], ?_, ?_⟩
     · exact ⟨by kernel_rfl, by kernel_rfl, by kernel_rfl, by kernel_rfl, by kernel_rfl, [([], []), ([0], []), ([], []), ([1, 2], []), ([3], []), ([4], []), ([4, 5], []), ([4], []), ([4, 7], []), ([4, 8], []), ([4, 9], []), ([4], []), ([4, 10, 11], []), ([4, 12], []), ([4, 6, 13], []), ([4, 14], [])], by kernel_rfl, ⟨fun S hS => aK rfl (aT rfl (aV (aA rfl) (aJ hS rfl) iK)),
      fun S hS => aK rfl (aT rfl (aZ (aA rfl) (aJ hS rfl) (i := 5) rfl rfl bK)),
      fun S hS => aK rfl (aT rfl (aD (v := .d (.lit (.int .i64 slot_2))) (aA rfl) (aJ hS rfl) rfl)),
      fun S hS => aK rfl (aT rfl (bH (aA rfl) (aJ hS rfl) (aJ hS rfl) rfl)),
      fun S hS => aK rfl (aT rfl (aD (v := .d (.lit (.bool ((decide (p8.1.Place = slot_2)))))) (aA rfl) (aJ hS rfl) rfl)),
      fun S hS => aK rfl (bX rfl rfl (aA rfl) rfl (aA rfl) (bE hS rfl) c17),
      fun S hS => aK rfl (bX rfl rfl (aA rfl) rfl (aA rfl) (bE hS rfl) c17),
      fun S hS => aK rfl (bX rfl rfl (aA rfl) rfl (aA rfl) (bE hS rfl) c17),
      fun S hS => aK rfl (bX rfl rfl (aA rfl) rfl (aA rfl) (bE hS rfl) c17),
      fun S hS => aK rfl (bX rfl rfl (aA rfl) rfl (aA rfl) (bE hS rfl) c17),
      fun S hS => aK rfl (bX rfl rfl (aA rfl) rfl (aA rfl) (bE hS rfl) c17),
      fun S hS => aK rfl (bX rfl rfl (aA rfl) rfl (aA rfl) (bE hS rfl) c17),
      fun S hS => aK rfl (bX rfl rfl (aA rfl) rfl (aA rfl) (bE hS rfl) c17),
      fun S hS => aK rfl (bX rfl rfl (aA rfl) rfl (aA rfl) (bE hS rfl) c17),
      fun S hS => aK rfl (bX rfl rfl (aA rfl) rfl (aA rfl) (bE hS rfl) c17),
      fun S hS => aK rfl (aT rfl (bR (v := .d (.lit (.bool false))) (aA rfl) (aJ hS rfl) c17 rfl rfl)), trivial⟩⟩
     · exact dI (aS rfl (bD ⟨rfl, rfl, rfl, rfl, rfl, trivial⟩))
   ·refine aF ?_
    refine bQ rfl (fun c20 => ?_) (fun c20 => ?_)
    ·have h := eC c20 h
     refine aG ?_
     refine aC ?_
     refine tr1 rfl (bL (aA rfl) rfl (i := 5) rfl jM (es := (aL p8.1)) rfl rfl) ?_
     refine tr1 rfl (cG (i := 3) rfl rfl rfl rfl rfl Try.sizeOf32 rfl (aA rfl) (Nat.le_of_ble_eq_true rfl) (ds' := (aL p8.1)) rfl) ?_
     refine tr1 rfl (aI (v := .d (.lit (.bool true))) (aA rfl) rfl rfl) ?_
     refine aF ?_
     refine cP (bF [1, 0, 2, 3, 4, 5] rfl rfl (le_refl _)) ?_
     exact bN ⟨rfl, _, [.box d_0_b d_0_o [.lit (.int .i64 d_0_Tree.Rounds), .sl 1 (d_0_Tree.Slots.map aP), .lit d_0_players_v, .lit (.map (some d_0_won_r))], .arr d_0_players_v 3 1 (d_0_players.map aP), .map lucky_1_r (lucky_1.map fun p : aE × Int => ((fun a : aE => Value.agg ((aL a).map bG).toArray) p.1, (fun v : Int => AV.d (.lit (.int .i64 v))) p.2)) lucky_1_bs lucky_1_ck], [.box b1 0 (aL p8.1), .iter q2 lucky_1_r lucky_1_ck (seen6 ++ [b10]) lucky_1_ck, .box b14 0 (aL p8.1)], _, .two (.cell 6 32 rfl (i := 3) rfl jM (es := (aL p8.1)) rfl rfl) (.tmp 7 (v := .d (.lit (.bool true))) rfl), .refl _, .same _, (p8.1, true), h, rfl, rfl⟩
    ·have h := eB c20 h
     refine eG ?_
     exact ⟨(o6_0_5, (seen6 ++ [b10])), h, bF [0, 1, 2, 3, 4] rfl rfl (bD ⟨rfl, rfl, rfl, rfl, trivial⟩)⟩
  ·exact absurd c21 (by decide)

theorem uJ (d_0_Tree : aO) (d_0_players : List Int) (lucky_1 : List (aE × Int)) {Q : (Bool × (List Int) × (List (aE × Int))) → Prop} {d_0_b d_0_o : Nat} {d_0_players_v : Value} {d_0_won_r : Nat} {lucky_1_r : Nat} {lucky_1_bs : List Nat} {lucky_1_ck : Nat} (h : iZ d_0_Tree d_0_players lucky_1 Q) : eS Try.prog 90 [.bp d_0_b d_0_o 0, .d (.lit (.map (some lucky_1_r)))] [.box d_0_b d_0_o [.lit (.int .i64 d_0_Tree.Rounds), .sl 1 (d_0_Tree.Slots.map aP), .lit d_0_players_v, .lit (.map (some d_0_won_r))], .arr d_0_players_v 3 1 (d_0_players.map aP), .map lucky_1_r (lucky_1.map fun p : aE × Int => ((fun a : aE => Value.agg ((aL a).map bG).toArray) p.1, (fun v : Int => AV.d (.lit (.int .i64 v))) p.2)) lucky_1_bs lucky_1_ck] (fun r' o' => ∃ (r : Bool × (List Int) × (List (aE × Int))) (bs3 : List Nat) (ck3 : Nat), Q r ∧ r' = .d (.lit (.bool r.1)) ∧ o' = [.box d_0_b d_0_o [.lit (.int .i64 d_0_Tree.Rounds), .sl 1 (d_0_Tree.Slots.map aP), .lit d_0_players_v, .lit (.map (some d_0_won_r))], .arr d_0_players_v 3 1 (r.2.1.map aP), .map lucky_1_r (r.2.2.map fun p : aE × Int => ((fun a : aE => Value.agg ((aL a).map bG).toArray) p.1, (fun v : Int => AV.d (.lit (.int .i64 v))) p.2)) bs3 ck3]) := by
 unfold iZ at h
 refine fV Try.func90 rfl (rs := [.tmp 4]) Try.results90 Try.ntmps90 (Nat.le_of_ble_eq_true rfl) ?_
 refine aG ?_
 refine aC ?_
 refine tr1 rfl (aI (v := .d (.lit (.bool false))) (aA rfl) rfl rfl) ?_
 refine aF ?_
 refine aG ?_
 refine aC ?_
 refine tr1 rfl (aD (v := .bp d_0_b d_0_o 0) (aA rfl) rfl rfl) ?_
 refine tr1 rfl (kA (aA rfl) rfl) ?_
 refine tr1 rfl (aV (aA rfl) rfl oM) ?_
 refine tr1 rfl (aV (aA rfl) rfl dV) ?_
 refine tr1 rfl (aZ (aA rfl) rfl (i := 0) rfl rfl dH) ?_
 obtain ⟨r1, h2, h⟩ := dA h
 refine bU rfl (aBc (aA rfl) (.func _ _ Try.call89) rfl rfl (qX _ h2)) ?_
 rintro _ ⟨v3, rfl⟩
 refine tr1 rfl (aI (v := .d (.lit v3)) (aA rfl) rfl rfl) ?_
 refine aF ?_
 refine aG ?_
 refine aG ?_
 refine aC ?_
 refine tr1 rfl (aD (v := .bp d_0_b d_0_o 0) (aA rfl) rfl rfl) ?_
 refine tr1 rfl (kA (aA rfl) rfl) ?_
 refine tr1 rfl (aV (aA rfl) rfl kO) ?_
 refine tr1 rfl (aZ (aA rfl) rfl (i := 0) rfl rfl dH) ?_
 refine tr1 rfl (oV (m := 1) (aA rfl) rfl rfl cB.of) ?_
 refine tr1 rfl (aD (v := .d (.lit (.int .i64 0))) (aA rfl) rfl rfl) ?_
 refine aF ?_
 refine cH ?_
 refine oR [0, 1, 19] (fun (s4 : Int × (List Int) × (List (aE × Int)) × (List Int) × (List Nat) × Nat × Value) => [(5, .d (.lit s4.2.2.2.2.2.2)), (20, .d (.lit (.int .i64 s4.1)))]) (fun (s4 : Int × (List Int) × (List (aE × Int)) × (List Int) × (List Nat) × Nat × Value) => [.arr d_0_players_v 3 1 (s4.2.1.map aP), .box d_0_b d_0_o [.lit (.int .i64 d_0_Tree.Rounds), .sl 1 (d_0_Tree.Slots.map aP), .lit d_0_players_v, .lit (.map (some d_0_won_r))], .map lucky_1_r (s4.2.2.1.map fun p : aE × Int => ((fun a : aE => Value.agg ((aL a).map bG).toArray) p.1, (fun v : Int => AV.d (.lit (.int .i64 v))) p.2)) s4.2.2.2.2.1 s4.2.2.2.2.2.1, .arr s4.2.2.2.2.2.2 3 1 (s4.2.2.2.1.map aP)]) (fun (k : Nat) (s4 : Int × (List Int) × (List (aE × Int)) × (List Int) × (List Nat) × Nat × Value) => cT Q (d_0_players.length : Int) d_0_Tree k s4.1 s4.2.1 s4.2.2.1 s4.2.2.2.1) (fun _ h => h) (0, d_0_players, lucky_1, r1, lucky_1_bs, lucky_1_ck, v3) h (bF [1, 0, 2, 3] rfl rfl (aS rfl (aS rfl (bD ⟨rfl, rfl, rfl, trivial⟩)))) ?_
 rintro k8 ⟨t20_0_4, d_0_4, lucky_0_4, o14_0_4, bs5, ck6, w7⟩ h
 simp only [cT] at h
 refine aG ?_
 refine aC ?_
 refine tr1 rfl (bH (aA rfl) rfl rfl rfl) ?_
 refine aF ?_
 refine aG ?_
 refine bQ rfl (fun c9 => ?_) (fun c9 => ?_)
 ·have h := eC c9 h
  refine bO ?_
  refine aG ?_
  refine cH ?_
  refine aG ?_
  refine aC ?_
  refine tr1 rfl (aD (v := .d (.lit (.int .i64 t20_0_4))) (aA rfl) rfl rfl) ?_
  refine tr1 rfl (aI (v := .d (.lit (.int .i64 t20_0_4))) (aA rfl) rfl rfl) ?_
  refine aF ?_
  refine aG ?_
  refine aC ?_
  refine tr1 rfl (aD (v := .bp d_0_b d_0_o 0) (aA rfl) rfl rfl) ?_
  refine tr1 rfl (aD (v := .d (.lit (.map (some lucky_1_r)))) (aA rfl) rfl rfl) ?_
  refine tr1 rfl (aD (v := .d (.lit (.int .i64 t20_0_4))) (aA rfl) rfl rfl) ?_
  refine jG (bF [1, 0, 2, 3] rfl rfl (le_refl _)) ?_
  refine bU rfl (tD (passed := [.box d_0_b d_0_o [.lit (.int .i64 d_0_Tree.Rounds), .sl 1 (d_0_Tree.Slots.map aP), .lit d_0_players_v, .lit (.map (some d_0_won_r))], .arr d_0_players_v 3 1 (d_0_4.map aP), .map lucky_1_r (lucky_0_4.map fun p : aE × Int => ((fun a : aE => Value.agg ((aL a).map bG).toArray) p.1, (fun v : Int => AV.d (.lit (.int .i64 v))) p.2)) bs5 ck6]) (aA rfl) rfl (.func _ _ Try.call98) rfl rfl (qQ d_0_Tree d_0_4 lucky_0_4 t20_0_4 h)) ?_
  rintro _ ⟨_, _, ⟨r10, h, rfl, rfl⟩, rfl⟩
  refine tr1 rfl (aD (v := .tup [.agg (aL r10.1), .d (.lit (.bool r10.2))]) (aA rfl) rfl rfl) ?_
  refine tr1 rfl (bJ (aA rfl) rfl rfl) ?_
  refine tr1 rfl (bJ (aA rfl) rfl rfl) ?_
  refine bU rfl (dQ (zs := [.lit (.int .i64 0), .lit (.int .i64 0), .lit (.int .i64 0), .lit (.int .i64 0), .lit (.int .i64 0)]) (aA rfl) Try.zeroValue32 rfl rfl) ?_
  rintro _ ⟨b11, rfl⟩
  refine tr1 rfl (cG (i := 4) rfl rfl rfl rfl rfl Try.sizeOf32 rfl (aA rfl) (Nat.le_of_ble_eq_true rfl) (ds' := (aL r10.1)) rfl) ?_
  refine tr1 rfl (aI (v := .d (.lit (.bool r10.2))) (aA rfl) rfl rfl) ?_
  refine aF ?_
  refine yI ?_
  refine oR [0, 1, 6, 19, 20] (fun (s12 : Bool × (List Int) × (List (aE × Int)) × aE × (List Int) × (List Nat) × Nat × Nat × Value) => [(5, .d (.lit s12.2.2.2.2.2.2.2.2)), (7, .bp s12.2.2.2.2.2.2.2.1 0 0), (8, .d (.lit (.bool s12.1)))]) (fun (s12 : Bool × (List Int) × (List (aE × Int)) × aE × (List Int) × (List Nat) × Nat × Nat × Value) => [.arr d_0_players_v 3 1 (s12.2.1.map aP), .box d_0_b d_0_o [.lit (.int .i64 d_0_Tree.Rounds), .sl 1 (d_0_Tree.Slots.map aP), .lit d_0_players_v, .lit (.map (some d_0_won_r))], .map lucky_1_r (s12.2.2.1.map fun p : aE × Int => ((fun a : aE => Value.agg ((aL a).map bG).toArray) p.1, (fun v : Int => AV.d (.lit (.int .i64 v))) p.2)) s12.2.2.2.2.2.1 s12.2.2.2.2.2.2.1, .box s12.2.2.2.2.2.2.2.1 0 (aL s12.2.2.2.1), .arr s12.2.2.2.2.2.2.2.2 3 1 (s12.2.2.2.2.1.map aP)]) (fun (k : Nat) (s12 : Bool × (List Int) × (List (aE × Int)) × aE × (List Int) × (List Nat) × Nat × Nat × Value) => dM Q (cT Q (d_0_players.length : Int) d_0_Tree k8) t20_0_4 (d_0_players.length : Int) t20_0_4 d_0_Tree k s12.1 s12.2.1 s12.2.2.1 s12.2.2.2.1 s12.2.2.2.2.1) (fun _ h => h) (r10.2, d_0_4, lucky_0_4, r10.1, o14_0_4, bs5, ck6, b11, w7) h (bF [1, 0, 2, 4, 3] rfl rfl (aS rfl (aS rfl (aS rfl (bD ⟨rfl, rfl, rfl, rfl, rfl, trivial⟩))))) ?_
  rintro k17 ⟨isv_2_12, d_2_12, lucky_2_12, s_2_12, o14_2_12, bs13, ck14, b15, w16⟩ h
  simp only [dM] at h
  refine aG ?_
  refine aG ?_
  refine aC ?_
  refine tr1 rfl (aD (v := .d (.lit (.bool isv_2_12))) (aA rfl) rfl rfl) ?_
  refine aF ?_
  refine bQ rfl (fun c18 => ?_) (fun c18 => ?_)
  ·have h := eC c18 h
   refine bO ?_
   refine aG ?_
   refine cH ?_
   refine aG ?_
   refine aG ?_
   refine aC ?_
   refine tr1 rfl (aD (v := .d (.lit w16)) (aA rfl) rfl rfl) ?_
   refine tr1 rfl (aV (aA rfl) rfl mB) ?_
   refine tr1 rfl (aZ (aA rfl) rfl (i := 3) rfl rfl bK) ?_
   obtain ⟨r19, h20, h⟩ := dA h
   refine tr1 rfl (cS (aA rfl) (.func _ _ Try.call88) rfl rfl (.cons (.d (kR 4 rfl (cV (f := aP) fun _ => rfl))) (.cons (.same _) .nil)) (pX _ _ h20) rfl) ?_
   refine aF ?_
   refine bQ rfl (fun c21 => ?_) (fun c21 => ?_)
   ·have h := eC c21 h
    refine aG ?_
    refine aC ?_
    refine tr1 rfl (aI (v := .d (.lit (.bool false))) (aA rfl) rfl rfl) ?_
    refine aF ?_
    refine cP (bF [1, 0, 2, 3, 4] rfl rfl (le_refl _)) ?_
    exact bN ⟨rfl, _, [.box d_0_b d_0_o [.lit (.int .i64 d_0_Tree.Rounds), .sl 1 (d_0_Tree.Slots.map aP), .lit d_0_players_v, .lit (.map (some d_0_won_r))], .arr d_0_players_v 3 1 (d_2_12.map aP), .map lucky_1_r (lucky_2_12.map fun p : aE × Int => ((fun a : aE => Value.agg ((aL a).map bG).toArray) p.1, (fun v : Int => AV.d (.lit (.int .i64 v))) p.2)) bs13 ck14], [.box b15 0 (aL s_2_12), .arr w16 3 1 (o14_2_12.map aP)], _, .one (.tmp 4 (v := .d (.lit (.bool false))) rfl), .refl _, .same _, (false, d_2_12, lucky_2_12), bs13, ck14, h, rfl, rfl⟩
   ·have h := eB c21 h
    refine bO ?_
    refine aG ?_
    refine dX mix 7 [0, 1, 5, 6, 7, 19, 20] [(45, .d (.lit d_0_players_v)), (46, .d (.lit (.int .i64 t20_0_4))), (48, .d (.lit (.int .i64 s_2_12.Player)))] ?_ ?_
    ·refine ⟨[(42, 0, .bp d_0_b d_0_o 0), (43, 1, .bp d_0_b d_0_o 0), (44, 2, .bp d_0_b d_0_o 2), (45, 3, .d (.lit d_0_players_v)), (46, 4, .d (.lit (.int .i64 t20_0_4))), (47, 5, .bp b15 0 3), (48, 6, .d (.lit (.int .i64 s_2_12.Player)))], ?_, ?_⟩
     · exact ⟨by kernel_rfl, by kernel_rfl, by kernel_rfl, by kernel_rfl, by kernel_rfl, [([], []), ([0], []), ([1], []), ([2], []), ([], []), ([], []), ([5], [])], by kernel_rfl, ⟨fun S hS => aK rfl (aT rfl (aD (v := .bp d_0_b d_0_o 0) (aA rfl) (aJ hS rfl) rfl)),
      fun S hS => aK rfl (aT rfl (kA (aA rfl) (aJ hS rfl))),
      fun S hS => aK rfl (aT rfl (aV (aA rfl) (aJ hS rfl) kO)),
      fun S hS => aK rfl (aT rfl (aZ (aA rfl) (aJ hS rfl) (i := 1) rfl rfl dH)),
      fun S hS => aK rfl (aT rfl (aD (v := .d (.lit (.int .i64 t20_0_4))) (aA rfl) (aJ hS rfl) rfl)),
      fun S hS => aK rfl (aT rfl (aV (aA rfl) (aJ hS rfl) mB)),
      fun S hS => aK rfl (aT rfl (aZ (aA rfl) (aJ hS rfl) (i := 3) rfl rfl bK)), trivial⟩⟩
     · exact dI (aS rfl (aS rfl (aS rfl (bD ⟨rfl, rfl, rfl, rfl, rfl, rfl, rfl, trivial⟩))))
    ·obtain ⟨x22, h23, h⟩ := dA h
     refine tr1 rfl (iX (m := 0) (aA rfl) rfl rfl rfl cB.of (cE aP h23)) ?_
     refine tr1 rfl (aBg (l := 0) rfl rfl (sG aP h23) rfl rfl rfl Try.sizeOf3 rfl (aA rfl) (Nat.le_of_ble_eq_true rfl) (rows' := ((d_2_12.set t20_0_4.toNat s_2_12.Player)).map aP) (aLt _ _ _ _ rfl)) ?_
     refine aF ?_
     refine aG ?_
     refine aC ?_
     refine tr1 rfl (aD (v := .d (.lit w16)) (aA rfl) rfl rfl) ?_
     refine tr1 rfl (aV (aA rfl) rfl mB) ?_
     refine tr1 rfl (aZ (aA rfl) rfl (i := 3) rfl rfl bK) ?_
     refine tr1 rfl (eW (aA rfl) cB rfl rfl (rows := ([s_2_12.Player]).map aP) rfl (cV (f := aP) fun _ => rfl) rfl (by decide)) ?_
     obtain ⟨x24, h25, h⟩ := dA h
     refine bU rfl (eI (i := 4) (aA rfl) cB rfl rfl rfl (fun _ => rfl) h25 rfl) ?_
     rintro _ ⟨v26, rfl⟩
     refine tr1 rfl (aI (v := .d (.lit v26)) (aA rfl) rfl rfl) ?_
     refine aF ?_
     refine aC ?_
     refine tr1 rfl (aD (v := .d (.lit (.map (some lucky_1_r)))) (aA rfl) rfl rfl) ?_
     refine tr1 rfl (bL (aA rfl) rfl (i := 3) rfl jM (es := (aL s_2_12)) rfl rfl) ?_
     refine tr1 rfl (aKl (av := (fun v : Int => AV.d (.lit (.int .i64 v)))) (l := lucky_2_12) (a := s_2_12) (m := 2) aDx Try.underlying123 rfl rfl rfl rfl (jI (enc := aL) s_2_12 rfl)) ?_
     refine fF ?_
     refine aG ?_
     refine aG ?_
     refine aC ?_
     refine tr1 rfl (bL (aA rfl) rfl (i := 3) rfl jM (es := (aL s_2_12)) rfl rfl) ?_
     refine aF ?_
     refine aC ?_
     refine bU rfl (dQ (zs := [.lit (.int .i64 0), .lit (.int .i64 0), .lit (.int .i64 0), .lit (.int .i64 0), .lit (.int .i64 0)]) (aA rfl) Try.zeroValue32 rfl rfl) ?_
     rintro _ ⟨b27, rfl⟩
     refine tr1 rfl (cG (i := 5) rfl rfl rfl rfl rfl Try.sizeOf32 rfl (aA rfl) (Nat.le_of_ble_eq_true rfl) (ds' := (aL s_2_12)) rfl) ?_
     refine aF ?_
     refine aC ?_
     refine tr1 rfl (aD (v := .bp d_0_b d_0_o 0) (aA rfl) rfl rfl) ?_
     refine tr1 rfl (aD (v := .d (.lit (.map (some lucky_1_r)))) (aA rfl) rfl rfl) ?_
     refine tr1 rfl (aD (v := .d (.lit (.int .i64 t20_0_4))) (aA rfl) rfl rfl) ?_
     refine jG (bF [1, 0, 2, 3, 4, 5] rfl rfl (le_refl _)) ?_
     refine bU rfl (tD (passed := [.box d_0_b d_0_o [.lit (.int .i64 d_0_Tree.Rounds), .sl 1 (d_0_Tree.Slots.map aP), .lit d_0_players_v, .lit (.map (some d_0_won_r))], .arr d_0_players_v 3 1 ((d_2_12.set t20_0_4.toNat s_2_12.Player).map aP), .map lucky_1_r ((mD s_2_12 lucky_2_12).map fun p : aE × Int => ((fun a : aE => Value.agg ((aL a).map bG).toArray) p.1, (fun v : Int => AV.d (.lit (.int .i64 v))) p.2)) (uM s_2_12 lucky_2_12 bs13) ck14]) (aA rfl) rfl (.func _ _ Try.call98) rfl rfl (qQ d_0_Tree (d_2_12.set t20_0_4.toNat s_2_12.Player) (mD s_2_12 lucky_2_12) t20_0_4 h)) ?_
     rintro _ ⟨_, _, ⟨r28, h, rfl, rfl⟩, rfl⟩
     refine tr1 rfl (aD (v := .tup [.agg (aL r28.1), .d (.lit (.bool r28.2))]) (aA rfl) rfl rfl) ?_
     refine tr1 rfl (bJ (aA rfl) rfl rfl) ?_
     refine tr1 rfl (bJ (aA rfl) rfl rfl) ?_
     refine tr1 rfl (cG (i := 5) rfl rfl rfl rfl rfl Try.sizeOf32 rfl (aA rfl) (Nat.le_of_ble_eq_true rfl) (ds' := (aL r28.1)) rfl) ?_
     refine tr1 rfl (aI (v := .d (.lit (.bool r28.2))) (aA rfl) rfl rfl) ?_
     refine aF ?_
     exact ⟨(r28.2, (d_2_12.set t20_0_4.toNat s_2_12.Player), (mD s_2_12 lucky_2_12), r28.1, x24, (uM s_2_12 lucky_2_12 bs13), ck14, b27, v26), h, bF [1, 0, 2, 5, 4] rfl rfl (aS rfl (aS rfl (aS rfl (bD ⟨rfl, rfl, rfl, rfl, rfl, trivial⟩))))⟩
  ·have h := eB c18 h
   refine dF ?_
   refine .inl ⟨rfl, ?_⟩
   simp only [jL] at h
   simp only [jK] at h
   refine aC ?_
   refine tr1 rfl (bM (aA rfl) rfl rfl rfl) ?_
   refine tr1 rfl (aD (v := .d (.lit (.int .i64 ((w64 (t20_0_4 + 1)))))) (aA rfl) rfl rfl) ?_
   refine aF ?_
   exact ⟨(w64 (t20_0_4 + 1), d_2_12, lucky_2_12, o14_2_12, bs13, ck14, w16), h, bF [0, 1, 2, 4] rfl rfl (aS rfl (aS rfl (bD ⟨rfl, rfl, rfl, trivial⟩)))⟩
 ·have h := eB c9 h
  refine dF ?_
  refine .inl ⟨rfl, ?_⟩
  simp only [jJ] at h
  refine aG ?_
  refine aC ?_
  refine tr1 rfl (aD (v := .d (.lit (.map (some lucky_1_r)))) (aA rfl) rfl rfl) ?_
  refine tr1 rfl (aKn (m := 2) (aA rfl) Try.underlying123 rfl rfl) ?_
  refine tr1 rfl (bH (aA rfl) rfl rfl rfl) ?_
  refine tr1 rfl (aI (v := .d (.lit (.bool ((decide ((lucky_0_4.length : Int) = 0)))))) (aA rfl) rfl rfl) ?_
  refine aF ?_
  refine cP (bF [1, 0, 2, 3] rfl rfl (le_refl _)) ?_
  exact bN ⟨rfl, _, [.box d_0_b d_0_o [.lit (.int .i64 d_0_Tree.Rounds), .sl 1 (d_0_Tree.Slots.map aP), .lit d_0_players_v, .lit (.map (some d_0_won_r))], .arr d_0_players_v 3 1 (d_0_4.map aP), .map lucky_1_r (lucky_0_4.map fun p : aE × Int => ((fun a : aE => Value.agg ((aL a).map bG).toArray) p.1, (fun v : Int => AV.d (.lit (.int .i64 v))) p.2)) bs5 ck6], [.arr w7 3 1 (o14_0_4.map aP)], _, .one (.tmp 4 (v := .d (.lit (.bool ((decide ((lucky_0_4.length : Int) = 0)))))) rfl), .refl _, .same _, (decide ((lucky_0_4.length : Int) = 0), d_0_4, lucky_0_4), bs5, ck6, h, rfl, rfl⟩

theorem lD (round_0 : Int) (slot_1 : Int) {r : aB} (h : jX round_0 slot_1 = some r) : Fn Try.prog 45 [.d (.lit (.int .i64 round_0)), .d (.lit (.int .i64 slot_1))] (.agg (aH r)) := by
 unfold jX at h
 refine sL Try.func45 rfl (rs := [.cell 4 70]) Try.results45 Try.ntmps45 (Nat.le_of_ble_eq_true rfl) ?_
 refine aG ?_
 refine aC ?_
 refine bU rfl (dQ (zs := [.lit (.int .i64 0), .lit (.int .i64 0)]) (aA rfl) Try.zeroValue70 rfl rfl) ?_
 rintro _ ⟨b1, rfl⟩
 refine aF ?_
 refine aG ?_
 refine aC ?_
 refine tr1 rfl (aD (v := .d (.lit (.int .i64 round_0))) (aA rfl) rfl rfl) ?_
 refine tr1 rfl (aD (v := .d (.lit (.int .i64 slot_1))) (aA rfl) rfl rfl) ?_
 refine tr1 rfl (aD (v := .d (.lit (.int .i64 round_0))) (aA rfl) rfl rfl) ?_
 refine tr1 rfl (bM (aA rfl) rfl rfl rfl) ?_
 obtain ⟨u2, h3, h⟩ := bind_some h
 refine tr1 rfl (aBf (aA rfl) rfl rfl (tZ h3)) ?_
 refine tr1 rfl (eX (aA rfl) vC (zs := [.lit (.int .i64 0), .lit (.int .i64 0)]) rfl rfl rfl rfl (es := [.lit (.int .i64 round_0), .lit (.int .i64 ((slot_1.fdiv (2 ^ (min (w64 (round_0 + 1)).toNat 64)))))]) rfl) ?_
 refine tr1 rfl (cG (i := 0) rfl rfl rfl rfl rfl Try.sizeOf70 rfl (aA rfl) (Nat.le_of_ble_eq_true rfl) (ds' := (aH (aB.mk round_0 (slot_1.fdiv (2 ^ (min (w64 (round_0 + 1)).toNat 64)))))) rfl) ?_
 refine aF ?_
 have h := Option.some.inj h
 subst h
 exact bN ⟨rfl, _, [.box b1 0 (aH (aB.mk round_0 (slot_1.fdiv (2 ^ (min (w64 (round_0 + 1)).toNat 64)))))], .one (.cell 4 70 rfl (i := 0) rfl iL (es := (aH (aB.mk round_0 (slot_1.fdiv (2 ^ (min (w64 (round_0 + 1)).toNat 64)))))) rfl rfl), .refl _, .same _⟩

theorem qS (d_0_Tree : aO) (d_0_players : List Int) (d_0_won : List (aB × Int)) (slot_1 : Int) (round_2 : Int) {r : Bool × (List (aB × Int))} {d_0_b d_0_o : Nat} {d_0_players_v : Value} {d_0_won_r : Nat} {d_0_won_bs : List Nat} {d_0_won_ck : Nat} (h : jE d_0_Tree d_0_players d_0_won slot_1 round_2 = some r) : eS Try.prog 91 [.bp d_0_b d_0_o 0, .d (.lit (.int .i64 slot_1)), .d (.lit (.int .i64 round_2))] [.box d_0_b d_0_o [.lit (.int .i64 d_0_Tree.Rounds), .sl 1 (d_0_Tree.Slots.map aP), .lit d_0_players_v, .lit (.map (some d_0_won_r))], .arr d_0_players_v 3 1 (d_0_players.map aP), .map d_0_won_r (d_0_won.map fun p : aB × Int => ((fun a : aB => Value.agg ((aH a).map bG).toArray) p.1, (fun v : Int => AV.d (.lit (.int .i64 v))) p.2)) d_0_won_bs d_0_won_ck] (fun r' o' => ∃ (bs2 : List Nat) (ck2 : Nat), r' = .d (.lit (.bool r.1)) ∧ o' = [.box d_0_b d_0_o [.lit (.int .i64 d_0_Tree.Rounds), .sl 1 (d_0_Tree.Slots.map aP), .lit d_0_players_v, .lit (.map (some d_0_won_r))], .arr d_0_players_v 3 1 (d_0_players.map aP), .map d_0_won_r (r.2.map fun p : aB × Int => ((fun a : aB => Value.agg ((aH a).map bG).toArray) p.1, (fun v : Int => AV.d (.lit (.int .i64 v))) p.2)) bs2 ck2]) := by
 unfold jE at h
 refine fV Try.func91 rfl (rs := [.tmp 6]) Try.results91 Try.ntmps91 (Nat.le_of_ble_eq_true rfl) ?_
 refine aG ?_
 refine aC ?_
 refine tr1 rfl (aI (v := .d (.lit (.bool false))) (aA rfl) rfl rfl) ?_
 refine aF ?_
 refine aG ?_
 refine aG ?_
 refine aC ?_
 refine tr1 rfl (aD (v := .d (.lit (.int .i64 round_2))) (aA rfl) rfl rfl) ?_
 refine tr1 rfl (bM (aA rfl) rfl rfl rfl) ?_
 refine tr1 rfl (aD (v := .d (.lit (.int .i64 0))) (aA rfl) rfl rfl) ?_
 refine aF ?_
 refine cH ?_
 refine dR [0, 1, 12] (fun (s1 : Int × (List (aB × Int)) × (List Nat) × Nat) => [(13, .d (.lit (.int .i64 s1.1)))]) (fun (s1 : Int × (List (aB × Int)) × (List Nat) × Nat) => [.arr d_0_players_v 3 1 (d_0_players.map aP), .map d_0_won_r (s1.2.1.map fun p : aB × Int => ((fun a : aB => Value.agg ((aH a).map bG).toArray) p.1, (fun v : Int => AV.d (.lit (.int .i64 v))) p.2)) s1.2.2.1 s1.2.2.2, .box d_0_b d_0_o [.lit (.int .i64 d_0_Tree.Rounds), .sl 1 (d_0_Tree.Slots.map aP), .lit d_0_players_v, .lit (.map (some d_0_won_r))]]) (fun (k : Nat) (s1 : Int × (List (aB × Int)) × (List Nat) × Nat) => gA slot_1 (w64 (round_2 + 1)) d_0_players d_0_Tree k s1.1 s1.2.1) (fun _ => rfl) (0, d_0_won, d_0_won_bs, d_0_won_ck) h (bF [1, 2, 0] rfl rfl (aS rfl (bD ⟨rfl, rfl, rfl, trivial⟩))) ?_
 rintro k4 ⟨t13_0_1, d_0_1_2, bs2, ck3⟩ h
 simp only [gA] at h
 refine aG ?_
 refine aC ?_
 refine tr1 rfl (bH (aA rfl) rfl rfl rfl) ?_
 refine aF ?_
 refine aG ?_
 refine bQ rfl (fun c5 => ?_) (fun c5 => ?_)
 ·have h := aY c5 h
  refine bO ?_
  refine aG ?_
  refine cH ?_
  refine aG ?_
  refine aC ?_
  refine tr1 rfl (aD (v := .d (.lit (.int .i64 t13_0_1))) (aA rfl) rfl rfl) ?_
  refine tr1 rfl (aI (v := .d (.lit (.int .i64 t13_0_1))) (aA rfl) rfl rfl) ?_
  refine aF ?_
  refine aG ?_
  refine aC ?_
  refine tr1 rfl (aD (v := .d (.lit (.int .i64 t13_0_1))) (aA rfl) rfl rfl) ?_
  refine tr1 rfl (aD (v := .d (.lit (.int .i64 slot_1))) (aA rfl) rfl rfl) ?_
  obtain ⟨r6, h7, h⟩ := bind_some h
  refine tr1 rfl (iF (aA rfl) (.func _ _ Try.call45) rfl rfl (lD _ _ h7)) ?_
  refine bU rfl (dQ (zs := [.lit (.int .i64 0), .lit (.int .i64 0)]) (aA rfl) Try.zeroValue70 rfl rfl) ?_
  rintro _ ⟨b8, rfl⟩
  refine tr1 rfl (cG (i := 3) rfl rfl rfl rfl rfl Try.sizeOf70 rfl (aA rfl) (Nat.le_of_ble_eq_true rfl) (ds' := (aH r6)) rfl) ?_
  refine aF ?_
  refine aG ?_
  refine aG ?_
  refine dX mix 10 [0, 1, 8, 12, 13] [(9, .d (.lit (.int .i64 ((cF r6 0 d_0_1_2))))), (27, .d (.lit (.bool ((cL r6 d_0_1_2)))))] ?_ ?_
  ·refine ⟨[(20, 0, .bp d_0_b d_0_o 0), (21, 1, .bp d_0_b d_0_o 0), (22, 2, .bp d_0_b d_0_o 3), (23, 3, .d (.lit (.map (some d_0_won_r)))), (24, 4, .agg (aH r6)), (25, 5, .tup [.d (.lit (.int .i64 ((cF r6 0 d_0_1_2)))), .d (.lit (.bool ((cL r6 d_0_1_2))))]), (19, 6, .tup [.d (.lit (.int .i64 ((cF r6 0 d_0_1_2)))), .d (.lit (.bool ((cL r6 d_0_1_2))))]), (26, 7, .d (.lit (.int .i64 ((cF r6 0 d_0_1_2))))), (27, 8, .d (.lit (.bool ((cL r6 d_0_1_2))))), (9, 9, .d (.lit (.int .i64 ((cF r6 0 d_0_1_2)))))], ?_, ?_⟩
   · exact ⟨by kernel_rfl, by kernel_rfl, by kernel_rfl, by kernel_rfl, by kernel_rfl, [([], []), ([0], []), ([1], []), ([2], []), ([], []), ([3, 4], []), ([5], []), ([6], []), ([6], []), ([7], [])], by kernel_rfl, ⟨fun S hS => aK rfl (aT rfl (aD (v := .bp d_0_b d_0_o 0) (aA rfl) (aJ hS rfl) rfl)),
      fun S hS => aK rfl (aT rfl (kA (aA rfl) (aJ hS rfl))),
      fun S hS => aK rfl (aT rfl (aV (aA rfl) (aJ hS rfl) oN)),
      fun S hS => aK rfl (aT rfl (aZ (aA rfl) (aJ hS rfl) (i := 2) rfl rfl sC)),
      fun S hS => aK rfl (aT rfl (bL (aA rfl) (aJ hS rfl) (i := 3) rfl iL (es := (aH r6)) rfl rfl)),
      fun S hS => aK rfl (aT rfl (aBe (av := (fun v : Int => AV.d (.lit (.int .i64 v)))) (l := d_0_1_2) (z := 0) (a := r6) (m := 1) (aA rfl) qH Try.underlying73 Try.zeroValue3 (fun _ _ => .d (.lit _ rfl)) (aJ hS rfl) rfl rfl (aJ hS rfl) (jI (enc := aH) r6 rfl))),
      fun S hS => aK rfl (aT rfl (aD (v := .tup [.d (.lit (.int .i64 ((cF r6 0 d_0_1_2)))), .d (.lit (.bool ((cL r6 d_0_1_2))))]) (aA rfl) (aJ hS rfl) rfl)),
      fun S hS => aK rfl (aT rfl (bJ (aA rfl) (aJ hS rfl) rfl)),
      fun S hS => aK rfl (aT rfl (bJ (aA rfl) (aJ hS rfl) rfl)),
      fun S hS => aK rfl (aT rfl (aI (v := .d (.lit (.int .i64 ((cF r6 0 d_0_1_2))))) (aA rfl) (aJ hS rfl) rfl)), trivial⟩⟩
   · exact dI (aS rfl (aS rfl (bD ⟨rfl, rfl, rfl, rfl, rfl, trivial⟩)))
  ·refine tr1 rfl (aI (v := .d (.lit (.bool ((cL r6 d_0_1_2))))) (aA rfl) rfl rfl) ?_
   refine aF ?_
   refine aG ?_
   refine aC ?_
   refine tr1 rfl (aD (v := .d (.lit (.bool ((cL r6 d_0_1_2))))) (aA rfl) rfl rfl) ?_
   refine tr1 rfl (aD (v := .d (.lit (.bool ((cL r6 d_0_1_2))))) (aA rfl) rfl rfl) ?_
   obtain ⟨b9, h10, h⟩ := bind_some h
   refine cC 10 [0, 1, 8, 12, 13] 39 b9 ?_ ?_
   ·refine bI (cL r6 d_0_1_2) (fun c14 => ?_) (fun c14 => ?_)
    ·have h10 := aY c14 h10
     refine aM rfl rfl (aA rfl) rfl c14 (aD (v := .d (.lit (.int .i64 ((cF r6 0 d_0_1_2))))) (aA rfl) rfl rfl) ?_
     refine aM rfl rfl (aA rfl) rfl c14 (aD (v := .bp d_0_b d_0_o 0) (aA rfl) rfl rfl) ?_
     refine aM rfl rfl (aA rfl) rfl c14 (kA (aA rfl) rfl) ?_
     refine aM rfl rfl (aA rfl) rfl c14 (aV (aA rfl) rfl kO) ?_
     refine aM rfl rfl (aA rfl) rfl c14 (aZ (aA rfl) rfl (i := 2) rfl rfl dH) ?_
     refine aM rfl rfl (aA rfl) rfl c14 (aD (v := .d (.lit (.int .i64 slot_1))) (aA rfl) rfl rfl) ?_
     obtain ⟨x15, h16, h10⟩ := bind_some h10
     refine aM rfl rfl (aA rfl) rfl c14 (iX (m := 0) (aA rfl) rfl rfl rfl cB.of (cE aP h16)) ?_
     refine aM rfl rfl (aA rfl) rfl c14 (mV (aA rfl) rfl (m := 0) rfl (sG aP h16) rfl bK) ?_
     refine aM rfl rfl (aA rfl) rfl c14 (bH (aA rfl) rfl rfl rfl) ?_
     refine tr1 rfl (bS (v := .d (.lit (.bool ((!decide ((cF r6 0 d_0_1_2) = x15)))))) (aA rfl) rfl c14 rfl rfl) ?_
     have h10 := Option.some.inj h10
     subst h10
     refine aF (bC rfl ⟨rfl, rfl, rfl, rfl, rfl, trivial⟩ rfl)
    ·have h10 := aX c14 h10
     refine aN rfl rfl (aA rfl) rfl (aA rfl) rfl c14 ?_
     refine aN rfl rfl (aA rfl) rfl (aA rfl) rfl c14 ?_
     refine aN rfl rfl (aA rfl) rfl (aA rfl) rfl c14 ?_
     refine aN rfl rfl (aA rfl) rfl (aA rfl) rfl c14 ?_
     refine aN rfl rfl (aA rfl) rfl (aA rfl) rfl c14 ?_
     refine aN rfl rfl (aA rfl) rfl (aA rfl) rfl c14 ?_
     refine aN rfl rfl (aA rfl) rfl (aA rfl) rfl c14 ?_
     refine aN rfl rfl (aA rfl) rfl (aA rfl) rfl c14 ?_
     refine aN rfl rfl (aA rfl) rfl (aA rfl) rfl c14 ?_
     refine tr1 rfl (bR (v := .d (.lit (.bool false))) (aA rfl) rfl c14 rfl rfl) ?_
     have h10 := Option.some.inj h10
     subst h10
     refine aF (bC rfl ⟨rfl, rfl, rfl, rfl, rfl, trivial⟩ rfl)
   ·refine aF ?_
    refine bQ rfl (fun c11 => ?_) (fun c11 => ?_)
    ·have h := aY c11 h
     refine aG ?_
     refine aC ?_
     refine tr1 rfl (aI (v := .d (.lit (.bool false))) (aA rfl) rfl rfl) ?_
     refine aF ?_
     have h := Option.some.inj h
     subst h
     refine cP (bF [2, 0, 1, 3] rfl rfl (le_refl _)) ?_
     exact bN ⟨rfl, _, [.box d_0_b d_0_o [.lit (.int .i64 d_0_Tree.Rounds), .sl 1 (d_0_Tree.Slots.map aP), .lit d_0_players_v, .lit (.map (some d_0_won_r))], .arr d_0_players_v 3 1 (d_0_players.map aP), .map d_0_won_r (d_0_1_2.map fun p : aB × Int => ((fun a : aB => Value.agg ((aH a).map bG).toArray) p.1, (fun v : Int => AV.d (.lit (.int .i64 v))) p.2)) bs2 ck3], [.box b8 0 (aH r6)], _, .one (.tmp 6 (v := .d (.lit (.bool false))) rfl), .refl _, .same _, bs2, ck3, rfl, rfl⟩
    ·have h := aX c11 h
     refine bO ?_
     obtain ⟨x12, h13, h⟩ := bind_some h
     refine dX mix 12 [0, 1, 12, 13] [(43, .d (.lit (.map (some d_0_won_r)))), (44, .agg (aH r6)), (51, .d (.lit (.int .i64 x12)))] ?_ ?_
     ·refine ⟨[(40, 0, .bp d_0_b d_0_o 0), (41, 1, .bp d_0_b d_0_o 0), (42, 2, .bp d_0_b d_0_o 3), (43, 3, .d (.lit (.map (some d_0_won_r)))), (44, 4, .agg (aH r6)), (45, 5, .bp d_0_b d_0_o 0), (46, 6, .bp d_0_b d_0_o 0), (47, 7, .bp d_0_b d_0_o 2), (48, 8, .d (.lit d_0_players_v)), (49, 9, .d (.lit (.int .i64 slot_1))), (50, 10, .ep d_0_players_v 1 slot_1.toNat 0), (51, 11, .d (.lit (.int .i64 x12)))], ?_, ?_⟩
      · exact ⟨by kernel_rfl, by kernel_rfl, by kernel_rfl, by kernel_rfl, by kernel_rfl, [([], []), ([0], []), ([1], []), ([2], []), ([], []), ([], []), ([5], []), ([6], []), ([7], []), ([], []), ([8, 9], []), ([10], [])], by kernel_rfl, ⟨fun S hS => aK rfl (aT rfl (aD (v := .bp d_0_b d_0_o 0) (aA rfl) (aJ hS rfl) rfl)),
      fun S hS => aK rfl (aT rfl (kA (aA rfl) (aJ hS rfl))),
      fun S hS => aK rfl (aT rfl (aV (aA rfl) (aJ hS rfl) oN)),
      fun S hS => aK rfl (aT rfl (aZ (aA rfl) (aJ hS rfl) (i := 2) rfl rfl sC)),
      fun S hS => aK rfl (aT rfl (bL (aA rfl) (aJ hS rfl) (i := 3) rfl iL (es := (aH r6)) rfl rfl)),
      fun S hS => aK rfl (aT rfl (aD (v := .bp d_0_b d_0_o 0) (aA rfl) (aJ hS rfl) rfl)),
      fun S hS => aK rfl (aT rfl (kA (aA rfl) (aJ hS rfl))),
      fun S hS => aK rfl (aT rfl (aV (aA rfl) (aJ hS rfl) kO)),
      fun S hS => aK rfl (aT rfl (aZ (aA rfl) (aJ hS rfl) (i := 2) rfl rfl dH)),
      fun S hS => aK rfl (aT rfl (aD (v := .d (.lit (.int .i64 slot_1))) (aA rfl) (aJ hS rfl) rfl)),
      fun S hS => aK rfl (aT rfl (iX (m := 0) (aA rfl) (aJ hS rfl) rfl (aJ hS rfl) cB.of (cE aP h13))),
      fun S hS => aK rfl (aT rfl (mV (aA rfl) (aJ hS rfl) (m := 0) rfl (sG aP h13) rfl bK)), trivial⟩⟩
      · exact dI (aS rfl (aS rfl (aS rfl (bD ⟨rfl, rfl, rfl, rfl, trivial⟩))))
     ·refine tr1 rfl (uP (av := (fun v : Int => AV.d (.lit (.int .i64 v)))) (l := d_0_1_2) (v := x12) (a := r6) (m := 1) qH Try.underlying73 rfl rfl rfl rfl (jI (enc := aH) r6 rfl) rfl rfl) ?_
      refine fF ?_
      refine aC ?_
      refine tr1 rfl (bM (aA rfl) rfl rfl rfl) ?_
      refine tr1 rfl (aD (v := .d (.lit (.int .i64 ((w64 (t13_0_1 + 1)))))) (aA rfl) rfl rfl) ?_
      refine aF ?_
      exact ⟨(w64 (t13_0_1 + 1), (eR r6 x12 d_0_1_2), (mbs r6 d_0_1_2 bs2 ck3), (mck r6 d_0_1_2 ck3)), h, bF [0, 1, 2] rfl rfl (aS rfl (bD ⟨rfl, rfl, rfl, trivial⟩))⟩
 ·have h := aX c5 h
  refine dF ?_
  refine .inl ⟨rfl, ?_⟩
  simp only [mZ] at h
  refine aG ?_
  refine aC ?_
  refine tr1 rfl (aI (v := .d (.lit (.bool true))) (aA rfl) rfl rfl) ?_
  refine aF ?_
  have h := Option.some.inj h
  subst h
  refine cP (bF [2, 0, 1] rfl rfl (le_refl _)) ?_
  exact bN ⟨rfl, _, [.box d_0_b d_0_o [.lit (.int .i64 d_0_Tree.Rounds), .sl 1 (d_0_Tree.Slots.map aP), .lit d_0_players_v, .lit (.map (some d_0_won_r))], .arr d_0_players_v 3 1 (d_0_players.map aP), .map d_0_won_r (d_0_1_2.map fun p : aB × Int => ((fun a : aB => Value.agg ((aH a).map bG).toArray) p.1, (fun v : Int => AV.d (.lit (.int .i64 v))) p.2)) bs2 ck3], [], _, .one (.tmp 6 (v := .d (.lit (.bool true))) rfl), .refl _, .same _, bs2, ck3, rfl, rfl⟩

theorem aAg (t_0 : aO) (l_1 : List aE) {Q : ((Option aW) × Bool) → Prop} (h : nL t_0 l_1 Q) : eS Try.prog 71 [.agg (aR t_0), .d (.sl 5 (l_1.map aL))] [] (fun r' o' => ∃ (r : (Option aW) × Bool), Q r ∧ r' = .tup [cN aU r.1, .d (.lit (.bool r.2))] ∧ o' = []) := by
 unfold nL at h
 refine fV Try.func71 rfl (rs := [.tmp 4, .tmp 5]) Try.results71 Try.ntmps71 (Nat.le_of_ble_eq_true rfl) ?_
 refine aG ?_
 refine aC ?_
 refine bU rfl (gD (v := .agg (aR t_0)) (aA rfl) rfl rfl rfl) ?_
 rintro _ ⟨b1, rfl⟩
 refine tr1 rfl (aI (v := cN aU (none : Option aW)) (aA rfl) rfl rfl) ?_
 refine tr1 rfl (aI (v := .d (.lit (.bool false))) (aA rfl) rfl rfl) ?_
 refine aF ?_
 refine aG ?_
 obtain ⟨r3, h4, h⟩ := dA h
 refine sJ mix 5 [1] (fun X2 => [(19, .agg (aR t_0)), (22, .d (.lit (X2 3).v)), (23, .d (.lit (.map (some (X2 4).b))))]) (fun X2 => [.box b1 0 (aR t_0), .arr (X2 3).v 3 1 (r3.map aP), .map (X2 4).b (([] : List (aB × Int)).map fun p : aB × Int => ((fun a : aB => Value.agg ((aH a).map bG).toArray) p.1, (fun v : Int => AV.d (.lit (.int .i64 v))) p.2)) ([]) 0]) ?_ ?_
 ·refine ⟨2, fun X2 => [(19, 0, .agg (aR t_0)), (20, 1, .bp b1 0 1), (21, 2, .d (.sl 1 (t_0.Slots.map aP))), (22, 3, .d (.lit (X2 3).v)), (23, 4, .d (.lit (.map (some (X2 4).b))))], fun X2 => [([], .box b1 0 (aR t_0)), ([(3, .arr (X2 3).v 3 1 (r3.map aP))], nob), ([(4, .map (X2 4).b (([] : List (aB × Int)).map fun p : aB × Int => ((fun a : aB => Value.agg ((aH a).map bG).toArray) p.1, (fun v : Int => AV.d (.lit (.int .i64 v))) p.2)) ([]) 0)], nob)], ?_, ?_⟩
  · exact ⟨by kernel_rfl, by kernel_rfl, by kernel_rfl, fun _ => by kernel_rfl, fun _ => by kernel_rfl, fun _ => by kernel_rfl, fun _ => rfl, [([], []), ([], [3]), ([1], [3]), ([2], []), ([], [])], by kernel_rfl, ⟨fun X2 S hw hi hS => gC (X := X2) rfl (hw X2) rfl (aT rfl (bL (aA rfl) (aJ hS rfl) (i := 0) (og hS rfl rfl) dY (es := (aR t_0)) rfl rfl)),
      fun X2 S hw hi hS => gC (X := X2) rfl (hw X2) rfl (aT rfl (aV (aA rfl) (aJ hS rfl) dV)),
      fun X2 S hw hi hS => gC (X := X2) rfl (hw X2) rfl (aT rfl (aZ (aA rfl) (aJ hS rfl) (i := 0) (og hS rfl rfl) rfl dH)),
      fun X2 S hw hi hS => aBj (X := X2) (p := 1) (v := fun x => .d (.lit x.v)) (mo := fun x => .arr x.v 3 1 (r3.map aP)) hS hi rfl rfl (fun _ => rfl) hw (fun _ => rfl) (fun _ => rfl) (fun _ => rfl) (fun _ => ⟨rfl, rfl, .inr rfl, ⟨rfl, rfl, .inr rfl, ⟨rfl, rfl, .inr rfl, ⟨rfl, rfl, .inl rfl, ⟨rfl, rfl, .inr rfl, trivial⟩⟩⟩⟩⟩) (fun _ => ⟨trivial, rfl, ⟨⟨rfl, .inl rfl, trivial⟩, rfl, ⟨⟨rfl, .inr rfl, trivial⟩, rfl, trivial⟩⟩⟩) (sI (aBc (aA rfl) (.func _ _ Try.call89) (ev2 (aJ hS rfl) evn) rfl (qX _ h4)) (by rintro _ ⟨w, rfl⟩; exact ⟨⟨0, w⟩, bF [0, 3, 2] rfl rfl (le_refl _)⟩)),
      fun X2 S hw hi hS => aBj (X := X2) (p := 2) (v := fun x => .d (.lit (.map (some x.b)))) (mo := fun x => .map x.b (([] : List (aB × Int)).map fun p : aB × Int => ((fun a : aB => Value.agg ((aH a).map bG).toArray) p.1, (fun v : Int => AV.d (.lit (.int .i64 v))) p.2)) ([]) 0) hS hi rfl rfl (fun _ => rfl) hw (fun _ => rfl) (fun _ => rfl) (fun _ => rfl) (fun _ => ⟨rfl, rfl, .inr rfl, ⟨rfl, rfl, .inr rfl, ⟨rfl, rfl, .inr rfl, ⟨rfl, rfl, .inr rfl, ⟨rfl, rfl, .inl rfl, trivial⟩⟩⟩⟩⟩) (fun _ => ⟨trivial, rfl, ⟨⟨rfl, .inr rfl, trivial⟩, rfl, ⟨⟨rfl, .inl rfl, trivial⟩, rfl, trivial⟩⟩⟩) (sI (uH (aA rfl)) (by rintro _ ⟨w, rfl⟩; exact ⟨⟨w, undef⟩, bF [0, 1, 3] rfl rfl (le_refl _)⟩)), trivial⟩⟩
  · exact fun X2 => dI (aS rfl (aS rfl (aS rfl (bD ⟨rfl, trivial⟩))))
 ·intro X2
  refine tr1 rfl (eX (aA rfl) aMo (zs := [.lit (.int .i64 0), .sl 1 ((([] : List Int)).map aP), .sl 1 ((([] : List Int)).map aP), .lit (.map none)]) rfl rfl rfl rfl (es := [.lit (.int .i64 t_0.Rounds), .sl 1 (t_0.Slots.map aP), .lit (X2 3).v, .lit (.map (some (X2 4).b))]) rfl) ?_
  refine bU rfl (gD (v := .agg [.lit (.int .i64 t_0.Rounds), .sl 1 (t_0.Slots.map aP), .lit (X2 3).v, .lit (.map (some (X2 4).b))]) (aA rfl) rfl rfl rfl) ?_
  rintro _ ⟨b5, rfl⟩
  refine tr1 rfl (aI (v := .bp b5 0 0) (aA rfl) rfl rfl) ?_
  refine aF ?_
  refine aG ?_
  refine aC ?_
  refine bU rfl (uH (aA rfl)) ?_
  rintro _ ⟨r6, rfl⟩
  refine bU rfl (uH (aA rfl)) ?_
  rintro _ ⟨r7, rfl⟩
  refine tr1 rfl (aI (v := .d (.lit (.map (some r6)))) (aA rfl) rfl rfl) ?_
  refine tr1 rfl (aI (v := .d (.lit (.map (some r7)))) (aA rfl) rfl rfl) ?_
  refine aF ?_
  refine aG ?_
  refine aG ?_
  refine aC ?_
  refine tr1 rfl (aD (v := .d (.sl 5 (l_1.map aL))) (aA rfl) rfl rfl) ?_
  refine tr1 rfl (dL (aA rfl) rfl fM.of) ?_
  refine tr1 rfl (aD (v := .d (.lit (.int .i64 0))) (aA rfl) rfl rfl) ?_
  refine aF ?_
  refine cH ?_
  refine oR [6, 7, 8, 28, 29] (fun (s8 : Int × (List (aE × Int)) × (List (aB × aE)) × (List Nat) × Nat × (List Nat) × Nat) => [(30, .d (.lit (.int .i64 s8.1)))]) (fun (s8 : Int × (List (aE × Int)) × (List (aB × aE)) × (List Nat) × Nat × (List Nat) × Nat) => [.arr (X2 3).v 3 1 (r3.map aP), .map (X2 4).b (([] : List (aB × Int)).map fun p : aB × Int => ((fun a : aB => Value.agg ((aH a).map bG).toArray) p.1, (fun v : Int => AV.d (.lit (.int .i64 v))) p.2)) ([]) 0, .box b5 0 [.lit (.int .i64 t_0.Rounds), .sl 1 (t_0.Slots.map aP), .lit (X2 3).v, .lit (.map (some (X2 4).b))], .map r6 (s8.2.1.map fun p : aE × Int => ((fun a : aE => Value.agg ((aL a).map bG).toArray) p.1, (fun v : Int => AV.d (.lit (.int .i64 v))) p.2)) s8.2.2.2.1 s8.2.2.2.2.1, .map r7 (s8.2.2.1.map fun p : aB × aE => ((fun a : aB => Value.agg ((aH a).map bG).toArray) p.1, (fun v : aE => AV.agg (aL v)) p.2)) s8.2.2.2.2.2.1 s8.2.2.2.2.2.2]) (fun (k : Nat) (s8 : Int × (List (aE × Int)) × (List (aB × aE)) × (List Nat) × Nat × (List Nat) × Nat) => fW Q l_1 (l_1.length : Int) r3 ([] : List (aB × Int)) t_0 k s8.1 s8.2.1 s8.2.2.1) (fun _ h => h) (0, ([] : List (aE × Int)), ([] : List (aB × aE)), [], 0, [], 0) h (bF [1, 2, 3, 4, 5] rfl rfl (aS rfl (bD ⟨rfl, rfl, rfl, rfl, rfl, trivial⟩))) ?_
  rintro k13 ⟨t30_0_8, o26_0_8, o27_0_8, bs9, ck10, bs11, ck12⟩ h
  simp only [fW] at h
  refine aG ?_
  refine aC ?_
  refine tr1 rfl (bH (aA rfl) rfl rfl rfl) ?_
  refine aF ?_
  refine aG ?_
  refine bQ rfl (fun c14 => ?_) (fun c14 => ?_)
  ·have h := eC c14 h
   refine bO ?_
   refine aG ?_
   refine cH ?_
   refine aG ?_
   refine aC ?_
   obtain ⟨x15, h16, h⟩ := dA h
   refine tr1 rfl (bT (aA rfl) rfl rfl fM.of (cE aL h16)) ?_
   refine tr1 rfl (gP (aA rfl) rfl jM (es := (aL x15)) rfl rfl) ?_
   refine bU rfl (dQ (zs := [.lit (.int .i64 0), .lit (.int .i64 0), .lit (.int .i64 0), .lit (.int .i64 0), .lit (.int .i64 0)]) (aA rfl) Try.zeroValue32 rfl rfl) ?_
   rintro _ ⟨b17, rfl⟩
   refine tr1 rfl (cG (i := 5) rfl rfl rfl rfl rfl Try.sizeOf32 rfl (aA rfl) (Nat.le_of_ble_eq_true rfl) (ds' := (aL x15)) rfl) ?_
   refine aF ?_
   refine aG ?_
   refine aG ?_
   refine aC ?_
   refine tr1 rfl (aV (aA rfl) rfl nF) ?_
   refine tr1 rfl (aZ (aA rfl) rfl (i := 5) rfl rfl bK) ?_
   refine tr1 rfl (bH (aA rfl) rfl rfl rfl) ?_
   refine aF ?_
   refine bQ rfl (fun c18 => ?_) (fun c18 => ?_)
   ·have h := eC c18 h
    refine aG ?_
    refine sJ mix 6 [6, 7, 8, 28, 29, 30] (fun X19 => [(37, .d (.lit (.map (some r6)))), (40, .d (.lit (.int .i64 ((w64 ((cF x15 0 o26_0_8) + 1)))))), (42, .d (.lit (.int .i64 (nN x15 o26_0_8 bs9 ck10))))]) (fun X19 => [.arr (X2 3).v 3 1 (r3.map aP), .map (X2 4).b (([] : List (aB × Int)).map fun p : aB × Int => ((fun a : aB => Value.agg ((aH a).map bG).toArray) p.1, (fun v : Int => AV.d (.lit (.int .i64 v))) p.2)) ([]) 0, .box b5 0 [.lit (.int .i64 t_0.Rounds), .sl 1 (t_0.Slots.map aP), .lit (X2 3).v, .lit (.map (some (X2 4).b))], .map r6 ((mE x15 0 o26_0_8).map fun p : aE × Int => ((fun a : aE => Value.agg ((aL a).map bG).toArray) p.1, (fun v : Int => AV.d (.lit (.int .i64 v))) p.2)) (mbs x15 o26_0_8 bs9 ck10) (mck x15 o26_0_8 ck10), .map r7 (o27_0_8.map fun p : aB × aE => ((fun a : aB => Value.agg ((aH a).map bG).toArray) p.1, (fun v : aE => AV.agg (aL v)) p.2)) bs11 ck12, .box b17 0 (aL x15)]) ?_ ?_
    ·refine ⟨0, fun X19 => [(37, 0, .d (.lit (.map (some r6)))), (38, 1, .agg (aL x15)), (39, 2, .d (.lit (.int .i64 ((cF x15 0 o26_0_8))))), (40, 3, .d (.lit (.int .i64 ((w64 ((cF x15 0 o26_0_8) + 1)))))), (41, 4, .tup [.d (.lit (.int .i64 ((cF x15 0 o26_0_8)))), .d (.lit (.int .i64 (nN x15 o26_0_8 bs9 ck10)))]), (42, 5, .d (.lit (.int .i64 (nN x15 o26_0_8 bs9 ck10))))], fun X19 => [([], .arr (X2 3).v 3 1 (r3.map aP)), ([], .map (X2 4).b (([] : List (aB × Int)).map fun p : aB × Int => ((fun a : aB => Value.agg ((aH a).map bG).toArray) p.1, (fun v : Int => AV.d (.lit (.int .i64 v))) p.2)) ([]) 0), ([], .box b5 0 [.lit (.int .i64 t_0.Rounds), .sl 1 (t_0.Slots.map aP), .lit (X2 3).v, .lit (.map (some (X2 4).b))]), ([(4, .map r6 ((mE x15 0 o26_0_8).map fun p : aE × Int => ((fun a : aE => Value.agg ((aL a).map bG).toArray) p.1, (fun v : Int => AV.d (.lit (.int .i64 v))) p.2)) (mbs x15 o26_0_8 bs9 ck10) (mck x15 o26_0_8 ck10))], .map r6 (o26_0_8.map fun p : aE × Int => ((fun a : aE => Value.agg ((aL a).map bG).toArray) p.1, (fun v : Int => AV.d (.lit (.int .i64 v))) p.2)) bs9 ck10), ([], .map r7 (o27_0_8.map fun p : aB × aE => ((fun a : aB => Value.agg ((aH a).map bG).toArray) p.1, (fun v : aE => AV.agg (aL v)) p.2)) bs11 ck12), ([], .box b17 0 (aL x15))], ?_, ?_⟩
     · exact ⟨by kernel_rfl, by kernel_rfl, by kernel_rfl, fun _ => by kernel_rfl, fun _ => by kernel_rfl, fun _ => by kernel_rfl, fun _ => rfl, [([], [4]), ([], [4]), ([0, 1], []), ([2], []), ([0, 1], []), ([4], [])], by kernel_rfl, ⟨fun X19 S hw hi hS => gC (X := X19) rfl (hw X19) rfl (aT rfl (aD (v := .d (.lit (.map (some r6)))) (aA rfl) (aJ hS rfl) rfl)),
      fun X19 S hw hi hS => gC (X := X19) rfl (hw X19) rfl (aT rfl (bL (aA rfl) (aJ hS rfl) (i := 5) (og hS rfl rfl) jM (es := (aL x15)) rfl rfl)),
      fun X19 S hw hi hS => gC (X := X19) rfl (hw X19) rfl (aT rfl (aIy (av := (fun v : Int => AV.d (.lit (.int .i64 v)))) (l := o26_0_8) (z := 0) (a := x15) (m := 3) (aA rfl) aDx Try.underlying123 Try.zeroValue3 (fun _ _ => .d (.lit _ rfl)) (aJ hS rfl) (og2 rfl) rfl (aJ hS rfl) (jI (enc := aL) x15 rfl))),
      fun X19 S hw hi hS => gC (X := X19) rfl (hw X19) rfl (aT rfl (bM (aA rfl) (aJ hS rfl) rfl rfl)),
      fun X19 S hw hi hS => aMr (X := X19) (p := 3) hS rfl rfl rfl (hw X19) rfl rfl rfl (sI (aHf (av := (fun v : Int => AV.d (.lit (.int .i64 v)))) (l := o26_0_8) (z := 0) (a := x15) (m := 3) (aA rfl) aDx Try.underlying123 Try.zeroValue3 (fun _ _ => .d (.lit _ rfl)) (aJ hS rfl) (og hS rfl rfl) rfl (aJ hS rfl) (jI (enc := aL) x15 rfl)) (by rintro _ rfl; exact Ent.refl _)),
      fun X19 S hw hi hS => gC (X := X19) rfl (hw X19) rfl (aT rfl (bJ (aA rfl) (aJ hS rfl) rfl)), trivial⟩⟩
     · exact fun X19 => dI (aS rfl (aS rfl (aS rfl (bD ⟨rfl, rfl, rfl, rfl, rfl, rfl, trivial⟩))))
    ·intro X19
     refine tr1 rfl (aCv (kv := (fun a : aE => Value.agg ((aL a).map bG).toArray)) (av := (fun v : Int => AV.d (.lit (.int .i64 v)))) (l := o26_0_8) (z := 0) (v := w64 ((cF x15 0 o26_0_8) + 1)) (a := x15) (m := 3) rfl rfl rfl rfl rfl) ?_
     refine aF ?_
     refine dF ?_
     refine .inl ⟨rfl, ?_⟩
     refine aC ?_
     refine tr1 rfl (bM (aA rfl) rfl rfl rfl) ?_
     refine tr1 rfl (aD (v := .d (.lit (.int .i64 ((w64 (t30_0_8 + 1)))))) (aA rfl) rfl rfl) ?_
     refine aF ?_
     exact ⟨(w64 (t30_0_8 + 1), (eR x15 (w64 ((cF x15 0 o26_0_8) + 1)) o26_0_8), o27_0_8, (mbs x15 o26_0_8 bs9 ck10), (mck x15 o26_0_8 ck10), bs11, ck12), h, bF [0, 1, 2, 3, 4] rfl rfl (aS rfl (bD ⟨rfl, rfl, rfl, rfl, rfl, trivial⟩))⟩
   ·have h := eB c18 h
    refine bO ?_
    refine aG ?_
    refine aC ?_
    refine tr1 rfl (aV (aA rfl) rfl lF) ?_
    refine tr1 rfl (aZ (aA rfl) rfl (i := 5) rfl rfl bK) ?_
    refine tr1 rfl (aV (aA rfl) rfl iK) ?_
    refine tr1 rfl (aZ (aA rfl) rfl (i := 5) rfl rfl bK) ?_
    refine tr1 rfl (eX (aA rfl) vC (zs := [.lit (.int .i64 0), .lit (.int .i64 0)]) rfl rfl rfl rfl (es := [.lit (.int .i64 x15.Round), .lit (.int .i64 x15.Place)]) rfl) ?_
    refine bU rfl (dQ (zs := [.lit (.int .i64 0), .lit (.int .i64 0)]) (aA rfl) Try.zeroValue70 rfl rfl) ?_
    rintro _ ⟨b20, rfl⟩
    refine tr1 rfl (cG (i := 6) rfl rfl rfl rfl rfl Try.sizeOf70 rfl (aA rfl) (Nat.le_of_ble_eq_true rfl) (ds' := (aH (aB.mk x15.Round x15.Place))) rfl) ?_
    refine aF ?_
    refine aG ?_
    refine aG ?_
    refine aC ?_
    refine tr1 rfl (aD (v := .d (.lit (.map (some r7)))) (aA rfl) rfl rfl) ?_
    refine tr1 rfl (bL (aA rfl) rfl (i := 6) rfl iL (es := (aH (aB.mk x15.Round x15.Place))) rfl rfl) ?_
    refine tr1 rfl (aBe (av := (fun v : aE => AV.agg (aL v))) (l := o27_0_8) (z := (aE.mk 0 0 0 0 0)) (a := (aB.mk x15.Round x15.Place)) (m := 4) (aA rfl) qH Try.underlying124 Try.zeroValue32 (fun _ _ => .agg (xG rfl)) rfl rfl rfl rfl (jI (enc := aH) (aB.mk x15.Round x15.Place) rfl)) ?_
    refine tr1 rfl (aD (v := .tup [.agg (aL (cF (aB.mk x15.Round x15.Place) (aE.mk 0 0 0 0 0) o27_0_8)), .d (.lit (.bool ((cL (aB.mk x15.Round x15.Place) o27_0_8))))]) (aA rfl) rfl rfl) ?_
    refine tr1 rfl (bJ (aA rfl) rfl rfl) ?_
    refine tr1 rfl (bJ (aA rfl) rfl rfl) ?_
    refine bU rfl (dQ (zs := [.lit (.int .i64 0), .lit (.int .i64 0), .lit (.int .i64 0), .lit (.int .i64 0), .lit (.int .i64 0)]) (aA rfl) Try.zeroValue32 rfl rfl) ?_
    rintro _ ⟨b21, rfl⟩
    refine tr1 rfl (cG (i := 7) rfl rfl rfl rfl rfl Try.sizeOf32 rfl (aA rfl) (Nat.le_of_ble_eq_true rfl) (ds' := (aL (cF (aB.mk x15.Round x15.Place) (aE.mk 0 0 0 0 0) o27_0_8))) rfl) ?_
    refine tr1 rfl (aI (v := .d (.lit (.bool ((cL (aB.mk x15.Round x15.Place) o27_0_8))))) (aA rfl) rfl rfl) ?_
    refine aF ?_
    refine aG ?_
    refine aC ?_
    refine tr1 rfl (aD (v := .d (.lit (.bool ((cL (aB.mk x15.Round x15.Place) o27_0_8))))) (aA rfl) rfl rfl) ?_
    refine tr1 rfl (aD (v := .d (.lit (.bool ((cL (aB.mk x15.Round x15.Place) o27_0_8))))) (aA rfl) rfl rfl) ?_
    obtain ⟨b22, h23, h⟩ := dA h
    refine cC 4 [6, 7, 8, 10, 11, 28, 29, 30] 59 b22 ?_ ?_
    ·refine bI (cL (aB.mk x15.Round x15.Place) o27_0_8) (fun c25 => ?_) (fun c25 => ?_)
     ·have h23 := aY c25 h23
      refine aM rfl rfl (aA rfl) rfl c25 (bL (aA rfl) rfl (i := 7) rfl jM (es := (aL (cF (aB.mk x15.Round x15.Place) (aE.mk 0 0 0 0 0) o27_0_8))) rfl rfl) ?_
      refine aM rfl rfl (aA rfl) rfl c25 (bL (aA rfl) rfl (i := 5) rfl jM (es := (aL x15)) rfl rfl) ?_
      refine aM rfl rfl (aA rfl) rfl c25 (aCw (a := (cF (aB.mk x15.Round x15.Place) (aE.mk 0 0 0 0 0) o27_0_8)) (b := x15) (aA rfl) rfl rfl rfl rfl Try.eqGuardType32 aDn) ?_
      refine tr1 rfl (bS (v := .d (.lit (.bool ((!decide ((cF (aB.mk x15.Round x15.Place) (aE.mk 0 0 0 0 0) o27_0_8) = x15)))))) (aA rfl) rfl c25 rfl rfl) ?_
      have h23 := Option.some.inj h23
      subst h23
      refine aF (bC rfl ⟨rfl, rfl, rfl, rfl, rfl, rfl, rfl, rfl, trivial⟩ rfl)
     ·have h23 := aX c25 h23
      refine aN rfl rfl (aA rfl) rfl (aA rfl) rfl c25 ?_
      refine aN rfl rfl (aA rfl) rfl (aA rfl) rfl c25 ?_
      refine aN rfl rfl (aA rfl) rfl (aA rfl) rfl c25 ?_
      refine tr1 rfl (bR (v := .d (.lit (.bool false))) (aA rfl) rfl c25 rfl rfl) ?_
      have h23 := Option.some.inj h23
      subst h23
      refine aF (bC rfl ⟨rfl, rfl, rfl, rfl, rfl, rfl, rfl, rfl, trivial⟩ rfl)
    ·refine aF ?_
     refine bQ rfl (fun c24 => ?_) (fun c24 => ?_)
     ·have h := eC c24 h
      refine aG ?_
      refine aC ?_
      refine tr1 rfl (aI (v := cN aU (none : Option aW)) (aA rfl) rfl rfl) ?_
      refine tr1 rfl (aI (v := .d (.lit (.bool false))) (aA rfl) rfl rfl) ?_
      refine aF ?_
      exact bN ⟨rfl, _, [], [.arr (X2 3).v 3 1 (r3.map aP), .map (X2 4).b (([] : List (aB × Int)).map fun p : aB × Int => ((fun a : aB => Value.agg ((aH a).map bG).toArray) p.1, (fun v : Int => AV.d (.lit (.int .i64 v))) p.2)) ([]) 0, .box b5 0 [.lit (.int .i64 t_0.Rounds), .sl 1 (t_0.Slots.map aP), .lit (X2 3).v, .lit (.map (some (X2 4).b))], .map r6 (o26_0_8.map fun p : aE × Int => ((fun a : aE => Value.agg ((aL a).map bG).toArray) p.1, (fun v : Int => AV.d (.lit (.int .i64 v))) p.2)) bs9 ck10, .map r7 (o27_0_8.map fun p : aB × aE => ((fun a : aB => Value.agg ((aH a).map bG).toArray) p.1, (fun v : aE => AV.agg (aL v)) p.2)) bs11 ck12, .box b17 0 (aL x15), .box b20 0 (aH (aB.mk x15.Round x15.Place)), .box b21 0 (aL (cF (aB.mk x15.Round x15.Place) (aE.mk 0 0 0 0 0) o27_0_8))], _, .two (.tmp 4 (v := cN aU (none : Option aW)) rfl) (.tmp 5 (v := .d (.lit (.bool false))) rfl), .refl _, .same _, ((none : Option aW), false), h, rfl, rfl⟩
     ·have h := eB c24 h
      refine bO ?_
      refine aC ?_
      refine tr1 rfl (aD (v := .d (.lit (.map (some r7)))) (aA rfl) rfl rfl) ?_
      refine tr1 rfl (bL (aA rfl) rfl (i := 6) rfl iL (es := (aH (aB.mk x15.Round x15.Place))) rfl rfl) ?_
      refine tr1 rfl (bL (aA rfl) rfl (i := 5) rfl jM (es := (aL x15)) rfl rfl) ?_
      refine tr1 rfl (uP (av := (fun v : aE => AV.agg (aL v))) (l := o27_0_8) (v := x15) (a := (aB.mk x15.Round x15.Place)) (m := 4) qH Try.underlying124 rfl rfl rfl rfl (jI (enc := aH) (aB.mk x15.Round x15.Place) rfl) rfl rfl) ?_
      refine fF ?_
      refine aC ?_
      refine tr1 rfl (bM (aA rfl) rfl rfl rfl) ?_
      refine tr1 rfl (aD (v := .d (.lit (.int .i64 ((w64 (t30_0_8 + 1)))))) (aA rfl) rfl rfl) ?_
      refine aF ?_
      exact ⟨(w64 (t30_0_8 + 1), o26_0_8, (eR (aB.mk x15.Round x15.Place) x15 o27_0_8), bs9, ck10, (mbs (aB.mk x15.Round x15.Place) o27_0_8 bs11 ck12), (mck (aB.mk x15.Round x15.Place) o27_0_8 ck12)), h, bF [0, 1, 2, 3, 4] rfl rfl (aS rfl (bD ⟨rfl, rfl, rfl, rfl, rfl, trivial⟩))⟩
  ·have h := eB c14 h
   refine dF ?_
   refine .inl ⟨rfl, ?_⟩
   simp only [mX] at h
   refine aG ?_
   refine aG ?_
   refine aC ?_
   refine tr1 rfl (aD (v := .bp b5 0 0) (aA rfl) rfl rfl) ?_
   refine tr1 rfl (aD (v := .d (.lit (.map (some r6)))) (aA rfl) rfl rfl) ?_
   refine jG (bF [2, 0, 3, 1, 4] rfl rfl (le_refl _)) ?_
   refine bU rfl (tD (passed := [.box b5 0 [.lit (.int .i64 t_0.Rounds), .sl 1 (t_0.Slots.map aP), .lit (X2 3).v, .lit (.map (some (X2 4).b))], .arr (X2 3).v 3 1 (r3.map aP), .map r6 (o26_0_8.map fun p : aE × Int => ((fun a : aE => Value.agg ((aL a).map bG).toArray) p.1, (fun v : Int => AV.d (.lit (.int .i64 v))) p.2)) bs9 ck10]) (aA rfl) rfl (.func _ _ Try.call90) rfl rfl (uJ t_0 r3 o26_0_8 h)) ?_
   rintro _ ⟨_, _, ⟨r26, bs27, ck28, h, rfl, rfl⟩, rfl⟩
   refine tr1 rfl (fQ (aA rfl) rfl) ?_
   refine aF ?_
   refine bQ rfl (fun c29 => ?_) (fun c29 => ?_)
   ·have h := eC c29 h
    refine aG ?_
    refine aC ?_
    refine tr1 rfl (aI (v := cN aU (none : Option aW)) (aA rfl) rfl rfl) ?_
    refine tr1 rfl (aI (v := .d (.lit (.bool false))) (aA rfl) rfl rfl) ?_
    refine aF ?_
    exact bN ⟨rfl, _, [], [.box b5 0 [.lit (.int .i64 t_0.Rounds), .sl 1 (t_0.Slots.map aP), .lit (X2 3).v, .lit (.map (some (X2 4).b))], .arr (X2 3).v 3 1 (r26.2.1.map aP), .map r6 (r26.2.2.map fun p : aE × Int => ((fun a : aE => Value.agg ((aL a).map bG).toArray) p.1, (fun v : Int => AV.d (.lit (.int .i64 v))) p.2)) bs27 ck28, .map (X2 4).b (([] : List (aB × Int)).map fun p : aB × Int => ((fun a : aB => Value.agg ((aH a).map bG).toArray) p.1, (fun v : Int => AV.d (.lit (.int .i64 v))) p.2)) ([]) 0, .map r7 (o27_0_8.map fun p : aB × aE => ((fun a : aB => Value.agg ((aH a).map bG).toArray) p.1, (fun v : aE => AV.agg (aL v)) p.2)) bs11 ck12], _, .two (.tmp 4 (v := cN aU (none : Option aW)) rfl) (.tmp 5 (v := .d (.lit (.bool false))) rfl), .refl _, .same _, ((none : Option aW), false), h, rfl, rfl⟩
   ·have h := eB c29 h
    refine bO ?_
    refine aG ?_
    refine aG ?_
    refine aC ?_
    refine tr1 rfl (aD (v := .bp b5 0 0) (aA rfl) rfl rfl) ?_
    refine tr1 rfl (kA (aA rfl) rfl) ?_
    refine tr1 rfl (aV (aA rfl) rfl kO) ?_
    refine tr1 rfl (aZ (aA rfl) rfl (i := 0) rfl rfl dH) ?_
    refine tr1 rfl (oV (m := 1) (aA rfl) rfl rfl cB.of) ?_
    refine tr1 rfl (aD (v := .d (.lit (.int .i64 0))) (aA rfl) rfl rfl) ?_
    refine aF ?_
    refine cH ?_
    refine oR [6, 8, 71, 72] (fun (s30 : Int × (List (aB × Int)) × (List Nat) × Nat) => [(73, .d (.lit (.int .i64 s30.1)))]) (fun (s30 : Int × (List (aB × Int)) × (List Nat) × Nat) => [.arr (X2 3).v 3 1 (r26.2.1.map aP), .map (X2 4).b (s30.2.1.map fun p : aB × Int => ((fun a : aB => Value.agg ((aH a).map bG).toArray) p.1, (fun v : Int => AV.d (.lit (.int .i64 v))) p.2)) s30.2.2.1 s30.2.2.2, .box b5 0 [.lit (.int .i64 t_0.Rounds), .sl 1 (t_0.Slots.map aP), .lit (X2 3).v, .lit (.map (some (X2 4).b))], .map r7 (o27_0_8.map fun p : aB × aE => ((fun a : aB => Value.agg ((aH a).map bG).toArray) p.1, (fun v : aE => AV.agg (aL v)) p.2)) bs11 ck12]) (fun (k : Nat) (s30 : Int × (List (aB × Int)) × (List Nat) × Nat) => fX Q (r26.2.1.length : Int) r26.2.1 t_0 o27_0_8 k s30.1 s30.2.1) (fun _ h => h) (0, ([] : List (aB × Int)), [], 0) h (bF [1, 3, 0, 4] rfl rfl (aS rfl (bD ⟨rfl, rfl, rfl, rfl, trivial⟩))) ?_
    rintro k33 ⟨t73_2_30, o23_2_30, bs31, ck32⟩ h
    simp only [fX] at h
    refine aG ?_
    refine aC ?_
    refine tr1 rfl (bH (aA rfl) rfl rfl rfl) ?_
    refine aF ?_
    refine aG ?_
    refine bQ rfl (fun c34 => ?_) (fun c34 => ?_)
    ·have h := eC c34 h
     refine bO ?_
     refine aG ?_
     refine cH ?_
     refine aG ?_
     refine aC ?_
     refine tr1 rfl (aD (v := .d (.lit (.int .i64 t73_2_30))) (aA rfl) rfl rfl) ?_
     obtain ⟨x35, h36, h⟩ := dA h
     refine tr1 rfl (iX (m := 0) (aA rfl) rfl rfl rfl cB.of (cE aP h36)) ?_
     refine tr1 rfl (mV (aA rfl) rfl (m := 0) rfl (sG aP h36) rfl bK) ?_
     refine tr1 rfl (aI (v := .d (.lit (.int .i64 t73_2_30))) (aA rfl) rfl rfl) ?_
     refine tr1 rfl (aI (v := .d (.lit (.int .i64 x35))) (aA rfl) rfl rfl) ?_
     refine aF ?_
     refine aG ?_
     refine aC ?_
     refine tr1 rfl (aD (v := .d (.lit (.int .i64 x35))) (aA rfl) rfl rfl) ?_
     refine tr1 rfl (bH (aA rfl) rfl rfl rfl) ?_
     refine aF ?_
     refine bQ rfl (fun c37 => ?_) (fun c37 => ?_)
     ·have h := eC c37 h
      refine aC ?_
      refine tr1 rfl (aD (v := .bp b5 0 0) (aA rfl) rfl rfl) ?_
      refine tr1 rfl (aD (v := .d (.lit (.int .i64 t73_2_30))) (aA rfl) rfl rfl) ?_
      refine tr1 rfl (aIu (aA rfl) rfl rfl (.inr (.inr ⟨rfl, rfl⟩))) ?_
      obtain ⟨r38, h39, h⟩ := dA h
      refine jG (bF [2, 0, 1, 3] rfl rfl (le_refl _)) ?_
      refine bU rfl (tD (passed := [.box b5 0 [.lit (.int .i64 t_0.Rounds), .sl 1 (t_0.Slots.map aP), .lit (X2 3).v, .lit (.map (some (X2 4).b))], .arr (X2 3).v 3 1 (r26.2.1.map aP), .map (X2 4).b (o23_2_30.map fun p : aB × Int => ((fun a : aB => Value.agg ((aH a).map bG).toArray) p.1, (fun v : Int => AV.d (.lit (.int .i64 v))) p.2)) bs31 ck32]) (aA rfl) rfl (.func _ _ Try.call91) rfl rfl (qS t_0 r26.2.1 o23_2_30 (aDe t73_2_30 1) 0 h39)) ?_
      rintro _ ⟨_, _, ⟨bs40, ck41, rfl, rfl⟩, rfl⟩
      refine fF ?_
      refine aC ?_
      refine tr1 rfl (bM (aA rfl) rfl rfl rfl) ?_
      refine tr1 rfl (aD (v := .d (.lit (.int .i64 ((w64 (t73_2_30 + 1)))))) (aA rfl) rfl rfl) ?_
      refine aF ?_
      exact ⟨(w64 (t73_2_30 + 1), r38.2, bs40, ck41), h, bF [1, 2, 0, 3] rfl rfl (aS rfl (bD ⟨rfl, rfl, rfl, rfl, trivial⟩))⟩
     ·have h := eB c37 h
      refine eG ?_
      refine aC ?_
      refine tr1 rfl (bM (aA rfl) rfl rfl rfl) ?_
      refine tr1 rfl (aD (v := .d (.lit (.int .i64 ((w64 (t73_2_30 + 1)))))) (aA rfl) rfl rfl) ?_
      refine aF ?_
      exact ⟨(w64 (t73_2_30 + 1), o23_2_30, bs31, ck32), h, bF [0, 1, 2, 3] rfl rfl (aS rfl (bD ⟨rfl, rfl, rfl, rfl, trivial⟩))⟩
    ·have h := eB c34 h
     refine dF ?_
     refine .inl ⟨rfl, ?_⟩
     simp only [mY] at h
     refine aG ?_
     refine aG ?_
     refine aC ?_
     refine tr1 rfl (aD (v := .d (.lit (.map (some r7)))) (aA rfl) rfl rfl) ?_
     refine bU rfl (aFz (m := 3) (aA rfl) Try.underlying124 rfl rfl) ?_
     rintro _ ⟨q42, h44, rfl⟩
     have h := xL h h44
     refine aF ?_
     refine cH ?_
     refine oR [6, 86] (fun (s45 : (List (aB × Int)) × (List Nat) × Nat × (List Nat)) => []) (fun (s45 : (List (aB × Int)) × (List Nat) × Nat × (List Nat)) => [.arr (X2 3).v 3 1 (r26.2.1.map aP), .map (X2 4).b (s45.1.map fun p : aB × Int => ((fun a : aB => Value.agg ((aH a).map bG).toArray) p.1, (fun v : Int => AV.d (.lit (.int .i64 v))) p.2)) s45.2.1 s45.2.2.1, .box b5 0 [.lit (.int .i64 t_0.Rounds), .sl 1 (t_0.Slots.map aP), .lit (X2 3).v, .lit (.map (some (X2 4).b))], .map r7 (o27_0_8.map fun p : aB × aE => ((fun a : aB => Value.agg ((aH a).map bG).toArray) p.1, (fun v : aE => AV.agg (aL v)) p.2)) bs11 ck12, .iter q42 r7 ck12 s45.2.2.2 ck12]) (fun (k : Nat) (s45 : (List (aB × Int)) × (List Nat) × Nat × (List Nat)) => iH Q r26.2.1 t_0 o27_0_8 k s45.1 (kM o27_0_8 bs11 s45.2.2.2)) (fun _ h => h) (o23_2_30, bs31, ck32, []) h (bF [0, 1, 2, 3, 4] rfl rfl (bD ⟨rfl, rfl, trivial⟩)) ?_
     rintro k49 ⟨o23_4_45, bs46, ck47, seen48⟩ h
     simp only [iH] at h
     refine aG ?_
     refine aC ?_
     refine bU rfl (aJa (kv := (fun a : aB => Value.agg ((aH a).map bG).toArray)) (av := (fun v : aE => AV.agg (aL v))) (l := o27_0_8) (mi := 4) (mm := 3) (aA rfl) rfl rfl rfl) ?_
     rintro _ (⟨h54, rfl⟩ | ⟨j51, b52, p50, h53, rfl⟩)
     ·have h := h.1 h54
      refine tr1 rfl (bJ (aA rfl) rfl rfl) ?_
      refine aF ?_
      refine aG ?_
      refine bQ rfl (fun c55 => ?_) (fun c55 => ?_)
      ·exact absurd c55 (by decide)
      ·refine dF ?_
       refine .inl ⟨rfl, ?_⟩
       simp only [pK] at h
       refine aG ?_
       refine aC ?_
       refine tr1 rfl (aD (v := .bp b5 0 0) (aA rfl) rfl rfl) ?_
       refine tr1 rfl (aI (v := .bp b5 0 0) (aA rfl) rfl rfl) ?_
       refine tr1 rfl (aI (v := .d (.lit (.bool true))) (aA rfl) rfl rfl) ?_
       refine aF ?_
       exact bN ⟨rfl, _, [], [.arr (X2 3).v 3 1 (r26.2.1.map aP), .map (X2 4).b (o23_4_45.map fun p : aB × Int => ((fun a : aB => Value.agg ((aH a).map bG).toArray) p.1, (fun v : Int => AV.d (.lit (.int .i64 v))) p.2)) bs46 ck47, .box b5 0 [.lit (.int .i64 t_0.Rounds), .sl 1 (t_0.Slots.map aP), .lit (X2 3).v, .lit (.map (some (X2 4).b))], .map r7 (o27_0_8.map fun p : aB × aE => ((fun a : aB => Value.agg ((aH a).map bG).toArray) p.1, (fun v : aE => AV.agg (aL v)) p.2)) bs11 ck12, .iter q42 r7 ck12 seen48 ck12], _, .two (.tmp 4 (v := .bp b5 0 0) rfl) (.tmp 5 (v := .d (.lit (.bool true))) rfl), .refl _, rU (.cons ((aKw 2 rfl rfl (dvc (.same _) (dvc (.same _) (dvc (kR 0 rfl (cV (f := aP) fun _ => rfl)) (dvc (aMu (kv := (fun a : aB => Value.agg ((aH a).map bG).toArray)) (av := (fun v : Int => AV.d (.lit (.int .i64 v)))) (l := o23_4_45) (enc := aP) (agg := false) 1 rfl (fun _ _ => rfl) (fun _ => rfl)) dvn)))))) (.cons (.same _) .nil)), ((some (aW.mk t_0 r26.2.1 o23_4_45)), true), h, rfl, rfl⟩
     ·have h := yU h h53
      refine tr1 rfl (bJ (aA rfl) rfl rfl) ?_
      refine aF ?_
      refine aG ?_
      refine bQ rfl (fun c72 => ?_) (fun c72 => ?_)
      ·refine bO ?_
       refine cH ?_
       refine aG ?_
       refine aC ?_
       refine tr1 rfl (aFy (kv := (fun a : aB => Value.agg ((aH a).map bG).toArray)) (av := (fun v : aE => AV.agg (aL v))) (l := o27_0_8) (mi := 4) (mm := 3) (ka := .agg (aH p50.1)) (aA rfl) rfl rfl rfl h53 (fun _ _ => .agg (xG rfl))) ?_
       refine tr1 rfl (bJ (aA rfl) rfl rfl) ?_
       refine tr1 rfl (bJ (aA rfl) rfl rfl) ?_
       refine bU rfl (dQ (zs := [.lit (.int .i64 0), .lit (.int .i64 0)]) (aA rfl) Try.zeroValue70 rfl rfl) ?_
       rintro _ ⟨b56, rfl⟩
       refine bU rfl (dQ (zs := [.lit (.int .i64 0), .lit (.int .i64 0), .lit (.int .i64 0), .lit (.int .i64 0), .lit (.int .i64 0)]) (aA rfl) Try.zeroValue32 rfl rfl) ?_
       rintro _ ⟨b57, rfl⟩
       refine tr1 rfl (cG (i := 5) rfl rfl rfl rfl rfl Try.sizeOf70 rfl (aA rfl) (Nat.le_of_ble_eq_true rfl) (ds' := (aH p50.1)) rfl) ?_
       refine tr1 rfl (cG (i := 6) rfl rfl rfl rfl rfl Try.sizeOf32 rfl (aA rfl) (Nat.le_of_ble_eq_true rfl) (ds' := (aL p50.2)) rfl) ?_
       refine aF ?_
       refine aG ?_
       refine dX mix 6 [6, 16, 86] [(95, .d (.lit (X2 3).v)), (97, .d (.lit (.int .i64 p50.2.Player)))] ?_ ?_
       ·refine ⟨[(92, 0, .bp b5 0 0), (93, 1, .bp b5 0 0), (94, 2, .bp b5 0 2), (95, 3, .d (.lit (X2 3).v)), (96, 4, .bp b57 0 3), (97, 5, .d (.lit (.int .i64 p50.2.Player)))], ?_, ?_⟩
        · exact ⟨by kernel_rfl, by kernel_rfl, by kernel_rfl, by kernel_rfl, by kernel_rfl, [([], []), ([0], []), ([1], []), ([2], []), ([], []), ([4], [])], by kernel_rfl, ⟨fun S hS => aK rfl (aT rfl (aD (v := .bp b5 0 0) (aA rfl) (aJ hS rfl) rfl)),
      fun S hS => aK rfl (aT rfl (kA (aA rfl) (aJ hS rfl))),
      fun S hS => aK rfl (aT rfl (aV (aA rfl) (aJ hS rfl) kO)),
      fun S hS => aK rfl (aT rfl (aZ (aA rfl) (aJ hS rfl) (i := 2) rfl rfl dH)),
      fun S hS => aK rfl (aT rfl (aV (aA rfl) (aJ hS rfl) mB)),
      fun S hS => aK rfl (aT rfl (aZ (aA rfl) (aJ hS rfl) (i := 6) rfl rfl bK)), trivial⟩⟩
        · exact dI (aS rfl (aS rfl (bD ⟨rfl, rfl, rfl, trivial⟩)))
       ·obtain ⟨r58, h59, h⟩ := dA h
        refine tr1 rfl (cS (aA rfl) (.func _ _ Try.call73) rfl rfl (.cons (.d (kR 0 rfl (cV (f := aP) fun _ => rfl))) (.cons (.same _) .nil)) (oQ _ _ h59) rfl) ?_
        refine tr1 rfl (aI (v := .d (.lit (.int .i64 r58))) (aA rfl) rfl rfl) ?_
        refine aF ?_
        refine aG ?_
        obtain ⟨b60, h61, h⟩ := dA h
        refine bI (b60) (fun c65 => ?_) (fun c65 => ?_)
        ·have h := eC c65 h
         refine dX mix 15 [6, 86] [(109, .d (.lit (.bool b60)))] ?_ ?_
         ·refine bI (decide (r58 < 0)) (fun c62 => ?_) (fun c62 => ?_)
          ·have h61 := aY c62 h61
           have h61 := Option.some.inj h61
           subst h61
           refine ⟨[(99, 0, .d (.lit (.int .i64 r58))), (100, 1, .d (.lit (.bool ((decide (r58 < 0)))))), (101, 2, .d (.lit (.bool ((decide (r58 < 0)))))), (102, 3, .tup []), (103, 4, .tup []), (104, 5, .tup []), (105, 6, .tup []), (106, 7, .tup []), (107, 8, .tup []), (108, 9, .d (.lit (.bool true))), (109, 10, .d (.lit (.bool (true)))), (110, 11, .tup []), (111, 12, .tup []), (112, 13, .tup []), (113, 14, .tup [])], ?_, ?_⟩
           · exact ⟨by kernel_rfl, by kernel_rfl, by kernel_rfl, by kernel_rfl, by kernel_rfl, [([], []), ([0], []), ([1], []), ([2], []), ([2, 3], []), ([2], []), ([2, 4, 5], []), ([2], []), ([2, 6, 7], []), ([2, 8], []), ([9], []), ([10], []), ([10], []), ([10], []), ([10, 13], [])], by kernel_rfl, ⟨fun S hS => aK rfl (aT rfl (aD (v := .d (.lit (.int .i64 r58))) (aA rfl) (aJ hS rfl) rfl)),
      fun S hS => aK rfl (aT rfl (bH (aA rfl) (aJ hS rfl) rfl rfl)),
      fun S hS => aK rfl (aT rfl (aD (v := .d (.lit (.bool ((decide (r58 < 0)))))) (aA rfl) (aJ hS rfl) rfl)),
      fun S hS => aK rfl (bX rfl rfl (aA rfl) rfl (aA rfl) (bE hS rfl) c62),
      fun S hS => aK rfl (bX rfl rfl (aA rfl) rfl (aA rfl) (bE hS rfl) c62),
      fun S hS => aK rfl (bX rfl rfl (aA rfl) rfl (aA rfl) (bE hS rfl) c62),
      fun S hS => aK rfl (bX rfl rfl (aA rfl) rfl (aA rfl) (bE hS rfl) c62),
      fun S hS => aK rfl (bX rfl rfl (aA rfl) rfl (aA rfl) (bE hS rfl) c62),
      fun S hS => aK rfl (bX rfl rfl (aA rfl) rfl (aA rfl) (bE hS rfl) c62),
      fun S hS => aK rfl (aT rfl (bS (v := .d (.lit (.bool true))) (aA rfl) (aJ hS rfl) c62 rfl rfl)),
      fun S hS => aK rfl (aT rfl (aD (v := .d (.lit (.bool (true)))) (aA rfl) (aJ hS rfl) rfl)),
      fun S hS => aK rfl (bX rfl rfl (aA rfl) rfl (aA rfl) (bE hS rfl) c65),
      fun S hS => aK rfl (bX rfl rfl (aA rfl) rfl (aA rfl) (bE hS rfl) c65),
      fun S hS => aK rfl (bX rfl rfl (aA rfl) rfl (aA rfl) (bE hS rfl) c65),
      fun S hS => aK rfl (bX rfl rfl (aA rfl) rfl (aA rfl) (bE hS rfl) c65), trivial⟩⟩
           · exact dI (aS rfl (bD ⟨rfl, rfl, trivial⟩))
          ·have h61 := aX c62 h61
           obtain ⟨r63, h64, h61⟩ := bind_some h61
           have h61 := Option.some.inj h61
           subst h61
           refine ⟨[(99, 0, .d (.lit (.int .i64 r58))), (100, 1, .d (.lit (.bool ((decide (r58 < 0)))))), (101, 2, .d (.lit (.bool ((decide (r58 < 0)))))), (102, 3, .bp b56 0 0), (103, 4, .d (.lit (.int .i64 p50.1.round))), (104, 5, .d (.lit (.int .i64 r58))), (105, 6, .agg (aH r63)), (106, 7, .agg (aH p50.1)), (107, 8, .d (.lit (.bool ((!decide (r63 = p50.1)))))), (108, 9, .d (.lit (.bool ((!decide (r63 = p50.1)))))), (109, 10, .d (.lit (.bool (!decide (r63 = p50.1))))), (110, 11, .tup []), (111, 12, .tup []), (112, 13, .tup []), (113, 14, .tup [])], ?_, ?_⟩
           · exact ⟨by kernel_rfl, by kernel_rfl, by kernel_rfl, by kernel_rfl, by kernel_rfl, [([], []), ([0], []), ([1], []), ([2], []), ([2, 3], []), ([2], []), ([2, 4, 5], []), ([2], []), ([2, 6, 7], []), ([2, 8], []), ([9], []), ([10], []), ([10], []), ([10], []), ([10, 13], [])], by kernel_rfl, ⟨fun S hS => aK rfl (aT rfl (aD (v := .d (.lit (.int .i64 r58))) (aA rfl) (aJ hS rfl) rfl)),
      fun S hS => aK rfl (aT rfl (bH (aA rfl) (aJ hS rfl) rfl rfl)),
      fun S hS => aK rfl (aT rfl (aD (v := .d (.lit (.bool ((decide (r58 < 0)))))) (aA rfl) (aJ hS rfl) rfl)),
      fun S hS => aK rfl (bY rfl rfl (aA rfl) (bE hS rfl) c62 (aV (aA rfl) (aJ hS rfl) nG)),
      fun S hS => aK rfl (bY rfl rfl (aA rfl) (bE hS rfl) c62 (aZ (aA rfl) (aJ hS rfl) (i := 5) rfl rfl bK)),
      fun S hS => aK rfl (bY rfl rfl (aA rfl) (bE hS rfl) c62 (aD (v := .d (.lit (.int .i64 r58))) (aA rfl) (aJ hS rfl) rfl)),
      fun S hS => aK rfl (bY rfl rfl (aA rfl) (bE hS rfl) c62 (iF (aA rfl) (.func _ _ Try.call45) (ev2 (aJ hS rfl) (ev2 (aJ hS rfl) evn)) rfl (lD _ _ h64))),
      fun S hS => aK rfl (bY rfl rfl (aA rfl) (bE hS rfl) c62 (bL (aA rfl) (aJ hS rfl) (i := 5) rfl iL (es := (aH p50.1)) rfl rfl)),
      fun S hS => aK rfl (bY rfl rfl (aA rfl) (bE hS rfl) c62 (aCw (a := r63) (b := p50.1) (aA rfl) (aJ hS rfl) (aJ hS rfl) rfl rfl Try.eqGuardType70 wZ)),
      fun S hS => aK rfl (aT rfl (bR (v := .d (.lit (.bool ((!decide (r63 = p50.1)))))) (aA rfl) (aJ hS rfl) c62 (aJ hS rfl) rfl)),
      fun S hS => aK rfl (aT rfl (aD (v := .d (.lit (.bool (!decide (r63 = p50.1))))) (aA rfl) (aJ hS rfl) rfl)),
      fun S hS => aK rfl (bX rfl rfl (aA rfl) rfl (aA rfl) (bE hS rfl) c65),
      fun S hS => aK rfl (bX rfl rfl (aA rfl) rfl (aA rfl) (bE hS rfl) c65),
      fun S hS => aK rfl (bX rfl rfl (aA rfl) rfl (aA rfl) (bE hS rfl) c65),
      fun S hS => aK rfl (bX rfl rfl (aA rfl) rfl (aA rfl) (bE hS rfl) c65), trivial⟩⟩
           · exact dI (aS rfl (bD ⟨rfl, rfl, trivial⟩))
         ·refine aN rfl rfl (aA rfl) rfl (aA rfl) rfl c65 ?_
          refine aN rfl rfl (aA rfl) rfl (aA rfl) rfl c65 ?_
          refine tr1 rfl (bS (v := .d (.lit (.bool true))) (aA rfl) rfl c65 rfl rfl) ?_
          refine aF ?_
          refine bQ rfl (fun c71 => ?_) (fun c71 => ?_)
          ·refine aG ?_
           refine aC ?_
           refine tr1 rfl (aI (v := cN aU (none : Option aW)) (aA rfl) rfl rfl) ?_
           refine tr1 rfl (aI (v := .d (.lit (.bool false))) (aA rfl) rfl rfl) ?_
           refine aF ?_
           exact bN ⟨rfl, _, [], [.arr (X2 3).v 3 1 (r26.2.1.map aP), .map (X2 4).b (o23_4_45.map fun p : aB × Int => ((fun a : aB => Value.agg ((aH a).map bG).toArray) p.1, (fun v : Int => AV.d (.lit (.int .i64 v))) p.2)) bs46 ck47, .box b5 0 [.lit (.int .i64 t_0.Rounds), .sl 1 (t_0.Slots.map aP), .lit (X2 3).v, .lit (.map (some (X2 4).b))], .map r7 (o27_0_8.map fun p : aB × aE => ((fun a : aB => Value.agg ((aH a).map bG).toArray) p.1, (fun v : aE => AV.agg (aL v)) p.2)) bs11 ck12, .iter q42 r7 ck12 (seen48 ++ [b52]) ck12, .box b56 0 (aH p50.1), .box b57 0 (aL p50.2)], _, .two (.tmp 4 (v := cN aU (none : Option aW)) rfl) (.tmp 5 (v := .d (.lit (.bool false))) rfl), .refl _, .same _, ((none : Option aW), false), h, rfl, rfl⟩
          ·exact absurd c71 (by decide)
        ·have h := eB c65 h
         refine dX mix 15 [6, 86] [(109, .d (.lit (.bool b60))), (110, .bp b5 0 0), (111, .d (.lit (.int .i64 r58))), (112, .bp b56 0 0), (113, .d (.lit (.int .i64 p50.1.round)))] ?_ ?_
         ·refine bI (decide (r58 < 0)) (fun c62 => ?_) (fun c62 => ?_)
          ·have h61 := aY c62 h61
           have h61 := Option.some.inj h61
           subst h61
           refine ⟨[(99, 0, .d (.lit (.int .i64 r58))), (100, 1, .d (.lit (.bool ((decide (r58 < 0)))))), (101, 2, .d (.lit (.bool ((decide (r58 < 0)))))), (102, 3, .tup []), (103, 4, .tup []), (104, 5, .tup []), (105, 6, .tup []), (106, 7, .tup []), (107, 8, .tup []), (108, 9, .d (.lit (.bool true))), (109, 10, .d (.lit (.bool (true)))), (110, 11, .bp b5 0 0), (111, 12, .d (.lit (.int .i64 r58))), (112, 13, .bp b56 0 0), (113, 14, .d (.lit (.int .i64 p50.1.round)))], ?_, ?_⟩
           · exact ⟨by kernel_rfl, by kernel_rfl, by kernel_rfl, by kernel_rfl, by kernel_rfl, [([], []), ([0], []), ([1], []), ([2], []), ([2, 3], []), ([2], []), ([2, 4, 5], []), ([2], []), ([2, 6, 7], []), ([2, 8], []), ([9], []), ([10], []), ([10], []), ([10], []), ([10, 13], [])], by kernel_rfl, ⟨fun S hS => aK rfl (aT rfl (aD (v := .d (.lit (.int .i64 r58))) (aA rfl) (aJ hS rfl) rfl)),
      fun S hS => aK rfl (aT rfl (bH (aA rfl) (aJ hS rfl) rfl rfl)),
      fun S hS => aK rfl (aT rfl (aD (v := .d (.lit (.bool ((decide (r58 < 0)))))) (aA rfl) (aJ hS rfl) rfl)),
      fun S hS => aK rfl (bX rfl rfl (aA rfl) rfl (aA rfl) (bE hS rfl) c62),
      fun S hS => aK rfl (bX rfl rfl (aA rfl) rfl (aA rfl) (bE hS rfl) c62),
      fun S hS => aK rfl (bX rfl rfl (aA rfl) rfl (aA rfl) (bE hS rfl) c62),
      fun S hS => aK rfl (bX rfl rfl (aA rfl) rfl (aA rfl) (bE hS rfl) c62),
      fun S hS => aK rfl (bX rfl rfl (aA rfl) rfl (aA rfl) (bE hS rfl) c62),
      fun S hS => aK rfl (bX rfl rfl (aA rfl) rfl (aA rfl) (bE hS rfl) c62),
      fun S hS => aK rfl (aT rfl (bS (v := .d (.lit (.bool true))) (aA rfl) (aJ hS rfl) c62 rfl rfl)),
      fun S hS => aK rfl (aT rfl (aD (v := .d (.lit (.bool (true)))) (aA rfl) (aJ hS rfl) rfl)),
      fun S hS => aK rfl (bY rfl rfl (aA rfl) (bE hS rfl) c65 (aD (v := .bp b5 0 0) (aA rfl) (aJ hS rfl) rfl)),
      fun S hS => aK rfl (bY rfl rfl (aA rfl) (bE hS rfl) c65 (aD (v := .d (.lit (.int .i64 r58))) (aA rfl) (aJ hS rfl) rfl)),
      fun S hS => aK rfl (bY rfl rfl (aA rfl) (bE hS rfl) c65 (aV (aA rfl) (aJ hS rfl) nG)),
      fun S hS => aK rfl (bY rfl rfl (aA rfl) (bE hS rfl) c65 (aZ (aA rfl) (aJ hS rfl) (i := 5) rfl rfl bK)), trivial⟩⟩
           · exact dI (aS rfl (aS rfl (aS rfl (aS rfl (aS rfl (bD ⟨rfl, rfl, trivial⟩))))))
          ·have h61 := aX c62 h61
           obtain ⟨r63, h64, h61⟩ := bind_some h61
           have h61 := Option.some.inj h61
           subst h61
           refine ⟨[(99, 0, .d (.lit (.int .i64 r58))), (100, 1, .d (.lit (.bool ((decide (r58 < 0)))))), (101, 2, .d (.lit (.bool ((decide (r58 < 0)))))), (102, 3, .bp b56 0 0), (103, 4, .d (.lit (.int .i64 p50.1.round))), (104, 5, .d (.lit (.int .i64 r58))), (105, 6, .agg (aH r63)), (106, 7, .agg (aH p50.1)), (107, 8, .d (.lit (.bool ((!decide (r63 = p50.1)))))), (108, 9, .d (.lit (.bool ((!decide (r63 = p50.1)))))), (109, 10, .d (.lit (.bool (!decide (r63 = p50.1))))), (110, 11, .bp b5 0 0), (111, 12, .d (.lit (.int .i64 r58))), (112, 13, .bp b56 0 0), (113, 14, .d (.lit (.int .i64 p50.1.round)))], ?_, ?_⟩
           · exact ⟨by kernel_rfl, by kernel_rfl, by kernel_rfl, by kernel_rfl, by kernel_rfl, [([], []), ([0], []), ([1], []), ([2], []), ([2, 3], []), ([2], []), ([2, 4, 5], []), ([2], []), ([2, 6, 7], []), ([2, 8], []), ([9], []), ([10], []), ([10], []), ([10], []), ([10, 13], [])], by kernel_rfl, ⟨fun S hS => aK rfl (aT rfl (aD (v := .d (.lit (.int .i64 r58))) (aA rfl) (aJ hS rfl) rfl)),
      fun S hS => aK rfl (aT rfl (bH (aA rfl) (aJ hS rfl) rfl rfl)),
      fun S hS => aK rfl (aT rfl (aD (v := .d (.lit (.bool ((decide (r58 < 0)))))) (aA rfl) (aJ hS rfl) rfl)),
      fun S hS => aK rfl (bY rfl rfl (aA rfl) (bE hS rfl) c62 (aV (aA rfl) (aJ hS rfl) nG)),
      fun S hS => aK rfl (bY rfl rfl (aA rfl) (bE hS rfl) c62 (aZ (aA rfl) (aJ hS rfl) (i := 5) rfl rfl bK)),
      fun S hS => aK rfl (bY rfl rfl (aA rfl) (bE hS rfl) c62 (aD (v := .d (.lit (.int .i64 r58))) (aA rfl) (aJ hS rfl) rfl)),
      fun S hS => aK rfl (bY rfl rfl (aA rfl) (bE hS rfl) c62 (iF (aA rfl) (.func _ _ Try.call45) (ev2 (aJ hS rfl) (ev2 (aJ hS rfl) evn)) rfl (lD _ _ h64))),
      fun S hS => aK rfl (bY rfl rfl (aA rfl) (bE hS rfl) c62 (bL (aA rfl) (aJ hS rfl) (i := 5) rfl iL (es := (aH p50.1)) rfl rfl)),
      fun S hS => aK rfl (bY rfl rfl (aA rfl) (bE hS rfl) c62 (aCw (a := r63) (b := p50.1) (aA rfl) (aJ hS rfl) (aJ hS rfl) rfl rfl Try.eqGuardType70 wZ)),
      fun S hS => aK rfl (aT rfl (bR (v := .d (.lit (.bool ((!decide (r63 = p50.1)))))) (aA rfl) (aJ hS rfl) c62 (aJ hS rfl) rfl)),
      fun S hS => aK rfl (aT rfl (aD (v := .d (.lit (.bool (!decide (r63 = p50.1))))) (aA rfl) (aJ hS rfl) rfl)),
      fun S hS => aK rfl (bY rfl rfl (aA rfl) (bE hS rfl) c65 (aD (v := .bp b5 0 0) (aA rfl) (aJ hS rfl) rfl)),
      fun S hS => aK rfl (bY rfl rfl (aA rfl) (bE hS rfl) c65 (aD (v := .d (.lit (.int .i64 r58))) (aA rfl) (aJ hS rfl) rfl)),
      fun S hS => aK rfl (bY rfl rfl (aA rfl) (bE hS rfl) c65 (aV (aA rfl) (aJ hS rfl) nG)),
      fun S hS => aK rfl (bY rfl rfl (aA rfl) (bE hS rfl) c65 (aZ (aA rfl) (aJ hS rfl) (i := 5) rfl rfl bK)), trivial⟩⟩
           · exact dI (aS rfl (aS rfl (aS rfl (aS rfl (aS rfl (bD ⟨rfl, rfl, trivial⟩))))))
         ·obtain ⟨r66, h67, h⟩ := dA h
          refine jG (bF [2, 0, 1, 3, 4, 5, 6] rfl rfl (le_refl _)) ?_
          refine aGc rfl rfl (aA rfl) rfl c65 (tD (passed := [.box b5 0 [.lit (.int .i64 t_0.Rounds), .sl 1 (t_0.Slots.map aP), .lit (X2 3).v, .lit (.map (some (X2 4).b))], .arr (X2 3).v 3 1 (r26.2.1.map aP), .map (X2 4).b (o23_4_45.map fun p : aB × Int => ((fun a : aB => Value.agg ((aH a).map bG).toArray) p.1, (fun v : Int => AV.d (.lit (.int .i64 v))) p.2)) bs46 ck47]) (aA rfl) rfl (.func _ _ Try.call91) rfl rfl (qS t_0 r26.2.1 o23_4_45 r58 p50.1.round h67)) ?_
          rintro _ ⟨_, _, ⟨bs68, ck69, rfl, rfl⟩, rfl⟩
          refine aM rfl rfl (aA rfl) rfl c65 (fQ (aA rfl) rfl) ?_
          refine tr1 rfl (bR (v := .d (.lit (.bool (!r66.1)))) (aA rfl) rfl c65 rfl rfl) ?_
          refine aF ?_
          refine bQ rfl (fun c70 => ?_) (fun c70 => ?_)
          ·have h := eC c70 h
           refine aG ?_
           refine aC ?_
           refine tr1 rfl (aI (v := cN aU (none : Option aW)) (aA rfl) rfl rfl) ?_
           refine tr1 rfl (aI (v := .d (.lit (.bool false))) (aA rfl) rfl rfl) ?_
           refine aF ?_
           exact bN ⟨rfl, _, [], [.box b5 0 [.lit (.int .i64 t_0.Rounds), .sl 1 (t_0.Slots.map aP), .lit (X2 3).v, .lit (.map (some (X2 4).b))], .arr (X2 3).v 3 1 (r26.2.1.map aP), .map (X2 4).b (r66.2.map fun p : aB × Int => ((fun a : aB => Value.agg ((aH a).map bG).toArray) p.1, (fun v : Int => AV.d (.lit (.int .i64 v))) p.2)) bs68 ck69, .map r7 (o27_0_8.map fun p : aB × aE => ((fun a : aB => Value.agg ((aH a).map bG).toArray) p.1, (fun v : aE => AV.agg (aL v)) p.2)) bs11 ck12, .iter q42 r7 ck12 (seen48 ++ [b52]) ck12, .box b56 0 (aH p50.1), .box b57 0 (aL p50.2)], _, .two (.tmp 4 (v := cN aU (none : Option aW)) rfl) (.tmp 5 (v := .d (.lit (.bool false))) rfl), .refl _, .same _, ((none : Option aW), false), h, rfl, rfl⟩
          ·have h := eB c70 h
           refine eG ?_
           exact ⟨(r66.2, bs68, ck69, (seen48 ++ [b52])), h, bF [1, 2, 0, 3, 4] rfl rfl (bD ⟨rfl, rfl, trivial⟩)⟩
      ·exact absurd c72 (by decide)

theorem mJ (t_0 : aO) (l_1 : List aE) {Q : ((Option aW) × Int) → Prop} (h : gW t_0 l_1 Q) : eS Try.prog 48 [.agg (aR t_0), .d (.sl 5 (l_1.map aL))] [] (fun r' o' => ∃ (r : (Option aW) × Int), Q r ∧ r' = .tup [cN aU r.1, .d (.lit (.int .i64 r.2))] ∧ o' = []) := by
 unfold gW at h
 refine fV Try.func48 rfl (rs := [.tmp 4, .tmp 5]) Try.results48 Try.ntmps48 (Nat.le_of_ble_eq_true rfl) ?_
 refine aG ?_
 refine aC ?_
 refine bU rfl (gD (v := .agg (aR t_0)) (aA rfl) rfl rfl rfl) ?_
 rintro _ ⟨b1, rfl⟩
 refine tr1 rfl (aI (v := cN aU (none : Option aW)) (aA rfl) rfl rfl) ?_
 refine tr1 rfl (aI (v := .d (.lit (.int .i64 0))) (aA rfl) rfl rfl) ?_
 refine aF ?_
 refine aG ?_
 refine aG ?_
 refine aC ?_
 refine tr1 rfl (bL (aA rfl) rfl (i := 0) rfl dY (es := (aR t_0)) rfl rfl) ?_
 obtain ⟨r2, h3, h⟩ := dA h
 refine tr1 rfl (cS (aA rfl) (.func _ _ Try.call67) rfl rfl (BVs.refl _ _) (zF _ h3) rfl) ?_
 refine tr1 rfl (fQ (aA rfl) rfl) ?_
 refine aF ?_
 refine bQ rfl (fun c4 => ?_) (fun c4 => ?_)
 ·have h := eC c4 h
  refine aG ?_
  refine aC ?_
  refine tr1 rfl (aI (v := cN aU (none : Option aW)) (aA rfl) rfl rfl) ?_
  refine tr1 rfl (aI (v := .d (.lit (.int .i64 70))) (aA rfl) rfl rfl) ?_
  refine aF ?_
  exact bN ⟨rfl, _, [], [.box b1 0 (aR t_0)], _, .two (.tmp 4 (v := cN aU (none : Option aW)) rfl) (.tmp 5 (v := .d (.lit (.int .i64 70))) rfl), .refl _, .same _, ((none : Option aW), 70), h, rfl, rfl⟩
 ·have h := eB c4 h
  refine bO ?_
  refine aG ?_
  refine aG ?_
  refine aC ?_
  refine tr1 rfl (aD (v := .d (.sl 5 (l_1.map aL))) (aA rfl) rfl rfl) ?_
  refine tr1 rfl (dL (aA rfl) rfl fM.of) ?_
  refine tr1 rfl (bH (aA rfl) rfl rfl rfl) ?_
  refine tr1 rfl (aD (v := .d (.lit (.bool ((decide (60 < (l_1.length : Int))))))) (aA rfl) rfl rfl) ?_
  obtain ⟨b5, h6, h⟩ := dA h
  refine cC 4 [1, 2] 18 b5 ?_ ?_
  ·refine bI (decide (60 < (l_1.length : Int))) (fun c10 => ?_) (fun c10 => ?_)
   ·have h6 := aY c10 h6
    refine aN rfl rfl (aA rfl) rfl (aA rfl) rfl c10 ?_
    refine aN rfl rfl (aA rfl) rfl (aA rfl) rfl c10 ?_
    refine aN rfl rfl (aA rfl) rfl (aA rfl) rfl c10 ?_
    refine tr1 rfl (bS (v := .d (.lit (.bool true))) (aA rfl) rfl c10 rfl rfl) ?_
    have h6 := Option.some.inj h6
    subst h6
    refine aF (bC rfl ⟨rfl, rfl, trivial⟩ rfl)
   ·have h6 := aX c10 h6
    refine aM rfl rfl (aA rfl) rfl c10 (aD (v := .d (.sl 5 (l_1.map aL))) (aA rfl) rfl rfl) ?_
    refine aM rfl rfl (aA rfl) rfl c10 (aMm (aA rfl) rfl rfl) ?_
    obtain ⟨r12, h13, h6⟩ := bind_some h6
    refine aM rfl rfl (aA rfl) rfl c10 (cS (aA rfl) (.func _ _ Try.call68) rfl rfl (.cons (.same _) (.cons ((aMt (.cons ((aKw 0 rfl rfl (dvc (.same _) (dvc (.same _) dvn)))) .nil))) .nil)) (qN _ _ 69 [.cp [.lit (.int .i64 t_0.Rounds), .sl 1 (t_0.Slots.map aP)]] Try.call69 (fun _ _ h6 => zG _ _ h6) h13) rfl) ?_
    refine tr1 rfl (bR (v := .d (.lit (.bool r12))) (aA rfl) rfl c10 rfl rfl) ?_
    have h6 := Option.some.inj h6
    subst h6
    refine aF (bC rfl ⟨rfl, rfl, trivial⟩ rfl)
  ·refine aF ?_
   refine bQ rfl (fun c7 => ?_) (fun c7 => ?_)
   ·have h := eC c7 h
    refine aG ?_
    refine aC ?_
    refine tr1 rfl (aI (v := cN aU (none : Option aW)) (aA rfl) rfl rfl) ?_
    refine tr1 rfl (aI (v := .d (.lit (.int .i64 71))) (aA rfl) rfl rfl) ?_
    refine aF ?_
    exact bN ⟨rfl, _, [], [.box b1 0 (aR t_0)], _, .two (.tmp 4 (v := cN aU (none : Option aW)) rfl) (.tmp 5 (v := .d (.lit (.int .i64 71))) rfl), .refl _, .same _, ((none : Option aW), 71), h, rfl, rfl⟩
   ·have h := eB c7 h
    refine bO ?_
    refine aG ?_
    refine aC ?_
    refine tr1 rfl (bL (aA rfl) rfl (i := 0) rfl dY (es := (aR t_0)) rfl rfl) ?_
    refine tr1 rfl (aD (v := .d (.sl 5 (l_1.map aL))) (aA rfl) rfl rfl) ?_
    refine bU rfl (mS (aA rfl) (.func _ _ Try.call71) rfl rfl (aAg _ _ h)) ?_
    rintro _ ⟨_, _, ⟨r8, h, rfl, rfl⟩, rfl⟩
    refine tr1 rfl (aD (v := .tup [cN aU r8.1, .d (.lit (.bool r8.2))]) (aA rfl) rfl rfl) ?_
    refine tr1 rfl (bJ (aA rfl) rfl rfl) ?_
    refine tr1 rfl (bJ (aA rfl) rfl rfl) ?_
    refine tr1 rfl (aI (v := cN aU r8.1) (aA rfl) rfl rfl) ?_
    refine tr1 rfl (aI (v := .d (.lit (.bool r8.2))) (aA rfl) rfl rfl) ?_
    refine aF ?_
    refine aG ?_
    refine aG ?_
    refine aC ?_
    refine tr1 rfl (aD (v := .d (.lit (.bool r8.2))) (aA rfl) rfl rfl) ?_
    refine tr1 rfl (fQ (aA rfl) rfl) ?_
    refine aF ?_
    refine bQ rfl (fun c9 => ?_) (fun c9 => ?_)
    ·have h := eC c9 h
     refine aG ?_
     refine aC ?_
     refine tr1 rfl (aI (v := cN aU (none : Option aW)) (aA rfl) rfl rfl) ?_
     refine tr1 rfl (aI (v := .d (.lit (.int .i64 72))) (aA rfl) rfl rfl) ?_
     refine aF ?_
     exact bN ⟨rfl, _, [], [.box b1 0 (aR t_0)], _, .two (.tmp 4 (v := cN aU (none : Option aW)) rfl) (.tmp 5 (v := .d (.lit (.int .i64 72))) rfl), .refl _, .same _, ((none : Option aW), 72), h, rfl, rfl⟩
    ·have h := eB c9 h
     refine bO ?_
     refine aG ?_
     refine aC ?_
     refine tr1 rfl (aD (v := cN aU r8.1) (aA rfl) rfl rfl) ?_
     refine tr1 rfl (aI (v := cN aU r8.1) (aA rfl) rfl rfl) ?_
     refine tr1 rfl (aI (v := .d (.lit (.int .i64 0))) (aA rfl) rfl rfl) ?_
     refine aF ?_
     exact bN ⟨rfl, _, [], [.box b1 0 (aR t_0)], _, .two (.tmp 4 (v := cN aU r8.1) rfl) (.tmp 5 (v := .d (.lit (.int .i64 0))) rfl), .refl _, .same _, (r8.1, 0), h, rfl, rfl⟩

theorem qR (d_0 : aW) (m_1 : aB) (side_2 : Int) {r : Int} (h : jD d_0 m_1 side_2 = some r) : Fn Try.prog 74 [.cp (aU d_0), .agg (aH m_1), .d (.lit (.int .i64 side_2))] (.d (.lit (.int .i64 r))) := by
 unfold jD at h
 refine Fn.of_tr Try.func74 rfl (rs := [.tmp 6]) Try.results74 Try.ntmps74 (Nat.le_of_ble_eq_true rfl) ?_
 refine aG ?_
 refine aC ?_
 refine bU rfl (gD (v := .agg (aH m_1)) (aA rfl) rfl rfl rfl) ?_
 rintro _ ⟨b1, rfl⟩
 refine tr1 rfl (aI (v := .d (.lit (.int .i64 0))) (aA rfl) rfl rfl) ?_
 refine aF ?_
 refine aG ?_
 refine aC ?_
 refine tr1 rfl (aV (aA rfl) rfl aDv) ?_
 refine tr1 rfl (aZ (aA rfl) rfl (i := 0) rfl rfl bK) ?_
 refine tr1 rfl (bM (aA rfl) rfl rfl rfl) ?_
 refine tr1 rfl (aD (v := .d (.lit (.int .i64 side_2))) (aA rfl) rfl rfl) ?_
 refine tr1 rfl (bM (aA rfl) rfl rfl rfl) ?_
 refine tr1 rfl (aI (v := .d (.lit (.int .i64 ((w64 ((w64 (2 * m_1.place)) + side_2)))))) (aA rfl) rfl rfl) ?_
 refine aF ?_
 refine aG ?_
 refine aG ?_
 refine aC ?_
 refine tr1 rfl (aV (aA rfl) rfl nG) ?_
 refine tr1 rfl (aZ (aA rfl) rfl (i := 0) rfl rfl bK) ?_
 refine tr1 rfl (bH (aA rfl) rfl rfl rfl) ?_
 refine aF ?_
 refine bQ rfl (fun c2 => ?_) (fun c2 => ?_)
 ·have h := aY c2 h
  refine aG ?_
  refine aC ?_
  refine tr1 rfl (aD (v := .cp [.lit (.int .i64 d_0.Tree.Rounds), .sl 1 (d_0.Tree.Slots.map aP), .sl 1 (d_0.players.map aP), .mp false (d_0.won.map fun p : aB × Int => ((fun a : aB => Value.agg ((aH a).map bG).toArray) p.1, aP p.2))]) (aA rfl) rfl rfl) ?_
  refine tr1 rfl (gQ (aA rfl) rfl) ?_
  refine tr1 rfl (cO (aA rfl) rfl kO (es := [.sl 1 (d_0.players.map aP)]) rfl) ?_
  refine tr1 rfl (bV (aA rfl) rfl dH) ?_
  refine tr1 rfl (aD (v := .d (.lit (.int .i64 ((w64 ((w64 (2 * m_1.place)) + side_2)))))) (aA rfl) rfl rfl) ?_
  obtain ⟨x3, h4, h⟩ := bind_some h
  refine tr1 rfl (bT (aA rfl) rfl rfl cB.of (cE aP h4)) ?_
  refine tr1 rfl (bV (aA rfl) rfl bK) ?_
  refine tr1 rfl (aI (v := .d (.lit (.int .i64 x3))) (aA rfl) rfl rfl) ?_
  refine aF ?_
  have h := Option.some.inj h
  subst h
  refine cP (cR (cU (l := [6]) ⟨rfl, trivial⟩)) ?_
  exact bN ⟨rfl, _, .one _, rfl, rfl⟩
 ·have h := aX c2 h
  refine bO ?_
  refine aG ?_
  refine aG ?_
  refine dX mix 14 [] [(8, .d (.lit (.int .i64 ((cF (aB.mk (w64 (m_1.round - 1)) (w64 ((w64 (2 * m_1.place)) + side_2))) 0 d_0.won))))), (37, .d (.lit (.bool ((cL (aB.mk (w64 (m_1.round - 1)) (w64 ((w64 (2 * m_1.place)) + side_2))) d_0.won)))))] ?_ ?_
  ·refine ⟨[(26, 0, .cp [.lit (.int .i64 d_0.Tree.Rounds), .sl 1 (d_0.Tree.Slots.map aP), .sl 1 (d_0.players.map aP), .mp false (d_0.won.map fun p : aB × Int => ((fun a : aB => Value.agg ((aH a).map bG).toArray) p.1, aP p.2))]), (27, 1, .cp [.lit (.int .i64 d_0.Tree.Rounds), .sl 1 (d_0.Tree.Slots.map aP), .sl 1 (d_0.players.map aP), .mp false (d_0.won.map fun p : aB × Int => ((fun a : aB => Value.agg ((aH a).map bG).toArray) p.1, aP p.2))]), (28, 2, .cp [.mp false (d_0.won.map fun p : aB × Int => ((fun a : aB => Value.agg ((aH a).map bG).toArray) p.1, aP p.2))]), (29, 3, .d (.mp false (d_0.won.map fun p : aB × Int => ((fun a : aB => Value.agg ((aH a).map bG).toArray) p.1, aP p.2)))), (30, 4, .bp b1 0 0), (31, 5, .d (.lit (.int .i64 m_1.round))), (32, 6, .d (.lit (.int .i64 ((w64 (m_1.round - 1)))))), (33, 7, .d (.lit (.int .i64 ((w64 ((w64 (2 * m_1.place)) + side_2)))))), (34, 8, .agg (aH (aB.mk (w64 (m_1.round - 1)) (w64 ((w64 (2 * m_1.place)) + side_2))))), (35, 9, .tup [.d (.lit (.int .i64 ((cF (aB.mk (w64 (m_1.round - 1)) (w64 ((w64 (2 * m_1.place)) + side_2))) 0 d_0.won)))), .d (.lit (.bool ((cL (aB.mk (w64 (m_1.round - 1)) (w64 ((w64 (2 * m_1.place)) + side_2))) d_0.won))))]), (25, 10, .tup [.d (.lit (.int .i64 ((cF (aB.mk (w64 (m_1.round - 1)) (w64 ((w64 (2 * m_1.place)) + side_2))) 0 d_0.won)))), .d (.lit (.bool ((cL (aB.mk (w64 (m_1.round - 1)) (w64 ((w64 (2 * m_1.place)) + side_2))) d_0.won))))]), (36, 11, .d (.lit (.int .i64 ((cF (aB.mk (w64 (m_1.round - 1)) (w64 ((w64 (2 * m_1.place)) + side_2))) 0 d_0.won))))), (37, 12, .d (.lit (.bool ((cL (aB.mk (w64 (m_1.round - 1)) (w64 ((w64 (2 * m_1.place)) + side_2))) d_0.won))))), (8, 13, .d (.lit (.int .i64 ((cF (aB.mk (w64 (m_1.round - 1)) (w64 ((w64 (2 * m_1.place)) + side_2))) 0 d_0.won)))))], ?_, ?_⟩
   · exact ⟨by kernel_rfl, by kernel_rfl, by kernel_rfl, by kernel_rfl, by kernel_rfl, [([], []), ([0], []), ([1], []), ([2], []), ([], []), ([4], []), ([5], []), ([], []), ([6, 7], []), ([3, 8], []), ([9], []), ([10], []), ([10], []), ([11], [])], by kernel_rfl, ⟨fun S hS => aK rfl (aT rfl (aD (v := .cp [.lit (.int .i64 d_0.Tree.Rounds), .sl 1 (d_0.Tree.Slots.map aP), .sl 1 (d_0.players.map aP), .mp false (d_0.won.map fun p : aB × Int => ((fun a : aB => Value.agg ((aH a).map bG).toArray) p.1, aP p.2))]) (aA rfl) (aJ hS rfl) rfl)),
      fun S hS => aK rfl (aT rfl (gQ (aA rfl) (aJ hS rfl))),
      fun S hS => aK rfl (aT rfl (cO (aA rfl) (aJ hS rfl) oN (es := [.mp false (d_0.won.map fun p : aB × Int => ((fun a : aB => Value.agg ((aH a).map bG).toArray) p.1, aP p.2))]) rfl)),
      fun S hS => aK rfl (aT rfl (bV (aA rfl) (aJ hS rfl) sC)),
      fun S hS => aK rfl (aT rfl (aV (aA rfl) (aJ hS rfl) nG)),
      fun S hS => aK rfl (aT rfl (aZ (aA rfl) (aJ hS rfl) (i := 0) rfl rfl bK)),
      fun S hS => aK rfl (aT rfl (bM (aA rfl) (aJ hS rfl) rfl rfl)),
      fun S hS => aK rfl (aT rfl (aD (v := .d (.lit (.int .i64 ((w64 ((w64 (2 * m_1.place)) + side_2)))))) (aA rfl) (aJ hS rfl) rfl)),
      fun S hS => aK rfl (aT rfl (eX (aA rfl) vC (zs := [.lit (.int .i64 0), .lit (.int .i64 0)]) rfl rfl rfl (pa2 (aJ hS rfl) (pa2 (aJ hS rfl) pan)) (es := [.lit (.int .i64 ((w64 (m_1.round - 1)))), .lit (.int .i64 ((w64 ((w64 (2 * m_1.place)) + side_2))))]) rfl)),
      fun S hS => aK rfl (aT rfl (nO (enc := aP) (agg := false) (l := d_0.won) (z := 0) (a := (aB.mk (w64 (m_1.round - 1)) (w64 ((w64 (2 * m_1.place)) + side_2)))) (aA rfl) qH Try.underlying73 Try.zeroValue3 (fun _ _ => .d (.lit _ rfl)) (aJ hS rfl) rfl rfl (aJ hS rfl) (jI (enc := aH) (aB.mk (w64 (m_1.round - 1)) (w64 ((w64 (2 * m_1.place)) + side_2))) rfl))),
      fun S hS => aK rfl (aT rfl (aD (v := .tup [.d (.lit (.int .i64 ((cF (aB.mk (w64 (m_1.round - 1)) (w64 ((w64 (2 * m_1.place)) + side_2))) 0 d_0.won)))), .d (.lit (.bool ((cL (aB.mk (w64 (m_1.round - 1)) (w64 ((w64 (2 * m_1.place)) + side_2))) d_0.won))))]) (aA rfl) (aJ hS rfl) rfl)),
      fun S hS => aK rfl (aT rfl (bJ (aA rfl) (aJ hS rfl) rfl)),
      fun S hS => aK rfl (aT rfl (bJ (aA rfl) (aJ hS rfl) rfl)),
      fun S hS => aK rfl (aT rfl (aI (v := .d (.lit (.int .i64 ((cF (aB.mk (w64 (m_1.round - 1)) (w64 ((w64 (2 * m_1.place)) + side_2))) 0 d_0.won))))) (aA rfl) (aJ hS rfl) rfl)), trivial⟩⟩
   · exact dI (aS rfl (aS rfl (bD trivial)))
  ·refine tr1 rfl (aI (v := .d (.lit (.bool ((cL (aB.mk (w64 (m_1.round - 1)) (w64 ((w64 (2 * m_1.place)) + side_2))) d_0.won))))) (aA rfl) rfl rfl) ?_
   refine aF ?_
   refine aG ?_
   refine aC ?_
   refine tr1 rfl (aD (v := .d (.lit (.bool ((cL (aB.mk (w64 (m_1.round - 1)) (w64 ((w64 (2 * m_1.place)) + side_2))) d_0.won))))) (aA rfl) rfl rfl) ?_
   refine aF ?_
   refine bQ rfl (fun c5 => ?_) (fun c5 => ?_)
   ·have h := aY c5 h
    refine aG ?_
    refine aC ?_
    refine tr1 rfl (aD (v := .d (.lit (.int .i64 ((cF (aB.mk (w64 (m_1.round - 1)) (w64 ((w64 (2 * m_1.place)) + side_2))) 0 d_0.won))))) (aA rfl) rfl rfl) ?_
    refine tr1 rfl (aI (v := .d (.lit (.int .i64 ((cF (aB.mk (w64 (m_1.round - 1)) (w64 ((w64 (2 * m_1.place)) + side_2))) 0 d_0.won))))) (aA rfl) rfl rfl) ?_
    refine aF ?_
    have h := Option.some.inj h
    subst h
    refine cP (cR (cU (l := [6]) ⟨rfl, trivial⟩)) ?_
    exact bN ⟨rfl, _, .one _, rfl, rfl⟩
   ·have h := aX c5 h
    refine bO ?_
    refine aG ?_
    refine aC ?_
    refine tr1 rfl (aI (v := .d (.lit (.int .i64 (-2)))) (aA rfl) rfl rfl) ?_
    refine aF ?_
    have h := Option.some.inj h
    subst h
    refine cP (cR (cU (l := [6]) ⟨rfl, trivial⟩)) ?_
    exact bN ⟨rfl, _, .one _, rfl, rfl⟩

theorem pC {S : Type} (J : S → MO → Prop) (ly : Nat) (yield_1 : S → aB → bA → Option S) (hy : ∀ (s : S) (m : MO) (x0 : aB) (x1 : bA) (s' : S), J s m → yield_1 s x0 x1 = some s' → wQ Try.prog ly [.agg (aH x0), .agg (bB x1)] m (J s')) (d_0 : aW) (sy : S) (m0 : MO) (hj : J sy m0) {r : S} (h : fY d_0 yield_1 sy = some r) : eS Try.prog 56 [.cp (aU d_0), .d (.lit (yv ly))] [m0] (fun _ o' => ∃ m', J r m' ∧ o' = [m']) := by
 unfold fY at h
 refine aFa Try.func56 rfl (rs := []) Try.results56 Try.ntmps56 (Nat.le_of_ble_eq_true rfl) ?_
 refine aG ?_
 refine aC ?_
 refine tr1 rfl (aD (v := .cp [.lit (.int .i64 d_0.Tree.Rounds), .sl 1 (d_0.Tree.Slots.map aP), .sl 1 (d_0.players.map aP), .mp false (d_0.won.map fun p : aB × Int => ((fun a : aB => Value.agg ((aH a).map bG).toArray) p.1, aP p.2))]) (aA rfl) rfl rfl) ?_
 refine tr1 rfl (gQ (aA rfl) rfl) ?_
 refine tr1 rfl (cO (aA rfl) rfl oM (es := [.lit (.int .i64 d_0.Tree.Rounds), .sl 1 (d_0.Tree.Slots.map aP)]) rfl) ?_
 refine tr1 rfl (cO (aA rfl) rfl iJ (es := [.lit (.int .i64 d_0.Tree.Rounds)]) rfl) ?_
 refine tr1 rfl (bV (aA rfl) rfl bK) ?_
 refine tr1 rfl (aD (v := .d (.lit (.int .i64 0))) (aA rfl) rfl rfl) ?_
 refine aF ?_
 refine cH ?_
 refine dR [0, 1, 11] (fun (s1 : Int × ({x : S × MO // J x.1 x.2})) => [(12, .d (.lit (.int .i64 s1.1)))]) (fun (s1 : Int × ({x : S × MO // J x.1 x.2})) => [s1.2.1.2]) (fun (k : Nat) (s1 : Int × ({x : S × MO // J x.1 x.2})) => cY yield_1 d_0 d_0.Tree.Rounds k s1.1 s1.2.1.1) (fun _ => rfl) (0, ⟨(sy, m0), hj⟩) h (bF [0] rfl rfl (aS rfl (bD ⟨rfl, rfl, rfl, trivial⟩))) ?_
 rintro k3 ⟨t12_0_1, y2⟩ h
 simp only [cY] at h
 refine aG ?_
 refine aC ?_
 refine tr1 rfl (bH (aA rfl) rfl rfl rfl) ?_
 refine aF ?_
 refine aG ?_
 refine bQ rfl (fun c4 => ?_) (fun c4 => ?_)
 ·have h := aY c4 h
  refine bO ?_
  refine aG ?_
  refine cH ?_
  refine aG ?_
  refine aC ?_
  refine tr1 rfl (aD (v := .d (.lit (.int .i64 t12_0_1))) (aA rfl) rfl rfl) ?_
  refine tr1 rfl (aI (v := .d (.lit (.int .i64 t12_0_1))) (aA rfl) rfl rfl) ?_
  refine aF ?_
  refine aG ?_
  refine aC ?_
  refine tr1 rfl (aD (v := .cp [.lit (.int .i64 d_0.Tree.Rounds), .sl 1 (d_0.Tree.Slots.map aP), .sl 1 (d_0.players.map aP), .mp false (d_0.won.map fun p : aB × Int => ((fun a : aB => Value.agg ((aH a).map bG).toArray) p.1, aP p.2))]) (aA rfl) rfl rfl) ?_
  refine tr1 rfl (gQ (aA rfl) rfl) ?_
  refine tr1 rfl (cO (aA rfl) rfl oM (es := [.lit (.int .i64 d_0.Tree.Rounds), .sl 1 (d_0.Tree.Slots.map aP)]) rfl) ?_
  refine tr1 rfl (cO (aA rfl) rfl dV (es := [.sl 1 (d_0.Tree.Slots.map aP)]) rfl) ?_
  refine tr1 rfl (bV (aA rfl) rfl dH) ?_
  refine tr1 rfl (dL (aA rfl) rfl cB.of) ?_
  refine tr1 rfl (aD (v := .d (.lit (.int .i64 t12_0_1))) (aA rfl) rfl rfl) ?_
  refine tr1 rfl (bM (aA rfl) rfl rfl rfl) ?_
  obtain ⟨u5, h6, h⟩ := bind_some h
  refine tr1 rfl (aBf (aA rfl) rfl rfl (tZ h6)) ?_
  refine tr1 rfl (aD (v := .d (.lit (.int .i64 0))) (aA rfl) rfl rfl) ?_
  refine aF ?_
  refine yI ?_
  refine dR [0, 1, 4, 11, 12, 23] (fun (s7 : Int × ({x : S × MO // J x.1 x.2})) => [(24, .d (.lit (.int .i64 s7.1)))]) (fun (s7 : Int × ({x : S × MO // J x.1 x.2})) => [s7.2.1.2]) (fun (k : Nat) (s7 : Int × ({x : S × MO // J x.1 x.2})) => eH yield_1 (cY yield_1 d_0 d_0.Tree.Rounds k3) d_0 t12_0_1 d_0.Tree.Rounds t12_0_1 ((d_0.Tree.Slots.length : Int).fdiv (2 ^ (min (w64 (t12_0_1 + 1)).toNat 64))) k s7.1 s7.2.1.1) (fun _ => rfl) (0, ⟨(y2.1.1, y2.1.2), y2.2⟩) h (bF [0] rfl rfl (aS rfl (bD ⟨rfl, rfl, rfl, rfl, rfl, rfl, trivial⟩))) ?_
  rintro k9 ⟨t24_2_7, y8⟩ h
  simp only [eH] at h
  refine aG ?_
  refine aC ?_
  refine tr1 rfl (bH (aA rfl) rfl rfl rfl) ?_
  refine aF ?_
  refine aG ?_
  refine bQ rfl (fun c10 => ?_) (fun c10 => ?_)
  ·have h := aY c10 h
   refine bO ?_
   refine aG ?_
   refine cH ?_
   refine aG ?_
   refine aC ?_
   refine tr1 rfl (aD (v := .d (.lit (.int .i64 t24_2_7))) (aA rfl) rfl rfl) ?_
   refine tr1 rfl (aI (v := .d (.lit (.int .i64 t24_2_7))) (aA rfl) rfl rfl) ?_
   refine aF ?_
   refine aG ?_
   refine aC ?_
   refine tr1 rfl (aD (v := .d (.lit (.int .i64 t12_0_1))) (aA rfl) rfl rfl) ?_
   refine tr1 rfl (aD (v := .d (.lit (.int .i64 t24_2_7))) (aA rfl) rfl rfl) ?_
   refine tr1 rfl (eX (aA rfl) vC (zs := [.lit (.int .i64 0), .lit (.int .i64 0)]) rfl rfl rfl rfl (es := [.lit (.int .i64 t12_0_1), .lit (.int .i64 t24_2_7)]) rfl) ?_
   refine bU rfl (dQ (zs := [.lit (.int .i64 0), .lit (.int .i64 0)]) (aA rfl) Try.zeroValue70 rfl rfl) ?_
   rintro _ ⟨b11, rfl⟩
   refine tr1 rfl (cG (i := 1) rfl rfl rfl rfl rfl Try.sizeOf70 rfl (aA rfl) (Nat.le_of_ble_eq_true rfl) (ds' := (aH (aB.mk t12_0_1 t24_2_7))) rfl) ?_
   refine aF ?_
   refine aG ?_
   obtain ⟨r12, h13, h⟩ := bind_some h
   obtain ⟨r14, h15, h⟩ := bind_some h
   refine dX mix 11 [0, 1, 4, 11, 12, 23, 24] [(30, .d (.lit (yv ly))), (31, .agg (aH (aB.mk t12_0_1 t24_2_7))), (40, .agg (bB (bA.mk t12_0_1 t24_2_7 r12 r14)))] ?_ ?_
   ·refine ⟨[(30, 0, .d (.lit (yv ly))), (31, 1, .agg (aH (aB.mk t12_0_1 t24_2_7))), (32, 2, .d (.lit (.int .i64 t12_0_1))), (33, 3, .d (.lit (.int .i64 t24_2_7))), (34, 4, .cp [.lit (.int .i64 d_0.Tree.Rounds), .sl 1 (d_0.Tree.Slots.map aP), .sl 1 (d_0.players.map aP), .mp false (d_0.won.map fun p : aB × Int => ((fun a : aB => Value.agg ((aH a).map bG).toArray) p.1, aP p.2))]), (35, 5, .agg (aH (aB.mk t12_0_1 t24_2_7))), (36, 6, .d (.lit (.int .i64 r12))), (37, 7, .cp [.lit (.int .i64 d_0.Tree.Rounds), .sl 1 (d_0.Tree.Slots.map aP), .sl 1 (d_0.players.map aP), .mp false (d_0.won.map fun p : aB × Int => ((fun a : aB => Value.agg ((aH a).map bG).toArray) p.1, aP p.2))]), (38, 8, .agg (aH (aB.mk t12_0_1 t24_2_7))), (39, 9, .d (.lit (.int .i64 r14))), (40, 10, .agg (bB (bA.mk t12_0_1 t24_2_7 r12 r14)))], ?_, ?_⟩
    · exact ⟨by kernel_rfl, by kernel_rfl, by kernel_rfl, by kernel_rfl, by kernel_rfl, [([], []), ([], []), ([], []), ([], []), ([], []), ([], []), ([4, 5], []), ([], []), ([], []), ([7, 8], []), ([2, 3, 6, 9], [])], by kernel_rfl, ⟨fun S hS => aK rfl (aT rfl (aD (v := .d (.lit (yv ly))) (aA rfl) (aJ hS rfl) rfl)),
      fun S hS => aK rfl (aT rfl (bL (aA rfl) (aJ hS rfl) (i := 1) rfl iL (es := (aH (aB.mk t12_0_1 t24_2_7))) rfl rfl)),
      fun S hS => aK rfl (aT rfl (aD (v := .d (.lit (.int .i64 t12_0_1))) (aA rfl) (aJ hS rfl) rfl)),
      fun S hS => aK rfl (aT rfl (aD (v := .d (.lit (.int .i64 t24_2_7))) (aA rfl) (aJ hS rfl) rfl)),
      fun S hS => aK rfl (aT rfl (aD (v := .cp [.lit (.int .i64 d_0.Tree.Rounds), .sl 1 (d_0.Tree.Slots.map aP), .sl 1 (d_0.players.map aP), .mp false (d_0.won.map fun p : aB × Int => ((fun a : aB => Value.agg ((aH a).map bG).toArray) p.1, aP p.2))]) (aA rfl) (aJ hS rfl) rfl)),
      fun S hS => aK rfl (aT rfl (bL (aA rfl) (aJ hS rfl) (i := 1) rfl iL (es := (aH (aB.mk t12_0_1 t24_2_7))) rfl rfl)),
      fun S hS => aK rfl (aT rfl (cS (aA rfl) (.func _ _ Try.call74) (ev2 (aJ hS rfl) (ev2 (aJ hS rfl) (ev2 rfl evn))) rfl (BVs.refl _ _) (qR _ _ _ h13) rfl)),
      fun S hS => aK rfl (aT rfl (aD (v := .cp [.lit (.int .i64 d_0.Tree.Rounds), .sl 1 (d_0.Tree.Slots.map aP), .sl 1 (d_0.players.map aP), .mp false (d_0.won.map fun p : aB × Int => ((fun a : aB => Value.agg ((aH a).map bG).toArray) p.1, aP p.2))]) (aA rfl) (aJ hS rfl) rfl)),
      fun S hS => aK rfl (aT rfl (bL (aA rfl) (aJ hS rfl) (i := 1) rfl iL (es := (aH (aB.mk t12_0_1 t24_2_7))) rfl rfl)),
      fun S hS => aK rfl (aT rfl (cS (aA rfl) (.func _ _ Try.call74) (ev2 (aJ hS rfl) (ev2 (aJ hS rfl) (ev2 rfl evn))) rfl (BVs.refl _ _) (qR _ _ _ h15) rfl)),
      fun S hS => aK rfl (aT rfl (eX (aA rfl) aEp (zs := [.lit (.int .i64 0), .lit (.int .i64 0), .lit (.int .i64 0), .lit (.int .i64 0)]) rfl rfl rfl (pa2 (aJ hS rfl) (pa2 (aJ hS rfl) (pa2 (aJ hS rfl) (pa2 (aJ hS rfl) pan)))) (es := [.lit (.int .i64 t12_0_1), .lit (.int .i64 t24_2_7), .lit (.int .i64 r12), .lit (.int .i64 r14)]) rfl)), trivial⟩⟩
    · exact dI (aS rfl (aS rfl (aS rfl (bD ⟨rfl, rfl, rfl, rfl, rfl, rfl, rfl, trivial⟩))))
   ·obtain ⟨y16, h17, h⟩ := bind_some h
    refine aJh rfl (aLs (aA rfl) rfl rfl rfl rfl (hy _ _ _ _ _ y8.2 h17)) ?_
    rintro _ ⟨m18, hj19, rfl⟩
    refine tr1 rfl (fQ (aA rfl) rfl) ?_
    refine aF ?_
    refine bQ rfl (fun c20 => ?_) (fun c20 => ?_)
    ·exact absurd c20 (by decide)
    ·refine eG ?_
     refine aC ?_
     refine tr1 rfl (bM (aA rfl) rfl rfl rfl) ?_
     refine tr1 rfl (aD (v := .d (.lit (.int .i64 ((w64 (t24_2_7 + 1)))))) (aA rfl) rfl rfl) ?_
     refine aF ?_
     exact ⟨(w64 (t24_2_7 + 1), ⟨(y16, m18), hj19⟩), h, bF [0] rfl rfl (aS rfl (bD ⟨rfl, rfl, rfl, rfl, rfl, rfl, trivial⟩))⟩
  ·have h := aX c10 h
   refine dF ?_
   refine .inl ⟨rfl, ?_⟩
   simp only [hZ] at h
   simp only [lP] at h
   refine aC ?_
   refine tr1 rfl (bM (aA rfl) rfl rfl rfl) ?_
   refine tr1 rfl (aD (v := .d (.lit (.int .i64 ((w64 (t12_0_1 + 1)))))) (aA rfl) rfl rfl) ?_
   refine aF ?_
   exact ⟨(w64 (t12_0_1 + 1), ⟨(y8.1.1, y8.1.2), y8.2⟩), h, bF [0] rfl rfl (aS rfl (bD ⟨rfl, rfl, rfl, trivial⟩))⟩
 ·have h := aX c4 h
  refine dF ?_
  refine .inl ⟨rfl, ?_⟩
  simp only [lO] at h
  have h := Option.some.inj h
  subst h
  exact ⟨_, [y2.1.2], [], _, .none, .refl _, .same _, y2.1.2, y2.2, rfl⟩

theorem aAc (t_0 : aO) (l_1 : List aE) {Q : ((List bA) × Int) → Prop} (h : nJ t_0 l_1 Q) : eS Try.prog 30 [.agg (aR t_0), .d (.sl 5 (l_1.map aL))] [] (fun r' o' => ∃ (r : (List bA) × Int), Q r ∧ r' = .tup [.d (.sl 4 (r.1.map bB)), .d (.lit (.int .i64 r.2))] ∧ o' = []) := by
 unfold nJ at h
 refine fV Try.func30 rfl (rs := [.tmp 4, .tmp 5]) Try.results30 Try.ntmps30 (Nat.le_of_ble_eq_true rfl) ?_
 refine aG ?_
 refine aC ?_
 refine bU rfl (gD (v := .agg (aR t_0)) (aA rfl) rfl rfl rfl) ?_
 rintro _ ⟨b1, rfl⟩
 refine tr1 rfl (oW 4 (aA rfl)) ?_
 refine tr1 rfl (aI (v := .d (.lit (.int .i64 0))) (aA rfl) rfl rfl) ?_
 refine aF ?_
 refine aG ?_
 refine aC ?_
 refine tr1 rfl (bL (aA rfl) rfl (i := 0) rfl dY (es := (aR t_0)) rfl rfl) ?_
 refine tr1 rfl (aD (v := .d (.sl 5 (l_1.map aL))) (aA rfl) rfl rfl) ?_
 refine bU rfl (mS (aA rfl) (.func _ _ Try.call48) rfl rfl (mJ _ _ h)) ?_
 rintro _ ⟨_, _, ⟨r2, h, rfl, rfl⟩, rfl⟩
 refine tr1 rfl (aD (v := .tup [cN aU r2.1, .d (.lit (.int .i64 r2.2))]) (aA rfl) rfl rfl) ?_
 refine tr1 rfl (bJ (aA rfl) rfl rfl) ?_
 refine tr1 rfl (bJ (aA rfl) rfl rfl) ?_
 refine tr1 rfl (aI (v := cN aU r2.1) (aA rfl) rfl rfl) ?_
 refine tr1 rfl (aI (v := .d (.lit (.int .i64 r2.2))) (aA rfl) rfl rfl) ?_
 refine aF ?_
 refine aG ?_
 refine aG ?_
 refine aC ?_
 refine tr1 rfl (aD (v := .d (.lit (.int .i64 r2.2))) (aA rfl) rfl rfl) ?_
 refine tr1 rfl (bH (aA rfl) rfl rfl rfl) ?_
 refine aF ?_
 refine bQ rfl (fun c3 => ?_) (fun c3 => ?_)
 ·have h := eC c3 h
  refine aG ?_
  refine aC ?_
  refine tr1 rfl (aD (v := .d (.lit (.int .i64 r2.2))) (aA rfl) rfl rfl) ?_
  refine tr1 rfl (oW 4 (aA rfl)) ?_
  refine tr1 rfl (aI (v := .d (.lit (.int .i64 r2.2))) (aA rfl) rfl rfl) ?_
  refine aF ?_
  exact bN ⟨rfl, _, [], [.box b1 0 (aR t_0)], _, .two (.tmp 4 (v := .d (.sl 4 ((([] : List bA)).map bB))) rfl) (.tmp 5 (v := .d (.lit (.int .i64 r2.2))) rfl), .refl _, .same _, (([] : List bA), r2.2), h, rfl, rfl⟩
 ·have h := eB c3 h
  refine bO ?_
  refine aG ?_
  refine aC ?_
  refine bU rfl (dQ (zs := [.lit (.slice none 0 0)]) (aA rfl) Try.zeroValue48 rfl rfl) ?_
  rintro _ ⟨b4, rfl⟩
  refine jG (vL 57 4) ?_
  refine aF ?_
  refine aG ?_
  refine aG ?_
  refine aC ?_
  refine tr1 rfl (aD (v := cN aU r2.1) (aA rfl) rfl rfl) ?_
  obtain ⟨x5, h6, h⟩ := dA h
  refine jG (yC (enc := aU) (k := 20) rfl h6) ?_
  refine tr1 rfl (aIz (aA rfl) rfl rfl) ?_
  refine aF ?_
  refine cH ?_
  obtain ⟨s7, h8, h⟩ := dA h
  refine tE ?_ aIo
  refine aEu (S := (List bA) × Value) (S0 := (List bA)) (f := 56) (ps := [22, 23]) (fun z11 => z11.1) (fun z11 => [.box b1 0 (aR t_0), .box b4 0 [.lit z11.2], .arr z11.2 57 4 (z11.1.map bB)]) (aLb (fun x12 : aB => .agg (aH x12)) (fun x13 : bA => .agg (bB x13)) _) (([] : List bA), (.slice none 0 0)) ([] : List bA) s7 (bF [0, 1, 2] rfl rfl (le_refl _)) rfl Try.call56 rfl (by decide) rfl rfl (fun l J hy m0 h0 => pC (S := (List bA)) J l _ (fun _ _ _ _ _ hJ hq => hy _ _ _ _ hJ ⟨_, _, rfl, hq⟩) x5 _ m0 h0 h8) ?_ ?_
  ·rintro ⟨e9, w10⟩ _ _ ⟨x12, x13, rfl, h⟩
   refine ⟨rfl, ?_⟩
   refine aC ?_
   refine bU rfl (dQ (zs := [.lit (.int .i64 0), .lit (.int .i64 0), .lit (.int .i64 0), .lit (.int .i64 0)]) (aA rfl) Try.zeroValue57 rfl rfl) ?_
   rintro _ ⟨b14, rfl⟩
   refine tr1 rfl (cG (i := 3) rfl rfl rfl rfl rfl Try.sizeOf57 rfl (aA rfl) (Nat.le_of_ble_eq_true rfl) (ds' := (bB x13)) rfl) ?_
   refine aF ?_
   refine cH ?_
   refine aC ?_
   refine tr1 rfl (aZ (aA rfl) rfl (i := 1) rfl rfl aAw) ?_
   refine tr1 rfl (bL (aA rfl) rfl (i := 3) rfl rQ (es := (bB x13)) rfl rfl) ?_
   refine tr1 rfl (eW (aA rfl) iC rfl rfl (rows := ([x13]).map bB) rfl (cV (f := bB) fun _ => rfl) rfl (by decide)) ?_
   obtain ⟨x15, h16, h⟩ := bind_some h
   refine bU rfl (eI (i := 2) (aA rfl) iC rfl rfl rfl (fun _ => rfl) h16 rfl) ?_
   rintro _ ⟨v17, rfl⟩
   refine tr1 rfl (cG (i := 1) rfl rfl rfl rfl rfl Try.sizeOf48 rfl (aA rfl) (Nat.le_of_ble_eq_true rfl) (ds' := [.lit v17]) rfl) ?_
   refine fF ?_
   have h := Option.some.inj h
   subst h
   exact ⟨(x15, v17), rfl, bF [0, 1, 2] rfl rfl aDy⟩
  ·rintro ⟨e9, w10⟩ h18
   subst h18
   refine aG ?_
   refine aC ?_
   refine tr1 rfl (aZ (aA rfl) rfl (i := 1) rfl rfl aAw) ?_
   refine tr1 rfl (aI (v := .d (.lit w10)) (aA rfl) rfl rfl) ?_
   refine tr1 rfl (aI (v := .d (.lit (.int .i64 0))) (aA rfl) rfl rfl) ?_
   refine aF ?_
   exact bN ⟨rfl, _, [], [.box b1 0 (aR t_0), .box b4 0 [.lit w10], .arr w10 57 4 (e9.map bB)], _, .two (.tmp 4 (v := .d (.lit w10)) rfl) (.tmp 5 (v := .d (.lit (.int .i64 0))) rfl), .refl _, rU (.cons (.d (kR 2 rfl (cV (f := bB) fun _ => rfl))) (.cons (.same _) .nil)), (e9, 0), h, rfl, rfl⟩

theorem wU (t_0 : aO) (l_1 : List aE) (round_2 : Int) (place_3 : Int) {Q : ((Option aW) × aB × Int) → Prop} (h : lT t_0 l_1 round_2 place_3 Q) : eS Try.prog 44 [.agg (aR t_0), .d (.sl 5 (l_1.map aL)), .d (.lit (.int .i64 round_2)), .d (.lit (.int .i64 place_3))] [] (fun r' o' => ∃ (r : (Option aW) × aB × Int), Q r ∧ r' = .tup [cN aU r.1, .agg (aH r.2.1), .d (.lit (.int .i64 r.2.2))] ∧ o' = []) := by
 unfold lT at h
 refine fV Try.func44 rfl (rs := [.tmp 8, .cell 9 70, .tmp 10]) Try.results44 Try.ntmps44 (Nat.le_of_ble_eq_true rfl) ?_
 refine aG ?_
 refine aC ?_
 refine bU rfl (gD (v := .agg (aR t_0)) (aA rfl) rfl rfl rfl) ?_
 rintro _ ⟨b1, rfl⟩
 refine tr1 rfl (aI (v := cN aU (none : Option aW)) (aA rfl) rfl rfl) ?_
 refine bU rfl (dQ (zs := [.lit (.int .i64 0), .lit (.int .i64 0)]) (aA rfl) Try.zeroValue70 rfl rfl) ?_
 rintro _ ⟨b2, rfl⟩
 refine tr1 rfl (aI (v := .d (.lit (.int .i64 0))) (aA rfl) rfl rfl) ?_
 refine aF ?_
 refine aG ?_
 refine aC ?_
 refine tr1 rfl (bL (aA rfl) rfl (i := 0) rfl dY (es := (aR t_0)) rfl rfl) ?_
 refine tr1 rfl (aD (v := .d (.sl 5 (l_1.map aL))) (aA rfl) rfl rfl) ?_
 refine bU rfl (mS (aA rfl) (.func _ _ Try.call48) rfl rfl (mJ _ _ h)) ?_
 rintro _ ⟨_, _, ⟨r3, h, rfl, rfl⟩, rfl⟩
 refine tr1 rfl (aD (v := .tup [cN aU r3.1, .d (.lit (.int .i64 r3.2))]) (aA rfl) rfl rfl) ?_
 refine tr1 rfl (bJ (aA rfl) rfl rfl) ?_
 refine tr1 rfl (bJ (aA rfl) rfl rfl) ?_
 refine tr1 rfl (aI (v := cN aU r3.1) (aA rfl) rfl rfl) ?_
 refine tr1 rfl (aI (v := .d (.lit (.int .i64 r3.2))) (aA rfl) rfl rfl) ?_
 refine aF ?_
 refine aG ?_
 refine aC ?_
 refine tr1 rfl (aD (v := .d (.lit (.int .i64 round_2))) (aA rfl) rfl rfl) ?_
 refine tr1 rfl (aD (v := .d (.lit (.int .i64 place_3))) (aA rfl) rfl rfl) ?_
 refine tr1 rfl (eX (aA rfl) vC (zs := [.lit (.int .i64 0), .lit (.int .i64 0)]) rfl rfl rfl rfl (es := [.lit (.int .i64 round_2), .lit (.int .i64 place_3)]) rfl) ?_
 refine bU rfl (dQ (zs := [.lit (.int .i64 0), .lit (.int .i64 0)]) (aA rfl) Try.zeroValue70 rfl rfl) ?_
 rintro _ ⟨b4, rfl⟩
 refine tr1 rfl (cG (i := 2) rfl rfl rfl rfl rfl Try.sizeOf70 rfl (aA rfl) (Nat.le_of_ble_eq_true rfl) (ds' := (aH (aB.mk round_2 place_3))) rfl) ?_
 refine aF ?_
 refine aG ?_
 refine aG ?_
 refine aC ?_
 refine tr1 rfl (aD (v := .d (.lit (.int .i64 r3.2))) (aA rfl) rfl rfl) ?_
 refine tr1 rfl (bH (aA rfl) rfl rfl rfl) ?_
 refine tr1 rfl (aD (v := .d (.lit (.bool ((decide (r3.2 = 0)))))) (aA rfl) rfl rfl) ?_
 obtain ⟨b5, h6, h⟩ := dA h
 refine cC 5 [9, 11, 12, 13] 30 b5 ?_ ?_
 ·refine bI (decide (r3.2 = 0)) (fun c10 => ?_) (fun c10 => ?_)
  ·have h6 := aY c10 h6
   refine aM rfl rfl (aA rfl) rfl c10 (bL (aA rfl) rfl (i := 2) rfl iL (es := (aH (aB.mk round_2 place_3))) rfl rfl) ?_
   refine aM rfl rfl (aA rfl) rfl c10 (bL (aA rfl) rfl (i := 0) rfl dY (es := (aR t_0)) rfl rfl) ?_
   obtain ⟨r11, h12, h6⟩ := bind_some h6
   refine aM rfl rfl (aA rfl) rfl c10 (cS (aA rfl) (.func _ _ Try.call64) rfl rfl (BVs.refl _ _) (rT _ _ h12) rfl) ?_
   refine aM rfl rfl (aA rfl) rfl c10 (fQ (aA rfl) rfl) ?_
   refine tr1 rfl (bS (v := .d (.lit (.bool (!r11)))) (aA rfl) rfl c10 rfl rfl) ?_
   have h6 := Option.some.inj h6
   subst h6
   refine aF (bC rfl ⟨rfl, rfl, rfl, rfl, trivial⟩ rfl)
  ·have h6 := aX c10 h6
   refine aN rfl rfl (aA rfl) rfl (aA rfl) rfl c10 ?_
   refine aN rfl rfl (aA rfl) rfl (aA rfl) rfl c10 ?_
   refine aN rfl rfl (aA rfl) rfl (aA rfl) rfl c10 ?_
   refine aN rfl rfl (aA rfl) rfl (aA rfl) rfl c10 ?_
   refine tr1 rfl (bR (v := .d (.lit (.bool false))) (aA rfl) rfl c10 rfl rfl) ?_
   have h6 := Option.some.inj h6
   subst h6
   refine aF (bC rfl ⟨rfl, rfl, rfl, rfl, trivial⟩ rfl)
 ·refine aF ?_
  refine bQ rfl (fun c7 => ?_) (fun c7 => ?_)
  ·have h := eC c7 h
   refine aC ?_
   refine tr1 rfl (aI (v := .d (.lit (.int .i64 1))) (aA rfl) rfl rfl) ?_
   refine aF ?_
   refine aG ?_
   refine sJ mix 5 [9] (fun X8 => [(8, cN aU r3.1), (33, .d (.lit (.int .i64 1)))]) (fun X8 => [.box b1 0 (aR t_0), .box b2 0 (aH (aB.mk round_2 place_3)), .box b4 0 (aH (aB.mk round_2 place_3))]) ?_ ?_
   ·refine ⟨0, fun X8 => [(31, 0, cN aU r3.1), (32, 1, .agg (aH (aB.mk round_2 place_3))), (33, 2, .d (.lit (.int .i64 1))), (8, 3, cN aU r3.1)], fun X8 => [([], .box b1 0 (aR t_0)), ([(4, .box b2 0 (aH (aB.mk round_2 place_3)))], .box b2 0 (aH (aB.mk 0 0))), ([], .box b4 0 (aH (aB.mk round_2 place_3)))], ?_, ?_⟩
    · exact ⟨by kernel_rfl, by kernel_rfl, by kernel_rfl, fun _ => by kernel_rfl, fun _ => by kernel_rfl, fun _ => by kernel_rfl, fun _ => rfl, [([], [4]), ([], [4]), ([], []), ([0], [4]), ([1], [])], by kernel_rfl, ⟨fun X8 S hw hi hS => gC (X := X8) rfl (hw X8) rfl (aT rfl (aD (v := cN aU r3.1) (aA rfl) (aJ hS rfl) rfl)),
      fun X8 S hw hi hS => gC (X := X8) rfl (hw X8) rfl (aT rfl (bL (aA rfl) (aJ hS rfl) (i := 2) (og hS rfl rfl) iL (es := (aH (aB.mk round_2 place_3))) rfl rfl)),
      fun X8 S hw hi hS => gC (X := X8) rfl (hw X8) rfl (aT rfl (aD (v := .d (.lit (.int .i64 1))) (aA rfl) (aJ hS rfl) rfl)),
      fun X8 S hw hi hS => gC (X := X8) rfl (hw X8) rfl (aT rfl (aI (v := cN aU r3.1) (aA rfl) (aJ hS rfl) rfl)),
      fun X8 S hw hi hS => aGd (X := X8) hS rfl rfl rfl (p := 1) rfl rfl (aT rfl (cG (i := 1) (aJ hS rfl) (og hS rfl rfl) (aJ hS rfl) rfl rfl Try.sizeOf70 rfl (aA rfl) (Nat.le_of_ble_eq_true rfl) (ds' := (aH (aB.mk round_2 place_3))) rfl)), trivial⟩⟩
    · exact fun X8 => dI (aS rfl (aS rfl (bD ⟨rfl, trivial⟩)))
   ·intro X8
    refine tr1 rfl (aI (v := .d (.lit (.int .i64 1))) (aA rfl) rfl rfl) ?_
    refine aF ?_
    exact bN ⟨rfl, _, [], [.box b1 0 (aR t_0), .box b2 0 (aH (aB.mk round_2 place_3)), .box b4 0 (aH (aB.mk round_2 place_3))], _, .three (.tmp 8 (v := cN aU r3.1) rfl) (.cell 9 70 rfl (i := 1) rfl iL (es := (aH (aB.mk round_2 place_3))) rfl rfl) (.tmp 10 (v := .d (.lit (.int .i64 1))) rfl), .refl _, .same _, (r3.1, (aB.mk round_2 place_3), 1), h, rfl, rfl⟩
  ·have h := eB c7 h
   refine bO ?_
   refine aG ?_
   refine sJ mix 5 [9] (fun X9 => [(8, cN aU r3.1), (33, .d (.lit (.int .i64 r3.2)))]) (fun X9 => [.box b1 0 (aR t_0), .box b2 0 (aH (aB.mk round_2 place_3)), .box b4 0 (aH (aB.mk round_2 place_3))]) ?_ ?_
   ·refine ⟨0, fun X9 => [(31, 0, cN aU r3.1), (32, 1, .agg (aH (aB.mk round_2 place_3))), (33, 2, .d (.lit (.int .i64 r3.2))), (8, 3, cN aU r3.1)], fun X9 => [([], .box b1 0 (aR t_0)), ([(4, .box b2 0 (aH (aB.mk round_2 place_3)))], .box b2 0 (aH (aB.mk 0 0))), ([], .box b4 0 (aH (aB.mk round_2 place_3)))], ?_, ?_⟩
    · exact ⟨by kernel_rfl, by kernel_rfl, by kernel_rfl, fun _ => by kernel_rfl, fun _ => by kernel_rfl, fun _ => by kernel_rfl, fun _ => rfl, [([], [4]), ([], [4]), ([], []), ([0], [4]), ([1], [])], by kernel_rfl, ⟨fun X9 S hw hi hS => gC (X := X9) rfl (hw X9) rfl (aT rfl (aD (v := cN aU r3.1) (aA rfl) (aJ hS rfl) rfl)),
      fun X9 S hw hi hS => gC (X := X9) rfl (hw X9) rfl (aT rfl (bL (aA rfl) (aJ hS rfl) (i := 2) (og hS rfl rfl) iL (es := (aH (aB.mk round_2 place_3))) rfl rfl)),
      fun X9 S hw hi hS => gC (X := X9) rfl (hw X9) rfl (aT rfl (aD (v := .d (.lit (.int .i64 r3.2))) (aA rfl) (aJ hS rfl) rfl)),
      fun X9 S hw hi hS => gC (X := X9) rfl (hw X9) rfl (aT rfl (aI (v := cN aU r3.1) (aA rfl) (aJ hS rfl) rfl)),
      fun X9 S hw hi hS => aGd (X := X9) hS rfl rfl rfl (p := 1) rfl rfl (aT rfl (cG (i := 1) (aJ hS rfl) (og hS rfl rfl) (aJ hS rfl) rfl rfl Try.sizeOf70 rfl (aA rfl) (Nat.le_of_ble_eq_true rfl) (ds' := (aH (aB.mk round_2 place_3))) rfl)), trivial⟩⟩
    · exact fun X9 => dI (aS rfl (aS rfl (bD ⟨rfl, trivial⟩)))
   ·intro X9
    refine tr1 rfl (aI (v := .d (.lit (.int .i64 r3.2))) (aA rfl) rfl rfl) ?_
    refine aF ?_
    exact bN ⟨rfl, _, [], [.box b1 0 (aR t_0), .box b2 0 (aH (aB.mk round_2 place_3)), .box b4 0 (aH (aB.mk round_2 place_3))], _, .three (.tmp 8 (v := cN aU r3.1) rfl) (.cell 9 70 rfl (i := 1) rfl iL (es := (aH (aB.mk round_2 place_3))) rfl rfl) (.tmp 10 (v := .d (.lit (.int .i64 r3.2))) rfl), .refl _, .same _, (r3.1, (aB.mk round_2 place_3), r3.2), h, rfl, rfl⟩

theorem rS (d_0 : aW) (slot_1 : Int) {r : Int} (h : jO d_0 slot_1 = some r) : Fn Try.prog 46 [.cp (aU d_0), .d (.lit (.int .i64 slot_1))] (.d (.lit (.int .i64 r))) := by
 unfold jO at h
 refine Fn.of_tr Try.func46 rfl (rs := [.tmp 4]) Try.results46 Try.ntmps46 (Nat.le_of_ble_eq_true rfl) ?_
 refine aG ?_
 refine aC ?_
 refine tr1 rfl (aI (v := .d (.lit (.int .i64 0))) (aA rfl) rfl rfl) ?_
 refine aF ?_
 refine aG ?_
 refine aG ?_
 refine aC ?_
 refine tr1 rfl (aD (v := .cp [.lit (.int .i64 d_0.Tree.Rounds), .sl 1 (d_0.Tree.Slots.map aP), .sl 1 (d_0.players.map aP), .mp false (d_0.won.map fun p : aB × Int => ((fun a : aB => Value.agg ((aH a).map bG).toArray) p.1, aP p.2))]) (aA rfl) rfl rfl) ?_
 refine tr1 rfl (gQ (aA rfl) rfl) ?_
 refine tr1 rfl (cO (aA rfl) rfl oM (es := [.lit (.int .i64 d_0.Tree.Rounds), .sl 1 (d_0.Tree.Slots.map aP)]) rfl) ?_
 refine tr1 rfl (cO (aA rfl) rfl iJ (es := [.lit (.int .i64 d_0.Tree.Rounds)]) rfl) ?_
 refine tr1 rfl (bV (aA rfl) rfl bK) ?_
 refine tr1 rfl (aD (v := .d (.lit (.int .i64 0))) (aA rfl) rfl rfl) ?_
 refine aF ?_
 refine cH ?_
 refine dR [0, 1, 12] (fun (s1 : Int) => [(13, .d (.lit (.int .i64 s1)))]) (fun (s1 : Int) => []) (fun (k : Nat) (s1 : Int) => gJ d_0 slot_1 d_0.Tree.Rounds k s1) (fun _ => rfl) (0) h (bF [] rfl rfl (aS rfl (bD ⟨rfl, rfl, rfl, trivial⟩))) ?_
 rintro k2 t13_0_1 h
 simp only [gJ] at h
 refine aG ?_
 refine aC ?_
 refine tr1 rfl (bH (aA rfl) rfl rfl rfl) ?_
 refine aF ?_
 refine aG ?_
 refine bQ rfl (fun c3 => ?_) (fun c3 => ?_)
 ·have h := aY c3 h
  refine bO ?_
  refine aG ?_
  refine cH ?_
  refine aG ?_
  refine aC ?_
  refine tr1 rfl (aD (v := .d (.lit (.int .i64 t13_0_1))) (aA rfl) rfl rfl) ?_
  refine tr1 rfl (aI (v := .d (.lit (.int .i64 t13_0_1))) (aA rfl) rfl rfl) ?_
  refine aF ?_
  refine aG ?_
  obtain ⟨r4, h5, h⟩ := bind_some h
  refine dX mix 12 [0, 1, 5, 12, 13] [(6, .d (.lit (.int .i64 ((cF r4 0 d_0.won))))), (26, .d (.lit (.bool ((cL r4 d_0.won)))))] ?_ ?_
  ·refine ⟨[(17, 0, .cp [.lit (.int .i64 d_0.Tree.Rounds), .sl 1 (d_0.Tree.Slots.map aP), .sl 1 (d_0.players.map aP), .mp false (d_0.won.map fun p : aB × Int => ((fun a : aB => Value.agg ((aH a).map bG).toArray) p.1, aP p.2))]), (18, 1, .cp [.lit (.int .i64 d_0.Tree.Rounds), .sl 1 (d_0.Tree.Slots.map aP), .sl 1 (d_0.players.map aP), .mp false (d_0.won.map fun p : aB × Int => ((fun a : aB => Value.agg ((aH a).map bG).toArray) p.1, aP p.2))]), (19, 2, .cp [.mp false (d_0.won.map fun p : aB × Int => ((fun a : aB => Value.agg ((aH a).map bG).toArray) p.1, aP p.2))]), (20, 3, .d (.mp false (d_0.won.map fun p : aB × Int => ((fun a : aB => Value.agg ((aH a).map bG).toArray) p.1, aP p.2)))), (21, 4, .d (.lit (.int .i64 t13_0_1))), (22, 5, .d (.lit (.int .i64 slot_1))), (23, 6, .agg (aH r4)), (24, 7, .tup [.d (.lit (.int .i64 ((cF r4 0 d_0.won)))), .d (.lit (.bool ((cL r4 d_0.won))))]), (16, 8, .tup [.d (.lit (.int .i64 ((cF r4 0 d_0.won)))), .d (.lit (.bool ((cL r4 d_0.won))))]), (25, 9, .d (.lit (.int .i64 ((cF r4 0 d_0.won))))), (26, 10, .d (.lit (.bool ((cL r4 d_0.won))))), (6, 11, .d (.lit (.int .i64 ((cF r4 0 d_0.won)))))], ?_, ?_⟩
   · exact ⟨by kernel_rfl, by kernel_rfl, by kernel_rfl, by kernel_rfl, by kernel_rfl, [([], []), ([0], []), ([1], []), ([2], []), ([], []), ([], []), ([4, 5], []), ([3, 6], []), ([7], []), ([8], []), ([8], []), ([9], [])], by kernel_rfl, ⟨fun S hS => aK rfl (aT rfl (aD (v := .cp [.lit (.int .i64 d_0.Tree.Rounds), .sl 1 (d_0.Tree.Slots.map aP), .sl 1 (d_0.players.map aP), .mp false (d_0.won.map fun p : aB × Int => ((fun a : aB => Value.agg ((aH a).map bG).toArray) p.1, aP p.2))]) (aA rfl) (aJ hS rfl) rfl)),
      fun S hS => aK rfl (aT rfl (gQ (aA rfl) (aJ hS rfl))),
      fun S hS => aK rfl (aT rfl (cO (aA rfl) (aJ hS rfl) oN (es := [.mp false (d_0.won.map fun p : aB × Int => ((fun a : aB => Value.agg ((aH a).map bG).toArray) p.1, aP p.2))]) rfl)),
      fun S hS => aK rfl (aT rfl (bV (aA rfl) (aJ hS rfl) sC)),
      fun S hS => aK rfl (aT rfl (aD (v := .d (.lit (.int .i64 t13_0_1))) (aA rfl) (aJ hS rfl) rfl)),
      fun S hS => aK rfl (aT rfl (aD (v := .d (.lit (.int .i64 slot_1))) (aA rfl) (aJ hS rfl) rfl)),
      fun S hS => aK rfl (aT rfl (iF (aA rfl) (.func _ _ Try.call45) (ev2 (aJ hS rfl) (ev2 (aJ hS rfl) evn)) rfl (lD _ _ h5))),
      fun S hS => aK rfl (aT rfl (nO (enc := aP) (agg := false) (l := d_0.won) (z := 0) (a := r4) (aA rfl) qH Try.underlying73 Try.zeroValue3 (fun _ _ => .d (.lit _ rfl)) (aJ hS rfl) rfl rfl (aJ hS rfl) (jI (enc := aH) r4 rfl))),
      fun S hS => aK rfl (aT rfl (aD (v := .tup [.d (.lit (.int .i64 ((cF r4 0 d_0.won)))), .d (.lit (.bool ((cL r4 d_0.won))))]) (aA rfl) (aJ hS rfl) rfl)),
      fun S hS => aK rfl (aT rfl (bJ (aA rfl) (aJ hS rfl) rfl)),
      fun S hS => aK rfl (aT rfl (bJ (aA rfl) (aJ hS rfl) rfl)),
      fun S hS => aK rfl (aT rfl (aI (v := .d (.lit (.int .i64 ((cF r4 0 d_0.won))))) (aA rfl) (aJ hS rfl) rfl)), trivial⟩⟩
   · exact dI (aS rfl (aS rfl (bD ⟨rfl, rfl, rfl, rfl, rfl, trivial⟩)))
  ·refine tr1 rfl (aI (v := .d (.lit (.bool ((cL r4 d_0.won))))) (aA rfl) rfl rfl) ?_
   refine aF ?_
   refine aG ?_
   refine aC ?_
   refine tr1 rfl (aD (v := .d (.lit (.bool ((cL r4 d_0.won))))) (aA rfl) rfl rfl) ?_
   refine tr1 rfl (aD (v := .d (.lit (.bool ((cL r4 d_0.won))))) (aA rfl) rfl rfl) ?_
   obtain ⟨b6, h7, h⟩ := bind_some h
   refine cC 10 [0, 1, 5, 12, 13] 38 b6 ?_ ?_
   ·refine bI (cL r4 d_0.won) (fun c9 => ?_) (fun c9 => ?_)
    ·have h7 := aY c9 h7
     refine aM rfl rfl (aA rfl) rfl c9 (aD (v := .d (.lit (.int .i64 ((cF r4 0 d_0.won))))) (aA rfl) rfl rfl) ?_
     refine aM rfl rfl (aA rfl) rfl c9 (aD (v := .cp [.lit (.int .i64 d_0.Tree.Rounds), .sl 1 (d_0.Tree.Slots.map aP), .sl 1 (d_0.players.map aP), .mp false (d_0.won.map fun p : aB × Int => ((fun a : aB => Value.agg ((aH a).map bG).toArray) p.1, aP p.2))]) (aA rfl) rfl rfl) ?_
     refine aM rfl rfl (aA rfl) rfl c9 (gQ (aA rfl) rfl) ?_
     refine aM rfl rfl (aA rfl) rfl c9 (cO (aA rfl) rfl kO (es := [.sl 1 (d_0.players.map aP)]) rfl) ?_
     refine aM rfl rfl (aA rfl) rfl c9 (bV (aA rfl) rfl dH) ?_
     refine aM rfl rfl (aA rfl) rfl c9 (aD (v := .d (.lit (.int .i64 slot_1))) (aA rfl) rfl rfl) ?_
     obtain ⟨x10, h11, h7⟩ := bind_some h7
     refine aM rfl rfl (aA rfl) rfl c9 (bT (aA rfl) rfl rfl cB.of (cE aP h11)) ?_
     refine aM rfl rfl (aA rfl) rfl c9 (bV (aA rfl) rfl bK) ?_
     refine aM rfl rfl (aA rfl) rfl c9 (bH (aA rfl) rfl rfl rfl) ?_
     refine tr1 rfl (bS (v := .d (.lit (.bool ((!decide ((cF r4 0 d_0.won) = x10)))))) (aA rfl) rfl c9 rfl rfl) ?_
     have h7 := Option.some.inj h7
     subst h7
     refine aF (bC rfl ⟨rfl, rfl, rfl, rfl, rfl, trivial⟩ rfl)
    ·have h7 := aX c9 h7
     refine aN rfl rfl (aA rfl) rfl (aA rfl) rfl c9 ?_
     refine aN rfl rfl (aA rfl) rfl (aA rfl) rfl c9 ?_
     refine aN rfl rfl (aA rfl) rfl (aA rfl) rfl c9 ?_
     refine aN rfl rfl (aA rfl) rfl (aA rfl) rfl c9 ?_
     refine aN rfl rfl (aA rfl) rfl (aA rfl) rfl c9 ?_
     refine aN rfl rfl (aA rfl) rfl (aA rfl) rfl c9 ?_
     refine aN rfl rfl (aA rfl) rfl (aA rfl) rfl c9 ?_
     refine aN rfl rfl (aA rfl) rfl (aA rfl) rfl c9 ?_
     refine aN rfl rfl (aA rfl) rfl (aA rfl) rfl c9 ?_
     refine tr1 rfl (bR (v := .d (.lit (.bool false))) (aA rfl) rfl c9 rfl rfl) ?_
     have h7 := Option.some.inj h7
     subst h7
     refine aF (bC rfl ⟨rfl, rfl, rfl, rfl, rfl, trivial⟩ rfl)
   ·refine aF ?_
    refine bQ rfl (fun c8 => ?_) (fun c8 => ?_)
    ·have h := aY c8 h
     refine aG ?_
     refine aC ?_
     refine tr1 rfl (aD (v := .d (.lit (.int .i64 t13_0_1))) (aA rfl) rfl rfl) ?_
     refine tr1 rfl (aI (v := .d (.lit (.int .i64 t13_0_1))) (aA rfl) rfl rfl) ?_
     refine aF ?_
     have h := Option.some.inj h
     subst h
     exact bN ⟨rfl, _, .one _, rfl, rfl⟩
    ·have h := aX c8 h
     refine eG ?_
     refine aC ?_
     refine tr1 rfl (bM (aA rfl) rfl rfl rfl) ?_
     refine tr1 rfl (aD (v := .d (.lit (.int .i64 ((w64 (t13_0_1 + 1)))))) (aA rfl) rfl rfl) ?_
     refine aF ?_
     exact ⟨(w64 (t13_0_1 + 1)), h, bF [] rfl rfl (aS rfl (bD ⟨rfl, rfl, rfl, trivial⟩))⟩
 ·have h := aX c3 h
  refine dF ?_
  refine .inl ⟨rfl, ?_⟩
  simp only [nQ] at h
  refine aG ?_
  refine aC ?_
  refine tr1 rfl (aD (v := .cp [.lit (.int .i64 d_0.Tree.Rounds), .sl 1 (d_0.Tree.Slots.map aP), .sl 1 (d_0.players.map aP), .mp false (d_0.won.map fun p : aB × Int => ((fun a : aB => Value.agg ((aH a).map bG).toArray) p.1, aP p.2))]) (aA rfl) rfl rfl) ?_
  refine tr1 rfl (gQ (aA rfl) rfl) ?_
  refine tr1 rfl (cO (aA rfl) rfl oM (es := [.lit (.int .i64 d_0.Tree.Rounds), .sl 1 (d_0.Tree.Slots.map aP)]) rfl) ?_
  refine tr1 rfl (cO (aA rfl) rfl iJ (es := [.lit (.int .i64 d_0.Tree.Rounds)]) rfl) ?_
  refine tr1 rfl (bV (aA rfl) rfl bK) ?_
  refine tr1 rfl (aI (v := .d (.lit (.int .i64 d_0.Tree.Rounds))) (aA rfl) rfl rfl) ?_
  refine aF ?_
  have h := Option.some.inj h
  subst h
  exact bN ⟨rfl, _, .one _, rfl, rfl⟩

theorem yP (x : List Int) {r : List Int} {x_v : Value} {e : TypeId} (h : slices_Sort_int x = some r) : eS Try.prog 47 [.d (.lit x_v)] [.arr x_v e 1 (x.map aP)] (fun r' o' => r' = .tup [] ∧ o' = [.arr x_v e 1 (r.map aP)]) := by
 unfold slices_Sort_int at h
 split at h
 ·cases h
  exact aHk (fun blk off cap zs w => Try.slices_Sort_int blk off cap zs w) (fun q cap w => Try.slices_Sort_int_none q cap w) (by assumption)
 ·cases h

theorem aCr (t_0 : aO) (l_1 : List aE) (round_2 : Int) (place_3 : Int) {Q : ((List Int) × Int) → Prop} (h : pB t_0 l_1 round_2 place_3 Q) : eS Try.prog 15 [.agg (aR t_0), .d (.sl 5 (l_1.map aL)), .d (.lit (.int .i64 round_2)), .d (.lit (.int .i64 place_3))] [] (fun r' o' => ∃ (r : (List Int) × Int), Q r ∧ r' = .tup [.d (.sl 1 (r.1.map aP)), .d (.lit (.int .i64 r.2))] ∧ o' = []) := by
 unfold pB at h
 refine fV Try.func15 rfl (rs := [.tmp 8, .tmp 9]) Try.results15 Try.ntmps15 (Nat.le_of_ble_eq_true rfl) ?_
 refine aG ?_
 refine aC ?_
 refine bU rfl (gD (v := .agg (aR t_0)) (aA rfl) rfl rfl rfl) ?_
 rintro _ ⟨b1, rfl⟩
 refine tr1 rfl (oW 1 (aA rfl)) ?_
 refine tr1 rfl (aI (v := .d (.lit (.int .i64 0))) (aA rfl) rfl rfl) ?_
 refine aF ?_
 refine aG ?_
 refine aC ?_
 refine tr1 rfl (bL (aA rfl) rfl (i := 0) rfl dY (es := (aR t_0)) rfl rfl) ?_
 refine tr1 rfl (aD (v := .d (.sl 5 (l_1.map aL))) (aA rfl) rfl rfl) ?_
 refine tr1 rfl (aD (v := .d (.lit (.int .i64 round_2))) (aA rfl) rfl rfl) ?_
 refine tr1 rfl (aD (v := .d (.lit (.int .i64 place_3))) (aA rfl) rfl rfl) ?_
 refine bU rfl (mS (aA rfl) (.func _ _ Try.call44) rfl rfl (wU _ _ _ _ h)) ?_
 rintro _ ⟨_, _, ⟨r2, h, rfl, rfl⟩, rfl⟩
 refine tr1 rfl (aD (v := .tup [cN aU r2.1, .agg (aH r2.2.1), .d (.lit (.int .i64 r2.2.2))]) (aA rfl) rfl rfl) ?_
 refine tr1 rfl (bJ (aA rfl) rfl rfl) ?_
 refine tr1 rfl (bJ (aA rfl) rfl rfl) ?_
 refine tr1 rfl (bJ (aA rfl) rfl rfl) ?_
 refine bU rfl (dQ (zs := [.lit (.int .i64 0), .lit (.int .i64 0)]) (aA rfl) Try.zeroValue70 rfl rfl) ?_
 rintro _ ⟨b3, rfl⟩
 refine tr1 rfl (aI (v := cN aU r2.1) (aA rfl) rfl rfl) ?_
 refine tr1 rfl (cG (i := 1) rfl rfl rfl rfl rfl Try.sizeOf70 rfl (aA rfl) (Nat.le_of_ble_eq_true rfl) (ds' := (aH r2.2.1)) rfl) ?_
 refine tr1 rfl (aI (v := .d (.lit (.int .i64 r2.2.2))) (aA rfl) rfl rfl) ?_
 refine aF ?_
 refine aG ?_
 refine aG ?_
 refine aC ?_
 refine tr1 rfl (aD (v := .d (.lit (.int .i64 r2.2.2))) (aA rfl) rfl rfl) ?_
 refine tr1 rfl (bH (aA rfl) rfl rfl rfl) ?_
 refine aF ?_
 refine bQ rfl (fun c4 => ?_) (fun c4 => ?_)
 ·have h := eC c4 h
  refine aG ?_
  refine aC ?_
  refine tr1 rfl (aD (v := .d (.lit (.int .i64 r2.2.2))) (aA rfl) rfl rfl) ?_
  refine tr1 rfl (oW 1 (aA rfl)) ?_
  refine tr1 rfl (aI (v := .d (.lit (.int .i64 r2.2.2))) (aA rfl) rfl rfl) ?_
  refine aF ?_
  exact bN ⟨rfl, _, [], [.box b1 0 (aR t_0), .box b3 0 (aH r2.2.1)], _, .two (.tmp 8 (v := .d (.sl 1 ((([] : List Int)).map aP))) rfl) (.tmp 9 (v := .d (.lit (.int .i64 r2.2.2))) rfl), .refl _, .same _, (([] : List Int), r2.2.2), h, rfl, rfl⟩
 ·have h := eB c4 h
  refine bO ?_
  refine aG ?_
  refine aC ?_
  refine tr1 rfl (iB 3 1 (.inl rfl) (aA rfl)) ?_
  refine aF ?_
  refine aG ?_
  refine aG ?_
  refine aC ?_
  refine tr1 rfl (aD (v := cN aU r2.1) (aA rfl) rfl rfl) ?_
  obtain ⟨x6, h7, h⟩ := dA h
  refine tr1 rfl (pF (enc := aU) (aA rfl) rfl h7) ?_
  refine tr1 rfl (cO (aA rfl) rfl kO (es := [.sl 1 (x6.players.map aP)]) rfl) ?_
  refine tr1 rfl (bV (aA rfl) rfl dH) ?_
  refine tr1 rfl (dL (aA rfl) rfl cB.of) ?_
  refine tr1 rfl (aD (v := .d (.lit (.int .i64 0))) (aA rfl) rfl rfl) ?_
  refine aF ?_
  refine cH ?_
  refine oR [2, 10, 11, 31, 32] (fun (s8 : Int × (List Int) × Value) => [(13, .d (.lit s8.2.2)), (33, .d (.lit (.int .i64 s8.1)))]) (fun (s8 : Int × (List Int) × Value) => [.box b3 0 (aH r2.2.1), .arr s8.2.2 3 1 (s8.2.1.map aP)]) (fun (k : Nat) (s8 : Int × (List Int) × Value) => gZ Q round_2 r2.1 x6.players (x6.players.length : Int) r2.2.1 k s8.1 s8.2.1) (fun _ h => h) (0, ([] : List Int), (.slice none 0 0)) h (bF [1, 2] rfl rfl (aS rfl (aS rfl (bD ⟨rfl, rfl, rfl, rfl, rfl, trivial⟩)))) ?_
  rintro k10 ⟨t33_0_8, out_0_8, w9⟩ h
  simp only [gZ] at h
  refine aG ?_
  refine aC ?_
  refine tr1 rfl (bH (aA rfl) rfl rfl rfl) ?_
  refine aF ?_
  refine aG ?_
  refine bQ rfl (fun c11 => ?_) (fun c11 => ?_)
  ·have h := eC c11 h
   refine bO ?_
   refine aG ?_
   refine cH ?_
   refine aG ?_
   refine aC ?_
   refine tr1 rfl (aD (v := .d (.lit (.int .i64 t33_0_8))) (aA rfl) rfl rfl) ?_
   obtain ⟨x12, h13, h⟩ := dA h
   refine tr1 rfl (bT (aA rfl) rfl rfl cB.of (cE aP h13)) ?_
   refine tr1 rfl (bV (aA rfl) rfl bK) ?_
   refine tr1 rfl (aI (v := .d (.lit (.int .i64 t33_0_8))) (aA rfl) rfl rfl) ?_
   refine tr1 rfl (aI (v := .d (.lit (.int .i64 x12))) (aA rfl) rfl rfl) ?_
   refine aF ?_
   refine aG ?_
   obtain ⟨x14, h15, h⟩ := dA h
   refine cP (yC (enc := aU) (k := 10) rfl h15) ?_
   obtain ⟨b16, h17, h⟩ := dA h
   obtain ⟨b21, h22, h⟩ := dA h
   refine dX mix 16 [2, 10, 11, 13, 15, 31, 32, 33] [(53, .d (.lit (.bool b21)))] ?_ ?_
   ·refine bI (!decide (x12 = (-1))) (fun c18 => ?_) (fun c18 => ?_)
    ·have h17 := aY c18 h17
     obtain ⟨r19, h20, h17⟩ := bind_some h17
     have h17 := Option.some.inj h17
     subst h17
     refine bI (decide (r19 = r2.2.1)) (fun c23 => ?_) (fun c23 => ?_)
     ·have h22 := aY c23 h22
      obtain ⟨r24, h25, h22⟩ := bind_some h22
      have h22 := Option.some.inj h22
      subst h22
      refine ⟨[(38, 0, .d (.lit (.int .i64 x12))), (39, 1, .d (.lit (.bool ((!decide (x12 = (-1))))))), (40, 2, .d (.lit (.bool ((!decide (x12 = (-1))))))), (41, 3, .d (.lit (.int .i64 round_2))), (42, 4, .d (.lit (.int .i64 t33_0_8))), (43, 5, .agg (aH r19)), (44, 6, .agg (aH r2.2.1)), (45, 7, .d (.lit (.bool ((decide (r19 = r2.2.1)))))), (46, 8, .d (.lit (.bool ((decide (r19 = r2.2.1)))))), (47, 9, .d (.lit (.bool (decide (r19 = r2.2.1))))), (48, 10, .cp [.lit (.int .i64 x14.Tree.Rounds), .sl 1 (x14.Tree.Slots.map aP), .sl 1 (x14.players.map aP), .mp false (x14.won.map fun p : aB × Int => ((fun a : aB => Value.agg ((aH a).map bG).toArray) p.1, aP p.2))]), (49, 11, .d (.lit (.int .i64 t33_0_8))), (50, 12, .d (.lit (.int .i64 r24))), (51, 13, .d (.lit (.int .i64 round_2))), (52, 14, .d (.lit (.bool ((decide (round_2 < r24)))))), (53, 15, .d (.lit (.bool ((decide (round_2 < r24))))))], ?_, ?_⟩
      · exact ⟨by kernel_rfl, by kernel_rfl, by kernel_rfl, by kernel_rfl, by kernel_rfl, [([], []), ([0], []), ([1], []), ([2], []), ([2], []), ([2, 3, 4], []), ([2], []), ([2, 5, 6], []), ([2, 7], []), ([8], []), ([9], []), ([9], []), ([9, 10, 11], []), ([9], []), ([9, 12, 13], []), ([9, 14], [])], by kernel_rfl, ⟨fun S hS => aK rfl (aT rfl (aD (v := .d (.lit (.int .i64 x12))) (aA rfl) (aJ hS rfl) rfl)),
      fun S hS => aK rfl (aT rfl (bH (aA rfl) (aJ hS rfl) rfl rfl)),
      fun S hS => aK rfl (aT rfl (aD (v := .d (.lit (.bool ((!decide (x12 = (-1))))))) (aA rfl) (aJ hS rfl) rfl)),
      fun S hS => aK rfl (bY rfl rfl (aA rfl) (bE hS rfl) c18 (aD (v := .d (.lit (.int .i64 round_2))) (aA rfl) (aJ hS rfl) rfl)),
      fun S hS => aK rfl (bY rfl rfl (aA rfl) (bE hS rfl) c18 (aD (v := .d (.lit (.int .i64 t33_0_8))) (aA rfl) (aJ hS rfl) rfl)),
      fun S hS => aK rfl (bY rfl rfl (aA rfl) (bE hS rfl) c18 (iF (aA rfl) (.func _ _ Try.call45) (ev2 (aJ hS rfl) (ev2 (aJ hS rfl) evn)) rfl (lD _ _ h20))),
      fun S hS => aK rfl (bY rfl rfl (aA rfl) (bE hS rfl) c18 (bL (aA rfl) (aJ hS rfl) (i := 0) rfl iL (es := (aH r2.2.1)) rfl rfl)),
      fun S hS => aK rfl (bY rfl rfl (aA rfl) (bE hS rfl) c18 (yF (a := r19) (b := r2.2.1) (aA rfl) (aJ hS rfl) (aJ hS rfl) rfl rfl Try.eqGuardType70 wZ)),
      fun S hS => aK rfl (aT rfl (bS (v := .d (.lit (.bool ((decide (r19 = r2.2.1)))))) (aA rfl) (aJ hS rfl) c18 (aJ hS rfl) rfl)),
      fun S hS => aK rfl (aT rfl (aD (v := .d (.lit (.bool (decide (r19 = r2.2.1))))) (aA rfl) (aJ hS rfl) rfl)),
      fun S hS => aK rfl (bY rfl rfl (aA rfl) (bE hS rfl) c23 (aD (v := .cp [.lit (.int .i64 x14.Tree.Rounds), .sl 1 (x14.Tree.Slots.map aP), .sl 1 (x14.players.map aP), .mp false (x14.won.map fun p : aB × Int => ((fun a : aB => Value.agg ((aH a).map bG).toArray) p.1, aP p.2))]) (aA rfl) (aJ hS rfl) rfl)),
      fun S hS => aK rfl (bY rfl rfl (aA rfl) (bE hS rfl) c23 (aD (v := .d (.lit (.int .i64 t33_0_8))) (aA rfl) (aJ hS rfl) rfl)),
      fun S hS => aK rfl (bY rfl rfl (aA rfl) (bE hS rfl) c23 (cS (aA rfl) (.func _ _ Try.call46) (ev2 (aJ hS rfl) (ev2 (aJ hS rfl) evn)) rfl (BVs.refl _ _) (rS _ _ h25) rfl)),
      fun S hS => aK rfl (bY rfl rfl (aA rfl) (bE hS rfl) c23 (aD (v := .d (.lit (.int .i64 round_2))) (aA rfl) (aJ hS rfl) rfl)),
      fun S hS => aK rfl (bY rfl rfl (aA rfl) (bE hS rfl) c23 (bH (aA rfl) (aJ hS rfl) (aJ hS rfl) rfl)),
      fun S hS => aK rfl (aT rfl (bS (v := .d (.lit (.bool ((decide (round_2 < r24)))))) (aA rfl) (aJ hS rfl) c23 (aJ hS rfl) rfl)), trivial⟩⟩
      · exact dI (aS rfl (bD ⟨rfl, rfl, rfl, rfl, rfl, rfl, rfl, rfl, trivial⟩))
     ·have h22 := aX c23 h22
      have h22 := Option.some.inj h22
      subst h22
      refine ⟨[(38, 0, .d (.lit (.int .i64 x12))), (39, 1, .d (.lit (.bool ((!decide (x12 = (-1))))))), (40, 2, .d (.lit (.bool ((!decide (x12 = (-1))))))), (41, 3, .d (.lit (.int .i64 round_2))), (42, 4, .d (.lit (.int .i64 t33_0_8))), (43, 5, .agg (aH r19)), (44, 6, .agg (aH r2.2.1)), (45, 7, .d (.lit (.bool ((decide (r19 = r2.2.1)))))), (46, 8, .d (.lit (.bool ((decide (r19 = r2.2.1)))))), (47, 9, .d (.lit (.bool (decide (r19 = r2.2.1))))), (48, 10, .tup []), (49, 11, .tup []), (50, 12, .tup []), (51, 13, .tup []), (52, 14, .tup []), (53, 15, .d (.lit (.bool false)))], ?_, ?_⟩
      · exact ⟨by kernel_rfl, by kernel_rfl, by kernel_rfl, by kernel_rfl, by kernel_rfl, [([], []), ([0], []), ([1], []), ([2], []), ([2], []), ([2, 3, 4], []), ([2], []), ([2, 5, 6], []), ([2, 7], []), ([8], []), ([9], []), ([9], []), ([9, 10, 11], []), ([9], []), ([9, 12, 13], []), ([9, 14], [])], by kernel_rfl, ⟨fun S hS => aK rfl (aT rfl (aD (v := .d (.lit (.int .i64 x12))) (aA rfl) (aJ hS rfl) rfl)),
      fun S hS => aK rfl (aT rfl (bH (aA rfl) (aJ hS rfl) rfl rfl)),
      fun S hS => aK rfl (aT rfl (aD (v := .d (.lit (.bool ((!decide (x12 = (-1))))))) (aA rfl) (aJ hS rfl) rfl)),
      fun S hS => aK rfl (bY rfl rfl (aA rfl) (bE hS rfl) c18 (aD (v := .d (.lit (.int .i64 round_2))) (aA rfl) (aJ hS rfl) rfl)),
      fun S hS => aK rfl (bY rfl rfl (aA rfl) (bE hS rfl) c18 (aD (v := .d (.lit (.int .i64 t33_0_8))) (aA rfl) (aJ hS rfl) rfl)),
      fun S hS => aK rfl (bY rfl rfl (aA rfl) (bE hS rfl) c18 (iF (aA rfl) (.func _ _ Try.call45) (ev2 (aJ hS rfl) (ev2 (aJ hS rfl) evn)) rfl (lD _ _ h20))),
      fun S hS => aK rfl (bY rfl rfl (aA rfl) (bE hS rfl) c18 (bL (aA rfl) (aJ hS rfl) (i := 0) rfl iL (es := (aH r2.2.1)) rfl rfl)),
      fun S hS => aK rfl (bY rfl rfl (aA rfl) (bE hS rfl) c18 (yF (a := r19) (b := r2.2.1) (aA rfl) (aJ hS rfl) (aJ hS rfl) rfl rfl Try.eqGuardType70 wZ)),
      fun S hS => aK rfl (aT rfl (bS (v := .d (.lit (.bool ((decide (r19 = r2.2.1)))))) (aA rfl) (aJ hS rfl) c18 (aJ hS rfl) rfl)),
      fun S hS => aK rfl (aT rfl (aD (v := .d (.lit (.bool (decide (r19 = r2.2.1))))) (aA rfl) (aJ hS rfl) rfl)),
      fun S hS => aK rfl (bX rfl rfl (aA rfl) rfl (aA rfl) (bE hS rfl) c23),
      fun S hS => aK rfl (bX rfl rfl (aA rfl) rfl (aA rfl) (bE hS rfl) c23),
      fun S hS => aK rfl (bX rfl rfl (aA rfl) rfl (aA rfl) (bE hS rfl) c23),
      fun S hS => aK rfl (bX rfl rfl (aA rfl) rfl (aA rfl) (bE hS rfl) c23),
      fun S hS => aK rfl (bX rfl rfl (aA rfl) rfl (aA rfl) (bE hS rfl) c23),
      fun S hS => aK rfl (aT rfl (bR (v := .d (.lit (.bool false))) (aA rfl) (aJ hS rfl) c23 rfl rfl)), trivial⟩⟩
      · exact dI (aS rfl (bD ⟨rfl, rfl, rfl, rfl, rfl, rfl, rfl, rfl, trivial⟩))
    ·have h17 := aX c18 h17
     have h17 := Option.some.inj h17
     subst h17
     have c23 : false = false := rfl
     have h22 := aX c23 h22
     have h22 := Option.some.inj h22
     subst h22
     refine ⟨[(38, 0, .d (.lit (.int .i64 x12))), (39, 1, .d (.lit (.bool ((!decide (x12 = (-1))))))), (40, 2, .d (.lit (.bool ((!decide (x12 = (-1))))))), (41, 3, .tup []), (42, 4, .tup []), (43, 5, .tup []), (44, 6, .tup []), (45, 7, .tup []), (46, 8, .d (.lit (.bool false))), (47, 9, .d (.lit (.bool (false)))), (48, 10, .tup []), (49, 11, .tup []), (50, 12, .tup []), (51, 13, .tup []), (52, 14, .tup []), (53, 15, .d (.lit (.bool false)))], ?_, ?_⟩
     · exact ⟨by kernel_rfl, by kernel_rfl, by kernel_rfl, by kernel_rfl, by kernel_rfl, [([], []), ([0], []), ([1], []), ([2], []), ([2], []), ([2, 3, 4], []), ([2], []), ([2, 5, 6], []), ([2, 7], []), ([8], []), ([9], []), ([9], []), ([9, 10, 11], []), ([9], []), ([9, 12, 13], []), ([9, 14], [])], by kernel_rfl, ⟨fun S hS => aK rfl (aT rfl (aD (v := .d (.lit (.int .i64 x12))) (aA rfl) (aJ hS rfl) rfl)),
      fun S hS => aK rfl (aT rfl (bH (aA rfl) (aJ hS rfl) rfl rfl)),
      fun S hS => aK rfl (aT rfl (aD (v := .d (.lit (.bool ((!decide (x12 = (-1))))))) (aA rfl) (aJ hS rfl) rfl)),
      fun S hS => aK rfl (bX rfl rfl (aA rfl) rfl (aA rfl) (bE hS rfl) c18),
      fun S hS => aK rfl (bX rfl rfl (aA rfl) rfl (aA rfl) (bE hS rfl) c18),
      fun S hS => aK rfl (bX rfl rfl (aA rfl) rfl (aA rfl) (bE hS rfl) c18),
      fun S hS => aK rfl (bX rfl rfl (aA rfl) rfl (aA rfl) (bE hS rfl) c18),
      fun S hS => aK rfl (bX rfl rfl (aA rfl) rfl (aA rfl) (bE hS rfl) c18),
      fun S hS => aK rfl (aT rfl (bR (v := .d (.lit (.bool false))) (aA rfl) (aJ hS rfl) c18 rfl rfl)),
      fun S hS => aK rfl (aT rfl (aD (v := .d (.lit (.bool (false)))) (aA rfl) (aJ hS rfl) rfl)),
      fun S hS => aK rfl (bX rfl rfl (aA rfl) rfl (aA rfl) (bE hS rfl) c23),
      fun S hS => aK rfl (bX rfl rfl (aA rfl) rfl (aA rfl) (bE hS rfl) c23),
      fun S hS => aK rfl (bX rfl rfl (aA rfl) rfl (aA rfl) (bE hS rfl) c23),
      fun S hS => aK rfl (bX rfl rfl (aA rfl) rfl (aA rfl) (bE hS rfl) c23),
      fun S hS => aK rfl (bX rfl rfl (aA rfl) rfl (aA rfl) (bE hS rfl) c23),
      fun S hS => aK rfl (aT rfl (bR (v := .d (.lit (.bool false))) (aA rfl) (aJ hS rfl) c23 rfl rfl)), trivial⟩⟩
     · exact dI (aS rfl (bD ⟨rfl, rfl, rfl, rfl, rfl, rfl, rfl, rfl, trivial⟩))
   ·refine aF ?_
    refine cP (aIc (enc := aU) (k := 10) rfl h15) ?_
    refine bQ rfl (fun c26 => ?_) (fun c26 => ?_)
    ·have h := eC c26 h
     refine aC ?_
     refine tr1 rfl (aD (v := .d (.lit w9)) (aA rfl) rfl rfl) ?_
     refine tr1 rfl (aD (v := .d (.lit (.int .i64 x12))) (aA rfl) rfl rfl) ?_
     refine tr1 rfl (eW (aA rfl) cB rfl rfl (rows := ([x12]).map aP) rfl (cV (f := aP) fun _ => rfl) rfl (by decide)) ?_
     obtain ⟨x27, h28, h⟩ := dA h
     refine bU rfl (eI (i := 1) (aA rfl) cB rfl rfl rfl (fun _ => rfl) h28 rfl) ?_
     rintro _ ⟨v29, rfl⟩
     refine tr1 rfl (aI (v := .d (.lit v29)) (aA rfl) rfl rfl) ?_
     refine fF ?_
     refine aC ?_
     refine tr1 rfl (bM (aA rfl) rfl rfl rfl) ?_
     refine tr1 rfl (aD (v := .d (.lit (.int .i64 ((w64 (t33_0_8 + 1)))))) (aA rfl) rfl rfl) ?_
     refine aF ?_
     exact ⟨(w64 (t33_0_8 + 1), x27, v29), h, bF [0, 1] rfl rfl (aS rfl (aS rfl (bD ⟨rfl, rfl, rfl, rfl, rfl, trivial⟩)))⟩
    ·have h := eB c26 h
     refine eG ?_
     refine aC ?_
     refine tr1 rfl (bM (aA rfl) rfl rfl rfl) ?_
     refine tr1 rfl (aD (v := .d (.lit (.int .i64 ((w64 (t33_0_8 + 1)))))) (aA rfl) rfl rfl) ?_
     refine aF ?_
     exact ⟨(w64 (t33_0_8 + 1), out_0_8, w9), h, bF [0, 1] rfl rfl (aS rfl (aS rfl (bD ⟨rfl, rfl, rfl, rfl, rfl, trivial⟩)))⟩
  ·have h := eB c11 h
   refine dF ?_
   refine .inl ⟨rfl, ?_⟩
   simp only [qZ] at h
   refine aG ?_
   refine aC ?_
   refine tr1 rfl (aD (v := .d (.lit w9)) (aA rfl) rfl rfl) ?_
   obtain ⟨r30, h31, h⟩ := dA h
   refine jG (bF [1, 0] rfl rfl (le_refl _)) ?_
   refine bU rfl (tD (passed := [.arr w9 3 1 (out_0_8.map aP)]) (aA rfl) rfl (.func _ _ Try.call47) rfl rfl (yP out_0_8 h31)) ?_
   rintro _ ⟨_, _, ⟨rfl, rfl⟩, rfl⟩
   refine aF ?_
   refine aG ?_
   refine aC ?_
   refine tr1 rfl (aD (v := .d (.lit w9)) (aA rfl) rfl rfl) ?_
   refine tr1 rfl (aI (v := .d (.lit w9)) (aA rfl) rfl rfl) ?_
   refine tr1 rfl (aI (v := .d (.lit (.int .i64 0))) (aA rfl) rfl rfl) ?_
   refine aF ?_
   exact bN ⟨rfl, _, [], [.arr w9 3 1 (r30.map aP), .box b3 0 (aH r2.2.1)], _, .two (.tmp 8 (v := .d (.lit w9)) rfl) (.tmp 9 (v := .d (.lit (.int .i64 0))) rfl), .refl _, rU (.cons (.d (kR 0 rfl (cV (f := aP) fun _ => rfl))) (.cons (.same _) .nil)), (r30, 0), h, rfl, rfl⟩

theorem aBl (t_0 : aO) (l_1 : List aE) {Q : (Int × Int) → Prop} (h : oD t_0 l_1 Q) : eS Try.prog 34 [.agg (aR t_0), .d (.sl 5 (l_1.map aL))] [] (fun r' o' => ∃ (r : Int × Int), Q r ∧ r' = .tup [.d (.lit (.int .i64 r.1)), .d (.lit (.int .i64 r.2))] ∧ o' = []) := by
 unfold oD at h
 refine fV Try.func34 rfl (rs := [.tmp 4, .tmp 5]) Try.results34 Try.ntmps34 (Nat.le_of_ble_eq_true rfl) ?_
 refine aG ?_
 refine aC ?_
 refine bU rfl (gD (v := .agg (aR t_0)) (aA rfl) rfl rfl rfl) ?_
 rintro _ ⟨b1, rfl⟩
 refine tr1 rfl (aI (v := .d (.lit (.int .i64 0))) (aA rfl) rfl rfl) ?_
 refine tr1 rfl (aI (v := .d (.lit (.int .i64 0))) (aA rfl) rfl rfl) ?_
 refine aF ?_
 refine aG ?_
 refine aC ?_
 refine tr1 rfl (bL (aA rfl) rfl (i := 0) rfl dY (es := (aR t_0)) rfl rfl) ?_
 refine tr1 rfl (aD (v := .d (.sl 5 (l_1.map aL))) (aA rfl) rfl rfl) ?_
 refine bU rfl (mS (aA rfl) (.func _ _ Try.call48) rfl rfl (mJ _ _ h)) ?_
 rintro _ ⟨_, _, ⟨r2, h, rfl, rfl⟩, rfl⟩
 refine tr1 rfl (aD (v := .tup [cN aU r2.1, .d (.lit (.int .i64 r2.2))]) (aA rfl) rfl rfl) ?_
 refine tr1 rfl (bJ (aA rfl) rfl rfl) ?_
 refine tr1 rfl (bJ (aA rfl) rfl rfl) ?_
 refine tr1 rfl (aI (v := cN aU r2.1) (aA rfl) rfl rfl) ?_
 refine tr1 rfl (aI (v := .d (.lit (.int .i64 r2.2))) (aA rfl) rfl rfl) ?_
 refine aF ?_
 refine aG ?_
 refine aG ?_
 refine aC ?_
 refine tr1 rfl (aD (v := .d (.lit (.int .i64 r2.2))) (aA rfl) rfl rfl) ?_
 refine tr1 rfl (bH (aA rfl) rfl rfl rfl) ?_
 refine aF ?_
 refine bQ rfl (fun c3 => ?_) (fun c3 => ?_)
 ·have h := eC c3 h
  refine aG ?_
  refine aC ?_
  refine tr1 rfl (aD (v := .d (.lit (.int .i64 r2.2))) (aA rfl) rfl rfl) ?_
  refine tr1 rfl (aI (v := .d (.lit (.int .i64 0))) (aA rfl) rfl rfl) ?_
  refine tr1 rfl (aI (v := .d (.lit (.int .i64 r2.2))) (aA rfl) rfl rfl) ?_
  refine aF ?_
  exact bN ⟨rfl, _, [], [.box b1 0 (aR t_0)], _, .two (.tmp 4 (v := .d (.lit (.int .i64 0))) rfl) (.tmp 5 (v := .d (.lit (.int .i64 r2.2))) rfl), .refl _, .same _, (0, r2.2), h, rfl, rfl⟩
 ·have h := eB c3 h
  refine bO ?_
  refine aG ?_
  obtain ⟨x4, h5, h⟩ := dA h
  obtain ⟨x6, h7, h⟩ := dA h
  refine dX mix 12 [] [(23, .d (.lit (.int .i64 ((w64 ((x4.Tree.Slots.length : Int) - 1)))))), (28, .d (.lit (.int .i64 ((((x6.won.map fun p : aB × Int => ((fun a : aB => Value.agg ((aH a).map bG).toArray) p.1, aP p.2))).length : Int)))))] ?_ ?_
  ·refine ⟨[(17, 0, cN aU r2.1), (18, 1, .cp [.lit (.int .i64 x4.Tree.Rounds), .sl 1 (x4.Tree.Slots.map aP), .sl 1 (x4.players.map aP), .mp false (x4.won.map fun p : aB × Int => ((fun a : aB => Value.agg ((aH a).map bG).toArray) p.1, aP p.2))]), (19, 2, .cp [.lit (.int .i64 x4.Tree.Rounds), .sl 1 (x4.Tree.Slots.map aP)]), (20, 3, .cp [.sl 1 (x4.Tree.Slots.map aP)]), (21, 4, .d (.sl 1 (x4.Tree.Slots.map aP))), (22, 5, .d (.lit (.int .i64 ((x4.Tree.Slots.length : Int))))), (23, 6, .d (.lit (.int .i64 ((w64 ((x4.Tree.Slots.length : Int) - 1)))))), (24, 7, cN aU r2.1), (25, 8, .cp [.lit (.int .i64 x6.Tree.Rounds), .sl 1 (x6.Tree.Slots.map aP), .sl 1 (x6.players.map aP), .mp false (x6.won.map fun p : aB × Int => ((fun a : aB => Value.agg ((aH a).map bG).toArray) p.1, aP p.2))]), (26, 9, .cp [.mp false (x6.won.map fun p : aB × Int => ((fun a : aB => Value.agg ((aH a).map bG).toArray) p.1, aP p.2))]), (27, 10, .d (.mp false (x6.won.map fun p : aB × Int => ((fun a : aB => Value.agg ((aH a).map bG).toArray) p.1, aP p.2)))), (28, 11, .d (.lit (.int .i64 ((((x6.won.map fun p : aB × Int => ((fun a : aB => Value.agg ((aH a).map bG).toArray) p.1, aP p.2))).length : Int)))))], ?_, ?_⟩
   · exact ⟨by kernel_rfl, by kernel_rfl, by kernel_rfl, by kernel_rfl, by kernel_rfl, [([], []), ([0], []), ([1], []), ([2], []), ([3], []), ([4], []), ([5], []), ([], []), ([7], []), ([8], []), ([9], []), ([10], [])], by kernel_rfl, ⟨fun S hS => aK rfl (aT rfl (aD (v := cN aU r2.1) (aA rfl) (aJ hS rfl) rfl)),
      fun S hS => aK rfl (aT rfl (pF (enc := aU) (aA rfl) (aJ hS rfl) h5)),
      fun S hS => aK rfl (aT rfl (cO (aA rfl) (aJ hS rfl) oM (es := [.lit (.int .i64 x4.Tree.Rounds), .sl 1 (x4.Tree.Slots.map aP)]) rfl)),
      fun S hS => aK rfl (aT rfl (cO (aA rfl) (aJ hS rfl) dV (es := [.sl 1 (x4.Tree.Slots.map aP)]) rfl)),
      fun S hS => aK rfl (aT rfl (bV (aA rfl) (aJ hS rfl) dH)),
      fun S hS => aK rfl (aT rfl (dL (aA rfl) (aJ hS rfl) cB.of)),
      fun S hS => aK rfl (aT rfl (bM (aA rfl) (aJ hS rfl) rfl rfl)),
      fun S hS => aK rfl (aT rfl (aD (v := cN aU r2.1) (aA rfl) (aJ hS rfl) rfl)),
      fun S hS => aK rfl (aT rfl (pF (enc := aU) (aA rfl) (aJ hS rfl) h7)),
      fun S hS => aK rfl (aT rfl (cO (aA rfl) (aJ hS rfl) oN (es := [.mp false (x6.won.map fun p : aB × Int => ((fun a : aB => Value.agg ((aH a).map bG).toArray) p.1, aP p.2))]) rfl)),
      fun S hS => aK rfl (aT rfl (bV (aA rfl) (aJ hS rfl) sC)),
      fun S hS => aK rfl (aT rfl (aFn (aA rfl) Try.underlying73 (aJ hS rfl) rfl)), trivial⟩⟩
   · exact dI (aS rfl (aS rfl (bD trivial)))
  ·refine tr1 rfl (bM (aA rfl) rfl rfl rfl) ?_
   refine tr1 rfl (aI (v := .d (.lit (.int .i64 ((w64 ((w64 ((x4.Tree.Slots.length : Int) - 1)) - (((x6.won.map fun p : aB × Int => ((fun a : aB => Value.agg ((aH a).map bG).toArray) p.1, aP p.2))).length : Int))))))) (aA rfl) rfl rfl) ?_
   refine tr1 rfl (aI (v := .d (.lit (.int .i64 0))) (aA rfl) rfl rfl) ?_
   refine aF ?_
   exact bN ⟨rfl, _, [], [.box b1 0 (aR t_0)], _, .two (.tmp 4 (v := .d (.lit (.int .i64 ((w64 ((w64 ((x4.Tree.Slots.length : Int) - 1)) - (((x6.won.map fun p : aB × Int => ((fun a : aB => Value.agg ((aH a).map bG).toArray) p.1, aP p.2))).length : Int))))))) rfl) (.tmp 5 (v := .d (.lit (.int .i64 0))) rfl), .refl _, .same _, (w64 ((w64 ((x4.Tree.Slots.length : Int) - 1)) - (((x6.won.map fun p : aB × Int => ((fun a : aB => Value.agg ((aH a).map bG).toArray) p.1, aP p.2))).length : Int)), 0), h, rfl, rfl⟩

theorem aCt (t_0 : aO) (l_1 : List aE) (players_2 : List Int) {Q : ((Option aW) × (List Int) × Int) → Prop} (h : lZ t_0 l_1 players_2 Q) : eS Try.prog 49 [.agg (aR t_0), .d (.sl 5 (l_1.map aL)), .d (.sl 1 (players_2.map aP))] [] (fun r' o' => ∃ (r : (Option aW) × (List Int) × Int), Q r ∧ r' = .tup [cN aU r.1, .d (.sl 1 (r.2.1.map aP)), .d (.lit (.int .i64 r.2.2))] ∧ o' = []) := by
 unfold lZ at h
 refine fV Try.func49 rfl (rs := [.tmp 6, .tmp 7, .tmp 8]) Try.results49 Try.ntmps49 (Nat.le_of_ble_eq_true rfl) ?_
 refine aG ?_
 refine aC ?_
 refine bU rfl (gD (v := .agg (aR t_0)) (aA rfl) rfl rfl rfl) ?_
 rintro _ ⟨b1, rfl⟩
 refine tr1 rfl (aI (v := cN aU (none : Option aW)) (aA rfl) rfl rfl) ?_
 refine tr1 rfl (iB 3 1 (.inl rfl) (aA rfl)) ?_
 refine tr1 rfl (aI (v := .d (.lit (.int .i64 0))) (aA rfl) rfl rfl) ?_
 refine aF ?_
 refine aG ?_
 refine aC ?_
 refine tr1 rfl (bL (aA rfl) rfl (i := 0) rfl dY (es := (aR t_0)) rfl rfl) ?_
 refine tr1 rfl (aD (v := .d (.sl 5 (l_1.map aL))) (aA rfl) rfl rfl) ?_
 refine bU rfl (mS (aA rfl) (.func _ _ Try.call48) rfl rfl (mJ _ _ h)) ?_
 rintro _ ⟨_, _, ⟨r3, h, rfl, rfl⟩, rfl⟩
 refine tr1 rfl (aD (v := .tup [cN aU r3.1, .d (.lit (.int .i64 r3.2))]) (aA rfl) rfl rfl) ?_
 refine tr1 rfl (bJ (aA rfl) rfl rfl) ?_
 refine tr1 rfl (bJ (aA rfl) rfl rfl) ?_
 refine tr1 rfl (aI (v := cN aU r3.1) (aA rfl) rfl rfl) ?_
 refine tr1 rfl (aI (v := .d (.lit (.int .i64 r3.2))) (aA rfl) rfl rfl) ?_
 refine aF ?_
 refine aG ?_
 refine aG ?_
 refine aC ?_
 refine tr1 rfl (aD (v := .d (.lit (.int .i64 r3.2))) (aA rfl) rfl rfl) ?_
 refine tr1 rfl (bH (aA rfl) rfl rfl rfl) ?_
 refine aF ?_
 refine bQ rfl (fun c4 => ?_) (fun c4 => ?_)
 ·have h := eC c4 h
  refine aG ?_
  refine aC ?_
  refine tr1 rfl (aD (v := .d (.lit (.int .i64 r3.2))) (aA rfl) rfl rfl) ?_
  refine tr1 rfl (aI (v := cN aU (none : Option aW)) (aA rfl) rfl rfl) ?_
  refine tr1 rfl (iB 3 1 (.inl rfl) (aA rfl)) ?_
  refine tr1 rfl (aI (v := .d (.lit (.int .i64 r3.2))) (aA rfl) rfl rfl) ?_
  refine aF ?_
  exact bN ⟨rfl, _, [], [.box b1 0 (aR t_0), .arr (.slice none 0 0) 3 1 (([] : List Int).map aP), .arr (.slice none 0 0) 3 1 (([] : List Int).map aP)], _, .three (.tmp 6 (v := cN aU (none : Option aW)) rfl) (.tmp 7 (v := .d (.lit (.slice none 0 0))) rfl) (.tmp 8 (v := .d (.lit (.int .i64 r3.2))) rfl), .refl _, rU (.cons (.same _) (.cons (.d (kR 2 rfl (cV (f := aP) fun _ => rfl))) (.cons (.same _) .nil))), ((none : Option aW), ([] : List Int), r3.2), h, rfl, rfl⟩
 ·have h := eB c4 h
  refine bO ?_
  refine aG ?_
  refine aG ?_
  refine aC ?_
  refine tr1 rfl (aD (v := .d (.sl 1 (players_2.map aP))) (aA rfl) rfl rfl) ?_
  refine tr1 rfl (dL (aA rfl) rfl cB.of) ?_
  refine tr1 rfl (aD (v := .d (.lit (.int .i64 0))) (aA rfl) rfl rfl) ?_
  refine aF ?_
  refine cH ?_
  refine oR [20, 21] (fun (s6 : (Option aW) × Int × (List Int) × Value) => [(6, cN aU s6.1), (7, .d (.lit s6.2.2.2)), (22, .d (.lit (.int .i64 s6.2.1)))]) (fun (s6 : (Option aW) × Int × (List Int) × Value) => [.arr s6.2.2.2 3 1 (s6.2.2.1.map aP)]) (fun (k : Nat) (s6 : (Option aW) × Int × (List Int) × Value) => jQ Q players_2 (players_2.length : Int) k s6.1 s6.2.1 s6.2.2.1) (fun _ h => h) (r3.1, 0, ([] : List Int), (.slice none 0 0)) h (bF [1] rfl rfl (aS rfl (aS rfl (aS rfl (bD ⟨rfl, rfl, trivial⟩))))) ?_
  rintro k8 ⟨d_0_6, t22_0_6, slots_0_6, w7⟩ h
  simp only [jQ] at h
  refine aG ?_
  refine aC ?_
  refine tr1 rfl (bH (aA rfl) rfl rfl rfl) ?_
  refine aF ?_
  refine aG ?_
  refine bQ rfl (fun c9 => ?_) (fun c9 => ?_)
  ·have h := eC c9 h
   refine bO ?_
   refine aG ?_
   refine cH ?_
   refine aG ?_
   refine aC ?_
   obtain ⟨x10, h11, h⟩ := dA h
   refine tr1 rfl (bT (aA rfl) rfl rfl cB.of (cE aP h11)) ?_
   refine tr1 rfl (bV (aA rfl) rfl bK) ?_
   refine tr1 rfl (aI (v := .d (.lit (.int .i64 x10))) (aA rfl) rfl rfl) ?_
   refine aF ?_
   refine aG ?_
   refine aG ?_
   refine aC ?_
   refine tr1 rfl (aD (v := .d (.lit (.int .i64 x10))) (aA rfl) rfl rfl) ?_
   obtain ⟨r12, h13, h⟩ := dA h
   refine tr1 rfl (cS (aA rfl) (.func _ _ Try.call72) rfl rfl (BVs.refl _ _) (eM _ _ _ h13) rfl) ?_
   refine tr1 rfl (fQ (aA rfl) rfl) ?_
   refine aF ?_
   refine bQ rfl (fun c14 => ?_) (fun c14 => ?_)
   ·have h := eC c14 h
    refine aG ?_
    refine aC ?_
    refine tr1 rfl (aI (v := cN aU (none : Option aW)) (aA rfl) rfl rfl) ?_
    refine tr1 rfl (iB 3 1 (.inl rfl) (aA rfl)) ?_
    refine tr1 rfl (aI (v := .d (.lit (.int .i64 1))) (aA rfl) rfl rfl) ?_
    refine aF ?_
    exact bN ⟨rfl, _, [], [.arr w7 3 1 (slots_0_6.map aP), .arr (.slice none 0 0) 3 1 (([] : List Int).map aP)], _, .three (.tmp 6 (v := cN aU (none : Option aW)) rfl) (.tmp 7 (v := .d (.lit (.slice none 0 0))) rfl) (.tmp 8 (v := .d (.lit (.int .i64 1))) rfl), .refl _, rU (.cons (.same _) (.cons (.d (kR 1 rfl (cV (f := aP) fun _ => rfl))) (.cons (.same _) .nil))), ((none : Option aW), ([] : List Int), 1), h, rfl, rfl⟩
   ·have h := eB c14 h
    refine bO ?_
    refine aC ?_
    refine tr1 rfl (aD (v := .d (.lit w7)) (aA rfl) rfl rfl) ?_
    refine tr1 rfl (aD (v := cN aU d_0_6) (aA rfl) rfl rfl) ?_
    obtain ⟨x16, h17, h⟩ := dA h
    refine tr1 rfl (pF (enc := aU) (aA rfl) rfl h17) ?_
    refine tr1 rfl (cO (aA rfl) rfl kO (es := [.sl 1 (x16.players.map aP)]) rfl) ?_
    refine tr1 rfl (bV (aA rfl) rfl dH) ?_
    refine tr1 rfl (aD (v := .d (.lit (.int .i64 x10))) (aA rfl) rfl rfl) ?_
    obtain ⟨r18, h19, h⟩ := dA h
    refine tr1 rfl (cS (aA rfl) (.func _ _ Try.call73) rfl rfl (BVs.refl _ _) (oQ _ _ h19) rfl) ?_
    refine tr1 rfl (eW (aA rfl) cB rfl rfl (rows := ([r18]).map aP) rfl (cV (f := aP) fun _ => rfl) rfl (by decide)) ?_
    obtain ⟨x20, h21, h⟩ := dA h
    refine bU rfl (eI (i := 0) (aA rfl) cB rfl rfl rfl (fun _ => rfl) h21 rfl) ?_
    rintro _ ⟨v22, rfl⟩
    refine tr1 rfl (aI (v := .d (.lit v22)) (aA rfl) rfl rfl) ?_
    refine fF ?_
    refine aC ?_
    refine tr1 rfl (bM (aA rfl) rfl rfl rfl) ?_
    refine tr1 rfl (aD (v := .d (.lit (.int .i64 ((w64 (t22_0_6 + 1)))))) (aA rfl) rfl rfl) ?_
    refine aF ?_
    exact ⟨(d_0_6, w64 (t22_0_6 + 1), x20, v22), h, bF [0] rfl rfl (aS rfl (aS rfl (aS rfl (bD ⟨rfl, rfl, trivial⟩))))⟩
  ·have h := eB c9 h
   refine dF ?_
   refine .inl ⟨rfl, ?_⟩
   simp only [rA] at h
   refine aG ?_
   refine aC ?_
   refine tr1 rfl (aD (v := cN aU d_0_6) (aA rfl) rfl rfl) ?_
   refine tr1 rfl (aD (v := .d (.lit w7)) (aA rfl) rfl rfl) ?_
   refine tr1 rfl (aI (v := cN aU d_0_6) (aA rfl) rfl rfl) ?_
   refine tr1 rfl (aI (v := .d (.lit w7)) (aA rfl) rfl rfl) ?_
   refine tr1 rfl (aI (v := .d (.lit (.int .i64 0))) (aA rfl) rfl rfl) ?_
   refine aF ?_
   exact bN ⟨rfl, _, [], [.arr w7 3 1 (slots_0_6.map aP)], _, .three (.tmp 6 (v := cN aU d_0_6) rfl) (.tmp 7 (v := .d (.lit w7)) rfl) (.tmp 8 (v := .d (.lit (.int .i64 0))) rfl), .refl _, rU (.cons (.same _) (.cons (.d (kR 0 rfl (cV (f := aP) fun _ => rfl))) (.cons (.same _) .nil))), (d_0_6, slots_0_6, 0), h, rfl, rfl⟩

theorem wV (d_0 : aW) (slot_1 : Int) {r : Int} (h : lC d_0 slot_1 = some r) : Fn Try.prog 50 [.cp (aU d_0), .d (.lit (.int .i64 slot_1))] (.d (.lit (.int .i64 r))) := by
 unfold lC at h
 refine Fn.of_tr Try.func50 rfl (rs := [.tmp 4]) Try.results50 Try.ntmps50 (Nat.le_of_ble_eq_true rfl) ?_
 refine aG ?_
 refine aC ?_
 refine tr1 rfl (aI (v := .d (.lit (.int .i64 0))) (aA rfl) rfl rfl) ?_
 refine aF ?_
 refine aG ?_
 refine aG ?_
 refine aC ?_
 refine tr1 rfl (aD (v := .cp [.lit (.int .i64 d_0.Tree.Rounds), .sl 1 (d_0.Tree.Slots.map aP), .sl 1 (d_0.players.map aP), .mp false (d_0.won.map fun p : aB × Int => ((fun a : aB => Value.agg ((aH a).map bG).toArray) p.1, aP p.2))]) (aA rfl) rfl rfl) ?_
 refine tr1 rfl (gQ (aA rfl) rfl) ?_
 refine tr1 rfl (cO (aA rfl) rfl oM (es := [.lit (.int .i64 d_0.Tree.Rounds), .sl 1 (d_0.Tree.Slots.map aP)]) rfl) ?_
 refine tr1 rfl (cO (aA rfl) rfl iJ (es := [.lit (.int .i64 d_0.Tree.Rounds)]) rfl) ?_
 refine tr1 rfl (bV (aA rfl) rfl bK) ?_
 refine tr1 rfl (aD (v := .d (.lit (.int .i64 0))) (aA rfl) rfl rfl) ?_
 refine aF ?_
 refine cH ?_
 refine dR [0, 1, 12] (fun (s1 : Int) => [(13, .d (.lit (.int .i64 s1)))]) (fun (s1 : Int) => []) (fun (k : Nat) (s1 : Int) => gK d_0 slot_1 d_0.Tree.Rounds k s1) (fun _ => rfl) (0) h (bF [] rfl rfl (aS rfl (bD ⟨rfl, rfl, rfl, trivial⟩))) ?_
 rintro k2 t13_0_1 h
 simp only [gK] at h
 refine aG ?_
 refine aC ?_
 refine tr1 rfl (bH (aA rfl) rfl rfl rfl) ?_
 refine aF ?_
 refine aG ?_
 refine bQ rfl (fun c3 => ?_) (fun c3 => ?_)
 ·have h := aY c3 h
  refine bO ?_
  refine aG ?_
  refine cH ?_
  refine aG ?_
  refine aC ?_
  refine tr1 rfl (aD (v := .d (.lit (.int .i64 t13_0_1))) (aA rfl) rfl rfl) ?_
  refine tr1 rfl (aI (v := .d (.lit (.int .i64 t13_0_1))) (aA rfl) rfl rfl) ?_
  refine aF ?_
  refine aG ?_
  obtain ⟨r4, h5, h⟩ := bind_some h
  refine dX mix 12 [0, 1, 5, 12, 13] [(6, .d (.lit (.int .i64 ((cF r4 0 d_0.won))))), (26, .d (.lit (.bool ((cL r4 d_0.won)))))] ?_ ?_
  ·refine ⟨[(17, 0, .cp [.lit (.int .i64 d_0.Tree.Rounds), .sl 1 (d_0.Tree.Slots.map aP), .sl 1 (d_0.players.map aP), .mp false (d_0.won.map fun p : aB × Int => ((fun a : aB => Value.agg ((aH a).map bG).toArray) p.1, aP p.2))]), (18, 1, .cp [.lit (.int .i64 d_0.Tree.Rounds), .sl 1 (d_0.Tree.Slots.map aP), .sl 1 (d_0.players.map aP), .mp false (d_0.won.map fun p : aB × Int => ((fun a : aB => Value.agg ((aH a).map bG).toArray) p.1, aP p.2))]), (19, 2, .cp [.mp false (d_0.won.map fun p : aB × Int => ((fun a : aB => Value.agg ((aH a).map bG).toArray) p.1, aP p.2))]), (20, 3, .d (.mp false (d_0.won.map fun p : aB × Int => ((fun a : aB => Value.agg ((aH a).map bG).toArray) p.1, aP p.2)))), (21, 4, .d (.lit (.int .i64 t13_0_1))), (22, 5, .d (.lit (.int .i64 slot_1))), (23, 6, .agg (aH r4)), (24, 7, .tup [.d (.lit (.int .i64 ((cF r4 0 d_0.won)))), .d (.lit (.bool ((cL r4 d_0.won))))]), (16, 8, .tup [.d (.lit (.int .i64 ((cF r4 0 d_0.won)))), .d (.lit (.bool ((cL r4 d_0.won))))]), (25, 9, .d (.lit (.int .i64 ((cF r4 0 d_0.won))))), (26, 10, .d (.lit (.bool ((cL r4 d_0.won))))), (6, 11, .d (.lit (.int .i64 ((cF r4 0 d_0.won)))))], ?_, ?_⟩
   · exact ⟨by kernel_rfl, by kernel_rfl, by kernel_rfl, by kernel_rfl, by kernel_rfl, [([], []), ([0], []), ([1], []), ([2], []), ([], []), ([], []), ([4, 5], []), ([3, 6], []), ([7], []), ([8], []), ([8], []), ([9], [])], by kernel_rfl, ⟨fun S hS => aK rfl (aT rfl (aD (v := .cp [.lit (.int .i64 d_0.Tree.Rounds), .sl 1 (d_0.Tree.Slots.map aP), .sl 1 (d_0.players.map aP), .mp false (d_0.won.map fun p : aB × Int => ((fun a : aB => Value.agg ((aH a).map bG).toArray) p.1, aP p.2))]) (aA rfl) (aJ hS rfl) rfl)),
      fun S hS => aK rfl (aT rfl (gQ (aA rfl) (aJ hS rfl))),
      fun S hS => aK rfl (aT rfl (cO (aA rfl) (aJ hS rfl) oN (es := [.mp false (d_0.won.map fun p : aB × Int => ((fun a : aB => Value.agg ((aH a).map bG).toArray) p.1, aP p.2))]) rfl)),
      fun S hS => aK rfl (aT rfl (bV (aA rfl) (aJ hS rfl) sC)),
      fun S hS => aK rfl (aT rfl (aD (v := .d (.lit (.int .i64 t13_0_1))) (aA rfl) (aJ hS rfl) rfl)),
      fun S hS => aK rfl (aT rfl (aD (v := .d (.lit (.int .i64 slot_1))) (aA rfl) (aJ hS rfl) rfl)),
      fun S hS => aK rfl (aT rfl (iF (aA rfl) (.func _ _ Try.call45) (ev2 (aJ hS rfl) (ev2 (aJ hS rfl) evn)) rfl (lD _ _ h5))),
      fun S hS => aK rfl (aT rfl (nO (enc := aP) (agg := false) (l := d_0.won) (z := 0) (a := r4) (aA rfl) qH Try.underlying73 Try.zeroValue3 (fun _ _ => .d (.lit _ rfl)) (aJ hS rfl) rfl rfl (aJ hS rfl) (jI (enc := aH) r4 rfl))),
      fun S hS => aK rfl (aT rfl (aD (v := .tup [.d (.lit (.int .i64 ((cF r4 0 d_0.won)))), .d (.lit (.bool ((cL r4 d_0.won))))]) (aA rfl) (aJ hS rfl) rfl)),
      fun S hS => aK rfl (aT rfl (bJ (aA rfl) (aJ hS rfl) rfl)),
      fun S hS => aK rfl (aT rfl (bJ (aA rfl) (aJ hS rfl) rfl)),
      fun S hS => aK rfl (aT rfl (aI (v := .d (.lit (.int .i64 ((cF r4 0 d_0.won))))) (aA rfl) (aJ hS rfl) rfl)), trivial⟩⟩
   · exact dI (aS rfl (aS rfl (bD ⟨rfl, rfl, rfl, rfl, rfl, trivial⟩)))
  ·refine tr1 rfl (aI (v := .d (.lit (.bool ((cL r4 d_0.won))))) (aA rfl) rfl rfl) ?_
   refine aF ?_
   refine aG ?_
   refine aC ?_
   refine tr1 rfl (aD (v := .d (.lit (.bool ((cL r4 d_0.won))))) (aA rfl) rfl rfl) ?_
   refine tr1 rfl (fQ (aA rfl) rfl) ?_
   refine tr1 rfl (aD (v := .d (.lit (.bool ((!(cL r4 d_0.won)))))) (aA rfl) rfl rfl) ?_
   obtain ⟨b6, h7, h⟩ := bind_some h
   refine cC 10 [0, 1, 5, 12, 13] 39 b6 ?_ ?_
   ·refine bI (!(cL r4 d_0.won)) (fun c9 => ?_) (fun c9 => ?_)
    ·have h7 := aY c9 h7
     refine aN rfl rfl (aA rfl) rfl (aA rfl) rfl c9 ?_
     refine aN rfl rfl (aA rfl) rfl (aA rfl) rfl c9 ?_
     refine aN rfl rfl (aA rfl) rfl (aA rfl) rfl c9 ?_
     refine aN rfl rfl (aA rfl) rfl (aA rfl) rfl c9 ?_
     refine aN rfl rfl (aA rfl) rfl (aA rfl) rfl c9 ?_
     refine aN rfl rfl (aA rfl) rfl (aA rfl) rfl c9 ?_
     refine aN rfl rfl (aA rfl) rfl (aA rfl) rfl c9 ?_
     refine aN rfl rfl (aA rfl) rfl (aA rfl) rfl c9 ?_
     refine aN rfl rfl (aA rfl) rfl (aA rfl) rfl c9 ?_
     refine tr1 rfl (bS (v := .d (.lit (.bool true))) (aA rfl) rfl c9 rfl rfl) ?_
     have h7 := Option.some.inj h7
     subst h7
     refine aF (bC rfl ⟨rfl, rfl, rfl, rfl, rfl, trivial⟩ rfl)
    ·have h7 := aX c9 h7
     refine aM rfl rfl (aA rfl) rfl c9 (aD (v := .d (.lit (.int .i64 ((cF r4 0 d_0.won))))) (aA rfl) rfl rfl) ?_
     refine aM rfl rfl (aA rfl) rfl c9 (aD (v := .cp [.lit (.int .i64 d_0.Tree.Rounds), .sl 1 (d_0.Tree.Slots.map aP), .sl 1 (d_0.players.map aP), .mp false (d_0.won.map fun p : aB × Int => ((fun a : aB => Value.agg ((aH a).map bG).toArray) p.1, aP p.2))]) (aA rfl) rfl rfl) ?_
     refine aM rfl rfl (aA rfl) rfl c9 (gQ (aA rfl) rfl) ?_
     refine aM rfl rfl (aA rfl) rfl c9 (cO (aA rfl) rfl kO (es := [.sl 1 (d_0.players.map aP)]) rfl) ?_
     refine aM rfl rfl (aA rfl) rfl c9 (bV (aA rfl) rfl dH) ?_
     refine aM rfl rfl (aA rfl) rfl c9 (aD (v := .d (.lit (.int .i64 slot_1))) (aA rfl) rfl rfl) ?_
     obtain ⟨x10, h11, h7⟩ := bind_some h7
     refine aM rfl rfl (aA rfl) rfl c9 (bT (aA rfl) rfl rfl cB.of (cE aP h11)) ?_
     refine aM rfl rfl (aA rfl) rfl c9 (bV (aA rfl) rfl bK) ?_
     refine aM rfl rfl (aA rfl) rfl c9 (bH (aA rfl) rfl rfl rfl) ?_
     refine tr1 rfl (bR (v := .d (.lit (.bool ((!decide ((cF r4 0 d_0.won) = x10)))))) (aA rfl) rfl c9 rfl rfl) ?_
     have h7 := Option.some.inj h7
     subst h7
     refine aF (bC rfl ⟨rfl, rfl, rfl, rfl, rfl, trivial⟩ rfl)
   ·refine aF ?_
    refine bQ rfl (fun c8 => ?_) (fun c8 => ?_)
    ·have h := aY c8 h
     refine aG ?_
     refine aC ?_
     refine tr1 rfl (aD (v := .d (.lit (.int .i64 t13_0_1))) (aA rfl) rfl rfl) ?_
     refine tr1 rfl (aI (v := .d (.lit (.int .i64 t13_0_1))) (aA rfl) rfl rfl) ?_
     refine aF ?_
     have h := Option.some.inj h
     subst h
     exact bN ⟨rfl, _, .one _, rfl, rfl⟩
    ·have h := aX c8 h
     refine eG ?_
     refine aC ?_
     refine tr1 rfl (bM (aA rfl) rfl rfl rfl) ?_
     refine tr1 rfl (aD (v := .d (.lit (.int .i64 ((w64 (t13_0_1 + 1)))))) (aA rfl) rfl rfl) ?_
     refine aF ?_
     exact ⟨(w64 (t13_0_1 + 1)), h, bF [] rfl rfl (aS rfl (bD ⟨rfl, rfl, rfl, trivial⟩))⟩
 ·have h := aX c3 h
  refine dF ?_
  refine .inl ⟨rfl, ?_⟩
  simp only [nR] at h
  refine aG ?_
  refine aC ?_
  refine tr1 rfl (aD (v := .cp [.lit (.int .i64 d_0.Tree.Rounds), .sl 1 (d_0.Tree.Slots.map aP), .sl 1 (d_0.players.map aP), .mp false (d_0.won.map fun p : aB × Int => ((fun a : aB => Value.agg ((aH a).map bG).toArray) p.1, aP p.2))]) (aA rfl) rfl rfl) ?_
  refine tr1 rfl (gQ (aA rfl) rfl) ?_
  refine tr1 rfl (cO (aA rfl) rfl oM (es := [.lit (.int .i64 d_0.Tree.Rounds), .sl 1 (d_0.Tree.Slots.map aP)]) rfl) ?_
  refine tr1 rfl (cO (aA rfl) rfl iJ (es := [.lit (.int .i64 d_0.Tree.Rounds)]) rfl) ?_
  refine tr1 rfl (bV (aA rfl) rfl bK) ?_
  refine tr1 rfl (aI (v := .d (.lit (.int .i64 d_0.Tree.Rounds))) (aA rfl) rfl rfl) ?_
  refine aF ?_
  have h := Option.some.inj h
  subst h
  exact bN ⟨rfl, _, .one _, rfl, rfl⟩

theorem yL (t_0 : aO) (l_1 : List aE) (player_2 : Int) {Q : (dN × Int) → Prop} (h : lS t_0 l_1 player_2 Q) : eS Try.prog 17 [.agg (aR t_0), .d (.sl 5 (l_1.map aL)), .d (.lit (.int .i64 player_2))] [] (fun r' o' => ∃ (r : dN × Int), Q r ∧ r' = .tup [.agg (fC r.1), .d (.lit (.int .i64 r.2))] ∧ o' = []) := by
 unfold lS at h
 refine fV Try.func17 rfl (rs := [.cell 6 39, .tmp 7]) Try.results17 Try.ntmps17 (Nat.le_of_ble_eq_true rfl) ?_
 refine aG ?_
 refine aC ?_
 refine bU rfl (gD (v := .agg (aR t_0)) (aA rfl) rfl rfl rfl) ?_
 rintro _ ⟨b1, rfl⟩
 refine bU rfl (dQ (zs := [.lit (.int .i64 0), .lit (.int .i64 0)]) (aA rfl) Try.zeroValue39 rfl rfl) ?_
 rintro _ ⟨b2, rfl⟩
 refine tr1 rfl (aI (v := .d (.lit (.int .i64 0))) (aA rfl) rfl rfl) ?_
 refine aF ?_
 refine aG ?_
 refine aC ?_
 refine tr1 rfl (bL (aA rfl) rfl (i := 0) rfl dY (es := (aR t_0)) rfl rfl) ?_
 refine tr1 rfl (aD (v := .d (.sl 5 (l_1.map aL))) (aA rfl) rfl rfl) ?_
 refine tr1 rfl (aD (v := .d (.lit (.int .i64 player_2))) (aA rfl) rfl rfl) ?_
 refine tr1 rfl (eW (aA rfl) cB rfl rfl (rows := ([player_2]).map aP) rfl (cV (f := aP) fun _ => rfl) rfl (by decide)) ?_
 refine bU rfl (mS (aA rfl) (.func _ _ Try.call49) rfl rfl (aCt _ _ _ h)) ?_
 rintro _ ⟨_, _, ⟨r3, h, rfl, rfl⟩, rfl⟩
 refine tr1 rfl (aD (v := .tup [cN aU r3.1, .d (.sl 1 (r3.2.1.map aP)), .d (.lit (.int .i64 r3.2.2))]) (aA rfl) rfl rfl) ?_
 refine tr1 rfl (bJ (aA rfl) rfl rfl) ?_
 refine tr1 rfl (bJ (aA rfl) rfl rfl) ?_
 refine tr1 rfl (bJ (aA rfl) rfl rfl) ?_
 refine tr1 rfl (aI (v := cN aU r3.1) (aA rfl) rfl rfl) ?_
 refine tr1 rfl (aI (v := .d (.sl 1 (r3.2.1.map aP))) (aA rfl) rfl rfl) ?_
 refine tr1 rfl (aI (v := .d (.lit (.int .i64 r3.2.2))) (aA rfl) rfl rfl) ?_
 refine aF ?_
 refine aG ?_
 refine cH ?_
 refine aG ?_
 refine aC ?_
 refine tr1 rfl (aD (v := .d (.lit (.int .i64 r3.2.2))) (aA rfl) rfl rfl) ?_
 refine tr1 rfl (bH (aA rfl) rfl rfl rfl) ?_
 refine tr1 rfl (aI (v := .d (.lit (.bool ((!decide (r3.2.2 = 0)))))) (aA rfl) rfl rfl) ?_
 refine aF ?_
 refine bQ rfl (fun c4 => ?_) (fun c4 => ?_)
 ·have h := eC c4 h
  refine aG ?_
  refine aC ?_
  refine tr1 rfl (eX (aA rfl) aBi (zs := [.lit (.int .i64 0), .lit (.int .i64 0)]) rfl rfl rfl rfl (es := [.lit (.int .i64 0), .lit (.int .i64 0)]) rfl) ?_
  refine tr1 rfl (aD (v := .d (.lit (.int .i64 r3.2.2))) (aA rfl) rfl rfl) ?_
  refine tr1 rfl (cG (i := 1) rfl rfl rfl rfl rfl Try.sizeOf39 rfl (aA rfl) (Nat.le_of_ble_eq_true rfl) (ds' := (fC (dN.mk 0 0))) rfl) ?_
  refine tr1 rfl (aI (v := .d (.lit (.int .i64 r3.2.2))) (aA rfl) rfl rfl) ?_
  refine aF ?_
  exact bN ⟨rfl, _, [], [.box b1 0 (aR t_0), .box b2 0 (fC (dN.mk 0 0))], _, .two (.cell 6 39 rfl (i := 1) rfl aAa (es := (fC (dN.mk 0 0))) rfl rfl) (.tmp 7 (v := .d (.lit (.int .i64 r3.2.2))) rfl), .refl _, .same _, ((dN.mk 0 0), r3.2.2), h, rfl, rfl⟩
 ·have h := eB c4 h
  refine aG ?_
  refine aC ?_
  refine tr1 rfl (aD (v := .d (.sl 1 (r3.2.1.map aP))) (aA rfl) rfl rfl) ?_
  obtain ⟨x5, h6, h⟩ := dA h
  refine tr1 rfl (bT (aA rfl) rfl rfl cB.of (cE aP h6)) ?_
  refine tr1 rfl (bV (aA rfl) rfl bK) ?_
  refine tr1 rfl (bH (aA rfl) rfl rfl rfl) ?_
  refine tr1 rfl (aI (v := .d (.lit (.bool ((decide (x5 < 0)))))) (aA rfl) rfl rfl) ?_
  refine aF ?_
  refine bQ rfl (fun c7 => ?_) (fun c7 => ?_)
  ·have h := eC c7 h
   refine aG ?_
   refine aC ?_
   refine tr1 rfl (eX (aA rfl) aBi (zs := [.lit (.int .i64 0), .lit (.int .i64 0)]) rfl rfl rfl rfl (es := [.lit (.int .i64 0), .lit (.int .i64 0)]) rfl) ?_
   refine tr1 rfl (cG (i := 1) rfl rfl rfl rfl rfl Try.sizeOf39 rfl (aA rfl) (Nat.le_of_ble_eq_true rfl) (ds' := (fC (dN.mk 0 0))) rfl) ?_
   refine tr1 rfl (aI (v := .d (.lit (.int .i64 3))) (aA rfl) rfl rfl) ?_
   refine aF ?_
   exact bN ⟨rfl, _, [], [.box b1 0 (aR t_0), .box b2 0 (fC (dN.mk 0 0))], _, .two (.cell 6 39 rfl (i := 1) rfl aAa (es := (fC (dN.mk 0 0))) rfl rfl) (.tmp 7 (v := .d (.lit (.int .i64 3))) rfl), .refl _, .same _, ((dN.mk 0 0), 3), h, rfl, rfl⟩
  ·have h := eB c7 h
   refine eG ?_
   refine aG ?_
   obtain ⟨x8, h9, h⟩ := dA h
   refine cP (yC (enc := aU) (k := 8) rfl h9) ?_
   obtain ⟨x10, h11, h⟩ := dA h
   obtain ⟨r12, h13, h⟩ := dA h
   obtain ⟨x14, h15, h⟩ := dA h
   refine dX mix 9 [6] [(35, .d (.lit (.int .i64 r12))), (36, .cp [.lit (.int .i64 x8.Tree.Rounds), .sl 1 (x8.Tree.Slots.map aP), .sl 1 (x8.players.map aP), .mp false (x8.won.map fun p : aB × Int => ((fun a : aB => Value.agg ((aH a).map bG).toArray) p.1, aP p.2))]), (39, .d (.lit (.int .i64 x14)))] ?_ ?_
   ·refine ⟨[(31, 0, .cp [.lit (.int .i64 x8.Tree.Rounds), .sl 1 (x8.Tree.Slots.map aP), .sl 1 (x8.players.map aP), .mp false (x8.won.map fun p : aB × Int => ((fun a : aB => Value.agg ((aH a).map bG).toArray) p.1, aP p.2))]), (32, 1, .d (.sl 1 (r3.2.1.map aP))), (33, 2, .cp [.lit (.int .i64 x10)]), (34, 3, .d (.lit (.int .i64 x10))), (35, 4, .d (.lit (.int .i64 r12))), (36, 5, .cp [.lit (.int .i64 x8.Tree.Rounds), .sl 1 (x8.Tree.Slots.map aP), .sl 1 (x8.players.map aP), .mp false (x8.won.map fun p : aB × Int => ((fun a : aB => Value.agg ((aH a).map bG).toArray) p.1, aP p.2))]), (37, 6, .d (.sl 1 (r3.2.1.map aP))), (38, 7, .cp [.lit (.int .i64 x14)]), (39, 8, .d (.lit (.int .i64 x14)))], ?_, ?_⟩
    · exact ⟨by kernel_rfl, by kernel_rfl, by kernel_rfl, by kernel_rfl, by kernel_rfl, [([], []), ([], []), ([1], []), ([2], []), ([0, 3], []), ([], []), ([], []), ([6], []), ([7], [])], by kernel_rfl, ⟨fun S hS => aK rfl (aT rfl (aD (v := .cp [.lit (.int .i64 x8.Tree.Rounds), .sl 1 (x8.Tree.Slots.map aP), .sl 1 (x8.players.map aP), .mp false (x8.won.map fun p : aB × Int => ((fun a : aB => Value.agg ((aH a).map bG).toArray) p.1, aP p.2))]) (aA rfl) (aJ hS rfl) rfl)),
      fun S hS => aK rfl (aT rfl (aD (v := .d (.sl 1 (r3.2.1.map aP))) (aA rfl) (aJ hS rfl) rfl)),
      fun S hS => aK rfl (aT rfl (bT (aA rfl) (aJ hS rfl) rfl cB.of (cE aP h11))),
      fun S hS => aK rfl (aT rfl (bV (aA rfl) (aJ hS rfl) bK)),
      fun S hS => aK rfl (aT rfl (cS (aA rfl) (.func _ _ Try.call50) (ev2 (aJ hS rfl) (ev2 (aJ hS rfl) evn)) rfl (BVs.refl _ _) (wV _ _ h13) rfl)),
      fun S hS => aK rfl (aT rfl (aD (v := .cp [.lit (.int .i64 x8.Tree.Rounds), .sl 1 (x8.Tree.Slots.map aP), .sl 1 (x8.players.map aP), .mp false (x8.won.map fun p : aB × Int => ((fun a : aB => Value.agg ((aH a).map bG).toArray) p.1, aP p.2))]) (aA rfl) (aJ hS rfl) rfl)),
      fun S hS => aK rfl (aT rfl (aD (v := .d (.sl 1 (r3.2.1.map aP))) (aA rfl) (aJ hS rfl) rfl)),
      fun S hS => aK rfl (aT rfl (bT (aA rfl) (aJ hS rfl) rfl cB.of (cE aP h15))),
      fun S hS => aK rfl (aT rfl (bV (aA rfl) (aJ hS rfl) bK)), trivial⟩⟩
    · exact dI (aS rfl (aS rfl (aS rfl (bD ⟨rfl, trivial⟩))))
   ·obtain ⟨r16, h17, h⟩ := dA h
    refine tr1 rfl (cS (aA rfl) (.func _ _ Try.call46) rfl rfl (BVs.refl _ _) (rS _ _ h17) rfl) ?_
    refine tr1 rfl (eX (aA rfl) aBi (zs := [.lit (.int .i64 0), .lit (.int .i64 0)]) rfl rfl rfl rfl (es := [.lit (.int .i64 r12), .lit (.int .i64 r16)]) rfl) ?_
    refine tr1 rfl (cG (i := 1) rfl rfl rfl rfl rfl Try.sizeOf39 rfl (aA rfl) (Nat.le_of_ble_eq_true rfl) (ds' := (fC (dN.mk r12 r16))) rfl) ?_
    refine tr1 rfl (aI (v := .d (.lit (.int .i64 0))) (aA rfl) rfl rfl) ?_
    refine aF ?_
    exact bN ⟨rfl, _, [], [.box b1 0 (aR t_0), .box b2 0 (fC (dN.mk r12 r16))], _, .two (.cell 6 39 rfl (i := 1) rfl aAa (es := (fC (dN.mk r12 r16))) rfl rfl) (.tmp 7 (v := .d (.lit (.int .i64 0))) rfl), .refl _, .same _, ((dN.mk r12 r16), 0), h, rfl, rfl⟩

theorem uT (a_0 : List Int) (b_1 : List Int) {r : Bool} (h : nS a_0 b_1 = some r) : Fn Try.prog 23 [.d (.sl 1 (a_0.map aP)), .d (.sl 1 (b_1.map aP))] (.d (.lit (.bool r))) := by
 unfold nS at h
 refine Fn.of_tr Try.func23 rfl (rs := [.tmp 4]) Try.results23 Try.ntmps23 (Nat.le_of_ble_eq_true rfl) ?_
 refine aG ?_
 refine aC ?_
 refine tr1 rfl (aI (v := .d (.lit (.bool false))) (aA rfl) rfl rfl) ?_
 refine aF ?_
 refine aG ?_
 refine aG ?_
 refine aC ?_
 refine tr1 rfl (aD (v := .d (.sl 1 (a_0.map aP))) (aA rfl) rfl rfl) ?_
 refine tr1 rfl (dL (aA rfl) rfl cB.of) ?_
 refine tr1 rfl (aD (v := .d (.sl 1 (b_1.map aP))) (aA rfl) rfl rfl) ?_
 refine tr1 rfl (dL (aA rfl) rfl cB.of) ?_
 refine tr1 rfl (bH (aA rfl) rfl rfl rfl) ?_
 refine aF ?_
 refine bQ rfl (fun c1 => ?_) (fun c1 => ?_)
 ·have h := aY c1 h
  refine aG ?_
  refine aC ?_
  refine tr1 rfl (aI (v := .d (.lit (.bool false))) (aA rfl) rfl rfl) ?_
  refine aF ?_
  have h := Option.some.inj h
  subst h
  exact bN ⟨rfl, _, .one _, rfl, rfl⟩
 ·have h := aX c1 h
  refine bO ?_
  refine aG ?_
  refine aG ?_
  refine aC ?_
  refine tr1 rfl (aI (v := .d (.lit (.int .i64 0))) (aA rfl) rfl rfl) ?_
  refine aF ?_
  refine cH ?_
  refine dR [0, 1] (fun (s2 : Int) => [(5, .d (.lit (.int .i64 s2)))]) (fun (s2 : Int) => []) (fun (k : Nat) (s2 : Int) => jZ a_0 b_1 k s2) (fun _ => rfl) (0) h (bF [] rfl rfl (aS rfl (bD ⟨rfl, rfl, trivial⟩))) ?_
  rintro k3 i_0_2 h
  simp only [jZ] at h
  refine aG ?_
  refine aG ?_
  refine aC ?_
  refine tr1 rfl (aD (v := .d (.lit (.int .i64 i_0_2))) (aA rfl) rfl rfl) ?_
  refine tr1 rfl (aD (v := .d (.sl 1 (a_0.map aP))) (aA rfl) rfl rfl) ?_
  refine tr1 rfl (dL (aA rfl) rfl cB.of) ?_
  refine tr1 rfl (bH (aA rfl) rfl rfl rfl) ?_
  refine aF ?_
  refine bQ rfl (fun c4 => ?_) (fun c4 => ?_)
  ·have h := aY c4 h
   refine bO ?_
   refine aG ?_
   refine cH ?_
   refine aG ?_
   obtain ⟨x5, h6, h⟩ := bind_some h
   obtain ⟨x7, h8, h⟩ := bind_some h
   refine dX mix 8 [0, 1, 5] [(20, .d (.lit (.int .i64 x5))), (24, .d (.lit (.int .i64 x7)))] ?_ ?_
   ·refine ⟨[(17, 0, .d (.sl 1 (a_0.map aP))), (18, 1, .d (.lit (.int .i64 i_0_2))), (19, 2, .cp [.lit (.int .i64 x5)]), (20, 3, .d (.lit (.int .i64 x5))), (21, 4, .d (.sl 1 (b_1.map aP))), (22, 5, .d (.lit (.int .i64 i_0_2))), (23, 6, .cp [.lit (.int .i64 x7)]), (24, 7, .d (.lit (.int .i64 x7)))], ?_, ?_⟩
    · exact ⟨by kernel_rfl, by kernel_rfl, by kernel_rfl, by kernel_rfl, by kernel_rfl, [([], []), ([], []), ([0, 1], []), ([2], []), ([], []), ([], []), ([4, 5], []), ([6], [])], by kernel_rfl, ⟨fun S hS => aK rfl (aT rfl (aD (v := .d (.sl 1 (a_0.map aP))) (aA rfl) (aJ hS rfl) rfl)),
      fun S hS => aK rfl (aT rfl (aD (v := .d (.lit (.int .i64 i_0_2))) (aA rfl) (aJ hS rfl) rfl)),
      fun S hS => aK rfl (aT rfl (bT (aA rfl) (aJ hS rfl) (aJ hS rfl) cB.of (cE aP h6))),
      fun S hS => aK rfl (aT rfl (bV (aA rfl) (aJ hS rfl) bK)),
      fun S hS => aK rfl (aT rfl (aD (v := .d (.sl 1 (b_1.map aP))) (aA rfl) (aJ hS rfl) rfl)),
      fun S hS => aK rfl (aT rfl (aD (v := .d (.lit (.int .i64 i_0_2))) (aA rfl) (aJ hS rfl) rfl)),
      fun S hS => aK rfl (aT rfl (bT (aA rfl) (aJ hS rfl) (aJ hS rfl) cB.of (cE aP h8))),
      fun S hS => aK rfl (aT rfl (bV (aA rfl) (aJ hS rfl) bK)), trivial⟩⟩
    · exact dI (aS rfl (aS rfl (bD ⟨rfl, rfl, rfl, trivial⟩)))
   ·refine tr1 rfl (bH (aA rfl) rfl rfl rfl) ?_
    refine aF ?_
    refine bQ rfl (fun c9 => ?_) (fun c9 => ?_)
    ·have h := aY c9 h
     refine aG ?_
     refine aC ?_
     refine tr1 rfl (aI (v := .d (.lit (.bool false))) (aA rfl) rfl rfl) ?_
     refine aF ?_
     have h := Option.some.inj h
     subst h
     exact bN ⟨rfl, _, .one _, rfl, rfl⟩
    ·have h := aX c9 h
     refine eG ?_
     refine aC ?_
     refine tr1 rfl (aD (v := .d (.lit (.int .i64 i_0_2))) (aA rfl) rfl rfl) ?_
     refine tr1 rfl (bM (aA rfl) rfl rfl rfl) ?_
     refine tr1 rfl (aI (v := .d (.lit (.int .i64 ((w64 (i_0_2 + 1)))))) (aA rfl) rfl rfl) ?_
     refine aF ?_
     exact ⟨(w64 (i_0_2 + 1)), h, bF [] rfl rfl (aS rfl (bD ⟨rfl, rfl, trivial⟩))⟩
  ·have h := aX c4 h
   refine dF ?_
   refine .inl ⟨rfl, ?_⟩
   simp only [pD] at h
   refine aG ?_
   refine aC ?_
   refine tr1 rfl (aI (v := .d (.lit (.bool true))) (aA rfl) rfl rfl) ?_
   refine aF ?_
   have h := Option.some.inj h
   subst h
   exact bN ⟨rfl, _, .one _, rfl, rfl⟩

theorem fK (n_0 : Int) (low_1 : Int) (high_2 : Int) {r : Bool} (h : dS n_0 low_1 high_2 = some r) : Fn Try.prog 41 [.d (.lit (.int .i64 n_0)), .d (.lit (.int .i64 low_1)), .d (.lit (.int .i64 high_2))] (.d (.lit (.bool r))) := by
 unfold dS at h
 refine Fn.of_tr Try.func41 rfl (rs := [.tmp 6]) Try.results41 Try.ntmps41 (Nat.le_of_ble_eq_true rfl) ?_
 refine aG ?_
 refine aC ?_
 refine tr1 rfl (aI (v := .d (.lit (.bool false))) (aA rfl) rfl rfl) ?_
 refine aF ?_
 refine aG ?_
 refine aC ?_
 refine tr1 rfl (aD (v := .d (.lit (.int .i64 n_0))) (aA rfl) rfl rfl) ?_
 refine tr1 rfl (aD (v := .d (.lit (.int .i64 low_1))) (aA rfl) rfl rfl) ?_
 refine tr1 rfl (bH (aA rfl) rfl rfl rfl) ?_
 refine tr1 rfl (aD (v := .d (.lit (.bool ((decide (low_1 ≤ n_0)))))) (aA rfl) rfl rfl) ?_
 obtain ⟨b1, h2, h⟩ := bind_some h
 refine cC 4 [] 14 b1 ?_ ?_
 ·refine bI (decide (low_1 ≤ n_0)) (fun c3 => ?_) (fun c3 => ?_)
  ·have h2 := aY c3 h2
   refine aM rfl rfl (aA rfl) rfl c3 (aD (v := .d (.lit (.int .i64 n_0))) (aA rfl) rfl rfl) ?_
   refine aM rfl rfl (aA rfl) rfl c3 (aD (v := .d (.lit (.int .i64 high_2))) (aA rfl) rfl rfl) ?_
   refine aM rfl rfl (aA rfl) rfl c3 (bH (aA rfl) rfl rfl rfl) ?_
   refine tr1 rfl (bS (v := .d (.lit (.bool ((decide (n_0 ≤ high_2)))))) (aA rfl) rfl c3 rfl rfl) ?_
   have h2 := Option.some.inj h2
   subst h2
   refine aF (bC rfl trivial rfl)
  ·have h2 := aX c3 h2
   refine aN rfl rfl (aA rfl) rfl (aA rfl) rfl c3 ?_
   refine aN rfl rfl (aA rfl) rfl (aA rfl) rfl c3 ?_
   refine aN rfl rfl (aA rfl) rfl (aA rfl) rfl c3 ?_
   refine tr1 rfl (bR (v := .d (.lit (.bool false))) (aA rfl) rfl c3 rfl rfl) ?_
   have h2 := Option.some.inj h2
   subst h2
   refine aF (bC rfl trivial rfl)
 ·refine tr1 rfl (aI (v := .d (.lit (.bool b1))) (aA rfl) rfl rfl) ?_
  refine aF ?_
  have h := Option.some.inj h
  subst h
  exact bN ⟨rfl, _, .one _, rfl, rfl⟩

theorem wN (t_0 : aO) {r : Bool} (h : jF t_0 = some r) : Fn Try.prog 53 [.agg (aR t_0)] (.d (.lit (.bool r))) := by
 unfold jF at h
 refine Fn.of_tr Try.func53 rfl (rs := [.tmp 2]) Try.results53 Try.ntmps53 (Nat.le_of_ble_eq_true rfl) ?_
 refine aG ?_
 refine aC ?_
 refine bU rfl (gD (v := .agg (aR t_0)) (aA rfl) rfl rfl rfl) ?_
 rintro _ ⟨b1, rfl⟩
 refine tr1 rfl (aI (v := .d (.lit (.bool false))) (aA rfl) rfl rfl) ?_
 refine aF ?_
 refine aG ?_
 refine aG ?_
 refine aC ?_
 refine tr1 rfl (aV (aA rfl) rfl iJ) ?_
 refine tr1 rfl (aZ (aA rfl) rfl (i := 0) rfl rfl bK) ?_
 obtain ⟨r2, h3, h⟩ := bind_some h
 refine tr1 rfl (cS (aA rfl) (.func _ _ Try.call41) rfl rfl (BVs.refl _ _) (fK _ _ _ h3) rfl) ?_
 refine tr1 rfl (fQ (aA rfl) rfl) ?_
 refine tr1 rfl (aD (v := .d (.lit (.bool (!r2)))) (aA rfl) rfl rfl) ?_
 obtain ⟨b4, h5, h⟩ := bind_some h
 refine cC 9 [1] 18 b4 ?_ ?_
 ·refine bI (!r2) (fun c41 => ?_) (fun c41 => ?_)
  ·have h5 := aY c41 h5
   refine aN rfl rfl (aA rfl) rfl (aA rfl) rfl c41 ?_
   refine aN rfl rfl (aA rfl) rfl (aA rfl) rfl c41 ?_
   refine aN rfl rfl (aA rfl) rfl (aA rfl) rfl c41 ?_
   refine aN rfl rfl (aA rfl) rfl (aA rfl) rfl c41 ?_
   refine aN rfl rfl (aA rfl) rfl (aA rfl) rfl c41 ?_
   refine aN rfl rfl (aA rfl) rfl (aA rfl) rfl c41 ?_
   refine aN rfl rfl (aA rfl) rfl (aA rfl) rfl c41 ?_
   refine aN rfl rfl (aA rfl) rfl (aA rfl) rfl c41 ?_
   refine tr1 rfl (bS (v := .d (.lit (.bool true))) (aA rfl) rfl c41 rfl rfl) ?_
   have h5 := Option.some.inj h5
   subst h5
   refine aF (bC rfl ⟨rfl, trivial⟩ rfl)
  ·have h5 := aX c41 h5
   refine aM rfl rfl (aA rfl) rfl c41 (aV (aA rfl) rfl dV) ?_
   refine aM rfl rfl (aA rfl) rfl c41 (aZ (aA rfl) rfl (i := 0) rfl rfl dH) ?_
   refine aM rfl rfl (aA rfl) rfl c41 (dL (aA rfl) rfl cB.of) ?_
   refine aM rfl rfl (aA rfl) rfl c41 (aV (aA rfl) rfl iJ) ?_
   refine aM rfl rfl (aA rfl) rfl c41 (aZ (aA rfl) rfl (i := 0) rfl rfl bK) ?_
   refine aM rfl rfl (aA rfl) rfl c41 (aBd (aA rfl) rfl Try.runUnderlying3 Try.runUnderlying45) ?_
   obtain ⟨u42, h43, h5⟩ := bind_some h5
   refine aM rfl rfl (aA rfl) rfl c41 (aHg (aA rfl) rfl rfl (tZ h43)) ?_
   refine aM rfl rfl (aA rfl) rfl c41 (bH (aA rfl) rfl rfl rfl) ?_
   refine tr1 rfl (bR (v := .d (.lit (.bool ((!decide ((t_0.Slots.length : Int) = (w64 (1 * 2 ^ (min (IntKind.u64.wrap t_0.Rounds).toNat 64))))))))) (aA rfl) rfl c41 rfl rfl) ?_
   have h5 := Option.some.inj h5
   subst h5
   refine aF (bC rfl ⟨rfl, trivial⟩ rfl)
 ·refine aF ?_
  refine bQ rfl (fun c6 => ?_) (fun c6 => ?_)
  ·have h := aY c6 h
   refine aG ?_
   refine aC ?_
   refine tr1 rfl (aI (v := .d (.lit (.bool false))) (aA rfl) rfl rfl) ?_
   refine aF ?_
   have h := Option.some.inj h
   subst h
   refine cP (cR (cU (l := [2]) ⟨rfl, trivial⟩)) ?_
   exact bN ⟨rfl, _, .one _, rfl, rfl⟩
  ·have h := aX c6 h
   refine bO ?_
   refine aG ?_
   refine aG ?_
   refine aC ?_
   refine tr1 rfl (aI (v := .d (.lit (.int .i64 0))) (aA rfl) rfl rfl) ?_
   refine aF ?_
   refine cH ?_
   refine dR [1] (fun (s7 : Int) => [(3, .d (.lit (.int .i64 s7)))]) (fun (s7 : Int) => [.box b1 0 (aR t_0)]) (fun (k : Nat) (s7 : Int) => eY t_0 k s7) (fun _ => rfl) (0) h (bF [0] rfl rfl (aS rfl (bD ⟨rfl, trivial⟩))) ?_
   rintro k8 i_0_7 h
   simp only [eY] at h
   refine aG ?_
   refine aG ?_
   refine aC ?_
   refine tr1 rfl (aD (v := .d (.lit (.int .i64 i_0_7))) (aA rfl) rfl rfl) ?_
   refine tr1 rfl (aV (aA rfl) rfl dV) ?_
   refine tr1 rfl (aZ (aA rfl) rfl (i := 0) rfl rfl dH) ?_
   refine tr1 rfl (dL (aA rfl) rfl cB.of) ?_
   refine tr1 rfl (bH (aA rfl) rfl rfl rfl) ?_
   refine aF ?_
   refine bQ rfl (fun c9 => ?_) (fun c9 => ?_)
   ·have h := aY c9 h
    refine bO ?_
    refine aG ?_
    refine cH ?_
    refine aG ?_
    refine aG ?_
    refine aC ?_
    refine tr1 rfl (aV (aA rfl) rfl dV) ?_
    refine tr1 rfl (aZ (aA rfl) rfl (i := 0) rfl rfl dH) ?_
    refine tr1 rfl (aD (v := .d (.lit (.int .i64 i_0_7))) (aA rfl) rfl rfl) ?_
    obtain ⟨x10, h11, h⟩ := bind_some h
    refine tr1 rfl (bT (aA rfl) rfl rfl cB.of (cE aP h11)) ?_
    refine tr1 rfl (bV (aA rfl) rfl bK) ?_
    obtain ⟨r12, h13, h⟩ := bind_some h
    refine tr1 rfl (cS (aA rfl) (.func _ _ Try.call41) rfl rfl (BVs.refl _ _) (fK _ _ _ h13) rfl) ?_
    refine tr1 rfl (fQ (aA rfl) rfl) ?_
    refine tr1 rfl (aD (v := .d (.lit (.bool (!r12)))) (aA rfl) rfl rfl) ?_
    obtain ⟨b14, h15, h⟩ := bind_some h
    refine cC 21 [1, 3] 54 b14 ?_ ?_
    ·refine bI (!r12) (fun c30 => ?_) (fun c30 => ?_)
     ·have h15 := aY c30 h15
      refine aN rfl rfl (aA rfl) rfl (aA rfl) rfl c30 ?_
      refine aN rfl rfl (aA rfl) rfl (aA rfl) rfl c30 ?_
      refine aN rfl rfl (aA rfl) rfl (aA rfl) rfl c30 ?_
      refine aN rfl rfl (aA rfl) rfl (aA rfl) rfl c30 ?_
      refine dG rfl rfl (aA rfl) rfl (aA rfl) rfl ?_
      refine dG rfl rfl (aA rfl) rfl (aA rfl) rfl ?_
      refine dG rfl rfl (aA rfl) rfl (aA rfl) rfl ?_
      refine dG rfl rfl (aA rfl) rfl (aA rfl) rfl ?_
      refine dG rfl rfl (aA rfl) rfl (aA rfl) rfl ?_
      refine dG rfl rfl (aA rfl) rfl (aA rfl) rfl ?_
      refine aN rfl rfl (aA rfl) rfl (aA rfl) rfl c30 ?_
      refine aN rfl rfl (aA rfl) rfl (aA rfl) rfl c30 ?_
      refine dG rfl rfl (aA rfl) rfl (aA rfl) rfl ?_
      refine dG rfl rfl (aA rfl) rfl (aA rfl) rfl ?_
      refine dG rfl rfl (aA rfl) rfl (aA rfl) rfl ?_
      refine dG rfl rfl (aA rfl) rfl (aA rfl) rfl ?_
      refine dG rfl rfl (aA rfl) rfl (aA rfl) rfl ?_
      refine dG rfl rfl (aA rfl) rfl (aA rfl) rfl ?_
      refine dG rfl rfl (aA rfl) rfl (aA rfl) rfl ?_
      refine aN rfl rfl (aA rfl) rfl (aA rfl) rfl c30 ?_
      refine tr1 rfl (bS (v := .d (.lit (.bool true))) (aA rfl) rfl c30 rfl rfl) ?_
      have h15 := Option.some.inj h15
      subst h15
      refine aF (bC rfl ⟨rfl, rfl, trivial⟩ rfl)
     ·have h15 := aX c30 h15
      refine aM rfl rfl (aA rfl) rfl c30 (aD (v := .d (.lit (.int .i64 i_0_7))) (aA rfl) rfl rfl) ?_
      refine aM rfl rfl (aA rfl) rfl c30 (aLa (aA rfl) rfl rfl (by decide)) ?_
      refine aM rfl rfl (aA rfl) rfl c30 (bH (aA rfl) rfl rfl rfl) ?_
      refine aM rfl rfl (aA rfl) rfl c30 (aD (v := .d (.lit (.bool ((decide ((i_0_7.tmod 2) = 1)))))) (aA rfl) rfl rfl) ?_
      obtain ⟨b31, h32, h15⟩ := bind_some h15
      refine cC 7 [1, 3, 33, 34, 35, 36, 37] 44 b31 ?_ ?_
      ·refine bI (decide ((i_0_7.tmod 2) = 1)) (fun c38 => ?_) (fun c38 => ?_)
       ·have h32 := aY c38 h32
        refine aM rfl rfl (aA rfl) rfl c38 (aV (aA rfl) rfl dV) ?_
        refine aM rfl rfl (aA rfl) rfl c38 (aZ (aA rfl) rfl (i := 0) rfl rfl dH) ?_
        refine aM rfl rfl (aA rfl) rfl c38 (aD (v := .d (.lit (.int .i64 i_0_7))) (aA rfl) rfl rfl) ?_
        obtain ⟨x39, h40, h32⟩ := bind_some h32
        refine aM rfl rfl (aA rfl) rfl c38 (bT (aA rfl) rfl rfl cB.of (cE aP h40)) ?_
        refine aM rfl rfl (aA rfl) rfl c38 (bV (aA rfl) rfl bK) ?_
        refine aM rfl rfl (aA rfl) rfl c38 (bH (aA rfl) rfl rfl rfl) ?_
        refine aM rfl rfl (aA rfl) rfl c30 (bS (v := .d (.lit (.bool ((decide (x39 = (-1))))))) (aA rfl) rfl c38 rfl rfl) ?_
        have h32 := Option.some.inj h32
        subst h32
        refine aF (bC rfl ⟨rfl, rfl, rfl, rfl, rfl, rfl, rfl, trivial⟩ rfl)
       ·have h32 := aX c38 h32
        refine aN rfl rfl (aA rfl) rfl (aA rfl) rfl c38 ?_
        refine aN rfl rfl (aA rfl) rfl (aA rfl) rfl c38 ?_
        refine aN rfl rfl (aA rfl) rfl (aA rfl) rfl c38 ?_
        refine aN rfl rfl (aA rfl) rfl (aA rfl) rfl c38 ?_
        refine aN rfl rfl (aA rfl) rfl (aA rfl) rfl c38 ?_
        refine aN rfl rfl (aA rfl) rfl (aA rfl) rfl c38 ?_
        refine aM rfl rfl (aA rfl) rfl c30 (bR (v := .d (.lit (.bool false))) (aA rfl) rfl c38 rfl rfl) ?_
        have h32 := Option.some.inj h32
        subst h32
        refine aF (bC rfl ⟨rfl, rfl, rfl, rfl, rfl, rfl, rfl, trivial⟩ rfl)
      ·refine aM rfl rfl (aA rfl) rfl c30 (aD (v := .d (.lit (.bool b31))) (aA rfl) rfl rfl) ?_
       obtain ⟨b33, h34, h15⟩ := bind_some h15
       refine cC 8 [1, 3, 33, 34, 35, 36, 37, 44, 45] 53 b33 ?_ ?_
       ·refine bI (b31) (fun c35 => ?_) (fun c35 => ?_)
        ·have h34 := aY c35 h34
         refine aM rfl rfl (aA rfl) rfl c35 (aV (aA rfl) rfl dV) ?_
         refine aM rfl rfl (aA rfl) rfl c35 (aZ (aA rfl) rfl (i := 0) rfl rfl dH) ?_
         refine aM rfl rfl (aA rfl) rfl c35 (aD (v := .d (.lit (.int .i64 i_0_7))) (aA rfl) rfl rfl) ?_
         refine aM rfl rfl (aA rfl) rfl c35 (bM (aA rfl) rfl rfl rfl) ?_
         obtain ⟨x36, h37, h34⟩ := bind_some h34
         refine aM rfl rfl (aA rfl) rfl c35 (bT (aA rfl) rfl rfl cB.of (cE aP h37)) ?_
         refine aM rfl rfl (aA rfl) rfl c35 (bV (aA rfl) rfl bK) ?_
         refine aM rfl rfl (aA rfl) rfl c35 (bH (aA rfl) rfl rfl rfl) ?_
         refine aM rfl rfl (aA rfl) rfl c30 (bS (v := .d (.lit (.bool ((decide (x36 = (-1))))))) (aA rfl) rfl c35 rfl rfl) ?_
         have h34 := Option.some.inj h34
         subst h34
         refine aF (bC rfl ⟨rfl, rfl, rfl, rfl, rfl, rfl, rfl, rfl, rfl, trivial⟩ rfl)
        ·have h34 := aX c35 h34
         refine aN rfl rfl (aA rfl) rfl (aA rfl) rfl c35 ?_
         refine aN rfl rfl (aA rfl) rfl (aA rfl) rfl c35 ?_
         refine aN rfl rfl (aA rfl) rfl (aA rfl) rfl c35 ?_
         refine aN rfl rfl (aA rfl) rfl (aA rfl) rfl c35 ?_
         refine aN rfl rfl (aA rfl) rfl (aA rfl) rfl c35 ?_
         refine aN rfl rfl (aA rfl) rfl (aA rfl) rfl c35 ?_
         refine aN rfl rfl (aA rfl) rfl (aA rfl) rfl c35 ?_
         refine aM rfl rfl (aA rfl) rfl c30 (bR (v := .d (.lit (.bool false))) (aA rfl) rfl c35 rfl rfl) ?_
         have h34 := Option.some.inj h34
         subst h34
         refine aF (bC rfl ⟨rfl, rfl, rfl, rfl, rfl, rfl, rfl, rfl, rfl, trivial⟩ rfl)
       ·refine tr1 rfl (bR (v := .d (.lit (.bool b33))) (aA rfl) rfl c30 rfl rfl) ?_
        have h15 := Option.some.inj h15
        subst h15
        refine aF (bC rfl ⟨rfl, rfl, trivial⟩ rfl)
    ·refine aF ?_
     refine bQ rfl (fun c16 => ?_) (fun c16 => ?_)
     ·have h := aY c16 h
      refine aG ?_
      refine aC ?_
      refine tr1 rfl (aI (v := .d (.lit (.bool false))) (aA rfl) rfl rfl) ?_
      refine aF ?_
      have h := Option.some.inj h
      subst h
      refine cP (cR (cU (l := [2]) ⟨rfl, trivial⟩)) ?_
      exact bN ⟨rfl, _, .one _, rfl, rfl⟩
     ·have h := aX c16 h
      refine bO ?_
      refine aG ?_
      refine aC ?_
      refine tr1 rfl (aI (v := .d (.lit (.int .i64 0))) (aA rfl) rfl rfl) ?_
      refine aF ?_
      refine yI ?_
      refine dR [1, 3] (fun (s17 : Int) => [(4, .d (.lit (.int .i64 s17)))]) (fun (s17 : Int) => [.box b1 0 (aR t_0)]) (fun (k : Nat) (s17 : Int) => eZ (eY t_0 k8) i_0_7 t_0 k s17) (fun _ => rfl) (0) h (bF [0] rfl rfl (aS rfl (bD ⟨rfl, rfl, trivial⟩))) ?_
      rintro k18 k_2_17 h
      simp only [eZ] at h
      refine aG ?_
      refine aG ?_
      refine aC ?_
      refine tr1 rfl (aD (v := .d (.lit (.int .i64 k_2_17))) (aA rfl) rfl rfl) ?_
      refine tr1 rfl (aD (v := .d (.lit (.int .i64 i_0_7))) (aA rfl) rfl rfl) ?_
      refine tr1 rfl (bH (aA rfl) rfl rfl rfl) ?_
      refine aF ?_
      refine bQ rfl (fun c19 => ?_) (fun c19 => ?_)
      ·have h := aY c19 h
       refine bO ?_
       refine aG ?_
       refine cH ?_
       refine aG ?_
       obtain ⟨x20, h21, h⟩ := bind_some h
       obtain ⟨x22, h23, h⟩ := bind_some h
       obtain ⟨b24, h25, h⟩ := bind_some h
       refine dX mix 19 [1, 3, 4] [(78, .d (.lit (.bool b24)))] ?_ ?_
       ·refine bI (decide (x20 = x22)) (fun c26 => ?_) (fun c26 => ?_)
        ·have h25 := aY c26 h25
         obtain ⟨x27, h28, h25⟩ := bind_some h25
         have h25 := Option.some.inj h25
         subst h25
         refine ⟨[(60, 0, .bp b1 0 1), (61, 1, .d (.sl 1 (t_0.Slots.map aP))), (62, 2, .d (.lit (.int .i64 k_2_17))), (63, 3, .cp [.lit (.int .i64 x20)]), (64, 4, .d (.lit (.int .i64 x20))), (65, 5, .bp b1 0 1), (66, 6, .d (.sl 1 (t_0.Slots.map aP))), (67, 7, .d (.lit (.int .i64 i_0_7))), (68, 8, .cp [.lit (.int .i64 x22)]), (69, 9, .d (.lit (.int .i64 x22))), (70, 10, .d (.lit (.bool ((decide (x20 = x22)))))), (71, 11, .d (.lit (.bool ((decide (x20 = x22)))))), (72, 12, .bp b1 0 1), (73, 13, .d (.sl 1 (t_0.Slots.map aP))), (74, 14, .d (.lit (.int .i64 i_0_7))), (75, 15, .cp [.lit (.int .i64 x27)]), (76, 16, .d (.lit (.int .i64 x27))), (77, 17, .d (.lit (.bool ((!decide (x27 = (-1))))))), (78, 18, .d (.lit (.bool ((!decide (x27 = (-1)))))))], ?_, ?_⟩
         · exact ⟨by kernel_rfl, by kernel_rfl, by kernel_rfl, by kernel_rfl, by kernel_rfl, [([], []), ([0], []), ([], []), ([1, 2], []), ([3], []), ([], []), ([5], []), ([], []), ([6, 7], []), ([8], []), ([4, 9], []), ([10], []), ([11], []), ([11, 12], []), ([11], []), ([11, 13, 14], []), ([11, 15], []), ([11, 16], []), ([11, 17], [])], by kernel_rfl, ⟨fun S hS => aK rfl (aT rfl (aV (aA rfl) (aJ hS rfl) dV)),
      fun S hS => aK rfl (aT rfl (aZ (aA rfl) (aJ hS rfl) (i := 0) rfl rfl dH)),
      fun S hS => aK rfl (aT rfl (aD (v := .d (.lit (.int .i64 k_2_17))) (aA rfl) (aJ hS rfl) rfl)),
      fun S hS => aK rfl (aT rfl (bT (aA rfl) (aJ hS rfl) (aJ hS rfl) cB.of (cE aP h21))),
      fun S hS => aK rfl (aT rfl (bV (aA rfl) (aJ hS rfl) bK)),
      fun S hS => aK rfl (aT rfl (aV (aA rfl) (aJ hS rfl) dV)),
      fun S hS => aK rfl (aT rfl (aZ (aA rfl) (aJ hS rfl) (i := 0) rfl rfl dH)),
      fun S hS => aK rfl (aT rfl (aD (v := .d (.lit (.int .i64 i_0_7))) (aA rfl) (aJ hS rfl) rfl)),
      fun S hS => aK rfl (aT rfl (bT (aA rfl) (aJ hS rfl) (aJ hS rfl) cB.of (cE aP h23))),
      fun S hS => aK rfl (aT rfl (bV (aA rfl) (aJ hS rfl) bK)),
      fun S hS => aK rfl (aT rfl (bH (aA rfl) (aJ hS rfl) (aJ hS rfl) rfl)),
      fun S hS => aK rfl (aT rfl (aD (v := .d (.lit (.bool ((decide (x20 = x22)))))) (aA rfl) (aJ hS rfl) rfl)),
      fun S hS => aK rfl (bY rfl rfl (aA rfl) (bE hS rfl) c26 (aV (aA rfl) (aJ hS rfl) dV)),
      fun S hS => aK rfl (bY rfl rfl (aA rfl) (bE hS rfl) c26 (aZ (aA rfl) (aJ hS rfl) (i := 0) rfl rfl dH)),
      fun S hS => aK rfl (bY rfl rfl (aA rfl) (bE hS rfl) c26 (aD (v := .d (.lit (.int .i64 i_0_7))) (aA rfl) (aJ hS rfl) rfl)),
      fun S hS => aK rfl (bY rfl rfl (aA rfl) (bE hS rfl) c26 (bT (aA rfl) (aJ hS rfl) (aJ hS rfl) cB.of (cE aP h28))),
      fun S hS => aK rfl (bY rfl rfl (aA rfl) (bE hS rfl) c26 (bV (aA rfl) (aJ hS rfl) bK)),
      fun S hS => aK rfl (bY rfl rfl (aA rfl) (bE hS rfl) c26 (bH (aA rfl) (aJ hS rfl) rfl rfl)),
      fun S hS => aK rfl (aT rfl (bS (v := .d (.lit (.bool ((!decide (x27 = (-1))))))) (aA rfl) (aJ hS rfl) c26 (aJ hS rfl) rfl)), trivial⟩⟩
         · exact dI (aS rfl (bD ⟨rfl, rfl, rfl, trivial⟩))
        ·have h25 := aX c26 h25
         have h25 := Option.some.inj h25
         subst h25
         refine ⟨[(60, 0, .bp b1 0 1), (61, 1, .d (.sl 1 (t_0.Slots.map aP))), (62, 2, .d (.lit (.int .i64 k_2_17))), (63, 3, .cp [.lit (.int .i64 x20)]), (64, 4, .d (.lit (.int .i64 x20))), (65, 5, .bp b1 0 1), (66, 6, .d (.sl 1 (t_0.Slots.map aP))), (67, 7, .d (.lit (.int .i64 i_0_7))), (68, 8, .cp [.lit (.int .i64 x22)]), (69, 9, .d (.lit (.int .i64 x22))), (70, 10, .d (.lit (.bool ((decide (x20 = x22)))))), (71, 11, .d (.lit (.bool ((decide (x20 = x22)))))), (72, 12, .tup []), (73, 13, .tup []), (74, 14, .tup []), (75, 15, .tup []), (76, 16, .tup []), (77, 17, .tup []), (78, 18, .d (.lit (.bool false)))], ?_, ?_⟩
         · exact ⟨by kernel_rfl, by kernel_rfl, by kernel_rfl, by kernel_rfl, by kernel_rfl, [([], []), ([0], []), ([], []), ([1, 2], []), ([3], []), ([], []), ([5], []), ([], []), ([6, 7], []), ([8], []), ([4, 9], []), ([10], []), ([11], []), ([11, 12], []), ([11], []), ([11, 13, 14], []), ([11, 15], []), ([11, 16], []), ([11, 17], [])], by kernel_rfl, ⟨fun S hS => aK rfl (aT rfl (aV (aA rfl) (aJ hS rfl) dV)),
      fun S hS => aK rfl (aT rfl (aZ (aA rfl) (aJ hS rfl) (i := 0) rfl rfl dH)),
      fun S hS => aK rfl (aT rfl (aD (v := .d (.lit (.int .i64 k_2_17))) (aA rfl) (aJ hS rfl) rfl)),
      fun S hS => aK rfl (aT rfl (bT (aA rfl) (aJ hS rfl) (aJ hS rfl) cB.of (cE aP h21))),
      fun S hS => aK rfl (aT rfl (bV (aA rfl) (aJ hS rfl) bK)),
      fun S hS => aK rfl (aT rfl (aV (aA rfl) (aJ hS rfl) dV)),
      fun S hS => aK rfl (aT rfl (aZ (aA rfl) (aJ hS rfl) (i := 0) rfl rfl dH)),
      fun S hS => aK rfl (aT rfl (aD (v := .d (.lit (.int .i64 i_0_7))) (aA rfl) (aJ hS rfl) rfl)),
      fun S hS => aK rfl (aT rfl (bT (aA rfl) (aJ hS rfl) (aJ hS rfl) cB.of (cE aP h23))),
      fun S hS => aK rfl (aT rfl (bV (aA rfl) (aJ hS rfl) bK)),
      fun S hS => aK rfl (aT rfl (bH (aA rfl) (aJ hS rfl) (aJ hS rfl) rfl)),
      fun S hS => aK rfl (aT rfl (aD (v := .d (.lit (.bool ((decide (x20 = x22)))))) (aA rfl) (aJ hS rfl) rfl)),
      fun S hS => aK rfl (bX rfl rfl (aA rfl) rfl (aA rfl) (bE hS rfl) c26),
      fun S hS => aK rfl (bX rfl rfl (aA rfl) rfl (aA rfl) (bE hS rfl) c26),
      fun S hS => aK rfl (bX rfl rfl (aA rfl) rfl (aA rfl) (bE hS rfl) c26),
      fun S hS => aK rfl (bX rfl rfl (aA rfl) rfl (aA rfl) (bE hS rfl) c26),
      fun S hS => aK rfl (bX rfl rfl (aA rfl) rfl (aA rfl) (bE hS rfl) c26),
      fun S hS => aK rfl (bX rfl rfl (aA rfl) rfl (aA rfl) (bE hS rfl) c26),
      fun S hS => aK rfl (aT rfl (bR (v := .d (.lit (.bool false))) (aA rfl) (aJ hS rfl) c26 rfl rfl)), trivial⟩⟩
         · exact dI (aS rfl (bD ⟨rfl, rfl, rfl, trivial⟩))
       ·refine aF ?_
        refine bQ rfl (fun c29 => ?_) (fun c29 => ?_)
        ·have h := aY c29 h
         refine aG ?_
         refine aC ?_
         refine tr1 rfl (aI (v := .d (.lit (.bool false))) (aA rfl) rfl rfl) ?_
         refine aF ?_
         have h := Option.some.inj h
         subst h
         refine cP (cR (cU (l := [2]) ⟨rfl, trivial⟩)) ?_
         exact bN ⟨rfl, _, .one _, rfl, rfl⟩
        ·have h := aX c29 h
         refine eG ?_
         refine aC ?_
         refine tr1 rfl (aD (v := .d (.lit (.int .i64 k_2_17))) (aA rfl) rfl rfl) ?_
         refine tr1 rfl (bM (aA rfl) rfl rfl rfl) ?_
         refine tr1 rfl (aI (v := .d (.lit (.int .i64 ((w64 (k_2_17 + 1)))))) (aA rfl) rfl rfl) ?_
         refine aF ?_
         exact ⟨(w64 (k_2_17 + 1)), h, bF [0] rfl rfl (aS rfl (bD ⟨rfl, rfl, trivial⟩))⟩
      ·have h := aX c19 h
       refine dF ?_
       refine .inl ⟨rfl, ?_⟩
       simp only [nD] at h
       simp only [nC] at h
       refine aC ?_
       refine tr1 rfl (aD (v := .d (.lit (.int .i64 i_0_7))) (aA rfl) rfl rfl) ?_
       refine tr1 rfl (bM (aA rfl) rfl rfl rfl) ?_
       refine tr1 rfl (aI (v := .d (.lit (.int .i64 ((w64 (i_0_7 + 1)))))) (aA rfl) rfl rfl) ?_
       refine aF ?_
       exact ⟨(w64 (i_0_7 + 1)), h, bF [0] rfl rfl (aS rfl (bD ⟨rfl, trivial⟩))⟩
   ·have h := aX c9 h
    refine dF ?_
    refine .inl ⟨rfl, ?_⟩
    simp only [nB] at h
    refine aG ?_
    refine aC ?_
    refine tr1 rfl (aI (v := .d (.lit (.bool true))) (aA rfl) rfl rfl) ?_
    refine aF ?_
    have h := Option.some.inj h
    subst h
    refine cP (cR (cU (l := [2]) ⟨rfl, trivial⟩)) ?_
    exact bN ⟨rfl, _, .one _, rfl, rfl⟩

theorem qT (t_0 : aO) (round_1 : Int) {r : Int} (h : gH t_0 round_1 = some r) : Fn Try.prog 42 [.agg (aR t_0), .d (.lit (.int .i64 round_1))] (.d (.lit (.int .i64 r))) := by
 unfold gH at h
 refine Fn.of_tr Try.func42 rfl (rs := [.tmp 4]) Try.results42 Try.ntmps42 (Nat.le_of_ble_eq_true rfl) ?_
 refine aG ?_
 refine aC ?_
 refine bU rfl (gD (v := .agg (aR t_0)) (aA rfl) rfl rfl rfl) ?_
 rintro _ ⟨b1, rfl⟩
 refine tr1 rfl (aI (v := .d (.lit (.int .i64 0))) (aA rfl) rfl rfl) ?_
 refine aF ?_
 refine aG ?_
 refine aC ?_
 refine tr1 rfl (aV (aA rfl) rfl iJ) ?_
 refine tr1 rfl (aZ (aA rfl) rfl (i := 0) rfl rfl bK) ?_
 refine tr1 rfl (bM (aA rfl) rfl rfl rfl) ?_
 refine tr1 rfl (aD (v := .d (.lit (.int .i64 round_1))) (aA rfl) rfl rfl) ?_
 refine tr1 rfl (bM (aA rfl) rfl rfl rfl) ?_
 refine tr1 rfl (aBd (aA rfl) rfl Try.runUnderlying3 Try.runUnderlying45) ?_
 obtain ⟨u2, h3, h⟩ := bind_some h
 refine tr1 rfl (aHg (aA rfl) rfl rfl (tZ h3)) ?_
 refine tr1 rfl (aI (v := .d (.lit (.int .i64 ((w64 (1 * 2 ^ (min (IntKind.u64.wrap (w64 ((w64 (t_0.Rounds - 1)) - round_1))).toNat 64))))))) (aA rfl) rfl rfl) ?_
 refine aF ?_
 have h := Option.some.inj h
 subst h
 refine cP (cR (cU (l := [4]) ⟨rfl, trivial⟩)) ?_
 exact bN ⟨rfl, _, .one _, rfl, rfl⟩

theorem vJ (t_0 : aO) (round_1 : Int) (place_2 : Int) {r : Bool} (h : iM t_0 round_1 place_2 = some r) : Fn Try.prog 13 [.agg (aR t_0), .d (.lit (.int .i64 round_1)), .d (.lit (.int .i64 place_2))] (.d (.lit (.bool r))) := by
 unfold iM at h
 refine Fn.of_tr Try.func13 rfl (rs := [.tmp 6]) Try.results13 Try.ntmps13 (Nat.le_of_ble_eq_true rfl) ?_
 refine aG ?_
 refine aC ?_
 refine bU rfl (gD (v := .agg (aR t_0)) (aA rfl) rfl rfl rfl) ?_
 rintro _ ⟨b1, rfl⟩
 refine tr1 rfl (aI (v := .d (.lit (.bool false))) (aA rfl) rfl rfl) ?_
 refine aF ?_
 refine aG ?_
 refine aC ?_
 refine tr1 rfl (aD (v := .d (.lit (.int .i64 round_1))) (aA rfl) rfl rfl) ?_
 refine tr1 rfl (aV (aA rfl) rfl iJ) ?_
 refine tr1 rfl (aZ (aA rfl) rfl (i := 0) rfl rfl bK) ?_
 refine tr1 rfl (bM (aA rfl) rfl rfl rfl) ?_
 obtain ⟨r2, h3, h⟩ := bind_some h
 refine tr1 rfl (cS (aA rfl) (.func _ _ Try.call41) rfl rfl (BVs.refl _ _) (fK _ _ _ h3) rfl) ?_
 refine tr1 rfl (aD (v := .d (.lit (.bool r2))) (aA rfl) rfl rfl) ?_
 obtain ⟨b4, h5, h⟩ := bind_some h
 refine cC 7 [] 19 b4 ?_ ?_
 ·refine bI (r2) (fun c6 => ?_) (fun c6 => ?_)
  ·have h5 := aY c6 h5
   refine aM rfl rfl (aA rfl) rfl c6 (aD (v := .d (.lit (.int .i64 place_2))) (aA rfl) rfl rfl) ?_
   refine aM rfl rfl (aA rfl) rfl c6 (bL (aA rfl) rfl (i := 0) rfl dY (es := (aR t_0)) rfl rfl) ?_
   refine aM rfl rfl (aA rfl) rfl c6 (aD (v := .d (.lit (.int .i64 round_1))) (aA rfl) rfl rfl) ?_
   obtain ⟨r7, h8, h5⟩ := bind_some h5
   refine aM rfl rfl (aA rfl) rfl c6 (cS (aA rfl) (.func _ _ Try.call42) rfl rfl (BVs.refl _ _) (qT _ _ h8) rfl) ?_
   refine aM rfl rfl (aA rfl) rfl c6 (bM (aA rfl) rfl rfl rfl) ?_
   obtain ⟨r9, h10, h5⟩ := bind_some h5
   refine aM rfl rfl (aA rfl) rfl c6 (cS (aA rfl) (.func _ _ Try.call41) rfl rfl (BVs.refl _ _) (fK _ _ _ h10) rfl) ?_
   refine tr1 rfl (bS (v := .d (.lit (.bool r9))) (aA rfl) rfl c6 rfl rfl) ?_
   have h5 := Option.some.inj h5
   subst h5
   refine aF (bC rfl trivial rfl)
  ·have h5 := aX c6 h5
   refine aN rfl rfl (aA rfl) rfl (aA rfl) rfl c6 ?_
   refine aN rfl rfl (aA rfl) rfl (aA rfl) rfl c6 ?_
   refine aN rfl rfl (aA rfl) rfl (aA rfl) rfl c6 ?_
   refine aN rfl rfl (aA rfl) rfl (aA rfl) rfl c6 ?_
   refine aN rfl rfl (aA rfl) rfl (aA rfl) rfl c6 ?_
   refine aN rfl rfl (aA rfl) rfl (aA rfl) rfl c6 ?_
   refine tr1 rfl (bR (v := .d (.lit (.bool false))) (aA rfl) rfl c6 rfl rfl) ?_
   have h5 := Option.some.inj h5
   subst h5
   refine aF (bC rfl trivial rfl)
 ·refine tr1 rfl (aI (v := .d (.lit (.bool b4))) (aA rfl) rfl rfl) ?_
  refine aF ?_
  have h := Option.some.inj h
  subst h
  refine cP (cR (cU (l := [6]) ⟨rfl, trivial⟩)) ?_
  exact bN ⟨rfl, _, .one _, rfl, rfl⟩

theorem wO (t_0 : aO) (x_1 : aE) {r : Bool} (h : kQ t_0 x_1 = some r) : Fn Try.prog 54 [.agg (aR t_0), .agg (aL x_1)] (.d (.lit (.bool r))) := by
 unfold kQ at h
 refine Fn.of_tr Try.func54 rfl (rs := [.tmp 4]) Try.results54 Try.ntmps54 (Nat.le_of_ble_eq_true rfl) ?_
 refine aG ?_
 refine aC ?_
 refine bU rfl (gD (v := .agg (aR t_0)) (aA rfl) rfl rfl rfl) ?_
 rintro _ ⟨b1, rfl⟩
 refine bU rfl (gD (v := .agg (aL x_1)) (aA rfl) rfl rfl rfl) ?_
 rintro _ ⟨b2, rfl⟩
 refine tr1 rfl (aI (v := .d (.lit (.bool false))) (aA rfl) rfl rfl) ?_
 refine aF ?_
 refine aG ?_
 refine aG ?_
 refine aC ?_
 refine tr1 rfl (aV (aA rfl) rfl mB) ?_
 refine tr1 rfl (aZ (aA rfl) rfl (i := 1) rfl rfl bK) ?_
 obtain ⟨r3, h4, h⟩ := bind_some h
 refine tr1 rfl (cS (aA rfl) (.func _ _ Try.call41) rfl rfl (BVs.refl _ _) (fK _ _ _ h4) rfl) ?_
 refine tr1 rfl (fQ (aA rfl) rfl) ?_
 refine aF ?_
 refine bQ rfl (fun c5 => ?_) (fun c5 => ?_)
 ·have h := aY c5 h
  refine aG ?_
  refine aC ?_
  refine tr1 rfl (aI (v := .d (.lit (.bool false))) (aA rfl) rfl rfl) ?_
  refine aF ?_
  have h := Option.some.inj h
  subst h
  refine cP (cR (cU (l := [4]) ⟨rfl, trivial⟩)) ?_
  exact bN ⟨rfl, _, .one _, rfl, rfl⟩
 ·have h := aX c5 h
  refine bO ?_
  refine aG ?_
  refine aG ?_
  refine aC ?_
  refine tr1 rfl (aV (aA rfl) rfl nF) ?_
  refine tr1 rfl (aZ (aA rfl) rfl (i := 1) rfl rfl bK) ?_
  refine tr1 rfl (bH (aA rfl) rfl rfl rfl) ?_
  refine aF ?_
  refine bQ rfl (fun c6 => ?_) (fun c6 => ?_)
  ·have h := aY c6 h
   refine aG ?_
   refine aC ?_
   refine tr1 rfl (aV (aA rfl) rfl lF) ?_
   refine tr1 rfl (aZ (aA rfl) rfl (i := 1) rfl rfl bK) ?_
   refine tr1 rfl (bH (aA rfl) rfl rfl rfl) ?_
   refine tr1 rfl (aD (v := .d (.lit (.bool ((decide (x_1.Round = 0)))))) (aA rfl) rfl rfl) ?_
   obtain ⟨b7, h8, h⟩ := bind_some h
   refine cC 8 [3] 23 b7 ?_ ?_
   ·refine bI (decide (x_1.Round = 0)) (fun c14 => ?_) (fun c14 => ?_)
    ·have h8 := aY c14 h8
     refine aM rfl rfl (aA rfl) rfl c14 (aV (aA rfl) rfl iK) ?_
     refine aM rfl rfl (aA rfl) rfl c14 (aZ (aA rfl) rfl (i := 1) rfl rfl bK) ?_
     refine aM rfl rfl (aA rfl) rfl c14 (aV (aA rfl) rfl dV) ?_
     refine aM rfl rfl (aA rfl) rfl c14 (aZ (aA rfl) rfl (i := 0) rfl rfl dH) ?_
     refine aM rfl rfl (aA rfl) rfl c14 (dL (aA rfl) rfl cB.of) ?_
     refine aM rfl rfl (aA rfl) rfl c14 (bM (aA rfl) rfl rfl rfl) ?_
     obtain ⟨r15, h16, h8⟩ := bind_some h8
     refine aM rfl rfl (aA rfl) rfl c14 (cS (aA rfl) (.func _ _ Try.call41) rfl rfl (BVs.refl _ _) (fK _ _ _ h16) rfl) ?_
     refine tr1 rfl (bS (v := .d (.lit (.bool r15))) (aA rfl) rfl c14 rfl rfl) ?_
     have h8 := Option.some.inj h8
     subst h8
     refine aF (bC rfl ⟨rfl, trivial⟩ rfl)
    ·have h8 := aX c14 h8
     refine aN rfl rfl (aA rfl) rfl (aA rfl) rfl c14 ?_
     refine aN rfl rfl (aA rfl) rfl (aA rfl) rfl c14 ?_
     refine aN rfl rfl (aA rfl) rfl (aA rfl) rfl c14 ?_
     refine aN rfl rfl (aA rfl) rfl (aA rfl) rfl c14 ?_
     refine aN rfl rfl (aA rfl) rfl (aA rfl) rfl c14 ?_
     refine aN rfl rfl (aA rfl) rfl (aA rfl) rfl c14 ?_
     refine aN rfl rfl (aA rfl) rfl (aA rfl) rfl c14 ?_
     refine tr1 rfl (bR (v := .d (.lit (.bool false))) (aA rfl) rfl c14 rfl rfl) ?_
     have h8 := Option.some.inj h8
     subst h8
     refine aF (bC rfl ⟨rfl, trivial⟩ rfl)
   ·refine tr1 rfl (aD (v := .d (.lit (.bool b7))) (aA rfl) rfl rfl) ?_
    obtain ⟨b9, h10, h⟩ := bind_some h
    refine cC 4 [] 28 b9 ?_ ?_
    ·refine bI (b7) (fun c11 => ?_) (fun c11 => ?_)
     ·have h10 := aY c11 h10
      refine aM rfl rfl (aA rfl) rfl c11 (aV (aA rfl) rfl rC) ?_
      refine aM rfl rfl (aA rfl) rfl c11 (aZ (aA rfl) rfl (i := 1) rfl rfl bK) ?_
      obtain ⟨r12, h13, h10⟩ := bind_some h10
      refine aM rfl rfl (aA rfl) rfl c11 (cS (aA rfl) (.func _ _ Try.call41) rfl rfl (BVs.refl _ _) (fK _ _ _ h13) rfl) ?_
      refine tr1 rfl (bS (v := .d (.lit (.bool r12))) (aA rfl) rfl c11 rfl rfl) ?_
      have h10 := Option.some.inj h10
      subst h10
      refine aF (bC rfl trivial rfl)
     ·have h10 := aX c11 h10
      refine aN rfl rfl (aA rfl) rfl (aA rfl) rfl c11 ?_
      refine aN rfl rfl (aA rfl) rfl (aA rfl) rfl c11 ?_
      refine aN rfl rfl (aA rfl) rfl (aA rfl) rfl c11 ?_
      refine tr1 rfl (bR (v := .d (.lit (.bool false))) (aA rfl) rfl c11 rfl rfl) ?_
      have h10 := Option.some.inj h10
      subst h10
      refine aF (bC rfl trivial rfl)
    ·refine tr1 rfl (aI (v := .d (.lit (.bool b9))) (aA rfl) rfl rfl) ?_
     refine aF ?_
     have h := Option.some.inj h
     subst h
     refine cP (cR (cU (l := [4]) ⟨rfl, trivial⟩)) ?_
     exact bN ⟨rfl, _, .one _, rfl, rfl⟩
  ·have h := aX c6 h
   refine bO ?_
   refine aG ?_
   refine aG ?_
   refine aC ?_
   refine tr1 rfl (aV (aA rfl) rfl nF) ?_
   refine tr1 rfl (aZ (aA rfl) rfl (i := 1) rfl rfl bK) ?_
   obtain ⟨r17, h18, h⟩ := bind_some h
   refine tr1 rfl (cS (aA rfl) (.func _ _ Try.call41) rfl rfl (BVs.refl _ _) (fK _ _ _ h18) rfl) ?_
   refine tr1 rfl (fQ (aA rfl) rfl) ?_
   refine tr1 rfl (aD (v := .d (.lit (.bool (!r17)))) (aA rfl) rfl rfl) ?_
   obtain ⟨b19, h20, h⟩ := bind_some h
   refine cC 8 [2, 3] 41 b19 ?_ ?_
   ·refine bI (!r17) (fun c35 => ?_) (fun c35 => ?_)
    ·have h20 := aY c35 h20
     refine aN rfl rfl (aA rfl) rfl (aA rfl) rfl c35 ?_
     refine aN rfl rfl (aA rfl) rfl (aA rfl) rfl c35 ?_
     refine aN rfl rfl (aA rfl) rfl (aA rfl) rfl c35 ?_
     refine aN rfl rfl (aA rfl) rfl (aA rfl) rfl c35 ?_
     refine aN rfl rfl (aA rfl) rfl (aA rfl) rfl c35 ?_
     refine aN rfl rfl (aA rfl) rfl (aA rfl) rfl c35 ?_
     refine aN rfl rfl (aA rfl) rfl (aA rfl) rfl c35 ?_
     refine tr1 rfl (bS (v := .d (.lit (.bool true))) (aA rfl) rfl c35 rfl rfl) ?_
     have h20 := Option.some.inj h20
     subst h20
     refine aF (bC rfl ⟨rfl, rfl, trivial⟩ rfl)
    ·have h20 := aX c35 h20
     refine aM rfl rfl (aA rfl) rfl c35 (bL (aA rfl) rfl (i := 0) rfl dY (es := (aR t_0)) rfl rfl) ?_
     refine aM rfl rfl (aA rfl) rfl c35 (aV (aA rfl) rfl lF) ?_
     refine aM rfl rfl (aA rfl) rfl c35 (aZ (aA rfl) rfl (i := 1) rfl rfl bK) ?_
     refine aM rfl rfl (aA rfl) rfl c35 (aV (aA rfl) rfl iK) ?_
     refine aM rfl rfl (aA rfl) rfl c35 (aZ (aA rfl) rfl (i := 1) rfl rfl bK) ?_
     obtain ⟨r36, h37, h20⟩ := bind_some h20
     refine aM rfl rfl (aA rfl) rfl c35 (cS (aA rfl) (.func _ _ Try.call13) rfl rfl (BVs.refl _ _) (vJ _ _ _ h37) rfl) ?_
     refine aM rfl rfl (aA rfl) rfl c35 (fQ (aA rfl) rfl) ?_
     refine tr1 rfl (bR (v := .d (.lit (.bool (!r36)))) (aA rfl) rfl c35 rfl rfl) ?_
     have h20 := Option.some.inj h20
     subst h20
     refine aF (bC rfl ⟨rfl, rfl, trivial⟩ rfl)
   ·refine tr1 rfl (aD (v := .d (.lit (.bool b19))) (aA rfl) rfl rfl) ?_
    obtain ⟨b21, h22, h⟩ := bind_some h
    refine cC 4 [2, 3] 46 b21 ?_ ?_
    ·refine bI (b19) (fun c34 => ?_) (fun c34 => ?_)
     ·have h22 := aY c34 h22
      refine aN rfl rfl (aA rfl) rfl (aA rfl) rfl c34 ?_
      refine aN rfl rfl (aA rfl) rfl (aA rfl) rfl c34 ?_
      refine aN rfl rfl (aA rfl) rfl (aA rfl) rfl c34 ?_
      refine tr1 rfl (bS (v := .d (.lit (.bool true))) (aA rfl) rfl c34 rfl rfl) ?_
      have h22 := Option.some.inj h22
      subst h22
      refine aF (bC rfl ⟨rfl, rfl, trivial⟩ rfl)
     ·have h22 := aX c34 h22
      refine aM rfl rfl (aA rfl) rfl c34 (aV (aA rfl) rfl rC) ?_
      refine aM rfl rfl (aA rfl) rfl c34 (aZ (aA rfl) rfl (i := 1) rfl rfl bK) ?_
      refine aM rfl rfl (aA rfl) rfl c34 (bH (aA rfl) rfl rfl rfl) ?_
      refine tr1 rfl (bR (v := .d (.lit (.bool ((!decide (x_1.Old = 0)))))) (aA rfl) rfl c34 rfl rfl) ?_
      have h22 := Option.some.inj h22
      subst h22
      refine aF (bC rfl ⟨rfl, rfl, trivial⟩ rfl)
    ·refine aF ?_
     refine bQ rfl (fun c23 => ?_) (fun c23 => ?_)
     ·have h := aY c23 h
      refine aG ?_
      refine aC ?_
      refine tr1 rfl (aI (v := .d (.lit (.bool false))) (aA rfl) rfl rfl) ?_
      refine aF ?_
      have h := Option.some.inj h
      subst h
      refine cP (cR (cU (l := [4]) ⟨rfl, trivial⟩)) ?_
      exact bN ⟨rfl, _, .one _, rfl, rfl⟩
     ·have h := aX c23 h
      refine bO ?_
      refine aG ?_
      refine aC ?_
      refine tr1 rfl (aV (aA rfl) rfl lF) ?_
      refine tr1 rfl (aZ (aA rfl) rfl (i := 1) rfl rfl bK) ?_
      refine tr1 rfl (bH (aA rfl) rfl rfl rfl) ?_
      refine tr1 rfl (aD (v := .d (.lit (.bool ((decide (0 < x_1.Round)))))) (aA rfl) rfl rfl) ?_
      obtain ⟨b24, h25, h⟩ := bind_some h
      refine cC 20 [] 70 b24 ?_ ?_
      ·refine bI (decide (0 < x_1.Round)) (fun c26 => ?_) (fun c26 => ?_)
       ·have h25 := aY c26 h25
        refine aN rfl rfl (aA rfl) rfl (aA rfl) rfl c26 ?_
        refine aN rfl rfl (aA rfl) rfl (aA rfl) rfl c26 ?_
        refine aN rfl rfl (aA rfl) rfl (aA rfl) rfl c26 ?_
        refine aN rfl rfl (aA rfl) rfl (aA rfl) rfl c26 ?_
        refine aN rfl rfl (aA rfl) rfl (aA rfl) rfl c26 ?_
        refine aN rfl rfl (aA rfl) rfl (aA rfl) rfl c26 ?_
        refine aN rfl rfl (aA rfl) rfl (aA rfl) rfl c26 ?_
        refine aN rfl rfl (aA rfl) rfl (aA rfl) rfl c26 ?_
        refine aN rfl rfl (aA rfl) rfl (aA rfl) rfl c26 ?_
        refine dG rfl rfl (aA rfl) rfl (aA rfl) rfl ?_
        refine dG rfl rfl (aA rfl) rfl (aA rfl) rfl ?_
        refine dG rfl rfl (aA rfl) rfl (aA rfl) rfl ?_
        refine dG rfl rfl (aA rfl) rfl (aA rfl) rfl ?_
        refine dG rfl rfl (aA rfl) rfl (aA rfl) rfl ?_
        refine dG rfl rfl (aA rfl) rfl (aA rfl) rfl ?_
        refine dG rfl rfl (aA rfl) rfl (aA rfl) rfl ?_
        refine dG rfl rfl (aA rfl) rfl (aA rfl) rfl ?_
        refine dG rfl rfl (aA rfl) rfl (aA rfl) rfl ?_
        refine aN rfl rfl (aA rfl) rfl (aA rfl) rfl c26 ?_
        refine tr1 rfl (bS (v := .d (.lit (.bool true))) (aA rfl) rfl c26 rfl rfl) ?_
        have h25 := Option.some.inj h25
        subst h25
        refine aF (bC rfl trivial rfl)
       ·have h25 := aX c26 h25
        refine aM rfl rfl (aA rfl) rfl c26 (aV (aA rfl) rfl dV) ?_
        refine aM rfl rfl (aA rfl) rfl c26 (aZ (aA rfl) rfl (i := 0) rfl rfl dH) ?_
        refine aM rfl rfl (aA rfl) rfl c26 (aV (aA rfl) rfl iK) ?_
        refine aM rfl rfl (aA rfl) rfl c26 (aZ (aA rfl) rfl (i := 1) rfl rfl bK) ?_
        refine aM rfl rfl (aA rfl) rfl c26 (bM (aA rfl) rfl rfl rfl) ?_
        obtain ⟨x27, h28, h25⟩ := bind_some h25
        refine aM rfl rfl (aA rfl) rfl c26 (bT (aA rfl) rfl rfl cB.of (cE aP h28)) ?_
        refine aM rfl rfl (aA rfl) rfl c26 (bV (aA rfl) rfl bK) ?_
        refine aM rfl rfl (aA rfl) rfl c26 (bH (aA rfl) rfl rfl rfl) ?_
        refine aM rfl rfl (aA rfl) rfl c26 (aD (v := .d (.lit (.bool ((!decide (x27 = (-1))))))) (aA rfl) rfl rfl) ?_
        obtain ⟨b29, h30, h25⟩ := bind_some h25
        refine cC 10 [50] 69 b29 ?_ ?_
        ·refine bI (!decide (x27 = (-1))) (fun c31 => ?_) (fun c31 => ?_)
         ·have h30 := aY c31 h30
          refine aM rfl rfl (aA rfl) rfl c31 (aV (aA rfl) rfl dV) ?_
          refine aM rfl rfl (aA rfl) rfl c31 (aZ (aA rfl) rfl (i := 0) rfl rfl dH) ?_
          refine aM rfl rfl (aA rfl) rfl c31 (aV (aA rfl) rfl iK) ?_
          refine aM rfl rfl (aA rfl) rfl c31 (aZ (aA rfl) rfl (i := 1) rfl rfl bK) ?_
          refine aM rfl rfl (aA rfl) rfl c31 (bM (aA rfl) rfl rfl rfl) ?_
          refine aM rfl rfl (aA rfl) rfl c31 (bM (aA rfl) rfl rfl rfl) ?_
          obtain ⟨x32, h33, h30⟩ := bind_some h30
          refine aM rfl rfl (aA rfl) rfl c31 (bT (aA rfl) rfl rfl cB.of (cE aP h33)) ?_
          refine aM rfl rfl (aA rfl) rfl c31 (bV (aA rfl) rfl bK) ?_
          refine aM rfl rfl (aA rfl) rfl c31 (bH (aA rfl) rfl rfl rfl) ?_
          refine aM rfl rfl (aA rfl) rfl c26 (bS (v := .d (.lit (.bool ((!decide (x32 = (-1))))))) (aA rfl) rfl c31 rfl rfl) ?_
          have h30 := Option.some.inj h30
          subst h30
          refine aF (bC rfl ⟨rfl, trivial⟩ rfl)
         ·have h30 := aX c31 h30
          refine aN rfl rfl (aA rfl) rfl (aA rfl) rfl c31 ?_
          refine aN rfl rfl (aA rfl) rfl (aA rfl) rfl c31 ?_
          refine aN rfl rfl (aA rfl) rfl (aA rfl) rfl c31 ?_
          refine aN rfl rfl (aA rfl) rfl (aA rfl) rfl c31 ?_
          refine aN rfl rfl (aA rfl) rfl (aA rfl) rfl c31 ?_
          refine aN rfl rfl (aA rfl) rfl (aA rfl) rfl c31 ?_
          refine aN rfl rfl (aA rfl) rfl (aA rfl) rfl c31 ?_
          refine aN rfl rfl (aA rfl) rfl (aA rfl) rfl c31 ?_
          refine aN rfl rfl (aA rfl) rfl (aA rfl) rfl c31 ?_
          refine aM rfl rfl (aA rfl) rfl c26 (bR (v := .d (.lit (.bool false))) (aA rfl) rfl c31 rfl rfl) ?_
          have h30 := Option.some.inj h30
          subst h30
          refine aF (bC rfl ⟨rfl, trivial⟩ rfl)
        ·refine tr1 rfl (bR (v := .d (.lit (.bool b29))) (aA rfl) rfl c26 rfl rfl) ?_
         have h25 := Option.some.inj h25
         subst h25
         refine aF (bC rfl trivial rfl)
      ·refine tr1 rfl (aI (v := .d (.lit (.bool b24))) (aA rfl) rfl rfl) ?_
       refine aF ?_
       have h := Option.some.inj h
       subst h
       refine cP (cR (cU (l := [4]) ⟨rfl, trivial⟩)) ?_
       exact bN ⟨rfl, _, .one _, rfl, rfl⟩

theorem sQ (l_0 : List aE) {r : (List aE)} (h : kK l_0 = some r) : Fn Try.prog 51 [.d (.sl 5 (l_0.map aL))] (.d (.sl 5 (r.map aL))) := by
 unfold kK at h
 refine Fn.of_tr Try.func51 rfl (rs := [.tmp 2]) Try.results51 Try.ntmps51 (Nat.le_of_ble_eq_true rfl) ?_
 refine aG ?_
 refine aC ?_
 refine tr1 rfl (oW 5 (aA rfl)) ?_
 refine aF ?_
 refine aG ?_
 refine aC ?_
 refine tr1 rfl (iB 32 5 (.inl rfl) (aA rfl)) ?_
 refine aF ?_
 refine aG ?_
 refine aG ?_
 refine aC ?_
 refine tr1 rfl (aI (v := .d (.lit (.int .i64 0))) (aA rfl) rfl rfl) ?_
 refine aF ?_
 refine cH ?_
 refine dR [0] (fun (s2 : Int × (List aE) × Value) => [(3, .d (.lit s2.2.2)), (4, .d (.lit (.int .i64 s2.1)))]) (fun (s2 : Int × (List aE) × Value) => [.arr s2.2.2 32 5 (s2.2.1.map aL)]) (fun (k : Nat) (s2 : Int × (List aE) × Value) => dU l_0 k s2.1 s2.2.1) (fun _ => rfl) (0, ([] : List aE), (.slice none 0 0)) h (bF [0] rfl rfl (aS rfl (aS rfl (bD ⟨rfl, trivial⟩)))) ?_
 rintro k4 ⟨i_0_2, out_0_2, w3⟩ h
 simp only [dU] at h
 refine aG ?_
 refine aG ?_
 refine aC ?_
 refine tr1 rfl (aD (v := .d (.lit (.int .i64 i_0_2))) (aA rfl) rfl rfl) ?_
 refine tr1 rfl (aD (v := .d (.sl 5 (l_0.map aL))) (aA rfl) rfl rfl) ?_
 refine tr1 rfl (dL (aA rfl) rfl fM.of) ?_
 refine tr1 rfl (bH (aA rfl) rfl rfl rfl) ?_
 refine aF ?_
 refine bQ rfl (fun c5 => ?_) (fun c5 => ?_)
 ·have h := aY c5 h
  refine bO ?_
  refine aG ?_
  refine cH ?_
  refine aG ?_
  refine aC ?_
  refine tr1 rfl (aI (v := .d (.lit (.bool false))) (aA rfl) rfl rfl) ?_
  refine aF ?_
  refine aG ?_
  refine aG ?_
  refine aC ?_
  refine tr1 rfl (aI (v := .d (.lit (.int .i64 0))) (aA rfl) rfl rfl) ?_
  refine aF ?_
  refine cH ?_
  refine dR [0, 3, 4] (fun (s6 : Bool × Int) => [(5, .d (.lit (.bool s6.1))), (6, .d (.lit (.int .i64 s6.2)))]) (fun (s6 : Bool × Int) => [.arr w3 32 5 (out_0_2.map aL)]) (fun (k : Nat) (s6 : Bool × Int) => fT (dU l_0 k4) l_0 i_0_2 out_0_2 k s6.1 s6.2) (fun _ => rfl) (false, 0) h (bF [0] rfl rfl (aS rfl (aS rfl (bD ⟨rfl, rfl, rfl, trivial⟩)))) ?_
  rintro k7 ⟨twin_2_6, k_2_6⟩ h
  simp only [fT] at h
  refine aG ?_
  refine aG ?_
  refine aC ?_
  refine tr1 rfl (aD (v := .d (.lit (.int .i64 k_2_6))) (aA rfl) rfl rfl) ?_
  refine tr1 rfl (aD (v := .d (.lit w3)) (aA rfl) rfl rfl) ?_
  refine tr1 rfl (oV (m := 0) (aA rfl) rfl rfl fM.of) ?_
  refine tr1 rfl (bH (aA rfl) rfl rfl rfl) ?_
  refine aF ?_
  refine bQ rfl (fun c8 => ?_) (fun c8 => ?_)
  ·have h := aY c8 h
   refine bO ?_
   refine aG ?_
   refine cH ?_
   obtain ⟨b9, h10, h⟩ := bind_some h
   refine dX mix 12 [0, 3, 4, 6] [(30, .d (.lit (.bool b9)))] ?_ ?_
   ·refine bI (twin_2_6) (fun c11 => ?_) (fun c11 => ?_)
    ·have h10 := aY c11 h10
     have h10 := Option.some.inj h10
     subst h10
     refine ⟨[(19, 0, .d (.lit (.bool twin_2_6))), (20, 1, .d (.lit (.bool twin_2_6))), (21, 2, .tup []), (22, 3, .tup []), (23, 4, .tup []), (24, 5, .tup []), (25, 6, .tup []), (26, 7, .tup []), (27, 8, .tup []), (28, 9, .tup []), (29, 10, .tup []), (30, 11, .d (.lit (.bool true)))], ?_, ?_⟩
     · exact ⟨by kernel_rfl, by kernel_rfl, by kernel_rfl, by kernel_rfl, by kernel_rfl, [([], []), ([0], []), ([1], []), ([1], []), ([1, 2, 3], []), ([1, 4], []), ([1], []), ([1], []), ([1, 6, 7], []), ([1, 8], []), ([1, 5, 9], []), ([1, 10], [])], by kernel_rfl, ⟨fun S hS => aK rfl (aT rfl (aD (v := .d (.lit (.bool twin_2_6))) (aA rfl) (aJ hS rfl) rfl)),
      fun S hS => aK rfl (aT rfl (aD (v := .d (.lit (.bool twin_2_6))) (aA rfl) (aJ hS rfl) rfl)),
      fun S hS => aK rfl (bX rfl rfl (aA rfl) rfl (aA rfl) (bE hS rfl) c11),
      fun S hS => aK rfl (bX rfl rfl (aA rfl) rfl (aA rfl) (bE hS rfl) c11),
      fun S hS => aK rfl (bX rfl rfl (aA rfl) rfl (aA rfl) (bE hS rfl) c11),
      fun S hS => aK rfl (bX rfl rfl (aA rfl) rfl (aA rfl) (bE hS rfl) c11),
      fun S hS => aK rfl (bX rfl rfl (aA rfl) rfl (aA rfl) (bE hS rfl) c11),
      fun S hS => aK rfl (bX rfl rfl (aA rfl) rfl (aA rfl) (bE hS rfl) c11),
      fun S hS => aK rfl (bX rfl rfl (aA rfl) rfl (aA rfl) (bE hS rfl) c11),
      fun S hS => aK rfl (bX rfl rfl (aA rfl) rfl (aA rfl) (bE hS rfl) c11),
      fun S hS => aK rfl (bX rfl rfl (aA rfl) rfl (aA rfl) (bE hS rfl) c11),
      fun S hS => aK rfl (aT rfl (bS (v := .d (.lit (.bool true))) (aA rfl) (aJ hS rfl) c11 rfl rfl)), trivial⟩⟩
     · exact dI (aS rfl (bD ⟨rfl, rfl, rfl, rfl, trivial⟩))
    ·have h10 := aX c11 h10
     obtain ⟨x12, h13, h10⟩ := bind_some h10
     obtain ⟨x14, h15, h10⟩ := bind_some h10
     have h10 := Option.some.inj h10
     subst h10
     refine ⟨[(19, 0, .d (.lit (.bool twin_2_6))), (20, 1, .d (.lit (.bool twin_2_6))), (21, 2, .d (.lit w3)), (22, 3, .d (.lit (.int .i64 k_2_6))), (23, 4, .ep w3 5 k_2_6.toNat 0), (24, 5, .agg (aL x12)), (25, 6, .d (.sl 5 (l_0.map aL))), (26, 7, .d (.lit (.int .i64 i_0_2))), (27, 8, .cp [.lit (.int .i64 x14.Kind), .lit (.int .i64 x14.Round), .lit (.int .i64 x14.Place), .lit (.int .i64 x14.Player), .lit (.int .i64 x14.Old)]), (28, 9, .agg (aL x14)), (29, 10, .d (.lit (.bool ((decide (x12 = x14)))))), (30, 11, .d (.lit (.bool ((decide (x12 = x14))))))], ?_, ?_⟩
     · exact ⟨by kernel_rfl, by kernel_rfl, by kernel_rfl, by kernel_rfl, by kernel_rfl, [([], []), ([0], []), ([1], []), ([1], []), ([1, 2, 3], []), ([1, 4], []), ([1], []), ([1], []), ([1, 6, 7], []), ([1, 8], []), ([1, 5, 9], []), ([1, 10], [])], by kernel_rfl, ⟨fun S hS => aK rfl (aT rfl (aD (v := .d (.lit (.bool twin_2_6))) (aA rfl) (aJ hS rfl) rfl)),
      fun S hS => aK rfl (aT rfl (aD (v := .d (.lit (.bool twin_2_6))) (aA rfl) (aJ hS rfl) rfl)),
      fun S hS => aK rfl (bY rfl rfl (aA rfl) (bE hS rfl) c11 (aD (v := .d (.lit w3)) (aA rfl) (aJ hS rfl) rfl)),
      fun S hS => aK rfl (bY rfl rfl (aA rfl) (bE hS rfl) c11 (aD (v := .d (.lit (.int .i64 k_2_6))) (aA rfl) (aJ hS rfl) rfl)),
      fun S hS => aK rfl (bY rfl rfl (aA rfl) (bE hS rfl) c11 (iX (m := 0) (aA rfl) (aJ hS rfl) rfl (aJ hS rfl) fM.of (cE aL h13))),
      fun S hS => aK rfl (bY rfl rfl (aA rfl) (bE hS rfl) c11 (aHe (aA rfl) (aJ hS rfl) (l := 0) rfl (sG aL h13) jM (es := (aL x12)) rfl rfl)),
      fun S hS => aK rfl (bY rfl rfl (aA rfl) (bE hS rfl) c11 (aD (v := .d (.sl 5 (l_0.map aL))) (aA rfl) (aJ hS rfl) rfl)),
      fun S hS => aK rfl (bY rfl rfl (aA rfl) (bE hS rfl) c11 (aD (v := .d (.lit (.int .i64 i_0_2))) (aA rfl) (aJ hS rfl) rfl)),
      fun S hS => aK rfl (bY rfl rfl (aA rfl) (bE hS rfl) c11 (bT (aA rfl) (aJ hS rfl) (aJ hS rfl) fM.of (cE aL h15))),
      fun S hS => aK rfl (bY rfl rfl (aA rfl) (bE hS rfl) c11 (gP (aA rfl) (aJ hS rfl) jM (es := (aL x14)) rfl rfl)),
      fun S hS => aK rfl (bY rfl rfl (aA rfl) (bE hS rfl) c11 (yF (a := x12) (b := x14) (aA rfl) (aJ hS rfl) (aJ hS rfl) rfl rfl Try.eqGuardType32 aDn)),
      fun S hS => aK rfl (aT rfl (bR (v := .d (.lit (.bool ((decide (x12 = x14)))))) (aA rfl) (aJ hS rfl) c11 (aJ hS rfl) rfl)), trivial⟩⟩
     · exact dI (aS rfl (bD ⟨rfl, rfl, rfl, rfl, trivial⟩))
   ·refine tr1 rfl (aI (v := .d (.lit (.bool b9))) (aA rfl) rfl rfl) ?_
    refine fF ?_
    refine aC ?_
    refine tr1 rfl (aD (v := .d (.lit (.int .i64 k_2_6))) (aA rfl) rfl rfl) ?_
    refine tr1 rfl (bM (aA rfl) rfl rfl rfl) ?_
    refine tr1 rfl (aI (v := .d (.lit (.int .i64 ((w64 (k_2_6 + 1)))))) (aA rfl) rfl rfl) ?_
    refine aF ?_
    exact ⟨(b9, w64 (k_2_6 + 1)), h, bF [0] rfl rfl (aS rfl (aS rfl (bD ⟨rfl, rfl, rfl, trivial⟩)))⟩
  ·have h := aX c8 h
   refine dF ?_
   refine .inl ⟨rfl, ?_⟩
   simp only [kD] at h
   refine aG ?_
   refine aC ?_
   refine tr1 rfl (aD (v := .d (.lit (.bool twin_2_6))) (aA rfl) rfl rfl) ?_
   refine tr1 rfl (fQ (aA rfl) rfl) ?_
   refine aF ?_
   refine bQ rfl (fun c16 => ?_) (fun c16 => ?_)
   ·have h := aY c16 h
    refine aC ?_
    refine tr1 rfl (aD (v := .d (.lit w3)) (aA rfl) rfl rfl) ?_
    refine tr1 rfl (aD (v := .d (.sl 5 (l_0.map aL))) (aA rfl) rfl rfl) ?_
    refine tr1 rfl (aD (v := .d (.lit (.int .i64 i_0_2))) (aA rfl) rfl rfl) ?_
    obtain ⟨x17, h18, h⟩ := bind_some h
    refine tr1 rfl (bT (aA rfl) rfl rfl fM.of (cE aL h18)) ?_
    refine tr1 rfl (gP (aA rfl) rfl jM (es := (aL x17)) rfl rfl) ?_
    refine tr1 rfl (eW (aA rfl) fM rfl rfl (rows := ([x17]).map aL) rfl (cV (f := aL) fun _ => rfl) rfl (by decide)) ?_
    obtain ⟨x19, h20, h⟩ := bind_some h
    refine bU rfl (eI (i := 0) (aA rfl) fM rfl rfl rfl (fun _ => rfl) h20 rfl) ?_
    rintro _ ⟨v21, rfl⟩
    refine tr1 rfl (aI (v := .d (.lit v21)) (aA rfl) rfl rfl) ?_
    refine fF ?_
    simp only [iU] at h
    refine aC ?_
    refine tr1 rfl (aD (v := .d (.lit (.int .i64 i_0_2))) (aA rfl) rfl rfl) ?_
    refine tr1 rfl (bM (aA rfl) rfl rfl rfl) ?_
    refine tr1 rfl (aI (v := .d (.lit (.int .i64 ((w64 (i_0_2 + 1)))))) (aA rfl) rfl rfl) ?_
    refine aF ?_
    exact ⟨(w64 (i_0_2 + 1), x19, v21), h, bF [0] rfl rfl (aS rfl (aS rfl (bD ⟨rfl, trivial⟩)))⟩
   ·have h := aX c16 h
    refine eG ?_
    simp only [iU] at h
    refine aC ?_
    refine tr1 rfl (aD (v := .d (.lit (.int .i64 i_0_2))) (aA rfl) rfl rfl) ?_
    refine tr1 rfl (bM (aA rfl) rfl rfl rfl) ?_
    refine tr1 rfl (aI (v := .d (.lit (.int .i64 ((w64 (i_0_2 + 1)))))) (aA rfl) rfl rfl) ?_
    refine aF ?_
    exact ⟨(w64 (i_0_2 + 1), out_0_2, w3), h, bF [0] rfl rfl (aS rfl (aS rfl (bD ⟨rfl, trivial⟩)))⟩
 ·have h := aX c5 h
  refine dF ?_
  refine .inl ⟨rfl, ?_⟩
  simp only [oK] at h
  refine aG ?_
  refine aC ?_
  refine tr1 rfl (aD (v := .d (.lit w3)) (aA rfl) rfl rfl) ?_
  refine tr1 rfl (aI (v := .d (.lit w3)) (aA rfl) rfl rfl) ?_
  refine aF ?_
  have h := Option.some.inj h
  subst h
  refine cP (cR (lR (k := 2) (v := .d (.sl 5 (out_0_2.map aL))) (.d (kR 0 rfl (cV (f := aL) fun _ => rfl))) (uR))) ?_
  exact bN ⟨rfl, _, .one _, rfl, rfl⟩

theorem aAi (l_0 : List Int) (n_1 : Int) {r : Bool} (h : nM l_0 n_1 = some r) : Fn Try.prog 52 [.d (.sl 1 (l_0.map aP)), .d (.lit (.int .i64 n_1))] (.d (.lit (.bool r))) := by
 unfold nM at h
 refine Fn.of_tr Try.func52 rfl (rs := [.tmp 4]) Try.results52 Try.ntmps52 (Nat.le_of_ble_eq_true rfl) ?_
 refine aG ?_
 refine aC ?_
 refine tr1 rfl (aI (v := .d (.lit (.bool false))) (aA rfl) rfl rfl) ?_
 refine aF ?_
 refine aG ?_
 refine aG ?_
 refine aC ?_
 refine tr1 rfl (aI (v := .d (.lit (.int .i64 0))) (aA rfl) rfl rfl) ?_
 refine aF ?_
 refine cH ?_
 refine dR [0, 1] (fun (s1 : Int) => [(5, .d (.lit (.int .i64 s1)))]) (fun (s1 : Int) => []) (fun (k : Nat) (s1 : Int) => iI l_0 n_1 k s1) (fun _ => rfl) (0) h (bF [] rfl rfl (aS rfl (bD ⟨rfl, rfl, trivial⟩))) ?_
 rintro k2 i_0_1 h
 simp only [iI] at h
 refine aG ?_
 refine aG ?_
 refine aC ?_
 refine tr1 rfl (aD (v := .d (.lit (.int .i64 i_0_1))) (aA rfl) rfl rfl) ?_
 refine tr1 rfl (aD (v := .d (.sl 1 (l_0.map aP))) (aA rfl) rfl rfl) ?_
 refine tr1 rfl (dL (aA rfl) rfl cB.of) ?_
 refine tr1 rfl (bH (aA rfl) rfl rfl rfl) ?_
 refine aF ?_
 refine bQ rfl (fun c3 => ?_) (fun c3 => ?_)
 ·have h := aY c3 h
  refine bO ?_
  refine aG ?_
  refine cH ?_
  refine aG ?_
  refine aC ?_
  refine tr1 rfl (aD (v := .d (.sl 1 (l_0.map aP))) (aA rfl) rfl rfl) ?_
  refine tr1 rfl (aD (v := .d (.lit (.int .i64 i_0_1))) (aA rfl) rfl rfl) ?_
  obtain ⟨x4, h5, h⟩ := bind_some h
  refine tr1 rfl (bT (aA rfl) rfl rfl cB.of (cE aP h5)) ?_
  refine tr1 rfl (bV (aA rfl) rfl bK) ?_
  refine tr1 rfl (aD (v := .d (.lit (.int .i64 n_1))) (aA rfl) rfl rfl) ?_
  refine tr1 rfl (bH (aA rfl) rfl rfl rfl) ?_
  refine aF ?_
  refine bQ rfl (fun c6 => ?_) (fun c6 => ?_)
  ·have h := aY c6 h
   refine aG ?_
   refine aC ?_
   refine tr1 rfl (aI (v := .d (.lit (.bool true))) (aA rfl) rfl rfl) ?_
   refine aF ?_
   have h := Option.some.inj h
   subst h
   exact bN ⟨rfl, _, .one _, rfl, rfl⟩
  ·have h := aX c6 h
   refine eG ?_
   refine aC ?_
   refine tr1 rfl (aD (v := .d (.lit (.int .i64 i_0_1))) (aA rfl) rfl rfl) ?_
   refine tr1 rfl (bM (aA rfl) rfl rfl rfl) ?_
   refine tr1 rfl (aI (v := .d (.lit (.int .i64 ((w64 (i_0_1 + 1)))))) (aA rfl) rfl rfl) ?_
   refine aF ?_
   exact ⟨(w64 (i_0_1 + 1)), h, bF [] rfl rfl (aS rfl (bD ⟨rfl, rfl, trivial⟩))⟩
 ·have h := aX c3 h
  refine dF ?_
  refine .inl ⟨rfl, ?_⟩
  simp only [pL] at h
  refine aG ?_
  refine aC ?_
  refine tr1 rfl (aI (v := .d (.lit (.bool false))) (aA rfl) rfl rfl) ?_
  refine aF ?_
  have h := Option.some.inj h
  subst h
  exact bN ⟨rfl, _, .one _, rfl, rfl⟩

end Go.Am
