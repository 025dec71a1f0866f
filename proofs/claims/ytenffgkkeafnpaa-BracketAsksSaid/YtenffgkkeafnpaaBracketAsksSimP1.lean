/- The functions compute what the shallow ones say: printed by program. -/
import Derived.Test.YtenffgkkeafnpaaBkSh
import Derived.Test.YtenffgkkeafnpaaAmFam2
import Derived.Test.YtenffgkkeafnpaaAmRange
import Derived.Test.YtenffgkkeafnpaaAmSort
import Derived.Test.YtenffgkkeafnpaaTryShelf
import Derived.Test.YtenffgkkeafnpaaBkDet
import Derived.Test.YtenffgkkeafnpaaChecked
import Derived.KernelRfl
namespace Go.Am
open Go.Proofs
set_option maxRecDepth 100000
set_option maxHeartbeats 4000000

theorem mix : Try.prog.follows .mixedOrders = true := Checked.mixed Try.checked

theorem cV : pM Try.prog 24 2 := ⟨Try.isAgg24, Try.sizeOf24⟩
theorem gT : SliceTy Try.prog 25 32 5 40 (.agg #[.int .i64 0, .int .i64 0, .int .i64 0, .int .i64 0, .int .i64 0]) := ⟨Try.underlying25, ⟨Try.t32, by kernel_rfl, rfl, rfl, rfl⟩, rfl, by decide⟩
theorem vJ : gH Try.prog 27 0 0 := eS Try.runUnderlying27 rfl rfl Try.sizeOf3
theorem bJ : oY Try.prog 3 := ⟨Try.isAgg3, Try.sizeOf3⟩
theorem vK : gH Try.prog 27 1 1 := eS Try.runUnderlying27 rfl rfl Try.sizeOf3
theorem vL : gH Try.prog 27 2 2 := eS Try.runUnderlying27 rfl rfl Try.sizeOf3
theorem aDt : gH Try.prog 27 3 3 := eS Try.runUnderlying27 rfl rfl Try.sizeOf3
theorem pJ : pM Try.prog 39 2 := ⟨Try.isAgg39, Try.sizeOf39⟩
theorem aIg : zB Try.prog 39 cQ := by
  rintro ⟨a0, a1⟩ ⟨b0, b1⟩ w
  simp [cQ, bK, go_sem, Op.eqFields, Program.fieldsOf] <;> (repeat' split) <;> simp_all
theorem dU : gH Try.prog 24 1 1 := eS Try.runUnderlying24 rfl rfl Try.sizeOf22
theorem cU : oY Try.prog 22 := ⟨Try.isAgg22, Try.sizeOf22⟩
theorem bS : SliceTy Try.prog 22 3 1 8 (.int .i64 0) := ⟨Try.underlying22, ⟨Try.t3, by kernel_rfl, rfl, rfl, rfl⟩, rfl, by decide⟩
theorem aBe : SliceTy Try.prog 48 57 4 32 (.agg #[.int .i64 0, .int .i64 0, .int .i64 0, .int .i64 0]) := ⟨Try.underlying48, ⟨Try.t57, by kernel_rfl, rfl, rfl, rfl⟩, rfl, by decide⟩
theorem aDf : pM Try.prog 57 4 := ⟨Try.isAgg57, Try.sizeOf57⟩
theorem aEp : oG Try.prog 57 (.agg #[.int .i64 0, .int .i64 0, .int .i64 0, .int .i64 0]) [(0, 1), (1, 1), (2, 1), (3, 1)] := ⟨Try.zeroValue57, _, Try.runUnderlying57, fun w => by simp [Try.sizeOf3]⟩
theorem aIh : zB Try.prog 57 dL := by
  rintro ⟨a0, a1, a2, a3⟩ ⟨b0, b1, b2, b3⟩ w
  simp [dL, bK, go_sem, Op.eqFields, Program.fieldsOf] <;> (repeat' split) <;> simp_all
theorem sL : oG Try.prog 39 (.agg #[.int .i64 0, .int .i64 0]) [(0, 1), (1, 1)] := ⟨Try.zeroValue39, _, Try.runUnderlying39, fun w => by simp [Try.sizeOf3]⟩
theorem aJe : oG Try.prog 24 (.agg #[.int .i64 0, .slice none 0 0]) [(0, 1), (1, 1)] := ⟨Try.zeroValue24, _, Try.runUnderlying24, fun w => by simp [Try.sizeOf22, Try.sizeOf3]⟩
theorem aBg : oG Try.prog 32 (.agg #[.int .i64 0, .int .i64 0, .int .i64 0, .int .i64 0, .int .i64 0]) [(0, 1), (1, 1), (2, 1), (3, 1), (4, 1)] := ⟨Try.zeroValue32, _, Try.runUnderlying32, fun w => by simp [Try.sizeOf3]⟩
theorem aIs : oY Try.prog 48 := ⟨Try.isAgg48, Try.sizeOf48⟩
theorem fA : gH Try.prog 24 0 0 := eS Try.runUnderlying24 rfl rfl Try.sizeOf3
theorem aGu : oZ Try.prog 3 (fun n : Int => Value.int .i64 n) := aIi Try.underlying3
theorem jP : pM Try.prog 32 5 := ⟨Try.isAgg32, Try.sizeOf32⟩
theorem mH : gH Try.prog 32 3 3 := eS Try.runUnderlying32 rfl rfl Try.sizeOf3
theorem nK : gH Try.prog 32 0 0 := eS Try.runUnderlying32 rfl rfl Try.sizeOf3
theorem lH : gH Try.prog 32 1 1 := eS Try.runUnderlying32 rfl rfl Try.sizeOf3
theorem iQ : gH Try.prog 32 2 2 := eS Try.runUnderlying32 rfl rfl Try.sizeOf3
theorem rL : gH Try.prog 32 4 4 := eS Try.runUnderlying32 rfl rfl Try.sizeOf3
theorem uY : oG Try.prog 70 (.agg #[.int .i64 0, .int .i64 0]) [(0, 1), (1, 1)] := ⟨Try.zeroValue70, _, Try.runUnderlying70, fun w => by simp [Try.sizeOf3]⟩
theorem iZ : pM Try.prog 70 2 := ⟨Try.isAgg70, Try.sizeOf70⟩
theorem nL : gH Try.prog 70 0 0 := eS Try.runUnderlying70 rfl rfl Try.sizeOf3
theorem aDu : gH Try.prog 70 1 1 := eS Try.runUnderlying70 rfl rfl Try.sizeOf3
theorem aMj : oG Try.prog 75 (.agg #[.int .i64 0, .slice none 0 0, .slice none 0 0, .map none]) [(0, 2), (2, 1), (3, 1)] := ⟨Try.zeroValue75, _, Try.runUnderlying75, fun w => by simp [Try.sizeOf22, Try.sizeOf24, Try.sizeOf73]⟩
theorem aDp : zB Try.prog 32 aL := by
  rintro ⟨a0, a1, a2, a3, a4⟩ ⟨b0, b1, b2, b3, b4⟩ w
  simp [aL, bK, go_sem, Op.eqFields, Program.fieldsOf] <;> (repeat' split) <;> simp_all
theorem aLw (b : Bool) (a : aG) (w : World) : (Instr.checkKey b 10000 32 (.agg ((aL a).map bK).toArray)).run Try.prog w = .ok () w := by
  obtain ⟨a1, a2, a3, a4, a5⟩ := a
  rw [show (10000 : Nat) = 9990 + 10 from rfl]
  generalize (9990 : Nat) = m
  simp [Instr.checkKey, aL, bK, go_sem, Std.Legacy.Range.forIn_eq_forIn_range', Std.Legacy.Range.size]
theorem aDx : oZ Try.prog 32 (fun a : aG => Value.agg ((aL a).map bK).toArray) :=
  xJ Try.underlying32 aDp aLw (fun a w => aDw _ rfl _ _) (by
    rintro ⟨a1, a2, a3, a4, a5⟩ ⟨b1, b2, b3, b4, b5⟩ h
    simp [aL] at h ⊢
    simp_all) (fun _ => rfl)
theorem uQ : zB Try.prog 70 aK := by
  rintro ⟨a0, a1⟩ ⟨b0, b1⟩ w
  simp [aK, bK, go_sem, Op.eqFields, Program.fieldsOf] <;> (repeat' split) <;> simp_all
theorem aLx (b : Bool) (a : aB) (w : World) : (Instr.checkKey b 10000 70 (.agg ((aK a).map bK).toArray)).run Try.prog w = .ok () w := by
  obtain ⟨a1, a2⟩ := a
  rw [show (10000 : Nat) = 9990 + 10 from rfl]
  generalize (9990 : Nat) = m
  simp [Instr.checkKey, aK, bK, go_sem, Std.Legacy.Range.forIn_eq_forIn_range', Std.Legacy.Range.size]
theorem sF : oZ Try.prog 70 (fun a : aB => Value.agg ((aK a).map bK).toArray) :=
  xJ Try.underlying70 uQ aLx (fun a w => aDw _ rfl _ _) (by
    rintro ⟨a1, a2⟩ ⟨b1, b2⟩ h
    simp [aK] at h ⊢
    simp_all) (fun _ => rfl)
theorem kP : gH Try.prog 75 1 2 := eS Try.runUnderlying75 rfl rfl Try.sizeOf22
theorem nM : gH Try.prog 75 0 0 := eS Try.runUnderlying75 rfl rfl Try.sizeOf24
theorem pZ : gH Try.prog 75 2 3 := eS Try.runUnderlying75 rfl rfl Try.sizeOf73
theorem tO : oY Try.prog 73 := ⟨Try.isAgg73, Try.sizeOf73⟩
theorem lU : pM Try.prog 89 2 := ⟨Try.isAgg89, Try.sizeOf89⟩
theorem yB : oG Try.prog 89 (.agg #[.slice none 0 0, .slice none 0 0]) [(0, 1), (1, 1)] := ⟨Try.zeroValue89, _, Try.runUnderlying89, fun w => by simp [Try.sizeOf22, Try.sizeOf53]⟩
theorem kQ : gH Try.prog 89 1 1 := eS Try.runUnderlying89 rfl rfl Try.sizeOf53
theorem oU : oY Try.prog 53 := ⟨Try.isAgg53, Try.sizeOf53⟩
theorem pS : SliceTy Try.prog 53 22 1 24 (.slice none 0 0) := ⟨Try.underlying53, ⟨Try.t22, by kernel_rfl, rfl, rfl, rfl⟩, rfl, by decide⟩
theorem qA : gH Try.prog 89 0 0 := eS Try.runUnderlying89 rfl rfl Try.sizeOf22

theorem zK (t_0 : aO) (l_1 : List aG) {r : Bool} (h : mQ t_0 l_1 = some r) : Fn Try.prog 27 [.agg (aQ t_0), .d (.sl 5 (l_1.map aL))] (.d (.lit (.bool r))) := by
 unfold mQ at h
 refine Fn.of_tr Try.func27 rfl (rs := [.tmp 4]) Try.results27 Try.ntmps27 (Nat.le_of_ble_eq_true rfl) ?_
 refine aE ?_
 refine aC ?_
 refine bV rfl (eH (v := .agg (aQ t_0)) (aA rfl) rfl rfl rfl) ?_
 rintro _ ⟨b1, rfl⟩
 refine tr1 rfl (aJ (v := .d (.lit (.bool false))) (aA rfl) rfl rfl) ?_
 refine aF ?_
 refine aE ?_
 refine aC ?_
 refine tr1 rfl (aV (aA rfl) rfl dU) ?_
 refine tr1 rfl (aW (aA rfl) rfl (i := 0) rfl rfl cU) ?_
 refine tr1 rfl (eB (aA rfl) rfl bS.of) ?_
 refine tr1 rfl (bI (aA rfl) rfl rfl rfl) ?_
 refine tr1 rfl (aD (v := .d (.lit (.bool ((decide (100 < (t_0.Slots.length : Int))))))) (aA rfl) rfl rfl) ?_
 obtain ⟨b2, h3, h⟩ := bind_some h
 refine cF 4 [] 13 b2 ?_ ?_
 ·refine bN (decide (100 < (t_0.Slots.length : Int))) (fun c4 => ?_) (fun c4 => ?_)
  ·have h3 := aZ c4 h3
   refine aP rfl rfl (aA rfl) rfl (aA rfl) rfl c4 ?_
   refine aP rfl rfl (aA rfl) rfl (aA rfl) rfl c4 ?_
   refine aP rfl rfl (aA rfl) rfl (aA rfl) rfl c4 ?_
   refine tr1 rfl (bW (v := .d (.lit (.bool true))) (aA rfl) rfl c4 rfl rfl) ?_
   have h3 := Option.some.inj h3
   subst h3
   refine aF (bE rfl trivial rfl)
  ·have h3 := aY c4 h3
   refine aM rfl rfl (aA rfl) rfl c4 (aD (v := .d (.sl 5 (l_1.map aL))) (aA rfl) rfl rfl) ?_
   refine aM rfl rfl (aA rfl) rfl c4 (eB (aA rfl) rfl gT.of) ?_
   refine aM rfl rfl (aA rfl) rfl c4 (bI (aA rfl) rfl rfl rfl) ?_
   refine tr1 rfl (bX (v := .d (.lit (.bool ((decide (100 < (l_1.length : Int))))))) (aA rfl) rfl c4 rfl rfl) ?_
   have h3 := Option.some.inj h3
   subst h3
   refine aF (bE rfl trivial rfl)
 ·refine tr1 rfl (aJ (v := .d (.lit (.bool b2))) (aA rfl) rfl rfl) ?_
  refine aF ?_
  have h := Option.some.inj h
  subst h
  refine cL (cG (cK (l := [4]) ⟨rfl, trivial⟩)) ?_
  exact bM ⟨rfl, _, .one _, rfl, rfl⟩

theorem vG {r : aO × (List aG)} (h : oL = some r) : Fn Try.prog 43 [] (.tup [.agg (aQ r.1), .d (.sl 5 (r.2.map aL))]) := by
 unfold oL at h
 refine nQ Try.func43 rfl (rs := [.cell 0 24, .tmp 1]) Try.results43 Try.ntmps43 (Nat.le_of_ble_eq_true rfl) ?_
 refine aE ?_
 refine aC ?_
 refine bV rfl (dJ (zs := [.lit (.int .i64 0), .sl 1 ((([] : List Int)).map aN)]) (aA rfl) Try.zeroValue24 rfl rfl) ?_
 rintro _ ⟨b1, rfl⟩
 refine tr1 rfl (qW 5 (aA rfl)) ?_
 refine aF ?_
 refine aE ?_
 refine aC ?_
 refine tr1 rfl (fQ (aA rfl) bS rfl rfl (rows := ([1, (-1), 2, 3, 4, 5, 6, 7]).map aN) rfl (dG (f := aN) fun _ => rfl) rfl (by decide)) ?_
 refine tr1 rfl (eE (aA rfl) aJe (zs := [.lit (.int .i64 0), .sl 1 ((([] : List Int)).map aN)]) rfl rfl rfl rfl (es := [.lit (.int .i64 3), .sl 1 ((([1, (-1), 2, 3, 4, 5, 6, 7])).map aN)]) rfl) ?_
 refine bV rfl (dJ (zs := [.lit (.int .i64 0), .sl 1 ((([] : List Int)).map aN)]) (aA rfl) Try.zeroValue24 rfl rfl) ?_
 rintro _ ⟨b2, rfl⟩
 refine tr1 rfl (cB (i := 1) rfl rfl rfl rfl rfl Try.sizeOf24 rfl (aA rfl) (Nat.le_of_ble_eq_true rfl) (ds' := (aQ (aO.mk 3 ([1, (-1), 2, 3, 4, 5, 6, 7])))) rfl) ?_
 refine aF ?_
 refine aE ?_
 refine aC ?_
 refine tr1 rfl (bH (aA rfl) rfl (i := 1) rfl cV (es := (aQ (aO.mk 3 ([1, (-1), 2, 3, 4, 5, 6, 7])))) rfl rfl) ?_
 refine tr1 rfl (eE (aA rfl) aBg (zs := [.lit (.int .i64 0), .lit (.int .i64 0), .lit (.int .i64 0), .lit (.int .i64 0), .lit (.int .i64 0)]) rfl rfl rfl rfl (es := [.lit (.int .i64 1), .lit (.int .i64 1), .lit (.int .i64 0), .lit (.int .i64 2), .lit (.int .i64 0)]) rfl) ?_
 refine tr1 rfl (eE (aA rfl) aBg (zs := [.lit (.int .i64 0), .lit (.int .i64 0), .lit (.int .i64 0), .lit (.int .i64 0), .lit (.int .i64 0)]) rfl rfl rfl rfl (es := [.lit (.int .i64 3), .lit (.int .i64 0), .lit (.int .i64 3), .lit (.int .i64 7), .lit (.int .i64 0)]) rfl) ?_
 refine tr1 rfl (eE (aA rfl) aBg (zs := [.lit (.int .i64 0), .lit (.int .i64 0), .lit (.int .i64 0), .lit (.int .i64 0), .lit (.int .i64 0)]) rfl rfl rfl rfl (es := [.lit (.int .i64 5), .lit (.int .i64 0), .lit (.int .i64 4), .lit (.int .i64 8), .lit (.int .i64 4)]) rfl) ?_
 refine tr1 rfl (fQ (aA rfl) gT rfl rfl (rows := ([(aG.mk 1 1 0 2 0), (aG.mk 3 0 3 7 0), (aG.mk 5 0 4 8 4)]).map aL) rfl (dG (f := aL) fun _ => rfl) rfl (by decide)) ?_
 refine tr1 rfl (cB (i := 0) rfl rfl rfl rfl rfl Try.sizeOf24 rfl (aA rfl) (Nat.le_of_ble_eq_true rfl) (ds' := (aQ (aO.mk 3 ([1, (-1), 2, 3, 4, 5, 6, 7])))) rfl) ?_
 refine tr1 rfl (aJ (v := .d (.sl 5 ((([(aG.mk 1 1 0 2 0), (aG.mk 3 0 3 7 0), (aG.mk 5 0 4 8 4)])).map aL))) (aA rfl) rfl rfl) ?_
 refine aF ?_
 have h := Option.some.inj h
 subst h
 exact bM ⟨rfl, _, [.box b1 0 (aQ (aO.mk 3 ([1, (-1), 2, 3, 4, 5, 6, 7]))), .box b2 0 (aQ (aO.mk 3 ([1, (-1), 2, 3, 4, 5, 6, 7])))], .two (.cell 0 24 rfl (i := 0) rfl cV (es := (aQ (aO.mk 3 ([1, (-1), 2, 3, 4, 5, 6, 7])))) rfl rfl) (.tmp 1 (v := .d (.sl 5 ((([(aG.mk 1 1 0 2 0), (aG.mk 3 0 3 7 0), (aG.mk 5 0 4 8 4)])).map aL))) rfl), .refl _, .same _⟩

theorem eP (n_0 : Int) (low_1 : Int) (high_2 : Int) {r : Bool} (h : eK n_0 low_1 high_2 = some r) : Fn Try.prog 72 [.d (.lit (.int .i64 n_0)), .d (.lit (.int .i64 low_1)), .d (.lit (.int .i64 high_2))] (.d (.lit (.bool r))) := by
 unfold eK at h
 refine Fn.of_tr Try.func72 rfl (rs := [.tmp 6]) Try.results72 Try.ntmps72 (Nat.le_of_ble_eq_true rfl) ?_
 refine aE ?_
 refine aC ?_
 refine tr1 rfl (aJ (v := .d (.lit (.bool false))) (aA rfl) rfl rfl) ?_
 refine aF ?_
 refine aE ?_
 refine aC ?_
 refine tr1 rfl (aD (v := .d (.lit (.int .i64 low_1))) (aA rfl) rfl rfl) ?_
 refine tr1 rfl (aD (v := .d (.lit (.int .i64 n_0))) (aA rfl) rfl rfl) ?_
 refine tr1 rfl (bI (aA rfl) rfl rfl rfl) ?_
 refine tr1 rfl (aD (v := .d (.lit (.bool ((decide (low_1 ≤ n_0)))))) (aA rfl) rfl rfl) ?_
 obtain ⟨b1, h2, h⟩ := bind_some h
 refine cF 4 [] 14 b1 ?_ ?_
 ·refine bN (decide (low_1 ≤ n_0)) (fun c3 => ?_) (fun c3 => ?_)
  ·have h2 := aZ c3 h2
   refine aM rfl rfl (aA rfl) rfl c3 (aD (v := .d (.lit (.int .i64 n_0))) (aA rfl) rfl rfl) ?_
   refine aM rfl rfl (aA rfl) rfl c3 (aD (v := .d (.lit (.int .i64 high_2))) (aA rfl) rfl rfl) ?_
   refine aM rfl rfl (aA rfl) rfl c3 (bI (aA rfl) rfl rfl rfl) ?_
   refine tr1 rfl (bW (v := .d (.lit (.bool ((decide (n_0 ≤ high_2)))))) (aA rfl) rfl c3 rfl rfl) ?_
   have h2 := Option.some.inj h2
   subst h2
   refine aF (bE rfl trivial rfl)
  ·have h2 := aY c3 h2
   refine aP rfl rfl (aA rfl) rfl (aA rfl) rfl c3 ?_
   refine aP rfl rfl (aA rfl) rfl (aA rfl) rfl c3 ?_
   refine aP rfl rfl (aA rfl) rfl (aA rfl) rfl c3 ?_
   refine tr1 rfl (bX (v := .d (.lit (.bool false))) (aA rfl) rfl c3 rfl rfl) ?_
   have h2 := Option.some.inj h2
   subst h2
   refine aF (bE rfl trivial rfl)
 ·refine tr1 rfl (aJ (v := .d (.lit (.bool b1))) (aA rfl) rfl rfl) ?_
  refine aF ?_
  have h := Option.some.inj h
  subst h
  exact bM ⟨rfl, _, .one _, rfl, rfl⟩

theorem zH (t_0 : aO) {r : Bool} (h : lB t_0 = some r) : Fn Try.prog 67 [.agg (aQ t_0)] (.d (.lit (.bool r))) := by
 unfold lB at h
 refine Fn.of_tr Try.func67 rfl (rs := [.tmp 2]) Try.results67 Try.ntmps67 (Nat.le_of_ble_eq_true rfl) ?_
 refine aE ?_
 refine aC ?_
 refine bV rfl (eH (v := .agg (aQ t_0)) (aA rfl) rfl rfl rfl) ?_
 rintro _ ⟨b1, rfl⟩
 refine tr1 rfl (aJ (v := .d (.lit (.bool false))) (aA rfl) rfl rfl) ?_
 refine aF ?_
 refine aE ?_
 refine aE ?_
 obtain ⟨r2, h3, h⟩ := bind_some h
 obtain ⟨b4, h5, h⟩ := bind_some h
 refine dM mix 13 [1] [(18, .d (.lit (.bool b4)))] ?_ ?_
 ·refine bN (!r2) (fun c6 => ?_) (fun c6 => ?_)
  ·have h5 := aZ c6 h5
   have h5 := Option.some.inj h5
   subst h5
   refine ⟨[(6, 0, .bp b1 0 0), (7, 1, .d (.lit (.int .i64 t_0.Rounds))), (8, 2, .d (.lit (.bool r2))), (9, 3, .d (.lit (.bool (!r2)))), (10, 4, .d (.lit (.bool (!r2)))), (11, 5, .tup []), (12, 6, .tup []), (13, 7, .tup []), (14, 8, .tup []), (15, 9, .tup []), (16, 10, .tup []), (17, 11, .tup []), (18, 12, .d (.lit (.bool true)))], ?_, ?_⟩
   · exact ⟨by kernel_rfl, by kernel_rfl, by kernel_rfl, by kernel_rfl, by kernel_rfl, [([], []), ([0], []), ([1], []), ([2], []), ([3], []), ([4], []), ([4, 5], []), ([4, 6], []), ([4], []), ([4, 8], []), ([4, 9], []), ([4, 7, 10], []), ([4, 11], [])], by kernel_rfl, ⟨fun S hS => aH rfl (aT rfl (aV (aA rfl) (aI hS rfl) fA)),
      fun S hS => aH rfl (aT rfl (aW (aA rfl) (aI hS rfl) (i := 0) rfl rfl bJ)),
      fun S hS => aH rfl (aT rfl (cH (aA rfl) (.func _ _ Try.call72) (ev2 (aI hS rfl) (ev2 rfl (ev2 rfl evn))) rfl (BVs.refl _ _) (eP _ _ _ h3) rfl)),
      fun S hS => aH rfl (aT rfl (fU (aA rfl) (aI hS rfl))),
      fun S hS => aH rfl (aT rfl (aD (v := .d (.lit (.bool (!r2)))) (aA rfl) (aI hS rfl) rfl)),
      fun S hS => aH rfl (bG rfl rfl (aA rfl) rfl (aA rfl) (aS hS rfl) c6),
      fun S hS => aH rfl (bG rfl rfl (aA rfl) rfl (aA rfl) (aS hS rfl) c6),
      fun S hS => aH rfl (bG rfl rfl (aA rfl) rfl (aA rfl) (aS hS rfl) c6),
      fun S hS => aH rfl (bG rfl rfl (aA rfl) rfl (aA rfl) (aS hS rfl) c6),
      fun S hS => aH rfl (bG rfl rfl (aA rfl) rfl (aA rfl) (aS hS rfl) c6),
      fun S hS => aH rfl (bG rfl rfl (aA rfl) rfl (aA rfl) (aS hS rfl) c6),
      fun S hS => aH rfl (bG rfl rfl (aA rfl) rfl (aA rfl) (aS hS rfl) c6),
      fun S hS => aH rfl (aT rfl (bW (v := .d (.lit (.bool true))) (aA rfl) (aI hS rfl) c6 rfl rfl)), trivial⟩⟩
   · exact cZ (aU rfl (bB ⟨rfl, trivial⟩))
  ·have h5 := aY c6 h5
   obtain ⟨u7, h8, h5⟩ := bind_some h5
   have h5 := Option.some.inj h5
   subst h5
   refine ⟨[(6, 0, .bp b1 0 0), (7, 1, .d (.lit (.int .i64 t_0.Rounds))), (8, 2, .d (.lit (.bool r2))), (9, 3, .d (.lit (.bool (!r2)))), (10, 4, .d (.lit (.bool (!r2)))), (11, 5, .bp b1 0 1), (12, 6, .d (.sl 1 (t_0.Slots.map aN))), (13, 7, .d (.lit (.int .i64 ((t_0.Slots.length : Int))))), (14, 8, .bp b1 0 0), (15, 9, .d (.lit (.int .i64 t_0.Rounds))), (16, 10, .d (.lit (.int .i64 ((w64 (1 * 2 ^ (min t_0.Rounds.toNat 64))))))), (17, 11, .d (.lit (.bool ((!decide ((t_0.Slots.length : Int) = (w64 (1 * 2 ^ (min t_0.Rounds.toNat 64))))))))), (18, 12, .d (.lit (.bool ((!decide ((t_0.Slots.length : Int) = (w64 (1 * 2 ^ (min t_0.Rounds.toNat 64)))))))))], ?_, ?_⟩
   · exact ⟨by kernel_rfl, by kernel_rfl, by kernel_rfl, by kernel_rfl, by kernel_rfl, [([], []), ([0], []), ([1], []), ([2], []), ([3], []), ([4], []), ([4, 5], []), ([4, 6], []), ([4], []), ([4, 8], []), ([4, 9], []), ([4, 7, 10], []), ([4, 11], [])], by kernel_rfl, ⟨fun S hS => aH rfl (aT rfl (aV (aA rfl) (aI hS rfl) fA)),
      fun S hS => aH rfl (aT rfl (aW (aA rfl) (aI hS rfl) (i := 0) rfl rfl bJ)),
      fun S hS => aH rfl (aT rfl (cH (aA rfl) (.func _ _ Try.call72) (ev2 (aI hS rfl) (ev2 rfl (ev2 rfl evn))) rfl (BVs.refl _ _) (eP _ _ _ h3) rfl)),
      fun S hS => aH rfl (aT rfl (fU (aA rfl) (aI hS rfl))),
      fun S hS => aH rfl (aT rfl (aD (v := .d (.lit (.bool (!r2)))) (aA rfl) (aI hS rfl) rfl)),
      fun S hS => aH rfl (bD rfl rfl (aA rfl) (aS hS rfl) c6 (aV (aA rfl) (aI hS rfl) dU)),
      fun S hS => aH rfl (bD rfl rfl (aA rfl) (aS hS rfl) c6 (aW (aA rfl) (aI hS rfl) (i := 0) rfl rfl cU)),
      fun S hS => aH rfl (bD rfl rfl (aA rfl) (aS hS rfl) c6 (eB (aA rfl) (aI hS rfl) bS.of)),
      fun S hS => aH rfl (bD rfl rfl (aA rfl) (aS hS rfl) c6 (aV (aA rfl) (aI hS rfl) fA)),
      fun S hS => aH rfl (bD rfl rfl (aA rfl) (aS hS rfl) c6 (aW (aA rfl) (aI hS rfl) (i := 0) rfl rfl bJ)),
      fun S hS => aH rfl (bD rfl rfl (aA rfl) (aS hS rfl) c6 (aHj (aA rfl) rfl (aI hS rfl) (nN h8))),
      fun S hS => aH rfl (bD rfl rfl (aA rfl) (aS hS rfl) c6 (bI (aA rfl) (aI hS rfl) (aI hS rfl) rfl)),
      fun S hS => aH rfl (aT rfl (bX (v := .d (.lit (.bool ((!decide ((t_0.Slots.length : Int) = (w64 (1 * 2 ^ (min t_0.Rounds.toNat 64))))))))) (aA rfl) (aI hS rfl) c6 (aI hS rfl) rfl)), trivial⟩⟩
   · exact cZ (aU rfl (bB ⟨rfl, trivial⟩))
 ·refine aF ?_
  refine bT rfl (fun c9 => ?_) (fun c9 => ?_)
  ·have h := aZ c9 h
   refine aE ?_
   refine aC ?_
   refine tr1 rfl (aJ (v := .d (.lit (.bool false))) (aA rfl) rfl rfl) ?_
   refine aF ?_
   have h := Option.some.inj h
   subst h
   refine cL (cG (cK (l := [2]) ⟨rfl, trivial⟩)) ?_
   exact bM ⟨rfl, _, .one _, rfl, rfl⟩
  ·have h := aY c9 h
   refine bR ?_
   refine aE ?_
   refine aC ?_
   refine bV rfl (uF (aA rfl)) ?_
   rintro _ ⟨r10, rfl⟩
   refine tr1 rfl (aJ (v := .d (.lit (.map (some r10)))) (aA rfl) rfl rfl) ?_
   refine aF ?_
   refine aE ?_
   refine aE ?_
   refine aC ?_
   refine tr1 rfl (aV (aA rfl) rfl dU) ?_
   refine tr1 rfl (aW (aA rfl) rfl (i := 0) rfl rfl cU) ?_
   refine tr1 rfl (eB (aA rfl) rfl bS.of) ?_
   refine tr1 rfl (aD (v := .d (.lit (.int .i64 0))) (aA rfl) rfl rfl) ?_
   refine aF ?_
   refine cD ?_
   refine dI [1, 3, 21, 22] (fun (s11 : Int × (List (Int × Int)) × (List Nat) × Nat) => [(23, .d (.lit (.int .i64 s11.1)))]) (fun (s11 : Int × (List (Int × Int)) × (List Nat) × Nat) => [.box b1 0 (aQ t_0), .map r10 (s11.2.1.map fun p : Int × Int => ((fun n : Int => Value.int .i64 n) p.1, (fun v : Int => AV.d (.lit (.int .i64 v))) p.2)) s11.2.2.1 s11.2.2.2]) (fun (k : Nat) (s11 : Int × (List (Int × Int)) × (List Nat) × Nat) => gJ t_0.Slots (t_0.Slots.length : Int) t_0 k s11.1 s11.2.1) (fun _ => rfl) (0, ([] : List (Int × Int)), [], 0) h (bF [0, 1] rfl rfl (aU rfl (bB ⟨rfl, rfl, rfl, rfl, trivial⟩))) ?_
   rintro k14 ⟨t23_0_11, o19_0_11, bs12, ck13⟩ h
   simp only [gJ] at h
   refine aE ?_
   refine aC ?_
   refine tr1 rfl (bI (aA rfl) rfl rfl rfl) ?_
   refine aF ?_
   refine aE ?_
   refine bT rfl (fun c15 => ?_) (fun c15 => ?_)
   ·have h := aZ c15 h
    refine bR ?_
    refine aE ?_
    refine cD ?_
    refine aE ?_
    refine aC ?_
    refine tr1 rfl (aD (v := .d (.lit (.int .i64 t23_0_11))) (aA rfl) rfl rfl) ?_
    obtain ⟨x16, h17, h⟩ := bind_some h
    refine tr1 rfl (bQ (aA rfl) rfl rfl bS.of (bU aN h17)) ?_
    refine tr1 rfl (bP (aA rfl) rfl bJ) ?_
    refine tr1 rfl (aJ (v := .d (.lit (.int .i64 t23_0_11))) (aA rfl) rfl rfl) ?_
    refine tr1 rfl (aJ (v := .d (.lit (.int .i64 x16))) (aA rfl) rfl rfl) ?_
    refine aF ?_
    refine aE ?_
    refine aE ?_
    refine aC ?_
    refine tr1 rfl (aD (v := .d (.lit (.int .i64 x16))) (aA rfl) rfl rfl) ?_
    refine tr1 rfl (bI (aA rfl) rfl rfl rfl) ?_
    refine aF ?_
    refine bT rfl (fun c18 => ?_) (fun c18 => ?_)
    ·have h := aZ c18 h
     refine aE ?_
     refine aE ?_
     refine aC ?_
     refine tr1 rfl (aV (aA rfl) rfl dU) ?_
     refine tr1 rfl (aW (aA rfl) rfl (i := 0) rfl rfl cU) ?_
     refine tr1 rfl (aD (v := .d (.lit (.int .i64 t23_0_11))) (aA rfl) rfl rfl) ?_
     refine tr1 rfl (aIv (aA rfl) rfl rfl (.inr (.inr ⟨rfl, rfl⟩))) ?_
     obtain ⟨x19, h20, h⟩ := bind_some h
     refine tr1 rfl (bQ (aA rfl) rfl rfl bS.of (bU aN h20)) ?_
     refine tr1 rfl (bP (aA rfl) rfl bJ) ?_
     refine tr1 rfl (bI (aA rfl) rfl rfl rfl) ?_
     refine aF ?_
     refine bT rfl (fun c21 => ?_) (fun c21 => ?_)
     ·have h := aZ c21 h
      refine aE ?_
      refine aC ?_
      refine tr1 rfl (aJ (v := .d (.lit (.bool false))) (aA rfl) rfl rfl) ?_
      refine aF ?_
      have h := Option.some.inj h
      subst h
      refine cL (cG (cK (l := [2]) ⟨rfl, trivial⟩)) ?_
      exact bM ⟨rfl, _, .one _, rfl, rfl⟩
     ·have h := aY c21 h
      refine bR ?_
      refine cX ?_
      refine .inl ⟨rfl, ?_⟩
      refine aC ?_
      refine tr1 rfl (bO (aA rfl) rfl rfl rfl) ?_
      refine tr1 rfl (aD (v := .d (.lit (.int .i64 ((w64 (t23_0_11 + 1)))))) (aA rfl) rfl rfl) ?_
      refine aF ?_
      exact ⟨(w64 (t23_0_11 + 1), o19_0_11, bs12, ck13), h, bF [0, 1] rfl rfl (aU rfl (bB ⟨rfl, rfl, rfl, rfl, trivial⟩))⟩
    ·have h := aY c18 h
     refine bR ?_
     refine aE ?_
     refine aC ?_
     refine tr1 rfl (aD (v := .d (.lit (.map (some r10)))) (aA rfl) rfl rfl) ?_
     refine tr1 rfl (aD (v := .d (.lit (.int .i64 x16))) (aA rfl) rfl rfl) ?_
     refine tr1 rfl (wG (av := (fun v : Int => AV.d (.lit (.int .i64 v)))) (l := o19_0_11) (z := 0) (a := x16) (m := 1) (aA rfl) aGu Try.underlying121 Try.zeroValue3 (fun _ _ => .d (.lit _ rfl)) rfl rfl rfl rfl (xI (kv := (fun n : Int => Value.int .i64 n)) x16)) ?_
     refine tr1 rfl (bO (aA rfl) rfl rfl rfl) ?_
     refine tr1 rfl (uO (av := (fun v : Int => AV.d (.lit (.int .i64 v)))) (l := o19_0_11) (v := w64 ((cI x16 0 o19_0_11) + 1)) (a := x16) (m := 1) aGu Try.underlying121 rfl rfl rfl rfl (xI (kv := (fun n : Int => Value.int .i64 n)) x16) rfl rfl) ?_
     refine aF ?_
     refine aE ?_
     refine aC ?_
     refine tr1 rfl (aD (v := .d (.lit (.map (some r10)))) (aA rfl) rfl rfl) ?_
     refine tr1 rfl (aD (v := .d (.lit (.int .i64 x16))) (aA rfl) rfl rfl) ?_
     refine tr1 rfl (wG (av := (fun v : Int => AV.d (.lit (.int .i64 v)))) (l := (eW x16 (w64 ((cI x16 0 o19_0_11) + 1)) o19_0_11)) (z := 0) (a := x16) (m := 1) (aA rfl) aGu Try.underlying121 Try.zeroValue3 (fun _ _ => .d (.lit _ rfl)) rfl rfl rfl rfl (xI (kv := (fun n : Int => Value.int .i64 n)) x16)) ?_
     refine tr1 rfl (bI (aA rfl) rfl rfl rfl) ?_
     refine tr1 rfl (aD (v := .d (.lit (.bool ((decide (1 < (cI x16 0 (eW x16 (w64 ((cI x16 0 o19_0_11) + 1)) o19_0_11)))))))) (aA rfl) rfl rfl) ?_
     obtain ⟨b22, h23, h⟩ := bind_some h
     refine cF 4 [1, 3, 21, 22, 23] 49 b22 ?_ ?_
     ·refine bN (decide (1 < (cI x16 0 (eW x16 (w64 ((cI x16 0 o19_0_11) + 1)) o19_0_11)))) (fun c25 => ?_) (fun c25 => ?_)
      ·have h23 := aZ c25 h23
       refine aP rfl rfl (aA rfl) rfl (aA rfl) rfl c25 ?_
       refine aP rfl rfl (aA rfl) rfl (aA rfl) rfl c25 ?_
       refine aP rfl rfl (aA rfl) rfl (aA rfl) rfl c25 ?_
       refine tr1 rfl (bW (v := .d (.lit (.bool true))) (aA rfl) rfl c25 rfl rfl) ?_
       have h23 := Option.some.inj h23
       subst h23
       refine aF (bE rfl ⟨rfl, rfl, rfl, rfl, rfl, trivial⟩ rfl)
      ·have h23 := aY c25 h23
       refine aM rfl rfl (aA rfl) rfl c25 (aD (v := .d (.lit (.int .i64 x16))) (aA rfl) rfl rfl) ?_
       obtain ⟨r26, h27, h23⟩ := bind_some h23
       refine aM rfl rfl (aA rfl) rfl c25 (cH (aA rfl) (.func _ _ Try.call72) rfl rfl (BVs.refl _ _) (eP _ _ _ h27) rfl) ?_
       refine aM rfl rfl (aA rfl) rfl c25 (fU (aA rfl) rfl) ?_
       refine tr1 rfl (bX (v := .d (.lit (.bool (!r26)))) (aA rfl) rfl c25 rfl rfl) ?_
       have h23 := Option.some.inj h23
       subst h23
       refine aF (bE rfl ⟨rfl, rfl, rfl, rfl, rfl, trivial⟩ rfl)
     ·refine aF ?_
      refine bT rfl (fun c24 => ?_) (fun c24 => ?_)
      ·have h := aZ c24 h
       refine aE ?_
       refine aC ?_
       refine tr1 rfl (aJ (v := .d (.lit (.bool false))) (aA rfl) rfl rfl) ?_
       refine aF ?_
       have h := Option.some.inj h
       subst h
       refine cL (cG (cK (l := [2]) ⟨rfl, trivial⟩)) ?_
       exact bM ⟨rfl, _, .one _, rfl, rfl⟩
      ·have h := aY c24 h
       refine eF ?_
       refine aC ?_
       refine tr1 rfl (bO (aA rfl) rfl rfl rfl) ?_
       refine tr1 rfl (aD (v := .d (.lit (.int .i64 ((w64 (t23_0_11 + 1)))))) (aA rfl) rfl rfl) ?_
       refine aF ?_
       exact ⟨(w64 (t23_0_11 + 1), (eW x16 (w64 ((cI x16 0 o19_0_11) + 1)) o19_0_11), (mbs x16 o19_0_11 bs12 ck13), (mck x16 o19_0_11 ck13)), h, bF [0, 1] rfl rfl (aU rfl (bB ⟨rfl, rfl, rfl, rfl, trivial⟩))⟩
   ·have h := aY c15 h
    refine cX ?_
    refine .inl ⟨rfl, ?_⟩
    simp only [pF] at h
    refine aE ?_
    refine aC ?_
    refine tr1 rfl (aJ (v := .d (.lit (.bool true))) (aA rfl) rfl rfl) ?_
    refine aF ?_
    have h := Option.some.inj h
    subst h
    refine cL (cG (cK (l := [2]) ⟨rfl, trivial⟩)) ?_
    exact bM ⟨rfl, _, .one _, rfl, rfl⟩

theorem sK (s_0 : List aG) (f_1 : aG → Option Bool) {r : Int} (f_1_f : Nat) (f_1_v : List AV) (f_1_e : ∀ args w, (callFunc f_1_f args).run Try.prog w = .ok (.enter f_1_f args) w) (f_1_h : ∀ (x0 : aG) r, f_1 x0 = some r → Fn Try.prog f_1_f ([.agg (aL x0)] ++ f_1_v) (.d (.lit (.bool r)))) (h : gU s_0 f_1 = some r) : Fn Try.prog 87 [.d (.sl 5 (s_0.map aL)), .fn f_1_f f_1_v] (.d (.lit (.int .i64 r))) := by
 unfold gU at h
 refine Fn.of_tr Try.func87 rfl (rs := [.tmp 4]) Try.results87 Try.ntmps87 (Nat.le_of_ble_eq_true rfl) ?_
 refine aE ?_
 refine aC ?_
 refine tr1 rfl (aJ (v := .d (.lit (.int .i64 0))) (aA rfl) rfl rfl) ?_
 refine aF ?_
 refine aE ?_
 refine aE ?_
 refine aC ?_
 refine tr1 rfl (aD (v := .d (.sl 5 (s_0.map aL))) (aA rfl) rfl rfl) ?_
 refine tr1 rfl (eB (aA rfl) rfl gT.of) ?_
 refine tr1 rfl (aD (v := .d (.lit (.int .i64 0))) (aA rfl) rfl rfl) ?_
 refine aF ?_
 refine cD ?_
 refine dI [0, 1, 7] (fun (s1 : Int) => [(8, .d (.lit (.int .i64 s1)))]) (fun (s1 : Int) => []) (fun (k : Nat) (s1 : Int) => dX s_0 f_1 (s_0.length : Int) k s1) (fun _ => rfl) (0) h (bF [] rfl rfl (aU rfl (bB ⟨rfl, rfl, rfl, trivial⟩))) ?_
 rintro k2 t8_0_1 h
 simp only [dX] at h
 refine aE ?_
 refine aC ?_
 refine tr1 rfl (bI (aA rfl) rfl rfl rfl) ?_
 refine aF ?_
 refine aE ?_
 refine bT rfl (fun c3 => ?_) (fun c3 => ?_)
 ·have h := aZ c3 h
  refine bR ?_
  refine aE ?_
  refine cD ?_
  refine aE ?_
  refine aC ?_
  refine tr1 rfl (aD (v := .d (.lit (.int .i64 t8_0_1))) (aA rfl) rfl rfl) ?_
  refine tr1 rfl (aJ (v := .d (.lit (.int .i64 t8_0_1))) (aA rfl) rfl rfl) ?_
  refine aF ?_
  refine aE ?_
  refine aC ?_
  refine tr1 rfl (aD (v := .fn f_1_f f_1_v) (aA rfl) rfl rfl) ?_
  refine tr1 rfl (aD (v := .d (.sl 5 (s_0.map aL))) (aA rfl) rfl rfl) ?_
  refine tr1 rfl (aD (v := .d (.lit (.int .i64 t8_0_1))) (aA rfl) rfl rfl) ?_
  obtain ⟨x4, h5, h⟩ := bind_some h
  refine tr1 rfl (bQ (aA rfl) rfl rfl gT.of (bU aL h5)) ?_
  refine tr1 rfl (jW (aA rfl) rfl jP (es := (aL x4)) rfl rfl) ?_
  obtain ⟨r6, h7, h⟩ := bind_some h
  refine tr1 rfl (cH (aA rfl) (.clo _ _ _ _ f_1_e rfl) (aMs rfl) rfl (BVs.refl _ _) (f_1_h _ _  h7) rfl) ?_
  refine aF ?_
  refine bT rfl (fun c8 => ?_) (fun c8 => ?_)
  ·have h := aZ c8 h
   refine aE ?_
   refine aC ?_
   refine tr1 rfl (aD (v := .d (.lit (.int .i64 t8_0_1))) (aA rfl) rfl rfl) ?_
   refine tr1 rfl (aJ (v := .d (.lit (.int .i64 t8_0_1))) (aA rfl) rfl rfl) ?_
   refine aF ?_
   have h := Option.some.inj h
   subst h
   exact bM ⟨rfl, _, .one _, rfl, rfl⟩
  ·have h := aY c8 h
   refine eF ?_
   refine aC ?_
   refine tr1 rfl (bO (aA rfl) rfl rfl rfl) ?_
   refine tr1 rfl (aD (v := .d (.lit (.int .i64 ((w64 (t8_0_1 + 1)))))) (aA rfl) rfl rfl) ?_
   refine aF ?_
   exact ⟨(w64 (t8_0_1 + 1)), h, bF [] rfl rfl (aU rfl (bB ⟨rfl, rfl, rfl, trivial⟩))⟩
 ·have h := aY c3 h
  refine cX ?_
  refine .inl ⟨rfl, ?_⟩
  simp only [jU] at h
  refine aE ?_
  refine aC ?_
  refine tr1 rfl (aJ (v := .d (.lit (.int .i64 (-1)))) (aA rfl) rfl rfl) ?_
  refine aF ?_
  have h := Option.some.inj h
  subst h
  exact bM ⟨rfl, _, .one _, rfl, rfl⟩

theorem qX (s_0 : List aG) (f_1 : aG → Option Bool) {r : Bool} (f_1_f : Nat) (f_1_v : List AV) (f_1_e : ∀ args w, (callFunc f_1_f args).run Try.prog w = .ok (.enter f_1_f args) w) (f_1_h : ∀ (x0 : aG) r, f_1 x0 = some r → Fn Try.prog f_1_f ([.agg (aL x0)] ++ f_1_v) (.d (.lit (.bool r)))) (h : fR s_0 f_1 = some r) : Fn Try.prog 68 [.d (.sl 5 (s_0.map aL)), .fn f_1_f f_1_v] (.d (.lit (.bool r))) := by
 unfold fR at h
 refine Fn.of_tr Try.func68 rfl (rs := [.tmp 4]) Try.results68 Try.ntmps68 (Nat.le_of_ble_eq_true rfl) ?_
 refine aE ?_
 refine aC ?_
 refine tr1 rfl (aJ (v := .d (.lit (.bool false))) (aA rfl) rfl rfl) ?_
 refine aF ?_
 refine aE ?_
 refine aC ?_
 refine tr1 rfl (aD (v := .d (.sl 5 (s_0.map aL))) (aA rfl) rfl rfl) ?_
 refine tr1 rfl (aD (v := .fn f_1_f f_1_v) (aA rfl) rfl rfl) ?_
 obtain ⟨r1, h2, h⟩ := bind_some h
 refine tr1 rfl (cH (aA rfl) (.func _ _ Try.call87) rfl rfl (BVs.refl _ _) (sK _ _ f_1_f f_1_v f_1_e f_1_h h2) rfl) ?_
 refine tr1 rfl (bI (aA rfl) rfl rfl rfl) ?_
 refine tr1 rfl (aJ (v := .d (.lit (.bool ((decide (0 ≤ r1)))))) (aA rfl) rfl rfl) ?_
 refine aF ?_
 have h := Option.some.inj h
 subst h
 exact bM ⟨rfl, _, .one _, rfl, rfl⟩

theorem rZ (m_0 : aB) (t_1 : aO) {r : Bool} (h : jQ m_0 t_1 = some r) : Fn Try.prog 64 [.agg (aK m_0), .agg (aQ t_1)] (.d (.lit (.bool r))) := by
 unfold jQ at h
 refine Fn.of_tr Try.func64 rfl (rs := [.tmp 4]) Try.results64 Try.ntmps64 (Nat.le_of_ble_eq_true rfl) ?_
 refine aE ?_
 refine aC ?_
 refine bV rfl (eH (v := .agg (aK m_0)) (aA rfl) rfl rfl rfl) ?_
 rintro _ ⟨b1, rfl⟩
 refine bV rfl (eH (v := .agg (aQ t_1)) (aA rfl) rfl rfl rfl) ?_
 rintro _ ⟨b2, rfl⟩
 refine tr1 rfl (aJ (v := .d (.lit (.bool false))) (aA rfl) rfl rfl) ?_
 refine aF ?_
 refine aE ?_
 obtain ⟨r3, h4, h⟩ := bind_some h
 obtain ⟨b5, h6, h⟩ := bind_some h
 refine dM mix 19 [] [(23, .d (.lit (.bool b5)))] ?_ ?_
 ·refine bN (r3) (fun c7 => ?_) (fun c7 => ?_)
  ·have h6 := aZ c7 h6
   obtain ⟨u8, h9, h6⟩ := bind_some h6
   obtain ⟨r10, h11, h6⟩ := bind_some h6
   have h6 := Option.some.inj h6
   subst h6
   refine ⟨[(5, 0, .bp b1 0 0), (6, 1, .d (.lit (.int .i64 m_0.round))), (7, 2, .bp b2 0 0), (8, 3, .d (.lit (.int .i64 t_1.Rounds))), (9, 4, .d (.lit (.int .i64 ((w64 (t_1.Rounds - 1)))))), (10, 5, .d (.lit (.bool r3))), (11, 6, .d (.lit (.bool r3))), (12, 7, .bp b1 0 1), (13, 8, .d (.lit (.int .i64 m_0.place))), (14, 9, .bp b2 0 1), (15, 10, .d (.sl 1 (t_1.Slots.map aN))), (16, 11, .d (.lit (.int .i64 ((t_1.Slots.length : Int))))), (17, 12, .bp b1 0 0), (18, 13, .d (.lit (.int .i64 m_0.round))), (19, 14, .d (.lit (.int .i64 ((w64 (m_0.round + 1)))))), (20, 15, .d (.lit (.int .i64 (((t_1.Slots.length : Int).fdiv (2 ^ (min (w64 (m_0.round + 1)).toNat 64))))))), (21, 16, .d (.lit (.int .i64 ((w64 (((t_1.Slots.length : Int).fdiv (2 ^ (min (w64 (m_0.round + 1)).toNat 64))) - 1)))))), (22, 17, .d (.lit (.bool r10))), (23, 18, .d (.lit (.bool r10)))], ?_, ?_⟩
   · exact ⟨by kernel_rfl, by kernel_rfl, by kernel_rfl, by kernel_rfl, by kernel_rfl, [([], []), ([0], []), ([], []), ([2], []), ([3], []), ([1, 4], []), ([5], []), ([6], []), ([6, 7], []), ([6], []), ([6, 9], []), ([6, 10], []), ([6], []), ([6, 12], []), ([6, 13], []), ([6, 11, 14], []), ([6, 15], []), ([6, 8, 16], []), ([6, 17], [])], by kernel_rfl, ⟨fun S hS => aH rfl (aT rfl (aV (aA rfl) (aI hS rfl) nL)),
      fun S hS => aH rfl (aT rfl (aW (aA rfl) (aI hS rfl) (i := 0) rfl rfl bJ)),
      fun S hS => aH rfl (aT rfl (aV (aA rfl) (aI hS rfl) fA)),
      fun S hS => aH rfl (aT rfl (aW (aA rfl) (aI hS rfl) (i := 1) rfl rfl bJ)),
      fun S hS => aH rfl (aT rfl (bO (aA rfl) (aI hS rfl) rfl rfl)),
      fun S hS => aH rfl (aT rfl (cH (aA rfl) (.func _ _ Try.call72) (ev2 (aI hS rfl) (ev2 rfl (ev2 (aI hS rfl) evn))) rfl (BVs.refl _ _) (eP _ _ _ h4) rfl)),
      fun S hS => aH rfl (aT rfl (aD (v := .d (.lit (.bool r3))) (aA rfl) (aI hS rfl) rfl)),
      fun S hS => aH rfl (bD rfl rfl (aA rfl) (aS hS rfl) c7 (aV (aA rfl) (aI hS rfl) aDu)),
      fun S hS => aH rfl (bD rfl rfl (aA rfl) (aS hS rfl) c7 (aW (aA rfl) (aI hS rfl) (i := 0) rfl rfl bJ)),
      fun S hS => aH rfl (bD rfl rfl (aA rfl) (aS hS rfl) c7 (aV (aA rfl) (aI hS rfl) dU)),
      fun S hS => aH rfl (bD rfl rfl (aA rfl) (aS hS rfl) c7 (aW (aA rfl) (aI hS rfl) (i := 1) rfl rfl cU)),
      fun S hS => aH rfl (bD rfl rfl (aA rfl) (aS hS rfl) c7 (eB (aA rfl) (aI hS rfl) bS.of)),
      fun S hS => aH rfl (bD rfl rfl (aA rfl) (aS hS rfl) c7 (aV (aA rfl) (aI hS rfl) nL)),
      fun S hS => aH rfl (bD rfl rfl (aA rfl) (aS hS rfl) c7 (aW (aA rfl) (aI hS rfl) (i := 0) rfl rfl bJ)),
      fun S hS => aH rfl (bD rfl rfl (aA rfl) (aS hS rfl) c7 (bO (aA rfl) (aI hS rfl) rfl rfl)),
      fun S hS => aH rfl (bD rfl rfl (aA rfl) (aS hS rfl) c7 (pR (aA rfl) (aI hS rfl) (aI hS rfl) (nN h9))),
      fun S hS => aH rfl (bD rfl rfl (aA rfl) (aS hS rfl) c7 (bO (aA rfl) (aI hS rfl) rfl rfl)),
      fun S hS => aH rfl (bD rfl rfl (aA rfl) (aS hS rfl) c7 (cH (aA rfl) (.func _ _ Try.call72) (ev2 (aI hS rfl) (ev2 rfl (ev2 (aI hS rfl) evn))) rfl (BVs.refl _ _) (eP _ _ _ h11) rfl)),
      fun S hS => aH rfl (aT rfl (bW (v := .d (.lit (.bool r10))) (aA rfl) (aI hS rfl) c7 (aI hS rfl) rfl)), trivial⟩⟩
   · exact cZ (aU rfl (bB trivial))
  ·have h6 := aY c7 h6
   have h6 := Option.some.inj h6
   subst h6
   refine ⟨[(5, 0, .bp b1 0 0), (6, 1, .d (.lit (.int .i64 m_0.round))), (7, 2, .bp b2 0 0), (8, 3, .d (.lit (.int .i64 t_1.Rounds))), (9, 4, .d (.lit (.int .i64 ((w64 (t_1.Rounds - 1)))))), (10, 5, .d (.lit (.bool r3))), (11, 6, .d (.lit (.bool r3))), (12, 7, .tup []), (13, 8, .tup []), (14, 9, .tup []), (15, 10, .tup []), (16, 11, .tup []), (17, 12, .tup []), (18, 13, .tup []), (19, 14, .tup []), (20, 15, .tup []), (21, 16, .tup []), (22, 17, .tup []), (23, 18, .d (.lit (.bool false)))], ?_, ?_⟩
   · exact ⟨by kernel_rfl, by kernel_rfl, by kernel_rfl, by kernel_rfl, by kernel_rfl, [([], []), ([0], []), ([], []), ([2], []), ([3], []), ([1, 4], []), ([5], []), ([6], []), ([6, 7], []), ([6], []), ([6, 9], []), ([6, 10], []), ([6], []), ([6, 12], []), ([6, 13], []), ([6, 11, 14], []), ([6, 15], []), ([6, 8, 16], []), ([6, 17], [])], by kernel_rfl, ⟨fun S hS => aH rfl (aT rfl (aV (aA rfl) (aI hS rfl) nL)),
      fun S hS => aH rfl (aT rfl (aW (aA rfl) (aI hS rfl) (i := 0) rfl rfl bJ)),
      fun S hS => aH rfl (aT rfl (aV (aA rfl) (aI hS rfl) fA)),
      fun S hS => aH rfl (aT rfl (aW (aA rfl) (aI hS rfl) (i := 1) rfl rfl bJ)),
      fun S hS => aH rfl (aT rfl (bO (aA rfl) (aI hS rfl) rfl rfl)),
      fun S hS => aH rfl (aT rfl (cH (aA rfl) (.func _ _ Try.call72) (ev2 (aI hS rfl) (ev2 rfl (ev2 (aI hS rfl) evn))) rfl (BVs.refl _ _) (eP _ _ _ h4) rfl)),
      fun S hS => aH rfl (aT rfl (aD (v := .d (.lit (.bool r3))) (aA rfl) (aI hS rfl) rfl)),
      fun S hS => aH rfl (bG rfl rfl (aA rfl) rfl (aA rfl) (aS hS rfl) c7),
      fun S hS => aH rfl (bG rfl rfl (aA rfl) rfl (aA rfl) (aS hS rfl) c7),
      fun S hS => aH rfl (bG rfl rfl (aA rfl) rfl (aA rfl) (aS hS rfl) c7),
      fun S hS => aH rfl (bG rfl rfl (aA rfl) rfl (aA rfl) (aS hS rfl) c7),
      fun S hS => aH rfl (bG rfl rfl (aA rfl) rfl (aA rfl) (aS hS rfl) c7),
      fun S hS => aH rfl (bG rfl rfl (aA rfl) rfl (aA rfl) (aS hS rfl) c7),
      fun S hS => aH rfl (bG rfl rfl (aA rfl) rfl (aA rfl) (aS hS rfl) c7),
      fun S hS => aH rfl (bG rfl rfl (aA rfl) rfl (aA rfl) (aS hS rfl) c7),
      fun S hS => aH rfl (bG rfl rfl (aA rfl) rfl (aA rfl) (aS hS rfl) c7),
      fun S hS => aH rfl (bG rfl rfl (aA rfl) rfl (aA rfl) (aS hS rfl) c7),
      fun S hS => aH rfl (bG rfl rfl (aA rfl) rfl (aA rfl) (aS hS rfl) c7),
      fun S hS => aH rfl (aT rfl (bX (v := .d (.lit (.bool false))) (aA rfl) (aI hS rfl) c7 rfl rfl)), trivial⟩⟩
   · exact cZ (aU rfl (bB trivial))
 ·refine tr1 rfl (aJ (v := .d (.lit (.bool b5))) (aA rfl) rfl rfl) ?_
  refine aF ?_
  have h := Option.some.inj h
  subst h
  refine cL (cG (cK (l := [4]) ⟨rfl, trivial⟩)) ?_
  exact bM ⟨rfl, _, .one _, rfl, rfl⟩

theorem oX (s_0 : List Int) (v_1 : Int) {r : Int} (h : fI s_0 v_1 = some r) : Fn Try.prog 73 [.d (.sl 1 (s_0.map aN)), .d (.lit (.int .i64 v_1))] (.d (.lit (.int .i64 r))) := by
 unfold fI at h
 refine Fn.of_tr Try.func73 rfl (rs := [.tmp 4]) Try.results73 Try.ntmps73 (Nat.le_of_ble_eq_true rfl) ?_
 refine aE ?_
 refine aC ?_
 refine tr1 rfl (aJ (v := .d (.lit (.int .i64 0))) (aA rfl) rfl rfl) ?_
 refine aF ?_
 refine aE ?_
 refine aE ?_
 refine aC ?_
 refine tr1 rfl (aD (v := .d (.sl 1 (s_0.map aN))) (aA rfl) rfl rfl) ?_
 refine tr1 rfl (eB (aA rfl) rfl bS.of) ?_
 refine tr1 rfl (aD (v := .d (.lit (.int .i64 0))) (aA rfl) rfl rfl) ?_
 refine aF ?_
 refine cD ?_
 refine dI [0, 1, 7] (fun (s1 : Int) => [(8, .d (.lit (.int .i64 s1)))]) (fun (s1 : Int) => []) (fun (k : Nat) (s1 : Int) => gQ s_0 v_1 (s_0.length : Int) k s1) (fun _ => rfl) (0) h (bF [] rfl rfl (aU rfl (bB ⟨rfl, rfl, rfl, trivial⟩))) ?_
 rintro k2 t8_0_1 h
 simp only [gQ] at h
 refine aE ?_
 refine aC ?_
 refine tr1 rfl (bI (aA rfl) rfl rfl rfl) ?_
 refine aF ?_
 refine aE ?_
 refine bT rfl (fun c3 => ?_) (fun c3 => ?_)
 ·have h := aZ c3 h
  refine bR ?_
  refine aE ?_
  refine cD ?_
  refine aE ?_
  refine aC ?_
  refine tr1 rfl (aD (v := .d (.lit (.int .i64 t8_0_1))) (aA rfl) rfl rfl) ?_
  refine tr1 rfl (aJ (v := .d (.lit (.int .i64 t8_0_1))) (aA rfl) rfl rfl) ?_
  refine aF ?_
  refine aE ?_
  refine aC ?_
  refine tr1 rfl (aD (v := .d (.lit (.int .i64 v_1))) (aA rfl) rfl rfl) ?_
  refine tr1 rfl (aD (v := .d (.sl 1 (s_0.map aN))) (aA rfl) rfl rfl) ?_
  refine tr1 rfl (aD (v := .d (.lit (.int .i64 t8_0_1))) (aA rfl) rfl rfl) ?_
  obtain ⟨x4, h5, h⟩ := bind_some h
  refine tr1 rfl (bQ (aA rfl) rfl rfl bS.of (bU aN h5)) ?_
  refine tr1 rfl (bP (aA rfl) rfl bJ) ?_
  refine tr1 rfl (bI (aA rfl) rfl rfl rfl) ?_
  refine aF ?_
  refine bT rfl (fun c6 => ?_) (fun c6 => ?_)
  ·have h := aZ c6 h
   refine aE ?_
   refine aC ?_
   refine tr1 rfl (aD (v := .d (.lit (.int .i64 t8_0_1))) (aA rfl) rfl rfl) ?_
   refine tr1 rfl (aJ (v := .d (.lit (.int .i64 t8_0_1))) (aA rfl) rfl rfl) ?_
   refine aF ?_
   have h := Option.some.inj h
   subst h
   exact bM ⟨rfl, _, .one _, rfl, rfl⟩
  ·have h := aY c6 h
   refine eF ?_
   refine aC ?_
   refine tr1 rfl (bO (aA rfl) rfl rfl rfl) ?_
   refine tr1 rfl (aD (v := .d (.lit (.int .i64 ((w64 (t8_0_1 + 1)))))) (aA rfl) rfl rfl) ?_
   refine aF ?_
   exact ⟨(w64 (t8_0_1 + 1)), h, bF [] rfl rfl (aU rfl (bB ⟨rfl, rfl, rfl, trivial⟩))⟩
 ·have h := aY c3 h
  refine cX ?_
  refine .inl ⟨rfl, ?_⟩
  simp only [oB] at h
  refine aE ?_
  refine aC ?_
  refine tr1 rfl (aJ (v := .d (.lit (.int .i64 (-1)))) (aA rfl) rfl rfl) ?_
  refine aF ?_
  have h := Option.some.inj h
  subst h
  exact bM ⟨rfl, _, .one _, rfl, rfl⟩

theorem qJ (s_0 : List Int) (v_1 : Int) {r : Bool} (h : gP s_0 v_1 = some r) : Fn Try.prog 88 [.d (.sl 1 (s_0.map aN)), .d (.lit (.int .i64 v_1))] (.d (.lit (.bool r))) := by
 unfold gP at h
 refine Fn.of_tr Try.func88 rfl (rs := [.tmp 4]) Try.results88 Try.ntmps88 (Nat.le_of_ble_eq_true rfl) ?_
 refine aE ?_
 refine aC ?_
 refine tr1 rfl (aJ (v := .d (.lit (.bool false))) (aA rfl) rfl rfl) ?_
 refine aF ?_
 refine aE ?_
 refine aC ?_
 refine tr1 rfl (aD (v := .d (.sl 1 (s_0.map aN))) (aA rfl) rfl rfl) ?_
 refine tr1 rfl (aD (v := .d (.lit (.int .i64 v_1))) (aA rfl) rfl rfl) ?_
 obtain ⟨r1, h2, h⟩ := bind_some h
 refine tr1 rfl (cH (aA rfl) (.func _ _ Try.call73) rfl rfl (BVs.refl _ _) (oX _ _ h2) rfl) ?_
 refine tr1 rfl (bI (aA rfl) rfl rfl rfl) ?_
 refine tr1 rfl (aJ (v := .d (.lit (.bool ((decide (0 ≤ r1)))))) (aA rfl) rfl rfl) ?_
 refine aF ?_
 have h := Option.some.inj h
 subst h
 exact bM ⟨rfl, _, .one _, rfl, rfl⟩

theorem zG (t_0 : aO) (s_1 : aG) {r : Bool} (h : mP t_0 s_1 = some r) : Fn Try.prog 70 [.agg (aQ t_0), .agg (aL s_1)] (.d (.lit (.bool r))) := by
 unfold mP at h
 refine Fn.of_tr Try.func70 rfl (rs := [.tmp 4]) Try.results70 Try.ntmps70 (Nat.le_of_ble_eq_true rfl) ?_
 refine aE ?_
 refine aC ?_
 refine bV rfl (eH (v := .agg (aQ t_0)) (aA rfl) rfl rfl rfl) ?_
 rintro _ ⟨b1, rfl⟩
 refine bV rfl (eH (v := .agg (aL s_1)) (aA rfl) rfl rfl rfl) ?_
 rintro _ ⟨b2, rfl⟩
 refine tr1 rfl (aJ (v := .d (.lit (.bool false))) (aA rfl) rfl rfl) ?_
 refine aF ?_
 refine aE ?_
 refine aE ?_
 refine aC ?_
 refine tr1 rfl (aV (aA rfl) rfl mH) ?_
 refine tr1 rfl (aW (aA rfl) rfl (i := 1) rfl rfl bJ) ?_
 obtain ⟨r3, h4, h⟩ := bind_some h
 refine tr1 rfl (cH (aA rfl) (.func _ _ Try.call72) rfl rfl (BVs.refl _ _) (eP _ _ _ h4) rfl) ?_
 refine tr1 rfl (fU (aA rfl) rfl) ?_
 refine aF ?_
 refine bT rfl (fun c5 => ?_) (fun c5 => ?_)
 ·have h := aZ c5 h
  refine aE ?_
  refine aC ?_
  refine tr1 rfl (aJ (v := .d (.lit (.bool false))) (aA rfl) rfl rfl) ?_
  refine aF ?_
  have h := Option.some.inj h
  subst h
  refine cL (cG (cK (l := [4]) ⟨rfl, trivial⟩)) ?_
  exact bM ⟨rfl, _, .one _, rfl, rfl⟩
 ·have h := aY c5 h
  refine bR ?_
  refine aE ?_
  refine aE ?_
  refine aC ?_
  refine tr1 rfl (aV (aA rfl) rfl nK) ?_
  refine tr1 rfl (aW (aA rfl) rfl (i := 1) rfl rfl bJ) ?_
  refine tr1 rfl (bI (aA rfl) rfl rfl rfl) ?_
  refine aF ?_
  refine bT rfl (fun c6 => ?_) (fun c6 => ?_)
  ·have h := aZ c6 h
   refine aE ?_
   refine aC ?_
   refine tr1 rfl (aV (aA rfl) rfl lH) ?_
   refine tr1 rfl (aW (aA rfl) rfl (i := 1) rfl rfl bJ) ?_
   refine tr1 rfl (bI (aA rfl) rfl rfl rfl) ?_
   refine tr1 rfl (aD (v := .d (.lit (.bool ((decide (s_1.Round = 0)))))) (aA rfl) rfl rfl) ?_
   obtain ⟨b7, h8, h⟩ := bind_some h
   refine cF 8 [3] 24 b7 ?_ ?_
   ·refine bN (decide (s_1.Round = 0)) (fun c14 => ?_) (fun c14 => ?_)
    ·have h8 := aZ c14 h8
     refine aM rfl rfl (aA rfl) rfl c14 (aV (aA rfl) rfl iQ) ?_
     refine aM rfl rfl (aA rfl) rfl c14 (aW (aA rfl) rfl (i := 1) rfl rfl bJ) ?_
     refine aM rfl rfl (aA rfl) rfl c14 (aV (aA rfl) rfl dU) ?_
     refine aM rfl rfl (aA rfl) rfl c14 (aW (aA rfl) rfl (i := 0) rfl rfl cU) ?_
     refine aM rfl rfl (aA rfl) rfl c14 (eB (aA rfl) rfl bS.of) ?_
     refine aM rfl rfl (aA rfl) rfl c14 (bO (aA rfl) rfl rfl rfl) ?_
     obtain ⟨r15, h16, h8⟩ := bind_some h8
     refine aM rfl rfl (aA rfl) rfl c14 (cH (aA rfl) (.func _ _ Try.call72) rfl rfl (BVs.refl _ _) (eP _ _ _ h16) rfl) ?_
     refine tr1 rfl (bW (v := .d (.lit (.bool r15))) (aA rfl) rfl c14 rfl rfl) ?_
     have h8 := Option.some.inj h8
     subst h8
     refine aF (bE rfl ⟨rfl, trivial⟩ rfl)
    ·have h8 := aY c14 h8
     refine aP rfl rfl (aA rfl) rfl (aA rfl) rfl c14 ?_
     refine aP rfl rfl (aA rfl) rfl (aA rfl) rfl c14 ?_
     refine aP rfl rfl (aA rfl) rfl (aA rfl) rfl c14 ?_
     refine aP rfl rfl (aA rfl) rfl (aA rfl) rfl c14 ?_
     refine aP rfl rfl (aA rfl) rfl (aA rfl) rfl c14 ?_
     refine aP rfl rfl (aA rfl) rfl (aA rfl) rfl c14 ?_
     refine aP rfl rfl (aA rfl) rfl (aA rfl) rfl c14 ?_
     refine tr1 rfl (bX (v := .d (.lit (.bool false))) (aA rfl) rfl c14 rfl rfl) ?_
     have h8 := Option.some.inj h8
     subst h8
     refine aF (bE rfl ⟨rfl, trivial⟩ rfl)
   ·refine tr1 rfl (aD (v := .d (.lit (.bool b7))) (aA rfl) rfl rfl) ?_
    obtain ⟨b9, h10, h⟩ := bind_some h
    refine cF 4 [] 29 b9 ?_ ?_
    ·refine bN (b7) (fun c11 => ?_) (fun c11 => ?_)
     ·have h10 := aZ c11 h10
      refine aM rfl rfl (aA rfl) rfl c11 (aV (aA rfl) rfl rL) ?_
      refine aM rfl rfl (aA rfl) rfl c11 (aW (aA rfl) rfl (i := 1) rfl rfl bJ) ?_
      obtain ⟨r12, h13, h10⟩ := bind_some h10
      refine aM rfl rfl (aA rfl) rfl c11 (cH (aA rfl) (.func _ _ Try.call72) rfl rfl (BVs.refl _ _) (eP _ _ _ h13) rfl) ?_
      refine tr1 rfl (bW (v := .d (.lit (.bool r12))) (aA rfl) rfl c11 rfl rfl) ?_
      have h10 := Option.some.inj h10
      subst h10
      refine aF (bE rfl trivial rfl)
     ·have h10 := aY c11 h10
      refine aP rfl rfl (aA rfl) rfl (aA rfl) rfl c11 ?_
      refine aP rfl rfl (aA rfl) rfl (aA rfl) rfl c11 ?_
      refine aP rfl rfl (aA rfl) rfl (aA rfl) rfl c11 ?_
      refine tr1 rfl (bX (v := .d (.lit (.bool false))) (aA rfl) rfl c11 rfl rfl) ?_
      have h10 := Option.some.inj h10
      subst h10
      refine aF (bE rfl trivial rfl)
    ·refine tr1 rfl (aJ (v := .d (.lit (.bool b9))) (aA rfl) rfl rfl) ?_
     refine aF ?_
     have h := Option.some.inj h
     subst h
     refine cL (cG (cK (l := [4]) ⟨rfl, trivial⟩)) ?_
     exact bM ⟨rfl, _, .one _, rfl, rfl⟩
  ·have h := aY c6 h
   refine bR ?_
   refine aE ?_
   refine aC ?_
   refine tr1 rfl (aV (aA rfl) rfl lH) ?_
   refine tr1 rfl (aW (aA rfl) rfl (i := 1) rfl rfl bJ) ?_
   refine tr1 rfl (aV (aA rfl) rfl iQ) ?_
   refine tr1 rfl (aW (aA rfl) rfl (i := 1) rfl rfl bJ) ?_
   refine tr1 rfl (eE (aA rfl) uY (zs := [.lit (.int .i64 0), .lit (.int .i64 0)]) rfl rfl rfl rfl (es := [.lit (.int .i64 s_1.Round), .lit (.int .i64 s_1.Place)]) rfl) ?_
   refine bV rfl (dJ (zs := [.lit (.int .i64 0), .lit (.int .i64 0)]) (aA rfl) Try.zeroValue70 rfl rfl) ?_
   rintro _ ⟨b17, rfl⟩
   refine tr1 rfl (cB (i := 2) rfl rfl rfl rfl rfl Try.sizeOf70 rfl (aA rfl) (Nat.le_of_ble_eq_true rfl) (ds' := (aK (aB.mk s_1.Round s_1.Place))) rfl) ?_
   refine aF ?_
   refine aE ?_
   refine aE ?_
   refine aC ?_
   refine tr1 rfl (aV (aA rfl) rfl nK) ?_
   refine tr1 rfl (aW (aA rfl) rfl (i := 1) rfl rfl bJ) ?_
   obtain ⟨r18, h19, h⟩ := bind_some h
   refine tr1 rfl (cH (aA rfl) (.func _ _ Try.call72) rfl rfl (BVs.refl _ _) (eP _ _ _ h19) rfl) ?_
   refine tr1 rfl (fU (aA rfl) rfl) ?_
   refine tr1 rfl (aD (v := .d (.lit (.bool (!r18)))) (aA rfl) rfl rfl) ?_
   obtain ⟨b20, h21, h⟩ := bind_some h
   refine cF 4 [2, 3, 5] 43 b20 ?_ ?_
   ·refine bN (!r18) (fun c35 => ?_) (fun c35 => ?_)
    ·have h21 := aZ c35 h21
     refine aP rfl rfl (aA rfl) rfl (aA rfl) rfl c35 ?_
     refine aP rfl rfl (aA rfl) rfl (aA rfl) rfl c35 ?_
     refine aP rfl rfl (aA rfl) rfl (aA rfl) rfl c35 ?_
     refine tr1 rfl (bW (v := .d (.lit (.bool true))) (aA rfl) rfl c35 rfl rfl) ?_
     have h21 := Option.some.inj h21
     subst h21
     refine aF (bE rfl ⟨rfl, rfl, rfl, trivial⟩ rfl)
    ·have h21 := aY c35 h21
     refine aM rfl rfl (aA rfl) rfl c35 (aV (aA rfl) rfl rL) ?_
     refine aM rfl rfl (aA rfl) rfl c35 (aW (aA rfl) rfl (i := 1) rfl rfl bJ) ?_
     refine aM rfl rfl (aA rfl) rfl c35 (bI (aA rfl) rfl rfl rfl) ?_
     refine tr1 rfl (bX (v := .d (.lit (.bool ((!decide (s_1.Old = 0)))))) (aA rfl) rfl c35 rfl rfl) ?_
     have h21 := Option.some.inj h21
     subst h21
     refine aF (bE rfl ⟨rfl, rfl, rfl, trivial⟩ rfl)
   ·refine tr1 rfl (aD (v := .d (.lit (.bool b20))) (aA rfl) rfl rfl) ?_
    obtain ⟨b22, h23, h⟩ := bind_some h
    refine cF 5 [2, 3] 49 b22 ?_ ?_
    ·refine bN (b20) (fun c32 => ?_) (fun c32 => ?_)
     ·have h23 := aZ c32 h23
      refine aP rfl rfl (aA rfl) rfl (aA rfl) rfl c32 ?_
      refine aP rfl rfl (aA rfl) rfl (aA rfl) rfl c32 ?_
      refine aP rfl rfl (aA rfl) rfl (aA rfl) rfl c32 ?_
      refine aP rfl rfl (aA rfl) rfl (aA rfl) rfl c32 ?_
      refine tr1 rfl (bW (v := .d (.lit (.bool true))) (aA rfl) rfl c32 rfl rfl) ?_
      have h23 := Option.some.inj h23
      subst h23
      refine aF (bE rfl ⟨rfl, rfl, trivial⟩ rfl)
     ·have h23 := aY c32 h23
      refine aM rfl rfl (aA rfl) rfl c32 (bH (aA rfl) rfl (i := 2) rfl iZ (es := (aK (aB.mk s_1.Round s_1.Place))) rfl rfl) ?_
      refine aM rfl rfl (aA rfl) rfl c32 (bH (aA rfl) rfl (i := 0) rfl cV (es := (aQ t_0)) rfl rfl) ?_
      obtain ⟨r33, h34, h23⟩ := bind_some h23
      refine aM rfl rfl (aA rfl) rfl c32 (cH (aA rfl) (.func _ _ Try.call64) rfl rfl (BVs.refl _ _) (rZ _ _ h34) rfl) ?_
      refine aM rfl rfl (aA rfl) rfl c32 (fU (aA rfl) rfl) ?_
      refine tr1 rfl (bX (v := .d (.lit (.bool (!r33)))) (aA rfl) rfl c32 rfl rfl) ?_
      have h23 := Option.some.inj h23
      subst h23
      refine aF (bE rfl ⟨rfl, rfl, trivial⟩ rfl)
    ·refine aF ?_
     refine bT rfl (fun c24 => ?_) (fun c24 => ?_)
     ·have h := aZ c24 h
      refine aE ?_
      refine aC ?_
      refine tr1 rfl (aJ (v := .d (.lit (.bool false))) (aA rfl) rfl rfl) ?_
      refine aF ?_
      have h := Option.some.inj h
      subst h
      refine cL (cG (cK (l := [4]) ⟨rfl, trivial⟩)) ?_
      exact bM ⟨rfl, _, .one _, rfl, rfl⟩
     ·have h := aY c24 h
      refine bR ?_
      refine aE ?_
      refine aC ?_
      refine tr1 rfl (aV (aA rfl) rfl lH) ?_
      refine tr1 rfl (aW (aA rfl) rfl (i := 1) rfl rfl bJ) ?_
      refine tr1 rfl (bI (aA rfl) rfl rfl rfl) ?_
      refine tr1 rfl (aD (v := .d (.lit (.bool ((decide (0 < s_1.Round)))))) (aA rfl) rfl rfl) ?_
      obtain ⟨b25, h26, h⟩ := bind_some h
      refine cF 13 [] 66 b25 ?_ ?_
      ·refine bN (decide (0 < s_1.Round)) (fun c27 => ?_) (fun c27 => ?_)
       ·have h26 := aZ c27 h26
        refine aP rfl rfl (aA rfl) rfl (aA rfl) rfl c27 ?_
        refine aP rfl rfl (aA rfl) rfl (aA rfl) rfl c27 ?_
        refine aP rfl rfl (aA rfl) rfl (aA rfl) rfl c27 ?_
        refine aP rfl rfl (aA rfl) rfl (aA rfl) rfl c27 ?_
        refine aP rfl rfl (aA rfl) rfl (aA rfl) rfl c27 ?_
        refine aP rfl rfl (aA rfl) rfl (aA rfl) rfl c27 ?_
        refine aP rfl rfl (aA rfl) rfl (aA rfl) rfl c27 ?_
        refine aP rfl rfl (aA rfl) rfl (aA rfl) rfl c27 ?_
        refine aP rfl rfl (aA rfl) rfl (aA rfl) rfl c27 ?_
        refine aP rfl rfl (aA rfl) rfl (aA rfl) rfl c27 ?_
        refine aP rfl rfl (aA rfl) rfl (aA rfl) rfl c27 ?_
        refine aP rfl rfl (aA rfl) rfl (aA rfl) rfl c27 ?_
        refine tr1 rfl (bW (v := .d (.lit (.bool true))) (aA rfl) rfl c27 rfl rfl) ?_
        have h26 := Option.some.inj h26
        subst h26
        refine aF (bE rfl trivial rfl)
       ·have h26 := aY c27 h26
        refine aM rfl rfl (aA rfl) rfl c27 (aV (aA rfl) rfl dU) ?_
        refine aM rfl rfl (aA rfl) rfl c27 (aW (aA rfl) rfl (i := 0) rfl rfl cU) ?_
        refine aM rfl rfl (aA rfl) rfl c27 (aV (aA rfl) rfl iQ) ?_
        refine aM rfl rfl (aA rfl) rfl c27 (aW (aA rfl) rfl (i := 1) rfl rfl bJ) ?_
        refine aM rfl rfl (aA rfl) rfl c27 (bO (aA rfl) rfl rfl rfl) ?_
        refine aM rfl rfl (aA rfl) rfl c27 (aV (aA rfl) rfl iQ) ?_
        refine aM rfl rfl (aA rfl) rfl c27 (aW (aA rfl) rfl (i := 1) rfl rfl bJ) ?_
        refine aM rfl rfl (aA rfl) rfl c27 (bO (aA rfl) rfl rfl rfl) ?_
        refine aM rfl rfl (aA rfl) rfl c27 (bO (aA rfl) rfl rfl rfl) ?_
        obtain ⟨x28, h29, h26⟩ := bind_some h26
        refine aM rfl rfl (aA rfl) rfl c27 (aHk (aA rfl) bS.of rfl rfl rfl (aLq aN h29)) ?_
        obtain ⟨r30, h31, h26⟩ := bind_some h26
        refine aM rfl rfl (aA rfl) rfl c27 (cH (aA rfl) (.func _ _ Try.call88) rfl rfl (BVs.refl _ _) (qJ _ _ h31) rfl) ?_
        refine aM rfl rfl (aA rfl) rfl c27 (fU (aA rfl) rfl) ?_
        refine tr1 rfl (bX (v := .d (.lit (.bool (!r30)))) (aA rfl) rfl c27 rfl rfl) ?_
        have h26 := Option.some.inj h26
        subst h26
        refine aF (bE rfl trivial rfl)
      ·refine tr1 rfl (aJ (v := .d (.lit (.bool b25))) (aA rfl) rfl rfl) ?_
       refine aF ?_
       have h := Option.some.inj h
       subst h
       refine cL (cG (cK (l := [4]) ⟨rfl, trivial⟩)) ?_
       exact bM ⟨rfl, _, .one _, rfl, rfl⟩

theorem zI (s_0 : aG) (c_1 : aO) {r : Bool} (h : lC s_0 c_1 = some r) : Fn Try.prog 69 [.agg (aL s_0), .cp (aQ c_1)] (.d (.lit (.bool r))) := by
 unfold lC at h
 refine Fn.of_tr Try.func69 rfl (rs := [.tmp 3]) Try.results69 Try.ntmps69 (Nat.le_of_ble_eq_true rfl) ?_
 refine aE ?_
 refine aC ?_
 refine bV rfl (eH (v := .agg (aL s_0)) (aA rfl) rfl rfl rfl) ?_
 rintro _ ⟨b1, rfl⟩
 refine tr1 rfl (aJ (v := .d (.lit (.bool false))) (aA rfl) rfl rfl) ?_
 refine aF ?_
 refine aE ?_
 refine aC ?_
 refine tr1 rfl (jW (aA rfl) rfl cV (es := (aQ c_1)) rfl rfl) ?_
 refine tr1 rfl (bH (aA rfl) rfl (i := 0) rfl jP (es := (aL s_0)) rfl rfl) ?_
 obtain ⟨r2, h3, h⟩ := bind_some h
 refine tr1 rfl (cH (aA rfl) (.func _ _ Try.call70) rfl rfl (BVs.refl _ _) (zG _ _ h3) rfl) ?_
 refine tr1 rfl (fU (aA rfl) rfl) ?_
 refine tr1 rfl (aJ (v := .d (.lit (.bool (!r2)))) (aA rfl) rfl rfl) ?_
 refine aF ?_
 have h := Option.some.inj h
 subst h
 refine cL (cG (cK (l := [3]) ⟨rfl, trivial⟩)) ?_
 exact bM ⟨rfl, _, .one _, rfl, rfl⟩

theorem rG (s_0 : List Int) {r : (List Int)} (h : jT s_0 = some r) : eZ Try.prog 89 [.d (.sl 1 (s_0.map aN))] [] (fun r' o' => ∃ (w0 : Value), r' = .d (.lit w0) ∧ o' = [.arr w0 3 1 (r.map aN)]) := by
 unfold jT at h
 refine gA Try.func89 rfl (rs := [.tmp 2]) Try.results89 Try.ntmps89 (Nat.le_of_ble_eq_true rfl) ?_
 refine aE ?_
 refine aC ?_
 refine tr1 rfl (jK 3 1 (.inl rfl) (aA rfl)) ?_
 refine aF ?_
 refine aE ?_
 refine aE ?_
 refine aC ?_
 refine tr1 rfl (aD (v := .d (.sl 1 (s_0.map aN))) (aA rfl) rfl rfl) ?_
 refine bV rfl (aHe (aA rfl) rfl rfl Try.underlying22) ?_
 rintro _ ⟨b2, h3, rfl⟩
 refine aF ?_
 refine bT rfl (fun c4 => ?_) (fun c4 => ?_)
 ·obtain rfl := aGy (h3 c4)
  simp [app] at h
  subst h
  refine aE ?_
  refine aC ?_
  refine tr1 rfl (jK 3 1 (.inl rfl) (aA rfl)) ?_
  refine aF ?_
  refine cL (bF [1, 0] rfl rfl (le_refl _)) ?_
  exact bM ⟨rfl, _, [.arr (.slice none 0 0) 3 1 (([] : List Int).map aN)], [.arr (.slice none 0 0) 3 1 (([] : List Int).map aN)], _, .one (.tmp 2 (v := .d (.lit (.slice none 0 0))) rfl), .refl _, .same _, (.slice none 0 0), rfl, rfl⟩
 ·refine bR ?_
  refine aE ?_
  refine aC ?_
  refine bV rfl (aCp (aA rfl) bS rfl rfl (rows := (([] : List Int)).map aN) rfl (dG (f := aN) fun _ => rfl) rfl (by decide)) ?_
  rintro _ ⟨v5, rfl⟩
  refine tr1 rfl (aD (v := .d (.sl 1 (s_0.map aN))) (aA rfl) rfl rfl) ?_
  obtain ⟨x6, h7, h⟩ := bind_some h
  refine bV rfl (fZ (i := 1) (aA rfl) bS rfl rfl rfl (fun _ => rfl) h7 rfl) ?_
  rintro _ ⟨v8, rfl⟩
  refine tr1 rfl (aJ (v := .d (.lit v8)) (aA rfl) rfl rfl) ?_
  refine aF ?_
  have h := Option.some.inj h
  subst h
  refine cL (bF [1, 0] rfl rfl (le_refl _)) ?_
  exact bM ⟨rfl, _, [.arr v8 3 1 (x6.map aN)], [.arr (.slice none 0 0) 3 1 (([] : List Int).map aN)], _, .one (.tmp 2 (v := .d (.lit v8)) rfl), .refl _, .same _, v8, rfl, rfl⟩

theorem rA (d_0_Tree : aO) (d_0_players : List Int) (lucky_1 : List (aG × Int)) (slot_2 : Int) {Q : (aG × Bool) → Prop} {d_0_b d_0_o : Nat} {d_0_players_v : Value} {d_0_won_r : Nat} {lucky_1_r : Nat} {lucky_1_bs : List Nat} {lucky_1_ck : Nat} (h : gI d_0_Tree d_0_players lucky_1 slot_2 Q) : eZ Try.prog 98 [.bp d_0_b d_0_o 0, .d (.lit (.map (some lucky_1_r))), .d (.lit (.int .i64 slot_2))] [.box d_0_b d_0_o [.lit (.int .i64 d_0_Tree.Rounds), .sl 1 (d_0_Tree.Slots.map aN), .lit d_0_players_v, .lit (.map (some d_0_won_r))], .arr d_0_players_v 3 1 (d_0_players.map aN), .map lucky_1_r (lucky_1.map fun p : aG × Int => ((fun a : aG => Value.agg ((aL a).map bK).toArray) p.1, (fun v : Int => AV.d (.lit (.int .i64 v))) p.2)) lucky_1_bs lucky_1_ck] (fun r' o' => ∃ (r : aG × Bool), Q r ∧ r' = .tup [.agg (aL r.1), .d (.lit (.bool r.2))] ∧ o' = [.box d_0_b d_0_o [.lit (.int .i64 d_0_Tree.Rounds), .sl 1 (d_0_Tree.Slots.map aN), .lit d_0_players_v, .lit (.map (some d_0_won_r))], .arr d_0_players_v 3 1 (d_0_players.map aN), .map lucky_1_r (lucky_1.map fun p : aG × Int => ((fun a : aG => Value.agg ((aL a).map bK).toArray) p.1, (fun v : Int => AV.d (.lit (.int .i64 v))) p.2)) lucky_1_bs lucky_1_ck]) := by
 unfold gI at h
 refine gA Try.func98 rfl (rs := [.cell 6 32, .tmp 7]) Try.results98 Try.ntmps98 (Nat.le_of_ble_eq_true rfl) ?_
 refine aE ?_
 refine aC ?_
 refine bV rfl (dJ (zs := [.lit (.int .i64 0), .lit (.int .i64 0), .lit (.int .i64 0), .lit (.int .i64 0), .lit (.int .i64 0)]) (aA rfl) Try.zeroValue32 rfl rfl) ?_
 rintro _ ⟨b1, rfl⟩
 refine tr1 rfl (aJ (v := .d (.lit (.bool false))) (aA rfl) rfl rfl) ?_
 refine aF ?_
 refine aE ?_
 refine aE ?_
 refine aC ?_
 refine tr1 rfl (aD (v := .d (.lit (.map (some lucky_1_r)))) (aA rfl) rfl rfl) ?_
 refine bV rfl (aGc (m := 2) (aA rfl) Try.underlying123 rfl rfl) ?_
 rintro _ ⟨q2, h4, rfl⟩
 have h := xP h h4
 refine aF ?_
 refine cD ?_
 refine nP [0, 2, 6, 10] (fun (s5 : aG × (List Nat)) => []) (fun (s5 : aG × (List Nat)) => [.arr d_0_players_v 3 1 (d_0_players.map aN), .box d_0_b d_0_o [.lit (.int .i64 d_0_Tree.Rounds), .sl 1 (d_0_Tree.Slots.map aN), .lit d_0_players_v, .lit (.map (some d_0_won_r))], .map lucky_1_r (lucky_1.map fun p : aG × Int => ((fun a : aG => Value.agg ((aL a).map bK).toArray) p.1, (fun v : Int => AV.d (.lit (.int .i64 v))) p.2)) lucky_1_bs lucky_1_ck, .box b1 0 (aL s5.1), .iter q2 lucky_1_r lucky_1_ck s5.2 lucky_1_ck]) (fun (k : Nat) (s5 : aG × (List Nat)) => gD Q slot_2 d_0_players d_0_Tree lucky_1 k s5.1 (kM lucky_1 lucky_1_bs s5.2)) (fun _ h => h) ((aG.mk 0 0 0 0 0), []) h (bF [1, 0, 2, 3, 4] rfl rfl (bB ⟨rfl, rfl, rfl, rfl, trivial⟩)) ?_
 rintro k7 ⟨o6_0_5, seen6⟩ h
 simp only [gD] at h
 refine aE ?_
 refine aC ?_
 refine bV rfl (aIz (kv := (fun a : aG => Value.agg ((aL a).map bK).toArray)) (av := (fun v : Int => AV.d (.lit (.int .i64 v)))) (l := lucky_1) (mi := 4) (mm := 2) (aA rfl) rfl rfl rfl) ?_
 rintro _ (⟨h12, rfl⟩ | ⟨j9, b10, p8, h11, rfl⟩)
 ·have h := h.1 h12
  refine tr1 rfl (bL (aA rfl) rfl rfl) ?_
  refine aF ?_
  refine aE ?_
  refine bT rfl (fun c13 => ?_) (fun c13 => ?_)
  ·exact absurd c13 (by decide)
  ·refine cX ?_
   refine .inl ⟨rfl, ?_⟩
   simp only [kV] at h
   refine aE ?_
   refine aC ?_
   refine tr1 rfl (eE (aA rfl) aBg (zs := [.lit (.int .i64 0), .lit (.int .i64 0), .lit (.int .i64 0), .lit (.int .i64 0), .lit (.int .i64 0)]) rfl rfl rfl rfl (es := [.lit (.int .i64 0), .lit (.int .i64 0), .lit (.int .i64 0), .lit (.int .i64 0), .lit (.int .i64 0)]) rfl) ?_
   refine tr1 rfl (cB (i := 3) rfl rfl rfl rfl rfl Try.sizeOf32 rfl (aA rfl) (Nat.le_of_ble_eq_true rfl) (ds' := (aL (aG.mk 0 0 0 0 0))) rfl) ?_
   refine tr1 rfl (aJ (v := .d (.lit (.bool false))) (aA rfl) rfl rfl) ?_
   refine aF ?_
   refine cL (bF [1, 0, 2, 3, 4] rfl rfl (le_refl _)) ?_
   exact bM ⟨rfl, _, [.box d_0_b d_0_o [.lit (.int .i64 d_0_Tree.Rounds), .sl 1 (d_0_Tree.Slots.map aN), .lit d_0_players_v, .lit (.map (some d_0_won_r))], .arr d_0_players_v 3 1 (d_0_players.map aN), .map lucky_1_r (lucky_1.map fun p : aG × Int => ((fun a : aG => Value.agg ((aL a).map bK).toArray) p.1, (fun v : Int => AV.d (.lit (.int .i64 v))) p.2)) lucky_1_bs lucky_1_ck], [.box b1 0 (aL (aG.mk 0 0 0 0 0)), .iter q2 lucky_1_r lucky_1_ck seen6 lucky_1_ck], _, .two (.cell 6 32 rfl (i := 3) rfl jP (es := (aL (aG.mk 0 0 0 0 0))) rfl rfl) (.tmp 7 (v := .d (.lit (.bool false))) rfl), .refl _, .same _, ((aG.mk 0 0 0 0 0), false), h, rfl, rfl⟩
 ·have h := yU h h11
  refine tr1 rfl (bL (aA rfl) rfl rfl) ?_
  refine aF ?_
  refine aE ?_
  refine bT rfl (fun c21 => ?_) (fun c21 => ?_)
  ·refine bR ?_
   refine cD ?_
   refine aE ?_
   refine aC ?_
   refine tr1 rfl (aGb (kv := (fun a : aG => Value.agg ((aL a).map bK).toArray)) (av := (fun v : Int => AV.d (.lit (.int .i64 v)))) (l := lucky_1) (mi := 4) (mm := 2) (ka := .agg (aL p8.1)) (aA rfl) rfl rfl rfl h11 (fun _ _ => .agg (xK rfl))) ?_
   refine tr1 rfl (bL (aA rfl) rfl rfl) ?_
   refine bV rfl (dJ (zs := [.lit (.int .i64 0), .lit (.int .i64 0), .lit (.int .i64 0), .lit (.int .i64 0), .lit (.int .i64 0)]) (aA rfl) Try.zeroValue32 rfl rfl) ?_
   rintro _ ⟨b14, rfl⟩
   refine tr1 rfl (cB (i := 5) rfl rfl rfl rfl rfl Try.sizeOf32 rfl (aA rfl) (Nat.le_of_ble_eq_true rfl) (ds' := (aL p8.1)) rfl) ?_
   refine aF ?_
   refine aE ?_
   obtain ⟨b15, h16, h⟩ := cS h
   refine dM mix 16 [0, 2, 6, 8, 10] [(30, .d (.lit (.bool b15)))] ?_ ?_
   ·refine bN (decide (p8.1.Place = slot_2)) (fun c17 => ?_) (fun c17 => ?_)
    ·have h16 := aZ c17 h16
     obtain ⟨x18, h19, h16⟩ := bind_some h16
     have h16 := Option.some.inj h16
     subst h16
     refine ⟨[(15, 0, .bp b14 0 2), (16, 1, .d (.lit (.int .i64 p8.1.Place))), (17, 2, .d (.lit (.int .i64 slot_2))), (18, 3, .d (.lit (.bool ((decide (p8.1.Place = slot_2)))))), (19, 4, .d (.lit (.bool ((decide (p8.1.Place = slot_2)))))), (20, 5, .bp b14 0 4), (21, 6, .d (.lit (.int .i64 p8.1.Old))), (22, 7, .bp d_0_b d_0_o 0), (23, 8, .bp d_0_b d_0_o 0), (24, 9, .bp d_0_b d_0_o 2), (25, 10, .d (.lit d_0_players_v)), (26, 11, .d (.lit (.int .i64 slot_2))), (27, 12, .ep d_0_players_v 1 slot_2.toNat 0), (28, 13, .d (.lit (.int .i64 x18))), (29, 14, .d (.lit (.bool ((decide (p8.1.Old = x18)))))), (30, 15, .d (.lit (.bool ((decide (p8.1.Old = x18))))))], ?_, ?_⟩
     · exact ⟨by kernel_rfl, by kernel_rfl, by kernel_rfl, by kernel_rfl, by kernel_rfl, [([], []), ([0], []), ([], []), ([1, 2], []), ([3], []), ([4], []), ([4, 5], []), ([4], []), ([4, 7], []), ([4, 8], []), ([4, 9], []), ([4], []), ([4, 10, 11], []), ([4, 12], []), ([4, 6, 13], []), ([4, 14], [])], by kernel_rfl, ⟨fun S hS => aH rfl (aT rfl (aV (aA rfl) (aI hS rfl) iQ)),
      fun S hS => aH rfl (aT rfl (aW (aA rfl) (aI hS rfl) (i := 5) rfl rfl bJ)),
      fun S hS => aH rfl (aT rfl (aD (v := .d (.lit (.int .i64 slot_2))) (aA rfl) (aI hS rfl) rfl)),
      fun S hS => aH rfl (aT rfl (bI (aA rfl) (aI hS rfl) (aI hS rfl) rfl)),
      fun S hS => aH rfl (aT rfl (aD (v := .d (.lit (.bool ((decide (p8.1.Place = slot_2)))))) (aA rfl) (aI hS rfl) rfl)),
      fun S hS => aH rfl (bD rfl rfl (aA rfl) (aS hS rfl) c17 (aV (aA rfl) (aI hS rfl) rL)),
      fun S hS => aH rfl (bD rfl rfl (aA rfl) (aS hS rfl) c17 (aW (aA rfl) (aI hS rfl) (i := 5) rfl rfl bJ)),
      fun S hS => aH rfl (bD rfl rfl (aA rfl) (aS hS rfl) c17 (aD (v := .bp d_0_b d_0_o 0) (aA rfl) (aI hS rfl) rfl)),
      fun S hS => aH rfl (bD rfl rfl (aA rfl) (aS hS rfl) c17 (jX (aA rfl) (aI hS rfl))),
      fun S hS => aH rfl (bD rfl rfl (aA rfl) (aS hS rfl) c17 (aV (aA rfl) (aI hS rfl) kP)),
      fun S hS => aH rfl (bD rfl rfl (aA rfl) (aS hS rfl) c17 (aW (aA rfl) (aI hS rfl) (i := 1) rfl rfl cU)),
      fun S hS => aH rfl (bD rfl rfl (aA rfl) (aS hS rfl) c17 (aD (v := .d (.lit (.int .i64 slot_2))) (aA rfl) (aI hS rfl) rfl)),
      fun S hS => aH rfl (bD rfl rfl (aA rfl) (aS hS rfl) c17 (eY (m := 0) (aA rfl) (aI hS rfl) rfl (aI hS rfl) bS.of (bU aN h19))),
      fun S hS => aH rfl (bD rfl rfl (aA rfl) (aS hS rfl) c17 (jJ (aA rfl) (aI hS rfl) (m := 0) rfl (mD aN h19) rfl bJ)),
      fun S hS => aH rfl (bD rfl rfl (aA rfl) (aS hS rfl) c17 (bI (aA rfl) (aI hS rfl) (aI hS rfl) rfl)),
      fun S hS => aH rfl (aT rfl (bW (v := .d (.lit (.bool ((decide (p8.1.Old = x18)))))) (aA rfl) (aI hS rfl) c17 (aI hS rfl) rfl)), trivial⟩⟩
     · exact cZ (aU rfl (bB ⟨rfl, rfl, rfl, rfl, rfl, trivial⟩))
    ·have h16 := aY c17 h16
     have h16 := Option.some.inj h16
     subst h16
     refine ⟨[(15, 0, .bp b14 0 2), (16, 1, .d (.lit (.int .i64 p8.1.Place))), (17, 2, .d (.lit (.int .i64 slot_2))), (18, 3, .d (.lit (.bool ((decide (p8.1.Place = slot_2)))))), (19, 4, .d (.lit (.bool ((decide (p8.1.Place = slot_2)))))), (20, 5, .tup []), (21, 6, .tup []), (22, 7, .tup []), (23, 8, .tup []), (24, 9, .tup []), (25, 10, .tup []), (26, 11, .tup []), (27, 12, .tup []), (28, 13, .tup []), (29, 14, .tup []), (30, 15, .d (.lit (.bool false)))], ?_, ?_⟩
     · exact ⟨by kernel_rfl, by kernel_rfl, by kernel_rfl, by kernel_rfl, by kernel_rfl, [([], []), ([0], []), ([], []), ([1, 2], []), ([3], []), ([4], []), ([4, 5], []), ([4], []), ([4, 7], []), ([4, 8], []), ([4, 9], []), ([4], []), ([4, 10, 11], []), ([4, 12], []), ([4, 6, 13], []), ([4, 14], [])], by kernel_rfl, ⟨fun S hS => aH rfl (aT rfl (aV (aA rfl) (aI hS rfl) iQ)),
      fun S hS => aH rfl (aT rfl (aW (aA rfl) (aI hS rfl) (i := 5) rfl rfl bJ)),
      fun S hS => aH rfl (aT rfl (aD (v := .d (.lit (.int .i64 slot_2))) (aA rfl) (aI hS rfl) rfl)),
      fun S hS => aH rfl (aT rfl (bI (aA rfl) (aI hS rfl) (aI hS rfl) rfl)),
      fun S hS => aH rfl (aT rfl (aD (v := .d (.lit (.bool ((decide (p8.1.Place = slot_2)))))) (aA rfl) (aI hS rfl) rfl)),
      fun S hS => aH rfl (bG rfl rfl (aA rfl) rfl (aA rfl) (aS hS rfl) c17),
      fun S hS => aH rfl (bG rfl rfl (aA rfl) rfl (aA rfl) (aS hS rfl) c17),
      fun S hS => aH rfl (bG rfl rfl (aA rfl) rfl (aA rfl) (aS hS rfl) c17),
      fun S hS => aH rfl (bG rfl rfl (aA rfl) rfl (aA rfl) (aS hS rfl) c17),
      fun S hS => aH rfl (bG rfl rfl (aA rfl) rfl (aA rfl) (aS hS rfl) c17),
      fun S hS => aH rfl (bG rfl rfl (aA rfl) rfl (aA rfl) (aS hS rfl) c17),
      fun S hS => aH rfl (bG rfl rfl (aA rfl) rfl (aA rfl) (aS hS rfl) c17),
      fun S hS => aH rfl (bG rfl rfl (aA rfl) rfl (aA rfl) (aS hS rfl) c17),
      fun S hS => aH rfl (bG rfl rfl (aA rfl) rfl (aA rfl) (aS hS rfl) c17),
      fun S hS => aH rfl (bG rfl rfl (aA rfl) rfl (aA rfl) (aS hS rfl) c17),
      fun S hS => aH rfl (aT rfl (bX (v := .d (.lit (.bool false))) (aA rfl) (aI hS rfl) c17 rfl rfl)), trivial⟩⟩
     · exact cZ (aU rfl (bB ⟨rfl, rfl, rfl, rfl, rfl, trivial⟩))
   ·refine aF ?_
    refine bT rfl (fun c20 => ?_) (fun c20 => ?_)
    ·have h := dR c20 h
     refine aE ?_
     refine aC ?_
     refine tr1 rfl (bH (aA rfl) rfl (i := 5) rfl jP (es := (aL p8.1)) rfl rfl) ?_
     refine tr1 rfl (cB (i := 3) rfl rfl rfl rfl rfl Try.sizeOf32 rfl (aA rfl) (Nat.le_of_ble_eq_true rfl) (ds' := (aL p8.1)) rfl) ?_
     refine tr1 rfl (aJ (v := .d (.lit (.bool true))) (aA rfl) rfl rfl) ?_
     refine aF ?_
     refine cL (bF [1, 0, 2, 3, 4, 5] rfl rfl (le_refl _)) ?_
     exact bM ⟨rfl, _, [.box d_0_b d_0_o [.lit (.int .i64 d_0_Tree.Rounds), .sl 1 (d_0_Tree.Slots.map aN), .lit d_0_players_v, .lit (.map (some d_0_won_r))], .arr d_0_players_v 3 1 (d_0_players.map aN), .map lucky_1_r (lucky_1.map fun p : aG × Int => ((fun a : aG => Value.agg ((aL a).map bK).toArray) p.1, (fun v : Int => AV.d (.lit (.int .i64 v))) p.2)) lucky_1_bs lucky_1_ck], [.box b1 0 (aL p8.1), .iter q2 lucky_1_r lucky_1_ck (seen6 ++ [b10]) lucky_1_ck, .box b14 0 (aL p8.1)], _, .two (.cell 6 32 rfl (i := 3) rfl jP (es := (aL p8.1)) rfl rfl) (.tmp 7 (v := .d (.lit (.bool true))) rfl), .refl _, .same _, (p8.1, true), h, rfl, rfl⟩
    ·have h := dQ c20 h
     refine eF ?_
     exact ⟨(o6_0_5, (seen6 ++ [b10])), h, bF [0, 1, 2, 3, 4] rfl rfl (bB ⟨rfl, rfl, rfl, rfl, trivial⟩)⟩
  ·exact absurd c21 (by decide)

theorem uI (d_0_Tree : aO) (d_0_players : List Int) (lucky_1 : List (aG × Int)) {Q : (Bool × (List Int) × (List (aG × Int))) → Prop} {d_0_b d_0_o : Nat} {d_0_players_v : Value} {d_0_won_r : Nat} {lucky_1_r : Nat} {lucky_1_bs : List Nat} {lucky_1_ck : Nat} (h : jD d_0_Tree d_0_players lucky_1 Q) : eZ Try.prog 90 [.bp d_0_b d_0_o 0, .d (.lit (.map (some lucky_1_r)))] [.box d_0_b d_0_o [.lit (.int .i64 d_0_Tree.Rounds), .sl 1 (d_0_Tree.Slots.map aN), .lit d_0_players_v, .lit (.map (some d_0_won_r))], .arr d_0_players_v 3 1 (d_0_players.map aN), .map lucky_1_r (lucky_1.map fun p : aG × Int => ((fun a : aG => Value.agg ((aL a).map bK).toArray) p.1, (fun v : Int => AV.d (.lit (.int .i64 v))) p.2)) lucky_1_bs lucky_1_ck] (fun r' o' => ∃ (r : Bool × (List Int) × (List (aG × Int))) (bs3 : List Nat) (ck3 : Nat), Q r ∧ r' = .d (.lit (.bool r.1)) ∧ o' = [.box d_0_b d_0_o [.lit (.int .i64 d_0_Tree.Rounds), .sl 1 (d_0_Tree.Slots.map aN), .lit d_0_players_v, .lit (.map (some d_0_won_r))], .arr d_0_players_v 3 1 (r.2.1.map aN), .map lucky_1_r (r.2.2.map fun p : aG × Int => ((fun a : aG => Value.agg ((aL a).map bK).toArray) p.1, (fun v : Int => AV.d (.lit (.int .i64 v))) p.2)) bs3 ck3]) := by
 unfold jD at h
 refine gA Try.func90 rfl (rs := [.tmp 4]) Try.results90 Try.ntmps90 (Nat.le_of_ble_eq_true rfl) ?_
 refine aE ?_
 refine aC ?_
 refine tr1 rfl (aJ (v := .d (.lit (.bool false))) (aA rfl) rfl rfl) ?_
 refine aF ?_
 refine aE ?_
 refine aC ?_
 refine tr1 rfl (aD (v := .bp d_0_b d_0_o 0) (aA rfl) rfl rfl) ?_
 refine tr1 rfl (jX (aA rfl) rfl) ?_
 refine tr1 rfl (aV (aA rfl) rfl nM) ?_
 refine tr1 rfl (aV (aA rfl) rfl dU) ?_
 refine tr1 rfl (aW (aA rfl) rfl (i := 0) rfl rfl cU) ?_
 obtain ⟨r1, h2, h⟩ := cS h
 refine bV rfl (aBc (aA rfl) (.func _ _ Try.call89) rfl rfl (rG _ h2)) ?_
 rintro _ ⟨v3, rfl⟩
 refine tr1 rfl (aJ (v := .d (.lit v3)) (aA rfl) rfl rfl) ?_
 refine aF ?_
 refine aE ?_
 refine aE ?_
 refine aC ?_
 refine tr1 rfl (aD (v := .bp d_0_b d_0_o 0) (aA rfl) rfl rfl) ?_
 refine tr1 rfl (jX (aA rfl) rfl) ?_
 refine tr1 rfl (aV (aA rfl) rfl kP) ?_
 refine tr1 rfl (aW (aA rfl) rfl (i := 0) rfl rfl cU) ?_
 refine tr1 rfl (nO (m := 1) (aA rfl) rfl rfl bS.of) ?_
 refine tr1 rfl (aD (v := .d (.lit (.int .i64 0))) (aA rfl) rfl rfl) ?_
 refine aF ?_
 refine cD ?_
 refine nP [0, 1, 19] (fun (s4 : Int × (List Int) × (List (aG × Int)) × (List Int) × (List Nat) × Nat × Value) => [(5, .d (.lit s4.2.2.2.2.2.2)), (20, .d (.lit (.int .i64 s4.1)))]) (fun (s4 : Int × (List Int) × (List (aG × Int)) × (List Int) × (List Nat) × Nat × Value) => [.arr d_0_players_v 3 1 (s4.2.1.map aN), .box d_0_b d_0_o [.lit (.int .i64 d_0_Tree.Rounds), .sl 1 (d_0_Tree.Slots.map aN), .lit d_0_players_v, .lit (.map (some d_0_won_r))], .map lucky_1_r (s4.2.2.1.map fun p : aG × Int => ((fun a : aG => Value.agg ((aL a).map bK).toArray) p.1, (fun v : Int => AV.d (.lit (.int .i64 v))) p.2)) s4.2.2.2.2.1 s4.2.2.2.2.2.1, .arr s4.2.2.2.2.2.2 3 1 (s4.2.2.2.1.map aN)]) (fun (k : Nat) (s4 : Int × (List Int) × (List (aG × Int)) × (List Int) × (List Nat) × Nat × Value) => cW Q (d_0_players.length : Int) d_0_Tree k s4.1 s4.2.1 s4.2.2.1 s4.2.2.2.1) (fun _ h => h) (0, d_0_players, lucky_1, r1, lucky_1_bs, lucky_1_ck, v3) h (bF [1, 0, 2, 3] rfl rfl (aU rfl (aU rfl (bB ⟨rfl, rfl, rfl, trivial⟩)))) ?_
 rintro k8 ⟨t20_0_4, d_0_4, lucky_0_4, o14_0_4, bs5, ck6, w7⟩ h
 simp only [cW] at h
 refine aE ?_
 refine aC ?_
 refine tr1 rfl (bI (aA rfl) rfl rfl rfl) ?_
 refine aF ?_
 refine aE ?_
 refine bT rfl (fun c9 => ?_) (fun c9 => ?_)
 ·have h := dR c9 h
  refine bR ?_
  refine aE ?_
  refine cD ?_
  refine aE ?_
  refine aC ?_
  refine tr1 rfl (aD (v := .d (.lit (.int .i64 t20_0_4))) (aA rfl) rfl rfl) ?_
  refine tr1 rfl (aJ (v := .d (.lit (.int .i64 t20_0_4))) (aA rfl) rfl rfl) ?_
  refine aF ?_
  refine aE ?_
  refine aC ?_
  refine tr1 rfl (aD (v := .bp d_0_b d_0_o 0) (aA rfl) rfl rfl) ?_
  refine tr1 rfl (aD (v := .d (.lit (.map (some lucky_1_r)))) (aA rfl) rfl rfl) ?_
  refine tr1 rfl (aD (v := .d (.lit (.int .i64 t20_0_4))) (aA rfl) rfl rfl) ?_
  refine kN (bF [1, 0, 2, 3] rfl rfl (le_refl _)) ?_
  refine bV rfl (tB (passed := [.box d_0_b d_0_o [.lit (.int .i64 d_0_Tree.Rounds), .sl 1 (d_0_Tree.Slots.map aN), .lit d_0_players_v, .lit (.map (some d_0_won_r))], .arr d_0_players_v 3 1 (d_0_4.map aN), .map lucky_1_r (lucky_0_4.map fun p : aG × Int => ((fun a : aG => Value.agg ((aL a).map bK).toArray) p.1, (fun v : Int => AV.d (.lit (.int .i64 v))) p.2)) bs5 ck6]) (aA rfl) rfl (.func _ _ Try.call98) rfl rfl (rA d_0_Tree d_0_4 lucky_0_4 t20_0_4 h)) ?_
  rintro _ ⟨_, _, ⟨r10, h, rfl, rfl⟩, rfl⟩
  refine tr1 rfl (aD (v := .tup [.agg (aL r10.1), .d (.lit (.bool r10.2))]) (aA rfl) rfl rfl) ?_
  refine tr1 rfl (bL (aA rfl) rfl rfl) ?_
  refine tr1 rfl (bL (aA rfl) rfl rfl) ?_
  refine bV rfl (dJ (zs := [.lit (.int .i64 0), .lit (.int .i64 0), .lit (.int .i64 0), .lit (.int .i64 0), .lit (.int .i64 0)]) (aA rfl) Try.zeroValue32 rfl rfl) ?_
  rintro _ ⟨b11, rfl⟩
  refine tr1 rfl (cB (i := 4) rfl rfl rfl rfl rfl Try.sizeOf32 rfl (aA rfl) (Nat.le_of_ble_eq_true rfl) (ds' := (aL r10.1)) rfl) ?_
  refine tr1 rfl (aJ (v := .d (.lit (.bool r10.2))) (aA rfl) rfl rfl) ?_
  refine aF ?_
  refine uZ ?_
  refine nP [0, 1, 6, 19, 20] (fun (s12 : Bool × (List Int) × (List (aG × Int)) × aG × (List Int) × (List Nat) × Nat × Nat × Value) => [(5, .d (.lit s12.2.2.2.2.2.2.2.2)), (7, .bp s12.2.2.2.2.2.2.2.1 0 0), (8, .d (.lit (.bool s12.1)))]) (fun (s12 : Bool × (List Int) × (List (aG × Int)) × aG × (List Int) × (List Nat) × Nat × Nat × Value) => [.arr d_0_players_v 3 1 (s12.2.1.map aN), .box d_0_b d_0_o [.lit (.int .i64 d_0_Tree.Rounds), .sl 1 (d_0_Tree.Slots.map aN), .lit d_0_players_v, .lit (.map (some d_0_won_r))], .map lucky_1_r (s12.2.2.1.map fun p : aG × Int => ((fun a : aG => Value.agg ((aL a).map bK).toArray) p.1, (fun v : Int => AV.d (.lit (.int .i64 v))) p.2)) s12.2.2.2.2.2.1 s12.2.2.2.2.2.2.1, .box s12.2.2.2.2.2.2.2.1 0 (aL s12.2.2.2.1), .arr s12.2.2.2.2.2.2.2.2 3 1 (s12.2.2.2.2.1.map aN)]) (fun (k : Nat) (s12 : Bool × (List Int) × (List (aG × Int)) × aG × (List Int) × (List Nat) × Nat × Nat × Value) => dN Q (cW Q (d_0_players.length : Int) d_0_Tree k8) t20_0_4 (d_0_players.length : Int) t20_0_4 d_0_Tree k s12.1 s12.2.1 s12.2.2.1 s12.2.2.2.1 s12.2.2.2.2.1) (fun _ h => h) (r10.2, d_0_4, lucky_0_4, r10.1, o14_0_4, bs5, ck6, b11, w7) h (bF [1, 0, 2, 4, 3] rfl rfl (aU rfl (aU rfl (aU rfl (bB ⟨rfl, rfl, rfl, rfl, rfl, trivial⟩))))) ?_
  rintro k17 ⟨isv_2_12, d_2_12, lucky_2_12, s_2_12, o14_2_12, bs13, ck14, b15, w16⟩ h
  simp only [dN] at h
  refine aE ?_
  refine aE ?_
  refine aC ?_
  refine tr1 rfl (aD (v := .d (.lit (.bool isv_2_12))) (aA rfl) rfl rfl) ?_
  refine aF ?_
  refine bT rfl (fun c18 => ?_) (fun c18 => ?_)
  ·have h := dR c18 h
   refine bR ?_
   refine aE ?_
   refine cD ?_
   refine aE ?_
   refine aE ?_
   refine aC ?_
   refine tr1 rfl (aD (v := .d (.lit w16)) (aA rfl) rfl rfl) ?_
   refine tr1 rfl (aV (aA rfl) rfl mH) ?_
   refine tr1 rfl (aW (aA rfl) rfl (i := 3) rfl rfl bJ) ?_
   obtain ⟨r19, h20, h⟩ := cS h
   refine tr1 rfl (cH (aA rfl) (.func _ _ Try.call88) rfl rfl (.cons (.d (mA 4 rfl (dG (f := aN) fun _ => rfl))) (.cons (.same _) .nil)) (qJ _ _ h20) rfl) ?_
   refine aF ?_
   refine bT rfl (fun c21 => ?_) (fun c21 => ?_)
   ·have h := dR c21 h
    refine aE ?_
    refine aC ?_
    refine tr1 rfl (aJ (v := .d (.lit (.bool false))) (aA rfl) rfl rfl) ?_
    refine aF ?_
    refine cL (bF [1, 0, 2, 3, 4] rfl rfl (le_refl _)) ?_
    exact bM ⟨rfl, _, [.box d_0_b d_0_o [.lit (.int .i64 d_0_Tree.Rounds), .sl 1 (d_0_Tree.Slots.map aN), .lit d_0_players_v, .lit (.map (some d_0_won_r))], .arr d_0_players_v 3 1 (d_2_12.map aN), .map lucky_1_r (lucky_2_12.map fun p : aG × Int => ((fun a : aG => Value.agg ((aL a).map bK).toArray) p.1, (fun v : Int => AV.d (.lit (.int .i64 v))) p.2)) bs13 ck14], [.box b15 0 (aL s_2_12), .arr w16 3 1 (o14_2_12.map aN)], _, .one (.tmp 4 (v := .d (.lit (.bool false))) rfl), .refl _, .same _, (false, d_2_12, lucky_2_12), bs13, ck14, h, rfl, rfl⟩
   ·have h := dQ c21 h
    refine bR ?_
    refine aE ?_
    refine dM mix 7 [0, 1, 5, 6, 7, 19, 20] [(45, .d (.lit d_0_players_v)), (46, .d (.lit (.int .i64 t20_0_4))), (48, .d (.lit (.int .i64 s_2_12.Player)))] ?_ ?_
    ·refine ⟨[(42, 0, .bp d_0_b d_0_o 0), (43, 1, .bp d_0_b d_0_o 0), (44, 2, .bp d_0_b d_0_o 2), (45, 3, .d (.lit d_0_players_v)), (46, 4, .d (.lit (.int .i64 t20_0_4))), (47, 5, .bp b15 0 3), (48, 6, .d (.lit (.int .i64 s_2_12.Player)))], ?_, ?_⟩
     · exact ⟨by kernel_rfl, by kernel_rfl, by kernel_rfl, by kernel_rfl, by kernel_rfl, [([], []), ([0], []), ([1], []), ([2], []), ([], []), ([], []), ([5], [])], by kernel_rfl, ⟨fun S hS => aH rfl (aT rfl (aD (v := .bp d_0_b d_0_o 0) (aA rfl) (aI hS rfl) rfl)),
      fun S hS => aH rfl (aT rfl (jX (aA rfl) (aI hS rfl))),
      fun S hS => aH rfl (aT rfl (aV (aA rfl) (aI hS rfl) kP)),
      fun S hS => aH rfl (aT rfl (aW (aA rfl) (aI hS rfl) (i := 1) rfl rfl cU)),
      fun S hS => aH rfl (aT rfl (aD (v := .d (.lit (.int .i64 t20_0_4))) (aA rfl) (aI hS rfl) rfl)),
      fun S hS => aH rfl (aT rfl (aV (aA rfl) (aI hS rfl) mH)),
      fun S hS => aH rfl (aT rfl (aW (aA rfl) (aI hS rfl) (i := 3) rfl rfl bJ)), trivial⟩⟩
     · exact cZ (aU rfl (aU rfl (aU rfl (bB ⟨rfl, rfl, rfl, rfl, rfl, rfl, rfl, trivial⟩))))
    ·obtain ⟨x22, h23, h⟩ := cS h
     refine tr1 rfl (eY (m := 0) (aA rfl) rfl rfl rfl bS.of (bU aN h23)) ?_
     refine tr1 rfl (sW (l := 0) rfl rfl (mD aN h23) rfl rfl rfl Try.sizeOf3 rfl (aA rfl) (Nat.le_of_ble_eq_true rfl) (rows' := ((d_2_12.set t20_0_4.toNat s_2_12.Player)).map aN) (aBu _ _ _ _ rfl)) ?_
     refine aF ?_
     refine aE ?_
     refine aC ?_
     refine tr1 rfl (aD (v := .d (.lit w16)) (aA rfl) rfl rfl) ?_
     refine tr1 rfl (aV (aA rfl) rfl mH) ?_
     refine tr1 rfl (aW (aA rfl) rfl (i := 3) rfl rfl bJ) ?_
     refine tr1 rfl (fQ (aA rfl) bS rfl rfl (rows := ([s_2_12.Player]).map aN) rfl (dG (f := aN) fun _ => rfl) rfl (by decide)) ?_
     obtain ⟨x24, h25, h⟩ := cS h
     refine bV rfl (fZ (i := 4) (aA rfl) bS rfl rfl rfl (fun _ => rfl) h25 rfl) ?_
     rintro _ ⟨v26, rfl⟩
     refine tr1 rfl (aJ (v := .d (.lit v26)) (aA rfl) rfl rfl) ?_
     refine aF ?_
     refine aC ?_
     refine tr1 rfl (aD (v := .d (.lit (.map (some lucky_1_r)))) (aA rfl) rfl rfl) ?_
     refine tr1 rfl (bH (aA rfl) rfl (i := 3) rfl jP (es := (aL s_2_12)) rfl rfl) ?_
     refine tr1 rfl (aKo (av := (fun v : Int => AV.d (.lit (.int .i64 v)))) (l := lucky_2_12) (a := s_2_12) (m := 2) aDx Try.underlying123 rfl rfl rfl rfl (kE (enc := aL) s_2_12 rfl)) ?_
     refine eV ?_
     refine aE ?_
     refine aE ?_
     refine aC ?_
     refine tr1 rfl (bH (aA rfl) rfl (i := 3) rfl jP (es := (aL s_2_12)) rfl rfl) ?_
     refine aF ?_
     refine aC ?_
     refine bV rfl (dJ (zs := [.lit (.int .i64 0), .lit (.int .i64 0), .lit (.int .i64 0), .lit (.int .i64 0), .lit (.int .i64 0)]) (aA rfl) Try.zeroValue32 rfl rfl) ?_
     rintro _ ⟨b27, rfl⟩
     refine tr1 rfl (cB (i := 5) rfl rfl rfl rfl rfl Try.sizeOf32 rfl (aA rfl) (Nat.le_of_ble_eq_true rfl) (ds' := (aL s_2_12)) rfl) ?_
     refine aF ?_
     refine aC ?_
     refine tr1 rfl (aD (v := .bp d_0_b d_0_o 0) (aA rfl) rfl rfl) ?_
     refine tr1 rfl (aD (v := .d (.lit (.map (some lucky_1_r)))) (aA rfl) rfl rfl) ?_
     refine tr1 rfl (aD (v := .d (.lit (.int .i64 t20_0_4))) (aA rfl) rfl rfl) ?_
     refine kN (bF [1, 0, 2, 3, 4, 5] rfl rfl (le_refl _)) ?_
     refine bV rfl (tB (passed := [.box d_0_b d_0_o [.lit (.int .i64 d_0_Tree.Rounds), .sl 1 (d_0_Tree.Slots.map aN), .lit d_0_players_v, .lit (.map (some d_0_won_r))], .arr d_0_players_v 3 1 ((d_2_12.set t20_0_4.toNat s_2_12.Player).map aN), .map lucky_1_r ((mJ s_2_12 lucky_2_12).map fun p : aG × Int => ((fun a : aG => Value.agg ((aL a).map bK).toArray) p.1, (fun v : Int => AV.d (.lit (.int .i64 v))) p.2)) (uL s_2_12 lucky_2_12 bs13) ck14]) (aA rfl) rfl (.func _ _ Try.call98) rfl rfl (rA d_0_Tree (d_2_12.set t20_0_4.toNat s_2_12.Player) (mJ s_2_12 lucky_2_12) t20_0_4 h)) ?_
     rintro _ ⟨_, _, ⟨r28, h, rfl, rfl⟩, rfl⟩
     refine tr1 rfl (aD (v := .tup [.agg (aL r28.1), .d (.lit (.bool r28.2))]) (aA rfl) rfl rfl) ?_
     refine tr1 rfl (bL (aA rfl) rfl rfl) ?_
     refine tr1 rfl (bL (aA rfl) rfl rfl) ?_
     refine tr1 rfl (cB (i := 5) rfl rfl rfl rfl rfl Try.sizeOf32 rfl (aA rfl) (Nat.le_of_ble_eq_true rfl) (ds' := (aL r28.1)) rfl) ?_
     refine tr1 rfl (aJ (v := .d (.lit (.bool r28.2))) (aA rfl) rfl rfl) ?_
     refine aF ?_
     exact ⟨(r28.2, (d_2_12.set t20_0_4.toNat s_2_12.Player), (mJ s_2_12 lucky_2_12), r28.1, x24, (uL s_2_12 lucky_2_12 bs13), ck14, b27, v26), h, bF [1, 0, 2, 5, 4] rfl rfl (aU rfl (aU rfl (aU rfl (bB ⟨rfl, rfl, rfl, rfl, rfl, trivial⟩))))⟩
  ·have h := dQ c18 h
   refine cX ?_
   refine .inl ⟨rfl, ?_⟩
   simp only [jN] at h
   simp only [jM] at h
   refine aC ?_
   refine tr1 rfl (bO (aA rfl) rfl rfl rfl) ?_
   refine tr1 rfl (aD (v := .d (.lit (.int .i64 ((w64 (t20_0_4 + 1)))))) (aA rfl) rfl rfl) ?_
   refine aF ?_
   exact ⟨(w64 (t20_0_4 + 1), d_2_12, lucky_2_12, o14_2_12, bs13, ck14, w16), h, bF [0, 1, 2, 4] rfl rfl (aU rfl (aU rfl (bB ⟨rfl, rfl, rfl, trivial⟩)))⟩
 ·have h := dQ c9 h
  refine cX ?_
  refine .inl ⟨rfl, ?_⟩
  simp only [jL] at h
  refine aE ?_
  refine aC ?_
  refine tr1 rfl (aD (v := .d (.lit (.map (some lucky_1_r)))) (aA rfl) rfl rfl) ?_
  refine tr1 rfl (aKq (m := 2) (aA rfl) Try.underlying123 rfl rfl) ?_
  refine tr1 rfl (bI (aA rfl) rfl rfl rfl) ?_
  refine tr1 rfl (aJ (v := .d (.lit (.bool ((decide ((lucky_0_4.length : Int) = 0)))))) (aA rfl) rfl rfl) ?_
  refine aF ?_
  refine cL (bF [1, 0, 2, 3] rfl rfl (le_refl _)) ?_
  exact bM ⟨rfl, _, [.box d_0_b d_0_o [.lit (.int .i64 d_0_Tree.Rounds), .sl 1 (d_0_Tree.Slots.map aN), .lit d_0_players_v, .lit (.map (some d_0_won_r))], .arr d_0_players_v 3 1 (d_0_4.map aN), .map lucky_1_r (lucky_0_4.map fun p : aG × Int => ((fun a : aG => Value.agg ((aL a).map bK).toArray) p.1, (fun v : Int => AV.d (.lit (.int .i64 v))) p.2)) bs5 ck6], [.arr w7 3 1 (o14_0_4.map aN)], _, .one (.tmp 4 (v := .d (.lit (.bool ((decide ((lucky_0_4.length : Int) = 0)))))) rfl), .refl _, .same _, (decide ((lucky_0_4.length : Int) = 0), d_0_4, lucky_0_4), bs5, ck6, h, rfl, rfl⟩

theorem jE (round_0 : Int) (slot_1 : Int) {r : aB} (h : iN round_0 slot_1 = some r) : Fn Try.prog 45 [.d (.lit (.int .i64 round_0)), .d (.lit (.int .i64 slot_1))] (.agg (aK r)) := by
 unfold iN at h
 refine nQ Try.func45 rfl (rs := [.cell 4 70]) Try.results45 Try.ntmps45 (Nat.le_of_ble_eq_true rfl) ?_
 refine aE ?_
 refine aC ?_
 refine bV rfl (dJ (zs := [.lit (.int .i64 0), .lit (.int .i64 0)]) (aA rfl) Try.zeroValue70 rfl rfl) ?_
 rintro _ ⟨b1, rfl⟩
 refine aF ?_
 refine aE ?_
 refine aC ?_
 refine tr1 rfl (aD (v := .d (.lit (.int .i64 round_0))) (aA rfl) rfl rfl) ?_
 refine tr1 rfl (aD (v := .d (.lit (.int .i64 slot_1))) (aA rfl) rfl rfl) ?_
 refine tr1 rfl (aD (v := .d (.lit (.int .i64 round_0))) (aA rfl) rfl rfl) ?_
 refine tr1 rfl (bO (aA rfl) rfl rfl rfl) ?_
 obtain ⟨u2, h3, h⟩ := bind_some h
 refine tr1 rfl (pR (aA rfl) rfl rfl (nN h3)) ?_
 refine tr1 rfl (eE (aA rfl) uY (zs := [.lit (.int .i64 0), .lit (.int .i64 0)]) rfl rfl rfl rfl (es := [.lit (.int .i64 round_0), .lit (.int .i64 ((slot_1.fdiv (2 ^ (min (w64 (round_0 + 1)).toNat 64)))))]) rfl) ?_
 refine tr1 rfl (cB (i := 0) rfl rfl rfl rfl rfl Try.sizeOf70 rfl (aA rfl) (Nat.le_of_ble_eq_true rfl) (ds' := (aK (aB.mk round_0 (slot_1.fdiv (2 ^ (min (w64 (round_0 + 1)).toNat 64)))))) rfl) ?_
 refine aF ?_
 have h := Option.some.inj h
 subst h
 exact bM ⟨rfl, _, [.box b1 0 (aK (aB.mk round_0 (slot_1.fdiv (2 ^ (min (w64 (round_0 + 1)).toNat 64)))))], .one (.cell 4 70 rfl (i := 0) rfl iZ (es := (aK (aB.mk round_0 (slot_1.fdiv (2 ^ (min (w64 (round_0 + 1)).toNat 64)))))) rfl rfl), .refl _, .same _⟩

theorem rC (d_0_Tree : aO) (d_0_players : List Int) (d_0_won : List (aB × Int)) (slot_1 : Int) (round_2 : Int) {r : Bool × (List (aB × Int))} {d_0_b d_0_o : Nat} {d_0_players_v : Value} {d_0_won_r : Nat} {d_0_won_bs : List Nat} {d_0_won_ck : Nat} (h : jG d_0_Tree d_0_players d_0_won slot_1 round_2 = some r) : eZ Try.prog 91 [.bp d_0_b d_0_o 0, .d (.lit (.int .i64 slot_1)), .d (.lit (.int .i64 round_2))] [.box d_0_b d_0_o [.lit (.int .i64 d_0_Tree.Rounds), .sl 1 (d_0_Tree.Slots.map aN), .lit d_0_players_v, .lit (.map (some d_0_won_r))], .arr d_0_players_v 3 1 (d_0_players.map aN), .map d_0_won_r (d_0_won.map fun p : aB × Int => ((fun a : aB => Value.agg ((aK a).map bK).toArray) p.1, (fun v : Int => AV.d (.lit (.int .i64 v))) p.2)) d_0_won_bs d_0_won_ck] (fun r' o' => ∃ (bs2 : List Nat) (ck2 : Nat), r' = .d (.lit (.bool r.1)) ∧ o' = [.box d_0_b d_0_o [.lit (.int .i64 d_0_Tree.Rounds), .sl 1 (d_0_Tree.Slots.map aN), .lit d_0_players_v, .lit (.map (some d_0_won_r))], .arr d_0_players_v 3 1 (d_0_players.map aN), .map d_0_won_r (r.2.map fun p : aB × Int => ((fun a : aB => Value.agg ((aK a).map bK).toArray) p.1, (fun v : Int => AV.d (.lit (.int .i64 v))) p.2)) bs2 ck2]) := by
 unfold jG at h
 refine gA Try.func91 rfl (rs := [.tmp 6]) Try.results91 Try.ntmps91 (Nat.le_of_ble_eq_true rfl) ?_
 refine aE ?_
 refine aC ?_
 refine tr1 rfl (aJ (v := .d (.lit (.bool false))) (aA rfl) rfl rfl) ?_
 refine aF ?_
 refine aE ?_
 refine aE ?_
 refine aC ?_
 refine tr1 rfl (aD (v := .d (.lit (.int .i64 round_2))) (aA rfl) rfl rfl) ?_
 refine tr1 rfl (bO (aA rfl) rfl rfl rfl) ?_
 refine tr1 rfl (aD (v := .d (.lit (.int .i64 0))) (aA rfl) rfl rfl) ?_
 refine aF ?_
 refine cD ?_
 refine dI [0, 1, 12] (fun (s1 : Int × (List (aB × Int)) × (List Nat) × Nat) => [(13, .d (.lit (.int .i64 s1.1)))]) (fun (s1 : Int × (List (aB × Int)) × (List Nat) × Nat) => [.arr d_0_players_v 3 1 (d_0_players.map aN), .map d_0_won_r (s1.2.1.map fun p : aB × Int => ((fun a : aB => Value.agg ((aK a).map bK).toArray) p.1, (fun v : Int => AV.d (.lit (.int .i64 v))) p.2)) s1.2.2.1 s1.2.2.2, .box d_0_b d_0_o [.lit (.int .i64 d_0_Tree.Rounds), .sl 1 (d_0_Tree.Slots.map aN), .lit d_0_players_v, .lit (.map (some d_0_won_r))]]) (fun (k : Nat) (s1 : Int × (List (aB × Int)) × (List Nat) × Nat) => gE slot_1 (w64 (round_2 + 1)) d_0_players d_0_Tree k s1.1 s1.2.1) (fun _ => rfl) (0, d_0_won, d_0_won_bs, d_0_won_ck) h (bF [1, 2, 0] rfl rfl (aU rfl (bB ⟨rfl, rfl, rfl, trivial⟩))) ?_
 rintro k4 ⟨t13_0_1, d_0_1_2, bs2, ck3⟩ h
 simp only [gE] at h
 refine aE ?_
 refine aC ?_
 refine tr1 rfl (bI (aA rfl) rfl rfl rfl) ?_
 refine aF ?_
 refine aE ?_
 refine bT rfl (fun c5 => ?_) (fun c5 => ?_)
 ·have h := aZ c5 h
  refine bR ?_
  refine aE ?_
  refine cD ?_
  refine aE ?_
  refine aC ?_
  refine tr1 rfl (aD (v := .d (.lit (.int .i64 t13_0_1))) (aA rfl) rfl rfl) ?_
  refine tr1 rfl (aJ (v := .d (.lit (.int .i64 t13_0_1))) (aA rfl) rfl rfl) ?_
  refine aF ?_
  refine aE ?_
  refine aC ?_
  refine tr1 rfl (aD (v := .d (.lit (.int .i64 t13_0_1))) (aA rfl) rfl rfl) ?_
  refine tr1 rfl (aD (v := .d (.lit (.int .i64 slot_1))) (aA rfl) rfl rfl) ?_
  obtain ⟨r6, h7, h⟩ := bind_some h
  refine tr1 rfl (eN (aA rfl) (.func _ _ Try.call45) rfl rfl (jE _ _ h7)) ?_
  refine bV rfl (dJ (zs := [.lit (.int .i64 0), .lit (.int .i64 0)]) (aA rfl) Try.zeroValue70 rfl rfl) ?_
  rintro _ ⟨b8, rfl⟩
  refine tr1 rfl (cB (i := 3) rfl rfl rfl rfl rfl Try.sizeOf70 rfl (aA rfl) (Nat.le_of_ble_eq_true rfl) (ds' := (aK r6)) rfl) ?_
  refine aF ?_
  refine aE ?_
  refine aE ?_
  refine dM mix 10 [0, 1, 8, 12, 13] [(9, .d (.lit (.int .i64 ((cI r6 0 d_0_1_2))))), (27, .d (.lit (.bool ((cT r6 d_0_1_2)))))] ?_ ?_
  ·refine ⟨[(20, 0, .bp d_0_b d_0_o 0), (21, 1, .bp d_0_b d_0_o 0), (22, 2, .bp d_0_b d_0_o 3), (23, 3, .d (.lit (.map (some d_0_won_r)))), (24, 4, .agg (aK r6)), (25, 5, .tup [.d (.lit (.int .i64 ((cI r6 0 d_0_1_2)))), .d (.lit (.bool ((cT r6 d_0_1_2))))]), (19, 6, .tup [.d (.lit (.int .i64 ((cI r6 0 d_0_1_2)))), .d (.lit (.bool ((cT r6 d_0_1_2))))]), (26, 7, .d (.lit (.int .i64 ((cI r6 0 d_0_1_2))))), (27, 8, .d (.lit (.bool ((cT r6 d_0_1_2))))), (9, 9, .d (.lit (.int .i64 ((cI r6 0 d_0_1_2)))))], ?_, ?_⟩
   · exact ⟨by kernel_rfl, by kernel_rfl, by kernel_rfl, by kernel_rfl, by kernel_rfl, [([], []), ([0], []), ([1], []), ([2], []), ([], []), ([3, 4], []), ([5], []), ([6], []), ([6], []), ([7], [])], by kernel_rfl, ⟨fun S hS => aH rfl (aT rfl (aD (v := .bp d_0_b d_0_o 0) (aA rfl) (aI hS rfl) rfl)),
      fun S hS => aH rfl (aT rfl (jX (aA rfl) (aI hS rfl))),
      fun S hS => aH rfl (aT rfl (aV (aA rfl) (aI hS rfl) pZ)),
      fun S hS => aH rfl (aT rfl (aW (aA rfl) (aI hS rfl) (i := 2) rfl rfl tO)),
      fun S hS => aH rfl (aT rfl (bH (aA rfl) (aI hS rfl) (i := 3) rfl iZ (es := (aK r6)) rfl rfl)),
      fun S hS => aH rfl (aT rfl (aBd (av := (fun v : Int => AV.d (.lit (.int .i64 v)))) (l := d_0_1_2) (z := 0) (a := r6) (m := 1) (aA rfl) sF Try.underlying73 Try.zeroValue3 (fun _ _ => .d (.lit _ rfl)) (aI hS rfl) rfl rfl (aI hS rfl) (kE (enc := aK) r6 rfl))),
      fun S hS => aH rfl (aT rfl (aD (v := .tup [.d (.lit (.int .i64 ((cI r6 0 d_0_1_2)))), .d (.lit (.bool ((cT r6 d_0_1_2))))]) (aA rfl) (aI hS rfl) rfl)),
      fun S hS => aH rfl (aT rfl (bL (aA rfl) (aI hS rfl) rfl)),
      fun S hS => aH rfl (aT rfl (bL (aA rfl) (aI hS rfl) rfl)),
      fun S hS => aH rfl (aT rfl (aJ (v := .d (.lit (.int .i64 ((cI r6 0 d_0_1_2))))) (aA rfl) (aI hS rfl) rfl)), trivial⟩⟩
   · exact cZ (aU rfl (aU rfl (bB ⟨rfl, rfl, rfl, rfl, rfl, trivial⟩)))
  ·refine tr1 rfl (aJ (v := .d (.lit (.bool ((cT r6 d_0_1_2))))) (aA rfl) rfl rfl) ?_
   refine aF ?_
   refine aE ?_
   refine aC ?_
   refine tr1 rfl (aD (v := .d (.lit (.bool ((cT r6 d_0_1_2))))) (aA rfl) rfl rfl) ?_
   refine tr1 rfl (aD (v := .d (.lit (.bool ((cT r6 d_0_1_2))))) (aA rfl) rfl rfl) ?_
   obtain ⟨b9, h10, h⟩ := bind_some h
   refine cF 10 [0, 1, 8, 12, 13] 39 b9 ?_ ?_
   ·refine bN (cT r6 d_0_1_2) (fun c14 => ?_) (fun c14 => ?_)
    ·have h10 := aZ c14 h10
     refine aM rfl rfl (aA rfl) rfl c14 (aD (v := .d (.lit (.int .i64 ((cI r6 0 d_0_1_2))))) (aA rfl) rfl rfl) ?_
     refine aM rfl rfl (aA rfl) rfl c14 (aD (v := .bp d_0_b d_0_o 0) (aA rfl) rfl rfl) ?_
     refine aM rfl rfl (aA rfl) rfl c14 (jX (aA rfl) rfl) ?_
     refine aM rfl rfl (aA rfl) rfl c14 (aV (aA rfl) rfl kP) ?_
     refine aM rfl rfl (aA rfl) rfl c14 (aW (aA rfl) rfl (i := 2) rfl rfl cU) ?_
     refine aM rfl rfl (aA rfl) rfl c14 (aD (v := .d (.lit (.int .i64 slot_1))) (aA rfl) rfl rfl) ?_
     obtain ⟨x15, h16, h10⟩ := bind_some h10
     refine aM rfl rfl (aA rfl) rfl c14 (eY (m := 0) (aA rfl) rfl rfl rfl bS.of (bU aN h16)) ?_
     refine aM rfl rfl (aA rfl) rfl c14 (jJ (aA rfl) rfl (m := 0) rfl (mD aN h16) rfl bJ) ?_
     refine aM rfl rfl (aA rfl) rfl c14 (bI (aA rfl) rfl rfl rfl) ?_
     refine tr1 rfl (bW (v := .d (.lit (.bool ((!decide ((cI r6 0 d_0_1_2) = x15)))))) (aA rfl) rfl c14 rfl rfl) ?_
     have h10 := Option.some.inj h10
     subst h10
     refine aF (bE rfl ⟨rfl, rfl, rfl, rfl, rfl, trivial⟩ rfl)
    ·have h10 := aY c14 h10
     refine aP rfl rfl (aA rfl) rfl (aA rfl) rfl c14 ?_
     refine aP rfl rfl (aA rfl) rfl (aA rfl) rfl c14 ?_
     refine aP rfl rfl (aA rfl) rfl (aA rfl) rfl c14 ?_
     refine aP rfl rfl (aA rfl) rfl (aA rfl) rfl c14 ?_
     refine aP rfl rfl (aA rfl) rfl (aA rfl) rfl c14 ?_
     refine aP rfl rfl (aA rfl) rfl (aA rfl) rfl c14 ?_
     refine aP rfl rfl (aA rfl) rfl (aA rfl) rfl c14 ?_
     refine aP rfl rfl (aA rfl) rfl (aA rfl) rfl c14 ?_
     refine aP rfl rfl (aA rfl) rfl (aA rfl) rfl c14 ?_
     refine tr1 rfl (bX (v := .d (.lit (.bool false))) (aA rfl) rfl c14 rfl rfl) ?_
     have h10 := Option.some.inj h10
     subst h10
     refine aF (bE rfl ⟨rfl, rfl, rfl, rfl, rfl, trivial⟩ rfl)
   ·refine aF ?_
    refine bT rfl (fun c11 => ?_) (fun c11 => ?_)
    ·have h := aZ c11 h
     refine aE ?_
     refine aC ?_
     refine tr1 rfl (aJ (v := .d (.lit (.bool false))) (aA rfl) rfl rfl) ?_
     refine aF ?_
     have h := Option.some.inj h
     subst h
     refine cL (bF [2, 0, 1, 3] rfl rfl (le_refl _)) ?_
     exact bM ⟨rfl, _, [.box d_0_b d_0_o [.lit (.int .i64 d_0_Tree.Rounds), .sl 1 (d_0_Tree.Slots.map aN), .lit d_0_players_v, .lit (.map (some d_0_won_r))], .arr d_0_players_v 3 1 (d_0_players.map aN), .map d_0_won_r (d_0_1_2.map fun p : aB × Int => ((fun a : aB => Value.agg ((aK a).map bK).toArray) p.1, (fun v : Int => AV.d (.lit (.int .i64 v))) p.2)) bs2 ck3], [.box b8 0 (aK r6)], _, .one (.tmp 6 (v := .d (.lit (.bool false))) rfl), .refl _, .same _, bs2, ck3, rfl, rfl⟩
    ·have h := aY c11 h
     refine bR ?_
     obtain ⟨x12, h13, h⟩ := bind_some h
     refine dM mix 12 [0, 1, 12, 13] [(43, .d (.lit (.map (some d_0_won_r)))), (44, .agg (aK r6)), (51, .d (.lit (.int .i64 x12)))] ?_ ?_
     ·refine ⟨[(40, 0, .bp d_0_b d_0_o 0), (41, 1, .bp d_0_b d_0_o 0), (42, 2, .bp d_0_b d_0_o 3), (43, 3, .d (.lit (.map (some d_0_won_r)))), (44, 4, .agg (aK r6)), (45, 5, .bp d_0_b d_0_o 0), (46, 6, .bp d_0_b d_0_o 0), (47, 7, .bp d_0_b d_0_o 2), (48, 8, .d (.lit d_0_players_v)), (49, 9, .d (.lit (.int .i64 slot_1))), (50, 10, .ep d_0_players_v 1 slot_1.toNat 0), (51, 11, .d (.lit (.int .i64 x12)))], ?_, ?_⟩
      · exact ⟨by kernel_rfl, by kernel_rfl, by kernel_rfl, by kernel_rfl, by kernel_rfl, [([], []), ([0], []), ([1], []), ([2], []), ([], []), ([], []), ([5], []), ([6], []), ([7], []), ([], []), ([8, 9], []), ([10], [])], by kernel_rfl, ⟨fun S hS => aH rfl (aT rfl (aD (v := .bp d_0_b d_0_o 0) (aA rfl) (aI hS rfl) rfl)),
      fun S hS => aH rfl (aT rfl (jX (aA rfl) (aI hS rfl))),
      fun S hS => aH rfl (aT rfl (aV (aA rfl) (aI hS rfl) pZ)),
      fun S hS => aH rfl (aT rfl (aW (aA rfl) (aI hS rfl) (i := 2) rfl rfl tO)),
      fun S hS => aH rfl (aT rfl (bH (aA rfl) (aI hS rfl) (i := 3) rfl iZ (es := (aK r6)) rfl rfl)),
      fun S hS => aH rfl (aT rfl (aD (v := .bp d_0_b d_0_o 0) (aA rfl) (aI hS rfl) rfl)),
      fun S hS => aH rfl (aT rfl (jX (aA rfl) (aI hS rfl))),
      fun S hS => aH rfl (aT rfl (aV (aA rfl) (aI hS rfl) kP)),
      fun S hS => aH rfl (aT rfl (aW (aA rfl) (aI hS rfl) (i := 2) rfl rfl cU)),
      fun S hS => aH rfl (aT rfl (aD (v := .d (.lit (.int .i64 slot_1))) (aA rfl) (aI hS rfl) rfl)),
      fun S hS => aH rfl (aT rfl (eY (m := 0) (aA rfl) (aI hS rfl) rfl (aI hS rfl) bS.of (bU aN h13))),
      fun S hS => aH rfl (aT rfl (jJ (aA rfl) (aI hS rfl) (m := 0) rfl (mD aN h13) rfl bJ)), trivial⟩⟩
      · exact cZ (aU rfl (aU rfl (aU rfl (bB ⟨rfl, rfl, rfl, rfl, trivial⟩))))
     ·refine tr1 rfl (uO (av := (fun v : Int => AV.d (.lit (.int .i64 v)))) (l := d_0_1_2) (v := x12) (a := r6) (m := 1) sF Try.underlying73 rfl rfl rfl rfl (kE (enc := aK) r6 rfl) rfl rfl) ?_
      refine eV ?_
      refine aC ?_
      refine tr1 rfl (bO (aA rfl) rfl rfl rfl) ?_
      refine tr1 rfl (aD (v := .d (.lit (.int .i64 ((w64 (t13_0_1 + 1)))))) (aA rfl) rfl rfl) ?_
      refine aF ?_
      exact ⟨(w64 (t13_0_1 + 1), (eW r6 x12 d_0_1_2), (mbs r6 d_0_1_2 bs2 ck3), (mck r6 d_0_1_2 ck3)), h, bF [0, 1, 2] rfl rfl (aU rfl (bB ⟨rfl, rfl, rfl, trivial⟩))⟩
 ·have h := aY c5 h
  refine cX ?_
  refine .inl ⟨rfl, ?_⟩
  simp only [nD] at h
  refine aE ?_
  refine aC ?_
  refine tr1 rfl (aJ (v := .d (.lit (.bool true))) (aA rfl) rfl rfl) ?_
  refine aF ?_
  have h := Option.some.inj h
  subst h
  refine cL (bF [2, 0, 1] rfl rfl (le_refl _)) ?_
  exact bM ⟨rfl, _, [.box d_0_b d_0_o [.lit (.int .i64 d_0_Tree.Rounds), .sl 1 (d_0_Tree.Slots.map aN), .lit d_0_players_v, .lit (.map (some d_0_won_r))], .arr d_0_players_v 3 1 (d_0_players.map aN), .map d_0_won_r (d_0_1_2.map fun p : aB × Int => ((fun a : aB => Value.agg ((aK a).map bK).toArray) p.1, (fun v : Int => AV.d (.lit (.int .i64 v))) p.2)) bs2 ck3], [], _, .one (.tmp 6 (v := .d (.lit (.bool true))) rfl), .refl _, .same _, bs2, ck3, rfl, rfl⟩

theorem aAh (t_0 : aO) (l_1 : List aG) {Q : ((Option bA) × Bool) → Prop} (h : nS t_0 l_1 Q) : eZ Try.prog 71 [.agg (aQ t_0), .d (.sl 5 (l_1.map aL))] [] (fun r' o' => ∃ (r : (Option bA) × Bool), Q r ∧ r' = .tup [cO aX r.1, .d (.lit (.bool r.2))] ∧ o' = []) := by
 unfold nS at h
 refine gA Try.func71 rfl (rs := [.tmp 4, .tmp 5]) Try.results71 Try.ntmps71 (Nat.le_of_ble_eq_true rfl) ?_
 refine aE ?_
 refine aC ?_
 refine bV rfl (eH (v := .agg (aQ t_0)) (aA rfl) rfl rfl rfl) ?_
 rintro _ ⟨b1, rfl⟩
 refine tr1 rfl (aJ (v := cO aX (none : Option bA)) (aA rfl) rfl rfl) ?_
 refine tr1 rfl (aJ (v := .d (.lit (.bool false))) (aA rfl) rfl rfl) ?_
 refine aF ?_
 refine aE ?_
 obtain ⟨r3, h4, h⟩ := cS h
 refine qK mix 5 [1] (fun X2 => [(19, .agg (aQ t_0)), (22, .d (.lit (X2 3).v)), (23, .d (.lit (.map (some (X2 4).b))))]) (fun X2 => [.box b1 0 (aQ t_0), .arr (X2 3).v 3 1 (r3.map aN), .map (X2 4).b (([] : List (aB × Int)).map fun p : aB × Int => ((fun a : aB => Value.agg ((aK a).map bK).toArray) p.1, (fun v : Int => AV.d (.lit (.int .i64 v))) p.2)) ([]) 0]) ?_ ?_
 ·refine ⟨2, fun X2 => [(19, 0, .agg (aQ t_0)), (20, 1, .bp b1 0 1), (21, 2, .d (.sl 1 (t_0.Slots.map aN))), (22, 3, .d (.lit (X2 3).v)), (23, 4, .d (.lit (.map (some (X2 4).b))))], fun X2 => [([], .box b1 0 (aQ t_0)), ([(3, .arr (X2 3).v 3 1 (r3.map aN))], nob), ([(4, .map (X2 4).b (([] : List (aB × Int)).map fun p : aB × Int => ((fun a : aB => Value.agg ((aK a).map bK).toArray) p.1, (fun v : Int => AV.d (.lit (.int .i64 v))) p.2)) ([]) 0)], nob)], ?_, ?_⟩
  · exact ⟨by kernel_rfl, by kernel_rfl, by kernel_rfl, fun _ => by kernel_rfl, fun _ => by kernel_rfl, fun _ => by kernel_rfl, fun _ => rfl, [([], []), ([], [3]), ([1], [3]), ([2], []), ([], [])], by kernel_rfl, ⟨fun X2 S hw hi hS => dW (X := X2) rfl (hw X2) rfl (aT rfl (bH (aA rfl) (aI hS rfl) (i := 0) (og hS rfl rfl) cV (es := (aQ t_0)) rfl rfl)),
      fun X2 S hw hi hS => dW (X := X2) rfl (hw X2) rfl (aT rfl (aV (aA rfl) (aI hS rfl) dU)),
      fun X2 S hw hi hS => dW (X := X2) rfl (hw X2) rfl (aT rfl (aW (aA rfl) (aI hS rfl) (i := 0) (og hS rfl rfl) rfl cU)),
      fun X2 S hw hi hS => aJi (X := X2) (p := 1) (v := fun x => .d (.lit x.v)) (mo := fun x => .arr x.v 3 1 (r3.map aN)) hS hi rfl rfl (fun _ => rfl) hw (fun _ => rfl) (fun _ => rfl) (fun _ => rfl) (fun _ => ⟨rfl, rfl, .inr rfl, ⟨rfl, rfl, .inr rfl, ⟨rfl, rfl, .inr rfl, ⟨rfl, rfl, .inl rfl, ⟨rfl, rfl, .inr rfl, trivial⟩⟩⟩⟩⟩) (fun _ => ⟨trivial, rfl, ⟨⟨rfl, .inl rfl, trivial⟩, rfl, ⟨⟨rfl, .inr rfl, trivial⟩, rfl, trivial⟩⟩⟩) (yA (aBc (aA rfl) (.func _ _ Try.call89) (ev2 (aI hS rfl) evn) rfl (rG _ h4)) (by rintro _ ⟨w, rfl⟩; exact ⟨⟨0, w⟩, bF [0, 3, 2] rfl rfl (le_refl _)⟩)),
      fun X2 S hw hi hS => aJi (X := X2) (p := 2) (v := fun x => .d (.lit (.map (some x.b)))) (mo := fun x => .map x.b (([] : List (aB × Int)).map fun p : aB × Int => ((fun a : aB => Value.agg ((aK a).map bK).toArray) p.1, (fun v : Int => AV.d (.lit (.int .i64 v))) p.2)) ([]) 0) hS hi rfl rfl (fun _ => rfl) hw (fun _ => rfl) (fun _ => rfl) (fun _ => rfl) (fun _ => ⟨rfl, rfl, .inr rfl, ⟨rfl, rfl, .inr rfl, ⟨rfl, rfl, .inr rfl, ⟨rfl, rfl, .inr rfl, ⟨rfl, rfl, .inl rfl, trivial⟩⟩⟩⟩⟩) (fun _ => ⟨trivial, rfl, ⟨⟨rfl, .inr rfl, trivial⟩, rfl, ⟨⟨rfl, .inl rfl, trivial⟩, rfl, trivial⟩⟩⟩) (yA (uF (aA rfl)) (by rintro _ ⟨w, rfl⟩; exact ⟨⟨w, undef⟩, bF [0, 1, 3] rfl rfl (le_refl _)⟩)), trivial⟩⟩
  · exact fun X2 => cZ (aU rfl (aU rfl (aU rfl (bB ⟨rfl, trivial⟩))))
 ·intro X2
  refine tr1 rfl (eE (aA rfl) aMj (zs := [.lit (.int .i64 0), .sl 1 ((([] : List Int)).map aN), .sl 1 ((([] : List Int)).map aN), .lit (.map none)]) rfl rfl rfl rfl (es := [.lit (.int .i64 t_0.Rounds), .sl 1 (t_0.Slots.map aN), .lit (X2 3).v, .lit (.map (some (X2 4).b))]) rfl) ?_
  refine bV rfl (eH (v := .agg [.lit (.int .i64 t_0.Rounds), .sl 1 (t_0.Slots.map aN), .lit (X2 3).v, .lit (.map (some (X2 4).b))]) (aA rfl) rfl rfl rfl) ?_
  rintro _ ⟨b5, rfl⟩
  refine tr1 rfl (aJ (v := .bp b5 0 0) (aA rfl) rfl rfl) ?_
  refine aF ?_
  refine aE ?_
  refine aC ?_
  refine bV rfl (uF (aA rfl)) ?_
  rintro _ ⟨r6, rfl⟩
  refine bV rfl (uF (aA rfl)) ?_
  rintro _ ⟨r7, rfl⟩
  refine tr1 rfl (aJ (v := .d (.lit (.map (some r6)))) (aA rfl) rfl rfl) ?_
  refine tr1 rfl (aJ (v := .d (.lit (.map (some r7)))) (aA rfl) rfl rfl) ?_
  refine aF ?_
  refine aE ?_
  refine aE ?_
  refine aC ?_
  refine tr1 rfl (aD (v := .d (.sl 5 (l_1.map aL))) (aA rfl) rfl rfl) ?_
  refine tr1 rfl (eB (aA rfl) rfl gT.of) ?_
  refine tr1 rfl (aD (v := .d (.lit (.int .i64 0))) (aA rfl) rfl rfl) ?_
  refine aF ?_
  refine cD ?_
  refine nP [6, 7, 8, 28, 29] (fun (s8 : Int × (List (aG × Int)) × (List (aB × aG)) × (List Nat) × Nat × (List Nat) × Nat) => [(30, .d (.lit (.int .i64 s8.1)))]) (fun (s8 : Int × (List (aG × Int)) × (List (aB × aG)) × (List Nat) × Nat × (List Nat) × Nat) => [.arr (X2 3).v 3 1 (r3.map aN), .map (X2 4).b (([] : List (aB × Int)).map fun p : aB × Int => ((fun a : aB => Value.agg ((aK a).map bK).toArray) p.1, (fun v : Int => AV.d (.lit (.int .i64 v))) p.2)) ([]) 0, .box b5 0 [.lit (.int .i64 t_0.Rounds), .sl 1 (t_0.Slots.map aN), .lit (X2 3).v, .lit (.map (some (X2 4).b))], .map r6 (s8.2.1.map fun p : aG × Int => ((fun a : aG => Value.agg ((aL a).map bK).toArray) p.1, (fun v : Int => AV.d (.lit (.int .i64 v))) p.2)) s8.2.2.2.1 s8.2.2.2.2.1, .map r7 (s8.2.2.1.map fun p : aB × aG => ((fun a : aB => Value.agg ((aK a).map bK).toArray) p.1, (fun v : aG => AV.agg (aL v)) p.2)) s8.2.2.2.2.2.1 s8.2.2.2.2.2.2]) (fun (k : Nat) (s8 : Int × (List (aG × Int)) × (List (aB × aG)) × (List Nat) × Nat × (List Nat) × Nat) => gB Q l_1 (l_1.length : Int) r3 ([] : List (aB × Int)) t_0 k s8.1 s8.2.1 s8.2.2.1) (fun _ h => h) (0, ([] : List (aG × Int)), ([] : List (aB × aG)), [], 0, [], 0) h (bF [1, 2, 3, 4, 5] rfl rfl (aU rfl (bB ⟨rfl, rfl, rfl, rfl, rfl, trivial⟩))) ?_
  rintro k13 ⟨t30_0_8, o26_0_8, o27_0_8, bs9, ck10, bs11, ck12⟩ h
  simp only [gB] at h
  refine aE ?_
  refine aC ?_
  refine tr1 rfl (bI (aA rfl) rfl rfl rfl) ?_
  refine aF ?_
  refine aE ?_
  refine bT rfl (fun c14 => ?_) (fun c14 => ?_)
  ·have h := dR c14 h
   refine bR ?_
   refine aE ?_
   refine cD ?_
   refine aE ?_
   refine aC ?_
   obtain ⟨x15, h16, h⟩ := cS h
   refine tr1 rfl (bQ (aA rfl) rfl rfl gT.of (bU aL h16)) ?_
   refine tr1 rfl (jW (aA rfl) rfl jP (es := (aL x15)) rfl rfl) ?_
   refine bV rfl (dJ (zs := [.lit (.int .i64 0), .lit (.int .i64 0), .lit (.int .i64 0), .lit (.int .i64 0), .lit (.int .i64 0)]) (aA rfl) Try.zeroValue32 rfl rfl) ?_
   rintro _ ⟨b17, rfl⟩
   refine tr1 rfl (cB (i := 5) rfl rfl rfl rfl rfl Try.sizeOf32 rfl (aA rfl) (Nat.le_of_ble_eq_true rfl) (ds' := (aL x15)) rfl) ?_
   refine aF ?_
   refine aE ?_
   refine aE ?_
   refine aC ?_
   refine tr1 rfl (aV (aA rfl) rfl nK) ?_
   refine tr1 rfl (aW (aA rfl) rfl (i := 5) rfl rfl bJ) ?_
   refine tr1 rfl (bI (aA rfl) rfl rfl rfl) ?_
   refine aF ?_
   refine bT rfl (fun c18 => ?_) (fun c18 => ?_)
   ·have h := dR c18 h
    refine aE ?_
    refine qK mix 6 [6, 7, 8, 28, 29, 30] (fun X19 => [(37, .d (.lit (.map (some r6)))), (40, .d (.lit (.int .i64 ((w64 ((cI x15 0 o26_0_8) + 1)))))), (42, .d (.lit (.int .i64 (nU x15 o26_0_8 bs9 ck10))))]) (fun X19 => [.arr (X2 3).v 3 1 (r3.map aN), .map (X2 4).b (([] : List (aB × Int)).map fun p : aB × Int => ((fun a : aB => Value.agg ((aK a).map bK).toArray) p.1, (fun v : Int => AV.d (.lit (.int .i64 v))) p.2)) ([]) 0, .box b5 0 [.lit (.int .i64 t_0.Rounds), .sl 1 (t_0.Slots.map aN), .lit (X2 3).v, .lit (.map (some (X2 4).b))], .map r6 ((mK x15 0 o26_0_8).map fun p : aG × Int => ((fun a : aG => Value.agg ((aL a).map bK).toArray) p.1, (fun v : Int => AV.d (.lit (.int .i64 v))) p.2)) (mbs x15 o26_0_8 bs9 ck10) (mck x15 o26_0_8 ck10), .map r7 (o27_0_8.map fun p : aB × aG => ((fun a : aB => Value.agg ((aK a).map bK).toArray) p.1, (fun v : aG => AV.agg (aL v)) p.2)) bs11 ck12, .box b17 0 (aL x15)]) ?_ ?_
    ·refine ⟨0, fun X19 => [(37, 0, .d (.lit (.map (some r6)))), (38, 1, .agg (aL x15)), (39, 2, .d (.lit (.int .i64 ((cI x15 0 o26_0_8))))), (40, 3, .d (.lit (.int .i64 ((w64 ((cI x15 0 o26_0_8) + 1)))))), (41, 4, .tup [.d (.lit (.int .i64 ((cI x15 0 o26_0_8)))), .d (.lit (.int .i64 (nU x15 o26_0_8 bs9 ck10)))]), (42, 5, .d (.lit (.int .i64 (nU x15 o26_0_8 bs9 ck10))))], fun X19 => [([], .arr (X2 3).v 3 1 (r3.map aN)), ([], .map (X2 4).b (([] : List (aB × Int)).map fun p : aB × Int => ((fun a : aB => Value.agg ((aK a).map bK).toArray) p.1, (fun v : Int => AV.d (.lit (.int .i64 v))) p.2)) ([]) 0), ([], .box b5 0 [.lit (.int .i64 t_0.Rounds), .sl 1 (t_0.Slots.map aN), .lit (X2 3).v, .lit (.map (some (X2 4).b))]), ([(4, .map r6 ((mK x15 0 o26_0_8).map fun p : aG × Int => ((fun a : aG => Value.agg ((aL a).map bK).toArray) p.1, (fun v : Int => AV.d (.lit (.int .i64 v))) p.2)) (mbs x15 o26_0_8 bs9 ck10) (mck x15 o26_0_8 ck10))], .map r6 (o26_0_8.map fun p : aG × Int => ((fun a : aG => Value.agg ((aL a).map bK).toArray) p.1, (fun v : Int => AV.d (.lit (.int .i64 v))) p.2)) bs9 ck10), ([], .map r7 (o27_0_8.map fun p : aB × aG => ((fun a : aB => Value.agg ((aK a).map bK).toArray) p.1, (fun v : aG => AV.agg (aL v)) p.2)) bs11 ck12), ([], .box b17 0 (aL x15))], ?_, ?_⟩
     · exact ⟨by kernel_rfl, by kernel_rfl, by kernel_rfl, fun _ => by kernel_rfl, fun _ => by kernel_rfl, fun _ => by kernel_rfl, fun _ => rfl, [([], [4]), ([], [4]), ([0, 1], []), ([2], []), ([0, 1], []), ([4], [])], by kernel_rfl, ⟨fun X19 S hw hi hS => dW (X := X19) rfl (hw X19) rfl (aT rfl (aD (v := .d (.lit (.map (some r6)))) (aA rfl) (aI hS rfl) rfl)),
      fun X19 S hw hi hS => dW (X := X19) rfl (hw X19) rfl (aT rfl (bH (aA rfl) (aI hS rfl) (i := 5) (og hS rfl rfl) jP (es := (aL x15)) rfl rfl)),
      fun X19 S hw hi hS => dW (X := X19) rfl (hw X19) rfl (aT rfl (aIy (av := (fun v : Int => AV.d (.lit (.int .i64 v)))) (l := o26_0_8) (z := 0) (a := x15) (m := 3) (aA rfl) aDx Try.underlying123 Try.zeroValue3 (fun _ _ => .d (.lit _ rfl)) (aI hS rfl) (og2 rfl) rfl (aI hS rfl) (kE (enc := aL) x15 rfl))),
      fun X19 S hw hi hS => dW (X := X19) rfl (hw X19) rfl (aT rfl (bO (aA rfl) (aI hS rfl) rfl rfl)),
      fun X19 S hw hi hS => aMk (X := X19) (p := 3) hS rfl rfl rfl (hw X19) rfl rfl rfl (yA (aHh (av := (fun v : Int => AV.d (.lit (.int .i64 v)))) (l := o26_0_8) (z := 0) (a := x15) (m := 3) (aA rfl) aDx Try.underlying123 Try.zeroValue3 (fun _ _ => .d (.lit _ rfl)) (aI hS rfl) (og hS rfl rfl) rfl (aI hS rfl) (kE (enc := aL) x15 rfl)) (by rintro _ rfl; exact Ent.refl _)),
      fun X19 S hw hi hS => dW (X := X19) rfl (hw X19) rfl (aT rfl (bL (aA rfl) (aI hS rfl) rfl)), trivial⟩⟩
     · exact fun X19 => cZ (aU rfl (aU rfl (aU rfl (bB ⟨rfl, rfl, rfl, rfl, rfl, rfl, trivial⟩))))
    ·intro X19
     refine tr1 rfl (aCw (kv := (fun a : aG => Value.agg ((aL a).map bK).toArray)) (av := (fun v : Int => AV.d (.lit (.int .i64 v)))) (l := o26_0_8) (z := 0) (v := w64 ((cI x15 0 o26_0_8) + 1)) (a := x15) (m := 3) rfl rfl rfl rfl rfl) ?_
     refine aF ?_
     refine cX ?_
     refine .inl ⟨rfl, ?_⟩
     refine aC ?_
     refine tr1 rfl (bO (aA rfl) rfl rfl rfl) ?_
     refine tr1 rfl (aD (v := .d (.lit (.int .i64 ((w64 (t30_0_8 + 1)))))) (aA rfl) rfl rfl) ?_
     refine aF ?_
     exact ⟨(w64 (t30_0_8 + 1), (eW x15 (w64 ((cI x15 0 o26_0_8) + 1)) o26_0_8), o27_0_8, (mbs x15 o26_0_8 bs9 ck10), (mck x15 o26_0_8 ck10), bs11, ck12), h, bF [0, 1, 2, 3, 4] rfl rfl (aU rfl (bB ⟨rfl, rfl, rfl, rfl, rfl, trivial⟩))⟩
   ·have h := dQ c18 h
    refine bR ?_
    refine aE ?_
    refine aC ?_
    refine tr1 rfl (aV (aA rfl) rfl lH) ?_
    refine tr1 rfl (aW (aA rfl) rfl (i := 5) rfl rfl bJ) ?_
    refine tr1 rfl (aV (aA rfl) rfl iQ) ?_
    refine tr1 rfl (aW (aA rfl) rfl (i := 5) rfl rfl bJ) ?_
    refine tr1 rfl (eE (aA rfl) uY (zs := [.lit (.int .i64 0), .lit (.int .i64 0)]) rfl rfl rfl rfl (es := [.lit (.int .i64 x15.Round), .lit (.int .i64 x15.Place)]) rfl) ?_
    refine bV rfl (dJ (zs := [.lit (.int .i64 0), .lit (.int .i64 0)]) (aA rfl) Try.zeroValue70 rfl rfl) ?_
    rintro _ ⟨b20, rfl⟩
    refine tr1 rfl (cB (i := 6) rfl rfl rfl rfl rfl Try.sizeOf70 rfl (aA rfl) (Nat.le_of_ble_eq_true rfl) (ds' := (aK (aB.mk x15.Round x15.Place))) rfl) ?_
    refine aF ?_
    refine aE ?_
    refine aE ?_
    refine aC ?_
    refine tr1 rfl (aD (v := .d (.lit (.map (some r7)))) (aA rfl) rfl rfl) ?_
    refine tr1 rfl (bH (aA rfl) rfl (i := 6) rfl iZ (es := (aK (aB.mk x15.Round x15.Place))) rfl rfl) ?_
    refine tr1 rfl (aBd (av := (fun v : aG => AV.agg (aL v))) (l := o27_0_8) (z := (aG.mk 0 0 0 0 0)) (a := (aB.mk x15.Round x15.Place)) (m := 4) (aA rfl) sF Try.underlying124 Try.zeroValue32 (fun _ _ => .agg (xK rfl)) rfl rfl rfl rfl (kE (enc := aK) (aB.mk x15.Round x15.Place) rfl)) ?_
    refine tr1 rfl (aD (v := .tup [.agg (aL (cI (aB.mk x15.Round x15.Place) (aG.mk 0 0 0 0 0) o27_0_8)), .d (.lit (.bool ((cT (aB.mk x15.Round x15.Place) o27_0_8))))]) (aA rfl) rfl rfl) ?_
    refine tr1 rfl (bL (aA rfl) rfl rfl) ?_
    refine tr1 rfl (bL (aA rfl) rfl rfl) ?_
    refine bV rfl (dJ (zs := [.lit (.int .i64 0), .lit (.int .i64 0), .lit (.int .i64 0), .lit (.int .i64 0), .lit (.int .i64 0)]) (aA rfl) Try.zeroValue32 rfl rfl) ?_
    rintro _ ⟨b21, rfl⟩
    refine tr1 rfl (cB (i := 7) rfl rfl rfl rfl rfl Try.sizeOf32 rfl (aA rfl) (Nat.le_of_ble_eq_true rfl) (ds' := (aL (cI (aB.mk x15.Round x15.Place) (aG.mk 0 0 0 0 0) o27_0_8))) rfl) ?_
    refine tr1 rfl (aJ (v := .d (.lit (.bool ((cT (aB.mk x15.Round x15.Place) o27_0_8))))) (aA rfl) rfl rfl) ?_
    refine aF ?_
    refine aE ?_
    refine aC ?_
    refine tr1 rfl (aD (v := .d (.lit (.bool ((cT (aB.mk x15.Round x15.Place) o27_0_8))))) (aA rfl) rfl rfl) ?_
    refine tr1 rfl (aD (v := .d (.lit (.bool ((cT (aB.mk x15.Round x15.Place) o27_0_8))))) (aA rfl) rfl rfl) ?_
    obtain ⟨b22, h23, h⟩ := cS h
    refine cF 4 [6, 7, 8, 10, 11, 28, 29, 30] 59 b22 ?_ ?_
    ·refine bN (cT (aB.mk x15.Round x15.Place) o27_0_8) (fun c25 => ?_) (fun c25 => ?_)
     ·have h23 := aZ c25 h23
      refine aM rfl rfl (aA rfl) rfl c25 (bH (aA rfl) rfl (i := 7) rfl jP (es := (aL (cI (aB.mk x15.Round x15.Place) (aG.mk 0 0 0 0 0) o27_0_8))) rfl rfl) ?_
      refine aM rfl rfl (aA rfl) rfl c25 (bH (aA rfl) rfl (i := 5) rfl jP (es := (aL x15)) rfl rfl) ?_
      refine aM rfl rfl (aA rfl) rfl c25 (aHi (a := (cI (aB.mk x15.Round x15.Place) (aG.mk 0 0 0 0 0) o27_0_8)) (b := x15) (aA rfl) rfl rfl rfl rfl Try.eqGuardType32 aDp) ?_
      refine tr1 rfl (bW (v := .d (.lit (.bool ((!decide ((cI (aB.mk x15.Round x15.Place) (aG.mk 0 0 0 0 0) o27_0_8) = x15)))))) (aA rfl) rfl c25 rfl rfl) ?_
      have h23 := Option.some.inj h23
      subst h23
      refine aF (bE rfl ⟨rfl, rfl, rfl, rfl, rfl, rfl, rfl, rfl, trivial⟩ rfl)
     ·have h23 := aY c25 h23
      refine aP rfl rfl (aA rfl) rfl (aA rfl) rfl c25 ?_
      refine aP rfl rfl (aA rfl) rfl (aA rfl) rfl c25 ?_
      refine aP rfl rfl (aA rfl) rfl (aA rfl) rfl c25 ?_
      refine tr1 rfl (bX (v := .d (.lit (.bool false))) (aA rfl) rfl c25 rfl rfl) ?_
      have h23 := Option.some.inj h23
      subst h23
      refine aF (bE rfl ⟨rfl, rfl, rfl, rfl, rfl, rfl, rfl, rfl, trivial⟩ rfl)
    ·refine aF ?_
     refine bT rfl (fun c24 => ?_) (fun c24 => ?_)
     ·have h := dR c24 h
      refine aE ?_
      refine aC ?_
      refine tr1 rfl (aJ (v := cO aX (none : Option bA)) (aA rfl) rfl rfl) ?_
      refine tr1 rfl (aJ (v := .d (.lit (.bool false))) (aA rfl) rfl rfl) ?_
      refine aF ?_
      exact bM ⟨rfl, _, [], [.arr (X2 3).v 3 1 (r3.map aN), .map (X2 4).b (([] : List (aB × Int)).map fun p : aB × Int => ((fun a : aB => Value.agg ((aK a).map bK).toArray) p.1, (fun v : Int => AV.d (.lit (.int .i64 v))) p.2)) ([]) 0, .box b5 0 [.lit (.int .i64 t_0.Rounds), .sl 1 (t_0.Slots.map aN), .lit (X2 3).v, .lit (.map (some (X2 4).b))], .map r6 (o26_0_8.map fun p : aG × Int => ((fun a : aG => Value.agg ((aL a).map bK).toArray) p.1, (fun v : Int => AV.d (.lit (.int .i64 v))) p.2)) bs9 ck10, .map r7 (o27_0_8.map fun p : aB × aG => ((fun a : aB => Value.agg ((aK a).map bK).toArray) p.1, (fun v : aG => AV.agg (aL v)) p.2)) bs11 ck12, .box b17 0 (aL x15), .box b20 0 (aK (aB.mk x15.Round x15.Place)), .box b21 0 (aL (cI (aB.mk x15.Round x15.Place) (aG.mk 0 0 0 0 0) o27_0_8))], _, .two (.tmp 4 (v := cO aX (none : Option bA)) rfl) (.tmp 5 (v := .d (.lit (.bool false))) rfl), .refl _, .same _, ((none : Option bA), false), h, rfl, rfl⟩
     ·have h := dQ c24 h
      refine bR ?_
      refine aC ?_
      refine tr1 rfl (aD (v := .d (.lit (.map (some r7)))) (aA rfl) rfl rfl) ?_
      refine tr1 rfl (bH (aA rfl) rfl (i := 6) rfl iZ (es := (aK (aB.mk x15.Round x15.Place))) rfl rfl) ?_
      refine tr1 rfl (bH (aA rfl) rfl (i := 5) rfl jP (es := (aL x15)) rfl rfl) ?_
      refine tr1 rfl (uO (av := (fun v : aG => AV.agg (aL v))) (l := o27_0_8) (v := x15) (a := (aB.mk x15.Round x15.Place)) (m := 4) sF Try.underlying124 rfl rfl rfl rfl (kE (enc := aK) (aB.mk x15.Round x15.Place) rfl) rfl rfl) ?_
      refine eV ?_
      refine aC ?_
      refine tr1 rfl (bO (aA rfl) rfl rfl rfl) ?_
      refine tr1 rfl (aD (v := .d (.lit (.int .i64 ((w64 (t30_0_8 + 1)))))) (aA rfl) rfl rfl) ?_
      refine aF ?_
      exact ⟨(w64 (t30_0_8 + 1), o26_0_8, (eW (aB.mk x15.Round x15.Place) x15 o27_0_8), bs9, ck10, (mbs (aB.mk x15.Round x15.Place) o27_0_8 bs11 ck12), (mck (aB.mk x15.Round x15.Place) o27_0_8 ck12)), h, bF [0, 1, 2, 3, 4] rfl rfl (aU rfl (bB ⟨rfl, rfl, rfl, rfl, rfl, trivial⟩))⟩
  ·have h := dQ c14 h
   refine cX ?_
   refine .inl ⟨rfl, ?_⟩
   simp only [nB] at h
   refine aE ?_
   refine aE ?_
   refine aC ?_
   refine tr1 rfl (aD (v := .bp b5 0 0) (aA rfl) rfl rfl) ?_
   refine tr1 rfl (aD (v := .d (.lit (.map (some r6)))) (aA rfl) rfl rfl) ?_
   refine kN (bF [2, 0, 3, 1, 4] rfl rfl (le_refl _)) ?_
   refine bV rfl (tB (passed := [.box b5 0 [.lit (.int .i64 t_0.Rounds), .sl 1 (t_0.Slots.map aN), .lit (X2 3).v, .lit (.map (some (X2 4).b))], .arr (X2 3).v 3 1 (r3.map aN), .map r6 (o26_0_8.map fun p : aG × Int => ((fun a : aG => Value.agg ((aL a).map bK).toArray) p.1, (fun v : Int => AV.d (.lit (.int .i64 v))) p.2)) bs9 ck10]) (aA rfl) rfl (.func _ _ Try.call90) rfl rfl (uI t_0 r3 o26_0_8 h)) ?_
   rintro _ ⟨_, _, ⟨r26, bs27, ck28, h, rfl, rfl⟩, rfl⟩
   refine tr1 rfl (fU (aA rfl) rfl) ?_
   refine aF ?_
   refine bT rfl (fun c29 => ?_) (fun c29 => ?_)
   ·have h := dR c29 h
    refine aE ?_
    refine aC ?_
    refine tr1 rfl (aJ (v := cO aX (none : Option bA)) (aA rfl) rfl rfl) ?_
    refine tr1 rfl (aJ (v := .d (.lit (.bool false))) (aA rfl) rfl rfl) ?_
    refine aF ?_
    exact bM ⟨rfl, _, [], [.box b5 0 [.lit (.int .i64 t_0.Rounds), .sl 1 (t_0.Slots.map aN), .lit (X2 3).v, .lit (.map (some (X2 4).b))], .arr (X2 3).v 3 1 (r26.2.1.map aN), .map r6 (r26.2.2.map fun p : aG × Int => ((fun a : aG => Value.agg ((aL a).map bK).toArray) p.1, (fun v : Int => AV.d (.lit (.int .i64 v))) p.2)) bs27 ck28, .map (X2 4).b (([] : List (aB × Int)).map fun p : aB × Int => ((fun a : aB => Value.agg ((aK a).map bK).toArray) p.1, (fun v : Int => AV.d (.lit (.int .i64 v))) p.2)) ([]) 0, .map r7 (o27_0_8.map fun p : aB × aG => ((fun a : aB => Value.agg ((aK a).map bK).toArray) p.1, (fun v : aG => AV.agg (aL v)) p.2)) bs11 ck12], _, .two (.tmp 4 (v := cO aX (none : Option bA)) rfl) (.tmp 5 (v := .d (.lit (.bool false))) rfl), .refl _, .same _, ((none : Option bA), false), h, rfl, rfl⟩
   ·have h := dQ c29 h
    refine bR ?_
    refine aE ?_
    refine aE ?_
    refine aC ?_
    refine tr1 rfl (aD (v := .bp b5 0 0) (aA rfl) rfl rfl) ?_
    refine tr1 rfl (jX (aA rfl) rfl) ?_
    refine tr1 rfl (aV (aA rfl) rfl kP) ?_
    refine tr1 rfl (aW (aA rfl) rfl (i := 0) rfl rfl cU) ?_
    refine tr1 rfl (nO (m := 1) (aA rfl) rfl rfl bS.of) ?_
    refine tr1 rfl (aD (v := .d (.lit (.int .i64 0))) (aA rfl) rfl rfl) ?_
    refine aF ?_
    refine cD ?_
    refine nP [6, 8, 71, 72] (fun (s30 : Int × (List (aB × Int)) × (List Nat) × Nat) => [(73, .d (.lit (.int .i64 s30.1)))]) (fun (s30 : Int × (List (aB × Int)) × (List Nat) × Nat) => [.arr (X2 3).v 3 1 (r26.2.1.map aN), .map (X2 4).b (s30.2.1.map fun p : aB × Int => ((fun a : aB => Value.agg ((aK a).map bK).toArray) p.1, (fun v : Int => AV.d (.lit (.int .i64 v))) p.2)) s30.2.2.1 s30.2.2.2, .box b5 0 [.lit (.int .i64 t_0.Rounds), .sl 1 (t_0.Slots.map aN), .lit (X2 3).v, .lit (.map (some (X2 4).b))], .map r7 (o27_0_8.map fun p : aB × aG => ((fun a : aB => Value.agg ((aK a).map bK).toArray) p.1, (fun v : aG => AV.agg (aL v)) p.2)) bs11 ck12]) (fun (k : Nat) (s30 : Int × (List (aB × Int)) × (List Nat) × Nat) => gC Q (r26.2.1.length : Int) r26.2.1 t_0 o27_0_8 k s30.1 s30.2.1) (fun _ h => h) (0, ([] : List (aB × Int)), [], 0) h (bF [1, 3, 0, 4] rfl rfl (aU rfl (bB ⟨rfl, rfl, rfl, rfl, trivial⟩))) ?_
    rintro k33 ⟨t73_2_30, o23_2_30, bs31, ck32⟩ h
    simp only [gC] at h
    refine aE ?_
    refine aC ?_
    refine tr1 rfl (bI (aA rfl) rfl rfl rfl) ?_
    refine aF ?_
    refine aE ?_
    refine bT rfl (fun c34 => ?_) (fun c34 => ?_)
    ·have h := dR c34 h
     refine bR ?_
     refine aE ?_
     refine cD ?_
     refine aE ?_
     refine aC ?_
     refine tr1 rfl (aD (v := .d (.lit (.int .i64 t73_2_30))) (aA rfl) rfl rfl) ?_
     obtain ⟨x35, h36, h⟩ := cS h
     refine tr1 rfl (eY (m := 0) (aA rfl) rfl rfl rfl bS.of (bU aN h36)) ?_
     refine tr1 rfl (jJ (aA rfl) rfl (m := 0) rfl (mD aN h36) rfl bJ) ?_
     refine tr1 rfl (aJ (v := .d (.lit (.int .i64 t73_2_30))) (aA rfl) rfl rfl) ?_
     refine tr1 rfl (aJ (v := .d (.lit (.int .i64 x35))) (aA rfl) rfl rfl) ?_
     refine aF ?_
     refine aE ?_
     refine aC ?_
     refine tr1 rfl (aD (v := .d (.lit (.int .i64 x35))) (aA rfl) rfl rfl) ?_
     refine tr1 rfl (bI (aA rfl) rfl rfl rfl) ?_
     refine aF ?_
     refine bT rfl (fun c37 => ?_) (fun c37 => ?_)
     ·have h := dR c37 h
      refine aC ?_
      refine tr1 rfl (aD (v := .bp b5 0 0) (aA rfl) rfl rfl) ?_
      refine tr1 rfl (aD (v := .d (.lit (.int .i64 t73_2_30))) (aA rfl) rfl rfl) ?_
      refine tr1 rfl (aIv (aA rfl) rfl rfl (.inr (.inr ⟨rfl, rfl⟩))) ?_
      obtain ⟨r38, h39, h⟩ := cS h
      refine kN (bF [2, 0, 1, 3] rfl rfl (le_refl _)) ?_
      refine bV rfl (tB (passed := [.box b5 0 [.lit (.int .i64 t_0.Rounds), .sl 1 (t_0.Slots.map aN), .lit (X2 3).v, .lit (.map (some (X2 4).b))], .arr (X2 3).v 3 1 (r26.2.1.map aN), .map (X2 4).b (o23_2_30.map fun p : aB × Int => ((fun a : aB => Value.agg ((aK a).map bK).toArray) p.1, (fun v : Int => AV.d (.lit (.int .i64 v))) p.2)) bs31 ck32]) (aA rfl) rfl (.func _ _ Try.call91) rfl rfl (rC t_0 r26.2.1 o23_2_30 (aDi t73_2_30 1) 0 h39)) ?_
      rintro _ ⟨_, _, ⟨bs40, ck41, rfl, rfl⟩, rfl⟩
      refine eV ?_
      refine aC ?_
      refine tr1 rfl (bO (aA rfl) rfl rfl rfl) ?_
      refine tr1 rfl (aD (v := .d (.lit (.int .i64 ((w64 (t73_2_30 + 1)))))) (aA rfl) rfl rfl) ?_
      refine aF ?_
      exact ⟨(w64 (t73_2_30 + 1), r38.2, bs40, ck41), h, bF [1, 2, 0, 3] rfl rfl (aU rfl (bB ⟨rfl, rfl, rfl, rfl, trivial⟩))⟩
     ·have h := dQ c37 h
      refine eF ?_
      refine aC ?_
      refine tr1 rfl (bO (aA rfl) rfl rfl rfl) ?_
      refine tr1 rfl (aD (v := .d (.lit (.int .i64 ((w64 (t73_2_30 + 1)))))) (aA rfl) rfl rfl) ?_
      refine aF ?_
      exact ⟨(w64 (t73_2_30 + 1), o23_2_30, bs31, ck32), h, bF [0, 1, 2, 3] rfl rfl (aU rfl (bB ⟨rfl, rfl, rfl, rfl, trivial⟩))⟩
    ·have h := dQ c34 h
     refine cX ?_
     refine .inl ⟨rfl, ?_⟩
     simp only [nC] at h
     refine aE ?_
     refine aE ?_
     refine aC ?_
     refine tr1 rfl (aD (v := .d (.lit (.map (some r7)))) (aA rfl) rfl rfl) ?_
     refine bV rfl (aGc (m := 3) (aA rfl) Try.underlying124 rfl rfl) ?_
     rintro _ ⟨q42, h44, rfl⟩
     have h := xP h h44
     refine aF ?_
     refine cD ?_
     refine nP [6, 86] (fun (s45 : (List (aB × Int)) × (List Nat) × Nat × (List Nat)) => []) (fun (s45 : (List (aB × Int)) × (List Nat) × Nat × (List Nat)) => [.arr (X2 3).v 3 1 (r26.2.1.map aN), .map (X2 4).b (s45.1.map fun p : aB × Int => ((fun a : aB => Value.agg ((aK a).map bK).toArray) p.1, (fun v : Int => AV.d (.lit (.int .i64 v))) p.2)) s45.2.1 s45.2.2.1, .box b5 0 [.lit (.int .i64 t_0.Rounds), .sl 1 (t_0.Slots.map aN), .lit (X2 3).v, .lit (.map (some (X2 4).b))], .map r7 (o27_0_8.map fun p : aB × aG => ((fun a : aB => Value.agg ((aK a).map bK).toArray) p.1, (fun v : aG => AV.agg (aL v)) p.2)) bs11 ck12, .iter q42 r7 ck12 s45.2.2.2 ck12]) (fun (k : Nat) (s45 : (List (aB × Int)) × (List Nat) × Nat × (List Nat)) => iO Q r26.2.1 t_0 o27_0_8 k s45.1 (kM o27_0_8 bs11 s45.2.2.2)) (fun _ h => h) (o23_2_30, bs31, ck32, []) h (bF [0, 1, 2, 3, 4] rfl rfl (bB ⟨rfl, rfl, trivial⟩)) ?_
     rintro k49 ⟨o23_4_45, bs46, ck47, seen48⟩ h
     simp only [iO] at h
     refine aE ?_
     refine aC ?_
     refine bV rfl (aIz (kv := (fun a : aB => Value.agg ((aK a).map bK).toArray)) (av := (fun v : aG => AV.agg (aL v))) (l := o27_0_8) (mi := 4) (mm := 3) (aA rfl) rfl rfl rfl) ?_
     rintro _ (⟨h54, rfl⟩ | ⟨j51, b52, p50, h53, rfl⟩)
     ·have h := h.1 h54
      refine tr1 rfl (bL (aA rfl) rfl rfl) ?_
      refine aF ?_
      refine aE ?_
      refine bT rfl (fun c55 => ?_) (fun c55 => ?_)
      ·exact absurd c55 (by decide)
      ·refine cX ?_
       refine .inl ⟨rfl, ?_⟩
       simp only [pT] at h
       refine aE ?_
       refine aC ?_
       refine tr1 rfl (aD (v := .bp b5 0 0) (aA rfl) rfl rfl) ?_
       refine tr1 rfl (aJ (v := .bp b5 0 0) (aA rfl) rfl rfl) ?_
       refine tr1 rfl (aJ (v := .d (.lit (.bool true))) (aA rfl) rfl rfl) ?_
       refine aF ?_
       exact bM ⟨rfl, _, [], [.arr (X2 3).v 3 1 (r26.2.1.map aN), .map (X2 4).b (o23_4_45.map fun p : aB × Int => ((fun a : aB => Value.agg ((aK a).map bK).toArray) p.1, (fun v : Int => AV.d (.lit (.int .i64 v))) p.2)) bs46 ck47, .box b5 0 [.lit (.int .i64 t_0.Rounds), .sl 1 (t_0.Slots.map aN), .lit (X2 3).v, .lit (.map (some (X2 4).b))], .map r7 (o27_0_8.map fun p : aB × aG => ((fun a : aB => Value.agg ((aK a).map bK).toArray) p.1, (fun v : aG => AV.agg (aL v)) p.2)) bs11 ck12, .iter q42 r7 ck12 seen48 ck12], _, .two (.tmp 4 (v := .bp b5 0 0) rfl) (.tmp 5 (v := .d (.lit (.bool true))) rfl), .refl _, tD (.cons ((aKy 2 rfl rfl (dvc (.same _) (dvc (.same _) (dvc (mA 0 rfl (dG (f := aN) fun _ => rfl)) (dvc (aMn (kv := (fun a : aB => Value.agg ((aK a).map bK).toArray)) (av := (fun v : Int => AV.d (.lit (.int .i64 v)))) (l := o23_4_45) (enc := aN) (agg := false) 1 rfl (fun _ _ => rfl) (fun _ => rfl)) dvn)))))) (.cons (.same _) .nil)), ((some (bA.mk t_0 r26.2.1 o23_4_45)), true), h, rfl, rfl⟩
     ·have h := yU h h53
      refine tr1 rfl (bL (aA rfl) rfl rfl) ?_
      refine aF ?_
      refine aE ?_
      refine bT rfl (fun c72 => ?_) (fun c72 => ?_)
      ·refine bR ?_
       refine cD ?_
       refine aE ?_
       refine aC ?_
       refine tr1 rfl (aGb (kv := (fun a : aB => Value.agg ((aK a).map bK).toArray)) (av := (fun v : aG => AV.agg (aL v))) (l := o27_0_8) (mi := 4) (mm := 3) (ka := .agg (aK p50.1)) (aA rfl) rfl rfl rfl h53 (fun _ _ => .agg (xK rfl))) ?_
       refine tr1 rfl (bL (aA rfl) rfl rfl) ?_
       refine tr1 rfl (bL (aA rfl) rfl rfl) ?_
       refine bV rfl (dJ (zs := [.lit (.int .i64 0), .lit (.int .i64 0)]) (aA rfl) Try.zeroValue70 rfl rfl) ?_
       rintro _ ⟨b56, rfl⟩
       refine bV rfl (dJ (zs := [.lit (.int .i64 0), .lit (.int .i64 0), .lit (.int .i64 0), .lit (.int .i64 0), .lit (.int .i64 0)]) (aA rfl) Try.zeroValue32 rfl rfl) ?_
       rintro _ ⟨b57, rfl⟩
       refine tr1 rfl (cB (i := 5) rfl rfl rfl rfl rfl Try.sizeOf70 rfl (aA rfl) (Nat.le_of_ble_eq_true rfl) (ds' := (aK p50.1)) rfl) ?_
       refine tr1 rfl (cB (i := 6) rfl rfl rfl rfl rfl Try.sizeOf32 rfl (aA rfl) (Nat.le_of_ble_eq_true rfl) (ds' := (aL p50.2)) rfl) ?_
       refine aF ?_
       refine aE ?_
       refine dM mix 6 [6, 16, 86] [(95, .d (.lit (X2 3).v)), (97, .d (.lit (.int .i64 p50.2.Player)))] ?_ ?_
       ·refine ⟨[(92, 0, .bp b5 0 0), (93, 1, .bp b5 0 0), (94, 2, .bp b5 0 2), (95, 3, .d (.lit (X2 3).v)), (96, 4, .bp b57 0 3), (97, 5, .d (.lit (.int .i64 p50.2.Player)))], ?_, ?_⟩
        · exact ⟨by kernel_rfl, by kernel_rfl, by kernel_rfl, by kernel_rfl, by kernel_rfl, [([], []), ([0], []), ([1], []), ([2], []), ([], []), ([4], [])], by kernel_rfl, ⟨fun S hS => aH rfl (aT rfl (aD (v := .bp b5 0 0) (aA rfl) (aI hS rfl) rfl)),
      fun S hS => aH rfl (aT rfl (jX (aA rfl) (aI hS rfl))),
      fun S hS => aH rfl (aT rfl (aV (aA rfl) (aI hS rfl) kP)),
      fun S hS => aH rfl (aT rfl (aW (aA rfl) (aI hS rfl) (i := 2) rfl rfl cU)),
      fun S hS => aH rfl (aT rfl (aV (aA rfl) (aI hS rfl) mH)),
      fun S hS => aH rfl (aT rfl (aW (aA rfl) (aI hS rfl) (i := 6) rfl rfl bJ)), trivial⟩⟩
        · exact cZ (aU rfl (aU rfl (bB ⟨rfl, rfl, rfl, trivial⟩)))
       ·obtain ⟨r58, h59, h⟩ := cS h
        refine tr1 rfl (cH (aA rfl) (.func _ _ Try.call73) rfl rfl (.cons (.d (mA 0 rfl (dG (f := aN) fun _ => rfl))) (.cons (.same _) .nil)) (oX _ _ h59) rfl) ?_
        refine tr1 rfl (aJ (v := .d (.lit (.int .i64 r58))) (aA rfl) rfl rfl) ?_
        refine aF ?_
        refine aE ?_
        obtain ⟨b60, h61, h⟩ := cS h
        refine bN (b60) (fun c65 => ?_) (fun c65 => ?_)
        ·have h := dR c65 h
         refine dM mix 15 [6, 86] [(109, .d (.lit (.bool b60)))] ?_ ?_
         ·refine bN (decide (r58 < 0)) (fun c62 => ?_) (fun c62 => ?_)
          ·have h61 := aZ c62 h61
           have h61 := Option.some.inj h61
           subst h61
           refine ⟨[(99, 0, .d (.lit (.int .i64 r58))), (100, 1, .d (.lit (.bool ((decide (r58 < 0)))))), (101, 2, .d (.lit (.bool ((decide (r58 < 0)))))), (102, 3, .tup []), (103, 4, .tup []), (104, 5, .tup []), (105, 6, .tup []), (106, 7, .tup []), (107, 8, .tup []), (108, 9, .d (.lit (.bool true))), (109, 10, .d (.lit (.bool (true)))), (110, 11, .tup []), (111, 12, .tup []), (112, 13, .tup []), (113, 14, .tup [])], ?_, ?_⟩
           · exact ⟨by kernel_rfl, by kernel_rfl, by kernel_rfl, by kernel_rfl, by kernel_rfl, [([], []), ([0], []), ([1], []), ([2], []), ([2, 3], []), ([2], []), ([2, 4, 5], []), ([2], []), ([2, 6, 7], []), ([2, 8], []), ([9], []), ([10], []), ([10], []), ([10], []), ([10, 13], [])], by kernel_rfl, ⟨fun S hS => aH rfl (aT rfl (aD (v := .d (.lit (.int .i64 r58))) (aA rfl) (aI hS rfl) rfl)),
      fun S hS => aH rfl (aT rfl (bI (aA rfl) (aI hS rfl) rfl rfl)),
      fun S hS => aH rfl (aT rfl (aD (v := .d (.lit (.bool ((decide (r58 < 0)))))) (aA rfl) (aI hS rfl) rfl)),
      fun S hS => aH rfl (bG rfl rfl (aA rfl) rfl (aA rfl) (aS hS rfl) c62),
      fun S hS => aH rfl (bG rfl rfl (aA rfl) rfl (aA rfl) (aS hS rfl) c62),
      fun S hS => aH rfl (bG rfl rfl (aA rfl) rfl (aA rfl) (aS hS rfl) c62),
      fun S hS => aH rfl (bG rfl rfl (aA rfl) rfl (aA rfl) (aS hS rfl) c62),
      fun S hS => aH rfl (bG rfl rfl (aA rfl) rfl (aA rfl) (aS hS rfl) c62),
      fun S hS => aH rfl (bG rfl rfl (aA rfl) rfl (aA rfl) (aS hS rfl) c62),
      fun S hS => aH rfl (aT rfl (bW (v := .d (.lit (.bool true))) (aA rfl) (aI hS rfl) c62 rfl rfl)),
      fun S hS => aH rfl (aT rfl (aD (v := .d (.lit (.bool (true)))) (aA rfl) (aI hS rfl) rfl)),
      fun S hS => aH rfl (bG rfl rfl (aA rfl) rfl (aA rfl) (aS hS rfl) c65),
      fun S hS => aH rfl (bG rfl rfl (aA rfl) rfl (aA rfl) (aS hS rfl) c65),
      fun S hS => aH rfl (bG rfl rfl (aA rfl) rfl (aA rfl) (aS hS rfl) c65),
      fun S hS => aH rfl (bG rfl rfl (aA rfl) rfl (aA rfl) (aS hS rfl) c65), trivial⟩⟩
           · exact cZ (aU rfl (bB ⟨rfl, rfl, trivial⟩))
          ·have h61 := aY c62 h61
           obtain ⟨r63, h64, h61⟩ := bind_some h61
           have h61 := Option.some.inj h61
           subst h61
           refine ⟨[(99, 0, .d (.lit (.int .i64 r58))), (100, 1, .d (.lit (.bool ((decide (r58 < 0)))))), (101, 2, .d (.lit (.bool ((decide (r58 < 0)))))), (102, 3, .bp b56 0 0), (103, 4, .d (.lit (.int .i64 p50.1.round))), (104, 5, .d (.lit (.int .i64 r58))), (105, 6, .agg (aK r63)), (106, 7, .agg (aK p50.1)), (107, 8, .d (.lit (.bool ((!decide (r63 = p50.1)))))), (108, 9, .d (.lit (.bool ((!decide (r63 = p50.1)))))), (109, 10, .d (.lit (.bool (!decide (r63 = p50.1))))), (110, 11, .tup []), (111, 12, .tup []), (112, 13, .tup []), (113, 14, .tup [])], ?_, ?_⟩
           · exact ⟨by kernel_rfl, by kernel_rfl, by kernel_rfl, by kernel_rfl, by kernel_rfl, [([], []), ([0], []), ([1], []), ([2], []), ([2, 3], []), ([2], []), ([2, 4, 5], []), ([2], []), ([2, 6, 7], []), ([2, 8], []), ([9], []), ([10], []), ([10], []), ([10], []), ([10, 13], [])], by kernel_rfl, ⟨fun S hS => aH rfl (aT rfl (aD (v := .d (.lit (.int .i64 r58))) (aA rfl) (aI hS rfl) rfl)),
      fun S hS => aH rfl (aT rfl (bI (aA rfl) (aI hS rfl) rfl rfl)),
      fun S hS => aH rfl (aT rfl (aD (v := .d (.lit (.bool ((decide (r58 < 0)))))) (aA rfl) (aI hS rfl) rfl)),
      fun S hS => aH rfl (bD rfl rfl (aA rfl) (aS hS rfl) c62 (aV (aA rfl) (aI hS rfl) nL)),
      fun S hS => aH rfl (bD rfl rfl (aA rfl) (aS hS rfl) c62 (aW (aA rfl) (aI hS rfl) (i := 5) rfl rfl bJ)),
      fun S hS => aH rfl (bD rfl rfl (aA rfl) (aS hS rfl) c62 (aD (v := .d (.lit (.int .i64 r58))) (aA rfl) (aI hS rfl) rfl)),
      fun S hS => aH rfl (bD rfl rfl (aA rfl) (aS hS rfl) c62 (eN (aA rfl) (.func _ _ Try.call45) (ev2 (aI hS rfl) (ev2 (aI hS rfl) evn)) rfl (jE _ _ h64))),
      fun S hS => aH rfl (bD rfl rfl (aA rfl) (aS hS rfl) c62 (bH (aA rfl) (aI hS rfl) (i := 5) rfl iZ (es := (aK p50.1)) rfl rfl)),
      fun S hS => aH rfl (bD rfl rfl (aA rfl) (aS hS rfl) c62 (aHi (a := r63) (b := p50.1) (aA rfl) (aI hS rfl) (aI hS rfl) rfl rfl Try.eqGuardType70 uQ)),
      fun S hS => aH rfl (aT rfl (bX (v := .d (.lit (.bool ((!decide (r63 = p50.1)))))) (aA rfl) (aI hS rfl) c62 (aI hS rfl) rfl)),
      fun S hS => aH rfl (aT rfl (aD (v := .d (.lit (.bool (!decide (r63 = p50.1))))) (aA rfl) (aI hS rfl) rfl)),
      fun S hS => aH rfl (bG rfl rfl (aA rfl) rfl (aA rfl) (aS hS rfl) c65),
      fun S hS => aH rfl (bG rfl rfl (aA rfl) rfl (aA rfl) (aS hS rfl) c65),
      fun S hS => aH rfl (bG rfl rfl (aA rfl) rfl (aA rfl) (aS hS rfl) c65),
      fun S hS => aH rfl (bG rfl rfl (aA rfl) rfl (aA rfl) (aS hS rfl) c65), trivial⟩⟩
           · exact cZ (aU rfl (bB ⟨rfl, rfl, trivial⟩))
         ·refine aP rfl rfl (aA rfl) rfl (aA rfl) rfl c65 ?_
          refine aP rfl rfl (aA rfl) rfl (aA rfl) rfl c65 ?_
          refine tr1 rfl (bW (v := .d (.lit (.bool true))) (aA rfl) rfl c65 rfl rfl) ?_
          refine aF ?_
          refine bT rfl (fun c71 => ?_) (fun c71 => ?_)
          ·refine aE ?_
           refine aC ?_
           refine tr1 rfl (aJ (v := cO aX (none : Option bA)) (aA rfl) rfl rfl) ?_
           refine tr1 rfl (aJ (v := .d (.lit (.bool false))) (aA rfl) rfl rfl) ?_
           refine aF ?_
           exact bM ⟨rfl, _, [], [.arr (X2 3).v 3 1 (r26.2.1.map aN), .map (X2 4).b (o23_4_45.map fun p : aB × Int => ((fun a : aB => Value.agg ((aK a).map bK).toArray) p.1, (fun v : Int => AV.d (.lit (.int .i64 v))) p.2)) bs46 ck47, .box b5 0 [.lit (.int .i64 t_0.Rounds), .sl 1 (t_0.Slots.map aN), .lit (X2 3).v, .lit (.map (some (X2 4).b))], .map r7 (o27_0_8.map fun p : aB × aG => ((fun a : aB => Value.agg ((aK a).map bK).toArray) p.1, (fun v : aG => AV.agg (aL v)) p.2)) bs11 ck12, .iter q42 r7 ck12 (seen48 ++ [b52]) ck12, .box b56 0 (aK p50.1), .box b57 0 (aL p50.2)], _, .two (.tmp 4 (v := cO aX (none : Option bA)) rfl) (.tmp 5 (v := .d (.lit (.bool false))) rfl), .refl _, .same _, ((none : Option bA), false), h, rfl, rfl⟩
          ·exact absurd c71 (by decide)
        ·have h := dQ c65 h
         refine dM mix 15 [6, 86] [(109, .d (.lit (.bool b60))), (110, .bp b5 0 0), (111, .d (.lit (.int .i64 r58))), (112, .bp b56 0 0), (113, .d (.lit (.int .i64 p50.1.round)))] ?_ ?_
         ·refine bN (decide (r58 < 0)) (fun c62 => ?_) (fun c62 => ?_)
          ·have h61 := aZ c62 h61
           have h61 := Option.some.inj h61
           subst h61
           refine ⟨[(99, 0, .d (.lit (.int .i64 r58))), (100, 1, .d (.lit (.bool ((decide (r58 < 0)))))), (101, 2, .d (.lit (.bool ((decide (r58 < 0)))))), (102, 3, .tup []), (103, 4, .tup []), (104, 5, .tup []), (105, 6, .tup []), (106, 7, .tup []), (107, 8, .tup []), (108, 9, .d (.lit (.bool true))), (109, 10, .d (.lit (.bool (true)))), (110, 11, .bp b5 0 0), (111, 12, .d (.lit (.int .i64 r58))), (112, 13, .bp b56 0 0), (113, 14, .d (.lit (.int .i64 p50.1.round)))], ?_, ?_⟩
           · exact ⟨by kernel_rfl, by kernel_rfl, by kernel_rfl, by kernel_rfl, by kernel_rfl, [([], []), ([0], []), ([1], []), ([2], []), ([2, 3], []), ([2], []), ([2, 4, 5], []), ([2], []), ([2, 6, 7], []), ([2, 8], []), ([9], []), ([10], []), ([10], []), ([10], []), ([10, 13], [])], by kernel_rfl, ⟨fun S hS => aH rfl (aT rfl (aD (v := .d (.lit (.int .i64 r58))) (aA rfl) (aI hS rfl) rfl)),
      fun S hS => aH rfl (aT rfl (bI (aA rfl) (aI hS rfl) rfl rfl)),
      fun S hS => aH rfl (aT rfl (aD (v := .d (.lit (.bool ((decide (r58 < 0)))))) (aA rfl) (aI hS rfl) rfl)),
      fun S hS => aH rfl (bG rfl rfl (aA rfl) rfl (aA rfl) (aS hS rfl) c62),
      fun S hS => aH rfl (bG rfl rfl (aA rfl) rfl (aA rfl) (aS hS rfl) c62),
      fun S hS => aH rfl (bG rfl rfl (aA rfl) rfl (aA rfl) (aS hS rfl) c62),
      fun S hS => aH rfl (bG rfl rfl (aA rfl) rfl (aA rfl) (aS hS rfl) c62),
      fun S hS => aH rfl (bG rfl rfl (aA rfl) rfl (aA rfl) (aS hS rfl) c62),
      fun S hS => aH rfl (bG rfl rfl (aA rfl) rfl (aA rfl) (aS hS rfl) c62),
      fun S hS => aH rfl (aT rfl (bW (v := .d (.lit (.bool true))) (aA rfl) (aI hS rfl) c62 rfl rfl)),
      fun S hS => aH rfl (aT rfl (aD (v := .d (.lit (.bool (true)))) (aA rfl) (aI hS rfl) rfl)),
      fun S hS => aH rfl (bD rfl rfl (aA rfl) (aS hS rfl) c65 (aD (v := .bp b5 0 0) (aA rfl) (aI hS rfl) rfl)),
      fun S hS => aH rfl (bD rfl rfl (aA rfl) (aS hS rfl) c65 (aD (v := .d (.lit (.int .i64 r58))) (aA rfl) (aI hS rfl) rfl)),
      fun S hS => aH rfl (bD rfl rfl (aA rfl) (aS hS rfl) c65 (aV (aA rfl) (aI hS rfl) nL)),
      fun S hS => aH rfl (bD rfl rfl (aA rfl) (aS hS rfl) c65 (aW (aA rfl) (aI hS rfl) (i := 5) rfl rfl bJ)), trivial⟩⟩
           · exact cZ (aU rfl (aU rfl (aU rfl (aU rfl (aU rfl (bB ⟨rfl, rfl, trivial⟩))))))
          ·have h61 := aY c62 h61
           obtain ⟨r63, h64, h61⟩ := bind_some h61
           have h61 := Option.some.inj h61
           subst h61
           refine ⟨[(99, 0, .d (.lit (.int .i64 r58))), (100, 1, .d (.lit (.bool ((decide (r58 < 0)))))), (101, 2, .d (.lit (.bool ((decide (r58 < 0)))))), (102, 3, .bp b56 0 0), (103, 4, .d (.lit (.int .i64 p50.1.round))), (104, 5, .d (.lit (.int .i64 r58))), (105, 6, .agg (aK r63)), (106, 7, .agg (aK p50.1)), (107, 8, .d (.lit (.bool ((!decide (r63 = p50.1)))))), (108, 9, .d (.lit (.bool ((!decide (r63 = p50.1)))))), (109, 10, .d (.lit (.bool (!decide (r63 = p50.1))))), (110, 11, .bp b5 0 0), (111, 12, .d (.lit (.int .i64 r58))), (112, 13, .bp b56 0 0), (113, 14, .d (.lit (.int .i64 p50.1.round)))], ?_, ?_⟩
           · exact ⟨by kernel_rfl, by kernel_rfl, by kernel_rfl, by kernel_rfl, by kernel_rfl, [([], []), ([0], []), ([1], []), ([2], []), ([2, 3], []), ([2], []), ([2, 4, 5], []), ([2], []), ([2, 6, 7], []), ([2, 8], []), ([9], []), ([10], []), ([10], []), ([10], []), ([10, 13], [])], by kernel_rfl, ⟨fun S hS => aH rfl (aT rfl (aD (v := .d (.lit (.int .i64 r58))) (aA rfl) (aI hS rfl) rfl)),
      fun S hS => aH rfl (aT rfl (bI (aA rfl) (aI hS rfl) rfl rfl)),
      fun S hS => aH rfl (aT rfl (aD (v := .d (.lit (.bool ((decide (r58 < 0)))))) (aA rfl) (aI hS rfl) rfl)),
      fun S hS => aH rfl (bD rfl rfl (aA rfl) (aS hS rfl) c62 (aV (aA rfl) (aI hS rfl) nL)),
      fun S hS => aH rfl (bD rfl rfl (aA rfl) (aS hS rfl) c62 (aW (aA rfl) (aI hS rfl) (i := 5) rfl rfl bJ)),
      fun S hS => aH rfl (bD rfl rfl (aA rfl) (aS hS rfl) c62 (aD (v := .d (.lit (.int .i64 r58))) (aA rfl) (aI hS rfl) rfl)),
      fun S hS => aH rfl (bD rfl rfl (aA rfl) (aS hS rfl) c62 (eN (aA rfl) (.func _ _ Try.call45) (ev2 (aI hS rfl) (ev2 (aI hS rfl) evn)) rfl (jE _ _ h64))),
      fun S hS => aH rfl (bD rfl rfl (aA rfl) (aS hS rfl) c62 (bH (aA rfl) (aI hS rfl) (i := 5) rfl iZ (es := (aK p50.1)) rfl rfl)),
      fun S hS => aH rfl (bD rfl rfl (aA rfl) (aS hS rfl) c62 (aHi (a := r63) (b := p50.1) (aA rfl) (aI hS rfl) (aI hS rfl) rfl rfl Try.eqGuardType70 uQ)),
      fun S hS => aH rfl (aT rfl (bX (v := .d (.lit (.bool ((!decide (r63 = p50.1)))))) (aA rfl) (aI hS rfl) c62 (aI hS rfl) rfl)),
      fun S hS => aH rfl (aT rfl (aD (v := .d (.lit (.bool (!decide (r63 = p50.1))))) (aA rfl) (aI hS rfl) rfl)),
      fun S hS => aH rfl (bD rfl rfl (aA rfl) (aS hS rfl) c65 (aD (v := .bp b5 0 0) (aA rfl) (aI hS rfl) rfl)),
      fun S hS => aH rfl (bD rfl rfl (aA rfl) (aS hS rfl) c65 (aD (v := .d (.lit (.int .i64 r58))) (aA rfl) (aI hS rfl) rfl)),
      fun S hS => aH rfl (bD rfl rfl (aA rfl) (aS hS rfl) c65 (aV (aA rfl) (aI hS rfl) nL)),
      fun S hS => aH rfl (bD rfl rfl (aA rfl) (aS hS rfl) c65 (aW (aA rfl) (aI hS rfl) (i := 5) rfl rfl bJ)), trivial⟩⟩
           · exact cZ (aU rfl (aU rfl (aU rfl (aU rfl (aU rfl (bB ⟨rfl, rfl, trivial⟩))))))
         ·obtain ⟨r66, h67, h⟩ := cS h
          refine kN (bF [2, 0, 1, 3, 4, 5, 6] rfl rfl (le_refl _)) ?_
          refine aGf rfl rfl (aA rfl) rfl c65 (tB (passed := [.box b5 0 [.lit (.int .i64 t_0.Rounds), .sl 1 (t_0.Slots.map aN), .lit (X2 3).v, .lit (.map (some (X2 4).b))], .arr (X2 3).v 3 1 (r26.2.1.map aN), .map (X2 4).b (o23_4_45.map fun p : aB × Int => ((fun a : aB => Value.agg ((aK a).map bK).toArray) p.1, (fun v : Int => AV.d (.lit (.int .i64 v))) p.2)) bs46 ck47]) (aA rfl) rfl (.func _ _ Try.call91) rfl rfl (rC t_0 r26.2.1 o23_4_45 r58 p50.1.round h67)) ?_
          rintro _ ⟨_, _, ⟨bs68, ck69, rfl, rfl⟩, rfl⟩
          refine aM rfl rfl (aA rfl) rfl c65 (fU (aA rfl) rfl) ?_
          refine tr1 rfl (bX (v := .d (.lit (.bool (!r66.1)))) (aA rfl) rfl c65 rfl rfl) ?_
          refine aF ?_
          refine bT rfl (fun c70 => ?_) (fun c70 => ?_)
          ·have h := dR c70 h
           refine aE ?_
           refine aC ?_
           refine tr1 rfl (aJ (v := cO aX (none : Option bA)) (aA rfl) rfl rfl) ?_
           refine tr1 rfl (aJ (v := .d (.lit (.bool false))) (aA rfl) rfl rfl) ?_
           refine aF ?_
           exact bM ⟨rfl, _, [], [.box b5 0 [.lit (.int .i64 t_0.Rounds), .sl 1 (t_0.Slots.map aN), .lit (X2 3).v, .lit (.map (some (X2 4).b))], .arr (X2 3).v 3 1 (r26.2.1.map aN), .map (X2 4).b (r66.2.map fun p : aB × Int => ((fun a : aB => Value.agg ((aK a).map bK).toArray) p.1, (fun v : Int => AV.d (.lit (.int .i64 v))) p.2)) bs68 ck69, .map r7 (o27_0_8.map fun p : aB × aG => ((fun a : aB => Value.agg ((aK a).map bK).toArray) p.1, (fun v : aG => AV.agg (aL v)) p.2)) bs11 ck12, .iter q42 r7 ck12 (seen48 ++ [b52]) ck12, .box b56 0 (aK p50.1), .box b57 0 (aL p50.2)], _, .two (.tmp 4 (v := cO aX (none : Option bA)) rfl) (.tmp 5 (v := .d (.lit (.bool false))) rfl), .refl _, .same _, ((none : Option bA), false), h, rfl, rfl⟩
          ·have h := dQ c70 h
           refine eF ?_
           exact ⟨(r66.2, bs68, ck69, (seen48 ++ [b52])), h, bF [1, 2, 0, 3, 4] rfl rfl (bB ⟨rfl, rfl, trivial⟩)⟩
      ·exact absurd c72 (by decide)

theorem pA (t_0 : aO) (l_1 : List aG) {Q : ((Option bA) × Int) → Prop} (h : iM t_0 l_1 Q) : eZ Try.prog 48 [.agg (aQ t_0), .d (.sl 5 (l_1.map aL))] [] (fun r' o' => ∃ (r : (Option bA) × Int), Q r ∧ r' = .tup [cO aX r.1, .d (.lit (.int .i64 r.2))] ∧ o' = []) := by
 unfold iM at h
 refine gA Try.func48 rfl (rs := [.tmp 4, .tmp 5]) Try.results48 Try.ntmps48 (Nat.le_of_ble_eq_true rfl) ?_
 refine aE ?_
 refine aC ?_
 refine bV rfl (eH (v := .agg (aQ t_0)) (aA rfl) rfl rfl rfl) ?_
 rintro _ ⟨b1, rfl⟩
 refine tr1 rfl (aJ (v := cO aX (none : Option bA)) (aA rfl) rfl rfl) ?_
 refine tr1 rfl (aJ (v := .d (.lit (.int .i64 0))) (aA rfl) rfl rfl) ?_
 refine aF ?_
 refine aE ?_
 refine aE ?_
 refine aC ?_
 refine tr1 rfl (bH (aA rfl) rfl (i := 0) rfl cV (es := (aQ t_0)) rfl rfl) ?_
 obtain ⟨r2, h3, h⟩ := cS h
 refine tr1 rfl (cH (aA rfl) (.func _ _ Try.call67) rfl rfl (BVs.refl _ _) (zH _ h3) rfl) ?_
 refine tr1 rfl (fU (aA rfl) rfl) ?_
 refine aF ?_
 refine bT rfl (fun c4 => ?_) (fun c4 => ?_)
 ·have h := dR c4 h
  refine aE ?_
  refine aC ?_
  refine tr1 rfl (aJ (v := cO aX (none : Option bA)) (aA rfl) rfl rfl) ?_
  refine tr1 rfl (aJ (v := .d (.lit (.int .i64 70))) (aA rfl) rfl rfl) ?_
  refine aF ?_
  exact bM ⟨rfl, _, [], [.box b1 0 (aQ t_0)], _, .two (.tmp 4 (v := cO aX (none : Option bA)) rfl) (.tmp 5 (v := .d (.lit (.int .i64 70))) rfl), .refl _, .same _, ((none : Option bA), 70), h, rfl, rfl⟩
 ·have h := dQ c4 h
  refine bR ?_
  refine aE ?_
  refine aE ?_
  refine aC ?_
  refine tr1 rfl (aD (v := .d (.sl 5 (l_1.map aL))) (aA rfl) rfl rfl) ?_
  refine tr1 rfl (eB (aA rfl) rfl gT.of) ?_
  refine tr1 rfl (bI (aA rfl) rfl rfl rfl) ?_
  refine tr1 rfl (aD (v := .d (.lit (.bool ((decide (60 < (l_1.length : Int))))))) (aA rfl) rfl rfl) ?_
  obtain ⟨b5, h6, h⟩ := cS h
  refine cF 4 [1, 2] 18 b5 ?_ ?_
  ·refine bN (decide (60 < (l_1.length : Int))) (fun c10 => ?_) (fun c10 => ?_)
   ·have h6 := aZ c10 h6
    refine aP rfl rfl (aA rfl) rfl (aA rfl) rfl c10 ?_
    refine aP rfl rfl (aA rfl) rfl (aA rfl) rfl c10 ?_
    refine aP rfl rfl (aA rfl) rfl (aA rfl) rfl c10 ?_
    refine tr1 rfl (bW (v := .d (.lit (.bool true))) (aA rfl) rfl c10 rfl rfl) ?_
    have h6 := Option.some.inj h6
    subst h6
    refine aF (bE rfl ⟨rfl, rfl, trivial⟩ rfl)
   ·have h6 := aY c10 h6
    refine aM rfl rfl (aA rfl) rfl c10 (aD (v := .d (.sl 5 (l_1.map aL))) (aA rfl) rfl rfl) ?_
    refine aM rfl rfl (aA rfl) rfl c10 (aMh (aA rfl) rfl rfl) ?_
    obtain ⟨r12, h13, h6⟩ := bind_some h6
    refine aM rfl rfl (aA rfl) rfl c10 (cH (aA rfl) (.func _ _ Try.call68) rfl rfl (.cons (.same _) (.cons ((aMm (.cons ((aKy 0 rfl rfl (dvc (.same _) (dvc (.same _) dvn)))) .nil))) .nil)) (qX _ _ 69 [.cp [.lit (.int .i64 t_0.Rounds), .sl 1 (t_0.Slots.map aN)]] Try.call69 (fun _ _ h6 => zI _ _ h6) h13) rfl) ?_
    refine tr1 rfl (bX (v := .d (.lit (.bool r12))) (aA rfl) rfl c10 rfl rfl) ?_
    have h6 := Option.some.inj h6
    subst h6
    refine aF (bE rfl ⟨rfl, rfl, trivial⟩ rfl)
  ·refine aF ?_
   refine bT rfl (fun c7 => ?_) (fun c7 => ?_)
   ·have h := dR c7 h
    refine aE ?_
    refine aC ?_
    refine tr1 rfl (aJ (v := cO aX (none : Option bA)) (aA rfl) rfl rfl) ?_
    refine tr1 rfl (aJ (v := .d (.lit (.int .i64 71))) (aA rfl) rfl rfl) ?_
    refine aF ?_
    exact bM ⟨rfl, _, [], [.box b1 0 (aQ t_0)], _, .two (.tmp 4 (v := cO aX (none : Option bA)) rfl) (.tmp 5 (v := .d (.lit (.int .i64 71))) rfl), .refl _, .same _, ((none : Option bA), 71), h, rfl, rfl⟩
   ·have h := dQ c7 h
    refine bR ?_
    refine aE ?_
    refine aC ?_
    refine tr1 rfl (bH (aA rfl) rfl (i := 0) rfl cV (es := (aQ t_0)) rfl rfl) ?_
    refine tr1 rfl (aD (v := .d (.sl 5 (l_1.map aL))) (aA rfl) rfl rfl) ?_
    refine bV rfl (mV (aA rfl) (.func _ _ Try.call71) rfl rfl (aAh _ _ h)) ?_
    rintro _ ⟨_, _, ⟨r8, h, rfl, rfl⟩, rfl⟩
    refine tr1 rfl (aD (v := .tup [cO aX r8.1, .d (.lit (.bool r8.2))]) (aA rfl) rfl rfl) ?_
    refine tr1 rfl (bL (aA rfl) rfl rfl) ?_
    refine tr1 rfl (bL (aA rfl) rfl rfl) ?_
    refine tr1 rfl (aJ (v := cO aX r8.1) (aA rfl) rfl rfl) ?_
    refine tr1 rfl (aJ (v := .d (.lit (.bool r8.2))) (aA rfl) rfl rfl) ?_
    refine aF ?_
    refine aE ?_
    refine aE ?_
    refine aC ?_
    refine tr1 rfl (aD (v := .d (.lit (.bool r8.2))) (aA rfl) rfl rfl) ?_
    refine tr1 rfl (fU (aA rfl) rfl) ?_
    refine aF ?_
    refine bT rfl (fun c9 => ?_) (fun c9 => ?_)
    ·have h := dR c9 h
     refine aE ?_
     refine aC ?_
     refine tr1 rfl (aJ (v := cO aX (none : Option bA)) (aA rfl) rfl rfl) ?_
     refine tr1 rfl (aJ (v := .d (.lit (.int .i64 72))) (aA rfl) rfl rfl) ?_
     refine aF ?_
     exact bM ⟨rfl, _, [], [.box b1 0 (aQ t_0)], _, .two (.tmp 4 (v := cO aX (none : Option bA)) rfl) (.tmp 5 (v := .d (.lit (.int .i64 72))) rfl), .refl _, .same _, ((none : Option bA), 72), h, rfl, rfl⟩
    ·have h := dQ c9 h
     refine bR ?_
     refine aE ?_
     refine aC ?_
     refine tr1 rfl (aD (v := cO aX r8.1) (aA rfl) rfl rfl) ?_
     refine tr1 rfl (aJ (v := cO aX r8.1) (aA rfl) rfl rfl) ?_
     refine tr1 rfl (aJ (v := .d (.lit (.int .i64 0))) (aA rfl) rfl rfl) ?_
     refine aF ?_
     exact bM ⟨rfl, _, [], [.box b1 0 (aQ t_0)], _, .two (.tmp 4 (v := cO aX r8.1) rfl) (.tmp 5 (v := .d (.lit (.int .i64 0))) rfl), .refl _, .same _, (r8.1, 0), h, rfl, rfl⟩

theorem rB (d_0 : bA) (m_1 : aB) (side_2 : Int) {r : Int} (h : jF d_0 m_1 side_2 = some r) : Fn Try.prog 74 [.cp (aX d_0), .agg (aK m_1), .d (.lit (.int .i64 side_2))] (.d (.lit (.int .i64 r))) := by
 unfold jF at h
 refine Fn.of_tr Try.func74 rfl (rs := [.tmp 6]) Try.results74 Try.ntmps74 (Nat.le_of_ble_eq_true rfl) ?_
 refine aE ?_
 refine aC ?_
 refine bV rfl (eH (v := .agg (aK m_1)) (aA rfl) rfl rfl rfl) ?_
 rintro _ ⟨b1, rfl⟩
 refine tr1 rfl (aJ (v := .d (.lit (.int .i64 0))) (aA rfl) rfl rfl) ?_
 refine aF ?_
 refine aE ?_
 refine aC ?_
 refine tr1 rfl (aV (aA rfl) rfl aDu) ?_
 refine tr1 rfl (aW (aA rfl) rfl (i := 0) rfl rfl bJ) ?_
 refine tr1 rfl (bO (aA rfl) rfl rfl rfl) ?_
 refine tr1 rfl (aD (v := .d (.lit (.int .i64 side_2))) (aA rfl) rfl rfl) ?_
 refine tr1 rfl (bO (aA rfl) rfl rfl rfl) ?_
 refine tr1 rfl (aJ (v := .d (.lit (.int .i64 ((w64 ((w64 (2 * m_1.place)) + side_2)))))) (aA rfl) rfl rfl) ?_
 refine aF ?_
 refine aE ?_
 refine aE ?_
 refine aC ?_
 refine tr1 rfl (aV (aA rfl) rfl nL) ?_
 refine tr1 rfl (aW (aA rfl) rfl (i := 0) rfl rfl bJ) ?_
 refine tr1 rfl (bI (aA rfl) rfl rfl rfl) ?_
 refine aF ?_
 refine bT rfl (fun c2 => ?_) (fun c2 => ?_)
 ·have h := aZ c2 h
  refine aE ?_
  refine aC ?_
  refine tr1 rfl (aD (v := .cp [.lit (.int .i64 d_0.Tree.Rounds), .sl 1 (d_0.Tree.Slots.map aN), .sl 1 (d_0.players.map aN), .mp false (d_0.won.map fun p : aB × Int => ((fun a : aB => Value.agg ((aK a).map bK).toArray) p.1, aN p.2))]) (aA rfl) rfl rfl) ?_
  refine tr1 rfl (iC (aA rfl) rfl) ?_
  refine tr1 rfl (cY (aA rfl) rfl kP (es := [.sl 1 (d_0.players.map aN)]) rfl) ?_
  refine tr1 rfl (bP (aA rfl) rfl cU) ?_
  refine tr1 rfl (aD (v := .d (.lit (.int .i64 ((w64 ((w64 (2 * m_1.place)) + side_2)))))) (aA rfl) rfl rfl) ?_
  obtain ⟨x3, h4, h⟩ := bind_some h
  refine tr1 rfl (bQ (aA rfl) rfl rfl bS.of (bU aN h4)) ?_
  refine tr1 rfl (bP (aA rfl) rfl bJ) ?_
  refine tr1 rfl (aJ (v := .d (.lit (.int .i64 x3))) (aA rfl) rfl rfl) ?_
  refine aF ?_
  have h := Option.some.inj h
  subst h
  refine cL (cG (cK (l := [6]) ⟨rfl, trivial⟩)) ?_
  exact bM ⟨rfl, _, .one _, rfl, rfl⟩
 ·have h := aY c2 h
  refine bR ?_
  refine aE ?_
  refine aE ?_
  refine dM mix 14 [] [(8, .d (.lit (.int .i64 ((cI (aB.mk (w64 (m_1.round - 1)) (w64 ((w64 (2 * m_1.place)) + side_2))) 0 d_0.won))))), (37, .d (.lit (.bool ((cT (aB.mk (w64 (m_1.round - 1)) (w64 ((w64 (2 * m_1.place)) + side_2))) d_0.won)))))] ?_ ?_
  ·refine ⟨[(26, 0, .cp [.lit (.int .i64 d_0.Tree.Rounds), .sl 1 (d_0.Tree.Slots.map aN), .sl 1 (d_0.players.map aN), .mp false (d_0.won.map fun p : aB × Int => ((fun a : aB => Value.agg ((aK a).map bK).toArray) p.1, aN p.2))]), (27, 1, .cp [.lit (.int .i64 d_0.Tree.Rounds), .sl 1 (d_0.Tree.Slots.map aN), .sl 1 (d_0.players.map aN), .mp false (d_0.won.map fun p : aB × Int => ((fun a : aB => Value.agg ((aK a).map bK).toArray) p.1, aN p.2))]), (28, 2, .cp [.mp false (d_0.won.map fun p : aB × Int => ((fun a : aB => Value.agg ((aK a).map bK).toArray) p.1, aN p.2))]), (29, 3, .d (.mp false (d_0.won.map fun p : aB × Int => ((fun a : aB => Value.agg ((aK a).map bK).toArray) p.1, aN p.2)))), (30, 4, .bp b1 0 0), (31, 5, .d (.lit (.int .i64 m_1.round))), (32, 6, .d (.lit (.int .i64 ((w64 (m_1.round - 1)))))), (33, 7, .d (.lit (.int .i64 ((w64 ((w64 (2 * m_1.place)) + side_2)))))), (34, 8, .agg (aK (aB.mk (w64 (m_1.round - 1)) (w64 ((w64 (2 * m_1.place)) + side_2))))), (35, 9, .tup [.d (.lit (.int .i64 ((cI (aB.mk (w64 (m_1.round - 1)) (w64 ((w64 (2 * m_1.place)) + side_2))) 0 d_0.won)))), .d (.lit (.bool ((cT (aB.mk (w64 (m_1.round - 1)) (w64 ((w64 (2 * m_1.place)) + side_2))) d_0.won))))]), (25, 10, .tup [.d (.lit (.int .i64 ((cI (aB.mk (w64 (m_1.round - 1)) (w64 ((w64 (2 * m_1.place)) + side_2))) 0 d_0.won)))), .d (.lit (.bool ((cT (aB.mk (w64 (m_1.round - 1)) (w64 ((w64 (2 * m_1.place)) + side_2))) d_0.won))))]), (36, 11, .d (.lit (.int .i64 ((cI (aB.mk (w64 (m_1.round - 1)) (w64 ((w64 (2 * m_1.place)) + side_2))) 0 d_0.won))))), (37, 12, .d (.lit (.bool ((cT (aB.mk (w64 (m_1.round - 1)) (w64 ((w64 (2 * m_1.place)) + side_2))) d_0.won))))), (8, 13, .d (.lit (.int .i64 ((cI (aB.mk (w64 (m_1.round - 1)) (w64 ((w64 (2 * m_1.place)) + side_2))) 0 d_0.won)))))], ?_, ?_⟩
   · exact ⟨by kernel_rfl, by kernel_rfl, by kernel_rfl, by kernel_rfl, by kernel_rfl, [([], []), ([0], []), ([1], []), ([2], []), ([], []), ([4], []), ([5], []), ([], []), ([6, 7], []), ([3, 8], []), ([9], []), ([10], []), ([10], []), ([11], [])], by kernel_rfl, ⟨fun S hS => aH rfl (aT rfl (aD (v := .cp [.lit (.int .i64 d_0.Tree.Rounds), .sl 1 (d_0.Tree.Slots.map aN), .sl 1 (d_0.players.map aN), .mp false (d_0.won.map fun p : aB × Int => ((fun a : aB => Value.agg ((aK a).map bK).toArray) p.1, aN p.2))]) (aA rfl) (aI hS rfl) rfl)),
      fun S hS => aH rfl (aT rfl (iC (aA rfl) (aI hS rfl))),
      fun S hS => aH rfl (aT rfl (cY (aA rfl) (aI hS rfl) pZ (es := [.mp false (d_0.won.map fun p : aB × Int => ((fun a : aB => Value.agg ((aK a).map bK).toArray) p.1, aN p.2))]) rfl)),
      fun S hS => aH rfl (aT rfl (bP (aA rfl) (aI hS rfl) tO)),
      fun S hS => aH rfl (aT rfl (aV (aA rfl) (aI hS rfl) nL)),
      fun S hS => aH rfl (aT rfl (aW (aA rfl) (aI hS rfl) (i := 0) rfl rfl bJ)),
      fun S hS => aH rfl (aT rfl (bO (aA rfl) (aI hS rfl) rfl rfl)),
      fun S hS => aH rfl (aT rfl (aD (v := .d (.lit (.int .i64 ((w64 ((w64 (2 * m_1.place)) + side_2)))))) (aA rfl) (aI hS rfl) rfl)),
      fun S hS => aH rfl (aT rfl (eE (aA rfl) uY (zs := [.lit (.int .i64 0), .lit (.int .i64 0)]) rfl rfl rfl (pa2 (aI hS rfl) (pa2 (aI hS rfl) pan)) (es := [.lit (.int .i64 ((w64 (m_1.round - 1)))), .lit (.int .i64 ((w64 ((w64 (2 * m_1.place)) + side_2))))]) rfl)),
      fun S hS => aH rfl (aT rfl (pQ (enc := aN) (agg := false) (l := d_0.won) (z := 0) (a := (aB.mk (w64 (m_1.round - 1)) (w64 ((w64 (2 * m_1.place)) + side_2)))) (aA rfl) sF Try.underlying73 Try.zeroValue3 (fun _ _ => .d (.lit _ rfl)) (aI hS rfl) rfl rfl (aI hS rfl) (kE (enc := aK) (aB.mk (w64 (m_1.round - 1)) (w64 ((w64 (2 * m_1.place)) + side_2))) rfl))),
      fun S hS => aH rfl (aT rfl (aD (v := .tup [.d (.lit (.int .i64 ((cI (aB.mk (w64 (m_1.round - 1)) (w64 ((w64 (2 * m_1.place)) + side_2))) 0 d_0.won)))), .d (.lit (.bool ((cT (aB.mk (w64 (m_1.round - 1)) (w64 ((w64 (2 * m_1.place)) + side_2))) d_0.won))))]) (aA rfl) (aI hS rfl) rfl)),
      fun S hS => aH rfl (aT rfl (bL (aA rfl) (aI hS rfl) rfl)),
      fun S hS => aH rfl (aT rfl (bL (aA rfl) (aI hS rfl) rfl)),
      fun S hS => aH rfl (aT rfl (aJ (v := .d (.lit (.int .i64 ((cI (aB.mk (w64 (m_1.round - 1)) (w64 ((w64 (2 * m_1.place)) + side_2))) 0 d_0.won))))) (aA rfl) (aI hS rfl) rfl)), trivial⟩⟩
   · exact cZ (aU rfl (aU rfl (bB trivial)))
  ·refine tr1 rfl (aJ (v := .d (.lit (.bool ((cT (aB.mk (w64 (m_1.round - 1)) (w64 ((w64 (2 * m_1.place)) + side_2))) d_0.won))))) (aA rfl) rfl rfl) ?_
   refine aF ?_
   refine aE ?_
   refine aC ?_
   refine tr1 rfl (aD (v := .d (.lit (.bool ((cT (aB.mk (w64 (m_1.round - 1)) (w64 ((w64 (2 * m_1.place)) + side_2))) d_0.won))))) (aA rfl) rfl rfl) ?_
   refine aF ?_
   refine bT rfl (fun c5 => ?_) (fun c5 => ?_)
   ·have h := aZ c5 h
    refine aE ?_
    refine aC ?_
    refine tr1 rfl (aD (v := .d (.lit (.int .i64 ((cI (aB.mk (w64 (m_1.round - 1)) (w64 ((w64 (2 * m_1.place)) + side_2))) 0 d_0.won))))) (aA rfl) rfl rfl) ?_
    refine tr1 rfl (aJ (v := .d (.lit (.int .i64 ((cI (aB.mk (w64 (m_1.round - 1)) (w64 ((w64 (2 * m_1.place)) + side_2))) 0 d_0.won))))) (aA rfl) rfl rfl) ?_
    refine aF ?_
    have h := Option.some.inj h
    subst h
    refine cL (cG (cK (l := [6]) ⟨rfl, trivial⟩)) ?_
    exact bM ⟨rfl, _, .one _, rfl, rfl⟩
   ·have h := aY c5 h
    refine bR ?_
    refine aE ?_
    refine aC ?_
    refine tr1 rfl (aJ (v := .d (.lit (.int .i64 (-2)))) (aA rfl) rfl rfl) ?_
    refine aF ?_
    have h := Option.some.inj h
    subst h
    refine cL (cG (cK (l := [6]) ⟨rfl, trivial⟩)) ?_
    exact bM ⟨rfl, _, .one _, rfl, rfl⟩

theorem uH {S : Type} (J : S → MO → Prop) (ly : Nat) (yield_1 : S → aB → cE → Option S) (hy : ∀ (s : S) (m : MO) (x0 : aB) (x1 : cE) (s' : S), J s m → yield_1 s x0 x1 = some s' → wT Try.prog ly [.agg (aK x0), .agg (dL x1)] m (J s')) (d_0 : bA) (sy : S) (m0 : MO) (hj : J sy m0) {r : S} (h : jC d_0 yield_1 sy = some r) : eZ Try.prog 56 [.cp (aX d_0), .d (.lit (yv ly))] [m0] (fun _ o' => ∃ m', J r m' ∧ o' = [m']) := by
 unfold jC at h
 refine aFa Try.func56 rfl (rs := []) Try.results56 Try.ntmps56 (Nat.le_of_ble_eq_true rfl) ?_
 refine aE ?_
 refine aC ?_
 refine tr1 rfl (aD (v := .cp [.lit (.int .i64 d_0.Tree.Rounds), .sl 1 (d_0.Tree.Slots.map aN), .sl 1 (d_0.players.map aN), .mp false (d_0.won.map fun p : aB × Int => ((fun a : aB => Value.agg ((aK a).map bK).toArray) p.1, aN p.2))]) (aA rfl) rfl rfl) ?_
 refine tr1 rfl (iC (aA rfl) rfl) ?_
 refine tr1 rfl (cY (aA rfl) rfl nM (es := [.lit (.int .i64 d_0.Tree.Rounds), .sl 1 (d_0.Tree.Slots.map aN)]) rfl) ?_
 refine tr1 rfl (cY (aA rfl) rfl fA (es := [.lit (.int .i64 d_0.Tree.Rounds)]) rfl) ?_
 refine tr1 rfl (bP (aA rfl) rfl bJ) ?_
 refine tr1 rfl (aD (v := .d (.lit (.int .i64 0))) (aA rfl) rfl rfl) ?_
 refine aF ?_
 refine cD ?_
 refine dI [0, 1, 11] (fun (s1 : Int × ({x : S × MO // J x.1 x.2})) => [(12, .d (.lit (.int .i64 s1.1)))]) (fun (s1 : Int × ({x : S × MO // J x.1 x.2})) => [s1.2.1.2]) (fun (k : Nat) (s1 : Int × ({x : S × MO // J x.1 x.2})) => dC yield_1 d_0 d_0.Tree.Rounds k s1.1 s1.2.1.1) (fun _ => rfl) (0, ⟨(sy, m0), hj⟩) h (bF [0] rfl rfl (aU rfl (bB ⟨rfl, rfl, rfl, trivial⟩))) ?_
 rintro k3 ⟨t12_0_1, y2⟩ h
 simp only [dC] at h
 refine aE ?_
 refine aC ?_
 refine tr1 rfl (bI (aA rfl) rfl rfl rfl) ?_
 refine aF ?_
 refine aE ?_
 refine bT rfl (fun c4 => ?_) (fun c4 => ?_)
 ·have h := aZ c4 h
  refine bR ?_
  refine aE ?_
  refine cD ?_
  refine aE ?_
  refine aC ?_
  refine tr1 rfl (aD (v := .d (.lit (.int .i64 t12_0_1))) (aA rfl) rfl rfl) ?_
  refine tr1 rfl (aJ (v := .d (.lit (.int .i64 t12_0_1))) (aA rfl) rfl rfl) ?_
  refine aF ?_
  refine aE ?_
  refine aC ?_
  refine tr1 rfl (aD (v := .cp [.lit (.int .i64 d_0.Tree.Rounds), .sl 1 (d_0.Tree.Slots.map aN), .sl 1 (d_0.players.map aN), .mp false (d_0.won.map fun p : aB × Int => ((fun a : aB => Value.agg ((aK a).map bK).toArray) p.1, aN p.2))]) (aA rfl) rfl rfl) ?_
  refine tr1 rfl (iC (aA rfl) rfl) ?_
  refine tr1 rfl (cY (aA rfl) rfl nM (es := [.lit (.int .i64 d_0.Tree.Rounds), .sl 1 (d_0.Tree.Slots.map aN)]) rfl) ?_
  refine tr1 rfl (cY (aA rfl) rfl dU (es := [.sl 1 (d_0.Tree.Slots.map aN)]) rfl) ?_
  refine tr1 rfl (bP (aA rfl) rfl cU) ?_
  refine tr1 rfl (eB (aA rfl) rfl bS.of) ?_
  refine tr1 rfl (aD (v := .d (.lit (.int .i64 t12_0_1))) (aA rfl) rfl rfl) ?_
  refine tr1 rfl (bO (aA rfl) rfl rfl rfl) ?_
  obtain ⟨u5, h6, h⟩ := bind_some h
  refine tr1 rfl (pR (aA rfl) rfl rfl (nN h6)) ?_
  refine tr1 rfl (aD (v := .d (.lit (.int .i64 0))) (aA rfl) rfl rfl) ?_
  refine aF ?_
  refine uZ ?_
  refine dI [0, 1, 4, 11, 12, 23] (fun (s7 : Int × ({x : S × MO // J x.1 x.2})) => [(24, .d (.lit (.int .i64 s7.1)))]) (fun (s7 : Int × ({x : S × MO // J x.1 x.2})) => [s7.2.1.2]) (fun (k : Nat) (s7 : Int × ({x : S × MO // J x.1 x.2})) => eG yield_1 (dC yield_1 d_0 d_0.Tree.Rounds k3) d_0 t12_0_1 d_0.Tree.Rounds t12_0_1 ((d_0.Tree.Slots.length : Int).fdiv (2 ^ (min (w64 (t12_0_1 + 1)).toNat 64))) k s7.1 s7.2.1.1) (fun _ => rfl) (0, ⟨(y2.1.1, y2.1.2), y2.2⟩) h (bF [0] rfl rfl (aU rfl (bB ⟨rfl, rfl, rfl, rfl, rfl, rfl, trivial⟩))) ?_
  rintro k9 ⟨t24_2_7, y8⟩ h
  simp only [eG] at h
  refine aE ?_
  refine aC ?_
  refine tr1 rfl (bI (aA rfl) rfl rfl rfl) ?_
  refine aF ?_
  refine aE ?_
  refine bT rfl (fun c10 => ?_) (fun c10 => ?_)
  ·have h := aZ c10 h
   refine bR ?_
   refine aE ?_
   refine cD ?_
   refine aE ?_
   refine aC ?_
   refine tr1 rfl (aD (v := .d (.lit (.int .i64 t24_2_7))) (aA rfl) rfl rfl) ?_
   refine tr1 rfl (aJ (v := .d (.lit (.int .i64 t24_2_7))) (aA rfl) rfl rfl) ?_
   refine aF ?_
   refine aE ?_
   refine aC ?_
   refine tr1 rfl (aD (v := .d (.lit (.int .i64 t12_0_1))) (aA rfl) rfl rfl) ?_
   refine tr1 rfl (aD (v := .d (.lit (.int .i64 t24_2_7))) (aA rfl) rfl rfl) ?_
   refine tr1 rfl (eE (aA rfl) uY (zs := [.lit (.int .i64 0), .lit (.int .i64 0)]) rfl rfl rfl rfl (es := [.lit (.int .i64 t12_0_1), .lit (.int .i64 t24_2_7)]) rfl) ?_
   refine bV rfl (dJ (zs := [.lit (.int .i64 0), .lit (.int .i64 0)]) (aA rfl) Try.zeroValue70 rfl rfl) ?_
   rintro _ ⟨b11, rfl⟩
   refine tr1 rfl (cB (i := 1) rfl rfl rfl rfl rfl Try.sizeOf70 rfl (aA rfl) (Nat.le_of_ble_eq_true rfl) (ds' := (aK (aB.mk t12_0_1 t24_2_7))) rfl) ?_
   refine aF ?_
   refine aE ?_
   obtain ⟨r12, h13, h⟩ := bind_some h
   obtain ⟨r14, h15, h⟩ := bind_some h
   refine dM mix 11 [0, 1, 4, 11, 12, 23, 24] [(30, .d (.lit (yv ly))), (31, .agg (aK (aB.mk t12_0_1 t24_2_7))), (40, .agg (dL (cE.mk t12_0_1 t24_2_7 r12 r14)))] ?_ ?_
   ·refine ⟨[(30, 0, .d (.lit (yv ly))), (31, 1, .agg (aK (aB.mk t12_0_1 t24_2_7))), (32, 2, .d (.lit (.int .i64 t12_0_1))), (33, 3, .d (.lit (.int .i64 t24_2_7))), (34, 4, .cp [.lit (.int .i64 d_0.Tree.Rounds), .sl 1 (d_0.Tree.Slots.map aN), .sl 1 (d_0.players.map aN), .mp false (d_0.won.map fun p : aB × Int => ((fun a : aB => Value.agg ((aK a).map bK).toArray) p.1, aN p.2))]), (35, 5, .agg (aK (aB.mk t12_0_1 t24_2_7))), (36, 6, .d (.lit (.int .i64 r12))), (37, 7, .cp [.lit (.int .i64 d_0.Tree.Rounds), .sl 1 (d_0.Tree.Slots.map aN), .sl 1 (d_0.players.map aN), .mp false (d_0.won.map fun p : aB × Int => ((fun a : aB => Value.agg ((aK a).map bK).toArray) p.1, aN p.2))]), (38, 8, .agg (aK (aB.mk t12_0_1 t24_2_7))), (39, 9, .d (.lit (.int .i64 r14))), (40, 10, .agg (dL (cE.mk t12_0_1 t24_2_7 r12 r14)))], ?_, ?_⟩
    · exact ⟨by kernel_rfl, by kernel_rfl, by kernel_rfl, by kernel_rfl, by kernel_rfl, [([], []), ([], []), ([], []), ([], []), ([], []), ([], []), ([4, 5], []), ([], []), ([], []), ([7, 8], []), ([2, 3, 6, 9], [])], by kernel_rfl, ⟨fun S hS => aH rfl (aT rfl (aD (v := .d (.lit (yv ly))) (aA rfl) (aI hS rfl) rfl)),
      fun S hS => aH rfl (aT rfl (bH (aA rfl) (aI hS rfl) (i := 1) rfl iZ (es := (aK (aB.mk t12_0_1 t24_2_7))) rfl rfl)),
      fun S hS => aH rfl (aT rfl (aD (v := .d (.lit (.int .i64 t12_0_1))) (aA rfl) (aI hS rfl) rfl)),
      fun S hS => aH rfl (aT rfl (aD (v := .d (.lit (.int .i64 t24_2_7))) (aA rfl) (aI hS rfl) rfl)),
      fun S hS => aH rfl (aT rfl (aD (v := .cp [.lit (.int .i64 d_0.Tree.Rounds), .sl 1 (d_0.Tree.Slots.map aN), .sl 1 (d_0.players.map aN), .mp false (d_0.won.map fun p : aB × Int => ((fun a : aB => Value.agg ((aK a).map bK).toArray) p.1, aN p.2))]) (aA rfl) (aI hS rfl) rfl)),
      fun S hS => aH rfl (aT rfl (bH (aA rfl) (aI hS rfl) (i := 1) rfl iZ (es := (aK (aB.mk t12_0_1 t24_2_7))) rfl rfl)),
      fun S hS => aH rfl (aT rfl (cH (aA rfl) (.func _ _ Try.call74) (ev2 (aI hS rfl) (ev2 (aI hS rfl) (ev2 rfl evn))) rfl (BVs.refl _ _) (rB _ _ _ h13) rfl)),
      fun S hS => aH rfl (aT rfl (aD (v := .cp [.lit (.int .i64 d_0.Tree.Rounds), .sl 1 (d_0.Tree.Slots.map aN), .sl 1 (d_0.players.map aN), .mp false (d_0.won.map fun p : aB × Int => ((fun a : aB => Value.agg ((aK a).map bK).toArray) p.1, aN p.2))]) (aA rfl) (aI hS rfl) rfl)),
      fun S hS => aH rfl (aT rfl (bH (aA rfl) (aI hS rfl) (i := 1) rfl iZ (es := (aK (aB.mk t12_0_1 t24_2_7))) rfl rfl)),
      fun S hS => aH rfl (aT rfl (cH (aA rfl) (.func _ _ Try.call74) (ev2 (aI hS rfl) (ev2 (aI hS rfl) (ev2 rfl evn))) rfl (BVs.refl _ _) (rB _ _ _ h15) rfl)),
      fun S hS => aH rfl (aT rfl (eE (aA rfl) aEp (zs := [.lit (.int .i64 0), .lit (.int .i64 0), .lit (.int .i64 0), .lit (.int .i64 0)]) rfl rfl rfl (pa2 (aI hS rfl) (pa2 (aI hS rfl) (pa2 (aI hS rfl) (pa2 (aI hS rfl) pan)))) (es := [.lit (.int .i64 t12_0_1), .lit (.int .i64 t24_2_7), .lit (.int .i64 r12), .lit (.int .i64 r14)]) rfl)), trivial⟩⟩
    · exact cZ (aU rfl (aU rfl (aU rfl (bB ⟨rfl, rfl, rfl, rfl, rfl, rfl, rfl, trivial⟩))))
   ·obtain ⟨y16, h17, h⟩ := bind_some h
    refine aJg rfl (aLo (aA rfl) rfl rfl rfl rfl (hy _ _ _ _ _ y8.2 h17)) ?_
    rintro _ ⟨m18, hj19, rfl⟩
    refine tr1 rfl (fU (aA rfl) rfl) ?_
    refine aF ?_
    refine bT rfl (fun c20 => ?_) (fun c20 => ?_)
    ·exact absurd c20 (by decide)
    ·refine eF ?_
     refine aC ?_
     refine tr1 rfl (bO (aA rfl) rfl rfl rfl) ?_
     refine tr1 rfl (aD (v := .d (.lit (.int .i64 ((w64 (t24_2_7 + 1)))))) (aA rfl) rfl rfl) ?_
     refine aF ?_
     exact ⟨(w64 (t24_2_7 + 1), ⟨(y16, m18), hj19⟩), h, bF [0] rfl rfl (aU rfl (bB ⟨rfl, rfl, rfl, rfl, rfl, rfl, trivial⟩))⟩
  ·have h := aY c10 h
   refine cX ?_
   refine .inl ⟨rfl, ?_⟩
   simp only [iD] at h
   simp only [lR] at h
   refine aC ?_
   refine tr1 rfl (bO (aA rfl) rfl rfl rfl) ?_
   refine tr1 rfl (aD (v := .d (.lit (.int .i64 ((w64 (t12_0_1 + 1)))))) (aA rfl) rfl rfl) ?_
   refine aF ?_
   exact ⟨(w64 (t12_0_1 + 1), ⟨(y8.1.1, y8.1.2), y8.2⟩), h, bF [0] rfl rfl (aU rfl (bB ⟨rfl, rfl, rfl, trivial⟩))⟩
 ·have h := aY c4 h
  refine cX ?_
  refine .inl ⟨rfl, ?_⟩
  simp only [lQ] at h
  have h := Option.some.inj h
  subst h
  exact ⟨_, [y2.1.2], [], _, .none, .refl _, .same _, y2.1.2, y2.2, rfl⟩

theorem aAe (t_0 : aO) (l_1 : List aG) {Q : ((List cE) × Int) → Prop} (h : nR t_0 l_1 Q) : eZ Try.prog 30 [.agg (aQ t_0), .d (.sl 5 (l_1.map aL))] [] (fun r' o' => ∃ (r : (List cE) × Int), Q r ∧ r' = .tup [.d (.sl 4 (r.1.map dL)), .d (.lit (.int .i64 r.2))] ∧ o' = []) := by
 unfold nR at h
 refine gA Try.func30 rfl (rs := [.tmp 4, .tmp 5]) Try.results30 Try.ntmps30 (Nat.le_of_ble_eq_true rfl) ?_
 refine aE ?_
 refine aC ?_
 refine bV rfl (eH (v := .agg (aQ t_0)) (aA rfl) rfl rfl rfl) ?_
 rintro _ ⟨b1, rfl⟩
 refine tr1 rfl (qW 4 (aA rfl)) ?_
 refine tr1 rfl (aJ (v := .d (.lit (.int .i64 0))) (aA rfl) rfl rfl) ?_
 refine aF ?_
 refine aE ?_
 refine aC ?_
 refine tr1 rfl (bH (aA rfl) rfl (i := 0) rfl cV (es := (aQ t_0)) rfl rfl) ?_
 refine tr1 rfl (aD (v := .d (.sl 5 (l_1.map aL))) (aA rfl) rfl rfl) ?_
 refine bV rfl (mV (aA rfl) (.func _ _ Try.call48) rfl rfl (pA _ _ h)) ?_
 rintro _ ⟨_, _, ⟨r2, h, rfl, rfl⟩, rfl⟩
 refine tr1 rfl (aD (v := .tup [cO aX r2.1, .d (.lit (.int .i64 r2.2))]) (aA rfl) rfl rfl) ?_
 refine tr1 rfl (bL (aA rfl) rfl rfl) ?_
 refine tr1 rfl (bL (aA rfl) rfl rfl) ?_
 refine tr1 rfl (aJ (v := cO aX r2.1) (aA rfl) rfl rfl) ?_
 refine tr1 rfl (aJ (v := .d (.lit (.int .i64 r2.2))) (aA rfl) rfl rfl) ?_
 refine aF ?_
 refine aE ?_
 refine aE ?_
 refine aC ?_
 refine tr1 rfl (aD (v := .d (.lit (.int .i64 r2.2))) (aA rfl) rfl rfl) ?_
 refine tr1 rfl (bI (aA rfl) rfl rfl rfl) ?_
 refine aF ?_
 refine bT rfl (fun c3 => ?_) (fun c3 => ?_)
 ·have h := dR c3 h
  refine aE ?_
  refine aC ?_
  refine tr1 rfl (aD (v := .d (.lit (.int .i64 r2.2))) (aA rfl) rfl rfl) ?_
  refine tr1 rfl (qW 4 (aA rfl)) ?_
  refine tr1 rfl (aJ (v := .d (.lit (.int .i64 r2.2))) (aA rfl) rfl rfl) ?_
  refine aF ?_
  exact bM ⟨rfl, _, [], [.box b1 0 (aQ t_0)], _, .two (.tmp 4 (v := .d (.sl 4 ((([] : List cE)).map dL))) rfl) (.tmp 5 (v := .d (.lit (.int .i64 r2.2))) rfl), .refl _, .same _, (([] : List cE), r2.2), h, rfl, rfl⟩
 ·have h := dQ c3 h
  refine bR ?_
  refine aE ?_
  refine aC ?_
  refine bV rfl (dJ (zs := [.lit (.slice none 0 0)]) (aA rfl) Try.zeroValue48 rfl rfl) ?_
  rintro _ ⟨b4, rfl⟩
  refine kN (aAk 57 4) ?_
  refine aF ?_
  refine aE ?_
  refine aE ?_
  refine aC ?_
  refine tr1 rfl (aD (v := cO aX r2.1) (aA rfl) rfl rfl) ?_
  obtain ⟨x5, h6, h⟩ := cS h
  refine kN (yF (enc := aX) (k := 20) rfl h6) ?_
  refine tr1 rfl (aMi (aA rfl) rfl rfl) ?_
  refine aF ?_
  refine cD ?_
  obtain ⟨s7, h8, h⟩ := cS h
  refine vA ?_ aMf
  refine aKv (S := (List cE) × Value) (S0 := (List cE)) (f := 56) (ps := [22, 23]) (fun z11 => z11.1) (fun z11 => [.box b1 0 (aQ t_0), .box b4 0 [.lit z11.2], .arr z11.2 57 4 (z11.1.map dL)]) (aMr (fun x12 : aB => .agg (aK x12)) (fun x13 : cE => .agg (dL x13)) _) (([] : List cE), (.slice none 0 0)) ([] : List cE) s7 (bF [0, 1, 2] rfl rfl (le_refl _)) rfl Try.call56 rfl (by decide) rfl rfl (fun l J hy m0 h0 => uH (S := (List cE)) J l _ (fun _ _ _ _ _ hJ hq => hy _ _ _ _ hJ ⟨_, _, rfl, hq⟩) x5 _ m0 h0 h8) ?_ ?_
  ·rintro ⟨e9, w10⟩ _ _ ⟨x12, x13, rfl, h⟩
   refine ⟨rfl, ?_⟩
   refine aC ?_
   refine bV rfl (dJ (zs := [.lit (.int .i64 0), .lit (.int .i64 0), .lit (.int .i64 0), .lit (.int .i64 0)]) (aA rfl) Try.zeroValue57 rfl rfl) ?_
   rintro _ ⟨b14, rfl⟩
   refine tr1 rfl (cB (i := 3) rfl rfl rfl rfl rfl Try.sizeOf57 rfl (aA rfl) (Nat.le_of_ble_eq_true rfl) (ds' := (dL x13)) rfl) ?_
   refine aF ?_
   refine cD ?_
   refine aC ?_
   refine tr1 rfl (aW (aA rfl) rfl (i := 1) rfl rfl aIs) ?_
   refine tr1 rfl (bH (aA rfl) rfl (i := 3) rfl aDf (es := (dL x13)) rfl rfl) ?_
   refine tr1 rfl (fQ (aA rfl) aBe rfl rfl (rows := ([x13]).map dL) rfl (dG (f := dL) fun _ => rfl) rfl (by decide)) ?_
   obtain ⟨x15, h16, h⟩ := bind_some h
   refine bV rfl (fZ (i := 2) (aA rfl) aBe rfl rfl rfl (fun _ => rfl) h16 rfl) ?_
   rintro _ ⟨v17, rfl⟩
   refine tr1 rfl (cB (i := 1) rfl rfl rfl rfl rfl Try.sizeOf48 rfl (aA rfl) (Nat.le_of_ble_eq_true rfl) (ds' := [.lit v17]) rfl) ?_
   refine eV ?_
   have h := Option.some.inj h
   subst h
   exact ⟨(x15, v17), rfl, bF [0, 1, 2] rfl rfl aMe⟩
  ·rintro ⟨e9, w10⟩ h18
   subst h18
   refine aE ?_
   refine aC ?_
   refine tr1 rfl (aW (aA rfl) rfl (i := 1) rfl rfl aIs) ?_
   refine tr1 rfl (aJ (v := .d (.lit w10)) (aA rfl) rfl rfl) ?_
   refine tr1 rfl (aJ (v := .d (.lit (.int .i64 0))) (aA rfl) rfl rfl) ?_
   refine aF ?_
   exact bM ⟨rfl, _, [], [.box b1 0 (aQ t_0), .box b4 0 [.lit w10], .arr w10 57 4 (e9.map dL)], _, .two (.tmp 4 (v := .d (.lit w10)) rfl) (.tmp 5 (v := .d (.lit (.int .i64 0))) rfl), .refl _, tD (.cons (.d (mA 2 rfl (dG (f := dL) fun _ => rfl))) (.cons (.same _) .nil)), (e9, 0), h, rfl, rfl⟩

theorem wY (t_0 : aO) (l_1 : List aG) (round_2 : Int) (place_3 : Int) {Q : ((Option bA) × aB × Int) → Prop} (h : lW t_0 l_1 round_2 place_3 Q) : eZ Try.prog 44 [.agg (aQ t_0), .d (.sl 5 (l_1.map aL)), .d (.lit (.int .i64 round_2)), .d (.lit (.int .i64 place_3))] [] (fun r' o' => ∃ (r : (Option bA) × aB × Int), Q r ∧ r' = .tup [cO aX r.1, .agg (aK r.2.1), .d (.lit (.int .i64 r.2.2))] ∧ o' = []) := by
 unfold lW at h
 refine gA Try.func44 rfl (rs := [.tmp 8, .cell 9 70, .tmp 10]) Try.results44 Try.ntmps44 (Nat.le_of_ble_eq_true rfl) ?_
 refine aE ?_
 refine aC ?_
 refine bV rfl (eH (v := .agg (aQ t_0)) (aA rfl) rfl rfl rfl) ?_
 rintro _ ⟨b1, rfl⟩
 refine tr1 rfl (aJ (v := cO aX (none : Option bA)) (aA rfl) rfl rfl) ?_
 refine bV rfl (dJ (zs := [.lit (.int .i64 0), .lit (.int .i64 0)]) (aA rfl) Try.zeroValue70 rfl rfl) ?_
 rintro _ ⟨b2, rfl⟩
 refine tr1 rfl (aJ (v := .d (.lit (.int .i64 0))) (aA rfl) rfl rfl) ?_
 refine aF ?_
 refine aE ?_
 refine aC ?_
 refine tr1 rfl (bH (aA rfl) rfl (i := 0) rfl cV (es := (aQ t_0)) rfl rfl) ?_
 refine tr1 rfl (aD (v := .d (.sl 5 (l_1.map aL))) (aA rfl) rfl rfl) ?_
 refine bV rfl (mV (aA rfl) (.func _ _ Try.call48) rfl rfl (pA _ _ h)) ?_
 rintro _ ⟨_, _, ⟨r3, h, rfl, rfl⟩, rfl⟩
 refine tr1 rfl (aD (v := .tup [cO aX r3.1, .d (.lit (.int .i64 r3.2))]) (aA rfl) rfl rfl) ?_
 refine tr1 rfl (bL (aA rfl) rfl rfl) ?_
 refine tr1 rfl (bL (aA rfl) rfl rfl) ?_
 refine tr1 rfl (aJ (v := cO aX r3.1) (aA rfl) rfl rfl) ?_
 refine tr1 rfl (aJ (v := .d (.lit (.int .i64 r3.2))) (aA rfl) rfl rfl) ?_
 refine aF ?_
 refine aE ?_
 refine aC ?_
 refine tr1 rfl (aD (v := .d (.lit (.int .i64 round_2))) (aA rfl) rfl rfl) ?_
 refine tr1 rfl (aD (v := .d (.lit (.int .i64 place_3))) (aA rfl) rfl rfl) ?_
 refine tr1 rfl (eE (aA rfl) uY (zs := [.lit (.int .i64 0), .lit (.int .i64 0)]) rfl rfl rfl rfl (es := [.lit (.int .i64 round_2), .lit (.int .i64 place_3)]) rfl) ?_
 refine bV rfl (dJ (zs := [.lit (.int .i64 0), .lit (.int .i64 0)]) (aA rfl) Try.zeroValue70 rfl rfl) ?_
 rintro _ ⟨b4, rfl⟩
 refine tr1 rfl (cB (i := 2) rfl rfl rfl rfl rfl Try.sizeOf70 rfl (aA rfl) (Nat.le_of_ble_eq_true rfl) (ds' := (aK (aB.mk round_2 place_3))) rfl) ?_
 refine aF ?_
 refine aE ?_
 refine aE ?_
 refine aC ?_
 refine tr1 rfl (aD (v := .d (.lit (.int .i64 r3.2))) (aA rfl) rfl rfl) ?_
 refine tr1 rfl (bI (aA rfl) rfl rfl rfl) ?_
 refine tr1 rfl (aD (v := .d (.lit (.bool ((decide (r3.2 = 0)))))) (aA rfl) rfl rfl) ?_
 obtain ⟨b5, h6, h⟩ := cS h
 refine cF 5 [9, 11, 12, 13] 30 b5 ?_ ?_
 ·refine bN (decide (r3.2 = 0)) (fun c10 => ?_) (fun c10 => ?_)
  ·have h6 := aZ c10 h6
   refine aM rfl rfl (aA rfl) rfl c10 (bH (aA rfl) rfl (i := 2) rfl iZ (es := (aK (aB.mk round_2 place_3))) rfl rfl) ?_
   refine aM rfl rfl (aA rfl) rfl c10 (bH (aA rfl) rfl (i := 0) rfl cV (es := (aQ t_0)) rfl rfl) ?_
   obtain ⟨r11, h12, h6⟩ := bind_some h6
   refine aM rfl rfl (aA rfl) rfl c10 (cH (aA rfl) (.func _ _ Try.call64) rfl rfl (BVs.refl _ _) (rZ _ _ h12) rfl) ?_
   refine aM rfl rfl (aA rfl) rfl c10 (fU (aA rfl) rfl) ?_
   refine tr1 rfl (bW (v := .d (.lit (.bool (!r11)))) (aA rfl) rfl c10 rfl rfl) ?_
   have h6 := Option.some.inj h6
   subst h6
   refine aF (bE rfl ⟨rfl, rfl, rfl, rfl, trivial⟩ rfl)
  ·have h6 := aY c10 h6
   refine aP rfl rfl (aA rfl) rfl (aA rfl) rfl c10 ?_
   refine aP rfl rfl (aA rfl) rfl (aA rfl) rfl c10 ?_
   refine aP rfl rfl (aA rfl) rfl (aA rfl) rfl c10 ?_
   refine aP rfl rfl (aA rfl) rfl (aA rfl) rfl c10 ?_
   refine tr1 rfl (bX (v := .d (.lit (.bool false))) (aA rfl) rfl c10 rfl rfl) ?_
   have h6 := Option.some.inj h6
   subst h6
   refine aF (bE rfl ⟨rfl, rfl, rfl, rfl, trivial⟩ rfl)
 ·refine aF ?_
  refine bT rfl (fun c7 => ?_) (fun c7 => ?_)
  ·have h := dR c7 h
   refine aC ?_
   refine tr1 rfl (aJ (v := .d (.lit (.int .i64 1))) (aA rfl) rfl rfl) ?_
   refine aF ?_
   refine aE ?_
   refine qK mix 5 [9] (fun X8 => [(8, cO aX r3.1), (33, .d (.lit (.int .i64 1)))]) (fun X8 => [.box b1 0 (aQ t_0), .box b2 0 (aK (aB.mk round_2 place_3)), .box b4 0 (aK (aB.mk round_2 place_3))]) ?_ ?_
   ·refine ⟨0, fun X8 => [(31, 0, cO aX r3.1), (32, 1, .agg (aK (aB.mk round_2 place_3))), (33, 2, .d (.lit (.int .i64 1))), (8, 3, cO aX r3.1)], fun X8 => [([], .box b1 0 (aQ t_0)), ([(4, .box b2 0 (aK (aB.mk round_2 place_3)))], .box b2 0 (aK (aB.mk 0 0))), ([], .box b4 0 (aK (aB.mk round_2 place_3)))], ?_, ?_⟩
    · exact ⟨by kernel_rfl, by kernel_rfl, by kernel_rfl, fun _ => by kernel_rfl, fun _ => by kernel_rfl, fun _ => by kernel_rfl, fun _ => rfl, [([], [4]), ([], [4]), ([], []), ([0], [4]), ([1], [])], by kernel_rfl, ⟨fun X8 S hw hi hS => dW (X := X8) rfl (hw X8) rfl (aT rfl (aD (v := cO aX r3.1) (aA rfl) (aI hS rfl) rfl)),
      fun X8 S hw hi hS => dW (X := X8) rfl (hw X8) rfl (aT rfl (bH (aA rfl) (aI hS rfl) (i := 2) (og hS rfl rfl) iZ (es := (aK (aB.mk round_2 place_3))) rfl rfl)),
      fun X8 S hw hi hS => dW (X := X8) rfl (hw X8) rfl (aT rfl (aD (v := .d (.lit (.int .i64 1))) (aA rfl) (aI hS rfl) rfl)),
      fun X8 S hw hi hS => dW (X := X8) rfl (hw X8) rfl (aT rfl (aJ (v := cO aX r3.1) (aA rfl) (aI hS rfl) rfl)),
      fun X8 S hw hi hS => aBv (X := X8) hS rfl rfl rfl (p := 1) rfl rfl (aT rfl (cB (i := 1) (aI hS rfl) (og hS rfl rfl) (aI hS rfl) rfl rfl Try.sizeOf70 rfl (aA rfl) (Nat.le_of_ble_eq_true rfl) (ds' := (aK (aB.mk round_2 place_3))) rfl)), trivial⟩⟩
    · exact fun X8 => cZ (aU rfl (aU rfl (bB ⟨rfl, trivial⟩)))
   ·intro X8
    refine tr1 rfl (aJ (v := .d (.lit (.int .i64 1))) (aA rfl) rfl rfl) ?_
    refine aF ?_
    exact bM ⟨rfl, _, [], [.box b1 0 (aQ t_0), .box b2 0 (aK (aB.mk round_2 place_3)), .box b4 0 (aK (aB.mk round_2 place_3))], _, .three (.tmp 8 (v := cO aX r3.1) rfl) (.cell 9 70 rfl (i := 1) rfl iZ (es := (aK (aB.mk round_2 place_3))) rfl rfl) (.tmp 10 (v := .d (.lit (.int .i64 1))) rfl), .refl _, .same _, (r3.1, (aB.mk round_2 place_3), 1), h, rfl, rfl⟩
  ·have h := dQ c7 h
   refine bR ?_
   refine aE ?_
   refine qK mix 5 [9] (fun X9 => [(8, cO aX r3.1), (33, .d (.lit (.int .i64 r3.2)))]) (fun X9 => [.box b1 0 (aQ t_0), .box b2 0 (aK (aB.mk round_2 place_3)), .box b4 0 (aK (aB.mk round_2 place_3))]) ?_ ?_
   ·refine ⟨0, fun X9 => [(31, 0, cO aX r3.1), (32, 1, .agg (aK (aB.mk round_2 place_3))), (33, 2, .d (.lit (.int .i64 r3.2))), (8, 3, cO aX r3.1)], fun X9 => [([], .box b1 0 (aQ t_0)), ([(4, .box b2 0 (aK (aB.mk round_2 place_3)))], .box b2 0 (aK (aB.mk 0 0))), ([], .box b4 0 (aK (aB.mk round_2 place_3)))], ?_, ?_⟩
    · exact ⟨by kernel_rfl, by kernel_rfl, by kernel_rfl, fun _ => by kernel_rfl, fun _ => by kernel_rfl, fun _ => by kernel_rfl, fun _ => rfl, [([], [4]), ([], [4]), ([], []), ([0], [4]), ([1], [])], by kernel_rfl, ⟨fun X9 S hw hi hS => dW (X := X9) rfl (hw X9) rfl (aT rfl (aD (v := cO aX r3.1) (aA rfl) (aI hS rfl) rfl)),
      fun X9 S hw hi hS => dW (X := X9) rfl (hw X9) rfl (aT rfl (bH (aA rfl) (aI hS rfl) (i := 2) (og hS rfl rfl) iZ (es := (aK (aB.mk round_2 place_3))) rfl rfl)),
      fun X9 S hw hi hS => dW (X := X9) rfl (hw X9) rfl (aT rfl (aD (v := .d (.lit (.int .i64 r3.2))) (aA rfl) (aI hS rfl) rfl)),
      fun X9 S hw hi hS => dW (X := X9) rfl (hw X9) rfl (aT rfl (aJ (v := cO aX r3.1) (aA rfl) (aI hS rfl) rfl)),
      fun X9 S hw hi hS => aBv (X := X9) hS rfl rfl rfl (p := 1) rfl rfl (aT rfl (cB (i := 1) (aI hS rfl) (og hS rfl rfl) (aI hS rfl) rfl rfl Try.sizeOf70 rfl (aA rfl) (Nat.le_of_ble_eq_true rfl) (ds' := (aK (aB.mk round_2 place_3))) rfl)), trivial⟩⟩
    · exact fun X9 => cZ (aU rfl (aU rfl (bB ⟨rfl, trivial⟩)))
   ·intro X9
    refine tr1 rfl (aJ (v := .d (.lit (.int .i64 r3.2))) (aA rfl) rfl rfl) ?_
    refine aF ?_
    exact bM ⟨rfl, _, [], [.box b1 0 (aQ t_0), .box b2 0 (aK (aB.mk round_2 place_3)), .box b4 0 (aK (aB.mk round_2 place_3))], _, .three (.tmp 8 (v := cO aX r3.1) rfl) (.cell 9 70 rfl (i := 1) rfl iZ (es := (aK (aB.mk round_2 place_3))) rfl rfl) (.tmp 10 (v := .d (.lit (.int .i64 r3.2))) rfl), .refl _, .same _, (r3.1, (aB.mk round_2 place_3), r3.2), h, rfl, rfl⟩

theorem lX (d_0 : bA) (slot_1 : Int) {r : Int} (h : gY d_0 slot_1 = some r) : Fn Try.prog 46 [.cp (aX d_0), .d (.lit (.int .i64 slot_1))] (.d (.lit (.int .i64 r))) := by
 unfold gY at h
 refine Fn.of_tr Try.func46 rfl (rs := [.tmp 4]) Try.results46 Try.ntmps46 (Nat.le_of_ble_eq_true rfl) ?_
 refine aE ?_
 refine aC ?_
 refine tr1 rfl (aJ (v := .d (.lit (.int .i64 0))) (aA rfl) rfl rfl) ?_
 refine aF ?_
 refine aE ?_
 refine aE ?_
 refine aC ?_
 refine tr1 rfl (aD (v := .cp [.lit (.int .i64 d_0.Tree.Rounds), .sl 1 (d_0.Tree.Slots.map aN), .sl 1 (d_0.players.map aN), .mp false (d_0.won.map fun p : aB × Int => ((fun a : aB => Value.agg ((aK a).map bK).toArray) p.1, aN p.2))]) (aA rfl) rfl rfl) ?_
 refine tr1 rfl (iC (aA rfl) rfl) ?_
 refine tr1 rfl (cY (aA rfl) rfl nM (es := [.lit (.int .i64 d_0.Tree.Rounds), .sl 1 (d_0.Tree.Slots.map aN)]) rfl) ?_
 refine tr1 rfl (cY (aA rfl) rfl fA (es := [.lit (.int .i64 d_0.Tree.Rounds)]) rfl) ?_
 refine tr1 rfl (bP (aA rfl) rfl bJ) ?_
 refine tr1 rfl (aD (v := .d (.lit (.int .i64 0))) (aA rfl) rfl rfl) ?_
 refine aF ?_
 refine cD ?_
 refine dI [0, 1, 12] (fun (s1 : Int) => [(13, .d (.lit (.int .i64 s1)))]) (fun (s1 : Int) => []) (fun (k : Nat) (s1 : Int) => gL d_0 slot_1 d_0.Tree.Rounds k s1) (fun _ => rfl) (0) h (bF [] rfl rfl (aU rfl (bB ⟨rfl, rfl, rfl, trivial⟩))) ?_
 rintro k2 t13_0_1 h
 simp only [gL] at h
 refine aE ?_
 refine aC ?_
 refine tr1 rfl (bI (aA rfl) rfl rfl rfl) ?_
 refine aF ?_
 refine aE ?_
 refine bT rfl (fun c3 => ?_) (fun c3 => ?_)
 ·have h := aZ c3 h
  refine bR ?_
  refine aE ?_
  refine cD ?_
  refine aE ?_
  refine aC ?_
  refine tr1 rfl (aD (v := .d (.lit (.int .i64 t13_0_1))) (aA rfl) rfl rfl) ?_
  refine tr1 rfl (aJ (v := .d (.lit (.int .i64 t13_0_1))) (aA rfl) rfl rfl) ?_
  refine aF ?_
  refine aE ?_
  obtain ⟨r4, h5, h⟩ := bind_some h
  refine dM mix 12 [0, 1, 5, 12, 13] [(6, .d (.lit (.int .i64 ((cI r4 0 d_0.won))))), (26, .d (.lit (.bool ((cT r4 d_0.won)))))] ?_ ?_
  ·refine ⟨[(17, 0, .cp [.lit (.int .i64 d_0.Tree.Rounds), .sl 1 (d_0.Tree.Slots.map aN), .sl 1 (d_0.players.map aN), .mp false (d_0.won.map fun p : aB × Int => ((fun a : aB => Value.agg ((aK a).map bK).toArray) p.1, aN p.2))]), (18, 1, .cp [.lit (.int .i64 d_0.Tree.Rounds), .sl 1 (d_0.Tree.Slots.map aN), .sl 1 (d_0.players.map aN), .mp false (d_0.won.map fun p : aB × Int => ((fun a : aB => Value.agg ((aK a).map bK).toArray) p.1, aN p.2))]), (19, 2, .cp [.mp false (d_0.won.map fun p : aB × Int => ((fun a : aB => Value.agg ((aK a).map bK).toArray) p.1, aN p.2))]), (20, 3, .d (.mp false (d_0.won.map fun p : aB × Int => ((fun a : aB => Value.agg ((aK a).map bK).toArray) p.1, aN p.2)))), (21, 4, .d (.lit (.int .i64 t13_0_1))), (22, 5, .d (.lit (.int .i64 slot_1))), (23, 6, .agg (aK r4)), (24, 7, .tup [.d (.lit (.int .i64 ((cI r4 0 d_0.won)))), .d (.lit (.bool ((cT r4 d_0.won))))]), (16, 8, .tup [.d (.lit (.int .i64 ((cI r4 0 d_0.won)))), .d (.lit (.bool ((cT r4 d_0.won))))]), (25, 9, .d (.lit (.int .i64 ((cI r4 0 d_0.won))))), (26, 10, .d (.lit (.bool ((cT r4 d_0.won))))), (6, 11, .d (.lit (.int .i64 ((cI r4 0 d_0.won)))))], ?_, ?_⟩
   · exact ⟨by kernel_rfl, by kernel_rfl, by kernel_rfl, by kernel_rfl, by kernel_rfl, [([], []), ([0], []), ([1], []), ([2], []), ([], []), ([], []), ([4, 5], []), ([3, 6], []), ([7], []), ([8], []), ([8], []), ([9], [])], by kernel_rfl, ⟨fun S hS => aH rfl (aT rfl (aD (v := .cp [.lit (.int .i64 d_0.Tree.Rounds), .sl 1 (d_0.Tree.Slots.map aN), .sl 1 (d_0.players.map aN), .mp false (d_0.won.map fun p : aB × Int => ((fun a : aB => Value.agg ((aK a).map bK).toArray) p.1, aN p.2))]) (aA rfl) (aI hS rfl) rfl)),
      fun S hS => aH rfl (aT rfl (iC (aA rfl) (aI hS rfl))),
      fun S hS => aH rfl (aT rfl (cY (aA rfl) (aI hS rfl) pZ (es := [.mp false (d_0.won.map fun p : aB × Int => ((fun a : aB => Value.agg ((aK a).map bK).toArray) p.1, aN p.2))]) rfl)),
      fun S hS => aH rfl (aT rfl (bP (aA rfl) (aI hS rfl) tO)),
      fun S hS => aH rfl (aT rfl (aD (v := .d (.lit (.int .i64 t13_0_1))) (aA rfl) (aI hS rfl) rfl)),
      fun S hS => aH rfl (aT rfl (aD (v := .d (.lit (.int .i64 slot_1))) (aA rfl) (aI hS rfl) rfl)),
      fun S hS => aH rfl (aT rfl (eN (aA rfl) (.func _ _ Try.call45) (ev2 (aI hS rfl) (ev2 (aI hS rfl) evn)) rfl (jE _ _ h5))),
      fun S hS => aH rfl (aT rfl (pQ (enc := aN) (agg := false) (l := d_0.won) (z := 0) (a := r4) (aA rfl) sF Try.underlying73 Try.zeroValue3 (fun _ _ => .d (.lit _ rfl)) (aI hS rfl) rfl rfl (aI hS rfl) (kE (enc := aK) r4 rfl))),
      fun S hS => aH rfl (aT rfl (aD (v := .tup [.d (.lit (.int .i64 ((cI r4 0 d_0.won)))), .d (.lit (.bool ((cT r4 d_0.won))))]) (aA rfl) (aI hS rfl) rfl)),
      fun S hS => aH rfl (aT rfl (bL (aA rfl) (aI hS rfl) rfl)),
      fun S hS => aH rfl (aT rfl (bL (aA rfl) (aI hS rfl) rfl)),
      fun S hS => aH rfl (aT rfl (aJ (v := .d (.lit (.int .i64 ((cI r4 0 d_0.won))))) (aA rfl) (aI hS rfl) rfl)), trivial⟩⟩
   · exact cZ (aU rfl (aU rfl (bB ⟨rfl, rfl, rfl, rfl, rfl, trivial⟩)))
  ·refine tr1 rfl (aJ (v := .d (.lit (.bool ((cT r4 d_0.won))))) (aA rfl) rfl rfl) ?_
   refine aF ?_
   refine aE ?_
   refine aC ?_
   refine tr1 rfl (aD (v := .d (.lit (.bool ((cT r4 d_0.won))))) (aA rfl) rfl rfl) ?_
   refine tr1 rfl (aD (v := .d (.lit (.bool ((cT r4 d_0.won))))) (aA rfl) rfl rfl) ?_
   obtain ⟨b6, h7, h⟩ := bind_some h
   refine cF 10 [0, 1, 5, 12, 13] 38 b6 ?_ ?_
   ·refine bN (cT r4 d_0.won) (fun c9 => ?_) (fun c9 => ?_)
    ·have h7 := aZ c9 h7
     refine aM rfl rfl (aA rfl) rfl c9 (aD (v := .d (.lit (.int .i64 ((cI r4 0 d_0.won))))) (aA rfl) rfl rfl) ?_
     refine aM rfl rfl (aA rfl) rfl c9 (aD (v := .cp [.lit (.int .i64 d_0.Tree.Rounds), .sl 1 (d_0.Tree.Slots.map aN), .sl 1 (d_0.players.map aN), .mp false (d_0.won.map fun p : aB × Int => ((fun a : aB => Value.agg ((aK a).map bK).toArray) p.1, aN p.2))]) (aA rfl) rfl rfl) ?_
     refine aM rfl rfl (aA rfl) rfl c9 (iC (aA rfl) rfl) ?_
     refine aM rfl rfl (aA rfl) rfl c9 (cY (aA rfl) rfl kP (es := [.sl 1 (d_0.players.map aN)]) rfl) ?_
     refine aM rfl rfl (aA rfl) rfl c9 (bP (aA rfl) rfl cU) ?_
     refine aM rfl rfl (aA rfl) rfl c9 (aD (v := .d (.lit (.int .i64 slot_1))) (aA rfl) rfl rfl) ?_
     obtain ⟨x10, h11, h7⟩ := bind_some h7
     refine aM rfl rfl (aA rfl) rfl c9 (bQ (aA rfl) rfl rfl bS.of (bU aN h11)) ?_
     refine aM rfl rfl (aA rfl) rfl c9 (bP (aA rfl) rfl bJ) ?_
     refine aM rfl rfl (aA rfl) rfl c9 (bI (aA rfl) rfl rfl rfl) ?_
     refine tr1 rfl (bW (v := .d (.lit (.bool ((!decide ((cI r4 0 d_0.won) = x10)))))) (aA rfl) rfl c9 rfl rfl) ?_
     have h7 := Option.some.inj h7
     subst h7
     refine aF (bE rfl ⟨rfl, rfl, rfl, rfl, rfl, trivial⟩ rfl)
    ·have h7 := aY c9 h7
     refine aP rfl rfl (aA rfl) rfl (aA rfl) rfl c9 ?_
     refine aP rfl rfl (aA rfl) rfl (aA rfl) rfl c9 ?_
     refine aP rfl rfl (aA rfl) rfl (aA rfl) rfl c9 ?_
     refine aP rfl rfl (aA rfl) rfl (aA rfl) rfl c9 ?_
     refine aP rfl rfl (aA rfl) rfl (aA rfl) rfl c9 ?_
     refine aP rfl rfl (aA rfl) rfl (aA rfl) rfl c9 ?_
     refine aP rfl rfl (aA rfl) rfl (aA rfl) rfl c9 ?_
     refine aP rfl rfl (aA rfl) rfl (aA rfl) rfl c9 ?_
     refine aP rfl rfl (aA rfl) rfl (aA rfl) rfl c9 ?_
     refine tr1 rfl (bX (v := .d (.lit (.bool false))) (aA rfl) rfl c9 rfl rfl) ?_
     have h7 := Option.some.inj h7
     subst h7
     refine aF (bE rfl ⟨rfl, rfl, rfl, rfl, rfl, trivial⟩ rfl)
   ·refine aF ?_
    refine bT rfl (fun c8 => ?_) (fun c8 => ?_)
    ·have h := aZ c8 h
     refine aE ?_
     refine aC ?_
     refine tr1 rfl (aD (v := .d (.lit (.int .i64 t13_0_1))) (aA rfl) rfl rfl) ?_
     refine tr1 rfl (aJ (v := .d (.lit (.int .i64 t13_0_1))) (aA rfl) rfl rfl) ?_
     refine aF ?_
     have h := Option.some.inj h
     subst h
     exact bM ⟨rfl, _, .one _, rfl, rfl⟩
    ·have h := aY c8 h
     refine eF ?_
     refine aC ?_
     refine tr1 rfl (bO (aA rfl) rfl rfl rfl) ?_
     refine tr1 rfl (aD (v := .d (.lit (.int .i64 ((w64 (t13_0_1 + 1)))))) (aA rfl) rfl rfl) ?_
     refine aF ?_
     exact ⟨(w64 (t13_0_1 + 1)), h, bF [] rfl rfl (aU rfl (bB ⟨rfl, rfl, rfl, trivial⟩))⟩
 ·have h := aY c3 h
  refine cX ?_
  refine .inl ⟨rfl, ?_⟩
  simp only [nX] at h
  refine aE ?_
  refine aC ?_
  refine tr1 rfl (aD (v := .cp [.lit (.int .i64 d_0.Tree.Rounds), .sl 1 (d_0.Tree.Slots.map aN), .sl 1 (d_0.players.map aN), .mp false (d_0.won.map fun p : aB × Int => ((fun a : aB => Value.agg ((aK a).map bK).toArray) p.1, aN p.2))]) (aA rfl) rfl rfl) ?_
  refine tr1 rfl (iC (aA rfl) rfl) ?_
  refine tr1 rfl (cY (aA rfl) rfl nM (es := [.lit (.int .i64 d_0.Tree.Rounds), .sl 1 (d_0.Tree.Slots.map aN)]) rfl) ?_
  refine tr1 rfl (cY (aA rfl) rfl fA (es := [.lit (.int .i64 d_0.Tree.Rounds)]) rfl) ?_
  refine tr1 rfl (bP (aA rfl) rfl bJ) ?_
  refine tr1 rfl (aJ (v := .d (.lit (.int .i64 d_0.Tree.Rounds))) (aA rfl) rfl rfl) ?_
  refine aF ?_
  have h := Option.some.inj h
  subst h
  exact bM ⟨rfl, _, .one _, rfl, rfl⟩

theorem yP (x : List Int) {r : List Int} {x_v : Value} {e : TypeId} (h : slices_Sort_int x = some r) : eZ Try.prog 47 [.d (.lit x_v)] [.arr x_v e 1 (x.map aN)] (fun r' o' => r' = .tup [] ∧ o' = [.arr x_v e 1 (r.map aN)]) := by
 unfold slices_Sort_int at h
 split at h
 ·cases h
  exact aHm (fun blk off cap zs w => Try.slices_Sort_int blk off cap zs w) (fun q cap w => Try.slices_Sort_int_none q cap w) (by assumption)
 ·cases h

theorem aCu (t_0 : aO) (l_1 : List aG) (round_2 : Int) (place_3 : Int) {Q : ((List Int) × Int) → Prop} (h : pK t_0 l_1 round_2 place_3 Q) : eZ Try.prog 15 [.agg (aQ t_0), .d (.sl 5 (l_1.map aL)), .d (.lit (.int .i64 round_2)), .d (.lit (.int .i64 place_3))] [] (fun r' o' => ∃ (r : (List Int) × Int), Q r ∧ r' = .tup [.d (.sl 1 (r.1.map aN)), .d (.lit (.int .i64 r.2))] ∧ o' = []) := by
 unfold pK at h
 refine gA Try.func15 rfl (rs := [.tmp 8, .tmp 9]) Try.results15 Try.ntmps15 (Nat.le_of_ble_eq_true rfl) ?_
 refine aE ?_
 refine aC ?_
 refine bV rfl (eH (v := .agg (aQ t_0)) (aA rfl) rfl rfl rfl) ?_
 rintro _ ⟨b1, rfl⟩
 refine tr1 rfl (qW 1 (aA rfl)) ?_
 refine tr1 rfl (aJ (v := .d (.lit (.int .i64 0))) (aA rfl) rfl rfl) ?_
 refine aF ?_
 refine aE ?_
 refine aC ?_
 refine tr1 rfl (bH (aA rfl) rfl (i := 0) rfl cV (es := (aQ t_0)) rfl rfl) ?_
 refine tr1 rfl (aD (v := .d (.sl 5 (l_1.map aL))) (aA rfl) rfl rfl) ?_
 refine tr1 rfl (aD (v := .d (.lit (.int .i64 round_2))) (aA rfl) rfl rfl) ?_
 refine tr1 rfl (aD (v := .d (.lit (.int .i64 place_3))) (aA rfl) rfl rfl) ?_
 refine bV rfl (mV (aA rfl) (.func _ _ Try.call44) rfl rfl (wY _ _ _ _ h)) ?_
 rintro _ ⟨_, _, ⟨r2, h, rfl, rfl⟩, rfl⟩
 refine tr1 rfl (aD (v := .tup [cO aX r2.1, .agg (aK r2.2.1), .d (.lit (.int .i64 r2.2.2))]) (aA rfl) rfl rfl) ?_
 refine tr1 rfl (bL (aA rfl) rfl rfl) ?_
 refine tr1 rfl (bL (aA rfl) rfl rfl) ?_
 refine tr1 rfl (bL (aA rfl) rfl rfl) ?_
 refine bV rfl (dJ (zs := [.lit (.int .i64 0), .lit (.int .i64 0)]) (aA rfl) Try.zeroValue70 rfl rfl) ?_
 rintro _ ⟨b3, rfl⟩
 refine tr1 rfl (aJ (v := cO aX r2.1) (aA rfl) rfl rfl) ?_
 refine tr1 rfl (cB (i := 1) rfl rfl rfl rfl rfl Try.sizeOf70 rfl (aA rfl) (Nat.le_of_ble_eq_true rfl) (ds' := (aK r2.2.1)) rfl) ?_
 refine tr1 rfl (aJ (v := .d (.lit (.int .i64 r2.2.2))) (aA rfl) rfl rfl) ?_
 refine aF ?_
 refine aE ?_
 refine aE ?_
 refine aC ?_
 refine tr1 rfl (aD (v := .d (.lit (.int .i64 r2.2.2))) (aA rfl) rfl rfl) ?_
 refine tr1 rfl (bI (aA rfl) rfl rfl rfl) ?_
 refine aF ?_
 refine bT rfl (fun c4 => ?_) (fun c4 => ?_)
 ·have h := dR c4 h
  refine aE ?_
  refine aC ?_
  refine tr1 rfl (aD (v := .d (.lit (.int .i64 r2.2.2))) (aA rfl) rfl rfl) ?_
  refine tr1 rfl (qW 1 (aA rfl)) ?_
  refine tr1 rfl (aJ (v := .d (.lit (.int .i64 r2.2.2))) (aA rfl) rfl rfl) ?_
  refine aF ?_
  exact bM ⟨rfl, _, [], [.box b1 0 (aQ t_0), .box b3 0 (aK r2.2.1)], _, .two (.tmp 8 (v := .d (.sl 1 ((([] : List Int)).map aN))) rfl) (.tmp 9 (v := .d (.lit (.int .i64 r2.2.2))) rfl), .refl _, .same _, (([] : List Int), r2.2.2), h, rfl, rfl⟩
 ·have h := dQ c4 h
  refine bR ?_
  refine aE ?_
  refine aC ?_
  refine tr1 rfl (jK 3 1 (.inl rfl) (aA rfl)) ?_
  refine aF ?_
  refine aE ?_
  refine aE ?_
  refine aC ?_
  refine tr1 rfl (aD (v := cO aX r2.1) (aA rfl) rfl rfl) ?_
  obtain ⟨x6, h7, h⟩ := cS h
  refine tr1 rfl (nV (enc := aX) (aA rfl) rfl h7) ?_
  refine tr1 rfl (cY (aA rfl) rfl kP (es := [.sl 1 (x6.players.map aN)]) rfl) ?_
  refine tr1 rfl (bP (aA rfl) rfl cU) ?_
  refine tr1 rfl (eB (aA rfl) rfl bS.of) ?_
  refine tr1 rfl (aD (v := .d (.lit (.int .i64 0))) (aA rfl) rfl rfl) ?_
  refine aF ?_
  refine cD ?_
  refine nP [2, 10, 11, 31, 32] (fun (s8 : Int × (List Int) × Value) => [(13, .d (.lit s8.2.2)), (33, .d (.lit (.int .i64 s8.1)))]) (fun (s8 : Int × (List Int) × Value) => [.box b3 0 (aK r2.2.1), .arr s8.2.2 3 1 (s8.2.1.map aN)]) (fun (k : Nat) (s8 : Int × (List Int) × Value) => iA Q round_2 r2.1 x6.players (x6.players.length : Int) r2.2.1 k s8.1 s8.2.1) (fun _ h => h) (0, ([] : List Int), (.slice none 0 0)) h (bF [1, 2] rfl rfl (aU rfl (aU rfl (bB ⟨rfl, rfl, rfl, rfl, rfl, trivial⟩)))) ?_
  rintro k10 ⟨t33_0_8, out_0_8, w9⟩ h
  simp only [iA] at h
  refine aE ?_
  refine aC ?_
  refine tr1 rfl (bI (aA rfl) rfl rfl rfl) ?_
  refine aF ?_
  refine aE ?_
  refine bT rfl (fun c11 => ?_) (fun c11 => ?_)
  ·have h := dR c11 h
   refine bR ?_
   refine aE ?_
   refine cD ?_
   refine aE ?_
   refine aC ?_
   refine tr1 rfl (aD (v := .d (.lit (.int .i64 t33_0_8))) (aA rfl) rfl rfl) ?_
   obtain ⟨x12, h13, h⟩ := cS h
   refine tr1 rfl (bQ (aA rfl) rfl rfl bS.of (bU aN h13)) ?_
   refine tr1 rfl (bP (aA rfl) rfl bJ) ?_
   refine tr1 rfl (aJ (v := .d (.lit (.int .i64 t33_0_8))) (aA rfl) rfl rfl) ?_
   refine tr1 rfl (aJ (v := .d (.lit (.int .i64 x12))) (aA rfl) rfl rfl) ?_
   refine aF ?_
   refine aE ?_
   obtain ⟨x14, h15, h⟩ := cS h
   refine cL (yF (enc := aX) (k := 10) rfl h15) ?_
   obtain ⟨b16, h17, h⟩ := cS h
   obtain ⟨b21, h22, h⟩ := cS h
   refine dM mix 16 [2, 10, 11, 13, 15, 31, 32, 33] [(53, .d (.lit (.bool b21)))] ?_ ?_
   ·refine bN (!decide (x12 = (-1))) (fun c18 => ?_) (fun c18 => ?_)
    ·have h17 := aZ c18 h17
     obtain ⟨r19, h20, h17⟩ := bind_some h17
     have h17 := Option.some.inj h17
     subst h17
     refine bN (decide (r19 = r2.2.1)) (fun c23 => ?_) (fun c23 => ?_)
     ·have h22 := aZ c23 h22
      obtain ⟨r24, h25, h22⟩ := bind_some h22
      have h22 := Option.some.inj h22
      subst h22
      refine ⟨[(38, 0, .d (.lit (.int .i64 x12))), (39, 1, .d (.lit (.bool ((!decide (x12 = (-1))))))), (40, 2, .d (.lit (.bool ((!decide (x12 = (-1))))))), (41, 3, .d (.lit (.int .i64 round_2))), (42, 4, .d (.lit (.int .i64 t33_0_8))), (43, 5, .agg (aK r19)), (44, 6, .agg (aK r2.2.1)), (45, 7, .d (.lit (.bool ((decide (r19 = r2.2.1)))))), (46, 8, .d (.lit (.bool ((decide (r19 = r2.2.1)))))), (47, 9, .d (.lit (.bool (decide (r19 = r2.2.1))))), (48, 10, .cp [.lit (.int .i64 x14.Tree.Rounds), .sl 1 (x14.Tree.Slots.map aN), .sl 1 (x14.players.map aN), .mp false (x14.won.map fun p : aB × Int => ((fun a : aB => Value.agg ((aK a).map bK).toArray) p.1, aN p.2))]), (49, 11, .d (.lit (.int .i64 t33_0_8))), (50, 12, .d (.lit (.int .i64 r24))), (51, 13, .d (.lit (.int .i64 round_2))), (52, 14, .d (.lit (.bool ((decide (round_2 < r24)))))), (53, 15, .d (.lit (.bool ((decide (round_2 < r24))))))], ?_, ?_⟩
      · exact ⟨by kernel_rfl, by kernel_rfl, by kernel_rfl, by kernel_rfl, by kernel_rfl, [([], []), ([0], []), ([1], []), ([2], []), ([2], []), ([2, 3, 4], []), ([2], []), ([2, 5, 6], []), ([2, 7], []), ([8], []), ([9], []), ([9], []), ([9, 10, 11], []), ([9], []), ([9, 12, 13], []), ([9, 14], [])], by kernel_rfl, ⟨fun S hS => aH rfl (aT rfl (aD (v := .d (.lit (.int .i64 x12))) (aA rfl) (aI hS rfl) rfl)),
      fun S hS => aH rfl (aT rfl (bI (aA rfl) (aI hS rfl) rfl rfl)),
      fun S hS => aH rfl (aT rfl (aD (v := .d (.lit (.bool ((!decide (x12 = (-1))))))) (aA rfl) (aI hS rfl) rfl)),
      fun S hS => aH rfl (bD rfl rfl (aA rfl) (aS hS rfl) c18 (aD (v := .d (.lit (.int .i64 round_2))) (aA rfl) (aI hS rfl) rfl)),
      fun S hS => aH rfl (bD rfl rfl (aA rfl) (aS hS rfl) c18 (aD (v := .d (.lit (.int .i64 t33_0_8))) (aA rfl) (aI hS rfl) rfl)),
      fun S hS => aH rfl (bD rfl rfl (aA rfl) (aS hS rfl) c18 (eN (aA rfl) (.func _ _ Try.call45) (ev2 (aI hS rfl) (ev2 (aI hS rfl) evn)) rfl (jE _ _ h20))),
      fun S hS => aH rfl (bD rfl rfl (aA rfl) (aS hS rfl) c18 (bH (aA rfl) (aI hS rfl) (i := 0) rfl iZ (es := (aK r2.2.1)) rfl rfl)),
      fun S hS => aH rfl (bD rfl rfl (aA rfl) (aS hS rfl) c18 (uE (a := r19) (b := r2.2.1) (aA rfl) (aI hS rfl) (aI hS rfl) rfl rfl Try.eqGuardType70 uQ)),
      fun S hS => aH rfl (aT rfl (bW (v := .d (.lit (.bool ((decide (r19 = r2.2.1)))))) (aA rfl) (aI hS rfl) c18 (aI hS rfl) rfl)),
      fun S hS => aH rfl (aT rfl (aD (v := .d (.lit (.bool (decide (r19 = r2.2.1))))) (aA rfl) (aI hS rfl) rfl)),
      fun S hS => aH rfl (bD rfl rfl (aA rfl) (aS hS rfl) c23 (aD (v := .cp [.lit (.int .i64 x14.Tree.Rounds), .sl 1 (x14.Tree.Slots.map aN), .sl 1 (x14.players.map aN), .mp false (x14.won.map fun p : aB × Int => ((fun a : aB => Value.agg ((aK a).map bK).toArray) p.1, aN p.2))]) (aA rfl) (aI hS rfl) rfl)),
      fun S hS => aH rfl (bD rfl rfl (aA rfl) (aS hS rfl) c23 (aD (v := .d (.lit (.int .i64 t33_0_8))) (aA rfl) (aI hS rfl) rfl)),
      fun S hS => aH rfl (bD rfl rfl (aA rfl) (aS hS rfl) c23 (cH (aA rfl) (.func _ _ Try.call46) (ev2 (aI hS rfl) (ev2 (aI hS rfl) evn)) rfl (BVs.refl _ _) (lX _ _ h25) rfl)),
      fun S hS => aH rfl (bD rfl rfl (aA rfl) (aS hS rfl) c23 (aD (v := .d (.lit (.int .i64 round_2))) (aA rfl) (aI hS rfl) rfl)),
      fun S hS => aH rfl (bD rfl rfl (aA rfl) (aS hS rfl) c23 (bI (aA rfl) (aI hS rfl) (aI hS rfl) rfl)),
      fun S hS => aH rfl (aT rfl (bW (v := .d (.lit (.bool ((decide (round_2 < r24)))))) (aA rfl) (aI hS rfl) c23 (aI hS rfl) rfl)), trivial⟩⟩
      · exact cZ (aU rfl (bB ⟨rfl, rfl, rfl, rfl, rfl, rfl, rfl, rfl, trivial⟩))
     ·have h22 := aY c23 h22
      have h22 := Option.some.inj h22
      subst h22
      refine ⟨[(38, 0, .d (.lit (.int .i64 x12))), (39, 1, .d (.lit (.bool ((!decide (x12 = (-1))))))), (40, 2, .d (.lit (.bool ((!decide (x12 = (-1))))))), (41, 3, .d (.lit (.int .i64 round_2))), (42, 4, .d (.lit (.int .i64 t33_0_8))), (43, 5, .agg (aK r19)), (44, 6, .agg (aK r2.2.1)), (45, 7, .d (.lit (.bool ((decide (r19 = r2.2.1)))))), (46, 8, .d (.lit (.bool ((decide (r19 = r2.2.1)))))), (47, 9, .d (.lit (.bool (decide (r19 = r2.2.1))))), (48, 10, .tup []), (49, 11, .tup []), (50, 12, .tup []), (51, 13, .tup []), (52, 14, .tup []), (53, 15, .d (.lit (.bool false)))], ?_, ?_⟩
      · exact ⟨by kernel_rfl, by kernel_rfl, by kernel_rfl, by kernel_rfl, by kernel_rfl, [([], []), ([0], []), ([1], []), ([2], []), ([2], []), ([2, 3, 4], []), ([2], []), ([2, 5, 6], []), ([2, 7], []), ([8], []), ([9], []), ([9], []), ([9, 10, 11], []), ([9], []), ([9, 12, 13], []), ([9, 14], [])], by kernel_rfl, ⟨fun S hS => aH rfl (aT rfl (aD (v := .d (.lit (.int .i64 x12))) (aA rfl) (aI hS rfl) rfl)),
      fun S hS => aH rfl (aT rfl (bI (aA rfl) (aI hS rfl) rfl rfl)),
      fun S hS => aH rfl (aT rfl (aD (v := .d (.lit (.bool ((!decide (x12 = (-1))))))) (aA rfl) (aI hS rfl) rfl)),
      fun S hS => aH rfl (bD rfl rfl (aA rfl) (aS hS rfl) c18 (aD (v := .d (.lit (.int .i64 round_2))) (aA rfl) (aI hS rfl) rfl)),
      fun S hS => aH rfl (bD rfl rfl (aA rfl) (aS hS rfl) c18 (aD (v := .d (.lit (.int .i64 t33_0_8))) (aA rfl) (aI hS rfl) rfl)),
      fun S hS => aH rfl (bD rfl rfl (aA rfl) (aS hS rfl) c18 (eN (aA rfl) (.func _ _ Try.call45) (ev2 (aI hS rfl) (ev2 (aI hS rfl) evn)) rfl (jE _ _ h20))),
      fun S hS => aH rfl (bD rfl rfl (aA rfl) (aS hS rfl) c18 (bH (aA rfl) (aI hS rfl) (i := 0) rfl iZ (es := (aK r2.2.1)) rfl rfl)),
      fun S hS => aH rfl (bD rfl rfl (aA rfl) (aS hS rfl) c18 (uE (a := r19) (b := r2.2.1) (aA rfl) (aI hS rfl) (aI hS rfl) rfl rfl Try.eqGuardType70 uQ)),
      fun S hS => aH rfl (aT rfl (bW (v := .d (.lit (.bool ((decide (r19 = r2.2.1)))))) (aA rfl) (aI hS rfl) c18 (aI hS rfl) rfl)),
      fun S hS => aH rfl (aT rfl (aD (v := .d (.lit (.bool (decide (r19 = r2.2.1))))) (aA rfl) (aI hS rfl) rfl)),
      fun S hS => aH rfl (bG rfl rfl (aA rfl) rfl (aA rfl) (aS hS rfl) c23),
      fun S hS => aH rfl (bG rfl rfl (aA rfl) rfl (aA rfl) (aS hS rfl) c23),
      fun S hS => aH rfl (bG rfl rfl (aA rfl) rfl (aA rfl) (aS hS rfl) c23),
      fun S hS => aH rfl (bG rfl rfl (aA rfl) rfl (aA rfl) (aS hS rfl) c23),
      fun S hS => aH rfl (bG rfl rfl (aA rfl) rfl (aA rfl) (aS hS rfl) c23),
      fun S hS => aH rfl (aT rfl (bX (v := .d (.lit (.bool false))) (aA rfl) (aI hS rfl) c23 rfl rfl)), trivial⟩⟩
      · exact cZ (aU rfl (bB ⟨rfl, rfl, rfl, rfl, rfl, rfl, rfl, rfl, trivial⟩))
    ·have h17 := aY c18 h17
     have h17 := Option.some.inj h17
     subst h17
     have c23 : false = false := rfl
     have h22 := aY c23 h22
     have h22 := Option.some.inj h22
     subst h22
     refine ⟨[(38, 0, .d (.lit (.int .i64 x12))), (39, 1, .d (.lit (.bool ((!decide (x12 = (-1))))))), (40, 2, .d (.lit (.bool ((!decide (x12 = (-1))))))), (41, 3, .tup []), (42, 4, .tup []), (43, 5, .tup []), (44, 6, .tup []), (45, 7, .tup []), (46, 8, .d (.lit (.bool false))), (47, 9, .d (.lit (.bool (false)))), (48, 10, .tup []), (49, 11, .tup []), (50, 12, .tup []), (51, 13, .tup []), (52, 14, .tup []), (53, 15, .d (.lit (.bool false)))], ?_, ?_⟩
     · exact ⟨by kernel_rfl, by kernel_rfl, by kernel_rfl, by kernel_rfl, by kernel_rfl, [([], []), ([0], []), ([1], []), ([2], []), ([2], []), ([2, 3, 4], []), ([2], []), ([2, 5, 6], []), ([2, 7], []), ([8], []), ([9], []), ([9], []), ([9, 10, 11], []), ([9], []), ([9, 12, 13], []), ([9, 14], [])], by kernel_rfl, ⟨fun S hS => aH rfl (aT rfl (aD (v := .d (.lit (.int .i64 x12))) (aA rfl) (aI hS rfl) rfl)),
      fun S hS => aH rfl (aT rfl (bI (aA rfl) (aI hS rfl) rfl rfl)),
      fun S hS => aH rfl (aT rfl (aD (v := .d (.lit (.bool ((!decide (x12 = (-1))))))) (aA rfl) (aI hS rfl) rfl)),
      fun S hS => aH rfl (bG rfl rfl (aA rfl) rfl (aA rfl) (aS hS rfl) c18),
      fun S hS => aH rfl (bG rfl rfl (aA rfl) rfl (aA rfl) (aS hS rfl) c18),
      fun S hS => aH rfl (bG rfl rfl (aA rfl) rfl (aA rfl) (aS hS rfl) c18),
      fun S hS => aH rfl (bG rfl rfl (aA rfl) rfl (aA rfl) (aS hS rfl) c18),
      fun S hS => aH rfl (bG rfl rfl (aA rfl) rfl (aA rfl) (aS hS rfl) c18),
      fun S hS => aH rfl (aT rfl (bX (v := .d (.lit (.bool false))) (aA rfl) (aI hS rfl) c18 rfl rfl)),
      fun S hS => aH rfl (aT rfl (aD (v := .d (.lit (.bool (false)))) (aA rfl) (aI hS rfl) rfl)),
      fun S hS => aH rfl (bG rfl rfl (aA rfl) rfl (aA rfl) (aS hS rfl) c23),
      fun S hS => aH rfl (bG rfl rfl (aA rfl) rfl (aA rfl) (aS hS rfl) c23),
      fun S hS => aH rfl (bG rfl rfl (aA rfl) rfl (aA rfl) (aS hS rfl) c23),
      fun S hS => aH rfl (bG rfl rfl (aA rfl) rfl (aA rfl) (aS hS rfl) c23),
      fun S hS => aH rfl (bG rfl rfl (aA rfl) rfl (aA rfl) (aS hS rfl) c23),
      fun S hS => aH rfl (aT rfl (bX (v := .d (.lit (.bool false))) (aA rfl) (aI hS rfl) c23 rfl rfl)), trivial⟩⟩
     · exact cZ (aU rfl (bB ⟨rfl, rfl, rfl, rfl, rfl, rfl, rfl, rfl, trivial⟩))
   ·refine aF ?_
    refine cL (aIf (enc := aX) (k := 10) rfl h15) ?_
    refine bT rfl (fun c26 => ?_) (fun c26 => ?_)
    ·have h := dR c26 h
     refine aC ?_
     refine tr1 rfl (aD (v := .d (.lit w9)) (aA rfl) rfl rfl) ?_
     refine tr1 rfl (aD (v := .d (.lit (.int .i64 x12))) (aA rfl) rfl rfl) ?_
     refine tr1 rfl (fQ (aA rfl) bS rfl rfl (rows := ([x12]).map aN) rfl (dG (f := aN) fun _ => rfl) rfl (by decide)) ?_
     obtain ⟨x27, h28, h⟩ := cS h
     refine bV rfl (fZ (i := 1) (aA rfl) bS rfl rfl rfl (fun _ => rfl) h28 rfl) ?_
     rintro _ ⟨v29, rfl⟩
     refine tr1 rfl (aJ (v := .d (.lit v29)) (aA rfl) rfl rfl) ?_
     refine eV ?_
     refine aC ?_
     refine tr1 rfl (bO (aA rfl) rfl rfl rfl) ?_
     refine tr1 rfl (aD (v := .d (.lit (.int .i64 ((w64 (t33_0_8 + 1)))))) (aA rfl) rfl rfl) ?_
     refine aF ?_
     exact ⟨(w64 (t33_0_8 + 1), x27, v29), h, bF [0, 1] rfl rfl (aU rfl (aU rfl (bB ⟨rfl, rfl, rfl, rfl, rfl, trivial⟩)))⟩
    ·have h := dQ c26 h
     refine eF ?_
     refine aC ?_
     refine tr1 rfl (bO (aA rfl) rfl rfl rfl) ?_
     refine tr1 rfl (aD (v := .d (.lit (.int .i64 ((w64 (t33_0_8 + 1)))))) (aA rfl) rfl rfl) ?_
     refine aF ?_
     exact ⟨(w64 (t33_0_8 + 1), out_0_8, w9), h, bF [0, 1] rfl rfl (aU rfl (aU rfl (bB ⟨rfl, rfl, rfl, rfl, rfl, trivial⟩)))⟩
  ·have h := dQ c11 h
   refine cX ?_
   refine .inl ⟨rfl, ?_⟩
   simp only [rH] at h
   refine aE ?_
   refine aC ?_
   refine tr1 rfl (aD (v := .d (.lit w9)) (aA rfl) rfl rfl) ?_
   obtain ⟨r30, h31, h⟩ := cS h
   refine kN (bF [1, 0] rfl rfl (le_refl _)) ?_
   refine bV rfl (tB (passed := [.arr w9 3 1 (out_0_8.map aN)]) (aA rfl) rfl (.func _ _ Try.call47) rfl rfl (yP out_0_8 h31)) ?_
   rintro _ ⟨_, _, ⟨rfl, rfl⟩, rfl⟩
   refine aF ?_
   refine aE ?_
   refine aC ?_
   refine tr1 rfl (aD (v := .d (.lit w9)) (aA rfl) rfl rfl) ?_
   refine tr1 rfl (aJ (v := .d (.lit w9)) (aA rfl) rfl rfl) ?_
   refine tr1 rfl (aJ (v := .d (.lit (.int .i64 0))) (aA rfl) rfl rfl) ?_
   refine aF ?_
   exact bM ⟨rfl, _, [], [.arr w9 3 1 (r30.map aN), .box b3 0 (aK r2.2.1)], _, .two (.tmp 8 (v := .d (.lit w9)) rfl) (.tmp 9 (v := .d (.lit (.int .i64 0))) rfl), .refl _, tD (.cons (.d (mA 0 rfl (dG (f := aN) fun _ => rfl))) (.cons (.same _) .nil)), (r30, 0), h, rfl, rfl⟩

theorem aBj (t_0 : aO) (l_1 : List aG) {Q : (Int × Int) → Prop} (h : oJ t_0 l_1 Q) : eZ Try.prog 34 [.agg (aQ t_0), .d (.sl 5 (l_1.map aL))] [] (fun r' o' => ∃ (r : Int × Int), Q r ∧ r' = .tup [.d (.lit (.int .i64 r.1)), .d (.lit (.int .i64 r.2))] ∧ o' = []) := by
 unfold oJ at h
 refine gA Try.func34 rfl (rs := [.tmp 4, .tmp 5]) Try.results34 Try.ntmps34 (Nat.le_of_ble_eq_true rfl) ?_
 refine aE ?_
 refine aC ?_
 refine bV rfl (eH (v := .agg (aQ t_0)) (aA rfl) rfl rfl rfl) ?_
 rintro _ ⟨b1, rfl⟩
 refine tr1 rfl (aJ (v := .d (.lit (.int .i64 0))) (aA rfl) rfl rfl) ?_
 refine tr1 rfl (aJ (v := .d (.lit (.int .i64 0))) (aA rfl) rfl rfl) ?_
 refine aF ?_
 refine aE ?_
 refine aC ?_
 refine tr1 rfl (bH (aA rfl) rfl (i := 0) rfl cV (es := (aQ t_0)) rfl rfl) ?_
 refine tr1 rfl (aD (v := .d (.sl 5 (l_1.map aL))) (aA rfl) rfl rfl) ?_
 refine bV rfl (mV (aA rfl) (.func _ _ Try.call48) rfl rfl (pA _ _ h)) ?_
 rintro _ ⟨_, _, ⟨r2, h, rfl, rfl⟩, rfl⟩
 refine tr1 rfl (aD (v := .tup [cO aX r2.1, .d (.lit (.int .i64 r2.2))]) (aA rfl) rfl rfl) ?_
 refine tr1 rfl (bL (aA rfl) rfl rfl) ?_
 refine tr1 rfl (bL (aA rfl) rfl rfl) ?_
 refine tr1 rfl (aJ (v := cO aX r2.1) (aA rfl) rfl rfl) ?_
 refine tr1 rfl (aJ (v := .d (.lit (.int .i64 r2.2))) (aA rfl) rfl rfl) ?_
 refine aF ?_
 refine aE ?_
 refine aE ?_
 refine aC ?_
 refine tr1 rfl (aD (v := .d (.lit (.int .i64 r2.2))) (aA rfl) rfl rfl) ?_
 refine tr1 rfl (bI (aA rfl) rfl rfl rfl) ?_
 refine aF ?_
 refine bT rfl (fun c3 => ?_) (fun c3 => ?_)
 ·have h := dR c3 h
  refine aE ?_
  refine aC ?_
  refine tr1 rfl (aD (v := .d (.lit (.int .i64 r2.2))) (aA rfl) rfl rfl) ?_
  refine tr1 rfl (aJ (v := .d (.lit (.int .i64 0))) (aA rfl) rfl rfl) ?_
  refine tr1 rfl (aJ (v := .d (.lit (.int .i64 r2.2))) (aA rfl) rfl rfl) ?_
  refine aF ?_
  exact bM ⟨rfl, _, [], [.box b1 0 (aQ t_0)], _, .two (.tmp 4 (v := .d (.lit (.int .i64 0))) rfl) (.tmp 5 (v := .d (.lit (.int .i64 r2.2))) rfl), .refl _, .same _, (0, r2.2), h, rfl, rfl⟩
 ·have h := dQ c3 h
  refine bR ?_
  refine aE ?_
  obtain ⟨x4, h5, h⟩ := cS h
  obtain ⟨x6, h7, h⟩ := cS h
  refine dM mix 12 [] [(23, .d (.lit (.int .i64 ((w64 ((x4.Tree.Slots.length : Int) - 1)))))), (28, .d (.lit (.int .i64 ((((x6.won.map fun p : aB × Int => ((fun a : aB => Value.agg ((aK a).map bK).toArray) p.1, aN p.2))).length : Int)))))] ?_ ?_
  ·refine ⟨[(17, 0, cO aX r2.1), (18, 1, .cp [.lit (.int .i64 x4.Tree.Rounds), .sl 1 (x4.Tree.Slots.map aN), .sl 1 (x4.players.map aN), .mp false (x4.won.map fun p : aB × Int => ((fun a : aB => Value.agg ((aK a).map bK).toArray) p.1, aN p.2))]), (19, 2, .cp [.lit (.int .i64 x4.Tree.Rounds), .sl 1 (x4.Tree.Slots.map aN)]), (20, 3, .cp [.sl 1 (x4.Tree.Slots.map aN)]), (21, 4, .d (.sl 1 (x4.Tree.Slots.map aN))), (22, 5, .d (.lit (.int .i64 ((x4.Tree.Slots.length : Int))))), (23, 6, .d (.lit (.int .i64 ((w64 ((x4.Tree.Slots.length : Int) - 1)))))), (24, 7, cO aX r2.1), (25, 8, .cp [.lit (.int .i64 x6.Tree.Rounds), .sl 1 (x6.Tree.Slots.map aN), .sl 1 (x6.players.map aN), .mp false (x6.won.map fun p : aB × Int => ((fun a : aB => Value.agg ((aK a).map bK).toArray) p.1, aN p.2))]), (26, 9, .cp [.mp false (x6.won.map fun p : aB × Int => ((fun a : aB => Value.agg ((aK a).map bK).toArray) p.1, aN p.2))]), (27, 10, .d (.mp false (x6.won.map fun p : aB × Int => ((fun a : aB => Value.agg ((aK a).map bK).toArray) p.1, aN p.2)))), (28, 11, .d (.lit (.int .i64 ((((x6.won.map fun p : aB × Int => ((fun a : aB => Value.agg ((aK a).map bK).toArray) p.1, aN p.2))).length : Int)))))], ?_, ?_⟩
   · exact ⟨by kernel_rfl, by kernel_rfl, by kernel_rfl, by kernel_rfl, by kernel_rfl, [([], []), ([0], []), ([1], []), ([2], []), ([3], []), ([4], []), ([5], []), ([], []), ([7], []), ([8], []), ([9], []), ([10], [])], by kernel_rfl, ⟨fun S hS => aH rfl (aT rfl (aD (v := cO aX r2.1) (aA rfl) (aI hS rfl) rfl)),
      fun S hS => aH rfl (aT rfl (nV (enc := aX) (aA rfl) (aI hS rfl) h5)),
      fun S hS => aH rfl (aT rfl (cY (aA rfl) (aI hS rfl) nM (es := [.lit (.int .i64 x4.Tree.Rounds), .sl 1 (x4.Tree.Slots.map aN)]) rfl)),
      fun S hS => aH rfl (aT rfl (cY (aA rfl) (aI hS rfl) dU (es := [.sl 1 (x4.Tree.Slots.map aN)]) rfl)),
      fun S hS => aH rfl (aT rfl (bP (aA rfl) (aI hS rfl) cU)),
      fun S hS => aH rfl (aT rfl (eB (aA rfl) (aI hS rfl) bS.of)),
      fun S hS => aH rfl (aT rfl (bO (aA rfl) (aI hS rfl) rfl rfl)),
      fun S hS => aH rfl (aT rfl (aD (v := cO aX r2.1) (aA rfl) (aI hS rfl) rfl)),
      fun S hS => aH rfl (aT rfl (nV (enc := aX) (aA rfl) (aI hS rfl) h7)),
      fun S hS => aH rfl (aT rfl (cY (aA rfl) (aI hS rfl) pZ (es := [.mp false (x6.won.map fun p : aB × Int => ((fun a : aB => Value.agg ((aK a).map bK).toArray) p.1, aN p.2))]) rfl)),
      fun S hS => aH rfl (aT rfl (bP (aA rfl) (aI hS rfl) tO)),
      fun S hS => aH rfl (aT rfl (aFo (aA rfl) Try.underlying73 (aI hS rfl) rfl)), trivial⟩⟩
   · exact cZ (aU rfl (aU rfl (bB trivial)))
  ·refine tr1 rfl (bO (aA rfl) rfl rfl rfl) ?_
   refine tr1 rfl (aJ (v := .d (.lit (.int .i64 ((w64 ((w64 ((x4.Tree.Slots.length : Int) - 1)) - (((x6.won.map fun p : aB × Int => ((fun a : aB => Value.agg ((aK a).map bK).toArray) p.1, aN p.2))).length : Int))))))) (aA rfl) rfl rfl) ?_
   refine tr1 rfl (aJ (v := .d (.lit (.int .i64 0))) (aA rfl) rfl rfl) ?_
   refine aF ?_
   exact bM ⟨rfl, _, [], [.box b1 0 (aQ t_0)], _, .two (.tmp 4 (v := .d (.lit (.int .i64 ((w64 ((w64 ((x4.Tree.Slots.length : Int) - 1)) - (((x6.won.map fun p : aB × Int => ((fun a : aB => Value.agg ((aK a).map bK).toArray) p.1, aN p.2))).length : Int))))))) rfl) (.tmp 5 (v := .d (.lit (.int .i64 0))) rfl), .refl _, .same _, (w64 ((w64 ((x4.Tree.Slots.length : Int) - 1)) - (((x6.won.map fun p : aB × Int => ((fun a : aB => Value.agg ((aK a).map bK).toArray) p.1, aN p.2))).length : Int)), 0), h, rfl, rfl⟩

theorem wL (t_0 : aO) (l_1 : List aG) (players_2 : List Int) {Q : ((Option bA) × (List Int) × Int) → Prop} (h : kY t_0 l_1 players_2 Q) : eZ Try.prog 49 [.agg (aQ t_0), .d (.sl 5 (l_1.map aL)), .d (.sl 1 (players_2.map aN))] [] (fun r' o' => ∃ (r : (Option bA) × (List Int) × Int), Q r ∧ r' = .tup [cO aX r.1, .d (.sl 1 (r.2.1.map aN)), .d (.lit (.int .i64 r.2.2))] ∧ o' = []) := by
 unfold kY at h
 refine gA Try.func49 rfl (rs := [.tmp 6, .tmp 7, .tmp 8]) Try.results49 Try.ntmps49 (Nat.le_of_ble_eq_true rfl) ?_
 refine aE ?_
 refine aC ?_
 refine bV rfl (eH (v := .agg (aQ t_0)) (aA rfl) rfl rfl rfl) ?_
 rintro _ ⟨b1, rfl⟩
 refine tr1 rfl (aJ (v := cO aX (none : Option bA)) (aA rfl) rfl rfl) ?_
 refine tr1 rfl (jK 3 1 (.inl rfl) (aA rfl)) ?_
 refine tr1 rfl (aJ (v := .d (.lit (.int .i64 0))) (aA rfl) rfl rfl) ?_
 refine aF ?_
 refine aE ?_
 refine aC ?_
 refine tr1 rfl (bH (aA rfl) rfl (i := 0) rfl cV (es := (aQ t_0)) rfl rfl) ?_
 refine tr1 rfl (aD (v := .d (.sl 5 (l_1.map aL))) (aA rfl) rfl rfl) ?_
 refine bV rfl (mV (aA rfl) (.func _ _ Try.call48) rfl rfl (pA _ _ h)) ?_
 rintro _ ⟨_, _, ⟨r3, h, rfl, rfl⟩, rfl⟩
 refine tr1 rfl (aD (v := .tup [cO aX r3.1, .d (.lit (.int .i64 r3.2))]) (aA rfl) rfl rfl) ?_
 refine tr1 rfl (bL (aA rfl) rfl rfl) ?_
 refine tr1 rfl (bL (aA rfl) rfl rfl) ?_
 refine tr1 rfl (aJ (v := cO aX r3.1) (aA rfl) rfl rfl) ?_
 refine tr1 rfl (aJ (v := .d (.lit (.int .i64 r3.2))) (aA rfl) rfl rfl) ?_
 refine aF ?_
 refine aE ?_
 refine aE ?_
 refine aC ?_
 refine tr1 rfl (aD (v := .d (.lit (.int .i64 r3.2))) (aA rfl) rfl rfl) ?_
 refine tr1 rfl (bI (aA rfl) rfl rfl rfl) ?_
 refine aF ?_
 refine bT rfl (fun c4 => ?_) (fun c4 => ?_)
 ·have h := dR c4 h
  refine aE ?_
  refine aC ?_
  refine tr1 rfl (aD (v := .d (.lit (.int .i64 r3.2))) (aA rfl) rfl rfl) ?_
  refine tr1 rfl (aJ (v := cO aX (none : Option bA)) (aA rfl) rfl rfl) ?_
  refine tr1 rfl (jK 3 1 (.inl rfl) (aA rfl)) ?_
  refine tr1 rfl (aJ (v := .d (.lit (.int .i64 r3.2))) (aA rfl) rfl rfl) ?_
  refine aF ?_
  exact bM ⟨rfl, _, [], [.box b1 0 (aQ t_0), .arr (.slice none 0 0) 3 1 (([] : List Int).map aN), .arr (.slice none 0 0) 3 1 (([] : List Int).map aN)], _, .three (.tmp 6 (v := cO aX (none : Option bA)) rfl) (.tmp 7 (v := .d (.lit (.slice none 0 0))) rfl) (.tmp 8 (v := .d (.lit (.int .i64 r3.2))) rfl), .refl _, tD (.cons (.same _) (.cons (.d (mA 2 rfl (dG (f := aN) fun _ => rfl))) (.cons (.same _) .nil))), ((none : Option bA), ([] : List Int), r3.2), h, rfl, rfl⟩
 ·have h := dQ c4 h
  refine bR ?_
  refine aE ?_
  refine aE ?_
  refine aC ?_
  refine tr1 rfl (aD (v := .d (.sl 1 (players_2.map aN))) (aA rfl) rfl rfl) ?_
  refine tr1 rfl (eB (aA rfl) rfl bS.of) ?_
  refine tr1 rfl (aD (v := .d (.lit (.int .i64 0))) (aA rfl) rfl rfl) ?_
  refine aF ?_
  refine cD ?_
  refine nP [20, 21] (fun (s6 : (Option bA) × Int × (List Int) × Value) => [(6, cO aX s6.1), (7, .d (.lit s6.2.2.2)), (22, .d (.lit (.int .i64 s6.2.1)))]) (fun (s6 : (Option bA) × Int × (List Int) × Value) => [.arr s6.2.2.2 3 1 (s6.2.2.1.map aN)]) (fun (k : Nat) (s6 : (Option bA) × Int × (List Int) × Value) => jR Q players_2 (players_2.length : Int) k s6.1 s6.2.1 s6.2.2.1) (fun _ h => h) (r3.1, 0, ([] : List Int), (.slice none 0 0)) h (bF [1] rfl rfl (aU rfl (aU rfl (aU rfl (bB ⟨rfl, rfl, trivial⟩))))) ?_
  rintro k8 ⟨d_0_6, t22_0_6, slots_0_6, w7⟩ h
  simp only [jR] at h
  refine aE ?_
  refine aC ?_
  refine tr1 rfl (bI (aA rfl) rfl rfl rfl) ?_
  refine aF ?_
  refine aE ?_
  refine bT rfl (fun c9 => ?_) (fun c9 => ?_)
  ·have h := dR c9 h
   refine bR ?_
   refine aE ?_
   refine cD ?_
   refine aE ?_
   refine aC ?_
   obtain ⟨x10, h11, h⟩ := cS h
   refine tr1 rfl (bQ (aA rfl) rfl rfl bS.of (bU aN h11)) ?_
   refine tr1 rfl (bP (aA rfl) rfl bJ) ?_
   refine tr1 rfl (aJ (v := .d (.lit (.int .i64 x10))) (aA rfl) rfl rfl) ?_
   refine aF ?_
   refine aE ?_
   refine aE ?_
   refine aC ?_
   refine tr1 rfl (aD (v := .d (.lit (.int .i64 x10))) (aA rfl) rfl rfl) ?_
   obtain ⟨r12, h13, h⟩ := cS h
   refine tr1 rfl (cH (aA rfl) (.func _ _ Try.call72) rfl rfl (BVs.refl _ _) (eP _ _ _ h13) rfl) ?_
   refine tr1 rfl (fU (aA rfl) rfl) ?_
   refine aF ?_
   refine bT rfl (fun c14 => ?_) (fun c14 => ?_)
   ·have h := dR c14 h
    refine aE ?_
    refine aC ?_
    refine tr1 rfl (aJ (v := cO aX (none : Option bA)) (aA rfl) rfl rfl) ?_
    refine tr1 rfl (jK 3 1 (.inl rfl) (aA rfl)) ?_
    refine tr1 rfl (aJ (v := .d (.lit (.int .i64 1))) (aA rfl) rfl rfl) ?_
    refine aF ?_
    exact bM ⟨rfl, _, [], [.arr w7 3 1 (slots_0_6.map aN), .arr (.slice none 0 0) 3 1 (([] : List Int).map aN)], _, .three (.tmp 6 (v := cO aX (none : Option bA)) rfl) (.tmp 7 (v := .d (.lit (.slice none 0 0))) rfl) (.tmp 8 (v := .d (.lit (.int .i64 1))) rfl), .refl _, tD (.cons (.same _) (.cons (.d (mA 1 rfl (dG (f := aN) fun _ => rfl))) (.cons (.same _) .nil))), ((none : Option bA), ([] : List Int), 1), h, rfl, rfl⟩
   ·have h := dQ c14 h
    refine bR ?_
    refine aC ?_
    refine tr1 rfl (aD (v := .d (.lit w7)) (aA rfl) rfl rfl) ?_
    refine tr1 rfl (aD (v := cO aX d_0_6) (aA rfl) rfl rfl) ?_
    obtain ⟨x16, h17, h⟩ := cS h
    refine tr1 rfl (nV (enc := aX) (aA rfl) rfl h17) ?_
    refine tr1 rfl (cY (aA rfl) rfl kP (es := [.sl 1 (x16.players.map aN)]) rfl) ?_
    refine tr1 rfl (bP (aA rfl) rfl cU) ?_
    refine tr1 rfl (aD (v := .d (.lit (.int .i64 x10))) (aA rfl) rfl rfl) ?_
    obtain ⟨r18, h19, h⟩ := cS h
    refine tr1 rfl (cH (aA rfl) (.func _ _ Try.call73) rfl rfl (BVs.refl _ _) (oX _ _ h19) rfl) ?_
    refine tr1 rfl (fQ (aA rfl) bS rfl rfl (rows := ([r18]).map aN) rfl (dG (f := aN) fun _ => rfl) rfl (by decide)) ?_
    obtain ⟨x20, h21, h⟩ := cS h
    refine bV rfl (fZ (i := 0) (aA rfl) bS rfl rfl rfl (fun _ => rfl) h21 rfl) ?_
    rintro _ ⟨v22, rfl⟩
    refine tr1 rfl (aJ (v := .d (.lit v22)) (aA rfl) rfl rfl) ?_
    refine eV ?_
    refine aC ?_
    refine tr1 rfl (bO (aA rfl) rfl rfl rfl) ?_
    refine tr1 rfl (aD (v := .d (.lit (.int .i64 ((w64 (t22_0_6 + 1)))))) (aA rfl) rfl rfl) ?_
    refine aF ?_
    exact ⟨(d_0_6, w64 (t22_0_6 + 1), x20, v22), h, bF [0] rfl rfl (aU rfl (aU rfl (aU rfl (bB ⟨rfl, rfl, trivial⟩))))⟩
  ·have h := dQ c9 h
   refine cX ?_
   refine .inl ⟨rfl, ?_⟩
   simp only [rI] at h
   refine aE ?_
   refine aC ?_
   refine tr1 rfl (aD (v := cO aX d_0_6) (aA rfl) rfl rfl) ?_
   refine tr1 rfl (aD (v := .d (.lit w7)) (aA rfl) rfl rfl) ?_
   refine tr1 rfl (aJ (v := cO aX d_0_6) (aA rfl) rfl rfl) ?_
   refine tr1 rfl (aJ (v := .d (.lit w7)) (aA rfl) rfl rfl) ?_
   refine tr1 rfl (aJ (v := .d (.lit (.int .i64 0))) (aA rfl) rfl rfl) ?_
   refine aF ?_
   exact bM ⟨rfl, _, [], [.arr w7 3 1 (slots_0_6.map aN)], _, .three (.tmp 6 (v := cO aX d_0_6) rfl) (.tmp 7 (v := .d (.lit w7)) rfl) (.tmp 8 (v := .d (.lit (.int .i64 0))) rfl), .refl _, tD (.cons (.same _) (.cons (.d (mA 0 rfl (dG (f := aN) fun _ => rfl))) (.cons (.same _) .nil))), (d_0_6, slots_0_6, 0), h, rfl, rfl⟩

theorem wZ (d_0 : bA) (slot_1 : Int) {r : Int} (h : lD d_0 slot_1 = some r) : Fn Try.prog 50 [.cp (aX d_0), .d (.lit (.int .i64 slot_1))] (.d (.lit (.int .i64 r))) := by
 unfold lD at h
 refine Fn.of_tr Try.func50 rfl (rs := [.tmp 4]) Try.results50 Try.ntmps50 (Nat.le_of_ble_eq_true rfl) ?_
 refine aE ?_
 refine aC ?_
 refine tr1 rfl (aJ (v := .d (.lit (.int .i64 0))) (aA rfl) rfl rfl) ?_
 refine aF ?_
 refine aE ?_
 refine aE ?_
 refine aC ?_
 refine tr1 rfl (aD (v := .cp [.lit (.int .i64 d_0.Tree.Rounds), .sl 1 (d_0.Tree.Slots.map aN), .sl 1 (d_0.players.map aN), .mp false (d_0.won.map fun p : aB × Int => ((fun a : aB => Value.agg ((aK a).map bK).toArray) p.1, aN p.2))]) (aA rfl) rfl rfl) ?_
 refine tr1 rfl (iC (aA rfl) rfl) ?_
 refine tr1 rfl (cY (aA rfl) rfl nM (es := [.lit (.int .i64 d_0.Tree.Rounds), .sl 1 (d_0.Tree.Slots.map aN)]) rfl) ?_
 refine tr1 rfl (cY (aA rfl) rfl fA (es := [.lit (.int .i64 d_0.Tree.Rounds)]) rfl) ?_
 refine tr1 rfl (bP (aA rfl) rfl bJ) ?_
 refine tr1 rfl (aD (v := .d (.lit (.int .i64 0))) (aA rfl) rfl rfl) ?_
 refine aF ?_
 refine cD ?_
 refine dI [0, 1, 12] (fun (s1 : Int) => [(13, .d (.lit (.int .i64 s1)))]) (fun (s1 : Int) => []) (fun (k : Nat) (s1 : Int) => gM d_0 slot_1 d_0.Tree.Rounds k s1) (fun _ => rfl) (0) h (bF [] rfl rfl (aU rfl (bB ⟨rfl, rfl, rfl, trivial⟩))) ?_
 rintro k2 t13_0_1 h
 simp only [gM] at h
 refine aE ?_
 refine aC ?_
 refine tr1 rfl (bI (aA rfl) rfl rfl rfl) ?_
 refine aF ?_
 refine aE ?_
 refine bT rfl (fun c3 => ?_) (fun c3 => ?_)
 ·have h := aZ c3 h
  refine bR ?_
  refine aE ?_
  refine cD ?_
  refine aE ?_
  refine aC ?_
  refine tr1 rfl (aD (v := .d (.lit (.int .i64 t13_0_1))) (aA rfl) rfl rfl) ?_
  refine tr1 rfl (aJ (v := .d (.lit (.int .i64 t13_0_1))) (aA rfl) rfl rfl) ?_
  refine aF ?_
  refine aE ?_
  obtain ⟨r4, h5, h⟩ := bind_some h
  refine dM mix 12 [0, 1, 5, 12, 13] [(6, .d (.lit (.int .i64 ((cI r4 0 d_0.won))))), (26, .d (.lit (.bool ((cT r4 d_0.won)))))] ?_ ?_
  ·refine ⟨[(17, 0, .cp [.lit (.int .i64 d_0.Tree.Rounds), .sl 1 (d_0.Tree.Slots.map aN), .sl 1 (d_0.players.map aN), .mp false (d_0.won.map fun p : aB × Int => ((fun a : aB => Value.agg ((aK a).map bK).toArray) p.1, aN p.2))]), (18, 1, .cp [.lit (.int .i64 d_0.Tree.Rounds), .sl 1 (d_0.Tree.Slots.map aN), .sl 1 (d_0.players.map aN), .mp false (d_0.won.map fun p : aB × Int => ((fun a : aB => Value.agg ((aK a).map bK).toArray) p.1, aN p.2))]), (19, 2, .cp [.mp false (d_0.won.map fun p : aB × Int => ((fun a : aB => Value.agg ((aK a).map bK).toArray) p.1, aN p.2))]), (20, 3, .d (.mp false (d_0.won.map fun p : aB × Int => ((fun a : aB => Value.agg ((aK a).map bK).toArray) p.1, aN p.2)))), (21, 4, .d (.lit (.int .i64 t13_0_1))), (22, 5, .d (.lit (.int .i64 slot_1))), (23, 6, .agg (aK r4)), (24, 7, .tup [.d (.lit (.int .i64 ((cI r4 0 d_0.won)))), .d (.lit (.bool ((cT r4 d_0.won))))]), (16, 8, .tup [.d (.lit (.int .i64 ((cI r4 0 d_0.won)))), .d (.lit (.bool ((cT r4 d_0.won))))]), (25, 9, .d (.lit (.int .i64 ((cI r4 0 d_0.won))))), (26, 10, .d (.lit (.bool ((cT r4 d_0.won))))), (6, 11, .d (.lit (.int .i64 ((cI r4 0 d_0.won)))))], ?_, ?_⟩
   · exact ⟨by kernel_rfl, by kernel_rfl, by kernel_rfl, by kernel_rfl, by kernel_rfl, [([], []), ([0], []), ([1], []), ([2], []), ([], []), ([], []), ([4, 5], []), ([3, 6], []), ([7], []), ([8], []), ([8], []), ([9], [])], by kernel_rfl, ⟨fun S hS => aH rfl (aT rfl (aD (v := .cp [.lit (.int .i64 d_0.Tree.Rounds), .sl 1 (d_0.Tree.Slots.map aN), .sl 1 (d_0.players.map aN), .mp false (d_0.won.map fun p : aB × Int => ((fun a : aB => Value.agg ((aK a).map bK).toArray) p.1, aN p.2))]) (aA rfl) (aI hS rfl) rfl)),
      fun S hS => aH rfl (aT rfl (iC (aA rfl) (aI hS rfl))),
      fun S hS => aH rfl (aT rfl (cY (aA rfl) (aI hS rfl) pZ (es := [.mp false (d_0.won.map fun p : aB × Int => ((fun a : aB => Value.agg ((aK a).map bK).toArray) p.1, aN p.2))]) rfl)),
      fun S hS => aH rfl (aT rfl (bP (aA rfl) (aI hS rfl) tO)),
      fun S hS => aH rfl (aT rfl (aD (v := .d (.lit (.int .i64 t13_0_1))) (aA rfl) (aI hS rfl) rfl)),
      fun S hS => aH rfl (aT rfl (aD (v := .d (.lit (.int .i64 slot_1))) (aA rfl) (aI hS rfl) rfl)),
      fun S hS => aH rfl (aT rfl (eN (aA rfl) (.func _ _ Try.call45) (ev2 (aI hS rfl) (ev2 (aI hS rfl) evn)) rfl (jE _ _ h5))),
      fun S hS => aH rfl (aT rfl (pQ (enc := aN) (agg := false) (l := d_0.won) (z := 0) (a := r4) (aA rfl) sF Try.underlying73 Try.zeroValue3 (fun _ _ => .d (.lit _ rfl)) (aI hS rfl) rfl rfl (aI hS rfl) (kE (enc := aK) r4 rfl))),
      fun S hS => aH rfl (aT rfl (aD (v := .tup [.d (.lit (.int .i64 ((cI r4 0 d_0.won)))), .d (.lit (.bool ((cT r4 d_0.won))))]) (aA rfl) (aI hS rfl) rfl)),
      fun S hS => aH rfl (aT rfl (bL (aA rfl) (aI hS rfl) rfl)),
      fun S hS => aH rfl (aT rfl (bL (aA rfl) (aI hS rfl) rfl)),
      fun S hS => aH rfl (aT rfl (aJ (v := .d (.lit (.int .i64 ((cI r4 0 d_0.won))))) (aA rfl) (aI hS rfl) rfl)), trivial⟩⟩
   · exact cZ (aU rfl (aU rfl (bB ⟨rfl, rfl, rfl, rfl, rfl, trivial⟩)))
  ·refine tr1 rfl (aJ (v := .d (.lit (.bool ((cT r4 d_0.won))))) (aA rfl) rfl rfl) ?_
   refine aF ?_
   refine aE ?_
   refine aC ?_
   refine tr1 rfl (aD (v := .d (.lit (.bool ((cT r4 d_0.won))))) (aA rfl) rfl rfl) ?_
   refine tr1 rfl (fU (aA rfl) rfl) ?_
   refine tr1 rfl (aD (v := .d (.lit (.bool ((!(cT r4 d_0.won)))))) (aA rfl) rfl rfl) ?_
   obtain ⟨b6, h7, h⟩ := bind_some h
   refine cF 10 [0, 1, 5, 12, 13] 39 b6 ?_ ?_
   ·refine bN (!(cT r4 d_0.won)) (fun c9 => ?_) (fun c9 => ?_)
    ·have h7 := aZ c9 h7
     refine aP rfl rfl (aA rfl) rfl (aA rfl) rfl c9 ?_
     refine aP rfl rfl (aA rfl) rfl (aA rfl) rfl c9 ?_
     refine aP rfl rfl (aA rfl) rfl (aA rfl) rfl c9 ?_
     refine aP rfl rfl (aA rfl) rfl (aA rfl) rfl c9 ?_
     refine aP rfl rfl (aA rfl) rfl (aA rfl) rfl c9 ?_
     refine aP rfl rfl (aA rfl) rfl (aA rfl) rfl c9 ?_
     refine aP rfl rfl (aA rfl) rfl (aA rfl) rfl c9 ?_
     refine aP rfl rfl (aA rfl) rfl (aA rfl) rfl c9 ?_
     refine aP rfl rfl (aA rfl) rfl (aA rfl) rfl c9 ?_
     refine tr1 rfl (bW (v := .d (.lit (.bool true))) (aA rfl) rfl c9 rfl rfl) ?_
     have h7 := Option.some.inj h7
     subst h7
     refine aF (bE rfl ⟨rfl, rfl, rfl, rfl, rfl, trivial⟩ rfl)
    ·have h7 := aY c9 h7
     refine aM rfl rfl (aA rfl) rfl c9 (aD (v := .d (.lit (.int .i64 ((cI r4 0 d_0.won))))) (aA rfl) rfl rfl) ?_
     refine aM rfl rfl (aA rfl) rfl c9 (aD (v := .cp [.lit (.int .i64 d_0.Tree.Rounds), .sl 1 (d_0.Tree.Slots.map aN), .sl 1 (d_0.players.map aN), .mp false (d_0.won.map fun p : aB × Int => ((fun a : aB => Value.agg ((aK a).map bK).toArray) p.1, aN p.2))]) (aA rfl) rfl rfl) ?_
     refine aM rfl rfl (aA rfl) rfl c9 (iC (aA rfl) rfl) ?_
     refine aM rfl rfl (aA rfl) rfl c9 (cY (aA rfl) rfl kP (es := [.sl 1 (d_0.players.map aN)]) rfl) ?_
     refine aM rfl rfl (aA rfl) rfl c9 (bP (aA rfl) rfl cU) ?_
     refine aM rfl rfl (aA rfl) rfl c9 (aD (v := .d (.lit (.int .i64 slot_1))) (aA rfl) rfl rfl) ?_
     obtain ⟨x10, h11, h7⟩ := bind_some h7
     refine aM rfl rfl (aA rfl) rfl c9 (bQ (aA rfl) rfl rfl bS.of (bU aN h11)) ?_
     refine aM rfl rfl (aA rfl) rfl c9 (bP (aA rfl) rfl bJ) ?_
     refine aM rfl rfl (aA rfl) rfl c9 (bI (aA rfl) rfl rfl rfl) ?_
     refine tr1 rfl (bX (v := .d (.lit (.bool ((!decide ((cI r4 0 d_0.won) = x10)))))) (aA rfl) rfl c9 rfl rfl) ?_
     have h7 := Option.some.inj h7
     subst h7
     refine aF (bE rfl ⟨rfl, rfl, rfl, rfl, rfl, trivial⟩ rfl)
   ·refine aF ?_
    refine bT rfl (fun c8 => ?_) (fun c8 => ?_)
    ·have h := aZ c8 h
     refine aE ?_
     refine aC ?_
     refine tr1 rfl (aD (v := .d (.lit (.int .i64 t13_0_1))) (aA rfl) rfl rfl) ?_
     refine tr1 rfl (aJ (v := .d (.lit (.int .i64 t13_0_1))) (aA rfl) rfl rfl) ?_
     refine aF ?_
     have h := Option.some.inj h
     subst h
     exact bM ⟨rfl, _, .one _, rfl, rfl⟩
    ·have h := aY c8 h
     refine eF ?_
     refine aC ?_
     refine tr1 rfl (bO (aA rfl) rfl rfl rfl) ?_
     refine tr1 rfl (aD (v := .d (.lit (.int .i64 ((w64 (t13_0_1 + 1)))))) (aA rfl) rfl rfl) ?_
     refine aF ?_
     exact ⟨(w64 (t13_0_1 + 1)), h, bF [] rfl rfl (aU rfl (bB ⟨rfl, rfl, rfl, trivial⟩))⟩
 ·have h := aY c3 h
  refine cX ?_
  refine .inl ⟨rfl, ?_⟩
  simp only [nY] at h
  refine aE ?_
  refine aC ?_
  refine tr1 rfl (aD (v := .cp [.lit (.int .i64 d_0.Tree.Rounds), .sl 1 (d_0.Tree.Slots.map aN), .sl 1 (d_0.players.map aN), .mp false (d_0.won.map fun p : aB × Int => ((fun a : aB => Value.agg ((aK a).map bK).toArray) p.1, aN p.2))]) (aA rfl) rfl rfl) ?_
  refine tr1 rfl (iC (aA rfl) rfl) ?_
  refine tr1 rfl (cY (aA rfl) rfl nM (es := [.lit (.int .i64 d_0.Tree.Rounds), .sl 1 (d_0.Tree.Slots.map aN)]) rfl) ?_
  refine tr1 rfl (cY (aA rfl) rfl fA (es := [.lit (.int .i64 d_0.Tree.Rounds)]) rfl) ?_
  refine tr1 rfl (bP (aA rfl) rfl bJ) ?_
  refine tr1 rfl (aJ (v := .d (.lit (.int .i64 d_0.Tree.Rounds))) (aA rfl) rfl rfl) ?_
  refine aF ?_
  have h := Option.some.inj h
  subst h
  exact bM ⟨rfl, _, .one _, rfl, rfl⟩

theorem yM (t_0 : aO) (l_1 : List aG) (player_2 : Int) {Q : (cR × Int) → Prop} (h : lV t_0 l_1 player_2 Q) : eZ Try.prog 17 [.agg (aQ t_0), .d (.sl 5 (l_1.map aL)), .d (.lit (.int .i64 player_2))] [] (fun r' o' => ∃ (r : cR × Int), Q r ∧ r' = .tup [.agg (cQ r.1), .d (.lit (.int .i64 r.2))] ∧ o' = []) := by
 unfold lV at h
 refine gA Try.func17 rfl (rs := [.cell 6 39, .tmp 7]) Try.results17 Try.ntmps17 (Nat.le_of_ble_eq_true rfl) ?_
 refine aE ?_
 refine aC ?_
 refine bV rfl (eH (v := .agg (aQ t_0)) (aA rfl) rfl rfl rfl) ?_
 rintro _ ⟨b1, rfl⟩
 refine bV rfl (dJ (zs := [.lit (.int .i64 0), .lit (.int .i64 0)]) (aA rfl) Try.zeroValue39 rfl rfl) ?_
 rintro _ ⟨b2, rfl⟩
 refine tr1 rfl (aJ (v := .d (.lit (.int .i64 0))) (aA rfl) rfl rfl) ?_
 refine aF ?_
 refine aE ?_
 refine aC ?_
 refine tr1 rfl (bH (aA rfl) rfl (i := 0) rfl cV (es := (aQ t_0)) rfl rfl) ?_
 refine tr1 rfl (aD (v := .d (.sl 5 (l_1.map aL))) (aA rfl) rfl rfl) ?_
 refine tr1 rfl (aD (v := .d (.lit (.int .i64 player_2))) (aA rfl) rfl rfl) ?_
 refine tr1 rfl (fQ (aA rfl) bS rfl rfl (rows := ([player_2]).map aN) rfl (dG (f := aN) fun _ => rfl) rfl (by decide)) ?_
 refine bV rfl (mV (aA rfl) (.func _ _ Try.call49) rfl rfl (wL _ _ _ h)) ?_
 rintro _ ⟨_, _, ⟨r3, h, rfl, rfl⟩, rfl⟩
 refine tr1 rfl (aD (v := .tup [cO aX r3.1, .d (.sl 1 (r3.2.1.map aN)), .d (.lit (.int .i64 r3.2.2))]) (aA rfl) rfl rfl) ?_
 refine tr1 rfl (bL (aA rfl) rfl rfl) ?_
 refine tr1 rfl (bL (aA rfl) rfl rfl) ?_
 refine tr1 rfl (bL (aA rfl) rfl rfl) ?_
 refine tr1 rfl (aJ (v := cO aX r3.1) (aA rfl) rfl rfl) ?_
 refine tr1 rfl (aJ (v := .d (.sl 1 (r3.2.1.map aN))) (aA rfl) rfl rfl) ?_
 refine tr1 rfl (aJ (v := .d (.lit (.int .i64 r3.2.2))) (aA rfl) rfl rfl) ?_
 refine aF ?_
 refine aE ?_
 refine cD ?_
 refine aE ?_
 refine aC ?_
 refine tr1 rfl (aD (v := .d (.lit (.int .i64 r3.2.2))) (aA rfl) rfl rfl) ?_
 refine tr1 rfl (bI (aA rfl) rfl rfl rfl) ?_
 refine tr1 rfl (aJ (v := .d (.lit (.bool ((!decide (r3.2.2 = 0)))))) (aA rfl) rfl rfl) ?_
 refine aF ?_
 refine bT rfl (fun c4 => ?_) (fun c4 => ?_)
 ·have h := dR c4 h
  refine aE ?_
  refine aC ?_
  refine tr1 rfl (eE (aA rfl) sL (zs := [.lit (.int .i64 0), .lit (.int .i64 0)]) rfl rfl rfl rfl (es := [.lit (.int .i64 0), .lit (.int .i64 0)]) rfl) ?_
  refine tr1 rfl (aD (v := .d (.lit (.int .i64 r3.2.2))) (aA rfl) rfl rfl) ?_
  refine tr1 rfl (cB (i := 1) rfl rfl rfl rfl rfl Try.sizeOf39 rfl (aA rfl) (Nat.le_of_ble_eq_true rfl) (ds' := (cQ (cR.mk 0 0))) rfl) ?_
  refine tr1 rfl (aJ (v := .d (.lit (.int .i64 r3.2.2))) (aA rfl) rfl rfl) ?_
  refine aF ?_
  exact bM ⟨rfl, _, [], [.box b1 0 (aQ t_0), .box b2 0 (cQ (cR.mk 0 0))], _, .two (.cell 6 39 rfl (i := 1) rfl pJ (es := (cQ (cR.mk 0 0))) rfl rfl) (.tmp 7 (v := .d (.lit (.int .i64 r3.2.2))) rfl), .refl _, .same _, ((cR.mk 0 0), r3.2.2), h, rfl, rfl⟩
 ·have h := dQ c4 h
  refine aE ?_
  refine aC ?_
  refine tr1 rfl (aD (v := .d (.sl 1 (r3.2.1.map aN))) (aA rfl) rfl rfl) ?_
  obtain ⟨x5, h6, h⟩ := cS h
  refine tr1 rfl (bQ (aA rfl) rfl rfl bS.of (bU aN h6)) ?_
  refine tr1 rfl (bP (aA rfl) rfl bJ) ?_
  refine tr1 rfl (bI (aA rfl) rfl rfl rfl) ?_
  refine tr1 rfl (aJ (v := .d (.lit (.bool ((decide (x5 < 0)))))) (aA rfl) rfl rfl) ?_
  refine aF ?_
  refine bT rfl (fun c7 => ?_) (fun c7 => ?_)
  ·have h := dR c7 h
   refine aE ?_
   refine aC ?_
   refine tr1 rfl (eE (aA rfl) sL (zs := [.lit (.int .i64 0), .lit (.int .i64 0)]) rfl rfl rfl rfl (es := [.lit (.int .i64 0), .lit (.int .i64 0)]) rfl) ?_
   refine tr1 rfl (cB (i := 1) rfl rfl rfl rfl rfl Try.sizeOf39 rfl (aA rfl) (Nat.le_of_ble_eq_true rfl) (ds' := (cQ (cR.mk 0 0))) rfl) ?_
   refine tr1 rfl (aJ (v := .d (.lit (.int .i64 3))) (aA rfl) rfl rfl) ?_
   refine aF ?_
   exact bM ⟨rfl, _, [], [.box b1 0 (aQ t_0), .box b2 0 (cQ (cR.mk 0 0))], _, .two (.cell 6 39 rfl (i := 1) rfl pJ (es := (cQ (cR.mk 0 0))) rfl rfl) (.tmp 7 (v := .d (.lit (.int .i64 3))) rfl), .refl _, .same _, ((cR.mk 0 0), 3), h, rfl, rfl⟩
  ·have h := dQ c7 h
   refine eF ?_
   refine aE ?_
   obtain ⟨x8, h9, h⟩ := cS h
   refine cL (yF (enc := aX) (k := 8) rfl h9) ?_
   obtain ⟨x10, h11, h⟩ := cS h
   obtain ⟨r12, h13, h⟩ := cS h
   obtain ⟨x14, h15, h⟩ := cS h
   refine dM mix 9 [6] [(35, .d (.lit (.int .i64 r12))), (36, .cp [.lit (.int .i64 x8.Tree.Rounds), .sl 1 (x8.Tree.Slots.map aN), .sl 1 (x8.players.map aN), .mp false (x8.won.map fun p : aB × Int => ((fun a : aB => Value.agg ((aK a).map bK).toArray) p.1, aN p.2))]), (39, .d (.lit (.int .i64 x14)))] ?_ ?_
   ·refine ⟨[(31, 0, .cp [.lit (.int .i64 x8.Tree.Rounds), .sl 1 (x8.Tree.Slots.map aN), .sl 1 (x8.players.map aN), .mp false (x8.won.map fun p : aB × Int => ((fun a : aB => Value.agg ((aK a).map bK).toArray) p.1, aN p.2))]), (32, 1, .d (.sl 1 (r3.2.1.map aN))), (33, 2, .cp [.lit (.int .i64 x10)]), (34, 3, .d (.lit (.int .i64 x10))), (35, 4, .d (.lit (.int .i64 r12))), (36, 5, .cp [.lit (.int .i64 x8.Tree.Rounds), .sl 1 (x8.Tree.Slots.map aN), .sl 1 (x8.players.map aN), .mp false (x8.won.map fun p : aB × Int => ((fun a : aB => Value.agg ((aK a).map bK).toArray) p.1, aN p.2))]), (37, 6, .d (.sl 1 (r3.2.1.map aN))), (38, 7, .cp [.lit (.int .i64 x14)]), (39, 8, .d (.lit (.int .i64 x14)))], ?_, ?_⟩
    · exact ⟨by kernel_rfl, by kernel_rfl, by kernel_rfl, by kernel_rfl, by kernel_rfl, [([], []), ([], []), ([1], []), ([2], []), ([0, 3], []), ([], []), ([], []), ([6], []), ([7], [])], by kernel_rfl, ⟨fun S hS => aH rfl (aT rfl (aD (v := .cp [.lit (.int .i64 x8.Tree.Rounds), .sl 1 (x8.Tree.Slots.map aN), .sl 1 (x8.players.map aN), .mp false (x8.won.map fun p : aB × Int => ((fun a : aB => Value.agg ((aK a).map bK).toArray) p.1, aN p.2))]) (aA rfl) (aI hS rfl) rfl)),
      fun S hS => aH rfl (aT rfl (aD (v := .d (.sl 1 (r3.2.1.map aN))) (aA rfl) (aI hS rfl) rfl)),
      fun S hS => aH rfl (aT rfl (bQ (aA rfl) (aI hS rfl) rfl bS.of (bU aN h11))),
      fun S hS => aH rfl (aT rfl (bP (aA rfl) (aI hS rfl) bJ)),
      fun S hS => aH rfl (aT rfl (cH (aA rfl) (.func _ _ Try.call50) (ev2 (aI hS rfl) (ev2 (aI hS rfl) evn)) rfl (BVs.refl _ _) (wZ _ _ h13) rfl)),
      fun S hS => aH rfl (aT rfl (aD (v := .cp [.lit (.int .i64 x8.Tree.Rounds), .sl 1 (x8.Tree.Slots.map aN), .sl 1 (x8.players.map aN), .mp false (x8.won.map fun p : aB × Int => ((fun a : aB => Value.agg ((aK a).map bK).toArray) p.1, aN p.2))]) (aA rfl) (aI hS rfl) rfl)),
      fun S hS => aH rfl (aT rfl (aD (v := .d (.sl 1 (r3.2.1.map aN))) (aA rfl) (aI hS rfl) rfl)),
      fun S hS => aH rfl (aT rfl (bQ (aA rfl) (aI hS rfl) rfl bS.of (bU aN h15))),
      fun S hS => aH rfl (aT rfl (bP (aA rfl) (aI hS rfl) bJ)), trivial⟩⟩
    · exact cZ (aU rfl (aU rfl (aU rfl (bB ⟨rfl, trivial⟩))))
   ·obtain ⟨r16, h17, h⟩ := cS h
    refine tr1 rfl (cH (aA rfl) (.func _ _ Try.call46) rfl rfl (BVs.refl _ _) (lX _ _ h17) rfl) ?_
    refine tr1 rfl (eE (aA rfl) sL (zs := [.lit (.int .i64 0), .lit (.int .i64 0)]) rfl rfl rfl rfl (es := [.lit (.int .i64 r12), .lit (.int .i64 r16)]) rfl) ?_
    refine tr1 rfl (cB (i := 1) rfl rfl rfl rfl rfl Try.sizeOf39 rfl (aA rfl) (Nat.le_of_ble_eq_true rfl) (ds' := (cQ (cR.mk r12 r16))) rfl) ?_
    refine tr1 rfl (aJ (v := .d (.lit (.int .i64 0))) (aA rfl) rfl rfl) ?_
    refine aF ?_
    exact bM ⟨rfl, _, [], [.box b1 0 (aQ t_0), .box b2 0 (cQ (cR.mk r12 r16))], _, .two (.cell 6 39 rfl (i := 1) rfl pJ (es := (cQ (cR.mk r12 r16))) rfl rfl) (.tmp 7 (v := .d (.lit (.int .i64 0))) rfl), .refl _, .same _, ((cR.mk r12 r16), 0), h, rfl, rfl⟩

theorem qG (a_0 : List Int) (b_1 : List Int) {r : Bool} (h : gN a_0 b_1 = some r) : Fn Try.prog 23 [.d (.sl 1 (a_0.map aN)), .d (.sl 1 (b_1.map aN))] (.d (.lit (.bool r))) := by
 unfold gN at h
 refine Fn.of_tr Try.func23 rfl (rs := [.tmp 4]) Try.results23 Try.ntmps23 (Nat.le_of_ble_eq_true rfl) ?_
 refine aE ?_
 refine aC ?_
 refine tr1 rfl (aJ (v := .d (.lit (.bool false))) (aA rfl) rfl rfl) ?_
 refine aF ?_
 refine aE ?_
 refine aE ?_
 refine aC ?_
 refine tr1 rfl (aD (v := .d (.sl 1 (a_0.map aN))) (aA rfl) rfl rfl) ?_
 refine tr1 rfl (eB (aA rfl) rfl bS.of) ?_
 refine tr1 rfl (aD (v := .d (.sl 1 (b_1.map aN))) (aA rfl) rfl rfl) ?_
 refine tr1 rfl (eB (aA rfl) rfl bS.of) ?_
 refine tr1 rfl (bI (aA rfl) rfl rfl rfl) ?_
 refine aF ?_
 refine bT rfl (fun c1 => ?_) (fun c1 => ?_)
 ·have h := aZ c1 h
  refine aE ?_
  refine aC ?_
  refine tr1 rfl (aJ (v := .d (.lit (.bool false))) (aA rfl) rfl rfl) ?_
  refine aF ?_
  have h := Option.some.inj h
  subst h
  exact bM ⟨rfl, _, .one _, rfl, rfl⟩
 ·have h := aY c1 h
  refine bR ?_
  refine aE ?_
  refine aE ?_
  refine aC ?_
  refine tr1 rfl (aJ (v := .d (.lit (.int .i64 0))) (aA rfl) rfl rfl) ?_
  refine aF ?_
  refine cD ?_
  refine dI [0, 1] (fun (s2 : Int) => [(5, .d (.lit (.int .i64 s2)))]) (fun (s2 : Int) => []) (fun (k : Nat) (s2 : Int) => fH a_0 b_1 k s2) (fun _ => rfl) (0) h (bF [] rfl rfl (aU rfl (bB ⟨rfl, rfl, trivial⟩))) ?_
  rintro k3 i_0_2 h
  simp only [fH] at h
  refine aE ?_
  refine aE ?_
  refine aC ?_
  refine tr1 rfl (aD (v := .d (.lit (.int .i64 i_0_2))) (aA rfl) rfl rfl) ?_
  refine tr1 rfl (aD (v := .d (.sl 1 (a_0.map aN))) (aA rfl) rfl rfl) ?_
  refine tr1 rfl (eB (aA rfl) rfl bS.of) ?_
  refine tr1 rfl (bI (aA rfl) rfl rfl rfl) ?_
  refine aF ?_
  refine bT rfl (fun c4 => ?_) (fun c4 => ?_)
  ·have h := aZ c4 h
   refine bR ?_
   refine aE ?_
   refine cD ?_
   refine aE ?_
   obtain ⟨x5, h6, h⟩ := bind_some h
   obtain ⟨x7, h8, h⟩ := bind_some h
   refine dM mix 8 [0, 1, 5] [(20, .d (.lit (.int .i64 x5))), (24, .d (.lit (.int .i64 x7)))] ?_ ?_
   ·refine ⟨[(17, 0, .d (.sl 1 (a_0.map aN))), (18, 1, .d (.lit (.int .i64 i_0_2))), (19, 2, .cp [.lit (.int .i64 x5)]), (20, 3, .d (.lit (.int .i64 x5))), (21, 4, .d (.sl 1 (b_1.map aN))), (22, 5, .d (.lit (.int .i64 i_0_2))), (23, 6, .cp [.lit (.int .i64 x7)]), (24, 7, .d (.lit (.int .i64 x7)))], ?_, ?_⟩
    · exact ⟨by kernel_rfl, by kernel_rfl, by kernel_rfl, by kernel_rfl, by kernel_rfl, [([], []), ([], []), ([0, 1], []), ([2], []), ([], []), ([], []), ([4, 5], []), ([6], [])], by kernel_rfl, ⟨fun S hS => aH rfl (aT rfl (aD (v := .d (.sl 1 (a_0.map aN))) (aA rfl) (aI hS rfl) rfl)),
      fun S hS => aH rfl (aT rfl (aD (v := .d (.lit (.int .i64 i_0_2))) (aA rfl) (aI hS rfl) rfl)),
      fun S hS => aH rfl (aT rfl (bQ (aA rfl) (aI hS rfl) (aI hS rfl) bS.of (bU aN h6))),
      fun S hS => aH rfl (aT rfl (bP (aA rfl) (aI hS rfl) bJ)),
      fun S hS => aH rfl (aT rfl (aD (v := .d (.sl 1 (b_1.map aN))) (aA rfl) (aI hS rfl) rfl)),
      fun S hS => aH rfl (aT rfl (aD (v := .d (.lit (.int .i64 i_0_2))) (aA rfl) (aI hS rfl) rfl)),
      fun S hS => aH rfl (aT rfl (bQ (aA rfl) (aI hS rfl) (aI hS rfl) bS.of (bU aN h8))),
      fun S hS => aH rfl (aT rfl (bP (aA rfl) (aI hS rfl) bJ)), trivial⟩⟩
    · exact cZ (aU rfl (aU rfl (bB ⟨rfl, rfl, rfl, trivial⟩)))
   ·refine tr1 rfl (bI (aA rfl) rfl rfl rfl) ?_
    refine aF ?_
    refine bT rfl (fun c9 => ?_) (fun c9 => ?_)
    ·have h := aZ c9 h
     refine aE ?_
     refine aC ?_
     refine tr1 rfl (aJ (v := .d (.lit (.bool false))) (aA rfl) rfl rfl) ?_
     refine aF ?_
     have h := Option.some.inj h
     subst h
     exact bM ⟨rfl, _, .one _, rfl, rfl⟩
    ·have h := aY c9 h
     refine eF ?_
     refine aC ?_
     refine tr1 rfl (aD (v := .d (.lit (.int .i64 i_0_2))) (aA rfl) rfl rfl) ?_
     refine tr1 rfl (bO (aA rfl) rfl rfl rfl) ?_
     refine tr1 rfl (aJ (v := .d (.lit (.int .i64 ((w64 (i_0_2 + 1)))))) (aA rfl) rfl rfl) ?_
     refine aF ?_
     exact ⟨(w64 (i_0_2 + 1)), h, bF [] rfl rfl (aU rfl (bB ⟨rfl, rfl, trivial⟩))⟩
  ·have h := aY c4 h
   refine cX ?_
   refine .inl ⟨rfl, ?_⟩
   simp only [mF] at h
   refine aE ?_
   refine aC ?_
   refine tr1 rfl (aJ (v := .d (.lit (.bool true))) (aA rfl) rfl rfl) ?_
   refine aF ?_
   have h := Option.some.inj h
   subst h
   exact bM ⟨rfl, _, .one _, rfl, rfl⟩

theorem dV (n_0 : Int) (low_1 : Int) (high_2 : Int) {r : Bool} (h : dK n_0 low_1 high_2 = some r) : Fn Try.prog 41 [.d (.lit (.int .i64 n_0)), .d (.lit (.int .i64 low_1)), .d (.lit (.int .i64 high_2))] (.d (.lit (.bool r))) := by
 unfold dK at h
 refine Fn.of_tr Try.func41 rfl (rs := [.tmp 6]) Try.results41 Try.ntmps41 (Nat.le_of_ble_eq_true rfl) ?_
 refine aE ?_
 refine aC ?_
 refine tr1 rfl (aJ (v := .d (.lit (.bool false))) (aA rfl) rfl rfl) ?_
 refine aF ?_
 refine aE ?_
 refine aC ?_
 refine tr1 rfl (aD (v := .d (.lit (.int .i64 n_0))) (aA rfl) rfl rfl) ?_
 refine tr1 rfl (aD (v := .d (.lit (.int .i64 low_1))) (aA rfl) rfl rfl) ?_
 refine tr1 rfl (bI (aA rfl) rfl rfl rfl) ?_
 refine tr1 rfl (aD (v := .d (.lit (.bool ((decide (low_1 ≤ n_0)))))) (aA rfl) rfl rfl) ?_
 obtain ⟨b1, h2, h⟩ := bind_some h
 refine cF 4 [] 14 b1 ?_ ?_
 ·refine bN (decide (low_1 ≤ n_0)) (fun c3 => ?_) (fun c3 => ?_)
  ·have h2 := aZ c3 h2
   refine aM rfl rfl (aA rfl) rfl c3 (aD (v := .d (.lit (.int .i64 n_0))) (aA rfl) rfl rfl) ?_
   refine aM rfl rfl (aA rfl) rfl c3 (aD (v := .d (.lit (.int .i64 high_2))) (aA rfl) rfl rfl) ?_
   refine aM rfl rfl (aA rfl) rfl c3 (bI (aA rfl) rfl rfl rfl) ?_
   refine tr1 rfl (bW (v := .d (.lit (.bool ((decide (n_0 ≤ high_2)))))) (aA rfl) rfl c3 rfl rfl) ?_
   have h2 := Option.some.inj h2
   subst h2
   refine aF (bE rfl trivial rfl)
  ·have h2 := aY c3 h2
   refine aP rfl rfl (aA rfl) rfl (aA rfl) rfl c3 ?_
   refine aP rfl rfl (aA rfl) rfl (aA rfl) rfl c3 ?_
   refine aP rfl rfl (aA rfl) rfl (aA rfl) rfl c3 ?_
   refine tr1 rfl (bX (v := .d (.lit (.bool false))) (aA rfl) rfl c3 rfl rfl) ?_
   have h2 := Option.some.inj h2
   subst h2
   refine aF (bE rfl trivial rfl)
 ·refine tr1 rfl (aJ (v := .d (.lit (.bool b1))) (aA rfl) rfl rfl) ?_
  refine aF ?_
  have h := Option.some.inj h
  subst h
  exact bM ⟨rfl, _, .one _, rfl, rfl⟩

theorem wO (t_0 : aO) {r : Bool} (h : jH t_0 = some r) : Fn Try.prog 53 [.agg (aQ t_0)] (.d (.lit (.bool r))) := by
 unfold jH at h
 refine Fn.of_tr Try.func53 rfl (rs := [.tmp 2]) Try.results53 Try.ntmps53 (Nat.le_of_ble_eq_true rfl) ?_
 refine aE ?_
 refine aC ?_
 refine bV rfl (eH (v := .agg (aQ t_0)) (aA rfl) rfl rfl rfl) ?_
 rintro _ ⟨b1, rfl⟩
 refine tr1 rfl (aJ (v := .d (.lit (.bool false))) (aA rfl) rfl rfl) ?_
 refine aF ?_
 refine aE ?_
 refine aE ?_
 refine aC ?_
 refine tr1 rfl (aV (aA rfl) rfl fA) ?_
 refine tr1 rfl (aW (aA rfl) rfl (i := 0) rfl rfl bJ) ?_
 obtain ⟨r2, h3, h⟩ := bind_some h
 refine tr1 rfl (cH (aA rfl) (.func _ _ Try.call41) rfl rfl (BVs.refl _ _) (dV _ _ _ h3) rfl) ?_
 refine tr1 rfl (fU (aA rfl) rfl) ?_
 refine tr1 rfl (aD (v := .d (.lit (.bool (!r2)))) (aA rfl) rfl rfl) ?_
 obtain ⟨b4, h5, h⟩ := bind_some h
 refine cF 9 [1] 18 b4 ?_ ?_
 ·refine bN (!r2) (fun c41 => ?_) (fun c41 => ?_)
  ·have h5 := aZ c41 h5
   refine aP rfl rfl (aA rfl) rfl (aA rfl) rfl c41 ?_
   refine aP rfl rfl (aA rfl) rfl (aA rfl) rfl c41 ?_
   refine aP rfl rfl (aA rfl) rfl (aA rfl) rfl c41 ?_
   refine aP rfl rfl (aA rfl) rfl (aA rfl) rfl c41 ?_
   refine aP rfl rfl (aA rfl) rfl (aA rfl) rfl c41 ?_
   refine aP rfl rfl (aA rfl) rfl (aA rfl) rfl c41 ?_
   refine aP rfl rfl (aA rfl) rfl (aA rfl) rfl c41 ?_
   refine aP rfl rfl (aA rfl) rfl (aA rfl) rfl c41 ?_
   refine tr1 rfl (bW (v := .d (.lit (.bool true))) (aA rfl) rfl c41 rfl rfl) ?_
   have h5 := Option.some.inj h5
   subst h5
   refine aF (bE rfl ⟨rfl, trivial⟩ rfl)
  ·have h5 := aY c41 h5
   refine aM rfl rfl (aA rfl) rfl c41 (aV (aA rfl) rfl dU) ?_
   refine aM rfl rfl (aA rfl) rfl c41 (aW (aA rfl) rfl (i := 0) rfl rfl cU) ?_
   refine aM rfl rfl (aA rfl) rfl c41 (eB (aA rfl) rfl bS.of) ?_
   refine aM rfl rfl (aA rfl) rfl c41 (aV (aA rfl) rfl fA) ?_
   refine aM rfl rfl (aA rfl) rfl c41 (aW (aA rfl) rfl (i := 0) rfl rfl bJ) ?_
   refine aM rfl rfl (aA rfl) rfl c41 (oW (aA rfl) rfl Try.runUnderlying3 Try.runUnderlying45) ?_
   obtain ⟨u42, h43, h5⟩ := bind_some h5
   refine aM rfl rfl (aA rfl) rfl c41 (aHj (aA rfl) rfl rfl (nN h43)) ?_
   refine aM rfl rfl (aA rfl) rfl c41 (bI (aA rfl) rfl rfl rfl) ?_
   refine tr1 rfl (bX (v := .d (.lit (.bool ((!decide ((t_0.Slots.length : Int) = (w64 (1 * 2 ^ (min (IntKind.u64.wrap t_0.Rounds).toNat 64))))))))) (aA rfl) rfl c41 rfl rfl) ?_
   have h5 := Option.some.inj h5
   subst h5
   refine aF (bE rfl ⟨rfl, trivial⟩ rfl)
 ·refine aF ?_
  refine bT rfl (fun c6 => ?_) (fun c6 => ?_)
  ·have h := aZ c6 h
   refine aE ?_
   refine aC ?_
   refine tr1 rfl (aJ (v := .d (.lit (.bool false))) (aA rfl) rfl rfl) ?_
   refine aF ?_
   have h := Option.some.inj h
   subst h
   refine cL (cG (cK (l := [2]) ⟨rfl, trivial⟩)) ?_
   exact bM ⟨rfl, _, .one _, rfl, rfl⟩
  ·have h := aY c6 h
   refine bR ?_
   refine aE ?_
   refine aE ?_
   refine aC ?_
   refine tr1 rfl (aJ (v := .d (.lit (.int .i64 0))) (aA rfl) rfl rfl) ?_
   refine aF ?_
   refine cD ?_
   refine dI [1] (fun (s7 : Int) => [(3, .d (.lit (.int .i64 s7)))]) (fun (s7 : Int) => [.box b1 0 (aQ t_0)]) (fun (k : Nat) (s7 : Int) => fC t_0 k s7) (fun _ => rfl) (0) h (bF [0] rfl rfl (aU rfl (bB ⟨rfl, trivial⟩))) ?_
   rintro k8 i_0_7 h
   simp only [fC] at h
   refine aE ?_
   refine aE ?_
   refine aC ?_
   refine tr1 rfl (aD (v := .d (.lit (.int .i64 i_0_7))) (aA rfl) rfl rfl) ?_
   refine tr1 rfl (aV (aA rfl) rfl dU) ?_
   refine tr1 rfl (aW (aA rfl) rfl (i := 0) rfl rfl cU) ?_
   refine tr1 rfl (eB (aA rfl) rfl bS.of) ?_
   refine tr1 rfl (bI (aA rfl) rfl rfl rfl) ?_
   refine aF ?_
   refine bT rfl (fun c9 => ?_) (fun c9 => ?_)
   ·have h := aZ c9 h
    refine bR ?_
    refine aE ?_
    refine cD ?_
    refine aE ?_
    refine aE ?_
    refine aC ?_
    refine tr1 rfl (aV (aA rfl) rfl dU) ?_
    refine tr1 rfl (aW (aA rfl) rfl (i := 0) rfl rfl cU) ?_
    refine tr1 rfl (aD (v := .d (.lit (.int .i64 i_0_7))) (aA rfl) rfl rfl) ?_
    obtain ⟨x10, h11, h⟩ := bind_some h
    refine tr1 rfl (bQ (aA rfl) rfl rfl bS.of (bU aN h11)) ?_
    refine tr1 rfl (bP (aA rfl) rfl bJ) ?_
    obtain ⟨r12, h13, h⟩ := bind_some h
    refine tr1 rfl (cH (aA rfl) (.func _ _ Try.call41) rfl rfl (BVs.refl _ _) (dV _ _ _ h13) rfl) ?_
    refine tr1 rfl (fU (aA rfl) rfl) ?_
    refine tr1 rfl (aD (v := .d (.lit (.bool (!r12)))) (aA rfl) rfl rfl) ?_
    obtain ⟨b14, h15, h⟩ := bind_some h
    refine cF 21 [1, 3] 54 b14 ?_ ?_
    ·refine bN (!r12) (fun c30 => ?_) (fun c30 => ?_)
     ·have h15 := aZ c30 h15
      refine aP rfl rfl (aA rfl) rfl (aA rfl) rfl c30 ?_
      refine aP rfl rfl (aA rfl) rfl (aA rfl) rfl c30 ?_
      refine aP rfl rfl (aA rfl) rfl (aA rfl) rfl c30 ?_
      refine aP rfl rfl (aA rfl) rfl (aA rfl) rfl c30 ?_
      refine dY rfl rfl (aA rfl) rfl (aA rfl) rfl ?_
      refine dY rfl rfl (aA rfl) rfl (aA rfl) rfl ?_
      refine dY rfl rfl (aA rfl) rfl (aA rfl) rfl ?_
      refine dY rfl rfl (aA rfl) rfl (aA rfl) rfl ?_
      refine dY rfl rfl (aA rfl) rfl (aA rfl) rfl ?_
      refine dY rfl rfl (aA rfl) rfl (aA rfl) rfl ?_
      refine aP rfl rfl (aA rfl) rfl (aA rfl) rfl c30 ?_
      refine aP rfl rfl (aA rfl) rfl (aA rfl) rfl c30 ?_
      refine dY rfl rfl (aA rfl) rfl (aA rfl) rfl ?_
      refine dY rfl rfl (aA rfl) rfl (aA rfl) rfl ?_
      refine dY rfl rfl (aA rfl) rfl (aA rfl) rfl ?_
      refine dY rfl rfl (aA rfl) rfl (aA rfl) rfl ?_
      refine dY rfl rfl (aA rfl) rfl (aA rfl) rfl ?_
      refine dY rfl rfl (aA rfl) rfl (aA rfl) rfl ?_
      refine dY rfl rfl (aA rfl) rfl (aA rfl) rfl ?_
      refine aP rfl rfl (aA rfl) rfl (aA rfl) rfl c30 ?_
      refine tr1 rfl (bW (v := .d (.lit (.bool true))) (aA rfl) rfl c30 rfl rfl) ?_
      have h15 := Option.some.inj h15
      subst h15
      refine aF (bE rfl ⟨rfl, rfl, trivial⟩ rfl)
     ·have h15 := aY c30 h15
      refine aM rfl rfl (aA rfl) rfl c30 (aD (v := .d (.lit (.int .i64 i_0_7))) (aA rfl) rfl rfl) ?_
      refine aM rfl rfl (aA rfl) rfl c30 (aMp (aA rfl) rfl rfl (by decide)) ?_
      refine aM rfl rfl (aA rfl) rfl c30 (bI (aA rfl) rfl rfl rfl) ?_
      refine aM rfl rfl (aA rfl) rfl c30 (aD (v := .d (.lit (.bool ((decide ((i_0_7.tmod 2) = 1)))))) (aA rfl) rfl rfl) ?_
      obtain ⟨b31, h32, h15⟩ := bind_some h15
      refine cF 7 [1, 3, 33, 34, 35, 36, 37] 44 b31 ?_ ?_
      ·refine bN (decide ((i_0_7.tmod 2) = 1)) (fun c38 => ?_) (fun c38 => ?_)
       ·have h32 := aZ c38 h32
        refine aM rfl rfl (aA rfl) rfl c38 (aV (aA rfl) rfl dU) ?_
        refine aM rfl rfl (aA rfl) rfl c38 (aW (aA rfl) rfl (i := 0) rfl rfl cU) ?_
        refine aM rfl rfl (aA rfl) rfl c38 (aD (v := .d (.lit (.int .i64 i_0_7))) (aA rfl) rfl rfl) ?_
        obtain ⟨x39, h40, h32⟩ := bind_some h32
        refine aM rfl rfl (aA rfl) rfl c38 (bQ (aA rfl) rfl rfl bS.of (bU aN h40)) ?_
        refine aM rfl rfl (aA rfl) rfl c38 (bP (aA rfl) rfl bJ) ?_
        refine aM rfl rfl (aA rfl) rfl c38 (bI (aA rfl) rfl rfl rfl) ?_
        refine aM rfl rfl (aA rfl) rfl c30 (bW (v := .d (.lit (.bool ((decide (x39 = (-1))))))) (aA rfl) rfl c38 rfl rfl) ?_
        have h32 := Option.some.inj h32
        subst h32
        refine aF (bE rfl ⟨rfl, rfl, rfl, rfl, rfl, rfl, rfl, trivial⟩ rfl)
       ·have h32 := aY c38 h32
        refine aP rfl rfl (aA rfl) rfl (aA rfl) rfl c38 ?_
        refine aP rfl rfl (aA rfl) rfl (aA rfl) rfl c38 ?_
        refine aP rfl rfl (aA rfl) rfl (aA rfl) rfl c38 ?_
        refine aP rfl rfl (aA rfl) rfl (aA rfl) rfl c38 ?_
        refine aP rfl rfl (aA rfl) rfl (aA rfl) rfl c38 ?_
        refine aP rfl rfl (aA rfl) rfl (aA rfl) rfl c38 ?_
        refine aM rfl rfl (aA rfl) rfl c30 (bX (v := .d (.lit (.bool false))) (aA rfl) rfl c38 rfl rfl) ?_
        have h32 := Option.some.inj h32
        subst h32
        refine aF (bE rfl ⟨rfl, rfl, rfl, rfl, rfl, rfl, rfl, trivial⟩ rfl)
      ·refine aM rfl rfl (aA rfl) rfl c30 (aD (v := .d (.lit (.bool b31))) (aA rfl) rfl rfl) ?_
       obtain ⟨b33, h34, h15⟩ := bind_some h15
       refine cF 8 [1, 3, 33, 34, 35, 36, 37, 44, 45] 53 b33 ?_ ?_
       ·refine bN (b31) (fun c35 => ?_) (fun c35 => ?_)
        ·have h34 := aZ c35 h34
         refine aM rfl rfl (aA rfl) rfl c35 (aV (aA rfl) rfl dU) ?_
         refine aM rfl rfl (aA rfl) rfl c35 (aW (aA rfl) rfl (i := 0) rfl rfl cU) ?_
         refine aM rfl rfl (aA rfl) rfl c35 (aD (v := .d (.lit (.int .i64 i_0_7))) (aA rfl) rfl rfl) ?_
         refine aM rfl rfl (aA rfl) rfl c35 (bO (aA rfl) rfl rfl rfl) ?_
         obtain ⟨x36, h37, h34⟩ := bind_some h34
         refine aM rfl rfl (aA rfl) rfl c35 (bQ (aA rfl) rfl rfl bS.of (bU aN h37)) ?_
         refine aM rfl rfl (aA rfl) rfl c35 (bP (aA rfl) rfl bJ) ?_
         refine aM rfl rfl (aA rfl) rfl c35 (bI (aA rfl) rfl rfl rfl) ?_
         refine aM rfl rfl (aA rfl) rfl c30 (bW (v := .d (.lit (.bool ((decide (x36 = (-1))))))) (aA rfl) rfl c35 rfl rfl) ?_
         have h34 := Option.some.inj h34
         subst h34
         refine aF (bE rfl ⟨rfl, rfl, rfl, rfl, rfl, rfl, rfl, rfl, rfl, trivial⟩ rfl)
        ·have h34 := aY c35 h34
         refine aP rfl rfl (aA rfl) rfl (aA rfl) rfl c35 ?_
         refine aP rfl rfl (aA rfl) rfl (aA rfl) rfl c35 ?_
         refine aP rfl rfl (aA rfl) rfl (aA rfl) rfl c35 ?_
         refine aP rfl rfl (aA rfl) rfl (aA rfl) rfl c35 ?_
         refine aP rfl rfl (aA rfl) rfl (aA rfl) rfl c35 ?_
         refine aP rfl rfl (aA rfl) rfl (aA rfl) rfl c35 ?_
         refine aP rfl rfl (aA rfl) rfl (aA rfl) rfl c35 ?_
         refine aM rfl rfl (aA rfl) rfl c30 (bX (v := .d (.lit (.bool false))) (aA rfl) rfl c35 rfl rfl) ?_
         have h34 := Option.some.inj h34
         subst h34
         refine aF (bE rfl ⟨rfl, rfl, rfl, rfl, rfl, rfl, rfl, rfl, rfl, trivial⟩ rfl)
       ·refine tr1 rfl (bX (v := .d (.lit (.bool b33))) (aA rfl) rfl c30 rfl rfl) ?_
        have h15 := Option.some.inj h15
        subst h15
        refine aF (bE rfl ⟨rfl, rfl, trivial⟩ rfl)
    ·refine aF ?_
     refine bT rfl (fun c16 => ?_) (fun c16 => ?_)
     ·have h := aZ c16 h
      refine aE ?_
      refine aC ?_
      refine tr1 rfl (aJ (v := .d (.lit (.bool false))) (aA rfl) rfl rfl) ?_
      refine aF ?_
      have h := Option.some.inj h
      subst h
      refine cL (cG (cK (l := [2]) ⟨rfl, trivial⟩)) ?_
      exact bM ⟨rfl, _, .one _, rfl, rfl⟩
     ·have h := aY c16 h
      refine bR ?_
      refine aE ?_
      refine aC ?_
      refine tr1 rfl (aJ (v := .d (.lit (.int .i64 0))) (aA rfl) rfl rfl) ?_
      refine aF ?_
      refine uZ ?_
      refine dI [1, 3] (fun (s17 : Int) => [(4, .d (.lit (.int .i64 s17)))]) (fun (s17 : Int) => [.box b1 0 (aQ t_0)]) (fun (k : Nat) (s17 : Int) => fD (fC t_0 k8) i_0_7 t_0 k s17) (fun _ => rfl) (0) h (bF [0] rfl rfl (aU rfl (bB ⟨rfl, rfl, trivial⟩))) ?_
      rintro k18 k_2_17 h
      simp only [fD] at h
      refine aE ?_
      refine aE ?_
      refine aC ?_
      refine tr1 rfl (aD (v := .d (.lit (.int .i64 k_2_17))) (aA rfl) rfl rfl) ?_
      refine tr1 rfl (aD (v := .d (.lit (.int .i64 i_0_7))) (aA rfl) rfl rfl) ?_
      refine tr1 rfl (bI (aA rfl) rfl rfl rfl) ?_
      refine aF ?_
      refine bT rfl (fun c19 => ?_) (fun c19 => ?_)
      ·have h := aZ c19 h
       refine bR ?_
       refine aE ?_
       refine cD ?_
       refine aE ?_
       obtain ⟨x20, h21, h⟩ := bind_some h
       obtain ⟨x22, h23, h⟩ := bind_some h
       obtain ⟨b24, h25, h⟩ := bind_some h
       refine dM mix 19 [1, 3, 4] [(78, .d (.lit (.bool b24)))] ?_ ?_
       ·refine bN (decide (x20 = x22)) (fun c26 => ?_) (fun c26 => ?_)
        ·have h25 := aZ c26 h25
         obtain ⟨x27, h28, h25⟩ := bind_some h25
         have h25 := Option.some.inj h25
         subst h25
         refine ⟨[(60, 0, .bp b1 0 1), (61, 1, .d (.sl 1 (t_0.Slots.map aN))), (62, 2, .d (.lit (.int .i64 k_2_17))), (63, 3, .cp [.lit (.int .i64 x20)]), (64, 4, .d (.lit (.int .i64 x20))), (65, 5, .bp b1 0 1), (66, 6, .d (.sl 1 (t_0.Slots.map aN))), (67, 7, .d (.lit (.int .i64 i_0_7))), (68, 8, .cp [.lit (.int .i64 x22)]), (69, 9, .d (.lit (.int .i64 x22))), (70, 10, .d (.lit (.bool ((decide (x20 = x22)))))), (71, 11, .d (.lit (.bool ((decide (x20 = x22)))))), (72, 12, .bp b1 0 1), (73, 13, .d (.sl 1 (t_0.Slots.map aN))), (74, 14, .d (.lit (.int .i64 i_0_7))), (75, 15, .cp [.lit (.int .i64 x27)]), (76, 16, .d (.lit (.int .i64 x27))), (77, 17, .d (.lit (.bool ((!decide (x27 = (-1))))))), (78, 18, .d (.lit (.bool ((!decide (x27 = (-1)))))))], ?_, ?_⟩
         · exact ⟨by kernel_rfl, by kernel_rfl, by kernel_rfl, by kernel_rfl, by kernel_rfl, [([], []), ([0], []), ([], []), ([1, 2], []), ([3], []), ([], []), ([5], []), ([], []), ([6, 7], []), ([8], []), ([4, 9], []), ([10], []), ([11], []), ([11, 12], []), ([11], []), ([11, 13, 14], []), ([11, 15], []), ([11, 16], []), ([11, 17], [])], by kernel_rfl, ⟨fun S hS => aH rfl (aT rfl (aV (aA rfl) (aI hS rfl) dU)),
      fun S hS => aH rfl (aT rfl (aW (aA rfl) (aI hS rfl) (i := 0) rfl rfl cU)),
      fun S hS => aH rfl (aT rfl (aD (v := .d (.lit (.int .i64 k_2_17))) (aA rfl) (aI hS rfl) rfl)),
      fun S hS => aH rfl (aT rfl (bQ (aA rfl) (aI hS rfl) (aI hS rfl) bS.of (bU aN h21))),
      fun S hS => aH rfl (aT rfl (bP (aA rfl) (aI hS rfl) bJ)),
      fun S hS => aH rfl (aT rfl (aV (aA rfl) (aI hS rfl) dU)),
      fun S hS => aH rfl (aT rfl (aW (aA rfl) (aI hS rfl) (i := 0) rfl rfl cU)),
      fun S hS => aH rfl (aT rfl (aD (v := .d (.lit (.int .i64 i_0_7))) (aA rfl) (aI hS rfl) rfl)),
      fun S hS => aH rfl (aT rfl (bQ (aA rfl) (aI hS rfl) (aI hS rfl) bS.of (bU aN h23))),
      fun S hS => aH rfl (aT rfl (bP (aA rfl) (aI hS rfl) bJ)),
      fun S hS => aH rfl (aT rfl (bI (aA rfl) (aI hS rfl) (aI hS rfl) rfl)),
      fun S hS => aH rfl (aT rfl (aD (v := .d (.lit (.bool ((decide (x20 = x22)))))) (aA rfl) (aI hS rfl) rfl)),
      fun S hS => aH rfl (bD rfl rfl (aA rfl) (aS hS rfl) c26 (aV (aA rfl) (aI hS rfl) dU)),
      fun S hS => aH rfl (bD rfl rfl (aA rfl) (aS hS rfl) c26 (aW (aA rfl) (aI hS rfl) (i := 0) rfl rfl cU)),
      fun S hS => aH rfl (bD rfl rfl (aA rfl) (aS hS rfl) c26 (aD (v := .d (.lit (.int .i64 i_0_7))) (aA rfl) (aI hS rfl) rfl)),
      fun S hS => aH rfl (bD rfl rfl (aA rfl) (aS hS rfl) c26 (bQ (aA rfl) (aI hS rfl) (aI hS rfl) bS.of (bU aN h28))),
      fun S hS => aH rfl (bD rfl rfl (aA rfl) (aS hS rfl) c26 (bP (aA rfl) (aI hS rfl) bJ)),
      fun S hS => aH rfl (bD rfl rfl (aA rfl) (aS hS rfl) c26 (bI (aA rfl) (aI hS rfl) rfl rfl)),
      fun S hS => aH rfl (aT rfl (bW (v := .d (.lit (.bool ((!decide (x27 = (-1))))))) (aA rfl) (aI hS rfl) c26 (aI hS rfl) rfl)), trivial⟩⟩
         · exact cZ (aU rfl (bB ⟨rfl, rfl, rfl, trivial⟩))
        ·have h25 := aY c26 h25
         have h25 := Option.some.inj h25
         subst h25
         refine ⟨[(60, 0, .bp b1 0 1), (61, 1, .d (.sl 1 (t_0.Slots.map aN))), (62, 2, .d (.lit (.int .i64 k_2_17))), (63, 3, .cp [.lit (.int .i64 x20)]), (64, 4, .d (.lit (.int .i64 x20))), (65, 5, .bp b1 0 1), (66, 6, .d (.sl 1 (t_0.Slots.map aN))), (67, 7, .d (.lit (.int .i64 i_0_7))), (68, 8, .cp [.lit (.int .i64 x22)]), (69, 9, .d (.lit (.int .i64 x22))), (70, 10, .d (.lit (.bool ((decide (x20 = x22)))))), (71, 11, .d (.lit (.bool ((decide (x20 = x22)))))), (72, 12, .tup []), (73, 13, .tup []), (74, 14, .tup []), (75, 15, .tup []), (76, 16, .tup []), (77, 17, .tup []), (78, 18, .d (.lit (.bool false)))], ?_, ?_⟩
         · exact ⟨by kernel_rfl, by kernel_rfl, by kernel_rfl, by kernel_rfl, by kernel_rfl, [([], []), ([0], []), ([], []), ([1, 2], []), ([3], []), ([], []), ([5], []), ([], []), ([6, 7], []), ([8], []), ([4, 9], []), ([10], []), ([11], []), ([11, 12], []), ([11], []), ([11, 13, 14], []), ([11, 15], []), ([11, 16], []), ([11, 17], [])], by kernel_rfl, ⟨fun S hS => aH rfl (aT rfl (aV (aA rfl) (aI hS rfl) dU)),
      fun S hS => aH rfl (aT rfl (aW (aA rfl) (aI hS rfl) (i := 0) rfl rfl cU)),
      fun S hS => aH rfl (aT rfl (aD (v := .d (.lit (.int .i64 k_2_17))) (aA rfl) (aI hS rfl) rfl)),
      fun S hS => aH rfl (aT rfl (bQ (aA rfl) (aI hS rfl) (aI hS rfl) bS.of (bU aN h21))),
      fun S hS => aH rfl (aT rfl (bP (aA rfl) (aI hS rfl) bJ)),
      fun S hS => aH rfl (aT rfl (aV (aA rfl) (aI hS rfl) dU)),
      fun S hS => aH rfl (aT rfl (aW (aA rfl) (aI hS rfl) (i := 0) rfl rfl cU)),
      fun S hS => aH rfl (aT rfl (aD (v := .d (.lit (.int .i64 i_0_7))) (aA rfl) (aI hS rfl) rfl)),
      fun S hS => aH rfl (aT rfl (bQ (aA rfl) (aI hS rfl) (aI hS rfl) bS.of (bU aN h23))),
      fun S hS => aH rfl (aT rfl (bP (aA rfl) (aI hS rfl) bJ)),
      fun S hS => aH rfl (aT rfl (bI (aA rfl) (aI hS rfl) (aI hS rfl) rfl)),
      fun S hS => aH rfl (aT rfl (aD (v := .d (.lit (.bool ((decide (x20 = x22)))))) (aA rfl) (aI hS rfl) rfl)),
      fun S hS => aH rfl (bG rfl rfl (aA rfl) rfl (aA rfl) (aS hS rfl) c26),
      fun S hS => aH rfl (bG rfl rfl (aA rfl) rfl (aA rfl) (aS hS rfl) c26),
      fun S hS => aH rfl (bG rfl rfl (aA rfl) rfl (aA rfl) (aS hS rfl) c26),
      fun S hS => aH rfl (bG rfl rfl (aA rfl) rfl (aA rfl) (aS hS rfl) c26),
      fun S hS => aH rfl (bG rfl rfl (aA rfl) rfl (aA rfl) (aS hS rfl) c26),
      fun S hS => aH rfl (bG rfl rfl (aA rfl) rfl (aA rfl) (aS hS rfl) c26),
      fun S hS => aH rfl (aT rfl (bX (v := .d (.lit (.bool false))) (aA rfl) (aI hS rfl) c26 rfl rfl)), trivial⟩⟩
         · exact cZ (aU rfl (bB ⟨rfl, rfl, rfl, trivial⟩))
       ·refine aF ?_
        refine bT rfl (fun c29 => ?_) (fun c29 => ?_)
        ·have h := aZ c29 h
         refine aE ?_
         refine aC ?_
         refine tr1 rfl (aJ (v := .d (.lit (.bool false))) (aA rfl) rfl rfl) ?_
         refine aF ?_
         have h := Option.some.inj h
         subst h
         refine cL (cG (cK (l := [2]) ⟨rfl, trivial⟩)) ?_
         exact bM ⟨rfl, _, .one _, rfl, rfl⟩
        ·have h := aY c29 h
         refine eF ?_
         refine aC ?_
         refine tr1 rfl (aD (v := .d (.lit (.int .i64 k_2_17))) (aA rfl) rfl rfl) ?_
         refine tr1 rfl (bO (aA rfl) rfl rfl rfl) ?_
         refine tr1 rfl (aJ (v := .d (.lit (.int .i64 ((w64 (k_2_17 + 1)))))) (aA rfl) rfl rfl) ?_
         refine aF ?_
         exact ⟨(w64 (k_2_17 + 1)), h, bF [0] rfl rfl (aU rfl (bB ⟨rfl, rfl, trivial⟩))⟩
      ·have h := aY c19 h
       refine cX ?_
       refine .inl ⟨rfl, ?_⟩
       simp only [nG] at h
       simp only [nF] at h
       refine aC ?_
       refine tr1 rfl (aD (v := .d (.lit (.int .i64 i_0_7))) (aA rfl) rfl rfl) ?_
       refine tr1 rfl (bO (aA rfl) rfl rfl rfl) ?_
       refine tr1 rfl (aJ (v := .d (.lit (.int .i64 ((w64 (i_0_7 + 1)))))) (aA rfl) rfl rfl) ?_
       refine aF ?_
       exact ⟨(w64 (i_0_7 + 1)), h, bF [0] rfl rfl (aU rfl (bB ⟨rfl, trivial⟩))⟩
   ·have h := aY c9 h
    refine cX ?_
    refine .inl ⟨rfl, ?_⟩
    simp only [nE] at h
    refine aE ?_
    refine aC ?_
    refine tr1 rfl (aJ (v := .d (.lit (.bool true))) (aA rfl) rfl rfl) ?_
    refine aF ?_
    have h := Option.some.inj h
    subst h
    refine cL (cG (cK (l := [2]) ⟨rfl, trivial⟩)) ?_
    exact bM ⟨rfl, _, .one _, rfl, rfl⟩

theorem rD (t_0 : aO) (round_1 : Int) {r : Int} (h : gK t_0 round_1 = some r) : Fn Try.prog 42 [.agg (aQ t_0), .d (.lit (.int .i64 round_1))] (.d (.lit (.int .i64 r))) := by
 unfold gK at h
 refine Fn.of_tr Try.func42 rfl (rs := [.tmp 4]) Try.results42 Try.ntmps42 (Nat.le_of_ble_eq_true rfl) ?_
 refine aE ?_
 refine aC ?_
 refine bV rfl (eH (v := .agg (aQ t_0)) (aA rfl) rfl rfl rfl) ?_
 rintro _ ⟨b1, rfl⟩
 refine tr1 rfl (aJ (v := .d (.lit (.int .i64 0))) (aA rfl) rfl rfl) ?_
 refine aF ?_
 refine aE ?_
 refine aC ?_
 refine tr1 rfl (aV (aA rfl) rfl fA) ?_
 refine tr1 rfl (aW (aA rfl) rfl (i := 0) rfl rfl bJ) ?_
 refine tr1 rfl (bO (aA rfl) rfl rfl rfl) ?_
 refine tr1 rfl (aD (v := .d (.lit (.int .i64 round_1))) (aA rfl) rfl rfl) ?_
 refine tr1 rfl (bO (aA rfl) rfl rfl rfl) ?_
 refine tr1 rfl (oW (aA rfl) rfl Try.runUnderlying3 Try.runUnderlying45) ?_
 obtain ⟨u2, h3, h⟩ := bind_some h
 refine tr1 rfl (aHj (aA rfl) rfl rfl (nN h3)) ?_
 refine tr1 rfl (aJ (v := .d (.lit (.int .i64 ((w64 (1 * 2 ^ (min (IntKind.u64.wrap (w64 ((w64 (t_0.Rounds - 1)) - round_1))).toNat 64))))))) (aA rfl) rfl rfl) ?_
 refine aF ?_
 have h := Option.some.inj h
 subst h
 refine cL (cG (cK (l := [4]) ⟨rfl, trivial⟩)) ?_
 exact bM ⟨rfl, _, .one _, rfl, rfl⟩

theorem qR (t_0 : aO) (round_1 : Int) (place_2 : Int) {r : Bool} (h : iS t_0 round_1 place_2 = some r) : Fn Try.prog 13 [.agg (aQ t_0), .d (.lit (.int .i64 round_1)), .d (.lit (.int .i64 place_2))] (.d (.lit (.bool r))) := by
 unfold iS at h
 refine Fn.of_tr Try.func13 rfl (rs := [.tmp 6]) Try.results13 Try.ntmps13 (Nat.le_of_ble_eq_true rfl) ?_
 refine aE ?_
 refine aC ?_
 refine bV rfl (eH (v := .agg (aQ t_0)) (aA rfl) rfl rfl rfl) ?_
 rintro _ ⟨b1, rfl⟩
 refine tr1 rfl (aJ (v := .d (.lit (.bool false))) (aA rfl) rfl rfl) ?_
 refine aF ?_
 refine aE ?_
 refine aC ?_
 refine tr1 rfl (aD (v := .d (.lit (.int .i64 round_1))) (aA rfl) rfl rfl) ?_
 refine tr1 rfl (aV (aA rfl) rfl fA) ?_
 refine tr1 rfl (aW (aA rfl) rfl (i := 0) rfl rfl bJ) ?_
 refine tr1 rfl (bO (aA rfl) rfl rfl rfl) ?_
 obtain ⟨r2, h3, h⟩ := bind_some h
 refine tr1 rfl (cH (aA rfl) (.func _ _ Try.call41) rfl rfl (BVs.refl _ _) (dV _ _ _ h3) rfl) ?_
 refine tr1 rfl (aD (v := .d (.lit (.bool r2))) (aA rfl) rfl rfl) ?_
 obtain ⟨b4, h5, h⟩ := bind_some h
 refine cF 7 [] 19 b4 ?_ ?_
 ·refine bN (r2) (fun c6 => ?_) (fun c6 => ?_)
  ·have h5 := aZ c6 h5
   refine aM rfl rfl (aA rfl) rfl c6 (aD (v := .d (.lit (.int .i64 place_2))) (aA rfl) rfl rfl) ?_
   refine aM rfl rfl (aA rfl) rfl c6 (bH (aA rfl) rfl (i := 0) rfl cV (es := (aQ t_0)) rfl rfl) ?_
   refine aM rfl rfl (aA rfl) rfl c6 (aD (v := .d (.lit (.int .i64 round_1))) (aA rfl) rfl rfl) ?_
   obtain ⟨r7, h8, h5⟩ := bind_some h5
   refine aM rfl rfl (aA rfl) rfl c6 (cH (aA rfl) (.func _ _ Try.call42) rfl rfl (BVs.refl _ _) (rD _ _ h8) rfl) ?_
   refine aM rfl rfl (aA rfl) rfl c6 (bO (aA rfl) rfl rfl rfl) ?_
   obtain ⟨r9, h10, h5⟩ := bind_some h5
   refine aM rfl rfl (aA rfl) rfl c6 (cH (aA rfl) (.func _ _ Try.call41) rfl rfl (BVs.refl _ _) (dV _ _ _ h10) rfl) ?_
   refine tr1 rfl (bW (v := .d (.lit (.bool r9))) (aA rfl) rfl c6 rfl rfl) ?_
   have h5 := Option.some.inj h5
   subst h5
   refine aF (bE rfl trivial rfl)
  ·have h5 := aY c6 h5
   refine aP rfl rfl (aA rfl) rfl (aA rfl) rfl c6 ?_
   refine aP rfl rfl (aA rfl) rfl (aA rfl) rfl c6 ?_
   refine aP rfl rfl (aA rfl) rfl (aA rfl) rfl c6 ?_
   refine aP rfl rfl (aA rfl) rfl (aA rfl) rfl c6 ?_
   refine aP rfl rfl (aA rfl) rfl (aA rfl) rfl c6 ?_
   refine aP rfl rfl (aA rfl) rfl (aA rfl) rfl c6 ?_
   refine tr1 rfl (bX (v := .d (.lit (.bool false))) (aA rfl) rfl c6 rfl rfl) ?_
   have h5 := Option.some.inj h5
   subst h5
   refine aF (bE rfl trivial rfl)
 ·refine tr1 rfl (aJ (v := .d (.lit (.bool b4))) (aA rfl) rfl rfl) ?_
  refine aF ?_
  have h := Option.some.inj h
  subst h
  refine cL (cG (cK (l := [6]) ⟨rfl, trivial⟩)) ?_
  exact bM ⟨rfl, _, .one _, rfl, rfl⟩

theorem wQ (t_0 : aO) (x_1 : aG) {r : Bool} (h : kT t_0 x_1 = some r) : Fn Try.prog 54 [.agg (aQ t_0), .agg (aL x_1)] (.d (.lit (.bool r))) := by
 unfold kT at h
 refine Fn.of_tr Try.func54 rfl (rs := [.tmp 4]) Try.results54 Try.ntmps54 (Nat.le_of_ble_eq_true rfl) ?_
 refine aE ?_
 refine aC ?_
 refine bV rfl (eH (v := .agg (aQ t_0)) (aA rfl) rfl rfl rfl) ?_
 rintro _ ⟨b1, rfl⟩
 refine bV rfl (eH (v := .agg (aL x_1)) (aA rfl) rfl rfl rfl) ?_
 rintro _ ⟨b2, rfl⟩
 refine tr1 rfl (aJ (v := .d (.lit (.bool false))) (aA rfl) rfl rfl) ?_
 refine aF ?_
 refine aE ?_
 refine aE ?_
 refine aC ?_
 refine tr1 rfl (aV (aA rfl) rfl mH) ?_
 refine tr1 rfl (aW (aA rfl) rfl (i := 1) rfl rfl bJ) ?_
 obtain ⟨r3, h4, h⟩ := bind_some h
 refine tr1 rfl (cH (aA rfl) (.func _ _ Try.call41) rfl rfl (BVs.refl _ _) (dV _ _ _ h4) rfl) ?_
 refine tr1 rfl (fU (aA rfl) rfl) ?_
 refine aF ?_
 refine bT rfl (fun c5 => ?_) (fun c5 => ?_)
 ·have h := aZ c5 h
  refine aE ?_
  refine aC ?_
  refine tr1 rfl (aJ (v := .d (.lit (.bool false))) (aA rfl) rfl rfl) ?_
  refine aF ?_
  have h := Option.some.inj h
  subst h
  refine cL (cG (cK (l := [4]) ⟨rfl, trivial⟩)) ?_
  exact bM ⟨rfl, _, .one _, rfl, rfl⟩
 ·have h := aY c5 h
  refine bR ?_
  refine aE ?_
  refine aE ?_
  refine aC ?_
  refine tr1 rfl (aV (aA rfl) rfl nK) ?_
  refine tr1 rfl (aW (aA rfl) rfl (i := 1) rfl rfl bJ) ?_
  refine tr1 rfl (bI (aA rfl) rfl rfl rfl) ?_
  refine aF ?_
  refine bT rfl (fun c6 => ?_) (fun c6 => ?_)
  ·have h := aZ c6 h
   refine aE ?_
   refine aC ?_
   refine tr1 rfl (aV (aA rfl) rfl lH) ?_
   refine tr1 rfl (aW (aA rfl) rfl (i := 1) rfl rfl bJ) ?_
   refine tr1 rfl (bI (aA rfl) rfl rfl rfl) ?_
   refine tr1 rfl (aD (v := .d (.lit (.bool ((decide (x_1.Round = 0)))))) (aA rfl) rfl rfl) ?_
   obtain ⟨b7, h8, h⟩ := bind_some h
   refine cF 8 [3] 23 b7 ?_ ?_
   ·refine bN (decide (x_1.Round = 0)) (fun c14 => ?_) (fun c14 => ?_)
    ·have h8 := aZ c14 h8
     refine aM rfl rfl (aA rfl) rfl c14 (aV (aA rfl) rfl iQ) ?_
     refine aM rfl rfl (aA rfl) rfl c14 (aW (aA rfl) rfl (i := 1) rfl rfl bJ) ?_
     refine aM rfl rfl (aA rfl) rfl c14 (aV (aA rfl) rfl dU) ?_
     refine aM rfl rfl (aA rfl) rfl c14 (aW (aA rfl) rfl (i := 0) rfl rfl cU) ?_
     refine aM rfl rfl (aA rfl) rfl c14 (eB (aA rfl) rfl bS.of) ?_
     refine aM rfl rfl (aA rfl) rfl c14 (bO (aA rfl) rfl rfl rfl) ?_
     obtain ⟨r15, h16, h8⟩ := bind_some h8
     refine aM rfl rfl (aA rfl) rfl c14 (cH (aA rfl) (.func _ _ Try.call41) rfl rfl (BVs.refl _ _) (dV _ _ _ h16) rfl) ?_
     refine tr1 rfl (bW (v := .d (.lit (.bool r15))) (aA rfl) rfl c14 rfl rfl) ?_
     have h8 := Option.some.inj h8
     subst h8
     refine aF (bE rfl ⟨rfl, trivial⟩ rfl)
    ·have h8 := aY c14 h8
     refine aP rfl rfl (aA rfl) rfl (aA rfl) rfl c14 ?_
     refine aP rfl rfl (aA rfl) rfl (aA rfl) rfl c14 ?_
     refine aP rfl rfl (aA rfl) rfl (aA rfl) rfl c14 ?_
     refine aP rfl rfl (aA rfl) rfl (aA rfl) rfl c14 ?_
     refine aP rfl rfl (aA rfl) rfl (aA rfl) rfl c14 ?_
     refine aP rfl rfl (aA rfl) rfl (aA rfl) rfl c14 ?_
     refine aP rfl rfl (aA rfl) rfl (aA rfl) rfl c14 ?_
     refine tr1 rfl (bX (v := .d (.lit (.bool false))) (aA rfl) rfl c14 rfl rfl) ?_
     have h8 := Option.some.inj h8
     subst h8
     refine aF (bE rfl ⟨rfl, trivial⟩ rfl)
   ·refine tr1 rfl (aD (v := .d (.lit (.bool b7))) (aA rfl) rfl rfl) ?_
    obtain ⟨b9, h10, h⟩ := bind_some h
    refine cF 4 [] 28 b9 ?_ ?_
    ·refine bN (b7) (fun c11 => ?_) (fun c11 => ?_)
     ·have h10 := aZ c11 h10
      refine aM rfl rfl (aA rfl) rfl c11 (aV (aA rfl) rfl rL) ?_
      refine aM rfl rfl (aA rfl) rfl c11 (aW (aA rfl) rfl (i := 1) rfl rfl bJ) ?_
      obtain ⟨r12, h13, h10⟩ := bind_some h10
      refine aM rfl rfl (aA rfl) rfl c11 (cH (aA rfl) (.func _ _ Try.call41) rfl rfl (BVs.refl _ _) (dV _ _ _ h13) rfl) ?_
      refine tr1 rfl (bW (v := .d (.lit (.bool r12))) (aA rfl) rfl c11 rfl rfl) ?_
      have h10 := Option.some.inj h10
      subst h10
      refine aF (bE rfl trivial rfl)
     ·have h10 := aY c11 h10
      refine aP rfl rfl (aA rfl) rfl (aA rfl) rfl c11 ?_
      refine aP rfl rfl (aA rfl) rfl (aA rfl) rfl c11 ?_
      refine aP rfl rfl (aA rfl) rfl (aA rfl) rfl c11 ?_
      refine tr1 rfl (bX (v := .d (.lit (.bool false))) (aA rfl) rfl c11 rfl rfl) ?_
      have h10 := Option.some.inj h10
      subst h10
      refine aF (bE rfl trivial rfl)
    ·refine tr1 rfl (aJ (v := .d (.lit (.bool b9))) (aA rfl) rfl rfl) ?_
     refine aF ?_
     have h := Option.some.inj h
     subst h
     refine cL (cG (cK (l := [4]) ⟨rfl, trivial⟩)) ?_
     exact bM ⟨rfl, _, .one _, rfl, rfl⟩
  ·have h := aY c6 h
   refine bR ?_
   refine aE ?_
   refine aE ?_
   refine aC ?_
   refine tr1 rfl (aV (aA rfl) rfl nK) ?_
   refine tr1 rfl (aW (aA rfl) rfl (i := 1) rfl rfl bJ) ?_
   obtain ⟨r17, h18, h⟩ := bind_some h
   refine tr1 rfl (cH (aA rfl) (.func _ _ Try.call41) rfl rfl (BVs.refl _ _) (dV _ _ _ h18) rfl) ?_
   refine tr1 rfl (fU (aA rfl) rfl) ?_
   refine tr1 rfl (aD (v := .d (.lit (.bool (!r17)))) (aA rfl) rfl rfl) ?_
   obtain ⟨b19, h20, h⟩ := bind_some h
   refine cF 8 [2, 3] 41 b19 ?_ ?_
   ·refine bN (!r17) (fun c35 => ?_) (fun c35 => ?_)
    ·have h20 := aZ c35 h20
     refine aP rfl rfl (aA rfl) rfl (aA rfl) rfl c35 ?_
     refine aP rfl rfl (aA rfl) rfl (aA rfl) rfl c35 ?_
     refine aP rfl rfl (aA rfl) rfl (aA rfl) rfl c35 ?_
     refine aP rfl rfl (aA rfl) rfl (aA rfl) rfl c35 ?_
     refine aP rfl rfl (aA rfl) rfl (aA rfl) rfl c35 ?_
     refine aP rfl rfl (aA rfl) rfl (aA rfl) rfl c35 ?_
     refine aP rfl rfl (aA rfl) rfl (aA rfl) rfl c35 ?_
     refine tr1 rfl (bW (v := .d (.lit (.bool true))) (aA rfl) rfl c35 rfl rfl) ?_
     have h20 := Option.some.inj h20
     subst h20
     refine aF (bE rfl ⟨rfl, rfl, trivial⟩ rfl)
    ·have h20 := aY c35 h20
     refine aM rfl rfl (aA rfl) rfl c35 (bH (aA rfl) rfl (i := 0) rfl cV (es := (aQ t_0)) rfl rfl) ?_
     refine aM rfl rfl (aA rfl) rfl c35 (aV (aA rfl) rfl lH) ?_
     refine aM rfl rfl (aA rfl) rfl c35 (aW (aA rfl) rfl (i := 1) rfl rfl bJ) ?_
     refine aM rfl rfl (aA rfl) rfl c35 (aV (aA rfl) rfl iQ) ?_
     refine aM rfl rfl (aA rfl) rfl c35 (aW (aA rfl) rfl (i := 1) rfl rfl bJ) ?_
     obtain ⟨r36, h37, h20⟩ := bind_some h20
     refine aM rfl rfl (aA rfl) rfl c35 (cH (aA rfl) (.func _ _ Try.call13) rfl rfl (BVs.refl _ _) (qR _ _ _ h37) rfl) ?_
     refine aM rfl rfl (aA rfl) rfl c35 (fU (aA rfl) rfl) ?_
     refine tr1 rfl (bX (v := .d (.lit (.bool (!r36)))) (aA rfl) rfl c35 rfl rfl) ?_
     have h20 := Option.some.inj h20
     subst h20
     refine aF (bE rfl ⟨rfl, rfl, trivial⟩ rfl)
   ·refine tr1 rfl (aD (v := .d (.lit (.bool b19))) (aA rfl) rfl rfl) ?_
    obtain ⟨b21, h22, h⟩ := bind_some h
    refine cF 4 [2, 3] 46 b21 ?_ ?_
    ·refine bN (b19) (fun c34 => ?_) (fun c34 => ?_)
     ·have h22 := aZ c34 h22
      refine aP rfl rfl (aA rfl) rfl (aA rfl) rfl c34 ?_
      refine aP rfl rfl (aA rfl) rfl (aA rfl) rfl c34 ?_
      refine aP rfl rfl (aA rfl) rfl (aA rfl) rfl c34 ?_
      refine tr1 rfl (bW (v := .d (.lit (.bool true))) (aA rfl) rfl c34 rfl rfl) ?_
      have h22 := Option.some.inj h22
      subst h22
      refine aF (bE rfl ⟨rfl, rfl, trivial⟩ rfl)
     ·have h22 := aY c34 h22
      refine aM rfl rfl (aA rfl) rfl c34 (aV (aA rfl) rfl rL) ?_
      refine aM rfl rfl (aA rfl) rfl c34 (aW (aA rfl) rfl (i := 1) rfl rfl bJ) ?_
      refine aM rfl rfl (aA rfl) rfl c34 (bI (aA rfl) rfl rfl rfl) ?_
      refine tr1 rfl (bX (v := .d (.lit (.bool ((!decide (x_1.Old = 0)))))) (aA rfl) rfl c34 rfl rfl) ?_
      have h22 := Option.some.inj h22
      subst h22
      refine aF (bE rfl ⟨rfl, rfl, trivial⟩ rfl)
    ·refine aF ?_
     refine bT rfl (fun c23 => ?_) (fun c23 => ?_)
     ·have h := aZ c23 h
      refine aE ?_
      refine aC ?_
      refine tr1 rfl (aJ (v := .d (.lit (.bool false))) (aA rfl) rfl rfl) ?_
      refine aF ?_
      have h := Option.some.inj h
      subst h
      refine cL (cG (cK (l := [4]) ⟨rfl, trivial⟩)) ?_
      exact bM ⟨rfl, _, .one _, rfl, rfl⟩
     ·have h := aY c23 h
      refine bR ?_
      refine aE ?_
      refine aC ?_
      refine tr1 rfl (aV (aA rfl) rfl lH) ?_
      refine tr1 rfl (aW (aA rfl) rfl (i := 1) rfl rfl bJ) ?_
      refine tr1 rfl (bI (aA rfl) rfl rfl rfl) ?_
      refine tr1 rfl (aD (v := .d (.lit (.bool ((decide (0 < x_1.Round)))))) (aA rfl) rfl rfl) ?_
      obtain ⟨b24, h25, h⟩ := bind_some h
      refine cF 20 [] 70 b24 ?_ ?_
      ·refine bN (decide (0 < x_1.Round)) (fun c26 => ?_) (fun c26 => ?_)
       ·have h25 := aZ c26 h25
        refine aP rfl rfl (aA rfl) rfl (aA rfl) rfl c26 ?_
        refine aP rfl rfl (aA rfl) rfl (aA rfl) rfl c26 ?_
        refine aP rfl rfl (aA rfl) rfl (aA rfl) rfl c26 ?_
        refine aP rfl rfl (aA rfl) rfl (aA rfl) rfl c26 ?_
        refine aP rfl rfl (aA rfl) rfl (aA rfl) rfl c26 ?_
        refine aP rfl rfl (aA rfl) rfl (aA rfl) rfl c26 ?_
        refine aP rfl rfl (aA rfl) rfl (aA rfl) rfl c26 ?_
        refine aP rfl rfl (aA rfl) rfl (aA rfl) rfl c26 ?_
        refine aP rfl rfl (aA rfl) rfl (aA rfl) rfl c26 ?_
        refine dY rfl rfl (aA rfl) rfl (aA rfl) rfl ?_
        refine dY rfl rfl (aA rfl) rfl (aA rfl) rfl ?_
        refine dY rfl rfl (aA rfl) rfl (aA rfl) rfl ?_
        refine dY rfl rfl (aA rfl) rfl (aA rfl) rfl ?_
        refine dY rfl rfl (aA rfl) rfl (aA rfl) rfl ?_
        refine dY rfl rfl (aA rfl) rfl (aA rfl) rfl ?_
        refine dY rfl rfl (aA rfl) rfl (aA rfl) rfl ?_
        refine dY rfl rfl (aA rfl) rfl (aA rfl) rfl ?_
        refine dY rfl rfl (aA rfl) rfl (aA rfl) rfl ?_
        refine aP rfl rfl (aA rfl) rfl (aA rfl) rfl c26 ?_
        refine tr1 rfl (bW (v := .d (.lit (.bool true))) (aA rfl) rfl c26 rfl rfl) ?_
        have h25 := Option.some.inj h25
        subst h25
        refine aF (bE rfl trivial rfl)
       ·have h25 := aY c26 h25
        refine aM rfl rfl (aA rfl) rfl c26 (aV (aA rfl) rfl dU) ?_
        refine aM rfl rfl (aA rfl) rfl c26 (aW (aA rfl) rfl (i := 0) rfl rfl cU) ?_
        refine aM rfl rfl (aA rfl) rfl c26 (aV (aA rfl) rfl iQ) ?_
        refine aM rfl rfl (aA rfl) rfl c26 (aW (aA rfl) rfl (i := 1) rfl rfl bJ) ?_
        refine aM rfl rfl (aA rfl) rfl c26 (bO (aA rfl) rfl rfl rfl) ?_
        obtain ⟨x27, h28, h25⟩ := bind_some h25
        refine aM rfl rfl (aA rfl) rfl c26 (bQ (aA rfl) rfl rfl bS.of (bU aN h28)) ?_
        refine aM rfl rfl (aA rfl) rfl c26 (bP (aA rfl) rfl bJ) ?_
        refine aM rfl rfl (aA rfl) rfl c26 (bI (aA rfl) rfl rfl rfl) ?_
        refine aM rfl rfl (aA rfl) rfl c26 (aD (v := .d (.lit (.bool ((!decide (x27 = (-1))))))) (aA rfl) rfl rfl) ?_
        obtain ⟨b29, h30, h25⟩ := bind_some h25
        refine cF 10 [50] 69 b29 ?_ ?_
        ·refine bN (!decide (x27 = (-1))) (fun c31 => ?_) (fun c31 => ?_)
         ·have h30 := aZ c31 h30
          refine aM rfl rfl (aA rfl) rfl c31 (aV (aA rfl) rfl dU) ?_
          refine aM rfl rfl (aA rfl) rfl c31 (aW (aA rfl) rfl (i := 0) rfl rfl cU) ?_
          refine aM rfl rfl (aA rfl) rfl c31 (aV (aA rfl) rfl iQ) ?_
          refine aM rfl rfl (aA rfl) rfl c31 (aW (aA rfl) rfl (i := 1) rfl rfl bJ) ?_
          refine aM rfl rfl (aA rfl) rfl c31 (bO (aA rfl) rfl rfl rfl) ?_
          refine aM rfl rfl (aA rfl) rfl c31 (bO (aA rfl) rfl rfl rfl) ?_
          obtain ⟨x32, h33, h30⟩ := bind_some h30
          refine aM rfl rfl (aA rfl) rfl c31 (bQ (aA rfl) rfl rfl bS.of (bU aN h33)) ?_
          refine aM rfl rfl (aA rfl) rfl c31 (bP (aA rfl) rfl bJ) ?_
          refine aM rfl rfl (aA rfl) rfl c31 (bI (aA rfl) rfl rfl rfl) ?_
          refine aM rfl rfl (aA rfl) rfl c26 (bW (v := .d (.lit (.bool ((!decide (x32 = (-1))))))) (aA rfl) rfl c31 rfl rfl) ?_
          have h30 := Option.some.inj h30
          subst h30
          refine aF (bE rfl ⟨rfl, trivial⟩ rfl)
         ·have h30 := aY c31 h30
          refine aP rfl rfl (aA rfl) rfl (aA rfl) rfl c31 ?_
          refine aP rfl rfl (aA rfl) rfl (aA rfl) rfl c31 ?_
          refine aP rfl rfl (aA rfl) rfl (aA rfl) rfl c31 ?_
          refine aP rfl rfl (aA rfl) rfl (aA rfl) rfl c31 ?_
          refine aP rfl rfl (aA rfl) rfl (aA rfl) rfl c31 ?_
          refine aP rfl rfl (aA rfl) rfl (aA rfl) rfl c31 ?_
          refine aP rfl rfl (aA rfl) rfl (aA rfl) rfl c31 ?_
          refine aP rfl rfl (aA rfl) rfl (aA rfl) rfl c31 ?_
          refine aP rfl rfl (aA rfl) rfl (aA rfl) rfl c31 ?_
          refine aM rfl rfl (aA rfl) rfl c26 (bX (v := .d (.lit (.bool false))) (aA rfl) rfl c31 rfl rfl) ?_
          have h30 := Option.some.inj h30
          subst h30
          refine aF (bE rfl ⟨rfl, trivial⟩ rfl)
        ·refine tr1 rfl (bX (v := .d (.lit (.bool b29))) (aA rfl) rfl c26 rfl rfl) ?_
         have h25 := Option.some.inj h25
         subst h25
         refine aF (bE rfl trivial rfl)
      ·refine tr1 rfl (aJ (v := .d (.lit (.bool b24))) (aA rfl) rfl rfl) ?_
       refine aF ?_
       have h := Option.some.inj h
       subst h
       refine cL (cG (cK (l := [4]) ⟨rfl, trivial⟩)) ?_
       exact bM ⟨rfl, _, .one _, rfl, rfl⟩

theorem sQ (l_0 : List aG) {r : (List aG)} (h : kL l_0 = some r) : Fn Try.prog 51 [.d (.sl 5 (l_0.map aL))] (.d (.sl 5 (r.map aL))) := by
 unfold kL at h
 refine Fn.of_tr Try.func51 rfl (rs := [.tmp 2]) Try.results51 Try.ntmps51 (Nat.le_of_ble_eq_true rfl) ?_
 refine aE ?_
 refine aC ?_
 refine tr1 rfl (qW 5 (aA rfl)) ?_
 refine aF ?_
 refine aE ?_
 refine aC ?_
 refine tr1 rfl (jK 32 5 (.inl rfl) (aA rfl)) ?_
 refine aF ?_
 refine aE ?_
 refine aE ?_
 refine aC ?_
 refine tr1 rfl (aJ (v := .d (.lit (.int .i64 0))) (aA rfl) rfl rfl) ?_
 refine aF ?_
 refine cD ?_
 refine dI [0] (fun (s2 : Int × (List aG) × Value) => [(3, .d (.lit s2.2.2)), (4, .d (.lit (.int .i64 s2.1)))]) (fun (s2 : Int × (List aG) × Value) => [.arr s2.2.2 32 5 (s2.2.1.map aL)]) (fun (k : Nat) (s2 : Int × (List aG) × Value) => dT l_0 k s2.1 s2.2.1) (fun _ => rfl) (0, ([] : List aG), (.slice none 0 0)) h (bF [0] rfl rfl (aU rfl (aU rfl (bB ⟨rfl, trivial⟩)))) ?_
 rintro k4 ⟨i_0_2, out_0_2, w3⟩ h
 simp only [dT] at h
 refine aE ?_
 refine aE ?_
 refine aC ?_
 refine tr1 rfl (aD (v := .d (.lit (.int .i64 i_0_2))) (aA rfl) rfl rfl) ?_
 refine tr1 rfl (aD (v := .d (.sl 5 (l_0.map aL))) (aA rfl) rfl rfl) ?_
 refine tr1 rfl (eB (aA rfl) rfl gT.of) ?_
 refine tr1 rfl (bI (aA rfl) rfl rfl rfl) ?_
 refine aF ?_
 refine bT rfl (fun c5 => ?_) (fun c5 => ?_)
 ·have h := aZ c5 h
  refine bR ?_
  refine aE ?_
  refine cD ?_
  refine aE ?_
  refine aC ?_
  refine tr1 rfl (aJ (v := .d (.lit (.bool false))) (aA rfl) rfl rfl) ?_
  refine aF ?_
  refine aE ?_
  refine aE ?_
  refine aC ?_
  refine tr1 rfl (aJ (v := .d (.lit (.int .i64 0))) (aA rfl) rfl rfl) ?_
  refine aF ?_
  refine cD ?_
  refine dI [0, 3, 4] (fun (s6 : Bool × Int) => [(5, .d (.lit (.bool s6.1))), (6, .d (.lit (.int .i64 s6.2)))]) (fun (s6 : Bool × Int) => [.arr w3 32 5 (out_0_2.map aL)]) (fun (k : Nat) (s6 : Bool × Int) => fX (dT l_0 k4) l_0 i_0_2 out_0_2 k s6.1 s6.2) (fun _ => rfl) (false, 0) h (bF [0] rfl rfl (aU rfl (aU rfl (bB ⟨rfl, rfl, rfl, trivial⟩)))) ?_
  rintro k7 ⟨twin_2_6, k_2_6⟩ h
  simp only [fX] at h
  refine aE ?_
  refine aE ?_
  refine aC ?_
  refine tr1 rfl (aD (v := .d (.lit (.int .i64 k_2_6))) (aA rfl) rfl rfl) ?_
  refine tr1 rfl (aD (v := .d (.lit w3)) (aA rfl) rfl rfl) ?_
  refine tr1 rfl (nO (m := 0) (aA rfl) rfl rfl gT.of) ?_
  refine tr1 rfl (bI (aA rfl) rfl rfl rfl) ?_
  refine aF ?_
  refine bT rfl (fun c8 => ?_) (fun c8 => ?_)
  ·have h := aZ c8 h
   refine bR ?_
   refine aE ?_
   refine cD ?_
   obtain ⟨b9, h10, h⟩ := bind_some h
   refine dM mix 12 [0, 3, 4, 6] [(30, .d (.lit (.bool b9)))] ?_ ?_
   ·refine bN (twin_2_6) (fun c11 => ?_) (fun c11 => ?_)
    ·have h10 := aZ c11 h10
     have h10 := Option.some.inj h10
     subst h10
     refine ⟨[(19, 0, .d (.lit (.bool twin_2_6))), (20, 1, .d (.lit (.bool twin_2_6))), (21, 2, .tup []), (22, 3, .tup []), (23, 4, .tup []), (24, 5, .tup []), (25, 6, .tup []), (26, 7, .tup []), (27, 8, .tup []), (28, 9, .tup []), (29, 10, .tup []), (30, 11, .d (.lit (.bool true)))], ?_, ?_⟩
     · exact ⟨by kernel_rfl, by kernel_rfl, by kernel_rfl, by kernel_rfl, by kernel_rfl, [([], []), ([0], []), ([1], []), ([1], []), ([1, 2, 3], []), ([1, 4], []), ([1], []), ([1], []), ([1, 6, 7], []), ([1, 8], []), ([1, 5, 9], []), ([1, 10], [])], by kernel_rfl, ⟨fun S hS => aH rfl (aT rfl (aD (v := .d (.lit (.bool twin_2_6))) (aA rfl) (aI hS rfl) rfl)),
      fun S hS => aH rfl (aT rfl (aD (v := .d (.lit (.bool twin_2_6))) (aA rfl) (aI hS rfl) rfl)),
      fun S hS => aH rfl (bG rfl rfl (aA rfl) rfl (aA rfl) (aS hS rfl) c11),
      fun S hS => aH rfl (bG rfl rfl (aA rfl) rfl (aA rfl) (aS hS rfl) c11),
      fun S hS => aH rfl (bG rfl rfl (aA rfl) rfl (aA rfl) (aS hS rfl) c11),
      fun S hS => aH rfl (bG rfl rfl (aA rfl) rfl (aA rfl) (aS hS rfl) c11),
      fun S hS => aH rfl (bG rfl rfl (aA rfl) rfl (aA rfl) (aS hS rfl) c11),
      fun S hS => aH rfl (bG rfl rfl (aA rfl) rfl (aA rfl) (aS hS rfl) c11),
      fun S hS => aH rfl (bG rfl rfl (aA rfl) rfl (aA rfl) (aS hS rfl) c11),
      fun S hS => aH rfl (bG rfl rfl (aA rfl) rfl (aA rfl) (aS hS rfl) c11),
      fun S hS => aH rfl (bG rfl rfl (aA rfl) rfl (aA rfl) (aS hS rfl) c11),
      fun S hS => aH rfl (aT rfl (bW (v := .d (.lit (.bool true))) (aA rfl) (aI hS rfl) c11 rfl rfl)), trivial⟩⟩
     · exact cZ (aU rfl (bB ⟨rfl, rfl, rfl, rfl, trivial⟩))
    ·have h10 := aY c11 h10
     obtain ⟨x12, h13, h10⟩ := bind_some h10
     obtain ⟨x14, h15, h10⟩ := bind_some h10
     have h10 := Option.some.inj h10
     subst h10
     refine ⟨[(19, 0, .d (.lit (.bool twin_2_6))), (20, 1, .d (.lit (.bool twin_2_6))), (21, 2, .d (.lit w3)), (22, 3, .d (.lit (.int .i64 k_2_6))), (23, 4, .ep w3 5 k_2_6.toNat 0), (24, 5, .agg (aL x12)), (25, 6, .d (.sl 5 (l_0.map aL))), (26, 7, .d (.lit (.int .i64 i_0_2))), (27, 8, .cp [.lit (.int .i64 x14.Kind), .lit (.int .i64 x14.Round), .lit (.int .i64 x14.Place), .lit (.int .i64 x14.Player), .lit (.int .i64 x14.Old)]), (28, 9, .agg (aL x14)), (29, 10, .d (.lit (.bool ((decide (x12 = x14)))))), (30, 11, .d (.lit (.bool ((decide (x12 = x14))))))], ?_, ?_⟩
     · exact ⟨by kernel_rfl, by kernel_rfl, by kernel_rfl, by kernel_rfl, by kernel_rfl, [([], []), ([0], []), ([1], []), ([1], []), ([1, 2, 3], []), ([1, 4], []), ([1], []), ([1], []), ([1, 6, 7], []), ([1, 8], []), ([1, 5, 9], []), ([1, 10], [])], by kernel_rfl, ⟨fun S hS => aH rfl (aT rfl (aD (v := .d (.lit (.bool twin_2_6))) (aA rfl) (aI hS rfl) rfl)),
      fun S hS => aH rfl (aT rfl (aD (v := .d (.lit (.bool twin_2_6))) (aA rfl) (aI hS rfl) rfl)),
      fun S hS => aH rfl (bD rfl rfl (aA rfl) (aS hS rfl) c11 (aD (v := .d (.lit w3)) (aA rfl) (aI hS rfl) rfl)),
      fun S hS => aH rfl (bD rfl rfl (aA rfl) (aS hS rfl) c11 (aD (v := .d (.lit (.int .i64 k_2_6))) (aA rfl) (aI hS rfl) rfl)),
      fun S hS => aH rfl (bD rfl rfl (aA rfl) (aS hS rfl) c11 (eY (m := 0) (aA rfl) (aI hS rfl) rfl (aI hS rfl) gT.of (bU aL h13))),
      fun S hS => aH rfl (bD rfl rfl (aA rfl) (aS hS rfl) c11 (aHg (aA rfl) (aI hS rfl) (l := 0) rfl (mD aL h13) jP (es := (aL x12)) rfl rfl)),
      fun S hS => aH rfl (bD rfl rfl (aA rfl) (aS hS rfl) c11 (aD (v := .d (.sl 5 (l_0.map aL))) (aA rfl) (aI hS rfl) rfl)),
      fun S hS => aH rfl (bD rfl rfl (aA rfl) (aS hS rfl) c11 (aD (v := .d (.lit (.int .i64 i_0_2))) (aA rfl) (aI hS rfl) rfl)),
      fun S hS => aH rfl (bD rfl rfl (aA rfl) (aS hS rfl) c11 (bQ (aA rfl) (aI hS rfl) (aI hS rfl) gT.of (bU aL h15))),
      fun S hS => aH rfl (bD rfl rfl (aA rfl) (aS hS rfl) c11 (jW (aA rfl) (aI hS rfl) jP (es := (aL x14)) rfl rfl)),
      fun S hS => aH rfl (bD rfl rfl (aA rfl) (aS hS rfl) c11 (uE (a := x12) (b := x14) (aA rfl) (aI hS rfl) (aI hS rfl) rfl rfl Try.eqGuardType32 aDp)),
      fun S hS => aH rfl (aT rfl (bX (v := .d (.lit (.bool ((decide (x12 = x14)))))) (aA rfl) (aI hS rfl) c11 (aI hS rfl) rfl)), trivial⟩⟩
     · exact cZ (aU rfl (bB ⟨rfl, rfl, rfl, rfl, trivial⟩))
   ·refine tr1 rfl (aJ (v := .d (.lit (.bool b9))) (aA rfl) rfl rfl) ?_
    refine eV ?_
    refine aC ?_
    refine tr1 rfl (aD (v := .d (.lit (.int .i64 k_2_6))) (aA rfl) rfl rfl) ?_
    refine tr1 rfl (bO (aA rfl) rfl rfl rfl) ?_
    refine tr1 rfl (aJ (v := .d (.lit (.int .i64 ((w64 (k_2_6 + 1)))))) (aA rfl) rfl rfl) ?_
    refine aF ?_
    exact ⟨(b9, w64 (k_2_6 + 1)), h, bF [0] rfl rfl (aU rfl (aU rfl (bB ⟨rfl, rfl, rfl, trivial⟩)))⟩
  ·have h := aY c8 h
   refine cX ?_
   refine .inl ⟨rfl, ?_⟩
   simp only [kB] at h
   refine aE ?_
   refine aC ?_
   refine tr1 rfl (aD (v := .d (.lit (.bool twin_2_6))) (aA rfl) rfl rfl) ?_
   refine tr1 rfl (fU (aA rfl) rfl) ?_
   refine aF ?_
   refine bT rfl (fun c16 => ?_) (fun c16 => ?_)
   ·have h := aZ c16 h
    refine aC ?_
    refine tr1 rfl (aD (v := .d (.lit w3)) (aA rfl) rfl rfl) ?_
    refine tr1 rfl (aD (v := .d (.sl 5 (l_0.map aL))) (aA rfl) rfl rfl) ?_
    refine tr1 rfl (aD (v := .d (.lit (.int .i64 i_0_2))) (aA rfl) rfl rfl) ?_
    obtain ⟨x17, h18, h⟩ := bind_some h
    refine tr1 rfl (bQ (aA rfl) rfl rfl gT.of (bU aL h18)) ?_
    refine tr1 rfl (jW (aA rfl) rfl jP (es := (aL x17)) rfl rfl) ?_
    refine tr1 rfl (fQ (aA rfl) gT rfl rfl (rows := ([x17]).map aL) rfl (dG (f := aL) fun _ => rfl) rfl (by decide)) ?_
    obtain ⟨x19, h20, h⟩ := bind_some h
    refine bV rfl (fZ (i := 0) (aA rfl) gT rfl rfl rfl (fun _ => rfl) h20 rfl) ?_
    rintro _ ⟨v21, rfl⟩
    refine tr1 rfl (aJ (v := .d (.lit v21)) (aA rfl) rfl rfl) ?_
    refine eV ?_
    simp only [iY] at h
    refine aC ?_
    refine tr1 rfl (aD (v := .d (.lit (.int .i64 i_0_2))) (aA rfl) rfl rfl) ?_
    refine tr1 rfl (bO (aA rfl) rfl rfl rfl) ?_
    refine tr1 rfl (aJ (v := .d (.lit (.int .i64 ((w64 (i_0_2 + 1)))))) (aA rfl) rfl rfl) ?_
    refine aF ?_
    exact ⟨(w64 (i_0_2 + 1), x19, v21), h, bF [0] rfl rfl (aU rfl (aU rfl (bB ⟨rfl, trivial⟩)))⟩
   ·have h := aY c16 h
    refine eF ?_
    simp only [iY] at h
    refine aC ?_
    refine tr1 rfl (aD (v := .d (.lit (.int .i64 i_0_2))) (aA rfl) rfl rfl) ?_
    refine tr1 rfl (bO (aA rfl) rfl rfl rfl) ?_
    refine tr1 rfl (aJ (v := .d (.lit (.int .i64 ((w64 (i_0_2 + 1)))))) (aA rfl) rfl rfl) ?_
    refine aF ?_
    exact ⟨(w64 (i_0_2 + 1), out_0_2, w3), h, bF [0] rfl rfl (aU rfl (aU rfl (bB ⟨rfl, trivial⟩)))⟩
 ·have h := aY c5 h
  refine cX ?_
  refine .inl ⟨rfl, ?_⟩
  simp only [oQ] at h
  refine aE ?_
  refine aC ?_
  refine tr1 rfl (aD (v := .d (.lit w3)) (aA rfl) rfl rfl) ?_
  refine tr1 rfl (aJ (v := .d (.lit w3)) (aA rfl) rfl rfl) ?_
  refine aF ?_
  have h := Option.some.inj h
  subst h
  refine cL (cG (sZ (k := 2) (v := .d (.sl 5 (out_0_2.map aL))) (.d (mA 0 rfl (dG (f := aL) fun _ => rfl))) (aBi))) ?_
  exact bM ⟨rfl, _, .one _, rfl, rfl⟩

theorem aAj (l_0 : List Int) (n_1 : Int) {r : Bool} (h : nT l_0 n_1 = some r) : Fn Try.prog 52 [.d (.sl 1 (l_0.map aN)), .d (.lit (.int .i64 n_1))] (.d (.lit (.bool r))) := by
 unfold nT at h
 refine Fn.of_tr Try.func52 rfl (rs := [.tmp 4]) Try.results52 Try.ntmps52 (Nat.le_of_ble_eq_true rfl) ?_
 refine aE ?_
 refine aC ?_
 refine tr1 rfl (aJ (v := .d (.lit (.bool false))) (aA rfl) rfl rfl) ?_
 refine aF ?_
 refine aE ?_
 refine aE ?_
 refine aC ?_
 refine tr1 rfl (aJ (v := .d (.lit (.int .i64 0))) (aA rfl) rfl rfl) ?_
 refine aF ?_
 refine cD ?_
 refine dI [0, 1] (fun (s1 : Int) => [(5, .d (.lit (.int .i64 s1)))]) (fun (s1 : Int) => []) (fun (k : Nat) (s1 : Int) => iP l_0 n_1 k s1) (fun _ => rfl) (0) h (bF [] rfl rfl (aU rfl (bB ⟨rfl, rfl, trivial⟩))) ?_
 rintro k2 i_0_1 h
 simp only [iP] at h
 refine aE ?_
 refine aE ?_
 refine aC ?_
 refine tr1 rfl (aD (v := .d (.lit (.int .i64 i_0_1))) (aA rfl) rfl rfl) ?_
 refine tr1 rfl (aD (v := .d (.sl 1 (l_0.map aN))) (aA rfl) rfl rfl) ?_
 refine tr1 rfl (eB (aA rfl) rfl bS.of) ?_
 refine tr1 rfl (bI (aA rfl) rfl rfl rfl) ?_
 refine aF ?_
 refine bT rfl (fun c3 => ?_) (fun c3 => ?_)
 ·have h := aZ c3 h
  refine bR ?_
  refine aE ?_
  refine cD ?_
  refine aE ?_
  refine aC ?_
  refine tr1 rfl (aD (v := .d (.sl 1 (l_0.map aN))) (aA rfl) rfl rfl) ?_
  refine tr1 rfl (aD (v := .d (.lit (.int .i64 i_0_1))) (aA rfl) rfl rfl) ?_
  obtain ⟨x4, h5, h⟩ := bind_some h
  refine tr1 rfl (bQ (aA rfl) rfl rfl bS.of (bU aN h5)) ?_
  refine tr1 rfl (bP (aA rfl) rfl bJ) ?_
  refine tr1 rfl (aD (v := .d (.lit (.int .i64 n_1))) (aA rfl) rfl rfl) ?_
  refine tr1 rfl (bI (aA rfl) rfl rfl rfl) ?_
  refine aF ?_
  refine bT rfl (fun c6 => ?_) (fun c6 => ?_)
  ·have h := aZ c6 h
   refine aE ?_
   refine aC ?_
   refine tr1 rfl (aJ (v := .d (.lit (.bool true))) (aA rfl) rfl rfl) ?_
   refine aF ?_
   have h := Option.some.inj h
   subst h
   exact bM ⟨rfl, _, .one _, rfl, rfl⟩
  ·have h := aY c6 h
   refine eF ?_
   refine aC ?_
   refine tr1 rfl (aD (v := .d (.lit (.int .i64 i_0_1))) (aA rfl) rfl rfl) ?_
   refine tr1 rfl (bO (aA rfl) rfl rfl rfl) ?_
   refine tr1 rfl (aJ (v := .d (.lit (.int .i64 ((w64 (i_0_1 + 1)))))) (aA rfl) rfl rfl) ?_
   refine aF ?_
   exact ⟨(w64 (i_0_1 + 1)), h, bF [] rfl rfl (aU rfl (bB ⟨rfl, rfl, trivial⟩))⟩
 ·have h := aY c3 h
  refine cX ?_
  refine .inl ⟨rfl, ?_⟩
  simp only [pW] at h
  refine aE ?_
  refine aC ?_
  refine tr1 rfl (aJ (v := .d (.lit (.bool false))) (aA rfl) rfl rfl) ?_
  refine aF ?_
  have h := Option.some.inj h
  subst h
  exact bM ⟨rfl, _, .one _, rfl, rfl⟩

end Go.Am
